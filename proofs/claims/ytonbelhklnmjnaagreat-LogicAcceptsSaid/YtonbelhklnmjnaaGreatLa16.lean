/-
  A PART OF THE PROOF. Conditions: none.
-/
import Derived.Test.YtonbelhklnmjnaaGreatLa15
set_option linter.unusedSimpArgs false
set_option linter.unusedVariables false
namespace Go.Proofs.YtonbelhklnmjnaaGreat
theorem Ds(l:List Tm)(hl:l.length<=1000000)(hf:∀t∈l,t.fits)(o:Nat->ae)(nx:Nat)(hg:Good o nx)(K X:V->(Nat->ae)->Nat->Prop)
 (hK:acX (fun m=>m=(l.flatMap iV).foldl (eo 1) []) o nx K):cU Tryz.prog 189 [.d (.sl (l.map Tm.d))] o nx K X:=by
 refine cU.ay mix SC au ?_
 rw[Ww]
 refine Tz ?_
 let Hm:List (Int×Int)->Nat->ae:=fun m=>aK (aK o (nx+2) (.row [.mp (nx+1)])) (nx+1) (rz m)
 have hgm:∀m,Good (Hm m) (nx+7):=fun m=>((hg.mono ad).aK ad fH).aK ad rfl
 have Ur:∀m,Hm m (nx+1)=rz m:=fun m=>ab _ _ _
 have NF:∀m,Hm m (nx+2)= .row [.mp (nx+1)]:=fun m=>by show aK _ (nx+1) _ (nx+2)=_;rw[aj _ _ _ _ (by omega),ab]
 have xF:∀m j,j≠nx+1->Hm m j=Hm [] j:=fun m j h=>by show aK _ (nx+1) _ j=aK _ (nx+1) _ j;rw[aj _ _ _ _ h,aj _ _ _ _ h]
 refine aE (fun i:Nat×List (Int×Int)=>⟨bz [.aa, .aa, .aa, .ptr (nx+2) 0, .aa, .aa, .aa, .aa, .d (.sl (l.map Tm.d)), .d (.i l.length), .d (.i i.1)],Hm i.2,nx+7⟩)
  (fun i=>i.1<=l.length/\i.2=((l.take i.1).flatMap iV).foldl (eo 1) []) (fun i=>l.length - i.1) (0,[]) ⟨Nat.zero_le _,rfl⟩ (bE.bS _ (show nx<=nx+7 from ad) ad (hgm _) (fun j hj=> ?_) ?_) ?_
 ·show _=aK (aK o (nx+2) (.row [.mp (nx+1)])) (nx+1) (rz []) j
  exact rY
 ·exact cz
 rintro⟨k,m⟩ ⟨hk,hm⟩
 simp only at hk hm
 refine aG ?_
 refine aq (fun h2=> ?_) (fun h2=> ?_)
 ·simp at h2
  obtain⟨x,hx⟩:=aw h2
  have cw:=List.mem_of_getElem? hx
  have lh:((l.take (k+1)).flatMap iV).foldl (eo 1) []=(iV x).foldl (eo 1) m:=by
   rw[List.take_add_one,hx,hm];simp
  have ae5:=hgm m
  have e1:=Ur m
  have e2:=NF m
  have e3:=xF m
  clear_value Hm
  refine BD hx ?_
  refine c6 (zg x _ _ _ _ ?_)
  refine iP ?_
  let G:List (Int×Int)->Nat->ae:=fun s=>aK (aK (aK (Hm m) (nx+10) (.row x.row)) (nx+13) (.row x.row)) (nx+1) (rz s)
  have hG:∀j,j<nx+17->aK (aK (aK (Hm m) (nx+10) (.row [.d (.int .i64 0), .d (.int .i64 0), .bT])) (nx+10) (.row [.d (.i x.op), .d (.i x.n), .d (.sl (x.kids.map Tm.d))])) (nx+13) (.row x.row) j=G m j:=by
   intro j _
   show _=aK (aK (aK (Hm m) (nx+10) (.row x.row)) (nx+13) (.row x.row)) (nx+1) (rz m) j
   by_cases e:j=nx+1
   ·subst e;(repeat(first|rfl|rw[ab]|rw[aj _ _ _ _ (by omega)]))
    exact e1
   ·rw[aj _ (nx+1) _ _ e,iG]
  have gm:∀s,G s (nx+1)=rz s:=fun s=>ab _ _ _
  have g2:∀s,G s (nx+2)= .row [.mp (nx+1)]:=fun s=>by
   show aK _ (nx+1) _ (nx+2)=_
   rw[aj _ _ _ _ (by omega),aj _ _ _ _ (by omega),aj _ _ _ _ (by omega)];exact e2
  have g3:∀s s' j,j≠nx+1->G s j=G s' j:=fun s s' j h=>by show aK _ (nx+1) _ j=aK _ (nx+1) _ j;rw[aj _ _ _ _ h,aj _ _ _ _ h]
  have g4:∀s j,j<nx+7->j≠nx+1->G s j=Hm m j:=fun s j h h'=>by
   show aK _ (nx+1) _ j=_
   rw[aj _ _ _ _ h',aj _ _ _ _ (by omega),aj _ _ _ _ (by omega)]
  clear_value G
  have hg:=ae5
  refine ry (σ:=List (Int×Int)) x (hf x cw) [.aa, .aa, .aa, .ptr (nx+2) 0, .aa, .aa, .aa, .aa, .d (.sl (l.map Tm.d)), .d (.i l.length), .d (.i k)] ?_ aT rfl dp mc (ab _ _ _)
   G (fun _=>none) (eo 1) (fun _=>True) m trivial rfl hG (fun _ _ _ _ _ _=>trivial) ?_ ?_
  ·exact Hu
  ·intro L hL uW y hy s' _ _ o3 n3 hI hn JT K' X' cO
   simp only[m8]
   have hg:=hI.bU
   have hle:=hI.le
   have q1:o3 (nx+2)= .row [.mp (nx+1)]:=by rw[hI.eq (nx+2) (by omega),g2]
   have q2:o3 (nx+1)=rz s':=by rw[hI.eq (nx+1) (by omega),gm]
   have z1:nx≠n3:=ad
   have z2:∀k,nx≠n3+k:=fun k=>ad
   have z3:nx+2≠n3:=ad
   have z4:nx+1≠n3:=ad
   have same:∀ (o':Nat->ae) (n':Nat) (l:List (Int×Int)),Good o' n'->n3<=n'->(∀j,j<nx+17->o' j=aK o3 (nx+1) (rz l) j)->cW (nx+17) (G l) o' n':=fun o' n' l k1 k2 k3=>⟨k1,ad,fun j hj=>by
    rw[k3 j hj]
    by_cases e:j=nx+1
    ·subst e;rw[ab,gm]
    ·rw[aj _ _ _ _ e,hI.eq j hj];exact g3 _ _ _ e⟩
   refine aG ?_
   refine l0 hL (pd:=none) ?_ ?_
   ·(repeat(first|rfl|rw[ab]|rw[aj _ _ _ _ (by omega)]))
    exact JT
   refine s9 q1 q2 ?_
   refine aq (fun h3=> ?_) (fun h3=> ?_)
   ·have sx:y.op=1:=by simpa using h3
    have hp:eo 1 s' y=uo s' y.n:=by unfold eo;rw[if_pos sx]
    rw[hp]at cO
    cases PS:lk s' y.n with
    |none=>
     have hc:uo s' y.n=lI s' y.n (0+1):=by unfold uo ir;rw[PS];rfl
     rw[hc]at cO
     simp+contextual (disch:=first|omega|simp only[go_sem,false_implies]) only[go_sem,wrap64,if_pos,q1,q2,z1,z2,z3,z4,mJ PS,l5,Nat.add_assoc,Nat.left_eq_add,Nat.add_eq_left,Nat.add_left_cancel_iff]
     refine cO _ _ _ .busy none ad (same _ _ _ dp ad fun j hj=> ?_) cY (fun j h3 h4=>by(repeat(first|rfl|rw[ab]|rw[aj _ _ _ _ (by omega)])))
     by_cases e:j=nx+1
     ·subst e;(repeat(first|rfl|rw[ab]|rw[aj _ _ _ _ (by omega)]))
     ·exact cY
    |some c=>
     obtain⟨q,hq⟩:=mI PS
     have hc:uo s' y.n=lI s' y.n (IntKind.i64.wrap (c+1)):=by unfold uo ir;rw[PS];rfl
     rw[hc]at cO
     simp+contextual (disch:=first|omega|simp only[go_sem,false_implies]) only[go_sem,wrap64,if_pos,q1,q2,z1,z2,z3,z4,hq,l5,Nat.add_assoc,Nat.left_eq_add,Nat.add_eq_left,Nat.add_left_cancel_iff]
     refine cO _ _ _ .busy none ad (same _ _ _ dp ad fun j hj=> ?_) cY (fun j h3 h4=>by(repeat(first|rfl|rw[ab]|rw[aj _ _ _ _ (by omega)])))
     by_cases e:j=nx+1
     ·subst e;(repeat(first|rfl|rw[ab]|rw[aj _ _ _ _ (by omega)]))
     ·exact cY
   ·have hp:eo 1 s' y=s':=by unfold eo;rw[if_neg (by simpa using h3)]
    rw[hp]at cO
    refine aG ?_
    refine cO _ _ _ .busy none ad (same _ _ _ dp ad fun j hj=> ?_) cY (fun j h3 h4=>by(repeat(first|rfl|rw[ab]|rw[aj _ _ _ _ (by omega)])))
    by_cases e:j=nx+1
    ·subst e;(repeat(first|rfl|rw[ab]|rw[aj _ _ _ _ (by omega)]))
     exact q2
    ·exact cY
  ·intro o' n' hI
   have hle:=hI.le
   simp only[oW]
   have BA:∀ (l:List Tm) (m:List (Int×Int)),(aA (A5 (fun _=>none) (eo 1)) m l).1=l.foldl (eo 1) m:=by
    intro l
    induction l with
    |nil=>intro m;rfl
    |cons y l ih=>intro m;simp only[aA,A5,Option.isNone_none,if_true];exact ih _
   rw[BA]at hI
   refine aG ?_
   refine ax (k+1,(iV x).foldl (eo 1) m) ⟨h2,lh.symm⟩ mX (bE.bS _ (show nx<=nx+7 from ad) ad (hgm _) (fun j hj=> ?_) ?_)
   ·rw[hI.eq j (by omega)]
    by_cases e:j=nx+1
    ·subst e;rw[gm,Ur]
    ·rw[g4 _ _ hj e,e3 j e];exact(xF _ j e).symm
   ·exact cz
 ·simp at h2
  rw[List.take_of_length_le h2]at hm
  refine cg NF ?_
  exact hK _ _ _ _ ad ad ((hgm _).mono ad) (fun j hj=>by show aK _ (nx+1) _ j=_;rw[aj _ _ _ _ (by omega),aj _ _ _ _ (by omega)]) (Ur m) hm
end Go.Proofs.YtonbelhklnmjnaaGreat
namespace Go.Proofs.YtonbelhklnmjnaaGreat
section
variable {B:Nat->Prop}{w:World}
end
theorem aR.tL {P:Program}{f:FuncId}{ds:List D}{out:D}(h:cU P f (ds.map .d) (fun _=> .no) 0 (fun v o _=>∃x,eu o v=some x/\∀B w val,D.den B w x val->D.den B w out val) (fun _ _ _=>False)):aR P f ds (.ret [out]):=by
 refine⟨h.1,fun M w vals hM hd=> ?_⟩
 let cZ:Place:=fun _=> .nilFunc
 have xI:∀b, ¬du cZ (hp (fun _=> .no) 0) b:=by rintro b ⟨id,hl,_⟩;simp[hp,ae.live]at hl
 refine(h.2 M cZ w vals (lV cZ hM) ((V.cM _ _).2 (D.bg (w:=w) (w':=w) (B:=M) (fun b _ hB=>⟨rfl,fun h=>h.elim hB (xI b)⟩) _ _ hd))).mono ?_
 rintro e w' ⟨aS,o',nx',v,k1,k2,k3⟩
 have yx:eO (fun _=>False) w w':=⟨k2.cJ.os,k2.cJ.tape,k2.cJ.output,k2.cJ.size,fun k hk _=>k2.cJ.block k hk (xI k)⟩
 refine⟨yx, ?_⟩
 cases e with
 |outgrown=>exact k3.elim
 |panicked ch=>obtain⟨_,_,_,h⟩:=k3;exact h.elim
 |returned val=>
  obtain⟨g1,x,g2,g3⟩:=k3
  obtain⟨f1,f2,f3,f4,f5⟩:=dH k1 v.ids (fun id aC=>dC v val g1 id aC)
  have h3:=gE f1 (o:=o') v x val (fun id aC=>f3 id aC) g2 (V.aX f2 _ _ g1)
  exact g3 _ _ _ (D.aX (w:=w') (w':=w') (fun k _ hB=>⟨rfl,fun hM=>hB (.inl hM)⟩) x val h3)
end Go.Proofs.YtonbelhklnmjnaaGreat
namespace Go.Proofs.YtonbelhklnmjnaaGreat
@[reducible] def Mj (m:List (Int×Int)):D:= .mp ((enc (D.int .i64) (ints m)).map (·.1)) ((enc (D.int .i64) (ints m)).map (·.2))
theorem uw(m:List (Int×Int)):(((enc (D.int .i64) (ints m)).map (·.1)).zip ((enc (D.int .i64) (ints m)).map (·.2)))=enc (D.int .i64) (ints m):=PG _ _
def et(op:Int)(l:List Tm):List (Int×Int):=(l.flatMap iV).foldl (eo op) []
theorem Xr(t:Tm)(ht:t.fits):aR Tryz.prog 190 [t.d] (.ret [Mj (et 8 [t])]):=by
 refine aR.tL (Xq t ht _ _ dp _ _ fun o' nx' id m _ _ _ _ ho hm=> ?_)
 refine⟨_,by simp only[eu,ho];rfl,fun B w val h=> ?_⟩
 have e:m=et 8 [t]:=by rw[hm];simp[et]
 rw[<- e];exact h
theorem tM(l:List Tm)(hl:l.length<=1000000)(hf:∀t∈l,t.fits):aR Tryz.prog 189 [.sl (l.map Tm.d)] (.ret [Mj (et 1 l)]):=by
 refine aR.tL (Ds l hl hf _ _ dp _ _ fun o' nx' id m _ _ _ _ ho hm=> ?_)
 refine⟨_,by simp only[eu,ho];rfl,fun B w val h=> ?_⟩
 have e:m=et 1 l:=hm
 rw[<- e];exact h
theorem zP(o:Nat->ae)(m:List (Int×Int))(v:Int):jr Tryz.prog o 176 (.d (Mj m)) (.d (.int .i64 v)) false=some (.d (.i (ir m v)),[],[]):=by
 cases h:lk m v with
 |none=>
  have e:ir m v=0:=by unfold ir;rw[h];rfl
  rw[e]
  simp+contextual (disch:=first|omega|simp only[go_sem,false_implies]) only[go_sem,wrap64,if_pos,uw,mJ h]
 |some c=>
  have e:ir m v=c:=by unfold ir;rw[h];rfl
  obtain⟨j,hj⟩:=mI h
  rw[e]
  simp+contextual (disch:=first|omega|simp only[go_sem,false_implies]) only[go_sem,wrap64,if_pos,uw,hj]
theorem Fq(l:List Int)(hl:l.length<=1000000)(o:Nat->ae)(fr:Nat):yz Tryz.prog 233 [.d (.sl (l.map .i))] [] o fr (.osl fr 0) [(fr, .arr 0 3 1 (l.map .i))]:=by
 refine yz.E6 (ds:=[.sl (l.map .i)]) ?_
 refine cU.ay mix SZ au ?_
 rw[WU]
 have hu:Tryz.prog.underlying 41=some (.slice 3):=ah
 cases l with
 |nil=>
  have heq:∀O,qx Tryz.prog O 41 true (.d (.sl [])) .bT=some .fm:=by
   intro O
   unfold qx
   rw[hu]
   rfl
  simp only[List.map_cons,List.map_nil]
  refine cg heq ?_
  simp only[List.isEmpty_nil,if_true]
  refine cg heq ?_
  exact .inl ⟨3,1,rfl,ab _ _ _⟩
 |cons a l=>
  have heq:∀O,qx Tryz.prog O 41 true (.d (.sl (D.i a::l.map D.i))) .bT=some (.d (.bool false)):=by
   intro O
   unfold qx
   rw[hu]
   rfl
  simp only[List.map_cons,List.map_nil]
  refine cg heq ?_
  simp only[List.isEmpty_nil,if_true]
  refine cg heq ?_
  rw[List.length_cons]at hl
  rw[if_pos (by omega)]
  refine aG ?_
  exact .inl ⟨3,1,rfl,ab _ _ _⟩
def Xs:List Int->Int->Int->Int
 |[],_,_=> -1
 |x::l,v,k=>if v=x then k else Xs l v (k+1)
theorem Mk:∀ (l:List Int) (v k:Int),0<=k->(decide (0<=Xs l v k)=l.contains v)
 |[],v,k,_=>rfl
 |x::l,v,k,hk=>by
  have ih:=Mk l v (k+1) ad
  unfold Xs
  by_cases h:v=x
  ·rw[if_pos h];subst h;simp[hk]
  ·rw[if_neg h,ih];simp[List.contains_cons,h]
theorem Ml(l:List Int)(hl:l.length<=1000000)(v:Int):aR Tryz.prog 259 [.sl (l.map .i), .i v] (.ret [.i (Xs l v 0)]):=by
 refine aR.ay mix Tf au ?_
 rw[W9]
 refine fT ?_
 refine aE (fun k:Nat=>⟨bz [.d (.sl (l.map .i)), .d (.i v), .aa, .aa, .aa, .aa, .aa, .d (.i l.length), .d (.i k)],fun _=> .no,1⟩)
  (fun k=>k<=l.length/\Xs l v 0=Xs (l.drop k) v k) (fun k=>l.length - k) 0 ⟨Nat.zero_le _,rfl⟩ (bE.bS _ (show 0<=1 from ad) ad dp (fun _ _=>rfl) ?_) (fun k hk=> ?_)
 ·exact cz
 obtain⟨hk,sr⟩:=hk
 refine aG ?_
 refine aq (fun h2=> ?_) (fun h2=> ?_)
 ·simp at h2
  obtain⟨x,hx⟩:=aw h2
  have hd:l.drop k=x::l.drop (k+1):=by
   obtain⟨g1,g2⟩:=List.getElem?_eq_some_iff.1 hx
   exact T1
  rw[hd]at sr
  simp only[Xs]at sr
  refine cg hx ?_
  refine aq (fun h3=> ?_) (fun h3=> ?_)
  ·have sx:v=x:=by simpa using h3
   rw[if_pos sx]at sr
   refine aG ?_
   rw[sr]
  ·have sx: ¬v=x:=by simpa using h3
   rw[if_neg sx]at sr
   refine aG ?_
   refine ax (k+1) ⟨h2,sr⟩ ad (bE.bS _ (show 0<=1 from ad) ad dp (fun _ _=>rfl) ?_)
   exact cz
 ·simp at h2
  rw[List.drop_eq_nil_of_le h2]at sr
  refine aG ?_
  rw[sr];rfl
theorem Dt(l:List Int)(hl:l.length<=1000000)(v:Int):aR Tryz.prog 232 [.sl (l.map .i), .i v] (.ret [.bool (l.contains v)]):=by
 refine aR.ay mix SY au ?_
 rw[WT]
 refine aG ?_
 refine ag (Ml l hl v) rfl ?_
 refine aG ?_
 rw[Mk l v 0 (by omega)]
mutual
def A7(m:List (Int×Int)):Tm->List Int->Bool
 | .mk op n kids,oJ=>if op=1 then(ir m n==0||oJ.contains n)else rA m op n kids 0 oJ
def rA(m:List (Int×Int))(op n:Int):List Tm->Nat->List Int->Bool
 |[],_,_=>true
 |k::l,i,oJ=>A7 m k (if op=8/\i=1 then oJ++[n]else oJ)&&rA m op n l (i+1) oJ
end
theorem GX(m:List (Int×Int))(t:Tm)(oJ:List Int):A7 m t oJ=if t.op=1 then(ir m t.n==0||oJ.contains t.n)else rA m t.op t.n t.kids 0 oJ:=by cases t;rw[A7];rfl
theorem Mm(m:List (Int×Int)):∀t:Tm,t.fits->∀oJ:List Int,oJ.length+t.iE<=1000000->aR Tryz.prog 191 [t.d,Mj m, .sl (oJ.map .i)] (.ret [.bool (A7 m t oJ)]):=by
 refine Tm.cB fun t ih hf oJ hb=> ?_
 have fy:=(Tm.aJ _).1 hf
 refine aR.ay mix SE au ?_
 rw[Wy,GX]
 by_cases h1:t.op=1
 ·have bJ:(t.op==1)=true:=by simpa using h1
  rw[if_pos h1]
  cases hc:(ir m t.n==0)with
  |true=>
   simp+contextual (disch:=first|omega|simp only[go_sem,false_implies]) only[go_sem,wrap64,if_pos,bJ,zP,hc]
  |false=>
   simp+contextual (disch:=first|omega|simp only[go_sem,false_implies]) only[go_sem,wrap64,if_pos,bJ,zP,hc]
   refine ag (Dt oJ ad t.n) rfl ?_
   exact uU hc
 ·have bJ:(t.op==1)=false:=by simpa using h1
  rw[if_neg h1]
  refine dn bJ ?_
  refine aE (fun k:Nat=>⟨bz [.aa, .d (Mj m), .d (.sl (oJ.map .i)), .ptr 0 0, .aa, .aa, .aa, .aa, .aa, .aa, .aa, .aa, .aa, .aa, .aa, .aa, .aa, .aa, .aa, .aa, .aa, .aa, .aa, .aa, .aa, .d (.sl (t.kids.map Tm.d)), .d (.i t.kids.length), .d (.i k)],aK (fun _=> .no) 0 (.row [.d (.i t.op), .d (.i t.n), .d (.sl (t.kids.map Tm.d))]),1⟩)
   (fun k=>k<=t.kids.length/\rA m t.op t.n t.kids 0 oJ=rA m t.op t.n (t.kids.drop k) k oJ) (fun k=>t.kids.length - k) 0 ⟨Nat.zero_le _,rfl⟩ (bE.bS _ (show 0<=1 from ad) ad dp (fun _ _=>rfl) ?_) (fun k hk=> ?_)
  ·exact cz
  obtain⟨hk,sr⟩:=hk
  have rT:=fy.1
  refine aG ?_
  refine aq (fun h2=> ?_) (fun h2=> ?_)
  ·simp at h2
   obtain⟨x,hx⟩:=aw h2
   have cw:=List.mem_of_getElem? hx
   have hd:t.kids.drop k=x::t.kids.drop (k+1):=by
    obtain⟨g1,g2⟩:=List.getElem?_eq_some_iff.1 hx
    exact T1
   have hh:=Tm.rh cw
   rw[hd]at sr
   simp only[rA]at sr
   refine cg hx ?_
   refine aq (fun h3=> ?_) (fun h3=> ?_)
   ·have sx:t.op=8/\k=1:=by
     simp at h3
     exact⟨h3.1,ad⟩
    rw[if_pos sx]at sr
    refine aG ?_
    refine yL rfl (Fq oJ ad _ _) ?_
    refine aG ?_
    refine ai aT ?_
    refine aG ?_
    have e:List.map D.i oJ++[D.i t.n]=(oJ++[t.n]).map D.i:=au
    rw[e]
    refine ag (ih x cw (fy.2 x cw) (oJ++[t.n]) BH) rfl ?_
    refine aG ?_
    cases hs:A7 m x (oJ++[t.n])with
    |false=>
     rw[hs,Bool.false_and]at sr
     refine cg hs ?_
     rw[sr]
    |true=>
     rw[hs,Bool.true_and]at sr
     refine cg hs ?_
     refine ax (k+1) ⟨h2,sr⟩ ad (bE.bS _ (show 0<=1 from ad) ad dp (fun j hj=>by(repeat(first|rfl|rw[ab]|rw[aj _ _ _ _ (by omega)]))) ?_)
     exact cz
   ·have sx: ¬ (t.op=8/\k=1):=by
     simp at h3
     intro⟨h4,h5⟩
     exact h3 h4 ad
    rw[if_neg sx]at sr
    refine aG ?_
    refine ag (ih x cw (fy.2 x cw) oJ ad) rfl ?_
    refine aG ?_
    cases hs:A7 m x oJ with
    |false=>
     rw[hs,Bool.false_and]at sr
     refine cg hs ?_
     rw[sr]
    |true=>
     rw[hs,Bool.true_and]at sr
     refine cg hs ?_
     refine ax (k+1) ⟨h2,sr⟩ ad (bE.bS _ (show 0<=1 from ad) ad dp (fun j hj=>by(repeat(first|rfl|rw[ab]|rw[aj _ _ _ _ (by omega)]))) ?_)
     exact cz
  ·simp at h2
   rw[List.drop_eq_nil_of_le h2]at sr
   refine aG ?_
   rw[sr];rfl
mutual
def sU(v:Int):Tm->Bool
 | .mk op n kids=>if op=1 then n==v else iu v op n kids 0
def iu(v op n:Int):List Tm->Nat->Bool
 |[],_=>false
 |k::l,i=>(sU v k&& !(op==8&&i==1&&n==v))||iu v op n l (i+1)
end
theorem gV(v:Int)(t:Tm):sU v t=if t.op=1 then t.n==v else iu v t.op t.n t.kids 0:=by cases t;rfl
@[reducible] def uq (l:List Int):ae:= .map 3 4 (enc (D.int .i64) (iJ l))
def ae6(id:Nat)(Q:List Int->Prop)(o:Nat->ae)(nx:Nat)(K:V->(Nat->ae)->Nat->Prop):Prop:=
 ∀o' nx' l',nx<=nx'->Good o' nx'->(∀j,j<nx->j≠id->o' j=o j)->o' id=uq l'->Q l'->K (.cA []) o' nx'
theorem Fs{b nx id it n0:Nat}{Q:fG->S->Prop}{e:Nat->V}{o:Nat->ae}{ks n k:D}(own s:List Int)(hg:Good o nx)(aC:o id=uq s)(ZF:o it= .nq (enc (D.int .i64) (iJ own)) none)(hb:b<=nx)(hs:s.Nodup)(hn0:n0<nx)
 (he:kD nx e [.mp id, .aa, .aa, .ptr n0 0, .aa, .aa, .aa, .aa, .aa, .aa, .aa, .aa, .aa, .aa, .aa, .d ks, .d n, .d k, .aa, .aa, .aa, .aa, .aa, .aa, .aa, .aa, .aa, .aa, .aa, .aa, .aa, .aa, .aa, .aa, .aa, .aa, .aa, .ptr it 0] 0)
 (hQ:∀e' o' nx' s',e' 0= .mp id->e' 3= .ptr n0 0->e' 15= .d ks->e' 16= .d n->e' 17= .d k->nx<=nx'->Good o' nx'->(∀j,j<nx->j≠id->j≠it->o' j=o j)->o' id=uq s'->s'.Nodup->(∀v,v∈s'↔v∈s\/v∈own)->Q (.exit 2) ⟨e',o',nx'⟩):
 rb b (fun Q s=>kS Tryz.prog 45 b false (.seq (.af [⟨some 38, .next (.tmp 37) false,none⟩,⟨some 39, .extract (.tmp 38) 0,none⟩]) (.seq (.cond (.tmp 39) .skip (.exit 2)) (.block 3 (.seq (.af [⟨some 40, .entry (.tmp 37),none⟩,⟨some 41, .extract (.tmp 40) 0,none⟩,⟨some 7, .assign (.tmp 41),none⟩]) (.af [⟨some 42, .move (.tmp 0),none⟩,⟨some 43, .move (.tmp 7),none⟩,⟨none, .mapUpdate 141 (.tmp 42) (.tmp 43) (.const (.bool true)),none⟩]))))) Q s) Q ⟨e,o,nx⟩:=by
 have h1:id<nx:=hg.lt (by rw[aC];exact ae.noConfusion)
 have h2:it<nx:=hg.lt (by rw[ZF];exact ae.noConfusion)
 have h3:id≠it:=fun h=>by rw[h,ZF]at aC;cases aC
 have h4:it≠id:=fun h=>h3 h.symm
 refine aE (fun i:List Int×List Int×Option (D×D)=>⟨bz [.mp id, .aa, .aa, .ptr n0 0, .aa, .aa, .aa, .aa, .aa, .aa, .aa, .aa, .aa, .aa, .aa, .d ks, .d n, .d k, .aa, .aa, .aa, .aa, .aa, .aa, .aa, .aa, .aa, .aa, .aa, .aa, .aa, .aa, .aa, .aa, .aa, .aa, .aa, .ptr it 0],aK (aK o id (uq i.2.1)) it (.nq (enc (D.int .i64) (iJ i.1)) i.2.2),nx⟩)
  (fun i=>i.2.1.Nodup/\∀v,(v∈i.2.1\/v∈i.1)↔(v∈s\/v∈own)) (fun i=>i.1.length) (own,s,none) ⟨hs,fun _=>Iff.rfl⟩ ?_ ?_
 ·dsimp only
  refine bE.bS _ hb (Nat.le_refl _) ?_ (fun j hj=> ?_) he
  ·exact dp
  ·by_cases e1:j=it
   ·subst e1;rw[ab];exact ZF
   ·rw[aj _ _ _ _ e1]
    by_cases e2:j=id
    ·subst e2;rw[ab];exact aC
    ·rw[aj _ _ _ _ e2]
 rintro⟨rest,s',last⟩ ⟨iS,hv⟩
 simp only at iS hv
 refine s9 h3 h4 ?_
 refine zj (fun hr=> ?_) fun i m hm=> ?_
 ·subst hr
  refine aG ?_
  refine hQ _ _ _ s' ?_ ?_ ?_ ?_ ?_ ?_ ?_ (fun j g1 g2 g3=> ?_) ?_ iS (fun v=> ?_)
  ·rfl
  ·rfl
  ·rfl
  ·rfl
  ·rfl
  ·omega
  ·exact dp
  ·exact cY
  ·exact cY
  ·have:=hv v
   simpa using this
 ·refine s9 h3 h4 ?_
  obtain⟨r1,r2⟩:=wE hm
  refine ax (rest.eraseIdx i,sR s' m,some (.int .i64 m, .bool true)) ⟨wD _ iS,fun v=> ?_⟩ ?_ ?_
  ·dsimp only
   rw[wC, <- hv v,r1 v]
   constructor
   ·rintro((h|h)|h)
    ·exact .inl h
    ·exact .inr (.inl h)
    ·exact .inr (.inr h)
   ·rintro(h|h|h)
    ·exact .inl (.inl h)
    ·exact .inl (.inr h)
    ·exact .inr h
  ·dsimp only;omega
  ·dsimp only
   refine bE.bS _ hb ad ?_ (fun j hj=> ?_) ?_
   ·exact dp
   ·by_cases e1:j=it
    ·subst e1;(repeat(first|rfl|rw[ab]|rw[aj _ _ _ _ (by omega)]))
    ·by_cases e2:j=id
     ·subst e2;(repeat(first|rfl|rw[ab]|rw[aj _ _ _ _ (by omega)]))
     ·exact cY
   ·exact cz
theorem Xt:∀t:Tm,t.fits->∀ (o:Nat->ae) (nx id:Nat) (l:List Int),Good o nx->o id=uq l->l.Nodup->∀K X,ae6 id (fun l'=>l'.Nodup/\∀n,n∈l'↔n∈l\/sU n t=true) o nx K->cU Tryz.prog 164 [.mp id, .d t.d] o nx K X:=by
 refine Tm.cB fun t ih hf o nx id l hg ho hl K X hK=> ?_
 have fy:=(Tm.aJ _).1 hf
 have aC:id<nx:=hg.lt (by rw[ho];exact ae.noConfusion)
 refine cU.ay mix Sd au ?_
 rw[V9]
 have y1:id≠nx:=ad
 have y2:∀k,id≠nx+k:=fun k=>ad
 by_cases h1:t.op=1
 ·refine NU ho y1 y2 h1 ?_
  refine hK _ _ (sR l t.n) ?_ ?_ (fun j hj iQ=> ?_) ?_ ⟨wD _ hl,fun n=> ?_⟩
  ·omega
  ·exact dp
  ·exact cY
  ·exact cY
  ·rw[wC,gV,if_pos h1]
   rw[beq_iff_eq, @eq_comm _ t.n n]
 ·have bJ:(t.op==1)=false:=by simpa using h1
  refine NU ho y1 y2 bJ ?_
  refine aE (fun i:Nat×List Int×(Nat->ae)×Nat=>⟨bz [.mp id, .aa, .aa, .ptr nx 0, .aa, .aa, .aa, .aa, .aa, .aa, .aa, .aa, .aa, .aa, .aa, .d (.sl (t.kids.map Tm.d)), .d (.i t.kids.length), .d (.i i.1)],i.2.2.1,i.2.2.2⟩)
   (fun i=>i.1<=t.kids.length/\i.2.1.Nodup/\Good i.2.2.1 i.2.2.2/\nx+1<=i.2.2.2/\(∀j,j<nx->j≠id->i.2.2.1 j=o j)/\i.2.2.1 nx= .row t.row/\i.2.2.1 id=uq i.2.1/\∀v,(v∈i.2.1\/iu v t.op t.n (t.kids.drop i.1) i.1=true)↔(v∈l\/sU v t=true)) (fun i=>t.kids.length - i.1) (0,l,aK o nx (.row t.row),nx+8)
   ⟨Nat.zero_le _,hl,by dsimp only;exact dp,by dsimp only;omega,fun j hj iQ=>by dsimp only;(repeat(first|rfl|rw[ab]|rw[aj _ _ _ _ (by omega)])),by dsimp only;(repeat(first|rfl|rw[ab]|rw[aj _ _ _ _ (by omega)])),by dsimp only;(repeat(first|rfl|rw[ab]|rw[aj _ _ _ _ (by omega)]));exact ho,fun v=>by simp only[List.drop_zero];rw[gV v t,if_neg h1]⟩ ?_ ?_
  ·dsimp only
   refine bE.bS _ ad ad dp (fun _ _=>rfl) ?_
   exact cz
  rintro⟨k,l',o',nx'⟩ ⟨hk,NH,hg',uA,hold,ck,AK,hv⟩
  simp only at hk NH hg' uA hold ck AK hv
  have z1:id≠nx':=ad
  have z2:∀k,id≠nx'+k:=fun k=>ad
  have z3:nx≠nx':=ad
  have z4:∀k,nx≠nx'+k:=fun k=>ad
  simp+contextual (disch:=first|omega|simp only[go_sem,false_implies]) only[go_sem,wrap64,if_pos,AK,ck,z1,z2,z3,z4,Nat.add_assoc,Nat.left_eq_add,Nat.add_eq_left,Nat.add_left_cancel_iff]
  refine aq (fun h2=> ?_) (fun h2=> ?_)
  ·simp at h2
   obtain⟨x,hx⟩:=aw h2
   have cw:=List.mem_of_getElem? hx
   simp+contextual (disch:=first|omega|simp only[go_sem,false_implies]) only[go_sem,wrap64,if_pos,AK,ck,z1,z2,z3,z4,Nat.add_assoc,Nat.left_eq_add,Nat.add_eq_left,Nat.add_left_cancel_iff,hx]
   refine c6 (ih x cw (fy.2 x cw) _ _ (nx'+7) [] ?_ ?_ List.nodup_nil _ _ fun o2 n2 own m1 m2 m3 m4 m5=> ?_)
   ·have hg:=hg'
    exact dp
   ·exact cY
   have p0:o2 nx= .row t.row:=by rw[m3 nx (by omega) (by omega)];(repeat(first|rfl|rw[ab]|rw[aj _ _ _ _ (by omega)]));exact ck
   have p1:o2 id=uq l':=by rw[m3 id (by omega) (by omega)];(repeat(first|rfl|rw[ab]|rw[aj _ _ _ _ (by omega)]));exact AK
   have p2:∀j,j<nx->j≠id->o2 j=o j:=fun j h3 h4=>by rw[m3 j (by omega) (by omega)];(repeat(first|rfl|rw[ab]|rw[aj _ _ _ _ (by omega)]));exact hold j h3 h4
   have w1:nx≠n2:=ad
   have w2:∀k,nx≠n2+k:=fun k=>ad
   have w3:id≠n2:=ad
   have w4:∀k,id≠n2+k:=fun k=>ad
   have w5:nx'+7≠n2:=ad
   have w6:∀k,nx'+7≠n2+k:=fun k=>ad
   obtain⟨xQ,d1,d2,d3⟩:∃xQ,xQ.Nodup/\(∀v,v∈xQ↔(sU v x=true/\ ¬ (t.op=8/\k=1/\t.n=v)))/\xQ=if t.op=8/\k=1 then Dq own t.n else own:=by
    refine⟨_, ?_,fun v=> ?_,rfl⟩
    ·split
     ·exact(zh _ m5.1).1
     ·exact m5.1
    ·have:=m5.2 v
     simp only[List.not_mem_nil,false_or]at this
     rw[<- this]
     split
     ·rename_i hc
      rw[(zh t.n m5.1).2]
      simp[hc,eq_comm]
     ·rename_i hc
      constructor
      ·exact fun h=>⟨h,fun h2=>hc ⟨h2.1,h2.2.1⟩⟩
      ·exact fun h=>h.1
   have step:∀v (s':List Int),(v∈s'↔v∈l'\/v∈xQ)->((v∈s'\/iu v t.op t.n (t.kids.drop (k+1)) (k+1)=true)↔(v∈l\/sU v t=true)):=by
    intro v s' iS
    rw[<- hv v,iS,d2 v]
    have hdr:t.kids.drop k=x::t.kids.drop (k+1):=by
     obtain⟨h5,h6⟩:=List.getElem?_eq_some_iff.1 hx
     exact T2
    rw[hdr,iu]
    simp only[Bool.or_eq_true,Bool.and_eq_true,Bool.not_eq_true',Bool.and_eq_false_iff,beq_eq_false_iff_ne,ne_eq,not_and]
    constructor
    ·rintro((h|⟨h,h6⟩)|h)
     ·exact .inl h
     ·refine .inr (.inl ⟨h, ?_⟩)
      by_cases c1:t.op=8
      ·by_cases c2:k=1
       ·exact .inr (h6 c1 c2)
       ·exact .inl (.inr c2)
      ·exact .inl (.inl c1)
     ·exact .inr (.inr h)
    ·rintro(h|⟨h,h6⟩|h)
     ·exact .inl (.inl h)
     ·refine .inl (.inr ⟨h,fun c1 c2=> ?_⟩)
      rcases h6 with(h6|h6)|h6
      ·exact absurd c1 h6
      ·exact absurd c2 h6
      ·exact h6
     ·exact .inr h
   have hcc:((t.op==8)&&((k:Int)==1))=decide (t.op=8/\k=1):=by
    rw[Bool.eq_iff_iff];simp;omega
   simp+contextual (disch:=first|omega|simp only[go_sem,false_implies]) only[go_sem,wrap64,if_pos,p0,p1,w1,w2,w3,w4,w5,w6,Nat.add_assoc,Nat.left_eq_add,Nat.add_eq_left,Nat.add_left_cancel_iff]
   refine aq (fun h3=> ?_) (fun h3=> ?_)
   ·rw[hcc]at h3
    simp only[decide_eq_true_eq]at h3
    rw[if_pos h3]at d3
    cases hd:own.findIdx? (· ==t.n)with
    |none=>
     have hd2:gh t.n (iJ own) 0=none:=by rw[l4,hd];rfl
     obtain rfl:xQ=own:=by rw[d3,Dq,hd]
     simp+contextual (disch:=first|omega|simp only[go_sem,false_implies]) only[go_sem,wrap64,if_pos,p0,p1,m4,w1,w2,w3,w4,w5,w6,Nat.add_assoc,Nat.left_eq_add,Nat.add_eq_left,Nat.add_left_cancel_iff,hd2]
     refine Fs (n0:=nx) (id:=id) (it:=n2+12) (ks:= .sl (t.kids.map Tm.d)) (n:= .i t.kids.length) (k:= .i k) xQ l' ?_ ?_ ?_ ad NH ad ?_ fun e' o4 n4 s' q0 q3 QJ QK QL q1 q2 q4 q5 q6 q7=> ?_
     ·have hg:=m2
      exact dp
     ·(repeat(first|rfl|rw[ab]|rw[aj _ _ _ _ (by omega)]))
      exact p1
     ·exact cY
     ·exact cz
     have r0:o4 nx= .row t.row:=by
      rw[q4 nx (by omega) (by omega) (by omega)];(repeat(first|rfl|rw[ab]|rw[aj _ _ _ _ (by omega)]))
      exact p0
     refine JX q0 q3 QJ QK QL ?_
     refine ax (k+1,s',o4,n4) ⟨by dsimp only;omega,q6,q2,by dsimp only;omega,fun j g1 g2=> ?_,r0,q5,fun v=> ?_⟩ mX ?_
     ·dsimp only
      rw[q4 j (by omega) (by omega) (by omega)];(repeat(first|rfl|rw[ab]|rw[aj _ _ _ _ (by omega)]))
      exact p2 j g1 g2
     ·dsimp only
      exact step v s' (q7 v)
     ·dsimp only
      refine bE.bS _ ad ad q2 (fun _ _=>rfl) ?_
      exact TM
    |some j=>
     have hd2:gh t.n (iJ own) 0=some (j, .bool true):=by rw[l4,hd];simp
     have hd3:(enc (D.int .i64) (iJ own)).eraseIdx j=enc (D.int .i64) (iJ xQ):=by
      rw[d3,Dq,hd,sP];unfold iJ;rw[iK]
     simp+contextual (disch:=first|omega|simp only[go_sem,false_implies]) only[go_sem,wrap64,if_pos,p0,p1,m4,w1,w2,w3,w4,w5,w6,Nat.add_assoc,Nat.left_eq_add,Nat.add_eq_left,Nat.add_left_cancel_iff,hd2]
     rw[hd3]
     refine Fs (n0:=nx) (id:=id) (it:=n2+12) (ks:= .sl (t.kids.map Tm.d)) (n:= .i t.kids.length) (k:= .i k) xQ l' ?_ ?_ ?_ ad NH ad ?_ fun e' o4 n4 s' q0 q3 QJ QK QL q1 q2 q4 q5 q6 q7=> ?_
     ·have hg:=m2
      exact dp
     ·(repeat(first|rfl|rw[ab]|rw[aj _ _ _ _ (by omega)]))
      exact p1
     ·exact cY
     ·exact cz
     have r0:o4 nx= .row t.row:=by
      rw[q4 nx (by omega) (by omega) (by omega)];(repeat(first|rfl|rw[ab]|rw[aj _ _ _ _ (by omega)]))
      exact p0
     refine JX q0 q3 QJ QK QL ?_
     refine ax (k+1,s',o4,n4) ⟨by dsimp only;omega,q6,q2,by dsimp only;omega,fun j g1 g2=> ?_,r0,q5,fun v=> ?_⟩ mX ?_
     ·dsimp only
      rw[q4 j (by omega) (by omega) (by omega)];(repeat(first|rfl|rw[ab]|rw[aj _ _ _ _ (by omega)]))
      exact p2 j g1 g2
     ·dsimp only
      exact step v s' (q7 v)
     ·dsimp only
      refine bE.bS _ ad ad q2 (fun _ _=>rfl) ?_
      exact TM
   ·rw[hcc]at h3
    simp only[decide_eq_false_iff_not]at h3
    rw[if_neg h3]at d3
    subst d3
    simp+contextual (disch:=first|omega|simp only[go_sem,false_implies]) only[go_sem,wrap64,if_pos,p0,p1,m4,w1,w2,w3,w4,w5,w6,Nat.add_assoc,Nat.left_eq_add,Nat.add_eq_left,Nat.add_left_cancel_iff]
    refine Fs (n0:=nx) (id:=id) (it:=n2+8) (ks:= .sl (t.kids.map Tm.d)) (n:= .i t.kids.length) (k:= .i k) xQ l' ?_ ?_ ?_ ad NH ad ?_ fun e' o4 n4 s' q0 q3 QJ QK QL q1 q2 q4 q5 q6 q7=> ?_
    ·have hg:=m2
     exact dp
    ·(repeat(first|rfl|rw[ab]|rw[aj _ _ _ _ (by omega)]))
     exact p1
    ·exact cY
    ·exact cz
    have r0:o4 nx= .row t.row:=by
     rw[q4 nx (by omega) (by omega) (by omega)];(repeat(first|rfl|rw[ab]|rw[aj _ _ _ _ (by omega)]))
     exact p0
    refine JX q0 q3 QJ QK QL ?_
    refine ax (k+1,s',o4,n4) ⟨by dsimp only;omega,q6,q2,by dsimp only;omega,fun j g1 g2=> ?_,r0,q5,fun v=> ?_⟩ mX ?_
    ·dsimp only
     rw[q4 j (by omega) (by omega) (by omega)];(repeat(first|rfl|rw[ab]|rw[aj _ _ _ _ (by omega)]))
     exact p2 j g1 g2
    ·dsimp only
     exact step v s' (q7 v)
    ·dsimp only
     refine bE.bS _ ad ad q2 (fun _ _=>rfl) ?_
     exact TM
  ·simp at h2
   refine aG ?_
   refine hK _ _ l' ?_ ?_ hold AK ⟨NH,fun n=> ?_⟩
   ·omega
   ·exact hg'.mono ad
   ·have:=hv n
    rw[List.drop_eq_nil_of_le (by omega)]at this
    simpa[iu]using this
def ur(l:List Int)(x:Tm×Int):Bool:=(x.1.op !=1&&x.1.op !=3)||(x.1.op==1&&l.contains x.1.n)
def l6(s:List Int×Bool)(x:Tm×Int):List Int×Bool:=(if ur s.1 x=true then s.1 else if x.1.op=1 then sR s.1 x.1.n else s.1, !ur s.1 x)
def pJ(s:List Int×Bool):Option jS:=if s.2=true then none else some .ret
def xR(t:Tm):Bool:=(aA (yW pJ l6) ([],true) (pre t 1)).2
theorem Du(s:ba)(hs:s.Fits)(t:Tm)(ht:t.Fin):aR Tryz.prog 186 [s.d,t.d] (.ret [.bool (dg s [t]&&xR t), .i (mQ (dg s [t]))]):=by
 refine aR.ay mix Sz au ?_
 rw[Wt]
 refine aG ?_
 refine ag (A0 s hs [t] au (fun x hx=>by simp at hx;subst hx;exact ht)) rfl ?_
 cases h1:dg s [t]with
 |false=>exact Ht
 |true=>
  refine iP ?_
  refine c6 (Dh t _ _ _ _ ?_)
  refine iP ?_
  refine tI (σ:=List Int×Bool) t ht.fits ht.iE [.aa, .aa, .aa, .aa, .ptr 2 0, .ptr 3 0, .ptr 10 0] ?_ aT rfl dp mc (ab _ _ _)
   (fun b=>aK (aK (aK (aK (aK (aK (aK (aK (fun _=> .no) 0 (.row s.row)) 1 (.row t.row)) 2 (.row [.d (.bool false)])) 3 (.row [.d (.i 0)])) 6 (.arr 0 31 3 [t.d])) 10 (.row [.mp 9])) 13 (.row t.row)) 9 (uq b.1)) pJ l6 (fun _=>True) ([],true) trivial rfl (fun id aC=> ?_) (fun _ _ _ _ _ _=>trivial) ?_ ?_
  ·exact Hu
  ·exact rY
  ·intro L hL uW x hx s' h1 h2 o3 n3 hI hn ho K X cO
   simp only[m8]
   have hg:=hI.bU
   have q1:o3 10= .row [.mp 9]:=hI.eq 10 ad
   have q2:o3 9=uq s'.1:=hI.eq 9 ad
   have q3:o3 2= .row [.d (.bool false)]:=hI.eq 2 ad
   have q4:o3 3= .row [.d (.i 0)]:=hI.eq 3 ad
   refine aG ?_
   refine l0 hL (pd:=none) ?_ ?_
   ·(repeat(first|rfl|rw[ab]|rw[aj _ _ _ _ (by omega)]))
    exact ho
   refine s9 q1 q2 ?_
   have hv:ur s'.1 x=((x.1.op !=1&&x.1.op !=3)||(x.1.op==1&&s'.1.contains x.1.n)):=rfl
   rw[<- hv]
   have same:∀ (o':Nat->ae) (n':Nat) (l:List Int),Good o' n'->n3<=n'->(∀id,id<17->o' id=aK o3 9 (uq l) id)->cW 17 (aK (aK (aK (aK (aK (aK (aK (aK (fun _=> .no) 0 (.row s.row)) 1 (.row t.row)) 2 (.row [.d (.bool false)])) 3 (.row [.d (.i 0)])) 6 (.arr 0 31 3 [t.d])) 10 (.row [.mp 9])) 13 (.row t.row)) 9 (uq l)) o' n':=fun o' n' l k1 k2 k3=>⟨k1,by have:=hI.le;omega,fun id aC=>by
    rw[k3 id aC]
    by_cases e:id=9
    ·subst e;rw[ab,ab]
    ·rw[aj _ _ _ _ e,aj _ _ _ _ e,hI.eq id aC,aj _ _ _ _ e]⟩
   cases hb:ur s'.1 x with
   |true=>
    have hp:l6 s' x=(s'.1,false):=by simp[l6,hb]
    rw[hp]at cO
    refine s9 q3 q4 ?_
    refine cO _ _ _ .busy none ad (same _ _ _ dp ad fun id aC=> ?_) cY (fun id h3 h4=>by(repeat(first|rfl|rw[ab]|rw[aj _ _ _ _ (by omega)])))
    by_cases e9:id=9
    ·subst e9;(repeat(first|rfl|rw[ab]|rw[aj _ _ _ _ (by omega)]))
     exact q2
    ·by_cases e2:id=2
     ·subst e2;(repeat(first|rfl|rw[ab]|rw[aj _ _ _ _ (by omega)]))
      exact q3.symm
     ·by_cases e3:id=3
      ·subst e3;(repeat(first|rfl|rw[ab]|rw[aj _ _ _ _ (by omega)]))
       exact q4.symm
      ·exact cY
   |false=>
    refine s9 q1 q2 ?_
    refine aq (fun h3=> ?_) (fun h3=> ?_)
    ·have sx:x.1.op=1:=by simpa using h3
     have hp:l6 s' x=(sR s'.1 x.1.n,true):=by simp[l6,hb,sx]
     rw[hp]at cO
     refine s9 q1 q2 ?_
     refine cO _ _ _ .busy none ad (same _ _ _ dp ad fun id aC=> ?_) cY (fun id h3 h4=>by(repeat(first|rfl|rw[ab]|rw[aj _ _ _ _ (by omega)])))
     by_cases e9:id=9
     ·subst e9;(repeat(first|rfl|rw[ab]|rw[aj _ _ _ _ (by omega)]))
     ·exact cY
    ·have sx: ¬x.1.op=1:=by simpa using h3
     have hp:l6 s' x=(s'.1,true):=by simp[l6,hb,sx]
     rw[hp]at cO
     refine aG ?_
     refine cO _ _ _ .busy none ad (same _ _ _ dp ad fun id aC=> ?_) cY (fun id h3 h4=>by(repeat(first|rfl|rw[ab]|rw[aj _ _ _ _ (by omega)])))
     by_cases e9:id=9
     ·subst e9;(repeat(first|rfl|rw[ab]|rw[aj _ _ _ _ (by omega)]))
      exact q2
     ·exact cY
  ·intro o' n' hI
   have hJ:=AZ pJ l6 (pre t 1) ([],true) rfl
   have hpf:xR t=(pJ (aA (yW pJ l6) ([],true) (pre t 1)).1).isNone:=hJ
   have q0:o' 2= .row [.d (.bool false)]:=hI.eq 2 ad
   have q1:o' 3= .row [.d (.i 0)]:=hI.eq 3 ad
   rw[hpf]
   generalize (aA (yW pJ l6) ([],true) (pre t 1)).1=sf at*
   obtain⟨l,b⟩:=sf
   cases b<;>(simp only[pJ,if_true,if_false,Bool.false_eq_true,oW];simp+contextual (disch:=first|omega|simp only[go_sem,false_implies]) only[go_sem,wrap64,if_pos,q0,q1];simp[mQ])
structure Rl where
 fn:Int
 bf:List Tm
 rhs:Tm
 vars:Int
@[reducible] def Rl.row (r:Rl):List V:=[.d (.i r.fn), .d (.sl (r.bf.map Tm.d)), .d (.i r.rhs.op), .d (.i r.rhs.n), .d (.sl (r.rhs.kids.map Tm.d)), .d (.i r.vars)]
@[reducible] def Rl.d (r:Rl):D:= .agg [.i r.fn, .sl (r.bf.map Tm.d), .i r.rhs.op, .i r.rhs.n, .sl (r.rhs.kids.map Tm.d), .i r.vars]
structure Rl.Fin (r:Rl):Prop where
 bf:r.bf.length<=1000000
 all:∀t∈r.bf,t.Fin
 rhs:r.rhs.Fin
theorem Dv(l:List Tm)(hl:l.length<=9223372036854775807)(g:Nat)(aL:List V)(base:Nat)(h:Nat->ae)(p:Tm->Bool)(hc:∀r∈V.aQ aL,r<base)
 (hp:∀x∈l,fR Tryz.prog g (.d x.d::aL) base h h (.d (.bool (p x)))):fR Tryz.prog 187 [.d (.sl (l.map Tm.d)), .func (.func g) [] aL] base h h (.d (.bool (l.all p))):=by
 have:=ze l hl g aL base (fun _:Unit=>h) (fun _ x=>((),p x)) hc (fun _=>True) (fun _ _ _ _ _=>trivial) (fun x hx _ _=>hp x hx) () trivial
 exact N4
def lq(s:ba)(t:Tm):Bool:=dg s [t]&&xR t
theorem PT(s:ba)(hs:s.Fits)(t:Tm)(ht:t.Fin)(base sp:Nat)(h:Nat->ae)(vc:h sp= .row s.row)(hb:sp<base):fR Tryz.prog 185 [.d t.d, .ptr sp 0] base h h (.d (.bool (lq s t))):=by
 intro o nx hI K X hK
 have hle:=hI.le
 have hg:=hI.bU
 have q0:o sp= .row s.row:=by rw[hI.eq sp hb,vc]
 refine cU.ay mix Sy au ?_
 rw[Ws]
 refine cg q0 ?_
 refine ag (Du s hs t ht) rfl ?_
 cases hr:dg s [t]with
 |false=>
  have e:lq s t=false:=by simp[lq,hr]
  rw[e]at hK
  refine Y8 ?_
  exact hK _ _ ad ⟨dp,ad,fun j hj=>by rw[aj _ _ _ _ (by omega),hI.eq j hj]⟩ (fun j g1 g2=>by(repeat(first|rfl|rw[ab]|rw[aj _ _ _ _ (by omega)])))
 |true=>
  have e:lq s t=xR t:=by simp[lq,hr]
  rw[e]at hK
  refine Y8 ?_
  exact hK _ _ ad ⟨dp,ad,fun j hj=>by rw[aj _ _ _ _ (by omega),hI.eq j hj]⟩ (fun j g1 g2=>by(repeat(first|rfl|rw[ab]|rw[aj _ _ _ _ (by omega)])))
theorem sV{K:V->List (Nat×ae)->Prop}{id:Nat}{l:List (Int×Int)}(h0:l=[]->K (.cA [.d (.bool false)]) [])
 (h1:∀ (i:Nat) n k,l[i]? =some (n,k)->K (.cA [.d (.bool true), .d (.int .i64 n), .d (D.i k)]) [(id, .nq (enc (D.int .i64) (ints (l.eraseIdx i))) (some (.int .i64 n,D.i k)))]):CN K id (enc (D.int .i64) (ints l)):=by
 refine yX _ (fun h=>h0 ?_) fun i k x h=> ?_
 ·cases l with
  |nil=>rfl
  |cons x l=>simp[ints]at h
 ·unfold ints at h|-
  rw[List.getElem?_map]at h
  cases hl:l[i]? with
  |none=>rw[hl]at h;cases h
  |some n=>
   rw[hl]at h
   simp at h
   obtain⟨rfl,rfl⟩:=h
   have:=h1 i n.1 n.2 hl
   rw[iK]
   exact this
theorem sW{α:Type}{l:List α}{i:Nat}{n:α}(p:α->Bool)(h:l[i]? =some n):l.all p=(p n&&(l.eraseIdx i).all p):=by
 have hp:l.Perm (n::l.eraseIdx i):=by
  obtain⟨hi,e⟩:=List.getElem?_eq_some_iff.1 h
  have vc:l=l.take i++n::l.drop (i+1):=by rw[<- e,List.getElem_cons_drop,List.take_append_drop]
  rw[List.eraseIdx_eq_take_drop_succ]
  conv=>lhs;rw[vc]
  exact List.perm_middle
 rw[Bool.eq_iff_iff,List.all_eq_true,Bool.and_eq_true,List.all_eq_true]
 constructor
 ·intro h1
  exact⟨h1 _ (hp.mem_iff.2 au),fun x hx=>h1 x (hp.mem_iff.2 mf)⟩
 ·rintro⟨h1,h2⟩ x hx
  rcases List.mem_cons.1 (hp.mem_iff.1 hx)with e|e
  ·rw[e];exact h1
  ·exact h2 x e
theorem sX{α:Type}{l:List α}{i:Nat}{n:α}(h:l[i]? =some n):(l.eraseIdx i).length+1=l.length:=by
 obtain⟨hi,e⟩:=List.getElem?_eq_some_iff.1 h
 rw[List.length_eraseIdx];simp[hi];omega
def mU(s:ba)(r:Rl):Bool:=decide (0<=r.fn)&&(match s.bZ[r.fn.toNat]? with|some f=>(r.bf.length:Int)==f.args|none=>false)&&decide (0<=r.vars)&&decide (r.vars<=20)&&r.bf.all (lq s)&&dg s [r.rhs]
def fF(s:ba)(r:Rl):Bool:=mU s r&&(et 1 r.bf).all (fun p=>decide (p.2<=1)&&decide (p.1<r.vars))&&(et 1 [r.rhs]).all (fun p=>decide (p.1<r.vars))&&
 (et 8 [r.rhs]).all (fun p=>decide (p.2<=1)&&decide (p.1<r.vars)&&decide (ir (et 1 r.bf) p.1<=0))&&A7 (et 8 [r.rhs]) r.rhs []
theorem A8{R:List Nat}{o:Nat->ae}{id:Nat}(h:id∈R):ET R o id=o id:=by simp[ET,h]
theorem I0{R:List Nat}{o:Nat->ae}{nx:Nat}(db:∀id∈R,id<nx)(pI:∀id∈R,∀j∈(o id).refs,j∈R):Good (ET R o) nx:=by
 refine⟨fun id aC=> ?_,fun id r hr=> ?_⟩
 ·have:id∉R:=fun hm=>by have:=db id hm;omega
  simp[ET,this]
 ·by_cases aC:id∈R
  ·rw[A8 aC]at hr;exact db r (pI id aC r hr)
  ·have:ET R o id= .no:=by simp[ET,aC]
   rw[this]at hr;cases hr
theorem PU(s:ba)(hs:s.Fits)(l:List Tm)(hl:l.length<=1000000)(hf:∀t∈l,t.Fin){o:Nat->ae}(ho:o 0= .row s.row):
 Gd Tryz.prog 187 [.d (.sl (l.map Tm.d)), .func (.func 185) [] [.ptr 0 0]] [0] o (.ret [.bool (l.all (lq s))]) []:=by
 have db:∀j∈[0],j<1:=au
 have pI:∀k∈[0],∀j∈(o k).refs,j∈[0]:=by
  intro k hk j hj
  simp at hk
  subst hk
  rw[ho]at hj;simp[ae.refs,V.aQ,V.refs]at hj
 refine Gd.mC db mc pI au au ?_
 refine Dv l ad 185 [.ptr 0 0] 1 (ET [0] o) (lq s) mc (fun x hx=>PT s hs x (hf x hx) 1 0 _ ((A8 au).trans ho) ad) _ _ ⟨I0 db pI,Nat.le_refl _,fun _ _=>rfl⟩ _ _ fun o2 n2 m1 m2 m3=> ?_
 refine⟨fun k hk=> ?_,[.d (.bool (l.all (lq s)))],[.bool (l.all (lq s))],rfl,rfl,rfl,fun k hk=>by simp[V.bO,V.ids]at hk⟩
 simp at hk
 subst hk
 rw[m2.eq 0 (by omega),A8 (by simp)];rfl
set_option maxHeartbeats 1000000 in
theorem PV(s:ba)(hs:s.Fits)(r:Rl)(hr:r.Fin):aR Tryz.prog 132 [s.d,r.d] (.ret [.bool (fF s r)]):=by
 have hr1:=hr.bf
 refine aR.ay mix RZ au ?_
 rw[VV]
 have hlf:=hs.lf
 have fin:∀ {b:Bool},mU s r=b->b=false->fF s r=false:=fun h1 h2=>by unfold fF;rw[h1,h2];rfl
 by_cases f1:r.fn<0
 ·have Mn:decide (r.fn<0)=true:=by simpa using f1
  have e:fF s r=false:=fin (b:=false) (by unfold mU;rw[decide_eq_false (by omega: ¬0<=r.fn)];rfl) rfl
  simp+contextual (disch:=first|omega|simp only[go_sem,false_implies]) only[go_sem,wrap64,if_pos,Nat.add_assoc,Nat.left_eq_add,Nat.add_eq_left,Nat.add_left_cancel_iff,List.length_map,Mn]
  refine ai (ak rfl) ?_
  refine aG ?_
  rw[e]
 have Mn:decide (r.fn<0)=false:=by simpa using f1
 by_cases f2:(s.bZ.length:Int)<=r.fn
 ·have xm:decide ((s.bZ.length:Int)<=r.fn)=true:=by simpa using f2
  have e:fF s r=false:=fin (b:=false) (by unfold mU;rw[List.getElem?_eq_none (by omega:s.bZ.length<=r.fn.toNat)];simp) rfl
  refine Ek Mn xm ?_
  refine ai (ak rfl) ?_
  refine aG ?_
  rw[e]
 have xm:decide ((s.bZ.length:Int)<=r.fn)=false:=by simpa using f2
 obtain⟨f,hf⟩:∃f,s.bZ[r.fn.toNat]? =some f:=⟨_,List.getElem?_eq_getElem ad⟩
 by_cases f3: ¬ (r.bf.length:Int)=f.args
 ·have A9:((r.bf.length:Int)!=f.args)=true:=by simpa using f3
  have e:fF s r=false:=fin (b:=false) (by unfold mU;rw[hf];simp[f3]) rfl
  simp+contextual (disch:=first|omega|simp only[go_sem,false_implies]) only[go_sem,wrap64,if_pos,Nat.add_assoc,Nat.left_eq_add,Nat.add_eq_left,Nat.add_left_cancel_iff,List.length_map,Mn,xm,hf,A9]
  refine ai (ak rfl) ?_
  refine aG ?_
  rw[e]
 have A9:((r.bf.length:Int)!=f.args)=false:=by simpa using f3
 by_cases f4:r.vars<0
 ·have I1:decide (r.vars<0)=true:=by simpa using f4
  have e:fF s r=false:=fin (b:=false) (by unfold mU;rw[decide_eq_false (by omega: ¬0<=r.vars)];simp) rfl
  simp+contextual (disch:=first|omega|simp only[go_sem,false_implies]) only[go_sem,wrap64,if_pos,Nat.add_assoc,Nat.left_eq_add,Nat.add_eq_left,Nat.add_left_cancel_iff,List.length_map,Mn,xm,hf,A9,I1]
  refine ai (ak rfl) ?_
  refine aG ?_
  rw[e]
 have I1:decide (r.vars<0)=false:=by simpa using f4
 by_cases f5:20<r.vars
 ·have Tn:decide (20<r.vars)=true:=by simpa using f5
  have e:fF s r=false:=fin (b:=false) (by unfold mU;rw[decide_eq_false (by omega: ¬r.vars<=20)];simp) rfl
  refine Y5 Mn xm hf A9 I1 Tn ?_
  refine ai (ak rfl) ?_
  refine aG ?_
  rw[e]
 have Tn:decide (20<r.vars)=false:=by simpa using f5
 have hh:mU s r=(r.bf.all (lq s)&&dg s [r.rhs]):=by
  unfold mU
  rw[hf]
  have g3:(r.bf.length:Int)=f.args:=by simpa using f3
  simp[g3,show 0<=r.fn by omega,show 0<=r.vars by omega,show r.vars<=20 by omega]
 refine Y5 Mn xm hf A9 I1 Tn ?_
 refine CW (rd:=[0]) rfl (PU s hs r.bf hr1 hr.all ?_) ?_
 ·exact cY
 cases h6:r.bf.all (lq s)with
 |false=>
  have e:fF s r=false:=fin hh (by rw[h6];rfl)
  refine aG ?_
  refine ai (ak rfl) ?_
  refine aG ?_
  rw[e]
 |true=>
  refine aG ?_
  refine ao (PJ s hs r.rhs hr.rhs) rfl ?_
  cases h7:dg s [r.rhs]with
  |false=>
   have e:fF s r=false:=fin hh (by rw[h6,h7];rfl)
   refine zO ?_
   refine ai (ak rfl) ?_
   refine aG ?_
   rw[e]
  |true=>
   refine zO ?_
   refine ai (ak rfl) ?_
   refine aG ?_
   have hR:fF s r=((et 1 r.bf).all (fun p=>decide (p.2<=1)&&decide (p.1<r.vars))&&(et 1 [r.rhs]).all (fun p=>decide (p.1<r.vars))&&
    (et 8 [r.rhs]).all (fun p=>decide (p.2<=1)&&decide (p.1<r.vars)&&decide (ir (et 1 r.bf) p.1<=0))&&A7 (et 8 [r.rhs]) r.rhs []):=by
    unfold fF;rw[hh,h6,h7];rfl
   refine aZ (tM r.bf hr1 (fun t ht=>(hr.all t ht).fits)) ?_
   refine aG ?_
   refine aZ (Xr r.rhs hr.rhs.fits) ?_
   refine aG ?_
   refine ai (ak rfl) ?_
   simp+contextual (disch:=first|omega|simp only[go_sem,false_implies]) only[go_sem,wrap64,if_pos,uw]
   refine aE (fun i:List (Int×Int)×Option (D×D)=>⟨bz [.aa, .aa, .aa, .ptr 1 0, .aa, .aa, .d (Mj (et 1 r.bf)), .d (Mj (et 8 [r.rhs])), .aa, .aa, .aa, .aa, .aa, .aa, .aa, .aa, .aa, .aa, .aa, .aa, .aa, .aa, .aa, .aa, .aa, .aa, .aa, .aa, .aa, .aa, .aa, .aa, .aa, .aa, .aa, .aa, .aa, .aa, .aa, .aa, .aa, .aa, .aa, .aa, .aa, .aa, .aa, .aa, .aa, .aa, .aa, .aa, .aa, .aa, .aa, .aa, .aa, .aa, .aa, .aa, .aa, .aa, .aa, .aa, .aa, .aa, .aa, .aa, .aa, .ptr 62 0],aK (aK (aK (fun _=> .no) 0 (.row [.d (.sl (s.cons.map jW.d)), .d (.sl (s.bZ.map jW.d))])) 1 (.row [.d (.i r.fn), .d (.sl (r.bf.map Tm.d)), .d (.i r.rhs.op), .d (.i r.rhs.n), .d (.sl (r.rhs.kids.map Tm.d)), .d (.i r.vars)])) 62 (.nq (enc (D.int .i64) (ints i.1)) i.2),63⟩)
    (fun i=>(et 1 r.bf).all (fun p=>decide (p.2<=1)&&decide (p.1<r.vars))=i.1.all (fun p=>decide (p.2<=1)&&decide (p.1<r.vars))) (fun i=>i.1.length) (et 1 r.bf,none) rfl (bE.bS _ (show 0<=63 from ad) ad dp (fun j hj=>by(repeat(first|rfl|rw[ab]|rw[aj _ _ _ _ (by omega)]))) ?_) ?_
   ·exact cz
   rintro⟨rest,last⟩ hA
   simp only at hA
   refine aG ?_
   refine sV (fun LH=> ?_) fun i n k hm=> ?_
   ·subst LH
    simp only[List.all_nil]at hA
    refine iP ?_
    refine aO (tM [r.rhs] au (fun t ht=>by simp at ht;subst ht;exact hr.rhs.fits)) ?_
    refine Y7 ?_
    refine aE (fun i:List (Int×Int)×Option (D×D)=>⟨bz [.aa, .aa, .aa, .ptr 1 0, .aa, .aa, .d (Mj (et 1 r.bf)), .d (Mj (et 8 [r.rhs])), .aa, .aa, .aa, .aa, .aa, .aa, .aa, .aa, .aa, .aa, .aa, .aa, .aa, .aa, .aa, .aa, .aa, .aa, .aa, .aa, .aa, .aa, .aa, .aa, .aa, .aa, .aa, .aa, .aa, .aa, .aa, .aa, .aa, .aa, .aa, .aa, .aa, .aa, .aa, .aa, .aa, .aa, .aa, .aa, .aa, .aa, .aa, .aa, .aa, .aa, .aa, .aa, .aa, .aa, .aa, .aa, .aa, .aa, .aa, .aa, .aa, .aa, .aa, .aa, .aa, .aa, .aa, .aa, .aa, .aa, .aa, .aa, .aa, .aa, .aa, .aa, .aa, .aa, .aa, .ptr 69 0],aK (aK (aK (aK (aK (fun _=> .no) 0 (.row [.d (.sl (s.cons.map jW.d)), .d (.sl (s.bZ.map jW.d))])) 1 (.row [.d (.i r.fn), .d (.sl (r.bf.map Tm.d)), .d (.i r.rhs.op), .d (.i r.rhs.n), .d (.sl (r.rhs.kids.map Tm.d)), .d (.i r.vars)])) 62 (.nq (enc (D.int .i64) (ints [])) last)) 67 (.tc 0 [r.rhs.d])) 69 (.nq (enc (D.int .i64) (ints i.1)) i.2),70⟩)
     (fun i=>(et 1 [r.rhs]).all (fun p=>decide (p.1<r.vars))=i.1.all (fun p=>decide (p.1<r.vars))) (fun i=>i.1.length) (et 1 [r.rhs],none) rfl (bE.bS _ (show 0<=70 from ad) ad dp (fun j hj=>by first|(rw[iG];done)|(repeat(first|rfl|rw[ab]|rw[aj _ _ _ _ (by omega)]))|exact rY) ?_) ?_
    ·exact cz
    rintro⟨rest,acY⟩ hB
    simp only at hB
    refine aG ?_
    refine sV (fun LH=> ?_) fun i n k hm=> ?_
    ·subst LH
     simp only[List.all_nil]at hB
     refine Y7 ?_
     refine aE (fun i:List (Int×Int)×Option (D×D)=>⟨bz [.aa, .aa, .aa, .ptr 1 0, .aa, .aa, .d (Mj (et 1 r.bf)), .d (Mj (et 8 [r.rhs])), .aa, .aa, .aa, .aa, .aa, .aa, .aa, .aa, .aa, .aa, .aa, .aa, .aa, .aa, .aa, .aa, .aa, .aa, .aa, .aa, .aa, .aa, .aa, .aa, .aa, .aa, .aa, .aa, .aa, .aa, .aa, .aa, .aa, .aa, .aa, .aa, .aa, .aa, .aa, .aa, .aa, .aa, .aa, .aa, .aa, .aa, .aa, .aa, .aa, .aa, .aa, .aa, .aa, .aa, .aa, .aa, .aa, .aa, .aa, .aa, .aa, .aa, .aa, .aa, .aa, .aa, .aa, .aa, .aa, .aa, .aa, .aa, .aa, .aa, .aa, .aa, .aa, .aa, .aa, .aa, .aa, .aa, .aa, .aa, .aa, .aa, .aa, .aa, .aa, .ptr 73 0],aK (aK (aK (aK (aK (aK (fun _=> .no) 0 (.row [.d (.sl (s.cons.map jW.d)), .d (.sl (s.bZ.map jW.d))])) 1 (.row [.d (.i r.fn), .d (.sl (r.bf.map Tm.d)), .d (.i r.rhs.op), .d (.i r.rhs.n), .d (.sl (r.rhs.kids.map Tm.d)), .d (.i r.vars)])) 62 (.nq (enc (D.int .i64) (ints [])) last)) 67 (.tc 0 [r.rhs.d])) 69 (.nq (enc (D.int .i64) (ints [])) acY)) 73 (.nq (enc (D.int .i64) (ints i.1)) i.2),74⟩)
      (fun i=>(et 8 [r.rhs]).all (fun p=>decide (p.2<=1)&&decide (p.1<r.vars)&&decide (ir (et 1 r.bf) p.1<=0))=i.1.all (fun p=>decide (p.2<=1)&&decide (p.1<r.vars)&&decide (ir (et 1 r.bf) p.1<=0))) (fun i=>i.1.length) (et 8 [r.rhs],none) rfl (bE.bS _ (show 0<=74 from ad) ad dp (fun j hj=>by(repeat(first|rfl|rw[ab]|rw[aj _ _ _ _ (by omega)]))) ?_) ?_
     ·exact cz
     rintro⟨rest,afl⟩ hC
     simp only at hC
     refine aG ?_
     refine sV (fun LH=> ?_) fun i n k hm=> ?_
     ·subst LH
      simp only[List.all_nil]at hC
      refine iP ?_
      refine ag (Mm (et 8 [r.rhs]) r.rhs hr.rhs.fits [] (by have:=hr.rhs.iE;simp;omega)) rfl ?_
      refine aG ?_
      rw[hR,hA,hB,hC];rfl
     ·have hle:=sX hm
      rw[sW (fun p=>decide (p.2<=1)&&decide (p.1<r.vars)&&decide (ir (et 1 r.bf) p.1<=0)) hm]at hC
      simp only at hC
      have bad:(decide (k<=1)&&decide (n<r.vars)&&decide (ir (et 1 r.bf) n<=0))=false->fF s r=false:=fun e2=>by rw[hR,hC,e2];simp
      by_cases g1:1<k
      ·have xS:decide (1<k)=true:=by simpa using g1
       have e:=bad (by rw[decide_eq_false (by omega: ¬k<=1)];rfl)
       refine BD xS ?_
       rw[e]
      have xS:decide (1<k)=false:=by simpa using g1
      by_cases g2:r.vars<=n
      ·have JO:decide (r.vars<=n)=true:=by simpa using g2
       have e:=bad (by rw[decide_eq_false (by omega: ¬n<r.vars)];simp)
       refine TA xS JO ?_
       rw[e]
      have JO:decide (r.vars<=n)=false:=by simpa using g2
      by_cases g3:0<ir (et 1 r.bf) n
      ·have X9:decide (0<ir (et 1 r.bf) n)=true:=by simpa using g3
       have e:=bad (by rw[decide_eq_false (by omega: ¬ir (et 1 r.bf) n<=0)];simp)
       refine Y6 xS JO X9 ?_
       rw[e]
      have X9:decide (0<ir (et 1 r.bf) n)=false:=by simpa using g3
      have e2:(decide (k<=1)&&decide (n<r.vars)&&decide (ir (et 1 r.bf) n<=0))=true:=by
       simp;omega
      rw[e2,Bool.true_and]at hC
      refine Y6 xS JO X9 ?_
      refine ax (rest.eraseIdx i,some (.int .i64 n,D.i k)) hC mX (bE.bS _ (show 0<=74 from ad) ad dp (fun j hj=>by first|(rw[iG];done)|(repeat(first|rfl|rw[ab]|rw[aj _ _ _ _ (by omega)]))) ?_)
      exact cz
    ·have hle:=sX hm
     rw[sW (fun p=>decide (p.1<r.vars)) hm]at hB
     simp only at hB
     refine iP ?_
     refine aq (fun h3=> ?_) (fun h3=> ?_)
     ·have e:fF s r=false:=by
       have e2:decide (n<r.vars)=false:=by
        simp at h3|-;omega
       rw[hR,hB,e2];simp
      refine aG ?_
      rw[e]
     ·have e2:decide (n<r.vars)=true:=by
       simp at h3|-;omega
      rw[e2,Bool.true_and]at hB
      refine aG ?_
      refine ax (rest.eraseIdx i,some (.int .i64 n,D.i k)) hB mX (bE.bS _ (show 0<=70 from ad) ad dp (fun j hj=>by first|(rw[iG];done)|(repeat(first|rfl|rw[ab]|rw[aj _ _ _ _ (by omega)]))) ?_)
      exact cz
   ·have hle:=sX hm
    rw[sW (fun p=>decide (p.2<=1)&&decide (p.1<r.vars)) hm]at hA
    simp only at hA
    refine iP ?_
    refine aq (fun h3=> ?_) (fun h3=> ?_)
    ·have e:fF s r=false:=by
      have e2:(decide (k<=1)&&decide (n<r.vars))=false:=by
       simp at h3|-;omega
      rw[hR,hA,e2];simp
     refine aG ?_
     rw[e]
    ·have e2:(decide (k<=1)&&decide (n<r.vars))=true:=by
      simp at h3|-;omega
     rw[e2,Bool.true_and]at hA
     refine aG ?_
     refine ax (rest.eraseIdx i,some (.int .i64 n,D.i k)) hA mX (bE.bS _ (show 0<=63 from ad) ad dp (fun j hj=>by first|rw[iG]|(repeat(first|rfl|rw[ab]|rw[aj _ _ _ _ (by omega)]))) ?_)
     exact cz
def l7{σ α:Type}(step:σ->α->σ×Bool):σ->List α->Int->Int
 |_,[],_=> -1
 |s,x::l,k=>if(step s x).2=true then l7 step (step s x).1 l (k+1)else k
theorem uL{σ α:Type}(step:σ->α->σ×Bool):∀ (l:List α) (s:σ) (k:Int),0<=k->(0<=l7 step s l k↔(aA step s l).2=false)
 |[],_,_,_=>by simp[l7,aA]
 |x::l,s,k,hk=>by
  have ih:=uL step l (step s x).1 (k+1) ad
  by_cases h:(step s x).2=true
  ·simp only[l7,aA,h,if_true];exact ih
  ·simp[l7,aA,h,hk]
theorem Xu{σ:Type}(l:List Rl)(hl:l.length<=9223372036854775807)(g:Nat)(aL:List V)(base:Nat)(H:σ->Nat->ae)(step:σ->Rl->σ×Bool)(hc:∀r∈V.aQ aL,r<base)(ok:σ->Prop)(bA:∀x∈l,∀s,ok s->(step s x).2=true->ok (step s x).1)
 (h:∀x∈l,∀s,ok s->fR Tryz.prog g (.d x.d::aL) base (H s) (H (step s x).1) (.d (.bool (!(step s x).2)))) (s:σ) (gG:ok s):
 fR Tryz.prog 229 [.d (.sl (l.map Rl.d)), .func (.func g) [] aL] base (H s) (H (aA step s l).1) (.d (.i (l7 step s l 0))):=by
 intro o nx hI K X hK
 have fN:∀r∈V.aQ aL,r<nx:=fun r hr=>Nat.lt_of_lt_of_le (hc r hr) hI.le
 refine cU.ay mix SV au ?_
 rw[WQ]
 refine b7 ?_
 refine aE (fun i:Nat×σ×(Nat->ae)×Nat=>⟨bz [.d (.sl (l.map Rl.d)), .func (.func g) [] aL, .aa, .aa, .aa, .aa, .aa, .d (.i l.length), .d (.i i.1)],i.2.2.1,i.2.2.2⟩)
  (fun i=>i.1<=l.length/\cW base (H i.2.1) i.2.2.1 i.2.2.2/\nx<=i.2.2.2/\(∀id,base<=id->id<nx->i.2.2.1 id=o id)/\aA step s l=aA step i.2.1 (l.drop i.1)/\ok i.2.1/\l7 step s l 0=l7 step i.2.1 (l.drop i.1) i.1) (fun i=>l.length - i.1) (0,s,o,nx)
  ⟨Nat.zero_le _,hI,Nat.le_refl _,fun _ _ _=>rfl,rfl,gG,rfl⟩ ?_ ?_
 ·dsimp only
  refine bE.bS _ (Nat.le_refl _) ad hI.bU (fun _ _=>rfl) ?_
  exact cz
 rintro⟨k,s',o',nx'⟩ ⟨hk,oX,hn,dh,hf,jX,kL⟩
 simp only at hk oX hn dh hf jX kL
 refine b7 ?_
 refine aq (fun h1=> ?_) (fun h1=> ?_)
 ·simp at h1
  obtain⟨x,hx⟩:=aw h1
  have cw:=List.mem_of_getElem? hx
  have hd:l.drop k=x::l.drop (k+1):=by
   rw[List.drop_eq_getElem_cons h1]
   rw[List.getElem?_eq_getElem h1]at hx;injection hx with hx;rw[hx]
  rw[hd]at hf kL
  simp only[aA,l7]at hf kL
  refine Hr hx ?_
  refine df (h x cw s' jX _ _ (oX.mono ad) _ _ fun o2 n2 m1 m2 m3=> ?_)
  cases hb:(step s' x).2 with
  |true=>
   rw[hb]at hf kL
   simp only[if_true]at hf kL
   refine aG ?_
   have Df:∀r∈V.aQ aL,r<n2+1+1:=fun r hr=>by have:=fN r hr;omega
   refine ax (k+1,(step s' x).1,o2,n2+1+1) ⟨h1,m2.mono (show n2<=n2+1+1 from ad),(show nx<=n2+1+1 from ad),fun id i1 i2=>(m3 id i1 ad).trans (dh id i1 i2),hf,bA x cw s' jX hb,by rw[kL];rfl⟩ mX (bE.bS _ (show nx<=n2+1+1 from ad) (Nat.le_refl _) (m2.mono (show n2<=n2+1+1 from ad)).bU (fun _ _=>rfl) ?_)
   exact cz
  |false=>
   rw[hb]at hf kL
   simp only[Bool.false_eq_true,if_false]at hf kL
   refine b7 ?_
   rw[hf,kL]at hK
   exact hK _ _ ad (m2.mono ad) fun id i1 i2=>(m3 id i1 ad).trans (dh id i1 i2)
 ·simp at h1
  refine b7 ?_
  rw[List.drop_eq_nil_of_le h1]at hf kL
  rw[hf,kL]at hK
  exact hK _ _ ad (oX.mono ad) dh
theorem Dw{σ:Type}(l:List Rl)(hl:l.length<=9223372036854775807)(g:Nat)(aL:List V)(base:Nat)(H:σ->Nat->ae)(step:σ->Rl->σ×Bool)(hc:∀r∈V.aQ aL,r<base)(ok:σ->Prop)(bA:∀x∈l,∀s,ok s->(step s x).2=true->ok (step s x).1)
 (h:∀x∈l,∀s,ok s->fR Tryz.prog g (.d x.d::aL) base (H s) (H (step s x).1) (.d (.bool (!(step s x).2)))) (s:σ) (gG:ok s):
 fR Tryz.prog 183 [.d (.sl (l.map Rl.d)), .func (.func g) [] aL] base (H s) (H (aA step s l).1) (.d (.bool (!(aA step s l).2))):=by
 intro o nx hI K X hK
 have fN:∀r∈V.aQ aL,r<nx:=fun r hr=>Nat.lt_of_lt_of_le (hc r hr) hI.le
 refine cU.ay mix Sw au ?_
 rw[Wq]
 refine iP ?_
 refine br (Xu l hl g aL base H step hc ok bA h s gG _ _ ?_ _ _ fun o2 n2 m1 m2 m3=> ?_)
 ·exact hI.mono ad
 refine iP ?_
 have e:decide (0<=l7 step s l 0)= !(aA step s l).2:=by
  have:=uL step l s 0 ad
  rw[Bool.eq_iff_iff,decide_eq_true_eq,this]
  cases(aA step s l).2<;>simp
 rw[e]
 exact hK _ _ ad (m2.mono ad) fun id i1 i2=>m3 id i1 ad
theorem acZ{x:Rl}{g:Nat}{aL:List V}{base c bx:Nat}{h h2 O:Nat->ae}{r:Bool}(hS:fR Tryz.prog g (.d x.d::aL) base h h2 (.d (.bool r)))(hb:base<=bx)(QM:bx<c)(hO:O bx= .row [.func (.func g) [] aL])(hc:∀r∈V.aQ aL,r<base):
 fR Tryz.prog 184 [.d x.d, .ptr bx 0] c (ext base h O) (ext base h2 O) (.d (.bool (!r))):=by
 intro o nx hI K X hK
 have hle:=hI.le
 have fN:∀r∈V.aQ aL,r<nx:=fun r hr=>by have:=hc r hr;omega
 have ho:o bx= .row [.func (.func g) [] aL]:=by
  exact J6
 have y1:∀k,bx≠nx+k:=fun k=>ad
 have y2:bx≠nx:=ad
 refine cU.ay mix Sx au ?_
 rw[Wr]
 refine zM ho y1 y2 ?_
 refine df ((hS.ext (by omega:base<=c) O) _ _ ?_ _ _ fun o2 n2 m1 m2 m3=> ?_)
 ·exact hI.aK ad ad ad rfl
 refine iP ?_
 exact hK _ _ ad (m2.mono ad) fun id i1 i2=>by rw[m3 id i1 (by omega),aj _ _ _ _ (by omega)]
theorem I2{σ:Type}(l:List Rl)(hl:l.length<=9223372036854775807)(g:Nat)(aL:List V)(base:Nat)(H:σ->Nat->ae)(step:σ->Rl->σ×Bool)(hc:∀r∈V.aQ aL,r<base)(ok:σ->Prop)(bA:∀x∈l,∀s,ok s->(step s x).2=true->ok (step s x).1)
 (h:∀x∈l,∀s,ok s->fR Tryz.prog g (.d x.d::aL) base (H s) (H (step s x).1) (.d (.bool (step s x).2))) (s:σ) (gG:ok s):
 fR Tryz.prog 130 [.d (.sl (l.map Rl.d)), .func (.func g) [] aL] base (H s) (H (aA step s l).1) (.d (.bool (aA step s l).2)):=by
 intro o nx hI K X hK
 have hle:=hI.le
 have fN:∀r∈V.aQ aL,r<nx:=fun r hr=>Nat.lt_of_lt_of_le (hc r hr) hI.le
 refine cU.ay mix RX au ?_
 rw[VT]
 refine iP ?_
 refine br (Dw l hl 184 [.ptr nx 0] (nx+1) (fun s=>ext base (H s) (aK o nx (.row [.func (.func g) [] aL]))) step mc ok bA (fun x hx s hs=>acZ (h x hx s hs) hle ad (ab _ _ _) hc) s gG _ _ ?_ _ _ fun o2 n2 m1 m2 m3=> ?_)
 ·have hr:(ae.row [V.func (.func g) [] aL]).refs.all (fun r=>decide (r<nx+4))=true:=by
   rw[List.all_eq_true]
   intro r hr
   have h1:r∈V.aQ aL:=by simpa[ae.refs,V.aQ,V.refs]using hr
   have:=fN r h1
   simp;omega
  exact(hI.aK ad ad ad hr).ext ad ad
 refine iP ?_
 refine hK _ _ ad ⟨(m2.mono ad).bU,by have:=m2.le;omega,fun id aC=> ?_⟩ fun id i1 i2=> ?_
 ·exact zS
 ·exact J4
theorem Ba(l:List Rl)(hl:l.length<=9223372036854775807)(g:Nat)(aL:List V)(base:Nat)(h:Nat->ae)(p:Rl->Bool)(hc:∀r∈V.aQ aL,r<base)
 (hp:∀x∈l,fR Tryz.prog g (.d x.d::aL) base h h (.d (.bool (p x)))):fR Tryz.prog 130 [.d (.sl (l.map Rl.d)), .func (.func g) [] aL] base h h (.d (.bool (l.all p))):=by
 have:=I2 l hl g aL base (fun _:Unit=>h) (fun _ x=>((),p x)) hc (fun _=>True) (fun _ _ _ _ _=>trivial) (fun x hx _ _=>hp x hx) () trivial
 exact N4
structure Pg where
 sig:ba
 rules:List Rl
@[reducible] def Pg.row (p:Pg):List V:=[.d (.sl (p.sig.cons.map jW.d)), .d (.sl (p.sig.bZ.map jW.d)), .d (.sl (p.rules.map Rl.d))]
@[reducible] def Pg.d (p:Pg):D:= .agg [.sl (p.sig.cons.map jW.d), .sl (p.sig.bZ.map jW.d), .sl (p.rules.map Rl.d)]
structure Pg.Fin (p:Pg):Prop where
 sig:p.sig.Fits
 len:p.rules.length<=9223372036854775807
 all:∀r∈p.rules,r.Fin
def mV(p:Pg):Bool:=decide (p.rules.length<=16)&&(kF p.sig&&p.rules.all (fF p.sig))
theorem I3(p:Pg)(hp:p.Fin)(r:Rl)(hr:r∈p.rules)(base sp:Nat)(h:Nat->ae)(vc:h sp= .row p.row)(hb:sp<base):fR Tryz.prog 131 [.d r.d, .ptr sp 0] base h h (.d (.bool (fF p.sig r))):=by
 intro o nx hI K X hK
 have hle:=hI.le
 have hg:=hI.bU
 have q0:o sp= .row p.row:=by rw[hI.eq sp hb,vc]
 refine cU.ay mix RY au ?_
 rw[VU]
 refine cg q0 ?_
 refine ag (PV p.sig hp.sig r (hp.all r hr)) rfl ?_
 refine aG ?_
 exact hK _ _ ad ⟨dp,ad,fun j hj=>by rw[aj _ _ _ _ (by omega),hI.eq j hj]⟩ (fun j g1 g2=>by(repeat(first|rfl|rw[ab]|rw[aj _ _ _ _ (by omega)])))
theorem Mo(p:Pg)(hp:p.Fin):aR Tryz.prog 95 [p.d] (.ret [.bool (mV p)]):=by
 have hl:=hp.len
 refine aR.ay mix aaO au ?_
 rw[c95]
 unfold mV
 by_cases h0: ¬p.rules.length<=16
 ·have Bw:decide ((p.rules.length:Int)<=16)=false:=by simp;omega
  have Ft:decide (p.rules.length<=16)=false:=by simp;omega
  refine dn Bw ?_
  rw[Ft];rfl
 have Bw:decide ((p.rules.length:Int)<=16)=true:=by simp;omega
 have Ft:decide (p.rules.length<=16)=true:=by simp;omega
 rw[Ft,Bool.true_and]
 refine dn Bw ?_
 refine ag (wk p.sig hp.sig) rfl ?_
 cases h1:kF p.sig with
 |false=>
  refine zO ?_
  try simp
 |true=>
  refine zO ?_
  refine br (Ba p.rules hl 131 [.ptr 0 0] 1 (aK (fun _=> .no) 0 (.row p.row)) (fF p.sig) mc (fun x hx=>I3 p hp x hx 1 0 _ (ab _ _ _) ad) _ _ ⟨dp,ad,fun id aC=>rfl⟩ _ _ fun o2 n2 m1 m2 m3=> ?_)
  refine aG ?_
  try simp
theorem Dx(p:Pg)(hp:p.Fin):aR Tryz.prog 54 [p.d] (.ret [.i (mQ (mV p))]):=by
 refine aR.ay mix aaA au ?_
 rw[c54]
 refine aG ?_
 refine ag (Mo p hp) rfl ?_
 cases h1:mV p with
 |false=>exact Ht
 |true=>exact Ht
inductive Pf where
 |mk (bp:Int) (val:Tm) (num:Int) (binds:List Tm) (kids:List Pf)
 deriving Inhabited
def Pf.bp:Pf->Int| .mk r _ _ _ _=>r
def Pf.val:Pf->Tm| .mk _ v _ _ _=>v
def Pf.num:Pf->Int| .mk _ _ n _ _=>n
def Pf.binds:Pf->List Tm| .mk _ _ _ b _=>b
def Pf.kids:Pf->List Pf| .mk _ _ _ _ k=>k
theorem Pf.ind {P:Pf->Prop}(h:∀r v n b kids,(∀k∈kids,P k)->P (.mk r v n b kids)):∀t,P t:=
 fun t=>Pf.rec (motive_1:=P) (motive_2:=fun l=>∀k∈l,P k) (fun r v n b kids ih=>h r v n b kids ih) (fun _ h=>by cases h)
  (fun x l hx hl k hk=>(List.mem_cons.1 hk).elim (fun e=>e ▸ hx) (hl k)) t
theorem Pf.cB {P:Pf->Prop}(h:∀t:Pf,(∀k∈t.kids,P k)->P t):∀t,P t:=Pf.ind fun r v n b kids ih=>h (.mk r v n b kids) ih
mutual
def Pf.d:Pf->D
 | .mk r v n b kids=> .agg [.i r, .i v.op, .i v.n, .sl (v.kids.map Tm.d), .i n, .sl (b.map Tm.d), .sl (Pf.ds kids)]
def Pf.ds:List Pf->List D
 |[]=>[]
 |t::l=>t.d::Pf.ds l
end
theorem Pf.sL:∀l:List Pf,Pf.ds l=l.map Pf.d
 |[]=>rfl
 |t::l=>by simp[Pf.ds,Pf.sL l]
theorem Pf.Iw (t:Pf):t.d= .agg [.i t.bp, .i t.val.op, .i t.val.n, .sl (t.val.kids.map Tm.d), .i t.num, .sl (t.binds.map Tm.d), .sl (t.kids.map Pf.d)]:=by
 cases t;simp[Pf.d,Pf.sL,Pf.bp,Pf.val,Pf.num,Pf.binds,Pf.kids]
@[go_sem] theorem Pf.Vc (t:Pf):D.agg [.i t.bp, .i t.val.op, .i t.val.n, .sl (t.val.kids.map Tm.d), .i t.num, .sl (t.binds.map Tm.d), .sl (t.kids.map Pf.d)]=t.d:=(Pf.Iw t).symm
@[go_sem] theorem Pf.O7 (t:Pf):D.cells t.d=[.i t.bp, .i t.val.op, .i t.val.n, .sl (t.val.kids.map Tm.d), .i t.num, .sl (t.binds.map Tm.d), .sl (t.kids.map Pf.d)]:=by rw[Pf.Iw];rfl
@[reducible] def Pf.row (t:Pf):List V:=[.d (.i t.bp), .d (.i t.val.op), .d (.i t.val.n), .d (.sl (t.val.kids.map Tm.d)), .d (.i t.num), .d (.sl (t.binds.map Tm.d)), .d (.sl (t.kids.map Pf.d))]
mutual
def Pf.fits:Pf->Prop
 | .mk _ v _ b kids=>v.fits/\b.length<=9223372036854775807/\(∀t∈b,t.fits)/\kids.length<=9223372036854775807/\Pf.jB kids
def Pf.jB:List Pf->Prop
 |[]=>True
 |t::l=>t.fits/\Pf.jB l
end
theorem Pf.lY:∀l:List Pf,Pf.jB l↔∀k∈l,k.fits
 |[]=>by simp[Pf.jB]
 |t::l=>by simp[Pf.jB,Pf.lY l]
theorem Pf.aJ (t:Pf):t.fits↔t.val.fits/\t.binds.length<=9223372036854775807/\(∀x∈t.binds,x.fits)/\t.kids.length<=9223372036854775807/\∀k∈t.kids,k.fits:=by
 cases t;simp[Pf.fits,Pf.lY,Pf.kids,Pf.val,Pf.binds]
mutual
def dt:Pf->Int->List (Pf×Int)
 | .mk r v n b kids,d=>(.mk r v n b kids,d)::GY kids (d+1)
def GY:List Pf->Int->List (Pf×Int)
 |[],_=>[]
 |k::l,d=>dt k d++GY l d
end
theorem Fu(l:List Pf)(d:Int):GY l d=l.flatMap fun k=>dt k d:=by
 induction l with
 |nil=>rfl
 |cons k l ih=>simp[GY,ih]
theorem oK(t:Pf)(d:Int):dt t d=(t,d)::t.kids.flatMap fun k=>dt k (d+1):=by cases t;simp[dt,Fu,Pf.kids]
theorem Xv{σ:Type}(l:List Pf)(hl:l.length<=9223372036854775807)(g:Nat)(aL:List V)(base:Nat)(H:σ->Nat->ae)(step:σ->Pf->σ×Bool)(hc:∀r∈V.aQ aL,r<base)(ok:List Pf->σ->Prop)(bA:∀x∈l,∀r s,ok (x::r) s->(step s x).2=true->ok r (step s x).1)
 (h:∀x∈l,∀r s,ok (x::r) s->fR Tryz.prog g (.d x.d::aL) base (H s) (H (step s x).1) (.d (.bool (!(step s x).2)))) (s:σ) (gG:ok l s):
 fR Tryz.prog 192 [.d (.sl (l.map Pf.d)), .func (.func g) [] aL] base (H s) (H (aA step s l).1) (.d (.i (l7 step s l 0))):=by
 intro o nx hI K X hK
 have fN:∀r∈V.aQ aL,r<nx:=fun r hr=>Nat.lt_of_lt_of_le (hc r hr) hI.le
 refine cU.ay mix SF au ?_
 rw[Wz]
 refine b7 ?_
 refine aE (fun i:Nat×σ×(Nat->ae)×Nat=>⟨bz [.d (.sl (l.map Pf.d)), .func (.func g) [] aL, .aa, .aa, .aa, .aa, .aa, .d (.i l.length), .d (.i i.1)],i.2.2.1,i.2.2.2⟩)
  (fun i=>i.1<=l.length/\cW base (H i.2.1) i.2.2.1 i.2.2.2/\nx<=i.2.2.2/\(∀id,base<=id->id<nx->i.2.2.1 id=o id)/\aA step s l=aA step i.2.1 (l.drop i.1)/\ok (l.drop i.1) i.2.1/\l7 step s l 0=l7 step i.2.1 (l.drop i.1) i.1) (fun i=>l.length - i.1) (0,s,o,nx)
  ⟨Nat.zero_le _,hI,Nat.le_refl _,fun _ _ _=>rfl,rfl,gG,rfl⟩ ?_ ?_
 ·dsimp only
  refine bE.bS _ (Nat.le_refl _) ad hI.bU (fun _ _=>rfl) ?_
  exact cz
 rintro⟨k,s',o',nx'⟩ ⟨hk,oX,hn,dh,hf,jX,kL⟩
 simp only at hk oX hn dh hf jX kL
 refine b7 ?_
 refine aq (fun h1=> ?_) (fun h1=> ?_)
 ·simp at h1
  obtain⟨x,hx⟩:=aw h1
  have cw:=List.mem_of_getElem? hx
  have hd:l.drop k=x::l.drop (k+1):=by
   rw[List.drop_eq_getElem_cons h1]
   rw[List.getElem?_eq_getElem h1]at hx;injection hx with hx;rw[hx]
  rw[hd]at hf kL jX
  simp only[aA,l7]at hf kL
  refine Hr hx ?_
  refine df (h x cw _ s' jX _ _ (oX.mono ad) _ _ fun o2 n2 m1 m2 m3=> ?_)
  cases hb:(step s' x).2 with
  |true=>
   rw[hb]at hf kL
   simp only[if_true]at hf kL
   refine aG ?_
   have Df:∀r∈V.aQ aL,r<n2+1+1:=fun r hr=>by have:=fN r hr;omega
   refine ax (k+1,(step s' x).1,o2,n2+1+1) ⟨h1,m2.mono (show n2<=n2+1+1 from ad),(show nx<=n2+1+1 from ad),fun id i1 i2=>(m3 id i1 ad).trans (dh id i1 i2),hf,bA x cw _ s' jX hb,by rw[kL];rfl⟩ mX (bE.bS _ (show nx<=n2+1+1 from ad) (Nat.le_refl _) (m2.mono (show n2<=n2+1+1 from ad)).bU (fun _ _=>rfl) ?_)
   exact cz
  |false=>
   rw[hb]at hf kL
   simp only[Bool.false_eq_true,if_false]at hf kL
   refine b7 ?_
   rw[hf,kL]at hK
   exact hK _ _ ad (m2.mono ad) fun id i1 i2=>(m3 id i1 ad).trans (dh id i1 i2)
 ·simp at h1
  refine b7 ?_
  rw[List.drop_eq_nil_of_le h1]at hf kL
  rw[hf,kL]at hK
  exact hK _ _ ad (oX.mono ad) dh
theorem Dy{σ:Type}(l:List Pf)(hl:l.length<=9223372036854775807)(g:Nat)(aL:List V)(base:Nat)(H:σ->Nat->ae)(step:σ->Pf->σ×Bool)(hc:∀r∈V.aQ aL,r<base)(ok:List Pf->σ->Prop)(bA:∀x∈l,∀r s,ok (x::r) s->(step s x).2=true->ok r (step s x).1)
 (h:∀x∈l,∀r s,ok (x::r) s->fR Tryz.prog g (.d x.d::aL) base (H s) (H (step s x).1) (.d (.bool (!(step s x).2)))) (s:σ) (gG:ok l s):
 fR Tryz.prog 133 [.d (.sl (l.map Pf.d)), .func (.func g) [] aL] base (H s) (H (aA step s l).1) (.d (.bool (!(aA step s l).2))):=by
 intro o nx hI K X hK
 have fN:∀r∈V.aQ aL,r<nx:=fun r hr=>Nat.lt_of_lt_of_le (hc r hr) hI.le
 refine cU.ay mix R0 au ?_
 rw[VW]
 refine iP ?_
 refine br (Xv l hl g aL base H step hc ok bA h s gG _ _ ?_ _ _ fun o2 n2 m1 m2 m3=> ?_)
 ·exact hI.mono ad
 refine iP ?_
 have e:decide (0<=l7 step s l 0)= !(aA step s l).2:=by
  have:=uL step l s 0 ad
  rw[Bool.eq_iff_iff,decide_eq_true_eq,this]
  cases(aA step s l).2<;>simp
 rw[e]
 exact hK _ _ ad (m2.mono ad) fun id i1 i2=>m3 id i1 ad
theorem ac0{x:Pf}{g:Nat}{aL:List V}{base c bx:Nat}{h h2 O:Nat->ae}{r:Bool}(hS:fR Tryz.prog g (.d x.d::aL) base h h2 (.d (.bool r)))(hb:base<=bx)(QM:bx<c)(hO:O bx= .row [.func (.func g) [] aL])(hc:∀r∈V.aQ aL,r<base):
 fR Tryz.prog 134 [.d x.d, .ptr bx 0] c (ext base h O) (ext base h2 O) (.d (.bool (!r))):=by
 intro o nx hI K X hK
 have hle:=hI.le
 have fN:∀r∈V.aQ aL,r<nx:=fun r hr=>by have:=hc r hr;omega
 have ho:o bx= .row [.func (.func g) [] aL]:=by
  exact J6
 have y1:∀k,bx≠nx+k:=fun k=>ad
 have y2:bx≠nx:=ad
 refine cU.ay mix R1 au ?_
 rw[VX]
 refine zM ho y1 y2 ?_
 refine df ((hS.ext (by omega:base<=c) O) _ _ ?_ _ _ fun o2 n2 m1 m2 m3=> ?_)
 ·exact hI.aK ad ad ad rfl
 refine iP ?_
 exact hK _ _ ad (m2.mono ad) fun id i1 i2=>by rw[m3 id i1 (by omega),aj _ _ _ _ (by omega)]
theorem I4{σ:Type}(l:List Pf)(hl:l.length<=9223372036854775807)(g:Nat)(aL:List V)(base:Nat)(H:σ->Nat->ae)(step:σ->Pf->σ×Bool)(hc:∀r∈V.aQ aL,r<base)(ok:List Pf->σ->Prop)(bA:∀x∈l,∀r s,ok (x::r) s->(step s x).2=true->ok r (step s x).1)
 (h:∀x∈l,∀r s,ok (x::r) s->fR Tryz.prog g (.d x.d::aL) base (H s) (H (step s x).1) (.d (.bool (step s x).2))) (s:σ) (gG:ok l s):
 fR Tryz.prog 98 [.d (.sl (l.map Pf.d)), .func (.func g) [] aL] base (H s) (H (aA step s l).1) (.d (.bool (aA step s l).2)):=by
 intro o nx hI K X hK
 have hle:=hI.le
 have fN:∀r∈V.aQ aL,r<nx:=fun r hr=>Nat.lt_of_lt_of_le (hc r hr) hI.le
 refine cU.ay mix aaR au ?_
 rw[c98]
 refine iP ?_
 refine br (Dy l hl 134 [.ptr nx 0] (nx+1) (fun s=>ext base (H s) (aK o nx (.row [.func (.func g) [] aL]))) step mc ok bA (fun x hx r s hs=>ac0 (h x hx r s hs) hle ad (ab _ _ _) hc) s gG _ _ ?_ _ _ fun o2 n2 m1 m2 m3=> ?_)
 ·have hr:(ae.row [V.func (.func g) [] aL]).refs.all (fun r=>decide (r<nx+4))=true:=by
   rw[List.all_eq_true]
   intro r hr
   have h1:r∈V.aQ aL:=by simpa[ae.refs,V.aQ,V.refs]using hr
   have:=fN r h1
   simp;omega
  exact(hI.aK ad ad ad hr).ext ad ad
 refine iP ?_
 refine hK _ _ ad ⟨(m2.mono ad).bU,by have:=m2.le;omega,fun id aC=> ?_⟩ fun id i1 i2=> ?_
 ·exact zS
 ·exact J4
end Go.Proofs.YtonbelhklnmjnaaGreat
