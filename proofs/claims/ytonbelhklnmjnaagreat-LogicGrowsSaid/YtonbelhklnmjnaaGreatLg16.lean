/-
  A PART OF THE PROOF. Conditions: none.
-/
import Derived.Test.YtonbelhklnmjnaaGreatLg15
set_option linter.unusedSimpArgs false
set_option linter.unusedVariables false
namespace Go.Proofs.YtonbelhklnmjnaaGreat
def gY(m:List (Int×Int))(v:Int):Int:=(lk m v).getD 0
def lq:List (Int×Int)->Int->Int->List (Int×Int)
 |[],v,w=>[(v,w)]
 |p::m,v,w=>if p.1=v then(v,w)::m else p::lq m v w
theorem Cz(v:Int):∀ (m:List (Int×D)) (i:Nat),fT v m (i+1)=(fT v m i).map fun p=>(p.1+1,p.2)
 |[],_=>rfl
 |p::m,i=>by
  have ih:=Cz v m (i+1)
  simp only[fT]
  by_cases h:(v==p.1)=true
  ·simp[h]
  ·simp only[h,if_false];exact ih
theorem HM{v:Int}{p:Int×D}{m:List (Int×D)}{x:D}(h: ¬v=p.1):wM v x (p::m)=p::wM v x m:=by
 have hb: ¬ ((v==p.1)=true):=by simpa using h
 unfold wM
 simp only[fT,hb,if_false]
 rw[Cz]
 cases fT v m 0 with
 |none=>rfl
 |some q=>obtain⟨i,y⟩:=q;rfl
theorem lP:∀ (m:List (Int×Int)) (v w:Int),wM v (D.i w) (ints m)=ints (lq m v w)
 |[],v,w=>by simp[wM,fT,ints,lq]
 |p::m,v,w=>by
  have ih:=lP m v w
  by_cases h:p.1=v
  ·subst h
   simp[wM,fT,ints,lq]
  ·have h': ¬v=p.1:=fun e=>h e.symm
   have e2:ints (p::m)=(p.1,D.i p.2)::ints m:=rfl
   rw[e2,HM h',ih]
   simp[lq,h,ints]
def tC(m:List (Int×Int))(v:Int):List (Int×Int):=lq m v (IntKind.i64.wrap (gY m v+1))
@[reducible] def qB (m:List (Int×Int)):ab:= .map 3 3 (enc (D.int .i64) (ints m))
def dW(op:Int)(m:List (Int×Int))(x:Tm):List (Int×Int):=if x.op=op then tC m x.n else m
def aaG(R:List (Int×Int)->Prop)(o:Nat->ab)(nx:Nat)(K:V->(Nat->ab)->Nat->Prop):Prop:=
 ∀o' nx' id m,nx<=id->id<nx'->Good o' nx'->(∀j,j<nx->o' j=o j)->o' id=qB m->R m->K (.mp id) o' nx'
theorem V1(t:Tm)(ht:t.fits)(o:Nat->ab)(nx:Nat)(hg:Good o nx)(K X:V->(Nat->ab)->Nat->Prop)
 (hK:aaG (fun m=>m=(iF t).foldl (dW 8) []) o nx K):cK Tryz.prog 190 [.d t.d] o nx K X:=by
 refine cK.aA mix Rf aj ?_
 rw[Va]
 refine iC ?_
 refine c6 (yg t _ _ _ _ ?_)
 refine iC ?_
 have hG:∀j,j<nx+10->aL (aL (aL (aL (aL o nx (.row [.d (.i t.op), .d (.i t.n), .d (.sl (t.kids.map Tm.d))])) (nx+2) (.map 3 3 [])) (nx+3) (.row [.d .ji])) (nx+3) (.row [.mp (nx+2)])) (nx+6) (.row t.row) j=aL (aL (aL (aL o nx (.row t.row)) (nx+3) (.row [.mp (nx+2)])) (nx+6) (.row t.row)) (nx+2) (qB []) j:=by
  intro j _
  exact sr
 refine qA (σ:=List (Int×Int)) t ht [.aa, .ptr nx 0, .aa, .ptr (nx+3) 0] ?_ aV rfl dg lU (ae _ _ _)
  (fun s=>aL (aL (aL (aL o nx (.row t.row)) (nx+3) (.row [.mp (nx+2)])) (nx+6) (.row t.row)) (nx+2) (qB s)) (fun _=>none) (dW 8) (fun _=>True) [] trivial rfl hG (fun _ _ _ _ _ _=>trivial) ?_ ?_
 ·exact IU
 ·intro L hL wg x hx s' _ _ o3 n3 hI hn IE K' X' cN
  simp only[nn]
  have hg:=hI.bN
  have hle:=hI.le
  have q1:o3 (nx+3)= .row [.mp (nx+2)]:=by rw[hI.eq (nx+3) (by omega)];(repeat(first|rfl|rw[ae]|rw[ai _ _ _ _ (by omega)]))
  have q2:o3 (nx+2)=qB s':=by rw[hI.eq (nx+2) (by omega)];(repeat(first|rfl|rw[ae]|rw[ai _ _ _ _ (by omega)]))
  refine aI ?_
  refine nC hL (pd:=none) ?_ ?_
  ·(repeat(first|rfl|rw[ae]|rw[ai _ _ _ _ (by omega)]))
   exact IE
  refine uc q1 q2 ?_
  have z1:nx≠n3:=ad
  have z2:∀k,nx≠n3+k:=fun k=>ad
  have z3:nx+2≠n3:=ad
  have z4:nx+3≠n3:=ad
  have same:∀ (o':Nat->ab) (n':Nat) (l:List (Int×Int)),Good o' n'->n3<=n'->(∀j,j<nx+10->o' j=aL o3 (nx+2) (qB l) j)->cT (nx+10) (aL (aL (aL (aL o nx (.row t.row)) (nx+3) (.row [.mp (nx+2)])) (nx+6) (.row t.row)) (nx+2) (qB l)) o' n':=fun o' n' l k1 k2 k3=>⟨k1,ad,fun j hj=>by
   rw[k3 j hj]
   by_cases e:j=nx+2
   ·subst e;rw[ae,ae]
   ·rw[ai _ _ _ _ e,ai _ _ _ _ e,hI.eq j hj,ai _ _ _ _ e]⟩
  refine ak (fun h3=> ?_) (fun h3=> ?_)
  ·have rB:x.op=8:=by simpa using h3
   have hp:dW 8 s' x=tC s' x.n:=by unfold dW;rw[if_pos rB]
   rw[hp]at cN
   cases Om:lk s' x.n with
   |none=>
    have hc:tC s' x.n=lq s' x.n (0+1):=by unfold tC gY;rw[Om];rfl
    rw[hc]at cN
    simp+contextual (disch:=first|omega|simp only[go_sem,false_implies]) only[go_sem,wrap64,if_pos,q1,q2,z1,z2,z3,z4,mn Om,lP,Nat.add_assoc,Nat.left_eq_add,Nat.add_eq_left,Nat.add_left_cancel_iff]
    refine cN _ _ _ .busy none ad (same _ _ _ dg ad fun j hj=> ?_) eh (fun j h3 h4=>by(repeat(first|rfl|rw[ae]|rw[ai _ _ _ _ (by omega)])))
    by_cases e:j=nx+2
    ·subst e;(repeat(first|rfl|rw[ae]|rw[ai _ _ _ _ (by omega)]))
    ·exact eh
   |some c=>
    obtain⟨k,hk⟩:=mm Om
    have hc:tC s' x.n=lq s' x.n (IntKind.i64.wrap (c+1)):=by unfold tC gY;rw[Om];rfl
    rw[hc]at cN
    simp+contextual (disch:=first|omega|simp only[go_sem,false_implies]) only[go_sem,wrap64,if_pos,q1,q2,z1,z2,z3,z4,hk,lP,Nat.add_assoc,Nat.left_eq_add,Nat.add_eq_left,Nat.add_left_cancel_iff]
    refine cN _ _ _ .busy none ad (same _ _ _ dg ad fun j hj=> ?_) eh (fun j h3 h4=>by(repeat(first|rfl|rw[ae]|rw[ai _ _ _ _ (by omega)])))
    by_cases e:j=nx+2
    ·subst e;(repeat(first|rfl|rw[ae]|rw[ai _ _ _ _ (by omega)]))
    ·exact eh
  ·have hp:dW 8 s' x=s':=by unfold dW;rw[if_neg (by simpa using h3)]
   rw[hp]at cN
   refine aI ?_
   refine cN _ _ _ .busy none ad (same _ _ _ dg ad fun j hj=> ?_) eh (fun j h3 h4=>by(repeat(first|rfl|rw[ae]|rw[ai _ _ _ _ (by omega)])))
   by_cases e:j=nx+2
   ·subst e;(repeat(first|rfl|rw[ae]|rw[ai _ _ _ _ (by omega)]))
    exact q2
   ·exact eh
 ·intro o' n' hI
  have hle:=hI.le
  simp only[oX]
  have q1:o' (nx+3)= .row [.mp (nx+2)]:=by rw[hI.eq (nx+3) (by omega)];(repeat(first|rfl|rw[ae]|rw[ai _ _ _ _ (by omega)]))
  refine dz q1 ?_
  have AL:∀ (l:List Tm) (m:List (Int×Int)),(az (Ae (fun _=>none) (dW 8)) m l).1=l.foldl (dW 8) m:=by
   intro l
   induction l with
   |nil=>intro m;rfl
   |cons y l ih=>intro m;simp only[az,Ae,Option.isNone_none,if_true];exact ih _
  rw[AL]at hI
  refine hK _ _ _ _ ad ad (hI.bN.mono ad) (fun j hj=> ?_) (by rw[hI.eq (nx+2) (by omega),ae]) rfl
  rw[hI.eq j (by omega)];(repeat(first|rfl|rw[ae]|rw[ai _ _ _ _ (by omega)]))
theorem CA(l:List Tm)(hl:l.length<=1000000)(hf:∀t∈l,t.fits)(o:Nat->ab)(nx:Nat)(hg:Good o nx)(K X:V->(Nat->ab)->Nat->Prop)
 (hK:aaG (fun m=>m=(l.flatMap iF).foldl (dW 1) []) o nx K):cK Tryz.prog 189 [.d (.sl (l.map Tm.d))] o nx K X:=by
 refine cK.aA mix Re aj ?_
 rw[U9]
 refine Sc ?_
 let Hm:List (Int×Int)->Nat->ab:=fun m=>aL (aL o (nx+2) (.row [.mp (nx+1)])) (nx+1) (qB m)
 have hgm:∀m,Good (Hm m) (nx+7):=fun m=>((hg.mono ad).aL ad pI).aL ad rfl
 have S1:∀m,Hm m (nx+1)=qB m:=fun m=>ae _ _ _
 have Mk:∀m,Hm m (nx+2)= .row [.mp (nx+1)]:=fun m=>by show aL _ (nx+1) _ (nx+2)=_;rw[ai _ _ _ _ (by omega),ae]
 have wE:∀m j,j≠nx+1->Hm m j=Hm [] j:=fun m j h=>by show aL _ (nx+1) _ j=aL _ (nx+1) _ j;rw[ai _ _ _ _ h,ai _ _ _ _ h]
 refine aK (fun i:Nat×List (Int×Int)=>⟨bA [.aa, .aa, .aa, .ptr (nx+2) 0, .aa, .aa, .aa, .aa, .d (.sl (l.map Tm.d)), .d (.i l.length), .d (.i i.1)],Hm i.2,nx+7⟩)
  (fun i=>i.1<=l.length/\i.2=((l.take i.1).flatMap iF).foldl (dW 1) []) (fun i=>l.length - i.1) (0,[]) ⟨Nat.zero_le _,rfl⟩ (bL.bP _ (show nx<=nx+7 from ad) ad (hgm _) (fun j hj=> ?_) ?_) ?_
 ·show _=aL (aL o (nx+2) (.row [.mp (nx+1)])) (nx+1) (qB []) j
  exact sr
 ·exact cG
 rintro⟨k,m⟩ ⟨hk,hm⟩
 simp only at hk hm
 refine aI ?_
 refine ak (fun h2=> ?_) (fun h2=> ?_)
 ·simp at h2
  obtain⟨x,hx⟩:=aw h2
  have dc:=List.mem_of_getElem? hx
  have kQ:((l.take (k+1)).flatMap iF).foldl (dW 1) []=(iF x).foldl (dW 1) m:=by
   rw[List.take_add_one,hx,hm];simp
  have acK:=hgm m
  have e1:=S1 m
  have e2:=Mk m
  have e3:=wE m
  clear_value Hm
  refine AO hx ?_
  refine c6 (yg x _ _ _ _ ?_)
  refine iC ?_
  let G:List (Int×Int)->Nat->ab:=fun s=>aL (aL (aL (Hm m) (nx+10) (.row x.row)) (nx+13) (.row x.row)) (nx+1) (qB s)
  have hG:∀j,j<nx+17->aL (aL (aL (Hm m) (nx+10) (.row [.d (.int .i64 0), .d (.int .i64 0), .bW])) (nx+10) (.row [.d (.i x.op), .d (.i x.n), .d (.sl (x.kids.map Tm.d))])) (nx+13) (.row x.row) j=G m j:=by
   intro j _
   show _=aL (aL (aL (Hm m) (nx+10) (.row x.row)) (nx+13) (.row x.row)) (nx+1) (qB m) j
   by_cases e:j=nx+1
   ·subst e;(repeat(first|rfl|rw[ae]|rw[ai _ _ _ _ (by omega)]))
    exact e1
   ·rw[ai _ (nx+1) _ _ e,jh]
  have gm:∀s,G s (nx+1)=qB s:=fun s=>ae _ _ _
  have g2:∀s,G s (nx+2)= .row [.mp (nx+1)]:=fun s=>by
   show aL _ (nx+1) _ (nx+2)=_
   rw[ai _ _ _ _ (by omega),ai _ _ _ _ (by omega),ai _ _ _ _ (by omega)];exact e2
  have g3:∀s s' j,j≠nx+1->G s j=G s' j:=fun s s' j h=>by show aL _ (nx+1) _ j=aL _ (nx+1) _ j;rw[ai _ _ _ _ h,ai _ _ _ _ h]
  have g4:∀s j,j<nx+7->j≠nx+1->G s j=Hm m j:=fun s j h h'=>by
   show aL _ (nx+1) _ j=_
   rw[ai _ _ _ _ h',ai _ _ _ _ (by omega),ai _ _ _ _ (by omega)]
  clear_value G
  have hg:=acK
  refine qA (σ:=List (Int×Int)) x (hf x dc) [.aa, .aa, .aa, .ptr (nx+2) 0, .aa, .aa, .aa, .aa, .d (.sl (l.map Tm.d)), .d (.i l.length), .d (.i k)] ?_ aV rfl dg lU (ae _ _ _)
   G (fun _=>none) (dW 1) (fun _=>True) m trivial rfl hG (fun _ _ _ _ _ _=>trivial) ?_ ?_
  ·exact IU
  ·intro L hL wg y hy s' _ _ o3 n3 hI hn IE K' X' cN
   simp only[nn]
   have hg:=hI.bN
   have hle:=hI.le
   have q1:o3 (nx+2)= .row [.mp (nx+1)]:=by rw[hI.eq (nx+2) (by omega),g2]
   have q2:o3 (nx+1)=qB s':=by rw[hI.eq (nx+1) (by omega),gm]
   have z1:nx≠n3:=ad
   have z2:∀k,nx≠n3+k:=fun k=>ad
   have z3:nx+2≠n3:=ad
   have z4:nx+1≠n3:=ad
   have same:∀ (o':Nat->ab) (n':Nat) (l:List (Int×Int)),Good o' n'->n3<=n'->(∀j,j<nx+17->o' j=aL o3 (nx+1) (qB l) j)->cT (nx+17) (G l) o' n':=fun o' n' l k1 k2 k3=>⟨k1,ad,fun j hj=>by
    rw[k3 j hj]
    by_cases e:j=nx+1
    ·subst e;rw[ae,gm]
    ·rw[ai _ _ _ _ e,hI.eq j hj];exact g3 _ _ _ e⟩
   refine aI ?_
   refine nC hL (pd:=none) ?_ ?_
   ·(repeat(first|rfl|rw[ae]|rw[ai _ _ _ _ (by omega)]))
    exact IE
   refine uc q1 q2 ?_
   refine ak (fun h3=> ?_) (fun h3=> ?_)
   ·have rB:y.op=1:=by simpa using h3
    have hp:dW 1 s' y=tC s' y.n:=by unfold dW;rw[if_pos rB]
    rw[hp]at cN
    cases Om:lk s' y.n with
    |none=>
     have hc:tC s' y.n=lq s' y.n (0+1):=by unfold tC gY;rw[Om];rfl
     rw[hc]at cN
     simp+contextual (disch:=first|omega|simp only[go_sem,false_implies]) only[go_sem,wrap64,if_pos,q1,q2,z1,z2,z3,z4,mn Om,lP,Nat.add_assoc,Nat.left_eq_add,Nat.add_eq_left,Nat.add_left_cancel_iff]
     refine cN _ _ _ .busy none ad (same _ _ _ dg ad fun j hj=> ?_) eh (fun j h3 h4=>by(repeat(first|rfl|rw[ae]|rw[ai _ _ _ _ (by omega)])))
     by_cases e:j=nx+1
     ·subst e;(repeat(first|rfl|rw[ae]|rw[ai _ _ _ _ (by omega)]))
     ·exact eh
    |some c=>
     obtain⟨q,hq⟩:=mm Om
     have hc:tC s' y.n=lq s' y.n (IntKind.i64.wrap (c+1)):=by unfold tC gY;rw[Om];rfl
     rw[hc]at cN
     simp+contextual (disch:=first|omega|simp only[go_sem,false_implies]) only[go_sem,wrap64,if_pos,q1,q2,z1,z2,z3,z4,hq,lP,Nat.add_assoc,Nat.left_eq_add,Nat.add_eq_left,Nat.add_left_cancel_iff]
     refine cN _ _ _ .busy none ad (same _ _ _ dg ad fun j hj=> ?_) eh (fun j h3 h4=>by(repeat(first|rfl|rw[ae]|rw[ai _ _ _ _ (by omega)])))
     by_cases e:j=nx+1
     ·subst e;(repeat(first|rfl|rw[ae]|rw[ai _ _ _ _ (by omega)]))
     ·exact eh
   ·have hp:dW 1 s' y=s':=by unfold dW;rw[if_neg (by simpa using h3)]
    rw[hp]at cN
    refine aI ?_
    refine cN _ _ _ .busy none ad (same _ _ _ dg ad fun j hj=> ?_) eh (fun j h3 h4=>by(repeat(first|rfl|rw[ae]|rw[ai _ _ _ _ (by omega)])))
    by_cases e:j=nx+1
    ·subst e;(repeat(first|rfl|rw[ae]|rw[ai _ _ _ _ (by omega)]))
     exact q2
    ·exact eh
  ·intro o' n' hI
   have hle:=hI.le
   simp only[oX]
   have AL:∀ (l:List Tm) (m:List (Int×Int)),(az (Ae (fun _=>none) (dW 1)) m l).1=l.foldl (dW 1) m:=by
    intro l
    induction l with
    |nil=>intro m;rfl
    |cons y l ih=>intro m;simp only[az,Ae,Option.isNone_none,if_true];exact ih _
   rw[AL]at hI
   refine aI ?_
   refine au (k+1,(iF x).foldl (dW 1) m) ⟨h2,kQ.symm⟩ mG (bL.bP _ (show nx<=nx+7 from ad) ad (hgm _) (fun j hj=> ?_) ?_)
   ·rw[hI.eq j (by omega)]
    by_cases e:j=nx+1
    ·subst e;rw[gm,S1]
    ·rw[g4 _ _ hj e,e3 j e];exact(wE _ j e).symm
   ·exact cG
 ·simp at h2
  rw[List.take_of_length_le h2]at hm
  refine dz Mk ?_
  exact hK _ _ _ _ ad ad ((hgm _).mono ad) (fun j hj=>by show aL _ (nx+1) _ j=_;rw[ai _ _ _ _ (by omega),ai _ _ _ _ (by omega)]) (S1 m) hm
end Go.Proofs.YtonbelhklnmjnaaGreat
namespace Go.Proofs.YtonbelhklnmjnaaGreat
section
variable {B:Nat->Prop}{w:World}
end
theorem a7.sV {P:Program}{f:FuncId}{ds:List D}{out:D}(h:cK P f (ds.map .d) (fun _=> .no) 0 (fun v o _=>∃x,dZ o v=some x/\∀B w val,D.den B w x val->D.den B w out val) (fun _ _ _=>False)):a7 P f ds (.ret [out]):=by
 refine⟨h.1,fun M w vals hM hd=> ?_⟩
 let cQ:Place:=fun _=> .nilFunc
 have wH:∀b, ¬de cQ (hp (fun _=> .no) 0) b:=by rintro b ⟨id,hl,_⟩;simp[hp,ab.live]at hl
 refine(h.2 M cQ w vals (lI cQ hM) ((V.cA _ _).2 (D.a8 (w:=w) (w':=w) (B:=M) (fun b _ hB=>⟨rfl,fun h=>h.elim hB (wH b)⟩) _ _ hd))).mono ?_
 rintro e w' ⟨aO,o',nx',v,k1,k2,k3⟩
 have xC:eF (fun _=>False) w w':=⟨k2.cw.os,k2.cw.tape,k2.cw.output,k2.cw.size,fun k hk _=>k2.cw.block k hk (wH k)⟩
 refine⟨xC, ?_⟩
 cases e with
 |outgrown=>exact k3.elim
 |panicked ch=>obtain⟨_,_,_,h⟩:=k3;exact h.elim
 |returned val=>
  obtain⟨g1,x,g2,g3⟩:=k3
  obtain⟨f1,f2,f3,f4,f5⟩:=du k1 v.ids (fun id aB=>dn v val g1 id aB)
  have h3:=gr f1 (o:=o') v x val (fun id aB=>f3 id aB) g2 (V.aS f2 _ _ g1)
  exact g3 _ _ _ (D.aS (w:=w') (w':=w') (fun k _ hB=>⟨rfl,fun hM=>hB (.inl hM)⟩) x val h3)
end Go.Proofs.YtonbelhklnmjnaaGreat
namespace Go.Proofs.YtonbelhklnmjnaaGreat
@[reducible] def K8 (m:List (Int×Int)):D:= .mp ((enc (D.int .i64) (ints m)).map (·.1)) ((enc (D.int .i64) (ints m)).map (·.2))
theorem tG(m:List (Int×Int)):(((enc (D.int .i64) (ints m)).map (·.1)).zip ((enc (D.int .i64) (ints m)).map (·.2)))=enc (D.int .i64) (ints m):=Oa _ _
def dX(op:Int)(l:List Tm):List (Int×Int):=(l.flatMap iF).foldl (dW op) []
theorem V2(t:Tm)(ht:t.fits):a7 Tryz.prog 190 [t.d] (.ret [K8 (dX 8 [t])]):=by
 refine a7.sV (V1 t ht _ _ dg _ _ fun o' nx' id m _ _ _ _ ho hm=> ?_)
 refine⟨_,by simp only[dZ,ho];rfl,fun B w val h=> ?_⟩
 have e:m=dX 8 [t]:=by rw[hm];simp[dX]
 rw[<- e];exact h
theorem sW(l:List Tm)(hl:l.length<=1000000)(hf:∀t∈l,t.fits):a7 Tryz.prog 189 [.sl (l.map Tm.d)] (.ret [K8 (dX 1 l)]):=by
 refine a7.sV (CA l hl hf _ _ dg _ _ fun o' nx' id m _ _ _ _ ho hm=> ?_)
 refine⟨_,by simp only[dZ,ho];rfl,fun B w val h=> ?_⟩
 have e:m=dX 1 l:=hm
 rw[<- e];exact h
theorem yI(o:Nat->ab)(m:List (Int×Int))(v:Int):jf Tryz.prog o 176 (.d (K8 m)) (.d (.int .i64 v)) false=some (.d (.i (gY m v)),[],[]):=by
 cases h:lk m v with
 |none=>
  have e:gY m v=0:=by unfold gY;rw[h];rfl
  rw[e]
  simp+contextual (disch:=first|omega|simp only[go_sem,false_implies]) only[go_sem,wrap64,if_pos,tG,mn h]
 |some c=>
  have e:gY m v=c:=by unfold gY;rw[h];rfl
  obtain⟨j,hj⟩:=mm h
  rw[e]
  simp+contextual (disch:=first|omega|simp only[go_sem,false_implies]) only[go_sem,wrap64,if_pos,tG,hj]
theorem Er(l:List Int)(hl:l.length<=1000000)(o:Nat->ab)(fr:Nat):xE Tryz.prog 233 [.d (.sl (l.map .i))] [] o fr (.osl fr 0) [(fr, .arr 0 3 1 (l.map .i))]:=by
 refine xE.D8 (ds:=[.sl (l.map .i)]) ?_
 refine cK.aA mix RB aj ?_
 rw[Vv]
 have hu:Tryz.prog.underlying 41=some (.slice 3):=af
 cases l with
 |nil=>
  have heq:∀O,pP Tryz.prog O 41 true (.d (.sl [])) .bW=some .eZ:=by
   intro O
   unfold pP
   rw[hu]
   rfl
  simp only[List.map_cons,List.map_nil]
  refine dz heq ?_
  simp only[List.isEmpty_nil,if_true]
  refine dz heq ?_
  exact .inl ⟨3,1,rfl,ae _ _ _⟩
 |cons a l=>
  have heq:∀O,pP Tryz.prog O 41 true (.d (.sl (D.i a::l.map D.i))) .bW=some (.d (.bool false)):=by
   intro O
   unfold pP
   rw[hu]
   rfl
  simp only[List.map_cons,List.map_nil]
  refine dz heq ?_
  simp only[List.isEmpty_nil,if_true]
  refine dz heq ?_
  rw[List.length_cons]at hl
  rw[if_pos (by omega)]
  refine aI ?_
  exact .inl ⟨3,1,rfl,ae _ _ _⟩
def V3:List Int->Int->Int->Int
 |[],_,_=> -1
 |x::l,v,k=>if v=x then k else V3 l v (k+1)
theorem K9:∀ (l:List Int) (v k:Int),0<=k->(decide (0<=V3 l v k)=l.contains v)
 |[],v,k,_=>rfl
 |x::l,v,k,hk=>by
  have ih:=K9 l v (k+1) ad
  unfold V3
  by_cases h:v=x
  ·rw[if_pos h];subst h;simp[hk]
  ·rw[if_neg h,ih];simp[List.contains_cons,h]
theorem La(l:List Int)(hl:l.length<=1000000)(v:Int):a7 Tryz.prog 259 [.sl (l.map .i), .i v] (.ret [.i (V3 l v 0)]):=by
 refine a7.aA mix RS aj ?_
 rw[VK]
 refine iG ?_
 refine aK (fun k:Nat=>⟨bA [.d (.sl (l.map .i)), .d (.i v), .aa, .aa, .aa, .aa, .aa, .d (.i l.length), .d (.i k)],fun _=> .no,1⟩)
  (fun k=>k<=l.length/\V3 l v 0=V3 (l.drop k) v k) (fun k=>l.length - k) 0 ⟨Nat.zero_le _,rfl⟩ (bL.bP _ (show 0<=1 from ad) ad dg (fun _ _=>rfl) ?_) (fun k hk=> ?_)
 ·exact cG
 obtain⟨hk,rr⟩:=hk
 refine aI ?_
 refine ak (fun h2=> ?_) (fun h2=> ?_)
 ·simp at h2
  obtain⟨x,hx⟩:=aw h2
  have hd:l.drop k=x::l.drop (k+1):=by
   obtain⟨g1,g2⟩:=List.getElem?_eq_some_iff.1 hx
   exact SB
  rw[hd]at rr
  simp only[V3]at rr
  refine dz hx ?_
  refine ak (fun h3=> ?_) (fun h3=> ?_)
  ·have rB:v=x:=by simpa using h3
   rw[if_pos rB]at rr
   refine aI ?_
   rw[rr]
  ·have rB: ¬v=x:=by simpa using h3
   rw[if_neg rB]at rr
   refine aI ?_
   refine au (k+1) ⟨h2,rr⟩ ad (bL.bP _ (show 0<=1 from ad) ad dg (fun _ _=>rfl) ?_)
   exact cG
 ·simp at h2
  rw[List.drop_eq_nil_of_le h2]at rr
  refine aI ?_
  rw[rr];rfl
theorem CB(l:List Int)(hl:l.length<=1000000)(v:Int):a7 Tryz.prog 232 [.sl (l.map .i), .i v] (.ret [.bool (l.contains v)]):=by
 refine a7.aA mix RA aj ?_
 rw[Vu]
 refine aI ?_
 refine ah (La l hl v) rfl ?_
 refine aI ?_
 rw[K9 l v 0 (by omega)]
mutual
def Ag(m:List (Int×Int)):Tm->List Int->Bool
 | .mk op n kids,nZ=>if op=1 then(gY m n==0||nZ.contains n)else qC m op n kids 0 nZ
def qC(m:List (Int×Int))(op n:Int):List Tm->Nat->List Int->Bool
 |[],_,_=>true
 |k::l,i,nZ=>Ag m k (if op=8/\i=1 then nZ++[n]else nZ)&&qC m op n l (i+1) nZ
end
theorem FW(m:List (Int×Int))(t:Tm)(nZ:List Int):Ag m t nZ=if t.op=1 then(gY m t.n==0||nZ.contains t.n)else qC m t.op t.n t.kids 0 nZ:=by cases t;rw[Ag];rfl
theorem Lb(m:List (Int×Int)):∀t:Tm,t.fits->∀nZ:List Int,nZ.length+t.iU<=1000000->a7 Tryz.prog 191 [t.d,K8 m, .sl (nZ.map .i)] (.ret [.bool (Ag m t nZ)]):=by
 refine Tm.cC fun t ih hf nZ hb=> ?_
 have gX:=(Tm.aP _).1 hf
 refine a7.aA mix Rg aj ?_
 rw[Vb,FW]
 by_cases h1:t.op=1
 ·have cm:(t.op==1)=true:=by simpa using h1
  rw[if_pos h1]
  cases hc:(gY m t.n==0)with
  |true=>
   simp+contextual (disch:=first|omega|simp only[go_sem,false_implies]) only[go_sem,wrap64,if_pos,cm,yI,hc]
  |false=>
   simp+contextual (disch:=first|omega|simp only[go_sem,false_implies]) only[go_sem,wrap64,if_pos,cm,yI,hc]
   refine ah (CB nZ ad t.n) rfl ?_
   exact yH hc
 ·have cm:(t.op==1)=false:=by simpa using h1
  rw[if_neg h1]
  refine eR cm ?_
  refine aK (fun k:Nat=>⟨bA [.aa, .d (K8 m), .d (.sl (nZ.map .i)), .ptr 0 0, .aa, .aa, .aa, .aa, .aa, .aa, .aa, .aa, .aa, .aa, .aa, .aa, .aa, .aa, .aa, .aa, .aa, .aa, .aa, .aa, .aa, .d (.sl (t.kids.map Tm.d)), .d (.i t.kids.length), .d (.i k)],aL (fun _=> .no) 0 (.row [.d (.i t.op), .d (.i t.n), .d (.sl (t.kids.map Tm.d))]),1⟩)
   (fun k=>k<=t.kids.length/\qC m t.op t.n t.kids 0 nZ=qC m t.op t.n (t.kids.drop k) k nZ) (fun k=>t.kids.length - k) 0 ⟨Nat.zero_le _,rfl⟩ (bL.bP _ (show 0<=1 from ad) ad dg (fun _ _=>rfl) ?_) (fun k hk=> ?_)
  ·exact cG
  obtain⟨hk,rr⟩:=hk
  have Lc:=gX.1
  refine aI ?_
  refine ak (fun h2=> ?_) (fun h2=> ?_)
  ·simp at h2
   obtain⟨x,hx⟩:=aw h2
   have dc:=List.mem_of_getElem? hx
   have hd:t.kids.drop k=x::t.kids.drop (k+1):=by
    obtain⟨g1,g2⟩:=List.getElem?_eq_some_iff.1 hx
    exact SB
   have hh:=Tm.qq dc
   rw[hd]at rr
   simp only[qC]at rr
   refine dz hx ?_
   refine ak (fun h3=> ?_) (fun h3=> ?_)
   ·have rB:t.op=8/\k=1:=by
     simp at h3
     exact⟨h3.1,ad⟩
    rw[if_pos rB]at rr
    refine aI ?_
    refine xR rfl (Er nZ ad _ _) ?_
    refine aI ?_
    refine ao aV ?_
    refine aI ?_
    have e:List.map D.i nZ++[D.i t.n]=(nZ++[t.n]).map D.i:=aj
    rw[e]
    refine ah (ih x dc (gX.2 x dc) (nZ++[t.n]) AS) rfl ?_
    refine aI ?_
    cases hs:Ag m x (nZ++[t.n])with
    |false=>
     rw[hs,Bool.false_and]at rr
     refine dz hs ?_
     rw[rr]
    |true=>
     rw[hs,Bool.true_and]at rr
     refine dz hs ?_
     refine au (k+1) ⟨h2,rr⟩ ad (bL.bP _ (show 0<=1 from ad) ad dg (fun j hj=>by(repeat(first|rfl|rw[ae]|rw[ai _ _ _ _ (by omega)]))) ?_)
     exact cG
   ·have rB: ¬ (t.op=8/\k=1):=by
     simp at h3
     intro⟨h4,h5⟩
     exact h3 h4 ad
    rw[if_neg rB]at rr
    refine aI ?_
    refine ah (ih x dc (gX.2 x dc) nZ ad) rfl ?_
    refine aI ?_
    cases hs:Ag m x nZ with
    |false=>
     rw[hs,Bool.false_and]at rr
     refine dz hs ?_
     rw[rr]
    |true=>
     rw[hs,Bool.true_and]at rr
     refine dz hs ?_
     refine au (k+1) ⟨h2,rr⟩ ad (bL.bP _ (show 0<=1 from ad) ad dg (fun j hj=>by(repeat(first|rfl|rw[ae]|rw[ai _ _ _ _ (by omega)]))) ?_)
     exact cG
  ·simp at h2
   rw[List.drop_eq_nil_of_le h2]at rr
   refine aI ?_
   rw[rr];rfl
mutual
def rX(v:Int):Tm->Bool
 | .mk op n kids=>if op=1 then n==v else gZ v op n kids 0
def gZ(v op n:Int):List Tm->Nat->Bool
 |[],_=>false
 |k::l,i=>(rX v k&& !(op==8&&i==1&&n==v))||gZ v op n l (i+1)
end
theorem gH(v:Int)(t:Tm):rX v t=if t.op=1 then t.n==v else gZ v t.op t.n t.kids 0:=by cases t;rfl
@[reducible] def tD (l:List Int):ab:= .map 3 4 (enc (D.int .i64) (iz l))
def acL(id:Nat)(Q:List Int->Prop)(o:Nat->ab)(nx:Nat)(K:V->(Nat->ab)->Nat->Prop):Prop:=
 ∀o' nx' l',nx<=nx'->Good o' nx'->(∀j,j<nx->j≠id->o' j=o j)->o' id=tD l'->Q l'->K (.ck []) o' nx'
theorem Es{b nx id it n0:Nat}{Q:fN->S->Prop}{e:Nat->V}{o:Nat->ab}{ks n k:D}(own s:List Int)(hg:Good o nx)(aB:o id=tD s)(Yc:o it= .mP (enc (D.int .i64) (iz own)) none)(hb:b<=nx)(hs:s.Nodup)(hn0:n0<nx)
 (he:kj nx e [.mp id, .aa, .aa, .ptr n0 0, .aa, .aa, .aa, .aa, .aa, .aa, .aa, .aa, .aa, .aa, .aa, .d ks, .d n, .d k, .aa, .aa, .aa, .aa, .aa, .aa, .aa, .aa, .aa, .aa, .aa, .aa, .aa, .aa, .aa, .aa, .aa, .aa, .aa, .ptr it 0] 0)
 (hQ:∀e' o' nx' s',e' 0= .mp id->e' 3= .ptr n0 0->e' 15= .d ks->e' 16= .d n->e' 17= .d k->nx<=nx'->Good o' nx'->(∀j,j<nx->j≠id->j≠it->o' j=o j)->o' id=tD s'->s'.Nodup->(∀v,v∈s'↔v∈s\/v∈own)->Q (.exit 2) ⟨e',o',nx'⟩):
 uS b (fun Q s=>kS Tryz.prog 45 b false (.seq (.ag [⟨some 38, .next (.tmp 37) false,none⟩,⟨some 39, .extract (.tmp 38) 0,none⟩]) (.seq (.cond (.tmp 39) .skip (.exit 2)) (.block 3 (.seq (.ag [⟨some 40, .entry (.tmp 37),none⟩,⟨some 41, .extract (.tmp 40) 0,none⟩,⟨some 7, .assign (.tmp 41),none⟩]) (.ag [⟨some 42, .move (.tmp 0),none⟩,⟨some 43, .move (.tmp 7),none⟩,⟨none, .mapUpdate 141 (.tmp 42) (.tmp 43) (.const (.bool true)),none⟩]))))) Q s) Q ⟨e,o,nx⟩:=by
 have h1:id<nx:=hg.lt (by rw[aB];exact ab.noConfusion)
 have h2:it<nx:=hg.lt (by rw[Yc];exact ab.noConfusion)
 have h3:id≠it:=fun h=>by rw[h,Yc]at aB;cases aB
 have h4:it≠id:=fun h=>h3 h.symm
 refine aK (fun i:List Int×List Int×Option (D×D)=>⟨bA [.mp id, .aa, .aa, .ptr n0 0, .aa, .aa, .aa, .aa, .aa, .aa, .aa, .aa, .aa, .aa, .aa, .d ks, .d n, .d k, .aa, .aa, .aa, .aa, .aa, .aa, .aa, .aa, .aa, .aa, .aa, .aa, .aa, .aa, .aa, .aa, .aa, .aa, .aa, .ptr it 0],aL (aL o id (tD i.2.1)) it (.mP (enc (D.int .i64) (iz i.1)) i.2.2),nx⟩)
  (fun i=>i.2.1.Nodup/\∀v,(v∈i.2.1\/v∈i.1)↔(v∈s\/v∈own)) (fun i=>i.1.length) (own,s,none) ⟨hs,fun _=>Iff.rfl⟩ ?_ ?_
 ·dsimp only
  refine bL.bP _ hb (Nat.le_refl _) ?_ (fun j hj=> ?_) he
  ·exact dg
  ·by_cases e1:j=it
   ·subst e1;rw[ae];exact Yc
   ·rw[ai _ _ _ _ e1]
    by_cases e2:j=id
    ·subst e2;rw[ae];exact aB
    ·rw[ai _ _ _ _ e2]
 rintro⟨rest,s',last⟩ ⟨iE,hv⟩
 simp only at iE hv
 refine uc h3 h4 ?_
 refine yj (fun hr=> ?_) fun i m hm=> ?_
 ·subst hr
  refine aI ?_
  refine hQ _ _ _ s' ?_ ?_ ?_ ?_ ?_ ?_ ?_ (fun j g1 g2 g3=> ?_) ?_ iE (fun v=> ?_)
  ·rfl
  ·rfl
  ·rfl
  ·rfl
  ·rfl
  ·omega
  ·exact dg
  ·exact eh
  ·exact eh
  ·have:=hv v
   simpa using this
 ·refine uc h3 h4 ?_
  obtain⟨r1,r2⟩:=vG hm
  refine au (rest.eraseIdx i,rU s' m,some (.int .i64 m, .bool true)) ⟨vF _ iE,fun v=> ?_⟩ ?_ ?_
  ·dsimp only
   rw[vE, <- hv v,r1 v]
   constructor
   ·rintro((h|h)|h)
    ·exact .inl h
    ·exact .inr (.inl h)
    ·exact .inr (.inr h)
   ·rintro(h|h|h)
    ·exact .inl (.inl h)
    ·exact .inl (.inr h)
    ·exact .inr h
  ·dsimp only;omega
  ·dsimp only
   refine bL.bP _ hb ad ?_ (fun j hj=> ?_) ?_
   ·exact dg
   ·by_cases e1:j=it
    ·subst e1;(repeat(first|rfl|rw[ae]|rw[ai _ _ _ _ (by omega)]))
    ·by_cases e2:j=id
     ·subst e2;(repeat(first|rfl|rw[ae]|rw[ai _ _ _ _ (by omega)]))
     ·exact eh
   ·exact cG
theorem V4:∀t:Tm,t.fits->∀ (o:Nat->ab) (nx id:Nat) (l:List Int),Good o nx->o id=tD l->l.Nodup->∀K X,acL id (fun l'=>l'.Nodup/\∀n,n∈l'↔n∈l\/rX n t=true) o nx K->cK Tryz.prog 164 [.mp id, .d t.d] o nx K X:=by
 refine Tm.cC fun t ih hf o nx id l hg ho hl K X hK=> ?_
 have gX:=(Tm.aP _).1 hf
 have aB:id<nx:=hg.lt (by rw[ho];exact ab.noConfusion)
 refine cK.aA mix QQ aj ?_
 rw[UL]
 have y1:id≠nx:=ad
 have y2:∀k,id≠nx+k:=fun k=>ad
 by_cases h1:t.op=1
 ·refine Mx ho y1 y2 h1 ?_
  refine hK _ _ (rU l t.n) ?_ ?_ (fun j hj iD=> ?_) ?_ ⟨vF _ hl,fun n=> ?_⟩
  ·omega
  ·exact dg
  ·exact eh
  ·exact eh
  ·rw[vE,gH,if_pos h1]
   rw[beq_iff_eq, @eq_comm _ t.n n]
 ·have cm:(t.op==1)=false:=by simpa using h1
  refine Mx ho y1 y2 cm ?_
  refine aK (fun i:Nat×List Int×(Nat->ab)×Nat=>⟨bA [.mp id, .aa, .aa, .ptr nx 0, .aa, .aa, .aa, .aa, .aa, .aa, .aa, .aa, .aa, .aa, .aa, .d (.sl (t.kids.map Tm.d)), .d (.i t.kids.length), .d (.i i.1)],i.2.2.1,i.2.2.2⟩)
   (fun i=>i.1<=t.kids.length/\i.2.1.Nodup/\Good i.2.2.1 i.2.2.2/\nx+1<=i.2.2.2/\(∀j,j<nx->j≠id->i.2.2.1 j=o j)/\i.2.2.1 nx= .row t.row/\i.2.2.1 id=tD i.2.1/\∀v,(v∈i.2.1\/gZ v t.op t.n (t.kids.drop i.1) i.1=true)↔(v∈l\/rX v t=true)) (fun i=>t.kids.length - i.1) (0,l,aL o nx (.row t.row),nx+8)
   ⟨Nat.zero_le _,hl,by dsimp only;exact dg,by dsimp only;omega,fun j hj iD=>by dsimp only;(repeat(first|rfl|rw[ae]|rw[ai _ _ _ _ (by omega)])),by dsimp only;(repeat(first|rfl|rw[ae]|rw[ai _ _ _ _ (by omega)])),by dsimp only;(repeat(first|rfl|rw[ae]|rw[ai _ _ _ _ (by omega)]));exact ho,fun v=>by simp only[List.drop_zero];rw[gH v t,if_neg h1]⟩ ?_ ?_
  ·dsimp only
   refine bL.bP _ ad ad dg (fun _ _=>rfl) ?_
   exact cG
  rintro⟨k,l',o',nx'⟩ ⟨hk,Mm,hg',tL,hold,bX,zN,hv⟩
  simp only at hk Mm hg' tL hold bX zN hv
  have z1:id≠nx':=ad
  have z2:∀k,id≠nx'+k:=fun k=>ad
  have z3:nx≠nx':=ad
  have z4:∀k,nx≠nx'+k:=fun k=>ad
  simp+contextual (disch:=first|omega|simp only[go_sem,false_implies]) only[go_sem,wrap64,if_pos,zN,bX,z1,z2,z3,z4,Nat.add_assoc,Nat.left_eq_add,Nat.add_eq_left,Nat.add_left_cancel_iff]
  refine ak (fun h2=> ?_) (fun h2=> ?_)
  ·simp at h2
   obtain⟨x,hx⟩:=aw h2
   have dc:=List.mem_of_getElem? hx
   simp+contextual (disch:=first|omega|simp only[go_sem,false_implies]) only[go_sem,wrap64,if_pos,zN,bX,z1,z2,z3,z4,Nat.add_assoc,Nat.left_eq_add,Nat.add_eq_left,Nat.add_left_cancel_iff,hx]
   refine c6 (ih x dc (gX.2 x dc) _ _ (nx'+7) [] ?_ ?_ List.nodup_nil _ _ fun o2 n2 own m1 m2 m3 m4 m5=> ?_)
   ·have hg:=hg'
    exact dg
   ·exact eh
   have p0:o2 nx= .row t.row:=by rw[m3 nx (by omega) (by omega)];(repeat(first|rfl|rw[ae]|rw[ai _ _ _ _ (by omega)]));exact bX
   have p1:o2 id=tD l':=by rw[m3 id (by omega) (by omega)];(repeat(first|rfl|rw[ae]|rw[ai _ _ _ _ (by omega)]));exact zN
   have p2:∀j,j<nx->j≠id->o2 j=o j:=fun j h3 h4=>by rw[m3 j (by omega) (by omega)];(repeat(first|rfl|rw[ae]|rw[ai _ _ _ _ (by omega)]));exact hold j h3 h4
   have w1:nx≠n2:=ad
   have w2:∀k,nx≠n2+k:=fun k=>ad
   have w3:id≠n2:=ad
   have w4:∀k,id≠n2+k:=fun k=>ad
   have w5:nx'+7≠n2:=ad
   have w6:∀k,nx'+7≠n2+k:=fun k=>ad
   obtain⟨wQ,d1,d2,d3⟩:∃wQ,wQ.Nodup/\(∀v,v∈wQ↔(rX v x=true/\ ¬ (t.op=8/\k=1/\t.n=v)))/\wQ=if t.op=8/\k=1 then Cy own t.n else own:=by
    refine⟨_, ?_,fun v=> ?_,rfl⟩
    ·split
     ·exact(yh _ m5.1).1
     ·exact m5.1
    ·have:=m5.2 v
     simp only[List.not_mem_nil,false_or]at this
     rw[<- this]
     split
     ·rename_i hc
      rw[(yh t.n m5.1).2]
      simp[hc,eq_comm]
     ·rename_i hc
      constructor
      ·exact fun h=>⟨h,fun h2=>hc ⟨h2.1,h2.2.1⟩⟩
      ·exact fun h=>h.1
   have step:∀v (s':List Int),(v∈s'↔v∈l'\/v∈wQ)->((v∈s'\/gZ v t.op t.n (t.kids.drop (k+1)) (k+1)=true)↔(v∈l\/rX v t=true)):=by
    intro v s' iE
    rw[<- hv v,iE,d2 v]
    have hdr:t.kids.drop k=x::t.kids.drop (k+1):=by
     obtain⟨h5,h6⟩:=List.getElem?_eq_some_iff.1 hx
     exact SC
    rw[hdr,gZ]
    simp only[Bool.or_eq_true,Bool.and_eq_true,Bool.not_eq_true',Bool.and_eq_false_iff,beq_eq_false_iff_ne,ne_eq,not_and]
    constructor
    ·rintro((h|⟨h,h6⟩)|h)
     ·exact .inl h
     ·refine .inr (.inl ⟨h, ?_⟩)
      by_cases c1:t.op=8
      ·by_cases c2:k=1
       ·exact .inr (h6 c1 c2)
       ·exact .inl (.inr c2)
      ·exact .inl (.inl c1)
     ·exact .inr (.inr h)
    ·rintro(h|⟨h,h6⟩|h)
     ·exact .inl (.inl h)
     ·refine .inl (.inr ⟨h,fun c1 c2=> ?_⟩)
      rcases h6 with(h6|h6)|h6
      ·exact absurd c1 h6
      ·exact absurd c2 h6
      ·exact h6
     ·exact .inr h
   have hcc:((t.op==8)&&((k:Int)==1))=decide (t.op=8/\k=1):=by
    rw[Bool.eq_iff_iff];simp;omega
   simp+contextual (disch:=first|omega|simp only[go_sem,false_implies]) only[go_sem,wrap64,if_pos,p0,p1,w1,w2,w3,w4,w5,w6,Nat.add_assoc,Nat.left_eq_add,Nat.add_eq_left,Nat.add_left_cancel_iff]
   refine ak (fun h3=> ?_) (fun h3=> ?_)
   ·rw[hcc]at h3
    simp only[decide_eq_true_eq]at h3
    rw[if_pos h3]at d3
    cases hd:own.findIdx? (· ==t.n)with
    |none=>
     have hd2:fT t.n (iz own) 0=none:=by rw[lO,hd];rfl
     obtain rfl:wQ=own:=by rw[d3,Cy,hd]
     simp+contextual (disch:=first|omega|simp only[go_sem,false_implies]) only[go_sem,wrap64,if_pos,p0,p1,m4,w1,w2,w3,w4,w5,w6,Nat.add_assoc,Nat.left_eq_add,Nat.add_eq_left,Nat.add_left_cancel_iff,hd2]
     refine Es (n0:=nx) (id:=id) (it:=n2+12) (ks:= .sl (t.kids.map Tm.d)) (n:= .i t.kids.length) (k:= .i k) wQ l' ?_ ?_ ?_ ad Mm ad ?_ fun e' o4 n4 s' q0 q3 O9 Pa Pb q1 q2 q4 q5 q6 q7=> ?_
     ·have hg:=m2
      exact dg
     ·(repeat(first|rfl|rw[ae]|rw[ai _ _ _ _ (by omega)]))
      exact p1
     ·exact eh
     ·exact cG
     have r0:o4 nx= .row t.row:=by
      rw[q4 nx (by omega) (by omega) (by omega)];(repeat(first|rfl|rw[ae]|rw[ai _ _ _ _ (by omega)]))
      exact p0
     refine MA q0 q3 O9 Pa Pb ?_
     refine au (k+1,s',o4,n4) ⟨by dsimp only;omega,q6,q2,by dsimp only;omega,fun j g1 g2=> ?_,r0,q5,fun v=> ?_⟩ mG ?_
     ·dsimp only
      rw[q4 j (by omega) (by omega) (by omega)];(repeat(first|rfl|rw[ae]|rw[ai _ _ _ _ (by omega)]))
      exact p2 j g1 g2
     ·dsimp only
      exact step v s' (q7 v)
     ·dsimp only
      refine bL.bP _ ad ad q2 (fun _ _=>rfl) ?_
      exact zy9
    |some j=>
     have hd2:fT t.n (iz own) 0=some (j, .bool true):=by rw[lO,hd];simp
     have hd3:(enc (D.int .i64) (iz own)).eraseIdx j=enc (D.int .i64) (iz wQ):=by
      rw[d3,Cy,hd,rR];unfold iz;rw[iA]
     simp+contextual (disch:=first|omega|simp only[go_sem,false_implies]) only[go_sem,wrap64,if_pos,p0,p1,m4,w1,w2,w3,w4,w5,w6,Nat.add_assoc,Nat.left_eq_add,Nat.add_eq_left,Nat.add_left_cancel_iff,hd2]
     rw[hd3]
     refine Es (n0:=nx) (id:=id) (it:=n2+12) (ks:= .sl (t.kids.map Tm.d)) (n:= .i t.kids.length) (k:= .i k) wQ l' ?_ ?_ ?_ ad Mm ad ?_ fun e' o4 n4 s' q0 q3 O9 Pa Pb q1 q2 q4 q5 q6 q7=> ?_
     ·have hg:=m2
      exact dg
     ·(repeat(first|rfl|rw[ae]|rw[ai _ _ _ _ (by omega)]))
      exact p1
     ·exact eh
     ·exact cG
     have r0:o4 nx= .row t.row:=by
      rw[q4 nx (by omega) (by omega) (by omega)];(repeat(first|rfl|rw[ae]|rw[ai _ _ _ _ (by omega)]))
      exact p0
     refine MA q0 q3 O9 Pa Pb ?_
     refine au (k+1,s',o4,n4) ⟨by dsimp only;omega,q6,q2,by dsimp only;omega,fun j g1 g2=> ?_,r0,q5,fun v=> ?_⟩ mG ?_
     ·dsimp only
      rw[q4 j (by omega) (by omega) (by omega)];(repeat(first|rfl|rw[ae]|rw[ai _ _ _ _ (by omega)]))
      exact p2 j g1 g2
     ·dsimp only
      exact step v s' (q7 v)
     ·dsimp only
      refine bL.bP _ ad ad q2 (fun _ _=>rfl) ?_
      exact zy9
   ·rw[hcc]at h3
    simp only[decide_eq_false_iff_not]at h3
    rw[if_neg h3]at d3
    subst d3
    simp+contextual (disch:=first|omega|simp only[go_sem,false_implies]) only[go_sem,wrap64,if_pos,p0,p1,m4,w1,w2,w3,w4,w5,w6,Nat.add_assoc,Nat.left_eq_add,Nat.add_eq_left,Nat.add_left_cancel_iff]
    refine Es (n0:=nx) (id:=id) (it:=n2+8) (ks:= .sl (t.kids.map Tm.d)) (n:= .i t.kids.length) (k:= .i k) wQ l' ?_ ?_ ?_ ad Mm ad ?_ fun e' o4 n4 s' q0 q3 O9 Pa Pb q1 q2 q4 q5 q6 q7=> ?_
    ·have hg:=m2
     exact dg
    ·(repeat(first|rfl|rw[ae]|rw[ai _ _ _ _ (by omega)]))
     exact p1
    ·exact eh
    ·exact cG
    have r0:o4 nx= .row t.row:=by
     rw[q4 nx (by omega) (by omega) (by omega)];(repeat(first|rfl|rw[ae]|rw[ai _ _ _ _ (by omega)]))
     exact p0
    refine MA q0 q3 O9 Pa Pb ?_
    refine au (k+1,s',o4,n4) ⟨by dsimp only;omega,q6,q2,by dsimp only;omega,fun j g1 g2=> ?_,r0,q5,fun v=> ?_⟩ mG ?_
    ·dsimp only
     rw[q4 j (by omega) (by omega) (by omega)];(repeat(first|rfl|rw[ae]|rw[ai _ _ _ _ (by omega)]))
     exact p2 j g1 g2
    ·dsimp only
     exact step v s' (q7 v)
    ·dsimp only
     refine bL.bP _ ad ad q2 (fun _ _=>rfl) ?_
     exact zy9
  ·simp at h2
   refine aI ?_
   refine hK _ _ l' ?_ ?_ hold zN ⟨Mm,fun n=> ?_⟩
   ·omega
   ·exact hg'.mono ad
   ·have:=hv n
    rw[List.drop_eq_nil_of_le (by omega)]at this
    simpa[gZ]using this
def tE(l:List Int)(x:Tm×Int):Bool:=(x.1.op !=1&&x.1.op !=3)||(x.1.op==1&&l.contains x.1.n)
def lQ(s:List Int×Bool)(x:Tm×Int):List Int×Bool:=(if tE s.1 x=true then s.1 else if x.1.op=1 then rU s.1 x.1.n else s.1, !tE s.1 x)
def pJ(s:List Int×Bool):Option jI:=if s.2=true then none else some .ret
def wR(t:Tm):Bool:=(az (x6 pJ lQ) ([],true) (pre t 1)).2
theorem CC(s:aX)(hs:s.Fits)(t:Tm)(ht:t.Fin):a7 Tryz.prog 186 [s.d,t.d] (.ret [.bool (cX s [t]&&wR t), .i (jV (cX s [t]))]):=by
 refine a7.aA mix Ra aj ?_
 rw[U6]
 refine aI ?_
 refine ah (z8 s hs [t] aj (fun x hx=>by simp at hx;subst hx;exact ht)) rfl ?_
 cases h1:cX s [t]with
 |false=>exact Gl
 |true=>
  refine iC ?_
  refine c6 (Cq t _ _ _ _ ?_)
  refine iC ?_
  refine sR (σ:=List Int×Bool) t ht.fits ht.iU [.aa, .aa, .aa, .aa, .ptr 2 0, .ptr 3 0, .ptr 10 0] ?_ aV rfl dg lU (ae _ _ _)
   (fun b=>aL (aL (aL (aL (aL (aL (aL (aL (fun _=> .no) 0 (.row s.row)) 1 (.row t.row)) 2 (.row [.d (.bool false)])) 3 (.row [.d (.i 0)])) 6 (.arr 0 31 3 [t.d])) 10 (.row [.mp 9])) 13 (.row t.row)) 9 (tD b.1)) pJ lQ (fun _=>True) ([],true) trivial rfl (fun id aB=> ?_) (fun _ _ _ _ _ _=>trivial) ?_ ?_
  ·exact IU
  ·exact sr
  ·intro L hL wg x hx s' h1 h2 o3 n3 hI hn ho K X cN
   simp only[nn]
   have hg:=hI.bN
   have q1:o3 10= .row [.mp 9]:=hI.eq 10 ad
   have q2:o3 9=tD s'.1:=hI.eq 9 ad
   have q3:o3 2= .row [.d (.bool false)]:=hI.eq 2 ad
   have q4:o3 3= .row [.d (.i 0)]:=hI.eq 3 ad
   refine aI ?_
   refine nC hL (pd:=none) ?_ ?_
   ·(repeat(first|rfl|rw[ae]|rw[ai _ _ _ _ (by omega)]))
    exact ho
   refine uc q1 q2 ?_
   have hv:tE s'.1 x=((x.1.op !=1&&x.1.op !=3)||(x.1.op==1&&s'.1.contains x.1.n)):=rfl
   rw[<- hv]
   have same:∀ (o':Nat->ab) (n':Nat) (l:List Int),Good o' n'->n3<=n'->(∀id,id<17->o' id=aL o3 9 (tD l) id)->cT 17 (aL (aL (aL (aL (aL (aL (aL (aL (fun _=> .no) 0 (.row s.row)) 1 (.row t.row)) 2 (.row [.d (.bool false)])) 3 (.row [.d (.i 0)])) 6 (.arr 0 31 3 [t.d])) 10 (.row [.mp 9])) 13 (.row t.row)) 9 (tD l)) o' n':=fun o' n' l k1 k2 k3=>⟨k1,by have:=hI.le;omega,fun id aB=>by
    rw[k3 id aB]
    by_cases e:id=9
    ·subst e;rw[ae,ae]
    ·rw[ai _ _ _ _ e,ai _ _ _ _ e,hI.eq id aB,ai _ _ _ _ e]⟩
   cases hb:tE s'.1 x with
   |true=>
    have hp:lQ s' x=(s'.1,false):=by simp[lQ,hb]
    rw[hp]at cN
    refine uc q3 q4 ?_
    refine cN _ _ _ .busy none ad (same _ _ _ dg ad fun id aB=> ?_) eh (fun id h3 h4=>by(repeat(first|rfl|rw[ae]|rw[ai _ _ _ _ (by omega)])))
    by_cases e9:id=9
    ·subst e9;(repeat(first|rfl|rw[ae]|rw[ai _ _ _ _ (by omega)]))
     exact q2
    ·by_cases e2:id=2
     ·subst e2;(repeat(first|rfl|rw[ae]|rw[ai _ _ _ _ (by omega)]))
      exact q3.symm
     ·by_cases e3:id=3
      ·subst e3;(repeat(first|rfl|rw[ae]|rw[ai _ _ _ _ (by omega)]))
       exact q4.symm
      ·exact eh
   |false=>
    refine uc q1 q2 ?_
    refine ak (fun h3=> ?_) (fun h3=> ?_)
    ·have rB:x.1.op=1:=by simpa using h3
     have hp:lQ s' x=(rU s'.1 x.1.n,true):=by simp[lQ,hb,rB]
     rw[hp]at cN
     refine uc q1 q2 ?_
     refine cN _ _ _ .busy none ad (same _ _ _ dg ad fun id aB=> ?_) eh (fun id h3 h4=>by(repeat(first|rfl|rw[ae]|rw[ai _ _ _ _ (by omega)])))
     by_cases e9:id=9
     ·subst e9;(repeat(first|rfl|rw[ae]|rw[ai _ _ _ _ (by omega)]))
     ·exact eh
    ·have rB: ¬x.1.op=1:=by simpa using h3
     have hp:lQ s' x=(s'.1,true):=by simp[lQ,hb,rB]
     rw[hp]at cN
     refine aI ?_
     refine cN _ _ _ .busy none ad (same _ _ _ dg ad fun id aB=> ?_) eh (fun id h3 h4=>by(repeat(first|rfl|rw[ae]|rw[ai _ _ _ _ (by omega)])))
     by_cases e9:id=9
     ·subst e9;(repeat(first|rfl|rw[ae]|rw[ai _ _ _ _ (by omega)]))
      exact q2
     ·exact eh
  ·intro o' n' hI
   have hJ:=z7 pJ lQ (pre t 1) ([],true) rfl
   have hpf:wR t=(pJ (az (x6 pJ lQ) ([],true) (pre t 1)).1).isNone:=hJ
   have q0:o' 2= .row [.d (.bool false)]:=hI.eq 2 ad
   have q1:o' 3= .row [.d (.i 0)]:=hI.eq 3 ad
   rw[hpf]
   generalize (az (x6 pJ lQ) ([],true) (pre t 1)).1=sf at*
   obtain⟨l,b⟩:=sf
   cases b<;>(simp only[pJ,if_true,if_false,Bool.false_eq_true,oX];simp+contextual (disch:=first|omega|simp only[go_sem,false_implies]) only[go_sem,wrap64,if_pos,q0,q1];simp[jV])
structure Rl where
 fn:Int
 bg:List Tm
 rhs:Tm
 vars:Int
@[reducible] def Rl.row (r:Rl):List V:=[.d (.i r.fn), .d (.sl (r.bg.map Tm.d)), .d (.i r.rhs.op), .d (.i r.rhs.n), .d (.sl (r.rhs.kids.map Tm.d)), .d (.i r.vars)]
@[reducible] def Rl.d (r:Rl):D:= .agg [.i r.fn, .sl (r.bg.map Tm.d), .i r.rhs.op, .i r.rhs.n, .sl (r.rhs.kids.map Tm.d), .i r.vars]
structure Rl.Fin (r:Rl):Prop where
 bg:r.bg.length<=1000000
 all:∀t∈r.bg,t.Fin
 rhs:r.rhs.Fin
theorem CD(l:List Tm)(hl:l.length<=9223372036854775807)(g:Nat)(aG:List V)(base:Nat)(h:Nat->ab)(p:Tm->Bool)(hc:∀r∈V.aN aG,r<base)
 (hp:∀x∈l,fC Tryz.prog g (.d x.d::aG) base h h (.d (.bool (p x)))):fC Tryz.prog 187 [.d (.sl (l.map Tm.d)), .func (.func g) [] aG] base h h (.d (.bool (l.all p))):=by
 have:=ye l hl g aG base (fun _:Unit=>h) (fun _ x=>((),p x)) hc (fun _=>True) (fun _ _ _ _ _=>trivial) (fun x hx _ _=>hp x hx) () trivial
 exact MJ
def kU(s:aX)(t:Tm):Bool:=cX s [t]&&wR t
theorem On(s:aX)(hs:s.Fits)(t:Tm)(ht:t.Fin)(base sp:Nat)(h:Nat->ab)(te:h sp= .row s.row)(hb:sp<base):fC Tryz.prog 185 [.d t.d, .ptr sp 0] base h h (.d (.bool (kU s t))):=by
 intro o nx hI K X hK
 have hle:=hI.le
 have hg:=hI.bN
 have q0:o sp= .row s.row:=by rw[hI.eq sp hb,te]
 refine cK.aA mix Q9 aj ?_
 rw[U5]
 refine dz q0 ?_
 refine ah (CC s hs t ht) rfl ?_
 cases hr:cX s [t]with
 |false=>
  have e:kU s t=false:=by simp[kU,hr]
  rw[e]at hK
  refine Xz ?_
  exact hK _ _ ad ⟨dg,ad,fun j hj=>by rw[ai _ _ _ _ (by omega),hI.eq j hj]⟩ (fun j g1 g2=>by(repeat(first|rfl|rw[ae]|rw[ai _ _ _ _ (by omega)])))
 |true=>
  have e:kU s t=wR t:=by simp[kU,hr]
  rw[e]at hK
  refine Xz ?_
  exact hK _ _ ad ⟨dg,ad,fun j hj=>by rw[ai _ _ _ _ (by omega),hI.eq j hj]⟩ (fun j g1 g2=>by(repeat(first|rfl|rw[ae]|rw[ai _ _ _ _ (by omega)])))
theorem rY{K:V->List (Nat×ab)->Prop}{id:Nat}{l:List (Int×Int)}(h0:l=[]->K (.ck [.d (.bool false)]) [])
 (h1:∀ (i:Nat) n k,l[i]? =some (n,k)->K (.ck [.d (.bool true), .d (.int .i64 n), .d (D.i k)]) [(id, .mP (enc (D.int .i64) (ints (l.eraseIdx i))) (some (.int .i64 n,D.i k)))]):BW K id (enc (D.int .i64) (ints l)):=by
 refine x7 _ (fun h=>h0 ?_) fun i k x h=> ?_
 ·cases l with
  |nil=>rfl
  |cons x l=>simp[ints]at h
 ·unfold ints at h|-
  rw[List.getElem?_map]at h
  cases hl:l[i]? with
  |none=>rw[hl]at h;cases h
  |some n=>
   rw[hl]at h
   simp at h
   obtain⟨rfl,rfl⟩:=h
   have:=h1 i n.1 n.2 hl
   rw[iA]
   exact this
theorem rZ{α:Type}{l:List α}{i:Nat}{n:α}(p:α->Bool)(h:l[i]? =some n):l.all p=(p n&&(l.eraseIdx i).all p):=by
 have hp:l.Perm (n::l.eraseIdx i):=by
  obtain⟨hi,e⟩:=List.getElem?_eq_some_iff.1 h
  have te:l=l.take i++n::l.drop (i+1):=by rw[<- e,List.getElem_cons_drop,List.take_append_drop]
  rw[List.eraseIdx_eq_take_drop_succ]
  conv=>lhs;rw[te]
  exact List.perm_middle
 rw[Bool.eq_iff_iff,List.all_eq_true,Bool.and_eq_true,List.all_eq_true]
 constructor
 ·intro h1
  exact⟨h1 _ (hp.mem_iff.2 aj),fun x hx=>h1 x (hp.mem_iff.2 lu)⟩
 ·rintro⟨h1,h2⟩ x hx
  rcases List.mem_cons.1 (hp.mem_iff.1 hx)with e|e
  ·rw[e];exact h1
  ·exact h2 x e
theorem sb{α:Type}{l:List α}{i:Nat}{n:α}(h:l[i]? =some n):(l.eraseIdx i).length+1=l.length:=by
 obtain⟨hi,e⟩:=List.getElem?_eq_some_iff.1 h
 rw[List.length_eraseIdx];simp[hi];omega
def mB(s:aX)(r:Rl):Bool:=decide (0<=r.fn)&&(match s.bU[r.fn.toNat]? with|some f=>(r.bg.length:Int)==f.args|none=>false)&&decide (0<=r.vars)&&decide (r.vars<=20)&&r.bg.all (kU s)&&cX s [r.rhs]
def fk(s:aX)(r:Rl):Bool:=mB s r&&(dX 1 r.bg).all (fun p=>decide (p.2<=1)&&decide (p.1<r.vars))&&(dX 1 [r.rhs]).all (fun p=>decide (p.1<r.vars))&&
 (dX 8 [r.rhs]).all (fun p=>decide (p.2<=1)&&decide (p.1<r.vars)&&decide (gY (dX 1 r.bg) p.1<=0))&&Ag (dX 8 [r.rhs]) r.rhs []
theorem Ah{R:List Nat}{o:Nat->ab}{id:Nat}(h:id∈R):DU R o id=o id:=by simp[DU,h]
theorem HN{R:List Nat}{o:Nat->ab}{nx:Nat}(cU:∀id∈R,id<nx)(pE:∀id∈R,∀j∈(o id).refs,j∈R):Good (DU R o) nx:=by
 refine⟨fun id aB=> ?_,fun id r hr=> ?_⟩
 ·have:id∉R:=fun hm=>by have:=cU id hm;omega
  simp[DU,this]
 ·by_cases aB:id∈R
  ·rw[Ah aB]at hr;exact cU r (pE id aB r hr)
  ·have:DU R o id= .no:=by simp[DU,aB]
   rw[this]at hr;cases hr
theorem Oo(s:aX)(hs:s.Fits)(l:List Tm)(hl:l.length<=1000000)(hf:∀t∈l,t.Fin){o:Nat->ab}(ho:o 0= .row s.row):
 Fa Tryz.prog 187 [.d (.sl (l.map Tm.d)), .func (.func 185) [] [.ptr 0 0]] [0] o (.ret [.bool (l.all (kU s))]) []:=by
 have cU:∀j∈[0],j<1:=aj
 have pE:∀k∈[0],∀j∈(o k).refs,j∈[0]:=by
  intro k hk j hj
  simp at hk
  subst hk
  rw[ho]at hj;simp[ab.refs,V.aN,V.refs]at hj
 refine Fa.mf cU lU pE aj aj ?_
 refine CD l ad 185 [.ptr 0 0] 1 (DU [0] o) (kU s) lU (fun x hx=>On s hs x (hf x hx) 1 0 _ ((Ah aj).trans ho) ad) _ _ ⟨HN cU pE,Nat.le_refl _,fun _ _=>rfl⟩ _ _ fun o2 n2 m1 m2 m3=> ?_
 refine⟨fun k hk=> ?_,[.d (.bool (l.all (kU s)))],[.bool (l.all (kU s))],rfl,rfl,rfl,fun k hk=>by simp[V.bF,V.ids]at hk⟩
 simp at hk
 subst hk
 rw[m2.eq 0 (by omega),Ah (by simp)];rfl
set_option maxHeartbeats 1000000 in
theorem Oq(s:aX)(hs:s.Fits)(r:Rl)(hr:r.Fin):a7 Tryz.prog 132 [s.d,r.d] (.ret [.bool (fk s r)]):=by
 have hr1:=hr.bg
 refine a7.aA mix QC aj ?_
 rw[Ux]
 have hlf:=hs.lf
 have fin:∀ {b:Bool},mB s r=b->b=false->fk s r=false:=fun h1 h2=>by unfold fk;rw[h1,h2];rfl
 by_cases f1:r.fn<0
 ·have Ot:decide (r.fn<0)=true:=by simpa using f1
  have e:fk s r=false:=fin (b:=false) (by unfold mB;rw[decide_eq_false (by omega: ¬0<=r.fn)];rfl) rfl
  simp+contextual (disch:=first|omega|simp only[go_sem,false_implies]) only[go_sem,wrap64,if_pos,Nat.add_assoc,Nat.left_eq_add,Nat.add_eq_left,Nat.add_left_cancel_iff,List.length_map,Ot]
  refine ao (aE rfl) ?_
  refine aI ?_
  rw[e]
 have Ot:decide (r.fn<0)=false:=by simpa using f1
 by_cases f2:(s.bU.length:Int)<=r.fn
 ·have De:decide ((s.bU.length:Int)<=r.fn)=true:=by simpa using f2
  have e:fk s r=false:=fin (b:=false) (by unfold mB;rw[List.getElem?_eq_none (by omega:s.bU.length<=r.fn.toNat)];simp) rfl
  refine Dh Ot De ?_
  refine ao (aE rfl) ?_
  refine aI ?_
  rw[e]
 have De:decide ((s.bU.length:Int)<=r.fn)=false:=by simpa using f2
 obtain⟨f,hf⟩:∃f,s.bU[r.fn.toNat]? =some f:=⟨_,List.getElem?_eq_getElem ad⟩
 by_cases f3: ¬ (r.bg.length:Int)=f.args
 ·have FX:((r.bg.length:Int)!=f.args)=true:=by simpa using f3
  have e:fk s r=false:=fin (b:=false) (by unfold mB;rw[hf];simp[f3]) rfl
  simp+contextual (disch:=first|omega|simp only[go_sem,false_implies]) only[go_sem,wrap64,if_pos,Nat.add_assoc,Nat.left_eq_add,Nat.add_eq_left,Nat.add_left_cancel_iff,List.length_map,Ot,De,hf,FX]
  refine ao (aE rfl) ?_
  refine aI ?_
  rw[e]
 have FX:((r.bg.length:Int)!=f.args)=false:=by simpa using f3
 by_cases f4:r.vars<0
 ·have Ou:decide (r.vars<0)=true:=by simpa using f4
  have e:fk s r=false:=fin (b:=false) (by unfold mB;rw[decide_eq_false (by omega: ¬0<=r.vars)];simp) rfl
  simp+contextual (disch:=first|omega|simp only[go_sem,false_implies]) only[go_sem,wrap64,if_pos,Nat.add_assoc,Nat.left_eq_add,Nat.add_eq_left,Nat.add_left_cancel_iff,List.length_map,Ot,De,hf,FX,Ou]
  refine ao (aE rfl) ?_
  refine aI ?_
  rw[e]
 have Ou:decide (r.vars<0)=false:=by simpa using f4
 by_cases f5:20<r.vars
 ·have R1:decide (20<r.vars)=true:=by simpa using f5
  have e:fk s r=false:=fin (b:=false) (by unfold mB;rw[decide_eq_false (by omega: ¬r.vars<=20)];simp) rfl
  refine Xw Ot De hf FX Ou R1 ?_
  refine ao (aE rfl) ?_
  refine aI ?_
  rw[e]
 have R1:decide (20<r.vars)=false:=by simpa using f5
 have hh:mB s r=(r.bg.all (kU s)&&cX s [r.rhs]):=by
  unfold mB
  rw[hf]
  have g3:(r.bg.length:Int)=f.args:=by simpa using f3
  simp[g3,show 0<=r.fn by omega,show 0<=r.vars by omega,show r.vars<=20 by omega]
 refine Xw Ot De hf FX Ou R1 ?_
 refine B6 (rd:=[0]) rfl (Oo s hs r.bg hr1 hr.all ?_) ?_
 ·exact eh
 cases h6:r.bg.all (kU s)with
 |false=>
  have e:fk s r=false:=fin hh (by rw[h6];rfl)
  refine aI ?_
  refine ao (aE rfl) ?_
  refine aI ?_
  rw[e]
 |true=>
  refine aI ?_
  refine aq (Od s hs r.rhs hr.rhs) rfl ?_
  cases h7:cX s [r.rhs]with
  |false=>
   have e:fk s r=false:=fin hh (by rw[h6,h7];rfl)
   refine wu ?_
   refine ao (aE rfl) ?_
   refine aI ?_
   rw[e]
  |true=>
   refine wu ?_
   refine ao (aE rfl) ?_
   refine aI ?_
   have hR:fk s r=((dX 1 r.bg).all (fun p=>decide (p.2<=1)&&decide (p.1<r.vars))&&(dX 1 [r.rhs]).all (fun p=>decide (p.1<r.vars))&&
    (dX 8 [r.rhs]).all (fun p=>decide (p.2<=1)&&decide (p.1<r.vars)&&decide (gY (dX 1 r.bg) p.1<=0))&&Ag (dX 8 [r.rhs]) r.rhs []):=by
    unfold fk;rw[hh,h6,h7];rfl
   refine bB (sW r.bg hr1 (fun t ht=>(hr.all t ht).fits)) ?_
   refine aI ?_
   refine bB (V2 r.rhs hr.rhs.fits) ?_
   refine aI ?_
   refine ao (aE rfl) ?_
   simp+contextual (disch:=first|omega|simp only[go_sem,false_implies]) only[go_sem,wrap64,if_pos,tG]
   refine aK (fun i:List (Int×Int)×Option (D×D)=>⟨bA [.aa, .aa, .aa, .ptr 1 0, .aa, .aa, .d (K8 (dX 1 r.bg)), .d (K8 (dX 8 [r.rhs])), .aa, .aa, .aa, .aa, .aa, .aa, .aa, .aa, .aa, .aa, .aa, .aa, .aa, .aa, .aa, .aa, .aa, .aa, .aa, .aa, .aa, .aa, .aa, .aa, .aa, .aa, .aa, .aa, .aa, .aa, .aa, .aa, .aa, .aa, .aa, .aa, .aa, .aa, .aa, .aa, .aa, .aa, .aa, .aa, .aa, .aa, .aa, .aa, .aa, .aa, .aa, .aa, .aa, .aa, .aa, .aa, .aa, .aa, .aa, .aa, .aa, .ptr 62 0],aL (aL (aL (fun _=> .no) 0 (.row [.d (.sl (s.cons.map kn.d)), .d (.sl (s.bU.map kn.d))])) 1 (.row [.d (.i r.fn), .d (.sl (r.bg.map Tm.d)), .d (.i r.rhs.op), .d (.i r.rhs.n), .d (.sl (r.rhs.kids.map Tm.d)), .d (.i r.vars)])) 62 (.mP (enc (D.int .i64) (ints i.1)) i.2),63⟩)
    (fun i=>(dX 1 r.bg).all (fun p=>decide (p.2<=1)&&decide (p.1<r.vars))=i.1.all (fun p=>decide (p.2<=1)&&decide (p.1<r.vars))) (fun i=>i.1.length) (dX 1 r.bg,none) rfl (bL.bP _ (show 0<=63 from ad) ad dg (fun j hj=>by(repeat(first|rfl|rw[ae]|rw[ai _ _ _ _ (by omega)]))) ?_) ?_
   ·exact cG
   rintro⟨rest,last⟩ hA
   simp only at hA
   refine aI ?_
   refine rY (fun Kl=> ?_) fun i n k hm=> ?_
   ·subst Kl
    simp only[List.all_nil]at hA
    refine iC ?_
    refine bf (sW [r.rhs] aj (fun t ht=>by simp at ht;subst ht;exact hr.rhs.fits)) ?_
    refine Xy ?_
    refine aK (fun i:List (Int×Int)×Option (D×D)=>⟨bA [.aa, .aa, .aa, .ptr 1 0, .aa, .aa, .d (K8 (dX 1 r.bg)), .d (K8 (dX 8 [r.rhs])), .aa, .aa, .aa, .aa, .aa, .aa, .aa, .aa, .aa, .aa, .aa, .aa, .aa, .aa, .aa, .aa, .aa, .aa, .aa, .aa, .aa, .aa, .aa, .aa, .aa, .aa, .aa, .aa, .aa, .aa, .aa, .aa, .aa, .aa, .aa, .aa, .aa, .aa, .aa, .aa, .aa, .aa, .aa, .aa, .aa, .aa, .aa, .aa, .aa, .aa, .aa, .aa, .aa, .aa, .aa, .aa, .aa, .aa, .aa, .aa, .aa, .aa, .aa, .aa, .aa, .aa, .aa, .aa, .aa, .aa, .aa, .aa, .aa, .aa, .aa, .aa, .aa, .aa, .aa, .ptr 69 0],aL (aL (aL (aL (aL (fun _=> .no) 0 (.row [.d (.sl (s.cons.map kn.d)), .d (.sl (s.bU.map kn.d))])) 1 (.row [.d (.i r.fn), .d (.sl (r.bg.map Tm.d)), .d (.i r.rhs.op), .d (.i r.rhs.n), .d (.sl (r.rhs.kids.map Tm.d)), .d (.i r.vars)])) 62 (.mP (enc (D.int .i64) (ints [])) last)) 67 (.su 0 [r.rhs.d])) 69 (.mP (enc (D.int .i64) (ints i.1)) i.2),70⟩)
     (fun i=>(dX 1 [r.rhs]).all (fun p=>decide (p.1<r.vars))=i.1.all (fun p=>decide (p.1<r.vars))) (fun i=>i.1.length) (dX 1 [r.rhs],none) rfl (bL.bP _ (show 0<=70 from ad) ad dg (fun j hj=>by first|(rw[jh];done)|(repeat(first|rfl|rw[ae]|rw[ai _ _ _ _ (by omega)]))|exact sr) ?_) ?_
    ·exact cG
    rintro⟨rest,aaH⟩ hB
    simp only at hB
    refine aI ?_
    refine rY (fun Kl=> ?_) fun i n k hm=> ?_
    ·subst Kl
     simp only[List.all_nil]at hB
     refine Xy ?_
     refine aK (fun i:List (Int×Int)×Option (D×D)=>⟨bA [.aa, .aa, .aa, .ptr 1 0, .aa, .aa, .d (K8 (dX 1 r.bg)), .d (K8 (dX 8 [r.rhs])), .aa, .aa, .aa, .aa, .aa, .aa, .aa, .aa, .aa, .aa, .aa, .aa, .aa, .aa, .aa, .aa, .aa, .aa, .aa, .aa, .aa, .aa, .aa, .aa, .aa, .aa, .aa, .aa, .aa, .aa, .aa, .aa, .aa, .aa, .aa, .aa, .aa, .aa, .aa, .aa, .aa, .aa, .aa, .aa, .aa, .aa, .aa, .aa, .aa, .aa, .aa, .aa, .aa, .aa, .aa, .aa, .aa, .aa, .aa, .aa, .aa, .aa, .aa, .aa, .aa, .aa, .aa, .aa, .aa, .aa, .aa, .aa, .aa, .aa, .aa, .aa, .aa, .aa, .aa, .aa, .aa, .aa, .aa, .aa, .aa, .aa, .aa, .aa, .aa, .ptr 73 0],aL (aL (aL (aL (aL (aL (fun _=> .no) 0 (.row [.d (.sl (s.cons.map kn.d)), .d (.sl (s.bU.map kn.d))])) 1 (.row [.d (.i r.fn), .d (.sl (r.bg.map Tm.d)), .d (.i r.rhs.op), .d (.i r.rhs.n), .d (.sl (r.rhs.kids.map Tm.d)), .d (.i r.vars)])) 62 (.mP (enc (D.int .i64) (ints [])) last)) 67 (.su 0 [r.rhs.d])) 69 (.mP (enc (D.int .i64) (ints [])) aaH)) 73 (.mP (enc (D.int .i64) (ints i.1)) i.2),74⟩)
      (fun i=>(dX 8 [r.rhs]).all (fun p=>decide (p.2<=1)&&decide (p.1<r.vars)&&decide (gY (dX 1 r.bg) p.1<=0))=i.1.all (fun p=>decide (p.2<=1)&&decide (p.1<r.vars)&&decide (gY (dX 1 r.bg) p.1<=0))) (fun i=>i.1.length) (dX 8 [r.rhs],none) rfl (bL.bP _ (show 0<=74 from ad) ad dg (fun j hj=>by(repeat(first|rfl|rw[ae]|rw[ai _ _ _ _ (by omega)]))) ?_) ?_
     ·exact cG
     rintro⟨rest,ac0⟩ hC
     simp only at hC
     refine aI ?_
     refine rY (fun Kl=> ?_) fun i n k hm=> ?_
     ·subst Kl
      simp only[List.all_nil]at hC
      refine iC ?_
      refine ah (Lb (dX 8 [r.rhs]) r.rhs hr.rhs.fits [] (by have:=hr.rhs.iU;simp;omega)) rfl ?_
      refine aI ?_
      rw[hR,hA,hB,hC];rfl
     ·have hle:=sb hm
      rw[rZ (fun p=>decide (p.2<=1)&&decide (p.1<r.vars)&&decide (gY (dX 1 r.bg) p.1<=0)) hm]at hC
      simp only at hC
      have bad:(decide (k<=1)&&decide (n<r.vars)&&decide (gY (dX 1 r.bg) n<=0))=false->fk s r=false:=fun e2=>by rw[hR,hC,e2];simp
      by_cases g1:1<k
      ·have IF:decide (1<k)=true:=by simpa using g1
       have e:=bad (by rw[decide_eq_false (by omega: ¬k<=1)];rfl)
       refine AO IF ?_
       rw[e]
      have IF:decide (1<k)=false:=by simpa using g1
      by_cases g2:r.vars<=n
      ·have DE:decide (r.vars<=n)=true:=by simpa using g2
       have e:=bad (by rw[decide_eq_false (by omega: ¬n<r.vars)];simp)
       refine Sd IF DE ?_
       rw[e]
      have DE:decide (r.vars<=n)=false:=by simpa using g2
      by_cases g3:0<gY (dX 1 r.bg) n
      ·have WC:decide (0<gY (dX 1 r.bg) n)=true:=by simpa using g3
       have e:=bad (by rw[decide_eq_false (by omega: ¬gY (dX 1 r.bg) n<=0)];simp)
       refine Xx IF DE WC ?_
       rw[e]
      have WC:decide (0<gY (dX 1 r.bg) n)=false:=by simpa using g3
      have e2:(decide (k<=1)&&decide (n<r.vars)&&decide (gY (dX 1 r.bg) n<=0))=true:=by
       simp;omega
      rw[e2,Bool.true_and]at hC
      refine Xx IF DE WC ?_
      refine au (rest.eraseIdx i,some (.int .i64 n,D.i k)) hC mG (bL.bP _ (show 0<=74 from ad) ad dg (fun j hj=>by first|(rw[jh];done)|(repeat(first|rfl|rw[ae]|rw[ai _ _ _ _ (by omega)]))) ?_)
      exact cG
    ·have hle:=sb hm
     rw[rZ (fun p=>decide (p.1<r.vars)) hm]at hB
     simp only at hB
     refine iC ?_
     refine ak (fun h3=> ?_) (fun h3=> ?_)
     ·have e:fk s r=false:=by
       have e2:decide (n<r.vars)=false:=by
        simp at h3|-;omega
       rw[hR,hB,e2];simp
      refine aI ?_
      rw[e]
     ·have e2:decide (n<r.vars)=true:=by
       simp at h3|-;omega
      rw[e2,Bool.true_and]at hB
      refine aI ?_
      refine au (rest.eraseIdx i,some (.int .i64 n,D.i k)) hB mG (bL.bP _ (show 0<=70 from ad) ad dg (fun j hj=>by first|(rw[jh];done)|(repeat(first|rfl|rw[ae]|rw[ai _ _ _ _ (by omega)]))) ?_)
      exact cG
   ·have hle:=sb hm
    rw[rZ (fun p=>decide (p.2<=1)&&decide (p.1<r.vars)) hm]at hA
    simp only at hA
    refine iC ?_
    refine ak (fun h3=> ?_) (fun h3=> ?_)
    ·have e:fk s r=false:=by
      have e2:(decide (k<=1)&&decide (n<r.vars))=false:=by
       simp at h3|-;omega
      rw[hR,hA,e2];simp
     refine aI ?_
     rw[e]
    ·have e2:(decide (k<=1)&&decide (n<r.vars))=true:=by
      simp at h3|-;omega
     rw[e2,Bool.true_and]at hA
     refine aI ?_
     refine au (rest.eraseIdx i,some (.int .i64 n,D.i k)) hA mG (bL.bP _ (show 0<=63 from ad) ad dg (fun j hj=>by first|rw[jh]|(repeat(first|rfl|rw[ae]|rw[ai _ _ _ _ (by omega)]))) ?_)
     exact cG
def lR{σ α:Type}(step:σ->α->σ×Bool):σ->List α->Int->Int
 |_,[],_=> -1
 |s,x::l,k=>if(step s x).2=true then lR step (step s x).1 l (k+1)else k
theorem tW{σ α:Type}(step:σ->α->σ×Bool):∀ (l:List α) (s:σ) (k:Int),0<=k->(0<=lR step s l k↔(az step s l).2=false)
 |[],_,_,_=>by simp[lR,az]
 |x::l,s,k,hk=>by
  have ih:=tW step l (step s x).1 (k+1) ad
  by_cases h:(step s x).2=true
  ·simp only[lR,az,h,if_true];exact ih
  ·simp[lR,az,h,hk]
theorem V5{σ:Type}(l:List Rl)(hl:l.length<=9223372036854775807)(g:Nat)(aG:List V)(base:Nat)(H:σ->Nat->ab)(step:σ->Rl->σ×Bool)(hc:∀r∈V.aN aG,r<base)(ok:σ->Prop)(bn:∀x∈l,∀s,ok s->(step s x).2=true->ok (step s x).1)
 (h:∀x∈l,∀s,ok s->fC Tryz.prog g (.d x.d::aG) base (H s) (H (step s x).1) (.d (.bool (!(step s x).2)))) (s:σ) (gu:ok s):
 fC Tryz.prog 229 [.d (.sl (l.map Rl.d)), .func (.func g) [] aG] base (H s) (H (az step s l).1) (.d (.i (lR step s l 0))):=by
 intro o nx hI K X hK
 have fw:∀r∈V.aN aG,r<nx:=fun r hr=>Nat.lt_of_lt_of_le (hc r hr) hI.le
 refine cK.aA mix Rx aj ?_
 rw[Vr]
 refine bV ?_
 refine aK (fun i:Nat×σ×(Nat->ab)×Nat=>⟨bA [.d (.sl (l.map Rl.d)), .func (.func g) [] aG, .aa, .aa, .aa, .aa, .aa, .d (.i l.length), .d (.i i.1)],i.2.2.1,i.2.2.2⟩)
  (fun i=>i.1<=l.length/\cT base (H i.2.1) i.2.2.1 i.2.2.2/\nx<=i.2.2.2/\(∀id,base<=id->id<nx->i.2.2.1 id=o id)/\az step s l=az step i.2.1 (l.drop i.1)/\ok i.2.1/\lR step s l 0=lR step i.2.1 (l.drop i.1) i.1) (fun i=>l.length - i.1) (0,s,o,nx)
  ⟨Nat.zero_le _,hI,Nat.le_refl _,fun _ _ _=>rfl,rfl,gu,rfl⟩ ?_ ?_
 ·dsimp only
  refine bL.bP _ (Nat.le_refl _) ad hI.bN (fun _ _=>rfl) ?_
  exact cG
 rintro⟨k,s',o',nx'⟩ ⟨hk,om,hn,db,hf,jM,kA⟩
 simp only at hk om hn db hf jM kA
 refine bV ?_
 refine ak (fun h1=> ?_) (fun h1=> ?_)
 ·simp at h1
  obtain⟨x,hx⟩:=aw h1
  have dc:=List.mem_of_getElem? hx
  have hd:l.drop k=x::l.drop (k+1):=by
   rw[List.drop_eq_getElem_cons h1]
   rw[List.getElem?_eq_getElem h1]at hx;injection hx with hx;rw[hx]
  rw[hd]at hf kA
  simp only[az,lR]at hf kA
  refine Gj hx ?_
  refine cW (h x dc s' jM _ _ (om.mono ad) _ _ fun o2 n2 m1 m2 m3=> ?_)
  cases hb:(step s' x).2 with
  |true=>
   rw[hb]at hf kA
   simp only[if_true]at hf kA
   refine aI ?_
   have Co:∀r∈V.aN aG,r<n2+1+1:=fun r hr=>by have:=fw r hr;omega
   refine au (k+1,(step s' x).1,o2,n2+1+1) ⟨h1,m2.mono (show n2<=n2+1+1 from ad),(show nx<=n2+1+1 from ad),fun id i1 i2=>(m3 id i1 ad).trans (db id i1 i2),hf,bn x dc s' jM hb,by rw[kA];rfl⟩ mG (bL.bP _ (show nx<=n2+1+1 from ad) (Nat.le_refl _) (m2.mono (show n2<=n2+1+1 from ad)).bN (fun _ _=>rfl) ?_)
   exact cG
  |false=>
   rw[hb]at hf kA
   simp only[Bool.false_eq_true,if_false]at hf kA
   refine bV ?_
   rw[hf,kA]at hK
   exact hK _ _ ad (m2.mono ad) fun id i1 i2=>(m3 id i1 ad).trans (db id i1 i2)
 ·simp at h1
  refine bV ?_
  rw[List.drop_eq_nil_of_le h1]at hf kA
  rw[hf,kA]at hK
  exact hK _ _ ad (om.mono ad) db
theorem CE{σ:Type}(l:List Rl)(hl:l.length<=9223372036854775807)(g:Nat)(aG:List V)(base:Nat)(H:σ->Nat->ab)(step:σ->Rl->σ×Bool)(hc:∀r∈V.aN aG,r<base)(ok:σ->Prop)(bn:∀x∈l,∀s,ok s->(step s x).2=true->ok (step s x).1)
 (h:∀x∈l,∀s,ok s->fC Tryz.prog g (.d x.d::aG) base (H s) (H (step s x).1) (.d (.bool (!(step s x).2)))) (s:σ) (gu:ok s):
 fC Tryz.prog 183 [.d (.sl (l.map Rl.d)), .func (.func g) [] aG] base (H s) (H (az step s l).1) (.d (.bool (!(az step s l).2))):=by
 intro o nx hI K X hK
 have fw:∀r∈V.aN aG,r<nx:=fun r hr=>Nat.lt_of_lt_of_le (hc r hr) hI.le
 refine cK.aA mix Q7 aj ?_
 rw[U3]
 refine iC ?_
 refine bc (V5 l hl g aG base H step hc ok bn h s gu _ _ ?_ _ _ fun o2 n2 m1 m2 m3=> ?_)
 ·exact hI.mono ad
 refine iC ?_
 have e:decide (0<=lR step s l 0)= !(az step s l).2:=by
  have:=tW step l s 0 ad
  rw[Bool.eq_iff_iff,decide_eq_true_eq,this]
  cases(az step s l).2<;>simp
 rw[e]
 exact hK _ _ ad (m2.mono ad) fun id i1 i2=>m3 id i1 ad
theorem aaI{x:Rl}{g:Nat}{aG:List V}{base c bx:Nat}{h h2 O:Nat->ab}{r:Bool}(hS:fC Tryz.prog g (.d x.d::aG) base h h2 (.d (.bool r)))(hb:base<=bx)(Pc:bx<c)(hO:O bx= .row [.func (.func g) [] aG])(hc:∀r∈V.aN aG,r<base):
 fC Tryz.prog 184 [.d x.d, .ptr bx 0] c (ext base h O) (ext base h2 O) (.d (.bool (!r))):=by
 intro o nx hI K X hK
 have hle:=hI.le
 have fw:∀r∈V.aN aG,r<nx:=fun r hr=>by have:=hc r hr;omega
 have ho:o bx= .row [.func (.func g) [] aG]:=by
  exact IW
 have y1:∀k,bx≠nx+k:=fun k=>ad
 have y2:bx≠nx:=ad
 refine cK.aA mix Q8 aj ?_
 rw[U4]
 refine Mi ho y1 y2 ?_
 refine cW ((hS.ext (by omega:base<=c) O) _ _ ?_ _ _ fun o2 n2 m1 m2 m3=> ?_)
 ·exact hI.aL ad ad ad rfl
 refine iC ?_
 exact hK _ _ ad (m2.mono ad) fun id i1 i2=>by rw[m3 id i1 (by omega),ai _ _ _ _ (by omega)]
theorem HO{σ:Type}(l:List Rl)(hl:l.length<=9223372036854775807)(g:Nat)(aG:List V)(base:Nat)(H:σ->Nat->ab)(step:σ->Rl->σ×Bool)(hc:∀r∈V.aN aG,r<base)(ok:σ->Prop)(bn:∀x∈l,∀s,ok s->(step s x).2=true->ok (step s x).1)
 (h:∀x∈l,∀s,ok s->fC Tryz.prog g (.d x.d::aG) base (H s) (H (step s x).1) (.d (.bool (step s x).2))) (s:σ) (gu:ok s):
 fC Tryz.prog 130 [.d (.sl (l.map Rl.d)), .func (.func g) [] aG] base (H s) (H (az step s l).1) (.d (.bool (az step s l).2)):=by
 intro o nx hI K X hK
 have hle:=hI.le
 have fw:∀r∈V.aN aG,r<nx:=fun r hr=>Nat.lt_of_lt_of_le (hc r hr) hI.le
 refine cK.aA mix QA aj ?_
 rw[Uv]
 refine iC ?_
 refine bc (CE l hl 184 [.ptr nx 0] (nx+1) (fun s=>ext base (H s) (aL o nx (.row [.func (.func g) [] aG]))) step lU ok bn (fun x hx s hs=>aaI (h x hx s hs) hle ad (ae _ _ _) hc) s gu _ _ ?_ _ _ fun o2 n2 m1 m2 m3=> ?_)
 ·have hr:(ab.row [V.func (.func g) [] aG]).refs.all (fun r=>decide (r<nx+4))=true:=by
   rw[List.all_eq_true]
   intro r hr
   have h1:r∈V.aN aG:=by simpa[ab.refs,V.aN,V.refs]using hr
   have:=fw r h1
   simp;omega
  exact(hI.aL ad ad ad hr).ext ad ad
 refine iC ?_
 refine hK _ _ ad ⟨(m2.mono ad).bN,by have:=m2.le;omega,fun id aB=> ?_⟩ fun id i1 i2=> ?_
 ·exact yL
 ·exact IQ
theorem Ai(l:List Rl)(hl:l.length<=9223372036854775807)(g:Nat)(aG:List V)(base:Nat)(h:Nat->ab)(p:Rl->Bool)(hc:∀r∈V.aN aG,r<base)
 (hp:∀x∈l,fC Tryz.prog g (.d x.d::aG) base h h (.d (.bool (p x)))):fC Tryz.prog 130 [.d (.sl (l.map Rl.d)), .func (.func g) [] aG] base h h (.d (.bool (l.all p))):=by
 have:=HO l hl g aG base (fun _:Unit=>h) (fun _ x=>((),p x)) hc (fun _=>True) (fun _ _ _ _ _=>trivial) (fun x hx _ _=>hp x hx) () trivial
 exact MJ
structure Pg where
 sig:aX
 rules:List Rl
@[reducible] def Pg.row (p:Pg):List V:=[.d (.sl (p.sig.cons.map kn.d)), .d (.sl (p.sig.bU.map kn.d)), .d (.sl (p.rules.map Rl.d))]
@[reducible] def Pg.d (p:Pg):D:= .agg [.sl (p.sig.cons.map kn.d), .sl (p.sig.bU.map kn.d), .sl (p.rules.map Rl.d)]
structure Pg.Fin (p:Pg):Prop where
 sig:p.sig.Fits
 len:p.rules.length<=9223372036854775807
 all:∀r∈p.rules,r.Fin
def qD(p:Pg):Bool:=decide (p.rules.length<=16)&&(iV p.sig&&p.rules.all (fk p.sig))
theorem HP(p:Pg)(hp:p.Fin)(r:Rl)(hr:r∈p.rules)(base sp:Nat)(h:Nat->ab)(te:h sp= .row p.row)(hb:sp<base):fC Tryz.prog 131 [.d r.d, .ptr sp 0] base h h (.d (.bool (fk p.sig r))):=by
 intro o nx hI K X hK
 have hle:=hI.le
 have hg:=hI.bN
 have q0:o sp= .row p.row:=by rw[hI.eq sp hb,te]
 refine cK.aA mix QB aj ?_
 rw[Uw]
 refine dz q0 ?_
 refine ah (Oq p.sig hp.sig r (hp.all r hr)) rfl ?_
 refine aI ?_
 exact hK _ _ ad ⟨dg,ad,fun j hj=>by rw[ai _ _ _ _ (by omega),hI.eq j hj]⟩ (fun j g1 g2=>by(repeat(first|rfl|rw[ae]|rw[ai _ _ _ _ (by omega)])))
theorem Ld(p:Pg)(hp:p.Fin):a7 Tryz.prog 95 [p.d] (.ret [.bool (qD p)]):=by
 have hl:=hp.len
 refine a7.aA mix Zr aj ?_
 rw[c95]
 unfold qD
 by_cases h0: ¬p.rules.length<=16
 ·have AG:decide ((p.rules.length:Int)<=16)=false:=by simp;omega
  have Et:decide (p.rules.length<=16)=false:=by simp;omega
  refine eR AG ?_
  rw[Et];rfl
 have AG:decide ((p.rules.length:Int)<=16)=true:=by simp;omega
 have Et:decide (p.rules.length<=16)=true:=by simp;omega
 rw[Et,Bool.true_and]
 refine eR AG ?_
 refine ah (pt p.sig hp.sig) rfl ?_
 cases h1:iV p.sig with
 |false=>
  refine wu ?_
  try simp
 |true=>
  refine wu ?_
  refine bc (Ai p.rules hl 131 [.ptr 0 0] 1 (aL (fun _=> .no) 0 (.row p.row)) (fk p.sig) lU (fun x hx=>HP p hp x hx 1 0 _ (ae _ _ _) ad) _ _ ⟨dg,ad,fun id aB=>rfl⟩ _ _ fun o2 n2 m1 m2 m3=> ?_)
  refine aI ?_
  try simp
theorem Le(p:Pg)(hp:p.Fin):a7 Tryz.prog 54 [p.d] (.ret [.i (jV (qD p))]):=by
 refine a7.aA mix Zd aj ?_
 rw[c54]
 refine aI ?_
 refine ah (Ld p hp) rfl ?_
 cases h1:qD p with
 |false=>exact Gl
 |true=>exact Gl
inductive Pf where
 |mk (b7:Int) (val:Tm) (num:Int) (binds:List Tm) (kids:List Pf)
 deriving Inhabited
def Pf.b7:Pf->Int| .mk r _ _ _ _=>r
def Pf.val:Pf->Tm| .mk _ v _ _ _=>v
def Pf.num:Pf->Int| .mk _ _ n _ _=>n
def Pf.binds:Pf->List Tm| .mk _ _ _ b _=>b
def Pf.kids:Pf->List Pf| .mk _ _ _ _ k=>k
theorem Pf.ind {P:Pf->Prop}(h:∀r v n b kids,(∀k∈kids,P k)->P (.mk r v n b kids)):∀t,P t:=
 fun t=>Pf.rec (motive_1:=P) (motive_2:=fun l=>∀k∈l,P k) (fun r v n b kids ih=>h r v n b kids ih) (fun _ h=>by cases h)
  (fun x l hx hl k hk=>(List.mem_cons.1 hk).elim (fun e=>e ▸ hx) (hl k)) t
theorem Pf.cC {P:Pf->Prop}(h:∀t:Pf,(∀k∈t.kids,P k)->P t):∀t,P t:=Pf.ind fun r v n b kids ih=>h (.mk r v n b kids) ih
mutual
def Pf.d:Pf->D
 | .mk r v n b kids=> .agg [.i r, .i v.op, .i v.n, .sl (v.kids.map Tm.d), .i n, .sl (b.map Tm.d), .sl (Pf.ds kids)]
def Pf.ds:List Pf->List D
 |[]=>[]
 |t::l=>t.d::Pf.ds l
end
theorem Pf.rN:∀l:List Pf,Pf.ds l=l.map Pf.d
 |[]=>rfl
 |t::l=>by simp[Pf.ds,Pf.rN l]
theorem Pf.Hn (t:Pf):t.d= .agg [.i t.b7, .i t.val.op, .i t.val.n, .sl (t.val.kids.map Tm.d), .i t.num, .sl (t.binds.map Tm.d), .sl (t.kids.map Pf.d)]:=by
 cases t;simp[Pf.d,Pf.rN,Pf.b7,Pf.val,Pf.num,Pf.binds,Pf.kids]
@[go_sem] theorem Pf.TO (t:Pf):D.agg [.i t.b7, .i t.val.op, .i t.val.n, .sl (t.val.kids.map Tm.d), .i t.num, .sl (t.binds.map Tm.d), .sl (t.kids.map Pf.d)]=t.d:=(Pf.Hn t).symm
@[go_sem] theorem Pf.NJ (t:Pf):D.cells t.d=[.i t.b7, .i t.val.op, .i t.val.n, .sl (t.val.kids.map Tm.d), .i t.num, .sl (t.binds.map Tm.d), .sl (t.kids.map Pf.d)]:=by rw[Pf.Hn];rfl
@[reducible] def Pf.row (t:Pf):List V:=[.d (.i t.b7), .d (.i t.val.op), .d (.i t.val.n), .d (.sl (t.val.kids.map Tm.d)), .d (.i t.num), .d (.sl (t.binds.map Tm.d)), .d (.sl (t.kids.map Pf.d))]
mutual
def Pf.fits:Pf->Prop
 | .mk _ v _ b kids=>v.fits/\b.length<=9223372036854775807/\(∀t∈b,t.fits)/\kids.length<=9223372036854775807/\Pf.ko kids
def Pf.ko:List Pf->Prop
 |[]=>True
 |t::l=>t.fits/\Pf.ko l
end
theorem Pf.lL:∀l:List Pf,Pf.ko l↔∀k∈l,k.fits
 |[]=>by simp[Pf.ko]
 |t::l=>by simp[Pf.ko,Pf.lL l]
theorem Pf.aP (t:Pf):t.fits↔t.val.fits/\t.binds.length<=9223372036854775807/\(∀x∈t.binds,x.fits)/\t.kids.length<=9223372036854775807/\∀k∈t.kids,k.fits:=by
 cases t;simp[Pf.fits,Pf.lL,Pf.kids,Pf.val,Pf.binds]
mutual
def dA:Pf->Int->List (Pf×Int)
 | .mk r v n b kids,d=>(.mk r v n b kids,d)::FY kids (d+1)
def FY:List Pf->Int->List (Pf×Int)
 |[],_=>[]
 |k::l,d=>dA k d++FY l d
end
theorem Eu(l:List Pf)(d:Int):FY l d=l.flatMap fun k=>dA k d:=by
 induction l with
 |nil=>rfl
 |cons k l ih=>simp[FY,ih]
theorem qE(t:Pf)(d:Int):dA t d=(t,d)::t.kids.flatMap fun k=>dA k (d+1):=by cases t;simp[dA,Eu,Pf.kids]
theorem V6{σ:Type}(l:List Pf)(hl:l.length<=9223372036854775807)(g:Nat)(aG:List V)(base:Nat)(H:σ->Nat->ab)(step:σ->Pf->σ×Bool)(hc:∀r∈V.aN aG,r<base)(ok:List Pf->σ->Prop)(bn:∀x∈l,∀r s,ok (x::r) s->(step s x).2=true->ok r (step s x).1)
 (h:∀x∈l,∀r s,ok (x::r) s->fC Tryz.prog g (.d x.d::aG) base (H s) (H (step s x).1) (.d (.bool (!(step s x).2)))) (s:σ) (gu:ok l s):
 fC Tryz.prog 192 [.d (.sl (l.map Pf.d)), .func (.func g) [] aG] base (H s) (H (az step s l).1) (.d (.i (lR step s l 0))):=by
 intro o nx hI K X hK
 have fw:∀r∈V.aN aG,r<nx:=fun r hr=>Nat.lt_of_lt_of_le (hc r hr) hI.le
 refine cK.aA mix Rh aj ?_
 rw[Vc]
 refine bV ?_
 refine aK (fun i:Nat×σ×(Nat->ab)×Nat=>⟨bA [.d (.sl (l.map Pf.d)), .func (.func g) [] aG, .aa, .aa, .aa, .aa, .aa, .d (.i l.length), .d (.i i.1)],i.2.2.1,i.2.2.2⟩)
  (fun i=>i.1<=l.length/\cT base (H i.2.1) i.2.2.1 i.2.2.2/\nx<=i.2.2.2/\(∀id,base<=id->id<nx->i.2.2.1 id=o id)/\az step s l=az step i.2.1 (l.drop i.1)/\ok (l.drop i.1) i.2.1/\lR step s l 0=lR step i.2.1 (l.drop i.1) i.1) (fun i=>l.length - i.1) (0,s,o,nx)
  ⟨Nat.zero_le _,hI,Nat.le_refl _,fun _ _ _=>rfl,rfl,gu,rfl⟩ ?_ ?_
 ·dsimp only
  refine bL.bP _ (Nat.le_refl _) ad hI.bN (fun _ _=>rfl) ?_
  exact cG
 rintro⟨k,s',o',nx'⟩ ⟨hk,om,hn,db,hf,jM,kA⟩
 simp only at hk om hn db hf jM kA
 refine bV ?_
 refine ak (fun h1=> ?_) (fun h1=> ?_)
 ·simp at h1
  obtain⟨x,hx⟩:=aw h1
  have dc:=List.mem_of_getElem? hx
  have hd:l.drop k=x::l.drop (k+1):=by
   rw[List.drop_eq_getElem_cons h1]
   rw[List.getElem?_eq_getElem h1]at hx;injection hx with hx;rw[hx]
  rw[hd]at hf kA jM
  simp only[az,lR]at hf kA
  refine Gj hx ?_
  refine cW (h x dc _ s' jM _ _ (om.mono ad) _ _ fun o2 n2 m1 m2 m3=> ?_)
  cases hb:(step s' x).2 with
  |true=>
   rw[hb]at hf kA
   simp only[if_true]at hf kA
   refine aI ?_
   have Co:∀r∈V.aN aG,r<n2+1+1:=fun r hr=>by have:=fw r hr;omega
   refine au (k+1,(step s' x).1,o2,n2+1+1) ⟨h1,m2.mono (show n2<=n2+1+1 from ad),(show nx<=n2+1+1 from ad),fun id i1 i2=>(m3 id i1 ad).trans (db id i1 i2),hf,bn x dc _ s' jM hb,by rw[kA];rfl⟩ mG (bL.bP _ (show nx<=n2+1+1 from ad) (Nat.le_refl _) (m2.mono (show n2<=n2+1+1 from ad)).bN (fun _ _=>rfl) ?_)
   exact cG
  |false=>
   rw[hb]at hf kA
   simp only[Bool.false_eq_true,if_false]at hf kA
   refine bV ?_
   rw[hf,kA]at hK
   exact hK _ _ ad (m2.mono ad) fun id i1 i2=>(m3 id i1 ad).trans (db id i1 i2)
 ·simp at h1
  refine bV ?_
  rw[List.drop_eq_nil_of_le h1]at hf kA
  rw[hf,kA]at hK
  exact hK _ _ ad (om.mono ad) db
theorem CF{σ:Type}(l:List Pf)(hl:l.length<=9223372036854775807)(g:Nat)(aG:List V)(base:Nat)(H:σ->Nat->ab)(step:σ->Pf->σ×Bool)(hc:∀r∈V.aN aG,r<base)(ok:List Pf->σ->Prop)(bn:∀x∈l,∀r s,ok (x::r) s->(step s x).2=true->ok r (step s x).1)
 (h:∀x∈l,∀r s,ok (x::r) s->fC Tryz.prog g (.d x.d::aG) base (H s) (H (step s x).1) (.d (.bool (!(step s x).2)))) (s:σ) (gu:ok l s):
 fC Tryz.prog 133 [.d (.sl (l.map Pf.d)), .func (.func g) [] aG] base (H s) (H (az step s l).1) (.d (.bool (!(az step s l).2))):=by
 intro o nx hI K X hK
 have fw:∀r∈V.aN aG,r<nx:=fun r hr=>Nat.lt_of_lt_of_le (hc r hr) hI.le
 refine cK.aA mix QD aj ?_
 rw[Uy]
 refine iC ?_
 refine bc (V6 l hl g aG base H step hc ok bn h s gu _ _ ?_ _ _ fun o2 n2 m1 m2 m3=> ?_)
 ·exact hI.mono ad
 refine iC ?_
 have e:decide (0<=lR step s l 0)= !(az step s l).2:=by
  have:=tW step l s 0 ad
  rw[Bool.eq_iff_iff,decide_eq_true_eq,this]
  cases(az step s l).2<;>simp
 rw[e]
 exact hK _ _ ad (m2.mono ad) fun id i1 i2=>m3 id i1 ad
theorem aaJ{x:Pf}{g:Nat}{aG:List V}{base c bx:Nat}{h h2 O:Nat->ab}{r:Bool}(hS:fC Tryz.prog g (.d x.d::aG) base h h2 (.d (.bool r)))(hb:base<=bx)(Pc:bx<c)(hO:O bx= .row [.func (.func g) [] aG])(hc:∀r∈V.aN aG,r<base):
 fC Tryz.prog 134 [.d x.d, .ptr bx 0] c (ext base h O) (ext base h2 O) (.d (.bool (!r))):=by
 intro o nx hI K X hK
 have hle:=hI.le
 have fw:∀r∈V.aN aG,r<nx:=fun r hr=>by have:=hc r hr;omega
 have ho:o bx= .row [.func (.func g) [] aG]:=by
  exact IW
 have y1:∀k,bx≠nx+k:=fun k=>ad
 have y2:bx≠nx:=ad
 refine cK.aA mix QE aj ?_
 rw[Uz]
 refine Mi ho y1 y2 ?_
 refine cW ((hS.ext (by omega:base<=c) O) _ _ ?_ _ _ fun o2 n2 m1 m2 m3=> ?_)
 ·exact hI.aL ad ad ad rfl
 refine iC ?_
 exact hK _ _ ad (m2.mono ad) fun id i1 i2=>by rw[m3 id i1 (by omega),ai _ _ _ _ (by omega)]
theorem HQ{σ:Type}(l:List Pf)(hl:l.length<=9223372036854775807)(g:Nat)(aG:List V)(base:Nat)(H:σ->Nat->ab)(step:σ->Pf->σ×Bool)(hc:∀r∈V.aN aG,r<base)(ok:List Pf->σ->Prop)(bn:∀x∈l,∀r s,ok (x::r) s->(step s x).2=true->ok r (step s x).1)
 (h:∀x∈l,∀r s,ok (x::r) s->fC Tryz.prog g (.d x.d::aG) base (H s) (H (step s x).1) (.d (.bool (step s x).2))) (s:σ) (gu:ok l s):
 fC Tryz.prog 98 [.d (.sl (l.map Pf.d)), .func (.func g) [] aG] base (H s) (H (az step s l).1) (.d (.bool (az step s l).2)):=by
 intro o nx hI K X hK
 have hle:=hI.le
 have fw:∀r∈V.aN aG,r<nx:=fun r hr=>Nat.lt_of_lt_of_le (hc r hr) hI.le
 refine cK.aA mix Zu aj ?_
 rw[c98]
 refine iC ?_
 refine bc (CF l hl 134 [.ptr nx 0] (nx+1) (fun s=>ext base (H s) (aL o nx (.row [.func (.func g) [] aG]))) step lU ok bn (fun x hx r s hs=>aaJ (h x hx r s hs) hle ad (ae _ _ _) hc) s gu _ _ ?_ _ _ fun o2 n2 m1 m2 m3=> ?_)
 ·have hr:(ab.row [V.func (.func g) [] aG]).refs.all (fun r=>decide (r<nx+4))=true:=by
   rw[List.all_eq_true]
   intro r hr
   have h1:r∈V.aN aG:=by simpa[ab.refs,V.aN,V.refs]using hr
   have:=fw r h1
   simp;omega
  exact(hI.aL ad ad ad hr).ext ad ad
 refine iC ?_
 refine hK _ _ ad ⟨(m2.mono ad).bN,by have:=m2.le;omega,fun id aB=> ?_⟩ fun id i1 i2=> ?_
 ·exact yL
 ·exact IQ
end Go.Proofs.YtonbelhklnmjnaaGreat
