/-
  A PART OF THE PROOF. Conditions: none.
-/
import Derived.Test.YtonbelhklnmjnaaGreatLt15
set_option linter.unusedSimpArgs false
set_option linter.unusedVariables false
namespace Go.Proofs.YtonbelhklnmjnaaGreat
theorem CF(l:List Tm)(hl:l.length<=1000000)(hf:∀t∈l,t.fits)(o:Nat->ab)(nx:Nat)(hg:Good o nx)(K X:V->(Nat->ab)->Nat->Prop)
 (hK:aa7 (fun m=>m=(l.flatMap iM).foldl (ed 1) []) o nx K):cO Tryz.prog 189 [.d (.sl (l.map Tm.d))] o nx K X:=by
 refine cO.aB mix RA aj ?_
 rw[Vu]
 refine SA ?_
 let Hm:List (Int×Int)->Nat->ab:=fun m=>aM (aM o (nx+2) (.row [.mp (nx+1)])) (nx+1) (qF m)
 have hgm:∀m,Good (Hm m) (nx+7):=fun m=>((hg.mono ad).aM ad lA).aM ad rfl
 have Tp:∀m,Hm m (nx+1)=qF m:=fun m=>ae _ _ _
 have MH:∀m,Hm m (nx+2)= .row [.mp (nx+1)]:=fun m=>by show aM _ (nx+1) _ (nx+2)=_;rw[ah _ _ _ _ (by omega),ae]
 have wL:∀m j,j≠nx+1->Hm m j=Hm [] j:=fun m j h=>by show aM _ (nx+1) _ j=aM _ (nx+1) _ j;rw[ah _ _ _ _ h,ah _ _ _ _ h]
 refine aL (fun i:Nat×List (Int×Int)=>⟨bB [.aa, .aa, .aa, .ptr (nx+2) 0, .aa, .aa, .aa, .aa, .d (.sl (l.map Tm.d)), .d (.i l.length), .d (.i i.1)],Hm i.2,nx+7⟩)
  (fun i=>i.1<=l.length/\i.2=((l.take i.1).flatMap iM).foldl (ed 1) []) (fun i=>l.length - i.1) (0,[]) ⟨Nat.zero_le _,rfl⟩ (bM.bT _ (show nx<=nx+7 from ad) ad (hgm _) (fun j hj=> ?_) ?_) ?_
 ·show _=aM (aM o (nx+2) (.row [.mp (nx+1)])) (nx+1) (qF []) j
  exact j6
 ·exact cM
 rintro⟨k,m⟩ ⟨hk,hm⟩
 simp only at hk hm
 refine aJ ?_
 refine ak (fun h2=> ?_) (fun h2=> ?_)
 ·simp at h2
  obtain⟨x,hx⟩:=aw h2
  have de:=List.mem_of_getElem? hx
  have kV:((l.take (k+1)).flatMap iM).foldl (ed 1) []=(iM x).foldl (ed 1) m:=by
   rw[List.take_add_one,hx,hm];simp
  have adg:=hgm m
  have e1:=Tp m
  have e2:=MH m
  have e3:=wL m
  clear_value Hm
  refine AU hx ?_
  refine da (yr x _ _ _ _ ?_)
  refine iL ?_
  let G:List (Int×Int)->Nat->ab:=fun s=>aM (aM (aM (Hm m) (nx+10) (.row x.row)) (nx+13) (.row x.row)) (nx+1) (qF s)
  have hG:∀j,j<nx+17->aM (aM (aM (Hm m) (nx+10) (.row [.d (.int .i64 0), .d (.int .i64 0), .bO])) (nx+10) (.row [.d (.i x.op), .d (.i x.n), .d (.sl (x.kids.map Tm.d))])) (nx+13) (.row x.row) j=G m j:=by
   intro j _
   show _=aM (aM (aM (Hm m) (nx+10) (.row x.row)) (nx+13) (.row x.row)) (nx+1) (qF m) j
   by_cases e:j=nx+1
   ·subst e;(repeat(first|rfl|rw[ae]|rw[ah _ _ _ _ (by omega)]))
    exact e1
   ·rw[ah _ (nx+1) _ _ e,jn]
  have gm:∀s,G s (nx+1)=qF s:=fun s=>ae _ _ _
  have g2:∀s,G s (nx+2)= .row [.mp (nx+1)]:=fun s=>by
   show aM _ (nx+1) _ (nx+2)=_
   rw[ah _ _ _ _ (by omega),ah _ _ _ _ (by omega),ah _ _ _ _ (by omega)];exact e2
  have g3:∀s s' j,j≠nx+1->G s j=G s' j:=fun s s' j h=>by show aM _ (nx+1) _ j=aM _ (nx+1) _ j;rw[ah _ _ _ _ h,ah _ _ _ _ h]
  have g4:∀s j,j<nx+7->j≠nx+1->G s j=Hm m j:=fun s j h h'=>by
   show aM _ (nx+1) _ j=_
   rw[ah _ _ _ _ h',ah _ _ _ _ (by omega),ah _ _ _ _ (by omega)]
  clear_value G
  have hg:=adg
  refine qE (σ:=List (Int×Int)) x (hf x de) [.aa, .aa, .aa, .ptr (nx+2) 0, .aa, .aa, .aa, .aa, .d (.sl (l.map Tm.d)), .d (.i l.length), .d (.i k)] ?_ aZ rfl dv mK (ae _ _ _)
   G (fun _=>none) (ed 1) (fun _=>True) m trivial rfl hG (fun _ _ _ _ _ _=>trivial) ?_ ?_
  ·exact Ji
  ·intro L hL wx y hy s' _ _ o3 n3 hI hn I6 K' X' cQ
   simp only[nw]
   have hg:=hI.bP
   have hle:=hI.le
   have q1:o3 (nx+2)= .row [.mp (nx+1)]:=by rw[hI.eq (nx+2) (by omega),g2]
   have q2:o3 (nx+1)=qF s':=by rw[hI.eq (nx+1) (by omega),gm]
   have z1:nx≠n3:=ad
   have z2:∀k,nx≠n3+k:=fun k=>ad
   have z3:nx+2≠n3:=ad
   have z4:nx+1≠n3:=ad
   have same:∀ (o':Nat->ab) (n':Nat) (l:List (Int×Int)),Good o' n'->n3<=n'->(∀j,j<nx+17->o' j=aM o3 (nx+1) (qF l) j)->cW (nx+17) (G l) o' n':=fun o' n' l k1 k2 k3=>⟨k1,ad,fun j hj=>by
    rw[k3 j hj]
    by_cases e:j=nx+1
    ·subst e;rw[ae,gm]
    ·rw[ah _ _ _ _ e,hI.eq j hj];exact g3 _ _ _ e⟩
   refine aJ ?_
   refine nJ hL (pd:=none) ?_ ?_
   ·(repeat(first|rfl|rw[ae]|rw[ah _ _ _ _ (by omega)]))
    exact I6
   refine ud q1 q2 ?_
   refine ak (fun h3=> ?_) (fun h3=> ?_)
   ·have rG:y.op=1:=by simpa using h3
    have hp:ed 1 s' y=tD s' y.n:=by unfold ed;rw[if_pos rG]
    rw[hp]at cQ
    cases OM:lk s' y.n with
    |none=>
     have hc:tD s' y.n=ly s' y.n (0+1):=by unfold tD im;rw[OM];rfl
     rw[hc]at cQ
     simp+contextual (disch:=first|omega|simp only[go_sem,false_implies]) only[go_sem,wrap64,if_pos,q1,q2,z1,z2,z3,z4,mu OM,lT,Nat.add_assoc,Nat.left_eq_add,Nat.add_eq_left,Nat.add_left_cancel_iff]
     refine cQ _ _ _ .busy none ad (same _ _ _ dv ad fun j hj=> ?_) dC (fun j h3 h4=>by(repeat(first|rfl|rw[ae]|rw[ah _ _ _ _ (by omega)])))
     by_cases e:j=nx+1
     ·subst e;(repeat(first|rfl|rw[ae]|rw[ah _ _ _ _ (by omega)]))
     ·exact dC
    |some c=>
     obtain⟨q,hq⟩:=mq OM
     have hc:tD s' y.n=ly s' y.n (IntKind.i64.wrap (c+1)):=by unfold tD im;rw[OM];rfl
     rw[hc]at cQ
     simp+contextual (disch:=first|omega|simp only[go_sem,false_implies]) only[go_sem,wrap64,if_pos,q1,q2,z1,z2,z3,z4,hq,lT,Nat.add_assoc,Nat.left_eq_add,Nat.add_eq_left,Nat.add_left_cancel_iff]
     refine cQ _ _ _ .busy none ad (same _ _ _ dv ad fun j hj=> ?_) dC (fun j h3 h4=>by(repeat(first|rfl|rw[ae]|rw[ah _ _ _ _ (by omega)])))
     by_cases e:j=nx+1
     ·subst e;(repeat(first|rfl|rw[ae]|rw[ah _ _ _ _ (by omega)]))
     ·exact dC
   ·have hp:ed 1 s' y=s':=by unfold ed;rw[if_neg (by simpa using h3)]
    rw[hp]at cQ
    refine aJ ?_
    refine cQ _ _ _ .busy none ad (same _ _ _ dv ad fun j hj=> ?_) dC (fun j h3 h4=>by(repeat(first|rfl|rw[ae]|rw[ah _ _ _ _ (by omega)])))
    by_cases e:j=nx+1
    ·subst e;(repeat(first|rfl|rw[ae]|rw[ah _ _ _ _ (by omega)]))
     exact q2
    ·exact dC
  ·intro o' n' hI
   have hle:=hI.le
   simp only[ph]
   have AR:∀ (l:List Tm) (m:List (Int×Int)),(aA (Al (fun _=>none) (ed 1)) m l).1=l.foldl (ed 1) m:=by
    intro l
    induction l with
    |nil=>intro m;rfl
    |cons y l ih=>intro m;simp only[aA,Al,Option.isNone_none,if_true];exact ih _
   rw[AR]at hI
   refine aJ ?_
   refine au (k+1,(iM x).foldl (ed 1) m) ⟨h2,kV.symm⟩ mL (bM.bT _ (show nx<=nx+7 from ad) ad (hgm _) (fun j hj=> ?_) ?_)
   ·rw[hI.eq j (by omega)]
    by_cases e:j=nx+1
    ·subst e;rw[gm,Tp]
    ·rw[g4 _ _ hj e,e3 j e];exact(wL _ j e).symm
   ·exact cM
 ·simp at h2
  rw[List.take_of_length_le h2]at hm
  refine dD MH ?_
  exact hK _ _ _ _ ad ad ((hgm _).mono ad) (fun j hj=>by show aM _ (nx+1) _ j=_;rw[ah _ _ _ _ (by omega),ah _ _ _ _ (by omega)]) (Tp m) hm
end Go.Proofs.YtonbelhklnmjnaaGreat
namespace Go.Proofs.YtonbelhklnmjnaaGreat
section
variable {B:Nat->Prop}{w:World}
end
theorem a8.sW {P:Program}{f:FuncId}{ds:List D}{out:D}(h:cO P f (ds.map .d) (fun _=> .no) 0 (fun v o _=>∃x,eg o v=some x/\∀B w val,D.den B w x val->D.den B w out val) (fun _ _ _=>False)):a8 P f ds (.ret [out]):=by
 refine⟨h.1,fun M w vals hM hd=> ?_⟩
 let cT:Place:=fun _=> .nilFunc
 have wO:∀b, ¬df cT (hp (fun _=> .no) 0) b:=by rintro b ⟨id,hl,_⟩;simp[hp,ab.live]at hl
 refine(h.2 M cT w vals (lM cT hM) ((V.cE _ _).2 (D.ba (w:=w) (w':=w) (B:=M) (fun b _ hB=>⟨rfl,fun h=>h.elim hB (wO b)⟩) _ _ hd))).mono ?_
 rintro e w' ⟨aQ,o',nx',v,k1,k2,k3⟩
 have xL:eK (fun _=>False) w w':=⟨k2.cA.os,k2.cA.tape,k2.cA.output,k2.cA.size,fun k hk _=>k2.cA.block k hk (wO k)⟩
 refine⟨xL, ?_⟩
 cases e with
 |outgrown=>exact k3.elim
 |panicked ch=>obtain⟨_,_,_,h⟩:=k3;exact h.elim
 |returned val=>
  obtain⟨g1,x,g2,g3⟩:=k3
  obtain⟨f1,f2,f3,f4,f5⟩:=dx k1 v.ids (fun id aC=>dq v val g1 id aC)
  have h3:=gA f1 (o:=o') v x val (fun id aC=>f3 id aC) g2 (V.aT f2 _ _ g1)
  exact g3 _ _ _ (D.aT (w:=w') (w':=w') (fun k _ hB=>⟨rfl,fun hM=>hB (.inl hM)⟩) x val h3)
end Go.Proofs.YtonbelhklnmjnaaGreat
namespace Go.Proofs.YtonbelhklnmjnaaGreat
@[reducible] def Lv (m:List (Int×Int)):D:= .mp ((enc (D.int .i64) (ints m)).map (·.1)) ((enc (D.int .i64) (ints m)).map (·.2))
theorem tH(m:List (Int×Int)):(((enc (D.int .i64) (ints m)).map (·.1)).zip ((enc (D.int .i64) (ints m)).map (·.2)))=enc (D.int .i64) (ints m):=OB _ _
def ee(op:Int)(l:List Tm):List (Int×Int):=(l.flatMap iM).foldl (ed op) []
theorem Wn(t:Tm)(ht:t.fits):a8 Tryz.prog 190 [t.d] (.ret [Lv (ee 8 [t])]):=by
 refine a8.sW (Wm t ht _ _ dv _ _ fun o' nx' id m _ _ _ _ ho hm=> ?_)
 refine⟨_,by simp only[eg,ho];rfl,fun B w val h=> ?_⟩
 have e:m=ee 8 [t]:=by rw[hm];simp[ee]
 rw[<- e];exact h
theorem sX(l:List Tm)(hl:l.length<=1000000)(hf:∀t∈l,t.fits):a8 Tryz.prog 189 [.sl (l.map Tm.d)] (.ret [Lv (ee 1 l)]):=by
 refine a8.sW (CF l hl hf _ _ dv _ _ fun o' nx' id m _ _ _ _ ho hm=> ?_)
 refine⟨_,by simp only[eg,ho];rfl,fun B w val h=> ?_⟩
 have e:m=ee 1 l:=hm
 rw[<- e];exact h
theorem yU(o:Nat->ab)(m:List (Int×Int))(v:Int):jl Tryz.prog o 176 (.d (Lv m)) (.d (.int .i64 v)) false=some (.d (.i (im m v)),[],[]):=by
 cases h:lk m v with
 |none=>
  have e:im m v=0:=by unfold im;rw[h];rfl
  rw[e]
  simp+contextual (disch:=first|omega|simp only[go_sem,false_implies]) only[go_sem,wrap64,if_pos,tH,mu h]
 |some c=>
  have e:im m v=c:=by unfold im;rw[h];rfl
  obtain⟨j,hj⟩:=mq h
  rw[e]
  simp+contextual (disch:=first|omega|simp only[go_sem,false_implies]) only[go_sem,wrap64,if_pos,tH,hj]
theorem EG(l:List Int)(hl:l.length<=1000000)(o:Nat->ab)(fr:Nat):xN Tryz.prog 233 [.d (.sl (l.map .i))] [] o fr (.osl fr 0) [(fr, .arr 0 3 1 (l.map .i))]:=by
 refine xN.En (ds:=[.sl (l.map .i)]) ?_
 refine cO.aB mix RX aj ?_
 rw[VQ]
 have hu:Tryz.prog.underlying 41=some (.slice 3):=af
 cases l with
 |nil=>
  have heq:∀O,pU Tryz.prog O 41 true (.d (.sl [])) .bO=some .fh:=by
   intro O
   unfold pU
   rw[hu]
   rfl
  simp only[List.map_cons,List.map_nil]
  refine dD heq ?_
  simp only[List.isEmpty_nil,if_true]
  refine dD heq ?_
  exact .inl ⟨3,1,rfl,ae _ _ _⟩
 |cons a l=>
  have heq:∀O,pU Tryz.prog O 41 true (.d (.sl (D.i a::l.map D.i))) .bO=some (.d (.bool false)):=by
   intro O
   unfold pU
   rw[hu]
   rfl
  simp only[List.map_cons,List.map_nil]
  refine dD heq ?_
  simp only[List.isEmpty_nil,if_true]
  refine dD heq ?_
  rw[List.length_cons]at hl
  rw[if_pos (by omega)]
  refine aJ ?_
  exact .inl ⟨3,1,rfl,ae _ _ _⟩
def Wo:List Int->Int->Int->Int
 |[],_,_=> -1
 |x::l,v,k=>if v=x then k else Wo l v (k+1)
theorem Lw:∀ (l:List Int) (v k:Int),0<=k->(decide (0<=Wo l v k)=l.contains v)
 |[],v,k,_=>rfl
 |x::l,v,k,hk=>by
  have ih:=Lw l v (k+1) ad
  unfold Wo
  by_cases h:v=x
  ·rw[if_pos h];subst h;simp[hk]
  ·rw[if_neg h,ih];simp[List.contains_cons,h]
theorem Lx(l:List Int)(hl:l.length<=1000000)(v:Int):a8 Tryz.prog 259 [.sl (l.map .i), .i v] (.ret [.i (Wo l v 0)]):=by
 refine a8.aB mix Sd aj ?_
 rw[V5]
 refine jk ?_
 refine aL (fun k:Nat=>⟨bB [.d (.sl (l.map .i)), .d (.i v), .aa, .aa, .aa, .aa, .aa, .d (.i l.length), .d (.i k)],fun _=> .no,1⟩)
  (fun k=>k<=l.length/\Wo l v 0=Wo (l.drop k) v k) (fun k=>l.length - k) 0 ⟨Nat.zero_le _,rfl⟩ (bM.bT _ (show 0<=1 from ad) ad dv (fun _ _=>rfl) ?_) (fun k hk=> ?_)
 ·exact cM
 obtain⟨hk,rB⟩:=hk
 refine aJ ?_
 refine ak (fun h2=> ?_) (fun h2=> ?_)
 ·simp at h2
  obtain⟨x,hx⟩:=aw h2
  have hd:l.drop k=x::l.drop (k+1):=by
   obtain⟨g1,g2⟩:=List.getElem?_eq_some_iff.1 hx
   exact SY
  rw[hd]at rB
  simp only[Wo]at rB
  refine dD hx ?_
  refine ak (fun h3=> ?_) (fun h3=> ?_)
  ·have rG:v=x:=by simpa using h3
   rw[if_pos rG]at rB
   refine aJ ?_
   rw[rB]
  ·have rG: ¬v=x:=by simpa using h3
   rw[if_neg rG]at rB
   refine aJ ?_
   refine au (k+1) ⟨h2,rB⟩ ad (bM.bT _ (show 0<=1 from ad) ad dv (fun _ _=>rfl) ?_)
   exact cM
 ·simp at h2
  rw[List.drop_eq_nil_of_le h2]at rB
  refine aJ ?_
  rw[rB];rfl
theorem CG(l:List Int)(hl:l.length<=1000000)(v:Int):a8 Tryz.prog 232 [.sl (l.map .i), .i v] (.ret [.bool (l.contains v)]):=by
 refine a8.aB mix RW aj ?_
 rw[VP]
 refine aJ ?_
 refine ai (Lx l hl v) rfl ?_
 refine aJ ?_
 rw[Lw l v 0 (by omega)]
mutual
def An(m:List (Int×Int)):Tm->List Int->Bool
 | .mk op n kids,og=>if op=1 then(im m n==0||og.contains n)else qG m op n kids 0 og
def qG(m:List (Int×Int))(op n:Int):List Tm->Nat->List Int->Bool
 |[],_,_=>true
 |k::l,i,og=>An m k (if op=8/\i=1 then og++[n]else og)&&qG m op n l (i+1) og
end
theorem Gb(m:List (Int×Int))(t:Tm)(og:List Int):An m t og=if t.op=1 then(im m t.n==0||og.contains t.n)else qG m t.op t.n t.kids 0 og:=by cases t;rw[An];rfl
theorem Ly(m:List (Int×Int)):∀t:Tm,t.fits->∀og:List Int,og.length+t.ja<=1000000->a8 Tryz.prog 191 [t.d,Lv m, .sl (og.map .i)] (.ret [.bool (An m t og)]):=by
 refine Tm.ck fun t ih hf og hb=> ?_
 have fm:=(Tm.aP _).1 hf
 refine a8.aB mix RC aj ?_
 rw[Vw,Gb]
 by_cases h1:t.op=1
 ·have cB:(t.op==1)=true:=by simpa using h1
  rw[if_pos h1]
  cases hc:(im m t.n==0)with
  |true=>
   simp+contextual (disch:=first|omega|simp only[go_sem,false_implies]) only[go_sem,wrap64,if_pos,cB,yU,hc]
  |false=>
   simp+contextual (disch:=first|omega|simp only[go_sem,false_implies]) only[go_sem,wrap64,if_pos,cB,yU,hc]
   refine ai (CG og ad t.n) rfl ?_
   exact yT hc
 ·have cB:(t.op==1)=false:=by simpa using h1
  rw[if_neg h1]
  refine eG cB ?_
  refine aL (fun k:Nat=>⟨bB [.aa, .d (Lv m), .d (.sl (og.map .i)), .ptr 0 0, .aa, .aa, .aa, .aa, .aa, .aa, .aa, .aa, .aa, .aa, .aa, .aa, .aa, .aa, .aa, .aa, .aa, .aa, .aa, .aa, .aa, .d (.sl (t.kids.map Tm.d)), .d (.i t.kids.length), .d (.i k)],aM (fun _=> .no) 0 (.row [.d (.i t.op), .d (.i t.n), .d (.sl (t.kids.map Tm.d))]),1⟩)
   (fun k=>k<=t.kids.length/\qG m t.op t.n t.kids 0 og=qG m t.op t.n (t.kids.drop k) k og) (fun k=>t.kids.length - k) 0 ⟨Nat.zero_le _,rfl⟩ (bM.bT _ (show 0<=1 from ad) ad dv (fun _ _=>rfl) ?_) (fun k hk=> ?_)
  ·exact cM
  obtain⟨hk,rB⟩:=hk
  have Gc:=fm.1
  refine aJ ?_
  refine ak (fun h2=> ?_) (fun h2=> ?_)
  ·simp at h2
   obtain⟨x,hx⟩:=aw h2
   have de:=List.mem_of_getElem? hx
   have hd:t.kids.drop k=x::t.kids.drop (k+1):=by
    obtain⟨g1,g2⟩:=List.getElem?_eq_some_iff.1 hx
    exact SY
   have hh:=Tm.qw de
   rw[hd]at rB
   simp only[qG]at rB
   refine dD hx ?_
   refine ak (fun h3=> ?_) (fun h3=> ?_)
   ·have rG:t.op=8/\k=1:=by
     simp at h3
     exact⟨h3.1,ad⟩
    rw[if_pos rG]at rB
    refine aJ ?_
    refine x6 rfl (EG og ad _ _) ?_
    refine aJ ?_
    refine ao aZ ?_
    refine aJ ?_
    have e:List.map D.i og++[D.i t.n]=(og++[t.n]).map D.i:=aj
    rw[e]
    refine ai (ih x de (fm.2 x de) (og++[t.n]) AZ) rfl ?_
    refine aJ ?_
    cases hs:An m x (og++[t.n])with
    |false=>
     rw[hs,Bool.false_and]at rB
     refine dD hs ?_
     rw[rB]
    |true=>
     rw[hs,Bool.true_and]at rB
     refine dD hs ?_
     refine au (k+1) ⟨h2,rB⟩ ad (bM.bT _ (show 0<=1 from ad) ad dv (fun j hj=>by(repeat(first|rfl|rw[ae]|rw[ah _ _ _ _ (by omega)]))) ?_)
     exact cM
   ·have rG: ¬ (t.op=8/\k=1):=by
     simp at h3
     intro⟨h4,h5⟩
     exact h3 h4 ad
    rw[if_neg rG]at rB
    refine aJ ?_
    refine ai (ih x de (fm.2 x de) og ad) rfl ?_
    refine aJ ?_
    cases hs:An m x og with
    |false=>
     rw[hs,Bool.false_and]at rB
     refine dD hs ?_
     rw[rB]
    |true=>
     rw[hs,Bool.true_and]at rB
     refine dD hs ?_
     refine au (k+1) ⟨h2,rB⟩ ad (bM.bT _ (show 0<=1 from ad) ad dv (fun j hj=>by(repeat(first|rfl|rw[ae]|rw[ah _ _ _ _ (by omega)]))) ?_)
     exact cM
  ·simp at h2
   rw[List.drop_eq_nil_of_le h2]at rB
   refine aJ ?_
   rw[rB];rfl
mutual
def sc(v:Int):Tm->Bool
 | .mk op n kids=>if op=1 then n==v else iq v op n kids 0
def iq(v op n:Int):List Tm->Nat->Bool
 |[],_=>false
 |k::l,i=>(sc v k&& !(op==8&&i==1&&n==v))||iq v op n l (i+1)
end
theorem gQ(v:Int)(t:Tm):sc v t=if t.op=1 then t.n==v else iq v t.op t.n t.kids 0:=by cases t;rfl
@[reducible] def tE (l:List Int):ab:= .map 3 4 (enc (D.int .i64) (iH l))
def adh(id:Nat)(Q:List Int->Prop)(o:Nat->ab)(nx:Nat)(K:V->(Nat->ab)->Nat->Prop):Prop:=
 ∀o' nx' l',nx<=nx'->Good o' nx'->(∀j,j<nx->j≠id->o' j=o j)->o' id=tE l'->Q l'->K (.cp []) o' nx'
theorem EH{b nx id it n0:Nat}{Q:fS->S->Prop}{e:Nat->V}{o:Nat->ab}{ks n k:D}(own s:List Int)(hg:Good o nx)(aC:o id=tE s)(YD:o it= .mW (enc (D.int .i64) (iH own)) none)(hb:b<=nx)(hs:s.Nodup)(hn0:n0<nx)
 (he:kx nx e [.mp id, .aa, .aa, .ptr n0 0, .aa, .aa, .aa, .aa, .aa, .aa, .aa, .aa, .aa, .aa, .aa, .d ks, .d n, .d k, .aa, .aa, .aa, .aa, .aa, .aa, .aa, .aa, .aa, .aa, .aa, .aa, .aa, .aa, .aa, .aa, .aa, .aa, .aa, .ptr it 0] 0)
 (hQ:∀e' o' nx' s',e' 0= .mp id->e' 3= .ptr n0 0->e' 15= .d ks->e' 16= .d n->e' 17= .d k->nx<=nx'->Good o' nx'->(∀j,j<nx->j≠id->j≠it->o' j=o j)->o' id=tE s'->s'.Nodup->(∀v,v∈s'↔v∈s\/v∈own)->Q (.exit 2) ⟨e',o',nx'⟩):
 uV b (fun Q s=>kX Tryz.prog 45 b false (.seq (.ag [⟨some 38, .next (.tmp 37) false,none⟩,⟨some 39, .extract (.tmp 38) 0,none⟩]) (.seq (.cond (.tmp 39) .skip (.exit 2)) (.block 3 (.seq (.ag [⟨some 40, .entry (.tmp 37),none⟩,⟨some 41, .extract (.tmp 40) 0,none⟩,⟨some 7, .assign (.tmp 41),none⟩]) (.ag [⟨some 42, .move (.tmp 0),none⟩,⟨some 43, .move (.tmp 7),none⟩,⟨none, .mapUpdate 141 (.tmp 42) (.tmp 43) (.const (.bool true)),none⟩]))))) Q s) Q ⟨e,o,nx⟩:=by
 have h1:id<nx:=hg.lt (by rw[aC];exact ab.noConfusion)
 have h2:it<nx:=hg.lt (by rw[YD];exact ab.noConfusion)
 have h3:id≠it:=fun h=>by rw[h,YD]at aC;cases aC
 have h4:it≠id:=fun h=>h3 h.symm
 refine aL (fun i:List Int×List Int×Option (D×D)=>⟨bB [.mp id, .aa, .aa, .ptr n0 0, .aa, .aa, .aa, .aa, .aa, .aa, .aa, .aa, .aa, .aa, .aa, .d ks, .d n, .d k, .aa, .aa, .aa, .aa, .aa, .aa, .aa, .aa, .aa, .aa, .aa, .aa, .aa, .aa, .aa, .aa, .aa, .aa, .aa, .ptr it 0],aM (aM o id (tE i.2.1)) it (.mW (enc (D.int .i64) (iH i.1)) i.2.2),nx⟩)
  (fun i=>i.2.1.Nodup/\∀v,(v∈i.2.1\/v∈i.1)↔(v∈s\/v∈own)) (fun i=>i.1.length) (own,s,none) ⟨hs,fun _=>Iff.rfl⟩ ?_ ?_
 ·dsimp only
  refine bM.bT _ hb (Nat.le_refl _) ?_ (fun j hj=> ?_) he
  ·exact dv
  ·by_cases e1:j=it
   ·subst e1;rw[ae];exact YD
   ·rw[ah _ _ _ _ e1]
    by_cases e2:j=id
    ·subst e2;rw[ae];exact aC
    ·rw[ah _ _ _ _ e2]
 rintro⟨rest,s',last⟩ ⟨iK,hv⟩
 simp only at iK hv
 refine ud h3 h4 ?_
 refine yx (fun hr=> ?_) fun i m hm=> ?_
 ·subst hr
  refine aJ ?_
  refine hQ _ _ _ s' ?_ ?_ ?_ ?_ ?_ ?_ ?_ (fun j g1 g2 g3=> ?_) ?_ iK (fun v=> ?_)
  ·rfl
  ·rfl
  ·rfl
  ·rfl
  ·rfl
  ·omega
  ·exact dv
  ·exact dC
  ·exact dC
  ·have:=hv v
   simpa using this
 ·refine ud h3 h4 ?_
  obtain⟨r1,r2⟩:=vL hm
  refine au (rest.eraseIdx i,rZ s' m,some (.int .i64 m, .bool true)) ⟨vK _ iK,fun v=> ?_⟩ ?_ ?_
  ·dsimp only
   rw[vJ, <- hv v,r1 v]
   constructor
   ·rintro((h|h)|h)
    ·exact .inl h
    ·exact .inr (.inl h)
    ·exact .inr (.inr h)
   ·rintro(h|h|h)
    ·exact .inl (.inl h)
    ·exact .inl (.inr h)
    ·exact .inr h
  ·dsimp only;omega
  ·dsimp only
   refine bM.bT _ hb ad ?_ (fun j hj=> ?_) ?_
   ·exact dv
   ·by_cases e1:j=it
    ·subst e1;(repeat(first|rfl|rw[ae]|rw[ah _ _ _ _ (by omega)]))
    ·by_cases e2:j=id
     ·subst e2;(repeat(first|rfl|rw[ae]|rw[ah _ _ _ _ (by omega)]))
     ·exact dC
   ·exact cM
theorem Wp:∀t:Tm,t.fits->∀ (o:Nat->ab) (nx id:Nat) (l:List Int),Good o nx->o id=tE l->l.Nodup->∀K X,adh id (fun l'=>l'.Nodup/\∀n,n∈l'↔n∈l\/sc n t=true) o nx K->cO Tryz.prog 164 [.mp id, .d t.d] o nx K X:=by
 refine Tm.ck fun t ih hf o nx id l hg ho hl K X hK=> ?_
 have fm:=(Tm.aP _).1 hf
 have aC:id<nx:=hg.lt (by rw[ho];exact ab.noConfusion)
 refine cO.aB mix Rb aj ?_
 rw[U7]
 have y1:id≠nx:=ad
 have y2:∀k,id≠nx+k:=fun k=>ad
 by_cases h1:t.op=1
 ·refine MV ho y1 y2 h1 ?_
  refine hK _ _ (rZ l t.n) ?_ ?_ (fun j hj iJ=> ?_) ?_ ⟨vK _ hl,fun n=> ?_⟩
  ·omega
  ·exact dv
  ·exact dC
  ·exact dC
  ·rw[vJ,gQ,if_pos h1]
   rw[beq_iff_eq, @eq_comm _ t.n n]
 ·have cB:(t.op==1)=false:=by simpa using h1
  refine MV ho y1 y2 cB ?_
  refine aL (fun i:Nat×List Int×(Nat->ab)×Nat=>⟨bB [.mp id, .aa, .aa, .ptr nx 0, .aa, .aa, .aa, .aa, .aa, .aa, .aa, .aa, .aa, .aa, .aa, .d (.sl (t.kids.map Tm.d)), .d (.i t.kids.length), .d (.i i.1)],i.2.2.1,i.2.2.2⟩)
   (fun i=>i.1<=t.kids.length/\i.2.1.Nodup/\Good i.2.2.1 i.2.2.2/\nx+1<=i.2.2.2/\(∀j,j<nx->j≠id->i.2.2.1 j=o j)/\i.2.2.1 nx= .row t.row/\i.2.2.1 id=tE i.2.1/\∀v,(v∈i.2.1\/iq v t.op t.n (t.kids.drop i.1) i.1=true)↔(v∈l\/sc v t=true)) (fun i=>t.kids.length - i.1) (0,l,aM o nx (.row t.row),nx+8)
   ⟨Nat.zero_le _,hl,by dsimp only;exact dv,by dsimp only;omega,fun j hj iJ=>by dsimp only;(repeat(first|rfl|rw[ae]|rw[ah _ _ _ _ (by omega)])),by dsimp only;(repeat(first|rfl|rw[ae]|rw[ah _ _ _ _ (by omega)])),by dsimp only;(repeat(first|rfl|rw[ae]|rw[ah _ _ _ _ (by omega)]));exact ho,fun v=>by simp only[List.drop_zero];rw[gQ v t,if_neg h1]⟩ ?_ ?_
  ·dsimp only
   refine bM.bT _ ad ad dv (fun _ _=>rfl) ?_
   exact cM
  rintro⟨k,l',o',nx'⟩ ⟨hk,MJ,hg',tM,hold,bZ,zW,hv⟩
  simp only at hk MJ hg' tM hold bZ zW hv
  have z1:id≠nx':=ad
  have z2:∀k,id≠nx'+k:=fun k=>ad
  have z3:nx≠nx':=ad
  have z4:∀k,nx≠nx'+k:=fun k=>ad
  simp+contextual (disch:=first|omega|simp only[go_sem,false_implies]) only[go_sem,wrap64,if_pos,zW,bZ,z1,z2,z3,z4,Nat.add_assoc,Nat.left_eq_add,Nat.add_eq_left,Nat.add_left_cancel_iff]
  refine ak (fun h2=> ?_) (fun h2=> ?_)
  ·simp at h2
   obtain⟨x,hx⟩:=aw h2
   have de:=List.mem_of_getElem? hx
   simp+contextual (disch:=first|omega|simp only[go_sem,false_implies]) only[go_sem,wrap64,if_pos,zW,bZ,z1,z2,z3,z4,Nat.add_assoc,Nat.left_eq_add,Nat.add_eq_left,Nat.add_left_cancel_iff,hx]
   refine da (ih x de (fm.2 x de) _ _ (nx'+7) [] ?_ ?_ List.nodup_nil _ _ fun o2 n2 own m1 m2 m3 m4 m5=> ?_)
   ·have hg:=hg'
    exact dv
   ·exact dC
   have p0:o2 nx= .row t.row:=by rw[m3 nx (by omega) (by omega)];(repeat(first|rfl|rw[ae]|rw[ah _ _ _ _ (by omega)]));exact bZ
   have p1:o2 id=tE l':=by rw[m3 id (by omega) (by omega)];(repeat(first|rfl|rw[ae]|rw[ah _ _ _ _ (by omega)]));exact zW
   have p2:∀j,j<nx->j≠id->o2 j=o j:=fun j h3 h4=>by rw[m3 j (by omega) (by omega)];(repeat(first|rfl|rw[ae]|rw[ah _ _ _ _ (by omega)]));exact hold j h3 h4
   have w1:nx≠n2:=ad
   have w2:∀k,nx≠n2+k:=fun k=>ad
   have w3:id≠n2:=ad
   have w4:∀k,id≠n2+k:=fun k=>ad
   have w5:nx'+7≠n2:=ad
   have w6:∀k,nx'+7≠n2+k:=fun k=>ad
   obtain⟨wW,d1,d2,d3⟩:∃wW,wW.Nodup/\(∀v,v∈wW↔(sc v x=true/\ ¬ (t.op=8/\k=1/\t.n=v)))/\wW=if t.op=8/\k=1 then CD own t.n else own:=by
    refine⟨_, ?_,fun v=> ?_,rfl⟩
    ·split
     ·exact(yu _ m5.1).1
     ·exact m5.1
    ·have:=m5.2 v
     simp only[List.not_mem_nil,false_or]at this
     rw[<- this]
     split
     ·rename_i hc
      rw[(yu t.n m5.1).2]
      simp[hc,eq_comm]
     ·rename_i hc
      constructor
      ·exact fun h=>⟨h,fun h2=>hc ⟨h2.1,h2.2.1⟩⟩
      ·exact fun h=>h.1
   have step:∀v (s':List Int),(v∈s'↔v∈l'\/v∈wW)->((v∈s'\/iq v t.op t.n (t.kids.drop (k+1)) (k+1)=true)↔(v∈l\/sc v t=true)):=by
    intro v s' iK
    rw[<- hv v,iK,d2 v]
    have hdr:t.kids.drop k=x::t.kids.drop (k+1):=by
     obtain⟨h5,h6⟩:=List.getElem?_eq_some_iff.1 hx
     exact SZ
    rw[hdr,iq]
    simp only[Bool.or_eq_true,Bool.and_eq_true,Bool.not_eq_true',Bool.and_eq_false_iff,beq_eq_false_iff_ne,ne_eq,not_and]
    constructor
    ·rintro((h|⟨h,h6⟩)|h)
     ·exact .inl h
     ·refine .inr (.inl ⟨h, ?_⟩)
      by_cases c1:t.op=8
      ·by_cases c2:k=1
       ·exact .inr (h6 c1 c2)
       ·exact .inl (.inr c2)
      ·exact .inl (.inl c1)
     ·exact .inr (.inr h)
    ·rintro(h|⟨h,h6⟩|h)
     ·exact .inl (.inl h)
     ·refine .inl (.inr ⟨h,fun c1 c2=> ?_⟩)
      rcases h6 with(h6|h6)|h6
      ·exact absurd c1 h6
      ·exact absurd c2 h6
      ·exact h6
     ·exact .inr h
   have hcc:((t.op==8)&&((k:Int)==1))=decide (t.op=8/\k=1):=by
    rw[Bool.eq_iff_iff];simp;omega
   simp+contextual (disch:=first|omega|simp only[go_sem,false_implies]) only[go_sem,wrap64,if_pos,p0,p1,w1,w2,w3,w4,w5,w6,Nat.add_assoc,Nat.left_eq_add,Nat.add_eq_left,Nat.add_left_cancel_iff]
   refine ak (fun h3=> ?_) (fun h3=> ?_)
   ·rw[hcc]at h3
    simp only[decide_eq_true_eq]at h3
    rw[if_pos h3]at d3
    cases hd:own.findIdx? (· ==t.n)with
    |none=>
     have hd2:fX t.n (iH own) 0=none:=by rw[lS,hd];rfl
     obtain rfl:wW=own:=by rw[d3,CD,hd]
     simp+contextual (disch:=first|omega|simp only[go_sem,false_implies]) only[go_sem,wrap64,if_pos,p0,p1,m4,w1,w2,w3,w4,w5,w6,Nat.add_assoc,Nat.left_eq_add,Nat.add_eq_left,Nat.add_left_cancel_iff,hd2]
     refine EH (n0:=nx) (id:=id) (it:=n2+12) (ks:= .sl (t.kids.map Tm.d)) (n:= .i t.kids.length) (k:= .i k) wW l' ?_ ?_ ?_ ad MJ ad ?_ fun e' o4 n4 s' q0 q3 PB PC PD q1 q2 q4 q5 q6 q7=> ?_
     ·have hg:=m2
      exact dv
     ·(repeat(first|rfl|rw[ae]|rw[ah _ _ _ _ (by omega)]))
      exact p1
     ·exact dC
     ·exact cM
     have r0:o4 nx= .row t.row:=by
      rw[q4 nx (by omega) (by omega) (by omega)];(repeat(first|rfl|rw[ae]|rw[ah _ _ _ _ (by omega)]))
      exact p0
     refine MX q0 q3 PB PC PD ?_
     refine au (k+1,s',o4,n4) ⟨by dsimp only;omega,q6,q2,by dsimp only;omega,fun j g1 g2=> ?_,r0,q5,fun v=> ?_⟩ mL ?_
     ·dsimp only
      rw[q4 j (by omega) (by omega) (by omega)];(repeat(first|rfl|rw[ae]|rw[ah _ _ _ _ (by omega)]))
      exact p2 j g1 g2
     ·dsimp only
      exact step v s' (q7 v)
     ·dsimp only
      refine bM.bT _ ad ad q2 (fun _ _=>rfl) ?_
      exact zy9
    |some j=>
     have hd2:fX t.n (iH own) 0=some (j, .bool true):=by rw[lS,hd];simp
     have hd3:(enc (D.int .i64) (iH own)).eraseIdx j=enc (D.int .i64) (iH wW):=by
      rw[d3,CD,hd,rW];unfold iH;rw[iI]
     simp+contextual (disch:=first|omega|simp only[go_sem,false_implies]) only[go_sem,wrap64,if_pos,p0,p1,m4,w1,w2,w3,w4,w5,w6,Nat.add_assoc,Nat.left_eq_add,Nat.add_eq_left,Nat.add_left_cancel_iff,hd2]
     rw[hd3]
     refine EH (n0:=nx) (id:=id) (it:=n2+12) (ks:= .sl (t.kids.map Tm.d)) (n:= .i t.kids.length) (k:= .i k) wW l' ?_ ?_ ?_ ad MJ ad ?_ fun e' o4 n4 s' q0 q3 PB PC PD q1 q2 q4 q5 q6 q7=> ?_
     ·have hg:=m2
      exact dv
     ·(repeat(first|rfl|rw[ae]|rw[ah _ _ _ _ (by omega)]))
      exact p1
     ·exact dC
     ·exact cM
     have r0:o4 nx= .row t.row:=by
      rw[q4 nx (by omega) (by omega) (by omega)];(repeat(first|rfl|rw[ae]|rw[ah _ _ _ _ (by omega)]))
      exact p0
     refine MX q0 q3 PB PC PD ?_
     refine au (k+1,s',o4,n4) ⟨by dsimp only;omega,q6,q2,by dsimp only;omega,fun j g1 g2=> ?_,r0,q5,fun v=> ?_⟩ mL ?_
     ·dsimp only
      rw[q4 j (by omega) (by omega) (by omega)];(repeat(first|rfl|rw[ae]|rw[ah _ _ _ _ (by omega)]))
      exact p2 j g1 g2
     ·dsimp only
      exact step v s' (q7 v)
     ·dsimp only
      refine bM.bT _ ad ad q2 (fun _ _=>rfl) ?_
      exact zy9
   ·rw[hcc]at h3
    simp only[decide_eq_false_iff_not]at h3
    rw[if_neg h3]at d3
    subst d3
    simp+contextual (disch:=first|omega|simp only[go_sem,false_implies]) only[go_sem,wrap64,if_pos,p0,p1,m4,w1,w2,w3,w4,w5,w6,Nat.add_assoc,Nat.left_eq_add,Nat.add_eq_left,Nat.add_left_cancel_iff]
    refine EH (n0:=nx) (id:=id) (it:=n2+8) (ks:= .sl (t.kids.map Tm.d)) (n:= .i t.kids.length) (k:= .i k) wW l' ?_ ?_ ?_ ad MJ ad ?_ fun e' o4 n4 s' q0 q3 PB PC PD q1 q2 q4 q5 q6 q7=> ?_
    ·have hg:=m2
     exact dv
    ·(repeat(first|rfl|rw[ae]|rw[ah _ _ _ _ (by omega)]))
     exact p1
    ·exact dC
    ·exact cM
    have r0:o4 nx= .row t.row:=by
     rw[q4 nx (by omega) (by omega) (by omega)];(repeat(first|rfl|rw[ae]|rw[ah _ _ _ _ (by omega)]))
     exact p0
    refine MX q0 q3 PB PC PD ?_
    refine au (k+1,s',o4,n4) ⟨by dsimp only;omega,q6,q2,by dsimp only;omega,fun j g1 g2=> ?_,r0,q5,fun v=> ?_⟩ mL ?_
    ·dsimp only
     rw[q4 j (by omega) (by omega) (by omega)];(repeat(first|rfl|rw[ae]|rw[ah _ _ _ _ (by omega)]))
     exact p2 j g1 g2
    ·dsimp only
     exact step v s' (q7 v)
    ·dsimp only
     refine bM.bT _ ad ad q2 (fun _ _=>rfl) ?_
     exact zy9
  ·simp at h2
   refine aJ ?_
   refine hK _ _ l' ?_ ?_ hold zW ⟨MJ,fun n=> ?_⟩
   ·omega
   ·exact hg'.mono ad
   ·have:=hv n
    rw[List.drop_eq_nil_of_le (by omega)]at this
    simpa[iq]using this
def tF(l:List Int)(x:Tm×Int):Bool:=(x.1.op !=1&&x.1.op !=3)||(x.1.op==1&&l.contains x.1.n)
def lU(s:List Int×Bool)(x:Tm×Int):List Int×Bool:=(if tF s.1 x=true then s.1 else if x.1.op=1 then rZ s.1 x.1.n else s.1, !tF s.1 x)
def pJ(s:List Int×Bool):Option jN:=if s.2=true then none else some .ret
def wX(t:Tm):Bool:=(aA (yh pJ lU) ([],true) (pre t 1)).2
theorem CH(s:a7)(hs:s.Fits)(t:Tm)(ht:t.Fin):a8 Tryz.prog 186 [s.d,t.d] (.ret [.bool (cZ s [t]&&wX t), .i (mC (cZ s [t]))]):=by
 refine a8.aB mix Rx aj ?_
 rw[Vr]
 refine aJ ?_
 refine ai (Ah s hs [t] aj (fun x hx=>by simp at hx;subst hx;exact ht)) rfl ?_
 cases h1:cZ s [t]with
 |false=>exact GI
 |true=>
  refine iL ?_
  refine da (Cv t _ _ _ _ ?_)
  refine iL ?_
  refine sT (σ:=List Int×Bool) t ht.fits ht.ja [.aa, .aa, .aa, .aa, .ptr 2 0, .ptr 3 0, .ptr 10 0] ?_ aZ rfl dv mK (ae _ _ _)
   (fun b=>aM (aM (aM (aM (aM (aM (aM (aM (fun _=> .no) 0 (.row s.row)) 1 (.row t.row)) 2 (.row [.d (.bool false)])) 3 (.row [.d (.i 0)])) 6 (.arr 0 31 3 [t.d])) 10 (.row [.mp 9])) 13 (.row t.row)) 9 (tE b.1)) pJ lU (fun _=>True) ([],true) trivial rfl (fun id aC=> ?_) (fun _ _ _ _ _ _=>trivial) ?_ ?_
  ·exact Ji
  ·exact j6
  ·intro L hL wx x hx s' h1 h2 o3 n3 hI hn ho K X cQ
   simp only[nw]
   have hg:=hI.bP
   have q1:o3 10= .row [.mp 9]:=hI.eq 10 ad
   have q2:o3 9=tE s'.1:=hI.eq 9 ad
   have q3:o3 2= .row [.d (.bool false)]:=hI.eq 2 ad
   have q4:o3 3= .row [.d (.i 0)]:=hI.eq 3 ad
   refine aJ ?_
   refine nJ hL (pd:=none) ?_ ?_
   ·(repeat(first|rfl|rw[ae]|rw[ah _ _ _ _ (by omega)]))
    exact ho
   refine ud q1 q2 ?_
   have hv:tF s'.1 x=((x.1.op !=1&&x.1.op !=3)||(x.1.op==1&&s'.1.contains x.1.n)):=rfl
   rw[<- hv]
   have same:∀ (o':Nat->ab) (n':Nat) (l:List Int),Good o' n'->n3<=n'->(∀id,id<17->o' id=aM o3 9 (tE l) id)->cW 17 (aM (aM (aM (aM (aM (aM (aM (aM (fun _=> .no) 0 (.row s.row)) 1 (.row t.row)) 2 (.row [.d (.bool false)])) 3 (.row [.d (.i 0)])) 6 (.arr 0 31 3 [t.d])) 10 (.row [.mp 9])) 13 (.row t.row)) 9 (tE l)) o' n':=fun o' n' l k1 k2 k3=>⟨k1,by have:=hI.le;omega,fun id aC=>by
    rw[k3 id aC]
    by_cases e:id=9
    ·subst e;rw[ae,ae]
    ·rw[ah _ _ _ _ e,ah _ _ _ _ e,hI.eq id aC,ah _ _ _ _ e]⟩
   cases hb:tF s'.1 x with
   |true=>
    have hp:lU s' x=(s'.1,false):=by simp[lU,hb]
    rw[hp]at cQ
    refine ud q3 q4 ?_
    refine cQ _ _ _ .busy none ad (same _ _ _ dv ad fun id aC=> ?_) dC (fun id h3 h4=>by(repeat(first|rfl|rw[ae]|rw[ah _ _ _ _ (by omega)])))
    by_cases e9:id=9
    ·subst e9;(repeat(first|rfl|rw[ae]|rw[ah _ _ _ _ (by omega)]))
     exact q2
    ·by_cases e2:id=2
     ·subst e2;(repeat(first|rfl|rw[ae]|rw[ah _ _ _ _ (by omega)]))
      exact q3.symm
     ·by_cases e3:id=3
      ·subst e3;(repeat(first|rfl|rw[ae]|rw[ah _ _ _ _ (by omega)]))
       exact q4.symm
      ·exact dC
   |false=>
    refine ud q1 q2 ?_
    refine ak (fun h3=> ?_) (fun h3=> ?_)
    ·have rG:x.1.op=1:=by simpa using h3
     have hp:lU s' x=(rZ s'.1 x.1.n,true):=by simp[lU,hb,rG]
     rw[hp]at cQ
     refine ud q1 q2 ?_
     refine cQ _ _ _ .busy none ad (same _ _ _ dv ad fun id aC=> ?_) dC (fun id h3 h4=>by(repeat(first|rfl|rw[ae]|rw[ah _ _ _ _ (by omega)])))
     by_cases e9:id=9
     ·subst e9;(repeat(first|rfl|rw[ae]|rw[ah _ _ _ _ (by omega)]))
     ·exact dC
    ·have rG: ¬x.1.op=1:=by simpa using h3
     have hp:lU s' x=(s'.1,true):=by simp[lU,hb,rG]
     rw[hp]at cQ
     refine aJ ?_
     refine cQ _ _ _ .busy none ad (same _ _ _ dv ad fun id aC=> ?_) dC (fun id h3 h4=>by(repeat(first|rfl|rw[ae]|rw[ah _ _ _ _ (by omega)])))
     by_cases e9:id=9
     ·subst e9;(repeat(first|rfl|rw[ae]|rw[ah _ _ _ _ (by omega)]))
      exact q2
     ·exact dC
  ·intro o' n' hI
   have hJ:=Ag pJ lU (pre t 1) ([],true) rfl
   have hpf:wX t=(pJ (aA (yh pJ lU) ([],true) (pre t 1)).1).isNone:=hJ
   have q0:o' 2= .row [.d (.bool false)]:=hI.eq 2 ad
   have q1:o' 3= .row [.d (.i 0)]:=hI.eq 3 ad
   rw[hpf]
   generalize (aA (yh pJ lU) ([],true) (pre t 1)).1=sf at*
   obtain⟨l,b⟩:=sf
   cases b<;>(simp only[pJ,if_true,if_false,Bool.false_eq_true,ph];simp+contextual (disch:=first|omega|simp only[go_sem,false_implies]) only[go_sem,wrap64,if_pos,q0,q1];simp[mC])
structure Rl where
 fn:Int
 bn:List Tm
 rhs:Tm
 vars:Int
@[reducible] def Rl.row (r:Rl):List V:=[.d (.i r.fn), .d (.sl (r.bn.map Tm.d)), .d (.i r.rhs.op), .d (.i r.rhs.n), .d (.sl (r.rhs.kids.map Tm.d)), .d (.i r.vars)]
@[reducible] def Rl.d (r:Rl):D:= .agg [.i r.fn, .sl (r.bn.map Tm.d), .i r.rhs.op, .i r.rhs.n, .sl (r.rhs.kids.map Tm.d), .i r.vars]
structure Rl.Fin (r:Rl):Prop where
 bn:r.bn.length<=1000000
 all:∀t∈r.bn,t.Fin
 rhs:r.rhs.Fin
theorem CI(l:List Tm)(hl:l.length<=9223372036854775807)(g:Nat)(aG:List V)(base:Nat)(h:Nat->ab)(p:Tm->Bool)(hc:∀r∈V.aO aG,r<base)
 (hp:∀x∈l,fM Tryz.prog g (.d x.d::aG) base h h (.d (.bool (p x)))):fM Tryz.prog 187 [.d (.sl (l.map Tm.d)), .func (.func g) [] aG] base h h (.d (.bool (l.all p))):=by
 have:=yp l hl g aG base (fun _:Unit=>h) (fun _ x=>((),p x)) hc (fun _=>True) (fun _ _ _ _ _=>trivial) (fun x hx _ _=>hp x hx) () trivial
 exact M8
def kY(s:a7)(t:Tm):Bool:=cZ s [t]&&wX t
theorem ON(s:a7)(hs:s.Fits)(t:Tm)(ht:t.Fin)(base sp:Nat)(h:Nat->ab)(ux:h sp= .row s.row)(hb:sp<base):fM Tryz.prog 185 [.d t.d, .ptr sp 0] base h h (.d (.bool (kY s t))):=by
 intro o nx hI K X hK
 have hle:=hI.le
 have hg:=hI.bP
 have q0:o sp= .row s.row:=by rw[hI.eq sp hb,ux]
 refine cO.aB mix Rw aj ?_
 rw[Vq]
 refine dD q0 ?_
 refine ai (CH s hs t ht) rfl ?_
 cases hr:cZ s [t]with
 |false=>
  have e:kY s t=false:=by simp[kY,hr]
  rw[e]at hK
  refine XZ ?_
  exact hK _ _ ad ⟨dv,ad,fun j hj=>by rw[ah _ _ _ _ (by omega),hI.eq j hj]⟩ (fun j g1 g2=>by(repeat(first|rfl|rw[ae]|rw[ah _ _ _ _ (by omega)])))
 |true=>
  have e:kY s t=wX t:=by simp[kY,hr]
  rw[e]at hK
  refine XZ ?_
  exact hK _ _ ad ⟨dv,ad,fun j hj=>by rw[ah _ _ _ _ (by omega),hI.eq j hj]⟩ (fun j g1 g2=>by(repeat(first|rfl|rw[ae]|rw[ah _ _ _ _ (by omega)])))
theorem sd{K:V->List (Nat×ab)->Prop}{id:Nat}{l:List (Int×Int)}(h0:l=[]->K (.cp [.d (.bool false)]) [])
 (h1:∀ (i:Nat) n k,l[i]? =some (n,k)->K (.cp [.d (.bool true), .d (.int .i64 n), .d (D.i k)]) [(id, .mW (enc (D.int .i64) (ints (l.eraseIdx i))) (some (.int .i64 n,D.i k)))]):B3 K id (enc (D.int .i64) (ints l)):=by
 refine yi _ (fun h=>h0 ?_) fun i k x h=> ?_
 ·cases l with
  |nil=>rfl
  |cons x l=>simp[ints]at h
 ·unfold ints at h|-
  rw[List.getElem?_map]at h
  cases hl:l[i]? with
  |none=>rw[hl]at h;cases h
  |some n=>
   rw[hl]at h
   simp at h
   obtain⟨rfl,rfl⟩:=h
   have:=h1 i n.1 n.2 hl
   rw[iI]
   exact this
theorem se{α:Type}{l:List α}{i:Nat}{n:α}(p:α->Bool)(h:l[i]? =some n):l.all p=(p n&&(l.eraseIdx i).all p):=by
 have hp:l.Perm (n::l.eraseIdx i):=by
  obtain⟨hi,e⟩:=List.getElem?_eq_some_iff.1 h
  have ux:l=l.take i++n::l.drop (i+1):=by rw[<- e,List.getElem_cons_drop,List.take_append_drop]
  rw[List.eraseIdx_eq_take_drop_succ]
  conv=>lhs;rw[ux]
  exact List.perm_middle
 rw[Bool.eq_iff_iff,List.all_eq_true,Bool.and_eq_true,List.all_eq_true]
 constructor
 ·intro h1
  exact⟨h1 _ (hp.mem_iff.2 aj),fun x hx=>h1 x (hp.mem_iff.2 lY)⟩
 ·rintro⟨h1,h2⟩ x hx
  rcases List.mem_cons.1 (hp.mem_iff.1 hx)with e|e
  ·rw[e];exact h1
  ·exact h2 x e
theorem si{α:Type}{l:List α}{i:Nat}{n:α}(h:l[i]? =some n):(l.eraseIdx i).length+1=l.length:=by
 obtain⟨hi,e⟩:=List.getElem?_eq_some_iff.1 h
 rw[List.length_eraseIdx];simp[hi];omega
def mG(s:a7)(r:Rl):Bool:=decide (0<=r.fn)&&(match s.bX[r.fn.toNat]? with|some f=>(r.bn.length:Int)==f.args|none=>false)&&decide (0<=r.vars)&&decide (r.vars<=20)&&r.bn.all (kY s)&&cZ s [r.rhs]
def fy(s:a7)(r:Rl):Bool:=mG s r&&(ee 1 r.bn).all (fun p=>decide (p.2<=1)&&decide (p.1<r.vars))&&(ee 1 [r.rhs]).all (fun p=>decide (p.1<r.vars))&&
 (ee 8 [r.rhs]).all (fun p=>decide (p.2<=1)&&decide (p.1<r.vars)&&decide (im (ee 1 r.bn) p.1<=0))&&An (ee 8 [r.rhs]) r.rhs []
theorem Ao{R:List Nat}{o:Nat->ab}{id:Nat}(h:id∈R):D7 R o id=o id:=by simp[D7,h]
theorem H9{R:List Nat}{o:Nat->ab}{nx:Nat}(cJ:∀id∈R,id<nx)(pL:∀id∈R,∀j∈(o id).refs,j∈R):Good (D7 R o) nx:=by
 refine⟨fun id aC=> ?_,fun id r hr=> ?_⟩
 ·have:id∉R:=fun hm=>by have:=cJ id hm;omega
  simp[D7,this]
 ·by_cases aC:id∈R
  ·rw[Ao aC]at hr;exact cJ r (pL id aC r hr)
  ·have:D7 R o id= .no:=by simp[D7,aC]
   rw[this]at hr;cases hr
theorem OO(s:a7)(hs:s.Fits)(l:List Tm)(hl:l.length<=1000000)(hf:∀t∈l,t.Fin){o:Nat->ab}(ho:o 0= .row s.row):
 Fs Tryz.prog 187 [.d (.sl (l.map Tm.d)), .func (.func 185) [] [.ptr 0 0]] [0] o (.ret [.bool (l.all (kY s))]) []:=by
 have cJ:∀j∈[0],j<1:=aj
 have pL:∀k∈[0],∀j∈(o k).refs,j∈[0]:=by
  intro k hk j hj
  simp at hk
  subst hk
  rw[ho]at hj;simp[ab.refs,V.aO,V.refs]at hj
 refine Fs.mj cJ mK pL aj aj ?_
 refine CI l ad 185 [.ptr 0 0] 1 (D7 [0] o) (kY s) mK (fun x hx=>ON s hs x (hf x hx) 1 0 _ ((Ao aj).trans ho) ad) _ _ ⟨H9 cJ pL,Nat.le_refl _,fun _ _=>rfl⟩ _ _ fun o2 n2 m1 m2 m3=> ?_
 refine⟨fun k hk=> ?_,[.d (.bool (l.all (kY s)))],[.bool (l.all (kY s))],rfl,rfl,rfl,fun k hk=>by simp[V.bF,V.ids]at hk⟩
 simp at hk
 subst hk
 rw[m2.eq 0 (by omega),Ao (by simp)];rfl
set_option maxHeartbeats 1000000 in
theorem OP(s:a7)(hs:s.Fits)(r:Rl)(hr:r.Fin):a8 Tryz.prog 132 [s.d,r.d] (.ret [.bool (fy s r)]):=by
 have hr1:=hr.bn
 refine a8.aB mix QX aj ?_
 rw[US]
 have hlf:=hs.lf
 have fin:∀ {b:Bool},mG s r=b->b=false->fy s r=false:=fun h1 h2=>by unfold fy;rw[h1,h2];rfl
 by_cases f1:r.fn<0
 ·have OQ:decide (r.fn<0)=true:=by simpa using f1
  have e:fy s r=false:=fin (b:=false) (by unfold mG;rw[decide_eq_false (by omega: ¬0<=r.fn)];rfl) rfl
  simp+contextual (disch:=first|omega|simp only[go_sem,false_implies]) only[go_sem,wrap64,if_pos,Nat.add_assoc,Nat.left_eq_add,Nat.add_eq_left,Nat.add_left_cancel_iff,List.length_map,OQ]
  refine ao (aI rfl) ?_
  refine aJ ?_
  rw[e]
 have OQ:decide (r.fn<0)=false:=by simpa using f1
 by_cases f2:(s.bX.length:Int)<=r.fn
 ·have Ds:decide ((s.bX.length:Int)<=r.fn)=true:=by simpa using f2
  have e:fy s r=false:=fin (b:=false) (by unfold mG;rw[List.getElem?_eq_none (by omega:s.bX.length<=r.fn.toNat)];simp) rfl
  refine Du OQ Ds ?_
  refine ao (aI rfl) ?_
  refine aJ ?_
  rw[e]
 have Ds:decide ((s.bX.length:Int)<=r.fn)=false:=by simpa using f2
 obtain⟨f,hf⟩:∃f,s.bX[r.fn.toNat]? =some f:=⟨_,List.getElem?_eq_getElem ad⟩
 by_cases f3: ¬ (r.bn.length:Int)=f.args
 ·have Gd:((r.bn.length:Int)!=f.args)=true:=by simpa using f3
  have e:fy s r=false:=fin (b:=false) (by unfold mG;rw[hf];simp[f3]) rfl
  simp+contextual (disch:=first|omega|simp only[go_sem,false_implies]) only[go_sem,wrap64,if_pos,Nat.add_assoc,Nat.left_eq_add,Nat.add_eq_left,Nat.add_left_cancel_iff,List.length_map,OQ,Ds,hf,Gd]
  refine ao (aI rfl) ?_
  refine aJ ?_
  rw[e]
 have Gd:((r.bn.length:Int)!=f.args)=false:=by simpa using f3
 by_cases f4:r.vars<0
 ·have OR:decide (r.vars<0)=true:=by simpa using f4
  have e:fy s r=false:=fin (b:=false) (by unfold mG;rw[decide_eq_false (by omega: ¬0<=r.vars)];simp) rfl
  simp+contextual (disch:=first|omega|simp only[go_sem,false_implies]) only[go_sem,wrap64,if_pos,Nat.add_assoc,Nat.left_eq_add,Nat.add_eq_left,Nat.add_left_cancel_iff,List.length_map,OQ,Ds,hf,Gd,OR]
  refine ao (aI rfl) ?_
  refine aJ ?_
  rw[e]
 have OR:decide (r.vars<0)=false:=by simpa using f4
 by_cases f5:20<r.vars
 ·have Sm:decide (20<r.vars)=true:=by simpa using f5
  have e:fy s r=false:=fin (b:=false) (by unfold mG;rw[decide_eq_false (by omega: ¬r.vars<=20)];simp) rfl
  refine XW OQ Ds hf Gd OR Sm ?_
  refine ao (aI rfl) ?_
  refine aJ ?_
  rw[e]
 have Sm:decide (20<r.vars)=false:=by simpa using f5
 have hh:mG s r=(r.bn.all (kY s)&&cZ s [r.rhs]):=by
  unfold mG
  rw[hf]
  have g3:(r.bn.length:Int)=f.args:=by simpa using f3
  simp[g3,show 0<=r.fn by omega,show 0<=r.vars by omega,show r.vars<=20 by omega]
 refine XW OQ Ds hf Gd OR Sm ?_
 refine Cb (rd:=[0]) rfl (OO s hs r.bn hr1 hr.all ?_) ?_
 ·exact dC
 cases h6:r.bn.all (kY s)with
 |false=>
  have e:fy s r=false:=fin hh (by rw[h6];rfl)
  refine aJ ?_
  refine ao (aI rfl) ?_
  refine aJ ?_
  rw[e]
 |true=>
  refine aJ ?_
  refine aq (OE s hs r.rhs hr.rhs) rfl ?_
  cases h7:cZ s [r.rhs]with
  |false=>
   have e:fy s r=false:=fin hh (by rw[h6,h7];rfl)
   refine AV ?_
   refine ao (aI rfl) ?_
   refine aJ ?_
   rw[e]
  |true=>
   refine AV ?_
   refine ao (aI rfl) ?_
   refine aJ ?_
   have hR:fy s r=((ee 1 r.bn).all (fun p=>decide (p.2<=1)&&decide (p.1<r.vars))&&(ee 1 [r.rhs]).all (fun p=>decide (p.1<r.vars))&&
    (ee 8 [r.rhs]).all (fun p=>decide (p.2<=1)&&decide (p.1<r.vars)&&decide (im (ee 1 r.bn) p.1<=0))&&An (ee 8 [r.rhs]) r.rhs []):=by
    unfold fy;rw[hh,h6,h7];rfl
   refine bw (sX r.bn hr1 (fun t ht=>(hr.all t ht).fits)) ?_
   refine aJ ?_
   refine bw (Wn r.rhs hr.rhs.fits) ?_
   refine aJ ?_
   refine ao (aI rfl) ?_
   simp+contextual (disch:=first|omega|simp only[go_sem,false_implies]) only[go_sem,wrap64,if_pos,tH]
   refine aL (fun i:List (Int×Int)×Option (D×D)=>⟨bB [.aa, .aa, .aa, .ptr 1 0, .aa, .aa, .d (Lv (ee 1 r.bn)), .d (Lv (ee 8 [r.rhs])), .aa, .aa, .aa, .aa, .aa, .aa, .aa, .aa, .aa, .aa, .aa, .aa, .aa, .aa, .aa, .aa, .aa, .aa, .aa, .aa, .aa, .aa, .aa, .aa, .aa, .aa, .aa, .aa, .aa, .aa, .aa, .aa, .aa, .aa, .aa, .aa, .aa, .aa, .aa, .aa, .aa, .aa, .aa, .aa, .aa, .aa, .aa, .aa, .aa, .aa, .aa, .aa, .aa, .aa, .aa, .aa, .aa, .aa, .aa, .aa, .aa, .ptr 62 0],aM (aM (aM (fun _=> .no) 0 (.row [.d (.sl (s.cons.map ky.d)), .d (.sl (s.bX.map ky.d))])) 1 (.row [.d (.i r.fn), .d (.sl (r.bn.map Tm.d)), .d (.i r.rhs.op), .d (.i r.rhs.n), .d (.sl (r.rhs.kids.map Tm.d)), .d (.i r.vars)])) 62 (.mW (enc (D.int .i64) (ints i.1)) i.2),63⟩)
    (fun i=>(ee 1 r.bn).all (fun p=>decide (p.2<=1)&&decide (p.1<r.vars))=i.1.all (fun p=>decide (p.2<=1)&&decide (p.1<r.vars))) (fun i=>i.1.length) (ee 1 r.bn,none) rfl (bM.bT _ (show 0<=63 from ad) ad dv (fun j hj=>by(repeat(first|rfl|rw[ae]|rw[ah _ _ _ _ (by omega)]))) ?_) ?_
   ·exact cM
   rintro⟨rest,last⟩ hA
   simp only at hA
   refine aJ ?_
   refine sd (fun KO=> ?_) fun i n k hm=> ?_
   ·subst KO
    simp only[List.all_nil]at hA
    refine iL ?_
    refine bg (sX [r.rhs] aj (fun t ht=>by simp at ht;subst ht;exact hr.rhs.fits)) ?_
    refine XY ?_
    refine aL (fun i:List (Int×Int)×Option (D×D)=>⟨bB [.aa, .aa, .aa, .ptr 1 0, .aa, .aa, .d (Lv (ee 1 r.bn)), .d (Lv (ee 8 [r.rhs])), .aa, .aa, .aa, .aa, .aa, .aa, .aa, .aa, .aa, .aa, .aa, .aa, .aa, .aa, .aa, .aa, .aa, .aa, .aa, .aa, .aa, .aa, .aa, .aa, .aa, .aa, .aa, .aa, .aa, .aa, .aa, .aa, .aa, .aa, .aa, .aa, .aa, .aa, .aa, .aa, .aa, .aa, .aa, .aa, .aa, .aa, .aa, .aa, .aa, .aa, .aa, .aa, .aa, .aa, .aa, .aa, .aa, .aa, .aa, .aa, .aa, .aa, .aa, .aa, .aa, .aa, .aa, .aa, .aa, .aa, .aa, .aa, .aa, .aa, .aa, .aa, .aa, .aa, .aa, .ptr 69 0],aM (aM (aM (aM (aM (fun _=> .no) 0 (.row [.d (.sl (s.cons.map ky.d)), .d (.sl (s.bX.map ky.d))])) 1 (.row [.d (.i r.fn), .d (.sl (r.bn.map Tm.d)), .d (.i r.rhs.op), .d (.i r.rhs.n), .d (.sl (r.rhs.kids.map Tm.d)), .d (.i r.vars)])) 62 (.mW (enc (D.int .i64) (ints [])) last)) 67 (.sv 0 [r.rhs.d])) 69 (.mW (enc (D.int .i64) (ints i.1)) i.2),70⟩)
     (fun i=>(ee 1 [r.rhs]).all (fun p=>decide (p.1<r.vars))=i.1.all (fun p=>decide (p.1<r.vars))) (fun i=>i.1.length) (ee 1 [r.rhs],none) rfl (bM.bT _ (show 0<=70 from ad) ad dv (fun j hj=>by first|(rw[jn];done)|(repeat(first|rfl|rw[ae]|rw[ah _ _ _ _ (by omega)]))|exact j6) ?_) ?_
    ·exact cM
    rintro⟨rest,aa8⟩ hB
    simp only at hB
    refine aJ ?_
    refine sd (fun KO=> ?_) fun i n k hm=> ?_
    ·subst KO
     simp only[List.all_nil]at hB
     refine XY ?_
     refine aL (fun i:List (Int×Int)×Option (D×D)=>⟨bB [.aa, .aa, .aa, .ptr 1 0, .aa, .aa, .d (Lv (ee 1 r.bn)), .d (Lv (ee 8 [r.rhs])), .aa, .aa, .aa, .aa, .aa, .aa, .aa, .aa, .aa, .aa, .aa, .aa, .aa, .aa, .aa, .aa, .aa, .aa, .aa, .aa, .aa, .aa, .aa, .aa, .aa, .aa, .aa, .aa, .aa, .aa, .aa, .aa, .aa, .aa, .aa, .aa, .aa, .aa, .aa, .aa, .aa, .aa, .aa, .aa, .aa, .aa, .aa, .aa, .aa, .aa, .aa, .aa, .aa, .aa, .aa, .aa, .aa, .aa, .aa, .aa, .aa, .aa, .aa, .aa, .aa, .aa, .aa, .aa, .aa, .aa, .aa, .aa, .aa, .aa, .aa, .aa, .aa, .aa, .aa, .aa, .aa, .aa, .aa, .aa, .aa, .aa, .aa, .aa, .aa, .ptr 73 0],aM (aM (aM (aM (aM (aM (fun _=> .no) 0 (.row [.d (.sl (s.cons.map ky.d)), .d (.sl (s.bX.map ky.d))])) 1 (.row [.d (.i r.fn), .d (.sl (r.bn.map Tm.d)), .d (.i r.rhs.op), .d (.i r.rhs.n), .d (.sl (r.rhs.kids.map Tm.d)), .d (.i r.vars)])) 62 (.mW (enc (D.int .i64) (ints [])) last)) 67 (.sv 0 [r.rhs.d])) 69 (.mW (enc (D.int .i64) (ints [])) aa8)) 73 (.mW (enc (D.int .i64) (ints i.1)) i.2),74⟩)
      (fun i=>(ee 8 [r.rhs]).all (fun p=>decide (p.2<=1)&&decide (p.1<r.vars)&&decide (im (ee 1 r.bn) p.1<=0))=i.1.all (fun p=>decide (p.2<=1)&&decide (p.1<r.vars)&&decide (im (ee 1 r.bn) p.1<=0))) (fun i=>i.1.length) (ee 8 [r.rhs],none) rfl (bM.bT _ (show 0<=74 from ad) ad dv (fun j hj=>by(repeat(first|rfl|rw[ae]|rw[ah _ _ _ _ (by omega)]))) ?_) ?_
     ·exact cM
     rintro⟨rest,adw⟩ hC
     simp only at hC
     refine aJ ?_
     refine sd (fun KO=> ?_) fun i n k hm=> ?_
     ·subst KO
      simp only[List.all_nil]at hC
      refine iL ?_
      refine ai (Ly (ee 8 [r.rhs]) r.rhs hr.rhs.fits [] (by have:=hr.rhs.ja;simp;omega)) rfl ?_
      refine aJ ?_
      rw[hR,hA,hB,hC];rfl
     ·have hle:=si hm
      rw[se (fun p=>decide (p.2<=1)&&decide (p.1<r.vars)&&decide (im (ee 1 r.bn) p.1<=0)) hm]at hC
      simp only at hC
      have bad:(decide (k<=1)&&decide (n<r.vars)&&decide (im (ee 1 r.bn) n<=0))=false->fy s r=false:=fun e2=>by rw[hR,hC,e2];simp
      by_cases g1:1<k
      ·have I8:decide (1<k)=true:=by simpa using g1
       have e:=bad (by rw[decide_eq_false (by omega: ¬k<=1)];rfl)
       refine AU I8 ?_
       rw[e]
      have I8:decide (1<k)=false:=by simpa using g1
      by_cases g2:r.vars<=n
      ·have I1:decide (r.vars<=n)=true:=by simpa using g2
       have e:=bad (by rw[decide_eq_false (by omega: ¬n<r.vars)];simp)
       refine SB I8 I1 ?_
       rw[e]
      have I1:decide (r.vars<=n)=false:=by simpa using g2
      by_cases g3:0<im (ee 1 r.bn) n
      ·have W2:decide (0<im (ee 1 r.bn) n)=true:=by simpa using g3
       have e:=bad (by rw[decide_eq_false (by omega: ¬im (ee 1 r.bn) n<=0)];simp)
       refine XX I8 I1 W2 ?_
       rw[e]
      have W2:decide (0<im (ee 1 r.bn) n)=false:=by simpa using g3
      have e2:(decide (k<=1)&&decide (n<r.vars)&&decide (im (ee 1 r.bn) n<=0))=true:=by
       simp;omega
      rw[e2,Bool.true_and]at hC
      refine XX I8 I1 W2 ?_
      refine au (rest.eraseIdx i,some (.int .i64 n,D.i k)) hC mL (bM.bT _ (show 0<=74 from ad) ad dv (fun j hj=>by first|(rw[jn];done)|(repeat(first|rfl|rw[ae]|rw[ah _ _ _ _ (by omega)]))) ?_)
      exact cM
    ·have hle:=si hm
     rw[se (fun p=>decide (p.1<r.vars)) hm]at hB
     simp only at hB
     refine iL ?_
     refine ak (fun h3=> ?_) (fun h3=> ?_)
     ·have e:fy s r=false:=by
       have e2:decide (n<r.vars)=false:=by
        simp at h3|-;omega
       rw[hR,hB,e2];simp
      refine aJ ?_
      rw[e]
     ·have e2:decide (n<r.vars)=true:=by
       simp at h3|-;omega
      rw[e2,Bool.true_and]at hB
      refine aJ ?_
      refine au (rest.eraseIdx i,some (.int .i64 n,D.i k)) hB mL (bM.bT _ (show 0<=70 from ad) ad dv (fun j hj=>by first|(rw[jn];done)|(repeat(first|rfl|rw[ae]|rw[ah _ _ _ _ (by omega)]))) ?_)
      exact cM
   ·have hle:=si hm
    rw[se (fun p=>decide (p.2<=1)&&decide (p.1<r.vars)) hm]at hA
    simp only at hA
    refine iL ?_
    refine ak (fun h3=> ?_) (fun h3=> ?_)
    ·have e:fy s r=false:=by
      have e2:(decide (k<=1)&&decide (n<r.vars))=false:=by
       simp at h3|-;omega
      rw[hR,hA,e2];simp
     refine aJ ?_
     rw[e]
    ·have e2:(decide (k<=1)&&decide (n<r.vars))=true:=by
      simp at h3|-;omega
     rw[e2,Bool.true_and]at hA
     refine aJ ?_
     refine au (rest.eraseIdx i,some (.int .i64 n,D.i k)) hA mL (bM.bT _ (show 0<=63 from ad) ad dv (fun j hj=>by first|rw[jn]|(repeat(first|rfl|rw[ae]|rw[ah _ _ _ _ (by omega)]))) ?_)
     exact cM
def lV{σ α:Type}(step:σ->α->σ×Bool):σ->List α->Int->Int
 |_,[],_=> -1
 |s,x::l,k=>if(step s x).2=true then lV step (step s x).1 l (k+1)else k
theorem tX{σ α:Type}(step:σ->α->σ×Bool):∀ (l:List α) (s:σ) (k:Int),0<=k->(0<=lV step s l k↔(aA step s l).2=false)
 |[],_,_,_=>by simp[lV,aA]
 |x::l,s,k,hk=>by
  have ih:=tX step l (step s x).1 (k+1) ad
  by_cases h:(step s x).2=true
  ·simp only[lV,aA,h,if_true];exact ih
  ·simp[lV,aA,h,hk]
theorem Wq{σ:Type}(l:List Rl)(hl:l.length<=9223372036854775807)(g:Nat)(aG:List V)(base:Nat)(H:σ->Nat->ab)(step:σ->Rl->σ×Bool)(hc:∀r∈V.aO aG,r<base)(ok:σ->Prop)(bp:∀x∈l,∀s,ok s->(step s x).2=true->ok (step s x).1)
 (h:∀x∈l,∀s,ok s->fM Tryz.prog g (.d x.d::aG) base (H s) (H (step s x).1) (.d (.bool (!(step s x).2)))) (s:σ) (gB:ok s):
 fM Tryz.prog 229 [.d (.sl (l.map Rl.d)), .func (.func g) [] aG] base (H s) (H (aA step s l).1) (.d (.i (lV step s l 0))):=by
 intro o nx hI K X hK
 have fG:∀r∈V.aO aG,r<nx:=fun r hr=>Nat.lt_of_lt_of_le (hc r hr) hI.le
 refine cO.aB mix RT aj ?_
 rw[VM]
 refine b9 ?_
 refine aL (fun i:Nat×σ×(Nat->ab)×Nat=>⟨bB [.d (.sl (l.map Rl.d)), .func (.func g) [] aG, .aa, .aa, .aa, .aa, .aa, .d (.i l.length), .d (.i i.1)],i.2.2.1,i.2.2.2⟩)
  (fun i=>i.1<=l.length/\cW base (H i.2.1) i.2.2.1 i.2.2.2/\nx<=i.2.2.2/\(∀id,base<=id->id<nx->i.2.2.1 id=o id)/\aA step s l=aA step i.2.1 (l.drop i.1)/\ok i.2.1/\lV step s l 0=lV step i.2.1 (l.drop i.1) i.1) (fun i=>l.length - i.1) (0,s,o,nx)
  ⟨Nat.zero_le _,hI,Nat.le_refl _,fun _ _ _=>rfl,rfl,gB,rfl⟩ ?_ ?_
 ·dsimp only
  refine bM.bT _ (Nat.le_refl _) ad hI.bP (fun _ _=>rfl) ?_
  exact cM
 rintro⟨k,s',o',nx'⟩ ⟨hk,ow,hn,dc,hf,jR,kG⟩
 simp only at hk ow hn dc hf jR kG
 refine b9 ?_
 refine ak (fun h1=> ?_) (fun h1=> ?_)
 ·simp at h1
  obtain⟨x,hx⟩:=aw h1
  have de:=List.mem_of_getElem? hx
  have hd:l.drop k=x::l.drop (k+1):=by
   rw[List.drop_eq_getElem_cons h1]
   rw[List.getElem?_eq_getElem h1]at hx;injection hx with hx;rw[hx]
  rw[hd]at hf kG
  simp only[aA,lV]at hf kG
  refine GG hx ?_
  refine cY (h x de s' jR _ _ (ow.mono ad) _ _ fun o2 n2 m1 m2 m3=> ?_)
  cases hb:(step s' x).2 with
  |true=>
   rw[hb]at hf kG
   simp only[if_true]at hf kG
   refine aJ ?_
   have Ct:∀r∈V.aO aG,r<n2+1+1:=fun r hr=>by have:=fG r hr;omega
   refine au (k+1,(step s' x).1,o2,n2+1+1) ⟨h1,m2.mono (show n2<=n2+1+1 from ad),(show nx<=n2+1+1 from ad),fun id i1 i2=>(m3 id i1 ad).trans (dc id i1 i2),hf,bp x de s' jR hb,by rw[kG];rfl⟩ mL (bM.bT _ (show nx<=n2+1+1 from ad) (Nat.le_refl _) (m2.mono (show n2<=n2+1+1 from ad)).bP (fun _ _=>rfl) ?_)
   exact cM
  |false=>
   rw[hb]at hf kG
   simp only[Bool.false_eq_true,if_false]at hf kG
   refine b9 ?_
   rw[hf,kG]at hK
   exact hK _ _ ad (m2.mono ad) fun id i1 i2=>(m3 id i1 ad).trans (dc id i1 i2)
 ·simp at h1
  refine b9 ?_
  rw[List.drop_eq_nil_of_le h1]at hf kG
  rw[hf,kG]at hK
  exact hK _ _ ad (ow.mono ad) dc
theorem CJ{σ:Type}(l:List Rl)(hl:l.length<=9223372036854775807)(g:Nat)(aG:List V)(base:Nat)(H:σ->Nat->ab)(step:σ->Rl->σ×Bool)(hc:∀r∈V.aO aG,r<base)(ok:σ->Prop)(bp:∀x∈l,∀s,ok s->(step s x).2=true->ok (step s x).1)
 (h:∀x∈l,∀s,ok s->fM Tryz.prog g (.d x.d::aG) base (H s) (H (step s x).1) (.d (.bool (!(step s x).2)))) (s:σ) (gB:ok s):
 fM Tryz.prog 183 [.d (.sl (l.map Rl.d)), .func (.func g) [] aG] base (H s) (H (aA step s l).1) (.d (.bool (!(aA step s l).2))):=by
 intro o nx hI K X hK
 have fG:∀r∈V.aO aG,r<nx:=fun r hr=>Nat.lt_of_lt_of_le (hc r hr) hI.le
 refine cO.aB mix Ru aj ?_
 rw[Vo]
 refine iL ?_
 refine bd (Wq l hl g aG base H step hc ok bp h s gB _ _ ?_ _ _ fun o2 n2 m1 m2 m3=> ?_)
 ·exact hI.mono ad
 refine iL ?_
 have e:decide (0<=lV step s l 0)= !(aA step s l).2:=by
  have:=tX step l s 0 ad
  rw[Bool.eq_iff_iff,decide_eq_true_eq,this]
  cases(aA step s l).2<;>simp
 rw[e]
 exact hK _ _ ad (m2.mono ad) fun id i1 i2=>m3 id i1 ad
theorem aa9{x:Rl}{g:Nat}{aG:List V}{base c bx:Nat}{h h2 O:Nat->ab}{r:Bool}(hS:fM Tryz.prog g (.d x.d::aG) base h h2 (.d (.bool r)))(hb:base<=bx)(PE:bx<c)(hO:O bx= .row [.func (.func g) [] aG])(hc:∀r∈V.aO aG,r<base):
 fM Tryz.prog 184 [.d x.d, .ptr bx 0] c (ext base h O) (ext base h2 O) (.d (.bool (!r))):=by
 intro o nx hI K X hK
 have hle:=hI.le
 have fG:∀r∈V.aO aG,r<nx:=fun r hr=>by have:=hc r hr;omega
 have ho:o bx= .row [.func (.func g) [] aG]:=by
  exact Jk
 have y1:∀k,bx≠nx+k:=fun k=>ad
 have y2:bx≠nx:=ad
 refine cO.aB mix Rv aj ?_
 rw[Vp]
 refine MT ho y1 y2 ?_
 refine cY ((hS.ext (by omega:base<=c) O) _ _ ?_ _ _ fun o2 n2 m1 m2 m3=> ?_)
 ·exact hI.aM ad ad ad rfl
 refine iL ?_
 exact hK _ _ ad (m2.mono ad) fun id i1 i2=>by rw[m3 id i1 (by omega),ah _ _ _ _ (by omega)]
theorem Ia{σ:Type}(l:List Rl)(hl:l.length<=9223372036854775807)(g:Nat)(aG:List V)(base:Nat)(H:σ->Nat->ab)(step:σ->Rl->σ×Bool)(hc:∀r∈V.aO aG,r<base)(ok:σ->Prop)(bp:∀x∈l,∀s,ok s->(step s x).2=true->ok (step s x).1)
 (h:∀x∈l,∀s,ok s->fM Tryz.prog g (.d x.d::aG) base (H s) (H (step s x).1) (.d (.bool (step s x).2))) (s:σ) (gB:ok s):
 fM Tryz.prog 130 [.d (.sl (l.map Rl.d)), .func (.func g) [] aG] base (H s) (H (aA step s l).1) (.d (.bool (aA step s l).2)):=by
 intro o nx hI K X hK
 have hle:=hI.le
 have fG:∀r∈V.aO aG,r<nx:=fun r hr=>Nat.lt_of_lt_of_le (hc r hr) hI.le
 refine cO.aB mix QV aj ?_
 rw[UQ]
 refine iL ?_
 refine bd (CJ l hl 184 [.ptr nx 0] (nx+1) (fun s=>ext base (H s) (aM o nx (.row [.func (.func g) [] aG]))) step mK ok bp (fun x hx s hs=>aa9 (h x hx s hs) hle ad (ae _ _ _) hc) s gB _ _ ?_ _ _ fun o2 n2 m1 m2 m3=> ?_)
 ·have hr:(ab.row [V.func (.func g) [] aG]).refs.all (fun r=>decide (r<nx+4))=true:=by
   rw[List.all_eq_true]
   intro r hr
   have h1:r∈V.aO aG:=by simpa[ab.refs,V.aO,V.refs]using hr
   have:=fG r h1
   simp;omega
  exact(hI.aM ad ad ad hr).ext ad ad
 refine iL ?_
 refine hK _ _ ad ⟨(m2.mono ad).bP,by have:=m2.le;omega,fun id aC=> ?_⟩ fun id i1 i2=> ?_
 ·exact yW
 ·exact Jh
theorem Ap(l:List Rl)(hl:l.length<=9223372036854775807)(g:Nat)(aG:List V)(base:Nat)(h:Nat->ab)(p:Rl->Bool)(hc:∀r∈V.aO aG,r<base)
 (hp:∀x∈l,fM Tryz.prog g (.d x.d::aG) base h h (.d (.bool (p x)))):fM Tryz.prog 130 [.d (.sl (l.map Rl.d)), .func (.func g) [] aG] base h h (.d (.bool (l.all p))):=by
 have:=Ia l hl g aG base (fun _:Unit=>h) (fun _ x=>((),p x)) hc (fun _=>True) (fun _ _ _ _ _=>trivial) (fun x hx _ _=>hp x hx) () trivial
 exact M8
structure Pg where
 sig:a7
 rules:List Rl
@[reducible] def Pg.row (p:Pg):List V:=[.d (.sl (p.sig.cons.map ky.d)), .d (.sl (p.sig.bX.map ky.d)), .d (.sl (p.rules.map Rl.d))]
@[reducible] def Pg.d (p:Pg):D:= .agg [.sl (p.sig.cons.map ky.d), .sl (p.sig.bX.map ky.d), .sl (p.rules.map Rl.d)]
structure Pg.Fin (p:Pg):Prop where
 sig:p.sig.Fits
 len:p.rules.length<=9223372036854775807
 all:∀r∈p.rules,r.Fin
def qH(p:Pg):Bool:=decide (p.rules.length<=16)&&(kB p.sig&&p.rules.all (fy p.sig))
theorem Ib(p:Pg)(hp:p.Fin)(r:Rl)(hr:r∈p.rules)(base sp:Nat)(h:Nat->ab)(ux:h sp= .row p.row)(hb:sp<base):fM Tryz.prog 131 [.d r.d, .ptr sp 0] base h h (.d (.bool (fy p.sig r))):=by
 intro o nx hI K X hK
 have hle:=hI.le
 have hg:=hI.bP
 have q0:o sp= .row p.row:=by rw[hI.eq sp hb,ux]
 refine cO.aB mix QW aj ?_
 rw[UR]
 refine dD q0 ?_
 refine ai (OP p.sig hp.sig r (hp.all r hr)) rfl ?_
 refine aJ ?_
 exact hK _ _ ad ⟨dv,ad,fun j hj=>by rw[ah _ _ _ _ (by omega),hI.eq j hj]⟩ (fun j g1 g2=>by(repeat(first|rfl|rw[ae]|rw[ah _ _ _ _ (by omega)])))
theorem Lz(p:Pg)(hp:p.Fin):a8 Tryz.prog 95 [p.d] (.ret [.bool (qH p)]):=by
 have hl:=hp.len
 refine a8.aB mix ZQ aj ?_
 rw[c95]
 unfold qH
 by_cases h0: ¬p.rules.length<=16
 ·have Dp:decide ((p.rules.length:Int)<=16)=false:=by simp;omega
  have EI:decide (p.rules.length<=16)=false:=by simp;omega
  refine eG Dp ?_
  rw[EI];rfl
 have Dp:decide ((p.rules.length:Int)<=16)=true:=by simp;omega
 have EI:decide (p.rules.length<=16)=true:=by simp;omega
 rw[EI,Bool.true_and]
 refine eG Dp ?_
 refine ai (vx p.sig hp.sig) rfl ?_
 cases h1:kB p.sig with
 |false=>
  refine AV ?_
  try simp
 |true=>
  refine AV ?_
  refine bd (Ap p.rules hl 131 [.ptr 0 0] 1 (aM (fun _=> .no) 0 (.row p.row)) (fy p.sig) mK (fun x hx=>Ib p hp x hx 1 0 _ (ae _ _ _) ad) _ _ ⟨dv,ad,fun id aC=>rfl⟩ _ _ fun o2 n2 m1 m2 m3=> ?_)
  refine aJ ?_
  try simp
theorem LA(p:Pg)(hp:p.Fin):a8 Tryz.prog 54 [p.d] (.ret [.i (mC (qH p))]):=by
 refine a8.aB mix ZD aj ?_
 rw[c54]
 refine aJ ?_
 refine ai (Lz p hp) rfl ?_
 cases h1:qH p with
 |false=>exact GI
 |true=>exact GI
inductive Pf where
 |mk (bG:Int) (val:Tm) (num:Int) (binds:List Tm) (kids:List Pf)
 deriving Inhabited
def Pf.bG:Pf->Int| .mk r _ _ _ _=>r
def Pf.val:Pf->Tm| .mk _ v _ _ _=>v
def Pf.num:Pf->Int| .mk _ _ n _ _=>n
def Pf.binds:Pf->List Tm| .mk _ _ _ b _=>b
def Pf.kids:Pf->List Pf| .mk _ _ _ _ k=>k
theorem Pf.ind {P:Pf->Prop}(h:∀r v n b kids,(∀k∈kids,P k)->P (.mk r v n b kids)):∀t,P t:=
 fun t=>Pf.rec (motive_1:=P) (motive_2:=fun l=>∀k∈l,P k) (fun r v n b kids ih=>h r v n b kids ih) (fun _ h=>by cases h)
  (fun x l hx hl k hk=>(List.mem_cons.1 hk).elim (fun e=>e ▸ hx) (hl k)) t
theorem Pf.ck {P:Pf->Prop}(h:∀t:Pf,(∀k∈t.kids,P k)->P t):∀t,P t:=Pf.ind fun r v n b kids ih=>h (.mk r v n b kids) ih
mutual
def Pf.d:Pf->D
 | .mk r v n b kids=> .agg [.i r, .i v.op, .i v.n, .sl (v.kids.map Tm.d), .i n, .sl (b.map Tm.d), .sl (Pf.ds kids)]
def Pf.ds:List Pf->List D
 |[]=>[]
 |t::l=>t.d::Pf.ds l
end
theorem Pf.rS:∀l:List Pf,Pf.ds l=l.map Pf.d
 |[]=>rfl
 |t::l=>by simp[Pf.ds,Pf.rS l]
theorem Pf.Ek (t:Pf):t.d= .agg [.i t.bG, .i t.val.op, .i t.val.n, .sl (t.val.kids.map Tm.d), .i t.num, .sl (t.binds.map Tm.d), .sl (t.kids.map Pf.d)]:=by
 cases t;simp[Pf.d,Pf.rS,Pf.bG,Pf.val,Pf.num,Pf.binds,Pf.kids]
@[go_sem] theorem Pf.Ua (t:Pf):D.agg [.i t.bG, .i t.val.op, .i t.val.n, .sl (t.val.kids.map Tm.d), .i t.num, .sl (t.binds.map Tm.d), .sl (t.kids.map Pf.d)]=t.d:=(Pf.Ek t).symm
@[go_sem] theorem Pf.N6 (t:Pf):D.cells t.d=[.i t.bG, .i t.val.op, .i t.val.n, .sl (t.val.kids.map Tm.d), .i t.num, .sl (t.binds.map Tm.d), .sl (t.kids.map Pf.d)]:=by rw[Pf.Ek];rfl
@[reducible] def Pf.row (t:Pf):List V:=[.d (.i t.bG), .d (.i t.val.op), .d (.i t.val.n), .d (.sl (t.val.kids.map Tm.d)), .d (.i t.num), .d (.sl (t.binds.map Tm.d)), .d (.sl (t.kids.map Pf.d))]
mutual
def Pf.fits:Pf->Prop
 | .mk _ v _ b kids=>v.fits/\b.length<=9223372036854775807/\(∀t∈b,t.fits)/\kids.length<=9223372036854775807/\Pf.kz kids
def Pf.kz:List Pf->Prop
 |[]=>True
 |t::l=>t.fits/\Pf.kz l
end
theorem Pf.lP:∀l:List Pf,Pf.kz l↔∀k∈l,k.fits
 |[]=>by simp[Pf.kz]
 |t::l=>by simp[Pf.kz,Pf.lP l]
theorem Pf.aP (t:Pf):t.fits↔t.val.fits/\t.binds.length<=9223372036854775807/\(∀x∈t.binds,x.fits)/\t.kids.length<=9223372036854775807/\∀k∈t.kids,k.fits:=by
 cases t;simp[Pf.fits,Pf.lP,Pf.kids,Pf.val,Pf.binds]
mutual
def dB:Pf->Int->List (Pf×Int)
 | .mk r v n b kids,d=>(.mk r v n b kids,d)::Ge kids (d+1)
def Ge:List Pf->Int->List (Pf×Int)
 |[],_=>[]
 |k::l,d=>dB k d++Ge l d
end
theorem EJ(l:List Pf)(d:Int):Ge l d=l.flatMap fun k=>dB k d:=by
 induction l with
 |nil=>rfl
 |cons k l ih=>simp[Ge,ih]
theorem qI(t:Pf)(d:Int):dB t d=(t,d)::t.kids.flatMap fun k=>dB k (d+1):=by cases t;simp[dB,EJ,Pf.kids]
theorem Wr{σ:Type}(l:List Pf)(hl:l.length<=9223372036854775807)(g:Nat)(aG:List V)(base:Nat)(H:σ->Nat->ab)(step:σ->Pf->σ×Bool)(hc:∀r∈V.aO aG,r<base)(ok:List Pf->σ->Prop)(bp:∀x∈l,∀r s,ok (x::r) s->(step s x).2=true->ok r (step s x).1)
 (h:∀x∈l,∀r s,ok (x::r) s->fM Tryz.prog g (.d x.d::aG) base (H s) (H (step s x).1) (.d (.bool (!(step s x).2)))) (s:σ) (gB:ok l s):
 fM Tryz.prog 192 [.d (.sl (l.map Pf.d)), .func (.func g) [] aG] base (H s) (H (aA step s l).1) (.d (.i (lV step s l 0))):=by
 intro o nx hI K X hK
 have fG:∀r∈V.aO aG,r<nx:=fun r hr=>Nat.lt_of_lt_of_le (hc r hr) hI.le
 refine cO.aB mix RD aj ?_
 rw[Vx]
 refine b9 ?_
 refine aL (fun i:Nat×σ×(Nat->ab)×Nat=>⟨bB [.d (.sl (l.map Pf.d)), .func (.func g) [] aG, .aa, .aa, .aa, .aa, .aa, .d (.i l.length), .d (.i i.1)],i.2.2.1,i.2.2.2⟩)
  (fun i=>i.1<=l.length/\cW base (H i.2.1) i.2.2.1 i.2.2.2/\nx<=i.2.2.2/\(∀id,base<=id->id<nx->i.2.2.1 id=o id)/\aA step s l=aA step i.2.1 (l.drop i.1)/\ok (l.drop i.1) i.2.1/\lV step s l 0=lV step i.2.1 (l.drop i.1) i.1) (fun i=>l.length - i.1) (0,s,o,nx)
  ⟨Nat.zero_le _,hI,Nat.le_refl _,fun _ _ _=>rfl,rfl,gB,rfl⟩ ?_ ?_
 ·dsimp only
  refine bM.bT _ (Nat.le_refl _) ad hI.bP (fun _ _=>rfl) ?_
  exact cM
 rintro⟨k,s',o',nx'⟩ ⟨hk,ow,hn,dc,hf,jR,kG⟩
 simp only at hk ow hn dc hf jR kG
 refine b9 ?_
 refine ak (fun h1=> ?_) (fun h1=> ?_)
 ·simp at h1
  obtain⟨x,hx⟩:=aw h1
  have de:=List.mem_of_getElem? hx
  have hd:l.drop k=x::l.drop (k+1):=by
   rw[List.drop_eq_getElem_cons h1]
   rw[List.getElem?_eq_getElem h1]at hx;injection hx with hx;rw[hx]
  rw[hd]at hf kG jR
  simp only[aA,lV]at hf kG
  refine GG hx ?_
  refine cY (h x de _ s' jR _ _ (ow.mono ad) _ _ fun o2 n2 m1 m2 m3=> ?_)
  cases hb:(step s' x).2 with
  |true=>
   rw[hb]at hf kG
   simp only[if_true]at hf kG
   refine aJ ?_
   have Ct:∀r∈V.aO aG,r<n2+1+1:=fun r hr=>by have:=fG r hr;omega
   refine au (k+1,(step s' x).1,o2,n2+1+1) ⟨h1,m2.mono (show n2<=n2+1+1 from ad),(show nx<=n2+1+1 from ad),fun id i1 i2=>(m3 id i1 ad).trans (dc id i1 i2),hf,bp x de _ s' jR hb,by rw[kG];rfl⟩ mL (bM.bT _ (show nx<=n2+1+1 from ad) (Nat.le_refl _) (m2.mono (show n2<=n2+1+1 from ad)).bP (fun _ _=>rfl) ?_)
   exact cM
  |false=>
   rw[hb]at hf kG
   simp only[Bool.false_eq_true,if_false]at hf kG
   refine b9 ?_
   rw[hf,kG]at hK
   exact hK _ _ ad (m2.mono ad) fun id i1 i2=>(m3 id i1 ad).trans (dc id i1 i2)
 ·simp at h1
  refine b9 ?_
  rw[List.drop_eq_nil_of_le h1]at hf kG
  rw[hf,kG]at hK
  exact hK _ _ ad (ow.mono ad) dc
theorem CK{σ:Type}(l:List Pf)(hl:l.length<=9223372036854775807)(g:Nat)(aG:List V)(base:Nat)(H:σ->Nat->ab)(step:σ->Pf->σ×Bool)(hc:∀r∈V.aO aG,r<base)(ok:List Pf->σ->Prop)(bp:∀x∈l,∀r s,ok (x::r) s->(step s x).2=true->ok r (step s x).1)
 (h:∀x∈l,∀r s,ok (x::r) s->fM Tryz.prog g (.d x.d::aG) base (H s) (H (step s x).1) (.d (.bool (!(step s x).2)))) (s:σ) (gB:ok l s):
 fM Tryz.prog 133 [.d (.sl (l.map Pf.d)), .func (.func g) [] aG] base (H s) (H (aA step s l).1) (.d (.bool (!(aA step s l).2))):=by
 intro o nx hI K X hK
 have fG:∀r∈V.aO aG,r<nx:=fun r hr=>Nat.lt_of_lt_of_le (hc r hr) hI.le
 refine cO.aB mix QY aj ?_
 rw[UT]
 refine iL ?_
 refine bd (Wr l hl g aG base H step hc ok bp h s gB _ _ ?_ _ _ fun o2 n2 m1 m2 m3=> ?_)
 ·exact hI.mono ad
 refine iL ?_
 have e:decide (0<=lV step s l 0)= !(aA step s l).2:=by
  have:=tX step l s 0 ad
  rw[Bool.eq_iff_iff,decide_eq_true_eq,this]
  cases(aA step s l).2<;>simp
 rw[e]
 exact hK _ _ ad (m2.mono ad) fun id i1 i2=>m3 id i1 ad
theorem aba{x:Pf}{g:Nat}{aG:List V}{base c bx:Nat}{h h2 O:Nat->ab}{r:Bool}(hS:fM Tryz.prog g (.d x.d::aG) base h h2 (.d (.bool r)))(hb:base<=bx)(PE:bx<c)(hO:O bx= .row [.func (.func g) [] aG])(hc:∀r∈V.aO aG,r<base):
 fM Tryz.prog 134 [.d x.d, .ptr bx 0] c (ext base h O) (ext base h2 O) (.d (.bool (!r))):=by
 intro o nx hI K X hK
 have hle:=hI.le
 have fG:∀r∈V.aO aG,r<nx:=fun r hr=>by have:=hc r hr;omega
 have ho:o bx= .row [.func (.func g) [] aG]:=by
  exact Jk
 have y1:∀k,bx≠nx+k:=fun k=>ad
 have y2:bx≠nx:=ad
 refine cO.aB mix QZ aj ?_
 rw[UU]
 refine MT ho y1 y2 ?_
 refine cY ((hS.ext (by omega:base<=c) O) _ _ ?_ _ _ fun o2 n2 m1 m2 m3=> ?_)
 ·exact hI.aM ad ad ad rfl
 refine iL ?_
 exact hK _ _ ad (m2.mono ad) fun id i1 i2=>by rw[m3 id i1 (by omega),ah _ _ _ _ (by omega)]
theorem Ic{σ:Type}(l:List Pf)(hl:l.length<=9223372036854775807)(g:Nat)(aG:List V)(base:Nat)(H:σ->Nat->ab)(step:σ->Pf->σ×Bool)(hc:∀r∈V.aO aG,r<base)(ok:List Pf->σ->Prop)(bp:∀x∈l,∀r s,ok (x::r) s->(step s x).2=true->ok r (step s x).1)
 (h:∀x∈l,∀r s,ok (x::r) s->fM Tryz.prog g (.d x.d::aG) base (H s) (H (step s x).1) (.d (.bool (step s x).2))) (s:σ) (gB:ok l s):
 fM Tryz.prog 98 [.d (.sl (l.map Pf.d)), .func (.func g) [] aG] base (H s) (H (aA step s l).1) (.d (.bool (aA step s l).2)):=by
 intro o nx hI K X hK
 have hle:=hI.le
 have fG:∀r∈V.aO aG,r<nx:=fun r hr=>Nat.lt_of_lt_of_le (hc r hr) hI.le
 refine cO.aB mix ZT aj ?_
 rw[c98]
 refine iL ?_
 refine bd (CK l hl 134 [.ptr nx 0] (nx+1) (fun s=>ext base (H s) (aM o nx (.row [.func (.func g) [] aG]))) step mK ok bp (fun x hx r s hs=>aba (h x hx r s hs) hle ad (ae _ _ _) hc) s gB _ _ ?_ _ _ fun o2 n2 m1 m2 m3=> ?_)
 ·have hr:(ab.row [V.func (.func g) [] aG]).refs.all (fun r=>decide (r<nx+4))=true:=by
   rw[List.all_eq_true]
   intro r hr
   have h1:r∈V.aO aG:=by simpa[ab.refs,V.aO,V.refs]using hr
   have:=fG r h1
   simp;omega
  exact(hI.aM ad ad ad hr).ext ad ad
 refine iL ?_
 refine hK _ _ ad ⟨(m2.mono ad).bP,by have:=m2.le;omega,fun id aC=> ?_⟩ fun id i1 i2=> ?_
 ·exact yW
 ·exact Jh
end Go.Proofs.YtonbelhklnmjnaaGreat
