/-
  A PART OF THE PROOF. Conditions: none.
-/
import Derived.Test.YtnkamdiiakdkgaaGreatEu15
set_option linter.unusedSimpArgs false
set_option linter.unusedVariables false
namespace Go.Proofs.YtnkamdiiakdkgaaGreat
theorem JG(a b:List Tm)(ha:a.length<=9223372036854775807)(hb:b.length<=9223372036854775807)(g:Nat)(h:∀x∈a,∀y∈b,aW Tryz.prog g [x.d,y.d] (.ret [.bool (eV x y)]))(o:Nat->ab)(nx:Nat)(hg:Good o nx)(K X:V->(Nat->ab)->Nat->Prop)
 (hK:∀o' nx',nx<=nx'->Good o' nx'->(∀j,j<nx->o' j=o j)->K (.d (.bool (a.length==b.length&&gI a b))) o' nx'):
 de Tryz.prog 149 [.d (.sl (a.map Tm.d)), .d (.sl (b.map Tm.d)), .func (.func g) [] []] o nx K X:=by
 refine de.aH mix PM aI ?_
 rw[Tc]
 refine qP ?_
 refine aj (fun h1=> ?_) (fun h1=> ?_)
 ·refine br ?_
  have:(a.length==b.length&&gI a b)=false:=by
   have:(a.length==b.length)=false:=by
    rw[Bool.eq_false_iff];intro h
    simp at h;simp[h]at h1
   rw[this];rfl
  rw[this]at hK
  exact hK _ _ ah (hg.mono ah) (fun _ _=>rfl)
 ·have hl:a.length=b.length:=by simp at h1;omega
  have LX:(a.length==b.length)=true:=by simpa using hl
  rw[LX,Bool.true_and]at hK
  refine qP ?_
  refine aE (fun k:Nat=>⟨ba [.d (.sl (a.map Tm.d)), .d (.sl (b.map Tm.d)), .func (.func g) [] [], .aa, .aa, .aa, .aa, .aa, .aa, .aa, .aa, .aa, .aa, .aa, .aa, .d (.sl (a.map Tm.d)), .d (.i a.length), .d (.i k)],o,nx⟩)
   (fun k=>k<=a.length/\∀i,i<k->∀x y,a[i]? =some x->b[i]? =some y->eV x y=true) (fun k=>a.length - k) 0 ⟨Nat.zero_le _,fun i h=>ah⟩ (bC.bB _ (Nat.le_refl _) ah hg (fun _ _=>rfl) ?_) (fun k hk=> ?_)
  ·exact cE
  refine br ?_
  refine aj (fun h2=> ?_) (fun h2=> ?_)
  ·simp at h2
   obtain⟨x,hx⟩:=az h2
   obtain⟨y,hy⟩:=az (l:=b) (k:=k) ah
   refine VS hx hy ?_
   refine aB (h x (List.mem_of_getElem? hx) y (List.mem_of_getElem? hy)) rfl ?_
   refine br ?_
   refine aj (fun h3=> ?_) (fun h3=> ?_)
   ·refine br ?_
    simp at h3
    have:gI a b=false:=by
     rw[Bool.eq_false_iff];intro h4
     have:=(gN _ _ hl).1 h4 k x y hx hy
     rw[h3]at this;cases this
    rw[this]at hK
    refine hK _ _ ah ?_ (fun j hj=>by(repeat(first|rfl|rw[ae]|rw[ai _ _ _ _ (by omega)])))
    exact eL
   ·refine br ?_
    simp at h3
    refine aq (k+1) ⟨h2,fun i hi u v hu hv=> ?_⟩ ah (bC.bB _ (Nat.le_refl _) ah hg (fun j hj=>by(repeat(first|rfl|rw[ae]|rw[ai _ _ _ _ (by omega)]))) ?_)
    ·by_cases e:i=k
     ·subst e
      rw[hx]at hu;rw[hy]at hv
      exact NT
     ·exact hk.2 i ah u v hu hv
    ·exact cE
  ·refine br ?_
   simp at h2
   have:gI a b=true:=(gN _ _ hl).2 fun i x y hx hy=>hk.2 i (by have:=(List.getElem?_eq_some_iff.1 hx).1;omega) x y hx hy
   rw[this]at hK
   exact hK _ _ ah (hg.mono ah) (fun _ _=>rfl)
def lk:List (Int×Int)->Int->Option Int
 |[],_=>none
 |p::m,v=>if p.1=v then some p.2 else lk m v
abbrev qB(m:List (Int×Int)):Prop:=(m.map (·.1)).Nodup
theorem Ex{m:List (Int×Int)}{v k:Int}(hk:qB m):lk m v=some k↔(v,k)∈m:=by
 induction m with
 |nil=>simp[lk]
 |cons p m ih=>
  rw[qB,List.map_cons,List.nodup_cons]at hk
  simp only[lk,List.mem_cons]
  by_cases h:p.1=v
  ·rw[if_pos h]
   constructor
   ·intro e;injection e with e;exact .inl (by rw[<- h, <- e])
   ·rintro(e|e)
    ·rw[<- e]
    ·exact absurd (h ▸ List.mem_map.2 ⟨_,e,rfl⟩) hk.1
  ·rw[if_neg h,ih hk.2]
   constructor
   ·exact .inr
   ·rintro(e|e)
    ·exact absurd (by rw[<- e]) h
    ·exact e
def ints(m:List (Int×Int)):List (Int×D):=m.map fun p=>(p.1,D.i p.2)
theorem qC:∀ (m:List (Int×Int)) (v:Int) (i:Nat),(match fm v (ints m) i with|some (_,x)=>some x|none=>none)=(lk m v).map D.i
 |[],v,i=>rfl
 |p::m,v,i=>by
  have ih:=qC m v (i+1)
  simp only[ints,List.map_cons,fm,lk]at ih|-
  by_cases h:v=p.1
  ·subst h;simp
  ·have h2: ¬p.1=v:=fun e=>h e.symm
   simp only[beq_iff_eq,h,h2,if_false]
   exact ih
theorem lp{m:List (Int×Int)}{v k:Int}(h:lk m v=some k):∃j,fm v (ints m) 0=some (j,D.i k):=by
 have:=qC m v 0
 rw[h]at this
 cases ha:fm v (ints m) 0 with
 |none=>rw[ha]at this;cases this
 |some p=>obtain⟨j,x⟩:=p;rw[ha]at this;simp at this;exact⟨j,by rw[this]⟩
theorem lq{m:List (Int×Int)}{v:Int}(h:lk m v=none):fm v (ints m) 0=none:=by
 have:=qC m v 0
 rw[h]at this
 cases ha:fm v (ints m) 0 with
 |none=>rfl
 |some p=>obtain⟨j,x⟩:=p;rw[ha]at this;cases this
def fL(m:List (Int×Int))(v:Int):Int:=(lk m v).getD 0
def jW:List (Int×Int)->Int->Int->List (Int×Int)
 |[],v,w=>[(v,w)]
 |p::m,v,w=>if p.1=v then(v,w)::m else p::jW m v w
theorem A0(v:Int):∀ (m:List (Int×D)) (i:Nat),fm v m (i+1)=(fm v m i).map fun p=>(p.1+1,p.2)
 |[],_=>rfl
 |p::m,i=>by
  have ih:=A0 v m (i+1)
  simp only[fm]
  by_cases h:(v==p.1)=true
  ·simp[h]
  ·simp only[h,if_false];exact ih
theorem Gp{v:Int}{p:Int×D}{m:List (Int×D)}{x:D}(h: ¬v=p.1):u9 v x (p::m)=p::u9 v x m:=by
 have hb: ¬ ((v==p.1)=true):=by simpa using h
 unfold u9
 simp only[fm,hb,if_false]
 rw[A0]
 cases fm v m 0 with
 |none=>rfl
 |some q=>obtain⟨i,y⟩:=q;rfl
theorem kE:∀ (m:List (Int×Int)) (v w:Int),u9 v (D.i w) (ints m)=ints (jW m v w)
 |[],v,w=>by simp[u9,fm,ints,jW]
 |p::m,v,w=>by
  have ih:=kE m v w
  by_cases h:p.1=v
  ·subst h
   simp[u9,fm,ints,jW]
  ·have h': ¬v=p.1:=fun e=>h e.symm
   have e2:ints (p::m)=(p.1,D.i p.2)::ints m:=rfl
   rw[e2,Gp h',ih]
   simp[jW,h,ints]
def rY(m:List (Int×Int))(v:Int):List (Int×Int):=jW m v (IntKind.i64.wrap (fL m v+1))
@[reducible] def py (m:List (Int×Int)):ab:= .map 3 3 (enc (D.int .i64) (ints m))
def dt(op:Int)(m:List (Int×Int))(x:Tm):List (Int×Int):=if x.op=op then rY m x.n else m
def aaC(R:List (Int×Int)->Prop)(o:Nat->ab)(nx:Nat)(K:V->(Nat->ab)->Nat->Prop):Prop:=
 ∀o' nx' id m,nx<=id->id<nx'->Good o' nx'->(∀j,j<nx->o' j=o j)->o' id=py m->R m->K (.mp id) o' nx'
theorem TU(t:Tm)(ht:t.fits)(o:Nat->ab)(nx:Nat)(hg:Good o nx)(K X:V->(Nat->ab)->Nat->Prop)
 (hK:aaC (fun m=>m=(fM t).foldl (dt 8) []) o nx K):de Tryz.prog 136 [.d t.d] o nx K X:=by
 refine de.aH mix PK aI ?_
 rw[Ta]
 refine qP ?_
 refine fF (wJ t _ _ _ _ ?_)
 refine qP ?_
 have hG:∀j,j<nx+10->aF (aF (aF (aF (aF o nx (.row [.d (.i t.op), .d (.i t.n), .d (.sl (t.kids.map Tm.d))])) (nx+2) (.map 3 3 [])) (nx+3) (.row [.d .gy])) (nx+3) (.row [.mp (nx+2)])) (nx+6) (.row t.row) j=aF (aF (aF (aF o nx (.row t.row)) (nx+3) (.row [.mp (nx+2)])) (nx+6) (.row t.row)) (nx+2) (py []) j:=by
  intro j _
  exact Lm
 refine pw (σ:=List (Int×Int)) t ht [.aa, .ptr nx 0, .aa, .ptr (nx+3) 0] ?_ cG rfl eL oq (ae _ _ _)
  (fun s=>aF (aF (aF (aF o nx (.row t.row)) (nx+3) (.row [.mp (nx+2)])) (nx+6) (.row t.row)) (nx+2) (py s)) (fun _=>none) (dt 8) (fun _=>True) [] trivial rfl hG (fun _ _ _ _ _ _=>trivial) ?_ ?_
 ·exact E7
 ·intro L hL vj x hx s' _ _ o3 n3 hI hn G5 K' X' cw
  simp only[mh]
  have hg:=hI.bD
  have hle:=hI.le
  have q1:o3 (nx+3)= .row [.mp (nx+2)]:=by rw[hI.eq (nx+3) (by omega)];(repeat(first|rfl|rw[ae]|rw[ai _ _ _ _ (by omega)]))
  have q2:o3 (nx+2)=py s':=by rw[hI.eq (nx+2) (by omega)];(repeat(first|rfl|rw[ae]|rw[ai _ _ _ _ (by omega)]))
  refine br ?_
  refine kB hL (pd:=none) ?_ ?_
  ·(repeat(first|rfl|rw[ae]|rw[ai _ _ _ _ (by omega)]))
   exact G5
  refine G8 q1 q2 ?_
  have z1:nx≠n3:=ah
  have z2:∀k,nx≠n3+k:=fun k=>ah
  have z3:nx+2≠n3:=ah
  have z4:nx+3≠n3:=ah
  have same:∀ (o':Nat->ab) (n':Nat) (l:List (Int×Int)),Good o' n'->n3<=n'->(∀j,j<nx+10->o' j=aF o3 (nx+2) (py l) j)->cI (nx+10) (aF (aF (aF (aF o nx (.row t.row)) (nx+3) (.row [.mp (nx+2)])) (nx+6) (.row t.row)) (nx+2) (py l)) o' n':=fun o' n' l k1 k2 k3=>⟨k1,ah,fun j hj=>by
   rw[k3 j hj]
   by_cases e:j=nx+2
   ·subst e;rw[ae,ae]
   ·rw[ai _ _ _ _ e,ai _ _ _ _ e,hI.eq j hj,ai _ _ _ _ e]⟩
  refine aj (fun h3=> ?_) (fun h3=> ?_)
  ·have lF:x.op=8:=by simpa using h3
   have hp:dt 8 s' x=rY s' x.n:=by unfold dt;rw[if_pos lF]
   rw[hp]at cw
   cases MY:lk s' x.n with
   |none=>
    have hc:rY s' x.n=jW s' x.n (0+1):=by unfold rY fL;rw[MY];rfl
    rw[hc]at cw
    simp+contextual (disch:=first|omega|simp only[go_sem,false_implies]) only[go_sem,wrap64,if_pos,q1,q2,z1,z2,z3,z4,lq MY,kE,Nat.add_assoc,Nat.left_eq_add,Nat.add_eq_left,Nat.add_left_cancel_iff]
    refine cw _ _ _ .busy none ah (same _ _ _ eL ah fun j hj=> ?_) eY (fun j h3 h4=>by(repeat(first|rfl|rw[ae]|rw[ai _ _ _ _ (by omega)])))
    by_cases e:j=nx+2
    ·exact E9
    ·exact eY
   |some c=>
    obtain⟨k,hk⟩:=lp MY
    have hc:rY s' x.n=jW s' x.n (IntKind.i64.wrap (c+1)):=by unfold rY fL;rw[MY];rfl
    rw[hc]at cw
    simp+contextual (disch:=first|omega|simp only[go_sem,false_implies]) only[go_sem,wrap64,if_pos,q1,q2,z1,z2,z3,z4,hk,kE,Nat.add_assoc,Nat.left_eq_add,Nat.add_eq_left,Nat.add_left_cancel_iff]
    refine cw _ _ _ .busy none ah (same _ _ _ eL ah fun j hj=> ?_) eY (fun j h3 h4=>by(repeat(first|rfl|rw[ae]|rw[ai _ _ _ _ (by omega)])))
    by_cases e:j=nx+2
    ·exact E9
    ·exact eY
  ·have hp:dt 8 s' x=s':=by unfold dt;rw[if_neg (by simpa using h3)]
   rw[hp]at cw
   refine br ?_
   refine cw _ _ _ .busy none ah (same _ _ _ eL ah fun j hj=> ?_) eY (fun j h3 h4=>by(repeat(first|rfl|rw[ae]|rw[ai _ _ _ _ (by omega)])))
   by_cases e:j=nx+2
   ·exact Oa
   ·exact eY
 ·intro o' n' hI
  have hle:=hI.le
  simp only[nU]
  have q1:o' (nx+3)= .row [.mp (nx+2)]:=by rw[hI.eq (nx+3) (by omega)];(repeat(first|rfl|rw[ae]|rw[ai _ _ _ _ (by omega)]))
  refine gk q1 ?_
  have wy:∀ (l:List Tm) (m:List (Int×Int)),(aw (yf (fun _=>none) (dt 8)) m l).1=l.foldl (dt 8) m:=by
   intro l
   induction l with
   |nil=>intro m;rfl
   |cons y l ih=>intro m;simp only[aw,yf,Option.isNone_none,if_true];exact ih _
  rw[wy]at hI
  refine hK _ _ _ _ ah ah (hI.bD.mono ah) (fun j hj=> ?_) (by rw[hI.eq (nx+2) (by omega),ae]) rfl
  rw[hI.eq j (by omega)];(repeat(first|rfl|rw[ae]|rw[ai _ _ _ _ (by omega)]))
theorem A1(l:List Tm)(hl:l.length<=1000000)(hf:∀t∈l,t.fits)(o:Nat->ab)(nx:Nat)(hg:Good o nx)(K X:V->(Nat->ab)->Nat->Prop)
 (hK:aaC (fun m=>m=(l.flatMap fM).foldl (dt 1) []) o nx K):de Tryz.prog 135 [.d (.sl (l.map Tm.d))] o nx K X:=by
 refine de.aH mix PJ aI ?_
 rw[S9]
 refine QF ?_
 let Hm:List (Int×Int)->Nat->ab:=fun m=>aF (aF o (nx+2) (.row [.mp (nx+1)])) (nx+1) (py m)
 have hgm:∀m,Good (Hm m) (nx+7):=fun m=>((hg.mono ah).aF ah pX).aF ah rfl
 have DH:∀m,Hm m (nx+1)=py m:=fun m=>ae _ _ _
 have LV:∀m,Hm m (nx+2)= .row [.mp (nx+1)]:=fun m=>by show aF _ (nx+1) _ (nx+2)=_;rw[ai _ _ _ _ (by omega),ae]
 have u0:∀m j,j≠nx+1->Hm m j=Hm [] j:=fun m j h=>by show aF _ (nx+1) _ j=aF _ (nx+1) _ j;rw[ai _ _ _ _ h,ai _ _ _ _ h]
 refine aE (fun i:Nat×List (Int×Int)=>⟨ba [.aa, .aa, .aa, .ptr (nx+2) 0, .aa, .aa, .aa, .aa, .d (.sl (l.map Tm.d)), .d (.i l.length), .d (.i i.1)],Hm i.2,nx+7⟩)
  (fun i=>i.1<=l.length/\i.2=((l.take i.1).flatMap fM).foldl (dt 1) []) (fun i=>l.length - i.1) (0,[]) ⟨Nat.zero_le _,rfl⟩ (bC.bB _ (show nx<=nx+7 from ah) ah (hgm _) (fun j hj=> ?_) ?_) ?_
 ·show _=aF (aF o (nx+2) (.row [.mp (nx+1)])) (nx+1) (py []) j
  exact Lm
 ·exact cE
 rintro⟨k,m⟩ ⟨hk,hm⟩
 simp only at hk hm
 refine br ?_
 refine aj (fun h2=> ?_) (fun h2=> ?_)
 ·simp at h2
  obtain⟨x,hx⟩:=az h2
  have eg:=List.mem_of_getElem? hx
  have j8:((l.take (k+1)).flatMap fM).foldl (dt 1) []=(fM x).foldl (dt 1) m:=by
   rw[List.take_add_one,hx,hm];simp
  have acZ:=hgm m
  have e1:=DH m
  have e2:=LV m
  have e3:=u0 m
  clear_value Hm
  refine Lj hx ?_
  refine fF (wJ x _ _ _ _ ?_)
  refine qP ?_
  let G:List (Int×Int)->Nat->ab:=fun s=>aF (aF (aF (Hm m) (nx+10) (.row x.row)) (nx+13) (.row x.row)) (nx+1) (py s)
  have hG:∀j,j<nx+17->aF (aF (aF (Hm m) (nx+10) (.row [.d (.int .i64 0), .d (.int .i64 0), .bw])) (nx+10) (.row [.d (.i x.op), .d (.i x.n), .d (.sl (x.kids.map Tm.d))])) (nx+13) (.row x.row) j=G m j:=by
   intro j _
   show _=aF (aF (aF (Hm m) (nx+10) (.row x.row)) (nx+13) (.row x.row)) (nx+1) (py m) j
   by_cases e:j=nx+1
   ·subst e;(repeat(first|rfl|rw[ae]|rw[ai _ _ _ _ (by omega)]))
    exact e1
   ·rw[ai _ (nx+1) _ _ e,fZ]
  have gm:∀s,G s (nx+1)=py s:=fun s=>ae _ _ _
  have g2:∀s,G s (nx+2)= .row [.mp (nx+1)]:=fun s=>by
   show aF _ (nx+1) _ (nx+2)=_
   rw[ai _ _ _ _ (by omega),ai _ _ _ _ (by omega),ai _ _ _ _ (by omega)];exact e2
  have g3:∀s s' j,j≠nx+1->G s j=G s' j:=fun s s' j h=>by show aF _ (nx+1) _ j=aF _ (nx+1) _ j;rw[ai _ _ _ _ h,ai _ _ _ _ h]
  have g4:∀s j,j<nx+7->j≠nx+1->G s j=Hm m j:=fun s j h h'=>by
   show aF _ (nx+1) _ j=_
   rw[ai _ _ _ _ h',ai _ _ _ _ (by omega),ai _ _ _ _ (by omega)]
  clear_value G
  have hg:=acZ
  refine pw (σ:=List (Int×Int)) x (hf x eg) [.aa, .aa, .aa, .ptr (nx+2) 0, .aa, .aa, .aa, .aa, .d (.sl (l.map Tm.d)), .d (.i l.length), .d (.i k)] ?_ cG rfl eL oq (ae _ _ _)
   G (fun _=>none) (dt 1) (fun _=>True) m trivial rfl hG (fun _ _ _ _ _ _=>trivial) ?_ ?_
  ·exact E7
  ·intro L hL vj y hy s' _ _ o3 n3 hI hn G5 K' X' cw
   simp only[mh]
   have hg:=hI.bD
   have hle:=hI.le
   have q1:o3 (nx+2)= .row [.mp (nx+1)]:=by rw[hI.eq (nx+2) (by omega),g2]
   have q2:o3 (nx+1)=py s':=by rw[hI.eq (nx+1) (by omega),gm]
   have z1:nx≠n3:=ah
   have z2:∀k,nx≠n3+k:=fun k=>ah
   have z3:nx+2≠n3:=ah
   have z4:nx+1≠n3:=ah
   have same:∀ (o':Nat->ab) (n':Nat) (l:List (Int×Int)),Good o' n'->n3<=n'->(∀j,j<nx+17->o' j=aF o3 (nx+1) (py l) j)->cI (nx+17) (G l) o' n':=fun o' n' l k1 k2 k3=>⟨k1,ah,fun j hj=>by
    rw[k3 j hj]
    by_cases e:j=nx+1
    ·subst e;rw[ae,gm]
    ·rw[ai _ _ _ _ e,hI.eq j hj];exact g3 _ _ _ e⟩
   refine br ?_
   refine kB hL (pd:=none) ?_ ?_
   ·(repeat(first|rfl|rw[ae]|rw[ai _ _ _ _ (by omega)]))
    exact G5
   refine G8 q1 q2 ?_
   refine aj (fun h3=> ?_) (fun h3=> ?_)
   ·have lF:y.op=1:=by simpa using h3
    have hp:dt 1 s' y=rY s' y.n:=by unfold dt;rw[if_pos lF]
    rw[hp]at cw
    cases MY:lk s' y.n with
    |none=>
     have hc:rY s' y.n=jW s' y.n (0+1):=by unfold rY fL;rw[MY];rfl
     rw[hc]at cw
     simp+contextual (disch:=first|omega|simp only[go_sem,false_implies]) only[go_sem,wrap64,if_pos,q1,q2,z1,z2,z3,z4,lq MY,kE,Nat.add_assoc,Nat.left_eq_add,Nat.add_eq_left,Nat.add_left_cancel_iff]
     refine cw _ _ _ .busy none ah (same _ _ _ eL ah fun j hj=> ?_) eY (fun j h3 h4=>by(repeat(first|rfl|rw[ae]|rw[ai _ _ _ _ (by omega)])))
     by_cases e:j=nx+1
     ·exact E9
     ·exact eY
    |some c=>
     obtain⟨q,hq⟩:=lp MY
     have hc:rY s' y.n=jW s' y.n (IntKind.i64.wrap (c+1)):=by unfold rY fL;rw[MY];rfl
     rw[hc]at cw
     simp+contextual (disch:=first|omega|simp only[go_sem,false_implies]) only[go_sem,wrap64,if_pos,q1,q2,z1,z2,z3,z4,hq,kE,Nat.add_assoc,Nat.left_eq_add,Nat.add_eq_left,Nat.add_left_cancel_iff]
     refine cw _ _ _ .busy none ah (same _ _ _ eL ah fun j hj=> ?_) eY (fun j h3 h4=>by(repeat(first|rfl|rw[ae]|rw[ai _ _ _ _ (by omega)])))
     by_cases e:j=nx+1
     ·exact E9
     ·exact eY
   ·have hp:dt 1 s' y=s':=by unfold dt;rw[if_neg (by simpa using h3)]
    rw[hp]at cw
    refine br ?_
    refine cw _ _ _ .busy none ah (same _ _ _ eL ah fun j hj=> ?_) eY (fun j h3 h4=>by(repeat(first|rfl|rw[ae]|rw[ai _ _ _ _ (by omega)])))
    by_cases e:j=nx+1
    ·exact Oa
    ·exact eY
  ·intro o' n' hI
   have hle:=hI.le
   simp only[nU]
   have wy:∀ (l:List Tm) (m:List (Int×Int)),(aw (yf (fun _=>none) (dt 1)) m l).1=l.foldl (dt 1) m:=by
    intro l
    induction l with
    |nil=>intro m;rfl
    |cons y l ih=>intro m;simp only[aw,yf,Option.isNone_none,if_true];exact ih _
   rw[wy]at hI
   refine br ?_
   refine aq (k+1,(fM x).foldl (dt 1) m) ⟨h2,j8.symm⟩ nb (bC.bB _ (show nx<=nx+7 from ah) ah (hgm _) (fun j hj=> ?_) ?_)
   ·rw[hI.eq j (by omega)]
    by_cases e:j=nx+1
    ·subst e;rw[gm,DH]
    ·rw[g4 _ _ hj e,e3 j e];exact(u0 _ j e).symm
   ·exact cE
 ·simp at h2
  rw[List.take_of_length_le h2]at hm
  refine gk LV ?_
  exact hK _ _ _ _ ah ah ((hgm _).mono ah) (fun j hj=>by show aF _ (nx+1) _ j=_;rw[ai _ _ _ _ (by omega),ai _ _ _ _ (by omega)]) (DH m) hm
section
section
variable {B:Nat->Prop}{w:World}
end
theorem aW.rA {P:Program}{f:FuncId}{ds:List D}{out:D}(h:de P f (ds.map .d) (fun _=> .no) 0 (fun v o _=>∃x,dA o v=some x/\∀B w val,D.den B w x val->D.den B w out val) (fun _ _ _=>False)):aW P f ds (.ret [out]):=by
 refine⟨h.1,fun M w vals hM hd=> ?_⟩
 let cg:Place:=fun _=> .nilFunc
 have u4:∀b, ¬cy cg (hp (fun _=> .no) 0) b:=by rintro b ⟨id,hl,_⟩;simp[hp,ab.live]at hl
 refine(h.2 M cg w vals (kz cg hM) ((V.b7 _ _).2 (D.aP (w:=w) (w':=w) (B:=M) (fun b _ hB=>⟨rfl,fun h=>h.elim hB (u4 b)⟩) _ _ hd))).mono ?_
 rintro e w' ⟨aD,o',nx',v,k1,k2,k3⟩
 have re:dx (fun _=>False) w w':=⟨k2.keep.os,k2.keep.tape,k2.keep.output,k2.keep.size,fun k hk _=>k2.keep.block k hk (u4 k)⟩
 refine⟨re, ?_⟩
 cases e with
 |outgrown=>exact k3.elim
 |panicked ch=>obtain⟨_,_,_,h⟩:=k3;exact h.elim
 |returned val=>
  obtain⟨g1,x,g2,g3⟩:=k3
  obtain⟨f1,f2,f3,f4,f5⟩:=cC k1 v.ids (fun id au=>cA v val g1 id au)
  have h3:=eH f1 (o:=o') v x val (fun id au=>f3 id au) g2 (V.aM f2 _ _ g1)
  exact g3 _ _ _ (D.aM (w:=w') (w':=w') (fun k _ hB=>⟨rfl,fun hM=>hB (.inl hM)⟩) x val h3)
end
@[reducible] def JH (m:List (Int×Int)):D:= .mp ((enc (D.int .i64) (ints m)).map (·.1)) ((enc (D.int .i64) (ints m)).map (·.2))
theorem sb(m:List (Int×Int)):(((enc (D.int .i64) (ints m)).map (·.1)).zip ((enc (D.int .i64) (ints m)).map (·.2)))=enc (D.int .i64) (ints m):=MQ _ _
def du(op:Int)(l:List Tm):List (Int×Int):=(l.flatMap fM).foldl (dt op) []
theorem TV(t:Tm)(ht:t.fits):aW Tryz.prog 136 [t.d] (.ret [JH (du 8 [t])]):=by
 refine aW.rA (TU t ht _ _ eL _ _ fun o' nx' id m _ _ _ _ ho hm=> ?_)
 refine⟨_,by simp only[dA,ho];rfl,fun B w val h=> ?_⟩
 have e:m=du 8 [t]:=by rw[hm];simp[du]
 rw[<- e];exact h
theorem rB(l:List Tm)(hl:l.length<=1000000)(hf:∀t∈l,t.fits):aW Tryz.prog 135 [.sl (l.map Tm.d)] (.ret [JH (du 1 l)]):=by
 refine aW.rA (A1 l hl hf _ _ eL _ _ fun o' nx' id m _ _ _ _ ho hm=> ?_)
 refine⟨_,by simp only[dA,ho];rfl,fun B w val h=> ?_⟩
 have e:m=du 1 l:=hm
 rw[<- e];exact h
theorem wZ(o:Nat->ab)(m:List (Int×Int))(v:Int):gQ Tryz.prog o 172 (.d (JH m)) (.d (.int .i64 v)) false=some (.d (.i (fL m v)),[],[]):=by
 cases h:lk m v with
 |none=>
  have e:fL m v=0:=by unfold fL;rw[h];rfl
  rw[e]
  simp+contextual (disch:=first|omega|simp only[go_sem,false_implies]) only[go_sem,wrap64,if_pos,sb,lq h]
 |some c=>
  have e:fL m v=c:=by unfold fL;rw[h];rfl
  obtain⟨j,hj⟩:=lp h
  rw[e]
  simp+contextual (disch:=first|omega|simp only[go_sem,false_implies]) only[go_sem,wrap64,if_pos,sb,hj]
theorem uc(l:List Int)(hl:l.length<=1000000)(o:Nat->ab)(fr:Nat):xJ Tryz.prog 76 [.d (.sl (l.map .i))] [] o fr (.osl fr 0) [(fr, .arr 0 3 1 (l.map .i))]:=by
 refine xJ.IY (ds:=[.sl (l.map .i)]) ?_
 refine de.aH mix SR aI ?_
 rw[c76]
 have hu:Tryz.prog.underlying 37=some (.slice 3):=ag
 cases l with
 |nil=>
  have heq:∀O,vu Tryz.prog O 37 true (.d (.sl [])) .bw=some .eN:=by
   intro O
   unfold vu
   rw[hu]
   rfl
  simp only[List.map_cons,List.map_nil]
  refine gk heq ?_
  simp only[List.isEmpty_nil,if_true]
  refine gk heq ?_
  exact .inl ⟨3,1,rfl,ae _ _ _⟩
 |cons a l=>
  have heq:∀O,vu Tryz.prog O 37 true (.d (.sl (D.i a::l.map D.i))) .bw=some (.d (.bool false)):=by
   intro O
   unfold vu
   rw[hu]
   rfl
  simp only[List.map_cons,List.map_nil]
  refine gk heq ?_
  simp only[List.isEmpty_nil,if_true]
  refine gk heq ?_
  rw[List.length_cons]at hl
  rw[if_pos (by omega)]
  refine br ?_
  exact .inl ⟨3,1,rfl,ae _ _ _⟩
def TW:List Int->Int->Int->Int
 |[],_,_=> -1
 |x::l,v,k=>if v=x then k else TW l v (k+1)
theorem JI:∀ (l:List Int) (v k:Int),0<=k->(decide (0<=TW l v k)=l.contains v)
 |[],v,k,_=>rfl
 |x::l,v,k,hk=>by
  have ih:=JI l v (k+1) ah
  unfold TW
  by_cases h:v=x
  ·rw[if_pos h];subst h;simp[hk]
  ·rw[if_neg h,ih];simp[List.contains_cons,h]
theorem JJ(l:List Int)(hl:l.length<=1000000)(v:Int):aW Tryz.prog 179 [.sl (l.map .i), .i v] (.ret [.i (TW l v 0)]):=by
 refine aW.aH mix P8 aI ?_
 rw[Tu]
 refine lN ?_
 refine aE (fun k:Nat=>⟨ba [.d (.sl (l.map .i)), .d (.i v), .aa, .aa, .aa, .aa, .aa, .d (.i l.length), .d (.i k)],fun _=> .no,1⟩)
  (fun k=>k<=l.length/\TW l v 0=TW (l.drop k) v k) (fun k=>l.length - k) 0 ⟨Nat.zero_le _,rfl⟩ (bC.bB _ (show 0<=1 from ah) ah eL (fun _ _=>rfl) ?_) (fun k hk=> ?_)
 ·exact cE
 obtain⟨hk,sJ⟩:=hk
 refine br ?_
 refine aj (fun h2=> ?_) (fun h2=> ?_)
 ·simp at h2
  obtain⟨x,hx⟩:=az h2
  have hd:l.drop k=x::l.drop (k+1):=by
   exact Oc
  rw[hd]at sJ
  simp only[TW]at sJ
  refine gk hx ?_
  refine aj (fun h3=> ?_) (fun h3=> ?_)
  ·have lF:v=x:=by simpa using h3
   rw[if_pos lF]at sJ
   refine br ?_
   rw[sJ]
  ·have lF: ¬v=x:=by simpa using h3
   rw[if_neg lF]at sJ
   refine br ?_
   refine aq (k+1) ⟨h2,sJ⟩ ah (bC.bB _ (show 0<=1 from ah) ah eL (fun _ _=>rfl) ?_)
   exact cE
 ·exact Om
theorem A2(l:List Int)(hl:l.length<=1000000)(v:Int):aW Tryz.prog 163 [.sl (l.map .i), .i v] (.ret [.bool (l.contains v)]):=by
 refine aW.aH mix PU aI ?_
 rw[Tj]
 refine br ?_
 refine aB (JJ l hl v) rfl ?_
 refine br ?_
 rw[JI l v 0 (by omega)]
mutual
def yh(m:List (Int×Int)):Tm->List Int->Bool
 | .mk op n kids,m5=>if op=1 then(fL m n==0||m5.contains n)else pz m op n kids 0 m5
def pz(m:List (Int×Int))(op n:Int):List Tm->Nat->List Int->Bool
 |[],_,_=>true
 |k::l,i,m5=>yh m k (if op=8/\i=1 then m5++[n]else m5)&&pz m op n l (i+1) m5
end
theorem Ey(m:List (Int×Int))(t:Tm)(m5:List Int):yh m t m5=if t.op=1 then(fL m t.n==0||m5.contains t.n)else pz m t.op t.n t.kids 0 m5:=by cases t;rw[yh];rfl
theorem JK(m:List (Int×Int)):∀t:Tm,t.fits->∀m5:List Int,m5.length+t.mm<=1000000->aW Tryz.prog 137 [t.d,JH m, .sl (m5.map .i)] (.ret [.bool (yh m t m5)]):=by
 refine Tm.cl fun t ih hf m5 hb=> ?_
 have lK:=(Tm.aX _).1 hf
 refine aW.aH mix PL aI ?_
 rw[Tb,Ey]
 by_cases h1:t.op=1
 ·have jq:(t.op==1)=true:=by simpa using h1
  rw[if_pos h1]
  cases hc:(fL m t.n==0)with
  |true=>
   simp+contextual (disch:=first|omega|simp only[go_sem,false_implies]) only[go_sem,wrap64,if_pos,jq,wZ,hc]
  |false=>
   simp+contextual (disch:=first|omega|simp only[go_sem,false_implies]) only[go_sem,wrap64,if_pos,jq,wZ,hc]
   refine aB (A2 m5 ah t.n) rfl ?_
   simp+contextual (disch:=first|omega|simp only[go_sem,false_implies]) only[go_sem,wrap64,if_pos,hc]
 ·have jq:(t.op==1)=false:=by simpa using h1
  rw[if_neg h1]
  refine lM jq ?_
  refine aE (fun k:Nat=>⟨ba [.aa, .d (JH m), .d (.sl (m5.map .i)), .ptr 0 0, .aa, .aa, .aa, .aa, .aa, .aa, .aa, .aa, .aa, .aa, .aa, .aa, .aa, .aa, .aa, .aa, .aa, .aa, .aa, .aa, .aa, .d (.sl (t.kids.map Tm.d)), .d (.i t.kids.length), .d (.i k)],aF (fun _=> .no) 0 (.row [.d (.i t.op), .d (.i t.n), .d (.sl (t.kids.map Tm.d))]),1⟩)
   (fun k=>k<=t.kids.length/\pz m t.op t.n t.kids 0 m5=pz m t.op t.n (t.kids.drop k) k m5) (fun k=>t.kids.length - k) 0 ⟨Nat.zero_le _,rfl⟩ (bC.bB _ (show 0<=1 from ah) ah eL (fun _ _=>rfl) ?_) (fun k hk=> ?_)
  ·exact cE
  obtain⟨hk,sJ⟩:=hk
  have JL:=lK.1
  refine br ?_
  refine aj (fun h2=> ?_) (fun h2=> ?_)
  ·simp at h2
   obtain⟨x,hx⟩:=az h2
   have eg:=List.mem_of_getElem? hx
   have hd:t.kids.drop k=x::t.kids.drop (k+1):=by
    exact Oc
   have hh:=Tm.pg eg
   rw[hd]at sJ
   simp only[pz]at sJ
   refine gk hx ?_
   refine aj (fun h3=> ?_) (fun h3=> ?_)
   ·have lF:t.op=8/\k=1:=by
     simp at h3
     exact⟨h3.1,ah⟩
    rw[if_pos lF]at sJ
    refine br ?_
    refine qx rfl (uc m5 ah _ _) ?_
    refine br ?_
    refine aN cG ?_
    refine br ?_
    have e:List.map D.i m5++[D.i t.n]=(m5++[t.n]).map D.i:=aI
    rw[e]
    refine aB (ih x eg (lK.2 x eg) (m5++[t.n]) ow) rfl ?_
    refine br ?_
    cases hs:yh m x (m5++[t.n])with
    |false=>
     rw[hs,Bool.false_and]at sJ
     refine gk hs ?_
     rw[sJ]
    |true=>
     exact WL
   ·have lF: ¬ (t.op=8/\k=1):=by
     simp at h3
     intro⟨h4,h5⟩
     exact h3 h4 ah
    rw[if_neg lF]at sJ
    refine br ?_
    refine aB (ih x eg (lK.2 x eg) m5 ah) rfl ?_
    refine br ?_
    cases hs:yh m x m5 with
    |false=>
     rw[hs,Bool.false_and]at sJ
     refine gk hs ?_
     rw[sJ]
    |true=>
     exact WL
  ·exact Om
mutual
def fN(v:Int):Tm->Bool
 | .mk op n kids=>if op=1 then n==v else oe v op n kids 0
def oe(v op n:Int):List Tm->Nat->Bool
 |[],_=>false
 |k::l,i=>(fN v k&& !(op==8&&i==1&&n==v))||oe v op n l (i+1)
end
theorem lr(v:Int)(t:Tm):fN v t=if t.op=1 then t.n==v else oe v t.op t.n t.kids 0:=by cases t;rfl
@[reducible] def MZ (l:List Int):ab:= .map 3 4 (enc (D.int .i64) (mF l))
def rZ(l:List Int)(x:Tm×Int):Bool:=(x.1.op !=1&&x.1.op !=3)||(x.1.op==1&&l.contains x.1.n)
def kF(s:List Int×Bool)(x:Tm×Int):List Int×Bool:=(if rZ s.1 x=true then s.1 else if x.1.op=1 then rX s.1 x.1.n else s.1, !rZ s.1 x)
def pJ(s:List Int×Bool):Option jo:=if s.2=true then none else some .ret
def ve(t:Tm):Bool:=(aw (wz pJ kF) ([],true) (pre t 1)).2
theorem A3(s:aS)(hs:s.Fits)(t:Tm)(ht:t.Fin):aW Tryz.prog 132 [s.d,t.d] (.ret [.bool (eQ s [t]&&ve t), .i (nq (eQ s [t]))]):=by
 refine aW.aH mix PG aI ?_
 rw[S6]
 refine br ?_
 refine aB (Es s hs [t] aI (fun x hx=>by simp at hx;subst hx;exact ht)) rfl ?_
 cases h1:eQ s [t]with
 |false=>exact Hd
 |true=>
  refine qP ?_
  refine fF (AU t _ _ _ _ ?_)
  refine qP ?_
  refine rr (σ:=List Int×Bool) t ht.fits ht.mm [.aa, .aa, .aa, .aa, .ptr 2 0, .ptr 3 0, .ptr 10 0] ?_ cG rfl eL oq (ae _ _ _)
   (fun b=>aF (aF (aF (aF (aF (aF (aF (aF (fun _=> .no) 0 (.row s.row)) 1 (.row t.row)) 2 (.row [.d (.bool false)])) 3 (.row [.d (.i 0)])) 6 (.arr 0 55 3 [t.d])) 10 (.row [.mp 9])) 13 (.row t.row)) 9 (MZ b.1)) pJ kF (fun _=>True) ([],true) trivial rfl (fun id au=> ?_) (fun _ _ _ _ _ _=>trivial) ?_ ?_
  ·exact E7
  ·exact Lm
  ·intro L hL vj x hx s' h1 h2 o3 n3 hI hn ho K X cw
   simp only[mh]
   have hg:=hI.bD
   have q1:o3 10= .row [.mp 9]:=hI.eq 10 ah
   have q2:o3 9=MZ s'.1:=hI.eq 9 ah
   have q3:o3 2= .row [.d (.bool false)]:=hI.eq 2 ah
   have q4:o3 3= .row [.d (.i 0)]:=hI.eq 3 ah
   refine br ?_
   refine kB hL (pd:=none) ?_ ?_
   ·(repeat(first|rfl|rw[ae]|rw[ai _ _ _ _ (by omega)]))
    exact ho
   refine G8 q1 q2 ?_
   have hv:rZ s'.1 x=((x.1.op !=1&&x.1.op !=3)||(x.1.op==1&&s'.1.contains x.1.n)):=rfl
   rw[<- hv]
   have same:∀ (o':Nat->ab) (n':Nat) (l:List Int),Good o' n'->n3<=n'->(∀id,id<17->o' id=aF o3 9 (MZ l) id)->cI 17 (aF (aF (aF (aF (aF (aF (aF (aF (fun _=> .no) 0 (.row s.row)) 1 (.row t.row)) 2 (.row [.d (.bool false)])) 3 (.row [.d (.i 0)])) 6 (.arr 0 55 3 [t.d])) 10 (.row [.mp 9])) 13 (.row t.row)) 9 (MZ l)) o' n':=fun o' n' l k1 k2 k3=>⟨k1,by have:=hI.le;omega,fun id au=>by
    rw[k3 id au]
    by_cases e:id=9
    ·subst e;rw[ae,ae]
    ·rw[ai _ _ _ _ e,ai _ _ _ _ e,hI.eq id au,ai _ _ _ _ e]⟩
   cases hb:rZ s'.1 x with
   |true=>
    have hp:kF s' x=(s'.1,false):=by simp[kF,hb]
    rw[hp]at cw
    refine G8 q3 q4 ?_
    refine cw _ _ _ .busy none ah (same _ _ _ eL ah fun id au=> ?_) eY (fun id h3 h4=>by(repeat(first|rfl|rw[ae]|rw[ai _ _ _ _ (by omega)])))
    by_cases e9:id=9
    ·exact N8
    ·by_cases e2:id=2
     ·subst e2;(repeat(first|rfl|rw[ae]|rw[ai _ _ _ _ (by omega)]))
      exact q3.symm
     ·by_cases e3:id=3
      ·subst e3;(repeat(first|rfl|rw[ae]|rw[ai _ _ _ _ (by omega)]))
       exact q4.symm
      ·exact eY
   |false=>
    refine G8 q1 q2 ?_
    refine aj (fun h3=> ?_) (fun h3=> ?_)
    ·have lF:x.1.op=1:=by simpa using h3
     have hp:kF s' x=(rX s'.1 x.1.n,true):=by simp[kF,hb,lF]
     rw[hp]at cw
     refine G8 q1 q2 ?_
     refine cw _ _ _ .busy none ah (same _ _ _ eL ah fun id au=> ?_) eY (fun id h3 h4=>by(repeat(first|rfl|rw[ae]|rw[ai _ _ _ _ (by omega)])))
     by_cases e9:id=9
     ·subst e9;(repeat(first|rfl|rw[ae]|rw[ai _ _ _ _ (by omega)]))
     ·exact eY
    ·have lF: ¬x.1.op=1:=by simpa using h3
     have hp:kF s' x=(s'.1,true):=by simp[kF,hb,lF]
     rw[hp]at cw
     refine br ?_
     refine cw _ _ _ .busy none ah (same _ _ _ eL ah fun id au=> ?_) eY (fun id h3 h4=>by(repeat(first|rfl|rw[ae]|rw[ai _ _ _ _ (by omega)])))
     by_cases e9:id=9
     ·exact N8
     ·exact eY
  ·intro o' n' hI
   have hJ:=ye pJ kF (pre t 1) ([],true) rfl
   have hpf:ve t=(pJ (aw (wz pJ kF) ([],true) (pre t 1)).1).isNone:=hJ
   have q0:o' 2= .row [.d (.bool false)]:=hI.eq 2 ah
   have q1:o' 3= .row [.d (.i 0)]:=hI.eq 3 ah
   rw[hpf]
   generalize (aw (wz pJ kF) ([],true) (pre t 1)).1=sf at*
   obtain⟨l,b⟩:=sf
   cases b<;>(simp only[pJ,if_true,if_false,Bool.false_eq_true,nU];simp+contextual (disch:=first|omega|simp only[go_sem,false_implies]) only[go_sem,wrap64,if_pos,q0,q1];simp[nq])
structure Rl where
 fn:Int
 ax:List Tm
 rhs:Tm
 vars:Int
@[reducible] def Rl.row (r:Rl):List V:=[.d (.i r.fn), .d (.sl (r.ax.map Tm.d)), .d (.i r.rhs.op), .d (.i r.rhs.n), .d (.sl (r.rhs.kids.map Tm.d)), .d (.i r.vars)]
@[reducible] def Rl.d (r:Rl):D:= .agg [.i r.fn, .sl (r.ax.map Tm.d), .i r.rhs.op, .i r.rhs.n, .sl (r.rhs.kids.map Tm.d), .i r.vars]
structure Rl.Fin (r:Rl):Prop where
 ax:r.ax.length<=1000000
 all:∀t∈r.ax,t.Fin
 rhs:r.rhs.Fin
theorem A4(l:List Tm)(hl:l.length<=9223372036854775807)(g:Nat)(aV:List V)(base:Nat)(h:Nat->ab)(p:Tm->Bool)(hc:∀r∈V.aL aV,r<base)
 (hp:∀x∈l,j7 Tryz.prog g (.d x.d::aV) base h h (.d (.bool (p x)))):j7 Tryz.prog 133 [.d (.sl (l.map Tm.d)), .func (.func g) [] aV] base h h (.d (.bool (l.all p))):=by
 have:=wH l hl g aV base (fun _:Unit=>h) (fun _ x=>((),p x)) hc (fun _=>True) (fun _ _ _ _ _=>trivial) (fun x hx _ _=>hp x hx) () trivial
 exact HD
def jJ(s:aS)(t:Tm):Bool:=eQ s [t]&&ve t
theorem M0(s:aS)(hs:s.Fits)(t:Tm)(ht:t.Fin)(base sp:Nat)(h:Nat->ab)(G0:h sp= .row s.row)(hb:sp<base):j7 Tryz.prog 131 [.d t.d, .ptr sp 0] base h h (.d (.bool (jJ s t))):=by
 intro o nx hI K X hK
 have hle:=hI.le
 have hg:=hI.bD
 have q0:o sp= .row s.row:=by rw[hI.eq sp hb,G0]
 refine de.aH mix PF aI ?_
 rw[S5]
 refine gk q0 ?_
 refine aB (A3 s hs t ht) rfl ?_
 cases hr:eQ s [t]with
 |false=>
  have e:jJ s t=false:=by simp[jJ,hr]
  exact WO
 |true=>
  have e:jJ s t=ve t:=by simp[jJ,hr]
  exact WO
theorem qD{K:V->List (Nat×ab)->Prop}{id:Nat}{l:List (Int×Int)}(h0:l=[]->K (.bS [.d (.bool false)]) [])
 (h1:∀ (i:Nat) n k,l[i]? =some (n,k)->K (.bS [.d (.bool true), .d (.int .i64 n), .d (D.i k)]) [(id, .nI (enc (D.int .i64) (ints (l.eraseIdx i))) (some (.int .i64 n,D.i k)))]):D1 K id (enc (D.int .i64) (ints l)):=by
 refine Gd _ (fun h=>h0 ?_) fun i k x h=> ?_
 ·cases l with
  |nil=>rfl
  |cons x l=>simp[ints]at h
 ·unfold ints at h|-
  rw[List.getElem?_map]at h
  cases hl:l[i]? with
  |none=>rw[hl]at h;cases h
  |some n=>
   rw[hl]at h
   simp at h
   obtain⟨rfl,rfl⟩:=h
   have:=h1 i n.1 n.2 hl
   rw[ll]
   exact this
theorem qE{α:Type}{l:List α}{i:Nat}{n:α}(p:α->Bool)(h:l[i]? =some n):l.all p=(p n&&(l.eraseIdx i).all p):=by
 have hp:l.Perm (n::l.eraseIdx i):=by
  obtain⟨hi,e⟩:=List.getElem?_eq_some_iff.1 h
  have G0:l=l.take i++n::l.drop (i+1):=by rw[<- e,List.getElem_cons_drop,List.take_append_drop]
  rw[List.eraseIdx_eq_take_drop_succ]
  conv=>lhs;rw[G0]
  exact List.perm_middle
 rw[Bool.eq_iff_iff,List.all_eq_true,Bool.and_eq_true,List.all_eq_true]
 constructor
 ·intro h1
  exact⟨h1 _ (hp.mem_iff.2 aI),fun x hx=>h1 x (hp.mem_iff.2 ng)⟩
 ·rintro⟨h1,h2⟩ x hx
  rcases List.mem_cons.1 (hp.mem_iff.1 hx)with e|e
  ·rw[e];exact h1
  ·exact h2 x e
theorem qF{α:Type}{l:List α}{i:Nat}{n:α}(h:l[i]? =some n):(l.eraseIdx i).length+1=l.length:=by
 obtain⟨hi,e⟩:=List.getElem?_eq_some_iff.1 h
 rw[List.length_eraseIdx];simp[hi];omega
def lB(s:aS)(r:Rl):Bool:=decide (0<=r.fn)&&(match s.bH[r.fn.toNat]? with|some f=>(r.ax.length:Int)==f.args|none=>false)&&decide (0<=r.vars)&&decide (r.vars<=20)&&r.ax.all (jJ s)&&eQ s [r.rhs]
def eA(s:aS)(r:Rl):Bool:=lB s r&&(du 1 r.ax).all (fun p=>decide (p.2<=1)&&decide (p.1<r.vars))&&(du 1 [r.rhs]).all (fun p=>decide (p.1<r.vars))&&
 (du 8 [r.rhs]).all (fun p=>decide (p.2<=1)&&decide (p.1<r.vars)&&decide (fL (du 1 r.ax) p.1<=0))&&yh (du 8 [r.rhs]) r.rhs []
theorem yi{R:List Nat}{o:Nat->ab}{id:Nat}(h:id∈R):Cw R o id=o id:=by simp[Cw,h]
theorem Gq{R:List Nat}{o:Nat->ab}{nx:Nat}(b8:∀id∈R,id<nx)(ni:∀id∈R,∀j∈(o id).refs,j∈R):Good (Cw R o) nx:=by
 refine⟨fun id au=> ?_,fun id r hr=> ?_⟩
 ·have:id∉R:=fun hm=>by have:=b8 id hm;omega
  simp[Cw,this]
 ·by_cases au:id∈R
  ·rw[yi au]at hr;exact b8 r (ni id au r hr)
  ·have:Cw R o id= .no:=by simp[Cw,au]
   rw[this]at hr;cases hr
theorem M3(s:aS)(hs:s.Fits)(l:List Tm)(hl:l.length<=1000000)(hf:∀t∈l,t.Fin){o:Nat->ab}(ho:o 0= .row s.row):
 DU Tryz.prog 133 [.d (.sl (l.map Tm.d)), .func (.func 131) [] [.ptr 0 0]] [0] o (.ret [.bool (l.all (jJ s))]) []:=by
 have b8:∀j∈[0],j<1:=aI
 have ni:∀k∈[0],∀j∈(o k).refs,j∈[0]:=by
  intro k hk j hj
  simp at hk
  subst hk
  rw[ho]at hj;simp[ab.refs,V.aL,V.refs]at hj
 refine DU.l9 b8 oq ni aI aI ?_
 refine A4 l ah 131 [.ptr 0 0] 1 (Cw [0] o) (jJ s) oq (fun x hx=>M0 s hs x (hf x hx) 1 0 _ ((yi aI).trans ho) ah) _ _ ⟨Gq b8 ni,Nat.le_refl _,fun _ _=>rfl⟩ _ _ fun o2 n2 m1 m2 m3=> ?_
 refine⟨fun k hk=> ?_,[.d (.bool (l.all (jJ s)))],[.bool (l.all (jJ s))],rfl,rfl,rfl,fun k hk=>by simp[V.bg,V.ids]at hk⟩
 simp at hk
 subst hk
 rw[m2.eq 0 (by omega),yi (by simp)];rfl
set_option maxHeartbeats 1000000 in
theorem M4(s:aS)(hs:s.Fits)(r:Rl)(hr:r.Fin):aW Tryz.prog 100 [s.d,r.d] (.ret [.bool (eA s r)]):=by
 have hr1:=hr.ax
 refine aW.aH mix Pt aI ?_
 rw[SS]
 have hlf:=hs.lf
 have fin:∀ {b:Bool},lB s r=b->b=false->eA s r=false:=fun h1 h2=>by unfold eA;rw[h1,h2];rfl
 by_cases f1:r.fn<0
 ·have Lg:decide (r.fn<0)=true:=by simpa using f1
  have e:eA s r=false:=fin (b:=false) (by unfold lB;rw[decide_eq_false (by omega: ¬0<=r.fn)];rfl) rfl
  simp+contextual (disch:=first|omega|simp only[go_sem,false_implies]) only[go_sem,wrap64,if_pos,Nat.add_assoc,Nat.left_eq_add,Nat.add_eq_left,Nat.add_left_cancel_iff,List.length_map,Lg]
  exact N1
 have Lg:decide (r.fn<0)=false:=by simpa using f1
 by_cases f2:(s.bH.length:Int)<=r.fn
 ·have JM:decide ((s.bH.length:Int)<=r.fn)=true:=by simpa using f2
  have e:eA s r=false:=fin (b:=false) (by unfold lB;rw[List.getElem?_eq_none (by omega:s.bH.length<=r.fn.toNat)];simp) rfl
  refine VO Lg JM ?_
  exact N1
 have JM:decide ((s.bH.length:Int)<=r.fn)=false:=by simpa using f2
 obtain⟨f,hf⟩:∃f,s.bH[r.fn.toNat]? =some f:=⟨_,List.getElem?_eq_getElem ah⟩
 by_cases f3: ¬ (r.ax.length:Int)=f.args
 ·have TX:((r.ax.length:Int)!=f.args)=true:=by simpa using f3
  have e:eA s r=false:=fin (b:=false) (by unfold lB;rw[hf];simp[f3]) rfl
  simp+contextual (disch:=first|omega|simp only[go_sem,false_implies]) only[go_sem,wrap64,if_pos,Nat.add_assoc,Nat.left_eq_add,Nat.add_eq_left,Nat.add_left_cancel_iff,List.length_map,Lg,JM,hf,TX]
  exact N1
 have TX:((r.ax.length:Int)!=f.args)=false:=by simpa using f3
 by_cases f4:r.vars<0
 ·have f4':decide (r.vars<0)=true:=by simpa using f4
  have e:eA s r=false:=fin (b:=false) (by unfold lB;rw[decide_eq_false (by omega: ¬0<=r.vars)];simp) rfl
  simp+contextual (disch:=first|omega|simp only[go_sem,false_implies]) only[go_sem,wrap64,if_pos,Nat.add_assoc,Nat.left_eq_add,Nat.add_eq_left,Nat.add_left_cancel_iff,List.length_map,Lg,JM,hf,TX,f4']
  exact N1
 have f4':decide (r.vars<0)=false:=by simpa using f4
 by_cases f5:20<r.vars
 ·have f5':decide (20<r.vars)=true:=by simpa using f5
  have e:eA s r=false:=fin (b:=false) (by unfold lB;rw[decide_eq_false (by omega: ¬r.vars<=20)];simp) rfl
  refine VP Lg JM TX f4' f5' ?_
  exact N1
 have f5':decide (20<r.vars)=false:=by simpa using f5
 have hh:lB s r=(r.ax.all (jJ s)&&eQ s [r.rhs]):=by
  unfold lB
  rw[hf]
  have g3:(r.ax.length:Int)=f.args:=by simpa using f3
  simp[g3,show 0<=r.fn by omega,show 0<=r.vars by omega,show r.vars<=20 by omega]
 refine VP Lg JM TX f4' f5' ?_
 refine As (rd:=[0]) rfl (M3 s hs r.ax hr1 hr.all ?_) ?_
 ·exact eY
 cases h6:r.ax.all (jJ s)with
 |false=>
  have e:eA s r=false:=fin hh (by rw[h6];rfl)
  refine br ?_
  exact N1
 |true=>
  refine br ?_
  refine aQ (MU s hs r.rhs hr.rhs) rfl ?_
  cases h7:eQ s [r.rhs]with
  |false=>
   have e:eA s r=false:=fin hh (by rw[h6,h7];rfl)
   refine BP ?_
   exact N1
  |true=>
   refine BP ?_
   refine aN (aR rfl) ?_
   refine br ?_
   have hR:eA s r=((du 1 r.ax).all (fun p=>decide (p.2<=1)&&decide (p.1<r.vars))&&(du 1 [r.rhs]).all (fun p=>decide (p.1<r.vars))&&
    (du 8 [r.rhs]).all (fun p=>decide (p.2<=1)&&decide (p.1<r.vars)&&decide (fL (du 1 r.ax) p.1<=0))&&yh (du 8 [r.rhs]) r.rhs []):=by
    unfold eA;rw[hh,h6,h7];rfl
   refine c7 (rB r.ax hr1 (fun t ht=>(hr.all t ht).fits)) ?_
   refine br ?_
   refine c7 (TV r.rhs hr.rhs.fits) ?_
   refine br ?_
   refine aN (aR rfl) ?_
   simp+contextual (disch:=first|omega|simp only[go_sem,false_implies]) only[go_sem,wrap64,if_pos,sb]
   refine aE (fun i:List (Int×Int)×Option (D×D)=>⟨ba [.aa, .aa, .aa, .ptr 1 0, .aa, .aa, .d (JH (du 1 r.ax)), .d (JH (du 8 [r.rhs])), .aa, .aa, .aa, .aa, .aa, .aa, .aa, .aa, .aa, .aa, .aa, .aa, .aa, .aa, .aa, .aa, .aa, .aa, .aa, .aa, .aa, .aa, .aa, .aa, .aa, .aa, .aa, .aa, .aa, .aa, .aa, .aa, .aa, .aa, .aa, .aa, .aa, .aa, .aa, .aa, .aa, .aa, .aa, .aa, .aa, .aa, .aa, .aa, .aa, .aa, .aa, .aa, .aa, .aa, .aa, .aa, .aa, .aa, .aa, .aa, .aa, .ptr 62 0],aF (aF (aF (fun _=> .no) 0 (.row [.d (.sl (s.cons.map iu.d)), .d (.sl (s.bH.map iu.d))])) 1 (.row [.d (.i r.fn), .d (.sl (r.ax.map Tm.d)), .d (.i r.rhs.op), .d (.i r.rhs.n), .d (.sl (r.rhs.kids.map Tm.d)), .d (.i r.vars)])) 62 (.nI (enc (D.int .i64) (ints i.1)) i.2),63⟩)
    (fun i=>(du 1 r.ax).all (fun p=>decide (p.2<=1)&&decide (p.1<r.vars))=i.1.all (fun p=>decide (p.2<=1)&&decide (p.1<r.vars))) (fun i=>i.1.length) (du 1 r.ax,none) rfl (bC.bB _ (show 0<=63 from ah) ah eL (fun j hj=>by(repeat(first|rfl|rw[ae]|rw[ai _ _ _ _ (by omega)]))) ?_) ?_
   ·exact cE
   rintro⟨rest,last⟩ hA
   simp only at hA
   refine br ?_
   refine qD (fun F6=> ?_) fun i n k hm=> ?_
   ·subst F6
    simp only[List.all_nil]at hA
    refine qP ?_
    refine bn (rB [r.rhs] aI (fun t ht=>by simp at ht;subst ht;exact hr.rhs.fits)) ?_
    refine VR ?_
    refine aE (fun i:List (Int×Int)×Option (D×D)=>⟨ba [.aa, .aa, .aa, .ptr 1 0, .aa, .aa, .d (JH (du 1 r.ax)), .d (JH (du 8 [r.rhs])), .aa, .aa, .aa, .aa, .aa, .aa, .aa, .aa, .aa, .aa, .aa, .aa, .aa, .aa, .aa, .aa, .aa, .aa, .aa, .aa, .aa, .aa, .aa, .aa, .aa, .aa, .aa, .aa, .aa, .aa, .aa, .aa, .aa, .aa, .aa, .aa, .aa, .aa, .aa, .aa, .aa, .aa, .aa, .aa, .aa, .aa, .aa, .aa, .aa, .aa, .aa, .aa, .aa, .aa, .aa, .aa, .aa, .aa, .aa, .aa, .aa, .aa, .aa, .aa, .aa, .aa, .aa, .aa, .aa, .aa, .aa, .aa, .aa, .aa, .aa, .aa, .aa, .aa, .aa, .ptr 69 0],aF (aF (aF (aF (aF (fun _=> .no) 0 (.row [.d (.sl (s.cons.map iu.d)), .d (.sl (s.bH.map iu.d))])) 1 (.row [.d (.i r.fn), .d (.sl (r.ax.map Tm.d)), .d (.i r.rhs.op), .d (.i r.rhs.n), .d (.sl (r.rhs.kids.map Tm.d)), .d (.i r.vars)])) 62 (.nI (enc (D.int .i64) (ints [])) last)) 67 (.qT 0 [r.rhs.d])) 69 (.nI (enc (D.int .i64) (ints i.1)) i.2),70⟩)
     (fun i=>(du 1 [r.rhs]).all (fun p=>decide (p.1<r.vars))=i.1.all (fun p=>decide (p.1<r.vars))) (fun i=>i.1.length) (du 1 [r.rhs],none) rfl (bC.bB _ (show 0<=70 from ah) ah eL (fun j hj=>by first|(rw[fZ];done)|(repeat(first|rfl|rw[ae]|rw[ai _ _ _ _ (by omega)]))|exact UB) ?_) ?_
    ·exact cE
    rintro⟨rest,aaD⟩ hB
    simp only at hB
    refine br ?_
    refine qD (fun F6=> ?_) fun i n k hm=> ?_
    ·subst F6
     simp only[List.all_nil]at hB
     refine VR ?_
     refine aE (fun i:List (Int×Int)×Option (D×D)=>⟨ba [.aa, .aa, .aa, .ptr 1 0, .aa, .aa, .d (JH (du 1 r.ax)), .d (JH (du 8 [r.rhs])), .aa, .aa, .aa, .aa, .aa, .aa, .aa, .aa, .aa, .aa, .aa, .aa, .aa, .aa, .aa, .aa, .aa, .aa, .aa, .aa, .aa, .aa, .aa, .aa, .aa, .aa, .aa, .aa, .aa, .aa, .aa, .aa, .aa, .aa, .aa, .aa, .aa, .aa, .aa, .aa, .aa, .aa, .aa, .aa, .aa, .aa, .aa, .aa, .aa, .aa, .aa, .aa, .aa, .aa, .aa, .aa, .aa, .aa, .aa, .aa, .aa, .aa, .aa, .aa, .aa, .aa, .aa, .aa, .aa, .aa, .aa, .aa, .aa, .aa, .aa, .aa, .aa, .aa, .aa, .aa, .aa, .aa, .aa, .aa, .aa, .aa, .aa, .aa, .aa, .ptr 73 0],aF (aF (aF (aF (aF (aF (fun _=> .no) 0 (.row [.d (.sl (s.cons.map iu.d)), .d (.sl (s.bH.map iu.d))])) 1 (.row [.d (.i r.fn), .d (.sl (r.ax.map Tm.d)), .d (.i r.rhs.op), .d (.i r.rhs.n), .d (.sl (r.rhs.kids.map Tm.d)), .d (.i r.vars)])) 62 (.nI (enc (D.int .i64) (ints [])) last)) 67 (.qT 0 [r.rhs.d])) 69 (.nI (enc (D.int .i64) (ints [])) aaD)) 73 (.nI (enc (D.int .i64) (ints i.1)) i.2),74⟩)
      (fun i=>(du 8 [r.rhs]).all (fun p=>decide (p.2<=1)&&decide (p.1<r.vars)&&decide (fL (du 1 r.ax) p.1<=0))=i.1.all (fun p=>decide (p.2<=1)&&decide (p.1<r.vars)&&decide (fL (du 1 r.ax) p.1<=0))) (fun i=>i.1.length) (du 8 [r.rhs],none) rfl (bC.bB _ (show 0<=74 from ah) ah eL (fun j hj=>by(repeat(first|rfl|rw[ae]|rw[ai _ _ _ _ (by omega)]))) ?_) ?_
     ·exact cE
     rintro⟨rest,adu⟩ hC
     simp only at hC
     refine br ?_
     refine qD (fun F6=> ?_) fun i n k hm=> ?_
     ·subst F6
      simp only[List.all_nil]at hC
      refine qP ?_
      refine aB (JK (du 8 [r.rhs]) r.rhs hr.rhs.fits [] (by have:=hr.rhs.mm;simp;omega)) rfl ?_
      refine br ?_
      rw[hR,hA,hB,hC];rfl
     ·have hle:=qF hm
      rw[qE (fun p=>decide (p.2<=1)&&decide (p.1<r.vars)&&decide (fL (du 1 r.ax) p.1<=0)) hm]at hC
      simp only at hC
      have bad:(decide (k<=1)&&decide (n<r.vars)&&decide (fL (du 1 r.ax) n<=0))=false->eA s r=false:=fun e2=>by rw[hR,hC,e2];simp
      by_cases g1:1<k
      ·have g1':decide (1<k)=true:=by simpa using g1
       have e:=bad (by rw[decide_eq_false (by omega: ¬k<=1)];rfl)
       refine Lj g1' ?_
       rw[e]
      have g1':decide (1<k)=false:=by simpa using g1
      by_cases g2:r.vars<=n
      ·have UJ:decide (r.vars<=n)=true:=by simpa using g2
       have e:=bad (by rw[decide_eq_false (by omega: ¬n<r.vars)];simp)
       refine VS g1' UJ ?_
       rw[e]
      have UJ:decide (r.vars<=n)=false:=by simpa using g2
      by_cases g3:0<fL (du 1 r.ax) n
      ·have UL:decide (0<fL (du 1 r.ax) n)=true:=by simpa using g3
       have e:=bad (by rw[decide_eq_false (by omega: ¬fL (du 1 r.ax) n<=0)];simp)
       refine VQ g1' UJ UL ?_
       rw[e]
      have UL:decide (0<fL (du 1 r.ax) n)=false:=by simpa using g3
      have e2:(decide (k<=1)&&decide (n<r.vars)&&decide (fL (du 1 r.ax) n<=0))=true:=by
       simp;omega
      rw[e2,Bool.true_and]at hC
      refine VQ g1' UJ UL ?_
      refine aq (rest.eraseIdx i,some (.int .i64 n,D.i k)) hC nb (bC.bB _ (show 0<=74 from ah) ah eL (fun j hj=>by first|(rw[fZ];done)|(repeat(first|rfl|rw[ae]|rw[ai _ _ _ _ (by omega)]))) ?_)
      exact cE
    ·have hle:=qF hm
     rw[qE (fun p=>decide (p.1<r.vars)) hm]at hB
     simp only at hB
     refine qP ?_
     refine aj (fun h3=> ?_) (fun h3=> ?_)
     ·have e:eA s r=false:=by
       have e2:decide (n<r.vars)=false:=by
        simp at h3|-;omega
       rw[hR,hB,e2];simp
      exact WK
     ·have e2:decide (n<r.vars)=true:=by
       simp at h3|-;omega
      rw[e2,Bool.true_and]at hB
      refine br ?_
      refine aq (rest.eraseIdx i,some (.int .i64 n,D.i k)) hB nb (bC.bB _ (show 0<=70 from ah) ah eL (fun j hj=>by first|(rw[fZ];done)|(repeat(first|rfl|rw[ae]|rw[ai _ _ _ _ (by omega)]))) ?_)
      exact cE
   ·have hle:=qF hm
    rw[qE (fun p=>decide (p.2<=1)&&decide (p.1<r.vars)) hm]at hA
    simp only at hA
    refine qP ?_
    refine aj (fun h3=> ?_) (fun h3=> ?_)
    ·have e:eA s r=false:=by
      have e2:(decide (k<=1)&&decide (n<r.vars))=false:=by
       simp at h3|-;omega
      rw[hR,hA,e2];simp
     exact WK
    ·have e2:(decide (k<=1)&&decide (n<r.vars))=true:=by
      simp at h3|-;omega
     rw[e2,Bool.true_and]at hA
     refine br ?_
     refine aq (rest.eraseIdx i,some (.int .i64 n,D.i k)) hA nb (bC.bB _ (show 0<=63 from ah) ah eL (fun j hj=>by first|rw[fZ]|(repeat(first|rfl|rw[ae]|rw[ai _ _ _ _ (by omega)]))) ?_)
     exact cE
def vf{σ α:Type}(step:σ->α->σ×Bool):σ->List α->Int->Int
 |_,[],_=> -1
 |s,x::l,k=>if(step s x).2=true then vf step (step s x).1 l (k+1)else k
theorem Ez{σ α:Type}(step:σ->α->σ×Bool):∀ (l:List α) (s:σ) (k:Int),0<=k->(0<=vf step s l k↔(aw step s l).2=false)
 |[],_,_,_=>by simp[vf,aw]
 |x::l,s,k,hk=>by
  have ih:=Ez step l (step s x).1 (k+1) ah
  by_cases h:(step s x).2=true
  ·simp only[vf,aw,h,if_true];exact ih
  ·simp[vf,aw,h,hk]
theorem TY{σ:Type}(l:List Rl)(hl:l.length<=9223372036854775807)(g:Nat)(aV:List V)(base:Nat)(H:σ->Nat->ab)(step:σ->Rl->σ×Bool)(hc:∀r∈V.aL aV,r<base)(ok:σ->Prop)(aZ:∀x∈l,∀s,ok s->(step s x).2=true->ok (step s x).1)
 (h:∀x∈l,∀s,ok s->j7 Tryz.prog g (.d x.d::aV) base (H s) (H (step s x).1) (.d (.bool (!(step s x).2)))) (s:σ) (jb:ok s):
 j7 Tryz.prog 158 [.d (.sl (l.map Rl.d)), .func (.func g) [] aV] base (H s) (H (aw step s l).1) (.d (.i (vf step s l 0))):=by
 intro o nx hI K X hK
 have kp:∀r∈V.aL aV,r<nx:=fun r hr=>Nat.lt_of_lt_of_le (hc r hr) hI.le
 refine de.aH mix PO aI ?_
 rw[Te]
 refine cj ?_
 refine aE (fun i:Nat×σ×(Nat->ab)×Nat=>⟨ba [.d (.sl (l.map Rl.d)), .func (.func g) [] aV, .aa, .aa, .aa, .aa, .aa, .d (.i l.length), .d (.i i.1)],i.2.2.1,i.2.2.2⟩)
  (fun i=>i.1<=l.length/\cI base (H i.2.1) i.2.2.1 i.2.2.2/\nx<=i.2.2.2/\(∀id,base<=id->id<nx->i.2.2.1 id=o id)/\aw step s l=aw step i.2.1 (l.drop i.1)/\ok i.2.1/\vf step s l 0=vf step i.2.1 (l.drop i.1) i.1) (fun i=>l.length - i.1) (0,s,o,nx)
  ⟨Nat.zero_le _,hI,Nat.le_refl _,fun _ _ _=>rfl,rfl,jb,rfl⟩ ?_ ?_
 ·exact Lx
 rintro⟨k,s',o',nx'⟩ ⟨hk,uQ,hn,cO,hf,iS,y9⟩
 simp only at hk uQ hn cO hf iS y9
 refine cj ?_
 refine aj (fun h1=> ?_) (fun h1=> ?_)
 ·simp at h1
  obtain⟨x,hx⟩:=az h1
  have eg:=List.mem_of_getElem? hx
  have hd:l.drop k=x::l.drop (k+1):=by
   exact WI
  rw[hd]at hf y9
  simp only[aw,vf]at hf y9
  refine Lk hx ?_
  refine fG (h x eg s' iS _ _ (uQ.mono ah) _ _ fun o2 n2 m1 m2 m3=> ?_)
  cases hb:(step s' x).2 with
  |true=>
   rw[hb]at hf y9
   simp only[if_true]at hf y9
   refine br ?_
   have Jt:∀r∈V.aL aV,r<n2+1+1:=fun r hr=>by have:=kp r hr;omega
   exact zw6
  |false=>
   exact W7
 ·exact N5
theorem A5{σ:Type}(l:List Rl)(hl:l.length<=9223372036854775807)(g:Nat)(aV:List V)(base:Nat)(H:σ->Nat->ab)(step:σ->Rl->σ×Bool)(hc:∀r∈V.aL aV,r<base)(ok:σ->Prop)(aZ:∀x∈l,∀s,ok s->(step s x).2=true->ok (step s x).1)
 (h:∀x∈l,∀s,ok s->j7 Tryz.prog g (.d x.d::aV) base (H s) (H (step s x).1) (.d (.bool (!(step s x).2)))) (s:σ) (jb:ok s):
 j7 Tryz.prog 129 [.d (.sl (l.map Rl.d)), .func (.func g) [] aV] base (H s) (H (aw step s l).1) (.d (.bool (!(aw step s l).2))):=by
 intro o nx hI K X hK
 have kp:∀r∈V.aL aV,r<nx:=fun r hr=>Nat.lt_of_lt_of_le (hc r hr) hI.le
 refine de.aH mix PD aI ?_
 rw[S3]
 refine qP ?_
 refine bA (TY l hl g aV base H step hc ok aZ h s jb _ _ ?_ _ _ fun o2 n2 m1 m2 m3=> ?_)
 ·exact hI.mono ah
 refine qP ?_
 have e:decide (0<=vf step s l 0)= !(aw step s l).2:=by
  have:=Ez step l s 0 ah
  exact Ol
 rw[e]
 exact Wz
theorem aaE{x:Rl}{g:Nat}{aV:List V}{base c bx:Nat}{h h2 O:Nat->ab}{r:Bool}(hS:j7 Tryz.prog g (.d x.d::aV) base h h2 (.d (.bool r)))(hb:base<=bx)(VD:bx<c)(hO:O bx= .row [.func (.func g) [] aV])(hc:∀r∈V.aL aV,r<base):
 j7 Tryz.prog 130 [.d x.d, .ptr bx 0] c (ext base h O) (ext base h2 O) (.d (.bool (!r))):=by
 intro o nx hI K X hK
 have hle:=hI.le
 have kp:∀r∈V.aL aV,r<nx:=fun r hr=>by have:=hc r hr;omega
 have ho:o bx= .row [.func (.func g) [] aV]:=by
  rw[hI.eq bx VD];unfold ext;rw[if_neg (by omega),hO]
 have y1:∀k,bx≠nx+k:=fun k=>ah
 have y2:bx≠nx:=ah
 refine de.aH mix PE aI ?_
 rw[S4]
 refine QG ho y1 y2 ?_
 refine fG ((hS.ext (by omega:base<=c) O) _ _ ?_ _ _ fun o2 n2 m1 m2 m3=> ?_)
 ·exact hI.aF ah ah ah rfl
 refine qP ?_
 exact Wb
theorem Gs{σ:Type}(l:List Rl)(hl:l.length<=9223372036854775807)(g:Nat)(aV:List V)(base:Nat)(H:σ->Nat->ab)(step:σ->Rl->σ×Bool)(hc:∀r∈V.aL aV,r<base)(ok:σ->Prop)(aZ:∀x∈l,∀s,ok s->(step s x).2=true->ok (step s x).1)
 (h:∀x∈l,∀s,ok s->j7 Tryz.prog g (.d x.d::aV) base (H s) (H (step s x).1) (.d (.bool (step s x).2))) (s:σ) (jb:ok s):
 j7 Tryz.prog 98 [.d (.sl (l.map Rl.d)), .func (.func g) [] aV] base (H s) (H (aw step s l).1) (.d (.bool (aw step s l).2)):=by
 intro o nx hI K X hK
 have hle:=hI.le
 have kp:∀r∈V.aL aV,r<nx:=fun r hr=>Nat.lt_of_lt_of_le (hc r hr) hI.le
 refine de.aH mix Y2 aI ?_
 rw[c98]
 refine qP ?_
 refine bA (A5 l hl 130 [.ptr nx 0] (nx+1) (fun s=>ext base (H s) (aF o nx (.row [.func (.func g) [] aV]))) step oq ok aZ (fun x hx s hs=>aaE (h x hx s hs) hle ah (ae _ _ _) hc) s jb _ _ ?_ _ _ fun o2 n2 m1 m2 m3=> ?_)
 ·have hr:(ab.row [V.func (.func g) [] aV]).refs.all (fun r=>decide (r<nx+4))=true:=by
   rw[List.all_eq_true]
   intro r hr
   have h1:r∈V.aL aV:=by simpa[ab.refs,V.aL,V.refs]using hr
   have:=kp r h1
   simp;omega
  exact NN
 refine qP ?_
 refine hK _ _ ah ⟨(m2.mono ah).bD,by have:=m2.le;omega,fun id au=> ?_⟩ fun id i1 i2=> ?_
 ·exact Hg
 ·exact Wq
theorem yj(l:List Rl)(hl:l.length<=9223372036854775807)(g:Nat)(aV:List V)(base:Nat)(h:Nat->ab)(p:Rl->Bool)(hc:∀r∈V.aL aV,r<base)
 (hp:∀x∈l,j7 Tryz.prog g (.d x.d::aV) base h h (.d (.bool (p x)))):j7 Tryz.prog 98 [.d (.sl (l.map Rl.d)), .func (.func g) [] aV] base h h (.d (.bool (l.all p))):=by
 have:=Gs l hl g aV base (fun _:Unit=>h) (fun _ x=>((),p x)) hc (fun _=>True) (fun _ _ _ _ _=>trivial) (fun x hx _ _=>hp x hx) () trivial
 exact HD
structure Pg where
 sig:aS
 rules:List Rl
@[reducible] def Pg.row (p:Pg):List V:=[.d (.sl (p.sig.cons.map iu.d)), .d (.sl (p.sig.bH.map iu.d)), .d (.sl (p.rules.map Rl.d))]
@[reducible] def Pg.d (p:Pg):D:= .agg [.sl (p.sig.cons.map iu.d), .sl (p.sig.bH.map iu.d), .sl (p.rules.map Rl.d)]
structure Pg.Fin (p:Pg):Prop where
 sig:p.sig.Fits
 len:p.rules.length<=9223372036854775807
 all:∀r∈p.rules,r.Fin
def pA(p:Pg):Bool:=decide (p.rules.length<=16)&&(iG p.sig&&p.rules.all (eA p.sig))
theorem Gt(p:Pg)(hp:p.Fin)(r:Rl)(hr:r∈p.rules)(base sp:Nat)(h:Nat->ab)(G0:h sp= .row p.row)(hb:sp<base):j7 Tryz.prog 99 [.d r.d, .ptr sp 0] base h h (.d (.bool (eA p.sig r))):=by
 intro o nx hI K X hK
 have hle:=hI.le
 have hg:=hI.bD
 have q0:o sp= .row p.row:=by rw[hI.eq sp hb,G0]
 refine de.aH mix Y3 aI ?_
 rw[c99]
 refine gk q0 ?_
 refine aB (M4 p.sig hp.sig r (hp.all r hr)) rfl ?_
 exact WR
theorem JN(p:Pg)(hp:p.Fin):aW Tryz.prog 71 [p.d] (.ret [.bool (pA p)]):=by
 have hl:=hp.len
 refine aW.aH mix YW aI ?_
 rw[c71]
 unfold pA
 by_cases h0: ¬p.rules.length<=16
 ·have RA:decide ((p.rules.length:Int)<=16)=false:=by simp;omega
  have TZ:decide (p.rules.length<=16)=false:=by simp;omega
  refine lM RA ?_
  rw[TZ];rfl
 have RA:decide ((p.rules.length:Int)<=16)=true:=by simp;omega
 have TZ:decide (p.rules.length<=16)=true:=by simp;omega
 rw[TZ,Bool.true_and]
 refine lM RA ?_
 refine aB (tY p.sig hp.sig) rfl ?_
 cases h1:iG p.sig with
 |false=>
  refine BP ?_
  try simp
 |true=>
  refine BP ?_
  refine bA (yj p.rules hl 99 [.ptr 0 0] 1 (aF (fun _=> .no) 0 (.row p.row)) (eA p.sig) oq (fun x hx=>Gt p hp x hx 1 0 _ (ae _ _ _) ah) _ _ ⟨eL,ah,fun id au=>rfl⟩ _ _ fun o2 n2 m1 m2 m3=> ?_)
  refine br ?_
  try simp
theorem JO(p:Pg)(hp:p.Fin):aW Tryz.prog 40 [p.d] (.ret [.i (nq (pA p))]):=by
 refine aW.aH mix YS aI ?_
 rw[c40]
 refine br ?_
 refine aB (JN p hp) rfl ?_
 cases h1:pA p with
 |false=>exact Hd
 |true=>exact Hd
def jr(op v:Int)(xs:List Tm):Nat:=xs.countP fun x=>x.op==op&&x.n==v
theorem EA:∀ (m:List (Int×Int)) (v w u:Int),lk (jW m v w) u=if v=u then some w else lk m u
 |[],v,w,u=>by simp only[jW,lk]
 |p::m,v,w,u=>by
  have ih:=EA m v w u
  unfold jW
  by_cases h:p.1=v
  ·rw[if_pos h]
   simp only[lk]
   by_cases h2:v=u
   ·simp[h2]
   ·have: ¬p.1=u:=by rw[h];exact h2
    simp[h2,this]
  ·rw[if_neg h]
   simp only[lk]
   by_cases h2:p.1=u
   ·have: ¬v=u:=by intro e;exact h (h2.trans e.symm)
    simp[h2,this]
   ·simp only[h2,if_false];exact ih
theorem A6:∀ (m:List (Int×Int)) (v w u:Int),u∈(jW m v w).map (·.1)↔u=v\/u∈m.map (·.1)
 |[],v,w,u=>by simp[jW]
 |p::m,v,w,u=>by
  have ih:=A6 m v w u
  unfold jW
  by_cases h:p.1=v
  ·rw[if_pos h];simp[h]
  ·rw[if_neg h,List.map_cons,List.mem_cons,ih,List.map_cons,List.mem_cons]
   constructor
   ·rintro(h1|h1|h1)<;>simp[h1]
   ·rintro(h1|h1|h1)<;>simp[h1]
theorem wL:∀ (m:List (Int×Int)) (v w:Int),qB m->qB (jW m v w)
 |[],v,w,_=>by simp[jW,qB]
 |p::m,v,w,hk=>by
  have K8:p.1∉m.map (·.1)/\qB m:=by
   unfold qB at hk|-
   rwa [List.map_cons,List.nodup_cons]at hk
  have ih:=wL m v w K8.2
  unfold jW
  by_cases h:p.1=v
  ·rw[if_pos h]
   unfold qB
   rw[List.map_cons,List.nodup_cons]
   exact⟨by rw[<- h];exact K8.1,K8.2⟩
  ·rw[if_neg h]
   unfold qB
   rw[List.map_cons,List.nodup_cons]
   exact⟨fun hm=>by
    rcases(A6 m v w p.1).1 hm with e|e
    ·exact h e
    ·exact K8.1 e,ih⟩
theorem C4(op:Int):∀ (xs:List Tm) (m:List (Int×Int)) (c:Int->Nat),qB m->(∀v,lk m v=if c v=0 then none else some (c v:Int))->(∀v,c v+xs.length<=1000000)->
 qB (xs.foldl (dt op) m)/\∀v,lk (xs.foldl (dt op) m) v=if c v+jr op v xs=0 then none else some ((c v+jr op v xs:Nat):Int)
 |[],m,c,hk,hl,_=>⟨hk,fun v=>by rw[List.foldl_nil,hl v];rfl⟩
 |x::xs,m,c,hk,hl,hb=>by
  simp only[List.foldl_cons]
  by_cases h:x.op=op
  ·have hg:fL m x.n=(c x.n:Int):=by
    unfold fL;rw[hl];split
    ·next h0=>rw[h0];rfl
    ·rfl
   have RF:=hb x.n
   simp only[List.length_cons]at RF hb
   have e1:dt op m x=jW m x.n ((c x.n+1:Nat):Int):=by
    unfold dt rY
    rw[if_pos h,hg,wrap64 (by omega) (by omega)]
    push_cast;rfl
   rw[e1]
   have ih:=C4 op xs (jW m x.n ((c x.n+1:Nat):Int)) (fun v=>c v+if x.n=v then 1 else 0) (wL _ _ _ hk) (fun v=>by
    rw[EA]
    by_cases e:x.n=v
    ·subst e;simp
    ·simp[e,hl v]) (fun v=>by have:=hb v;split<;>omega)
   refine⟨ih.1,fun v=> ?_⟩
   rw[ih.2 v]
   have e2:(c v+if x.n=v then 1 else 0)+jr op v xs=c v+jr op v (x::xs):=by
    unfold jr
    rw[List.countP_cons]
    by_cases e:x.n=v<;>simp[h,e]<;>omega
   rw[e2]
  ·have e1:dt op m x=m:=by unfold dt;rw[if_neg h]
   rw[e1]
   have ih:=C4 op xs m c hk hl (fun v=>by have:=hb v;simp at this;omega)
   refine⟨ih.1,fun v=> ?_⟩
   rw[ih.2 v]
   have e2:jr op v (x::xs)=jr op v xs:=by
    unfold jr
    rw[List.countP_cons];simp[h]
   rw[e2]
def m6(l:List Tm):List Tm:=l.flatMap fM
theorem EB(op:Int)(l:List Tm)(hb:(m6 l).length<=1000000):qB (du op l)/\∀v,lk (du op l) v=if jr op v (m6 l)=0 then none else some (jr op v (m6 l):Int):=by
 have:=C4 op (m6 l) [] (fun _=>0) List.nodup_nil (fun v=>by simp[lk]) (fun v=>by simpa using hb)
 refine⟨this.1,fun v=> ?_⟩
 have h:=this.2 v
 rw[Nat.zero_add]at h
 exact h
theorem A7(op:Int)(l:List Tm)(hb:(m6 l).length<=1000000)(v:Int):fL (du op l) v=(jr op v (m6 l):Int):=by
 unfold fL
 rw[(EB op l hb).2 v]
 split
 ·next h=>rw[h];rfl
 ·rfl
theorem ud(op:Int)(l:List Tm)(hb:(m6 l).length<=1000000)(p:Int×Int->Bool):(du op l).all p=true↔∀v,0<jr op v (m6 l)->p (v,(jr op v (m6 l):Int))=true:=by
 obtain⟨hk,hl⟩:=EB op l hb
 rw[List.all_eq_true]
 constructor
 ·intro h v hv
  refine h _ ((Ex hk).1 ?_)
  rw[hl v,if_neg (by omega)]
 ·rintro h ⟨v,c⟩ hm
  have h1:=(Ex hk).2 hm
  rw[hl v]at h1
  split at h1
  ·cases h1
  ·next h0=>
   injection h1 with h1
   have:=h v ah
   rw[h1]at this
   exact this
theorem M5(m:List (Int×Int)):∀ (t:Tm) (m5:List Int),yh m t m5=true↔∀v,fN v t=true->fL m v=0\/v∈m5:=by
 refine Tm.cl fun t ih m5=> ?_
 have key:∀ (l:List Tm) (i:Nat),(∀k∈l,k∈t.kids)->(pz m t.op t.n l i m5=true↔∀v,oe v t.op t.n l i=true->fL m v=0\/v∈m5):=by
  intro l
  induction l with
  |nil=>intro i _;simp[pz,oe]
  |cons k l tT=>
   intro i hk
   have h1:=ih k (hk k aI) (if t.op=8/\i=1 then m5++[t.n]else m5)
   have h2:=tT (i+1) (fun x hx=>hk x ng)
   simp only[pz,oe,Bool.and_eq_true,h1,h2,Bool.or_eq_true]
   by_cases hc:t.op=8/\i=1
   ·simp only[hc,and_self,if_true,List.mem_append,List.mem_singleton]
    constructor
    ·rintro⟨a,b⟩ v (⟨c,d⟩|c)
     ·rcases a v c with e|e|e
      ·exact .inl e
      ·exact .inr e
      ·subst e;simp at d
     ·exact b v c
    ·intro a
     refine⟨fun v c=> ?_,fun v c=>a v (.inr c)⟩
     by_cases e:v=t.n
     ·exact .inr (.inr e)
     ·rcases a v (.inl ⟨c,by simp;exact fun e2=>e e2.symm⟩)with g|g
      ·exact .inl g
      ·exact .inr (.inl g)
   ·have hb:(t.op==8&&i==1)=false:=by
     cases h:(t.op==8&&i==1)with
     |false=>rfl
     |true=>simp at h;exact absurd h hc
    simp only[hc,if_false,hb,Bool.false_and,Bool.not_false,and_true]
    constructor
    ·rintro⟨a,b⟩ v (c|c)
     ·exact a v c
     ·exact b v c
    ·intro a
     exact⟨fun v c=>a v (.inl c),fun v c=>a v (.inr c)⟩
 rw[Ey]
 by_cases h:t.op=1
 ·rw[if_pos h]
  simp only[lr,h,if_true]
  simp
 ·rw[if_neg h,key t.kids 0 (fun _ h=>h)]
  simp only[lr,h,if_false]
theorem Gu(s:aS)(r:Rl)(h1:(m6 r.ax).length<=1000000)(h2:(m6 [r.rhs]).length<=1000000):eA s r=true↔lB s r=true/\
 (∀v,0<jr 1 v (m6 r.ax)->jr 1 v (m6 r.ax)<=1/\v<r.vars)/\(∀v,0<jr 1 v (m6 [r.rhs])->v<r.vars)/\
 (∀v,0<jr 8 v (m6 [r.rhs])->jr 8 v (m6 [r.rhs])<=1/\v<r.vars/\jr 1 v (m6 r.ax)=0)/\(∀v,fN v r.rhs=true->jr 8 v (m6 [r.rhs])=0):=by
 unfold eA
 simp only[Bool.and_eq_true,ud 1 r.ax h1,ud 1 [r.rhs] h2,ud 8 [r.rhs] h2,M5,A7 1 r.ax h1,A7 8 [r.rhs] h2,decide_eq_true_eq]
 constructor
 ·rintro⟨⟨⟨⟨a,b⟩,c⟩,d⟩,e⟩
  refine⟨a,fun v hv=> ?_,c,fun v hv=> ?_,fun v hv=> ?_⟩
  ·have:=b v hv;omega
  ·have:=d v hv;omega
  ·rcases e v hv with g|g
   ·omega
   ·cases g
 ·rintro⟨a,b,c,d,e⟩
  refine⟨⟨⟨⟨a,fun v hv=> ?_⟩,c⟩,fun v hv=> ?_⟩,fun v hv=> .inl ?_⟩
  ·have:=b v hv;omega
  ·have:=d v hv;omega
  ·have:=e v hv;omega
def jk:List Int->Int->List Int
 |[],n=>[n]
 |x::l,n=>if x<n then x::jk l n else if x=n then x::l else n::x::l
def lu(op n:Int)(i:Nat)(l out:List Int):List Int:=l.foldl (fun out v=>if(op !=8||(i:Int)!=1||v !=n)=true then jk out v else out) out
mutual
def bN:Tm->List Int
 | .mk op n kids=>if op=1 then [n]else iw op n kids 0 []
def iw(op n:Int):List Tm->Nat->List Int->List Int
 |[],_,out=>out
 |k::l,i,out=>iw op n l (i+1) (lu op n i (bN k) out)
end
theorem mH(t:Tm):bN t=if t.op=1 then [t.n]else iw t.op t.n t.kids 0 []:=by cases t;rfl
theorem pB:∀ (l:List Int) (n v:Int),v∈jk l n↔v∈l\/v=n
 |[],n,v=>by simp[jk]
 |x::l,n,v=>by
  simp only[jk]
  split
  ·simp only[List.mem_cons,pB l n v];constructor
   ·rintro(h|h|h)
    ·exact .inl (.inl h)
    ·exact .inl (.inr h)
    ·exact .inr h
   ·rintro((h|h)|h)
    ·exact .inl h
    ·exact .inr (.inl h)
    ·exact .inr (.inr h)
  ·split
   ·rename_i h;subst h;simp only[List.mem_cons];constructor
    ·exact .inl
    ·rintro(h|h)
     ·exact h
     ·exact .inl h
   ·simp only[List.mem_cons];constructor
    ·rintro(h|h)
     ·exact .inr h
     ·exact .inl h
    ·rintro(h|h)
     ·exact .inr h
     ·exact .inl h
abbrev Lh(l:List Int):Prop:=l.Pairwise (· <·)
theorem A8:∀ {l:List Int} (n:Int),Lh l->Lh (jk l n)
 |[],n,_=>by simp[jk]
 |x::l,n,h=>by
  have h1:=List.pairwise_cons.1 h
  simp only[jk]
  split
  ·rename_i hx
   refine List.pairwise_cons.2 ⟨fun y hy=> ?_,A8 n h1.2⟩
   rcases(pB l n y).1 hy with hy|hy
   ·exact h1.1 y hy
   ·omega
  ·split
   ·exact h
   ·refine List.pairwise_cons.2 ⟨fun y hy=> ?_,h⟩
    rcases List.mem_cons.1 hy with hy|hy
    ·omega
    ·have:=h1.1 y hy;omega
theorem qG(op n:Int)(i:Nat):∀ (l out:List Int),Lh out->Lh (lu op n i l out)/\∀v,v∈lu op n i l out↔v∈out\/(v∈l/\ ¬ (op=8/\i=1/\n=v))
 |[],out,h=>⟨h,fun v=>by simp[lu]⟩
 |x::l,out,h=>by
  have hk:lu op n i (x::l) out=lu op n i l (if(op !=8||(i:Int)!=1||x !=n)=true then jk out x else out):=rfl
  rw[hk]
  by_cases hc:(op !=8||(i:Int)!=1||x !=n)=true
  ·rw[if_pos hc]
   have ih:=qG op n i l (jk out x) (A8 x h)
   refine⟨ih.1,fun v=> ?_⟩
   rw[ih.2 v,pB,List.mem_cons]
   have sV: ¬ (op=8/\i=1/\n=x):=by
    rintro⟨h1,h2,h3⟩;subst h1;subst h2;subst h3;simp at hc
   constructor
   ·rintro((h|h)|h)
    ·exact .inl h
    ·subst h;exact .inr ⟨.inl rfl,sV⟩
    ·exact .inr ⟨.inr h.1,h.2⟩
   ·rintro(h|⟨h|h,h2⟩)
    ·exact .inl (.inl h)
    ·exact .inl (.inr h)
    ·exact .inr ⟨h,h2⟩
  ·rw[if_neg hc]
   have ih:=qG op n i l out h
   refine⟨ih.1,fun v=> ?_⟩
   rw[ih.2 v,List.mem_cons]
   have sV:op=8/\i=1/\n=x:=by simp at hc;exact⟨hc.1.1,ah,hc.2.symm⟩
   constructor
   ·rintro(h|h)
    ·exact .inl h
    ·exact .inr ⟨.inr h.1,h.2⟩
   ·rintro(h|⟨h|h,h2⟩)
    ·exact .inl h
    ·subst h;exact absurd sV h2
    ·exact .inr ⟨h,h2⟩
theorem jl:∀t:Tm,Lh (bN t)/\∀v,v∈bN t↔fN v t=true:=by
 refine Tm.cl fun t ih=> ?_
 have hs:∀ (l:List Tm) (i:Nat) (out:List Int),(∀k∈l,k∈t.kids)->Lh out->Lh (iw t.op t.n l i out)/\∀v,v∈iw t.op t.n l i out↔v∈out\/oe v t.op t.n l i=true:=by
  intro l
  induction l with
  |nil=>intro i out _ h;exact⟨h,fun v=>by simp[iw,oe]⟩
  |cons k l tT=>
   intro i out hk h
   have h1:=ih k (hk k aI)
   have h2:=qG t.op t.n i (bN k) out h
   have h3:=tT (i+1) _ (fun x hx=>hk x ng) h2.1
   refine⟨h3.1,fun v=> ?_⟩
   show v∈iw t.op t.n l (i+1) (lu t.op t.n i (bN k) out)↔_
   rw[h3.2 v,h2.2 v,h1.2 v,oe]
   simp only[Bool.or_eq_true,Bool.and_eq_true,Bool.not_eq_true',Bool.and_eq_false_iff,beq_eq_false_iff_ne,ne_eq,not_and]
   have:(∀ (_:t.op=8) (_:i=1), ¬t.n=v)↔((¬t.op=8\/ ¬i=1)\/ ¬t.n=v):=by
    constructor
    ·intro h
     by_cases c1:t.op=8
     ·by_cases c2:i=1
      ·exact .inr (h c1 c2)
      ·exact .inl (.inr c2)
     ·exact .inl (.inl c1)
    ·rintro((h|h)|h) c1 c2
     ·exact absurd c1 h
     ·exact absurd c2 h
     ·exact h
   rw[this]
   constructor
   ·rintro((h|h)|h)
    ·exact .inl h
    ·exact .inr (.inl h)
    ·exact .inr (.inr h)
   ·rintro(h|h|h)
    ·exact .inl (.inl h)
    ·exact .inl (.inr h)
    ·exact .inr h
 by_cases h1:t.op=1
 ·rw[mH,if_pos h1]
  refine⟨aI,fun v=> ?_⟩
  rw[lr,if_pos h1]
  simp only[List.mem_singleton,beq_iff_eq]
  exact eq_comm
 ·rw[mH,if_neg h1]
  have:=hs t.kids 0 [] (fun _ h=>h) aI
  refine⟨this.1,fun v=> ?_⟩
  rw[this.2 v,lr,if_neg h1]
  simp
theorem ue:∀ (l:List Int) (n:Int),(jk l n).length<=l.length+1
 |[],n=>by simp[jk]
 |x::l,n=>by
  have:=ue l n
  simp only[jk]
  split
  ·simp;omega
  ·split<;>simp
theorem mI(op n:Int)(i:Nat):∀ (l out:List Int),(lu op n i l out).length<=out.length+l.length
 |[],out=>by simp[lu]
 |x::l,out=>by
  have hk:lu op n i (x::l) out=lu op n i l (if(op !=8||(i:Int)!=1||x !=n)=true then jk out x else out):=rfl
  rw[hk]
  have h1:=ue out x
  split
  ·have:=mI op n i l (jk out x);simp;omega
  ·have:=mI op n i l out;simp;omega
theorem kG:∀t:Tm,(bN t).length<=t.sz:=by
 refine Tm.cl fun t ih=> ?_
 have hs:∀ (l:List Tm) (i:Nat) (out:List Int),(∀k∈l,k∈t.kids)->(iw t.op t.n l i out).length<=out.length+eC l:=by
  intro l
  induction l with
  |nil=>intro i out _;simp[iw]
  |cons k l tT=>
   intro i out hk
   have h1:=ih k (hk k aI)
   have h2:=mI t.op t.n i (bN k) out
   have h3:=tT (i+1) (lu t.op t.n i (bN k) out) (fun x hx=>hk x ng)
   rw[ez]
   show(iw t.op t.n l (i+1) (lu t.op t.n i (bN k) out)).length<=_
   omega
 rw[mH,Tm.gv]
 split
 ·simp
 ·have:=hs t.kids 0 [] (fun _ h=>h);simp at this;omega
theorem M6(t:Tm):m6 [t]=fM t:=by simp[m6]
theorem A9(op v:Int)(x:Tm)(l:List Tm):jr op v (x::l)=jr op v l+if x.op=op/\x.n=v then 1 else 0:=by
 unfold jr
 rw[List.countP_cons]
 by_cases h:x.op=op/\x.n=v
 ·simp[h]
 ·rw[if_neg h,if_neg (by simpa using h)]
theorem C5(op v:Int)(a b:List Tm):jr op v (a++b)=jr op v a+jr op v b:=by unfold jr;rw[List.countP_append]
theorem jK(op v:Int)(l:List Tm):0<jr op v l↔∃x∈l,x.op=op/\x.n=v:=by
 unfold jr
 rw[List.countP_pos_iff]
 simp
mutual
def dv:Tm->List Int
 | .mk op n kids=>(if op=8 then [n]else [])++cD kids
def cD:List Tm->List Int
 |[]=>[]
 |k::l=>dv k++cD l
end
theorem qH(t:Tm):dv t=(if t.op=8 then [t.n]else [])++cD t.kids:=by cases t;rw[dv];rfl
theorem mJ:∀ (t:Tm) (v:Int),(dv t).count v=jr 8 v (fM t):=by
 refine Tm.cl fun t ih v=> ?_
 have key:∀l:List Tm,(∀k∈l,k∈t.kids)->(cD l).count v=jr 8 v (l.flatMap fM):=by
  intro l
  induction l with
  |nil=>intro _;rfl
  |cons k l tT=>
   intro hk
   rw[cD,List.count_append,ih k (hk k (by simp)) v,tT (fun x hx=>hk x (by simp[hx])),List.flatMap_cons,C5]
 rw[qH,List.count_append,key t.kids (fun _ h=>h),lj,A9]
 by_cases h:t.op=8
 ·by_cases h2:t.n=v
  ·simp[h,h2];omega
  ·simp[h,h2]
 ·simp[h]
theorem wM(t:Tm)(v:Int):v∈dv t↔0<jr 8 v (fM t):=by
 rw[<- mJ,List.count_pos_iff]
mutual
def ed(n:Int):Tm->Bool
 | .mk op k kids=>hZ n kids&&((op !=1&&op !=8)||decide (k<n))
def hZ(n:Int):List Tm->Bool
 |[]=>true
 |k::l=>ed n k&&hZ n l
end
theorem uf(n:Int)(t:Tm):ed n t=(hZ n t.kids&&((t.op !=1&&t.op !=8)||decide (t.n<n))):=by cases t;rw[ed];rfl
theorem C6(n:Int):∀t:Tm,ed n t=true↔∀x∈fM t,x.op=1\/x.op=8->x.n<n:=by
 refine Tm.cl fun t ih=> ?_
 have key:∀l:List Tm,(∀k∈l,k∈t.kids)->(hZ n l=true↔∀x∈l.flatMap fM,x.op=1\/x.op=8->x.n<n):=by
  intro l
  induction l with
  |nil=>intro _;simp[hZ]
  |cons k l tT=>
   intro hk
   rw[hZ,Bool.and_eq_true,ih k (hk k (by simp)),tT (fun x hx=>hk x (by simp[hx])),List.flatMap_cons]
   simp only[List.mem_append]
   constructor
   ·rintro⟨a,b⟩ x (h|h)
    ·exact a x h
    ·exact b x h
   ·intro a
    exact⟨fun x h=>a x (.inl h),fun x h=>a x (.inr h)⟩
 rw[uf,Bool.and_eq_true,key t.kids (fun _ h=>h),lj]
 simp only[List.mem_cons,Bool.or_eq_true,Bool.and_eq_true,bne_iff_ne,decide_eq_true_eq]
 constructor
 ·rintro⟨a,b⟩ x (h|h) h2
  ·subst h
   rcases b with⟨b1,b2⟩|b
   ·rcases h2 with e|e
    ·exact absurd e b1
    ·exact absurd e b2
   ·exact b
  ·exact a x h h2
 ·intro a
  refine⟨fun x h=>a x (.inr h), ?_⟩
  by_cases h:t.op=1\/t.op=8
  ·exact .inr (a t (.inl rfl) h)
  ·exact .inl ⟨fun e=>h (.inl e),fun e=>h (.inr e)⟩
theorem C7(n:Int)(t:Tm):ed n t=true↔(∀v,0<jr 1 v (fM t)->v<n)/\∀v,0<jr 8 v (fM t)->v<n:=by
 rw[C6]
 constructor
 ·intro a
  refine⟨fun v h=> ?_,fun v h=> ?_⟩<;>(obtain⟨x,h1,h2,h3⟩:=(jK _ _ _).1 h;rw[<- h3];exact a x h1 (by simp[h2]))
 ·rintro⟨a,b⟩ x h (h2|h2)
  ·exact a _ ((jK _ _ _).2 ⟨x,h,h2,rfl⟩)
  ·exact b _ ((jK _ _ _).2 ⟨x,h,h2,rfl⟩)
def qI(t:Tm)(ax:List Int):Bool:=(dv t).all fun v=> !(decide (1<((dv t).count v:Int))||ax.contains v||(bN t).contains v)
theorem Gv(t:Tm)(ax:List Int):qI t ax=true↔∀v,0<jr 8 v (fM t)->jr 8 v (fM t)<=1/\v∉ax/\fN v t=false:=by
 unfold qI
 rw[List.all_eq_true]
 have hv:∀v,(bN t).contains v=fN v t:=fun v=>by
  rw[Bool.eq_iff_iff,List.contains_iff_mem,(jl t).2 v]
 constructor
 ·intro a v h
  have:=a v ((wM t v).2 h)
  rw[mJ,hv]at this
  simp at this
  exact⟨ah,this.1.2,this.2⟩
 ·intro a v h
  obtain⟨a1,a2,a3⟩:=a v ((wM t v).1 h)
  rw[mJ,hv,a3]
  simp
  exact⟨ah,a2⟩
theorem m7:∀ (W A:List Int),A.Nodup->(∀v,v∈A↔v∈W)->A.length<=W.length/\(A.length=W.length↔W.Nodup)
 |[],A,hA,h=>by
  have:A=[]:=List.eq_nil_iff_forall_not_mem.2 fun v hv=>by simpa using(h v).1 hv
  subst this;simp
 |x::W,A,hA,h=>by
  by_cases hx:x∈W
  ·have ih:=(m7 W A hA fun v=>by
    rw[h v,List.mem_cons]
    exact⟨fun e=>e.elim (fun e=>e ▸ hx) id, .inr⟩).1
   refine⟨by simp;omega, ?_⟩
   rw[List.length_cons,List.nodup_cons]
   exact⟨fun e=>ah,fun e=>absurd hx e.1⟩
  ·have hxA:x∈A:=(h x).2 aI
   have ih:=m7 W (A.erase x) (hA.erase x) fun v=>by
    rw[hA.mem_erase_iff,h v,List.mem_cons]
    constructor
    ·rintro⟨a,b|b⟩
     ·exact absurd b a
     ·exact b
    ·intro a
     exact⟨fun e=>hx (e ▸ a), .inr a⟩
   have hl:(A.erase x).length=A.length - 1:=List.length_erase_of_mem hxA
   have hp:0<A.length:=List.length_pos_of_mem hxA
   rw[hl]at ih
   rw[List.length_cons,List.nodup_cons]
   refine⟨ah, ?_⟩
   constructor
   ·intro e;exact⟨hx,ih.2.1 ah⟩
   ·intro e
    have:=ih.2.2 e.2
    omega
def JP(t:Tm):List Int:=((fM t).filter fun x=>x.op==1).map Tm.n
theorem ug(l:List Tm)(v:Int):((l.filter fun x=>x.op==1).map Tm.n).count v=jr 1 v l:=by
 induction l with
 |nil=>rfl
 |cons x l ih=>
  rw[A9, <- ih]
  by_cases h:x.op=1
  ·have h':(x.op==1)=true:=by simpa using h
   have e:(x::l).filter (fun x=>x.op==1)=x::l.filter (fun x=>x.op==1):=by rw[List.filter_cons,if_pos h']
   rw[e,List.map_cons,List.count_cons]
   by_cases h2:x.n=v
   ·simp[h,h2]
   ·simp[h2]
  ·have h': ¬ (x.op==1)=true:=by simpa using h
   have e:(x::l).filter (fun x=>x.op==1)=l.filter (fun x=>x.op==1):=by rw[List.filter_cons,if_neg h']
   rw[e]
   simp[h]
structure wN (t:Tm):Prop where
 once:(JP t).Nodup
 free:∀v,fN v t=true↔v∈JP t
theorem rC(t:Tm):(bN t).Nodup:=(jl t).1.imp fun {a b} h=>ah
theorem T0{t:Tm}(h:wN t):(bN t).length=(JP t).length:=
 ((m7 (JP t) (bN t) (rC t) fun v=>by rw[(jl t).2 v,h.free v]).2).2 h.once
def C8(l:List Tm):Bool:=(l.map fun t=>(bN t).length).sum==(bN (.mk 0 0 l)).length
theorem Ba(l:List Tm)(v:Int):fN v (.mk 0 0 l)=true↔∃t∈l,fN v t=true:=by
 have key:∀ (l:List Tm) (i:Nat),oe v 0 0 l i=l.any (fN v):=by
  intro l
  induction l with
  |nil=>intro i;rfl
  |cons k l ih=>intro i;simp[oe,ih]
 have e:fN v (.mk 0 0 l)=oe v 0 0 l 0:=rfl
 rw[e,key,List.any_eq_true]
theorem EC(l:List Tm)(h:∀t∈l,wN t):C8 l=true↔∀v,jr 1 v (m6 l)<=1:=by
 have hW:((m6 l).filter fun x=>x.op==1).map Tm.n=l.flatMap JP:=by
  unfold m6
  induction l with
  |nil=>rfl
  |cons t l ih=>
   rw[List.flatMap_cons,List.filter_append,List.map_append,List.flatMap_cons,ih (fun x hx=>h x (by simp[hx]))];rfl
 have hlen:(l.map fun t=>(bN t).length).sum=(l.flatMap JP).length:=by
  clear hW
  induction l with
  |nil=>rfl
  |cons t l ih=>
   rw[List.map_cons,List.sum_cons,List.flatMap_cons,List.length_append,ih (fun x hx=>h x (by simp[hx])),T0 (h t (by simp))]
 have hm:∀v,v∈bN (.mk 0 0 l)↔v∈l.flatMap JP:=fun v=>by
  rw[(jl _).2 v,Ba,List.mem_flatMap]
  constructor
  ·rintro⟨t,h1,h2⟩;exact⟨t,h1,((h t h1).free v).1 h2⟩
  ·rintro⟨t,h1,h2⟩;exact⟨t,h1,((h t h1).free v).2 h2⟩
 have hn:=(m7 (l.flatMap JP) (bN (.mk 0 0 l)) (rC _) hm).2
 unfold C8
 rw[hlen,beq_iff_eq,eq_comm,hn,List.nodup_iff_count]
 constructor
 ·intro a v;rw[<- ug,hW];exact a v
 ·intro a v;rw[<- hW,ug];exact a v
def jX(t:Tm):Bool:=t.op==1||t.op==3
mutual
def fq:Tm->Bool
 | .mk op n kids=>sA kids&&jX (.mk op n kids)
def sA:List Tm->Bool
 |[]=>true
 |k::l=>fq k&&sA l
end
theorem qJ(t:Tm):fq t=(t.kids.all fq&&jX t):=by
 have:∀l:List Tm,sA l=l.all fq:=fun l=>by
  induction l with
  |nil=>rfl
  |cons k l ih=>simp[sA,ih]
 cases t;simp only[fq,this,Tm.kids]
mutual
def fI:Tm->List Int->List Int×Bool
 | .mk op n kids,b=>if op=1 then(jk b n, !b.contains n)else ft kids b
def ft:List Tm->List Int->List Int×Bool
 |[],b=>(b,true)
 |k::l,b=>if(fI k b).2=true then ft l (fI k b).1 else((fI k b).1,false)
end
theorem pC(t:Tm)(b:List Int):fI t b=if t.op=1 then(jk b t.n, !b.contains t.n)else ft t.kids b:=by cases t;rfl
theorem Gw:∀ (t:Tm) (b:List Int),(fI t b).1.length<=b.length+t.sz:=by
 refine Tm.cl fun t ih b=> ?_
 have hs:∀ (l:List Tm) (b:List Int),(∀k∈l,k∈t.kids)->(ft l b).1.length<=b.length+eC l:=by
  intro l
  induction l with
  |nil=>intro b _;simp[ft,eC]
  |cons k l tT=>
   intro b hk
   have h1:=ih k (hk k aI) b
   have h2:=tT (fI k b).1 (fun x hx=>hk x ng)
   rw[ez]
   simp only[ft]
   split
   ·omega
   ·simp only;omega
 rw[pC,Tm.gv]
 have h3:=ue b t.n
 have h4:=hs t.kids b (fun _ h=>h)
 split
 ·simp only;omega
 ·omega
end Go.Proofs.YtnkamdiiakdkgaaGreat
