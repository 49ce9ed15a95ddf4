/-
  A PART OF THE PROOF. Conditions: none.
-/
import Derived.OrdersIn
import Derived.Test.YtealblliddhgiaaGreatCp6
set_option linter.unusedSimpArgs false
set_option linter.unusedVariables false
namespace Go.Proofs.YtealblliddhgiaaGreat
def ae.refs:ae->List Nat
 | .row cs=>V.ag cs
 | .loop _ _ env _ _ _ _ _=>V.ag env
 |_=>[]
def Ap(R:List Nat)(o:Nat->ae):Nat->ae:=fun id=>if R.contains id=true then o id else .no
def zH(P:Program)(g:FuncId)(args:List V)(rd:List Nat)(o:Nat->ae)(out:R)(Δ:List (Nat×ae)):Prop:=
 Enters P g/\∀ (o':Nat->ae) (us:Nat->Prop) (M:Nat->Prop) (φ:Place) (w:World) (vals:Array Value),(∀id∈rd,o' id=o id/\us id)->au M φ ⟨o',us⟩ w->V.aB (ai M φ ⟨o',us⟩) φ ⟨o',us⟩ w args vals.toList->
  Calls P g vals w fun e w'=>∃ax,au M ax ⟨put o' Δ,us⟩ w'/\Trans φ ⟨o',us⟩ w ax ⟨put o' Δ,us⟩ w'/\out.is (ai M ax ⟨put o' Δ,us⟩) w' e
def Aq(P:Program)(g:FuncId)(args:List V)(rd:List Nat)(o:Nat->ae)(fr:Nat)(v:V)(Δ:List (Nat×ae)):Prop:=
 Enters P g/\∀ (o':Nat->ae) (us:Nat->Prop) (M:Nat->Prop) (φ:Place) (w:World) (vals:Array Value),(∀id∈rd,o' id=o id/\us id)-> ¬us fr->au M φ ⟨o',us⟩ w->V.aB (ai M φ ⟨o',us⟩) φ ⟨o',us⟩ w args vals.toList->
  Calls P g vals w fun e w'=>∃ax,au M ax ⟨put o' Δ,fun id=>us id\/id=fr⟩ w'/\Trans φ ⟨o',us⟩ w ax ⟨put o' Δ,fun id=>us id\/id=fr⟩ w'/\∃val,e= .returned val/\V.den (ai M ax ⟨put o' Δ,fun id=>us id\/id=fr⟩) ax ⟨put o' Δ,fun id=>us id\/id=fr⟩ w' v val
mutual
theorem V.kD {B B':Nat->Prop}{φ ax:Place}{H H':Hp}{w:World}(hB:∀b, ¬B b-> ¬B' b):∀ (v:V) (val:Value),(∀id∈v.refs,H'.o id=H.o id/\ax id=φ id/\H'.us id)->V.den B φ H w v val->V.den B' ax H' w v val
 | .d x,val,_,h=>D.aC (w:=w) (w':=w) (fun b _ hn=>⟨rfl,hB b hn⟩) x val h
 | .aW,_,_,h=>h
 | .ab,_,_,_=>trivial
 | .eY,_,_,h=>h
 | .nC es,val,_,h=>⟨D.aC (w:=w) (w':=w) (fun b _ hn=>⟨rfl,hB b hn⟩) (.sl es) val h.1,h.2⟩
 | .agg cs,val,hr,h=>by
   obtain⟨a,rfl,h1,h2⟩:=h
   exact⟨a,rfl,V.fb hB cs _ (by simpa[V.refs]using hr) h1,h2⟩
 | .bW cs,val,hr,h=>by
   obtain⟨a,rfl,h1⟩:=h
   exact⟨a,rfl,V.fb hB cs _ (by simpa[V.refs]using hr) h1⟩
 | .ptr id off,val,hr,h=>by
   obtain⟨a,b,c⟩:=hr id (by simp[V.refs])
   obtain⟨h0,h1,h2⟩:=h
   refine⟨h0,c,fun a8=> ?_⟩
   rw[a]at a8
   obtain⟨x,y,z⟩:=h2 a8
   exact⟨x,b.trans y,z⟩
 | .osl id ep,val,hr,h=>by
   obtain⟨a,b,c⟩:=hr id (by simp[V.refs])
   obtain⟨h0,h1,h2⟩:=h
   refine⟨h0,c,fun e he=> ?_⟩
   rw[a]at he
   obtain⟨x,y⟩:=h2 e he
   exact⟨x,fun heq=>(y heq).trans b.symm⟩
 | .pe id ep i sz off,val,hr,h=>by
   obtain⟨a,b,c⟩:=hr id (by simp[V.refs])
   obtain⟨h0,h1,h2⟩:=h
   refine⟨h0,c,fun e he=> ?_⟩
   rw[a]at he
   obtain⟨x,y⟩:=h2 e he
   refine⟨x,fun heq=> ?_⟩
   obtain⟨p,q,r,z,u⟩:=y heq
   exact⟨p,q,r,b.trans z,u⟩
 | .pp cs off,val,_,h=>by
   obtain⟨a,ev,h1,h2,h3,h5,h4⟩:=h
   exact⟨a,ev,h1,h2,D.aI (w:=w) (w':=w) (fun b _ hn=>⟨rfl,hB b hn⟩) cs ev h3,h5,h4.mono (w:=w) (w':=w) (fun b _ hn=>⟨rfl,hB b hn⟩)⟩
 | .func fn first cap,val,hr,h=>by
   obtain⟨f,c,rfl,h1,h2⟩:=h
   exact⟨f,c,rfl,V.fb hB first _ (fun id aj=>hr id (by simp[V.refs,aj])) h1,V.fb hB cap _ (fun id aj=>hr id (by simp[V.refs,aj])) h2⟩
 | .iface t x,val,hr,h=>by
   obtain⟨u,rfl,h⟩:=h
   exact⟨u,rfl,V.kD hB x u (by simpa[V.refs]using hr) h⟩
 | .rz id off n,val,hr,h=>by
   obtain⟨a,b,c⟩:=hr id (by simp[V.refs])
   obtain⟨h0,h1,h2⟩:=h
   refine⟨h0,c,fun a8=> ?_⟩
   rw[a]at a8
   obtain⟨x,y,z⟩:=h2 a8
   exact⟨x,b.trans y,z⟩
 | .mp id,val,hr,h=>by
   obtain⟨a,b,c⟩:=hr id (by simp[V.refs])
   obtain⟨h0,h1,h2⟩:=h
   refine⟨h0,c,fun a8=> ?_⟩
   rw[a]at a8
   exact(h2 a8).trans b.symm
 | .ko id,val,hr,h=>by
   obtain⟨a,b,c⟩:=hr id (by simp[V.refs])
   obtain⟨h0,h1,h2⟩:=h
   refine⟨h0,c,fun a8=> ?_⟩
   rw[a]at a8
   obtain⟨x,y,z⟩:=h2 a8
   exact⟨x,b.trans y,z⟩
theorem V.fb {B B':Nat->Prop}{φ ax:Place}{H H':Hp}{w:World}(hB:∀b, ¬B b-> ¬B' b):∀ (vs:List V) (vals:List Value),(∀id∈V.ag vs,H'.o id=H.o id/\ax id=φ id/\H'.us id)->V.aB B φ H w vs vals->V.aB B' ax H' w vs vals
 |[],_,_,h=>h
 |v::vs,_,hr,h=>by
  obtain⟨u,us,rfl,h1,h2⟩:=h
  exact⟨u,us,rfl,V.kD hB v u (fun id aj=>hr id (by simp[V.ag,aj])) h1,V.fb hB vs us (fun id aj=>hr id (by simp[V.ag,aj])) h2⟩
end
theorem C9{env:List V}{i id:Nat}(h:id∈(bB env i).refs):id∈V.ag env:=by
 unfold bB at h
 induction env generalizing i with
 |nil=>simp[V.refs]at h
 |cons v env ih=>
  cases i with
  |zero=>simp only[List.getD_cons_zero]at h;simp[V.ag,h]
  |succ i=>simp only[List.getD_cons_succ]at h;simp[V.ag,ih h]
theorem aL.refs {M M':Nat->Prop}{φ ax:Place}{H H':Hp}{w:World}{id:Nat}(hB:∀b, ¬ai M φ H b-> ¬ai M' ax H' b)(ho:H'.o id=H.o id)(du:ax id=φ id)
 (hr:∀j∈(H.o id).refs,H'.o j=H.o j/\ax j=φ j/\H'.us j) (h:aL M φ H w id):aL M' ax H' w id:=by
 have hd:∀b,cA w b-> ¬ai M φ H b->w.heap[b]? =w.heap[b]? /\ ¬ai M' ax H' b:=fun b _ hn=>⟨rfl,hB b hn⟩
 unfold aL at*
 rw[ho]
 cases hx:H.o id with
 |no=>trivial
 |row cs=>
  simp only[hx]at h|-
  obtain⟨b,cX,ty,h1,h2,h3,h4⟩:=h
  exact⟨b,cX,ty,du.trans h1,h2,V.fb hB cs _ (fun j hj=>hr j (by rw[hx];exact hj)) h3,h4⟩
 |arr ep ty sz es=>
  simp only[hx]at h|-
  obtain⟨h0,xs,h1,evs,h2,h3,h4⟩:=h
  exact⟨h0,xs,by rw[du];exact h1,evs,h2,h3,D.aI hd es evs h4⟩
 |oh ep es=>
  simp only[hx]at h|-
  rw[du]
  exact D.aC hd (.sl es) _ h
 |map kt vt l=>
  simp only[hx]at h|-
  obtain⟨b,es,clock,h1,h2,h4,h3⟩:=h
  exact⟨b,es,clock,du.trans h1,h2,h4,aH.mono hd l _ h3⟩
 |et l=>
  simp only[hx]at h|-
  rw[du]
  exact D.aC hd (.mp _ _) _ h
 |kg l last=>
  simp only[hx]at h|-
  obtain⟨b,h1,h2⟩:=h
  exact⟨b,du.trans h1,h2.mono hd rfl⟩
 |rA s pos=>
  simp only[hx]at h|-
  obtain⟨b,h1,h2⟩:=h
  exact⟨b,du.trans h1,h2⟩
 |loop nf n env ps lS gY st CA=>
  simp only[hx]at h|-
  obtain⟨b,r,h1,h2,h0,h3,h4,h5,h6,h7,h8,h9⟩:=h
  exact⟨b,r,du.trans h1,h2,h0,h3,h4,h5,h6,h7,h8,fun i=>V.kD hB _ _ (fun j hj=>hr j (by rw[hx];exact C9 hj)) (h9 i)⟩
section
variable {P:Program}
theorem Ar{o o':Nat->ae}{Δ:List (Nat×ae)}{id:Nat}(h:o id=o' id):put o Δ id=put o' Δ id:=BB h
where BB {o o':Nat->ae}:∀ {Δ:List (Nat×ae)} {id:Nat},o id=o' id->put o Δ id=put o' Δ id
 |[],_,h=>h
 |x::Δ,id,h=>by
  simp only[put,List.foldl_cons]
  refine BB (Δ:=Δ) (o:=aq o x.1 x.2) (o':=aq o' x.1 x.2) ?_
  simp only[aJ]
  split
  ·rfl
  ·exact h
theorem re{o:Nat->ae}:∀ {Δ:List (Nat×ae)} {id:Nat},(∀x∈Δ,x.1≠id)->put o Δ id=o id
 |[],_,_=>rfl
 |x::Δ,id,h=>by
  have:=re (o:=aq o x.1 x.2) (Δ:=Δ) (id:=id) (fun y hy=>h y (by simp[hy]))
  simp only[put,List.foldl_cons]at this|-
  rw[this];simp[Ne.symm (h x (by simp))]
theorem zH.lx {g:FuncId}{args:List V}{rd:List Nat}{o:Nat->ae}{nx:Nat}{out:R}{Δ:List (Nat×ae)}(ml:∀id∈rd,id<nx)(ey:∀id∈V.ag args,id∈rd)(jA:∀id∈rd,∀j∈(o id).refs,j∈rd)(KL:∀x∈Δ,x.1∈rd)(TA:∀x∈Δ,∀j∈x.2.refs,j∈rd)
 (h:eN P g args (Ap rd o) nx
  (fun v o1 _=>(∀id∈rd,o1 id=put o Δ id)/\∃vs rs,v=(match vs with|[v]=>v|vs=> .bW vs)/\bZ o1 vs=some rs/\out= .ret rs/\∀id∈V.ba vs,id∉rd)
  (fun v o1 _=>(∀id∈rd,o1 id=put o Δ id)/\∃x,dG o1 v=some x/\out= .bK x/\∀id∈v.ids,id∉rd)):zH P g args rd o out Δ:=by
 refine⟨h.1,fun o' us M φ w vals ho hH hd=> ?_⟩
 let M1:Nat->Prop:=fun b=>M b\/∃id,id∉rd/\(o' id).live=true/\dS (φ id)=some b
 let HR:Hp:=hp (Ap rd o) nx
 have se:∀id,id∈rd->Ap rd o id=o' id:=fun id aj=>by simp[Ap,aj,(ho id aj).1]
 have qw:∀id,id∉rd->Ap rd o id= .no:=fun id aj=>by simp[Ap,aj]
 have hB:∀b,ai M1 φ HR b↔ai M φ ⟨o',us⟩ b:=by
  intro b
  constructor
  ·rintro((h|⟨id,h1,h2,h3⟩)|⟨id,h1,h2⟩)
   ·exact .inl h
   ·exact .inr ⟨id,h2,h3⟩
   ·by_cases aj:id∈rd
    ·exact .inr ⟨id,by show(o' id).live=true;rw[<- se id aj];exact h1,h2⟩
    ·have:HR.o id= .no:=qw id aj
     rw[this]at h1;cases h1
  ·rintro(h|⟨id,h1,h2⟩)
   ·exact .inl (.inl h)
   ·by_cases aj:id∈rd
    ·exact .inr ⟨id,by show(Ap rd o id).live=true;rw[se id aj];exact h1,h2⟩
    ·exact .inl (.inr ⟨id,aj,h1,h2⟩)
 have mf:∀id∈rd,HR.o id=o' id/\φ id=φ id/\HR.us id:=fun id aj=>⟨se id aj,rfl,ml id aj⟩
 have YS:au M1 φ HR w:=by
  refine⟨fun id=> ?_,fun id hn=> ?_,fun i j b hi hj bi bj=> ?_,fun b hb=> ?_,fun b hb=> ?_⟩
  ·by_cases aj:id∈rd
   ·refine aL.refs (H:=⟨o',us⟩) (M:=M) (φ:=φ) (fun b hn hb=>hn ((hB b).1 hb)) (se id aj) rfl (fun j hj=>mf j ?_) (hH.ok id)
    have:o' id=o id:=(ho id aj).1
    exact jA id aj j (by rw[<- this];exact hj)
   ·unfold aL
    rw[show HR.o id= .no from qw id aj];trivial
  ·exact qw id fun aj=>hn (ml id aj)
  ·have live:∀i,(HR.o i).live=true->i∈rd/\(o' i).live=true:=fun i hi=>by
    by_cases aj:i∈rd
    ·exact⟨aj,by rw[<- se i aj];exact hi⟩
    ·rw[show HR.o i= .no from qw i aj]at hi;cases hi
   exact hH.apart i j b (live i hi).2 (live j hj).2 bi bj
  ·obtain⟨id,h1,h2⟩:=hb
   have aj:id∈rd:=by
    by_cases aj:id∈rd
    ·exact aj
    ·rw[show HR.o id= .no from qw id aj]at h1;cases h1
   rw[show HR.o id=o' id from se id aj]at h1
   obtain⟨k1,k2⟩:=hH.ours b ⟨id,h1,h2⟩
   refine⟨?_,k2⟩
   rintro(hM|⟨j,j1,j2,j3⟩)
   ·exact k1 hM
   ·exact j1 (hH.apart j id b j2 h1 j3 h2 ▸ aj)
  ·rcases hb with hb|⟨id,h1,h2,h3⟩
   ·exact hH.tA b hb
   ·exact(hH.ours b ⟨id,h2,h3⟩).2
 have YT:V.aB (ai M1 φ HR) φ HR w args vals.toList:=V.fb (H:=⟨o',us⟩) (fun b hn hb=>hn ((hB b).1 hb)) _ _ (fun id aj=>mf id (ey id aj)) hd
 refine(h.2 M1 φ w vals YS YT).mono ?_
 rintro e w' ⟨iy,o1,xa,v,k1,k2,k3⟩
 have main:(∀id∈rd,o1 id=put o Δ id)->∃ax,au M ax ⟨put o' Δ,us⟩ w'/\Trans φ ⟨o',us⟩ w ax ⟨put o' Δ,us⟩ w'/\∀b,ai M ax ⟨put o' Δ,us⟩ b->M1 b\/∃id∈rd,(o1 id).live=true/\dS (iy id)=some b:=by
  intro oF
  have Bs:∀id∈rd,put o' Δ id=o1 id:=fun id aj=>(Ar (ho id aj).1).trans (oF id aj).symm
  have Es:∀id,id∉rd->put o' Δ id=o' id:=fun id aj=>re fun x hx e=>aj (e ▸ KL x hx)
  let C2:Place:=fun id=>if id∈rd then iy id else φ id
  have v7:∀id∈rd,C2 id=iy id:=fun id aj=>if_pos aj
  have xZ:∀id,id∉rd->C2 id=φ id:=fun id aj=>if_neg aj
  let H2:Hp:=⟨put o' Δ,us⟩
  have bS:∀b,bR C2 H2 b->(∃id∈rd,(o1 id).live=true/\dS (iy id)=some b)\/∃id,id∉rd/\(o' id).live=true/\dS (φ id)=some b:=by
   rintro b ⟨id,h1,h2⟩
   by_cases aj:id∈rd
   ·exact .inl ⟨id,aj,by rw[<- Bs id aj];exact h1,by rw[<- v7 id aj];exact h2⟩
   ·exact .inr ⟨id,aj,by rw[<- Es id aj];exact h1,by rw[<- xZ id aj];exact h2⟩
  have Sk:∀b,ai M C2 H2 b->ai M1 iy (hp o1 xa) b:=by
   rintro b (hb|hb)
   ·exact .inl (.inl hb)
   ·rcases bS b hb with⟨id,h1,h2,h3⟩|⟨id,h1,h2,h3⟩
    ·exact .inr ⟨id,h2,h3⟩
    ·exact .inl (.inr ⟨id,h1,h2,h3⟩)
  have Ot:dX φ ⟨o',us⟩ C2 H2:=by
   refine⟨fun id h=>h,fun id hu hr=> ?_,fun id e' hu he=> ?_⟩
   ·by_cases aj:id∈rd
    ·rw[show H2.o id=o1 id from Bs id aj]at hr
     obtain⟨a,b⟩:=k2.rel.row id (ml id aj) hr
     rw[show HR.o id=o' id from se id aj]at a
     exact⟨a,(v7 id aj).trans b⟩
    ·rw[show H2.o id=o' id from Es id aj]at hr
     exact⟨hr,xZ id aj⟩
   ·by_cases aj:id∈rd
    ·rw[show H2.o id=o1 id from Bs id aj]at he
     obtain⟨e0,a,b,c⟩:=k2.rel.ep id e' (ml id aj) he
     rw[show HR.o id=o' id from se id aj]at a
     exact⟨e0,a,b,fun heq=>(v7 id aj).trans (c heq)⟩
    ·rw[show H2.o id=o' id from Es id aj]at he
     exact⟨e',he,Nat.le_refl _,fun _=>xZ id aj⟩
  have qi:∀b,cA w b-> ¬ai M φ ⟨o',us⟩ b->w'.heap[b]? =w.heap[b]? /\ ¬ai M C2 H2 b:=by
   intro b hc hn
   obtain⟨a,c⟩:=k2.blocks (M:=M1) b hc (fun hb=>hn ((hB b).1 hb))
   exact⟨a,fun hb=>c (Sk b hb)⟩
  have nN:∀b,b<w.heap.size-> ¬bR φ HR b->w'.heap[b]? =w.heap[b]? :=fun b hb hl=>k2.cg.block b hb hl
  have ht:Trans φ ⟨o',us⟩ w C2 H2 w':=by
   refine⟨⟨k2.cg.os,k2.cg.tape,k2.cg.output,k2.cg.size,fun b hb hl=>nN b hb fun⟨id,h1,h2⟩=>hl ?_⟩,fun b hb=> ?_,Ot⟩
   ·by_cases aj:id∈rd
    ·exact⟨id,by show(o' id).live=true;rw[<- se id aj];exact h1,h2⟩
    ·rw[show HR.o id= .no from qw id aj]at h1;cases h1
   ·rcases bS b hb with⟨id,h1,h2,h3⟩|⟨id,h1,h2,h3⟩
    ·rcases k2.grow b ⟨id,h2,h3⟩with⟨j,j1,j2⟩|zS
     ·by_cases aj:j∈rd
      ·exact .inl ⟨j,by show(o' j).live=true;rw[<- se j aj];exact j1,j2⟩
      ·rw[show HR.o j= .no from qw j aj]at j1;cases j1
     ·exact .inr zS
    ·exact .inl ⟨id,h2,h3⟩
  refine⟨C2,⟨fun id=> ?_,fun id hn=> ?_,fun i j b hi hj bi bj=> ?_,fun b hb=> ?_,fun b hb=>Nat.lt_of_lt_of_le (hH.tA b hb) k2.cg.size⟩,ht,fun b hb=> ?_⟩
  ·by_cases aj:id∈rd
   ·refine aL.refs (H:=hp o1 xa) (M:=M1) (φ:=iy) (fun b hn hb=>hn (Sk b hb)) (Bs id aj) (v7 id aj) (fun j hj=> ?_) (k1.ok id)
    have Ep:j∈rd:=by
     have e1:o1 id=put o Δ id:=oF id aj
     have hj:j∈(put o Δ id).refs:=by rw[<- e1];exact hj
     have key:∀ (BC:List (Nat×ae)) (q:Nat->ae),(∀x∈BC,∀j∈x.2.refs,j∈rd)->(∀j∈(q id).refs,j∈rd)->∀j∈(put q BC id).refs,j∈rd:=by
      intro BC
      induction BC with
      |nil=>intro q _ h2;exact h2
      |cons x BC ih=>
       intro q h1 h2
       simp only[put,List.foldl_cons]
       refine ih (aq q x.1 x.2) (fun y hy=>h1 y (by simp[hy])) ?_
       simp only[aJ]
       split
       ·exact h1 x (by simp)
       ·exact h2
     exact key Δ o TA (jA id aj) j hj
    exact⟨Bs j Ep,v7 j Ep,(ho j Ep).2⟩
   ·exact aL.xj qi Ot (Es id aj) (xZ id aj) (fun hl b hb=>nN b (hH.ours b ⟨id,hl,hb⟩).2 fun⟨j,j1,j2⟩=>by
     by_cases hj:j∈rd
     ·rw[show HR.o j=o' j from se j hj]at j1
      exact aj (hH.apart id j b hl j1 hb j2 ▸ hj)
     ·rw[show HR.o j= .no from qw j hj]at j1;cases j1) (hH.ok id)
  ·have aj:id∉rd:=fun aj=>hn (ho id aj).2
   exact(Es id aj).trans (hH.fresh id hn)
  ·by_cases e1:i∈rd<;>by_cases e2:j∈rd
   ·refine k1.apart i j b ?_ ?_ (by rw[<- v7 i e1];exact bi) (by rw[<- v7 j e2];exact bj)
    ·show(o1 i).live=true;rw[<- Bs i e1];exact hi
    ·show(o1 j).live=true;rw[<- Bs j e2];exact hj
   ·exfalso
    refine(k1.ours b ⟨i,by show(o1 i).live=true;rw[<- Bs i e1];exact hi,by rw[<- v7 i e1];exact bi⟩).1 (.inr ⟨j,e2,by rw[<- Es j e2];exact hj,by rw[<- xZ j e2];exact bj⟩)
   ·exfalso
    refine(k1.ours b ⟨j,by show(o1 j).live=true;rw[<- Bs j e2];exact hj,by rw[<- v7 j e2];exact bj⟩).1 (.inr ⟨i,e1,by rw[<- Es i e1];exact hi,by rw[<- xZ i e1];exact bi⟩)
   ·exact hH.apart i j b (by show(o' i).live=true;rw[<- Es i e1];exact hi) (by show(o' j).live=true;rw[<- Es j e2];exact hj) (by rw[<- xZ i e1];exact bi) (by rw[<- xZ j e2];exact bj)
  ·rcases bS b hb with⟨id,h1,h2,h3⟩|⟨id,h1,h2,h3⟩
   ·obtain⟨a,c⟩:=k1.ours b ⟨id,h2,h3⟩
    exact⟨fun hM=>a (.inl hM),c⟩
   ·obtain⟨a,c⟩:=hH.ours b ⟨id,h2,h3⟩
    exact⟨a,Nat.lt_of_lt_of_le c k2.cg.size⟩
  ·rcases hb with hb|hb
   ·exact .inl (.inl hb)
   ·rcases bS b hb with h|h
    ·exact .inr h
    ·exact .inl (.inr h)
 have res:∀ (vs:List V) (xs:List D) (us':List Value),(∀id∈rd,o1 id=put o Δ id)->bZ o1 vs=some xs->(∀id∈V.ba vs,id∉rd)->V.aB (ai M1 iy (hp o1 xa)) iy (hp o1 xa) w' vs us'->
  ∃ax,au M ax ⟨put o' Δ,us⟩ w'/\Trans φ ⟨o',us⟩ w ax ⟨put o' Δ,us⟩ w'/\D.aB (ai M ax ⟨put o' Δ,us⟩) w' xs us':=by
  intro vs xs us' oF h1 TC h2
  obtain⟨f1,f2,f3,f4,f5⟩:=cM k1 (V.ba vs) (cE vs _ h2)
  have h3:=dv f1 vs xs us' f3 h1 (V.aI f2 _ _ h2)
  obtain⟨ax,m1,m2,m3⟩:=main oF
  refine⟨ax,m1,m2,D.aI (w:=w') (w':=w') (fun b _ hn=>⟨rfl,fun hb=>hn ?_⟩) xs us' h3⟩
  rcases m3 b hb with hb|⟨id,i1,i2,i3⟩
  ·exact .inl hb
  ·exact .inr ⟨id,by rw[f4 id fun hm=>TC id hm i1];exact i2,i3⟩
 cases e with
 |outgrown=>exact k3.elim
 |panicked ch=>
  obtain⟨val,rfl,g1,oF,x,g2,rfl,g3⟩:=k3
  obtain⟨ax,m1,m2,m3⟩:=res [v] [x] [val] oF (by simp[bZ,g2]) (by simpa[V.ba]using g3) ⟨val,[],rfl,g1,rfl⟩
  obtain⟨u,us2,he,h2,_⟩:=m3
  simp at he;obtain⟨rfl,rfl⟩:=he
  exact⟨ax,m1,m2,val,rfl,h2⟩
 |returned val=>
  obtain⟨g1,oF,vs,rs,rfl,g2,rfl,g3⟩:=k3
  match vs,g1,g2,g3 with
  |[],g1,g2,g3=>
   obtain⟨arr,rfl,hv⟩:=g1
   simp only[bZ,Option.some.injEq]at g2;subst g2
   obtain⟨ax,m1,m2,m3⟩:=res [] [] arr.toList oF rfl (by simp[V.ba]) hv
   exact⟨ax,m1,m2,arr,rfl,m3⟩
  |[v],g1,g2,g3=>
   obtain⟨ax,m1,m2,m3⟩:=res [v] rs [val] oF g2 g3 ⟨val,[],rfl,g1,rfl⟩
   refine⟨ax,m1,m2, ?_⟩
   cases rs with
   |nil=>cases m3
   |cons x l=>
    obtain⟨u,us2,he,h2,h3⟩:=m3
    simp at he;obtain⟨rfl,rfl⟩:=he
    cases l with
    |nil=>exact h2
    |cons y l=>obtain⟨_,_,h,_⟩:=h3;cases h
  |v::v2::l,g1,g2,g3=>
   obtain⟨arr,rfl,hv⟩:=g1
   obtain⟨ax,m1,m2,m3⟩:=res (v::v2::l) rs arr.toList oF g2 g3 hv
   refine⟨ax,m1,m2, ?_⟩
   have hl:=D.aD _ _ m3
   have Bz:=V.aD _ _ hv
   match rs,hl,m3 with
   |[],hl,_=>rw[Bz]at hl;simp at hl
   |[x],hl,_=>rw[Bz]at hl;simp at hl
   |x::y::l,_,m3=>exact⟨arr,rfl,m3⟩
end
end Go.Proofs.YtealblliddhgiaaGreat
namespace Go.Proofs.YtealblliddhgiaaGreat
inductive fe where
 |skip|val (v:V) (Δ:List (Nat×ae)) (rd:List Nat)|bK (v:V) (ws rd:List Nat)|dS
 deriving Inhabited
def fe.ok:fe->Bool
 | .skip| .val .. =>true
 |_=>false
def tz(dst:Option Tmp)(x:fe)(s:S):S:=
 match x with
 | .skip=>⟨aY s.env dst (.bW []),s.o,s.nx⟩
 | .val v Δ _=>⟨aY s.env dst v,put s.o Δ,s.nx⟩
 | .bK .. | .dS=>⟨aY s.env dst .ab,s.o,s.nx⟩
def j5:fe->List Nat
 | .val _ Δ _=>Δ.map (·.1)
 |_=>[]
def tI:fe->List Nat
 | .val _ _ rd=>rd
 | .bK _ _ rd=>rd
 |_=>[]
def Ou(P:Program)(g:FuncId)(ds:List D)(v:V):Prop:=
 Enters P g/\∀ (M:Nat->Prop) (w:World) (vals:Array Value),(∀b,M b->b<w.heap.size)->D.aB M w ds vals.toList->
  Calls P g vals w fun e w'=>eM (fun _=>False) w w'/\∃val,e= .returned val/\∀φ H,V.den M φ H w' v val
theorem Ou.lx {P:Program}{g:FuncId}{ds:List D}{v:V}(hr:v.refs=[])(h:eN P g (ds.map .d) (fun _=> .no) 0 (fun v' _ _=>v'=v) (fun _ _ _=>False)):Ou P g ds v:=by
 refine⟨h.1,fun M w vals hM hd=> ?_⟩
 let cC:Place:=fun _=> .nilFunc
 have nN:∀b, ¬bR cC (hp (fun _=> .no) 0) b:=by rintro b ⟨id,hl,_⟩;simp[hp,ae.live]at hl
 refine(h.2 M cC w vals (kC cC hM) ((V.ck _ _).2 (D.aI (w:=w) (w':=w) (B:=M) (fun b _ hB=>⟨rfl,fun h=>h.elim hB (nN b)⟩) _ _ hd))).mono ?_
 rintro e w' ⟨ax,o',nx',v',k1,k2,k3⟩
 refine⟨⟨k2.cg.os,k2.cg.tape,k2.cg.output,k2.cg.size,fun k hk _=>k2.cg.block k hk (nN k)⟩, ?_⟩
 cases e with
 |outgrown=>exact k3.elim
 |panicked ch=>obtain⟨_,_,_,h⟩:=k3;exact h.elim
 |returned val=>
  obtain⟨g1,rfl⟩:=k3
  exact⟨val,rfl,fun φ H=>V.kD (B:=ai M ax (hp o' nx')) (φ:=ax) (H:=hp o' nx') (fun b hb hm=>hb (.inl hm)) v' val (fun id aj=>by rw[hr]at aj;cases aj) g1⟩
def uB(P:Program)(s:S)(fr:Nat)(op:Op)(v:V)(Δ:List (Nat×ae))(rd:List Nat):Prop:=
 ((∃uz,gf P s fr op=some (v,Δ,uz))/\rd=iX s op)\/
 (∃c f g first cap,op= .call c/\c.callee= .value f/\s.ev f= .func (.func g) first cap/\
  ((∃ds rs,bZ s.o (first++c.args.toList.map s.ev++cap)=some ds/\cq P g ds (.ret rs)/\v=iM rs/\rd=iX s op/\
    (Δ=cw s.o (V.ba (first++c.args.toList.map s.ev++cap))\/D.jk rs=true/\Δ=[]))\/
   (∃rs,zH P g (first++c.args.toList.map s.ev++cap) rd s.o (.ret rs) Δ/\v=iM rs/\∀id∈rd,id<s.nx)\/
   (∃ds,bZ s.o (first++c.args.toList.map s.ev++cap)=some ds/\Ou P g ds v/\rd=iX s op/\Δ=cw s.o (V.ba (first++c.args.toList.map s.ev++cap)))\/
   (Aq P g (first++c.args.toList.map s.ev++cap) rd s.o fr v Δ/\∀id∈rd,id<s.nx)))
def x4(P:Program)(s:S)(op:Op)(v:V)(ws rd:List Nat):Prop:=
 ∃c f g first cap,op= .call c/\c.callee= .value f/\s.ev f= .func (.func g) first cap/\
  ((∃ds x,bZ s.o (first++c.args.toList.map s.ev++cap)=some ds/\cq P g ds (.bK x)/\x.flat=true/\v= .d x/\rd=iX s op/\ws=[])\/
   (∃x Δ,zH P g (first++c.args.toList.map s.ev++cap) rd s.o (.bK x) Δ/\v= .d x/\ws=Δ.map (·.1)/\∀id∈rd,id<s.nx))
def df(s:S)(gd:Option (Nat×Bool))(b:Bool):Prop:=
 match gd with
 |none=>b=true
 |some (d,want)=>match s.env d with
  | .d (.bool c)=>b=(c==want)
  | .bW []=>b=false
  |_=>False
def Ji(P:Program)(s:S)(fr:Nat)(o:cf)(x:fe):Prop:=
 match x with
 | .skip=>df s o.gd false
 | .val v Δ rd=>df s o.gd true/\uB P s fr o.op v Δ rd
 | .bK v ws rd=>df s o.gd true/\x4 P s o.op v ws rd
 | .dS=>True
def eK(oc:Nat->cf)(ac:Nat->fe)(E:Nat->Bool)(s:S):Nat->S
 |0=>s
 |k+1=>if E k then tz (oc k).dst (ac k) (eK oc ac E s k)else eK oc ac E s k
structure Compat (oc:Nat->cf) (ac:Nat->fe) (R:Nat->List Nat) (i j:Nat):Prop where
 di:∀d,(oc i).dst=some d->d∉eX (oc j)
 dj:∀d,(oc j).dst=some d->d∉eX (oc i)
 wi:∀id∈j5 (ac i),id∉R j/\id∉j5 (ac j)
 wj:∀id∈j5 (ac j),id∉R i
section
variable {P:Program}{oc:Nat->cf}{ac:Nat->fe}{s:S}{n:Nat}{E:Nat->Bool}{R:Nat->List Nat}{pr:Nat->Nat->Prop}
theorem As{env:Nat->V}{dst:Option Tmp}{v:V}{t:Nat}(h:∀d,dst=some d->d≠t):aY env dst v t=env t:=by
 cases dst with
 |none=>rfl
 |some d=>simp only[aY,aJ];rw[if_neg (fun e=>h d rfl e.symm)]
theorem fW{o:Nat->ae}:∀ {Δ:List (Nat×ae)} {id:Nat},id∉Δ.map (·.1)->put o Δ id=o id
 |[],_,_=>rfl
 |x::Δ,id,h=>by
  simp only[List.map_cons,List.mem_cons,not_or]at h
  have:=fW (o:=aq o x.1 x.2) (Δ:=Δ) h.2
  simp only[put,List.foldl_cons]at this|-
  rw[this];simp[h.1]
theorem v8{o o':Nat->ae}:∀ {Δ:List (Nat×ae)} {id:Nat},id∈Δ.map (·.1)\/o id=o' id->put o Δ id=put o' Δ id
 |[],_,h=>by rcases h with h|h;· simp at h
             ·exact h
 |x::Δ,id,h=>by
  simp only[put,List.foldl_cons]
  refine v8 (Δ:=Δ) (o:=aq o x.1 x.2) (o':=aq o' x.1 x.2) ?_
  simp only[List.map_cons,List.mem_cons]at h
  simp only[aJ]
  by_cases e:id=x.1
  ·right;simp[e]
  ·rcases h with(h|h)|h
   ·exact absurd h e
   ·exact .inl h
   ·right;simp[e,h]
theorem j6{dst:Option Tmp}{x:fe}{t:Nat}(h:∀d,dst=some d->d≠t):(tz dst x s).env t=s.env t:=by
 cases x<;>exact As h
theorem my{dst:Option Tmp}{x:fe}{id:Nat}(h:id∉j5 x):(tz dst x s).o id=s.o id:=by
 cases x with
 |val v Δ rd=>exact fW h
 |_=>rfl
theorem wa{dst:Option Tmp}{x:fe}{s':S}{t:Nat}(h:s.env t=s'.env t):(tz dst x s).env t=(tz dst x s').env t:=by
 cases x<;>cases dst<;>simp only[tz,aY,aJ]<;>first|exact h|(split<;>first|rfl|exact h)
theorem Au{dst:Option Tmp}{x:fe}{s':S}{id:Nat}(h:s.o id=s'.o id):(tz dst x s).o id=(tz dst x s').o id:=by
 cases x with
 |val v Δ rd=>exact v8 (.inr h)
 |_=>exact h
theorem put_comm{o:Nat->ae}{Δ BC:List (Nat×ae)}(h:∀id∈Δ.map (·.1),id∉BC.map (·.1)):put (put o Δ) BC=put (put o BC) Δ:=by
 funext id
 by_cases h1:id∈Δ.map (·.1)
 ·rw[fW (h id h1)]
  exact v8 (.inl h1)
 ·rw[fW (Δ:=Δ) h1]
  by_cases h2:id∈BC.map (·.1)
  ·exact v8 (.inl h2)
  ·rw[fW h2,fW h2,fW h1]
theorem uC{env:Nat->V}{d d':Option Tmp}{v v':V}(h:∀t,d=some t->d'≠some t):aY (aY env d v) d' v'=aY (aY env d' v') d v:=by
 cases d with
 |none=>rfl
 |some t=>
  cases d' with
  |none=>rfl
  |some t'=>
   have fK:t'≠t:=fun e=>h t rfl (by rw[e])
   funext i
   simp only[aY,aJ]
   by_cases e1:i=t<;>by_cases e2:i=t'
   ·exact absurd (e2.symm.trans e1) fK
   all_goals simp[e1,e2]
   ·intro e;exact absurd e.symm fK
   ·intro e;exact absurd e fK
theorem Fg{d d':Option Tmp}{x x':fe}(hd:∀t,d=some t->d'≠some t)(hw:∀id∈j5 x,id∉j5 x'):tz d x (tz d' x' s)=tz d' x' (tz d x s):=by
 cases x<;>cases x'<;>simp only[tz]<;>first
  |rw[uC hd,put_comm hw]
  |rw[uC hd]
def wb(n:Nat)(pr:Nat->Nat->Prop)(E:Nat->Bool):Prop:=∀k,k<n->E k=true->∀j,pr k j->E j=true
theorem agree(_:∀k,k<n->∀j,pr k j->j<k)(hc:∀i j,i<j->j<n-> ¬pr j i->Compat oc ac R i j)(hE:wb n pr E){i:Nat}(hi:i<n)(lW:E i=false)(Av:∀j,pr i j->E j=true):
 (∀t∈eX (oc i),(eK oc ac E s n).env t=(eK oc ac (fun _=>true) s i).env t)/\(∀id∈R i,(eK oc ac E s n).o id=(eK oc ac (fun _=>true) s i).o id):=by
 have a:∀k,k<=i->(∀t∈eX (oc i),(eK oc ac E s k).env t=(eK oc ac (fun _=>true) s k).env t)/\(∀id∈R i,(eK oc ac E s k).o id=(eK oc ac (fun _=>true) s k).o id):=by
  intro k
  induction k with
  |zero=>intro _;exact⟨fun _ _=>rfl,fun _ _=>rfl⟩
  |succ k ih=>
   intro hk
   obtain⟨h1,h2⟩:=ih (by omega)
   simp only[eK,if_true]
   by_cases gy:E k=true
   ·simp only[gy,if_true]
    exact⟨fun t ht=>wa (h1 t ht),fun id aj=>Au (h2 id aj)⟩
   ·have I5: ¬pr i k:=fun hm=>gy (Av k hm)
    have c:=hc k i (by omega) hi I5
    simp only[gy]
    refine⟨fun t ht=> ?_,fun id aj=> ?_⟩
    ·rw[j6 fun d hd e=>c.di d hd (e ▸ ht)];exact h1 t ht
    ·rw[my fun hm=>(c.wi id hm).1 aj];exact h2 id aj
 have b:∀k,i<=k->k<=n->(∀t∈eX (oc i),(eK oc ac E s k).env t=(eK oc ac (fun _=>true) s i).env t)/\(∀id∈R i,(eK oc ac E s k).o id=(eK oc ac (fun _=>true) s i).o id):=by
  intro k Hz
  induction Hz with
  |refl=>intro _;exact a i (Nat.le_refl _)
  | @step k Hz ih=>
    intro hk
    have Hz:i<=k:=Hz
    obtain⟨h1,h2⟩:=ih (by omega)
    simp only[eK]
    by_cases gy:E k=true
    ·have fK:i≠k:=fun e=>by rw[e,gy]at lW;cases lW
     have I5: ¬pr k i:=fun hm=>by have:=hE k (by omega) gy i hm;rw[lW]at this;cases this
     have c:=hc i k (by omega) (by omega) I5
     simp only[gy,if_true]
     refine⟨fun t ht=> ?_,fun id aj=> ?_⟩
     ·rw[j6 fun d hd e=>c.dj d hd (e ▸ ht)];exact h1 t ht
     ·rw[my fun hm=>c.wj id hm aj];exact h2 id aj
    ·simp only[gy];exact⟨h1,h2⟩
 exact b n (by omega) (Nat.le_refl _)
theorem insert(hc:∀i j,i<j->j<n-> ¬pr j i->Compat oc ac R i j)(hE:wb n pr E){i:Nat}(hi:i<n)(lW:E i=false){E':Nat->Bool}(Aw:∀k,E' k=(E k||k==i)):
 eK oc ac E' s n=tz (oc i).dst (ac i) (eK oc ac E s n):=by
 have a:∀k,k<=i->eK oc ac E' s k=eK oc ac E s k:=by
  intro k
  induction k with
  |zero=>intro _;rfl
  |succ k ih=>
   intro hk
   have:E' k=E k:=by rw[Aw k];have:(k==i)=false:=by simp;omega
                     simp[this]
   simp only[eK,this,ih (by omega)]
 have b:∀k,i+1<=k->k<=n->eK oc ac E' s k=tz (oc i).dst (ac i) (eK oc ac E s k):=by
  intro k Hz
  induction Hz with
  |refl=>
   intro _
   have h1:E' i=true:=by rw[Aw i];simp
   simp only[eK,h1,lW,if_true,a i (Nat.le_refl _)]
   rfl
  | @step k Hz ih=>
    intro hk
    have Hz:i+1<=k:=Hz
    have h1:E' k=E k:=by rw[Aw k];have:(k==i)=false:=by simp;omega
                         simp[this]
    simp only[eK,h1,ih (by omega)]
    by_cases gy:E k=true
    ·have I5: ¬pr k i:=fun hm=>by have:=hE k (by omega) gy i hm;rw[lW]at this;cases this
     have c:=hc i k (by omega) (by omega) I5
     simp only[gy,if_true]
     refine Fg (fun t ht he=> ?_) (fun id aj hm=>(c.wi id hm).2 aj)
     exact c.di t he (by simp[eX,ht])
    ·simp only[gy];rfl
 exact b n (by omega) (Nat.le_refl _)
end
end Go.Proofs.YtealblliddhgiaaGreat
namespace Go.Proofs.YtealblliddhgiaaGreat
structure qU (M:Nat->Prop) (cC:Place) (H0:Hp) (w0:World) (n:Nat) (cx:Cx) (φ:Place) (s:S) (us:Nat->Prop) (a:Act) (w:World):Prop where
 heap:au M φ ⟨s.o,us⟩ w
 tr:Trans cC H0 w0 φ ⟨s.o,us⟩ w
 size:a.tmps.size=n
 defers:rU cx w0 φ ⟨s.o,us⟩ w a.defers
 env:∀i,V.den (ai M φ ⟨s.o,us⟩) φ ⟨s.o,us⟩ w (s.env i) (a.tmps.getD i undef)
section
variable {P:Program}{M:Nat->Prop}{φ cC:Place}{H0:Hp}{w w' w0:World}{n:Nat}{s:S}{us:Nat->Prop}{a:Act}{cx:Cx}{ro:Option Nat}{k:Nat}
variable {next:Act->World->Prop}{Q:Exit->Act->World->Prop}
theorem ij(hs:qU M cC H0 w0 n cx φ s us a w){ax:Place}{H':Hp}(hH:au M ax H' w')(ht:Trans φ ⟨s.o,us⟩ w ax H' w'){v:V}{val:Value}(hd:V.den (ai M ax H') ax H' w' v val){dst:Option Tmp}(cP:gr n dst)
 {o':Nat->ae} {us':Nat->Prop} (ho:H'.o=o') (hu:∀id,H'.us id->us' id):qU M cC H0 w0 n cx ax ⟨aY s.env dst v,o',s.nx⟩ us' (a.put dst val) w':=by
 obtain⟨k1,k2⟩:=iO hH hu
 subst ho
 refine⟨k1,hs.tr.trans (ht.trans k2), ?_, ?_,fun i=> ?_⟩
 ·cases dst<;>simp[Act.put,hs.size]
 ·have:=hs.defers.mono (ht.trans k2);cases dst<;>exact this
 ·cases dst with
  |none=>exact V.aC (ht.trans k2) _ _ (hs.env i)
  |some d=>
   simp only[gr]at cP
   simp only[aY,aJ,Act.put]
   by_cases hi:i=d
   ·subst hi
    have h1:(a.tmps.setIfInBounds i val).getD i undef=val:=by simp[Array.getD,hs.size,cP]
    rw[if_pos rfl,h1]
    exact V.aC k2 _ _ hd
   ·have h1:(a.tmps.setIfInBounds d val).getD i undef=a.tmps.getD i undef:=by
     simp only[Array.getD_eq_getD_getElem?]
     rw[Array.getElem?_setIfInBounds_ne (Ne.symm hi)]
    rw[if_neg hi,h1]
    exact V.aC (ht.trans k2) _ _ (hs.env i)
theorem uD(hs:qU M cC H0 w0 n cx φ s us a w){o:Oper}{op:Op}(dD:o.op=op){c:Call}{f:Operand}{g:FuncId}{first cap:List V}(hc:op= .call c)(eg:c.callee= .value f)(rV:s.ev f= .func (.func g) first cap):
 ∃vals:Array Value,V.aB (ai M φ ⟨s.o,us⟩) φ ⟨s.o,us⟩ w (first++c.args.toList.map s.ev++cap) vals.toList/\(Enters P g->(execOp a.eval o).run P w= .ok (.enter g vals) w):=by
 have hf:=l8 (M:=M) (φ:=φ) (H:=⟨s.o,us⟩) (w:=w) s a hs.env f
 have ey:=jH (M:=M) (φ:=φ) (H:=⟨s.o,us⟩) (w:=w) s a hs.env c.args.toList
 rw[rV]at hf
 obtain⟨fa,ca,KG,zT,Om⟩:=hf
 refine⟨fa++c.args.map a.eval++ca, ?_,fun he=> ?_⟩
 ·rw[Array.toList_append,Array.toList_append,Array.toList_map]
  exact V.lq zT ey Om
 ·have:=kA (w:=w) he (fa++c.args.map a.eval++ca)
  generalize jN:fa++c.args.map a.eval++ca=vals at this
  simp[execOp,dD,hc,resolve,eg,KG,Deferred.ofValue,invoke,this,jN]
theorem x5(hs:qU M cC H0 w0 n cx φ s us a w){fr:Nat}(dU: ¬us fr)(ml:∀id,id<s.nx->us id){o:Oper}{op:Op}(dD:o.op=op)(cP:gr n o.dst){v:V}{Δ:List (Nat×ae)}{rd:List Nat}(h:uB P s fr op v Δ rd)
 (hN:∀ax a' w',qU M cC H0 w0 n cx ax (tz o.dst (.val v Δ rd) s) (fun id=>us id\/id=fr) a' w'->next a' w'):o.wpIn (dT ro) k P a w next Q:=by
 rcases h with⟨⟨uz,h⟩,_⟩|⟨c,f,g,first,cap,hc,eg,rV,h⟩
 ·have h1:=xW (K:=fun v' BC _=>v'=v/\BC=Δ) h ⟨rfl,rfl⟩
  obtain⟨nx,val,w',ax,v',BC,uz,⟨rfl,rfl⟩,hr,TD,g1,g2,g3,g4⟩:=uo hs.heap (s:=s) rfl hs.env dU dD h1
  have vK:=ij hs g1 g2 g3 cP (o':=put s.o BC) (us':=fun id=>us id\/id=fr) rfl (fun id hu=>hu.elim .inl (g4 id))
  refine jM (fun c hc=>by rw[dD]at hc;subst hc;exact h1) ?_
  rw[hr]
  rcases TD with rfl|⟨rfl,rfl⟩
  ·exact hN _ _ _ vK
  ·exact hN _ _ _ vK
 ·refine jM (fun c' CW=>by rw[dD,hc]at CW;cases CW) ?_
  obtain⟨vals,aP,e9⟩:=uD (P:=P) hs dD hc eg rV
  generalize first++c.args.toList.map s.ev++cap=all at h aP
  rcases h with⟨ds,rs,eW,hP,rfl,_,KL⟩|⟨rs,hH,rfl,me⟩|⟨ds,eW,hP,_,rfl⟩|⟨hH,me⟩
  ·obtain⟨f1,f2,f3,f4,f5⟩:=cM hs.heap (V.ba all) (cE all _ aP)
   have hZ:(⟨s.o,us⟩:Hp).put (cw s.o (V.ba all))=⟨put s.o (cw s.o (V.ba all)),us⟩:=kz (H:=⟨s.o,us⟩) (by rw[mW];exact cE all _ aP)
   have tZ:=dv f1 all ds _ f3 eW (V.aI f2 _ _ aP)
   have eR:=hP.2 _ w vals (fun b hb=>hb.elim (f1.tA b) fun hl=>(f1.ours b hl).2) tZ
   rw[e9 hP.1]
   refine⟨fun hd=>by simp[dT]at hd,dc (eR.mono fun e w' ⟨hk,ho⟩=> ?_)⟩
   cases e with
   |panicked ch=>cases rs with|nil=>exact ho.elim|cons x l=>cases l<;>exact ho.elim
   |outgrown=>cases rs with|nil=>exact ho.elim|cons x l=>cases l<;>exact ho.elim
   |returned val=>
    rcases KL with rfl|⟨la,rfl⟩
    ·obtain⟨k1,k2⟩:=fS f1 hk
     refine hN _ _ _ (ij hs k1 (f2.trans k2) (kB ho) cP (by rw[hZ]) fun id hu=> ?_)
     rw[hZ]at hu;exact .inl hu
    ·obtain⟨k1,k2⟩:=fS hs.heap hk
     have ho:=R.vL (out:= .ret rs) (B':=ai M φ ⟨s.o,us⟩) la ho
     exact hN _ _ _ (ij hs k1 k2 (kB ho) cP rfl fun id hu=> .inl hu)
  ·have eR:=hH.2 s.o us M φ w vals (fun id aj=>⟨rfl,ml id (me id aj)⟩) hs.heap aP
   rw[e9 hH.1]
   refine⟨fun hd=>by simp[dT]at hd,dc (eR.mono fun e w' ⟨ax,k1,k2,ho⟩=> ?_)⟩
   cases e with
   |panicked ch=>cases rs with|nil=>exact ho.elim|cons x l=>cases l<;>exact ho.elim
   |outgrown=>cases rs with|nil=>exact ho.elim|cons x l=>cases l<;>exact ho.elim
   |returned val=>exact hN _ _ _ (ij hs k1 k2 (kB ho) cP rfl fun id hu=> .inl hu)
  ·obtain⟨f1,f2,f3,f4,f5⟩:=cM hs.heap (V.ba all) (cE all _ aP)
   have hZ:(⟨s.o,us⟩:Hp).put (cw s.o (V.ba all))=⟨put s.o (cw s.o (V.ba all)),us⟩:=kz (H:=⟨s.o,us⟩) (by rw[mW];exact cE all _ aP)
   have tZ:=dv f1 all ds _ f3 eW (V.aI f2 _ _ aP)
   have eR:=hP.2 _ w vals (fun b hb=>hb.elim (f1.tA b) fun hl=>(f1.ours b hl).2) tZ
   rw[e9 hP.1]
   refine⟨fun hd=>by simp[dT]at hd,dc (eR.mono fun e w' ⟨hk,val,he,ho⟩=> ?_)⟩
   subst he
   obtain⟨k1,k2⟩:=fS f1 hk
   refine hN _ _ _ (ij hs k1 (f2.trans k2) (ho _ _) cP (by rw[hZ]) fun id hu=> ?_)
   rw[hZ]at hu;exact .inl hu
  ·have eR:=hH.2 s.o us M φ w vals (fun id aj=>⟨rfl,ml id (me id aj)⟩) dU hs.heap aP
   rw[e9 hH.1]
   refine⟨fun hd=>by simp[dT]at hd,dc (eR.mono fun e w' ⟨ax,k1,k2,val,he,ho⟩=> ?_)⟩
   subst he
   exact hN _ _ _ (ij hs k1 k2 ho cP rfl fun id hu=>hu)
theorem Da{o o2:Nat->ae}{us us2:Nat->Prop}(hH:au M φ ⟨o,us⟩ w)(ho:∀id,o2 id=o id\/o2 id= .no)(hu:∀id,us id->us2 id):au M φ ⟨o2,us2⟩ w/\Trans φ ⟨o,us⟩ w φ ⟨o2,us2⟩ w:=by
 have hl:∀id,(o2 id).live=true->(o id).live=true:=fun id h=>by
  rcases ho id with e|e
  ·rw[<- e];exact h
  ·rw[e]at h;cases h
 have G4:∀b,bR φ ⟨o2,us2⟩ b->bR φ ⟨o,us⟩ b:=fun b ⟨id,h1,h2⟩=>⟨id,hl id h1,h2⟩
 have ht:Trans φ ⟨o,us⟩ w φ ⟨o2,us2⟩ w:=by
  refine⟨eM.refl _ _,fun b hb=> .inl (G4 b hb),⟨hu,fun id _ hr=> ?_,fun id e' _ he=> ?_⟩⟩
  ·rcases ho id with e|e
   ·exact⟨by show(o id).bO=true;rw[<- e];exact hr,rfl⟩
   ·rw[show(⟨o2,us2⟩:Hp).o id= .no from e]at hr;cases hr
  ·rcases ho id with e|e
   ·exact⟨e',by show(o id).aZ=some e';rw[<- e];exact he,Nat.le_refl _,fun _=>rfl⟩
   ·rw[show(⟨o2,us2⟩:Hp).o id= .no from e]at he;cases he
 refine⟨⟨fun id=> ?_,fun id hn=> ?_,fun i j b hi hj=>hH.apart i j b (hl i hi) (hl j hj),fun b hb=>hH.ours b (G4 b hb),hH.tA⟩,ht⟩
 ·rcases ho id with e|e
  ·exact(hH.ok id).mono ht e rfl fun _ _ _=>rfl
  ·unfold aL;rw[show(⟨o2,us2⟩:Hp).o id= .no from e];trivial
 ·rcases ho id with e|e
  ·exact e.trans (hH.fresh id fun h=>hn (hu id h))
  ·exact e
def si(ds:List Nat)(wl:List Nat)(N:Nat)(s:S):S:=
 ⟨fun t=>if ds.contains t=true then .ab else s.env t,fun id=>if wl.contains id=true then .no else s.o id,s.nx+N⟩
theorem Fh(hs:qU M cC H0 w0 n cx φ s us a w)(ml:∀id,id<s.nx->us id){N:Nat}(dB:∀id,us id->id<s.nx+N){o:Oper}{op:Op}(dD:o.op=op){v:V}{ws rd:List Nat}(h:x4 P s op v ws rd)
 {s0:S} {ds wl:List Nat} (eW:∀t,ds.contains t=false->s.env t=s0.env t) (MM:∀id,wl.contains id=false->s.o id=s0.o id) (HA:∀id∈ws,wl.contains id=true) (qq:s0.nx=s.nx)
 (hQ:∀ax w' val,cd M cC H0 w0 n cx ax (si ds wl N s0) a w'->V.den (ai M ax (si ds wl N s0).H) ax (si ds wl N s0).H w' v val->Q (.panic [{v:=val,recovered:=false}]) a w'):o.wpIn (dT ro) k P a w next Q:=by
 obtain⟨c,f,g,first,cap,hc,eg,rV,h⟩:=h
 refine jM (fun c' CW=>by rw[dD,hc]at CW;cases CW) ?_
 obtain⟨vals,aP,e9⟩:=uD (P:=P) hs dD hc eg rV
 generalize first++c.args.toList.map s.ev++cap=all at h aP
 have fin:∀ (ax:Place) (w':World) (o':Nat->ae) (val:Value),(∀id,wl.contains id=false->o' id=s.o id)->au M ax ⟨o',us⟩ w'->Trans φ ⟨s.o,us⟩ w ax ⟨o',us⟩ w'->V.den (ai M ax ⟨o',us⟩) ax ⟨o',us⟩ w' v val->Q (.panic [{v:=val,recovered:=false}]) a w':=by
  intro ax w' o' val xQ k1 k2 k3
  obtain⟨m1,m2⟩:=Da (o2:=(si ds wl N s0).o) (us2:=fun id=>id<s0.nx+N) k1 (fun id=>by
   show(if wl.contains id=true then ae.no else s0.o id)=o' id\/_
   by_cases hw:wl.contains id=true
   ·right;simp only[si];rw[if_pos hw]
   ·left;rw[if_neg hw,xQ id (by simpa using hw),MM id (by simpa using hw)]) (fun id h=>by rw[qq];exact dB id h)
  have ht:=hs.tr.trans (k2.trans m2)
  refine hQ ax w' val ⟨m1,ht,hs.size,hs.defers.mono (k2.trans m2),fun i=> ?_⟩ (V.aC m2 _ _ k3)
  show V.den _ _ _ _ (if ds.contains i=true then V.ab else s0.env i) _
  by_cases hd:ds.contains i=true
  ·rw[if_pos hd];trivial
  ·rw[if_neg hd, <- eW i (by simpa using hd)];exact V.aC (k2.trans m2) _ _ (hs.env i)
 rcases h with⟨dd,x,TE,hP,la,rfl,_,rfl⟩|⟨x,Δ,hH,rfl,rfl,me⟩
 ·obtain⟨f1,f2,f3,f4,f5⟩:=cM hs.heap (V.ba all) (cE all _ aP)
  have tZ:=dv f1 all dd _ f3 TE (V.aI f2 _ _ aP)
  have eR:=hP.2 _ w vals (fun b hb=>hb.elim (f1.tA b) fun hl=>(f1.ours b hl).2) tZ
  rw[e9 hP.1]
  refine⟨fun hd=>by simp[dT]at hd,dc (eR.mono fun e w' ⟨hk,ho⟩=> ?_)⟩
  cases e with
  |returned val=>exact ho.elim
  |outgrown=>exact ho.elim
  |panicked ch=>
   obtain⟨k1,k2⟩:=fS hs.heap hk
   have ho:=R.vL (out:= .bK x) (B':=ai M φ ⟨s.o,us⟩) la ho
   obtain⟨val,rfl,hd⟩:=ho
   exact fin φ w' s.o val (fun _ _=>rfl) k1 k2 hd
 ·have eR:=hH.2 s.o us M φ w vals (fun id aj=>⟨rfl,ml id (me id aj)⟩) hs.heap aP
  rw[e9 hH.1]
  refine⟨fun hd=>by simp[dT]at hd,dc (eR.mono fun e w' ⟨ax,k1,k2,ho⟩=> ?_)⟩
  cases e with
  |returned val=>exact ho.elim
  |outgrown=>exact ho.elim
  |panicked ch=>
   obtain⟨val,rfl,hd⟩:=ho
   exact fin ax w' _ val (fun id aj=>re fun y hy e=>by
    have:=HA y.1 (List.mem_map_of_mem hy)
    rw[e,aj]at this;cases this) k1 k2 hd
theorem fu(dC:∀i,V.den (ai M φ ⟨s.o,us⟩) φ ⟨s.o,us⟩ w (s.env i) (a.tmps.getD i undef)){ops:Array Oper}{o:Oper}{gd:Option (Nat×Bool)}{b:Bool}
 (hg:match o.guard with|none=>gd=none|some (j,want)=>∃d,qg ops j=some d/\gd=some (d,want)) (h:df s gd b):Region.wanted o (yielded ops a.tmps)=b:=by
 unfold Region.wanted
 split at hg
 ·rename_i hn;simp only[hn];subst hg;exact h.symm
 ·rename_i j want hn
  simp only[hn]
  obtain⟨d,hd,rfl⟩:=hg
  unfold qg at hd
  unfold yielded
  simp only[hd,Option.bind_some]
  simp only[df]at h
  have he:=dC d
  split at h
  ·rename_i c hv
   rw[hv]at he
   simp only[V.den,D.den]at he
   have:a.tmps[d]? =some (.bool c):=by
    rw[Array.getD_eq_getD_getElem?]at he
    cases hx:a.tmps[d]? with
    |none=>rw[hx]at he;simp[undef]at he
    |some x=>rw[hx]at he;simp at he;rw[he]
   simp only[this,h]
   cases c<;>cases want<;>rfl
  ·rename_i hv
   rw[hv]at he
   obtain⟨arr,cG,hn⟩:=he
   have:∀c,a.tmps[d]? ≠some (.bool c):=by
    intro c hx
    rw[Array.getD_eq_getD_getElem?,hx]at cG
    simp at cG
   subst h
   cases hx:a.tmps[d]? with
   |none=>rfl
   |some x=>cases x<;>first|(exact absurd hx (this _))|rfl
  ·exact h.elim
theorem fw{s s':S}{gd:Option (Nat×Bool)}{b:Bool}(h:∀d want,gd=some (d,want)->s'.env d=s.env d)(hg:df s gd b):df s' gd b:=by
 unfold df at*
 cases gd with
 |none=>exact hg
 |some p=>obtain⟨d,want⟩:=p;simp only at hg|-;rw[h d want rfl];exact hg
theorem x6{s s':S}{x:Operand}(h:∀t,x= .tmp t->s'.env t=s.env t):s'.ev x=s.ev x:=by
 cases x<;>simp only[S.ev]
 exact h _ rfl
theorem sj{s s':S}{op:Op}{c:Call}{f:Operand}{g:FuncId}{first cap:List V}(hv:∀x∈op.operands,s'.ev x=s.ev x)(hc:op= .call c)(eg:c.callee= .value f)(rV:s.ev f= .func (.func g) first cap):
 s'.ev f= .func (.func g) first cap/\c.args.toList.map s'.ev=c.args.toList.map s.ev:=by
 subst hc
 exact⟨(hv f (by simp only[Op.operands,Call.operands,eg];exact Array.mem_append.2 (.inl (by simp)))).trans rV,
  List.map_congr_left fun x hx=>hv x (by simp only[Op.operands,Call.operands];exact Array.mem_append.2 (.inr (Array.mem_toList_iff.1 hx)))⟩
theorem zH.frame {g:FuncId}{args:List V}{rd:List Nat}{o o':Nat->ae}{out:R}{Δ:List (Nat×ae)}(ho:∀id∈rd,o' id=o id)(h:zH P g args rd o out Δ):zH P g args rd o' out Δ:=
 ⟨h.1,fun o2 us M φ w vals h1 h2 h3=>h.2 o2 us M φ w vals (fun id aj=>⟨(h1 id aj).1.trans (ho id aj),(h1 id aj).2⟩) h2 h3⟩
theorem Aq.frame {g:FuncId}{args:List V}{rd:List Nat}{o o':Nat->ae}{fr:Nat}{v:V}{Δ:List (Nat×ae)}(ho:∀id∈rd,o' id=o id)(h:Aq P g args rd o fr v Δ):Aq P g args rd o' fr v Δ:=
 ⟨h.1,fun o2 us M φ w vals h1 h2 h3=>h.2 o2 us M φ w vals (fun id aj=>⟨(h1 id aj).1.trans (ho id aj),(h1 id aj).2⟩) h2 h3⟩
theorem qx{s s':S}{fr:Nat}{op:Op}{v:V}{Δ:List (Nat×ae)}{rd:List Nat}(hv:∀x∈op.operands,s'.ev x=s.ev x)(ho:∀id∈rd,s'.o id=s.o id)(ml:s'.nx=s.nx)(h:uB P s fr op v Δ rd):∃uz,uB P s' fr op v Δ uz:=by
 rcases h with⟨⟨uz,h⟩,me⟩|⟨c,f,g,first,cap,rfl,eg,rV,h⟩
 ·exact⟨_, .inl ⟨⟨uz,by rw[Ao op hv (by rw[<- me];exact ho)];exact h⟩,rfl⟩⟩
 ·obtain⟨hf,hm⟩:=sj hv rfl eg rV
  rcases h with⟨ds,rs,eW,hP,tx,me,KL⟩|⟨rs,hH,tx,me⟩|⟨ds,eW,hP,me,KL⟩|⟨hH,me⟩
  ·have hr:∀id∈V.ag (first++c.args.toList.map s.ev++cap),s'.o id=s.o id:=fun id aj=>ho id (by rw[me];simp only[iX,eg,rV];exact aj)
   refine⟨_, .inr ⟨c,f,g,first,cap,rfl,eg,hf, .inl ⟨ds,rs,by rw[hm,gO _ hr];exact eW,hP,tx,rfl, ?_⟩⟩⟩
   rw[hm,fV (o:=s.o) fun id aj=>hr id (jm _ id aj)]
   exact KL
  ·exact⟨rd, .inr ⟨c,f,g,first,cap,rfl,eg,hf, .inr (.inl ⟨rs,by rw[hm];exact hH.frame ho,tx,by rw[ml];exact me⟩)⟩⟩
  ·have hr:∀id∈V.ag (first++c.args.toList.map s.ev++cap),s'.o id=s.o id:=fun id aj=>ho id (by rw[me];simp only[iX,eg,rV];exact aj)
   refine⟨_, .inr ⟨c,f,g,first,cap,rfl,eg,hf, .inr (.inr (.inl ⟨ds,by rw[hm,gO _ hr];exact eW,hP,rfl, ?_⟩))⟩⟩
   rw[hm,fV (o:=s.o) fun id aj=>hr id (jm _ id aj)]
   exact KL
  ·exact⟨rd, .inr ⟨c,f,g,first,cap,rfl,eg,hf, .inr (.inr (.inr ⟨by rw[hm];exact hH.frame ho,by rw[ml];exact me⟩))⟩⟩
theorem x7{s s':S}{op:Op}{v:V}{ws rd:List Nat}(hv:∀x∈op.operands,s'.ev x=s.ev x)(ho:∀id∈rd,s'.o id=s.o id)(ml:s'.nx=s.nx)(h:x4 P s op v ws rd):x4 P s' op v ws rd:=by
 obtain⟨c,f,g,first,cap,rfl,eg,rV,h⟩:=h
 obtain⟨hf,hm⟩:=sj hv rfl eg rV
 refine⟨c,f,g,first,cap,rfl,eg,hf, ?_⟩
 rw[hm]
 rcases h with⟨ds,x,eW,hP,la,tx,me,HA⟩|⟨x,Δ,hH,tx,HA,me⟩
 ·have hr:∀id∈V.ag (first++c.args.toList.map s.ev++cap),s'.o id=s.o id:=fun id aj=>ho id (by rw[me];simp only[iX,eg,rV];exact aj)
  exact .inl ⟨ds,x,by rw[gO _ hr];exact eW,hP,la,tx,by rw[me];simp only[iX,eg,rV,hf,hm],HA⟩
 ·exact .inr ⟨x,Δ,hH.frame ho,tx,HA,by rw[ml];exact me⟩
theorem sm{ops:Array Oper}:∀ (l:List Oper) (l':List cf) (i:Nat) (o:Oper),kj n ops l=some l'->l[i]? =some o->Ey n ops o=some (bX l' i)
 |[],_,_,_,_,h=>by simp at h
 |x::l,l',i,o,h,hi=>by
  simp only[kj]at h
  split at h
  ·rename_i y ys hy YU
   injection h with h;subst h
   cases i with
   |zero=>simp at hi;subst hi;exact hy
   |succ i=>exact sm l ys i o YU (by simpa using hi)
  ·cases h
theorem uE{ops:Array Oper}{o:Oper}{x:cf}(h:Ey n ops o=some x):x.op=o.op/\x.dst=o.dst/\gr n o.dst/\
 (match o.guard with|none=>x.gd=none|some (j,want)=>∃d,qg ops j=some d/\x.gd=some (d,want)):=by
 unfold Ey at h
 split at h
 ·rename_i hd
  have cP:gr n o.dst:=by
   unfold zK at hd;unfold gr
   split at hd<;>simp_all
  cases hg:o.guard with
  |none=>simp only[hg]at h;injection h with h;subst h;exact⟨rfl,rfl,cP,rfl⟩
  |some p=>
   obtain⟨j,want⟩:=p
   simp only[hg]at h
   cases Jh:qg ops j with
   |none=>simp[Jh]at h
   |some d=>simp only[Jh]at h;injection h with h;subst h;exact⟨rfl,rfl,cP,d,Jh,rfl⟩
 ·cases h
theorem nQ{ops:Array Oper}{ak:Array Bool}(pN:∀k,k<ops.size->∀j∈bu ops k,j<k)(hs:ak.size=ops.size)(hr:Region.ready .any ops ak=[]):∀k,k<ops.size->ak.getD k false=true:=by
 intro k
 induction k using Nat.strongRecOn with
 |_ k ih=>
  intro hk
  cases hl:ak.getD k false with
  |true=>rfl
  |false=>
   have:k∈Region.ready .any ops ak:=by
    refine mem_ready.2 ⟨?_,ops[k],by simp[hk],fun e he hb=> ?_⟩
    ·simp only[Array.getD_eq_getD_getElem?]at hl|-
     rw[Array.getElem?_eq_getElem (by omega)]at hl|-
     simpa using hl
    ·have hm:e.on∈bu ops k:=by
      simp only[bu,Array.getElem?_eq_getElem hk,List.mem_map,List.mem_filter]
      exact⟨e,⟨Array.mem_toList_iff.2 he,hb⟩,rfl⟩
     exact ih _ (pN k hk _ hm) (by have:=pN k hk _ hm;omega)
   rw[hr]at this;cases this
theorem x8(hs:cd M cC H0 w0 n cx φ s a w):cd M cC H0 w0 n cx φ s a {w with drawn:=w.drawn+1}:=by
 obtain⟨k1,k2⟩:=fS (w':={w with drawn:=w.drawn+1}) hs.heap ⟨rfl,rfl,rfl,Nat.le_refl _,fun _ _ _=>rfl⟩
 exact⟨k1,hs.tr.trans k2,hs.size,hs.defers.mono k2,fun i=>V.aC k2 _ _ (hs.env i)⟩
theorem jn{oc:Nat->cf}{ac:Nat->fe}{E:Nat->Bool}:∀k,(eK oc ac E s k).nx=s.nx
 |0=>rfl
 |k+1=>by
  simp only[eK]
  split
  ·cases ac k<;>exact jn k
  ·exact jn k
theorem BD{oc:Nat->cf}{ac:Nat->fe}{E:Nat->Bool}{t:Nat}:∀k,(∀j,j<k->(oc j).dst≠some t)->(eK oc ac E s k).env t=s.env t
 |0,_=>rfl
 |k+1,h=>by
  have ih:=BD (oc:=oc) (ac:=ac) (E:=E) (t:=t) k fun j hj=>h j (by omega)
  simp only[eK]
  split
  ·rw[j6 fun d hd e=>h k (by omega) (by rw[hd,e])];exact ih
  ·exact ih
theorem Jj{oc:Nat->cf}{ac:Nat->fe}{E:Nat->Bool}{id:Nat}:∀k,(∀j,j<k->id∉j5 (ac j))->(eK oc ac E s k).o id=s.o id
 |0,_=>rfl
 |k+1,h=>by
  have ih:=Jj (oc:=oc) (ac:=ac) (E:=E) (id:=id) k fun j hj=>h j (by omega)
  simp only[eK]
  split
  ·rw[my (h k (by omega))];exact ih
  ·exact ih
theorem x9(bc:P.follows .mixedOrders=true){ops:Array Oper}{l:List cf}{id:Nat}(ng:kj n ops ops.toList=some l)(pN:∀k,k<ops.size->∀j∈bu ops k,j<k){ac:Nat->fe}{dl wl:List Nat}
 (hs:cd M cC H0 w0 n cx φ s a w) (KM:∀i,i<ops.size->Ji P (eK (bX l) ac (fun _=>true) s i) (s.nx+i) (bX l i) (ac i))
 (Db:∀i,i<ops.size->ac i= .dS->∃j∈bu ops i,(ac j).ok=false)
 {po:Nat->Nat->Prop} (BE:∀E:Nat->Bool,(∀k,k<ops.size->E k=true->∀j∈bu ops k,E j=true)->∀k,k<ops.size->(∀j∈bu ops k,E j=true)->∀j,po k j->E j=true) (ya:∀k,k<ops.size->∀j,po k j->j<k)
 (hc:∀i j,i<j->j<ops.size-> ¬po j i->Compat (bX l) ac (fun i=>tI (ac i)) i j)
 (S2:∀i,i<ops.size->∀t,(bX l i).dst=some t->dl.contains t=true) (MM:∀i,i<ops.size->∀id∈j5 (ac i),wl.contains id=true)
 (HA:∀i v ws rd,i<ops.size->ac i= .bK v ws rd->∀id∈ws,wl.contains id=true)
 (hQ:(∀i,i<ops.size->(ac i).ok=true)->∀φ a w,cd M cC H0 w0 n cx φ ⟨(eK (bX l) ac (fun _=>true) s ops.size).env,(eK (bX l) ac (fun _=>true) s ops.size).o,s.nx+ops.size⟩ a w->Q .normal a w)
 (hX:∀i v ws rd,i<ops.size->ac i= .bK v ws rd->∀φ a w val,cd M cC H0 w0 n cx φ (si dl wl ops.size s) a w->V.den (ai M φ (si dl wl ops.size s).H) φ (si dl wl ops.size s).H w v val->Q (.panic [{v:=val,recovered:=false}]) a w):
 (Code.region id ops true).wpIn (dT ro) k P Q a w:=by
 refine wpIn_region_any bc ?_
 have hs:=x8 hs
 generalize ({w with drawn:=w.drawn+1}:World)=w at hs
 let N:=ops.size
 let Ef (ak:Array Bool) (k:Nat):Bool:=ak.getD k false
 let Ax (ak:Array Bool) (j:Nat):Prop:=j<s.nx\/∃k,k<N/\Ef ak k=true/\j=s.nx+k
 have key:∀ (fuel:Nat) (ak:Array Bool) (φ:Place) (a:Act) (w:World),ak.size=N->ak.count true+fuel=N->(∀k,k<N->Ef ak k=true->∀j∈bu ops k,Ef ak j=true)->(∀k,k<N->Ef ak k=true->(ac k).ok=true)->
  qU M cC H0 w0 n cx φ (eK (bX l) ac (Ef ak) s N) (Ax ak) a w->wpAnyIn (dT ro) k P .any ops Q fuel ak a w:=by
  have fin:∀ (ak:Array Bool) (φ:Place) (a:Act) (w:World),(∀k,k<N->Ef ak k=true)->(∀k,k<N->Ef ak k=true->(ac k).ok=true)->qU M cC H0 w0 n cx φ (eK (bX l) ac (Ef ak) s N) (Ax ak) a w->Q .normal a w:=by
   intro ak φ a w aP Ay hu
   have e:∀k,k<=N->eK (bX l) ac (Ef ak) s k=eK (bX l) ac (fun _=>true) s k:=by
    intro k
    induction k with
    |zero=>intro _;rfl
    |succ k ih=>intro hk;simp only[eK,aP k (by omega),ih (by omega)]
   rw[e N (Nat.le_refl _)]at hu
   obtain⟨k1,k2⟩:=iO (us':=fun id=>id<s.nx+N) hu.heap (fun id h=>by
    show id<s.nx+N
    rcases h with h|⟨k,hk,_,rfl⟩<;>omega)
   exact hQ (fun i hi=>Ay i hi (aP i hi)) φ a w ⟨k1,hu.tr.trans k2,hu.size,hu.defers.mono k2,fun i=>V.aC k2 _ _ (hu.env i)⟩
  intro fuel
  induction fuel with
  |zero=>
   intro ak φ a w ej Dc jA Ay hu
   have aP:∀k,k<N->Ef ak k=true:=by
    intro k hk
    have h1:ak.count true=ak.size:=by omega
    rw[Array.count_eq_size]at h1
    have:=h1 ak[k] (Array.getElem_mem (by omega))
    simp only[Ef,Array.getD_eq_getD_getElem?]
    rw[Array.getElem?_eq_getElem (by omega)]
    simpa using this.symm
   refine⟨?_,fin ak φ a w aP Ay hu⟩
   rw[List.eq_nil_iff_forall_not_mem]
   intro k hk
   obtain⟨h1,o,h2,_⟩:=mem_ready.1 hk
   have YV:k<N:=(Array.getElem?_eq_some_iff.1 h2).1
   have:=aP k YV
   simp only[Ef,Array.getD_eq_getD_getElem?]at this h1
   rw[Array.getElem?_eq_getElem (by omega)]at this h1
   simp only[Option.getD_some]at this h1
   rw[this]at h1;cases h1
  |succ fuel ih=>
   intro ak φ a w ej Dc jA Ay hu
   refine⟨fun hr=>fin ak φ a w (nQ pN ej hr) Ay hu,fun i hi=> ?_⟩
   obtain⟨h1,o,h2,h3⟩:=mem_ready.1 hi
   have qV:i<N:=(Array.getElem?_eq_some_iff.1 h2).1
   have lW:Ef ak i=false:=by
    simp only[Ef,Array.getD_eq_getD_getElem?]at h1|-
    rw[Array.getElem?_eq_getElem (by omega)]at h1|-
    simpa using h1
   have Av:∀j∈bu ops i,Ef ak j=true:=by
    intro j hj
    simp only[bu,h2,List.mem_map,List.mem_filter]at hj
    obtain⟨e,⟨he,hb⟩,rfl⟩:=hj
    exact h3 e (Array.mem_toList_iff.1 he) hb
   have Fi:wb N po (Ef ak):=fun k hk gy=>BE _ jA k hk (jA k hk gy)
   obtain⟨Ov,Sl⟩:=agree (s:=s) ya hc Fi qV lW (BE _ jA i qV Av)
   obtain⟨g1,g2,g3,g4⟩:=uE (sm _ _ i o ng (by simpa using h2))
   have dU: ¬Ax ak (s.nx+i):=by
    rintro(h|⟨k,_,hk,he⟩)
    ·omega
    ·have:k=i:=by omega
     subst this;rw[lW]at hk;cases hk
   have Aw:∀k,Ef (ak.setIfInBounds i true) k=(Ef ak k||k==i):=by
    intro k
    simp only[Ef,Array.getD_eq_getD_getElem?]
    by_cases e:k=i
    ·subst e;simp[ej,qV]
    ·rw[Array.getElem?_setIfInBounds_ne (Ne.symm e)]
     have:(k==i)=false:=by simpa using e
     simp[this]
   have KN:=insert (s:=s) hc Fi qV lW Aw
   have Fj:∀k,k<N->Ef (ak.setIfInBounds i true) k=true->∀j∈bu ops k,Ef (ak.setIfInBounds i true) j=true:=by
    intro k hk gy j hj
    rw[Aw]at gy|-
    by_cases e:k=i
    ·subst e;simp[Av j hj]
    ·have:(k==i)=false:=by simpa using e
     rw[this,Bool.or_false]at gy
     simp[jA k hk gy j hj]
   have Fk:(ak.setIfInBounds i true).count true+fuel=N:=by
    have bM:i<ak.size:=by omega
    have e1:ak.setIfInBounds i true=ak.set i true bM:=by simp[Array.setIfInBounds,bM]
    have e2:ak[i]=false:=by
     have:=lW
     simp only[Ef,Array.getD_eq_getD_getElem?]at this
     rw[Array.getElem?_eq_getElem bM]at this
     simpa using this
    rw[e1,Array.count_set bM,e2]
    simp
    omega
   have lO:(ac i).ok=true->∀ax a' w',qU M cC H0 w0 n cx ax (tz o.dst (ac i) (eK (bX l) ac (Ef ak) s N)) (fun id=>Ax ak id\/id=s.nx+i) a' w'->wpAnyIn (dT ro) k P .any ops Q fuel (ak.setIfInBounds i true) a' w':=by
    intro Ow ax a' w' vz
    refine ih _ ax a' w' (by simp[ej]) Fk Fj (fun k hk gy=> ?_) ?_
    ·rw[Aw]at gy
     by_cases e:k=i
     ·subst e;exact Ow
     ·have:(k==i)=false:=by simpa using e
      rw[this,Bool.or_false]at gy
      exact Ay k hk gy
    rw[KN,g2]
    obtain⟨k1,k2⟩:=iO (us':=Ax (ak.setIfInBounds i true)) vz.heap (fun id h=>by
     rcases h with(h|⟨k,hk,gy,rfl⟩)|rfl
     ·exact .inl h
     ·exact .inr ⟨k,hk,by rw[Aw,gy];rfl,rfl⟩
     ·exact .inr ⟨i,qV,by rw[Aw];simp,rfl⟩)
    exact⟨k1,vz.tr.trans k2,vz.size,vz.defers.mono k2,fun j=>V.aC k2 _ _ (vz.env j)⟩
   have Dd:∀d want,(bX l i).gd=some (d,want)->(eK (bX l) ac (Ef ak) s N).env d=(eK (bX l) ac (fun _=>true) s i).env d:=fun d want hd=>Ov d (by simp[eX,tmpsOf,hd])
   have bz:=KM i qV
   have De:∀x∈(bX l i).op.operands,(eK (bX l) ac (Ef ak) s N).ev x=(eK (bX l) ac (fun _=>true) s i).ev x:=fun x hx=>x6 fun t ht=>Ov t (by
    subst ht
    simp only[eX,tmpsOf,List.mem_append,List.mem_filterMap]
    exact .inl (.inl ⟨.tmp t,Array.mem_toList_iff.2 hx,rfl⟩))
   have HB:(eK (bX l) ac (Ef ak) s N).nx=(eK (bX l) ac (fun _=>true) s i).nx:=(jn N).trans (jn i).symm
   unfold wpOpIn
   simp only[h2]
   cases qW:ac i with
   |skip=>
    rw[qW]at bz lO
    have hw:=fu hu.env g4 (fw Dd bz)
    simp only[hw,Bool.false_eq_true,if_false]
    refine⟨fun _ _=>trivial,lO rfl φ _ w ?_⟩
    have:=ij (v:= .bW []) (val:=undef) hu hu.heap (Trans.refl _ _ _) ⟨#[],rfl,rfl⟩ (dst:=o.dst) g3 rfl (us':=fun id=>Ax ak id\/id=s.nx+i) (fun id h=> .inl h)
    exact this
   |val v Δ rd=>
    rw[qW]at bz lO
    have hw:=fu hu.env g4 (fw Dd bz.1)
    simp only[hw,if_true]
    obtain⟨uz,qO⟩:=qx De (fun id aj=>Sl id (by rw[qW];exact aj)) HB bz.2
    exact x5 hu dU (fun id h=> .inl (by rw[jn]at h;exact h)) g1.symm g3 qO (lO rfl)
   |bK v ws rd=>
    rw[qW]at bz
    have hw:=fu hu.env g4 (fw Dd bz.1)
    simp only[hw,if_true]
    have qO:=x7 De (fun id aj=>Sl id (by rw[qW];exact aj)) HB bz.2
    refine Fh (s0:=s) (ds:=dl) (wl:=wl) (N:=N) hu (fun id h=> .inl (by rw[jn]at h;exact h)) (fun id h=> ?_) g1.symm qO (fun t ht=> ?_) (fun id aj=> ?_) (HA i v ws rd qV qW) (jn N).symm (fun ax w' val h1 h2=>hX i v ws rd qV qW ax a w' val h1 h2)
    ·rw[jn]
     rcases h with h|⟨k,hk,_,rfl⟩<;>omega
    ·refine BD N fun j hj e=> ?_
     have:=S2 j hj t e
     rw[ht]at this;cases this
    ·refine Jj N fun j hj hm=> ?_
     have:=MM j hj id hm
     rw[aj]at this;cases this
   |dS=>
    exfalso
    obtain⟨j,hj,KO⟩:=Db i qV qW
    have:=Ay j (Nat.lt_trans (pN i qV j hj) qV) (Av j hj)
    rw[KO]at this;cases this
 refine key ops.size _ φ a w (by simp[N]) (by simp[N,Array.count_replicate]) (fun k hk gy=> ?_) (fun k hk gy=> ?_) ?_
 ·simp[Ef,Array.getD_eq_getD_getElem?,Array.getElem?_replicate]at gy
  split at gy<;>simp at gy
 ·simp[Ef,Array.getD_eq_getD_getElem?,Array.getElem?_replicate]at gy
  split at gy<;>simp at gy
 ·have e:∀k,eK (bX l) ac (Ef (Array.replicate ops.size false)) s k=s:=by
   intro k
   induction k with
   |zero=>rfl
   |succ k ih=>
    have:Ef (Array.replicate ops.size false) k=false:=by
     simp only[Ef,Array.getD_eq_getD_getElem?,Array.getElem?_replicate]
     split<;>rfl
    simp only[eK,this,ih]
    rfl
  rw[e]
  obtain⟨k1,k2⟩:=iO (us':=Ax (Array.replicate ops.size false)) hs.heap (fun id h=> .inl h)
  exact⟨k1,hs.tr.trans k2,hs.size,hs.defers.mono k2,fun j=>V.aC k2 _ _ (hs.env j)⟩
end
end Go.Proofs.YtealblliddhgiaaGreat
namespace Go.Proofs.YtealblliddhgiaaGreat
section
variable {P:Program}{M:Nat->Prop}{φ cC:Place}{H0:Hp}{w w' w0:World}{n:Nat}{s:S}{us:Nat->Prop}{a:Act}{cx:Cx}{ro:Option Nat}{k:Nat}
variable {Q:Exit->Act->World->Prop}
theorem Df{ops:Array Oper}{po:Nat->Nat->Prop}{m:Nat}{X:V->S->Prop}{K:S->Prop}
 (pN:∀k,k<ops.size->∀j∈bu ops k,j<k)
 (BE:∀E:Nat->Bool,(∀k,k<ops.size->E k=true->∀j∈bu ops k,E j=true)->∀k,k<ops.size->(∀j∈bu ops k,E j=true)->∀j,po k j->E j=true)
 (BF:∀k,m<=k->k<ops.size->∀j,j<k->po k j)
 (hK:∀s φ a w,K s->cd M cC H0 w0 n cx φ s a w->Q .normal a w)
 (hX:∀v s' ax a' w' val,X v s'->cd M cC H0 w0 n cx ax s' a' w'->V.den (ai M ax s'.H) ax s'.H w' v val->Q (.panic [{v:=val,recovered:=false}]) a' w'):
 ∀ (d t:Nat) (s:S) (φ:Place) (ak:Array Bool) (a:Act) (w:World),t+d=ops.size->ak.size=ops.size->(∀k,k<ops.size->ak.getD k false=decide (k<t))->m<=t->
   cd M cC H0 w0 n cx φ s a w->vJ P n ops X K (ops.toList.drop t) s->wpAnyIn (dT ro) k P .any ops Q d ak a w:=by
 intro d
 induction d with
 |zero=>
  intro t s φ ak a w ht ej hl Er hs h
  have e:t=ops.size:=by omega
  subst e
  refine⟨?_, ?_⟩
  ·rw[List.eq_nil_iff_forall_not_mem]
   intro j hj
   obtain⟨h1,o,h2,_⟩:=mem_ready.1 hj
   have Ww:j<ops.size:=(Array.getElem?_eq_some_iff.1 h2).1
   have:=hl j Ww
   simp only[Array.getD_eq_getD_getElem?]at this h1
   rw[Array.getElem?_eq_getElem (by omega)]at this h1
   simp only[Option.getD_some]at this h1
   rw[h1]at this
   simp[Ww]at this
  ·rw[List.drop_eq_nil_of_le (by simp)]at h
   exact hK s φ a w h hs
 |succ d ih=>
  intro t s φ ak a w ht ej hl Er hs h
  have TF:t<ops.size:=by omega
  refine⟨fun hr=> ?_,fun i hi=> ?_⟩
  ·have:=nQ pN ej hr t TF
   rw[hl t TF]at this
   simp at this
  ·obtain⟨h1,o,h2,h3⟩:=mem_ready.1 hi
   have qV:i<ops.size:=(Array.getElem?_eq_some_iff.1 h2).1
   have lW:ak.getD i false=false:=by
    simp only[Array.getD_eq_getD_getElem?]at h1|-
    rw[Array.getElem?_eq_getElem (by omega)]at h1|-
    simpa using h1
   have Ox:t<=i:=by
    have:=hl i qV
    rw[lW]at this
    have:=of_decide_eq_false this.symm
    omega
   have Av:∀j∈bu ops i,ak.getD j false=true:=by
    intro j hj
    simp only[bu,h2,List.mem_map,List.mem_filter]at hj
    obtain⟨e,⟨he,hb⟩,rfl⟩:=hj
    exact h3 e (Array.mem_toList_iff.1 he) hb
   have jA:∀k,k<ops.size->ak.getD k false=true->∀j∈bu ops k,ak.getD j false=true:=by
    intro k hk gy j hj
    have NU:=pN k hk j hj
    rw[hl k hk]at gy
    rw[hl j (by omega)]
    have:=of_decide_eq_true gy
    exact decide_eq_true (by omega)
   have Tb:i=t:=by
    rcases Nat.eq_or_lt_of_le Ox with e|e
    ·exact e.symm
    ·have:=BE (fun k=>ak.getD k false) jA i qV Av t (BF i (by omega) qV t e)
     rw[hl t TF]at this
     simp at this
   subst Tb
   have yc:ops.toList.drop i=o::ops.toList.drop (i+1):=by
    have KA:i<ops.toList.length:=by simpa using qV
    rw[List.drop_eq_getElem_cons KA]
    have:ops.toList[i]=o:=by
     have:=(Array.getElem?_eq_some_iff.1 h2).2
     simpa using this
    rw[this]
   rw[yc]at h
   obtain⟨g1,g2⟩:=oO hs h
   have Ht:∀k,k<ops.size->(ak.setIfInBounds i true).getD k false=decide (k<i+1):=by
    intro k hk
    simp only[Array.getD_eq_getD_getElem?]
    by_cases e:k=i
    ·subst e;simp[ej,qV]
    ·rw[Array.getElem?_setIfInBounds_ne (Ne.symm e)]
     have:=hl k hk
     simp only[Array.getD_eq_getD_getElem?]at this
     rw[this]
     exact decide_eq_decide.2 (by omega)
   have lO:∀s' ax a' w',vJ P n ops X K (ops.toList.drop (i+1)) s'->cd M cC H0 w0 n cx ax s' a' w'->wpAnyIn (dT ro) k P .any ops Q d (ak.setIfInBounds i true) a' w':=
    fun s' ax a' w' hk iz=>ih (i+1) s' ax _ a' w' (by omega) (by simp[ej]) Ht (by omega) iz hk
   unfold wpOpIn
   simp only[h2]
   split
   ·rename_i hw
    exact ur hs (g1 hw) (fun s' ax a' w' hk iz=>lO s' ax a' w' hk iz) (fun v s' ax w' val hx iz hd=>hX v s' ax a w' val hx iz hd)
   ·rename_i hw
    obtain⟨cP,h3⟩:=g2 (by simpa using hw)
    exact⟨fun _ _=>trivial,lO _ _ _ _ h3 (xN hs cP)⟩
theorem Az(bc:P.follows .mixedOrders=true){ops:Array Oper}{l:List cf}{id:Nat}(ng:kj n ops ops.toList=some l)(pN:∀k,k<ops.size->∀j∈bu ops k,j<k){ac:Nat->fe}{m:Nat}(hm:m<=ops.size){X:V->S->Prop}{K:S->Prop}
 (hs:cd M cC H0 w0 n cx φ s a w) (KM:∀i,i<m->Ji P (eK (bX l) ac (fun _=>true) s i) (s.nx+i) (bX l i) (ac i))
 (Oy:∀i,i<m->(ac i).ok=true)
 {po:Nat->Nat->Prop} (BE:∀E:Nat->Bool,(∀k,k<ops.size->E k=true->∀j∈bu ops k,E j=true)->∀k,k<ops.size->(∀j∈bu ops k,E j=true)->∀j,po k j->E j=true) (ya:∀k,k<ops.size->∀j,po k j->j<k)
 (hc:∀i j,i<j->j<m-> ¬po j i->Compat (bX l) ac (fun i=>tI (ac i)) i j)
 (BF:∀k,m<=k->k<ops.size->∀j,j<k->po k j)
 (gK:vJ P n ops X K (ops.toList.drop m) ⟨(eK (bX l) ac (fun _=>true) s m).env,(eK (bX l) ac (fun _=>true) s m).o,s.nx+m⟩)
 (hK:∀s φ a w,K s->cd M cC H0 w0 n cx φ s a w->Q .normal a w)
 (hX:∀v s' ax a' w' val,X v s'->cd M cC H0 w0 n cx ax s' a' w'->V.den (ai M ax s'.H) ax s'.H w' v val->Q (.panic [{v:=val,recovered:=false}]) a' w'):
 (Code.region id ops true).wpIn (dT ro) k P Q a w:=by
 refine wpIn_region_any bc ?_
 have hs:=x8 hs
 generalize ({w with drawn:=w.drawn+1}:World)=w at hs
 let N:=m
 let Ef (ak:Array Bool) (k:Nat):Bool:=ak.getD k false
 let Ax (ak:Array Bool) (j:Nat):Prop:=j<s.nx\/∃k,k<N/\Ef ak k=true/\j=s.nx+k
 have key:∀ (fuel:Nat) (ak:Array Bool) (φ:Place) (a:Act) (w:World),ak.size=ops.size->ak.count true+fuel=ops.size->(∀k,k<ops.size->Ef ak k=true->∀j∈bu ops k,Ef ak j=true)->(∀k,k<ops.size->Ef ak k=true->k<m)->
  qU M cC H0 w0 n cx φ (eK (bX l) ac (Ef ak) s N) (Ax ak) a w->wpAnyIn (dT ro) k P .any ops Q fuel ak a w:=by
  have fin:∀ (fuel:Nat) (ak:Array Bool) (φ:Place) (a:Act) (w:World),ak.size=ops.size->ak.count true+fuel=ops.size->(∀k,k<ops.size->Ef ak k=true->k<m)->(∀k,k<N->Ef ak k=true)->qU M cC H0 w0 n cx φ (eK (bX l) ac (Ef ak) s N) (Ax ak) a w->wpAnyIn (dT ro) k P .any ops Q fuel ak a w:=by
   intro fuel ak φ a w ej Dc bM aP hu
   have e:∀k,k<=N->eK (bX l) ac (Ef ak) s k=eK (bX l) ac (fun _=>true) s k:=by
    intro k
    induction k with
    |zero=>intro _;rfl
    |succ k ih=>intro hk;simp only[eK,aP k (by omega),ih (by omega)]
   rw[e N (Nat.le_refl _)]at hu
   obtain⟨k1,k2⟩:=iO (us':=fun id=>id<s.nx+N) hu.heap (fun id h=>by
    show id<s.nx+N
    rcases h with h|⟨k,hk,_,rfl⟩<;>omega)
   have Jk:∀k,k<ops.size->ak.getD k false=decide (k<m):=by
    intro k hk
    by_cases h:k<m
    ·rw[decide_eq_true h];exact aP k h
    ·rw[decide_eq_false h]
     cases hb:ak.getD k false with
     |false=>rfl
     |true=>exact absurd (bM k hk hb) h
   have Sm:ak.count true=m:=by
    have e1:ak=Array.ofFn (n:=ops.size) fun k=>decide (k.1<m):=by
     apply Array.ext
     ·simp[ej]
     ·intro k h1 h2
      have:=Jk k (by omega)
      simp only[Array.getD_eq_getD_getElem?]at this
      rw[Array.getElem?_eq_getElem h1]at this
      simpa using this
    have e2:ak.toList=List.replicate m true++List.replicate (ops.size - m) false:=by
     apply List.ext_getElem?
     intro k
     by_cases hk:k<ops.size
     ·have h1:ak.toList[k]? =some (decide (k<m)):=by
       have:=Jk k hk
       simp only[Array.getD_eq_getD_getElem?]at this
       rw[Array.getElem?_eq_getElem (by omega)]at this
       simp only[Option.getD_some]at this
       rw[Array.getElem?_toList,Array.getElem?_eq_getElem (by omega),this]
      rw[h1]
      by_cases h:k<m
      ·rw[List.getElem?_append_left (by simpa using h)]
       simp[h]
      ·rw[List.getElem?_append_right (by simpa using(by omega:m<=k))]
       rw[List.length_replicate,List.getElem?_replicate,if_pos (by omega),decide_eq_false h]
     ·rw[List.getElem?_eq_none (by simp[ej];omega),List.getElem?_eq_none (by simp;omega)]
    rw[<- Array.count_toList,e2,List.count_append,List.count_replicate_self,List.count_replicate]
    simp
   exact Df pN BE BF hK hX fuel m ⟨(eK (bX l) ac (fun _=>true) s m).env,(eK (bX l) ac (fun _=>true) s m).o,s.nx+m⟩ φ ak a w (by omega) ej Jk (Nat.le_refl _) ⟨k1,hu.tr.trans k2,hu.size,hu.defers.mono k2,fun i=>V.aC k2 _ _ (hu.env i)⟩ gK
  intro fuel
  induction fuel with
  |zero=>
   intro ak φ a w ej Dc jA bM hu
   have aP:∀k,k<ops.size->Ef ak k=true:=by
    intro k hk
    have h1:ak.count true=ak.size:=by omega
    rw[Array.count_eq_size]at h1
    have:=h1 ak[k] (Array.getElem_mem (by omega))
    simp only[Ef,Array.getD_eq_getD_getElem?]
    rw[Array.getElem?_eq_getElem (by omega)]
    simpa using this.symm
   exact fin 0 ak φ a w ej Dc bM (fun k hk=>aP k (by omega)) hu
  |succ fuel ih=>
   intro ak φ a w ej Dc jA bM hu
   by_cases Jl:∀k,k<m->Ef ak k=true
   ·exact fin (fuel+1) ak φ a w ej Dc bM Jl hu
   have hex:∃j,j<m/\Ef ak j=false:=by
    apply Classical.byContradiction
    intro Kv
    refine Jl fun k hk=> ?_
    cases hb:Ef ak k with
    |true=>rfl
    |false=>exact absurd ⟨k,hk,hb⟩ Kv
   obtain⟨j0,ZV,Oz⟩:=hex
   refine⟨fun hr=> ?_,fun i hi=> ?_⟩
   ·have:=nQ pN ej hr j0 (by omega)
    rw[show ak.getD j0 false=false from Oz]at this
    cases this
   obtain⟨h1,o,h2,h3⟩:=mem_ready.1 hi
   have TG:i<ops.size:=(Array.getElem?_eq_some_iff.1 h2).1
   have lW:Ef ak i=false:=by
    simp only[Ef,Array.getD_eq_getD_getElem?]at h1|-
    rw[Array.getElem?_eq_getElem (by omega)]at h1|-
    simpa using h1
   have Av:∀j∈bu ops i,Ef ak j=true:=by
    intro j hj
    simp only[bu,h2,List.mem_map,List.mem_filter]at hj
    obtain⟨e,⟨he,hb⟩,rfl⟩:=hj
    exact h3 e (Array.mem_toList_iff.1 he) hb
   have qV:i<N:=by
    apply Classical.byContradiction
    intro zS
    have zS:m<=i:=Nat.le_of_not_lt zS
    have:=BE _ jA i TG Av j0 (BF i zS TG j0 (by omega))
    rw[Oz]at this;cases this
   have Fi:wb N po (Ef ak):=fun k hk gy=>BE _ jA k (by omega) (jA k (by omega) gy)
   obtain⟨Ov,Sl⟩:=agree (s:=s) (n:=N) (fun k hk=>ya k (by omega)) hc Fi qV lW (BE _ jA i (by omega) Av)
   obtain⟨g1,g2,g3,g4⟩:=uE (sm _ _ i o ng (by simpa using h2))
   have dU: ¬Ax ak (s.nx+i):=by
    rintro(h|⟨k,_,hk,he⟩)
    ·omega
    ·have:k=i:=by omega
     subst this;rw[lW]at hk;cases hk
   have Aw:∀k,Ef (ak.setIfInBounds i true) k=(Ef ak k||k==i):=by
    intro k
    simp only[Ef,Array.getD_eq_getD_getElem?]
    by_cases e:k=i
    ·subst e;simp[ej,TG]
    ·rw[Array.getElem?_setIfInBounds_ne (Ne.symm e)]
     have:(k==i)=false:=by simpa using e
     simp[this]
   have KN:=insert (s:=s) hc Fi qV lW Aw
   have Fj:∀k,k<ops.size->Ef (ak.setIfInBounds i true) k=true->∀j∈bu ops k,Ef (ak.setIfInBounds i true) j=true:=by
    intro k hk gy j hj
    rw[Aw]at gy|-
    by_cases e:k=i
    ·subst e;simp[Av j hj]
    ·have:(k==i)=false:=by simpa using e
     rw[this,Bool.or_false]at gy
     simp[jA k hk gy j hj]
   have Fk:(ak.setIfInBounds i true).count true+fuel=ops.size:=by
    have bM:i<ak.size:=by omega
    have e1:ak.setIfInBounds i true=ak.set i true bM:=by simp[Array.setIfInBounds,bM]
    have e2:ak[i]=false:=by
     have:=lW
     simp only[Ef,Array.getD_eq_getD_getElem?]at this
     rw[Array.getElem?_eq_getElem bM]at this
     simpa using this
    rw[e1,Array.count_set bM,e2]
    simp
    omega
   have lO:(ac i).ok=true->∀ax a' w',qU M cC H0 w0 n cx ax (tz o.dst (ac i) (eK (bX l) ac (Ef ak) s N)) (fun id=>Ax ak id\/id=s.nx+i) a' w'->wpAnyIn (dT ro) k P .any ops Q fuel (ak.setIfInBounds i true) a' w':=by
    intro Ow ax a' w' vz
    refine ih _ ax a' w' (by simp[ej]) Fk Fj (fun k hk gy=> ?_) ?_
    ·rw[Aw]at gy
     by_cases e:k=i
     ·subst e;exact qV
     ·have:(k==i)=false:=by simpa using e
      rw[this,Bool.or_false]at gy
      exact bM k hk gy
    rw[KN,g2]
    obtain⟨k1,k2⟩:=iO (us':=Ax (ak.setIfInBounds i true)) vz.heap (fun id h=>by
     rcases h with(h|⟨k,hk,gy,rfl⟩)|rfl
     ·exact .inl h
     ·exact .inr ⟨k,hk,by rw[Aw,gy];rfl,rfl⟩
     ·exact .inr ⟨i,qV,by rw[Aw];simp,rfl⟩)
    exact⟨k1,vz.tr.trans k2,vz.size,vz.defers.mono k2,fun j=>V.aC k2 _ _ (vz.env j)⟩
   have Dd:∀d want,(bX l i).gd=some (d,want)->(eK (bX l) ac (Ef ak) s N).env d=(eK (bX l) ac (fun _=>true) s i).env d:=fun d want hd=>Ov d (by simp[eX,tmpsOf,hd])
   have bz:=KM i qV
   have De:∀x∈(bX l i).op.operands,(eK (bX l) ac (Ef ak) s N).ev x=(eK (bX l) ac (fun _=>true) s i).ev x:=fun x hx=>x6 fun t ht=>Ov t (by
    subst ht
    simp only[eX,tmpsOf,List.mem_append,List.mem_filterMap]
    exact .inl (.inl ⟨.tmp t,Array.mem_toList_iff.2 hx,rfl⟩))
   have HB:(eK (bX l) ac (Ef ak) s N).nx=(eK (bX l) ac (fun _=>true) s i).nx:=(jn N).trans (jn i).symm
   unfold wpOpIn
   simp only[h2]
   cases qW:ac i with
   |skip=>
    rw[qW]at bz lO
    have hw:=fu hu.env g4 (fw Dd bz)
    simp only[hw,Bool.false_eq_true,if_false]
    refine⟨fun _ _=>trivial,lO rfl φ _ w ?_⟩
    have:=ij (v:= .bW []) (val:=undef) hu hu.heap (Trans.refl _ _ _) ⟨#[],rfl,rfl⟩ (dst:=o.dst) g3 rfl (us':=fun id=>Ax ak id\/id=s.nx+i) (fun id h=> .inl h)
    exact this
   |val v Δ rd=>
    rw[qW]at bz lO
    have hw:=fu hu.env g4 (fw Dd bz.1)
    simp only[hw,if_true]
    obtain⟨uz,qO⟩:=qx De (fun id aj=>Sl id (by rw[qW];exact aj)) HB bz.2
    exact x5 hu dU (fun id h=> .inl (by rw[jn]at h;exact h)) g1.symm g3 qO (lO rfl)
   |bK v ws rd=>
    have:=Oy i qV
    rw[qW]at this;cases this
   |dS=>
    have:=Oy i qV
    rw[qW]at this;cases this
 refine key ops.size _ φ a w (by simp) (by simp[Array.count_replicate]) (fun k hk gy=> ?_) (fun k hk gy=> ?_) ?_
 ·simp[Ef,Array.getD_eq_getD_getElem?,Array.getElem?_replicate]at gy
  split at gy<;>simp at gy
 ·simp[Ef,Array.getD_eq_getD_getElem?,Array.getElem?_replicate]at gy
  split at gy<;>simp at gy
 ·have e:∀k,eK (bX l) ac (Ef (Array.replicate ops.size false)) s k=s:=by
   intro k
   induction k with
   |zero=>rfl
   |succ k ih=>
    have:Ef (Array.replicate ops.size false) k=false:=by
     simp only[Ef,Array.getD_eq_getD_getElem?,Array.getElem?_replicate]
     split<;>rfl
    simp only[eK,this,ih]
    rfl
  rw[e]
  obtain⟨k1,k2⟩:=iO (us':=Ax (Array.replicate ops.size false)) hs.heap (fun id h=> .inl h)
  exact⟨k1,hs.tr.trans k2,hs.size,hs.defers.mono k2,fun j=>V.aC k2 _ _ (hs.env j)⟩
end
end Go.Proofs.YtealblliddhgiaaGreat
