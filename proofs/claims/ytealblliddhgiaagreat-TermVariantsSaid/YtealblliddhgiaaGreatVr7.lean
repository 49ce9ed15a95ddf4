/-
  A PART OF THE PROOF. Conditions: none.
-/
import Derived.OrdersIn
import Derived.Test.YtealblliddhgiaaGreatVr6
set_option linter.unusedSimpArgs false
set_option linter.unusedVariables false
namespace Go.Proofs.YtealblliddhgiaaGreat
def ae.refs:ae->List Nat
 | .row cs=>V.ag cs
 | .loop _ _ env _ _ _ _ _=>V.ag env
 |_=>[]
def zT(R:List Nat)(o:Nat->ae):Nat->ae:=fun id=>if R.contains id=true then o id else .no
def zi(P:Program)(g:FuncId)(args:List V)(rd:List Nat)(o:Nat->ae)(out:R)(Δ:List (Nat×ae)):Prop:=
 Enters P g/\∀ (o':Nat->ae) (us:Nat->Prop) (M:Nat->Prop) (φ:Place) (w:World) (vals:Array Value),(∀id∈rd,o' id=o id/\us id)->au M φ ⟨o',us⟩ w->V.aC (ai M φ ⟨o',us⟩) φ ⟨o',us⟩ w args vals.toList->
  Calls P g vals w fun e w'=>∃ay,au M ay ⟨put o' Δ,us⟩ w'/\Trans φ ⟨o',us⟩ w ay ⟨put o' Δ,us⟩ w'/\out.is (ai M ay ⟨put o' Δ,us⟩) w' e
def zU(P:Program)(g:FuncId)(args:List V)(rd:List Nat)(o:Nat->ae)(fr:Nat)(v:V)(Δ:List (Nat×ae)):Prop:=
 Enters P g/\∀ (o':Nat->ae) (us:Nat->Prop) (M:Nat->Prop) (φ:Place) (w:World) (vals:Array Value),(∀id∈rd,o' id=o id/\us id)-> ¬us fr->au M φ ⟨o',us⟩ w->V.aC (ai M φ ⟨o',us⟩) φ ⟨o',us⟩ w args vals.toList->
  Calls P g vals w fun e w'=>∃ay,au M ay ⟨put o' Δ,fun id=>us id\/id=fr⟩ w'/\Trans φ ⟨o',us⟩ w ay ⟨put o' Δ,fun id=>us id\/id=fr⟩ w'/\∃val,e= .returned val/\V.den (ai M ay ⟨put o' Δ,fun id=>us id\/id=fr⟩) ay ⟨put o' Δ,fun id=>us id\/id=fr⟩ w' v val
mutual
theorem V.kA {B B':Nat->Prop}{φ ay:Place}{H H':Hp}{w:World}(hB:∀b, ¬B b-> ¬B' b):∀ (v:V) (val:Value),(∀id∈v.refs,H'.o id=H.o id/\ay id=φ id/\H'.us id)->V.den B φ H w v val->V.den B' ay H' w v val
 | .d x,val,_,h=>D.aA (w:=w) (w':=w) (fun b _ hn=>⟨rfl,hB b hn⟩) x val h
 | .aX,_,_,h=>h
 | .aa,_,_,_=>trivial
 | .eO,_,_,h=>h
 | .nr es,val,_,h=>⟨D.aA (w:=w) (w':=w) (fun b _ hn=>⟨rfl,hB b hn⟩) (.sl es) val h.1,h.2⟩
 | .agg cs,val,hr,h=>by
   obtain⟨a,rfl,h1,h2⟩:=h
   exact⟨a,rfl,V.eT hB cs _ (by simpa[V.refs]using hr) h1,h2⟩
 | .bT cs,val,hr,h=>by
   obtain⟨a,rfl,h1⟩:=h
   exact⟨a,rfl,V.eT hB cs _ (by simpa[V.refs]using hr) h1⟩
 | .ptr id off,val,hr,h=>by
   obtain⟨a,b,c⟩:=hr id (by simp[V.refs])
   obtain⟨h0,h1,h2⟩:=h
   refine⟨h0,c,fun a7=> ?_⟩
   rw[a]at a7
   obtain⟨x,y,z⟩:=h2 a7
   exact⟨x,b.trans y,z⟩
 | .osl id ep,val,hr,h=>by
   obtain⟨a,b,c⟩:=hr id (by simp[V.refs])
   obtain⟨h0,h1,h2⟩:=h
   refine⟨h0,c,fun e he=> ?_⟩
   rw[a]at he
   obtain⟨x,y⟩:=h2 e he
   exact⟨x,fun heq=>(y heq).trans b.symm⟩
 | .pe id ep i sz off,val,hr,h=>by
   obtain⟨a,b,c⟩:=hr id (by simp[V.refs])
   obtain⟨h0,h1,h2⟩:=h
   refine⟨h0,c,fun e he=> ?_⟩
   rw[a]at he
   obtain⟨x,y⟩:=h2 e he
   refine⟨x,fun heq=> ?_⟩
   obtain⟨p,q,r,z,u⟩:=y heq
   exact⟨p,q,r,b.trans z,u⟩
 | .pp cs off,val,_,h=>by
   obtain⟨a,ev,h1,h2,h3,h5,h4⟩:=h
   exact⟨a,ev,h1,h2,D.aI (w:=w) (w':=w) (fun b _ hn=>⟨rfl,hB b hn⟩) cs ev h3,h5,h4.mono (w:=w) (w':=w) (fun b _ hn=>⟨rfl,hB b hn⟩)⟩
 | .func fn first cap,val,hr,h=>by
   obtain⟨f,c,rfl,h1,h2⟩:=h
   exact⟨f,c,rfl,V.eT hB first _ (fun id aj=>hr id (by simp[V.refs,aj])) h1,V.eT hB cap _ (fun id aj=>hr id (by simp[V.refs,aj])) h2⟩
 | .iface t x,val,hr,h=>by
   obtain⟨u,rfl,h⟩:=h
   exact⟨u,rfl,V.kA hB x u (by simpa[V.refs]using hr) h⟩
 | .rk id off n,val,hr,h=>by
   obtain⟨a,b,c⟩:=hr id (by simp[V.refs])
   obtain⟨h0,h1,h2⟩:=h
   refine⟨h0,c,fun a7=> ?_⟩
   rw[a]at a7
   obtain⟨x,y,z⟩:=h2 a7
   exact⟨x,b.trans y,z⟩
 | .mp id,val,hr,h=>by
   obtain⟨a,b,c⟩:=hr id (by simp[V.refs])
   obtain⟨h0,h1,h2⟩:=h
   refine⟨h0,c,fun a7=> ?_⟩
   rw[a]at a7
   exact(h2 a7).trans b.symm
 | .ke id,val,hr,h=>by
   obtain⟨a,b,c⟩:=hr id (by simp[V.refs])
   obtain⟨h0,h1,h2⟩:=h
   refine⟨h0,c,fun a7=> ?_⟩
   rw[a]at a7
   obtain⟨x,y,z⟩:=h2 a7
   exact⟨x,b.trans y,z⟩
theorem V.eT {B B':Nat->Prop}{φ ay:Place}{H H':Hp}{w:World}(hB:∀b, ¬B b-> ¬B' b):∀ (vs:List V) (vals:List Value),(∀id∈V.ag vs,H'.o id=H.o id/\ay id=φ id/\H'.us id)->V.aC B φ H w vs vals->V.aC B' ay H' w vs vals
 |[],_,_,h=>h
 |v::vs,_,hr,h=>by
  obtain⟨u,us,rfl,h1,h2⟩:=h
  exact⟨u,us,rfl,V.kA hB v u (fun id aj=>hr id (by simp[V.ag,aj])) h1,V.eT hB vs us (fun id aj=>hr id (by simp[V.ag,aj])) h2⟩
end
theorem CF{env:List V}{i id:Nat}(h:id∈(bF env i).refs):id∈V.ag env:=by
 unfold bF at h
 induction env generalizing i with
 |nil=>simp[V.refs]at h
 |cons v env ih=>
  cases i with
  |zero=>simp only[List.getD_cons_zero]at h;simp[V.ag,h]
  |succ i=>simp only[List.getD_cons_succ]at h;simp[V.ag,ih h]
theorem aK.refs {M M':Nat->Prop}{φ ay:Place}{H H':Hp}{w:World}{id:Nat}(hB:∀b, ¬ai M φ H b-> ¬ai M' ay H' b)(ho:H'.o id=H.o id)(du:ay id=φ id)
 (hr:∀j∈(H.o id).refs,H'.o j=H.o j/\ay j=φ j/\H'.us j) (h:aK M φ H w id):aK M' ay H' w id:=by
 have hd:∀b,cn w b-> ¬ai M φ H b->w.heap[b]? =w.heap[b]? /\ ¬ai M' ay H' b:=fun b _ hn=>⟨rfl,hB b hn⟩
 unfold aK at*
 rw[ho]
 cases hx:H.o id with
 |no=>trivial
 |row cs=>
  simp only[hx]at h|-
  obtain⟨b,cP,ty,h1,h2,h3,h4⟩:=h
  exact⟨b,cP,ty,du.trans h1,h2,V.eT hB cs _ (fun j hj=>hr j (by rw[hx];exact hj)) h3,h4⟩
 |arr ep ty sz es=>
  simp only[hx]at h|-
  obtain⟨h0,xs,h1,evs,h2,h3,h4⟩:=h
  exact⟨h0,xs,by rw[du];exact h1,evs,h2,h3,D.aI hd es evs h4⟩
 |nW ep es=>
  simp only[hx]at h|-
  rw[du]
  exact D.aA hd (.sl es) _ h
 |map kt vt l=>
  simp only[hx]at h|-
  obtain⟨b,es,clock,h1,h2,h4,h3⟩:=h
  exact⟨b,es,clock,du.trans h1,h2,h4,aH.mono hd l _ h3⟩
 |dZ l=>
  simp only[hx]at h|-
  rw[du]
  exact D.aA hd (.mp _ _) _ h
 |kg l last=>
  simp only[hx]at h|-
  obtain⟨b,h1,h2⟩:=h
  exact⟨b,du.trans h1,h2.mono hd rfl⟩
 |rl s pos=>
  simp only[hx]at h|-
  obtain⟨b,h1,h2⟩:=h
  exact⟨b,du.trans h1,h2⟩
 |loop nf n env ps lO gU st B5=>
  simp only[hx]at h|-
  obtain⟨b,r,h1,h2,h0,h3,h4,h5,h6,h7,h8,h9⟩:=h
  exact⟨b,r,du.trans h1,h2,h0,h3,h4,h5,h6,h7,h8,fun i=>V.kA hB _ _ (fun j hj=>hr j (by rw[hx];exact CF hj)) (h9 i)⟩
section
variable {P:Program}
theorem zV{o o':Nat->ae}{Δ:List (Nat×ae)}{id:Nat}(h:o id=o' id):put o Δ id=put o' Δ id:=Bd h
where Bd {o o':Nat->ae}:∀ {Δ:List (Nat×ae)} {id:Nat},o id=o' id->put o Δ id=put o' Δ id
 |[],_,h=>h
 |x::Δ,id,h=>by
  simp only[put,List.foldl_cons]
  refine Bd (Δ:=Δ) (o:=ao o x.1 x.2) (o':=ao o' x.1 x.2) ?_
  simp only[aL]
  split
  ·rfl
  ·exact h
theorem qT{o:Nat->ae}:∀ {Δ:List (Nat×ae)} {id:Nat},(∀x∈Δ,x.1≠id)->put o Δ id=o id
 |[],_,_=>rfl
 |x::Δ,id,h=>by
  have:=qT (o:=ao o x.1 x.2) (Δ:=Δ) (id:=id) (fun y hy=>h y (by simp[hy]))
  simp only[put,List.foldl_cons]at this|-
  rw[this];simp[Ne.symm (h x (by simp))]
theorem zi.lg {g:FuncId}{args:List V}{rd:List Nat}{o:Nat->ae}{nx:Nat}{out:R}{Δ:List (Nat×ae)}(ni:∀id∈rd,id<nx)(ee:∀id∈V.ag args,id∈rd)(jB:∀id∈rd,∀j∈(o id).refs,j∈rd)(JY:∀x∈Δ,x.1∈rd)(SM:∀x∈Δ,∀j∈x.2.refs,j∈rd)
 (h:eI P g args (zT rd o) nx
  (fun v o1 _=>(∀id∈rd,o1 id=put o Δ id)/\∃vs rs,v=(match vs with|[v]=>v|vs=> .bT vs)/\bU o1 vs=some rs/\out= .ret rs/\∀id∈V.a8 vs,id∉rd)
  (fun v o1 _=>(∀id∈rd,o1 id=put o Δ id)/\∃x,dz o1 v=some x/\out= .bK x/\∀id∈v.ids,id∉rd)):zi P g args rd o out Δ:=by
 refine⟨h.1,fun o' us M φ w vals ho hH hd=> ?_⟩
 let M1:Nat->Prop:=fun b=>M b\/∃id,id∉rd/\(o' id).live=true/\eC (φ id)=some b
 let HR:Hp:=hp (zT rd o) nx
 have rU:∀id,id∈rd->zT rd o id=o' id:=fun id aj=>by simp[zT,aj,(ho id aj).1]
 have qm:∀id,id∉rd->zT rd o id= .no:=fun id aj=>by simp[zT,aj]
 have hB:∀b,ai M1 φ HR b↔ai M φ ⟨o',us⟩ b:=by
  intro b
  constructor
  ·rintro((h|⟨id,h1,h2,h3⟩)|⟨id,h1,h2⟩)
   ·exact .inl h
   ·exact .inr ⟨id,h2,h3⟩
   ·by_cases aj:id∈rd
    ·exact .inr ⟨id,by show(o' id).live=true;rw[<- rU id aj];exact h1,h2⟩
    ·have:HR.o id= .no:=qm id aj
     rw[this]at h1;cases h1
  ·rintro(h|⟨id,h1,h2⟩)
   ·exact .inl (.inl h)
   ·by_cases aj:id∈rd
    ·exact .inr ⟨id,by show(zT rd o id).live=true;rw[rU id aj];exact h1,h2⟩
    ·exact .inl (.inr ⟨id,aj,h1,h2⟩)
 have lH:∀id∈rd,HR.o id=o' id/\φ id=φ id/\HR.us id:=fun id aj=>⟨rU id aj,rfl,ni id aj⟩
 have XU:au M1 φ HR w:=by
  refine⟨fun id=> ?_,fun id hn=> ?_,fun i j b hi hj bi bj=> ?_,fun b hb=> ?_,fun b hb=> ?_⟩
  ·by_cases aj:id∈rd
   ·refine aK.refs (H:=⟨o',us⟩) (M:=M) (φ:=φ) (fun b hn hb=>hn ((hB b).1 hb)) (rU id aj) rfl (fun j hj=>lH j ?_) (hH.ok id)
    have:o' id=o id:=(ho id aj).1
    exact jB id aj j (by rw[<- this];exact hj)
   ·unfold aK
    rw[show HR.o id= .no from qm id aj];trivial
  ·exact qm id fun aj=>hn (ni id aj)
  ·have live:∀i,(HR.o i).live=true->i∈rd/\(o' i).live=true:=fun i hi=>by
    by_cases aj:i∈rd
    ·exact⟨aj,by rw[<- rU i aj];exact hi⟩
    ·rw[show HR.o i= .no from qm i aj]at hi;cases hi
   exact hH.apart i j b (live i hi).2 (live j hj).2 bi bj
  ·obtain⟨id,h1,h2⟩:=hb
   have aj:id∈rd:=by
    by_cases aj:id∈rd
    ·exact aj
    ·rw[show HR.o id= .no from qm id aj]at h1;cases h1
   rw[show HR.o id=o' id from rU id aj]at h1
   obtain⟨k1,k2⟩:=hH.ours b ⟨id,h1,h2⟩
   refine⟨?_,k2⟩
   rintro(hM|⟨j,j1,j2,j3⟩)
   ·exact k1 hM
   ·exact j1 (hH.apart j id b j2 h1 j3 h2 ▸ aj)
  ·rcases hb with hb|⟨id,h1,h2,h3⟩
   ·exact hH.tv b hb
   ·exact(hH.ours b ⟨id,h2,h3⟩).2
 have XW:V.aC (ai M1 φ HR) φ HR w args vals.toList:=V.eT (H:=⟨o',us⟩) (fun b hn hb=>hn ((hB b).1 hb)) _ _ (fun id aj=>lH id (ee id aj)) hd
 refine(h.2 M1 φ w vals XU XW).mono ?_
 rintro e w' ⟨hZ,o1,wM,v,k1,k2,k3⟩
 have main:(∀id∈rd,o1 id=put o Δ id)->∃ay,au M ay ⟨put o' Δ,us⟩ w'/\Trans φ ⟨o',us⟩ w ay ⟨put o' Δ,us⟩ w'/\∀b,ai M ay ⟨put o' Δ,us⟩ b->M1 b\/∃id∈rd,(o1 id).live=true/\eC (hZ id)=some b:=by
  intro oj
  have A6:∀id∈rd,put o' Δ id=o1 id:=fun id aj=>(zV (ho id aj).1).trans (oj id aj).symm
  have DS:∀id,id∉rd->put o' Δ id=o' id:=fun id aj=>qT fun x hx e=>aj (e ▸ JY x hx)
  let Cy:Place:=fun id=>if id∈rd then hZ id else φ id
  have vO:∀id∈rd,Cy id=hZ id:=fun id aj=>if_pos aj
  have xI:∀id,id∉rd->Cy id=φ id:=fun id aj=>if_neg aj
  let H2:Hp:=⟨put o' Δ,us⟩
  have bS:∀b,bO Cy H2 b->(∃id∈rd,(o1 id).live=true/\eC (hZ id)=some b)\/∃id,id∉rd/\(o' id).live=true/\eC (φ id)=some b:=by
   rintro b ⟨id,h1,h2⟩
   by_cases aj:id∈rd
   ·exact .inl ⟨id,aj,by rw[<- A6 id aj];exact h1,by rw[<- vO id aj];exact h2⟩
   ·exact .inr ⟨id,aj,by rw[<- DS id aj];exact h1,by rw[<- xI id aj];exact h2⟩
  have Rw:∀b,ai M Cy H2 b->ai M1 hZ (hp o1 wM) b:=by
   rintro b (hb|hb)
   ·exact .inl (.inl hb)
   ·rcases bS b hb with⟨id,h1,h2,h3⟩|⟨id,h1,h2,h3⟩
    ·exact .inr ⟨id,h2,h3⟩
    ·exact .inl (.inr ⟨id,h1,h2,h3⟩)
  have ND:dM φ ⟨o',us⟩ Cy H2:=by
   refine⟨fun id h=>h,fun id hu hr=> ?_,fun id e' hu he=> ?_⟩
   ·by_cases aj:id∈rd
    ·rw[show H2.o id=o1 id from A6 id aj]at hr
     obtain⟨a,b⟩:=k2.rel.row id (ni id aj) hr
     rw[show HR.o id=o' id from rU id aj]at a
     exact⟨a,(vO id aj).trans b⟩
    ·rw[show H2.o id=o' id from DS id aj]at hr
     exact⟨hr,xI id aj⟩
   ·by_cases aj:id∈rd
    ·rw[show H2.o id=o1 id from A6 id aj]at he
     obtain⟨e0,a,b,c⟩:=k2.rel.ep id e' (ni id aj) he
     rw[show HR.o id=o' id from rU id aj]at a
     exact⟨e0,a,b,fun heq=>(vO id aj).trans (c heq)⟩
    ·rw[show H2.o id=o' id from DS id aj]at he
     exact⟨e',he,Nat.le_refl _,fun _=>xI id aj⟩
  have p9:∀b,cn w b-> ¬ai M φ ⟨o',us⟩ b->w'.heap[b]? =w.heap[b]? /\ ¬ai M Cy H2 b:=by
   intro b hc hn
   obtain⟨a,c⟩:=k2.blocks (M:=M1) b hc (fun hb=>hn ((hB b).1 hb))
   exact⟨a,fun hb=>c (Rw b hb)⟩
  have nE:∀b,b<w.heap.size-> ¬bO φ HR b->w'.heap[b]? =w.heap[b]? :=fun b hb hl=>k2.b8.block b hb hl
  have ht:Trans φ ⟨o',us⟩ w Cy H2 w':=by
   refine⟨⟨k2.b8.os,k2.b8.tape,k2.b8.output,k2.b8.size,fun b hb hl=>nE b hb fun⟨id,h1,h2⟩=>hl ?_⟩,fun b hb=> ?_,ND⟩
   ·by_cases aj:id∈rd
    ·exact⟨id,by show(o' id).live=true;rw[<- rU id aj];exact h1,h2⟩
    ·rw[show HR.o id= .no from qm id aj]at h1;cases h1
   ·rcases bS b hb with⟨id,h1,h2,h3⟩|⟨id,h1,h2,h3⟩
    ·rcases k2.grow b ⟨id,h2,h3⟩with⟨j,j1,j2⟩|zt
     ·by_cases aj:j∈rd
      ·exact .inl ⟨j,by show(o' j).live=true;rw[<- rU j aj];exact j1,j2⟩
      ·rw[show HR.o j= .no from qm j aj]at j1;cases j1
     ·exact .inr zt
    ·exact .inl ⟨id,h2,h3⟩
  refine⟨Cy,⟨fun id=> ?_,fun id hn=> ?_,fun i j b hi hj bi bj=> ?_,fun b hb=> ?_,fun b hb=>Nat.lt_of_lt_of_le (hH.tv b hb) k2.b8.size⟩,ht,fun b hb=> ?_⟩
  ·by_cases aj:id∈rd
   ·refine aK.refs (H:=hp o1 wM) (M:=M1) (φ:=hZ) (fun b hn hb=>hn (Rw b hb)) (A6 id aj) (vO id aj) (fun j hj=> ?_) (k1.ok id)
    have DO:j∈rd:=by
     have e1:o1 id=put o Δ id:=oj id aj
     have hj:j∈(put o Δ id).refs:=by rw[<- e1];exact hj
     have key:∀ (Be:List (Nat×ae)) (q:Nat->ae),(∀x∈Be,∀j∈x.2.refs,j∈rd)->(∀j∈(q id).refs,j∈rd)->∀j∈(put q Be id).refs,j∈rd:=by
      intro Be
      induction Be with
      |nil=>intro q _ h2;exact h2
      |cons x Be ih=>
       intro q h1 h2
       simp only[put,List.foldl_cons]
       refine ih (ao q x.1 x.2) (fun y hy=>h1 y (by simp[hy])) ?_
       simp only[aL]
       split
       ·exact h1 x (by simp)
       ·exact h2
     exact key Δ o SM (jB id aj) j hj
    exact⟨A6 j DO,vO j DO,(ho j DO).2⟩
   ·exact aK.wV p9 ND (DS id aj) (xI id aj) (fun hl b hb=>nE b (hH.ours b ⟨id,hl,hb⟩).2 fun⟨j,j1,j2⟩=>by
     by_cases hj:j∈rd
     ·rw[show HR.o j=o' j from rU j hj]at j1
      exact aj (hH.apart id j b hl j1 hb j2 ▸ hj)
     ·rw[show HR.o j= .no from qm j hj]at j1;cases j1) (hH.ok id)
  ·have aj:id∉rd:=fun aj=>hn (ho id aj).2
   exact(DS id aj).trans (hH.fresh id hn)
  ·by_cases e1:i∈rd<;>by_cases e2:j∈rd
   ·refine k1.apart i j b ?_ ?_ (by rw[<- vO i e1];exact bi) (by rw[<- vO j e2];exact bj)
    ·show(o1 i).live=true;rw[<- A6 i e1];exact hi
    ·show(o1 j).live=true;rw[<- A6 j e2];exact hj
   ·exfalso
    refine(k1.ours b ⟨i,by show(o1 i).live=true;rw[<- A6 i e1];exact hi,by rw[<- vO i e1];exact bi⟩).1 (.inr ⟨j,e2,by rw[<- DS j e2];exact hj,by rw[<- xI j e2];exact bj⟩)
   ·exfalso
    refine(k1.ours b ⟨j,by show(o1 j).live=true;rw[<- A6 j e2];exact hj,by rw[<- vO j e2];exact bj⟩).1 (.inr ⟨i,e1,by rw[<- DS i e1];exact hi,by rw[<- xI i e1];exact bi⟩)
   ·exact hH.apart i j b (by show(o' i).live=true;rw[<- DS i e1];exact hi) (by show(o' j).live=true;rw[<- DS j e2];exact hj) (by rw[<- xI i e1];exact bi) (by rw[<- xI j e2];exact bj)
  ·rcases bS b hb with⟨id,h1,h2,h3⟩|⟨id,h1,h2,h3⟩
   ·obtain⟨a,c⟩:=k1.ours b ⟨id,h2,h3⟩
    exact⟨fun hM=>a (.inl hM),c⟩
   ·obtain⟨a,c⟩:=hH.ours b ⟨id,h2,h3⟩
    exact⟨a,Nat.lt_of_lt_of_le c k2.b8.size⟩
  ·rcases hb with hb|hb
   ·exact .inl (.inl hb)
   ·rcases bS b hb with h|h
    ·exact .inr h
    ·exact .inl (.inr h)
 have res:∀ (vs:List V) (xs:List D) (us':List Value),(∀id∈rd,o1 id=put o Δ id)->bU o1 vs=some xs->(∀id∈V.a8 vs,id∉rd)->V.aC (ai M1 hZ (hp o1 wM)) hZ (hp o1 wM) w' vs us'->
  ∃ay,au M ay ⟨put o' Δ,us⟩ w'/\Trans φ ⟨o',us⟩ w ay ⟨put o' Δ,us⟩ w'/\D.aC (ai M ay ⟨put o' Δ,us⟩) w' xs us':=by
  intro vs xs us' oj h1 SN h2
  obtain⟨f1,f2,f3,f4,f5⟩:=cG k1 (V.a8 vs) (cw vs _ h2)
  have h3:=dn f1 vs xs us' f3 h1 (V.aI f2 _ _ h2)
  obtain⟨ay,m1,m2,m3⟩:=main oj
  refine⟨ay,m1,m2,D.aI (w:=w') (w':=w') (fun b _ hn=>⟨rfl,fun hb=>hn ?_⟩) xs us' h3⟩
  rcases m3 b hb with hb|⟨id,i1,i2,i3⟩
  ·exact .inl hb
  ·exact .inr ⟨id,by rw[f4 id fun hm=>SN id hm i1];exact i2,i3⟩
 cases e with
 |outgrown=>exact k3.elim
 |panicked ch=>
  obtain⟨val,rfl,g1,oj,x,g2,rfl,g3⟩:=k3
  obtain⟨ay,m1,m2,m3⟩:=res [v] [x] [val] oj (by simp[bU,g2]) (by simpa[V.a8]using g3) ⟨val,[],rfl,g1,rfl⟩
  obtain⟨u,us2,he,h2,_⟩:=m3
  simp at he;obtain⟨rfl,rfl⟩:=he
  exact⟨ay,m1,m2,val,rfl,h2⟩
 |returned val=>
  obtain⟨g1,oj,vs,rs,rfl,g2,rfl,g3⟩:=k3
  match vs,g1,g2,g3 with
  |[],g1,g2,g3=>
   obtain⟨arr,rfl,hv⟩:=g1
   simp only[bU,Option.some.injEq]at g2;subst g2
   obtain⟨ay,m1,m2,m3⟩:=res [] [] arr.toList oj rfl (by simp[V.a8]) hv
   exact⟨ay,m1,m2,arr,rfl,m3⟩
  |[v],g1,g2,g3=>
   obtain⟨ay,m1,m2,m3⟩:=res [v] rs [val] oj g2 g3 ⟨val,[],rfl,g1,rfl⟩
   refine⟨ay,m1,m2, ?_⟩
   cases rs with
   |nil=>cases m3
   |cons x l=>
    obtain⟨u,us2,he,h2,h3⟩:=m3
    simp at he;obtain⟨rfl,rfl⟩:=he
    cases l with
    |nil=>exact h2
    |cons y l=>obtain⟨_,_,h,_⟩:=h3;cases h
  |v::v2::l,g1,g2,g3=>
   obtain⟨arr,rfl,hv⟩:=g1
   obtain⟨ay,m1,m2,m3⟩:=res (v::v2::l) rs arr.toList oj g2 g3 hv
   refine⟨ay,m1,m2, ?_⟩
   have hl:=D.aB _ _ m3
   have DT:=V.aB _ _ hv
   match rs,hl,m3 with
   |[],hl,_=>rw[DT]at hl;simp at hl
   |[x],hl,_=>rw[DT]at hl;simp at hl
   |x::y::l,_,m3=>exact⟨arr,rfl,m3⟩
end
end Go.Proofs.YtealblliddhgiaaGreat
namespace Go.Proofs.YtealblliddhgiaaGreat
inductive eU where
 |skip|val (v:V) (Δ:List (Nat×ae)) (rd:List Nat)|bK (v:V) (ws rd:List Nat)|eC
 deriving Inhabited
def eU.ok:eU->Bool
 | .skip| .val .. =>true
 |_=>false
def tu(dst:Option Tmp)(x:eU)(s:S):S:=
 match x with
 | .skip=>⟨aY s.env dst (.bT []),s.o,s.nx⟩
 | .val v Δ _=>⟨aY s.env dst v,put s.o Δ,s.nx⟩
 | .bK .. | .eC=>⟨aY s.env dst .aa,s.o,s.nx⟩
def jU:eU->List Nat
 | .val _ Δ _=>Δ.map (·.1)
 |_=>[]
def tG:eU->List Nat
 | .val _ _ rd=>rd
 | .bK _ _ rd=>rd
 |_=>[]
def NF(P:Program)(g:FuncId)(ds:List D)(v:V):Prop:=
 Enters P g/\∀ (M:Nat->Prop) (w:World) (vals:Array Value),(∀b,M b->b<w.heap.size)->D.aC M w ds vals.toList->
  Calls P g vals w fun e w'=>eF (fun _=>False) w w'/\∃val,e= .returned val/\∀φ H,V.den M φ H w' v val
theorem NF.lg {P:Program}{g:FuncId}{ds:List D}{v:V}(hr:v.refs=[])(h:eI P g (ds.map .d) (fun _=> .no) 0 (fun v' _ _=>v'=v) (fun _ _ _=>False)):NF P g ds v:=by
 refine⟨h.1,fun M w vals hM hd=> ?_⟩
 let ct:Place:=fun _=> .nilFunc
 have nE:∀b, ¬bO ct (hp (fun _=> .no) 0) b:=by rintro b ⟨id,hl,_⟩;simp[hp,ae.live]at hl
 refine(h.2 M ct w vals (kz ct hM) ((V.cd _ _).2 (D.aI (w:=w) (w':=w) (B:=M) (fun b _ hB=>⟨rfl,fun h=>h.elim hB (nE b)⟩) _ _ hd))).mono ?_
 rintro e w' ⟨ay,o',nx',v',k1,k2,k3⟩
 refine⟨⟨k2.b8.os,k2.b8.tape,k2.b8.output,k2.b8.size,fun k hk _=>k2.b8.block k hk (nE k)⟩, ?_⟩
 cases e with
 |outgrown=>exact k3.elim
 |panicked ch=>obtain⟨_,_,_,h⟩:=k3;exact h.elim
 |returned val=>
  obtain⟨g1,rfl⟩:=k3
  exact⟨val,rfl,fun φ H=>V.kA (B:=ai M ay (hp o' nx')) (φ:=ay) (H:=hp o' nx') (fun b hb hm=>hb (.inl hm)) v' val (fun id aj=>by rw[hr]at aj;cases aj) g1⟩
def uw(P:Program)(s:S)(fr:Nat)(op:Op)(v:V)(Δ:List (Nat×ae))(rd:List Nat):Prop:=
 ((∃uu,fT P s fr op=some (v,Δ,uu))/\rd=iR s op)\/
 (∃c f g first cap,op= .call c/\c.callee= .value f/\s.ev f= .func (.func g) first cap/\
  ((∃ds rs,bU s.o (first++c.args.toList.map s.ev++cap)=some ds/\cj P g ds (.ret rs)/\v=iD rs/\rd=iR s op/\
    (Δ=ck s.o (V.a8 (first++c.args.toList.map s.ev++cap))\/D.jg rs=true/\Δ=[]))\/
   (∃rs,zi P g (first++c.args.toList.map s.ev++cap) rd s.o (.ret rs) Δ/\v=iD rs/\∀id∈rd,id<s.nx)\/
   (∃ds,bU s.o (first++c.args.toList.map s.ev++cap)=some ds/\NF P g ds v/\rd=iR s op/\Δ=ck s.o (V.a8 (first++c.args.toList.map s.ev++cap)))\/
   (zU P g (first++c.args.toList.map s.ev++cap) rd s.o fr v Δ/\∀id∈rd,id<s.nx)))
def xJ(P:Program)(s:S)(op:Op)(v:V)(ws rd:List Nat):Prop:=
 ∃c f g first cap,op= .call c/\c.callee= .value f/\s.ev f= .func (.func g) first cap/\
  ((∃ds x,bU s.o (first++c.args.toList.map s.ev++cap)=some ds/\cj P g ds (.bK x)/\x.flat=true/\v= .d x/\rd=iR s op/\ws=[])\/
   (∃x Δ,zi P g (first++c.args.toList.map s.ev++cap) rd s.o (.bK x) Δ/\v= .d x/\ws=Δ.map (·.1)/\∀id∈rd,id<s.nx))
def db(s:S)(gd:Option (Nat×Bool))(b:Bool):Prop:=
 match gd with
 |none=>b=true
 |some (d,want)=>match s.env d with
  | .d (.bool c)=>b=(c==want)
  | .bT []=>b=false
  |_=>False
def ID(P:Program)(s:S)(fr:Nat)(o:b7)(x:eU):Prop:=
 match x with
 | .skip=>db s o.gd false
 | .val v Δ rd=>db s o.gd true/\uw P s fr o.op v Δ rd
 | .bK v ws rd=>db s o.gd true/\xJ P s o.op v ws rd
 | .eC=>True
def ez(oc:Nat->b7)(ac:Nat->eU)(E:Nat->Bool)(s:S):Nat->S
 |0=>s
 |k+1=>if E k then tu (oc k).dst (ac k) (ez oc ac E s k)else ez oc ac E s k
structure Compat (oc:Nat->b7) (ac:Nat->eU) (R:Nat->List Nat) (i j:Nat):Prop where
 di:∀d,(oc i).dst=some d->d∉eN (oc j)
 dj:∀d,(oc j).dst=some d->d∉eN (oc i)
 wi:∀id∈jU (ac i),id∉R j/\id∉jU (ac j)
 wj:∀id∈jU (ac j),id∉R i
section
variable {P:Program}{oc:Nat->b7}{ac:Nat->eU}{s:S}{n:Nat}{E:Nat->Bool}{R:Nat->List Nat}{pr:Nat->Nat->Prop}
theorem zW{env:Nat->V}{dst:Option Tmp}{v:V}{t:Nat}(h:∀d,dst=some d->d≠t):aY env dst v t=env t:=by
 cases dst with
 |none=>rfl
 |some d=>simp only[aY,aL];rw[if_neg (fun e=>h d rfl e.symm)]
theorem fN{o:Nat->ae}:∀ {Δ:List (Nat×ae)} {id:Nat},id∉Δ.map (·.1)->put o Δ id=o id
 |[],_,_=>rfl
 |x::Δ,id,h=>by
  simp only[List.map_cons,List.mem_cons,not_or]at h
  have:=fN (o:=ao o x.1 x.2) (Δ:=Δ) h.2
  simp only[put,List.foldl_cons]at this|-
  rw[this];simp[h.1]
theorem vP{o o':Nat->ae}:∀ {Δ:List (Nat×ae)} {id:Nat},id∈Δ.map (·.1)\/o id=o' id->put o Δ id=put o' Δ id
 |[],_,h=>by rcases h with h|h;· simp at h
             ·exact h
 |x::Δ,id,h=>by
  simp only[put,List.foldl_cons]
  refine vP (Δ:=Δ) (o:=ao o x.1 x.2) (o':=ao o' x.1 x.2) ?_
  simp only[List.map_cons,List.mem_cons]at h
  simp only[aL]
  by_cases e:id=x.1
  ·right;simp[e]
  ·rcases h with(h|h)|h
   ·exact absurd h e
   ·exact .inl h
   ·right;simp[e,h]
theorem jV{dst:Option Tmp}{x:eU}{t:Nat}(h:∀d,dst=some d->d≠t):(tu dst x s).env t=s.env t:=by
 cases x<;>exact zW h
theorem mh{dst:Option Tmp}{x:eU}{id:Nat}(h:id∉jU x):(tu dst x s).o id=s.o id:=by
 cases x with
 |val v Δ rd=>exact fN h
 |_=>rfl
theorem vQ{dst:Option Tmp}{x:eU}{s':S}{t:Nat}(h:s.env t=s'.env t):(tu dst x s).env t=(tu dst x s').env t:=by
 cases x<;>cases dst<;>simp only[tu,aY,aL]<;>first|exact h|(split<;>first|rfl|exact h)
theorem zX{dst:Option Tmp}{x:eU}{s':S}{id:Nat}(h:s.o id=s'.o id):(tu dst x s).o id=(tu dst x s').o id:=by
 cases x with
 |val v Δ rd=>exact vP (.inr h)
 |_=>exact h
theorem put_comm{o:Nat->ae}{Δ Be:List (Nat×ae)}(h:∀id∈Δ.map (·.1),id∉Be.map (·.1)):put (put o Δ) Be=put (put o Be) Δ:=by
 funext id
 by_cases h1:id∈Δ.map (·.1)
 ·rw[fN (h id h1)]
  exact vP (.inl h1)
 ·rw[fN (Δ:=Δ) h1]
  by_cases h2:id∈Be.map (·.1)
  ·exact vP (.inl h2)
  ·rw[fN h2,fN h2,fN h1]
theorem ux{env:Nat->V}{d d':Option Tmp}{v v':V}(h:∀t,d=some t->d'≠some t):aY (aY env d v) d' v'=aY (aY env d' v') d v:=by
 cases d with
 |none=>rfl
 |some t=>
  cases d' with
  |none=>rfl
  |some t'=>
   have fS:t'≠t:=fun e=>h t rfl (by rw[e])
   funext i
   simp only[aY,aL]
   by_cases e1:i=t<;>by_cases e2:i=t'
   ·exact absurd (e2.symm.trans e1) fS
   all_goals simp[e1,e2]
   ·intro e;exact absurd e.symm fS
   ·intro e;exact absurd e fS
theorem EG{d d':Option Tmp}{x x':eU}(hd:∀t,d=some t->d'≠some t)(hw:∀id∈jU x,id∉jU x'):tu d x (tu d' x' s)=tu d' x' (tu d x s):=by
 cases x<;>cases x'<;>simp only[tu]<;>first
  |rw[ux hd,put_comm hw]
  |rw[ux hd]
def vR(n:Nat)(pr:Nat->Nat->Prop)(E:Nat->Bool):Prop:=∀k,k<n->E k=true->∀j,pr k j->E j=true
theorem agree(_:∀k,k<n->∀j,pr k j->j<k)(hc:∀i j,i<j->j<n-> ¬pr j i->Compat oc ac R i j)(hE:vR n pr E){i:Nat}(hi:i<n)(lR:E i=false)(zY:∀j,pr i j->E j=true):
 (∀t∈eN (oc i),(ez oc ac E s n).env t=(ez oc ac (fun _=>true) s i).env t)/\(∀id∈R i,(ez oc ac E s n).o id=(ez oc ac (fun _=>true) s i).o id):=by
 have a:∀k,k<=i->(∀t∈eN (oc i),(ez oc ac E s k).env t=(ez oc ac (fun _=>true) s k).env t)/\(∀id∈R i,(ez oc ac E s k).o id=(ez oc ac (fun _=>true) s k).o id):=by
  intro k
  induction k with
  |zero=>intro _;exact⟨fun _ _=>rfl,fun _ _=>rfl⟩
  |succ k ih=>
   intro hk
   obtain⟨h1,h2⟩:=ih (by omega)
   simp only[ez,if_true]
   by_cases gk:E k=true
   ·simp only[gk,if_true]
    exact⟨fun t ht=>vQ (h1 t ht),fun id aj=>zX (h2 id aj)⟩
   ·have Iq: ¬pr i k:=fun hm=>gk (zY k hm)
    have c:=hc k i (by omega) hi Iq
    simp only[gk]
    refine⟨fun t ht=> ?_,fun id aj=> ?_⟩
    ·rw[jV fun d hd e=>c.di d hd (e ▸ ht)];exact h1 t ht
    ·rw[mh fun hm=>(c.wi id hm).1 aj];exact h2 id aj
 have b:∀k,i<=k->k<=n->(∀t∈eN (oc i),(ez oc ac E s k).env t=(ez oc ac (fun _=>true) s i).env t)/\(∀id∈R i,(ez oc ac E s k).o id=(ez oc ac (fun _=>true) s i).o id):=by
  intro k GW
  induction GW with
  |refl=>intro _;exact a i (Nat.le_refl _)
  | @step k GW ih=>
    intro hk
    have GW:i<=k:=GW
    obtain⟨h1,h2⟩:=ih (by omega)
    simp only[ez]
    by_cases gk:E k=true
    ·have fS:i≠k:=fun e=>by rw[e,gk]at lR;cases lR
     have Iq: ¬pr k i:=fun hm=>by have:=hE k (by omega) gk i hm;rw[lR]at this;cases this
     have c:=hc i k (by omega) (by omega) Iq
     simp only[gk,if_true]
     refine⟨fun t ht=> ?_,fun id aj=> ?_⟩
     ·rw[jV fun d hd e=>c.dj d hd (e ▸ ht)];exact h1 t ht
     ·rw[mh fun hm=>c.wj id hm aj];exact h2 id aj
    ·simp only[gk];exact⟨h1,h2⟩
 exact b n (by omega) (Nat.le_refl _)
theorem insert(hc:∀i j,i<j->j<n-> ¬pr j i->Compat oc ac R i j)(hE:vR n pr E){i:Nat}(hi:i<n)(lR:E i=false){E':Nat->Bool}(zZ:∀k,E' k=(E k||k==i)):
 ez oc ac E' s n=tu (oc i).dst (ac i) (ez oc ac E s n):=by
 have a:∀k,k<=i->ez oc ac E' s k=ez oc ac E s k:=by
  intro k
  induction k with
  |zero=>intro _;rfl
  |succ k ih=>
   intro hk
   have:E' k=E k:=by rw[zZ k];have:(k==i)=false:=by simp;omega
                     simp[this]
   simp only[ez,this,ih (by omega)]
 have b:∀k,i+1<=k->k<=n->ez oc ac E' s k=tu (oc i).dst (ac i) (ez oc ac E s k):=by
  intro k GW
  induction GW with
  |refl=>
   intro _
   have h1:E' i=true:=by rw[zZ i];simp
   simp only[ez,h1,lR,if_true,a i (Nat.le_refl _)]
   rfl
  | @step k GW ih=>
    intro hk
    have GW:i+1<=k:=GW
    have h1:E' k=E k:=by rw[zZ k];have:(k==i)=false:=by simp;omega
                         simp[this]
    simp only[ez,h1,ih (by omega)]
    by_cases gk:E k=true
    ·have Iq: ¬pr k i:=fun hm=>by have:=hE k (by omega) gk i hm;rw[lR]at this;cases this
     have c:=hc i k (by omega) (by omega) Iq
     simp only[gk,if_true]
     refine EG (fun t ht he=> ?_) (fun id aj hm=>(c.wi id hm).2 aj)
     exact c.di t he (by simp[eN,ht])
    ·simp only[gk];rfl
 exact b n (by omega) (Nat.le_refl _)
end
end Go.Proofs.YtealblliddhgiaaGreat
namespace Go.Proofs.YtealblliddhgiaaGreat
structure qL (M:Nat->Prop) (ct:Place) (H0:Hp) (w0:World) (n:Nat) (cx:Cx) (φ:Place) (s:S) (us:Nat->Prop) (a:Act) (w:World):Prop where
 heap:au M φ ⟨s.o,us⟩ w
 tr:Trans ct H0 w0 φ ⟨s.o,us⟩ w
 size:a.tmps.size=n
 defers:rK cx w0 φ ⟨s.o,us⟩ w a.defers
 env:∀i,V.den (ai M φ ⟨s.o,us⟩) φ ⟨s.o,us⟩ w (s.env i) (a.tmps.getD i undef)
section
variable {P:Program}{M:Nat->Prop}{φ ct:Place}{H0:Hp}{w w' w0:World}{n:Nat}{s:S}{us:Nat->Prop}{a:Act}{cx:Cx}{ro:Option Nat}{k:Nat}
variable {next:Act->World->Prop}{Q:Exit->Act->World->Prop}
theorem gY(hs:qL M ct H0 w0 n cx φ s us a w){ay:Place}{H':Hp}(hH:au M ay H' w')(ht:Trans φ ⟨s.o,us⟩ w ay H' w'){v:V}{val:Value}(hd:V.den (ai M ay H') ay H' w' v val){dst:Option Tmp}(cJ:fX n dst)
 {o':Nat->ae} {us':Nat->Prop} (ho:H'.o=o') (hu:∀id,H'.us id->us' id):qL M ct H0 w0 n cx ay ⟨aY s.env dst v,o',s.nx⟩ us' (a.put dst val) w':=by
 obtain⟨k1,k2⟩:=iE hH hu
 subst ho
 refine⟨k1,hs.tr.trans (ht.trans k2), ?_, ?_,fun i=> ?_⟩
 ·cases dst<;>simp[Act.put,hs.size]
 ·have:=hs.defers.mono (ht.trans k2);cases dst<;>exact this
 ·cases dst with
  |none=>exact V.aA (ht.trans k2) _ _ (hs.env i)
  |some d=>
   simp only[fX]at cJ
   simp only[aY,aL,Act.put]
   by_cases hi:i=d
   ·subst hi
    have h1:(a.tmps.setIfInBounds i val).getD i undef=val:=by simp[Array.getD,hs.size,cJ]
    rw[if_pos rfl,h1]
    exact V.aA k2 _ _ hd
   ·have h1:(a.tmps.setIfInBounds d val).getD i undef=a.tmps.getD i undef:=by
     simp only[Array.getD_eq_getD_getElem?]
     rw[Array.getElem?_setIfInBounds_ne (Ne.symm hi)]
    rw[if_neg hi,h1]
    exact V.aA (ht.trans k2) _ _ (hs.env i)
theorem uy(hs:qL M ct H0 w0 n cx φ s us a w){o:Oper}{op:Op}(dw:o.op=op){c:Call}{f:Operand}{g:FuncId}{first cap:List V}(hc:op= .call c)(dU:c.callee= .value f)(rL:s.ev f= .func (.func g) first cap):
 ∃vals:Array Value,V.aC (ai M φ ⟨s.o,us⟩) φ ⟨s.o,us⟩ w (first++c.args.toList.map s.ev++cap) vals.toList/\(Enters P g->(execOp a.eval o).run P w= .ok (.enter g vals) w):=by
 have hf:=lV (M:=M) (φ:=φ) (H:=⟨s.o,us⟩) (w:=w) s a hs.env f
 have ee:=jy (M:=M) (φ:=φ) (H:=⟨s.o,us⟩) (w:=w) s a hs.env c.args.toList
 rw[rL]at hf
 obtain⟨fa,ca,JS,zu,Nz⟩:=hf
 refine⟨fa++c.args.map a.eval++ca, ?_,fun he=> ?_⟩
 ·rw[Array.toList_append,Array.toList_append,Array.toList_map]
  exact V.kZ zu ee Nz
 ·have:=kx (w:=w) he (fa++c.args.map a.eval++ca)
  generalize lI:fa++c.args.map a.eval++ca=vals at this
  simp[execOp,dw,hc,resolve,dU,JS,Deferred.ofValue,invoke,this,lI]
theorem xK(hs:qL M ct H0 w0 n cx φ s us a w){fr:Nat}(cU: ¬us fr)(ni:∀id,id<s.nx->us id){o:Oper}{op:Op}(dw:o.op=op)(cJ:fX n o.dst){v:V}{Δ:List (Nat×ae)}{rd:List Nat}(h:uw P s fr op v Δ rd)
 (hN:∀ay a' w',qL M ct H0 w0 n cx ay (tu o.dst (.val v Δ rd) s) (fun id=>us id\/id=fr) a' w'->next a' w'):o.wpIn (dJ ro) k P a w next Q:=by
 rcases h with⟨⟨uu,h⟩,_⟩|⟨c,f,g,first,cap,hc,dU,rL,h⟩
 ·have h1:=xF (K:=fun v' Be _=>v'=v/\Be=Δ) h ⟨rfl,rfl⟩
  obtain⟨nx,val,w',ay,v',Be,uu,⟨rfl,rfl⟩,hr,SO,g1,g2,g3,g4⟩:=ui hs.heap (s:=s) rfl hs.env cU dw h1
  have vx:=gY hs g1 g2 g3 cJ (o':=put s.o Be) (us':=fun id=>us id\/id=fr) rfl (fun id hu=>hu.elim .inl (g4 id))
  refine jE (fun c hc=>by rw[dw]at hc;subst hc;exact h1) ?_
  rw[hr]
  rcases SO with rfl|⟨rfl,rfl⟩
  ·exact hN _ _ _ vx
  ·exact hN _ _ _ vx
 ·refine jE (fun c' Cr=>by rw[dw,hc]at Cr;cases Cr) ?_
  obtain⟨vals,aO,eS⟩:=uy (P:=P) hs dw hc dU rL
  generalize first++c.args.toList.map s.ev++cap=all at h aO
  rcases h with⟨ds,rs,eM,hP,rfl,_,JY⟩|⟨rs,hH,rfl,lZ⟩|⟨ds,eM,hP,_,rfl⟩|⟨hH,lZ⟩
  ·obtain⟨f1,f2,f3,f4,f5⟩:=cG hs.heap (V.a8 all) (cw all _ aO)
   have iA:(⟨s.o,us⟩:Hp).put (ck s.o (V.a8 all))=⟨put s.o (ck s.o (V.a8 all)),us⟩:=ku (H:=⟨s.o,us⟩) (by rw[mM];exact cw all _ aO)
   have tV:=dn f1 all ds _ f3 eM (V.aI f2 _ _ aO)
   have eJ:=hP.2 _ w vals (fun b hb=>hb.elim (f1.tv b) fun hl=>(f1.ours b hl).2) tV
   rw[eS hP.1]
   refine⟨fun hd=>by simp[dJ]at hd,cX (eJ.mono fun e w' ⟨hk,ho⟩=> ?_)⟩
   cases e with
   |panicked ch=>cases rs with|nil=>exact ho.elim|cons x l=>cases l<;>exact ho.elim
   |outgrown=>cases rs with|nil=>exact ho.elim|cons x l=>cases l<;>exact ho.elim
   |returned val=>
    rcases JY with rfl|⟨kS,rfl⟩
    ·obtain⟨k1,k2⟩:=fI f1 hk
     refine hN _ _ _ (gY hs k1 (f2.trans k2) (ky ho) cJ (by rw[iA]) fun id hu=> ?_)
     rw[iA]at hu;exact .inl hu
    ·obtain⟨k1,k2⟩:=fI hs.heap hk
     have ho:=R.vy (out:= .ret rs) (B':=ai M φ ⟨s.o,us⟩) kS ho
     exact hN _ _ _ (gY hs k1 k2 (ky ho) cJ rfl fun id hu=> .inl hu)
  ·have eJ:=hH.2 s.o us M φ w vals (fun id aj=>⟨rfl,ni id (lZ id aj)⟩) hs.heap aO
   rw[eS hH.1]
   refine⟨fun hd=>by simp[dJ]at hd,cX (eJ.mono fun e w' ⟨ay,k1,k2,ho⟩=> ?_)⟩
   cases e with
   |panicked ch=>cases rs with|nil=>exact ho.elim|cons x l=>cases l<;>exact ho.elim
   |outgrown=>cases rs with|nil=>exact ho.elim|cons x l=>cases l<;>exact ho.elim
   |returned val=>exact hN _ _ _ (gY hs k1 k2 (ky ho) cJ rfl fun id hu=> .inl hu)
  ·obtain⟨f1,f2,f3,f4,f5⟩:=cG hs.heap (V.a8 all) (cw all _ aO)
   have iA:(⟨s.o,us⟩:Hp).put (ck s.o (V.a8 all))=⟨put s.o (ck s.o (V.a8 all)),us⟩:=ku (H:=⟨s.o,us⟩) (by rw[mM];exact cw all _ aO)
   have tV:=dn f1 all ds _ f3 eM (V.aI f2 _ _ aO)
   have eJ:=hP.2 _ w vals (fun b hb=>hb.elim (f1.tv b) fun hl=>(f1.ours b hl).2) tV
   rw[eS hP.1]
   refine⟨fun hd=>by simp[dJ]at hd,cX (eJ.mono fun e w' ⟨hk,val,he,ho⟩=> ?_)⟩
   subst he
   obtain⟨k1,k2⟩:=fI f1 hk
   refine hN _ _ _ (gY hs k1 (f2.trans k2) (ho _ _) cJ (by rw[iA]) fun id hu=> ?_)
   rw[iA]at hu;exact .inl hu
  ·have eJ:=hH.2 s.o us M φ w vals (fun id aj=>⟨rfl,ni id (lZ id aj)⟩) cU hs.heap aO
   rw[eS hH.1]
   refine⟨fun hd=>by simp[dJ]at hd,cX (eJ.mono fun e w' ⟨ay,k1,k2,val,he,ho⟩=> ?_)⟩
   subst he
   exact hN _ _ _ (gY hs k1 k2 ho cJ rfl fun id hu=>hu)
theorem CG{o o2:Nat->ae}{us us2:Nat->Prop}(hH:au M φ ⟨o,us⟩ w)(ho:∀id,o2 id=o id\/o2 id= .no)(hu:∀id,us id->us2 id):au M φ ⟨o2,us2⟩ w/\Trans φ ⟨o,us⟩ w φ ⟨o2,us2⟩ w:=by
 have hl:∀id,(o2 id).live=true->(o id).live=true:=fun id h=>by
  rcases ho id with e|e
  ·rw[<- e];exact h
  ·rw[e]at h;cases h
 have Gq:∀b,bO φ ⟨o2,us2⟩ b->bO φ ⟨o,us⟩ b:=fun b ⟨id,h1,h2⟩=>⟨id,hl id h1,h2⟩
 have ht:Trans φ ⟨o,us⟩ w φ ⟨o2,us2⟩ w:=by
  refine⟨eF.refl _ _,fun b hb=> .inl (Gq b hb),⟨hu,fun id _ hr=> ?_,fun id e' _ he=> ?_⟩⟩
  ·rcases ho id with e|e
   ·exact⟨by show(o id).bN=true;rw[<- e];exact hr,rfl⟩
   ·rw[show(⟨o2,us2⟩:Hp).o id= .no from e]at hr;cases hr
  ·rcases ho id with e|e
   ·exact⟨e',by show(o id).aZ=some e';rw[<- e];exact he,Nat.le_refl _,fun _=>rfl⟩
   ·rw[show(⟨o2,us2⟩:Hp).o id= .no from e]at he;cases he
 refine⟨⟨fun id=> ?_,fun id hn=> ?_,fun i j b hi hj=>hH.apart i j b (hl i hi) (hl j hj),fun b hb=>hH.ours b (Gq b hb),hH.tv⟩,ht⟩
 ·rcases ho id with e|e
  ·exact(hH.ok id).mono ht e rfl fun _ _ _=>rfl
  ·unfold aK;rw[show(⟨o2,us2⟩:Hp).o id= .no from e];trivial
 ·rcases ho id with e|e
  ·exact e.trans (hH.fresh id fun h=>hn (hu id h))
  ·exact e
def rV(ds:List Nat)(wl:List Nat)(N:Nat)(s:S):S:=
 ⟨fun t=>if ds.contains t=true then .aa else s.env t,fun id=>if wl.contains id=true then .no else s.o id,s.nx+N⟩
theorem EH(hs:qL M ct H0 w0 n cx φ s us a w)(ni:∀id,id<s.nx->us id){N:Nat}(dQ:∀id,us id->id<s.nx+N){o:Oper}{op:Op}(dw:o.op=op){v:V}{ws rd:List Nat}(h:xJ P s op v ws rd)
 {s0:S} {ds wl:List Nat} (eM:∀t,ds.contains t=false->s.env t=s0.env t) (SP:∀id,wl.contains id=false->s.o id=s0.o id) (GX:∀id∈ws,wl.contains id=true) (qh:s0.nx=s.nx)
 (hQ:∀ay w' val,bZ M ct H0 w0 n cx ay (rV ds wl N s0) a w'->V.den (ai M ay (rV ds wl N s0).H) ay (rV ds wl N s0).H w' v val->Q (.panic [{v:=val,recovered:=false}]) a w'):o.wpIn (dJ ro) k P a w next Q:=by
 obtain⟨c,f,g,first,cap,hc,dU,rL,h⟩:=h
 refine jE (fun c' Cr=>by rw[dw,hc]at Cr;cases Cr) ?_
 obtain⟨vals,aO,eS⟩:=uy (P:=P) hs dw hc dU rL
 generalize first++c.args.toList.map s.ev++cap=all at h aO
 have fin:∀ (ay:Place) (w':World) (o':Nat->ae) (val:Value),(∀id,wl.contains id=false->o' id=s.o id)->au M ay ⟨o',us⟩ w'->Trans φ ⟨s.o,us⟩ w ay ⟨o',us⟩ w'->V.den (ai M ay ⟨o',us⟩) ay ⟨o',us⟩ w' v val->Q (.panic [{v:=val,recovered:=false}]) a w':=by
  intro ay w' o' val xz k1 k2 k3
  obtain⟨m1,m2⟩:=CG (o2:=(rV ds wl N s0).o) (us2:=fun id=>id<s0.nx+N) k1 (fun id=>by
   show(if wl.contains id=true then ae.no else s0.o id)=o' id\/_
   by_cases hw:wl.contains id=true
   ·right;simp only[rV];rw[if_pos hw]
   ·left;rw[if_neg hw,xz id (by simpa using hw),SP id (by simpa using hw)]) (fun id h=>by rw[qh];exact dQ id h)
  have ht:=hs.tr.trans (k2.trans m2)
  refine hQ ay w' val ⟨m1,ht,hs.size,hs.defers.mono (k2.trans m2),fun i=> ?_⟩ (V.aA m2 _ _ k3)
  show V.den _ _ _ _ (if ds.contains i=true then V.aa else s0.env i) _
  by_cases hd:ds.contains i=true
  ·rw[if_pos hd];trivial
  ·rw[if_neg hd, <- eM i (by simpa using hd)];exact V.aA (k2.trans m2) _ _ (hs.env i)
 rcases h with⟨dd,x,SQ,hP,kS,rfl,_,rfl⟩|⟨x,Δ,hH,rfl,rfl,lZ⟩
 ·obtain⟨f1,f2,f3,f4,f5⟩:=cG hs.heap (V.a8 all) (cw all _ aO)
  have tV:=dn f1 all dd _ f3 SQ (V.aI f2 _ _ aO)
  have eJ:=hP.2 _ w vals (fun b hb=>hb.elim (f1.tv b) fun hl=>(f1.ours b hl).2) tV
  rw[eS hP.1]
  refine⟨fun hd=>by simp[dJ]at hd,cX (eJ.mono fun e w' ⟨hk,ho⟩=> ?_)⟩
  cases e with
  |returned val=>exact ho.elim
  |outgrown=>exact ho.elim
  |panicked ch=>
   obtain⟨k1,k2⟩:=fI hs.heap hk
   have ho:=R.vy (out:= .bK x) (B':=ai M φ ⟨s.o,us⟩) kS ho
   obtain⟨val,rfl,hd⟩:=ho
   exact fin φ w' s.o val (fun _ _=>rfl) k1 k2 hd
 ·have eJ:=hH.2 s.o us M φ w vals (fun id aj=>⟨rfl,ni id (lZ id aj)⟩) hs.heap aO
  rw[eS hH.1]
  refine⟨fun hd=>by simp[dJ]at hd,cX (eJ.mono fun e w' ⟨ay,k1,k2,ho⟩=> ?_)⟩
  cases e with
  |returned val=>exact ho.elim
  |outgrown=>exact ho.elim
  |panicked ch=>
   obtain⟨val,rfl,hd⟩:=ho
   exact fin ay w' _ val (fun id aj=>qT fun y hy e=>by
    have:=GX y.1 (List.mem_map_of_mem hy)
    rw[e,aj]at this;cases this) k1 k2 hd
theorem fe(dv:∀i,V.den (ai M φ ⟨s.o,us⟩) φ ⟨s.o,us⟩ w (s.env i) (a.tmps.getD i undef)){ops:Array Oper}{o:Oper}{gd:Option (Nat×Bool)}{b:Bool}
 (hg:match o.guard with|none=>gd=none|some (j,want)=>∃d,p7 ops j=some d/\gd=some (d,want)) (h:db s gd b):Region.wanted o (yielded ops a.tmps)=b:=by
 unfold Region.wanted
 split at hg
 ·rename_i hn;simp only[hn];subst hg;exact h.symm
 ·rename_i j want hn
  simp only[hn]
  obtain⟨d,hd,rfl⟩:=hg
  unfold p7 at hd
  unfold yielded
  simp only[hd,Option.bind_some]
  simp only[db]at h
  have he:=dv d
  split at h
  ·rename_i c hv
   rw[hv]at he
   simp only[V.den,D.den]at he
   have:a.tmps[d]? =some (.bool c):=by
    rw[Array.getD_eq_getD_getElem?]at he
    cases hx:a.tmps[d]? with
    |none=>rw[hx]at he;simp[undef]at he
    |some x=>rw[hx]at he;simp at he;rw[he]
   simp only[this,h]
   cases c<;>cases want<;>rfl
  ·rename_i hv
   rw[hv]at he
   obtain⟨arr,cz,hn⟩:=he
   have:∀c,a.tmps[d]? ≠some (.bool c):=by
    intro c hx
    rw[Array.getD_eq_getD_getElem?,hx]at cz
    simp at cz
   subst h
   cases hx:a.tmps[d]? with
   |none=>rfl
   |some x=>cases x<;>first|(exact absurd hx (this _))|rfl
  ·exact h.elim
theorem ff{s s':S}{gd:Option (Nat×Bool)}{b:Bool}(h:∀d want,gd=some (d,want)->s'.env d=s.env d)(hg:db s gd b):db s' gd b:=by
 unfold db at*
 cases gd with
 |none=>exact hg
 |some p=>obtain⟨d,want⟩:=p;simp only at hg|-;rw[h d want rfl];exact hg
theorem xL{s s':S}{x:Operand}(h:∀t,x= .tmp t->s'.env t=s.env t):s'.ev x=s.ev x:=by
 cases x<;>simp only[S.ev]
 exact h _ rfl
theorem rW{s s':S}{op:Op}{c:Call}{f:Operand}{g:FuncId}{first cap:List V}(hv:∀x∈op.operands,s'.ev x=s.ev x)(hc:op= .call c)(dU:c.callee= .value f)(rL:s.ev f= .func (.func g) first cap):
 s'.ev f= .func (.func g) first cap/\c.args.toList.map s'.ev=c.args.toList.map s.ev:=by
 subst hc
 exact⟨(hv f (by simp only[Op.operands,Call.operands,dU];exact Array.mem_append.2 (.inl (by simp)))).trans rL,
  List.map_congr_left fun x hx=>hv x (by simp only[Op.operands,Call.operands];exact Array.mem_append.2 (.inr (Array.mem_toList_iff.1 hx)))⟩
theorem zi.frame {g:FuncId}{args:List V}{rd:List Nat}{o o':Nat->ae}{out:R}{Δ:List (Nat×ae)}(ho:∀id∈rd,o' id=o id)(h:zi P g args rd o out Δ):zi P g args rd o' out Δ:=
 ⟨h.1,fun o2 us M φ w vals h1 h2 h3=>h.2 o2 us M φ w vals (fun id aj=>⟨(h1 id aj).1.trans (ho id aj),(h1 id aj).2⟩) h2 h3⟩
theorem zU.frame {g:FuncId}{args:List V}{rd:List Nat}{o o':Nat->ae}{fr:Nat}{v:V}{Δ:List (Nat×ae)}(ho:∀id∈rd,o' id=o id)(h:zU P g args rd o fr v Δ):zU P g args rd o' fr v Δ:=
 ⟨h.1,fun o2 us M φ w vals h1 h2 h3=>h.2 o2 us M φ w vals (fun id aj=>⟨(h1 id aj).1.trans (ho id aj),(h1 id aj).2⟩) h2 h3⟩
theorem qn{s s':S}{fr:Nat}{op:Op}{v:V}{Δ:List (Nat×ae)}{rd:List Nat}(hv:∀x∈op.operands,s'.ev x=s.ev x)(ho:∀id∈rd,s'.o id=s.o id)(ni:s'.nx=s.nx)(h:uw P s fr op v Δ rd):∃uu,uw P s' fr op v Δ uu:=by
 rcases h with⟨⟨uu,h⟩,lZ⟩|⟨c,f,g,first,cap,rfl,dU,rL,h⟩
 ·exact⟨_, .inl ⟨⟨uu,by rw[zS op hv (by rw[<- lZ];exact ho)];exact h⟩,rfl⟩⟩
 ·obtain⟨hf,hm⟩:=rW hv rfl dU rL
  rcases h with⟨ds,rs,eM,hP,tt,lZ,JY⟩|⟨rs,hH,tt,lZ⟩|⟨ds,eM,hP,lZ,JY⟩|⟨hH,lZ⟩
  ·have hr:∀id∈V.ag (first++c.args.toList.map s.ev++cap),s'.o id=s.o id:=fun id aj=>ho id (by rw[lZ];simp only[iR,dU,rL];exact aj)
   refine⟨_, .inr ⟨c,f,g,first,cap,rfl,dU,hf, .inl ⟨ds,rs,by rw[hm,gH _ hr];exact eM,hP,tt,rfl, ?_⟩⟩⟩
   rw[hm,fM (o:=s.o) fun id aj=>hr id (ji _ id aj)]
   exact JY
  ·exact⟨rd, .inr ⟨c,f,g,first,cap,rfl,dU,hf, .inr (.inl ⟨rs,by rw[hm];exact hH.frame ho,tt,by rw[ni];exact lZ⟩)⟩⟩
  ·have hr:∀id∈V.ag (first++c.args.toList.map s.ev++cap),s'.o id=s.o id:=fun id aj=>ho id (by rw[lZ];simp only[iR,dU,rL];exact aj)
   refine⟨_, .inr ⟨c,f,g,first,cap,rfl,dU,hf, .inr (.inr (.inl ⟨ds,by rw[hm,gH _ hr];exact eM,hP,rfl, ?_⟩))⟩⟩
   rw[hm,fM (o:=s.o) fun id aj=>hr id (ji _ id aj)]
   exact JY
  ·exact⟨rd, .inr ⟨c,f,g,first,cap,rfl,dU,hf, .inr (.inr (.inr ⟨by rw[hm];exact hH.frame ho,by rw[ni];exact lZ⟩))⟩⟩
theorem xM{s s':S}{op:Op}{v:V}{ws rd:List Nat}(hv:∀x∈op.operands,s'.ev x=s.ev x)(ho:∀id∈rd,s'.o id=s.o id)(ni:s'.nx=s.nx)(h:xJ P s op v ws rd):xJ P s' op v ws rd:=by
 obtain⟨c,f,g,first,cap,rfl,dU,rL,h⟩:=h
 obtain⟨hf,hm⟩:=rW hv rfl dU rL
 refine⟨c,f,g,first,cap,rfl,dU,hf, ?_⟩
 rw[hm]
 rcases h with⟨ds,x,eM,hP,kS,tt,lZ,GX⟩|⟨x,Δ,hH,tt,GX,lZ⟩
 ·have hr:∀id∈V.ag (first++c.args.toList.map s.ev++cap),s'.o id=s.o id:=fun id aj=>ho id (by rw[lZ];simp only[iR,dU,rL];exact aj)
  exact .inl ⟨ds,x,by rw[gH _ hr];exact eM,hP,kS,tt,by rw[lZ];simp only[iR,dU,rL,hf,hm],GX⟩
 ·exact .inr ⟨x,Δ,hH.frame ho,tt,GX,by rw[ni];exact lZ⟩
theorem rX{ops:Array Oper}:∀ (l:List Oper) (l':List b7) (i:Nat) (o:Oper),j9 n ops l=some l'->l[i]? =some o->DX n ops o=some (bR l' i)
 |[],_,_,_,_,h=>by simp at h
 |x::l,l',i,o,h,hi=>by
  simp only[j9]at h
  split at h
  ·rename_i y ys hy XX
   injection h with h;subst h
   cases i with
   |zero=>simp at hi;subst hi;exact hy
   |succ i=>exact rX l ys i o XX (by simpa using hi)
  ·cases h
theorem uz{ops:Array Oper}{o:Oper}{x:b7}(h:DX n ops o=some x):x.op=o.op/\x.dst=o.dst/\fX n o.dst/\
 (match o.guard with|none=>x.gd=none|some (j,want)=>∃d,p7 ops j=some d/\x.gd=some (d,want)):=by
 unfold DX at h
 split at h
 ·rename_i hd
  have cJ:fX n o.dst:=by
   unfold zl at hd;unfold fX
   split at hd<;>simp_all
  cases hg:o.guard with
  |none=>simp only[hg]at h;injection h with h;subst h;exact⟨rfl,rfl,cJ,rfl⟩
  |some p=>
   obtain⟨j,want⟩:=p
   simp only[hg]at h
   cases IB:p7 ops j with
   |none=>simp[IB]at h
   |some d=>simp only[IB]at h;injection h with h;subst h;exact⟨rfl,rfl,cJ,d,IB,rfl⟩
 ·cases h
theorem nH{ops:Array Oper}{ak:Array Bool}(pC:∀k,k<ops.size->∀j∈bw ops k,j<k)(hs:ak.size=ops.size)(hr:Region.ready .any ops ak=[]):∀k,k<ops.size->ak.getD k false=true:=by
 intro k
 induction k using Nat.strongRecOn with
 |_ k ih=>
  intro hk
  cases hl:ak.getD k false with
  |true=>rfl
  |false=>
   have:k∈Region.ready .any ops ak:=by
    refine mem_ready.2 ⟨?_,ops[k],by simp[hk],fun e he hb=> ?_⟩
    ·simp only[Array.getD_eq_getD_getElem?]at hl|-
     rw[Array.getElem?_eq_getElem (by omega)]at hl|-
     simpa using hl
    ·have hm:e.on∈bw ops k:=by
      simp only[bw,Array.getElem?_eq_getElem hk,List.mem_map,List.mem_filter]
      exact⟨e,⟨Array.mem_toList_iff.2 he,hb⟩,rfl⟩
     exact ih _ (pC k hk _ hm) (by have:=pC k hk _ hm;omega)
   rw[hr]at this;cases this
theorem xN(hs:bZ M ct H0 w0 n cx φ s a w):bZ M ct H0 w0 n cx φ s a {w with drawn:=w.drawn+1}:=by
 obtain⟨k1,k2⟩:=fI (w':={w with drawn:=w.drawn+1}) hs.heap ⟨rfl,rfl,rfl,Nat.le_refl _,fun _ _ _=>rfl⟩
 exact⟨k1,hs.tr.trans k2,hs.size,hs.defers.mono k2,fun i=>V.aA k2 _ _ (hs.env i)⟩
theorem jj{oc:Nat->b7}{ac:Nat->eU}{E:Nat->Bool}:∀k,(ez oc ac E s k).nx=s.nx
 |0=>rfl
 |k+1=>by
  simp only[ez]
  split
  ·cases ac k<;>exact jj k
  ·exact jj k
theorem Bf{oc:Nat->b7}{ac:Nat->eU}{E:Nat->Bool}{t:Nat}:∀k,(∀j,j<k->(oc j).dst≠some t)->(ez oc ac E s k).env t=s.env t
 |0,_=>rfl
 |k+1,h=>by
  have ih:=Bf (oc:=oc) (ac:=ac) (E:=E) (t:=t) k fun j hj=>h j (by omega)
  simp only[ez]
  split
  ·rw[jV fun d hd e=>h k (by omega) (by rw[hd,e])];exact ih
  ·exact ih
theorem IE{oc:Nat->b7}{ac:Nat->eU}{E:Nat->Bool}{id:Nat}:∀k,(∀j,j<k->id∉jU (ac j))->(ez oc ac E s k).o id=s.o id
 |0,_=>rfl
 |k+1,h=>by
  have ih:=IE (oc:=oc) (ac:=ac) (E:=E) (id:=id) k fun j hj=>h j (by omega)
  simp only[ez]
  split
  ·rw[mh (h k (by omega))];exact ih
  ·exact ih
theorem xO(ba:P.follows .mixedOrders=true){ops:Array Oper}{l:List b7}{id:Nat}(mX:j9 n ops ops.toList=some l)(pC:∀k,k<ops.size->∀j∈bw ops k,j<k){ac:Nat->eU}{dl wl:List Nat}
 (hs:bZ M ct H0 w0 n cx φ s a w) (JZ:∀i,i<ops.size->ID P (ez (bR l) ac (fun _=>true) s i) (s.nx+i) (bR l i) (ac i))
 (J0:∀i,i<ops.size->ac i= .eC->∃j∈bw ops i,(ac j).ok=false)
 {po:Nat->Nat->Prop} (Bg:∀E:Nat->Bool,(∀k,k<ops.size->E k=true->∀j∈bw ops k,E j=true)->∀k,k<ops.size->(∀j∈bw ops k,E j=true)->∀j,po k j->E j=true) (xP:∀k,k<ops.size->∀j,po k j->j<k)
 (hc:∀i j,i<j->j<ops.size-> ¬po j i->Compat (bR l) ac (fun i=>tG (ac i)) i j)
 (Sc:∀i,i<ops.size->∀t,(bR l i).dst=some t->dl.contains t=true) (SP:∀i,i<ops.size->∀id∈jU (ac i),wl.contains id=true)
 (GX:∀i v ws rd,i<ops.size->ac i= .bK v ws rd->∀id∈ws,wl.contains id=true)
 (hQ:(∀i,i<ops.size->(ac i).ok=true)->∀φ a w,bZ M ct H0 w0 n cx φ ⟨(ez (bR l) ac (fun _=>true) s ops.size).env,(ez (bR l) ac (fun _=>true) s ops.size).o,s.nx+ops.size⟩ a w->Q .normal a w)
 (hX:∀i v ws rd,i<ops.size->ac i= .bK v ws rd->∀φ a w val,bZ M ct H0 w0 n cx φ (rV dl wl ops.size s) a w->V.den (ai M φ (rV dl wl ops.size s).H) φ (rV dl wl ops.size s).H w v val->Q (.panic [{v:=val,recovered:=false}]) a w):
 (Code.region id ops true).wpIn (dJ ro) k P Q a w:=by
 refine wpIn_region_any ba ?_
 have hs:=xN hs
 generalize ({w with drawn:=w.drawn+1}:World)=w at hs
 let N:=ops.size
 let Ef (ak:Array Bool) (k:Nat):Bool:=ak.getD k false
 let z7 (ak:Array Bool) (j:Nat):Prop:=j<s.nx\/∃k,k<N/\Ef ak k=true/\j=s.nx+k
 have key:∀ (fuel:Nat) (ak:Array Bool) (φ:Place) (a:Act) (w:World),ak.size=N->ak.count true+fuel=N->(∀k,k<N->Ef ak k=true->∀j∈bw ops k,Ef ak j=true)->(∀k,k<N->Ef ak k=true->(ac k).ok=true)->
  qL M ct H0 w0 n cx φ (ez (bR l) ac (Ef ak) s N) (z7 ak) a w->wpAnyIn (dJ ro) k P .any ops Q fuel ak a w:=by
  have fin:∀ (ak:Array Bool) (φ:Place) (a:Act) (w:World),(∀k,k<N->Ef ak k=true)->(∀k,k<N->Ef ak k=true->(ac k).ok=true)->qL M ct H0 w0 n cx φ (ez (bR l) ac (Ef ak) s N) (z7 ak) a w->Q .normal a w:=by
   intro ak φ a w aO z8 hu
   have e:∀k,k<=N->ez (bR l) ac (Ef ak) s k=ez (bR l) ac (fun _=>true) s k:=by
    intro k
    induction k with
    |zero=>intro _;rfl
    |succ k ih=>intro hk;simp only[ez,aO k (by omega),ih (by omega)]
   rw[e N (Nat.le_refl _)]at hu
   obtain⟨k1,k2⟩:=iE (us':=fun id=>id<s.nx+N) hu.heap (fun id h=>by
    show id<s.nx+N
    rcases h with h|⟨k,hk,_,rfl⟩<;>omega)
   exact hQ (fun i hi=>z8 i hi (aO i hi)) φ a w ⟨k1,hu.tr.trans k2,hu.size,hu.defers.mono k2,fun i=>V.aA k2 _ _ (hu.env i)⟩
  intro fuel
  induction fuel with
  |zero=>
   intro ak φ a w dX CH jB z8 hu
   have aO:∀k,k<N->Ef ak k=true:=by
    intro k hk
    have h1:ak.count true=ak.size:=by omega
    rw[Array.count_eq_size]at h1
    have:=h1 ak[k] (Array.getElem_mem (by omega))
    simp only[Ef,Array.getD_eq_getD_getElem?]
    rw[Array.getElem?_eq_getElem (by omega)]
    simpa using this.symm
   refine⟨?_,fin ak φ a w aO z8 hu⟩
   rw[List.eq_nil_iff_forall_not_mem]
   intro k hk
   obtain⟨h1,o,h2,_⟩:=mem_ready.1 hk
   have XY:k<N:=(Array.getElem?_eq_some_iff.1 h2).1
   have:=aO k XY
   simp only[Ef,Array.getD_eq_getD_getElem?]at this h1
   rw[Array.getElem?_eq_getElem (by omega)]at this h1
   simp only[Option.getD_some]at this h1
   rw[this]at h1;cases h1
  |succ fuel ih=>
   intro ak φ a w dX CH jB z8 hu
   refine⟨fun hr=>fin ak φ a w (nH pC dX hr) z8 hu,fun i hi=> ?_⟩
   obtain⟨h1,o,h2,h3⟩:=mem_ready.1 hi
   have qM:i<N:=(Array.getElem?_eq_some_iff.1 h2).1
   have lR:Ef ak i=false:=by
    simp only[Ef,Array.getD_eq_getD_getElem?]at h1|-
    rw[Array.getElem?_eq_getElem (by omega)]at h1|-
    simpa using h1
   have zY:∀j∈bw ops i,Ef ak j=true:=by
    intro j hj
    simp only[bw,h2,List.mem_map,List.mem_filter]at hj
    obtain⟨e,⟨he,hb⟩,rfl⟩:=hj
    exact h3 e (Array.mem_toList_iff.1 he) hb
   have EI:vR N po (Ef ak):=fun k hk gk=>Bg _ jB k hk (jB k hk gk)
   obtain⟨NG,Rx⟩:=agree (s:=s) xP hc EI qM lR (Bg _ jB i qM zY)
   obtain⟨g1,g2,g3,g4⟩:=uz (rX _ _ i o mX (by simpa using h2))
   have cU: ¬z7 ak (s.nx+i):=by
    rintro(h|⟨k,_,hk,he⟩)
    ·omega
    ·have:k=i:=by omega
     subst this;rw[lR]at hk;cases hk
   have zZ:∀k,Ef (ak.setIfInBounds i true) k=(Ef ak k||k==i):=by
    intro k
    simp only[Ef,Array.getD_eq_getD_getElem?]
    by_cases e:k=i
    ·subst e;simp[dX,qM]
    ·rw[Array.getElem?_setIfInBounds_ne (Ne.symm e)]
     have:(k==i)=false:=by simpa using e
     simp[this]
   have J1:=insert (s:=s) hc EI qM lR zZ
   have J2:∀k,k<N->Ef (ak.setIfInBounds i true) k=true->∀j∈bw ops k,Ef (ak.setIfInBounds i true) j=true:=by
    intro k hk gk j hj
    rw[zZ]at gk|-
    by_cases e:k=i
    ·subst e;simp[zY j hj]
    ·have:(k==i)=false:=by simpa using e
     rw[this,Bool.or_false]at gk
     simp[jB k hk gk j hj]
   have EJ:(ak.setIfInBounds i true).count true+fuel=N:=by
    have bL:i<ak.size:=by omega
    have e1:ak.setIfInBounds i true=ak.set i true bL:=by simp[Array.setIfInBounds,bL]
    have e2:ak[i]=false:=by
     have:=lR
     simp only[Ef,Array.getD_eq_getD_getElem?]at this
     rw[Array.getElem?_eq_getElem bL]at this
     simpa using this
    rw[e1,Array.count_set bL,e2]
    simp
    omega
   have lJ:(ac i).ok=true->∀ay a' w',qL M ct H0 w0 n cx ay (tu o.dst (ac i) (ez (bR l) ac (Ef ak) s N)) (fun id=>z7 ak id\/id=s.nx+i) a' w'->wpAnyIn (dJ ro) k P .any ops Q fuel (ak.setIfInBounds i true) a' w':=by
    intro NH ay a' w' vk
    refine ih _ ay a' w' (by simp[dX]) EJ J2 (fun k hk gk=> ?_) ?_
    ·rw[zZ]at gk
     by_cases e:k=i
     ·subst e;exact NH
     ·have:(k==i)=false:=by simpa using e
      rw[this,Bool.or_false]at gk
      exact z8 k hk gk
    rw[J1,g2]
    obtain⟨k1,k2⟩:=iE (us':=z7 (ak.setIfInBounds i true)) vk.heap (fun id h=>by
     rcases h with(h|⟨k,hk,gk,rfl⟩)|rfl
     ·exact .inl h
     ·exact .inr ⟨k,hk,by rw[zZ,gk];rfl,rfl⟩
     ·exact .inr ⟨i,qM,by rw[zZ];simp,rfl⟩)
    exact⟨k1,vk.tr.trans k2,vk.size,vk.defers.mono k2,fun j=>V.aA k2 _ _ (vk.env j)⟩
   have CI:∀d want,(bR l i).gd=some (d,want)->(ez (bR l) ac (Ef ak) s N).env d=(ez (bR l) ac (fun _=>true) s i).env d:=fun d want hd=>NG d (by simp[eN,tmpsOf,hd])
   have bz:=JZ i qM
   have CJ:∀x∈(bR l i).op.operands,(ez (bR l) ac (Ef ak) s N).ev x=(ez (bR l) ac (fun _=>true) s i).ev x:=fun x hx=>xL fun t ht=>NG t (by
    subst ht
    simp only[eN,tmpsOf,List.mem_append,List.mem_filterMap]
    exact .inl (.inl ⟨.tmp t,Array.mem_toList_iff.2 hx,rfl⟩))
   have GY:(ez (bR l) ac (Ef ak) s N).nx=(ez (bR l) ac (fun _=>true) s i).nx:=(jj N).trans (jj i).symm
   unfold wpOpIn
   simp only[h2]
   cases oP:ac i with
   |skip=>
    rw[oP]at bz lJ
    have hw:=fe hu.env g4 (ff CI bz)
    simp only[hw,Bool.false_eq_true,if_false]
    refine⟨fun _ _=>trivial,lJ rfl φ _ w ?_⟩
    have:=gY (v:= .bT []) (val:=undef) hu hu.heap (Trans.refl _ _ _) ⟨#[],rfl,rfl⟩ (dst:=o.dst) g3 rfl (us':=fun id=>z7 ak id\/id=s.nx+i) (fun id h=> .inl h)
    exact this
   |val v Δ rd=>
    rw[oP]at bz lJ
    have hw:=fe hu.env g4 (ff CI bz.1)
    simp only[hw,if_true]
    obtain⟨uu,qE⟩:=qn CJ (fun id aj=>Rx id (by rw[oP];exact aj)) GY bz.2
    exact xK hu cU (fun id h=> .inl (by rw[jj]at h;exact h)) g1.symm g3 qE (lJ rfl)
   |bK v ws rd=>
    rw[oP]at bz
    have hw:=fe hu.env g4 (ff CI bz.1)
    simp only[hw,if_true]
    have qE:=xM CJ (fun id aj=>Rx id (by rw[oP];exact aj)) GY bz.2
    refine EH (s0:=s) (ds:=dl) (wl:=wl) (N:=N) hu (fun id h=> .inl (by rw[jj]at h;exact h)) (fun id h=> ?_) g1.symm qE (fun t ht=> ?_) (fun id aj=> ?_) (GX i v ws rd qM oP) (jj N).symm (fun ay w' val h1 h2=>hX i v ws rd qM oP ay a w' val h1 h2)
    ·rw[jj]
     rcases h with h|⟨k,hk,_,rfl⟩<;>omega
    ·refine Bf N fun j hj e=> ?_
     have:=Sc j hj t e
     rw[ht]at this;cases this
    ·refine IE N fun j hj hm=> ?_
     have:=SP j hj id hm
     rw[aj]at this;cases this
   |eC=>
    exfalso
    obtain⟨j,hj,J3⟩:=J0 i qM oP
    have:=z8 j (Nat.lt_trans (pC i qM j hj) qM) (zY j hj)
    rw[J3]at this;cases this
 refine key ops.size _ φ a w (by simp[N]) (by simp[N,Array.count_replicate]) (fun k hk gk=> ?_) (fun k hk gk=> ?_) ?_
 ·simp[Ef,Array.getD_eq_getD_getElem?,Array.getElem?_replicate]at gk
  split at gk<;>simp at gk
 ·simp[Ef,Array.getD_eq_getD_getElem?,Array.getElem?_replicate]at gk
  split at gk<;>simp at gk
 ·have e:∀k,ez (bR l) ac (Ef (Array.replicate ops.size false)) s k=s:=by
   intro k
   induction k with
   |zero=>rfl
   |succ k ih=>
    have:Ef (Array.replicate ops.size false) k=false:=by
     simp only[Ef,Array.getD_eq_getD_getElem?,Array.getElem?_replicate]
     split<;>rfl
    simp only[ez,this,ih]
    rfl
  rw[e]
  obtain⟨k1,k2⟩:=iE (us':=z7 (Array.replicate ops.size false)) hs.heap (fun id h=> .inl h)
  exact⟨k1,hs.tr.trans k2,hs.size,hs.defers.mono k2,fun j=>V.aA k2 _ _ (hs.env j)⟩
end
end Go.Proofs.YtealblliddhgiaaGreat
namespace Go.Proofs.YtealblliddhgiaaGreat
section
variable {P:Program}{M:Nat->Prop}{φ ct:Place}{H0:Hp}{w w' w0:World}{n:Nat}{s:S}{us:Nat->Prop}{a:Act}{cx:Cx}{ro:Option Nat}{k:Nat}
variable {Q:Exit->Act->World->Prop}
theorem CK{ops:Array Oper}{po:Nat->Nat->Prop}{m:Nat}{X:V->S->Prop}{K:S->Prop}
 (pC:∀k,k<ops.size->∀j∈bw ops k,j<k)
 (Bg:∀E:Nat->Bool,(∀k,k<ops.size->E k=true->∀j∈bw ops k,E j=true)->∀k,k<ops.size->(∀j∈bw ops k,E j=true)->∀j,po k j->E j=true)
 (Bh:∀k,m<=k->k<ops.size->∀j,j<k->po k j)
 (hK:∀s φ a w,K s->bZ M ct H0 w0 n cx φ s a w->Q .normal a w)
 (hX:∀v s' ay a' w' val,X v s'->bZ M ct H0 w0 n cx ay s' a' w'->V.den (ai M ay s'.H) ay s'.H w' v val->Q (.panic [{v:=val,recovered:=false}]) a' w'):
 ∀ (d t:Nat) (s:S) (φ:Place) (ak:Array Bool) (a:Act) (w:World),t+d=ops.size->ak.size=ops.size->(∀k,k<ops.size->ak.getD k false=decide (k<t))->m<=t->
   bZ M ct H0 w0 n cx φ s a w->vw P n ops X K (ops.toList.drop t) s->wpAnyIn (dJ ro) k P .any ops Q d ak a w:=by
 intro d
 induction d with
 |zero=>
  intro t s φ ak a w ht dX hl DP hs h
  have e:t=ops.size:=by omega
  subst e
  refine⟨?_, ?_⟩
  ·rw[List.eq_nil_iff_forall_not_mem]
   intro j hj
   obtain⟨h1,o,h2,_⟩:=mem_ready.1 hj
   have VG:j<ops.size:=(Array.getElem?_eq_some_iff.1 h2).1
   have:=hl j VG
   simp only[Array.getD_eq_getD_getElem?]at this h1
   rw[Array.getElem?_eq_getElem (by omega)]at this h1
   simp only[Option.getD_some]at this h1
   rw[h1]at this
   simp[VG]at this
  ·rw[List.drop_eq_nil_of_le (by simp)]at h
   exact hK s φ a w h hs
 |succ d ih=>
  intro t s φ ak a w ht dX hl DP hs h
  have SR:t<ops.size:=by omega
  refine⟨fun hr=> ?_,fun i hi=> ?_⟩
  ·have:=nH pC dX hr t SR
   rw[hl t SR]at this
   simp at this
  ·obtain⟨h1,o,h2,h3⟩:=mem_ready.1 hi
   have qM:i<ops.size:=(Array.getElem?_eq_some_iff.1 h2).1
   have lR:ak.getD i false=false:=by
    simp only[Array.getD_eq_getD_getElem?]at h1|-
    rw[Array.getElem?_eq_getElem (by omega)]at h1|-
    simpa using h1
   have NI:t<=i:=by
    have:=hl i qM
    rw[lR]at this
    have:=of_decide_eq_false this.symm
    omega
   have zY:∀j∈bw ops i,ak.getD j false=true:=by
    intro j hj
    simp only[bw,h2,List.mem_map,List.mem_filter]at hj
    obtain⟨e,⟨he,hb⟩,rfl⟩:=hj
    exact h3 e (Array.mem_toList_iff.1 he) hb
   have jB:∀k,k<ops.size->ak.getD k false=true->∀j∈bw ops k,ak.getD j false=true:=by
    intro k hk gk j hj
    have M6:=pC k hk j hj
    rw[hl k hk]at gk
    rw[hl j (by omega)]
    have:=of_decide_eq_true gk
    exact decide_eq_true (by omega)
   have Sm:i=t:=by
    rcases Nat.eq_or_lt_of_le NI with e|e
    ·exact e.symm
    ·have:=Bg (fun k=>ak.getD k false) jB i qM zY t (Bh i (by omega) qM t e)
     rw[hl t SR]at this
     simp at this
   subst Sm
   have xQ:ops.toList.drop i=o::ops.toList.drop (i+1):=by
    have Nj:i<ops.toList.length:=by simpa using qM
    rw[List.drop_eq_getElem_cons Nj]
    have:ops.toList[i]=o:=by
     have:=(Array.getElem?_eq_some_iff.1 h2).2
     simpa using this
    rw[this]
   rw[xQ]at h
   obtain⟨g1,g2⟩:=oD hs h
   have GO:∀k,k<ops.size->(ak.setIfInBounds i true).getD k false=decide (k<i+1):=by
    intro k hk
    simp only[Array.getD_eq_getD_getElem?]
    by_cases e:k=i
    ·subst e;simp[dX,qM]
    ·rw[Array.getElem?_setIfInBounds_ne (Ne.symm e)]
     have:=hl k hk
     simp only[Array.getD_eq_getD_getElem?]at this
     rw[this]
     exact decide_eq_decide.2 (by omega)
   have lJ:∀s' ay a' w',vw P n ops X K (ops.toList.drop (i+1)) s'->bZ M ct H0 w0 n cx ay s' a' w'->wpAnyIn (dJ ro) k P .any ops Q d (ak.setIfInBounds i true) a' w':=
    fun s' ay a' w' hk ij=>ih (i+1) s' ay _ a' w' (by omega) (by simp[dX]) GO (by omega) ij hk
   unfold wpOpIn
   simp only[h2]
   split
   ·rename_i hw
    exact uk hs (g1 hw) (fun s' ay a' w' hk ij=>lJ s' ay a' w' hk ij) (fun v s' ay w' val hx ij hd=>hX v s' ay a w' val hx ij hd)
   ·rename_i hw
    obtain⟨cJ,h3⟩:=g2 (by simpa using hw)
    exact⟨fun _ _=>trivial,lJ _ _ _ _ h3 (xu hs cJ)⟩
theorem Aa(ba:P.follows .mixedOrders=true){ops:Array Oper}{l:List b7}{id:Nat}(mX:j9 n ops ops.toList=some l)(pC:∀k,k<ops.size->∀j∈bw ops k,j<k){ac:Nat->eU}{m:Nat}(hm:m<=ops.size){X:V->S->Prop}{K:S->Prop}
 (hs:bZ M ct H0 w0 n cx φ s a w) (JZ:∀i,i<m->ID P (ez (bR l) ac (fun _=>true) s i) (s.nx+i) (bR l i) (ac i))
 (NJ:∀i,i<m->(ac i).ok=true)
 {po:Nat->Nat->Prop} (Bg:∀E:Nat->Bool,(∀k,k<ops.size->E k=true->∀j∈bw ops k,E j=true)->∀k,k<ops.size->(∀j∈bw ops k,E j=true)->∀j,po k j->E j=true) (xP:∀k,k<ops.size->∀j,po k j->j<k)
 (hc:∀i j,i<j->j<m-> ¬po j i->Compat (bR l) ac (fun i=>tG (ac i)) i j)
 (Bh:∀k,m<=k->k<ops.size->∀j,j<k->po k j)
 (gC:vw P n ops X K (ops.toList.drop m) ⟨(ez (bR l) ac (fun _=>true) s m).env,(ez (bR l) ac (fun _=>true) s m).o,s.nx+m⟩)
 (hK:∀s φ a w,K s->bZ M ct H0 w0 n cx φ s a w->Q .normal a w)
 (hX:∀v s' ay a' w' val,X v s'->bZ M ct H0 w0 n cx ay s' a' w'->V.den (ai M ay s'.H) ay s'.H w' v val->Q (.panic [{v:=val,recovered:=false}]) a' w'):
 (Code.region id ops true).wpIn (dJ ro) k P Q a w:=by
 refine wpIn_region_any ba ?_
 have hs:=xN hs
 generalize ({w with drawn:=w.drawn+1}:World)=w at hs
 let N:=m
 let Ef (ak:Array Bool) (k:Nat):Bool:=ak.getD k false
 let z7 (ak:Array Bool) (j:Nat):Prop:=j<s.nx\/∃k,k<N/\Ef ak k=true/\j=s.nx+k
 have key:∀ (fuel:Nat) (ak:Array Bool) (φ:Place) (a:Act) (w:World),ak.size=ops.size->ak.count true+fuel=ops.size->(∀k,k<ops.size->Ef ak k=true->∀j∈bw ops k,Ef ak j=true)->(∀k,k<ops.size->Ef ak k=true->k<m)->
  qL M ct H0 w0 n cx φ (ez (bR l) ac (Ef ak) s N) (z7 ak) a w->wpAnyIn (dJ ro) k P .any ops Q fuel ak a w:=by
  have fin:∀ (fuel:Nat) (ak:Array Bool) (φ:Place) (a:Act) (w:World),ak.size=ops.size->ak.count true+fuel=ops.size->(∀k,k<ops.size->Ef ak k=true->k<m)->(∀k,k<N->Ef ak k=true)->qL M ct H0 w0 n cx φ (ez (bR l) ac (Ef ak) s N) (z7 ak) a w->wpAnyIn (dJ ro) k P .any ops Q fuel ak a w:=by
   intro fuel ak φ a w dX CH bL aO hu
   have e:∀k,k<=N->ez (bR l) ac (Ef ak) s k=ez (bR l) ac (fun _=>true) s k:=by
    intro k
    induction k with
    |zero=>intro _;rfl
    |succ k ih=>intro hk;simp only[ez,aO k (by omega),ih (by omega)]
   rw[e N (Nat.le_refl _)]at hu
   obtain⟨k1,k2⟩:=iE (us':=fun id=>id<s.nx+N) hu.heap (fun id h=>by
    show id<s.nx+N
    rcases h with h|⟨k,hk,_,rfl⟩<;>omega)
   have SS:∀k,k<ops.size->ak.getD k false=decide (k<m):=by
    intro k hk
    by_cases h:k<m
    ·rw[decide_eq_true h];exact aO k h
    ·rw[decide_eq_false h]
     cases hb:ak.getD k false with
     |false=>rfl
     |true=>exact absurd (bL k hk hb) h
   have Ry:ak.count true=m:=by
    have e1:ak=Array.ofFn (n:=ops.size) fun k=>decide (k.1<m):=by
     apply Array.ext
     ·simp[dX]
     ·intro k h1 h2
      have:=SS k (by omega)
      simp only[Array.getD_eq_getD_getElem?]at this
      rw[Array.getElem?_eq_getElem h1]at this
      simpa using this
    have e2:ak.toList=List.replicate m true++List.replicate (ops.size - m) false:=by
     apply List.ext_getElem?
     intro k
     by_cases hk:k<ops.size
     ·have h1:ak.toList[k]? =some (decide (k<m)):=by
       have:=SS k hk
       simp only[Array.getD_eq_getD_getElem?]at this
       rw[Array.getElem?_eq_getElem (by omega)]at this
       simp only[Option.getD_some]at this
       rw[Array.getElem?_toList,Array.getElem?_eq_getElem (by omega),this]
      rw[h1]
      by_cases h:k<m
      ·rw[List.getElem?_append_left (by simpa using h)]
       simp[h]
      ·rw[List.getElem?_append_right (by simpa using(by omega:m<=k))]
       rw[List.length_replicate,List.getElem?_replicate,if_pos (by omega),decide_eq_false h]
     ·rw[List.getElem?_eq_none (by simp[dX];omega),List.getElem?_eq_none (by simp;omega)]
    rw[<- Array.count_toList,e2,List.count_append,List.count_replicate_self,List.count_replicate]
    simp
   exact CK pC Bg Bh hK hX fuel m ⟨(ez (bR l) ac (fun _=>true) s m).env,(ez (bR l) ac (fun _=>true) s m).o,s.nx+m⟩ φ ak a w (by omega) dX SS (Nat.le_refl _) ⟨k1,hu.tr.trans k2,hu.size,hu.defers.mono k2,fun i=>V.aA k2 _ _ (hu.env i)⟩ gC
  intro fuel
  induction fuel with
  |zero=>
   intro ak φ a w dX CH jB bL hu
   have aO:∀k,k<ops.size->Ef ak k=true:=by
    intro k hk
    have h1:ak.count true=ak.size:=by omega
    rw[Array.count_eq_size]at h1
    have:=h1 ak[k] (Array.getElem_mem (by omega))
    simp only[Ef,Array.getD_eq_getD_getElem?]
    rw[Array.getElem?_eq_getElem (by omega)]
    simpa using this.symm
   exact fin 0 ak φ a w dX CH bL (fun k hk=>aO k (by omega)) hu
  |succ fuel ih=>
   intro ak φ a w dX CH jB bL hu
   by_cases IF:∀k,k<m->Ef ak k=true
   ·exact fin (fuel+1) ak φ a w dX CH bL IF hu
   have hex:∃j,j<m/\Ef ak j=false:=by
    apply Classical.byContradiction
    intro JN
    refine IF fun k hk=> ?_
    cases hb:Ef ak k with
    |true=>rfl
    |false=>exact absurd ⟨k,hk,hb⟩ JN
   obtain⟨j0,YY,NK⟩:=hex
   refine⟨fun hr=> ?_,fun i hi=> ?_⟩
   ·have:=nH pC dX hr j0 (by omega)
    rw[show ak.getD j0 false=false from NK]at this
    cases this
   obtain⟨h1,o,h2,h3⟩:=mem_ready.1 hi
   have SU:i<ops.size:=(Array.getElem?_eq_some_iff.1 h2).1
   have lR:Ef ak i=false:=by
    simp only[Ef,Array.getD_eq_getD_getElem?]at h1|-
    rw[Array.getElem?_eq_getElem (by omega)]at h1|-
    simpa using h1
   have zY:∀j∈bw ops i,Ef ak j=true:=by
    intro j hj
    simp only[bw,h2,List.mem_map,List.mem_filter]at hj
    obtain⟨e,⟨he,hb⟩,rfl⟩:=hj
    exact h3 e (Array.mem_toList_iff.1 he) hb
   have qM:i<N:=by
    apply Classical.byContradiction
    intro zt
    have zt:m<=i:=Nat.le_of_not_lt zt
    have:=Bg _ jB i SU zY j0 (Bh i zt SU j0 (by omega))
    rw[NK]at this;cases this
   have EI:vR N po (Ef ak):=fun k hk gk=>Bg _ jB k (by omega) (jB k (by omega) gk)
   obtain⟨NG,Rx⟩:=agree (s:=s) (n:=N) (fun k hk=>xP k (by omega)) hc EI qM lR (Bg _ jB i (by omega) zY)
   obtain⟨g1,g2,g3,g4⟩:=uz (rX _ _ i o mX (by simpa using h2))
   have cU: ¬z7 ak (s.nx+i):=by
    rintro(h|⟨k,_,hk,he⟩)
    ·omega
    ·have:k=i:=by omega
     subst this;rw[lR]at hk;cases hk
   have zZ:∀k,Ef (ak.setIfInBounds i true) k=(Ef ak k||k==i):=by
    intro k
    simp only[Ef,Array.getD_eq_getD_getElem?]
    by_cases e:k=i
    ·subst e;simp[dX,SU]
    ·rw[Array.getElem?_setIfInBounds_ne (Ne.symm e)]
     have:(k==i)=false:=by simpa using e
     simp[this]
   have J1:=insert (s:=s) hc EI qM lR zZ
   have J2:∀k,k<ops.size->Ef (ak.setIfInBounds i true) k=true->∀j∈bw ops k,Ef (ak.setIfInBounds i true) j=true:=by
    intro k hk gk j hj
    rw[zZ]at gk|-
    by_cases e:k=i
    ·subst e;simp[zY j hj]
    ·have:(k==i)=false:=by simpa using e
     rw[this,Bool.or_false]at gk
     simp[jB k hk gk j hj]
   have EJ:(ak.setIfInBounds i true).count true+fuel=ops.size:=by
    have bL:i<ak.size:=by omega
    have e1:ak.setIfInBounds i true=ak.set i true bL:=by simp[Array.setIfInBounds,bL]
    have e2:ak[i]=false:=by
     have:=lR
     simp only[Ef,Array.getD_eq_getD_getElem?]at this
     rw[Array.getElem?_eq_getElem bL]at this
     simpa using this
    rw[e1,Array.count_set bL,e2]
    simp
    omega
   have lJ:(ac i).ok=true->∀ay a' w',qL M ct H0 w0 n cx ay (tu o.dst (ac i) (ez (bR l) ac (Ef ak) s N)) (fun id=>z7 ak id\/id=s.nx+i) a' w'->wpAnyIn (dJ ro) k P .any ops Q fuel (ak.setIfInBounds i true) a' w':=by
    intro NH ay a' w' vk
    refine ih _ ay a' w' (by simp[dX]) EJ J2 (fun k hk gk=> ?_) ?_
    ·rw[zZ]at gk
     by_cases e:k=i
     ·subst e;exact qM
     ·have:(k==i)=false:=by simpa using e
      rw[this,Bool.or_false]at gk
      exact bL k hk gk
    rw[J1,g2]
    obtain⟨k1,k2⟩:=iE (us':=z7 (ak.setIfInBounds i true)) vk.heap (fun id h=>by
     rcases h with(h|⟨k,hk,gk,rfl⟩)|rfl
     ·exact .inl h
     ·exact .inr ⟨k,hk,by rw[zZ,gk];rfl,rfl⟩
     ·exact .inr ⟨i,qM,by rw[zZ];simp,rfl⟩)
    exact⟨k1,vk.tr.trans k2,vk.size,vk.defers.mono k2,fun j=>V.aA k2 _ _ (vk.env j)⟩
   have CI:∀d want,(bR l i).gd=some (d,want)->(ez (bR l) ac (Ef ak) s N).env d=(ez (bR l) ac (fun _=>true) s i).env d:=fun d want hd=>NG d (by simp[eN,tmpsOf,hd])
   have bz:=JZ i qM
   have CJ:∀x∈(bR l i).op.operands,(ez (bR l) ac (Ef ak) s N).ev x=(ez (bR l) ac (fun _=>true) s i).ev x:=fun x hx=>xL fun t ht=>NG t (by
    subst ht
    simp only[eN,tmpsOf,List.mem_append,List.mem_filterMap]
    exact .inl (.inl ⟨.tmp t,Array.mem_toList_iff.2 hx,rfl⟩))
   have GY:(ez (bR l) ac (Ef ak) s N).nx=(ez (bR l) ac (fun _=>true) s i).nx:=(jj N).trans (jj i).symm
   unfold wpOpIn
   simp only[h2]
   cases oP:ac i with
   |skip=>
    rw[oP]at bz lJ
    have hw:=fe hu.env g4 (ff CI bz)
    simp only[hw,Bool.false_eq_true,if_false]
    refine⟨fun _ _=>trivial,lJ rfl φ _ w ?_⟩
    have:=gY (v:= .bT []) (val:=undef) hu hu.heap (Trans.refl _ _ _) ⟨#[],rfl,rfl⟩ (dst:=o.dst) g3 rfl (us':=fun id=>z7 ak id\/id=s.nx+i) (fun id h=> .inl h)
    exact this
   |val v Δ rd=>
    rw[oP]at bz lJ
    have hw:=fe hu.env g4 (ff CI bz.1)
    simp only[hw,if_true]
    obtain⟨uu,qE⟩:=qn CJ (fun id aj=>Rx id (by rw[oP];exact aj)) GY bz.2
    exact xK hu cU (fun id h=> .inl (by rw[jj]at h;exact h)) g1.symm g3 qE (lJ rfl)
   |bK v ws rd=>
    have:=NJ i qM
    rw[oP]at this;cases this
   |eC=>
    have:=NJ i qM
    rw[oP]at this;cases this
 refine key ops.size _ φ a w (by simp) (by simp[Array.count_replicate]) (fun k hk gk=> ?_) (fun k hk gk=> ?_) ?_
 ·simp[Ef,Array.getD_eq_getD_getElem?,Array.getElem?_replicate]at gk
  split at gk<;>simp at gk
 ·simp[Ef,Array.getD_eq_getD_getElem?,Array.getElem?_replicate]at gk
  split at gk<;>simp at gk
 ·have e:∀k,ez (bR l) ac (Ef (Array.replicate ops.size false)) s k=s:=by
   intro k
   induction k with
   |zero=>rfl
   |succ k ih=>
    have:Ef (Array.replicate ops.size false) k=false:=by
     simp only[Ef,Array.getD_eq_getD_getElem?,Array.getElem?_replicate]
     split<;>rfl
    simp only[ez,this,ih]
    rfl
  rw[e]
  obtain⟨k1,k2⟩:=iE (us':=z7 (Array.replicate ops.size false)) hs.heap (fun id h=> .inl h)
  exact⟨k1,hs.tr.trans k2,hs.size,hs.defers.mono k2,fun j=>V.aA k2 _ _ (hs.env j)⟩
end
end Go.Proofs.YtealblliddhgiaaGreat
