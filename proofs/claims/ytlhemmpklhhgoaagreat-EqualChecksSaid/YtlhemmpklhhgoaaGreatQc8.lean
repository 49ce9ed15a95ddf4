/-
  A PART OF THE PROOF. Conditions: none.
-/
import Derived.OrdersIn
import Derived.Test.YtlhemmpklhhgoaaGreatQc7
set_option linter.unusedSimpArgs false
set_option linter.unusedVariables false
namespace Go.Proofs.YtlhemmpklhhgoaaGreat
section
def aa.refs:aa->List Nat
 | .row cs=>V.aO cs
 | .loop _ _ env _ _ _ _ _=>V.aO env
 |_=>[]
def JX(R:List Nat)(o:Nat->aa):Nat->aa:=fun id=>if R.contains id=true then o id else .no
def E5(P:Program)(g:FuncId)(args:List V)(rd:List Nat)(o:Nat->aa)(out:R)(Δ:List (Nat×aa)):Prop:=
 Enters P g/\∀ (o':Nat->aa) (us:Nat->Prop) (M:Nat->Prop) (φ:Place) (w:World) (vals:Array Value),(∀id∈rd,o' id=o id/\us id)->ao M φ ⟨o',us⟩ w->V.az (ai M φ ⟨o',us⟩) φ ⟨o',us⟩ w args vals.toList->
  Calls P g vals w fun e w'=>∃aA,ao M aA ⟨put o' Δ,us⟩ w'/\Trans φ ⟨o',us⟩ w aA ⟨put o' Δ,us⟩ w'/\out.is (ai M aA ⟨put o' Δ,us⟩) w' e
def zS(P:Program)(g:FuncId)(args:List V)(rd:List Nat)(o:Nat->aa)(fr:Nat)(v:V)(Δ:List (Nat×aa)):Prop:=
 Enters P g/\∀ (o':Nat->aa) (us:Nat->Prop) (M:Nat->Prop) (φ:Place) (w:World) (vals:Array Value),(∀id∈rd,o' id=o id/\us id)-> ¬us fr->ao M φ ⟨o',us⟩ w->V.az (ai M φ ⟨o',us⟩) φ ⟨o',us⟩ w args vals.toList->
  Calls P g vals w fun e w'=>∃aA,ao M aA ⟨put o' Δ,fun id=>us id\/id=fr⟩ w'/\Trans φ ⟨o',us⟩ w aA ⟨put o' Δ,fun id=>us id\/id=fr⟩ w'/\∃val,e= .returned val/\V.den (ai M aA ⟨put o' Δ,fun id=>us id\/id=fr⟩) aA ⟨put o' Δ,fun id=>us id\/id=fr⟩ w' v val
mutual
theorem V.kJ {B B':Nat->Prop}{φ aA:Place}{H H':Hp}{w:World}(hB:∀b, ¬B b-> ¬B' b):∀ (v:V) (val:Value),(∀id∈v.refs,H'.o id=H.o id/\aA id=φ id/\H'.us id)->V.den B φ H w v val->V.den B' aA H' w v val
 | .d x,val,_,h=>D.aG (w:=w) (w':=w) (fun b _ hn=>⟨rfl,hB b hn⟩) x val h
 | .a8,_,_,h=>h
 | .ab,_,_,_=>trivial
 | .ek,_,_,h=>h
 | .oj es,val,_,h=>⟨D.aG (w:=w) (w':=w) (fun b _ hn=>⟨rfl,hB b hn⟩) (.sl es) val h.1,h.2⟩
 | .agg cs,val,hr,h=>by
   obtain⟨a,rfl,h1,h2⟩:=h
   exact⟨a,rfl,V.eD hB cs _ Cm h1,h2⟩
 | .bC cs,val,hr,h=>by
   obtain⟨a,rfl,h1⟩:=h
   exact⟨a,rfl,V.eD hB cs _ Cm h1⟩
 | .ptr id off,val,hr,h=>by
   exact Xb
 | .osl id ep,val,hr,h=>by
   obtain⟨a,b,c⟩:=hr id uJ
   obtain⟨h0,h1,h2⟩:=h
   refine⟨h0,c,fun e he=> ?_⟩
   rw[a]at he
   obtain⟨x,y⟩:=h2 e he
   exact⟨x,fun heq=>(y heq).trans b.symm⟩
 | .pe id ep i sz off,val,hr,h=>by
   obtain⟨a,b,c⟩:=hr id uJ
   obtain⟨h0,h1,h2⟩:=h
   refine⟨h0,c,fun e he=> ?_⟩
   rw[a]at he
   obtain⟨x,y⟩:=h2 e he
   exact RQ
 | .pp cs off,val,_,h=>by
   obtain⟨a,ev,h1,h2,h3,h5,h4⟩:=h
   exact QF
 | .func fn first cap,val,hr,h=>by
   obtain⟨f,c,rfl,h1,h2⟩:=h
   exact⟨f,c,rfl,V.eD hB first _ (fun id aq=>hr id (by simp[V.refs,aq])) h1,V.eD hB cap _ (fun id aq=>hr id (by simp[V.refs,aq])) h2⟩
 | .iface t x,val,hr,h=>by
   obtain⟨u,rfl,h⟩:=h
   exact⟨u,rfl,V.kJ hB x u Cm h⟩
 | .tu id off n,val,hr,h=>by
   exact Xb
 | .mp id,val,hr,h=>by
   obtain⟨a,b,c⟩:=hr id uJ
   obtain⟨h0,h1,h2⟩:=h
   refine⟨h0,c,fun cn=> ?_⟩
   rw[a]at cn
   exact(h2 cn).trans b.symm
 | .jc id,val,hr,h=>by
   exact Xb
theorem V.eD {B B':Nat->Prop}{φ aA:Place}{H H':Hp}{w:World}(hB:∀b, ¬B b-> ¬B' b):∀ (vs:List V) (vals:List Value),(∀id∈V.aO vs,H'.o id=H.o id/\aA id=φ id/\H'.us id)->V.az B φ H w vs vals->V.az B' aA H' w vs vals
 |[],_,_,h=>h
 |v::vs,_,hr,h=>by
  obtain⟨u,us,rfl,h1,h2⟩:=h
  exact⟨u,us,rfl,V.kJ hB v u (fun id aq=>hr id (by simp[V.aO,aq])) h1,V.eD hB vs us (fun id aq=>hr id (by simp[V.aO,aq])) h2⟩
end
theorem CX{env:List V}{i id:Nat}(h:id∈(bc env i).refs):id∈V.aO env:=by
 unfold bc at h
 induction env generalizing i with
 |nil=>simp[V.refs]at h
 |cons v env ih=>
  cases i with
  |zero=>simp only[List.getD_cons_zero]at h;simp[V.aO,h]
  |succ i=>simp only[List.getD_cons_succ]at h;simp[V.aO,ih h]
theorem aF.refs {M M':Nat->Prop}{φ aA:Place}{H H':Hp}{w:World}{id:Nat}(hB:∀b, ¬ai M φ H b-> ¬ai M' aA H' b)(ho:H'.o id=H.o id)(dT:aA id=φ id)
 (hr:∀j∈(H.o id).refs,H'.o j=H.o j/\aA j=φ j/\H'.us j) (h:aF M φ H w id):aF M' aA H' w id:=by
 have hd:∀b,cg w b-> ¬ai M φ H b->w.heap[b]? =w.heap[b]? /\ ¬ai M' aA H' b:=fun b _ hn=>⟨rfl,hB b hn⟩
 unfold aF at*
 rw[ho]
 cases hx:H.o id with
 |no=>trivial
 |row cs=>
  simp only[hx]at h|-
  obtain⟨b,da,ty,h1,h2,h3,h4⟩:=h
  exact⟨b,da,ty,dT.trans h1,h2,V.eD hB cs _ (fun j hj=>hr j (by rw[hx];exact hj)) h3,h4⟩
 |arr ep ty sz es=>
  simp only[hx]at h|-
  obtain⟨h0,xs,h1,evs,h2,h3,h4⟩:=h
  exact⟨h0,xs,by rw[dT];exact h1,evs,h2,h3,D.aI hd es evs h4⟩
 |qo ep es=>
  simp only[hx]at h|-
  rw[dT]
  exact D.aG hd (.sl es) _ h
 |map kt vt l=>
  simp only[hx]at h|-
  obtain⟨b,es,clock,h1,h2,h4,h3⟩:=h
  exact⟨b,es,clock,dT.trans h1,h2,h4,aB.mono hd l _ h3⟩
 |cO l=>
  simp only[hx]at h|-
  rw[dT]
  exact iQ.mono hd h
 |oB l last=>
  simp only[hx]at h|-
  obtain⟨b,h1,h2⟩:=h
  exact⟨b,dT.trans h1,h2.mono hd rfl⟩
 |uP s pos=>
  simp only[hx]at h|-
  obtain⟨b,h1,h2⟩:=h
  exact⟨b,dT.trans h1,h2⟩
 |loop nf n env ps iR eL st Cq=>
  simp only[hx]at h|-
  obtain⟨b,r,h1,h2,h0,h3,h4,h5,h6,h7,h8,h9⟩:=h
  exact⟨b,r,dT.trans h1,h2,h0,h3,h4,h5,h6,h7,h8,fun i=>V.kJ hB _ _ (fun j hj=>hr j (by rw[hx];exact CX hj)) (h9 i)⟩
section
variable {P:Program}
theorem zT{o o':Nat->aa}{Δ:List (Nat×aa)}{id:Nat}(h:o id=o' id):put o Δ id=put o' Δ id:=Bt h
where Bt {o o':Nat->aa}:∀ {Δ:List (Nat×aa)} {id:Nat},o id=o' id->put o Δ id=put o' Δ id
 |[],_,h=>h
 |x::Δ,id,h=>by
  simp only[put,List.foldl_cons]
  refine Bt (Δ:=Δ) (o:=aM o x.1 x.2) (o':=aM o' x.1 x.2) ?_
  simp only[aC]
  split
  ·rfl
  ·exact h
theorem vy{o:Nat->aa}:∀ {Δ:List (Nat×aa)} {id:Nat},(∀x∈Δ,x.1≠id)->put o Δ id=o id
 |[],_,_=>rfl
 |x::Δ,id,h=>by
  have:=vy (o:=aM o x.1 x.2) (Δ:=Δ) (id:=id) (fun y hy=>h y lS)
  simp only[put,List.foldl_cons]at this|-
  rw[this];simp[Ne.symm (h x (by simp))]
theorem E5.mz {g:FuncId}{args:List V}{rd:List Nat}{o:Nat->aa}{nx:Nat}{out:R}{Δ:List (Nat×aa)}(sI:∀id∈rd,id<nx)(cZ:∀id∈V.aO args,id∈rd)(qd:∀id∈rd,∀j∈(o id).refs,j∈rd)(O8:∀x∈Δ,x.1∈rd)(XT:∀x∈Δ,∀j∈x.2.refs,j∈rd)
 (h:dV P g args (JX rd o) nx
  (fun v o1 _=>(∀id∈rd,o1 id=put o Δ id)/\∃vs rs,v=(match vs with|[v]=>v|vs=> .bC vs)/\bD o1 vs=some rs/\out= .ret rs/\∀id∈V.aV vs,id∉rd)
  (fun v o1 _=>(∀id∈rd,o1 id=put o Δ id)/\∃x,du o1 v=some x/\out= .bf x/\∀id∈v.ids,id∉rd)):E5 P g args rd o out Δ:=by
 refine⟨h.1,fun o' us M φ w vals ho hH hd=> ?_⟩
 let M1:Nat->Prop:=fun b=>M b\/∃id,id∉rd/\(o' id).live=true/\dK (φ id)=some b
 let HR:Hp:=hp (JX rd o) nx
 have rq:∀id,id∈rd->JX rd o id=o' id:=fun id aq=>by simp[JX,aq,(ho id aq).1]
 have pN:∀id,id∉rd->JX rd o id= .no:=fun id aq=>by simp[JX,aq]
 have hB:∀b,ai M1 φ HR b↔ai M φ ⟨o',us⟩ b:=by
  intro b
  constructor
  ·rintro((h|⟨id,h1,h2,h3⟩)|⟨id,h1,h2⟩)
   ·exact .inl h
   ·exact .inr ⟨id,h2,h3⟩
   ·by_cases aq:id∈rd
    ·exact .inr ⟨id,by show(o' id).live=true;rw[<- rq id aq];exact h1,h2⟩
    ·have:HR.o id= .no:=pN id aq
     rw[this]at h1;cases h1
  ·rintro(h|⟨id,h1,h2⟩)
   ·exact .inl (.inl h)
   ·by_cases aq:id∈rd
    ·exact .inr ⟨id,by show(JX rd o id).live=true;rw[rq id aq];exact h1,h2⟩
    ·exact .inl (.inr ⟨id,aq,h1,h2⟩)
 have EI:∀id∈rd,HR.o id=o' id/\φ id=φ id/\HR.us id:=fun id aq=>⟨rq id aq,rfl,sI id aq⟩
 have hHR:ao M1 φ HR w:=by
  refine⟨fun id=> ?_,fun id hn=> ?_,fun i j b hi hj bi bj=> ?_,fun b hb=> ?_,fun b hb=> ?_⟩
  ·by_cases aq:id∈rd
   ·refine aF.refs (H:=⟨o',us⟩) (M:=M) (φ:=φ) (fun b hn hb=>hn ((hB b).1 hb)) (rq id aq) rfl (fun j hj=>EI j ?_) (hH.ok id)
    have:o' id=o id:=(ho id aq).1
    exact qd id aq j (by rw[<- this];exact hj)
   ·unfold aF
    rw[show HR.o id= .no from pN id aq];trivial
  ·exact pN id fun aq=>hn (sI id aq)
  ·have live:∀i,(HR.o i).live=true->i∈rd/\(o' i).live=true:=fun i hi=>by
    by_cases aq:i∈rd
    ·exact⟨aq,by rw[<- rq i aq];exact hi⟩
    ·rw[show HR.o i= .no from pN i aq]at hi;cases hi
   exact hH.apart i j b (live i hi).2 (live j hj).2 bi bj
  ·obtain⟨id,h1,h2⟩:=hb
   have aq:id∈rd:=by
    by_cases aq:id∈rd
    ·exact aq
    ·rw[show HR.o id= .no from pN id aq]at h1;cases h1
   rw[show HR.o id=o' id from rq id aq]at h1
   obtain⟨k1,k2⟩:=hH.ours b ⟨id,h1,h2⟩
   refine⟨?_,k2⟩
   rintro(hM|⟨j,j1,j2,j3⟩)
   ·exact k1 hM
   ·exact j1 (hH.apart j id b j2 h1 j3 h2 ▸ aq)
  ·rcases hb with hb|⟨id,h1,h2,h3⟩
   ·exact hH.wA b hb
   ·exact(hH.ours b ⟨id,h2,h3⟩).2
 have hdR:V.az (ai M1 φ HR) φ HR w args vals.toList:=V.eD (H:=⟨o',us⟩) (fun b hn hb=>hn ((hB b).1 hb)) _ _ (fun id aq=>EI id (cZ id aq)) hd
 refine(h.2 M1 φ w vals hHR hdR).mono ?_
 rintro e w' ⟨fW,o1,wF,v,k1,k2,k3⟩
 have main:(∀id∈rd,o1 id=put o Δ id)->∃aA,ao M aA ⟨put o' Δ,us⟩ w'/\Trans φ ⟨o',us⟩ w aA ⟨put o' Δ,us⟩ w'/\∀b,ai M aA ⟨put o' Δ,us⟩ b->M1 b\/∃id∈rd,(o1 id).live=true/\dK (fW id)=some b:=by
  intro sG
  have Bl:∀id∈rd,put o' Δ id=o1 id:=fun id aq=>(zT (ho id aq).1).trans (sG id aq).symm
  have DU:∀id,id∉rd->put o' Δ id=o' id:=fun id aq=>vy fun x hx e=>aq (e ▸ O8 x hx)
  let CP:Place:=fun id=>if id∈rd then fW id else φ id
  have vz:∀id∈rd,CP id=fW id:=fun id aq=>if_pos aq
  have xJ:∀id,id∉rd->CP id=φ id:=fun id aq=>if_neg aq
  let H2:Hp:=⟨put o' Δ,us⟩
  have cw:∀b,cu CP H2 b->(∃id∈rd,(o1 id).live=true/\dK (fW id)=some b)\/∃id,id∉rd/\(o' id).live=true/\dK (φ id)=some b:=by
   rintro b ⟨id,h1,h2⟩
   by_cases aq:id∈rd
   ·exact .inl ⟨id,aq,by rw[<- Bl id aq];exact h1,by rw[<- vz id aq];exact h2⟩
   ·exact .inr ⟨id,aq,by rw[<- DU id aq];exact h1,by rw[<- xJ id aq];exact h2⟩
  have Wh:∀b,ai M CP H2 b->ai M1 fW (hp o1 wF) b:=by
   rintro b (hb|hb)
   ·exact .inl (.inl hb)
   ·rcases cw b hb with⟨id,h1,h2,h3⟩|⟨id,h1,h2,h3⟩
    ·exact .inr ⟨id,h2,h3⟩
    ·exact .inl (.inr ⟨id,h1,h2,h3⟩)
  have Sq:db φ ⟨o',us⟩ CP H2:=by
   refine⟨fun id h=>h,fun id hu hr=> ?_,fun id e' hu he=> ?_⟩
   ·by_cases aq:id∈rd
    ·rw[show H2.o id=o1 id from Bl id aq]at hr
     obtain⟨a,b⟩:=k2.rel.row id (sI id aq) hr
     rw[show HR.o id=o' id from rq id aq]at a
     exact⟨a,(vz id aq).trans b⟩
    ·rw[show H2.o id=o' id from DU id aq]at hr
     exact⟨hr,xJ id aq⟩
   ·by_cases aq:id∈rd
    ·rw[show H2.o id=o1 id from Bl id aq]at he
     obtain⟨e0,a,b,c⟩:=k2.rel.ep id e' (sI id aq) he
     rw[show HR.o id=o' id from rq id aq]at a
     exact⟨e0,a,b,fun heq=>(vz id aq).trans (c heq)⟩
    ·rw[show H2.o id=o' id from DU id aq]at he
     exact⟨e',he,Nat.le_refl _,fun _=>xJ id aq⟩
  have qS:∀b,cg w b-> ¬ai M φ ⟨o',us⟩ b->w'.heap[b]? =w.heap[b]? /\ ¬ai M CP H2 b:=by
   intro b hc hn
   obtain⟨a,c⟩:=k2.blocks (M:=M1) b hc (fun hb=>hn ((hB b).1 hb))
   exact⟨a,fun hb=>c (Wh b hb)⟩
  have vj:∀b,b<w.heap.size-> ¬cu φ HR b->w'.heap[b]? =w.heap[b]? :=fun b hb hl=>k2.keep.block b hb hl
  have ht:Trans φ ⟨o',us⟩ w CP H2 w':=by
   refine⟨⟨k2.keep.os,k2.keep.tape,k2.keep.output,k2.keep.size,fun b hb hl=>vj b hb fun⟨id,h1,h2⟩=>hl ?_⟩,fun b hb=> ?_,Sq⟩
   ·by_cases aq:id∈rd
    ·exact⟨id,by show(o' id).live=true;rw[<- rq id aq];exact h1,h2⟩
    ·rw[show HR.o id= .no from pN id aq]at h1;cases h1
   ·rcases cw b hb with⟨id,h1,h2,h3⟩|⟨id,h1,h2,h3⟩
    ·rcases k2.grow b ⟨id,h2,h3⟩with⟨j,j1,j2⟩|wB
     ·by_cases aq:j∈rd
      ·exact .inl ⟨j,by show(o' j).live=true;rw[<- rq j aq];exact j1,j2⟩
      ·rw[show HR.o j= .no from pN j aq]at j1;cases j1
     ·exact .inr wB
    ·exact .inl ⟨id,h2,h3⟩
  refine⟨CP,⟨fun id=> ?_,fun id hn=> ?_,fun i j b hi hj bi bj=> ?_,fun b hb=> ?_,fun b hb=>Nat.lt_of_lt_of_le (hH.wA b hb) k2.keep.size⟩,ht,fun b hb=> ?_⟩
  ·by_cases aq:id∈rd
   ·refine aF.refs (H:=hp o1 wF) (M:=M1) (φ:=fW) (fun b hn hb=>hn (Wh b hb)) (Bl id aq) (vz id aq) (fun j hj=> ?_) (k1.ok id)
    have DN:j∈rd:=by
     have e1:o1 id=put o Δ id:=sG id aq
     have hj:j∈(put o Δ id).refs:=by rw[<- e1];exact hj
     have key:∀ (Bu:List (Nat×aa)) (q:Nat->aa),(∀x∈Bu,∀j∈x.2.refs,j∈rd)->(∀j∈(q id).refs,j∈rd)->∀j∈(put q Bu id).refs,j∈rd:=by
      intro Bu
      induction Bu with
      |nil=>intro q _ h2;exact h2
      |cons x Bu ih=>
       intro q h1 h2
       simp only[put,List.foldl_cons]
       refine ih (aM q x.1 x.2) (fun y hy=>h1 y lS) ?_
       simp only[aC]
       split
       ·exact h1 x aK
       ·exact h2
     exact key Δ o XT (qd id aq) j hj
    exact⟨Bl j DN,vz j DN,(ho j DN).2⟩
   ·exact aF.wZ qS Sq (DU id aq) (xJ id aq) (fun hl b hb=>vj b (hH.ours b ⟨id,hl,hb⟩).2 fun⟨j,j1,j2⟩=>by
     by_cases hj:j∈rd
     ·rw[show HR.o j=o' j from rq j hj]at j1
      exact aq (hH.apart id j b hl j1 hb j2 ▸ hj)
     ·rw[show HR.o j= .no from pN j hj]at j1;cases j1) (hH.ok id)
  ·have aq:id∉rd:=fun aq=>hn (ho id aq).2
   exact(DU id aq).trans (hH.fresh id hn)
  ·by_cases e1:i∈rd<;>by_cases e2:j∈rd
   ·refine k1.apart i j b ?_ ?_ (by rw[<- vz i e1];exact bi) (by rw[<- vz j e2];exact bj)
    ·show(o1 i).live=true;rw[<- Bl i e1];exact hi
    ·show(o1 j).live=true;rw[<- Bl j e2];exact hj
   ·exfalso
    refine(k1.ours b ⟨i,by show(o1 i).live=true;rw[<- Bl i e1];exact hi,by rw[<- vz i e1];exact bi⟩).1 (.inr ⟨j,e2,by rw[<- DU j e2];exact hj,by rw[<- xJ j e2];exact bj⟩)
   ·exfalso
    refine(k1.ours b ⟨j,by show(o1 j).live=true;rw[<- Bl j e2];exact hj,by rw[<- vz j e2];exact bj⟩).1 (.inr ⟨i,e1,by rw[<- DU i e1];exact hi,by rw[<- xJ i e1];exact bi⟩)
   ·exact hH.apart i j b (by show(o' i).live=true;rw[<- DU i e1];exact hi) (by show(o' j).live=true;rw[<- DU j e2];exact hj) (by rw[<- xJ i e1];exact bi) (by rw[<- xJ j e2];exact bj)
  ·rcases cw b hb with⟨id,h1,h2,h3⟩|⟨id,h1,h2,h3⟩
   ·obtain⟨a,c⟩:=k1.ours b ⟨id,h2,h3⟩
    exact⟨fun hM=>a (.inl hM),c⟩
   ·obtain⟨a,c⟩:=hH.ours b ⟨id,h2,h3⟩
    exact⟨a,Nat.lt_of_lt_of_le c k2.keep.size⟩
  ·rcases hb with hb|hb
   ·exact .inl (.inl hb)
   ·rcases cw b hb with h|h
    ·exact .inr h
    ·exact .inl (.inr h)
 have res:∀ (vs:List V) (xs:List D) (us':List Value),(∀id∈rd,o1 id=put o Δ id)->bD o1 vs=some xs->(∀id∈V.aV vs,id∉rd)->V.az (ai M1 fW (hp o1 wF)) fW (hp o1 wF) w' vs us'->
  ∃aA,ao M aA ⟨put o' Δ,us⟩ w'/\Trans φ ⟨o',us⟩ w aA ⟨put o' Δ,us⟩ w'/\D.az (ai M aA ⟨put o' Δ,us⟩) w' xs us':=by
  intro vs xs us' sG h1 XU h2
  obtain⟨f1,f2,f3,f4,f5⟩:=cI k1 (V.aV vs) (cm vs _ h2)
  have h3:=cK f1 vs xs us' f3 h1 (V.aI f2 _ _ h2)
  obtain⟨aA,m1,m2,m3⟩:=main sG
  refine⟨aA,m1,m2,D.aI (w:=w') (w':=w') (fun b _ hn=>⟨rfl,fun hb=>hn ?_⟩) xs us' h3⟩
  rcases m3 b hb with hb|⟨id,i1,i2,i3⟩
  ·exact .inl hb
  ·exact .inr ⟨id,by rw[f4 id fun hm=>XU id hm i1];exact i2,i3⟩
 cases e with
 |outgrown=>exact k3.elim
 |panicked ch=>
  obtain⟨val,rfl,g1,sG,x,g2,rfl,g3⟩:=k3
  obtain⟨aA,m1,m2,m3⟩:=res [v] [x] [val] sG (by simp[bD,g2]) (by simpa[V.aV]using g3) ⟨val,[],rfl,g1,rfl⟩
  obtain⟨u,us2,he,h2,_⟩:=m3
  simp at he;obtain⟨rfl,rfl⟩:=he
  exact⟨aA,m1,m2,val,rfl,h2⟩
 |returned val=>
  obtain⟨g1,sG,vs,rs,rfl,g2,rfl,g3⟩:=k3
  match vs,g1,g2,g3 with
  |[],g1,g2,g3=>
   obtain⟨arr,rfl,hv⟩:=g1
   simp only[bD,Option.some.injEq]at g2;subst g2
   obtain⟨aA,m1,m2,m3⟩:=res [] [] arr.toList sG rfl (by simp[V.aV]) hv
   exact⟨aA,m1,m2,arr,rfl,m3⟩
  |[v],g1,g2,g3=>
   obtain⟨aA,m1,m2,m3⟩:=res [v] rs [val] sG g2 g3 ⟨val,[],rfl,g1,rfl⟩
   refine⟨aA,m1,m2, ?_⟩
   cases rs with
   |nil=>cases m3
   |cons x l=>
    obtain⟨u,us2,he,h2,h3⟩:=m3
    simp at he;obtain⟨rfl,rfl⟩:=he
    cases l with
    |nil=>exact h2
    |cons y l=>obtain⟨_,_,h,_⟩:=h3;cases h
  |v::v2::l,g1,g2,g3=>
   obtain⟨arr,rfl,hv⟩:=g1
   obtain⟨aA,m1,m2,m3⟩:=res (v::v2::l) rs arr.toList sG g2 g3 hv
   refine⟨aA,m1,m2, ?_⟩
   have hl:=D.au _ _ m3
   have ZT:=V.au _ _ hv
   match rs,hl,m3 with
   |[],hl,_=>exact A1
   |[x],hl,_=>exact A1
   |x::y::l,_,m3=>exact⟨arr,rfl,m3⟩
end
end
section
inductive dQ where
 |skip|val (v:V) (Δ:List (Nat×aa)) (rd:List Nat)|bf (v:V) (ws rd:List Nat)|dK
 deriving Inhabited
def dQ.ok:dQ->Bool
 | .skip| .val .. =>true
 |_=>false
def sJ(dst:Option Tmp)(x:dQ)(s:S):S:=
 match x with
 | .skip=>⟨aQ s.env dst (.bC []),s.o,s.nx⟩
 | .val v Δ _=>⟨aQ s.env dst v,put s.o Δ,s.nx⟩
 | .bf .. | .dK=>⟨aQ s.env dst .ab,s.o,s.nx⟩
def iU:dQ->List Nat
 | .val _ Δ _=>Δ.map (·.1)
 |_=>[]
def s7:dQ->List Nat
 | .val _ _ rd=>rd
 | .bf _ _ rd=>rd
 |_=>[]
def Sr(P:Program)(g:FuncId)(ds:List D)(v:V):Prop:=
 Enters P g/\∀ (M:Nat->Prop) (w:World) (vals:Array Value),(∀b,M b->b<w.heap.size)->D.az M w ds vals.toList->
  Calls P g vals w fun e w'=>dy (fun _=>False) w w'/\∃val,e= .returned val/\∀φ H,V.den M φ H w' v val
theorem Sr.mz {P:Program}{g:FuncId}{ds:List D}{v:V}(hr:v.refs=[])(h:dV P g (ds.map .d) (fun _=> .no) 0 (fun v' _ _=>v'=v) (fun _ _ _=>False)):Sr P g ds v:=by
 refine⟨h.1,fun M w vals hM hd=> ?_⟩
 let bV:Place:=fun _=> .nilFunc
 have vj:∀b, ¬cu bV (hp (fun _=> .no) 0) b:=by rintro b ⟨id,hl,_⟩;simp[hp,aa.live]at hl
 refine(h.2 M bV w vals (lB bV hM) ((V.bS _ _).2 (D.aI (w:=w) (w':=w) (B:=M) (fun b _ hB=>⟨rfl,fun h=>h.elim hB (vj b)⟩) _ _ hd))).mono ?_
 rintro e w' ⟨aA,o',nx',v',k1,k2,k3⟩
 refine⟨⟨k2.keep.os,k2.keep.tape,k2.keep.output,k2.keep.size,fun k hk _=>k2.keep.block k hk (vj k)⟩, ?_⟩
 cases e with
 |outgrown=>exact k3.elim
 |panicked ch=>obtain⟨_,_,_,h⟩:=k3;exact h.elim
 |returned val=>
  obtain⟨g1,rfl⟩:=k3
  exact⟨val,rfl,fun φ H=>V.kJ (B:=ai M aA (hp o' nx')) (φ:=aA) (H:=hp o' nx') (fun b hb hm=>hb (.inl hm)) v' val (fun id aq=>by rw[hr]at aq;cases aq) g1⟩
def tU(P:Program)(s:S)(fr:Nat)(op:Op)(v:V)(Δ:List (Nat×aa))(rd:List Nat):Prop:=
 ((∃uL,eK P s fr op=some (v,Δ,uL))/\rd=lQ s op)\/
 (∃c f g first cap,op= .call c/\c.callee= .value f/\s.ev f= .func (.func g) first cap/\
  ((∃ds rs,bD s.o (first++c.args.toList.map s.ev++cap)=some ds/\aY P g ds (.ret rs)/\v=gY rs/\rd=lQ s op/\
    (Δ=cq s.o (V.aV (first++c.args.toList.map s.ev++cap))\/D.gX rs=true/\Δ=[]))\/
   (∃rs,E5 P g (first++c.args.toList.map s.ev++cap) rd s.o (.ret rs) Δ/\v=gY rs/\∀id∈rd,id<s.nx)\/
   (∃ds,bD s.o (first++c.args.toList.map s.ev++cap)=some ds/\Sr P g ds v/\rd=lQ s op/\Δ=cq s.o (V.aV (first++c.args.toList.map s.ev++cap)))\/
   (zS P g (first++c.args.toList.map s.ev++cap) rd s.o fr v Δ/\∀id∈rd,id<s.nx)))
def xK(P:Program)(s:S)(op:Op)(v:V)(ws rd:List Nat):Prop:=
 ∃c f g first cap,op= .call c/\c.callee= .value f/\s.ev f= .func (.func g) first cap/\
  ((∃ds x,bD s.o (first++c.args.toList.map s.ev++cap)=some ds/\aY P g ds (.bf x)/\x.flat=true/\v= .d x/\rd=lQ s op/\ws=[])\/
   (∃x Δ,E5 P g (first++c.args.toList.map s.ev++cap) rd s.o (.bf x) Δ/\v= .d x/\ws=Δ.map (·.1)/\∀id∈rd,id<s.nx))
def c9(s:S)(gd:Option (Nat×Bool))(b:Bool):Prop:=
 match gd with
 |none=>b=true
 |some (d,want)=>match s.env d with
  | .d (.bool c)=>b=(c==want)
  | .bC []=>b=false
  |_=>False
def JY(P:Program)(s:S)(fr:Nat)(o:bw)(x:dQ):Prop:=
 match x with
 | .skip=>c9 s o.gd false
 | .val v Δ rd=>c9 s o.gd true/\tU P s fr o.op v Δ rd
 | .bf v ws rd=>c9 s o.gd true/\xK P s o.op v ws rd
 | .dK=>True
def dB(oc:Nat->bw)(ac:Nat->dQ)(E:Nat->Bool)(s:S):Nat->S
 |0=>s
 |k+1=>if E k then sJ (oc k).dst (ac k) (dB oc ac E s k)else dB oc ac E s k
structure Compat (oc:Nat->bw) (ac:Nat->dQ) (R:Nat->List Nat) (i j:Nat):Prop where
 di:∀d,(oc i).dst=some d->d∉dN (oc j)
 dj:∀d,(oc j).dst=some d->d∉dN (oc i)
 wi:∀id∈iU (ac i),id∉R j/\id∉iU (ac j)
 wj:∀id∈iU (ac j),id∉R i
section
variable {P:Program}{oc:Nat->bw}{ac:Nat->dQ}{s:S}{n:Nat}{E:Nat->Bool}{R:Nat->List Nat}{pr:Nat->Nat->Prop}
theorem zU{env:Nat->V}{dst:Option Tmp}{v:V}{t:Nat}(h:∀d,dst=some d->d≠t):aQ env dst v t=env t:=by
 cases dst with
 |none=>rfl
 |some d=>simp only[aQ,aC];rw[if_neg (fun e=>h d rfl e.symm)]
theorem eE{o:Nat->aa}:∀ {Δ:List (Nat×aa)} {id:Nat},id∉Δ.map (·.1)->put o Δ id=o id
 |[],_,_=>rfl
 |x::Δ,id,h=>by
  simp only[List.map_cons,List.mem_cons,not_or]at h
  have:=eE (o:=aM o x.1 x.2) (Δ:=Δ) h.2
  simp only[put,List.foldl_cons]at this|-
  rw[this];simp[h.1]
theorem vA{o o':Nat->aa}:∀ {Δ:List (Nat×aa)} {id:Nat},id∈Δ.map (·.1)\/o id=o' id->put o Δ id=put o' Δ id
 |[],_,h=>by rcases h with h|h;· simp at h
             ·exact h
 |x::Δ,id,h=>by
  simp only[put,List.foldl_cons]
  refine vA (Δ:=Δ) (o:=aM o x.1 x.2) (o':=aM o' x.1 x.2) ?_
  simp only[List.map_cons,List.mem_cons]at h
  simp only[aC]
  by_cases e:id=x.1
  ·right;simp[e]
  ·rcases h with(h|h)|h
   ·exact absurd h e
   ·exact .inl h
   ·right;simp[e,h]
theorem iV{dst:Option Tmp}{x:dQ}{t:Nat}(h:∀d,dst=some d->d≠t):(sJ dst x s).env t=s.env t:=by
 cases x<;>exact zU h
theorem kK{dst:Option Tmp}{x:dQ}{id:Nat}(h:id∉iU x):(sJ dst x s).o id=s.o id:=by
 cases x with
 |val v Δ rd=>exact eE h
 |_=>rfl
theorem vB{dst:Option Tmp}{x:dQ}{s':S}{t:Nat}(h:s.env t=s'.env t):(sJ dst x s).env t=(sJ dst x s').env t:=by
 cases x<;>cases dst<;>simp only[sJ,aQ,aC]<;>first|exact h|(split<;>first|rfl|exact h)
theorem zV{dst:Option Tmp}{x:dQ}{s':S}{id:Nat}(h:s.o id=s'.o id):(sJ dst x s).o id=(sJ dst x s').o id:=by
 cases x with
 |val v Δ rd=>exact vA (.inr h)
 |_=>exact h
theorem put_comm{o:Nat->aa}{Δ Bu:List (Nat×aa)}(h:∀id∈Δ.map (·.1),id∉Bu.map (·.1)):put (put o Δ) Bu=put (put o Bu) Δ:=by
 funext id
 by_cases h1:id∈Δ.map (·.1)
 ·rw[eE (h id h1)]
  exact vA (.inl h1)
 ·rw[eE (Δ:=Δ) h1]
  by_cases h2:id∈Bu.map (·.1)
  ·exact vA (.inl h2)
  ·rw[eE h2,eE h2,eE h1]
theorem tV{env:Nat->V}{d d':Option Tmp}{v v':V}(h:∀t,d=some t->d'≠some t):aQ (aQ env d v) d' v'=aQ (aQ env d' v') d v:=by
 cases d with
 |none=>rfl
 |some t=>
  cases d' with
  |none=>rfl
  |some t'=>
   have j7:t'≠t:=fun e=>h t rfl (by rw[e])
   funext i
   simp only[aQ,aC]
   by_cases e1:i=t<;>by_cases e2:i=t'
   ·exact absurd (e2.symm.trans e1) j7
   all_goals simp[e1,e2]
   ·intro e;exact absurd e.symm j7
   ·intro e;exact absurd e j7
theorem E6{d d':Option Tmp}{x x':dQ}(hd:∀t,d=some t->d'≠some t)(hw:∀id∈iU x,id∉iU x'):sJ d x (sJ d' x' s)=sJ d' x' (sJ d x s):=by
 cases x<;>cases x'<;>simp only[sJ]<;>first
  |rw[tV hd,put_comm hw]
  |rw[tV hd]
def vC(n:Nat)(pr:Nat->Nat->Prop)(E:Nat->Bool):Prop:=∀k,k<n->E k=true->∀j,pr k j->E j=true
theorem agree(_:∀k,k<n->∀j,pr k j->j<k)(hc:∀i j,i<j->j<n-> ¬pr j i->Compat oc ac R i j)(hE:vC n pr E){i:Nat}(hi:i<n)(j9:E i=false)(E7:∀j,pr i j->E j=true):
 (∀t∈dN (oc i),(dB oc ac E s n).env t=(dB oc ac (fun _=>true) s i).env t)/\(∀id∈R i,(dB oc ac E s n).o id=(dB oc ac (fun _=>true) s i).o id):=by
 have a:∀k,k<=i->(∀t∈dN (oc i),(dB oc ac E s k).env t=(dB oc ac (fun _=>true) s k).env t)/\(∀id∈R i,(dB oc ac E s k).o id=(dB oc ac (fun _=>true) s k).o id):=by
  intro k
  induction k with
  |zero=>intro _;exact⟨fun _ _=>rfl,fun _ _=>rfl⟩
  |succ k ih=>
   intro hk
   obtain⟨h1,h2⟩:=ih af
   simp only[dB,if_true]
   by_cases gr:E k=true
   ·simp only[gr,if_true]
    exact⟨fun t ht=>vB (h1 t ht),fun id aq=>zV (h2 id aq)⟩
   ·have JL: ¬pr i k:=fun hm=>gr (E7 k hm)
    have c:=hc k i af hi JL
    simp only[gr]
    refine⟨fun t ht=> ?_,fun id aq=> ?_⟩
    ·rw[iV fun d hd e=>c.di d hd (e ▸ ht)];exact h1 t ht
    ·rw[kK fun hm=>(c.wi id hm).1 aq];exact h2 id aq
 have b:∀k,i<=k->k<=n->(∀t∈dN (oc i),(dB oc ac E s k).env t=(dB oc ac (fun _=>true) s i).env t)/\(∀id∈R i,(dB oc ac E s k).o id=(dB oc ac (fun _=>true) s i).o id):=by
  intro k HH
  induction HH with
  |refl=>intro _;exact a i (Nat.le_refl _)
  | @step k HH ih=>
    intro hk
    have HH:i<=k:=HH
    obtain⟨h1,h2⟩:=ih af
    simp only[dB]
    by_cases gr:E k=true
    ·have j7:i≠k:=fun e=>by rw[e,gr]at j9;cases j9
     have JL: ¬pr k i:=fun hm=>by have:=hE k af gr i hm;rw[j9]at this;cases this
     have c:=hc i k af af JL
     simp only[gr,if_true]
     refine⟨fun t ht=> ?_,fun id aq=> ?_⟩
     ·rw[iV fun d hd e=>c.dj d hd (e ▸ ht)];exact h1 t ht
     ·rw[kK fun hm=>c.wj id hm aq];exact h2 id aq
    ·simp only[gr];exact⟨h1,h2⟩
 exact b n af (Nat.le_refl _)
theorem insert(hc:∀i j,i<j->j<n-> ¬pr j i->Compat oc ac R i j)(hE:vC n pr E){i:Nat}(hi:i<n)(j9:E i=false){E':Nat->Bool}(zW:∀k,E' k=(E k||k==i)):
 dB oc ac E' s n=sJ (oc i).dst (ac i) (dB oc ac E s n):=by
 have a:∀k,k<=i->dB oc ac E' s k=dB oc ac E s k:=by
  intro k
  induction k with
  |zero=>intro _;rfl
  |succ k ih=>
   intro hk
   have:E' k=E k:=by rw[zW k];have:(k==i)=false:=by simp;omega
                     simp[this]
   simp only[dB,this,ih (by omega)]
 have b:∀k,i+1<=k->k<=n->dB oc ac E' s k=sJ (oc i).dst (ac i) (dB oc ac E s k):=by
  intro k HH
  induction HH with
  |refl=>
   intro _
   have h1:E' i=true:=by rw[zW i];simp
   simp only[dB,h1,j9,if_true,a i (Nat.le_refl _)]
   rfl
  | @step k HH ih=>
    intro hk
    have HH:i+1<=k:=HH
    have h1:E' k=E k:=by rw[zW k];have:(k==i)=false:=by simp;omega
                         simp[this]
    simp only[dB,h1,ih (by omega)]
    by_cases gr:E k=true
    ·have JL: ¬pr k i:=fun hm=>by have:=hE k af gr i hm;rw[j9]at this;cases this
     have c:=hc i k af af JL
     simp only[gr,if_true]
     refine E6 (fun t ht he=> ?_) (fun id aq hm=>(c.wi id hm).2 aq)
     exact c.di t he (by simp[dN,ht])
    ·simp only[gr];rfl
 exact b n af (Nat.le_refl _)
end
end
section
structure qk (M:Nat->Prop) (bV:Place) (H0:Hp) (w0:World) (n:Nat) (cx:Cx) (φ:Place) (s:S) (us:Nat->Prop) (a:Act) (w:World):Prop where
 heap:ao M φ ⟨s.o,us⟩ w
 tr:Trans bV H0 w0 φ ⟨s.o,us⟩ w
 size:a.tmps.size=n
 defers:rb cx w0 φ ⟨s.o,us⟩ w a.defers
 env:∀i,V.den (ai M φ ⟨s.o,us⟩) φ ⟨s.o,us⟩ w (s.env i) (a.tmps.getD i undef)
section
variable {P:Program}{M:Nat->Prop}{φ bV:Place}{H0:Hp}{w w' w0:World}{n:Nat}{s:S}{us:Nat->Prop}{a:Act}{cx:Cx}{ro:Option Nat}{k:Nat}
variable {next:Act->World->Prop}{Q:Exit->Act->World->Prop}
theorem gO(hs:qk M bV H0 w0 n cx φ s us a w){aA:Place}{H':Hp}(hH:ao M aA H' w')(ht:Trans φ ⟨s.o,us⟩ w aA H' w'){v:V}{val:Value}(hd:V.den (ai M aA H') aA H' w' v val){dst:Option Tmp}(cf:eS n dst)
 {o':Nat->aa} {us':Nat->Prop} (ho:H'.o=o') (hu:∀id,H'.us id->us' id):qk M bV H0 w0 n cx aA ⟨aQ s.env dst v,o',s.nx⟩ us' (a.put dst val) w':=by
 obtain⟨k1,k2⟩:=iC hH hu
 subst ho
 refine⟨k1,hs.tr.trans (ht.trans k2), ?_, ?_,fun i=> ?_⟩
 ·cases dst<;>simp[Act.put,hs.size]
 ·have:=hs.defers.mono (ht.trans k2);cases dst<;>exact this
 ·cases dst with
  |none=>exact Ha
  |some d=>
   simp only[eS]at cf
   simp only[aQ,aC,Act.put]
   by_cases hi:i=d
   ·subst hi
    have h1:(a.tmps.setIfInBounds i val).getD i undef=val:=by simp[Array.getD,hs.size,cf]
    rw[if_pos rfl,h1]
    exact V.aG k2 _ _ hd
   ·have h1:(a.tmps.setIfInBounds d val).getD i undef=a.tmps.getD i undef:=by
     exact LU
    rw[if_neg hi,h1]
    exact Ha
theorem tW(hs:qk M bV H0 w0 n cx φ s us a w){o:Oper}{op:Op}(e8:o.op=op){c:Call}{f:Operand}{g:FuncId}{first cap:List V}(hc:op= .call c)(dL:c.callee= .value f)(sS:s.ev f= .func (.func g) first cap):
 ∃vals:Array Value,V.az (ai M φ ⟨s.o,us⟩) φ ⟨s.o,us⟩ w (first++c.args.toList.map s.ev++cap) vals.toList/\(Enters P g->(execOp a.eval o).run P w= .ok (.enter g vals) w):=by
 have hf:=ku (M:=M) (φ:=φ) (H:=⟨s.o,us⟩) (w:=w) s a hs.env f
 have cZ:=iE (M:=M) (φ:=φ) (H:=⟨s.o,us⟩) (w:=w) s a hs.env c.args.toList
 rw[sS]at hf
 obtain⟨fa,ca,Me,A7,V8⟩:=hf
 refine⟨fa++c.args.map a.eval++ca, ?_,fun he=> ?_⟩
 ·exact RJ
 ·have:=jm (w:=w) he (fa++c.args.map a.eval++ca)
  generalize qK:fa++c.args.map a.eval++ca=vals at this
  simp[execOp,e8,hc,resolve,dL,Me,Deferred.ofValue,invoke,this,qK]
theorem D7(hs:qk M bV H0 w0 n cx φ s us a w){fr:Nat}(cC: ¬us fr)(sI:∀id,id<s.nx->us id){o:Oper}{op:Op}(e8:o.op=op)(cf:eS n o.dst){v:V}{Δ:List (Nat×aa)}{rd:List Nat}(h:tU P s fr op v Δ rd)
 (hN:∀aA a' w',qk M bV H0 w0 n cx aA (sJ o.dst (.val v Δ rd) s) (fun id=>us id\/id=fr) a' w'->next a' w'):o.wpIn (cY ro) k P a w next Q:=by
 rcases h with⟨⟨uL,h⟩,_⟩|⟨c,f,g,first,cap,hc,dL,sS,h⟩
 ·have h1:=xG (K:=fun v' Bu _=>v'=v/\Bu=Δ) h ⟨rfl,rfl⟩
  obtain⟨nx,val,w',aA,v',Bu,uL,⟨rfl,rfl⟩,hr,XW,g1,g2,g3,g4⟩:=tM hs.heap (s:=s) rfl hs.env cC e8 h1
  have qe:=gO hs g1 g2 g3 cf (o':=put s.o Bu) (us':=fun id=>us id\/id=fr) rfl (fun id hu=>hu.elim .inl (g4 id))
  refine iI (fun c hc=>by rw[e8]at hc;subst hc;exact h1) ?_
  rw[hr]
  rcases XW with rfl|⟨rfl,rfl⟩
  ·exact hN _ _ _ qe
  ·exact hN _ _ _ qe
 ·refine iI (fun c' wE=>by rw[e8,hc]at wE;cases wE) ?_
  obtain⟨vals,aR,dP⟩:=tW (P:=P) hs e8 hc dL sS
  generalize first++c.args.toList.map s.ev++cap=all at h aR
  rcases h with⟨ds,rs,dM,hP,rfl,_,O8⟩|⟨rs,hH,rfl,me⟩|⟨ds,dM,hP,_,rfl⟩|⟨hH,me⟩
  ·obtain⟨f1,f2,f3,f4,f5⟩:=cI hs.heap (V.aV all) (cm all _ aR)
   have jC:(⟨s.o,us⟩:Hp).put (cq s.o (V.aV all))=⟨put s.o (cq s.o (V.aV all)),us⟩:=jl (H:=⟨s.o,us⟩) Ed
   have tC:=cK f1 all ds _ f3 dM (V.aI f2 _ _ aR)
   have dJ:=hP.2 _ w vals (fun b hb=>hb.elim (f1.wA b) fun hl=>(f1.ours b hl).2) tC
   rw[dP hP.1]
   refine⟨fun hd=>by simp[cY]at hd,cz (dJ.mono fun e w' ⟨hk,ho⟩=> ?_)⟩
   cases e with
   |panicked ch=>exact sP
   |outgrown=>exact sP
   |returned val=>
    rcases O8 with rfl|⟨mP,rfl⟩
    ·obtain⟨k1,k2⟩:=eB f1 hk
     refine hN _ _ _ (gO hs k1 (f2.trans k2) (kj ho) cf (by rw[jC]) fun id hu=> ?_)
     rw[jC]at hu;exact .inl hu
    ·obtain⟨k1,k2⟩:=eB hs.heap hk
     have ho:=R.vf (out:= .ret rs) (B':=ai M φ ⟨s.o,us⟩) mP ho
     exact Q8
  ·have dJ:=hH.2 s.o us M φ w vals (fun id aq=>⟨rfl,sI id (me id aq)⟩) hs.heap aR
   rw[dP hH.1]
   refine⟨fun hd=>by simp[cY]at hd,cz (dJ.mono fun e w' ⟨aA,k1,k2,ho⟩=> ?_)⟩
   cases e with
   |panicked ch=>exact sP
   |outgrown=>exact sP
   |returned val=>exact Q8
  ·obtain⟨f1,f2,f3,f4,f5⟩:=cI hs.heap (V.aV all) (cm all _ aR)
   have jC:(⟨s.o,us⟩:Hp).put (cq s.o (V.aV all))=⟨put s.o (cq s.o (V.aV all)),us⟩:=jl (H:=⟨s.o,us⟩) Ed
   have tC:=cK f1 all ds _ f3 dM (V.aI f2 _ _ aR)
   have dJ:=hP.2 _ w vals (fun b hb=>hb.elim (f1.wA b) fun hl=>(f1.ours b hl).2) tC
   rw[dP hP.1]
   refine⟨fun hd=>by simp[cY]at hd,cz (dJ.mono fun e w' ⟨hk,val,he,ho⟩=> ?_)⟩
   subst he
   obtain⟨k1,k2⟩:=eB f1 hk
   refine hN _ _ _ (gO hs k1 (f2.trans k2) (ho _ _) cf (by rw[jC]) fun id hu=> ?_)
   rw[jC]at hu;exact .inl hu
  ·have dJ:=hH.2 s.o us M φ w vals (fun id aq=>⟨rfl,sI id (me id aq)⟩) cC hs.heap aR
   rw[dP hH.1]
   refine⟨fun hd=>by simp[cY]at hd,cz (dJ.mono fun e w' ⟨aA,k1,k2,val,he,ho⟩=> ?_)⟩
   subst he
   exact hN _ _ _ (gO hs k1 k2 ho cf rfl fun id hu=>hu)
theorem CY{o o2:Nat->aa}{us us2:Nat->Prop}(hH:ao M φ ⟨o,us⟩ w)(ho:∀id,o2 id=o id\/o2 id= .no)(hu:∀id,us id->us2 id):ao M φ ⟨o2,us2⟩ w/\Trans φ ⟨o,us⟩ w φ ⟨o2,us2⟩ w:=by
 have hl:∀id,(o2 id).live=true->(o id).live=true:=fun id h=>by
  rcases ho id with e|e
  ·rw[<- e];exact h
  ·rw[e]at h;cases h
 have Pa:∀b,cu φ ⟨o2,us2⟩ b->cu φ ⟨o,us⟩ b:=fun b ⟨id,h1,h2⟩=>⟨id,hl id h1,h2⟩
 have ht:Trans φ ⟨o,us⟩ w φ ⟨o2,us2⟩ w:=by
  refine⟨dy.refl _ _,fun b hb=> .inl (Pa b hb),⟨hu,fun id _ hr=> ?_,fun id e' _ he=> ?_⟩⟩
  ·rcases ho id with e|e
   ·exact⟨by show(o id).bI=true;rw[<- e];exact hr,rfl⟩
   ·rw[show(⟨o2,us2⟩:Hp).o id= .no from e]at hr;cases hr
  ·rcases ho id with e|e
   ·exact⟨e',by show(o id).bL=some e';rw[<- e];exact he,Nat.le_refl _,fun _=>rfl⟩
   ·rw[show(⟨o2,us2⟩:Hp).o id= .no from e]at he;cases he
 refine⟨⟨fun id=> ?_,fun id hn=> ?_,fun i j b hi hj=>hH.apart i j b (hl i hi) (hl j hj),fun b hb=>hH.ours b (Pa b hb),hH.wA⟩,ht⟩
 ·rcases ho id with e|e
  ·exact(hH.ok id).mono ht e rfl fun _ _ _=>rfl
  ·unfold aF;rw[show(⟨o2,us2⟩:Hp).o id= .no from e];trivial
 ·rcases ho id with e|e
  ·exact e.trans (hH.fresh id fun h=>hn (hu id h))
  ·exact e
def rr(ds:List Nat)(wl:List Nat)(N:Nat)(s:S):S:=
 ⟨fun t=>if ds.contains t=true then .ab else s.env t,fun id=>if wl.contains id=true then .no else s.o id,s.nx+N⟩
theorem E8(hs:qk M bV H0 w0 n cx φ s us a w)(sI:∀id,id<s.nx->us id){N:Nat}(ed:∀id,us id->id<s.nx+N){o:Oper}{op:Op}(e8:o.op=op){v:V}{ws rd:List Nat}(h:xK P s op v ws rd)
 {s0:S} {ds wl:List Nat} (dM:∀t,ds.contains t=false->s.env t=s0.env t) (XX:∀id,wl.contains id=false->s.o id=s0.o id) (HI:∀id∈ws,wl.contains id=true) (my:s0.nx=s.nx)
 (hQ:∀aA w' val,bE M bV H0 w0 n cx aA (rr ds wl N s0) a w'->V.den (ai M aA (rr ds wl N s0).H) aA (rr ds wl N s0).H w' v val->Q (.panic [{v:=val,recovered:=false}]) a w'):o.wpIn (cY ro) k P a w next Q:=by
 obtain⟨c,f,g,first,cap,hc,dL,sS,h⟩:=h
 refine iI (fun c' wE=>by rw[e8,hc]at wE;cases wE) ?_
 obtain⟨vals,aR,dP⟩:=tW (P:=P) hs e8 hc dL sS
 generalize first++c.args.toList.map s.ev++cap=all at h aR
 have fin:∀ (aA:Place) (w':World) (o':Nat->aa) (val:Value),(∀id,wl.contains id=false->o' id=s.o id)->ao M aA ⟨o',us⟩ w'->Trans φ ⟨s.o,us⟩ w aA ⟨o',us⟩ w'->V.den (ai M aA ⟨o',us⟩) aA ⟨o',us⟩ w' v val->Q (.panic [{v:=val,recovered:=false}]) a w':=by
  intro aA w' o' val th k1 k2 k3
  obtain⟨m1,m2⟩:=CY (o2:=(rr ds wl N s0).o) (us2:=fun id=>id<s0.nx+N) k1 (fun id=>by
   show(if wl.contains id=true then aa.no else s0.o id)=o' id\/_
   by_cases hw:wl.contains id=true
   ·right;simp only[rr];rw[if_pos hw]
   ·left;rw[if_neg hw,th id (by simpa using hw),XX id (by simpa using hw)]) (fun id h=>by rw[my];exact ed id h)
  have ht:=hs.tr.trans (k2.trans m2)
  refine hQ aA w' val ⟨m1,ht,hs.size,hs.defers.mono (k2.trans m2),fun i=> ?_⟩ (V.aG m2 _ _ k3)
  show V.den _ _ _ _ (if ds.contains i=true then V.ab else s0.env i) _
  by_cases hd:ds.contains i=true
  ·rw[if_pos hd];trivial
  ·rw[if_neg hd, <- dM i (by simpa using hd)];exact V.aG (k2.trans m2) _ _ (hs.env i)
 rcases h with⟨dd,x,XY,hP,mP,rfl,_,rfl⟩|⟨x,Δ,hH,rfl,rfl,me⟩
 ·obtain⟨f1,f2,f3,f4,f5⟩:=cI hs.heap (V.aV all) (cm all _ aR)
  have tC:=cK f1 all dd _ f3 XY (V.aI f2 _ _ aR)
  have dJ:=hP.2 _ w vals (fun b hb=>hb.elim (f1.wA b) fun hl=>(f1.ours b hl).2) tC
  rw[dP hP.1]
  refine⟨fun hd=>by simp[cY]at hd,cz (dJ.mono fun e w' ⟨hk,ho⟩=> ?_)⟩
  cases e with
  |returned val=>exact ho.elim
  |outgrown=>exact ho.elim
  |panicked ch=>
   obtain⟨k1,k2⟩:=eB hs.heap hk
   have ho:=R.vf (out:= .bf x) (B':=ai M φ ⟨s.o,us⟩) mP ho
   obtain⟨val,rfl,hd⟩:=ho
   exact fin φ w' s.o val (fun _ _=>rfl) k1 k2 hd
 ·have dJ:=hH.2 s.o us M φ w vals (fun id aq=>⟨rfl,sI id (me id aq)⟩) hs.heap aR
  rw[dP hH.1]
  refine⟨fun hd=>by simp[cY]at hd,cz (dJ.mono fun e w' ⟨aA,k1,k2,ho⟩=> ?_)⟩
  cases e with
  |returned val=>exact ho.elim
  |outgrown=>exact ho.elim
  |panicked ch=>
   obtain⟨val,rfl,hd⟩:=ho
   exact fin aA w' _ val (fun id aq=>vy fun y hy e=>by
    have:=HI y.1 (List.mem_map_of_mem hy)
    rw[e,aq]at this;cases this) k1 k2 hd
theorem ee(dp:∀i,V.den (ai M φ ⟨s.o,us⟩) φ ⟨s.o,us⟩ w (s.env i) (a.tmps.getD i undef)){ops:Array Oper}{o:Oper}{gd:Option (Nat×Bool)}{b:Bool}
 (hg:match o.guard with|none=>gd=none|some (j,want)=>∃d,px ops j=some d/\gd=some (d,want)) (h:c9 s gd b):Region.wanted o (yielded ops a.tmps)=b:=by
 unfold Region.wanted
 split at hg
 ·rename_i hn;simp only[hn];subst hg;exact h.symm
 ·rename_i j want hn
  simp only[hn]
  obtain⟨d,hd,rfl⟩:=hg
  unfold px at hd
  unfold yielded
  simp only[hd,Option.bind_some]
  simp only[c9]at h
  have he:=dp d
  split at h
  ·rename_i c hv
   rw[hv]at he
   simp only[V.den,D.den]at he
   have:a.tmps[d]? =some (.bool c):=by
    rw[Array.getD_eq_getD_getElem?]at he
    cases hx:a.tmps[d]? with
    |none=>rw[hx]at he;simp[undef]at he
    |some x=>rw[hx]at he;simp at he;rw[he]
   simp only[this,h]
   cases c<;>cases want<;>rfl
  ·rename_i hv
   rw[hv]at he
   obtain⟨arr,cE,hn⟩:=he
   have:∀c,a.tmps[d]? ≠some (.bool c):=by
    exact Jt
   subst h
   cases hx:a.tmps[d]? with
   |none=>rfl
   |some x=>cases x<;>first|(exact absurd hx (this _))|rfl
  ·exact h.elim
theorem ef{s s':S}{gd:Option (Nat×Bool)}{b:Bool}(h:∀d want,gd=some (d,want)->s'.env d=s.env d)(hg:c9 s gd b):c9 s' gd b:=by
 unfold c9 at*
 cases gd with
 |none=>exact hg
 |some p=>obtain⟨d,want⟩:=p;simp only at hg|-;rw[h d want rfl];exact hg
theorem xL{s s':S}{x:Operand}(h:∀t,x= .tmp t->s'.env t=s.env t):s'.ev x=s.ev x:=by
 cases x<;>simp only[S.ev]
 exact h _ rfl
theorem ru{s s':S}{op:Op}{c:Call}{f:Operand}{g:FuncId}{first cap:List V}(hv:∀x∈op.operands,s'.ev x=s.ev x)(hc:op= .call c)(dL:c.callee= .value f)(sS:s.ev f= .func (.func g) first cap):
 s'.ev f= .func (.func g) first cap/\c.args.toList.map s'.ev=c.args.toList.map s.ev:=by
 subst hc
 exact⟨(hv f (by simp only[Op.operands,Call.operands,dL];exact Array.mem_append.2 (.inl aK))).trans sS,
  List.map_congr_left fun x hx=>hv x QQ⟩
theorem E5.frame {g:FuncId}{args:List V}{rd:List Nat}{o o':Nat->aa}{out:R}{Δ:List (Nat×aa)}(ho:∀id∈rd,o' id=o id)(h:E5 P g args rd o out Δ):E5 P g args rd o' out Δ:=
 ⟨h.1,fun o2 us M φ w vals h1 h2 h3=>h.2 o2 us M φ w vals (fun id aq=>⟨(h1 id aq).1.trans (ho id aq),(h1 id aq).2⟩) h2 h3⟩
theorem zS.frame {g:FuncId}{args:List V}{rd:List Nat}{o o':Nat->aa}{fr:Nat}{v:V}{Δ:List (Nat×aa)}(ho:∀id∈rd,o' id=o id)(h:zS P g args rd o fr v Δ):zS P g args rd o' fr v Δ:=
 ⟨h.1,fun o2 us M φ w vals h1 h2 h3=>h.2 o2 us M φ w vals (fun id aq=>⟨(h1 id aq).1.trans (ho id aq),(h1 id aq).2⟩) h2 h3⟩
theorem wP{s s':S}{fr:Nat}{op:Op}{v:V}{Δ:List (Nat×aa)}{rd:List Nat}(hv:∀x∈op.operands,s'.ev x=s.ev x)(ho:∀id∈rd,s'.o id=s.o id)(sI:s'.nx=s.nx)(h:tU P s fr op v Δ rd):∃uL,tU P s' fr op v Δ uL:=by
 rcases h with⟨⟨uL,h⟩,me⟩|⟨c,f,g,first,cap,rfl,dL,sS,h⟩
 ·exact⟨_, .inl ⟨⟨uL,by rw[zR op hv (by rw[<- me];exact ho)];exact h⟩,rfl⟩⟩
 ·obtain⟨hf,hm⟩:=ru hv rfl dL sS
  rcases h with⟨ds,rs,dM,hP,mQ,me,O8⟩|⟨rs,hH,mQ,me⟩|⟨ds,dM,hP,me,O8⟩|⟨hH,me⟩
  ·have hr:∀id∈V.aO (first++c.args.toList.map s.ev++cap),s'.o id=s.o id:=fun id aq=>ho id LJ
   refine⟨_, .inr ⟨c,f,g,first,cap,rfl,dL,hf, .inl ⟨ds,rs,by rw[hm,fm _ hr];exact dM,hP,mQ,rfl, ?_⟩⟩⟩
   exact RV
  ·exact⟨rd, .inr ⟨c,f,g,first,cap,rfl,dL,hf, .inr (.inl ⟨rs,by rw[hm];exact hH.frame ho,mQ,by rw[sI];exact me⟩)⟩⟩
  ·have hr:∀id∈V.aO (first++c.args.toList.map s.ev++cap),s'.o id=s.o id:=fun id aq=>ho id LJ
   refine⟨_, .inr ⟨c,f,g,first,cap,rfl,dL,hf, .inr (.inr (.inl ⟨ds,by rw[hm,fm _ hr];exact dM,hP,rfl, ?_⟩))⟩⟩
   exact RV
  ·exact⟨rd, .inr ⟨c,f,g,first,cap,rfl,dL,hf, .inr (.inr (.inr ⟨by rw[hm];exact hH.frame ho,by rw[sI];exact me⟩))⟩⟩
theorem xM{s s':S}{op:Op}{v:V}{ws rd:List Nat}(hv:∀x∈op.operands,s'.ev x=s.ev x)(ho:∀id∈rd,s'.o id=s.o id)(sI:s'.nx=s.nx)(h:xK P s op v ws rd):xK P s' op v ws rd:=by
 obtain⟨c,f,g,first,cap,rfl,dL,sS,h⟩:=h
 obtain⟨hf,hm⟩:=ru hv rfl dL sS
 refine⟨c,f,g,first,cap,rfl,dL,hf, ?_⟩
 rw[hm]
 rcases h with⟨ds,x,dM,hP,mP,mQ,me,HI⟩|⟨x,Δ,hH,mQ,HI,me⟩
 ·have hr:∀id∈V.aO (first++c.args.toList.map s.ev++cap),s'.o id=s.o id:=fun id aq=>ho id LJ
  exact .inl ⟨ds,x,by rw[fm _ hr];exact dM,hP,mP,mQ,by rw[me];simp only[lQ,dL,sS,hf,hm],HI⟩
 ·exact .inr ⟨x,Δ,hH.frame ho,mQ,HI,by rw[sI];exact me⟩
theorem rv{ops:Array Oper}:∀ (l:List Oper) (l':List bw) (i:Nat) (o:Oper),je n ops l=some l'->l[i]? =some o->Er n ops o=some (bz l' i)
 |[],_,_,_,_,h=>by simp at h
 |x::l,l',i,o,h,hi=>by
  simp only[je]at h
  split at h
  ·rename_i y ys hy hys
   injection h with h;subst h
   cases i with
   |zero=>simp at hi;subst hi;exact hy
   |succ i=>exact rv l ys i o hys (by simpa using hi)
  ·cases h
theorem tX{ops:Array Oper}{o:Oper}{x:bw}(h:Er n ops o=some x):x.op=o.op/\x.dst=o.dst/\eS n o.dst/\
 (match o.guard with|none=>x.gd=none|some (j,want)=>∃d,px ops j=some d/\x.gd=some (d,want)):=by
 unfold Er at h
 split at h
 ·rename_i hd
  have cf:eS n o.dst:=by
   unfold zh at hd;unfold eS
   split at hd<;>simp_all
  cases hg:o.guard with
  |none=>simp only[hg]at h;injection h with h;subst h;exact⟨rfl,rfl,cf,rfl⟩
  |some p=>
   obtain⟨j,want⟩:=p
   simp only[hg]at h
   cases JW:px ops j with
   |none=>simp[JW]at h
   |some d=>simp only[JW]at h;injection h with h;subst h;exact⟨rfl,rfl,cf,d,JW,rfl⟩
 ·cases h
theorem mC{ops:Array Oper}{aj:Array Bool}(pD:∀k,k<ops.size->∀j∈aZ ops k,j<k)(hs:aj.size=ops.size)(hr:Region.ready .any ops aj=[]):∀k,k<ops.size->aj.getD k false=true:=by
 intro k
 induction k using Nat.strongRecOn with
 |_ k ih=>
  intro hk
  cases hl:aj.getD k false with
  |true=>rfl
  |false=>
   have:k∈Region.ready .any ops aj:=by
    refine mem_ready.2 ⟨?_,ops[k],by simp[hk],fun e he hb=> ?_⟩
    ·simp only[Array.getD_eq_getD_getElem?]at hl|-
     rw[Array.getElem?_eq_getElem (by omega)]at hl|-
     simpa using hl
    ·have hm:e.on∈aZ ops k:=by
      simp only[aZ,Array.getElem?_eq_getElem hk,List.mem_map,List.mem_filter]
      exact⟨e,⟨Array.mem_toList_iff.2 he,hb⟩,rfl⟩
     exact ih _ (pD k hk _ hm) (by have:=pD k hk _ hm;omega)
   rw[hr]at this;cases this
theorem xN(hs:bE M bV H0 w0 n cx φ s a w):bE M bV H0 w0 n cx φ s a {w with drawn:=w.drawn+1}:=by
 obtain⟨k1,k2⟩:=eB (w':={w with drawn:=w.drawn+1}) hs.heap ⟨rfl,rfl,rfl,Nat.le_refl _,fun _ _ _=>rfl⟩
 exact⟨k1,hs.tr.trans k2,hs.size,hs.defers.mono k2,fun i=>V.aG k2 _ _ (hs.env i)⟩
theorem iP{oc:Nat->bw}{ac:Nat->dQ}{E:Nat->Bool}:∀k,(dB oc ac E s k).nx=s.nx
 |0=>rfl
 |k+1=>by
  simp only[dB]
  split
  ·cases ac k<;>exact iP k
  ·exact iP k
theorem Bv{oc:Nat->bw}{ac:Nat->dQ}{E:Nat->Bool}{t:Nat}:∀k,(∀j,j<k->(oc j).dst≠some t)->(dB oc ac E s k).env t=s.env t
 |0,_=>rfl
 |k+1,h=>by
  have ih:=Bv (oc:=oc) (ac:=ac) (E:=E) (t:=t) k fun j hj=>h j af
  simp only[dB]
  split
  ·rw[iV fun d hd e=>h k (by omega) (by rw[hd,e])];exact ih
  ·exact ih
theorem JZ{oc:Nat->bw}{ac:Nat->dQ}{E:Nat->Bool}{id:Nat}:∀k,(∀j,j<k->id∉iU (ac j))->(dB oc ac E s k).o id=s.o id
 |0,_=>rfl
 |k+1,h=>by
  have ih:=JZ (oc:=oc) (ac:=ac) (E:=E) (id:=id) k fun j hj=>h j af
  simp only[dB]
  split
  ·rw[kK (h k (by omega))];exact ih
  ·exact ih
theorem xO(aU:P.follows .mixedOrders=true){ops:Array Oper}{l:List bw}{id:Nat}(oS:je n ops ops.toList=some l)(pD:∀k,k<ops.size->∀j∈aZ ops k,j<k){ac:Nat->dQ}{dl wl:List Nat}
 (hs:bE M bV H0 w0 n cx φ s a w) (Mj:∀i,i<ops.size->JY P (dB (bz l) ac (fun _=>true) s i) (s.nx+i) (bz l i) (ac i))
 (Mk:∀i,i<ops.size->ac i= .dK->∃j∈aZ ops i,(ac j).ok=false)
 {po:Nat->Nat->Prop} (Bw:∀E:Nat->Bool,(∀k,k<ops.size->E k=true->∀j∈aZ ops k,E j=true)->∀k,k<ops.size->(∀j∈aZ ops k,E j=true)->∀j,po k j->E j=true) (xP:∀k,k<ops.size->∀j,po k j->j<k)
 (hc:∀i j,i<j->j<ops.size-> ¬po j i->Compat (bz l) ac (fun i=>s7 (ac i)) i j)
 (Xl:∀i,i<ops.size->∀t,(bz l i).dst=some t->dl.contains t=true) (XX:∀i,i<ops.size->∀id∈iU (ac i),wl.contains id=true)
 (HI:∀i v ws rd,i<ops.size->ac i= .bf v ws rd->∀id∈ws,wl.contains id=true)
 (hQ:(∀i,i<ops.size->(ac i).ok=true)->∀φ a w,bE M bV H0 w0 n cx φ ⟨(dB (bz l) ac (fun _=>true) s ops.size).env,(dB (bz l) ac (fun _=>true) s ops.size).o,s.nx+ops.size⟩ a w->Q .normal a w)
 (hX:∀i v ws rd,i<ops.size->ac i= .bf v ws rd->∀φ a w val,bE M bV H0 w0 n cx φ (rr dl wl ops.size s) a w->V.den (ai M φ (rr dl wl ops.size s).H) φ (rr dl wl ops.size s).H w v val->Q (.panic [{v:=val,recovered:=false}]) a w):
 (Code.region id ops true).wpIn (cY ro) k P Q a w:=by
 refine wpIn_region_any aU ?_
 have hs:=xN hs
 generalize ({w with drawn:=w.drawn+1}:World)=w at hs
 let N:=ops.size
 let Ef (aj:Array Bool) (k:Nat):Bool:=aj.getD k false
 let A6 (aj:Array Bool) (j:Nat):Prop:=j<s.nx\/∃k,k<N/\Ef aj k=true/\j=s.nx+k
 have key:∀ (fuel:Nat) (aj:Array Bool) (φ:Place) (a:Act) (w:World),aj.size=N->aj.count true+fuel=N->(∀k,k<N->Ef aj k=true->∀j∈aZ ops k,Ef aj j=true)->(∀k,k<N->Ef aj k=true->(ac k).ok=true)->
  qk M bV H0 w0 n cx φ (dB (bz l) ac (Ef aj) s N) (A6 aj) a w->wpAnyIn (cY ro) k P .any ops Q fuel aj a w:=by
  have fin:∀ (aj:Array Bool) (φ:Place) (a:Act) (w:World),(∀k,k<N->Ef aj k=true)->(∀k,k<N->Ef aj k=true->(ac k).ok=true)->qk M bV H0 w0 n cx φ (dB (bz l) ac (Ef aj) s N) (A6 aj) a w->Q .normal a w:=by
   intro aj φ a w aR zX hu
   have e:∀k,k<=N->dB (bz l) ac (Ef aj) s k=dB (bz l) ac (fun _=>true) s k:=by
    intro k
    induction k with
    |zero=>intro _;rfl
    |succ k ih=>intro hk;simp only[dB,aR k (by omega),ih (by omega)]
   rw[e N (Nat.le_refl _)]at hu
   obtain⟨k1,k2⟩:=iC (us':=fun id=>id<s.nx+N) hu.heap (fun id h=>by
    show id<s.nx+N
    rcases h with h|⟨k,hk,_,rfl⟩<;>omega)
   exact hQ (fun i hi=>zX i hi (aR i hi)) φ a w ⟨k1,hu.tr.trans k2,hu.size,hu.defers.mono k2,fun i=>V.aG k2 _ _ (hu.env i)⟩
  intro fuel
  induction fuel with
  |zero=>
   intro aj φ a w dn CZ qd zX hu
   have aR:∀k,k<N->Ef aj k=true:=by
    intro k hk
    have h1:aj.count true=aj.size:=af
    rw[Array.count_eq_size]at h1
    have:=h1 aj[k] (Array.getElem_mem af)
    simp only[Ef,Array.getD_eq_getD_getElem?]
    rw[Array.getElem?_eq_getElem (by omega)]
    simpa using this.symm
   refine⟨?_,fin aj φ a w aR zX hu⟩
   rw[List.eq_nil_iff_forall_not_mem]
   intro k hk
   obtain⟨h1,o,h2,_⟩:=mem_ready.1 hk
   have hkN:k<N:=(Array.getElem?_eq_some_iff.1 h2).1
   have:=aR k hkN
   simp only[Ef,Array.getD_eq_getD_getElem?]at this h1
   rw[Array.getElem?_eq_getElem (by omega)]at this h1
   simp only[Option.getD_some]at this h1
   rw[this]at h1;cases h1
  |succ fuel ih=>
   intro aj φ a w dn CZ qd zX hu
   refine⟨fun hr=>fin aj φ a w (mC pD dn hr) zX hu,fun i hi=> ?_⟩
   obtain⟨h1,o,h2,h3⟩:=mem_ready.1 hi
   have ql:i<N:=(Array.getElem?_eq_some_iff.1 h2).1
   have j9:Ef aj i=false:=by
    simp only[Ef,Array.getD_eq_getD_getElem?]at h1|-
    rw[Array.getElem?_eq_getElem (by omega)]at h1|-
    simpa using h1
   have E7:∀j∈aZ ops i,Ef aj j=true:=by
    exact LP
   have E9:vC N po (Ef aj):=fun k hk gr=>Bw _ qd k hk (qd k hk gr)
   obtain⟨Ss,Xe⟩:=agree (s:=s) xP hc E9 ql j9 (Bw _ qd i ql E7)
   obtain⟨g1,g2,g3,g4⟩:=tX (rv _ _ i o oS tl)
   have cC: ¬A6 aj (s.nx+i):=by
    rintro(h|⟨k,_,hk,he⟩)
    ·omega
    ·have:k=i:=af
     subst this;rw[j9]at hk;cases hk
   have zW:∀k,Ef (aj.setIfInBounds i true) k=(Ef aj k||k==i):=by
    intro k
    simp only[Ef,Array.getD_eq_getD_getElem?]
    by_cases e:k=i
    ·subst e;simp[dn,ql]
    ·rw[Array.getElem?_setIfInBounds_ne (Ne.symm e)]
     have:(k==i)=false:=by simpa using e
     simp[this]
   have Ml:=insert (s:=s) hc E9 ql j9 zW
   have Mm:∀k,k<N->Ef (aj.setIfInBounds i true) k=true->∀j∈aZ ops k,Ef (aj.setIfInBounds i true) j=true:=by
    intro k hk gr j hj
    rw[zW]at gr|-
    by_cases e:k=i
    ·subst e;simp[E7 j hj]
    ·have:(k==i)=false:=by simpa using e
     rw[this,Bool.or_false]at gr
     simp[qd k hk gr j hj]
   have Fa:(aj.setIfInBounds i true).count true+fuel=N:=by
    have bQ:i<aj.size:=af
    have e1:aj.setIfInBounds i true=aj.set i true bQ:=by simp[Array.setIfInBounds,bQ]
    have e2:aj[i]=false:=by
     have:=j9
     simp only[Ef,Array.getD_eq_getD_getElem?]at this
     rw[Array.getElem?_eq_getElem bQ]at this
     simpa using this
    rw[e1,Array.count_set bQ,e2]
    simp
    omega
   have gk:(ac i).ok=true->∀aA a' w',qk M bV H0 w0 n cx aA (sJ o.dst (ac i) (dB (bz l) ac (Ef aj) s N)) (fun id=>A6 aj id\/id=s.nx+i) a' w'->wpAnyIn (cY ro) k P .any ops Q fuel (aj.setIfInBounds i true) a' w':=by
    intro Su aA a' w' wK
    refine ih _ aA a' w' (by simp[dn]) Fa Mm (fun k hk gr=> ?_) ?_
    ·rw[zW]at gr
     by_cases e:k=i
     ·subst e;exact Su
     ·have:(k==i)=false:=by simpa using e
      rw[this,Bool.or_false]at gr
      exact zX k hk gr
    rw[Ml,g2]
    obtain⟨k1,k2⟩:=iC (us':=A6 (aj.setIfInBounds i true)) wK.heap (fun id h=>by
     rcases h with(h|⟨k,hk,gr,rfl⟩)|rfl
     ·exact .inl h
     ·exact .inr ⟨k,hk,by rw[zW,gr];rfl,rfl⟩
     ·exact .inr ⟨i,ql,by rw[zW];simp,rfl⟩)
    exact QT
   have C0:∀d want,(bz l i).gd=some (d,want)->(dB (bz l) ac (Ef aj) s N).env d=(dB (bz l) ac (fun _=>true) s i).env d:=fun d want hd=>Ss d (by simp[dN,tmpsOf,hd])
   have aP:=Mj i ql
   have Ep:∀x∈(bz l i).op.operands,(dB (bz l) ac (Ef aj) s N).ev x=(dB (bz l) ac (fun _=>true) s i).ev x:=fun x hx=>xL fun t ht=>Ss t (by
    subst ht
    simp only[dN,tmpsOf,List.mem_append,List.mem_filterMap]
    exact .inl (.inl ⟨.tmp t,Array.mem_toList_iff.2 hx,rfl⟩))
   have L0:(dB (bz l) ac (Ef aj) s N).nx=(dB (bz l) ac (fun _=>true) s i).nx:=(iP N).trans (iP i).symm
   unfold wpOpIn
   simp only[h2]
   cases sH:ac i with
   |skip=>
    rw[sH]at aP gk
    have hw:=ee hu.env g4 (ef C0 aP)
    simp only[hw,Bool.false_eq_true,if_false]
    refine⟨fun _ _=>trivial,gk rfl φ _ w ?_⟩
    have:=gO (v:= .bC []) (val:=undef) hu hu.heap (Trans.refl _ _ _) ⟨#[],rfl,rfl⟩ (dst:=o.dst) g3 rfl (us':=fun id=>A6 aj id\/id=s.nx+i) (fun id h=> .inl h)
    exact this
   |val v Δ rd=>
    rw[sH]at aP gk
    have hw:=ee hu.env g4 (ef C0 aP.1)
    exact Rv
   |bf v ws rd=>
    rw[sH]at aP
    have hw:=ee hu.env g4 (ef C0 aP.1)
    simp only[hw,if_true]
    have j5:=xM Ep (fun id aq=>Xe id (by rw[sH];exact aq)) L0 aP.2
    refine E8 (s0:=s) (ds:=dl) (wl:=wl) (N:=N) hu (fun id h=> .inl (by rw[iP]at h;exact h)) (fun id h=> ?_) g1.symm j5 (fun t ht=> ?_) (fun id aq=> ?_) (HI i v ws rd ql sH) (iP N).symm (fun aA w' val h1 h2=>hX i v ws rd ql sH aA a w' val h1 h2)
    ·rw[iP]
     rcases h with h|⟨k,hk,_,rfl⟩<;>omega
    ·refine Bv N fun j hj e=> ?_
     have:=Xl j hj t e
     rw[ht]at this;cases this
    ·refine JZ N fun j hj hm=> ?_
     have:=XX j hj id hm
     rw[aq]at this;cases this
   |dK=>
    exfalso
    obtain⟨j,hj,Mn⟩:=Mk i ql sH
    have:=zX j (Nat.lt_trans (pD i ql j hj) ql) (E7 j hj)
    rw[Mn]at this;cases this
 refine key ops.size _ φ a w (by simp[N]) (by simp[N,Array.count_replicate]) (fun k hk gr=> ?_) (fun k hk gr=> ?_) ?_
 ·exact V6
 ·exact V6
 ·have e:∀k,dB (bz l) ac (Ef (Array.replicate ops.size false)) s k=s:=by
   intro k
   induction k with
   |zero=>rfl
   |succ k ih=>
    have:Ef (Array.replicate ops.size false) k=false:=by
     exact RT
    simp only[dB,this,ih]
    rfl
  exact RA
end
end
section
section
variable {P:Program}{M:Nat->Prop}{φ bV:Place}{H0:Hp}{w w' w0:World}{n:Nat}{s:S}{us:Nat->Prop}{a:Act}{cx:Cx}{ro:Option Nat}{k:Nat}
variable {Q:Exit->Act->World->Prop}
theorem C1{ops:Array Oper}{po:Nat->Nat->Prop}{m:Nat}{X:V->S->Prop}{K:S->Prop}
 (pD:∀k,k<ops.size->∀j∈aZ ops k,j<k)
 (Bw:∀E:Nat->Bool,(∀k,k<ops.size->E k=true->∀j∈aZ ops k,E j=true)->∀k,k<ops.size->(∀j∈aZ ops k,E j=true)->∀j,po k j->E j=true)
 (Bx:∀k,m<=k->k<ops.size->∀j,j<k->po k j)
 (hK:∀s φ a w,K s->bE M bV H0 w0 n cx φ s a w->Q .normal a w)
 (hX:∀v s' aA a' w' val,X v s'->bE M bV H0 w0 n cx aA s' a' w'->V.den (ai M aA s'.H) aA s'.H w' v val->Q (.panic [{v:=val,recovered:=false}]) a' w'):
 ∀ (d t:Nat) (s:S) (φ:Place) (aj:Array Bool) (a:Act) (w:World),t+d=ops.size->aj.size=ops.size->(∀k,k<ops.size->aj.getD k false=decide (k<t))->m<=t->
   bE M bV H0 w0 n cx φ s a w->vc P n ops X K (ops.toList.drop t) s->wpAnyIn (cY ro) k P .any ops Q d aj a w:=by
 intro d
 induction d with
 |zero=>
  intro t s φ aj a w ht dn hl DT hs h
  have e:t=ops.size:=af
  subst e
  refine⟨?_, ?_⟩
  ·rw[List.eq_nil_iff_forall_not_mem]
   intro j hj
   obtain⟨h1,o,h2,_⟩:=mem_ready.1 hj
   have Z7:j<ops.size:=(Array.getElem?_eq_some_iff.1 h2).1
   have:=hl j Z7
   simp only[Array.getD_eq_getD_getElem?]at this h1
   rw[Array.getElem?_eq_getElem (by omega)]at this h1
   simp only[Option.getD_some]at this h1
   rw[h1]at this
   simp[Z7]at this
  ·rw[List.drop_eq_nil_of_le (by simp)]at h
   exact hK s φ a w h hs
 |succ d ih=>
  intro t s φ aj a w ht dn hl DT hs h
  have XZ:t<ops.size:=af
  refine⟨fun hr=> ?_,fun i hi=> ?_⟩
  ·have:=mC pD dn hr t XZ
   rw[hl t XZ]at this
   simp at this
  ·obtain⟨h1,o,h2,h3⟩:=mem_ready.1 hi
   have ql:i<ops.size:=(Array.getElem?_eq_some_iff.1 h2).1
   have j9:aj.getD i false=false:=by
    simp only[Array.getD_eq_getD_getElem?]at h1|-
    rw[Array.getElem?_eq_getElem (by omega)]at h1|-
    simpa using h1
   have hit:t<=i:=by
    have:=hl i ql
    rw[j9]at this
    have:=of_decide_eq_false this.symm
    omega
   have E7:∀j∈aZ ops i,aj.getD j false=true:=by
    exact LP
   have qd:∀k,k<ops.size->aj.getD k false=true->∀j∈aZ ops k,aj.getD j false=true:=by
    intro k hk gr j hj
    have Jx:=pD k hk j hj
    rw[hl k hk]at gr
    rw[hl j (by omega)]
    have:=of_decide_eq_true gr
    exact decide_eq_true af
   have Xz:i=t:=by
    rcases Nat.eq_or_lt_of_le hit with e|e
    ·exact e.symm
    ·have:=Bw (fun k=>aj.getD k false) qd i ql E7 t (Bx i af ql t e)
     rw[hl t XZ]at this
     simp at this
   subst Xz
   have xQ:ops.toList.drop i=o::ops.toList.drop (i+1):=by
    have Mc:i<ops.toList.length:=by simpa using ql
    rw[List.drop_eq_getElem_cons Mc]
    have:ops.toList[i]=o:=by
     have:=(Array.getElem?_eq_some_iff.1 h2).2
     simpa using this
    rw[this]
   rw[xQ]at h
   obtain⟨g1,g2⟩:=nv hs h
   have EO:∀k,k<ops.size->(aj.setIfInBounds i true).getD k false=decide (k<i+1):=by
    intro k hk
    simp only[Array.getD_eq_getD_getElem?]
    by_cases e:k=i
    ·subst e;simp[dn,ql]
    ·rw[Array.getElem?_setIfInBounds_ne (Ne.symm e)]
     have:=hl k hk
     simp only[Array.getD_eq_getD_getElem?]at this
     rw[this]
     exact decide_eq_decide.2 af
   have gk:∀s' aA a' w',vc P n ops X K (ops.toList.drop (i+1)) s'->bE M bV H0 w0 n cx aA s' a' w'->wpAnyIn (cY ro) k P .any ops Q d (aj.setIfInBounds i true) a' w':=
    fun s' aA a' w' hk iw=>ih (i+1) s' aA _ a' w' af (by simp[dn]) EO af iw hk
   unfold wpOpIn
   simp only[h2]
   split
   ·rename_i hw
    exact tO hs (g1 hw) (fun s' aA a' w' hk iw=>gk s' aA a' w' hk iw) (fun v s' aA w' val hx iw hd=>hX v s' aA a w' val hx iw hd)
   ·rename_i hw
    obtain⟨cf,h3⟩:=g2 (by simpa using hw)
    exact⟨fun _ _=>trivial,gk _ _ _ _ h3 (xy hs cf)⟩
theorem zY(aU:P.follows .mixedOrders=true){ops:Array Oper}{l:List bw}{id:Nat}(oS:je n ops ops.toList=some l)(pD:∀k,k<ops.size->∀j∈aZ ops k,j<k){ac:Nat->dQ}{m:Nat}(hm:m<=ops.size){X:V->S->Prop}{K:S->Prop}
 (hs:bE M bV H0 w0 n cx φ s a w) (Mj:∀i,i<m->JY P (dB (bz l) ac (fun _=>true) s i) (s.nx+i) (bz l i) (ac i))
 (Sv:∀i,i<m->(ac i).ok=true)
 {po:Nat->Nat->Prop} (Bw:∀E:Nat->Bool,(∀k,k<ops.size->E k=true->∀j∈aZ ops k,E j=true)->∀k,k<ops.size->(∀j∈aZ ops k,E j=true)->∀j,po k j->E j=true) (xP:∀k,k<ops.size->∀j,po k j->j<k)
 (hc:∀i j,i<j->j<m-> ¬po j i->Compat (bz l) ac (fun i=>s7 (ac i)) i j)
 (Bx:∀k,m<=k->k<ops.size->∀j,j<k->po k j)
 (dx:vc P n ops X K (ops.toList.drop m) ⟨(dB (bz l) ac (fun _=>true) s m).env,(dB (bz l) ac (fun _=>true) s m).o,s.nx+m⟩)
 (hK:∀s φ a w,K s->bE M bV H0 w0 n cx φ s a w->Q .normal a w)
 (hX:∀v s' aA a' w' val,X v s'->bE M bV H0 w0 n cx aA s' a' w'->V.den (ai M aA s'.H) aA s'.H w' v val->Q (.panic [{v:=val,recovered:=false}]) a' w'):
 (Code.region id ops true).wpIn (cY ro) k P Q a w:=by
 refine wpIn_region_any aU ?_
 have hs:=xN hs
 generalize ({w with drawn:=w.drawn+1}:World)=w at hs
 let N:=m
 let Ef (aj:Array Bool) (k:Nat):Bool:=aj.getD k false
 let A6 (aj:Array Bool) (j:Nat):Prop:=j<s.nx\/∃k,k<N/\Ef aj k=true/\j=s.nx+k
 have key:∀ (fuel:Nat) (aj:Array Bool) (φ:Place) (a:Act) (w:World),aj.size=ops.size->aj.count true+fuel=ops.size->(∀k,k<ops.size->Ef aj k=true->∀j∈aZ ops k,Ef aj j=true)->(∀k,k<ops.size->Ef aj k=true->k<m)->
  qk M bV H0 w0 n cx φ (dB (bz l) ac (Ef aj) s N) (A6 aj) a w->wpAnyIn (cY ro) k P .any ops Q fuel aj a w:=by
  have fin:∀ (fuel:Nat) (aj:Array Bool) (φ:Place) (a:Act) (w:World),aj.size=ops.size->aj.count true+fuel=ops.size->(∀k,k<ops.size->Ef aj k=true->k<m)->(∀k,k<N->Ef aj k=true)->qk M bV H0 w0 n cx φ (dB (bz l) ac (Ef aj) s N) (A6 aj) a w->wpAnyIn (cY ro) k P .any ops Q fuel aj a w:=by
   intro fuel aj φ a w dn CZ bQ aR hu
   have e:∀k,k<=N->dB (bz l) ac (Ef aj) s k=dB (bz l) ac (fun _=>true) s k:=by
    intro k
    induction k with
    |zero=>intro _;rfl
    |succ k ih=>intro hk;simp only[dB,aR k (by omega),ih (by omega)]
   rw[e N (Nat.le_refl _)]at hu
   obtain⟨k1,k2⟩:=iC (us':=fun id=>id<s.nx+N) hu.heap (fun id h=>by
    show id<s.nx+N
    rcases h with h|⟨k,hk,_,rfl⟩<;>omega)
   have X0:∀k,k<ops.size->aj.getD k false=decide (k<m):=by
    intro k hk
    by_cases h:k<m
    ·rw[decide_eq_true h];exact aR k h
    ·rw[decide_eq_false h]
     cases hb:aj.getD k false with
     |false=>rfl
     |true=>exact absurd (bQ k hk hb) h
   have hcm:aj.count true=m:=by
    have e1:aj=Array.ofFn (n:=ops.size) fun k=>decide (k.1<m):=by
     apply Array.ext
     ·simp[dn]
     ·intro k h1 h2
      have:=X0 k af
      simp only[Array.getD_eq_getD_getElem?]at this
      rw[Array.getElem?_eq_getElem h1]at this
      simpa using this
    have e2:aj.toList=List.replicate m true++List.replicate (ops.size - m) false:=by
     apply List.ext_getElem?
     intro k
     by_cases hk:k<ops.size
     ·have h1:aj.toList[k]? =some (decide (k<m)):=by
       have:=X0 k hk
       simp only[Array.getD_eq_getD_getElem?]at this
       rw[Array.getElem?_eq_getElem (by omega)]at this
       simp only[Option.getD_some]at this
       rw[Array.getElem?_toList,Array.getElem?_eq_getElem (by omega),this]
      rw[h1]
      by_cases h:k<m
      ·rw[List.getElem?_append_left (by simpa using h)]
       simp[h]
      ·rw[List.getElem?_append_right (by simpa using(by omega:m<=k))]
       rw[List.length_replicate,List.getElem?_replicate,if_pos (by omega),decide_eq_false h]
     ·rw[List.getElem?_eq_none (by simp[dn];omega),List.getElem?_eq_none (by simp;omega)]
    rw[<- Array.count_toList,e2,List.count_append,List.count_replicate_self,List.count_replicate]
    simp
   exact C1 pD Bw Bx hK hX fuel m ⟨(dB (bz l) ac (fun _=>true) s m).env,(dB (bz l) ac (fun _=>true) s m).o,s.nx+m⟩ φ aj a w af dn X0 (Nat.le_refl _) ⟨k1,hu.tr.trans k2,hu.size,hu.defers.mono k2,fun i=>V.aG k2 _ _ (hu.env i)⟩ dx
  intro fuel
  induction fuel with
  |zero=>
   intro aj φ a w dn CZ qd bQ hu
   have aR:∀k,k<ops.size->Ef aj k=true:=by
    intro k hk
    have h1:aj.count true=aj.size:=af
    rw[Array.count_eq_size]at h1
    have:=h1 aj[k] (Array.getElem_mem af)
    simp only[Ef,Array.getD_eq_getD_getElem?]
    rw[Array.getElem?_eq_getElem (by omega)]
    simpa using this.symm
   exact fin 0 aj φ a w dn CZ bQ (fun k hk=>aR k af) hu
  |succ fuel ih=>
   intro aj φ a w dn CZ qd bQ hu
   by_cases J0:∀k,k<m->Ef aj k=true
   ·exact fin (fuel+1) aj φ a w dn CZ bQ J0 hu
   have hex:∃j,j<m/\Ef aj j=false:=by
    apply Classical.byContradiction
    intro Cs
    refine J0 fun k hk=> ?_
    cases hb:Ef aj k with
    |true=>rfl
    |false=>exact absurd ⟨k,hk,hb⟩ Cs
   obtain⟨j0,hj0,Sw⟩:=hex
   refine⟨fun hr=> ?_,fun i hi=> ?_⟩
   ·have:=mC pD dn hr j0 af
    rw[show aj.getD j0 false=false from Sw]at this
    cases this
   obtain⟨h1,o,h2,h3⟩:=mem_ready.1 hi
   have X1:i<ops.size:=(Array.getElem?_eq_some_iff.1 h2).1
   have j9:Ef aj i=false:=by
    simp only[Ef,Array.getD_eq_getD_getElem?]at h1|-
    rw[Array.getElem?_eq_getElem (by omega)]at h1|-
    simpa using h1
   have E7:∀j∈aZ ops i,Ef aj j=true:=by
    exact LP
   have ql:i<N:=by
    apply Classical.byContradiction
    intro wB
    have wB:m<=i:=Nat.le_of_not_lt wB
    have:=Bw _ qd i X1 E7 j0 (Bx i wB X1 j0 af)
    rw[Sw]at this;cases this
   have E9:vC N po (Ef aj):=fun k hk gr=>Bw _ qd k af (qd k af gr)
   obtain⟨Ss,Xe⟩:=agree (s:=s) (n:=N) (fun k hk=>xP k af) hc E9 ql j9 (Bw _ qd i af E7)
   obtain⟨g1,g2,g3,g4⟩:=tX (rv _ _ i o oS tl)
   have cC: ¬A6 aj (s.nx+i):=by
    rintro(h|⟨k,_,hk,he⟩)
    ·omega
    ·have:k=i:=af
     subst this;rw[j9]at hk;cases hk
   have zW:∀k,Ef (aj.setIfInBounds i true) k=(Ef aj k||k==i):=by
    intro k
    simp only[Ef,Array.getD_eq_getD_getElem?]
    by_cases e:k=i
    ·subst e;simp[dn,X1]
    ·rw[Array.getElem?_setIfInBounds_ne (Ne.symm e)]
     have:(k==i)=false:=by simpa using e
     simp[this]
   have Ml:=insert (s:=s) hc E9 ql j9 zW
   have Mm:∀k,k<ops.size->Ef (aj.setIfInBounds i true) k=true->∀j∈aZ ops k,Ef (aj.setIfInBounds i true) j=true:=by
    intro k hk gr j hj
    rw[zW]at gr|-
    by_cases e:k=i
    ·subst e;simp[E7 j hj]
    ·have:(k==i)=false:=by simpa using e
     rw[this,Bool.or_false]at gr
     simp[qd k hk gr j hj]
   have Fa:(aj.setIfInBounds i true).count true+fuel=ops.size:=by
    have bQ:i<aj.size:=af
    have e1:aj.setIfInBounds i true=aj.set i true bQ:=by simp[Array.setIfInBounds,bQ]
    have e2:aj[i]=false:=by
     have:=j9
     simp only[Ef,Array.getD_eq_getD_getElem?]at this
     rw[Array.getElem?_eq_getElem bQ]at this
     simpa using this
    rw[e1,Array.count_set bQ,e2]
    simp
    omega
   have gk:(ac i).ok=true->∀aA a' w',qk M bV H0 w0 n cx aA (sJ o.dst (ac i) (dB (bz l) ac (Ef aj) s N)) (fun id=>A6 aj id\/id=s.nx+i) a' w'->wpAnyIn (cY ro) k P .any ops Q fuel (aj.setIfInBounds i true) a' w':=by
    intro Su aA a' w' wK
    refine ih _ aA a' w' (by simp[dn]) Fa Mm (fun k hk gr=> ?_) ?_
    ·rw[zW]at gr
     by_cases e:k=i
     ·subst e;exact ql
     ·have:(k==i)=false:=by simpa using e
      rw[this,Bool.or_false]at gr
      exact bQ k hk gr
    rw[Ml,g2]
    obtain⟨k1,k2⟩:=iC (us':=A6 (aj.setIfInBounds i true)) wK.heap (fun id h=>by
     rcases h with(h|⟨k,hk,gr,rfl⟩)|rfl
     ·exact .inl h
     ·exact .inr ⟨k,hk,by rw[zW,gr];rfl,rfl⟩
     ·exact .inr ⟨i,ql,by rw[zW];simp,rfl⟩)
    exact QT
   have C0:∀d want,(bz l i).gd=some (d,want)->(dB (bz l) ac (Ef aj) s N).env d=(dB (bz l) ac (fun _=>true) s i).env d:=fun d want hd=>Ss d (by simp[dN,tmpsOf,hd])
   have aP:=Mj i ql
   have Ep:∀x∈(bz l i).op.operands,(dB (bz l) ac (Ef aj) s N).ev x=(dB (bz l) ac (fun _=>true) s i).ev x:=fun x hx=>xL fun t ht=>Ss t (by
    subst ht
    simp only[dN,tmpsOf,List.mem_append,List.mem_filterMap]
    exact .inl (.inl ⟨.tmp t,Array.mem_toList_iff.2 hx,rfl⟩))
   have L0:(dB (bz l) ac (Ef aj) s N).nx=(dB (bz l) ac (fun _=>true) s i).nx:=(iP N).trans (iP i).symm
   unfold wpOpIn
   simp only[h2]
   cases sH:ac i with
   |skip=>
    rw[sH]at aP gk
    have hw:=ee hu.env g4 (ef C0 aP)
    simp only[hw,Bool.false_eq_true,if_false]
    refine⟨fun _ _=>trivial,gk rfl φ _ w ?_⟩
    have:=gO (v:= .bC []) (val:=undef) hu hu.heap (Trans.refl _ _ _) ⟨#[],rfl,rfl⟩ (dst:=o.dst) g3 rfl (us':=fun id=>A6 aj id\/id=s.nx+i) (fun id h=> .inl h)
    exact this
   |val v Δ rd=>
    rw[sH]at aP gk
    have hw:=ee hu.env g4 (ef C0 aP.1)
    exact Rv
   |bf v ws rd=>
    have:=Sv i ql
    rw[sH]at this;cases this
   |dK=>
    have:=Sv i ql
    rw[sH]at this;cases this
 refine key ops.size _ φ a w aK (by simp[Array.count_replicate]) (fun k hk gr=> ?_) (fun k hk gr=> ?_) ?_
 ·exact V6
 ·exact V6
 ·have e:∀k,dB (bz l) ac (Ef (Array.replicate ops.size false)) s k=s:=by
   intro k
   induction k with
   |zero=>rfl
   |succ k ih=>
    have:Ef (Array.replicate ops.size false) k=false:=by
     exact RT
    simp only[dB,this,ih]
    rfl
  exact RA
end
end
end Go.Proofs.YtlhemmpklhhgoaaGreat
