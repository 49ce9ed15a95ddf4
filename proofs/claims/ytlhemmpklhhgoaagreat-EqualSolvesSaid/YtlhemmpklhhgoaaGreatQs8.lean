/-
  A PART OF THE PROOF. Conditions: none.
-/
import Derived.OrdersIn
import Derived.Test.YtlhemmpklhhgoaaGreatQs7
set_option linter.unusedSimpArgs false
set_option linter.unusedVariables false
namespace Go.Proofs.YtlhemmpklhhgoaaGreat
section
def ad.refs:ad->List Nat
 | .row cs=>V.aQ cs
 | .loop _ _ env _ _ _ _ _=>V.aQ env
 |_=>[]
def DJ(R:List Nat)(o:Nat->ad):Nat->ad:=fun id=>if R.contains id=true then o id else .no
def Aq(P:Program)(g:FuncId)(args:List V)(rd:List Nat)(o:Nat->ad)(out:R)(Δ:List (Nat×ad)):Prop:=
 Enters P g/\∀ (o':Nat->ad) (us:Nat->Prop) (M:Nat->Prop) (φ:Place) (w:World) (vals:Array Value),(∀id∈rd,o' id=o id/\us id)->ax M φ ⟨o',us⟩ w->V.aC (ao M φ ⟨o',us⟩) φ ⟨o',us⟩ w args vals.toList->
  Calls P g vals w fun e w'=>∃aE,ax M aE ⟨put o' Δ,us⟩ w'/\Trans φ ⟨o',us⟩ w aE ⟨put o' Δ,us⟩ w'/\out.is (ao M aE ⟨put o' Δ,us⟩) w' e
def DK(P:Program)(g:FuncId)(args:List V)(rd:List Nat)(o:Nat->ad)(fr:Nat)(v:V)(Δ:List (Nat×ad)):Prop:=
 Enters P g/\∀ (o':Nat->ad) (us:Nat->Prop) (M:Nat->Prop) (φ:Place) (w:World) (vals:Array Value),(∀id∈rd,o' id=o id/\us id)-> ¬us fr->ax M φ ⟨o',us⟩ w->V.aC (ao M φ ⟨o',us⟩) φ ⟨o',us⟩ w args vals.toList->
  Calls P g vals w fun e w'=>∃aE,ax M aE ⟨put o' Δ,fun id=>us id\/id=fr⟩ w'/\Trans φ ⟨o',us⟩ w aE ⟨put o' Δ,fun id=>us id\/id=fr⟩ w'/\∃val,e= .returned val/\V.den (ao M aE ⟨put o' Δ,fun id=>us id\/id=fr⟩) aE ⟨put o' Δ,fun id=>us id\/id=fr⟩ w' v val
mutual
theorem V.ng {B B':Nat->Prop}{φ aE:Place}{H H':Hp}{w:World}(hB:∀b, ¬B b-> ¬B' b):∀ (v:V) (val:Value),(∀id∈v.refs,H'.o id=H.o id/\aE id=φ id/\H'.us id)->V.den B φ H w v val->V.den B' aE H' w v val
 | .d x,val,_,h=>D.aS (w:=w) (w':=w) (fun b _ hn=>⟨rfl,hB b hn⟩) x val h
 | .aJ,_,_,h=>h
 | .aa,_,_,_=>trivial
 | .fH,_,_,h=>h
 | .q9 es,val,_,h=>⟨D.aS (w:=w) (w':=w) (fun b _ hn=>⟨rfl,hB b hn⟩) (.sl es) val h.1,h.2⟩
 | .agg cs,val,hr,h=>by
   obtain⟨a,rfl,h1,h2⟩:=h
   exact⟨a,rfl,V.fU hB cs _ xf h1,h2⟩
 | .bT cs,val,hr,h=>by
   obtain⟨a,rfl,h1⟩:=h
   exact⟨a,rfl,V.fU hB cs _ xf h1⟩
 | .ptr id off,val,hr,h=>by
   exact zw8
 | .osl id ep,val,hr,h=>by
   obtain⟨a,b,c⟩:=hr id yB
   obtain⟨h0,h1,h2⟩:=h
   refine⟨h0,c,fun e he=> ?_⟩
   rw[a]at he
   obtain⟨x,y⟩:=h2 e he
   exact⟨x,fun heq=>(y heq).trans b.symm⟩
 | .pe id ep i sz off,val,hr,h=>by
   obtain⟨a,b,c⟩:=hr id yB
   obtain⟨h0,h1,h2⟩:=h
   refine⟨h0,c,fun e he=> ?_⟩
   rw[a]at he
   obtain⟨x,y⟩:=h2 e he
   exact O9
 | .pp cs off,val,_,h=>by
   obtain⟨a,ev,h1,h2,h3,h5,h4⟩:=h
   exact Xq
 | .func fn first cap,val,hr,h=>by
   obtain⟨f,c,rfl,h1,h2⟩:=h
   exact⟨f,c,rfl,V.fU hB first _ (fun id au=>hr id (by simp[V.refs,au])) h1,V.fU hB cap _ (fun id au=>hr id (by simp[V.refs,au])) h2⟩
 | .iface t x,val,hr,h=>by
   obtain⟨u,rfl,h⟩:=h
   exact⟨u,rfl,V.ng hB x u xf h⟩
 | .xn id off n,val,hr,h=>by
   exact zw8
 | .mp id,val,hr,h=>by
   obtain⟨a,b,c⟩:=hr id yB
   obtain⟨h0,h1,h2⟩:=h
   refine⟨h0,c,fun cz=> ?_⟩
   rw[a]at cz
   exact(h2 cz).trans b.symm
 | .j7 id,val,hr,h=>by
   exact zw8
theorem V.fU {B B':Nat->Prop}{φ aE:Place}{H H':Hp}{w:World}(hB:∀b, ¬B b-> ¬B' b):∀ (vs:List V) (vals:List Value),(∀id∈V.aQ vs,H'.o id=H.o id/\aE id=φ id/\H'.us id)->V.aC B φ H w vs vals->V.aC B' aE H' w vs vals
 |[],_,_,h=>h
 |v::vs,_,hr,h=>by
  obtain⟨u,us,rfl,h1,h2⟩:=h
  exact⟨u,us,rfl,V.ng hB v u (fun id au=>hr id (by simp[V.aQ,au])) h1,V.fU hB vs us (fun id au=>hr id (by simp[V.aQ,au])) h2⟩
end
theorem Ho{env:List V}{i id:Nat}(h:id∈(aX env i).refs):id∈V.aQ env:=by
 unfold aX at h
 induction env generalizing i with
 |nil=>simp[V.refs]at h
 |cons v env ih=>
  cases i with
  |zero=>simp only[List.getD_cons_zero]at h;simp[V.aQ,h]
  |succ i=>simp only[List.getD_cons_succ]at h;simp[V.aQ,ih h]
theorem aO.refs {M M':Nat->Prop}{φ aE:Place}{H H':Hp}{w:World}{id:Nat}(hB:∀b, ¬ao M φ H b-> ¬ao M' aE H' b)(ho:H'.o id=H.o id)(eB:aE id=φ id)
 (hr:∀j∈(H.o id).refs,H'.o j=H.o j/\aE j=φ j/\H'.us j) (h:aO M φ H w id):aO M' aE H' w id:=by
 have hd:∀b,cP w b-> ¬ao M φ H b->w.heap[b]? =w.heap[b]? /\ ¬ao M' aE H' b:=fun b _ hn=>⟨rfl,hB b hn⟩
 unfold aO at*
 rw[ho]
 cases hx:H.o id with
 |no=>trivial
 |row cs=>
  simp only[hx]at h|-
  obtain⟨b,dM,ty,h1,h2,h3,h4⟩:=h
  exact⟨b,dM,ty,eB.trans h1,h2,V.fU hB cs _ (fun j hj=>hr j (by rw[hx];exact hj)) h3,h4⟩
 |arr ep ty sz es=>
  simp only[hx]at h|-
  obtain⟨h0,xs,h1,evs,h2,h3,h4⟩:=h
  exact⟨h0,xs,by rw[eB];exact h1,evs,h2,h3,D.aT hd es evs h4⟩
 |tw ep es=>
  simp only[hx]at h|-
  rw[eB]
  exact D.aS hd (.sl es) _ h
 |map kt vt l=>
  simp only[hx]at h|-
  obtain⟨b,es,clock,h1,h2,h4,h3⟩:=h
  exact⟨b,es,clock,eB.trans h1,h2,h4,aG.mono hd l _ h3⟩
 |bU l=>
  simp only[hx]at h|-
  rw[eB]
  exact kF.mono hd h
 |ra l last=>
  simp only[hx]at h|-
  obtain⟨b,h1,h2⟩:=h
  exact⟨b,eB.trans h1,h2.mono hd rfl⟩
 |yI s pos=>
  simp only[hx]at h|-
  obtain⟨b,h1,h2⟩:=h
  exact⟨b,eB.trans h1,h2⟩
 |loop nf n env ps jr eR st GU=>
  simp only[hx]at h|-
  obtain⟨b,r,h1,h2,h0,h3,h4,h5,h6,h7,h8,h9⟩:=h
  exact⟨b,r,eB.trans h1,h2,h0,h3,h4,h5,h6,h7,h8,fun i=>V.ng hB _ _ (fun j hj=>hr j (by rw[hx];exact Ho hj)) (h9 i)⟩
section
variable {P:Program}
theorem DL{o o':Nat->ad}{Δ:List (Nat×ad)}{id:Nat}(h:o id=o' id):put o Δ id=put o' Δ id:=Fy h
where Fy {o o':Nat->ad}:∀ {Δ:List (Nat×ad)} {id:Nat},o id=o' id->put o Δ id=put o' Δ id
 |[],_,h=>h
 |x::Δ,id,h=>by
  simp only[put,List.foldl_cons]
  refine Fy (Δ:=Δ) (o:=az o x.1 x.2) (o':=az o' x.1 x.2) ?_
  simp only[aH]
  split
  ·rfl
  ·exact h
theorem zl{o:Nat->ad}:∀ {Δ:List (Nat×ad)} {id:Nat},(∀x∈Δ,x.1≠id)->put o Δ id=o id
 |[],_,_=>rfl
 |x::Δ,id,h=>by
  have:=zl (o:=az o x.1 x.2) (Δ:=Δ) (id:=id) (fun y hy=>h y lJ)
  simp only[put,List.foldl_cons]at this|-
  rw[this];simp[Ne.symm (h x (by simp))]
theorem Aq.m7 {g:FuncId}{args:List V}{rd:List Nat}{o:Nat->ad}{nx:Nat}{out:R}{Δ:List (Nat×ad)}(tS:∀id∈rd,id<nx)(dq:∀id∈V.aQ args,id∈rd)(re:∀id∈rd,∀j∈(o id).refs,j∈rd)(VN:∀x∈Δ,x.1∈rd)(ado:∀x∈Δ,∀j∈x.2.refs,j∈rd)
 (h:cI P g args (DJ rd o) nx
  (fun v o1 _=>(∀id∈rd,o1 id=put o Δ id)/\∃vs rs,v=(match vs with|[v]=>v|vs=> .bT vs)/\bZ o1 vs=some rs/\out= .ret rs/\∀id∈V.br vs,id∉rd)
  (fun v o1 _=>(∀id∈rd,o1 id=put o Δ id)/\∃x,dU o1 v=some x/\out= .bF x/\∀id∈v.ids,id∉rd)):Aq P g args rd o out Δ:=by
 refine⟨h.1,fun o' us M φ w vals ho hH hd=> ?_⟩
 let M1:Nat->Prop:=fun b=>M b\/∃id,id∉rd/\(o' id).live=true/\dT (φ id)=some b
 let HR:Hp:=hp (DJ rd o) nx
 have u0:∀id,id∈rd->DJ rd o id=o' id:=fun id au=>by simp[DJ,au,(ho id au).1]
 have sZ:∀id,id∉rd->DJ rd o id= .no:=fun id au=>by simp[DJ,au]
 have hB:∀b,ao M1 φ HR b↔ao M φ ⟨o',us⟩ b:=by
  intro b
  constructor
  ·rintro((h|⟨id,h1,h2,h3⟩)|⟨id,h1,h2⟩)
   ·exact .inl h
   ·exact .inr ⟨id,h2,h3⟩
   ·by_cases au:id∈rd
    ·exact .inr ⟨id,by show(o' id).live=true;rw[<- u0 id au];exact h1,h2⟩
    ·have:HR.o id= .no:=sZ id au
     rw[this]at h1;cases h1
  ·rintro(h|⟨id,h1,h2⟩)
   ·exact .inl (.inl h)
   ·by_cases au:id∈rd
    ·exact .inr ⟨id,by show(DJ rd o id).live=true;rw[u0 id au];exact h1,h2⟩
    ·exact .inl (.inr ⟨id,au,h1,h2⟩)
 have Fe:∀id∈rd,HR.o id=o' id/\φ id=φ id/\HR.us id:=fun id au=>⟨u0 id au,rfl,tS id au⟩
 have hHR:ax M1 φ HR w:=by
  refine⟨fun id=> ?_,fun id hn=> ?_,fun i j b hi hj bi bj=> ?_,fun b hb=> ?_,fun b hb=> ?_⟩
  ·by_cases au:id∈rd
   ·refine aO.refs (H:=⟨o',us⟩) (M:=M) (φ:=φ) (fun b hn hb=>hn ((hB b).1 hb)) (u0 id au) rfl (fun j hj=>Fe j ?_) (hH.ok id)
    have:o' id=o id:=(ho id au).1
    exact re id au j (by rw[<- this];exact hj)
   ·unfold aO
    rw[show HR.o id= .no from sZ id au];trivial
  ·exact sZ id fun au=>hn (tS id au)
  ·have live:∀i,(HR.o i).live=true->i∈rd/\(o' i).live=true:=fun i hi=>by
    by_cases au:i∈rd
    ·exact⟨au,by rw[<- u0 i au];exact hi⟩
    ·rw[show HR.o i= .no from sZ i au]at hi;cases hi
   exact hH.apart i j b (live i hi).2 (live j hj).2 bi bj
  ·obtain⟨id,h1,h2⟩:=hb
   have au:id∈rd:=by
    by_cases au:id∈rd
    ·exact au
    ·rw[show HR.o id= .no from sZ id au]at h1;cases h1
   rw[show HR.o id=o' id from u0 id au]at h1
   obtain⟨k1,k2⟩:=hH.ours b ⟨id,h1,h2⟩
   refine⟨?_,k2⟩
   rintro(hM|⟨j,j1,j2,j3⟩)
   ·exact k1 hM
   ·exact j1 (hH.apart j id b j2 h1 j3 h2 ▸ au)
  ·rcases hb with hb|⟨id,h1,h2,h3⟩
   ·exact hH.Ak b hb
   ·exact(hH.ours b ⟨id,h2,h3⟩).2
 have hdR:V.aC (ao M1 φ HR) φ HR w args vals.toList:=V.fU (H:=⟨o',us⟩) (fun b hn hb=>hn ((hB b).1 hb)) _ _ (fun id au=>Fe id (dq id au)) hd
 refine(h.2 M1 φ w vals hHR hdR).mono ?_
 rintro e w' ⟨iM,o1,Ar,v,k1,k2,k3⟩
 have main:(∀id∈rd,o1 id=put o Δ id)->∃aE,ax M aE ⟨put o' Δ,us⟩ w'/\Trans φ ⟨o',us⟩ w aE ⟨put o' Δ,us⟩ w'/\∀b,ao M aE ⟨put o' Δ,us⟩ b->M1 b\/∃id∈rd,(o1 id).live=true/\dT (iM id)=some b:=by
  intro wx
  have Fk:∀id∈rd,put o' Δ id=o1 id:=fun id au=>(DL (ho id au).1).trans (wx id au).symm
  have IB:∀id,id∉rd->put o' Δ id=o' id:=fun id au=>zl fun x hx e=>au (e ▸ VN x hx)
  let Hh:Place:=fun id=>if id∈rd then iM id else φ id
  have zm:∀id∈rd,Hh id=iM id:=fun id au=>if_pos au
  have Bt:∀id,id∉rd->Hh id=φ id:=fun id au=>if_neg au
  let H2:Hp:=⟨put o' Δ,us⟩
  have cH:∀b,cD Hh H2 b->(∃id∈rd,(o1 id).live=true/\dT (iM id)=some b)\/∃id,id∉rd/\(o' id).live=true/\dT (φ id)=some b:=by
   rintro b ⟨id,h1,h2⟩
   by_cases au:id∈rd
   ·exact .inl ⟨id,au,by rw[<- Fk id au];exact h1,by rw[<- zm id au];exact h2⟩
   ·exact .inr ⟨id,au,by rw[<- IB id au];exact h1,by rw[<- Bt id au];exact h2⟩
  have hB2:∀b,ao M Hh H2 b->ao M1 iM (hp o1 Ar) b:=by
   rintro b (hb|hb)
   ·exact .inl (.inl hb)
   ·rcases cH b hb with⟨id,h1,h2,h3⟩|⟨id,h1,h2,h3⟩
    ·exact .inr ⟨id,h2,h3⟩
    ·exact .inl (.inr ⟨id,h1,h2,h3⟩)
  have Y7:dN φ ⟨o',us⟩ Hh H2:=by
   refine⟨fun id h=>h,fun id hu hr=> ?_,fun id e' hu he=> ?_⟩
   ·by_cases au:id∈rd
    ·rw[show H2.o id=o1 id from Fk id au]at hr
     obtain⟨a,b⟩:=k2.rel.row id (tS id au) hr
     rw[show HR.o id=o' id from u0 id au]at a
     exact⟨a,(zm id au).trans b⟩
    ·rw[show H2.o id=o' id from IB id au]at hr
     exact⟨hr,Bt id au⟩
   ·by_cases au:id∈rd
    ·rw[show H2.o id=o1 id from Fk id au]at he
     obtain⟨e0,a,b,c⟩:=k2.rel.ep id e' (tS id au) he
     rw[show HR.o id=o' id from u0 id au]at a
     exact⟨e0,a,b,fun heq=>(zm id au).trans (c heq)⟩
    ·rw[show H2.o id=o' id from IB id au]at he
     exact⟨e',he,Nat.le_refl _,fun _=>Bt id au⟩
  have tA:∀b,cP w b-> ¬ao M φ ⟨o',us⟩ b->w'.heap[b]? =w.heap[b]? /\ ¬ao M Hh H2 b:=by
   intro b hc hn
   obtain⟨a,c⟩:=k2.blocks (M:=M1) b hc (fun hb=>hn ((hB b).1 hb))
   exact⟨a,fun hb=>c (hB2 b hb)⟩
  have wA:∀b,b<w.heap.size-> ¬cD φ HR b->w'.heap[b]? =w.heap[b]? :=fun b hb hl=>k2.cu.block b hb hl
  have ht:Trans φ ⟨o',us⟩ w Hh H2 w':=by
   refine⟨⟨k2.cu.os,k2.cu.tape,k2.cu.output,k2.cu.size,fun b hb hl=>wA b hb fun⟨id,h1,h2⟩=>hl ?_⟩,fun b hb=> ?_,Y7⟩
   ·by_cases au:id∈rd
    ·exact⟨id,by show(o' id).live=true;rw[<- u0 id au];exact h1,h2⟩
    ·rw[show HR.o id= .no from sZ id au]at h1;cases h1
   ·rcases cH b hb with⟨id,h1,h2,h3⟩|⟨id,h1,h2,h3⟩
    ·rcases k2.grow b ⟨id,h2,h3⟩with⟨j,j1,j2⟩|Am
     ·by_cases au:j∈rd
      ·exact .inl ⟨j,by show(o' j).live=true;rw[<- u0 j au];exact j1,j2⟩
      ·rw[show HR.o j= .no from sZ j au]at j1;cases j1
     ·exact .inr Am
    ·exact .inl ⟨id,h2,h3⟩
  refine⟨Hh,⟨fun id=> ?_,fun id hn=> ?_,fun i j b hi hj bi bj=> ?_,fun b hb=> ?_,fun b hb=>Nat.lt_of_lt_of_le (hH.Ak b hb) k2.cu.size⟩,ht,fun b hb=> ?_⟩
  ·by_cases au:id∈rd
   ·refine aO.refs (H:=hp o1 Ar) (M:=M1) (φ:=iM) (fun b hn hb=>hn (hB2 b hb)) (Fk id au) (zm id au) (fun j hj=> ?_) (k1.ok id)
    have Iu:j∈rd:=by
     have e1:o1 id=put o Δ id:=wx id au
     have hj:j∈(put o Δ id).refs:=by rw[<- e1];exact hj
     have key:∀ (Fz:List (Nat×ad)) (q:Nat->ad),(∀x∈Fz,∀j∈x.2.refs,j∈rd)->(∀j∈(q id).refs,j∈rd)->∀j∈(put q Fz id).refs,j∈rd:=by
      intro Fz
      induction Fz with
      |nil=>intro q _ h2;exact h2
      |cons x Fz ih=>
       intro q h1 h2
       simp only[put,List.foldl_cons]
       refine ih (az q x.1 x.2) (fun y hy=>h1 y lJ) ?_
       simp only[aH]
       split
       ·exact h1 x aF
       ·exact h2
     exact key Δ o ado (re id au) j hj
    exact⟨Fk j Iu,zm j Iu,(ho j Iu).2⟩
   ·exact aO.AR tA Y7 (IB id au) (Bt id au) (fun hl b hb=>wA b (hH.ours b ⟨id,hl,hb⟩).2 fun⟨j,j1,j2⟩=>by
     by_cases hj:j∈rd
     ·rw[show HR.o j=o' j from u0 j hj]at j1
      exact au (hH.apart id j b hl j1 hb j2 ▸ hj)
     ·rw[show HR.o j= .no from sZ j hj]at j1;cases j1) (hH.ok id)
  ·have au:id∉rd:=fun au=>hn (ho id au).2
   exact(IB id au).trans (hH.fresh id hn)
  ·by_cases e1:i∈rd<;>by_cases e2:j∈rd
   ·refine k1.apart i j b ?_ ?_ (by rw[<- zm i e1];exact bi) (by rw[<- zm j e2];exact bj)
    ·show(o1 i).live=true;rw[<- Fk i e1];exact hi
    ·show(o1 j).live=true;rw[<- Fk j e2];exact hj
   ·exfalso
    refine(k1.ours b ⟨i,by show(o1 i).live=true;rw[<- Fk i e1];exact hi,by rw[<- zm i e1];exact bi⟩).1 (.inr ⟨j,e2,by rw[<- IB j e2];exact hj,by rw[<- Bt j e2];exact bj⟩)
   ·exfalso
    refine(k1.ours b ⟨j,by show(o1 j).live=true;rw[<- Fk j e2];exact hj,by rw[<- zm j e2];exact bj⟩).1 (.inr ⟨i,e1,by rw[<- IB i e1];exact hi,by rw[<- Bt i e1];exact bi⟩)
   ·exact hH.apart i j b (by show(o' i).live=true;rw[<- IB i e1];exact hi) (by show(o' j).live=true;rw[<- IB j e2];exact hj) (by rw[<- Bt i e1];exact bi) (by rw[<- Bt j e2];exact bj)
  ·rcases cH b hb with⟨id,h1,h2,h3⟩|⟨id,h1,h2,h3⟩
   ·obtain⟨a,c⟩:=k1.ours b ⟨id,h2,h3⟩
    exact⟨fun hM=>a (.inl hM),c⟩
   ·obtain⟨a,c⟩:=hH.ours b ⟨id,h2,h3⟩
    exact⟨a,Nat.lt_of_lt_of_le c k2.cu.size⟩
  ·rcases hb with hb|hb
   ·exact .inl (.inl hb)
   ·rcases cH b hb with h|h
    ·exact .inr h
    ·exact .inl (.inr h)
 have res:∀ (vs:List V) (xs:List D) (us':List Value),(∀id∈rd,o1 id=put o Δ id)->bZ o1 vs=some xs->(∀id∈V.br vs,id∉rd)->V.aC (ao M1 iM (hp o1 Ar)) iM (hp o1 Ar) w' vs us'->
  ∃aE,ax M aE ⟨put o' Δ,us⟩ w'/\Trans φ ⟨o',us⟩ w aE ⟨put o' Δ,us⟩ w'/\D.aC (ao M aE ⟨put o' Δ,us⟩) w' xs us':=by
  intro vs xs us' wx h1 adp h2
  obtain⟨f1,f2,f3,f4,f5⟩:=cQ k1 (V.br vs) (cS vs _ h2)
  have h3:=df f1 vs xs us' f3 h1 (V.aT f2 _ _ h2)
  obtain⟨aE,m1,m2,m3⟩:=main wx
  refine⟨aE,m1,m2,D.aT (w:=w') (w':=w') (fun b _ hn=>⟨rfl,fun hb=>hn ?_⟩) xs us' h3⟩
  rcases m3 b hb with hb|⟨id,i1,i2,i3⟩
  ·exact .inl hb
  ·exact .inr ⟨id,by rw[f4 id fun hm=>adp id hm i1];exact i2,i3⟩
 cases e with
 |outgrown=>exact k3.elim
 |panicked ch=>
  obtain⟨val,rfl,g1,wx,x,g2,rfl,g3⟩:=k3
  obtain⟨aE,m1,m2,m3⟩:=res [v] [x] [val] wx (by simp[bZ,g2]) (by simpa[V.br]using g3) ⟨val,[],rfl,g1,rfl⟩
  obtain⟨u,us2,he,h2,_⟩:=m3
  simp at he;obtain⟨rfl,rfl⟩:=he
  exact⟨aE,m1,m2,val,rfl,h2⟩
 |returned val=>
  obtain⟨g1,wx,vs,rs,rfl,g2,rfl,g3⟩:=k3
  match vs,g1,g2,g3 with
  |[],g1,g2,g3=>
   obtain⟨arr,rfl,hv⟩:=g1
   simp only[bZ,Option.some.injEq]at g2;subst g2
   obtain⟨aE,m1,m2,m3⟩:=res [] [] arr.toList wx rfl (by simp[V.br]) hv
   exact⟨aE,m1,m2,arr,rfl,m3⟩
  |[v],g1,g2,g3=>
   obtain⟨aE,m1,m2,m3⟩:=res [v] rs [val] wx g2 g3 ⟨val,[],rfl,g1,rfl⟩
   refine⟨aE,m1,m2, ?_⟩
   cases rs with
   |nil=>cases m3
   |cons x l=>
    obtain⟨u,us2,he,h2,h3⟩:=m3
    simp at he;obtain⟨rfl,rfl⟩:=he
    cases l with
    |nil=>exact h2
    |cons y l=>obtain⟨_,_,h,_⟩:=h3;cases h
  |v::v2::l,g1,g2,g3=>
   obtain⟨arr,rfl,hv⟩:=g1
   obtain⟨aE,m1,m2,m3⟩:=res (v::v2::l) rs arr.toList wx g2 g3 hv
   refine⟨aE,m1,m2, ?_⟩
   have hl:=D.aA _ _ m3
   have Ya:=V.aA _ _ hv
   match rs,hl,m3 with
   |[],hl,_=>exact EZ
   |[x],hl,_=>exact EZ
   |x::y::l,_,m3=>exact⟨arr,rfl,m3⟩
end
end
section
inductive eV where
 |skip|val (v:V) (Δ:List (Nat×ad)) (rd:List Nat)|bF (v:V) (ws rd:List Nat)|dT
 deriving Inhabited
def eV.ok:eV->Bool
 | .skip| .val .. =>true
 |_=>false
def wB(dst:Option Tmp)(x:eV)(s:S):S:=
 match x with
 | .skip=>⟨ba s.env dst (.bT []),s.o,s.nx⟩
 | .val v Δ _=>⟨ba s.env dst v,put s.o Δ,s.nx⟩
 | .bF .. | .dT=>⟨ba s.env dst .aa,s.o,s.nx⟩
def kI:eV->List Nat
 | .val _ Δ _=>Δ.map (·.1)
 |_=>[]
def wT:eV->List Nat
 | .val _ _ rd=>rd
 | .bF _ _ rd=>rd
 |_=>[]
def Y8(P:Program)(g:FuncId)(ds:List D)(v:V):Prop:=
 Enters P g/\∀ (M:Nat->Prop) (w:World) (vals:Array Value),(∀b,M b->b<w.heap.size)->D.aC M w ds vals.toList->
  Calls P g vals w fun e w'=>dV (fun _=>False) w w'/\∃val,e= .returned val/\∀φ H,V.den M φ H w' v val
theorem Y8.m7 {P:Program}{g:FuncId}{ds:List D}{v:V}(hr:v.refs=[])(h:cI P g (ds.map .d) (fun _=> .no) 0 (fun v' _ _=>v'=v) (fun _ _ _=>False)):Y8 P g ds v:=by
 refine⟨h.1,fun M w vals hM hd=> ?_⟩
 let cA:Place:=fun _=> .nilFunc
 have wA:∀b, ¬cD cA (hp (fun _=> .no) 0) b:=by rintro b ⟨id,hl,_⟩;simp[hp,ad.live]at hl
 refine(h.2 M cA w vals (nV cA hM) ((V.cw _ _).2 (D.aT (w:=w) (w':=w) (B:=M) (fun b _ hB=>⟨rfl,fun h=>h.elim hB (wA b)⟩) _ _ hd))).mono ?_
 rintro e w' ⟨aE,o',nx',v',k1,k2,k3⟩
 refine⟨⟨k2.cu.os,k2.cu.tape,k2.cu.output,k2.cu.size,fun k hk _=>k2.cu.block k hk (wA k)⟩, ?_⟩
 cases e with
 |outgrown=>exact k3.elim
 |panicked ch=>obtain⟨_,_,_,h⟩:=k3;exact h.elim
 |returned val=>
  obtain⟨g1,rfl⟩:=k3
  exact⟨val,rfl,fun φ H=>V.ng (B:=ao M aE (hp o' nx')) (φ:=aE) (H:=hp o' nx') (fun b hb hm=>hb (.inl hm)) v' val (fun id au=>by rw[hr]at au;cases au) g1⟩
def xR(P:Program)(s:S)(fr:Nat)(op:Op)(v:V)(Δ:List (Nat×ad))(rd:List Nat):Prop:=
 ((∃yE,gr P s fr op=some (v,Δ,yE))/\rd=oE s op)\/
 (∃c f g first cap,op= .call c/\c.callee= .value f/\s.ev f= .func (.func g) first cap/\
  ((∃ds rs,bZ s.o (first++c.args.toList.map s.ev++cap)=some ds/\a8 P g ds (.ret rs)/\v=iP rs/\rd=oE s op/\
    (Δ=bL s.o (V.br (first++c.args.toList.map s.ev++cap))\/D.jB rs=true/\Δ=[]))\/
   (∃rs,Aq P g (first++c.args.toList.map s.ev++cap) rd s.o (.ret rs) Δ/\v=iP rs/\∀id∈rd,id<s.nx)\/
   (∃ds,bZ s.o (first++c.args.toList.map s.ev++cap)=some ds/\Y8 P g ds v/\rd=oE s op/\Δ=bL s.o (V.br (first++c.args.toList.map s.ev++cap)))\/
   (DK P g (first++c.args.toList.map s.ev++cap) rd s.o fr v Δ/\∀id∈rd,id<s.nx)))
def Bu(P:Program)(s:S)(op:Op)(v:V)(ws rd:List Nat):Prop:=
 ∃c f g first cap,op= .call c/\c.callee= .value f/\s.ev f= .func (.func g) first cap/\
  ((∃ds x,bZ s.o (first++c.args.toList.map s.ev++cap)=some ds/\a8 P g ds (.bF x)/\x.flat=true/\v= .d x/\rd=oE s op/\ws=[])\/
   (∃x Δ,Aq P g (first++c.args.toList.map s.ev++cap) rd s.o (.bF x) Δ/\v= .d x/\ws=Δ.map (·.1)/\∀id∈rd,id<s.nx))
def dL(s:S)(gd:Option (Nat×Bool))(b:Bool):Prop:=
 match gd with
 |none=>b=true
 |some (d,want)=>match s.env d with
  | .d (.bool c)=>b=(c==want)
  | .bT []=>b=false
  |_=>False
def PV(P:Program)(s:S)(fr:Nat)(o:bP)(x:eV):Prop:=
 match x with
 | .skip=>dL s o.gd false
 | .val v Δ rd=>dL s o.gd true/\xR P s fr o.op v Δ rd
 | .bF v ws rd=>dL s o.gd true/\Bu P s o.op v ws rd
 | .dT=>True
def eo(oc:Nat->bP)(ac:Nat->eV)(E:Nat->Bool)(s:S):Nat->S
 |0=>s
 |k+1=>if E k then wB (oc k).dst (ac k) (eo oc ac E s k)else eo oc ac E s k
structure Compat (oc:Nat->bP) (ac:Nat->eV) (R:Nat->List Nat) (i j:Nat):Prop where
 di:∀d,(oc i).dst=some d->d∉eQ (oc j)
 dj:∀d,(oc j).dst=some d->d∉eQ (oc i)
 wi:∀id∈kI (ac i),id∉R j/\id∉kI (ac j)
 wj:∀id∈kI (ac j),id∉R i
section
variable {P:Program}{oc:Nat->bP}{ac:Nat->eV}{s:S}{n:Nat}{E:Nat->Bool}{R:Nat->List Nat}{pr:Nat->Nat->Prop}
theorem DM{env:Nat->V}{dst:Option Tmp}{v:V}{t:Nat}(h:∀d,dst=some d->d≠t):ba env dst v t=env t:=by
 cases dst with
 |none=>rfl
 |some d=>simp only[ba,aH];rw[if_neg (fun e=>h d rfl e.symm)]
theorem fV{o:Nat->ad}:∀ {Δ:List (Nat×ad)} {id:Nat},id∉Δ.map (·.1)->put o Δ id=o id
 |[],_,_=>rfl
 |x::Δ,id,h=>by
  simp only[List.map_cons,List.mem_cons,not_or]at h
  have:=fV (o:=az o x.1 x.2) (Δ:=Δ) h.2
  simp only[put,List.foldl_cons]at this|-
  rw[this];simp[h.1]
theorem zo{o o':Nat->ad}:∀ {Δ:List (Nat×ad)} {id:Nat},id∈Δ.map (·.1)\/o id=o' id->put o Δ id=put o' Δ id
 |[],_,h=>by rcases h with h|h;· simp at h
             ·exact h
 |x::Δ,id,h=>by
  simp only[put,List.foldl_cons]
  refine zo (Δ:=Δ) (o:=az o x.1 x.2) (o':=az o' x.1 x.2) ?_
  simp only[List.map_cons,List.mem_cons]at h
  simp only[aH]
  by_cases e:id=x.1
  ·right;simp[e]
  ·rcases h with(h|h)|h
   ·exact absurd h e
   ·exact .inl h
   ·right;simp[e,h]
theorem kJ{dst:Option Tmp}{x:eV}{t:Nat}(h:∀d,dst=some d->d≠t):(wB dst x s).env t=s.env t:=by
 cases x<;>exact DM h
theorem nh{dst:Option Tmp}{x:eV}{id:Nat}(h:id∉kI x):(wB dst x s).o id=s.o id:=by
 cases x with
 |val v Δ rd=>exact fV h
 |_=>rfl
theorem zp{dst:Option Tmp}{x:eV}{s':S}{t:Nat}(h:s.env t=s'.env t):(wB dst x s).env t=(wB dst x s').env t:=by
 cases x<;>cases dst<;>simp only[wB,ba,aH]<;>first|exact h|(split<;>first|rfl|exact h)
theorem DN{dst:Option Tmp}{x:eV}{s':S}{id:Nat}(h:s.o id=s'.o id):(wB dst x s).o id=(wB dst x s').o id:=by
 cases x with
 |val v Δ rd=>exact zo (.inr h)
 |_=>exact h
theorem put_comm{o:Nat->ad}{Δ Fz:List (Nat×ad)}(h:∀id∈Δ.map (·.1),id∉Fz.map (·.1)):put (put o Δ) Fz=put (put o Fz) Δ:=by
 funext id
 by_cases h1:id∈Δ.map (·.1)
 ·rw[fV (h id h1)]
  exact zo (.inl h1)
 ·rw[fV (Δ:=Δ) h1]
  by_cases h2:id∈Fz.map (·.1)
  ·exact zo (.inl h2)
  ·rw[fV h2,fV h2,fV h1]
theorem xS{env:Nat->V}{d d':Option Tmp}{v v':V}(h:∀t,d=some t->d'≠some t):ba (ba env d v) d' v'=ba (ba env d' v') d v:=by
 cases d with
 |none=>rfl
 |some t=>
  cases d' with
  |none=>rfl
  |some t'=>
   have fG:t'≠t:=fun e=>h t rfl (by rw[e])
   funext i
   simp only[ba,aH]
   by_cases e1:i=t<;>by_cases e2:i=t'
   ·exact absurd (e2.symm.trans e1) fG
   all_goals simp[e1,e2]
   ·intro e;exact absurd e.symm fG
   ·intro e;exact absurd e fG
theorem JW{d d':Option Tmp}{x x':eV}(hd:∀t,d=some t->d'≠some t)(hw:∀id∈kI x,id∉kI x'):wB d x (wB d' x' s)=wB d' x' (wB d x s):=by
 cases x<;>cases x'<;>simp only[wB]<;>first
  |rw[xS hd,put_comm hw]
  |rw[xS hd]
def zq(n:Nat)(pr:Nat->Nat->Prop)(E:Nat->Bool):Prop:=∀k,k<n->E k=true->∀j,pr k j->E j=true
theorem agree(_:∀k,k<n->∀j,pr k j->j<k)(hc:∀i j,i<j->j<n-> ¬pr j i->Compat oc ac R i j)(hE:zq n pr E){i:Nat}(hi:i<n)(lI:E i=false)(JX:∀j,pr i j->E j=true):
 (∀t∈eQ (oc i),(eo oc ac E s n).env t=(eo oc ac (fun _=>true) s i).env t)/\(∀id∈R i,(eo oc ac E s n).o id=(eo oc ac (fun _=>true) s i).o id):=by
 have a:∀k,k<=i->(∀t∈eQ (oc i),(eo oc ac E s k).env t=(eo oc ac (fun _=>true) s k).env t)/\(∀id∈R i,(eo oc ac E s k).o id=(eo oc ac (fun _=>true) s k).o id):=by
  intro k
  induction k with
  |zero=>intro _;exact⟨fun _ _=>rfl,fun _ _=>rfl⟩
  |succ k ih=>
   intro hk
   obtain⟨h1,h2⟩:=ih af
   simp only[eo,if_true]
   by_cases iX:E k=true
   ·simp only[iX,if_true]
    exact⟨fun t ht=>zp (h1 t ht),fun id au=>DN (h2 id au)⟩
   ·have PJ: ¬pr i k:=fun hm=>iX (JX k hm)
    have c:=hc k i af hi PJ
    simp only[iX]
    refine⟨fun t ht=> ?_,fun id au=> ?_⟩
    ·rw[kJ fun d hd e=>c.di d hd (e ▸ ht)];exact h1 t ht
    ·rw[nh fun hm=>(c.wi id hm).1 au];exact h2 id au
 have b:∀k,i<=k->k<=n->(∀t∈eQ (oc i),(eo oc ac E s k).env t=(eo oc ac (fun _=>true) s i).env t)/\(∀id∈R i,(eo oc ac E s k).o id=(eo oc ac (fun _=>true) s i).o id):=by
  intro k M3
  induction M3 with
  |refl=>intro _;exact a i (Nat.le_refl _)
  | @step k M3 ih=>
    intro hk
    have M3:i<=k:=M3
    obtain⟨h1,h2⟩:=ih af
    simp only[eo]
    by_cases iX:E k=true
    ·have fG:i≠k:=fun e=>by rw[e,iX]at lI;cases lI
     have PJ: ¬pr k i:=fun hm=>by have:=hE k af iX i hm;rw[lI]at this;cases this
     have c:=hc i k af af PJ
     simp only[iX,if_true]
     refine⟨fun t ht=> ?_,fun id au=> ?_⟩
     ·rw[kJ fun d hd e=>c.dj d hd (e ▸ ht)];exact h1 t ht
     ·rw[nh fun hm=>c.wj id hm au];exact h2 id au
    ·simp only[iX];exact⟨h1,h2⟩
 exact b n af (Nat.le_refl _)
theorem insert(hc:∀i j,i<j->j<n-> ¬pr j i->Compat oc ac R i j)(hE:zq n pr E){i:Nat}(hi:i<n)(lI:E i=false){E':Nat->Bool}(DO:∀k,E' k=(E k||k==i)):
 eo oc ac E' s n=wB (oc i).dst (ac i) (eo oc ac E s n):=by
 have a:∀k,k<=i->eo oc ac E' s k=eo oc ac E s k:=by
  intro k
  induction k with
  |zero=>intro _;rfl
  |succ k ih=>
   intro hk
   have:E' k=E k:=by rw[DO k];have:(k==i)=false:=by simp;omega
                     simp[this]
   simp only[eo,this,ih (by omega)]
 have b:∀k,i+1<=k->k<=n->eo oc ac E' s k=wB (oc i).dst (ac i) (eo oc ac E s k):=by
  intro k M3
  induction M3 with
  |refl=>
   intro _
   have h1:E' i=true:=by rw[DO i];simp
   simp only[eo,h1,lI,if_true,a i (Nat.le_refl _)]
   rfl
  | @step k M3 ih=>
    intro hk
    have M3:i+1<=k:=M3
    have h1:E' k=E k:=by rw[DO k];have:(k==i)=false:=by simp;omega
                         simp[this]
    simp only[eo,h1,ih (by omega)]
    by_cases iX:E k=true
    ·have PJ: ¬pr k i:=fun hm=>by have:=hE k af iX i hm;rw[lI]at this;cases this
     have c:=hc i k af af PJ
     simp only[iX,if_true]
     refine JW (fun t ht he=> ?_) (fun id au hm=>(c.wi id hm).2 au)
     exact c.di t he (by simp[eQ,ht])
    ·simp only[iX];rfl
 exact b n af (Nat.le_refl _)
end
end
section
structure tK (M:Nat->Prop) (cA:Place) (H0:Hp) (w0:World) (n:Nat) (cx:Cx) (φ:Place) (s:S) (us:Nat->Prop) (a:Act) (w:World):Prop where
 heap:ax M φ ⟨s.o,us⟩ w
 tr:Trans cA H0 w0 φ ⟨s.o,us⟩ w
 size:a.tmps.size=n
 defers:uS cx w0 φ ⟨s.o,us⟩ w a.defers
 env:∀i,V.den (ao M φ ⟨s.o,us⟩) φ ⟨s.o,us⟩ w (s.env i) (a.tmps.getD i undef)
section
variable {P:Program}{M:Nat->Prop}{φ cA:Place}{H0:Hp}{w w' w0:World}{n:Nat}{s:S}{us:Nat->Prop}{a:Act}{cx:Cx}{ro:Option Nat}{k:Nat}
variable {next:Act->World->Prop}{Q:Exit->Act->World->Prop}
theorem jq(hs:tK M cA H0 w0 n cx φ s us a w){aE:Place}{H':Hp}(hH:ax M aE H' w')(ht:Trans φ ⟨s.o,us⟩ w aE H' w'){v:V}{val:Value}(hd:V.den (ao M aE H') aE H' w' v val){dst:Option Tmp}(cO:gA n dst)
 {o':Nat->ad} {us':Nat->Prop} (ho:H'.o=o') (hu:∀id,H'.us id->us' id):tK M cA H0 w0 n cx aE ⟨ba s.env dst v,o',s.nx⟩ us' (a.put dst val) w':=by
 obtain⟨k1,k2⟩:=j6 hH hu
 subst ho
 refine⟨k1,hs.tr.trans (ht.trans k2), ?_, ?_,fun i=> ?_⟩
 ·cases dst<;>simp[Act.put,hs.size]
 ·have:=hs.defers.mono (ht.trans k2);cases dst<;>exact this
 ·cases dst with
  |none=>exact Mx
  |some d=>
   simp only[gA]at cO
   simp only[ba,aH,Act.put]
   by_cases hi:i=d
   ·subst hi
    have h1:(a.tmps.setIfInBounds i val).getD i undef=val:=by simp[Array.getD,hs.size,cO]
    rw[if_pos rfl,h1]
    exact V.aS k2 _ _ hd
   ·have h1:(a.tmps.setIfInBounds d val).getD i undef=a.tmps.getD i undef:=by
     exact Sk
    rw[if_neg hi,h1]
    exact Mx
theorem xT(hs:tK M cA H0 w0 n cx φ s us a w){o:Oper}{op:Op}(fP:o.op=op){c:Call}{f:Operand}{g:FuncId}{first cap:List V}(hc:op= .call c)(eN:c.callee= .value f)(wI:s.ev f= .func (.func g) first cap):
 ∃vals:Array Value,V.aC (ao M φ ⟨s.o,us⟩) φ ⟨s.o,us⟩ w (first++c.args.toList.map s.ev++cap) vals.toList/\(Enters P g->(execOp a.eval o).run P w= .ok (.enter g vals) w):=by
 have hf:=mP (M:=M) (φ:=φ) (H:=⟨s.o,us⟩) (w:=w) s a hs.env f
 have dq:=j9 (M:=M) (φ:=φ) (H:=⟨s.o,us⟩) (w:=w) s a hs.env c.args.toList
 rw[wI]at hf
 obtain⟨fa,ca,SI,E5,hca⟩:=hf
 refine⟨fa++c.args.map a.eval++ca, ?_,fun he=> ?_⟩
 ·exact YE
 ·have:=lq (w:=w) he (fa++c.args.map a.eval++ca)
  generalize mK:fa++c.args.map a.eval++ca=vals at this
  simp[execOp,fP,hc,resolve,eN,SI,Deferred.ofValue,invoke,this,mK]
theorem IY(hs:tK M cA H0 w0 n cx φ s us a w){fr:Nat}(c8: ¬us fr)(tS:∀id,id<s.nx->us id){o:Oper}{op:Op}(fP:o.op=op)(cO:gA n o.dst){v:V}{Δ:List (Nat×ad)}{rd:List Nat}(h:xR P s fr op v Δ rd)
 (hN:∀aE a' w',tK M cA H0 w0 n cx aE (wB o.dst (.val v Δ rd) s) (fun id=>us id\/id=fr) a' w'->next a' w'):o.wpIn (dG ro) k P a w next Q:=by
 rcases h with⟨⟨yE,h⟩,_⟩|⟨c,f,g,first,cap,hc,eN,wI,h⟩
 ·have h1:=Bq (K:=fun v' Fz _=>v'=v/\Fz=Δ) h ⟨rfl,rfl⟩
  obtain⟨nx,val,w',aE,v',Fz,yE,⟨rfl,rfl⟩,hr,adq,g1,g2,g3,g4⟩:=xJ hs.heap (s:=s) rfl hs.env c8 fP h1
  have tE:=jq hs g1 g2 g3 cO (o':=put s.o Fz) (us':=fun id=>us id\/id=fr) rfl (fun id hu=>hu.elim .inl (g4 id))
  refine kn (fun c hc=>by rw[fP]at hc;subst hc;exact h1) ?_
  rw[hr]
  rcases adq with rfl|⟨rfl,rfl⟩
  ·exact hN _ _ _ tE
  ·exact hN _ _ _ tE
 ·refine kn (fun c' Ap=>by rw[fP,hc]at Ap;cases Ap) ?_
  obtain⟨vals,bf,eU⟩:=xT (P:=P) hs fP hc eN wI
  generalize first++c.args.toList.map s.ev++cap=all at h bf
  rcases h with⟨ds,rs,eP,hP,rfl,_,VN⟩|⟨rs,hH,rfl,mG⟩|⟨ds,eP,hP,_,rfl⟩|⟨hH,mG⟩
  ·obtain⟨f1,f2,f3,f4,f5⟩:=cQ hs.heap (V.br all) (cS all _ bf)
   have gk:(⟨s.o,us⟩:Hp).put (bL s.o (V.br all))=⟨put s.o (bL s.o (V.br all)),us⟩:=lp (H:=⟨s.o,us⟩) I7
   have xz:=df f1 all ds _ f3 eP (V.aT f2 _ _ bf)
   have dC:=hP.2 _ w vals (fun b hb=>hb.elim (f1.Ak b) fun hl=>(f1.ours b hl).2) xz
   rw[eU hP.1]
   refine⟨fun hd=>by simp[dG]at hd,cW (dC.mono fun e w' ⟨hk,ho⟩=> ?_)⟩
   cases e with
   |panicked ch=>exact wG
   |outgrown=>exact wG
   |returned val=>
    rcases VN with rfl|⟨mJ,rfl⟩
    ·obtain⟨k1,k2⟩:=fS f1 hk
     refine hN _ _ _ (jq hs k1 (f2.trans k2) (mH ho) cO (by rw[gk]) fun id hu=> ?_)
     rw[gk]at hu;exact .inl hu
    ·obtain⟨k1,k2⟩:=fS hs.heap hk
     have ho:=R.yY (out:= .ret rs) (B':=ao M φ ⟨s.o,us⟩) mJ ho
     exact OH
  ·have dC:=hH.2 s.o us M φ w vals (fun id au=>⟨rfl,tS id (mG id au)⟩) hs.heap bf
   rw[eU hH.1]
   refine⟨fun hd=>by simp[dG]at hd,cW (dC.mono fun e w' ⟨aE,k1,k2,ho⟩=> ?_)⟩
   cases e with
   |panicked ch=>exact wG
   |outgrown=>exact wG
   |returned val=>exact OH
  ·obtain⟨f1,f2,f3,f4,f5⟩:=cQ hs.heap (V.br all) (cS all _ bf)
   have gk:(⟨s.o,us⟩:Hp).put (bL s.o (V.br all))=⟨put s.o (bL s.o (V.br all)),us⟩:=lp (H:=⟨s.o,us⟩) I7
   have xz:=df f1 all ds _ f3 eP (V.aT f2 _ _ bf)
   have dC:=hP.2 _ w vals (fun b hb=>hb.elim (f1.Ak b) fun hl=>(f1.ours b hl).2) xz
   rw[eU hP.1]
   refine⟨fun hd=>by simp[dG]at hd,cW (dC.mono fun e w' ⟨hk,val,he,ho⟩=> ?_)⟩
   subst he
   obtain⟨k1,k2⟩:=fS f1 hk
   refine hN _ _ _ (jq hs k1 (f2.trans k2) (ho _ _) cO (by rw[gk]) fun id hu=> ?_)
   rw[gk]at hu;exact .inl hu
  ·have dC:=hH.2 s.o us M φ w vals (fun id au=>⟨rfl,tS id (mG id au)⟩) c8 hs.heap bf
   rw[eU hH.1]
   refine⟨fun hd=>by simp[dG]at hd,cW (dC.mono fun e w' ⟨aE,k1,k2,val,he,ho⟩=> ?_)⟩
   subst he
   exact hN _ _ _ (jq hs k1 k2 ho cO rfl fun id hu=>hu)
theorem Hq{o o2:Nat->ad}{us us2:Nat->Prop}(hH:ax M φ ⟨o,us⟩ w)(ho:∀id,o2 id=o id\/o2 id= .no)(hu:∀id,us id->us2 id):ax M φ ⟨o2,us2⟩ w/\Trans φ ⟨o,us⟩ w φ ⟨o2,us2⟩ w:=by
 have hl:∀id,(o2 id).live=true->(o id).live=true:=fun id h=>by
  rcases ho id with e|e
  ·rw[<- e];exact h
  ·rw[e]at h;cases h
 have VP:∀b,cD φ ⟨o2,us2⟩ b->cD φ ⟨o,us⟩ b:=fun b ⟨id,h1,h2⟩=>⟨id,hl id h1,h2⟩
 have ht:Trans φ ⟨o,us⟩ w φ ⟨o2,us2⟩ w:=by
  refine⟨dV.refl _ _,fun b hb=> .inl (VP b hb),⟨hu,fun id _ hr=> ?_,fun id e' _ he=> ?_⟩⟩
  ·rcases ho id with e|e
   ·exact⟨by show(o id).cg=true;rw[<- e];exact hr,rfl⟩
   ·rw[show(⟨o2,us2⟩:Hp).o id= .no from e]at hr;cases hr
  ·rcases ho id with e|e
   ·exact⟨e',by show(o id).cf=some e';rw[<- e];exact he,Nat.le_refl _,fun _=>rfl⟩
   ·rw[show(⟨o2,us2⟩:Hp).o id= .no from e]at he;cases he
 refine⟨⟨fun id=> ?_,fun id hn=> ?_,fun i j b hi hj=>hH.apart i j b (hl i hi) (hl j hj),fun b hb=>hH.ours b (VP b hb),hH.Ak⟩,ht⟩
 ·rcases ho id with e|e
  ·exact(hH.ok id).mono ht e rfl fun _ _ _=>rfl
  ·unfold aO;rw[show(⟨o2,us2⟩:Hp).o id= .no from e];trivial
 ·rcases ho id with e|e
  ·exact e.trans (hH.fresh id fun h=>hn (hu id h))
  ·exact e
def u5(ds:List Nat)(wl:List Nat)(N:Nat)(s:S):S:=
 ⟨fun t=>if ds.contains t=true then .aa else s.env t,fun id=>if wl.contains id=true then .no else s.o id,s.nx+N⟩
theorem JY(hs:tK M cA H0 w0 n cx φ s us a w)(tS:∀id,id<s.nx->us id){N:Nat}(dY:∀id,us id->id<s.nx+N){o:Oper}{op:Op}(fP:o.op=op){v:V}{ws rd:List Nat}(h:Bu P s op v ws rd)
 {s0:S} {ds wl:List Nat} (eP:∀t,ds.contains t=false->s.env t=s0.env t) (hwl:∀id,wl.contains id=false->s.o id=s0.o id) (M4:∀id∈ws,wl.contains id=true) (pg:s0.nx=s.nx)
 (hQ:∀aE w' val,b7 M cA H0 w0 n cx aE (u5 ds wl N s0) a w'->V.den (ao M aE (u5 ds wl N s0).H) aE (u5 ds wl N s0).H w' v val->Q (.panic [{v:=val,recovered:=false}]) a w'):o.wpIn (dG ro) k P a w next Q:=by
 obtain⟨c,f,g,first,cap,hc,eN,wI,h⟩:=h
 refine kn (fun c' Ap=>by rw[fP,hc]at Ap;cases Ap) ?_
 obtain⟨vals,bf,eU⟩:=xT (P:=P) hs fP hc eN wI
 generalize first++c.args.toList.map s.ev++cap=all at h bf
 have fin:∀ (aE:Place) (w':World) (o':Nat->ad) (val:Value),(∀id,wl.contains id=false->o' id=s.o id)->ax M aE ⟨o',us⟩ w'->Trans φ ⟨s.o,us⟩ w aE ⟨o',us⟩ w'->V.den (ao M aE ⟨o',us⟩) aE ⟨o',us⟩ w' v val->Q (.panic [{v:=val,recovered:=false}]) a w':=by
  intro aE w' o' val xe k1 k2 k3
  obtain⟨m1,m2⟩:=Hq (o2:=(u5 ds wl N s0).o) (us2:=fun id=>id<s0.nx+N) k1 (fun id=>by
   show(if wl.contains id=true then ad.no else s0.o id)=o' id\/_
   by_cases hw:wl.contains id=true
   ·right;simp only[u5];rw[if_pos hw]
   ·left;rw[if_neg hw,xe id (by simpa using hw),hwl id (by simpa using hw)]) (fun id h=>by rw[pg];exact dY id h)
  have ht:=hs.tr.trans (k2.trans m2)
  refine hQ aE w' val ⟨m1,ht,hs.size,hs.defers.mono (k2.trans m2),fun i=> ?_⟩ (V.aS m2 _ _ k3)
  show V.den _ _ _ _ (if ds.contains i=true then V.aa else s0.env i) _
  by_cases hd:ds.contains i=true
  ·rw[if_pos hd];trivial
  ·rw[if_neg hd, <- eP i (by simpa using hd)];exact V.aS (k2.trans m2) _ _ (hs.env i)
 rcases h with⟨dd,x,adr,hP,mJ,rfl,_,rfl⟩|⟨x,Δ,hH,rfl,rfl,mG⟩
 ·obtain⟨f1,f2,f3,f4,f5⟩:=cQ hs.heap (V.br all) (cS all _ bf)
  have xz:=df f1 all dd _ f3 adr (V.aT f2 _ _ bf)
  have dC:=hP.2 _ w vals (fun b hb=>hb.elim (f1.Ak b) fun hl=>(f1.ours b hl).2) xz
  rw[eU hP.1]
  refine⟨fun hd=>by simp[dG]at hd,cW (dC.mono fun e w' ⟨hk,ho⟩=> ?_)⟩
  cases e with
  |returned val=>exact ho.elim
  |outgrown=>exact ho.elim
  |panicked ch=>
   obtain⟨k1,k2⟩:=fS hs.heap hk
   have ho:=R.yY (out:= .bF x) (B':=ao M φ ⟨s.o,us⟩) mJ ho
   obtain⟨val,rfl,hd⟩:=ho
   exact fin φ w' s.o val (fun _ _=>rfl) k1 k2 hd
 ·have dC:=hH.2 s.o us M φ w vals (fun id au=>⟨rfl,tS id (mG id au)⟩) hs.heap bf
  rw[eU hH.1]
  refine⟨fun hd=>by simp[dG]at hd,cW (dC.mono fun e w' ⟨aE,k1,k2,ho⟩=> ?_)⟩
  cases e with
  |returned val=>exact ho.elim
  |outgrown=>exact ho.elim
  |panicked ch=>
   obtain⟨val,rfl,hd⟩:=ho
   exact fin aE w' _ val (fun id au=>zl fun y hy e=>by
    have:=M4 y.1 (List.mem_map_of_mem hy)
    rw[e,au]at this;cases this) k1 k2 hd
theorem fq(dW:∀i,V.den (ao M φ ⟨s.o,us⟩) φ ⟨s.o,us⟩ w (s.env i) (a.tmps.getD i undef)){ops:Array Oper}{o:Oper}{gd:Option (Nat×Bool)}{b:Bool}
 (hg:match o.guard with|none=>gd=none|some (j,want)=>∃d,sL ops j=some d/\gd=some (d,want)) (h:dL s gd b):Region.wanted o (yielded ops a.tmps)=b:=by
 unfold Region.wanted
 split at hg
 ·rename_i hn;simp only[hn];subst hg;exact h.symm
 ·rename_i j want hn
  simp only[hn]
  obtain⟨d,hd,rfl⟩:=hg
  unfold sL at hd
  unfold yielded
  simp only[hd,Option.bind_some]
  simp only[dL]at h
  have he:=dW d
  split at h
  ·rename_i c hv
   rw[hv]at he
   simp only[V.den,D.den]at he
   have:a.tmps[d]? =some (.bool c):=by
    rw[Array.getD_eq_getD_getElem?]at he
    cases hx:a.tmps[d]? with
    |none=>rw[hx]at he;simp[undef]at he
    |some x=>rw[hx]at he;simp at he;rw[he]
   simp only[this,h]
   cases c<;>cases want<;>rfl
  ·rename_i hv
   rw[hv]at he
   obtain⟨arr,c7,hn⟩:=he
   have:∀c,a.tmps[d]? ≠some (.bool c):=by
    exact Pt
   subst h
   cases hx:a.tmps[d]? with
   |none=>rfl
   |some x=>cases x<;>first|(exact absurd hx (this _))|rfl
  ·exact h.elim
theorem ft{s s':S}{gd:Option (Nat×Bool)}{b:Bool}(h:∀d want,gd=some (d,want)->s'.env d=s.env d)(hg:dL s gd b):dL s' gd b:=by
 unfold dL at*
 cases gd with
 |none=>exact hg
 |some p=>obtain⟨d,want⟩:=p;simp only at hg|-;rw[h d want rfl];exact hg
theorem Bv{s s':S}{x:Operand}(h:∀t,x= .tmp t->s'.env t=s.env t):s'.ev x=s.ev x:=by
 cases x<;>simp only[S.ev]
 exact h _ rfl
theorem u6{s s':S}{op:Op}{c:Call}{f:Operand}{g:FuncId}{first cap:List V}(hv:∀x∈op.operands,s'.ev x=s.ev x)(hc:op= .call c)(eN:c.callee= .value f)(wI:s.ev f= .func (.func g) first cap):
 s'.ev f= .func (.func g) first cap/\c.args.toList.map s'.ev=c.args.toList.map s.ev:=by
 subst hc
 exact⟨(hv f (by simp only[Op.operands,Call.operands,eN];exact Array.mem_append.2 (.inl aF))).trans wI,
  List.map_congr_left fun x hx=>hv x XE⟩
theorem Aq.frame {g:FuncId}{args:List V}{rd:List Nat}{o o':Nat->ad}{out:R}{Δ:List (Nat×ad)}(ho:∀id∈rd,o' id=o id)(h:Aq P g args rd o out Δ):Aq P g args rd o' out Δ:=
 ⟨h.1,fun o2 us M φ w vals h1 h2 h3=>h.2 o2 us M φ w vals (fun id au=>⟨(h1 id au).1.trans (ho id au),(h1 id au).2⟩) h2 h3⟩
theorem DK.frame {g:FuncId}{args:List V}{rd:List Nat}{o o':Nat->ad}{fr:Nat}{v:V}{Δ:List (Nat×ad)}(ho:∀id∈rd,o' id=o id)(h:DK P g args rd o fr v Δ):DK P g args rd o' fr v Δ:=
 ⟨h.1,fun o2 us M φ w vals h1 h2 h3=>h.2 o2 us M φ w vals (fun id au=>⟨(h1 id au).1.trans (ho id au),(h1 id au).2⟩) h2 h3⟩
theorem AG{s s':S}{fr:Nat}{op:Op}{v:V}{Δ:List (Nat×ad)}{rd:List Nat}(hv:∀x∈op.operands,s'.ev x=s.ev x)(ho:∀id∈rd,s'.o id=s.o id)(tS:s'.nx=s.nx)(h:xR P s fr op v Δ rd):∃yE,xR P s' fr op v Δ yE:=by
 rcases h with⟨⟨yE,h⟩,mG⟩|⟨c,f,g,first,cap,rfl,eN,wI,h⟩
 ·exact⟨_, .inl ⟨⟨yE,by rw[DI op hv (by rw[<- mG];exact ho)];exact h⟩,rfl⟩⟩
 ·obtain⟨hf,hm⟩:=u6 hv rfl eN wI
  rcases h with⟨ds,rs,eP,hP,pN,mG,VN⟩|⟨rs,hH,pN,mG⟩|⟨ds,eP,hP,mG,VN⟩|⟨hH,mG⟩
  ·have hr:∀id∈V.aQ (first++c.args.toList.map s.ev++cap),s'.o id=s.o id:=fun id au=>ho id I3
   refine⟨_, .inr ⟨c,f,g,first,cap,rfl,eN,hf, .inl ⟨ds,rs,by rw[hm,gY _ hr];exact eP,hP,pN,rfl, ?_⟩⟩⟩
   exact Pg
  ·exact⟨rd, .inr ⟨c,f,g,first,cap,rfl,eN,hf, .inr (.inl ⟨rs,by rw[hm];exact hH.frame ho,pN,by rw[tS];exact mG⟩)⟩⟩
  ·have hr:∀id∈V.aQ (first++c.args.toList.map s.ev++cap),s'.o id=s.o id:=fun id au=>ho id I3
   refine⟨_, .inr ⟨c,f,g,first,cap,rfl,eN,hf, .inr (.inr (.inl ⟨ds,by rw[hm,gY _ hr];exact eP,hP,rfl, ?_⟩))⟩⟩
   exact Pg
  ·exact⟨rd, .inr ⟨c,f,g,first,cap,rfl,eN,hf, .inr (.inr (.inr ⟨by rw[hm];exact hH.frame ho,by rw[tS];exact mG⟩))⟩⟩
theorem Bw{s s':S}{op:Op}{v:V}{ws rd:List Nat}(hv:∀x∈op.operands,s'.ev x=s.ev x)(ho:∀id∈rd,s'.o id=s.o id)(tS:s'.nx=s.nx)(h:Bu P s op v ws rd):Bu P s' op v ws rd:=by
 obtain⟨c,f,g,first,cap,rfl,eN,wI,h⟩:=h
 obtain⟨hf,hm⟩:=u6 hv rfl eN wI
 refine⟨c,f,g,first,cap,rfl,eN,hf, ?_⟩
 rw[hm]
 rcases h with⟨ds,x,eP,hP,mJ,pN,mG,M4⟩|⟨x,Δ,hH,pN,M4,mG⟩
 ·have hr:∀id∈V.aQ (first++c.args.toList.map s.ev++cap),s'.o id=s.o id:=fun id au=>ho id I3
  exact .inl ⟨ds,x,by rw[gY _ hr];exact eP,hP,mJ,pN,by rw[mG];simp only[oE,eN,wI,hf,hm],M4⟩
 ·exact .inr ⟨x,Δ,hH.frame ho,pN,M4,by rw[tS];exact mG⟩
theorem u7{ops:Array Oper}:∀ (l:List Oper) (l':List bP) (i:Nat) (o:Oper),kX n ops l=some l'->l[i]? =some o->Jn n ops o=some (bQ l' i)
 |[],_,_,_,_,h=>by simp at h
 |x::l,l',i,o,h,hi=>by
  simp only[kX]at h
  split at h
  ·rename_i y ys hy hys
   injection h with h;subst h
   cases i with
   |zero=>simp at hi;subst hi;exact hy
   |succ i=>exact u7 l ys i o hys (by simpa using hi)
  ·cases h
theorem xU{ops:Array Oper}{o:Oper}{x:bP}(h:Jn n ops o=some x):x.op=o.op/\x.dst=o.dst/\gA n o.dst/\
 (match o.guard with|none=>x.gd=none|some (j,want)=>∃d,sL ops j=some d/\x.gd=some (d,want)):=by
 unfold Jn at h
 split at h
 ·rename_i hd
  have cO:gA n o.dst:=by
   unfold Df at hd;unfold gA
   split at hd<;>simp_all
  cases hg:o.guard with
  |none=>simp only[hg]at h;injection h with h;subst h;exact⟨rfl,rfl,cO,rfl⟩
  |some p=>
   obtain⟨j,want⟩:=p
   simp only[hg]at h
   cases PU:sL ops j with
   |none=>simp[PU]at h
   |some d=>simp only[PU]at h;injection h with h;subst h;exact⟨rfl,rfl,cO,d,PU,rfl⟩
 ·cases h
theorem pn{ops:Array Oper}{aq:Array Bool}(sR:∀k,k<ops.size->∀j∈bB ops k,j<k)(hs:aq.size=ops.size)(hr:Region.ready .any ops aq=[]):∀k,k<ops.size->aq.getD k false=true:=by
 intro k
 induction k using Nat.strongRecOn with
 |_ k ih=>
  intro hk
  cases hl:aq.getD k false with
  |true=>rfl
  |false=>
   have:k∈Region.ready .any ops aq:=by
    refine mem_ready.2 ⟨?_,ops[k],by simp[hk],fun e he hb=> ?_⟩
    ·simp only[Array.getD_eq_getD_getElem?]at hl|-
     rw[Array.getElem?_eq_getElem (by omega)]at hl|-
     simpa using hl
    ·have hm:e.on∈bB ops k:=by
      simp only[bB,Array.getElem?_eq_getElem hk,List.mem_map,List.mem_filter]
      exact⟨e,⟨Array.mem_toList_iff.2 he,hb⟩,rfl⟩
     exact ih _ (sR k hk _ hm) (by have:=sR k hk _ hm;omega)
   rw[hr]at this;cases this
theorem Bx(hs:b7 M cA H0 w0 n cx φ s a w):b7 M cA H0 w0 n cx φ s a {w with drawn:=w.drawn+1}:=by
 obtain⟨k1,k2⟩:=fS (w':={w with drawn:=w.drawn+1}) hs.heap ⟨rfl,rfl,rfl,Nat.le_refl _,fun _ _ _=>rfl⟩
 exact⟨k1,hs.tr.trans k2,hs.size,hs.defers.mono k2,fun i=>V.aS k2 _ _ (hs.env i)⟩
theorem kD{oc:Nat->bP}{ac:Nat->eV}{E:Nat->Bool}:∀k,(eo oc ac E s k).nx=s.nx
 |0=>rfl
 |k+1=>by
  simp only[eo]
  split
  ·cases ac k<;>exact kD k
  ·exact kD k
theorem FA{oc:Nat->bP}{ac:Nat->eV}{E:Nat->Bool}{t:Nat}:∀k,(∀j,j<k->(oc j).dst≠some t)->(eo oc ac E s k).env t=s.env t
 |0,_=>rfl
 |k+1,h=>by
  have ih:=FA (oc:=oc) (ac:=ac) (E:=E) (t:=t) k fun j hj=>h j af
  simp only[eo]
  split
  ·rw[kJ fun d hd e=>h k (by omega) (by rw[hd,e])];exact ih
  ·exact ih
theorem PW{oc:Nat->bP}{ac:Nat->eV}{E:Nat->Bool}{id:Nat}:∀k,(∀j,j<k->id∉kI (ac j))->(eo oc ac E s k).o id=s.o id
 |0,_=>rfl
 |k+1,h=>by
  have ih:=PW (oc:=oc) (ac:=ac) (E:=E) (id:=id) k fun j hj=>h j af
  simp only[eo]
  split
  ·rw[nh (h k (by omega))];exact ih
  ·exact ih
theorem Bz(bn:P.follows .mixedOrders=true){ops:Array Oper}{l:List bP}{id:Nat}(rN:kX n ops ops.toList=some l)(sR:∀k,k<ops.size->∀j∈bB ops k,j<k){ac:Nat->eV}{dl wl:List Nat}
 (hs:b7 M cA H0 w0 n cx φ s a w) (SM:∀i,i<ops.size->PV P (eo (bQ l) ac (fun _=>true) s i) (s.nx+i) (bQ l i) (ac i))
 (Hr:∀i,i<ops.size->ac i= .dT->∃j∈bB ops i,(ac j).ok=false)
 {po:Nat->Nat->Prop} (FB:∀E:Nat->Bool,(∀k,k<ops.size->E k=true->∀j∈bB ops k,E j=true)->∀k,k<ops.size->(∀j∈bB ops k,E j=true)->∀j,po k j->E j=true) (BA:∀k,k<ops.size->∀j,po k j->j<k)
 (hc:∀i j,i<j->j<ops.size-> ¬po j i->Compat (bQ l) ac (fun i=>wT (ac i)) i j)
 (hdl:∀i,i<ops.size->∀t,(bQ l i).dst=some t->dl.contains t=true) (hwl:∀i,i<ops.size->∀id∈kI (ac i),wl.contains id=true)
 (M4:∀i v ws rd,i<ops.size->ac i= .bF v ws rd->∀id∈ws,wl.contains id=true)
 (hQ:(∀i,i<ops.size->(ac i).ok=true)->∀φ a w,b7 M cA H0 w0 n cx φ ⟨(eo (bQ l) ac (fun _=>true) s ops.size).env,(eo (bQ l) ac (fun _=>true) s ops.size).o,s.nx+ops.size⟩ a w->Q .normal a w)
 (hX:∀i v ws rd,i<ops.size->ac i= .bF v ws rd->∀φ a w val,b7 M cA H0 w0 n cx φ (u5 dl wl ops.size s) a w->V.den (ao M φ (u5 dl wl ops.size s).H) φ (u5 dl wl ops.size s).H w v val->Q (.panic [{v:=val,recovered:=false}]) a w):
 (Code.region id ops true).wpIn (dG ro) k P Q a w:=by
 refine wpIn_region_any bn ?_
 have hs:=Bx hs
 generalize ({w with drawn:=w.drawn+1}:World)=w at hs
 let N:=ops.size
 let Ef (aq:Array Bool) (k:Nat):Bool:=aq.getD k false
 let E4 (aq:Array Bool) (j:Nat):Prop:=j<s.nx\/∃k,k<N/\Ef aq k=true/\j=s.nx+k
 have key:∀ (fuel:Nat) (aq:Array Bool) (φ:Place) (a:Act) (w:World),aq.size=N->aq.count true+fuel=N->(∀k,k<N->Ef aq k=true->∀j∈bB ops k,Ef aq j=true)->(∀k,k<N->Ef aq k=true->(ac k).ok=true)->
  tK M cA H0 w0 n cx φ (eo (bQ l) ac (Ef aq) s N) (E4 aq) a w->wpAnyIn (dG ro) k P .any ops Q fuel aq a w:=by
  have fin:∀ (aq:Array Bool) (φ:Place) (a:Act) (w:World),(∀k,k<N->Ef aq k=true)->(∀k,k<N->Ef aq k=true->(ac k).ok=true)->tK M cA H0 w0 n cx φ (eo (bQ l) ac (Ef aq) s N) (E4 aq) a w->Q .normal a w:=by
   intro aq φ a w bf DP hu
   have e:∀k,k<=N->eo (bQ l) ac (Ef aq) s k=eo (bQ l) ac (fun _=>true) s k:=by
    intro k
    induction k with
    |zero=>intro _;rfl
    |succ k ih=>intro hk;simp only[eo,bf k (by omega),ih (by omega)]
   rw[e N (Nat.le_refl _)]at hu
   obtain⟨k1,k2⟩:=j6 (us':=fun id=>id<s.nx+N) hu.heap (fun id h=>by
    show id<s.nx+N
    rcases h with h|⟨k,hk,_,rfl⟩<;>omega)
   exact hQ (fun i hi=>DP i hi (bf i hi)) φ a w ⟨k1,hu.tr.trans k2,hu.size,hu.defers.mono k2,fun i=>V.aS k2 _ _ (hu.env i)⟩
  intro fuel
  induction fuel with
  |zero=>
   intro aq φ a w dK Hs re DP hu
   have bf:∀k,k<N->Ef aq k=true:=by
    intro k hk
    have h1:aq.count true=aq.size:=af
    rw[Array.count_eq_size]at h1
    have:=h1 aq[k] (Array.getElem_mem af)
    simp only[Ef,Array.getD_eq_getD_getElem?]
    rw[Array.getElem?_eq_getElem (by omega)]
    simpa using this.symm
   refine⟨?_,fin aq φ a w bf DP hu⟩
   rw[List.eq_nil_iff_forall_not_mem]
   intro k hk
   obtain⟨h1,o,h2,_⟩:=mem_ready.1 hk
   have hkN:k<N:=(Array.getElem?_eq_some_iff.1 h2).1
   have:=bf k hkN
   simp only[Ef,Array.getD_eq_getD_getElem?]at this h1
   rw[Array.getElem?_eq_getElem (by omega)]at this h1
   simp only[Option.getD_some]at this h1
   rw[this]at h1;cases h1
  |succ fuel ih=>
   intro aq φ a w dK Hs re DP hu
   refine⟨fun hr=>fin aq φ a w (pn sR dK hr) DP hu,fun i hi=> ?_⟩
   obtain⟨h1,o,h2,h3⟩:=mem_ready.1 hi
   have tL:i<N:=(Array.getElem?_eq_some_iff.1 h2).1
   have lI:Ef aq i=false:=by
    simp only[Ef,Array.getD_eq_getD_getElem?]at h1|-
    rw[Array.getElem?_eq_getElem (by omega)]at h1|-
    simpa using h1
   have JX:∀j∈bB ops i,Ef aq j=true:=by
    exact Sg
   have JZ:zq N po (Ef aq):=fun k hk iX=>FB _ re k hk (re k hk iX)
   obtain⟨Y9,ag2⟩:=agree (s:=s) BA hc JZ tL lI (FB _ re i tL JX)
   obtain⟨g1,g2,g3,g4⟩:=xU (u7 _ _ i o rN xi)
   have c8: ¬E4 aq (s.nx+i):=by
    rintro(h|⟨k,_,hk,he⟩)
    ·omega
    ·have:k=i:=af
     subst this;rw[lI]at hk;cases hk
   have DO:∀k,Ef (aq.setIfInBounds i true) k=(Ef aq k||k==i):=by
    intro k
    simp only[Ef,Array.getD_eq_getD_getElem?]
    by_cases e:k=i
    ·subst e;simp[dK,tL]
    ·rw[Array.getElem?_setIfInBounds_ne (Ne.symm e)]
     have:(k==i)=false:=by simpa using e
     simp[this]
   have SN:=insert (s:=s) hc JZ tL lI DO
   have SO:∀k,k<N->Ef (aq.setIfInBounds i true) k=true->∀j∈bB ops k,Ef (aq.setIfInBounds i true) j=true:=by
    intro k hk iX j hj
    rw[DO]at iX|-
    by_cases e:k=i
    ·subst e;simp[JX j hj]
    ·have:(k==i)=false:=by simpa using e
     rw[this,Bool.or_false]at iX
     simp[re k hk iX j hj]
   have J0:(aq.setIfInBounds i true).count true+fuel=N:=by
    have b8:i<aq.size:=af
    have e1:aq.setIfInBounds i true=aq.set i true b8:=by simp[Array.setIfInBounds,b8]
    have e2:aq[i]=false:=by
     have:=lI
     simp only[Ef,Array.getD_eq_getD_getElem?]at this
     rw[Array.getElem?_eq_getElem b8]at this
     simpa using this
    rw[e1,Array.count_set b8,e2]
    simp
    omega
   have iW:(ac i).ok=true->∀aE a' w',tK M cA H0 w0 n cx aE (wB o.dst (ac i) (eo (bQ l) ac (Ef aq) s N)) (fun id=>E4 aq id\/id=s.nx+i) a' w'->wpAnyIn (dG ro) k P .any ops Q fuel (aq.setIfInBounds i true) a' w':=by
    intro Za aE a' w' Ay
    refine ih _ aE a' w' (by simp[dK]) J0 SO (fun k hk iX=> ?_) ?_
    ·rw[DO]at iX
     by_cases e:k=i
     ·subst e;exact Za
     ·have:(k==i)=false:=by simpa using e
      rw[this,Bool.or_false]at iX
      exact DP k hk iX
    rw[SN,g2]
    obtain⟨k1,k2⟩:=j6 (us':=E4 (aq.setIfInBounds i true)) Ay.heap (fun id h=>by
     rcases h with(h|⟨k,hk,iX,rfl⟩)|rfl
     ·exact .inl h
     ·exact .inr ⟨k,hk,by rw[DO,iX];rfl,rfl⟩
     ·exact .inr ⟨i,tL,by rw[DO];simp,rfl⟩)
    exact XI
   have Ht:∀d want,(bQ l i).gd=some (d,want)->(eo (bQ l) ac (Ef aq) s N).env d=(eo (bQ l) ac (fun _=>true) s i).env d:=fun d want hd=>Y9 d (by simp[eQ,tmpsOf,hd])
   have aW:=SM i tL
   have Jk:∀x∈(bQ l i).op.operands,(eo (bQ l) ac (Ef aq) s N).ev x=(eo (bQ l) ac (fun _=>true) s i).ev x:=fun x hx=>Bv fun t ht=>Y9 t (by
    subst ht
    simp only[eQ,tmpsOf,List.mem_append,List.mem_filterMap]
    exact .inl (.inl ⟨.tmp t,Array.mem_toList_iff.2 hx,rfl⟩))
   have Ss:(eo (bQ l) ac (Ef aq) s N).nx=(eo (bQ l) ac (fun _=>true) s i).nx:=(kD N).trans (kD i).symm
   unfold wpOpIn
   simp only[h2]
   cases wy:ac i with
   |skip=>
    rw[wy]at aW iW
    have hw:=fq hu.env g4 (ft Ht aW)
    simp only[hw,Bool.false_eq_true,if_false]
    refine⟨fun _ _=>trivial,iW rfl φ _ w ?_⟩
    have:=jq (v:= .bT []) (val:=undef) hu hu.heap (Trans.refl _ _ _) ⟨#[],rfl,rfl⟩ (dst:=o.dst) g3 rfl (us':=fun id=>E4 aq id\/id=s.nx+i) (fun id h=> .inl h)
    exact this
   |val v Δ rd=>
    rw[wy]at aW iW
    have hw:=fq hu.env g4 (ft Ht aW.1)
    exact Yn
   |bF v ws rd=>
    rw[wy]at aW
    have hw:=fq hu.env g4 (ft Ht aW.1)
    simp only[hw,if_true]
    have jS:=Bw Jk (fun id au=>ag2 id (by rw[wy];exact au)) Ss aW.2
    refine JY (s0:=s) (ds:=dl) (wl:=wl) (N:=N) hu (fun id h=> .inl (by rw[kD]at h;exact h)) (fun id h=> ?_) g1.symm jS (fun t ht=> ?_) (fun id au=> ?_) (M4 i v ws rd tL wy) (kD N).symm (fun aE w' val h1 h2=>hX i v ws rd tL wy aE a w' val h1 h2)
    ·rw[kD]
     rcases h with h|⟨k,hk,_,rfl⟩<;>omega
    ·refine FA N fun j hj e=> ?_
     have:=hdl j hj t e
     rw[ht]at this;cases this
    ·refine PW N fun j hj hm=> ?_
     have:=hwl j hj id hm
     rw[au]at this;cases this
   |dT=>
    exfalso
    obtain⟨j,hj,SP⟩:=Hr i tL wy
    have:=DP j (Nat.lt_trans (sR i tL j hj) tL) (JX j hj)
    rw[SP]at this;cases this
 refine key ops.size _ φ a w (by simp[N]) (by simp[N,Array.count_replicate]) (fun k hk iX=> ?_) (fun k hk iX=> ?_) ?_
 ·exact zw6
 ·exact zw6
 ·have e:∀k,eo (bQ l) ac (Ef (Array.replicate ops.size false)) s k=s:=by
   intro k
   induction k with
   |zero=>rfl
   |succ k ih=>
    have:Ef (Array.replicate ops.size false) k=false:=by
     exact Pc
    simp only[eo,this,ih]
    rfl
  exact Yv
end
end
section
section
variable {P:Program}{M:Nat->Prop}{φ cA:Place}{H0:Hp}{w w' w0:World}{n:Nat}{s:S}{us:Nat->Prop}{a:Act}{cx:Cx}{ro:Option Nat}{k:Nat}
variable {Q:Exit->Act->World->Prop}
theorem Hu{ops:Array Oper}{po:Nat->Nat->Prop}{m:Nat}{X:V->S->Prop}{K:S->Prop}
 (sR:∀k,k<ops.size->∀j∈bB ops k,j<k)
 (FB:∀E:Nat->Bool,(∀k,k<ops.size->E k=true->∀j∈bB ops k,E j=true)->∀k,k<ops.size->(∀j∈bB ops k,E j=true)->∀j,po k j->E j=true)
 (FC:∀k,m<=k->k<ops.size->∀j,j<k->po k j)
 (hK:∀s φ a w,K s->b7 M cA H0 w0 n cx φ s a w->Q .normal a w)
 (hX:∀v s' aE a' w' val,X v s'->b7 M cA H0 w0 n cx aE s' a' w'->V.den (ao M aE s'.H) aE s'.H w' v val->Q (.panic [{v:=val,recovered:=false}]) a' w'):
 ∀ (d t:Nat) (s:S) (φ:Place) (aq:Array Bool) (a:Act) (w:World),t+d=ops.size->aq.size=ops.size->(∀k,k<ops.size->aq.getD k false=decide (k<t))->m<=t->
   b7 M cA H0 w0 n cx φ s a w->yW P n ops X K (ops.toList.drop t) s->wpAnyIn (dG ro) k P .any ops Q d aq a w:=by
 intro d
 induction d with
 |zero=>
  intro t s φ aq a w ht dK hl Iz hs h
  have e:t=ops.size:=af
  subst e
  refine⟨?_, ?_⟩
  ·rw[List.eq_nil_iff_forall_not_mem]
   intro j hj
   obtain⟨h1,o,h2,_⟩:=mem_ready.1 hj
   have hjN:j<ops.size:=(Array.getElem?_eq_some_iff.1 h2).1
   have:=hl j hjN
   simp only[Array.getD_eq_getD_getElem?]at this h1
   rw[Array.getElem?_eq_getElem (by omega)]at this h1
   simp only[Option.getD_some]at this h1
   rw[h1]at this
   simp[hjN]at this
  ·rw[List.drop_eq_nil_of_le (by simp)]at h
   exact hK s φ a w h hs
 |succ d ih=>
  intro t s φ aq a w ht dK hl Iz hs h
  have htN:t<ops.size:=af
  refine⟨fun hr=> ?_,fun i hi=> ?_⟩
  ·have:=pn sR dK hr t htN
   rw[hl t htN]at this
   simp at this
  ·obtain⟨h1,o,h2,h3⟩:=mem_ready.1 hi
   have tL:i<ops.size:=(Array.getElem?_eq_some_iff.1 h2).1
   have lI:aq.getD i false=false:=by
    simp only[Array.getD_eq_getD_getElem?]at h1|-
    rw[Array.getElem?_eq_getElem (by omega)]at h1|-
    simpa using h1
   have hit:t<=i:=by
    have:=hl i tL
    rw[lI]at this
    have:=of_decide_eq_false this.symm
    omega
   have JX:∀j∈bB ops i,aq.getD j false=true:=by
    exact Sg
   have re:∀k,k<ops.size->aq.getD k false=true->∀j∈bB ops k,aq.getD j false=true:=by
    intro k hk iX j hj
    have Pv:=sR k hk j hj
    rw[hl k hk]at iX
    rw[hl j (by omega)]
    have:=of_decide_eq_true iX
    exact decide_eq_true af
   have hie:i=t:=by
    rcases Nat.eq_or_lt_of_le hit with e|e
    ·exact e.symm
    ·have:=FB (fun k=>aq.getD k false) re i tL JX t (FC i af tL t e)
     rw[hl t htN]at this
     simp at this
   subst hie
   have BB:ops.toList.drop i=o::ops.toList.drop (i+1):=by
    have SF:i<ops.toList.length:=by simpa using tL
    rw[List.drop_eq_getElem_cons SF]
    have:ops.toList[i]=o:=by
     have:=(Array.getElem?_eq_some_iff.1 h2).2
     simpa using this
    rw[this]
   rw[BB]at h
   obtain⟨g1,g2⟩:=qm hs h
   have IA:∀k,k<ops.size->(aq.setIfInBounds i true).getD k false=decide (k<i+1):=by
    intro k hk
    simp only[Array.getD_eq_getD_getElem?]
    by_cases e:k=i
    ·subst e;simp[dK,tL]
    ·rw[Array.getElem?_setIfInBounds_ne (Ne.symm e)]
     have:=hl k hk
     simp only[Array.getD_eq_getD_getElem?]at this
     rw[this]
     exact decide_eq_decide.2 af
   have iW:∀s' aE a' w',yW P n ops X K (ops.toList.drop (i+1)) s'->b7 M cA H0 w0 n cx aE s' a' w'->wpAnyIn (dG ro) k P .any ops Q d (aq.setIfInBounds i true) a' w':=
    fun s' aE a' w' hk jT=>ih (i+1) s' aE _ a' w' af (by simp[dK]) IA af jT hk
   unfold wpOpIn
   simp only[h2]
   split
   ·rename_i hw
    exact xL hs (g1 hw) (fun s' aE a' w' hk jT=>iW s' aE a' w' hk jT) (fun v s' aE w' val hx jT hd=>hX v s' aE a w' val hx jT hd)
   ·rename_i hw
    obtain⟨cO,h3⟩:=g2 (by simpa using hw)
    exact⟨fun _ _=>trivial,iW _ _ _ _ h3 (Bi hs cO)⟩
theorem DS(bn:P.follows .mixedOrders=true){ops:Array Oper}{l:List bP}{id:Nat}(rN:kX n ops ops.toList=some l)(sR:∀k,k<ops.size->∀j∈bB ops k,j<k){ac:Nat->eV}{m:Nat}(hm:m<=ops.size){X:V->S->Prop}{K:S->Prop}
 (hs:b7 M cA H0 w0 n cx φ s a w) (SM:∀i,i<m->PV P (eo (bQ l) ac (fun _=>true) s i) (s.nx+i) (bQ l i) (ac i))
 (Zb:∀i,i<m->(ac i).ok=true)
 {po:Nat->Nat->Prop} (FB:∀E:Nat->Bool,(∀k,k<ops.size->E k=true->∀j∈bB ops k,E j=true)->∀k,k<ops.size->(∀j∈bB ops k,E j=true)->∀j,po k j->E j=true) (BA:∀k,k<ops.size->∀j,po k j->j<k)
 (hc:∀i j,i<j->j<m-> ¬po j i->Compat (bQ l) ac (fun i=>wT (ac i)) i j)
 (FC:∀k,m<=k->k<ops.size->∀j,j<k->po k j)
 (ef:yW P n ops X K (ops.toList.drop m) ⟨(eo (bQ l) ac (fun _=>true) s m).env,(eo (bQ l) ac (fun _=>true) s m).o,s.nx+m⟩)
 (hK:∀s φ a w,K s->b7 M cA H0 w0 n cx φ s a w->Q .normal a w)
 (hX:∀v s' aE a' w' val,X v s'->b7 M cA H0 w0 n cx aE s' a' w'->V.den (ao M aE s'.H) aE s'.H w' v val->Q (.panic [{v:=val,recovered:=false}]) a' w'):
 (Code.region id ops true).wpIn (dG ro) k P Q a w:=by
 refine wpIn_region_any bn ?_
 have hs:=Bx hs
 generalize ({w with drawn:=w.drawn+1}:World)=w at hs
 let N:=m
 let Ef (aq:Array Bool) (k:Nat):Bool:=aq.getD k false
 let E4 (aq:Array Bool) (j:Nat):Prop:=j<s.nx\/∃k,k<N/\Ef aq k=true/\j=s.nx+k
 have key:∀ (fuel:Nat) (aq:Array Bool) (φ:Place) (a:Act) (w:World),aq.size=ops.size->aq.count true+fuel=ops.size->(∀k,k<ops.size->Ef aq k=true->∀j∈bB ops k,Ef aq j=true)->(∀k,k<ops.size->Ef aq k=true->k<m)->
  tK M cA H0 w0 n cx φ (eo (bQ l) ac (Ef aq) s N) (E4 aq) a w->wpAnyIn (dG ro) k P .any ops Q fuel aq a w:=by
  have fin:∀ (fuel:Nat) (aq:Array Bool) (φ:Place) (a:Act) (w:World),aq.size=ops.size->aq.count true+fuel=ops.size->(∀k,k<ops.size->Ef aq k=true->k<m)->(∀k,k<N->Ef aq k=true)->tK M cA H0 w0 n cx φ (eo (bQ l) ac (Ef aq) s N) (E4 aq) a w->wpAnyIn (dG ro) k P .any ops Q fuel aq a w:=by
   intro fuel aq φ a w dK Hs b8 bf hu
   have e:∀k,k<=N->eo (bQ l) ac (Ef aq) s k=eo (bQ l) ac (fun _=>true) s k:=by
    intro k
    induction k with
    |zero=>intro _;rfl
    |succ k ih=>intro hk;simp only[eo,bf k (by omega),ih (by omega)]
   rw[e N (Nat.le_refl _)]at hu
   obtain⟨k1,k2⟩:=j6 (us':=fun id=>id<s.nx+N) hu.heap (fun id h=>by
    show id<s.nx+N
    rcases h with h|⟨k,hk,_,rfl⟩<;>omega)
   have hlv:∀k,k<ops.size->aq.getD k false=decide (k<m):=by
    intro k hk
    by_cases h:k<m
    ·rw[decide_eq_true h];exact bf k h
    ·rw[decide_eq_false h]
     cases hb:aq.getD k false with
     |false=>rfl
     |true=>exact absurd (b8 k hk hb) h
   have hcm:aq.count true=m:=by
    have e1:aq=Array.ofFn (n:=ops.size) fun k=>decide (k.1<m):=by
     apply Array.ext
     ·simp[dK]
     ·intro k h1 h2
      have:=hlv k af
      simp only[Array.getD_eq_getD_getElem?]at this
      rw[Array.getElem?_eq_getElem h1]at this
      simpa using this
    have e2:aq.toList=List.replicate m true++List.replicate (ops.size - m) false:=by
     apply List.ext_getElem?
     intro k
     by_cases hk:k<ops.size
     ·have h1:aq.toList[k]? =some (decide (k<m)):=by
       have:=hlv k hk
       simp only[Array.getD_eq_getD_getElem?]at this
       rw[Array.getElem?_eq_getElem (by omega)]at this
       simp only[Option.getD_some]at this
       rw[Array.getElem?_toList,Array.getElem?_eq_getElem (by omega),this]
      rw[h1]
      by_cases h:k<m
      ·rw[List.getElem?_append_left (by simpa using h)]
       simp[h]
      ·rw[List.getElem?_append_right (by simpa using(by omega:m<=k))]
       rw[List.length_replicate,List.getElem?_replicate,if_pos (by omega),decide_eq_false h]
     ·rw[List.getElem?_eq_none (by simp[dK];omega),List.getElem?_eq_none (by simp;omega)]
    rw[<- Array.count_toList,e2,List.count_append,List.count_replicate_self,List.count_replicate]
    simp
   exact Hu sR FB FC hK hX fuel m ⟨(eo (bQ l) ac (fun _=>true) s m).env,(eo (bQ l) ac (fun _=>true) s m).o,s.nx+m⟩ φ aq a w af dK hlv (Nat.le_refl _) ⟨k1,hu.tr.trans k2,hu.size,hu.defers.mono k2,fun i=>V.aS k2 _ _ (hu.env i)⟩ ef
  intro fuel
  induction fuel with
  |zero=>
   intro aq φ a w dK Hs re b8 hu
   have bf:∀k,k<ops.size->Ef aq k=true:=by
    intro k hk
    have h1:aq.count true=aq.size:=af
    rw[Array.count_eq_size]at h1
    have:=h1 aq[k] (Array.getElem_mem af)
    simp only[Ef,Array.getD_eq_getD_getElem?]
    rw[Array.getElem?_eq_getElem (by omega)]
    simpa using this.symm
   exact fin 0 aq φ a w dK Hs b8 (fun k hk=>bf k af) hu
  |succ fuel ih=>
   intro aq φ a w dK Hs re b8 hu
   by_cases PX:∀k,k<m->Ef aq k=true
   ·exact fin (fuel+1) aq φ a w dK Hs b8 PX hu
   have hex:∃j,j<m/\Ef aq j=false:=by
    apply Classical.byContradiction
    intro pL
    refine PX fun k hk=> ?_
    cases hb:Ef aq k with
    |true=>rfl
    |false=>exact absurd ⟨k,hk,hb⟩ pL
   obtain⟨j0,hj0,Zc⟩:=hex
   refine⟨fun hr=> ?_,fun i hi=> ?_⟩
   ·have:=pn sR dK hr j0 af
    rw[show aq.getD j0 false=false from Zc]at this
    cases this
   obtain⟨h1,o,h2,h3⟩:=mem_ready.1 hi
   have hiS:i<ops.size:=(Array.getElem?_eq_some_iff.1 h2).1
   have lI:Ef aq i=false:=by
    simp only[Ef,Array.getD_eq_getD_getElem?]at h1|-
    rw[Array.getElem?_eq_getElem (by omega)]at h1|-
    simpa using h1
   have JX:∀j∈bB ops i,Ef aq j=true:=by
    exact Sg
   have tL:i<N:=by
    apply Classical.byContradiction
    intro Am
    have Am:m<=i:=Nat.le_of_not_lt Am
    have:=FB _ re i hiS JX j0 (FC i Am hiS j0 af)
    rw[Zc]at this;cases this
   have JZ:zq N po (Ef aq):=fun k hk iX=>FB _ re k af (re k af iX)
   obtain⟨Y9,ag2⟩:=agree (s:=s) (n:=N) (fun k hk=>BA k af) hc JZ tL lI (FB _ re i af JX)
   obtain⟨g1,g2,g3,g4⟩:=xU (u7 _ _ i o rN xi)
   have c8: ¬E4 aq (s.nx+i):=by
    rintro(h|⟨k,_,hk,he⟩)
    ·omega
    ·have:k=i:=af
     subst this;rw[lI]at hk;cases hk
   have DO:∀k,Ef (aq.setIfInBounds i true) k=(Ef aq k||k==i):=by
    intro k
    simp only[Ef,Array.getD_eq_getD_getElem?]
    by_cases e:k=i
    ·subst e;simp[dK,hiS]
    ·rw[Array.getElem?_setIfInBounds_ne (Ne.symm e)]
     have:(k==i)=false:=by simpa using e
     simp[this]
   have SN:=insert (s:=s) hc JZ tL lI DO
   have SO:∀k,k<ops.size->Ef (aq.setIfInBounds i true) k=true->∀j∈bB ops k,Ef (aq.setIfInBounds i true) j=true:=by
    intro k hk iX j hj
    rw[DO]at iX|-
    by_cases e:k=i
    ·subst e;simp[JX j hj]
    ·have:(k==i)=false:=by simpa using e
     rw[this,Bool.or_false]at iX
     simp[re k hk iX j hj]
   have J0:(aq.setIfInBounds i true).count true+fuel=ops.size:=by
    have b8:i<aq.size:=af
    have e1:aq.setIfInBounds i true=aq.set i true b8:=by simp[Array.setIfInBounds,b8]
    have e2:aq[i]=false:=by
     have:=lI
     simp only[Ef,Array.getD_eq_getD_getElem?]at this
     rw[Array.getElem?_eq_getElem b8]at this
     simpa using this
    rw[e1,Array.count_set b8,e2]
    simp
    omega
   have iW:(ac i).ok=true->∀aE a' w',tK M cA H0 w0 n cx aE (wB o.dst (ac i) (eo (bQ l) ac (Ef aq) s N)) (fun id=>E4 aq id\/id=s.nx+i) a' w'->wpAnyIn (dG ro) k P .any ops Q fuel (aq.setIfInBounds i true) a' w':=by
    intro Za aE a' w' Ay
    refine ih _ aE a' w' (by simp[dK]) J0 SO (fun k hk iX=> ?_) ?_
    ·rw[DO]at iX
     by_cases e:k=i
     ·subst e;exact tL
     ·have:(k==i)=false:=by simpa using e
      rw[this,Bool.or_false]at iX
      exact b8 k hk iX
    rw[SN,g2]
    obtain⟨k1,k2⟩:=j6 (us':=E4 (aq.setIfInBounds i true)) Ay.heap (fun id h=>by
     rcases h with(h|⟨k,hk,iX,rfl⟩)|rfl
     ·exact .inl h
     ·exact .inr ⟨k,hk,by rw[DO,iX];rfl,rfl⟩
     ·exact .inr ⟨i,tL,by rw[DO];simp,rfl⟩)
    exact XI
   have Ht:∀d want,(bQ l i).gd=some (d,want)->(eo (bQ l) ac (Ef aq) s N).env d=(eo (bQ l) ac (fun _=>true) s i).env d:=fun d want hd=>Y9 d (by simp[eQ,tmpsOf,hd])
   have aW:=SM i tL
   have Jk:∀x∈(bQ l i).op.operands,(eo (bQ l) ac (Ef aq) s N).ev x=(eo (bQ l) ac (fun _=>true) s i).ev x:=fun x hx=>Bv fun t ht=>Y9 t (by
    subst ht
    simp only[eQ,tmpsOf,List.mem_append,List.mem_filterMap]
    exact .inl (.inl ⟨.tmp t,Array.mem_toList_iff.2 hx,rfl⟩))
   have Ss:(eo (bQ l) ac (Ef aq) s N).nx=(eo (bQ l) ac (fun _=>true) s i).nx:=(kD N).trans (kD i).symm
   unfold wpOpIn
   simp only[h2]
   cases wy:ac i with
   |skip=>
    rw[wy]at aW iW
    have hw:=fq hu.env g4 (ft Ht aW)
    simp only[hw,Bool.false_eq_true,if_false]
    refine⟨fun _ _=>trivial,iW rfl φ _ w ?_⟩
    have:=jq (v:= .bT []) (val:=undef) hu hu.heap (Trans.refl _ _ _) ⟨#[],rfl,rfl⟩ (dst:=o.dst) g3 rfl (us':=fun id=>E4 aq id\/id=s.nx+i) (fun id h=> .inl h)
    exact this
   |val v Δ rd=>
    rw[wy]at aW iW
    have hw:=fq hu.env g4 (ft Ht aW.1)
    exact Yn
   |bF v ws rd=>
    have:=Zb i tL
    rw[wy]at this;cases this
   |dT=>
    have:=Zb i tL
    rw[wy]at this;cases this
 refine key ops.size _ φ a w aF (by simp[Array.count_replicate]) (fun k hk iX=> ?_) (fun k hk iX=> ?_) ?_
 ·exact zw6
 ·exact zw6
 ·have e:∀k,eo (bQ l) ac (Ef (Array.replicate ops.size false)) s k=s:=by
   intro k
   induction k with
   |zero=>rfl
   |succ k ih=>
    have:Ef (Array.replicate ops.size false) k=false:=by
     exact Pc
    simp only[eo,this,ih]
    rfl
  exact Yv
end
end
end Go.Proofs.YtlhemmpklhhgoaaGreat
