/-
  A PART OF THE PROOF. Conditions: none.
-/
import Derived.OrdersIn
import Derived.Test.YtnkamdiiakdkgaaGreatEu7
set_option linter.unusedSimpArgs false
set_option linter.unusedVariables false
namespace Go.Proofs.YtnkamdiiakdkgaaGreat
section
def ab.refs:ab->List Nat
 | .row cs=>V.aL cs
 | .loop _ _ env _ _ _ _ _=>V.aL env
 |_=>[]
def Cw(R:List Nat)(o:Nat->ab):Nat->ab:=fun id=>if R.contains id=true then o id else .no
def DU(P:Program)(g:FuncId)(args:List V)(rd:List Nat)(o:Nat->ab)(out:R)(Δ:List (Nat×ab)):Prop:=
 Enters P g/\∀ (o':Nat->ab) (us:Nat->Prop) (M:Nat->Prop) (φ:Place) (w:World) (vals:Array Value),(∀id∈rd,o' id=o id/\us id)->ay M φ ⟨o',us⟩ w->V.aC (ak M φ ⟨o',us⟩) φ ⟨o',us⟩ w args vals.toList->
  Calls P g vals w fun e w'=>∃aD,ay M aD ⟨put o' Δ,us⟩ w'/\Trans φ ⟨o',us⟩ w aD ⟨put o' Δ,us⟩ w'/\out.is (ak M aD ⟨put o' Δ,us⟩) w' e
def xJ(P:Program)(g:FuncId)(args:List V)(rd:List Nat)(o:Nat->ab)(fr:Nat)(v:V)(Δ:List (Nat×ab)):Prop:=
 Enters P g/\∀ (o':Nat->ab) (us:Nat->Prop) (M:Nat->Prop) (φ:Place) (w:World) (vals:Array Value),(∀id∈rd,o' id=o id/\us id)-> ¬us fr->ay M φ ⟨o',us⟩ w->V.aC (ak M φ ⟨o',us⟩) φ ⟨o',us⟩ w args vals.toList->
  Calls P g vals w fun e w'=>∃aD,ay M aD ⟨put o' Δ,fun id=>us id\/id=fr⟩ w'/\Trans φ ⟨o',us⟩ w aD ⟨put o' Δ,fun id=>us id\/id=fr⟩ w'/\∃val,e= .returned val/\V.den (ak M aD ⟨put o' Δ,fun id=>us id\/id=fr⟩) aD ⟨put o' Δ,fun id=>us id\/id=fr⟩ w' v val
mutual
theorem V.mc {B B':Nat->Prop}{φ aD:Place}{H H':Hp}{w:World}(hB:∀b, ¬B b-> ¬B' b):∀ (v:V) (val:Value),(∀id∈v.refs,H'.o id=H.o id/\aD id=φ id/\H'.us id)->V.den B φ H w v val->V.den B' aD H' w v val
 | .d x,val,_,h=>D.aM (w:=w) (w':=w) (fun b _ hn=>⟨rfl,hB b hn⟩) x val h
 | .bw,_,_,h=>h
 | .aa,_,_,_=>trivial
 | .eN,_,_,h=>h
 | .pR es,val,_,h=>⟨D.aM (w:=w) (w':=w) (fun b _ hn=>⟨rfl,hB b hn⟩) (.sl es) val h.1,h.2⟩
 | .agg cs,val,hr,h=>by
   obtain⟨a,rfl,h1,h2⟩:=h
   exact⟨a,rfl,V.fD hB cs _ vn h1,h2⟩
 | .bS cs,val,hr,h=>by
   obtain⟨a,rfl,h1⟩:=h
   exact⟨a,rfl,V.fD hB cs _ vn h1⟩
 | .ptr id off,val,hr,h=>by
   exact Q6
 | .osl id ep,val,hr,h=>by
   obtain⟨a,b,c⟩:=hr id yV
   obtain⟨h0,h1,h2⟩:=h
   refine⟨h0,c,fun e he=> ?_⟩
   rw[a]at he
   obtain⟨x,y⟩:=h2 e he
   exact⟨x,fun heq=>(y heq).trans b.symm⟩
 | .pe id ep i sz off,val,hr,h=>by
   obtain⟨a,b,c⟩:=hr id yV
   obtain⟨h0,h1,h2⟩:=h
   refine⟨h0,c,fun e he=> ?_⟩
   rw[a]at he
   obtain⟨x,y⟩:=h2 e he
   exact Ob
 | .pp cs off,val,_,h=>by
   obtain⟨a,ev,h1,h2,h3,h5,h4⟩:=h
   exact V3
 | .func fn first cap,val,hr,h=>by
   obtain⟨f,c,rfl,h1,h2⟩:=h
   exact⟨f,c,rfl,V.fD hB first _ (fun id au=>hr id (by simp[V.refs,au])) h1,V.fD hB cap _ (fun id au=>hr id (by simp[V.refs,au])) h2⟩
 | .iface t x,val,hr,h=>by
   obtain⟨u,rfl,h⟩:=h
   exact⟨u,rfl,V.mc hB x u vn h⟩
 | .vw id off n,val,hr,h=>by
   exact Q6
 | .mp id,val,hr,h=>by
   obtain⟨a,b,c⟩:=hr id yV
   obtain⟨h0,h1,h2⟩:=h
   refine⟨h0,c,fun bJ=> ?_⟩
   rw[a]at bJ
   exact(h2 bJ).trans b.symm
 | .iD id,val,hr,h=>by
   exact Q6
theorem V.fD {B B':Nat->Prop}{φ aD:Place}{H H':Hp}{w:World}(hB:∀b, ¬B b-> ¬B' b):∀ (vs:List V) (vals:List Value),(∀id∈V.aL vs,H'.o id=H.o id/\aD id=φ id/\H'.us id)->V.aC B φ H w vs vals->V.aC B' aD H' w vs vals
 |[],_,_,h=>h
 |v::vs,_,hr,h=>by
  obtain⟨u,us,rfl,h1,h2⟩:=h
  exact⟨u,us,rfl,V.mc hB v u (fun id au=>hr id (by simp[V.aL,au])) h1,V.fD hB vs us (fun id au=>hr id (by simp[V.aL,au])) h2⟩
end
theorem FQ{env:List V}{i id:Nat}(h:id∈(ba env i).refs):id∈V.aL env:=by
 unfold ba at h
 induction env generalizing i with
 |nil=>simp[V.refs]at h
 |cons v env ih=>
  cases i with
  |zero=>simp only[List.getD_cons_zero]at h;simp[V.aL,h]
  |succ i=>simp only[List.getD_cons_succ]at h;simp[V.aL,ih h]
theorem aO.refs {M M':Nat->Prop}{φ aD:Place}{H H':Hp}{w:World}{id:Nat}(hB:∀b, ¬ak M φ H b-> ¬ak M' aD H' b)(ho:H'.o id=H.o id)(dN:aD id=φ id)
 (hr:∀j∈(H.o id).refs,H'.o j=H.o j/\aD j=φ j/\H'.us j) (h:aO M φ H w id):aO M' aD H' w id:=by
 have hd:∀b,cP w b-> ¬ak M φ H b->w.heap[b]? =w.heap[b]? /\ ¬ak M' aD H' b:=fun b _ hn=>⟨rfl,hB b hn⟩
 unfold aO at*
 rw[ho]
 cases hx:H.o id with
 |no=>trivial
 |row cs=>
  simp only[hx]at h|-
  obtain⟨b,dC,ty,h1,h2,h3,h4⟩:=h
  exact⟨b,dC,ty,dN.trans h1,h2,V.fD hB cs _ (fun j hj=>hr j (by rw[hx];exact hj)) h3,h4⟩
 |arr ep ty sz es=>
  simp only[hx]at h|-
  obtain⟨h0,xs,h1,evs,h2,h3,h4⟩:=h
  exact⟨h0,xs,by rw[dN];exact h1,evs,h2,h3,D.aP hd es evs h4⟩
 |qT ep es=>
  simp only[hx]at h|-
  rw[dN]
  exact D.aM hd (.sl es) _ h
 |map kt vt l=>
  simp only[hx]at h|-
  obtain⟨b,es,clock,h1,h2,h4,h3⟩:=h
  exact⟨b,es,clock,dN.trans h1,h2,h4,aK.mono hd l _ h3⟩
 |gu l=>
  simp only[hx]at h|-
  rw[dN]
  exact D.aM hd (.mp _ _) _ h
 |nI l last=>
  simp only[hx]at h|-
  obtain⟨b,h1,h2⟩:=h
  exact⟨b,dN.trans h1,h2.mono hd rfl⟩
 |xb s pos=>
  simp only[hx]at h|-
  obtain⟨b,h1,h2⟩:=h
  exact⟨b,dN.trans h1,h2⟩
 |loop nf n env ps iT eF st Fi=>
  simp only[hx]at h|-
  obtain⟨b,r,h1,h2,h0,h3,h4,h5,h6,h7,h8,h9⟩:=h
  exact⟨b,r,dN.trans h1,h2,h0,h3,h4,h5,h6,h7,h8,fun i=>V.mc hB _ _ (fun j hj=>hr j (by rw[hx];exact FQ hj)) (h9 i)⟩
section
variable {P:Program}
theorem Cy{o o':Nat->ab}{Δ:List (Nat×ab)}{id:Nat}(h:o id=o' id):put o Δ id=put o' Δ id:=DV h
where DV {o o':Nat->ab}:∀ {Δ:List (Nat×ab)} {id:Nat},o id=o' id->put o Δ id=put o' Δ id
 |[],_,h=>h
 |x::Δ,id,h=>by
  simp only[put,List.foldl_cons]
  refine DV (Δ:=Δ) (o:=aF o x.1 x.2) (o':=aF o' x.1 x.2) ?_
  simp only[aJ]
  split
  ·rfl
  ·exact h
theorem xK{o:Nat->ab}:∀ {Δ:List (Nat×ab)} {id:Nat},(∀x∈Δ,x.1≠id)->put o Δ id=o id
 |[],_,_=>rfl
 |x::Δ,id,h=>by
  have:=xK (o:=aF o x.1 x.2) (Δ:=Δ) (id:=id) (fun y hy=>h y nH)
  simp only[put,List.foldl_cons]at this|-
  rw[this];simp[Ne.symm (h x (by simp))]
theorem DU.l9 {g:FuncId}{args:List V}{rd:List Nat}{o:Nat->ab}{nx:Nat}{out:R}{Δ:List (Nat×ab)}(uM:∀id∈rd,id<nx)(dz:∀id∈V.aL args,id∈rd)(ni:∀id∈rd,∀j∈(o id).refs,j∈rd)(UD:∀x∈Δ,x.1∈rd)(abC:∀x∈Δ,∀j∈x.2.refs,j∈rd)
 (h:de P g args (Cw rd o) nx
  (fun v o1 _=>(∀id∈rd,o1 id=put o Δ id)/\∃vs rs,v=(match vs with|[v]=>v|vs=> .bS vs)/\bT o1 vs=some rs/\out= .ret rs/\∀id∈V.bg vs,id∉rd)
  (fun v o1 _=>(∀id∈rd,o1 id=put o Δ id)/\∃x,dA o1 v=some x/\out= .bF x/\∀id∈v.ids,id∉rd)):DU P g args rd o out Δ:=by
 refine⟨h.1,fun o' us M φ w vals ho hH hd=> ?_⟩
 let M1:Nat->Prop:=fun b=>M b\/∃id,id∉rd/\(o' id).live=true/\c8 (φ id)=some b
 let HR:Hp:=hp (Cw rd o) nx
 have th:∀id,id∈rd->Cw rd o id=o' id:=fun id au=>by simp[Cw,au,(ho id au).1]
 have rl:∀id,id∉rd->Cw rd o id= .no:=fun id au=>by simp[Cw,au]
 have hB:∀b,ak M1 φ HR b↔ak M φ ⟨o',us⟩ b:=by
  intro b
  constructor
  ·rintro((h|⟨id,h1,h2,h3⟩)|⟨id,h1,h2⟩)
   ·exact .inl h
   ·exact .inr ⟨id,h2,h3⟩
   ·by_cases au:id∈rd
    ·exact .inr ⟨id,by show(o' id).live=true;rw[<- th id au];exact h1,h2⟩
    ·have:HR.o id= .no:=rl id au
     rw[this]at h1;cases h1
  ·rintro(h|⟨id,h1,h2⟩)
   ·exact .inl (.inl h)
   ·by_cases au:id∈rd
    ·exact .inr ⟨id,by show(Cw rd o id).live=true;rw[th id au];exact h1,h2⟩
    ·exact .inl (.inr ⟨id,au,h1,h2⟩)
 have Oy:∀id∈rd,HR.o id=o' id/\φ id=φ id/\HR.us id:=fun id au=>⟨th id au,rfl,uM id au⟩
 have hHR:ay M1 φ HR w:=by
  refine⟨fun id=> ?_,fun id hn=> ?_,fun i j b hi hj bi bj=> ?_,fun b hb=> ?_,fun b hb=> ?_⟩
  ·by_cases au:id∈rd
   ·refine aO.refs (H:=⟨o',us⟩) (M:=M) (φ:=φ) (fun b hn hb=>hn ((hB b).1 hb)) (th id au) rfl (fun j hj=>Oy j ?_) (hH.ok id)
    have:o' id=o id:=(ho id au).1
    exact ni id au j (by rw[<- this];exact hj)
   ·unfold aO
    rw[show HR.o id= .no from rl id au];trivial
  ·exact rl id fun au=>hn (uM id au)
  ·have live:∀i,(HR.o i).live=true->i∈rd/\(o' i).live=true:=fun i hi=>by
    by_cases au:i∈rd
    ·exact⟨au,by rw[<- th i au];exact hi⟩
    ·rw[show HR.o i= .no from rl i au]at hi;cases hi
   exact hH.apart i j b (live i hi).2 (live j hj).2 bi bj
  ·obtain⟨id,h1,h2⟩:=hb
   have au:id∈rd:=by
    by_cases au:id∈rd
    ·exact au
    ·rw[show HR.o id= .no from rl id au]at h1;cases h1
   rw[show HR.o id=o' id from th id au]at h1
   obtain⟨k1,k2⟩:=hH.ours b ⟨id,h1,h2⟩
   refine⟨?_,k2⟩
   rintro(hM|⟨j,j1,j2,j3⟩)
   ·exact k1 hM
   ·exact j1 (hH.apart j id b j2 h1 j3 h2 ▸ au)
  ·rcases hb with hb|⟨id,h1,h2,h3⟩
   ·exact hH.yM b hb
   ·exact(hH.ours b ⟨id,h2,h3⟩).2
 have hdR:V.aC (ak M1 φ HR) φ HR w args vals.toList:=V.fD (H:=⟨o',us⟩) (fun b hn hb=>hn ((hB b).1 hb)) _ _ (fun id au=>Oy id (dz id au)) hd
 refine(h.2 M1 φ w vals hHR hdR).mono ?_
 rintro e w' ⟨il,o1,yN,v,k1,k2,k3⟩
 have main:(∀id∈rd,o1 id=put o Δ id)->∃aD,ay M aD ⟨put o' Δ,us⟩ w'/\Trans φ ⟨o',us⟩ w aD ⟨put o' Δ,us⟩ w'/\∀b,ak M aD ⟨put o' Δ,us⟩ b->M1 b\/∃id∈rd,(o1 id).live=true/\c8 (il id)=some b:=by
  intro uJ
  have DK:∀id∈rd,put o' Δ id=o1 id:=fun id au=>(Cy (ho id au).1).trans (uJ id au).symm
  have DJ:∀id,id∉rd->put o' Δ id=o' id:=fun id au=>xK fun x hx e=>au (e ▸ UD x hx)
  let FJ:Place:=fun id=>if id∈rd then il id else φ id
  have xL:∀id∈rd,FJ id=il id:=fun id au=>if_pos au
  have zY:∀id,id∉rd->FJ id=φ id:=fun id au=>if_neg au
  let H2:Hp:=⟨put o' Δ,us⟩
  have cz:∀b,cy FJ H2 b->(∃id∈rd,(o1 id).live=true/\c8 (il id)=some b)\/∃id,id∉rd/\(o' id).live=true/\c8 (φ id)=some b:=by
   rintro b ⟨id,h1,h2⟩
   by_cases au:id∈rd
   ·exact .inl ⟨id,au,by rw[<- DK id au];exact h1,by rw[<- xL id au];exact h2⟩
   ·exact .inr ⟨id,au,by rw[<- DJ id au];exact h1,by rw[<- zY id au];exact h2⟩
  have hB2:∀b,ak M FJ H2 b->ak M1 il (hp o1 yN) b:=by
   rintro b (hb|hb)
   ·exact .inl (.inl hb)
   ·rcases cz b hb with⟨id,h1,h2,h3⟩|⟨id,h1,h2,h3⟩
    ·exact .inr ⟨id,h2,h3⟩
    ·exact .inl (.inr ⟨id,h1,h2,h3⟩)
  have XH:dD φ ⟨o',us⟩ FJ H2:=by
   refine⟨fun id h=>h,fun id hu hr=> ?_,fun id e' hu he=> ?_⟩
   ·by_cases au:id∈rd
    ·rw[show H2.o id=o1 id from DK id au]at hr
     obtain⟨a,b⟩:=k2.rel.row id (uM id au) hr
     rw[show HR.o id=o' id from th id au]at a
     exact⟨a,(xL id au).trans b⟩
    ·rw[show H2.o id=o' id from DJ id au]at hr
     exact⟨hr,zY id au⟩
   ·by_cases au:id∈rd
    ·rw[show H2.o id=o1 id from DK id au]at he
     obtain⟨e0,a,b,c⟩:=k2.rel.ep id e' (uM id au) he
     rw[show HR.o id=o' id from th id au]at a
     exact⟨e0,a,b,fun heq=>(xL id au).trans (c heq)⟩
    ·rw[show H2.o id=o' id from DJ id au]at he
     exact⟨e',he,Nat.le_refl _,fun _=>zY id au⟩
  have xg:∀b,cP w b-> ¬ak M φ ⟨o',us⟩ b->w'.heap[b]? =w.heap[b]? /\ ¬ak M FJ H2 b:=by
   intro b hc hn
   obtain⟨a,c⟩:=k2.blocks (M:=M1) b hc (fun hb=>hn ((hB b).1 hb))
   exact⟨a,fun hb=>c (hB2 b hb)⟩
  have u4:∀b,b<w.heap.size-> ¬cy φ HR b->w'.heap[b]? =w.heap[b]? :=fun b hb hl=>k2.keep.block b hb hl
  have ht:Trans φ ⟨o',us⟩ w FJ H2 w':=by
   refine⟨⟨k2.keep.os,k2.keep.tape,k2.keep.output,k2.keep.size,fun b hb hl=>u4 b hb fun⟨id,h1,h2⟩=>hl ?_⟩,fun b hb=> ?_,XH⟩
   ·by_cases au:id∈rd
    ·exact⟨id,by show(o' id).live=true;rw[<- th id au];exact h1,h2⟩
    ·rw[show HR.o id= .no from rl id au]at h1;cases h1
   ·rcases cz b hb with⟨id,h1,h2,h3⟩|⟨id,h1,h2,h3⟩
    ·rcases k2.grow b ⟨id,h2,h3⟩with⟨j,j1,j2⟩|vG
     ·by_cases au:j∈rd
      ·exact .inl ⟨j,by show(o' j).live=true;rw[<- th j au];exact j1,j2⟩
      ·rw[show HR.o j= .no from rl j au]at j1;cases j1
     ·exact .inr vG
    ·exact .inl ⟨id,h2,h3⟩
  refine⟨FJ,⟨fun id=> ?_,fun id hn=> ?_,fun i j b hi hj bi bj=> ?_,fun b hb=> ?_,fun b hb=>Nat.lt_of_lt_of_le (hH.yM b hb) k2.keep.size⟩,ht,fun b hb=> ?_⟩
  ·by_cases au:id∈rd
   ·refine aO.refs (H:=hp o1 yN) (M:=M1) (φ:=il) (fun b hn hb=>hn (hB2 b hb)) (DK id au) (xL id au) (fun j hj=> ?_) (k1.ok id)
    have GY:j∈rd:=by
     have e1:o1 id=put o Δ id:=uJ id au
     have hj:j∈(put o Δ id).refs:=by rw[<- e1];exact hj
     have key:∀ (DW:List (Nat×ab)) (q:Nat->ab),(∀x∈DW,∀j∈x.2.refs,j∈rd)->(∀j∈(q id).refs,j∈rd)->∀j∈(put q DW id).refs,j∈rd:=by
      intro DW
      induction DW with
      |nil=>intro q _ h2;exact h2
      |cons x DW ih=>
       intro q h1 h2
       simp only[put,List.foldl_cons]
       refine ih (aF q x.1 x.2) (fun y hy=>h1 y nH) ?_
       simp only[aJ]
       split
       ·exact h1 x aI
       ·exact h2
     exact key Δ o abC (ni id au) j hj
    exact⟨DK j GY,xL j GY,(ho j GY).2⟩
   ·exact aO.zj xg XH (DJ id au) (zY id au) (fun hl b hb=>u4 b (hH.ours b ⟨id,hl,hb⟩).2 fun⟨j,j1,j2⟩=>by
     by_cases hj:j∈rd
     ·rw[show HR.o j=o' j from th j hj]at j1
      exact au (hH.apart id j b hl j1 hb j2 ▸ hj)
     ·rw[show HR.o j= .no from rl j hj]at j1;cases j1) (hH.ok id)
  ·have au:id∉rd:=fun au=>hn (ho id au).2
   exact(DJ id au).trans (hH.fresh id hn)
  ·by_cases e1:i∈rd<;>by_cases e2:j∈rd
   ·refine k1.apart i j b ?_ ?_ (by rw[<- xL i e1];exact bi) (by rw[<- xL j e2];exact bj)
    ·show(o1 i).live=true;rw[<- DK i e1];exact hi
    ·show(o1 j).live=true;rw[<- DK j e2];exact hj
   ·exfalso
    refine(k1.ours b ⟨i,by show(o1 i).live=true;rw[<- DK i e1];exact hi,by rw[<- xL i e1];exact bi⟩).1 (.inr ⟨j,e2,by rw[<- DJ j e2];exact hj,by rw[<- zY j e2];exact bj⟩)
   ·exfalso
    refine(k1.ours b ⟨j,by show(o1 j).live=true;rw[<- DK j e2];exact hj,by rw[<- xL j e2];exact bj⟩).1 (.inr ⟨i,e1,by rw[<- DJ i e1];exact hi,by rw[<- zY i e1];exact bi⟩)
   ·exact hH.apart i j b (by show(o' i).live=true;rw[<- DJ i e1];exact hi) (by show(o' j).live=true;rw[<- DJ j e2];exact hj) (by rw[<- zY i e1];exact bi) (by rw[<- zY j e2];exact bj)
  ·rcases cz b hb with⟨id,h1,h2,h3⟩|⟨id,h1,h2,h3⟩
   ·obtain⟨a,c⟩:=k1.ours b ⟨id,h2,h3⟩
    exact⟨fun hM=>a (.inl hM),c⟩
   ·obtain⟨a,c⟩:=hH.ours b ⟨id,h2,h3⟩
    exact⟨a,Nat.lt_of_lt_of_le c k2.keep.size⟩
  ·rcases hb with hb|hb
   ·exact .inl (.inl hb)
   ·rcases cz b hb with h|h
    ·exact .inr h
    ·exact .inl (.inr h)
 have res:∀ (vs:List V) (xs:List D) (us':List Value),(∀id∈rd,o1 id=put o Δ id)->bT o1 vs=some xs->(∀id∈V.bg vs,id∉rd)->V.aC (ak M1 il (hp o1 yN)) il (hp o1 yN) w' vs us'->
  ∃aD,ay M aD ⟨put o' Δ,us⟩ w'/\Trans φ ⟨o',us⟩ w aD ⟨put o' Δ,us⟩ w'/\D.aC (ak M aD ⟨put o' Δ,us⟩) w' xs us':=by
  intro vs xs us' uJ h1 abD h2
  obtain⟨f1,f2,f3,f4,f5⟩:=cC k1 (V.bg vs) (cH vs _ h2)
  have h3:=cX f1 vs xs us' f3 h1 (V.aP f2 _ _ h2)
  obtain⟨aD,m1,m2,m3⟩:=main uJ
  refine⟨aD,m1,m2,D.aP (w:=w') (w':=w') (fun b _ hn=>⟨rfl,fun hb=>hn ?_⟩) xs us' h3⟩
  rcases m3 b hb with hb|⟨id,i1,i2,i3⟩
  ·exact .inl hb
  ·exact .inr ⟨id,by rw[f4 id fun hm=>abD id hm i1];exact i2,i3⟩
 cases e with
 |outgrown=>exact k3.elim
 |panicked ch=>
  obtain⟨val,rfl,g1,uJ,x,g2,rfl,g3⟩:=k3
  obtain⟨aD,m1,m2,m3⟩:=res [v] [x] [val] uJ (by simp[bT,g2]) (by simpa[V.bg]using g3) ⟨val,[],rfl,g1,rfl⟩
  obtain⟨u,us2,he,h2,_⟩:=m3
  simp at he;obtain⟨rfl,rfl⟩:=he
  exact⟨aD,m1,m2,val,rfl,h2⟩
 |returned val=>
  obtain⟨g1,uJ,vs,rs,rfl,g2,rfl,g3⟩:=k3
  match vs,g1,g2,g3 with
  |[],g1,g2,g3=>
   obtain⟨arr,rfl,hv⟩:=g1
   simp only[bT,Option.some.injEq]at g2;subst g2
   obtain⟨aD,m1,m2,m3⟩:=res [] [] arr.toList uJ rfl (by simp[V.bg]) hv
   exact⟨aD,m1,m2,arr,rfl,m3⟩
  |[v],g1,g2,g3=>
   obtain⟨aD,m1,m2,m3⟩:=res [v] rs [val] uJ g2 g3 ⟨val,[],rfl,g1,rfl⟩
   refine⟨aD,m1,m2, ?_⟩
   cases rs with
   |nil=>cases m3
   |cons x l=>
    obtain⟨u,us2,he,h2,h3⟩:=m3
    simp at he;obtain⟨rfl,rfl⟩:=he
    cases l with
    |nil=>exact h2
    |cons y l=>obtain⟨_,_,h,_⟩:=h3;cases h
  |v::v2::l,g1,g2,g3=>
   obtain⟨arr,rfl,hv⟩:=g1
   obtain⟨aD,m1,m2,m3⟩:=res (v::v2::l) rs arr.toList uJ g2 g3 hv
   refine⟨aD,m1,m2, ?_⟩
   have hl:=D.aA _ _ m3
   have hl2:=V.aA _ _ hv
   match rs,hl,m3 with
   |[],hl,_=>exact Dp
   |[x],hl,_=>exact Dp
   |x::y::l,_,m3=>exact⟨arr,rfl,m3⟩
end
end
section
inductive eJ where
 |skip|val (v:V) (Δ:List (Nat×ab)) (rd:List Nat)|bF (v:V) (ws rd:List Nat)|c8
 deriving Inhabited
def eJ.ok:eJ->Bool
 | .skip| .val .. =>true
 |_=>false
def uN(dst:Option Tmp)(x:eJ)(s:S):S:=
 match x with
 | .skip=>⟨aY s.env dst (.bS []),s.o,s.nx⟩
 | .val v Δ _=>⟨aY s.env dst v,put s.o Δ,s.nx⟩
 | .bF .. | .c8=>⟨aY s.env dst .aa,s.o,s.nx⟩
def jR:eJ->List Nat
 | .val _ Δ _=>Δ.map (·.1)
 |_=>[]
def u5:eJ->List Nat
 | .val _ _ rd=>rd
 | .bF _ _ rd=>rd
 |_=>[]
def XI(P:Program)(g:FuncId)(ds:List D)(v:V):Prop:=
 Enters P g/\∀ (M:Nat->Prop) (w:World) (vals:Array Value),(∀b,M b->b<w.heap.size)->D.aC M w ds vals.toList->
  Calls P g vals w fun e w'=>dx (fun _=>False) w w'/\∃val,e= .returned val/\∀φ H,V.den M φ H w' v val
theorem XI.l9 {P:Program}{g:FuncId}{ds:List D}{v:V}(hr:v.refs=[])(h:de P g (ds.map .d) (fun _=> .no) 0 (fun v' _ _=>v'=v) (fun _ _ _=>False)):XI P g ds v:=by
 refine⟨h.1,fun M w vals hM hd=> ?_⟩
 let cg:Place:=fun _=> .nilFunc
 have u4:∀b, ¬cy cg (hp (fun _=> .no) 0) b:=by rintro b ⟨id,hl,_⟩;simp[hp,ab.live]at hl
 refine(h.2 M cg w vals (kz cg hM) ((V.b7 _ _).2 (D.aP (w:=w) (w':=w) (B:=M) (fun b _ hB=>⟨rfl,fun h=>h.elim hB (u4 b)⟩) _ _ hd))).mono ?_
 rintro e w' ⟨aD,o',nx',v',k1,k2,k3⟩
 refine⟨⟨k2.keep.os,k2.keep.tape,k2.keep.output,k2.keep.size,fun k hk _=>k2.keep.block k hk (u4 k)⟩, ?_⟩
 cases e with
 |outgrown=>exact k3.elim
 |panicked ch=>obtain⟨_,_,_,h⟩:=k3;exact h.elim
 |returned val=>
  obtain⟨g1,rfl⟩:=k3
  exact⟨val,rfl,fun φ H=>V.mc (B:=ak M aD (hp o' nx')) (φ:=aD) (H:=hp o' nx') (fun b hb hm=>hb (.inl hm)) v' val (fun id au=>by rw[hr]at au;cases au) g1⟩
def vX(P:Program)(s:S)(fr:Nat)(op:Op)(v:V)(Δ:List (Nat×ab))(rd:List Nat):Prop:=
 ((∃se,fK P s fr op=some (v,Δ,se))/\rd=nr s op)\/
 (∃c f g first cap,op= .call c/\c.callee= .value f/\s.ev f= .func (.func g) first cap/\
  ((∃ds rs,bT s.o (first++c.args.toList.map s.ev++cap)=some ds/\aW P g ds (.ret rs)/\v=iE rs/\rd=nr s op/\
    (Δ=cc s.o (V.bg (first++c.args.toList.map s.ev++cap))\/D.ja rs=true/\Δ=[]))\/
   (∃rs,DU P g (first++c.args.toList.map s.ev++cap) rd s.o (.ret rs) Δ/\v=iE rs/\∀id∈rd,id<s.nx)\/
   (∃ds,bT s.o (first++c.args.toList.map s.ev++cap)=some ds/\XI P g ds v/\rd=nr s op/\Δ=cc s.o (V.bg (first++c.args.toList.map s.ev++cap)))\/
   (xJ P g (first++c.args.toList.map s.ev++cap) rd s.o fr v Δ/\∀id∈rd,id<s.nx)))
def zZ(P:Program)(s:S)(op:Op)(v:V)(ws rd:List Nat):Prop:=
 ∃c f g first cap,op= .call c/\c.callee= .value f/\s.ev f= .func (.func g) first cap/\
  ((∃ds x,bT s.o (first++c.args.toList.map s.ev++cap)=some ds/\aW P g ds (.bF x)/\x.flat=true/\v= .d x/\rd=nr s op/\ws=[])\/
   (∃x Δ,DU P g (first++c.args.toList.map s.ev++cap) rd s.o (.bF x) Δ/\v= .d x/\ws=Δ.map (·.1)/\∀id∈rd,id<s.nx))
def dB(s:S)(gd:Option (Nat×Bool))(b:Bool):Prop:=
 match gd with
 |none=>b=true
 |some (d,want)=>match s.env d with
  | .d (.bool c)=>b=(c==want)
  | .bS []=>b=false
  |_=>False
def OR(P:Program)(s:S)(fr:Nat)(o:bL)(x:eJ):Prop:=
 match x with
 | .skip=>dB s o.gd false
 | .val v Δ rd=>dB s o.gd true/\vX P s fr o.op v Δ rd
 | .bF v ws rd=>dB s o.gd true/\zZ P s o.op v ws rd
 | .c8=>True
def dX(oc:Nat->bL)(ac:Nat->eJ)(E:Nat->Bool)(s:S):Nat->S
 |0=>s
 |k+1=>if E k then uN (oc k).dst (ac k) (dX oc ac E s k)else dX oc ac E s k
structure Compat (oc:Nat->bL) (ac:Nat->eJ) (R:Nat->List Nat) (i j:Nat):Prop where
 di:∀d,(oc i).dst=some d->d∉eE (oc j)
 dj:∀d,(oc j).dst=some d->d∉eE (oc i)
 wi:∀id∈jR (ac i),id∉R j/\id∉jR (ac j)
 wj:∀id∈jR (ac j),id∉R i
section
variable {P:Program}{oc:Nat->bL}{ac:Nat->eJ}{s:S}{n:Nat}{E:Nat->Bool}{R:Nat->List Nat}{pr:Nat->Nat->Prop}
theorem Cz{env:Nat->V}{dst:Option Tmp}{v:V}{t:Nat}(h:∀d,dst=some d->d≠t):aY env dst v t=env t:=by
 cases dst with
 |none=>rfl
 |some d=>simp only[aY,aJ];rw[if_neg (fun e=>h d rfl e.symm)]
theorem fE{o:Nat->ab}:∀ {Δ:List (Nat×ab)} {id:Nat},id∉Δ.map (·.1)->put o Δ id=o id
 |[],_,_=>rfl
 |x::Δ,id,h=>by
  simp only[List.map_cons,List.mem_cons,not_or]at h
  have:=fE (o:=aF o x.1 x.2) (Δ:=Δ) h.2
  simp only[put,List.foldl_cons]at this|-
  rw[this];simp[h.1]
theorem xM{o o':Nat->ab}:∀ {Δ:List (Nat×ab)} {id:Nat},id∈Δ.map (·.1)\/o id=o' id->put o Δ id=put o' Δ id
 |[],_,h=>by rcases h with h|h;· simp at h
             ·exact h
 |x::Δ,id,h=>by
  simp only[put,List.foldl_cons]
  refine xM (Δ:=Δ) (o:=aF o x.1 x.2) (o':=aF o' x.1 x.2) ?_
  simp only[List.map_cons,List.mem_cons]at h
  simp only[aJ]
  by_cases e:id=x.1
  ·right;simp[e]
  ·rcases h with(h|h)|h
   ·exact absurd h e
   ·exact .inl h
   ·right;simp[e,h]
theorem jS{dst:Option Tmp}{x:eJ}{t:Nat}(h:∀d,dst=some d->d≠t):(uN dst x s).env t=s.env t:=by
 cases x<;>exact Cz h
theorem me{dst:Option Tmp}{x:eJ}{id:Nat}(h:id∉jR x):(uN dst x s).o id=s.o id:=by
 cases x with
 |val v Δ rd=>exact fE h
 |_=>rfl
theorem xN{dst:Option Tmp}{x:eJ}{s':S}{t:Nat}(h:s.env t=s'.env t):(uN dst x s).env t=(uN dst x s').env t:=by
 cases x<;>cases dst<;>simp only[uN,aY,aJ]<;>first|exact h|(split<;>first|rfl|exact h)
theorem CA{dst:Option Tmp}{x:eJ}{s':S}{id:Nat}(h:s.o id=s'.o id):(uN dst x s).o id=(uN dst x s').o id:=by
 cases x with
 |val v Δ rd=>exact xM (.inr h)
 |_=>exact h
theorem put_comm{o:Nat->ab}{Δ DW:List (Nat×ab)}(h:∀id∈Δ.map (·.1),id∉DW.map (·.1)):put (put o Δ) DW=put (put o DW) Δ:=by
 funext id
 by_cases h1:id∈Δ.map (·.1)
 ·rw[fE (h id h1)]
  exact xM (.inl h1)
 ·rw[fE (Δ:=Δ) h1]
  by_cases h2:id∈DW.map (·.1)
  ·exact xM (.inl h2)
  ·rw[fE h2,fE h2,fE h1]
theorem vY{env:Nat->V}{d d':Option Tmp}{v v':V}(h:∀t,d=some t->d'≠some t):aY (aY env d v) d' v'=aY (aY env d' v') d v:=by
 cases d with
 |none=>rfl
 |some t=>
  cases d' with
  |none=>rfl
  |some t'=>
   have kK:t'≠t:=fun e=>h t rfl (by rw[e])
   funext i
   simp only[aY,aJ]
   by_cases e1:i=t<;>by_cases e2:i=t'
   ·exact absurd (e2.symm.trans e1) kK
   all_goals simp[e1,e2]
   ·intro e;exact absurd e.symm kK
   ·intro e;exact absurd e kK
theorem Iw{d d':Option Tmp}{x x':eJ}(hd:∀t,d=some t->d'≠some t)(hw:∀id∈jR x,id∉jR x'):uN d x (uN d' x' s)=uN d' x' (uN d x s):=by
 cases x<;>cases x'<;>simp only[uN]<;>first
  |rw[vY hd,put_comm hw]
  |rw[vY hd]
def xO(n:Nat)(pr:Nat->Nat->Prop)(E:Nat->Bool):Prop:=∀k,k<n->E k=true->∀j,pr k j->E j=true
theorem agree(_:∀k,k<n->∀j,pr k j->j<k)(hc:∀i j,i<j->j<n-> ¬pr j i->Compat oc ac R i j)(hE:xO n pr E){i:Nat}(hi:i<n)(lJ:E i=false)(Ix:∀j,pr i j->E j=true):
 (∀t∈eE (oc i),(dX oc ac E s n).env t=(dX oc ac (fun _=>true) s i).env t)/\(∀id∈R i,(dX oc ac E s n).o id=(dX oc ac (fun _=>true) s i).o id):=by
 have a:∀k,k<=i->(∀t∈eE (oc i),(dX oc ac E s k).env t=(dX oc ac (fun _=>true) s k).env t)/\(∀id∈R i,(dX oc ac E s k).o id=(dX oc ac (fun _=>true) s k).o id):=by
  intro k
  induction k with
  |zero=>intro _;exact⟨fun _ _=>rfl,fun _ _=>rfl⟩
  |succ k ih=>
   intro hk
   obtain⟨h1,h2⟩:=ih ah
   simp only[dX,if_true]
   by_cases iy:E k=true
   ·simp only[iy,if_true]
    exact⟨fun t ht=>xN (h1 t ht),fun id au=>CA (h2 id au)⟩
   ·have OH: ¬pr i k:=fun hm=>iy (Ix k hm)
    have c:=hc k i ah hi OH
    simp only[iy]
    refine⟨fun t ht=> ?_,fun id au=> ?_⟩
    ·rw[jS fun d hd e=>c.di d hd (e ▸ ht)];exact h1 t ht
    ·rw[me fun hm=>(c.wi id hm).1 au];exact h2 id au
 have b:∀k,i<=k->k<=n->(∀t∈eE (oc i),(dX oc ac E s k).env t=(dX oc ac (fun _=>true) s i).env t)/\(∀id∈R i,(dX oc ac E s k).o id=(dX oc ac (fun _=>true) s i).o id):=by
  intro k L5
  induction L5 with
  |refl=>intro _;exact a i (Nat.le_refl _)
  | @step k L5 ih=>
    intro hk
    have L5:i<=k:=L5
    obtain⟨h1,h2⟩:=ih ah
    simp only[dX]
    by_cases iy:E k=true
    ·have kK:i≠k:=fun e=>by rw[e,iy]at lJ;cases lJ
     have OH: ¬pr k i:=fun hm=>by have:=hE k ah iy i hm;rw[lJ]at this;cases this
     have c:=hc i k ah ah OH
     simp only[iy,if_true]
     refine⟨fun t ht=> ?_,fun id au=> ?_⟩
     ·rw[jS fun d hd e=>c.dj d hd (e ▸ ht)];exact h1 t ht
     ·rw[me fun hm=>c.wj id hm au];exact h2 id au
    ·simp only[iy];exact⟨h1,h2⟩
 exact b n ah (Nat.le_refl _)
theorem insert(hc:∀i j,i<j->j<n-> ¬pr j i->Compat oc ac R i j)(hE:xO n pr E){i:Nat}(hi:i<n)(lJ:E i=false){E':Nat->Bool}(CB:∀k,E' k=(E k||k==i)):
 dX oc ac E' s n=uN (oc i).dst (ac i) (dX oc ac E s n):=by
 have a:∀k,k<=i->dX oc ac E' s k=dX oc ac E s k:=by
  intro k
  induction k with
  |zero=>intro _;rfl
  |succ k ih=>
   intro hk
   have:E' k=E k:=by rw[CB k];have:(k==i)=false:=by simp;omega
                     simp[this]
   simp only[dX,this,ih (by omega)]
 have b:∀k,i+1<=k->k<=n->dX oc ac E' s k=uN (oc i).dst (ac i) (dX oc ac E s k):=by
  intro k L5
  induction L5 with
  |refl=>
   intro _
   have h1:E' i=true:=by rw[CB i];simp
   simp only[dX,h1,lJ,if_true,a i (Nat.le_refl _)]
   rfl
  | @step k L5 ih=>
    intro hk
    have L5:i+1<=k:=L5
    have h1:E' k=E k:=by rw[CB k];have:(k==i)=false:=by simp;omega
                         simp[this]
    simp only[dX,h1,ih (by omega)]
    by_cases iy:E k=true
    ·have OH: ¬pr k i:=fun hm=>by have:=hE k ah iy i hm;rw[lJ]at this;cases this
     have c:=hc i k ah ah OH
     simp only[iy,if_true]
     refine Iw (fun t ht he=> ?_) (fun id au hm=>(c.wi id hm).2 au)
     exact c.di t he (by simp[eE,ht])
    ·simp only[iy];rfl
 exact b n ah (Nat.le_refl _)
end
end
section
structure rV (M:Nat->Prop) (cg:Place) (H0:Hp) (w0:World) (n:Nat) (cx:Cx) (φ:Place) (s:S) (us:Nat->Prop) (a:Act) (w:World):Prop where
 heap:ay M φ ⟨s.o,us⟩ w
 tr:Trans cg H0 w0 φ ⟨s.o,us⟩ w
 size:a.tmps.size=n
 defers:s7 cx w0 φ ⟨s.o,us⟩ w a.defers
 env:∀i,V.den (ak M φ ⟨s.o,us⟩) φ ⟨s.o,us⟩ w (s.env i) (a.tmps.getD i undef)
section
variable {P:Program}{M:Nat->Prop}{φ cg:Place}{H0:Hp}{w w' w0:World}{n:Nat}{s:S}{us:Nat->Prop}{a:Act}{cx:Cx}{ro:Option Nat}{k:Nat}
variable {next:Act->World->Prop}{Q:Exit->Act->World->Prop}
theorem iR(hs:rV M cg H0 w0 n cx φ s us a w){aD:Place}{H':Hp}(hH:ay M aD H' w')(ht:Trans φ ⟨s.o,us⟩ w aD H' w'){v:V}{val:Value}(hd:V.den (ak M aD H') aD H' w' v val){dst:Option Tmp}(cB:fR n dst)
 {o':Nat->ab} {us':Nat->Prop} (ho:H'.o=o') (hu:∀id,H'.us id->us' id):rV M cg H0 w0 n cx aD ⟨aY s.env dst v,o',s.nx⟩ us' (a.put dst val) w':=by
 obtain⟨k1,k2⟩:=iC hH hu
 subst ho
 refine⟨k1,hs.tr.trans (ht.trans k2), ?_, ?_,fun i=> ?_⟩
 ·cases dst<;>simp[Act.put,hs.size]
 ·have:=hs.defers.mono (ht.trans k2);cases dst<;>exact this
 ·cases dst with
  |none=>exact Lr
  |some d=>
   simp only[fR]at cB
   simp only[aY,aJ,Act.put]
   by_cases hi:i=d
   ·subst hi
    have h1:(a.tmps.setIfInBounds i val).getD i undef=val:=by simp[Array.getD,hs.size,cB]
    rw[if_pos rfl,h1]
    exact V.aM k2 _ _ hd
   ·have h1:(a.tmps.setIfInBounds d val).getD i undef=a.tmps.getD i undef:=by
     exact Rc
    rw[if_neg hi,h1]
    exact Lr
theorem vZ(hs:rV M cg H0 w0 n cx φ s us a w){o:Oper}{op:Op}(gr:o.op=op){c:Call}{f:Operand}{g:FuncId}{first cap:List V}(hc:op= .call c)(eB:c.callee= .value f)(uR:s.ev f= .func (.func g) first cap):
 ∃vals:Array Value,V.aC (ak M φ ⟨s.o,us⟩) φ ⟨s.o,us⟩ w (first++c.args.toList.map s.ev++cap) vals.toList/\(Enters P g->(execOp a.eval o).run P w= .ok (.enter g vals) w):=by
 have hf:=lU (M:=M) (φ:=φ) (H:=⟨s.o,us⟩) (w:=w) s a hs.env f
 have dz:=jB (M:=M) (φ:=φ) (H:=⟨s.o,us⟩) (w:=w) s a hs.env c.args.toList
 rw[uR]at hf
 obtain⟨fa,ca,Ip,Dv,Rt⟩:=hf
 refine⟨fa++c.args.map a.eval++ca, ?_,fun he=> ?_⟩
 ·exact N3
 ·have:=ky (w:=w) he (fa++c.args.map a.eval++ca)
  generalize j9:fa++c.args.map a.eval++ca=vals at this
  simp[execOp,gr,hc,resolve,eB,Ip,Deferred.ofValue,invoke,this,j9]
theorem Hi(hs:rV M cg H0 w0 n cx φ s us a w){fr:Nat}(cO: ¬us fr)(uM:∀id,id<s.nx->us id){o:Oper}{op:Op}(gr:o.op=op)(cB:fR n o.dst){v:V}{Δ:List (Nat×ab)}{rd:List Nat}(h:vX P s fr op v Δ rd)
 (hN:∀aD a' w',rV M cg H0 w0 n cx aD (uN o.dst (.val v Δ rd) s) (fun id=>us id\/id=fr) a' w'->next a' w'):o.wpIn (dy ro) k P a w next Q:=by
 rcases h with⟨⟨se,h⟩,_⟩|⟨c,f,g,first,cap,hc,eB,uR,h⟩
 ·have h1:=zV (K:=fun v' DW _=>v'=v/\DW=Δ) h ⟨rfl,rfl⟩
  obtain⟨nx,val,w',aD,v',DW,se,⟨rfl,rfl⟩,hr,abE,g1,g2,g3,g4⟩:=vO hs.heap (s:=s) rfl hs.env cO gr h1
  have xq:=iR hs g1 g2 g3 cB (o':=put s.o DW) (us':=fun id=>us id\/id=fr) rfl (fun id hu=>hu.elim .inl (g4 id))
  refine jF (fun c hc=>by rw[gr]at hc;subst hc;exact h1) ?_
  rw[hr]
  rcases abE with rfl|⟨rfl,rfl⟩
  ·exact hN _ _ _ xq
  ·exact hN _ _ _ xq
 ·refine jF (fun c' FG=>by rw[gr,hc]at FG;cases FG) ?_
  obtain⟨vals,bc,eI⟩:=vZ (P:=P) hs gr hc eB uR
  generalize first++c.args.toList.map s.ev++cap=all at h bc
  rcases h with⟨ds,rs,eD,hP,rfl,_,UD⟩|⟨rs,hH,rfl,nd⟩|⟨ds,eD,hP,_,rfl⟩|⟨hH,nd⟩
  ·obtain⟨f1,f2,f3,f4,f5⟩:=cC hs.heap (V.bg all) (cH all _ bc)
   have fh:(⟨s.o,us⟩:Hp).put (cc s.o (V.bg all))=⟨put s.o (cc s.o (V.bg all)),us⟩:=kx (H:=⟨s.o,us⟩) Hs
   have vC:=cX f1 all ds _ f3 eD (V.aP f2 _ _ bc)
   have eu:=hP.2 _ w vals (fun b hb=>hb.elim (f1.yM b) fun hl=>(f1.ours b hl).2) vC
   rw[eI hP.1]
   refine⟨fun hd=>by simp[dy]at hd,cM (eu.mono fun e w' ⟨hk,ho⟩=> ?_)⟩
   cases e with
   |panicked ch=>exact uP
   |outgrown=>exact uP
   |returned val=>
    rcases UD with rfl|⟨kJ,rfl⟩
    ·obtain⟨k1,k2⟩:=fA f1 hk
     refine hN _ _ _ (iR hs k1 (f2.trans k2) (lQ ho) cB (by rw[fh]) fun id hu=> ?_)
     rw[fh]at hu;exact .inl hu
    ·obtain⟨k1,k2⟩:=fA hs.heap hk
     have ho:=R.xr (out:= .ret rs) (B':=ak M φ ⟨s.o,us⟩) kJ ho
     exact WB
  ·have eu:=hH.2 s.o us M φ w vals (fun id au=>⟨rfl,uM id (nd id au)⟩) hs.heap bc
   rw[eI hH.1]
   refine⟨fun hd=>by simp[dy]at hd,cM (eu.mono fun e w' ⟨aD,k1,k2,ho⟩=> ?_)⟩
   cases e with
   |panicked ch=>exact uP
   |outgrown=>exact uP
   |returned val=>exact WB
  ·obtain⟨f1,f2,f3,f4,f5⟩:=cC hs.heap (V.bg all) (cH all _ bc)
   have fh:(⟨s.o,us⟩:Hp).put (cc s.o (V.bg all))=⟨put s.o (cc s.o (V.bg all)),us⟩:=kx (H:=⟨s.o,us⟩) Hs
   have vC:=cX f1 all ds _ f3 eD (V.aP f2 _ _ bc)
   have eu:=hP.2 _ w vals (fun b hb=>hb.elim (f1.yM b) fun hl=>(f1.ours b hl).2) vC
   rw[eI hP.1]
   refine⟨fun hd=>by simp[dy]at hd,cM (eu.mono fun e w' ⟨hk,val,he,ho⟩=> ?_)⟩
   subst he
   obtain⟨k1,k2⟩:=fA f1 hk
   refine hN _ _ _ (iR hs k1 (f2.trans k2) (ho _ _) cB (by rw[fh]) fun id hu=> ?_)
   rw[fh]at hu;exact .inl hu
  ·have eu:=hH.2 s.o us M φ w vals (fun id au=>⟨rfl,uM id (nd id au)⟩) cO hs.heap bc
   rw[eI hH.1]
   refine⟨fun hd=>by simp[dy]at hd,cM (eu.mono fun e w' ⟨aD,k1,k2,val,he,ho⟩=> ?_)⟩
   subst he
   exact hN _ _ _ (iR hs k1 k2 ho cB rfl fun id hu=>hu)
theorem FR{o o2:Nat->ab}{us us2:Nat->Prop}(hH:ay M φ ⟨o,us⟩ w)(ho:∀id,o2 id=o id\/o2 id= .no)(hu:∀id,us id->us2 id):ay M φ ⟨o2,us2⟩ w/\Trans φ ⟨o,us⟩ w φ ⟨o2,us2⟩ w:=by
 have hl:∀id,(o2 id).live=true->(o id).live=true:=fun id h=>by
  rcases ho id with e|e
  ·rw[<- e];exact h
  ·rw[e]at h;cases h
 have UH:∀b,cy φ ⟨o2,us2⟩ b->cy φ ⟨o,us⟩ b:=fun b ⟨id,h1,h2⟩=>⟨id,hl id h1,h2⟩
 have ht:Trans φ ⟨o,us⟩ w φ ⟨o2,us2⟩ w:=by
  refine⟨dx.refl _ _,fun b hb=> .inl (UH b hb),⟨hu,fun id _ hr=> ?_,fun id e' _ he=> ?_⟩⟩
  ·rcases ho id with e|e
   ·exact⟨by show(o id).bZ=true;rw[<- e];exact hr,rfl⟩
   ·rw[show(⟨o2,us2⟩:Hp).o id= .no from e]at hr;cases hr
  ·rcases ho id with e|e
   ·exact⟨e',by show(o id).bW=some e';rw[<- e];exact he,Nat.le_refl _,fun _=>rfl⟩
   ·rw[show(⟨o2,us2⟩:Hp).o id= .no from e]at he;cases he
 refine⟨⟨fun id=> ?_,fun id hn=> ?_,fun i j b hi hj=>hH.apart i j b (hl i hi) (hl j hj),fun b hb=>hH.ours b (UH b hb),hH.yM⟩,ht⟩
 ·rcases ho id with e|e
  ·exact(hH.ok id).mono ht e rfl fun _ _ _=>rfl
  ·unfold aO;rw[show(⟨o2,us2⟩:Hp).o id= .no from e];trivial
 ·rcases ho id with e|e
  ·exact e.trans (hH.fresh id fun h=>hn (hu id h))
  ·exact e
def tj(ds:List Nat)(wl:List Nat)(N:Nat)(s:S):S:=
 ⟨fun t=>if ds.contains t=true then .aa else s.env t,fun id=>if wl.contains id=true then .no else s.o id,s.nx+N⟩
theorem Iy(hs:rV M cg H0 w0 n cx φ s us a w)(uM:∀id,id<s.nx->us id){N:Nat}(dQ:∀id,us id->id<s.nx+N){o:Oper}{op:Op}(gr:o.op=op){v:V}{ws rd:List Nat}(h:zZ P s op v ws rd)
 {s0:S} {ds wl:List Nat} (eD:∀t,ds.contains t=false->s.env t=s0.env t) (hwl:∀id,wl.contains id=false->s.o id=s0.o id) (L6:∀id∈ws,wl.contains id=true) (jb:s0.nx=s.nx)
 (hQ:∀aD w' val,bU M cg H0 w0 n cx aD (tj ds wl N s0) a w'->V.den (ak M aD (tj ds wl N s0).H) aD (tj ds wl N s0).H w' v val->Q (.panic [{v:=val,recovered:=false}]) a w'):o.wpIn (dy ro) k P a w next Q:=by
 obtain⟨c,f,g,first,cap,hc,eB,uR,h⟩:=h
 refine jF (fun c' FG=>by rw[gr,hc]at FG;cases FG) ?_
 obtain⟨vals,bc,eI⟩:=vZ (P:=P) hs gr hc eB uR
 generalize first++c.args.toList.map s.ev++cap=all at h bc
 have fin:∀ (aD:Place) (w':World) (o':Nat->ab) (val:Value),(∀id,wl.contains id=false->o' id=s.o id)->ay M aD ⟨o',us⟩ w'->Trans φ ⟨s.o,us⟩ w aD ⟨o',us⟩ w'->V.den (ak M aD ⟨o',us⟩) aD ⟨o',us⟩ w' v val->Q (.panic [{v:=val,recovered:=false}]) a w':=by
  intro aD w' o' val vm k1 k2 k3
  obtain⟨m1,m2⟩:=FR (o2:=(tj ds wl N s0).o) (us2:=fun id=>id<s0.nx+N) k1 (fun id=>by
   show(if wl.contains id=true then ab.no else s0.o id)=o' id\/_
   by_cases hw:wl.contains id=true
   ·right;simp only[tj];rw[if_pos hw]
   ·left;rw[if_neg hw,vm id (by simpa using hw),hwl id (by simpa using hw)]) (fun id h=>by rw[jb];exact dQ id h)
  have ht:=hs.tr.trans (k2.trans m2)
  refine hQ aD w' val ⟨m1,ht,hs.size,hs.defers.mono (k2.trans m2),fun i=> ?_⟩ (V.aM m2 _ _ k3)
  show V.den _ _ _ _ (if ds.contains i=true then V.aa else s0.env i) _
  by_cases hd:ds.contains i=true
  ·rw[if_pos hd];trivial
  ·rw[if_neg hd, <- eD i (by simpa using hd)];exact V.aM (k2.trans m2) _ _ (hs.env i)
 rcases h with⟨dd,x,abF,hP,kJ,rfl,_,rfl⟩|⟨x,Δ,hH,rfl,rfl,nd⟩
 ·obtain⟨f1,f2,f3,f4,f5⟩:=cC hs.heap (V.bg all) (cH all _ bc)
  have vC:=cX f1 all dd _ f3 abF (V.aP f2 _ _ bc)
  have eu:=hP.2 _ w vals (fun b hb=>hb.elim (f1.yM b) fun hl=>(f1.ours b hl).2) vC
  rw[eI hP.1]
  refine⟨fun hd=>by simp[dy]at hd,cM (eu.mono fun e w' ⟨hk,ho⟩=> ?_)⟩
  cases e with
  |returned val=>exact ho.elim
  |outgrown=>exact ho.elim
  |panicked ch=>
   obtain⟨k1,k2⟩:=fA hs.heap hk
   have ho:=R.xr (out:= .bF x) (B':=ak M φ ⟨s.o,us⟩) kJ ho
   obtain⟨val,rfl,hd⟩:=ho
   exact fin φ w' s.o val (fun _ _=>rfl) k1 k2 hd
 ·have eu:=hH.2 s.o us M φ w vals (fun id au=>⟨rfl,uM id (nd id au)⟩) hs.heap bc
  rw[eI hH.1]
  refine⟨fun hd=>by simp[dy]at hd,cM (eu.mono fun e w' ⟨aD,k1,k2,ho⟩=> ?_)⟩
  cases e with
  |returned val=>exact ho.elim
  |outgrown=>exact ho.elim
  |panicked ch=>
   obtain⟨val,rfl,hd⟩:=ho
   exact fin aD w' _ val (fun id au=>xK fun y hy e=>by
    have:=L6 y.1 (List.mem_map_of_mem hy)
    rw[e,au]at this;cases this) k1 k2 hd
theorem eT(dI:∀i,V.den (ak M φ ⟨s.o,us⟩) φ ⟨s.o,us⟩ w (s.env i) (a.tmps.getD i undef)){ops:Array Oper}{o:Oper}{gd:Option (Nat×Bool)}{b:Bool}
 (hg:match o.guard with|none=>gd=none|some (j,want)=>∃d,qS ops j=some d/\gd=some (d,want)) (h:dB s gd b):Region.wanted o (yielded ops a.tmps)=b:=by
 unfold Region.wanted
 split at hg
 ·rename_i hn;simp only[hn];subst hg;exact h.symm
 ·rename_i j want hn
  simp only[hn]
  obtain⟨d,hd,rfl⟩:=hg
  unfold qS at hd
  unfold yielded
  simp only[hd,Option.bind_some]
  simp only[dB]at h
  have he:=dI d
  split at h
  ·rename_i c hv
   rw[hv]at he
   simp only[V.den,D.den]at he
   have:a.tmps[d]? =some (.bool c):=by
    rw[Array.getD_eq_getD_getElem?]at he
    cases hx:a.tmps[d]? with
    |none=>rw[hx]at he;simp[undef]at he
    |some x=>rw[hx]at he;simp at he;rw[he]
   simp only[this,h]
   cases c<;>cases want<;>rfl
  ·rename_i hv
   rw[hv]at he
   obtain⟨arr,cR,hn⟩:=he
   have:∀c,a.tmps[d]? ≠some (.bool c):=by
    exact Ot
   subst h
   cases hx:a.tmps[d]? with
   |none=>rfl
   |some x=>cases x<;>first|(exact absurd hx (this _))|rfl
  ·exact h.elim
theorem eU{s s':S}{gd:Option (Nat×Bool)}{b:Bool}(h:∀d want,gd=some (d,want)->s'.env d=s.env d)(hg:dB s gd b):dB s' gd b:=by
 unfold dB at*
 cases gd with
 |none=>exact hg
 |some p=>obtain⟨d,want⟩:=p;simp only at hg|-;rw[h d want rfl];exact hg
theorem z7{s s':S}{x:Operand}(h:∀t,x= .tmp t->s'.env t=s.env t):s'.ev x=s.ev x:=by
 cases x<;>simp only[S.ev]
 exact h _ rfl
theorem tl{s s':S}{op:Op}{c:Call}{f:Operand}{g:FuncId}{first cap:List V}(hv:∀x∈op.operands,s'.ev x=s.ev x)(hc:op= .call c)(eB:c.callee= .value f)(uR:s.ev f= .func (.func g) first cap):
 s'.ev f= .func (.func g) first cap/\c.args.toList.map s'.ev=c.args.toList.map s.ev:=by
 subst hc
 exact⟨(hv f (by simp only[Op.operands,Call.operands,eB];exact Array.mem_append.2 (.inl aI))).trans uR,
  List.map_congr_left fun x hx=>hv x Wi⟩
theorem DU.frame {g:FuncId}{args:List V}{rd:List Nat}{o o':Nat->ab}{out:R}{Δ:List (Nat×ab)}(ho:∀id∈rd,o' id=o id)(h:DU P g args rd o out Δ):DU P g args rd o' out Δ:=
 ⟨h.1,fun o2 us M φ w vals h1 h2 h3=>h.2 o2 us M φ w vals (fun id au=>⟨(h1 id au).1.trans (ho id au),(h1 id au).2⟩) h2 h3⟩
theorem xJ.frame {g:FuncId}{args:List V}{rd:List Nat}{o o':Nat->ab}{fr:Nat}{v:V}{Δ:List (Nat×ab)}(ho:∀id∈rd,o' id=o id)(h:xJ P g args rd o fr v Δ):xJ P g args rd o' fr v Δ:=
 ⟨h.1,fun o2 us M φ w vals h1 h2 h3=>h.2 o2 us M φ w vals (fun id au=>⟨(h1 id au).1.trans (ho id au),(h1 id au).2⟩) h2 h3⟩
theorem za{s s':S}{fr:Nat}{op:Op}{v:V}{Δ:List (Nat×ab)}{rd:List Nat}(hv:∀x∈op.operands,s'.ev x=s.ev x)(ho:∀id∈rd,s'.o id=s.o id)(uM:s'.nx=s.nx)(h:vX P s fr op v Δ rd):∃se,vX P s' fr op v Δ se:=by
 rcases h with⟨⟨se,h⟩,nd⟩|⟨c,f,g,first,cap,rfl,eB,uR,h⟩
 ·exact⟨_, .inl ⟨⟨se,by rw[Cv op hv (by rw[<- nd];exact ho)];exact h⟩,rfl⟩⟩
 ·obtain⟨hf,hm⟩:=tl hv rfl eB uR
  rcases h with⟨ds,rs,eD,hP,om,nd,UD⟩|⟨rs,hH,om,nd⟩|⟨ds,eD,hP,nd,UD⟩|⟨hH,nd⟩
  ·have hr:∀id∈V.aL (first++c.args.toList.map s.ev++cap),s'.o id=s.o id:=fun id au=>ho id Ho
   refine⟨_, .inr ⟨c,f,g,first,cap,rfl,eB,hf, .inl ⟨ds,rs,by rw[hm,gE _ hr];exact eD,hP,om,rfl, ?_⟩⟩⟩
   exact Oh
  ·exact⟨rd, .inr ⟨c,f,g,first,cap,rfl,eB,hf, .inr (.inl ⟨rs,by rw[hm];exact hH.frame ho,om,by rw[uM];exact nd⟩)⟩⟩
  ·have hr:∀id∈V.aL (first++c.args.toList.map s.ev++cap),s'.o id=s.o id:=fun id au=>ho id Ho
   refine⟨_, .inr ⟨c,f,g,first,cap,rfl,eB,hf, .inr (.inr (.inl ⟨ds,by rw[hm,gE _ hr];exact eD,hP,rfl, ?_⟩))⟩⟩
   exact Oh
  ·exact⟨rd, .inr ⟨c,f,g,first,cap,rfl,eB,hf, .inr (.inr (.inr ⟨by rw[hm];exact hH.frame ho,by rw[uM];exact nd⟩))⟩⟩
theorem z8{s s':S}{op:Op}{v:V}{ws rd:List Nat}(hv:∀x∈op.operands,s'.ev x=s.ev x)(ho:∀id∈rd,s'.o id=s.o id)(uM:s'.nx=s.nx)(h:zZ P s op v ws rd):zZ P s' op v ws rd:=by
 obtain⟨c,f,g,first,cap,rfl,eB,uR,h⟩:=h
 obtain⟨hf,hm⟩:=tl hv rfl eB uR
 refine⟨c,f,g,first,cap,rfl,eB,hf, ?_⟩
 rw[hm]
 rcases h with⟨ds,x,eD,hP,kJ,om,nd,L6⟩|⟨x,Δ,hH,om,L6,nd⟩
 ·have hr:∀id∈V.aL (first++c.args.toList.map s.ev++cap),s'.o id=s.o id:=fun id au=>ho id Ho
  exact .inl ⟨ds,x,by rw[gE _ hr];exact eD,hP,kJ,om,by rw[nd];simp only[nr,eB,uR,hf,hm],L6⟩
 ·exact .inr ⟨x,Δ,hH.frame ho,om,L6,by rw[uM];exact nd⟩
theorem tn{ops:Array Oper}:∀ (l:List Oper) (l':List bL) (i:Nat) (o:Oper),ke n ops l=some l'->l[i]? =some o->HM n ops o=some (bO l' i)
 |[],_,_,_,_,h=>by simp at h
 |x::l,l',i,o,h,hi=>by
  simp only[ke]at h
  split at h
  ·rename_i y ys hy hys
   injection h with h;subst h
   cases i with
   |zero=>simp at hi;subst hi;exact hy
   |succ i=>exact tn l ys i o hys (by simpa using hi)
  ·cases h
theorem v7{ops:Array Oper}{o:Oper}{x:bL}(h:HM n ops o=some x):x.op=o.op/\x.dst=o.dst/\fR n o.dst/\
 (match o.guard with|none=>x.gd=none|some (j,want)=>∃d,qS ops j=some d/\x.gd=some (d,want)):=by
 unfold HM at h
 split at h
 ·rename_i hd
  have cB:fR n o.dst:=by
   unfold BZ at hd;unfold fR
   split at hd<;>simp_all
  cases hg:o.guard with
  |none=>simp only[hg]at h;injection h with h;subst h;exact⟨rfl,rfl,cB,rfl⟩
  |some p=>
   obtain⟨j,want⟩:=p
   simp only[hg]at h
   cases OQ:qS ops j with
   |none=>simp[OQ]at h
   |some d=>simp only[OQ]at h;injection h with h;subst h;exact⟨rfl,rfl,cB,d,OQ,rfl⟩
 ·cases h
theorem nX{ops:Array Oper}{ao:Array Bool}(sm:∀k,k<ops.size->∀j∈bz ops k,j<k)(hs:ao.size=ops.size)(hr:Region.ready .any ops ao=[]):∀k,k<ops.size->ao.getD k false=true:=by
 intro k
 induction k using Nat.strongRecOn with
 |_ k ih=>
  intro hk
  cases hl:ao.getD k false with
  |true=>rfl
  |false=>
   have:k∈Region.ready .any ops ao:=by
    refine mem_ready.2 ⟨?_,ops[k],by simp[hk],fun e he hb=> ?_⟩
    ·simp only[Array.getD_eq_getD_getElem?]at hl|-
     rw[Array.getElem?_eq_getElem (by omega)]at hl|-
     simpa using hl
    ·have hm:e.on∈bz ops k:=by
      simp only[bz,Array.getElem?_eq_getElem hk,List.mem_map,List.mem_filter]
      exact⟨e,⟨Array.mem_toList_iff.2 he,hb⟩,rfl⟩
     exact ih _ (sm k hk _ hm) (by have:=sm k hk _ hm;omega)
   rw[hr]at this;cases this
theorem Aa(hs:bU M cg H0 w0 n cx φ s a w):bU M cg H0 w0 n cx φ s a {w with drawn:=w.drawn+1}:=by
 obtain⟨k1,k2⟩:=fA (w':={w with drawn:=w.drawn+1}) hs.heap ⟨rfl,rfl,rfl,Nat.le_refl _,fun _ _ _=>rfl⟩
 exact⟨k1,hs.tr.trans k2,hs.size,hs.defers.mono k2,fun i=>V.aM k2 _ _ (hs.env i)⟩
theorem jN{oc:Nat->bL}{ac:Nat->eJ}{E:Nat->Bool}:∀k,(dX oc ac E s k).nx=s.nx
 |0=>rfl
 |k+1=>by
  simp only[dX]
  split
  ·cases ac k<;>exact jN k
  ·exact jN k
theorem DX{oc:Nat->bL}{ac:Nat->eJ}{E:Nat->Bool}{t:Nat}:∀k,(∀j,j<k->(oc j).dst≠some t)->(dX oc ac E s k).env t=s.env t
 |0,_=>rfl
 |k+1,h=>by
  have ih:=DX (oc:=oc) (ac:=ac) (E:=E) (t:=t) k fun j hj=>h j ah
  simp only[dX]
  split
  ·rw[jS fun d hd e=>h k (by omega) (by rw[hd,e])];exact ih
  ·exact ih
theorem OS{oc:Nat->bL}{ac:Nat->eJ}{E:Nat->Bool}{id:Nat}:∀k,(∀j,j<k->id∉jR (ac j))->(dX oc ac E s k).o id=s.o id
 |0,_=>rfl
 |k+1,h=>by
  have ih:=OS (oc:=oc) (ac:=ac) (E:=E) (id:=id) k fun j hj=>h j ah
  simp only[dX]
  split
  ·rw[me (h k (by omega))];exact ih
  ·exact ih
theorem Ab(bf:P.follows .mixedOrders=true){ops:Array Oper}{l:List bL}{id:Nat}(qp:ke n ops ops.toList=some l)(sm:∀k,k<ops.size->∀j∈bz ops k,j<k){ac:Nat->eJ}{dl wl:List Nat}
 (hs:bU M cg H0 w0 n cx φ s a w) (RG:∀i,i<ops.size->OR P (dX (bO l) ac (fun _=>true) s i) (s.nx+i) (bO l i) (ac i))
 (xP:∀i,i<ops.size->ac i= .c8->∃j∈bz ops i,(ac j).ok=false)
 {po:Nat->Nat->Prop} (DY:∀E:Nat->Bool,(∀k,k<ops.size->E k=true->∀j∈bz ops k,E j=true)->∀k,k<ops.size->(∀j∈bz ops k,E j=true)->∀j,po k j->E j=true) (Ac:∀k,k<ops.size->∀j,po k j->j<k)
 (hc:∀i j,i<j->j<ops.size-> ¬po j i->Compat (bO l) ac (fun i=>u5 (ac i)) i j)
 (hdl:∀i,i<ops.size->∀t,(bO l i).dst=some t->dl.contains t=true) (hwl:∀i,i<ops.size->∀id∈jR (ac i),wl.contains id=true)
 (L6:∀i v ws rd,i<ops.size->ac i= .bF v ws rd->∀id∈ws,wl.contains id=true)
 (hQ:(∀i,i<ops.size->(ac i).ok=true)->∀φ a w,bU M cg H0 w0 n cx φ ⟨(dX (bO l) ac (fun _=>true) s ops.size).env,(dX (bO l) ac (fun _=>true) s ops.size).o,s.nx+ops.size⟩ a w->Q .normal a w)
 (hX:∀i v ws rd,i<ops.size->ac i= .bF v ws rd->∀φ a w val,bU M cg H0 w0 n cx φ (tj dl wl ops.size s) a w->V.den (ak M φ (tj dl wl ops.size s).H) φ (tj dl wl ops.size s).H w v val->Q (.panic [{v:=val,recovered:=false}]) a w):
 (Code.region id ops true).wpIn (dy ro) k P Q a w:=by
 refine wpIn_region_any bf ?_
 have hs:=Aa hs
 generalize ({w with drawn:=w.drawn+1}:World)=w at hs
 let N:=ops.size
 let Ef (ao:Array Bool) (k:Nat):Bool:=ao.getD k false
 let Du (ao:Array Bool) (j:Nat):Prop:=j<s.nx\/∃k,k<N/\Ef ao k=true/\j=s.nx+k
 have key:∀ (fuel:Nat) (ao:Array Bool) (φ:Place) (a:Act) (w:World),ao.size=N->ao.count true+fuel=N->(∀k,k<N->Ef ao k=true->∀j∈bz ops k,Ef ao j=true)->(∀k,k<N->Ef ao k=true->(ac k).ok=true)->
  rV M cg H0 w0 n cx φ (dX (bO l) ac (Ef ao) s N) (Du ao) a w->wpAnyIn (dy ro) k P .any ops Q fuel ao a w:=by
  have fin:∀ (ao:Array Bool) (φ:Place) (a:Act) (w:World),(∀k,k<N->Ef ao k=true)->(∀k,k<N->Ef ao k=true->(ac k).ok=true)->rV M cg H0 w0 n cx φ (dX (bO l) ac (Ef ao) s N) (Du ao) a w->Q .normal a w:=by
   intro ao φ a w bc CC hu
   have e:∀k,k<=N->dX (bO l) ac (Ef ao) s k=dX (bO l) ac (fun _=>true) s k:=by
    intro k
    induction k with
    |zero=>intro _;rfl
    |succ k ih=>intro hk;simp only[dX,bc k (by omega),ih (by omega)]
   rw[e N (Nat.le_refl _)]at hu
   obtain⟨k1,k2⟩:=iC (us':=fun id=>id<s.nx+N) hu.heap (fun id h=>by
    show id<s.nx+N
    rcases h with h|⟨k,hk,_,rfl⟩<;>omega)
   exact hQ (fun i hi=>CC i hi (bc i hi)) φ a w ⟨k1,hu.tr.trans k2,hu.size,hu.defers.mono k2,fun i=>V.aM k2 _ _ (hu.env i)⟩
  intro fuel
  induction fuel with
  |zero=>
   intro ao φ a w dw FT ni CC hu
   have bc:∀k,k<N->Ef ao k=true:=by
    intro k hk
    have h1:ao.count true=ao.size:=ah
    rw[Array.count_eq_size]at h1
    have:=h1 ao[k] (Array.getElem_mem ah)
    simp only[Ef,Array.getD_eq_getD_getElem?]
    rw[Array.getElem?_eq_getElem (by omega)]
    simpa using this.symm
   refine⟨?_,fin ao φ a w bc CC hu⟩
   rw[List.eq_nil_iff_forall_not_mem]
   intro k hk
   obtain⟨h1,o,h2,_⟩:=mem_ready.1 hk
   have hkN:k<N:=(Array.getElem?_eq_some_iff.1 h2).1
   have:=bc k hkN
   simp only[Ef,Array.getD_eq_getD_getElem?]at this h1
   rw[Array.getElem?_eq_getElem (by omega)]at this h1
   simp only[Option.getD_some]at this h1
   rw[this]at h1;cases h1
  |succ fuel ih=>
   intro ao φ a w dw FT ni CC hu
   refine⟨fun hr=>fin ao φ a w (nX sm dw hr) CC hu,fun i hi=> ?_⟩
   obtain⟨h1,o,h2,h3⟩:=mem_ready.1 hi
   have rW:i<N:=(Array.getElem?_eq_some_iff.1 h2).1
   have lJ:Ef ao i=false:=by
    simp only[Ef,Array.getD_eq_getD_getElem?]at h1|-
    rw[Array.getElem?_eq_getElem (by omega)]at h1|-
    simpa using h1
   have Ix:∀j∈bz ops i,Ef ao j=true:=by
    exact Q9
   have Iz:xO N po (Ef ao):=fun k hk iy=>DY _ ni k hk (ni k hk iy)
   obtain⟨XJ,ag2⟩:=agree (s:=s) Ac hc Iz rW lJ (DY _ ni i rW Ix)
   obtain⟨g1,g2,g3,g4⟩:=v7 (tn _ _ i o qp sI)
   have cO: ¬Du ao (s.nx+i):=by
    rintro(h|⟨k,_,hk,he⟩)
    ·omega
    ·have:k=i:=ah
     subst this;rw[lJ]at hk;cases hk
   have CB:∀k,Ef (ao.setIfInBounds i true) k=(Ef ao k||k==i):=by
    intro k
    simp only[Ef,Array.getD_eq_getD_getElem?]
    by_cases e:k=i
    ·subst e;simp[dw,rW]
    ·rw[Array.getElem?_setIfInBounds_ne (Ne.symm e)]
     have:(k==i)=false:=by simpa using e
     simp[this]
   have RH:=insert (s:=s) hc Iz rW lJ CB
   have RI:∀k,k<N->Ef (ao.setIfInBounds i true) k=true->∀j∈bz ops k,Ef (ao.setIfInBounds i true) j=true:=by
    intro k hk iy j hj
    rw[CB]at iy|-
    by_cases e:k=i
    ·subst e;simp[Ix j hj]
    ·have:(k==i)=false:=by simpa using e
     rw[this,Bool.or_false]at iy
     simp[ni k hk iy j hj]
   have IA:(ao.setIfInBounds i true).count true+fuel=N:=by
    have b8:i<ao.size:=ah
    have e1:ao.setIfInBounds i true=ao.set i true b8:=by simp[Array.setIfInBounds,b8]
    have e2:ao[i]=false:=by
     have:=lJ
     simp only[Ef,Array.getD_eq_getD_getElem?]at this
     rw[Array.getElem?_eq_getElem b8]at this
     simpa using this
    rw[e1,Array.count_set b8,e2]
    simp
    omega
   have j8:(ac i).ok=true->∀aD a' w',rV M cg H0 w0 n cx aD (uN o.dst (ac i) (dX (bO l) ac (Ef ao) s N)) (fun id=>Du ao id\/id=s.nx+i) a' w'->wpAnyIn (dy ro) k P .any ops Q fuel (ao.setIfInBounds i true) a' w':=by
    intro XK aD a' w' yU
    refine ih _ aD a' w' (by simp[dw]) IA RI (fun k hk iy=> ?_) ?_
    ·rw[CB]at iy
     by_cases e:k=i
     ·subst e;exact XK
     ·have:(k==i)=false:=by simpa using e
      rw[this,Bool.or_false]at iy
      exact CC k hk iy
    rw[RH,g2]
    obtain⟨k1,k2⟩:=iC (us':=Du (ao.setIfInBounds i true)) yU.heap (fun id h=>by
     rcases h with(h|⟨k,hk,iy,rfl⟩)|rfl
     ·exact .inl h
     ·exact .inr ⟨k,hk,by rw[CB,iy];rfl,rfl⟩
     ·exact .inr ⟨i,rW,by rw[CB];simp,rfl⟩)
    exact Wl
   have FU:∀d want,(bO l i).gd=some (d,want)->(dX (bO l) ac (Ef ao) s N).env d=(dX (bO l) ac (fun _=>true) s i).env d:=fun d want hd=>XJ d (by simp[eE,tmpsOf,hd])
   have aZ:=RG i rW
   have HL:∀x∈(bO l i).op.operands,(dX (bO l) ac (Ef ao) s N).ev x=(dX (bO l) ac (fun _=>true) s i).ev x:=fun x hx=>z7 fun t ht=>XJ t (by
    subst ht
    simp only[eE,tmpsOf,List.mem_append,List.mem_filterMap]
    exact .inl (.inl ⟨.tmp t,Array.mem_toList_iff.2 hx,rfl⟩))
   have Rn:(dX (bO l) ac (Ef ao) s N).nx=(dX (bO l) ac (fun _=>true) s i).nx:=(jN N).trans (jN i).symm
   unfold wpOpIn
   simp only[h2]
   cases uK:ac i with
   |skip=>
    rw[uK]at aZ j8
    have hw:=eT hu.env g4 (eU FU aZ)
    simp only[hw,Bool.false_eq_true,if_false]
    refine⟨fun _ _=>trivial,j8 rfl φ _ w ?_⟩
    have:=iR (v:= .bS []) (val:=undef) hu hu.heap (Trans.refl _ _ _) ⟨#[],rfl,rfl⟩ (dst:=o.dst) g3 rfl (us':=fun id=>Du ao id\/id=s.nx+i) (fun id h=> .inl h)
    exact this
   |val v Δ rd=>
    rw[uK]at aZ j8
    have hw:=eT hu.env g4 (eU FU aZ.1)
    exact W1
   |bF v ws rd=>
    rw[uK]at aZ
    have hw:=eT hu.env g4 (eU FU aZ.1)
    simp only[hw,if_true]
    have oi:=z8 HL (fun id au=>ag2 id (by rw[uK];exact au)) Rn aZ.2
    refine Iy (s0:=s) (ds:=dl) (wl:=wl) (N:=N) hu (fun id h=> .inl (by rw[jN]at h;exact h)) (fun id h=> ?_) g1.symm oi (fun t ht=> ?_) (fun id au=> ?_) (L6 i v ws rd rW uK) (jN N).symm (fun aD w' val h1 h2=>hX i v ws rd rW uK aD a w' val h1 h2)
    ·rw[jN]
     rcases h with h|⟨k,hk,_,rfl⟩<;>omega
    ·refine DX N fun j hj e=> ?_
     have:=hdl j hj t e
     rw[ht]at this;cases this
    ·refine OS N fun j hj hm=> ?_
     have:=hwl j hj id hm
     rw[au]at this;cases this
   |c8=>
    exfalso
    obtain⟨j,hj,FV⟩:=xP i rW uK
    have:=CC j (Nat.lt_trans (sm i rW j hj) rW) (Ix j hj)
    rw[FV]at this;cases this
 refine key ops.size _ φ a w (by simp[N]) (by simp[N,Array.count_replicate]) (fun k hk iy=> ?_) (fun k hk iy=> ?_) ?_
 ·exact Lu
 ·exact Lu
 ·have e:∀k,dX (bO l) ac (Ef (Array.replicate ops.size false)) s k=s:=by
   intro k
   induction k with
   |zero=>rfl
   |succ k ih=>
    have:Ef (Array.replicate ops.size false) k=false:=by
     exact Oe
    simp only[dX,this,ih]
    rfl
  exact W5
end
end
section
section
variable {P:Program}{M:Nat->Prop}{φ cg:Place}{H0:Hp}{w w' w0:World}{n:Nat}{s:S}{us:Nat->Prop}{a:Act}{cx:Cx}{ro:Option Nat}{k:Nat}
variable {Q:Exit->Act->World->Prop}
theorem FW{ops:Array Oper}{po:Nat->Nat->Prop}{m:Nat}{X:V->S->Prop}{K:S->Prop}
 (sm:∀k,k<ops.size->∀j∈bz ops k,j<k)
 (DY:∀E:Nat->Bool,(∀k,k<ops.size->E k=true->∀j∈bz ops k,E j=true)->∀k,k<ops.size->(∀j∈bz ops k,E j=true)->∀j,po k j->E j=true)
 (DZ:∀k,m<=k->k<ops.size->∀j,j<k->po k j)
 (hK:∀s φ a w,K s->bU M cg H0 w0 n cx φ s a w->Q .normal a w)
 (hX:∀v s' aD a' w' val,X v s'->bU M cg H0 w0 n cx aD s' a' w'->V.den (ak M aD s'.H) aD s'.H w' v val->Q (.panic [{v:=val,recovered:=false}]) a' w'):
 ∀ (d t:Nat) (s:S) (φ:Place) (ao:Array Bool) (a:Act) (w:World),t+d=ops.size->ao.size=ops.size->(∀k,k<ops.size->ao.getD k false=decide (k<t))->m<=t->
   bU M cg H0 w0 n cx φ s a w->xp P n ops X K (ops.toList.drop t) s->wpAnyIn (dy ro) k P .any ops Q d ao a w:=by
 intro d
 induction d with
 |zero=>
  intro t s φ ao a w ht dw hl zF hs h
  have e:t=ops.size:=ah
  subst e
  refine⟨?_, ?_⟩
  ·rw[List.eq_nil_iff_forall_not_mem]
   intro j hj
   obtain⟨h1,o,h2,_⟩:=mem_ready.1 hj
   have hjN:j<ops.size:=(Array.getElem?_eq_some_iff.1 h2).1
   have:=hl j hjN
   simp only[Array.getD_eq_getD_getElem?]at this h1
   rw[Array.getElem?_eq_getElem (by omega)]at this h1
   simp only[Option.getD_some]at this h1
   rw[h1]at this
   simp[hjN]at this
  ·rw[List.drop_eq_nil_of_le (by simp)]at h
   exact hK s φ a w h hs
 |succ d ih=>
  intro t s φ ao a w ht dw hl zF hs h
  have htN:t<ops.size:=ah
  refine⟨fun hr=> ?_,fun i hi=> ?_⟩
  ·have:=nX sm dw hr t htN
   rw[hl t htN]at this
   simp at this
  ·obtain⟨h1,o,h2,h3⟩:=mem_ready.1 hi
   have rW:i<ops.size:=(Array.getElem?_eq_some_iff.1 h2).1
   have lJ:ao.getD i false=false:=by
    simp only[Array.getD_eq_getD_getElem?]at h1|-
    rw[Array.getElem?_eq_getElem (by omega)]at h1|-
    simpa using h1
   have hit:t<=i:=by
    have:=hl i rW
    rw[lJ]at this
    have:=of_decide_eq_false this.symm
    omega
   have Ix:∀j∈bz ops i,ao.getD j false=true:=by
    exact Q9
   have ni:∀k,k<ops.size->ao.getD k false=true->∀j∈bz ops k,ao.getD j false=true:=by
    intro k hk iy j hj
    have Xf:=sm k hk j hj
    rw[hl k hk]at iy
    rw[hl j (by omega)]
    have:=of_decide_eq_true iy
    exact decide_eq_true ah
   have Xq:i=t:=by
    rcases Nat.eq_or_lt_of_le hit with e|e
    ·exact e.symm
    ·have:=DY (fun k=>ao.getD k false) ni i rW Ix t (DZ i ah rW t e)
     rw[hl t htN]at this
     simp at this
   subst Xq
   have Ad:ops.toList.drop i=o::ops.toList.drop (i+1):=by
    have Rz:i<ops.toList.length:=by simpa using rW
    rw[List.drop_eq_getElem_cons Rz]
    have:ops.toList[i]=o:=by
     have:=(Array.getElem?_eq_some_iff.1 h2).2
     simpa using this
    rw[this]
   rw[Ad]at h
   obtain⟨g1,g2⟩:=oU hs h
   have LX:∀k,k<ops.size->(ao.setIfInBounds i true).getD k false=decide (k<i+1):=by
    intro k hk
    simp only[Array.getD_eq_getD_getElem?]
    by_cases e:k=i
    ·subst e;simp[dw,rW]
    ·rw[Array.getElem?_setIfInBounds_ne (Ne.symm e)]
     have:=hl k hk
     simp only[Array.getD_eq_getD_getElem?]at this
     rw[this]
     exact decide_eq_decide.2 ah
   have j8:∀s' aD a' w',xp P n ops X K (ops.toList.drop (i+1)) s'->bU M cg H0 w0 n cx aD s' a' w'->wpAnyIn (dy ro) k P .any ops Q d (ao.setIfInBounds i true) a' w':=
    fun s' aD a' w' hk ju=>ih (i+1) s' aD _ a' w' ah (by simp[dw]) LX ah ju hk
   unfold wpOpIn
   simp only[h2]
   split
   ·rename_i hw
    exact vQ hs (g1 hw) (fun s' aD a' w' hk ju=>j8 s' aD a' w' hk ju) (fun v s' aD w' val hx ju hd=>hX v s' aD a w' val hx ju hd)
   ·rename_i hw
    obtain⟨cB,h3⟩:=g2 (by simpa using hw)
    exact⟨fun _ _=>trivial,j8 _ _ _ _ h3 (zO hs cB)⟩
theorem CD(bf:P.follows .mixedOrders=true){ops:Array Oper}{l:List bL}{id:Nat}(qp:ke n ops ops.toList=some l)(sm:∀k,k<ops.size->∀j∈bz ops k,j<k){ac:Nat->eJ}{m:Nat}(hm:m<=ops.size){X:V->S->Prop}{K:S->Prop}
 (hs:bU M cg H0 w0 n cx φ s a w) (RG:∀i,i<m->OR P (dX (bO l) ac (fun _=>true) s i) (s.nx+i) (bO l i) (ac i))
 (XL:∀i,i<m->(ac i).ok=true)
 {po:Nat->Nat->Prop} (DY:∀E:Nat->Bool,(∀k,k<ops.size->E k=true->∀j∈bz ops k,E j=true)->∀k,k<ops.size->(∀j∈bz ops k,E j=true)->∀j,po k j->E j=true) (Ac:∀k,k<ops.size->∀j,po k j->j<k)
 (hc:∀i j,i<j->j<m-> ¬po j i->Compat (bO l) ac (fun i=>u5 (ac i)) i j)
 (DZ:∀k,m<=k->k<ops.size->∀j,j<k->po k j)
 (cw:xp P n ops X K (ops.toList.drop m) ⟨(dX (bO l) ac (fun _=>true) s m).env,(dX (bO l) ac (fun _=>true) s m).o,s.nx+m⟩)
 (hK:∀s φ a w,K s->bU M cg H0 w0 n cx φ s a w->Q .normal a w)
 (hX:∀v s' aD a' w' val,X v s'->bU M cg H0 w0 n cx aD s' a' w'->V.den (ak M aD s'.H) aD s'.H w' v val->Q (.panic [{v:=val,recovered:=false}]) a' w'):
 (Code.region id ops true).wpIn (dy ro) k P Q a w:=by
 refine wpIn_region_any bf ?_
 have hs:=Aa hs
 generalize ({w with drawn:=w.drawn+1}:World)=w at hs
 let N:=m
 let Ef (ao:Array Bool) (k:Nat):Bool:=ao.getD k false
 let Du (ao:Array Bool) (j:Nat):Prop:=j<s.nx\/∃k,k<N/\Ef ao k=true/\j=s.nx+k
 have key:∀ (fuel:Nat) (ao:Array Bool) (φ:Place) (a:Act) (w:World),ao.size=ops.size->ao.count true+fuel=ops.size->(∀k,k<ops.size->Ef ao k=true->∀j∈bz ops k,Ef ao j=true)->(∀k,k<ops.size->Ef ao k=true->k<m)->
  rV M cg H0 w0 n cx φ (dX (bO l) ac (Ef ao) s N) (Du ao) a w->wpAnyIn (dy ro) k P .any ops Q fuel ao a w:=by
  have fin:∀ (fuel:Nat) (ao:Array Bool) (φ:Place) (a:Act) (w:World),ao.size=ops.size->ao.count true+fuel=ops.size->(∀k,k<ops.size->Ef ao k=true->k<m)->(∀k,k<N->Ef ao k=true)->rV M cg H0 w0 n cx φ (dX (bO l) ac (Ef ao) s N) (Du ao) a w->wpAnyIn (dy ro) k P .any ops Q fuel ao a w:=by
   intro fuel ao φ a w dw FT b8 bc hu
   have e:∀k,k<=N->dX (bO l) ac (Ef ao) s k=dX (bO l) ac (fun _=>true) s k:=by
    intro k
    induction k with
    |zero=>intro _;rfl
    |succ k ih=>intro hk;simp only[dX,bc k (by omega),ih (by omega)]
   rw[e N (Nat.le_refl _)]at hu
   obtain⟨k1,k2⟩:=iC (us':=fun id=>id<s.nx+N) hu.heap (fun id h=>by
    show id<s.nx+N
    rcases h with h|⟨k,hk,_,rfl⟩<;>omega)
   have L7:∀k,k<ops.size->ao.getD k false=decide (k<m):=by
    intro k hk
    by_cases h:k<m
    ·rw[decide_eq_true h];exact bc k h
    ·rw[decide_eq_false h]
     cases hb:ao.getD k false with
     |false=>rfl
     |true=>exact absurd (b8 k hk hb) h
   have hcm:ao.count true=m:=by
    have e1:ao=Array.ofFn (n:=ops.size) fun k=>decide (k.1<m):=by
     apply Array.ext
     ·simp[dw]
     ·intro k h1 h2
      have:=L7 k ah
      simp only[Array.getD_eq_getD_getElem?]at this
      rw[Array.getElem?_eq_getElem h1]at this
      simpa using this
    have e2:ao.toList=List.replicate m true++List.replicate (ops.size - m) false:=by
     apply List.ext_getElem?
     intro k
     by_cases hk:k<ops.size
     ·have h1:ao.toList[k]? =some (decide (k<m)):=by
       have:=L7 k hk
       simp only[Array.getD_eq_getD_getElem?]at this
       rw[Array.getElem?_eq_getElem (by omega)]at this
       simp only[Option.getD_some]at this
       rw[Array.getElem?_toList,Array.getElem?_eq_getElem (by omega),this]
      rw[h1]
      by_cases h:k<m
      ·rw[List.getElem?_append_left (by simpa using h)]
       simp[h]
      ·rw[List.getElem?_append_right (by simpa using(by omega:m<=k))]
       rw[List.length_replicate,List.getElem?_replicate,if_pos (by omega),decide_eq_false h]
     ·rw[List.getElem?_eq_none (by simp[dw];omega),List.getElem?_eq_none (by simp;omega)]
    rw[<- Array.count_toList,e2,List.count_append,List.count_replicate_self,List.count_replicate]
    simp
   exact FW sm DY DZ hK hX fuel m ⟨(dX (bO l) ac (fun _=>true) s m).env,(dX (bO l) ac (fun _=>true) s m).o,s.nx+m⟩ φ ao a w ah dw L7 (Nat.le_refl _) ⟨k1,hu.tr.trans k2,hu.size,hu.defers.mono k2,fun i=>V.aM k2 _ _ (hu.env i)⟩ cw
  intro fuel
  induction fuel with
  |zero=>
   intro ao φ a w dw FT ni b8 hu
   have bc:∀k,k<ops.size->Ef ao k=true:=by
    intro k hk
    have h1:ao.count true=ao.size:=ah
    rw[Array.count_eq_size]at h1
    have:=h1 ao[k] (Array.getElem_mem ah)
    simp only[Ef,Array.getD_eq_getD_getElem?]
    rw[Array.getElem?_eq_getElem (by omega)]
    simpa using this.symm
   exact fin 0 ao φ a w dw FT b8 (fun k hk=>bc k ah) hu
  |succ fuel ih=>
   intro ao φ a w dw FT ni b8 hu
   by_cases OT:∀k,k<m->Ef ao k=true
   ·exact fin (fuel+1) ao φ a w dw FT b8 OT hu
   have hex:∃j,j<m/\Ef ao j=false:=by
    apply Classical.byContradiction
    intro sc
    refine OT fun k hk=> ?_
    cases hb:Ef ao k with
    |true=>rfl
    |false=>exact absurd ⟨k,hk,hb⟩ sc
   obtain⟨j0,hj0,XM⟩:=hex
   refine⟨fun hr=> ?_,fun i hi=> ?_⟩
   ·have:=nX sm dw hr j0 ah
    rw[show ao.getD j0 false=false from XM]at this
    cases this
   obtain⟨h1,o,h2,h3⟩:=mem_ready.1 hi
   have hiS:i<ops.size:=(Array.getElem?_eq_some_iff.1 h2).1
   have lJ:Ef ao i=false:=by
    simp only[Ef,Array.getD_eq_getD_getElem?]at h1|-
    rw[Array.getElem?_eq_getElem (by omega)]at h1|-
    simpa using h1
   have Ix:∀j∈bz ops i,Ef ao j=true:=by
    exact Q9
   have rW:i<N:=by
    apply Classical.byContradiction
    intro vG
    have vG:m<=i:=Nat.le_of_not_lt vG
    have:=DY _ ni i hiS Ix j0 (DZ i vG hiS j0 ah)
    rw[XM]at this;cases this
   have Iz:xO N po (Ef ao):=fun k hk iy=>DY _ ni k ah (ni k ah iy)
   obtain⟨XJ,ag2⟩:=agree (s:=s) (n:=N) (fun k hk=>Ac k ah) hc Iz rW lJ (DY _ ni i ah Ix)
   obtain⟨g1,g2,g3,g4⟩:=v7 (tn _ _ i o qp sI)
   have cO: ¬Du ao (s.nx+i):=by
    rintro(h|⟨k,_,hk,he⟩)
    ·omega
    ·have:k=i:=ah
     subst this;rw[lJ]at hk;cases hk
   have CB:∀k,Ef (ao.setIfInBounds i true) k=(Ef ao k||k==i):=by
    intro k
    simp only[Ef,Array.getD_eq_getD_getElem?]
    by_cases e:k=i
    ·subst e;simp[dw,hiS]
    ·rw[Array.getElem?_setIfInBounds_ne (Ne.symm e)]
     have:(k==i)=false:=by simpa using e
     simp[this]
   have RH:=insert (s:=s) hc Iz rW lJ CB
   have RI:∀k,k<ops.size->Ef (ao.setIfInBounds i true) k=true->∀j∈bz ops k,Ef (ao.setIfInBounds i true) j=true:=by
    intro k hk iy j hj
    rw[CB]at iy|-
    by_cases e:k=i
    ·subst e;simp[Ix j hj]
    ·have:(k==i)=false:=by simpa using e
     rw[this,Bool.or_false]at iy
     simp[ni k hk iy j hj]
   have IA:(ao.setIfInBounds i true).count true+fuel=ops.size:=by
    have b8:i<ao.size:=ah
    have e1:ao.setIfInBounds i true=ao.set i true b8:=by simp[Array.setIfInBounds,b8]
    have e2:ao[i]=false:=by
     have:=lJ
     simp only[Ef,Array.getD_eq_getD_getElem?]at this
     rw[Array.getElem?_eq_getElem b8]at this
     simpa using this
    rw[e1,Array.count_set b8,e2]
    simp
    omega
   have j8:(ac i).ok=true->∀aD a' w',rV M cg H0 w0 n cx aD (uN o.dst (ac i) (dX (bO l) ac (Ef ao) s N)) (fun id=>Du ao id\/id=s.nx+i) a' w'->wpAnyIn (dy ro) k P .any ops Q fuel (ao.setIfInBounds i true) a' w':=by
    intro XK aD a' w' yU
    refine ih _ aD a' w' (by simp[dw]) IA RI (fun k hk iy=> ?_) ?_
    ·rw[CB]at iy
     by_cases e:k=i
     ·subst e;exact rW
     ·have:(k==i)=false:=by simpa using e
      rw[this,Bool.or_false]at iy
      exact b8 k hk iy
    rw[RH,g2]
    obtain⟨k1,k2⟩:=iC (us':=Du (ao.setIfInBounds i true)) yU.heap (fun id h=>by
     rcases h with(h|⟨k,hk,iy,rfl⟩)|rfl
     ·exact .inl h
     ·exact .inr ⟨k,hk,by rw[CB,iy];rfl,rfl⟩
     ·exact .inr ⟨i,rW,by rw[CB];simp,rfl⟩)
    exact Wl
   have FU:∀d want,(bO l i).gd=some (d,want)->(dX (bO l) ac (Ef ao) s N).env d=(dX (bO l) ac (fun _=>true) s i).env d:=fun d want hd=>XJ d (by simp[eE,tmpsOf,hd])
   have aZ:=RG i rW
   have HL:∀x∈(bO l i).op.operands,(dX (bO l) ac (Ef ao) s N).ev x=(dX (bO l) ac (fun _=>true) s i).ev x:=fun x hx=>z7 fun t ht=>XJ t (by
    subst ht
    simp only[eE,tmpsOf,List.mem_append,List.mem_filterMap]
    exact .inl (.inl ⟨.tmp t,Array.mem_toList_iff.2 hx,rfl⟩))
   have Rn:(dX (bO l) ac (Ef ao) s N).nx=(dX (bO l) ac (fun _=>true) s i).nx:=(jN N).trans (jN i).symm
   unfold wpOpIn
   simp only[h2]
   cases uK:ac i with
   |skip=>
    rw[uK]at aZ j8
    have hw:=eT hu.env g4 (eU FU aZ)
    simp only[hw,Bool.false_eq_true,if_false]
    refine⟨fun _ _=>trivial,j8 rfl φ _ w ?_⟩
    have:=iR (v:= .bS []) (val:=undef) hu hu.heap (Trans.refl _ _ _) ⟨#[],rfl,rfl⟩ (dst:=o.dst) g3 rfl (us':=fun id=>Du ao id\/id=s.nx+i) (fun id h=> .inl h)
    exact this
   |val v Δ rd=>
    rw[uK]at aZ j8
    have hw:=eT hu.env g4 (eU FU aZ.1)
    exact W1
   |bF v ws rd=>
    have:=XL i rW
    rw[uK]at this;cases this
   |c8=>
    have:=XL i rW
    rw[uK]at this;cases this
 refine key ops.size _ φ a w aI (by simp[Array.count_replicate]) (fun k hk iy=> ?_) (fun k hk iy=> ?_) ?_
 ·exact Lu
 ·exact Lu
 ·have e:∀k,dX (bO l) ac (Ef (Array.replicate ops.size false)) s k=s:=by
   intro k
   induction k with
   |zero=>rfl
   |succ k ih=>
    have:Ef (Array.replicate ops.size false) k=false:=by
     exact Oe
    simp only[dX,this,ih]
    rfl
  exact W5
end
end
end Go.Proofs.YtnkamdiiakdkgaaGreat
