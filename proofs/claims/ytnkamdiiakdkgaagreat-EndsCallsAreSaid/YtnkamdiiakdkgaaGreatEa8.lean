/-
  A PART OF THE PROOF. Conditions: none.
-/
import Derived.OrdersIn
import Derived.Test.YtnkamdiiakdkgaaGreatEa7
set_option linter.unusedSimpArgs false
set_option linter.unusedVariables false
namespace Go.Proofs.YtnkamdiiakdkgaaGreat
section
def ab.refs:ab->List Nat
 | .row cs=>V.aJ cs
 | .loop _ _ env _ _ _ _ _=>V.aJ env
 |_=>[]
def BP(R:List Nat)(o:Nat->ab):Nat->ab:=fun id=>if R.contains id=true then o id else .no
def C8(P:Program)(g:FuncId)(args:List V)(rd:List Nat)(o:Nat->ab)(out:R)(Δ:List (Nat×ab)):Prop:=
 Enters P g/\∀ (o':Nat->ab) (us:Nat->Prop) (M:Nat->Prop) (φ:Place) (w:World) (vals:Array Value),(∀id∈rd,o' id=o id/\us id)->ax M φ ⟨o',us⟩ w->V.az (ak M φ ⟨o',us⟩) φ ⟨o',us⟩ w args vals.toList->
  Calls P g vals w fun e w'=>∃aE,ax M aE ⟨put o' Δ,us⟩ w'/\Trans φ ⟨o',us⟩ w aE ⟨put o' Δ,us⟩ w'/\out.is (ak M aE ⟨put o' Δ,us⟩) w' e
def w7(P:Program)(g:FuncId)(args:List V)(rd:List Nat)(o:Nat->ab)(fr:Nat)(v:V)(Δ:List (Nat×ab)):Prop:=
 Enters P g/\∀ (o':Nat->ab) (us:Nat->Prop) (M:Nat->Prop) (φ:Place) (w:World) (vals:Array Value),(∀id∈rd,o' id=o id/\us id)-> ¬us fr->ax M φ ⟨o',us⟩ w->V.az (ak M φ ⟨o',us⟩) φ ⟨o',us⟩ w args vals.toList->
  Calls P g vals w fun e w'=>∃aE,ax M aE ⟨put o' Δ,fun id=>us id\/id=fr⟩ w'/\Trans φ ⟨o',us⟩ w aE ⟨put o' Δ,fun id=>us id\/id=fr⟩ w'/\∃val,e= .returned val/\V.den (ak M aE ⟨put o' Δ,fun id=>us id\/id=fr⟩) aE ⟨put o' Δ,fun id=>us id\/id=fr⟩ w' v val
mutual
theorem V.lW {B B':Nat->Prop}{φ aE:Place}{H H':Hp}{w:World}(hB:∀b, ¬B b-> ¬B' b):∀ (v:V) (val:Value),(∀id∈v.refs,H'.o id=H.o id/\aE id=φ id/\H'.us id)->V.den B φ H w v val->V.den B' aE H' w v val
 | .d x,val,_,h=>D.aL (w:=w) (w':=w) (fun b _ hn=>⟨rfl,hB b hn⟩) x val h
 | .a8,_,_,h=>h
 | .aa,_,_,_=>trivial
 | .ey,_,_,h=>h
 | .px es,val,_,h=>⟨D.aL (w:=w) (w':=w) (fun b _ hn=>⟨rfl,hB b hn⟩) (.sl es) val h.1,h.2⟩
 | .agg cs,val,hr,h=>by
   obtain⟨a,rfl,h1,h2⟩:=h
   exact⟨a,rfl,V.ff hB cs _ uP h1,h2⟩
 | .bP cs,val,hr,h=>by
   obtain⟨a,rfl,h1⟩:=h
   exact⟨a,rfl,V.ff hB cs _ uP h1⟩
 | .ptr id off,val,hr,h=>by
   exact PF
 | .osl id ep,val,hr,h=>by
   obtain⟨a,b,c⟩:=hr id yh
   obtain⟨h0,h1,h2⟩:=h
   refine⟨h0,c,fun e he=> ?_⟩
   rw[a]at he
   obtain⟨x,y⟩:=h2 e he
   exact⟨x,fun heq=>(y heq).trans b.symm⟩
 | .pe id ep i sz off,val,hr,h=>by
   obtain⟨a,b,c⟩:=hr id yh
   obtain⟨h0,h1,h2⟩:=h
   refine⟨h0,c,fun e he=> ?_⟩
   rw[a]at he
   obtain⟨x,y⟩:=h2 e he
   exact ML
 | .pp cs off,val,_,h=>by
   obtain⟨a,ev,h1,h2,h3,h5,h4⟩:=h
   exact UD
 | .func fn first cap,val,hr,h=>by
   obtain⟨f,c,rfl,h1,h2⟩:=h
   exact⟨f,c,rfl,V.ff hB first _ (fun id au=>hr id (by simp[V.refs,au])) h1,V.ff hB cap _ (fun id au=>hr id (by simp[V.refs,au])) h2⟩
 | .iface t x,val,hr,h=>by
   obtain⟨u,rfl,h⟩:=h
   exact⟨u,rfl,V.lW hB x u uP h⟩
 | .uU id off n,val,hr,h=>by
   exact PF
 | .mp id,val,hr,h=>by
   obtain⟨a,b,c⟩:=hr id yh
   obtain⟨h0,h1,h2⟩:=h
   refine⟨h0,c,fun bG=> ?_⟩
   rw[a]at bG
   exact(h2 bG).trans b.symm
 | .ir id,val,hr,h=>by
   exact PF
theorem V.ff {B B':Nat->Prop}{φ aE:Place}{H H':Hp}{w:World}(hB:∀b, ¬B b-> ¬B' b):∀ (vs:List V) (vals:List Value),(∀id∈V.aJ vs,H'.o id=H.o id/\aE id=φ id/\H'.us id)->V.az B φ H w vs vals->V.az B' aE H' w vs vals
 |[],_,_,h=>h
 |v::vs,_,hr,h=>by
  obtain⟨u,us,rfl,h1,h2⟩:=h
  exact⟨u,us,rfl,V.lW hB v u (fun id au=>hr id (by simp[V.aJ,au])) h1,V.ff hB vs us (fun id au=>hr id (by simp[V.aJ,au])) h2⟩
end
theorem ES{env:List V}{i id:Nat}(h:id∈(aW env i).refs):id∈V.aJ env:=by
 unfold aW at h
 induction env generalizing i with
 |nil=>simp[V.refs]at h
 |cons v env ih=>
  cases i with
  |zero=>simp only[List.getD_cons_zero]at h;simp[V.aJ,h]
  |succ i=>simp only[List.getD_cons_succ]at h;simp[V.aJ,ih h]
theorem aM.refs {M M':Nat->Prop}{φ aE:Place}{H H':Hp}{w:World}{id:Nat}(hB:∀b, ¬ak M φ H b-> ¬ak M' aE H' b)(ho:H'.o id=H.o id)(dD:aE id=φ id)
 (hr:∀j∈(H.o id).refs,H'.o j=H.o j/\aE j=φ j/\H'.us j) (h:aM M φ H w id):aM M' aE H' w id:=by
 have hd:∀b,cK w b-> ¬ak M φ H b->w.heap[b]? =w.heap[b]? /\ ¬ak M' aE H' b:=fun b _ hn=>⟨rfl,hB b hn⟩
 unfold aM at*
 rw[ho]
 cases hx:H.o id with
 |no=>trivial
 |row cs=>
  simp only[hx]at h|-
  obtain⟨b,dt,ty,h1,h2,h3,h4⟩:=h
  exact⟨b,dt,ty,dD.trans h1,h2,V.ff hB cs _ (fun j hj=>hr j (by rw[hx];exact hj)) h3,h4⟩
 |arr ep ty sz es=>
  simp only[hx]at h|-
  obtain⟨h0,xs,h1,evs,h2,h3,h4⟩:=h
  exact⟨h0,xs,by rw[dD];exact h1,evs,h2,h3,D.aN hd es evs h4⟩
 |qu ep es=>
  simp only[hx]at h|-
  rw[dD]
  exact D.aL hd (.sl es) _ h
 |map kt vt l=>
  simp only[hx]at h|-
  obtain⟨b,es,clock,h1,h2,h4,h3⟩:=h
  exact⟨b,es,clock,dD.trans h1,h2,h4,aI.mono hd l _ h3⟩
 |fU l=>
  simp only[hx]at h|-
  rw[dD]
  exact D.aL hd (.mp _ _) _ h
 |np l last=>
  simp only[hx]at h|-
  obtain⟨b,h1,h2⟩:=h
  exact⟨b,dD.trans h1,h2.mono hd rfl⟩
 |wx s pos=>
  simp only[hx]at h|-
  obtain⟨b,h1,h2⟩:=h
  exact⟨b,dD.trans h1,h2⟩
 |loop nf n env ps iL eI st Em=>
  simp only[hx]at h|-
  obtain⟨b,r,h1,h2,h0,h3,h4,h5,h6,h7,h8,h9⟩:=h
  exact⟨b,r,dD.trans h1,h2,h0,h3,h4,h5,h6,h7,h8,fun i=>V.lW hB _ _ (fun j hj=>hr j (by rw[hx];exact ES hj)) (h9 i)⟩
section
variable {P:Program}
theorem BQ{o o':Nat->ab}{Δ:List (Nat×ab)}{id:Nat}(h:o id=o' id):put o Δ id=put o' Δ id:=C9 h
where C9 {o o':Nat->ab}:∀ {Δ:List (Nat×ab)} {id:Nat},o id=o' id->put o Δ id=put o' Δ id
 |[],_,h=>h
 |x::Δ,id,h=>by
  simp only[put,List.foldl_cons]
  refine C9 (Δ:=Δ) (o:=aA o x.1 x.2) (o':=aA o' x.1 x.2) ?_
  simp only[aH]
  split
  ·rfl
  ·exact h
theorem w8{o:Nat->ab}:∀ {Δ:List (Nat×ab)} {id:Nat},(∀x∈Δ,x.1≠id)->put o Δ id=o id
 |[],_,_=>rfl
 |x::Δ,id,h=>by
  have:=w8 (o:=aA o x.1 x.2) (Δ:=Δ) (id:=id) (fun y hy=>h y rY)
  simp only[put,List.foldl_cons]at this|-
  rw[this];simp[Ne.symm (h x (by simp))]
theorem C8.lT {g:FuncId}{args:List V}{rd:List Nat}{o:Nat->ab}{nx:Nat}{out:R}{Δ:List (Nat×ab)}(ud:∀id∈rd,id<nx)(dn:∀id∈V.aJ args,id∈rd)(mC:∀id∈rd,∀j∈(o id).refs,j∈rd)(Ta:∀x∈Δ,x.1∈rd)(aaI:∀x∈Δ,∀j∈x.2.refs,j∈rd)
 (h:cZ P g args (BP rd o) nx
  (fun v o1 _=>(∀id∈rd,o1 id=put o Δ id)/\∃vs rs,v=(match vs with|[v]=>v|vs=> .bP vs)/\bQ o1 vs=some rs/\out= .ret rs/\∀id∈V.a7 vs,id∉rd)
  (fun v o1 _=>(∀id∈rd,o1 id=put o Δ id)/\∃x,dp o1 v=some x/\out= .bD x/\∀id∈v.ids,id∉rd)):C8 P g args rd o out Δ:=by
 refine⟨h.1,fun o' us M φ w vals ho hH hd=> ?_⟩
 let M1:Nat->Prop:=fun b=>M b\/∃id,id∉rd/\(o' id).live=true/\cX (φ id)=some b
 let HR:Hp:=hp (BP rd o) nx
 have sG:∀id,id∈rd->BP rd o id=o' id:=fun id au=>by simp[BP,au,(ho id au).1]
 have qK:∀id,id∉rd->BP rd o id= .no:=fun id au=>by simp[BP,au]
 have hB:∀b,ak M1 φ HR b↔ak M φ ⟨o',us⟩ b:=by
  intro b
  constructor
  ·rintro((h|⟨id,h1,h2,h3⟩)|⟨id,h1,h2⟩)
   ·exact .inl h
   ·exact .inr ⟨id,h2,h3⟩
   ·by_cases au:id∈rd
    ·exact .inr ⟨id,by show(o' id).live=true;rw[<- sG id au];exact h1,h2⟩
    ·have:HR.o id= .no:=qK id au
     rw[this]at h1;cases h1
  ·rintro(h|⟨id,h1,h2⟩)
   ·exact .inl (.inl h)
   ·by_cases au:id∈rd
    ·exact .inr ⟨id,by show(BP rd o id).live=true;rw[sG id au];exact h1,h2⟩
    ·exact .inl (.inr ⟨id,au,h1,h2⟩)
 have M8:∀id∈rd,HR.o id=o' id/\φ id=φ id/\HR.us id:=fun id au=>⟨sG id au,rfl,ud id au⟩
 have hHR:ax M1 φ HR w:=by
  refine⟨fun id=> ?_,fun id hn=> ?_,fun i j b hi hj bi bj=> ?_,fun b hb=> ?_,fun b hb=> ?_⟩
  ·by_cases au:id∈rd
   ·refine aM.refs (H:=⟨o',us⟩) (M:=M) (φ:=φ) (fun b hn hb=>hn ((hB b).1 hb)) (sG id au) rfl (fun j hj=>M8 j ?_) (hH.ok id)
    have:o' id=o id:=(ho id au).1
    exact mC id au j (by rw[<- this];exact hj)
   ·unfold aM
    rw[show HR.o id= .no from qK id au];trivial
  ·exact qK id fun au=>hn (ud id au)
  ·have live:∀i,(HR.o i).live=true->i∈rd/\(o' i).live=true:=fun i hi=>by
    by_cases au:i∈rd
    ·exact⟨au,by rw[<- sG i au];exact hi⟩
    ·rw[show HR.o i= .no from qK i au]at hi;cases hi
   exact hH.apart i j b (live i hi).2 (live j hj).2 bi bj
  ·obtain⟨id,h1,h2⟩:=hb
   have au:id∈rd:=by
    by_cases au:id∈rd
    ·exact au
    ·rw[show HR.o id= .no from qK id au]at h1;cases h1
   rw[show HR.o id=o' id from sG id au]at h1
   obtain⟨k1,k2⟩:=hH.ours b ⟨id,h1,h2⟩
   refine⟨?_,k2⟩
   rintro(hM|⟨j,j1,j2,j3⟩)
   ·exact k1 hM
   ·exact j1 (hH.apart j id b j2 h1 j3 h2 ▸ au)
  ·rcases hb with hb|⟨id,h1,h2,h3⟩
   ·exact hH.x5 b hb
   ·exact(hH.ours b ⟨id,h2,h3⟩).2
 have hdR:V.az (ak M1 φ HR) φ HR w args vals.toList:=V.ff (H:=⟨o',us⟩) (fun b hn hb=>hn ((hB b).1 hb)) _ _ (fun id au=>M8 id (dn id au)) hd
 refine(h.2 M1 φ w vals hHR hdR).mono ?_
 rintro e w' ⟨gU,o1,x9,v,k1,k2,k3⟩
 have main:(∀id∈rd,o1 id=put o Δ id)->∃aE,ax M aE ⟨put o' Δ,us⟩ w'/\Trans φ ⟨o',us⟩ w aE ⟨put o' Δ,us⟩ w'/\∀b,ak M aE ⟨put o' Δ,us⟩ b->M1 b\/∃id∈rd,(o1 id).live=true/\cX (gU id)=some b:=by
  intro tY
  have C0:∀id∈rd,put o' Δ id=o1 id:=fun id au=>(BQ (ho id au).1).trans (tY id au).symm
  have CZ:∀id,id∉rd->put o' Δ id=o' id:=fun id au=>w8 fun x hx e=>au (e ▸ Ta x hx)
  let EK:Place:=fun id=>if id∈rd then gU id else φ id
  have w9:∀id∈rd,EK id=gU id:=fun id au=>if_pos au
  have zm:∀id,id∉rd->EK id=φ id:=fun id au=>if_neg au
  let H2:Hp:=⟨put o' Δ,us⟩
  have cq:∀b,cp EK H2 b->(∃id∈rd,(o1 id).live=true/\cX (gU id)=some b)\/∃id,id∉rd/\(o' id).live=true/\cX (φ id)=some b:=by
   rintro b ⟨id,h1,h2⟩
   by_cases au:id∈rd
   ·exact .inl ⟨id,au,by rw[<- C0 id au];exact h1,by rw[<- w9 id au];exact h2⟩
   ·exact .inr ⟨id,au,by rw[<- CZ id au];exact h1,by rw[<- zm id au];exact h2⟩
  have ZH:∀b,ak M EK H2 b->ak M1 gU (hp o1 x9) b:=by
   rintro b (hb|hb)
   ·exact .inl (.inl hb)
   ·rcases cq b hb with⟨id,h1,h2,h3⟩|⟨id,h1,h2,h3⟩
    ·exact .inr ⟨id,h2,h3⟩
    ·exact .inl (.inr ⟨id,h1,h2,h3⟩)
  have uz:du φ ⟨o',us⟩ EK H2:=by
   refine⟨fun id h=>h,fun id hu hr=> ?_,fun id e' hu he=> ?_⟩
   ·by_cases au:id∈rd
    ·rw[show H2.o id=o1 id from C0 id au]at hr
     obtain⟨a,b⟩:=k2.rel.row id (ud id au) hr
     rw[show HR.o id=o' id from sG id au]at a
     exact⟨a,(w9 id au).trans b⟩
    ·rw[show H2.o id=o' id from CZ id au]at hr
     exact⟨hr,zm id au⟩
   ·by_cases au:id∈rd
    ·rw[show H2.o id=o1 id from C0 id au]at he
     obtain⟨e0,a,b,c⟩:=k2.rel.ep id e' (ud id au) he
     rw[show HR.o id=o' id from sG id au]at a
     exact⟨e0,a,b,fun heq=>(w9 id au).trans (c heq)⟩
    ·rw[show H2.o id=o' id from CZ id au]at he
     exact⟨e',he,Nat.le_refl _,fun _=>zm id au⟩
  have x6:∀b,cK w b-> ¬ak M φ ⟨o',us⟩ b->w'.heap[b]? =w.heap[b]? /\ ¬ak M EK H2 b:=by
   intro b hc hn
   obtain⟨a,c⟩:=k2.blocks (M:=M1) b hc (fun hb=>hn ((hB b).1 hb))
   exact⟨a,fun hb=>c (ZH b hb)⟩
  have ue:∀b,b<w.heap.size-> ¬cp φ HR b->w'.heap[b]? =w.heap[b]? :=fun b hb hl=>k2.keep.block b hb hl
  have ht:Trans φ ⟨o',us⟩ w EK H2 w':=by
   refine⟨⟨k2.keep.os,k2.keep.tape,k2.keep.output,k2.keep.size,fun b hb hl=>ue b hb fun⟨id,h1,h2⟩=>hl ?_⟩,fun b hb=> ?_,uz⟩
   ·by_cases au:id∈rd
    ·exact⟨id,by show(o' id).live=true;rw[<- sG id au];exact h1,h2⟩
    ·rw[show HR.o id= .no from qK id au]at h1;cases h1
   ·rcases cq b hb with⟨id,h1,h2,h3⟩|⟨id,h1,h2,h3⟩
    ·rcases k2.grow b ⟨id,h2,h3⟩with⟨j,j1,j2⟩|x8
     ·by_cases au:j∈rd
      ·exact .inl ⟨j,by show(o' j).live=true;rw[<- sG j au];exact j1,j2⟩
      ·rw[show HR.o j= .no from qK j au]at j1;cases j1
     ·exact .inr x8
    ·exact .inl ⟨id,h2,h3⟩
  refine⟨EK,⟨fun id=> ?_,fun id hn=> ?_,fun i j b hi hj bi bj=> ?_,fun b hb=> ?_,fun b hb=>Nat.lt_of_lt_of_le (hH.x5 b hb) k2.keep.size⟩,ht,fun b hb=> ?_⟩
  ·by_cases au:id∈rd
   ·refine aM.refs (H:=hp o1 x9) (M:=M1) (φ:=gU) (fun b hn hb=>hn (ZH b hb)) (C0 id au) (w9 id au) (fun j hj=> ?_) (k1.ok id)
    have F0:j∈rd:=by
     have e1:o1 id=put o Δ id:=tY id au
     have hj:j∈(put o Δ id).refs:=by rw[<- e1];exact hj
     have key:∀ (Da:List (Nat×ab)) (q:Nat->ab),(∀x∈Da,∀j∈x.2.refs,j∈rd)->(∀j∈(q id).refs,j∈rd)->∀j∈(put q Da id).refs,j∈rd:=by
      intro Da
      induction Da with
      |nil=>intro q _ h2;exact h2
      |cons x Da ih=>
       intro q h1 h2
       simp only[put,List.foldl_cons]
       refine ih (aA q x.1 x.2) (fun y hy=>h1 y rY) ?_
       simp only[aH]
       split
       ·exact h1 x aK
       ·exact h2
     exact key Δ o aaI (mC id au) j hj
    exact⟨C0 j F0,w9 j F0,(ho j F0).2⟩
   ·exact aM.yz x6 uz (CZ id au) (zm id au) (fun hl b hb=>ue b (hH.ours b ⟨id,hl,hb⟩).2 fun⟨j,j1,j2⟩=>by
     by_cases hj:j∈rd
     ·rw[show HR.o j=o' j from sG j hj]at j1
      exact au (hH.apart id j b hl j1 hb j2 ▸ hj)
     ·rw[show HR.o j= .no from qK j hj]at j1;cases j1) (hH.ok id)
  ·have au:id∉rd:=fun au=>hn (ho id au).2
   exact(CZ id au).trans (hH.fresh id hn)
  ·by_cases e1:i∈rd<;>by_cases e2:j∈rd
   ·refine k1.apart i j b ?_ ?_ (by rw[<- w9 i e1];exact bi) (by rw[<- w9 j e2];exact bj)
    ·show(o1 i).live=true;rw[<- C0 i e1];exact hi
    ·show(o1 j).live=true;rw[<- C0 j e2];exact hj
   ·exfalso
    refine(k1.ours b ⟨i,by show(o1 i).live=true;rw[<- C0 i e1];exact hi,by rw[<- w9 i e1];exact bi⟩).1 (.inr ⟨j,e2,by rw[<- CZ j e2];exact hj,by rw[<- zm j e2];exact bj⟩)
   ·exfalso
    refine(k1.ours b ⟨j,by show(o1 j).live=true;rw[<- C0 j e2];exact hj,by rw[<- w9 j e2];exact bj⟩).1 (.inr ⟨i,e1,by rw[<- CZ i e1];exact hi,by rw[<- zm i e1];exact bi⟩)
   ·exact hH.apart i j b (by show(o' i).live=true;rw[<- CZ i e1];exact hi) (by show(o' j).live=true;rw[<- CZ j e2];exact hj) (by rw[<- zm i e1];exact bi) (by rw[<- zm j e2];exact bj)
  ·rcases cq b hb with⟨id,h1,h2,h3⟩|⟨id,h1,h2,h3⟩
   ·obtain⟨a,c⟩:=k1.ours b ⟨id,h2,h3⟩
    exact⟨fun hM=>a (.inl hM),c⟩
   ·obtain⟨a,c⟩:=hH.ours b ⟨id,h2,h3⟩
    exact⟨a,Nat.lt_of_lt_of_le c k2.keep.size⟩
  ·rcases hb with hb|hb
   ·exact .inl (.inl hb)
   ·rcases cq b hb with h|h
    ·exact .inr h
    ·exact .inl (.inr h)
 have res:∀ (vs:List V) (xs:List D) (us':List Value),(∀id∈rd,o1 id=put o Δ id)->bQ o1 vs=some xs->(∀id∈V.a7 vs,id∉rd)->V.az (ak M1 gU (hp o1 x9)) gU (hp o1 x9) w' vs us'->
  ∃aE,ax M aE ⟨put o' Δ,us⟩ w'/\Trans φ ⟨o',us⟩ w aE ⟨put o' Δ,us⟩ w'/\D.az (ak M aE ⟨put o' Δ,us⟩) w' xs us':=by
  intro vs xs us' tY h1 aaJ h2
  obtain⟨f1,f2,f3,f4,f5⟩:=cA k1 (V.a7 vs) (cD vs _ h2)
  have h3:=cQ f1 vs xs us' f3 h1 (V.aN f2 _ _ h2)
  obtain⟨aE,m1,m2,m3⟩:=main tY
  refine⟨aE,m1,m2,D.aN (w:=w') (w':=w') (fun b _ hn=>⟨rfl,fun hb=>hn ?_⟩) xs us' h3⟩
  rcases m3 b hb with hb|⟨id,i1,i2,i3⟩
  ·exact .inl hb
  ·exact .inr ⟨id,by rw[f4 id fun hm=>aaJ id hm i1];exact i2,i3⟩
 cases e with
 |outgrown=>exact k3.elim
 |panicked ch=>
  obtain⟨val,rfl,g1,tY,x,g2,rfl,g3⟩:=k3
  obtain⟨aE,m1,m2,m3⟩:=res [v] [x] [val] tY (by simp[bQ,g2]) (by simpa[V.a7]using g3) ⟨val,[],rfl,g1,rfl⟩
  obtain⟨u,us2,he,h2,_⟩:=m3
  simp at he;obtain⟨rfl,rfl⟩:=he
  exact⟨aE,m1,m2,val,rfl,h2⟩
 |returned val=>
  obtain⟨g1,tY,vs,rs,rfl,g2,rfl,g3⟩:=k3
  match vs,g1,g2,g3 with
  |[],g1,g2,g3=>
   obtain⟨arr,rfl,hv⟩:=g1
   simp only[bQ,Option.some.injEq]at g2;subst g2
   obtain⟨aE,m1,m2,m3⟩:=res [] [] arr.toList tY rfl (by simp[V.a7]) hv
   exact⟨aE,m1,m2,arr,rfl,m3⟩
  |[v],g1,g2,g3=>
   obtain⟨aE,m1,m2,m3⟩:=res [v] rs [val] tY g2 g3 ⟨val,[],rfl,g1,rfl⟩
   refine⟨aE,m1,m2, ?_⟩
   cases rs with
   |nil=>cases m3
   |cons x l=>
    obtain⟨u,us2,he,h2,h3⟩:=m3
    simp at he;obtain⟨rfl,rfl⟩:=he
    cases l with
    |nil=>exact h2
    |cons y l=>obtain⟨_,_,h,_⟩:=h3;cases h
  |v::v2::l,g1,g2,g3=>
   obtain⟨arr,rfl,hv⟩:=g1
   obtain⟨aE,m1,m2,m3⟩:=res (v::v2::l) rs arr.toList tY g2 g3 hv
   refine⟨aE,m1,m2, ?_⟩
   have hl:=D.ay _ _ m3
   have Vc:=V.ay _ _ hv
   match rs,hl,m3 with
   |[],hl,_=>exact CG
   |[x],hl,_=>exact CG
   |x::y::l,_,m3=>exact⟨arr,rfl,m3⟩
end
end
section
inductive eu where
 |skip|val (v:V) (Δ:List (Nat×ab)) (rd:List Nat)|bD (v:V) (ws rd:List Nat)|cX
 deriving Inhabited
def eu.ok:eu->Bool
 | .skip| .val .. =>true
 |_=>false
def uf(dst:Option Tmp)(x:eu)(s:S):S:=
 match x with
 | .skip=>⟨aT s.env dst (.bP []),s.o,s.nx⟩
 | .val v Δ _=>⟨aT s.env dst v,put s.o Δ,s.nx⟩
 | .bD .. | .cX=>⟨aT s.env dst .aa,s.o,s.nx⟩
def jI:eu->List Nat
 | .val _ Δ _=>Δ.map (·.1)
 |_=>[]
def uA:eu->List Nat
 | .val _ _ rd=>rd
 | .bD _ _ rd=>rd
 |_=>[]
def V9(P:Program)(g:FuncId)(ds:List D)(v:V):Prop:=
 Enters P g/\∀ (M:Nat->Prop) (w:World) (vals:Array Value),(∀b,M b->b<w.heap.size)->D.az M w ds vals.toList->
  Calls P g vals w fun e w'=>dk (fun _=>False) w w'/\∃val,e= .returned val/\∀φ H,V.den M φ H w' v val
theorem V9.lT {P:Program}{g:FuncId}{ds:List D}{v:V}(hr:v.refs=[])(h:cZ P g (ds.map .d) (fun _=> .no) 0 (fun v' _ _=>v'=v) (fun _ _ _=>False)):V9 P g ds v:=by
 refine⟨h.1,fun M w vals hM hd=> ?_⟩
 let b7:Place:=fun _=> .nilFunc
 have ue:∀b, ¬cp b7 (hp (fun _=> .no) 0) b:=by rintro b ⟨id,hl,_⟩;simp[hp,ab.live]at hl
 refine(h.2 M b7 w vals (j7 b7 hM) ((V.bX _ _).2 (D.aN (w:=w) (w':=w) (B:=M) (fun b _ hB=>⟨rfl,fun h=>h.elim hB (ue b)⟩) _ _ hd))).mono ?_
 rintro e w' ⟨aE,o',nx',v',k1,k2,k3⟩
 refine⟨⟨k2.keep.os,k2.keep.tape,k2.keep.output,k2.keep.size,fun k hk _=>k2.keep.block k hk (ue k)⟩, ?_⟩
 cases e with
 |outgrown=>exact k3.elim
 |panicked ch=>obtain⟨_,_,_,h⟩:=k3;exact h.elim
 |returned val=>
  obtain⟨g1,rfl⟩:=k3
  exact⟨val,rfl,fun φ H=>V.lW (B:=ak M aE (hp o' nx')) (φ:=aE) (H:=hp o' nx') (fun b hb hm=>hb (.inl hm)) v' val (fun id au=>by rw[hr]at au;cases au) g1⟩
def vn(P:Program)(s:S)(fr:Nat)(op:Op)(v:V)(Δ:List (Nat×ab))(rd:List Nat):Prop:=
 ((∃rE,fm P s fr op=some (v,Δ,rE))/\rd=m5 s op)\/
 (∃c f g first cap,op= .call c/\c.callee= .value f/\s.ev f= .func (.func g) first cap/\
  ((∃ds rs,bQ s.o (first++c.args.toList.map s.ev++cap)=some ds/\aR P g ds (.ret rs)/\v=iu rs/\rd=m5 s op/\
    (Δ=bZ s.o (V.a7 (first++c.args.toList.map s.ev++cap))\/D.iS rs=true/\Δ=[]))\/
   (∃rs,C8 P g (first++c.args.toList.map s.ev++cap) rd s.o (.ret rs) Δ/\v=iu rs/\∀id∈rd,id<s.nx)\/
   (∃ds,bQ s.o (first++c.args.toList.map s.ev++cap)=some ds/\V9 P g ds v/\rd=m5 s op/\Δ=bZ s.o (V.a7 (first++c.args.toList.map s.ev++cap)))\/
   (w7 P g (first++c.args.toList.map s.ev++cap) rd s.o fr v Δ/\∀id∈rd,id<s.nx)))
def zo(P:Program)(s:S)(op:Op)(v:V)(ws rd:List Nat):Prop:=
 ∃c f g first cap,op= .call c/\c.callee= .value f/\s.ev f= .func (.func g) first cap/\
  ((∃ds x,bQ s.o (first++c.args.toList.map s.ev++cap)=some ds/\aR P g ds (.bD x)/\x.flat=true/\v= .d x/\rd=m5 s op/\ws=[])\/
   (∃x Δ,C8 P g (first++c.args.toList.map s.ev++cap) rd s.o (.bD x) Δ/\v= .d x/\ws=Δ.map (·.1)/\∀id∈rd,id<s.nx))
def dq(s:S)(gd:Option (Nat×Bool))(b:Bool):Prop:=
 match gd with
 |none=>b=true
 |some (d,want)=>match s.env d with
  | .d (.bool c)=>b=(c==want)
  | .bP []=>b=false
  |_=>False
def Nu(P:Program)(s:S)(fr:Nat)(o:bI)(x:eu):Prop:=
 match x with
 | .skip=>dq s o.gd false
 | .val v Δ rd=>dq s o.gd true/\vn P s fr o.op v Δ rd
 | .bD v ws rd=>dq s o.gd true/\zo P s o.op v ws rd
 | .cX=>True
def dK(oc:Nat->bI)(ac:Nat->eu)(E:Nat->Bool)(s:S):Nat->S
 |0=>s
 |k+1=>if E k then uf (oc k).dst (ac k) (dK oc ac E s k)else dK oc ac E s k
structure Compat (oc:Nat->bI) (ac:Nat->eu) (R:Nat->List Nat) (i j:Nat):Prop where
 di:∀d,(oc i).dst=some d->d∉eh (oc j)
 dj:∀d,(oc j).dst=some d->d∉eh (oc i)
 wi:∀id∈jI (ac i),id∉R j/\id∉jI (ac j)
 wj:∀id∈jI (ac j),id∉R i
section
variable {P:Program}{oc:Nat->bI}{ac:Nat->eu}{s:S}{n:Nat}{E:Nat->Bool}{R:Nat->List Nat}{pr:Nat->Nat->Prop}
theorem BR{env:Nat->V}{dst:Option Tmp}{v:V}{t:Nat}(h:∀d,dst=some d->d≠t):aT env dst v t=env t:=by
 cases dst with
 |none=>rfl
 |some d=>simp only[aT,aH];rw[if_neg (fun e=>h d rfl e.symm)]
theorem fg{o:Nat->ab}:∀ {Δ:List (Nat×ab)} {id:Nat},id∉Δ.map (·.1)->put o Δ id=o id
 |[],_,_=>rfl
 |x::Δ,id,h=>by
  simp only[List.map_cons,List.mem_cons,not_or]at h
  have:=fg (o:=aA o x.1 x.2) (Δ:=Δ) h.2
  simp only[put,List.foldl_cons]at this|-
  rw[this];simp[h.1]
theorem xa{o o':Nat->ab}:∀ {Δ:List (Nat×ab)} {id:Nat},id∈Δ.map (·.1)\/o id=o' id->put o Δ id=put o' Δ id
 |[],_,h=>by rcases h with h|h;· simp at h
             ·exact h
 |x::Δ,id,h=>by
  simp only[put,List.foldl_cons]
  refine xa (Δ:=Δ) (o:=aA o x.1 x.2) (o':=aA o' x.1 x.2) ?_
  simp only[List.map_cons,List.mem_cons]at h
  simp only[aH]
  by_cases e:id=x.1
  ·right;simp[e]
  ·rcases h with(h|h)|h
   ·exact absurd h e
   ·exact .inl h
   ·right;simp[e,h]
theorem jJ{dst:Option Tmp}{x:eu}{t:Nat}(h:∀d,dst=some d->d≠t):(uf dst x s).env t=s.env t:=by
 cases x<;>exact BR h
theorem lX{dst:Option Tmp}{x:eu}{id:Nat}(h:id∉jI x):(uf dst x s).o id=s.o id:=by
 cases x with
 |val v Δ rd=>exact fg h
 |_=>rfl
theorem xb{dst:Option Tmp}{x:eu}{s':S}{t:Nat}(h:s.env t=s'.env t):(uf dst x s).env t=(uf dst x s').env t:=by
 cases x<;>cases dst<;>simp only[uf,aT,aH]<;>first|exact h|(split<;>first|rfl|exact h)
theorem BS{dst:Option Tmp}{x:eu}{s':S}{id:Nat}(h:s.o id=s'.o id):(uf dst x s).o id=(uf dst x s').o id:=by
 cases x with
 |val v Δ rd=>exact xa (.inr h)
 |_=>exact h
theorem put_comm{o:Nat->ab}{Δ Da:List (Nat×ab)}(h:∀id∈Δ.map (·.1),id∉Da.map (·.1)):put (put o Δ) Da=put (put o Da) Δ:=by
 funext id
 by_cases h1:id∈Δ.map (·.1)
 ·rw[fg (h id h1)]
  exact xa (.inl h1)
 ·rw[fg (Δ:=Δ) h1]
  by_cases h2:id∈Da.map (·.1)
  ·exact xa (.inl h2)
  ·rw[fg h2,fg h2,fg h1]
theorem vo{env:Nat->V}{d d':Option Tmp}{v v':V}(h:∀t,d=some t->d'≠some t):aT (aT env d v) d' v'=aT (aT env d' v') d v:=by
 cases d with
 |none=>rfl
 |some t=>
  cases d' with
  |none=>rfl
  |some t'=>
   have ku:t'≠t:=fun e=>h t rfl (by rw[e])
   funext i
   simp only[aT,aH]
   by_cases e1:i=t<;>by_cases e2:i=t'
   ·exact absurd (e2.symm.trans e1) ku
   all_goals simp[e1,e2]
   ·intro e;exact absurd e.symm ku
   ·intro e;exact absurd e ku
theorem Hu{d d':Option Tmp}{x x':eu}(hd:∀t,d=some t->d'≠some t)(hw:∀id∈jI x,id∉jI x'):uf d x (uf d' x' s)=uf d' x' (uf d x s):=by
 cases x<;>cases x'<;>simp only[uf]<;>first
  |rw[vo hd,put_comm hw]
  |rw[vo hd]
def xc(n:Nat)(pr:Nat->Nat->Prop)(E:Nat->Bool):Prop:=∀k,k<n->E k=true->∀j,pr k j->E j=true
theorem agree(_:∀k,k<n->∀j,pr k j->j<k)(hc:∀i j,i<j->j<n-> ¬pr j i->Compat oc ac R i j)(hE:xc n pr E){i:Nat}(hi:i<n)(lz:E i=false)(Hv:∀j,pr i j->E j=true):
 (∀t∈eh (oc i),(dK oc ac E s n).env t=(dK oc ac (fun _=>true) s i).env t)/\(∀id∈R i,(dK oc ac E s n).o id=(dK oc ac (fun _=>true) s i).o id):=by
 have a:∀k,k<=i->(∀t∈eh (oc i),(dK oc ac E s k).env t=(dK oc ac (fun _=>true) s k).env t)/\(∀id∈R i,(dK oc ac E s k).o id=(dK oc ac (fun _=>true) s k).o id):=by
  intro k
  induction k with
  |zero=>intro _;exact⟨fun _ _=>rfl,fun _ _=>rfl⟩
  |succ k ih=>
   intro hk
   obtain⟨h1,h2⟩:=ih ag
   simp only[dK,if_true]
   by_cases ig:E k=true
   ·simp only[ig,if_true]
    exact⟨fun t ht=>xb (h1 t ht),fun id au=>BS (h2 id au)⟩
   ·have Nh: ¬pr i k:=fun hm=>ig (Hv k hm)
    have c:=hc k i ag hi Nh
    simp only[ig]
    refine⟨fun t ht=> ?_,fun id au=> ?_⟩
    ·rw[jJ fun d hd e=>c.di d hd (e ▸ ht)];exact h1 t ht
    ·rw[lX fun hm=>(c.wi id hm).1 au];exact h2 id au
 have b:∀k,i<=k->k<=n->(∀t∈eh (oc i),(dK oc ac E s k).env t=(dK oc ac (fun _=>true) s i).env t)/\(∀id∈R i,(dK oc ac E s k).o id=(dK oc ac (fun _=>true) s i).o id):=by
  intro k KI
  induction KI with
  |refl=>intro _;exact a i (Nat.le_refl _)
  | @step k KI ih=>
    intro hk
    have KI:i<=k:=KI
    obtain⟨h1,h2⟩:=ih ag
    simp only[dK]
    by_cases ig:E k=true
    ·have ku:i≠k:=fun e=>by rw[e,ig]at lz;cases lz
     have Nh: ¬pr k i:=fun hm=>by have:=hE k ag ig i hm;rw[lz]at this;cases this
     have c:=hc i k ag ag Nh
     simp only[ig,if_true]
     refine⟨fun t ht=> ?_,fun id au=> ?_⟩
     ·rw[jJ fun d hd e=>c.dj d hd (e ▸ ht)];exact h1 t ht
     ·rw[lX fun hm=>c.wj id hm au];exact h2 id au
    ·simp only[ig];exact⟨h1,h2⟩
 exact b n ag (Nat.le_refl _)
theorem insert(hc:∀i j,i<j->j<n-> ¬pr j i->Compat oc ac R i j)(hE:xc n pr E){i:Nat}(hi:i<n)(lz:E i=false){E':Nat->Bool}(BT:∀k,E' k=(E k||k==i)):
 dK oc ac E' s n=uf (oc i).dst (ac i) (dK oc ac E s n):=by
 have a:∀k,k<=i->dK oc ac E' s k=dK oc ac E s k:=by
  intro k
  induction k with
  |zero=>intro _;rfl
  |succ k ih=>
   intro hk
   have:E' k=E k:=by rw[BT k];have:(k==i)=false:=by simp;omega
                     simp[this]
   simp only[dK,this,ih (by omega)]
 have b:∀k,i+1<=k->k<=n->dK oc ac E' s k=uf (oc i).dst (ac i) (dK oc ac E s k):=by
  intro k KI
  induction KI with
  |refl=>
   intro _
   have h1:E' i=true:=by rw[BT i];simp
   simp only[dK,h1,lz,if_true,a i (Nat.le_refl _)]
   rfl
  | @step k KI ih=>
    intro hk
    have KI:i+1<=k:=KI
    have h1:E' k=E k:=by rw[BT k];have:(k==i)=false:=by simp;omega
                         simp[this]
    simp only[dK,h1,ih (by omega)]
    by_cases ig:E k=true
    ·have Nh: ¬pr k i:=fun hm=>by have:=hE k ag ig i hm;rw[lz]at this;cases this
     have c:=hc i k ag ag Nh
     simp only[ig,if_true]
     refine Hu (fun t ht he=> ?_) (fun id au hm=>(c.wi id hm).2 au)
     exact c.di t he (by simp[eh,ht])
    ·simp only[ig];rfl
 exact b n ag (Nat.le_refl _)
end
end
section
structure rq (M:Nat->Prop) (b7:Place) (H0:Hp) (w0:World) (n:Nat) (cx:Cx) (φ:Place) (s:S) (us:Nat->Prop) (a:Act) (w:World):Prop where
 heap:ax M φ ⟨s.o,us⟩ w
 tr:Trans b7 H0 w0 φ ⟨s.o,us⟩ w
 size:a.tmps.size=n
 defers:sx cx w0 φ ⟨s.o,us⟩ w a.defers
 env:∀i,V.den (ak M φ ⟨s.o,us⟩) φ ⟨s.o,us⟩ w (s.env i) (a.tmps.getD i undef)
section
variable {P:Program}{M:Nat->Prop}{φ b7:Place}{H0:Hp}{w w' w0:World}{n:Nat}{s:S}{us:Nat->Prop}{a:Act}{cx:Cx}{ro:Option Nat}{k:Nat}
variable {next:Act->World->Prop}{Q:Exit->Act->World->Prop}
theorem iI(hs:rq M b7 H0 w0 n cx φ s us a w){aE:Place}{H':Hp}(hH:ax M aE H' w')(ht:Trans φ ⟨s.o,us⟩ w aE H' w'){v:V}{val:Value}(hd:V.den (ak M aE H') aE H' w' v val){dst:Option Tmp}(cz:fy n dst)
 {o':Nat->ab} {us':Nat->Prop} (ho:H'.o=o') (hu:∀id,H'.us id->us' id):rq M b7 H0 w0 n cx aE ⟨aT s.env dst v,o',s.nx⟩ us' (a.put dst val) w':=by
 obtain⟨k1,k2⟩:=iq hH hu
 subst ho
 refine⟨k1,hs.tr.trans (ht.trans k2), ?_, ?_,fun i=> ?_⟩
 ·cases dst<;>simp[Act.put,hs.size]
 ·have:=hs.defers.mono (ht.trans k2);cases dst<;>exact this
 ·cases dst with
  |none=>exact J3
  |some d=>
   simp only[fy]at cz
   simp only[aT,aH,Act.put]
   by_cases hi:i=d
   ·subst hi
    have h1:(a.tmps.setIfInBounds i val).getD i undef=val:=by simp[Array.getD,hs.size,cz]
    rw[if_pos rfl,h1]
    exact V.aL k2 _ _ hd
   ·have h1:(a.tmps.setIfInBounds d val).getD i undef=a.tmps.getD i undef:=by
     exact PL
    rw[if_neg hi,h1]
    exact J3
theorem vq(hs:rq M b7 H0 w0 n cx φ s us a w){o:Oper}{op:Op}(fN:o.op=op){c:Call}{f:Operand}{g:FuncId}{first cap:List V}(hc:op= .call c)(ee:c.callee= .value f)(ui:s.ev f= .func (.func g) first cap):
 ∃vals:Array Value,V.az (ak M φ ⟨s.o,us⟩) φ ⟨s.o,us⟩ w (first++c.args.toList.map s.ev++cap) vals.toList/\(Enters P g->(execOp a.eval o).run P w= .ok (.enter g vals) w):=by
 have hf:=lH (M:=M) (φ:=φ) (H:=⟨s.o,us⟩) (w:=w) s a hs.env f
 have dn:=jt (M:=M) (φ:=φ) (H:=⟨s.o,us⟩) (w:=w) s a hs.env c.args.toList
 rw[ui]at hf
 obtain⟨fa,ca,Hl,CL,Zy⟩:=hf
 refine⟨fa++c.args.map a.eval++ca, ?_,fun he=> ?_⟩
 ·exact MD
 ·have:=j6 (w:=w) he (fa++c.args.map a.eval++ca)
  generalize jR:fa++c.args.map a.eval++ca=vals at this
  simp[execOp,fN,hc,resolve,ee,Hl,Deferred.ofValue,invoke,this,jR]
theorem Gj(hs:rq M b7 H0 w0 n cx φ s us a w){fr:Nat}(cJ: ¬us fr)(ud:∀id,id<s.nx->us id){o:Oper}{op:Op}(fN:o.op=op)(cz:fy n o.dst){v:V}{Δ:List (Nat×ab)}{rd:List Nat}(h:vn P s fr op v Δ rd)
 (hN:∀aE a' w',rq M b7 H0 w0 n cx aE (uf o.dst (.val v Δ rd) s) (fun id=>us id\/id=fr) a' w'->next a' w'):o.wpIn (dm ro) k P a w next Q:=by
 rcases h with⟨⟨rE,h⟩,_⟩|⟨c,f,g,first,cap,hc,ee,ui,h⟩
 ·have h1:=zj (K:=fun v' Da _=>v'=v/\Da=Δ) h ⟨rfl,rfl⟩
  obtain⟨nx,val,w',aE,v',Da,rE,⟨rfl,rfl⟩,hr,aaK,g1,g2,g3,g4⟩:=ve hs.heap (s:=s) rfl hs.env cJ fN h1
  have wM:=iI hs g1 g2 g3 cz (o':=put s.o Da) (us':=fun id=>us id\/id=fr) rfl (fun id hu=>hu.elim .inl (g4 id))
  refine jx (fun c hc=>by rw[fN]at hc;subst hc;exact h1) ?_
  rw[hr]
  rcases aaK with rfl|⟨rfl,rfl⟩
  ·exact hN _ _ _ wM
  ·exact hN _ _ _ wM
 ·refine jx (fun c' EH=>by rw[fN,hc]at EH;cases EH) ?_
  obtain⟨vals,aX,et⟩:=vq (P:=P) hs fN hc ee ui
  generalize first++c.args.toList.map s.ev++cap=all at h aX
  rcases h with⟨ds,rs,eg,hP,rfl,_,Ta⟩|⟨rs,hH,rfl,mP⟩|⟨ds,eg,hP,_,rfl⟩|⟨hH,mP⟩
  ·obtain⟨f1,f2,f3,f4,f5⟩:=cA hs.heap (V.a7 all) (cD all _ aX)
   have fX:(⟨s.o,us⟩:Hp).put (bZ s.o (V.a7 all))=⟨put s.o (bZ s.o (V.a7 all)),us⟩:=j5 (H:=⟨s.o,us⟩) Gu
   have u1:=cQ f1 all ds _ f3 eg (V.aN f2 _ _ aX)
   have dW:=hP.2 _ w vals (fun b hb=>hb.elim (f1.x5 b) fun hl=>(f1.ours b hl).2) u1
   rw[et hP.1]
   refine⟨fun hd=>by simp[dm]at hd,cI (dW.mono fun e w' ⟨hk,ho⟩=> ?_)⟩
   cases e with
   |panicked ch=>exact ug
   |outgrown=>exact ug
   |returned val=>
    rcases Ta with rfl|⟨pw,rfl⟩
    ·obtain⟨k1,k2⟩:=fb f1 hk
     refine hN _ _ _ (iI hs k1 (f2.trans k2) (lD ho) cz (by rw[fX]) fun id hu=> ?_)
     rw[fX]at hu;exact .inl hu
    ·obtain⟨k1,k2⟩:=fb hs.heap hk
     have ho:=R.wN (out:= .ret rs) (B':=ak M φ ⟨s.o,us⟩) pw ho
     exact Ml
  ·have dW:=hH.2 s.o us M φ w vals (fun id au=>⟨rfl,ud id (mP id au)⟩) hs.heap aX
   rw[et hH.1]
   refine⟨fun hd=>by simp[dm]at hd,cI (dW.mono fun e w' ⟨aE,k1,k2,ho⟩=> ?_)⟩
   cases e with
   |panicked ch=>exact ug
   |outgrown=>exact ug
   |returned val=>exact Ml
  ·obtain⟨f1,f2,f3,f4,f5⟩:=cA hs.heap (V.a7 all) (cD all _ aX)
   have fX:(⟨s.o,us⟩:Hp).put (bZ s.o (V.a7 all))=⟨put s.o (bZ s.o (V.a7 all)),us⟩:=j5 (H:=⟨s.o,us⟩) Gu
   have u1:=cQ f1 all ds _ f3 eg (V.aN f2 _ _ aX)
   have dW:=hP.2 _ w vals (fun b hb=>hb.elim (f1.x5 b) fun hl=>(f1.ours b hl).2) u1
   rw[et hP.1]
   refine⟨fun hd=>by simp[dm]at hd,cI (dW.mono fun e w' ⟨hk,val,he,ho⟩=> ?_)⟩
   subst he
   obtain⟨k1,k2⟩:=fb f1 hk
   refine hN _ _ _ (iI hs k1 (f2.trans k2) (ho _ _) cz (by rw[fX]) fun id hu=> ?_)
   rw[fX]at hu;exact .inl hu
  ·have dW:=hH.2 s.o us M φ w vals (fun id au=>⟨rfl,ud id (mP id au)⟩) cJ hs.heap aX
   rw[et hH.1]
   refine⟨fun hd=>by simp[dm]at hd,cI (dW.mono fun e w' ⟨aE,k1,k2,val,he,ho⟩=> ?_)⟩
   subst he
   exact hN _ _ _ (iI hs k1 k2 ho cz rfl fun id hu=>hu)
theorem ET{o o2:Nat->ab}{us us2:Nat->Prop}(hH:ax M φ ⟨o,us⟩ w)(ho:∀id,o2 id=o id\/o2 id= .no)(hu:∀id,us id->us2 id):ax M φ ⟨o2,us2⟩ w/\Trans φ ⟨o,us⟩ w φ ⟨o2,us2⟩ w:=by
 have hl:∀id,(o2 id).live=true->(o id).live=true:=fun id h=>by
  rcases ho id with e|e
  ·rw[<- e];exact h
  ·rw[e]at h;cases h
 have Td:∀b,cp φ ⟨o2,us2⟩ b->cp φ ⟨o,us⟩ b:=fun b ⟨id,h1,h2⟩=>⟨id,hl id h1,h2⟩
 have ht:Trans φ ⟨o,us⟩ w φ ⟨o2,us2⟩ w:=by
  refine⟨dk.refl _ _,fun b hb=> .inl (Td b hb),⟨hu,fun id _ hr=> ?_,fun id e' _ he=> ?_⟩⟩
  ·rcases ho id with e|e
   ·exact⟨by show(o id).bW=true;rw[<- e];exact hr,rfl⟩
   ·rw[show(⟨o2,us2⟩:Hp).o id= .no from e]at hr;cases hr
  ·rcases ho id with e|e
   ·exact⟨e',by show(o id).bT=some e';rw[<- e];exact he,Nat.le_refl _,fun _=>rfl⟩
   ·rw[show(⟨o2,us2⟩:Hp).o id= .no from e]at he;cases he
 refine⟨⟨fun id=> ?_,fun id hn=> ?_,fun i j b hi hj=>hH.apart i j b (hl i hi) (hl j hj),fun b hb=>hH.ours b (Td b hb),hH.x5⟩,ht⟩
 ·rcases ho id with e|e
  ·exact(hH.ok id).mono ht e rfl fun _ _ _=>rfl
  ·unfold aM;rw[show(⟨o2,us2⟩:Hp).o id= .no from e];trivial
 ·rcases ho id with e|e
  ·exact e.trans (hH.fresh id fun h=>hn (hu id h))
  ·exact e
def sH(ds:List Nat)(wl:List Nat)(N:Nat)(s:S):S:=
 ⟨fun t=>if ds.contains t=true then .aa else s.env t,fun id=>if wl.contains id=true then .no else s.o id,s.nx+N⟩
theorem Hw(hs:rq M b7 H0 w0 n cx φ s us a w)(ud:∀id,id<s.nx->us id){N:Nat}(dG:∀id,us id->id<s.nx+N){o:Oper}{op:Op}(fN:o.op=op){v:V}{ws rd:List Nat}(h:zo P s op v ws rd)
 {s0:S} {ds wl:List Nat} (eg:∀t,ds.contains t=false->s.env t=s0.env t) (hwl:∀id,wl.contains id=false->s.o id=s0.o id) (KJ:∀id∈ws,wl.contains id=true) (iT:s0.nx=s.nx)
 (hQ:∀aE w' val,bS M b7 H0 w0 n cx aE (sH ds wl N s0) a w'->V.den (ak M aE (sH ds wl N s0).H) aE (sH ds wl N s0).H w' v val->Q (.panic [{v:=val,recovered:=false}]) a w'):o.wpIn (dm ro) k P a w next Q:=by
 obtain⟨c,f,g,first,cap,hc,ee,ui,h⟩:=h
 refine jx (fun c' EH=>by rw[fN,hc]at EH;cases EH) ?_
 obtain⟨vals,aX,et⟩:=vq (P:=P) hs fN hc ee ui
 generalize first++c.args.toList.map s.ev++cap=all at h aX
 have fin:∀ (aE:Place) (w':World) (o':Nat->ab) (val:Value),(∀id,wl.contains id=false->o' id=s.o id)->ax M aE ⟨o',us⟩ w'->Trans φ ⟨s.o,us⟩ w aE ⟨o',us⟩ w'->V.den (ak M aE ⟨o',us⟩) aE ⟨o',us⟩ w' v val->Q (.panic [{v:=val,recovered:=false}]) a w':=by
  intro aE w' o' val uO k1 k2 k3
  obtain⟨m1,m2⟩:=ET (o2:=(sH ds wl N s0).o) (us2:=fun id=>id<s0.nx+N) k1 (fun id=>by
   show(if wl.contains id=true then ab.no else s0.o id)=o' id\/_
   by_cases hw:wl.contains id=true
   ·right;simp only[sH];rw[if_pos hw]
   ·left;rw[if_neg hw,uO id (by simpa using hw),hwl id (by simpa using hw)]) (fun id h=>by rw[iT];exact dG id h)
  have ht:=hs.tr.trans (k2.trans m2)
  refine hQ aE w' val ⟨m1,ht,hs.size,hs.defers.mono (k2.trans m2),fun i=> ?_⟩ (V.aL m2 _ _ k3)
  show V.den _ _ _ _ (if ds.contains i=true then V.aa else s0.env i) _
  by_cases hd:ds.contains i=true
  ·rw[if_pos hd];trivial
  ·rw[if_neg hd, <- eg i (by simpa using hd)];exact V.aL (k2.trans m2) _ _ (hs.env i)
 rcases h with⟨dd,x,aaL,hP,pw,rfl,_,rfl⟩|⟨x,Δ,hH,rfl,rfl,mP⟩
 ·obtain⟨f1,f2,f3,f4,f5⟩:=cA hs.heap (V.a7 all) (cD all _ aX)
  have u1:=cQ f1 all dd _ f3 aaL (V.aN f2 _ _ aX)
  have dW:=hP.2 _ w vals (fun b hb=>hb.elim (f1.x5 b) fun hl=>(f1.ours b hl).2) u1
  rw[et hP.1]
  refine⟨fun hd=>by simp[dm]at hd,cI (dW.mono fun e w' ⟨hk,ho⟩=> ?_)⟩
  cases e with
  |returned val=>exact ho.elim
  |outgrown=>exact ho.elim
  |panicked ch=>
   obtain⟨k1,k2⟩:=fb hs.heap hk
   have ho:=R.wN (out:= .bD x) (B':=ak M φ ⟨s.o,us⟩) pw ho
   obtain⟨val,rfl,hd⟩:=ho
   exact fin φ w' s.o val (fun _ _=>rfl) k1 k2 hd
 ·have dW:=hH.2 s.o us M φ w vals (fun id au=>⟨rfl,ud id (mP id au)⟩) hs.heap aX
  rw[et hH.1]
  refine⟨fun hd=>by simp[dm]at hd,cI (dW.mono fun e w' ⟨aE,k1,k2,ho⟩=> ?_)⟩
  cases e with
  |returned val=>exact ho.elim
  |outgrown=>exact ho.elim
  |panicked ch=>
   obtain⟨val,rfl,hd⟩:=ho
   exact fin aE w' _ val (fun id au=>w8 fun y hy e=>by
    have:=KJ y.1 (List.mem_map_of_mem hy)
    rw[e,au]at this;cases this) k1 k2 hd
theorem eE(dz:∀i,V.den (ak M φ ⟨s.o,us⟩) φ ⟨s.o,us⟩ w (s.env i) (a.tmps.getD i undef)){ops:Array Oper}{o:Oper}{gd:Option (Nat×Bool)}{b:Bool}
 (hg:match o.guard with|none=>gd=none|some (j,want)=>∃d,qt ops j=some d/\gd=some (d,want)) (h:dq s gd b):Region.wanted o (yielded ops a.tmps)=b:=by
 unfold Region.wanted
 split at hg
 ·rename_i hn;simp only[hn];subst hg;exact h.symm
 ·rename_i j want hn
  simp only[hn]
  obtain⟨d,hd,rfl⟩:=hg
  unfold qt at hd
  unfold yielded
  simp only[hd,Option.bind_some]
  simp only[dq]at h
  have he:=dz d
  split at h
  ·rename_i c hv
   rw[hv]at he
   simp only[V.den,D.den]at he
   have:a.tmps[d]? =some (.bool c):=by
    rw[Array.getD_eq_getD_getElem?]at he
    cases hx:a.tmps[d]? with
    |none=>rw[hx]at he;simp[undef]at he
    |some x=>rw[hx]at he;simp at he;rw[he]
   simp only[this,h]
   cases c<;>cases want<;>rfl
  ·rename_i hv
   rw[hv]at he
   obtain⟨arr,cM,hn⟩:=he
   have:∀c,a.tmps[d]? ≠some (.bool c):=by
    exact M0
   subst h
   cases hx:a.tmps[d]? with
   |none=>rfl
   |some x=>cases x<;>first|(exact absurd hx (this _))|rfl
  ·exact h.elim
theorem eF{s s':S}{gd:Option (Nat×Bool)}{b:Bool}(h:∀d want,gd=some (d,want)->s'.env d=s.env d)(hg:dq s gd b):dq s' gd b:=by
 unfold dq at*
 cases gd with
 |none=>exact hg
 |some p=>obtain⟨d,want⟩:=p;simp only at hg|-;rw[h d want rfl];exact hg
theorem zp{s s':S}{x:Operand}(h:∀t,x= .tmp t->s'.env t=s.env t):s'.ev x=s.ev x:=by
 cases x<;>simp only[S.ev]
 exact h _ rfl
theorem sI{s s':S}{op:Op}{c:Call}{f:Operand}{g:FuncId}{first cap:List V}(hv:∀x∈op.operands,s'.ev x=s.ev x)(hc:op= .call c)(ee:c.callee= .value f)(ui:s.ev f= .func (.func g) first cap):
 s'.ev f= .func (.func g) first cap/\c.args.toList.map s'.ev=c.args.toList.map s.ev:=by
 subst hc
 exact⟨(hv f (by simp only[Op.operands,Call.operands,ee];exact Array.mem_append.2 (.inl aK))).trans ui,
  List.map_congr_left fun x hx=>hv x UR⟩
theorem C8.frame {g:FuncId}{args:List V}{rd:List Nat}{o o':Nat->ab}{out:R}{Δ:List (Nat×ab)}(ho:∀id∈rd,o' id=o id)(h:C8 P g args rd o out Δ):C8 P g args rd o' out Δ:=
 ⟨h.1,fun o2 us M φ w vals h1 h2 h3=>h.2 o2 us M φ w vals (fun id au=>⟨(h1 id au).1.trans (ho id au),(h1 id au).2⟩) h2 h3⟩
theorem w7.frame {g:FuncId}{args:List V}{rd:List Nat}{o o':Nat->ab}{fr:Nat}{v:V}{Δ:List (Nat×ab)}(ho:∀id∈rd,o' id=o id)(h:w7 P g args rd o fr v Δ):w7 P g args rd o' fr v Δ:=
 ⟨h.1,fun o2 us M φ w vals h1 h2 h3=>h.2 o2 us M φ w vals (fun id au=>⟨(h1 id au).1.trans (ho id au),(h1 id au).2⟩) h2 h3⟩
theorem yo{s s':S}{fr:Nat}{op:Op}{v:V}{Δ:List (Nat×ab)}{rd:List Nat}(hv:∀x∈op.operands,s'.ev x=s.ev x)(ho:∀id∈rd,s'.o id=s.o id)(ud:s'.nx=s.nx)(h:vn P s fr op v Δ rd):∃rE,vn P s' fr op v Δ rE:=by
 rcases h with⟨⟨rE,h⟩,mP⟩|⟨c,f,g,first,cap,rfl,ee,ui,h⟩
 ·exact⟨_, .inl ⟨⟨rE,by rw[BO op hv (by rw[<- mP];exact ho)];exact h⟩,rfl⟩⟩
 ·obtain⟨hf,hm⟩:=sI hv rfl ee ui
  rcases h with⟨ds,rs,eg,hP,rh,mP,Ta⟩|⟨rs,hH,rh,mP⟩|⟨ds,eg,hP,mP,Ta⟩|⟨hH,mP⟩
  ·have hr:∀id∈V.aJ (first++c.args.toList.map s.ev++cap),s'.o id=s.o id:=fun id au=>ho id Gq
   refine⟨_, .inr ⟨c,f,g,first,cap,rfl,ee,hf, .inl ⟨ds,rs,by rw[hm,gh _ hr];exact eg,hP,rh,rfl, ?_⟩⟩⟩
   exact MS
  ·exact⟨rd, .inr ⟨c,f,g,first,cap,rfl,ee,hf, .inr (.inl ⟨rs,by rw[hm];exact hH.frame ho,rh,by rw[ud];exact mP⟩)⟩⟩
  ·have hr:∀id∈V.aJ (first++c.args.toList.map s.ev++cap),s'.o id=s.o id:=fun id au=>ho id Gq
   refine⟨_, .inr ⟨c,f,g,first,cap,rfl,ee,hf, .inr (.inr (.inl ⟨ds,by rw[hm,gh _ hr];exact eg,hP,rfl, ?_⟩))⟩⟩
   exact MS
  ·exact⟨rd, .inr ⟨c,f,g,first,cap,rfl,ee,hf, .inr (.inr (.inr ⟨by rw[hm];exact hH.frame ho,by rw[ud];exact mP⟩))⟩⟩
theorem zq{s s':S}{op:Op}{v:V}{ws rd:List Nat}(hv:∀x∈op.operands,s'.ev x=s.ev x)(ho:∀id∈rd,s'.o id=s.o id)(ud:s'.nx=s.nx)(h:zo P s op v ws rd):zo P s' op v ws rd:=by
 obtain⟨c,f,g,first,cap,rfl,ee,ui,h⟩:=h
 obtain⟨hf,hm⟩:=sI hv rfl ee ui
 refine⟨c,f,g,first,cap,rfl,ee,hf, ?_⟩
 rw[hm]
 rcases h with⟨ds,x,eg,hP,pw,rh,mP,KJ⟩|⟨x,Δ,hH,rh,KJ,mP⟩
 ·have hr:∀id∈V.aJ (first++c.args.toList.map s.ev++cap),s'.o id=s.o id:=fun id au=>ho id Gq
  exact .inl ⟨ds,x,by rw[gh _ hr];exact eg,hP,pw,rh,by rw[mP];simp only[m5,ee,ui,hf,hm],KJ⟩
 ·exact .inr ⟨x,Δ,hH.frame ho,rh,KJ,by rw[ud];exact mP⟩
theorem sJ{ops:Array Oper}:∀ (l:List Oper) (l':List bI) (i:Nat) (o:Oper),jS n ops l=some l'->l[i]? =some o->GO n ops o=some (bL l' i)
 |[],_,_,_,_,h=>by simp at h
 |x::l,l',i,o,h,hi=>by
  simp only[jS]at h
  split at h
  ·rename_i y ys hy hys
   injection h with h;subst h
   cases i with
   |zero=>simp at hi;subst hi;exact hy
   |succ i=>exact sJ l ys i o hys (by simpa using hi)
  ·cases h
theorem vr{ops:Array Oper}{o:Oper}{x:bI}(h:GO n ops o=some x):x.op=o.op/\x.dst=o.dst/\fy n o.dst/\
 (match o.guard with|none=>x.gd=none|some (j,want)=>∃d,qt ops j=some d/\x.gd=some (d,want)):=by
 unfold GO at h
 split at h
 ·rename_i hd
  have cz:fy n o.dst:=by
   unfold Bi at hd;unfold fy
   split at hd<;>simp_all
  cases hg:o.guard with
  |none=>simp only[hg]at h;injection h with h;subst h;exact⟨rfl,rfl,cz,rfl⟩
  |some p=>
   obtain⟨j,want⟩:=p
   simp only[hg]at h
   cases Nt:qt ops j with
   |none=>simp[Nt]at h
   |some d=>simp only[Nt]at h;injection h with h;subst h;exact⟨rfl,rfl,cz,d,Nt,rfl⟩
 ·cases h
theorem nE{ops:Array Oper}{ao:Array Bool}(rj:∀k,k<ops.size->∀j∈bp ops k,j<k)(hs:ao.size=ops.size)(hr:Region.ready .any ops ao=[]):∀k,k<ops.size->ao.getD k false=true:=by
 intro k
 induction k using Nat.strongRecOn with
 |_ k ih=>
  intro hk
  cases hl:ao.getD k false with
  |true=>rfl
  |false=>
   have:k∈Region.ready .any ops ao:=by
    refine mem_ready.2 ⟨?_,ops[k],by simp[hk],fun e he hb=> ?_⟩
    ·simp only[Array.getD_eq_getD_getElem?]at hl|-
     rw[Array.getElem?_eq_getElem (by omega)]at hl|-
     simpa using hl
    ·have hm:e.on∈bp ops k:=by
      simp only[bp,Array.getElem?_eq_getElem hk,List.mem_map,List.mem_filter]
      exact⟨e,⟨Array.mem_toList_iff.2 he,hb⟩,rfl⟩
     exact ih _ (rj k hk _ hm) (by have:=rj k hk _ hm;omega)
   rw[hr]at this;cases this
theorem zr(hs:bS M b7 H0 w0 n cx φ s a w):bS M b7 H0 w0 n cx φ s a {w with drawn:=w.drawn+1}:=by
 obtain⟨k1,k2⟩:=fb (w':={w with drawn:=w.drawn+1}) hs.heap ⟨rfl,rfl,rfl,Nat.le_refl _,fun _ _ _=>rfl⟩
 exact⟨k1,hs.tr.trans k2,hs.size,hs.defers.mono k2,fun i=>V.aL k2 _ _ (hs.env i)⟩
theorem jD{oc:Nat->bI}{ac:Nat->eu}{E:Nat->Bool}:∀k,(dK oc ac E s k).nx=s.nx
 |0=>rfl
 |k+1=>by
  simp only[dK]
  split
  ·cases ac k<;>exact jD k
  ·exact jD k
theorem Db{oc:Nat->bI}{ac:Nat->eu}{E:Nat->Bool}{t:Nat}:∀k,(∀j,j<k->(oc j).dst≠some t)->(dK oc ac E s k).env t=s.env t
 |0,_=>rfl
 |k+1,h=>by
  have ih:=Db (oc:=oc) (ac:=ac) (E:=E) (t:=t) k fun j hj=>h j ag
  simp only[dK]
  split
  ·rw[jJ fun d hd e=>h k (by omega) (by rw[hd,e])];exact ih
  ·exact ih
theorem Nv{oc:Nat->bI}{ac:Nat->eu}{E:Nat->Bool}{id:Nat}:∀k,(∀j,j<k->id∉jI (ac j))->(dK oc ac E s k).o id=s.o id
 |0,_=>rfl
 |k+1,h=>by
  have ih:=Nv (oc:=oc) (ac:=ac) (E:=E) (id:=id) k fun j hj=>h j ag
  simp only[dK]
  split
  ·rw[lX (h k (by omega))];exact ih
  ·exact ih
theorem zu(aZ:P.follows .mixedOrders=true){ops:Array Oper}{l:List bI}{id:Nat}(pW:jS n ops ops.toList=some l)(rj:∀k,k<ops.size->∀j∈bp ops k,j<k){ac:Nat->eu}{dl wl:List Nat}
 (hs:bS M b7 H0 w0 n cx φ s a w) (Ql:∀i,i<ops.size->Nu P (dK (bL l) ac (fun _=>true) s i) (s.nx+i) (bL l i) (ac i))
 (xd:∀i,i<ops.size->ac i= .cX->∃j∈bp ops i,(ac j).ok=false)
 {po:Nat->Nat->Prop} (Dc:∀E:Nat->Bool,(∀k,k<ops.size->E k=true->∀j∈bp ops k,E j=true)->∀k,k<ops.size->(∀j∈bp ops k,E j=true)->∀j,po k j->E j=true) (zw:∀k,k<ops.size->∀j,po k j->j<k)
 (hc:∀i j,i<j->j<ops.size-> ¬po j i->Compat (bL l) ac (fun i=>uA (ac i)) i j)
 (hdl:∀i,i<ops.size->∀t,(bL l i).dst=some t->dl.contains t=true) (hwl:∀i,i<ops.size->∀id∈jI (ac i),wl.contains id=true)
 (KJ:∀i v ws rd,i<ops.size->ac i= .bD v ws rd->∀id∈ws,wl.contains id=true)
 (hQ:(∀i,i<ops.size->(ac i).ok=true)->∀φ a w,bS M b7 H0 w0 n cx φ ⟨(dK (bL l) ac (fun _=>true) s ops.size).env,(dK (bL l) ac (fun _=>true) s ops.size).o,s.nx+ops.size⟩ a w->Q .normal a w)
 (hX:∀i v ws rd,i<ops.size->ac i= .bD v ws rd->∀φ a w val,bS M b7 H0 w0 n cx φ (sH dl wl ops.size s) a w->V.den (ak M φ (sH dl wl ops.size s).H) φ (sH dl wl ops.size s).H w v val->Q (.panic [{v:=val,recovered:=false}]) a w):
 (Code.region id ops true).wpIn (dm ro) k P Q a w:=by
 refine wpIn_region_any aZ ?_
 have hs:=zr hs
 generalize ({w with drawn:=w.drawn+1}:World)=w at hs
 let N:=ops.size
 let Ef (ao:Array Bool) (k:Nat):Bool:=ao.getD k false
 let CK (ao:Array Bool) (j:Nat):Prop:=j<s.nx\/∃k,k<N/\Ef ao k=true/\j=s.nx+k
 have key:∀ (fuel:Nat) (ao:Array Bool) (φ:Place) (a:Act) (w:World),ao.size=N->ao.count true+fuel=N->(∀k,k<N->Ef ao k=true->∀j∈bp ops k,Ef ao j=true)->(∀k,k<N->Ef ao k=true->(ac k).ok=true)->
  rq M b7 H0 w0 n cx φ (dK (bL l) ac (Ef ao) s N) (CK ao) a w->wpAnyIn (dm ro) k P .any ops Q fuel ao a w:=by
  have fin:∀ (ao:Array Bool) (φ:Place) (a:Act) (w:World),(∀k,k<N->Ef ao k=true)->(∀k,k<N->Ef ao k=true->(ac k).ok=true)->rq M b7 H0 w0 n cx φ (dK (bL l) ac (Ef ao) s N) (CK ao) a w->Q .normal a w:=by
   intro ao φ a w aX BU hu
   have e:∀k,k<=N->dK (bL l) ac (Ef ao) s k=dK (bL l) ac (fun _=>true) s k:=by
    intro k
    induction k with
    |zero=>intro _;rfl
    |succ k ih=>intro hk;simp only[dK,aX k (by omega),ih (by omega)]
   rw[e N (Nat.le_refl _)]at hu
   obtain⟨k1,k2⟩:=iq (us':=fun id=>id<s.nx+N) hu.heap (fun id h=>by
    show id<s.nx+N
    rcases h with h|⟨k,hk,_,rfl⟩<;>omega)
   exact hQ (fun i hi=>BU i hi (aX i hi)) φ a w ⟨k1,hu.tr.trans k2,hu.size,hu.defers.mono k2,fun i=>V.aL k2 _ _ (hu.env i)⟩
  intro fuel
  induction fuel with
  |zero=>
   intro ao φ a w dh EU mC BU hu
   have aX:∀k,k<N->Ef ao k=true:=by
    intro k hk
    have h1:ao.count true=ao.size:=ag
    rw[Array.count_eq_size]at h1
    have:=h1 ao[k] (Array.getElem_mem ag)
    simp only[Ef,Array.getD_eq_getD_getElem?]
    rw[Array.getElem?_eq_getElem (by omega)]
    simpa using this.symm
   refine⟨?_,fin ao φ a w aX BU hu⟩
   rw[List.eq_nil_iff_forall_not_mem]
   intro k hk
   obtain⟨h1,o,h2,_⟩:=mem_ready.1 hk
   have hkN:k<N:=(Array.getElem?_eq_some_iff.1 h2).1
   have:=aX k hkN
   simp only[Ef,Array.getD_eq_getD_getElem?]at this h1
   rw[Array.getElem?_eq_getElem (by omega)]at this h1
   simp only[Option.getD_some]at this h1
   rw[this]at h1;cases h1
  |succ fuel ih=>
   intro ao φ a w dh EU mC BU hu
   refine⟨fun hr=>fin ao φ a w (nE rj dh hr) BU hu,fun i hi=> ?_⟩
   obtain⟨h1,o,h2,h3⟩:=mem_ready.1 hi
   have rr:i<N:=(Array.getElem?_eq_some_iff.1 h2).1
   have lz:Ef ao i=false:=by
    simp only[Ef,Array.getD_eq_getD_getElem?]at h1|-
    rw[Array.getElem?_eq_getElem (by omega)]at h1|-
    simpa using h1
   have Hv:∀j∈bp ops i,Ef ao j=true:=by
    exact PI
   have Hx:xc N po (Ef ao):=fun k hk ig=>Dc _ mC k hk (mC k hk ig)
   obtain⟨Wa,ag2⟩:=agree (s:=s) zw hc Hx rr lz (Dc _ mC i rr Hv)
   obtain⟨g1,g2,g3,g4⟩:=vr (sJ _ _ i o pW rX)
   have cJ: ¬CK ao (s.nx+i):=by
    rintro(h|⟨k,_,hk,he⟩)
    ·omega
    ·have:k=i:=ag
     subst this;rw[lz]at hk;cases hk
   have BT:∀k,Ef (ao.setIfInBounds i true) k=(Ef ao k||k==i):=by
    intro k
    simp only[Ef,Array.getD_eq_getD_getElem?]
    by_cases e:k=i
    ·subst e;simp[dh,rr]
    ·rw[Array.getElem?_setIfInBounds_ne (Ne.symm e)]
     have:(k==i)=false:=by simpa using e
     simp[this]
   have Qm:=insert (s:=s) hc Hx rr lz BT
   have Qn:∀k,k<N->Ef (ao.setIfInBounds i true) k=true->∀j∈bp ops k,Ef (ao.setIfInBounds i true) j=true:=by
    intro k hk ig j hj
    rw[BT]at ig|-
    by_cases e:k=i
    ·subst e;simp[Hv j hj]
    ·have:(k==i)=false:=by simpa using e
     rw[this,Bool.or_false]at ig
     simp[mC k hk ig j hj]
   have Hy:(ao.setIfInBounds i true).count true+fuel=N:=by
    have cc:i<ao.size:=ag
    have e1:ao.setIfInBounds i true=ao.set i true cc:=by simp[Array.setIfInBounds,cc]
    have e2:ao[i]=false:=by
     have:=lz
     simp only[Ef,Array.getD_eq_getD_getElem?]at this
     rw[Array.getElem?_eq_getElem cc]at this
     simpa using this
    rw[e1,Array.count_set cc,e2]
    simp
    omega
   have jQ:(ac i).ok=true->∀aE a' w',rq M b7 H0 w0 n cx aE (uf o.dst (ac i) (dK (bL l) ac (Ef ao) s N)) (fun id=>CK ao id\/id=s.nx+i) a' w'->wpAnyIn (dm ro) k P .any ops Q fuel (ao.setIfInBounds i true) a' w':=by
    intro Wb aE a' w' yg
    refine ih _ aE a' w' (by simp[dh]) Hy Qn (fun k hk ig=> ?_) ?_
    ·rw[BT]at ig
     by_cases e:k=i
     ·subst e;exact Wb
     ·have:(k==i)=false:=by simpa using e
      rw[this,Bool.or_false]at ig
      exact BU k hk ig
    rw[Qm,g2]
    obtain⟨k1,k2⟩:=iq (us':=CK (ao.setIfInBounds i true)) yg.heap (fun id h=>by
     rcases h with(h|⟨k,hk,ig,rfl⟩)|rfl
     ·exact .inl h
     ·exact .inr ⟨k,hk,by rw[BT,ig];rfl,rfl⟩
     ·exact .inr ⟨i,rr,by rw[BT];simp,rfl⟩)
    exact UU
   have EV:∀d want,(bL l i).gd=some (d,want)->(dK (bL l) ac (Ef ao) s N).env d=(dK (bL l) ac (fun _=>true) s i).env d:=fun d want hd=>Wa d (by simp[eh,tmpsOf,hd])
   have aU:=Ql i rr
   have GN:∀x∈(bL l i).op.operands,(dK (bL l) ac (Ef ao) s N).ev x=(dK (bL l) ac (fun _=>true) s i).ev x:=fun x hx=>zp fun t ht=>Wa t (by
    subst ht
    simp only[eh,tmpsOf,List.mem_append,List.mem_filterMap]
    exact .inl (.inl ⟨.tmp t,Array.mem_toList_iff.2 hx,rfl⟩))
   have PU:(dK (bL l) ac (Ef ao) s N).nx=(dK (bL l) ac (fun _=>true) s i).nx:=(jD N).trans (jD i).symm
   unfold wpOpIn
   simp only[h2]
   cases tZ:ac i with
   |skip=>
    rw[tZ]at aU jQ
    have hw:=eE hu.env g4 (eF EV aU)
    simp only[hw,Bool.false_eq_true,if_false]
    refine⟨fun _ _=>trivial,jQ rfl φ _ w ?_⟩
    have:=iI (v:= .bP []) (val:=undef) hu hu.heap (Trans.refl _ _ _) ⟨#[],rfl,rfl⟩ (dst:=o.dst) g3 rfl (us':=fun id=>CK ao id\/id=s.nx+i) (fun id h=> .inl h)
    exact this
   |val v Δ rd=>
    rw[tZ]at aU jQ
    have hw:=eE hu.env g4 (eF EV aU.1)
    exact Vv
   |bD v ws rd=>
    rw[tZ]at aU
    have hw:=eE hu.env g4 (eF EV aU.1)
    simp only[hw,if_true]
    have ly:=zq GN (fun id au=>ag2 id (by rw[tZ];exact au)) PU aU.2
    refine Hw (s0:=s) (ds:=dl) (wl:=wl) (N:=N) hu (fun id h=> .inl (by rw[jD]at h;exact h)) (fun id h=> ?_) g1.symm ly (fun t ht=> ?_) (fun id au=> ?_) (KJ i v ws rd rr tZ) (jD N).symm (fun aE w' val h1 h2=>hX i v ws rd rr tZ aE a w' val h1 h2)
    ·rw[jD]
     rcases h with h|⟨k,hk,_,rfl⟩<;>omega
    ·refine Db N fun j hj e=> ?_
     have:=hdl j hj t e
     rw[ht]at this;cases this
    ·refine Nv N fun j hj hm=> ?_
     have:=hwl j hj id hm
     rw[au]at this;cases this
   |cX=>
    exfalso
    obtain⟨j,hj,Qo⟩:=xd i rr tZ
    have:=BU j (Nat.lt_trans (rj i rr j hj) rr) (Hv j hj)
    rw[Qo]at this;cases this
 refine key ops.size _ φ a w (by simp[N]) (by simp[N,Array.count_replicate]) (fun k hk ig=> ?_) (fun k hk ig=> ?_) ?_
 ·exact J6
 ·exact J6
 ·have e:∀k,dK (bL l) ac (Ef (Array.replicate ops.size false)) s k=s:=by
   intro k
   induction k with
   |zero=>rfl
   |succ k ih=>
    have:Ef (Array.replicate ops.size false) k=false:=by
     exact MP
    simp only[dK,this,ih]
    rfl
  exact Vz
end
end
section
section
variable {P:Program}{M:Nat->Prop}{φ b7:Place}{H0:Hp}{w w' w0:World}{n:Nat}{s:S}{us:Nat->Prop}{a:Act}{cx:Cx}{ro:Option Nat}{k:Nat}
variable {Q:Exit->Act->World->Prop}
theorem EW{ops:Array Oper}{po:Nat->Nat->Prop}{m:Nat}{X:V->S->Prop}{K:S->Prop}
 (rj:∀k,k<ops.size->∀j∈bp ops k,j<k)
 (Dc:∀E:Nat->Bool,(∀k,k<ops.size->E k=true->∀j∈bp ops k,E j=true)->∀k,k<ops.size->(∀j∈bp ops k,E j=true)->∀j,po k j->E j=true)
 (Dd:∀k,m<=k->k<ops.size->∀j,j<k->po k j)
 (hK:∀s φ a w,K s->bS M b7 H0 w0 n cx φ s a w->Q .normal a w)
 (hX:∀v s' aE a' w' val,X v s'->bS M b7 H0 w0 n cx aE s' a' w'->V.den (ak M aE s'.H) aE s'.H w' v val->Q (.panic [{v:=val,recovered:=false}]) a' w'):
 ∀ (d t:Nat) (s:S) (φ:Place) (ao:Array Bool) (a:Act) (w:World),t+d=ops.size->ao.size=ops.size->(∀k,k<ops.size->ao.getD k false=decide (k<t))->m<=t->
   bS M b7 H0 w0 n cx φ s a w->wL P n ops X K (ops.toList.drop t) s->wpAnyIn (dm ro) k P .any ops Q d ao a w:=by
 intro d
 induction d with
 |zero=>
  intro t s φ ao a w ht dh hl F2 hs h
  have e:t=ops.size:=ag
  subst e
  refine⟨?_, ?_⟩
  ·rw[List.eq_nil_iff_forall_not_mem]
   intro j hj
   obtain⟨h1,o,h2,_⟩:=mem_ready.1 hj
   have hjN:j<ops.size:=(Array.getElem?_eq_some_iff.1 h2).1
   have:=hl j hjN
   simp only[Array.getD_eq_getD_getElem?]at this h1
   rw[Array.getElem?_eq_getElem (by omega)]at this h1
   simp only[Option.getD_some]at this h1
   rw[h1]at this
   simp[hjN]at this
  ·rw[List.drop_eq_nil_of_le (by simp)]at h
   exact hK s φ a w h hs
 |succ d ih=>
  intro t s φ ao a w ht dh hl F2 hs h
  have htN:t<ops.size:=ag
  refine⟨fun hr=> ?_,fun i hi=> ?_⟩
  ·have:=nE rj dh hr t htN
   rw[hl t htN]at this
   simp at this
  ·obtain⟨h1,o,h2,h3⟩:=mem_ready.1 hi
   have rr:i<ops.size:=(Array.getElem?_eq_some_iff.1 h2).1
   have lz:ao.getD i false=false:=by
    simp only[Array.getD_eq_getD_getElem?]at h1|-
    rw[Array.getElem?_eq_getElem (by omega)]at h1|-
    simpa using h1
   have hit:t<=i:=by
    have:=hl i rr
    rw[lz]at this
    have:=of_decide_eq_false this.symm
    omega
   have Hv:∀j∈bp ops i,ao.getD j false=true:=by
    exact PI
   have mC:∀k,k<ops.size->ao.getD k false=true->∀j∈bp ops k,ao.getD j false=true:=by
    intro k hk ig j hj
    have VJ:=rj k hk j hj
    rw[hl k hk]at ig
    rw[hl j (by omega)]
    have:=of_decide_eq_true ig
    exact decide_eq_true ag
   have Qb:i=t:=by
    rcases Nat.eq_or_lt_of_le hit with e|e
    ·exact e.symm
    ·have:=Dc (fun k=>ao.getD k false) mC i rr Hv t (Dd i ag rr t e)
     rw[hl t htN]at this
     simp at this
   subst Qb
   have zx:ops.toList.drop i=o::ops.toList.drop (i+1):=by
    have Qa:i<ops.toList.length:=by simpa using rr
    rw[List.drop_eq_getElem_cons Qa]
    have:ops.toList[i]=o:=by
     have:=(Array.getElem?_eq_some_iff.1 h2).2
     simpa using this
    rw[this]
   rw[zx]at h
   obtain⟨g1,g2⟩:=oz hs h
   have Ky:∀k,k<ops.size->(ao.setIfInBounds i true).getD k false=decide (k<i+1):=by
    intro k hk
    simp only[Array.getD_eq_getD_getElem?]
    by_cases e:k=i
    ·subst e;simp[dh,rr]
    ·rw[Array.getElem?_setIfInBounds_ne (Ne.symm e)]
     have:=hl k hk
     simp only[Array.getD_eq_getD_getElem?]at this
     rw[this]
     exact decide_eq_decide.2 ag
   have jQ:∀s' aE a' w',wL P n ops X K (ops.toList.drop (i+1)) s'->bS M b7 H0 w0 n cx aE s' a' w'->wpAnyIn (dm ro) k P .any ops Q d (ao.setIfInBounds i true) a' w':=
    fun s' aE a' w' hk jl=>ih (i+1) s' aE _ a' w' ag (by simp[dh]) Ky ag jl hk
   unfold wpOpIn
   simp only[h2]
   split
   ·rename_i hw
    exact vg hs (g1 hw) (fun s' aE a' w' hk jl=>jQ s' aE a' w' hk jl) (fun v s' aE w' val hx jl hd=>hX v s' aE a w' val hx jl hd)
   ·rename_i hw
    obtain⟨cz,h3⟩:=g2 (by simpa using hw)
    exact⟨fun _ _=>trivial,jQ _ _ _ _ h3 (zc hs cz)⟩
theorem BV(aZ:P.follows .mixedOrders=true){ops:Array Oper}{l:List bI}{id:Nat}(pW:jS n ops ops.toList=some l)(rj:∀k,k<ops.size->∀j∈bp ops k,j<k){ac:Nat->eu}{m:Nat}(hm:m<=ops.size){X:V->S->Prop}{K:S->Prop}
 (hs:bS M b7 H0 w0 n cx φ s a w) (Ql:∀i,i<m->Nu P (dK (bL l) ac (fun _=>true) s i) (s.nx+i) (bL l i) (ac i))
 (Wc:∀i,i<m->(ac i).ok=true)
 {po:Nat->Nat->Prop} (Dc:∀E:Nat->Bool,(∀k,k<ops.size->E k=true->∀j∈bp ops k,E j=true)->∀k,k<ops.size->(∀j∈bp ops k,E j=true)->∀j,po k j->E j=true) (zw:∀k,k<ops.size->∀j,po k j->j<k)
 (hc:∀i j,i<j->j<m-> ¬po j i->Compat (bL l) ac (fun i=>uA (ac i)) i j)
 (Dd:∀k,m<=k->k<ops.size->∀j,j<k->po k j)
 (cm:wL P n ops X K (ops.toList.drop m) ⟨(dK (bL l) ac (fun _=>true) s m).env,(dK (bL l) ac (fun _=>true) s m).o,s.nx+m⟩)
 (hK:∀s φ a w,K s->bS M b7 H0 w0 n cx φ s a w->Q .normal a w)
 (hX:∀v s' aE a' w' val,X v s'->bS M b7 H0 w0 n cx aE s' a' w'->V.den (ak M aE s'.H) aE s'.H w' v val->Q (.panic [{v:=val,recovered:=false}]) a' w'):
 (Code.region id ops true).wpIn (dm ro) k P Q a w:=by
 refine wpIn_region_any aZ ?_
 have hs:=zr hs
 generalize ({w with drawn:=w.drawn+1}:World)=w at hs
 let N:=m
 let Ef (ao:Array Bool) (k:Nat):Bool:=ao.getD k false
 let CK (ao:Array Bool) (j:Nat):Prop:=j<s.nx\/∃k,k<N/\Ef ao k=true/\j=s.nx+k
 have key:∀ (fuel:Nat) (ao:Array Bool) (φ:Place) (a:Act) (w:World),ao.size=ops.size->ao.count true+fuel=ops.size->(∀k,k<ops.size->Ef ao k=true->∀j∈bp ops k,Ef ao j=true)->(∀k,k<ops.size->Ef ao k=true->k<m)->
  rq M b7 H0 w0 n cx φ (dK (bL l) ac (Ef ao) s N) (CK ao) a w->wpAnyIn (dm ro) k P .any ops Q fuel ao a w:=by
  have fin:∀ (fuel:Nat) (ao:Array Bool) (φ:Place) (a:Act) (w:World),ao.size=ops.size->ao.count true+fuel=ops.size->(∀k,k<ops.size->Ef ao k=true->k<m)->(∀k,k<N->Ef ao k=true)->rq M b7 H0 w0 n cx φ (dK (bL l) ac (Ef ao) s N) (CK ao) a w->wpAnyIn (dm ro) k P .any ops Q fuel ao a w:=by
   intro fuel ao φ a w dh EU cc aX hu
   have e:∀k,k<=N->dK (bL l) ac (Ef ao) s k=dK (bL l) ac (fun _=>true) s k:=by
    intro k
    induction k with
    |zero=>intro _;rfl
    |succ k ih=>intro hk;simp only[dK,aX k (by omega),ih (by omega)]
   rw[e N (Nat.le_refl _)]at hu
   obtain⟨k1,k2⟩:=iq (us':=fun id=>id<s.nx+N) hu.heap (fun id h=>by
    show id<s.nx+N
    rcases h with h|⟨k,hk,_,rfl⟩<;>omega)
   have hlv:∀k,k<ops.size->ao.getD k false=decide (k<m):=by
    intro k hk
    by_cases h:k<m
    ·rw[decide_eq_true h];exact aX k h
    ·rw[decide_eq_false h]
     cases hb:ao.getD k false with
     |false=>rfl
     |true=>exact absurd (cc k hk hb) h
   have hcm:ao.count true=m:=by
    have e1:ao=Array.ofFn (n:=ops.size) fun k=>decide (k.1<m):=by
     apply Array.ext
     ·simp[dh]
     ·intro k h1 h2
      have:=hlv k ag
      simp only[Array.getD_eq_getD_getElem?]at this
      rw[Array.getElem?_eq_getElem h1]at this
      simpa using this
    have e2:ao.toList=List.replicate m true++List.replicate (ops.size - m) false:=by
     apply List.ext_getElem?
     intro k
     by_cases hk:k<ops.size
     ·have h1:ao.toList[k]? =some (decide (k<m)):=by
       have:=hlv k hk
       simp only[Array.getD_eq_getD_getElem?]at this
       rw[Array.getElem?_eq_getElem (by omega)]at this
       simp only[Option.getD_some]at this
       rw[Array.getElem?_toList,Array.getElem?_eq_getElem (by omega),this]
      rw[h1]
      by_cases h:k<m
      ·rw[List.getElem?_append_left (by simpa using h)]
       simp[h]
      ·rw[List.getElem?_append_right (by simpa using(by omega:m<=k))]
       rw[List.length_replicate,List.getElem?_replicate,if_pos (by omega),decide_eq_false h]
     ·rw[List.getElem?_eq_none (by simp[dh];omega),List.getElem?_eq_none (by simp;omega)]
    rw[<- Array.count_toList,e2,List.count_append,List.count_replicate_self,List.count_replicate]
    simp
   exact EW rj Dc Dd hK hX fuel m ⟨(dK (bL l) ac (fun _=>true) s m).env,(dK (bL l) ac (fun _=>true) s m).o,s.nx+m⟩ φ ao a w ag dh hlv (Nat.le_refl _) ⟨k1,hu.tr.trans k2,hu.size,hu.defers.mono k2,fun i=>V.aL k2 _ _ (hu.env i)⟩ cm
  intro fuel
  induction fuel with
  |zero=>
   intro ao φ a w dh EU mC cc hu
   have aX:∀k,k<ops.size->Ef ao k=true:=by
    intro k hk
    have h1:ao.count true=ao.size:=ag
    rw[Array.count_eq_size]at h1
    have:=h1 ao[k] (Array.getElem_mem ag)
    simp only[Ef,Array.getD_eq_getD_getElem?]
    rw[Array.getElem?_eq_getElem (by omega)]
    simpa using this.symm
   exact fin 0 ao φ a w dh EU cc (fun k hk=>aX k ag) hu
  |succ fuel ih=>
   intro ao φ a w dh EU mC cc hu
   by_cases Nw:∀k,k<m->Ef ao k=true
   ·exact fin (fuel+1) ao φ a w dh EU cc Nw hu
   have hex:∃j,j<m/\Ef ao j=false:=by
    apply Classical.byContradiction
    intro uQ
    refine Nw fun k hk=> ?_
    cases hb:Ef ao k with
    |true=>rfl
    |false=>exact absurd ⟨k,hk,hb⟩ uQ
   obtain⟨j0,hj0,Wd⟩:=hex
   refine⟨fun hr=> ?_,fun i hi=> ?_⟩
   ·have:=nE rj dh hr j0 ag
    rw[show ao.getD j0 false=false from Wd]at this
    cases this
   obtain⟨h1,o,h2,h3⟩:=mem_ready.1 hi
   have hiS:i<ops.size:=(Array.getElem?_eq_some_iff.1 h2).1
   have lz:Ef ao i=false:=by
    simp only[Ef,Array.getD_eq_getD_getElem?]at h1|-
    rw[Array.getElem?_eq_getElem (by omega)]at h1|-
    simpa using h1
   have Hv:∀j∈bp ops i,Ef ao j=true:=by
    exact PI
   have rr:i<N:=by
    apply Classical.byContradiction
    intro x8
    have x8:m<=i:=Nat.le_of_not_lt x8
    have:=Dc _ mC i hiS Hv j0 (Dd i x8 hiS j0 ag)
    rw[Wd]at this;cases this
   have Hx:xc N po (Ef ao):=fun k hk ig=>Dc _ mC k ag (mC k ag ig)
   obtain⟨Wa,ag2⟩:=agree (s:=s) (n:=N) (fun k hk=>zw k ag) hc Hx rr lz (Dc _ mC i ag Hv)
   obtain⟨g1,g2,g3,g4⟩:=vr (sJ _ _ i o pW rX)
   have cJ: ¬CK ao (s.nx+i):=by
    rintro(h|⟨k,_,hk,he⟩)
    ·omega
    ·have:k=i:=ag
     subst this;rw[lz]at hk;cases hk
   have BT:∀k,Ef (ao.setIfInBounds i true) k=(Ef ao k||k==i):=by
    intro k
    simp only[Ef,Array.getD_eq_getD_getElem?]
    by_cases e:k=i
    ·subst e;simp[dh,hiS]
    ·rw[Array.getElem?_setIfInBounds_ne (Ne.symm e)]
     have:(k==i)=false:=by simpa using e
     simp[this]
   have Qm:=insert (s:=s) hc Hx rr lz BT
   have Qn:∀k,k<ops.size->Ef (ao.setIfInBounds i true) k=true->∀j∈bp ops k,Ef (ao.setIfInBounds i true) j=true:=by
    intro k hk ig j hj
    rw[BT]at ig|-
    by_cases e:k=i
    ·subst e;simp[Hv j hj]
    ·have:(k==i)=false:=by simpa using e
     rw[this,Bool.or_false]at ig
     simp[mC k hk ig j hj]
   have Hy:(ao.setIfInBounds i true).count true+fuel=ops.size:=by
    have cc:i<ao.size:=ag
    have e1:ao.setIfInBounds i true=ao.set i true cc:=by simp[Array.setIfInBounds,cc]
    have e2:ao[i]=false:=by
     have:=lz
     simp only[Ef,Array.getD_eq_getD_getElem?]at this
     rw[Array.getElem?_eq_getElem cc]at this
     simpa using this
    rw[e1,Array.count_set cc,e2]
    simp
    omega
   have jQ:(ac i).ok=true->∀aE a' w',rq M b7 H0 w0 n cx aE (uf o.dst (ac i) (dK (bL l) ac (Ef ao) s N)) (fun id=>CK ao id\/id=s.nx+i) a' w'->wpAnyIn (dm ro) k P .any ops Q fuel (ao.setIfInBounds i true) a' w':=by
    intro Wb aE a' w' yg
    refine ih _ aE a' w' (by simp[dh]) Hy Qn (fun k hk ig=> ?_) ?_
    ·rw[BT]at ig
     by_cases e:k=i
     ·subst e;exact rr
     ·have:(k==i)=false:=by simpa using e
      rw[this,Bool.or_false]at ig
      exact cc k hk ig
    rw[Qm,g2]
    obtain⟨k1,k2⟩:=iq (us':=CK (ao.setIfInBounds i true)) yg.heap (fun id h=>by
     rcases h with(h|⟨k,hk,ig,rfl⟩)|rfl
     ·exact .inl h
     ·exact .inr ⟨k,hk,by rw[BT,ig];rfl,rfl⟩
     ·exact .inr ⟨i,rr,by rw[BT];simp,rfl⟩)
    exact UU
   have EV:∀d want,(bL l i).gd=some (d,want)->(dK (bL l) ac (Ef ao) s N).env d=(dK (bL l) ac (fun _=>true) s i).env d:=fun d want hd=>Wa d (by simp[eh,tmpsOf,hd])
   have aU:=Ql i rr
   have GN:∀x∈(bL l i).op.operands,(dK (bL l) ac (Ef ao) s N).ev x=(dK (bL l) ac (fun _=>true) s i).ev x:=fun x hx=>zp fun t ht=>Wa t (by
    subst ht
    simp only[eh,tmpsOf,List.mem_append,List.mem_filterMap]
    exact .inl (.inl ⟨.tmp t,Array.mem_toList_iff.2 hx,rfl⟩))
   have PU:(dK (bL l) ac (Ef ao) s N).nx=(dK (bL l) ac (fun _=>true) s i).nx:=(jD N).trans (jD i).symm
   unfold wpOpIn
   simp only[h2]
   cases tZ:ac i with
   |skip=>
    rw[tZ]at aU jQ
    have hw:=eE hu.env g4 (eF EV aU)
    simp only[hw,Bool.false_eq_true,if_false]
    refine⟨fun _ _=>trivial,jQ rfl φ _ w ?_⟩
    have:=iI (v:= .bP []) (val:=undef) hu hu.heap (Trans.refl _ _ _) ⟨#[],rfl,rfl⟩ (dst:=o.dst) g3 rfl (us':=fun id=>CK ao id\/id=s.nx+i) (fun id h=> .inl h)
    exact this
   |val v Δ rd=>
    rw[tZ]at aU jQ
    have hw:=eE hu.env g4 (eF EV aU.1)
    exact Vv
   |bD v ws rd=>
    have:=Wc i rr
    rw[tZ]at this;cases this
   |cX=>
    have:=Wc i rr
    rw[tZ]at this;cases this
 refine key ops.size _ φ a w aK (by simp[Array.count_replicate]) (fun k hk ig=> ?_) (fun k hk ig=> ?_) ?_
 ·exact J6
 ·exact J6
 ·have e:∀k,dK (bL l) ac (Ef (Array.replicate ops.size false)) s k=s:=by
   intro k
   induction k with
   |zero=>rfl
   |succ k ih=>
    have:Ef (Array.replicate ops.size false) k=false:=by
     exact MP
    simp only[dK,this,ih]
    rfl
  exact Vz
end
end
end Go.Proofs.YtnkamdiiakdkgaaGreat
