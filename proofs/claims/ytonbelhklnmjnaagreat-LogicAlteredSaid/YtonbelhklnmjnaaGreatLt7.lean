/-
  A PART OF THE PROOF. Conditions: none.
-/
import Derived.OrdersIn
import Derived.Test.YtonbelhklnmjnaaGreatLt6
set_option linter.unusedSimpArgs false
set_option linter.unusedVariables false
namespace Go.Proofs.YtonbelhklnmjnaaGreat
def ab.refs:ab->List Nat
 | .row cs=>V.aO cs
 | .loop _ _ env _ _ _ _ _=>V.aO env
 |_=>[]
def D7(R:List Nat)(o:Nat->ab):Nat->ab:=fun id=>if R.contains id=true then o id else .no
def Fs(P:Program)(g:FuncId)(args:List V)(rd:List Nat)(o:Nat->ab)(out:R)(Δ:List (Nat×ab)):Prop:=
 Enters P g/\∀ (o':Nat->ab) (us:Nat->Prop) (M:Nat->Prop) (φ:Place) (w:World) (vals:Array Value),(∀id∈rd,o' id=o id/\us id)->aD M φ ⟨o',us⟩ w->V.aN (ay M φ ⟨o',us⟩) φ ⟨o',us⟩ w args vals.toList->
  Calls P g vals w fun e w'=>∃aQ,aD M aQ ⟨put o' Δ,us⟩ w'/\Trans φ ⟨o',us⟩ w aQ ⟨put o' Δ,us⟩ w'/\out.is (ay M aQ ⟨put o' Δ,us⟩) w' e
def xN(P:Program)(g:FuncId)(args:List V)(rd:List Nat)(o:Nat->ab)(fr:Nat)(v:V)(Δ:List (Nat×ab)):Prop:=
 Enters P g/\∀ (o':Nat->ab) (us:Nat->Prop) (M:Nat->Prop) (φ:Place) (w:World) (vals:Array Value),(∀id∈rd,o' id=o id/\us id)-> ¬us fr->aD M φ ⟨o',us⟩ w->V.aN (ay M φ ⟨o',us⟩) φ ⟨o',us⟩ w args vals.toList->
  Calls P g vals w fun e w'=>∃aQ,aD M aQ ⟨put o' Δ,fun id=>us id\/id=fr⟩ w'/\Trans φ ⟨o',us⟩ w aQ ⟨put o' Δ,fun id=>us id\/id=fr⟩ w'/\∃val,e= .returned val/\V.den (ay M aQ ⟨put o' Δ,fun id=>us id\/id=fr⟩) aQ ⟨put o' Δ,fun id=>us id\/id=fr⟩ w' v val
mutual
theorem V.ns {B B':Nat->Prop}{φ aQ:Place}{H H':Hp}{w:World}(hB:∀b, ¬B b-> ¬B' b):∀ (v:V) (val:Value),(∀id∈v.refs,H'.o id=H.o id/\aQ id=φ id/\H'.us id)->V.den B φ H w v val->V.den B' aQ H' w v val
 | .d x,val,_,h=>D.aT (w:=w) (w':=w) (fun b _ hn=>⟨rfl,hB b hn⟩) x val h
 | .bO,_,_,h=>h
 | .aa,_,_,_=>trivial
 | .fh,_,_,h=>h
 | .qZ es,val,_,h=>⟨D.aT (w:=w) (w':=w) (fun b _ hn=>⟨rfl,hB b hn⟩) (.sl es) val h.1,h.2⟩
 | .agg cs,val,hr,h=>by
   obtain⟨a,rfl,h1,h2⟩:=h
   exact⟨a,rfl,V.ig hB cs _ GN h1,h2⟩
 | .cp cs,val,hr,h=>by
   obtain⟨a,rfl,h1⟩:=h
   exact⟨a,rfl,V.ig hB cs _ GN h1⟩
 | .ptr id off,val,hr,h=>by
   obtain⟨a,b,c⟩:=hr id ta
   obtain⟨h0,h1,h2⟩:=h
   refine⟨h0,c,fun bZ=> ?_⟩
   rw[a]at bZ
   obtain⟨x,y,z⟩:=h2 bZ
   exact⟨x,b.trans y,z⟩
 | .osl id ep,val,hr,h=>by
   obtain⟨a,b,c⟩:=hr id ta
   obtain⟨h0,h1,h2⟩:=h
   refine⟨h0,c,fun e he=> ?_⟩
   rw[a]at he
   obtain⟨x,y⟩:=h2 e he
   exact⟨x,fun heq=>(y heq).trans b.symm⟩
 | .pe id ep i sz off,val,hr,h=>by
   obtain⟨a,b,c⟩:=hr id ta
   obtain⟨h0,h1,h2⟩:=h
   refine⟨h0,c,fun e he=> ?_⟩
   rw[a]at he
   obtain⟨x,y⟩:=h2 e he
   refine⟨x,fun heq=> ?_⟩
   obtain⟨p,q,r,z,u⟩:=y heq
   exact⟨p,q,r,b.trans z,u⟩
 | .pp cs off,val,_,h=>by
   obtain⟨a,ev,h1,h2,h3,h5,h4⟩:=h
   exact⟨a,ev,h1,h2,D.ba (w:=w) (w':=w) (fun b _ hn=>⟨rfl,hB b hn⟩) cs ev h3,h5,h4.mono (w:=w) (w':=w) (fun b _ hn=>⟨rfl,hB b hn⟩)⟩
 | .func fn first cap,val,hr,h=>by
   obtain⟨f,c,rfl,h1,h2⟩:=h
   exact⟨f,c,rfl,V.ig hB first _ (fun id aC=>hr id Nh) h1,V.ig hB cap _ (fun id aC=>hr id Nh) h2⟩
 | .iface t x,val,hr,h=>by
   obtain⟨u,rfl,h⟩:=h
   exact⟨u,rfl,V.ns hB x u GN h⟩
 | .xd id off n,val,hr,h=>by
   obtain⟨a,b,c⟩:=hr id ta
   obtain⟨h0,h1,h2⟩:=h
   refine⟨h0,c,fun bZ=> ?_⟩
   rw[a]at bZ
   obtain⟨x,y,z⟩:=h2 bZ
   exact⟨x,b.trans y,z⟩
 | .mp id,val,hr,h=>by
   obtain⟨a,b,c⟩:=hr id ta
   obtain⟨h0,h1,h2⟩:=h
   refine⟨h0,c,fun bZ=> ?_⟩
   rw[a]at bZ
   exact(h2 bZ).trans b.symm
 | .jU id,val,hr,h=>by
   obtain⟨a,b,c⟩:=hr id ta
   obtain⟨h0,h1,h2⟩:=h
   refine⟨h0,c,fun bZ=> ?_⟩
   rw[a]at bZ
   obtain⟨x,y,z⟩:=h2 bZ
   exact⟨x,b.trans y,z⟩
theorem V.ig {B B':Nat->Prop}{φ aQ:Place}{H H':Hp}{w:World}(hB:∀b, ¬B b-> ¬B' b):∀ (vs:List V) (vals:List Value),(∀id∈V.aO vs,H'.o id=H.o id/\aQ id=φ id/\H'.us id)->V.aN B φ H w vs vals->V.aN B' aQ H' w vs vals
 |[],_,_,h=>h
 |v::vs,_,hr,h=>by
  obtain⟨u,us,rfl,h1,h2⟩:=h
  exact⟨u,us,rfl,V.ns hB v u (fun id aC=>hr id Ng) h1,V.ig hB vs us (fun id aC=>hr id Ng) h2⟩
end
theorem Hu{env:List V}{i id:Nat}(h:id∈(bB env i).refs):id∈V.aO env:=by
 unfold bB at h
 induction env generalizing i with
 |nil=>simp[V.refs]at h
 |cons v env ih=>
  cases i with
  |zero=>simp only[List.getD_cons_zero]at h;simp[V.aO,h]
  |succ i=>simp only[List.getD_cons_succ]at h;simp[V.aO,ih h]
theorem bc.refs {M M':Nat->Prop}{φ aQ:Place}{H H':Hp}{w:World}{id:Nat}(hB:∀b, ¬ay M φ H b-> ¬ay M' aQ H' b)(ho:H'.o id=H.o id)(fb:aQ id=φ id)
 (hr:∀j∈(H.o id).refs,H'.o j=H.o j/\aQ j=φ j/\H'.us j) (h:bc M φ H w id):bc M' aQ H' w id:=by
 have hd:∀b,dw w b-> ¬ay M φ H b->w.heap[b]? =w.heap[b]? /\ ¬ay M' aQ H' b:=fun b _ hn=>⟨rfl,hB b hn⟩
 unfold bc at*
 rw[ho]
 cases hx:H.o id with
 |no=>trivial
 |row cs=>
  simp only[hx]at h|-
  obtain⟨b,dU,ty,h1,h2,h3,h4⟩:=h
  exact⟨b,dU,ty,fb.trans h1,h2,V.ig hB cs _ (fun j hj=>hr j (by rw[hx];exact hj)) h3,h4⟩
 |arr ep ty sz es=>
  simp only[hx]at h|-
  obtain⟨h0,xs,h1,evs,h2,h3,h4⟩:=h
  exact⟨h0,xs,by rw[fb];exact h1,evs,h2,h3,D.ba hd es evs h4⟩
 |sv ep es=>
  simp only[hx]at h|-
  rw[fb]
  exact D.aT hd (.sl es) _ h
 |map kt vt l=>
  simp only[hx]at h|-
  obtain⟨b,es,clock,h1,h2,h4,h3⟩:=h
  exact⟨b,es,clock,fb.trans h1,h2,h4,aY.mono hd l _ h3⟩
 |iP l=>
  simp only[hx]at h|-
  rw[fb]
  exact D.aT hd (.mp _ _) _ h
 |mW l last=>
  simp only[hx]at h|-
  obtain⟨b,h1,h2⟩:=h
  exact⟨b,fb.trans h1,h2.mono hd rfl⟩
 |za s pos=>
  simp only[hx]at h|-
  obtain⟨b,h1,h2⟩:=h
  exact⟨b,fb.trans h1,h2⟩
 |loop nf n env ps iQ eJ st GY=>
  simp only[hx]at h|-
  obtain⟨b,r,h1,h2,h0,h3,h4,h5,h6,h7,h8,h9⟩:=h
  exact⟨b,r,fb.trans h1,h2,h0,h3,h4,h5,h6,h7,h8,fun i=>V.ns hB _ _ (fun j hj=>hr j (by rw[hx];exact Hu hj)) (h9 i)⟩
section
variable {P:Program}
theorem D8{o o':Nat->ab}{Δ:List (Nat×ab)}{id:Nat}(h:o id=o' id):put o Δ id=put o' Δ id:=Ft h
where Ft {o o':Nat->ab}:∀ {Δ:List (Nat×ab)} {id:Nat},o id=o' id->put o Δ id=put o' Δ id
 |[],_,h=>h
 |x::Δ,id,h=>by
  simp only[put,List.foldl_cons]
  refine Ft (Δ:=Δ) (o:=aM o x.1 x.2) (o':=aM o' x.1 x.2) ?_
  simp only[aS]
  split
  ·rfl
  ·exact h
theorem zK{o:Nat->ab}:∀ {Δ:List (Nat×ab)} {id:Nat},(∀x∈Δ,x.1≠id)->put o Δ id=o id
 |[],_,_=>rfl
 |x::Δ,id,h=>by
  have:=zK (o:=aM o x.1 x.2) (Δ:=Δ) (id:=id) (fun y hy=>h y tc)
  simp only[put,List.foldl_cons]at this|-
  rw[this];simp[Ne.symm (h x (by simp))]
theorem Fs.mj {g:FuncId}{args:List V}{rd:List Nat}{o:Nat->ab}{nx:Nat}{out:R}{Δ:List (Nat×ab)}(tM:∀id∈rd,id<nx)(dZ:∀id∈V.aO args,id∈rd)(pL:∀id∈rd,∀j∈(o id).refs,j∈rd)(Tw:∀x∈Δ,x.1∈rd)(ab3:∀x∈Δ,∀j∈x.2.refs,j∈rd)
 (h:cO P g args (D7 rd o) nx
  (fun v o1 _=>(∀id∈rd,o1 id=put o Δ id)/\∃vs rs,v=(match vs with|[v]=>v|vs=> .cp vs)/\ct o1 vs=some rs/\out= .ret rs/\∀id∈V.bF vs,id∉rd)
  (fun v o1 _=>(∀id∈rd,o1 id=put o Δ id)/\∃x,eg o1 v=some x/\out= .bU x/\∀id∈v.ids,id∉rd)):Fs P g args rd o out Δ:=by
 refine⟨h.1,fun o' us M φ w vals ho hH hd=> ?_⟩
 let M1:Nat->Prop:=fun b=>M b\/∃id,id∉rd/\(o' id).live=true/\eQ (φ id)=some b
 let HR:Hp:=hp (D7 rd o) nx
 have uM:∀id,id∈rd->D7 rd o id=o' id:=fun id aC=>by simp[D7,aC,(ho id aC).1]
 have sK:∀id,id∉rd->D7 rd o id= .no:=fun id aC=>by simp[D7,aC]
 have hB:∀b,ay M1 φ HR b↔ay M φ ⟨o',us⟩ b:=by
  intro b
  constructor
  ·rintro((h|⟨id,h1,h2,h3⟩)|⟨id,h1,h2⟩)
   ·exact .inl h
   ·exact .inr ⟨id,h2,h3⟩
   ·by_cases aC:id∈rd
    ·exact .inr ⟨id,by show(o' id).live=true;rw[<- uM id aC];exact h1,h2⟩
    ·have:HR.o id= .no:=sK id aC
     rw[this]at h1;cases h1
  ·rintro(h|⟨id,h1,h2⟩)
   ·exact .inl (.inl h)
   ·by_cases aC:id∈rd
    ·exact .inr ⟨id,by show(D7 rd o id).live=true;rw[uM id aC];exact h1,h2⟩
    ·exact .inl (.inr ⟨id,aC,h1,h2⟩)
 have JE:∀id∈rd,HR.o id=o' id/\φ id=φ id/\HR.us id:=fun id aC=>⟨uM id aC,rfl,tM id aC⟩
 have hHR:aD M1 φ HR w:=by
  refine⟨fun id=> ?_,fun id hn=> ?_,fun i j b hi hj bi bj=> ?_,fun b hb=> ?_,fun b hb=> ?_⟩
  ·by_cases aC:id∈rd
   ·refine bc.refs (H:=⟨o',us⟩) (M:=M) (φ:=φ) (fun b hn hb=>hn ((hB b).1 hb)) (uM id aC) rfl (fun j hj=>JE j ?_) (hH.ok id)
    have:o' id=o id:=(ho id aC).1
    exact pL id aC j (by rw[<- this];exact hj)
   ·unfold bc
    rw[show HR.o id= .no from sK id aC];trivial
  ·exact sK id fun aC=>hn (tM id aC)
  ·have live:∀i,(HR.o i).live=true->i∈rd/\(o' i).live=true:=fun i hi=>by
    by_cases aC:i∈rd
    ·exact⟨aC,by rw[<- uM i aC];exact hi⟩
    ·rw[show HR.o i= .no from sK i aC]at hi;cases hi
   exact hH.apart i j b (live i hi).2 (live j hj).2 bi bj
  ·obtain⟨id,h1,h2⟩:=hb
   have aC:id∈rd:=by
    by_cases aC:id∈rd
    ·exact aC
    ·rw[show HR.o id= .no from sK id aC]at h1;cases h1
   rw[show HR.o id=o' id from uM id aC]at h1
   obtain⟨k1,k2⟩:=hH.ours b ⟨id,h1,h2⟩
   refine⟨?_,k2⟩
   rintro(hM|⟨j,j1,j2,j3⟩)
   ·exact k1 hM
   ·exact j1 (hH.apart j id b j2 h1 j3 h2 ▸ aC)
  ·rcases hb with hb|⟨id,h1,h2,h3⟩
   ·exact hH.AL b hb
   ·exact(hH.ours b ⟨id,h2,h3⟩).2
 have hdR:V.aN (ay M1 φ HR) φ HR w args vals.toList:=V.ig (H:=⟨o',us⟩) (fun b hn hb=>hn ((hB b).1 hb)) _ _ (fun id aC=>JE id (dZ id aC)) hd
 refine(h.2 M1 φ w vals hHR hdR).mono ?_
 rintro e w' ⟨jC,o1,AP,v,k1,k2,k3⟩
 have main:(∀id∈rd,o1 id=put o Δ id)->∃aQ,aD M aQ ⟨put o' Δ,us⟩ w'/\Trans φ ⟨o',us⟩ w aQ ⟨put o' Δ,us⟩ w'/\∀b,ay M aQ ⟨put o' Δ,us⟩ b->M1 b\/∃id∈rd,(o1 id).live=true/\eQ (jC id)=some b:=by
  intro wy
  have Fh:∀id∈rd,put o' Δ id=o1 id:=fun id aC=>(D8 (ho id aC).1).trans (wy id aC).symm
  have I2:∀id,id∉rd->put o' Δ id=o' id:=fun id aC=>zK fun x hx e=>aC (e ▸ Tw x hx)
  let Hk:Place:=fun id=>if id∈rd then jC id else φ id
  have zL:∀id∈rd,Hk id=jC id:=fun id aC=>if_pos aC
  have BM:∀id,id∉rd->Hk id=φ id:=fun id aC=>if_neg aC
  let H2:Hp:=⟨put o' Δ,us⟩
  have c7:∀b,df Hk H2 b->(∃id∈rd,(o1 id).live=true/\eQ (jC id)=some b)\/∃id,id∉rd/\(o' id).live=true/\eQ (φ id)=some b:=by
   rintro b ⟨id,h1,h2⟩
   by_cases aC:id∈rd
   ·exact .inl ⟨id,aC,by rw[<- Fh id aC];exact h1,by rw[<- zL id aC];exact h2⟩
   ·exact .inr ⟨id,aC,by rw[<- I2 id aC];exact h1,by rw[<- BM id aC];exact h2⟩
  have hB2:∀b,ay M Hk H2 b->ay M1 jC (hp o1 AP) b:=by
   rintro b (hb|hb)
   ·exact .inl (.inl hb)
   ·rcases c7 b hb with⟨id,h1,h2,h3⟩|⟨id,h1,h2,h3⟩
    ·exact .inr ⟨id,h2,h3⟩
    ·exact .inl (.inr ⟨id,h1,h2,h3⟩)
  have YA:ew φ ⟨o',us⟩ Hk H2:=by
   refine⟨fun id h=>h,fun id hu hr=> ?_,fun id e' hu he=> ?_⟩
   ·by_cases aC:id∈rd
    ·rw[show H2.o id=o1 id from Fh id aC]at hr
     obtain⟨a,b⟩:=k2.rel.row id (tM id aC) hr
     rw[show HR.o id=o' id from uM id aC]at a
     exact⟨a,(zL id aC).trans b⟩
    ·rw[show H2.o id=o' id from I2 id aC]at hr
     exact⟨hr,BM id aC⟩
   ·by_cases aC:id∈rd
    ·rw[show H2.o id=o1 id from Fh id aC]at he
     obtain⟨e0,a,b,c⟩:=k2.rel.ep id e' (tM id aC) he
     rw[show HR.o id=o' id from uM id aC]at a
     exact⟨e0,a,b,fun heq=>(zL id aC).trans (c heq)⟩
    ·rw[show H2.o id=o' id from I2 id aC]at he
     exact⟨e',he,Nat.le_refl _,fun _=>BM id aC⟩
  have ze:∀b,dw w b-> ¬ay M φ ⟨o',us⟩ b->w'.heap[b]? =w.heap[b]? /\ ¬ay M Hk H2 b:=by
   intro b hc hn
   obtain⟨a,c⟩:=k2.blocks (M:=M1) b hc (fun hb=>hn ((hB b).1 hb))
   exact⟨a,fun hb=>c (hB2 b hb)⟩
  have wO:∀b,b<w.heap.size-> ¬df φ HR b->w'.heap[b]? =w.heap[b]? :=fun b hb hl=>k2.cA.block b hb hl
  have ht:Trans φ ⟨o',us⟩ w Hk H2 w':=by
   refine⟨⟨k2.cA.os,k2.cA.tape,k2.cA.output,k2.cA.size,fun b hb hl=>wO b hb fun⟨id,h1,h2⟩=>hl ?_⟩,fun b hb=> ?_,YA⟩
   ·by_cases aC:id∈rd
    ·exact⟨id,by show(o' id).live=true;rw[<- uM id aC];exact h1,h2⟩
    ·rw[show HR.o id= .no from sK id aC]at h1;cases h1
   ·rcases c7 b hb with⟨id,h1,h2,h3⟩|⟨id,h1,h2,h3⟩
    ·rcases k2.grow b ⟨id,h2,h3⟩with⟨j,j1,j2⟩|AO
     ·by_cases aC:j∈rd
      ·exact .inl ⟨j,by show(o' j).live=true;rw[<- uM j aC];exact j1,j2⟩
      ·rw[show HR.o j= .no from sK j aC]at j1;cases j1
     ·exact .inr AO
    ·exact .inl ⟨id,h2,h3⟩
  refine⟨Hk,⟨fun id=> ?_,fun id hn=> ?_,fun i j b hi hj bi bj=> ?_,fun b hb=> ?_,fun b hb=>Nat.lt_of_lt_of_le (hH.AL b hb) k2.cA.size⟩,ht,fun b hb=> ?_⟩
  ·by_cases aC:id∈rd
   ·refine bc.refs (H:=hp o1 AP) (M:=M1) (φ:=jC) (fun b hn hb=>hn (hB2 b hb)) (Fh id aC) (zL id aC) (fun j hj=> ?_) (k1.ok id)
    have IY:j∈rd:=by
     have e1:o1 id=put o Δ id:=wy id aC
     have hj:j∈(put o Δ id).refs:=by rw[<- e1];exact hj
     have key:∀ (Fu:List (Nat×ab)) (q:Nat->ab),(∀x∈Fu,∀j∈x.2.refs,j∈rd)->(∀j∈(q id).refs,j∈rd)->∀j∈(put q Fu id).refs,j∈rd:=by
      intro Fu
      induction Fu with
      |nil=>intro q _ h2;exact h2
      |cons x Fu ih=>
       intro q h1 h2
       simp only[put,List.foldl_cons]
       refine ih (aM q x.1 x.2) (fun y hy=>h1 y tc) ?_
       simp only[aS]
       split
       ·exact h1 x aj
       ·exact h2
     exact key Δ o ab3 (pL id aC) j hj
    exact⟨Fh j IY,zL j IY,(ho j IY).2⟩
   ·exact bc.A9 ze YA (I2 id aC) (BM id aC) (fun hl b hb=>wO b (hH.ours b ⟨id,hl,hb⟩).2 fun⟨j,j1,j2⟩=>by
     by_cases hj:j∈rd
     ·rw[show HR.o j=o' j from uM j hj]at j1
      exact aC (hH.apart id j b hl j1 hb j2 ▸ hj)
     ·rw[show HR.o j= .no from sK j hj]at j1;cases j1) (hH.ok id)
  ·have aC:id∉rd:=fun aC=>hn (ho id aC).2
   exact(I2 id aC).trans (hH.fresh id hn)
  ·by_cases e1:i∈rd<;>by_cases e2:j∈rd
   ·refine k1.apart i j b ?_ ?_ (by rw[<- zL i e1];exact bi) (by rw[<- zL j e2];exact bj)
    ·show(o1 i).live=true;rw[<- Fh i e1];exact hi
    ·show(o1 j).live=true;rw[<- Fh j e2];exact hj
   ·exfalso
    refine(k1.ours b ⟨i,by show(o1 i).live=true;rw[<- Fh i e1];exact hi,by rw[<- zL i e1];exact bi⟩).1 (.inr ⟨j,e2,by rw[<- I2 j e2];exact hj,by rw[<- BM j e2];exact bj⟩)
   ·exfalso
    refine(k1.ours b ⟨j,by show(o1 j).live=true;rw[<- Fh j e2];exact hj,by rw[<- zL j e2];exact bj⟩).1 (.inr ⟨i,e1,by rw[<- I2 i e1];exact hi,by rw[<- BM i e1];exact bi⟩)
   ·exact hH.apart i j b (by show(o' i).live=true;rw[<- I2 i e1];exact hi) (by show(o' j).live=true;rw[<- I2 j e2];exact hj) (by rw[<- BM i e1];exact bi) (by rw[<- BM j e2];exact bj)
  ·rcases c7 b hb with⟨id,h1,h2,h3⟩|⟨id,h1,h2,h3⟩
   ·obtain⟨a,c⟩:=k1.ours b ⟨id,h2,h3⟩
    exact⟨fun hM=>a (.inl hM),c⟩
   ·obtain⟨a,c⟩:=hH.ours b ⟨id,h2,h3⟩
    exact⟨a,Nat.lt_of_lt_of_le c k2.cA.size⟩
  ·rcases hb with hb|hb
   ·exact .inl (.inl hb)
   ·rcases c7 b hb with h|h
    ·exact .inr h
    ·exact .inl (.inr h)
 have res:∀ (vs:List V) (xs:List D) (us':List Value),(∀id∈rd,o1 id=put o Δ id)->ct o1 vs=some xs->(∀id∈V.bF vs,id∉rd)->V.aN (ay M1 jC (hp o1 AP)) jC (hp o1 AP) w' vs us'->
  ∃aQ,aD M aQ ⟨put o' Δ,us⟩ w'/\Trans φ ⟨o',us⟩ w aQ ⟨put o' Δ,us⟩ w'/\D.aN (ay M aQ ⟨put o' Δ,us⟩) w' xs us':=by
  intro vs xs us' wy h1 ab4 h2
  obtain⟨f1,f2,f3,f4,f5⟩:=dx k1 (V.bF vs) (dm vs _ h2)
  have h3:=dH f1 vs xs us' f3 h1 (V.ba f2 _ _ h2)
  obtain⟨aQ,m1,m2,m3⟩:=main wy
  refine⟨aQ,m1,m2,D.ba (w:=w') (w':=w') (fun b _ hn=>⟨rfl,fun hb=>hn ?_⟩) xs us' h3⟩
  rcases m3 b hb with hb|⟨id,i1,i2,i3⟩
  ·exact .inl hb
  ·exact .inr ⟨id,by rw[f4 id fun hm=>ab4 id hm i1];exact i2,i3⟩
 cases e with
 |outgrown=>exact k3.elim
 |panicked ch=>
  obtain⟨val,rfl,g1,wy,x,g2,rfl,g3⟩:=k3
  obtain⟨aQ,m1,m2,m3⟩:=res [v] [x] [val] wy (by simp[ct,g2]) (by simpa[V.bF]using g3) ⟨val,[],rfl,g1,rfl⟩
  obtain⟨u,us2,he,h2,_⟩:=m3
  simp at he;obtain⟨rfl,rfl⟩:=he
  exact⟨aQ,m1,m2,val,rfl,h2⟩
 |returned val=>
  obtain⟨g1,wy,vs,rs,rfl,g2,rfl,g3⟩:=k3
  match vs,g1,g2,g3 with
  |[],g1,g2,g3=>
   obtain⟨arr,rfl,hv⟩:=g1
   simp only[ct,Option.some.injEq]at g2;subst g2
   obtain⟨aQ,m1,m2,m3⟩:=res [] [] arr.toList wy rfl (by simp[V.bF]) hv
   exact⟨aQ,m1,m2,arr,rfl,m3⟩
  |[v],g1,g2,g3=>
   obtain⟨aQ,m1,m2,m3⟩:=res [v] rs [val] wy g2 g3 ⟨val,[],rfl,g1,rfl⟩
   refine⟨aQ,m1,m2, ?_⟩
   cases rs with
   |nil=>cases m3
   |cons x l=>
    obtain⟨u,us2,he,h2,h3⟩:=m3
    simp at he;obtain⟨rfl,rfl⟩:=he
    cases l with
    |nil=>exact h2
    |cons y l=>obtain⟨_,_,h,_⟩:=h3;cases h
  |v::v2::l,g1,g2,g3=>
   obtain⟨arr,rfl,hv⟩:=g1
   obtain⟨aQ,m1,m2,m3⟩:=res (v::v2::l) rs arr.toList wy g2 g3 hv
   refine⟨aQ,m1,m2, ?_⟩
   have hl:=D.aH _ _ m3
   have Jm:=V.aH _ _ hv
   match rs,hl,m3 with
   |[],hl,_=>exact Nd
   |[x],hl,_=>exact Nd
   |x::y::l,_,m3=>exact⟨arr,rfl,m3⟩
end
end Go.Proofs.YtonbelhklnmjnaaGreat
namespace Go.Proofs.YtonbelhklnmjnaaGreat
inductive fH where
 |skip|val (v:V) (Δ:List (Nat×ab)) (rd:List Nat)|bU (v:V) (ws rd:List Nat)|eQ
 deriving Inhabited
def fH.ok:fH->Bool
 | .skip| .val .. =>true
 |_=>false
def wA(dst:Option Tmp)(x:fH)(s:S):S:=
 match x with
 | .skip=>⟨bu s.env dst (.cp []),s.o,s.nx⟩
 | .val v Δ _=>⟨bu s.env dst v,put s.o Δ,s.nx⟩
 | .bU .. | .eQ=>⟨bu s.env dst .aa,s.o,s.nx⟩
def lj:fH->List Nat
 | .val _ Δ _=>Δ.map (·.1)
 |_=>[]
def wP:fH->List Nat
 | .val _ _ rd=>rd
 | .bU _ _ rd=>rd
 |_=>[]
def Qa(P:Program)(g:FuncId)(ds:List D)(v:V):Prop:=
 Enters P g/\∀ (M:Nat->Prop) (w:World) (vals:Array Value),(∀b,M b->b<w.heap.size)->D.aN M w ds vals.toList->
  Calls P g vals w fun e w'=>eK (fun _=>False) w w'/\∃val,e= .returned val/\∀φ H,V.den M φ H w' v val
theorem Qa.mj {P:Program}{g:FuncId}{ds:List D}{v:V}(hr:v.refs=[])(h:cO P g (ds.map .d) (fun _=> .no) 0 (fun v' _ _=>v'=v) (fun _ _ _=>False)):Qa P g ds v:=by
 refine⟨h.1,fun M w vals hM hd=> ?_⟩
 let cT:Place:=fun _=> .nilFunc
 have wO:∀b, ¬df cT (hp (fun _=> .no) 0) b:=by rintro b ⟨id,hl,_⟩;simp[hp,ab.live]at hl
 refine(h.2 M cT w vals (lM cT hM) ((V.cE _ _).2 (D.ba (w:=w) (w':=w) (B:=M) (fun b _ hB=>⟨rfl,fun h=>h.elim hB (wO b)⟩) _ _ hd))).mono ?_
 rintro e w' ⟨aQ,o',nx',v',k1,k2,k3⟩
 refine⟨⟨k2.cA.os,k2.cA.tape,k2.cA.output,k2.cA.size,fun k hk _=>k2.cA.block k hk (wO k)⟩, ?_⟩
 cases e with
 |outgrown=>exact k3.elim
 |panicked ch=>obtain⟨_,_,_,h⟩:=k3;exact h.elim
 |returned val=>
  obtain⟨g1,rfl⟩:=k3
  exact⟨val,rfl,fun φ H=>V.ns (B:=ay M aQ (hp o' nx')) (φ:=aQ) (H:=hp o' nx') (fun b hb hm=>hb (.inl hm)) v' val (fun id aC=>by rw[hr]at aC;cases aC) g1⟩
def xO(P:Program)(s:S)(fr:Nat)(op:Op)(v:V)(Δ:List (Nat×ab))(rd:List Nat):Prop:=
 ((∃tu,gN P s fr op=some (v,Δ,tu))/\rd=pI s op)\/
 (∃c f g first cap,op= .call c/\c.callee= .value f/\s.ev f= .func (.func g) first cap/\
  ((∃ds rs,ct s.o (first++c.args.toList.map s.ev++cap)=some ds/\a8 P g ds (.ret rs)/\v=jO rs/\rd=pI s op/\
    (Δ=dn s.o (V.bF (first++c.args.toList.map s.ev++cap))\/D.ko rs=true/\Δ=[]))\/
   (∃rs,Fs P g (first++c.args.toList.map s.ev++cap) rd s.o (.ret rs) Δ/\v=jO rs/\∀id∈rd,id<s.nx)\/
   (∃ds,ct s.o (first++c.args.toList.map s.ev++cap)=some ds/\Qa P g ds v/\rd=pI s op/\Δ=dn s.o (V.bF (first++c.args.toList.map s.ev++cap)))\/
   (xN P g (first++c.args.toList.map s.ev++cap) rd s.o fr v Δ/\∀id∈rd,id<s.nx)))
def BN(P:Program)(s:S)(op:Op)(v:V)(ws rd:List Nat):Prop:=
 ∃c f g first cap,op= .call c/\c.callee= .value f/\s.ev f= .func (.func g) first cap/\
  ((∃ds x,ct s.o (first++c.args.toList.map s.ev++cap)=some ds/\a8 P g ds (.bU x)/\x.flat=true/\v= .d x/\rd=pI s op/\ws=[])\/
   (∃x Δ,Fs P g (first++c.args.toList.map s.ev++cap) rd s.o (.bU x) Δ/\v= .d x/\ws=Δ.map (·.1)/\∀id∈rd,id<s.nx))
def eu(s:S)(gd:Option (Nat×Bool))(b:Bool):Prop:=
 match gd with
 |none=>b=true
 |some (d,want)=>match s.env d with
  | .d (.bool c)=>b=(c==want)
  | .cp []=>b=false
  |_=>False
def Qb(P:Program)(s:S)(fr:Nat)(o:cz)(x:fH):Prop:=
 match x with
 | .skip=>eu s o.gd false
 | .val v Δ rd=>eu s o.gd true/\xO P s fr o.op v Δ rd
 | .bU v ws rd=>eu s o.gd true/\BN P s o.op v ws rd
 | .eQ=>True
def eY(oc:Nat->cz)(ac:Nat->fH)(E:Nat->Bool)(s:S):Nat->S
 |0=>s
 |k+1=>if E k then wA (oc k).dst (ac k) (eY oc ac E s k)else eY oc ac E s k
structure Compat (oc:Nat->cz) (ac:Nat->fH) (R:Nat->List Nat) (i j:Nat):Prop where
 di:∀d,(oc i).dst=some d->d∉fC (oc j)
 dj:∀d,(oc j).dst=some d->d∉fC (oc i)
 wi:∀id∈lj (ac i),id∉R j/\id∉lj (ac j)
 wj:∀id∈lj (ac j),id∉R i
section
variable {P:Program}{oc:Nat->cz}{ac:Nat->fH}{s:S}{n:Nat}{E:Nat->Bool}{R:Nat->List Nat}{pr:Nat->Nat->Prop}
theorem D9{env:Nat->V}{dst:Option Tmp}{v:V}{t:Nat}(h:∀d,dst=some d->d≠t):bu env dst v t=env t:=by
 cases dst with
 |none=>rfl
 |some d=>simp only[bu,aS];rw[if_neg (fun e=>h d rfl e.symm)]
theorem ij{o:Nat->ab}:∀ {Δ:List (Nat×ab)} {id:Nat},id∉Δ.map (·.1)->put o Δ id=o id
 |[],_,_=>rfl
 |x::Δ,id,h=>by
  simp only[List.map_cons,List.mem_cons,not_or]at h
  have:=ij (o:=aM o x.1 x.2) (Δ:=Δ) h.2
  simp only[put,List.foldl_cons]at this|-
  rw[this];simp[h.1]
theorem zM{o o':Nat->ab}:∀ {Δ:List (Nat×ab)} {id:Nat},id∈Δ.map (·.1)\/o id=o' id->put o Δ id=put o' Δ id
 |[],_,h=>by rcases h with h|h;· simp at h
             ·exact h
 |x::Δ,id,h=>by
  simp only[put,List.foldl_cons]
  refine zM (Δ:=Δ) (o:=aM o x.1 x.2) (o':=aM o' x.1 x.2) ?_
  simp only[List.map_cons,List.mem_cons]at h
  simp only[aS]
  by_cases e:id=x.1
  ·right;simp[e]
  ·rcases h with(h|h)|h
   ·exact absurd h e
   ·exact .inl h
   ·right;simp[e,h]
theorem ll{dst:Option Tmp}{x:fH}{t:Nat}(h:∀d,dst=some d->d≠t):(wA dst x s).env t=s.env t:=by
 cases x<;>exact D9 h
theorem nu{dst:Option Tmp}{x:fH}{id:Nat}(h:id∉lj x):(wA dst x s).o id=s.o id:=by
 cases x with
 |val v Δ rd=>exact ij h
 |_=>rfl
theorem zN{dst:Option Tmp}{x:fH}{s':S}{t:Nat}(h:s.env t=s'.env t):(wA dst x s).env t=(wA dst x s').env t:=by
 cases x<;>cases dst<;>simp only[wA,bu,aS]<;>first|exact h|(split<;>first|rfl|exact h)
theorem Ea{dst:Option Tmp}{x:fH}{s':S}{id:Nat}(h:s.o id=s'.o id):(wA dst x s).o id=(wA dst x s').o id:=by
 cases x with
 |val v Δ rd=>exact zM (.inr h)
 |_=>exact h
theorem put_comm{o:Nat->ab}{Δ Fu:List (Nat×ab)}(h:∀id∈Δ.map (·.1),id∉Fu.map (·.1)):put (put o Δ) Fu=put (put o Fu) Δ:=by
 funext id
 by_cases h1:id∈Δ.map (·.1)
 ·rw[ij (h id h1)]
  exact zM (.inl h1)
 ·rw[ij (Δ:=Δ) h1]
  by_cases h2:id∈Fu.map (·.1)
  ·exact zM (.inl h2)
  ·rw[ij h2,ij h2,ij h1]
theorem xQ{env:Nat->V}{d d':Option Tmp}{v v':V}(h:∀t,d=some t->d'≠some t):bu (bu env d v) d' v'=bu (bu env d' v') d v:=by
 cases d with
 |none=>rfl
 |some t=>
  cases d' with
  |none=>rfl
  |some t'=>
   have iJ:t'≠t:=fun e=>h t rfl (by rw[e])
   funext i
   simp only[bu,aS]
   by_cases e1:i=t<;>by_cases e2:i=t'
   ·exact absurd (e2.symm.trans e1) iJ
   all_goals simp[e1,e2]
   ·intro e;exact absurd e.symm iJ
   ·intro e;exact absurd e iJ
theorem J6{d d':Option Tmp}{x x':fH}(hd:∀t,d=some t->d'≠some t)(hw:∀id∈lj x,id∉lj x'):wA d x (wA d' x' s)=wA d' x' (wA d x s):=by
 cases x<;>cases x'<;>simp only[wA]<;>first
  |rw[xQ hd,put_comm hw]
  |rw[xQ hd]
def zO(n:Nat)(pr:Nat->Nat->Prop)(E:Nat->Bool):Prop:=∀k,k<n->E k=true->∀j,pr k j->E j=true
theorem agree(_:∀k,k<n->∀j,pr k j->j<k)(hc:∀i j,i<j->j<n-> ¬pr j i->Compat oc ac R i j)(hE:zO n pr E){i:Nat}(hi:i<n)(mT:E i=false)(J7:∀j,pr i j->E j=true):
 (∀t∈fC (oc i),(eY oc ac E s n).env t=(eY oc ac (fun _=>true) s i).env t)/\(∀id∈R i,(eY oc ac E s n).o id=(eY oc ac (fun _=>true) s i).o id):=by
 have a:∀k,k<=i->(∀t∈fC (oc i),(eY oc ac E s k).env t=(eY oc ac (fun _=>true) s k).env t)/\(∀id∈R i,(eY oc ac E s k).o id=(eY oc ac (fun _=>true) s k).o id):=by
  intro k
  induction k with
  |zero=>intro _;exact⟨fun _ _=>rfl,fun _ _=>rfl⟩
  |succ k ih=>
   intro hk
   obtain⟨h1,h2⟩:=ih ad
   simp only[eY,if_true]
   by_cases fU:E k=true
   ·simp only[fU,if_true]
    exact⟨fun t ht=>zN (h1 t ht),fun id aC=>Ea (h2 id aC)⟩
   ·have PU: ¬pr i k:=fun hm=>fU (J7 k hm)
    have c:=hc k i ad hi PU
    simp only[fU]
    refine⟨fun t ht=> ?_,fun id aC=> ?_⟩
    ·rw[ll fun d hd e=>c.di d hd (e ▸ ht)];exact h1 t ht
    ·rw[nu fun hm=>(c.wi id hm).1 aC];exact h2 id aC
 have b:∀k,i<=k->k<=n->(∀t∈fC (oc i),(eY oc ac E s k).env t=(eY oc ac (fun _=>true) s i).env t)/\(∀id∈R i,(eY oc ac E s k).o id=(eY oc ac (fun _=>true) s i).o id):=by
  intro k NN
  induction NN with
  |refl=>intro _;exact a i (Nat.le_refl _)
  | @step k NN ih=>
    intro hk
    have NN:i<=k:=NN
    obtain⟨h1,h2⟩:=ih ad
    simp only[eY]
    by_cases fU:E k=true
    ·have iJ:i≠k:=fun e=>by rw[e,fU]at mT;cases mT
     have PU: ¬pr k i:=fun hm=>by have:=hE k ad fU i hm;rw[mT]at this;cases this
     have c:=hc i k ad ad PU
     simp only[fU,if_true]
     refine⟨fun t ht=> ?_,fun id aC=> ?_⟩
     ·rw[ll fun d hd e=>c.dj d hd (e ▸ ht)];exact h1 t ht
     ·rw[nu fun hm=>c.wj id hm aC];exact h2 id aC
    ·simp only[fU];exact⟨h1,h2⟩
 exact b n ad (Nat.le_refl _)
theorem insert(hc:∀i j,i<j->j<n-> ¬pr j i->Compat oc ac R i j)(hE:zO n pr E){i:Nat}(hi:i<n)(mT:E i=false){E':Nat->Bool}(Eb:∀k,E' k=(E k||k==i)):
 eY oc ac E' s n=wA (oc i).dst (ac i) (eY oc ac E s n):=by
 have a:∀k,k<=i->eY oc ac E' s k=eY oc ac E s k:=by
  intro k
  induction k with
  |zero=>intro _;rfl
  |succ k ih=>
   intro hk
   have:E' k=E k:=by rw[Eb k];have:(k==i)=false:=by simp;omega
                     simp[this]
   simp only[eY,this,ih (by omega)]
 have b:∀k,i+1<=k->k<=n->eY oc ac E' s k=wA (oc i).dst (ac i) (eY oc ac E s k):=by
  intro k NN
  induction NN with
  |refl=>
   intro _
   have h1:E' i=true:=by rw[Eb i];simp
   simp only[eY,h1,mT,if_true,a i (Nat.le_refl _)]
   rfl
  | @step k NN ih=>
    intro hk
    have NN:i+1<=k:=NN
    have h1:E' k=E k:=by rw[Eb k];have:(k==i)=false:=by simp;omega
                         simp[this]
    simp only[eY,h1,ih (by omega)]
    by_cases fU:E k=true
    ·have PU: ¬pr k i:=fun hm=>by have:=hE k ad fU i hm;rw[mT]at this;cases this
     have c:=hc i k ad ad PU
     simp only[fU,if_true]
     refine J6 (fun t ht he=> ?_) (fun id aC hm=>(c.wi id hm).2 aC)
     exact c.di t he (by simp[fC,ht])
    ·simp only[fU];rfl
 exact b n ad (Nat.le_refl _)
end
end Go.Proofs.YtonbelhklnmjnaaGreat
namespace Go.Proofs.YtonbelhklnmjnaaGreat
structure tw (M:Nat->Prop) (cT:Place) (H0:Hp) (w0:World) (n:Nat) (cx:Cx) (φ:Place) (s:S) (us:Nat->Prop) (a:Act) (w:World):Prop where
 heap:aD M φ ⟨s.o,us⟩ w
 tr:Trans cT H0 w0 φ ⟨s.o,us⟩ w
 size:a.tmps.size=n
 defers:uE cx w0 φ ⟨s.o,us⟩ w a.defers
 env:∀i,V.den (ay M φ ⟨s.o,us⟩) φ ⟨s.o,us⟩ w (s.env i) (a.tmps.getD i undef)
section
variable {P:Program}{M:Nat->Prop}{φ cT:Place}{H0:Hp}{w w' w0:World}{n:Nat}{s:S}{us:Nat->Prop}{a:Act}{cx:Cx}{ro:Option Nat}{k:Nat}
variable {next:Act->World->Prop}{Q:Exit->Act->World->Prop}
theorem jv(hs:tw M cT H0 w0 n cx φ s us a w){aQ:Place}{H':Hp}(hH:aD M aQ H' w')(ht:Trans φ ⟨s.o,us⟩ w aQ H' w'){v:V}{val:Value}(hd:V.den (ay M aQ H') aQ H' w' v val){dst:Option Tmp}(db:iy n dst)
 {o':Nat->ab} {us':Nat->Prop} (ho:H'.o=o') (hu:∀id,H'.us id->us' id):tw M cT H0 w0 n cx aQ ⟨bu s.env dst v,o',s.nx⟩ us' (a.put dst val) w':=by
 obtain⟨k1,k2⟩:=jP hH hu
 subst ho
 refine⟨k1,hs.tr.trans (ht.trans k2), ?_, ?_,fun i=> ?_⟩
 ·cases dst<;>simp[Act.put,hs.size]
 ·have:=hs.defers.mono (ht.trans k2);cases dst<;>exact this
 ·cases dst with
  |none=>exact V.aT (ht.trans k2) _ _ (hs.env i)
  |some d=>
   simp only[iy]at db
   simp only[bu,aS,Act.put]
   by_cases hi:i=d
   ·subst hi
    have h1:(a.tmps.setIfInBounds i val).getD i undef=val:=by simp[Array.getD,hs.size,db]
    rw[if_pos rfl,h1]
    exact V.aT k2 _ _ hd
   ·have h1:(a.tmps.setIfInBounds d val).getD i undef=a.tmps.getD i undef:=by
     simp only[Array.getD_eq_getD_getElem?]
     rw[Array.getElem?_setIfInBounds_ne (Ne.symm hi)]
    rw[if_neg hi,h1]
    exact V.aT (ht.trans k2) _ _ (hs.env i)
theorem xR(hs:tw M cT H0 w0 n cx φ s us a w){o:Oper}{op:Op}(fA:o.op=op){c:Call}{f:Operand}{g:FuncId}{first cap:List V}(hc:op= .call c)(eV:c.callee= .value f)(wE:s.ev f= .func (.func g) first cap):
 ∃vals:Array Value,V.aN (ay M φ ⟨s.o,us⟩) φ ⟨s.o,us⟩ w (first++c.args.toList.map s.ev++cap) vals.toList/\(Enters P g->(execOp a.eval o).run P w= .ok (.enter g vals) w):=by
 have hf:=m8 (M:=M) (φ:=φ) (H:=⟨s.o,us⟩) (w:=w) s a hs.env f
 have dZ:=kO (M:=M) (φ:=φ) (H:=⟨s.o,us⟩) (w:=w) s a hs.env c.args.toList
 rw[wE]at hf
 obtain⟨fa,ca,Ts,Dl,Yt⟩:=hf
 refine⟨fa++c.args.map a.eval++ca, ?_,fun he=> ?_⟩
 ·rw[Array.toList_append,Array.toList_append,Array.toList_map]
  exact V.mf Dl dZ Yt
 ·have:=lJ (w:=w) he (fa++c.args.map a.eval++ca)
  generalize oK:fa++c.args.map a.eval++ca=vals at this
  simp[execOp,fA,hc,resolve,eV,Ts,Deferred.ofValue,invoke,this,oK]
theorem BO(hs:tw M cT H0 w0 n cx φ s us a w){fr:Nat}(dc: ¬us fr)(tM:∀id,id<s.nx->us id){o:Oper}{op:Op}(fA:o.op=op)(db:iy n o.dst){v:V}{Δ:List (Nat×ab)}{rd:List Nat}(h:xO P s fr op v Δ rd)
 (hN:∀aQ a' w',tw M cT H0 w0 n cx aQ (wA o.dst (.val v Δ rd) s) (fun id=>us id\/id=fr) a' w'->next a' w'):o.wpIn (ej ro) k P a w next Q:=by
 rcases h with⟨⟨tu,h⟩,_⟩|⟨c,f,g,first,cap,hc,eV,wE,h⟩
 ·have h1:=BJ (K:=fun v' Fu _=>v'=v/\Fu=Δ) h ⟨rfl,rfl⟩
  obtain⟨nx,val,w',aQ,v',Fu,tu,⟨rfl,rfl⟩,hr,ab5,g1,g2,g3,g4⟩:=xC hs.heap (s:=s) rfl hs.env dc fA h1
  have zu:=jv hs g1 g2 g3 db (o':=put s.o Fu) (us':=fun id=>us id\/id=fr) rfl (fun id hu=>hu.elim .inl (g4 id))
  refine kS (fun c hc=>by rw[fA]at hc;subst hc;exact h1) ?_
  rw[hr]
  rcases ab5 with rfl|⟨rfl,rfl⟩
  ·exact hN _ _ _ zu
  ·exact hN _ _ _ zu
 ·refine kS (fun c' zx=>by rw[fA,hc]at zx;cases zx) ?_
  obtain⟨vals,bA,fF⟩:=xR (P:=P) hs fA hc eV wE
  generalize first++c.args.toList.map s.ev++cap=all at h bA
  rcases h with⟨ds,rs,fe,hP,rfl,_,Tw⟩|⟨rs,hH,rfl,mS⟩|⟨ds,fe,hP,_,rfl⟩|⟨hH,mS⟩
  ·obtain⟨f1,f2,f3,f4,f5⟩:=dx hs.heap (V.bF all) (dm all _ bA)
   have lg:(⟨s.o,us⟩:Hp).put (dn s.o (V.bF all))=⟨put s.o (dn s.o (V.bF all)),us⟩:=lI (H:=⟨s.o,us⟩) SV
   have xj:=dH f1 all ds _ f3 fe (V.ba f2 _ _ bA)
   have fq:=hP.2 _ w vals (fun b hb=>hb.elim (f1.AL b) fun hl=>(f1.ours b hl).2) xj
   rw[fF hP.1]
   refine⟨fun hd=>by simp[ej]at hd,du (fq.mono fun e w' ⟨hk,ho⟩=> ?_)⟩
   cases e with
   |panicked ch=>cases rs with|nil=>exact ho.elim|cons x l=>cases l<;>exact ho.elim
   |outgrown=>cases rs with|nil=>exact ho.elim|cons x l=>cases l<;>exact ho.elim
   |returned val=>
    rcases Tw with rfl|⟨pK,rfl⟩
    ·obtain⟨k1,k2⟩:=gZ f1 hk
     refine hN _ _ _ (jv hs k1 (f2.trans k2) (lK ho) db (by rw[lg]) fun id hu=> ?_)
     rw[lg]at hu;exact .inl hu
    ·obtain⟨k1,k2⟩:=gZ hs.heap hk
     have ho:=R.zw (out:= .ret rs) (B':=ay M φ ⟨s.o,us⟩) pK ho
     exact hN _ _ _ (jv hs k1 k2 (lK ho) db rfl fun id hu=> .inl hu)
  ·have fq:=hH.2 s.o us M φ w vals (fun id aC=>⟨rfl,tM id (mS id aC)⟩) hs.heap bA
   rw[fF hH.1]
   refine⟨fun hd=>by simp[ej]at hd,du (fq.mono fun e w' ⟨aQ,k1,k2,ho⟩=> ?_)⟩
   cases e with
   |panicked ch=>cases rs with|nil=>exact ho.elim|cons x l=>cases l<;>exact ho.elim
   |outgrown=>cases rs with|nil=>exact ho.elim|cons x l=>cases l<;>exact ho.elim
   |returned val=>exact hN _ _ _ (jv hs k1 k2 (lK ho) db rfl fun id hu=> .inl hu)
  ·obtain⟨f1,f2,f3,f4,f5⟩:=dx hs.heap (V.bF all) (dm all _ bA)
   have lg:(⟨s.o,us⟩:Hp).put (dn s.o (V.bF all))=⟨put s.o (dn s.o (V.bF all)),us⟩:=lI (H:=⟨s.o,us⟩) SV
   have xj:=dH f1 all ds _ f3 fe (V.ba f2 _ _ bA)
   have fq:=hP.2 _ w vals (fun b hb=>hb.elim (f1.AL b) fun hl=>(f1.ours b hl).2) xj
   rw[fF hP.1]
   refine⟨fun hd=>by simp[ej]at hd,du (fq.mono fun e w' ⟨hk,val,he,ho⟩=> ?_)⟩
   subst he
   obtain⟨k1,k2⟩:=gZ f1 hk
   refine hN _ _ _ (jv hs k1 (f2.trans k2) (ho _ _) db (by rw[lg]) fun id hu=> ?_)
   rw[lg]at hu;exact .inl hu
  ·have fq:=hH.2 s.o us M φ w vals (fun id aC=>⟨rfl,tM id (mS id aC)⟩) dc hs.heap bA
   rw[fF hH.1]
   refine⟨fun hd=>by simp[ej]at hd,du (fq.mono fun e w' ⟨aQ,k1,k2,val,he,ho⟩=> ?_)⟩
   subst he
   exact hN _ _ _ (jv hs k1 k2 ho db rfl fun id hu=>hu)
theorem Hv{o o2:Nat->ab}{us us2:Nat->Prop}(hH:aD M φ ⟨o,us⟩ w)(ho:∀id,o2 id=o id\/o2 id= .no)(hu:∀id,us id->us2 id):aD M φ ⟨o2,us2⟩ w/\Trans φ ⟨o,us⟩ w φ ⟨o2,us2⟩ w:=by
 have hl:∀id,(o2 id).live=true->(o id).live=true:=fun id h=>by
  rcases ho id with e|e
  ·rw[<- e];exact h
  ·rw[e]at h;cases h
 have W0:∀b,df φ ⟨o2,us2⟩ b->df φ ⟨o,us⟩ b:=fun b ⟨id,h1,h2⟩=>⟨id,hl id h1,h2⟩
 have ht:Trans φ ⟨o,us⟩ w φ ⟨o2,us2⟩ w:=by
  refine⟨eK.refl _ _,fun b hb=> .inl (W0 b hb),⟨hu,fun id _ hr=> ?_,fun id e' _ he=> ?_⟩⟩
  ·rcases ho id with e|e
   ·exact⟨by show(o id).cC=true;rw[<- e];exact hr,rfl⟩
   ·rw[show(⟨o2,us2⟩:Hp).o id= .no from e]at hr;cases hr
  ·rcases ho id with e|e
   ·exact⟨e',by show(o id).cy=some e';rw[<- e];exact he,Nat.le_refl _,fun _=>rfl⟩
   ·rw[show(⟨o2,us2⟩:Hp).o id= .no from e]at he;cases he
 refine⟨⟨fun id=> ?_,fun id hn=> ?_,fun i j b hi hj=>hH.apart i j b (hl i hi) (hl j hj),fun b hb=>hH.ours b (W0 b hb),hH.AL⟩,ht⟩
 ·rcases ho id with e|e
  ·exact(hH.ok id).mono ht e rfl fun _ _ _=>rfl
  ·unfold bc;rw[show(⟨o2,us2⟩:Hp).o id= .no from e];trivial
 ·rcases ho id with e|e
  ·exact e.trans (hH.fresh id fun h=>hn (hu id h))
  ·exact e
def pO(ds:List Nat)(wl:List Nat)(N:Nat)(s:S):S:=
 ⟨fun t=>if ds.contains t=true then .aa else s.env t,fun id=>if wl.contains id=true then .no else s.o id,s.nx+N⟩
theorem J8(hs:tw M cT H0 w0 n cx φ s us a w)(tM:∀id,id<s.nx->us id){N:Nat}(fL:∀id,us id->id<s.nx+N){o:Oper}{op:Op}(fA:o.op=op){v:V}{ws rd:List Nat}(h:BN P s op v ws rd)
 {s0:S} {ds wl:List Nat} (fe:∀t,ds.contains t=false->s.env t=s0.env t) (hwl:∀id,wl.contains id=false->s.o id=s0.o id) (NO:∀id∈ws,wl.contains id=true) (gB:s0.nx=s.nx)
 (hQ:∀aQ w' val,cw M cT H0 w0 n cx aQ (pO ds wl N s0) a w'->V.den (ay M aQ (pO ds wl N s0).H) aQ (pO ds wl N s0).H w' v val->Q (.panic [{v:=val,recovered:=false}]) a w'):o.wpIn (ej ro) k P a w next Q:=by
 obtain⟨c,f,g,first,cap,hc,eV,wE,h⟩:=h
 refine kS (fun c' zx=>by rw[fA,hc]at zx;cases zx) ?_
 obtain⟨vals,bA,fF⟩:=xR (P:=P) hs fA hc eV wE
 generalize first++c.args.toList.map s.ev++cap=all at h bA
 have fin:∀ (aQ:Place) (w':World) (o':Nat->ab) (val:Value),(∀id,wl.contains id=false->o' id=s.o id)->aD M aQ ⟨o',us⟩ w'->Trans φ ⟨s.o,us⟩ w aQ ⟨o',us⟩ w'->V.den (ay M aQ ⟨o',us⟩) aQ ⟨o',us⟩ w' v val->Q (.panic [{v:=val,recovered:=false}]) a w':=by
  intro aQ w' o' val xK k1 k2 k3
  obtain⟨m1,m2⟩:=Hv (o2:=(pO ds wl N s0).o) (us2:=fun id=>id<s0.nx+N) k1 (fun id=>by
   show(if wl.contains id=true then ab.no else s0.o id)=o' id\/_
   by_cases hw:wl.contains id=true
   ·right;simp only[pO];rw[if_pos hw]
   ·left;rw[if_neg hw,xK id (by simpa using hw),hwl id (by simpa using hw)]) (fun id h=>by rw[gB];exact fL id h)
  have ht:=hs.tr.trans (k2.trans m2)
  refine hQ aQ w' val ⟨m1,ht,hs.size,hs.defers.mono (k2.trans m2),fun i=> ?_⟩ (V.aT m2 _ _ k3)
  show V.den _ _ _ _ (if ds.contains i=true then V.aa else s0.env i) _
  by_cases hd:ds.contains i=true
  ·rw[if_pos hd];trivial
  ·rw[if_neg hd, <- fe i (by simpa using hd)];exact V.aT (k2.trans m2) _ _ (hs.env i)
 rcases h with⟨dd,x,ab6,hP,pK,rfl,_,rfl⟩|⟨x,Δ,hH,rfl,rfl,mS⟩
 ·obtain⟨f1,f2,f3,f4,f5⟩:=dx hs.heap (V.bF all) (dm all _ bA)
  have xj:=dH f1 all dd _ f3 ab6 (V.ba f2 _ _ bA)
  have fq:=hP.2 _ w vals (fun b hb=>hb.elim (f1.AL b) fun hl=>(f1.ours b hl).2) xj
  rw[fF hP.1]
  refine⟨fun hd=>by simp[ej]at hd,du (fq.mono fun e w' ⟨hk,ho⟩=> ?_)⟩
  cases e with
  |returned val=>exact ho.elim
  |outgrown=>exact ho.elim
  |panicked ch=>
   obtain⟨k1,k2⟩:=gZ hs.heap hk
   have ho:=R.zw (out:= .bU x) (B':=ay M φ ⟨s.o,us⟩) pK ho
   obtain⟨val,rfl,hd⟩:=ho
   exact fin φ w' s.o val (fun _ _=>rfl) k1 k2 hd
 ·have fq:=hH.2 s.o us M φ w vals (fun id aC=>⟨rfl,tM id (mS id aC)⟩) hs.heap bA
  rw[fF hH.1]
  refine⟨fun hd=>by simp[ej]at hd,du (fq.mono fun e w' ⟨aQ,k1,k2,ho⟩=> ?_)⟩
  cases e with
  |returned val=>exact ho.elim
  |outgrown=>exact ho.elim
  |panicked ch=>
   obtain⟨val,rfl,hd⟩:=ho
   exact fin aQ w' _ val (fun id aC=>zK fun y hy e=>by
    have:=NO y.1 (List.mem_map_of_mem hy)
    rw[e,aC]at this;cases this) k1 k2 hd
theorem gh(eL:∀i,V.den (ay M φ ⟨s.o,us⟩) φ ⟨s.o,us⟩ w (s.env i) (a.tmps.getD i undef)){ops:Array Oper}{o:Oper}{gd:Option (Nat×Bool)}{b:Bool}
 (hg:match o.guard with|none=>gd=none|some (j,want)=>∃d,su ops j=some d/\gd=some (d,want)) (h:eu s gd b):Region.wanted o (yielded ops a.tmps)=b:=by
 unfold Region.wanted
 split at hg
 ·rename_i hn;simp only[hn];subst hg;exact h.symm
 ·rename_i j want hn
  simp only[hn]
  obtain⟨d,hd,rfl⟩:=hg
  unfold su at hd
  unfold yielded
  simp only[hd,Option.bind_some]
  simp only[eu]at h
  have he:=eL d
  split at h
  ·rename_i c hv
   rw[hv]at he
   simp only[V.den,D.den]at he
   have:a.tmps[d]? =some (.bool c):=by
    rw[Array.getD_eq_getD_getElem?]at he
    cases hx:a.tmps[d]? with
    |none=>rw[hx]at he;simp[undef]at he
    |some x=>rw[hx]at he;simp at he;rw[he]
   simp only[this,h]
   cases c<;>cases want<;>rfl
  ·rename_i hv
   rw[hv]at he
   obtain⟨arr,cP,hn⟩:=he
   have:∀c,a.tmps[d]? ≠some (.bool c):=by
    intro c hx
    rw[Array.getD_eq_getD_getElem?,hx]at cP
    simp at cP
   subst h
   cases hx:a.tmps[d]? with
   |none=>rfl
   |some x=>cases x<;>first|(exact absurd hx (this _))|rfl
  ·exact h.elim
theorem gk{s s':S}{gd:Option (Nat×Bool)}{b:Bool}(h:∀d want,gd=some (d,want)->s'.env d=s.env d)(hg:eu s gd b):eu s' gd b:=by
 unfold eu at*
 cases gd with
 |none=>exact hg
 |some p=>obtain⟨d,want⟩:=p;simp only at hg|-;rw[h d want rfl];exact hg
theorem BP{s s':S}{x:Operand}(h:∀t,x= .tmp t->s'.env t=s.env t):s'.ev x=s.ev x:=by
 cases x<;>simp only[S.ev]
 exact h _ rfl
theorem uN{s s':S}{op:Op}{c:Call}{f:Operand}{g:FuncId}{first cap:List V}(hv:∀x∈op.operands,s'.ev x=s.ev x)(hc:op= .call c)(eV:c.callee= .value f)(wE:s.ev f= .func (.func g) first cap):
 s'.ev f= .func (.func g) first cap/\c.args.toList.map s'.ev=c.args.toList.map s.ev:=by
 subst hc
 exact⟨(hv f (by simp only[Op.operands,Call.operands,eV];exact Array.mem_append.2 (.inl aj))).trans wE,
  List.map_congr_left fun x hx=>hv x (by simp only[Op.operands,Call.operands];exact Array.mem_append.2 (.inr (Array.mem_toList_iff.1 hx)))⟩
theorem Fs.frame {g:FuncId}{args:List V}{rd:List Nat}{o o':Nat->ab}{out:R}{Δ:List (Nat×ab)}(ho:∀id∈rd,o' id=o id)(h:Fs P g args rd o out Δ):Fs P g args rd o' out Δ:=
 ⟨h.1,fun o2 us M φ w vals h1 h2 h3=>h.2 o2 us M φ w vals (fun id aC=>⟨(h1 id aC).1.trans (ho id aC),(h1 id aC).2⟩) h2 h3⟩
theorem xN.frame {g:FuncId}{args:List V}{rd:List Nat}{o o':Nat->ab}{fr:Nat}{v:V}{Δ:List (Nat×ab)}(ho:∀id∈rd,o' id=o id)(h:xN P g args rd o fr v Δ):xN P g args rd o' fr v Δ:=
 ⟨h.1,fun o2 us M φ w vals h1 h2 h3=>h.2 o2 us M φ w vals (fun id aC=>⟨(h1 id aC).1.trans (ho id aC),(h1 id aC).2⟩) h2 h3⟩
theorem sL{s s':S}{fr:Nat}{op:Op}{v:V}{Δ:List (Nat×ab)}{rd:List Nat}(hv:∀x∈op.operands,s'.ev x=s.ev x)(ho:∀id∈rd,s'.o id=s.o id)(tM:s'.nx=s.nx)(h:xO P s fr op v Δ rd):∃tu,xO P s' fr op v Δ tu:=by
 rcases h with⟨⟨tu,h⟩,mS⟩|⟨c,f,g,first,cap,rfl,eV,wE,h⟩
 ·exact⟨_, .inl ⟨⟨tu,by rw[D6 op hv (by rw[<- mS];exact ho)];exact h⟩,rfl⟩⟩
 ·obtain⟨hf,hm⟩:=uN hv rfl eV wE
  rcases h with⟨ds,rs,fe,hP,tg,mS,Tw⟩|⟨rs,hH,tg,mS⟩|⟨ds,fe,hP,mS,Tw⟩|⟨hH,mS⟩
  ·have hr:∀id∈V.aO (first++c.args.toList.map s.ev++cap),s'.o id=s.o id:=fun id aC=>ho id SP
   refine⟨_, .inr ⟨c,f,g,first,cap,rfl,eV,hf, .inl ⟨ds,rs,by rw[hm,iX _ hr];exact fe,hP,tg,rfl, ?_⟩⟩⟩
   rw[hm,hZ (o:=s.o) fun id aC=>hr id (kp _ id aC)]
   exact Tw
  ·exact⟨rd, .inr ⟨c,f,g,first,cap,rfl,eV,hf, .inr (.inl ⟨rs,by rw[hm];exact hH.frame ho,tg,by rw[tM];exact mS⟩)⟩⟩
  ·have hr:∀id∈V.aO (first++c.args.toList.map s.ev++cap),s'.o id=s.o id:=fun id aC=>ho id SP
   refine⟨_, .inr ⟨c,f,g,first,cap,rfl,eV,hf, .inr (.inr (.inl ⟨ds,by rw[hm,iX _ hr];exact fe,hP,rfl, ?_⟩))⟩⟩
   rw[hm,hZ (o:=s.o) fun id aC=>hr id (kp _ id aC)]
   exact Tw
  ·exact⟨rd, .inr ⟨c,f,g,first,cap,rfl,eV,hf, .inr (.inr (.inr ⟨by rw[hm];exact hH.frame ho,by rw[tM];exact mS⟩))⟩⟩
theorem BQ{s s':S}{op:Op}{v:V}{ws rd:List Nat}(hv:∀x∈op.operands,s'.ev x=s.ev x)(ho:∀id∈rd,s'.o id=s.o id)(tM:s'.nx=s.nx)(h:BN P s op v ws rd):BN P s' op v ws rd:=by
 obtain⟨c,f,g,first,cap,rfl,eV,wE,h⟩:=h
 obtain⟨hf,hm⟩:=uN hv rfl eV wE
 refine⟨c,f,g,first,cap,rfl,eV,hf, ?_⟩
 rw[hm]
 rcases h with⟨ds,x,fe,hP,pK,tg,mS,NO⟩|⟨x,Δ,hH,tg,NO,mS⟩
 ·have hr:∀id∈V.aO (first++c.args.toList.map s.ev++cap),s'.o id=s.o id:=fun id aC=>ho id SP
  exact .inl ⟨ds,x,by rw[iX _ hr];exact fe,hP,pK,tg,by rw[mS];simp only[pI,eV,wE,hf,hm],NO⟩
 ·exact .inr ⟨x,Δ,hH.frame ho,tg,NO,by rw[tM];exact mS⟩
theorem uO{ops:Array Oper}:∀ (l:List Oper) (l':List cz) (i:Nat) (o:Oper),lB n ops l=some l'->l[i]? =some o->Jq n ops o=some (cj l' i)
 |[],_,_,_,_,h=>by simp at h
 |x::l,l',i,o,h,hi=>by
  simp only[lB]at h
  split at h
  ·rename_i y ys hy hys
   injection h with h;subst h
   cases i with
   |zero=>simp at hi;subst hi;exact hy
   |succ i=>exact uO l ys i o hys GS
  ·cases h
theorem xS{ops:Array Oper}{o:Oper}{x:cz}(h:Jq n ops o=some x):x.op=o.op/\x.dst=o.dst/\iy n o.dst/\
 (match o.guard with|none=>x.gd=none|some (j,want)=>∃d,su ops j=some d/\x.gd=some (d,want)):=by
 unfold Jq at h
 split at h
 ·rename_i hd
  have db:iy n o.dst:=by
   unfold DA at hd;unfold iy
   split at hd<;>simp_all
  cases hg:o.guard with
  |none=>simp only[hg]at h;injection h with h;subst h;exact⟨rfl,rfl,db,rfl⟩
  |some p=>
   obtain⟨j,want⟩:=p
   simp only[hg]at h
   cases P9:su ops j with
   |none=>simp[P9]at h
   |some d=>simp only[P9]at h;injection h with h;subst h;exact⟨rfl,rfl,db,d,P9,rfl⟩
 ·cases h
theorem pn{ops:Array Oper}{az:Array Bool}(tL:∀k,k<ops.size->∀j∈bN ops k,j<k)(hs:az.size=ops.size)(hr:Region.ready .any ops az=[]):∀k,k<ops.size->az.getD k false=true:=by
 intro k
 induction k using Nat.strongRecOn with
 |_ k ih=>
  intro hk
  cases hl:az.getD k false with
  |true=>rfl
  |false=>
   have:k∈Region.ready .any ops az:=by
    refine mem_ready.2 ⟨?_,ops[k],by simp[hk],fun e he hb=> ?_⟩
    ·simp only[Array.getD_eq_getD_getElem?]at hl|-
     rw[Array.getElem?_eq_getElem (by omega)]at hl|-
     simpa using hl
    ·have hm:e.on∈bN ops k:=by
      simp only[bN,Array.getElem?_eq_getElem hk,List.mem_map,List.mem_filter]
      exact⟨e,⟨Array.mem_toList_iff.2 he,hb⟩,rfl⟩
     exact ih _ (tL k hk _ hm) (by have:=tL k hk _ hm;omega)
   rw[hr]at this;cases this
theorem BR(hs:cw M cT H0 w0 n cx φ s a w):cw M cT H0 w0 n cx φ s a {w with drawn:=w.drawn+1}:=by
 obtain⟨k1,k2⟩:=gZ (w':={w with drawn:=w.drawn+1}) hs.heap ⟨rfl,rfl,rfl,Nat.le_refl _,fun _ _ _=>rfl⟩
 exact⟨k1,hs.tr.trans k2,hs.size,hs.defers.mono k2,fun i=>V.aT k2 _ _ (hs.env i)⟩
theorem lZ{oc:Nat->cz}{ac:Nat->fH}{E:Nat->Bool}:∀k,(eY oc ac E s k).nx=s.nx
 |0=>rfl
 |k+1=>by
  simp only[eY]
  split
  ·cases ac k<;>exact lZ k
  ·exact lZ k
theorem Fv{oc:Nat->cz}{ac:Nat->fH}{E:Nat->Bool}{t:Nat}:∀k,(∀j,j<k->(oc j).dst≠some t)->(eY oc ac E s k).env t=s.env t
 |0,_=>rfl
 |k+1,h=>by
  have ih:=Fv (oc:=oc) (ac:=ac) (E:=E) (t:=t) k fun j hj=>h j ad
  simp only[eY]
  split
  ·rw[ll fun d hd e=>h k (by omega) (by rw[hd,e])];exact ih
  ·exact ih
theorem Qc{oc:Nat->cz}{ac:Nat->fH}{E:Nat->Bool}{id:Nat}:∀k,(∀j,j<k->id∉lj (ac j))->(eY oc ac E s k).o id=s.o id
 |0,_=>rfl
 |k+1,h=>by
  have ih:=Qc (oc:=oc) (ac:=ac) (E:=E) (id:=id) k fun j hj=>h j ad
  simp only[eY]
  split
  ·rw[nu (h k (by omega))];exact ih
  ·exact ih
theorem BS(bD:P.follows .mixedOrders=true){ops:Array Oper}{l:List cz}{id:Nat}(rM:lB n ops ops.toList=some l)(tL:∀k,k<ops.size->∀j∈bN ops k,j<k){ac:Nat->fH}{dl wl:List Nat}
 (hs:cw M cT H0 w0 n cx φ s a w) (Tx:∀i,i<ops.size->Qb P (eY (cj l) ac (fun _=>true) s i) (s.nx+i) (cj l i) (ac i))
 (Hw:∀i,i<ops.size->ac i= .eQ->∃j∈bN ops i,(ac j).ok=false)
 {po:Nat->Nat->Prop} (Fx:∀E:Nat->Bool,(∀k,k<ops.size->E k=true->∀j∈bN ops k,E j=true)->∀k,k<ops.size->(∀j∈bN ops k,E j=true)->∀j,po k j->E j=true) (BT:∀k,k<ops.size->∀j,po k j->j<k)
 (hc:∀i j,i<j->j<ops.size-> ¬po j i->Compat (cj l) ac (fun i=>wP (ac i)) i j)
 (hdl:∀i,i<ops.size->∀t,(cj l i).dst=some t->dl.contains t=true) (hwl:∀i,i<ops.size->∀id∈lj (ac i),wl.contains id=true)
 (NO:∀i v ws rd,i<ops.size->ac i= .bU v ws rd->∀id∈ws,wl.contains id=true)
 (hQ:(∀i,i<ops.size->(ac i).ok=true)->∀φ a w,cw M cT H0 w0 n cx φ ⟨(eY (cj l) ac (fun _=>true) s ops.size).env,(eY (cj l) ac (fun _=>true) s ops.size).o,s.nx+ops.size⟩ a w->Q .normal a w)
 (hX:∀i v ws rd,i<ops.size->ac i= .bU v ws rd->∀φ a w val,cw M cT H0 w0 n cx φ (pO dl wl ops.size s) a w->V.den (ay M φ (pO dl wl ops.size s).H) φ (pO dl wl ops.size s).H w v val->Q (.panic [{v:=val,recovered:=false}]) a w):
 (Code.region id ops true).wpIn (ej ro) k P Q a w:=by
 refine wpIn_region_any bD ?_
 have hs:=BR hs
 generalize ({w with drawn:=w.drawn+1}:World)=w at hs
 let N:=ops.size
 let Ef (az:Array Bool) (k:Nat):Bool:=az.getD k false
 let Ec (az:Array Bool) (j:Nat):Prop:=j<s.nx\/∃k,k<N/\Ef az k=true/\j=s.nx+k
 have key:∀ (fuel:Nat) (az:Array Bool) (φ:Place) (a:Act) (w:World),az.size=N->az.count true+fuel=N->(∀k,k<N->Ef az k=true->∀j∈bN ops k,Ef az j=true)->(∀k,k<N->Ef az k=true->(ac k).ok=true)->
  tw M cT H0 w0 n cx φ (eY (cj l) ac (Ef az) s N) (Ec az) a w->wpAnyIn (ej ro) k P .any ops Q fuel az a w:=by
  have fin:∀ (az:Array Bool) (φ:Place) (a:Act) (w:World),(∀k,k<N->Ef az k=true)->(∀k,k<N->Ef az k=true->(ac k).ok=true)->tw M cT H0 w0 n cx φ (eY (cj l) ac (Ef az) s N) (Ec az) a w->Q .normal a w:=by
   intro az φ a w bA Ed hu
   have e:∀k,k<=N->eY (cj l) ac (Ef az) s k=eY (cj l) ac (fun _=>true) s k:=by
    intro k
    induction k with
    |zero=>intro _;rfl
    |succ k ih=>intro hk;simp only[eY,bA k (by omega),ih (by omega)]
   rw[e N (Nat.le_refl _)]at hu
   obtain⟨k1,k2⟩:=jP (us':=fun id=>id<s.nx+N) hu.heap (fun id h=>by
    show id<s.nx+N
    rcases h with h|⟨k,hk,_,rfl⟩<;>omega)
   exact hQ (fun i hi=>Ed i hi (bA i hi)) φ a w ⟨k1,hu.tr.trans k2,hu.size,hu.defers.mono k2,fun i=>V.aT k2 _ _ (hu.env i)⟩
  intro fuel
  induction fuel with
  |zero=>
   intro az φ a w eh Hx pL Ed hu
   have bA:∀k,k<N->Ef az k=true:=by
    intro k hk
    have h1:az.count true=az.size:=ad
    rw[Array.count_eq_size]at h1
    have:=h1 az[k] (Array.getElem_mem ad)
    simp only[Ef,Array.getD_eq_getD_getElem?]
    rw[Array.getElem?_eq_getElem (by omega)]
    simpa using this.symm
   refine⟨?_,fin az φ a w bA Ed hu⟩
   rw[List.eq_nil_iff_forall_not_mem]
   intro k hk
   obtain⟨h1,o,h2,_⟩:=mem_ready.1 hk
   have hkN:k<N:=(Array.getElem?_eq_some_iff.1 h2).1
   have:=bA k hkN
   simp only[Ef,Array.getD_eq_getD_getElem?]at this h1
   rw[Array.getElem?_eq_getElem (by omega)]at this h1
   simp only[Option.getD_some]at this h1
   rw[this]at h1;cases h1
  |succ fuel ih=>
   intro az φ a w eh Hx pL Ed hu
   refine⟨fun hr=>fin az φ a w (pn tL eh hr) Ed hu,fun i hi=> ?_⟩
   obtain⟨h1,o,h2,h3⟩:=mem_ready.1 hi
   have tx:i<N:=(Array.getElem?_eq_some_iff.1 h2).1
   have mT:Ef az i=false:=by
    simp only[Ef,Array.getD_eq_getD_getElem?]at h1|-
    rw[Array.getElem?_eq_getElem (by omega)]at h1|-
    simpa using h1
   have J7:∀j∈bN ops i,Ef az j=true:=by
    intro j hj
    simp only[bN,h2,List.mem_map,List.mem_filter]at hj
    obtain⟨e,⟨he,hb⟩,rfl⟩:=hj
    exact h3 e (Array.mem_toList_iff.1 he) hb
   have J9:zO N po (Ef az):=fun k hk fU=>Fx _ pL k hk (pL k hk fU)
   obtain⟨YB,ag2⟩:=agree (s:=s) BT hc J9 tx mT (Fx _ pL i tx J7)
   obtain⟨g1,g2,g3,g4⟩:=xS (uO _ _ i o rM Dy)
   have dc: ¬Ec az (s.nx+i):=by
    rintro(h|⟨k,_,hk,he⟩)
    ·omega
    ·have:k=i:=ad
     subst this;rw[mT]at hk;cases hk
   have Eb:∀k,Ef (az.setIfInBounds i true) k=(Ef az k||k==i):=by
    intro k
    simp only[Ef,Array.getD_eq_getD_getElem?]
    by_cases e:k=i
    ·subst e;simp[eh,tx]
    ·rw[Array.getElem?_setIfInBounds_ne (Ne.symm e)]
     have:(k==i)=false:=by simpa using e
     simp[this]
   have Ty:=insert (s:=s) hc J9 tx mT Eb
   have Tz:∀k,k<N->Ef (az.setIfInBounds i true) k=true->∀j∈bN ops k,Ef (az.setIfInBounds i true) j=true:=by
    intro k hk fU j hj
    rw[Eb]at fU|-
    by_cases e:k=i
    ·subst e;simp[J7 j hj]
    ·have:(k==i)=false:=by simpa using e
     rw[this,Bool.or_false]at fU
     simp[pL k hk fU j hj]
   have Ka:(az.setIfInBounds i true).count true+fuel=N:=by
    have cJ:i<az.size:=ad
    have e1:az.setIfInBounds i true=az.set i true cJ:=by simp[Array.setIfInBounds,cJ]
    have e2:az[i]=false:=by
     have:=mT
     simp only[Ef,Array.getD_eq_getD_getElem?]at this
     rw[Array.getElem?_eq_getElem cJ]at this
     simpa using this
    rw[e1,Array.count_set cJ,e2]
    simp
    omega
   have kV:(ac i).ok=true->∀aQ a' w',tw M cT H0 w0 n cx aQ (wA o.dst (ac i) (eY (cj l) ac (Ef az) s N)) (fun id=>Ec az id\/id=s.nx+i) a' w'->wpAnyIn (ej ro) k P .any ops Q fuel (az.setIfInBounds i true) a' w':=by
    intro YC aQ a' w' wK
    refine ih _ aQ a' w' (by simp[eh]) Ka Tz (fun k hk fU=> ?_) ?_
    ·rw[Eb]at fU
     by_cases e:k=i
     ·subst e;exact YC
     ·have:(k==i)=false:=by simpa using e
      rw[this,Bool.or_false]at fU
      exact Ed k hk fU
    rw[Ty,g2]
    obtain⟨k1,k2⟩:=jP (us':=Ec (az.setIfInBounds i true)) wK.heap (fun id h=>by
     rcases h with(h|⟨k,hk,fU,rfl⟩)|rfl
     ·exact .inl h
     ·exact .inr ⟨k,hk,by rw[Eb,fU];rfl,rfl⟩
     ·exact .inr ⟨i,tx,by rw[Eb];simp,rfl⟩)
    exact⟨k1,wK.tr.trans k2,wK.size,wK.defers.mono k2,fun j=>V.aT k2 _ _ (wK.env j)⟩
   have Hy:∀d want,(cj l i).gd=some (d,want)->(eY (cj l) ac (Ef az) s N).env d=(eY (cj l) ac (fun _=>true) s i).env d:=fun d want hd=>YB d (by simp[fC,tmpsOf,hd])
   have bp:=Tx i tx
   have Hz:∀x∈(cj l i).op.operands,(eY (cj l) ac (Ef az) s N).ev x=(eY (cj l) ac (fun _=>true) s i).ev x:=fun x hx=>BP fun t ht=>YB t (by
    subst ht
    simp only[fC,tmpsOf,List.mem_append,List.mem_filterMap]
    exact .inl (.inl ⟨.tmp t,Array.mem_toList_iff.2 hx,rfl⟩))
   have NP:(eY (cj l) ac (Ef az) s N).nx=(eY (cj l) ac (fun _=>true) s i).nx:=(lZ N).trans (lZ i).symm
   unfold wpOpIn
   simp only[h2]
   cases ug:ac i with
   |skip=>
    rw[ug]at bp kV
    have hw:=gh hu.env g4 (gk Hy bp)
    simp only[hw,Bool.false_eq_true,if_false]
    refine⟨fun _ _=>trivial,kV rfl φ _ w ?_⟩
    have:=jv (v:= .cp []) (val:=undef) hu hu.heap (Trans.refl _ _ _) ⟨#[],rfl,rfl⟩ (dst:=o.dst) g3 rfl (us':=fun id=>Ec az id\/id=s.nx+i) (fun id h=> .inl h)
    exact this
   |val v Δ rd=>
    rw[ug]at bp kV
    have hw:=gh hu.env g4 (gk Hy bp.1)
    simp only[hw,if_true]
    obtain⟨tu,l9⟩:=sL Hz (fun id aC=>ag2 id (by rw[ug];exact aC)) NP bp.2
    exact BO hu dc (fun id h=> .inl Tc) g1.symm g3 l9 (kV rfl)
   |bU v ws rd=>
    rw[ug]at bp
    have hw:=gh hu.env g4 (gk Hy bp.1)
    simp only[hw,if_true]
    have l9:=BQ Hz (fun id aC=>ag2 id (by rw[ug];exact aC)) NP bp.2
    refine J8 (s0:=s) (ds:=dl) (wl:=wl) (N:=N) hu (fun id h=> .inl Tc) (fun id h=> ?_) g1.symm l9 (fun t ht=> ?_) (fun id aC=> ?_) (NO i v ws rd tx ug) (lZ N).symm (fun aQ w' val h1 h2=>hX i v ws rd tx ug aQ a w' val h1 h2)
    ·rw[lZ]
     rcases h with h|⟨k,hk,_,rfl⟩<;>omega
    ·refine Fv N fun j hj e=> ?_
     have:=hdl j hj t e
     rw[ht]at this;cases this
    ·refine Qc N fun j hj hm=> ?_
     have:=hwl j hj id hm
     rw[aC]at this;cases this
   |eQ=>
    exfalso
    obtain⟨j,hj,TA⟩:=Hw i tx ug
    have:=Ed j (Nat.lt_trans (tL i tx j hj) tx) (J7 j hj)
    rw[TA]at this;cases this
 refine key ops.size _ φ a w (by simp[N]) (by simp[N,Array.count_replicate]) (fun k hk fU=> ?_) (fun k hk fU=> ?_) ?_
 ·simp[Ef,Array.getD_eq_getD_getElem?,Array.getElem?_replicate]at fU
  split at fU<;>simp at fU
 ·simp[Ef,Array.getD_eq_getD_getElem?,Array.getElem?_replicate]at fU
  split at fU<;>simp at fU
 ·have e:∀k,eY (cj l) ac (Ef (Array.replicate ops.size false)) s k=s:=by
   intro k
   induction k with
   |zero=>rfl
   |succ k ih=>
    have:Ef (Array.replicate ops.size false) k=false:=by
     simp only[Ef,Array.getD_eq_getD_getElem?,Array.getElem?_replicate]
     split<;>rfl
    simp only[eY,this,ih]
    rfl
  rw[e]
  obtain⟨k1,k2⟩:=jP (us':=Ec (Array.replicate ops.size false)) hs.heap (fun id h=> .inl h)
  exact⟨k1,hs.tr.trans k2,hs.size,hs.defers.mono k2,fun j=>V.aT k2 _ _ (hs.env j)⟩
end
end Go.Proofs.YtonbelhklnmjnaaGreat
namespace Go.Proofs.YtonbelhklnmjnaaGreat
section
variable {P:Program}{M:Nat->Prop}{φ cT:Place}{H0:Hp}{w w' w0:World}{n:Nat}{s:S}{us:Nat->Prop}{a:Act}{cx:Cx}{ro:Option Nat}{k:Nat}
variable {Q:Exit->Act->World->Prop}
theorem HA{ops:Array Oper}{po:Nat->Nat->Prop}{m:Nat}{X:V->S->Prop}{K:S->Prop}
 (tL:∀k,k<ops.size->∀j∈bN ops k,j<k)
 (Fx:∀E:Nat->Bool,(∀k,k<ops.size->E k=true->∀j∈bN ops k,E j=true)->∀k,k<ops.size->(∀j∈bN ops k,E j=true)->∀j,po k j->E j=true)
 (Fy:∀k,m<=k->k<ops.size->∀j,j<k->po k j)
 (hK:∀s φ a w,K s->cw M cT H0 w0 n cx φ s a w->Q .normal a w)
 (hX:∀v s' aQ a' w' val,X v s'->cw M cT H0 w0 n cx aQ s' a' w'->V.den (ay M aQ s'.H) aQ s'.H w' v val->Q (.panic [{v:=val,recovered:=false}]) a' w'):
 ∀ (d t:Nat) (s:S) (φ:Place) (az:Array Bool) (a:Act) (w:World),t+d=ops.size->az.size=ops.size->(∀k,k<ops.size->az.getD k false=decide (k<t))->m<=t->
   cw M cT H0 w0 n cx φ s a w->zr P n ops X K (ops.toList.drop t) s->wpAnyIn (ej ro) k P .any ops Q d az a w:=by
 intro d
 induction d with
 |zero=>
  intro t s φ az a w ht eh hl I0 hs h
  have e:t=ops.size:=ad
  subst e
  refine⟨?_, ?_⟩
  ·rw[List.eq_nil_iff_forall_not_mem]
   intro j hj
   obtain⟨h1,o,h2,_⟩:=mem_ready.1 hj
   have hjN:j<ops.size:=(Array.getElem?_eq_some_iff.1 h2).1
   have:=hl j hjN
   simp only[Array.getD_eq_getD_getElem?]at this h1
   rw[Array.getElem?_eq_getElem (by omega)]at this h1
   simp only[Option.getD_some]at this h1
   rw[h1]at this
   simp[hjN]at this
  ·rw[List.drop_eq_nil_of_le (by simp)]at h
   exact hK s φ a w h hs
 |succ d ih=>
  intro t s φ az a w ht eh hl I0 hs h
  have htN:t<ops.size:=ad
  refine⟨fun hr=> ?_,fun i hi=> ?_⟩
  ·have:=pn tL eh hr t htN
   rw[hl t htN]at this
   simp at this
  ·obtain⟨h1,o,h2,h3⟩:=mem_ready.1 hi
   have tx:i<ops.size:=(Array.getElem?_eq_some_iff.1 h2).1
   have mT:az.getD i false=false:=by
    simp only[Array.getD_eq_getD_getElem?]at h1|-
    rw[Array.getElem?_eq_getElem (by omega)]at h1|-
    simpa using h1
   have YD:t<=i:=by
    have:=hl i tx
    rw[mT]at this
    have:=of_decide_eq_false this.symm
    omega
   have J7:∀j∈bN ops i,az.getD j false=true:=by
    intro j hj
    simp only[bN,h2,List.mem_map,List.mem_filter]at hj
    obtain⟨e,⟨he,hb⟩,rfl⟩:=hj
    exact h3 e (Array.mem_toList_iff.1 he) hb
   have pL:∀k,k<ops.size->az.getD k false=true->∀j∈bN ops k,az.getD j false=true:=by
    intro k hk fU j hj
    have X7:=tL k hk j hj
    rw[hl k hk]at fU
    rw[hl j (by omega)]
    have:=of_decide_eq_true fU
    exact decide_eq_true ad
   have hie:i=t:=by
    rcases Nat.eq_or_lt_of_le YD with e|e
    ·exact e.symm
    ·have:=Fx (fun k=>az.getD k false) pL i tx J7 t (Fy i ad tx t e)
     rw[hl t htN]at this
     simp at this
   subst hie
   have BU:ops.toList.drop i=o::ops.toList.drop (i+1):=by
    have JH:i<ops.toList.length:=by simpa using tx
    rw[List.drop_eq_getElem_cons JH]
    have:ops.toList[i]=o:=by
     have:=(Array.getElem?_eq_some_iff.1 h2).2
     simpa using this
    rw[this]
   rw[BU]at h
   obtain⟨g1,g2⟩:=qh hs h
   have zm:∀k,k<ops.size->(az.setIfInBounds i true).getD k false=decide (k<i+1):=by
    intro k hk
    simp only[Array.getD_eq_getD_getElem?]
    by_cases e:k=i
    ·subst e;simp[eh,tx]
    ·rw[Array.getElem?_setIfInBounds_ne (Ne.symm e)]
     have:=hl k hk
     simp only[Array.getD_eq_getD_getElem?]at this
     rw[this]
     exact decide_eq_decide.2 ad
   have kV:∀s' aQ a' w',zr P n ops X K (ops.toList.drop (i+1)) s'->cw M cT H0 w0 n cx aQ s' a' w'->wpAnyIn (ej ro) k P .any ops Q d (az.setIfInBounds i true) a' w':=
    fun s' aQ a' w' hk iK=>ih (i+1) s' aQ _ a' w' ad (by simp[eh]) zm ad iK hk
   unfold wpOpIn
   simp only[h2]
   split
   ·rename_i hw
    exact xE hs (g1 hw) (fun s' aQ a' w' hk iK=>kV s' aQ a' w' hk iK) (fun v s' aQ w' val hx iK hd=>hX v s' aQ a w' val hx iK hd)
   ·rename_i hw
    obtain⟨db,h3⟩:=g2 (by simpa using hw)
    exact⟨fun _ _=>trivial,kV _ _ _ _ h3 (BB hs db)⟩
theorem Ee(bD:P.follows .mixedOrders=true){ops:Array Oper}{l:List cz}{id:Nat}(rM:lB n ops ops.toList=some l)(tL:∀k,k<ops.size->∀j∈bN ops k,j<k){ac:Nat->fH}{m:Nat}(hm:m<=ops.size){X:V->S->Prop}{K:S->Prop}
 (hs:cw M cT H0 w0 n cx φ s a w) (Tx:∀i,i<m->Qb P (eY (cj l) ac (fun _=>true) s i) (s.nx+i) (cj l i) (ac i))
 (YE:∀i,i<m->(ac i).ok=true)
 {po:Nat->Nat->Prop} (Fx:∀E:Nat->Bool,(∀k,k<ops.size->E k=true->∀j∈bN ops k,E j=true)->∀k,k<ops.size->(∀j∈bN ops k,E j=true)->∀j,po k j->E j=true) (BT:∀k,k<ops.size->∀j,po k j->j<k)
 (hc:∀i j,i<j->j<m-> ¬po j i->Compat (cj l) ac (fun i=>wP (ac i)) i j)
 (Fy:∀k,m<=k->k<ops.size->∀j,j<k->po k j)
 (cQ:zr P n ops X K (ops.toList.drop m) ⟨(eY (cj l) ac (fun _=>true) s m).env,(eY (cj l) ac (fun _=>true) s m).o,s.nx+m⟩)
 (hK:∀s φ a w,K s->cw M cT H0 w0 n cx φ s a w->Q .normal a w)
 (hX:∀v s' aQ a' w' val,X v s'->cw M cT H0 w0 n cx aQ s' a' w'->V.den (ay M aQ s'.H) aQ s'.H w' v val->Q (.panic [{v:=val,recovered:=false}]) a' w'):
 (Code.region id ops true).wpIn (ej ro) k P Q a w:=by
 refine wpIn_region_any bD ?_
 have hs:=BR hs
 generalize ({w with drawn:=w.drawn+1}:World)=w at hs
 let N:=m
 let Ef (az:Array Bool) (k:Nat):Bool:=az.getD k false
 let Ec (az:Array Bool) (j:Nat):Prop:=j<s.nx\/∃k,k<N/\Ef az k=true/\j=s.nx+k
 have key:∀ (fuel:Nat) (az:Array Bool) (φ:Place) (a:Act) (w:World),az.size=ops.size->az.count true+fuel=ops.size->(∀k,k<ops.size->Ef az k=true->∀j∈bN ops k,Ef az j=true)->(∀k,k<ops.size->Ef az k=true->k<m)->
  tw M cT H0 w0 n cx φ (eY (cj l) ac (Ef az) s N) (Ec az) a w->wpAnyIn (ej ro) k P .any ops Q fuel az a w:=by
  have fin:∀ (fuel:Nat) (az:Array Bool) (φ:Place) (a:Act) (w:World),az.size=ops.size->az.count true+fuel=ops.size->(∀k,k<ops.size->Ef az k=true->k<m)->(∀k,k<N->Ef az k=true)->tw M cT H0 w0 n cx φ (eY (cj l) ac (Ef az) s N) (Ec az) a w->wpAnyIn (ej ro) k P .any ops Q fuel az a w:=by
   intro fuel az φ a w eh Hx cJ bA hu
   have e:∀k,k<=N->eY (cj l) ac (Ef az) s k=eY (cj l) ac (fun _=>true) s k:=by
    intro k
    induction k with
    |zero=>intro _;rfl
    |succ k ih=>intro hk;simp only[eY,bA k (by omega),ih (by omega)]
   rw[e N (Nat.le_refl _)]at hu
   obtain⟨k1,k2⟩:=jP (us':=fun id=>id<s.nx+N) hu.heap (fun id h=>by
    show id<s.nx+N
    rcases h with h|⟨k,hk,_,rfl⟩<;>omega)
   have hlv:∀k,k<ops.size->az.getD k false=decide (k<m):=by
    intro k hk
    by_cases h:k<m
    ·rw[decide_eq_true h];exact bA k h
    ·rw[decide_eq_false h]
     cases hb:az.getD k false with
     |false=>rfl
     |true=>exact absurd (cJ k hk hb) h
   have hcm:az.count true=m:=by
    have e1:az=Array.ofFn (n:=ops.size) fun k=>decide (k.1<m):=by
     apply Array.ext
     ·simp[eh]
     ·intro k h1 h2
      have:=hlv k ad
      simp only[Array.getD_eq_getD_getElem?]at this
      rw[Array.getElem?_eq_getElem h1]at this
      simpa using this
    have e2:az.toList=List.replicate m true++List.replicate (ops.size - m) false:=by
     apply List.ext_getElem?
     intro k
     by_cases hk:k<ops.size
     ·have h1:az.toList[k]? =some (decide (k<m)):=by
       have:=hlv k hk
       simp only[Array.getD_eq_getD_getElem?]at this
       rw[Array.getElem?_eq_getElem (by omega)]at this
       simp only[Option.getD_some]at this
       rw[Array.getElem?_toList,Array.getElem?_eq_getElem (by omega),this]
      rw[h1]
      by_cases h:k<m
      ·rw[List.getElem?_append_left (by simpa using h)]
       simp[h]
      ·rw[List.getElem?_append_right (by simpa using(by omega:m<=k))]
       rw[List.length_replicate,List.getElem?_replicate,if_pos (by omega),decide_eq_false h]
     ·rw[List.getElem?_eq_none (by simp[eh];omega),List.getElem?_eq_none (by simp;omega)]
    rw[<- Array.count_toList,e2,List.count_append,List.count_replicate_self,List.count_replicate]
    simp
   exact HA tL Fx Fy hK hX fuel m ⟨(eY (cj l) ac (fun _=>true) s m).env,(eY (cj l) ac (fun _=>true) s m).o,s.nx+m⟩ φ az a w ad eh hlv (Nat.le_refl _) ⟨k1,hu.tr.trans k2,hu.size,hu.defers.mono k2,fun i=>V.aT k2 _ _ (hu.env i)⟩ cQ
  intro fuel
  induction fuel with
  |zero=>
   intro az φ a w eh Hx pL cJ hu
   have bA:∀k,k<ops.size->Ef az k=true:=by
    intro k hk
    have h1:az.count true=az.size:=ad
    rw[Array.count_eq_size]at h1
    have:=h1 az[k] (Array.getElem_mem ad)
    simp only[Ef,Array.getD_eq_getD_getElem?]
    rw[Array.getElem?_eq_getElem (by omega)]
    simpa using this.symm
   exact fin 0 az φ a w eh Hx cJ (fun k hk=>bA k ad) hu
  |succ fuel ih=>
   intro az φ a w eh Hx pL cJ hu
   by_cases Qd:∀k,k<m->Ef az k=true
   ·exact fin (fuel+1) az φ a w eh Hx cJ Qd hu
   have hex:∃j,j<m/\Ef az j=false:=by
    apply Classical.byContradiction
    intro Bb
    refine Qd fun k hk=> ?_
    cases hb:Ef az k with
    |true=>rfl
    |false=>exact absurd ⟨k,hk,hb⟩ Bb
   obtain⟨j0,hj0,YF⟩:=hex
   refine⟨fun hr=> ?_,fun i hi=> ?_⟩
   ·have:=pn tL eh hr j0 ad
    rw[show az.getD j0 false=false from YF]at this
    cases this
   obtain⟨h1,o,h2,h3⟩:=mem_ready.1 hi
   have hiS:i<ops.size:=(Array.getElem?_eq_some_iff.1 h2).1
   have mT:Ef az i=false:=by
    simp only[Ef,Array.getD_eq_getD_getElem?]at h1|-
    rw[Array.getElem?_eq_getElem (by omega)]at h1|-
    simpa using h1
   have J7:∀j∈bN ops i,Ef az j=true:=by
    intro j hj
    simp only[bN,h2,List.mem_map,List.mem_filter]at hj
    obtain⟨e,⟨he,hb⟩,rfl⟩:=hj
    exact h3 e (Array.mem_toList_iff.1 he) hb
   have tx:i<N:=by
    apply Classical.byContradiction
    intro AO
    have AO:m<=i:=Nat.le_of_not_lt AO
    have:=Fx _ pL i hiS J7 j0 (Fy i AO hiS j0 ad)
    rw[YF]at this;cases this
   have J9:zO N po (Ef az):=fun k hk fU=>Fx _ pL k ad (pL k ad fU)
   obtain⟨YB,ag2⟩:=agree (s:=s) (n:=N) (fun k hk=>BT k ad) hc J9 tx mT (Fx _ pL i ad J7)
   obtain⟨g1,g2,g3,g4⟩:=xS (uO _ _ i o rM Dy)
   have dc: ¬Ec az (s.nx+i):=by
    rintro(h|⟨k,_,hk,he⟩)
    ·omega
    ·have:k=i:=ad
     subst this;rw[mT]at hk;cases hk
   have Eb:∀k,Ef (az.setIfInBounds i true) k=(Ef az k||k==i):=by
    intro k
    simp only[Ef,Array.getD_eq_getD_getElem?]
    by_cases e:k=i
    ·subst e;simp[eh,hiS]
    ·rw[Array.getElem?_setIfInBounds_ne (Ne.symm e)]
     have:(k==i)=false:=by simpa using e
     simp[this]
   have Ty:=insert (s:=s) hc J9 tx mT Eb
   have Tz:∀k,k<ops.size->Ef (az.setIfInBounds i true) k=true->∀j∈bN ops k,Ef (az.setIfInBounds i true) j=true:=by
    intro k hk fU j hj
    rw[Eb]at fU|-
    by_cases e:k=i
    ·subst e;simp[J7 j hj]
    ·have:(k==i)=false:=by simpa using e
     rw[this,Bool.or_false]at fU
     simp[pL k hk fU j hj]
   have Ka:(az.setIfInBounds i true).count true+fuel=ops.size:=by
    have cJ:i<az.size:=ad
    have e1:az.setIfInBounds i true=az.set i true cJ:=by simp[Array.setIfInBounds,cJ]
    have e2:az[i]=false:=by
     have:=mT
     simp only[Ef,Array.getD_eq_getD_getElem?]at this
     rw[Array.getElem?_eq_getElem cJ]at this
     simpa using this
    rw[e1,Array.count_set cJ,e2]
    simp
    omega
   have kV:(ac i).ok=true->∀aQ a' w',tw M cT H0 w0 n cx aQ (wA o.dst (ac i) (eY (cj l) ac (Ef az) s N)) (fun id=>Ec az id\/id=s.nx+i) a' w'->wpAnyIn (ej ro) k P .any ops Q fuel (az.setIfInBounds i true) a' w':=by
    intro YC aQ a' w' wK
    refine ih _ aQ a' w' (by simp[eh]) Ka Tz (fun k hk fU=> ?_) ?_
    ·rw[Eb]at fU
     by_cases e:k=i
     ·subst e;exact tx
     ·have:(k==i)=false:=by simpa using e
      rw[this,Bool.or_false]at fU
      exact cJ k hk fU
    rw[Ty,g2]
    obtain⟨k1,k2⟩:=jP (us':=Ec (az.setIfInBounds i true)) wK.heap (fun id h=>by
     rcases h with(h|⟨k,hk,fU,rfl⟩)|rfl
     ·exact .inl h
     ·exact .inr ⟨k,hk,by rw[Eb,fU];rfl,rfl⟩
     ·exact .inr ⟨i,tx,by rw[Eb];simp,rfl⟩)
    exact⟨k1,wK.tr.trans k2,wK.size,wK.defers.mono k2,fun j=>V.aT k2 _ _ (wK.env j)⟩
   have Hy:∀d want,(cj l i).gd=some (d,want)->(eY (cj l) ac (Ef az) s N).env d=(eY (cj l) ac (fun _=>true) s i).env d:=fun d want hd=>YB d (by simp[fC,tmpsOf,hd])
   have bp:=Tx i tx
   have Hz:∀x∈(cj l i).op.operands,(eY (cj l) ac (Ef az) s N).ev x=(eY (cj l) ac (fun _=>true) s i).ev x:=fun x hx=>BP fun t ht=>YB t (by
    subst ht
    simp only[fC,tmpsOf,List.mem_append,List.mem_filterMap]
    exact .inl (.inl ⟨.tmp t,Array.mem_toList_iff.2 hx,rfl⟩))
   have NP:(eY (cj l) ac (Ef az) s N).nx=(eY (cj l) ac (fun _=>true) s i).nx:=(lZ N).trans (lZ i).symm
   unfold wpOpIn
   simp only[h2]
   cases ug:ac i with
   |skip=>
    rw[ug]at bp kV
    have hw:=gh hu.env g4 (gk Hy bp)
    simp only[hw,Bool.false_eq_true,if_false]
    refine⟨fun _ _=>trivial,kV rfl φ _ w ?_⟩
    have:=jv (v:= .cp []) (val:=undef) hu hu.heap (Trans.refl _ _ _) ⟨#[],rfl,rfl⟩ (dst:=o.dst) g3 rfl (us':=fun id=>Ec az id\/id=s.nx+i) (fun id h=> .inl h)
    exact this
   |val v Δ rd=>
    rw[ug]at bp kV
    have hw:=gh hu.env g4 (gk Hy bp.1)
    simp only[hw,if_true]
    obtain⟨tu,l9⟩:=sL Hz (fun id aC=>ag2 id (by rw[ug];exact aC)) NP bp.2
    exact BO hu dc (fun id h=> .inl Tc) g1.symm g3 l9 (kV rfl)
   |bU v ws rd=>
    have:=YE i tx
    rw[ug]at this;cases this
   |eQ=>
    have:=YE i tx
    rw[ug]at this;cases this
 refine key ops.size _ φ a w aj (by simp[Array.count_replicate]) (fun k hk fU=> ?_) (fun k hk fU=> ?_) ?_
 ·simp[Ef,Array.getD_eq_getD_getElem?,Array.getElem?_replicate]at fU
  split at fU<;>simp at fU
 ·simp[Ef,Array.getD_eq_getD_getElem?,Array.getElem?_replicate]at fU
  split at fU<;>simp at fU
 ·have e:∀k,eY (cj l) ac (Ef (Array.replicate ops.size false)) s k=s:=by
   intro k
   induction k with
   |zero=>rfl
   |succ k ih=>
    have:Ef (Array.replicate ops.size false) k=false:=by
     simp only[Ef,Array.getD_eq_getD_getElem?,Array.getElem?_replicate]
     split<;>rfl
    simp only[eY,this,ih]
    rfl
  rw[e]
  obtain⟨k1,k2⟩:=jP (us':=Ec (Array.replicate ops.size false)) hs.heap (fun id h=> .inl h)
  exact⟨k1,hs.tr.trans k2,hs.size,hs.defers.mono k2,fun j=>V.aT k2 _ _ (hs.env j)⟩
end
end Go.Proofs.YtonbelhklnmjnaaGreat
