/-
  A PART OF THE PROOF. Conditions: none.
-/
import Derived.OrdersIn
import Derived.Test.YtonbelhklnmjnaaGreatLl7
set_option linter.unusedSimpArgs false
set_option linter.unusedVariables false
namespace Go.Proofs.YtonbelhklnmjnaaGreat
section
def ab.refs:ab->List Nat
 | .row cs=>V.aO cs
 | .loop _ _ env _ _ _ _ _=>V.aO env
 |_=>[]
def FO(R:List Nat)(o:Nat->ab):Nat->ab:=fun id=>if R.contains id=true then o id else .no
def Hy(P:Program)(g:FuncId)(args:List V)(rd:List Nat)(o:Nat->ab)(out:R)(Δ:List (Nat×ab)):Prop:=
 Enters P g/\∀ (o':Nat->ab) (us:Nat->Prop) (M:Nat->Prop) (φ:Place) (w:World) (vals:Array Value),(∀id∈rd,o' id=o id/\us id)->aI M φ ⟨o',us⟩ w->V.aP (aA M φ ⟨o',us⟩) φ ⟨o',us⟩ w args vals.toList->
  Calls P g vals w fun e w'=>∃aS,aI M aS ⟨put o' Δ,us⟩ w'/\Trans φ ⟨o',us⟩ w aS ⟨put o' Δ,us⟩ w'/\out.is (aA M aS ⟨put o' Δ,us⟩) w' e
def zi(P:Program)(g:FuncId)(args:List V)(rd:List Nat)(o:Nat->ab)(fr:Nat)(v:V)(Δ:List (Nat×ab)):Prop:=
 Enters P g/\∀ (o':Nat->ab) (us:Nat->Prop) (M:Nat->Prop) (φ:Place) (w:World) (vals:Array Value),(∀id∈rd,o' id=o id/\us id)-> ¬us fr->aI M φ ⟨o',us⟩ w->V.aP (aA M φ ⟨o',us⟩) φ ⟨o',us⟩ w args vals.toList->
  Calls P g vals w fun e w'=>∃aS,aI M aS ⟨put o' Δ,fun id=>us id\/id=fr⟩ w'/\Trans φ ⟨o',us⟩ w aS ⟨put o' Δ,fun id=>us id\/id=fr⟩ w'/\∃val,e= .returned val/\V.den (aA M aS ⟨put o' Δ,fun id=>us id\/id=fr⟩) aS ⟨put o' Δ,fun id=>us id\/id=fr⟩ w' v val
mutual
theorem V.nV {B B':Nat->Prop}{φ aS:Place}{H H':Hp}{w:World}(hB:∀b, ¬B b-> ¬B' b):∀ (v:V) (val:Value),(∀id∈v.refs,H'.o id=H.o id/\aS id=φ id/\H'.us id)->V.den B φ H w v val->V.den B' aS H' w v val
 | .d x,val,_,h=>D.bc (w:=w) (w':=w) (fun b _ hn=>⟨rfl,hB b hn⟩) x val h
 | .bO,_,_,h=>h
 | .aa,_,_,_=>trivial
 | .fI,_,_,h=>h
 | .sn es,val,_,h=>⟨D.bc (w:=w) (w':=w) (fun b _ hn=>⟨rfl,hB b hn⟩) (.sl es) val h.1,h.2⟩
 | .agg cs,val,hr,h=>by
   obtain⟨a,rfl,h1,h2⟩:=h
   exact⟨a,rfl,V.iy hB cs _ yB h1,h2⟩
 | .cn cs,val,hr,h=>by
   obtain⟨a,rfl,h1⟩:=h
   exact⟨a,rfl,V.iy hB cs _ yB h1⟩
 | .ptr id off,val,hr,h=>by
   exact XL
 | .osl id ep,val,hr,h=>by
   obtain⟨a,b,c⟩:=hr id Co
   obtain⟨h0,h1,h2⟩:=h
   refine⟨h0,c,fun e he=> ?_⟩
   rw[a]at he
   obtain⟨x,y⟩:=h2 e he
   exact⟨x,fun heq=>(y heq).trans b.symm⟩
 | .pe id ep i sz off,val,hr,h=>by
   obtain⟨a,b,c⟩:=hr id Co
   obtain⟨h0,h1,h2⟩:=h
   refine⟨h0,c,fun e he=> ?_⟩
   rw[a]at he
   obtain⟨x,y⟩:=h2 e he
   exact T9
 | .pp cs off,val,_,h=>by
   obtain⟨a,ev,h1,h2,h3,h5,h4⟩:=h
   exact acC
 | .func fn first cap,val,hr,h=>by
   obtain⟨f,c,rfl,h1,h2⟩:=h
   exact⟨f,c,rfl,V.iy hB first _ (fun id aG=>hr id (by simp[V.refs,aG])) h1,V.iy hB cap _ (fun id aG=>hr id (by simp[V.refs,aG])) h2⟩
 | .iface t x,val,hr,h=>by
   obtain⟨u,rfl,h⟩:=h
   exact⟨u,rfl,V.nV hB x u yB h⟩
 | .yJ id off n,val,hr,h=>by
   exact XL
 | .mp id,val,hr,h=>by
   obtain⟨a,b,c⟩:=hr id Co
   obtain⟨h0,h1,h2⟩:=h
   refine⟨h0,c,fun cz=> ?_⟩
   rw[a]at cz
   exact(h2 cz).trans b.symm
 | .kq id,val,hr,h=>by
   exact XL
theorem V.iy {B B':Nat->Prop}{φ aS:Place}{H H':Hp}{w:World}(hB:∀b, ¬B b-> ¬B' b):∀ (vs:List V) (vals:List Value),(∀id∈V.aO vs,H'.o id=H.o id/\aS id=φ id/\H'.us id)->V.aP B φ H w vs vals->V.aP B' aS H' w vs vals
 |[],_,_,h=>h
 |v::vs,_,hr,h=>by
  obtain⟨u,us,rfl,h1,h2⟩:=h
  exact⟨u,us,rfl,V.nV hB v u (fun id aG=>hr id (by simp[V.aO,aG])) h1,V.iy hB vs us (fun id aG=>hr id (by simp[V.aO,aG])) h2⟩
end
theorem JA{env:List V}{i id:Nat}(h:id∈(br env i).refs):id∈V.aO env:=by
 unfold br at h
 induction env generalizing i with
 |nil=>simp[V.refs]at h
 |cons v env ih=>
  cases i with
  |zero=>simp only[List.getD_cons_zero]at h;simp[V.aO,h]
  |succ i=>simp only[List.getD_cons_succ]at h;simp[V.aO,ih h]
theorem bf.refs {M M':Nat->Prop}{φ aS:Place}{H H':Hp}{w:World}{id:Nat}(hB:∀b, ¬aA M φ H b-> ¬aA M' aS H' b)(ho:H'.o id=H.o id)(fE:aS id=φ id)
 (hr:∀j∈(H.o id).refs,H'.o j=H.o j/\aS j=φ j/\H'.us j) (h:bf M φ H w id):bf M' aS H' w id:=by
 have hd:∀b,dG w b-> ¬aA M φ H b->w.heap[b]? =w.heap[b]? /\ ¬aA M' aS H' b:=fun b _ hn=>⟨rfl,hB b hn⟩
 unfold bf at*
 rw[ho]
 cases hx:H.o id with
 |no=>trivial
 |row cs=>
  simp only[hx]at h|-
  obtain⟨b,eQ,ty,h1,h2,h3,h4⟩:=h
  exact⟨b,eQ,ty,fE.trans h1,h2,V.iy hB cs _ (fun j hj=>hr j (by rw[hx];exact hj)) h3,h4⟩
 |arr ep ty sz es=>
  simp only[hx]at h|-
  obtain⟨h0,xs,h1,evs,h2,h3,h4⟩:=h
  exact⟨h0,xs,by rw[fE];exact h1,evs,h2,h3,D.bg hd es evs h4⟩
 |sF ep es=>
  simp only[hx]at h|-
  rw[fE]
  exact D.bc hd (.sl es) _ h
 |map kt vt l=>
  simp only[hx]at h|-
  obtain⟨b,es,clock,h1,h2,h4,h3⟩:=h
  exact⟨b,es,clock,fE.trans h1,h2,h4,aY.mono hd l _ h3⟩
 |jf l=>
  simp only[hx]at h|-
  rw[fE]
  exact D.bc hd (.mp _ _) _ h
 |nD l last=>
  simp only[hx]at h|-
  obtain⟨b,h1,h2⟩:=h
  exact⟨b,fE.trans h1,h2.mono hd rfl⟩
 |AK s pos=>
  simp only[hx]at h|-
  obtain⟨b,h1,h2⟩:=h
  exact⟨b,fE.trans h1,h2⟩
 |loop nf n env ps jg fe st I9=>
  simp only[hx]at h|-
  obtain⟨b,r,h1,h2,h0,h3,h4,h5,h6,h7,h8,h9⟩:=h
  exact⟨b,r,fE.trans h1,h2,h0,h3,h4,h5,h6,h7,h8,fun i=>V.nV hB _ _ (fun j hj=>hr j (by rw[hx];exact JA hj)) (h9 i)⟩
section
variable {P:Program}
theorem FP{o o':Nat->ab}{Δ:List (Nat×ab)}{id:Nat}(h:o id=o' id):put o Δ id=put o' Δ id:=Hz h
where Hz {o o':Nat->ab}:∀ {Δ:List (Nat×ab)} {id:Nat},o id=o' id->put o Δ id=put o' Δ id
 |[],_,h=>h
 |x::Δ,id,h=>by
  simp only[put,List.foldl_cons]
  refine Hz (Δ:=Δ) (o:=aM o x.1 x.2) (o':=aM o' x.1 x.2) ?_
  simp only[aW]
  split
  ·rfl
  ·exact h
theorem Bc{o:Nat->ab}:∀ {Δ:List (Nat×ab)} {id:Nat},(∀x∈Δ,x.1≠id)->put o Δ id=o id
 |[],_,_=>rfl
 |x::Δ,id,h=>by
  have:=Bc (o:=aM o x.1 x.2) (Δ:=Δ) (id:=id) (fun y hy=>h y pD)
  simp only[put,List.foldl_cons]at this|-
  rw[this];simp[Ne.symm (h x (by simp))]
theorem Hy.mN {g:FuncId}{args:List V}{rd:List Nat}{o:Nat->ab}{nx:Nat}{out:R}{Δ:List (Nat×ab)}(uS:∀id∈rd,id<nx)(eL:∀id∈V.aO args,id∈rd)(p8:∀id∈rd,∀j∈(o id).refs,j∈rd)(hΔ:∀x∈Δ,x.1∈rd)(ah3:∀x∈Δ,∀j∈x.2.refs,j∈rd)
 (h:cR P g args (FO rd o) nx
  (fun v o1 _=>(∀id∈rd,o1 id=put o Δ id)/\∃vs rs,v=(match vs with|[v]=>v|vs=> .cn vs)/\cA o1 vs=some rs/\out= .ret rs/\∀id∈V.bK vs,id∉rd)
  (fun v o1 _=>(∀id∈rd,o1 id=put o Δ id)/\∃x,eI o1 v=some x/\out= .bW x/\∀id∈v.ids,id∉rd)):Hy P g args rd o out Δ:=by
 refine⟨h.1,fun o' us M φ w vals ho hH hd=> ?_⟩
 let M1:Nat->Prop:=fun b=>M b\/∃id,id∉rd/\(o' id).live=true/\fk (φ id)=some b
 let HR:Hp:=hp (FO rd o) nx
 have vT:∀id,id∈rd->FO rd o id=o' id:=fun id aG=>by simp[FO,aG,(ho id aG).1]
 have tQ:∀id,id∉rd->FO rd o id= .no:=fun id aG=>by simp[FO,aG]
 have hB:∀b,aA M1 φ HR b↔aA M φ ⟨o',us⟩ b:=by
  intro b
  constructor
  ·rintro((h|⟨id,h1,h2,h3⟩)|⟨id,h1,h2⟩)
   ·exact .inl h
   ·exact .inr ⟨id,h2,h3⟩
   ·by_cases aG:id∈rd
    ·exact .inr ⟨id,by show(o' id).live=true;rw[<- vT id aG];exact h1,h2⟩
    ·have:HR.o id= .no:=tQ id aG
     rw[this]at h1;cases h1
  ·rintro(h|⟨id,h1,h2⟩)
   ·exact .inl (.inl h)
   ·by_cases aG:id∈rd
    ·exact .inr ⟨id,by show(FO rd o id).live=true;rw[vT id aG];exact h1,h2⟩
    ·exact .inl (.inr ⟨id,aG,h1,h2⟩)
 have MQ:∀id∈rd,HR.o id=o' id/\φ id=φ id/\HR.us id:=fun id aG=>⟨vT id aG,rfl,uS id aG⟩
 have hHR:aI M1 φ HR w:=by
  refine⟨fun id=> ?_,fun id hn=> ?_,fun i j b hi hj bi bj=> ?_,fun b hb=> ?_,fun b hb=> ?_⟩
  ·by_cases aG:id∈rd
   ·refine bf.refs (H:=⟨o',us⟩) (M:=M) (φ:=φ) (fun b hn hb=>hn ((hB b).1 hb)) (vT id aG) rfl (fun j hj=>MQ j ?_) (hH.ok id)
    have:o' id=o id:=(ho id aG).1
    exact p8 id aG j (by rw[<- this];exact hj)
   ·unfold bf
    rw[show HR.o id= .no from tQ id aG];trivial
  ·exact tQ id fun aG=>hn (uS id aG)
  ·have live:∀i,(HR.o i).live=true->i∈rd/\(o' i).live=true:=fun i hi=>by
    by_cases aG:i∈rd
    ·exact⟨aG,by rw[<- vT i aG];exact hi⟩
    ·rw[show HR.o i= .no from tQ i aG]at hi;cases hi
   exact hH.apart i j b (live i hi).2 (live j hj).2 bi bj
  ·obtain⟨id,h1,h2⟩:=hb
   have aG:id∈rd:=by
    by_cases aG:id∈rd
    ·exact aG
    ·rw[show HR.o id= .no from tQ id aG]at h1;cases h1
   rw[show HR.o id=o' id from vT id aG]at h1
   obtain⟨k1,k2⟩:=hH.ours b ⟨id,h1,h2⟩
   refine⟨?_,k2⟩
   rintro(hM|⟨j,j1,j2,j3⟩)
   ·exact k1 hM
   ·exact j1 (hH.apart j id b j2 h1 j3 h2 ▸ aG)
  ·rcases hb with hb|⟨id,h1,h2,h3⟩
   ·exact hH.B9 b hb
   ·exact(hH.ours b ⟨id,h2,h3⟩).2
 have hdR:V.aP (aA M1 φ HR) φ HR w args vals.toList:=V.iy (H:=⟨o',us⟩) (fun b hn hb=>hn ((hB b).1 hb)) _ _ (fun id aG=>MQ id (eL id aG)) hd
 refine(h.2 M1 φ w vals hHR hdR).mono ?_
 rintro e w' ⟨jN,o1,Cc,v,k1,k2,k3⟩
 have main:(∀id∈rd,o1 id=put o Δ id)->∃aS,aI M aS ⟨put o' Δ,us⟩ w'/\Trans φ ⟨o',us⟩ w aS ⟨put o' Δ,us⟩ w'/\∀b,aA M aS ⟨put o' Δ,us⟩ b->M1 b\/∃id∈rd,(o1 id).live=true/\fk (jN id)=some b:=by
  intro xC
  have Hq:∀id∈rd,put o' Δ id=o1 id:=fun id aG=>(FP (ho id aG).1).trans (xC id aG).symm
  have Ld:∀id,id∉rd->put o' Δ id=o' id:=fun id aG=>Bc fun x hx e=>aG (e ▸ hΔ x hx)
  let Jt:Place:=fun id=>if id∈rd then jN id else φ id
  have Bd:∀id∈rd,Jt id=jN id:=fun id aG=>if_pos aG
  have Dk:∀id,id∉rd->Jt id=φ id:=fun id aG=>if_neg aG
  let H2:Hp:=⟨put o' Δ,us⟩
  have dm:∀b,dt Jt H2 b->(∃id∈rd,(o1 id).live=true/\fk (jN id)=some b)\/∃id,id∉rd/\(o' id).live=true/\fk (φ id)=some b:=by
   rintro b ⟨id,h1,h2⟩
   by_cases aG:id∈rd
   ·exact .inl ⟨id,aG,by rw[<- Hq id aG];exact h1,by rw[<- Bd id aG];exact h2⟩
   ·exact .inr ⟨id,aG,by rw[<- Ld id aG];exact h1,by rw[<- Dk id aG];exact h2⟩
  have hB2:∀b,aA M Jt H2 b->aA M1 jN (hp o1 Cc) b:=by
   rintro b (hb|hb)
   ·exact .inl (.inl hb)
   ·rcases dm b hb with⟨id,h1,h2,h3⟩|⟨id,h1,h2,h3⟩
    ·exact .inr ⟨id,h2,h3⟩
    ·exact .inl (.inr ⟨id,h1,h2,h3⟩)
  have adF:eR φ ⟨o',us⟩ Jt H2:=by
   refine⟨fun id h=>h,fun id hu hr=> ?_,fun id e' hu he=> ?_⟩
   ·by_cases aG:id∈rd
    ·rw[show H2.o id=o1 id from Hq id aG]at hr
     obtain⟨a,b⟩:=k2.rel.row id (uS id aG) hr
     rw[show HR.o id=o' id from vT id aG]at a
     exact⟨a,(Bd id aG).trans b⟩
    ·rw[show H2.o id=o' id from Ld id aG]at hr
     exact⟨hr,Dk id aG⟩
   ·by_cases aG:id∈rd
    ·rw[show H2.o id=o1 id from Hq id aG]at he
     obtain⟨e0,a,b,c⟩:=k2.rel.ep id e' (uS id aG) he
     rw[show HR.o id=o' id from vT id aG]at a
     exact⟨e0,a,b,fun heq=>(Bd id aG).trans (c heq)⟩
    ·rw[show H2.o id=o' id from Ld id aG]at he
     exact⟨e',he,Nat.le_refl _,fun _=>Dk id aG⟩
  have xS:∀b,dG w b-> ¬aA M φ ⟨o',us⟩ b->w'.heap[b]? =w.heap[b]? /\ ¬aA M Jt H2 b:=by
   intro b hc hn
   obtain⟨a,c⟩:=k2.blocks (M:=M1) b hc (fun hb=>hn ((hB b).1 hb))
   exact⟨a,fun hb=>c (hB2 b hb)⟩
  have x7:∀b,b<w.heap.size-> ¬dt φ HR b->w'.heap[b]? =w.heap[b]? :=fun b hb hl=>k2.keep.block b hb hl
  have ht:Trans φ ⟨o',us⟩ w Jt H2 w':=by
   refine⟨⟨k2.keep.os,k2.keep.tape,k2.keep.output,k2.keep.size,fun b hb hl=>x7 b hb fun⟨id,h1,h2⟩=>hl ?_⟩,fun b hb=> ?_,adF⟩
   ·by_cases aG:id∈rd
    ·exact⟨id,by show(o' id).live=true;rw[<- vT id aG];exact h1,h2⟩
    ·rw[show HR.o id= .no from tQ id aG]at h1;cases h1
   ·rcases dm b hb with⟨id,h1,h2,h3⟩|⟨id,h1,h2,h3⟩
    ·rcases k2.grow b ⟨id,h2,h3⟩with⟨j,j1,j2⟩|Ca
     ·by_cases aG:j∈rd
      ·exact .inl ⟨j,by show(o' j).live=true;rw[<- vT j aG];exact j1,j2⟩
      ·rw[show HR.o j= .no from tQ j aG]at j1;cases j1
     ·exact .inr Ca
    ·exact .inl ⟨id,h2,h3⟩
  refine⟨Jt,⟨fun id=> ?_,fun id hn=> ?_,fun i j b hi hj bi bj=> ?_,fun b hb=> ?_,fun b hb=>Nat.lt_of_lt_of_le (hH.B9 b hb) k2.keep.size⟩,ht,fun b hb=> ?_⟩
  ·by_cases aG:id∈rd
   ·refine bf.refs (H:=hp o1 Cc) (M:=M1) (φ:=jN) (fun b hn hb=>hn (hB2 b hb)) (Hq id aG) (Bd id aG) (fun j hj=> ?_) (k1.ok id)
    have La:j∈rd:=by
     have e1:o1 id=put o Δ id:=xC id aG
     have hj:j∈(put o Δ id).refs:=by rw[<- e1];exact hj
     have key:∀ (HA:List (Nat×ab)) (q:Nat->ab),(∀x∈HA,∀j∈x.2.refs,j∈rd)->(∀j∈(q id).refs,j∈rd)->∀j∈(put q HA id).refs,j∈rd:=by
      intro HA
      induction HA with
      |nil=>intro q _ h2;exact h2
      |cons x HA ih=>
       intro q h1 h2
       simp only[put,List.foldl_cons]
       refine ih (aM q x.1 x.2) (fun y hy=>h1 y pD) ?_
       simp only[aW]
       split
       ·exact h1 x ao
       ·exact h2
     exact key Δ o ah3 (p8 id aG) j hj
    exact⟨Hq j La,Bd j La,(ho j La).2⟩
   ·exact bf.CI xS adF (Ld id aG) (Dk id aG) (fun hl b hb=>x7 b (hH.ours b ⟨id,hl,hb⟩).2 fun⟨j,j1,j2⟩=>by
     by_cases hj:j∈rd
     ·rw[show HR.o j=o' j from vT j hj]at j1
      exact aG (hH.apart id j b hl j1 hb j2 ▸ hj)
     ·rw[show HR.o j= .no from tQ j hj]at j1;cases j1) (hH.ok id)
  ·have aG:id∉rd:=fun aG=>hn (ho id aG).2
   exact(Ld id aG).trans (hH.fresh id hn)
  ·by_cases e1:i∈rd<;>by_cases e2:j∈rd
   ·refine k1.apart i j b ?_ ?_ (by rw[<- Bd i e1];exact bi) (by rw[<- Bd j e2];exact bj)
    ·show(o1 i).live=true;rw[<- Hq i e1];exact hi
    ·show(o1 j).live=true;rw[<- Hq j e2];exact hj
   ·exfalso
    refine(k1.ours b ⟨i,by show(o1 i).live=true;rw[<- Hq i e1];exact hi,by rw[<- Bd i e1];exact bi⟩).1 (.inr ⟨j,e2,by rw[<- Ld j e2];exact hj,by rw[<- Dk j e2];exact bj⟩)
   ·exfalso
    refine(k1.ours b ⟨j,by show(o1 j).live=true;rw[<- Hq j e2];exact hj,by rw[<- Bd j e2];exact bj⟩).1 (.inr ⟨i,e1,by rw[<- Ld i e1];exact hi,by rw[<- Dk i e1];exact bi⟩)
   ·exact hH.apart i j b (by show(o' i).live=true;rw[<- Ld i e1];exact hi) (by show(o' j).live=true;rw[<- Ld j e2];exact hj) (by rw[<- Dk i e1];exact bi) (by rw[<- Dk j e2];exact bj)
  ·rcases dm b hb with⟨id,h1,h2,h3⟩|⟨id,h1,h2,h3⟩
   ·obtain⟨a,c⟩:=k1.ours b ⟨id,h2,h3⟩
    exact⟨fun hM=>a (.inl hM),c⟩
   ·obtain⟨a,c⟩:=hH.ours b ⟨id,h2,h3⟩
    exact⟨a,Nat.lt_of_lt_of_le c k2.keep.size⟩
  ·rcases hb with hb|hb
   ·exact .inl (.inl hb)
   ·rcases dm b hb with h|h
    ·exact .inr h
    ·exact .inl (.inr h)
 have res:∀ (vs:List V) (xs:List D) (us':List Value),(∀id∈rd,o1 id=put o Δ id)->cA o1 vs=some xs->(∀id∈V.bK vs,id∉rd)->V.aP (aA M1 jN (hp o1 Cc)) jN (hp o1 Cc) w' vs us'->
  ∃aS,aI M aS ⟨put o' Δ,us⟩ w'/\Trans φ ⟨o',us⟩ w aS ⟨put o' Δ,us⟩ w'/\D.aP (aA M aS ⟨put o' Δ,us⟩) w' xs us':=by
  intro vs xs us' xC h1 ah4 h2
  obtain⟨f1,f2,f3,f4,f5⟩:=dH k1 (V.bK vs) (dv vs _ h2)
  have h3:=dT f1 vs xs us' f3 h1 (V.bg f2 _ _ h2)
  obtain⟨aS,m1,m2,m3⟩:=main xC
  refine⟨aS,m1,m2,D.bg (w:=w') (w':=w') (fun b _ hn=>⟨rfl,fun hb=>hn ?_⟩) xs us' h3⟩
  rcases m3 b hb with hb|⟨id,i1,i2,i3⟩
  ·exact .inl hb
  ·exact .inr ⟨id,by rw[f4 id fun hm=>ah4 id hm i1];exact i2,i3⟩
 cases e with
 |outgrown=>exact k3.elim
 |panicked ch=>
  obtain⟨val,rfl,g1,xC,x,g2,rfl,g3⟩:=k3
  obtain⟨aS,m1,m2,m3⟩:=res [v] [x] [val] xC (by simp[cA,g2]) (by simpa[V.bK]using g3) ⟨val,[],rfl,g1,rfl⟩
  obtain⟨u,us2,he,h2,_⟩:=m3
  simp at he;obtain⟨rfl,rfl⟩:=he
  exact⟨aS,m1,m2,val,rfl,h2⟩
 |returned val=>
  obtain⟨g1,xC,vs,rs,rfl,g2,rfl,g3⟩:=k3
  match vs,g1,g2,g3 with
  |[],g1,g2,g3=>
   obtain⟨arr,rfl,hv⟩:=g1
   simp only[cA,Option.some.injEq]at g2;subst g2
   obtain⟨aS,m1,m2,m3⟩:=res [] [] arr.toList xC rfl (by simp[V.bK]) hv
   exact⟨aS,m1,m2,arr,rfl,m3⟩
  |[v],g1,g2,g3=>
   obtain⟨aS,m1,m2,m3⟩:=res [v] rs [val] xC g2 g3 ⟨val,[],rfl,g1,rfl⟩
   refine⟨aS,m1,m2, ?_⟩
   cases rs with
   |nil=>cases m3
   |cons x l=>
    obtain⟨u,us2,he,h2,h3⟩:=m3
    simp at he;obtain⟨rfl,rfl⟩:=he
    cases l with
    |nil=>exact h2
    |cons y l=>obtain⟨_,_,h,_⟩:=h3;cases h
  |v::v2::l,g1,g2,g3=>
   obtain⟨arr,rfl,hv⟩:=g1
   obtain⟨aS,m1,m2,m3⟩:=res (v::v2::l) rs arr.toList xC g2 g3 hv
   refine⟨aS,m1,m2, ?_⟩
   have hl:=D.aL _ _ m3
   have nm:=V.aL _ _ hv
   match rs,hl,m3 with
   |[],hl,_=>exact GY
   |[x],hl,_=>exact GY
   |x::y::l,_,m3=>exact⟨arr,rfl,m3⟩
end
end
section
inductive gh where
 |skip|val (v:V) (Δ:List (Nat×ab)) (rd:List Nat)|bW (v:V) (ws rd:List Nat)|fk
 deriving Inhabited
def gh.ok:gh->Bool
 | .skip| .val .. =>true
 |_=>false
def xH(dst:Option Tmp)(x:gh)(s:S):S:=
 match x with
 | .skip=>⟨bB s.env dst (.cn []),s.o,s.nx⟩
 | .val v Δ _=>⟨bB s.env dst v,put s.o Δ,s.nx⟩
 | .bW .. | .fk=>⟨bB s.env dst .aa,s.o,s.nx⟩
def lP:gh->List Nat
 | .val _ Δ _=>Δ.map (·.1)
 |_=>[]
def x8:gh->List Nat
 | .val _ _ rd=>rd
 | .bW _ _ rd=>rd
 |_=>[]
def UR(P:Program)(g:FuncId)(ds:List D)(v:V):Prop:=
 Enters P g/\∀ (M:Nat->Prop) (w:World) (vals:Array Value),(∀b,M b->b<w.heap.size)->D.aP M w ds vals.toList->
  Calls P g vals w fun e w'=>fg (fun _=>False) w w'/\∃val,e= .returned val/\∀φ H,V.den M φ H w' v val
theorem UR.mN {P:Program}{g:FuncId}{ds:List D}{v:V}(hr:v.refs=[])(h:cR P g (ds.map .d) (fun _=> .no) 0 (fun v' _ _=>v'=v) (fun _ _ _=>False)):UR P g ds v:=by
 refine⟨h.1,fun M w vals hM hd=> ?_⟩
 let cU:Place:=fun _=> .nilFunc
 have x7:∀b, ¬dt cU (hp (fun _=> .no) 0) b:=by rintro b ⟨id,hl,_⟩;simp[hp,ab.live]at hl
 refine(h.2 M cU w vals (mb cU hM) ((V.cM _ _).2 (D.bg (w:=w) (w':=w) (B:=M) (fun b _ hB=>⟨rfl,fun h=>h.elim hB (x7 b)⟩) _ _ hd))).mono ?_
 rintro e w' ⟨aS,o',nx',v',k1,k2,k3⟩
 refine⟨⟨k2.keep.os,k2.keep.tape,k2.keep.output,k2.keep.size,fun k hk _=>k2.keep.block k hk (x7 k)⟩, ?_⟩
 cases e with
 |outgrown=>exact k3.elim
 |panicked ch=>obtain⟨_,_,_,h⟩:=k3;exact h.elim
 |returned val=>
  obtain⟨g1,rfl⟩:=k3
  exact⟨val,rfl,fun φ H=>V.nV (B:=aA M aS (hp o' nx')) (φ:=aS) (H:=hp o' nx') (fun b hb hm=>hb (.inl hm)) v' val (fun id aG=>by rw[hr]at aG;cases aG) g1⟩
def zj(P:Program)(s:S)(fr:Nat)(op:Op)(v:V)(Δ:List (Nat×ab))(rd:List Nat):Prop:=
 ((∃uO,gZ P s fr op=some (v,Δ,uO))/\rd=pB s op)\/
 (∃c f g first cap,op= .call c/\c.callee= .value f/\s.ev f= .func (.func g) first cap/\
  ((∃ds rs,cA s.o (first++c.args.toList.map s.ev++cap)=some ds/\aQ P g ds (.ret rs)/\v=ke rs/\rd=pB s op/\
    (Δ=dw s.o (V.bK (first++c.args.toList.map s.ev++cap))\/D.kO rs=true/\Δ=[]))\/
   (∃rs,Hy P g (first++c.args.toList.map s.ev++cap) rd s.o (.ret rs) Δ/\v=ke rs/\∀id∈rd,id<s.nx)\/
   (∃ds,cA s.o (first++c.args.toList.map s.ev++cap)=some ds/\UR P g ds v/\rd=pB s op/\Δ=dw s.o (V.bK (first++c.args.toList.map s.ev++cap)))\/
   (zi P g (first++c.args.toList.map s.ev++cap) rd s.o fr v Δ/\∀id∈rd,id<s.nx)))
def Dl(P:Program)(s:S)(op:Op)(v:V)(ws rd:List Nat):Prop:=
 ∃c f g first cap,op= .call c/\c.callee= .value f/\s.ev f= .func (.func g) first cap/\
  ((∃ds x,cA s.o (first++c.args.toList.map s.ev++cap)=some ds/\aQ P g ds (.bW x)/\x.flat=true/\v= .d x/\rd=pB s op/\ws=[])\/
   (∃x Δ,Hy P g (first++c.args.toList.map s.ev++cap) rd s.o (.bW x) Δ/\v= .d x/\ws=Δ.map (·.1)/\∀id∈rd,id<s.nx))
def eO(s:S)(gd:Option (Nat×Bool))(b:Bool):Prop:=
 match gd with
 |none=>b=true
 |some (d,want)=>match s.env d with
  | .d (.bool c)=>b=(c==want)
  | .cn []=>b=false
  |_=>False
def US(P:Program)(s:S)(fr:Nat)(o:cq)(x:gh):Prop:=
 match x with
 | .skip=>eO s o.gd false
 | .val v Δ rd=>eO s o.gd true/\zj P s fr o.op v Δ rd
 | .bW v ws rd=>eO s o.gd true/\Dl P s o.op v ws rd
 | .fk=>True
def fA(oc:Nat->cq)(ac:Nat->gh)(E:Nat->Bool)(s:S):Nat->S
 |0=>s
 |k+1=>if E k then xH (oc k).dst (ac k) (fA oc ac E s k)else fA oc ac E s k
structure Compat (oc:Nat->cq) (ac:Nat->gh) (R:Nat->List Nat) (i j:Nat):Prop where
 di:∀d,(oc i).dst=some d->d∉fU (oc j)
 dj:∀d,(oc j).dst=some d->d∉fU (oc i)
 wi:∀id∈lP (ac i),id∉R j/\id∉lP (ac j)
 wj:∀id∈lP (ac j),id∉R i
section
variable {P:Program}{oc:Nat->cq}{ac:Nat->gh}{s:S}{n:Nat}{E:Nat->Bool}{R:Nat->List Nat}{pr:Nat->Nat->Prop}
theorem FQ{env:Nat->V}{dst:Option Tmp}{v:V}{t:Nat}(h:∀d,dst=some d->d≠t):bB env dst v t=env t:=by
 cases dst with
 |none=>rfl
 |some d=>simp only[bB,aW];rw[if_neg (fun e=>h d rfl e.symm)]
theorem iz{o:Nat->ab}:∀ {Δ:List (Nat×ab)} {id:Nat},id∉Δ.map (·.1)->put o Δ id=o id
 |[],_,_=>rfl
 |x::Δ,id,h=>by
  simp only[List.map_cons,List.mem_cons,not_or]at h
  have:=iz (o:=aM o x.1 x.2) (Δ:=Δ) h.2
  simp only[put,List.foldl_cons]at this|-
  rw[this];simp[h.1]
theorem Be{o o':Nat->ab}:∀ {Δ:List (Nat×ab)} {id:Nat},id∈Δ.map (·.1)\/o id=o' id->put o Δ id=put o' Δ id
 |[],_,h=>by rcases h with h|h;· simp at h
             ·exact h
 |x::Δ,id,h=>by
  simp only[put,List.foldl_cons]
  refine Be (Δ:=Δ) (o:=aM o x.1 x.2) (o':=aM o' x.1 x.2) ?_
  simp only[List.map_cons,List.mem_cons]at h
  simp only[aW]
  by_cases e:id=x.1
  ·right;simp[e]
  ·rcases h with(h|h)|h
   ·exact absurd h e
   ·exact .inl h
   ·right;simp[e,h]
theorem lQ{dst:Option Tmp}{x:gh}{t:Nat}(h:∀d,dst=some d->d≠t):(xH dst x s).env t=s.env t:=by
 cases x<;>exact FQ h
theorem nW{dst:Option Tmp}{x:gh}{id:Nat}(h:id∉lP x):(xH dst x s).o id=s.o id:=by
 cases x with
 |val v Δ rd=>exact iz h
 |_=>rfl
theorem Bf{dst:Option Tmp}{x:gh}{s':S}{t:Nat}(h:s.env t=s'.env t):(xH dst x s).env t=(xH dst x s').env t:=by
 cases x<;>cases dst<;>simp only[xH,bB,aW]<;>first|exact h|(split<;>first|rfl|exact h)
theorem FR{dst:Option Tmp}{x:gh}{s':S}{id:Nat}(h:s.o id=s'.o id):(xH dst x s).o id=(xH dst x s').o id:=by
 cases x with
 |val v Δ rd=>exact Be (.inr h)
 |_=>exact h
theorem put_comm{o:Nat->ab}{Δ HA:List (Nat×ab)}(h:∀id∈Δ.map (·.1),id∉HA.map (·.1)):put (put o Δ) HA=put (put o HA) Δ:=by
 funext id
 by_cases h1:id∈Δ.map (·.1)
 ·rw[iz (h id h1)]
  exact Be (.inl h1)
 ·rw[iz (Δ:=Δ) h1]
  by_cases h2:id∈HA.map (·.1)
  ·exact Be (.inl h2)
  ·rw[iz h2,iz h2,iz h1]
theorem zl{env:Nat->V}{d d':Option Tmp}{v v':V}(h:∀t,d=some t->d'≠some t):bB (bB env d v) d' v'=bB (bB env d' v') d v:=by
 cases d with
 |none=>rfl
 |some t=>
  cases d' with
  |none=>rfl
  |some t'=>
   have il:t'≠t:=fun e=>h t rfl (by rw[e])
   funext i
   simp only[bB,aW]
   by_cases e1:i=t<;>by_cases e2:i=t'
   ·exact absurd (e2.symm.trans e1) il
   all_goals simp[e1,e2]
   ·intro e;exact absurd e.symm il
   ·intro e;exact absurd e il
theorem Nh{d d':Option Tmp}{x x':gh}(hd:∀t,d=some t->d'≠some t)(hw:∀id∈lP x,id∉lP x'):xH d x (xH d' x' s)=xH d' x' (xH d x s):=by
 cases x<;>cases x'<;>simp only[xH]<;>first
  |rw[zl hd,put_comm hw]
  |rw[zl hd]
def Bg(n:Nat)(pr:Nat->Nat->Prop)(E:Nat->Bool):Prop:=∀k,k<n->E k=true->∀j,pr k j->E j=true
theorem agree(_:∀k,k<n->∀j,pr k j->j<k)(hc:∀i j,i<j->j<n-> ¬pr j i->Compat oc ac R i j)(hE:Bg n pr E){i:Nat}(hi:i<n)(nu:E i=false)(Ni:∀j,pr i j->E j=true):
 (∀t∈fU (oc i),(fA oc ac E s n).env t=(fA oc ac (fun _=>true) s i).env t)/\(∀id∈R i,(fA oc ac E s n).o id=(fA oc ac (fun _=>true) s i).o id):=by
 have a:∀k,k<=i->(∀t∈fU (oc i),(fA oc ac E s k).env t=(fA oc ac (fun _=>true) s k).env t)/\(∀id∈R i,(fA oc ac E s k).o id=(fA oc ac (fun _=>true) s k).o id):=by
  intro k
  induction k with
  |zero=>intro _;exact⟨fun _ _=>rfl,fun _ _=>rfl⟩
  |succ k ih=>
   intro hk
   obtain⟨h1,h2⟩:=ih af
   simp only[fA,if_true]
   by_cases im:E k=true
   ·simp only[im,if_true]
    exact⟨fun t ht=>Bf (h1 t ht),fun id aG=>FR (h2 id aG)⟩
   ·have UH: ¬pr i k:=fun hm=>im (Ni k hm)
    have c:=hc k i af hi UH
    simp only[im]
    refine⟨fun t ht=> ?_,fun id aG=> ?_⟩
    ·rw[lQ fun d hd e=>c.di d hd (e ▸ ht)];exact h1 t ht
    ·rw[nW fun hm=>(c.wi id hm).1 aG];exact h2 id aG
 have b:∀k,i<=k->k<=n->(∀t∈fU (oc i),(fA oc ac E s k).env t=(fA oc ac (fun _=>true) s i).env t)/\(∀id∈R i,(fA oc ac E s k).o id=(fA oc ac (fun _=>true) s i).o id):=by
  intro k Q8
  induction Q8 with
  |refl=>intro _;exact a i (Nat.le_refl _)
  | @step k Q8 ih=>
    intro hk
    have Q8:i<=k:=Q8
    obtain⟨h1,h2⟩:=ih af
    simp only[fA]
    by_cases im:E k=true
    ·have il:i≠k:=fun e=>by rw[e,im]at nu;cases nu
     have UH: ¬pr k i:=fun hm=>by have:=hE k af im i hm;rw[nu]at this;cases this
     have c:=hc i k af af UH
     simp only[im,if_true]
     refine⟨fun t ht=> ?_,fun id aG=> ?_⟩
     ·rw[lQ fun d hd e=>c.dj d hd (e ▸ ht)];exact h1 t ht
     ·rw[nW fun hm=>c.wj id hm aG];exact h2 id aG
    ·simp only[im];exact⟨h1,h2⟩
 exact b n af (Nat.le_refl _)
theorem insert(hc:∀i j,i<j->j<n-> ¬pr j i->Compat oc ac R i j)(hE:Bg n pr E){i:Nat}(hi:i<n)(nu:E i=false){E':Nat->Bool}(FT:∀k,E' k=(E k||k==i)):
 fA oc ac E' s n=xH (oc i).dst (ac i) (fA oc ac E s n):=by
 have a:∀k,k<=i->fA oc ac E' s k=fA oc ac E s k:=by
  intro k
  induction k with
  |zero=>intro _;rfl
  |succ k ih=>
   intro hk
   have:E' k=E k:=by rw[FT k];have:(k==i)=false:=by simp;omega
                     simp[this]
   simp only[fA,this,ih (by omega)]
 have b:∀k,i+1<=k->k<=n->fA oc ac E' s k=xH (oc i).dst (ac i) (fA oc ac E s k):=by
  intro k Q8
  induction Q8 with
  |refl=>
   intro _
   have h1:E' i=true:=by rw[FT i];simp
   simp only[fA,h1,nu,if_true,a i (Nat.le_refl _)]
   rfl
  | @step k Q8 ih=>
    intro hk
    have Q8:i+1<=k:=Q8
    have h1:E' k=E k:=by rw[FT k];have:(k==i)=false:=by simp;omega
                         simp[this]
    simp only[fA,h1,ih (by omega)]
    by_cases im:E k=true
    ·have UH: ¬pr k i:=fun hm=>by have:=hE k af im i hm;rw[nu]at this;cases this
     have c:=hc i k af af UH
     simp only[im,if_true]
     refine Nh (fun t ht he=> ?_) (fun id aG hm=>(c.wi id hm).2 aG)
     exact c.di t he (by simp[fU,ht])
    ·simp only[im];rfl
 exact b n af (Nat.le_refl _)
end
end
section
structure uC (M:Nat->Prop) (cU:Place) (H0:Hp) (w0:World) (n:Nat) (cx:Cx) (φ:Place) (s:S) (us:Nat->Prop) (a:Act) (w:World):Prop where
 heap:aI M φ ⟨s.o,us⟩ w
 tr:Trans cU H0 w0 φ ⟨s.o,us⟩ w
 size:a.tmps.size=n
 defers:vM cx w0 φ ⟨s.o,us⟩ w a.defers
 env:∀i,V.den (aA M φ ⟨s.o,us⟩) φ ⟨s.o,us⟩ w (s.env i) (a.tmps.getD i undef)
section
variable {P:Program}{M:Nat->Prop}{φ cU:Place}{H0:Hp}{w w' w0:World}{n:Nat}{s:S}{us:Nat->Prop}{a:Act}{cx:Cx}{ro:Option Nat}{k:Nat}
variable {next:Act->World->Prop}{Q:Exit->Act->World->Prop}
theorem kF(hs:uC M cU H0 w0 n cx φ s us a w){aS:Place}{H':Hp}(hH:aI M aS H' w')(ht:Trans φ ⟨s.o,us⟩ w aS H' w'){v:V}{val:Value}(hd:V.den (aA M aS H') aS H' w' v val){dst:Option Tmp}(dq:iJ n dst)
 {o':Nat->ab} {us':Nat->Prop} (ho:H'.o=o') (hu:∀id,H'.us id->us' id):uC M cU H0 w0 n cx aS ⟨bB s.env dst v,o',s.nx⟩ us' (a.put dst val) w':=by
 obtain⟨k1,k2⟩:=ly hH hu
 subst ho
 refine⟨k1,hs.tr.trans (ht.trans k2), ?_, ?_,fun i=> ?_⟩
 ·cases dst<;>simp[Act.put,hs.size]
 ·have:=hs.defers.mono (ht.trans k2);cases dst<;>exact this
 ·cases dst with
  |none=>exact Qz
  |some d=>
   simp only[iJ]at dq
   simp only[bB,aW,Act.put]
   by_cases hi:i=d
   ·subst hi
    have h1:(a.tmps.setIfInBounds i val).getD i undef=val:=by simp[Array.getD,hs.size,dq]
    rw[if_pos rfl,h1]
    exact V.bc k2 _ _ hd
   ·have h1:(a.tmps.setIfInBounds d val).getD i undef=a.tmps.getD i undef:=by
     exact Mg
    rw[if_neg hi,h1]
    exact Qz
theorem zm(hs:uC M cU H0 w0 n cx φ s us a w){o:Oper}{op:Op}(eJ:o.op=op){c:Call}{f:Operand}{g:FuncId}{first cap:List V}(hc:op= .call c)(fS:c.callee= .value f)(xN:s.ev f= .func (.func g) first cap):
 ∃vals:Array Value,V.aP (aA M φ ⟨s.o,us⟩) φ ⟨s.o,us⟩ w (first++c.args.toList.map s.ev++cap) vals.toList/\(Enters P g->(execOp a.eval o).run P w= .ok (.enter g vals) w):=by
 have hf:=nH (M:=M) (φ:=φ) (H:=⟨s.o,us⟩) (w:=w) s a hs.env f
 have eL:=lA (M:=M) (φ:=φ) (H:=⟨s.o,us⟩) (w:=w) s a hs.env c.args.toList
 rw[xN]at hf
 obtain⟨fa,ca,Yd,E0,hca⟩:=hf
 refine⟨fa++c.args.map a.eval++ca, ?_,fun he=> ?_⟩
 ·exact T0
 ·have:=ma (w:=w) he (fa++c.args.map a.eval++ca)
  generalize qJ:fa++c.args.map a.eval++ca=vals at this
  simp[execOp,eJ,hc,resolve,fS,Yd,Deferred.ofValue,invoke,this,qJ]
theorem LD(hs:uC M cU H0 w0 n cx φ s us a w){fr:Nat}(dF: ¬us fr)(uS:∀id,id<s.nx->us id){o:Oper}{op:Op}(eJ:o.op=op)(dq:iJ n o.dst){v:V}{Δ:List (Nat×ab)}{rd:List Nat}(h:zj P s fr op v Δ rd)
 (hN:∀aS a' w',uC M cU H0 w0 n cx aS (xH o.dst (.val v Δ rd) s) (fun id=>us id\/id=fr) a' w'->next a' w'):o.wpIn (eK ro) k P a w next Q:=by
 rcases h with⟨⟨uO,h⟩,_⟩|⟨c,f,g,first,cap,hc,fS,xN,h⟩
 ·have h1:=Dh (K:=fun v' HA _=>v'=v/\HA=Δ) h ⟨rfl,rfl⟩
  obtain⟨nx,val,w',aS,v',HA,uO,⟨rfl,rfl⟩,hr,ah5,g1,g2,g3,g4⟩:=yZ hs.heap (s:=s) rfl hs.env dF eJ h1
  have AZ:=kF hs g1 g2 g3 dq (o':=put s.o HA) (us':=fun id=>us id\/id=fr) rfl (fun id hu=>hu.elim .inl (g4 id))
  refine lE (fun c hc=>by rw[eJ]at hc;subst hc;exact h1) ?_
  rw[hr]
  rcases ah5 with rfl|⟨rfl,rfl⟩
  ·exact hN _ _ _ AZ
  ·exact hN _ _ _ AZ
 ·refine lE (fun c' qC=>by rw[eJ,hc]at qC;cases qC) ?_
  obtain⟨vals,bH,fY⟩:=zm (P:=P) hs eJ hc fS xN
  generalize first++c.args.toList.map s.ev++cap=all at h bH
  rcases h with⟨ds,rs,fT,hP,rfl,_,hΔ⟩|⟨rs,hH,rfl,pw⟩|⟨ds,fT,hP,_,rfl⟩|⟨hH,pw⟩
  ·obtain⟨f1,f2,f3,f4,f5⟩:=dH hs.heap (V.bK all) (dv all _ bH)
   have lN:(⟨s.o,us⟩:Hp).put (dw s.o (V.bK all))=⟨put s.o (dw s.o (V.bK all)),us⟩:=l9 (H:=⟨s.o,us⟩) LR
   have yQ:=dT f1 all ds _ f3 fT (V.bg f2 _ _ bH)
   have dz:=hP.2 _ w vals (fun b hb=>hb.elim (f1.B9 b) fun hl=>(f1.ours b hl).2) yQ
   rw[fY hP.1]
   refine⟨fun hd=>by simp[eK]at hd,dC (dz.mono fun e w' ⟨hk,ho⟩=> ?_)⟩
   cases e with
   |panicked ch=>exact xM
   |outgrown=>exact xM
   |returned val=>
    rcases hΔ with rfl|⟨qH,rfl⟩
    ·obtain⟨k1,k2⟩:=iu f1 hk
     refine hN _ _ _ (kF hs k1 (f2.trans k2) (nA ho) dq (by rw[lN]) fun id hu=> ?_)
     rw[lN]at hu;exact .inl hu
    ·obtain⟨k1,k2⟩:=iu hs.heap hk
     have ho:=R.A0 (out:= .ret rs) (B':=aA M φ ⟨s.o,us⟩) qH ho
     exact S7
  ·have dz:=hH.2 s.o us M φ w vals (fun id aG=>⟨rfl,uS id (pw id aG)⟩) hs.heap bH
   rw[fY hH.1]
   refine⟨fun hd=>by simp[eK]at hd,dC (dz.mono fun e w' ⟨aS,k1,k2,ho⟩=> ?_)⟩
   cases e with
   |panicked ch=>exact xM
   |outgrown=>exact xM
   |returned val=>exact S7
  ·obtain⟨f1,f2,f3,f4,f5⟩:=dH hs.heap (V.bK all) (dv all _ bH)
   have lN:(⟨s.o,us⟩:Hp).put (dw s.o (V.bK all))=⟨put s.o (dw s.o (V.bK all)),us⟩:=l9 (H:=⟨s.o,us⟩) LR
   have yQ:=dT f1 all ds _ f3 fT (V.bg f2 _ _ bH)
   have dz:=hP.2 _ w vals (fun b hb=>hb.elim (f1.B9 b) fun hl=>(f1.ours b hl).2) yQ
   rw[fY hP.1]
   refine⟨fun hd=>by simp[eK]at hd,dC (dz.mono fun e w' ⟨hk,val,he,ho⟩=> ?_)⟩
   subst he
   obtain⟨k1,k2⟩:=iu f1 hk
   refine hN _ _ _ (kF hs k1 (f2.trans k2) (ho _ _) dq (by rw[lN]) fun id hu=> ?_)
   rw[lN]at hu;exact .inl hu
  ·have dz:=hH.2 s.o us M φ w vals (fun id aG=>⟨rfl,uS id (pw id aG)⟩) dF hs.heap bH
   rw[fY hH.1]
   refine⟨fun hd=>by simp[eK]at hd,dC (dz.mono fun e w' ⟨aS,k1,k2,val,he,ho⟩=> ?_)⟩
   subst he
   exact hN _ _ _ (kF hs k1 k2 ho dq rfl fun id hu=>hu)
theorem JB{o o2:Nat->ab}{us us2:Nat->Prop}(hH:aI M φ ⟨o,us⟩ w)(ho:∀id,o2 id=o id\/o2 id= .no)(hu:∀id,us id->us2 id):aI M φ ⟨o2,us2⟩ w/\Trans φ ⟨o,us⟩ w φ ⟨o2,us2⟩ w:=by
 have hl:∀id,(o2 id).live=true->(o id).live=true:=fun id h=>by
  rcases ho id with e|e
  ·rw[<- e];exact h
  ·rw[e]at h;cases h
 have hlb:∀b,dt φ ⟨o2,us2⟩ b->dt φ ⟨o,us⟩ b:=fun b ⟨id,h1,h2⟩=>⟨id,hl id h1,h2⟩
 have ht:Trans φ ⟨o,us⟩ w φ ⟨o2,us2⟩ w:=by
  refine⟨fg.refl _ _,fun b hb=> .inl (hlb b hb),⟨hu,fun id _ hr=> ?_,fun id e' _ he=> ?_⟩⟩
  ·rcases ho id with e|e
   ·exact⟨by show(o id).cK=true;rw[<- e];exact hr,rfl⟩
   ·rw[show(⟨o2,us2⟩:Hp).o id= .no from e]at hr;cases hr
  ·rcases ho id with e|e
   ·exact⟨e',by show(o id).cJ=some e';rw[<- e];exact he,Nat.le_refl _,fun _=>rfl⟩
   ·rw[show(⟨o2,us2⟩:Hp).o id= .no from e]at he;cases he
 refine⟨⟨fun id=> ?_,fun id hn=> ?_,fun i j b hi hj=>hH.apart i j b (hl i hi) (hl j hj),fun b hb=>hH.ours b (hlb b hb),hH.B9⟩,ht⟩
 ·rcases ho id with e|e
  ·exact(hH.ok id).mono ht e rfl fun _ _ _=>rfl
  ·unfold bf;rw[show(⟨o2,us2⟩:Hp).o id= .no from e];trivial
 ·rcases ho id with e|e
  ·exact e.trans (hH.fresh id fun h=>hn (hu id h))
  ·exact e
def sv(ds:List Nat)(wl:List Nat)(N:Nat)(s:S):S:=
 ⟨fun t=>if ds.contains t=true then .aa else s.env t,fun id=>if wl.contains id=true then .no else s.o id,s.nx+N⟩
theorem Nj(hs:uC M cU H0 w0 n cx φ s us a w)(uS:∀id,id<s.nx->us id){N:Nat}(gu:∀id,us id->id<s.nx+N){o:Oper}{op:Op}(eJ:o.op=op){v:V}{ws rd:List Nat}(h:Dl P s op v ws rd)
 {s0:S} {ds wl:List Nat} (fT:∀t,ds.contains t=false->s.env t=s0.env t) (Yh:∀id,wl.contains id=false->s.o id=s0.o id) (Q9:∀id∈ws,wl.contains id=true) (gQ:s0.nx=s.nx)
 (hQ:∀aS w' val,cB M cU H0 w0 n cx aS (sv ds wl N s0) a w'->V.den (aA M aS (sv ds wl N s0).H) aS (sv ds wl N s0).H w' v val->Q (.panic [{v:=val,recovered:=false}]) a w'):o.wpIn (eK ro) k P a w next Q:=by
 obtain⟨c,f,g,first,cap,hc,fS,xN,h⟩:=h
 refine lE (fun c' qC=>by rw[eJ,hc]at qC;cases qC) ?_
 obtain⟨vals,bH,fY⟩:=zm (P:=P) hs eJ hc fS xN
 generalize first++c.args.toList.map s.ev++cap=all at h bH
 have fin:∀ (aS:Place) (w':World) (o':Nat->ab) (val:Value),(∀id,wl.contains id=false->o' id=s.o id)->aI M aS ⟨o',us⟩ w'->Trans φ ⟨s.o,us⟩ w aS ⟨o',us⟩ w'->V.den (aA M aS ⟨o',us⟩) aS ⟨o',us⟩ w' v val->Q (.panic [{v:=val,recovered:=false}]) a w':=by
  intro aS w' o' val Cl k1 k2 k3
  obtain⟨m1,m2⟩:=JB (o2:=(sv ds wl N s0).o) (us2:=fun id=>id<s0.nx+N) k1 (fun id=>by
   show(if wl.contains id=true then ab.no else s0.o id)=o' id\/_
   by_cases hw:wl.contains id=true
   ·right;simp only[sv];rw[if_pos hw]
   ·left;rw[if_neg hw,Cl id (by simpa using hw),Yh id (by simpa using hw)]) (fun id h=>by rw[gQ];exact gu id h)
  have ht:=hs.tr.trans (k2.trans m2)
  refine hQ aS w' val ⟨m1,ht,hs.size,hs.defers.mono (k2.trans m2),fun i=> ?_⟩ (V.bc m2 _ _ k3)
  show V.den _ _ _ _ (if ds.contains i=true then V.aa else s0.env i) _
  by_cases hd:ds.contains i=true
  ·rw[if_pos hd];trivial
  ·rw[if_neg hd, <- fT i (by simpa using hd)];exact V.bc (k2.trans m2) _ _ (hs.env i)
 rcases h with⟨dd,x,ah6,hP,qH,rfl,_,rfl⟩|⟨x,Δ,hH,rfl,rfl,pw⟩
 ·obtain⟨f1,f2,f3,f4,f5⟩:=dH hs.heap (V.bK all) (dv all _ bH)
  have yQ:=dT f1 all dd _ f3 ah6 (V.bg f2 _ _ bH)
  have dz:=hP.2 _ w vals (fun b hb=>hb.elim (f1.B9 b) fun hl=>(f1.ours b hl).2) yQ
  rw[fY hP.1]
  refine⟨fun hd=>by simp[eK]at hd,dC (dz.mono fun e w' ⟨hk,ho⟩=> ?_)⟩
  cases e with
  |returned val=>exact ho.elim
  |outgrown=>exact ho.elim
  |panicked ch=>
   obtain⟨k1,k2⟩:=iu hs.heap hk
   have ho:=R.A0 (out:= .bW x) (B':=aA M φ ⟨s.o,us⟩) qH ho
   obtain⟨val,rfl,hd⟩:=ho
   exact fin φ w' s.o val (fun _ _=>rfl) k1 k2 hd
 ·have dz:=hH.2 s.o us M φ w vals (fun id aG=>⟨rfl,uS id (pw id aG)⟩) hs.heap bH
  rw[fY hH.1]
  refine⟨fun hd=>by simp[eK]at hd,dC (dz.mono fun e w' ⟨aS,k1,k2,ho⟩=> ?_)⟩
  cases e with
  |returned val=>exact ho.elim
  |outgrown=>exact ho.elim
  |panicked ch=>
   obtain⟨val,rfl,hd⟩:=ho
   exact fin aS w' _ val (fun id aG=>Bc fun y hy e=>by
    have:=Q9 y.1 (List.mem_map_of_mem hy)
    rw[e,aG]at this;cases this) k1 k2 hd
theorem gI(fh:∀i,V.den (aA M φ ⟨s.o,us⟩) φ ⟨s.o,us⟩ w (s.env i) (a.tmps.getD i undef)){ops:Array Oper}{o:Oper}{gd:Option (Nat×Bool)}{b:Bool}
 (hg:match o.guard with|none=>gd=none|some (j,want)=>∃d,tD ops j=some d/\gd=some (d,want)) (h:eO s gd b):Region.wanted o (yielded ops a.tmps)=b:=by
 unfold Region.wanted
 split at hg
 ·rename_i hn;simp only[hn];subst hg;exact h.symm
 ·rename_i j want hn
  simp only[hn]
  obtain⟨d,hd,rfl⟩:=hg
  unfold tD at hd
  unfold yielded
  simp only[hd,Option.bind_some]
  simp only[eO]at h
  have he:=fh d
  split at h
  ·rename_i c hv
   rw[hv]at he
   simp only[V.den,D.den]at he
   have:a.tmps[d]? =some (.bool c):=by
    rw[Array.getD_eq_getD_getElem?]at he
    cases hx:a.tmps[d]? with
    |none=>rw[hx]at he;simp[undef]at he
    |some x=>rw[hx]at he;simp at he;rw[he]
   simp only[this,h]
   cases c<;>cases want<;>rfl
  ·rename_i hv
   rw[hv]at he
   obtain⟨arr,dK,hn⟩:=he
   have:∀c,a.tmps[d]? ≠some (.bool c):=by
    exact Ut
   subst h
   cases hx:a.tmps[d]? with
   |none=>rfl
   |some x=>cases x<;>first|(exact absurd hx (this _))|rfl
  ·exact h.elim
theorem gJ{s s':S}{gd:Option (Nat×Bool)}{b:Bool}(h:∀d want,gd=some (d,want)->s'.env d=s.env d)(hg:eO s gd b):eO s' gd b:=by
 unfold eO at*
 cases gd with
 |none=>exact hg
 |some p=>obtain⟨d,want⟩:=p;simp only at hg|-;rw[h d want rfl];exact hg
theorem Dm{s s':S}{x:Operand}(h:∀t,x= .tmp t->s'.env t=s.env t):s'.ev x=s.ev x:=by
 cases x<;>simp only[S.ev]
 exact h _ rfl
theorem vU{s s':S}{op:Op}{c:Call}{f:Operand}{g:FuncId}{first cap:List V}(hv:∀x∈op.operands,s'.ev x=s.ev x)(hc:op= .call c)(fS:c.callee= .value f)(xN:s.ev f= .func (.func g) first cap):
 s'.ev f= .func (.func g) first cap/\c.args.toList.map s'.ev=c.args.toList.map s.ev:=by
 subst hc
 exact⟨(hv f (by simp only[Op.operands,Call.operands,fS];exact Array.mem_append.2 (.inl ao))).trans xN,
  List.map_congr_left fun x hx=>hv x acO⟩
theorem Hy.frame {g:FuncId}{args:List V}{rd:List Nat}{o o':Nat->ab}{out:R}{Δ:List (Nat×ab)}(ho:∀id∈rd,o' id=o id)(h:Hy P g args rd o out Δ):Hy P g args rd o' out Δ:=
 ⟨h.1,fun o2 us M φ w vals h1 h2 h3=>h.2 o2 us M φ w vals (fun id aG=>⟨(h1 id aG).1.trans (ho id aG),(h1 id aG).2⟩) h2 h3⟩
theorem zi.frame {g:FuncId}{args:List V}{rd:List Nat}{o o':Nat->ab}{fr:Nat}{v:V}{Δ:List (Nat×ab)}(ho:∀id∈rd,o' id=o id)(h:zi P g args rd o fr v Δ):zi P g args rd o' fr v Δ:=
 ⟨h.1,fun o2 us M φ w vals h1 h2 h3=>h.2 o2 us M φ w vals (fun id aG=>⟨(h1 id aG).1.trans (ho id aG),(h1 id aG).2⟩) h2 h3⟩
theorem Cy{s s':S}{fr:Nat}{op:Op}{v:V}{Δ:List (Nat×ab)}{rd:List Nat}(hv:∀x∈op.operands,s'.ev x=s.ev x)(ho:∀id∈rd,s'.o id=s.o id)(uS:s'.nx=s.nx)(h:zj P s fr op v Δ rd):∃uO,zj P s' fr op v Δ uO:=by
 rcases h with⟨⟨uO,h⟩,pw⟩|⟨c,f,g,first,cap,rfl,fS,xN,h⟩
 ·exact⟨_, .inl ⟨⟨uO,by rw[FN op hv (by rw[<- pw];exact ho)];exact h⟩,rfl⟩⟩
 ·obtain⟨hf,hm⟩:=vU hv rfl fS xN
  rcases h with⟨ds,rs,fT,hP,uu,pw,hΔ⟩|⟨rs,hH,uu,pw⟩|⟨ds,fT,hP,pw,hΔ⟩|⟨hH,pw⟩
  ·have hr:∀id∈V.aO (first++c.args.toList.map s.ev++cap),s'.o id=s.o id:=fun id aG=>ho id LN
   refine⟨_, .inr ⟨c,f,g,first,cap,rfl,fS,hf, .inl ⟨ds,rs,by rw[hm,jn _ hr];exact fT,hP,uu,rfl, ?_⟩⟩⟩
   exact Ui
  ·exact⟨rd, .inr ⟨c,f,g,first,cap,rfl,fS,hf, .inr (.inl ⟨rs,by rw[hm];exact hH.frame ho,uu,by rw[uS];exact pw⟩)⟩⟩
  ·have hr:∀id∈V.aO (first++c.args.toList.map s.ev++cap),s'.o id=s.o id:=fun id aG=>ho id LN
   refine⟨_, .inr ⟨c,f,g,first,cap,rfl,fS,hf, .inr (.inr (.inl ⟨ds,by rw[hm,jn _ hr];exact fT,hP,rfl, ?_⟩))⟩⟩
   exact Ui
  ·exact⟨rd, .inr ⟨c,f,g,first,cap,rfl,fS,hf, .inr (.inr (.inr ⟨by rw[hm];exact hH.frame ho,by rw[uS];exact pw⟩))⟩⟩
theorem Dn{s s':S}{op:Op}{v:V}{ws rd:List Nat}(hv:∀x∈op.operands,s'.ev x=s.ev x)(ho:∀id∈rd,s'.o id=s.o id)(uS:s'.nx=s.nx)(h:Dl P s op v ws rd):Dl P s' op v ws rd:=by
 obtain⟨c,f,g,first,cap,rfl,fS,xN,h⟩:=h
 obtain⟨hf,hm⟩:=vU hv rfl fS xN
 refine⟨c,f,g,first,cap,rfl,fS,hf, ?_⟩
 rw[hm]
 rcases h with⟨ds,x,fT,hP,qH,uu,pw,Q9⟩|⟨x,Δ,hH,uu,Q9,pw⟩
 ·have hr:∀id∈V.aO (first++c.args.toList.map s.ev++cap),s'.o id=s.o id:=fun id aG=>ho id LN
  exact .inl ⟨ds,x,by rw[jn _ hr];exact fT,hP,qH,uu,by rw[pw];simp only[pB,fS,xN,hf,hm],Q9⟩
 ·exact .inr ⟨x,Δ,hH.frame ho,uu,Q9,by rw[uS];exact pw⟩
theorem vV{ops:Array Oper}:∀ (l:List Oper) (l':List cq) (i:Nat) (o:Oper),lZ n ops l=some l'->l[i]? =some o->MA n ops o=some (cj l' i)
 |[],_,_,_,_,h=>by simp at h
 |x::l,l',i,o,h,hi=>by
  simp only[lZ]at h
  split at h
  ·rename_i y ys hy hys
   injection h with h;subst h
   cases i with
   |zero=>simp at hi;subst hi;exact hy
   |succ i=>exact vV l ys i o hys (by simpa using hi)
  ·cases h
theorem zp{ops:Array Oper}{o:Oper}{x:cq}(h:MA n ops o=some x):x.op=o.op/\x.dst=o.dst/\iJ n o.dst/\
 (match o.guard with|none=>x.gd=none|some (j,want)=>∃d,tD ops j=some d/\x.gd=some (d,want)):=by
 unfold MA at h
 split at h
 ·rename_i hd
  have dq:iJ n o.dst:=by
   unfold Ff at hd;unfold iJ
   split at hd<;>simp_all
  cases hg:o.guard with
  |none=>simp only[hg]at h;injection h with h;subst h;exact⟨rfl,rfl,dq,rfl⟩
  |some p=>
   obtain⟨j,want⟩:=p
   simp only[hg]at h
   cases UQ:tD ops j with
   |none=>simp[UQ]at h
   |some d=>simp only[UQ]at h;injection h with h;subst h;exact⟨rfl,rfl,dq,d,UQ,rfl⟩
 ·cases h
theorem qf{ops:Array Oper}{aB:Array Bool}(uR:∀k,k<ops.size->∀j∈bT ops k,j<k)(hs:aB.size=ops.size)(hr:Region.ready .any ops aB=[]):∀k,k<ops.size->aB.getD k false=true:=by
 intro k
 induction k using Nat.strongRecOn with
 |_ k ih=>
  intro hk
  cases hl:aB.getD k false with
  |true=>rfl
  |false=>
   have:k∈Region.ready .any ops aB:=by
    refine mem_ready.2 ⟨?_,ops[k],by simp[hk],fun e he hb=> ?_⟩
    ·simp only[Array.getD_eq_getD_getElem?]at hl|-
     rw[Array.getElem?_eq_getElem (by omega)]at hl|-
     simpa using hl
    ·have hm:e.on∈bT ops k:=by
      simp only[bT,Array.getElem?_eq_getElem hk,List.mem_map,List.mem_filter]
      exact⟨e,⟨Array.mem_toList_iff.2 he,hb⟩,rfl⟩
     exact ih _ (uR k hk _ hm) (by have:=uR k hk _ hm;omega)
   rw[hr]at this;cases this
theorem Dp(hs:cB M cU H0 w0 n cx φ s a w):cB M cU H0 w0 n cx φ s a {w with drawn:=w.drawn+1}:=by
 obtain⟨k1,k2⟩:=iu (w':={w with drawn:=w.drawn+1}) hs.heap ⟨rfl,rfl,rfl,Nat.le_refl _,fun _ _ _=>rfl⟩
 exact⟨k1,hs.tr.trans k2,hs.size,hs.defers.mono k2,fun i=>V.bc k2 _ _ (hs.env i)⟩
theorem lL{oc:Nat->cq}{ac:Nat->gh}{E:Nat->Bool}:∀k,(fA oc ac E s k).nx=s.nx
 |0=>rfl
 |k+1=>by
  simp only[fA]
  split
  ·cases ac k<;>exact lL k
  ·exact lL k
theorem HB{oc:Nat->cq}{ac:Nat->gh}{E:Nat->Bool}{t:Nat}:∀k,(∀j,j<k->(oc j).dst≠some t)->(fA oc ac E s k).env t=s.env t
 |0,_=>rfl
 |k+1,h=>by
  have ih:=HB (oc:=oc) (ac:=ac) (E:=E) (t:=t) k fun j hj=>h j af
  simp only[fA]
  split
  ·rw[lQ fun d hd e=>h k (by omega) (by rw[hd,e])];exact ih
  ·exact ih
theorem UT{oc:Nat->cq}{ac:Nat->gh}{E:Nat->Bool}{id:Nat}:∀k,(∀j,j<k->id∉lP (ac j))->(fA oc ac E s k).o id=s.o id
 |0,_=>rfl
 |k+1,h=>by
  have ih:=UT (oc:=oc) (ac:=ac) (E:=E) (id:=id) k fun j hj=>h j af
  simp only[fA]
  split
  ·rw[nW (h k (by omega))];exact ih
  ·exact ih
theorem Dq(bI:P.follows .mixedOrders=true){ops:Array Oper}{l:List cq}{id:Nat}(sX:lZ n ops ops.toList=some l)(uR:∀k,k<ops.size->∀j∈bT ops k,j<k){ac:Nat->gh}{dl wl:List Nat}
 (hs:cB M cU H0 w0 n cx φ s a w) (Yi:∀i,i<ops.size->US P (fA (cj l) ac (fun _=>true) s i) (s.nx+i) (cj l i) (ac i))
 (JC:∀i,i<ops.size->ac i= .fk->∃j∈bT ops i,(ac j).ok=false)
 {po:Nat->Nat->Prop} (HC:∀E:Nat->Bool,(∀k,k<ops.size->E k=true->∀j∈bT ops k,E j=true)->∀k,k<ops.size->(∀j∈bT ops k,E j=true)->∀j,po k j->E j=true) (Dr:∀k,k<ops.size->∀j,po k j->j<k)
 (hc:∀i j,i<j->j<ops.size-> ¬po j i->Compat (cj l) ac (fun i=>x8 (ac i)) i j)
 (hdl:∀i,i<ops.size->∀t,(cj l i).dst=some t->dl.contains t=true) (Yh:∀i,i<ops.size->∀id∈lP (ac i),wl.contains id=true)
 (Q9:∀i v ws rd,i<ops.size->ac i= .bW v ws rd->∀id∈ws,wl.contains id=true)
 (hQ:(∀i,i<ops.size->(ac i).ok=true)->∀φ a w,cB M cU H0 w0 n cx φ ⟨(fA (cj l) ac (fun _=>true) s ops.size).env,(fA (cj l) ac (fun _=>true) s ops.size).o,s.nx+ops.size⟩ a w->Q .normal a w)
 (hX:∀i v ws rd,i<ops.size->ac i= .bW v ws rd->∀φ a w val,cB M cU H0 w0 n cx φ (sv dl wl ops.size s) a w->V.den (aA M φ (sv dl wl ops.size s).H) φ (sv dl wl ops.size s).H w v val->Q (.panic [{v:=val,recovered:=false}]) a w):
 (Code.region id ops true).wpIn (eK ro) k P Q a w:=by
 refine wpIn_region_any bI ?_
 have hs:=Dp hs
 generalize ({w with drawn:=w.drawn+1}:World)=w at hs
 let N:=ops.size
 let Ef (aB:Array Bool) (k:Nat):Bool:=aB.getD k false
 let G8 (aB:Array Bool) (j:Nat):Prop:=j<s.nx\/∃k,k<N/\Ef aB k=true/\j=s.nx+k
 have key:∀ (fuel:Nat) (aB:Array Bool) (φ:Place) (a:Act) (w:World),aB.size=N->aB.count true+fuel=N->(∀k,k<N->Ef aB k=true->∀j∈bT ops k,Ef aB j=true)->(∀k,k<N->Ef aB k=true->(ac k).ok=true)->
  uC M cU H0 w0 n cx φ (fA (cj l) ac (Ef aB) s N) (G8 aB) a w->wpAnyIn (eK ro) k P .any ops Q fuel aB a w:=by
  have fin:∀ (aB:Array Bool) (φ:Place) (a:Act) (w:World),(∀k,k<N->Ef aB k=true)->(∀k,k<N->Ef aB k=true->(ac k).ok=true)->uC M cU H0 w0 n cx φ (fA (cj l) ac (Ef aB) s N) (G8 aB) a w->Q .normal a w:=by
   intro aB φ a w bH FU hu
   have e:∀k,k<=N->fA (cj l) ac (Ef aB) s k=fA (cj l) ac (fun _=>true) s k:=by
    intro k
    induction k with
    |zero=>intro _;rfl
    |succ k ih=>intro hk;simp only[fA,bH k (by omega),ih (by omega)]
   rw[e N (Nat.le_refl _)]at hu
   obtain⟨k1,k2⟩:=ly (us':=fun id=>id<s.nx+N) hu.heap (fun id h=>by
    show id<s.nx+N
    rcases h with h|⟨k,hk,_,rfl⟩<;>omega)
   exact hQ (fun i hi=>FU i hi (bH i hi)) φ a w ⟨k1,hu.tr.trans k2,hu.size,hu.defers.mono k2,fun i=>V.bc k2 _ _ (hu.env i)⟩
  intro fuel
  induction fuel with
  |zero=>
   intro aB φ a w eo JD p8 FU hu
   have bH:∀k,k<N->Ef aB k=true:=by
    intro k hk
    have h1:aB.count true=aB.size:=af
    rw[Array.count_eq_size]at h1
    have:=h1 aB[k] (Array.getElem_mem af)
    simp only[Ef,Array.getD_eq_getD_getElem?]
    rw[Array.getElem?_eq_getElem (by omega)]
    simpa using this.symm
   refine⟨?_,fin aB φ a w bH FU hu⟩
   rw[List.eq_nil_iff_forall_not_mem]
   intro k hk
   obtain⟨h1,o,h2,_⟩:=mem_ready.1 hk
   have hkN:k<N:=(Array.getElem?_eq_some_iff.1 h2).1
   have:=bH k hkN
   simp only[Ef,Array.getD_eq_getD_getElem?]at this h1
   rw[Array.getElem?_eq_getElem (by omega)]at this h1
   simp only[Option.getD_some]at this h1
   rw[this]at h1;cases h1
  |succ fuel ih=>
   intro aB φ a w eo JD p8 FU hu
   refine⟨fun hr=>fin aB φ a w (qf uR eo hr) FU hu,fun i hi=> ?_⟩
   obtain⟨h1,o,h2,h3⟩:=mem_ready.1 hi
   have uD:i<N:=(Array.getElem?_eq_some_iff.1 h2).1
   have nu:Ef aB i=false:=by
    simp only[Ef,Array.getD_eq_getD_getElem?]at h1|-
    rw[Array.getElem?_eq_getElem (by omega)]at h1|-
    simpa using h1
   have Ni:∀j∈bT ops i,Ef aB j=true:=by
    exact XS
   have Nk:Bg N po (Ef aB):=fun k hk im=>HC _ p8 k hk (p8 k hk im)
   obtain⟨ag1,ag2⟩:=agree (s:=s) Dr hc Nk uD nu (HC _ p8 i uD Ni)
   obtain⟨g1,g2,g3,g4⟩:=zp (vV _ _ i o sX qD)
   have dF: ¬G8 aB (s.nx+i):=by
    rintro(h|⟨k,_,hk,he⟩)
    ·omega
    ·have:k=i:=af
     subst this;rw[nu]at hk;cases hk
   have FT:∀k,Ef (aB.setIfInBounds i true) k=(Ef aB k||k==i):=by
    intro k
    simp only[Ef,Array.getD_eq_getD_getElem?]
    by_cases e:k=i
    ·subst e;simp[eo,uD]
    ·rw[Array.getElem?_setIfInBounds_ne (Ne.symm e)]
     have:(k==i)=false:=by simpa using e
     simp[this]
   have Yj:=insert (s:=s) hc Nk uD nu FT
   have Yk:∀k,k<N->Ef (aB.setIfInBounds i true) k=true->∀j∈bT ops k,Ef (aB.setIfInBounds i true) j=true:=by
    intro k hk im j hj
    rw[FT]at im|-
    by_cases e:k=i
    ·subst e;simp[Ni j hj]
    ·have:(k==i)=false:=by simpa using e
     rw[this,Bool.or_false]at im
     simp[p8 k hk im j hj]
   have Nl:(aB.setIfInBounds i true).count true+fuel=N:=by
    have cD:i<aB.size:=af
    have e1:aB.setIfInBounds i true=aB.set i true cD:=by simp[Array.setIfInBounds,cD]
    have e2:aB[i]=false:=by
     have:=nu
     simp only[Ef,Array.getD_eq_getD_getElem?]at this
     rw[Array.getElem?_eq_getElem cD]at this
     simpa using this
    rw[e1,Array.count_set cD,e2]
    simp
    omega
   have lX:(ac i).ok=true->∀aS a' w',uC M cU H0 w0 n cx aS (xH o.dst (ac i) (fA (cj l) ac (Ef aB) s N)) (fun id=>G8 aB id\/id=s.nx+i) a' w'->wpAnyIn (eK ro) k P .any ops Q fuel (aB.setIfInBounds i true) a' w':=by
    intro adG aS a' w' Cn
    refine ih _ aS a' w' (by simp[eo]) Nl Yk (fun k hk im=> ?_) ?_
    ·rw[FT]at im
     by_cases e:k=i
     ·subst e;exact adG
     ·have:(k==i)=false:=by simpa using e
      rw[this,Bool.or_false]at im
      exact FU k hk im
    rw[Yj,g2]
    obtain⟨k1,k2⟩:=ly (us':=G8 (aB.setIfInBounds i true)) Cn.heap (fun id h=>by
     rcases h with(h|⟨k,hk,im,rfl⟩)|rfl
     ·exact .inl h
     ·exact .inr ⟨k,hk,by rw[FT,im];rfl,rfl⟩
     ·exact .inr ⟨i,uD,by rw[FT];simp,rfl⟩)
    exact acQ
   have JE:∀d want,(cj l i).gd=some (d,want)->(fA (cj l) ac (Ef aB) s N).env d=(fA (cj l) ac (fun _=>true) s i).env d:=fun d want hd=>ag1 d (by simp[fU,tmpsOf,hd])
   have bw:=Yi i uD
   have Mr:∀x∈(cj l i).op.operands,(fA (cj l) ac (Ef aB) s N).ev x=(fA (cj l) ac (fun _=>true) s i).ev x:=fun x hx=>Dm fun t ht=>ag1 t (by
    subst ht
    simp only[fU,tmpsOf,List.mem_append,List.mem_filterMap]
    exact .inl (.inl ⟨.tmp t,Array.mem_toList_iff.2 hx,rfl⟩))
   have XY:(fA (cj l) ac (Ef aB) s N).nx=(fA (cj l) ac (fun _=>true) s i).nx:=(lL N).trans (lL i).symm
   unfold wpOpIn
   simp only[h2]
   cases xD:ac i with
   |skip=>
    rw[xD]at bw lX
    have hw:=gI hu.env g4 (gJ JE bw)
    simp only[hw,Bool.false_eq_true,if_false]
    refine⟨fun _ _=>trivial,lX rfl φ _ w ?_⟩
    have:=kF (v:= .cn []) (val:=undef) hu hu.heap (Trans.refl _ _ _) ⟨#[],rfl,rfl⟩ (dst:=o.dst) g3 rfl (us':=fun id=>G8 aB id\/id=s.nx+i) (fun id h=> .inl h)
    exact this
   |val v Δ rd=>
    rw[xD]at bw lX
    have hw:=gI hu.env g4 (gJ JE bw.1)
    exact TE
   |bW v ws rd=>
    rw[xD]at bw
    have hw:=gI hu.env g4 (gJ JE bw.1)
    simp only[hw,if_true]
    have ny:=Dn Mr (fun id aG=>ag2 id (by rw[xD];exact aG)) XY bw.2
    refine Nj (s0:=s) (ds:=dl) (wl:=wl) (N:=N) hu (fun id h=> .inl (by rw[lL]at h;exact h)) (fun id h=> ?_) g1.symm ny (fun t ht=> ?_) (fun id aG=> ?_) (Q9 i v ws rd uD xD) (lL N).symm (fun aS w' val h1 h2=>hX i v ws rd uD xD aS a w' val h1 h2)
    ·rw[lL]
     rcases h with h|⟨k,hk,_,rfl⟩<;>omega
    ·refine HB N fun j hj e=> ?_
     have:=hdl j hj t e
     rw[ht]at this;cases this
    ·refine UT N fun j hj hm=> ?_
     have:=Yh j hj id hm
     rw[aG]at this;cases this
   |fk=>
    exfalso
    obtain⟨j,hj,Yl⟩:=JC i uD xD
    have:=FU j (Nat.lt_trans (uR i uD j hj) uD) (Ni j hj)
    rw[Yl]at this;cases this
 refine key ops.size _ φ a w (by simp[N]) (by simp[N,Array.count_replicate]) (fun k hk im=> ?_) (fun k hk im=> ?_) ?_
 ·exact QF
 ·exact QF
 ·have e:∀k,fA (cj l) ac (Ef (Array.replicate ops.size false)) s k=s:=by
   intro k
   induction k with
   |zero=>rfl
   |succ k ih=>
    have:Ef (Array.replicate ops.size false) k=false:=by
     exact Ud
    simp only[fA,this,ih]
    rfl
  exact TK
end
end
section
section
variable {P:Program}{M:Nat->Prop}{φ cU:Place}{H0:Hp}{w w' w0:World}{n:Nat}{s:S}{us:Nat->Prop}{a:Act}{cx:Cx}{ro:Option Nat}{k:Nat}
variable {Q:Exit->Act->World->Prop}
theorem JF{ops:Array Oper}{po:Nat->Nat->Prop}{m:Nat}{X:V->S->Prop}{K:S->Prop}
 (uR:∀k,k<ops.size->∀j∈bT ops k,j<k)
 (HC:∀E:Nat->Bool,(∀k,k<ops.size->E k=true->∀j∈bT ops k,E j=true)->∀k,k<ops.size->(∀j∈bT ops k,E j=true)->∀j,po k j->E j=true)
 (HD:∀k,m<=k->k<ops.size->∀j,j<k->po k j)
 (hK:∀s φ a w,K s->cB M cU H0 w0 n cx φ s a w->Q .normal a w)
 (hX:∀v s' aS a' w' val,X v s'->cB M cU H0 w0 n cx aS s' a' w'->V.den (aA M aS s'.H) aS s'.H w' v val->Q (.panic [{v:=val,recovered:=false}]) a' w'):
 ∀ (d t:Nat) (s:S) (φ:Place) (aB:Array Bool) (a:Act) (w:World),t+d=ops.size->aB.size=ops.size->(∀k,k<ops.size->aB.getD k false=decide (k<t))->m<=t->
   cB M cU H0 w0 n cx φ s a w->AY P n ops X K (ops.toList.drop t) s->wpAnyIn (eK ro) k P .any ops Q d aB a w:=by
 intro d
 induction d with
 |zero=>
  intro t s φ aB a w ht eo hl Lb hs h
  have e:t=ops.size:=af
  subst e
  refine⟨?_, ?_⟩
  ·rw[List.eq_nil_iff_forall_not_mem]
   intro j hj
   obtain⟨h1,o,h2,_⟩:=mem_ready.1 hj
   have hjN:j<ops.size:=(Array.getElem?_eq_some_iff.1 h2).1
   have:=hl j hjN
   simp only[Array.getD_eq_getD_getElem?]at this h1
   rw[Array.getElem?_eq_getElem (by omega)]at this h1
   simp only[Option.getD_some]at this h1
   rw[h1]at this
   simp[hjN]at this
  ·rw[List.drop_eq_nil_of_le (by simp)]at h
   exact hK s φ a w h hs
 |succ d ih=>
  intro t s φ aB a w ht eo hl Lb hs h
  have htN:t<ops.size:=af
  refine⟨fun hr=> ?_,fun i hi=> ?_⟩
  ·have:=qf uR eo hr t htN
   rw[hl t htN]at this
   simp at this
  ·obtain⟨h1,o,h2,h3⟩:=mem_ready.1 hi
   have uD:i<ops.size:=(Array.getElem?_eq_some_iff.1 h2).1
   have nu:aB.getD i false=false:=by
    simp only[Array.getD_eq_getD_getElem?]at h1|-
    rw[Array.getElem?_eq_getElem (by omega)]at h1|-
    simpa using h1
   have hit:t<=i:=by
    have:=hl i uD
    rw[nu]at this
    have:=of_decide_eq_false this.symm
    omega
   have Ni:∀j∈bT ops i,aB.getD j false=true:=by
    exact XS
   have p8:∀k,k<ops.size->aB.getD k false=true->∀j∈bT ops k,aB.getD j false=true:=by
    intro k hk im j hj
    have hjk:=uR k hk j hj
    rw[hl k hk]at im
    rw[hl j (by omega)]
    have:=of_decide_eq_true im
    exact decide_eq_true af
   have hie:i=t:=by
    rcases Nat.eq_or_lt_of_le hit with e|e
    ·exact e.symm
    ·have:=HC (fun k=>aB.getD k false) p8 i uD Ni t (HD i af uD t e)
     rw[hl t htN]at this
     simp at this
   subst hie
   have Ds:ops.toList.drop i=o::ops.toList.drop (i+1):=by
    have Ya:i<ops.toList.length:=by simpa using uD
    rw[List.drop_eq_getElem_cons Ya]
    have:ops.toList[i]=o:=by
     have:=(Array.getElem?_eq_some_iff.1 h2).2
     simpa using this
    rw[this]
   rw[Ds]at h
   obtain⟨g1,g2⟩:=ri hs h
   have jZ:∀k,k<ops.size->(aB.setIfInBounds i true).getD k false=decide (k<i+1):=by
    intro k hk
    simp only[Array.getD_eq_getD_getElem?]
    by_cases e:k=i
    ·subst e;simp[eo,uD]
    ·rw[Array.getElem?_setIfInBounds_ne (Ne.symm e)]
     have:=hl k hk
     simp only[Array.getD_eq_getD_getElem?]at this
     rw[this]
     exact decide_eq_decide.2 af
   have lX:∀s' aS a' w',AY P n ops X K (ops.toList.drop (i+1)) s'->cB M cU H0 w0 n cx aS s' a' w'->wpAnyIn (eK ro) k P .any ops Q d (aB.setIfInBounds i true) a' w':=
    fun s' aS a' w' hk jC=>ih (i+1) s' aS _ a' w' af (by simp[eo]) jZ af jC hk
   unfold wpOpIn
   simp only[h2]
   split
   ·rename_i hw
    exact za hs (g1 hw) (fun s' aS a' w' hk jC=>lX s' aS a' w' hk jC) (fun v s' aS w' val hx jC hd=>hX v s' aS a w' val hx jC hd)
   ·rename_i hw
    obtain⟨dq,h3⟩:=g2 (by simpa using hw)
    exact⟨fun _ _=>trivial,lX _ _ _ _ h3 (C9 hs dq)⟩
theorem FV(bI:P.follows .mixedOrders=true){ops:Array Oper}{l:List cq}{id:Nat}(sX:lZ n ops ops.toList=some l)(uR:∀k,k<ops.size->∀j∈bT ops k,j<k){ac:Nat->gh}{m:Nat}(hm:m<=ops.size){X:V->S->Prop}{K:S->Prop}
 (hs:cB M cU H0 w0 n cx φ s a w) (Yi:∀i,i<m->US P (fA (cj l) ac (fun _=>true) s i) (s.nx+i) (cj l i) (ac i))
 (adH:∀i,i<m->(ac i).ok=true)
 {po:Nat->Nat->Prop} (HC:∀E:Nat->Bool,(∀k,k<ops.size->E k=true->∀j∈bT ops k,E j=true)->∀k,k<ops.size->(∀j∈bT ops k,E j=true)->∀j,po k j->E j=true) (Dr:∀k,k<ops.size->∀j,po k j->j<k)
 (hc:∀i j,i<j->j<m-> ¬po j i->Compat (cj l) ac (fun i=>x8 (ac i)) i j)
 (HD:∀k,m<=k->k<ops.size->∀j,j<k->po k j)
 (db:AY P n ops X K (ops.toList.drop m) ⟨(fA (cj l) ac (fun _=>true) s m).env,(fA (cj l) ac (fun _=>true) s m).o,s.nx+m⟩)
 (hK:∀s φ a w,K s->cB M cU H0 w0 n cx φ s a w->Q .normal a w)
 (hX:∀v s' aS a' w' val,X v s'->cB M cU H0 w0 n cx aS s' a' w'->V.den (aA M aS s'.H) aS s'.H w' v val->Q (.panic [{v:=val,recovered:=false}]) a' w'):
 (Code.region id ops true).wpIn (eK ro) k P Q a w:=by
 refine wpIn_region_any bI ?_
 have hs:=Dp hs
 generalize ({w with drawn:=w.drawn+1}:World)=w at hs
 let N:=m
 let Ef (aB:Array Bool) (k:Nat):Bool:=aB.getD k false
 let G8 (aB:Array Bool) (j:Nat):Prop:=j<s.nx\/∃k,k<N/\Ef aB k=true/\j=s.nx+k
 have key:∀ (fuel:Nat) (aB:Array Bool) (φ:Place) (a:Act) (w:World),aB.size=ops.size->aB.count true+fuel=ops.size->(∀k,k<ops.size->Ef aB k=true->∀j∈bT ops k,Ef aB j=true)->(∀k,k<ops.size->Ef aB k=true->k<m)->
  uC M cU H0 w0 n cx φ (fA (cj l) ac (Ef aB) s N) (G8 aB) a w->wpAnyIn (eK ro) k P .any ops Q fuel aB a w:=by
  have fin:∀ (fuel:Nat) (aB:Array Bool) (φ:Place) (a:Act) (w:World),aB.size=ops.size->aB.count true+fuel=ops.size->(∀k,k<ops.size->Ef aB k=true->k<m)->(∀k,k<N->Ef aB k=true)->uC M cU H0 w0 n cx φ (fA (cj l) ac (Ef aB) s N) (G8 aB) a w->wpAnyIn (eK ro) k P .any ops Q fuel aB a w:=by
   intro fuel aB φ a w eo JD cD bH hu
   have e:∀k,k<=N->fA (cj l) ac (Ef aB) s k=fA (cj l) ac (fun _=>true) s k:=by
    intro k
    induction k with
    |zero=>intro _;rfl
    |succ k ih=>intro hk;simp only[fA,bH k (by omega),ih (by omega)]
   rw[e N (Nat.le_refl _)]at hu
   obtain⟨k1,k2⟩:=ly (us':=fun id=>id<s.nx+N) hu.heap (fun id h=>by
    show id<s.nx+N
    rcases h with h|⟨k,hk,_,rfl⟩<;>omega)
   have hlv:∀k,k<ops.size->aB.getD k false=decide (k<m):=by
    intro k hk
    by_cases h:k<m
    ·rw[decide_eq_true h];exact bH k h
    ·rw[decide_eq_false h]
     cases hb:aB.getD k false with
     |false=>rfl
     |true=>exact absurd (cD k hk hb) h
   have hcm:aB.count true=m:=by
    have e1:aB=Array.ofFn (n:=ops.size) fun k=>decide (k.1<m):=by
     apply Array.ext
     ·simp[eo]
     ·intro k h1 h2
      have:=hlv k af
      simp only[Array.getD_eq_getD_getElem?]at this
      rw[Array.getElem?_eq_getElem h1]at this
      simpa using this
    have e2:aB.toList=List.replicate m true++List.replicate (ops.size - m) false:=by
     apply List.ext_getElem?
     intro k
     by_cases hk:k<ops.size
     ·have h1:aB.toList[k]? =some (decide (k<m)):=by
       have:=hlv k hk
       simp only[Array.getD_eq_getD_getElem?]at this
       rw[Array.getElem?_eq_getElem (by omega)]at this
       simp only[Option.getD_some]at this
       rw[Array.getElem?_toList,Array.getElem?_eq_getElem (by omega),this]
      rw[h1]
      by_cases h:k<m
      ·rw[List.getElem?_append_left (by simpa using h)]
       simp[h]
      ·rw[List.getElem?_append_right (by simpa using(by omega:m<=k))]
       rw[List.length_replicate,List.getElem?_replicate,if_pos (by omega),decide_eq_false h]
     ·rw[List.getElem?_eq_none (by simp[eo];omega),List.getElem?_eq_none (by simp;omega)]
    rw[<- Array.count_toList,e2,List.count_append,List.count_replicate_self,List.count_replicate]
    simp
   exact JF uR HC HD hK hX fuel m ⟨(fA (cj l) ac (fun _=>true) s m).env,(fA (cj l) ac (fun _=>true) s m).o,s.nx+m⟩ φ aB a w af eo hlv (Nat.le_refl _) ⟨k1,hu.tr.trans k2,hu.size,hu.defers.mono k2,fun i=>V.bc k2 _ _ (hu.env i)⟩ db
  intro fuel
  induction fuel with
  |zero=>
   intro aB φ a w eo JD p8 cD hu
   have bH:∀k,k<ops.size->Ef aB k=true:=by
    intro k hk
    have h1:aB.count true=aB.size:=af
    rw[Array.count_eq_size]at h1
    have:=h1 aB[k] (Array.getElem_mem af)
    simp only[Ef,Array.getD_eq_getD_getElem?]
    rw[Array.getElem?_eq_getElem (by omega)]
    simpa using this.symm
   exact fin 0 aB φ a w eo JD cD (fun k hk=>bH k af) hu
  |succ fuel ih=>
   intro aB φ a w eo JD p8 cD hu
   by_cases UU:∀k,k<m->Ef aB k=true
   ·exact fin (fuel+1) aB φ a w eo JD cD UU hu
   have hex:∃j,j<m/\Ef aB j=false:=by
    apply Classical.byContradiction
    intro uo
    refine UU fun k hk=> ?_
    cases hb:Ef aB k with
    |true=>rfl
    |false=>exact absurd ⟨k,hk,hb⟩ uo
   obtain⟨j0,hj0,adI⟩:=hex
   refine⟨fun hr=> ?_,fun i hi=> ?_⟩
   ·have:=qf uR eo hr j0 af
    rw[show aB.getD j0 false=false from adI]at this
    cases this
   obtain⟨h1,o,h2,h3⟩:=mem_ready.1 hi
   have hiS:i<ops.size:=(Array.getElem?_eq_some_iff.1 h2).1
   have nu:Ef aB i=false:=by
    simp only[Ef,Array.getD_eq_getD_getElem?]at h1|-
    rw[Array.getElem?_eq_getElem (by omega)]at h1|-
    simpa using h1
   have Ni:∀j∈bT ops i,Ef aB j=true:=by
    exact XS
   have uD:i<N:=by
    apply Classical.byContradiction
    intro Ca
    have Ca:m<=i:=Nat.le_of_not_lt Ca
    have:=HC _ p8 i hiS Ni j0 (HD i Ca hiS j0 af)
    rw[adI]at this;cases this
   have Nk:Bg N po (Ef aB):=fun k hk im=>HC _ p8 k af (p8 k af im)
   obtain⟨ag1,ag2⟩:=agree (s:=s) (n:=N) (fun k hk=>Dr k af) hc Nk uD nu (HC _ p8 i af Ni)
   obtain⟨g1,g2,g3,g4⟩:=zp (vV _ _ i o sX qD)
   have dF: ¬G8 aB (s.nx+i):=by
    rintro(h|⟨k,_,hk,he⟩)
    ·omega
    ·have:k=i:=af
     subst this;rw[nu]at hk;cases hk
   have FT:∀k,Ef (aB.setIfInBounds i true) k=(Ef aB k||k==i):=by
    intro k
    simp only[Ef,Array.getD_eq_getD_getElem?]
    by_cases e:k=i
    ·subst e;simp[eo,hiS]
    ·rw[Array.getElem?_setIfInBounds_ne (Ne.symm e)]
     have:(k==i)=false:=by simpa using e
     simp[this]
   have Yj:=insert (s:=s) hc Nk uD nu FT
   have Yk:∀k,k<ops.size->Ef (aB.setIfInBounds i true) k=true->∀j∈bT ops k,Ef (aB.setIfInBounds i true) j=true:=by
    intro k hk im j hj
    rw[FT]at im|-
    by_cases e:k=i
    ·subst e;simp[Ni j hj]
    ·have:(k==i)=false:=by simpa using e
     rw[this,Bool.or_false]at im
     simp[p8 k hk im j hj]
   have Nl:(aB.setIfInBounds i true).count true+fuel=ops.size:=by
    have cD:i<aB.size:=af
    have e1:aB.setIfInBounds i true=aB.set i true cD:=by simp[Array.setIfInBounds,cD]
    have e2:aB[i]=false:=by
     have:=nu
     simp only[Ef,Array.getD_eq_getD_getElem?]at this
     rw[Array.getElem?_eq_getElem cD]at this
     simpa using this
    rw[e1,Array.count_set cD,e2]
    simp
    omega
   have lX:(ac i).ok=true->∀aS a' w',uC M cU H0 w0 n cx aS (xH o.dst (ac i) (fA (cj l) ac (Ef aB) s N)) (fun id=>G8 aB id\/id=s.nx+i) a' w'->wpAnyIn (eK ro) k P .any ops Q fuel (aB.setIfInBounds i true) a' w':=by
    intro adG aS a' w' Cn
    refine ih _ aS a' w' (by simp[eo]) Nl Yk (fun k hk im=> ?_) ?_
    ·rw[FT]at im
     by_cases e:k=i
     ·subst e;exact uD
     ·have:(k==i)=false:=by simpa using e
      rw[this,Bool.or_false]at im
      exact cD k hk im
    rw[Yj,g2]
    obtain⟨k1,k2⟩:=ly (us':=G8 (aB.setIfInBounds i true)) Cn.heap (fun id h=>by
     rcases h with(h|⟨k,hk,im,rfl⟩)|rfl
     ·exact .inl h
     ·exact .inr ⟨k,hk,by rw[FT,im];rfl,rfl⟩
     ·exact .inr ⟨i,uD,by rw[FT];simp,rfl⟩)
    exact acQ
   have JE:∀d want,(cj l i).gd=some (d,want)->(fA (cj l) ac (Ef aB) s N).env d=(fA (cj l) ac (fun _=>true) s i).env d:=fun d want hd=>ag1 d (by simp[fU,tmpsOf,hd])
   have bw:=Yi i uD
   have Mr:∀x∈(cj l i).op.operands,(fA (cj l) ac (Ef aB) s N).ev x=(fA (cj l) ac (fun _=>true) s i).ev x:=fun x hx=>Dm fun t ht=>ag1 t (by
    subst ht
    simp only[fU,tmpsOf,List.mem_append,List.mem_filterMap]
    exact .inl (.inl ⟨.tmp t,Array.mem_toList_iff.2 hx,rfl⟩))
   have XY:(fA (cj l) ac (Ef aB) s N).nx=(fA (cj l) ac (fun _=>true) s i).nx:=(lL N).trans (lL i).symm
   unfold wpOpIn
   simp only[h2]
   cases xD:ac i with
   |skip=>
    rw[xD]at bw lX
    have hw:=gI hu.env g4 (gJ JE bw)
    simp only[hw,Bool.false_eq_true,if_false]
    refine⟨fun _ _=>trivial,lX rfl φ _ w ?_⟩
    have:=kF (v:= .cn []) (val:=undef) hu hu.heap (Trans.refl _ _ _) ⟨#[],rfl,rfl⟩ (dst:=o.dst) g3 rfl (us':=fun id=>G8 aB id\/id=s.nx+i) (fun id h=> .inl h)
    exact this
   |val v Δ rd=>
    rw[xD]at bw lX
    have hw:=gI hu.env g4 (gJ JE bw.1)
    exact TE
   |bW v ws rd=>
    have:=adH i uD
    rw[xD]at this;cases this
   |fk=>
    have:=adH i uD
    rw[xD]at this;cases this
 refine key ops.size _ φ a w ao (by simp[Array.count_replicate]) (fun k hk im=> ?_) (fun k hk im=> ?_) ?_
 ·exact QF
 ·exact QF
 ·have e:∀k,fA (cj l) ac (Ef (Array.replicate ops.size false)) s k=s:=by
   intro k
   induction k with
   |zero=>rfl
   |succ k ih=>
    have:Ef (Array.replicate ops.size false) k=false:=by
     exact Ud
    simp only[fA,this,ih]
    rfl
  exact TK
end
end
end Go.Proofs.YtonbelhklnmjnaaGreat
