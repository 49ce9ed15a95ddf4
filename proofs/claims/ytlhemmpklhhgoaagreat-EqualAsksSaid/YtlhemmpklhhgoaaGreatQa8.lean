/-
  A PART OF THE PROOF. Conditions: none.
-/
import Derived.OrdersIn
import Derived.Test.YtlhemmpklhhgoaaGreatQa7
set_option linter.unusedSimpArgs false
set_option linter.unusedVariables false
namespace Go.Proofs.YtlhemmpklhhgoaaGreat
section
def aa.refs:aa->List Nat
 | .row cs=>V.aN cs
 | .loop _ _ env _ _ _ _ _=>V.aN env
 |_=>[]
def C9(R:List Nat)(o:Nat->aa):Nat->aa:=fun id=>if R.contains id=true then o id else .no
def zK(P:Program)(g:FuncId)(args:List V)(rd:List Nat)(o:Nat->aa)(out:R)(Δ:List (Nat×aa)):Prop:=
 Enters P g/\∀ (o':Nat->aa) (us:Nat->Prop) (M:Nat->Prop) (φ:Place) (w:World) (vals:Array Value),(∀id∈rd,o' id=o id/\us id)->ax M φ ⟨o',us⟩ w->V.az (ak M φ ⟨o',us⟩) φ ⟨o',us⟩ w args vals.toList->
  Calls P g vals w fun e w'=>∃aC,ax M aC ⟨put o' Δ,us⟩ w'/\Trans φ ⟨o',us⟩ w aC ⟨put o' Δ,us⟩ w'/\out.is (ak M aC ⟨put o' Δ,us⟩) w' e
def Da(P:Program)(g:FuncId)(args:List V)(rd:List Nat)(o:Nat->aa)(fr:Nat)(v:V)(Δ:List (Nat×aa)):Prop:=
 Enters P g/\∀ (o':Nat->aa) (us:Nat->Prop) (M:Nat->Prop) (φ:Place) (w:World) (vals:Array Value),(∀id∈rd,o' id=o id/\us id)-> ¬us fr->ax M φ ⟨o',us⟩ w->V.az (ak M φ ⟨o',us⟩) φ ⟨o',us⟩ w args vals.toList->
  Calls P g vals w fun e w'=>∃aC,ax M aC ⟨put o' Δ,fun id=>us id\/id=fr⟩ w'/\Trans φ ⟨o',us⟩ w aC ⟨put o' Δ,fun id=>us id\/id=fr⟩ w'/\∃val,e= .returned val/\V.den (ak M aC ⟨put o' Δ,fun id=>us id\/id=fr⟩) aC ⟨put o' Δ,fun id=>us id\/id=fr⟩ w' v val
mutual
theorem V.mJ {B B':Nat->Prop}{φ aC:Place}{H H':Hp}{w:World}(hB:∀b, ¬B b-> ¬B' b):∀ (v:V) (val:Value),(∀id∈v.refs,H'.o id=H.o id/\aC id=φ id/\H'.us id)->V.den B φ H w v val->V.den B' aC H' w v val
 | .d x,val,_,h=>D.aP (w:=w) (w':=w) (fun b _ hn=>⟨rfl,hB b hn⟩) x val h
 | .aM,_,_,h=>h
 | .ab,_,_,_=>trivial
 | .fD,_,_,h=>h
 | .oA es,val,_,h=>⟨D.aP (w:=w) (w':=w) (fun b _ hn=>⟨rfl,hB b hn⟩) (.sl es) val h.1,h.2⟩
 | .agg cs,val,hr,h=>by
   obtain⟨a,rfl,h1,h2⟩:=h
   exact⟨a,rfl,V.fP hB cs _ wq h1,h2⟩
 | .bN cs,val,hr,h=>by
   obtain⟨a,rfl,h1⟩:=h
   exact⟨a,rfl,V.fP hB cs _ wq h1⟩
 | .ptr id off,val,hr,h=>by
   exact zw6
 | .osl id ep,val,hr,h=>by
   obtain⟨a,b,c⟩:=hr id xR
   obtain⟨h0,h1,h2⟩:=h
   refine⟨h0,c,fun e he=> ?_⟩
   rw[a]at he
   obtain⟨x,y⟩:=h2 e he
   exact⟨x,fun heq=>(y heq).trans b.symm⟩
 | .pe id ep i sz off,val,hr,h=>by
   obtain⟨a,b,c⟩:=hr id xR
   obtain⟨h0,h1,h2⟩:=h
   refine⟨h0,c,fun e he=> ?_⟩
   rw[a]at he
   obtain⟨x,y⟩:=h2 e he
   exact NT
 | .pp cs off,val,_,h=>by
   obtain⟨a,ev,h1,h2,h3,h5,h4⟩:=h
   exact VE
 | .func fn first cap,val,hr,h=>by
   obtain⟨f,c,rfl,h1,h2⟩:=h
   exact⟨f,c,rfl,V.fP hB first _ (fun id aw=>hr id (by simp[V.refs,aw])) h1,V.fP hB cap _ (fun id aw=>hr id (by simp[V.refs,aw])) h2⟩
 | .iface t x,val,hr,h=>by
   obtain⟨u,rfl,h⟩:=h
   exact⟨u,rfl,V.mJ hB x u wq h⟩
 | .wC id off n,val,hr,h=>by
   exact zw6
 | .mp id,val,hr,h=>by
   obtain⟨a,b,c⟩:=hr id xR
   obtain⟨h0,h1,h2⟩:=h
   refine⟨h0,c,fun cN=> ?_⟩
   rw[a]at cN
   exact(h2 cN).trans b.symm
 | .kz id,val,hr,h=>by
   exact zw6
theorem V.fP {B B':Nat->Prop}{φ aC:Place}{H H':Hp}{w:World}(hB:∀b, ¬B b-> ¬B' b):∀ (vs:List V) (vals:List Value),(∀id∈V.aN vs,H'.o id=H.o id/\aC id=φ id/\H'.us id)->V.az B φ H w vs vals->V.az B' aC H' w vs vals
 |[],_,_,h=>h
 |v::vs,_,hr,h=>by
  obtain⟨u,us,rfl,h1,h2⟩:=h
  exact⟨u,us,rfl,V.mJ hB v u (fun id aw=>hr id (by simp[V.aN,aw])) h1,V.fP hB vs us (fun id aw=>hr id (by simp[V.aN,aw])) h2⟩
end
theorem Gt{env:List V}{i id:Nat}(h:id∈(bf env i).refs):id∈V.aN env:=by
 unfold bf at h
 induction env generalizing i with
 |nil=>simp[V.refs]at h
 |cons v env ih=>
  cases i with
  |zero=>simp only[List.getD_cons_zero]at h;simp[V.aN,h]
  |succ i=>simp only[List.getD_cons_succ]at h;simp[V.aN,ih h]
theorem aO.refs {M M':Nat->Prop}{φ aC:Place}{H H':Hp}{w:World}{id:Nat}(hB:∀b, ¬ak M φ H b-> ¬ak M' aC H' b)(ho:H'.o id=H.o id)(e8:aC id=φ id)
 (hr:∀j∈(H.o id).refs,H'.o j=H.o j/\aC j=φ j/\H'.us j) (h:aO M φ H w id):aO M' aC H' w id:=by
 have hd:∀b,cH w b-> ¬ak M φ H b->w.heap[b]? =w.heap[b]? /\ ¬ak M' aC H' b:=fun b _ hn=>⟨rfl,hB b hn⟩
 unfold aO at*
 rw[ho]
 cases hx:H.o id with
 |no=>trivial
 |row cs=>
  simp only[hx]at h|-
  obtain⟨b,dJ,ty,h1,h2,h3,h4⟩:=h
  exact⟨b,dJ,ty,e8.trans h1,h2,V.fP hB cs _ (fun j hj=>hr j (by rw[hx];exact hj)) h3,h4⟩
 |arr ep ty sz es=>
  simp only[hx]at h|-
  obtain⟨h0,xs,h1,evs,h2,h3,h4⟩:=h
  exact⟨h0,xs,by rw[e8];exact h1,evs,h2,h3,D.aQ hd es evs h4⟩
 |sZ ep es=>
  simp only[hx]at h|-
  rw[e8]
  exact D.aP hd (.sl es) _ h
 |map kt vt l=>
  simp only[hx]at h|-
  obtain⟨b,es,clock,h1,h2,h4,h3⟩:=h
  exact⟨b,es,clock,e8.trans h1,h2,h4,aE.mono hd l _ h3⟩
 |cZ l=>
  simp only[hx]at h|-
  rw[e8]
  exact j6.mono hd h
 |qS l last=>
  simp only[hx]at h|-
  obtain⟨b,h1,h2⟩:=h
  exact⟨b,e8.trans h1,h2.mono hd rfl⟩
 |xZ s pos=>
  simp only[hx]at h|-
  obtain⟨b,h1,h2⟩:=h
  exact⟨b,e8.trans h1,h2⟩
 |loop nf n env ps je eT st FX=>
  simp only[hx]at h|-
  obtain⟨b,r,h1,h2,h0,h3,h4,h5,h6,h7,h8,h9⟩:=h
  exact⟨b,r,e8.trans h1,h2,h0,h3,h4,h5,h6,h7,h8,fun i=>V.mJ hB _ _ (fun j hj=>hr j (by rw[hx];exact Gt hj)) (h9 i)⟩
section
variable {P:Program}
theorem Db{o o':Nat->aa}{Δ:List (Nat×aa)}{id:Nat}(h:o id=o' id):put o Δ id=put o' Δ id:=EI h
where EI {o o':Nat->aa}:∀ {Δ:List (Nat×aa)} {id:Nat},o id=o' id->put o Δ id=put o' Δ id
 |[],_,h=>h
 |x::Δ,id,h=>by
  simp only[put,List.foldl_cons]
  refine EI (Δ:=Δ) (o:=aA o x.1 x.2) (o':=aA o' x.1 x.2) ?_
  simp only[aH]
  split
  ·rfl
  ·exact h
theorem yC{o:Nat->aa}:∀ {Δ:List (Nat×aa)} {id:Nat},(∀x∈Δ,x.1≠id)->put o Δ id=o id
 |[],_,_=>rfl
 |x::Δ,id,h=>by
  have:=yC (o:=aA o x.1 x.2) (Δ:=Δ) (id:=id) (fun y hy=>h y mg)
  simp only[put,List.foldl_cons]at this|-
  rw[this];simp[Ne.symm (h x (by simp))]
theorem zK.lD {g:FuncId}{args:List V}{rd:List Nat}{o:Nat->aa}{nx:Nat}{out:R}{Δ:List (Nat×aa)}(s7:∀id∈rd,id<nx)(dn:∀id∈V.aN args,id∈rd)(qK:∀id∈rd,∀j∈(o id).refs,j∈rd)(T8:∀x∈Δ,x.1∈rd)(abz:∀x∈Δ,∀j∈x.2.refs,j∈rd)
 (h:cO P g args (C9 rd o) nx
  (fun v o1 _=>(∀id∈rd,o1 id=put o Δ id)/\∃vs rs,v=(match vs with|[v]=>v|vs=> .bN vs)/\bR o1 vs=some rs/\out= .ret rs/\∀id∈V.a8 vs,id∉rd)
  (fun v o1 _=>(∀id∈rd,o1 id=put o Δ id)/\∃x,dL o1 v=some x/\out= .bB x/\∀id∈v.ids,id∉rd)):zK P g args rd o out Δ:=by
 refine⟨h.1,fun o' us M φ w vals ho hH hd=> ?_⟩
 let M1:Nat->Prop:=fun b=>M b\/∃id,id∉rd/\(o' id).live=true/\eN (φ id)=some b
 let HR:Hp:=hp (C9 rd o) nx
 have ui:∀id,id∈rd->C9 rd o id=o' id:=fun id aw=>by simp[C9,aw,(ho id aw).1]
 have sq:∀id,id∉rd->C9 rd o id= .no:=fun id aw=>by simp[C9,aw]
 have hB:∀b,ak M1 φ HR b↔ak M φ ⟨o',us⟩ b:=by
  intro b
  constructor
  ·rintro((h|⟨id,h1,h2,h3⟩)|⟨id,h1,h2⟩)
   ·exact .inl h
   ·exact .inr ⟨id,h2,h3⟩
   ·by_cases aw:id∈rd
    ·exact .inr ⟨id,by show(o' id).live=true;rw[<- ui id aw];exact h1,h2⟩
    ·have:HR.o id= .no:=sq id aw
     rw[this]at h1;cases h1
  ·rintro(h|⟨id,h1,h2⟩)
   ·exact .inl (.inl h)
   ·by_cases aw:id∈rd
    ·exact .inr ⟨id,by show(C9 rd o id).live=true;rw[ui id aw];exact h1,h2⟩
    ·exact .inl (.inr ⟨id,aw,h1,h2⟩)
 have Et:∀id∈rd,HR.o id=o' id/\φ id=φ id/\HR.us id:=fun id aw=>⟨ui id aw,rfl,s7 id aw⟩
 have hHR:ax M1 φ HR w:=by
  refine⟨fun id=> ?_,fun id hn=> ?_,fun i j b hi hj bi bj=> ?_,fun b hb=> ?_,fun b hb=> ?_⟩
  ·by_cases aw:id∈rd
   ·refine aO.refs (H:=⟨o',us⟩) (M:=M) (φ:=φ) (fun b hn hb=>hn ((hB b).1 hb)) (ui id aw) rfl (fun j hj=>Et j ?_) (hH.ok id)
    have:o' id=o id:=(ho id aw).1
    exact qK id aw j (by rw[<- this];exact hj)
   ·unfold aO
    rw[show HR.o id= .no from sq id aw];trivial
  ·exact sq id fun aw=>hn (s7 id aw)
  ·have live:∀i,(HR.o i).live=true->i∈rd/\(o' i).live=true:=fun i hi=>by
    by_cases aw:i∈rd
    ·exact⟨aw,by rw[<- ui i aw];exact hi⟩
    ·rw[show HR.o i= .no from sq i aw]at hi;cases hi
   exact hH.apart i j b (live i hi).2 (live j hj).2 bi bj
  ·obtain⟨id,h1,h2⟩:=hb
   have aw:id∈rd:=by
    by_cases aw:id∈rd
    ·exact aw
    ·rw[show HR.o id= .no from sq id aw]at h1;cases h1
   rw[show HR.o id=o' id from ui id aw]at h1
   obtain⟨k1,k2⟩:=hH.ours b ⟨id,h1,h2⟩
   refine⟨?_,k2⟩
   rintro(hM|⟨j,j1,j2,j3⟩)
   ·exact k1 hM
   ·exact j1 (hH.apart j id b j2 h1 j3 h2 ▸ aw)
  ·rcases hb with hb|⟨id,h1,h2,h3⟩
   ·exact hH.zE b hb
   ·exact(hH.ours b ⟨id,h2,h3⟩).2
 have hdR:V.az (ak M1 φ HR) φ HR w args vals.toList:=V.fP (H:=⟨o',us⟩) (fun b hn hb=>hn ((hB b).1 hb)) _ _ (fun id aw=>Et id (dn id aw)) hd
 refine(h.2 M1 φ w vals hHR hdR).mono ?_
 rintro e w' ⟨iB,o1,zL,v,k1,k2,k3⟩
 have main:(∀id∈rd,o1 id=put o Δ id)->∃aC,ax M aC ⟨put o' Δ,us⟩ w'/\Trans φ ⟨o',us⟩ w aC ⟨put o' Δ,us⟩ w'/\∀b,ak M aC ⟨put o' Δ,us⟩ b->M1 b\/∃id∈rd,(o1 id).live=true/\eN (iB id)=some b:=by
  intro vA
  have EA:∀id∈rd,put o' Δ id=o1 id:=fun id aw=>(Db (ho id aw).1).trans (vA id aw).symm
  have Hx:∀id,id∉rd->put o' Δ id=o' id:=fun id aw=>yC fun x hx e=>aw (e ▸ T8 x hx)
  let Gk:Place:=fun id=>if id∈rd then iB id else φ id
  have yD:∀id∈rd,Gk id=iB id:=fun id aw=>if_pos aw
  have A1:∀id,id∉rd->Gk id=φ id:=fun id aw=>if_neg aw
  let H2:Hp:=⟨put o' Δ,us⟩
  have cQ:∀b,cF Gk H2 b->(∃id∈rd,(o1 id).live=true/\eN (iB id)=some b)\/∃id,id∉rd/\(o' id).live=true/\eN (φ id)=some b:=by
   rintro b ⟨id,h1,h2⟩
   by_cases aw:id∈rd
   ·exact .inl ⟨id,aw,by rw[<- EA id aw];exact h1,by rw[<- yD id aw];exact h2⟩
   ·exact .inr ⟨id,aw,by rw[<- Hx id aw];exact h1,by rw[<- A1 id aw];exact h2⟩
  have hB2:∀b,ak M Gk H2 b->ak M1 iB (hp o1 zL) b:=by
   rintro b (hb|hb)
   ·exact .inl (.inl hb)
   ·rcases cQ b hb with⟨id,h1,h2,h3⟩|⟨id,h1,h2,h3⟩
    ·exact .inr ⟨id,h2,h3⟩
    ·exact .inl (.inr ⟨id,h1,h2,h3⟩)
  have Xe:dK φ ⟨o',us⟩ Gk H2:=by
   refine⟨fun id h=>h,fun id hu hr=> ?_,fun id e' hu he=> ?_⟩
   ·by_cases aw:id∈rd
    ·rw[show H2.o id=o1 id from EA id aw]at hr
     obtain⟨a,b⟩:=k2.rel.row id (s7 id aw) hr
     rw[show HR.o id=o' id from ui id aw]at a
     exact⟨a,(yD id aw).trans b⟩
    ·rw[show H2.o id=o' id from Hx id aw]at hr
     exact⟨hr,A1 id aw⟩
   ·by_cases aw:id∈rd
    ·rw[show H2.o id=o1 id from EA id aw]at he
     obtain⟨e0,a,b,c⟩:=k2.rel.ep id e' (s7 id aw) he
     rw[show HR.o id=o' id from ui id aw]at a
     exact⟨e0,a,b,fun heq=>(yD id aw).trans (c heq)⟩
    ·rw[show H2.o id=o' id from Hx id aw]at he
     exact⟨e',he,Nat.le_refl _,fun _=>A1 id aw⟩
  have tL:∀b,cH w b-> ¬ak M φ ⟨o',us⟩ b->w'.heap[b]? =w.heap[b]? /\ ¬ak M Gk H2 b:=by
   intro b hc hn
   obtain⟨a,c⟩:=k2.blocks (M:=M1) b hc (fun hb=>hn ((hB b).1 hb))
   exact⟨a,fun hb=>c (hB2 b hb)⟩
  have vE:∀b,b<w.heap.size-> ¬cF φ HR b->w'.heap[b]? =w.heap[b]? :=fun b hb hl=>k2.cf.block b hb hl
  have ht:Trans φ ⟨o',us⟩ w Gk H2 w':=by
   refine⟨⟨k2.cf.os,k2.cf.tape,k2.cf.output,k2.cf.size,fun b hb hl=>vE b hb fun⟨id,h1,h2⟩=>hl ?_⟩,fun b hb=> ?_,Xe⟩
   ·by_cases aw:id∈rd
    ·exact⟨id,by show(o' id).live=true;rw[<- ui id aw];exact h1,h2⟩
    ·rw[show HR.o id= .no from sq id aw]at h1;cases h1
   ·rcases cQ b hb with⟨id,h1,h2,h3⟩|⟨id,h1,h2,h3⟩
    ·rcases k2.grow b ⟨id,h2,h3⟩with⟨j,j1,j2⟩|zG
     ·by_cases aw:j∈rd
      ·exact .inl ⟨j,by show(o' j).live=true;rw[<- ui j aw];exact j1,j2⟩
      ·rw[show HR.o j= .no from sq j aw]at j1;cases j1
     ·exact .inr zG
    ·exact .inl ⟨id,h2,h3⟩
  refine⟨Gk,⟨fun id=> ?_,fun id hn=> ?_,fun i j b hi hj bi bj=> ?_,fun b hb=> ?_,fun b hb=>Nat.lt_of_lt_of_le (hH.zE b hb) k2.cf.size⟩,ht,fun b hb=> ?_⟩
  ·by_cases aw:id∈rd
   ·refine aO.refs (H:=hp o1 zL) (M:=M1) (φ:=iB) (fun b hn hb=>hn (hB2 b hb)) (EA id aw) (yD id aw) (fun j hj=> ?_) (k1.ok id)
    have Hs:j∈rd:=by
     have e1:o1 id=put o Δ id:=vA id aw
     have hj:j∈(put o Δ id).refs:=by rw[<- e1];exact hj
     have key:∀ (EJ:List (Nat×aa)) (q:Nat->aa),(∀x∈EJ,∀j∈x.2.refs,j∈rd)->(∀j∈(q id).refs,j∈rd)->∀j∈(put q EJ id).refs,j∈rd:=by
      intro EJ
      induction EJ with
      |nil=>intro q _ h2;exact h2
      |cons x EJ ih=>
       intro q h1 h2
       simp only[put,List.foldl_cons]
       refine ih (aA q x.1 x.2) (fun y hy=>h1 y mg) ?_
       simp only[aH]
       split
       ·exact h1 x aG
       ·exact h2
     exact key Δ o abz (qK id aw) j hj
    exact⟨EA j Hs,yD j Hs,(ho j Hs).2⟩
   ·exact aO.Ak tL Xe (Hx id aw) (A1 id aw) (fun hl b hb=>vE b (hH.ours b ⟨id,hl,hb⟩).2 fun⟨j,j1,j2⟩=>by
     by_cases hj:j∈rd
     ·rw[show HR.o j=o' j from ui j hj]at j1
      exact aw (hH.apart id j b hl j1 hb j2 ▸ hj)
     ·rw[show HR.o j= .no from sq j hj]at j1;cases j1) (hH.ok id)
  ·have aw:id∉rd:=fun aw=>hn (ho id aw).2
   exact(Hx id aw).trans (hH.fresh id hn)
  ·by_cases e1:i∈rd<;>by_cases e2:j∈rd
   ·refine k1.apart i j b ?_ ?_ (by rw[<- yD i e1];exact bi) (by rw[<- yD j e2];exact bj)
    ·show(o1 i).live=true;rw[<- EA i e1];exact hi
    ·show(o1 j).live=true;rw[<- EA j e2];exact hj
   ·exfalso
    refine(k1.ours b ⟨i,by show(o1 i).live=true;rw[<- EA i e1];exact hi,by rw[<- yD i e1];exact bi⟩).1 (.inr ⟨j,e2,by rw[<- Hx j e2];exact hj,by rw[<- A1 j e2];exact bj⟩)
   ·exfalso
    refine(k1.ours b ⟨j,by show(o1 j).live=true;rw[<- EA j e2];exact hj,by rw[<- yD j e2];exact bj⟩).1 (.inr ⟨i,e1,by rw[<- Hx i e1];exact hi,by rw[<- A1 i e1];exact bi⟩)
   ·exact hH.apart i j b (by show(o' i).live=true;rw[<- Hx i e1];exact hi) (by show(o' j).live=true;rw[<- Hx j e2];exact hj) (by rw[<- A1 i e1];exact bi) (by rw[<- A1 j e2];exact bj)
  ·rcases cQ b hb with⟨id,h1,h2,h3⟩|⟨id,h1,h2,h3⟩
   ·obtain⟨a,c⟩:=k1.ours b ⟨id,h2,h3⟩
    exact⟨fun hM=>a (.inl hM),c⟩
   ·obtain⟨a,c⟩:=hH.ours b ⟨id,h2,h3⟩
    exact⟨a,Nat.lt_of_lt_of_le c k2.cf.size⟩
  ·rcases hb with hb|hb
   ·exact .inl (.inl hb)
   ·rcases cQ b hb with h|h
    ·exact .inr h
    ·exact .inl (.inr h)
 have res:∀ (vs:List V) (xs:List D) (us':List Value),(∀id∈rd,o1 id=put o Δ id)->bR o1 vs=some xs->(∀id∈V.a8 vs,id∉rd)->V.az (ak M1 iB (hp o1 zL)) iB (hp o1 zL) w' vs us'->
  ∃aC,ax M aC ⟨put o' Δ,us⟩ w'/\Trans φ ⟨o',us⟩ w aC ⟨put o' Δ,us⟩ w'/\D.az (ak M aC ⟨put o' Δ,us⟩) w' xs us':=by
  intro vs xs us' vA h1 abA h2
  obtain⟨f1,f2,f3,f4,f5⟩:=cX k1 (V.a8 vs) (cM vs _ h2)
  have h3:=de f1 vs xs us' f3 h1 (V.aQ f2 _ _ h2)
  obtain⟨aC,m1,m2,m3⟩:=main vA
  refine⟨aC,m1,m2,D.aQ (w:=w') (w':=w') (fun b _ hn=>⟨rfl,fun hb=>hn ?_⟩) xs us' h3⟩
  rcases m3 b hb with hb|⟨id,i1,i2,i3⟩
  ·exact .inl hb
  ·exact .inr ⟨id,by rw[f4 id fun hm=>abA id hm i1];exact i2,i3⟩
 cases e with
 |outgrown=>exact k3.elim
 |panicked ch=>
  obtain⟨val,rfl,g1,vA,x,g2,rfl,g3⟩:=k3
  obtain⟨aC,m1,m2,m3⟩:=res [v] [x] [val] vA (by simp[bR,g2]) (by simpa[V.a8]using g3) ⟨val,[],rfl,g1,rfl⟩
  obtain⟨u,us2,he,h2,_⟩:=m3
  simp at he;obtain⟨rfl,rfl⟩:=he
  exact⟨aC,m1,m2,val,rfl,h2⟩
 |returned val=>
  obtain⟨g1,vA,vs,rs,rfl,g2,rfl,g3⟩:=k3
  match vs,g1,g2,g3 with
  |[],g1,g2,g3=>
   obtain⟨arr,rfl,hv⟩:=g1
   simp only[bR,Option.some.injEq]at g2;subst g2
   obtain⟨aC,m1,m2,m3⟩:=res [] [] arr.toList vA rfl (by simp[V.a8]) hv
   exact⟨aC,m1,m2,arr,rfl,m3⟩
  |[v],g1,g2,g3=>
   obtain⟨aC,m1,m2,m3⟩:=res [v] rs [val] vA g2 g3 ⟨val,[],rfl,g1,rfl⟩
   refine⟨aC,m1,m2, ?_⟩
   cases rs with
   |nil=>cases m3
   |cons x l=>
    obtain⟨u,us2,he,h2,h3⟩:=m3
    simp at he;obtain⟨rfl,rfl⟩:=he
    cases l with
    |nil=>exact h2
    |cons y l=>obtain⟨_,_,h,_⟩:=h3;cases h
  |v::v2::l,g1,g2,g3=>
   obtain⟨arr,rfl,hv⟩:=g1
   obtain⟨aC,m1,m2,m3⟩:=res (v::v2::l) rs arr.toList vA g2 g3 hv
   refine⟨aC,m1,m2, ?_⟩
   have hl:=D.ay _ _ m3
   have We:=V.ay _ _ hv
   match rs,hl,m3 with
   |[],hl,_=>exact Ec
   |[x],hl,_=>exact Ec
   |x::y::l,_,m3=>exact⟨arr,rfl,m3⟩
end
end
section
inductive eW where
 |skip|val (v:V) (Δ:List (Nat×aa)) (rd:List Nat)|bB (v:V) (ws rd:List Nat)|eN
 deriving Inhabited
def eW.ok:eW->Bool
 | .skip| .val .. =>true
 |_=>false
def vF(dst:Option Tmp)(x:eW)(s:S):S:=
 match x with
 | .skip=>⟨aU s.env dst (.bN []),s.o,s.nx⟩
 | .val v Δ _=>⟨aU s.env dst v,put s.o Δ,s.nx⟩
 | .bB .. | .eN=>⟨aU s.env dst .ab,s.o,s.nx⟩
def ki:eW->List Nat
 | .val _ Δ _=>Δ.map (·.1)
 |_=>[]
def vY:eW->List Nat
 | .val _ _ rd=>rd
 | .bB _ _ rd=>rd
 |_=>[]
def OI(P:Program)(g:FuncId)(ds:List D)(v:V):Prop:=
 Enters P g/\∀ (M:Nat->Prop) (w:World) (vals:Array Value),(∀b,M b->b<w.heap.size)->D.az M w ds vals.toList->
  Calls P g vals w fun e w'=>eh (fun _=>False) w w'/\∃val,e= .returned val/\∀φ H,V.den M φ H w' v val
theorem OI.lD {P:Program}{g:FuncId}{ds:List D}{v:V}(hr:v.refs=[])(h:cO P g (ds.map .d) (fun _=> .no) 0 (fun v' _ _=>v'=v) (fun _ _ _=>False)):OI P g ds v:=by
 refine⟨h.1,fun M w vals hM hd=> ?_⟩
 let cm:Place:=fun _=> .nilFunc
 have vE:∀b, ¬cF cm (hp (fun _=> .no) 0) b:=by rintro b ⟨id,hl,_⟩;simp[hp,aa.live]at hl
 refine(h.2 M cm w vals (nw cm hM) ((V.cg _ _).2 (D.aQ (w:=w) (w':=w) (B:=M) (fun b _ hB=>⟨rfl,fun h=>h.elim hB (vE b)⟩) _ _ hd))).mono ?_
 rintro e w' ⟨aC,o',nx',v',k1,k2,k3⟩
 refine⟨⟨k2.cf.os,k2.cf.tape,k2.cf.output,k2.cf.size,fun k hk _=>k2.cf.block k hk (vE k)⟩, ?_⟩
 cases e with
 |outgrown=>exact k3.elim
 |panicked ch=>obtain⟨_,_,_,h⟩:=k3;exact h.elim
 |returned val=>
  obtain⟨g1,rfl⟩:=k3
  exact⟨val,rfl,fun φ H=>V.mJ (B:=ak M aC (hp o' nx')) (φ:=aC) (H:=hp o' nx') (fun b hb hm=>hb (.inl hm)) v' val (fun id aw=>by rw[hr]at aw;cases aw) g1⟩
def w7(P:Program)(s:S)(fr:Nat)(op:Op)(v:V)(Δ:List (Nat×aa))(rd:List Nat):Prop:=
 ((∃xU,fX P s fr op=some (v,Δ,xU))/\rd=nW s op)\/
 (∃c f g first cap,op= .call c/\c.callee= .value f/\s.ev f= .func (.func g) first cap/\
  ((∃ds rs,bR s.o (first++c.args.toList.map s.ev++cap)=some ds/\aV P g ds (.ret rs)/\v=iD rs/\rd=nW s op/\
    (Δ=b7 s.o (V.a8 (first++c.args.toList.map s.ev++cap))\/D.jm rs=true/\Δ=[]))\/
   (∃rs,zK P g (first++c.args.toList.map s.ev++cap) rd s.o (.ret rs) Δ/\v=iD rs/\∀id∈rd,id<s.nx)\/
   (∃ds,bR s.o (first++c.args.toList.map s.ev++cap)=some ds/\OI P g ds v/\rd=nW s op/\Δ=b7 s.o (V.a8 (first++c.args.toList.map s.ev++cap)))\/
   (Da P g (first++c.args.toList.map s.ev++cap) rd s.o fr v Δ/\∀id∈rd,id<s.nx)))
def A2(P:Program)(s:S)(op:Op)(v:V)(ws rd:List Nat):Prop:=
 ∃c f g first cap,op= .call c/\c.callee= .value f/\s.ev f= .func (.func g) first cap/\
  ((∃ds x,bR s.o (first++c.args.toList.map s.ev++cap)=some ds/\aV P g ds (.bB x)/\x.flat=true/\v= .d x/\rd=nW s op/\ws=[])\/
   (∃x Δ,zK P g (first++c.args.toList.map s.ev++cap) rd s.o (.bB x) Δ/\v= .d x/\ws=Δ.map (·.1)/\∀id∈rd,id<s.nx))
def dI(s:S)(gd:Option (Nat×Bool))(b:Bool):Prop:=
 match gd with
 |none=>b=true
 |some (d,want)=>match s.env d with
  | .d (.bool c)=>b=(c==want)
  | .bN []=>b=false
  |_=>False
def OJ(P:Program)(s:S)(fr:Nat)(o:bK)(x:eW):Prop:=
 match x with
 | .skip=>dI s o.gd false
 | .val v Δ rd=>dI s o.gd true/\w7 P s fr o.op v Δ rd
 | .bB v ws rd=>dI s o.gd true/\A2 P s o.op v ws rd
 | .eN=>True
def ek(oc:Nat->bK)(ac:Nat->eW)(E:Nat->Bool)(s:S):Nat->S
 |0=>s
 |k+1=>if E k then vF (oc k).dst (ac k) (ek oc ac E s k)else ek oc ac E s k
structure Compat (oc:Nat->bK) (ac:Nat->eW) (R:Nat->List Nat) (i j:Nat):Prop where
 di:∀d,(oc i).dst=some d->d∉eS (oc j)
 dj:∀d,(oc j).dst=some d->d∉eS (oc i)
 wi:∀id∈ki (ac i),id∉R j/\id∉ki (ac j)
 wj:∀id∈ki (ac j),id∉R i
section
variable {P:Program}{oc:Nat->bK}{ac:Nat->eW}{s:S}{n:Nat}{E:Nat->Bool}{R:Nat->List Nat}{pr:Nat->Nat->Prop}
theorem Dc{env:Nat->V}{dst:Option Tmp}{v:V}{t:Nat}(h:∀d,dst=some d->d≠t):aU env dst v t=env t:=by
 cases dst with
 |none=>rfl
 |some d=>simp only[aU,aH];rw[if_neg (fun e=>h d rfl e.symm)]
theorem fQ{o:Nat->aa}:∀ {Δ:List (Nat×aa)} {id:Nat},id∉Δ.map (·.1)->put o Δ id=o id
 |[],_,_=>rfl
 |x::Δ,id,h=>by
  simp only[List.map_cons,List.mem_cons,not_or]at h
  have:=fQ (o:=aA o x.1 x.2) (Δ:=Δ) h.2
  simp only[put,List.foldl_cons]at this|-
  rw[this];simp[h.1]
theorem yE{o o':Nat->aa}:∀ {Δ:List (Nat×aa)} {id:Nat},id∈Δ.map (·.1)\/o id=o' id->put o Δ id=put o' Δ id
 |[],_,h=>by rcases h with h|h;· simp at h
             ·exact h
 |x::Δ,id,h=>by
  simp only[put,List.foldl_cons]
  refine yE (Δ:=Δ) (o:=aA o x.1 x.2) (o':=aA o' x.1 x.2) ?_
  simp only[List.map_cons,List.mem_cons]at h
  simp only[aH]
  by_cases e:id=x.1
  ·right;simp[e]
  ·rcases h with(h|h)|h
   ·exact absurd h e
   ·exact .inl h
   ·right;simp[e,h]
theorem kj{dst:Option Tmp}{x:eW}{t:Nat}(h:∀d,dst=some d->d≠t):(vF dst x s).env t=s.env t:=by
 cases x<;>exact Dc h
theorem mK{dst:Option Tmp}{x:eW}{id:Nat}(h:id∉ki x):(vF dst x s).o id=s.o id:=by
 cases x with
 |val v Δ rd=>exact fQ h
 |_=>rfl
theorem yF{dst:Option Tmp}{x:eW}{s':S}{t:Nat}(h:s.env t=s'.env t):(vF dst x s).env t=(vF dst x s').env t:=by
 cases x<;>cases dst<;>simp only[vF,aU,aH]<;>first|exact h|(split<;>first|rfl|exact h)
theorem Dd{dst:Option Tmp}{x:eW}{s':S}{id:Nat}(h:s.o id=s'.o id):(vF dst x s).o id=(vF dst x s').o id:=by
 cases x with
 |val v Δ rd=>exact yE (.inr h)
 |_=>exact h
theorem put_comm{o:Nat->aa}{Δ EJ:List (Nat×aa)}(h:∀id∈Δ.map (·.1),id∉EJ.map (·.1)):put (put o Δ) EJ=put (put o EJ) Δ:=by
 funext id
 by_cases h1:id∈Δ.map (·.1)
 ·rw[fQ (h id h1)]
  exact yE (.inl h1)
 ·rw[fQ (Δ:=Δ) h1]
  by_cases h2:id∈EJ.map (·.1)
  ·exact yE (.inl h2)
  ·rw[fQ h2,fQ h2,fQ h1]
theorem w8{env:Nat->V}{d d':Option Tmp}{v v':V}(h:∀t,d=some t->d'≠some t):aU (aU env d v) d' v'=aU (aU env d' v') d v:=by
 cases d with
 |none=>rfl
 |some t=>
  cases d' with
  |none=>rfl
  |some t'=>
   have j8:t'≠t:=fun e=>h t rfl (by rw[e])
   funext i
   simp only[aU,aH]
   by_cases e1:i=t<;>by_cases e2:i=t'
   ·exact absurd (e2.symm.trans e1) j8
   all_goals simp[e1,e2]
   ·intro e;exact absurd e.symm j8
   ·intro e;exact absurd e j8
theorem IY{d d':Option Tmp}{x x':eW}(hd:∀t,d=some t->d'≠some t)(hw:∀id∈ki x,id∉ki x'):vF d x (vF d' x' s)=vF d' x' (vF d x s):=by
 cases x<;>cases x'<;>simp only[vF]<;>first
  |rw[w8 hd,put_comm hw]
  |rw[w8 hd]
def yG(n:Nat)(pr:Nat->Nat->Prop)(E:Nat->Bool):Prop:=∀k,k<n->E k=true->∀j,pr k j->E j=true
theorem agree(_:∀k,k<n->∀j,pr k j->j<k)(hc:∀i j,i<j->j<n-> ¬pr j i->Compat oc ac R i j)(hE:yG n pr E){i:Nat}(hi:i<n)(kV:E i=false)(IZ:∀j,pr i j->E j=true):
 (∀t∈eS (oc i),(ek oc ac E s n).env t=(ek oc ac (fun _=>true) s i).env t)/\(∀id∈R i,(ek oc ac E s n).o id=(ek oc ac (fun _=>true) s i).o id):=by
 have a:∀k,k<=i->(∀t∈eS (oc i),(ek oc ac E s k).env t=(ek oc ac (fun _=>true) s k).env t)/\(∀id∈R i,(ek oc ac E s k).o id=(ek oc ac (fun _=>true) s k).o id):=by
  intro k
  induction k with
  |zero=>intro _;exact⟨fun _ _=>rfl,fun _ _=>rfl⟩
  |succ k ih=>
   intro hk
   obtain⟨h1,h2⟩:=ih ae
   simp only[ek,if_true]
   by_cases iJ:E k=true
   ·simp only[iJ,if_true]
    exact⟨fun t ht=>yF (h1 t ht),fun id aw=>Dd (h2 id aw)⟩
   ·have Ow: ¬pr i k:=fun hm=>iJ (IZ k hm)
    have c:=hc k i ae hi Ow
    simp only[iJ]
    refine⟨fun t ht=> ?_,fun id aw=> ?_⟩
    ·rw[kj fun d hd e=>c.di d hd (e ▸ ht)];exact h1 t ht
    ·rw[mK fun hm=>(c.wi id hm).1 aw];exact h2 id aw
 have b:∀k,i<=k->k<=n->(∀t∈eS (oc i),(ek oc ac E s k).env t=(ek oc ac (fun _=>true) s i).env t)/\(∀id∈R i,(ek oc ac E s k).o id=(ek oc ac (fun _=>true) s i).o id):=by
  intro k LU
  induction LU with
  |refl=>intro _;exact a i (Nat.le_refl _)
  | @step k LU ih=>
    intro hk
    have LU:i<=k:=LU
    obtain⟨h1,h2⟩:=ih ae
    simp only[ek]
    by_cases iJ:E k=true
    ·have j8:i≠k:=fun e=>by rw[e,iJ]at kV;cases kV
     have Ow: ¬pr k i:=fun hm=>by have:=hE k ae iJ i hm;rw[kV]at this;cases this
     have c:=hc i k ae ae Ow
     simp only[iJ,if_true]
     refine⟨fun t ht=> ?_,fun id aw=> ?_⟩
     ·rw[kj fun d hd e=>c.dj d hd (e ▸ ht)];exact h1 t ht
     ·rw[mK fun hm=>c.wj id hm aw];exact h2 id aw
    ·simp only[iJ];exact⟨h1,h2⟩
 exact b n ae (Nat.le_refl _)
theorem insert(hc:∀i j,i<j->j<n-> ¬pr j i->Compat oc ac R i j)(hE:yG n pr E){i:Nat}(hi:i<n)(kV:E i=false){E':Nat->Bool}(De:∀k,E' k=(E k||k==i)):
 ek oc ac E' s n=vF (oc i).dst (ac i) (ek oc ac E s n):=by
 have a:∀k,k<=i->ek oc ac E' s k=ek oc ac E s k:=by
  intro k
  induction k with
  |zero=>intro _;rfl
  |succ k ih=>
   intro hk
   have:E' k=E k:=by rw[De k];have:(k==i)=false:=by simp;omega
                     simp[this]
   simp only[ek,this,ih (by omega)]
 have b:∀k,i+1<=k->k<=n->ek oc ac E' s k=vF (oc i).dst (ac i) (ek oc ac E s k):=by
  intro k LU
  induction LU with
  |refl=>
   intro _
   have h1:E' i=true:=by rw[De i];simp
   simp only[ek,h1,kV,if_true,a i (Nat.le_refl _)]
   rfl
  | @step k LU ih=>
    intro hk
    have LU:i+1<=k:=LU
    have h1:E' k=E k:=by rw[De k];have:(k==i)=false:=by simp;omega
                         simp[this]
    simp only[ek,h1,ih (by omega)]
    by_cases iJ:E k=true
    ·have Ow: ¬pr k i:=fun hm=>by have:=hE k ae iJ i hm;rw[kV]at this;cases this
     have c:=hc i k ae ae Ow
     simp only[iJ,if_true]
     refine IY (fun t ht he=> ?_) (fun id aw hm=>(c.wi id hm).2 aw)
     exact c.di t he (by simp[eS,ht])
    ·simp only[iJ];rfl
 exact b n ae (Nat.le_refl _)
end
end
section
structure sV (M:Nat->Prop) (cm:Place) (H0:Hp) (w0:World) (n:Nat) (cx:Cx) (φ:Place) (s:S) (us:Nat->Prop) (a:Act) (w:World):Prop where
 heap:ax M φ ⟨s.o,us⟩ w
 tr:Trans cm H0 w0 φ ⟨s.o,us⟩ w
 size:a.tmps.size=n
 defers:tX cx w0 φ ⟨s.o,us⟩ w a.defers
 env:∀i,V.den (ak M φ ⟨s.o,us⟩) φ ⟨s.o,us⟩ w (s.env i) (a.tmps.getD i undef)
section
variable {P:Program}{M:Nat->Prop}{φ cm:Place}{H0:Hp}{w w' w0:World}{n:Nat}{s:S}{us:Nat->Prop}{a:Act}{cx:Cx}{ro:Option Nat}{k:Nat}
variable {next:Act->World->Prop}{Q:Exit->Act->World->Prop}
theorem jd(hs:sV M cm H0 w0 n cx φ s us a w){aC:Place}{H':Hp}(hH:ax M aC H' w')(ht:Trans φ ⟨s.o,us⟩ w aC H' w'){v:V}{val:Value}(hd:V.den (ak M aC H') aC H' w' v val){dst:Option Tmp}(cG:gk n dst)
 {o':Nat->aa} {us':Nat->Prop} (ho:H'.o=o') (hu:∀id,H'.us id->us' id):sV M cm H0 w0 n cx aC ⟨aU s.env dst v,o',s.nx⟩ us' (a.put dst val) w':=by
 obtain⟨k1,k2⟩:=jI hH hu
 subst ho
 refine⟨k1,hs.tr.trans (ht.trans k2), ?_, ?_,fun i=> ?_⟩
 ·cases dst<;>simp[Act.put,hs.size]
 ·have:=hs.defers.mono (ht.trans k2);cases dst<;>exact this
 ·cases dst with
  |none=>exact Ln
  |some d=>
   simp only[gk]at cG
   simp only[aU,aH,Act.put]
   by_cases hi:i=d
   ·subst hi
    have h1:(a.tmps.setIfInBounds i val).getD i undef=val:=by simp[Array.getD,hs.size,cG]
    rw[if_pos rfl,h1]
    exact V.aP k2 _ _ hd
   ·have h1:(a.tmps.setIfInBounds d val).getD i undef=a.tmps.getD i undef:=by
     exact QO
    rw[if_neg hi,h1]
    exact Ln
theorem w9(hs:sV M cm H0 w0 n cx φ s us a w){o:Oper}{op:Op}(fK:o.op=op){c:Call}{f:Operand}{g:FuncId}{first cap:List V}(hc:op= .call c)(eP:c.callee= .value f)(vO:s.ev f= .func (.func g) first cap):
 ∃vals:Array Value,V.az (ak M φ ⟨s.o,us⟩) φ ⟨s.o,us⟩ w (first++c.args.toList.map s.ev++cap) vals.toList/\(Enters P g->(execOp a.eval o).run P w= .ok (.enter g vals) w):=by
 have hf:=mq (M:=M) (φ:=φ) (H:=⟨s.o,us⟩) (w:=w) s a hs.env f
 have dn:=jK (M:=M) (φ:=φ) (H:=⟨s.o,us⟩) (w:=w) s a hs.env c.args.toList
 rw[vO]at hf
 obtain⟨fa,ca,Q6,wB,hca⟩:=hf
 refine⟨fa++c.args.map a.eval++ca, ?_,fun he=> ?_⟩
 ·exact WJ
 ·have:=kK (w:=w) he (fa++c.args.map a.eval++ca)
  generalize pw:fa++c.args.map a.eval++ca=vals at this
  simp[execOp,fK,hc,resolve,eP,Q6,Deferred.ofValue,invoke,this,pw]
theorem HO(hs:sV M cm H0 w0 n cx φ s us a w){fr:Nat}(cD: ¬us fr)(s7:∀id,id<s.nx->us id){o:Oper}{op:Op}(fK:o.op=op)(cG:gk n o.dst){v:V}{Δ:List (Nat×aa)}{rd:List Nat}(h:w7 P s fr op v Δ rd)
 (hN:∀aC a' w',sV M cm H0 w0 n cx aC (vF o.dst (.val v Δ rd) s) (fun id=>us id\/id=fr) a' w'->next a' w'):o.wpIn (dD ro) k P a w next Q:=by
 rcases h with⟨⟨xU,h⟩,_⟩|⟨c,f,g,first,cap,hc,eP,vO,h⟩
 ·have h1:=AY (K:=fun v' EJ _=>v'=v/\EJ=Δ) h ⟨rfl,rfl⟩
  obtain⟨nx,val,w',aC,v',EJ,xU,⟨rfl,rfl⟩,hr,abB,g1,g2,g3,g4⟩:=wT hs.heap (s:=s) rfl hs.env cD fK h1
  have sP:=jd hs g1 g2 g3 cG (o':=put s.o EJ) (us':=fun id=>us id\/id=fr) rfl (fun id hu=>hu.elim .inl (g4 id))
  refine jO (fun c hc=>by rw[fK]at hc;subst hc;exact h1) ?_
  rw[hr]
  rcases abB with rfl|⟨rfl,rfl⟩
  ·exact hN _ _ _ sP
  ·exact hN _ _ _ sP
 ·refine jO (fun c' tY=>by rw[fK,hc]at tY;cases tY) ?_
  obtain⟨vals,aW,eV⟩:=w9 (P:=P) hs fK hc eP vO
  generalize first++c.args.toList.map s.ev++cap=all at h aW
  rcases h with⟨ds,rs,eR,hP,rfl,_,T8⟩|⟨rs,hH,rfl,mf⟩|⟨ds,eR,hP,_,rfl⟩|⟨hH,mf⟩
  ·obtain⟨f1,f2,f3,f4,f5⟩:=cX hs.heap (V.a8 all) (cM all _ aW)
   have jl:(⟨s.o,us⟩:Hp).put (b7 s.o (V.a8 all))=⟨put s.o (b7 s.o (V.a8 all)),us⟩:=kJ (H:=⟨s.o,us⟩) HX
   have wK:=de f1 all ds _ f3 eR (V.aQ f2 _ _ aW)
   have eI:=hP.2 _ w vals (fun b hb=>hb.elim (f1.zE b) fun hl=>(f1.ours b hl).2) wK
   rw[eV hP.1]
   refine⟨fun hd=>by simp[dD]at hd,cT (eI.mono fun e w' ⟨hk,ho⟩=> ?_)⟩
   cases e with
   |panicked ch=>exact vM
   |outgrown=>exact vM
   |returned val=>
    rcases T8 with rfl|⟨pc,rfl⟩
    ·obtain⟨k1,k2⟩:=fN f1 hk
     refine hN _ _ _ (jd hs k1 (f2.trans k2) (mh ho) cG (by rw[jl]) fun id hu=> ?_)
     rw[jl]at hu;exact .inl hu
    ·obtain⟨k1,k2⟩:=fN hs.heap hk
     have ho:=R.ym (out:= .ret rs) (B':=ak M φ ⟨s.o,us⟩) pc ho
     exact V9
  ·have eI:=hH.2 s.o us M φ w vals (fun id aw=>⟨rfl,s7 id (mf id aw)⟩) hs.heap aW
   rw[eV hH.1]
   refine⟨fun hd=>by simp[dD]at hd,cT (eI.mono fun e w' ⟨aC,k1,k2,ho⟩=> ?_)⟩
   cases e with
   |panicked ch=>exact vM
   |outgrown=>exact vM
   |returned val=>exact V9
  ·obtain⟨f1,f2,f3,f4,f5⟩:=cX hs.heap (V.a8 all) (cM all _ aW)
   have jl:(⟨s.o,us⟩:Hp).put (b7 s.o (V.a8 all))=⟨put s.o (b7 s.o (V.a8 all)),us⟩:=kJ (H:=⟨s.o,us⟩) HX
   have wK:=de f1 all ds _ f3 eR (V.aQ f2 _ _ aW)
   have eI:=hP.2 _ w vals (fun b hb=>hb.elim (f1.zE b) fun hl=>(f1.ours b hl).2) wK
   rw[eV hP.1]
   refine⟨fun hd=>by simp[dD]at hd,cT (eI.mono fun e w' ⟨hk,val,he,ho⟩=> ?_)⟩
   subst he
   obtain⟨k1,k2⟩:=fN f1 hk
   refine hN _ _ _ (jd hs k1 (f2.trans k2) (ho _ _) cG (by rw[jl]) fun id hu=> ?_)
   rw[jl]at hu;exact .inl hu
  ·have eI:=hH.2 s.o us M φ w vals (fun id aw=>⟨rfl,s7 id (mf id aw)⟩) cD hs.heap aW
   rw[eV hH.1]
   refine⟨fun hd=>by simp[dD]at hd,cT (eI.mono fun e w' ⟨aC,k1,k2,val,he,ho⟩=> ?_)⟩
   subst he
   exact hN _ _ _ (jd hs k1 k2 ho cG rfl fun id hu=>hu)
theorem Gu{o o2:Nat->aa}{us us2:Nat->Prop}(hH:ax M φ ⟨o,us⟩ w)(ho:∀id,o2 id=o id\/o2 id= .no)(hu:∀id,us id->us2 id):ax M φ ⟨o2,us2⟩ w/\Trans φ ⟨o,us⟩ w φ ⟨o2,us2⟩ w:=by
 have hl:∀id,(o2 id).live=true->(o id).live=true:=fun id h=>by
  rcases ho id with e|e
  ·rw[<- e];exact h
  ·rw[e]at h;cases h
 have Ua:∀b,cF φ ⟨o2,us2⟩ b->cF φ ⟨o,us⟩ b:=fun b ⟨id,h1,h2⟩=>⟨id,hl id h1,h2⟩
 have ht:Trans φ ⟨o,us⟩ w φ ⟨o2,us2⟩ w:=by
  refine⟨eh.refl _ _,fun b hb=> .inl (Ua b hb),⟨hu,fun id _ hr=> ?_,fun id e' _ he=> ?_⟩⟩
  ·rcases ho id with e|e
   ·exact⟨by show(o id).bY=true;rw[<- e];exact hr,rfl⟩
   ·rw[show(⟨o2,us2⟩:Hp).o id= .no from e]at hr;cases hr
  ·rcases ho id with e|e
   ·exact⟨e',by show(o id).b9=some e';rw[<- e];exact he,Nat.le_refl _,fun _=>rfl⟩
   ·rw[show(⟨o2,us2⟩:Hp).o id= .no from e]at he;cases he
 refine⟨⟨fun id=> ?_,fun id hn=> ?_,fun i j b hi hj=>hH.apart i j b (hl i hi) (hl j hj),fun b hb=>hH.ours b (Ua b hb),hH.zE⟩,ht⟩
 ·rcases ho id with e|e
  ·exact(hH.ok id).mono ht e rfl fun _ _ _=>rfl
  ·unfold aO;rw[show(⟨o2,us2⟩:Hp).o id= .no from e];trivial
 ·rcases ho id with e|e
  ·exact e.trans (hH.fresh id fun h=>hn (hu id h))
  ·exact e
def uj(ds:List Nat)(wl:List Nat)(N:Nat)(s:S):S:=
 ⟨fun t=>if ds.contains t=true then .ab else s.env t,fun id=>if wl.contains id=true then .no else s.o id,s.nx+N⟩
theorem I0(hs:sV M cm H0 w0 n cx φ s us a w)(s7:∀id,id<s.nx->us id){N:Nat}(e7:∀id,us id->id<s.nx+N){o:Oper}{op:Op}(fK:o.op=op){v:V}{ws rd:List Nat}(h:A2 P s op v ws rd)
 {s0:S} {ds wl:List Nat} (eR:∀t,ds.contains t=false->s.env t=s0.env t) (hwl:∀id,wl.contains id=false->s.o id=s0.o id) (LV:∀id∈ws,wl.contains id=true) (oK:s0.nx=s.nx)
 (hQ:∀aC w' val,bT M cm H0 w0 n cx aC (uj ds wl N s0) a w'->V.den (ak M aC (uj ds wl N s0).H) aC (uj ds wl N s0).H w' v val->Q (.panic [{v:=val,recovered:=false}]) a w'):o.wpIn (dD ro) k P a w next Q:=by
 obtain⟨c,f,g,first,cap,hc,eP,vO,h⟩:=h
 refine jO (fun c' tY=>by rw[fK,hc]at tY;cases tY) ?_
 obtain⟨vals,aW,eV⟩:=w9 (P:=P) hs fK hc eP vO
 generalize first++c.args.toList.map s.ev++cap=all at h aW
 have fin:∀ (aC:Place) (w':World) (o':Nat->aa) (val:Value),(∀id,wl.contains id=false->o' id=s.o id)->ax M aC ⟨o',us⟩ w'->Trans φ ⟨s.o,us⟩ w aC ⟨o',us⟩ w'->V.den (ak M aC ⟨o',us⟩) aC ⟨o',us⟩ w' v val->Q (.panic [{v:=val,recovered:=false}]) a w':=by
  intro aC w' o' val wo k1 k2 k3
  obtain⟨m1,m2⟩:=Gu (o2:=(uj ds wl N s0).o) (us2:=fun id=>id<s0.nx+N) k1 (fun id=>by
   show(if wl.contains id=true then aa.no else s0.o id)=o' id\/_
   by_cases hw:wl.contains id=true
   ·right;simp only[uj];rw[if_pos hw]
   ·left;rw[if_neg hw,wo id (by simpa using hw),hwl id (by simpa using hw)]) (fun id h=>by rw[oK];exact e7 id h)
  have ht:=hs.tr.trans (k2.trans m2)
  refine hQ aC w' val ⟨m1,ht,hs.size,hs.defers.mono (k2.trans m2),fun i=> ?_⟩ (V.aP m2 _ _ k3)
  show V.den _ _ _ _ (if ds.contains i=true then V.ab else s0.env i) _
  by_cases hd:ds.contains i=true
  ·rw[if_pos hd];trivial
  ·rw[if_neg hd, <- eR i (by simpa using hd)];exact V.aP (k2.trans m2) _ _ (hs.env i)
 rcases h with⟨dd,x,abC,hP,pc,rfl,_,rfl⟩|⟨x,Δ,hH,rfl,rfl,mf⟩
 ·obtain⟨f1,f2,f3,f4,f5⟩:=cX hs.heap (V.a8 all) (cM all _ aW)
  have wK:=de f1 all dd _ f3 abC (V.aQ f2 _ _ aW)
  have eI:=hP.2 _ w vals (fun b hb=>hb.elim (f1.zE b) fun hl=>(f1.ours b hl).2) wK
  rw[eV hP.1]
  refine⟨fun hd=>by simp[dD]at hd,cT (eI.mono fun e w' ⟨hk,ho⟩=> ?_)⟩
  cases e with
  |returned val=>exact ho.elim
  |outgrown=>exact ho.elim
  |panicked ch=>
   obtain⟨k1,k2⟩:=fN hs.heap hk
   have ho:=R.ym (out:= .bB x) (B':=ak M φ ⟨s.o,us⟩) pc ho
   obtain⟨val,rfl,hd⟩:=ho
   exact fin φ w' s.o val (fun _ _=>rfl) k1 k2 hd
 ·have eI:=hH.2 s.o us M φ w vals (fun id aw=>⟨rfl,s7 id (mf id aw)⟩) hs.heap aW
  rw[eV hH.1]
  refine⟨fun hd=>by simp[dD]at hd,cT (eI.mono fun e w' ⟨aC,k1,k2,ho⟩=> ?_)⟩
  cases e with
  |returned val=>exact ho.elim
  |outgrown=>exact ho.elim
  |panicked ch=>
   obtain⟨val,rfl,hd⟩:=ho
   exact fin aC w' _ val (fun id aw=>yC fun y hy e=>by
    have:=LV y.1 (List.mem_map_of_mem hy)
    rw[e,aw]at this;cases this) k1 k2 hd
theorem fk(dW:∀i,V.den (ak M φ ⟨s.o,us⟩) φ ⟨s.o,us⟩ w (s.env i) (a.tmps.getD i undef)){ops:Array Oper}{o:Oper}{gd:Option (Nat×Bool)}{b:Bool}
 (hg:match o.guard with|none=>gd=none|some (j,want)=>∃d,rW ops j=some d/\gd=some (d,want)) (h:dI s gd b):Region.wanted o (yielded ops a.tmps)=b:=by
 unfold Region.wanted
 split at hg
 ·rename_i hn;simp only[hn];subst hg;exact h.symm
 ·rename_i j want hn
  simp only[hn]
  obtain⟨d,hd,rfl⟩:=hg
  unfold rW at hd
  unfold yielded
  simp only[hd,Option.bind_some]
  simp only[dI]at h
  have he:=dW d
  split at h
  ·rename_i c hv
   rw[hv]at he
   simp only[V.den,D.den]at he
   have:a.tmps[d]? =some (.bool c):=by
    rw[Array.getD_eq_getD_getElem?]at he
    cases hx:a.tmps[d]? with
    |none=>rw[hx]at he;simp[undef]at he
    |some x=>rw[hx]at he;simp at he;rw[he]
   simp only[this,h]
   cases c<;>cases want<;>rfl
  ·rename_i hv
   rw[hv]at he
   obtain⟨arr,c7,hn⟩:=he
   have:∀c,a.tmps[d]? ≠some (.bool c):=by
    exact N9
   subst h
   cases hx:a.tmps[d]? with
   |none=>rfl
   |some x=>cases x<;>first|(exact absurd hx (this _))|rfl
  ·exact h.elim
theorem fq{s s':S}{gd:Option (Nat×Bool)}{b:Bool}(h:∀d want,gd=some (d,want)->s'.env d=s.env d)(hg:dI s gd b):dI s' gd b:=by
 unfold dI at*
 cases gd with
 |none=>exact hg
 |some p=>obtain⟨d,want⟩:=p;simp only at hg|-;rw[h d want rfl];exact hg
theorem A3{s s':S}{x:Operand}(h:∀t,x= .tmp t->s'.env t=s.env t):s'.ev x=s.ev x:=by
 cases x<;>simp only[S.ev]
 exact h _ rfl
theorem uk{s s':S}{op:Op}{c:Call}{f:Operand}{g:FuncId}{first cap:List V}(hv:∀x∈op.operands,s'.ev x=s.ev x)(hc:op= .call c)(eP:c.callee= .value f)(vO:s.ev f= .func (.func g) first cap):
 s'.ev f= .func (.func g) first cap/\c.args.toList.map s'.ev=c.args.toList.map s.ev:=by
 subst hc
 exact⟨(hv f (by simp only[Op.operands,Call.operands,eP];exact Array.mem_append.2 (.inl aG))).trans vO,
  List.map_congr_left fun x hx=>hv x VQ⟩
theorem zK.frame {g:FuncId}{args:List V}{rd:List Nat}{o o':Nat->aa}{out:R}{Δ:List (Nat×aa)}(ho:∀id∈rd,o' id=o id)(h:zK P g args rd o out Δ):zK P g args rd o' out Δ:=
 ⟨h.1,fun o2 us M φ w vals h1 h2 h3=>h.2 o2 us M φ w vals (fun id aw=>⟨(h1 id aw).1.trans (ho id aw),(h1 id aw).2⟩) h2 h3⟩
theorem Da.frame {g:FuncId}{args:List V}{rd:List Nat}{o o':Nat->aa}{fr:Nat}{v:V}{Δ:List (Nat×aa)}(ho:∀id∈rd,o' id=o id)(h:Da P g args rd o fr v Δ):Da P g args rd o' fr v Δ:=
 ⟨h.1,fun o2 us M φ w vals h1 h2 h3=>h.2 o2 us M φ w vals (fun id aw=>⟨(h1 id aw).1.trans (ho id aw),(h1 id aw).2⟩) h2 h3⟩
theorem Aa{s s':S}{fr:Nat}{op:Op}{v:V}{Δ:List (Nat×aa)}{rd:List Nat}(hv:∀x∈op.operands,s'.ev x=s.ev x)(ho:∀id∈rd,s'.o id=s.o id)(s7:s'.nx=s.nx)(h:w7 P s fr op v Δ rd):∃xU,w7 P s' fr op v Δ xU:=by
 rcases h with⟨⟨xU,h⟩,mf⟩|⟨c,f,g,first,cap,rfl,eP,vO,h⟩
 ·exact⟨_, .inl ⟨⟨xU,by rw[C8 op hv (by rw[<- mf];exact ho)];exact h⟩,rfl⟩⟩
 ·obtain⟨hf,hm⟩:=uk hv rfl eP vO
  rcases h with⟨ds,rs,eR,hP,pf,mf,T8⟩|⟨rs,hH,pf,mf⟩|⟨ds,eR,hP,mf,T8⟩|⟨hH,mf⟩
  ·have hr:∀id∈V.aN (first++c.args.toList.map s.ev++cap),s'.o id=s.o id:=fun id aw=>ho id HS
   refine⟨_, .inr ⟨c,f,g,first,cap,rfl,eP,hf, .inl ⟨ds,rs,by rw[hm,gO _ hr];exact eR,hP,pf,rfl, ?_⟩⟩⟩
   exact NY
  ·exact⟨rd, .inr ⟨c,f,g,first,cap,rfl,eP,hf, .inr (.inl ⟨rs,by rw[hm];exact hH.frame ho,pf,by rw[s7];exact mf⟩)⟩⟩
  ·have hr:∀id∈V.aN (first++c.args.toList.map s.ev++cap),s'.o id=s.o id:=fun id aw=>ho id HS
   refine⟨_, .inr ⟨c,f,g,first,cap,rfl,eP,hf, .inr (.inr (.inl ⟨ds,by rw[hm,gO _ hr];exact eR,hP,rfl, ?_⟩))⟩⟩
   exact NY
  ·exact⟨rd, .inr ⟨c,f,g,first,cap,rfl,eP,hf, .inr (.inr (.inr ⟨by rw[hm];exact hH.frame ho,by rw[s7];exact mf⟩))⟩⟩
theorem A4{s s':S}{op:Op}{v:V}{ws rd:List Nat}(hv:∀x∈op.operands,s'.ev x=s.ev x)(ho:∀id∈rd,s'.o id=s.o id)(s7:s'.nx=s.nx)(h:A2 P s op v ws rd):A2 P s' op v ws rd:=by
 obtain⟨c,f,g,first,cap,rfl,eP,vO,h⟩:=h
 obtain⟨hf,hm⟩:=uk hv rfl eP vO
 refine⟨c,f,g,first,cap,rfl,eP,hf, ?_⟩
 rw[hm]
 rcases h with⟨ds,x,eR,hP,pc,pf,mf,LV⟩|⟨x,Δ,hH,pf,LV,mf⟩
 ·have hr:∀id∈V.aN (first++c.args.toList.map s.ev++cap),s'.o id=s.o id:=fun id aw=>ho id HS
  exact .inl ⟨ds,x,by rw[gO _ hr];exact eR,hP,pc,pf,by rw[mf];simp only[nW,eP,vO,hf,hm],LV⟩
 ·exact .inr ⟨x,Δ,hH.frame ho,pf,LV,by rw[s7];exact mf⟩
theorem um{ops:Array Oper}:∀ (l:List Oper) (l':List bK) (i:Nat) (o:Oper),kB n ops l=some l'->l[i]? =some o->Ig n ops o=some (bO l' i)
 |[],_,_,_,_,h=>by simp at h
 |x::l,l',i,o,h,hi=>by
  simp only[kB]at h
  split at h
  ·rename_i y ys hy hys
   injection h with h;subst h
   cases i with
   |zero=>simp at hi;subst hi;exact hy
   |succ i=>exact um l ys i o hys (by simpa using hi)
  ·cases h
theorem xa{ops:Array Oper}{o:Oper}{x:bK}(h:Ig n ops o=some x):x.op=o.op/\x.dst=o.dst/\gk n o.dst/\
 (match o.guard with|none=>x.gd=none|some (j,want)=>∃d,rW ops j=some d/\x.gd=some (d,want)):=by
 unfold Ig at h
 split at h
 ·rename_i hd
  have cG:gk n o.dst:=by
   unfold CF at hd;unfold gk
   split at hd<;>simp_all
  cases hg:o.guard with
  |none=>simp only[hg]at h;injection h with h;subst h;exact⟨rfl,rfl,cG,rfl⟩
  |some p=>
   obtain⟨j,want⟩:=p
   simp only[hg]at h
   cases OH:rW ops j with
   |none=>simp[OH]at h
   |some d=>simp only[OH]at h;injection h with h;subst h;exact⟨rfl,rfl,cG,d,OH,rfl⟩
 ·cases h
theorem oM{ops:Array Oper}{ao:Array Bool}(sa:∀k,k<ops.size->∀j∈bu ops k,j<k)(hs:ao.size=ops.size)(hr:Region.ready .any ops ao=[]):∀k,k<ops.size->ao.getD k false=true:=by
 intro k
 induction k using Nat.strongRecOn with
 |_ k ih=>
  intro hk
  cases hl:ao.getD k false with
  |true=>rfl
  |false=>
   have:k∈Region.ready .any ops ao:=by
    refine mem_ready.2 ⟨?_,ops[k],by simp[hk],fun e he hb=> ?_⟩
    ·simp only[Array.getD_eq_getD_getElem?]at hl|-
     rw[Array.getElem?_eq_getElem (by omega)]at hl|-
     simpa using hl
    ·have hm:e.on∈bu ops k:=by
      simp only[bu,Array.getElem?_eq_getElem hk,List.mem_map,List.mem_filter]
      exact⟨e,⟨Array.mem_toList_iff.2 he,hb⟩,rfl⟩
     exact ih _ (sa k hk _ hm) (by have:=sa k hk _ hm;omega)
   rw[hr]at this;cases this
theorem A5(hs:bT M cm H0 w0 n cx φ s a w):bT M cm H0 w0 n cx φ s a {w with drawn:=w.drawn+1}:=by
 obtain⟨k1,k2⟩:=fN (w':={w with drawn:=w.drawn+1}) hs.heap ⟨rfl,rfl,rfl,Nat.le_refl _,fun _ _ _=>rfl⟩
 exact⟨k1,hs.tr.trans k2,hs.size,hs.defers.mono k2,fun i=>V.aP k2 _ _ (hs.env i)⟩
theorem jZ{oc:Nat->bK}{ac:Nat->eW}{E:Nat->Bool}:∀k,(ek oc ac E s k).nx=s.nx
 |0=>rfl
 |k+1=>by
  simp only[ek]
  split
  ·cases ac k<;>exact jZ k
  ·exact jZ k
theorem EK{oc:Nat->bK}{ac:Nat->eW}{E:Nat->Bool}{t:Nat}:∀k,(∀j,j<k->(oc j).dst≠some t)->(ek oc ac E s k).env t=s.env t
 |0,_=>rfl
 |k+1,h=>by
  have ih:=EK (oc:=oc) (ac:=ac) (E:=E) (t:=t) k fun j hj=>h j ae
  simp only[ek]
  split
  ·rw[kj fun d hd e=>h k (by omega) (by rw[hd,e])];exact ih
  ·exact ih
theorem OK{oc:Nat->bK}{ac:Nat->eW}{E:Nat->Bool}{id:Nat}:∀k,(∀j,j<k->id∉ki (ac j))->(ek oc ac E s k).o id=s.o id
 |0,_=>rfl
 |k+1,h=>by
  have ih:=OK (oc:=oc) (ac:=ac) (E:=E) (id:=id) k fun j hj=>h j ae
  simp only[ek]
  split
  ·rw[mK (h k (by omega))];exact ih
  ·exact ih
theorem A6(aY:P.follows .mixedOrders=true){ops:Array Oper}{l:List bK}{id:Nat}(rl:kB n ops ops.toList=some l)(sa:∀k,k<ops.size->∀j∈bu ops k,j<k){ac:Nat->eW}{dl wl:List Nat}
 (hs:bT M cm H0 w0 n cx φ s a w) (Rb:∀i,i<ops.size->OJ P (ek (bO l) ac (fun _=>true) s i) (s.nx+i) (bO l i) (ac i))
 (Rc:∀i,i<ops.size->ac i= .eN->∃j∈bu ops i,(ac j).ok=false)
 {po:Nat->Nat->Prop} (EL:∀E:Nat->Bool,(∀k,k<ops.size->E k=true->∀j∈bu ops k,E j=true)->∀k,k<ops.size->(∀j∈bu ops k,E j=true)->∀j,po k j->E j=true) (A7:∀k,k<ops.size->∀j,po k j->j<k)
 (hc:∀i j,i<j->j<ops.size-> ¬po j i->Compat (bO l) ac (fun i=>vY (ac i)) i j)
 (hdl:∀i,i<ops.size->∀t,(bO l i).dst=some t->dl.contains t=true) (hwl:∀i,i<ops.size->∀id∈ki (ac i),wl.contains id=true)
 (LV:∀i v ws rd,i<ops.size->ac i= .bB v ws rd->∀id∈ws,wl.contains id=true)
 (hQ:(∀i,i<ops.size->(ac i).ok=true)->∀φ a w,bT M cm H0 w0 n cx φ ⟨(ek (bO l) ac (fun _=>true) s ops.size).env,(ek (bO l) ac (fun _=>true) s ops.size).o,s.nx+ops.size⟩ a w->Q .normal a w)
 (hX:∀i v ws rd,i<ops.size->ac i= .bB v ws rd->∀φ a w val,bT M cm H0 w0 n cx φ (uj dl wl ops.size s) a w->V.den (ak M φ (uj dl wl ops.size s).H) φ (uj dl wl ops.size s).H w v val->Q (.panic [{v:=val,recovered:=false}]) a w):
 (Code.region id ops true).wpIn (dD ro) k P Q a w:=by
 refine wpIn_region_any aY ?_
 have hs:=A5 hs
 generalize ({w with drawn:=w.drawn+1}:World)=w at hs
 let N:=ops.size
 let Ef (ao:Array Bool) (k:Nat):Bool:=ao.getD k false
 let Ej (ao:Array Bool) (j:Nat):Prop:=j<s.nx\/∃k,k<N/\Ef ao k=true/\j=s.nx+k
 have key:∀ (fuel:Nat) (ao:Array Bool) (φ:Place) (a:Act) (w:World),ao.size=N->ao.count true+fuel=N->(∀k,k<N->Ef ao k=true->∀j∈bu ops k,Ef ao j=true)->(∀k,k<N->Ef ao k=true->(ac k).ok=true)->
  sV M cm H0 w0 n cx φ (ek (bO l) ac (Ef ao) s N) (Ej ao) a w->wpAnyIn (dD ro) k P .any ops Q fuel ao a w:=by
  have fin:∀ (ao:Array Bool) (φ:Place) (a:Act) (w:World),(∀k,k<N->Ef ao k=true)->(∀k,k<N->Ef ao k=true->(ac k).ok=true)->sV M cm H0 w0 n cx φ (ek (bO l) ac (Ef ao) s N) (Ej ao) a w->Q .normal a w:=by
   intro ao φ a w aW Df hu
   have e:∀k,k<=N->ek (bO l) ac (Ef ao) s k=ek (bO l) ac (fun _=>true) s k:=by
    intro k
    induction k with
    |zero=>intro _;rfl
    |succ k ih=>intro hk;simp only[ek,aW k (by omega),ih (by omega)]
   rw[e N (Nat.le_refl _)]at hu
   obtain⟨k1,k2⟩:=jI (us':=fun id=>id<s.nx+N) hu.heap (fun id h=>by
    show id<s.nx+N
    rcases h with h|⟨k,hk,_,rfl⟩<;>omega)
   exact hQ (fun i hi=>Df i hi (aW i hi)) φ a w ⟨k1,hu.tr.trans k2,hu.size,hu.defers.mono k2,fun i=>V.aP k2 _ _ (hu.env i)⟩
  intro fuel
  induction fuel with
  |zero=>
   intro ao φ a w dV Gv qK Df hu
   have aW:∀k,k<N->Ef ao k=true:=by
    intro k hk
    have h1:ao.count true=ao.size:=ae
    rw[Array.count_eq_size]at h1
    have:=h1 ao[k] (Array.getElem_mem ae)
    simp only[Ef,Array.getD_eq_getD_getElem?]
    rw[Array.getElem?_eq_getElem (by omega)]
    simpa using this.symm
   refine⟨?_,fin ao φ a w aW Df hu⟩
   rw[List.eq_nil_iff_forall_not_mem]
   intro k hk
   obtain⟨h1,o,h2,_⟩:=mem_ready.1 hk
   have hkN:k<N:=(Array.getElem?_eq_some_iff.1 h2).1
   have:=aW k hkN
   simp only[Ef,Array.getD_eq_getD_getElem?]at this h1
   rw[Array.getElem?_eq_getElem (by omega)]at this h1
   simp only[Option.getD_some]at this h1
   rw[this]at h1;cases h1
  |succ fuel ih=>
   intro ao φ a w dV Gv qK Df hu
   refine⟨fun hr=>fin ao φ a w (oM sa dV hr) Df hu,fun i hi=> ?_⟩
   obtain⟨h1,o,h2,h3⟩:=mem_ready.1 hi
   have sW:i<N:=(Array.getElem?_eq_some_iff.1 h2).1
   have kV:Ef ao i=false:=by
    simp only[Ef,Array.getD_eq_getD_getElem?]at h1|-
    rw[Array.getElem?_eq_getElem (by omega)]at h1|-
    simpa using h1
   have IZ:∀j∈bu ops i,Ef ao j=true:=by
    exact QJ
   have I1:yG N po (Ef ao):=fun k hk iJ=>EL _ qK k hk (qK k hk iJ)
   obtain⟨Xf,ag2⟩:=agree (s:=s) A7 hc I1 sW kV (EL _ qK i sW IZ)
   obtain⟨g1,g2,g3,g4⟩:=xa (um _ _ i o rl wx)
   have cD: ¬Ej ao (s.nx+i):=by
    rintro(h|⟨k,_,hk,he⟩)
    ·omega
    ·have:k=i:=ae
     subst this;rw[kV]at hk;cases hk
   have De:∀k,Ef (ao.setIfInBounds i true) k=(Ef ao k||k==i):=by
    intro k
    simp only[Ef,Array.getD_eq_getD_getElem?]
    by_cases e:k=i
    ·subst e;simp[dV,sW]
    ·rw[Array.getElem?_setIfInBounds_ne (Ne.symm e)]
     have:(k==i)=false:=by simpa using e
     simp[this]
   have Re:=insert (s:=s) hc I1 sW kV De
   have Rf:∀k,k<N->Ef (ao.setIfInBounds i true) k=true->∀j∈bu ops k,Ef (ao.setIfInBounds i true) j=true:=by
    intro k hk iJ j hj
    rw[De]at iJ|-
    by_cases e:k=i
    ·subst e;simp[IZ j hj]
    ·have:(k==i)=false:=by simpa using e
     rw[this,Bool.or_false]at iJ
     simp[qK k hk iJ j hj]
   have I2:(ao.setIfInBounds i true).count true+fuel=N:=by
    have bW:i<ao.size:=ae
    have e1:ao.setIfInBounds i true=ao.set i true bW:=by simp[Array.setIfInBounds,bW]
    have e2:ao[i]=false:=by
     have:=kV
     simp only[Ef,Array.getD_eq_getD_getElem?]at this
     rw[Array.getElem?_eq_getElem bW]at this
     simpa using this
    rw[e1,Array.count_set bW,e2]
    simp
    omega
   have iI:(ac i).ok=true->∀aC a' w',sV M cm H0 w0 n cx aC (vF o.dst (ac i) (ek (bO l) ac (Ef ao) s N)) (fun id=>Ej ao id\/id=s.nx+i) a' w'->wpAnyIn (dD ro) k P .any ops Q fuel (ao.setIfInBounds i true) a' w':=by
    intro Xg aC a' w' zV
    refine ih _ aC a' w' (by simp[dV]) I2 Rf (fun k hk iJ=> ?_) ?_
    ·rw[De]at iJ
     by_cases e:k=i
     ·subst e;exact Xg
     ·have:(k==i)=false:=by simpa using e
      rw[this,Bool.or_false]at iJ
      exact Df k hk iJ
    rw[Re,g2]
    obtain⟨k1,k2⟩:=jI (us':=Ej (ao.setIfInBounds i true)) zV.heap (fun id h=>by
     rcases h with(h|⟨k,hk,iJ,rfl⟩)|rfl
     ·exact .inl h
     ·exact .inr ⟨k,hk,by rw[De,iJ];rfl,rfl⟩
     ·exact .inr ⟨i,sW,by rw[De];simp,rfl⟩)
    exact VT
   have Gw:∀d want,(bO l i).gd=some (d,want)->(ek (bO l) ac (Ef ao) s N).env d=(ek (bO l) ac (fun _=>true) s i).env d:=fun d want hd=>Xf d (by simp[eS,tmpsOf,hd])
   have aS:=Rb i sW
   have Ie:∀x∈(bO l i).op.operands,(ek (bO l) ac (Ef ao) s N).ev x=(ek (bO l) ac (fun _=>true) s i).ev x:=fun x hx=>A3 fun t ht=>Xf t (by
    subst ht
    simp only[eS,tmpsOf,List.mem_append,List.mem_filterMap]
    exact .inl (.inl ⟨.tmp t,Array.mem_toList_iff.2 hx,rfl⟩))
   have QV:(ek (bO l) ac (Ef ao) s N).nx=(ek (bO l) ac (fun _=>true) s i).nx:=(jZ N).trans (jZ i).symm
   unfold wpOpIn
   simp only[h2]
   cases vB:ac i with
   |skip=>
    rw[vB]at aS iI
    have hw:=fk hu.env g4 (fq Gw aS)
    simp only[hw,Bool.false_eq_true,if_false]
    refine⟨fun _ _=>trivial,iI rfl φ _ w ?_⟩
    have:=jd (v:= .bN []) (val:=undef) hu hu.heap (Trans.refl _ _ _) ⟨#[],rfl,rfl⟩ (dst:=o.dst) g3 rfl (us':=fun id=>Ej ao id\/id=s.nx+i) (fun id h=> .inl h)
    exact this
   |val v Δ rd=>
    rw[vB]at aS iI
    have hw:=fk hu.env g4 (fq Gw aS.1)
    exact Ws
   |bB v ws rd=>
    rw[vB]at aS
    have hw:=fk hu.env g4 (fq Gw aS.1)
    simp only[hw,if_true]
    have jB:=A4 Ie (fun id aw=>ag2 id (by rw[vB];exact aw)) QV aS.2
    refine I0 (s0:=s) (ds:=dl) (wl:=wl) (N:=N) hu (fun id h=> .inl (by rw[jZ]at h;exact h)) (fun id h=> ?_) g1.symm jB (fun t ht=> ?_) (fun id aw=> ?_) (LV i v ws rd sW vB) (jZ N).symm (fun aC w' val h1 h2=>hX i v ws rd sW vB aC a w' val h1 h2)
    ·rw[jZ]
     rcases h with h|⟨k,hk,_,rfl⟩<;>omega
    ·refine EK N fun j hj e=> ?_
     have:=hdl j hj t e
     rw[ht]at this;cases this
    ·refine OK N fun j hj hm=> ?_
     have:=hwl j hj id hm
     rw[aw]at this;cases this
   |eN=>
    exfalso
    obtain⟨j,hj,rm⟩:=Rc i sW vB
    have:=Df j (Nat.lt_trans (sa i sW j hj) sW) (IZ j hj)
    rw[rm]at this;cases this
 refine key ops.size _ φ a w (by simp[N]) (by simp[N,Array.count_replicate]) (fun k hk iJ=> ?_) (fun k hk iJ=> ?_) ?_
 ·exact zw4
 ·exact zw4
 ·have e:∀k,ek (bO l) ac (Ef (Array.replicate ops.size false)) s k=s:=by
   intro k
   induction k with
   |zero=>rfl
   |succ k ih=>
    have:Ef (Array.replicate ops.size false) k=false:=by
     exact NW
    simp only[ek,this,ih]
    rfl
  exact Wz
end
end
section
section
variable {P:Program}{M:Nat->Prop}{φ cm:Place}{H0:Hp}{w w' w0:World}{n:Nat}{s:S}{us:Nat->Prop}{a:Act}{cx:Cx}{ro:Option Nat}{k:Nat}
variable {Q:Exit->Act->World->Prop}
theorem Gx{ops:Array Oper}{po:Nat->Nat->Prop}{m:Nat}{X:V->S->Prop}{K:S->Prop}
 (sa:∀k,k<ops.size->∀j∈bu ops k,j<k)
 (EL:∀E:Nat->Bool,(∀k,k<ops.size->E k=true->∀j∈bu ops k,E j=true)->∀k,k<ops.size->(∀j∈bu ops k,E j=true)->∀j,po k j->E j=true)
 (EM:∀k,m<=k->k<ops.size->∀j,j<k->po k j)
 (hK:∀s φ a w,K s->bT M cm H0 w0 n cx φ s a w->Q .normal a w)
 (hX:∀v s' aC a' w' val,X v s'->bT M cm H0 w0 n cx aC s' a' w'->V.den (ak M aC s'.H) aC s'.H w' v val->Q (.panic [{v:=val,recovered:=false}]) a' w'):
 ∀ (d t:Nat) (s:S) (φ:Place) (ao:Array Bool) (a:Act) (w:World),t+d=ops.size->ao.size=ops.size->(∀k,k<ops.size->ao.getD k false=decide (k<t))->m<=t->
   bT M cm H0 w0 n cx φ s a w->yj P n ops X K (ops.toList.drop t) s->wpAnyIn (dD ro) k P .any ops Q d ao a w:=by
 intro d
 induction d with
 |zero=>
  intro t s φ ao a w ht dV hl Hw hs h
  have e:t=ops.size:=ae
  subst e
  refine⟨?_, ?_⟩
  ·rw[List.eq_nil_iff_forall_not_mem]
   intro j hj
   obtain⟨h1,o,h2,_⟩:=mem_ready.1 hj
   have hjN:j<ops.size:=(Array.getElem?_eq_some_iff.1 h2).1
   have:=hl j hjN
   simp only[Array.getD_eq_getD_getElem?]at this h1
   rw[Array.getElem?_eq_getElem (by omega)]at this h1
   simp only[Option.getD_some]at this h1
   rw[h1]at this
   simp[hjN]at this
  ·rw[List.drop_eq_nil_of_le (by simp)]at h
   exact hK s φ a w h hs
 |succ d ih=>
  intro t s φ ao a w ht dV hl Hw hs h
  have htN:t<ops.size:=ae
  refine⟨fun hr=> ?_,fun i hi=> ?_⟩
  ·have:=oM sa dV hr t htN
   rw[hl t htN]at this
   simp at this
  ·obtain⟨h1,o,h2,h3⟩:=mem_ready.1 hi
   have sW:i<ops.size:=(Array.getElem?_eq_some_iff.1 h2).1
   have kV:ao.getD i false=false:=by
    simp only[Array.getD_eq_getD_getElem?]at h1|-
    rw[Array.getElem?_eq_getElem (by omega)]at h1|-
    simpa using h1
   have hit:t<=i:=by
    have:=hl i sW
    rw[kV]at this
    have:=of_decide_eq_false this.symm
    omega
   have IZ:∀j∈bu ops i,ao.getD j false=true:=by
    exact QJ
   have qK:∀k,k<ops.size->ao.getD k false=true->∀j∈bu ops k,ao.getD j false=true:=by
    intro k hk iJ j hj
    have Oc:=sa k hk j hj
    rw[hl k hk]at iJ
    rw[hl j (by omega)]
    have:=of_decide_eq_true iJ
    exact decide_eq_true ae
   have hie:i=t:=by
    rcases Nat.eq_or_lt_of_le hit with e|e
    ·exact e.symm
    ·have:=EL (fun k=>ao.getD k false) qK i sW IZ t (EM i ae sW t e)
     rw[hl t htN]at this
     simp at this
   subst hie
   have A8:ops.toList.drop i=o::ops.toList.drop (i+1):=by
    have Q3:i<ops.toList.length:=by simpa using sW
    rw[List.drop_eq_getElem_cons Q3]
    have:ops.toList[i]=o:=by
     have:=(Array.getElem?_eq_some_iff.1 h2).2
     simpa using this
    rw[this]
   rw[A8]at h
   obtain⟨g1,g2⟩:=pR hs h
   have Ez:∀k,k<ops.size->(ao.setIfInBounds i true).getD k false=decide (k<i+1):=by
    intro k hk
    simp only[Array.getD_eq_getD_getElem?]
    by_cases e:k=i
    ·subst e;simp[dV,sW]
    ·rw[Array.getElem?_setIfInBounds_ne (Ne.symm e)]
     have:=hl k hk
     simp only[Array.getD_eq_getD_getElem?]at this
     rw[this]
     exact decide_eq_decide.2 ae
   have iI:∀s' aC a' w',yj P n ops X K (ops.toList.drop (i+1)) s'->bT M cm H0 w0 n cx aC s' a' w'->wpAnyIn (dD ro) k P .any ops Q d (ao.setIfInBounds i true) a' w':=
    fun s' aC a' w' hk jC=>ih (i+1) s' aC _ a' w' ae (by simp[dV]) Ez ae jC hk
   unfold wpOpIn
   simp only[h2]
   split
   ·rename_i hw
    exact wV hs (g1 hw) (fun s' aC a' w' hk jC=>iI s' aC a' w' hk jC) (fun v s' aC w' val hx jC hd=>hX v s' aC a w' val hx jC hd)
   ·rename_i hw
    obtain⟨cG,h3⟩:=g2 (by simpa using hw)
    exact⟨fun _ _=>trivial,iI _ _ _ _ h3 (AP hs cG)⟩
theorem Dg(aY:P.follows .mixedOrders=true){ops:Array Oper}{l:List bK}{id:Nat}(rl:kB n ops ops.toList=some l)(sa:∀k,k<ops.size->∀j∈bu ops k,j<k){ac:Nat->eW}{m:Nat}(hm:m<=ops.size){X:V->S->Prop}{K:S->Prop}
 (hs:bT M cm H0 w0 n cx φ s a w) (Rb:∀i,i<m->OJ P (ek (bO l) ac (fun _=>true) s i) (s.nx+i) (bO l i) (ac i))
 (Xh:∀i,i<m->(ac i).ok=true)
 {po:Nat->Nat->Prop} (EL:∀E:Nat->Bool,(∀k,k<ops.size->E k=true->∀j∈bu ops k,E j=true)->∀k,k<ops.size->(∀j∈bu ops k,E j=true)->∀j,po k j->E j=true) (A7:∀k,k<ops.size->∀j,po k j->j<k)
 (hc:∀i j,i<j->j<m-> ¬po j i->Compat (bO l) ac (fun i=>vY (ac i)) i j)
 (EM:∀k,m<=k->k<ops.size->∀j,j<k->po k j)
 (eg:yj P n ops X K (ops.toList.drop m) ⟨(ek (bO l) ac (fun _=>true) s m).env,(ek (bO l) ac (fun _=>true) s m).o,s.nx+m⟩)
 (hK:∀s φ a w,K s->bT M cm H0 w0 n cx φ s a w->Q .normal a w)
 (hX:∀v s' aC a' w' val,X v s'->bT M cm H0 w0 n cx aC s' a' w'->V.den (ak M aC s'.H) aC s'.H w' v val->Q (.panic [{v:=val,recovered:=false}]) a' w'):
 (Code.region id ops true).wpIn (dD ro) k P Q a w:=by
 refine wpIn_region_any aY ?_
 have hs:=A5 hs
 generalize ({w with drawn:=w.drawn+1}:World)=w at hs
 let N:=m
 let Ef (ao:Array Bool) (k:Nat):Bool:=ao.getD k false
 let Ej (ao:Array Bool) (j:Nat):Prop:=j<s.nx\/∃k,k<N/\Ef ao k=true/\j=s.nx+k
 have key:∀ (fuel:Nat) (ao:Array Bool) (φ:Place) (a:Act) (w:World),ao.size=ops.size->ao.count true+fuel=ops.size->(∀k,k<ops.size->Ef ao k=true->∀j∈bu ops k,Ef ao j=true)->(∀k,k<ops.size->Ef ao k=true->k<m)->
  sV M cm H0 w0 n cx φ (ek (bO l) ac (Ef ao) s N) (Ej ao) a w->wpAnyIn (dD ro) k P .any ops Q fuel ao a w:=by
  have fin:∀ (fuel:Nat) (ao:Array Bool) (φ:Place) (a:Act) (w:World),ao.size=ops.size->ao.count true+fuel=ops.size->(∀k,k<ops.size->Ef ao k=true->k<m)->(∀k,k<N->Ef ao k=true)->sV M cm H0 w0 n cx φ (ek (bO l) ac (Ef ao) s N) (Ej ao) a w->wpAnyIn (dD ro) k P .any ops Q fuel ao a w:=by
   intro fuel ao φ a w dV Gv bW aW hu
   have e:∀k,k<=N->ek (bO l) ac (Ef ao) s k=ek (bO l) ac (fun _=>true) s k:=by
    intro k
    induction k with
    |zero=>intro _;rfl
    |succ k ih=>intro hk;simp only[ek,aW k (by omega),ih (by omega)]
   rw[e N (Nat.le_refl _)]at hu
   obtain⟨k1,k2⟩:=jI (us':=fun id=>id<s.nx+N) hu.heap (fun id h=>by
    show id<s.nx+N
    rcases h with h|⟨k,hk,_,rfl⟩<;>omega)
   have hlv:∀k,k<ops.size->ao.getD k false=decide (k<m):=by
    intro k hk
    by_cases h:k<m
    ·rw[decide_eq_true h];exact aW k h
    ·rw[decide_eq_false h]
     cases hb:ao.getD k false with
     |false=>rfl
     |true=>exact absurd (bW k hk hb) h
   have hcm:ao.count true=m:=by
    have e1:ao=Array.ofFn (n:=ops.size) fun k=>decide (k.1<m):=by
     apply Array.ext
     ·simp[dV]
     ·intro k h1 h2
      have:=hlv k ae
      simp only[Array.getD_eq_getD_getElem?]at this
      rw[Array.getElem?_eq_getElem h1]at this
      simpa using this
    have e2:ao.toList=List.replicate m true++List.replicate (ops.size - m) false:=by
     apply List.ext_getElem?
     intro k
     by_cases hk:k<ops.size
     ·have h1:ao.toList[k]? =some (decide (k<m)):=by
       have:=hlv k hk
       simp only[Array.getD_eq_getD_getElem?]at this
       rw[Array.getElem?_eq_getElem (by omega)]at this
       simp only[Option.getD_some]at this
       rw[Array.getElem?_toList,Array.getElem?_eq_getElem (by omega),this]
      rw[h1]
      by_cases h:k<m
      ·rw[List.getElem?_append_left (by simpa using h)]
       simp[h]
      ·rw[List.getElem?_append_right (by simpa using(by omega:m<=k))]
       rw[List.length_replicate,List.getElem?_replicate,if_pos (by omega),decide_eq_false h]
     ·rw[List.getElem?_eq_none (by simp[dV];omega),List.getElem?_eq_none (by simp;omega)]
    rw[<- Array.count_toList,e2,List.count_append,List.count_replicate_self,List.count_replicate]
    simp
   exact Gx sa EL EM hK hX fuel m ⟨(ek (bO l) ac (fun _=>true) s m).env,(ek (bO l) ac (fun _=>true) s m).o,s.nx+m⟩ φ ao a w ae dV hlv (Nat.le_refl _) ⟨k1,hu.tr.trans k2,hu.size,hu.defers.mono k2,fun i=>V.aP k2 _ _ (hu.env i)⟩ eg
  intro fuel
  induction fuel with
  |zero=>
   intro ao φ a w dV Gv qK bW hu
   have aW:∀k,k<ops.size->Ef ao k=true:=by
    intro k hk
    have h1:ao.count true=ao.size:=ae
    rw[Array.count_eq_size]at h1
    have:=h1 ao[k] (Array.getElem_mem ae)
    simp only[Ef,Array.getD_eq_getD_getElem?]
    rw[Array.getElem?_eq_getElem (by omega)]
    simpa using this.symm
   exact fin 0 ao φ a w dV Gv bW (fun k hk=>aW k ae) hu
  |succ fuel ih=>
   intro ao φ a w dV Gv qK bW hu
   by_cases OL:∀k,k<m->Ef ao k=true
   ·exact fin (fuel+1) ao φ a w dV Gv bW OL hu
   have hex:∃j,j<m/\Ef ao j=false:=by
    apply Classical.byContradiction
    intro pq
    refine OL fun k hk=> ?_
    cases hb:Ef ao k with
    |true=>rfl
    |false=>exact absurd ⟨k,hk,hb⟩ pq
   obtain⟨j0,hj0,Xi⟩:=hex
   refine⟨fun hr=> ?_,fun i hi=> ?_⟩
   ·have:=oM sa dV hr j0 ae
    rw[show ao.getD j0 false=false from Xi]at this
    cases this
   obtain⟨h1,o,h2,h3⟩:=mem_ready.1 hi
   have hiS:i<ops.size:=(Array.getElem?_eq_some_iff.1 h2).1
   have kV:Ef ao i=false:=by
    simp only[Ef,Array.getD_eq_getD_getElem?]at h1|-
    rw[Array.getElem?_eq_getElem (by omega)]at h1|-
    simpa using h1
   have IZ:∀j∈bu ops i,Ef ao j=true:=by
    exact QJ
   have sW:i<N:=by
    apply Classical.byContradiction
    intro zG
    have zG:m<=i:=Nat.le_of_not_lt zG
    have:=EL _ qK i hiS IZ j0 (EM i zG hiS j0 ae)
    rw[Xi]at this;cases this
   have I1:yG N po (Ef ao):=fun k hk iJ=>EL _ qK k ae (qK k ae iJ)
   obtain⟨Xf,ag2⟩:=agree (s:=s) (n:=N) (fun k hk=>A7 k ae) hc I1 sW kV (EL _ qK i ae IZ)
   obtain⟨g1,g2,g3,g4⟩:=xa (um _ _ i o rl wx)
   have cD: ¬Ej ao (s.nx+i):=by
    rintro(h|⟨k,_,hk,he⟩)
    ·omega
    ·have:k=i:=ae
     subst this;rw[kV]at hk;cases hk
   have De:∀k,Ef (ao.setIfInBounds i true) k=(Ef ao k||k==i):=by
    intro k
    simp only[Ef,Array.getD_eq_getD_getElem?]
    by_cases e:k=i
    ·subst e;simp[dV,hiS]
    ·rw[Array.getElem?_setIfInBounds_ne (Ne.symm e)]
     have:(k==i)=false:=by simpa using e
     simp[this]
   have Re:=insert (s:=s) hc I1 sW kV De
   have Rf:∀k,k<ops.size->Ef (ao.setIfInBounds i true) k=true->∀j∈bu ops k,Ef (ao.setIfInBounds i true) j=true:=by
    intro k hk iJ j hj
    rw[De]at iJ|-
    by_cases e:k=i
    ·subst e;simp[IZ j hj]
    ·have:(k==i)=false:=by simpa using e
     rw[this,Bool.or_false]at iJ
     simp[qK k hk iJ j hj]
   have I2:(ao.setIfInBounds i true).count true+fuel=ops.size:=by
    have bW:i<ao.size:=ae
    have e1:ao.setIfInBounds i true=ao.set i true bW:=by simp[Array.setIfInBounds,bW]
    have e2:ao[i]=false:=by
     have:=kV
     simp only[Ef,Array.getD_eq_getD_getElem?]at this
     rw[Array.getElem?_eq_getElem bW]at this
     simpa using this
    rw[e1,Array.count_set bW,e2]
    simp
    omega
   have iI:(ac i).ok=true->∀aC a' w',sV M cm H0 w0 n cx aC (vF o.dst (ac i) (ek (bO l) ac (Ef ao) s N)) (fun id=>Ej ao id\/id=s.nx+i) a' w'->wpAnyIn (dD ro) k P .any ops Q fuel (ao.setIfInBounds i true) a' w':=by
    intro Xg aC a' w' zV
    refine ih _ aC a' w' (by simp[dV]) I2 Rf (fun k hk iJ=> ?_) ?_
    ·rw[De]at iJ
     by_cases e:k=i
     ·subst e;exact sW
     ·have:(k==i)=false:=by simpa using e
      rw[this,Bool.or_false]at iJ
      exact bW k hk iJ
    rw[Re,g2]
    obtain⟨k1,k2⟩:=jI (us':=Ej (ao.setIfInBounds i true)) zV.heap (fun id h=>by
     rcases h with(h|⟨k,hk,iJ,rfl⟩)|rfl
     ·exact .inl h
     ·exact .inr ⟨k,hk,by rw[De,iJ];rfl,rfl⟩
     ·exact .inr ⟨i,sW,by rw[De];simp,rfl⟩)
    exact VT
   have Gw:∀d want,(bO l i).gd=some (d,want)->(ek (bO l) ac (Ef ao) s N).env d=(ek (bO l) ac (fun _=>true) s i).env d:=fun d want hd=>Xf d (by simp[eS,tmpsOf,hd])
   have aS:=Rb i sW
   have Ie:∀x∈(bO l i).op.operands,(ek (bO l) ac (Ef ao) s N).ev x=(ek (bO l) ac (fun _=>true) s i).ev x:=fun x hx=>A3 fun t ht=>Xf t (by
    subst ht
    simp only[eS,tmpsOf,List.mem_append,List.mem_filterMap]
    exact .inl (.inl ⟨.tmp t,Array.mem_toList_iff.2 hx,rfl⟩))
   have QV:(ek (bO l) ac (Ef ao) s N).nx=(ek (bO l) ac (fun _=>true) s i).nx:=(jZ N).trans (jZ i).symm
   unfold wpOpIn
   simp only[h2]
   cases vB:ac i with
   |skip=>
    rw[vB]at aS iI
    have hw:=fk hu.env g4 (fq Gw aS)
    simp only[hw,Bool.false_eq_true,if_false]
    refine⟨fun _ _=>trivial,iI rfl φ _ w ?_⟩
    have:=jd (v:= .bN []) (val:=undef) hu hu.heap (Trans.refl _ _ _) ⟨#[],rfl,rfl⟩ (dst:=o.dst) g3 rfl (us':=fun id=>Ej ao id\/id=s.nx+i) (fun id h=> .inl h)
    exact this
   |val v Δ rd=>
    rw[vB]at aS iI
    have hw:=fk hu.env g4 (fq Gw aS.1)
    exact Ws
   |bB v ws rd=>
    have:=Xh i sW
    rw[vB]at this;cases this
   |eN=>
    have:=Xh i sW
    rw[vB]at this;cases this
 refine key ops.size _ φ a w aG (by simp[Array.count_replicate]) (fun k hk iJ=> ?_) (fun k hk iJ=> ?_) ?_
 ·exact zw4
 ·exact zw4
 ·have e:∀k,ek (bO l) ac (Ef (Array.replicate ops.size false)) s k=s:=by
   intro k
   induction k with
   |zero=>rfl
   |succ k ih=>
    have:Ef (Array.replicate ops.size false) k=false:=by
     exact NW
    simp only[ek,this,ih]
    rfl
  exact Wz
end
end
end Go.Proofs.YtlhemmpklhhgoaaGreat
