/-
  A PART OF THE PROOF. Conditions: none.
-/
import Derived.OrdersIn
import Derived.Test.YtnkamdiiakdkgaaGreatEt7
set_option linter.unusedSimpArgs false
set_option linter.unusedVariables false
namespace Go.Proofs.YtnkamdiiakdkgaaGreat
section
def ab.refs:ab->List Nat
 | .row cs=>V.aE cs
 | .loop _ _ env _ _ _ _ _=>V.aE env
 |_=>[]
def C3(R:List Nat)(o:Nat->ab):Nat->ab:=fun id=>if R.contains id=true then o id else .no
def Er(P:Program)(g:FuncId)(args:List V)(rd:List Nat)(o:Nat->ab)(out:R)(Δ:List (Nat×ab)):Prop:=
 Enters P g/\∀ (o':Nat->ab) (us:Nat->Prop) (M:Nat->Prop) (φ:Place) (w:World) (vals:Array Value),(∀id∈rd,o' id=o id/\us id)->aw M φ ⟨o',us⟩ w->V.az (ak M φ ⟨o',us⟩) φ ⟨o',us⟩ w args vals.toList->
  Calls P g vals w fun e w'=>∃aC,aw M aC ⟨put o' Δ,us⟩ w'/\Trans φ ⟨o',us⟩ w aC ⟨put o' Δ,us⟩ w'/\out.is (ak M aC ⟨put o' Δ,us⟩) w' e
def yi(P:Program)(g:FuncId)(args:List V)(rd:List Nat)(o:Nat->ab)(fr:Nat)(v:V)(Δ:List (Nat×ab)):Prop:=
 Enters P g/\∀ (o':Nat->ab) (us:Nat->Prop) (M:Nat->Prop) (φ:Place) (w:World) (vals:Array Value),(∀id∈rd,o' id=o id/\us id)-> ¬us fr->aw M φ ⟨o',us⟩ w->V.az (ak M φ ⟨o',us⟩) φ ⟨o',us⟩ w args vals.toList->
  Calls P g vals w fun e w'=>∃aC,aw M aC ⟨put o' Δ,fun id=>us id\/id=fr⟩ w'/\Trans φ ⟨o',us⟩ w aC ⟨put o' Δ,fun id=>us id\/id=fr⟩ w'/\∃val,e= .returned val/\V.den (ak M aC ⟨put o' Δ,fun id=>us id\/id=fr⟩) aC ⟨put o' Δ,fun id=>us id\/id=fr⟩ w' v val
mutual
theorem V.mG {B B':Nat->Prop}{φ aC:Place}{H H':Hp}{w:World}(hB:∀b, ¬B b-> ¬B' b):∀ (v:V) (val:Value),(∀id∈v.refs,H'.o id=H.o id/\aC id=φ id/\H'.us id)->V.den B φ H w v val->V.den B' aC H' w v val
 | .d x,val,_,h=>D.aK (w:=w) (w':=w) (fun b _ hn=>⟨rfl,hB b hn⟩) x val h
 | .bu,_,_,h=>h
 | .aa,_,_,_=>trivial
 | .eW,_,_,h=>h
 | .qn es,val,_,h=>⟨D.aK (w:=w) (w':=w) (fun b _ hn=>⟨rfl,hB b hn⟩) (.sl es) val h.1,h.2⟩
 | .agg cs,val,hr,h=>by
   obtain⟨a,rfl,h1,h2⟩:=h
   exact⟨a,rfl,V.fO hB cs _ vU h1,h2⟩
 | .bT cs,val,hr,h=>by
   obtain⟨a,rfl,h1⟩:=h
   exact⟨a,rfl,V.fO hB cs _ vU h1⟩
 | .ptr id off,val,hr,h=>by
   exact Rz
 | .osl id ep,val,hr,h=>by
   obtain⟨a,b,c⟩:=hr id zS
   obtain⟨h0,h1,h2⟩:=h
   refine⟨h0,c,fun e he=> ?_⟩
   rw[a]at he
   obtain⟨x,y⟩:=h2 e he
   exact⟨x,fun heq=>(y heq).trans b.symm⟩
 | .pe id ep i sz off,val,hr,h=>by
   obtain⟨a,b,c⟩:=hr id zS
   obtain⟨h0,h1,h2⟩:=h
   refine⟨h0,c,fun e he=> ?_⟩
   rw[a]at he
   obtain⟨x,y⟩:=h2 e he
   exact OC
 | .pp cs off,val,_,h=>by
   obtain⟨a,ev,h1,h2,h3,h5,h4⟩:=h
   exact WL
 | .func fn first cap,val,hr,h=>by
   obtain⟨f,c,rfl,h1,h2⟩:=h
   exact⟨f,c,rfl,V.fO hB first _ (fun id au=>hr id (by simp[V.refs,au])) h1,V.fO hB cap _ (fun id au=>hr id (by simp[V.refs,au])) h2⟩
 | .iface t x,val,hr,h=>by
   obtain⟨u,rfl,h⟩:=h
   exact⟨u,rfl,V.mG hB x u vU h⟩
 | .vX id off n,val,hr,h=>by
   exact Rz
 | .mp id,val,hr,h=>by
   obtain⟨a,b,c⟩:=hr id zS
   obtain⟨h0,h1,h2⟩:=h
   refine⟨h0,c,fun bE=> ?_⟩
   rw[a]at bE
   exact(h2 bE).trans b.symm
 | .iW id,val,hr,h=>by
   exact Rz
theorem V.fO {B B':Nat->Prop}{φ aC:Place}{H H':Hp}{w:World}(hB:∀b, ¬B b-> ¬B' b):∀ (vs:List V) (vals:List Value),(∀id∈V.aE vs,H'.o id=H.o id/\aC id=φ id/\H'.us id)->V.az B φ H w vs vals->V.az B' aC H' w vs vals
 |[],_,_,h=>h
 |v::vs,_,hr,h=>by
  obtain⟨u,us,rfl,h1,h2⟩:=h
  exact⟨u,us,rfl,V.mG hB v u (fun id au=>hr id (by simp[V.aE,au])) h1,V.fO hB vs us (fun id au=>hr id (by simp[V.aE,au])) h2⟩
end
theorem Gq{env:List V}{i id:Nat}(h:id∈(a7 env i).refs):id∈V.aE env:=by
 unfold a7 at h
 induction env generalizing i with
 |nil=>simp[V.refs]at h
 |cons v env ih=>
  cases i with
  |zero=>simp only[List.getD_cons_zero]at h;simp[V.aE,h]
  |succ i=>simp only[List.getD_cons_succ]at h;simp[V.aE,ih h]
theorem aM.refs {M M':Nat->Prop}{φ aC:Place}{H H':Hp}{w:World}{id:Nat}(hB:∀b, ¬ak M φ H b-> ¬ak M' aC H' b)(ho:H'.o id=H.o id)(dT:aC id=φ id)
 (hr:∀j∈(H.o id).refs,H'.o j=H.o j/\aC j=φ j/\H'.us j) (h:aM M φ H w id):aM M' aC H' w id:=by
 have hd:∀b,cS w b-> ¬ak M φ H b->w.heap[b]? =w.heap[b]? /\ ¬ak M' aC H' b:=fun b _ hn=>⟨rfl,hB b hn⟩
 unfold aM at*
 rw[ho]
 cases hx:H.o id with
 |no=>trivial
 |row cs=>
  simp only[hx]at h|-
  obtain⟨b,dG,ty,h1,h2,h3,h4⟩:=h
  exact⟨b,dG,ty,dT.trans h1,h2,V.fO hB cs _ (fun j hj=>hr j (by rw[hx];exact hj)) h3,h4⟩
 |arr ep ty sz es=>
  simp only[hx]at h|-
  obtain⟨h0,xs,h1,evs,h2,h3,h4⟩:=h
  exact⟨h0,xs,by rw[dT];exact h1,evs,h2,h3,D.aN hd es evs h4⟩
 |rz ep es=>
  simp only[hx]at h|-
  rw[dT]
  exact D.aK hd (.sl es) _ h
 |map kt vt l=>
  simp only[hx]at h|-
  obtain⟨b,es,clock,h1,h2,h4,h3⟩:=h
  exact⟨b,es,clock,dT.trans h1,h2,h4,aH.mono hd l _ h3⟩
 |gH l=>
  simp only[hx]at h|-
  rw[dT]
  exact D.aK hd (.mp _ _) _ h
 |oh l last=>
  simp only[hx]at h|-
  obtain⟨b,h1,h2⟩:=h
  exact⟨b,dT.trans h1,h2.mono hd rfl⟩
 |xG s pos=>
  simp only[hx]at h|-
  obtain⟨b,h1,h2⟩:=h
  exact⟨b,dT.trans h1,h2⟩
 |loop nf n env ps jn fl st FU=>
  simp only[hx]at h|-
  obtain⟨b,r,h1,h2,h0,h3,h4,h5,h6,h7,h8,h9⟩:=h
  exact⟨b,r,dT.trans h1,h2,h0,h3,h4,h5,h6,h7,h8,fun i=>V.mG hB _ _ (fun j hj=>hr j (by rw[hx];exact Gq hj)) (h9 i)⟩
section
variable {P:Program}
theorem C4{o o':Nat->ab}{Δ:List (Nat×ab)}{id:Nat}(h:o id=o' id):put o Δ id=put o' Δ id:=Es h
where Es {o o':Nat->ab}:∀ {Δ:List (Nat×ab)} {id:Nat},o id=o' id->put o Δ id=put o' Δ id
 |[],_,h=>h
 |x::Δ,id,h=>by
  simp only[put,List.foldl_cons]
  refine Es (Δ:=Δ) (o:=aD o x.1 x.2) (o':=aD o' x.1 x.2) ?_
  simp only[aG]
  split
  ·rfl
  ·exact h
theorem yj{o:Nat->ab}:∀ {Δ:List (Nat×ab)} {id:Nat},(∀x∈Δ,x.1≠id)->put o Δ id=o id
 |[],_,_=>rfl
 |x::Δ,id,h=>by
  have:=yj (o:=aD o x.1 x.2) (Δ:=Δ) (id:=id) (fun y hy=>h y oY)
  simp only[put,List.foldl_cons]at this|-
  rw[this];simp[Ne.symm (h x (by simp))]
theorem Er.mC {g:FuncId}{args:List V}{rd:List Nat}{o:Nat->ab}{nx:Nat}{out:R}{Δ:List (Nat×ab)}(tL:∀id∈rd,id<nx)(dB:∀id∈V.aE args,id∈rd)(l6:∀id∈rd,∀j∈(o id).refs,j∈rd)(Vk:∀x∈Δ,x.1∈rd)(Sd:∀x∈Δ,∀j∈x.2.refs,j∈rd)
 (h:cX P g args (C3 rd o) nx
  (fun v o1 _=>(∀id∈rd,o1 id=put o Δ id)/\∃vs rs,v=(match vs with|[v]=>v|vs=> .bT vs)/\bU o1 vs=some rs/\out= .ret rs/\∀id∈V.bc vs,id∉rd)
  (fun v o1 _=>(∀id∈rd,o1 id=put o Δ id)/\∃x,dC o1 v=some x/\out= .bB x/\∀id∈v.ids,id∉rd)):Er P g args rd o out Δ:=by
 refine⟨h.1,fun o' us M φ w vals ho hH hd=> ?_⟩
 let M1:Nat->Prop:=fun b=>M b\/∃id,id∉rd/\(o' id).live=true/\de (φ id)=some b
 let HR:Hp:=hp (C3 rd o) nx
 have tT:∀id,id∈rd->C3 rd o id=o' id:=fun id au=>by simp[C3,au,(ho id au).1]
 have rN:∀id,id∉rd->C3 rd o id= .no:=fun id au=>by simp[C3,au]
 have hB:∀b,ak M1 φ HR b↔ak M φ ⟨o',us⟩ b:=by
  intro b
  constructor
  ·rintro((h|⟨id,h1,h2,h3⟩)|⟨id,h1,h2⟩)
   ·exact .inl h
   ·exact .inr ⟨id,h2,h3⟩
   ·by_cases au:id∈rd
    ·exact .inr ⟨id,by show(o' id).live=true;rw[<- tT id au];exact h1,h2⟩
    ·have:HR.o id= .no:=rN id au
     rw[this]at h1;cases h1
  ·rintro(h|⟨id,h1,h2⟩)
   ·exact .inl (.inl h)
   ·by_cases au:id∈rd
    ·exact .inr ⟨id,by show(C3 rd o id).live=true;rw[tT id au];exact h1,h2⟩
    ·exact .inl (.inr ⟨id,au,h1,h2⟩)
 have Lw:∀id∈rd,HR.o id=o' id/\φ id=φ id/\HR.us id:=fun id au=>⟨tT id au,rfl,tL id au⟩
 have hHR:aw M1 φ HR w:=by
  refine⟨fun id=> ?_,fun id hn=> ?_,fun i j b hi hj bi bj=> ?_,fun b hb=> ?_,fun b hb=> ?_⟩
  ·by_cases au:id∈rd
   ·refine aM.refs (H:=⟨o',us⟩) (M:=M) (φ:=φ) (fun b hn hb=>hn ((hB b).1 hb)) (tT id au) rfl (fun j hj=>Lw j ?_) (hH.ok id)
    have:o' id=o id:=(ho id au).1
    exact l6 id au j (by rw[<- this];exact hj)
   ·unfold aM
    rw[show HR.o id= .no from rN id au];trivial
  ·exact rN id fun au=>hn (tL id au)
  ·have live:∀i,(HR.o i).live=true->i∈rd/\(o' i).live=true:=fun i hi=>by
    by_cases au:i∈rd
    ·exact⟨au,by rw[<- tT i au];exact hi⟩
    ·rw[show HR.o i= .no from rN i au]at hi;cases hi
   exact hH.apart i j b (live i hi).2 (live j hj).2 bi bj
  ·obtain⟨id,h1,h2⟩:=hb
   have au:id∈rd:=by
    by_cases au:id∈rd
    ·exact au
    ·rw[show HR.o id= .no from rN id au]at h1;cases h1
   rw[show HR.o id=o' id from tT id au]at h1
   obtain⟨k1,k2⟩:=hH.ours b ⟨id,h1,h2⟩
   refine⟨?_,k2⟩
   rintro(hM|⟨j,j1,j2,j3⟩)
   ·exact k1 hM
   ·exact j1 (hH.apart j id b j2 h1 j3 h2 ▸ au)
  ·rcases hb with hb|⟨id,h1,h2,h3⟩
   ·exact hH.zH b hb
   ·exact(hH.ours b ⟨id,h2,h3⟩).2
 have hdR:V.az (ak M1 φ HR) φ HR w args vals.toList:=V.fO (H:=⟨o',us⟩) (fun b hn hb=>hn ((hB b).1 hb)) _ _ (fun id au=>Lw id (dB id au)) hd
 refine(h.2 M1 φ w vals hHR hdR).mono ?_
 rintro e w' ⟨iI,o1,zN,v,k1,k2,k3⟩
 have main:(∀id∈rd,o1 id=put o Δ id)->∃aC,aw M aC ⟨put o' Δ,us⟩ w'/\Trans φ ⟨o',us⟩ w aC ⟨put o' Δ,us⟩ w'/\∀b,ak M aC ⟨put o' Δ,us⟩ b->M1 b\/∃id∈rd,(o1 id).live=true/\de (iI id)=some b:=by
  intro vf
  have nJ:∀id∈rd,put o' Δ id=o1 id:=fun id au=>(C4 (ho id au).1).trans (vf id au).symm
  have wv:∀id,id∉rd->put o' Δ id=o' id:=fun id au=>yj fun x hx e=>au (e ▸ Vk x hx)
  let Gh:Place:=fun id=>if id∈rd then iI id else φ id
  have yk:∀id∈rd,Gh id=iI id:=fun id au=>if_pos au
  have AV:∀id,id∉rd->Gh id=φ id:=fun id au=>if_neg au
  let H2:Hp:=⟨put o' Δ,us⟩
  have cz:∀b,cw Gh H2 b->(∃id∈rd,(o1 id).live=true/\de (iI id)=some b)\/∃id,id∉rd/\(o' id).live=true/\de (φ id)=some b:=by
   rintro b ⟨id,h1,h2⟩
   by_cases au:id∈rd
   ·exact .inl ⟨id,au,by rw[<- nJ id au];exact h1,by rw[<- yk id au];exact h2⟩
   ·exact .inr ⟨id,au,by rw[<- wv id au];exact h1,by rw[<- AV id au];exact h2⟩
  have hB2:∀b,ak M Gh H2 b->ak M1 iI (hp o1 zN) b:=by
   rintro b (hb|hb)
   ·exact .inl (.inl hb)
   ·rcases cz b hb with⟨id,h1,h2,h3⟩|⟨id,h1,h2,h3⟩
    ·exact .inr ⟨id,h2,h3⟩
    ·exact .inl (.inr ⟨id,h1,h2,h3⟩)
  have Yp:dH φ ⟨o',us⟩ Gh H2:=by
   refine⟨fun id h=>h,fun id hu hr=> ?_,fun id e' hu he=> ?_⟩
   ·by_cases au:id∈rd
    ·rw[show H2.o id=o1 id from nJ id au]at hr
     obtain⟨a,b⟩:=k2.rel.row id (tL id au) hr
     rw[show HR.o id=o' id from tT id au]at a
     exact⟨a,(yk id au).trans b⟩
    ·rw[show H2.o id=o' id from wv id au]at hr
     exact⟨hr,AV id au⟩
   ·by_cases au:id∈rd
    ·rw[show H2.o id=o1 id from nJ id au]at he
     obtain⟨e0,a,b,c⟩:=k2.rel.ep id e' (tL id au) he
     rw[show HR.o id=o' id from tT id au]at a
     exact⟨e0,a,b,fun heq=>(yk id au).trans (c heq)⟩
    ·rw[show H2.o id=o' id from wv id au]at he
     exact⟨e',he,Nat.le_refl _,fun _=>AV id au⟩
  have zJ:∀b,cS w b-> ¬ak M φ ⟨o',us⟩ b->w'.heap[b]? =w.heap[b]? /\ ¬ak M Gh H2 b:=by
   intro b hc hn
   obtain⟨a,c⟩:=k2.blocks (M:=M1) b hc (fun hb=>hn ((hB b).1 hb))
   exact⟨a,fun hb=>c (hB2 b hb)⟩
  have vB:∀b,b<w.heap.size-> ¬cw φ HR b->w'.heap[b]? =w.heap[b]? :=fun b hb hl=>k2.keep.block b hb hl
  have ht:Trans φ ⟨o',us⟩ w Gh H2 w':=by
   refine⟨⟨k2.keep.os,k2.keep.tape,k2.keep.output,k2.keep.size,fun b hb hl=>vB b hb fun⟨id,h1,h2⟩=>hl ?_⟩,fun b hb=> ?_,Yp⟩
   ·by_cases au:id∈rd
    ·exact⟨id,by show(o' id).live=true;rw[<- tT id au];exact h1,h2⟩
    ·rw[show HR.o id= .no from rN id au]at h1;cases h1
   ·rcases cz b hb with⟨id,h1,h2,h3⟩|⟨id,h1,h2,h3⟩
    ·rcases k2.grow b ⟨id,h2,h3⟩with⟨j,j1,j2⟩|zK
     ·by_cases au:j∈rd
      ·exact .inl ⟨j,by show(o' j).live=true;rw[<- tT j au];exact j1,j2⟩
      ·rw[show HR.o j= .no from rN j au]at j1;cases j1
     ·exact .inr zK
    ·exact .inl ⟨id,h2,h3⟩
  refine⟨Gh,⟨fun id=> ?_,fun id hn=> ?_,fun i j b hi hj bi bj=> ?_,fun b hb=> ?_,fun b hb=>Nat.lt_of_lt_of_le (hH.zH b hb) k2.keep.size⟩,ht,fun b hb=> ?_⟩
  ·by_cases au:id∈rd
   ·refine aM.refs (H:=hp o1 zN) (M:=M1) (φ:=iI) (fun b hn hb=>hn (hB2 b hb)) (nJ id au) (yk id au) (fun j hj=> ?_) (k1.ok id)
    have HA:j∈rd:=by
     have e1:o1 id=put o Δ id:=vf id au
     have hj:j∈(put o Δ id).refs:=by rw[<- e1];exact hj
     have key:∀ (Et:List (Nat×ab)) (q:Nat->ab),(∀x∈Et,∀j∈x.2.refs,j∈rd)->(∀j∈(q id).refs,j∈rd)->∀j∈(put q Et id).refs,j∈rd:=by
      intro Et
      induction Et with
      |nil=>intro q _ h2;exact h2
      |cons x Et ih=>
       intro q h1 h2
       simp only[put,List.foldl_cons]
       refine ih (aD q x.1 x.2) (fun y hy=>h1 y oY) ?_
       simp only[aG]
       split
       ·exact h1 x aJ
       ·exact h2
     exact key Δ o Sd (l6 id au) j hj
    exact⟨nJ j HA,yk j HA,(ho j HA).2⟩
   ·exact aM.Af zJ Yp (wv id au) (AV id au) (fun hl b hb=>vB b (hH.ours b ⟨id,hl,hb⟩).2 fun⟨j,j1,j2⟩=>by
     by_cases hj:j∈rd
     ·rw[show HR.o j=o' j from tT j hj]at j1
      exact au (hH.apart id j b hl j1 hb j2 ▸ hj)
     ·rw[show HR.o j= .no from rN j hj]at j1;cases j1) (hH.ok id)
  ·have au:id∉rd:=fun au=>hn (ho id au).2
   exact(wv id au).trans (hH.fresh id hn)
  ·by_cases e1:i∈rd<;>by_cases e2:j∈rd
   ·refine k1.apart i j b ?_ ?_ (by rw[<- yk i e1];exact bi) (by rw[<- yk j e2];exact bj)
    ·show(o1 i).live=true;rw[<- nJ i e1];exact hi
    ·show(o1 j).live=true;rw[<- nJ j e2];exact hj
   ·exfalso
    refine(k1.ours b ⟨i,by show(o1 i).live=true;rw[<- nJ i e1];exact hi,by rw[<- yk i e1];exact bi⟩).1 (.inr ⟨j,e2,by rw[<- wv j e2];exact hj,by rw[<- AV j e2];exact bj⟩)
   ·exfalso
    refine(k1.ours b ⟨j,by show(o1 j).live=true;rw[<- nJ j e2];exact hj,by rw[<- yk j e2];exact bj⟩).1 (.inr ⟨i,e1,by rw[<- wv i e1];exact hi,by rw[<- AV i e1];exact bi⟩)
   ·exact hH.apart i j b (by show(o' i).live=true;rw[<- wv i e1];exact hi) (by show(o' j).live=true;rw[<- wv j e2];exact hj) (by rw[<- AV i e1];exact bi) (by rw[<- AV j e2];exact bj)
  ·rcases cz b hb with⟨id,h1,h2,h3⟩|⟨id,h1,h2,h3⟩
   ·obtain⟨a,c⟩:=k1.ours b ⟨id,h2,h3⟩
    exact⟨fun hM=>a (.inl hM),c⟩
   ·obtain⟨a,c⟩:=hH.ours b ⟨id,h2,h3⟩
    exact⟨a,Nat.lt_of_lt_of_le c k2.keep.size⟩
  ·rcases hb with hb|hb
   ·exact .inl (.inl hb)
   ·rcases cz b hb with h|h
    ·exact .inr h
    ·exact .inl (.inr h)
 have res:∀ (vs:List V) (xs:List D) (us':List Value),(∀id∈rd,o1 id=put o Δ id)->bU o1 vs=some xs->(∀id∈V.bc vs,id∉rd)->V.az (ak M1 iI (hp o1 zN)) iI (hp o1 zN) w' vs us'->
  ∃aC,aw M aC ⟨put o' Δ,us⟩ w'/\Trans φ ⟨o',us⟩ w aC ⟨put o' Δ,us⟩ w'/\D.az (ak M aC ⟨put o' Δ,us⟩) w' xs us':=by
  intro vs xs us' vf h1 acj h2
  obtain⟨f1,f2,f3,f4,f5⟩:=cF k1 (V.bc vs) (cK vs _ h2)
  have h3:=c0 f1 vs xs us' f3 h1 (V.aN f2 _ _ h2)
  obtain⟨aC,m1,m2,m3⟩:=main vf
  refine⟨aC,m1,m2,D.aN (w:=w') (w':=w') (fun b _ hn=>⟨rfl,fun hb=>hn ?_⟩) xs us' h3⟩
  rcases m3 b hb with hb|⟨id,i1,i2,i3⟩
  ·exact .inl hb
  ·exact .inr ⟨id,by rw[f4 id fun hm=>acj id hm i1];exact i2,i3⟩
 cases e with
 |outgrown=>exact k3.elim
 |panicked ch=>
  obtain⟨val,rfl,g1,vf,x,g2,rfl,g3⟩:=k3
  obtain⟨aC,m1,m2,m3⟩:=res [v] [x] [val] vf (by simp[bU,g2]) (by simpa[V.bc]using g3) ⟨val,[],rfl,g1,rfl⟩
  obtain⟨u,us2,he,h2,_⟩:=m3
  simp at he;obtain⟨rfl,rfl⟩:=he
  exact⟨aC,m1,m2,val,rfl,h2⟩
 |returned val=>
  obtain⟨g1,vf,vs,rs,rfl,g2,rfl,g3⟩:=k3
  match vs,g1,g2,g3 with
  |[],g1,g2,g3=>
   obtain⟨arr,rfl,hv⟩:=g1
   simp only[bU,Option.some.injEq]at g2;subst g2
   obtain⟨aC,m1,m2,m3⟩:=res [] [] arr.toList vf rfl (by simp[V.bc]) hv
   exact⟨aC,m1,m2,arr,rfl,m3⟩
  |[v],g1,g2,g3=>
   obtain⟨aC,m1,m2,m3⟩:=res [v] rs [val] vf g2 g3 ⟨val,[],rfl,g1,rfl⟩
   refine⟨aC,m1,m2, ?_⟩
   cases rs with
   |nil=>cases m3
   |cons x l=>
    obtain⟨u,us2,he,h2,h3⟩:=m3
    simp at he;obtain⟨rfl,rfl⟩:=he
    cases l with
    |nil=>exact h2
    |cons y l=>obtain⟨_,_,h,_⟩:=h3;cases h
  |v::v2::l,g1,g2,g3=>
   obtain⟨arr,rfl,hv⟩:=g1
   obtain⟨aC,m1,m2,m3⟩:=res (v::v2::l) rs arr.toList vf g2 g3 hv
   refine⟨aC,m1,m2, ?_⟩
   have hl:=D.ax _ _ m3
   have Vi:=V.ax _ _ hv
   match rs,hl,m3 with
   |[],hl,_=>exact DY
   |[x],hl,_=>exact DY
   |x::y::l,_,m3=>exact⟨arr,rfl,m3⟩
end
end
section
inductive eT where
 |skip|val (v:V) (Δ:List (Nat×ab)) (rd:List Nat)|bB (v:V) (ws rd:List Nat)|de
 deriving Inhabited
def eT.ok:eT->Bool
 | .skip| .val .. =>true
 |_=>false
def vi(dst:Option Tmp)(x:eT)(s:S):S:=
 match x with
 | .skip=>⟨aU s.env dst (.bT []),s.o,s.nx⟩
 | .val v Δ _=>⟨aU s.env dst v,put s.o Δ,s.nx⟩
 | .bB .. | .de=>⟨aU s.env dst .aa,s.o,s.nx⟩
def kx:eT->List Nat
 | .val _ Δ _=>Δ.map (·.1)
 |_=>[]
def vC:eT->List Nat
 | .val _ _ rd=>rd
 | .bB _ _ rd=>rd
 |_=>[]
def Yq(P:Program)(g:FuncId)(ds:List D)(v:V):Prop:=
 Enters P g/\∀ (M:Nat->Prop) (w:World) (vals:Array Value),(∀b,M b->b<w.heap.size)->D.az M w ds vals.toList->
  Calls P g vals w fun e w'=>dx (fun _=>False) w w'/\∃val,e= .returned val/\∀φ H,V.den M φ H w' v val
theorem Yq.mC {P:Program}{g:FuncId}{ds:List D}{v:V}(hr:v.refs=[])(h:cX P g (ds.map .d) (fun _=> .no) 0 (fun v' _ _=>v'=v) (fun _ _ _=>False)):Yq P g ds v:=by
 refine⟨h.1,fun M w vals hM hd=> ?_⟩
 let cf:Place:=fun _=> .nilFunc
 have vB:∀b, ¬cw cf (hp (fun _=> .no) 0) b:=by rintro b ⟨id,hl,_⟩;simp[hp,ab.live]at hl
 refine(h.2 M cf w vals (kT cf hM) ((V.b8 _ _).2 (D.aN (w:=w) (w':=w) (B:=M) (fun b _ hB=>⟨rfl,fun h=>h.elim hB (vB b)⟩) _ _ hd))).mono ?_
 rintro e w' ⟨aC,o',nx',v',k1,k2,k3⟩
 refine⟨⟨k2.keep.os,k2.keep.tape,k2.keep.output,k2.keep.size,fun k hk _=>k2.keep.block k hk (vB k)⟩, ?_⟩
 cases e with
 |outgrown=>exact k3.elim
 |panicked ch=>obtain⟨_,_,_,h⟩:=k3;exact h.elim
 |returned val=>
  obtain⟨g1,rfl⟩:=k3
  exact⟨val,rfl,fun φ H=>V.mG (B:=ak M aC (hp o' nx')) (φ:=aC) (H:=hp o' nx') (fun b hb hm=>hb (.inl hm)) v' val (fun id au=>by rw[hr]at au;cases au) g1⟩
def wH(P:Program)(s:S)(fr:Nat)(op:Op)(v:V)(Δ:List (Nat×ab))(rd:List Nat):Prop:=
 ((∃sJ,fS P s fr op=some (v,Δ,sJ))/\rd=nP s op)\/
 (∃c f g first cap,op= .call c/\c.callee= .value f/\s.ev f= .func (.func g) first cap/\
  ((∃ds rs,bU s.o (first++c.args.toList.map s.ev++cap)=some ds/\aV P g ds (.ret rs)/\v=iX rs/\rd=nP s op/\
    (Δ=cc s.o (V.bc (first++c.args.toList.map s.ev++cap))\/D.jv rs=true/\Δ=[]))\/
   (∃rs,Er P g (first++c.args.toList.map s.ev++cap) rd s.o (.ret rs) Δ/\v=iX rs/\∀id∈rd,id<s.nx)\/
   (∃ds,bU s.o (first++c.args.toList.map s.ev++cap)=some ds/\Yq P g ds v/\rd=nP s op/\Δ=cc s.o (V.bc (first++c.args.toList.map s.ev++cap)))\/
   (yi P g (first++c.args.toList.map s.ev++cap) rd s.o fr v Δ/\∀id∈rd,id<s.nx)))
def AW(P:Program)(s:S)(op:Op)(v:V)(ws rd:List Nat):Prop:=
 ∃c f g first cap,op= .call c/\c.callee= .value f/\s.ev f= .func (.func g) first cap/\
  ((∃ds x,bU s.o (first++c.args.toList.map s.ev++cap)=some ds/\aV P g ds (.bB x)/\x.flat=true/\v= .d x/\rd=nP s op/\ws=[])\/
   (∃x Δ,Er P g (first++c.args.toList.map s.ev++cap) rd s.o (.bB x) Δ/\v= .d x/\ws=Δ.map (·.1)/\∀id∈rd,id<s.nx))
def dF(s:S)(gd:Option (Nat×Bool))(b:Bool):Prop:=
 match gd with
 |none=>b=true
 |some (d,want)=>match s.env d with
  | .d (.bool c)=>b=(c==want)
  | .bT []=>b=false
  |_=>False
def Pf(P:Program)(s:S)(fr:Nat)(o:bH)(x:eT):Prop:=
 match x with
 | .skip=>dF s o.gd false
 | .val v Δ rd=>dF s o.gd true/\wH P s fr o.op v Δ rd
 | .bB v ws rd=>dF s o.gd true/\AW P s o.op v ws rd
 | .de=>True
def eg(oc:Nat->bH)(ac:Nat->eT)(E:Nat->Bool)(s:S):Nat->S
 |0=>s
 |k+1=>if E k then vi (oc k).dst (ac k) (eg oc ac E s k)else eg oc ac E s k
structure Compat (oc:Nat->bH) (ac:Nat->eT) (R:Nat->List Nat) (i j:Nat):Prop where
 di:∀d,(oc i).dst=some d->d∉eM (oc j)
 dj:∀d,(oc j).dst=some d->d∉eM (oc i)
 wi:∀id∈kx (ac i),id∉R j/\id∉kx (ac j)
 wj:∀id∈kx (ac j),id∉R i
section
variable {P:Program}{oc:Nat->bH}{ac:Nat->eT}{s:S}{n:Nat}{E:Nat->Bool}{R:Nat->List Nat}{pr:Nat->Nat->Prop}
theorem C5{env:Nat->V}{dst:Option Tmp}{v:V}{t:Nat}(h:∀d,dst=some d->d≠t):aU env dst v t=env t:=by
 cases dst with
 |none=>rfl
 |some d=>simp only[aU,aG];rw[if_neg (fun e=>h d rfl e.symm)]
theorem fP{o:Nat->ab}:∀ {Δ:List (Nat×ab)} {id:Nat},id∉Δ.map (·.1)->put o Δ id=o id
 |[],_,_=>rfl
 |x::Δ,id,h=>by
  simp only[List.map_cons,List.mem_cons,not_or]at h
  have:=fP (o:=aD o x.1 x.2) (Δ:=Δ) h.2
  simp only[put,List.foldl_cons]at this|-
  rw[this];simp[h.1]
theorem yl{o o':Nat->ab}:∀ {Δ:List (Nat×ab)} {id:Nat},id∈Δ.map (·.1)\/o id=o' id->put o Δ id=put o' Δ id
 |[],_,h=>by rcases h with h|h;· simp at h
             ·exact h
 |x::Δ,id,h=>by
  simp only[put,List.foldl_cons]
  refine yl (Δ:=Δ) (o:=aD o x.1 x.2) (o':=aD o' x.1 x.2) ?_
  simp only[List.map_cons,List.mem_cons]at h
  simp only[aG]
  by_cases e:id=x.1
  ·right;simp[e]
  ·rcases h with(h|h)|h
   ·exact absurd h e
   ·exact .inl h
   ·right;simp[e,h]
theorem ky{dst:Option Tmp}{x:eT}{t:Nat}(h:∀d,dst=some d->d≠t):(vi dst x s).env t=s.env t:=by
 cases x<;>exact C5 h
theorem mH{dst:Option Tmp}{x:eT}{id:Nat}(h:id∉kx x):(vi dst x s).o id=s.o id:=by
 cases x with
 |val v Δ rd=>exact fP h
 |_=>rfl
theorem ym{dst:Option Tmp}{x:eT}{s':S}{t:Nat}(h:s.env t=s'.env t):(vi dst x s).env t=(vi dst x s').env t:=by
 cases x<;>cases dst<;>simp only[vi,aU,aG]<;>first|exact h|(split<;>first|rfl|exact h)
theorem C6{dst:Option Tmp}{x:eT}{s':S}{id:Nat}(h:s.o id=s'.o id):(vi dst x s).o id=(vi dst x s').o id:=by
 cases x with
 |val v Δ rd=>exact yl (.inr h)
 |_=>exact h
theorem put_comm{o:Nat->ab}{Δ Et:List (Nat×ab)}(h:∀id∈Δ.map (·.1),id∉Et.map (·.1)):put (put o Δ) Et=put (put o Et) Δ:=by
 funext id
 by_cases h1:id∈Δ.map (·.1)
 ·rw[fP (h id h1)]
  exact yl (.inl h1)
 ·rw[fP (Δ:=Δ) h1]
  by_cases h2:id∈Et.map (·.1)
  ·exact yl (.inl h2)
  ·rw[fP h2,fP h2,fP h1]
theorem wI{env:Nat->V}{d d':Option Tmp}{v v':V}(h:∀t,d=some t->d'≠some t):aU (aU env d v) d' v'=aU (aU env d' v') d v:=by
 cases d with
 |none=>rfl
 |some t=>
  cases d' with
  |none=>rfl
  |some t'=>
   have jY:t'≠t:=fun e=>h t rfl (by rw[e])
   funext i
   simp only[aU,aG]
   by_cases e1:i=t<;>by_cases e2:i=t'
   ·exact absurd (e2.symm.trans e1) jY
   all_goals simp[e1,e2]
   ·intro e;exact absurd e.symm jY
   ·intro e;exact absurd e jY
theorem Ja{d d':Option Tmp}{x x':eT}(hd:∀t,d=some t->d'≠some t)(hw:∀id∈kx x,id∉kx x'):vi d x (vi d' x' s)=vi d' x' (vi d x s):=by
 cases x<;>cases x'<;>simp only[vi]<;>first
  |rw[wI hd,put_comm hw]
  |rw[wI hd]
def yn(n:Nat)(pr:Nat->Nat->Prop)(E:Nat->Bool):Prop:=∀k,k<n->E k=true->∀j,pr k j->E j=true
theorem agree(_:∀k,k<n->∀j,pr k j->j<k)(hc:∀i j,i<j->j<n-> ¬pr j i->Compat oc ac R i j)(hE:yn n pr E){i:Nat}(hi:i<n)(l5:E i=false)(Jb:∀j,pr i j->E j=true):
 (∀t∈eM (oc i),(eg oc ac E s n).env t=(eg oc ac (fun _=>true) s i).env t)/\(∀id∈R i,(eg oc ac E s n).o id=(eg oc ac (fun _=>true) s i).o id):=by
 have a:∀k,k<=i->(∀t∈eM (oc i),(eg oc ac E s k).env t=(eg oc ac (fun _=>true) s k).env t)/\(∀id∈R i,(eg oc ac E s k).o id=(eg oc ac (fun _=>true) s k).o id):=by
  intro k
  induction k with
  |zero=>intro _;exact⟨fun _ _=>rfl,fun _ _=>rfl⟩
  |succ k ih=>
   intro hk
   obtain⟨h1,h2⟩:=ih ae
   simp only[eg,if_true]
   by_cases iQ:E k=true
   ·simp only[iQ,if_true]
    exact⟨fun t ht=>ym (h1 t ht),fun id au=>C6 (h2 id au)⟩
   ·have O2: ¬pr i k:=fun hm=>iQ (Jb k hm)
    have c:=hc k i ae hi O2
    simp only[iQ]
    refine⟨fun t ht=> ?_,fun id au=> ?_⟩
    ·rw[ky fun d hd e=>c.di d hd (e ▸ ht)];exact h1 t ht
    ·rw[mH fun hm=>(c.wi id hm).1 au];exact h2 id au
 have b:∀k,i<=k->k<=n->(∀t∈eM (oc i),(eg oc ac E s k).env t=(eg oc ac (fun _=>true) s i).env t)/\(∀id∈R i,(eg oc ac E s k).o id=(eg oc ac (fun _=>true) s i).o id):=by
  intro k Mq
  induction Mq with
  |refl=>intro _;exact a i (Nat.le_refl _)
  | @step k Mq ih=>
    intro hk
    have Mq:i<=k:=Mq
    obtain⟨h1,h2⟩:=ih ae
    simp only[eg]
    by_cases iQ:E k=true
    ·have jY:i≠k:=fun e=>by rw[e,iQ]at l5;cases l5
     have O2: ¬pr k i:=fun hm=>by have:=hE k ae iQ i hm;rw[l5]at this;cases this
     have c:=hc i k ae ae O2
     simp only[iQ,if_true]
     refine⟨fun t ht=> ?_,fun id au=> ?_⟩
     ·rw[ky fun d hd e=>c.dj d hd (e ▸ ht)];exact h1 t ht
     ·rw[mH fun hm=>c.wj id hm au];exact h2 id au
    ·simp only[iQ];exact⟨h1,h2⟩
 exact b n ae (Nat.le_refl _)
theorem insert(hc:∀i j,i<j->j<n-> ¬pr j i->Compat oc ac R i j)(hE:yn n pr E){i:Nat}(hi:i<n)(l5:E i=false){E':Nat->Bool}(C7:∀k,E' k=(E k||k==i)):
 eg oc ac E' s n=vi (oc i).dst (ac i) (eg oc ac E s n):=by
 have a:∀k,k<=i->eg oc ac E' s k=eg oc ac E s k:=by
  intro k
  induction k with
  |zero=>intro _;rfl
  |succ k ih=>
   intro hk
   have:E' k=E k:=by rw[C7 k];have:(k==i)=false:=by simp;omega
                     simp[this]
   simp only[eg,this,ih (by omega)]
 have b:∀k,i+1<=k->k<=n->eg oc ac E' s k=vi (oc i).dst (ac i) (eg oc ac E s k):=by
  intro k Mq
  induction Mq with
  |refl=>
   intro _
   have h1:E' i=true:=by rw[C7 i];simp
   simp only[eg,h1,l5,if_true,a i (Nat.le_refl _)]
   rfl
  | @step k Mq ih=>
    intro hk
    have Mq:i+1<=k:=Mq
    have h1:E' k=E k:=by rw[C7 k];have:(k==i)=false:=by simp;omega
                         simp[this]
    simp only[eg,h1,ih (by omega)]
    by_cases iQ:E k=true
    ·have O2: ¬pr k i:=fun hm=>by have:=hE k ae iQ i hm;rw[l5]at this;cases this
     have c:=hc i k ae ae O2
     simp only[iQ,if_true]
     refine Ja (fun t ht he=> ?_) (fun id au hm=>(c.wi id hm).2 au)
     exact c.di t he (by simp[eM,ht])
    ·simp only[iQ];rfl
 exact b n ae (Nat.le_refl _)
end
end
section
structure sx (M:Nat->Prop) (cf:Place) (H0:Hp) (w0:World) (n:Nat) (cx:Cx) (φ:Place) (s:S) (us:Nat->Prop) (a:Act) (w:World):Prop where
 heap:aw M φ ⟨s.o,us⟩ w
 tr:Trans cf H0 w0 φ ⟨s.o,us⟩ w
 size:a.tmps.size=n
 defers:tK cx w0 φ ⟨s.o,us⟩ w a.defers
 env:∀i,V.den (ak M φ ⟨s.o,us⟩) φ ⟨s.o,us⟩ w (s.env i) (a.tmps.getD i undef)
section
variable {P:Program}{M:Nat->Prop}{φ cf:Place}{H0:Hp}{w w' w0:World}{n:Nat}{s:S}{us:Nat->Prop}{a:Act}{cx:Cx}{ro:Option Nat}{k:Nat}
variable {next:Act->World->Prop}{Q:Exit->Act->World->Prop}
theorem jm(hs:sx M cf H0 w0 n cx φ s us a w){aC:Place}{H':Hp}(hH:aw M aC H' w')(ht:Trans φ ⟨s.o,us⟩ w aC H' w'){v:V}{val:Value}(hd:V.den (ak M aC H') aC H' w' v val){dst:Option Tmp}(cD:fX n dst)
 {o':Nat->ab} {us':Nat->Prop} (ho:H'.o=o') (hu:∀id,H'.us id->us' id):sx M cf H0 w0 n cx aC ⟨aU s.env dst v,o',s.nx⟩ us' (a.put dst val) w':=by
 obtain⟨k1,k2⟩:=iV hH hu
 subst ho
 refine⟨k1,hs.tr.trans (ht.trans k2), ?_, ?_,fun i=> ?_⟩
 ·cases dst<;>simp[Act.put,hs.size]
 ·have:=hs.defers.mono (ht.trans k2);cases dst<;>exact this
 ·cases dst with
  |none=>exact LW
  |some d=>
   simp only[fX]at cD
   simp only[aU,aG,Act.put]
   by_cases hi:i=d
   ·subst hi
    have h1:(a.tmps.setIfInBounds i val).getD i undef=val:=by simp[Array.getD,hs.size,cD]
    rw[if_pos rfl,h1]
    exact V.aK k2 _ _ hd
   ·have h1:(a.tmps.setIfInBounds d val).getD i undef=a.tmps.getD i undef:=by
     exact RH
    rw[if_neg hi,h1]
    exact LW
theorem wJ(hs:sx M cf H0 w0 n cx φ s us a w){o:Oper}{op:Op}(gy:o.op=op){c:Call}{f:Operand}{g:FuncId}{first cap:List V}(hc:op= .call c)(eJ:c.callee= .value f)(vm:s.ev f= .func (.func g) first cap):
 ∃vals:Array Value,V.az (ak M φ ⟨s.o,us⟩) φ ⟨s.o,us⟩ w (first++c.args.toList.map s.ev++cap) vals.toList/\(Enters P g->(execOp a.eval o).run P w= .ok (.enter g vals) w):=by
 have hf:=mi (M:=M) (φ:=φ) (H:=⟨s.o,us⟩) (w:=w) s a hs.env f
 have dB:=jW (M:=M) (φ:=φ) (H:=⟨s.o,us⟩) (w:=w) s a hs.env c.args.toList
 rw[vm]at hf
 obtain⟨fa,ca,R8,D5,hca⟩:=hf
 refine⟨fa++c.args.map a.eval++ca, ?_,fun he=> ?_⟩
 ·exact Ov
 ·have:=kS (w:=w) he (fa++c.args.map a.eval++ca)
  generalize kJ:fa++c.args.map a.eval++ca=vals at this
  simp[execOp,gy,hc,resolve,eJ,R8,Deferred.ofValue,invoke,this,kJ]
theorem HU(hs:sx M cf H0 w0 n cx φ s us a w){fr:Nat}(cL: ¬us fr)(tL:∀id,id<s.nx->us id){o:Oper}{op:Op}(gy:o.op=op)(cD:fX n o.dst){v:V}{Δ:List (Nat×ab)}{rd:List Nat}(h:wH P s fr op v Δ rd)
 (hN:∀aC a' w',sx M cf H0 w0 n cx aC (vi o.dst (.val v Δ rd) s) (fun id=>us id\/id=fr) a' w'->next a' w'):o.wpIn (dy ro) k P a w next Q:=by
 rcases h with⟨⟨sJ,h⟩,_⟩|⟨c,f,g,first,cap,hc,eJ,vm,h⟩
 ·have h1:=AR (K:=fun v' Et _=>v'=v/\Et=Δ) h ⟨rfl,rfl⟩
  obtain⟨nx,val,w',aC,v',Et,sJ,⟨rfl,rfl⟩,hr,ack,g1,g2,g3,g4⟩:=wx hs.heap (s:=s) rfl hs.env cL gy h1
  have xW:=jm hs g1 g2 g3 cD (o':=put s.o Et) (us':=fun id=>us id\/id=fr) rfl (fun id hu=>hu.elim .inl (g4 id))
  refine j6 (fun c hc=>by rw[gy]at hc;subst hc;exact h1) ?_
  rw[hr]
  rcases ack with rfl|⟨rfl,rfl⟩
  ·exact hN _ _ _ xW
  ·exact hN _ _ _ xW
 ·refine j6 (fun c' wz=>by rw[gy,hc]at wz;cases wz) ?_
  obtain⟨vals,aZ,eR⟩:=wJ (P:=P) hs gy hc eJ vm
  generalize first++c.args.toList.map s.ev++cap=all at h aZ
  rcases h with⟨ds,rs,eL,hP,rfl,_,Vk⟩|⟨rs,hH,rfl,nG⟩|⟨ds,eL,hP,_,rfl⟩|⟨hH,nG⟩
  ·obtain⟨f1,f2,f3,f4,f5⟩:=cF hs.heap (V.bc all) (cK all _ aZ)
   have gK:(⟨s.o,us⟩:Hp).put (cc s.o (V.bc all))=⟨put s.o (cc s.o (V.bc all)),us⟩:=kR (H:=⟨s.o,us⟩) H7
   have wc:=c0 f1 all ds _ f3 eL (V.aN f2 _ _ aZ)
   have eD:=hP.2 _ w vals (fun b hb=>hb.elim (f1.zH b) fun hl=>(f1.ours b hl).2) wc
   rw[eR hP.1]
   refine⟨fun hd=>by simp[dy]at hd,cR (eD.mono fun e w' ⟨hk,ho⟩=> ?_)⟩
   cases e with
   |panicked ch=>exact vl
   |outgrown=>exact vl
   |returned val=>
    rcases Vk with rfl|⟨qm,rfl⟩
    ·obtain⟨k1,k2⟩:=fM f1 hk
     refine hN _ _ _ (jm hs k1 (f2.trans k2) (l9 ho) cD (by rw[gK]) fun id hu=> ?_)
     rw[gK]at hu;exact .inl hu
    ·obtain⟨k1,k2⟩:=fM hs.heap hk
     have ho:=R.xX (out:= .ret rs) (B':=ak M φ ⟨s.o,us⟩) qm ho
     exact N8
  ·have eD:=hH.2 s.o us M φ w vals (fun id au=>⟨rfl,tL id (nG id au)⟩) hs.heap aZ
   rw[eR hH.1]
   refine⟨fun hd=>by simp[dy]at hd,cR (eD.mono fun e w' ⟨aC,k1,k2,ho⟩=> ?_)⟩
   cases e with
   |panicked ch=>exact vl
   |outgrown=>exact vl
   |returned val=>exact N8
  ·obtain⟨f1,f2,f3,f4,f5⟩:=cF hs.heap (V.bc all) (cK all _ aZ)
   have gK:(⟨s.o,us⟩:Hp).put (cc s.o (V.bc all))=⟨put s.o (cc s.o (V.bc all)),us⟩:=kR (H:=⟨s.o,us⟩) H7
   have wc:=c0 f1 all ds _ f3 eL (V.aN f2 _ _ aZ)
   have eD:=hP.2 _ w vals (fun b hb=>hb.elim (f1.zH b) fun hl=>(f1.ours b hl).2) wc
   rw[eR hP.1]
   refine⟨fun hd=>by simp[dy]at hd,cR (eD.mono fun e w' ⟨hk,val,he,ho⟩=> ?_)⟩
   subst he
   obtain⟨k1,k2⟩:=fM f1 hk
   refine hN _ _ _ (jm hs k1 (f2.trans k2) (ho _ _) cD (by rw[gK]) fun id hu=> ?_)
   rw[gK]at hu;exact .inl hu
  ·have eD:=hH.2 s.o us M φ w vals (fun id au=>⟨rfl,tL id (nG id au)⟩) cL hs.heap aZ
   rw[eR hH.1]
   refine⟨fun hd=>by simp[dy]at hd,cR (eD.mono fun e w' ⟨aC,k1,k2,val,he,ho⟩=> ?_)⟩
   subst he
   exact hN _ _ _ (jm hs k1 k2 ho cD rfl fun id hu=>hu)
theorem Gs{o o2:Nat->ab}{us us2:Nat->Prop}(hH:aw M φ ⟨o,us⟩ w)(ho:∀id,o2 id=o id\/o2 id= .no)(hu:∀id,us id->us2 id):aw M φ ⟨o2,us2⟩ w/\Trans φ ⟨o,us⟩ w φ ⟨o2,us2⟩ w:=by
 have hl:∀id,(o2 id).live=true->(o id).live=true:=fun id h=>by
  rcases ho id with e|e
  ·rw[<- e];exact h
  ·rw[e]at h;cases h
 have Vn:∀b,cw φ ⟨o2,us2⟩ b->cw φ ⟨o,us⟩ b:=fun b ⟨id,h1,h2⟩=>⟨id,hl id h1,h2⟩
 have ht:Trans φ ⟨o,us⟩ w φ ⟨o2,us2⟩ w:=by
  refine⟨dx.refl _ _,fun b hb=> .inl (Vn b hb),⟨hu,fun id _ hr=> ?_,fun id e' _ he=> ?_⟩⟩
  ·rcases ho id with e|e
   ·exact⟨by show(o id).b7=true;rw[<- e];exact hr,rfl⟩
   ·rw[show(⟨o2,us2⟩:Hp).o id= .no from e]at hr;cases hr
  ·rcases ho id with e|e
   ·exact⟨e',by show(o id).bX=some e';rw[<- e];exact he,Nat.le_refl _,fun _=>rfl⟩
   ·rw[show(⟨o2,us2⟩:Hp).o id= .no from e]at he;cases he
 refine⟨⟨fun id=> ?_,fun id hn=> ?_,fun i j b hi hj=>hH.apart i j b (hl i hi) (hl j hj),fun b hb=>hH.ours b (Vn b hb),hH.zH⟩,ht⟩
 ·rcases ho id with e|e
  ·exact(hH.ok id).mono ht e rfl fun _ _ _=>rfl
  ·unfold aM;rw[show(⟨o2,us2⟩:Hp).o id= .no from e];trivial
 ·rcases ho id with e|e
  ·exact e.trans (hH.fresh id fun h=>hn (hu id h))
  ·exact e
def tU(ds:List Nat)(wl:List Nat)(N:Nat)(s:S):S:=
 ⟨fun t=>if ds.contains t=true then .aa else s.env t,fun id=>if wl.contains id=true then .no else s.o id,s.nx+N⟩
theorem Jc(hs:sx M cf H0 w0 n cx φ s us a w)(tL:∀id,id<s.nx->us id){N:Nat}(dX:∀id,us id->id<s.nx+N){o:Oper}{op:Op}(gy:o.op=op){v:V}{ws rd:List Nat}(h:AW P s op v ws rd)
 {s0:S} {ds wl:List Nat} (eL:∀t,ds.contains t=false->s.env t=s0.env t) (hwl:∀id,wl.contains id=false->s.o id=s0.o id) (Mr:∀id∈ws,wl.contains id=true) (iq:s0.nx=s.nx)
 (hQ:∀aC w' val,bW M cf H0 w0 n cx aC (tU ds wl N s0) a w'->V.den (ak M aC (tU ds wl N s0).H) aC (tU ds wl N s0).H w' v val->Q (.panic [{v:=val,recovered:=false}]) a w'):o.wpIn (dy ro) k P a w next Q:=by
 obtain⟨c,f,g,first,cap,hc,eJ,vm,h⟩:=h
 refine j6 (fun c' wz=>by rw[gy,hc]at wz;cases wz) ?_
 obtain⟨vals,aZ,eR⟩:=wJ (P:=P) hs gy hc eJ vm
 generalize first++c.args.toList.map s.ev++cap=all at h aZ
 have fin:∀ (aC:Place) (w':World) (o':Nat->ab) (val:Value),(∀id,wl.contains id=false->o' id=s.o id)->aw M aC ⟨o',us⟩ w'->Trans φ ⟨s.o,us⟩ w aC ⟨o',us⟩ w'->V.den (ak M aC ⟨o',us⟩) aC ⟨o',us⟩ w' v val->Q (.panic [{v:=val,recovered:=false}]) a w':=by
  intro aC w' o' val vT k1 k2 k3
  obtain⟨m1,m2⟩:=Gs (o2:=(tU ds wl N s0).o) (us2:=fun id=>id<s0.nx+N) k1 (fun id=>by
   show(if wl.contains id=true then ab.no else s0.o id)=o' id\/_
   by_cases hw:wl.contains id=true
   ·right;simp only[tU];rw[if_pos hw]
   ·left;rw[if_neg hw,vT id (by simpa using hw),hwl id (by simpa using hw)]) (fun id h=>by rw[iq];exact dX id h)
  have ht:=hs.tr.trans (k2.trans m2)
  refine hQ aC w' val ⟨m1,ht,hs.size,hs.defers.mono (k2.trans m2),fun i=> ?_⟩ (V.aK m2 _ _ k3)
  show V.den _ _ _ _ (if ds.contains i=true then V.aa else s0.env i) _
  by_cases hd:ds.contains i=true
  ·rw[if_pos hd];trivial
  ·rw[if_neg hd, <- eL i (by simpa using hd)];exact V.aK (k2.trans m2) _ _ (hs.env i)
 rcases h with⟨dd,x,acm,hP,qm,rfl,_,rfl⟩|⟨x,Δ,hH,rfl,rfl,nG⟩
 ·obtain⟨f1,f2,f3,f4,f5⟩:=cF hs.heap (V.bc all) (cK all _ aZ)
  have wc:=c0 f1 all dd _ f3 acm (V.aN f2 _ _ aZ)
  have eD:=hP.2 _ w vals (fun b hb=>hb.elim (f1.zH b) fun hl=>(f1.ours b hl).2) wc
  rw[eR hP.1]
  refine⟨fun hd=>by simp[dy]at hd,cR (eD.mono fun e w' ⟨hk,ho⟩=> ?_)⟩
  cases e with
  |returned val=>exact ho.elim
  |outgrown=>exact ho.elim
  |panicked ch=>
   obtain⟨k1,k2⟩:=fM hs.heap hk
   have ho:=R.xX (out:= .bB x) (B':=ak M φ ⟨s.o,us⟩) qm ho
   obtain⟨val,rfl,hd⟩:=ho
   exact fin φ w' s.o val (fun _ _=>rfl) k1 k2 hd
 ·have eD:=hH.2 s.o us M φ w vals (fun id au=>⟨rfl,tL id (nG id au)⟩) hs.heap aZ
  rw[eR hH.1]
  refine⟨fun hd=>by simp[dy]at hd,cR (eD.mono fun e w' ⟨aC,k1,k2,ho⟩=> ?_)⟩
  cases e with
  |returned val=>exact ho.elim
  |outgrown=>exact ho.elim
  |panicked ch=>
   obtain⟨val,rfl,hd⟩:=ho
   exact fin aC w' _ val (fun id au=>yj fun y hy e=>by
    have:=Mr y.1 (List.mem_map_of_mem hy)
    rw[e,au]at this;cases this) k1 k2 hd
theorem fh(dO:∀i,V.den (ak M φ ⟨s.o,us⟩) φ ⟨s.o,us⟩ w (s.env i) (a.tmps.getD i undef)){ops:Array Oper}{o:Oper}{gd:Option (Nat×Bool)}{b:Bool}
 (hg:match o.guard with|none=>gd=none|some (j,want)=>∃d,ry ops j=some d/\gd=some (d,want)) (h:dF s gd b):Region.wanted o (yielded ops a.tmps)=b:=by
 unfold Region.wanted
 split at hg
 ·rename_i hn;simp only[hn];subst hg;exact h.symm
 ·rename_i j want hn
  simp only[hn]
  obtain⟨d,hd,rfl⟩:=hg
  unfold ry at hd
  unfold yielded
  simp only[hd,Option.bind_some]
  simp only[dF]at h
  have he:=dO d
  split at h
  ·rename_i c hv
   rw[hv]at he
   simp only[V.den,D.den]at he
   have:a.tmps[d]? =some (.bool c):=by
    rw[Array.getD_eq_getD_getElem?]at he
    cases hx:a.tmps[d]? with
    |none=>rw[hx]at he;simp[undef]at he
    |some x=>rw[hx]at he;simp at he;rw[he]
   simp only[this,h]
   cases c<;>cases want<;>rfl
  ·rename_i hv
   rw[hv]at he
   obtain⟨arr,cV,hn⟩:=he
   have:∀c,a.tmps[d]? ≠some (.bool c):=by
    exact OQ
   subst h
   cases hx:a.tmps[d]? with
   |none=>rfl
   |some x=>cases x<;>first|(exact absurd hx (this _))|rfl
  ·exact h.elim
theorem fi{s s':S}{gd:Option (Nat×Bool)}{b:Bool}(h:∀d want,gd=some (d,want)->s'.env d=s.env d)(hg:dF s gd b):dF s' gd b:=by
 unfold dF at*
 cases gd with
 |none=>exact hg
 |some p=>obtain⟨d,want⟩:=p;simp only at hg|-;rw[h d want rfl];exact hg
theorem AX{s s':S}{x:Operand}(h:∀t,x= .tmp t->s'.env t=s.env t):s'.ev x=s.ev x:=by
 cases x<;>simp only[S.ev]
 exact h _ rfl
theorem tV{s s':S}{op:Op}{c:Call}{f:Operand}{g:FuncId}{first cap:List V}(hv:∀x∈op.operands,s'.ev x=s.ev x)(hc:op= .call c)(eJ:c.callee= .value f)(vm:s.ev f= .func (.func g) first cap):
 s'.ev f= .func (.func g) first cap/\c.args.toList.map s'.ev=c.args.toList.map s.ev:=by
 subst hc
 exact⟨(hv f (by simp only[Op.operands,Call.operands,eJ];exact Array.mem_append.2 (.inl aJ))).trans vm,
  List.map_congr_left fun x hx=>hv x W1⟩
theorem Er.frame {g:FuncId}{args:List V}{rd:List Nat}{o o':Nat->ab}{out:R}{Δ:List (Nat×ab)}(ho:∀id∈rd,o' id=o id)(h:Er P g args rd o out Δ):Er P g args rd o' out Δ:=
 ⟨h.1,fun o2 us M φ w vals h1 h2 h3=>h.2 o2 us M φ w vals (fun id au=>⟨(h1 id au).1.trans (ho id au),(h1 id au).2⟩) h2 h3⟩
theorem yi.frame {g:FuncId}{args:List V}{rd:List Nat}{o o':Nat->ab}{fr:Nat}{v:V}{Δ:List (Nat×ab)}(ho:∀id∈rd,o' id=o id)(h:yi P g args rd o fr v Δ):yi P g args rd o' fr v Δ:=
 ⟨h.1,fun o2 us M φ w vals h1 h2 h3=>h.2 o2 us M φ w vals (fun id au=>⟨(h1 id au).1.trans (ho id au),(h1 id au).2⟩) h2 h3⟩
theorem zZ{s s':S}{fr:Nat}{op:Op}{v:V}{Δ:List (Nat×ab)}{rd:List Nat}(hv:∀x∈op.operands,s'.ev x=s.ev x)(ho:∀id∈rd,s'.o id=s.o id)(tL:s'.nx=s.nx)(h:wH P s fr op v Δ rd):∃sJ,wH P s' fr op v Δ sJ:=by
 rcases h with⟨⟨sJ,h⟩,nG⟩|⟨c,f,g,first,cap,rfl,eJ,vm,h⟩
 ·exact⟨_, .inl ⟨⟨sJ,by rw[C2 op hv (by rw[<- nG];exact ho)];exact h⟩,rfl⟩⟩
 ·obtain⟨hf,hm⟩:=tV hv rfl eJ vm
  rcases h with⟨ds,rs,eL,hP,sm,nG,Vk⟩|⟨rs,hH,sm,nG⟩|⟨ds,eL,hP,nG,Vk⟩|⟨hH,nG⟩
  ·have hr:∀id∈V.aE (first++c.args.toList.map s.ev++cap),s'.o id=s.o id:=fun id au=>ho id H4
   refine⟨_, .inr ⟨c,f,g,first,cap,rfl,eJ,hf, .inl ⟨ds,rs,by rw[hm,gO _ hr];exact eL,hP,sm,rfl, ?_⟩⟩⟩
   exact OJ
  ·exact⟨rd, .inr ⟨c,f,g,first,cap,rfl,eJ,hf, .inr (.inl ⟨rs,by rw[hm];exact hH.frame ho,sm,by rw[tL];exact nG⟩)⟩⟩
  ·have hr:∀id∈V.aE (first++c.args.toList.map s.ev++cap),s'.o id=s.o id:=fun id au=>ho id H4
   refine⟨_, .inr ⟨c,f,g,first,cap,rfl,eJ,hf, .inr (.inr (.inl ⟨ds,by rw[hm,gO _ hr];exact eL,hP,rfl, ?_⟩))⟩⟩
   exact OJ
  ·exact⟨rd, .inr ⟨c,f,g,first,cap,rfl,eJ,hf, .inr (.inr (.inr ⟨by rw[hm];exact hH.frame ho,by rw[tL];exact nG⟩))⟩⟩
theorem AY{s s':S}{op:Op}{v:V}{ws rd:List Nat}(hv:∀x∈op.operands,s'.ev x=s.ev x)(ho:∀id∈rd,s'.o id=s.o id)(tL:s'.nx=s.nx)(h:AW P s op v ws rd):AW P s' op v ws rd:=by
 obtain⟨c,f,g,first,cap,rfl,eJ,vm,h⟩:=h
 obtain⟨hf,hm⟩:=tV hv rfl eJ vm
 refine⟨c,f,g,first,cap,rfl,eJ,hf, ?_⟩
 rw[hm]
 rcases h with⟨ds,x,eL,hP,qm,sm,nG,Mr⟩|⟨x,Δ,hH,sm,Mr,nG⟩
 ·have hr:∀id∈V.aE (first++c.args.toList.map s.ev++cap),s'.o id=s.o id:=fun id au=>ho id H4
  exact .inl ⟨ds,x,by rw[gO _ hr];exact eL,hP,qm,sm,by rw[nG];simp only[nP,eJ,vm,hf,hm],Mr⟩
 ·exact .inr ⟨x,Δ,hH.frame ho,sm,Mr,by rw[tL];exact nG⟩
theorem tW{ops:Array Oper}:∀ (l:List Oper) (l':List bH) (i:Nat) (o:Oper),kK n ops l=some l'->l[i]? =some o->Is n ops o=some (bM l' i)
 |[],_,_,_,_,h=>by simp at h
 |x::l,l',i,o,h,hi=>by
  simp only[kK]at h
  split at h
  ·rename_i y ys hy hys
   injection h with h;subst h
   cases i with
   |zero=>simp at hi;subst hi;exact hy
   |succ i=>exact tW l ys i o hys (by simpa using hi)
  ·cases h
theorem wK{ops:Array Oper}{o:Oper}{x:bH}(h:Is n ops o=some x):x.op=o.op/\x.dst=o.dst/\fX n o.dst/\
 (match o.guard with|none=>x.gd=none|some (j,want)=>∃d,ry ops j=some d/\x.gd=some (d,want)):=by
 unfold Is at h
 split at h
 ·rename_i hd
  have cD:fX n o.dst:=by
   unfold Cz at hd;unfold fX
   split at hd<;>simp_all
  cases hg:o.guard with
  |none=>simp only[hg]at h;injection h with h;subst h;exact⟨rfl,rfl,cD,rfl⟩
  |some p=>
   obtain⟨j,want⟩:=p
   simp only[hg]at h
   cases Pc:ry ops j with
   |none=>simp[Pc]at h
   |some d=>simp only[Pc]at h;injection h with h;subst h;exact⟨rfl,rfl,cD,d,Pc,rfl⟩
 ·cases h
theorem oD{ops:Array Oper}{ao:Array Bool}(sN:∀k,k<ops.size->∀j∈bt ops k,j<k)(hs:ao.size=ops.size)(hr:Region.ready .any ops ao=[]):∀k,k<ops.size->ao.getD k false=true:=by
 intro k
 induction k using Nat.strongRecOn with
 |_ k ih=>
  intro hk
  cases hl:ao.getD k false with
  |true=>rfl
  |false=>
   have:k∈Region.ready .any ops ao:=by
    refine mem_ready.2 ⟨?_,ops[k],by simp[hk],fun e he hb=> ?_⟩
    ·simp only[Array.getD_eq_getD_getElem?]at hl|-
     rw[Array.getElem?_eq_getElem (by omega)]at hl|-
     simpa using hl
    ·have hm:e.on∈bt ops k:=by
      simp only[bt,Array.getElem?_eq_getElem hk,List.mem_map,List.mem_filter]
      exact⟨e,⟨Array.mem_toList_iff.2 he,hb⟩,rfl⟩
     exact ih _ (sN k hk _ hm) (by have:=sN k hk _ hm;omega)
   rw[hr]at this;cases this
theorem AZ(hs:bW M cf H0 w0 n cx φ s a w):bW M cf H0 w0 n cx φ s a {w with drawn:=w.drawn+1}:=by
 obtain⟨k1,k2⟩:=fM (w':={w with drawn:=w.drawn+1}) hs.heap ⟨rfl,rfl,rfl,Nat.le_refl _,fun _ _ _=>rfl⟩
 exact⟨k1,hs.tr.trans k2,hs.size,hs.defers.mono k2,fun i=>V.aK k2 _ _ (hs.env i)⟩
theorem ko{oc:Nat->bH}{ac:Nat->eT}{E:Nat->Bool}:∀k,(eg oc ac E s k).nx=s.nx
 |0=>rfl
 |k+1=>by
  simp only[eg]
  split
  ·cases ac k<;>exact ko k
  ·exact ko k
theorem Eu{oc:Nat->bH}{ac:Nat->eT}{E:Nat->Bool}{t:Nat}:∀k,(∀j,j<k->(oc j).dst≠some t)->(eg oc ac E s k).env t=s.env t
 |0,_=>rfl
 |k+1,h=>by
  have ih:=Eu (oc:=oc) (ac:=ac) (E:=E) (t:=t) k fun j hj=>h j ae
  simp only[eg]
  split
  ·rw[ky fun d hd e=>h k (by omega) (by rw[hd,e])];exact ih
  ·exact ih
theorem Ph{oc:Nat->bH}{ac:Nat->eT}{E:Nat->Bool}{id:Nat}:∀k,(∀j,j<k->id∉kx (ac j))->(eg oc ac E s k).o id=s.o id
 |0,_=>rfl
 |k+1,h=>by
  have ih:=Ph (oc:=oc) (ac:=ac) (E:=E) (id:=id) k fun j hj=>h j ae
  simp only[eg]
  split
  ·rw[mH (h k (by omega))];exact ih
  ·exact ih
theorem A0(ba:P.follows .mixedOrders=true){ops:Array Oper}{l:List bH}{id:Nat}(qN:kK n ops ops.toList=some l)(sN:∀k,k<ops.size->∀j∈bt ops k,j<k){ac:Nat->eT}{dl wl:List Nat}
 (hs:bW M cf H0 w0 n cx φ s a w) (Se:∀i,i<ops.size->Pf P (eg (bM l) ac (fun _=>true) s i) (s.nx+i) (bM l i) (ac i))
 (yo:∀i,i<ops.size->ac i= .de->∃j∈bt ops i,(ac j).ok=false)
 {po:Nat->Nat->Prop} (Ev:∀E:Nat->Bool,(∀k,k<ops.size->E k=true->∀j∈bt ops k,E j=true)->∀k,k<ops.size->(∀j∈bt ops k,E j=true)->∀j,po k j->E j=true) (A1:∀k,k<ops.size->∀j,po k j->j<k)
 (hc:∀i j,i<j->j<ops.size-> ¬po j i->Compat (bM l) ac (fun i=>vC (ac i)) i j)
 (hdl:∀i,i<ops.size->∀t,(bM l i).dst=some t->dl.contains t=true) (hwl:∀i,i<ops.size->∀id∈kx (ac i),wl.contains id=true)
 (Mr:∀i v ws rd,i<ops.size->ac i= .bB v ws rd->∀id∈ws,wl.contains id=true)
 (hQ:(∀i,i<ops.size->(ac i).ok=true)->∀φ a w,bW M cf H0 w0 n cx φ ⟨(eg (bM l) ac (fun _=>true) s ops.size).env,(eg (bM l) ac (fun _=>true) s ops.size).o,s.nx+ops.size⟩ a w->Q .normal a w)
 (hX:∀i v ws rd,i<ops.size->ac i= .bB v ws rd->∀φ a w val,bW M cf H0 w0 n cx φ (tU dl wl ops.size s) a w->V.den (ak M φ (tU dl wl ops.size s).H) φ (tU dl wl ops.size s).H w v val->Q (.panic [{v:=val,recovered:=false}]) a w):
 (Code.region id ops true).wpIn (dy ro) k P Q a w:=by
 refine wpIn_region_any ba ?_
 have hs:=AZ hs
 generalize ({w with drawn:=w.drawn+1}:World)=w at hs
 let N:=ops.size
 let Ef (ao:Array Bool) (k:Nat):Bool:=ao.getD k false
 let D4 (ao:Array Bool) (j:Nat):Prop:=j<s.nx\/∃k,k<N/\Ef ao k=true/\j=s.nx+k
 have key:∀ (fuel:Nat) (ao:Array Bool) (φ:Place) (a:Act) (w:World),ao.size=N->ao.count true+fuel=N->(∀k,k<N->Ef ao k=true->∀j∈bt ops k,Ef ao j=true)->(∀k,k<N->Ef ao k=true->(ac k).ok=true)->
  sx M cf H0 w0 n cx φ (eg (bM l) ac (Ef ao) s N) (D4 ao) a w->wpAnyIn (dy ro) k P .any ops Q fuel ao a w:=by
  have fin:∀ (ao:Array Bool) (φ:Place) (a:Act) (w:World),(∀k,k<N->Ef ao k=true)->(∀k,k<N->Ef ao k=true->(ac k).ok=true)->sx M cf H0 w0 n cx φ (eg (bM l) ac (Ef ao) s N) (D4 ao) a w->Q .normal a w:=by
   intro ao φ a w aZ C8 hu
   have e:∀k,k<=N->eg (bM l) ac (Ef ao) s k=eg (bM l) ac (fun _=>true) s k:=by
    intro k
    induction k with
    |zero=>intro _;rfl
    |succ k ih=>intro hk;simp only[eg,aZ k (by omega),ih (by omega)]
   rw[e N (Nat.le_refl _)]at hu
   obtain⟨k1,k2⟩:=iV (us':=fun id=>id<s.nx+N) hu.heap (fun id h=>by
    show id<s.nx+N
    rcases h with h|⟨k,hk,_,rfl⟩<;>omega)
   exact hQ (fun i hi=>C8 i hi (aZ i hi)) φ a w ⟨k1,hu.tr.trans k2,hu.size,hu.defers.mono k2,fun i=>V.aK k2 _ _ (hu.env i)⟩
  intro fuel
  induction fuel with
  |zero=>
   intro ao φ a w dA Gt l6 C8 hu
   have aZ:∀k,k<N->Ef ao k=true:=by
    intro k hk
    have h1:ao.count true=ao.size:=ae
    rw[Array.count_eq_size]at h1
    have:=h1 ao[k] (Array.getElem_mem ae)
    simp only[Ef,Array.getD_eq_getD_getElem?]
    rw[Array.getElem?_eq_getElem (by omega)]
    simpa using this.symm
   refine⟨?_,fin ao φ a w aZ C8 hu⟩
   rw[List.eq_nil_iff_forall_not_mem]
   intro k hk
   obtain⟨h1,o,h2,_⟩:=mem_ready.1 hk
   have hkN:k<N:=(Array.getElem?_eq_some_iff.1 h2).1
   have:=aZ k hkN
   simp only[Ef,Array.getD_eq_getD_getElem?]at this h1
   rw[Array.getElem?_eq_getElem (by omega)]at this h1
   simp only[Option.getD_some]at this h1
   rw[this]at h1;cases h1
  |succ fuel ih=>
   intro ao φ a w dA Gt l6 C8 hu
   refine⟨fun hr=>fin ao φ a w (oD sN dA hr) C8 hu,fun i hi=> ?_⟩
   obtain⟨h1,o,h2,h3⟩:=mem_ready.1 hi
   have sy:i<N:=(Array.getElem?_eq_some_iff.1 h2).1
   have l5:Ef ao i=false:=by
    simp only[Ef,Array.getD_eq_getD_getElem?]at h1|-
    rw[Array.getElem?_eq_getElem (by omega)]at h1|-
    simpa using h1
   have Jb:∀j∈bt ops i,Ef ao j=true:=by
    exact RC
   have Jd:yn N po (Ef ao):=fun k hk iQ=>Ev _ l6 k hk (l6 k hk iQ)
   obtain⟨Yr,ag2⟩:=agree (s:=s) A1 hc Jd sy l5 (Ev _ l6 i sy Jb)
   obtain⟨g1,g2,g3,g4⟩:=wK (tW _ _ i o qN te)
   have cL: ¬D4 ao (s.nx+i):=by
    rintro(h|⟨k,_,hk,he⟩)
    ·omega
    ·have:k=i:=ae
     subst this;rw[l5]at hk;cases hk
   have C7:∀k,Ef (ao.setIfInBounds i true) k=(Ef ao k||k==i):=by
    intro k
    simp only[Ef,Array.getD_eq_getD_getElem?]
    by_cases e:k=i
    ·subst e;simp[dA,sy]
    ·rw[Array.getElem?_setIfInBounds_ne (Ne.symm e)]
     have:(k==i)=false:=by simpa using e
     simp[this]
   have Sf:=insert (s:=s) hc Jd sy l5 C7
   have Sg:∀k,k<N->Ef (ao.setIfInBounds i true) k=true->∀j∈bt ops k,Ef (ao.setIfInBounds i true) j=true:=by
    intro k hk iQ j hj
    rw[C7]at iQ|-
    by_cases e:k=i
    ·subst e;simp[Jb j hj]
    ·have:(k==i)=false:=by simpa using e
     rw[this,Bool.or_false]at iQ
     simp[l6 k hk iQ j hj]
   have Je:(ao.setIfInBounds i true).count true+fuel=N:=by
    have cm:i<ao.size:=ae
    have e1:ao.setIfInBounds i true=ao.set i true cm:=by simp[Array.setIfInBounds,cm]
    have e2:ao[i]=false:=by
     have:=l5
     simp only[Ef,Array.getD_eq_getD_getElem?]at this
     rw[Array.getElem?_eq_getElem cm]at this
     simpa using this
    rw[e1,Array.count_set cm,e2]
    simp
    omega
   have kI:(ac i).ok=true->∀aC a' w',sx M cf H0 w0 n cx aC (vi o.dst (ac i) (eg (bM l) ac (Ef ao) s N)) (fun id=>D4 ao id\/id=s.nx+i) a' w'->wpAnyIn (dy ro) k P .any ops Q fuel (ao.setIfInBounds i true) a' w':=by
    intro Ys aC a' w' zR
    refine ih _ aC a' w' (by simp[dA]) Je Sg (fun k hk iQ=> ?_) ?_
    ·rw[C7]at iQ
     by_cases e:k=i
     ·subst e;exact Ys
     ·have:(k==i)=false:=by simpa using e
      rw[this,Bool.or_false]at iQ
      exact C8 k hk iQ
    rw[Sf,g2]
    obtain⟨k1,k2⟩:=iV (us':=D4 (ao.setIfInBounds i true)) zR.heap (fun id h=>by
     rcases h with(h|⟨k,hk,iQ,rfl⟩)|rfl
     ·exact .inl h
     ·exact .inr ⟨k,hk,by rw[C7,iQ];rfl,rfl⟩
     ·exact .inr ⟨i,sy,by rw[C7];simp,rfl⟩)
    exact W4
   have Gu:∀d want,(bM l i).gd=some (d,want)->(eg (bM l) ac (Ef ao) s N).env d=(eg (bM l) ac (fun _=>true) s i).env d:=fun d want hd=>Yr d (by simp[eM,tmpsOf,hd])
   have aS:=Se i sy
   have Ir:∀x∈(bM l i).op.operands,(eg (bM l) ac (Ef ao) s N).ev x=(eg (bM l) ac (fun _=>true) s i).ev x:=fun x hx=>AX fun t ht=>Yr t (by
    subst ht
    simp only[eM,tmpsOf,List.mem_append,List.mem_filterMap]
    exact .inl (.inl ⟨.tmp t,Array.mem_toList_iff.2 hx,rfl⟩))
   have RQ:(eg (bM l) ac (Ef ao) s N).nx=(eg (bM l) ac (fun _=>true) s i).nx:=(ko N).trans (ko i).symm
   unfold wpOpIn
   simp only[h2]
   cases vg:ac i with
   |skip=>
    rw[vg]at aS kI
    have hw:=fh hu.env g4 (fi Gu aS)
    simp only[hw,Bool.false_eq_true,if_false]
    refine⟨fun _ _=>trivial,kI rfl φ _ w ?_⟩
    have:=jm (v:= .bT []) (val:=undef) hu hu.heap (Trans.refl _ _ _) ⟨#[],rfl,rfl⟩ (dst:=o.dst) g3 rfl (us':=fun id=>D4 ao id\/id=s.nx+i) (fun id h=> .inl h)
    exact this
   |val v Δ rd=>
    rw[vg]at aS kI
    have hw:=fh hu.env g4 (fi Gu aS.1)
    exact XH
   |bB v ws rd=>
    rw[vg]at aS
    have hw:=fh hu.env g4 (fi Gu aS.1)
    simp only[hw,if_true]
    have oO:=AY Ir (fun id au=>ag2 id (by rw[vg];exact au)) RQ aS.2
    refine Jc (s0:=s) (ds:=dl) (wl:=wl) (N:=N) hu (fun id h=> .inl (by rw[ko]at h;exact h)) (fun id h=> ?_) g1.symm oO (fun t ht=> ?_) (fun id au=> ?_) (Mr i v ws rd sy vg) (ko N).symm (fun aC w' val h1 h2=>hX i v ws rd sy vg aC a w' val h1 h2)
    ·rw[ko]
     rcases h with h|⟨k,hk,_,rfl⟩<;>omega
    ·refine Eu N fun j hj e=> ?_
     have:=hdl j hj t e
     rw[ht]at this;cases this
    ·refine Ph N fun j hj hm=> ?_
     have:=hwl j hj id hm
     rw[au]at this;cases this
   |de=>
    exfalso
    obtain⟨j,hj,Sh⟩:=yo i sy vg
    have:=C8 j (Nat.lt_trans (sN i sy j hj) sy) (Jb j hj)
    rw[Sh]at this;cases this
 refine key ops.size _ φ a w (by simp[N]) (by simp[N,Array.count_replicate]) (fun k hk iQ=> ?_) (fun k hk iQ=> ?_) ?_
 ·exact LZ
 ·exact LZ
 ·have e:∀k,eg (bM l) ac (Ef (Array.replicate ops.size false)) s k=s:=by
   intro k
   induction k with
   |zero=>rfl
   |succ k ih=>
    have:Ef (Array.replicate ops.size false) k=false:=by
     exact OG
    simp only[eg,this,ih]
    rfl
  exact XM
end
end
section
section
variable {P:Program}{M:Nat->Prop}{φ cf:Place}{H0:Hp}{w w' w0:World}{n:Nat}{s:S}{us:Nat->Prop}{a:Act}{cx:Cx}{ro:Option Nat}{k:Nat}
variable {Q:Exit->Act->World->Prop}
theorem Gv{ops:Array Oper}{po:Nat->Nat->Prop}{m:Nat}{X:V->S->Prop}{K:S->Prop}
 (sN:∀k,k<ops.size->∀j∈bt ops k,j<k)
 (Ev:∀E:Nat->Bool,(∀k,k<ops.size->E k=true->∀j∈bt ops k,E j=true)->∀k,k<ops.size->(∀j∈bt ops k,E j=true)->∀j,po k j->E j=true)
 (Ew:∀k,m<=k->k<ops.size->∀j,j<k->po k j)
 (hK:∀s φ a w,K s->bW M cf H0 w0 n cx φ s a w->Q .normal a w)
 (hX:∀v s' aC a' w' val,X v s'->bW M cf H0 w0 n cx aC s' a' w'->V.den (ak M aC s'.H) aC s'.H w' v val->Q (.panic [{v:=val,recovered:=false}]) a' w'):
 ∀ (d t:Nat) (s:S) (φ:Place) (ao:Array Bool) (a:Act) (w:World),t+d=ops.size->ao.size=ops.size->(∀k,k<ops.size->ao.getD k false=decide (k<t))->m<=t->
   bW M cf H0 w0 n cx φ s a w->xV P n ops X K (ops.toList.drop t) s->wpAnyIn (dy ro) k P .any ops Q d ao a w:=by
 intro d
 induction d with
 |zero=>
  intro t s φ ao a w ht dA hl HB hs h
  have e:t=ops.size:=ae
  subst e
  refine⟨?_, ?_⟩
  ·rw[List.eq_nil_iff_forall_not_mem]
   intro j hj
   obtain⟨h1,o,h2,_⟩:=mem_ready.1 hj
   have hjN:j<ops.size:=(Array.getElem?_eq_some_iff.1 h2).1
   have:=hl j hjN
   simp only[Array.getD_eq_getD_getElem?]at this h1
   rw[Array.getElem?_eq_getElem (by omega)]at this h1
   simp only[Option.getD_some]at this h1
   rw[h1]at this
   simp[hjN]at this
  ·rw[List.drop_eq_nil_of_le (by simp)]at h
   exact hK s φ a w h hs
 |succ d ih=>
  intro t s φ ao a w ht dA hl HB hs h
  have htN:t<ops.size:=ae
  refine⟨fun hr=> ?_,fun i hi=> ?_⟩
  ·have:=oD sN dA hr t htN
   rw[hl t htN]at this
   simp at this
  ·obtain⟨h1,o,h2,h3⟩:=mem_ready.1 hi
   have sy:i<ops.size:=(Array.getElem?_eq_some_iff.1 h2).1
   have l5:ao.getD i false=false:=by
    simp only[Array.getD_eq_getD_getElem?]at h1|-
    rw[Array.getElem?_eq_getElem (by omega)]at h1|-
    simpa using h1
   have hit:t<=i:=by
    have:=hl i sy
    rw[l5]at this
    have:=of_decide_eq_false this.symm
    omega
   have Jb:∀j∈bt ops i,ao.getD j false=true:=by
    exact RC
   have l6:∀k,k<ops.size->ao.getD k false=true->∀j∈bt ops k,ao.getD j false=true:=by
    intro k hk iQ j hj
    have XU:=sN k hk j hj
    rw[hl k hk]at iQ
    rw[hl j (by omega)]
    have:=of_decide_eq_true iQ
    exact decide_eq_true ae
   have R3:i=t:=by
    rcases Nat.eq_or_lt_of_le hit with e|e
    ·exact e.symm
    ·have:=Ev (fun k=>ao.getD k false) l6 i sy Jb t (Ew i ae sy t e)
     rw[hl t htN]at this
     simp at this
   subst R3
   have A2:ops.toList.drop i=o::ops.toList.drop (i+1):=by
    have R2:i<ops.toList.length:=by simpa using sy
    rw[List.drop_eq_getElem_cons R2]
    have:ops.toList[i]=o:=by
     have:=(Array.getElem?_eq_some_iff.1 h2).2
     simpa using this
    rw[this]
   rw[A2]at h
   obtain⟨g1,g2⟩:=pB hs h
   have Mk:∀k,k<ops.size->(ao.setIfInBounds i true).getD k false=decide (k<i+1):=by
    intro k hk
    simp only[Array.getD_eq_getD_getElem?]
    by_cases e:k=i
    ·subst e;simp[dA,sy]
    ·rw[Array.getElem?_setIfInBounds_ne (Ne.symm e)]
     have:=hl k hk
     simp only[Array.getD_eq_getD_getElem?]at this
     rw[this]
     exact decide_eq_decide.2 ae
   have kI:∀s' aC a' w',xV P n ops X K (ops.toList.drop (i+1)) s'->bW M cf H0 w0 n cx aC s' a' w'->wpAnyIn (dy ro) k P .any ops Q d (ao.setIfInBounds i true) a' w':=
    fun s' aC a' w' hk jQ=>ih (i+1) s' aC _ a' w' ae (by simp[dA]) Mk ae jQ hk
   unfold wpOpIn
   simp only[h2]
   split
   ·rename_i hw
    exact wA hs (g1 hw) (fun s' aC a' w' hk jQ=>kI s' aC a' w' hk jQ) (fun v s' aC w' val hx jQ hd=>hX v s' aC a w' val hx jQ hd)
   ·rename_i hw
    obtain⟨cD,h3⟩:=g2 (by simpa using hw)
    exact⟨fun _ _=>trivial,kI _ _ _ _ h3 (AJ hs cD)⟩
theorem C9(ba:P.follows .mixedOrders=true){ops:Array Oper}{l:List bH}{id:Nat}(qN:kK n ops ops.toList=some l)(sN:∀k,k<ops.size->∀j∈bt ops k,j<k){ac:Nat->eT}{m:Nat}(hm:m<=ops.size){X:V->S->Prop}{K:S->Prop}
 (hs:bW M cf H0 w0 n cx φ s a w) (Se:∀i,i<m->Pf P (eg (bM l) ac (fun _=>true) s i) (s.nx+i) (bM l i) (ac i))
 (Yt:∀i,i<m->(ac i).ok=true)
 {po:Nat->Nat->Prop} (Ev:∀E:Nat->Bool,(∀k,k<ops.size->E k=true->∀j∈bt ops k,E j=true)->∀k,k<ops.size->(∀j∈bt ops k,E j=true)->∀j,po k j->E j=true) (A1:∀k,k<ops.size->∀j,po k j->j<k)
 (hc:∀i j,i<j->j<m-> ¬po j i->Compat (bM l) ac (fun i=>vC (ac i)) i j)
 (Ew:∀k,m<=k->k<ops.size->∀j,j<k->po k j)
 (cu:xV P n ops X K (ops.toList.drop m) ⟨(eg (bM l) ac (fun _=>true) s m).env,(eg (bM l) ac (fun _=>true) s m).o,s.nx+m⟩)
 (hK:∀s φ a w,K s->bW M cf H0 w0 n cx φ s a w->Q .normal a w)
 (hX:∀v s' aC a' w' val,X v s'->bW M cf H0 w0 n cx aC s' a' w'->V.den (ak M aC s'.H) aC s'.H w' v val->Q (.panic [{v:=val,recovered:=false}]) a' w'):
 (Code.region id ops true).wpIn (dy ro) k P Q a w:=by
 refine wpIn_region_any ba ?_
 have hs:=AZ hs
 generalize ({w with drawn:=w.drawn+1}:World)=w at hs
 let N:=m
 let Ef (ao:Array Bool) (k:Nat):Bool:=ao.getD k false
 let D4 (ao:Array Bool) (j:Nat):Prop:=j<s.nx\/∃k,k<N/\Ef ao k=true/\j=s.nx+k
 have key:∀ (fuel:Nat) (ao:Array Bool) (φ:Place) (a:Act) (w:World),ao.size=ops.size->ao.count true+fuel=ops.size->(∀k,k<ops.size->Ef ao k=true->∀j∈bt ops k,Ef ao j=true)->(∀k,k<ops.size->Ef ao k=true->k<m)->
  sx M cf H0 w0 n cx φ (eg (bM l) ac (Ef ao) s N) (D4 ao) a w->wpAnyIn (dy ro) k P .any ops Q fuel ao a w:=by
  have fin:∀ (fuel:Nat) (ao:Array Bool) (φ:Place) (a:Act) (w:World),ao.size=ops.size->ao.count true+fuel=ops.size->(∀k,k<ops.size->Ef ao k=true->k<m)->(∀k,k<N->Ef ao k=true)->sx M cf H0 w0 n cx φ (eg (bM l) ac (Ef ao) s N) (D4 ao) a w->wpAnyIn (dy ro) k P .any ops Q fuel ao a w:=by
   intro fuel ao φ a w dA Gt cm aZ hu
   have e:∀k,k<=N->eg (bM l) ac (Ef ao) s k=eg (bM l) ac (fun _=>true) s k:=by
    intro k
    induction k with
    |zero=>intro _;rfl
    |succ k ih=>intro hk;simp only[eg,aZ k (by omega),ih (by omega)]
   rw[e N (Nat.le_refl _)]at hu
   obtain⟨k1,k2⟩:=iV (us':=fun id=>id<s.nx+N) hu.heap (fun id h=>by
    show id<s.nx+N
    rcases h with h|⟨k,hk,_,rfl⟩<;>omega)
   have hlv:∀k,k<ops.size->ao.getD k false=decide (k<m):=by
    intro k hk
    by_cases h:k<m
    ·rw[decide_eq_true h];exact aZ k h
    ·rw[decide_eq_false h]
     cases hb:ao.getD k false with
     |false=>rfl
     |true=>exact absurd (cm k hk hb) h
   have hcm:ao.count true=m:=by
    have e1:ao=Array.ofFn (n:=ops.size) fun k=>decide (k.1<m):=by
     apply Array.ext
     ·simp[dA]
     ·intro k h1 h2
      have:=hlv k ae
      simp only[Array.getD_eq_getD_getElem?]at this
      rw[Array.getElem?_eq_getElem h1]at this
      simpa using this
    have e2:ao.toList=List.replicate m true++List.replicate (ops.size - m) false:=by
     apply List.ext_getElem?
     intro k
     by_cases hk:k<ops.size
     ·have h1:ao.toList[k]? =some (decide (k<m)):=by
       have:=hlv k hk
       simp only[Array.getD_eq_getD_getElem?]at this
       rw[Array.getElem?_eq_getElem (by omega)]at this
       simp only[Option.getD_some]at this
       rw[Array.getElem?_toList,Array.getElem?_eq_getElem (by omega),this]
      rw[h1]
      by_cases h:k<m
      ·rw[List.getElem?_append_left (by simpa using h)]
       simp[h]
      ·rw[List.getElem?_append_right (by simpa using(by omega:m<=k))]
       rw[List.length_replicate,List.getElem?_replicate,if_pos (by omega),decide_eq_false h]
     ·rw[List.getElem?_eq_none (by simp[dA];omega),List.getElem?_eq_none (by simp;omega)]
    rw[<- Array.count_toList,e2,List.count_append,List.count_replicate_self,List.count_replicate]
    simp
   exact Gv sN Ev Ew hK hX fuel m ⟨(eg (bM l) ac (fun _=>true) s m).env,(eg (bM l) ac (fun _=>true) s m).o,s.nx+m⟩ φ ao a w ae dA hlv (Nat.le_refl _) ⟨k1,hu.tr.trans k2,hu.size,hu.defers.mono k2,fun i=>V.aK k2 _ _ (hu.env i)⟩ cu
  intro fuel
  induction fuel with
  |zero=>
   intro ao φ a w dA Gt l6 cm hu
   have aZ:∀k,k<ops.size->Ef ao k=true:=by
    intro k hk
    have h1:ao.count true=ao.size:=ae
    rw[Array.count_eq_size]at h1
    have:=h1 ao[k] (Array.getElem_mem ae)
    simp only[Ef,Array.getD_eq_getD_getElem?]
    rw[Array.getElem?_eq_getElem (by omega)]
    simpa using this.symm
   exact fin 0 ao φ a w dA Gt cm (fun k hk=>aZ k ae) hu
  |succ fuel ih=>
   intro ao φ a w dA Gt l6 cm hu
   by_cases Pj:∀k,k<m->Ef ao k=true
   ·exact fin (fuel+1) ao φ a w dA Gt cm Pj hu
   have hex:∃j,j<m/\Ef ao j=false:=by
    apply Classical.byContradiction
    intro oP
    refine Pj fun k hk=> ?_
    cases hb:Ef ao k with
    |true=>rfl
    |false=>exact absurd ⟨k,hk,hb⟩ oP
   obtain⟨j0,hj0,Yu⟩:=hex
   refine⟨fun hr=> ?_,fun i hi=> ?_⟩
   ·have:=oD sN dA hr j0 ae
    rw[show ao.getD j0 false=false from Yu]at this
    cases this
   obtain⟨h1,o,h2,h3⟩:=mem_ready.1 hi
   have hiS:i<ops.size:=(Array.getElem?_eq_some_iff.1 h2).1
   have l5:Ef ao i=false:=by
    simp only[Ef,Array.getD_eq_getD_getElem?]at h1|-
    rw[Array.getElem?_eq_getElem (by omega)]at h1|-
    simpa using h1
   have Jb:∀j∈bt ops i,Ef ao j=true:=by
    exact RC
   have sy:i<N:=by
    apply Classical.byContradiction
    intro zK
    have zK:m<=i:=Nat.le_of_not_lt zK
    have:=Ev _ l6 i hiS Jb j0 (Ew i zK hiS j0 ae)
    rw[Yu]at this;cases this
   have Jd:yn N po (Ef ao):=fun k hk iQ=>Ev _ l6 k ae (l6 k ae iQ)
   obtain⟨Yr,ag2⟩:=agree (s:=s) (n:=N) (fun k hk=>A1 k ae) hc Jd sy l5 (Ev _ l6 i ae Jb)
   obtain⟨g1,g2,g3,g4⟩:=wK (tW _ _ i o qN te)
   have cL: ¬D4 ao (s.nx+i):=by
    rintro(h|⟨k,_,hk,he⟩)
    ·omega
    ·have:k=i:=ae
     subst this;rw[l5]at hk;cases hk
   have C7:∀k,Ef (ao.setIfInBounds i true) k=(Ef ao k||k==i):=by
    intro k
    simp only[Ef,Array.getD_eq_getD_getElem?]
    by_cases e:k=i
    ·subst e;simp[dA,hiS]
    ·rw[Array.getElem?_setIfInBounds_ne (Ne.symm e)]
     have:(k==i)=false:=by simpa using e
     simp[this]
   have Sf:=insert (s:=s) hc Jd sy l5 C7
   have Sg:∀k,k<ops.size->Ef (ao.setIfInBounds i true) k=true->∀j∈bt ops k,Ef (ao.setIfInBounds i true) j=true:=by
    intro k hk iQ j hj
    rw[C7]at iQ|-
    by_cases e:k=i
    ·subst e;simp[Jb j hj]
    ·have:(k==i)=false:=by simpa using e
     rw[this,Bool.or_false]at iQ
     simp[l6 k hk iQ j hj]
   have Je:(ao.setIfInBounds i true).count true+fuel=ops.size:=by
    have cm:i<ao.size:=ae
    have e1:ao.setIfInBounds i true=ao.set i true cm:=by simp[Array.setIfInBounds,cm]
    have e2:ao[i]=false:=by
     have:=l5
     simp only[Ef,Array.getD_eq_getD_getElem?]at this
     rw[Array.getElem?_eq_getElem cm]at this
     simpa using this
    rw[e1,Array.count_set cm,e2]
    simp
    omega
   have kI:(ac i).ok=true->∀aC a' w',sx M cf H0 w0 n cx aC (vi o.dst (ac i) (eg (bM l) ac (Ef ao) s N)) (fun id=>D4 ao id\/id=s.nx+i) a' w'->wpAnyIn (dy ro) k P .any ops Q fuel (ao.setIfInBounds i true) a' w':=by
    intro Ys aC a' w' zR
    refine ih _ aC a' w' (by simp[dA]) Je Sg (fun k hk iQ=> ?_) ?_
    ·rw[C7]at iQ
     by_cases e:k=i
     ·subst e;exact sy
     ·have:(k==i)=false:=by simpa using e
      rw[this,Bool.or_false]at iQ
      exact cm k hk iQ
    rw[Sf,g2]
    obtain⟨k1,k2⟩:=iV (us':=D4 (ao.setIfInBounds i true)) zR.heap (fun id h=>by
     rcases h with(h|⟨k,hk,iQ,rfl⟩)|rfl
     ·exact .inl h
     ·exact .inr ⟨k,hk,by rw[C7,iQ];rfl,rfl⟩
     ·exact .inr ⟨i,sy,by rw[C7];simp,rfl⟩)
    exact W4
   have Gu:∀d want,(bM l i).gd=some (d,want)->(eg (bM l) ac (Ef ao) s N).env d=(eg (bM l) ac (fun _=>true) s i).env d:=fun d want hd=>Yr d (by simp[eM,tmpsOf,hd])
   have aS:=Se i sy
   have Ir:∀x∈(bM l i).op.operands,(eg (bM l) ac (Ef ao) s N).ev x=(eg (bM l) ac (fun _=>true) s i).ev x:=fun x hx=>AX fun t ht=>Yr t (by
    subst ht
    simp only[eM,tmpsOf,List.mem_append,List.mem_filterMap]
    exact .inl (.inl ⟨.tmp t,Array.mem_toList_iff.2 hx,rfl⟩))
   have RQ:(eg (bM l) ac (Ef ao) s N).nx=(eg (bM l) ac (fun _=>true) s i).nx:=(ko N).trans (ko i).symm
   unfold wpOpIn
   simp only[h2]
   cases vg:ac i with
   |skip=>
    rw[vg]at aS kI
    have hw:=fh hu.env g4 (fi Gu aS)
    simp only[hw,Bool.false_eq_true,if_false]
    refine⟨fun _ _=>trivial,kI rfl φ _ w ?_⟩
    have:=jm (v:= .bT []) (val:=undef) hu hu.heap (Trans.refl _ _ _) ⟨#[],rfl,rfl⟩ (dst:=o.dst) g3 rfl (us':=fun id=>D4 ao id\/id=s.nx+i) (fun id h=> .inl h)
    exact this
   |val v Δ rd=>
    rw[vg]at aS kI
    have hw:=fh hu.env g4 (fi Gu aS.1)
    exact XH
   |bB v ws rd=>
    have:=Yt i sy
    rw[vg]at this;cases this
   |de=>
    have:=Yt i sy
    rw[vg]at this;cases this
 refine key ops.size _ φ a w aJ (by simp[Array.count_replicate]) (fun k hk iQ=> ?_) (fun k hk iQ=> ?_) ?_
 ·exact LZ
 ·exact LZ
 ·have e:∀k,eg (bM l) ac (Ef (Array.replicate ops.size false)) s k=s:=by
   intro k
   induction k with
   |zero=>rfl
   |succ k ih=>
    have:Ef (Array.replicate ops.size false) k=false:=by
     exact OG
    simp only[eg,this,ih]
    rfl
  exact XM
end
end
end Go.Proofs.YtnkamdiiakdkgaaGreat
