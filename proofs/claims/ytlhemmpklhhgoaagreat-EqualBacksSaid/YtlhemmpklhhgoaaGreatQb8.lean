/-
  A PART OF THE PROOF. Conditions: none.
-/
import Derived.OrdersIn
import Derived.Test.YtlhemmpklhhgoaaGreatQb7
set_option linter.unusedSimpArgs false
set_option linter.unusedVariables false
namespace Go.Proofs.YtlhemmpklhhgoaaGreat
section
def ab.refs:ab->List Nat
 | .row cs=>V.aP cs
 | .loop _ _ env _ _ _ _ _=>V.aP env
 |_=>[]
def Lj(R:List Nat)(o:Nat->ab):Nat->ab:=fun id=>if R.contains id=true then o id else .no
def F2(P:Program)(g:FuncId)(args:List V)(rd:List Nat)(o:Nat->ab)(out:R)(Δ:List (Nat×ab)):Prop:=
 Enters P g/\∀ (o':Nat->ab) (us:Nat->Prop) (M:Nat->Prop) (φ:Place) (w:World) (vals:Array Value),(∀id∈rd,o' id=o id/\us id)->aq M φ ⟨o',us⟩ w->V.az (ai M φ ⟨o',us⟩) φ ⟨o',us⟩ w args vals.toList->
  Calls P g vals w fun e w'=>∃aA,aq M aA ⟨put o' Δ,us⟩ w'/\Trans φ ⟨o',us⟩ w aA ⟨put o' Δ,us⟩ w'/\out.is (ai M aA ⟨put o' Δ,us⟩) w' e
def xm(P:Program)(g:FuncId)(args:List V)(rd:List Nat)(o:Nat->ab)(fr:Nat)(v:V)(Δ:List (Nat×ab)):Prop:=
 Enters P g/\∀ (o':Nat->ab) (us:Nat->Prop) (M:Nat->Prop) (φ:Place) (w:World) (vals:Array Value),(∀id∈rd,o' id=o id/\us id)-> ¬us fr->aq M φ ⟨o',us⟩ w->V.az (ai M φ ⟨o',us⟩) φ ⟨o',us⟩ w args vals.toList->
  Calls P g vals w fun e w'=>∃aA,aq M aA ⟨put o' Δ,fun id=>us id\/id=fr⟩ w'/\Trans φ ⟨o',us⟩ w aA ⟨put o' Δ,fun id=>us id\/id=fr⟩ w'/\∃val,e= .returned val/\V.den (ai M aA ⟨put o' Δ,fun id=>us id\/id=fr⟩) aA ⟨put o' Δ,fun id=>us id\/id=fr⟩ w' v val
mutual
theorem V.kX {B B':Nat->Prop}{φ aA:Place}{H H':Hp}{w:World}(hB:∀b, ¬B b-> ¬B' b):∀ (v:V) (val:Value),(∀id∈v.refs,H'.o id=H.o id/\aA id=φ id/\H'.us id)->V.den B φ H w v val->V.den B' aA H' w v val
 | .d x,val,_,h=>D.aL (w:=w) (w':=w) (fun b _ hn=>⟨rfl,hB b hn⟩) x val h
 | .aE,_,_,h=>h
 | .aa,_,_,_=>trivial
 | .eg,_,_,h=>h
 | .oO es,val,_,h=>⟨D.aL (w:=w) (w':=w) (fun b _ hn=>⟨rfl,hB b hn⟩) (.sl es) val h.1,h.2⟩
 | .agg cs,val,hr,h=>by
   obtain⟨a,rfl,h1,h2⟩:=h
   exact⟨a,rfl,V.eM hB cs _ Df h1,h2⟩
 | .bH cs,val,hr,h=>by
   obtain⟨a,rfl,h1⟩:=h
   exact⟨a,rfl,V.eM hB cs _ Df h1⟩
 | .ptr id off,val,hr,h=>by
   exact Ys
 | .osl id ep,val,hr,h=>by
   obtain⟨a,b,c⟩:=hr id oR
   obtain⟨h0,h1,h2⟩:=h
   refine⟨h0,c,fun e he=> ?_⟩
   rw[a]at he
   obtain⟨x,y⟩:=h2 e he
   exact⟨x,fun heq=>(y heq).trans b.symm⟩
 | .pe id ep i sz off,val,hr,h=>by
   obtain⟨a,b,c⟩:=hr id oR
   obtain⟨h0,h1,h2⟩:=h
   refine⟨h0,c,fun e he=> ?_⟩
   rw[a]at he
   obtain⟨x,y⟩:=h2 e he
   exact Th
 | .pp cs off,val,_,h=>by
   obtain⟨a,ev,h1,h2,h3,h5,h4⟩:=h
   exact R0
 | .func fn first cap,val,hr,h=>by
   obtain⟨f,c,rfl,h1,h2⟩:=h
   exact⟨f,c,rfl,V.eM hB first _ (fun id au=>hr id (by simp[V.refs,au])) h1,V.eM hB cap _ (fun id au=>hr id (by simp[V.refs,au])) h2⟩
 | .iface t x,val,hr,h=>by
   obtain⟨u,rfl,h⟩:=h
   exact⟨u,rfl,V.kX hB x u Df h⟩
 | .uc id off n,val,hr,h=>by
   exact Ys
 | .mp id,val,hr,h=>by
   obtain⟨a,b,c⟩:=hr id oR
   obtain⟨h0,h1,h2⟩:=h
   refine⟨h0,c,fun cy=> ?_⟩
   rw[a]at cy
   exact(h2 cy).trans b.symm
 | .js id,val,hr,h=>by
   exact Ys
theorem V.eM {B B':Nat->Prop}{φ aA:Place}{H H':Hp}{w:World}(hB:∀b, ¬B b-> ¬B' b):∀ (vs:List V) (vals:List Value),(∀id∈V.aP vs,H'.o id=H.o id/\aA id=φ id/\H'.us id)->V.az B φ H w vs vals->V.az B' aA H' w vs vals
 |[],_,_,h=>h
 |v::vs,_,hr,h=>by
  obtain⟨u,us,rfl,h1,h2⟩:=h
  exact⟨u,us,rfl,V.kX hB v u (fun id au=>hr id (by simp[V.aP,au])) h1,V.eM hB vs us (fun id au=>hr id (by simp[V.aP,au])) h2⟩
end
theorem DS{env:List V}{i id:Nat}(h:id∈(ba env i).refs):id∈V.aP env:=by
 unfold ba at h
 induction env generalizing i with
 |nil=>simp[V.refs]at h
 |cons v env ih=>
  cases i with
  |zero=>simp only[List.getD_cons_zero]at h;simp[V.aP,h]
  |succ i=>simp only[List.getD_cons_succ]at h;simp[V.aP,ih h]
theorem aJ.refs {M M':Nat->Prop}{φ aA:Place}{H H':Hp}{w:World}{id:Nat}(hB:∀b, ¬ai M φ H b-> ¬ai M' aA H' b)(ho:H'.o id=H.o id)(ef:aA id=φ id)
 (hr:∀j∈(H.o id).refs,H'.o j=H.o j/\aA j=φ j/\H'.us j) (h:aJ M φ H w id):aJ M' aA H' w id:=by
 have hd:∀b,ct w b-> ¬ai M φ H b->w.heap[b]? =w.heap[b]? /\ ¬ai M' aA H' b:=fun b _ hn=>⟨rfl,hB b hn⟩
 unfold aJ at*
 rw[ho]
 cases hx:H.o id with
 |no=>trivial
 |row cs=>
  simp only[hx]at h|-
  obtain⟨b,df,ty,h1,h2,h3,h4⟩:=h
  exact⟨b,df,ty,ef.trans h1,h2,V.eM hB cs _ (fun j hj=>hr j (by rw[hx];exact hj)) h3,h4⟩
 |arr ep ty sz es=>
  simp only[hx]at h|-
  obtain⟨h0,xs,h1,evs,h2,h3,h4⟩:=h
  exact⟨h0,xs,by rw[ef];exact h1,evs,h2,h3,D.aO hd es evs h4⟩
 |qN ep es=>
  simp only[hx]at h|-
  rw[ef]
  exact D.aL hd (.sl es) _ h
 |map kt vt l=>
  simp only[hx]at h|-
  obtain⟨b,es,clock,h1,h2,h4,h3⟩:=h
  exact⟨b,es,clock,ef.trans h1,h2,h4,aB.mono hd l _ h3⟩
 |cM l=>
  simp only[hx]at h|-
  rw[ef]
  exact jf.mono hd h
 |oX l last=>
  simp only[hx]at h|-
  obtain⟨b,h1,h2⟩:=h
  exact⟨b,ef.trans h1,h2.mono hd rfl⟩
 |vy s pos=>
  simp only[hx]at h|-
  obtain⟨b,h1,h2⟩:=h
  exact⟨b,ef.trans h1,h2⟩
 |loop nf n env ps jg eS st Dj=>
  simp only[hx]at h|-
  obtain⟨b,r,h1,h2,h0,h3,h4,h5,h6,h7,h8,h9⟩:=h
  exact⟨b,r,ef.trans h1,h2,h0,h3,h4,h5,h6,h7,h8,fun i=>V.kX hB _ _ (fun j hj=>hr j (by rw[hx];exact DS hj)) (h9 i)⟩
section
variable {P:Program}
theorem AO{o o':Nat->ab}{Δ:List (Nat×ab)}{id:Nat}(h:o id=o' id):put o Δ id=put o' Δ id:=Ci h
where Ci {o o':Nat->ab}:∀ {Δ:List (Nat×ab)} {id:Nat},o id=o' id->put o Δ id=put o' Δ id
 |[],_,h=>h
 |x::Δ,id,h=>by
  simp only[put,List.foldl_cons]
  refine Ci (Δ:=Δ) (o:=aI o x.1 x.2) (o':=aI o' x.1 x.2) ?_
  simp only[aC]
  split
  ·rfl
  ·exact h
theorem we{o:Nat->ab}:∀ {Δ:List (Nat×ab)} {id:Nat},(∀x∈Δ,x.1≠id)->put o Δ id=o id
 |[],_,_=>rfl
 |x::Δ,id,h=>by
  have:=we (o:=aI o x.1 x.2) (Δ:=Δ) (id:=id) (fun y hy=>h y mj)
  simp only[put,List.foldl_cons]at this|-
  rw[this];simp[Ne.symm (h x (by simp))]
theorem F2.mS {g:FuncId}{args:List V}{rd:List Nat}{o:Nat->ab}{nx:Nat}{out:R}{Δ:List (Nat×ab)}(tj:∀id∈rd,id<nx)(db:∀id∈V.aP args,id∈rd)(qA:∀id∈rd,∀j∈(o id).refs,j∈rd)(QC:∀x∈Δ,x.1∈rd)(Y8:∀x∈Δ,∀j∈x.2.refs,j∈rd)
 (h:dA P g args (Lj rd o) nx
  (fun v o1 _=>(∀id∈rd,o1 id=put o Δ id)/\∃vs rs,v=(match vs with|[v]=>v|vs=> .bH vs)/\bI o1 vs=some rs/\out= .ret rs/\∀id∈V.aZ vs,id∉rd)
  (fun v o1 _=>(∀id∈rd,o1 id=put o Δ id)/\∃x,dv o1 v=some x/\out= .bu x/\∀id∈v.ids,id∉rd)):F2 P g args rd o out Δ:=by
 refine⟨h.1,fun o' us M φ w vals ho hH hd=> ?_⟩
 let M1:Nat->Prop:=fun b=>M b\/∃id,id∉rd/\(o' id).live=true/\dR (φ id)=some b
 let HR:Hp:=hp (Lj rd o) nx
 have rS:∀id,id∈rd->Lj rd o id=o' id:=fun id au=>by simp[Lj,au,(ho id au).1]
 have qg:∀id,id∉rd->Lj rd o id= .no:=fun id au=>by simp[Lj,au]
 have hB:∀b,ai M1 φ HR b↔ai M φ ⟨o',us⟩ b:=by
  intro b
  constructor
  ·rintro((h|⟨id,h1,h2,h3⟩)|⟨id,h1,h2⟩)
   ·exact .inl h
   ·exact .inr ⟨id,h2,h3⟩
   ·by_cases au:id∈rd
    ·exact .inr ⟨id,by show(o' id).live=true;rw[<- rS id au];exact h1,h2⟩
    ·have:HR.o id= .no:=qg id au
     rw[this]at h1;cases h1
  ·rintro(h|⟨id,h1,h2⟩)
   ·exact .inl (.inl h)
   ·by_cases au:id∈rd
    ·exact .inr ⟨id,by show(Lj rd o id).live=true;rw[rS id au];exact h1,h2⟩
    ·exact .inl (.inr ⟨id,au,h1,h2⟩)
 have FE:∀id∈rd,HR.o id=o' id/\φ id=φ id/\HR.us id:=fun id au=>⟨rS id au,rfl,tj id au⟩
 have hHR:aq M1 φ HR w:=by
  refine⟨fun id=> ?_,fun id hn=> ?_,fun i j b hi hj bi bj=> ?_,fun b hb=> ?_,fun b hb=> ?_⟩
  ·by_cases au:id∈rd
   ·refine aJ.refs (H:=⟨o',us⟩) (M:=M) (φ:=φ) (fun b hn hb=>hn ((hB b).1 hb)) (rS id au) rfl (fun j hj=>FE j ?_) (hH.ok id)
    have:o' id=o id:=(ho id au).1
    exact qA id au j (by rw[<- this];exact hj)
   ·unfold aJ
    rw[show HR.o id= .no from qg id au];trivial
  ·exact qg id fun au=>hn (tj id au)
  ·have live:∀i,(HR.o i).live=true->i∈rd/\(o' i).live=true:=fun i hi=>by
    by_cases au:i∈rd
    ·exact⟨au,by rw[<- rS i au];exact hi⟩
    ·rw[show HR.o i= .no from qg i au]at hi;cases hi
   exact hH.apart i j b (live i hi).2 (live j hj).2 bi bj
  ·obtain⟨id,h1,h2⟩:=hb
   have au:id∈rd:=by
    by_cases au:id∈rd
    ·exact au
    ·rw[show HR.o id= .no from qg id au]at h1;cases h1
   rw[show HR.o id=o' id from rS id au]at h1
   obtain⟨k1,k2⟩:=hH.ours b ⟨id,h1,h2⟩
   refine⟨?_,k2⟩
   rintro(hM|⟨j,j1,j2,j3⟩)
   ·exact k1 hM
   ·exact j1 (hH.apart j id b j2 h1 j3 h2 ▸ au)
  ·rcases hb with hb|⟨id,h1,h2,h3⟩
   ·exact hH.xg b hb
   ·exact(hH.ours b ⟨id,h2,h3⟩).2
 have hdR:V.az (ai M1 φ HR) φ HR w args vals.toList:=V.eM (H:=⟨o',us⟩) (fun b hn hb=>hn ((hB b).1 hb)) _ _ (fun id au=>FE id (db id au)) hd
 refine(h.2 M1 φ w vals hHR hdR).mono ?_
 rintro e w' ⟨gy,o1,xn,v,k1,k2,k3⟩
 have main:(∀id∈rd,o1 id=put o Δ id)->∃aA,aq M aA ⟨put o' Δ,us⟩ w'/\Trans φ ⟨o',us⟩ w aA ⟨put o' Δ,us⟩ w'/\∀b,ai M aA ⟨put o' Δ,us⟩ b->M1 b\/∃id∈rd,(o1 id).live=true/\dR (gy id)=some b:=by
  intro tf
  have B9:∀id∈rd,put o' Δ id=o1 id:=fun id au=>(AO (ho id au).1).trans (tf id au).symm
  have EO:∀id,id∉rd->put o' Δ id=o' id:=fun id au=>we fun x hx e=>au (e ▸ QC x hx)
  let DJ:Place:=fun id=>if id∈rd then gy id else φ id
  have wg:∀id∈rd,DJ id=gy id:=fun id au=>if_pos au
  have yn:∀id,id∉rd->DJ id=φ id:=fun id au=>if_neg au
  let H2:Hp:=⟨put o' Δ,us⟩
  have cC:∀b,cn DJ H2 b->(∃id∈rd,(o1 id).live=true/\dR (gy id)=some b)\/∃id,id∉rd/\(o' id).live=true/\dR (φ id)=some b:=by
   rintro b ⟨id,h1,h2⟩
   by_cases au:id∈rd
   ·exact .inl ⟨id,au,by rw[<- B9 id au];exact h1,by rw[<- wg id au];exact h2⟩
   ·exact .inr ⟨id,au,by rw[<- EO id au];exact h1,by rw[<- yn id au];exact h2⟩
  have Xw:∀b,ai M DJ H2 b->ai M1 gy (hp o1 xn) b:=by
   rintro b (hb|hb)
   ·exact .inl (.inl hb)
   ·rcases cC b hb with⟨id,h1,h2,h3⟩|⟨id,h1,h2,h3⟩
    ·exact .inr ⟨id,h2,h3⟩
    ·exact .inl (.inr ⟨id,h1,h2,h3⟩)
  have TL:dg φ ⟨o',us⟩ DJ H2:=by
   refine⟨fun id h=>h,fun id hu hr=> ?_,fun id e' hu he=> ?_⟩
   ·by_cases au:id∈rd
    ·rw[show H2.o id=o1 id from B9 id au]at hr
     obtain⟨a,b⟩:=k2.rel.row id (tj id au) hr
     rw[show HR.o id=o' id from rS id au]at a
     exact⟨a,(wg id au).trans b⟩
    ·rw[show H2.o id=o' id from EO id au]at hr
     exact⟨hr,yn id au⟩
   ·by_cases au:id∈rd
    ·rw[show H2.o id=o1 id from B9 id au]at he
     obtain⟨e0,a,b,c⟩:=k2.rel.ep id e' (tj id au) he
     rw[show HR.o id=o' id from rS id au]at a
     exact⟨e0,a,b,fun heq=>(wg id au).trans (c heq)⟩
    ·rw[show H2.o id=o' id from EO id au]at he
     exact⟨e',he,Nat.le_refl _,fun _=>yn id au⟩
  have rv:∀b,ct w b-> ¬ai M φ ⟨o',us⟩ b->w'.heap[b]? =w.heap[b]? /\ ¬ai M DJ H2 b:=by
   intro b hc hn
   obtain⟨a,c⟩:=k2.blocks (M:=M1) b hc (fun hb=>hn ((hB b).1 hb))
   exact⟨a,fun hb=>c (Xw b hb)⟩
  have vV:∀b,b<w.heap.size-> ¬cn φ HR b->w'.heap[b]? =w.heap[b]? :=fun b hb hl=>k2.keep.block b hb hl
  have ht:Trans φ ⟨o',us⟩ w DJ H2 w':=by
   refine⟨⟨k2.keep.os,k2.keep.tape,k2.keep.output,k2.keep.size,fun b hb hl=>vV b hb fun⟨id,h1,h2⟩=>hl ?_⟩,fun b hb=> ?_,TL⟩
   ·by_cases au:id∈rd
    ·exact⟨id,by show(o' id).live=true;rw[<- rS id au];exact h1,h2⟩
    ·rw[show HR.o id= .no from qg id au]at h1;cases h1
   ·rcases cC b hb with⟨id,h1,h2,h3⟩|⟨id,h1,h2,h3⟩
    ·rcases k2.grow b ⟨id,h2,h3⟩with⟨j,j1,j2⟩|xi
     ·by_cases au:j∈rd
      ·exact .inl ⟨j,by show(o' j).live=true;rw[<- rS j au];exact j1,j2⟩
      ·rw[show HR.o j= .no from qg j au]at j1;cases j1
     ·exact .inr xi
    ·exact .inl ⟨id,h2,h3⟩
  refine⟨DJ,⟨fun id=> ?_,fun id hn=> ?_,fun i j b hi hj bi bj=> ?_,fun b hb=> ?_,fun b hb=>Nat.lt_of_lt_of_le (hH.xg b hb) k2.keep.size⟩,ht,fun b hb=> ?_⟩
  ·by_cases au:id∈rd
   ·refine aJ.refs (H:=hp o1 xn) (M:=M1) (φ:=gy) (fun b hn hb=>hn (Xw b hb)) (B9 id au) (wg id au) (fun j hj=> ?_) (k1.ok id)
    have EK:j∈rd:=by
     have e1:o1 id=put o Δ id:=tf id au
     have hj:j∈(put o Δ id).refs:=by rw[<- e1];exact hj
     have key:∀ (Cj:List (Nat×ab)) (q:Nat->ab),(∀x∈Cj,∀j∈x.2.refs,j∈rd)->(∀j∈(q id).refs,j∈rd)->∀j∈(put q Cj id).refs,j∈rd:=by
      intro Cj
      induction Cj with
      |nil=>intro q _ h2;exact h2
      |cons x Cj ih=>
       intro q h1 h2
       simp only[put,List.foldl_cons]
       refine ih (aI q x.1 x.2) (fun y hy=>h1 y mj) ?_
       simp only[aC]
       split
       ·exact h1 x aK
       ·exact h2
     exact key Δ o Y8 (qA id au) j hj
    exact⟨B9 j EK,wg j EK,(ho j EK).2⟩
   ·exact aJ.xJ rv TL (EO id au) (yn id au) (fun hl b hb=>vV b (hH.ours b ⟨id,hl,hb⟩).2 fun⟨j,j1,j2⟩=>by
     by_cases hj:j∈rd
     ·rw[show HR.o j=o' j from rS j hj]at j1
      exact au (hH.apart id j b hl j1 hb j2 ▸ hj)
     ·rw[show HR.o j= .no from qg j hj]at j1;cases j1) (hH.ok id)
  ·have au:id∉rd:=fun au=>hn (ho id au).2
   exact(EO id au).trans (hH.fresh id hn)
  ·by_cases e1:i∈rd<;>by_cases e2:j∈rd
   ·refine k1.apart i j b ?_ ?_ (by rw[<- wg i e1];exact bi) (by rw[<- wg j e2];exact bj)
    ·show(o1 i).live=true;rw[<- B9 i e1];exact hi
    ·show(o1 j).live=true;rw[<- B9 j e2];exact hj
   ·exfalso
    refine(k1.ours b ⟨i,by show(o1 i).live=true;rw[<- B9 i e1];exact hi,by rw[<- wg i e1];exact bi⟩).1 (.inr ⟨j,e2,by rw[<- EO j e2];exact hj,by rw[<- yn j e2];exact bj⟩)
   ·exfalso
    refine(k1.ours b ⟨j,by show(o1 j).live=true;rw[<- B9 j e2];exact hj,by rw[<- wg j e2];exact bj⟩).1 (.inr ⟨i,e1,by rw[<- EO i e1];exact hi,by rw[<- yn i e1];exact bi⟩)
   ·exact hH.apart i j b (by show(o' i).live=true;rw[<- EO i e1];exact hi) (by show(o' j).live=true;rw[<- EO j e2];exact hj) (by rw[<- yn i e1];exact bi) (by rw[<- yn j e2];exact bj)
  ·rcases cC b hb with⟨id,h1,h2,h3⟩|⟨id,h1,h2,h3⟩
   ·obtain⟨a,c⟩:=k1.ours b ⟨id,h2,h3⟩
    exact⟨fun hM=>a (.inl hM),c⟩
   ·obtain⟨a,c⟩:=hH.ours b ⟨id,h2,h3⟩
    exact⟨a,Nat.lt_of_lt_of_le c k2.keep.size⟩
  ·rcases hb with hb|hb
   ·exact .inl (.inl hb)
   ·rcases cC b hb with h|h
    ·exact .inr h
    ·exact .inl (.inr h)
 have res:∀ (vs:List V) (xs:List D) (us':List Value),(∀id∈rd,o1 id=put o Δ id)->bI o1 vs=some xs->(∀id∈V.aZ vs,id∉rd)->V.az (ai M1 gy (hp o1 xn)) gy (hp o1 xn) w' vs us'->
  ∃aA,aq M aA ⟨put o' Δ,us⟩ w'/\Trans φ ⟨o',us⟩ w aA ⟨put o' Δ,us⟩ w'/\D.az (ai M aA ⟨put o' Δ,us⟩) w' xs us':=by
  intro vs xs us' tf h1 Y9 h2
  obtain⟨f1,f2,f3,f4,f5⟩:=cG k1 (V.aZ vs) (cw vs _ h2)
  have h3:=cQ f1 vs xs us' f3 h1 (V.aO f2 _ _ h2)
  obtain⟨aA,m1,m2,m3⟩:=main tf
  refine⟨aA,m1,m2,D.aO (w:=w') (w':=w') (fun b _ hn=>⟨rfl,fun hb=>hn ?_⟩) xs us' h3⟩
  rcases m3 b hb with hb|⟨id,i1,i2,i3⟩
  ·exact .inl hb
  ·exact .inr ⟨id,by rw[f4 id fun hm=>Y9 id hm i1];exact i2,i3⟩
 cases e with
 |outgrown=>exact k3.elim
 |panicked ch=>
  obtain⟨val,rfl,g1,tf,x,g2,rfl,g3⟩:=k3
  obtain⟨aA,m1,m2,m3⟩:=res [v] [x] [val] tf (by simp[bI,g2]) (by simpa[V.aZ]using g3) ⟨val,[],rfl,g1,rfl⟩
  obtain⟨u,us2,he,h2,_⟩:=m3
  simp at he;obtain⟨rfl,rfl⟩:=he
  exact⟨aA,m1,m2,val,rfl,h2⟩
 |returned val=>
  obtain⟨g1,tf,vs,rs,rfl,g2,rfl,g3⟩:=k3
  match vs,g1,g2,g3 with
  |[],g1,g2,g3=>
   obtain⟨arr,rfl,hv⟩:=g1
   simp only[bI,Option.some.injEq]at g2;subst g2
   obtain⟨aA,m1,m2,m3⟩:=res [] [] arr.toList tf rfl (by simp[V.aZ]) hv
   exact⟨aA,m1,m2,arr,rfl,m3⟩
  |[v],g1,g2,g3=>
   obtain⟨aA,m1,m2,m3⟩:=res [v] rs [val] tf g2 g3 ⟨val,[],rfl,g1,rfl⟩
   refine⟨aA,m1,m2, ?_⟩
   cases rs with
   |nil=>cases m3
   |cons x l=>
    obtain⟨u,us2,he,h2,h3⟩:=m3
    simp at he;obtain⟨rfl,rfl⟩:=he
    cases l with
    |nil=>exact h2
    |cons y l=>obtain⟨_,_,h,_⟩:=h3;cases h
  |v::v2::l,g1,g2,g3=>
   obtain⟨arr,rfl,hv⟩:=g1
   obtain⟨aA,m1,m2,m3⟩:=res (v::v2::l) rs arr.toList tf g2 g3 hv
   refine⟨aA,m1,m2, ?_⟩
   have hl:=D.ax _ _ m3
   have hl2:=V.ax _ _ hv
   match rs,hl,m3 with
   |[],hl,_=>exact BO
   |[x],hl,_=>exact BO
   |x::y::l,_,m3=>exact⟨arr,rfl,m3⟩
end
end
section
inductive dX where
 |skip|val (v:V) (Δ:List (Nat×ab)) (rd:List Nat)|bu (v:V) (ws rd:List Nat)|dR
 deriving Inhabited
def dX.ok:dX->Bool
 | .skip| .val .. =>true
 |_=>false
def tl(dst:Option Tmp)(x:dX)(s:S):S:=
 match x with
 | .skip=>⟨aS s.env dst (.bH []),s.o,s.nx⟩
 | .val v Δ _=>⟨aS s.env dst v,put s.o Δ,s.nx⟩
 | .bu .. | .dR=>⟨aS s.env dst .aa,s.o,s.nx⟩
def jj:dX->List Nat
 | .val _ Δ _=>Δ.map (·.1)
 |_=>[]
def tL:dX->List Nat
 | .val _ _ rd=>rd
 | .bu _ _ rd=>rd
 |_=>[]
def TM(P:Program)(g:FuncId)(ds:List D)(v:V):Prop:=
 Enters P g/\∀ (M:Nat->Prop) (w:World) (vals:Array Value),(∀b,M b->b<w.heap.size)->D.az M w ds vals.toList->
  Calls P g vals w fun e w'=>dD (fun _=>False) w w'/\∃val,e= .returned val/\∀φ H,V.den M φ H w' v val
theorem TM.mS {P:Program}{g:FuncId}{ds:List D}{v:V}(hr:v.refs=[])(h:dA P g (ds.map .d) (fun _=> .no) 0 (fun v' _ _=>v'=v) (fun _ _ _=>False)):TM P g ds v:=by
 refine⟨h.1,fun M w vals hM hd=> ?_⟩
 let b7:Place:=fun _=> .nilFunc
 have vV:∀b, ¬cn b7 (hp (fun _=> .no) 0) b:=by rintro b ⟨id,hl,_⟩;simp[hp,ab.live]at hl
 refine(h.2 M b7 w vals (lQ b7 hM) ((V.bW _ _).2 (D.aO (w:=w) (w':=w) (B:=M) (fun b _ hB=>⟨rfl,fun h=>h.elim hB (vV b)⟩) _ _ hd))).mono ?_
 rintro e w' ⟨aA,o',nx',v',k1,k2,k3⟩
 refine⟨⟨k2.keep.os,k2.keep.tape,k2.keep.output,k2.keep.size,fun k hk _=>k2.keep.block k hk (vV k)⟩, ?_⟩
 cases e with
 |outgrown=>exact k3.elim
 |panicked ch=>obtain⟨_,_,_,h⟩:=k3;exact h.elim
 |returned val=>
  obtain⟨g1,rfl⟩:=k3
  exact⟨val,rfl,fun φ H=>V.kX (B:=ai M aA (hp o' nx')) (φ:=aA) (H:=hp o' nx') (fun b hb hm=>hb (.inl hm)) v' val (fun id au=>by rw[hr]at au;cases au) g1⟩
def uG(P:Program)(s:S)(fr:Nat)(op:Op)(v:V)(Δ:List (Nat×ab))(rd:List Nat):Prop:=
 ((∃qM,eR P s fr op=some (v,Δ,qM))/\rd=mh s op)\/
 (∃c f g first cap,op= .call c/\c.callee= .value f/\s.ev f= .func (.func g) first cap/\
  ((∃ds rs,bI s.o (first++c.args.toList.map s.ev++cap)=some ds/\aX P g ds (.ret rs)/\v=ir rs/\rd=mh s op/\
    (Δ=bP s.o (V.aZ (first++c.args.toList.map s.ev++cap))\/D.iq rs=true/\Δ=[]))\/
   (∃rs,F2 P g (first++c.args.toList.map s.ev++cap) rd s.o (.ret rs) Δ/\v=ir rs/\∀id∈rd,id<s.nx)\/
   (∃ds,bI s.o (first++c.args.toList.map s.ev++cap)=some ds/\TM P g ds v/\rd=mh s op/\Δ=bP s.o (V.aZ (first++c.args.toList.map s.ev++cap)))\/
   (xm P g (first++c.args.toList.map s.ev++cap) rd s.o fr v Δ/\∀id∈rd,id<s.nx)))
def yo(P:Program)(s:S)(op:Op)(v:V)(ws rd:List Nat):Prop:=
 ∃c f g first cap,op= .call c/\c.callee= .value f/\s.ev f= .func (.func g) first cap/\
  ((∃ds x,bI s.o (first++c.args.toList.map s.ev++cap)=some ds/\aX P g ds (.bu x)/\x.flat=true/\v= .d x/\rd=mh s op/\ws=[])\/
   (∃x Δ,F2 P g (first++c.args.toList.map s.ev++cap) rd s.o (.bu x) Δ/\v= .d x/\ws=Δ.map (·.1)/\∀id∈rd,id<s.nx))
def de(s:S)(gd:Option (Nat×Bool))(b:Bool):Prop:=
 match gd with
 |none=>b=true
 |some (d,want)=>match s.env d with
  | .d (.bool c)=>b=(c==want)
  | .bH []=>b=false
  |_=>False
def Lk(P:Program)(s:S)(fr:Nat)(o:bB)(x:dX):Prop:=
 match x with
 | .skip=>de s o.gd false
 | .val v Δ rd=>de s o.gd true/\uG P s fr o.op v Δ rd
 | .bu v ws rd=>de s o.gd true/\yo P s o.op v ws rd
 | .dR=>True
def dG(oc:Nat->bB)(ac:Nat->dX)(E:Nat->Bool)(s:S):Nat->S
 |0=>s
 |k+1=>if E k then tl (oc k).dst (ac k) (dG oc ac E s k)else dG oc ac E s k
structure Compat (oc:Nat->bB) (ac:Nat->dX) (R:Nat->List Nat) (i j:Nat):Prop where
 di:∀d,(oc i).dst=some d->d∉dU (oc j)
 dj:∀d,(oc j).dst=some d->d∉dU (oc i)
 wi:∀id∈jj (ac i),id∉R j/\id∉jj (ac j)
 wj:∀id∈jj (ac j),id∉R i
section
variable {P:Program}{oc:Nat->bB}{ac:Nat->dX}{s:S}{n:Nat}{E:Nat->Bool}{R:Nat->List Nat}{pr:Nat->Nat->Prop}
theorem AP{env:Nat->V}{dst:Option Tmp}{v:V}{t:Nat}(h:∀d,dst=some d->d≠t):aS env dst v t=env t:=by
 cases dst with
 |none=>rfl
 |some d=>simp only[aS,aC];rw[if_neg (fun e=>h d rfl e.symm)]
theorem eN{o:Nat->ab}:∀ {Δ:List (Nat×ab)} {id:Nat},id∉Δ.map (·.1)->put o Δ id=o id
 |[],_,_=>rfl
 |x::Δ,id,h=>by
  simp only[List.map_cons,List.mem_cons,not_or]at h
  have:=eN (o:=aI o x.1 x.2) (Δ:=Δ) h.2
  simp only[put,List.foldl_cons]at this|-
  rw[this];simp[h.1]
theorem wh{o o':Nat->ab}:∀ {Δ:List (Nat×ab)} {id:Nat},id∈Δ.map (·.1)\/o id=o' id->put o Δ id=put o' Δ id
 |[],_,h=>by rcases h with h|h;· simp at h
             ·exact h
 |x::Δ,id,h=>by
  simp only[put,List.foldl_cons]
  refine wh (Δ:=Δ) (o:=aI o x.1 x.2) (o':=aI o' x.1 x.2) ?_
  simp only[List.map_cons,List.mem_cons]at h
  simp only[aC]
  by_cases e:id=x.1
  ·right;simp[e]
  ·rcases h with(h|h)|h
   ·exact absurd h e
   ·exact .inl h
   ·right;simp[e,h]
theorem jk{dst:Option Tmp}{x:dX}{t:Nat}(h:∀d,dst=some d->d≠t):(tl dst x s).env t=s.env t:=by
 cases x<;>exact AP h
theorem kY{dst:Option Tmp}{x:dX}{id:Nat}(h:id∉jj x):(tl dst x s).o id=s.o id:=by
 cases x with
 |val v Δ rd=>exact eN h
 |_=>rfl
theorem wk{dst:Option Tmp}{x:dX}{s':S}{t:Nat}(h:s.env t=s'.env t):(tl dst x s).env t=(tl dst x s').env t:=by
 cases x<;>cases dst<;>simp only[tl,aS,aC]<;>first|exact h|(split<;>first|rfl|exact h)
theorem AQ{dst:Option Tmp}{x:dX}{s':S}{id:Nat}(h:s.o id=s'.o id):(tl dst x s).o id=(tl dst x s').o id:=by
 cases x with
 |val v Δ rd=>exact wh (.inr h)
 |_=>exact h
theorem put_comm{o:Nat->ab}{Δ Cj:List (Nat×ab)}(h:∀id∈Δ.map (·.1),id∉Cj.map (·.1)):put (put o Δ) Cj=put (put o Cj) Δ:=by
 funext id
 by_cases h1:id∈Δ.map (·.1)
 ·rw[eN (h id h1)]
  exact wh (.inl h1)
 ·rw[eN (Δ:=Δ) h1]
  by_cases h2:id∈Cj.map (·.1)
  ·exact wh (.inl h2)
  ·rw[eN h2,eN h2,eN h1]
theorem uH{env:Nat->V}{d d':Option Tmp}{v v':V}(h:∀t,d=some t->d'≠some t):aS (aS env d v) d' v'=aS (aS env d' v') d v:=by
 cases d with
 |none=>rfl
 |some t=>
  cases d' with
  |none=>rfl
  |some t'=>
   have kA:t'≠t:=fun e=>h t rfl (by rw[e])
   funext i
   simp only[aS,aC]
   by_cases e1:i=t<;>by_cases e2:i=t'
   ·exact absurd (e2.symm.trans e1) kA
   all_goals simp[e1,e2]
   ·intro e;exact absurd e.symm kA
   ·intro e;exact absurd e kA
theorem F3{d d':Option Tmp}{x x':dX}(hd:∀t,d=some t->d'≠some t)(hw:∀id∈jj x,id∉jj x'):tl d x (tl d' x' s)=tl d' x' (tl d x s):=by
 cases x<;>cases x'<;>simp only[tl]<;>first
  |rw[uH hd,put_comm hw]
  |rw[uH hd]
def wm(n:Nat)(pr:Nat->Nat->Prop)(E:Nat->Bool):Prop:=∀k,k<n->E k=true->∀j,pr k j->E j=true
theorem agree(_:∀k,k<n->∀j,pr k j->j<k)(hc:∀i j,i<j->j<n-> ¬pr j i->Compat oc ac R i j)(hE:wm n pr E){i:Nat}(hi:i<n)(kC:E i=false)(F4:∀j,pr i j->E j=true):
 (∀t∈dU (oc i),(dG oc ac E s n).env t=(dG oc ac (fun _=>true) s i).env t)/\(∀id∈R i,(dG oc ac E s n).o id=(dG oc ac (fun _=>true) s i).o id):=by
 have a:∀k,k<=i->(∀t∈dU (oc i),(dG oc ac E s k).env t=(dG oc ac (fun _=>true) s k).env t)/\(∀id∈R i,(dG oc ac E s k).o id=(dG oc ac (fun _=>true) s k).o id):=by
  intro k
  induction k with
  |zero=>intro _;exact⟨fun _ _=>rfl,fun _ _=>rfl⟩
  |succ k ih=>
   intro hk
   obtain⟨h1,h2⟩:=ih af
   simp only[dG,if_true]
   by_cases gE:E k=true
   ·simp only[gE,if_true]
    exact⟨fun t ht=>wk (h1 t ht),fun id au=>AQ (h2 id au)⟩
   ·have K7: ¬pr i k:=fun hm=>gE (F4 k hm)
    have c:=hc k i af hi K7
    simp only[gE]
    refine⟨fun t ht=> ?_,fun id au=> ?_⟩
    ·rw[jk fun d hd e=>c.di d hd (e ▸ ht)];exact h1 t ht
    ·rw[kY fun hm=>(c.wi id hm).1 au];exact h2 id au
 have b:∀k,i<=k->k<=n->(∀t∈dU (oc i),(dG oc ac E s k).env t=(dG oc ac (fun _=>true) s i).env t)/\(∀id∈R i,(dG oc ac E s k).o id=(dG oc ac (fun _=>true) s i).o id):=by
  intro k IQ
  induction IQ with
  |refl=>intro _;exact a i (Nat.le_refl _)
  | @step k IQ ih=>
    intro hk
    have IQ:i<=k:=IQ
    obtain⟨h1,h2⟩:=ih af
    simp only[dG]
    by_cases gE:E k=true
    ·have kA:i≠k:=fun e=>by rw[e,gE]at kC;cases kC
     have K7: ¬pr k i:=fun hm=>by have:=hE k af gE i hm;rw[kC]at this;cases this
     have c:=hc i k af af K7
     simp only[gE,if_true]
     refine⟨fun t ht=> ?_,fun id au=> ?_⟩
     ·rw[jk fun d hd e=>c.dj d hd (e ▸ ht)];exact h1 t ht
     ·rw[kY fun hm=>c.wj id hm au];exact h2 id au
    ·simp only[gE];exact⟨h1,h2⟩
 exact b n af (Nat.le_refl _)
theorem insert(hc:∀i j,i<j->j<n-> ¬pr j i->Compat oc ac R i j)(hE:wm n pr E){i:Nat}(hi:i<n)(kC:E i=false){E':Nat->Bool}(AR:∀k,E' k=(E k||k==i)):
 dG oc ac E' s n=tl (oc i).dst (ac i) (dG oc ac E s n):=by
 have a:∀k,k<=i->dG oc ac E' s k=dG oc ac E s k:=by
  intro k
  induction k with
  |zero=>intro _;rfl
  |succ k ih=>
   intro hk
   have:E' k=E k:=by rw[AR k];have:(k==i)=false:=by simp;omega
                     simp[this]
   simp only[dG,this,ih (by omega)]
 have b:∀k,i+1<=k->k<=n->dG oc ac E' s k=tl (oc i).dst (ac i) (dG oc ac E s k):=by
  intro k IQ
  induction IQ with
  |refl=>
   intro _
   have h1:E' i=true:=by rw[AR i];simp
   simp only[dG,h1,kC,if_true,a i (Nat.le_refl _)]
   rfl
  | @step k IQ ih=>
    intro hk
    have IQ:i+1<=k:=IQ
    have h1:E' k=E k:=by rw[AR k];have:(k==i)=false:=by simp;omega
                         simp[this]
    simp only[dG,h1,ih (by omega)]
    by_cases gE:E k=true
    ·have K7: ¬pr k i:=fun hm=>by have:=hE k af gE i hm;rw[kC]at this;cases this
     have c:=hc i k af af K7
     simp only[gE,if_true]
     refine F3 (fun t ht he=> ?_) (fun id au hm=>(c.wi id hm).2 au)
     exact c.di t he (by simp[dU,ht])
    ·simp only[gE];rfl
 exact b n af (Nat.le_refl _)
end
end
section
structure qH (M:Nat->Prop) (b7:Place) (H0:Hp) (w0:World) (n:Nat) (cx:Cx) (φ:Place) (s:S) (us:Nat->Prop) (a:Act) (w:World):Prop where
 heap:aq M φ ⟨s.o,us⟩ w
 tr:Trans b7 H0 w0 φ ⟨s.o,us⟩ w
 size:a.tmps.size=n
 defers:rI cx w0 φ ⟨s.o,us⟩ w a.defers
 env:∀i,V.den (ai M φ ⟨s.o,us⟩) φ ⟨s.o,us⟩ w (s.env i) (a.tmps.getD i undef)
section
variable {P:Program}{M:Nat->Prop}{φ b7:Place}{H0:Hp}{w w' w0:World}{n:Nat}{s:S}{us:Nat->Prop}{a:Act}{cx:Cx}{ro:Option Nat}{k:Nat}
variable {next:Act->World->Prop}{Q:Exit->Act->World->Prop}
theorem hU(hs:qH M b7 H0 w0 n cx φ s us a w){aA:Place}{H':Hp}(hH:aq M aA H' w')(ht:Trans φ ⟨s.o,us⟩ w aA H' w'){v:V}{val:Value}(hd:V.den (ai M aA H') aA H' w' v val){dst:Option Tmp}(cq:eX n dst)
 {o':Nat->ab} {us':Nat->Prop} (ho:H'.o=o') (hu:∀id,H'.us id->us' id):qH M b7 H0 w0 n cx aA ⟨aS s.env dst v,o',s.nx⟩ us' (a.put dst val) w':=by
 obtain⟨k1,k2⟩:=iM hH hu
 subst ho
 refine⟨k1,hs.tr.trans (ht.trans k2), ?_, ?_,fun i=> ?_⟩
 ·cases dst<;>simp[Act.put,hs.size]
 ·have:=hs.defers.mono (ht.trans k2);cases dst<;>exact this
 ·cases dst with
  |none=>exact Ij
  |some d=>
   simp only[eX]at cq
   simp only[aS,aC,Act.put]
   by_cases hi:i=d
   ·subst hi
    have h1:(a.tmps.setIfInBounds i val).getD i undef=val:=by simp[Array.getD,hs.size,cq]
    rw[if_pos rfl,h1]
    exact V.aL k2 _ _ hd
   ·have h1:(a.tmps.setIfInBounds d val).getD i undef=a.tmps.getD i undef:=by
     exact Ng
    rw[if_neg hi,h1]
    exact Ij
theorem uI(hs:qH M b7 H0 w0 n cx φ s us a w){o:Oper}{op:Op}(fh:o.op=op){c:Call}{f:Operand}{g:FuncId}{first cap:List V}(hc:op= .call c)(dS:c.callee= .value f)(tA:s.ev f= .func (.func g) first cap):
 ∃vals:Array Value,V.az (ai M φ ⟨s.o,us⟩) φ ⟨s.o,us⟩ w (first++c.args.toList.map s.ev++cap) vals.toList/\(Enters P g->(execOp a.eval o).run P w= .ok (.enter g vals) w):=by
 have hf:=kK (M:=M) (φ:=φ) (H:=⟨s.o,us⟩) (w:=w) s a hs.env f
 have db:=iO (M:=M) (φ:=φ) (H:=⟨s.o,us⟩) (w:=w) s a hs.env c.args.toList
 rw[tA]at hf
 obtain⟨fa,ca,NB,BU,Xn⟩:=hf
 refine⟨fa++c.args.map a.eval++ca, ?_,fun he=> ?_⟩
 ·exact Tb
 ·have:=jF (w:=w) he (fa++c.args.map a.eval++ca)
  generalize nu:fa++c.args.map a.eval++ca=vals at this
  simp[execOp,fh,hc,resolve,dS,NB,Deferred.ofValue,invoke,this,nu]
theorem E3(hs:qH M b7 H0 w0 n cx φ s us a w){fr:Nat}(cI: ¬us fr)(tj:∀id,id<s.nx->us id){o:Oper}{op:Op}(fh:o.op=op)(cq:eX n o.dst){v:V}{Δ:List (Nat×ab)}{rd:List Nat}(h:uG P s fr op v Δ rd)
 (hN:∀aA a' w',qH M b7 H0 w0 n cx aA (tl o.dst (.val v Δ rd) s) (fun id=>us id\/id=fr) a' w'->next a' w'):o.wpIn (c8 ro) k P a w next Q:=by
 rcases h with⟨⟨qM,h⟩,_⟩|⟨c,f,g,first,cap,hc,dS,tA,h⟩
 ·have h1:=yk (K:=fun v' Cj _=>v'=v/\Cj=Δ) h ⟨rfl,rfl⟩
  obtain⟨nx,val,w',aA,v',Cj,qM,⟨rfl,rfl⟩,hr,Za,g1,g2,g3,g4⟩:=uy hs.heap (s:=s) rfl hs.env cI fh h1
  have qB:=hU hs g1 g2 g3 cq (o':=put s.o Cj) (us':=fun id=>us id\/id=fr) rfl (fun id hu=>hu.elim .inl (g4 id))
  refine iS (fun c hc=>by rw[fh]at hc;subst hc;exact h1) ?_
  rw[hr]
  rcases Za with rfl|⟨rfl,rfl⟩
  ·exact hN _ _ _ qB
  ·exact hN _ _ _ qB
 ·refine iS (fun c' xl=>by rw[fh,hc]at xl;cases xl) ?_
  obtain⟨vals,aT,dW⟩:=uI (P:=P) hs fh hc dS tA
  generalize first++c.args.toList.map s.ev++cap=all at h aT
  rcases h with⟨ds,rs,dT,hP,rfl,_,QC⟩|⟨rs,hH,rfl,l6⟩|⟨ds,dT,hP,_,rfl⟩|⟨hH,l6⟩
  ·obtain⟨f1,f2,f3,f4,f5⟩:=cG hs.heap (V.aZ all) (cw all _ aT)
   have im:(⟨s.o,us⟩:Hp).put (bP s.o (V.aZ all))=⟨put s.o (bP s.o (V.aZ all)),us⟩:=jE (H:=⟨s.o,us⟩) E7
   have uj:=cQ f1 all ds _ f3 dT (V.aO f2 _ _ aT)
   have dP:=hP.2 _ w vals (fun b hb=>hb.elim (f1.xg b) fun hl=>(f1.ours b hl).2) uj
   rw[dW hP.1]
   refine⟨fun hd=>by simp[c8]at hd,cF (dP.mono fun e w' ⟨hk,ho⟩=> ?_)⟩
   cases e with
   |panicked ch=>exact tw
   |outgrown=>exact tw
   |returned val=>
    rcases QC with rfl|⟨nj,rfl⟩
    ·obtain⟨k1,k2⟩:=eK f1 hk
     refine hN _ _ _ (hU hs k1 (f2.trans k2) (kG ho) cq (by rw[im]) fun id hu=> ?_)
     rw[im]at hu;exact .inl hu
    ·obtain⟨k1,k2⟩:=eK hs.heap hk
     have ho:=R.vR (out:= .ret rs) (B':=ai M φ ⟨s.o,us⟩) nj ho
     exact Sy
  ·have dP:=hH.2 s.o us M φ w vals (fun id au=>⟨rfl,tj id (l6 id au)⟩) hs.heap aT
   rw[dW hH.1]
   refine⟨fun hd=>by simp[c8]at hd,cF (dP.mono fun e w' ⟨aA,k1,k2,ho⟩=> ?_)⟩
   cases e with
   |panicked ch=>exact tw
   |outgrown=>exact tw
   |returned val=>exact Sy
  ·obtain⟨f1,f2,f3,f4,f5⟩:=cG hs.heap (V.aZ all) (cw all _ aT)
   have im:(⟨s.o,us⟩:Hp).put (bP s.o (V.aZ all))=⟨put s.o (bP s.o (V.aZ all)),us⟩:=jE (H:=⟨s.o,us⟩) E7
   have uj:=cQ f1 all ds _ f3 dT (V.aO f2 _ _ aT)
   have dP:=hP.2 _ w vals (fun b hb=>hb.elim (f1.xg b) fun hl=>(f1.ours b hl).2) uj
   rw[dW hP.1]
   refine⟨fun hd=>by simp[c8]at hd,cF (dP.mono fun e w' ⟨hk,val,he,ho⟩=> ?_)⟩
   subst he
   obtain⟨k1,k2⟩:=eK f1 hk
   refine hN _ _ _ (hU hs k1 (f2.trans k2) (ho _ _) cq (by rw[im]) fun id hu=> ?_)
   rw[im]at hu;exact .inl hu
  ·have dP:=hH.2 s.o us M φ w vals (fun id au=>⟨rfl,tj id (l6 id au)⟩) cI hs.heap aT
   rw[dW hH.1]
   refine⟨fun hd=>by simp[c8]at hd,cF (dP.mono fun e w' ⟨aA,k1,k2,val,he,ho⟩=> ?_)⟩
   subst he
   exact hN _ _ _ (hU hs k1 k2 ho cq rfl fun id hu=>hu)
theorem DT{o o2:Nat->ab}{us us2:Nat->Prop}(hH:aq M φ ⟨o,us⟩ w)(ho:∀id,o2 id=o id\/o2 id= .no)(hu:∀id,us id->us2 id):aq M φ ⟨o2,us2⟩ w/\Trans φ ⟨o,us⟩ w φ ⟨o2,us2⟩ w:=by
 have hl:∀id,(o2 id).live=true->(o id).live=true:=fun id h=>by
  rcases ho id with e|e
  ·rw[<- e];exact h
  ·rw[e]at h;cases h
 have QE:∀b,cn φ ⟨o2,us2⟩ b->cn φ ⟨o,us⟩ b:=fun b ⟨id,h1,h2⟩=>⟨id,hl id h1,h2⟩
 have ht:Trans φ ⟨o,us⟩ w φ ⟨o2,us2⟩ w:=by
  refine⟨dD.refl _ _,fun b hb=> .inl (QE b hb),⟨hu,fun id _ hr=> ?_,fun id e' _ he=> ?_⟩⟩
  ·rcases ho id with e|e
   ·exact⟨by show(o id).bM=true;rw[<- e];exact hr,rfl⟩
   ·rw[show(⟨o2,us2⟩:Hp).o id= .no from e]at hr;cases hr
  ·rcases ho id with e|e
   ·exact⟨e',by show(o id).bQ=some e';rw[<- e];exact he,Nat.le_refl _,fun _=>rfl⟩
   ·rw[show(⟨o2,us2⟩:Hp).o id= .no from e]at he;cases he
 refine⟨⟨fun id=> ?_,fun id hn=> ?_,fun i j b hi hj=>hH.apart i j b (hl i hi) (hl j hj),fun b hb=>hH.ours b (QE b hb),hH.xg⟩,ht⟩
 ·rcases ho id with e|e
  ·exact(hH.ok id).mono ht e rfl fun _ _ _=>rfl
  ·unfold aJ;rw[show(⟨o2,us2⟩:Hp).o id= .no from e];trivial
 ·rcases ho id with e|e
  ·exact e.trans (hH.fresh id fun h=>hn (hu id h))
  ·exact e
def rT(ds:List Nat)(wl:List Nat)(N:Nat)(s:S):S:=
 ⟨fun t=>if ds.contains t=true then .aa else s.env t,fun id=>if wl.contains id=true then .no else s.o id,s.nx+N⟩
theorem F5(hs:qH M b7 H0 w0 n cx φ s us a w)(tj:∀id,id<s.nx->us id){N:Nat}(ee:∀id,us id->id<s.nx+N){o:Oper}{op:Op}(fh:o.op=op){v:V}{ws rd:List Nat}(h:yo P s op v ws rd)
 {s0:S} {ds wl:List Nat} (dT:∀t,ds.contains t=false->s.env t=s0.env t) (Zb:∀id,wl.contains id=false->s.o id=s0.o id) (IU:∀id∈ws,wl.contains id=true) (mR:s0.nx=s.nx)
 (hQ:∀aA w' val,bJ M b7 H0 w0 n cx aA (rT ds wl N s0) a w'->V.den (ai M aA (rT ds wl N s0).H) aA (rT ds wl N s0).H w' v val->Q (.panic [{v:=val,recovered:=false}]) a w'):o.wpIn (c8 ro) k P a w next Q:=by
 obtain⟨c,f,g,first,cap,hc,dS,tA,h⟩:=h
 refine iS (fun c' xl=>by rw[fh,hc]at xl;cases xl) ?_
 obtain⟨vals,aT,dW⟩:=uI (P:=P) hs fh hc dS tA
 generalize first++c.args.toList.map s.ev++cap=all at h aT
 have fin:∀ (aA:Place) (w':World) (o':Nat->ab) (val:Value),(∀id,wl.contains id=false->o' id=s.o id)->aq M aA ⟨o',us⟩ w'->Trans φ ⟨s.o,us⟩ w aA ⟨o',us⟩ w'->V.den (ai M aA ⟨o',us⟩) aA ⟨o',us⟩ w' v val->Q (.panic [{v:=val,recovered:=false}]) a w':=by
  intro aA w' o' val tT k1 k2 k3
  obtain⟨m1,m2⟩:=DT (o2:=(rT ds wl N s0).o) (us2:=fun id=>id<s0.nx+N) k1 (fun id=>by
   show(if wl.contains id=true then ab.no else s0.o id)=o' id\/_
   by_cases hw:wl.contains id=true
   ·right;simp only[rT];rw[if_pos hw]
   ·left;rw[if_neg hw,tT id (by simpa using hw),Zb id (by simpa using hw)]) (fun id h=>by rw[mR];exact ee id h)
  have ht:=hs.tr.trans (k2.trans m2)
  refine hQ aA w' val ⟨m1,ht,hs.size,hs.defers.mono (k2.trans m2),fun i=> ?_⟩ (V.aL m2 _ _ k3)
  show V.den _ _ _ _ (if ds.contains i=true then V.aa else s0.env i) _
  by_cases hd:ds.contains i=true
  ·rw[if_pos hd];trivial
  ·rw[if_neg hd, <- dT i (by simpa using hd)];exact V.aL (k2.trans m2) _ _ (hs.env i)
 rcases h with⟨dd,x,Zc,hP,nj,rfl,_,rfl⟩|⟨x,Δ,hH,rfl,rfl,l6⟩
 ·obtain⟨f1,f2,f3,f4,f5⟩:=cG hs.heap (V.aZ all) (cw all _ aT)
  have uj:=cQ f1 all dd _ f3 Zc (V.aO f2 _ _ aT)
  have dP:=hP.2 _ w vals (fun b hb=>hb.elim (f1.xg b) fun hl=>(f1.ours b hl).2) uj
  rw[dW hP.1]
  refine⟨fun hd=>by simp[c8]at hd,cF (dP.mono fun e w' ⟨hk,ho⟩=> ?_)⟩
  cases e with
  |returned val=>exact ho.elim
  |outgrown=>exact ho.elim
  |panicked ch=>
   obtain⟨k1,k2⟩:=eK hs.heap hk
   have ho:=R.vR (out:= .bu x) (B':=ai M φ ⟨s.o,us⟩) nj ho
   obtain⟨val,rfl,hd⟩:=ho
   exact fin φ w' s.o val (fun _ _=>rfl) k1 k2 hd
 ·have dP:=hH.2 s.o us M φ w vals (fun id au=>⟨rfl,tj id (l6 id au)⟩) hs.heap aT
  rw[dW hH.1]
  refine⟨fun hd=>by simp[c8]at hd,cF (dP.mono fun e w' ⟨aA,k1,k2,ho⟩=> ?_)⟩
  cases e with
  |returned val=>exact ho.elim
  |outgrown=>exact ho.elim
  |panicked ch=>
   obtain⟨val,rfl,hd⟩:=ho
   exact fin aA w' _ val (fun id au=>we fun y hy e=>by
    have:=IU y.1 (List.mem_map_of_mem hy)
    rw[e,au]at this;cases this) k1 k2 hd
theorem eo(dw:∀i,V.den (ai M φ ⟨s.o,us⟩) φ ⟨s.o,us⟩ w (s.env i) (a.tmps.getD i undef)){ops:Array Oper}{o:Oper}{gd:Option (Nat×Bool)}{b:Bool}
 (hg:match o.guard with|none=>gd=none|some (j,want)=>∃d,pS ops j=some d/\gd=some (d,want)) (h:de s gd b):Region.wanted o (yielded ops a.tmps)=b:=by
 unfold Region.wanted
 split at hg
 ·rename_i hn;simp only[hn];subst hg;exact h.symm
 ·rename_i j want hn
  simp only[hn]
  obtain⟨d,hd,rfl⟩:=hg
  unfold pS at hd
  unfold yielded
  simp only[hd,Option.bind_some]
  simp only[de]at h
  have he:=dw d
  split at h
  ·rename_i c hv
   rw[hv]at he
   simp only[V.den,D.den]at he
   have:a.tmps[d]? =some (.bool c):=by
    rw[Array.getD_eq_getD_getElem?]at he
    cases hx:a.tmps[d]? with
    |none=>rw[hx]at he;simp[undef]at he
    |some x=>rw[hx]at he;simp at he;rw[he]
   simp only[this,h]
   cases c<;>cases want<;>rfl
  ·rename_i hv
   rw[hv]at he
   obtain⟨arr,cL,hn⟩:=he
   have:∀c,a.tmps[d]? ≠some (.bool c):=by
    exact KJ
   subst h
   cases hx:a.tmps[d]? with
   |none=>rfl
   |some x=>cases x<;>first|(exact absurd hx (this _))|rfl
  ·exact h.elim
theorem et{s s':S}{gd:Option (Nat×Bool)}{b:Bool}(h:∀d want,gd=some (d,want)->s'.env d=s.env d)(hg:de s gd b):de s' gd b:=by
 unfold de at*
 cases gd with
 |none=>exact hg
 |some p=>obtain⟨d,want⟩:=p;simp only at hg|-;rw[h d want rfl];exact hg
theorem yp{s s':S}{x:Operand}(h:∀t,x= .tmp t->s'.env t=s.env t):s'.ev x=s.ev x:=by
 cases x<;>simp only[S.ev]
 exact h _ rfl
theorem rU{s s':S}{op:Op}{c:Call}{f:Operand}{g:FuncId}{first cap:List V}(hv:∀x∈op.operands,s'.ev x=s.ev x)(hc:op= .call c)(dS:c.callee= .value f)(tA:s.ev f= .func (.func g) first cap):
 s'.ev f= .func (.func g) first cap/\c.args.toList.map s'.ev=c.args.toList.map s.ev:=by
 subst hc
 exact⟨(hv f (by simp only[Op.operands,Call.operands,dS];exact Array.mem_append.2 (.inl aK))).trans tA,
  List.map_congr_left fun x hx=>hv x Sb⟩
theorem F2.frame {g:FuncId}{args:List V}{rd:List Nat}{o o':Nat->ab}{out:R}{Δ:List (Nat×ab)}(ho:∀id∈rd,o' id=o id)(h:F2 P g args rd o out Δ):F2 P g args rd o' out Δ:=
 ⟨h.1,fun o2 us M φ w vals h1 h2 h3=>h.2 o2 us M φ w vals (fun id au=>⟨(h1 id au).1.trans (ho id au),(h1 id au).2⟩) h2 h3⟩
theorem xm.frame {g:FuncId}{args:List V}{rd:List Nat}{o o':Nat->ab}{fr:Nat}{v:V}{Δ:List (Nat×ab)}(ho:∀id∈rd,o' id=o id)(h:xm P g args rd o fr v Δ):xm P g args rd o' fr v Δ:=
 ⟨h.1,fun o2 us M φ w vals h1 h2 h3=>h.2 o2 us M φ w vals (fun id au=>⟨(h1 id au).1.trans (ho id au),(h1 id au).2⟩) h2 h3⟩
theorem xA{s s':S}{fr:Nat}{op:Op}{v:V}{Δ:List (Nat×ab)}{rd:List Nat}(hv:∀x∈op.operands,s'.ev x=s.ev x)(ho:∀id∈rd,s'.o id=s.o id)(tj:s'.nx=s.nx)(h:uG P s fr op v Δ rd):∃qM,uG P s' fr op v Δ qM:=by
 rcases h with⟨⟨qM,h⟩,l6⟩|⟨c,f,g,first,cap,rfl,dS,tA,h⟩
 ·exact⟨_, .inl ⟨⟨qM,by rw[AM op hv (by rw[<- l6];exact ho)];exact h⟩,rfl⟩⟩
 ·obtain⟨hf,hm⟩:=rU hv rfl dS tA
  rcases h with⟨ds,rs,dT,hP,nm,l6,QC⟩|⟨rs,hH,nm,l6⟩|⟨ds,dT,hP,l6,QC⟩|⟨hH,l6⟩
  ·have hr:∀id∈V.aP (first++c.args.toList.map s.ev++cap),s'.o id=s.o id:=fun id au=>ho id M7
   refine⟨_, .inr ⟨c,f,g,first,cap,rfl,dS,hf, .inl ⟨ds,rs,by rw[hm,fE _ hr];exact dT,hP,nm,rfl, ?_⟩⟩⟩
   exact Ky
  ·exact⟨rd, .inr ⟨c,f,g,first,cap,rfl,dS,hf, .inr (.inl ⟨rs,by rw[hm];exact hH.frame ho,nm,by rw[tj];exact l6⟩)⟩⟩
  ·have hr:∀id∈V.aP (first++c.args.toList.map s.ev++cap),s'.o id=s.o id:=fun id au=>ho id M7
   refine⟨_, .inr ⟨c,f,g,first,cap,rfl,dS,hf, .inr (.inr (.inl ⟨ds,by rw[hm,fE _ hr];exact dT,hP,rfl, ?_⟩))⟩⟩
   exact Ky
  ·exact⟨rd, .inr ⟨c,f,g,first,cap,rfl,dS,hf, .inr (.inr (.inr ⟨by rw[hm];exact hH.frame ho,by rw[tj];exact l6⟩))⟩⟩
theorem yq{s s':S}{op:Op}{v:V}{ws rd:List Nat}(hv:∀x∈op.operands,s'.ev x=s.ev x)(ho:∀id∈rd,s'.o id=s.o id)(tj:s'.nx=s.nx)(h:yo P s op v ws rd):yo P s' op v ws rd:=by
 obtain⟨c,f,g,first,cap,rfl,dS,tA,h⟩:=h
 obtain⟨hf,hm⟩:=rU hv rfl dS tA
 refine⟨c,f,g,first,cap,rfl,dS,hf, ?_⟩
 rw[hm]
 rcases h with⟨ds,x,dT,hP,nj,nm,l6,IU⟩|⟨x,Δ,hH,nm,IU,l6⟩
 ·have hr:∀id∈V.aP (first++c.args.toList.map s.ev++cap),s'.o id=s.o id:=fun id au=>ho id M7
  exact .inl ⟨ds,x,by rw[fE _ hr];exact dT,hP,nj,nm,by rw[l6];simp only[mh,dS,tA,hf,hm],IU⟩
 ·exact .inr ⟨x,Δ,hH.frame ho,nm,IU,by rw[tj];exact l6⟩
theorem rV{ops:Array Oper}:∀ (l:List Oper) (l':List bB) (i:Nat) (o:Oper),ju n ops l=some l'->l[i]? =some o->Fk n ops o=some (bC l' i)
 |[],_,_,_,_,h=>by simp at h
 |x::l,l',i,o,h,hi=>by
  simp only[ju]at h
  split at h
  ·rename_i y ys hy hys
   injection h with h;subst h
   cases i with
   |zero=>simp at hi;subst hi;exact hy
   |succ i=>exact rV l ys i o hys (by simpa using hi)
  ·cases h
theorem uJ{ops:Array Oper}{o:Oper}{x:bB}(h:Fk n ops o=some x):x.op=o.op/\x.dst=o.dst/\eX n o.dst/\
 (match o.guard with|none=>x.gd=none|some (j,want)=>∃d,pS ops j=some d/\x.gd=some (d,want)):=by
 unfold Fk at h
 split at h
 ·rename_i hd
  have cq:eX n o.dst:=by
   unfold Ag at hd;unfold eX
   split at hd<;>simp_all
  cases hg:o.guard with
  |none=>simp only[hg]at h;injection h with h;subst h;exact⟨rfl,rfl,cq,rfl⟩
  |some p=>
   obtain⟨j,want⟩:=p
   simp only[hg]at h
   cases Li:pS ops j with
   |none=>simp[Li]at h
   |some d=>simp only[Li]at h;injection h with h;subst h;exact⟨rfl,rfl,cq,d,Li,rfl⟩
 ·cases h
theorem mU{ops:Array Oper}{aj:Array Bool}(pY:∀k,k<ops.size->∀j∈bf ops k,j<k)(hs:aj.size=ops.size)(hr:Region.ready .any ops aj=[]):∀k,k<ops.size->aj.getD k false=true:=by
 intro k
 induction k using Nat.strongRecOn with
 |_ k ih=>
  intro hk
  cases hl:aj.getD k false with
  |true=>rfl
  |false=>
   have:k∈Region.ready .any ops aj:=by
    refine mem_ready.2 ⟨?_,ops[k],by simp[hk],fun e he hb=> ?_⟩
    ·simp only[Array.getD_eq_getD_getElem?]at hl|-
     rw[Array.getElem?_eq_getElem (by omega)]at hl|-
     simpa using hl
    ·have hm:e.on∈bf ops k:=by
      simp only[bf,Array.getElem?_eq_getElem hk,List.mem_map,List.mem_filter]
      exact⟨e,⟨Array.mem_toList_iff.2 he,hb⟩,rfl⟩
     exact ih _ (pY k hk _ hm) (by have:=pY k hk _ hm;omega)
   rw[hr]at this;cases this
theorem yr(hs:bJ M b7 H0 w0 n cx φ s a w):bJ M b7 H0 w0 n cx φ s a {w with drawn:=w.drawn+1}:=by
 obtain⟨k1,k2⟩:=eK (w':={w with drawn:=w.drawn+1}) hs.heap ⟨rfl,rfl,rfl,Nat.le_refl _,fun _ _ _=>rfl⟩
 exact⟨k1,hs.tr.trans k2,hs.size,hs.defers.mono k2,fun i=>V.aL k2 _ _ (hs.env i)⟩
theorem jc{oc:Nat->bB}{ac:Nat->dX}{E:Nat->Bool}:∀k,(dG oc ac E s k).nx=s.nx
 |0=>rfl
 |k+1=>by
  simp only[dG]
  split
  ·cases ac k<;>exact jc k
  ·exact jc k
theorem Ck{oc:Nat->bB}{ac:Nat->dX}{E:Nat->Bool}{t:Nat}:∀k,(∀j,j<k->(oc j).dst≠some t)->(dG oc ac E s k).env t=s.env t
 |0,_=>rfl
 |k+1,h=>by
  have ih:=Ck (oc:=oc) (ac:=ac) (E:=E) (t:=t) k fun j hj=>h j af
  simp only[dG]
  split
  ·rw[jk fun d hd e=>h k (by omega) (by rw[hd,e])];exact ih
  ·exact ih
theorem Ll{oc:Nat->bB}{ac:Nat->dX}{E:Nat->Bool}{id:Nat}:∀k,(∀j,j<k->id∉jj (ac j))->(dG oc ac E s k).o id=s.o id
 |0,_=>rfl
 |k+1,h=>by
  have ih:=Ll (oc:=oc) (ac:=ac) (E:=E) (id:=id) k fun j hj=>h j af
  simp only[dG]
  split
  ·rw[kY (h k (by omega))];exact ih
  ·exact ih
theorem yu(aY:P.follows .mixedOrders=true){ops:Array Oper}{l:List bB}{id:Nat}(px:ju n ops ops.toList=some l)(pY:∀k,k<ops.size->∀j∈bf ops k,j<k){ac:Nat->dX}{dl wl:List Nat}
 (hs:bJ M b7 H0 w0 n cx φ s a w) (NH:∀i,i<ops.size->Lk P (dG (bC l) ac (fun _=>true) s i) (s.nx+i) (bC l i) (ac i))
 (NI:∀i,i<ops.size->ac i= .dR->∃j∈bf ops i,(ac j).ok=false)
 {po:Nat->Nat->Prop} (Cl:∀E:Nat->Bool,(∀k,k<ops.size->E k=true->∀j∈bf ops k,E j=true)->∀k,k<ops.size->(∀j∈bf ops k,E j=true)->∀j,po k j->E j=true) (yw:∀k,k<ops.size->∀j,po k j->j<k)
 (hc:∀i j,i<j->j<ops.size-> ¬po j i->Compat (bC l) ac (fun i=>tL (ac i)) i j)
 (YC:∀i,i<ops.size->∀t,(bC l i).dst=some t->dl.contains t=true) (Zb:∀i,i<ops.size->∀id∈jj (ac i),wl.contains id=true)
 (IU:∀i v ws rd,i<ops.size->ac i= .bu v ws rd->∀id∈ws,wl.contains id=true)
 (hQ:(∀i,i<ops.size->(ac i).ok=true)->∀φ a w,bJ M b7 H0 w0 n cx φ ⟨(dG (bC l) ac (fun _=>true) s ops.size).env,(dG (bC l) ac (fun _=>true) s ops.size).o,s.nx+ops.size⟩ a w->Q .normal a w)
 (hX:∀i v ws rd,i<ops.size->ac i= .bu v ws rd->∀φ a w val,bJ M b7 H0 w0 n cx φ (rT dl wl ops.size s) a w->V.den (ai M φ (rT dl wl ops.size s).H) φ (rT dl wl ops.size s).H w v val->Q (.panic [{v:=val,recovered:=false}]) a w):
 (Code.region id ops true).wpIn (c8 ro) k P Q a w:=by
 refine wpIn_region_any aY ?_
 have hs:=yr hs
 generalize ({w with drawn:=w.drawn+1}:World)=w at hs
 let N:=ops.size
 let Ef (aj:Array Bool) (k:Nat):Bool:=aj.getD k false
 let BT (aj:Array Bool) (j:Nat):Prop:=j<s.nx\/∃k,k<N/\Ef aj k=true/\j=s.nx+k
 have key:∀ (fuel:Nat) (aj:Array Bool) (φ:Place) (a:Act) (w:World),aj.size=N->aj.count true+fuel=N->(∀k,k<N->Ef aj k=true->∀j∈bf ops k,Ef aj j=true)->(∀k,k<N->Ef aj k=true->(ac k).ok=true)->
  qH M b7 H0 w0 n cx φ (dG (bC l) ac (Ef aj) s N) (BT aj) a w->wpAnyIn (c8 ro) k P .any ops Q fuel aj a w:=by
  have fin:∀ (aj:Array Bool) (φ:Place) (a:Act) (w:World),(∀k,k<N->Ef aj k=true)->(∀k,k<N->Ef aj k=true->(ac k).ok=true)->qH M b7 H0 w0 n cx φ (dG (bC l) ac (Ef aj) s N) (BT aj) a w->Q .normal a w:=by
   intro aj φ a w aT AS hu
   have e:∀k,k<=N->dG (bC l) ac (Ef aj) s k=dG (bC l) ac (fun _=>true) s k:=by
    intro k
    induction k with
    |zero=>intro _;rfl
    |succ k ih=>intro hk;simp only[dG,aT k (by omega),ih (by omega)]
   rw[e N (Nat.le_refl _)]at hu
   obtain⟨k1,k2⟩:=iM (us':=fun id=>id<s.nx+N) hu.heap (fun id h=>by
    show id<s.nx+N
    rcases h with h|⟨k,hk,_,rfl⟩<;>omega)
   exact hQ (fun i hi=>AS i hi (aT i hi)) φ a w ⟨k1,hu.tr.trans k2,hu.size,hu.defers.mono k2,fun i=>V.aL k2 _ _ (hu.env i)⟩
  intro fuel
  induction fuel with
  |zero=>
   intro aj φ a w du DU qA AS hu
   have aT:∀k,k<N->Ef aj k=true:=by
    intro k hk
    have h1:aj.count true=aj.size:=af
    rw[Array.count_eq_size]at h1
    have:=h1 aj[k] (Array.getElem_mem af)
    simp only[Ef,Array.getD_eq_getD_getElem?]
    rw[Array.getElem?_eq_getElem (by omega)]
    simpa using this.symm
   refine⟨?_,fin aj φ a w aT AS hu⟩
   rw[List.eq_nil_iff_forall_not_mem]
   intro k hk
   obtain⟨h1,o,h2,_⟩:=mem_ready.1 hk
   have hkN:k<N:=(Array.getElem?_eq_some_iff.1 h2).1
   have:=aT k hkN
   simp only[Ef,Array.getD_eq_getD_getElem?]at this h1
   rw[Array.getElem?_eq_getElem (by omega)]at this h1
   simp only[Option.getD_some]at this h1
   rw[this]at h1;cases h1
  |succ fuel ih=>
   intro aj φ a w du DU qA AS hu
   refine⟨fun hr=>fin aj φ a w (mU pY du hr) AS hu,fun i hi=> ?_⟩
   obtain⟨h1,o,h2,h3⟩:=mem_ready.1 hi
   have qI:i<N:=(Array.getElem?_eq_some_iff.1 h2).1
   have kC:Ef aj i=false:=by
    simp only[Ef,Array.getD_eq_getD_getElem?]at h1|-
    rw[Array.getElem?_eq_getElem (by omega)]at h1|-
    simpa using h1
   have F4:∀j∈bf ops i,Ef aj j=true:=by
    exact Nb
   have F6:wm N po (Ef aj):=fun k hk gE=>Cl _ qA k hk (qA k hk gE)
   obtain⟨TN,Yv⟩:=agree (s:=s) yw hc F6 qI kC (Cl _ qA i qI F4)
   obtain⟨g1,g2,g3,g4⟩:=uJ (rV _ _ i o px tV)
   have cI: ¬BT aj (s.nx+i):=by
    rintro(h|⟨k,_,hk,he⟩)
    ·omega
    ·have:k=i:=af
     subst this;rw[kC]at hk;cases hk
   have AR:∀k,Ef (aj.setIfInBounds i true) k=(Ef aj k||k==i):=by
    intro k
    simp only[Ef,Array.getD_eq_getD_getElem?]
    by_cases e:k=i
    ·subst e;simp[du,qI]
    ·rw[Array.getElem?_setIfInBounds_ne (Ne.symm e)]
     have:(k==i)=false:=by simpa using e
     simp[this]
   have NJ:=insert (s:=s) hc F6 qI kC AR
   have NK:∀k,k<N->Ef (aj.setIfInBounds i true) k=true->∀j∈bf ops k,Ef (aj.setIfInBounds i true) j=true:=by
    intro k hk gE j hj
    rw[AR]at gE|-
    by_cases e:k=i
    ·subst e;simp[F4 j hj]
    ·have:(k==i)=false:=by simpa using e
     rw[this,Bool.or_false]at gE
     simp[qA k hk gE j hj]
   have F7:(aj.setIfInBounds i true).count true+fuel=N:=by
    have bR:i<aj.size:=af
    have e1:aj.setIfInBounds i true=aj.set i true bR:=by simp[Array.setIfInBounds,bR]
    have e2:aj[i]=false:=by
     have:=kC
     simp only[Ef,Array.getD_eq_getD_getElem?]at this
     rw[Array.getElem?_eq_getElem bR]at this
     simpa using this
    rw[e1,Array.count_set bR,e2]
    simp
    omega
   have gD:(ac i).ok=true->∀aA a' w',qH M b7 H0 w0 n cx aA (tl o.dst (ac i) (dG (bC l) ac (Ef aj) s N)) (fun id=>BT aj id\/id=s.nx+i) a' w'->wpAnyIn (c8 ro) k P .any ops Q fuel (aj.setIfInBounds i true) a' w':=by
    intro TO aA a' w' xr
    refine ih _ aA a' w' (by simp[du]) F7 NK (fun k hk gE=> ?_) ?_
    ·rw[AR]at gE
     by_cases e:k=i
     ·subst e;exact TO
     ·have:(k==i)=false:=by simpa using e
      rw[this,Bool.or_false]at gE
      exact AS k hk gE
    rw[NJ,g2]
    obtain⟨k1,k2⟩:=iM (us':=BT (aj.setIfInBounds i true)) xr.heap (fun id h=>by
     rcases h with(h|⟨k,hk,gE,rfl⟩)|rfl
     ·exact .inl h
     ·exact .inr ⟨k,hk,by rw[AR,gE];rfl,rfl⟩
     ·exact .inr ⟨i,qI,by rw[AR];simp,rfl⟩)
    exact Se
   have DV:∀d want,(bC l i).gd=some (d,want)->(dG (bC l) ac (Ef aj) s N).env d=(dG (bC l) ac (fun _=>true) s i).env d:=fun d want hd=>TN d (by simp[dU,tmpsOf,hd])
   have aQ:=NH i qI
   have Fj:∀x∈(bC l i).op.operands,(dG (bC l) ac (Ef aj) s N).ev x=(dG (bC l) ac (fun _=>true) s i).ev x:=fun x hx=>yp fun t ht=>TN t (by
    subst ht
    simp only[dU,tmpsOf,List.mem_append,List.mem_filterMap]
    exact .inl (.inl ⟨.tmp t,Array.mem_toList_iff.2 hx,rfl⟩))
   have Nn:(dG (bC l) ac (Ef aj) s N).nx=(dG (bC l) ac (fun _=>true) s i).nx:=(jc N).trans (jc i).symm
   unfold wpOpIn
   simp only[h2]
   cases tg:ac i with
   |skip=>
    rw[tg]at aQ gD
    have hw:=eo hu.env g4 (et DV aQ)
    simp only[hw,Bool.false_eq_true,if_false]
    refine⟨fun _ _=>trivial,gD rfl φ _ w ?_⟩
    have:=hU (v:= .bH []) (val:=undef) hu hu.heap (Trans.refl _ _ _) ⟨#[],rfl,rfl⟩ (dst:=o.dst) g3 rfl (us':=fun id=>BT aj id\/id=s.nx+i) (fun id h=> .inl h)
    exact this
   |val v Δ rd=>
    rw[tg]at aQ gD
    have hw:=eo hu.env g4 (et DV aQ.1)
    exact SW
   |bu v ws rd=>
    rw[tg]at aQ
    have hw:=eo hu.env g4 (et DV aQ.1)
    simp only[hw,if_true]
    have ky:=yq Fj (fun id au=>Yv id (by rw[tg];exact au)) Nn aQ.2
    refine F5 (s0:=s) (ds:=dl) (wl:=wl) (N:=N) hu (fun id h=> .inl (by rw[jc]at h;exact h)) (fun id h=> ?_) g1.symm ky (fun t ht=> ?_) (fun id au=> ?_) (IU i v ws rd qI tg) (jc N).symm (fun aA w' val h1 h2=>hX i v ws rd qI tg aA a w' val h1 h2)
    ·rw[jc]
     rcases h with h|⟨k,hk,_,rfl⟩<;>omega
    ·refine Ck N fun j hj e=> ?_
     have:=YC j hj t e
     rw[ht]at this;cases this
    ·refine Ll N fun j hj hm=> ?_
     have:=Zb j hj id hm
     rw[au]at this;cases this
   |dR=>
    exfalso
    obtain⟨j,hj,NL⟩:=NI i qI tg
    have:=AS j (Nat.lt_trans (pY i qI j hj) qI) (F4 j hj)
    rw[NL]at this;cases this
 refine key ops.size _ φ a w (by simp[N]) (by simp[N,Array.count_replicate]) (fun k hk gE=> ?_) (fun k hk gE=> ?_) ?_
 ·exact Xl
 ·exact Xl
 ·have e:∀k,dG (bC l) ac (Ef (Array.replicate ops.size false)) s k=s:=by
   intro k
   induction k with
   |zero=>rfl
   |succ k ih=>
    have:Ef (Array.replicate ops.size false) k=false:=by
     exact Kw
    simp only[dG,this,ih]
    rfl
  exact S2
end
end
section
section
variable {P:Program}{M:Nat->Prop}{φ b7:Place}{H0:Hp}{w w' w0:World}{n:Nat}{s:S}{us:Nat->Prop}{a:Act}{cx:Cx}{ro:Option Nat}{k:Nat}
variable {Q:Exit->Act->World->Prop}
theorem DW{ops:Array Oper}{po:Nat->Nat->Prop}{m:Nat}{X:V->S->Prop}{K:S->Prop}
 (pY:∀k,k<ops.size->∀j∈bf ops k,j<k)
 (Cl:∀E:Nat->Bool,(∀k,k<ops.size->E k=true->∀j∈bf ops k,E j=true)->∀k,k<ops.size->(∀j∈bf ops k,E j=true)->∀j,po k j->E j=true)
 (Cm:∀k,m<=k->k<ops.size->∀j,j<k->po k j)
 (hK:∀s φ a w,K s->bJ M b7 H0 w0 n cx φ s a w->Q .normal a w)
 (hX:∀v s' aA a' w' val,X v s'->bJ M b7 H0 w0 n cx aA s' a' w'->V.den (ai M aA s'.H) aA s'.H w' v val->Q (.panic [{v:=val,recovered:=false}]) a' w'):
 ∀ (d t:Nat) (s:S) (φ:Place) (aj:Array Bool) (a:Act) (w:World),t+d=ops.size->aj.size=ops.size->(∀k,k<ops.size->aj.getD k false=decide (k<t))->m<=t->
   bJ M b7 H0 w0 n cx φ s a w->vP P n ops X K (ops.toList.drop t) s->wpAnyIn (c8 ro) k P .any ops Q d aj a w:=by
 intro d
 induction d with
 |zero=>
  intro t s φ aj a w ht du hl EN hs h
  have e:t=ops.size:=af
  subst e
  refine⟨?_, ?_⟩
  ·rw[List.eq_nil_iff_forall_not_mem]
   intro j hj
   obtain⟨h1,o,h2,_⟩:=mem_ready.1 hj
   have hjN:j<ops.size:=(Array.getElem?_eq_some_iff.1 h2).1
   have:=hl j hjN
   simp only[Array.getD_eq_getD_getElem?]at this h1
   rw[Array.getElem?_eq_getElem (by omega)]at this h1
   simp only[Option.getD_some]at this h1
   rw[h1]at this
   simp[hjN]at this
  ·rw[List.drop_eq_nil_of_le (by simp)]at h
   exact hK s φ a w h hs
 |succ d ih=>
  intro t s φ aj a w ht du hl EN hs h
  have Zd:t<ops.size:=af
  refine⟨fun hr=> ?_,fun i hi=> ?_⟩
  ·have:=mU pY du hr t Zd
   rw[hl t Zd]at this
   simp at this
  ·obtain⟨h1,o,h2,h3⟩:=mem_ready.1 hi
   have qI:i<ops.size:=(Array.getElem?_eq_some_iff.1 h2).1
   have kC:aj.getD i false=false:=by
    simp only[Array.getD_eq_getD_getElem?]at h1|-
    rw[Array.getElem?_eq_getElem (by omega)]at h1|-
    simpa using h1
   have hit:t<=i:=by
    have:=hl i qI
    rw[kC]at this
    have:=of_decide_eq_false this.symm
    omega
   have F4:∀j∈bf ops i,aj.getD j false=true:=by
    exact Nb
   have qA:∀k,k<ops.size->aj.getD k false=true->∀j∈bf ops k,aj.getD j false=true:=by
    intro k hk gE j hj
    have KN:=pY k hk j hj
    rw[hl k hk]at gE
    rw[hl j (by omega)]
    have:=of_decide_eq_true gE
    exact decide_eq_true af
   have YP:i=t:=by
    rcases Nat.eq_or_lt_of_le hit with e|e
    ·exact e.symm
    ·have:=Cl (fun k=>aj.getD k false) qA i qI F4 t (Cm i af qI t e)
     rw[hl t Zd]at this
     simp at this
   subst YP
   have yx:ops.toList.drop i=o::ops.toList.drop (i+1):=by
    have NA:i<ops.toList.length:=by simpa using qI
    rw[List.drop_eq_getElem_cons NA]
    have:ops.toList[i]=o:=by
     have:=(Array.getElem?_eq_some_iff.1 h2).2
     simpa using this
    rw[this]
   rw[yx]at h
   obtain⟨g1,g2⟩:=nQ hs h
   have FK:∀k,k<ops.size->(aj.setIfInBounds i true).getD k false=decide (k<i+1):=by
    intro k hk
    simp only[Array.getD_eq_getD_getElem?]
    by_cases e:k=i
    ·subst e;simp[du,qI]
    ·rw[Array.getElem?_setIfInBounds_ne (Ne.symm e)]
     have:=hl k hk
     simp only[Array.getD_eq_getD_getElem?]at this
     rw[this]
     exact decide_eq_decide.2 af
   have gD:∀s' aA a' w',vP P n ops X K (ops.toList.drop (i+1)) s'->bJ M b7 H0 w0 n cx aA s' a' w'->wpAnyIn (c8 ro) k P .any ops Q d (aj.setIfInBounds i true) a' w':=
    fun s' aA a' w' hk iI=>ih (i+1) s' aA _ a' w' af (by simp[du]) FK af iI hk
   unfold wpOpIn
   simp only[h2]
   split
   ·rename_i hw
    exact uA hs (g1 hw) (fun s' aA a' w' hk iI=>gD s' aA a' w' hk iI) (fun v s' aA w' val hx iI hd=>hX v s' aA a w' val hx iI hd)
   ·rename_i hw
    obtain⟨cq,h3⟩:=g2 (by simpa using hw)
    exact⟨fun _ _=>trivial,gD _ _ _ _ h3 (yc hs cq)⟩
theorem AU(aY:P.follows .mixedOrders=true){ops:Array Oper}{l:List bB}{id:Nat}(px:ju n ops ops.toList=some l)(pY:∀k,k<ops.size->∀j∈bf ops k,j<k){ac:Nat->dX}{m:Nat}(hm:m<=ops.size){X:V->S->Prop}{K:S->Prop}
 (hs:bJ M b7 H0 w0 n cx φ s a w) (NH:∀i,i<m->Lk P (dG (bC l) ac (fun _=>true) s i) (s.nx+i) (bC l i) (ac i))
 (TP:∀i,i<m->(ac i).ok=true)
 {po:Nat->Nat->Prop} (Cl:∀E:Nat->Bool,(∀k,k<ops.size->E k=true->∀j∈bf ops k,E j=true)->∀k,k<ops.size->(∀j∈bf ops k,E j=true)->∀j,po k j->E j=true) (yw:∀k,k<ops.size->∀j,po k j->j<k)
 (hc:∀i j,i<j->j<m-> ¬po j i->Compat (bC l) ac (fun i=>tL (ac i)) i j)
 (Cm:∀k,m<=k->k<ops.size->∀j,j<k->po k j)
 (dC:vP P n ops X K (ops.toList.drop m) ⟨(dG (bC l) ac (fun _=>true) s m).env,(dG (bC l) ac (fun _=>true) s m).o,s.nx+m⟩)
 (hK:∀s φ a w,K s->bJ M b7 H0 w0 n cx φ s a w->Q .normal a w)
 (hX:∀v s' aA a' w' val,X v s'->bJ M b7 H0 w0 n cx aA s' a' w'->V.den (ai M aA s'.H) aA s'.H w' v val->Q (.panic [{v:=val,recovered:=false}]) a' w'):
 (Code.region id ops true).wpIn (c8 ro) k P Q a w:=by
 refine wpIn_region_any aY ?_
 have hs:=yr hs
 generalize ({w with drawn:=w.drawn+1}:World)=w at hs
 let N:=m
 let Ef (aj:Array Bool) (k:Nat):Bool:=aj.getD k false
 let BT (aj:Array Bool) (j:Nat):Prop:=j<s.nx\/∃k,k<N/\Ef aj k=true/\j=s.nx+k
 have key:∀ (fuel:Nat) (aj:Array Bool) (φ:Place) (a:Act) (w:World),aj.size=ops.size->aj.count true+fuel=ops.size->(∀k,k<ops.size->Ef aj k=true->∀j∈bf ops k,Ef aj j=true)->(∀k,k<ops.size->Ef aj k=true->k<m)->
  qH M b7 H0 w0 n cx φ (dG (bC l) ac (Ef aj) s N) (BT aj) a w->wpAnyIn (c8 ro) k P .any ops Q fuel aj a w:=by
  have fin:∀ (fuel:Nat) (aj:Array Bool) (φ:Place) (a:Act) (w:World),aj.size=ops.size->aj.count true+fuel=ops.size->(∀k,k<ops.size->Ef aj k=true->k<m)->(∀k,k<N->Ef aj k=true)->qH M b7 H0 w0 n cx φ (dG (bC l) ac (Ef aj) s N) (BT aj) a w->wpAnyIn (c8 ro) k P .any ops Q fuel aj a w:=by
   intro fuel aj φ a w du DU bR aT hu
   have e:∀k,k<=N->dG (bC l) ac (Ef aj) s k=dG (bC l) ac (fun _=>true) s k:=by
    intro k
    induction k with
    |zero=>intro _;rfl
    |succ k ih=>intro hk;simp only[dG,aT k (by omega),ih (by omega)]
   rw[e N (Nat.le_refl _)]at hu
   obtain⟨k1,k2⟩:=iM (us':=fun id=>id<s.nx+N) hu.heap (fun id h=>by
    show id<s.nx+N
    rcases h with h|⟨k,hk,_,rfl⟩<;>omega)
   have Ze:∀k,k<ops.size->aj.getD k false=decide (k<m):=by
    intro k hk
    by_cases h:k<m
    ·rw[decide_eq_true h];exact aT k h
    ·rw[decide_eq_false h]
     cases hb:aj.getD k false with
     |false=>rfl
     |true=>exact absurd (bR k hk hb) h
   have hcm:aj.count true=m:=by
    have e1:aj=Array.ofFn (n:=ops.size) fun k=>decide (k.1<m):=by
     apply Array.ext
     ·simp[du]
     ·intro k h1 h2
      have:=Ze k af
      simp only[Array.getD_eq_getD_getElem?]at this
      rw[Array.getElem?_eq_getElem h1]at this
      simpa using this
    have e2:aj.toList=List.replicate m true++List.replicate (ops.size - m) false:=by
     apply List.ext_getElem?
     intro k
     by_cases hk:k<ops.size
     ·have h1:aj.toList[k]? =some (decide (k<m)):=by
       have:=Ze k hk
       simp only[Array.getD_eq_getD_getElem?]at this
       rw[Array.getElem?_eq_getElem (by omega)]at this
       simp only[Option.getD_some]at this
       rw[Array.getElem?_toList,Array.getElem?_eq_getElem (by omega),this]
      rw[h1]
      by_cases h:k<m
      ·rw[List.getElem?_append_left (by simpa using h)]
       simp[h]
      ·rw[List.getElem?_append_right (by simpa using(by omega:m<=k))]
       rw[List.length_replicate,List.getElem?_replicate,if_pos (by omega),decide_eq_false h]
     ·rw[List.getElem?_eq_none (by simp[du];omega),List.getElem?_eq_none (by simp;omega)]
    rw[<- Array.count_toList,e2,List.count_append,List.count_replicate_self,List.count_replicate]
    simp
   exact DW pY Cl Cm hK hX fuel m ⟨(dG (bC l) ac (fun _=>true) s m).env,(dG (bC l) ac (fun _=>true) s m).o,s.nx+m⟩ φ aj a w af du Ze (Nat.le_refl _) ⟨k1,hu.tr.trans k2,hu.size,hu.defers.mono k2,fun i=>V.aL k2 _ _ (hu.env i)⟩ dC
  intro fuel
  induction fuel with
  |zero=>
   intro aj φ a w du DU qA bR hu
   have aT:∀k,k<ops.size->Ef aj k=true:=by
    intro k hk
    have h1:aj.count true=aj.size:=af
    rw[Array.count_eq_size]at h1
    have:=h1 aj[k] (Array.getElem_mem af)
    simp only[Ef,Array.getD_eq_getD_getElem?]
    rw[Array.getElem?_eq_getElem (by omega)]
    simpa using this.symm
   exact fin 0 aj φ a w du DU bR (fun k hk=>aT k af) hu
  |succ fuel ih=>
   intro aj φ a w du DU qA bR hu
   by_cases Lm:∀k,k<m->Ef aj k=true
   ·exact fin (fuel+1) aj φ a w du DU bR Lm hu
   have hex:∃j,j<m/\Ef aj j=false:=by
    apply Classical.byContradiction
    intro Dm
    refine Lm fun k hk=> ?_
    cases hb:Ef aj k with
    |true=>rfl
    |false=>exact absurd ⟨k,hk,hb⟩ Dm
   obtain⟨j0,hj0,TQ⟩:=hex
   refine⟨fun hr=> ?_,fun i hi=> ?_⟩
   ·have:=mU pY du hr j0 af
    rw[show aj.getD j0 false=false from TQ]at this
    cases this
   obtain⟨h1,o,h2,h3⟩:=mem_ready.1 hi
   have Zf:i<ops.size:=(Array.getElem?_eq_some_iff.1 h2).1
   have kC:Ef aj i=false:=by
    simp only[Ef,Array.getD_eq_getD_getElem?]at h1|-
    rw[Array.getElem?_eq_getElem (by omega)]at h1|-
    simpa using h1
   have F4:∀j∈bf ops i,Ef aj j=true:=by
    exact Nb
   have qI:i<N:=by
    apply Classical.byContradiction
    intro xi
    have xi:m<=i:=Nat.le_of_not_lt xi
    have:=Cl _ qA i Zf F4 j0 (Cm i xi Zf j0 af)
    rw[TQ]at this;cases this
   have F6:wm N po (Ef aj):=fun k hk gE=>Cl _ qA k af (qA k af gE)
   obtain⟨TN,Yv⟩:=agree (s:=s) (n:=N) (fun k hk=>yw k af) hc F6 qI kC (Cl _ qA i af F4)
   obtain⟨g1,g2,g3,g4⟩:=uJ (rV _ _ i o px tV)
   have cI: ¬BT aj (s.nx+i):=by
    rintro(h|⟨k,_,hk,he⟩)
    ·omega
    ·have:k=i:=af
     subst this;rw[kC]at hk;cases hk
   have AR:∀k,Ef (aj.setIfInBounds i true) k=(Ef aj k||k==i):=by
    intro k
    simp only[Ef,Array.getD_eq_getD_getElem?]
    by_cases e:k=i
    ·subst e;simp[du,Zf]
    ·rw[Array.getElem?_setIfInBounds_ne (Ne.symm e)]
     have:(k==i)=false:=by simpa using e
     simp[this]
   have NJ:=insert (s:=s) hc F6 qI kC AR
   have NK:∀k,k<ops.size->Ef (aj.setIfInBounds i true) k=true->∀j∈bf ops k,Ef (aj.setIfInBounds i true) j=true:=by
    intro k hk gE j hj
    rw[AR]at gE|-
    by_cases e:k=i
    ·subst e;simp[F4 j hj]
    ·have:(k==i)=false:=by simpa using e
     rw[this,Bool.or_false]at gE
     simp[qA k hk gE j hj]
   have F7:(aj.setIfInBounds i true).count true+fuel=ops.size:=by
    have bR:i<aj.size:=af
    have e1:aj.setIfInBounds i true=aj.set i true bR:=by simp[Array.setIfInBounds,bR]
    have e2:aj[i]=false:=by
     have:=kC
     simp only[Ef,Array.getD_eq_getD_getElem?]at this
     rw[Array.getElem?_eq_getElem bR]at this
     simpa using this
    rw[e1,Array.count_set bR,e2]
    simp
    omega
   have gD:(ac i).ok=true->∀aA a' w',qH M b7 H0 w0 n cx aA (tl o.dst (ac i) (dG (bC l) ac (Ef aj) s N)) (fun id=>BT aj id\/id=s.nx+i) a' w'->wpAnyIn (c8 ro) k P .any ops Q fuel (aj.setIfInBounds i true) a' w':=by
    intro TO aA a' w' xr
    refine ih _ aA a' w' (by simp[du]) F7 NK (fun k hk gE=> ?_) ?_
    ·rw[AR]at gE
     by_cases e:k=i
     ·subst e;exact qI
     ·have:(k==i)=false:=by simpa using e
      rw[this,Bool.or_false]at gE
      exact bR k hk gE
    rw[NJ,g2]
    obtain⟨k1,k2⟩:=iM (us':=BT (aj.setIfInBounds i true)) xr.heap (fun id h=>by
     rcases h with(h|⟨k,hk,gE,rfl⟩)|rfl
     ·exact .inl h
     ·exact .inr ⟨k,hk,by rw[AR,gE];rfl,rfl⟩
     ·exact .inr ⟨i,qI,by rw[AR];simp,rfl⟩)
    exact Se
   have DV:∀d want,(bC l i).gd=some (d,want)->(dG (bC l) ac (Ef aj) s N).env d=(dG (bC l) ac (fun _=>true) s i).env d:=fun d want hd=>TN d (by simp[dU,tmpsOf,hd])
   have aQ:=NH i qI
   have Fj:∀x∈(bC l i).op.operands,(dG (bC l) ac (Ef aj) s N).ev x=(dG (bC l) ac (fun _=>true) s i).ev x:=fun x hx=>yp fun t ht=>TN t (by
    subst ht
    simp only[dU,tmpsOf,List.mem_append,List.mem_filterMap]
    exact .inl (.inl ⟨.tmp t,Array.mem_toList_iff.2 hx,rfl⟩))
   have Nn:(dG (bC l) ac (Ef aj) s N).nx=(dG (bC l) ac (fun _=>true) s i).nx:=(jc N).trans (jc i).symm
   unfold wpOpIn
   simp only[h2]
   cases tg:ac i with
   |skip=>
    rw[tg]at aQ gD
    have hw:=eo hu.env g4 (et DV aQ)
    simp only[hw,Bool.false_eq_true,if_false]
    refine⟨fun _ _=>trivial,gD rfl φ _ w ?_⟩
    have:=hU (v:= .bH []) (val:=undef) hu hu.heap (Trans.refl _ _ _) ⟨#[],rfl,rfl⟩ (dst:=o.dst) g3 rfl (us':=fun id=>BT aj id\/id=s.nx+i) (fun id h=> .inl h)
    exact this
   |val v Δ rd=>
    rw[tg]at aQ gD
    have hw:=eo hu.env g4 (et DV aQ.1)
    exact SW
   |bu v ws rd=>
    have:=TP i qI
    rw[tg]at this;cases this
   |dR=>
    have:=TP i qI
    rw[tg]at this;cases this
 refine key ops.size _ φ a w aK (by simp[Array.count_replicate]) (fun k hk gE=> ?_) (fun k hk gE=> ?_) ?_
 ·exact Xl
 ·exact Xl
 ·have e:∀k,dG (bC l) ac (Ef (Array.replicate ops.size false)) s k=s:=by
   intro k
   induction k with
   |zero=>rfl
   |succ k ih=>
    have:Ef (Array.replicate ops.size false) k=false:=by
     exact Kw
    simp only[dG,this,ih]
    rfl
  exact S2
end
end
end Go.Proofs.YtlhemmpklhhgoaaGreat
