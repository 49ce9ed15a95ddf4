/-
  A PART OF THE PROOF. Conditions: none.
-/
import Derived.OrdersIn
import Derived.Test.YtlhemmpklhhgoaaGreatQk7
set_option linter.unusedSimpArgs false
set_option linter.unusedVariables false
namespace Go.Proofs.YtlhemmpklhhgoaaGreat
section
def aa.refs:aa->List Nat
 | .row cs=>V.bp cs
 | .loop _ _ env _ _ _ _ _=>V.bp env
 |_=>[]
def xS(R:List Nat)(o:Nat->aa):Nat->aa:=fun id=>if R.contains id=true then o id else .no
def uk(P:Program)(g:FuncId)(args:List V)(rd:List Nat)(o:Nat->aa)(out:R)(Δ:List (Nat×aa)):Prop:=
 Enters P g/\∀ (o':Nat->aa) (us:Nat->Prop) (M:Nat->Prop) (φ:Place) (w:World) (vals:Array Value),(∀id∈rd,o' id=o id/\us id)->ag M φ ⟨o',us⟩ w->V.ai (ae M φ ⟨o',us⟩) φ ⟨o',us⟩ w args vals.toList->
  Calls P g vals w fun e w'=>∃ao,ag M ao ⟨put o' Δ,us⟩ w'/\Trans φ ⟨o',us⟩ w ao ⟨put o' Δ,us⟩ w'/\out.is (ae M ao ⟨put o' Δ,us⟩) w' e
def qB(P:Program)(g:FuncId)(args:List V)(rd:List Nat)(o:Nat->aa)(fr:Nat)(v:V)(Δ:List (Nat×aa)):Prop:=
 Enters P g/\∀ (o':Nat->aa) (us:Nat->Prop) (M:Nat->Prop) (φ:Place) (w:World) (vals:Array Value),(∀id∈rd,o' id=o id/\us id)-> ¬us fr->ag M φ ⟨o',us⟩ w->V.ai (ae M φ ⟨o',us⟩) φ ⟨o',us⟩ w args vals.toList->
  Calls P g vals w fun e w'=>∃ao,ag M ao ⟨put o' Δ,fun id=>us id\/id=fr⟩ w'/\Trans φ ⟨o',us⟩ w ao ⟨put o' Δ,fun id=>us id\/id=fr⟩ w'/\∃val,e= .returned val/\V.den (ae M ao ⟨put o' Δ,fun id=>us id\/id=fr⟩) ao ⟨put o' Δ,fun id=>us id\/id=fr⟩ w' v val
mutual
theorem V.jg {B B':Nat->Prop}{φ ao:Place}{H H':Hp}{w:World}(hB:∀b, ¬B b-> ¬B' b):∀ (v:V) (val:Value),(∀id∈v.refs,H'.o id=H.o id/\ao id=φ id/\H'.us id)->V.den B φ H w v val->V.den B' ao H' w v val
 | .d x,val,_,h=>D.ax (w:=w) (w':=w) (fun b _ hn=>⟨rfl,hB b hn⟩) x val h
 | .cG,_,_,h=>h
 | .bT,_,_,_=>trivial
 | .c7,_,_,h=>h
 | .jN es,val,_,h=>⟨D.ax (w:=w) (w':=w) (fun b _ hn=>⟨rfl,hB b hn⟩) (.sl es) val h.1,h.2⟩
 | .agg cs,val,hr,h=>by
   obtain⟨a,rfl,h1,h2⟩:=h
   exact⟨a,rfl,V.dy hB cs _ (by simpa[V.refs]using hr) h1,h2⟩
 | .a7 cs,val,hr,h=>by
   obtain⟨a,rfl,h1⟩:=h
   exact⟨a,rfl,V.dy hB cs _ (by simpa[V.refs]using hr) h1⟩
 | .ptr id off,val,hr,h=>by
   exact Ic
 | .osl id ep,val,hr,h=>by
   obtain⟨a,b,c⟩:=hr id vH
   obtain⟨h0,h1,h2⟩:=h
   refine⟨h0,c,fun e he=> ?_⟩
   rw[a]at he
   obtain⟨x,y⟩:=h2 e he
   exact⟨x,fun heq=>(y heq).trans b.symm⟩
 | .pe id ep i sz off,val,hr,h=>by
   obtain⟨a,b,c⟩:=hr id vH
   obtain⟨h0,h1,h2⟩:=h
   refine⟨h0,c,fun e he=> ?_⟩
   rw[a]at he
   obtain⟨x,y⟩:=h2 e he
   refine⟨x,fun heq=> ?_⟩
   obtain⟨p,q,r,z,u⟩:=y heq
   exact⟨p,q,r,b.trans z,u⟩
 | .pp cs off,val,_,h=>by
   obtain⟨a,ev,h1,h2,h3,h5,h4⟩:=h
   exact⟨a,ev,h1,h2,D.aw (w:=w) (w':=w) (fun b _ hn=>⟨rfl,hB b hn⟩) cs ev h3,h5,h4.mono (w:=w) (w':=w) (fun b _ hn=>⟨rfl,hB b hn⟩)⟩
 | .func fn first cap,val,hr,h=>by
   obtain⟨f,c,rfl,h1,h2⟩:=h
   exact⟨f,c,rfl,V.dy hB first _ (fun id aj=>hr id (by simp[V.refs,aj])) h1,V.dy hB cap _ (fun id aj=>hr id (by simp[V.refs,aj])) h2⟩
 | .iface t x,val,hr,h=>by
   obtain⟨u,rfl,h⟩:=h
   exact⟨u,rfl,V.jg hB x u (by simpa[V.refs]using hr) h⟩
 | .oo id off n,val,hr,h=>by
   exact Ic
 | .mp id,val,hr,h=>by
   obtain⟨a,b,c⟩:=hr id vH
   obtain⟨h0,h1,h2⟩:=h
   refine⟨h0,c,fun bZ=> ?_⟩
   rw[a]at bZ
   exact(h2 bZ).trans b.symm
 | .jl id,val,hr,h=>by
   exact Ic
theorem V.dy {B B':Nat->Prop}{φ ao:Place}{H H':Hp}{w:World}(hB:∀b, ¬B b-> ¬B' b):∀ (vs:List V) (vals:List Value),(∀id∈V.bp vs,H'.o id=H.o id/\ao id=φ id/\H'.us id)->V.ai B φ H w vs vals->V.ai B' ao H' w vs vals
 |[],_,_,h=>h
 |v::vs,_,hr,h=>by
  obtain⟨u,us,rfl,h1,h2⟩:=h
  exact⟨u,us,rfl,V.jg hB v u (fun id aj=>hr id (by simp[V.bp,aj])) h1,V.dy hB vs us (fun id aj=>hr id (by simp[V.bp,aj])) h2⟩
end
theorem sP{env:List V}{i id:Nat}(h:id∈(gS env i).refs):id∈V.bp env:=by
 unfold gS at h
 induction env generalizing i with
 |nil=>simp[V.refs]at h
 |cons v env ih=>
  cases i with
  |zero=>simp only[List.getD_cons_zero]at h;simp[V.bp,h]
  |succ i=>simp only[List.getD_cons_succ]at h;simp[V.bp,ih h]
theorem au.refs {M M':Nat->Prop}{φ ao:Place}{H H':Hp}{w:World}{id:Nat}(hB:∀b, ¬ae M φ H b-> ¬ae M' ao H' b)(ho:H'.o id=H.o id)(cL:ao id=φ id)
 (hr:∀j∈(H.o id).refs,H'.o j=H.o j/\ao j=φ j/\H'.us j) (h:au M φ H w id):au M' ao H' w id:=by
 have hd:∀b,bb w b-> ¬ae M φ H b->w.heap[b]? =w.heap[b]? /\ ¬ae M' ao H' b:=fun b _ hn=>⟨rfl,hB b hn⟩
 unfold au at*
 rw[ho]
 cases hx:H.o id with
 |no=>trivial
 |row cs=>
  simp only[hx]at h|-
  obtain⟨b,cw,ty,h1,h2,h3,h4⟩:=h
  exact⟨b,cw,ty,cL.trans h1,h2,V.dy hB cs _ (fun j hj=>hr j (by rw[hx];exact hj)) h3,h4⟩
 |arr ep ty sz es=>
  simp only[hx]at h|-
  obtain⟨h0,xs,h1,evs,h2,h3,h4⟩:=h
  exact⟨h0,xs,by rw[cL];exact h1,evs,h2,h3,D.aw hd es evs h4⟩
 |l5 ep es=>
  simp only[hx]at h|-
  rw[cL]
  exact D.ax hd (.sl es) _ h
 |map kt vt l=>
  simp only[hx]at h|-
  obtain⟨b,es,clock,h1,h2,h4,h3⟩:=h
  exact⟨b,es,clock,cL.trans h1,h2,h4,ak.mono hd l _ h3⟩
 |dm l=>
  simp only[hx]at h|-
  rw[cL]
  exact fJ.mono hd h
 |l8 l last=>
  simp only[hx]at h|-
  obtain⟨b,h1,h2⟩:=h
  exact⟨b,cL.trans h1,h2.mono hd rfl⟩
 |pX s pos=>
  simp only[hx]at h|-
  obtain⟨b,h1,h2⟩:=h
  exact⟨b,cL.trans h1,h2⟩
 |loop nf n env ps gU eY st sc=>
  simp only[hx]at h|-
  obtain⟨b,r,h1,h2,h0,h3,h4,h5,h6,h7,h8,h9⟩:=h
  exact⟨b,r,cL.trans h1,h2,h0,h3,h4,h5,h6,h7,h8,fun i=>V.jg hB _ _ (fun j hj=>hr j (by rw[hx];exact sP hj)) (h9 i)⟩
section
variable {P:Program}
theorem qC{o o':Nat->aa}{Δ:List (Nat×aa)}{id:Nat}(h:o id=o' id):put o Δ id=put o' Δ id:=ry h
where ry {o o':Nat->aa}:∀ {Δ:List (Nat×aa)} {id:Nat},o id=o' id->put o Δ id=put o' Δ id
 |[],_,h=>h
 |x::Δ,id,h=>by
  simp only[put,List.foldl_cons]
  refine ry (Δ:=Δ) (o:=cn o x.1 x.2) (o':=cn o' x.1 x.2) ?_
  simp only[aq]
  split
  ·rfl
  ·exact h
theorem nU{o:Nat->aa}:∀ {Δ:List (Nat×aa)} {id:Nat},(∀x∈Δ,x.1≠id)->put o Δ id=o id
 |[],_,_=>rfl
 |x::Δ,id,h=>by
  have:=nU (o:=cn o x.1 x.2) (Δ:=Δ) (id:=id) (fun y hy=>h y (by simp[hy]))
  simp only[put,List.foldl_cons]at this|-
  rw[this];simp[Ne.symm (h x (by simp))]
theorem uk.ig {g:FuncId}{args:List V}{rd:List Nat}{o:Nat->aa}{nx:Nat}{out:R}{Δ:List (Nat×aa)}(ou:∀id∈rd,id<nx)(bR:∀id∈V.bp args,id∈rd)(ku:∀id∈rd,∀j∈(o id).refs,j∈rd)(Bb:∀x∈Δ,x.1∈rd)(Ji:∀x∈Δ,∀j∈x.2.refs,j∈rd)
 (h:gI P g args (xS rd o) nx
  (fun v o1 _=>(∀id∈rd,o1 id=put o Δ id)/\∃vs rs,v=(match vs with|[v]=>v|vs=> .a7 vs)/\aT o1 vs=some rs/\out= .ret rs/\∀id∈V.aC vs,id∉rd)
  (fun v o1 _=>(∀id∈rd,o1 id=put o Δ id)/\∃x,cN o1 v=some x/\out= .aJ x/\∀id∈v.ids,id∉rd)):uk P g args rd o out Δ:=by
 refine⟨h.1,fun o' us M φ w vals ho hH hd=> ?_⟩
 let M1:Nat->Prop:=fun b=>M b\/∃id,id∉rd/\(o' id).live=true/\cM (φ id)=some b
 let HR:Hp:=hp (xS rd o) nx
 have lB:∀id,id∈rd->xS rd o id=o' id:=fun id aj=>by simp[xS,aj,(ho id aj).1]
 have j7:∀id,id∉rd->xS rd o id= .no:=fun id aj=>by simp[xS,aj]
 have hB:∀b,ae M1 φ HR b↔ae M φ ⟨o',us⟩ b:=by
  intro b
  constructor
  ·rintro((h|⟨id,h1,h2,h3⟩)|⟨id,h1,h2⟩)
   ·exact .inl h
   ·exact .inr ⟨id,h2,h3⟩
   ·by_cases aj:id∈rd
    ·exact .inr ⟨id,by show(o' id).live=true;rw[<- lB id aj];exact h1,h2⟩
    ·have:HR.o id= .no:=j7 id aj
     rw[this]at h1;cases h1
  ·rintro(h|⟨id,h1,h2⟩)
   ·exact .inl (.inl h)
   ·by_cases aj:id∈rd
    ·exact .inr ⟨id,by show(xS rd o id).live=true;rw[lB id aj];exact h1,h2⟩
    ·exact .inl (.inr ⟨id,aj,h1,h2⟩)
 have ID:∀id∈rd,HR.o id=o' id/\φ id=φ id/\HR.us id:=fun id aj=>⟨lB id aj,rfl,ou id aj⟩
 have M9:ag M1 φ HR w:=by
  refine⟨fun id=> ?_,fun id hn=> ?_,fun i j b hi hj bi bj=> ?_,fun b hb=> ?_,fun b hb=> ?_⟩
  ·by_cases aj:id∈rd
   ·refine au.refs (H:=⟨o',us⟩) (M:=M) (φ:=φ) (fun b hn hb=>hn ((hB b).1 hb)) (lB id aj) rfl (fun j hj=>ID j ?_) (hH.ok id)
    have:o' id=o id:=(ho id aj).1
    exact ku id aj j (by rw[<- this];exact hj)
   ·unfold au
    rw[show HR.o id= .no from j7 id aj];trivial
  ·exact j7 id fun aj=>hn (ou id aj)
  ·have live:∀i,(HR.o i).live=true->i∈rd/\(o' i).live=true:=fun i hi=>by
    by_cases aj:i∈rd
    ·exact⟨aj,by rw[<- lB i aj];exact hi⟩
    ·rw[show HR.o i= .no from j7 i aj]at hi;cases hi
   exact hH.apart i j b (live i hi).2 (live j hj).2 bi bj
  ·obtain⟨id,h1,h2⟩:=hb
   have aj:id∈rd:=by
    by_cases aj:id∈rd
    ·exact aj
    ·rw[show HR.o id= .no from j7 id aj]at h1;cases h1
   rw[show HR.o id=o' id from lB id aj]at h1
   obtain⟨k1,k2⟩:=hH.ours b ⟨id,h1,h2⟩
   refine⟨?_,k2⟩
   rintro(hM|⟨j,j1,j2,j3⟩)
   ·exact k1 hM
   ·exact j1 (hH.apart j id b j2 h1 j3 h2 ▸ aj)
  ·rcases hb with hb|⟨id,h1,h2,h3⟩
   ·exact hH.pY b hb
   ·exact(hH.ours b ⟨id,h2,h3⟩).2
 have Na:V.ai (ae M1 φ HR) φ HR w args vals.toList:=V.dy (H:=⟨o',us⟩) (fun b hn hb=>hn ((hB b).1 hb)) _ _ (fun id aj=>ID id (bR id aj)) hd
 refine(h.2 M1 φ w vals M9 Na).mono ?_
 rintro e w' ⟨dH,o1,qD,v,k1,k2,k3⟩
 have main:(∀id∈rd,o1 id=put o Δ id)->∃ao,ag M ao ⟨put o' Δ,us⟩ w'/\Trans φ ⟨o',us⟩ w ao ⟨put o' Δ,us⟩ w'/\∀b,ae M ao ⟨put o' Δ,us⟩ b->M1 b\/∃id∈rd,(o1 id).live=true/\cM (dH id)=some b:=by
  intro l3
  have rk:∀id∈rd,put o' Δ id=o1 id:=fun id aj=>(qC (ho id aj).1).trans (l3 id aj).symm
  have tf:∀id,id∉rd->put o' Δ id=o' id:=fun id aj=>nU fun x hx e=>aj (e ▸ Bb x hx)
  let sI:Place:=fun id=>if id∈rd then dH id else φ id
  have nV:∀id∈rd,sI id=dH id:=fun id aj=>if_pos aj
  have px:∀id,id∉rd->sI id=φ id:=fun id aj=>if_neg aj
  let H2:Hp:=⟨put o' Δ,us⟩
  have cA:∀b,b4 sI H2 b->(∃id∈rd,(o1 id).live=true/\cM (dH id)=some b)\/∃id,id∉rd/\(o' id).live=true/\cM (φ id)=some b:=by
   rintro b ⟨id,h1,h2⟩
   by_cases aj:id∈rd
   ·exact .inl ⟨id,aj,by rw[<- rk id aj];exact h1,by rw[<- nV id aj];exact h2⟩
   ·exact .inr ⟨id,aj,by rw[<- tf id aj];exact h1,by rw[<- px id aj];exact h2⟩
  have Lm:∀b,ae M sI H2 b->ae M1 dH (hp o1 qD) b:=by
   rintro b (hb|hb)
   ·exact .inl (.inl hb)
   ·rcases cA b hb with⟨id,h1,h2,h3⟩|⟨id,h1,h2,h3⟩
    ·exact .inr ⟨id,h2,h3⟩
    ·exact .inl (.inr ⟨id,h1,h2,h3⟩)
  have DB:bU φ ⟨o',us⟩ sI H2:=by
   refine⟨fun id h=>h,fun id hu hr=> ?_,fun id e' hu he=> ?_⟩
   ·by_cases aj:id∈rd
    ·rw[show H2.o id=o1 id from rk id aj]at hr
     obtain⟨a,b⟩:=k2.rel.row id (ou id aj) hr
     rw[show HR.o id=o' id from lB id aj]at a
     exact⟨a,(nV id aj).trans b⟩
    ·rw[show H2.o id=o' id from tf id aj]at hr
     exact⟨hr,px id aj⟩
   ·by_cases aj:id∈rd
    ·rw[show H2.o id=o1 id from rk id aj]at he
     obtain⟨e0,a,b,c⟩:=k2.rel.ep id e' (ou id aj) he
     rw[show HR.o id=o' id from lB id aj]at a
     exact⟨e0,a,b,fun heq=>(nV id aj).trans (c heq)⟩
    ·rw[show H2.o id=o' id from tf id aj]at he
     exact⟨e',he,Nat.le_refl _,fun _=>px id aj⟩
  have oq:∀b,bb w b-> ¬ae M φ ⟨o',us⟩ b->w'.heap[b]? =w.heap[b]? /\ ¬ae M sI H2 b:=by
   intro b hc hn
   obtain⟨a,c⟩:=k2.blocks (M:=M1) b hc (fun hb=>hn ((hB b).1 hb))
   exact⟨a,fun hb=>c (Lm b hb)⟩
  have p5:∀b,b<w.heap.size-> ¬b4 φ HR b->w'.heap[b]? =w.heap[b]? :=fun b hb hl=>k2.keep.block b hb hl
  have ht:Trans φ ⟨o',us⟩ w sI H2 w':=by
   refine⟨⟨k2.keep.os,k2.keep.tape,k2.keep.output,k2.keep.size,fun b hb hl=>p5 b hb fun⟨id,h1,h2⟩=>hl ?_⟩,fun b hb=> ?_,DB⟩
   ·by_cases aj:id∈rd
    ·exact⟨id,by show(o' id).live=true;rw[<- lB id aj];exact h1,h2⟩
    ·rw[show HR.o id= .no from j7 id aj]at h1;cases h1
   ·rcases cA b hb with⟨id,h1,h2,h3⟩|⟨id,h1,h2,h3⟩
    ·rcases k2.grow b ⟨id,h2,h3⟩with⟨j,j1,j2⟩|rb
     ·by_cases aj:j∈rd
      ·exact .inl ⟨j,by show(o' j).live=true;rw[<- lB j aj];exact j1,j2⟩
      ·rw[show HR.o j= .no from j7 j aj]at j1;cases j1
     ·exact .inr rb
    ·exact .inl ⟨id,h2,h3⟩
  refine⟨sI,⟨fun id=> ?_,fun id hn=> ?_,fun i j b hi hj bi bj=> ?_,fun b hb=> ?_,fun b hb=>Nat.lt_of_lt_of_le (hH.pY b hb) k2.keep.size⟩,ht,fun b hb=> ?_⟩
  ·by_cases aj:id∈rd
   ·refine au.refs (H:=hp o1 qD) (M:=M1) (φ:=dH) (fun b hn hb=>hn (Lm b hb)) (rk id aj) (nV id aj) (fun j hj=> ?_) (k1.ok id)
    have s9:j∈rd:=by
     have e1:o1 id=put o Δ id:=l3 id aj
     have hj:j∈(put o Δ id).refs:=by rw[<- e1];exact hj
     have key:∀ (rz:List (Nat×aa)) (q:Nat->aa),(∀x∈rz,∀j∈x.2.refs,j∈rd)->(∀j∈(q id).refs,j∈rd)->∀j∈(put q rz id).refs,j∈rd:=by
      intro rz
      induction rz with
      |nil=>intro q _ h2;exact h2
      |cons x rz ih=>
       intro q h1 h2
       simp only[put,List.foldl_cons]
       refine ih (cn q x.1 x.2) (fun y hy=>h1 y (by simp[hy])) ?_
       simp only[aq]
       split
       ·exact h1 x aU
       ·exact h2
     exact key Δ o Ji (ku id aj) j hj
    exact⟨rk j s9,nV j s9,(ho j s9).2⟩
   ·exact au.oI oq DB (tf id aj) (px id aj) (fun hl b hb=>p5 b (hH.ours b ⟨id,hl,hb⟩).2 fun⟨j,j1,j2⟩=>by
     by_cases hj:j∈rd
     ·rw[show HR.o j=o' j from lB j hj]at j1
      exact aj (hH.apart id j b hl j1 hb j2 ▸ hj)
     ·rw[show HR.o j= .no from j7 j hj]at j1;cases j1) (hH.ok id)
  ·have aj:id∉rd:=fun aj=>hn (ho id aj).2
   exact(tf id aj).trans (hH.fresh id hn)
  ·by_cases e1:i∈rd<;>by_cases e2:j∈rd
   ·refine k1.apart i j b ?_ ?_ (by rw[<- nV i e1];exact bi) (by rw[<- nV j e2];exact bj)
    ·show(o1 i).live=true;rw[<- rk i e1];exact hi
    ·show(o1 j).live=true;rw[<- rk j e2];exact hj
   ·exfalso
    refine(k1.ours b ⟨i,by show(o1 i).live=true;rw[<- rk i e1];exact hi,by rw[<- nV i e1];exact bi⟩).1 (.inr ⟨j,e2,by rw[<- tf j e2];exact hj,by rw[<- px j e2];exact bj⟩)
   ·exfalso
    refine(k1.ours b ⟨j,by show(o1 j).live=true;rw[<- rk j e2];exact hj,by rw[<- nV j e2];exact bj⟩).1 (.inr ⟨i,e1,by rw[<- tf i e1];exact hi,by rw[<- px i e1];exact bi⟩)
   ·exact hH.apart i j b (by show(o' i).live=true;rw[<- tf i e1];exact hi) (by show(o' j).live=true;rw[<- tf j e2];exact hj) (by rw[<- px i e1];exact bi) (by rw[<- px j e2];exact bj)
  ·rcases cA b hb with⟨id,h1,h2,h3⟩|⟨id,h1,h2,h3⟩
   ·obtain⟨a,c⟩:=k1.ours b ⟨id,h2,h3⟩
    exact⟨fun hM=>a (.inl hM),c⟩
   ·obtain⟨a,c⟩:=hH.ours b ⟨id,h2,h3⟩
    exact⟨a,Nat.lt_of_lt_of_le c k2.keep.size⟩
  ·rcases hb with hb|hb
   ·exact .inl (.inl hb)
   ·rcases cA b hb with h|h
    ·exact .inr h
    ·exact .inl (.inr h)
 have res:∀ (vs:List V) (xs:List D) (us':List Value),(∀id∈rd,o1 id=put o Δ id)->aT o1 vs=some xs->(∀id∈V.aC vs,id∉rd)->V.ai (ae M1 dH (hp o1 qD)) dH (hp o1 qD) w' vs us'->
  ∃ao,ag M ao ⟨put o' Δ,us⟩ w'/\Trans φ ⟨o',us⟩ w ao ⟨put o' Δ,us⟩ w'/\D.ai (ae M ao ⟨put o' Δ,us⟩) w' xs us':=by
  intro vs xs us' l3 h1 Jj h2
  obtain⟨f1,f2,f3,f4,f5⟩:=bK k1 (V.aC vs) (bd vs _ h2)
  have h3:=bD f1 vs xs us' f3 h1 (V.aw f2 _ _ h2)
  obtain⟨ao,m1,m2,m3⟩:=main l3
  refine⟨ao,m1,m2,D.aw (w:=w') (w':=w') (fun b _ hn=>⟨rfl,fun hb=>hn ?_⟩) xs us' h3⟩
  rcases m3 b hb with hb|⟨id,i1,i2,i3⟩
  ·exact .inl hb
  ·exact .inr ⟨id,by rw[f4 id fun hm=>Jj id hm i1];exact i2,i3⟩
 cases e with
 |outgrown=>exact k3.elim
 |panicked ch=>
  obtain⟨val,rfl,g1,l3,x,g2,rfl,g3⟩:=k3
  obtain⟨ao,m1,m2,m3⟩:=res [v] [x] [val] l3 (by simp[aT,g2]) (by simpa[V.aC]using g3) ⟨val,[],rfl,g1,rfl⟩
  obtain⟨u,us2,he,h2,_⟩:=m3
  simp at he;obtain⟨rfl,rfl⟩:=he
  exact⟨ao,m1,m2,val,rfl,h2⟩
 |returned val=>
  obtain⟨g1,l3,vs,rs,rfl,g2,rfl,g3⟩:=k3
  match vs,g1,g2,g3 with
  |[],g1,g2,g3=>
   obtain⟨arr,rfl,hv⟩:=g1
   simp only[aT,Option.some.injEq]at g2;subst g2
   obtain⟨ao,m1,m2,m3⟩:=res [] [] arr.toList l3 rfl (by simp[V.aC]) hv
   exact⟨ao,m1,m2,arr,rfl,m3⟩
  |[v],g1,g2,g3=>
   obtain⟨ao,m1,m2,m3⟩:=res [v] rs [val] l3 g2 g3 ⟨val,[],rfl,g1,rfl⟩
   refine⟨ao,m1,m2, ?_⟩
   cases rs with
   |nil=>cases m3
   |cons x l=>
    obtain⟨u,us2,he,h2,h3⟩:=m3
    simp at he;obtain⟨rfl,rfl⟩:=he
    cases l with
    |nil=>exact h2
    |cons y l=>obtain⟨_,_,h,_⟩:=h3;cases h
  |v::v2::l,g1,g2,g3=>
   obtain⟨arr,rfl,hv⟩:=g1
   obtain⟨ao,m1,m2,m3⟩:=res (v::v2::l) rs arr.toList l3 g2 g3 hv
   refine⟨ao,m1,m2, ?_⟩
   have hl:=D.ah _ _ m3
   have KZ:=V.ah _ _ hv
   match rs,hl,m3 with
   |[],hl,_=>exact vF
   |[x],hl,_=>exact vF
   |x::y::l,_,m3=>exact⟨arr,rfl,m3⟩
end
end
section
inductive cJ where
 |skip|val (v:V) (Δ:List (Nat×aa)) (rd:List Nat)|aJ (v:V) (ws rd:List Nat)|cM
 deriving Inhabited
def cJ.ok:cJ->Bool
 | .skip| .val .. =>true
 |_=>false
def l6(dst:Option Tmp)(x:cJ)(s:S):S:=
 match x with
 | .skip=>⟨az s.env dst (.a7 []),s.o,s.nx⟩
 | .val v Δ _=>⟨az s.env dst v,put s.o Δ,s.nx⟩
 | .aJ .. | .cM=>⟨az s.env dst .bT,s.o,s.nx⟩
def eJ:cJ->List Nat
 | .val _ Δ _=>Δ.map (·.1)
 |_=>[]
def ml:cJ->List Nat
 | .val _ _ rd=>rd
 | .aJ _ _ rd=>rd
 |_=>[]
def DC(P:Program)(g:FuncId)(ds:List D)(v:V):Prop:=
 Enters P g/\∀ (M:Nat->Prop) (w:World) (vals:Array Value),(∀b,M b->b<w.heap.size)->D.ai M w ds vals.toList->
  Calls P g vals w fun e w'=>cc (fun _=>False) w w'/\∃val,e= .returned val/\∀φ H,V.den M φ H w' v val
theorem DC.ig {P:Program}{g:FuncId}{ds:List D}{v:V}(hr:v.refs=[])(h:gI P g (ds.map .d) (fun _=> .no) 0 (fun v' _ _=>v'=v) (fun _ _ _=>False)):DC P g ds v:=by
 refine⟨h.1,fun M w vals hM hd=> ?_⟩
 let aZ:Place:=fun _=> .nilFunc
 have p5:∀b, ¬b4 aZ (hp (fun _=> .no) 0) b:=by rintro b ⟨id,hl,_⟩;simp[hp,aa.live]at hl
 refine(h.2 M aZ w vals (gD aZ hM) ((V.aW _ _).2 (D.aw (w:=w) (w':=w) (B:=M) (fun b _ hB=>⟨rfl,fun h=>h.elim hB (p5 b)⟩) _ _ hd))).mono ?_
 rintro e w' ⟨ao,o',nx',v',k1,k2,k3⟩
 refine⟨⟨k2.keep.os,k2.keep.tape,k2.keep.output,k2.keep.size,fun k hk _=>k2.keep.block k hk (p5 k)⟩, ?_⟩
 cases e with
 |outgrown=>exact k3.elim
 |panicked ch=>obtain⟨_,_,_,h⟩:=k3;exact h.elim
 |returned val=>
  obtain⟨g1,rfl⟩:=k3
  exact⟨val,rfl,fun φ H=>V.jg (B:=ae M ao (hp o' nx')) (φ:=ao) (H:=hp o' nx') (fun b hb hm=>hb (.inl hm)) v' val (fun id aj=>by rw[hr]at aj;cases aj) g1⟩
def mW(P:Program)(s:S)(fr:Nat)(op:Op)(v:V)(Δ:List (Nat×aa))(rd:List Nat):Prop:=
 ((∃om,dw P s fr op=some (v,Δ,om))/\rd=gK s op)\/
 (∃c f g first cap,op= .call c/\c.callee= .value f/\s.ev f= .func (.func g) first cap/\
  ((∃ds rs,aT s.o (first++c.args.toList.map s.ev++cap)=some ds/\bt P g ds (.ret rs)/\v=fE rs/\rd=gK s op/\
    (Δ=bH s.o (V.aC (first++c.args.toList.map s.ev++cap))\/D.eT rs=true/\Δ=[]))\/
   (∃rs,uk P g (first++c.args.toList.map s.ev++cap) rd s.o (.ret rs) Δ/\v=fE rs/\∀id∈rd,id<s.nx)\/
   (∃ds,aT s.o (first++c.args.toList.map s.ev++cap)=some ds/\DC P g ds v/\rd=gK s op/\Δ=bH s.o (V.aC (first++c.args.toList.map s.ev++cap)))\/
   (qB P g (first++c.args.toList.map s.ev++cap) rd s.o fr v Δ/\∀id∈rd,id<s.nx)))
def py(P:Program)(s:S)(op:Op)(v:V)(ws rd:List Nat):Prop:=
 ∃c f g first cap,op= .call c/\c.callee= .value f/\s.ev f= .func (.func g) first cap/\
  ((∃ds x,aT s.o (first++c.args.toList.map s.ev++cap)=some ds/\bt P g ds (.aJ x)/\x.flat=true/\v= .d x/\rd=gK s op/\ws=[])\/
   (∃x Δ,uk P g (first++c.args.toList.map s.ev++cap) rd s.o (.aJ x) Δ/\v= .d x/\ws=Δ.map (·.1)/\∀id∈rd,id<s.nx))
def bS(s:S)(gd:Option (Nat×Bool))(b:Bool):Prop:=
 match gd with
 |none=>b=true
 |some (d,want)=>match s.env d with
  | .d (.bool c)=>b=(c==want)
  | .a7 []=>b=false
  |_=>False
def xT(P:Program)(s:S)(fr:Nat)(o:aP)(x:cJ):Prop:=
 match x with
 | .skip=>bS s o.gd false
 | .val v Δ rd=>bS s o.gd true/\mW P s fr o.op v Δ rd
 | .aJ v ws rd=>bS s o.gd true/\py P s o.op v ws rd
 | .cM=>True
def ck(oc:Nat->aP)(ac:Nat->cJ)(E:Nat->Bool)(s:S):Nat->S
 |0=>s
 |k+1=>if E k then l6 (oc k).dst (ac k) (ck oc ac E s k)else ck oc ac E s k
structure Compat (oc:Nat->aP) (ac:Nat->cJ) (R:Nat->List Nat) (i j:Nat):Prop where
 di:∀d,(oc i).dst=some d->d∉cF (oc j)
 dj:∀d,(oc j).dst=some d->d∉cF (oc i)
 wi:∀id∈eJ (ac i),id∉R j/\id∉eJ (ac j)
 wj:∀id∈eJ (ac j),id∉R i
section
variable {P:Program}{oc:Nat->aP}{ac:Nat->cJ}{s:S}{n:Nat}{E:Nat->Bool}{R:Nat->List Nat}{pr:Nat->Nat->Prop}
theorem qE{env:Nat->V}{dst:Option Tmp}{v:V}{t:Nat}(h:∀d,dst=some d->d≠t):az env dst v t=env t:=by
 cases dst with
 |none=>rfl
 |some d=>simp only[az,aq];rw[if_neg (fun e=>h d rfl e.symm)]
theorem c0{o:Nat->aa}:∀ {Δ:List (Nat×aa)} {id:Nat},id∉Δ.map (·.1)->put o Δ id=o id
 |[],_,_=>rfl
 |x::Δ,id,h=>by
  simp only[List.map_cons,List.mem_cons,not_or]at h
  have:=c0 (o:=cn o x.1 x.2) (Δ:=Δ) h.2
  simp only[put,List.foldl_cons]at this|-
  rw[this];simp[h.1]
theorem nW{o o':Nat->aa}:∀ {Δ:List (Nat×aa)} {id:Nat},id∈Δ.map (·.1)\/o id=o' id->put o Δ id=put o' Δ id
 |[],_,h=>by rcases h with h|h;· simp at h
             ·exact h
 |x::Δ,id,h=>by
  simp only[put,List.foldl_cons]
  refine nW (Δ:=Δ) (o:=cn o x.1 x.2) (o':=cn o' x.1 x.2) ?_
  simp only[List.map_cons,List.mem_cons]at h
  simp only[aq]
  by_cases e:id=x.1
  ·right;simp[e]
  ·rcases h with(h|h)|h
   ·exact absurd h e
   ·exact .inl h
   ·right;simp[e,h]
theorem eK{dst:Option Tmp}{x:cJ}{t:Nat}(h:∀d,dst=some d->d≠t):(l6 dst x s).env t=s.env t:=by
 cases x<;>exact qE h
theorem fZ{dst:Option Tmp}{x:cJ}{id:Nat}(h:id∉eJ x):(l6 dst x s).o id=s.o id:=by
 cases x with
 |val v Δ rd=>exact c0 h
 |_=>rfl
theorem nX{dst:Option Tmp}{x:cJ}{s':S}{t:Nat}(h:s.env t=s'.env t):(l6 dst x s).env t=(l6 dst x s').env t:=by
 cases x<;>cases dst<;>simp only[l6,az,aq]<;>first|exact h|(split<;>first|rfl|exact h)
theorem qF{dst:Option Tmp}{x:cJ}{s':S}{id:Nat}(h:s.o id=s'.o id):(l6 dst x s).o id=(l6 dst x s').o id:=by
 cases x with
 |val v Δ rd=>exact nW (.inr h)
 |_=>exact h
theorem put_comm{o:Nat->aa}{Δ rz:List (Nat×aa)}(h:∀id∈Δ.map (·.1),id∉rz.map (·.1)):put (put o Δ) rz=put (put o rz) Δ:=by
 funext id
 by_cases h1:id∈Δ.map (·.1)
 ·rw[c0 (h id h1)]
  exact nW (.inl h1)
 ·rw[c0 (Δ:=Δ) h1]
  by_cases h2:id∈rz.map (·.1)
  ·exact nW (.inl h2)
  ·rw[c0 h2,c0 h2,c0 h1]
theorem mX{env:Nat->V}{d d':Option Tmp}{v v':V}(h:∀t,d=some t->d'≠some t):az (az env d v) d' v'=az (az env d' v') d v:=by
 cases d with
 |none=>rfl
 |some t=>
  cases d' with
  |none=>rfl
  |some t'=>
   have iM:t'≠t:=fun e=>h t rfl (by rw[e])
   funext i
   simp only[az,aq]
   by_cases e1:i=t<;>by_cases e2:i=t'
   ·exact absurd (e2.symm.trans e1) iM
   all_goals simp[e1,e2]
   ·intro e;exact absurd e.symm iM
   ·intro e;exact absurd e iM
theorem um{d d':Option Tmp}{x x':cJ}(hd:∀t,d=some t->d'≠some t)(hw:∀id∈eJ x,id∉eJ x'):l6 d x (l6 d' x' s)=l6 d' x' (l6 d x s):=by
 cases x<;>cases x'<;>simp only[l6]<;>first
  |rw[mX hd,put_comm hw]
  |rw[mX hd]
def nY(n:Nat)(pr:Nat->Nat->Prop)(E:Nat->Bool):Prop:=∀k,k<n->E k=true->∀j,pr k j->E j=true
theorem agree(_:∀k,k<n->∀j,pr k j->j<k)(hc:∀i j,i<j->j<n-> ¬pr j i->Compat oc ac R i j)(hE:nY n pr E){i:Nat}(hi:i<n)(fF:E i=false)(uo:∀j,pr i j->E j=true):
 (∀t∈cF (oc i),(ck oc ac E s n).env t=(ck oc ac (fun _=>true) s i).env t)/\(∀id∈R i,(ck oc ac E s n).o id=(ck oc ac (fun _=>true) s i).o id):=by
 have a:∀k,k<=i->(∀t∈cF (oc i),(ck oc ac E s k).env t=(ck oc ac (fun _=>true) s k).env t)/\(∀id∈R i,(ck oc ac E s k).o id=(ck oc ac (fun _=>true) s k).o id):=by
  intro k
  induction k with
  |zero=>intro _;exact⟨fun _ _=>rfl,fun _ _=>rfl⟩
  |succ k ih=>
   intro hk
   obtain⟨h1,h2⟩:=ih aN
   simp only[ck,if_true]
   by_cases dK:E k=true
   ·simp only[dK,if_true]
    exact⟨fun t ht=>nX (h1 t ht),fun id aj=>qF (h2 id aj)⟩
   ·have xI: ¬pr i k:=fun hm=>dK (uo k hm)
    have c:=hc k i aN hi xI
    simp only[dK]
    refine⟨fun t ht=> ?_,fun id aj=> ?_⟩
    ·rw[eK fun d hd e=>c.di d hd (e ▸ ht)];exact h1 t ht
    ·rw[fZ fun hm=>(c.wi id hm).1 aj];exact h2 id aj
 have b:∀k,i<=k->k<=n->(∀t∈cF (oc i),(ck oc ac E s k).env t=(ck oc ac (fun _=>true) s i).env t)/\(∀id∈R i,(ck oc ac E s k).o id=(ck oc ac (fun _=>true) s i).o id):=by
  intro k wk
  induction wk with
  |refl=>intro _;exact a i (Nat.le_refl _)
  | @step k wk ih=>
    intro hk
    have wk:i<=k:=wk
    obtain⟨h1,h2⟩:=ih aN
    simp only[ck]
    by_cases dK:E k=true
    ·have iM:i≠k:=fun e=>by rw[e,dK]at fF;cases fF
     have xI: ¬pr k i:=fun hm=>by have:=hE k aN dK i hm;rw[fF]at this;cases this
     have c:=hc i k aN aN xI
     simp only[dK,if_true]
     refine⟨fun t ht=> ?_,fun id aj=> ?_⟩
     ·rw[eK fun d hd e=>c.dj d hd (e ▸ ht)];exact h1 t ht
     ·rw[fZ fun hm=>c.wj id hm aj];exact h2 id aj
    ·simp only[dK];exact⟨h1,h2⟩
 exact b n aN (Nat.le_refl _)
theorem insert(hc:∀i j,i<j->j<n-> ¬pr j i->Compat oc ac R i j)(hE:nY n pr E){i:Nat}(hi:i<n)(fF:E i=false){E':Nat->Bool}(qG:∀k,E' k=(E k||k==i)):
 ck oc ac E' s n=l6 (oc i).dst (ac i) (ck oc ac E s n):=by
 have a:∀k,k<=i->ck oc ac E' s k=ck oc ac E s k:=by
  intro k
  induction k with
  |zero=>intro _;rfl
  |succ k ih=>
   intro hk
   have:E' k=E k:=by rw[qG k];have:(k==i)=false:=by simp;omega
                     simp[this]
   simp only[ck,this,ih (by omega)]
 have b:∀k,i+1<=k->k<=n->ck oc ac E' s k=l6 (oc i).dst (ac i) (ck oc ac E s k):=by
  intro k wk
  induction wk with
  |refl=>
   intro _
   have h1:E' i=true:=by rw[qG i];simp
   simp only[ck,h1,fF,if_true,a i (Nat.le_refl _)]
   rfl
  | @step k wk ih=>
    intro hk
    have wk:i+1<=k:=wk
    have h1:E' k=E k:=by rw[qG k];have:(k==i)=false:=by simp;omega
                         simp[this]
    simp only[ck,h1,ih (by omega)]
    by_cases dK:E k=true
    ·have xI: ¬pr k i:=fun hm=>by have:=hE k aN dK i hm;rw[fF]at this;cases this
     have c:=hc i k aN aN xI
     simp only[dK,if_true]
     refine um (fun t ht he=> ?_) (fun id aj hm=>(c.wi id hm).2 aj)
     exact c.di t he (by simp[cF,ht])
    ·simp only[dK];rfl
 exact b n aN (Nat.le_refl _)
end
end
section
structure kC (M:Nat->Prop) (aZ:Place) (H0:Hp) (w0:World) (n:Nat) (cx:Cx) (φ:Place) (s:S) (us:Nat->Prop) (a:Act) (w:World):Prop where
 heap:ag M φ ⟨s.o,us⟩ w
 tr:Trans aZ H0 w0 φ ⟨s.o,us⟩ w
 size:a.tmps.size=n
 defers:lp cx w0 φ ⟨s.o,us⟩ w a.defers
 env:∀i,V.den (ae M φ ⟨s.o,us⟩) φ ⟨s.o,us⟩ w (s.env i) (a.tmps.getD i undef)
section
variable {P:Program}{M:Nat->Prop}{φ aZ:Place}{H0:Hp}{w w' w0:World}{n:Nat}{s:S}{us:Nat->Prop}{a:Act}{cx:Cx}{ro:Option Nat}{k:Nat}
variable {next:Act->World->Prop}{Q:Exit->Act->World->Prop}
theorem dX(hs:kC M aZ H0 w0 n cx φ s us a w){ao:Place}{H':Hp}(hH:ag M ao H' w')(ht:Trans φ ⟨s.o,us⟩ w ao H' w'){v:V}{val:Value}(hd:V.den (ae M ao H') ao H' w' v val){dst:Option Tmp}(ba:c9 n dst)
 {o':Nat->aa} {us':Nat->Prop} (ho:H'.o=o') (hu:∀id,H'.us id->us' id):kC M aZ H0 w0 n cx ao ⟨az s.env dst v,o',s.nx⟩ us' (a.put dst val) w':=by
 obtain⟨k1,k2⟩:=eo hH hu
 subst ho
 refine⟨k1,hs.tr.trans (ht.trans k2), ?_, ?_,fun i=> ?_⟩
 ·cases dst<;>simp[Act.put,hs.size]
 ·have:=hs.defers.mono (ht.trans k2);cases dst<;>exact this
 ·cases dst with
  |none=>exact vz
  |some d=>
   simp only[c9]at ba
   simp only[az,aq,Act.put]
   by_cases hi:i=d
   ·subst hi
    have h1:(a.tmps.setIfInBounds i val).getD i undef=val:=by simp[Array.getD,hs.size,ba]
    rw[if_pos rfl,h1]
    exact V.ax k2 _ _ hd
   ·have h1:(a.tmps.setIfInBounds d val).getD i undef=a.tmps.getD i undef:=by
     exact yY
    rw[if_neg hi,h1]
    exact vz
theorem mY(hs:kC M aZ H0 w0 n cx φ s us a w){o:Oper}{op:Op}(dg:o.op=op){c:Call}{f:Operand}{g:FuncId}{first cap:List V}(hc:op= .call c)(cE:c.callee= .value f)(ow:s.ev f= .func (.func g) first cap):
 ∃vals:Array Value,V.ai (ae M φ ⟨s.o,us⟩) φ ⟨s.o,us⟩ w (first++c.args.toList.map s.ev++cap) vals.toList/\(Enters P g->(execOp a.eval o).run P w= .ok (.enter g vals) w):=by
 have hf:=fL (M:=M) (φ:=φ) (H:=⟨s.o,us⟩) (w:=w) s a hs.env f
 have bR:=ey (M:=M) (φ:=φ) (H:=⟨s.o,us⟩) (w:=w) s a hs.env c.args.toList
 rw[ow]at hf
 obtain⟨fa,ca,zh,qY,Ht⟩:=hf
 refine⟨fa++c.args.map a.eval++ca, ?_,fun he=> ?_⟩
 ·exact CW
 ·have:=eX (w:=w) he (fa++c.args.map a.eval++ca)
  generalize rm:fa++c.args.map a.eval++ca=vals at this
  simp[execOp,dg,hc,resolve,cE,zh,Deferred.ofValue,invoke,this,rm]
theorem th(hs:kC M aZ H0 w0 n cx φ s us a w){fr:Nat}(cq: ¬us fr)(ou:∀id,id<s.nx->us id){o:Oper}{op:Op}(dg:o.op=op)(ba:c9 n o.dst){v:V}{Δ:List (Nat×aa)}{rd:List Nat}(h:mW P s fr op v Δ rd)
 (hN:∀ao a' w',kC M aZ H0 w0 n cx ao (l6 o.dst (.val v Δ rd) s) (fun id=>us id\/id=fr) a' w'->next a' w'):o.wpIn (bQ ro) k P a w next Q:=by
 rcases h with⟨⟨om,h⟩,_⟩|⟨c,f,g,first,cap,hc,cE,ow,h⟩
 ·have h1:=pt (K:=fun v' rz _=>v'=v/\rz=Δ) h ⟨rfl,rfl⟩
  obtain⟨nx,val,w',ao,v',rz,om,⟨rfl,rfl⟩,hr,Jk,g1,g2,g3,g4⟩:=mJ hs.heap (s:=s) rfl hs.env cq dg h1
  have nG:=dX hs g1 g2 g3 ba (o':=put s.o rz) (us':=fun id=>us id\/id=fr) rfl (fun id hu=>hu.elim .inl (g4 id))
  refine eC (fun c hc=>by rw[dg]at hc;subst hc;exact h1) ?_
  rw[hr]
  rcases Jk with rfl|⟨rfl,rfl⟩
  ·exact hN _ _ _ nG
  ·exact hN _ _ _ nG
 ·refine eC (fun c' ud=>by rw[dg,hc]at ud;cases ud) ?_
  obtain⟨vals,aV,cI⟩:=mY (P:=P) hs dg hc cE ow
  generalize first++c.args.toList.map s.ev++cap=all at h aV
  rcases h with⟨ds,rs,dh,hP,rfl,_,Bb⟩|⟨rs,hH,rfl,gQ⟩|⟨ds,dh,hP,_,rfl⟩|⟨hH,gQ⟩
  ·obtain⟨f1,f2,f3,f4,f5⟩:=bK hs.heap (V.aC all) (bd all _ aV)
   have fi:(⟨s.o,us⟩:Hp).put (bH s.o (V.aC all))=⟨put s.o (bH s.o (V.aC all)),us⟩:=eW (H:=⟨s.o,us⟩) yO
   have mz:=bD f1 all ds _ f3 dh (V.aw f2 _ _ aV)
   have cC:=hP.2 _ w vals (fun b hb=>hb.elim (f1.pY b) fun hl=>(f1.ours b hl).2) mz
   rw[cI hP.1]
   refine⟨fun hd=>by simp[bQ]at hd,bn (cC.mono fun e w' ⟨hk,ho⟩=> ?_)⟩
   cases e with
   |panicked ch=>exact vo
   |outgrown=>exact vo
   |returned val=>
    rcases Bb with rfl|⟨jk,rfl⟩
    ·obtain⟨k1,k2⟩:=cY f1 hk
     refine hN _ _ _ (dX hs k1 (f2.trans k2) (fI ho) ba (by rw[fi]) fun id hu=> ?_)
     rw[fi]at hu;exact .inl hu
    ·obtain⟨k1,k2⟩:=cY hs.heap hk
     have ho:=R.nH (out:= .ret rs) (B':=ae M φ ⟨s.o,us⟩) jk ho
     exact Cu
  ·have cC:=hH.2 s.o us M φ w vals (fun id aj=>⟨rfl,ou id (gQ id aj)⟩) hs.heap aV
   rw[cI hH.1]
   refine⟨fun hd=>by simp[bQ]at hd,bn (cC.mono fun e w' ⟨ao,k1,k2,ho⟩=> ?_)⟩
   cases e with
   |panicked ch=>exact vo
   |outgrown=>exact vo
   |returned val=>exact Cu
  ·obtain⟨f1,f2,f3,f4,f5⟩:=bK hs.heap (V.aC all) (bd all _ aV)
   have fi:(⟨s.o,us⟩:Hp).put (bH s.o (V.aC all))=⟨put s.o (bH s.o (V.aC all)),us⟩:=eW (H:=⟨s.o,us⟩) yO
   have mz:=bD f1 all ds _ f3 dh (V.aw f2 _ _ aV)
   have cC:=hP.2 _ w vals (fun b hb=>hb.elim (f1.pY b) fun hl=>(f1.ours b hl).2) mz
   rw[cI hP.1]
   refine⟨fun hd=>by simp[bQ]at hd,bn (cC.mono fun e w' ⟨hk,val,he,ho⟩=> ?_)⟩
   subst he
   obtain⟨k1,k2⟩:=cY f1 hk
   refine hN _ _ _ (dX hs k1 (f2.trans k2) (ho _ _) ba (by rw[fi]) fun id hu=> ?_)
   rw[fi]at hu;exact .inl hu
  ·have cC:=hH.2 s.o us M φ w vals (fun id aj=>⟨rfl,ou id (gQ id aj)⟩) cq hs.heap aV
   rw[cI hH.1]
   refine⟨fun hd=>by simp[bQ]at hd,bn (cC.mono fun e w' ⟨ao,k1,k2,val,he,ho⟩=> ?_)⟩
   subst he
   exact hN _ _ _ (dX hs k1 k2 ho ba rfl fun id hu=>hu)
theorem sQ{o o2:Nat->aa}{us us2:Nat->Prop}(hH:ag M φ ⟨o,us⟩ w)(ho:∀id,o2 id=o id\/o2 id= .no)(hu:∀id,us id->us2 id):ag M φ ⟨o2,us2⟩ w/\Trans φ ⟨o,us⟩ w φ ⟨o2,us2⟩ w:=by
 have hl:∀id,(o2 id).live=true->(o id).live=true:=fun id h=>by
  rcases ho id with e|e
  ·rw[<- e];exact h
  ·rw[e]at h;cases h
 have Be:∀b,b4 φ ⟨o2,us2⟩ b->b4 φ ⟨o,us⟩ b:=fun b ⟨id,h1,h2⟩=>⟨id,hl id h1,h2⟩
 have ht:Trans φ ⟨o,us⟩ w φ ⟨o2,us2⟩ w:=by
  refine⟨cc.refl _ _,fun b hb=> .inl (Be b hb),⟨hu,fun id _ hr=> ?_,fun id e' _ he=> ?_⟩⟩
  ·rcases ho id with e|e
   ·exact⟨by show(o id).aY=true;rw[<- e];exact hr,rfl⟩
   ·rw[show(⟨o2,us2⟩:Hp).o id= .no from e]at hr;cases hr
  ·rcases ho id with e|e
   ·exact⟨e',by show(o id).bz=some e';rw[<- e];exact he,Nat.le_refl _,fun _=>rfl⟩
   ·rw[show(⟨o2,us2⟩:Hp).o id= .no from e]at he;cases he
 refine⟨⟨fun id=> ?_,fun id hn=> ?_,fun i j b hi hj=>hH.apart i j b (hl i hi) (hl j hj),fun b hb=>hH.ours b (Be b hb),hH.pY⟩,ht⟩
 ·rcases ho id with e|e
  ·exact(hH.ok id).mono ht e rfl fun _ _ _=>rfl
  ·unfold au;rw[show(⟨o2,us2⟩:Hp).o id= .no from e];trivial
 ·rcases ho id with e|e
  ·exact e.trans (hH.fresh id fun h=>hn (hu id h))
  ·exact e
def lC(ds:List Nat)(wl:List Nat)(N:Nat)(s:S):S:=
 ⟨fun t=>if ds.contains t=true then .bT else s.env t,fun id=>if wl.contains id=true then .no else s.o id,s.nx+N⟩
theorem uq(hs:kC M aZ H0 w0 n cx φ s us a w)(ou:∀id,id<s.nx->us id){N:Nat}(cR:∀id,us id->id<s.nx+N){o:Oper}{op:Op}(dg:o.op=op){v:V}{ws rd:List Nat}(h:py P s op v ws rd)
 {s0:S} {ds wl:List Nat} (dh:∀t,ds.contains t=false->s.env t=s0.env t) (Jl:∀id,wl.contains id=false->s.o id=s0.o id) (wm:∀id∈ws,wl.contains id=true) (wh:s0.nx=s.nx)
 (hQ:∀ao w' val,aQ M aZ H0 w0 n cx ao (lC ds wl N s0) a w'->V.den (ae M ao (lC ds wl N s0).H) ao (lC ds wl N s0).H w' v val->Q (.panic [{v:=val,recovered:=false}]) a w'):o.wpIn (bQ ro) k P a w next Q:=by
 obtain⟨c,f,g,first,cap,hc,cE,ow,h⟩:=h
 refine eC (fun c' ud=>by rw[dg,hc]at ud;cases ud) ?_
 obtain⟨vals,aV,cI⟩:=mY (P:=P) hs dg hc cE ow
 generalize first++c.args.toList.map s.ev++cap=all at h aV
 have fin:∀ (ao:Place) (w':World) (o':Nat->aa) (val:Value),(∀id,wl.contains id=false->o' id=s.o id)->ag M ao ⟨o',us⟩ w'->Trans φ ⟨s.o,us⟩ w ao ⟨o',us⟩ w'->V.den (ae M ao ⟨o',us⟩) ao ⟨o',us⟩ w' v val->Q (.panic [{v:=val,recovered:=false}]) a w':=by
  intro ao w' o' val mm k1 k2 k3
  obtain⟨m1,m2⟩:=sQ (o2:=(lC ds wl N s0).o) (us2:=fun id=>id<s0.nx+N) k1 (fun id=>by
   show(if wl.contains id=true then aa.no else s0.o id)=o' id\/_
   by_cases hw:wl.contains id=true
   ·right;simp only[lC];rw[if_pos hw]
   ·left;rw[if_neg hw,mm id (by simpa using hw),Jl id (by simpa using hw)]) (fun id h=>by rw[wh];exact cR id h)
  have ht:=hs.tr.trans (k2.trans m2)
  refine hQ ao w' val ⟨m1,ht,hs.size,hs.defers.mono (k2.trans m2),fun i=> ?_⟩ (V.ax m2 _ _ k3)
  show V.den _ _ _ _ (if ds.contains i=true then V.bT else s0.env i) _
  by_cases hd:ds.contains i=true
  ·rw[if_pos hd];trivial
  ·rw[if_neg hd, <- dh i (by simpa using hd)];exact V.ax (k2.trans m2) _ _ (hs.env i)
 rcases h with⟨dd,x,Jm,hP,jk,rfl,_,rfl⟩|⟨x,Δ,hH,rfl,rfl,gQ⟩
 ·obtain⟨f1,f2,f3,f4,f5⟩:=bK hs.heap (V.aC all) (bd all _ aV)
  have mz:=bD f1 all dd _ f3 Jm (V.aw f2 _ _ aV)
  have cC:=hP.2 _ w vals (fun b hb=>hb.elim (f1.pY b) fun hl=>(f1.ours b hl).2) mz
  rw[cI hP.1]
  refine⟨fun hd=>by simp[bQ]at hd,bn (cC.mono fun e w' ⟨hk,ho⟩=> ?_)⟩
  cases e with
  |returned val=>exact ho.elim
  |outgrown=>exact ho.elim
  |panicked ch=>
   obtain⟨k1,k2⟩:=cY hs.heap hk
   have ho:=R.nH (out:= .aJ x) (B':=ae M φ ⟨s.o,us⟩) jk ho
   obtain⟨val,rfl,hd⟩:=ho
   exact fin φ w' s.o val (fun _ _=>rfl) k1 k2 hd
 ·have cC:=hH.2 s.o us M φ w vals (fun id aj=>⟨rfl,ou id (gQ id aj)⟩) hs.heap aV
  rw[cI hH.1]
  refine⟨fun hd=>by simp[bQ]at hd,bn (cC.mono fun e w' ⟨ao,k1,k2,ho⟩=> ?_)⟩
  cases e with
  |returned val=>exact ho.elim
  |outgrown=>exact ho.elim
  |panicked ch=>
   obtain⟨val,rfl,hd⟩:=ho
   exact fin ao w' _ val (fun id aj=>nU fun y hy e=>by
    have:=wm y.1 (List.mem_map_of_mem hy)
    rw[e,aj]at this;cases this) k1 k2 hd
theorem cP(b5:∀i,V.den (ae M φ ⟨s.o,us⟩) φ ⟨s.o,us⟩ w (s.env i) (a.tmps.getD i undef)){ops:Array Oper}{o:Oper}{gd:Option (Nat×Bool)}{b:Bool}
 (hg:match o.guard with|none=>gd=none|some (j,want)=>∃d,jM ops j=some d/\gd=some (d,want)) (h:bS s gd b):Region.wanted o (yielded ops a.tmps)=b:=by
 unfold Region.wanted
 split at hg
 ·rename_i hn;simp only[hn];subst hg;exact h.symm
 ·rename_i j want hn
  simp only[hn]
  obtain⟨d,hd,rfl⟩:=hg
  unfold jM at hd
  unfold yielded
  simp only[hd,Option.bind_some]
  simp only[bS]at h
  have he:=b5 d
  split at h
  ·rename_i c hv
   rw[hv]at he
   simp only[V.den,D.den]at he
   have:a.tmps[d]? =some (.bool c):=by
    rw[Array.getD_eq_getD_getElem?]at he
    cases hx:a.tmps[d]? with
    |none=>rw[hx]at he;simp[undef]at he
    |some x=>rw[hx]at he;simp at he;rw[he]
   simp only[this,h]
   cases c<;>cases want<;>rfl
  ·rename_i hv
   rw[hv]at he
   obtain⟨arr,bw,hn⟩:=he
   have:∀c,a.tmps[d]? ≠some (.bool c):=by
    exact C6
   subst h
   cases hx:a.tmps[d]? with
   |none=>rfl
   |some x=>cases x<;>first|(exact absurd hx (this _))|rfl
  ·exact h.elim
theorem cQ{s s':S}{gd:Option (Nat×Bool)}{b:Bool}(h:∀d want,gd=some (d,want)->s'.env d=s.env d)(hg:bS s gd b):bS s' gd b:=by
 unfold bS at*
 cases gd with
 |none=>exact hg
 |some p=>obtain⟨d,want⟩:=p;simp only at hg|-;rw[h d want rfl];exact hg
theorem pz{s s':S}{x:Operand}(h:∀t,x= .tmp t->s'.env t=s.env t):s'.ev x=s.ev x:=by
 cases x<;>simp only[S.ev]
 exact h _ rfl
theorem lD{s s':S}{op:Op}{c:Call}{f:Operand}{g:FuncId}{first cap:List V}(hv:∀x∈op.operands,s'.ev x=s.ev x)(hc:op= .call c)(cE:c.callee= .value f)(ow:s.ev f= .func (.func g) first cap):
 s'.ev f= .func (.func g) first cap/\c.args.toList.map s'.ev=c.args.toList.map s.ev:=by
 subst hc
 exact⟨(hv f (by simp only[Op.operands,Call.operands,cE];exact Array.mem_append.2 (.inl aU))).trans ow,
  List.map_congr_left fun x hx=>hv x Cn⟩
theorem uk.frame {g:FuncId}{args:List V}{rd:List Nat}{o o':Nat->aa}{out:R}{Δ:List (Nat×aa)}(ho:∀id∈rd,o' id=o id)(h:uk P g args rd o out Δ):uk P g args rd o' out Δ:=
 ⟨h.1,fun o2 us M φ w vals h1 h2 h3=>h.2 o2 us M φ w vals (fun id aj=>⟨(h1 id aj).1.trans (ho id aj),(h1 id aj).2⟩) h2 h3⟩
theorem qB.frame {g:FuncId}{args:List V}{rd:List Nat}{o o':Nat->aa}{fr:Nat}{v:V}{Δ:List (Nat×aa)}(ho:∀id∈rd,o' id=o id)(h:qB P g args rd o fr v Δ):qB P g args rd o' fr v Δ:=
 ⟨h.1,fun o2 us M φ w vals h1 h2 h3=>h.2 o2 us M φ w vals (fun id aj=>⟨(h1 id aj).1.trans (ho id aj),(h1 id aj).2⟩) h2 h3⟩
theorem oA{s s':S}{fr:Nat}{op:Op}{v:V}{Δ:List (Nat×aa)}{rd:List Nat}(hv:∀x∈op.operands,s'.ev x=s.ev x)(ho:∀id∈rd,s'.o id=s.o id)(ou:s'.nx=s.nx)(h:mW P s fr op v Δ rd):∃om,mW P s' fr op v Δ om:=by
 rcases h with⟨⟨om,h⟩,gQ⟩|⟨c,f,g,first,cap,rfl,cE,ow,h⟩
 ·exact⟨_, .inl ⟨⟨om,by rw[qA op hv (by rw[<- gQ];exact ho)];exact h⟩,rfl⟩⟩
 ·obtain⟨hf,hm⟩:=lD hv rfl cE ow
  rcases h with⟨ds,rs,dh,hP,jn,gQ,Bb⟩|⟨rs,hH,jn,gQ⟩|⟨ds,dh,hP,gQ,Bb⟩|⟨hH,gQ⟩
  ·have hr:∀id∈V.bp (first++c.args.toList.map s.ev++cap),s'.o id=s.o id:=fun id aj=>ho id yK
   refine⟨_, .inr ⟨c,f,g,first,cap,rfl,cE,hf, .inl ⟨ds,rs,by rw[hm,dx _ hr];exact dh,hP,jn,rfl, ?_⟩⟩⟩
   exact C3
  ·exact⟨rd, .inr ⟨c,f,g,first,cap,rfl,cE,hf, .inr (.inl ⟨rs,by rw[hm];exact hH.frame ho,jn,by rw[ou];exact gQ⟩)⟩⟩
  ·have hr:∀id∈V.bp (first++c.args.toList.map s.ev++cap),s'.o id=s.o id:=fun id aj=>ho id yK
   refine⟨_, .inr ⟨c,f,g,first,cap,rfl,cE,hf, .inr (.inr (.inl ⟨ds,by rw[hm,dx _ hr];exact dh,hP,rfl, ?_⟩))⟩⟩
   exact C3
  ·exact⟨rd, .inr ⟨c,f,g,first,cap,rfl,cE,hf, .inr (.inr (.inr ⟨by rw[hm];exact hH.frame ho,by rw[ou];exact gQ⟩))⟩⟩
theorem pA{s s':S}{op:Op}{v:V}{ws rd:List Nat}(hv:∀x∈op.operands,s'.ev x=s.ev x)(ho:∀id∈rd,s'.o id=s.o id)(ou:s'.nx=s.nx)(h:py P s op v ws rd):py P s' op v ws rd:=by
 obtain⟨c,f,g,first,cap,rfl,cE,ow,h⟩:=h
 obtain⟨hf,hm⟩:=lD hv rfl cE ow
 refine⟨c,f,g,first,cap,rfl,cE,hf, ?_⟩
 rw[hm]
 rcases h with⟨ds,x,dh,hP,jk,jn,gQ,wm⟩|⟨x,Δ,hH,jn,wm,gQ⟩
 ·have hr:∀id∈V.bp (first++c.args.toList.map s.ev++cap),s'.o id=s.o id:=fun id aj=>ho id yK
  exact .inl ⟨ds,x,by rw[dx _ hr];exact dh,hP,jk,jn,by rw[gQ];simp only[gK,cE,ow,hf,hm],wm⟩
 ·exact .inr ⟨x,Δ,hH.frame ho,jn,wm,by rw[ou];exact gQ⟩
theorem lE{ops:Array Oper}:∀ (l:List Oper) (l':List aP) (i:Nat) (o:Oper),eN n ops l=some l'->l[i]? =some o->tp n ops o=some (aO l' i)
 |[],_,_,_,_,h=>by simp at h
 |x::l,l',i,o,h,hi=>by
  simp only[eN]at h
  split at h
  ·rename_i y ys hy Nb
   injection h with h;subst h
   cases i with
   |zero=>simp at hi;subst hi;exact hy
   |succ i=>exact lE l ys i o Nb (by simpa using hi)
  ·cases h
theorem mZ{ops:Array Oper}{o:Oper}{x:aP}(h:tp n ops o=some x):x.op=o.op/\x.dst=o.dst/\c9 n o.dst/\
 (match o.guard with|none=>x.gd=none|some (j,want)=>∃d,jM ops j=some d/\x.gd=some (d,want)):=by
 unfold tp at h
 split at h
 ·rename_i hd
  have ba:c9 n o.dst:=by
   unfold p6 at hd;unfold c9
   split at hd<;>simp_all
  cases hg:o.guard with
  |none=>simp only[hg]at h;injection h with h;subst h;exact⟨rfl,rfl,ba,rfl⟩
  |some p=>
   obtain⟨j,want⟩:=p
   simp only[hg]at h
   cases xR:jM ops j with
   |none=>simp[xR]at h
   |some d=>simp only[xR]at h;injection h with h;subst h;exact⟨rfl,rfl,ba,d,xR,rfl⟩
 ·cases h
theorem ij{ops:Array Oper}{ad:Array Bool}(kJ:∀k,k<ops.size->∀j∈aE ops k,j<k)(hs:ad.size=ops.size)(hr:Region.ready .any ops ad=[]):∀k,k<ops.size->ad.getD k false=true:=by
 intro k
 induction k using Nat.strongRecOn with
 |_ k ih=>
  intro hk
  cases hl:ad.getD k false with
  |true=>rfl
  |false=>
   have:k∈Region.ready .any ops ad:=by
    refine mem_ready.2 ⟨?_,ops[k],by simp[hk],fun e he hb=> ?_⟩
    ·simp only[Array.getD_eq_getD_getElem?]at hl|-
     rw[Array.getElem?_eq_getElem (by omega)]at hl|-
     simpa using hl
    ·have hm:e.on∈aE ops k:=by
      simp only[aE,Array.getElem?_eq_getElem hk,List.mem_map,List.mem_filter]
      exact⟨e,⟨Array.mem_toList_iff.2 he,hb⟩,rfl⟩
     exact ih _ (kJ k hk _ hm) (by have:=kJ k hk _ hm;omega)
   rw[hr]at this;cases this
theorem pB(hs:aQ M aZ H0 w0 n cx φ s a w):aQ M aZ H0 w0 n cx φ s a {w with drawn:=w.drawn+1}:=by
 obtain⟨k1,k2⟩:=cY (w':={w with drawn:=w.drawn+1}) hs.heap ⟨rfl,rfl,rfl,Nat.le_refl _,fun _ _ _=>rfl⟩
 exact⟨k1,hs.tr.trans k2,hs.size,hs.defers.mono k2,fun i=>V.ax k2 _ _ (hs.env i)⟩
theorem eH{oc:Nat->aP}{ac:Nat->cJ}{E:Nat->Bool}:∀k,(ck oc ac E s k).nx=s.nx
 |0=>rfl
 |k+1=>by
  simp only[ck]
  split
  ·cases ac k<;>exact eH k
  ·exact eH k
theorem rA{oc:Nat->aP}{ac:Nat->cJ}{E:Nat->Bool}{t:Nat}:∀k,(∀j,j<k->(oc j).dst≠some t)->(ck oc ac E s k).env t=s.env t
 |0,_=>rfl
 |k+1,h=>by
  have ih:=rA (oc:=oc) (ac:=ac) (E:=E) (t:=t) k fun j hj=>h j aN
  simp only[ck]
  split
  ·rw[eK fun d hd e=>h k (by omega) (by rw[hd,e])];exact ih
  ·exact ih
theorem xU{oc:Nat->aP}{ac:Nat->cJ}{E:Nat->Bool}{id:Nat}:∀k,(∀j,j<k->id∉eJ (ac j))->(ck oc ac E s k).o id=s.o id
 |0,_=>rfl
 |k+1,h=>by
  have ih:=xU (oc:=oc) (ac:=ac) (E:=E) (id:=id) k fun j hj=>h j aN
  simp only[ck]
  split
  ·rw[fZ (h k (by omega))];exact ih
  ·exact ih
theorem pC(aD:P.follows .mixedOrders=true){ops:Array Oper}{l:List aP}{id:Nat}(jI:eN n ops ops.toList=some l)(kJ:∀k,k<ops.size->∀j∈aE ops k,j<k){ac:Nat->cJ}{dl wl:List Nat}
 (hs:aQ M aZ H0 w0 n cx φ s a w) (zo:∀i,i<ops.size->xT P (ck (aO l) ac (fun _=>true) s i) (s.nx+i) (aO l i) (ac i))
 (zp:∀i,i<ops.size->ac i= .cM->∃j∈aE ops i,(ac j).ok=false)
 {po:Nat->Nat->Prop} (rB:∀E:Nat->Bool,(∀k,k<ops.size->E k=true->∀j∈aE ops k,E j=true)->∀k,k<ops.size->(∀j∈aE ops k,E j=true)->∀j,po k j->E j=true) (pD:∀k,k<ops.size->∀j,po k j->j<k)
 (hc:∀i j,i<j->j<ops.size-> ¬po j i->Compat (aO l) ac (fun i=>ml (ac i)) i j)
 (Ir:∀i,i<ops.size->∀t,(aO l i).dst=some t->dl.contains t=true) (Jl:∀i,i<ops.size->∀id∈eJ (ac i),wl.contains id=true)
 (wm:∀i v ws rd,i<ops.size->ac i= .aJ v ws rd->∀id∈ws,wl.contains id=true)
 (hQ:(∀i,i<ops.size->(ac i).ok=true)->∀φ a w,aQ M aZ H0 w0 n cx φ ⟨(ck (aO l) ac (fun _=>true) s ops.size).env,(ck (aO l) ac (fun _=>true) s ops.size).o,s.nx+ops.size⟩ a w->Q .normal a w)
 (hX:∀i v ws rd,i<ops.size->ac i= .aJ v ws rd->∀φ a w val,aQ M aZ H0 w0 n cx φ (lC dl wl ops.size s) a w->V.den (ae M φ (lC dl wl ops.size s).H) φ (lC dl wl ops.size s).H w v val->Q (.panic [{v:=val,recovered:=false}]) a w):
 (Code.region id ops true).wpIn (bQ ro) k P Q a w:=by
 refine wpIn_region_any aD ?_
 have hs:=pB hs
 generalize ({w with drawn:=w.drawn+1}:World)=w at hs
 let N:=ops.size
 let Ef (ad:Array Bool) (k:Nat):Bool:=ad.getD k false
 let qX (ad:Array Bool) (j:Nat):Prop:=j<s.nx\/∃k,k<N/\Ef ad k=true/\j=s.nx+k
 have key:∀ (fuel:Nat) (ad:Array Bool) (φ:Place) (a:Act) (w:World),ad.size=N->ad.count true+fuel=N->(∀k,k<N->Ef ad k=true->∀j∈aE ops k,Ef ad j=true)->(∀k,k<N->Ef ad k=true->(ac k).ok=true)->
  kC M aZ H0 w0 n cx φ (ck (aO l) ac (Ef ad) s N) (qX ad) a w->wpAnyIn (bQ ro) k P .any ops Q fuel ad a w:=by
  have fin:∀ (ad:Array Bool) (φ:Place) (a:Act) (w:World),(∀k,k<N->Ef ad k=true)->(∀k,k<N->Ef ad k=true->(ac k).ok=true)->kC M aZ H0 w0 n cx φ (ck (aO l) ac (Ef ad) s N) (qX ad) a w->Q .normal a w:=by
   intro ad φ a w aV qH hu
   have e:∀k,k<=N->ck (aO l) ac (Ef ad) s k=ck (aO l) ac (fun _=>true) s k:=by
    intro k
    induction k with
    |zero=>intro _;rfl
    |succ k ih=>intro hk;simp only[ck,aV k (by omega),ih (by omega)]
   rw[e N (Nat.le_refl _)]at hu
   obtain⟨k1,k2⟩:=eo (us':=fun id=>id<s.nx+N) hu.heap (fun id h=>by
    show id<s.nx+N
    rcases h with h|⟨k,hk,_,rfl⟩<;>omega)
   exact hQ (fun i hi=>qH i hi (aV i hi)) φ a w ⟨k1,hu.tr.trans k2,hu.size,hu.defers.mono k2,fun i=>V.ax k2 _ _ (hu.env i)⟩
  intro fuel
  induction fuel with
  |zero=>
   intro ad φ a w cg sR ku qH hu
   have aV:∀k,k<N->Ef ad k=true:=by
    intro k hk
    have h1:ad.count true=ad.size:=aN
    rw[Array.count_eq_size]at h1
    have:=h1 ad[k] (Array.getElem_mem aN)
    simp only[Ef,Array.getD_eq_getD_getElem?]
    rw[Array.getElem?_eq_getElem (by omega)]
    simpa using this.symm
   refine⟨?_,fin ad φ a w aV qH hu⟩
   rw[List.eq_nil_iff_forall_not_mem]
   intro k hk
   obtain⟨h1,o,h2,_⟩:=mem_ready.1 hk
   have Nc:k<N:=(Array.getElem?_eq_some_iff.1 h2).1
   have:=aV k Nc
   simp only[Ef,Array.getD_eq_getD_getElem?]at this h1
   rw[Array.getElem?_eq_getElem (by omega)]at this h1
   simp only[Option.getD_some]at this h1
   rw[this]at h1;cases h1
  |succ fuel ih=>
   intro ad φ a w cg sR ku qH hu
   refine⟨fun hr=>fin ad φ a w (ij kJ cg hr) qH hu,fun i hi=> ?_⟩
   obtain⟨h1,o,h2,h3⟩:=mem_ready.1 hi
   have kD:i<N:=(Array.getElem?_eq_some_iff.1 h2).1
   have fF:Ef ad i=false:=by
    simp only[Ef,Array.getD_eq_getD_getElem?]at h1|-
    rw[Array.getElem?_eq_getElem (by omega)]at h1|-
    simpa using h1
   have uo:∀j∈aE ops i,Ef ad j=true:=by
    exact Ig
   have ur:nY N po (Ef ad):=fun k hk dK=>rB _ ku k hk (ku k hk dK)
   obtain⟨DD,Ii⟩:=agree (s:=s) pD hc ur kD fF (rB _ ku i kD uo)
   obtain⟨g1,g2,g3,g4⟩:=mZ (lE _ _ i o jI r8)
   have cq: ¬qX ad (s.nx+i):=by
    rintro(h|⟨k,_,hk,he⟩)
    ·omega
    ·have:k=i:=aN
     subst this;rw[fF]at hk;cases hk
   have qG:∀k,Ef (ad.setIfInBounds i true) k=(Ef ad k||k==i):=by
    intro k
    simp only[Ef,Array.getD_eq_getD_getElem?]
    by_cases e:k=i
    ·subst e;simp[cg,kD]
    ·rw[Array.getElem?_setIfInBounds_ne (Ne.symm e)]
     have:(k==i)=false:=by simpa using e
     simp[this]
   have zq:=insert (s:=s) hc ur kD fF qG
   have zr:∀k,k<N->Ef (ad.setIfInBounds i true) k=true->∀j∈aE ops k,Ef (ad.setIfInBounds i true) j=true:=by
    intro k hk dK j hj
    rw[qG]at dK|-
    by_cases e:k=i
    ·subst e;simp[uo j hj]
    ·have:(k==i)=false:=by simpa using e
     rw[this,Bool.or_false]at dK
     simp[ku k hk dK j hj]
   have uu:(ad.setIfInBounds i true).count true+fuel=N:=by
    have cm:i<ad.size:=aN
    have e1:ad.setIfInBounds i true=ad.set i true cm:=by simp[Array.setIfInBounds,cm]
    have e2:ad[i]=false:=by
     have:=fF
     simp only[Ef,Array.getD_eq_getD_getElem?]at this
     rw[Array.getElem?_eq_getElem cm]at this
     simpa using this
    rw[e1,Array.count_set cm,e2]
    simp
    omega
   have fH:(ac i).ok=true->∀ao a' w',kC M aZ H0 w0 n cx ao (l6 o.dst (ac i) (ck (aO l) ac (Ef ad) s N)) (fun id=>qX ad id\/id=s.nx+i) a' w'->wpAnyIn (bQ ro) k P .any ops Q fuel (ad.setIfInBounds i true) a' w':=by
    intro DE ao a' w' ov
    refine ih _ ao a' w' (by simp[cg]) uu zr (fun k hk dK=> ?_) ?_
    ·rw[qG]at dK
     by_cases e:k=i
     ·subst e;exact DE
     ·have:(k==i)=false:=by simpa using e
      rw[this,Bool.or_false]at dK
      exact qH k hk dK
    rw[zq,g2]
    obtain⟨k1,k2⟩:=eo (us':=qX (ad.setIfInBounds i true)) ov.heap (fun id h=>by
     rcases h with(h|⟨k,hk,dK,rfl⟩)|rfl
     ·exact .inl h
     ·exact .inr ⟨k,hk,by rw[qG,dK];rfl,rfl⟩
     ·exact .inr ⟨i,kD,by rw[qG];simp,rfl⟩)
    exact Cp
   have sS:∀d want,(aO l i).gd=some (d,want)->(ck (aO l) ac (Ef ad) s N).env d=(ck (aO l) ac (fun _=>true) s i).env d:=fun d want hd=>DD d (by simp[cF,tmpsOf,hd])
   have aI:=zo i kD
   have tn:∀x∈(aO l i).op.operands,(ck (aO l) ac (Ef ad) s N).ev x=(ck (aO l) ac (fun _=>true) s i).ev x:=fun x hx=>pz fun t ht=>DD t (by
    subst ht
    simp only[cF,tmpsOf,List.mem_append,List.mem_filterMap]
    exact .inl (.inl ⟨.tmp t,Array.mem_toList_iff.2 hx,rfl⟩))
   have y0:(ck (aO l) ac (Ef ad) s N).nx=(ck (aO l) ac (fun _=>true) s i).nx:=(eH N).trans (eH i).symm
   unfold wpOpIn
   simp only[h2]
   cases l4:ac i with
   |skip=>
    rw[l4]at aI fH
    have hw:=cP hu.env g4 (cQ sS aI)
    simp only[hw,Bool.false_eq_true,if_false]
    refine⟨fun _ _=>trivial,fH rfl φ _ w ?_⟩
    have:=dX (v:= .a7 []) (val:=undef) hu hu.heap (Trans.refl _ _ _) ⟨#[],rfl,rfl⟩ (dst:=o.dst) g3 rfl (us':=fun id=>qX ad id\/id=s.nx+i) (fun id h=> .inl h)
    exact this
   |val v Δ rd=>
    rw[l4]at aI fH
    have hw:=cP hu.env g4 (cQ sS aI.1)
    exact CJ
   |aJ v ws rd=>
    rw[l4]at aI
    have hw:=cP hu.env g4 (cQ sS aI.1)
    simp only[hw,if_true]
    have jq:=pA tn (fun id aj=>Ii id (by rw[l4];exact aj)) y0 aI.2
    refine uq (s0:=s) (ds:=dl) (wl:=wl) (N:=N) hu (fun id h=> .inl (by rw[eH]at h;exact h)) (fun id h=> ?_) g1.symm jq (fun t ht=> ?_) (fun id aj=> ?_) (wm i v ws rd kD l4) (eH N).symm (fun ao w' val h1 h2=>hX i v ws rd kD l4 ao a w' val h1 h2)
    ·rw[eH]
     rcases h with h|⟨k,hk,_,rfl⟩<;>omega
    ·refine rA N fun j hj e=> ?_
     have:=Ir j hj t e
     rw[ht]at this;cases this
    ·refine xU N fun j hj hm=> ?_
     have:=Jl j hj id hm
     rw[aj]at this;cases this
   |cM=>
    exfalso
    obtain⟨j,hj,zu⟩:=zp i kD l4
    have:=qH j (Nat.lt_trans (kJ i kD j hj) kD) (uo j hj)
    rw[zu]at this;cases this
 refine key ops.size _ φ a w (by simp[N]) (by simp[N,Array.count_replicate]) (fun k hk dK=> ?_) (fun k hk dK=> ?_) ?_
 ·exact Hr
 ·exact Hr
 ·have e:∀k,ck (aO l) ac (Ef (Array.replicate ops.size false)) s k=s:=by
   intro k
   induction k with
   |zero=>rfl
   |succ k ih=>
    have:Ef (Array.replicate ops.size false) k=false:=by
     exact C1
    simp only[ck,this,ih]
    rfl
  exact CO
end
end
section
section
variable {P:Program}{M:Nat->Prop}{φ aZ:Place}{H0:Hp}{w w' w0:World}{n:Nat}{s:S}{us:Nat->Prop}{a:Act}{cx:Cx}{ro:Option Nat}{k:Nat}
variable {Q:Exit->Act->World->Prop}
theorem sT{ops:Array Oper}{po:Nat->Nat->Prop}{m:Nat}{X:V->S->Prop}{K:S->Prop}
 (kJ:∀k,k<ops.size->∀j∈aE ops k,j<k)
 (rB:∀E:Nat->Bool,(∀k,k<ops.size->E k=true->∀j∈aE ops k,E j=true)->∀k,k<ops.size->(∀j∈aE ops k,E j=true)->∀j,po k j->E j=true)
 (rC:∀k,m<=k->k<ops.size->∀j,j<k->po k j)
 (hK:∀s φ a w,K s->aQ M aZ H0 w0 n cx φ s a w->Q .normal a w)
 (hX:∀v s' ao a' w' val,X v s'->aQ M aZ H0 w0 n cx ao s' a' w'->V.den (ae M ao s'.H) ao s'.H w' v val->Q (.panic [{v:=val,recovered:=false}]) a' w'):
 ∀ (d t:Nat) (s:S) (φ:Place) (ad:Array Bool) (a:Act) (w:World),t+d=ops.size->ad.size=ops.size->(∀k,k<ops.size->ad.getD k false=decide (k<t))->m<=t->
   aQ M aZ H0 w0 n cx φ s a w->nE P n ops X K (ops.toList.drop t) s->wpAnyIn (bQ ro) k P .any ops Q d ad a w:=by
 intro d
 induction d with
 |zero=>
  intro t s φ ad a w ht cg hl te hs h
  have e:t=ops.size:=aN
  subst e
  refine⟨?_, ?_⟩
  ·rw[List.eq_nil_iff_forall_not_mem]
   intro j hj
   obtain⟨h1,o,h2,_⟩:=mem_ready.1 hj
   have Ln:j<ops.size:=(Array.getElem?_eq_some_iff.1 h2).1
   have:=hl j Ln
   simp only[Array.getD_eq_getD_getElem?]at this h1
   rw[Array.getElem?_eq_getElem (by omega)]at this h1
   simp only[Option.getD_some]at this h1
   rw[h1]at this
   simp[Ln]at this
  ·rw[List.drop_eq_nil_of_le (by simp)]at h
   exact hK s φ a w h hs
 |succ d ih=>
  intro t s φ ad a w ht cg hl te hs h
  have Jn:t<ops.size:=aN
  refine⟨fun hr=> ?_,fun i hi=> ?_⟩
  ·have:=ij kJ cg hr t Jn
   rw[hl t Jn]at this
   simp at this
  ·obtain⟨h1,o,h2,h3⟩:=mem_ready.1 hi
   have kD:i<ops.size:=(Array.getElem?_eq_some_iff.1 h2).1
   have fF:ad.getD i false=false:=by
    simp only[Array.getD_eq_getD_getElem?]at h1|-
    rw[Array.getElem?_eq_getElem (by omega)]at h1|-
    simpa using h1
   have Nd:t<=i:=by
    have:=hl i kD
    rw[fF]at this
    have:=of_decide_eq_false this.symm
    omega
   have uo:∀j∈aE ops i,ad.getD j false=true:=by
    exact Ig
   have ku:∀k,k<ops.size->ad.getD k false=true->∀j∈aE ops k,ad.getD j false=true:=by
    intro k hk dK j hj
    have C7:=kJ k hk j hj
    rw[hl k hk]at dK
    rw[hl j (by omega)]
    have:=of_decide_eq_true dK
    exact decide_eq_true aN
   have IK:i=t:=by
    rcases Nat.eq_or_lt_of_le Nd with e|e
    ·exact e.symm
    ·have:=rB (fun k=>ad.getD k false) ku i kD uo t (rC i aN kD t e)
     rw[hl t Jn]at this
     simp at this
   subst IK
   have DF:ops.toList.drop i=o::ops.toList.drop (i+1):=by
    have zd:i<ops.toList.length:=by simpa using kD
    rw[List.drop_eq_getElem_cons zd]
    have:ops.toList[i]=o:=by
     have:=(Array.getElem?_eq_some_iff.1 h2).2
     simpa using this
    rw[this]
   rw[DF]at h
   obtain⟨g1,g2⟩:=iV hs h
   have Dk:∀k,k<ops.size->(ad.setIfInBounds i true).getD k false=decide (k<i+1):=by
    intro k hk
    simp only[Array.getD_eq_getD_getElem?]
    by_cases e:k=i
    ·subst e;simp[cg,kD]
    ·rw[Array.getElem?_setIfInBounds_ne (Ne.symm e)]
     have:=hl k hk
     simp only[Array.getD_eq_getD_getElem?]at this
     rw[this]
     exact decide_eq_decide.2 aN
   have fH:∀s' ao a' w',nE P n ops X K (ops.toList.drop (i+1)) s'->aQ M aZ H0 w0 n cx ao s' a' w'->wpAnyIn (bQ ro) k P .any ops Q d (ad.setIfInBounds i true) a' w':=
    fun s' ao a' w' hk eM=>ih (i+1) s' ao _ a' w' aN (by simp[cg]) Dk aN eM hk
   unfold wpOpIn
   simp only[h2]
   split
   ·rename_i hw
    exact mN hs (g1 hw) (fun s' ao a' w' hk eM=>fH s' ao a' w' hk eM) (fun v s' ao w' val hx eM hd=>hX v s' ao a w' val hx eM hd)
   ·rename_i hw
    obtain⟨ba,h3⟩:=g2 (by simpa using hw)
    exact⟨fun _ _=>trivial,fH _ _ _ _ h3 (pg hs ba)⟩
theorem qI(aD:P.follows .mixedOrders=true){ops:Array Oper}{l:List aP}{id:Nat}(jI:eN n ops ops.toList=some l)(kJ:∀k,k<ops.size->∀j∈aE ops k,j<k){ac:Nat->cJ}{m:Nat}(hm:m<=ops.size){X:V->S->Prop}{K:S->Prop}
 (hs:aQ M aZ H0 w0 n cx φ s a w) (zo:∀i,i<m->xT P (ck (aO l) ac (fun _=>true) s i) (s.nx+i) (aO l i) (ac i))
 (DG:∀i,i<m->(ac i).ok=true)
 {po:Nat->Nat->Prop} (rB:∀E:Nat->Bool,(∀k,k<ops.size->E k=true->∀j∈aE ops k,E j=true)->∀k,k<ops.size->(∀j∈aE ops k,E j=true)->∀j,po k j->E j=true) (pD:∀k,k<ops.size->∀j,po k j->j<k)
 (hc:∀i j,i<j->j<m-> ¬po j i->Compat (aO l) ac (fun i=>ml (ac i)) i j)
 (rC:∀k,m<=k->k<ops.size->∀j,j<k->po k j)
 (lr:nE P n ops X K (ops.toList.drop m) ⟨(ck (aO l) ac (fun _=>true) s m).env,(ck (aO l) ac (fun _=>true) s m).o,s.nx+m⟩)
 (hK:∀s φ a w,K s->aQ M aZ H0 w0 n cx φ s a w->Q .normal a w)
 (hX:∀v s' ao a' w' val,X v s'->aQ M aZ H0 w0 n cx ao s' a' w'->V.den (ae M ao s'.H) ao s'.H w' v val->Q (.panic [{v:=val,recovered:=false}]) a' w'):
 (Code.region id ops true).wpIn (bQ ro) k P Q a w:=by
 refine wpIn_region_any aD ?_
 have hs:=pB hs
 generalize ({w with drawn:=w.drawn+1}:World)=w at hs
 let N:=m
 let Ef (ad:Array Bool) (k:Nat):Bool:=ad.getD k false
 let qX (ad:Array Bool) (j:Nat):Prop:=j<s.nx\/∃k,k<N/\Ef ad k=true/\j=s.nx+k
 have key:∀ (fuel:Nat) (ad:Array Bool) (φ:Place) (a:Act) (w:World),ad.size=ops.size->ad.count true+fuel=ops.size->(∀k,k<ops.size->Ef ad k=true->∀j∈aE ops k,Ef ad j=true)->(∀k,k<ops.size->Ef ad k=true->k<m)->
  kC M aZ H0 w0 n cx φ (ck (aO l) ac (Ef ad) s N) (qX ad) a w->wpAnyIn (bQ ro) k P .any ops Q fuel ad a w:=by
  have fin:∀ (fuel:Nat) (ad:Array Bool) (φ:Place) (a:Act) (w:World),ad.size=ops.size->ad.count true+fuel=ops.size->(∀k,k<ops.size->Ef ad k=true->k<m)->(∀k,k<N->Ef ad k=true)->kC M aZ H0 w0 n cx φ (ck (aO l) ac (Ef ad) s N) (qX ad) a w->wpAnyIn (bQ ro) k P .any ops Q fuel ad a w:=by
   intro fuel ad φ a w cg sR cm aV hu
   have e:∀k,k<=N->ck (aO l) ac (Ef ad) s k=ck (aO l) ac (fun _=>true) s k:=by
    intro k
    induction k with
    |zero=>intro _;rfl
    |succ k ih=>intro hk;simp only[ck,aV k (by omega),ih (by omega)]
   rw[e N (Nat.le_refl _)]at hu
   obtain⟨k1,k2⟩:=eo (us':=fun id=>id<s.nx+N) hu.heap (fun id h=>by
    show id<s.nx+N
    rcases h with h|⟨k,hk,_,rfl⟩<;>omega)
   have Jo:∀k,k<ops.size->ad.getD k false=decide (k<m):=by
    intro k hk
    by_cases h:k<m
    ·rw[decide_eq_true h];exact aV k h
    ·rw[decide_eq_false h]
     cases hb:ad.getD k false with
     |false=>rfl
     |true=>exact absurd (cm k hk hb) h
   have NH:ad.count true=m:=by
    have e1:ad=Array.ofFn (n:=ops.size) fun k=>decide (k.1<m):=by
     apply Array.ext
     ·simp[cg]
     ·intro k h1 h2
      have:=Jo k aN
      simp only[Array.getD_eq_getD_getElem?]at this
      rw[Array.getElem?_eq_getElem h1]at this
      simpa using this
    have e2:ad.toList=List.replicate m true++List.replicate (ops.size - m) false:=by
     apply List.ext_getElem?
     intro k
     by_cases hk:k<ops.size
     ·have h1:ad.toList[k]? =some (decide (k<m)):=by
       have:=Jo k hk
       simp only[Array.getD_eq_getD_getElem?]at this
       rw[Array.getElem?_eq_getElem (by omega)]at this
       simp only[Option.getD_some]at this
       rw[Array.getElem?_toList,Array.getElem?_eq_getElem (by omega),this]
      rw[h1]
      by_cases h:k<m
      ·rw[List.getElem?_append_left (by simpa using h)]
       simp[h]
      ·rw[List.getElem?_append_right (by simpa using(by omega:m<=k))]
       rw[List.length_replicate,List.getElem?_replicate,if_pos (by omega),decide_eq_false h]
     ·rw[List.getElem?_eq_none (by simp[cg];omega),List.getElem?_eq_none (by simp;omega)]
    rw[<- Array.count_toList,e2,List.count_append,List.count_replicate_self,List.count_replicate]
    simp
   exact sT kJ rB rC hK hX fuel m ⟨(ck (aO l) ac (fun _=>true) s m).env,(ck (aO l) ac (fun _=>true) s m).o,s.nx+m⟩ φ ad a w aN cg Jo (Nat.le_refl _) ⟨k1,hu.tr.trans k2,hu.size,hu.defers.mono k2,fun i=>V.ax k2 _ _ (hu.env i)⟩ lr
  intro fuel
  induction fuel with
  |zero=>
   intro ad φ a w cg sR ku cm hu
   have aV:∀k,k<ops.size->Ef ad k=true:=by
    intro k hk
    have h1:ad.count true=ad.size:=aN
    rw[Array.count_eq_size]at h1
    have:=h1 ad[k] (Array.getElem_mem aN)
    simp only[Ef,Array.getD_eq_getD_getElem?]
    rw[Array.getElem?_eq_getElem (by omega)]
    simpa using this.symm
   exact fin 0 ad φ a w cg sR cm (fun k hk=>aV k aN) hu
  |succ fuel ih=>
   intro ad φ a w cg sR ku cm hu
   by_cases xV:∀k,k<m->Ef ad k=true
   ·exact fin (fuel+1) ad φ a w cg sR cm xV hu
   have hex:∃j,j<m/\Ef ad j=false:=by
    apply Classical.byContradiction
    intro y9
    refine xV fun k hk=> ?_
    cases hb:Ef ad k with
    |true=>rfl
    |false=>exact absurd ⟨k,hk,hb⟩ y9
   obtain⟨j0,NI,DH⟩:=hex
   refine⟨fun hr=> ?_,fun i hi=> ?_⟩
   ·have:=ij kJ cg hr j0 aN
    rw[show ad.getD j0 false=false from DH]at this
    cases this
   obtain⟨h1,o,h2,h3⟩:=mem_ready.1 hi
   have Jp:i<ops.size:=(Array.getElem?_eq_some_iff.1 h2).1
   have fF:Ef ad i=false:=by
    simp only[Ef,Array.getD_eq_getD_getElem?]at h1|-
    rw[Array.getElem?_eq_getElem (by omega)]at h1|-
    simpa using h1
   have uo:∀j∈aE ops i,Ef ad j=true:=by
    exact Ig
   have kD:i<N:=by
    apply Classical.byContradiction
    intro rb
    have rb:m<=i:=Nat.le_of_not_lt rb
    have:=rB _ ku i Jp uo j0 (rC i rb Jp j0 aN)
    rw[DH]at this;cases this
   have ur:nY N po (Ef ad):=fun k hk dK=>rB _ ku k aN (ku k aN dK)
   obtain⟨DD,Ii⟩:=agree (s:=s) (n:=N) (fun k hk=>pD k aN) hc ur kD fF (rB _ ku i aN uo)
   obtain⟨g1,g2,g3,g4⟩:=mZ (lE _ _ i o jI r8)
   have cq: ¬qX ad (s.nx+i):=by
    rintro(h|⟨k,_,hk,he⟩)
    ·omega
    ·have:k=i:=aN
     subst this;rw[fF]at hk;cases hk
   have qG:∀k,Ef (ad.setIfInBounds i true) k=(Ef ad k||k==i):=by
    intro k
    simp only[Ef,Array.getD_eq_getD_getElem?]
    by_cases e:k=i
    ·subst e;simp[cg,Jp]
    ·rw[Array.getElem?_setIfInBounds_ne (Ne.symm e)]
     have:(k==i)=false:=by simpa using e
     simp[this]
   have zq:=insert (s:=s) hc ur kD fF qG
   have zr:∀k,k<ops.size->Ef (ad.setIfInBounds i true) k=true->∀j∈aE ops k,Ef (ad.setIfInBounds i true) j=true:=by
    intro k hk dK j hj
    rw[qG]at dK|-
    by_cases e:k=i
    ·subst e;simp[uo j hj]
    ·have:(k==i)=false:=by simpa using e
     rw[this,Bool.or_false]at dK
     simp[ku k hk dK j hj]
   have uu:(ad.setIfInBounds i true).count true+fuel=ops.size:=by
    have cm:i<ad.size:=aN
    have e1:ad.setIfInBounds i true=ad.set i true cm:=by simp[Array.setIfInBounds,cm]
    have e2:ad[i]=false:=by
     have:=fF
     simp only[Ef,Array.getD_eq_getD_getElem?]at this
     rw[Array.getElem?_eq_getElem cm]at this
     simpa using this
    rw[e1,Array.count_set cm,e2]
    simp
    omega
   have fH:(ac i).ok=true->∀ao a' w',kC M aZ H0 w0 n cx ao (l6 o.dst (ac i) (ck (aO l) ac (Ef ad) s N)) (fun id=>qX ad id\/id=s.nx+i) a' w'->wpAnyIn (bQ ro) k P .any ops Q fuel (ad.setIfInBounds i true) a' w':=by
    intro DE ao a' w' ov
    refine ih _ ao a' w' (by simp[cg]) uu zr (fun k hk dK=> ?_) ?_
    ·rw[qG]at dK
     by_cases e:k=i
     ·subst e;exact kD
     ·have:(k==i)=false:=by simpa using e
      rw[this,Bool.or_false]at dK
      exact cm k hk dK
    rw[zq,g2]
    obtain⟨k1,k2⟩:=eo (us':=qX (ad.setIfInBounds i true)) ov.heap (fun id h=>by
     rcases h with(h|⟨k,hk,dK,rfl⟩)|rfl
     ·exact .inl h
     ·exact .inr ⟨k,hk,by rw[qG,dK];rfl,rfl⟩
     ·exact .inr ⟨i,kD,by rw[qG];simp,rfl⟩)
    exact Cp
   have sS:∀d want,(aO l i).gd=some (d,want)->(ck (aO l) ac (Ef ad) s N).env d=(ck (aO l) ac (fun _=>true) s i).env d:=fun d want hd=>DD d (by simp[cF,tmpsOf,hd])
   have aI:=zo i kD
   have tn:∀x∈(aO l i).op.operands,(ck (aO l) ac (Ef ad) s N).ev x=(ck (aO l) ac (fun _=>true) s i).ev x:=fun x hx=>pz fun t ht=>DD t (by
    subst ht
    simp only[cF,tmpsOf,List.mem_append,List.mem_filterMap]
    exact .inl (.inl ⟨.tmp t,Array.mem_toList_iff.2 hx,rfl⟩))
   have y0:(ck (aO l) ac (Ef ad) s N).nx=(ck (aO l) ac (fun _=>true) s i).nx:=(eH N).trans (eH i).symm
   unfold wpOpIn
   simp only[h2]
   cases l4:ac i with
   |skip=>
    rw[l4]at aI fH
    have hw:=cP hu.env g4 (cQ sS aI)
    simp only[hw,Bool.false_eq_true,if_false]
    refine⟨fun _ _=>trivial,fH rfl φ _ w ?_⟩
    have:=dX (v:= .a7 []) (val:=undef) hu hu.heap (Trans.refl _ _ _) ⟨#[],rfl,rfl⟩ (dst:=o.dst) g3 rfl (us':=fun id=>qX ad id\/id=s.nx+i) (fun id h=> .inl h)
    exact this
   |val v Δ rd=>
    rw[l4]at aI fH
    have hw:=cP hu.env g4 (cQ sS aI.1)
    exact CJ
   |aJ v ws rd=>
    have:=DG i kD
    rw[l4]at this;cases this
   |cM=>
    have:=DG i kD
    rw[l4]at this;cases this
 refine key ops.size _ φ a w aU (by simp[Array.count_replicate]) (fun k hk dK=> ?_) (fun k hk dK=> ?_) ?_
 ·exact Hr
 ·exact Hr
 ·have e:∀k,ck (aO l) ac (Ef (Array.replicate ops.size false)) s k=s:=by
   intro k
   induction k with
   |zero=>rfl
   |succ k ih=>
    have:Ef (Array.replicate ops.size false) k=false:=by
     exact C1
    simp only[ck,this,ih]
    rfl
  exact CO
end
end
end Go.Proofs.YtlhemmpklhhgoaaGreat
