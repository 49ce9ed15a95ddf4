/-
  A PART OF THE PROOF. Conditions: none.
-/
import Derived.OrdersIn
import Derived.Test.YtlhemmpklhhgoaaGreatQu7
set_option linter.unusedSimpArgs false
set_option linter.unusedVariables false
namespace Go.Proofs.YtlhemmpklhhgoaaGreat
section
def ad.refs:ad->List Nat
 | .row cs=>V.aK cs
 | .loop _ _ env _ _ _ _ _=>V.aK env
 |_=>[]
def El(R:List Nat)(o:Nat->ad):Nat->ad:=fun id=>if R.contains id=true then o id else .no
def AY(P:Program)(g:FuncId)(args:List V)(rd:List Nat)(o:Nat->ad)(out:R)(Δ:List (Nat×ad)):Prop:=
 Enters P g/\∀ (o':Nat->ad) (us:Nat->Prop) (M:Nat->Prop) (φ:Place) (w:World) (vals:Array Value),(∀id∈rd,o' id=o id/\us id)->az M φ ⟨o',us⟩ w->V.aC (ak M φ ⟨o',us⟩) φ ⟨o',us⟩ w args vals.toList->
  Calls P g vals w fun e w'=>∃aF,az M aF ⟨put o' Δ,us⟩ w'/\Trans φ ⟨o',us⟩ w aF ⟨put o' Δ,us⟩ w'/\out.is (ak M aF ⟨put o' Δ,us⟩) w' e
def AZ(P:Program)(g:FuncId)(args:List V)(rd:List Nat)(o:Nat->ad)(fr:Nat)(v:V)(Δ:List (Nat×ad)):Prop:=
 Enters P g/\∀ (o':Nat->ad) (us:Nat->Prop) (M:Nat->Prop) (φ:Place) (w:World) (vals:Array Value),(∀id∈rd,o' id=o id/\us id)-> ¬us fr->az M φ ⟨o',us⟩ w->V.aC (ak M φ ⟨o',us⟩) φ ⟨o',us⟩ w args vals.toList->
  Calls P g vals w fun e w'=>∃aF,az M aF ⟨put o' Δ,fun id=>us id\/id=fr⟩ w'/\Trans φ ⟨o',us⟩ w aF ⟨put o' Δ,fun id=>us id\/id=fr⟩ w'/\∃val,e= .returned val/\V.den (ak M aF ⟨put o' Δ,fun id=>us id\/id=fr⟩) aF ⟨put o' Δ,fun id=>us id\/id=fr⟩ w' v val
mutual
theorem V.nk {B B':Nat->Prop}{φ aF:Place}{H H':Hp}{w:World}(hB:∀b, ¬B b-> ¬B' b):∀ (v:V) (val:Value),(∀id∈v.refs,H'.o id=H.o id/\aF id=φ id/\H'.us id)->V.den B φ H w v val->V.den B' aF H' w v val
 | .d x,val,_,h=>D.aS (w:=w) (w':=w) (fun b _ hn=>⟨rfl,hB b hn⟩) x val h
 | .aq,_,_,h=>h
 | .aa,_,_,_=>trivial
 | .fw,_,_,h=>h
 | .oM es,val,_,h=>⟨D.aS (w:=w) (w':=w) (fun b _ hn=>⟨rfl,hB b hn⟩) (.sl es) val h.1,h.2⟩
 | .agg cs,val,hr,h=>by
   obtain⟨a,rfl,h1,h2⟩:=h
   exact⟨a,rfl,V.gf hB cs _ xn h1,h2⟩
 | .bP cs,val,hr,h=>by
   obtain⟨a,rfl,h1⟩:=h
   exact⟨a,rfl,V.gf hB cs _ xn h1⟩
 | .ptr id off,val,hr,h=>by
   exact zw6
 | .osl id ep,val,hr,h=>by
   obtain⟨a,b,c⟩:=hr id rD
   obtain⟨h0,h1,h2⟩:=h
   refine⟨h0,c,fun e he=> ?_⟩
   rw[a]at he
   obtain⟨x,y⟩:=h2 e he
   exact⟨x,fun heq=>(y heq).trans b.symm⟩
 | .pe id ep i sz off,val,hr,h=>by
   obtain⟨a,b,c⟩:=hr id rD
   obtain⟨h0,h1,h2⟩:=h
   refine⟨h0,c,fun e he=> ?_⟩
   rw[a]at he
   obtain⟨x,y⟩:=h2 e he
   exact Qx
 | .pp cs off,val,_,h=>by
   obtain⟨a,ev,h1,h2,h3,h5,h4⟩:=h
   exact YK
 | .func fn first cap,val,hr,h=>by
   obtain⟨f,c,rfl,h1,h2⟩:=h
   exact⟨f,c,rfl,V.gf hB first _ (fun id ax=>hr id (by simp[V.refs,ax])) h1,V.gf hB cap _ (fun id ax=>hr id (by simp[V.refs,ax])) h2⟩
 | .iface t x,val,hr,h=>by
   obtain⟨u,rfl,h⟩:=h
   exact⟨u,rfl,V.nk hB x u xn h⟩
 | .xz id off n,val,hr,h=>by
   exact zw6
 | .mp id,val,hr,h=>by
   obtain⟨a,b,c⟩:=hr id rD
   obtain⟨h0,h1,h2⟩:=h
   refine⟨h0,c,fun cZ=> ?_⟩
   rw[a]at cZ
   exact(h2 cZ).trans b.symm
 | .j7 id,val,hr,h=>by
   exact zw6
theorem V.gf {B B':Nat->Prop}{φ aF:Place}{H H':Hp}{w:World}(hB:∀b, ¬B b-> ¬B' b):∀ (vs:List V) (vals:List Value),(∀id∈V.aK vs,H'.o id=H.o id/\aF id=φ id/\H'.us id)->V.aC B φ H w vs vals->V.aC B' aF H' w vs vals
 |[],_,_,h=>h
 |v::vs,_,hr,h=>by
  obtain⟨u,us,rfl,h1,h2⟩:=h
  exact⟨u,us,rfl,V.nk hB v u (fun id ax=>hr id (by simp[V.aK,ax])) h1,V.gf hB vs us (fun id ax=>hr id (by simp[V.aK,ax])) h2⟩
end
theorem Ii{env:List V}{i id:Nat}(h:id∈(aY env i).refs):id∈V.aK env:=by
 unfold aY at h
 induction env generalizing i with
 |nil=>simp[V.refs]at h
 |cons v env ih=>
  cases i with
  |zero=>simp only[List.getD_cons_zero]at h;simp[V.aK,h]
  |succ i=>simp only[List.getD_cons_succ]at h;simp[V.aK,ih h]
theorem aR.refs {M M':Nat->Prop}{φ aF:Place}{H H':Hp}{w:World}{id:Nat}(hB:∀b, ¬ak M φ H b-> ¬ak M' aF H' b)(ho:H'.o id=H.o id)(eM:aF id=φ id)
 (hr:∀j∈(H.o id).refs,H'.o j=H.o j/\aF j=φ j/\H'.us j) (h:aR M φ H w id):aR M' aF H' w id:=by
 have hd:∀b,c8 w b-> ¬ak M φ H b->w.heap[b]? =w.heap[b]? /\ ¬ak M' aF H' b:=fun b _ hn=>⟨rfl,hB b hn⟩
 unfold aR at*
 rw[ho]
 cases hx:H.o id with
 |no=>trivial
 |row cs=>
  simp only[hx]at h|-
  obtain⟨b,dU,ty,h1,h2,h3,h4⟩:=h
  exact⟨b,dU,ty,eM.trans h1,h2,V.gf hB cs _ (fun j hj=>hr j (by rw[hx];exact hj)) h3,h4⟩
 |arr ep ty sz es=>
  simp only[hx]at h|-
  obtain⟨h0,xs,h1,evs,h2,h3,h4⟩:=h
  exact⟨h0,xs,by rw[eM];exact h1,evs,h2,h3,D.aT hd es evs h4⟩
 |tP ep es=>
  simp only[hx]at h|-
  rw[eM]
  exact D.aS hd (.sl es) _ h
 |map kt vt l=>
  simp only[hx]at h|-
  obtain⟨b,es,clock,h1,h2,h4,h3⟩:=h
  exact⟨b,es,clock,eM.trans h1,h2,h4,aI.mono hd l _ h3⟩
 |b8 l=>
  simp only[hx]at h|-
  rw[eM]
  exact kD.mono hd h
 |rq l last=>
  simp only[hx]at h|-
  obtain⟨b,h1,h2⟩:=h
  exact⟨b,eM.trans h1,h2.mono hd rfl⟩
 |yX s pos=>
  simp only[hx]at h|-
  obtain⟨b,h1,h2⟩:=h
  exact⟨b,eM.trans h1,h2⟩
 |loop nf n env ps jv e9 st HE=>
  simp only[hx]at h|-
  obtain⟨b,r,h1,h2,h0,h3,h4,h5,h6,h7,h8,h9⟩:=h
  exact⟨b,r,eM.trans h1,h2,h0,h3,h4,h5,h6,h7,h8,fun i=>V.nk hB _ _ (fun j hj=>hr j (by rw[hx];exact Ii hj)) (h9 i)⟩
section
variable {P:Program}
theorem Em{o o':Nat->ad}{Δ:List (Nat×ad)}{id:Nat}(h:o id=o' id):put o Δ id=put o' Δ id:=Gc h
where Gc {o o':Nat->ad}:∀ {Δ:List (Nat×ad)} {id:Nat},o id=o' id->put o Δ id=put o' Δ id
 |[],_,h=>h
 |x::Δ,id,h=>by
  simp only[put,List.foldl_cons]
  refine Gc (Δ:=Δ) (o:=ay o x.1 x.2) (o':=ay o' x.1 x.2) ?_
  simp only[aL]
  split
  ·rfl
  ·exact h
theorem zL{o:Nat->ad}:∀ {Δ:List (Nat×ad)} {id:Nat},(∀x∈Δ,x.1≠id)->put o Δ id=o id
 |[],_,_=>rfl
 |x::Δ,id,h=>by
  have:=zL (o:=ay o x.1 x.2) (Δ:=Δ) (id:=id) (fun y hy=>h y kQ)
  simp only[put,List.foldl_cons]at this|-
  rw[this];simp[Ne.symm (h x (by simp))]
theorem AY.kF {g:FuncId}{args:List V}{rd:List Nat}{o:Nat->ad}{nx:Nat}{out:R}{Δ:List (Nat×ad)}(tS:∀id∈rd,id<nx)(dz:∀id∈V.aK args,id∈rd)(rv:∀id∈rd,∀j∈(o id).refs,j∈rd)(W4:∀x∈Δ,x.1∈rd)(ad5:∀x∈Δ,∀j∈x.2.refs,j∈rd)
 (h:bQ P g args (El rd o) nx
  (fun v o1 _=>(∀id∈rd,o1 id=put o Δ id)/\∃vs rs,v=(match vs with|[v]=>v|vs=> .bP vs)/\cc o1 vs=some rs/\out= .ret rs/\∀id∈V.ba vs,id∉rd)
  (fun v o1 _=>(∀id∈rd,o1 id=put o Δ id)/\∃x,dN o1 v=some x/\out= .bJ x/\∀id∈v.ids,id∉rd)):AY P g args rd o out Δ:=by
 refine⟨h.1,fun o' us M φ w vals ho hH hd=> ?_⟩
 let M1:Nat->Prop:=fun b=>M b\/∃id,id∉rd/\(o' id).live=true/\eg (φ id)=some b
 let HR:Hp:=hp (El rd o) nx
 have u7:∀id,id∈rd->El rd o id=o' id:=fun id ax=>by simp[El,ax,(ho id ax).1]
 have s9:∀id,id∉rd->El rd o id= .no:=fun id ax=>by simp[El,ax]
 have hB:∀b,ak M1 φ HR b↔ak M φ ⟨o',us⟩ b:=by
  intro b
  constructor
  ·rintro((h|⟨id,h1,h2,h3⟩)|⟨id,h1,h2⟩)
   ·exact .inl h
   ·exact .inr ⟨id,h2,h3⟩
   ·by_cases ax:id∈rd
    ·exact .inr ⟨id,by show(o' id).live=true;rw[<- u7 id ax];exact h1,h2⟩
    ·have:HR.o id= .no:=s9 id ax
     rw[this]at h1;cases h1
  ·rintro(h|⟨id,h1,h2⟩)
   ·exact .inl (.inl h)
   ·by_cases ax:id∈rd
    ·exact .inr ⟨id,by show(El rd o id).live=true;rw[u7 id ax];exact h1,h2⟩
    ·exact .inl (.inr ⟨id,ax,h1,h2⟩)
 have FU:∀id∈rd,HR.o id=o' id/\φ id=φ id/\HR.us id:=fun id ax=>⟨u7 id ax,rfl,tS id ax⟩
 have hHR:az M1 φ HR w:=by
  refine⟨fun id=> ?_,fun id hn=> ?_,fun i j b hi hj bi bj=> ?_,fun b hb=> ?_,fun b hb=> ?_⟩
  ·by_cases ax:id∈rd
   ·refine aR.refs (H:=⟨o',us⟩) (M:=M) (φ:=φ) (fun b hn hb=>hn ((hB b).1 hb)) (u7 id ax) rfl (fun j hj=>FU j ?_) (hH.ok id)
    have:o' id=o id:=(ho id ax).1
    exact rv id ax j (by rw[<- this];exact hj)
   ·unfold aR
    rw[show HR.o id= .no from s9 id ax];trivial
  ·exact s9 id fun ax=>hn (tS id ax)
  ·have live:∀i,(HR.o i).live=true->i∈rd/\(o' i).live=true:=fun i hi=>by
    by_cases ax:i∈rd
    ·exact⟨ax,by rw[<- u7 i ax];exact hi⟩
    ·rw[show HR.o i= .no from s9 i ax]at hi;cases hi
   exact hH.apart i j b (live i hi).2 (live j hj).2 bi bj
  ·obtain⟨id,h1,h2⟩:=hb
   have ax:id∈rd:=by
    by_cases ax:id∈rd
    ·exact ax
    ·rw[show HR.o id= .no from s9 id ax]at h1;cases h1
   rw[show HR.o id=o' id from u7 id ax]at h1
   obtain⟨k1,k2⟩:=hH.ours b ⟨id,h1,h2⟩
   refine⟨?_,k2⟩
   rintro(hM|⟨j,j1,j2,j3⟩)
   ·exact k1 hM
   ·exact j1 (hH.apart j id b j2 h1 j3 h2 ▸ ax)
  ·rcases hb with hb|⟨id,h1,h2,h3⟩
   ·exact hH.AR b hb
   ·exact(hH.ours b ⟨id,h2,h3⟩).2
 have hdR:V.aC (ak M1 φ HR) φ HR w args vals.toList:=V.gf (H:=⟨o',us⟩) (fun b hn hb=>hn ((hB b).1 hb)) _ _ (fun id ax=>FU id (dz id ax)) hd
 refine(h.2 M1 φ w vals hHR hdR).mono ?_
 rintro e w' ⟨iP,o1,A0,v,k1,k2,k3⟩
 have main:(∀id∈rd,o1 id=put o Δ id)->∃aF,az M aF ⟨put o' Δ,us⟩ w'/\Trans φ ⟨o',us⟩ w aF ⟨put o' Δ,us⟩ w'/\∀b,ak M aF ⟨put o' Δ,us⟩ b->M1 b\/∃id∈rd,(o1 id).live=true/\eg (iP id)=some b:=by
  intro wH
  have FZ:∀id∈rd,put o' Δ id=o1 id:=fun id ax=>(Em (ho id ax).1).trans (wH id ax).symm
  have DB:∀id,id∉rd->put o' Δ id=o' id:=fun id ax=>zL fun x hx e=>ax (e ▸ W4 x hx)
  let H9:Place:=fun id=>if id∈rd then iP id else φ id
  have zM:∀id∈rd,H9 id=iP id:=fun id ax=>if_pos ax
  have B0:∀id,id∉rd->H9 id=φ id:=fun id ax=>if_neg ax
  let H2:Hp:=⟨put o' Δ,us⟩
  have cV:∀b,cG H9 H2 b->(∃id∈rd,(o1 id).live=true/\eg (iP id)=some b)\/∃id,id∉rd/\(o' id).live=true/\eg (φ id)=some b:=by
   rintro b ⟨id,h1,h2⟩
   by_cases ax:id∈rd
   ·exact .inl ⟨id,ax,by rw[<- FZ id ax];exact h1,by rw[<- zM id ax];exact h2⟩
   ·exact .inr ⟨id,ax,by rw[<- DB id ax];exact h1,by rw[<- B0 id ax];exact h2⟩
  have hB2:∀b,ak M H9 H2 b->ak M1 iP (hp o1 A0) b:=by
   rintro b (hb|hb)
   ·exact .inl (.inl hb)
   ·rcases cV b hb with⟨id,h1,h2,h3⟩|⟨id,h1,h2,h3⟩
    ·exact .inr ⟨id,h2,h3⟩
    ·exact .inl (.inr ⟨id,h1,h2,h3⟩)
  have aae:dV φ ⟨o',us⟩ H9 H2:=by
   refine⟨fun id h=>h,fun id hu hr=> ?_,fun id e' hu he=> ?_⟩
   ·by_cases ax:id∈rd
    ·rw[show H2.o id=o1 id from FZ id ax]at hr
     obtain⟨a,b⟩:=k2.rel.row id (tS id ax) hr
     rw[show HR.o id=o' id from u7 id ax]at a
     exact⟨a,(zM id ax).trans b⟩
    ·rw[show H2.o id=o' id from DB id ax]at hr
     exact⟨hr,B0 id ax⟩
   ·by_cases ax:id∈rd
    ·rw[show H2.o id=o1 id from FZ id ax]at he
     obtain⟨e0,a,b,c⟩:=k2.rel.ep id e' (tS id ax) he
     rw[show HR.o id=o' id from u7 id ax]at a
     exact⟨e0,a,b,fun heq=>(zM id ax).trans (c heq)⟩
    ·rw[show H2.o id=o' id from DB id ax]at he
     exact⟨e',he,Nat.le_refl _,fun _=>B0 id ax⟩
  have uG:∀b,c8 w b-> ¬ak M φ ⟨o',us⟩ b->w'.heap[b]? =w.heap[b]? /\ ¬ak M H9 H2 b:=by
   intro b hc hn
   obtain⟨a,c⟩:=k2.blocks (M:=M1) b hc (fun hb=>hn ((hB b).1 hb))
   exact⟨a,fun hb=>c (hB2 b hb)⟩
  have uX:∀b,b<w.heap.size-> ¬cG φ HR b->w'.heap[b]? =w.heap[b]? :=fun b hb hl=>k2.cH.block b hb hl
  have ht:Trans φ ⟨o',us⟩ w H9 H2 w':=by
   refine⟨⟨k2.cH.os,k2.cH.tape,k2.cH.output,k2.cH.size,fun b hb hl=>uX b hb fun⟨id,h1,h2⟩=>hl ?_⟩,fun b hb=> ?_,aae⟩
   ·by_cases ax:id∈rd
    ·exact⟨id,by show(o' id).live=true;rw[<- u7 id ax];exact h1,h2⟩
    ·rw[show HR.o id= .no from s9 id ax]at h1;cases h1
   ·rcases cV b hb with⟨id,h1,h2,h3⟩|⟨id,h1,h2,h3⟩
    ·rcases k2.grow b ⟨id,h2,h3⟩with⟨j,j1,j2⟩|AS
     ·by_cases ax:j∈rd
      ·exact .inl ⟨j,by show(o' j).live=true;rw[<- u7 j ax];exact j1,j2⟩
      ·rw[show HR.o j= .no from s9 j ax]at j1;cases j1
     ·exact .inr AS
    ·exact .inl ⟨id,h2,h3⟩
  refine⟨H9,⟨fun id=> ?_,fun id hn=> ?_,fun i j b hi hj bi bj=> ?_,fun b hb=> ?_,fun b hb=>Nat.lt_of_lt_of_le (hH.AR b hb) k2.cH.size⟩,ht,fun b hb=> ?_⟩
  ·by_cases ax:id∈rd
   ·refine aR.refs (H:=hp o1 A0) (M:=M1) (φ:=iP) (fun b hn hb=>hn (hB2 b hb)) (FZ id ax) (zM id ax) (fun j hj=> ?_) (k1.ok id)
    have Jk:j∈rd:=by
     have e1:o1 id=put o Δ id:=wH id ax
     have hj:j∈(put o Δ id).refs:=by rw[<- e1];exact hj
     have key:∀ (Gd:List (Nat×ad)) (q:Nat->ad),(∀x∈Gd,∀j∈x.2.refs,j∈rd)->(∀j∈(q id).refs,j∈rd)->∀j∈(put q Gd id).refs,j∈rd:=by
      intro Gd
      induction Gd with
      |nil=>intro q _ h2;exact h2
      |cons x Gd ih=>
       intro q h1 h2
       simp only[put,List.foldl_cons]
       refine ih (ay q x.1 x.2) (fun y hy=>h1 y kQ) ?_
       simp only[aL]
       split
       ·exact h1 x aE
       ·exact h2
     exact key Δ o ad5 (rv id ax) j hj
    exact⟨FZ j Jk,zM j Jk,(ho j Jk).2⟩
   ·exact aR.Bo uG aae (DB id ax) (B0 id ax) (fun hl b hb=>uX b (hH.ours b ⟨id,hl,hb⟩).2 fun⟨j,j1,j2⟩=>by
     by_cases hj:j∈rd
     ·rw[show HR.o j=o' j from u7 j hj]at j1
      exact ax (hH.apart id j b hl j1 hb j2 ▸ hj)
     ·rw[show HR.o j= .no from s9 j hj]at j1;cases j1) (hH.ok id)
  ·have ax:id∉rd:=fun ax=>hn (ho id ax).2
   exact(DB id ax).trans (hH.fresh id hn)
  ·by_cases e1:i∈rd<;>by_cases e2:j∈rd
   ·refine k1.apart i j b ?_ ?_ (by rw[<- zM i e1];exact bi) (by rw[<- zM j e2];exact bj)
    ·show(o1 i).live=true;rw[<- FZ i e1];exact hi
    ·show(o1 j).live=true;rw[<- FZ j e2];exact hj
   ·exfalso
    refine(k1.ours b ⟨i,by show(o1 i).live=true;rw[<- FZ i e1];exact hi,by rw[<- zM i e1];exact bi⟩).1 (.inr ⟨j,e2,by rw[<- DB j e2];exact hj,by rw[<- B0 j e2];exact bj⟩)
   ·exfalso
    refine(k1.ours b ⟨j,by show(o1 j).live=true;rw[<- FZ j e2];exact hj,by rw[<- zM j e2];exact bj⟩).1 (.inr ⟨i,e1,by rw[<- DB i e1];exact hi,by rw[<- B0 i e1];exact bi⟩)
   ·exact hH.apart i j b (by show(o' i).live=true;rw[<- DB i e1];exact hi) (by show(o' j).live=true;rw[<- DB j e2];exact hj) (by rw[<- B0 i e1];exact bi) (by rw[<- B0 j e2];exact bj)
  ·rcases cV b hb with⟨id,h1,h2,h3⟩|⟨id,h1,h2,h3⟩
   ·obtain⟨a,c⟩:=k1.ours b ⟨id,h2,h3⟩
    exact⟨fun hM=>a (.inl hM),c⟩
   ·obtain⟨a,c⟩:=hH.ours b ⟨id,h2,h3⟩
    exact⟨a,Nat.lt_of_lt_of_le c k2.cH.size⟩
  ·rcases hb with hb|hb
   ·exact .inl (.inl hb)
   ·rcases cV b hb with h|h
    ·exact .inr h
    ·exact .inl (.inr h)
 have res:∀ (vs:List V) (xs:List D) (us':List Value),(∀id∈rd,o1 id=put o Δ id)->cc o1 vs=some xs->(∀id∈V.ba vs,id∉rd)->V.aC (ak M1 iP (hp o1 A0)) iP (hp o1 A0) w' vs us'->
  ∃aF,az M aF ⟨put o' Δ,us⟩ w'/\Trans φ ⟨o',us⟩ w aF ⟨put o' Δ,us⟩ w'/\D.aC (ak M aF ⟨put o' Δ,us⟩) w' xs us':=by
  intro vs xs us' wH h1 ad6 h2
  obtain⟨f1,f2,f3,f4,f5⟩:=cW k1 (V.ba vs) (da vs _ h2)
  have h3:=dt f1 vs xs us' f3 h1 (V.aT f2 _ _ h2)
  obtain⟨aF,m1,m2,m3⟩:=main wH
  refine⟨aF,m1,m2,D.aT (w:=w') (w':=w') (fun b _ hn=>⟨rfl,fun hb=>hn ?_⟩) xs us' h3⟩
  rcases m3 b hb with hb|⟨id,i1,i2,i3⟩
  ·exact .inl hb
  ·exact .inr ⟨id,by rw[f4 id fun hm=>ad6 id hm i1];exact i2,i3⟩
 cases e with
 |outgrown=>exact k3.elim
 |panicked ch=>
  obtain⟨val,rfl,g1,wH,x,g2,rfl,g3⟩:=k3
  obtain⟨aF,m1,m2,m3⟩:=res [v] [x] [val] wH (by simp[cc,g2]) (by simpa[V.ba]using g3) ⟨val,[],rfl,g1,rfl⟩
  obtain⟨u,us2,he,h2,_⟩:=m3
  simp at he;obtain⟨rfl,rfl⟩:=he
  exact⟨aF,m1,m2,val,rfl,h2⟩
 |returned val=>
  obtain⟨g1,wH,vs,rs,rfl,g2,rfl,g3⟩:=k3
  match vs,g1,g2,g3 with
  |[],g1,g2,g3=>
   obtain⟨arr,rfl,hv⟩:=g1
   simp only[cc,Option.some.injEq]at g2;subst g2
   obtain⟨aF,m1,m2,m3⟩:=res [] [] arr.toList wH rfl (by simp[V.ba]) hv
   exact⟨aF,m1,m2,arr,rfl,m3⟩
  |[v],g1,g2,g3=>
   obtain⟨aF,m1,m2,m3⟩:=res [v] rs [val] wH g2 g3 ⟨val,[],rfl,g1,rfl⟩
   refine⟨aF,m1,m2, ?_⟩
   cases rs with
   |nil=>cases m3
   |cons x l=>
    obtain⟨u,us2,he,h2,h3⟩:=m3
    simp at he;obtain⟨rfl,rfl⟩:=he
    cases l with
    |nil=>exact h2
    |cons y l=>obtain⟨_,_,h,_⟩:=h3;cases h
  |v::v2::l,g1,g2,g3=>
   obtain⟨arr,rfl,hv⟩:=g1
   obtain⟨aF,m1,m2,m3⟩:=res (v::v2::l) rs arr.toList wH g2 g3 hv
   refine⟨aF,m1,m2, ?_⟩
   have hl:=D.aA _ _ m3
   have Zj:=V.aA _ _ hv
   match rs,hl,m3 with
   |[],hl,_=>exact FB
   |[x],hl,_=>exact FB
   |x::y::l,_,m3=>exact⟨arr,rfl,m3⟩
end
end
section
inductive fi where
 |skip|val (v:V) (Δ:List (Nat×ad)) (rd:List Nat)|bJ (v:V) (ws rd:List Nat)|eg
 deriving Inhabited
def fi.ok:fi->Bool
 | .skip| .val .. =>true
 |_=>false
def wJ(dst:Option Tmp)(x:fi)(s:S):S:=
 match x with
 | .skip=>⟨aX s.env dst (.bP []),s.o,s.nx⟩
 | .val v Δ _=>⟨aX s.env dst v,put s.o Δ,s.nx⟩
 | .bJ .. | .eg=>⟨aX s.env dst .aa,s.o,s.nx⟩
def kH:fi->List Nat
 | .val _ Δ _=>Δ.map (·.1)
 |_=>[]
def wZ:fi->List Nat
 | .val _ _ rd=>rd
 | .bJ _ _ rd=>rd
 |_=>[]
def Ng(P:Program)(g:FuncId)(ds:List D)(v:V):Prop:=
 Enters P g/\∀ (M:Nat->Prop) (w:World) (vals:Array Value),(∀b,M b->b<w.heap.size)->D.aC M w ds vals.toList->
  Calls P g vals w fun e w'=>ei (fun _=>False) w w'/\∃val,e= .returned val/\∀φ H,V.den M φ H w' v val
theorem Ng.kF {P:Program}{g:FuncId}{ds:List D}{v:V}(hr:v.refs=[])(h:bQ P g (ds.map .d) (fun _=> .no) 0 (fun v' _ _=>v'=v) (fun _ _ _=>False)):Ng P g ds v:=by
 refine⟨h.1,fun M w vals hM hd=> ?_⟩
 let cL:Place:=fun _=> .nilFunc
 have uX:∀b, ¬cG cL (hp (fun _=> .no) 0) b:=by rintro b ⟨id,hl,_⟩;simp[hp,ad.live]at hl
 refine(h.2 M cL w vals (n6 cL hM) ((V.cI _ _).2 (D.aT (w:=w) (w':=w) (B:=M) (fun b _ hB=>⟨rfl,fun h=>h.elim hB (uX b)⟩) _ _ hd))).mono ?_
 rintro e w' ⟨aF,o',nx',v',k1,k2,k3⟩
 refine⟨⟨k2.cH.os,k2.cH.tape,k2.cH.output,k2.cH.size,fun k hk _=>k2.cH.block k hk (uX k)⟩, ?_⟩
 cases e with
 |outgrown=>exact k3.elim
 |panicked ch=>obtain⟨_,_,_,h⟩:=k3;exact h.elim
 |returned val=>
  obtain⟨g1,rfl⟩:=k3
  exact⟨val,rfl,fun φ H=>V.nk (B:=ak M aF (hp o' nx')) (φ:=aF) (H:=hp o' nx') (fun b hb hm=>hb (.inl hm)) v' val (fun id ax=>by rw[hr]at ax;cases ax) g1⟩
def xZ(P:Program)(s:S)(fr:Nat)(op:Op)(v:V)(Δ:List (Nat×ad))(rd:List Nat):Prop:=
 ((∃tO,gA P s fr op=some (v,Δ,tO))/\rd=oJ s op)\/
 (∃c f g first cap,op= .call c/\c.callee= .value f/\s.ev f= .func (.func g) first cap/\
  ((∃ds rs,cc s.o (first++c.args.toList.map s.ev++cap)=some ds/\aW P g ds (.ret rs)/\v=iR rs/\rd=oJ s op/\
    (Δ=bw s.o (V.ba (first++c.args.toList.map s.ev++cap))\/D.jF rs=true/\Δ=[]))\/
   (∃rs,AY P g (first++c.args.toList.map s.ev++cap) rd s.o (.ret rs) Δ/\v=iR rs/\∀id∈rd,id<s.nx)\/
   (∃ds,cc s.o (first++c.args.toList.map s.ev++cap)=some ds/\Ng P g ds v/\rd=oJ s op/\Δ=bw s.o (V.ba (first++c.args.toList.map s.ev++cap)))\/
   (AZ P g (first++c.args.toList.map s.ev++cap) rd s.o fr v Δ/\∀id∈rd,id<s.nx)))
def B1(P:Program)(s:S)(op:Op)(v:V)(ws rd:List Nat):Prop:=
 ∃c f g first cap,op= .call c/\c.callee= .value f/\s.ev f= .func (.func g) first cap/\
  ((∃ds x,cc s.o (first++c.args.toList.map s.ev++cap)=some ds/\aW P g ds (.bJ x)/\x.flat=true/\v= .d x/\rd=oJ s op/\ws=[])\/
   (∃x Δ,AY P g (first++c.args.toList.map s.ev++cap) rd s.o (.bJ x) Δ/\v= .d x/\ws=Δ.map (·.1)/\∀id∈rd,id<s.nx))
def dS(s:S)(gd:Option (Nat×Bool))(b:Bool):Prop:=
 match gd with
 |none=>b=true
 |some (d,want)=>match s.env d with
  | .d (.bool c)=>b=(c==want)
  | .bP []=>b=false
  |_=>False
def Rh(P:Program)(s:S)(fr:Nat)(o:bT)(x:fi):Prop:=
 match x with
 | .skip=>dS s o.gd false
 | .val v Δ rd=>dS s o.gd true/\xZ P s fr o.op v Δ rd
 | .bJ v ws rd=>dS s o.gd true/\B1 P s o.op v ws rd
 | .eg=>True
def eI(oc:Nat->bT)(ac:Nat->fi)(E:Nat->Bool)(s:S):Nat->S
 |0=>s
 |k+1=>if E k then wJ (oc k).dst (ac k) (eI oc ac E s k)else eI oc ac E s k
structure Compat (oc:Nat->bT) (ac:Nat->fi) (R:Nat->List Nat) (i j:Nat):Prop where
 di:∀d,(oc i).dst=some d->d∉e8 (oc j)
 dj:∀d,(oc j).dst=some d->d∉e8 (oc i)
 wi:∀id∈kH (ac i),id∉R j/\id∉kH (ac j)
 wj:∀id∈kH (ac j),id∉R i
section
variable {P:Program}{oc:Nat->bT}{ac:Nat->fi}{s:S}{n:Nat}{E:Nat->Bool}{R:Nat->List Nat}{pr:Nat->Nat->Prop}
theorem En{env:Nat->V}{dst:Option Tmp}{v:V}{t:Nat}(h:∀d,dst=some d->d≠t):aX env dst v t=env t:=by
 cases dst with
 |none=>rfl
 |some d=>simp only[aX,aL];rw[if_neg (fun e=>h d rfl e.symm)]
theorem gh{o:Nat->ad}:∀ {Δ:List (Nat×ad)} {id:Nat},id∉Δ.map (·.1)->put o Δ id=o id
 |[],_,_=>rfl
 |x::Δ,id,h=>by
  simp only[List.map_cons,List.mem_cons,not_or]at h
  have:=gh (o:=ay o x.1 x.2) (Δ:=Δ) h.2
  simp only[put,List.foldl_cons]at this|-
  rw[this];simp[h.1]
theorem zN{o o':Nat->ad}:∀ {Δ:List (Nat×ad)} {id:Nat},id∈Δ.map (·.1)\/o id=o' id->put o Δ id=put o' Δ id
 |[],_,h=>by rcases h with h|h;· simp at h
             ·exact h
 |x::Δ,id,h=>by
  simp only[put,List.foldl_cons]
  refine zN (Δ:=Δ) (o:=ay o x.1 x.2) (o':=ay o' x.1 x.2) ?_
  simp only[List.map_cons,List.mem_cons]at h
  simp only[aL]
  by_cases e:id=x.1
  ·right;simp[e]
  ·rcases h with(h|h)|h
   ·exact absurd h e
   ·exact .inl h
   ·right;simp[e,h]
theorem kI{dst:Option Tmp}{x:fi}{t:Nat}(h:∀d,dst=some d->d≠t):(wJ dst x s).env t=s.env t:=by
 cases x<;>exact En h
theorem nm{dst:Option Tmp}{x:fi}{id:Nat}(h:id∉kH x):(wJ dst x s).o id=s.o id:=by
 cases x with
 |val v Δ rd=>exact gh h
 |_=>rfl
theorem zO{dst:Option Tmp}{x:fi}{s':S}{t:Nat}(h:s.env t=s'.env t):(wJ dst x s).env t=(wJ dst x s').env t:=by
 cases x<;>cases dst<;>simp only[wJ,aX,aL]<;>first|exact h|(split<;>first|rfl|exact h)
theorem Eo{dst:Option Tmp}{x:fi}{s':S}{id:Nat}(h:s.o id=s'.o id):(wJ dst x s).o id=(wJ dst x s').o id:=by
 cases x with
 |val v Δ rd=>exact zN (.inr h)
 |_=>exact h
theorem put_comm{o:Nat->ad}{Δ Gd:List (Nat×ad)}(h:∀id∈Δ.map (·.1),id∉Gd.map (·.1)):put (put o Δ) Gd=put (put o Gd) Δ:=by
 funext id
 by_cases h1:id∈Δ.map (·.1)
 ·rw[gh (h id h1)]
  exact zN (.inl h1)
 ·rw[gh (Δ:=Δ) h1]
  by_cases h2:id∈Gd.map (·.1)
  ·exact zN (.inl h2)
  ·rw[gh h2,gh h2,gh h1]
theorem x4{env:Nat->V}{d d':Option Tmp}{v v':V}(h:∀t,d=some t->d'≠some t):aX (aX env d v) d' v'=aX (aX env d' v') d v:=by
 cases d with
 |none=>rfl
 |some t=>
  cases d' with
  |none=>rfl
  |some t'=>
   have iZ:t'≠t:=fun e=>h t rfl (by rw[e])
   funext i
   simp only[aX,aL]
   by_cases e1:i=t<;>by_cases e2:i=t'
   ·exact absurd (e2.symm.trans e1) iZ
   all_goals simp[e1,e2]
   ·intro e;exact absurd e.symm iZ
   ·intro e;exact absurd e iZ
theorem KO{d d':Option Tmp}{x x':fi}(hd:∀t,d=some t->d'≠some t)(hw:∀id∈kH x,id∉kH x'):wJ d x (wJ d' x' s)=wJ d' x' (wJ d x s):=by
 cases x<;>cases x'<;>simp only[wJ]<;>first
  |rw[x4 hd,put_comm hw]
  |rw[x4 hd]
def zP(n:Nat)(pr:Nat->Nat->Prop)(E:Nat->Bool):Prop:=∀k,k<n->E k=true->∀j,pr k j->E j=true
theorem agree(_:∀k,k<n->∀j,pr k j->j<k)(hc:∀i j,i<j->j<n-> ¬pr j i->Compat oc ac R i j)(hE:zP n pr E){i:Nat}(hi:i<n)(lJ:E i=false)(KQ:∀j,pr i j->E j=true):
 (∀t∈e8 (oc i),(eI oc ac E s n).env t=(eI oc ac (fun _=>true) s i).env t)/\(∀id∈R i,(eI oc ac E s n).o id=(eI oc ac (fun _=>true) s i).o id):=by
 have a:∀k,k<=i->(∀t∈e8 (oc i),(eI oc ac E s k).env t=(eI oc ac (fun _=>true) s k).env t)/\(∀id∈R i,(eI oc ac E s k).o id=(eI oc ac (fun _=>true) s k).o id):=by
  intro k
  induction k with
  |zero=>intro _;exact⟨fun _ _=>rfl,fun _ _=>rfl⟩
  |succ k ih=>
   intro hk
   obtain⟨h1,h2⟩:=ih af
   simp only[eI,if_true]
   by_cases iY:E k=true
   ·simp only[iY,if_true]
    exact⟨fun t ht=>zO (h1 t ht),fun id ax=>Eo (h2 id ax)⟩
   ·have Q6: ¬pr i k:=fun hm=>iY (KQ k hm)
    have c:=hc k i af hi Q6
    simp only[iY]
    refine⟨fun t ht=> ?_,fun id ax=> ?_⟩
    ·rw[kI fun d hd e=>c.di d hd (e ▸ ht)];exact h1 t ht
    ·rw[nm fun hm=>(c.wi id hm).1 ax];exact h2 id ax
 have b:∀k,i<=k->k<=n->(∀t∈e8 (oc i),(eI oc ac E s k).env t=(eI oc ac (fun _=>true) s i).env t)/\(∀id∈R i,(eI oc ac E s k).o id=(eI oc ac (fun _=>true) s i).o id):=by
  intro k N5
  induction N5 with
  |refl=>intro _;exact a i (Nat.le_refl _)
  | @step k N5 ih=>
    intro hk
    have N5:i<=k:=N5
    obtain⟨h1,h2⟩:=ih af
    simp only[eI]
    by_cases iY:E k=true
    ·have iZ:i≠k:=fun e=>by rw[e,iY]at lJ;cases lJ
     have Q6: ¬pr k i:=fun hm=>by have:=hE k af iY i hm;rw[lJ]at this;cases this
     have c:=hc i k af af Q6
     simp only[iY,if_true]
     refine⟨fun t ht=> ?_,fun id ax=> ?_⟩
     ·rw[kI fun d hd e=>c.dj d hd (e ▸ ht)];exact h1 t ht
     ·rw[nm fun hm=>c.wj id hm ax];exact h2 id ax
    ·simp only[iY];exact⟨h1,h2⟩
 exact b n af (Nat.le_refl _)
theorem insert(hc:∀i j,i<j->j<n-> ¬pr j i->Compat oc ac R i j)(hE:zP n pr E){i:Nat}(hi:i<n)(lJ:E i=false){E':Nat->Bool}(Ep:∀k,E' k=(E k||k==i)):
 eI oc ac E' s n=wJ (oc i).dst (ac i) (eI oc ac E s n):=by
 have a:∀k,k<=i->eI oc ac E' s k=eI oc ac E s k:=by
  intro k
  induction k with
  |zero=>intro _;rfl
  |succ k ih=>
   intro hk
   have:E' k=E k:=by rw[Ep k];have:(k==i)=false:=by simp;omega
                     simp[this]
   simp only[eI,this,ih (by omega)]
 have b:∀k,i+1<=k->k<=n->eI oc ac E' s k=wJ (oc i).dst (ac i) (eI oc ac E s k):=by
  intro k N5
  induction N5 with
  |refl=>
   intro _
   have h1:E' i=true:=by rw[Ep i];simp
   simp only[eI,h1,lJ,if_true,a i (Nat.le_refl _)]
   rfl
  | @step k N5 ih=>
    intro hk
    have N5:i+1<=k:=N5
    have h1:E' k=E k:=by rw[Ep k];have:(k==i)=false:=by simp;omega
                         simp[this]
    simp only[eI,h1,ih (by omega)]
    by_cases iY:E k=true
    ·have Q6: ¬pr k i:=fun hm=>by have:=hE k af iY i hm;rw[lJ]at this;cases this
     have c:=hc i k af af Q6
     simp only[iY,if_true]
     refine KO (fun t ht he=> ?_) (fun id ax hm=>(c.wi id hm).2 ax)
     exact c.di t he (by simp[e8,ht])
    ·simp only[iY];rfl
 exact b n af (Nat.le_refl _)
end
end
section
structure tI (M:Nat->Prop) (cL:Place) (H0:Hp) (w0:World) (n:Nat) (cx:Cx) (φ:Place) (s:S) (us:Nat->Prop) (a:Act) (w:World):Prop where
 heap:az M φ ⟨s.o,us⟩ w
 tr:Trans cL H0 w0 φ ⟨s.o,us⟩ w
 size:a.tmps.size=n
 defers:uT cx w0 φ ⟨s.o,us⟩ w a.defers
 env:∀i,V.den (ak M φ ⟨s.o,us⟩) φ ⟨s.o,us⟩ w (s.env i) (a.tmps.getD i undef)
section
variable {P:Program}{M:Nat->Prop}{φ cL:Place}{H0:Hp}{w w' w0:World}{n:Nat}{s:S}{us:Nat->Prop}{a:Act}{cx:Cx}{ro:Option Nat}{k:Nat}
variable {next:Act->World->Prop}{Q:Exit->Act->World->Prop}
theorem ju(hs:tI M cL H0 w0 n cx φ s us a w){aF:Place}{H':Hp}(hH:az M aF H' w')(ht:Trans φ ⟨s.o,us⟩ w aF H' w'){v:V}{val:Value}(hd:V.den (ak M aF H') aF H' w' v val){dst:Option Tmp}(c7:gG n dst)
 {o':Nat->ad} {us':Nat->Prop} (ho:H'.o=o') (hu:∀id,H'.us id->us' id):tI M cL H0 w0 n cx aF ⟨aX s.env dst v,o',s.nx⟩ us' (a.put dst val) w':=by
 obtain⟨k1,k2⟩:=j6 hH hu
 subst ho
 refine⟨k1,hs.tr.trans (ht.trans k2), ?_, ?_,fun i=> ?_⟩
 ·cases dst<;>simp[Act.put,hs.size]
 ·have:=hs.defers.mono (ht.trans k2);cases dst<;>exact this
 ·cases dst with
  |none=>exact NB
  |some d=>
   simp only[gG]at c7
   simp only[aX,aL,Act.put]
   by_cases hi:i=d
   ·subst hi
    have h1:(a.tmps.setIfInBounds i val).getD i undef=val:=by simp[Array.getD,hs.size,c7]
    rw[if_pos rfl,h1]
    exact V.aS k2 _ _ hd
   ·have h1:(a.tmps.setIfInBounds d val).getD i undef=a.tmps.getD i undef:=by
     exact TE
    rw[if_neg hi,h1]
    exact NB
theorem x5(hs:tI M cL H0 w0 n cx φ s us a w){o:Oper}{op:Op}(fV:o.op=op){c:Call}{f:Operand}{g:FuncId}{first cap:List V}(hc:op= .call c)(eZ:c.callee= .value f)(wP:s.ev f= .func (.func g) first cap):
 ∃vals:Array Value,V.aC (ak M φ ⟨s.o,us⟩) φ ⟨s.o,us⟩ w (first++c.args.toList.map s.ev++cap) vals.toList/\(Enters P g->(execOp a.eval o).run P w= .ok (.enter g vals) w):=by
 have hf:=mU (M:=M) (φ:=φ) (H:=⟨s.o,us⟩) (w:=w) s a hs.env f
 have dz:=j9 (M:=M) (φ:=φ) (H:=⟨s.o,us⟩) (w:=w) s a hs.env c.args.toList
 rw[wP]at hf
 obtain⟨fa,ca,TY,FK,hca⟩:=hf
 refine⟨fa++c.args.map a.eval++ca, ?_,fun he=> ?_⟩
 ·exact ZN
 ·have:=lg (w:=w) he (fa++c.args.map a.eval++ca)
  generalize kR:fa++c.args.map a.eval++ca=vals at this
  simp[execOp,fV,hc,resolve,eZ,TY,Deferred.ofValue,invoke,this,kR]
theorem JH(hs:tI M cL H0 w0 n cx φ s us a w){fr:Nat}(cY: ¬us fr)(tS:∀id,id<s.nx->us id){o:Oper}{op:Op}(fV:o.op=op)(c7:gG n o.dst){v:V}{Δ:List (Nat×ad)}{rd:List Nat}(h:xZ P s fr op v Δ rd)
 (hN:∀aF a' w',tI M cL H0 w0 n cx aF (wJ o.dst (.val v Δ rd) s) (fun id=>us id\/id=fr) a' w'->next a' w'):o.wpIn (dP ro) k P a w next Q:=by
 rcases h with⟨⟨tO,h⟩,_⟩|⟨c,f,g,first,cap,hc,eZ,wP,h⟩
 ·have h1:=BW (K:=fun v' Gd _=>v'=v/\Gd=Δ) h ⟨rfl,rfl⟩
  obtain⟨nx,val,w',aF,v',Gd,tO,⟨rfl,rfl⟩,hr,ad7,g1,g2,g3,g4⟩:=xQ hs.heap (s:=s) rfl hs.env cY fV h1
  have tC:=ju hs g1 g2 g3 c7 (o':=put s.o Gd) (us':=fun id=>us id\/id=fr) rfl (fun id hu=>hu.elim .inl (g4 id))
  refine kn (fun c hc=>by rw[fV]at hc;subst hc;exact h1) ?_
  rw[hr]
  rcases ad7 with rfl|⟨rfl,rfl⟩
  ·exact hN _ _ _ tC
  ·exact hN _ _ _ tC
 ·refine kn (fun c' xS=>by rw[fV,hc]at xS;cases xS) ?_
  obtain⟨vals,a7,ff⟩:=x5 (P:=P) hs fV hc eZ wP
  generalize first++c.args.toList.map s.ev++cap=all at h a7
  rcases h with⟨ds,rs,e7,hP,rfl,_,W4⟩|⟨rs,hH,rfl,mC⟩|⟨ds,e7,hP,_,rfl⟩|⟨hH,mC⟩
  ·obtain⟨f1,f2,f3,f4,f5⟩:=cW hs.heap (V.ba all) (da all _ a7)
   have fg:(⟨s.o,us⟩:Hp).put (bw s.o (V.ba all))=⟨put s.o (bw s.o (V.ba all)),us⟩:=la (H:=⟨s.o,us⟩) JQ
   have xG:=dt f1 all ds _ f3 e7 (V.aT f2 _ _ a7)
   have eU:=hP.2 _ w vals (fun b hb=>hb.elim (f1.AR b) fun hl=>(f1.ours b hl).2) xG
   rw[ff hP.1]
   refine⟨fun hd=>by simp[dP]at hd,df (eU.mono fun e w' ⟨hk,ho⟩=> ?_)⟩
   cases e with
   |panicked ch=>exact wN
   |outgrown=>exact wN
   |returned val=>
    rcases W4 with rfl|⟨pR,rfl⟩
    ·obtain⟨k1,k2⟩:=fY f1 hk
     refine hN _ _ _ (ju hs k1 (f2.trans k2) (mO ho) c7 (by rw[fg]) fun id hu=> ?_)
     rw[fg]at hu;exact .inl hu
    ·obtain⟨k1,k2⟩:=fY hs.heap hk
     have ho:=R.zq (out:= .ret rs) (B':=ak M φ ⟨s.o,us⟩) pR ho
     exact Qc
  ·have eU:=hH.2 s.o us M φ w vals (fun id ax=>⟨rfl,tS id (mC id ax)⟩) hs.heap a7
   rw[ff hH.1]
   refine⟨fun hd=>by simp[dP]at hd,df (eU.mono fun e w' ⟨aF,k1,k2,ho⟩=> ?_)⟩
   cases e with
   |panicked ch=>exact wN
   |outgrown=>exact wN
   |returned val=>exact Qc
  ·obtain⟨f1,f2,f3,f4,f5⟩:=cW hs.heap (V.ba all) (da all _ a7)
   have fg:(⟨s.o,us⟩:Hp).put (bw s.o (V.ba all))=⟨put s.o (bw s.o (V.ba all)),us⟩:=la (H:=⟨s.o,us⟩) JQ
   have xG:=dt f1 all ds _ f3 e7 (V.aT f2 _ _ a7)
   have eU:=hP.2 _ w vals (fun b hb=>hb.elim (f1.AR b) fun hl=>(f1.ours b hl).2) xG
   rw[ff hP.1]
   refine⟨fun hd=>by simp[dP]at hd,df (eU.mono fun e w' ⟨hk,val,he,ho⟩=> ?_)⟩
   subst he
   obtain⟨k1,k2⟩:=fY f1 hk
   refine hN _ _ _ (ju hs k1 (f2.trans k2) (ho _ _) c7 (by rw[fg]) fun id hu=> ?_)
   rw[fg]at hu;exact .inl hu
  ·have eU:=hH.2 s.o us M φ w vals (fun id ax=>⟨rfl,tS id (mC id ax)⟩) cY hs.heap a7
   rw[ff hH.1]
   refine⟨fun hd=>by simp[dP]at hd,df (eU.mono fun e w' ⟨aF,k1,k2,val,he,ho⟩=> ?_)⟩
   subst he
   exact hN _ _ _ (ju hs k1 k2 ho c7 rfl fun id hu=>hu)
theorem Ij{o o2:Nat->ad}{us us2:Nat->Prop}(hH:az M φ ⟨o,us⟩ w)(ho:∀id,o2 id=o id\/o2 id= .no)(hu:∀id,us id->us2 id):az M φ ⟨o2,us2⟩ w/\Trans φ ⟨o,us⟩ w φ ⟨o2,us2⟩ w:=by
 have hl:∀id,(o2 id).live=true->(o id).live=true:=fun id h=>by
  rcases ho id with e|e
  ·rw[<- e];exact h
  ·rw[e]at h;cases h
 have Kk:∀b,cG φ ⟨o2,us2⟩ b->cG φ ⟨o,us⟩ b:=fun b ⟨id,h1,h2⟩=>⟨id,hl id h1,h2⟩
 have ht:Trans φ ⟨o,us⟩ w φ ⟨o2,us2⟩ w:=by
  refine⟨ei.refl _ _,fun b hb=> .inl (Kk b hb),⟨hu,fun id _ hr=> ?_,fun id e' _ he=> ?_⟩⟩
  ·rcases ho id with e|e
   ·exact⟨by show(o id).ct=true;rw[<- e];exact hr,rfl⟩
   ·rw[show(⟨o2,us2⟩:Hp).o id= .no from e]at hr;cases hr
  ·rcases ho id with e|e
   ·exact⟨e',by show(o id).cq=some e';rw[<- e];exact he,Nat.le_refl _,fun _=>rfl⟩
   ·rw[show(⟨o2,us2⟩:Hp).o id= .no from e]at he;cases he
 refine⟨⟨fun id=> ?_,fun id hn=> ?_,fun i j b hi hj=>hH.apart i j b (hl i hi) (hl j hj),fun b hb=>hH.ours b (Kk b hb),hH.AR⟩,ht⟩
 ·rcases ho id with e|e
  ·exact(hH.ok id).mono ht e rfl fun _ _ _=>rfl
  ·unfold aR;rw[show(⟨o2,us2⟩:Hp).o id= .no from e];trivial
 ·rcases ho id with e|e
  ·exact e.trans (hH.fresh id fun h=>hn (hu id h))
  ·exact e
def u9(ds:List Nat)(wl:List Nat)(N:Nat)(s:S):S:=
 ⟨fun t=>if ds.contains t=true then .aa else s.env t,fun id=>if wl.contains id=true then .no else s.o id,s.nx+N⟩
theorem KT(hs:tI M cL H0 w0 n cx φ s us a w)(tS:∀id,id<s.nx->us id){N:Nat}(dT:∀id,us id->id<s.nx+N){o:Oper}{op:Op}(fV:o.op=op){v:V}{ws rd:List Nat}(h:B1 P s op v ws rd)
 {s0:S} {ds wl:List Nat} (e7:∀t,ds.contains t=false->s.env t=s0.env t) (hwl:∀id,wl.contains id=false->s.o id=s0.o id) (N6:∀id∈ws,wl.contains id=true) (oC:s0.nx=s.nx)
 (hQ:∀aF w' val,cf M cL H0 w0 n cx aF (u9 ds wl N s0) a w'->V.den (ak M aF (u9 ds wl N s0).H) aF (u9 ds wl N s0).H w' v val->Q (.panic [{v:=val,recovered:=false}]) a w'):o.wpIn (dP ro) k P a w next Q:=by
 obtain⟨c,f,g,first,cap,hc,eZ,wP,h⟩:=h
 refine kn (fun c' xS=>by rw[fV,hc]at xS;cases xS) ?_
 obtain⟨vals,a7,ff⟩:=x5 (P:=P) hs fV hc eZ wP
 generalize first++c.args.toList.map s.ev++cap=all at h a7
 have fin:∀ (aF:Place) (w':World) (o':Nat->ad) (val:Value),(∀id,wl.contains id=false->o' id=s.o id)->az M aF ⟨o',us⟩ w'->Trans φ ⟨s.o,us⟩ w aF ⟨o',us⟩ w'->V.den (ak M aF ⟨o',us⟩) aF ⟨o',us⟩ w' v val->Q (.panic [{v:=val,recovered:=false}]) a w':=by
  intro aF w' o' val xm k1 k2 k3
  obtain⟨m1,m2⟩:=Ij (o2:=(u9 ds wl N s0).o) (us2:=fun id=>id<s0.nx+N) k1 (fun id=>by
   show(if wl.contains id=true then ad.no else s0.o id)=o' id\/_
   by_cases hw:wl.contains id=true
   ·right;simp only[u9];rw[if_pos hw]
   ·left;rw[if_neg hw,xm id (by simpa using hw),hwl id (by simpa using hw)]) (fun id h=>by rw[oC];exact dT id h)
  have ht:=hs.tr.trans (k2.trans m2)
  refine hQ aF w' val ⟨m1,ht,hs.size,hs.defers.mono (k2.trans m2),fun i=> ?_⟩ (V.aS m2 _ _ k3)
  show V.den _ _ _ _ (if ds.contains i=true then V.aa else s0.env i) _
  by_cases hd:ds.contains i=true
  ·rw[if_pos hd];trivial
  ·rw[if_neg hd, <- e7 i (by simpa using hd)];exact V.aS (k2.trans m2) _ _ (hs.env i)
 rcases h with⟨dd,x,ad8,hP,pR,rfl,_,rfl⟩|⟨x,Δ,hH,rfl,rfl,mC⟩
 ·obtain⟨f1,f2,f3,f4,f5⟩:=cW hs.heap (V.ba all) (da all _ a7)
  have xG:=dt f1 all dd _ f3 ad8 (V.aT f2 _ _ a7)
  have eU:=hP.2 _ w vals (fun b hb=>hb.elim (f1.AR b) fun hl=>(f1.ours b hl).2) xG
  rw[ff hP.1]
  refine⟨fun hd=>by simp[dP]at hd,df (eU.mono fun e w' ⟨hk,ho⟩=> ?_)⟩
  cases e with
  |returned val=>exact ho.elim
  |outgrown=>exact ho.elim
  |panicked ch=>
   obtain⟨k1,k2⟩:=fY hs.heap hk
   have ho:=R.zq (out:= .bJ x) (B':=ak M φ ⟨s.o,us⟩) pR ho
   obtain⟨val,rfl,hd⟩:=ho
   exact fin φ w' s.o val (fun _ _=>rfl) k1 k2 hd
 ·have eU:=hH.2 s.o us M φ w vals (fun id ax=>⟨rfl,tS id (mC id ax)⟩) hs.heap a7
  rw[ff hH.1]
  refine⟨fun hd=>by simp[dP]at hd,df (eU.mono fun e w' ⟨aF,k1,k2,ho⟩=> ?_)⟩
  cases e with
  |returned val=>exact ho.elim
  |outgrown=>exact ho.elim
  |panicked ch=>
   obtain⟨val,rfl,hd⟩:=ho
   exact fin aF w' _ val (fun id ax=>zL fun y hy e=>by
    have:=N6 y.1 (List.mem_map_of_mem hy)
    rw[e,ax]at this;cases this) k1 k2 hd
theorem fI(ej:∀i,V.den (ak M φ ⟨s.o,us⟩) φ ⟨s.o,us⟩ w (s.env i) (a.tmps.getD i undef)){ops:Array Oper}{o:Oper}{gd:Option (Nat×Bool)}{b:Bool}
 (hg:match o.guard with|none=>gd=none|some (j,want)=>∃d,sN ops j=some d/\gd=some (d,want)) (h:dS s gd b):Region.wanted o (yielded ops a.tmps)=b:=by
 unfold Region.wanted
 split at hg
 ·rename_i hn;simp only[hn];subst hg;exact h.symm
 ·rename_i j want hn
  simp only[hn]
  obtain⟨d,hd,rfl⟩:=hg
  unfold sN at hd
  unfold yielded
  simp only[hd,Option.bind_some]
  simp only[dS]at h
  have he:=ej d
  split at h
  ·rename_i c hv
   rw[hv]at he
   simp only[V.den,D.den]at he
   have:a.tmps[d]? =some (.bool c):=by
    rw[Array.getD_eq_getD_getElem?]at he
    cases hx:a.tmps[d]? with
    |none=>rw[hx]at he;simp[undef]at he
    |some x=>rw[hx]at he;simp at he;rw[he]
   simp only[this,h]
   cases c<;>cases want<;>rfl
  ·rename_i hv
   rw[hv]at he
   obtain⟨arr,dn,hn⟩:=he
   have:∀c,a.tmps[d]? ≠some (.bool c):=by
    exact QO
   subst h
   cases hx:a.tmps[d]? with
   |none=>rfl
   |some x=>cases x<;>first|(exact absurd hx (this _))|rfl
  ·exact h.elim
theorem fK{s s':S}{gd:Option (Nat×Bool)}{b:Bool}(h:∀d want,gd=some (d,want)->s'.env d=s.env d)(hg:dS s gd b):dS s' gd b:=by
 unfold dS at*
 cases gd with
 |none=>exact hg
 |some p=>obtain⟨d,want⟩:=p;simp only at hg|-;rw[h d want rfl];exact hg
theorem B2{s s':S}{x:Operand}(h:∀t,x= .tmp t->s'.env t=s.env t):s'.ev x=s.ev x:=by
 cases x<;>simp only[S.ev]
 exact h _ rfl
theorem ve{s s':S}{op:Op}{c:Call}{f:Operand}{g:FuncId}{first cap:List V}(hv:∀x∈op.operands,s'.ev x=s.ev x)(hc:op= .call c)(eZ:c.callee= .value f)(wP:s.ev f= .func (.func g) first cap):
 s'.ev f= .func (.func g) first cap/\c.args.toList.map s'.ev=c.args.toList.map s.ev:=by
 subst hc
 exact⟨(hv f (by simp only[Op.operands,Call.operands,eZ];exact Array.mem_append.2 (.inl aE))).trans wP,
  List.map_congr_left fun x hx=>hv x YW⟩
theorem AY.frame {g:FuncId}{args:List V}{rd:List Nat}{o o':Nat->ad}{out:R}{Δ:List (Nat×ad)}(ho:∀id∈rd,o' id=o id)(h:AY P g args rd o out Δ):AY P g args rd o' out Δ:=
 ⟨h.1,fun o2 us M φ w vals h1 h2 h3=>h.2 o2 us M φ w vals (fun id ax=>⟨(h1 id ax).1.trans (ho id ax),(h1 id ax).2⟩) h2 h3⟩
theorem AZ.frame {g:FuncId}{args:List V}{rd:List Nat}{o o':Nat->ad}{fr:Nat}{v:V}{Δ:List (Nat×ad)}(ho:∀id∈rd,o' id=o id)(h:AZ P g args rd o fr v Δ):AZ P g args rd o' fr v Δ:=
 ⟨h.1,fun o2 us M φ w vals h1 h2 h3=>h.2 o2 us M φ w vals (fun id ax=>⟨(h1 id ax).1.trans (ho id ax),(h1 id ax).2⟩) h2 h3⟩
theorem Bf{s s':S}{fr:Nat}{op:Op}{v:V}{Δ:List (Nat×ad)}{rd:List Nat}(hv:∀x∈op.operands,s'.ev x=s.ev x)(ho:∀id∈rd,s'.o id=s.o id)(tS:s'.nx=s.nx)(h:xZ P s fr op v Δ rd):∃tO,xZ P s' fr op v Δ tO:=by
 rcases h with⟨⟨tO,h⟩,mC⟩|⟨c,f,g,first,cap,rfl,eZ,wP,h⟩
 ·exact⟨_, .inl ⟨⟨tO,by rw[Ek op hv (by rw[<- mC];exact ho)];exact h⟩,rfl⟩⟩
 ·obtain⟨hf,hm⟩:=ve hv rfl eZ wP
  rcases h with⟨ds,rs,e7,hP,pS,mC,W4⟩|⟨rs,hH,pS,mC⟩|⟨ds,e7,hP,mC,W4⟩|⟨hH,mC⟩
  ·have hr:∀id∈V.aK (first++c.args.toList.map s.ev++cap),s'.o id=s.o id:=fun id ax=>ho id JM
   refine⟨_, .inr ⟨c,f,g,first,cap,rfl,eZ,hf, .inl ⟨ds,rs,by rw[hm,ig _ hr];exact e7,hP,pS,rfl, ?_⟩⟩⟩
   exact QD
  ·exact⟨rd, .inr ⟨c,f,g,first,cap,rfl,eZ,hf, .inr (.inl ⟨rs,by rw[hm];exact hH.frame ho,pS,by rw[tS];exact mC⟩)⟩⟩
  ·have hr:∀id∈V.aK (first++c.args.toList.map s.ev++cap),s'.o id=s.o id:=fun id ax=>ho id JM
   refine⟨_, .inr ⟨c,f,g,first,cap,rfl,eZ,hf, .inr (.inr (.inl ⟨ds,by rw[hm,ig _ hr];exact e7,hP,rfl, ?_⟩))⟩⟩
   exact QD
  ·exact⟨rd, .inr ⟨c,f,g,first,cap,rfl,eZ,hf, .inr (.inr (.inr ⟨by rw[hm];exact hH.frame ho,by rw[tS];exact mC⟩))⟩⟩
theorem B3{s s':S}{op:Op}{v:V}{ws rd:List Nat}(hv:∀x∈op.operands,s'.ev x=s.ev x)(ho:∀id∈rd,s'.o id=s.o id)(tS:s'.nx=s.nx)(h:B1 P s op v ws rd):B1 P s' op v ws rd:=by
 obtain⟨c,f,g,first,cap,rfl,eZ,wP,h⟩:=h
 obtain⟨hf,hm⟩:=ve hv rfl eZ wP
 refine⟨c,f,g,first,cap,rfl,eZ,hf, ?_⟩
 rw[hm]
 rcases h with⟨ds,x,e7,hP,pR,pS,mC,N6⟩|⟨x,Δ,hH,pS,N6,mC⟩
 ·have hr:∀id∈V.aK (first++c.args.toList.map s.ev++cap),s'.o id=s.o id:=fun id ax=>ho id JM
  exact .inl ⟨ds,x,by rw[ig _ hr];exact e7,hP,pR,pS,by rw[mC];simp only[oJ,eZ,wP,hf,hm],N6⟩
 ·exact .inr ⟨x,Δ,hH.frame ho,pS,N6,by rw[tS];exact mC⟩
theorem vf{ops:Array Oper}:∀ (l:List Oper) (l':List bT) (i:Nat) (o:Oper),kS n ops l=some l'->l[i]? =some o->J6 n ops o=some (bZ l' i)
 |[],_,_,_,_,h=>by simp at h
 |x::l,l',i,o,h,hi=>by
  simp only[kS]at h
  split at h
  ·rename_i y ys hy hys
   injection h with h;subst h
   cases i with
   |zero=>simp at hi;subst hi;exact hy
   |succ i=>exact vf l ys i o hys (by simpa using hi)
  ·cases h
theorem x6{ops:Array Oper}{o:Oper}{x:bT}(h:J6 n ops o=some x):x.op=o.op/\x.dst=o.dst/\gG n o.dst/\
 (match o.guard with|none=>x.gd=none|some (j,want)=>∃d,sN ops j=some d/\x.gd=some (d,want)):=by
 unfold J6 at h
 split at h
 ·rename_i hd
  have c7:gG n o.dst:=by
   unfold DN at hd;unfold gG
   split at hd<;>simp_all
  cases hg:o.guard with
  |none=>simp only[hg]at h;injection h with h;subst h;exact⟨rfl,rfl,c7,rfl⟩
  |some p=>
   obtain⟨j,want⟩:=p
   simp only[hg]at h
   cases Rg:sN ops j with
   |none=>simp[Rg]at h
   |some d=>simp only[Rg]at h;injection h with h;subst h;exact⟨rfl,rfl,c7,d,Rg,rfl⟩
 ·cases h
theorem pw{ops:Array Oper}{au:Array Bool}(sU:∀k,k<ops.size->∀j∈bC ops k,j<k)(hs:au.size=ops.size)(hr:Region.ready .any ops au=[]):∀k,k<ops.size->au.getD k false=true:=by
 intro k
 induction k using Nat.strongRecOn with
 |_ k ih=>
  intro hk
  cases hl:au.getD k false with
  |true=>rfl
  |false=>
   have:k∈Region.ready .any ops au:=by
    refine mem_ready.2 ⟨?_,ops[k],by simp[hk],fun e he hb=> ?_⟩
    ·simp only[Array.getD_eq_getD_getElem?]at hl|-
     rw[Array.getElem?_eq_getElem (by omega)]at hl|-
     simpa using hl
    ·have hm:e.on∈bC ops k:=by
      simp only[bC,Array.getElem?_eq_getElem hk,List.mem_map,List.mem_filter]
      exact⟨e,⟨Array.mem_toList_iff.2 he,hb⟩,rfl⟩
     exact ih _ (sU k hk _ hm) (by have:=sU k hk _ hm;omega)
   rw[hr]at this;cases this
theorem B4(hs:cf M cL H0 w0 n cx φ s a w):cf M cL H0 w0 n cx φ s a {w with drawn:=w.drawn+1}:=by
 obtain⟨k1,k2⟩:=fY (w':={w with drawn:=w.drawn+1}) hs.heap ⟨rfl,rfl,rfl,Nat.le_refl _,fun _ _ _=>rfl⟩
 exact⟨k1,hs.tr.trans k2,hs.size,hs.defers.mono k2,fun i=>V.aS k2 _ _ (hs.env i)⟩
theorem kB{oc:Nat->bT}{ac:Nat->fi}{E:Nat->Bool}:∀k,(eI oc ac E s k).nx=s.nx
 |0=>rfl
 |k+1=>by
  simp only[eI]
  split
  ·cases ac k<;>exact kB k
  ·exact kB k
theorem Ge{oc:Nat->bT}{ac:Nat->fi}{E:Nat->Bool}{t:Nat}:∀k,(∀j,j<k->(oc j).dst≠some t)->(eI oc ac E s k).env t=s.env t
 |0,_=>rfl
 |k+1,h=>by
  have ih:=Ge (oc:=oc) (ac:=ac) (E:=E) (t:=t) k fun j hj=>h j af
  simp only[eI]
  split
  ·rw[kI fun d hd e=>h k (by omega) (by rw[hd,e])];exact ih
  ·exact ih
theorem Ri{oc:Nat->bT}{ac:Nat->fi}{E:Nat->Bool}{id:Nat}:∀k,(∀j,j<k->id∉kH (ac j))->(eI oc ac E s k).o id=s.o id
 |0,_=>rfl
 |k+1,h=>by
  have ih:=Ri (oc:=oc) (ac:=ac) (E:=E) (id:=id) k fun j hj=>h j af
  simp only[eI]
  split
  ·rw[nm (h k (by omega))];exact ih
  ·exact ih
theorem B5(bc:P.follows .mixedOrders=true){ops:Array Oper}{l:List bT}{id:Nat}(rY:kS n ops ops.toList=some l)(sU:∀k,k<ops.size->∀j∈bC ops k,j<k){ac:Nat->fi}{dl wl:List Nat}
 (hs:cf M cL H0 w0 n cx φ s a w) (T2:∀i,i<ops.size->Rh P (eI (bZ l) ac (fun _=>true) s i) (s.nx+i) (bZ l i) (ac i))
 (Ik:∀i,i<ops.size->ac i= .eg->∃j∈bC ops i,(ac j).ok=false)
 {po:Nat->Nat->Prop} (Gf:∀E:Nat->Bool,(∀k,k<ops.size->E k=true->∀j∈bC ops k,E j=true)->∀k,k<ops.size->(∀j∈bC ops k,E j=true)->∀j,po k j->E j=true) (B6:∀k,k<ops.size->∀j,po k j->j<k)
 (hc:∀i j,i<j->j<ops.size-> ¬po j i->Compat (bZ l) ac (fun i=>wZ (ac i)) i j)
 (hdl:∀i,i<ops.size->∀t,(bZ l i).dst=some t->dl.contains t=true) (hwl:∀i,i<ops.size->∀id∈kH (ac i),wl.contains id=true)
 (N6:∀i v ws rd,i<ops.size->ac i= .bJ v ws rd->∀id∈ws,wl.contains id=true)
 (hQ:(∀i,i<ops.size->(ac i).ok=true)->∀φ a w,cf M cL H0 w0 n cx φ ⟨(eI (bZ l) ac (fun _=>true) s ops.size).env,(eI (bZ l) ac (fun _=>true) s ops.size).o,s.nx+ops.size⟩ a w->Q .normal a w)
 (hX:∀i v ws rd,i<ops.size->ac i= .bJ v ws rd->∀φ a w val,cf M cL H0 w0 n cx φ (u9 dl wl ops.size s) a w->V.den (ak M φ (u9 dl wl ops.size s).H) φ (u9 dl wl ops.size s).H w v val->Q (.panic [{v:=val,recovered:=false}]) a w):
 (Code.region id ops true).wpIn (dP ro) k P Q a w:=by
 refine wpIn_region_any bc ?_
 have hs:=B4 hs
 generalize ({w with drawn:=w.drawn+1}:World)=w at hs
 let N:=ops.size
 let Ef (au:Array Bool) (k:Nat):Bool:=au.getD k false
 let FJ (au:Array Bool) (j:Nat):Prop:=j<s.nx\/∃k,k<N/\Ef au k=true/\j=s.nx+k
 have key:∀ (fuel:Nat) (au:Array Bool) (φ:Place) (a:Act) (w:World),au.size=N->au.count true+fuel=N->(∀k,k<N->Ef au k=true->∀j∈bC ops k,Ef au j=true)->(∀k,k<N->Ef au k=true->(ac k).ok=true)->
  tI M cL H0 w0 n cx φ (eI (bZ l) ac (Ef au) s N) (FJ au) a w->wpAnyIn (dP ro) k P .any ops Q fuel au a w:=by
  have fin:∀ (au:Array Bool) (φ:Place) (a:Act) (w:World),(∀k,k<N->Ef au k=true)->(∀k,k<N->Ef au k=true->(ac k).ok=true)->tI M cL H0 w0 n cx φ (eI (bZ l) ac (Ef au) s N) (FJ au) a w->Q .normal a w:=by
   intro au φ a w a7 Er hu
   have e:∀k,k<=N->eI (bZ l) ac (Ef au) s k=eI (bZ l) ac (fun _=>true) s k:=by
    intro k
    induction k with
    |zero=>intro _;rfl
    |succ k ih=>intro hk;simp only[eI,a7 k (by omega),ih (by omega)]
   rw[e N (Nat.le_refl _)]at hu
   obtain⟨k1,k2⟩:=j6 (us':=fun id=>id<s.nx+N) hu.heap (fun id h=>by
    show id<s.nx+N
    rcases h with h|⟨k,hk,_,rfl⟩<;>omega)
   exact hQ (fun i hi=>Er i hi (a7 i hi)) φ a w ⟨k1,hu.tr.trans k2,hu.size,hu.defers.mono k2,fun i=>V.aS k2 _ _ (hu.env i)⟩
  intro fuel
  induction fuel with
  |zero=>
   intro au φ a w eh Il rv Er hu
   have a7:∀k,k<N->Ef au k=true:=by
    intro k hk
    have h1:au.count true=au.size:=af
    rw[Array.count_eq_size]at h1
    have:=h1 au[k] (Array.getElem_mem af)
    simp only[Ef,Array.getD_eq_getD_getElem?]
    rw[Array.getElem?_eq_getElem (by omega)]
    simpa using this.symm
   refine⟨?_,fin au φ a w a7 Er hu⟩
   rw[List.eq_nil_iff_forall_not_mem]
   intro k hk
   obtain⟨h1,o,h2,_⟩:=mem_ready.1 hk
   have hkN:k<N:=(Array.getElem?_eq_some_iff.1 h2).1
   have:=a7 k hkN
   simp only[Ef,Array.getD_eq_getD_getElem?]at this h1
   rw[Array.getElem?_eq_getElem (by omega)]at this h1
   simp only[Option.getD_some]at this h1
   rw[this]at h1;cases h1
  |succ fuel ih=>
   intro au φ a w eh Il rv Er hu
   refine⟨fun hr=>fin au φ a w (pw sU eh hr) Er hu,fun i hi=> ?_⟩
   obtain⟨h1,o,h2,h3⟩:=mem_ready.1 hi
   have tJ:i<N:=(Array.getElem?_eq_some_iff.1 h2).1
   have lJ:Ef au i=false:=by
    simp only[Ef,Array.getD_eq_getD_getElem?]at h1|-
    rw[Array.getElem?_eq_getElem (by omega)]at h1|-
    simpa using h1
   have KQ:∀j∈bC ops i,Ef au j=true:=by
    exact Tz
   have KU:zP N po (Ef au):=fun k hk iY=>Gf _ rv k hk (rv k hk iY)
   obtain⟨ag1,ag2⟩:=agree (s:=s) B6 hc KU tJ lJ (Gf _ rv i tJ KQ)
   obtain⟨g1,g2,g3,g4⟩:=x6 (vf _ _ i o rY xq)
   have cY: ¬FJ au (s.nx+i):=by
    rintro(h|⟨k,_,hk,he⟩)
    ·omega
    ·have:k=i:=af
     subst this;rw[lJ]at hk;cases hk
   have Ep:∀k,Ef (au.setIfInBounds i true) k=(Ef au k||k==i):=by
    intro k
    simp only[Ef,Array.getD_eq_getD_getElem?]
    by_cases e:k=i
    ·subst e;simp[eh,tJ]
    ·rw[Array.getElem?_setIfInBounds_ne (Ne.symm e)]
     have:(k==i)=false:=by simpa using e
     simp[this]
   have T3:=insert (s:=s) hc KU tJ lJ Ep
   have T4:∀k,k<N->Ef (au.setIfInBounds i true) k=true->∀j∈bC ops k,Ef (au.setIfInBounds i true) j=true:=by
    intro k hk iY j hj
    rw[Ep]at iY|-
    by_cases e:k=i
    ·subst e;simp[KQ j hj]
    ·have:(k==i)=false:=by simpa using e
     rw[this,Bool.or_false]at iY
     simp[rv k hk iY j hj]
   have KW:(au.setIfInBounds i true).count true+fuel=N:=by
    have ck:i<au.size:=af
    have e1:au.setIfInBounds i true=au.set i true ck:=by simp[Array.setIfInBounds,ck]
    have e2:au[i]=false:=by
     have:=lJ
     simp only[Ef,Array.getD_eq_getD_getElem?]at this
     rw[Array.getElem?_eq_getElem ck]at this
     simpa using this
    rw[e1,Array.count_set ck,e2]
    simp
    omega
   have iX:(ac i).ok=true->∀aF a' w',tI M cL H0 w0 n cx aF (wJ o.dst (ac i) (eI (bZ l) ac (Ef au) s N)) (fun id=>FJ au id\/id=s.nx+i) a' w'->wpAnyIn (dP ro) k P .any ops Q fuel (au.setIfInBounds i true) a' w':=by
    intro aaf aF a' w' A9
    refine ih _ aF a' w' (by simp[eh]) KW T4 (fun k hk iY=> ?_) ?_
    ·rw[Ep]at iY
     by_cases e:k=i
     ·subst e;exact aaf
     ·have:(k==i)=false:=by simpa using e
      rw[this,Bool.or_false]at iY
      exact Er k hk iY
    rw[T3,g2]
    obtain⟨k1,k2⟩:=j6 (us':=FJ (au.setIfInBounds i true)) A9.heap (fun id h=>by
     rcases h with(h|⟨k,hk,iY,rfl⟩)|rfl
     ·exact .inl h
     ·exact .inr ⟨k,hk,by rw[Ep,iY];rfl,rfl⟩
     ·exact .inr ⟨i,tJ,by rw[Ep];simp,rfl⟩)
    exact YZ
   have Im:∀d want,(bZ l i).gd=some (d,want)->(eI (bZ l) ac (Ef au) s N).env d=(eI (bZ l) ac (fun _=>true) s i).env d:=fun d want hd=>ag1 d (by simp[e8,tmpsOf,hd])
   have aV:=T2 i tJ
   have J4:∀x∈(bZ l i).op.operands,(eI (bZ l) ac (Ef au) s N).ev x=(eI (bZ l) ac (fun _=>true) s i).ev x:=fun x hx=>B2 fun t ht=>ag1 t (by
    subst ht
    simp only[e8,tmpsOf,List.mem_append,List.mem_filterMap]
    exact .inl (.inl ⟨.tmp t,Array.mem_toList_iff.2 hx,rfl⟩))
   have TK:(eI (bZ l) ac (Ef au) s N).nx=(eI (bZ l) ac (fun _=>true) s i).nx:=(kB N).trans (kB i).symm
   unfold wpOpIn
   simp only[h2]
   cases wI:ac i with
   |skip=>
    rw[wI]at aV iX
    have hw:=fI hu.env g4 (fK Im aV)
    simp only[hw,Bool.false_eq_true,if_false]
    refine⟨fun _ _=>trivial,iX rfl φ _ w ?_⟩
    have:=ju (v:= .bP []) (val:=undef) hu hu.heap (Trans.refl _ _ _) ⟨#[],rfl,rfl⟩ (dst:=o.dst) g3 rfl (us':=fun id=>FJ au id\/id=s.nx+i) (fun id h=> .inl h)
    exact this
   |val v Δ rd=>
    rw[wI]at aV iX
    have hw:=fI hu.env g4 (fK Im aV.1)
    exact Zx
   |bJ v ws rd=>
    rw[wI]at aV
    have hw:=fI hu.env g4 (fK Im aV.1)
    simp only[hw,if_true]
    have jT:=B3 J4 (fun id ax=>ag2 id (by rw[wI];exact ax)) TK aV.2
    refine KT (s0:=s) (ds:=dl) (wl:=wl) (N:=N) hu (fun id h=> .inl (by rw[kB]at h;exact h)) (fun id h=> ?_) g1.symm jT (fun t ht=> ?_) (fun id ax=> ?_) (N6 i v ws rd tJ wI) (kB N).symm (fun aF w' val h1 h2=>hX i v ws rd tJ wI aF a w' val h1 h2)
    ·rw[kB]
     rcases h with h|⟨k,hk,_,rfl⟩<;>omega
    ·refine Ge N fun j hj e=> ?_
     have:=hdl j hj t e
     rw[ht]at this;cases this
    ·refine Ri N fun j hj hm=> ?_
     have:=hwl j hj id hm
     rw[ax]at this;cases this
   |eg=>
    exfalso
    obtain⟨j,hj,T5⟩:=Ik i tJ wI
    have:=Er j (Nat.lt_trans (sU i tJ j hj) tJ) (KQ j hj)
    rw[T5]at this;cases this
 refine key ops.size _ φ a w (by simp[N]) (by simp[N,Array.count_replicate]) (fun k hk iY=> ?_) (fun k hk iY=> ?_) ?_
 ·exact zw4
 ·exact zw4
 ·have e:∀k,eI (bZ l) ac (Ef (Array.replicate ops.size false)) s k=s:=by
   intro k
   induction k with
   |zero=>rfl
   |succ k ih=>
    have:Ef (Array.replicate ops.size false) k=false:=by
     exact QA
    simp only[eI,this,ih]
    rfl
  exact ZE
end
end
section
section
variable {P:Program}{M:Nat->Prop}{φ cL:Place}{H0:Hp}{w w' w0:World}{n:Nat}{s:S}{us:Nat->Prop}{a:Act}{cx:Cx}{ro:Option Nat}{k:Nat}
variable {Q:Exit->Act->World->Prop}
theorem Io{ops:Array Oper}{po:Nat->Nat->Prop}{m:Nat}{X:V->S->Prop}{K:S->Prop}
 (sU:∀k,k<ops.size->∀j∈bC ops k,j<k)
 (Gf:∀E:Nat->Bool,(∀k,k<ops.size->E k=true->∀j∈bC ops k,E j=true)->∀k,k<ops.size->(∀j∈bC ops k,E j=true)->∀j,po k j->E j=true)
 (Gg:∀k,m<=k->k<ops.size->∀j,j<k->po k j)
 (hK:∀s φ a w,K s->cf M cL H0 w0 n cx φ s a w->Q .normal a w)
 (hX:∀v s' aF a' w' val,X v s'->cf M cL H0 w0 n cx aF s' a' w'->V.den (ak M aF s'.H) aF s'.H w' v val->Q (.panic [{v:=val,recovered:=false}]) a' w'):
 ∀ (d t:Nat) (s:S) (φ:Place) (au:Array Bool) (a:Act) (w:World),t+d=ops.size->au.size=ops.size->(∀k,k<ops.size->au.getD k false=decide (k<t))->m<=t->
   cf M cL H0 w0 n cx φ s a w->zm P n ops X K (ops.toList.drop t) s->wpAnyIn (dP ro) k P .any ops Q d au a w:=by
 intro d
 induction d with
 |zero=>
  intro t s φ au a w ht eh hl Jn hs h
  have e:t=ops.size:=af
  subst e
  refine⟨?_, ?_⟩
  ·rw[List.eq_nil_iff_forall_not_mem]
   intro j hj
   obtain⟨h1,o,h2,_⟩:=mem_ready.1 hj
   have hjN:j<ops.size:=(Array.getElem?_eq_some_iff.1 h2).1
   have:=hl j hjN
   simp only[Array.getD_eq_getD_getElem?]at this h1
   rw[Array.getElem?_eq_getElem (by omega)]at this h1
   simp only[Option.getD_some]at this h1
   rw[h1]at this
   simp[hjN]at this
  ·rw[List.drop_eq_nil_of_le (by simp)]at h
   exact hK s φ a w h hs
 |succ d ih=>
  intro t s φ au a w ht eh hl Jn hs h
  have htN:t<ops.size:=af
  refine⟨fun hr=> ?_,fun i hi=> ?_⟩
  ·have:=pw sU eh hr t htN
   rw[hl t htN]at this
   simp at this
  ·obtain⟨h1,o,h2,h3⟩:=mem_ready.1 hi
   have tJ:i<ops.size:=(Array.getElem?_eq_some_iff.1 h2).1
   have lJ:au.getD i false=false:=by
    simp only[Array.getD_eq_getD_getElem?]at h1|-
    rw[Array.getElem?_eq_getElem (by omega)]at h1|-
    simpa using h1
   have hit:t<=i:=by
    have:=hl i tJ
    rw[lJ]at this
    have:=of_decide_eq_false this.symm
    omega
   have KQ:∀j∈bC ops i,au.getD j false=true:=by
    exact Tz
   have rv:∀k,k<ops.size->au.getD k false=true->∀j∈bC ops k,au.getD j false=true:=by
    intro k hk iY j hj
    have QQ:=sU k hk j hj
    rw[hl k hk]at iY
    rw[hl j (by omega)]
    have:=of_decide_eq_true iY
    exact decide_eq_true af
   have hie:i=t:=by
    rcases Nat.eq_or_lt_of_le hit with e|e
    ·exact e.symm
    ·have:=Gf (fun k=>au.getD k false) rv i tJ KQ t (Gg i af tJ t e)
     rw[hl t htN]at this
     simp at this
   subst hie
   have B7:ops.toList.drop i=o::ops.toList.drop (i+1):=by
    have TX:i<ops.toList.length:=by simpa using tJ
    rw[List.drop_eq_getElem_cons TX]
    have:ops.toList[i]=o:=by
     have:=(Array.getElem?_eq_some_iff.1 h2).2
     simpa using this
    rw[this]
   rw[B7]at h
   obtain⟨g1,g2⟩:=qs hs h
   have HZ:∀k,k<ops.size->(au.setIfInBounds i true).getD k false=decide (k<i+1):=by
    intro k hk
    simp only[Array.getD_eq_getD_getElem?]
    by_cases e:k=i
    ·subst e;simp[eh,tJ]
    ·rw[Array.getElem?_setIfInBounds_ne (Ne.symm e)]
     have:=hl k hk
     simp only[Array.getD_eq_getD_getElem?]at this
     rw[this]
     exact decide_eq_decide.2 af
   have iX:∀s' aF a' w',zm P n ops X K (ops.toList.drop (i+1)) s'->cf M cL H0 w0 n cx aF s' a' w'->wpAnyIn (dP ro) k P .any ops Q d (au.setIfInBounds i true) a' w':=
    fun s' aF a' w' hk jV=>ih (i+1) s' aF _ a' w' af (by simp[eh]) HZ af jV hk
   unfold wpOpIn
   simp only[h2]
   split
   ·rename_i hw
    exact xT hs (g1 hw) (fun s' aF a' w' hk jV=>iX s' aF a' w' hk jV) (fun v s' aF w' val hx jV hd=>hX v s' aF a w' val hx jV hd)
   ·rename_i hw
    obtain⟨c7,h3⟩:=g2 (by simpa using hw)
    exact⟨fun _ _=>trivial,iX _ _ _ _ h3 (BO hs c7)⟩
theorem Es(bc:P.follows .mixedOrders=true){ops:Array Oper}{l:List bT}{id:Nat}(rY:kS n ops ops.toList=some l)(sU:∀k,k<ops.size->∀j∈bC ops k,j<k){ac:Nat->fi}{m:Nat}(hm:m<=ops.size){X:V->S->Prop}{K:S->Prop}
 (hs:cf M cL H0 w0 n cx φ s a w) (T2:∀i,i<m->Rh P (eI (bZ l) ac (fun _=>true) s i) (s.nx+i) (bZ l i) (ac i))
 (aag:∀i,i<m->(ac i).ok=true)
 {po:Nat->Nat->Prop} (Gf:∀E:Nat->Bool,(∀k,k<ops.size->E k=true->∀j∈bC ops k,E j=true)->∀k,k<ops.size->(∀j∈bC ops k,E j=true)->∀j,po k j->E j=true) (B6:∀k,k<ops.size->∀j,po k j->j<k)
 (hc:∀i j,i<j->j<m-> ¬po j i->Compat (bZ l) ac (fun i=>wZ (ac i)) i j)
 (Gg:∀k,m<=k->k<ops.size->∀j,j<k->po k j)
 (eD:zm P n ops X K (ops.toList.drop m) ⟨(eI (bZ l) ac (fun _=>true) s m).env,(eI (bZ l) ac (fun _=>true) s m).o,s.nx+m⟩)
 (hK:∀s φ a w,K s->cf M cL H0 w0 n cx φ s a w->Q .normal a w)
 (hX:∀v s' aF a' w' val,X v s'->cf M cL H0 w0 n cx aF s' a' w'->V.den (ak M aF s'.H) aF s'.H w' v val->Q (.panic [{v:=val,recovered:=false}]) a' w'):
 (Code.region id ops true).wpIn (dP ro) k P Q a w:=by
 refine wpIn_region_any bc ?_
 have hs:=B4 hs
 generalize ({w with drawn:=w.drawn+1}:World)=w at hs
 let N:=m
 let Ef (au:Array Bool) (k:Nat):Bool:=au.getD k false
 let FJ (au:Array Bool) (j:Nat):Prop:=j<s.nx\/∃k,k<N/\Ef au k=true/\j=s.nx+k
 have key:∀ (fuel:Nat) (au:Array Bool) (φ:Place) (a:Act) (w:World),au.size=ops.size->au.count true+fuel=ops.size->(∀k,k<ops.size->Ef au k=true->∀j∈bC ops k,Ef au j=true)->(∀k,k<ops.size->Ef au k=true->k<m)->
  tI M cL H0 w0 n cx φ (eI (bZ l) ac (Ef au) s N) (FJ au) a w->wpAnyIn (dP ro) k P .any ops Q fuel au a w:=by
  have fin:∀ (fuel:Nat) (au:Array Bool) (φ:Place) (a:Act) (w:World),au.size=ops.size->au.count true+fuel=ops.size->(∀k,k<ops.size->Ef au k=true->k<m)->(∀k,k<N->Ef au k=true)->tI M cL H0 w0 n cx φ (eI (bZ l) ac (Ef au) s N) (FJ au) a w->wpAnyIn (dP ro) k P .any ops Q fuel au a w:=by
   intro fuel au φ a w eh Il ck a7 hu
   have e:∀k,k<=N->eI (bZ l) ac (Ef au) s k=eI (bZ l) ac (fun _=>true) s k:=by
    intro k
    induction k with
    |zero=>intro _;rfl
    |succ k ih=>intro hk;simp only[eI,a7 k (by omega),ih (by omega)]
   rw[e N (Nat.le_refl _)]at hu
   obtain⟨k1,k2⟩:=j6 (us':=fun id=>id<s.nx+N) hu.heap (fun id h=>by
    show id<s.nx+N
    rcases h with h|⟨k,hk,_,rfl⟩<;>omega)
   have hlv:∀k,k<ops.size->au.getD k false=decide (k<m):=by
    intro k hk
    by_cases h:k<m
    ·rw[decide_eq_true h];exact a7 k h
    ·rw[decide_eq_false h]
     cases hb:au.getD k false with
     |false=>rfl
     |true=>exact absurd (ck k hk hb) h
   have hcm:au.count true=m:=by
    have e1:au=Array.ofFn (n:=ops.size) fun k=>decide (k.1<m):=by
     apply Array.ext
     ·simp[eh]
     ·intro k h1 h2
      have:=hlv k af
      simp only[Array.getD_eq_getD_getElem?]at this
      rw[Array.getElem?_eq_getElem h1]at this
      simpa using this
    have e2:au.toList=List.replicate m true++List.replicate (ops.size - m) false:=by
     apply List.ext_getElem?
     intro k
     by_cases hk:k<ops.size
     ·have h1:au.toList[k]? =some (decide (k<m)):=by
       have:=hlv k hk
       simp only[Array.getD_eq_getD_getElem?]at this
       rw[Array.getElem?_eq_getElem (by omega)]at this
       simp only[Option.getD_some]at this
       rw[Array.getElem?_toList,Array.getElem?_eq_getElem (by omega),this]
      rw[h1]
      by_cases h:k<m
      ·rw[List.getElem?_append_left (by simpa using h)]
       simp[h]
      ·rw[List.getElem?_append_right (by simpa using(by omega:m<=k))]
       rw[List.length_replicate,List.getElem?_replicate,if_pos (by omega),decide_eq_false h]
     ·rw[List.getElem?_eq_none (by simp[eh];omega),List.getElem?_eq_none (by simp;omega)]
    rw[<- Array.count_toList,e2,List.count_append,List.count_replicate_self,List.count_replicate]
    simp
   exact Io sU Gf Gg hK hX fuel m ⟨(eI (bZ l) ac (fun _=>true) s m).env,(eI (bZ l) ac (fun _=>true) s m).o,s.nx+m⟩ φ au a w af eh hlv (Nat.le_refl _) ⟨k1,hu.tr.trans k2,hu.size,hu.defers.mono k2,fun i=>V.aS k2 _ _ (hu.env i)⟩ eD
  intro fuel
  induction fuel with
  |zero=>
   intro au φ a w eh Il rv ck hu
   have a7:∀k,k<ops.size->Ef au k=true:=by
    intro k hk
    have h1:au.count true=au.size:=af
    rw[Array.count_eq_size]at h1
    have:=h1 au[k] (Array.getElem_mem af)
    simp only[Ef,Array.getD_eq_getD_getElem?]
    rw[Array.getElem?_eq_getElem (by omega)]
    simpa using this.symm
   exact fin 0 au φ a w eh Il ck (fun k hk=>a7 k af) hu
  |succ fuel ih=>
   intro au φ a w eh Il rv ck hu
   by_cases Rj:∀k,k<m->Ef au k=true
   ·exact fin (fuel+1) au φ a w eh Il ck Rj hu
   have hex:∃j,j<m/\Ef au j=false:=by
    apply Classical.byContradiction
    intro oI
    refine Rj fun k hk=> ?_
    cases hb:Ef au k with
    |true=>rfl
    |false=>exact absurd ⟨k,hk,hb⟩ oI
   obtain⟨j0,hj0,aah⟩:=hex
   refine⟨fun hr=> ?_,fun i hi=> ?_⟩
   ·have:=pw sU eh hr j0 af
    rw[show au.getD j0 false=false from aah]at this
    cases this
   obtain⟨h1,o,h2,h3⟩:=mem_ready.1 hi
   have hiS:i<ops.size:=(Array.getElem?_eq_some_iff.1 h2).1
   have lJ:Ef au i=false:=by
    simp only[Ef,Array.getD_eq_getD_getElem?]at h1|-
    rw[Array.getElem?_eq_getElem (by omega)]at h1|-
    simpa using h1
   have KQ:∀j∈bC ops i,Ef au j=true:=by
    exact Tz
   have tJ:i<N:=by
    apply Classical.byContradiction
    intro AS
    have AS:m<=i:=Nat.le_of_not_lt AS
    have:=Gf _ rv i hiS KQ j0 (Gg i AS hiS j0 af)
    rw[aah]at this;cases this
   have KU:zP N po (Ef au):=fun k hk iY=>Gf _ rv k af (rv k af iY)
   obtain⟨ag1,ag2⟩:=agree (s:=s) (n:=N) (fun k hk=>B6 k af) hc KU tJ lJ (Gf _ rv i af KQ)
   obtain⟨g1,g2,g3,g4⟩:=x6 (vf _ _ i o rY xq)
   have cY: ¬FJ au (s.nx+i):=by
    rintro(h|⟨k,_,hk,he⟩)
    ·omega
    ·have:k=i:=af
     subst this;rw[lJ]at hk;cases hk
   have Ep:∀k,Ef (au.setIfInBounds i true) k=(Ef au k||k==i):=by
    intro k
    simp only[Ef,Array.getD_eq_getD_getElem?]
    by_cases e:k=i
    ·subst e;simp[eh,hiS]
    ·rw[Array.getElem?_setIfInBounds_ne (Ne.symm e)]
     have:(k==i)=false:=by simpa using e
     simp[this]
   have T3:=insert (s:=s) hc KU tJ lJ Ep
   have T4:∀k,k<ops.size->Ef (au.setIfInBounds i true) k=true->∀j∈bC ops k,Ef (au.setIfInBounds i true) j=true:=by
    intro k hk iY j hj
    rw[Ep]at iY|-
    by_cases e:k=i
    ·subst e;simp[KQ j hj]
    ·have:(k==i)=false:=by simpa using e
     rw[this,Bool.or_false]at iY
     simp[rv k hk iY j hj]
   have KW:(au.setIfInBounds i true).count true+fuel=ops.size:=by
    have ck:i<au.size:=af
    have e1:au.setIfInBounds i true=au.set i true ck:=by simp[Array.setIfInBounds,ck]
    have e2:au[i]=false:=by
     have:=lJ
     simp only[Ef,Array.getD_eq_getD_getElem?]at this
     rw[Array.getElem?_eq_getElem ck]at this
     simpa using this
    rw[e1,Array.count_set ck,e2]
    simp
    omega
   have iX:(ac i).ok=true->∀aF a' w',tI M cL H0 w0 n cx aF (wJ o.dst (ac i) (eI (bZ l) ac (Ef au) s N)) (fun id=>FJ au id\/id=s.nx+i) a' w'->wpAnyIn (dP ro) k P .any ops Q fuel (au.setIfInBounds i true) a' w':=by
    intro aaf aF a' w' A9
    refine ih _ aF a' w' (by simp[eh]) KW T4 (fun k hk iY=> ?_) ?_
    ·rw[Ep]at iY
     by_cases e:k=i
     ·subst e;exact tJ
     ·have:(k==i)=false:=by simpa using e
      rw[this,Bool.or_false]at iY
      exact ck k hk iY
    rw[T3,g2]
    obtain⟨k1,k2⟩:=j6 (us':=FJ (au.setIfInBounds i true)) A9.heap (fun id h=>by
     rcases h with(h|⟨k,hk,iY,rfl⟩)|rfl
     ·exact .inl h
     ·exact .inr ⟨k,hk,by rw[Ep,iY];rfl,rfl⟩
     ·exact .inr ⟨i,tJ,by rw[Ep];simp,rfl⟩)
    exact YZ
   have Im:∀d want,(bZ l i).gd=some (d,want)->(eI (bZ l) ac (Ef au) s N).env d=(eI (bZ l) ac (fun _=>true) s i).env d:=fun d want hd=>ag1 d (by simp[e8,tmpsOf,hd])
   have aV:=T2 i tJ
   have J4:∀x∈(bZ l i).op.operands,(eI (bZ l) ac (Ef au) s N).ev x=(eI (bZ l) ac (fun _=>true) s i).ev x:=fun x hx=>B2 fun t ht=>ag1 t (by
    subst ht
    simp only[e8,tmpsOf,List.mem_append,List.mem_filterMap]
    exact .inl (.inl ⟨.tmp t,Array.mem_toList_iff.2 hx,rfl⟩))
   have TK:(eI (bZ l) ac (Ef au) s N).nx=(eI (bZ l) ac (fun _=>true) s i).nx:=(kB N).trans (kB i).symm
   unfold wpOpIn
   simp only[h2]
   cases wI:ac i with
   |skip=>
    rw[wI]at aV iX
    have hw:=fI hu.env g4 (fK Im aV)
    simp only[hw,Bool.false_eq_true,if_false]
    refine⟨fun _ _=>trivial,iX rfl φ _ w ?_⟩
    have:=ju (v:= .bP []) (val:=undef) hu hu.heap (Trans.refl _ _ _) ⟨#[],rfl,rfl⟩ (dst:=o.dst) g3 rfl (us':=fun id=>FJ au id\/id=s.nx+i) (fun id h=> .inl h)
    exact this
   |val v Δ rd=>
    rw[wI]at aV iX
    have hw:=fI hu.env g4 (fK Im aV.1)
    exact Zx
   |bJ v ws rd=>
    have:=aag i tJ
    rw[wI]at this;cases this
   |eg=>
    have:=aag i tJ
    rw[wI]at this;cases this
 refine key ops.size _ φ a w aE (by simp[Array.count_replicate]) (fun k hk iY=> ?_) (fun k hk iY=> ?_) ?_
 ·exact zw4
 ·exact zw4
 ·have e:∀k,eI (bZ l) ac (Ef (Array.replicate ops.size false)) s k=s:=by
   intro k
   induction k with
   |zero=>rfl
   |succ k ih=>
    have:Ef (Array.replicate ops.size false) k=false:=by
     exact QA
    simp only[eI,this,ih]
    rfl
  exact ZE
end
end
end Go.Proofs.YtlhemmpklhhgoaaGreat
