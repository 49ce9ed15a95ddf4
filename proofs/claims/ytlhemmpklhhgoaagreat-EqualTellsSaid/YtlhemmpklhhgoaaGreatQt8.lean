/-
  A PART OF THE PROOF. Conditions: none.
-/
import Derived.OrdersIn
import Derived.Test.YtlhemmpklhhgoaaGreatQt7
set_option linter.unusedSimpArgs false
set_option linter.unusedVariables false
namespace Go.Proofs.YtlhemmpklhhgoaaGreat
section
def ab.refs:ab->List Nat
 | .row cs=>V.aO cs
 | .loop _ _ env _ _ _ _ _=>V.aO env
 |_=>[]
def EC(R:List Nat)(o:Nat->ab):Nat->ab:=fun id=>if R.contains id=true then o id else .no
def Bn(P:Program)(g:FuncId)(args:List V)(rd:List Nat)(o:Nat->ab)(out:R)(Δ:List (Nat×ab)):Prop:=
 Enters P g/\∀ (o':Nat->ab) (us:Nat->Prop) (M:Nat->Prop) (φ:Place) (w:World) (vals:Array Value),(∀id∈rd,o' id=o id/\us id)->az M φ ⟨o',us⟩ w->V.aD (aq M φ ⟨o',us⟩) φ ⟨o',us⟩ w args vals.toList->
  Calls P g vals w fun e w'=>∃aI,az M aI ⟨put o' Δ,us⟩ w'/\Trans φ ⟨o',us⟩ w aI ⟨put o' Δ,us⟩ w'/\out.is (aq M aI ⟨put o' Δ,us⟩) w' e
def Bo(P:Program)(g:FuncId)(args:List V)(rd:List Nat)(o:Nat->ab)(fr:Nat)(v:V)(Δ:List (Nat×ab)):Prop:=
 Enters P g/\∀ (o':Nat->ab) (us:Nat->Prop) (M:Nat->Prop) (φ:Place) (w:World) (vals:Array Value),(∀id∈rd,o' id=o id/\us id)-> ¬us fr->az M φ ⟨o',us⟩ w->V.aD (aq M φ ⟨o',us⟩) φ ⟨o',us⟩ w args vals.toList->
  Calls P g vals w fun e w'=>∃aI,az M aI ⟨put o' Δ,fun id=>us id\/id=fr⟩ w'/\Trans φ ⟨o',us⟩ w aI ⟨put o' Δ,fun id=>us id\/id=fr⟩ w'/\∃val,e= .returned val/\V.den (aq M aI ⟨put o' Δ,fun id=>us id\/id=fr⟩) aI ⟨put o' Δ,fun id=>us id\/id=fr⟩ w' v val
mutual
theorem V.nv {B B':Nat->Prop}{φ aI:Place}{H H':Hp}{w:World}(hB:∀b, ¬B b-> ¬B' b):∀ (v:V) (val:Value),(∀id∈v.refs,H'.o id=H.o id/\aI id=φ id/\H'.us id)->V.den B φ H w v val->V.den B' aI H' w v val
 | .d x,val,_,h=>D.aT (w:=w) (w':=w) (fun b _ hn=>⟨rfl,hB b hn⟩) x val h
 | .ax,_,_,h=>h
 | .ad,_,_,_=>trivial
 | .fC,_,_,h=>h
 | .oV es,val,_,h=>⟨D.aT (w:=w) (w':=w) (fun b _ hn=>⟨rfl,hB b hn⟩) (.sl es) val h.1,h.2⟩
 | .agg cs,val,hr,h=>by
   obtain⟨a,rfl,h1,h2⟩:=h
   exact⟨a,rfl,V.gv hB cs _ xT h1,h2⟩
 | .bS cs,val,hr,h=>by
   obtain⟨a,rfl,h1⟩:=h
   exact⟨a,rfl,V.gv hB cs _ xT h1⟩
 | .ptr id off,val,hr,h=>by
   exact zw6
 | .osl id ep,val,hr,h=>by
   obtain⟨a,b,c⟩:=hr id rP
   obtain⟨h0,h1,h2⟩:=h
   refine⟨h0,c,fun e he=> ?_⟩
   rw[a]at he
   obtain⟨x,y⟩:=h2 e he
   exact⟨x,fun heq=>(y heq).trans b.symm⟩
 | .pe id ep i sz off,val,hr,h=>by
   obtain⟨a,b,c⟩:=hr id rP
   obtain⟨h0,h1,h2⟩:=h
   refine⟨h0,c,fun e he=> ?_⟩
   rw[a]at he
   obtain⟨x,y⟩:=h2 e he
   exact Qw
 | .pp cs off,val,_,h=>by
   obtain⟨a,ev,h1,h2,h3,h5,h4⟩:=h
   exact Yw
 | .func fn first cap,val,hr,h=>by
   obtain⟨f,c,rfl,h1,h2⟩:=h
   exact⟨f,c,rfl,V.gv hB first _ (fun id aw=>hr id (by simp[V.refs,aw])) h1,V.gv hB cap _ (fun id aw=>hr id (by simp[V.refs,aw])) h2⟩
 | .iface t x,val,hr,h=>by
   obtain⟨u,rfl,h⟩:=h
   exact⟨u,rfl,V.nv hB x u xT h⟩
 | .x4 id off n,val,hr,h=>by
   exact zw6
 | .mp id,val,hr,h=>by
   obtain⟨a,b,c⟩:=hr id rP
   obtain⟨h0,h1,h2⟩:=h
   refine⟨h0,c,fun cV=> ?_⟩
   rw[a]at cV
   exact(h2 cV).trans b.symm
 | .kn id,val,hr,h=>by
   exact zw6
theorem V.gv {B B':Nat->Prop}{φ aI:Place}{H H':Hp}{w:World}(hB:∀b, ¬B b-> ¬B' b):∀ (vs:List V) (vals:List Value),(∀id∈V.aO vs,H'.o id=H.o id/\aI id=φ id/\H'.us id)->V.aD B φ H w vs vals->V.aD B' aI H' w vs vals
 |[],_,_,h=>h
 |v::vs,_,hr,h=>by
  obtain⟨u,us,rfl,h1,h2⟩:=h
  exact⟨u,us,rfl,V.nv hB v u (fun id aw=>hr id (by simp[V.aO,aw])) h1,V.gv hB vs us (fun id aw=>hr id (by simp[V.aO,aw])) h2⟩
end
theorem Ie{env:List V}{i id:Nat}(h:id∈(aY env i).refs):id∈V.aO env:=by
 unfold aY at h
 induction env generalizing i with
 |nil=>simp[V.refs]at h
 |cons v env ih=>
  cases i with
  |zero=>simp only[List.getD_cons_zero]at h;simp[V.aO,h]
  |succ i=>simp only[List.getD_cons_succ]at h;simp[V.aO,ih h]
theorem aR.refs {M M':Nat->Prop}{φ aI:Place}{H H':Hp}{w:World}{id:Nat}(hB:∀b, ¬aq M φ H b-> ¬aq M' aI H' b)(ho:H'.o id=H.o id)(eQ:aI id=φ id)
 (hr:∀j∈(H.o id).refs,H'.o j=H.o j/\aI j=φ j/\H'.us j) (h:aR M φ H w id):aR M' aI H' w id:=by
 have hd:∀b,cY w b-> ¬aq M φ H b->w.heap[b]? =w.heap[b]? /\ ¬aq M' aI H' b:=fun b _ hn=>⟨rfl,hB b hn⟩
 unfold aR at*
 rw[ho]
 cases hx:H.o id with
 |no=>trivial
 |row cs=>
  simp only[hx]at h|-
  obtain⟨b,dV,ty,h1,h2,h3,h4⟩:=h
  exact⟨b,dV,ty,eQ.trans h1,h2,V.gv hB cs _ (fun j hj=>hr j (by rw[hx];exact hj)) h3,h4⟩
 |arr ep ty sz es=>
  simp only[hx]at h|-
  obtain⟨h0,xs,h1,evs,h2,h3,h4⟩:=h
  exact⟨h0,xs,by rw[eQ];exact h1,evs,h2,h3,D.aU hd es evs h4⟩
 |uo ep es=>
  simp only[hx]at h|-
  rw[eQ]
  exact D.aT hd (.sl es) _ h
 |map kt vt l=>
  simp only[hx]at h|-
  obtain⟨b,es,clock,h1,h2,h4,h3⟩:=h
  exact⟨b,es,clock,eQ.trans h1,h2,h4,aK.mono hd l _ h3⟩
 |b7 l=>
  simp only[hx]at h|-
  rw[eQ]
  exact kK.mono hd h
 |rG l last=>
  simp only[hx]at h|-
  obtain⟨b,h1,h2⟩:=h
  exact⟨b,eQ.trans h1,h2.mono hd rfl⟩
 |zH s pos=>
  simp only[hx]at h|-
  obtain⟨b,h1,h2⟩:=h
  exact⟨b,eQ.trans h1,h2⟩
 |loop nf n env ps jE fh st HD=>
  simp only[hx]at h|-
  obtain⟨b,r,h1,h2,h0,h3,h4,h5,h6,h7,h8,h9⟩:=h
  exact⟨b,r,eQ.trans h1,h2,h0,h3,h4,h5,h6,h7,h8,fun i=>V.nv hB _ _ (fun j hj=>hr j (by rw[hx];exact Ie hj)) (h9 i)⟩
section
variable {P:Program}
theorem ED{o o':Nat->ab}{Δ:List (Nat×ab)}{id:Nat}(h:o id=o' id):put o Δ id=put o' Δ id:=Gk h
where Gk {o o':Nat->ab}:∀ {Δ:List (Nat×ab)} {id:Nat},o id=o' id->put o Δ id=put o' Δ id
 |[],_,h=>h
 |x::Δ,id,h=>by
  simp only[put,List.foldl_cons]
  refine Gk (Δ:=Δ) (o:=ay o x.1 x.2) (o':=ay o' x.1 x.2) ?_
  simp only[aL]
  split
  ·rfl
  ·exact h
theorem Am{o:Nat->ab}:∀ {Δ:List (Nat×ab)} {id:Nat},(∀x∈Δ,x.1≠id)->put o Δ id=o id
 |[],_,_=>rfl
 |x::Δ,id,h=>by
  have:=Am (o:=ay o x.1 x.2) (Δ:=Δ) (id:=id) (fun y hy=>h y mK)
  simp only[put,List.foldl_cons]at this|-
  rw[this];simp[Ne.symm (h x (by simp))]
theorem Bn.kM {g:FuncId}{args:List V}{rd:List Nat}{o:Nat->ab}{nx:Nat}{out:R}{Δ:List (Nat×ab)}(uu:∀id∈rd,id<nx)(dF:∀id∈V.aO args,id∈rd)(rI:∀id∈rd,∀j∈(o id).refs,j∈rd)(WW:∀x∈Δ,x.1∈rd)(ad9:∀x∈Δ,∀j∈x.2.refs,j∈rd)
 (h:bZ P g args (EC rd o) nx
  (fun v o1 _=>(∀id∈rd,o1 id=put o Δ id)/\∃vs rs,v=(match vs with|[v]=>v|vs=> .bS vs)/\cf o1 vs=some rs/\out= .ret rs/\∀id∈V.bp vs,id∉rd)
  (fun v o1 _=>(∀id∈rd,o1 id=put o Δ id)/\∃x,dQ o1 v=some x/\out= .bL x/\∀id∈v.ids,id∉rd)):Bn P g args rd o out Δ:=by
 refine⟨h.1,fun o' us M φ w vals ho hH hd=> ?_⟩
 let M1:Nat->Prop:=fun b=>M b\/∃id,id∉rd/\(o' id).live=true/\ej (φ id)=some b
 let HR:Hp:=hp (EC rd o) nx
 have vF:∀id,id∈rd->EC rd o id=o' id:=fun id aw=>by simp[EC,aw,(ho id aw).1]
 have tz:∀id,id∉rd->EC rd o id= .no:=fun id aw=>by simp[EC,aw]
 have hB:∀b,aq M1 φ HR b↔aq M φ ⟨o',us⟩ b:=by
  intro b
  constructor
  ·rintro((h|⟨id,h1,h2,h3⟩)|⟨id,h1,h2⟩)
   ·exact .inl h
   ·exact .inr ⟨id,h2,h3⟩
   ·by_cases aw:id∈rd
    ·exact .inr ⟨id,by show(o' id).live=true;rw[<- vF id aw];exact h1,h2⟩
    ·have:HR.o id= .no:=tz id aw
     rw[this]at h1;cases h1
  ·rintro(h|⟨id,h1,h2⟩)
   ·exact .inl (.inl h)
   ·by_cases aw:id∈rd
    ·exact .inr ⟨id,by show(EC rd o id).live=true;rw[vF id aw];exact h1,h2⟩
    ·exact .inl (.inr ⟨id,aw,h1,h2⟩)
 have F2:∀id∈rd,HR.o id=o' id/\φ id=φ id/\HR.us id:=fun id aw=>⟨vF id aw,rfl,uu id aw⟩
 have hHR:az M1 φ HR w:=by
  refine⟨fun id=> ?_,fun id hn=> ?_,fun i j b hi hj bi bj=> ?_,fun b hb=> ?_,fun b hb=> ?_⟩
  ·by_cases aw:id∈rd
   ·refine aR.refs (H:=⟨o',us⟩) (M:=M) (φ:=φ) (fun b hn hb=>hn ((hB b).1 hb)) (vF id aw) rfl (fun j hj=>F2 j ?_) (hH.ok id)
    have:o' id=o id:=(ho id aw).1
    exact rI id aw j (by rw[<- this];exact hj)
   ·unfold aR
    rw[show HR.o id= .no from tz id aw];trivial
  ·exact tz id fun aw=>hn (uu id aw)
  ·have live:∀i,(HR.o i).live=true->i∈rd/\(o' i).live=true:=fun i hi=>by
    by_cases aw:i∈rd
    ·exact⟨aw,by rw[<- vF i aw];exact hi⟩
    ·rw[show HR.o i= .no from tz i aw]at hi;cases hi
   exact hH.apart i j b (live i hi).2 (live j hj).2 bi bj
  ·obtain⟨id,h1,h2⟩:=hb
   have aw:id∈rd:=by
    by_cases aw:id∈rd
    ·exact aw
    ·rw[show HR.o id= .no from tz id aw]at h1;cases h1
   rw[show HR.o id=o' id from vF id aw]at h1
   obtain⟨k1,k2⟩:=hH.ours b ⟨id,h1,h2⟩
   refine⟨?_,k2⟩
   rintro(hM|⟨j,j1,j2,j3⟩)
   ·exact k1 hM
   ·exact j1 (hH.apart j id b j2 h1 j3 h2 ▸ aw)
  ·rcases hb with hb|⟨id,h1,h2,h3⟩
   ·exact hH.Bi b hb
   ·exact(hH.ours b ⟨id,h2,h3⟩).2
 have hdR:V.aD (aq M1 φ HR) φ HR w args vals.toList:=V.gv (H:=⟨o',us⟩) (fun b hn hb=>hn ((hB b).1 hb)) _ _ (fun id aw=>F2 id (dF id aw)) hd
 refine(h.2 M1 φ w vals hHR hdR).mono ?_
 rintro e w' ⟨iT,o1,Bp,v,k1,k2,k3⟩
 have main:(∀id∈rd,o1 id=put o Δ id)->∃aI,az M aI ⟨put o' Δ,us⟩ w'/\Trans φ ⟨o',us⟩ w aI ⟨put o' Δ,us⟩ w'/\∀b,aq M aI ⟨put o' Δ,us⟩ b->M1 b\/∃id∈rd,(o1 id).live=true/\ej (iT id)=some b:=by
  intro xf
  have Gc:∀id∈rd,put o' Δ id=o1 id:=fun id aw=>(ED (ho id aw).1).trans (xf id aw).symm
  have Jp:∀id,id∉rd->put o' Δ id=o' id:=fun id aw=>Am fun x hx e=>aw (e ▸ WW x hx)
  let H6:Place:=fun id=>if id∈rd then iT id else φ id
  have An:∀id∈rd,H6 id=iT id:=fun id aw=>if_pos aw
  have Cn:∀id,id∉rd->H6 id=φ id:=fun id aw=>if_neg aw
  let H2:Hp:=⟨put o' Δ,us⟩
  have cT:∀b,cD H6 H2 b->(∃id∈rd,(o1 id).live=true/\ej (iT id)=some b)\/∃id,id∉rd/\(o' id).live=true/\ej (φ id)=some b:=by
   rintro b ⟨id,h1,h2⟩
   by_cases aw:id∈rd
   ·exact .inl ⟨id,aw,by rw[<- Gc id aw];exact h1,by rw[<- An id aw];exact h2⟩
   ·exact .inr ⟨id,aw,by rw[<- Jp id aw];exact h1,by rw[<- Cn id aw];exact h2⟩
  have hB2:∀b,aq M H6 H2 b->aq M1 iT (hp o1 Bp) b:=by
   rintro b (hb|hb)
   ·exact .inl (.inl hb)
   ·rcases cT b hb with⟨id,h1,h2,h3⟩|⟨id,h1,h2,h3⟩
    ·exact .inr ⟨id,h2,h3⟩
    ·exact .inl (.inr ⟨id,h1,h2,h3⟩)
  have Z6:dW φ ⟨o',us⟩ H6 H2:=by
   refine⟨fun id h=>h,fun id hu hr=> ?_,fun id e' hu he=> ?_⟩
   ·by_cases aw:id∈rd
    ·rw[show H2.o id=o1 id from Gc id aw]at hr
     obtain⟨a,b⟩:=k2.rel.row id (uu id aw) hr
     rw[show HR.o id=o' id from vF id aw]at a
     exact⟨a,(An id aw).trans b⟩
    ·rw[show H2.o id=o' id from Jp id aw]at hr
     exact⟨hr,Cn id aw⟩
   ·by_cases aw:id∈rd
    ·rw[show H2.o id=o1 id from Gc id aw]at he
     obtain⟨e0,a,b,c⟩:=k2.rel.ep id e' (uu id aw) he
     rw[show HR.o id=o' id from vF id aw]at a
     exact⟨e0,a,b,fun heq=>(An id aw).trans (c heq)⟩
    ·rw[show H2.o id=o' id from Jp id aw]at he
     exact⟨e',he,Nat.le_refl _,fun _=>Cn id aw⟩
  have u7:∀b,cY w b-> ¬aq M φ ⟨o',us⟩ b->w'.heap[b]? =w.heap[b]? /\ ¬aq M H6 H2 b:=by
   intro b hc hn
   obtain⟨a,c⟩:=k2.blocks (M:=M1) b hc (fun hb=>hn ((hB b).1 hb))
   exact⟨a,fun hb=>c (hB2 b hb)⟩
  have tY:∀b,b<w.heap.size-> ¬cD φ HR b->w'.heap[b]? =w.heap[b]? :=fun b hb hl=>k2.cG.block b hb hl
  have ht:Trans φ ⟨o',us⟩ w H6 H2 w':=by
   refine⟨⟨k2.cG.os,k2.cG.tape,k2.cG.output,k2.cG.size,fun b hb hl=>tY b hb fun⟨id,h1,h2⟩=>hl ?_⟩,fun b hb=> ?_,Z6⟩
   ·by_cases aw:id∈rd
    ·exact⟨id,by show(o' id).live=true;rw[<- vF id aw];exact h1,h2⟩
    ·rw[show HR.o id= .no from tz id aw]at h1;cases h1
   ·rcases cT b hb with⟨id,h1,h2,h3⟩|⟨id,h1,h2,h3⟩
    ·rcases k2.grow b ⟨id,h2,h3⟩with⟨j,j1,j2⟩|Bj
     ·by_cases aw:j∈rd
      ·exact .inl ⟨j,by show(o' j).live=true;rw[<- vF j aw];exact j1,j2⟩
      ·rw[show HR.o j= .no from tz j aw]at j1;cases j1
     ·exact .inr Bj
    ·exact .inl ⟨id,h2,h3⟩
  refine⟨H6,⟨fun id=> ?_,fun id hn=> ?_,fun i j b hi hj bi bj=> ?_,fun b hb=> ?_,fun b hb=>Nat.lt_of_lt_of_le (hH.Bi b hb) k2.cG.size⟩,ht,fun b hb=> ?_⟩
  ·by_cases aw:id∈rd
   ·refine aR.refs (H:=hp o1 Bp) (M:=M1) (φ:=iT) (fun b hn hb=>hn (hB2 b hb)) (Gc id aw) (An id aw) (fun j hj=> ?_) (k1.ok id)
    have Jk:j∈rd:=by
     have e1:o1 id=put o Δ id:=xf id aw
     have hj:j∈(put o Δ id).refs:=by rw[<- e1];exact hj
     have key:∀ (Gl:List (Nat×ab)) (q:Nat->ab),(∀x∈Gl,∀j∈x.2.refs,j∈rd)->(∀j∈(q id).refs,j∈rd)->∀j∈(put q Gl id).refs,j∈rd:=by
      intro Gl
      induction Gl with
      |nil=>intro q _ h2;exact h2
      |cons x Gl ih=>
       intro q h1 h2
       simp only[put,List.foldl_cons]
       refine ih (ay q x.1 x.2) (fun y hy=>h1 y mK) ?_
       simp only[aL]
       split
       ·exact h1 x aH
       ·exact h2
     exact key Δ o ad9 (rI id aw) j hj
    exact⟨Gc j Jk,An j Jk,(ho j Jk).2⟩
   ·exact aR.BM u7 Z6 (Jp id aw) (Cn id aw) (fun hl b hb=>tY b (hH.ours b ⟨id,hl,hb⟩).2 fun⟨j,j1,j2⟩=>by
     by_cases hj:j∈rd
     ·rw[show HR.o j=o' j from vF j hj]at j1
      exact aw (hH.apart id j b hl j1 hb j2 ▸ hj)
     ·rw[show HR.o j= .no from tz j hj]at j1;cases j1) (hH.ok id)
  ·have aw:id∉rd:=fun aw=>hn (ho id aw).2
   exact(Jp id aw).trans (hH.fresh id hn)
  ·by_cases e1:i∈rd<;>by_cases e2:j∈rd
   ·refine k1.apart i j b ?_ ?_ (by rw[<- An i e1];exact bi) (by rw[<- An j e2];exact bj)
    ·show(o1 i).live=true;rw[<- Gc i e1];exact hi
    ·show(o1 j).live=true;rw[<- Gc j e2];exact hj
   ·exfalso
    refine(k1.ours b ⟨i,by show(o1 i).live=true;rw[<- Gc i e1];exact hi,by rw[<- An i e1];exact bi⟩).1 (.inr ⟨j,e2,by rw[<- Jp j e2];exact hj,by rw[<- Cn j e2];exact bj⟩)
   ·exfalso
    refine(k1.ours b ⟨j,by show(o1 j).live=true;rw[<- Gc j e2];exact hj,by rw[<- An j e2];exact bj⟩).1 (.inr ⟨i,e1,by rw[<- Jp i e1];exact hi,by rw[<- Cn i e1];exact bi⟩)
   ·exact hH.apart i j b (by show(o' i).live=true;rw[<- Jp i e1];exact hi) (by show(o' j).live=true;rw[<- Jp j e2];exact hj) (by rw[<- Cn i e1];exact bi) (by rw[<- Cn j e2];exact bj)
  ·rcases cT b hb with⟨id,h1,h2,h3⟩|⟨id,h1,h2,h3⟩
   ·obtain⟨a,c⟩:=k1.ours b ⟨id,h2,h3⟩
    exact⟨fun hM=>a (.inl hM),c⟩
   ·obtain⟨a,c⟩:=hH.ours b ⟨id,h2,h3⟩
    exact⟨a,Nat.lt_of_lt_of_le c k2.cG.size⟩
  ·rcases hb with hb|hb
   ·exact .inl (.inl hb)
   ·rcases cT b hb with h|h
    ·exact .inr h
    ·exact .inl (.inr h)
 have res:∀ (vs:List V) (xs:List D) (us':List Value),(∀id∈rd,o1 id=put o Δ id)->cf o1 vs=some xs->(∀id∈V.bp vs,id∉rd)->V.aD (aq M1 iT (hp o1 Bp)) iT (hp o1 Bp) w' vs us'->
  ∃aI,az M aI ⟨put o' Δ,us⟩ w'/\Trans φ ⟨o',us⟩ w aI ⟨put o' Δ,us⟩ w'/\D.aD (aq M aI ⟨put o' Δ,us⟩) w' xs us':=by
  intro vs xs us' xf h1 aea h2
  obtain⟨f1,f2,f3,f4,f5⟩:=cU k1 (V.bp vs) (c7 vs _ h2)
  have h3:=dt f1 vs xs us' f3 h1 (V.aU f2 _ _ h2)
  obtain⟨aI,m1,m2,m3⟩:=main xf
  refine⟨aI,m1,m2,D.aU (w:=w') (w':=w') (fun b _ hn=>⟨rfl,fun hb=>hn ?_⟩) xs us' h3⟩
  rcases m3 b hb with hb|⟨id,i1,i2,i3⟩
  ·exact .inl hb
  ·exact .inr ⟨id,by rw[f4 id fun hm=>aea id hm i1];exact i2,i3⟩
 cases e with
 |outgrown=>exact k3.elim
 |panicked ch=>
  obtain⟨val,rfl,g1,xf,x,g2,rfl,g3⟩:=k3
  obtain⟨aI,m1,m2,m3⟩:=res [v] [x] [val] xf (by simp[cf,g2]) (by simpa[V.bp]using g3) ⟨val,[],rfl,g1,rfl⟩
  obtain⟨u,us2,he,h2,_⟩:=m3
  simp at he;obtain⟨rfl,rfl⟩:=he
  exact⟨aI,m1,m2,val,rfl,h2⟩
 |returned val=>
  obtain⟨g1,xf,vs,rs,rfl,g2,rfl,g3⟩:=k3
  match vs,g1,g2,g3 with
  |[],g1,g2,g3=>
   obtain⟨arr,rfl,hv⟩:=g1
   simp only[cf,Option.some.injEq]at g2;subst g2
   obtain⟨aI,m1,m2,m3⟩:=res [] [] arr.toList xf rfl (by simp[V.bp]) hv
   exact⟨aI,m1,m2,arr,rfl,m3⟩
  |[v],g1,g2,g3=>
   obtain⟨aI,m1,m2,m3⟩:=res [v] rs [val] xf g2 g3 ⟨val,[],rfl,g1,rfl⟩
   refine⟨aI,m1,m2, ?_⟩
   cases rs with
   |nil=>cases m3
   |cons x l=>
    obtain⟨u,us2,he,h2,h3⟩:=m3
    simp at he;obtain⟨rfl,rfl⟩:=he
    cases l with
    |nil=>exact h2
    |cons y l=>obtain⟨_,_,h,_⟩:=h3;cases h
  |v::v2::l,g1,g2,g3=>
   obtain⟨arr,rfl,hv⟩:=g1
   obtain⟨aI,m1,m2,m3⟩:=res (v::v2::l) rs arr.toList xf g2 g3 hv
   refine⟨aI,m1,m2, ?_⟩
   have hl:=D.aB _ _ m3
   have Y8:=V.aB _ _ hv
   match rs,hl,m3 with
   |[],hl,_=>exact FL
   |[x],hl,_=>exact FL
   |x::y::l,_,m3=>exact⟨arr,rfl,m3⟩
end
end
section
inductive fq where
 |skip|val (v:V) (Δ:List (Nat×ab)) (rd:List Nat)|bL (v:V) (ws rd:List Nat)|ej
 deriving Inhabited
def fq.ok:fq->Bool
 | .skip| .val .. =>true
 |_=>false
def xj(dst:Option Tmp)(x:fq)(s:S):S:=
 match x with
 | .skip=>⟨a8 s.env dst (.bS []),s.o,s.nx⟩
 | .val v Δ _=>⟨a8 s.env dst v,put s.o Δ,s.nx⟩
 | .bL .. | .ej=>⟨a8 s.env dst .ad,s.o,s.nx⟩
def kO:fq->List Nat
 | .val _ Δ _=>Δ.map (·.1)
 |_=>[]
def xJ:fq->List Nat
 | .val _ _ rd=>rd
 | .bL _ _ rd=>rd
 |_=>[]
def Nd(P:Program)(g:FuncId)(ds:List D)(v:V):Prop:=
 Enters P g/\∀ (M:Nat->Prop) (w:World) (vals:Array Value),(∀b,M b->b<w.heap.size)->D.aD M w ds vals.toList->
  Calls P g vals w fun e w'=>eo (fun _=>False) w w'/\∃val,e= .returned val/\∀φ H,V.den M φ H w' v val
theorem Nd.kM {P:Program}{g:FuncId}{ds:List D}{v:V}(hr:v.refs=[])(h:bZ P g (ds.map .d) (fun _=> .no) 0 (fun v' _ _=>v'=v) (fun _ _ _=>False)):Nd P g ds v:=by
 refine⟨h.1,fun M w vals hM hd=> ?_⟩
 let cL:Place:=fun _=> .nilFunc
 have tY:∀b, ¬cD cL (hp (fun _=> .no) 0) b:=by rintro b ⟨id,hl,_⟩;simp[hp,ab.live]at hl
 refine(h.2 M cL w vals (oh cL hM) ((V.cH _ _).2 (D.aU (w:=w) (w':=w) (B:=M) (fun b _ hB=>⟨rfl,fun h=>h.elim hB (tY b)⟩) _ _ hd))).mono ?_
 rintro e w' ⟨aI,o',nx',v',k1,k2,k3⟩
 refine⟨⟨k2.cG.os,k2.cG.tape,k2.cG.output,k2.cG.size,fun k hk _=>k2.cG.block k hk (tY k)⟩, ?_⟩
 cases e with
 |outgrown=>exact k3.elim
 |panicked ch=>obtain⟨_,_,_,h⟩:=k3;exact h.elim
 |returned val=>
  obtain⟨g1,rfl⟩:=k3
  exact⟨val,rfl,fun φ H=>V.nv (B:=aq M aI (hp o' nx')) (φ:=aI) (H:=hp o' nx') (fun b hb hm=>hb (.inl hm)) v' val (fun id aw=>by rw[hr]at aw;cases aw) g1⟩
def yz(P:Program)(s:S)(fr:Nat)(op:Op)(v:V)(Δ:List (Nat×ab))(rd:List Nat):Prop:=
 ((∃um,gG P s fr op=some (v,Δ,um))/\rd=oR s op)\/
 (∃c f g first cap,op= .call c/\c.callee= .value f/\s.ev f= .func (.func g) first cap/\
  ((∃ds rs,cf s.o (first++c.args.toList.map s.ev++cap)=some ds/\aV P g ds (.ret rs)/\v=iV rs/\rd=oR s op/\
    (Δ=bE s.o (V.bp (first++c.args.toList.map s.ev++cap))\/D.jL rs=true/\Δ=[]))\/
   (∃rs,Bn P g (first++c.args.toList.map s.ev++cap) rd s.o (.ret rs) Δ/\v=iV rs/\∀id∈rd,id<s.nx)\/
   (∃ds,cf s.o (first++c.args.toList.map s.ev++cap)=some ds/\Nd P g ds v/\rd=oR s op/\Δ=bE s.o (V.bp (first++c.args.toList.map s.ev++cap)))\/
   (Bo P g (first++c.args.toList.map s.ev++cap) rd s.o fr v Δ/\∀id∈rd,id<s.nx)))
def Co(P:Program)(s:S)(op:Op)(v:V)(ws rd:List Nat):Prop:=
 ∃c f g first cap,op= .call c/\c.callee= .value f/\s.ev f= .func (.func g) first cap/\
  ((∃ds x,cf s.o (first++c.args.toList.map s.ev++cap)=some ds/\aV P g ds (.bL x)/\x.flat=true/\v= .d x/\rd=oR s op/\ws=[])\/
   (∃x Δ,Bn P g (first++c.args.toList.map s.ev++cap) rd s.o (.bL x) Δ/\v= .d x/\ws=Δ.map (·.1)/\∀id∈rd,id<s.nx))
def dT(s:S)(gd:Option (Nat×Bool))(b:Bool):Prop:=
 match gd with
 |none=>b=true
 |some (d,want)=>match s.env d with
  | .d (.bool c)=>b=(c==want)
  | .bS []=>b=false
  |_=>False
def Rj(P:Program)(s:S)(fr:Nat)(o:bV)(x:fq):Prop:=
 match x with
 | .skip=>dT s o.gd false
 | .val v Δ rd=>dT s o.gd true/\yz P s fr o.op v Δ rd
 | .bL v ws rd=>dT s o.gd true/\Co P s o.op v ws rd
 | .ej=>True
def eL(oc:Nat->bV)(ac:Nat->fq)(E:Nat->Bool)(s:S):Nat->S
 |0=>s
 |k+1=>if E k then xj (oc k).dst (ac k) (eL oc ac E s k)else eL oc ac E s k
structure Compat (oc:Nat->bV) (ac:Nat->fq) (R:Nat->List Nat) (i j:Nat):Prop where
 di:∀d,(oc i).dst=some d->d∉fg (oc j)
 dj:∀d,(oc j).dst=some d->d∉fg (oc i)
 wi:∀id∈kO (ac i),id∉R j/\id∉kO (ac j)
 wj:∀id∈kO (ac j),id∉R i
section
variable {P:Program}{oc:Nat->bV}{ac:Nat->fq}{s:S}{n:Nat}{E:Nat->Bool}{R:Nat->List Nat}{pr:Nat->Nat->Prop}
theorem EE{env:Nat->V}{dst:Option Tmp}{v:V}{t:Nat}(h:∀d,dst=some d->d≠t):a8 env dst v t=env t:=by
 cases dst with
 |none=>rfl
 |some d=>simp only[a8,aL];rw[if_neg (fun e=>h d rfl e.symm)]
theorem gw{o:Nat->ab}:∀ {Δ:List (Nat×ab)} {id:Nat},id∉Δ.map (·.1)->put o Δ id=o id
 |[],_,_=>rfl
 |x::Δ,id,h=>by
  simp only[List.map_cons,List.mem_cons,not_or]at h
  have:=gw (o:=ay o x.1 x.2) (Δ:=Δ) h.2
  simp only[put,List.foldl_cons]at this|-
  rw[this];simp[h.1]
theorem Ao{o o':Nat->ab}:∀ {Δ:List (Nat×ab)} {id:Nat},id∈Δ.map (·.1)\/o id=o' id->put o Δ id=put o' Δ id
 |[],_,h=>by rcases h with h|h;· simp at h
             ·exact h
 |x::Δ,id,h=>by
  simp only[put,List.foldl_cons]
  refine Ao (Δ:=Δ) (o:=ay o x.1 x.2) (o':=ay o' x.1 x.2) ?_
  simp only[List.map_cons,List.mem_cons]at h
  simp only[aL]
  by_cases e:id=x.1
  ·right;simp[e]
  ·rcases h with(h|h)|h
   ·exact absurd h e
   ·exact .inl h
   ·right;simp[e,h]
theorem kP{dst:Option Tmp}{x:fq}{t:Nat}(h:∀d,dst=some d->d≠t):(xj dst x s).env t=s.env t:=by
 cases x<;>exact EE h
theorem nw{dst:Option Tmp}{x:fq}{id:Nat}(h:id∉kO x):(xj dst x s).o id=s.o id:=by
 cases x with
 |val v Δ rd=>exact gw h
 |_=>rfl
theorem Ap{dst:Option Tmp}{x:fq}{s':S}{t:Nat}(h:s.env t=s'.env t):(xj dst x s).env t=(xj dst x s').env t:=by
 cases x<;>cases dst<;>simp only[xj,a8,aL]<;>first|exact h|(split<;>first|rfl|exact h)
theorem EF{dst:Option Tmp}{x:fq}{s':S}{id:Nat}(h:s.o id=s'.o id):(xj dst x s).o id=(xj dst x s').o id:=by
 cases x with
 |val v Δ rd=>exact Ao (.inr h)
 |_=>exact h
theorem put_comm{o:Nat->ab}{Δ Gl:List (Nat×ab)}(h:∀id∈Δ.map (·.1),id∉Gl.map (·.1)):put (put o Δ) Gl=put (put o Gl) Δ:=by
 funext id
 by_cases h1:id∈Δ.map (·.1)
 ·rw[gw (h id h1)]
  exact Ao (.inl h1)
 ·rw[gw (Δ:=Δ) h1]
  by_cases h2:id∈Gl.map (·.1)
  ·exact Ao (.inl h2)
  ·rw[gw h2,gw h2,gw h1]
theorem yA{env:Nat->V}{d d':Option Tmp}{v v':V}(h:∀t,d=some t->d'≠some t):a8 (a8 env d v) d' v'=a8 (a8 env d' v') d v:=by
 cases d with
 |none=>rfl
 |some t=>
  cases d' with
  |none=>rfl
  |some t'=>
   have jo:t'≠t:=fun e=>h t rfl (by rw[e])
   funext i
   simp only[a8,aL]
   by_cases e1:i=t<;>by_cases e2:i=t'
   ·exact absurd (e2.symm.trans e1) jo
   all_goals simp[e1,e2]
   ·intro e;exact absurd e.symm jo
   ·intro e;exact absurd e jo
theorem KM{d d':Option Tmp}{x x':fq}(hd:∀t,d=some t->d'≠some t)(hw:∀id∈kO x,id∉kO x'):xj d x (xj d' x' s)=xj d' x' (xj d x s):=by
 cases x<;>cases x'<;>simp only[xj]<;>first
  |rw[yA hd,put_comm hw]
  |rw[yA hd]
def Aq(n:Nat)(pr:Nat->Nat->Prop)(E:Nat->Bool):Prop:=∀k,k<n->E k=true->∀j,pr k j->E j=true
theorem agree(_:∀k,k<n->∀j,pr k j->j<k)(hc:∀i j,i<j->j<n-> ¬pr j i->Compat oc ac R i j)(hE:Aq n pr E){i:Nat}(hi:i<n)(lS:E i=false)(KN:∀j,pr i j->E j=true):
 (∀t∈fg (oc i),(eL oc ac E s n).env t=(eL oc ac (fun _=>true) s i).env t)/\(∀id∈R i,(eL oc ac E s n).o id=(eL oc ac (fun _=>true) s i).o id):=by
 have a:∀k,k<=i->(∀t∈fg (oc i),(eL oc ac E s k).env t=(eL oc ac (fun _=>true) s k).env t)/\(∀id∈R i,(eL oc ac E s k).o id=(eL oc ac (fun _=>true) s k).o id):=by
  intro k
  induction k with
  |zero=>intro _;exact⟨fun _ _=>rfl,fun _ _=>rfl⟩
  |succ k ih=>
   intro hk
   obtain⟨h1,h2⟩:=ih af
   simp only[eL,if_true]
   by_cases jc:E k=true
   ·simp only[jc,if_true]
    exact⟨fun t ht=>Ap (h1 t ht),fun id aw=>EF (h2 id aw)⟩
   ·have Q7: ¬pr i k:=fun hm=>jc (KN k hm)
    have c:=hc k i af hi Q7
    simp only[jc]
    refine⟨fun t ht=> ?_,fun id aw=> ?_⟩
    ·rw[kP fun d hd e=>c.di d hd (e ▸ ht)];exact h1 t ht
    ·rw[nw fun hm=>(c.wi id hm).1 aw];exact h2 id aw
 have b:∀k,i<=k->k<=n->(∀t∈fg (oc i),(eL oc ac E s k).env t=(eL oc ac (fun _=>true) s i).env t)/\(∀id∈R i,(eL oc ac E s k).o id=(eL oc ac (fun _=>true) s i).o id):=by
  intro k N3
  induction N3 with
  |refl=>intro _;exact a i (Nat.le_refl _)
  | @step k N3 ih=>
    intro hk
    have N3:i<=k:=N3
    obtain⟨h1,h2⟩:=ih af
    simp only[eL]
    by_cases jc:E k=true
    ·have jo:i≠k:=fun e=>by rw[e,jc]at lS;cases lS
     have Q7: ¬pr k i:=fun hm=>by have:=hE k af jc i hm;rw[lS]at this;cases this
     have c:=hc i k af af Q7
     simp only[jc,if_true]
     refine⟨fun t ht=> ?_,fun id aw=> ?_⟩
     ·rw[kP fun d hd e=>c.dj d hd (e ▸ ht)];exact h1 t ht
     ·rw[nw fun hm=>c.wj id hm aw];exact h2 id aw
    ·simp only[jc];exact⟨h1,h2⟩
 exact b n af (Nat.le_refl _)
theorem insert(hc:∀i j,i<j->j<n-> ¬pr j i->Compat oc ac R i j)(hE:Aq n pr E){i:Nat}(hi:i<n)(lS:E i=false){E':Nat->Bool}(EG:∀k,E' k=(E k||k==i)):
 eL oc ac E' s n=xj (oc i).dst (ac i) (eL oc ac E s n):=by
 have a:∀k,k<=i->eL oc ac E' s k=eL oc ac E s k:=by
  intro k
  induction k with
  |zero=>intro _;rfl
  |succ k ih=>
   intro hk
   have:E' k=E k:=by rw[EG k];have:(k==i)=false:=by simp;omega
                     simp[this]
   simp only[eL,this,ih (by omega)]
 have b:∀k,i+1<=k->k<=n->eL oc ac E' s k=xj (oc i).dst (ac i) (eL oc ac E s k):=by
  intro k N3
  induction N3 with
  |refl=>
   intro _
   have h1:E' i=true:=by rw[EG i];simp
   simp only[eL,h1,lS,if_true,a i (Nat.le_refl _)]
   rfl
  | @step k N3 ih=>
    intro hk
    have N3:i+1<=k:=N3
    have h1:E' k=E k:=by rw[EG k];have:(k==i)=false:=by simp;omega
                         simp[this]
    simp only[eL,h1,ih (by omega)]
    by_cases jc:E k=true
    ·have Q7: ¬pr k i:=fun hm=>by have:=hE k af jc i hm;rw[lS]at this;cases this
     have c:=hc i k af af Q7
     simp only[jc,if_true]
     refine KM (fun t ht he=> ?_) (fun id aw hm=>(c.wi id hm).2 aw)
     exact c.di t he (by simp[fg,ht])
    ·simp only[jc];rfl
 exact b n af (Nat.le_refl _)
end
end
section
structure ue (M:Nat->Prop) (cL:Place) (H0:Hp) (w0:World) (n:Nat) (cx:Cx) (φ:Place) (s:S) (us:Nat->Prop) (a:Act) (w:World):Prop where
 heap:az M φ ⟨s.o,us⟩ w
 tr:Trans cL H0 w0 φ ⟨s.o,us⟩ w
 size:a.tmps.size=n
 defers:vq cx w0 φ ⟨s.o,us⟩ w a.defers
 env:∀i,V.den (aq M φ ⟨s.o,us⟩) φ ⟨s.o,us⟩ w (s.env i) (a.tmps.getD i undef)
section
variable {P:Program}{M:Nat->Prop}{φ cL:Place}{H0:Hp}{w w' w0:World}{n:Nat}{s:S}{us:Nat->Prop}{a:Act}{cx:Cx}{ro:Option Nat}{k:Nat}
variable {next:Act->World->Prop}{Q:Exit->Act->World->Prop}
theorem jD(hs:ue M cL H0 w0 n cx φ s us a w){aI:Place}{H':Hp}(hH:az M aI H' w')(ht:Trans φ ⟨s.o,us⟩ w aI H' w'){v:V}{val:Value}(hd:V.den (aq M aI H') aI H' w' v val){dst:Option Tmp}(cX:gM n dst)
 {o':Nat->ab} {us':Nat->Prop} (ho:H'.o=o') (hu:∀id,H'.us id->us' id):ue M cL H0 w0 n cx aI ⟨a8 s.env dst v,o',s.nx⟩ us' (a.put dst val) w':=by
 obtain⟨k1,k2⟩:=kj hH hu
 subst ho
 refine⟨k1,hs.tr.trans (ht.trans k2), ?_, ?_,fun i=> ?_⟩
 ·cases dst<;>simp[Act.put,hs.size]
 ·have:=hs.defers.mono (ht.trans k2);cases dst<;>exact this
 ·cases dst with
  |none=>exact Nx
  |some d=>
   simp only[gM]at cX
   simp only[a8,aL,Act.put]
   by_cases hi:i=d
   ·subst hi
    have h1:(a.tmps.setIfInBounds i val).getD i undef=val:=by simp[Array.getD,hs.size,cX]
    rw[if_pos rfl,h1]
    exact V.aT k2 _ _ hd
   ·have h1:(a.tmps.setIfInBounds d val).getD i undef=a.tmps.getD i undef:=by
     exact TE
    rw[if_neg hi,h1]
    exact Nx
theorem yB(hs:ue M cL H0 w0 n cx φ s us a w){o:Oper}{op:Op}(gf:o.op=op){c:Call}{f:Operand}{g:FuncId}{first cap:List V}(hc:op= .call c)(fe:c.callee= .value f)(xy:s.ev f= .func (.func g) first cap):
 ∃vals:Array Value,V.aD (aq M φ ⟨s.o,us⟩) φ ⟨s.o,us⟩ w (first++c.args.toList.map s.ev++cap) vals.toList/\(Enters P g->(execOp a.eval o).run P w= .ok (.enter g vals) w):=by
 have hf:=m7 (M:=M) (φ:=φ) (H:=⟨s.o,us⟩) (w:=w) s a hs.env f
 have dF:=kp (M:=M) (φ:=φ) (H:=⟨s.o,us⟩) (w:=w) s a hs.env c.args.toList
 rw[xy]at hf
 obtain⟨fa,ca,TW,zD,hca⟩:=hf
 refine⟨fa++c.args.map a.eval++ca, ?_,fun he=> ?_⟩
 ·exact ZE
 ·have:=lF (w:=w) he (fa++c.args.map a.eval++ca)
  generalize lh:fa++c.args.map a.eval++ca=vals at this
  simp[execOp,gf,hc,resolve,fe,TW,Deferred.ofValue,invoke,this,lh]
theorem JG(hs:ue M cL H0 w0 n cx φ s us a w){fr:Nat}(cQ: ¬us fr)(uu:∀id,id<s.nx->us id){o:Oper}{op:Op}(gf:o.op=op)(cX:gM n o.dst){v:V}{Δ:List (Nat×ab)}{rd:List Nat}(h:yz P s fr op v Δ rd)
 (hN:∀aI a' w',ue M cL H0 w0 n cx aI (xj o.dst (.val v Δ rd) s) (fun id=>us id\/id=fr) a' w'->next a' w'):o.wpIn (dR ro) k P a w next Q:=by
 rcases h with⟨⟨um,h⟩,_⟩|⟨c,f,g,first,cap,hc,fe,xy,h⟩
 ·have h1:=Ck (K:=fun v' Gl _=>v'=v/\Gl=Δ) h ⟨rfl,rfl⟩
  obtain⟨nx,val,w',aI,v',Gl,um,⟨rfl,rfl⟩,hr,aeb,g1,g2,g3,g4⟩:=yo hs.heap (s:=s) rfl hs.env cQ gf h1
  have tV:=jD hs g1 g2 g3 cX (o':=put s.o Gl) (us':=fun id=>us id\/id=fr) rfl (fun id hu=>hu.elim .inl (g4 id))
  refine ky (fun c hc=>by rw[gf]at hc;subst hc;exact h1) ?_
  rw[hr]
  rcases aeb with rfl|⟨rfl,rfl⟩
  ·exact hN _ _ _ tV
  ·exact hN _ _ _ tV
 ·refine ky (fun c' vr=>by rw[gf,hc]at vr;cases vr) ?_
  obtain⟨vals,bf,fj⟩:=yB (P:=P) hs gf hc fe xy
  generalize first++c.args.toList.map s.ev++cap=all at h bf
  rcases h with⟨ds,rs,ff,hP,rfl,_,WW⟩|⟨rs,hH,rfl,mJ⟩|⟨ds,ff,hP,_,rfl⟩|⟨hH,mJ⟩
  ·obtain⟨f1,f2,f3,f4,f5⟩:=cU hs.heap (V.bp all) (c7 all _ bf)
   have fk:(⟨s.o,us⟩:Hp).put (bE s.o (V.bp all))=⟨put s.o (bE s.o (V.bp all)),us⟩:=lE (H:=⟨s.o,us⟩) JO
   have yd:=dt f1 all ds _ f3 ff (V.aU f2 _ _ bf)
   have ez:=hP.2 _ w vals (fun b hb=>hb.elim (f1.Bi b) fun hl=>(f1.ours b hl).2) yd
   rw[fj hP.1]
   refine⟨fun hd=>by simp[dR]at hd,da (ez.mono fun e w' ⟨hk,ho⟩=> ?_)⟩
   cases e with
   |panicked ch=>exact xr
   |outgrown=>exact xr
   |returned val=>
    rcases WW with rfl|⟨mV,rfl⟩
    ·obtain⟨k1,k2⟩:=gr f1 hk
     refine hN _ _ _ (jD hs k1 (f2.trans k2) (mT ho) cX (by rw[fk]) fun id hu=> ?_)
     rw[fk]at hu;exact .inl hu
    ·obtain⟨k1,k2⟩:=gr hs.heap hk
     have ho:=R.z7 (out:= .ret rs) (B':=aq M φ ⟨s.o,us⟩) mV ho
     exact P9
  ·have ez:=hH.2 s.o us M φ w vals (fun id aw=>⟨rfl,uu id (mJ id aw)⟩) hs.heap bf
   rw[fj hH.1]
   refine⟨fun hd=>by simp[dR]at hd,da (ez.mono fun e w' ⟨aI,k1,k2,ho⟩=> ?_)⟩
   cases e with
   |panicked ch=>exact xr
   |outgrown=>exact xr
   |returned val=>exact P9
  ·obtain⟨f1,f2,f3,f4,f5⟩:=cU hs.heap (V.bp all) (c7 all _ bf)
   have fk:(⟨s.o,us⟩:Hp).put (bE s.o (V.bp all))=⟨put s.o (bE s.o (V.bp all)),us⟩:=lE (H:=⟨s.o,us⟩) JO
   have yd:=dt f1 all ds _ f3 ff (V.aU f2 _ _ bf)
   have ez:=hP.2 _ w vals (fun b hb=>hb.elim (f1.Bi b) fun hl=>(f1.ours b hl).2) yd
   rw[fj hP.1]
   refine⟨fun hd=>by simp[dR]at hd,da (ez.mono fun e w' ⟨hk,val,he,ho⟩=> ?_)⟩
   subst he
   obtain⟨k1,k2⟩:=gr f1 hk
   refine hN _ _ _ (jD hs k1 (f2.trans k2) (ho _ _) cX (by rw[fk]) fun id hu=> ?_)
   rw[fk]at hu;exact .inl hu
  ·have ez:=hH.2 s.o us M φ w vals (fun id aw=>⟨rfl,uu id (mJ id aw)⟩) cQ hs.heap bf
   rw[fj hH.1]
   refine⟨fun hd=>by simp[dR]at hd,da (ez.mono fun e w' ⟨aI,k1,k2,val,he,ho⟩=> ?_)⟩
   subst he
   exact hN _ _ _ (jD hs k1 k2 ho cX rfl fun id hu=>hu)
theorem Ig{o o2:Nat->ab}{us us2:Nat->Prop}(hH:az M φ ⟨o,us⟩ w)(ho:∀id,o2 id=o id\/o2 id= .no)(hu:∀id,us id->us2 id):az M φ ⟨o2,us2⟩ w/\Trans φ ⟨o,us⟩ w φ ⟨o2,us2⟩ w:=by
 have hl:∀id,(o2 id).live=true->(o id).live=true:=fun id h=>by
  rcases ho id with e|e
  ·rw[<- e];exact h
  ·rw[e]at h;cases h
 have NO:∀b,cD φ ⟨o2,us2⟩ b->cD φ ⟨o,us⟩ b:=fun b ⟨id,h1,h2⟩=>⟨id,hl id h1,h2⟩
 have ht:Trans φ ⟨o,us⟩ w φ ⟨o2,us2⟩ w:=by
  refine⟨eo.refl _ _,fun b hb=> .inl (NO b hb),⟨hu,fun id _ hr=> ?_,fun id e' _ he=> ?_⟩⟩
  ·rcases ho id with e|e
   ·exact⟨by show(o id).cu=true;rw[<- e];exact hr,rfl⟩
   ·rw[show(⟨o2,us2⟩:Hp).o id= .no from e]at hr;cases hr
  ·rcases ho id with e|e
   ·exact⟨e',by show(o id).ct=some e';rw[<- e];exact he,Nat.le_refl _,fun _=>rfl⟩
   ·rw[show(⟨o2,us2⟩:Hp).o id= .no from e]at he;cases he
 refine⟨⟨fun id=> ?_,fun id hn=> ?_,fun i j b hi hj=>hH.apart i j b (hl i hi) (hl j hj),fun b hb=>hH.ours b (NO b hb),hH.Bi⟩,ht⟩
 ·rcases ho id with e|e
  ·exact(hH.ok id).mono ht e rfl fun _ _ _=>rfl
  ·unfold aR;rw[show(⟨o2,us2⟩:Hp).o id= .no from e];trivial
 ·rcases ho id with e|e
  ·exact e.trans (hH.fresh id fun h=>hn (hu id h))
  ·exact e
def vG(ds:List Nat)(wl:List Nat)(N:Nat)(s:S):S:=
 ⟨fun t=>if ds.contains t=true then .ad else s.env t,fun id=>if wl.contains id=true then .no else s.o id,s.nx+N⟩
theorem KO(hs:ue M cL H0 w0 n cx φ s us a w)(uu:∀id,id<s.nx->us id){N:Nat}(dU:∀id,us id->id<s.nx+N){o:Oper}{op:Op}(gf:o.op=op){v:V}{ws rd:List Nat}(h:Co P s op v ws rd)
 {s0:S} {ds wl:List Nat} (ff:∀t,ds.contains t=false->s.env t=s0.env t) (hwl:∀id,wl.contains id=false->s.o id=s0.o id) (N4:∀id∈ws,wl.contains id=true) (pE:s0.nx=s.nx)
 (hQ:∀aI w' val,cj M cL H0 w0 n cx aI (vG ds wl N s0) a w'->V.den (aq M aI (vG ds wl N s0).H) aI (vG ds wl N s0).H w' v val->Q (.panic [{v:=val,recovered:=false}]) a w'):o.wpIn (dR ro) k P a w next Q:=by
 obtain⟨c,f,g,first,cap,hc,fe,xy,h⟩:=h
 refine ky (fun c' vr=>by rw[gf,hc]at vr;cases vr) ?_
 obtain⟨vals,bf,fj⟩:=yB (P:=P) hs gf hc fe xy
 generalize first++c.args.toList.map s.ev++cap=all at h bf
 have fin:∀ (aI:Place) (w':World) (o':Nat->ab) (val:Value),(∀id,wl.contains id=false->o' id=s.o id)->az M aI ⟨o',us⟩ w'->Trans φ ⟨s.o,us⟩ w aI ⟨o',us⟩ w'->V.den (aq M aI ⟨o',us⟩) aI ⟨o',us⟩ w' v val->Q (.panic [{v:=val,recovered:=false}]) a w':=by
  intro aI w' o' val xS k1 k2 k3
  obtain⟨m1,m2⟩:=Ig (o2:=(vG ds wl N s0).o) (us2:=fun id=>id<s0.nx+N) k1 (fun id=>by
   show(if wl.contains id=true then ab.no else s0.o id)=o' id\/_
   by_cases hw:wl.contains id=true
   ·right;simp only[vG];rw[if_pos hw]
   ·left;rw[if_neg hw,xS id (by simpa using hw),hwl id (by simpa using hw)]) (fun id h=>by rw[pE];exact dU id h)
  have ht:=hs.tr.trans (k2.trans m2)
  refine hQ aI w' val ⟨m1,ht,hs.size,hs.defers.mono (k2.trans m2),fun i=> ?_⟩ (V.aT m2 _ _ k3)
  show V.den _ _ _ _ (if ds.contains i=true then V.ad else s0.env i) _
  by_cases hd:ds.contains i=true
  ·rw[if_pos hd];trivial
  ·rw[if_neg hd, <- ff i (by simpa using hd)];exact V.aT (k2.trans m2) _ _ (hs.env i)
 rcases h with⟨dd,x,aec,hP,mV,rfl,_,rfl⟩|⟨x,Δ,hH,rfl,rfl,mJ⟩
 ·obtain⟨f1,f2,f3,f4,f5⟩:=cU hs.heap (V.bp all) (c7 all _ bf)
  have yd:=dt f1 all dd _ f3 aec (V.aU f2 _ _ bf)
  have ez:=hP.2 _ w vals (fun b hb=>hb.elim (f1.Bi b) fun hl=>(f1.ours b hl).2) yd
  rw[fj hP.1]
  refine⟨fun hd=>by simp[dR]at hd,da (ez.mono fun e w' ⟨hk,ho⟩=> ?_)⟩
  cases e with
  |returned val=>exact ho.elim
  |outgrown=>exact ho.elim
  |panicked ch=>
   obtain⟨k1,k2⟩:=gr hs.heap hk
   have ho:=R.z7 (out:= .bL x) (B':=aq M φ ⟨s.o,us⟩) mV ho
   obtain⟨val,rfl,hd⟩:=ho
   exact fin φ w' s.o val (fun _ _=>rfl) k1 k2 hd
 ·have ez:=hH.2 s.o us M φ w vals (fun id aw=>⟨rfl,uu id (mJ id aw)⟩) hs.heap bf
  rw[fj hH.1]
  refine⟨fun hd=>by simp[dR]at hd,da (ez.mono fun e w' ⟨aI,k1,k2,ho⟩=> ?_)⟩
  cases e with
  |returned val=>exact ho.elim
  |outgrown=>exact ho.elim
  |panicked ch=>
   obtain⟨val,rfl,hd⟩:=ho
   exact fin aI w' _ val (fun id aw=>Am fun y hy e=>by
    have:=N4 y.1 (List.mem_map_of_mem hy)
    rw[e,aw]at this;cases this) k1 k2 hd
theorem fM(ew:∀i,V.den (aq M φ ⟨s.o,us⟩) φ ⟨s.o,us⟩ w (s.env i) (a.tmps.getD i undef)){ops:Array Oper}{o:Oper}{gd:Option (Nat×Bool)}{b:Bool}
 (hg:match o.guard with|none=>gd=none|some (j,want)=>∃d,te ops j=some d/\gd=some (d,want)) (h:dT s gd b):Region.wanted o (yielded ops a.tmps)=b:=by
 unfold Region.wanted
 split at hg
 ·rename_i hn;simp only[hn];subst hg;exact h.symm
 ·rename_i j want hn
  simp only[hn]
  obtain⟨d,hd,rfl⟩:=hg
  unfold te at hd
  unfold yielded
  simp only[hd,Option.bind_some]
  simp only[dT]at h
  have he:=ew d
  split at h
  ·rename_i c hv
   rw[hv]at he
   simp only[V.den,D.den]at he
   have:a.tmps[d]? =some (.bool c):=by
    rw[Array.getD_eq_getD_getElem?]at he
    cases hx:a.tmps[d]? with
    |none=>rw[hx]at he;simp[undef]at he
    |some x=>rw[hx]at he;simp at he;rw[he]
   simp only[this,h]
   cases c<;>cases want<;>rfl
  ·rename_i hv
   rw[hv]at he
   obtain⟨arr,dn,hn⟩:=he
   have:∀c,a.tmps[d]? ≠some (.bool c):=by
    exact QO
   subst h
   cases hx:a.tmps[d]? with
   |none=>rfl
   |some x=>cases x<;>first|(exact absurd hx (this _))|rfl
  ·exact h.elim
theorem fN{s s':S}{gd:Option (Nat×Bool)}{b:Bool}(h:∀d want,gd=some (d,want)->s'.env d=s.env d)(hg:dT s gd b):dT s' gd b:=by
 unfold dT at*
 cases gd with
 |none=>exact hg
 |some p=>obtain⟨d,want⟩:=p;simp only at hg|-;rw[h d want rfl];exact hg
theorem Cq{s s':S}{x:Operand}(h:∀t,x= .tmp t->s'.env t=s.env t):s'.ev x=s.ev x:=by
 cases x<;>simp only[S.ev]
 exact h _ rfl
theorem vH{s s':S}{op:Op}{c:Call}{f:Operand}{g:FuncId}{first cap:List V}(hv:∀x∈op.operands,s'.ev x=s.ev x)(hc:op= .call c)(fe:c.callee= .value f)(xy:s.ev f= .func (.func g) first cap):
 s'.ev f= .func (.func g) first cap/\c.args.toList.map s'.ev=c.args.toList.map s.ev:=by
 subst hc
 exact⟨(hv f (by simp only[Op.operands,Call.operands,fe];exact Array.mem_append.2 (.inl aH))).trans xy,
  List.map_congr_left fun x hx=>hv x YI⟩
theorem Bn.frame {g:FuncId}{args:List V}{rd:List Nat}{o o':Nat->ab}{out:R}{Δ:List (Nat×ab)}(ho:∀id∈rd,o' id=o id)(h:Bn P g args rd o out Δ):Bn P g args rd o' out Δ:=
 ⟨h.1,fun o2 us M φ w vals h1 h2 h3=>h.2 o2 us M φ w vals (fun id aw=>⟨(h1 id aw).1.trans (ho id aw),(h1 id aw).2⟩) h2 h3⟩
theorem Bo.frame {g:FuncId}{args:List V}{rd:List Nat}{o o':Nat->ab}{fr:Nat}{v:V}{Δ:List (Nat×ab)}(ho:∀id∈rd,o' id=o id)(h:Bo P g args rd o fr v Δ):Bo P g args rd o' fr v Δ:=
 ⟨h.1,fun o2 us M φ w vals h1 h2 h3=>h.2 o2 us M φ w vals (fun id aw=>⟨(h1 id aw).1.trans (ho id aw),(h1 id aw).2⟩) h2 h3⟩
theorem BC{s s':S}{fr:Nat}{op:Op}{v:V}{Δ:List (Nat×ab)}{rd:List Nat}(hv:∀x∈op.operands,s'.ev x=s.ev x)(ho:∀id∈rd,s'.o id=s.o id)(uu:s'.nx=s.nx)(h:yz P s fr op v Δ rd):∃um,yz P s' fr op v Δ um:=by
 rcases h with⟨⟨um,h⟩,mJ⟩|⟨c,f,g,first,cap,rfl,fe,xy,h⟩
 ·exact⟨_, .inl ⟨⟨um,by rw[EB op hv (by rw[<- mJ];exact ho)];exact h⟩,rfl⟩⟩
 ·obtain⟨hf,hm⟩:=vH hv rfl fe xy
  rcases h with⟨ds,rs,ff,hP,qa,mJ,WW⟩|⟨rs,hH,qa,mJ⟩|⟨ds,ff,hP,mJ,WW⟩|⟨hH,mJ⟩
  ·have hr:∀id∈V.aO (first++c.args.toList.map s.ev++cap),s'.o id=s.o id:=fun id aw=>ho id JK
   refine⟨_, .inr ⟨c,f,g,first,cap,rfl,fe,hf, .inl ⟨ds,rs,by rw[hm,im _ hr];exact ff,hP,qa,rfl, ?_⟩⟩⟩
   exact QD
  ·exact⟨rd, .inr ⟨c,f,g,first,cap,rfl,fe,hf, .inr (.inl ⟨rs,by rw[hm];exact hH.frame ho,qa,by rw[uu];exact mJ⟩)⟩⟩
  ·have hr:∀id∈V.aO (first++c.args.toList.map s.ev++cap),s'.o id=s.o id:=fun id aw=>ho id JK
   refine⟨_, .inr ⟨c,f,g,first,cap,rfl,fe,hf, .inr (.inr (.inl ⟨ds,by rw[hm,im _ hr];exact ff,hP,rfl, ?_⟩))⟩⟩
   exact QD
  ·exact⟨rd, .inr ⟨c,f,g,first,cap,rfl,fe,hf, .inr (.inr (.inr ⟨by rw[hm];exact hH.frame ho,by rw[uu];exact mJ⟩))⟩⟩
theorem Cr{s s':S}{op:Op}{v:V}{ws rd:List Nat}(hv:∀x∈op.operands,s'.ev x=s.ev x)(ho:∀id∈rd,s'.o id=s.o id)(uu:s'.nx=s.nx)(h:Co P s op v ws rd):Co P s' op v ws rd:=by
 obtain⟨c,f,g,first,cap,rfl,fe,xy,h⟩:=h
 obtain⟨hf,hm⟩:=vH hv rfl fe xy
 refine⟨c,f,g,first,cap,rfl,fe,hf, ?_⟩
 rw[hm]
 rcases h with⟨ds,x,ff,hP,mV,qa,mJ,N4⟩|⟨x,Δ,hH,qa,N4,mJ⟩
 ·have hr:∀id∈V.aO (first++c.args.toList.map s.ev++cap),s'.o id=s.o id:=fun id aw=>ho id JK
  exact .inl ⟨ds,x,by rw[im _ hr];exact ff,hP,mV,qa,by rw[mJ];simp only[oR,fe,xy,hf,hm],N4⟩
 ·exact .inr ⟨x,Δ,hH.frame ho,qa,N4,by rw[uu];exact mJ⟩
theorem vI{ops:Array Oper}:∀ (l:List Oper) (l':List bV) (i:Nat) (o:Oper),lj n ops l=some l'->l[i]? =some o->J5 n ops o=some (bY l' i)
 |[],_,_,_,_,h=>by simp at h
 |x::l,l',i,o,h,hi=>by
  simp only[lj]at h
  split at h
  ·rename_i y ys hy hys
   injection h with h;subst h
   cases i with
   |zero=>simp at hi;subst hi;exact hy
   |succ i=>exact vI l ys i o hys (by simpa using hi)
  ·cases h
theorem yC{ops:Array Oper}{o:Oper}{x:bV}(h:J5 n ops o=some x):x.op=o.op/\x.dst=o.dst/\gM n o.dst/\
 (match o.guard with|none=>x.gd=none|some (j,want)=>∃d,te ops j=some d/\x.gd=some (d,want)):=by
 unfold J5 at h
 split at h
 ·rename_i hd
  have cX:gM n o.dst:=by
   unfold D7 at hd;unfold gM
   split at hd<;>simp_all
  cases hg:o.guard with
  |none=>simp only[hg]at h;injection h with h;subst h;exact⟨rfl,rfl,cX,rfl⟩
  |some p=>
   obtain⟨j,want⟩:=p
   simp only[hg]at h
   cases Ri:te ops j with
   |none=>simp[Ri]at h
   |some d=>simp only[Ri]at h;injection h with h;subst h;exact⟨rfl,rfl,cX,d,Ri,rfl⟩
 ·cases h
theorem pG{ops:Array Oper}{au:Array Bool}(tn:∀k,k<ops.size->∀j∈bF ops k,j<k)(hs:au.size=ops.size)(hr:Region.ready .any ops au=[]):∀k,k<ops.size->au.getD k false=true:=by
 intro k
 induction k using Nat.strongRecOn with
 |_ k ih=>
  intro hk
  cases hl:au.getD k false with
  |true=>rfl
  |false=>
   have:k∈Region.ready .any ops au:=by
    refine mem_ready.2 ⟨?_,ops[k],by simp[hk],fun e he hb=> ?_⟩
    ·simp only[Array.getD_eq_getD_getElem?]at hl|-
     rw[Array.getElem?_eq_getElem (by omega)]at hl|-
     simpa using hl
    ·have hm:e.on∈bF ops k:=by
      simp only[bF,Array.getElem?_eq_getElem hk,List.mem_map,List.mem_filter]
      exact⟨e,⟨Array.mem_toList_iff.2 he,hb⟩,rfl⟩
     exact ih _ (tn k hk _ hm) (by have:=tn k hk _ hm;omega)
   rw[hr]at this;cases this
theorem Cs(hs:cj M cL H0 w0 n cx φ s a w):cj M cL H0 w0 n cx φ s a {w with drawn:=w.drawn+1}:=by
 obtain⟨k1,k2⟩:=gr (w':={w with drawn:=w.drawn+1}) hs.heap ⟨rfl,rfl,rfl,Nat.le_refl _,fun _ _ _=>rfl⟩
 exact⟨k1,hs.tr.trans k2,hs.size,hs.defers.mono k2,fun i=>V.aT k2 _ _ (hs.env i)⟩
theorem kI{oc:Nat->bV}{ac:Nat->fq}{E:Nat->Bool}:∀k,(eL oc ac E s k).nx=s.nx
 |0=>rfl
 |k+1=>by
  simp only[eL]
  split
  ·cases ac k<;>exact kI k
  ·exact kI k
theorem Gm{oc:Nat->bV}{ac:Nat->fq}{E:Nat->Bool}{t:Nat}:∀k,(∀j,j<k->(oc j).dst≠some t)->(eL oc ac E s k).env t=s.env t
 |0,_=>rfl
 |k+1,h=>by
  have ih:=Gm (oc:=oc) (ac:=ac) (E:=E) (t:=t) k fun j hj=>h j af
  simp only[eL]
  split
  ·rw[kP fun d hd e=>h k (by omega) (by rw[hd,e])];exact ih
  ·exact ih
theorem Rk{oc:Nat->bV}{ac:Nat->fq}{E:Nat->Bool}{id:Nat}:∀k,(∀j,j<k->id∉kO (ac j))->(eL oc ac E s k).o id=s.o id
 |0,_=>rfl
 |k+1,h=>by
  have ih:=Rk (oc:=oc) (ac:=ac) (E:=E) (id:=id) k fun j hj=>h j af
  simp only[eL]
  split
  ·rw[nw (h k (by omega))];exact ih
  ·exact ih
theorem Ct(br:P.follows .mixedOrders=true){ops:Array Oper}{l:List bV}{id:Nat}(su:lj n ops ops.toList=some l)(tn:∀k,k<ops.size->∀j∈bF ops k,j<k){ac:Nat->fq}{dl wl:List Nat}
 (hs:cj M cL H0 w0 n cx φ s a w) (T0:∀i,i<ops.size->Rj P (eL (bY l) ac (fun _=>true) s i) (s.nx+i) (bY l i) (ac i))
 (Ih:∀i,i<ops.size->ac i= .ej->∃j∈bF ops i,(ac j).ok=false)
 {po:Nat->Nat->Prop} (Gn:∀E:Nat->Bool,(∀k,k<ops.size->E k=true->∀j∈bF ops k,E j=true)->∀k,k<ops.size->(∀j∈bF ops k,E j=true)->∀j,po k j->E j=true) (Cu:∀k,k<ops.size->∀j,po k j->j<k)
 (hc:∀i j,i<j->j<ops.size-> ¬po j i->Compat (bY l) ac (fun i=>xJ (ac i)) i j)
 (hdl:∀i,i<ops.size->∀t,(bY l i).dst=some t->dl.contains t=true) (hwl:∀i,i<ops.size->∀id∈kO (ac i),wl.contains id=true)
 (N4:∀i v ws rd,i<ops.size->ac i= .bL v ws rd->∀id∈ws,wl.contains id=true)
 (hQ:(∀i,i<ops.size->(ac i).ok=true)->∀φ a w,cj M cL H0 w0 n cx φ ⟨(eL (bY l) ac (fun _=>true) s ops.size).env,(eL (bY l) ac (fun _=>true) s ops.size).o,s.nx+ops.size⟩ a w->Q .normal a w)
 (hX:∀i v ws rd,i<ops.size->ac i= .bL v ws rd->∀φ a w val,cj M cL H0 w0 n cx φ (vG dl wl ops.size s) a w->V.den (aq M φ (vG dl wl ops.size s).H) φ (vG dl wl ops.size s).H w v val->Q (.panic [{v:=val,recovered:=false}]) a w):
 (Code.region id ops true).wpIn (dR ro) k P Q a w:=by
 refine wpIn_region_any br ?_
 have hs:=Cs hs
 generalize ({w with drawn:=w.drawn+1}:World)=w at hs
 let N:=ops.size
 let Ef (au:Array Bool) (k:Nat):Bool:=au.getD k false
 let FT (au:Array Bool) (j:Nat):Prop:=j<s.nx\/∃k,k<N/\Ef au k=true/\j=s.nx+k
 have key:∀ (fuel:Nat) (au:Array Bool) (φ:Place) (a:Act) (w:World),au.size=N->au.count true+fuel=N->(∀k,k<N->Ef au k=true->∀j∈bF ops k,Ef au j=true)->(∀k,k<N->Ef au k=true->(ac k).ok=true)->
  ue M cL H0 w0 n cx φ (eL (bY l) ac (Ef au) s N) (FT au) a w->wpAnyIn (dR ro) k P .any ops Q fuel au a w:=by
  have fin:∀ (au:Array Bool) (φ:Place) (a:Act) (w:World),(∀k,k<N->Ef au k=true)->(∀k,k<N->Ef au k=true->(ac k).ok=true)->ue M cL H0 w0 n cx φ (eL (bY l) ac (Ef au) s N) (FT au) a w->Q .normal a w:=by
   intro au φ a w bf EH hu
   have e:∀k,k<=N->eL (bY l) ac (Ef au) s k=eL (bY l) ac (fun _=>true) s k:=by
    intro k
    induction k with
    |zero=>intro _;rfl
    |succ k ih=>intro hk;simp only[eL,bf k (by omega),ih (by omega)]
   rw[e N (Nat.le_refl _)]at hu
   obtain⟨k1,k2⟩:=kj (us':=fun id=>id<s.nx+N) hu.heap (fun id h=>by
    show id<s.nx+N
    rcases h with h|⟨k,hk,_,rfl⟩<;>omega)
   exact hQ (fun i hi=>EH i hi (bf i hi)) φ a w ⟨k1,hu.tr.trans k2,hu.size,hu.defers.mono k2,fun i=>V.aT k2 _ _ (hu.env i)⟩
  intro fuel
  induction fuel with
  |zero=>
   intro au φ a w ek Ii rI EH hu
   have bf:∀k,k<N->Ef au k=true:=by
    intro k hk
    have h1:au.count true=au.size:=af
    rw[Array.count_eq_size]at h1
    have:=h1 au[k] (Array.getElem_mem af)
    simp only[Ef,Array.getD_eq_getD_getElem?]
    rw[Array.getElem?_eq_getElem (by omega)]
    simpa using this.symm
   refine⟨?_,fin au φ a w bf EH hu⟩
   rw[List.eq_nil_iff_forall_not_mem]
   intro k hk
   obtain⟨h1,o,h2,_⟩:=mem_ready.1 hk
   have hkN:k<N:=(Array.getElem?_eq_some_iff.1 h2).1
   have:=bf k hkN
   simp only[Ef,Array.getD_eq_getD_getElem?]at this h1
   rw[Array.getElem?_eq_getElem (by omega)]at this h1
   simp only[Option.getD_some]at this h1
   rw[this]at h1;cases h1
  |succ fuel ih=>
   intro au φ a w ek Ii rI EH hu
   refine⟨fun hr=>fin au φ a w (pG tn ek hr) EH hu,fun i hi=> ?_⟩
   obtain⟨h1,o,h2,h3⟩:=mem_ready.1 hi
   have uf:i<N:=(Array.getElem?_eq_some_iff.1 h2).1
   have lS:Ef au i=false:=by
    simp only[Ef,Array.getD_eq_getD_getElem?]at h1|-
    rw[Array.getElem?_eq_getElem (by omega)]at h1|-
    simpa using h1
   have KN:∀j∈bF ops i,Ef au j=true:=by
    exact Tz
   have KQ:Aq N po (Ef au):=fun k hk jc=>Gn _ rI k hk (rI k hk jc)
   obtain⟨Z7,ag2⟩:=agree (s:=s) Cu hc KQ uf lS (Gn _ rI i uf KN)
   obtain⟨g1,g2,g3,g4⟩:=yC (vI _ _ i o su xW)
   have cQ: ¬FT au (s.nx+i):=by
    rintro(h|⟨k,_,hk,he⟩)
    ·omega
    ·have:k=i:=af
     subst this;rw[lS]at hk;cases hk
   have EG:∀k,Ef (au.setIfInBounds i true) k=(Ef au k||k==i):=by
    intro k
    simp only[Ef,Array.getD_eq_getD_getElem?]
    by_cases e:k=i
    ·subst e;simp[ek,uf]
    ·rw[Array.getElem?_setIfInBounds_ne (Ne.symm e)]
     have:(k==i)=false:=by simpa using e
     simp[this]
   have T1:=insert (s:=s) hc KQ uf lS EG
   have T2:∀k,k<N->Ef (au.setIfInBounds i true) k=true->∀j∈bF ops k,Ef (au.setIfInBounds i true) j=true:=by
    intro k hk jc j hj
    rw[EG]at jc|-
    by_cases e:k=i
    ·subst e;simp[KN j hj]
    ·have:(k==i)=false:=by simpa using e
     rw[this,Bool.or_false]at jc
     simp[rI k hk jc j hj]
   have KT:(au.setIfInBounds i true).count true+fuel=N:=by
    have ck:i<au.size:=af
    have e1:au.setIfInBounds i true=au.set i true ck:=by simp[Array.setIfInBounds,ck]
    have e2:au[i]=false:=by
     have:=lS
     simp only[Ef,Array.getD_eq_getD_getElem?]at this
     rw[Array.getElem?_eq_getElem ck]at this
     simpa using this
    rw[e1,Array.count_set ck,e2]
    simp
    omega
   have jb:(ac i).ok=true->∀aI a' w',ue M cL H0 w0 n cx aI (xj o.dst (ac i) (eL (bY l) ac (Ef au) s N)) (fun id=>FT au id\/id=s.nx+i) a' w'->wpAnyIn (dR ro) k P .any ops Q fuel (au.setIfInBounds i true) a' w':=by
    intro Z8 aI a' w' Bw
    refine ih _ aI a' w' (by simp[ek]) KT T2 (fun k hk jc=> ?_) ?_
    ·rw[EG]at jc
     by_cases e:k=i
     ·subst e;exact Z8
     ·have:(k==i)=false:=by simpa using e
      rw[this,Bool.or_false]at jc
      exact EH k hk jc
    rw[T1,g2]
    obtain⟨k1,k2⟩:=kj (us':=FT (au.setIfInBounds i true)) Bw.heap (fun id h=>by
     rcases h with(h|⟨k,hk,jc,rfl⟩)|rfl
     ·exact .inl h
     ·exact .inr ⟨k,hk,by rw[EG,jc];rfl,rfl⟩
     ·exact .inr ⟨i,uf,by rw[EG];simp,rfl⟩)
    exact YL
   have Ij:∀d want,(bY l i).gd=some (d,want)->(eL (bY l) ac (Ef au) s N).env d=(eL (bY l) ac (fun _=>true) s i).env d:=fun d want hd=>Z7 d (by simp[fg,tmpsOf,hd])
   have aW:=T0 i uf
   have J4:∀x∈(bY l i).op.operands,(eL (bY l) ac (Ef au) s N).ev x=(eL (bY l) ac (fun _=>true) s i).ev x:=fun x hx=>Cq fun t ht=>Z7 t (by
    subst ht
    simp only[fg,tmpsOf,List.mem_append,List.mem_filterMap]
    exact .inl (.inl ⟨.tmp t,Array.mem_toList_iff.2 hx,rfl⟩))
   have TL:(eL (bY l) ac (Ef au) s N).nx=(eL (bY l) ac (fun _=>true) s i).nx:=(kI N).trans (kI i).symm
   unfold wpOpIn
   simp only[h2]
   cases xg:ac i with
   |skip=>
    rw[xg]at aW jb
    have hw:=fM hu.env g4 (fN Ij aW)
    simp only[hw,Bool.false_eq_true,if_false]
    refine⟨fun _ _=>trivial,jb rfl φ _ w ?_⟩
    have:=jD (v:= .bS []) (val:=undef) hu hu.heap (Trans.refl _ _ _) ⟨#[],rfl,rfl⟩ (dst:=o.dst) g3 rfl (us':=fun id=>FT au id\/id=s.nx+i) (fun id h=> .inl h)
    exact this
   |val v Δ rd=>
    rw[xg]at aW jb
    have hw:=fM hu.env g4 (fN Ij aW.1)
    exact Zo
   |bL v ws rd=>
    rw[xg]at aW
    have hw:=fM hu.env g4 (fN Ij aW.1)
    simp only[hw,if_true]
    have jZ:=Cr J4 (fun id aw=>ag2 id (by rw[xg];exact aw)) TL aW.2
    refine KO (s0:=s) (ds:=dl) (wl:=wl) (N:=N) hu (fun id h=> .inl (by rw[kI]at h;exact h)) (fun id h=> ?_) g1.symm jZ (fun t ht=> ?_) (fun id aw=> ?_) (N4 i v ws rd uf xg) (kI N).symm (fun aI w' val h1 h2=>hX i v ws rd uf xg aI a w' val h1 h2)
    ·rw[kI]
     rcases h with h|⟨k,hk,_,rfl⟩<;>omega
    ·refine Gm N fun j hj e=> ?_
     have:=hdl j hj t e
     rw[ht]at this;cases this
    ·refine Rk N fun j hj hm=> ?_
     have:=hwl j hj id hm
     rw[aw]at this;cases this
   |ej=>
    exfalso
    obtain⟨j,hj,T3⟩:=Ih i uf xg
    have:=EH j (Nat.lt_trans (tn i uf j hj) uf) (KN j hj)
    rw[T3]at this;cases this
 refine key ops.size _ φ a w (by simp[N]) (by simp[N,Array.count_replicate]) (fun k hk jc=> ?_) (fun k hk jc=> ?_) ?_
 ·exact zw4
 ·exact zw4
 ·have e:∀k,eL (bY l) ac (Ef (Array.replicate ops.size false)) s k=s:=by
   intro k
   induction k with
   |zero=>rfl
   |succ k ih=>
    have:Ef (Array.replicate ops.size false) k=false:=by
     exact QA
    simp only[eL,this,ih]
    rfl
  exact Zv
end
end
section
section
variable {P:Program}{M:Nat->Prop}{φ cL:Place}{H0:Hp}{w w' w0:World}{n:Nat}{s:S}{us:Nat->Prop}{a:Act}{cx:Cx}{ro:Option Nat}{k:Nat}
variable {Q:Exit->Act->World->Prop}
theorem Ik{ops:Array Oper}{po:Nat->Nat->Prop}{m:Nat}{X:V->S->Prop}{K:S->Prop}
 (tn:∀k,k<ops.size->∀j∈bF ops k,j<k)
 (Gn:∀E:Nat->Bool,(∀k,k<ops.size->E k=true->∀j∈bF ops k,E j=true)->∀k,k<ops.size->(∀j∈bF ops k,E j=true)->∀j,po k j->E j=true)
 (Gp:∀k,m<=k->k<ops.size->∀j,j<k->po k j)
 (hK:∀s φ a w,K s->cj M cL H0 w0 n cx φ s a w->Q .normal a w)
 (hX:∀v s' aI a' w' val,X v s'->cj M cL H0 w0 n cx aI s' a' w'->V.den (aq M aI s'.H) aI s'.H w' v val->Q (.panic [{v:=val,recovered:=false}]) a' w'):
 ∀ (d t:Nat) (s:S) (φ:Place) (au:Array Bool) (a:Act) (w:World),t+d=ops.size->au.size=ops.size->(∀k,k<ops.size->au.getD k false=decide (k<t))->m<=t->
   cj M cL H0 w0 n cx φ s a w->zX P n ops X K (ops.toList.drop t) s->wpAnyIn (dR ro) k P .any ops Q d au a w:=by
 intro d
 induction d with
 |zero=>
  intro t s φ au a w ht ek hl Jo hs h
  have e:t=ops.size:=af
  subst e
  refine⟨?_, ?_⟩
  ·rw[List.eq_nil_iff_forall_not_mem]
   intro j hj
   obtain⟨h1,o,h2,_⟩:=mem_ready.1 hj
   have hjN:j<ops.size:=(Array.getElem?_eq_some_iff.1 h2).1
   have:=hl j hjN
   simp only[Array.getD_eq_getD_getElem?]at this h1
   rw[Array.getElem?_eq_getElem (by omega)]at this h1
   simp only[Option.getD_some]at this h1
   rw[h1]at this
   simp[hjN]at this
  ·rw[List.drop_eq_nil_of_le (by simp)]at h
   exact hK s φ a w h hs
 |succ d ih=>
  intro t s φ au a w ht ek hl Jo hs h
  have htN:t<ops.size:=af
  refine⟨fun hr=> ?_,fun i hi=> ?_⟩
  ·have:=pG tn ek hr t htN
   rw[hl t htN]at this
   simp at this
  ·obtain⟨h1,o,h2,h3⟩:=mem_ready.1 hi
   have uf:i<ops.size:=(Array.getElem?_eq_some_iff.1 h2).1
   have lS:au.getD i false=false:=by
    simp only[Array.getD_eq_getD_getElem?]at h1|-
    rw[Array.getElem?_eq_getElem (by omega)]at h1|-
    simpa using h1
   have hit:t<=i:=by
    have:=hl i uf
    rw[lS]at this
    have:=of_decide_eq_false this.symm
    omega
   have KN:∀j∈bF ops i,au.getD j false=true:=by
    exact Tz
   have rI:∀k,k<ops.size->au.getD k false=true->∀j∈bF ops k,au.getD j false=true:=by
    intro k hk jc j hj
    have QR:=tn k hk j hj
    rw[hl k hk]at jc
    rw[hl j (by omega)]
    have:=of_decide_eq_true jc
    exact decide_eq_true af
   have hie:i=t:=by
    rcases Nat.eq_or_lt_of_le hit with e|e
    ·exact e.symm
    ·have:=Gn (fun k=>au.getD k false) rI i uf KN t (Gp i af uf t e)
     rw[hl t htN]at this
     simp at this
   subst hie
   have Cv:ops.toList.drop i=o::ops.toList.drop (i+1):=by
    have TV:i<ops.toList.length:=by simpa using uf
    rw[List.drop_eq_getElem_cons TV]
    have:ops.toList[i]=o:=by
     have:=(Array.getElem?_eq_some_iff.1 h2).2
     simpa using this
    rw[this]
   rw[Cv]at h
   obtain⟨g1,g2⟩:=qC hs h
   have Gb:∀k,k<ops.size->(au.setIfInBounds i true).getD k false=decide (k<i+1):=by
    intro k hk
    simp only[Array.getD_eq_getD_getElem?]
    by_cases e:k=i
    ·subst e;simp[ek,uf]
    ·rw[Array.getElem?_setIfInBounds_ne (Ne.symm e)]
     have:=hl k hk
     simp only[Array.getD_eq_getD_getElem?]at this
     rw[this]
     exact decide_eq_decide.2 af
   have jb:∀s' aI a' w',zX P n ops X K (ops.toList.drop (i+1)) s'->cj M cL H0 w0 n cx aI s' a' w'->wpAnyIn (dR ro) k P .any ops Q d (au.setIfInBounds i true) a' w':=
    fun s' aI a' w' hk j7=>ih (i+1) s' aI _ a' w' af (by simp[ek]) Gb af j7 hk
   unfold wpOpIn
   simp only[h2]
   split
   ·rename_i hw
    exact yq hs (g1 hw) (fun s' aI a' w' hk j7=>jb s' aI a' w' hk j7) (fun v s' aI w' val hx j7 hd=>hX v s' aI a w' val hx j7 hd)
   ·rename_i hw
    obtain⟨cX,h3⟩:=g2 (by simpa using hw)
    exact⟨fun _ _=>trivial,jb _ _ _ _ h3 (Cc hs cX)⟩
theorem EI(br:P.follows .mixedOrders=true){ops:Array Oper}{l:List bV}{id:Nat}(su:lj n ops ops.toList=some l)(tn:∀k,k<ops.size->∀j∈bF ops k,j<k){ac:Nat->fq}{m:Nat}(hm:m<=ops.size){X:V->S->Prop}{K:S->Prop}
 (hs:cj M cL H0 w0 n cx φ s a w) (T0:∀i,i<m->Rj P (eL (bY l) ac (fun _=>true) s i) (s.nx+i) (bY l i) (ac i))
 (Z9:∀i,i<m->(ac i).ok=true)
 {po:Nat->Nat->Prop} (Gn:∀E:Nat->Bool,(∀k,k<ops.size->E k=true->∀j∈bF ops k,E j=true)->∀k,k<ops.size->(∀j∈bF ops k,E j=true)->∀j,po k j->E j=true) (Cu:∀k,k<ops.size->∀j,po k j->j<k)
 (hc:∀i j,i<j->j<m-> ¬po j i->Compat (bY l) ac (fun i=>xJ (ac i)) i j)
 (Gp:∀k,m<=k->k<ops.size->∀j,j<k->po k j)
 (eG:zX P n ops X K (ops.toList.drop m) ⟨(eL (bY l) ac (fun _=>true) s m).env,(eL (bY l) ac (fun _=>true) s m).o,s.nx+m⟩)
 (hK:∀s φ a w,K s->cj M cL H0 w0 n cx φ s a w->Q .normal a w)
 (hX:∀v s' aI a' w' val,X v s'->cj M cL H0 w0 n cx aI s' a' w'->V.den (aq M aI s'.H) aI s'.H w' v val->Q (.panic [{v:=val,recovered:=false}]) a' w'):
 (Code.region id ops true).wpIn (dR ro) k P Q a w:=by
 refine wpIn_region_any br ?_
 have hs:=Cs hs
 generalize ({w with drawn:=w.drawn+1}:World)=w at hs
 let N:=m
 let Ef (au:Array Bool) (k:Nat):Bool:=au.getD k false
 let FT (au:Array Bool) (j:Nat):Prop:=j<s.nx\/∃k,k<N/\Ef au k=true/\j=s.nx+k
 have key:∀ (fuel:Nat) (au:Array Bool) (φ:Place) (a:Act) (w:World),au.size=ops.size->au.count true+fuel=ops.size->(∀k,k<ops.size->Ef au k=true->∀j∈bF ops k,Ef au j=true)->(∀k,k<ops.size->Ef au k=true->k<m)->
  ue M cL H0 w0 n cx φ (eL (bY l) ac (Ef au) s N) (FT au) a w->wpAnyIn (dR ro) k P .any ops Q fuel au a w:=by
  have fin:∀ (fuel:Nat) (au:Array Bool) (φ:Place) (a:Act) (w:World),au.size=ops.size->au.count true+fuel=ops.size->(∀k,k<ops.size->Ef au k=true->k<m)->(∀k,k<N->Ef au k=true)->ue M cL H0 w0 n cx φ (eL (bY l) ac (Ef au) s N) (FT au) a w->wpAnyIn (dR ro) k P .any ops Q fuel au a w:=by
   intro fuel au φ a w ek Ii ck bf hu
   have e:∀k,k<=N->eL (bY l) ac (Ef au) s k=eL (bY l) ac (fun _=>true) s k:=by
    intro k
    induction k with
    |zero=>intro _;rfl
    |succ k ih=>intro hk;simp only[eL,bf k (by omega),ih (by omega)]
   rw[e N (Nat.le_refl _)]at hu
   obtain⟨k1,k2⟩:=kj (us':=fun id=>id<s.nx+N) hu.heap (fun id h=>by
    show id<s.nx+N
    rcases h with h|⟨k,hk,_,rfl⟩<;>omega)
   have hlv:∀k,k<ops.size->au.getD k false=decide (k<m):=by
    intro k hk
    by_cases h:k<m
    ·rw[decide_eq_true h];exact bf k h
    ·rw[decide_eq_false h]
     cases hb:au.getD k false with
     |false=>rfl
     |true=>exact absurd (ck k hk hb) h
   have hcm:au.count true=m:=by
    have e1:au=Array.ofFn (n:=ops.size) fun k=>decide (k.1<m):=by
     apply Array.ext
     ·simp[ek]
     ·intro k h1 h2
      have:=hlv k af
      simp only[Array.getD_eq_getD_getElem?]at this
      rw[Array.getElem?_eq_getElem h1]at this
      simpa using this
    have e2:au.toList=List.replicate m true++List.replicate (ops.size - m) false:=by
     apply List.ext_getElem?
     intro k
     by_cases hk:k<ops.size
     ·have h1:au.toList[k]? =some (decide (k<m)):=by
       have:=hlv k hk
       simp only[Array.getD_eq_getD_getElem?]at this
       rw[Array.getElem?_eq_getElem (by omega)]at this
       simp only[Option.getD_some]at this
       rw[Array.getElem?_toList,Array.getElem?_eq_getElem (by omega),this]
      rw[h1]
      by_cases h:k<m
      ·rw[List.getElem?_append_left (by simpa using h)]
       simp[h]
      ·rw[List.getElem?_append_right (by simpa using(by omega:m<=k))]
       rw[List.length_replicate,List.getElem?_replicate,if_pos (by omega),decide_eq_false h]
     ·rw[List.getElem?_eq_none (by simp[ek];omega),List.getElem?_eq_none (by simp;omega)]
    rw[<- Array.count_toList,e2,List.count_append,List.count_replicate_self,List.count_replicate]
    simp
   exact Ik tn Gn Gp hK hX fuel m ⟨(eL (bY l) ac (fun _=>true) s m).env,(eL (bY l) ac (fun _=>true) s m).o,s.nx+m⟩ φ au a w af ek hlv (Nat.le_refl _) ⟨k1,hu.tr.trans k2,hu.size,hu.defers.mono k2,fun i=>V.aT k2 _ _ (hu.env i)⟩ eG
  intro fuel
  induction fuel with
  |zero=>
   intro au φ a w ek Ii rI ck hu
   have bf:∀k,k<ops.size->Ef au k=true:=by
    intro k hk
    have h1:au.count true=au.size:=af
    rw[Array.count_eq_size]at h1
    have:=h1 au[k] (Array.getElem_mem af)
    simp only[Ef,Array.getD_eq_getD_getElem?]
    rw[Array.getElem?_eq_getElem (by omega)]
    simpa using this.symm
   exact fin 0 au φ a w ek Ii ck (fun k hk=>bf k af) hu
  |succ fuel ih=>
   intro au φ a w ek Ii rI ck hu
   by_cases Rl:∀k,k<m->Ef au k=true
   ·exact fin (fuel+1) au φ a w ek Ii ck Rl hu
   have hex:∃j,j<m/\Ef au j=false:=by
    apply Classical.byContradiction
    intro oQ
    refine Rl fun k hk=> ?_
    cases hb:Ef au k with
    |true=>rfl
    |false=>exact absurd ⟨k,hk,hb⟩ oQ
   obtain⟨j0,hj0,aaa⟩:=hex
   refine⟨fun hr=> ?_,fun i hi=> ?_⟩
   ·have:=pG tn ek hr j0 af
    rw[show au.getD j0 false=false from aaa]at this
    cases this
   obtain⟨h1,o,h2,h3⟩:=mem_ready.1 hi
   have hiS:i<ops.size:=(Array.getElem?_eq_some_iff.1 h2).1
   have lS:Ef au i=false:=by
    simp only[Ef,Array.getD_eq_getD_getElem?]at h1|-
    rw[Array.getElem?_eq_getElem (by omega)]at h1|-
    simpa using h1
   have KN:∀j∈bF ops i,Ef au j=true:=by
    exact Tz
   have uf:i<N:=by
    apply Classical.byContradiction
    intro Bj
    have Bj:m<=i:=Nat.le_of_not_lt Bj
    have:=Gn _ rI i hiS KN j0 (Gp i Bj hiS j0 af)
    rw[aaa]at this;cases this
   have KQ:Aq N po (Ef au):=fun k hk jc=>Gn _ rI k af (rI k af jc)
   obtain⟨Z7,ag2⟩:=agree (s:=s) (n:=N) (fun k hk=>Cu k af) hc KQ uf lS (Gn _ rI i af KN)
   obtain⟨g1,g2,g3,g4⟩:=yC (vI _ _ i o su xW)
   have cQ: ¬FT au (s.nx+i):=by
    rintro(h|⟨k,_,hk,he⟩)
    ·omega
    ·have:k=i:=af
     subst this;rw[lS]at hk;cases hk
   have EG:∀k,Ef (au.setIfInBounds i true) k=(Ef au k||k==i):=by
    intro k
    simp only[Ef,Array.getD_eq_getD_getElem?]
    by_cases e:k=i
    ·subst e;simp[ek,hiS]
    ·rw[Array.getElem?_setIfInBounds_ne (Ne.symm e)]
     have:(k==i)=false:=by simpa using e
     simp[this]
   have T1:=insert (s:=s) hc KQ uf lS EG
   have T2:∀k,k<ops.size->Ef (au.setIfInBounds i true) k=true->∀j∈bF ops k,Ef (au.setIfInBounds i true) j=true:=by
    intro k hk jc j hj
    rw[EG]at jc|-
    by_cases e:k=i
    ·subst e;simp[KN j hj]
    ·have:(k==i)=false:=by simpa using e
     rw[this,Bool.or_false]at jc
     simp[rI k hk jc j hj]
   have KT:(au.setIfInBounds i true).count true+fuel=ops.size:=by
    have ck:i<au.size:=af
    have e1:au.setIfInBounds i true=au.set i true ck:=by simp[Array.setIfInBounds,ck]
    have e2:au[i]=false:=by
     have:=lS
     simp only[Ef,Array.getD_eq_getD_getElem?]at this
     rw[Array.getElem?_eq_getElem ck]at this
     simpa using this
    rw[e1,Array.count_set ck,e2]
    simp
    omega
   have jb:(ac i).ok=true->∀aI a' w',ue M cL H0 w0 n cx aI (xj o.dst (ac i) (eL (bY l) ac (Ef au) s N)) (fun id=>FT au id\/id=s.nx+i) a' w'->wpAnyIn (dR ro) k P .any ops Q fuel (au.setIfInBounds i true) a' w':=by
    intro Z8 aI a' w' Bw
    refine ih _ aI a' w' (by simp[ek]) KT T2 (fun k hk jc=> ?_) ?_
    ·rw[EG]at jc
     by_cases e:k=i
     ·subst e;exact uf
     ·have:(k==i)=false:=by simpa using e
      rw[this,Bool.or_false]at jc
      exact ck k hk jc
    rw[T1,g2]
    obtain⟨k1,k2⟩:=kj (us':=FT (au.setIfInBounds i true)) Bw.heap (fun id h=>by
     rcases h with(h|⟨k,hk,jc,rfl⟩)|rfl
     ·exact .inl h
     ·exact .inr ⟨k,hk,by rw[EG,jc];rfl,rfl⟩
     ·exact .inr ⟨i,uf,by rw[EG];simp,rfl⟩)
    exact YL
   have Ij:∀d want,(bY l i).gd=some (d,want)->(eL (bY l) ac (Ef au) s N).env d=(eL (bY l) ac (fun _=>true) s i).env d:=fun d want hd=>Z7 d (by simp[fg,tmpsOf,hd])
   have aW:=T0 i uf
   have J4:∀x∈(bY l i).op.operands,(eL (bY l) ac (Ef au) s N).ev x=(eL (bY l) ac (fun _=>true) s i).ev x:=fun x hx=>Cq fun t ht=>Z7 t (by
    subst ht
    simp only[fg,tmpsOf,List.mem_append,List.mem_filterMap]
    exact .inl (.inl ⟨.tmp t,Array.mem_toList_iff.2 hx,rfl⟩))
   have TL:(eL (bY l) ac (Ef au) s N).nx=(eL (bY l) ac (fun _=>true) s i).nx:=(kI N).trans (kI i).symm
   unfold wpOpIn
   simp only[h2]
   cases xg:ac i with
   |skip=>
    rw[xg]at aW jb
    have hw:=fM hu.env g4 (fN Ij aW)
    simp only[hw,Bool.false_eq_true,if_false]
    refine⟨fun _ _=>trivial,jb rfl φ _ w ?_⟩
    have:=jD (v:= .bS []) (val:=undef) hu hu.heap (Trans.refl _ _ _) ⟨#[],rfl,rfl⟩ (dst:=o.dst) g3 rfl (us':=fun id=>FT au id\/id=s.nx+i) (fun id h=> .inl h)
    exact this
   |val v Δ rd=>
    rw[xg]at aW jb
    have hw:=fM hu.env g4 (fN Ij aW.1)
    exact Zo
   |bL v ws rd=>
    have:=Z9 i uf
    rw[xg]at this;cases this
   |ej=>
    have:=Z9 i uf
    rw[xg]at this;cases this
 refine key ops.size _ φ a w aH (by simp[Array.count_replicate]) (fun k hk jc=> ?_) (fun k hk jc=> ?_) ?_
 ·exact zw4
 ·exact zw4
 ·have e:∀k,eL (bY l) ac (Ef (Array.replicate ops.size false)) s k=s:=by
   intro k
   induction k with
   |zero=>rfl
   |succ k ih=>
    have:Ef (Array.replicate ops.size false) k=false:=by
     exact QA
    simp only[eL,this,ih]
    rfl
  exact Zv
end
end
end Go.Proofs.YtlhemmpklhhgoaaGreat
