/-
  A PART. Conditions: none.
-/
import Derived.OrdersIn
import Derived.Test.YtnkamdiiakdkgaaGreatEe7
set_option linter.unusedSimpArgs false
set_option linter.unusedVariables false
set_option maxHeartbeats 8000000
namespace Go.Proofs.YtnkamdiiakdkgaaGreat
section
def aa.refs:aa->List Nat
 | .row cs=>V.aM cs
 | .loop _ _ env _ _ _ _ _=>V.aM env
 |_=>[]
def zg(R:List Nat)(o:Nat->aa):Nat->aa:=fun id=>if R.contains id=true then o id else .no
def zh(P:Program)(g:FuncId)(args:List V)(rd:List Nat)(o:Nat->aa)(out:R)(Δ:List (Nat×aa)):Prop:=
 Enters P g/\∀ (o':Nat->aa) (us:Nat->Prop) (M:Nat->Prop) (φ:Place) (w:World) (vals:Array Value),(∀id∈rd,o' id=o id/\us id)->ay M φ ⟨o',us⟩ w->V.aG (ao M φ ⟨o',us⟩) φ ⟨o',us⟩ w args vals.toList->
  Calls P g vals w fun e w'=>∃aH,ay M aH ⟨put o' Δ,us⟩ w'/\Trans φ ⟨o',us⟩ w aH ⟨put o' Δ,us⟩ w'/\out.is (ao M aH ⟨put o' Δ,us⟩) w' e
def BO(P:Program)(g:FuncId)(args:List V)(rd:List Nat)(o:Nat->aa)(fr:Nat)(v:V)(Δ:List (Nat×aa)):Prop:=
 Enters P g/\∀ (o':Nat->aa) (us:Nat->Prop) (M:Nat->Prop) (φ:Place) (w:World) (vals:Array Value),(∀id∈rd,o' id=o id/\us id)-> ¬us fr->ay M φ ⟨o',us⟩ w->V.aG (ao M φ ⟨o',us⟩) φ ⟨o',us⟩ w args vals.toList->
  Calls P g vals w fun e w'=>∃aH,ay M aH ⟨put o' Δ,fun id=>us id\/id=fr⟩ w'/\Trans φ ⟨o',us⟩ w aH ⟨put o' Δ,fun id=>us id\/id=fr⟩ w'/\∃val,e= .returned val/\V.den (ao M aH ⟨put o' Δ,fun id=>us id\/id=fr⟩) aH ⟨put o' Δ,fun id=>us id\/id=fr⟩ w' v val
mutual
theorem V.oM {B B':Nat->Prop}{φ aH:Place}{H H':Hp}{w:World}(hB:∀b, ¬B b-> ¬B' b):∀ (v:V) (val:Value),(∀id∈v.refs,H'.o id=H.o id/\aH id=φ id/\H'.us id)->V.den B φ H w v val->V.den B' aH H' w v val
 | .d x,val,_,h=>D.aS (w:=w) (w':=w) (fun b _ hn=>⟨rfl,hB b hn⟩) x val h
 | .aU,_,_,h=>h
 | .ag,_,_,_=>trivial
 | .fl,_,_,h=>h
 | .qx es,val,_,h=>⟨D.aS (w:=w) (w':=w) (fun b _ hn=>⟨rfl,hB b hn⟩) (.sl es) val h.1,h.2⟩
 | .agg cs,val,hr,h=>by
   obtain⟨a,rfl,h1,h2⟩:=h
   exact⟨a,rfl,V.hZ hB cs _ zC h1,h2⟩
 | .cc cs,val,hr,h=>by
   obtain⟨a,rfl,h1⟩:=h
   exact⟨a,rfl,V.hZ hB cs _ zC h1⟩
 | .ptr id off,val,hr,h=>by
   exact XW
 | .osl id ep,val,hr,h=>by
   obtain⟨a,b,c⟩:=hr id Dd
   obtain⟨h0,h1,h2⟩:=h
   refine⟨h0,c,fun e he=> ?_⟩
   rw[a]at he
   obtain⟨x,y⟩:=h2 e he
   exact⟨x,fun heq=>(y heq).trans b.symm⟩
 | .pe id ep i sz off,val,hr,h=>by
   obtain⟨a,b,c⟩:=hr id Dd
   obtain⟨h0,h1,h2⟩:=h
   refine⟨h0,c,fun e he=> ?_⟩
   rw[a]at he
   obtain⟨x,y⟩:=h2 e he
   exact U3
 | .pp cs off,val,_,h=>by
   obtain⟨a,ev,h1,h2,h3,h5,h4⟩:=h
   exact acy
 | .func fn first cap,val,hr,h=>by
   obtain⟨f,c,rfl,h1,h2⟩:=h
   exact⟨f,c,rfl,V.hZ hB first _ (fun id aq=>hr id (by simp[V.refs,aq])) h1,V.hZ hB cap _ (fun id aq=>hr id (by simp[V.refs,aq])) h2⟩
 | .iface t x,val,hr,h=>by
   obtain⟨u,rfl,h⟩:=h
   exact⟨u,rfl,V.oM hB x u zC h⟩
 | .jo id off n _,val,hr,h=>by
   exact XW
 | .mp id,val,hr,h=>by
   obtain⟨a,b,c⟩:=hr id Dd
   obtain⟨h0,h1,h2⟩:=h
   refine⟨h0,c,fun bD=> ?_⟩
   rw[a]at bD
   exact(h2 bD).trans b.symm
 | .jI id,val,hr,h=>by
   exact XW
theorem V.hZ {B B':Nat->Prop}{φ aH:Place}{H H':Hp}{w:World}(hB:∀b, ¬B b-> ¬B' b):∀ (vs:List V) (vals:List Value),(∀id∈V.aM vs,H'.o id=H.o id/\aH id=φ id/\H'.us id)->V.aG B φ H w vs vals->V.aG B' aH H' w vs vals
 |[],_,_,h=>h
 |v::vs,_,hr,h=>by
  obtain⟨u,us,rfl,h1,h2⟩:=h
  exact⟨u,us,rfl,V.oM hB v u (fun id aq=>hr id (by simp[V.aM,aq])) h1,V.hZ hB vs us (fun id aq=>hr id (by simp[V.aM,aq])) h2⟩
end
theorem Ll{env:List V}{i id:Nat}(h:id∈(aT env i).refs):id∈V.aM env:=by
 unfold aT at h
 induction env generalizing i with
 |nil=>simp[V.refs]at h
 |cons v env ih=>
  cases i with
  |zero=>simp only[List.getD_cons_zero]at h;simp[V.aM,h]
  |succ i=>simp only[List.getD_cons_succ]at h;simp[V.aM,ih h]
theorem aO.refs {M M':Nat->Prop}{φ aH:Place}{H H':Hp}{w:World}{id:Nat}(hB:∀b, ¬ao M φ H b-> ¬ao M' aH H' b)(ho:H'.o id=H.o id)(dz:aH id=φ id)
 (hr:∀j∈(H.o id).refs,H'.o j=H.o j/\aH j=φ j/\H'.us j) (h:aO M φ H w id):aO M' aH H' w id:=by
 have hd:∀b,cP w b-> ¬ao M φ H b->w.heap[b]? =w.heap[b]? /\ ¬ao M' aH H' b:=fun b _ hn=>⟨rfl,hB b hn⟩
 unfold aO at*
 rw[ho]
 cases hx:H.o id with
 |no=>trivial
 |row cs=>
  simp only[hx]at h|-
  obtain⟨b,dk,ty,h1,h2,h3,h4⟩:=h
  exact⟨b,dk,ty,dz.trans h1,h2,V.hZ hB cs _ (fun j hj=>hr j (by rw[hx];exact hj)) h3,h4⟩
 |arr ep ty sz es=>
  simp only[hx]at h|-
  obtain⟨h0,xs,h1,evs,h2,h3,h4⟩:=h
  exact⟨h0,xs,by rw[dz];exact h1,evs,h2,h3,D.aQ hd es evs h4⟩
 |qg ep es=>
  simp only[hx]at h|-
  rw[dz]
  exact D.aS hd (.sl es) _ h
 |map kt vt l=>
  simp only[hx]at h|-
  obtain⟨b,es,clock,h1,h2,h4,h3⟩:=h
  exact⟨b,es,clock,dz.trans h1,h2,h4,aN.mono hd l _ h3⟩
 |gw l=>
  simp only[hx]at h|-
  rw[dz]
  exact kE.mono hd h
 |pW l last=>
  simp only[hx]at h|-
  obtain⟨b,h1,h2⟩:=h
  exact⟨b,dz.trans h1,h2.mono hd rfl⟩
 |yY s pos=>
  simp only[hx]at h|-
  obtain⟨b,h1,h2⟩:=h
  exact⟨b,dz.trans h1,h2⟩
 |loop nf n env ps jM fm st KH=>
  simp only[hx]at h|-
  obtain⟨b,r,h1,h2,h0,h3,h4,h5,h6,h7,h8,h9⟩:=h
  exact⟨b,r,dz.trans h1,h2,h0,h3,h4,h5,h6,h7,h8,fun i=>V.oM hB _ _ (fun j hj=>hr j (by rw[hx];exact Ll hj)) (h9 i)⟩
section
variable {P:Program}
theorem G5{o o':Nat->aa}{Δ:List (Nat×aa)}{id:Nat}(h:o id=o' id):put o Δ id=put o' Δ id:=I8 h
where I8 {o o':Nat->aa}:∀ {Δ:List (Nat×aa)} {id:Nat},o id=o' id->put o Δ id=put o' Δ id
 |[],_,h=>h
 |x::Δ,id,h=>by
  simp only[put,List.foldl_cons]
  refine I8 (Δ:=Δ) (o:=au o x.1 x.2) (o':=au o' x.1 x.2) ?_
  simp only[aR]
  split
  ·rfl
  ·exact h
theorem BP{o:Nat->aa}:∀ {Δ:List (Nat×aa)} {id:Nat},(∀x∈Δ,x.1≠id)->put o Δ id=o id
 |[],_,_=>rfl
 |x::Δ,id,h=>by
  have:=BP (o:=au o x.1 x.2) (Δ:=Δ) (id:=id) (fun y hy=>h y mj)
  simp only[put,List.foldl_cons]at this|-
  rw[this];simp[Ne.symm (h x (by simp))]
theorem zh.jP {g:FuncId}{args:List V}{rd:List Nat}{o:Nat->aa}{nx:Nat}{out:R}{Δ:List (Nat×aa)}(w8:∀id∈rd,id<nx)(eC:∀id∈V.aM args,id∈rd)(mY:∀id∈rd,∀j∈(o id).refs,j∈rd)(hΔ:∀x∈Δ,x.1∈rd)(Yx:∀x∈Δ,∀j∈x.2.refs,j∈rd)
 (h:cX P g args (zg rd o) nx
  (fun v o1 _=>(∀id∈rd,o1 id=put o Δ id)/\∃vs rs,v=(match vs with|[v]=>v|vs=> .cc vs)/\cF o1 vs=some rs/\out= .ret rs/\∀id∈V.bC vs,id∉rd)
  (fun v o1 _=>(∀id∈rd,o1 id=put o Δ id)/\∃x,dS o1 v=some x/\out= .bU x/\∀id∈v.ids,id∉rd)):zh P g args rd o out Δ:=by
 refine⟨h.1,fun o' us M φ w vals ho hH hd=> ?_⟩
 let M1:Nat->Prop:=fun b=>M b\/∃id,id∉rd/\(o' id).live=true/\dG (φ id)=some b
 let HR:Hp:=hp (zg rd o) nx
 have xg:∀id,id∈rd->zg rd o id=o' id:=fun id aq=>by simp[zg,aq,(ho id aq).1]
 have uN:∀id,id∉rd->zg rd o id= .no:=fun id aq=>by simp[zg,aq]
 have hB:∀b,ao M1 φ HR b↔ao M φ ⟨o',us⟩ b:=by
  intro b
  constructor
  ·rintro((h|⟨id,h1,h2,h3⟩)|⟨id,h1,h2⟩)
   ·exact .inl h
   ·exact .inr ⟨id,h2,h3⟩
   ·by_cases aq:id∈rd
    ·exact .inr ⟨id,by show(o' id).live=true;rw[<- xg id aq];exact h1,h2⟩
    ·have:HR.o id= .no:=uN id aq
     rw[this]at h1;cases h1
  ·rintro(h|⟨id,h1,h2⟩)
   ·exact .inl (.inl h)
   ·by_cases aq:id∈rd
    ·exact .inr ⟨id,by show(zg rd o id).live=true;rw[xg id aq];exact h1,h2⟩
    ·exact .inl (.inr ⟨id,aq,h1,h2⟩)
 have fY:∀id∈rd,HR.o id=o' id/\φ id=φ id/\HR.us id:=fun id aq=>⟨xg id aq,rfl,w8 id aq⟩
 have hHR:ay M1 φ HR w:=by
  refine⟨fun id=> ?_,fun id hn=> ?_,fun i j b hi hj bi bj=> ?_,fun b hb=> ?_,fun b hb=> ?_⟩
  ·by_cases aq:id∈rd
   ·refine aO.refs (H:=⟨o',us⟩) (M:=M) (φ:=φ) (fun b hn hb=>hn ((hB b).1 hb)) (xg id aq) rfl (fun j hj=>fY j ?_) (hH.ok id)
    have:o' id=o id:=(ho id aq).1
    exact mY id aq j (by rw[<- this];exact hj)
   ·unfold aO
    rw[show HR.o id= .no from uN id aq];trivial
  ·exact uN id fun aq=>hn (w8 id aq)
  ·have live:∀i,(HR.o i).live=true->i∈rd/\(o' i).live=true:=fun i hi=>by
    by_cases aq:i∈rd
    ·exact⟨aq,by rw[<- xg i aq];exact hi⟩
    ·rw[show HR.o i= .no from uN i aq]at hi;cases hi
   exact hH.apart i j b (live i hi).2 (live j hj).2 bi bj
  ·obtain⟨id,h1,h2⟩:=hb
   have aq:id∈rd:=by
    by_cases aq:id∈rd
    ·exact aq
    ·rw[show HR.o id= .no from uN id aq]at h1;cases h1
   rw[show HR.o id=o' id from xg id aq]at h1
   obtain⟨k1,k2⟩:=hH.ours b ⟨id,h1,h2⟩
   refine⟨?_,k2⟩
   rintro(hM|⟨j,j1,j2,j3⟩)
   ·exact k1 hM
   ·exact j1 (hH.apart j id b j2 h1 j3 h2 ▸ aq)
  ·rcases hb with hb|⟨id,h1,h2,h3⟩
   ·exact hH.Bh b hb
   ·exact(hH.ours b ⟨id,h2,h3⟩).2
 have hdR:V.aG (ao M1 φ HR) φ HR w args vals.toList:=V.hZ (H:=⟨o',us⟩) (fun b hn hb=>hn ((hB b).1 hb)) _ _ (fun id aq=>fY id (eC id aq)) hd
 refine(h.2 M1 φ w vals hHR hdR).mono ?_
 rintro e w' ⟨jJ,o1,G6,v,k1,k2,k3⟩
 have main:(∀id∈rd,o1 id=put o Δ id)->∃aH,ay M aH ⟨put o' Δ,us⟩ w'/\Trans φ ⟨o',us⟩ w aH ⟨put o' Δ,us⟩ w'/\∀b,ao M aH ⟨put o' Δ,us⟩ b->M1 b\/∃id∈rd,(o1 id).live=true/\dG (jJ id)=some b:=by
  intro vf
  have IZ:∀id∈rd,put o' Δ id=o1 id:=fun id aq=>(G5 (ho id aq).1).trans (vf id aq).symm
  have IY:∀id,id∉rd->put o' Δ id=o' id:=fun id aq=>BP fun x hx e=>aq (e ▸ hΔ x hx)
  let Lb:Place:=fun id=>if id∈rd then jJ id else φ id
  have BQ:∀id∈rd,Lb id=jJ id:=fun id aq=>if_pos aq
  have D5:∀id,id∉rd->Lb id=φ id:=fun id aq=>if_neg aq
  let H2:Hp:=⟨put o' Δ,us⟩
  have cU:∀b,cw Lb H2 b->(∃id∈rd,(o1 id).live=true/\dG (jJ id)=some b)\/∃id,id∉rd/\(o' id).live=true/\dG (φ id)=some b:=by
   rintro b ⟨id,h1,h2⟩
   by_cases aq:id∈rd
   ·exact .inl ⟨id,aq,by rw[<- IZ id aq];exact h1,by rw[<- BQ id aq];exact h2⟩
   ·exact .inr ⟨id,aq,by rw[<- IY id aq];exact h1,by rw[<- D5 id aq];exact h2⟩
  have hB2:∀b,ao M Lb H2 b->ao M1 jJ (hp o1 G6) b:=by
   rintro b (hb|hb)
   ·exact .inl (.inl hb)
   ·rcases cU b hb with⟨id,h1,h2,h3⟩|⟨id,h1,h2,h3⟩
    ·exact .inr ⟨id,h2,h3⟩
    ·exact .inl (.inr ⟨id,h1,h2,h3⟩)
  have zi:eE φ ⟨o',us⟩ Lb H2:=by
   refine⟨fun id h=>h,fun id hu hr=> ?_,fun id e' hu he=> ?_⟩
   ·by_cases aq:id∈rd
    ·rw[show H2.o id=o1 id from IZ id aq]at hr
     obtain⟨a,b⟩:=k2.rel.row id (w8 id aq) hr
     rw[show HR.o id=o' id from xg id aq]at a
     exact⟨a,(BQ id aq).trans b⟩
    ·rw[show H2.o id=o' id from IY id aq]at hr
     exact⟨hr,D5 id aq⟩
   ·by_cases aq:id∈rd
    ·rw[show H2.o id=o1 id from IZ id aq]at he
     obtain⟨e0,a,b,c⟩:=k2.rel.ep id e' (w8 id aq) he
     rw[show HR.o id=o' id from xg id aq]at a
     exact⟨e0,a,b,fun heq=>(BQ id aq).trans (c heq)⟩
    ·rw[show H2.o id=o' id from IY id aq]at he
     exact⟨e',he,Nat.le_refl _,fun _=>D5 id aq⟩
  have zL:∀b,cP w b-> ¬ao M φ ⟨o',us⟩ b->w'.heap[b]? =w.heap[b]? /\ ¬ao M Lb H2 b:=by
   intro b hc hn
   obtain⟨a,c⟩:=k2.blocks (M:=M1) b hc (fun hb=>hn ((hB b).1 hb))
   exact⟨a,fun hb=>c (hB2 b hb)⟩
  have tJ:∀b,b<w.heap.size-> ¬cw φ HR b->w'.heap[b]? =w.heap[b]? :=fun b hb hl=>k2.keep.block b hb hl
  have ht:Trans φ ⟨o',us⟩ w Lb H2 w':=by
   refine⟨⟨k2.keep.os,k2.keep.tape,k2.keep.output,k2.keep.size,fun b hb hl=>tJ b hb fun⟨id,h1,h2⟩=>hl ?_⟩,fun b hb=> ?_,zi⟩
   ·by_cases aq:id∈rd
    ·exact⟨id,by show(o' id).live=true;rw[<- xg id aq];exact h1,h2⟩
    ·rw[show HR.o id= .no from uN id aq]at h1;cases h1
   ·rcases cU b hb with⟨id,h1,h2,h3⟩|⟨id,h1,h2,h3⟩
    ·rcases k2.grow b ⟨id,h2,h3⟩with⟨j,j1,j2⟩|vM
     ·by_cases aq:j∈rd
      ·exact .inl ⟨j,by show(o' j).live=true;rw[<- xg j aq];exact j1,j2⟩
      ·rw[show HR.o j= .no from uN j aq]at j1;cases j1
     ·exact .inr vM
    ·exact .inl ⟨id,h2,h3⟩
  refine⟨Lb,⟨fun id=> ?_,fun id hn=> ?_,fun i j b hi hj bi bj=> ?_,fun b hb=> ?_,fun b hb=>Nat.lt_of_lt_of_le (hH.Bh b hb) k2.keep.size⟩,ht,fun b hb=> ?_⟩
  ·by_cases aq:id∈rd
   ·refine aO.refs (H:=hp o1 G6) (M:=M1) (φ:=jJ) (fun b hn hb=>hn (hB2 b hb)) (IZ id aq) (BQ id aq) (fun j hj=> ?_) (k1.ok id)
    have MJ:j∈rd:=by
     have e1:o1 id=put o Δ id:=vf id aq
     have hj:j∈(put o Δ id).refs:=by rw[<- e1];exact hj
     have key:∀ (I9:List (Nat×aa)) (q:Nat->aa),(∀x∈I9,∀j∈x.2.refs,j∈rd)->(∀j∈(q id).refs,j∈rd)->∀j∈(put q I9 id).refs,j∈rd:=by
      intro I9
      induction I9 with
      |nil=>intro q _ h2;exact h2
      |cons x I9 ih=>
       intro q h1 h2
       simp only[put,List.foldl_cons]
       refine ih (au q x.1 x.2) (fun y hy=>h1 y mj) ?_
       simp only[aR]
       split
       ·exact h1 x aJ
       ·exact h2
     exact key Δ o Yx (mY id aq) j hj
    exact⟨IZ j MJ,BQ j MJ,(ho j MJ).2⟩
   ·exact aO.Du zL zi (IY id aq) (D5 id aq) (fun hl b hb=>tJ b (hH.ours b ⟨id,hl,hb⟩).2 fun⟨j,j1,j2⟩=>by
     by_cases hj:j∈rd
     ·rw[show HR.o j=o' j from xg j hj]at j1
      exact aq (hH.apart id j b hl j1 hb j2 ▸ hj)
     ·rw[show HR.o j= .no from uN j hj]at j1;cases j1) (hH.ok id)
  ·have aq:id∉rd:=fun aq=>hn (ho id aq).2
   exact(IY id aq).trans (hH.fresh id hn)
  ·by_cases e1:i∈rd<;>by_cases e2:j∈rd
   ·refine k1.apart i j b ?_ ?_ (by rw[<- BQ i e1];exact bi) (by rw[<- BQ j e2];exact bj)
    ·show(o1 i).live=true;rw[<- IZ i e1];exact hi
    ·show(o1 j).live=true;rw[<- IZ j e2];exact hj
   ·exfalso
    refine(k1.ours b ⟨i,by show(o1 i).live=true;rw[<- IZ i e1];exact hi,by rw[<- BQ i e1];exact bi⟩).1 (.inr ⟨j,e2,by rw[<- IY j e2];exact hj,by rw[<- D5 j e2];exact bj⟩)
   ·exfalso
    refine(k1.ours b ⟨j,by show(o1 j).live=true;rw[<- IZ j e2];exact hj,by rw[<- BQ j e2];exact bj⟩).1 (.inr ⟨i,e1,by rw[<- IY i e1];exact hi,by rw[<- D5 i e1];exact bi⟩)
   ·exact hH.apart i j b (by show(o' i).live=true;rw[<- IY i e1];exact hi) (by show(o' j).live=true;rw[<- IY j e2];exact hj) (by rw[<- D5 i e1];exact bi) (by rw[<- D5 j e2];exact bj)
  ·rcases cU b hb with⟨id,h1,h2,h3⟩|⟨id,h1,h2,h3⟩
   ·obtain⟨a,c⟩:=k1.ours b ⟨id,h2,h3⟩
    exact⟨fun hM=>a (.inl hM),c⟩
   ·obtain⟨a,c⟩:=hH.ours b ⟨id,h2,h3⟩
    exact⟨a,Nat.lt_of_lt_of_le c k2.keep.size⟩
  ·rcases hb with hb|hb
   ·exact .inl (.inl hb)
   ·rcases cU b hb with h|h
    ·exact .inr h
    ·exact .inl (.inr h)
 have res:∀ (vs:List V) (xs:List D) (us':List Value),(∀id∈rd,o1 id=put o Δ id)->cF o1 vs=some xs->(∀id∈V.bC vs,id∉rd)->V.aG (ao M1 jJ (hp o1 G6)) jJ (hp o1 G6) w' vs us'->
  ∃aH,ay M aH ⟨put o' Δ,us⟩ w'/\Trans φ ⟨o',us⟩ w aH ⟨put o' Δ,us⟩ w'/\D.aG (ao M aH ⟨put o' Δ,us⟩) w' xs us':=by
  intro vs xs us' vf h1 ahD h2
  obtain⟨f1,f2,f3,f4,f5⟩:=cW k1 (V.bC vs) (du vs _ h2)
  have h3:=dN f1 vs xs us' f3 h1 (V.aQ f2 _ _ h2)
  obtain⟨aH,m1,m2,m3⟩:=main vf
  refine⟨aH,m1,m2,D.aQ (w:=w') (w':=w') (fun b _ hn=>⟨rfl,fun hb=>hn ?_⟩) xs us' h3⟩
  rcases m3 b hb with hb|⟨id,i1,i2,i3⟩
  ·exact .inl hb
  ·exact .inr ⟨id,by rw[f4 id fun hm=>ahD id hm i1];exact i2,i3⟩
 cases e with
 |outgrown=>exact k3.elim
 |panicked ch=>
  obtain⟨val,rfl,g1,vf,x,g2,rfl,g3⟩:=k3
  obtain⟨aH,m1,m2,m3⟩:=res [v] [x] [val] vf (by simp[cF,g2]) (by simpa[V.bC]using g3) ⟨val,[],rfl,g1,rfl⟩
  obtain⟨u,us2,he,h2,_⟩:=m3
  simp at he;obtain⟨rfl,rfl⟩:=he
  exact⟨aH,m1,m2,val,rfl,h2⟩
 |returned val=>
  obtain⟨g1,vf,vs,rs,rfl,g2,rfl,g3⟩:=k3
  match vs,g1,g2,g3 with
  |[],g1,g2,g3=>
   obtain⟨arr,rfl,hv⟩:=g1
   simp only[cF,Option.some.injEq]at g2;subst g2
   obtain⟨aH,m1,m2,m3⟩:=res [] [] arr.toList vf rfl (by simp[V.bC]) hv
   exact⟨aH,m1,m2,arr,rfl,m3⟩
  |[v],g1,g2,g3=>
   obtain⟨aH,m1,m2,m3⟩:=res [v] rs [val] vf g2 g3 ⟨val,[],rfl,g1,rfl⟩
   refine⟨aH,m1,m2, ?_⟩
   cases rs with
   |nil=>cases m3
   |cons x l=>
    obtain⟨u,us2,he,h2,h3⟩:=m3
    simp at he;obtain⟨rfl,rfl⟩:=he
    cases l with
    |nil=>exact h2
    |cons y l=>obtain⟨_,_,h,_⟩:=h3;cases h
  |v::v2::l,g1,g2,g3=>
   obtain⟨arr,rfl,hv⟩:=g1
   obtain⟨aH,m1,m2,m3⟩:=res (v::v2::l) rs arr.toList vf g2 g3 hv
   refine⟨aH,m1,m2, ?_⟩
   have hl:=D.aE _ _ m3
   have XR:=V.aE _ _ hv
   match rs,hl,m3 with
   |[],hl,_=>exact Ir
   |[x],hl,_=>exact Ir
   |x::y::l,_,m3=>exact⟨arr,rfl,m3⟩
end
end
section
inductive fP where
 |skip|val (v:V) (Δ:List (Nat×aa)) (rd:List Nat)|bU (v:V) (ws rd:List Nat)|dG
 deriving Inhabited
def fP.ok:fP->Bool
 | .skip| .val .. =>true
 |_=>false
def yO(dst:Option Tmp)(x:fP)(s:S):S:=
 match x with
 | .skip=>⟨bf s.env dst (.cc []),s.o,s.nx⟩
 | .val v Δ _=>⟨bf s.env dst v,put s.o Δ,s.nx⟩
 | .bU .. | .dG=>⟨bf s.env dst .ag,s.o,s.nx⟩
def l5:fP->List Nat
 | .val _ Δ _=>Δ.map (·.1)
 |_=>[]
def zj:fP->List Nat
 | .val _ _ rd=>rd
 | .bU _ _ rd=>rd
 |_=>[]
def PVt(P:Program)(g:FuncId)(ds:List D)(v:V):Prop:=
 Enters P g/\∀ (M:Nat->Prop) (w:World) (vals:Array Value),(∀b,M b->b<w.heap.size)->D.aG M w ds vals.toList->
  Calls P g vals w fun e w'=>ed (fun _=>False) w w'/\∃val,e= .returned val/\∀φ H,V.den M φ H w' v val
theorem PVt.jP {P:Program}{g:FuncId}{ds:List D}{v:V}(hr:v.refs=[])(h:cX P g (ds.map .d) (fun _=> .no) 0 (fun v' _ _=>v'=v) (fun _ _ _=>False)):PVt P g ds v:=by
 refine⟨h.1,fun M w vals hM hd=> ?_⟩
 let cY:Place:=fun _=> .nilFunc
 have tJ:∀b, ¬cw cY (hp (fun _=> .no) 0) b:=by rintro b ⟨id,hl,_⟩;simp[hp,aa.live]at hl
 refine(h.2 M cY w vals (mB cY hM) ((V.cA _ _).2 (D.aQ (w:=w) (w':=w) (B:=M) (fun b _ hB=>⟨rfl,fun h=>h.elim hB (tJ b)⟩) _ _ hd))).mono ?_
 rintro e w' ⟨aH,o',nx',v',k1,k2,k3⟩
 refine⟨⟨k2.keep.os,k2.keep.tape,k2.keep.output,k2.keep.size,fun k hk _=>k2.keep.block k hk (tJ k)⟩, ?_⟩
 cases e with
 |outgrown=>exact k3.elim
 |panicked ch=>obtain⟨_,_,_,h⟩:=k3;exact h.elim
 |returned val=>
  obtain⟨g1,rfl⟩:=k3
  exact⟨val,rfl,fun φ H=>V.oM (B:=ao M aH (hp o' nx')) (φ:=aH) (H:=hp o' nx') (fun b hb hm=>hb (.inl hm)) v' val (fun id aq=>by rw[hr]at aq;cases aq) g1⟩
def Af(P:Program)(s:S)(fr:Nat)(op:Op)(v:V)(Δ:List (Nat×aa))(rd:List Nat):Prop:=
 ((∃vJ,gA P s fr op=some (v,Δ,vJ))/\rd=pV s op)\/
 (∃c f g first cap,op= .call c/\c.callee= .value f/\s.ev f= .func (.func g) first cap/\
  ((∃ds rs,cF s.o (first++c.args.toList.map s.ev++cap)=some ds/\aW P g ds (.ret rs)/\v=kb rs/\rd=pV s op/\
    (Δ=bY s.o (V.bC (first++c.args.toList.map s.ev++cap))\/D.kN rs=true/\Δ=[]))\/
   (∃rs,zh P g (first++c.args.toList.map s.ev++cap) rd s.o (.ret rs) Δ/\v=kb rs/\∀id∈rd,id<s.nx)\/
   (∃ds,cF s.o (first++c.args.toList.map s.ev++cap)=some ds/\PVt P g ds v/\rd=pV s op/\Δ=bY s.o (V.bC (first++c.args.toList.map s.ev++cap)))\/
   (BO P g (first++c.args.toList.map s.ev++cap) rd s.o fr v Δ/\∀id∈rd,id<s.nx)))
def D6(P:Program)(s:S)(op:Op)(v:V)(ws rd:List Nat):Prop:=
 ∃c f g first cap,op= .call c/\c.callee= .value f/\s.ev f= .func (.func g) first cap/\
  ((∃ds x,cF s.o (first++c.args.toList.map s.ev++cap)=some ds/\aW P g ds (.bU x)/\x.flat=true/\v= .d x/\rd=pV s op/\ws=[])\/
   (∃x Δ,zh P g (first++c.args.toList.map s.ev++cap) rd s.o (.bU x) Δ/\v= .d x/\ws=Δ.map (·.1)/\∀id∈rd,id<s.nx))
def eD(s:S)(gd:Option (Nat×Bool))(b:Bool):Prop:=
 match gd with
 |none=>b=true
 |some (d,want)=>match s.env d with
  | .d (.bool c)=>b=(c==want)
  | .cc []=>b=false
  |_=>False
def VF(P:Program)(s:S)(fr:Nat)(o:b8)(x:fP):Prop:=
 match x with
 | .skip=>eD s o.gd false
 | .val v Δ rd=>eD s o.gd true/\Af P s fr o.op v Δ rd
 | .bU v ws rd=>eD s o.gd true/\D6 P s o.op v ws rd
 | .dG=>True
def fe(oc:Nat->b8)(ac:Nat->fP)(E:Nat->Bool)(s:S):Nat->S
 |0=>s
 |k+1=>if E k then yO (oc k).dst (ac k) (fe oc ac E s k)else fe oc ac E s k
structure Compat (oc:Nat->b8) (ac:Nat->fP) (R:Nat->List Nat) (i j:Nat):Prop where
 di:∀d,(oc i).dst=some d->d∉fM (oc j)
 dj:∀d,(oc j).dst=some d->d∉fM (oc i)
 wi:∀id∈l5 (ac i),id∉R j/\id∉l5 (ac j)
 wj:∀id∈l5 (ac j),id∉R i
section
variable {P:Program}{oc:Nat->b8}{ac:Nat->fP}{s:S}{n:Nat}{E:Nat->Bool}{R:Nat->List Nat}{pr:Nat->Nat->Prop}
theorem G7{env:Nat->V}{dst:Option Tmp}{v:V}{t:Nat}(h:∀d,dst=some d->d≠t):bf env dst v t=env t:=by
 cases dst with
 |none=>rfl
 |some d=>simp only[bf,aR];rw[if_neg (fun e=>h d rfl e.symm)]
theorem ig{o:Nat->aa}:∀ {Δ:List (Nat×aa)} {id:Nat},id∉Δ.map (·.1)->put o Δ id=o id
 |[],_,_=>rfl
 |x::Δ,id,h=>by
  simp only[List.map_cons,List.mem_cons,not_or]at h
  have:=ig (o:=au o x.1 x.2) (Δ:=Δ) h.2
  simp only[put,List.foldl_cons]at this|-
  rw[this];simp[h.1]
theorem BR{o o':Nat->aa}:∀ {Δ:List (Nat×aa)} {id:Nat},id∈Δ.map (·.1)\/o id=o' id->put o Δ id=put o' Δ id
 |[],_,h=>by rcases h with h|h;· simp at h
             ·exact h
 |x::Δ,id,h=>by
  simp only[put,List.foldl_cons]
  refine BR (Δ:=Δ) (o:=au o x.1 x.2) (o':=au o' x.1 x.2) ?_
  simp only[List.map_cons,List.mem_cons]at h
  simp only[aR]
  by_cases e:id=x.1
  ·right;simp[e]
  ·rcases h with(h|h)|h
   ·exact absurd h e
   ·exact .inl h
   ·right;simp[e,h]
theorem l6{dst:Option Tmp}{x:fP}{t:Nat}(h:∀d,dst=some d->d≠t):(yO dst x s).env t=s.env t:=by
 cases x<;>exact G7 h
theorem oN{dst:Option Tmp}{x:fP}{id:Nat}(h:id∉l5 x):(yO dst x s).o id=s.o id:=by
 cases x with
 |val v Δ rd=>exact ig h
 |_=>rfl
theorem BS{dst:Option Tmp}{x:fP}{s':S}{t:Nat}(h:s.env t=s'.env t):(yO dst x s).env t=(yO dst x s').env t:=by
 cases x<;>cases dst<;>simp only[yO,bf,aR]<;>first|exact h|(split<;>first|rfl|exact h)
theorem G8{dst:Option Tmp}{x:fP}{s':S}{id:Nat}(h:s.o id=s'.o id):(yO dst x s).o id=(yO dst x s').o id:=by
 cases x with
 |val v Δ rd=>exact BR (.inr h)
 |_=>exact h
theorem put_comm{o:Nat->aa}{Δ I9:List (Nat×aa)}(h:∀id∈Δ.map (·.1),id∉I9.map (·.1)):put (put o Δ) I9=put (put o I9) Δ:=by
 funext id
 by_cases h1:id∈Δ.map (·.1)
 ·rw[ig (h id h1)]
  exact BR (.inl h1)
 ·rw[ig (Δ:=Δ) h1]
  by_cases h2:id∈I9.map (·.1)
  ·exact BR (.inl h2)
  ·rw[ig h2,ig h2,ig h1]
theorem Ag{env:Nat->V}{d d':Option Tmp}{v v':V}(h:∀t,d=some t->d'≠some t):bf (bf env d v) d' v'=bf (bf env d' v') d v:=by
 cases d with
 |none=>rfl
 |some t=>
  cases d' with
  |none=>rfl
  |some t'=>
   have iz:t'≠t:=fun e=>h t rfl (by rw[e])
   funext i
   simp only[bf,aR]
   by_cases e1:i=t<;>by_cases e2:i=t'
   ·exact absurd (e2.symm.trans e1) iz
   all_goals simp[e1,e2]
   ·intro e;exact absurd e.symm iz
   ·intro e;exact absurd e iz
theorem Oi{d d':Option Tmp}{x x':fP}(hd:∀t,d=some t->d'≠some t)(hw:∀id∈l5 x,id∉l5 x'):yO d x (yO d' x' s)=yO d' x' (yO d x s):=by
 cases x<;>cases x'<;>simp only[yO]<;>first
  |rw[Ag hd,put_comm hw]
  |rw[Ag hd]
def BT(n:Nat)(pr:Nat->Nat->Prop)(E:Nat->Bool):Prop:=∀k,k<n->E k=true->∀j,pr k j->E j=true
theorem agree(_:∀k,k<n->∀j,pr k j->j<k)(hc:∀i j,i<j->j<n-> ¬pr j i->Compat oc ac R i j)(hE:BT n pr E){i:Nat}(hi:i<n)(me:E i=false)(Oj:∀j,pr i j->E j=true):
 (∀t∈fM (oc i),(fe oc ac E s n).env t=(fe oc ac (fun _=>true) s i).env t)/\(∀id∈R i,(fe oc ac E s n).o id=(fe oc ac (fun _=>true) s i).o id):=by
 have a:∀k,k<=i->(∀t∈fM (oc i),(fe oc ac E s k).env t=(fe oc ac (fun _=>true) s k).env t)/\(∀id∈R i,(fe oc ac E s k).o id=(fe oc ac (fun _=>true) s k).o id):=by
  intro k
  induction k with
  |zero=>intro _;exact⟨fun _ _=>rfl,fun _ _=>rfl⟩
  |succ k ih=>
   intro hk
   obtain⟨h1,h2⟩:=ih ae
   simp only[fe,if_true]
   by_cases jV:E k=true
   ·simp only[jV,if_true]
    exact⟨fun t ht=>BS (h1 t ht),fun id aq=>G8 (h2 id aq)⟩
   ·have Vu: ¬pr i k:=fun hm=>jV (Oj k hm)
    have c:=hc k i ae hi Vu
    simp only[jV]
    refine⟨fun t ht=> ?_,fun id aq=> ?_⟩
    ·rw[l6 fun d hd e=>c.di d hd (e ▸ ht)];exact h1 t ht
    ·rw[oN fun hm=>(c.wi id hm).1 aq];exact h2 id aq
 have b:∀k,i<=k->k<=n->(∀t∈fM (oc i),(fe oc ac E s k).env t=(fe oc ac (fun _=>true) s i).env t)/\(∀id∈R i,(fe oc ac E s k).o id=(fe oc ac (fun _=>true) s i).o id):=by
  intro k R6
  induction R6 with
  |refl=>intro _;exact a i (Nat.le_refl _)
  | @step k R6 ih=>
    intro hk
    have R6:i<=k:=R6
    obtain⟨h1,h2⟩:=ih ae
    simp only[fe]
    by_cases jV:E k=true
    ·have iz:i≠k:=fun e=>by rw[e,jV]at me;cases me
     have Vu: ¬pr k i:=fun hm=>by have:=hE k ae jV i hm;rw[me]at this;cases this
     have c:=hc i k ae ae Vu
     simp only[jV,if_true]
     refine⟨fun t ht=> ?_,fun id aq=> ?_⟩
     ·rw[l6 fun d hd e=>c.dj d hd (e ▸ ht)];exact h1 t ht
     ·rw[oN fun hm=>c.wj id hm aq];exact h2 id aq
    ·simp only[jV];exact⟨h1,h2⟩
 exact b n ae (Nat.le_refl _)
theorem insert(hc:∀i j,i<j->j<n-> ¬pr j i->Compat oc ac R i j)(hE:BT n pr E){i:Nat}(hi:i<n)(me:E i=false){E':Nat->Bool}(G9:∀k,E' k=(E k||k==i)):
 fe oc ac E' s n=yO (oc i).dst (ac i) (fe oc ac E s n):=by
 have a:∀k,k<=i->fe oc ac E' s k=fe oc ac E s k:=by
  intro k
  induction k with
  |zero=>intro _;rfl
  |succ k ih=>
   intro hk
   have:E' k=E k:=by rw[G9 k];have:(k==i)=false:=by simp;omega
                     simp[this]
   simp only[fe,this,ih (by omega)]
 have b:∀k,i+1<=k->k<=n->fe oc ac E' s k=yO (oc i).dst (ac i) (fe oc ac E s k):=by
  intro k R6
  induction R6 with
  |refl=>
   intro _
   have h1:E' i=true:=by rw[G9 i];simp
   simp only[fe,h1,me,if_true,a i (Nat.le_refl _)]
   rfl
  | @step k R6 ih=>
    intro hk
    have R6:i+1<=k:=R6
    have h1:E' k=E k:=by rw[G9 k];have:(k==i)=false:=by simp;omega
                         simp[this]
    simp only[fe,h1,ih (by omega)]
    by_cases jV:E k=true
    ·have Vu: ¬pr k i:=fun hm=>by have:=hE k ae jV i hm;rw[me]at this;cases this
     have c:=hc i k ae ae Vu
     simp only[jV,if_true]
     refine Oi (fun t ht he=> ?_) (fun id aq hm=>(c.wi id hm).2 aq)
     exact c.di t he (by simp[fM,ht])
    ·simp only[jV];rfl
 exact b n ae (Nat.le_refl _)
end
end
section
structure vr (M:Nat->Prop) (cY:Place) (H0:Hp) (w0:World) (n:Nat) (cx:Cx) (φ:Place) (s:S) (us:Nat->Prop) (a:Act) (w:World):Prop where
 heap:ay M φ ⟨s.o,us⟩ w
 tr:Trans cY H0 w0 φ ⟨s.o,us⟩ w
 size:a.tmps.size=n
 defers:w7 cx w0 φ ⟨s.o,us⟩ w a.defers
 env:∀i,V.den (ao M φ ⟨s.o,us⟩) φ ⟨s.o,us⟩ w (s.env i) (a.tmps.getD i undef)
section
variable {P:Program}{M:Nat->Prop}{φ cY:Place}{H0:Hp}{w w' w0:World}{n:Nat}{s:S}{us:Nat->Prop}{a:Act}{cx:Cx}{ro:Option Nat}{k:Nat}
variable {next:Act->World->Prop}{Q:Exit->Act->World->Prop}
theorem kA(hs:vr M cY H0 w0 n cx φ s us a w){aH:Place}{H':Hp}(hH:ay M aH H' w')(ht:Trans φ ⟨s.o,us⟩ w aH H' w'){v:V}{val:Value}(hd:V.den (ao M aH H') aH H' w' v val){dst:Option Tmp}(dh:iF n dst)
 {o':Nat->aa} {us':Nat->Prop} (ho:H'.o=o') (hu:∀id,H'.us id->us' id):vr M cY H0 w0 n cx aH ⟨bf s.env dst v,o',s.nx⟩ us' (a.put dst val) w':=by
 obtain⟨k1,k2⟩:=j9 hH hu
 subst ho
 refine⟨k1,hs.tr.trans (ht.trans k2), ?_, ?_,fun i=> ?_⟩
 ·cases dst<;>simp[Act.put,hs.size]
 ·have:=hs.defers.mono (ht.trans k2);cases dst<;>exact this
 ·cases dst with
  |none=>exact RC
  |some d=>
   simp only[iF]at dh
   simp only[bf,aR,Act.put]
   by_cases hi:i=d
   ·subst hi
    have h1:(a.tmps.setIfInBounds i val).getD i undef=val:=by simp[Array.getD,hs.size,dh]
    rw[if_pos rfl,h1]
    exact V.aS k2 _ _ hd
   ·have h1:(a.tmps.setIfInBounds d val).getD i undef=a.tmps.getD i undef:=by
     exact X4
    rw[if_neg hi,h1]
    exact RC
theorem Ah(hs:vr M cY H0 w0 n cx φ s us a w){o:Oper}{op:Op}(iS:o.op=op){c:Call}{f:Operand}{g:FuncId}{first cap:List V}(hc:op= .call c)(fI:c.callee= .value f)(yX:s.ev f= .func (.func g) first cap):
 ∃vals:Array Value,V.aG (ao M φ ⟨s.o,us⟩) φ ⟨s.o,us⟩ w (first++c.args.toList.map s.ev++cap) vals.toList/\(Enters P g->(execOp a.eval o).run P w= .ok (.enter g vals) w):=by
 have hf:=ox (M:=M) (φ:=φ) (H:=⟨s.o,us⟩) (w:=w) s a hs.env f
 have eC:=lM (M:=M) (φ:=φ) (H:=⟨s.o,us⟩) (w:=w) s a hs.env c.args.toList
 rw[yX]at hf
 obtain⟨fa,ca,Ys,ID,hca⟩:=hf
 refine⟨fa++c.args.map a.eval++ca, ?_,fun he=> ?_⟩
 ·exact UU
 ·have:=mA (w:=w) he (fa++c.args.map a.eval++ca)
  generalize kD:fa++c.args.map a.eval++ca=vals at this
  simp[execOp,iS,hc,resolve,fI,Ys,Deferred.ofValue,invoke,this,kD]
theorem M4(hs:vr M cY H0 w0 n cx φ s us a w){fr:Nat}(c8: ¬us fr)(w8:∀id,id<s.nx->us id){o:Oper}{op:Op}(iS:o.op=op)(dh:iF n o.dst){v:V}{Δ:List (Nat×aa)}{rd:List Nat}(h:Af P s fr op v Δ rd)
 (hN:∀aH a' w',vr M cY H0 w0 n cx aH (yO o.dst (.val v Δ rd) s) (fun id=>us id\/id=fr) a' w'->next a' w'):o.wpIn (eB ro) k P a w next Q:=by
 rcases h with⟨⟨vJ,h⟩,_⟩|⟨c,f,g,first,cap,hc,fI,yX,h⟩
 ·have h1:=D1 (K:=fun v' I9 _=>v'=v/\I9=Δ) h ⟨rfl,rfl⟩
  obtain⟨nx,val,w',aH,v',I9,vJ,⟨rfl,rfl⟩,hr,ahE,g1,g2,g3,g4⟩:=zY hs.heap (s:=s) rfl hs.env c8 iS h1
  have Bz:=kA hs g1 g2 g3 dh (o':=put s.o I9) (us':=fun id=>us id\/id=fr) rfl (fun id hu=>hu.elim .inl (g4 id))
  refine lR (fun c hc=>by rw[iS]at hc;subst hc;exact h1) ?_
  rw[hr]
  rcases ahE with rfl|⟨rfl,rfl⟩
  ·exact hN _ _ _ Bz
  ·exact hN _ _ _ Bz
 ·refine lR (fun c' uw=>by rw[iS,hc]at uw;cases uw) ?_
  obtain⟨vals,bu,fO⟩:=Ah (P:=P) hs iS hc fI yX
  generalize first++c.args.toList.map s.ev++cap=all at h bu
  rcases h with⟨ds,rs,fL,hP,rfl,_,hΔ⟩|⟨rs,hH,rfl,nP⟩|⟨ds,fL,hP,_,rfl⟩|⟨hH,nP⟩
  ·obtain⟨f1,f2,f3,f4,f5⟩:=cW hs.heap (V.bC all) (du all _ bu)
   have gS:(⟨s.o,us⟩:Hp).put (bY s.o (V.bC all))=⟨put s.o (bY s.o (V.bC all)),us⟩:=mz (H:=⟨s.o,us⟩) Nj
   have zN:=dN f1 all ds _ f3 fL (V.aQ f2 _ _ bu)
   have fC:=hP.2 _ w vals (fun b hb=>hb.elim (f1.Bh b) fun hl=>(f1.ours b hl).2) zN
   rw[fO hP.1]
   refine⟨fun hd=>by simp[eB]at hd,dB (fC.mono fun e w' ⟨hk,ho⟩=> ?_)⟩
   cases e with
   |panicked ch=>exact yV
   |outgrown=>exact yV
   |returned val=>
    rcases hΔ with rfl|⟨nX,rfl⟩
    ·obtain⟨k1,k2⟩:=eT f1 hk
     refine hN _ _ _ (kA hs k1 (f2.trans k2) (oi ho) dh (by rw[gS]) fun id hu=> ?_)
     rw[gS]at hu;exact .inl hu
    ·obtain⟨k1,k2⟩:=eT hs.heap hk
     have ho:=R.BA (out:= .ret rs) (B':=ao M φ ⟨s.o,us⟩) nX ho
     exact Up
  ·have fC:=hH.2 s.o us M φ w vals (fun id aq=>⟨rfl,w8 id (nP id aq)⟩) hs.heap bu
   rw[fO hH.1]
   refine⟨fun hd=>by simp[eB]at hd,dB (fC.mono fun e w' ⟨aH,k1,k2,ho⟩=> ?_)⟩
   cases e with
   |panicked ch=>exact yV
   |outgrown=>exact yV
   |returned val=>exact Up
  ·obtain⟨f1,f2,f3,f4,f5⟩:=cW hs.heap (V.bC all) (du all _ bu)
   have gS:(⟨s.o,us⟩:Hp).put (bY s.o (V.bC all))=⟨put s.o (bY s.o (V.bC all)),us⟩:=mz (H:=⟨s.o,us⟩) Nj
   have zN:=dN f1 all ds _ f3 fL (V.aQ f2 _ _ bu)
   have fC:=hP.2 _ w vals (fun b hb=>hb.elim (f1.Bh b) fun hl=>(f1.ours b hl).2) zN
   rw[fO hP.1]
   refine⟨fun hd=>by simp[eB]at hd,dB (fC.mono fun e w' ⟨hk,val,he,ho⟩=> ?_)⟩
   subst he
   obtain⟨k1,k2⟩:=eT f1 hk
   refine hN _ _ _ (kA hs k1 (f2.trans k2) (ho _ _) dh (by rw[gS]) fun id hu=> ?_)
   rw[gS]at hu;exact .inl hu
  ·have fC:=hH.2 s.o us M φ w vals (fun id aq=>⟨rfl,w8 id (nP id aq)⟩) c8 hs.heap bu
   rw[fO hH.1]
   refine⟨fun hd=>by simp[eB]at hd,dB (fC.mono fun e w' ⟨aH,k1,k2,val,he,ho⟩=> ?_)⟩
   subst he
   exact hN _ _ _ (kA hs k1 k2 ho dh rfl fun id hu=>hu)
theorem Lm{o o2:Nat->aa}{us us2:Nat->Prop}(hH:ay M φ ⟨o,us⟩ w)(ho:∀id,o2 id=o id\/o2 id= .no)(hu:∀id,us id->us2 id):ay M φ ⟨o2,us2⟩ w/\Trans φ ⟨o,us⟩ w φ ⟨o2,us2⟩ w:=by
 have hl:∀id,(o2 id).live=true->(o id).live=true:=fun id h=>by
  rcases ho id with e|e
  ·rw[<- e];exact h
  ·rw[e]at h;cases h
 have Q4:∀b,cw φ ⟨o2,us2⟩ b->cw φ ⟨o,us⟩ b:=fun b ⟨id,h1,h2⟩=>⟨id,hl id h1,h2⟩
 have ht:Trans φ ⟨o,us⟩ w φ ⟨o2,us2⟩ w:=by
  refine⟨ed.refl _ _,fun b hb=> .inl (Q4 b hb),⟨hu,fun id _ hr=> ?_,fun id e' _ he=> ?_⟩⟩
  ·rcases ho id with e|e
   ·exact⟨by show(o id).bF=true;rw[<- e];exact hr,rfl⟩
   ·rw[show(⟨o2,us2⟩:Hp).o id= .no from e]at hr;cases hr
  ·rcases ho id with e|e
   ·exact⟨e',by show(o id).bV=some e';rw[<- e];exact he,Nat.le_refl _,fun _=>rfl⟩
   ·rw[show(⟨o2,us2⟩:Hp).o id= .no from e]at he;cases he
 refine⟨⟨fun id=> ?_,fun id hn=> ?_,fun i j b hi hj=>hH.apart i j b (hl i hi) (hl j hj),fun b hb=>hH.ours b (Q4 b hb),hH.Bh⟩,ht⟩
 ·rcases ho id with e|e
  ·exact(hH.ok id).mono ht e rfl fun _ _ _=>rfl
  ·unfold aO;rw[show(⟨o2,us2⟩:Hp).o id= .no from e];trivial
 ·rcases ho id with e|e
  ·exact e.trans (hH.fresh id fun h=>hn (hu id h))
  ·exact e
def vu(ds:List Nat)(wl:List Nat)(N:Nat)(s:S):S:=
 ⟨fun t=>if ds.contains t=true then .ag else s.env t,fun id=>if wl.contains id=true then .no else s.o id,s.nx+N⟩
theorem Ol(hs:vr M cY H0 w0 n cx φ s us a w)(w8:∀id,id<s.nx->us id){N:Nat}(dg:∀id,us id->id<s.nx+N){o:Oper}{op:Op}(iS:o.op=op){v:V}{ws rd:List Nat}(h:D6 P s op v ws rd)
 {s0:S} {ds wl:List Nat} (fL:∀t,ds.contains t=false->s.env t=s0.env t) (hwl:∀id,wl.contains id=false->s.o id=s0.o id) (R7:∀id∈ws,wl.contains id=true) (kO:s0.nx=s.nx)
 (hQ:∀aH w' val,cG M cY H0 w0 n cx aH (vu ds wl N s0) a w'->V.den (ao M aH (vu ds wl N s0).H) aH (vu ds wl N s0).H w' v val->Q (.panic [{v:=val,recovered:=false}]) a w'):o.wpIn (eB ro) k P a w next Q:=by
 obtain⟨c,f,g,first,cap,hc,fI,yX,h⟩:=h
 refine lR (fun c' uw=>by rw[iS,hc]at uw;cases uw) ?_
 obtain⟨vals,bu,fO⟩:=Ah (P:=P) hs iS hc fI yX
 generalize first++c.args.toList.map s.ev++cap=all at h bu
 have fin:∀ (aH:Place) (w':World) (o':Nat->aa) (val:Value),(∀id,wl.contains id=false->o' id=s.o id)->ay M aH ⟨o',us⟩ w'->Trans φ ⟨s.o,us⟩ w aH ⟨o',us⟩ w'->V.den (ao M aH ⟨o',us⟩) aH ⟨o',us⟩ w' v val->Q (.panic [{v:=val,recovered:=false}]) a w':=by
  intro aH w' o' val wu k1 k2 k3
  obtain⟨m1,m2⟩:=Lm (o2:=(vu ds wl N s0).o) (us2:=fun id=>id<s0.nx+N) k1 (fun id=>by
   show(if wl.contains id=true then aa.no else s0.o id)=o' id\/_
   by_cases hw:wl.contains id=true
   ·right;simp only[vu];rw[if_pos hw]
   ·left;rw[if_neg hw,wu id (by simpa using hw),hwl id (by simpa using hw)]) (fun id h=>by rw[kO];exact dg id h)
  have ht:=hs.tr.trans (k2.trans m2)
  refine hQ aH w' val ⟨m1,ht,hs.size,hs.defers.mono (k2.trans m2),fun i=> ?_⟩ (V.aS m2 _ _ k3)
  show V.den _ _ _ _ (if ds.contains i=true then V.ag else s0.env i) _
  by_cases hd:ds.contains i=true
  ·rw[if_pos hd];trivial
  ·rw[if_neg hd, <- fL i (by simpa using hd)];exact V.aS (k2.trans m2) _ _ (hs.env i)
 rcases h with⟨dd,x,ahF,hP,nX,rfl,_,rfl⟩|⟨x,Δ,hH,rfl,rfl,nP⟩
 ·obtain⟨f1,f2,f3,f4,f5⟩:=cW hs.heap (V.bC all) (du all _ bu)
  have zN:=dN f1 all dd _ f3 ahF (V.aQ f2 _ _ bu)
  have fC:=hP.2 _ w vals (fun b hb=>hb.elim (f1.Bh b) fun hl=>(f1.ours b hl).2) zN
  rw[fO hP.1]
  refine⟨fun hd=>by simp[eB]at hd,dB (fC.mono fun e w' ⟨hk,ho⟩=> ?_)⟩
  cases e with
  |returned val=>exact ho.elim
  |outgrown=>exact ho.elim
  |panicked ch=>
   obtain⟨k1,k2⟩:=eT hs.heap hk
   have ho:=R.BA (out:= .bU x) (B':=ao M φ ⟨s.o,us⟩) nX ho
   obtain⟨val,rfl,hd⟩:=ho
   exact fin φ w' s.o val (fun _ _=>rfl) k1 k2 hd
 ·have fC:=hH.2 s.o us M φ w vals (fun id aq=>⟨rfl,w8 id (nP id aq)⟩) hs.heap bu
  rw[fO hH.1]
  refine⟨fun hd=>by simp[eB]at hd,dB (fC.mono fun e w' ⟨aH,k1,k2,ho⟩=> ?_)⟩
  cases e with
  |returned val=>exact ho.elim
  |outgrown=>exact ho.elim
  |panicked ch=>
   obtain⟨val,rfl,hd⟩:=ho
   exact fin aH w' _ val (fun id aq=>BP fun y hy e=>by
    have:=R7 y.1 (List.mem_map_of_mem hy)
    rw[e,aq]at this;cases this) k1 k2 hd
theorem gB(eA:∀i,V.den (ao M φ ⟨s.o,us⟩) φ ⟨s.o,us⟩ w (s.env i) (a.tmps.getD i undef)){ops:Array Oper}{o:Oper}{gd:Option (Nat×Bool)}{b:Bool}
 (hg:match o.guard with|none=>gd=none|some (j,want)=>∃d,uy ops j=some d/\gd=some (d,want)) (h:eD s gd b):Region.wanted o (yielded ops a.tmps)=b:=by
 unfold Region.wanted
 split at hg
 ·rename_i hn;simp only[hn];subst hg;exact h.symm
 ·rename_i j want hn
  simp only[hn]
  obtain⟨d,hd,rfl⟩:=hg
  unfold uy at hd
  unfold yielded
  simp only[hd,Option.bind_some]
  simp only[eD]at h
  have he:=eA d
  split at h
  ·rename_i c hv
   rw[hv]at he
   simp only[V.den,D.den]at he
   have:a.tmps[d]? =some (.bool c):=by
    rw[Array.getD_eq_getD_getElem?]at he
    cases hx:a.tmps[d]? with
    |none=>rw[hx]at he;simp[undef]at he
    |some x=>rw[hx]at he;simp at he;rw[he]
   simp only[this,h]
   cases c<;>cases want<;>rfl
  ·rename_i hv
   rw[hv]at he
   obtain⟨arr,dE,hn⟩:=he
   have:∀c,a.tmps[d]? ≠some (.bool c):=by
    exact Vj
   subst h
   cases hx:a.tmps[d]? with
   |none=>rfl
   |some x=>cases x<;>first|(exact absurd hx (this _))|rfl
  ·exact h.elim
theorem gC{s s':S}{gd:Option (Nat×Bool)}{b:Bool}(h:∀d want,gd=some (d,want)->s'.env d=s.env d)(hg:eD s gd b):eD s' gd b:=by
 unfold eD at*
 cases gd with
 |none=>exact hg
 |some p=>obtain⟨d,want⟩:=p;simp only at hg|-;rw[h d want rfl];exact hg
theorem D7{s s':S}{x:Operand}(h:∀t,x= .tmp t->s'.env t=s.env t):s'.ev x=s.ev x:=by
 cases x<;>simp only[S.ev]
 exact h _ rfl
theorem xh{s s':S}{op:Op}{c:Call}{f:Operand}{g:FuncId}{first cap:List V}(hv:∀x∈op.operands,s'.ev x=s.ev x)(hc:op= .call c)(fI:c.callee= .value f)(yX:s.ev f= .func (.func g) first cap):
 s'.ev f= .func (.func g) first cap/\c.args.toList.map s'.ev=c.args.toList.map s.ev:=by
 subst hc
 exact⟨(hv f (by simp only[Op.operands,Call.operands,fI];exact Array.mem_append.2 (.inl aJ))).trans yX,
  List.map_congr_left fun x hx=>hv x acP⟩
theorem zh.frame {g:FuncId}{args:List V}{rd:List Nat}{o o':Nat->aa}{out:R}{Δ:List (Nat×aa)}(ho:∀id∈rd,o' id=o id)(h:zh P g args rd o out Δ):zh P g args rd o' out Δ:=
 ⟨h.1,fun o2 us M φ w vals h1 h2 h3=>h.2 o2 us M φ w vals (fun id aq=>⟨(h1 id aq).1.trans (ho id aq),(h1 id aq).2⟩) h2 h3⟩
theorem BO.frame {g:FuncId}{args:List V}{rd:List Nat}{o o':Nat->aa}{fr:Nat}{v:V}{Δ:List (Nat×aa)}(ho:∀id∈rd,o' id=o id)(h:BO P g args rd o fr v Δ):BO P g args rd o' fr v Δ:=
 ⟨h.1,fun o2 us M φ w vals h1 h2 h3=>h.2 o2 us M φ w vals (fun id aq=>⟨(h1 id aq).1.trans (ho id aq),(h1 id aq).2⟩) h2 h3⟩
theorem Dm{s s':S}{fr:Nat}{op:Op}{v:V}{Δ:List (Nat×aa)}{rd:List Nat}(hv:∀x∈op.operands,s'.ev x=s.ev x)(ho:∀id∈rd,s'.o id=s.o id)(w8:s'.nx=s.nx)(h:Af P s fr op v Δ rd):∃vJ,Af P s' fr op v Δ vJ:=by
 rcases h with⟨⟨vJ,h⟩,nP⟩|⟨c,f,g,first,cap,rfl,fI,yX,h⟩
 ·exact⟨_, .inl ⟨⟨vJ,by rw[G4 op hv (by rw[<- nP];exact ho)];exact h⟩,rfl⟩⟩
 ·obtain⟨hf,hm⟩:=xh hv rfl fI yX
  rcases h with⟨ds,rs,fL,hP,tc,nP,hΔ⟩|⟨rs,hH,tc,nP⟩|⟨ds,fL,hP,nP,hΔ⟩|⟨hH,nP⟩
  ·have hr:∀id∈V.aM (first++c.args.toList.map s.ev++cap),s'.o id=s.o id:=fun id aq=>ho id Nd
   refine⟨_, .inr ⟨c,f,g,first,cap,rfl,fI,hf, .inl ⟨ds,rs,by rw[hm,jf _ hr];exact fL,hP,tc,rfl, ?_⟩⟩⟩
   exact Va
  ·exact⟨rd, .inr ⟨c,f,g,first,cap,rfl,fI,hf, .inr (.inl ⟨rs,by rw[hm];exact hH.frame ho,tc,by rw[w8];exact nP⟩)⟩⟩
  ·have hr:∀id∈V.aM (first++c.args.toList.map s.ev++cap),s'.o id=s.o id:=fun id aq=>ho id Nd
   refine⟨_, .inr ⟨c,f,g,first,cap,rfl,fI,hf, .inr (.inr (.inl ⟨ds,by rw[hm,jf _ hr];exact fL,hP,rfl, ?_⟩))⟩⟩
   exact Va
  ·exact⟨rd, .inr ⟨c,f,g,first,cap,rfl,fI,hf, .inr (.inr (.inr ⟨by rw[hm];exact hH.frame ho,by rw[w8];exact nP⟩))⟩⟩
theorem D8{s s':S}{op:Op}{v:V}{ws rd:List Nat}(hv:∀x∈op.operands,s'.ev x=s.ev x)(ho:∀id∈rd,s'.o id=s.o id)(w8:s'.nx=s.nx)(h:D6 P s op v ws rd):D6 P s' op v ws rd:=by
 obtain⟨c,f,g,first,cap,rfl,fI,yX,h⟩:=h
 obtain⟨hf,hm⟩:=xh hv rfl fI yX
 refine⟨c,f,g,first,cap,rfl,fI,hf, ?_⟩
 rw[hm]
 rcases h with⟨ds,x,fL,hP,nX,tc,nP,R7⟩|⟨x,Δ,hH,tc,R7,nP⟩
 ·have hr:∀id∈V.aM (first++c.args.toList.map s.ev++cap),s'.o id=s.o id:=fun id aq=>ho id Nd
  exact .inl ⟨ds,x,by rw[jf _ hr];exact fL,hP,nX,tc,by rw[nP];simp only[pV,fI,yX,hf,hm],R7⟩
 ·exact .inr ⟨x,Δ,hH.frame ho,tc,R7,by rw[w8];exact nP⟩
theorem xi{ops:Array Oper}:∀ (l:List Oper) (l':List b8) (i:Nat) (o:Oper),ml n ops l=some l'->l[i]? =some o->NJ n ops o=some (cq l' i)
 |[],_,_,_,_,h=>by simp at h
 |x::l,l',i,o,h,hi=>by
  simp only[ml]at h
  split at h
  ·rename_i y ys hy hys
   injection h with h;subst h
   cases i with
   |zero=>simp at hi;subst hi;exact hy
   |succ i=>exact xi l ys i o hys (by simpa using hi)
  ·cases h
theorem Ai{ops:Array Oper}{o:Oper}{x:b8}(h:NJ n ops o=some x):x.op=o.op/\x.dst=o.dst/\iF n o.dst/\
 (match o.guard with|none=>x.gd=none|some (j,want)=>∃d,uy ops j=some d/\x.gd=some (d,want)):=by
 unfold NJ at h
 split at h
 ·rename_i hd
  have dh:iF n o.dst:=by
   unfold Gt at hd;unfold iF
   split at hd<;>simp_all
  cases hg:o.guard with
  |none=>simp only[hg]at h;injection h with h;subst h;exact⟨rfl,rfl,dh,rfl⟩
  |some p=>
   obtain⟨j,want⟩:=p
   simp only[hg]at h
   cases VE:uy ops j with
   |none=>simp[VE]at h
   |some d=>simp only[VE]at h;injection h with h;subst h;exact⟨rfl,rfl,dh,d,VE,rfl⟩
 ·cases h
theorem qM{ops:Array Oper}{ax:Array Bool}(vk:∀k,k<ops.size->∀j∈bL ops k,j<k)(hs:ax.size=ops.size)(hr:Region.ready .any ops ax=[]):∀k,k<ops.size->ax.getD k false=true:=by
 intro k
 induction k using Nat.strongRecOn with
 |_ k ih=>
  intro hk
  cases hl:ax.getD k false with
  |true=>rfl
  |false=>
   have:k∈Region.ready .any ops ax:=by
    refine mem_ready.2 ⟨?_,ops[k],by simp[hk],fun e he hb=> ?_⟩
    ·simp only[Array.getD_eq_getD_getElem?]at hl|-
     rw[Array.getElem?_eq_getElem (by omega)]at hl|-
     simpa using hl
    ·have hm:e.on∈bL ops k:=by
      simp only[bL,Array.getElem?_eq_getElem hk,List.mem_map,List.mem_filter]
      exact⟨e,⟨Array.mem_toList_iff.2 he,hb⟩,rfl⟩
     exact ih _ (vk k hk _ hm) (by have:=vk k hk _ hm;omega)
   rw[hr]at this;cases this
theorem D9(hs:cG M cY H0 w0 n cx φ s a w):cG M cY H0 w0 n cx φ s a {w with drawn:=w.drawn+1}:=by
 obtain⟨k1,k2⟩:=eT (w':={w with drawn:=w.drawn+1}) hs.heap ⟨rfl,rfl,rfl,Nat.le_refl _,fun _ _ _=>rfl⟩
 exact⟨k1,hs.tr.trans k2,hs.size,hs.defers.mono k2,fun i=>V.aS k2 _ _ (hs.env i)⟩
theorem lW{oc:Nat->b8}{ac:Nat->fP}{E:Nat->Bool}:∀k,(fe oc ac E s k).nx=s.nx
 |0=>rfl
 |k+1=>by
  simp only[fe]
  split
  ·cases ac k<;>exact lW k
  ·exact lW k
theorem Ja{oc:Nat->b8}{ac:Nat->fP}{E:Nat->Bool}{t:Nat}:∀k,(∀j,j<k->(oc j).dst≠some t)->(fe oc ac E s k).env t=s.env t
 |0,_=>rfl
 |k+1,h=>by
  have ih:=Ja (oc:=oc) (ac:=ac) (E:=E) (t:=t) k fun j hj=>h j ae
  simp only[fe]
  split
  ·rw[l6 fun d hd e=>h k (by omega) (by rw[hd,e])];exact ih
  ·exact ih
theorem VG{oc:Nat->b8}{ac:Nat->fP}{E:Nat->Bool}{id:Nat}:∀k,(∀j,j<k->id∉l5 (ac j))->(fe oc ac E s k).o id=s.o id
 |0,_=>rfl
 |k+1,h=>by
  have ih:=VG (oc:=oc) (ac:=ac) (E:=E) (id:=id) k fun j hj=>h j ae
  simp only[fe]
  split
  ·rw[oN (h k (by omega))];exact ih
  ·exact ih
theorem Ea(bB:P.follows .mixedOrders=true){ops:Array Oper}{l:List b8}{id:Nat}(pY:ml n ops ops.toList=some l)(vk:∀k,k<ops.size->∀j∈bL ops k,j<k){ac:Nat->fP}{dl wl:List Nat}
 (hs:cG M cY H0 w0 n cx φ s a w) (Yy:∀i,i<ops.size->VF P (fe (cq l) ac (fun _=>true) s i) (s.nx+i) (cq l i) (ac i))
 (BU:∀i,i<ops.size->ac i= .dG->∃j∈bL ops i,(ac j).ok=false)
 {po:Nat->Nat->Prop} (Jb:∀E:Nat->Bool,(∀k,k<ops.size->E k=true->∀j∈bL ops k,E j=true)->∀k,k<ops.size->(∀j∈bL ops k,E j=true)->∀j,po k j->E j=true) (Eb:∀k,k<ops.size->∀j,po k j->j<k)
 (hc:∀i j,i<j->j<ops.size-> ¬po j i->Compat (cq l) ac (fun i=>zj (ac i)) i j)
 (Yn:∀i,i<ops.size->∀t,(cq l i).dst=some t->dl.contains t=true) (hwl:∀i,i<ops.size->∀id∈l5 (ac i),wl.contains id=true)
 (R7:∀i v ws rd,i<ops.size->ac i= .bU v ws rd->∀id∈ws,wl.contains id=true)
 (hQ:(∀i,i<ops.size->(ac i).ok=true)->∀φ a w,cG M cY H0 w0 n cx φ ⟨(fe (cq l) ac (fun _=>true) s ops.size).env,(fe (cq l) ac (fun _=>true) s ops.size).o,s.nx+ops.size⟩ a w->Q .normal a w)
 (hX:∀i v ws rd,i<ops.size->ac i= .bU v ws rd->∀φ a w val,cG M cY H0 w0 n cx φ (vu dl wl ops.size s) a w->V.den (ao M φ (vu dl wl ops.size s).H) φ (vu dl wl ops.size s).H w v val->Q (.panic [{v:=val,recovered:=false}]) a w):
 (Code.region id ops true).wpIn (eB ro) k P Q a w:=by
 refine wpIn_region_any bB ?_
 have hs:=D9 hs
 generalize ({w with drawn:=w.drawn+1}:World)=w at hs
 let N:=ops.size
 let Ef (ax:Array Bool) (k:Nat):Bool:=ax.getD k false
 let Iz (ax:Array Bool) (j:Nat):Prop:=j<s.nx\/∃k,k<N/\Ef ax k=true/\j=s.nx+k
 have key:∀ (fuel:Nat) (ax:Array Bool) (φ:Place) (a:Act) (w:World),ax.size=N->ax.count true+fuel=N->(∀k,k<N->Ef ax k=true->∀j∈bL ops k,Ef ax j=true)->(∀k,k<N->Ef ax k=true->(ac k).ok=true)->
  vr M cY H0 w0 n cx φ (fe (cq l) ac (Ef ax) s N) (Iz ax) a w->wpAnyIn (eB ro) k P .any ops Q fuel ax a w:=by
  have fin:∀ (ax:Array Bool) (φ:Place) (a:Act) (w:World),(∀k,k<N->Ef ax k=true)->(∀k,k<N->Ef ax k=true->(ac k).ok=true)->vr M cY H0 w0 n cx φ (fe (cq l) ac (Ef ax) s N) (Iz ax) a w->Q .normal a w:=by
   intro ax φ a w bu Ha hu
   have e:∀k,k<=N->fe (cq l) ac (Ef ax) s k=fe (cq l) ac (fun _=>true) s k:=by
    intro k
    induction k with
    |zero=>intro _;rfl
    |succ k ih=>intro hk;simp only[fe,bu k (by omega),ih (by omega)]
   rw[e N (Nat.le_refl _)]at hu
   obtain⟨k1,k2⟩:=j9 (us':=fun id=>id<s.nx+N) hu.heap (fun id h=>by
    show id<s.nx+N
    rcases h with h|⟨k,hk,_,rfl⟩<;>omega)
   exact hQ (fun i hi=>Ha i hi (bu i hi)) φ a w ⟨k1,hu.tr.trans k2,hu.size,hu.defers.mono k2,fun i=>V.aS k2 _ _ (hu.env i)⟩
  intro fuel
  induction fuel with
  |zero=>
   intro ax φ a w dU Ln mY Ha hu
   have bu:∀k,k<N->Ef ax k=true:=by
    intro k hk
    have h1:ax.count true=ax.size:=ae
    rw[Array.count_eq_size]at h1
    have:=h1 ax[k] (Array.getElem_mem ae)
    simp only[Ef,Array.getD_eq_getD_getElem?]
    rw[Array.getElem?_eq_getElem (by omega)]
    simpa using this.symm
   refine⟨?_,fin ax φ a w bu Ha hu⟩
   rw[List.eq_nil_iff_forall_not_mem]
   intro k hk
   obtain⟨h1,o,h2,_⟩:=mem_ready.1 hk
   have hkN:k<N:=(Array.getElem?_eq_some_iff.1 h2).1
   have:=bu k hkN
   simp only[Ef,Array.getD_eq_getD_getElem?]at this h1
   rw[Array.getElem?_eq_getElem (by omega)]at this h1
   simp only[Option.getD_some]at this h1
   rw[this]at h1;cases h1
  |succ fuel ih=>
   intro ax φ a w dU Ln mY Ha hu
   refine⟨fun hr=>fin ax φ a w (qM vk dU hr) Ha hu,fun i hi=> ?_⟩
   obtain⟨h1,o,h2,h3⟩:=mem_ready.1 hi
   have vw:i<N:=(Array.getElem?_eq_some_iff.1 h2).1
   have me:Ef ax i=false:=by
    simp only[Ef,Array.getD_eq_getD_getElem?]at h1|-
    rw[Array.getElem?_eq_getElem (by omega)]at h1|-
    simpa using h1
   have Oj:∀j∈bL ops i,Ef ax j=true:=by
    exact X0
   have Om:BT N po (Ef ax):=fun k hk jV=>Jb _ mY k hk (mY k hk jV)
   obtain⟨ag1,ag2⟩:=agree (s:=s) Eb hc Om vw me (Jb _ mY i vw Oj)
   obtain⟨g1,g2,g3,g4⟩:=Ai (xi _ _ i o pY wv)
   have c8: ¬Iz ax (s.nx+i):=by
    rintro(h|⟨k,_,hk,he⟩)
    ·omega
    ·have:k=i:=ae
     subst this;rw[me]at hk;cases hk
   have G9:∀k,Ef (ax.setIfInBounds i true) k=(Ef ax k||k==i):=by
    intro k
    simp only[Ef,Array.getD_eq_getD_getElem?]
    by_cases e:k=i
    ·subst e;simp[dU,vw]
    ·rw[Array.getElem?_setIfInBounds_ne (Ne.symm e)]
     have:(k==i)=false:=by simpa using e
     simp[this]
   have Yz:=insert (s:=s) hc Om vw me G9
   have YA:∀k,k<N->Ef (ax.setIfInBounds i true) k=true->∀j∈bL ops k,Ef (ax.setIfInBounds i true) j=true:=by
    intro k hk jV j hj
    rw[G9]at jV|-
    by_cases e:k=i
    ·subst e;simp[Oj j hj]
    ·have:(k==i)=false:=by simpa using e
     rw[this,Bool.or_false]at jV
     simp[mY k hk jV j hj]
   have On:(ax.setIfInBounds i true).count true+fuel=N:=by
    have cS:i<ax.size:=ae
    have e1:ax.setIfInBounds i true=ax.set i true cS:=by simp[Array.setIfInBounds,cS]
    have e2:ax[i]=false:=by
     have:=me
     simp only[Ef,Array.getD_eq_getD_getElem?]at this
     rw[Array.getElem?_eq_getElem cS]at this
     simpa using this
    rw[e1,Array.count_set cS,e2]
    simp
    omega
   have mi:(ac i).ok=true->∀aH a' w',vr M cY H0 w0 n cx aH (yO o.dst (ac i) (fe (cq l) ac (Ef ax) s N)) (fun id=>Iz ax id\/id=s.nx+i) a' w'->wpAnyIn (eB ro) k P .any ops Q fuel (ax.setIfInBounds i true) a' w':=by
    intro adT aH a' w' Dc
    refine ih _ aH a' w' (by simp[dU]) On YA (fun k hk jV=> ?_) ?_
    ·rw[G9]at jV
     by_cases e:k=i
     ·subst e;exact adT
     ·have:(k==i)=false:=by simpa using e
      rw[this,Bool.or_false]at jV
      exact Ha k hk jV
    rw[Yz,g2]
    obtain⟨k1,k2⟩:=j9 (us':=Iz (ax.setIfInBounds i true)) Dc.heap (fun id h=>by
     rcases h with(h|⟨k,hk,jV,rfl⟩)|rfl
     ·exact .inl h
     ·exact .inr ⟨k,hk,by rw[G9,jV];rfl,rfl⟩
     ·exact .inr ⟨i,vw,by rw[G9];simp,rfl⟩)
    exact acS
   have Lo:∀d want,(cq l i).gd=some (d,want)->(fe (cq l) ac (Ef ax) s N).env d=(fe (cq l) ac (fun _=>true) s i).env d:=fun d want hd=>ag1 d (by simp[fM,tmpsOf,hd])
   have bp:=Yy i vw
   have NF:∀x∈(cq l i).op.operands,(fe (cq l) ac (Ef ax) s N).ev x=(fe (cq l) ac (fun _=>true) s i).ev x:=fun x hx=>D7 fun t ht=>ag1 t (by
    subst ht
    simp only[fM,tmpsOf,List.mem_append,List.mem_filterMap]
    exact .inl (.inl ⟨.tmp t,Array.mem_toList_iff.2 hx,rfl⟩))
   have Ye:(fe (cq l) ac (Ef ax) s N).nx=(fe (cq l) ac (fun _=>true) s i).nx:=(lW N).trans (lW i).symm
   unfold wpOpIn
   simp only[h2]
   cases yM:ac i with
   |skip=>
    rw[yM]at bp mi
    have hw:=gB hu.env g4 (gC Lo bp)
    simp only[hw,Bool.false_eq_true,if_false]
    refine⟨fun _ _=>trivial,mi rfl φ _ w ?_⟩
    have:=kA (v:= .cc []) (val:=undef) hu hu.heap (Trans.refl _ _ _) ⟨#[],rfl,rfl⟩ (dst:=o.dst) g3 rfl (us':=fun id=>Iz ax id\/id=s.nx+i) (fun id h=> .inl h)
    exact this
   |val v Δ rd=>
    rw[yM]at bp mi
    have hw:=gB hu.env g4 (gC Lo bp.1)
    exact adq
   |bU v ws rd=>
    rw[yM]at bp
    have hw:=gB hu.env g4 (gC Lo bp.1)
    simp only[hw,if_true]
    have fj:=D8 NF (fun id aq=>ag2 id (by rw[yM];exact aq)) Ye bp.2
    refine Ol (s0:=s) (ds:=dl) (wl:=wl) (N:=N) hu (fun id h=> .inl (by rw[lW]at h;exact h)) (fun id h=> ?_) g1.symm fj (fun t ht=> ?_) (fun id aq=> ?_) (R7 i v ws rd vw yM) (lW N).symm (fun aH w' val h1 h2=>hX i v ws rd vw yM aH a w' val h1 h2)
    ·rw[lW]
     rcases h with h|⟨k,hk,_,rfl⟩<;>omega
    ·refine Ja N fun j hj e=> ?_
     have:=Yn j hj t e
     rw[ht]at this;cases this
    ·refine VG N fun j hj hm=> ?_
     have:=hwl j hj id hm
     rw[aq]at this;cases this
   |dG=>
    exfalso
    obtain⟨j,hj,YB⟩:=BU i vw yM
    have:=Ha j (Nat.lt_trans (vk i vw j hj) vw) (Oj j hj)
    rw[YB]at this;cases this
 refine key ops.size _ φ a w (by simp[N]) (by simp[N,Array.count_replicate]) (fun k hk jV=> ?_) (fun k hk jV=> ?_) ?_
 ·exact RE
 ·exact RE
 ·have e:∀k,fe (cq l) ac (Ef (Array.replicate ops.size false)) s k=s:=by
   intro k
   induction k with
   |zero=>rfl
   |succ k ih=>
    have:Ef (Array.replicate ops.size false) k=false:=by
     exact U6
    simp only[fe,this,ih]
    rfl
  exact adx
end
end
section
section
variable {P:Program}{M:Nat->Prop}{φ cY:Place}{H0:Hp}{w w' w0:World}{n:Nat}{s:S}{us:Nat->Prop}{a:Act}{cx:Cx}{ro:Option Nat}{k:Nat}
variable {Q:Exit->Act->World->Prop}
theorem Lp{ops:Array Oper}{po:Nat->Nat->Prop}{m:Nat}{X:V->S->Prop}{K:S->Prop}
 (vk:∀k,k<ops.size->∀j∈bL ops k,j<k)
 (Jb:∀E:Nat->Bool,(∀k,k<ops.size->E k=true->∀j∈bL ops k,E j=true)->∀k,k<ops.size->(∀j∈bL ops k,E j=true)->∀j,po k j->E j=true)
 (Jc:∀k,m<=k->k<ops.size->∀j,j<k->po k j)
 (hK:∀s φ a w,K s->cG M cY H0 w0 n cx φ s a w->Q .normal a w)
 (hX:∀v s' aH a' w' val,X v s'->cG M cY H0 w0 n cx aH s' a' w'->V.den (ao M aH s'.H) aH s'.H w' v val->Q (.panic [{v:=val,recovered:=false}]) a' w'):
 ∀ (d t:Nat) (s:S) (φ:Place) (ax:Array Bool) (a:Act) (w:World),t+d=ops.size->ax.size=ops.size->(∀k,k<ops.size->ax.getD k false=decide (k<t))->m<=t->
   cG M cY H0 w0 n cx φ s a w->Bx P n ops X K (ops.toList.drop t) s->wpAnyIn (eB ro) k P .any ops Q d ax a w:=by
 intro d
 induction d with
 |zero=>
  intro t s φ ax a w ht dU hl MK hs h
  have e:t=ops.size:=ae
  subst e
  refine⟨?_, ?_⟩
  ·rw[List.eq_nil_iff_forall_not_mem]
   intro j hj
   obtain⟨h1,o,h2,_⟩:=mem_ready.1 hj
   have hjN:j<ops.size:=(Array.getElem?_eq_some_iff.1 h2).1
   have:=hl j hjN
   simp only[Array.getD_eq_getD_getElem?]at this h1
   rw[Array.getElem?_eq_getElem (by omega)]at this h1
   simp only[Option.getD_some]at this h1
   rw[h1]at this
   simp[hjN]at this
  ·rw[List.drop_eq_nil_of_le (by simp)]at h
   exact hK s φ a w h hs
 |succ d ih=>
  intro t s φ ax a w ht dU hl MK hs h
  have htN:t<ops.size:=ae
  refine⟨fun hr=> ?_,fun i hi=> ?_⟩
  ·have:=qM vk dU hr t htN
   rw[hl t htN]at this
   simp at this
  ·obtain⟨h1,o,h2,h3⟩:=mem_ready.1 hi
   have vw:i<ops.size:=(Array.getElem?_eq_some_iff.1 h2).1
   have me:ax.getD i false=false:=by
    simp only[Array.getD_eq_getD_getElem?]at h1|-
    rw[Array.getElem?_eq_getElem (by omega)]at h1|-
    simpa using h1
   have hit:t<=i:=by
    have:=hl i vw
    rw[me]at this
    have:=of_decide_eq_false this.symm
    omega
   have Oj:∀j∈bL ops i,ax.getD j false=true:=by
    exact X0
   have mY:∀k,k<ops.size->ax.getD k false=true->∀j∈bL ops k,ax.getD j false=true:=by
    intro k hk jV j hj
    have hjk:=vk k hk j hj
    rw[hl k hk]at jV
    rw[hl j (by omega)]
    have:=of_decide_eq_true jV
    exact decide_eq_true ae
   have RV:i=t:=by
    rcases Nat.eq_or_lt_of_le hit with e|e
    ·exact e.symm
    ·have:=Jb (fun k=>ax.getD k false) mY i vw Oj t (Jc i ae vw t e)
     rw[hl t htN]at this
     simp at this
   subst RV
   have Ec:ops.toList.drop i=o::ops.toList.drop (i+1):=by
    have Yo:i<ops.toList.length:=by simpa using vw
    rw[List.drop_eq_getElem_cons Yo]
    have:ops.toList[i]=o:=by
     have:=(Array.getElem?_eq_some_iff.1 h2).2
     simpa using this
    rw[this]
   rw[Ec]at h
   obtain⟨g1,g2⟩:=rL hs h
   have RZ:∀k,k<ops.size->(ax.setIfInBounds i true).getD k false=decide (k<i+1):=by
    intro k hk
    simp only[Array.getD_eq_getD_getElem?]
    by_cases e:k=i
    ·subst e;simp[dU,vw]
    ·rw[Array.getElem?_setIfInBounds_ne (Ne.symm e)]
     have:=hl k hk
     simp only[Array.getD_eq_getD_getElem?]at this
     rw[this]
     exact decide_eq_decide.2 ae
   have mi:∀s' aH a' w',Bx P n ops X K (ops.toList.drop (i+1)) s'->cG M cY H0 w0 n cx aH s' a' w'->wpAnyIn (eB ro) k P .any ops Q d (ax.setIfInBounds i true) a' w':=
    fun s' aH a' w' hk j7=>ih (i+1) s' aH _ a' w' ae (by simp[dU]) RZ ae j7 hk
   unfold wpOpIn
   simp only[h2]
   split
   ·rename_i hw
    exact z7 hs (g1 hw) (fun s' aH a' w' hk j7=>mi s' aH a' w' hk j7) (fun v s' aH w' val hx j7 hd=>hX v s' aH a w' val hx j7 hd)
   ·rename_i hw
    obtain⟨dh,h3⟩:=g2 (by simpa using hw)
    exact⟨fun _ _=>trivial,mi _ _ _ _ h3 (DU hs dh)⟩
theorem Hb(bB:P.follows .mixedOrders=true){ops:Array Oper}{l:List b8}{id:Nat}(pY:ml n ops ops.toList=some l)(vk:∀k,k<ops.size->∀j∈bL ops k,j<k){ac:Nat->fP}{m:Nat}(hm:m<=ops.size){X:V->S->Prop}{K:S->Prop}
 (hs:cG M cY H0 w0 n cx φ s a w) (Yy:∀i,i<m->VF P (fe (cq l) ac (fun _=>true) s i) (s.nx+i) (cq l i) (ac i))
 (adU:∀i,i<m->(ac i).ok=true)
 {po:Nat->Nat->Prop} (Jb:∀E:Nat->Bool,(∀k,k<ops.size->E k=true->∀j∈bL ops k,E j=true)->∀k,k<ops.size->(∀j∈bL ops k,E j=true)->∀j,po k j->E j=true) (Eb:∀k,k<ops.size->∀j,po k j->j<k)
 (hc:∀i j,i<j->j<m-> ¬po j i->Compat (cq l) ac (fun i=>zj (ac i)) i j)
 (Jc:∀k,m<=k->k<ops.size->∀j,j<k->po k j)
 (de:Bx P n ops X K (ops.toList.drop m) ⟨(fe (cq l) ac (fun _=>true) s m).env,(fe (cq l) ac (fun _=>true) s m).o,s.nx+m⟩)
 (hK:∀s φ a w,K s->cG M cY H0 w0 n cx φ s a w->Q .normal a w)
 (hX:∀v s' aH a' w' val,X v s'->cG M cY H0 w0 n cx aH s' a' w'->V.den (ao M aH s'.H) aH s'.H w' v val->Q (.panic [{v:=val,recovered:=false}]) a' w'):
 (Code.region id ops true).wpIn (eB ro) k P Q a w:=by
 refine wpIn_region_any bB ?_
 have hs:=D9 hs
 generalize ({w with drawn:=w.drawn+1}:World)=w at hs
 let N:=m
 let Ef (ax:Array Bool) (k:Nat):Bool:=ax.getD k false
 let Iz (ax:Array Bool) (j:Nat):Prop:=j<s.nx\/∃k,k<N/\Ef ax k=true/\j=s.nx+k
 have key:∀ (fuel:Nat) (ax:Array Bool) (φ:Place) (a:Act) (w:World),ax.size=ops.size->ax.count true+fuel=ops.size->(∀k,k<ops.size->Ef ax k=true->∀j∈bL ops k,Ef ax j=true)->(∀k,k<ops.size->Ef ax k=true->k<m)->
  vr M cY H0 w0 n cx φ (fe (cq l) ac (Ef ax) s N) (Iz ax) a w->wpAnyIn (eB ro) k P .any ops Q fuel ax a w:=by
  have fin:∀ (fuel:Nat) (ax:Array Bool) (φ:Place) (a:Act) (w:World),ax.size=ops.size->ax.count true+fuel=ops.size->(∀k,k<ops.size->Ef ax k=true->k<m)->(∀k,k<N->Ef ax k=true)->vr M cY H0 w0 n cx φ (fe (cq l) ac (Ef ax) s N) (Iz ax) a w->wpAnyIn (eB ro) k P .any ops Q fuel ax a w:=by
   intro fuel ax φ a w dU Ln cS bu hu
   have e:∀k,k<=N->fe (cq l) ac (Ef ax) s k=fe (cq l) ac (fun _=>true) s k:=by
    intro k
    induction k with
    |zero=>intro _;rfl
    |succ k ih=>intro hk;simp only[fe,bu k (by omega),ih (by omega)]
   rw[e N (Nat.le_refl _)]at hu
   obtain⟨k1,k2⟩:=j9 (us':=fun id=>id<s.nx+N) hu.heap (fun id h=>by
    show id<s.nx+N
    rcases h with h|⟨k,hk,_,rfl⟩<;>omega)
   have hlv:∀k,k<ops.size->ax.getD k false=decide (k<m):=by
    intro k hk
    by_cases h:k<m
    ·rw[decide_eq_true h];exact bu k h
    ·rw[decide_eq_false h]
     cases hb:ax.getD k false with
     |false=>rfl
     |true=>exact absurd (cS k hk hb) h
   have hcm:ax.count true=m:=by
    have e1:ax=Array.ofFn (n:=ops.size) fun k=>decide (k.1<m):=by
     apply Array.ext
     ·simp[dU]
     ·intro k h1 h2
      have:=hlv k ae
      simp only[Array.getD_eq_getD_getElem?]at this
      rw[Array.getElem?_eq_getElem h1]at this
      simpa using this
    have e2:ax.toList=List.replicate m true++List.replicate (ops.size - m) false:=by
     apply List.ext_getElem?
     intro k
     by_cases hk:k<ops.size
     ·have h1:ax.toList[k]? =some (decide (k<m)):=by
       have:=hlv k hk
       simp only[Array.getD_eq_getD_getElem?]at this
       rw[Array.getElem?_eq_getElem (by omega)]at this
       simp only[Option.getD_some]at this
       rw[Array.getElem?_toList,Array.getElem?_eq_getElem (by omega),this]
      rw[h1]
      by_cases h:k<m
      ·rw[List.getElem?_append_left (by simpa using h)]
       simp[h]
      ·rw[List.getElem?_append_right (by simpa using(by omega:m<=k))]
       rw[List.length_replicate,List.getElem?_replicate,if_pos (by omega),decide_eq_false h]
     ·rw[List.getElem?_eq_none (by simp[dU];omega),List.getElem?_eq_none (by simp;omega)]
    rw[<- Array.count_toList,e2,List.count_append,List.count_replicate_self,List.count_replicate]
    simp
   exact Lp vk Jb Jc hK hX fuel m ⟨(fe (cq l) ac (fun _=>true) s m).env,(fe (cq l) ac (fun _=>true) s m).o,s.nx+m⟩ φ ax a w ae dU hlv (Nat.le_refl _) ⟨k1,hu.tr.trans k2,hu.size,hu.defers.mono k2,fun i=>V.aS k2 _ _ (hu.env i)⟩ de
  intro fuel
  induction fuel with
  |zero=>
   intro ax φ a w dU Ln mY cS hu
   have bu:∀k,k<ops.size->Ef ax k=true:=by
    intro k hk
    have h1:ax.count true=ax.size:=ae
    rw[Array.count_eq_size]at h1
    have:=h1 ax[k] (Array.getElem_mem ae)
    simp only[Ef,Array.getD_eq_getD_getElem?]
    rw[Array.getElem?_eq_getElem (by omega)]
    simpa using this.symm
   exact fin 0 ax φ a w dU Ln cS (fun k hk=>bu k ae) hu
  |succ fuel ih=>
   intro ax φ a w dU Ln mY cS hu
   by_cases VH:∀k,k<m->Ef ax k=true
   ·exact fin (fuel+1) ax φ a w dU Ln cS VH hu
   have hex:∃j,j<m/\Ef ax j=false:=by
    apply Classical.byContradiction
    intro eM
    refine VH fun k hk=> ?_
    cases hb:Ef ax k with
    |true=>rfl
    |false=>exact absurd ⟨k,hk,hb⟩ eM
   obtain⟨j0,hj0,adV⟩:=hex
   refine⟨fun hr=> ?_,fun i hi=> ?_⟩
   ·have:=qM vk dU hr j0 ae
    rw[show ax.getD j0 false=false from adV]at this
    cases this
   obtain⟨h1,o,h2,h3⟩:=mem_ready.1 hi
   have hiS:i<ops.size:=(Array.getElem?_eq_some_iff.1 h2).1
   have me:Ef ax i=false:=by
    simp only[Ef,Array.getD_eq_getD_getElem?]at h1|-
    rw[Array.getElem?_eq_getElem (by omega)]at h1|-
    simpa using h1
   have Oj:∀j∈bL ops i,Ef ax j=true:=by
    exact X0
   have vw:i<N:=by
    apply Classical.byContradiction
    intro vM
    have vM:m<=i:=Nat.le_of_not_lt vM
    have:=Jb _ mY i hiS Oj j0 (Jc i vM hiS j0 ae)
    rw[adV]at this;cases this
   have Om:BT N po (Ef ax):=fun k hk jV=>Jb _ mY k ae (mY k ae jV)
   obtain⟨ag1,ag2⟩:=agree (s:=s) (n:=N) (fun k hk=>Eb k ae) hc Om vw me (Jb _ mY i ae Oj)
   obtain⟨g1,g2,g3,g4⟩:=Ai (xi _ _ i o pY wv)
   have c8: ¬Iz ax (s.nx+i):=by
    rintro(h|⟨k,_,hk,he⟩)
    ·omega
    ·have:k=i:=ae
     subst this;rw[me]at hk;cases hk
   have G9:∀k,Ef (ax.setIfInBounds i true) k=(Ef ax k||k==i):=by
    intro k
    simp only[Ef,Array.getD_eq_getD_getElem?]
    by_cases e:k=i
    ·subst e;simp[dU,hiS]
    ·rw[Array.getElem?_setIfInBounds_ne (Ne.symm e)]
     have:(k==i)=false:=by simpa using e
     simp[this]
   have Yz:=insert (s:=s) hc Om vw me G9
   have YA:∀k,k<ops.size->Ef (ax.setIfInBounds i true) k=true->∀j∈bL ops k,Ef (ax.setIfInBounds i true) j=true:=by
    intro k hk jV j hj
    rw[G9]at jV|-
    by_cases e:k=i
    ·subst e;simp[Oj j hj]
    ·have:(k==i)=false:=by simpa using e
     rw[this,Bool.or_false]at jV
     simp[mY k hk jV j hj]
   have On:(ax.setIfInBounds i true).count true+fuel=ops.size:=by
    have cS:i<ax.size:=ae
    have e1:ax.setIfInBounds i true=ax.set i true cS:=by simp[Array.setIfInBounds,cS]
    have e2:ax[i]=false:=by
     have:=me
     simp only[Ef,Array.getD_eq_getD_getElem?]at this
     rw[Array.getElem?_eq_getElem cS]at this
     simpa using this
    rw[e1,Array.count_set cS,e2]
    simp
    omega
   have mi:(ac i).ok=true->∀aH a' w',vr M cY H0 w0 n cx aH (yO o.dst (ac i) (fe (cq l) ac (Ef ax) s N)) (fun id=>Iz ax id\/id=s.nx+i) a' w'->wpAnyIn (eB ro) k P .any ops Q fuel (ax.setIfInBounds i true) a' w':=by
    intro adT aH a' w' Dc
    refine ih _ aH a' w' (by simp[dU]) On YA (fun k hk jV=> ?_) ?_
    ·rw[G9]at jV
     by_cases e:k=i
     ·subst e;exact vw
     ·have:(k==i)=false:=by simpa using e
      rw[this,Bool.or_false]at jV
      exact cS k hk jV
    rw[Yz,g2]
    obtain⟨k1,k2⟩:=j9 (us':=Iz (ax.setIfInBounds i true)) Dc.heap (fun id h=>by
     rcases h with(h|⟨k,hk,jV,rfl⟩)|rfl
     ·exact .inl h
     ·exact .inr ⟨k,hk,by rw[G9,jV];rfl,rfl⟩
     ·exact .inr ⟨i,vw,by rw[G9];simp,rfl⟩)
    exact acS
   have Lo:∀d want,(cq l i).gd=some (d,want)->(fe (cq l) ac (Ef ax) s N).env d=(fe (cq l) ac (fun _=>true) s i).env d:=fun d want hd=>ag1 d (by simp[fM,tmpsOf,hd])
   have bp:=Yy i vw
   have NF:∀x∈(cq l i).op.operands,(fe (cq l) ac (Ef ax) s N).ev x=(fe (cq l) ac (fun _=>true) s i).ev x:=fun x hx=>D7 fun t ht=>ag1 t (by
    subst ht
    simp only[fM,tmpsOf,List.mem_append,List.mem_filterMap]
    exact .inl (.inl ⟨.tmp t,Array.mem_toList_iff.2 hx,rfl⟩))
   have Ye:(fe (cq l) ac (Ef ax) s N).nx=(fe (cq l) ac (fun _=>true) s i).nx:=(lW N).trans (lW i).symm
   unfold wpOpIn
   simp only[h2]
   cases yM:ac i with
   |skip=>
    rw[yM]at bp mi
    have hw:=gB hu.env g4 (gC Lo bp)
    simp only[hw,Bool.false_eq_true,if_false]
    refine⟨fun _ _=>trivial,mi rfl φ _ w ?_⟩
    have:=kA (v:= .cc []) (val:=undef) hu hu.heap (Trans.refl _ _ _) ⟨#[],rfl,rfl⟩ (dst:=o.dst) g3 rfl (us':=fun id=>Iz ax id\/id=s.nx+i) (fun id h=> .inl h)
    exact this
   |val v Δ rd=>
    rw[yM]at bp mi
    have hw:=gB hu.env g4 (gC Lo bp.1)
    exact adq
   |bU v ws rd=>
    have:=adU i vw
    rw[yM]at this;cases this
   |dG=>
    have:=adU i vw
    rw[yM]at this;cases this
 refine key ops.size _ φ a w aJ (by simp[Array.count_replicate]) (fun k hk jV=> ?_) (fun k hk jV=> ?_) ?_
 ·exact RE
 ·exact RE
 ·have e:∀k,fe (cq l) ac (Ef (Array.replicate ops.size false)) s k=s:=by
   intro k
   induction k with
   |zero=>rfl
   |succ k ih=>
    have:Ef (Array.replicate ops.size false) k=false:=by
     exact U6
    simp only[fe,this,ih]
    rfl
  exact adx
end
end
end Go.Proofs.YtnkamdiiakdkgaaGreat
