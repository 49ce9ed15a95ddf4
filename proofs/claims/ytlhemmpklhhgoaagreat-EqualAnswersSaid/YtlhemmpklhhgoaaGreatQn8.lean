/-
  A PART OF THE PROOF. Conditions: none.
-/
import Derived.OrdersIn
import Derived.Test.YtlhemmpklhhgoaaGreatQn7
set_option linter.unusedSimpArgs false
set_option linter.unusedVariables false
namespace Go.Proofs.YtlhemmpklhhgoaaGreat
section
def ab.refs:ab->List Nat
 | .row cs=>V.aL cs
 | .loop _ _ env _ _ _ _ _=>V.aL env
 |_=>[]
def Ft(R:List Nat)(o:Nat->ab):Nat->ab:=fun id=>if R.contains id=true then o id else .no
def BQ(P:Program)(g:FuncId)(args:List V)(rd:List Nat)(o:Nat->ab)(out:R)(Δ:List (Nat×ab)):Prop:=
 Enters P g/\∀ (o':Nat->ab) (us:Nat->Prop) (M:Nat->Prop) (φ:Place) (w:World) (vals:Array Value),(∀id∈rd,o' id=o id/\us id)->az M φ ⟨o',us⟩ w->V.aF (aq M φ ⟨o',us⟩) φ ⟨o',us⟩ w args vals.toList->
  Calls P g vals w fun e w'=>∃aJ,az M aJ ⟨put o' Δ,us⟩ w'/\Trans φ ⟨o',us⟩ w aJ ⟨put o' Δ,us⟩ w'/\out.is (aq M aJ ⟨put o' Δ,us⟩) w' e
def zd(P:Program)(g:FuncId)(args:List V)(rd:List Nat)(o:Nat->ab)(fr:Nat)(v:V)(Δ:List (Nat×ab)):Prop:=
 Enters P g/\∀ (o':Nat->ab) (us:Nat->Prop) (M:Nat->Prop) (φ:Place) (w:World) (vals:Array Value),(∀id∈rd,o' id=o id/\us id)-> ¬us fr->az M φ ⟨o',us⟩ w->V.aF (aq M φ ⟨o',us⟩) φ ⟨o',us⟩ w args vals.toList->
  Calls P g vals w fun e w'=>∃aJ,az M aJ ⟨put o' Δ,fun id=>us id\/id=fr⟩ w'/\Trans φ ⟨o',us⟩ w aJ ⟨put o' Δ,fun id=>us id\/id=fr⟩ w'/\∃val,e= .returned val/\V.den (aq M aJ ⟨put o' Δ,fun id=>us id\/id=fr⟩) aJ ⟨put o' Δ,fun id=>us id\/id=fr⟩ w' v val
mutual
theorem V.nN {B B':Nat->Prop}{φ aJ:Place}{H H':Hp}{w:World}(hB:∀b, ¬B b-> ¬B' b):∀ (v:V) (val:Value),(∀id∈v.refs,H'.o id=H.o id/\aJ id=φ id/\H'.us id)->V.den B φ H w v val->V.den B' aJ H' w v val
 | .d x,val,_,h=>D.aT (w:=w) (w':=w) (fun b _ hn=>⟨rfl,hB b hn⟩) x val h
 | .aw,_,_,h=>h
 | .ad,_,_,_=>trivial
 | .fF,_,_,h=>h
 | .pF es,val,_,h=>⟨D.aT (w:=w) (w':=w) (fun b _ hn=>⟨rfl,hB b hn⟩) (.sl es) val h.1,h.2⟩
 | .agg cs,val,hr,h=>by
   obtain⟨a,rfl,h1,h2⟩:=h
   exact⟨a,rfl,V.gI hB cs _ ym h1,h2⟩
 | .bW cs,val,hr,h=>by
   obtain⟨a,rfl,h1⟩:=h
   exact⟨a,rfl,V.gI hB cs _ ym h1⟩
 | .ptr id off,val,hr,h=>by
   exact VM
 | .osl id ep,val,hr,h=>by
   obtain⟨a,b,c⟩:=hr id pk
   obtain⟨h0,h1,h2⟩:=h
   refine⟨h0,c,fun e he=> ?_⟩
   rw[a]at he
   obtain⟨x,y⟩:=h2 e he
   exact⟨x,fun heq=>(y heq).trans b.symm⟩
 | .pe id ep i sz off,val,hr,h=>by
   obtain⟨a,b,c⟩:=hr id pk
   obtain⟨h0,h1,h2⟩:=h
   refine⟨h0,c,fun e he=> ?_⟩
   rw[a]at he
   obtain⟨x,y⟩:=h2 e he
   exact SS
 | .pp cs off,val,_,h=>by
   obtain⟨a,ev,h1,h2,h3,h5,h4⟩:=h
   exact aaG
 | .func fn first cap,val,hr,h=>by
   obtain⟨f,c,rfl,h1,h2⟩:=h
   exact⟨f,c,rfl,V.gI hB first _ (fun id ax=>hr id (by simp[V.refs,ax])) h1,V.gI hB cap _ (fun id ax=>hr id (by simp[V.refs,ax])) h2⟩
 | .iface t x,val,hr,h=>by
   obtain⟨u,rfl,h⟩:=h
   exact⟨u,rfl,V.nN hB x u ym h⟩
 | .yA id off n,val,hr,h=>by
   exact VM
 | .mp id,val,hr,h=>by
   obtain⟨a,b,c⟩:=hr id pk
   obtain⟨h0,h1,h2⟩:=h
   refine⟨h0,c,fun da=> ?_⟩
   rw[a]at da
   exact(h2 da).trans b.symm
 | .kM id,val,hr,h=>by
   exact VM
theorem V.gI {B B':Nat->Prop}{φ aJ:Place}{H H':Hp}{w:World}(hB:∀b, ¬B b-> ¬B' b):∀ (vs:List V) (vals:List Value),(∀id∈V.aL vs,H'.o id=H.o id/\aJ id=φ id/\H'.us id)->V.aF B φ H w vs vals->V.aF B' aJ H' w vs vals
 |[],_,_,h=>h
 |v::vs,_,hr,h=>by
  obtain⟨u,us,rfl,h1,h2⟩:=h
  exact⟨u,us,rfl,V.nN hB v u (fun id ax=>hr id (by simp[V.aL,ax])) h1,V.gI hB vs us (fun id ax=>hr id (by simp[V.aL,ax])) h2⟩
end
theorem JM{env:List V}{i id:Nat}(h:id∈(aZ env i).refs):id∈V.aL env:=by
 unfold aZ at h
 induction env generalizing i with
 |nil=>simp[V.refs]at h
 |cons v env ih=>
  cases i with
  |zero=>simp only[List.getD_cons_zero]at h;simp[V.aL,h]
  |succ i=>simp only[List.getD_cons_succ]at h;simp[V.aL,ih h]
theorem aR.refs {M M':Nat->Prop}{φ aJ:Place}{H H':Hp}{w:World}{id:Nat}(hB:∀b, ¬aq M φ H b-> ¬aq M' aJ H' b)(ho:H'.o id=H.o id)(eY:aJ id=φ id)
 (hr:∀j∈(H.o id).refs,H'.o j=H.o j/\aJ j=φ j/\H'.us j) (h:aR M φ H w id):aR M' aJ H' w id:=by
 have hd:∀b,dg w b-> ¬aq M φ H b->w.heap[b]? =w.heap[b]? /\ ¬aq M' aJ H' b:=fun b _ hn=>⟨rfl,hB b hn⟩
 unfold aR at*
 rw[ho]
 cases hx:H.o id with
 |no=>trivial
 |row cs=>
  simp only[hx]at h|-
  obtain⟨b,dZ,ty,h1,h2,h3,h4⟩:=h
  exact⟨b,dZ,ty,eY.trans h1,h2,V.gI hB cs _ (fun j hj=>hr j (by rw[hx];exact hj)) h3,h4⟩
 |arr ep ty sz es=>
  simp only[hx]at h|-
  obtain⟨h0,xs,h1,evs,h2,h3,h4⟩:=h
  exact⟨h0,xs,by rw[eY];exact h1,evs,h2,h3,D.aW hd es evs h4⟩
 |uO ep es=>
  simp only[hx]at h|-
  rw[eY]
  exact D.aT hd (.sl es) _ h
 |map kt vt l=>
  simp only[hx]at h|-
  obtain⟨b,es,clock,h1,h2,h4,h3⟩:=h
  exact⟨b,es,clock,eY.trans h1,h2,h4,aK.mono hd l _ h3⟩
 |cj l=>
  simp only[hx]at h|-
  rw[eY]
  exact ly.mono hd h
 |sn l last=>
  simp only[hx]at h|-
  obtain⟨b,h1,h2⟩:=h
  exact⟨b,eY.trans h1,h2.mono hd rfl⟩
 |Am s pos=>
  simp only[hx]at h|-
  obtain⟨b,h1,h2⟩:=h
  exact⟨b,eY.trans h1,h2⟩
 |loop nf n env ps jV fG st Jh=>
  simp only[hx]at h|-
  obtain⟨b,r,h1,h2,h0,h3,h4,h5,h6,h7,h8,h9⟩:=h
  exact⟨b,r,eY.trans h1,h2,h0,h3,h4,h5,h6,h7,h8,fun i=>V.nN hB _ _ (fun j hj=>hr j (by rw[hx];exact JM hj)) (h9 i)⟩
section
variable {P:Program}
theorem Fu{o o':Nat->ab}{Δ:List (Nat×ab)}{id:Nat}(h:o id=o' id):put o Δ id=put o' Δ id:=Hn h
where Hn {o o':Nat->ab}:∀ {Δ:List (Nat×ab)} {id:Nat},o id=o' id->put o Δ id=put o' Δ id
 |[],_,h=>h
 |x::Δ,id,h=>by
  simp only[put,List.foldl_cons]
  refine Hn (Δ:=Δ) (o:=ay o x.1 x.2) (o':=ay o' x.1 x.2) ?_
  simp only[aN]
  split
  ·rfl
  ·exact h
theorem AW{o:Nat->ab}:∀ {Δ:List (Nat×ab)} {id:Nat},(∀x∈Δ,x.1≠id)->put o Δ id=o id
 |[],_,_=>rfl
 |x::Δ,id,h=>by
  have:=AW (o:=ay o x.1 x.2) (Δ:=Δ) (id:=id) (fun y hy=>h y lh)
  simp only[put,List.foldl_cons]at this|-
  rw[this];simp[Ne.symm (h x (by simp))]
theorem BQ.lA {g:FuncId}{args:List V}{rd:List Nat}{o:Nat->ab}{nx:Nat}{out:R}{Δ:List (Nat×ab)}(uz:∀id∈rd,id<nx)(dG:∀id∈V.aL args,id∈rd)(su:∀id∈rd,∀j∈(o id).refs,j∈rd)(Zi:∀x∈Δ,x.1∈rd)(af3:∀x∈Δ,∀j∈x.2.refs,j∈rd)
 (h:bQ P g args (Ft rd o) nx
  (fun v o1 _=>(∀id∈rd,o1 id=put o Δ id)/\∃vs rs,v=(match vs with|[v]=>v|vs=> .bW vs)/\cn o1 vs=some rs/\out= .ret rs/\∀id∈V.bg vs,id∉rd)
  (fun v o1 _=>(∀id∈rd,o1 id=put o Δ id)/\∃x,dM o1 v=some x/\out= .bN x/\∀id∈v.ids,id∉rd)):BQ P g args rd o out Δ:=by
 refine⟨h.1,fun o' us M φ w vals ho hH hd=> ?_⟩
 let M1:Nat->Prop:=fun b=>M b\/∃id,id∉rd/\(o' id).live=true/\eA (φ id)=some b
 let HR:Hp:=hp (Ft rd o) nx
 have vY:∀id,id∈rd->Ft rd o id=o' id:=fun id ax=>by simp[Ft,ax,(ho id ax).1]
 have tW:∀id,id∉rd->Ft rd o id= .no:=fun id ax=>by simp[Ft,ax]
 have hB:∀b,aq M1 φ HR b↔aq M φ ⟨o',us⟩ b:=by
  intro b
  constructor
  ·rintro((h|⟨id,h1,h2,h3⟩)|⟨id,h1,h2⟩)
   ·exact .inl h
   ·exact .inr ⟨id,h2,h3⟩
   ·by_cases ax:id∈rd
    ·exact .inr ⟨id,by show(o' id).live=true;rw[<- vY id ax];exact h1,h2⟩
    ·have:HR.o id= .no:=tW id ax
     rw[this]at h1;cases h1
  ·rintro(h|⟨id,h1,h2⟩)
   ·exact .inl (.inl h)
   ·by_cases ax:id∈rd
    ·exact .inr ⟨id,by show(Ft rd o id).live=true;rw[vY id ax];exact h1,h2⟩
    ·exact .inl (.inr ⟨id,ax,h1,h2⟩)
 have G7:∀id∈rd,HR.o id=o' id/\φ id=φ id/\HR.us id:=fun id ax=>⟨vY id ax,rfl,uz id ax⟩
 have hHR:az M1 φ HR w:=by
  refine⟨fun id=> ?_,fun id hn=> ?_,fun i j b hi hj bi bj=> ?_,fun b hb=> ?_,fun b hb=> ?_⟩
  ·by_cases ax:id∈rd
   ·refine aR.refs (H:=⟨o',us⟩) (M:=M) (φ:=φ) (fun b hn hb=>hn ((hB b).1 hb)) (vY id ax) rfl (fun j hj=>G7 j ?_) (hH.ok id)
    have:o' id=o id:=(ho id ax).1
    exact su id ax j (by rw[<- this];exact hj)
   ·unfold aR
    rw[show HR.o id= .no from tW id ax];trivial
  ·exact tW id fun ax=>hn (uz id ax)
  ·have live:∀i,(HR.o i).live=true->i∈rd/\(o' i).live=true:=fun i hi=>by
    by_cases ax:i∈rd
    ·exact⟨ax,by rw[<- vY i ax];exact hi⟩
    ·rw[show HR.o i= .no from tW i ax]at hi;cases hi
   exact hH.apart i j b (live i hi).2 (live j hj).2 bi bj
  ·obtain⟨id,h1,h2⟩:=hb
   have ax:id∈rd:=by
    by_cases ax:id∈rd
    ·exact ax
    ·rw[show HR.o id= .no from tW id ax]at h1;cases h1
   rw[show HR.o id=o' id from vY id ax]at h1
   obtain⟨k1,k2⟩:=hH.ours b ⟨id,h1,h2⟩
   refine⟨?_,k2⟩
   rintro(hM|⟨j,j1,j2,j3⟩)
   ·exact k1 hM
   ·exact j1 (hH.apart j id b j2 h1 j3 h2 ▸ ax)
  ·rcases hb with hb|⟨id,h1,h2,h3⟩
   ·exact hH.BM b hb
   ·exact(hH.ours b ⟨id,h2,h3⟩).2
 have hdR:V.aF (aq M1 φ HR) φ HR w args vals.toList:=V.gI (H:=⟨o',us⟩) (fun b hn hb=>hn ((hB b).1 hb)) _ _ (fun id ax=>G7 id (dG id ax)) hd
 refine(h.2 M1 φ w vals hHR hdR).mono ?_
 rintro e w' ⟨jn,o1,BR,v,k1,k2,k3⟩
 have main:(∀id∈rd,o1 id=put o Δ id)->∃aJ,az M aJ ⟨put o' Δ,us⟩ w'/\Trans φ ⟨o',us⟩ w aJ ⟨put o' Δ,us⟩ w'/\∀b,aq M aJ ⟨put o' Δ,us⟩ b->M1 b\/∃id∈rd,(o1 id).live=true/\eA (jn id)=some b:=by
  intro xE
  have Hd:∀id∈rd,put o' Δ id=o1 id:=fun id ax=>(Fu (ho id ax).1).trans (xE id ax).symm
  have KW:∀id,id∉rd->put o' Δ id=o' id:=fun id ax=>AW fun x hx e=>ax (e ▸ Zi x hx)
  let JF:Place:=fun id=>if id∈rd then jn id else φ id
  have AX:∀id∈rd,JF id=jn id:=fun id ax=>if_pos ax
  have CT:∀id,id∉rd->JF id=φ id:=fun id ax=>if_neg ax
  let H2:Hp:=⟨put o' Δ,us⟩
  have cY:∀b,cL JF H2 b->(∃id∈rd,(o1 id).live=true/\eA (jn id)=some b)\/∃id,id∉rd/\(o' id).live=true/\eA (φ id)=some b:=by
   rintro b ⟨id,h1,h2⟩
   by_cases ax:id∈rd
   ·exact .inl ⟨id,ax,by rw[<- Hd id ax];exact h1,by rw[<- AX id ax];exact h2⟩
   ·exact .inr ⟨id,ax,by rw[<- KW id ax];exact h1,by rw[<- CT id ax];exact h2⟩
  have hB2:∀b,aq M JF H2 b->aq M1 jn (hp o1 BR) b:=by
   rintro b (hb|hb)
   ·exact .inl (.inl hb)
   ·rcases cY b hb with⟨id,h1,h2,h3⟩|⟨id,h1,h2,h3⟩
    ·exact .inr ⟨id,h2,h3⟩
    ·exact .inl (.inr ⟨id,h1,h2,h3⟩)
  have ab3:ec φ ⟨o',us⟩ JF H2:=by
   refine⟨fun id h=>h,fun id hu hr=> ?_,fun id e' hu he=> ?_⟩
   ·by_cases ax:id∈rd
    ·rw[show H2.o id=o1 id from Hd id ax]at hr
     obtain⟨a,b⟩:=k2.rel.row id (uz id ax) hr
     rw[show HR.o id=o' id from vY id ax]at a
     exact⟨a,(AX id ax).trans b⟩
    ·rw[show H2.o id=o' id from KW id ax]at hr
     exact⟨hr,CT id ax⟩
   ·by_cases ax:id∈rd
    ·rw[show H2.o id=o1 id from Hd id ax]at he
     obtain⟨e0,a,b,c⟩:=k2.rel.ep id e' (uz id ax) he
     rw[show HR.o id=o' id from vY id ax]at a
     exact⟨e0,a,b,fun heq=>(AX id ax).trans (c heq)⟩
    ·rw[show H2.o id=o' id from KW id ax]at he
     exact⟨e',he,Nat.le_refl _,fun _=>CT id ax⟩
  have ss:∀b,dg w b-> ¬aq M φ ⟨o',us⟩ b->w'.heap[b]? =w.heap[b]? /\ ¬aq M JF H2 b:=by
   intro b hc hn
   obtain⟨a,c⟩:=k2.blocks (M:=M1) b hc (fun hb=>hn ((hB b).1 hb))
   exact⟨a,fun hb=>c (hB2 b hb)⟩
  have uD:∀b,b<w.heap.size-> ¬cL φ HR b->w'.heap[b]? =w.heap[b]? :=fun b hb hl=>k2.cN.block b hb hl
  have ht:Trans φ ⟨o',us⟩ w JF H2 w':=by
   refine⟨⟨k2.cN.os,k2.cN.tape,k2.cN.output,k2.cN.size,fun b hb hl=>uD b hb fun⟨id,h1,h2⟩=>hl ?_⟩,fun b hb=> ?_,ab3⟩
   ·by_cases ax:id∈rd
    ·exact⟨id,by show(o' id).live=true;rw[<- vY id ax];exact h1,h2⟩
    ·rw[show HR.o id= .no from tW id ax]at h1;cases h1
   ·rcases cY b hb with⟨id,h1,h2,h3⟩|⟨id,h1,h2,h3⟩
    ·rcases k2.grow b ⟨id,h2,h3⟩with⟨j,j1,j2⟩|yK
     ·by_cases ax:j∈rd
      ·exact .inl ⟨j,by show(o' j).live=true;rw[<- vY j ax];exact j1,j2⟩
      ·rw[show HR.o j= .no from tW j ax]at j1;cases j1
     ·exact .inr yK
    ·exact .inl ⟨id,h2,h3⟩
  refine⟨JF,⟨fun id=> ?_,fun id hn=> ?_,fun i j b hi hj bi bj=> ?_,fun b hb=> ?_,fun b hb=>Nat.lt_of_lt_of_le (hH.BM b hb) k2.cN.size⟩,ht,fun b hb=> ?_⟩
  ·by_cases ax:id∈rd
   ·refine aR.refs (H:=hp o1 BR) (M:=M1) (φ:=jn) (fun b hn hb=>hn (hB2 b hb)) (Hd id ax) (AX id ax) (fun j hj=> ?_) (k1.ok id)
    have KK:j∈rd:=by
     have e1:o1 id=put o Δ id:=xE id ax
     have hj:j∈(put o Δ id).refs:=by rw[<- e1];exact hj
     have key:∀ (Ho:List (Nat×ab)) (q:Nat->ab),(∀x∈Ho,∀j∈x.2.refs,j∈rd)->(∀j∈(q id).refs,j∈rd)->∀j∈(put q Ho id).refs,j∈rd:=by
      intro Ho
      induction Ho with
      |nil=>intro q _ h2;exact h2
      |cons x Ho ih=>
       intro q h1 h2
       simp only[put,List.foldl_cons]
       refine ih (ay q x.1 x.2) (fun y hy=>h1 y lh) ?_
       simp only[aN]
       split
       ·exact h1 x aE
       ·exact h2
     exact key Δ o af3 (su id ax) j hj
    exact⟨Hd j KK,AX j KK,(ho j KK).2⟩
   ·exact aR.Cg ss ab3 (KW id ax) (CT id ax) (fun hl b hb=>uD b (hH.ours b ⟨id,hl,hb⟩).2 fun⟨j,j1,j2⟩=>by
     by_cases hj:j∈rd
     ·rw[show HR.o j=o' j from vY j hj]at j1
      exact ax (hH.apart id j b hl j1 hb j2 ▸ hj)
     ·rw[show HR.o j= .no from tW j hj]at j1;cases j1) (hH.ok id)
  ·have ax:id∉rd:=fun ax=>hn (ho id ax).2
   exact(KW id ax).trans (hH.fresh id hn)
  ·by_cases e1:i∈rd<;>by_cases e2:j∈rd
   ·refine k1.apart i j b ?_ ?_ (by rw[<- AX i e1];exact bi) (by rw[<- AX j e2];exact bj)
    ·show(o1 i).live=true;rw[<- Hd i e1];exact hi
    ·show(o1 j).live=true;rw[<- Hd j e2];exact hj
   ·exfalso
    refine(k1.ours b ⟨i,by show(o1 i).live=true;rw[<- Hd i e1];exact hi,by rw[<- AX i e1];exact bi⟩).1 (.inr ⟨j,e2,by rw[<- KW j e2];exact hj,by rw[<- CT j e2];exact bj⟩)
   ·exfalso
    refine(k1.ours b ⟨j,by show(o1 j).live=true;rw[<- Hd j e2];exact hj,by rw[<- AX j e2];exact bj⟩).1 (.inr ⟨i,e1,by rw[<- KW i e1];exact hi,by rw[<- CT i e1];exact bi⟩)
   ·exact hH.apart i j b (by show(o' i).live=true;rw[<- KW i e1];exact hi) (by show(o' j).live=true;rw[<- KW j e2];exact hj) (by rw[<- CT i e1];exact bi) (by rw[<- CT j e2];exact bj)
  ·rcases cY b hb with⟨id,h1,h2,h3⟩|⟨id,h1,h2,h3⟩
   ·obtain⟨a,c⟩:=k1.ours b ⟨id,h2,h3⟩
    exact⟨fun hM=>a (.inl hM),c⟩
   ·obtain⟨a,c⟩:=hH.ours b ⟨id,h2,h3⟩
    exact⟨a,Nat.lt_of_lt_of_le c k2.cN.size⟩
  ·rcases hb with hb|hb
   ·exact .inl (.inl hb)
   ·rcases cY b hb with h|h
    ·exact .inr h
    ·exact .inl (.inr h)
 have res:∀ (vs:List V) (xs:List D) (us':List Value),(∀id∈rd,o1 id=put o Δ id)->cn o1 vs=some xs->(∀id∈V.bg vs,id∉rd)->V.aF (aq M1 jn (hp o1 BR)) jn (hp o1 BR) w' vs us'->
  ∃aJ,az M aJ ⟨put o' Δ,us⟩ w'/\Trans φ ⟨o',us⟩ w aJ ⟨put o' Δ,us⟩ w'/\D.aF (aq M aJ ⟨put o' Δ,us⟩) w' xs us':=by
  intro vs xs us' xE h1 af4 h2
  obtain⟨f1,f2,f3,f4,f5⟩:=cZ k1 (V.bg vs) (dk vs _ h2)
  have h3:=dB f1 vs xs us' f3 h1 (V.aW f2 _ _ h2)
  obtain⟨aJ,m1,m2,m3⟩:=main xE
  refine⟨aJ,m1,m2,D.aW (w:=w') (w':=w') (fun b _ hn=>⟨rfl,fun hb=>hn ?_⟩) xs us' h3⟩
  rcases m3 b hb with hb|⟨id,i1,i2,i3⟩
  ·exact .inl hb
  ·exact .inr ⟨id,by rw[f4 id fun hm=>af4 id hm i1];exact i2,i3⟩
 cases e with
 |outgrown=>exact k3.elim
 |panicked ch=>
  obtain⟨val,rfl,g1,xE,x,g2,rfl,g3⟩:=k3
  obtain⟨aJ,m1,m2,m3⟩:=res [v] [x] [val] xE (by simp[cn,g2]) (by simpa[V.bg]using g3) ⟨val,[],rfl,g1,rfl⟩
  obtain⟨u,us2,he,h2,_⟩:=m3
  simp at he;obtain⟨rfl,rfl⟩:=he
  exact⟨aJ,m1,m2,val,rfl,h2⟩
 |returned val=>
  obtain⟨g1,xE,vs,rs,rfl,g2,rfl,g3⟩:=k3
  match vs,g1,g2,g3 with
  |[],g1,g2,g3=>
   obtain⟨arr,rfl,hv⟩:=g1
   simp only[cn,Option.some.injEq]at g2;subst g2
   obtain⟨aJ,m1,m2,m3⟩:=res [] [] arr.toList xE rfl (by simp[V.bg]) hv
   exact⟨aJ,m1,m2,arr,rfl,m3⟩
  |[v],g1,g2,g3=>
   obtain⟨aJ,m1,m2,m3⟩:=res [v] rs [val] xE g2 g3 ⟨val,[],rfl,g1,rfl⟩
   refine⟨aJ,m1,m2, ?_⟩
   cases rs with
   |nil=>cases m3
   |cons x l=>
    obtain⟨u,us2,he,h2,h3⟩:=m3
    simp at he;obtain⟨rfl,rfl⟩:=he
    cases l with
    |nil=>exact h2
    |cons y l=>obtain⟨_,_,h,_⟩:=h3;cases h
  |v::v2::l,g1,g2,g3=>
   obtain⟨arr,rfl,hv⟩:=g1
   obtain⟨aJ,m1,m2,m3⟩:=res (v::v2::l) rs arr.toList xE g2 g3 hv
   refine⟨aJ,m1,m2, ?_⟩
   have hl:=D.aC _ _ m3
   have SG:=V.aC _ _ hv
   match rs,hl,m3 with
   |[],hl,_=>exact GO
   |[x],hl,_=>exact GO
   |x::y::l,_,m3=>exact⟨arr,rfl,m3⟩
end
end
section
inductive fL where
 |skip|val (v:V) (Δ:List (Nat×ab)) (rd:List Nat)|bN (v:V) (ws rd:List Nat)|eA
 deriving Inhabited
def fL.ok:fL->Bool
 | .skip| .val .. =>true
 |_=>false
def xG(dst:Option Tmp)(x:fL)(s:S):S:=
 match x with
 | .skip=>⟨ba s.env dst (.bW []),s.o,s.nx⟩
 | .val v Δ _=>⟨ba s.env dst v,put s.o Δ,s.nx⟩
 | .bN .. | .eA=>⟨ba s.env dst .ad,s.o,s.nx⟩
def lC:fL->List Nat
 | .val _ Δ _=>Δ.map (·.1)
 |_=>[]
def xW:fL->List Nat
 | .val _ _ rd=>rd
 | .bN _ _ rd=>rd
 |_=>[]
def O4(P:Program)(g:FuncId)(ds:List D)(v:V):Prop:=
 Enters P g/\∀ (M:Nat->Prop) (w:World) (vals:Array Value),(∀b,M b->b<w.heap.size)->D.aF M w ds vals.toList->
  Calls P g vals w fun e w'=>eC (fun _=>False) w w'/\∃val,e= .returned val/\∀φ H,V.den M φ H w' v val
theorem O4.lA {P:Program}{g:FuncId}{ds:List D}{v:V}(hr:v.refs=[])(h:bQ P g (ds.map .d) (fun _=> .no) 0 (fun v' _ _=>v'=v) (fun _ _ _=>False)):O4 P g ds v:=by
 refine⟨h.1,fun M w vals hM hd=> ?_⟩
 let cS:Place:=fun _=> .nilFunc
 have uD:∀b, ¬cL cS (hp (fun _=> .no) 0) b:=by rintro b ⟨id,hl,_⟩;simp[hp,ab.live]at hl
 refine(h.2 M cS w vals (oM cS hM) ((V.cO _ _).2 (D.aW (w:=w) (w':=w) (B:=M) (fun b _ hB=>⟨rfl,fun h=>h.elim hB (uD b)⟩) _ _ hd))).mono ?_
 rintro e w' ⟨aJ,o',nx',v',k1,k2,k3⟩
 refine⟨⟨k2.cN.os,k2.cN.tape,k2.cN.output,k2.cN.size,fun k hk _=>k2.cN.block k hk (uD k)⟩, ?_⟩
 cases e with
 |outgrown=>exact k3.elim
 |panicked ch=>obtain⟨_,_,_,h⟩:=k3;exact h.elim
 |returned val=>
  obtain⟨g1,rfl⟩:=k3
  exact⟨val,rfl,fun φ H=>V.nN (B:=aq M aJ (hp o' nx')) (φ:=aJ) (H:=hp o' nx') (fun b hb hm=>hb (.inl hm)) v' val (fun id ax=>by rw[hr]at ax;cases ax) g1⟩
def ze(P:Program)(s:S)(fr:Nat)(op:Op)(v:V)(Δ:List (Nat×ab))(rd:List Nat):Prop:=
 ((∃uN,gQ P s fr op=some (v,Δ,uN))/\rd=pC s op)\/
 (∃c f g first cap,op= .call c/\c.callee= .value f/\s.ev f= .func (.func g) first cap/\
  ((∃ds rs,cn s.o (first++c.args.toList.map s.ev++cap)=some ds/\aX P g ds (.ret rs)/\v=jq rs/\rd=pC s op/\
    (Δ=bG s.o (V.bg (first++c.args.toList.map s.ev++cap))\/D.j7 rs=true/\Δ=[]))\/
   (∃rs,BQ P g (first++c.args.toList.map s.ev++cap) rd s.o (.ret rs) Δ/\v=jq rs/\∀id∈rd,id<s.nx)\/
   (∃ds,cn s.o (first++c.args.toList.map s.ev++cap)=some ds/\O4 P g ds v/\rd=pC s op/\Δ=bG s.o (V.bg (first++c.args.toList.map s.ev++cap)))\/
   (zd P g (first++c.args.toList.map s.ev++cap) rd s.o fr v Δ/\∀id∈rd,id<s.nx)))
def CU(P:Program)(s:S)(op:Op)(v:V)(ws rd:List Nat):Prop:=
 ∃c f g first cap,op= .call c/\c.callee= .value f/\s.ev f= .func (.func g) first cap/\
  ((∃ds x,cn s.o (first++c.args.toList.map s.ev++cap)=some ds/\aX P g ds (.bN x)/\x.flat=true/\v= .d x/\rd=pC s op/\ws=[])\/
   (∃x Δ,BQ P g (first++c.args.toList.map s.ev++cap) rd s.o (.bN x) Δ/\v= .d x/\ws=Δ.map (·.1)/\∀id∈rd,id<s.nx))
def dX(s:S)(gd:Option (Nat×Bool))(b:Bool):Prop:=
 match gd with
 |none=>b=true
 |some (d,want)=>match s.env d with
  | .d (.bool c)=>b=(c==want)
  | .bW []=>b=false
  |_=>False
def TD(P:Program)(s:S)(fr:Nat)(o:bZ)(x:fL):Prop:=
 match x with
 | .skip=>dX s o.gd false
 | .val v Δ rd=>dX s o.gd true/\ze P s fr o.op v Δ rd
 | .bN v ws rd=>dX s o.gd true/\CU P s o.op v ws rd
 | .eA=>True
def eR(oc:Nat->bZ)(ac:Nat->fL)(E:Nat->Bool)(s:S):Nat->S
 |0=>s
 |k+1=>if E k then xG (oc k).dst (ac k) (eR oc ac E s k)else eR oc ac E s k
structure Compat (oc:Nat->bZ) (ac:Nat->fL) (R:Nat->List Nat) (i j:Nat):Prop where
 di:∀d,(oc i).dst=some d->d∉fE (oc j)
 dj:∀d,(oc j).dst=some d->d∉fE (oc i)
 wi:∀id∈lC (ac i),id∉R j/\id∉lC (ac j)
 wj:∀id∈lC (ac j),id∉R i
section
variable {P:Program}{oc:Nat->bZ}{ac:Nat->fL}{s:S}{n:Nat}{E:Nat->Bool}{R:Nat->List Nat}{pr:Nat->Nat->Prop}
theorem Fv{env:Nat->V}{dst:Option Tmp}{v:V}{t:Nat}(h:∀d,dst=some d->d≠t):ba env dst v t=env t:=by
 cases dst with
 |none=>rfl
 |some d=>simp only[ba,aN];rw[if_neg (fun e=>h d rfl e.symm)]
theorem gJ{o:Nat->ab}:∀ {Δ:List (Nat×ab)} {id:Nat},id∉Δ.map (·.1)->put o Δ id=o id
 |[],_,_=>rfl
 |x::Δ,id,h=>by
  simp only[List.map_cons,List.mem_cons,not_or]at h
  have:=gJ (o:=ay o x.1 x.2) (Δ:=Δ) h.2
  simp only[put,List.foldl_cons]at this|-
  rw[this];simp[h.1]
theorem AY{o o':Nat->ab}:∀ {Δ:List (Nat×ab)} {id:Nat},id∈Δ.map (·.1)\/o id=o' id->put o Δ id=put o' Δ id
 |[],_,h=>by rcases h with h|h;· simp at h
             ·exact h
 |x::Δ,id,h=>by
  simp only[put,List.foldl_cons]
  refine AY (Δ:=Δ) (o:=ay o x.1 x.2) (o':=ay o' x.1 x.2) ?_
  simp only[List.map_cons,List.mem_cons]at h
  simp only[aN]
  by_cases e:id=x.1
  ·right;simp[e]
  ·rcases h with(h|h)|h
   ·exact absurd h e
   ·exact .inl h
   ·right;simp[e,h]
theorem lD{dst:Option Tmp}{x:fL}{t:Nat}(h:∀d,dst=some d->d≠t):(xG dst x s).env t=s.env t:=by
 cases x<;>exact Fv h
theorem nO{dst:Option Tmp}{x:fL}{id:Nat}(h:id∉lC x):(xG dst x s).o id=s.o id:=by
 cases x with
 |val v Δ rd=>exact gJ h
 |_=>rfl
theorem AZ{dst:Option Tmp}{x:fL}{s':S}{t:Nat}(h:s.env t=s'.env t):(xG dst x s).env t=(xG dst x s').env t:=by
 cases x<;>cases dst<;>simp only[xG,ba,aN]<;>first|exact h|(split<;>first|rfl|exact h)
theorem Fw{dst:Option Tmp}{x:fL}{s':S}{id:Nat}(h:s.o id=s'.o id):(xG dst x s).o id=(xG dst x s').o id:=by
 cases x with
 |val v Δ rd=>exact AY (.inr h)
 |_=>exact h
theorem put_comm{o:Nat->ab}{Δ Ho:List (Nat×ab)}(h:∀id∈Δ.map (·.1),id∉Ho.map (·.1)):put (put o Δ) Ho=put (put o Ho) Δ:=by
 funext id
 by_cases h1:id∈Δ.map (·.1)
 ·rw[gJ (h id h1)]
  exact AY (.inl h1)
 ·rw[gJ (Δ:=Δ) h1]
  by_cases h2:id∈Ho.map (·.1)
  ·exact AY (.inl h2)
  ·rw[gJ h2,gJ h2,gJ h1]
theorem zf{env:Nat->V}{d d':Option Tmp}{v v':V}(h:∀t,d=some t->d'≠some t):ba (ba env d v) d' v'=ba (ba env d' v') d v:=by
 cases d with
 |none=>rfl
 |some t=>
  cases d' with
  |none=>rfl
  |some t'=>
   have je:t'≠t:=fun e=>h t rfl (by rw[e])
   funext i
   simp only[ba,aN]
   by_cases e1:i=t<;>by_cases e2:i=t'
   ·exact absurd (e2.symm.trans e1) je
   all_goals simp[e1,e2]
   ·intro e;exact absurd e.symm je
   ·intro e;exact absurd e je
theorem Mu{d d':Option Tmp}{x x':fL}(hd:∀t,d=some t->d'≠some t)(hw:∀id∈lC x,id∉lC x'):xG d x (xG d' x' s)=xG d' x' (xG d x s):=by
 cases x<;>cases x'<;>simp only[xG]<;>first
  |rw[zf hd,put_comm hw]
  |rw[zf hd]
def A0(n:Nat)(pr:Nat->Nat->Prop)(E:Nat->Bool):Prop:=∀k,k<n->E k=true->∀j,pr k j->E j=true
theorem agree(_:∀k,k<n->∀j,pr k j->j<k)(hc:∀i j,i<j->j<n-> ¬pr j i->Compat oc ac R i j)(hE:A0 n pr E){i:Nat}(hi:i<n)(kz:E i=false)(Mv:∀j,pr i j->E j=true):
 (∀t∈fE (oc i),(eR oc ac E s n).env t=(eR oc ac (fun _=>true) s i).env t)/\(∀id∈R i,(eR oc ac E s n).o id=(eR oc ac (fun _=>true) s i).o id):=by
 have a:∀k,k<=i->(∀t∈fE (oc i),(eR oc ac E s k).env t=(eR oc ac (fun _=>true) s k).env t)/\(∀id∈R i,(eR oc ac E s k).o id=(eR oc ac (fun _=>true) s k).o id):=by
  intro k
  induction k with
  |zero=>intro _;exact⟨fun _ _=>rfl,fun _ _=>rfl⟩
  |succ k ih=>
   intro hk
   obtain⟨h1,h2⟩:=ih af
   simp only[eR,if_true]
   by_cases jB:E k=true
   ·simp only[jB,if_true]
    exact⟨fun t ht=>AZ (h1 t ht),fun id ax=>Fw (h2 id ax)⟩
   ·have Tq: ¬pr i k:=fun hm=>jB (Mv k hm)
    have c:=hc k i af hi Tq
    simp only[jB]
    refine⟨fun t ht=> ?_,fun id ax=> ?_⟩
    ·rw[lD fun d hd e=>c.di d hd (e ▸ ht)];exact h1 t ht
    ·rw[nO fun hm=>(c.wi id hm).1 ax];exact h2 id ax
 have b:∀k,i<=k->k<=n->(∀t∈fE (oc i),(eR oc ac E s k).env t=(eR oc ac (fun _=>true) s i).env t)/\(∀id∈R i,(eR oc ac E s k).o id=(eR oc ac (fun _=>true) s i).o id):=by
  intro k P9
  induction P9 with
  |refl=>intro _;exact a i (Nat.le_refl _)
  | @step k P9 ih=>
    intro hk
    have P9:i<=k:=P9
    obtain⟨h1,h2⟩:=ih af
    simp only[eR]
    by_cases jB:E k=true
    ·have je:i≠k:=fun e=>by rw[e,jB]at kz;cases kz
     have Tq: ¬pr k i:=fun hm=>by have:=hE k af jB i hm;rw[kz]at this;cases this
     have c:=hc i k af af Tq
     simp only[jB,if_true]
     refine⟨fun t ht=> ?_,fun id ax=> ?_⟩
     ·rw[lD fun d hd e=>c.dj d hd (e ▸ ht)];exact h1 t ht
     ·rw[nO fun hm=>c.wj id hm ax];exact h2 id ax
    ·simp only[jB];exact⟨h1,h2⟩
 exact b n af (Nat.le_refl _)
theorem insert(hc:∀i j,i<j->j<n-> ¬pr j i->Compat oc ac R i j)(hE:A0 n pr E){i:Nat}(hi:i<n)(kz:E i=false){E':Nat->Bool}(Fx:∀k,E' k=(E k||k==i)):
 eR oc ac E' s n=xG (oc i).dst (ac i) (eR oc ac E s n):=by
 have a:∀k,k<=i->eR oc ac E' s k=eR oc ac E s k:=by
  intro k
  induction k with
  |zero=>intro _;rfl
  |succ k ih=>
   intro hk
   have:E' k=E k:=by rw[Fx k];have:(k==i)=false:=by simp;omega
                     simp[this]
   simp only[eR,this,ih (by omega)]
 have b:∀k,i+1<=k->k<=n->eR oc ac E' s k=xG (oc i).dst (ac i) (eR oc ac E s k):=by
  intro k P9
  induction P9 with
  |refl=>
   intro _
   have h1:E' i=true:=by rw[Fx i];simp
   simp only[eR,h1,kz,if_true,a i (Nat.le_refl _)]
   rfl
  | @step k P9 ih=>
    intro hk
    have P9:i+1<=k:=P9
    have h1:E' k=E k:=by rw[Fx k];have:(k==i)=false:=by simp;omega
                         simp[this]
    simp only[eR,h1,ih (by omega)]
    by_cases jB:E k=true
    ·have Tq: ¬pr k i:=fun hm=>by have:=hE k af jB i hm;rw[kz]at this;cases this
     have c:=hc i k af af Tq
     simp only[jB,if_true]
     refine Mu (fun t ht he=> ?_) (fun id ax hm=>(c.wi id hm).2 ax)
     exact c.di t he (by simp[fE,ht])
    ·simp only[jB];rfl
 exact b n af (Nat.le_refl _)
end
end
section
structure uH (M:Nat->Prop) (cS:Place) (H0:Hp) (w0:World) (n:Nat) (cx:Cx) (φ:Place) (s:S) (us:Nat->Prop) (a:Act) (w:World):Prop where
 heap:az M φ ⟨s.o,us⟩ w
 tr:Trans cS H0 w0 φ ⟨s.o,us⟩ w
 size:a.tmps.size=n
 defers:vQ cx w0 φ ⟨s.o,us⟩ w a.defers
 env:∀i,V.den (aq M φ ⟨s.o,us⟩) φ ⟨s.o,us⟩ w (s.env i) (a.tmps.getD i undef)
section
variable {P:Program}{M:Nat->Prop}{φ cS:Place}{H0:Hp}{w w' w0:World}{n:Nat}{s:S}{us:Nat->Prop}{a:Act}{cx:Cx}{ro:Option Nat}{k:Nat}
variable {next:Act->World->Prop}{Q:Exit->Act->World->Prop}
theorem jT(hs:uH M cS H0 w0 n cx φ s us a w){aJ:Place}{H':Hp}(hH:az M aJ H' w')(ht:Trans φ ⟨s.o,us⟩ w aJ H' w'){v:V}{val:Value}(hd:V.den (aq M aJ H') aJ H' w' v val){dst:Option Tmp}(df:gX n dst)
 {o':Nat->ab} {us':Nat->Prop} (ho:H'.o=o') (hu:∀id,H'.us id->us' id):uH M cS H0 w0 n cx aJ ⟨ba s.env dst v,o',s.nx⟩ us' (a.put dst val) w':=by
 obtain⟨k1,k2⟩:=kL hH hu
 subst ho
 refine⟨k1,hs.tr.trans (ht.trans k2), ?_, ?_,fun i=> ?_⟩
 ·cases dst<;>simp[Act.put,hs.size]
 ·have:=hs.defers.mono (ht.trans k2);cases dst<;>exact this
 ·cases dst with
  |none=>exact Py
  |some d=>
   simp only[gX]at df
   simp only[ba,aN,Act.put]
   by_cases hi:i=d
   ·subst hi
    have h1:(a.tmps.setIfInBounds i val).getD i undef=val:=by simp[Array.getD,hs.size,df]
    rw[if_pos rfl,h1]
    exact V.aT k2 _ _ hd
   ·have h1:(a.tmps.setIfInBounds d val).getD i undef=a.tmps.getD i undef:=by
     exact VV
    rw[if_neg hi,h1]
    exact Py
theorem zg(hs:uH M cS H0 w0 n cx φ s us a w){o:Oper}{op:Op}(gC:o.op=op){c:Call}{f:Operand}{g:FuncId}{first cap:List V}(hc:op= .call c)(fC:c.callee= .value f)(xL:s.ev f= .func (.func g) first cap):
 ∃vals:Array Value,V.aF (aq M φ ⟨s.o,us⟩) φ ⟨s.o,us⟩ w (first++c.args.toList.map s.ev++cap) vals.toList/\(Enters P g->(execOp a.eval o).run P w= .ok (.enter g vals) w):=by
 have hf:=nA (M:=M) (φ:=φ) (H:=⟨s.o,us⟩) (w:=w) s a hs.env f
 have dG:=kO (M:=M) (φ:=φ) (H:=⟨s.o,us⟩) (w:=w) s a hs.env c.args.toList
 rw[xL]at hf
 obtain⟨fa,ca,Wc,GY,hca⟩:=hf
 refine⟨fa++c.args.map a.eval++ca, ?_,fun he=> ?_⟩
 ·exact SL
 ·have:=lX (w:=w) he (fa++c.args.map a.eval++ca)
  generalize lN:fa++c.args.map a.eval++ca=vals at this
  simp[execOp,gC,hc,resolve,fC,Wc,Deferred.ofValue,invoke,this,lN]
theorem Lo(hs:uH M cS H0 w0 n cx φ s us a w){fr:Nat}(c9: ¬us fr)(uz:∀id,id<s.nx->us id){o:Oper}{op:Op}(gC:o.op=op)(df:gX n o.dst){v:V}{Δ:List (Nat×ab)}{rd:List Nat}(h:ze P s fr op v Δ rd)
 (hN:∀aJ a' w',uH M cS H0 w0 n cx aJ (xG o.dst (.val v Δ rd) s) (fun id=>us id\/id=fr) a' w'->next a' w'):o.wpIn (dT ro) k P a w next Q:=by
 rcases h with⟨⟨uN,h⟩,_⟩|⟨c,f,g,first,cap,hc,fC,xL,h⟩
 ·have h1:=CP (K:=fun v' Ho _=>v'=v/\Ho=Δ) h ⟨rfl,rfl⟩
  obtain⟨nx,val,w',aJ,v',Ho,uN,⟨rfl,rfl⟩,hr,af5,g1,g2,g3,g4⟩:=yU hs.heap (s:=s) rfl hs.env c9 gC h1
  have uA:=jT hs g1 g2 g3 df (o':=put s.o Ho) (us':=fun id=>us id\/id=fr) rfl (fun id hu=>hu.elim .inl (g4 id))
  refine kS (fun c hc=>by rw[gC]at hc;subst hc;exact h1) ?_
  rw[hr]
  rcases af5 with rfl|⟨rfl,rfl⟩
  ·exact hN _ _ _ uA
  ·exact hN _ _ _ uA
 ·refine kS (fun c' yW=>by rw[gC,hc]at yW;cases yW) ?_
  obtain⟨vals,bf,fI⟩:=zg (P:=P) hs gC hc fC xL
  generalize first++c.args.toList.map s.ev++cap=all at h bf
  rcases h with⟨ds,rs,fD,hP,rfl,_,Zi⟩|⟨rs,hH,rfl,m9⟩|⟨ds,fD,hP,_,rfl⟩|⟨hH,m9⟩
  ·obtain⟨f1,f2,f3,f4,f5⟩:=cZ hs.heap (V.bg all) (dk all _ bf)
   have fK:(⟨s.o,us⟩:Hp).put (bG s.o (V.bg all))=⟨put s.o (bG s.o (V.bg all)),us⟩:=lW (H:=⟨s.o,us⟩) Ly
   have yI:=dB f1 all ds _ f3 fD (V.aW f2 _ _ bf)
   have fq:=hP.2 _ w vals (fun b hb=>hb.elim (f1.BM b) fun hl=>(f1.ours b hl).2) yI
   rw[fI hP.1]
   refine⟨fun hd=>by simp[dT]at hd,dq (fq.mono fun e w' ⟨hk,ho⟩=> ?_)⟩
   cases e with
   |panicked ch=>exact xJ
   |outgrown=>exact xJ
   |returned val=>
    rcases Zi with rfl|⟨qG,rfl⟩
    ·obtain⟨k1,k2⟩:=gG f1 hk
     refine hN _ _ _ (jT hs k1 (f2.trans k2) (nr ho) df (by rw[fK]) fun id hu=> ?_)
     rw[fK]at hu;exact .inl hu
    ·obtain⟨k1,k2⟩:=gG hs.heap hk
     have ho:=R.AG (out:= .ret rs) (B':=aq M φ ⟨s.o,us⟩) qG ho
     exact Sj
  ·have fq:=hH.2 s.o us M φ w vals (fun id ax=>⟨rfl,uz id (m9 id ax)⟩) hs.heap bf
   rw[fI hH.1]
   refine⟨fun hd=>by simp[dT]at hd,dq (fq.mono fun e w' ⟨aJ,k1,k2,ho⟩=> ?_)⟩
   cases e with
   |panicked ch=>exact xJ
   |outgrown=>exact xJ
   |returned val=>exact Sj
  ·obtain⟨f1,f2,f3,f4,f5⟩:=cZ hs.heap (V.bg all) (dk all _ bf)
   have fK:(⟨s.o,us⟩:Hp).put (bG s.o (V.bg all))=⟨put s.o (bG s.o (V.bg all)),us⟩:=lW (H:=⟨s.o,us⟩) Ly
   have yI:=dB f1 all ds _ f3 fD (V.aW f2 _ _ bf)
   have fq:=hP.2 _ w vals (fun b hb=>hb.elim (f1.BM b) fun hl=>(f1.ours b hl).2) yI
   rw[fI hP.1]
   refine⟨fun hd=>by simp[dT]at hd,dq (fq.mono fun e w' ⟨hk,val,he,ho⟩=> ?_)⟩
   subst he
   obtain⟨k1,k2⟩:=gG f1 hk
   refine hN _ _ _ (jT hs k1 (f2.trans k2) (ho _ _) df (by rw[fK]) fun id hu=> ?_)
   rw[fK]at hu;exact .inl hu
  ·have fq:=hH.2 s.o us M φ w vals (fun id ax=>⟨rfl,uz id (m9 id ax)⟩) c9 hs.heap bf
   rw[fI hH.1]
   refine⟨fun hd=>by simp[dT]at hd,dq (fq.mono fun e w' ⟨aJ,k1,k2,val,he,ho⟩=> ?_)⟩
   subst he
   exact hN _ _ _ (jT hs k1 k2 ho df rfl fun id hu=>hu)
theorem JN{o o2:Nat->ab}{us us2:Nat->Prop}(hH:az M φ ⟨o,us⟩ w)(ho:∀id,o2 id=o id\/o2 id= .no)(hu:∀id,us id->us2 id):az M φ ⟨o2,us2⟩ w/\Trans φ ⟨o,us⟩ w φ ⟨o2,us2⟩ w:=by
 have hl:∀id,(o2 id).live=true->(o id).live=true:=fun id h=>by
  rcases ho id with e|e
  ·rw[<- e];exact h
  ·rw[e]at h;cases h
 have L4:∀b,cL φ ⟨o2,us2⟩ b->cL φ ⟨o,us⟩ b:=fun b ⟨id,h1,h2⟩=>⟨id,hl id h1,h2⟩
 have ht:Trans φ ⟨o,us⟩ w φ ⟨o2,us2⟩ w:=by
  refine⟨eC.refl _ _,fun b hb=> .inl (L4 b hb),⟨hu,fun id _ hr=> ?_,fun id e' _ he=> ?_⟩⟩
  ·rcases ho id with e|e
   ·exact⟨by show(o id).cA=true;rw[<- e];exact hr,rfl⟩
   ·rw[show(⟨o2,us2⟩:Hp).o id= .no from e]at hr;cases hr
  ·rcases ho id with e|e
   ·exact⟨e',by show(o id).cz=some e';rw[<- e];exact he,Nat.le_refl _,fun _=>rfl⟩
   ·rw[show(⟨o2,us2⟩:Hp).o id= .no from e]at he;cases he
 refine⟨⟨fun id=> ?_,fun id hn=> ?_,fun i j b hi hj=>hH.apart i j b (hl i hi) (hl j hj),fun b hb=>hH.ours b (L4 b hb),hH.BM⟩,ht⟩
 ·rcases ho id with e|e
  ·exact(hH.ok id).mono ht e rfl fun _ _ _=>rfl
  ·unfold aR;rw[show(⟨o2,us2⟩:Hp).o id= .no from e];trivial
 ·rcases ho id with e|e
  ·exact e.trans (hH.fresh id fun h=>hn (hu id h))
  ·exact e
def vZ(ds:List Nat)(wl:List Nat)(N:Nat)(s:S):S:=
 ⟨fun t=>if ds.contains t=true then .ad else s.env t,fun id=>if wl.contains id=true then .no else s.o id,s.nx+N⟩
theorem Mw(hs:uH M cS H0 w0 n cx φ s us a w)(uz:∀id,id<s.nx->us id){N:Nat}(dY:∀id,us id->id<s.nx+N){o:Oper}{op:Op}(gC:o.op=op){v:V}{ws rd:List Nat}(h:CU P s op v ws rd)
 {s0:S} {ds wl:List Nat} (fD:∀t,ds.contains t=false->s.env t=s0.env t) (hwl:∀id,wl.contains id=false->s.o id=s0.o id) (Qa:∀id∈ws,wl.contains id=true) (nm:s0.nx=s.nx)
 (hQ:∀aJ w' val,cq M cS H0 w0 n cx aJ (vZ ds wl N s0) a w'->V.den (aq M aJ (vZ ds wl N s0).H) aJ (vZ ds wl N s0).H w' v val->Q (.panic [{v:=val,recovered:=false}]) a w'):o.wpIn (dT ro) k P a w next Q:=by
 obtain⟨c,f,g,first,cap,hc,fC,xL,h⟩:=h
 refine kS (fun c' yW=>by rw[gC,hc]at yW;cases yW) ?_
 obtain⟨vals,bf,fI⟩:=zg (P:=P) hs gC hc fC xL
 generalize first++c.args.toList.map s.ev++cap=all at h bf
 have fin:∀ (aJ:Place) (w':World) (o':Nat->ab) (val:Value),(∀id,wl.contains id=false->o' id=s.o id)->az M aJ ⟨o',us⟩ w'->Trans φ ⟨s.o,us⟩ w aJ ⟨o',us⟩ w'->V.den (aq M aJ ⟨o',us⟩) aJ ⟨o',us⟩ w' v val->Q (.panic [{v:=val,recovered:=false}]) a w':=by
  intro aJ w' o' val yj k1 k2 k3
  obtain⟨m1,m2⟩:=JN (o2:=(vZ ds wl N s0).o) (us2:=fun id=>id<s0.nx+N) k1 (fun id=>by
   show(if wl.contains id=true then ab.no else s0.o id)=o' id\/_
   by_cases hw:wl.contains id=true
   ·right;simp only[vZ];rw[if_pos hw]
   ·left;rw[if_neg hw,yj id (by simpa using hw),hwl id (by simpa using hw)]) (fun id h=>by rw[nm];exact dY id h)
  have ht:=hs.tr.trans (k2.trans m2)
  refine hQ aJ w' val ⟨m1,ht,hs.size,hs.defers.mono (k2.trans m2),fun i=> ?_⟩ (V.aT m2 _ _ k3)
  show V.den _ _ _ _ (if ds.contains i=true then V.ad else s0.env i) _
  by_cases hd:ds.contains i=true
  ·rw[if_pos hd];trivial
  ·rw[if_neg hd, <- fD i (by simpa using hd)];exact V.aT (k2.trans m2) _ _ (hs.env i)
 rcases h with⟨dd,x,af6,hP,qG,rfl,_,rfl⟩|⟨x,Δ,hH,rfl,rfl,m9⟩
 ·obtain⟨f1,f2,f3,f4,f5⟩:=cZ hs.heap (V.bg all) (dk all _ bf)
  have yI:=dB f1 all dd _ f3 af6 (V.aW f2 _ _ bf)
  have fq:=hP.2 _ w vals (fun b hb=>hb.elim (f1.BM b) fun hl=>(f1.ours b hl).2) yI
  rw[fI hP.1]
  refine⟨fun hd=>by simp[dT]at hd,dq (fq.mono fun e w' ⟨hk,ho⟩=> ?_)⟩
  cases e with
  |returned val=>exact ho.elim
  |outgrown=>exact ho.elim
  |panicked ch=>
   obtain⟨k1,k2⟩:=gG hs.heap hk
   have ho:=R.AG (out:= .bN x) (B':=aq M φ ⟨s.o,us⟩) qG ho
   obtain⟨val,rfl,hd⟩:=ho
   exact fin φ w' s.o val (fun _ _=>rfl) k1 k2 hd
 ·have fq:=hH.2 s.o us M φ w vals (fun id ax=>⟨rfl,uz id (m9 id ax)⟩) hs.heap bf
  rw[fI hH.1]
  refine⟨fun hd=>by simp[dT]at hd,dq (fq.mono fun e w' ⟨aJ,k1,k2,ho⟩=> ?_)⟩
  cases e with
  |returned val=>exact ho.elim
  |outgrown=>exact ho.elim
  |panicked ch=>
   obtain⟨val,rfl,hd⟩:=ho
   exact fin aJ w' _ val (fun id ax=>AW fun y hy e=>by
    have:=Qa y.1 (List.mem_map_of_mem hy)
    rw[e,ax]at this;cases this) k1 k2 hd
theorem gf(eD:∀i,V.den (aq M φ ⟨s.o,us⟩) φ ⟨s.o,us⟩ w (s.env i) (a.tmps.getD i undef)){ops:Array Oper}{o:Oper}{gd:Option (Nat×Bool)}{b:Bool}
 (hg:match o.guard with|none=>gd=none|some (j,want)=>∃d,tH ops j=some d/\gd=some (d,want)) (h:dX s gd b):Region.wanted o (yielded ops a.tmps)=b:=by
 unfold Region.wanted
 split at hg
 ·rename_i hn;simp only[hn];subst hg;exact h.symm
 ·rename_i j want hn
  simp only[hn]
  obtain⟨d,hd,rfl⟩:=hg
  unfold tH at hd
  unfold yielded
  simp only[hd,Option.bind_some]
  simp only[dX]at h
  have he:=eD d
  split at h
  ·rename_i c hv
   rw[hv]at he
   simp only[V.den,D.den]at he
   have:a.tmps[d]? =some (.bool c):=by
    rw[Array.getD_eq_getD_getElem?]at he
    cases hx:a.tmps[d]? with
    |none=>rw[hx]at he;simp[undef]at he
    |some x=>rw[hx]at he;simp at he;rw[he]
   simp only[this,h]
   cases c<;>cases want<;>rfl
  ·rename_i hv
   rw[hv]at he
   obtain⟨arr,dy,hn⟩:=he
   have:∀c,a.tmps[d]? ≠some (.bool c):=by
    exact Tb
   subst h
   cases hx:a.tmps[d]? with
   |none=>rfl
   |some x=>cases x<;>first|(exact absurd hx (this _))|rfl
  ·exact h.elim
theorem gh{s s':S}{gd:Option (Nat×Bool)}{b:Bool}(h:∀d want,gd=some (d,want)->s'.env d=s.env d)(hg:dX s gd b):dX s' gd b:=by
 unfold dX at*
 cases gd with
 |none=>exact hg
 |some p=>obtain⟨d,want⟩:=p;simp only at hg|-;rw[h d want rfl];exact hg
theorem CV{s s':S}{x:Operand}(h:∀t,x= .tmp t->s'.env t=s.env t):s'.ev x=s.ev x:=by
 cases x<;>simp only[S.ev]
 exact h _ rfl
theorem v7{s s':S}{op:Op}{c:Call}{f:Operand}{g:FuncId}{first cap:List V}(hv:∀x∈op.operands,s'.ev x=s.ev x)(hc:op= .call c)(fC:c.callee= .value f)(xL:s.ev f= .func (.func g) first cap):
 s'.ev f= .func (.func g) first cap/\c.args.toList.map s'.ev=c.args.toList.map s.ev:=by
 subst hc
 exact⟨(hv f (by simp only[Op.operands,Call.operands,fC];exact Array.mem_append.2 (.inl aE))).trans xL,
  List.map_congr_left fun x hx=>hv x aaU⟩
theorem BQ.frame {g:FuncId}{args:List V}{rd:List Nat}{o o':Nat->ab}{out:R}{Δ:List (Nat×ab)}(ho:∀id∈rd,o' id=o id)(h:BQ P g args rd o out Δ):BQ P g args rd o' out Δ:=
 ⟨h.1,fun o2 us M φ w vals h1 h2 h3=>h.2 o2 us M φ w vals (fun id ax=>⟨(h1 id ax).1.trans (ho id ax),(h1 id ax).2⟩) h2 h3⟩
theorem zd.frame {g:FuncId}{args:List V}{rd:List Nat}{o o':Nat->ab}{fr:Nat}{v:V}{Δ:List (Nat×ab)}(ho:∀id∈rd,o' id=o id)(h:zd P g args rd o fr v Δ):zd P g args rd o' fr v Δ:=
 ⟨h.1,fun o2 us M φ w vals h1 h2 h3=>h.2 o2 us M φ w vals (fun id ax=>⟨(h1 id ax).1.trans (ho id ax),(h1 id ax).2⟩) h2 h3⟩
theorem B7{s s':S}{fr:Nat}{op:Op}{v:V}{Δ:List (Nat×ab)}{rd:List Nat}(hv:∀x∈op.operands,s'.ev x=s.ev x)(ho:∀id∈rd,s'.o id=s.o id)(uz:s'.nx=s.nx)(h:ze P s fr op v Δ rd):∃uN,ze P s' fr op v Δ uN:=by
 rcases h with⟨⟨uN,h⟩,m9⟩|⟨c,f,g,first,cap,rfl,fC,xL,h⟩
 ·exact⟨_, .inl ⟨⟨uN,by rw[Fs op hv (by rw[<- m9];exact ho)];exact h⟩,rfl⟩⟩
 ·obtain⟨hf,hm⟩:=v7 hv rfl fC xL
  rcases h with⟨ds,rs,fD,hP,qH,m9,Zi⟩|⟨rs,hH,qH,m9⟩|⟨ds,fD,hP,m9,Zi⟩|⟨hH,m9⟩
  ·have hr:∀id∈V.aL (first++c.args.toList.map s.ev++cap),s'.o id=s.o id:=fun id ax=>ho id Lt
   refine⟨_, .inr ⟨c,f,g,first,cap,rfl,fC,hf, .inl ⟨ds,rs,by rw[hm,iO _ hr];exact fD,hP,qH,rfl, ?_⟩⟩⟩
   exact S0
  ·exact⟨rd, .inr ⟨c,f,g,first,cap,rfl,fC,hf, .inr (.inl ⟨rs,by rw[hm];exact hH.frame ho,qH,by rw[uz];exact m9⟩)⟩⟩
  ·have hr:∀id∈V.aL (first++c.args.toList.map s.ev++cap),s'.o id=s.o id:=fun id ax=>ho id Lt
   refine⟨_, .inr ⟨c,f,g,first,cap,rfl,fC,hf, .inr (.inr (.inl ⟨ds,by rw[hm,iO _ hr];exact fD,hP,rfl, ?_⟩))⟩⟩
   exact S0
  ·exact⟨rd, .inr ⟨c,f,g,first,cap,rfl,fC,hf, .inr (.inr (.inr ⟨by rw[hm];exact hH.frame ho,by rw[uz];exact m9⟩))⟩⟩
theorem CW{s s':S}{op:Op}{v:V}{ws rd:List Nat}(hv:∀x∈op.operands,s'.ev x=s.ev x)(ho:∀id∈rd,s'.o id=s.o id)(uz:s'.nx=s.nx)(h:CU P s op v ws rd):CU P s' op v ws rd:=by
 obtain⟨c,f,g,first,cap,rfl,fC,xL,h⟩:=h
 obtain⟨hf,hm⟩:=v7 hv rfl fC xL
 refine⟨c,f,g,first,cap,rfl,fC,hf, ?_⟩
 rw[hm]
 rcases h with⟨ds,x,fD,hP,qG,qH,m9,Qa⟩|⟨x,Δ,hH,qH,Qa,m9⟩
 ·have hr:∀id∈V.aL (first++c.args.toList.map s.ev++cap),s'.o id=s.o id:=fun id ax=>ho id Lt
  exact .inl ⟨ds,x,by rw[iO _ hr];exact fD,hP,qG,qH,by rw[m9];simp only[pC,fC,xL,hf,hm],Qa⟩
 ·exact .inr ⟨x,Δ,hH.frame ho,qH,Qa,by rw[uz];exact m9⟩
theorem v8{ops:Array Oper}:∀ (l:List Oper) (l':List bZ) (i:Nat) (o:Oper),lO n ops l=some l'->l[i]? =some o->LR n ops o=some (cf l' i)
 |[],_,_,_,_,h=>by simp at h
 |x::l,l',i,o,h,hi=>by
  simp only[lO]at h
  split at h
  ·rename_i y ys hy hys
   injection h with h;subst h
   cases i with
   |zero=>simp at hi;subst hi;exact hy
   |succ i=>exact v8 l ys i o hys (by simpa using hi)
  ·cases h
theorem zh{ops:Array Oper}{o:Oper}{x:bZ}(h:LR n ops o=some x):x.op=o.op/\x.dst=o.dst/\gX n o.dst/\
 (match o.guard with|none=>x.gd=none|some (j,want)=>∃d,tH ops j=some d/\x.gd=some (d,want)):=by
 unfold LR at h
 split at h
 ·rename_i hd
  have df:gX n o.dst:=by
   unfold ET at hd;unfold gX
   split at hd<;>simp_all
  cases hg:o.guard with
  |none=>simp only[hg]at h;injection h with h;subst h;exact⟨rfl,rfl,df,rfl⟩
  |some p=>
   obtain⟨j,want⟩:=p
   simp only[hg]at h
   cases TC:tH ops j with
   |none=>simp[TC]at h
   |some d=>simp only[TC]at h;injection h with h;subst h;exact⟨rfl,rfl,df,d,TC,rfl⟩
 ·cases h
theorem qj{ops:Array Oper}{au:Array Bool}(tN:∀k,k<ops.size->∀j∈bI ops k,j<k)(hs:au.size=ops.size)(hr:Region.ready .any ops au=[]):∀k,k<ops.size->au.getD k false=true:=by
 intro k
 induction k using Nat.strongRecOn with
 |_ k ih=>
  intro hk
  cases hl:au.getD k false with
  |true=>rfl
  |false=>
   have:k∈Region.ready .any ops au:=by
    refine mem_ready.2 ⟨?_,ops[k],by simp[hk],fun e he hb=> ?_⟩
    ·simp only[Array.getD_eq_getD_getElem?]at hl|-
     rw[Array.getElem?_eq_getElem (by omega)]at hl|-
     simpa using hl
    ·have hm:e.on∈bI ops k:=by
      simp only[bI,Array.getElem?_eq_getElem hk,List.mem_map,List.mem_filter]
      exact⟨e,⟨Array.mem_toList_iff.2 he,hb⟩,rfl⟩
     exact ih _ (tN k hk _ hm) (by have:=tN k hk _ hm;omega)
   rw[hr]at this;cases this
theorem CX(hs:cq M cS H0 w0 n cx φ s a w):cq M cS H0 w0 n cx φ s a {w with drawn:=w.drawn+1}:=by
 obtain⟨k1,k2⟩:=gG (w':={w with drawn:=w.drawn+1}) hs.heap ⟨rfl,rfl,rfl,Nat.le_refl _,fun _ _ _=>rfl⟩
 exact⟨k1,hs.tr.trans k2,hs.size,hs.defers.mono k2,fun i=>V.aT k2 _ _ (hs.env i)⟩
theorem lj{oc:Nat->bZ}{ac:Nat->fL}{E:Nat->Bool}:∀k,(eR oc ac E s k).nx=s.nx
 |0=>rfl
 |k+1=>by
  simp only[eR]
  split
  ·cases ac k<;>exact lj k
  ·exact lj k
theorem Hq{oc:Nat->bZ}{ac:Nat->fL}{E:Nat->Bool}{t:Nat}:∀k,(∀j,j<k->(oc j).dst≠some t)->(eR oc ac E s k).env t=s.env t
 |0,_=>rfl
 |k+1,h=>by
  have ih:=Hq (oc:=oc) (ac:=ac) (E:=E) (t:=t) k fun j hj=>h j af
  simp only[eR]
  split
  ·rw[lD fun d hd e=>h k (by omega) (by rw[hd,e])];exact ih
  ·exact ih
theorem TE{oc:Nat->bZ}{ac:Nat->fL}{E:Nat->Bool}{id:Nat}:∀k,(∀j,j<k->id∉lC (ac j))->(eR oc ac E s k).o id=s.o id
 |0,_=>rfl
 |k+1,h=>by
  have ih:=TE (oc:=oc) (ac:=ac) (E:=E) (id:=id) k fun j hj=>h j af
  simp only[eR]
  split
  ·rw[nO (h k (by omega))];exact ih
  ·exact ih
theorem CY(bn:P.follows .mixedOrders=true){ops:Array Oper}{l:List bZ}{id:Nat}(sV:lO n ops ops.toList=some l)(tN:∀k,k<ops.size->∀j∈bI ops k,j<k){ac:Nat->fL}{dl wl:List Nat}
 (hs:cq M cS H0 w0 n cx φ s a w) (Wg:∀i,i<ops.size->TD P (eR (cf l) ac (fun _=>true) s i) (s.nx+i) (cf l i) (ac i))
 (JO:∀i,i<ops.size->ac i= .eA->∃j∈bI ops i,(ac j).ok=false)
 {po:Nat->Nat->Prop} (Hr:∀E:Nat->Bool,(∀k,k<ops.size->E k=true->∀j∈bI ops k,E j=true)->∀k,k<ops.size->(∀j∈bI ops k,E j=true)->∀j,po k j->E j=true) (CZ:∀k,k<ops.size->∀j,po k j->j<k)
 (hc:∀i j,i<j->j<ops.size-> ¬po j i->Compat (cf l) ac (fun i=>xW (ac i)) i j)
 (hdl:∀i,i<ops.size->∀t,(cf l i).dst=some t->dl.contains t=true) (hwl:∀i,i<ops.size->∀id∈lC (ac i),wl.contains id=true)
 (Qa:∀i v ws rd,i<ops.size->ac i= .bN v ws rd->∀id∈ws,wl.contains id=true)
 (hQ:(∀i,i<ops.size->(ac i).ok=true)->∀φ a w,cq M cS H0 w0 n cx φ ⟨(eR (cf l) ac (fun _=>true) s ops.size).env,(eR (cf l) ac (fun _=>true) s ops.size).o,s.nx+ops.size⟩ a w->Q .normal a w)
 (hX:∀i v ws rd,i<ops.size->ac i= .bN v ws rd->∀φ a w val,cq M cS H0 w0 n cx φ (vZ dl wl ops.size s) a w->V.den (aq M φ (vZ dl wl ops.size s).H) φ (vZ dl wl ops.size s).H w v val->Q (.panic [{v:=val,recovered:=false}]) a w):
 (Code.region id ops true).wpIn (dT ro) k P Q a w:=by
 refine wpIn_region_any bn ?_
 have hs:=CX hs
 generalize ({w with drawn:=w.drawn+1}:World)=w at hs
 let N:=ops.size
 let Ef (au:Array Bool) (k:Nat):Bool:=au.getD k false
 let GX (au:Array Bool) (j:Nat):Prop:=j<s.nx\/∃k,k<N/\Ef au k=true/\j=s.nx+k
 have key:∀ (fuel:Nat) (au:Array Bool) (φ:Place) (a:Act) (w:World),au.size=N->au.count true+fuel=N->(∀k,k<N->Ef au k=true->∀j∈bI ops k,Ef au j=true)->(∀k,k<N->Ef au k=true->(ac k).ok=true)->
  uH M cS H0 w0 n cx φ (eR (cf l) ac (Ef au) s N) (GX au) a w->wpAnyIn (dT ro) k P .any ops Q fuel au a w:=by
  have fin:∀ (au:Array Bool) (φ:Place) (a:Act) (w:World),(∀k,k<N->Ef au k=true)->(∀k,k<N->Ef au k=true->(ac k).ok=true)->uH M cS H0 w0 n cx φ (eR (cf l) ac (Ef au) s N) (GX au) a w->Q .normal a w:=by
   intro au φ a w bf Fy hu
   have e:∀k,k<=N->eR (cf l) ac (Ef au) s k=eR (cf l) ac (fun _=>true) s k:=by
    intro k
    induction k with
    |zero=>intro _;rfl
    |succ k ih=>intro hk;simp only[eR,bf k (by omega),ih (by omega)]
   rw[e N (Nat.le_refl _)]at hu
   obtain⟨k1,k2⟩:=kL (us':=fun id=>id<s.nx+N) hu.heap (fun id h=>by
    show id<s.nx+N
    rcases h with h|⟨k,hk,_,rfl⟩<;>omega)
   exact hQ (fun i hi=>Fy i hi (bf i hi)) φ a w ⟨k1,hu.tr.trans k2,hu.size,hu.defers.mono k2,fun i=>V.aT k2 _ _ (hu.env i)⟩
  intro fuel
  induction fuel with
  |zero=>
   intro au φ a w eB JP su Fy hu
   have bf:∀k,k<N->Ef au k=true:=by
    intro k hk
    have h1:au.count true=au.size:=af
    rw[Array.count_eq_size]at h1
    have:=h1 au[k] (Array.getElem_mem af)
    simp only[Ef,Array.getD_eq_getD_getElem?]
    rw[Array.getElem?_eq_getElem (by omega)]
    simpa using this.symm
   refine⟨?_,fin au φ a w bf Fy hu⟩
   rw[List.eq_nil_iff_forall_not_mem]
   intro k hk
   obtain⟨h1,o,h2,_⟩:=mem_ready.1 hk
   have hkN:k<N:=(Array.getElem?_eq_some_iff.1 h2).1
   have:=bf k hkN
   simp only[Ef,Array.getD_eq_getD_getElem?]at this h1
   rw[Array.getElem?_eq_getElem (by omega)]at this h1
   simp only[Option.getD_some]at this h1
   rw[this]at h1;cases h1
  |succ fuel ih=>
   intro au φ a w eB JP su Fy hu
   refine⟨fun hr=>fin au φ a w (qj tN eB hr) Fy hu,fun i hi=> ?_⟩
   obtain⟨h1,o,h2,h3⟩:=mem_ready.1 hi
   have uI:i<N:=(Array.getElem?_eq_some_iff.1 h2).1
   have kz:Ef au i=false:=by
    simp only[Ef,Array.getD_eq_getD_getElem?]at h1|-
    rw[Array.getElem?_eq_getElem (by omega)]at h1|-
    simpa using h1
   have Mv:∀j∈bI ops i,Ef au j=true:=by
    exact VR
   have Mx:A0 N po (Ef au):=fun k hk jB=>Hr _ su k hk (su k hk jB)
   obtain⟨ag1,ag2⟩:=agree (s:=s) CZ hc Mx uI kz (Hr _ su i uI Mv)
   obtain⟨g1,g2,g3,g4⟩:=zh (v8 _ _ i o sV yr)
   have c9: ¬GX au (s.nx+i):=by
    rintro(h|⟨k,_,hk,he⟩)
    ·omega
    ·have:k=i:=af
     subst this;rw[kz]at hk;cases hk
   have Fx:∀k,Ef (au.setIfInBounds i true) k=(Ef au k||k==i):=by
    intro k
    simp only[Ef,Array.getD_eq_getD_getElem?]
    by_cases e:k=i
    ·subst e;simp[eB,uI]
    ·rw[Array.getElem?_setIfInBounds_ne (Ne.symm e)]
     have:(k==i)=false:=by simpa using e
     simp[this]
   have Wh:=insert (s:=s) hc Mx uI kz Fx
   have Wi:∀k,k<N->Ef (au.setIfInBounds i true) k=true->∀j∈bI ops k,Ef (au.setIfInBounds i true) j=true:=by
    intro k hk jB j hj
    rw[Fx]at jB|-
    by_cases e:k=i
    ·subst e;simp[Mv j hj]
    ·have:(k==i)=false:=by simpa using e
     rw[this,Bool.or_false]at jB
     simp[su k hk jB j hj]
   have My:(au.setIfInBounds i true).count true+fuel=N:=by
    have cu:i<au.size:=af
    have e1:au.setIfInBounds i true=au.set i true cu:=by simp[Array.setIfInBounds,cu]
    have e2:au[i]=false:=by
     have:=kz
     simp only[Ef,Array.getD_eq_getD_getElem?]at this
     rw[Array.getElem?_eq_getElem cu]at this
     simpa using this
    rw[e1,Array.count_set cu,e2]
    simp
    omega
   have jA:(ac i).ok=true->∀aJ a' w',uH M cS H0 w0 n cx aJ (xG o.dst (ac i) (eR (cf l) ac (Ef au) s N)) (fun id=>GX au id\/id=s.nx+i) a' w'->wpAnyIn (dT ro) k P .any ops Q fuel (au.setIfInBounds i true) a' w':=by
    intro ab4 aJ a' w' BZ
    refine ih _ aJ a' w' (by simp[eB]) My Wi (fun k hk jB=> ?_) ?_
    ·rw[Fx]at jB
     by_cases e:k=i
     ·subst e;exact ab4
     ·have:(k==i)=false:=by simpa using e
      rw[this,Bool.or_false]at jB
      exact Fy k hk jB
    rw[Wh,g2]
    obtain⟨k1,k2⟩:=kL (us':=GX (au.setIfInBounds i true)) BZ.heap (fun id h=>by
     rcases h with(h|⟨k,hk,jB,rfl⟩)|rfl
     ·exact .inl h
     ·exact .inr ⟨k,hk,by rw[Fx,jB];rfl,rfl⟩
     ·exact .inr ⟨i,uI,by rw[Fx];simp,rfl⟩)
    exact aaX
   have JQ:∀d want,(cf l i).gd=some (d,want)->(eR (cf l) ac (Ef au) s N).env d=(eR (cf l) ac (fun _=>true) s i).env d:=fun d want hd=>ag1 d (by simp[fE,tmpsOf,hd])
   have aY:=Wg i uI
   have LP:∀x∈(cf l i).op.operands,(eR (cf l) ac (Ef au) s N).ev x=(eR (cf l) ac (fun _=>true) s i).ev x:=fun x hx=>CV fun t ht=>ag1 t (by
    subst ht
    simp only[fE,tmpsOf,List.mem_append,List.mem_filterMap]
    exact .inl (.inl ⟨.tmp t,Array.mem_toList_iff.2 hx,rfl⟩))
   have V1:(eR (cf l) ac (Ef au) s N).nx=(eR (cf l) ac (fun _=>true) s i).nx:=(lj N).trans (lj i).symm
   unfold wpOpIn
   simp only[h2]
   cases xF:ac i with
   |skip=>
    rw[xF]at aY jA
    have hw:=gf hu.env g4 (gh JQ aY)
    simp only[hw,Bool.false_eq_true,if_false]
    refine⟨fun _ _=>trivial,jA rfl φ _ w ?_⟩
    have:=jT (v:= .bW []) (val:=undef) hu hu.heap (Trans.refl _ _ _) ⟨#[],rfl,rfl⟩ (dst:=o.dst) g3 rfl (us':=fun id=>GX au id\/id=s.nx+i) (fun id h=> .inl h)
    exact this
   |val v Δ rd=>
    rw[xF]at aY jA
    have hw:=gf hu.env g4 (gh JQ aY.1)
    exact abw
   |bN v ws rd=>
    rw[xF]at aY
    have hw:=gf hu.env g4 (gh JQ aY.1)
    simp only[hw,if_true]
    have kB:=CW LP (fun id ax=>ag2 id (by rw[xF];exact ax)) V1 aY.2
    refine Mw (s0:=s) (ds:=dl) (wl:=wl) (N:=N) hu (fun id h=> .inl (by rw[lj]at h;exact h)) (fun id h=> ?_) g1.symm kB (fun t ht=> ?_) (fun id ax=> ?_) (Qa i v ws rd uI xF) (lj N).symm (fun aJ w' val h1 h2=>hX i v ws rd uI xF aJ a w' val h1 h2)
    ·rw[lj]
     rcases h with h|⟨k,hk,_,rfl⟩<;>omega
    ·refine Hq N fun j hj e=> ?_
     have:=hdl j hj t e
     rw[ht]at this;cases this
    ·refine TE N fun j hj hm=> ?_
     have:=hwl j hj id hm
     rw[ax]at this;cases this
   |eA=>
    exfalso
    obtain⟨j,hj,Wj⟩:=JO i uI xF
    have:=Fy j (Nat.lt_trans (tN i uI j hj) uI) (Mv j hj)
    rw[Wj]at this;cases this
 refine key ops.size _ φ a w (by simp[N]) (by simp[N,Array.count_replicate]) (fun k hk jB=> ?_) (fun k hk jB=> ?_) ?_
 ·exact zw8
 ·exact zw8
 ·have e:∀k,eR (cf l) ac (Ef (Array.replicate ops.size false)) s k=s:=by
   intro k
   induction k with
   |zero=>rfl
   |succ k ih=>
    have:Ef (Array.replicate ops.size false) k=false:=by
     exact SW
    simp only[eR,this,ih]
    rfl
  exact abE
end
end
section
section
variable {P:Program}{M:Nat->Prop}{φ cS:Place}{H0:Hp}{w w' w0:World}{n:Nat}{s:S}{us:Nat->Prop}{a:Act}{cx:Cx}{ro:Option Nat}{k:Nat}
variable {Q:Exit->Act->World->Prop}
theorem JR{ops:Array Oper}{po:Nat->Nat->Prop}{m:Nat}{X:V->S->Prop}{K:S->Prop}
 (tN:∀k,k<ops.size->∀j∈bI ops k,j<k)
 (Hr:∀E:Nat->Bool,(∀k,k<ops.size->E k=true->∀j∈bI ops k,E j=true)->∀k,k<ops.size->(∀j∈bI ops k,E j=true)->∀j,po k j->E j=true)
 (Hs:∀k,m<=k->k<ops.size->∀j,j<k->po k j)
 (hK:∀s φ a w,K s->cq M cS H0 w0 n cx φ s a w->Q .normal a w)
 (hX:∀v s' aJ a' w' val,X v s'->cq M cS H0 w0 n cx aJ s' a' w'->V.den (aq M aJ s'.H) aJ s'.H w' v val->Q (.panic [{v:=val,recovered:=false}]) a' w'):
 ∀ (d t:Nat) (s:S) (φ:Place) (au:Array Bool) (a:Act) (w:World),t+d=ops.size->au.size=ops.size->(∀k,k<ops.size->au.getD k false=decide (k<t))->m<=t->
   cq M cS H0 w0 n cx φ s a w->AD P n ops X K (ops.toList.drop t) s->wpAnyIn (dT ro) k P .any ops Q d au a w:=by
 intro d
 induction d with
 |zero=>
  intro t s φ au a w ht eB hl KT hs h
  have e:t=ops.size:=af
  subst e
  refine⟨?_, ?_⟩
  ·rw[List.eq_nil_iff_forall_not_mem]
   intro j hj
   obtain⟨h1,o,h2,_⟩:=mem_ready.1 hj
   have hjN:j<ops.size:=(Array.getElem?_eq_some_iff.1 h2).1
   have:=hl j hjN
   simp only[Array.getD_eq_getD_getElem?]at this h1
   rw[Array.getElem?_eq_getElem (by omega)]at this h1
   simp only[Option.getD_some]at this h1
   rw[h1]at this
   simp[hjN]at this
  ·rw[List.drop_eq_nil_of_le (by simp)]at h
   exact hK s φ a w h hs
 |succ d ih=>
  intro t s φ au a w ht eB hl KT hs h
  have htN:t<ops.size:=af
  refine⟨fun hr=> ?_,fun i hi=> ?_⟩
  ·have:=qj tN eB hr t htN
   rw[hl t htN]at this
   simp at this
  ·obtain⟨h1,o,h2,h3⟩:=mem_ready.1 hi
   have uI:i<ops.size:=(Array.getElem?_eq_some_iff.1 h2).1
   have kz:au.getD i false=false:=by
    simp only[Array.getD_eq_getD_getElem?]at h1|-
    rw[Array.getElem?_eq_getElem (by omega)]at h1|-
    simpa using h1
   have hit:t<=i:=by
    have:=hl i uI
    rw[kz]at this
    have:=of_decide_eq_false this.symm
    omega
   have Mv:∀j∈bI ops i,au.getD j false=true:=by
    exact VR
   have su:∀k,k<ops.size->au.getD k false=true->∀j∈bI ops k,au.getD j false=true:=by
    intro k hk jB j hj
    have Td:=tN k hk j hj
    rw[hl k hk]at jB
    rw[hl j (by omega)]
    have:=of_decide_eq_true jB
    exact decide_eq_true af
   have hie:i=t:=by
    rcases Nat.eq_or_lt_of_le hit with e|e
    ·exact e.symm
    ·have:=Hr (fun k=>au.getD k false) su i uI Mv t (Hs i af uI t e)
     rw[hl t htN]at this
     simp at this
   subst hie
   have C0:ops.toList.drop i=o::ops.toList.drop (i+1):=by
    have Wb:i<ops.toList.length:=by simpa using uI
    rw[List.drop_eq_getElem_cons Wb]
    have:ops.toList[i]=o:=by
     have:=(Array.getElem?_eq_some_iff.1 h2).2
     simpa using this
    rw[this]
   rw[C0]at h
   obtain⟨g1,g2⟩:=rh hs h
   have yT:∀k,k<ops.size->(au.setIfInBounds i true).getD k false=decide (k<i+1):=by
    intro k hk
    simp only[Array.getD_eq_getD_getElem?]
    by_cases e:k=i
    ·subst e;simp[eB,uI]
    ·rw[Array.getElem?_setIfInBounds_ne (Ne.symm e)]
     have:=hl k hk
     simp only[Array.getD_eq_getD_getElem?]at this
     rw[this]
     exact decide_eq_decide.2 af
   have jA:∀s' aJ a' w',AD P n ops X K (ops.toList.drop (i+1)) s'->cq M cS H0 w0 n cx aJ s' a' w'->wpAnyIn (dT ro) k P .any ops Q d (au.setIfInBounds i true) a' w':=
    fun s' aJ a' w' hk jU=>ih (i+1) s' aJ _ a' w' af (by simp[eB]) yT af jU hk
   unfold wpOpIn
   simp only[h2]
   split
   ·rename_i hw
    exact yX hs (g1 hw) (fun s' aJ a' w' hk jU=>jA s' aJ a' w' hk jU) (fun v s' aJ w' val hx jU hd=>hX v s' aJ a w' val hx jU hd)
   ·rename_i hw
    obtain⟨df,h3⟩:=g2 (by simpa using hw)
    exact⟨fun _ _=>trivial,jA _ _ _ _ h3 (CH hs df)⟩
theorem Fz(bn:P.follows .mixedOrders=true){ops:Array Oper}{l:List bZ}{id:Nat}(sV:lO n ops ops.toList=some l)(tN:∀k,k<ops.size->∀j∈bI ops k,j<k){ac:Nat->fL}{m:Nat}(hm:m<=ops.size){X:V->S->Prop}{K:S->Prop}
 (hs:cq M cS H0 w0 n cx φ s a w) (Wg:∀i,i<m->TD P (eR (cf l) ac (fun _=>true) s i) (s.nx+i) (cf l i) (ac i))
 (ab5:∀i,i<m->(ac i).ok=true)
 {po:Nat->Nat->Prop} (Hr:∀E:Nat->Bool,(∀k,k<ops.size->E k=true->∀j∈bI ops k,E j=true)->∀k,k<ops.size->(∀j∈bI ops k,E j=true)->∀j,po k j->E j=true) (CZ:∀k,k<ops.size->∀j,po k j->j<k)
 (hc:∀i j,i<j->j<m-> ¬po j i->Compat (cf l) ac (fun i=>xW (ac i)) i j)
 (Hs:∀k,m<=k->k<ops.size->∀j,j<k->po k j)
 (eL:AD P n ops X K (ops.toList.drop m) ⟨(eR (cf l) ac (fun _=>true) s m).env,(eR (cf l) ac (fun _=>true) s m).o,s.nx+m⟩)
 (hK:∀s φ a w,K s->cq M cS H0 w0 n cx φ s a w->Q .normal a w)
 (hX:∀v s' aJ a' w' val,X v s'->cq M cS H0 w0 n cx aJ s' a' w'->V.den (aq M aJ s'.H) aJ s'.H w' v val->Q (.panic [{v:=val,recovered:=false}]) a' w'):
 (Code.region id ops true).wpIn (dT ro) k P Q a w:=by
 refine wpIn_region_any bn ?_
 have hs:=CX hs
 generalize ({w with drawn:=w.drawn+1}:World)=w at hs
 let N:=m
 let Ef (au:Array Bool) (k:Nat):Bool:=au.getD k false
 let GX (au:Array Bool) (j:Nat):Prop:=j<s.nx\/∃k,k<N/\Ef au k=true/\j=s.nx+k
 have key:∀ (fuel:Nat) (au:Array Bool) (φ:Place) (a:Act) (w:World),au.size=ops.size->au.count true+fuel=ops.size->(∀k,k<ops.size->Ef au k=true->∀j∈bI ops k,Ef au j=true)->(∀k,k<ops.size->Ef au k=true->k<m)->
  uH M cS H0 w0 n cx φ (eR (cf l) ac (Ef au) s N) (GX au) a w->wpAnyIn (dT ro) k P .any ops Q fuel au a w:=by
  have fin:∀ (fuel:Nat) (au:Array Bool) (φ:Place) (a:Act) (w:World),au.size=ops.size->au.count true+fuel=ops.size->(∀k,k<ops.size->Ef au k=true->k<m)->(∀k,k<N->Ef au k=true)->uH M cS H0 w0 n cx φ (eR (cf l) ac (Ef au) s N) (GX au) a w->wpAnyIn (dT ro) k P .any ops Q fuel au a w:=by
   intro fuel au φ a w eB JP cu bf hu
   have e:∀k,k<=N->eR (cf l) ac (Ef au) s k=eR (cf l) ac (fun _=>true) s k:=by
    intro k
    induction k with
    |zero=>intro _;rfl
    |succ k ih=>intro hk;simp only[eR,bf k (by omega),ih (by omega)]
   rw[e N (Nat.le_refl _)]at hu
   obtain⟨k1,k2⟩:=kL (us':=fun id=>id<s.nx+N) hu.heap (fun id h=>by
    show id<s.nx+N
    rcases h with h|⟨k,hk,_,rfl⟩<;>omega)
   have hlv:∀k,k<ops.size->au.getD k false=decide (k<m):=by
    intro k hk
    by_cases h:k<m
    ·rw[decide_eq_true h];exact bf k h
    ·rw[decide_eq_false h]
     cases hb:au.getD k false with
     |false=>rfl
     |true=>exact absurd (cu k hk hb) h
   have hcm:au.count true=m:=by
    have e1:au=Array.ofFn (n:=ops.size) fun k=>decide (k.1<m):=by
     apply Array.ext
     ·simp[eB]
     ·intro k h1 h2
      have:=hlv k af
      simp only[Array.getD_eq_getD_getElem?]at this
      rw[Array.getElem?_eq_getElem h1]at this
      simpa using this
    have e2:au.toList=List.replicate m true++List.replicate (ops.size - m) false:=by
     apply List.ext_getElem?
     intro k
     by_cases hk:k<ops.size
     ·have h1:au.toList[k]? =some (decide (k<m)):=by
       have:=hlv k hk
       simp only[Array.getD_eq_getD_getElem?]at this
       rw[Array.getElem?_eq_getElem (by omega)]at this
       simp only[Option.getD_some]at this
       rw[Array.getElem?_toList,Array.getElem?_eq_getElem (by omega),this]
      rw[h1]
      by_cases h:k<m
      ·rw[List.getElem?_append_left (by simpa using h)]
       simp[h]
      ·rw[List.getElem?_append_right (by simpa using(by omega:m<=k))]
       rw[List.length_replicate,List.getElem?_replicate,if_pos (by omega),decide_eq_false h]
     ·rw[List.getElem?_eq_none (by simp[eB];omega),List.getElem?_eq_none (by simp;omega)]
    rw[<- Array.count_toList,e2,List.count_append,List.count_replicate_self,List.count_replicate]
    simp
   exact JR tN Hr Hs hK hX fuel m ⟨(eR (cf l) ac (fun _=>true) s m).env,(eR (cf l) ac (fun _=>true) s m).o,s.nx+m⟩ φ au a w af eB hlv (Nat.le_refl _) ⟨k1,hu.tr.trans k2,hu.size,hu.defers.mono k2,fun i=>V.aT k2 _ _ (hu.env i)⟩ eL
  intro fuel
  induction fuel with
  |zero=>
   intro au φ a w eB JP su cu hu
   have bf:∀k,k<ops.size->Ef au k=true:=by
    intro k hk
    have h1:au.count true=au.size:=af
    rw[Array.count_eq_size]at h1
    have:=h1 au[k] (Array.getElem_mem af)
    simp only[Ef,Array.getD_eq_getD_getElem?]
    rw[Array.getElem?_eq_getElem (by omega)]
    simpa using this.symm
   exact fin 0 au φ a w eB JP cu (fun k hk=>bf k af) hu
  |succ fuel ih=>
   intro au φ a w eB JP su cu hu
   by_cases TF:∀k,k<m->Ef au k=true
   ·exact fin (fuel+1) au φ a w eB JP cu TF hu
   have hex:∃j,j<m/\Ef au j=false:=by
    apply Classical.byContradiction
    intro nk
    refine TF fun k hk=> ?_
    cases hb:Ef au k with
    |true=>rfl
    |false=>exact absurd ⟨k,hk,hb⟩ nk
   obtain⟨j0,hj0,ab6⟩:=hex
   refine⟨fun hr=> ?_,fun i hi=> ?_⟩
   ·have:=qj tN eB hr j0 af
    rw[show au.getD j0 false=false from ab6]at this
    cases this
   obtain⟨h1,o,h2,h3⟩:=mem_ready.1 hi
   have hiS:i<ops.size:=(Array.getElem?_eq_some_iff.1 h2).1
   have kz:Ef au i=false:=by
    simp only[Ef,Array.getD_eq_getD_getElem?]at h1|-
    rw[Array.getElem?_eq_getElem (by omega)]at h1|-
    simpa using h1
   have Mv:∀j∈bI ops i,Ef au j=true:=by
    exact VR
   have uI:i<N:=by
    apply Classical.byContradiction
    intro yK
    have yK:m<=i:=Nat.le_of_not_lt yK
    have:=Hr _ su i hiS Mv j0 (Hs i yK hiS j0 af)
    rw[ab6]at this;cases this
   have Mx:A0 N po (Ef au):=fun k hk jB=>Hr _ su k af (su k af jB)
   obtain⟨ag1,ag2⟩:=agree (s:=s) (n:=N) (fun k hk=>CZ k af) hc Mx uI kz (Hr _ su i af Mv)
   obtain⟨g1,g2,g3,g4⟩:=zh (v8 _ _ i o sV yr)
   have c9: ¬GX au (s.nx+i):=by
    rintro(h|⟨k,_,hk,he⟩)
    ·omega
    ·have:k=i:=af
     subst this;rw[kz]at hk;cases hk
   have Fx:∀k,Ef (au.setIfInBounds i true) k=(Ef au k||k==i):=by
    intro k
    simp only[Ef,Array.getD_eq_getD_getElem?]
    by_cases e:k=i
    ·subst e;simp[eB,hiS]
    ·rw[Array.getElem?_setIfInBounds_ne (Ne.symm e)]
     have:(k==i)=false:=by simpa using e
     simp[this]
   have Wh:=insert (s:=s) hc Mx uI kz Fx
   have Wi:∀k,k<ops.size->Ef (au.setIfInBounds i true) k=true->∀j∈bI ops k,Ef (au.setIfInBounds i true) j=true:=by
    intro k hk jB j hj
    rw[Fx]at jB|-
    by_cases e:k=i
    ·subst e;simp[Mv j hj]
    ·have:(k==i)=false:=by simpa using e
     rw[this,Bool.or_false]at jB
     simp[su k hk jB j hj]
   have My:(au.setIfInBounds i true).count true+fuel=ops.size:=by
    have cu:i<au.size:=af
    have e1:au.setIfInBounds i true=au.set i true cu:=by simp[Array.setIfInBounds,cu]
    have e2:au[i]=false:=by
     have:=kz
     simp only[Ef,Array.getD_eq_getD_getElem?]at this
     rw[Array.getElem?_eq_getElem cu]at this
     simpa using this
    rw[e1,Array.count_set cu,e2]
    simp
    omega
   have jA:(ac i).ok=true->∀aJ a' w',uH M cS H0 w0 n cx aJ (xG o.dst (ac i) (eR (cf l) ac (Ef au) s N)) (fun id=>GX au id\/id=s.nx+i) a' w'->wpAnyIn (dT ro) k P .any ops Q fuel (au.setIfInBounds i true) a' w':=by
    intro ab4 aJ a' w' BZ
    refine ih _ aJ a' w' (by simp[eB]) My Wi (fun k hk jB=> ?_) ?_
    ·rw[Fx]at jB
     by_cases e:k=i
     ·subst e;exact uI
     ·have:(k==i)=false:=by simpa using e
      rw[this,Bool.or_false]at jB
      exact cu k hk jB
    rw[Wh,g2]
    obtain⟨k1,k2⟩:=kL (us':=GX (au.setIfInBounds i true)) BZ.heap (fun id h=>by
     rcases h with(h|⟨k,hk,jB,rfl⟩)|rfl
     ·exact .inl h
     ·exact .inr ⟨k,hk,by rw[Fx,jB];rfl,rfl⟩
     ·exact .inr ⟨i,uI,by rw[Fx];simp,rfl⟩)
    exact aaX
   have JQ:∀d want,(cf l i).gd=some (d,want)->(eR (cf l) ac (Ef au) s N).env d=(eR (cf l) ac (fun _=>true) s i).env d:=fun d want hd=>ag1 d (by simp[fE,tmpsOf,hd])
   have aY:=Wg i uI
   have LP:∀x∈(cf l i).op.operands,(eR (cf l) ac (Ef au) s N).ev x=(eR (cf l) ac (fun _=>true) s i).ev x:=fun x hx=>CV fun t ht=>ag1 t (by
    subst ht
    simp only[fE,tmpsOf,List.mem_append,List.mem_filterMap]
    exact .inl (.inl ⟨.tmp t,Array.mem_toList_iff.2 hx,rfl⟩))
   have V1:(eR (cf l) ac (Ef au) s N).nx=(eR (cf l) ac (fun _=>true) s i).nx:=(lj N).trans (lj i).symm
   unfold wpOpIn
   simp only[h2]
   cases xF:ac i with
   |skip=>
    rw[xF]at aY jA
    have hw:=gf hu.env g4 (gh JQ aY)
    simp only[hw,Bool.false_eq_true,if_false]
    refine⟨fun _ _=>trivial,jA rfl φ _ w ?_⟩
    have:=jT (v:= .bW []) (val:=undef) hu hu.heap (Trans.refl _ _ _) ⟨#[],rfl,rfl⟩ (dst:=o.dst) g3 rfl (us':=fun id=>GX au id\/id=s.nx+i) (fun id h=> .inl h)
    exact this
   |val v Δ rd=>
    rw[xF]at aY jA
    have hw:=gf hu.env g4 (gh JQ aY.1)
    exact abw
   |bN v ws rd=>
    have:=ab5 i uI
    rw[xF]at this;cases this
   |eA=>
    have:=ab5 i uI
    rw[xF]at this;cases this
 refine key ops.size _ φ a w aE (by simp[Array.count_replicate]) (fun k hk jB=> ?_) (fun k hk jB=> ?_) ?_
 ·exact zw8
 ·exact zw8
 ·have e:∀k,eR (cf l) ac (Ef (Array.replicate ops.size false)) s k=s:=by
   intro k
   induction k with
   |zero=>rfl
   |succ k ih=>
    have:Ef (Array.replicate ops.size false) k=false:=by
     exact SW
    simp only[eR,this,ih]
    rfl
  exact abE
end
end
end Go.Proofs.YtlhemmpklhhgoaaGreat
