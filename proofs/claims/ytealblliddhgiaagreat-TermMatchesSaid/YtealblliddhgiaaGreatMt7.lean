/-
  A PART OF THE PROOF. Conditions: none.
-/
import Derived.OrdersIn
import Derived.Test.YtealblliddhgiaaGreatMt6
set_option linter.unusedSimpArgs false
set_option linter.unusedVariables false
namespace Go.Proofs.YtealblliddhgiaaGreat
def ab.refs:ab->List Nat
 | .row cs=>V.ah cs
 | .loop _ _ env _ _ _ _ _=>V.ah env
 |_=>[]
def B2(R:List Nat)(o:Nat->ab):Nat->ab:=fun id=>if R.contains id=true then o id else .no
def wA(P:Program)(g:FuncId)(args:List V)(rd:List Nat)(o:Nat->ab)(out:R)(Δ:List (Nat×ab)):Prop:=
 Enters P g/\∀ (o':Nat->ab) (us:Nat->Prop) (M:Nat->Prop) (φ:Place) (w:World) (vals:Array Value),(∀id∈rd,o' id=o id/\us id)->az M φ ⟨o',us⟩ w->V.aF (aj M φ ⟨o',us⟩) φ ⟨o',us⟩ w args vals.toList->
  Calls P g vals w fun e w'=>∃aB,az M aB ⟨put o' Δ,us⟩ w'/\Trans φ ⟨o',us⟩ w aB ⟨put o' Δ,us⟩ w'/\out.is (aj M aB ⟨put o' Δ,us⟩) w' e
def AV(P:Program)(g:FuncId)(args:List V)(rd:List Nat)(o:Nat->ab)(fr:Nat)(v:V)(Δ:List (Nat×ab)):Prop:=
 Enters P g/\∀ (o':Nat->ab) (us:Nat->Prop) (M:Nat->Prop) (φ:Place) (w:World) (vals:Array Value),(∀id∈rd,o' id=o id/\us id)-> ¬us fr->az M φ ⟨o',us⟩ w->V.aF (aj M φ ⟨o',us⟩) φ ⟨o',us⟩ w args vals.toList->
  Calls P g vals w fun e w'=>∃aB,az M aB ⟨put o' Δ,fun id=>us id\/id=fr⟩ w'/\Trans φ ⟨o',us⟩ w aB ⟨put o' Δ,fun id=>us id\/id=fr⟩ w'/\∃val,e= .returned val/\V.den (aj M aB ⟨put o' Δ,fun id=>us id\/id=fr⟩) aB ⟨put o' Δ,fun id=>us id\/id=fr⟩ w' v val
mutual
theorem V.kA {B B':Nat->Prop}{φ aB:Place}{H H':Hp}{w:World}(hB:∀b, ¬B b-> ¬B' b):∀ (v:V) (val:Value),(∀id∈v.refs,H'.o id=H.o id/\aB id=φ id/\H'.us id)->V.den B φ H w v val->V.den B' aB H' w v val
 | .d x,val,_,h=>D.aG (w:=w) (w':=w) (fun b _ hn=>⟨rfl,hB b hn⟩) x val h
 | .br,_,_,h=>h
 | .af,_,_,_=>trivial
 | .eK,_,_,h=>h
 | .nC es,val,_,h=>⟨D.aG (w:=w) (w':=w) (fun b _ hn=>⟨rfl,hB b hn⟩) (.sl es) val h.1,h.2⟩
 | .agg cs,val,hr,h=>by
   obtain⟨a,rfl,h1,h2⟩:=h
   exact⟨a,rfl,V.eT hB cs _ (by simpa[V.refs]using hr) h1,h2⟩
 | .bU cs,val,hr,h=>by
   obtain⟨a,rfl,h1⟩:=h
   exact⟨a,rfl,V.eT hB cs _ (by simpa[V.refs]using hr) h1⟩
 | .ptr id off,val,hr,h=>by
   obtain⟨a,b,c⟩:=hr id (by simp[V.refs])
   obtain⟨h0,h1,h2⟩:=h
   refine⟨h0,c,fun bF=> ?_⟩
   rw[a]at bF
   obtain⟨x,y,z⟩:=h2 bF
   exact⟨x,b.trans y,z⟩
 | .osl id ep,val,hr,h=>by
   obtain⟨a,b,c⟩:=hr id (by simp[V.refs])
   obtain⟨h0,h1,h2⟩:=h
   refine⟨h0,c,fun e he=> ?_⟩
   rw[a]at he
   obtain⟨x,y⟩:=h2 e he
   exact⟨x,fun heq=>(y heq).trans b.symm⟩
 | .pe id ep i sz off,val,hr,h=>by
   obtain⟨a,b,c⟩:=hr id (by simp[V.refs])
   obtain⟨h0,h1,h2⟩:=h
   refine⟨h0,c,fun e he=> ?_⟩
   rw[a]at he
   obtain⟨x,y⟩:=h2 e he
   refine⟨x,fun heq=> ?_⟩
   obtain⟨p,q,r,z,u⟩:=y heq
   exact⟨p,q,r,b.trans z,u⟩
 | .pp cs off,val,_,h=>by
   obtain⟨a,ev,h1,h2,h3,h5,h4⟩:=h
   exact⟨a,ev,h1,h2,D.aJ (w:=w) (w':=w) (fun b _ hn=>⟨rfl,hB b hn⟩) cs ev h3,h5,h4.mono (w:=w) (w':=w) (fun b _ hn=>⟨rfl,hB b hn⟩)⟩
 | .func fn first cap,val,hr,h=>by
   obtain⟨f,c,rfl,h1,h2⟩:=h
   exact⟨f,c,rfl,V.eT hB first _ (fun id aw=>hr id (by simp[V.refs,aw])) h1,V.eT hB cap _ (fun id aw=>hr id (by simp[V.refs,aw])) h2⟩
 | .iface t x,val,hr,h=>by
   obtain⟨u,rfl,h⟩:=h
   exact⟨u,rfl,V.kA hB x u (by simpa[V.refs]using hr) h⟩
 | .rT id off n,val,hr,h=>by
   obtain⟨a,b,c⟩:=hr id (by simp[V.refs])
   obtain⟨h0,h1,h2⟩:=h
   refine⟨h0,c,fun bF=> ?_⟩
   rw[a]at bF
   obtain⟨x,y,z⟩:=h2 bF
   exact⟨x,b.trans y,z⟩
 | .mp id,val,hr,h=>by
   obtain⟨a,b,c⟩:=hr id (by simp[V.refs])
   obtain⟨h0,h1,h2⟩:=h
   refine⟨h0,c,fun bF=> ?_⟩
   rw[a]at bF
   exact(h2 bF).trans b.symm
 | .ki id,val,hr,h=>by
   obtain⟨a,b,c⟩:=hr id (by simp[V.refs])
   obtain⟨h0,h1,h2⟩:=h
   refine⟨h0,c,fun bF=> ?_⟩
   rw[a]at bF
   obtain⟨x,y,z⟩:=h2 bF
   exact⟨x,b.trans y,z⟩
theorem V.eT {B B':Nat->Prop}{φ aB:Place}{H H':Hp}{w:World}(hB:∀b, ¬B b-> ¬B' b):∀ (vs:List V) (vals:List Value),(∀id∈V.ah vs,H'.o id=H.o id/\aB id=φ id/\H'.us id)->V.aF B φ H w vs vals->V.aF B' aB H' w vs vals
 |[],_,_,h=>h
 |v::vs,_,hr,h=>by
  obtain⟨u,us,rfl,h1,h2⟩:=h
  exact⟨u,us,rfl,V.kA hB v u (fun id aw=>hr id (by simp[V.ah,aw])) h1,V.eT hB vs us (fun id aw=>hr id (by simp[V.ah,aw])) h2⟩
end
theorem DH{env:List V}{i id:Nat}(h:id∈(bq env i).refs):id∈V.ah env:=by
 unfold bq at h
 induction env generalizing i with
 |nil=>simp[V.refs]at h
 |cons v env ih=>
  cases i with
  |zero=>simp only[List.getD_cons_zero]at h;simp[V.ah,h]
  |succ i=>simp only[List.getD_cons_succ]at h;simp[V.ah,ih h]
theorem aL.refs {M M':Nat->Prop}{φ aB:Place}{H H':Hp}{w:World}{id:Nat}(hB:∀b, ¬aj M φ H b-> ¬aj M' aB H' b)(ho:H'.o id=H.o id)(dp:aB id=φ id)
 (hr:∀j∈(H.o id).refs,H'.o j=H.o j/\aB j=φ j/\H'.us j) (h:aL M φ H w id):aL M' aB H' w id:=by
 have hd:∀b,cg w b-> ¬aj M φ H b->w.heap[b]? =w.heap[b]? /\ ¬aj M' aB H' b:=fun b _ hn=>⟨rfl,hB b hn⟩
 unfold aL at*
 rw[ho]
 cases hx:H.o id with
 |no=>trivial
 |row cs=>
  simp only[hx]at h|-
  obtain⟨b,cI,ty,h1,h2,h3,h4⟩:=h
  exact⟨b,cI,ty,dp.trans h1,h2,V.eT hB cs _ (fun j hj=>hr j (by rw[hx];exact hj)) h3,h4⟩
 |arr ep ty sz es=>
  simp only[hx]at h|-
  obtain⟨h0,xs,h1,evs,h2,h3,h4⟩:=h
  exact⟨h0,xs,by rw[dp];exact h1,evs,h2,h3,D.aJ hd es evs h4⟩
 |ou ep es=>
  simp only[hx]at h|-
  rw[dp]
  exact D.aG hd (.sl es) _ h
 |map kt vt l=>
  simp only[hx]at h|-
  obtain⟨b,es,clock,h1,h2,h4,h3⟩:=h
  exact⟨b,es,clock,dp.trans h1,h2,h4,aI.mono hd l _ h3⟩
 |eY l=>
  simp only[hx]at h|-
  rw[dp]
  exact D.aG hd (.mp _ _) _ h
 |nD l last=>
  simp only[hx]at h|-
  obtain⟨b,h1,h2⟩:=h
  exact⟨b,dp.trans h1,h2.mono hd rfl⟩
 |rU s pos=>
  simp only[hx]at h|-
  obtain⟨b,h1,h2⟩:=h
  exact⟨b,dp.trans h1,h2⟩
 |loop nf n env ps kj ft st C9=>
  simp only[hx]at h|-
  obtain⟨b,r,h1,h2,h0,h3,h4,h5,h6,h7,h8,h9⟩:=h
  exact⟨b,r,dp.trans h1,h2,h0,h3,h4,h5,h6,h7,h8,fun i=>V.kA hB _ _ (fun j hj=>hr j (by rw[hx];exact DH hj)) (h9 i)⟩
section
variable {P:Program}
theorem AW{o o':Nat->ab}{Δ:List (Nat×ab)}{id:Nat}(h:o id=o' id):put o Δ id=put o' Δ id:=B3 h
where B3 {o o':Nat->ab}:∀ {Δ:List (Nat×ab)} {id:Nat},o id=o' id->put o Δ id=put o' Δ id
 |[],_,h=>h
 |x::Δ,id,h=>by
  simp only[put,List.foldl_cons]
  refine B3 (Δ:=Δ) (o:=ax o x.1 x.2) (o':=ax o' x.1 x.2) ?_
  simp only[aK]
  split
  ·rfl
  ·exact h
theorem wB{o:Nat->ab}:∀ {Δ:List (Nat×ab)} {id:Nat},(∀x∈Δ,x.1≠id)->put o Δ id=o id
 |[],_,_=>rfl
 |x::Δ,id,h=>by
  have:=wB (o:=ax o x.1 x.2) (Δ:=Δ) (id:=id) (fun y hy=>h y (by simp[hy]))
  simp only[put,List.foldl_cons]at this|-
  rw[this];simp[Ne.symm (h x (by simp))]
theorem wA.jT {g:FuncId}{args:List V}{rd:List Nat}{o:Nat->ab}{nx:Nat}{out:R}{Δ:List (Nat×ab)}(tZ:∀id∈rd,id<nx)(dV:∀id∈V.ah args,id∈rd)(lV:∀id∈rd,∀j∈(o id).refs,j∈rd)(Ls:∀x∈Δ,x.1∈rd)(Um:∀x∈Δ,∀j∈x.2.refs,j∈rd)
 (h:eR P g args (B2 rd o) nx
  (fun v o1 _=>(∀id∈rd,o1 id=put o Δ id)/\∃vs rs,v=(match vs with|[v]=>v|vs=> .bU vs)/\bW o1 vs=some rs/\out= .ret rs/\∀id∈V.bg vs,id∉rd)
  (fun v o1 _=>(∀id∈rd,o1 id=put o Δ id)/\∃x,dI o1 v=some x/\out= .bJ x/\∀id∈v.ids,id∉rd)):wA P g args rd o out Δ:=by
 refine⟨h.1,fun o' us M φ w vals ho hH hd=> ?_⟩
 let M1:Nat->Prop:=fun b=>M b\/∃id,id∉rd/\(o' id).live=true/\eA (φ id)=some b
 let HR:Hp:=hp (B2 rd o) nx
 have sJ:∀id,id∈rd->B2 rd o id=o' id:=fun id aw=>by simp[B2,aw,(ho id aw).1]
 have qI:∀id,id∉rd->B2 rd o id= .no:=fun id aw=>by simp[B2,aw]
 have hB:∀b,aj M1 φ HR b↔aj M φ ⟨o',us⟩ b:=by
  intro b
  constructor
  ·rintro((h|⟨id,h1,h2,h3⟩)|⟨id,h1,h2⟩)
   ·exact .inl h
   ·exact .inr ⟨id,h2,h3⟩
   ·by_cases aw:id∈rd
    ·exact .inr ⟨id,by show(o' id).live=true;rw[<- sJ id aw];exact h1,h2⟩
    ·have:HR.o id= .no:=qI id aw
     rw[this]at h1;cases h1
  ·rintro(h|⟨id,h1,h2⟩)
   ·exact .inl (.inl h)
   ·by_cases aw:id∈rd
    ·exact .inr ⟨id,by show(B2 rd o id).live=true;rw[sJ id aw];exact h1,h2⟩
    ·exact .inl (.inr ⟨id,aw,h1,h2⟩)
 have qy:∀id∈rd,HR.o id=o' id/\φ id=φ id/\HR.us id:=fun id aw=>⟨sJ id aw,rfl,tZ id aw⟩
 have Zk:az M1 φ HR w:=by
  refine⟨fun id=> ?_,fun id hn=> ?_,fun i j b hi hj bi bj=> ?_,fun b hb=> ?_,fun b hb=> ?_⟩
  ·by_cases aw:id∈rd
   ·refine aL.refs (H:=⟨o',us⟩) (M:=M) (φ:=φ) (fun b hn hb=>hn ((hB b).1 hb)) (sJ id aw) rfl (fun j hj=>qy j ?_) (hH.ok id)
    have:o' id=o id:=(ho id aw).1
    exact lV id aw j (by rw[<- this];exact hj)
   ·unfold aL
    rw[show HR.o id= .no from qI id aw];trivial
  ·exact qI id fun aw=>hn (tZ id aw)
  ·have live:∀i,(HR.o i).live=true->i∈rd/\(o' i).live=true:=fun i hi=>by
    by_cases aw:i∈rd
    ·exact⟨aw,by rw[<- sJ i aw];exact hi⟩
    ·rw[show HR.o i= .no from qI i aw]at hi;cases hi
   exact hH.apart i j b (live i hi).2 (live j hj).2 bi bj
  ·obtain⟨id,h1,h2⟩:=hb
   have aw:id∈rd:=by
    by_cases aw:id∈rd
    ·exact aw
    ·rw[show HR.o id= .no from qI id aw]at h1;cases h1
   rw[show HR.o id=o' id from sJ id aw]at h1
   obtain⟨k1,k2⟩:=hH.ours b ⟨id,h1,h2⟩
   refine⟨?_,k2⟩
   rintro(hM|⟨j,j1,j2,j3⟩)
   ·exact k1 hM
   ·exact j1 (hH.apart j id b j2 h1 j3 h2 ▸ aw)
  ·rcases hb with hb|⟨id,h1,h2,h3⟩
   ·exact hH.tX b hb
   ·exact(hH.ours b ⟨id,h2,h3⟩).2
 have Zl:V.aF (aj M1 φ HR) φ HR w args vals.toList:=V.eT (H:=⟨o',us⟩) (fun b hn hb=>hn ((hB b).1 hb)) _ _ (fun id aw=>qy id (dV id aw)) hd
 refine(h.2 M1 φ w vals Zk Zl).mono ?_
 rintro e w' ⟨iu,o1,xI,v,k1,k2,k3⟩
 have main:(∀id∈rd,o1 id=put o Δ id)->∃aB,az M aB ⟨put o' Δ,us⟩ w'/\Trans φ ⟨o',us⟩ w aB ⟨put o' Δ,us⟩ w'/\∀b,aj M aB ⟨put o' Δ,us⟩ b->M1 b\/∃id∈rd,(o1 id).live=true/\eA (iu id)=some b:=by
  intro kU
  have vU:∀id∈rd,put o' Δ id=o1 id:=fun id aw=>(AW (ho id aw).1).trans (kU id aw).symm
  have EC:∀id,id∉rd->put o' Δ id=o' id:=fun id aw=>wB fun x hx e=>aw (e ▸ Ls x hx)
  let DA:Place:=fun id=>if id∈rd then iu id else φ id
  have wC:∀id∈rd,DA id=iu id:=fun id aw=>if_pos aw
  have yE:∀id,id∉rd->DA id=φ id:=fun id aw=>if_neg aw
  let H2:Hp:=⟨put o' Δ,us⟩
  have bT:∀b,bS DA H2 b->(∃id∈rd,(o1 id).live=true/\eA (iu id)=some b)\/∃id,id∉rd/\(o' id).live=true/\eA (φ id)=some b:=by
   rintro b ⟨id,h1,h2⟩
   by_cases aw:id∈rd
   ·exact .inl ⟨id,aw,by rw[<- vU id aw];exact h1,by rw[<- wC id aw];exact h2⟩
   ·exact .inr ⟨id,aw,by rw[<- EC id aw];exact h1,by rw[<- yE id aw];exact h2⟩
  have S5:∀b,aj M DA H2 b->aj M1 iu (hp o1 xI) b:=by
   rintro b (hb|hb)
   ·exact .inl (.inl hb)
   ·rcases bT b hb with⟨id,h1,h2,h3⟩|⟨id,h1,h2,h3⟩
    ·exact .inr ⟨id,h2,h3⟩
    ·exact .inl (.inr ⟨id,h1,h2,h3⟩)
  have Pk:dH φ ⟨o',us⟩ DA H2:=by
   refine⟨fun id h=>h,fun id hu hr=> ?_,fun id e' hu he=> ?_⟩
   ·by_cases aw:id∈rd
    ·rw[show H2.o id=o1 id from vU id aw]at hr
     obtain⟨a,b⟩:=k2.rel.row id (tZ id aw) hr
     rw[show HR.o id=o' id from sJ id aw]at a
     exact⟨a,(wC id aw).trans b⟩
    ·rw[show H2.o id=o' id from EC id aw]at hr
     exact⟨hr,yE id aw⟩
   ·by_cases aw:id∈rd
    ·rw[show H2.o id=o1 id from vU id aw]at he
     obtain⟨e0,a,b,c⟩:=k2.rel.ep id e' (tZ id aw) he
     rw[show HR.o id=o' id from sJ id aw]at a
     exact⟨e0,a,b,fun heq=>(wC id aw).trans (c heq)⟩
    ·rw[show H2.o id=o' id from EC id aw]at he
     exact⟨e',he,Nat.le_refl _,fun _=>yE id aw⟩
  have xE:∀b,cg w b-> ¬aj M φ ⟨o',us⟩ b->w'.heap[b]? =w.heap[b]? /\ ¬aj M DA H2 b:=by
   intro b hc hn
   obtain⟨a,c⟩:=k2.blocks (M:=M1) b hc (fun hb=>hn ((hB b).1 hb))
   exact⟨a,fun hb=>c (S5 b hb)⟩
  have wh:∀b,b<w.heap.size-> ¬bS φ HR b->w'.heap[b]? =w.heap[b]? :=fun b hb hl=>k2.ck.block b hb hl
  have ht:Trans φ ⟨o',us⟩ w DA H2 w':=by
   refine⟨⟨k2.ck.os,k2.ck.tape,k2.ck.output,k2.ck.size,fun b hb hl=>wh b hb fun⟨id,h1,h2⟩=>hl ?_⟩,fun b hb=> ?_,Pk⟩
   ·by_cases aw:id∈rd
    ·exact⟨id,by show(o' id).live=true;rw[<- sJ id aw];exact h1,h2⟩
    ·rw[show HR.o id= .no from qI id aw]at h1;cases h1
   ·rcases bT b hb with⟨id,h1,h2,h3⟩|⟨id,h1,h2,h3⟩
    ·rcases k2.grow b ⟨id,h2,h3⟩with⟨j,j1,j2⟩|Aq
     ·by_cases aw:j∈rd
      ·exact .inl ⟨j,by show(o' j).live=true;rw[<- sJ j aw];exact j1,j2⟩
      ·rw[show HR.o j= .no from qI j aw]at j1;cases j1
     ·exact .inr Aq
    ·exact .inl ⟨id,h2,h3⟩
  refine⟨DA,⟨fun id=> ?_,fun id hn=> ?_,fun i j b hi hj bi bj=> ?_,fun b hb=> ?_,fun b hb=>Nat.lt_of_lt_of_le (hH.tX b hb) k2.ck.size⟩,ht,fun b hb=> ?_⟩
  ·by_cases aw:id∈rd
   ·refine aL.refs (H:=hp o1 xI) (M:=M1) (φ:=iu) (fun b hn hb=>hn (S5 b hb)) (vU id aw) (wC id aw) (fun j hj=> ?_) (k1.ok id)
    have EA:j∈rd:=by
     have e1:o1 id=put o Δ id:=kU id aw
     have hj:j∈(put o Δ id).refs:=by rw[<- e1];exact hj
     have key:∀ (B4:List (Nat×ab)) (q:Nat->ab),(∀x∈B4,∀j∈x.2.refs,j∈rd)->(∀j∈(q id).refs,j∈rd)->∀j∈(put q B4 id).refs,j∈rd:=by
      intro B4
      induction B4 with
      |nil=>intro q _ h2;exact h2
      |cons x B4 ih=>
       intro q h1 h2
       simp only[put,List.foldl_cons]
       refine ih (ax q x.1 x.2) (fun y hy=>h1 y (by simp[hy])) ?_
       simp only[aK]
       split
       ·exact h1 x (by simp)
       ·exact h2
     exact key Δ o Um (lV id aw) j hj
    exact⟨vU j EA,wC j EA,(ho j EA).2⟩
   ·exact aL.xS xE Pk (EC id aw) (yE id aw) (fun hl b hb=>wh b (hH.ours b ⟨id,hl,hb⟩).2 fun⟨j,j1,j2⟩=>by
     by_cases hj:j∈rd
     ·rw[show HR.o j=o' j from sJ j hj]at j1
      exact aw (hH.apart id j b hl j1 hb j2 ▸ hj)
     ·rw[show HR.o j= .no from qI j hj]at j1;cases j1) (hH.ok id)
  ·have aw:id∉rd:=fun aw=>hn (ho id aw).2
   exact(EC id aw).trans (hH.fresh id hn)
  ·by_cases e1:i∈rd<;>by_cases e2:j∈rd
   ·refine k1.apart i j b ?_ ?_ (by rw[<- wC i e1];exact bi) (by rw[<- wC j e2];exact bj)
    ·show(o1 i).live=true;rw[<- vU i e1];exact hi
    ·show(o1 j).live=true;rw[<- vU j e2];exact hj
   ·exfalso
    refine(k1.ours b ⟨i,by show(o1 i).live=true;rw[<- vU i e1];exact hi,by rw[<- wC i e1];exact bi⟩).1 (.inr ⟨j,e2,by rw[<- EC j e2];exact hj,by rw[<- yE j e2];exact bj⟩)
   ·exfalso
    refine(k1.ours b ⟨j,by show(o1 j).live=true;rw[<- vU j e2];exact hj,by rw[<- wC j e2];exact bj⟩).1 (.inr ⟨i,e1,by rw[<- EC i e1];exact hi,by rw[<- yE i e1];exact bi⟩)
   ·exact hH.apart i j b (by show(o' i).live=true;rw[<- EC i e1];exact hi) (by show(o' j).live=true;rw[<- EC j e2];exact hj) (by rw[<- yE i e1];exact bi) (by rw[<- yE j e2];exact bj)
  ·rcases bT b hb with⟨id,h1,h2,h3⟩|⟨id,h1,h2,h3⟩
   ·obtain⟨a,c⟩:=k1.ours b ⟨id,h2,h3⟩
    exact⟨fun hM=>a (.inl hM),c⟩
   ·obtain⟨a,c⟩:=hH.ours b ⟨id,h2,h3⟩
    exact⟨a,Nat.lt_of_lt_of_le c k2.ck.size⟩
  ·rcases hb with hb|hb
   ·exact .inl (.inl hb)
   ·rcases bT b hb with h|h
    ·exact .inr h
    ·exact .inl (.inr h)
 have res:∀ (vs:List V) (xs:List D) (us':List Value),(∀id∈rd,o1 id=put o Δ id)->bW o1 vs=some xs->(∀id∈V.bg vs,id∉rd)->V.aF (aj M1 iu (hp o1 xI)) iu (hp o1 xI) w' vs us'->
  ∃aB,az M aB ⟨put o' Δ,us⟩ w'/\Trans φ ⟨o',us⟩ w aB ⟨put o' Δ,us⟩ w'/\D.aF (aj M aB ⟨put o' Δ,us⟩) w' xs us':=by
  intro vs xs us' kU h1 Un h2
  obtain⟨f1,f2,f3,f4,f5⟩:=cR k1 (V.bg vs) (cn vs _ h2)
  have h3:=db f1 vs xs us' f3 h1 (V.aJ f2 _ _ h2)
  obtain⟨aB,m1,m2,m3⟩:=main kU
  refine⟨aB,m1,m2,D.aJ (w:=w') (w':=w') (fun b _ hn=>⟨rfl,fun hb=>hn ?_⟩) xs us' h3⟩
  rcases m3 b hb with hb|⟨id,i1,i2,i3⟩
  ·exact .inl hb
  ·exact .inr ⟨id,by rw[f4 id fun hm=>Un id hm i1];exact i2,i3⟩
 cases e with
 |outgrown=>exact k3.elim
 |panicked ch=>
  obtain⟨val,rfl,g1,kU,x,g2,rfl,g3⟩:=k3
  obtain⟨aB,m1,m2,m3⟩:=res [v] [x] [val] kU (by simp[bW,g2]) (by simpa[V.bg]using g3) ⟨val,[],rfl,g1,rfl⟩
  obtain⟨u,us2,he,h2,_⟩:=m3
  simp at he;obtain⟨rfl,rfl⟩:=he
  exact⟨aB,m1,m2,val,rfl,h2⟩
 |returned val=>
  obtain⟨g1,kU,vs,rs,rfl,g2,rfl,g3⟩:=k3
  match vs,g1,g2,g3 with
  |[],g1,g2,g3=>
   obtain⟨arr,rfl,hv⟩:=g1
   simp only[bW,Option.some.injEq]at g2;subst g2
   obtain⟨aB,m1,m2,m3⟩:=res [] [] arr.toList kU rfl (by simp[V.bg]) hv
   exact⟨aB,m1,m2,arr,rfl,m3⟩
  |[v],g1,g2,g3=>
   obtain⟨aB,m1,m2,m3⟩:=res [v] rs [val] kU g2 g3 ⟨val,[],rfl,g1,rfl⟩
   refine⟨aB,m1,m2, ?_⟩
   cases rs with
   |nil=>cases m3
   |cons x l=>
    obtain⟨u,us2,he,h2,h3⟩:=m3
    simp at he;obtain⟨rfl,rfl⟩:=he
    cases l with
    |nil=>exact h2
    |cons y l=>obtain⟨_,_,h,_⟩:=h3;cases h
  |v::v2::l,g1,g2,g3=>
   obtain⟨arr,rfl,hv⟩:=g1
   obtain⟨aB,m1,m2,m3⟩:=res (v::v2::l) rs arr.toList kU g2 g3 hv
   refine⟨aB,m1,m2, ?_⟩
   have hl:=D.aE _ _ m3
   have Pg:=V.aE _ _ hv
   match rs,hl,m3 with
   |[],hl,_=>rw[Pg]at hl;simp at hl
   |[x],hl,_=>rw[Pg]at hl;simp at hl
   |x::y::l,_,m3=>exact⟨arr,rfl,m3⟩
end
end Go.Proofs.YtealblliddhgiaaGreat
namespace Go.Proofs.YtealblliddhgiaaGreat
inductive eU where
 |skip|val (v:V) (Δ:List (Nat×ab)) (rd:List Nat)|bJ (v:V) (ws rd:List Nat)|eA
 deriving Inhabited
def eU.ok:eU->Bool
 | .skip| .val .. =>true
 |_=>false
def ub(dst:Option Tmp)(x:eU)(s:S):S:=
 match x with
 | .skip=>⟨a8 s.env dst (.bU []),s.o,s.nx⟩
 | .val v Δ _=>⟨a8 s.env dst v,put s.o Δ,s.nx⟩
 | .bJ .. | .eA=>⟨a8 s.env dst .af,s.o,s.nx⟩
def jV:eU->List Nat
 | .val _ Δ _=>Δ.map (·.1)
 |_=>[]
def um:eU->List Nat
 | .val _ _ rd=>rd
 | .bJ _ _ rd=>rd
 |_=>[]
def Pl(P:Program)(g:FuncId)(ds:List D)(v:V):Prop:=
 Enters P g/\∀ (M:Nat->Prop) (w:World) (vals:Array Value),(∀b,M b->b<w.heap.size)->D.aF M w ds vals.toList->
  Calls P g vals w fun e w'=>eL (fun _=>False) w w'/\∃val,e= .returned val/\∀φ H,V.den M φ H w' v val
theorem Pl.jT {P:Program}{g:FuncId}{ds:List D}{v:V}(hr:v.refs=[])(h:eR P g (ds.map .d) (fun _=> .no) 0 (fun v' _ _=>v'=v) (fun _ _ _=>False)):Pl P g ds v:=by
 refine⟨h.1,fun M w vals hM hd=> ?_⟩
 let cu:Place:=fun _=> .nilFunc
 have wh:∀b, ¬bS cu (hp (fun _=> .no) 0) b:=by rintro b ⟨id,hl,_⟩;simp[hp,ab.live]at hl
 refine(h.2 M cu w vals (mT cu hM) ((V.cm _ _).2 (D.aJ (w:=w) (w':=w) (B:=M) (fun b _ hB=>⟨rfl,fun h=>h.elim hB (wh b)⟩) _ _ hd))).mono ?_
 rintro e w' ⟨aB,o',nx',v',k1,k2,k3⟩
 refine⟨⟨k2.ck.os,k2.ck.tape,k2.ck.output,k2.ck.size,fun k hk _=>k2.ck.block k hk (wh k)⟩, ?_⟩
 cases e with
 |outgrown=>exact k3.elim
 |panicked ch=>obtain⟨_,_,_,h⟩:=k3;exact h.elim
 |returned val=>
  obtain⟨g1,rfl⟩:=k3
  exact⟨val,rfl,fun φ H=>V.kA (B:=aj M aB (hp o' nx')) (φ:=aB) (H:=hp o' nx') (fun b hb hm=>hb (.inl hm)) v' val (fun id aw=>by rw[hr]at aw;cases aw) g1⟩
def uR(P:Program)(s:S)(fr:Nat)(op:Op)(v:V)(Δ:List (Nat×ab))(rd:List Nat):Prop:=
 ((∃uQ,fP P s fr op=some (v,Δ,uQ))/\rd=iR s op)\/
 (∃c f g first cap,op= .call c/\c.callee= .value f/\s.ev f= .func (.func g) first cap/\
  ((∃ds rs,bW s.o (first++c.args.toList.map s.ev++cap)=some ds/\bC P g ds (.ret rs)/\v=gr rs/\rd=iR s op/\
    (Δ=cH s.o (V.bg (first++c.args.toList.map s.ev++cap))\/D.je rs=true/\Δ=[]))\/
   (∃rs,wA P g (first++c.args.toList.map s.ev++cap) rd s.o (.ret rs) Δ/\v=gr rs/\∀id∈rd,id<s.nx)\/
   (∃ds,bW s.o (first++c.args.toList.map s.ev++cap)=some ds/\Pl P g ds v/\rd=iR s op/\Δ=cH s.o (V.bg (first++c.args.toList.map s.ev++cap)))\/
   (AV P g (first++c.args.toList.map s.ev++cap) rd s.o fr v Δ/\∀id∈rd,id<s.nx)))
def yF(P:Program)(s:S)(op:Op)(v:V)(ws rd:List Nat):Prop:=
 ∃c f g first cap,op= .call c/\c.callee= .value f/\s.ev f= .func (.func g) first cap/\
  ((∃ds x,bW s.o (first++c.args.toList.map s.ev++cap)=some ds/\bC P g ds (.bJ x)/\x.flat=true/\v= .d x/\rd=iR s op/\ws=[])\/
   (∃x Δ,wA P g (first++c.args.toList.map s.ev++cap) rd s.o (.bJ x) Δ/\v= .d x/\ws=Δ.map (·.1)/\∀id∈rd,id<s.nx))
def cT(s:S)(gd:Option (Nat×Bool))(b:Bool):Prop:=
 match gd with
 |none=>b=true
 |some (d,want)=>match s.env d with
  | .d (.bool c)=>b=(c==want)
  | .bU []=>b=false
  |_=>False
def JW(P:Program)(s:S)(fr:Nat)(o:bZ)(x:eU):Prop:=
 match x with
 | .skip=>cT s o.gd false
 | .val v Δ rd=>cT s o.gd true/\uR P s fr o.op v Δ rd
 | .bJ v ws rd=>cT s o.gd true/\yF P s o.op v ws rd
 | .eA=>True
def eo(oc:Nat->bZ)(ac:Nat->eU)(E:Nat->Bool)(s:S):Nat->S
 |0=>s
 |k+1=>if E k then ub (oc k).dst (ac k) (eo oc ac E s k)else eo oc ac E s k
structure Compat (oc:Nat->bZ) (ac:Nat->eU) (R:Nat->List Nat) (i j:Nat):Prop where
 di:∀d,(oc i).dst=some d->d∉eJ (oc j)
 dj:∀d,(oc j).dst=some d->d∉eJ (oc i)
 wi:∀id∈jV (ac i),id∉R j/\id∉jV (ac j)
 wj:∀id∈jV (ac j),id∉R i
section
variable {P:Program}{oc:Nat->bZ}{ac:Nat->eU}{s:S}{n:Nat}{E:Nat->Bool}{R:Nat->List Nat}{pr:Nat->Nat->Prop}
theorem AX{env:Nat->V}{dst:Option Tmp}{v:V}{t:Nat}(h:∀d,dst=some d->d≠t):a8 env dst v t=env t:=by
 cases dst with
 |none=>rfl
 |some d=>simp only[a8,aK];rw[if_neg (fun e=>h d rfl e.symm)]
theorem fN{o:Nat->ab}:∀ {Δ:List (Nat×ab)} {id:Nat},id∉Δ.map (·.1)->put o Δ id=o id
 |[],_,_=>rfl
 |x::Δ,id,h=>by
  simp only[List.map_cons,List.mem_cons,not_or]at h
  have:=fN (o:=ax o x.1 x.2) (Δ:=Δ) h.2
  simp only[put,List.foldl_cons]at this|-
  rw[this];simp[h.1]
theorem wD{o o':Nat->ab}:∀ {Δ:List (Nat×ab)} {id:Nat},id∈Δ.map (·.1)\/o id=o' id->put o Δ id=put o' Δ id
 |[],_,h=>by rcases h with h|h;· simp at h
             ·exact h
 |x::Δ,id,h=>by
  simp only[put,List.foldl_cons]
  refine wD (Δ:=Δ) (o:=ax o x.1 x.2) (o':=ax o' x.1 x.2) ?_
  simp only[List.map_cons,List.mem_cons]at h
  simp only[aK]
  by_cases e:id=x.1
  ·right;simp[e]
  ·rcases h with(h|h)|h
   ·exact absurd h e
   ·exact .inl h
   ·right;simp[e,h]
theorem jW{dst:Option Tmp}{x:eU}{t:Nat}(h:∀d,dst=some d->d≠t):(ub dst x s).env t=s.env t:=by
 cases x<;>exact AX h
theorem mh{dst:Option Tmp}{x:eU}{id:Nat}(h:id∉jV x):(ub dst x s).o id=s.o id:=by
 cases x with
 |val v Δ rd=>exact fN h
 |_=>rfl
theorem wE{dst:Option Tmp}{x:eU}{s':S}{t:Nat}(h:s.env t=s'.env t):(ub dst x s).env t=(ub dst x s').env t:=by
 cases x<;>cases dst<;>simp only[ub,a8,aK]<;>first|exact h|(split<;>first|rfl|exact h)
theorem AY{dst:Option Tmp}{x:eU}{s':S}{id:Nat}(h:s.o id=s'.o id):(ub dst x s).o id=(ub dst x s').o id:=by
 cases x with
 |val v Δ rd=>exact wD (.inr h)
 |_=>exact h
theorem put_comm{o:Nat->ab}{Δ B4:List (Nat×ab)}(h:∀id∈Δ.map (·.1),id∉B4.map (·.1)):put (put o Δ) B4=put (put o B4) Δ:=by
 funext id
 by_cases h1:id∈Δ.map (·.1)
 ·rw[fN (h id h1)]
  exact wD (.inl h1)
 ·rw[fN (Δ:=Δ) h1]
  by_cases h2:id∈B4.map (·.1)
  ·exact wD (.inl h2)
  ·rw[fN h2,fN h2,fN h1]
theorem uS{env:Nat->V}{d d':Option Tmp}{v v':V}(h:∀t,d=some t->d'≠some t):a8 (a8 env d v) d' v'=a8 (a8 env d' v') d v:=by
 cases d with
 |none=>rfl
 |some t=>
  cases d' with
  |none=>rfl
  |some t'=>
   have gX:t'≠t:=fun e=>h t rfl (by rw[e])
   funext i
   simp only[a8,aK]
   by_cases e1:i=t<;>by_cases e2:i=t'
   ·exact absurd (e2.symm.trans e1) gX
   all_goals simp[e1,e2]
   ·intro e;exact absurd e.symm gX
   ·intro e;exact absurd e gX
theorem Fv{d d':Option Tmp}{x x':eU}(hd:∀t,d=some t->d'≠some t)(hw:∀id∈jV x,id∉jV x'):ub d x (ub d' x' s)=ub d' x' (ub d x s):=by
 cases x<;>cases x'<;>simp only[ub]<;>first
  |rw[uS hd,put_comm hw]
  |rw[uS hd]
def wF(n:Nat)(pr:Nat->Nat->Prop)(E:Nat->Bool):Prop:=∀k,k<n->E k=true->∀j,pr k j->E j=true
theorem agree(_:∀k,k<n->∀j,pr k j->j<k)(hc:∀i j,i<j->j<n-> ¬pr j i->Compat oc ac R i j)(hE:wF n pr E){i:Nat}(hi:i<n)(kT:E i=false)(Fw:∀j,pr i j->E j=true):
 (∀t∈eJ (oc i),(eo oc ac E s n).env t=(eo oc ac (fun _=>true) s i).env t)/\(∀id∈R i,(eo oc ac E s n).o id=(eo oc ac (fun _=>true) s i).o id):=by
 have a:∀k,k<=i->(∀t∈eJ (oc i),(eo oc ac E s k).env t=(eo oc ac (fun _=>true) s k).env t)/\(∀id∈R i,(eo oc ac E s k).o id=(eo oc ac (fun _=>true) s k).o id):=by
  intro k
  induction k with
  |zero=>intro _;exact⟨fun _ _=>rfl,fun _ _=>rfl⟩
  |succ k ih=>
   intro hk
   obtain⟨h1,h2⟩:=ih (by omega)
   simp only[eo,if_true]
   by_cases fZ:E k=true
   ·simp only[fZ,if_true]
    exact⟨fun t ht=>wE (h1 t ht),fun id aw=>AY (h2 id aw)⟩
   ·have JK: ¬pr i k:=fun hm=>fZ (Fw k hm)
    have c:=hc k i (by omega) hi JK
    simp only[fZ]
    refine⟨fun t ht=> ?_,fun id aw=> ?_⟩
    ·rw[jW fun d hd e=>c.di d hd (e ▸ ht)];exact h1 t ht
    ·rw[mh fun hm=>(c.wi id hm).1 aw];exact h2 id aw
 have b:∀k,i<=k->k<=n->(∀t∈eJ (oc i),(eo oc ac E s k).env t=(eo oc ac (fun _=>true) s i).env t)/\(∀id∈R i,(eo oc ac E s k).o id=(eo oc ac (fun _=>true) s i).o id):=by
  intro k H6
  induction H6 with
  |refl=>intro _;exact a i (Nat.le_refl _)
  | @step k H6 ih=>
    intro hk
    have H6:i<=k:=H6
    obtain⟨h1,h2⟩:=ih (by omega)
    simp only[eo]
    by_cases fZ:E k=true
    ·have gX:i≠k:=fun e=>by rw[e,fZ]at kT;cases kT
     have JK: ¬pr k i:=fun hm=>by have:=hE k (by omega) fZ i hm;rw[kT]at this;cases this
     have c:=hc i k (by omega) (by omega) JK
     simp only[fZ,if_true]
     refine⟨fun t ht=> ?_,fun id aw=> ?_⟩
     ·rw[jW fun d hd e=>c.dj d hd (e ▸ ht)];exact h1 t ht
     ·rw[mh fun hm=>c.wj id hm aw];exact h2 id aw
    ·simp only[fZ];exact⟨h1,h2⟩
 exact b n (by omega) (Nat.le_refl _)
theorem insert(hc:∀i j,i<j->j<n-> ¬pr j i->Compat oc ac R i j)(hE:wF n pr E){i:Nat}(hi:i<n)(kT:E i=false){E':Nat->Bool}(AZ:∀k,E' k=(E k||k==i)):
 eo oc ac E' s n=ub (oc i).dst (ac i) (eo oc ac E s n):=by
 have a:∀k,k<=i->eo oc ac E' s k=eo oc ac E s k:=by
  intro k
  induction k with
  |zero=>intro _;rfl
  |succ k ih=>
   intro hk
   have:E' k=E k:=by rw[AZ k];have:(k==i)=false:=by simp;omega
                     simp[this]
   simp only[eo,this,ih (by omega)]
 have b:∀k,i+1<=k->k<=n->eo oc ac E' s k=ub (oc i).dst (ac i) (eo oc ac E s k):=by
  intro k H6
  induction H6 with
  |refl=>
   intro _
   have h1:E' i=true:=by rw[AZ i];simp
   simp only[eo,h1,kT,if_true,a i (Nat.le_refl _)]
   rfl
  | @step k H6 ih=>
    intro hk
    have H6:i+1<=k:=H6
    have h1:E' k=E k:=by rw[AZ k];have:(k==i)=false:=by simp;omega
                         simp[this]
    simp only[eo,h1,ih (by omega)]
    by_cases fZ:E k=true
    ·have JK: ¬pr k i:=fun hm=>by have:=hE k (by omega) fZ i hm;rw[kT]at this;cases this
     have c:=hc i k (by omega) (by omega) JK
     simp only[fZ,if_true]
     refine Fv (fun t ht he=> ?_) (fun id aw hm=>(c.wi id hm).2 aw)
     exact c.di t he (by simp[eJ,ht])
    ·simp only[fZ];rfl
 exact b n (by omega) (Nat.le_refl _)
end
end Go.Proofs.YtealblliddhgiaaGreat
namespace Go.Proofs.YtealblliddhgiaaGreat
structure rm (M:Nat->Prop) (cu:Place) (H0:Hp) (w0:World) (n:Nat) (cx:Cx) (φ:Place) (s:S) (us:Nat->Prop) (a:Act) (w:World):Prop where
 heap:az M φ ⟨s.o,us⟩ w
 tr:Trans cu H0 w0 φ ⟨s.o,us⟩ w
 size:a.tmps.size=n
 defers:sx cx w0 φ ⟨s.o,us⟩ w a.defers
 env:∀i,V.den (aj M φ ⟨s.o,us⟩) φ ⟨s.o,us⟩ w (s.env i) (a.tmps.getD i undef)
section
variable {P:Program}{M:Nat->Prop}{φ cu:Place}{H0:Hp}{w w' w0:World}{n:Nat}{s:S}{us:Nat->Prop}{a:Act}{cx:Cx}{ro:Option Nat}{k:Nat}
variable {next:Act->World->Prop}{Q:Exit->Act->World->Prop}
theorem gZ(hs:rm M cu H0 w0 n cx φ s us a w){aB:Place}{H':Hp}(hH:az M aB H' w')(ht:Trans φ ⟨s.o,us⟩ w aB H' w'){v:V}{val:Value}(hd:V.den (aj M aB H') aB H' w' v val){dst:Option Tmp}(cC:fT n dst)
 {o':Nat->ab} {us':Nat->Prop} (ho:H'.o=o') (hu:∀id,H'.us id->us' id):rm M cu H0 w0 n cx aB ⟨a8 s.env dst v,o',s.nx⟩ us' (a.put dst val) w':=by
 obtain⟨k1,k2⟩:=iK hH hu
 subst ho
 refine⟨k1,hs.tr.trans (ht.trans k2), ?_, ?_,fun i=> ?_⟩
 ·cases dst<;>simp[Act.put,hs.size]
 ·have:=hs.defers.mono (ht.trans k2);cases dst<;>exact this
 ·cases dst with
  |none=>exact V.aG (ht.trans k2) _ _ (hs.env i)
  |some d=>
   simp only[fT]at cC
   simp only[a8,aK,Act.put]
   by_cases hi:i=d
   ·subst hi
    have h1:(a.tmps.setIfInBounds i val).getD i undef=val:=by simp[Array.getD,hs.size,cC]
    rw[if_pos rfl,h1]
    exact V.aG k2 _ _ hd
   ·have h1:(a.tmps.setIfInBounds d val).getD i undef=a.tmps.getD i undef:=by
     simp only[Array.getD_eq_getD_getElem?]
     rw[Array.getElem?_setIfInBounds_ne (Ne.symm hi)]
    rw[if_neg hi,h1]
    exact V.aG (ht.trans k2) _ _ (hs.env i)
theorem uT(hs:rm M cu H0 w0 n cx φ s us a w){o:Oper}{op:Op}(dt:o.op=op){c:Call}{f:Operand}{g:FuncId}{first cap:List V}(hc:op= .call c)(dN:c.callee= .value f)(sy:s.ev f= .func (.func g) first cap):
 ∃vals:Array Value,V.aF (aj M φ ⟨s.o,us⟩) φ ⟨s.o,us⟩ w (first++c.args.toList.map s.ev++cap) vals.toList/\(Enters P g->(execOp a.eval o).run P w= .ok (.enter g vals) w):=by
 have hf:=lZ (M:=M) (φ:=φ) (H:=⟨s.o,us⟩) (w:=w) s a hs.env f
 have dV:=jE (M:=M) (φ:=φ) (H:=⟨s.o,us⟩) (w:=w) s a hs.env c.args.toList
 rw[sy]at hf
 obtain⟨fa,ca,Lo,Ar,O9⟩:=hf
 refine⟨fa++c.args.map a.eval++ca, ?_,fun he=> ?_⟩
 ·rw[Array.toList_append,Array.toList_append,Array.toList_map]
  exact V.lq Ar dV O9
 ·have:=kz (w:=w) he (fa++c.args.map a.eval++ca)
  generalize lM:fa++c.args.map a.eval++ca=vals at this
  simp[execOp,dt,hc,resolve,dN,Lo,Deferred.ofValue,invoke,this,lM]
theorem yG(hs:rm M cu H0 w0 n cx φ s us a w){fr:Nat}(cL: ¬us fr)(tZ:∀id,id<s.nx->us id){o:Oper}{op:Op}(dt:o.op=op)(cC:fT n o.dst){v:V}{Δ:List (Nat×ab)}{rd:List Nat}(h:uR P s fr op v Δ rd)
 (hN:∀aB a' w',rm M cu H0 w0 n cx aB (ub o.dst (.val v Δ rd) s) (fun id=>us id\/id=fr) a' w'->next a' w'):o.wpIn (dD ro) k P a w next Q:=by
 rcases h with⟨⟨uQ,h⟩,_⟩|⟨c,f,g,first,cap,hc,dN,sy,h⟩
 ·have h1:=yB (K:=fun v' B4 _=>v'=v/\B4=Δ) h ⟨rfl,rfl⟩
  obtain⟨nx,val,w',aB,v',B4,uQ,⟨rfl,rfl⟩,hr,Uo,g1,g2,g3,g4⟩:=uK hs.heap (s:=s) rfl hs.env cL dt h1
  have oQ:=gZ hs g1 g2 g3 cC (o':=put s.o B4) (us':=fun id=>us id\/id=fr) rfl (fun id hu=>hu.elim .inl (g4 id))
  refine jJ (fun c hc=>by rw[dt]at hc;subst hc;exact h1) ?_
  rw[hr]
  rcases Uo with rfl|⟨rfl,rfl⟩
  ·exact hN _ _ _ oQ
  ·exact hN _ _ _ oQ
 ·refine jJ (fun c' yn=>by rw[dt,hc]at yn;cases yn) ?_
  obtain⟨vals,aN,eQ⟩:=uT (P:=P) hs dt hc dN sy
  generalize first++c.args.toList.map s.ev++cap=all at h aN
  rcases h with⟨ds,rs,eC,hP,rfl,_,Ls⟩|⟨rs,hH,rfl,lS⟩|⟨ds,eC,hP,_,rfl⟩|⟨hH,lS⟩
  ·obtain⟨f1,f2,f3,f4,f5⟩:=cR hs.heap (V.bg all) (cn all _ aN)
   have lb:(⟨s.o,us⟩:Hp).put (cH s.o (V.bg all))=⟨put s.o (cH s.o (V.bg all)),us⟩:=ky (H:=⟨s.o,us⟩) (by rw[mS];exact cn all _ aN)
   have uA:=db f1 all ds _ f3 eC (V.aJ f2 _ _ aN)
   have dX:=hP.2 _ w vals (fun b hb=>hb.elim (f1.tX b) fun hl=>(f1.ours b hl).2) uA
   rw[eQ hP.1]
   refine⟨fun hd=>by simp[dD]at hd,cP (dX.mono fun e w' ⟨hk,ho⟩=> ?_)⟩
   cases e with
   |panicked ch=>cases rs with|nil=>exact ho.elim|cons x l=>cases l<;>exact ho.elim
   |outgrown=>cases rs with|nil=>exact ho.elim|cons x l=>cases l<;>exact ho.elim
   |returned val=>
    rcases Ls with rfl|⟨la,rfl⟩
    ·obtain⟨k1,k2⟩:=eS f1 hk
     refine hN _ _ _ (gZ hs k1 (f2.trans k2) (jf ho) cC (by rw[lb]) fun id hu=> ?_)
     rw[lb]at hu;exact .inl hu
    ·obtain⟨k1,k2⟩:=eS hs.heap hk
     have ho:=R.vY (out:= .ret rs) (B':=aj M φ ⟨s.o,us⟩) la ho
     exact hN _ _ _ (gZ hs k1 k2 (jf ho) cC rfl fun id hu=> .inl hu)
  ·have dX:=hH.2 s.o us M φ w vals (fun id aw=>⟨rfl,tZ id (lS id aw)⟩) hs.heap aN
   rw[eQ hH.1]
   refine⟨fun hd=>by simp[dD]at hd,cP (dX.mono fun e w' ⟨aB,k1,k2,ho⟩=> ?_)⟩
   cases e with
   |panicked ch=>cases rs with|nil=>exact ho.elim|cons x l=>cases l<;>exact ho.elim
   |outgrown=>cases rs with|nil=>exact ho.elim|cons x l=>cases l<;>exact ho.elim
   |returned val=>exact hN _ _ _ (gZ hs k1 k2 (jf ho) cC rfl fun id hu=> .inl hu)
  ·obtain⟨f1,f2,f3,f4,f5⟩:=cR hs.heap (V.bg all) (cn all _ aN)
   have lb:(⟨s.o,us⟩:Hp).put (cH s.o (V.bg all))=⟨put s.o (cH s.o (V.bg all)),us⟩:=ky (H:=⟨s.o,us⟩) (by rw[mS];exact cn all _ aN)
   have uA:=db f1 all ds _ f3 eC (V.aJ f2 _ _ aN)
   have dX:=hP.2 _ w vals (fun b hb=>hb.elim (f1.tX b) fun hl=>(f1.ours b hl).2) uA
   rw[eQ hP.1]
   refine⟨fun hd=>by simp[dD]at hd,cP (dX.mono fun e w' ⟨hk,val,he,ho⟩=> ?_)⟩
   subst he
   obtain⟨k1,k2⟩:=eS f1 hk
   refine hN _ _ _ (gZ hs k1 (f2.trans k2) (ho _ _) cC (by rw[lb]) fun id hu=> ?_)
   rw[lb]at hu;exact .inl hu
  ·have dX:=hH.2 s.o us M φ w vals (fun id aw=>⟨rfl,tZ id (lS id aw)⟩) cL hs.heap aN
   rw[eQ hH.1]
   refine⟨fun hd=>by simp[dD]at hd,cP (dX.mono fun e w' ⟨aB,k1,k2,val,he,ho⟩=> ?_)⟩
   subst he
   exact hN _ _ _ (gZ hs k1 k2 ho cC rfl fun id hu=>hu)
theorem DI{o o2:Nat->ab}{us us2:Nat->Prop}(hH:az M φ ⟨o,us⟩ w)(ho:∀id,o2 id=o id\/o2 id= .no)(hu:∀id,us id->us2 id):az M φ ⟨o2,us2⟩ w/\Trans φ ⟨o,us⟩ w φ ⟨o2,us2⟩ w:=by
 have hl:∀id,(o2 id).live=true->(o id).live=true:=fun id h=>by
  rcases ho id with e|e
  ·rw[<- e];exact h
  ·rw[e]at h;cases h
 have BN:∀b,bS φ ⟨o2,us2⟩ b->bS φ ⟨o,us⟩ b:=fun b ⟨id,h1,h2⟩=>⟨id,hl id h1,h2⟩
 have ht:Trans φ ⟨o,us⟩ w φ ⟨o2,us2⟩ w:=by
  refine⟨eL.refl _ _,fun b hb=> .inl (BN b hb),⟨hu,fun id _ hr=> ?_,fun id e' _ he=> ?_⟩⟩
  ·rcases ho id with e|e
   ·exact⟨by show(o id).bN=true;rw[<- e];exact hr,rfl⟩
   ·rw[show(⟨o2,us2⟩:Hp).o id= .no from e]at hr;cases hr
  ·rcases ho id with e|e
   ·exact⟨e',by show(o id).ba=some e';rw[<- e];exact he,Nat.le_refl _,fun _=>rfl⟩
   ·rw[show(⟨o2,us2⟩:Hp).o id= .no from e]at he;cases he
 refine⟨⟨fun id=> ?_,fun id hn=> ?_,fun i j b hi hj=>hH.apart i j b (hl i hi) (hl j hj),fun b hb=>hH.ours b (BN b hb),hH.tX⟩,ht⟩
 ·rcases ho id with e|e
  ·exact(hH.ok id).mono ht e rfl fun _ _ _=>rfl
  ·unfold aL;rw[show(⟨o2,us2⟩:Hp).o id= .no from e];trivial
 ·rcases ho id with e|e
  ·exact e.trans (hH.fresh id fun h=>hn (hu id h))
  ·exact e
def p7(ds:List Nat)(wl:List Nat)(N:Nat)(s:S):S:=
 ⟨fun t=>if ds.contains t=true then .af else s.env t,fun id=>if wl.contains id=true then .no else s.o id,s.nx+N⟩
theorem Fx(hs:rm M cu H0 w0 n cx φ s us a w)(tZ:∀id,id<s.nx->us id){N:Nat}(dT:∀id,us id->id<s.nx+N){o:Oper}{op:Op}(dt:o.op=op){v:V}{ws rd:List Nat}(h:yF P s op v ws rd)
 {s0:S} {ds wl:List Nat} (eC:∀t,ds.contains t=false->s.env t=s0.env t) (Up:∀id,wl.contains id=false->s.o id=s0.o id) (H7:∀id∈ws,wl.contains id=true) (ua:s0.nx=s.nx)
 (hQ:∀aB w' val,bY M cu H0 w0 n cx aB (p7 ds wl N s0) a w'->V.den (aj M aB (p7 ds wl N s0).H) aB (p7 ds wl N s0).H w' v val->Q (.panic [{v:=val,recovered:=false}]) a w'):o.wpIn (dD ro) k P a w next Q:=by
 obtain⟨c,f,g,first,cap,hc,dN,sy,h⟩:=h
 refine jJ (fun c' yn=>by rw[dt,hc]at yn;cases yn) ?_
 obtain⟨vals,aN,eQ⟩:=uT (P:=P) hs dt hc dN sy
 generalize first++c.args.toList.map s.ev++cap=all at h aN
 have fin:∀ (aB:Place) (w':World) (o':Nat->ab) (val:Value),(∀id,wl.contains id=false->o' id=s.o id)->az M aB ⟨o',us⟩ w'->Trans φ ⟨s.o,us⟩ w aB ⟨o',us⟩ w'->V.den (aj M aB ⟨o',us⟩) aB ⟨o',us⟩ w' v val->Q (.panic [{v:=val,recovered:=false}]) a w':=by
  intro aB w' o' val yu k1 k2 k3
  obtain⟨m1,m2⟩:=DI (o2:=(p7 ds wl N s0).o) (us2:=fun id=>id<s0.nx+N) k1 (fun id=>by
   show(if wl.contains id=true then ab.no else s0.o id)=o' id\/_
   by_cases hw:wl.contains id=true
   ·right;simp only[p7];rw[if_pos hw]
   ·left;rw[if_neg hw,yu id (by simpa using hw),Up id (by simpa using hw)]) (fun id h=>by rw[ua];exact dT id h)
  have ht:=hs.tr.trans (k2.trans m2)
  refine hQ aB w' val ⟨m1,ht,hs.size,hs.defers.mono (k2.trans m2),fun i=> ?_⟩ (V.aG m2 _ _ k3)
  show V.den _ _ _ _ (if ds.contains i=true then V.af else s0.env i) _
  by_cases hd:ds.contains i=true
  ·rw[if_pos hd];trivial
  ·rw[if_neg hd, <- eC i (by simpa using hd)];exact V.aG (k2.trans m2) _ _ (hs.env i)
 rcases h with⟨dd,x,Uq,hP,la,rfl,_,rfl⟩|⟨x,Δ,hH,rfl,rfl,lS⟩
 ·obtain⟨f1,f2,f3,f4,f5⟩:=cR hs.heap (V.bg all) (cn all _ aN)
  have uA:=db f1 all dd _ f3 Uq (V.aJ f2 _ _ aN)
  have dX:=hP.2 _ w vals (fun b hb=>hb.elim (f1.tX b) fun hl=>(f1.ours b hl).2) uA
  rw[eQ hP.1]
  refine⟨fun hd=>by simp[dD]at hd,cP (dX.mono fun e w' ⟨hk,ho⟩=> ?_)⟩
  cases e with
  |returned val=>exact ho.elim
  |outgrown=>exact ho.elim
  |panicked ch=>
   obtain⟨k1,k2⟩:=eS hs.heap hk
   have ho:=R.vY (out:= .bJ x) (B':=aj M φ ⟨s.o,us⟩) la ho
   obtain⟨val,rfl,hd⟩:=ho
   exact fin φ w' s.o val (fun _ _=>rfl) k1 k2 hd
 ·have dX:=hH.2 s.o us M φ w vals (fun id aw=>⟨rfl,tZ id (lS id aw)⟩) hs.heap aN
  rw[eQ hH.1]
  refine⟨fun hd=>by simp[dD]at hd,cP (dX.mono fun e w' ⟨aB,k1,k2,ho⟩=> ?_)⟩
  cases e with
  |returned val=>exact ho.elim
  |outgrown=>exact ho.elim
  |panicked ch=>
   obtain⟨val,rfl,hd⟩:=ho
   exact fin aB w' _ val (fun id aw=>wB fun y hy e=>by
    have:=H7 y.1 (List.mem_map_of_mem hy)
    rw[e,aw]at this;cases this) k1 k2 hd
theorem fg(dq:∀i,V.den (aj M φ ⟨s.o,us⟩) φ ⟨s.o,us⟩ w (s.env i) (a.tmps.getD i undef)){ops:Array Oper}{o:Oper}{gd:Option (Nat×Bool)}{b:Bool}
 (hg:match o.guard with|none=>gd=none|some (j,want)=>∃d,qt ops j=some d/\gd=some (d,want)) (h:cT s gd b):Region.wanted o (yielded ops a.tmps)=b:=by
 unfold Region.wanted
 split at hg
 ·rename_i hn;simp only[hn];subst hg;exact h.symm
 ·rename_i j want hn
  simp only[hn]
  obtain⟨d,hd,rfl⟩:=hg
  unfold qt at hd
  unfold yielded
  simp only[hd,Option.bind_some]
  simp only[cT]at h
  have he:=dq d
  split at h
  ·rename_i c hv
   rw[hv]at he
   simp only[V.den,D.den]at he
   have:a.tmps[d]? =some (.bool c):=by
    rw[Array.getD_eq_getD_getElem?]at he
    cases hx:a.tmps[d]? with
    |none=>rw[hx]at he;simp[undef]at he
    |some x=>rw[hx]at he;simp at he;rw[he]
   simp only[this,h]
   cases c<;>cases want<;>rfl
  ·rename_i hv
   rw[hv]at he
   obtain⟨arr,ct,hn⟩:=he
   have:∀c,a.tmps[d]? ≠some (.bool c):=by
    intro c hx
    rw[Array.getD_eq_getD_getElem?,hx]at ct
    simp at ct
   subst h
   cases hx:a.tmps[d]? with
   |none=>rfl
   |some x=>cases x<;>first|(exact absurd hx (this _))|rfl
  ·exact h.elim
theorem fh{s s':S}{gd:Option (Nat×Bool)}{b:Bool}(h:∀d want,gd=some (d,want)->s'.env d=s.env d)(hg:cT s gd b):cT s' gd b:=by
 unfold cT at*
 cases gd with
 |none=>exact hg
 |some p=>obtain⟨d,want⟩:=p;simp only at hg|-;rw[h d want rfl];exact hg
theorem yH{s s':S}{x:Operand}(h:∀t,x= .tmp t->s'.env t=s.env t):s'.ev x=s.ev x:=by
 cases x<;>simp only[S.ev]
 exact h _ rfl
theorem sK{s s':S}{op:Op}{c:Call}{f:Operand}{g:FuncId}{first cap:List V}(hv:∀x∈op.operands,s'.ev x=s.ev x)(hc:op= .call c)(dN:c.callee= .value f)(sy:s.ev f= .func (.func g) first cap):
 s'.ev f= .func (.func g) first cap/\c.args.toList.map s'.ev=c.args.toList.map s.ev:=by
 subst hc
 exact⟨(hv f (by simp only[Op.operands,Call.operands,dN];exact Array.mem_append.2 (.inl (by simp)))).trans sy,
  List.map_congr_left fun x hx=>hv x (by simp only[Op.operands,Call.operands];exact Array.mem_append.2 (.inr (Array.mem_toList_iff.1 hx)))⟩
theorem wA.frame {g:FuncId}{args:List V}{rd:List Nat}{o o':Nat->ab}{out:R}{Δ:List (Nat×ab)}(ho:∀id∈rd,o' id=o id)(h:wA P g args rd o out Δ):wA P g args rd o' out Δ:=
 ⟨h.1,fun o2 us M φ w vals h1 h2 h3=>h.2 o2 us M φ w vals (fun id aw=>⟨(h1 id aw).1.trans (ho id aw),(h1 id aw).2⟩) h2 h3⟩
theorem AV.frame {g:FuncId}{args:List V}{rd:List Nat}{o o':Nat->ab}{fr:Nat}{v:V}{Δ:List (Nat×ab)}(ho:∀id∈rd,o' id=o id)(h:AV P g args rd o fr v Δ):AV P g args rd o' fr v Δ:=
 ⟨h.1,fun o2 us M φ w vals h1 h2 h3=>h.2 o2 us M φ w vals (fun id aw=>⟨(h1 id aw).1.trans (ho id aw),(h1 id aw).2⟩) h2 h3⟩
theorem qJ{s s':S}{fr:Nat}{op:Op}{v:V}{Δ:List (Nat×ab)}{rd:List Nat}(hv:∀x∈op.operands,s'.ev x=s.ev x)(ho:∀id∈rd,s'.o id=s.o id)(tZ:s'.nx=s.nx)(h:uR P s fr op v Δ rd):∃uQ,uR P s' fr op v Δ uQ:=by
 rcases h with⟨⟨uQ,h⟩,lS⟩|⟨c,f,g,first,cap,rfl,dN,sy,h⟩
 ·exact⟨_, .inl ⟨⟨uQ,by rw[AU op hv (by rw[<- lS];exact ho)];exact h⟩,rfl⟩⟩
 ·obtain⟨hf,hm⟩:=sK hv rfl dN sy
  rcases h with⟨ds,rs,eC,hP,l5,lS,Ls⟩|⟨rs,hH,l5,lS⟩|⟨ds,eC,hP,lS,Ls⟩|⟨hH,lS⟩
  ·have hr:∀id∈V.ah (first++c.args.toList.map s.ev++cap),s'.o id=s.o id:=fun id aw=>ho id (by rw[lS];simp only[iR,dN,sy];exact aw)
   refine⟨_, .inr ⟨c,f,g,first,cap,rfl,dN,hf, .inl ⟨ds,rs,by rw[hm,gD _ hr];exact eC,hP,l5,rfl, ?_⟩⟩⟩
   rw[hm,fM (o:=s.o) fun id aw=>hr id (jh _ id aw)]
   exact Ls
  ·exact⟨rd, .inr ⟨c,f,g,first,cap,rfl,dN,hf, .inr (.inl ⟨rs,by rw[hm];exact hH.frame ho,l5,by rw[tZ];exact lS⟩)⟩⟩
  ·have hr:∀id∈V.ah (first++c.args.toList.map s.ev++cap),s'.o id=s.o id:=fun id aw=>ho id (by rw[lS];simp only[iR,dN,sy];exact aw)
   refine⟨_, .inr ⟨c,f,g,first,cap,rfl,dN,hf, .inr (.inr (.inl ⟨ds,by rw[hm,gD _ hr];exact eC,hP,rfl, ?_⟩))⟩⟩
   rw[hm,fM (o:=s.o) fun id aw=>hr id (jh _ id aw)]
   exact Ls
  ·exact⟨rd, .inr ⟨c,f,g,first,cap,rfl,dN,hf, .inr (.inr (.inr ⟨by rw[hm];exact hH.frame ho,by rw[tZ];exact lS⟩))⟩⟩
theorem yI{s s':S}{op:Op}{v:V}{ws rd:List Nat}(hv:∀x∈op.operands,s'.ev x=s.ev x)(ho:∀id∈rd,s'.o id=s.o id)(tZ:s'.nx=s.nx)(h:yF P s op v ws rd):yF P s' op v ws rd:=by
 obtain⟨c,f,g,first,cap,rfl,dN,sy,h⟩:=h
 obtain⟨hf,hm⟩:=sK hv rfl dN sy
 refine⟨c,f,g,first,cap,rfl,dN,hf, ?_⟩
 rw[hm]
 rcases h with⟨ds,x,eC,hP,la,l5,lS,H7⟩|⟨x,Δ,hH,l5,H7,lS⟩
 ·have hr:∀id∈V.ah (first++c.args.toList.map s.ev++cap),s'.o id=s.o id:=fun id aw=>ho id (by rw[lS];simp only[iR,dN,sy];exact aw)
  exact .inl ⟨ds,x,by rw[gD _ hr];exact eC,hP,la,l5,by rw[lS];simp only[iR,dN,sy,hf,hm],H7⟩
 ·exact .inr ⟨x,Δ,hH.frame ho,l5,H7,by rw[tZ];exact lS⟩
theorem sL{ops:Array Oper}:∀ (l:List Oper) (l':List bZ) (i:Nat) (o:Oper),kg n ops l=some l'->l[i]? =some o->EM n ops o=some (bR l' i)
 |[],_,_,_,_,h=>by simp at h
 |x::l,l',i,o,h,hi=>by
  simp only[kg]at h
  split at h
  ·rename_i y ys hy Zm
   injection h with h;subst h
   cases i with
   |zero=>simp at hi;subst hi;exact hy
   |succ i=>exact sL l ys i o Zm (by simpa using hi)
  ·cases h
theorem uU{ops:Array Oper}{o:Oper}{x:bZ}(h:EM n ops o=some x):x.op=o.op/\x.dst=o.dst/\fT n o.dst/\
 (match o.guard with|none=>x.gd=none|some (j,want)=>∃d,qt ops j=some d/\x.gd=some (d,want)):=by
 unfold EM at h
 split at h
 ·rename_i hd
  have cC:fT n o.dst:=by
   unfold Ai at hd;unfold fT
   split at hd<;>simp_all
  cases hg:o.guard with
  |none=>simp only[hg]at h;injection h with h;subst h;exact⟨rfl,rfl,cC,rfl⟩
  |some p=>
   obtain⟨j,want⟩:=p
   simp only[hg]at h
   cases JV:qt ops j with
   |none=>simp[JV]at h
   |some d=>simp only[JV]at h;injection h with h;subst h;exact⟨rfl,rfl,cC,d,JV,rfl⟩
 ·cases h
theorem nQ{ops:Array Oper}{au:Array Bool}(rB:∀k,k<ops.size->∀j∈bE ops k,j<k)(hs:au.size=ops.size)(hr:Region.ready .any ops au=[]):∀k,k<ops.size->au.getD k false=true:=by
 intro k
 induction k using Nat.strongRecOn with
 |_ k ih=>
  intro hk
  cases hl:au.getD k false with
  |true=>rfl
  |false=>
   have:k∈Region.ready .any ops au:=by
    refine mem_ready.2 ⟨?_,ops[k],by simp[hk],fun e he hb=> ?_⟩
    ·simp only[Array.getD_eq_getD_getElem?]at hl|-
     rw[Array.getElem?_eq_getElem (by omega)]at hl|-
     simpa using hl
    ·have hm:e.on∈bE ops k:=by
      simp only[bE,Array.getElem?_eq_getElem hk,List.mem_map,List.mem_filter]
      exact⟨e,⟨Array.mem_toList_iff.2 he,hb⟩,rfl⟩
     exact ih _ (rB k hk _ hm) (by have:=rB k hk _ hm;omega)
   rw[hr]at this;cases this
theorem yJ(hs:bY M cu H0 w0 n cx φ s a w):bY M cu H0 w0 n cx φ s a {w with drawn:=w.drawn+1}:=by
 obtain⟨k1,k2⟩:=eS (w':={w with drawn:=w.drawn+1}) hs.heap ⟨rfl,rfl,rfl,Nat.le_refl _,fun _ _ _=>rfl⟩
 exact⟨k1,hs.tr.trans k2,hs.size,hs.defers.mono k2,fun i=>V.aG k2 _ _ (hs.env i)⟩
theorem ji{oc:Nat->bZ}{ac:Nat->eU}{E:Nat->Bool}:∀k,(eo oc ac E s k).nx=s.nx
 |0=>rfl
 |k+1=>by
  simp only[eo]
  split
  ·cases ac k<;>exact ji k
  ·exact ji k
theorem B5{oc:Nat->bZ}{ac:Nat->eU}{E:Nat->Bool}{t:Nat}:∀k,(∀j,j<k->(oc j).dst≠some t)->(eo oc ac E s k).env t=s.env t
 |0,_=>rfl
 |k+1,h=>by
  have ih:=B5 (oc:=oc) (ac:=ac) (E:=E) (t:=t) k fun j hj=>h j (by omega)
  simp only[eo]
  split
  ·rw[jW fun d hd e=>h k (by omega) (by rw[hd,e])];exact ih
  ·exact ih
theorem JX{oc:Nat->bZ}{ac:Nat->eU}{E:Nat->Bool}{id:Nat}:∀k,(∀j,j<k->id∉jV (ac j))->(eo oc ac E s k).o id=s.o id
 |0,_=>rfl
 |k+1,h=>by
  have ih:=JX (oc:=oc) (ac:=ac) (E:=E) (id:=id) k fun j hj=>h j (by omega)
  simp only[eo]
  split
  ·rw[mh (h k (by omega))];exact ih
  ·exact ih
theorem yK(bc:P.follows .mixedOrders=true){ops:Array Oper}{l:List bZ}{id:Nat}(nd:kg n ops ops.toList=some l)(rB:∀k,k<ops.size->∀j∈bE ops k,j<k){ac:Nat->eU}{dl wl:List Nat}
 (hs:bY M cu H0 w0 n cx φ s a w) (Lt:∀i,i<ops.size->JW P (eo (bR l) ac (fun _=>true) s i) (s.nx+i) (bR l i) (ac i))
 (Lu:∀i,i<ops.size->ac i= .eA->∃j∈bE ops i,(ac j).ok=false)
 {po:Nat->Nat->Prop} (B6:∀E:Nat->Bool,(∀k,k<ops.size->E k=true->∀j∈bE ops k,E j=true)->∀k,k<ops.size->(∀j∈bE ops k,E j=true)->∀j,po k j->E j=true) (yL:∀k,k<ops.size->∀j,po k j->j<k)
 (hc:∀i j,i<j->j<ops.size-> ¬po j i->Compat (bR l) ac (fun i=>um (ac i)) i j)
 (Ln:∀i,i<ops.size->∀t,(bR l i).dst=some t->dl.contains t=true) (Up:∀i,i<ops.size->∀id∈jV (ac i),wl.contains id=true)
 (H7:∀i v ws rd,i<ops.size->ac i= .bJ v ws rd->∀id∈ws,wl.contains id=true)
 (hQ:(∀i,i<ops.size->(ac i).ok=true)->∀φ a w,bY M cu H0 w0 n cx φ ⟨(eo (bR l) ac (fun _=>true) s ops.size).env,(eo (bR l) ac (fun _=>true) s ops.size).o,s.nx+ops.size⟩ a w->Q .normal a w)
 (hX:∀i v ws rd,i<ops.size->ac i= .bJ v ws rd->∀φ a w val,bY M cu H0 w0 n cx φ (p7 dl wl ops.size s) a w->V.den (aj M φ (p7 dl wl ops.size s).H) φ (p7 dl wl ops.size s).H w v val->Q (.panic [{v:=val,recovered:=false}]) a w):
 (Code.region id ops true).wpIn (dD ro) k P Q a w:=by
 refine wpIn_region_any bc ?_
 have hs:=yJ hs
 generalize ({w with drawn:=w.drawn+1}:World)=w at hs
 let N:=ops.size
 let Ef (au:Array Bool) (k:Nat):Bool:=au.getD k false
 let A0 (au:Array Bool) (j:Nat):Prop:=j<s.nx\/∃k,k<N/\Ef au k=true/\j=s.nx+k
 have key:∀ (fuel:Nat) (au:Array Bool) (φ:Place) (a:Act) (w:World),au.size=N->au.count true+fuel=N->(∀k,k<N->Ef au k=true->∀j∈bE ops k,Ef au j=true)->(∀k,k<N->Ef au k=true->(ac k).ok=true)->
  rm M cu H0 w0 n cx φ (eo (bR l) ac (Ef au) s N) (A0 au) a w->wpAnyIn (dD ro) k P .any ops Q fuel au a w:=by
  have fin:∀ (au:Array Bool) (φ:Place) (a:Act) (w:World),(∀k,k<N->Ef au k=true)->(∀k,k<N->Ef au k=true->(ac k).ok=true)->rm M cu H0 w0 n cx φ (eo (bR l) ac (Ef au) s N) (A0 au) a w->Q .normal a w:=by
   intro au φ a w aN A1 hu
   have e:∀k,k<=N->eo (bR l) ac (Ef au) s k=eo (bR l) ac (fun _=>true) s k:=by
    intro k
    induction k with
    |zero=>intro _;rfl
    |succ k ih=>intro hk;simp only[eo,aN k (by omega),ih (by omega)]
   rw[e N (Nat.le_refl _)]at hu
   obtain⟨k1,k2⟩:=iK (us':=fun id=>id<s.nx+N) hu.heap (fun id h=>by
    show id<s.nx+N
    rcases h with h|⟨k,hk,_,rfl⟩<;>omega)
   exact hQ (fun i hi=>A1 i hi (aN i hi)) φ a w ⟨k1,hu.tr.trans k2,hu.size,hu.defers.mono k2,fun i=>V.aG k2 _ _ (hu.env i)⟩
  intro fuel
  induction fuel with
  |zero=>
   intro au φ a w dL DJ lV A1 hu
   have aN:∀k,k<N->Ef au k=true:=by
    intro k hk
    have h1:au.count true=au.size:=by omega
    rw[Array.count_eq_size]at h1
    have:=h1 au[k] (Array.getElem_mem (by omega))
    simp only[Ef,Array.getD_eq_getD_getElem?]
    rw[Array.getElem?_eq_getElem (by omega)]
    simpa using this.symm
   refine⟨?_,fin au φ a w aN A1 hu⟩
   rw[List.eq_nil_iff_forall_not_mem]
   intro k hk
   obtain⟨h1,o,h2,_⟩:=mem_ready.1 hk
   have Zn:k<N:=(Array.getElem?_eq_some_iff.1 h2).1
   have:=aN k Zn
   simp only[Ef,Array.getD_eq_getD_getElem?]at this h1
   rw[Array.getElem?_eq_getElem (by omega)]at this h1
   simp only[Option.getD_some]at this h1
   rw[this]at h1;cases h1
  |succ fuel ih=>
   intro au φ a w dL DJ lV A1 hu
   refine⟨fun hr=>fin au φ a w (nQ rB dL hr) A1 hu,fun i hi=> ?_⟩
   obtain⟨h1,o,h2,h3⟩:=mem_ready.1 hi
   have rn:i<N:=(Array.getElem?_eq_some_iff.1 h2).1
   have kT:Ef au i=false:=by
    simp only[Ef,Array.getD_eq_getD_getElem?]at h1|-
    rw[Array.getElem?_eq_getElem (by omega)]at h1|-
    simpa using h1
   have Fw:∀j∈bE ops i,Ef au j=true:=by
    intro j hj
    simp only[bE,h2,List.mem_map,List.mem_filter]at hj
    obtain⟨e,⟨he,hb⟩,rfl⟩:=hj
    exact h3 e (Array.mem_toList_iff.1 he) hb
   have Fy:wF N po (Ef au):=fun k hk fZ=>B6 _ lV k hk (lV k hk fZ)
   obtain⟨Pm,S6⟩:=agree (s:=s) yL hc Fy rn kT (B6 _ lV i rn Fw)
   obtain⟨g1,g2,g3,g4⟩:=uU (sL _ _ i o nd (by simpa using h2))
   have cL: ¬A0 au (s.nx+i):=by
    rintro(h|⟨k,_,hk,he⟩)
    ·omega
    ·have:k=i:=by omega
     subst this;rw[kT]at hk;cases hk
   have AZ:∀k,Ef (au.setIfInBounds i true) k=(Ef au k||k==i):=by
    intro k
    simp only[Ef,Array.getD_eq_getD_getElem?]
    by_cases e:k=i
    ·subst e;simp[dL,rn]
    ·rw[Array.getElem?_setIfInBounds_ne (Ne.symm e)]
     have:(k==i)=false:=by simpa using e
     simp[this]
   have Lw:=insert (s:=s) hc Fy rn kT AZ
   have Lx:∀k,k<N->Ef (au.setIfInBounds i true) k=true->∀j∈bE ops k,Ef (au.setIfInBounds i true) j=true:=by
    intro k hk fZ j hj
    rw[AZ]at fZ|-
    by_cases e:k=i
    ·subst e;simp[Fw j hj]
    ·have:(k==i)=false:=by simpa using e
     rw[this,Bool.or_false]at fZ
     simp[lV k hk fZ j hj]
   have Fz:(au.setIfInBounds i true).count true+fuel=N:=by
    have bI:i<au.size:=by omega
    have e1:au.setIfInBounds i true=au.set i true bI:=by simp[Array.setIfInBounds,bI]
    have e2:au[i]=false:=by
     have:=kT
     simp only[Ef,Array.getD_eq_getD_getElem?]at this
     rw[Array.getElem?_eq_getElem bI]at this
     simpa using this
    rw[e1,Array.count_set bI,e2]
    simp
    omega
   have lN:(ac i).ok=true->∀aB a' w',rm M cu H0 w0 n cx aB (ub o.dst (ac i) (eo (bR l) ac (Ef au) s N)) (fun id=>A0 au id\/id=s.nx+i) a' w'->wpAnyIn (dD ro) k P .any ops Q fuel (au.setIfInBounds i true) a' w':=by
    intro Pn aB a' w' vQ
    refine ih _ aB a' w' (by simp[dL]) Fz Lx (fun k hk fZ=> ?_) ?_
    ·rw[AZ]at fZ
     by_cases e:k=i
     ·subst e;exact Pn
     ·have:(k==i)=false:=by simpa using e
      rw[this,Bool.or_false]at fZ
      exact A1 k hk fZ
    rw[Lw,g2]
    obtain⟨k1,k2⟩:=iK (us':=A0 (au.setIfInBounds i true)) vQ.heap (fun id h=>by
     rcases h with(h|⟨k,hk,fZ,rfl⟩)|rfl
     ·exact .inl h
     ·exact .inr ⟨k,hk,by rw[AZ,fZ];rfl,rfl⟩
     ·exact .inr ⟨i,rn,by rw[AZ];simp,rfl⟩)
    exact⟨k1,vQ.tr.trans k2,vQ.size,vQ.defers.mono k2,fun j=>V.aG k2 _ _ (vQ.env j)⟩
   have DK:∀d want,(bR l i).gd=some (d,want)->(eo (bR l) ac (Ef au) s N).env d=(eo (bR l) ac (fun _=>true) s i).env d:=fun d want hd=>Pm d (by simp[eJ,tmpsOf,hd])
   have bB:=Lt i rn
   have DL:∀x∈(bR l i).op.operands,(eo (bR l) ac (Ef au) s N).ev x=(eo (bR l) ac (fun _=>true) s i).ev x:=fun x hx=>yH fun t ht=>Pm t (by
    subst ht
    simp only[eJ,tmpsOf,List.mem_append,List.mem_filterMap]
    exact .inl (.inl ⟨.tmp t,Array.mem_toList_iff.2 hx,rfl⟩))
   have H8:(eo (bR l) ac (Ef au) s N).nx=(eo (bR l) ac (fun _=>true) s i).nx:=(ji N).trans (ji i).symm
   unfold wpOpIn
   simp only[h2]
   cases rp:ac i with
   |skip=>
    rw[rp]at bB lN
    have hw:=fg hu.env g4 (fh DK bB)
    simp only[hw,Bool.false_eq_true,if_false]
    refine⟨fun _ _=>trivial,lN rfl φ _ w ?_⟩
    have:=gZ (v:= .bU []) (val:=undef) hu hu.heap (Trans.refl _ _ _) ⟨#[],rfl,rfl⟩ (dst:=o.dst) g3 rfl (us':=fun id=>A0 au id\/id=s.nx+i) (fun id h=> .inl h)
    exact this
   |val v Δ rd=>
    rw[rp]at bB lN
    have hw:=fg hu.env g4 (fh DK bB.1)
    simp only[hw,if_true]
    obtain⟨uQ,rb⟩:=qJ DL (fun id aw=>S6 id (by rw[rp];exact aw)) H8 bB.2
    exact yG hu cL (fun id h=> .inl (by rw[ji]at h;exact h)) g1.symm g3 rb (lN rfl)
   |bJ v ws rd=>
    rw[rp]at bB
    have hw:=fg hu.env g4 (fh DK bB.1)
    simp only[hw,if_true]
    have rb:=yI DL (fun id aw=>S6 id (by rw[rp];exact aw)) H8 bB.2
    refine Fx (s0:=s) (ds:=dl) (wl:=wl) (N:=N) hu (fun id h=> .inl (by rw[ji]at h;exact h)) (fun id h=> ?_) g1.symm rb (fun t ht=> ?_) (fun id aw=> ?_) (H7 i v ws rd rn rp) (ji N).symm (fun aB w' val h1 h2=>hX i v ws rd rn rp aB a w' val h1 h2)
    ·rw[ji]
     rcases h with h|⟨k,hk,_,rfl⟩<;>omega
    ·refine B5 N fun j hj e=> ?_
     have:=Ln j hj t e
     rw[ht]at this;cases this
    ·refine JX N fun j hj hm=> ?_
     have:=Up j hj id hm
     rw[aw]at this;cases this
   |eA=>
    exfalso
    obtain⟨j,hj,Ly⟩:=Lu i rn rp
    have:=A1 j (Nat.lt_trans (rB i rn j hj) rn) (Fw j hj)
    rw[Ly]at this;cases this
 refine key ops.size _ φ a w (by simp[N]) (by simp[N,Array.count_replicate]) (fun k hk fZ=> ?_) (fun k hk fZ=> ?_) ?_
 ·simp[Ef,Array.getD_eq_getD_getElem?,Array.getElem?_replicate]at fZ
  split at fZ<;>simp at fZ
 ·simp[Ef,Array.getD_eq_getD_getElem?,Array.getElem?_replicate]at fZ
  split at fZ<;>simp at fZ
 ·have e:∀k,eo (bR l) ac (Ef (Array.replicate ops.size false)) s k=s:=by
   intro k
   induction k with
   |zero=>rfl
   |succ k ih=>
    have:Ef (Array.replicate ops.size false) k=false:=by
     simp only[Ef,Array.getD_eq_getD_getElem?,Array.getElem?_replicate]
     split<;>rfl
    simp only[eo,this,ih]
    rfl
  rw[e]
  obtain⟨k1,k2⟩:=iK (us':=A0 (Array.replicate ops.size false)) hs.heap (fun id h=> .inl h)
  exact⟨k1,hs.tr.trans k2,hs.size,hs.defers.mono k2,fun j=>V.aG k2 _ _ (hs.env j)⟩
end
end Go.Proofs.YtealblliddhgiaaGreat
namespace Go.Proofs.YtealblliddhgiaaGreat
section
variable {P:Program}{M:Nat->Prop}{φ cu:Place}{H0:Hp}{w w' w0:World}{n:Nat}{s:S}{us:Nat->Prop}{a:Act}{cx:Cx}{ro:Option Nat}{k:Nat}
variable {Q:Exit->Act->World->Prop}
theorem DM{ops:Array Oper}{po:Nat->Nat->Prop}{m:Nat}{X:V->S->Prop}{K:S->Prop}
 (rB:∀k,k<ops.size->∀j∈bE ops k,j<k)
 (B6:∀E:Nat->Bool,(∀k,k<ops.size->E k=true->∀j∈bE ops k,E j=true)->∀k,k<ops.size->(∀j∈bE ops k,E j=true)->∀j,po k j->E j=true)
 (B7:∀k,m<=k->k<ops.size->∀j,j<k->po k j)
 (hK:∀s φ a w,K s->bY M cu H0 w0 n cx φ s a w->Q .normal a w)
 (hX:∀v s' aB a' w' val,X v s'->bY M cu H0 w0 n cx aB s' a' w'->V.den (aj M aB s'.H) aB s'.H w' v val->Q (.panic [{v:=val,recovered:=false}]) a' w'):
 ∀ (d t:Nat) (s:S) (φ:Place) (au:Array Bool) (a:Act) (w:World),t+d=ops.size->au.size=ops.size->(∀k,k<ops.size->au.getD k false=decide (k<t))->m<=t->
   bY M cu H0 w0 n cx φ s a w->vX P n ops X K (ops.toList.drop t) s->wpAnyIn (dD ro) k P .any ops Q d au a w:=by
 intro d
 induction d with
 |zero=>
  intro t s φ au a w ht dL hl EB hs h
  have e:t=ops.size:=by omega
  subst e
  refine⟨?_, ?_⟩
  ·rw[List.eq_nil_iff_forall_not_mem]
   intro j hj
   obtain⟨h1,o,h2,_⟩:=mem_ready.1 hj
   have Xo:j<ops.size:=(Array.getElem?_eq_some_iff.1 h2).1
   have:=hl j Xo
   simp only[Array.getD_eq_getD_getElem?]at this h1
   rw[Array.getElem?_eq_getElem (by omega)]at this h1
   simp only[Option.getD_some]at this h1
   rw[h1]at this
   simp[Xo]at this
  ·rw[List.drop_eq_nil_of_le (by simp)]at h
   exact hK s φ a w h hs
 |succ d ih=>
  intro t s φ au a w ht dL hl EB hs h
  have Ur:t<ops.size:=by omega
  refine⟨fun hr=> ?_,fun i hi=> ?_⟩
  ·have:=nQ rB dL hr t Ur
   rw[hl t Ur]at this
   simp at this
  ·obtain⟨h1,o,h2,h3⟩:=mem_ready.1 hi
   have rn:i<ops.size:=(Array.getElem?_eq_some_iff.1 h2).1
   have kT:au.getD i false=false:=by
    simp only[Array.getD_eq_getD_getElem?]at h1|-
    rw[Array.getElem?_eq_getElem (by omega)]at h1|-
    simpa using h1
   have Zo:t<=i:=by
    have:=hl i rn
    rw[kT]at this
    have:=of_decide_eq_false this.symm
    omega
   have Fw:∀j∈bE ops i,au.getD j false=true:=by
    intro j hj
    simp only[bE,h2,List.mem_map,List.mem_filter]at hj
    obtain⟨e,⟨he,hb⟩,rfl⟩:=hj
    exact h3 e (Array.mem_toList_iff.1 he) hb
   have lV:∀k,k<ops.size->au.getD k false=true->∀j∈bE ops k,au.getD j false=true:=by
    intro k hk fZ j hj
    have ON:=rB k hk j hj
    rw[hl k hk]at fZ
    rw[hl j (by omega)]
    have:=of_decide_eq_true fZ
    exact decide_eq_true (by omega)
   have T0:i=t:=by
    rcases Nat.eq_or_lt_of_le Zo with e|e
    ·exact e.symm
    ·have:=B6 (fun k=>au.getD k false) lV i rn Fw t (B7 i (by omega) rn t e)
     rw[hl t Ur]at this
     simp at this
   subst T0
   have yM:ops.toList.drop i=o::ops.toList.drop (i+1):=by
    have OX:i<ops.toList.length:=by simpa using rn
    rw[List.drop_eq_getElem_cons OX]
    have:ops.toList[i]=o:=by
     have:=(Array.getElem?_eq_some_iff.1 h2).2
     simpa using this
    rw[this]
   rw[yM]at h
   obtain⟨g1,g2⟩:=oR hs h
   have HW:∀k,k<ops.size->(au.setIfInBounds i true).getD k false=decide (k<i+1):=by
    intro k hk
    simp only[Array.getD_eq_getD_getElem?]
    by_cases e:k=i
    ·subst e;simp[dL,rn]
    ·rw[Array.getElem?_setIfInBounds_ne (Ne.symm e)]
     have:=hl k hk
     simp only[Array.getD_eq_getD_getElem?]at this
     rw[this]
     exact decide_eq_decide.2 (by omega)
   have lN:∀s' aB a' w',vX P n ops X K (ops.toList.drop (i+1)) s'->bY M cu H0 w0 n cx aB s' a' w'->wpAnyIn (dD ro) k P .any ops Q d (au.setIfInBounds i true) a' w':=
    fun s' aB a' w' hk jA=>ih (i+1) s' aB _ a' w' (by omega) (by simp[dL]) HW (by omega) jA hk
   unfold wpOpIn
   simp only[h2]
   split
   ·rename_i hw
    exact uM hs (g1 hw) (fun s' aB a' w' hk jA=>lN s' aB a' w' hk jA) (fun v s' aB w' val hx jA hd=>hX v s' aB a w' val hx jA hd)
   ·rename_i hw
    obtain⟨cC,h3⟩:=g2 (by simpa using hw)
    exact⟨fun _ _=>trivial,lN _ _ _ _ h3 (yo hs cC)⟩
theorem A2(bc:P.follows .mixedOrders=true){ops:Array Oper}{l:List bZ}{id:Nat}(nd:kg n ops ops.toList=some l)(rB:∀k,k<ops.size->∀j∈bE ops k,j<k){ac:Nat->eU}{m:Nat}(hm:m<=ops.size){X:V->S->Prop}{K:S->Prop}
 (hs:bY M cu H0 w0 n cx φ s a w) (Lt:∀i,i<m->JW P (eo (bR l) ac (fun _=>true) s i) (s.nx+i) (bR l i) (ac i))
 (Po:∀i,i<m->(ac i).ok=true)
 {po:Nat->Nat->Prop} (B6:∀E:Nat->Bool,(∀k,k<ops.size->E k=true->∀j∈bE ops k,E j=true)->∀k,k<ops.size->(∀j∈bE ops k,E j=true)->∀j,po k j->E j=true) (yL:∀k,k<ops.size->∀j,po k j->j<k)
 (hc:∀i j,i<j->j<m-> ¬po j i->Compat (bR l) ac (fun i=>um (ac i)) i j)
 (B7:∀k,m<=k->k<ops.size->∀j,j<k->po k j)
 (fX:vX P n ops X K (ops.toList.drop m) ⟨(eo (bR l) ac (fun _=>true) s m).env,(eo (bR l) ac (fun _=>true) s m).o,s.nx+m⟩)
 (hK:∀s φ a w,K s->bY M cu H0 w0 n cx φ s a w->Q .normal a w)
 (hX:∀v s' aB a' w' val,X v s'->bY M cu H0 w0 n cx aB s' a' w'->V.den (aj M aB s'.H) aB s'.H w' v val->Q (.panic [{v:=val,recovered:=false}]) a' w'):
 (Code.region id ops true).wpIn (dD ro) k P Q a w:=by
 refine wpIn_region_any bc ?_
 have hs:=yJ hs
 generalize ({w with drawn:=w.drawn+1}:World)=w at hs
 let N:=m
 let Ef (au:Array Bool) (k:Nat):Bool:=au.getD k false
 let A0 (au:Array Bool) (j:Nat):Prop:=j<s.nx\/∃k,k<N/\Ef au k=true/\j=s.nx+k
 have key:∀ (fuel:Nat) (au:Array Bool) (φ:Place) (a:Act) (w:World),au.size=ops.size->au.count true+fuel=ops.size->(∀k,k<ops.size->Ef au k=true->∀j∈bE ops k,Ef au j=true)->(∀k,k<ops.size->Ef au k=true->k<m)->
  rm M cu H0 w0 n cx φ (eo (bR l) ac (Ef au) s N) (A0 au) a w->wpAnyIn (dD ro) k P .any ops Q fuel au a w:=by
  have fin:∀ (fuel:Nat) (au:Array Bool) (φ:Place) (a:Act) (w:World),au.size=ops.size->au.count true+fuel=ops.size->(∀k,k<ops.size->Ef au k=true->k<m)->(∀k,k<N->Ef au k=true)->rm M cu H0 w0 n cx φ (eo (bR l) ac (Ef au) s N) (A0 au) a w->wpAnyIn (dD ro) k P .any ops Q fuel au a w:=by
   intro fuel au φ a w dL DJ bI aN hu
   have e:∀k,k<=N->eo (bR l) ac (Ef au) s k=eo (bR l) ac (fun _=>true) s k:=by
    intro k
    induction k with
    |zero=>intro _;rfl
    |succ k ih=>intro hk;simp only[eo,aN k (by omega),ih (by omega)]
   rw[e N (Nat.le_refl _)]at hu
   obtain⟨k1,k2⟩:=iK (us':=fun id=>id<s.nx+N) hu.heap (fun id h=>by
    show id<s.nx+N
    rcases h with h|⟨k,hk,_,rfl⟩<;>omega)
   have Us:∀k,k<ops.size->au.getD k false=decide (k<m):=by
    intro k hk
    by_cases h:k<m
    ·rw[decide_eq_true h];exact aN k h
    ·rw[decide_eq_false h]
     cases hb:au.getD k false with
     |false=>rfl
     |true=>exact absurd (bI k hk hb) h
   have H9:au.count true=m:=by
    have e1:au=Array.ofFn (n:=ops.size) fun k=>decide (k.1<m):=by
     apply Array.ext
     ·simp[dL]
     ·intro k h1 h2
      have:=Us k (by omega)
      simp only[Array.getD_eq_getD_getElem?]at this
      rw[Array.getElem?_eq_getElem h1]at this
      simpa using this
    have e2:au.toList=List.replicate m true++List.replicate (ops.size - m) false:=by
     apply List.ext_getElem?
     intro k
     by_cases hk:k<ops.size
     ·have h1:au.toList[k]? =some (decide (k<m)):=by
       have:=Us k hk
       simp only[Array.getD_eq_getD_getElem?]at this
       rw[Array.getElem?_eq_getElem (by omega)]at this
       simp only[Option.getD_some]at this
       rw[Array.getElem?_toList,Array.getElem?_eq_getElem (by omega),this]
      rw[h1]
      by_cases h:k<m
      ·rw[List.getElem?_append_left (by simpa using h)]
       simp[h]
      ·rw[List.getElem?_append_right (by simpa using(by omega:m<=k))]
       rw[List.length_replicate,List.getElem?_replicate,if_pos (by omega),decide_eq_false h]
     ·rw[List.getElem?_eq_none (by simp[dL];omega),List.getElem?_eq_none (by simp;omega)]
    rw[<- Array.count_toList,e2,List.count_append,List.count_replicate_self,List.count_replicate]
    simp
   exact DM rB B6 B7 hK hX fuel m ⟨(eo (bR l) ac (fun _=>true) s m).env,(eo (bR l) ac (fun _=>true) s m).o,s.nx+m⟩ φ au a w (by omega) dL Us (Nat.le_refl _) ⟨k1,hu.tr.trans k2,hu.size,hu.defers.mono k2,fun i=>V.aG k2 _ _ (hu.env i)⟩ fX
  intro fuel
  induction fuel with
  |zero=>
   intro au φ a w dL DJ lV bI hu
   have aN:∀k,k<ops.size->Ef au k=true:=by
    intro k hk
    have h1:au.count true=au.size:=by omega
    rw[Array.count_eq_size]at h1
    have:=h1 au[k] (Array.getElem_mem (by omega))
    simp only[Ef,Array.getD_eq_getD_getElem?]
    rw[Array.getElem?_eq_getElem (by omega)]
    simpa using this.symm
   exact fin 0 au φ a w dL DJ bI (fun k hk=>aN k (by omega)) hu
  |succ fuel ih=>
   intro au φ a w dL DJ lV bI hu
   by_cases JY:∀k,k<m->Ef au k=true
   ·exact fin (fuel+1) au φ a w dL DJ bI JY hu
   have hex:∃j,j<m/\Ef au j=false:=by
    apply Classical.byContradiction
    intro Am
    refine JY fun k hk=> ?_
    cases hb:Ef au k with
    |true=>rfl
    |false=>exact absurd ⟨k,hk,hb⟩ Am
   obtain⟨j0,hj0,Pp⟩:=hex
   refine⟨fun hr=> ?_,fun i hi=> ?_⟩
   ·have:=nQ rB dL hr j0 (by omega)
    rw[show au.getD j0 false=false from Pp]at this
    cases this
   obtain⟨h1,o,h2,h3⟩:=mem_ready.1 hi
   have Ut:i<ops.size:=(Array.getElem?_eq_some_iff.1 h2).1
   have kT:Ef au i=false:=by
    simp only[Ef,Array.getD_eq_getD_getElem?]at h1|-
    rw[Array.getElem?_eq_getElem (by omega)]at h1|-
    simpa using h1
   have Fw:∀j∈bE ops i,Ef au j=true:=by
    intro j hj
    simp only[bE,h2,List.mem_map,List.mem_filter]at hj
    obtain⟨e,⟨he,hb⟩,rfl⟩:=hj
    exact h3 e (Array.mem_toList_iff.1 he) hb
   have rn:i<N:=by
    apply Classical.byContradiction
    intro Aq
    have Aq:m<=i:=Nat.le_of_not_lt Aq
    have:=B6 _ lV i Ut Fw j0 (B7 i Aq Ut j0 (by omega))
    rw[Pp]at this;cases this
   have Fy:wF N po (Ef au):=fun k hk fZ=>B6 _ lV k (by omega) (lV k (by omega) fZ)
   obtain⟨Pm,S6⟩:=agree (s:=s) (n:=N) (fun k hk=>yL k (by omega)) hc Fy rn kT (B6 _ lV i (by omega) Fw)
   obtain⟨g1,g2,g3,g4⟩:=uU (sL _ _ i o nd (by simpa using h2))
   have cL: ¬A0 au (s.nx+i):=by
    rintro(h|⟨k,_,hk,he⟩)
    ·omega
    ·have:k=i:=by omega
     subst this;rw[kT]at hk;cases hk
   have AZ:∀k,Ef (au.setIfInBounds i true) k=(Ef au k||k==i):=by
    intro k
    simp only[Ef,Array.getD_eq_getD_getElem?]
    by_cases e:k=i
    ·subst e;simp[dL,Ut]
    ·rw[Array.getElem?_setIfInBounds_ne (Ne.symm e)]
     have:(k==i)=false:=by simpa using e
     simp[this]
   have Lw:=insert (s:=s) hc Fy rn kT AZ
   have Lx:∀k,k<ops.size->Ef (au.setIfInBounds i true) k=true->∀j∈bE ops k,Ef (au.setIfInBounds i true) j=true:=by
    intro k hk fZ j hj
    rw[AZ]at fZ|-
    by_cases e:k=i
    ·subst e;simp[Fw j hj]
    ·have:(k==i)=false:=by simpa using e
     rw[this,Bool.or_false]at fZ
     simp[lV k hk fZ j hj]
   have Fz:(au.setIfInBounds i true).count true+fuel=ops.size:=by
    have bI:i<au.size:=by omega
    have e1:au.setIfInBounds i true=au.set i true bI:=by simp[Array.setIfInBounds,bI]
    have e2:au[i]=false:=by
     have:=kT
     simp only[Ef,Array.getD_eq_getD_getElem?]at this
     rw[Array.getElem?_eq_getElem bI]at this
     simpa using this
    rw[e1,Array.count_set bI,e2]
    simp
    omega
   have lN:(ac i).ok=true->∀aB a' w',rm M cu H0 w0 n cx aB (ub o.dst (ac i) (eo (bR l) ac (Ef au) s N)) (fun id=>A0 au id\/id=s.nx+i) a' w'->wpAnyIn (dD ro) k P .any ops Q fuel (au.setIfInBounds i true) a' w':=by
    intro Pn aB a' w' vQ
    refine ih _ aB a' w' (by simp[dL]) Fz Lx (fun k hk fZ=> ?_) ?_
    ·rw[AZ]at fZ
     by_cases e:k=i
     ·subst e;exact rn
     ·have:(k==i)=false:=by simpa using e
      rw[this,Bool.or_false]at fZ
      exact bI k hk fZ
    rw[Lw,g2]
    obtain⟨k1,k2⟩:=iK (us':=A0 (au.setIfInBounds i true)) vQ.heap (fun id h=>by
     rcases h with(h|⟨k,hk,fZ,rfl⟩)|rfl
     ·exact .inl h
     ·exact .inr ⟨k,hk,by rw[AZ,fZ];rfl,rfl⟩
     ·exact .inr ⟨i,rn,by rw[AZ];simp,rfl⟩)
    exact⟨k1,vQ.tr.trans k2,vQ.size,vQ.defers.mono k2,fun j=>V.aG k2 _ _ (vQ.env j)⟩
   have DK:∀d want,(bR l i).gd=some (d,want)->(eo (bR l) ac (Ef au) s N).env d=(eo (bR l) ac (fun _=>true) s i).env d:=fun d want hd=>Pm d (by simp[eJ,tmpsOf,hd])
   have bB:=Lt i rn
   have DL:∀x∈(bR l i).op.operands,(eo (bR l) ac (Ef au) s N).ev x=(eo (bR l) ac (fun _=>true) s i).ev x:=fun x hx=>yH fun t ht=>Pm t (by
    subst ht
    simp only[eJ,tmpsOf,List.mem_append,List.mem_filterMap]
    exact .inl (.inl ⟨.tmp t,Array.mem_toList_iff.2 hx,rfl⟩))
   have H8:(eo (bR l) ac (Ef au) s N).nx=(eo (bR l) ac (fun _=>true) s i).nx:=(ji N).trans (ji i).symm
   unfold wpOpIn
   simp only[h2]
   cases rp:ac i with
   |skip=>
    rw[rp]at bB lN
    have hw:=fg hu.env g4 (fh DK bB)
    simp only[hw,Bool.false_eq_true,if_false]
    refine⟨fun _ _=>trivial,lN rfl φ _ w ?_⟩
    have:=gZ (v:= .bU []) (val:=undef) hu hu.heap (Trans.refl _ _ _) ⟨#[],rfl,rfl⟩ (dst:=o.dst) g3 rfl (us':=fun id=>A0 au id\/id=s.nx+i) (fun id h=> .inl h)
    exact this
   |val v Δ rd=>
    rw[rp]at bB lN
    have hw:=fg hu.env g4 (fh DK bB.1)
    simp only[hw,if_true]
    obtain⟨uQ,rb⟩:=qJ DL (fun id aw=>S6 id (by rw[rp];exact aw)) H8 bB.2
    exact yG hu cL (fun id h=> .inl (by rw[ji]at h;exact h)) g1.symm g3 rb (lN rfl)
   |bJ v ws rd=>
    have:=Po i rn
    rw[rp]at this;cases this
   |eA=>
    have:=Po i rn
    rw[rp]at this;cases this
 refine key ops.size _ φ a w (by simp) (by simp[Array.count_replicate]) (fun k hk fZ=> ?_) (fun k hk fZ=> ?_) ?_
 ·simp[Ef,Array.getD_eq_getD_getElem?,Array.getElem?_replicate]at fZ
  split at fZ<;>simp at fZ
 ·simp[Ef,Array.getD_eq_getD_getElem?,Array.getElem?_replicate]at fZ
  split at fZ<;>simp at fZ
 ·have e:∀k,eo (bR l) ac (Ef (Array.replicate ops.size false)) s k=s:=by
   intro k
   induction k with
   |zero=>rfl
   |succ k ih=>
    have:Ef (Array.replicate ops.size false) k=false:=by
     simp only[Ef,Array.getD_eq_getD_getElem?,Array.getElem?_replicate]
     split<;>rfl
    simp only[eo,this,ih]
    rfl
  rw[e]
  obtain⟨k1,k2⟩:=iK (us':=A0 (Array.replicate ops.size false)) hs.heap (fun id h=> .inl h)
  exact⟨k1,hs.tr.trans k2,hs.size,hs.defers.mono k2,fun j=>V.aG k2 _ _ (hs.env j)⟩
end
end Go.Proofs.YtealblliddhgiaaGreat
