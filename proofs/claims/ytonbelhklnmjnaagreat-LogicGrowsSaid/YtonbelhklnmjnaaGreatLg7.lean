/-
  A PART OF THE PROOF. Conditions: none.
-/
import Derived.OrdersIn
import Derived.Test.YtonbelhklnmjnaaGreatLg6
set_option linter.unusedSimpArgs false
set_option linter.unusedVariables false
namespace Go.Proofs.YtonbelhklnmjnaaGreat
def ab.refs:ab->List Nat
 | .row cs=>V.aN cs
 | .loop _ _ env _ _ _ _ _=>V.aN env
 |_=>[]
def DU(R:List Nat)(o:Nat->ab):Nat->ab:=fun id=>if R.contains id=true then o id else .no
def Fa(P:Program)(g:FuncId)(args:List V)(rd:List Nat)(o:Nat->ab)(out:R)(Δ:List (Nat×ab)):Prop:=
 Enters P g/\∀ (o':Nat->ab) (us:Nat->Prop) (M:Nat->Prop) (φ:Place) (w:World) (vals:Array Value),(∀id∈rd,o' id=o id/\us id)->aC M φ ⟨o',us⟩ w->V.aM (ax M φ ⟨o',us⟩) φ ⟨o',us⟩ w args vals.toList->
  Calls P g vals w fun e w'=>∃aO,aC M aO ⟨put o' Δ,us⟩ w'/\Trans φ ⟨o',us⟩ w aO ⟨put o' Δ,us⟩ w'/\out.is (ax M aO ⟨put o' Δ,us⟩) w' e
def xE(P:Program)(g:FuncId)(args:List V)(rd:List Nat)(o:Nat->ab)(fr:Nat)(v:V)(Δ:List (Nat×ab)):Prop:=
 Enters P g/\∀ (o':Nat->ab) (us:Nat->Prop) (M:Nat->Prop) (φ:Place) (w:World) (vals:Array Value),(∀id∈rd,o' id=o id/\us id)-> ¬us fr->aC M φ ⟨o',us⟩ w->V.aM (ax M φ ⟨o',us⟩) φ ⟨o',us⟩ w args vals.toList->
  Calls P g vals w fun e w'=>∃aO,aC M aO ⟨put o' Δ,fun id=>us id\/id=fr⟩ w'/\Trans φ ⟨o',us⟩ w aO ⟨put o' Δ,fun id=>us id\/id=fr⟩ w'/\∃val,e= .returned val/\V.den (ax M aO ⟨put o' Δ,fun id=>us id\/id=fr⟩) aO ⟨put o' Δ,fun id=>us id\/id=fr⟩ w' v val
mutual
theorem V.nj {B B':Nat->Prop}{φ aO:Place}{H H':Hp}{w:World}(hB:∀b, ¬B b-> ¬B' b):∀ (v:V) (val:Value),(∀id∈v.refs,H'.o id=H.o id/\aO id=φ id/\H'.us id)->V.den B φ H w v val->V.den B' aO H' w v val
 | .d x,val,_,h=>D.aS (w:=w) (w':=w) (fun b _ hn=>⟨rfl,hB b hn⟩) x val h
 | .bW,_,_,h=>h
 | .aa,_,_,_=>trivial
 | .eZ,_,_,h=>h
 | .qT es,val,_,h=>⟨D.aS (w:=w) (w':=w) (fun b _ hn=>⟨rfl,hB b hn⟩) (.sl es) val h.1,h.2⟩
 | .agg cs,val,hr,h=>by
   obtain⟨a,rfl,h1,h2⟩:=h
   exact⟨a,rfl,V.gS hB cs _ Gs h1,h2⟩
 | .ck cs,val,hr,h=>by
   obtain⟨a,rfl,h1⟩:=h
   exact⟨a,rfl,V.gS hB cs _ Gs h1⟩
 | .ptr id off,val,hr,h=>by
   obtain⟨a,b,c⟩:=hr id s9
   obtain⟨h0,h1,h2⟩:=h
   refine⟨h0,c,fun bX=> ?_⟩
   rw[a]at bX
   obtain⟨x,y,z⟩:=h2 bX
   exact⟨x,b.trans y,z⟩
 | .osl id ep,val,hr,h=>by
   obtain⟨a,b,c⟩:=hr id s9
   obtain⟨h0,h1,h2⟩:=h
   refine⟨h0,c,fun e he=> ?_⟩
   rw[a]at he
   obtain⟨x,y⟩:=h2 e he
   exact⟨x,fun heq=>(y heq).trans b.symm⟩
 | .pe id ep i sz off,val,hr,h=>by
   obtain⟨a,b,c⟩:=hr id s9
   obtain⟨h0,h1,h2⟩:=h
   refine⟨h0,c,fun e he=> ?_⟩
   rw[a]at he
   obtain⟨x,y⟩:=h2 e he
   refine⟨x,fun heq=> ?_⟩
   obtain⟨p,q,r,z,u⟩:=y heq
   exact⟨p,q,r,b.trans z,u⟩
 | .pp cs off,val,_,h=>by
   obtain⟨a,ev,h1,h2,h3,h5,h4⟩:=h
   exact⟨a,ev,h1,h2,D.a8 (w:=w) (w':=w) (fun b _ hn=>⟨rfl,hB b hn⟩) cs ev h3,h5,h4.mono (w:=w) (w':=w) (fun b _ hn=>⟨rfl,hB b hn⟩)⟩
 | .func fn first cap,val,hr,h=>by
   obtain⟨f,c,rfl,h1,h2⟩:=h
   exact⟨f,c,rfl,V.gS hB first _ (fun id aB=>hr id MR) h1,V.gS hB cap _ (fun id aB=>hr id MR) h2⟩
 | .iface t x,val,hr,h=>by
   obtain⟨u,rfl,h⟩:=h
   exact⟨u,rfl,V.nj hB x u Gs h⟩
 | .wY id off n,val,hr,h=>by
   obtain⟨a,b,c⟩:=hr id s9
   obtain⟨h0,h1,h2⟩:=h
   refine⟨h0,c,fun bX=> ?_⟩
   rw[a]at bX
   obtain⟨x,y,z⟩:=h2 bX
   exact⟨x,b.trans y,z⟩
 | .mp id,val,hr,h=>by
   obtain⟨a,b,c⟩:=hr id s9
   obtain⟨h0,h1,h2⟩:=h
   refine⟨h0,c,fun bX=> ?_⟩
   rw[a]at bX
   exact(h2 bX).trans b.symm
 | .jO id,val,hr,h=>by
   obtain⟨a,b,c⟩:=hr id s9
   obtain⟨h0,h1,h2⟩:=h
   refine⟨h0,c,fun bX=> ?_⟩
   rw[a]at bX
   obtain⟨x,y,z⟩:=h2 bX
   exact⟨x,b.trans y,z⟩
theorem V.gS {B B':Nat->Prop}{φ aO:Place}{H H':Hp}{w:World}(hB:∀b, ¬B b-> ¬B' b):∀ (vs:List V) (vals:List Value),(∀id∈V.aN vs,H'.o id=H.o id/\aO id=φ id/\H'.us id)->V.aM B φ H w vs vals->V.aM B' aO H' w vs vals
 |[],_,_,h=>h
 |v::vs,_,hr,h=>by
  obtain⟨u,us,rfl,h1,h2⟩:=h
  exact⟨u,us,rfl,V.nj hB v u (fun id aB=>hr id MQ) h1,V.gS hB vs us (fun id aB=>hr id MQ) h2⟩
end
theorem G8{env:List V}{i id:Nat}(h:id∈(bA env i).refs):id∈V.aN env:=by
 unfold bA at h
 induction env generalizing i with
 |nil=>simp[V.refs]at h
 |cons v env ih=>
  cases i with
  |zero=>simp only[List.getD_cons_zero]at h;simp[V.aN,h]
  |succ i=>simp only[List.getD_cons_succ]at h;simp[V.aN,ih h]
theorem ba.refs {M M':Nat->Prop}{φ aO:Place}{H H':Hp}{w:World}{id:Nat}(hB:∀b, ¬ax M φ H b-> ¬ax M' aO H' b)(ho:H'.o id=H.o id)(eW:aO id=φ id)
 (hr:∀j∈(H.o id).refs,H'.o j=H.o j/\aO j=φ j/\H'.us j) (h:ba M φ H w id):ba M' aO H' w id:=by
 have hd:∀b,dt w b-> ¬ax M φ H b->w.heap[b]? =w.heap[b]? /\ ¬ax M' aO H' b:=fun b _ hn=>⟨rfl,hB b hn⟩
 unfold ba at*
 rw[ho]
 cases hx:H.o id with
 |no=>trivial
 |row cs=>
  simp only[hx]at h|-
  obtain⟨b,dO,ty,h1,h2,h3,h4⟩:=h
  exact⟨b,dO,ty,eW.trans h1,h2,V.gS hB cs _ (fun j hj=>hr j (by rw[hx];exact hj)) h3,h4⟩
 |arr ep ty sz es=>
  simp only[hx]at h|-
  obtain⟨h0,xs,h1,evs,h2,h3,h4⟩:=h
  exact⟨h0,xs,by rw[eW];exact h1,evs,h2,h3,D.a8 hd es evs h4⟩
 |su ep es=>
  simp only[hx]at h|-
  rw[eW]
  exact D.aS hd (.sl es) _ h
 |map kt vt l=>
  simp only[hx]at h|-
  obtain⟨b,es,clock,h1,h2,h4,h3⟩:=h
  exact⟨b,es,clock,eW.trans h1,h2,h4,aW.mono hd l _ h3⟩
 |iJ l=>
  simp only[hx]at h|-
  rw[eW]
  exact D.aS hd (.mp _ _) _ h
 |mP l last=>
  simp only[hx]at h|-
  obtain⟨b,h1,h2⟩:=h
  exact⟨b,eW.trans h1,h2.mono hd rfl⟩
 |yR s pos=>
  simp only[hx]at h|-
  obtain⟨b,h1,h2⟩:=h
  exact⟨b,eW.trans h1,h2⟩
 |loop nf n env ps iK eE st GC=>
  simp only[hx]at h|-
  obtain⟨b,r,h1,h2,h0,h3,h4,h5,h6,h7,h8,h9⟩:=h
  exact⟨b,r,eW.trans h1,h2,h0,h3,h4,h5,h6,h7,h8,fun i=>V.nj hB _ _ (fun j hj=>hr j (by rw[hx];exact G8 hj)) (h9 i)⟩
section
variable {P:Program}
theorem DV{o o':Nat->ab}{Δ:List (Nat×ab)}{id:Nat}(h:o id=o' id):put o Δ id=put o' Δ id:=Fb h
where Fb {o o':Nat->ab}:∀ {Δ:List (Nat×ab)} {id:Nat},o id=o' id->put o Δ id=put o' Δ id
 |[],_,h=>h
 |x::Δ,id,h=>by
  simp only[put,List.foldl_cons]
  refine Fb (Δ:=Δ) (o:=aL o x.1 x.2) (o':=aL o' x.1 x.2) ?_
  simp only[aR]
  split
  ·rfl
  ·exact h
theorem zB{o:Nat->ab}:∀ {Δ:List (Nat×ab)} {id:Nat},(∀x∈Δ,x.1≠id)->put o Δ id=o id
 |[],_,_=>rfl
 |x::Δ,id,h=>by
  have:=zB (o:=aL o x.1 x.2) (Δ:=Δ) (id:=id) (fun y hy=>h y AU)
  simp only[put,List.foldl_cons]at this|-
  rw[this];simp[Ne.symm (h x (by simp))]
theorem Fa.mf {g:FuncId}{args:List V}{rd:List Nat}{o:Nat->ab}{nx:Nat}{out:R}{Δ:List (Nat×ab)}(tL:∀id∈rd,id<nx)(dT:∀id∈V.aN args,id∈rd)(pE:∀id∈rd,∀j∈(o id).refs,j∈rd)(S8:∀x∈Δ,x.1∈rd)(abC:∀x∈Δ,∀j∈x.2.refs,j∈rd)
 (h:cK P g args (DU rd o) nx
  (fun v o1 _=>(∀id∈rd,o1 id=put o Δ id)/\∃vs rs,v=(match vs with|[v]=>v|vs=> .ck vs)/\cn o1 vs=some rs/\out= .ret rs/\∀id∈V.bF vs,id∉rd)
  (fun v o1 _=>(∀id∈rd,o1 id=put o Δ id)/\∃x,dZ o1 v=some x/\out= .bR x/\∀id∈v.ids,id∉rd)):Fa P g args rd o out Δ:=by
 refine⟨h.1,fun o' us M φ w vals ho hH hd=> ?_⟩
 let M1:Nat->Prop:=fun b=>M b\/∃id,id∉rd/\(o' id).live=true/\eK (φ id)=some b
 let HR:Hp:=hp (DU rd o) nx
 have uJ:∀id,id∈rd->DU rd o id=o' id:=fun id aB=>by simp[DU,aB,(ho id aB).1]
 have sI:∀id,id∉rd->DU rd o id= .no:=fun id aB=>by simp[DU,aB]
 have hB:∀b,ax M1 φ HR b↔ax M φ ⟨o',us⟩ b:=by
  intro b
  constructor
  ·rintro((h|⟨id,h1,h2,h3⟩)|⟨id,h1,h2⟩)
   ·exact .inl h
   ·exact .inr ⟨id,h2,h3⟩
   ·by_cases aB:id∈rd
    ·exact .inr ⟨id,by show(o' id).live=true;rw[<- uJ id aB];exact h1,h2⟩
    ·have:HR.o id= .no:=sI id aB
     rw[this]at h1;cases h1
  ·rintro(h|⟨id,h1,h2⟩)
   ·exact .inl (.inl h)
   ·by_cases aB:id∈rd
    ·exact .inr ⟨id,by show(DU rd o id).live=true;rw[uJ id aB];exact h1,h2⟩
    ·exact .inl (.inr ⟨id,aB,h1,h2⟩)
 have Jg:∀id∈rd,HR.o id=o' id/\φ id=φ id/\HR.us id:=fun id aB=>⟨uJ id aB,rfl,tL id aB⟩
 have hHR:aC M1 φ HR w:=by
  refine⟨fun id=> ?_,fun id hn=> ?_,fun i j b hi hj bi bj=> ?_,fun b hb=> ?_,fun b hb=> ?_⟩
  ·by_cases aB:id∈rd
   ·refine ba.refs (H:=⟨o',us⟩) (M:=M) (φ:=φ) (fun b hn hb=>hn ((hB b).1 hb)) (uJ id aB) rfl (fun j hj=>Jg j ?_) (hH.ok id)
    have:o' id=o id:=(ho id aB).1
    exact pE id aB j (by rw[<- this];exact hj)
   ·unfold ba
    rw[show HR.o id= .no from sI id aB];trivial
  ·exact sI id fun aB=>hn (tL id aB)
  ·have live:∀i,(HR.o i).live=true->i∈rd/\(o' i).live=true:=fun i hi=>by
    by_cases aB:i∈rd
    ·exact⟨aB,by rw[<- uJ i aB];exact hi⟩
    ·rw[show HR.o i= .no from sI i aB]at hi;cases hi
   exact hH.apart i j b (live i hi).2 (live j hj).2 bi bj
  ·obtain⟨id,h1,h2⟩:=hb
   have aB:id∈rd:=by
    by_cases aB:id∈rd
    ·exact aB
    ·rw[show HR.o id= .no from sI id aB]at h1;cases h1
   rw[show HR.o id=o' id from uJ id aB]at h1
   obtain⟨k1,k2⟩:=hH.ours b ⟨id,h1,h2⟩
   refine⟨?_,k2⟩
   rintro(hM|⟨j,j1,j2,j3⟩)
   ·exact k1 hM
   ·exact j1 (hH.apart j id b j2 h1 j3 h2 ▸ aB)
  ·rcases hb with hb|⟨id,h1,h2,h3⟩
   ·exact hH.AD b hb
   ·exact(hH.ours b ⟨id,h2,h3⟩).2
 have hdR:V.aM (ax M1 φ HR) φ HR w args vals.toList:=V.gS (H:=⟨o',us⟩) (fun b hn hb=>hn ((hB b).1 hb)) _ _ (fun id aB=>Jg id (dT id aB)) hd
 refine(h.2 M1 φ w vals hHR hdR).mono ?_
 rintro e w' ⟨jv,o1,AJ,v,k1,k2,k3⟩
 have main:(∀id∈rd,o1 id=put o Δ id)->∃aO,aC M aO ⟨put o' Δ,us⟩ w'/\Trans φ ⟨o',us⟩ w aO ⟨put o' Δ,us⟩ w'/\∀b,ax M aO ⟨put o' Δ,us⟩ b->M1 b\/∃id∈rd,(o1 id).live=true/\eK (jv id)=some b:=by
  intro wh
  have E2:∀id∈rd,put o' Δ id=o1 id:=fun id aB=>(DV (ho id aB).1).trans (wh id aB).symm
  have IA:∀id,id∉rd->put o' Δ id=o' id:=fun id aB=>zB fun x hx e=>aB (e ▸ S8 x hx)
  let G0:Place:=fun id=>if id∈rd then jv id else φ id
  have zC:∀id∈rd,G0 id=jv id:=fun id aB=>if_pos aB
  have BH:∀id,id∉rd->G0 id=φ id:=fun id aB=>if_neg aB
  let H2:Hp:=⟨put o' Δ,us⟩
  have c0:∀b,de G0 H2 b->(∃id∈rd,(o1 id).live=true/\eK (jv id)=some b)\/∃id,id∉rd/\(o' id).live=true/\eK (φ id)=some b:=by
   rintro b ⟨id,h1,h2⟩
   by_cases aB:id∈rd
   ·exact .inl ⟨id,aB,by rw[<- E2 id aB];exact h1,by rw[<- zC id aB];exact h2⟩
   ·exact .inr ⟨id,aB,by rw[<- IA id aB];exact h1,by rw[<- BH id aB];exact h2⟩
  have hB2:∀b,ax M G0 H2 b->ax M1 jv (hp o1 AJ) b:=by
   rintro b (hb|hb)
   ·exact .inl (.inl hb)
   ·rcases c0 b hb with⟨id,h1,h2,h3⟩|⟨id,h1,h2,h3⟩
    ·exact .inr ⟨id,h2,h3⟩
    ·exact .inl (.inr ⟨id,h1,h2,h3⟩)
  have X9:ej φ ⟨o',us⟩ G0 H2:=by
   refine⟨fun id h=>h,fun id hu hr=> ?_,fun id e' hu he=> ?_⟩
   ·by_cases aB:id∈rd
    ·rw[show H2.o id=o1 id from E2 id aB]at hr
     obtain⟨a,b⟩:=k2.rel.row id (tL id aB) hr
     rw[show HR.o id=o' id from uJ id aB]at a
     exact⟨a,(zC id aB).trans b⟩
    ·rw[show H2.o id=o' id from IA id aB]at hr
     exact⟨hr,BH id aB⟩
   ·by_cases aB:id∈rd
    ·rw[show H2.o id=o1 id from E2 id aB]at he
     obtain⟨e0,a,b,c⟩:=k2.rel.ep id e' (tL id aB) he
     rw[show HR.o id=o' id from uJ id aB]at a
     exact⟨e0,a,b,fun heq=>(zC id aB).trans (c heq)⟩
    ·rw[show H2.o id=o' id from IA id aB]at he
     exact⟨e',he,Nat.le_refl _,fun _=>BH id aB⟩
  have yW:∀b,dt w b-> ¬ax M φ ⟨o',us⟩ b->w'.heap[b]? =w.heap[b]? /\ ¬ax M G0 H2 b:=by
   intro b hc hn
   obtain⟨a,c⟩:=k2.blocks (M:=M1) b hc (fun hb=>hn ((hB b).1 hb))
   exact⟨a,fun hb=>c (hB2 b hb)⟩
  have wH:∀b,b<w.heap.size-> ¬de φ HR b->w'.heap[b]? =w.heap[b]? :=fun b hb hl=>k2.cw.block b hb hl
  have ht:Trans φ ⟨o',us⟩ w G0 H2 w':=by
   refine⟨⟨k2.cw.os,k2.cw.tape,k2.cw.output,k2.cw.size,fun b hb hl=>wH b hb fun⟨id,h1,h2⟩=>hl ?_⟩,fun b hb=> ?_,X9⟩
   ·by_cases aB:id∈rd
    ·exact⟨id,by show(o' id).live=true;rw[<- uJ id aB];exact h1,h2⟩
    ·rw[show HR.o id= .no from sI id aB]at h1;cases h1
   ·rcases c0 b hb with⟨id,h1,h2,h3⟩|⟨id,h1,h2,h3⟩
    ·rcases k2.grow b ⟨id,h2,h3⟩with⟨j,j1,j2⟩|AF
     ·by_cases aB:j∈rd
      ·exact .inl ⟨j,by show(o' j).live=true;rw[<- uJ j aB];exact j1,j2⟩
      ·rw[show HR.o j= .no from sI j aB]at j1;cases j1
     ·exact .inr AF
    ·exact .inl ⟨id,h2,h3⟩
  refine⟨G0,⟨fun id=> ?_,fun id hn=> ?_,fun i j b hi hj bi bj=> ?_,fun b hb=> ?_,fun b hb=>Nat.lt_of_lt_of_le (hH.AD b hb) k2.cw.size⟩,ht,fun b hb=> ?_⟩
  ·by_cases aB:id∈rd
   ·refine ba.refs (H:=hp o1 AJ) (M:=M1) (φ:=jv) (fun b hn hb=>hn (hB2 b hb)) (E2 id aB) (zC id aB) (fun j hj=> ?_) (k1.ok id)
    have Iw:j∈rd:=by
     have e1:o1 id=put o Δ id:=wh id aB
     have hj:j∈(put o Δ id).refs:=by rw[<- e1];exact hj
     have key:∀ (Fc:List (Nat×ab)) (q:Nat->ab),(∀x∈Fc,∀j∈x.2.refs,j∈rd)->(∀j∈(q id).refs,j∈rd)->∀j∈(put q Fc id).refs,j∈rd:=by
      intro Fc
      induction Fc with
      |nil=>intro q _ h2;exact h2
      |cons x Fc ih=>
       intro q h1 h2
       simp only[put,List.foldl_cons]
       refine ih (aL q x.1 x.2) (fun y hy=>h1 y AU) ?_
       simp only[aR]
       split
       ·exact h1 x aj
       ·exact h2
     exact key Δ o abC (pE id aB) j hj
    exact⟨E2 j Iw,zC j Iw,(ho j Iw).2⟩
   ·exact ba.A4 yW X9 (IA id aB) (BH id aB) (fun hl b hb=>wH b (hH.ours b ⟨id,hl,hb⟩).2 fun⟨j,j1,j2⟩=>by
     by_cases hj:j∈rd
     ·rw[show HR.o j=o' j from uJ j hj]at j1
      exact aB (hH.apart id j b hl j1 hb j2 ▸ hj)
     ·rw[show HR.o j= .no from sI j hj]at j1;cases j1) (hH.ok id)
  ·have aB:id∉rd:=fun aB=>hn (ho id aB).2
   exact(IA id aB).trans (hH.fresh id hn)
  ·by_cases e1:i∈rd<;>by_cases e2:j∈rd
   ·refine k1.apart i j b ?_ ?_ (by rw[<- zC i e1];exact bi) (by rw[<- zC j e2];exact bj)
    ·show(o1 i).live=true;rw[<- E2 i e1];exact hi
    ·show(o1 j).live=true;rw[<- E2 j e2];exact hj
   ·exfalso
    refine(k1.ours b ⟨i,by show(o1 i).live=true;rw[<- E2 i e1];exact hi,by rw[<- zC i e1];exact bi⟩).1 (.inr ⟨j,e2,by rw[<- IA j e2];exact hj,by rw[<- BH j e2];exact bj⟩)
   ·exfalso
    refine(k1.ours b ⟨j,by show(o1 j).live=true;rw[<- E2 j e2];exact hj,by rw[<- zC j e2];exact bj⟩).1 (.inr ⟨i,e1,by rw[<- IA i e1];exact hi,by rw[<- BH i e1];exact bi⟩)
   ·exact hH.apart i j b (by show(o' i).live=true;rw[<- IA i e1];exact hi) (by show(o' j).live=true;rw[<- IA j e2];exact hj) (by rw[<- BH i e1];exact bi) (by rw[<- BH j e2];exact bj)
  ·rcases c0 b hb with⟨id,h1,h2,h3⟩|⟨id,h1,h2,h3⟩
   ·obtain⟨a,c⟩:=k1.ours b ⟨id,h2,h3⟩
    exact⟨fun hM=>a (.inl hM),c⟩
   ·obtain⟨a,c⟩:=hH.ours b ⟨id,h2,h3⟩
    exact⟨a,Nat.lt_of_lt_of_le c k2.cw.size⟩
  ·rcases hb with hb|hb
   ·exact .inl (.inl hb)
   ·rcases c0 b hb with h|h
    ·exact .inr h
    ·exact .inl (.inr h)
 have res:∀ (vs:List V) (xs:List D) (us':List Value),(∀id∈rd,o1 id=put o Δ id)->cn o1 vs=some xs->(∀id∈V.bF vs,id∉rd)->V.aM (ax M1 jv (hp o1 AJ)) jv (hp o1 AJ) w' vs us'->
  ∃aO,aC M aO ⟨put o' Δ,us⟩ w'/\Trans φ ⟨o',us⟩ w aO ⟨put o' Δ,us⟩ w'/\D.aM (ax M aO ⟨put o' Δ,us⟩) w' xs us':=by
  intro vs xs us' wh h1 abD h2
  obtain⟨f1,f2,f3,f4,f5⟩:=du k1 (V.bF vs) (dh vs _ h2)
  have h3:=dE f1 vs xs us' f3 h1 (V.a8 f2 _ _ h2)
  obtain⟨aO,m1,m2,m3⟩:=main wh
  refine⟨aO,m1,m2,D.a8 (w:=w') (w':=w') (fun b _ hn=>⟨rfl,fun hb=>hn ?_⟩) xs us' h3⟩
  rcases m3 b hb with hb|⟨id,i1,i2,i3⟩
  ·exact .inl hb
  ·exact .inr ⟨id,by rw[f4 id fun hm=>abD id hm i1];exact i2,i3⟩
 cases e with
 |outgrown=>exact k3.elim
 |panicked ch=>
  obtain⟨val,rfl,g1,wh,x,g2,rfl,g3⟩:=k3
  obtain⟨aO,m1,m2,m3⟩:=res [v] [x] [val] wh (by simp[cn,g2]) (by simpa[V.bF]using g3) ⟨val,[],rfl,g1,rfl⟩
  obtain⟨u,us2,he,h2,_⟩:=m3
  simp at he;obtain⟨rfl,rfl⟩:=he
  exact⟨aO,m1,m2,val,rfl,h2⟩
 |returned val=>
  obtain⟨g1,wh,vs,rs,rfl,g2,rfl,g3⟩:=k3
  match vs,g1,g2,g3 with
  |[],g1,g2,g3=>
   obtain⟨arr,rfl,hv⟩:=g1
   simp only[cn,Option.some.injEq]at g2;subst g2
   obtain⟨aO,m1,m2,m3⟩:=res [] [] arr.toList wh rfl (by simp[V.bF]) hv
   exact⟨aO,m1,m2,arr,rfl,m3⟩
  |[v],g1,g2,g3=>
   obtain⟨aO,m1,m2,m3⟩:=res [v] rs [val] wh g2 g3 ⟨val,[],rfl,g1,rfl⟩
   refine⟨aO,m1,m2, ?_⟩
   cases rs with
   |nil=>cases m3
   |cons x l=>
    obtain⟨u,us2,he,h2,h3⟩:=m3
    simp at he;obtain⟨rfl,rfl⟩:=he
    cases l with
    |nil=>exact h2
    |cons y l=>obtain⟨_,_,h,_⟩:=h3;cases h
  |v::v2::l,g1,g2,g3=>
   obtain⟨arr,rfl,hv⟩:=g1
   obtain⟨aO,m1,m2,m3⟩:=res (v::v2::l) rs arr.toList wh g2 g3 hv
   refine⟨aO,m1,m2, ?_⟩
   have hl:=D.aH _ _ m3
   have yO:=V.aH _ _ hv
   match rs,hl,m3 with
   |[],hl,_=>exact MO
   |[x],hl,_=>exact MO
   |x::y::l,_,m3=>exact⟨arr,rfl,m3⟩
end
end Go.Proofs.YtonbelhklnmjnaaGreat
namespace Go.Proofs.YtonbelhklnmjnaaGreat
inductive fy where
 |skip|val (v:V) (Δ:List (Nat×ab)) (rd:List Nat)|bR (v:V) (ws rd:List Nat)|eK
 deriving Inhabited
def fy.ok:fy->Bool
 | .skip| .val .. =>true
 |_=>false
def wm(dst:Option Tmp)(x:fy)(s:S):S:=
 match x with
 | .skip=>⟨bu s.env dst (.ck []),s.o,s.nx⟩
 | .val v Δ _=>⟨bu s.env dst v,put s.o Δ,s.nx⟩
 | .bR .. | .eK=>⟨bu s.env dst .aa,s.o,s.nx⟩
def la:fy->List Nat
 | .val _ Δ _=>Δ.map (·.1)
 |_=>[]
def wI:fy->List Nat
 | .val _ _ rd=>rd
 | .bR _ _ rd=>rd
 |_=>[]
def PH(P:Program)(g:FuncId)(ds:List D)(v:V):Prop:=
 Enters P g/\∀ (M:Nat->Prop) (w:World) (vals:Array Value),(∀b,M b->b<w.heap.size)->D.aM M w ds vals.toList->
  Calls P g vals w fun e w'=>eF (fun _=>False) w w'/\∃val,e= .returned val/\∀φ H,V.den M φ H w' v val
theorem PH.mf {P:Program}{g:FuncId}{ds:List D}{v:V}(hr:v.refs=[])(h:cK P g (ds.map .d) (fun _=> .no) 0 (fun v' _ _=>v'=v) (fun _ _ _=>False)):PH P g ds v:=by
 refine⟨h.1,fun M w vals hM hd=> ?_⟩
 let cQ:Place:=fun _=> .nilFunc
 have wH:∀b, ¬de cQ (hp (fun _=> .no) 0) b:=by rintro b ⟨id,hl,_⟩;simp[hp,ab.live]at hl
 refine(h.2 M cQ w vals (lI cQ hM) ((V.cA _ _).2 (D.a8 (w:=w) (w':=w) (B:=M) (fun b _ hB=>⟨rfl,fun h=>h.elim hB (wH b)⟩) _ _ hd))).mono ?_
 rintro e w' ⟨aO,o',nx',v',k1,k2,k3⟩
 refine⟨⟨k2.cw.os,k2.cw.tape,k2.cw.output,k2.cw.size,fun k hk _=>k2.cw.block k hk (wH k)⟩, ?_⟩
 cases e with
 |outgrown=>exact k3.elim
 |panicked ch=>obtain⟨_,_,_,h⟩:=k3;exact h.elim
 |returned val=>
  obtain⟨g1,rfl⟩:=k3
  exact⟨val,rfl,fun φ H=>V.nj (B:=ax M aO (hp o' nx')) (φ:=aO) (H:=hp o' nx') (fun b hb hm=>hb (.inl hm)) v' val (fun id aB=>by rw[hr]at aB;cases aB) g1⟩
def xF(P:Program)(s:S)(fr:Nat)(op:Op)(v:V)(Δ:List (Nat×ab))(rd:List Nat):Prop:=
 ((∃tt,gD P s fr op=some (v,Δ,tt))/\rd=pC s op)\/
 (∃c f g first cap,op= .call c/\c.callee= .value f/\s.ev f= .func (.func g) first cap/\
  ((∃ds rs,cn s.o (first++c.args.toList.map s.ev++cap)=some ds/\a7 P g ds (.ret rs)/\v=jJ rs/\rd=pC s op/\
    (Δ=dk s.o (V.bF (first++c.args.toList.map s.ev++cap))\/D.j9 rs=true/\Δ=[]))\/
   (∃rs,Fa P g (first++c.args.toList.map s.ev++cap) rd s.o (.ret rs) Δ/\v=jJ rs/\∀id∈rd,id<s.nx)\/
   (∃ds,cn s.o (first++c.args.toList.map s.ev++cap)=some ds/\PH P g ds v/\rd=pC s op/\Δ=dk s.o (V.bF (first++c.args.toList.map s.ev++cap)))\/
   (xE P g (first++c.args.toList.map s.ev++cap) rd s.o fr v Δ/\∀id∈rd,id<s.nx)))
def BI(P:Program)(s:S)(op:Op)(v:V)(ws rd:List Nat):Prop:=
 ∃c f g first cap,op= .call c/\c.callee= .value f/\s.ev f= .func (.func g) first cap/\
  ((∃ds x,cn s.o (first++c.args.toList.map s.ev++cap)=some ds/\a7 P g ds (.bR x)/\x.flat=true/\v= .d x/\rd=pC s op/\ws=[])\/
   (∃x Δ,Fa P g (first++c.args.toList.map s.ev++cap) rd s.o (.bR x) Δ/\v= .d x/\ws=Δ.map (·.1)/\∀id∈rd,id<s.nx))
def ei(s:S)(gd:Option (Nat×Bool))(b:Bool):Prop:=
 match gd with
 |none=>b=true
 |some (d,want)=>match s.env d with
  | .d (.bool c)=>b=(c==want)
  | .ck []=>b=false
  |_=>False
def PI(P:Program)(s:S)(fr:Nat)(o:cu)(x:fy):Prop:=
 match x with
 | .skip=>ei s o.gd false
 | .val v Δ rd=>ei s o.gd true/\xF P s fr o.op v Δ rd
 | .bR v ws rd=>ei s o.gd true/\BI P s o.op v ws rd
 | .eK=>True
def eT(oc:Nat->cu)(ac:Nat->fy)(E:Nat->Bool)(s:S):Nat->S
 |0=>s
 |k+1=>if E k then wm (oc k).dst (ac k) (eT oc ac E s k)else eT oc ac E s k
structure Compat (oc:Nat->cu) (ac:Nat->fy) (R:Nat->List Nat) (i j:Nat):Prop where
 di:∀d,(oc i).dst=some d->d∉fm (oc j)
 dj:∀d,(oc j).dst=some d->d∉fm (oc i)
 wi:∀id∈la (ac i),id∉R j/\id∉la (ac j)
 wj:∀id∈la (ac j),id∉R i
section
variable {P:Program}{oc:Nat->cu}{ac:Nat->fy}{s:S}{n:Nat}{E:Nat->Bool}{R:Nat->List Nat}{pr:Nat->Nat->Prop}
theorem DW{env:Nat->V}{dst:Option Tmp}{v:V}{t:Nat}(h:∀d,dst=some d->d≠t):bu env dst v t=env t:=by
 cases dst with
 |none=>rfl
 |some d=>simp only[bu,aR];rw[if_neg (fun e=>h d rfl e.symm)]
theorem gU{o:Nat->ab}:∀ {Δ:List (Nat×ab)} {id:Nat},id∉Δ.map (·.1)->put o Δ id=o id
 |[],_,_=>rfl
 |x::Δ,id,h=>by
  simp only[List.map_cons,List.mem_cons,not_or]at h
  have:=gU (o:=aL o x.1 x.2) (Δ:=Δ) h.2
  simp only[put,List.foldl_cons]at this|-
  rw[this];simp[h.1]
theorem zD{o o':Nat->ab}:∀ {Δ:List (Nat×ab)} {id:Nat},id∈Δ.map (·.1)\/o id=o' id->put o Δ id=put o' Δ id
 |[],_,h=>by rcases h with h|h;· simp at h
             ·exact h
 |x::Δ,id,h=>by
  simp only[put,List.foldl_cons]
  refine zD (Δ:=Δ) (o:=aL o x.1 x.2) (o':=aL o' x.1 x.2) ?_
  simp only[List.map_cons,List.mem_cons]at h
  simp only[aR]
  by_cases e:id=x.1
  ·right;simp[e]
  ·rcases h with(h|h)|h
   ·exact absurd h e
   ·exact .inl h
   ·right;simp[e,h]
theorem lb{dst:Option Tmp}{x:fy}{t:Nat}(h:∀d,dst=some d->d≠t):(wm dst x s).env t=s.env t:=by
 cases x<;>exact DW h
theorem nk{dst:Option Tmp}{x:fy}{id:Nat}(h:id∉la x):(wm dst x s).o id=s.o id:=by
 cases x with
 |val v Δ rd=>exact gU h
 |_=>rfl
theorem zE{dst:Option Tmp}{x:fy}{s':S}{t:Nat}(h:s.env t=s'.env t):(wm dst x s).env t=(wm dst x s').env t:=by
 cases x<;>cases dst<;>simp only[wm,bu,aR]<;>first|exact h|(split<;>first|rfl|exact h)
theorem DX{dst:Option Tmp}{x:fy}{s':S}{id:Nat}(h:s.o id=s'.o id):(wm dst x s).o id=(wm dst x s').o id:=by
 cases x with
 |val v Δ rd=>exact zD (.inr h)
 |_=>exact h
theorem put_comm{o:Nat->ab}{Δ Fc:List (Nat×ab)}(h:∀id∈Δ.map (·.1),id∉Fc.map (·.1)):put (put o Δ) Fc=put (put o Fc) Δ:=by
 funext id
 by_cases h1:id∈Δ.map (·.1)
 ·rw[gU (h id h1)]
  exact zD (.inl h1)
 ·rw[gU (Δ:=Δ) h1]
  by_cases h2:id∈Fc.map (·.1)
  ·exact zD (.inl h2)
  ·rw[gU h2,gU h2,gU h1]
theorem xG{env:Nat->V}{d d':Option Tmp}{v v':V}(h:∀t,d=some t->d'≠some t):bu (bu env d v) d' v'=bu (bu env d' v') d v:=by
 cases d with
 |none=>rfl
 |some t=>
  cases d' with
  |none=>rfl
  |some t'=>
   have iD:t'≠t:=fun e=>h t rfl (by rw[e])
   funext i
   simp only[bu,aR]
   by_cases e1:i=t<;>by_cases e2:i=t'
   ·exact absurd (e2.symm.trans e1) iD
   all_goals simp[e1,e2]
   ·intro e;exact absurd e.symm iD
   ·intro e;exact absurd e iD
theorem JH{d d':Option Tmp}{x x':fy}(hd:∀t,d=some t->d'≠some t)(hw:∀id∈la x,id∉la x'):wm d x (wm d' x' s)=wm d' x' (wm d x s):=by
 cases x<;>cases x'<;>simp only[wm]<;>first
  |rw[xG hd,put_comm hw]
  |rw[xG hd]
def zF(n:Nat)(pr:Nat->Nat->Prop)(E:Nat->Bool):Prop:=∀k,k<n->E k=true->∀j,pr k j->E j=true
theorem agree(_:∀k,k<n->∀j,pr k j->j<k)(hc:∀i j,i<j->j<n-> ¬pr j i->Compat oc ac R i j)(hE:zF n pr E){i:Nat}(hi:i<n)(mM:E i=false)(JI:∀j,pr i j->E j=true):
 (∀t∈fm (oc i),(eT oc ac E s n).env t=(eT oc ac (fun _=>true) s i).env t)/\(∀id∈R i,(eT oc ac E s n).o id=(eT oc ac (fun _=>true) s i).o id):=by
 have a:∀k,k<=i->(∀t∈fm (oc i),(eT oc ac E s k).env t=(eT oc ac (fun _=>true) s k).env t)/\(∀id∈R i,(eT oc ac E s k).o id=(eT oc ac (fun _=>true) s k).o id):=by
  intro k
  induction k with
  |zero=>intro _;exact⟨fun _ _=>rfl,fun _ _=>rfl⟩
  |succ k ih=>
   intro hk
   obtain⟨h1,h2⟩:=ih ad
   simp only[eT,if_true]
   by_cases fP:E k=true
   ·simp only[fP,if_true]
    exact⟨fun t ht=>zE (h1 t ht),fun id aB=>DX (h2 id aB)⟩
   ·have Px: ¬pr i k:=fun hm=>fP (JI k hm)
    have c:=hc k i ad hi Px
    simp only[fP]
    refine⟨fun t ht=> ?_,fun id aB=> ?_⟩
    ·rw[lb fun d hd e=>c.di d hd (e ▸ ht)];exact h1 t ht
    ·rw[nk fun hm=>(c.wi id hm).1 aB];exact h2 id aB
 have b:∀k,i<=k->k<=n->(∀t∈fm (oc i),(eT oc ac E s k).env t=(eT oc ac (fun _=>true) s i).env t)/\(∀id∈R i,(eT oc ac E s k).o id=(eT oc ac (fun _=>true) s i).o id):=by
  intro k Np
  induction Np with
  |refl=>intro _;exact a i (Nat.le_refl _)
  | @step k Np ih=>
    intro hk
    have Np:i<=k:=Np
    obtain⟨h1,h2⟩:=ih ad
    simp only[eT]
    by_cases fP:E k=true
    ·have iD:i≠k:=fun e=>by rw[e,fP]at mM;cases mM
     have Px: ¬pr k i:=fun hm=>by have:=hE k ad fP i hm;rw[mM]at this;cases this
     have c:=hc i k ad ad Px
     simp only[fP,if_true]
     refine⟨fun t ht=> ?_,fun id aB=> ?_⟩
     ·rw[lb fun d hd e=>c.dj d hd (e ▸ ht)];exact h1 t ht
     ·rw[nk fun hm=>c.wj id hm aB];exact h2 id aB
    ·simp only[fP];exact⟨h1,h2⟩
 exact b n ad (Nat.le_refl _)
theorem insert(hc:∀i j,i<j->j<n-> ¬pr j i->Compat oc ac R i j)(hE:zF n pr E){i:Nat}(hi:i<n)(mM:E i=false){E':Nat->Bool}(DY:∀k,E' k=(E k||k==i)):
 eT oc ac E' s n=wm (oc i).dst (ac i) (eT oc ac E s n):=by
 have a:∀k,k<=i->eT oc ac E' s k=eT oc ac E s k:=by
  intro k
  induction k with
  |zero=>intro _;rfl
  |succ k ih=>
   intro hk
   have:E' k=E k:=by rw[DY k];have:(k==i)=false:=by simp;omega
                     simp[this]
   simp only[eT,this,ih (by omega)]
 have b:∀k,i+1<=k->k<=n->eT oc ac E' s k=wm (oc i).dst (ac i) (eT oc ac E s k):=by
  intro k Np
  induction Np with
  |refl=>
   intro _
   have h1:E' i=true:=by rw[DY i];simp
   simp only[eT,h1,mM,if_true,a i (Nat.le_refl _)]
   rfl
  | @step k Np ih=>
    intro hk
    have Np:i+1<=k:=Np
    have h1:E' k=E k:=by rw[DY k];have:(k==i)=false:=by simp;omega
                         simp[this]
    simp only[eT,h1,ih (by omega)]
    by_cases fP:E k=true
    ·have Px: ¬pr k i:=fun hm=>by have:=hE k ad fP i hm;rw[mM]at this;cases this
     have c:=hc i k ad ad Px
     simp only[fP,if_true]
     refine JH (fun t ht he=> ?_) (fun id aB hm=>(c.wi id hm).2 aB)
     exact c.di t he (by simp[fm,ht])
    ·simp only[fP];rfl
 exact b n ad (Nat.le_refl _)
end
end Go.Proofs.YtonbelhklnmjnaaGreat
namespace Go.Proofs.YtonbelhklnmjnaaGreat
structure tv (M:Nat->Prop) (cQ:Place) (H0:Hp) (w0:World) (n:Nat) (cx:Cx) (φ:Place) (s:S) (us:Nat->Prop) (a:Act) (w:World):Prop where
 heap:aC M φ ⟨s.o,us⟩ w
 tr:Trans cQ H0 w0 φ ⟨s.o,us⟩ w
 size:a.tmps.size=n
 defers:uB cx w0 φ ⟨s.o,us⟩ w a.defers
 env:∀i,V.den (ax M φ ⟨s.o,us⟩) φ ⟨s.o,us⟩ w (s.env i) (a.tmps.getD i undef)
section
variable {P:Program}{M:Nat->Prop}{φ cQ:Place}{H0:Hp}{w w' w0:World}{n:Nat}{s:S}{us:Nat->Prop}{a:Act}{cx:Cx}{ro:Option Nat}{k:Nat}
variable {next:Act->World->Prop}{Q:Exit->Act->World->Prop}
theorem jn(hs:tv M cQ H0 w0 n cx φ s us a w){aO:Place}{H':Hp}(hH:aC M aO H' w')(ht:Trans φ ⟨s.o,us⟩ w aO H' w'){v:V}{val:Value}(hd:V.den (ax M aO H') aO H' w' v val){dst:Option Tmp}(da:ij n dst)
 {o':Nat->ab} {us':Nat->Prop} (ho:H'.o=o') (hu:∀id,H'.us id->us' id):tv M cQ H0 w0 n cx aO ⟨bu s.env dst v,o',s.nx⟩ us' (a.put dst val) w':=by
 obtain⟨k1,k2⟩:=jK hH hu
 subst ho
 refine⟨k1,hs.tr.trans (ht.trans k2), ?_, ?_,fun i=> ?_⟩
 ·cases dst<;>simp[Act.put,hs.size]
 ·have:=hs.defers.mono (ht.trans k2);cases dst<;>exact this
 ·cases dst with
  |none=>exact V.aS (ht.trans k2) _ _ (hs.env i)
  |some d=>
   simp only[ij]at da
   simp only[bu,aR,Act.put]
   by_cases hi:i=d
   ·subst hi
    have h1:(a.tmps.setIfInBounds i val).getD i undef=val:=by simp[Array.getD,hs.size,da]
    rw[if_pos rfl,h1]
    exact V.aS k2 _ _ hd
   ·have h1:(a.tmps.setIfInBounds d val).getD i undef=a.tmps.getD i undef:=by
     simp only[Array.getD_eq_getD_getElem?]
     rw[Array.getElem?_setIfInBounds_ne (Ne.symm hi)]
    rw[if_neg hi,h1]
    exact V.aS (ht.trans k2) _ _ (hs.env i)
theorem xH(hs:tv M cQ H0 w0 n cx φ s us a w){o:Oper}{op:Op}(fl:o.op=op){c:Call}{f:Operand}{g:FuncId}{first cap:List V}(hc:op= .call c)(eP:c.callee= .value f)(wx:s.ev f= .func (.func g) first cap):
 ∃vals:Array Value,V.aM (ax M φ ⟨s.o,us⟩) φ ⟨s.o,us⟩ w (first++c.args.toList.map s.ev++cap) vals.toList/\(Enters P g->(execOp a.eval o).run P w= .ok (.enter g vals) w):=by
 have hf:=mT (M:=M) (φ:=φ) (H:=⟨s.o,us⟩) (w:=w) s a hs.env f
 have dT:=kJ (M:=M) (φ:=φ) (H:=⟨s.o,us⟩) (w:=w) s a hs.env c.args.toList
 rw[wx]at hf
 obtain⟨fa,ca,S3,C9,X0⟩:=hf
 refine⟨fa++c.args.map a.eval++ca, ?_,fun he=> ?_⟩
 ·rw[Array.toList_append,Array.toList_append,Array.toList_map]
  exact V.ma C9 dT X0
 ·have:=lF (w:=w) he (fa++c.args.map a.eval++ca)
  generalize oD:fa++c.args.map a.eval++ca=vals at this
  simp[execOp,fl,hc,resolve,eP,S3,Deferred.ofValue,invoke,this,oD]
theorem BJ(hs:tv M cQ H0 w0 n cx φ s us a w){fr:Nat}(db: ¬us fr)(tL:∀id,id<s.nx->us id){o:Oper}{op:Op}(fl:o.op=op)(da:ij n o.dst){v:V}{Δ:List (Nat×ab)}{rd:List Nat}(h:xF P s fr op v Δ rd)
 (hN:∀aO a' w',tv M cQ H0 w0 n cx aO (wm o.dst (.val v Δ rd) s) (fun id=>us id\/id=fr) a' w'->next a' w'):o.wpIn (ed ro) k P a w next Q:=by
 rcases h with⟨⟨tt,h⟩,_⟩|⟨c,f,g,first,cap,hc,eP,wx,h⟩
 ·have h1:=BE (K:=fun v' Fc _=>v'=v/\Fc=Δ) h ⟨rfl,rfl⟩
  obtain⟨nx,val,w',aO,v',Fc,tt,⟨rfl,rfl⟩,hr,abE,g1,g2,g3,g4⟩:=xp hs.heap (s:=s) rfl hs.env db fl h1
  have zg:=jn hs g1 g2 g3 da (o':=put s.o Fc) (us':=fun id=>us id\/id=fr) rfl (fun id hu=>hu.elim .inl (g4 id))
  refine kN (fun c hc=>by rw[fl]at hc;subst hc;exact h1) ?_
  rw[hr]
  rcases abE with rfl|⟨rfl,rfl⟩
  ·exact hN _ _ _ zg
  ·exact hN _ _ _ zg
 ·refine kN (fun c' zi=>by rw[fl,hc]at zi;cases zi) ?_
  obtain⟨vals,bz,fu⟩:=xH (P:=P) hs fl hc eP wx
  generalize first++c.args.toList.map s.ev++cap=all at h bz
  rcases h with⟨ds,rs,eX,hP,rfl,_,S8⟩|⟨rs,hH,rfl,mL⟩|⟨ds,eX,hP,_,rfl⟩|⟨hH,mL⟩
  ·obtain⟨f1,f2,f3,f4,f5⟩:=du hs.heap (V.bF all) (dh all _ bz)
   have kY:(⟨s.o,us⟩:Hp).put (dk s.o (V.bF all))=⟨put s.o (dk s.o (V.bF all)),us⟩:=lE (H:=⟨s.o,us⟩) Sy
   have xb:=dE f1 all ds _ f3 eX (V.a8 f2 _ _ bz)
   have fh:=hP.2 _ w vals (fun b hb=>hb.elim (f1.AD b) fun hl=>(f1.ours b hl).2) xb
   rw[fu hP.1]
   refine⟨fun hd=>by simp[ed]at hd,dq (fh.mono fun e w' ⟨hk,ho⟩=> ?_)⟩
   cases e with
   |panicked ch=>cases rs with|nil=>exact ho.elim|cons x l=>cases l<;>exact ho.elim
   |outgrown=>cases rs with|nil=>exact ho.elim|cons x l=>cases l<;>exact ho.elim
   |returned val=>
    rcases S8 with rfl|⟨pD,rfl⟩
    ·obtain⟨k1,k2⟩:=gO f1 hk
     refine hN _ _ _ (jn hs k1 (f2.trans k2) (lG ho) da (by rw[kY]) fun id hu=> ?_)
     rw[kY]at hu;exact .inl hu
    ·obtain⟨k1,k2⟩:=gO hs.heap hk
     have ho:=R.zh (out:= .ret rs) (B':=ax M φ ⟨s.o,us⟩) pD ho
     exact hN _ _ _ (jn hs k1 k2 (lG ho) da rfl fun id hu=> .inl hu)
  ·have fh:=hH.2 s.o us M φ w vals (fun id aB=>⟨rfl,tL id (mL id aB)⟩) hs.heap bz
   rw[fu hH.1]
   refine⟨fun hd=>by simp[ed]at hd,dq (fh.mono fun e w' ⟨aO,k1,k2,ho⟩=> ?_)⟩
   cases e with
   |panicked ch=>cases rs with|nil=>exact ho.elim|cons x l=>cases l<;>exact ho.elim
   |outgrown=>cases rs with|nil=>exact ho.elim|cons x l=>cases l<;>exact ho.elim
   |returned val=>exact hN _ _ _ (jn hs k1 k2 (lG ho) da rfl fun id hu=> .inl hu)
  ·obtain⟨f1,f2,f3,f4,f5⟩:=du hs.heap (V.bF all) (dh all _ bz)
   have kY:(⟨s.o,us⟩:Hp).put (dk s.o (V.bF all))=⟨put s.o (dk s.o (V.bF all)),us⟩:=lE (H:=⟨s.o,us⟩) Sy
   have xb:=dE f1 all ds _ f3 eX (V.a8 f2 _ _ bz)
   have fh:=hP.2 _ w vals (fun b hb=>hb.elim (f1.AD b) fun hl=>(f1.ours b hl).2) xb
   rw[fu hP.1]
   refine⟨fun hd=>by simp[ed]at hd,dq (fh.mono fun e w' ⟨hk,val,he,ho⟩=> ?_)⟩
   subst he
   obtain⟨k1,k2⟩:=gO f1 hk
   refine hN _ _ _ (jn hs k1 (f2.trans k2) (ho _ _) da (by rw[kY]) fun id hu=> ?_)
   rw[kY]at hu;exact .inl hu
  ·have fh:=hH.2 s.o us M φ w vals (fun id aB=>⟨rfl,tL id (mL id aB)⟩) db hs.heap bz
   rw[fu hH.1]
   refine⟨fun hd=>by simp[ed]at hd,dq (fh.mono fun e w' ⟨aO,k1,k2,val,he,ho⟩=> ?_)⟩
   subst he
   exact hN _ _ _ (jn hs k1 k2 ho da rfl fun id hu=>hu)
theorem G9{o o2:Nat->ab}{us us2:Nat->Prop}(hH:aC M φ ⟨o,us⟩ w)(ho:∀id,o2 id=o id\/o2 id= .no)(hu:∀id,us id->us2 id):aC M φ ⟨o2,us2⟩ w/\Trans φ ⟨o,us⟩ w φ ⟨o2,us2⟩ w:=by
 have hl:∀id,(o2 id).live=true->(o id).live=true:=fun id h=>by
  rcases ho id with e|e
  ·rw[<- e];exact h
  ·rw[e]at h;cases h
 have WA:∀b,de φ ⟨o2,us2⟩ b->de φ ⟨o,us⟩ b:=fun b ⟨id,h1,h2⟩=>⟨id,hl id h1,h2⟩
 have ht:Trans φ ⟨o,us⟩ w φ ⟨o2,us2⟩ w:=by
  refine⟨eF.refl _ _,fun b hb=> .inl (WA b hb),⟨hu,fun id _ hr=> ?_,fun id e' _ he=> ?_⟩⟩
  ·rcases ho id with e|e
   ·exact⟨by show(o id).cy=true;rw[<- e];exact hr,rfl⟩
   ·rw[show(⟨o2,us2⟩:Hp).o id= .no from e]at hr;cases hr
  ·rcases ho id with e|e
   ·exact⟨e',by show(o id).ct=some e';rw[<- e];exact he,Nat.le_refl _,fun _=>rfl⟩
   ·rw[show(⟨o2,us2⟩:Hp).o id= .no from e]at he;cases he
 refine⟨⟨fun id=> ?_,fun id hn=> ?_,fun i j b hi hj=>hH.apart i j b (hl i hi) (hl j hj),fun b hb=>hH.ours b (WA b hb),hH.AD⟩,ht⟩
 ·rcases ho id with e|e
  ·exact(hH.ok id).mono ht e rfl fun _ _ _=>rfl
  ·unfold ba;rw[show(⟨o2,us2⟩:Hp).o id= .no from e];trivial
 ·rcases ho id with e|e
  ·exact e.trans (hH.fresh id fun h=>hn (hu id h))
  ·exact e
def pH(ds:List Nat)(wl:List Nat)(N:Nat)(s:S):S:=
 ⟨fun t=>if ds.contains t=true then .aa else s.env t,fun id=>if wl.contains id=true then .no else s.o id,s.nx+N⟩
theorem JJ(hs:tv M cQ H0 w0 n cx φ s us a w)(tL:∀id,id<s.nx->us id){N:Nat}(fG:∀id,us id->id<s.nx+N){o:Oper}{op:Op}(fl:o.op=op){v:V}{ws rd:List Nat}(h:BI P s op v ws rd)
 {s0:S} {ds wl:List Nat} (eX:∀t,ds.contains t=false->s.env t=s0.env t) (hwl:∀id,wl.contains id=false->s.o id=s0.o id) (Nq:∀id∈ws,wl.contains id=true) (gu:s0.nx=s.nx)
 (hQ:∀aO w' val,cq M cQ H0 w0 n cx aO (pH ds wl N s0) a w'->V.den (ax M aO (pH ds wl N s0).H) aO (pH ds wl N s0).H w' v val->Q (.panic [{v:=val,recovered:=false}]) a w'):o.wpIn (ed ro) k P a w next Q:=by
 obtain⟨c,f,g,first,cap,hc,eP,wx,h⟩:=h
 refine kN (fun c' zi=>by rw[fl,hc]at zi;cases zi) ?_
 obtain⟨vals,bz,fu⟩:=xH (P:=P) hs fl hc eP wx
 generalize first++c.args.toList.map s.ev++cap=all at h bz
 have fin:∀ (aO:Place) (w':World) (o':Nat->ab) (val:Value),(∀id,wl.contains id=false->o' id=s.o id)->aC M aO ⟨o',us⟩ w'->Trans φ ⟨s.o,us⟩ w aO ⟨o',us⟩ w'->V.den (ax M aO ⟨o',us⟩) aO ⟨o',us⟩ w' v val->Q (.panic [{v:=val,recovered:=false}]) a w':=by
  intro aO w' o' val xB k1 k2 k3
  obtain⟨m1,m2⟩:=G9 (o2:=(pH ds wl N s0).o) (us2:=fun id=>id<s0.nx+N) k1 (fun id=>by
   show(if wl.contains id=true then ab.no else s0.o id)=o' id\/_
   by_cases hw:wl.contains id=true
   ·right;simp only[pH];rw[if_pos hw]
   ·left;rw[if_neg hw,xB id (by simpa using hw),hwl id (by simpa using hw)]) (fun id h=>by rw[gu];exact fG id h)
  have ht:=hs.tr.trans (k2.trans m2)
  refine hQ aO w' val ⟨m1,ht,hs.size,hs.defers.mono (k2.trans m2),fun i=> ?_⟩ (V.aS m2 _ _ k3)
  show V.den _ _ _ _ (if ds.contains i=true then V.aa else s0.env i) _
  by_cases hd:ds.contains i=true
  ·rw[if_pos hd];trivial
  ·rw[if_neg hd, <- eX i (by simpa using hd)];exact V.aS (k2.trans m2) _ _ (hs.env i)
 rcases h with⟨dd,x,abF,hP,pD,rfl,_,rfl⟩|⟨x,Δ,hH,rfl,rfl,mL⟩
 ·obtain⟨f1,f2,f3,f4,f5⟩:=du hs.heap (V.bF all) (dh all _ bz)
  have xb:=dE f1 all dd _ f3 abF (V.a8 f2 _ _ bz)
  have fh:=hP.2 _ w vals (fun b hb=>hb.elim (f1.AD b) fun hl=>(f1.ours b hl).2) xb
  rw[fu hP.1]
  refine⟨fun hd=>by simp[ed]at hd,dq (fh.mono fun e w' ⟨hk,ho⟩=> ?_)⟩
  cases e with
  |returned val=>exact ho.elim
  |outgrown=>exact ho.elim
  |panicked ch=>
   obtain⟨k1,k2⟩:=gO hs.heap hk
   have ho:=R.zh (out:= .bR x) (B':=ax M φ ⟨s.o,us⟩) pD ho
   obtain⟨val,rfl,hd⟩:=ho
   exact fin φ w' s.o val (fun _ _=>rfl) k1 k2 hd
 ·have fh:=hH.2 s.o us M φ w vals (fun id aB=>⟨rfl,tL id (mL id aB)⟩) hs.heap bz
  rw[fu hH.1]
  refine⟨fun hd=>by simp[ed]at hd,dq (fh.mono fun e w' ⟨aO,k1,k2,ho⟩=> ?_)⟩
  cases e with
  |returned val=>exact ho.elim
  |outgrown=>exact ho.elim
  |panicked ch=>
   obtain⟨val,rfl,hd⟩:=ho
   exact fin aO w' _ val (fun id aB=>zB fun y hy e=>by
    have:=Nq y.1 (List.mem_map_of_mem hy)
    rw[e,aB]at this;cases this) k1 k2 hd
theorem fW(eG:∀i,V.den (ax M φ ⟨s.o,us⟩) φ ⟨s.o,us⟩ w (s.env i) (a.tmps.getD i undef)){ops:Array Oper}{o:Oper}{gd:Option (Nat×Bool)}{b:Bool}
 (hg:match o.guard with|none=>gd=none|some (j,want)=>∃d,ss ops j=some d/\gd=some (d,want)) (h:ei s gd b):Region.wanted o (yielded ops a.tmps)=b:=by
 unfold Region.wanted
 split at hg
 ·rename_i hn;simp only[hn];subst hg;exact h.symm
 ·rename_i j want hn
  simp only[hn]
  obtain⟨d,hd,rfl⟩:=hg
  unfold ss at hd
  unfold yielded
  simp only[hd,Option.bind_some]
  simp only[ei]at h
  have he:=eG d
  split at h
  ·rename_i c hv
   rw[hv]at he
   simp only[V.den,D.den]at he
   have:a.tmps[d]? =some (.bool c):=by
    rw[Array.getD_eq_getD_getElem?]at he
    cases hx:a.tmps[d]? with
    |none=>rw[hx]at he;simp[undef]at he
    |some x=>rw[hx]at he;simp at he;rw[he]
   simp only[this,h]
   cases c<;>cases want<;>rfl
  ·rename_i hv
   rw[hv]at he
   obtain⟨arr,cM,hn⟩:=he
   have:∀c,a.tmps[d]? ≠some (.bool c):=by
    intro c hx
    rw[Array.getD_eq_getD_getElem?,hx]at cM
    simp at cM
   subst h
   cases hx:a.tmps[d]? with
   |none=>rfl
   |some x=>cases x<;>first|(exact absurd hx (this _))|rfl
  ·exact h.elim
theorem fX{s s':S}{gd:Option (Nat×Bool)}{b:Bool}(h:∀d want,gd=some (d,want)->s'.env d=s.env d)(hg:ei s gd b):ei s' gd b:=by
 unfold ei at*
 cases gd with
 |none=>exact hg
 |some p=>obtain⟨d,want⟩:=p;simp only at hg|-;rw[h d want rfl];exact hg
theorem BK{s s':S}{x:Operand}(h:∀t,x= .tmp t->s'.env t=s.env t):s'.ev x=s.ev x:=by
 cases x<;>simp only[S.ev]
 exact h _ rfl
theorem uK{s s':S}{op:Op}{c:Call}{f:Operand}{g:FuncId}{first cap:List V}(hv:∀x∈op.operands,s'.ev x=s.ev x)(hc:op= .call c)(eP:c.callee= .value f)(wx:s.ev f= .func (.func g) first cap):
 s'.ev f= .func (.func g) first cap/\c.args.toList.map s'.ev=c.args.toList.map s.ev:=by
 subst hc
 exact⟨(hv f (by simp only[Op.operands,Call.operands,eP];exact Array.mem_append.2 (.inl aj))).trans wx,
  List.map_congr_left fun x hx=>hv x (by simp only[Op.operands,Call.operands];exact Array.mem_append.2 (.inr (Array.mem_toList_iff.1 hx)))⟩
theorem Fa.frame {g:FuncId}{args:List V}{rd:List Nat}{o o':Nat->ab}{out:R}{Δ:List (Nat×ab)}(ho:∀id∈rd,o' id=o id)(h:Fa P g args rd o out Δ):Fa P g args rd o' out Δ:=
 ⟨h.1,fun o2 us M φ w vals h1 h2 h3=>h.2 o2 us M φ w vals (fun id aB=>⟨(h1 id aB).1.trans (ho id aB),(h1 id aB).2⟩) h2 h3⟩
theorem xE.frame {g:FuncId}{args:List V}{rd:List Nat}{o o':Nat->ab}{fr:Nat}{v:V}{Δ:List (Nat×ab)}(ho:∀id∈rd,o' id=o id)(h:xE P g args rd o fr v Δ):xE P g args rd o' fr v Δ:=
 ⟨h.1,fun o2 us M φ w vals h1 h2 h3=>h.2 o2 us M φ w vals (fun id aB=>⟨(h1 id aB).1.trans (ho id aB),(h1 id aB).2⟩) h2 h3⟩
theorem sJ{s s':S}{fr:Nat}{op:Op}{v:V}{Δ:List (Nat×ab)}{rd:List Nat}(hv:∀x∈op.operands,s'.ev x=s.ev x)(ho:∀id∈rd,s'.o id=s.o id)(tL:s'.nx=s.nx)(h:xF P s fr op v Δ rd):∃tt,xF P s' fr op v Δ tt:=by
 rcases h with⟨⟨tt,h⟩,mL⟩|⟨c,f,g,first,cap,rfl,eP,wx,h⟩
 ·exact⟨_, .inl ⟨⟨tt,by rw[DT op hv (by rw[<- mL];exact ho)];exact h⟩,rfl⟩⟩
 ·obtain⟨hf,hm⟩:=uK hv rfl eP wx
  rcases h with⟨ds,rs,eX,hP,tf,mL,S8⟩|⟨rs,hH,tf,mL⟩|⟨ds,eX,hP,mL,S8⟩|⟨hH,mL⟩
  ·have hr:∀id∈V.aN (first++c.args.toList.map s.ev++cap),s'.o id=s.o id:=fun id aB=>ho id Su
   refine⟨_, .inr ⟨c,f,g,first,cap,rfl,eP,hf, .inl ⟨ds,rs,by rw[hm,iR _ hr];exact eX,hP,tf,rfl, ?_⟩⟩⟩
   rw[hm,gR (o:=s.o) fun id aB=>hr id (ke _ id aB)]
   exact S8
  ·exact⟨rd, .inr ⟨c,f,g,first,cap,rfl,eP,hf, .inr (.inl ⟨rs,by rw[hm];exact hH.frame ho,tf,by rw[tL];exact mL⟩)⟩⟩
  ·have hr:∀id∈V.aN (first++c.args.toList.map s.ev++cap),s'.o id=s.o id:=fun id aB=>ho id Su
   refine⟨_, .inr ⟨c,f,g,first,cap,rfl,eP,hf, .inr (.inr (.inl ⟨ds,by rw[hm,iR _ hr];exact eX,hP,rfl, ?_⟩))⟩⟩
   rw[hm,gR (o:=s.o) fun id aB=>hr id (ke _ id aB)]
   exact S8
  ·exact⟨rd, .inr ⟨c,f,g,first,cap,rfl,eP,hf, .inr (.inr (.inr ⟨by rw[hm];exact hH.frame ho,by rw[tL];exact mL⟩))⟩⟩
theorem BL{s s':S}{op:Op}{v:V}{ws rd:List Nat}(hv:∀x∈op.operands,s'.ev x=s.ev x)(ho:∀id∈rd,s'.o id=s.o id)(tL:s'.nx=s.nx)(h:BI P s op v ws rd):BI P s' op v ws rd:=by
 obtain⟨c,f,g,first,cap,rfl,eP,wx,h⟩:=h
 obtain⟨hf,hm⟩:=uK hv rfl eP wx
 refine⟨c,f,g,first,cap,rfl,eP,hf, ?_⟩
 rw[hm]
 rcases h with⟨ds,x,eX,hP,pD,tf,mL,Nq⟩|⟨x,Δ,hH,tf,Nq,mL⟩
 ·have hr:∀id∈V.aN (first++c.args.toList.map s.ev++cap),s'.o id=s.o id:=fun id aB=>ho id Su
  exact .inl ⟨ds,x,by rw[iR _ hr];exact eX,hP,pD,tf,by rw[mL];simp only[pC,eP,wx,hf,hm],Nq⟩
 ·exact .inr ⟨x,Δ,hH.frame ho,tf,Nq,by rw[tL];exact mL⟩
theorem uL{ops:Array Oper}:∀ (l:List Oper) (l':List cu) (i:Nat) (o:Oper),lx n ops l=some l'->l[i]? =some o->I2 n ops o=some (cc l' i)
 |[],_,_,_,_,h=>by simp at h
 |x::l,l',i,o,h,hi=>by
  simp only[lx]at h
  split at h
  ·rename_i y ys hy hys
   injection h with h;subst h
   cases i with
   |zero=>simp at hi;subst hi;exact hy
   |succ i=>exact uL l ys i o hys IZ
  ·cases h
theorem xI{ops:Array Oper}{o:Oper}{x:cu}(h:I2 n ops o=some x):x.op=o.op/\x.dst=o.dst/\ij n o.dst/\
 (match o.guard with|none=>x.gd=none|some (j,want)=>∃d,ss ops j=some d/\x.gd=some (d,want)):=by
 unfold I2 at h
 split at h
 ·rename_i hd
  have da:ij n o.dst:=by
   unfold Dm at hd;unfold ij
   split at hd<;>simp_all
  cases hg:o.guard with
  |none=>simp only[hg]at h;injection h with h;subst h;exact⟨rfl,rfl,da,rfl⟩
  |some p=>
   obtain⟨j,want⟩:=p
   simp only[hg]at h
   cases PG:ss ops j with
   |none=>simp[PG]at h
   |some d=>simp only[PG]at h;injection h with h;subst h;exact⟨rfl,rfl,da,d,PG,rfl⟩
 ·cases h
theorem o6{ops:Array Oper}{ay:Array Bool}(tK:∀k,k<ops.size->∀j∈bM ops k,j<k)(hs:ay.size=ops.size)(hr:Region.ready .any ops ay=[]):∀k,k<ops.size->ay.getD k false=true:=by
 intro k
 induction k using Nat.strongRecOn with
 |_ k ih=>
  intro hk
  cases hl:ay.getD k false with
  |true=>rfl
  |false=>
   have:k∈Region.ready .any ops ay:=by
    refine mem_ready.2 ⟨?_,ops[k],by simp[hk],fun e he hb=> ?_⟩
    ·simp only[Array.getD_eq_getD_getElem?]at hl|-
     rw[Array.getElem?_eq_getElem (by omega)]at hl|-
     simpa using hl
    ·have hm:e.on∈bM ops k:=by
      simp only[bM,Array.getElem?_eq_getElem hk,List.mem_map,List.mem_filter]
      exact⟨e,⟨Array.mem_toList_iff.2 he,hb⟩,rfl⟩
     exact ih _ (tK k hk _ hm) (by have:=tK k hk _ hm;omega)
   rw[hr]at this;cases this
theorem BM(hs:cq M cQ H0 w0 n cx φ s a w):cq M cQ H0 w0 n cx φ s a {w with drawn:=w.drawn+1}:=by
 obtain⟨k1,k2⟩:=gO (w':={w with drawn:=w.drawn+1}) hs.heap ⟨rfl,rfl,rfl,Nat.le_refl _,fun _ _ _=>rfl⟩
 exact⟨k1,hs.tr.trans k2,hs.size,hs.defers.mono k2,fun i=>V.aS k2 _ _ (hs.env i)⟩
theorem lW{oc:Nat->cu}{ac:Nat->fy}{E:Nat->Bool}:∀k,(eT oc ac E s k).nx=s.nx
 |0=>rfl
 |k+1=>by
  simp only[eT]
  split
  ·cases ac k<;>exact lW k
  ·exact lW k
theorem Fe{oc:Nat->cu}{ac:Nat->fy}{E:Nat->Bool}{t:Nat}:∀k,(∀j,j<k->(oc j).dst≠some t)->(eT oc ac E s k).env t=s.env t
 |0,_=>rfl
 |k+1,h=>by
  have ih:=Fe (oc:=oc) (ac:=ac) (E:=E) (t:=t) k fun j hj=>h j ad
  simp only[eT]
  split
  ·rw[lb fun d hd e=>h k (by omega) (by rw[hd,e])];exact ih
  ·exact ih
theorem PJ{oc:Nat->cu}{ac:Nat->fy}{E:Nat->Bool}{id:Nat}:∀k,(∀j,j<k->id∉la (ac j))->(eT oc ac E s k).o id=s.o id
 |0,_=>rfl
 |k+1,h=>by
  have ih:=PJ (oc:=oc) (ac:=ac) (E:=E) (id:=id) k fun j hj=>h j ad
  simp only[eT]
  split
  ·rw[nk (h k (by omega))];exact ih
  ·exact ih
theorem BN(bD:P.follows .mixedOrders=true){ops:Array Oper}{l:List cu}{id:Nat}(rH:lx n ops ops.toList=some l)(tK:∀k,k<ops.size->∀j∈bM ops k,j<k){ac:Nat->fy}{dl wl:List Nat}
 (hs:cq M cQ H0 w0 n cx φ s a w) (S9:∀i,i<ops.size->PI P (eT (cc l) ac (fun _=>true) s i) (s.nx+i) (cc l i) (ac i))
 (Ha:∀i,i<ops.size->ac i= .eK->∃j∈bM ops i,(ac j).ok=false)
 {po:Nat->Nat->Prop} (Ff:∀E:Nat->Bool,(∀k,k<ops.size->E k=true->∀j∈bM ops k,E j=true)->∀k,k<ops.size->(∀j∈bM ops k,E j=true)->∀j,po k j->E j=true) (BO:∀k,k<ops.size->∀j,po k j->j<k)
 (hc:∀i j,i<j->j<ops.size-> ¬po j i->Compat (cc l) ac (fun i=>wI (ac i)) i j)
 (hdl:∀i,i<ops.size->∀t,(cc l i).dst=some t->dl.contains t=true) (hwl:∀i,i<ops.size->∀id∈la (ac i),wl.contains id=true)
 (Nq:∀i v ws rd,i<ops.size->ac i= .bR v ws rd->∀id∈ws,wl.contains id=true)
 (hQ:(∀i,i<ops.size->(ac i).ok=true)->∀φ a w,cq M cQ H0 w0 n cx φ ⟨(eT (cc l) ac (fun _=>true) s ops.size).env,(eT (cc l) ac (fun _=>true) s ops.size).o,s.nx+ops.size⟩ a w->Q .normal a w)
 (hX:∀i v ws rd,i<ops.size->ac i= .bR v ws rd->∀φ a w val,cq M cQ H0 w0 n cx φ (pH dl wl ops.size s) a w->V.den (ax M φ (pH dl wl ops.size s).H) φ (pH dl wl ops.size s).H w v val->Q (.panic [{v:=val,recovered:=false}]) a w):
 (Code.region id ops true).wpIn (ed ro) k P Q a w:=by
 refine wpIn_region_any bD ?_
 have hs:=BM hs
 generalize ({w with drawn:=w.drawn+1}:World)=w at hs
 let N:=ops.size
 let Ef (ay:Array Bool) (k:Nat):Bool:=ay.getD k false
 let DZ (ay:Array Bool) (j:Nat):Prop:=j<s.nx\/∃k,k<N/\Ef ay k=true/\j=s.nx+k
 have key:∀ (fuel:Nat) (ay:Array Bool) (φ:Place) (a:Act) (w:World),ay.size=N->ay.count true+fuel=N->(∀k,k<N->Ef ay k=true->∀j∈bM ops k,Ef ay j=true)->(∀k,k<N->Ef ay k=true->(ac k).ok=true)->
  tv M cQ H0 w0 n cx φ (eT (cc l) ac (Ef ay) s N) (DZ ay) a w->wpAnyIn (ed ro) k P .any ops Q fuel ay a w:=by
  have fin:∀ (ay:Array Bool) (φ:Place) (a:Act) (w:World),(∀k,k<N->Ef ay k=true)->(∀k,k<N->Ef ay k=true->(ac k).ok=true)->tv M cQ H0 w0 n cx φ (eT (cc l) ac (Ef ay) s N) (DZ ay) a w->Q .normal a w:=by
   intro ay φ a w bz D0 hu
   have e:∀k,k<=N->eT (cc l) ac (Ef ay) s k=eT (cc l) ac (fun _=>true) s k:=by
    intro k
    induction k with
    |zero=>intro _;rfl
    |succ k ih=>intro hk;simp only[eT,bz k (by omega),ih (by omega)]
   rw[e N (Nat.le_refl _)]at hu
   obtain⟨k1,k2⟩:=jK (us':=fun id=>id<s.nx+N) hu.heap (fun id h=>by
    show id<s.nx+N
    rcases h with h|⟨k,hk,_,rfl⟩<;>omega)
   exact hQ (fun i hi=>D0 i hi (bz i hi)) φ a w ⟨k1,hu.tr.trans k2,hu.size,hu.defers.mono k2,fun i=>V.aS k2 _ _ (hu.env i)⟩
  intro fuel
  induction fuel with
  |zero=>
   intro ay φ a w ec Hb pE D0 hu
   have bz:∀k,k<N->Ef ay k=true:=by
    intro k hk
    have h1:ay.count true=ay.size:=ad
    rw[Array.count_eq_size]at h1
    have:=h1 ay[k] (Array.getElem_mem ad)
    simp only[Ef,Array.getD_eq_getD_getElem?]
    rw[Array.getElem?_eq_getElem (by omega)]
    simpa using this.symm
   refine⟨?_,fin ay φ a w bz D0 hu⟩
   rw[List.eq_nil_iff_forall_not_mem]
   intro k hk
   obtain⟨h1,o,h2,_⟩:=mem_ready.1 hk
   have hkN:k<N:=(Array.getElem?_eq_some_iff.1 h2).1
   have:=bz k hkN
   simp only[Ef,Array.getD_eq_getD_getElem?]at this h1
   rw[Array.getElem?_eq_getElem (by omega)]at this h1
   simp only[Option.getD_some]at this h1
   rw[this]at h1;cases h1
  |succ fuel ih=>
   intro ay φ a w ec Hb pE D0 hu
   refine⟨fun hr=>fin ay φ a w (o6 tK ec hr) D0 hu,fun i hi=> ?_⟩
   obtain⟨h1,o,h2,h3⟩:=mem_ready.1 hi
   have tw:i<N:=(Array.getElem?_eq_some_iff.1 h2).1
   have mM:Ef ay i=false:=by
    simp only[Ef,Array.getD_eq_getD_getElem?]at h1|-
    rw[Array.getElem?_eq_getElem (by omega)]at h1|-
    simpa using h1
   have JI:∀j∈bM ops i,Ef ay j=true:=by
    intro j hj
    simp only[bM,h2,List.mem_map,List.mem_filter]at hj
    obtain⟨e,⟨he,hb⟩,rfl⟩:=hj
    exact h3 e (Array.mem_toList_iff.1 he) hb
   have JK:zF N po (Ef ay):=fun k hk fP=>Ff _ pE k hk (pE k hk fP)
   obtain⟨Ya,ag2⟩:=agree (s:=s) BO hc JK tw mM (Ff _ pE i tw JI)
   obtain⟨g1,g2,g3,g4⟩:=xI (uL _ _ i o rH Dk)
   have db: ¬DZ ay (s.nx+i):=by
    rintro(h|⟨k,_,hk,he⟩)
    ·omega
    ·have:k=i:=ad
     subst this;rw[mM]at hk;cases hk
   have DY:∀k,Ef (ay.setIfInBounds i true) k=(Ef ay k||k==i):=by
    intro k
    simp only[Ef,Array.getD_eq_getD_getElem?]
    by_cases e:k=i
    ·subst e;simp[ec,tw]
    ·rw[Array.getElem?_setIfInBounds_ne (Ne.symm e)]
     have:(k==i)=false:=by simpa using e
     simp[this]
   have Ta:=insert (s:=s) hc JK tw mM DY
   have Tb:∀k,k<N->Ef (ay.setIfInBounds i true) k=true->∀j∈bM ops k,Ef (ay.setIfInBounds i true) j=true:=by
    intro k hk fP j hj
    rw[DY]at fP|-
    by_cases e:k=i
    ·subst e;simp[JI j hj]
    ·have:(k==i)=false:=by simpa using e
     rw[this,Bool.or_false]at fP
     simp[pE k hk fP j hj]
   have JL:(ay.setIfInBounds i true).count true+fuel=N:=by
    have cU:i<ay.size:=ad
    have e1:ay.setIfInBounds i true=ay.set i true cU:=by simp[Array.setIfInBounds,cU]
    have e2:ay[i]=false:=by
     have:=mM
     simp only[Ef,Array.getD_eq_getD_getElem?]at this
     rw[Array.getElem?_eq_getElem cU]at this
     simpa using this
    rw[e1,Array.count_set cU,e2]
    simp
    omega
   have kQ:(ac i).ok=true->∀aO a' w',tv M cQ H0 w0 n cx aO (wm o.dst (ac i) (eT (cc l) ac (Ef ay) s N)) (fun id=>DZ ay id\/id=s.nx+i) a' w'->wpAnyIn (ed ro) k P .any ops Q fuel (ay.setIfInBounds i true) a' w':=by
    intro Yb aO a' w' wD
    refine ih _ aO a' w' (by simp[ec]) JL Tb (fun k hk fP=> ?_) ?_
    ·rw[DY]at fP
     by_cases e:k=i
     ·subst e;exact Yb
     ·have:(k==i)=false:=by simpa using e
      rw[this,Bool.or_false]at fP
      exact D0 k hk fP
    rw[Ta,g2]
    obtain⟨k1,k2⟩:=jK (us':=DZ (ay.setIfInBounds i true)) wD.heap (fun id h=>by
     rcases h with(h|⟨k,hk,fP,rfl⟩)|rfl
     ·exact .inl h
     ·exact .inr ⟨k,hk,by rw[DY,fP];rfl,rfl⟩
     ·exact .inr ⟨i,tw,by rw[DY];simp,rfl⟩)
    exact⟨k1,wD.tr.trans k2,wD.size,wD.defers.mono k2,fun j=>V.aS k2 _ _ (wD.env j)⟩
   have Hc:∀d want,(cc l i).gd=some (d,want)->(eT (cc l) ac (Ef ay) s N).env d=(eT (cc l) ac (fun _=>true) s i).env d:=fun d want hd=>Ya d (by simp[fm,tmpsOf,hd])
   have bn:=S9 i tw
   have Hd:∀x∈(cc l i).op.operands,(eT (cc l) ac (Ef ay) s N).ev x=(eT (cc l) ac (fun _=>true) s i).ev x:=fun x hx=>BK fun t ht=>Ya t (by
    subst ht
    simp only[fm,tmpsOf,List.mem_append,List.mem_filterMap]
    exact .inl (.inl ⟨.tmp t,Array.mem_toList_iff.2 hx,rfl⟩))
   have Nr:(eT (cc l) ac (Ef ay) s N).nx=(eT (cc l) ac (fun _=>true) s i).nx:=(lW N).trans (lW i).symm
   unfold wpOpIn
   simp only[h2]
   cases uf:ac i with
   |skip=>
    rw[uf]at bn kQ
    have hw:=fW hu.env g4 (fX Hc bn)
    simp only[hw,Bool.false_eq_true,if_false]
    refine⟨fun _ _=>trivial,kQ rfl φ _ w ?_⟩
    have:=jn (v:= .ck []) (val:=undef) hu hu.heap (Trans.refl _ _ _) ⟨#[],rfl,rfl⟩ (dst:=o.dst) g3 rfl (us':=fun id=>DZ ay id\/id=s.nx+i) (fun id h=> .inl h)
    exact this
   |val v Δ rd=>
    rw[uf]at bn kQ
    have hw:=fW hu.env g4 (fX Hc bn.1)
    simp only[hw,if_true]
    obtain⟨tt,nT⟩:=sJ Hd (fun id aB=>ag2 id (by rw[uf];exact aB)) Nr bn.2
    exact BJ hu db (fun id h=> .inl SO) g1.symm g3 nT (kQ rfl)
   |bR v ws rd=>
    rw[uf]at bn
    have hw:=fW hu.env g4 (fX Hc bn.1)
    simp only[hw,if_true]
    have nT:=BL Hd (fun id aB=>ag2 id (by rw[uf];exact aB)) Nr bn.2
    refine JJ (s0:=s) (ds:=dl) (wl:=wl) (N:=N) hu (fun id h=> .inl SO) (fun id h=> ?_) g1.symm nT (fun t ht=> ?_) (fun id aB=> ?_) (Nq i v ws rd tw uf) (lW N).symm (fun aO w' val h1 h2=>hX i v ws rd tw uf aO a w' val h1 h2)
    ·rw[lW]
     rcases h with h|⟨k,hk,_,rfl⟩<;>omega
    ·refine Fe N fun j hj e=> ?_
     have:=hdl j hj t e
     rw[ht]at this;cases this
    ·refine PJ N fun j hj hm=> ?_
     have:=hwl j hj id hm
     rw[aB]at this;cases this
   |eK=>
    exfalso
    obtain⟨j,hj,Tc⟩:=Ha i tw uf
    have:=D0 j (Nat.lt_trans (tK i tw j hj) tw) (JI j hj)
    rw[Tc]at this;cases this
 refine key ops.size _ φ a w (by simp[N]) (by simp[N,Array.count_replicate]) (fun k hk fP=> ?_) (fun k hk fP=> ?_) ?_
 ·simp[Ef,Array.getD_eq_getD_getElem?,Array.getElem?_replicate]at fP
  split at fP<;>simp at fP
 ·simp[Ef,Array.getD_eq_getD_getElem?,Array.getElem?_replicate]at fP
  split at fP<;>simp at fP
 ·have e:∀k,eT (cc l) ac (Ef (Array.replicate ops.size false)) s k=s:=by
   intro k
   induction k with
   |zero=>rfl
   |succ k ih=>
    have:Ef (Array.replicate ops.size false) k=false:=by
     simp only[Ef,Array.getD_eq_getD_getElem?,Array.getElem?_replicate]
     split<;>rfl
    simp only[eT,this,ih]
    rfl
  rw[e]
  obtain⟨k1,k2⟩:=jK (us':=DZ (Array.replicate ops.size false)) hs.heap (fun id h=> .inl h)
  exact⟨k1,hs.tr.trans k2,hs.size,hs.defers.mono k2,fun j=>V.aS k2 _ _ (hs.env j)⟩
end
end Go.Proofs.YtonbelhklnmjnaaGreat
namespace Go.Proofs.YtonbelhklnmjnaaGreat
section
variable {P:Program}{M:Nat->Prop}{φ cQ:Place}{H0:Hp}{w w' w0:World}{n:Nat}{s:S}{us:Nat->Prop}{a:Act}{cx:Cx}{ro:Option Nat}{k:Nat}
variable {Q:Exit->Act->World->Prop}
theorem He{ops:Array Oper}{po:Nat->Nat->Prop}{m:Nat}{X:V->S->Prop}{K:S->Prop}
 (tK:∀k,k<ops.size->∀j∈bM ops k,j<k)
 (Ff:∀E:Nat->Bool,(∀k,k<ops.size->E k=true->∀j∈bM ops k,E j=true)->∀k,k<ops.size->(∀j∈bM ops k,E j=true)->∀j,po k j->E j=true)
 (Fg:∀k,m<=k->k<ops.size->∀j,j<k->po k j)
 (hK:∀s φ a w,K s->cq M cQ H0 w0 n cx φ s a w->Q .normal a w)
 (hX:∀v s' aO a' w' val,X v s'->cq M cQ H0 w0 n cx aO s' a' w'->V.den (ax M aO s'.H) aO s'.H w' v val->Q (.panic [{v:=val,recovered:=false}]) a' w'):
 ∀ (d t:Nat) (s:S) (φ:Place) (ay:Array Bool) (a:Act) (w:World),t+d=ops.size->ay.size=ops.size->(∀k,k<ops.size->ay.getD k false=decide (k<t))->m<=t->
   cq M cQ H0 w0 n cx φ s a w->zf P n ops X K (ops.toList.drop t) s->wpAnyIn (ed ro) k P .any ops Q d ay a w:=by
 intro d
 induction d with
 |zero=>
  intro t s φ ay a w ht ec hl Iz hs h
  have e:t=ops.size:=ad
  subst e
  refine⟨?_, ?_⟩
  ·rw[List.eq_nil_iff_forall_not_mem]
   intro j hj
   obtain⟨h1,o,h2,_⟩:=mem_ready.1 hj
   have hjN:j<ops.size:=(Array.getElem?_eq_some_iff.1 h2).1
   have:=hl j hjN
   simp only[Array.getD_eq_getD_getElem?]at this h1
   rw[Array.getElem?_eq_getElem (by omega)]at this h1
   simp only[Option.getD_some]at this h1
   rw[h1]at this
   simp[hjN]at this
  ·rw[List.drop_eq_nil_of_le (by simp)]at h
   exact hK s φ a w h hs
 |succ d ih=>
  intro t s φ ay a w ht ec hl Iz hs h
  have htN:t<ops.size:=ad
  refine⟨fun hr=> ?_,fun i hi=> ?_⟩
  ·have:=o6 tK ec hr t htN
   rw[hl t htN]at this
   simp at this
  ·obtain⟨h1,o,h2,h3⟩:=mem_ready.1 hi
   have tw:i<ops.size:=(Array.getElem?_eq_some_iff.1 h2).1
   have mM:ay.getD i false=false:=by
    simp only[Array.getD_eq_getD_getElem?]at h1|-
    rw[Array.getElem?_eq_getElem (by omega)]at h1|-
    simpa using h1
   have Yc:t<=i:=by
    have:=hl i tw
    rw[mM]at this
    have:=of_decide_eq_false this.symm
    omega
   have JI:∀j∈bM ops i,ay.getD j false=true:=by
    intro j hj
    simp only[bM,h2,List.mem_map,List.mem_filter]at hj
    obtain⟨e,⟨he,hb⟩,rfl⟩:=hj
    exact h3 e (Array.mem_toList_iff.1 he) hb
   have pE:∀k,k<ops.size->ay.getD k false=true->∀j∈bM ops k,ay.getD j false=true:=by
    intro k hk fP j hj
    have XC:=tK k hk j hj
    rw[hl k hk]at fP
    rw[hl j (by omega)]
    have:=of_decide_eq_true fP
    exact decide_eq_true ad
   have hie:i=t:=by
    rcases Nat.eq_or_lt_of_le Yc with e|e
    ·exact e.symm
    ·have:=Ff (fun k=>ay.getD k false) pE i tw JI t (Fg i ad tw t e)
     rw[hl t htN]at this
     simp at this
   subst hie
   have BP:ops.toList.drop i=o::ops.toList.drop (i+1):=by
    have S0:i<ops.toList.length:=by simpa using tw
    rw[List.drop_eq_getElem_cons S0]
    have:ops.toList[i]=o:=by
     have:=(Array.getElem?_eq_some_iff.1 h2).2
     simpa using this
    rw[this]
   rw[BP]at h
   obtain⟨g1,g2⟩:=qc hs h
   have zc:∀k,k<ops.size->(ay.setIfInBounds i true).getD k false=decide (k<i+1):=by
    intro k hk
    simp only[Array.getD_eq_getD_getElem?]
    by_cases e:k=i
    ·subst e;simp[ec,tw]
    ·rw[Array.getElem?_setIfInBounds_ne (Ne.symm e)]
     have:=hl k hk
     simp only[Array.getD_eq_getD_getElem?]at this
     rw[this]
     exact decide_eq_decide.2 ad
   have kQ:∀s' aO a' w',zf P n ops X K (ops.toList.drop (i+1)) s'->cq M cQ H0 w0 n cx aO s' a' w'->wpAnyIn (ed ro) k P .any ops Q d (ay.setIfInBounds i true) a' w':=
    fun s' aO a' w' hk iE=>ih (i+1) s' aO _ a' w' ad (by simp[ec]) zc ad iE hk
   unfold wpOpIn
   simp only[h2]
   split
   ·rename_i hw
    exact xr hs (g1 hw) (fun s' aO a' w' hk iE=>kQ s' aO a' w' hk iE) (fun v s' aO w' val hx iE hd=>hX v s' aO a w' val hx iE hd)
   ·rename_i hw
    obtain⟨da,h3⟩:=g2 (by simpa using hw)
    exact⟨fun _ _=>trivial,kQ _ _ _ _ h3 (Bv hs da)⟩
theorem D1(bD:P.follows .mixedOrders=true){ops:Array Oper}{l:List cu}{id:Nat}(rH:lx n ops ops.toList=some l)(tK:∀k,k<ops.size->∀j∈bM ops k,j<k){ac:Nat->fy}{m:Nat}(hm:m<=ops.size){X:V->S->Prop}{K:S->Prop}
 (hs:cq M cQ H0 w0 n cx φ s a w) (S9:∀i,i<m->PI P (eT (cc l) ac (fun _=>true) s i) (s.nx+i) (cc l i) (ac i))
 (Yd:∀i,i<m->(ac i).ok=true)
 {po:Nat->Nat->Prop} (Ff:∀E:Nat->Bool,(∀k,k<ops.size->E k=true->∀j∈bM ops k,E j=true)->∀k,k<ops.size->(∀j∈bM ops k,E j=true)->∀j,po k j->E j=true) (BO:∀k,k<ops.size->∀j,po k j->j<k)
 (hc:∀i j,i<j->j<m-> ¬po j i->Compat (cc l) ac (fun i=>wI (ac i)) i j)
 (Fg:∀k,m<=k->k<ops.size->∀j,j<k->po k j)
 (cN:zf P n ops X K (ops.toList.drop m) ⟨(eT (cc l) ac (fun _=>true) s m).env,(eT (cc l) ac (fun _=>true) s m).o,s.nx+m⟩)
 (hK:∀s φ a w,K s->cq M cQ H0 w0 n cx φ s a w->Q .normal a w)
 (hX:∀v s' aO a' w' val,X v s'->cq M cQ H0 w0 n cx aO s' a' w'->V.den (ax M aO s'.H) aO s'.H w' v val->Q (.panic [{v:=val,recovered:=false}]) a' w'):
 (Code.region id ops true).wpIn (ed ro) k P Q a w:=by
 refine wpIn_region_any bD ?_
 have hs:=BM hs
 generalize ({w with drawn:=w.drawn+1}:World)=w at hs
 let N:=m
 let Ef (ay:Array Bool) (k:Nat):Bool:=ay.getD k false
 let DZ (ay:Array Bool) (j:Nat):Prop:=j<s.nx\/∃k,k<N/\Ef ay k=true/\j=s.nx+k
 have key:∀ (fuel:Nat) (ay:Array Bool) (φ:Place) (a:Act) (w:World),ay.size=ops.size->ay.count true+fuel=ops.size->(∀k,k<ops.size->Ef ay k=true->∀j∈bM ops k,Ef ay j=true)->(∀k,k<ops.size->Ef ay k=true->k<m)->
  tv M cQ H0 w0 n cx φ (eT (cc l) ac (Ef ay) s N) (DZ ay) a w->wpAnyIn (ed ro) k P .any ops Q fuel ay a w:=by
  have fin:∀ (fuel:Nat) (ay:Array Bool) (φ:Place) (a:Act) (w:World),ay.size=ops.size->ay.count true+fuel=ops.size->(∀k,k<ops.size->Ef ay k=true->k<m)->(∀k,k<N->Ef ay k=true)->tv M cQ H0 w0 n cx φ (eT (cc l) ac (Ef ay) s N) (DZ ay) a w->wpAnyIn (ed ro) k P .any ops Q fuel ay a w:=by
   intro fuel ay φ a w ec Hb cU bz hu
   have e:∀k,k<=N->eT (cc l) ac (Ef ay) s k=eT (cc l) ac (fun _=>true) s k:=by
    intro k
    induction k with
    |zero=>intro _;rfl
    |succ k ih=>intro hk;simp only[eT,bz k (by omega),ih (by omega)]
   rw[e N (Nat.le_refl _)]at hu
   obtain⟨k1,k2⟩:=jK (us':=fun id=>id<s.nx+N) hu.heap (fun id h=>by
    show id<s.nx+N
    rcases h with h|⟨k,hk,_,rfl⟩<;>omega)
   have hlv:∀k,k<ops.size->ay.getD k false=decide (k<m):=by
    intro k hk
    by_cases h:k<m
    ·rw[decide_eq_true h];exact bz k h
    ·rw[decide_eq_false h]
     cases hb:ay.getD k false with
     |false=>rfl
     |true=>exact absurd (cU k hk hb) h
   have hcm:ay.count true=m:=by
    have e1:ay=Array.ofFn (n:=ops.size) fun k=>decide (k.1<m):=by
     apply Array.ext
     ·simp[ec]
     ·intro k h1 h2
      have:=hlv k ad
      simp only[Array.getD_eq_getD_getElem?]at this
      rw[Array.getElem?_eq_getElem h1]at this
      simpa using this
    have e2:ay.toList=List.replicate m true++List.replicate (ops.size - m) false:=by
     apply List.ext_getElem?
     intro k
     by_cases hk:k<ops.size
     ·have h1:ay.toList[k]? =some (decide (k<m)):=by
       have:=hlv k hk
       simp only[Array.getD_eq_getD_getElem?]at this
       rw[Array.getElem?_eq_getElem (by omega)]at this
       simp only[Option.getD_some]at this
       rw[Array.getElem?_toList,Array.getElem?_eq_getElem (by omega),this]
      rw[h1]
      by_cases h:k<m
      ·rw[List.getElem?_append_left (by simpa using h)]
       simp[h]
      ·rw[List.getElem?_append_right (by simpa using(by omega:m<=k))]
       rw[List.length_replicate,List.getElem?_replicate,if_pos (by omega),decide_eq_false h]
     ·rw[List.getElem?_eq_none (by simp[ec];omega),List.getElem?_eq_none (by simp;omega)]
    rw[<- Array.count_toList,e2,List.count_append,List.count_replicate_self,List.count_replicate]
    simp
   exact He tK Ff Fg hK hX fuel m ⟨(eT (cc l) ac (fun _=>true) s m).env,(eT (cc l) ac (fun _=>true) s m).o,s.nx+m⟩ φ ay a w ad ec hlv (Nat.le_refl _) ⟨k1,hu.tr.trans k2,hu.size,hu.defers.mono k2,fun i=>V.aS k2 _ _ (hu.env i)⟩ cN
  intro fuel
  induction fuel with
  |zero=>
   intro ay φ a w ec Hb pE cU hu
   have bz:∀k,k<ops.size->Ef ay k=true:=by
    intro k hk
    have h1:ay.count true=ay.size:=ad
    rw[Array.count_eq_size]at h1
    have:=h1 ay[k] (Array.getElem_mem ad)
    simp only[Ef,Array.getD_eq_getD_getElem?]
    rw[Array.getElem?_eq_getElem (by omega)]
    simpa using this.symm
   exact fin 0 ay φ a w ec Hb cU (fun k hk=>bz k ad) hu
  |succ fuel ih=>
   intro ay φ a w ec Hb pE cU hu
   by_cases PK:∀k,k<m->Ef ay k=true
   ·exact fin (fuel+1) ay φ a w ec Hb cU PK hu
   have hex:∃j,j<m/\Ef ay j=false:=by
    apply Classical.byContradiction
    intro A6
    refine PK fun k hk=> ?_
    cases hb:Ef ay k with
    |true=>rfl
    |false=>exact absurd ⟨k,hk,hb⟩ A6
   obtain⟨j0,hj0,Ye⟩:=hex
   refine⟨fun hr=> ?_,fun i hi=> ?_⟩
   ·have:=o6 tK ec hr j0 ad
    rw[show ay.getD j0 false=false from Ye]at this
    cases this
   obtain⟨h1,o,h2,h3⟩:=mem_ready.1 hi
   have hiS:i<ops.size:=(Array.getElem?_eq_some_iff.1 h2).1
   have mM:Ef ay i=false:=by
    simp only[Ef,Array.getD_eq_getD_getElem?]at h1|-
    rw[Array.getElem?_eq_getElem (by omega)]at h1|-
    simpa using h1
   have JI:∀j∈bM ops i,Ef ay j=true:=by
    intro j hj
    simp only[bM,h2,List.mem_map,List.mem_filter]at hj
    obtain⟨e,⟨he,hb⟩,rfl⟩:=hj
    exact h3 e (Array.mem_toList_iff.1 he) hb
   have tw:i<N:=by
    apply Classical.byContradiction
    intro AF
    have AF:m<=i:=Nat.le_of_not_lt AF
    have:=Ff _ pE i hiS JI j0 (Fg i AF hiS j0 ad)
    rw[Ye]at this;cases this
   have JK:zF N po (Ef ay):=fun k hk fP=>Ff _ pE k ad (pE k ad fP)
   obtain⟨Ya,ag2⟩:=agree (s:=s) (n:=N) (fun k hk=>BO k ad) hc JK tw mM (Ff _ pE i ad JI)
   obtain⟨g1,g2,g3,g4⟩:=xI (uL _ _ i o rH Dk)
   have db: ¬DZ ay (s.nx+i):=by
    rintro(h|⟨k,_,hk,he⟩)
    ·omega
    ·have:k=i:=ad
     subst this;rw[mM]at hk;cases hk
   have DY:∀k,Ef (ay.setIfInBounds i true) k=(Ef ay k||k==i):=by
    intro k
    simp only[Ef,Array.getD_eq_getD_getElem?]
    by_cases e:k=i
    ·subst e;simp[ec,hiS]
    ·rw[Array.getElem?_setIfInBounds_ne (Ne.symm e)]
     have:(k==i)=false:=by simpa using e
     simp[this]
   have Ta:=insert (s:=s) hc JK tw mM DY
   have Tb:∀k,k<ops.size->Ef (ay.setIfInBounds i true) k=true->∀j∈bM ops k,Ef (ay.setIfInBounds i true) j=true:=by
    intro k hk fP j hj
    rw[DY]at fP|-
    by_cases e:k=i
    ·subst e;simp[JI j hj]
    ·have:(k==i)=false:=by simpa using e
     rw[this,Bool.or_false]at fP
     simp[pE k hk fP j hj]
   have JL:(ay.setIfInBounds i true).count true+fuel=ops.size:=by
    have cU:i<ay.size:=ad
    have e1:ay.setIfInBounds i true=ay.set i true cU:=by simp[Array.setIfInBounds,cU]
    have e2:ay[i]=false:=by
     have:=mM
     simp only[Ef,Array.getD_eq_getD_getElem?]at this
     rw[Array.getElem?_eq_getElem cU]at this
     simpa using this
    rw[e1,Array.count_set cU,e2]
    simp
    omega
   have kQ:(ac i).ok=true->∀aO a' w',tv M cQ H0 w0 n cx aO (wm o.dst (ac i) (eT (cc l) ac (Ef ay) s N)) (fun id=>DZ ay id\/id=s.nx+i) a' w'->wpAnyIn (ed ro) k P .any ops Q fuel (ay.setIfInBounds i true) a' w':=by
    intro Yb aO a' w' wD
    refine ih _ aO a' w' (by simp[ec]) JL Tb (fun k hk fP=> ?_) ?_
    ·rw[DY]at fP
     by_cases e:k=i
     ·subst e;exact tw
     ·have:(k==i)=false:=by simpa using e
      rw[this,Bool.or_false]at fP
      exact cU k hk fP
    rw[Ta,g2]
    obtain⟨k1,k2⟩:=jK (us':=DZ (ay.setIfInBounds i true)) wD.heap (fun id h=>by
     rcases h with(h|⟨k,hk,fP,rfl⟩)|rfl
     ·exact .inl h
     ·exact .inr ⟨k,hk,by rw[DY,fP];rfl,rfl⟩
     ·exact .inr ⟨i,tw,by rw[DY];simp,rfl⟩)
    exact⟨k1,wD.tr.trans k2,wD.size,wD.defers.mono k2,fun j=>V.aS k2 _ _ (wD.env j)⟩
   have Hc:∀d want,(cc l i).gd=some (d,want)->(eT (cc l) ac (Ef ay) s N).env d=(eT (cc l) ac (fun _=>true) s i).env d:=fun d want hd=>Ya d (by simp[fm,tmpsOf,hd])
   have bn:=S9 i tw
   have Hd:∀x∈(cc l i).op.operands,(eT (cc l) ac (Ef ay) s N).ev x=(eT (cc l) ac (fun _=>true) s i).ev x:=fun x hx=>BK fun t ht=>Ya t (by
    subst ht
    simp only[fm,tmpsOf,List.mem_append,List.mem_filterMap]
    exact .inl (.inl ⟨.tmp t,Array.mem_toList_iff.2 hx,rfl⟩))
   have Nr:(eT (cc l) ac (Ef ay) s N).nx=(eT (cc l) ac (fun _=>true) s i).nx:=(lW N).trans (lW i).symm
   unfold wpOpIn
   simp only[h2]
   cases uf:ac i with
   |skip=>
    rw[uf]at bn kQ
    have hw:=fW hu.env g4 (fX Hc bn)
    simp only[hw,Bool.false_eq_true,if_false]
    refine⟨fun _ _=>trivial,kQ rfl φ _ w ?_⟩
    have:=jn (v:= .ck []) (val:=undef) hu hu.heap (Trans.refl _ _ _) ⟨#[],rfl,rfl⟩ (dst:=o.dst) g3 rfl (us':=fun id=>DZ ay id\/id=s.nx+i) (fun id h=> .inl h)
    exact this
   |val v Δ rd=>
    rw[uf]at bn kQ
    have hw:=fW hu.env g4 (fX Hc bn.1)
    simp only[hw,if_true]
    obtain⟨tt,nT⟩:=sJ Hd (fun id aB=>ag2 id (by rw[uf];exact aB)) Nr bn.2
    exact BJ hu db (fun id h=> .inl SO) g1.symm g3 nT (kQ rfl)
   |bR v ws rd=>
    have:=Yd i tw
    rw[uf]at this;cases this
   |eK=>
    have:=Yd i tw
    rw[uf]at this;cases this
 refine key ops.size _ φ a w aj (by simp[Array.count_replicate]) (fun k hk fP=> ?_) (fun k hk fP=> ?_) ?_
 ·simp[Ef,Array.getD_eq_getD_getElem?,Array.getElem?_replicate]at fP
  split at fP<;>simp at fP
 ·simp[Ef,Array.getD_eq_getD_getElem?,Array.getElem?_replicate]at fP
  split at fP<;>simp at fP
 ·have e:∀k,eT (cc l) ac (Ef (Array.replicate ops.size false)) s k=s:=by
   intro k
   induction k with
   |zero=>rfl
   |succ k ih=>
    have:Ef (Array.replicate ops.size false) k=false:=by
     simp only[Ef,Array.getD_eq_getD_getElem?,Array.getElem?_replicate]
     split<;>rfl
    simp only[eT,this,ih]
    rfl
  rw[e]
  obtain⟨k1,k2⟩:=jK (us':=DZ (Array.replicate ops.size false)) hs.heap (fun id h=> .inl h)
  exact⟨k1,hs.tr.trans k2,hs.size,hs.defers.mono k2,fun j=>V.aS k2 _ _ (hs.env j)⟩
end
end Go.Proofs.YtonbelhklnmjnaaGreat
