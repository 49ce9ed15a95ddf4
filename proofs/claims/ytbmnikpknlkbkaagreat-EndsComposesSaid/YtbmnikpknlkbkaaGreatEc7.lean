/-
  A PART OF THE PROOF. Conditions: none.
-/
import Derived.OrdersIn
import Derived.Test.YtbmnikpknlkbkaaGreatEc6
set_option linter.unusedSimpArgs false
set_option linter.unusedVariables false
namespace Go.Proofs.YtbmnikpknlkbkaaGreat
def aa.refs:aa->List Nat
 | .row cs=>V.az cs
 | .loop _ _ env _ _ _ _ _=>V.az env
 |_=>[]
def A9(R:List Nat)(o:Nat->aa):Nat->aa:=fun id=>if R.contains id=true then o id else .no
def xz(P:Program)(g:FuncId)(args:List V)(rd:List Nat)(o:Nat->aa)(out:R)(Δ:List (Nat×aa)):Prop:=
 fJ P g/\∀ (o':Nat->aa) (us:Nat->Prop) (M:Nat->Prop) (φ:Place) (w:World) (vals:Array Value),(∀id∈rd,o' id=o id/\us id)->af M φ ⟨o',us⟩ w->V.ak (ad M φ ⟨o',us⟩) φ ⟨o',us⟩ w args vals.toList->
  Calls P g vals w fun e w'=>∃ai,af M ai ⟨put o' Δ,us⟩ w'/\Trans φ ⟨o',us⟩ w ai ⟨put o' Δ,us⟩ w'/\out.is (ad M ai ⟨put o' Δ,us⟩) w' e
def tO(P:Program)(g:FuncId)(args:List V)(rd:List Nat)(o:Nat->aa)(fr:Nat)(v:V)(Δ:List (Nat×aa)):Prop:=
 fJ P g/\∀ (o':Nat->aa) (us:Nat->Prop) (M:Nat->Prop) (φ:Place) (w:World) (vals:Array Value),(∀id∈rd,o' id=o id/\us id)-> ¬us fr->af M φ ⟨o',us⟩ w->V.ak (ad M φ ⟨o',us⟩) φ ⟨o',us⟩ w args vals.toList->
  Calls P g vals w fun e w'=>∃ai,af M ai ⟨put o' Δ,fun id=>us id\/id=fr⟩ w'/\Trans φ ⟨o',us⟩ w ai ⟨put o' Δ,fun id=>us id\/id=fr⟩ w'/\∃val,e= .returned val/\V.den (ad M ai ⟨put o' Δ,fun id=>us id\/id=fr⟩) ai ⟨put o' Δ,fun id=>us id\/id=fr⟩ w' v val
mutual
theorem V.gW {B B':Nat->Prop}{φ ai:Place}{H H':Hp}{w:World}(hB:∀b, ¬B b-> ¬B' b):∀ (v:V) (val:Value),(∀id∈v.refs,H'.o id=H.o id/\ai id=φ id/\H'.us id)->V.den B φ H w v val->V.den B' ai H' w v val
 | .d x,val,_,h=>D.ao (w:=w) (w':=w) (fun b _ hn=>⟨rfl,hB b hn⟩) x val h
 | .aI,_,_,h=>h
 | .aE,_,_,_=>trivial
 | .dy,_,_,h=>h
 | .jU es,val,_,h=>⟨D.ao (w:=w) (w':=w) (fun b _ hn=>⟨rfl,hB b hn⟩) (.sl es) val h.1,h.2⟩
 | .agg cs,val,hr,h=>by
   obtain⟨a,rfl,h1,h2⟩:=h
   exact⟨a,rfl,V.dC hB cs _ (by simpa[V.refs]using hr) h1,h2⟩
 | .bJ cs,val,hr,h=>by
   obtain⟨a,rfl,h1⟩:=h
   exact⟨a,rfl,V.dC hB cs _ (by simpa[V.refs]using hr) h1⟩
 | .ptr id off,val,hr,h=>by
   obtain⟨a,b,c⟩:=hr id (by simp[V.refs])
   obtain⟨h0,h1,h2⟩:=h
   refine⟨h0,c,fun aY=> ?_⟩
   rw[a]at aY
   obtain⟨x,y,z⟩:=h2 aY
   exact⟨x,b.trans y,z⟩
 | .osl id ep,val,hr,h=>by
   obtain⟨a,b,c⟩:=hr id (by simp[V.refs])
   obtain⟨h0,h1,h2⟩:=h
   refine⟨h0,c,fun e he=> ?_⟩
   rw[a]at he
   obtain⟨x,y⟩:=h2 e he
   exact⟨x,fun heq=>(y heq).trans b.symm⟩
 | .pe id ep i sz off,val,hr,h=>by
   obtain⟨a,b,c⟩:=hr id (by simp[V.refs])
   obtain⟨h0,h1,h2⟩:=h
   refine⟨h0,c,fun e he=> ?_⟩
   rw[a]at he
   obtain⟨x,y⟩:=h2 e he
   refine⟨x,fun heq=> ?_⟩
   obtain⟨p,q,r,z,u⟩:=y heq
   exact⟨p,q,r,b.trans z,u⟩
 | .pp cs off,val,_,h=>by
   obtain⟨a,ev,h1,h2,h3,h5,h4⟩:=h
   exact⟨a,ev,h1,h2,D.aw (w:=w) (w':=w) (fun b _ hn=>⟨rfl,hB b hn⟩) cs ev h3,h5,h4.mono (w:=w) (w':=w) (fun b _ hn=>⟨rfl,hB b hn⟩)⟩
 | .func fn first cap,val,hr,h=>by
   obtain⟨f,c,rfl,h1,h2⟩:=h
   exact⟨f,c,rfl,V.dC hB first _ (fun id ag=>hr id (by simp[V.refs,ag])) h1,V.dC hB cap _ (fun id ag=>hr id (by simp[V.refs,ag])) h2⟩
 | .iface t x,val,hr,h=>by
   obtain⟨u,rfl,h⟩:=h
   exact⟨u,rfl,V.gW hB x u (by simpa[V.refs]using hr) h⟩
 | .nm id off n,val,hr,h=>by
   obtain⟨a,b,c⟩:=hr id (by simp[V.refs])
   obtain⟨h0,h1,h2⟩:=h
   refine⟨h0,c,fun aY=> ?_⟩
   rw[a]at aY
   obtain⟨x,y,z⟩:=h2 aY
   exact⟨x,b.trans y,z⟩
 | .mp id,val,hr,h=>by
   obtain⟨a,b,c⟩:=hr id (by simp[V.refs])
   obtain⟨h0,h1,h2⟩:=h
   refine⟨h0,c,fun aY=> ?_⟩
   rw[a]at aY
   exact(h2 aY).trans b.symm
 | .js id,val,hr,h=>by
   obtain⟨a,b,c⟩:=hr id (by simp[V.refs])
   obtain⟨h0,h1,h2⟩:=h
   refine⟨h0,c,fun aY=> ?_⟩
   rw[a]at aY
   obtain⟨x,y,z⟩:=h2 aY
   exact⟨x,b.trans y,z⟩
theorem V.dC {B B':Nat->Prop}{φ ai:Place}{H H':Hp}{w:World}(hB:∀b, ¬B b-> ¬B' b):∀ (vs:List V) (vals:List Value),(∀id∈V.az vs,H'.o id=H.o id/\ai id=φ id/\H'.us id)->V.ak B φ H w vs vals->V.ak B' ai H' w vs vals
 |[],_,_,h=>h
 |v::vs,_,hr,h=>by
  obtain⟨u,us,rfl,h1,h2⟩:=h
  exact⟨u,us,rfl,V.gW hB v u (fun id ag=>hr id (by simp[V.az,ag])) h1,V.dC hB vs us (fun id ag=>hr id (by simp[V.az,ag])) h2⟩
end
theorem vZ{env:List V}{i id:Nat}(h:id∈(bU env i).refs):id∈V.az env:=by
 unfold bU at h
 induction env generalizing i with
 |nil=>simp[V.refs]at h
 |cons v env ih=>
  cases i with
  |zero=>simp only[List.getD_cons_zero]at h;simp[V.az,h]
  |succ i=>simp only[List.getD_cons_succ]at h;simp[V.az,ih h]
theorem aq.refs {M M':Nat->Prop}{φ ai:Place}{H H':Hp}{w:World}{id:Nat}(hB:∀b, ¬ad M φ H b-> ¬ad M' ai H' b)(ho:H'.o id=H.o id)(cz:ai id=φ id)
 (hr:∀j∈(H.o id).refs,H'.o j=H.o j/\ai j=φ j/\H'.us j) (h:aq M φ H w id):aq M' ai H' w id:=by
 have hd:∀b,bC w b-> ¬ad M φ H b->w.heap[b]? =w.heap[b]? /\ ¬ad M' ai H' b:=fun b _ hn=>⟨rfl,hB b hn⟩
 unfold aq at*
 rw[ho]
 cases hx:H.o id with
 |no=>trivial
 |row cs=>
  simp only[hx]at h|-
  obtain⟨b,bY,ty,h1,h2,h3,h4⟩:=h
  exact⟨b,bY,ty,cz.trans h1,h2,V.dC hB cs _ (fun j hj=>hr j (by rw[hx];exact hj)) h3,h4⟩
 |arr ep ty sz es=>
  simp only[hx]at h|-
  obtain⟨h0,xs,h1,evs,h2,h3,h4⟩:=h
  exact⟨h0,xs,by rw[cz];exact h1,evs,h2,h3,D.aw hd es evs h4⟩
 |ky ep es=>
  simp only[hx]at h|-
  rw[cz]
  exact D.ao hd (.sl es) _ h
 |map kt vt l=>
  simp only[hx]at h|-
  obtain⟨b,es,clock,h1,h2,h4,h3⟩:=h
  exact⟨b,es,clock,cz.trans h1,h2,h4,au.mono hd l _ h3⟩
 |dT l=>
  simp only[hx]at h|-
  rw[cz]
  exact D.ao hd (.mp _ _) _ h
 |lS l last=>
  simp only[hx]at h|-
  obtain⟨b,h1,h2⟩:=h
  exact⟨b,cz.trans h1,h2.mono hd rfl⟩
 |oB s pos=>
  simp only[hx]at h|-
  obtain⟨b,h1,h2⟩:=h
  exact⟨b,cz.trans h1,h2⟩
 |loop nf n env ps jE fW st vm=>
  simp only[hx]at h|-
  obtain⟨b,r,h1,h2,h0,h3,h4,h5,h6,h7,h8,h9⟩:=h
  exact⟨b,r,cz.trans h1,h2,h0,h3,h4,h5,h6,h7,h8,fun i=>V.gW hB _ _ (fun j hj=>hr j (by rw[hx];exact vZ hj)) (h9 i)⟩
section
variable {P:Program}
theorem tP{o o':Nat->aa}{Δ:List (Nat×aa)}{id:Nat}(h:o id=o' id):put o Δ id=put o' Δ id:=uI h
where uI {o o':Nat->aa}:∀ {Δ:List (Nat×aa)} {id:Nat},o id=o' id->put o Δ id=put o' Δ id
 |[],_,h=>h
 |x::Δ,id,h=>by
  simp only[put,List.foldl_cons]
  refine uI (Δ:=Δ) (o:=aV o x.1 x.2) (o':=aV o' x.1 x.2) ?_
  simp only[ax]
  split
  ·rfl
  ·exact h
theorem qw{o:Nat->aa}:∀ {Δ:List (Nat×aa)} {id:Nat},(∀x∈Δ,x.1≠id)->put o Δ id=o id
 |[],_,_=>rfl
 |x::Δ,id,h=>by
  have:=qw (o:=aV o x.1 x.2) (Δ:=Δ) (id:=id) (fun y hy=>h y (by simp[hy]))
  simp only[put,List.foldl_cons]at this|-
  rw[this];simp[Ne.symm (h x (by simp))]
theorem xz.kb {g:FuncId}{args:List V}{rd:List Nat}{o:Nat->aa}{nx:Nat}{out:R}{Δ:List (Nat×aa)}(oC:∀id∈rd,id<nx)(cH:∀id∈V.az args,id∈rd)(mO:∀id∈rd,∀j∈(o id).refs,j∈rd)(B8:∀x∈Δ,x.1∈rd)(I3:∀x∈Δ,∀j∈x.2.refs,j∈rd)
 (h:jx P g args (A9 rd o) nx
  (fun v o1 _=>(∀id∈rd,o1 id=put o Δ id)/\∃vs rs,v=(match vs with|[v]=>v|vs=> .bJ vs)/\bt o1 vs=some rs/\out= .ret rs/\∀id∈V.aP vs,id∉rd)
  (fun v o1 _=>(∀id∈rd,o1 id=put o Δ id)/\∃x,dk o1 v=some x/\out= .ba x/\∀id∈v.ids,id∉rd)):xz P g args rd o out Δ:=by
 refine⟨h.1,fun o' us M φ w vals ho hH hd=> ?_⟩
 let M1:Nat->Prop:=fun b=>M b\/∃id,id∉rd/\(o' id).live=true/\cW (φ id)=some b
 let HR:Hp:=hp (A9 rd o) nx
 have nT:∀id,id∈rd->A9 rd o id=o' id:=fun id ag=>by simp[A9,ag,(ho id ag).1]
 have mz:∀id,id∉rd->A9 rd o id= .no:=fun id ag=>by simp[A9,ag]
 have hB:∀b,ad M1 φ HR b↔ad M φ ⟨o',us⟩ b:=by
  intro b
  constructor
  ·rintro((h|⟨id,h1,h2,h3⟩)|⟨id,h1,h2⟩)
   ·exact .inl h
   ·exact .inr ⟨id,h2,h3⟩
   ·by_cases ag:id∈rd
    ·exact .inr ⟨id,by show(o' id).live=true;rw[<- nT id ag];exact h1,h2⟩
    ·have:HR.o id= .no:=mz id ag
     rw[this]at h1;cases h1
  ·rintro(h|⟨id,h1,h2⟩)
   ·exact .inl (.inl h)
   ·by_cases ag:id∈rd
    ·exact .inr ⟨id,by show(A9 rd o id).live=true;rw[nT id ag];exact h1,h2⟩
    ·exact .inl (.inr ⟨id,ag,h1,h2⟩)
 have oN:∀id∈rd,HR.o id=o' id/\φ id=φ id/\HR.us id:=fun id ag=>⟨nT id ag,rfl,oC id ag⟩
 have OA:af M1 φ HR w:=by
  refine⟨fun id=> ?_,fun id hn=> ?_,fun i j b hi hj bi bj=> ?_,fun b hb=> ?_,fun b hb=> ?_⟩
  ·by_cases ag:id∈rd
   ·refine aq.refs (H:=⟨o',us⟩) (M:=M) (φ:=φ) (fun b hn hb=>hn ((hB b).1 hb)) (nT id ag) rfl (fun j hj=>oN j ?_) (hH.ok id)
    have:o' id=o id:=(ho id ag).1
    exact mO id ag j (by rw[<- this];exact hj)
   ·unfold aq
    rw[show HR.o id= .no from mz id ag];trivial
  ·exact mz id fun ag=>hn (oC id ag)
  ·have live:∀i,(HR.o i).live=true->i∈rd/\(o' i).live=true:=fun i hi=>by
    by_cases ag:i∈rd
    ·exact⟨ag,by rw[<- nT i ag];exact hi⟩
    ·rw[show HR.o i= .no from mz i ag]at hi;cases hi
   exact hH.apart i j b (live i hi).2 (live j hj).2 bi bj
  ·obtain⟨id,h1,h2⟩:=hb
   have ag:id∈rd:=by
    by_cases ag:id∈rd
    ·exact ag
    ·rw[show HR.o id= .no from mz id ag]at h1;cases h1
   rw[show HR.o id=o' id from nT id ag]at h1
   obtain⟨k1,k2⟩:=hH.ours b ⟨id,h1,h2⟩
   refine⟨?_,k2⟩
   rintro(hM|⟨j,j1,j2,j3⟩)
   ·exact k1 hM
   ·exact j1 (hH.apart j id b j2 h1 j3 h2 ▸ ag)
  ·rcases hb with hb|⟨id,h1,h2,h3⟩
   ·exact hH.oE b hb
   ·exact(hH.ours b ⟨id,h2,h3⟩).2
 have OB:V.ak (ad M1 φ HR) φ HR w args vals.toList:=V.dC (H:=⟨o',us⟩) (fun b hn hb=>hn ((hB b).1 hb)) _ _ (fun id ag=>oN id (cH id ag)) hd
 refine(h.2 M1 φ w vals OA OB).mono ?_
 rintro e w' ⟨eX,o1,ri,v,k1,k2,k3⟩
 have main:(∀id∈rd,o1 id=put o Δ id)->∃ai,af M ai ⟨put o' Δ,us⟩ w'/\Trans φ ⟨o',us⟩ w ai ⟨put o' Δ,us⟩ w'/\∀b,ad M ai ⟨put o' Δ,us⟩ b->M1 b\/∃id∈rd,(o1 id).live=true/\cW (eX id)=some b:=by
  intro kP
  have jG:∀id∈rd,put o' Δ id=o1 id:=fun id ag=>(tP (ho id ag).1).trans (kP id ag).symm
  have rh:∀id,id∉rd->put o' Δ id=o' id:=fun id ag=>qw fun x hx e=>ag (e ▸ B8 x hx)
  let vR:Place:=fun id=>if id∈rd then eX id else φ id
  have qx:∀id∈rd,vR id=eX id:=fun id ag=>if_pos ag
  have se:∀id,id∉rd->vR id=φ id:=fun id ag=>if_neg ag
  let H2:Hp:=⟨put o' Δ,us⟩
  have bq:∀b,bp vR H2 b->(∃id∈rd,(o1 id).live=true/\cW (eX id)=some b)\/∃id,id∉rd/\(o' id).live=true/\cW (φ id)=some b:=by
   rintro b ⟨id,h1,h2⟩
   by_cases ag:id∈rd
   ·exact .inl ⟨id,ag,by rw[<- jG id ag];exact h1,by rw[<- qx id ag];exact h2⟩
   ·exact .inr ⟨id,ag,by rw[<- rh id ag];exact h1,by rw[<- se id ag];exact h2⟩
  have LP:∀b,ad M vR H2 b->ad M1 eX (hp o1 ri) b:=by
   rintro b (hb|hb)
   ·exact .inl (.inl hb)
   ·rcases bq b hb with⟨id,h1,h2,h3⟩|⟨id,h1,h2,h3⟩
    ·exact .inr ⟨id,h2,h3⟩
    ·exact .inl (.inr ⟨id,h1,h2,h3⟩)
  have Fa:cM φ ⟨o',us⟩ vR H2:=by
   refine⟨fun id h=>h,fun id hu hr=> ?_,fun id e' hu he=> ?_⟩
   ·by_cases ag:id∈rd
    ·rw[show H2.o id=o1 id from jG id ag]at hr
     obtain⟨a,b⟩:=k2.rel.row id (oC id ag) hr
     rw[show HR.o id=o' id from nT id ag]at a
     exact⟨a,(qx id ag).trans b⟩
    ·rw[show H2.o id=o' id from rh id ag]at hr
     exact⟨hr,se id ag⟩
   ·by_cases ag:id∈rd
    ·rw[show H2.o id=o1 id from jG id ag]at he
     obtain⟨e0,a,b,c⟩:=k2.rel.ep id e' (oC id ag) he
     rw[show HR.o id=o' id from nT id ag]at a
     exact⟨e0,a,b,fun heq=>(qx id ag).trans (c heq)⟩
    ·rw[show H2.o id=o' id from rh id ag]at he
     exact⟨e',he,Nat.le_refl _,fun _=>se id ag⟩
  have q9:∀b,bC w b-> ¬ad M φ ⟨o',us⟩ b->w'.heap[b]? =w.heap[b]? /\ ¬ad M vR H2 b:=by
   intro b hc hn
   obtain⟨a,c⟩:=k2.blocks (M:=M1) b hc (fun hb=>hn ((hB b).1 hb))
   exact⟨a,fun hb=>c (LP b hb)⟩
  have ql:∀b,b<w.heap.size-> ¬bp φ HR b->w'.heap[b]? =w.heap[b]? :=fun b hb hl=>k2.bD.block b hb hl
  have ht:Trans φ ⟨o',us⟩ w vR H2 w':=by
   refine⟨⟨k2.bD.os,k2.bD.tape,k2.bD.output,k2.bD.size,fun b hb hl=>ql b hb fun⟨id,h1,h2⟩=>hl ?_⟩,fun b hb=> ?_,Fa⟩
   ·by_cases ag:id∈rd
    ·exact⟨id,by show(o' id).live=true;rw[<- nT id ag];exact h1,h2⟩
    ·rw[show HR.o id= .no from mz id ag]at h1;cases h1
   ·rcases bq b hb with⟨id,h1,h2,h3⟩|⟨id,h1,h2,h3⟩
    ·rcases k2.grow b ⟨id,h2,h3⟩with⟨j,j1,j2⟩|re
     ·by_cases ag:j∈rd
      ·exact .inl ⟨j,by show(o' j).live=true;rw[<- nT j ag];exact j1,j2⟩
      ·rw[show HR.o j= .no from mz j ag]at j1;cases j1
     ·exact .inr re
    ·exact .inl ⟨id,h2,h3⟩
  refine⟨vR,⟨fun id=> ?_,fun id hn=> ?_,fun i j b hi hj bi bj=> ?_,fun b hb=> ?_,fun b hb=>Nat.lt_of_lt_of_le (hH.oE b hb) k2.bD.size⟩,ht,fun b hb=> ?_⟩
  ·by_cases ag:id∈rd
   ·refine aq.refs (H:=hp o1 ri) (M:=M1) (φ:=eX) (fun b hn hb=>hn (LP b hb)) (jG id ag) (qx id ag) (fun j hj=> ?_) (k1.ok id)
    have wB:j∈rd:=by
     have e1:o1 id=put o Δ id:=kP id ag
     have hj:j∈(put o Δ id).refs:=by rw[<- e1];exact hj
     have key:∀ (uJ:List (Nat×aa)) (q:Nat->aa),(∀x∈uJ,∀j∈x.2.refs,j∈rd)->(∀j∈(q id).refs,j∈rd)->∀j∈(put q uJ id).refs,j∈rd:=by
      intro uJ
      induction uJ with
      |nil=>intro q _ h2;exact h2
      |cons x uJ ih=>
       intro q h1 h2
       simp only[put,List.foldl_cons]
       refine ih (aV q x.1 x.2) (fun y hy=>h1 y (by simp[hy])) ?_
       simp only[ax]
       split
       ·exact h1 x (by simp)
       ·exact h2
     exact key Δ o I3 (mO id ag) j hj
    exact⟨jG j wB,qx j wB,(ho j wB).2⟩
   ·exact aq.rr q9 Fa (rh id ag) (se id ag) (fun hl b hb=>ql b (hH.ours b ⟨id,hl,hb⟩).2 fun⟨j,j1,j2⟩=>by
     by_cases hj:j∈rd
     ·rw[show HR.o j=o' j from nT j hj]at j1
      exact ag (hH.apart id j b hl j1 hb j2 ▸ hj)
     ·rw[show HR.o j= .no from mz j hj]at j1;cases j1) (hH.ok id)
  ·have ag:id∉rd:=fun ag=>hn (ho id ag).2
   exact(rh id ag).trans (hH.fresh id hn)
  ·by_cases e1:i∈rd<;>by_cases e2:j∈rd
   ·refine k1.apart i j b ?_ ?_ (by rw[<- qx i e1];exact bi) (by rw[<- qx j e2];exact bj)
    ·show(o1 i).live=true;rw[<- jG i e1];exact hi
    ·show(o1 j).live=true;rw[<- jG j e2];exact hj
   ·exfalso
    refine(k1.ours b ⟨i,by show(o1 i).live=true;rw[<- jG i e1];exact hi,by rw[<- qx i e1];exact bi⟩).1 (.inr ⟨j,e2,by rw[<- rh j e2];exact hj,by rw[<- se j e2];exact bj⟩)
   ·exfalso
    refine(k1.ours b ⟨j,by show(o1 j).live=true;rw[<- jG j e2];exact hj,by rw[<- qx j e2];exact bj⟩).1 (.inr ⟨i,e1,by rw[<- rh i e1];exact hi,by rw[<- se i e1];exact bi⟩)
   ·exact hH.apart i j b (by show(o' i).live=true;rw[<- rh i e1];exact hi) (by show(o' j).live=true;rw[<- rh j e2];exact hj) (by rw[<- se i e1];exact bi) (by rw[<- se j e2];exact bj)
  ·rcases bq b hb with⟨id,h1,h2,h3⟩|⟨id,h1,h2,h3⟩
   ·obtain⟨a,c⟩:=k1.ours b ⟨id,h2,h3⟩
    exact⟨fun hM=>a (.inl hM),c⟩
   ·obtain⟨a,c⟩:=hH.ours b ⟨id,h2,h3⟩
    exact⟨a,Nat.lt_of_lt_of_le c k2.bD.size⟩
  ·rcases hb with hb|hb
   ·exact .inl (.inl hb)
   ·rcases bq b hb with h|h
    ·exact .inr h
    ·exact .inl (.inr h)
 have res:∀ (vs:List V) (xs:List D) (us':List Value),(∀id∈rd,o1 id=put o Δ id)->bt o1 vs=some xs->(∀id∈V.aP vs,id∉rd)->V.ak (ad M1 eX (hp o1 ri)) eX (hp o1 ri) w' vs us'->
  ∃ai,af M ai ⟨put o' Δ,us⟩ w'/\Trans φ ⟨o',us⟩ w ai ⟨put o' Δ,us⟩ w'/\D.ak (ad M ai ⟨put o' Δ,us⟩) w' xs us':=by
  intro vs xs us' kP h1 I4 h2
  obtain⟨f1,f2,f3,f4,f5⟩:=cj k1 (V.aP vs) (bG vs _ h2)
  have h3:=cp f1 vs xs us' f3 h1 (V.aw f2 _ _ h2)
  obtain⟨ai,m1,m2,m3⟩:=main kP
  refine⟨ai,m1,m2,D.aw (w:=w') (w':=w') (fun b _ hn=>⟨rfl,fun hb=>hn ?_⟩) xs us' h3⟩
  rcases m3 b hb with hb|⟨id,i1,i2,i3⟩
  ·exact .inl hb
  ·exact .inr ⟨id,by rw[f4 id fun hm=>I4 id hm i1];exact i2,i3⟩
 cases e with
 |outgrown=>exact k3.elim
 |panicked ch=>
  obtain⟨val,rfl,g1,kP,x,g2,rfl,g3⟩:=k3
  obtain⟨ai,m1,m2,m3⟩:=res [v] [x] [val] kP (by simp[bt,g2]) (by simpa[V.aP]using g3) ⟨val,[],rfl,g1,rfl⟩
  obtain⟨u,us2,he,h2,_⟩:=m3
  simp at he;obtain⟨rfl,rfl⟩:=he
  exact⟨ai,m1,m2,val,rfl,h2⟩
 |returned val=>
  obtain⟨g1,kP,vs,rs,rfl,g2,rfl,g3⟩:=k3
  match vs,g1,g2,g3 with
  |[],g1,g2,g3=>
   obtain⟨arr,rfl,hv⟩:=g1
   simp only[bt,Option.some.injEq]at g2;subst g2
   obtain⟨ai,m1,m2,m3⟩:=res [] [] arr.toList kP rfl (by simp[V.aP]) hv
   exact⟨ai,m1,m2,arr,rfl,m3⟩
  |[v],g1,g2,g3=>
   obtain⟨ai,m1,m2,m3⟩:=res [v] rs [val] kP g2 g3 ⟨val,[],rfl,g1,rfl⟩
   refine⟨ai,m1,m2, ?_⟩
   cases rs with
   |nil=>cases m3
   |cons x l=>
    obtain⟨u,us2,he,h2,h3⟩:=m3
    simp at he;obtain⟨rfl,rfl⟩:=he
    cases l with
    |nil=>exact h2
    |cons y l=>obtain⟨_,_,h,_⟩:=h3;cases h
  |v::v2::l,g1,g2,g3=>
   obtain⟨arr,rfl,hv⟩:=g1
   obtain⟨ai,m1,m2,m3⟩:=res (v::v2::l) rs arr.toList kP g2 g3 hv
   refine⟨ai,m1,m2, ?_⟩
   have hl:=D.aj _ _ m3
   have B7:=V.aj _ _ hv
   match rs,hl,m3 with
   |[],hl,_=>rw[B7]at hl;simp at hl
   |[x],hl,_=>rw[B7]at hl;simp at hl
   |x::y::l,_,m3=>exact⟨arr,rfl,m3⟩
end
end Go.Proofs.YtbmnikpknlkbkaaGreat
namespace Go.Proofs.YtbmnikpknlkbkaaGreat
inductive dD where
 |skip|val (v:V) (Δ:List (Nat×aa)) (rd:List Nat)|ba (v:V) (ws rd:List Nat)|cW
 deriving Inhabited
def dD.ok:dD->Bool
 | .skip| .val .. =>true
 |_=>false
def oD(dst:Option Tmp)(x:dD)(s:S):S:=
 match x with
 | .skip=>⟨aJ s.env dst (.bJ []),s.o,s.nx⟩
 | .val v Δ _=>⟨aJ s.env dst v,put s.o Δ,s.nx⟩
 | .ba .. | .cW=>⟨aJ s.env dst .aE,s.o,s.nx⟩
def gA:dD->List Nat
 | .val _ Δ _=>Δ.map (·.1)
 |_=>[]
def oR:dD->List Nat
 | .val _ _ rd=>rd
 | .ba _ _ rd=>rd
 |_=>[]
def Fb(P:Program)(g:FuncId)(ds:List D)(v:V):Prop:=
 fJ P g/\∀ (M:Nat->Prop) (w:World) (vals:Array Value),(∀b,M b->b<w.heap.size)->D.ak M w ds vals.toList->
  Calls P g vals w fun e w'=>dh (fun _=>False) w w'/\∃val,e= .returned val/\∀φ H,V.den M φ H w' v val
theorem Fb.kb {P:Program}{g:FuncId}{ds:List D}{v:V}(hr:v.refs=[])(h:jx P g (ds.map .d) (fun _=> .no) 0 (fun v' _ _=>v'=v) (fun _ _ _=>False)):Fb P g ds v:=by
 refine⟨h.1,fun M w vals hM hd=> ?_⟩
 let bN:Place:=fun _=> .nilFunc
 have ql:∀b, ¬bp bN (hp (fun _=> .no) 0) b:=by rintro b ⟨id,hl,_⟩;simp[hp,aa.live]at hl
 refine(h.2 M bN w vals (jz bN hM) ((V.bE _ _).2 (D.aw (w:=w) (w':=w) (B:=M) (fun b _ hB=>⟨rfl,fun h=>h.elim hB (ql b)⟩) _ _ hd))).mono ?_
 rintro e w' ⟨ai,o',nx',v',k1,k2,k3⟩
 refine⟨⟨k2.bD.os,k2.bD.tape,k2.bD.output,k2.bD.size,fun k hk _=>k2.bD.block k hk (ql k)⟩, ?_⟩
 cases e with
 |outgrown=>exact k3.elim
 |panicked ch=>obtain⟨_,_,_,h⟩:=k3;exact h.elim
 |returned val=>
  obtain⟨g1,rfl⟩:=k3
  exact⟨val,rfl,fun φ H=>V.gW (B:=ad M ai (hp o' nx')) (φ:=ai) (H:=hp o' nx') (fun b hb hm=>hb (.inl hm)) v' val (fun id ag=>by rw[hr]at ag;cases ag) g1⟩
def pA(P:Program)(s:S)(fr:Nat)(op:Op)(v:V)(Δ:List (Nat×aa))(rd:List Nat):Prop:=
 ((∃pz,ei P s fr op=some (v,Δ,pz))/\rd=ft s op)\/
 (∃c f g first cap,op= .call c/\c.callee= .value f/\s.ev f= .func (.func g) first cap/\
  ((∃ds rs,bt s.o (first++c.args.toList.map s.ev++cap)=some ds/\cR P g ds (.ret rs)/\v=gQ rs/\rd=ft s op/\
    (Δ=b8 s.o (V.aP (first++c.args.toList.map s.ev++cap))\/D.gq rs=true/\Δ=[]))\/
   (∃rs,xz P g (first++c.args.toList.map s.ev++cap) rd s.o (.ret rs) Δ/\v=gQ rs/\∀id∈rd,id<s.nx)\/
   (∃ds,bt s.o (first++c.args.toList.map s.ev++cap)=some ds/\Fb P g ds v/\rd=ft s op/\Δ=b8 s.o (V.aP (first++c.args.toList.map s.ev++cap)))\/
   (tO P g (first++c.args.toList.map s.ev++cap) rd s.o fr v Δ/\∀id∈rd,id<s.nx)))
def sf(P:Program)(s:S)(op:Op)(v:V)(ws rd:List Nat):Prop:=
 ∃c f g first cap,op= .call c/\c.callee= .value f/\s.ev f= .func (.func g) first cap/\
  ((∃ds x,bt s.o (first++c.args.toList.map s.ev++cap)=some ds/\cR P g ds (.ba x)/\x.flat=true/\v= .d x/\rd=ft s op/\ws=[])\/
   (∃x Δ,xz P g (first++c.args.toList.map s.ev++cap) rd s.o (.ba x) Δ/\v= .d x/\ws=Δ.map (·.1)/\∀id∈rd,id<s.nx))
def cl(s:S)(gd:Option (Nat×Bool))(b:Bool):Prop:=
 match gd with
 |none=>b=true
 |some (d,want)=>match s.env d with
  | .d (.bool c)=>b=(c==want)
  | .bJ []=>b=false
  |_=>False
def Ba(P:Program)(s:S)(fr:Nat)(o:bz)(x:dD):Prop:=
 match x with
 | .skip=>cl s o.gd false
 | .val v Δ rd=>cl s o.gd true/\pA P s fr o.op v Δ rd
 | .ba v ws rd=>cl s o.gd true/\sf P s o.op v ws rd
 | .cW=>True
def df(oc:Nat->bz)(ac:Nat->dD)(E:Nat->Bool)(s:S):Nat->S
 |0=>s
 |k+1=>if E k then oD (oc k).dst (ac k) (df oc ac E s k)else df oc ac E s k
structure Compat (oc:Nat->bz) (ac:Nat->dD) (R:Nat->List Nat) (i j:Nat):Prop where
 di:∀d,(oc i).dst=some d->d∉dx (oc j)
 dj:∀d,(oc j).dst=some d->d∉dx (oc i)
 wi:∀id∈gA (ac i),id∉R j/\id∉gA (ac j)
 wj:∀id∈gA (ac j),id∉R i
section
variable {P:Program}{oc:Nat->bz}{ac:Nat->dD}{s:S}{n:Nat}{E:Nat->Bool}{R:Nat->List Nat}{pr:Nat->Nat->Prop}
theorem tQ{env:Nat->V}{dst:Option Tmp}{v:V}{t:Nat}(h:∀d,dst=some d->d≠t):aJ env dst v t=env t:=by
 cases dst with
 |none=>rfl
 |some d=>simp only[aJ,ax];rw[if_neg (fun e=>h d rfl e.symm)]
theorem eh{o:Nat->aa}:∀ {Δ:List (Nat×aa)} {id:Nat},id∉Δ.map (·.1)->put o Δ id=o id
 |[],_,_=>rfl
 |x::Δ,id,h=>by
  simp only[List.map_cons,List.mem_cons,not_or]at h
  have:=eh (o:=aV o x.1 x.2) (Δ:=Δ) h.2
  simp only[put,List.foldl_cons]at this|-
  rw[this];simp[h.1]
theorem qy{o o':Nat->aa}:∀ {Δ:List (Nat×aa)} {id:Nat},id∈Δ.map (·.1)\/o id=o' id->put o Δ id=put o' Δ id
 |[],_,h=>by rcases h with h|h;· simp at h
             ·exact h
 |x::Δ,id,h=>by
  simp only[put,List.foldl_cons]
  refine qy (Δ:=Δ) (o:=aV o x.1 x.2) (o':=aV o' x.1 x.2) ?_
  simp only[List.map_cons,List.mem_cons]at h
  simp only[ax]
  by_cases e:id=x.1
  ·right;simp[e]
  ·rcases h with(h|h)|h
   ·exact absurd h e
   ·exact .inl h
   ·right;simp[e,h]
theorem gB{dst:Option Tmp}{x:dD}{t:Nat}(h:∀d,dst=some d->d≠t):(oD dst x s).env t=s.env t:=by
 cases x<;>exact tQ h
theorem je{dst:Option Tmp}{x:dD}{id:Nat}(h:id∉gA x):(oD dst x s).o id=s.o id:=by
 cases x with
 |val v Δ rd=>exact eh h
 |_=>rfl
theorem qz{dst:Option Tmp}{x:dD}{s':S}{t:Nat}(h:s.env t=s'.env t):(oD dst x s).env t=(oD dst x s').env t:=by
 cases x<;>cases dst<;>simp only[oD,aJ,ax]<;>first|exact h|(split<;>first|rfl|exact h)
theorem tR{dst:Option Tmp}{x:dD}{s':S}{id:Nat}(h:s.o id=s'.o id):(oD dst x s).o id=(oD dst x s').o id:=by
 cases x with
 |val v Δ rd=>exact qy (.inr h)
 |_=>exact h
theorem put_comm{o:Nat->aa}{Δ uJ:List (Nat×aa)}(h:∀id∈Δ.map (·.1),id∉uJ.map (·.1)):put (put o Δ) uJ=put (put o uJ) Δ:=by
 funext id
 by_cases h1:id∈Δ.map (·.1)
 ·rw[eh (h id h1)]
  exact qy (.inl h1)
 ·rw[eh (Δ:=Δ) h1]
  by_cases h2:id∈uJ.map (·.1)
  ·exact qy (.inl h2)
  ·rw[eh h2,eh h2,eh h1]
theorem pB{env:Nat->V}{d d':Option Tmp}{v v':V}(h:∀t,d=some t->d'≠some t):aJ (aJ env d v) d' v'=aJ (aJ env d' v') d v:=by
 cases d with
 |none=>rfl
 |some t=>
  cases d' with
  |none=>rfl
  |some t'=>
   have e9:t'≠t:=fun e=>h t rfl (by rw[e])
   funext i
   simp only[aJ,ax]
   by_cases e1:i=t<;>by_cases e2:i=t'
   ·exact absurd (e2.symm.trans e1) e9
   all_goals simp[e1,e2]
   ·intro e;exact absurd e.symm e9
   ·intro e;exact absurd e e9
theorem xA{d d':Option Tmp}{x x':dD}(hd:∀t,d=some t->d'≠some t)(hw:∀id∈gA x,id∉gA x'):oD d x (oD d' x' s)=oD d' x' (oD d x s):=by
 cases x<;>cases x'<;>simp only[oD]<;>first
  |rw[pB hd,put_comm hw]
  |rw[pB hd]
def qA(n:Nat)(pr:Nat->Nat->Prop)(E:Nat->Bool):Prop:=∀k,k<n->E k=true->∀j,pr k j->E j=true
theorem Bb(_:∀k,k<n->∀j,pr k j->j<k)(hc:∀i j,i<j->j<n-> ¬pr j i->Compat oc ac R i j)(hE:qA n pr E){i:Nat}(hi:i<n)(iN:E i=false)(xB:∀j,pr i j->E j=true):
 (∀t∈dx (oc i),(df oc ac E s n).env t=(df oc ac (fun _=>true) s i).env t)/\(∀id∈R i,(df oc ac E s n).o id=(df oc ac (fun _=>true) s i).o id):=by
 have a:∀k,k<=i->(∀t∈dx (oc i),(df oc ac E s k).env t=(df oc ac (fun _=>true) s k).env t)/\(∀id∈R i,(df oc ac E s k).o id=(df oc ac (fun _=>true) s k).o id):=by
  intro k
  induction k with
  |zero=>intro _;exact⟨fun _ _=>rfl,fun _ _=>rfl⟩
  |succ k ih=>
   intro hk
   obtain⟨h1,h2⟩:=ih (by omega)
   simp only[df,if_true]
   by_cases eC:E k=true
   ·simp only[eC,if_true]
    exact⟨fun t ht=>qz (h1 t ht),fun id ag=>tR (h2 id ag)⟩
   ·have AZ: ¬pr i k:=fun hm=>eC (xB k hm)
    have c:=hc k i (by omega) hi AZ
    simp only[eC]
    refine⟨fun t ht=> ?_,fun id ag=> ?_⟩
    ·rw[gB fun d hd e=>c.di d hd (e ▸ ht)];exact h1 t ht
    ·rw[je fun hm=>(c.wi id hm).1 ag];exact h2 id ag
 have b:∀k,i<=k->k<=n->(∀t∈dx (oc i),(df oc ac E s k).env t=(df oc ac (fun _=>true) s i).env t)/\(∀id∈R i,(df oc ac E s k).o id=(df oc ac (fun _=>true) s i).o id):=by
  intro k zD
  induction zD with
  |refl=>intro _;exact a i (Nat.le_refl _)
  | @step k zD ih=>
    intro hk
    have zD:i<=k:=zD
    obtain⟨h1,h2⟩:=ih (by omega)
    simp only[df]
    by_cases eC:E k=true
    ·have e9:i≠k:=fun e=>by rw[e,eC]at iN;cases iN
     have AZ: ¬pr k i:=fun hm=>by have:=hE k (by omega) eC i hm;rw[iN]at this;cases this
     have c:=hc i k (by omega) (by omega) AZ
     simp only[eC,if_true]
     refine⟨fun t ht=> ?_,fun id ag=> ?_⟩
     ·rw[gB fun d hd e=>c.dj d hd (e ▸ ht)];exact h1 t ht
     ·rw[je fun hm=>c.wj id hm ag];exact h2 id ag
    ·simp only[eC];exact⟨h1,h2⟩
 exact b n (by omega) (Nat.le_refl _)
theorem insert(hc:∀i j,i<j->j<n-> ¬pr j i->Compat oc ac R i j)(hE:qA n pr E){i:Nat}(hi:i<n)(iN:E i=false){E':Nat->Bool}(tS:∀k,E' k=(E k||k==i)):
 df oc ac E' s n=oD (oc i).dst (ac i) (df oc ac E s n):=by
 have a:∀k,k<=i->df oc ac E' s k=df oc ac E s k:=by
  intro k
  induction k with
  |zero=>intro _;rfl
  |succ k ih=>
   intro hk
   have:E' k=E k:=by rw[tS k];have:(k==i)=false:=by simp;omega
                     simp[this]
   simp only[df,this,ih (by omega)]
 have b:∀k,i+1<=k->k<=n->df oc ac E' s k=oD (oc i).dst (ac i) (df oc ac E s k):=by
  intro k zD
  induction zD with
  |refl=>
   intro _
   have h1:E' i=true:=by rw[tS i];simp
   simp only[df,h1,iN,if_true,a i (Nat.le_refl _)]
   rfl
  | @step k zD ih=>
    intro hk
    have zD:i+1<=k:=zD
    have h1:E' k=E k:=by rw[tS k];have:(k==i)=false:=by simp;omega
                         simp[this]
    simp only[df,h1,ih (by omega)]
    by_cases eC:E k=true
    ·have AZ: ¬pr k i:=fun hm=>by have:=hE k (by omega) eC i hm;rw[iN]at this;cases this
     have c:=hc i k (by omega) (by omega) AZ
     simp only[eC,if_true]
     refine xA (fun t ht he=> ?_) (fun id ag hm=>(c.wi id hm).2 ag)
     exact c.di t he (by simp[dx,ht])
    ·simp only[eC];rfl
 exact b n (by omega) (Nat.le_refl _)
end
end Go.Proofs.YtbmnikpknlkbkaaGreat
namespace Go.Proofs.YtbmnikpknlkbkaaGreat
structure mV (M:Nat->Prop) (bN:Place) (H0:Hp) (w0:World) (n:Nat) (cx:Cx) (φ:Place) (s:S) (us:Nat->Prop) (a:Act) (w:World):Prop where
 heap:af M φ ⟨s.o,us⟩ w
 tr:Trans bN H0 w0 φ ⟨s.o,us⟩ w
 size:a.tmps.size=n
 defers:nI cx w0 φ ⟨s.o,us⟩ w a.defers
 env:∀i,V.den (ad M φ ⟨s.o,us⟩) φ ⟨s.o,us⟩ w (s.env i) (a.tmps.getD i undef)
section
variable {P:Program}{M:Nat->Prop}{φ bN:Place}{H0:Hp}{w w' w0:World}{n:Nat}{s:S}{us:Nat->Prop}{a:Act}{cx:Cx}{ro:Option Nat}{k:Nat}
variable {next:Act->World->Prop}{Q:Exit->Act->World->Prop}
theorem eU(hs:mV M bN H0 w0 n cx φ s us a w){ai:Place}{H':Hp}(hH:af M ai H' w')(ht:Trans φ ⟨s.o,us⟩ w ai H' w'){v:V}{val:Value}(hd:V.den (ad M ai H') ai H' w' v val){dst:Option Tmp}(bV:ew n dst)
 {o':Nat->aa} {us':Nat->Prop} (ho:H'.o=o') (hu:∀id,H'.us id->us' id):mV M bN H0 w0 n cx ai ⟨aJ s.env dst v,o',s.nx⟩ us' (a.put dst val) w':=by
 obtain⟨k1,k2⟩:=fh hH hu
 subst ho
 refine⟨k1,hs.tr.trans (ht.trans k2), ?_, ?_,fun i=> ?_⟩
 ·cases dst<;>simp[Act.put,hs.size]
 ·have:=hs.defers.mono (ht.trans k2);cases dst<;>exact this
 ·cases dst with
  |none=>exact V.ao (ht.trans k2) _ _ (hs.env i)
  |some d=>
   simp only[ew]at bV
   simp only[aJ,ax,Act.put]
   by_cases hi:i=d
   ·subst hi
    have h1:(a.tmps.setIfInBounds i val).getD i undef=val:=by simp[Array.getD,hs.size,bV]
    rw[if_pos rfl,h1]
    exact V.ao k2 _ _ hd
   ·have h1:(a.tmps.setIfInBounds d val).getD i undef=a.tmps.getD i undef:=by
     simp only[Array.getD_eq_getD_getElem?]
     rw[Array.getElem?_setIfInBounds_ne (Ne.symm hi)]
    rw[if_neg hi,h1]
    exact V.ao (ht.trans k2) _ _ (hs.env i)
theorem pC(hs:mV M bN H0 w0 n cx φ s us a w){o:Oper}{op:Op}(cw:o.op=op){c:Call}{f:Operand}{g:FuncId}{first cap:List V}(hc:op= .call c)(cQ:c.callee= .value f)(nJ:s.ev f= .func (.func g) first cap):
 ∃vals:Array Value,V.ak (ad M φ ⟨s.o,us⟩) φ ⟨s.o,us⟩ w (first++c.args.toList.map s.ev++cap) vals.toList/\(fJ P g->(execOp a.eval o).run P w= .ok (.enter g vals) w):=by
 have hf:=iQ (M:=M) (φ:=φ) (H:=⟨s.o,us⟩) (w:=w) s a hs.env f
 have cH:=fZ (M:=M) (φ:=φ) (H:=⟨s.o,us⟩) (w:=w) s a hs.env c.args.toList
 rw[nJ]at hf
 obtain⟨fa,ca,B2,tn,E3⟩:=hf
 refine⟨fa++c.args.map a.eval++ca, ?_,fun he=> ?_⟩
 ·rw[Array.toList_append,Array.toList_append,Array.toList_map]
  exact V.iz tn cH E3
 ·have:=gU (w:=w) he (fa++c.args.map a.eval++ca)
  generalize iG:fa++c.args.map a.eval++ca=vals at this
  simp[execOp,cw,hc,resolve,cQ,B2,Deferred.ofValue,invoke,this,iG]
theorem si(hs:mV M bN H0 w0 n cx φ s us a w){fr:Nat}(de: ¬us fr)(oC:∀id,id<s.nx->us id){o:Oper}{op:Op}(cw:o.op=op)(bV:ew n o.dst){v:V}{Δ:List (Nat×aa)}{rd:List Nat}(h:pA P s fr op v Δ rd)
 (hN:∀ai a' w',mV M bN H0 w0 n cx ai (oD o.dst (.val v Δ rd) s) (fun id=>us id\/id=fr) a' w'->next a' w'):o.wpIn (cL ro) k P a w next Q:=by
 rcases h with⟨⟨pz,h⟩,_⟩|⟨c,f,g,first,cap,hc,cQ,nJ,h⟩
 ·have h1:=sb (K:=fun v' uJ _=>v'=v/\uJ=Δ) h ⟨rfl,rfl⟩
  obtain⟨nx,val,w',ai,v',uJ,pz,⟨rfl,rfl⟩,hr,I5,g1,g2,g3,g4⟩:=pj hs.heap (s:=s) rfl hs.env de cw h1
  have qf:=eU hs g1 g2 g3 bV (o':=put s.o uJ) (us':=fun id=>us id\/id=fr) rfl (fun id hu=>hu.elim .inl (g4 id))
  refine gr (fun c hc=>by rw[cw]at hc;subst hc;exact h1) ?_
  rw[hr]
  rcases I5 with rfl|⟨rfl,rfl⟩
  ·exact hN _ _ _ qf
  ·exact hN _ _ _ qf
 ·refine gr (fun c' rU=>by rw[cw,hc]at rU;cases rU) ?_
  obtain⟨vals,aC,dB⟩:=pC (P:=P) hs cw hc cQ nJ
  generalize first++c.args.toList.map s.ev++cap=all at h aC
  rcases h with⟨ds,rs,dp,hP,rfl,_,B8⟩|⟨rs,hH,rfl,jw⟩|⟨ds,dp,hP,_,rfl⟩|⟨hH,jw⟩
  ·obtain⟨f1,f2,f3,f4,f5⟩:=cj hs.heap (V.aP all) (bG all _ aC)
   have iq:(⟨s.o,us⟩:Hp).put (b8 s.o (V.aP all))=⟨put s.o (b8 s.o (V.aP all)),us⟩:=gS (H:=⟨s.o,us⟩) (by rw[jy];exact bG all _ aC)
   have o4:=cp f1 all ds _ f3 dp (V.aw f2 _ _ aC)
   have du:=hP.2 _ w vals (fun b hb=>hb.elim (f1.oE b) fun hl=>(f1.ours b hl).2) o4
   rw[dB hP.1]
   refine⟨fun hd=>by simp[cL]at hd,cf (du.mono fun e w' ⟨hk,ho⟩=> ?_)⟩
   cases e with
   |panicked ch=>cases rs with|nil=>exact ho.elim|cons x l=>cases l<;>exact ho.elim
   |outgrown=>cases rs with|nil=>exact ho.elim|cons x l=>cases l<;>exact ho.elim
   |returned val=>
    rcases B8 with rfl|⟨ku,rfl⟩
    ·obtain⟨k1,k2⟩:=ed f1 hk
     refine hN _ _ _ (eU hs k1 (f2.trans k2) (gV ho) bV (by rw[iq]) fun id hu=> ?_)
     rw[iq]at hu;exact .inl hu
    ·obtain⟨k1,k2⟩:=ed hs.heap hk
     have ho:=R.qg (out:= .ret rs) (B':=ad M φ ⟨s.o,us⟩) ku ho
     exact hN _ _ _ (eU hs k1 k2 (gV ho) bV rfl fun id hu=> .inl hu)
  ·have du:=hH.2 s.o us M φ w vals (fun id ag=>⟨rfl,oC id (jw id ag)⟩) hs.heap aC
   rw[dB hH.1]
   refine⟨fun hd=>by simp[cL]at hd,cf (du.mono fun e w' ⟨ai,k1,k2,ho⟩=> ?_)⟩
   cases e with
   |panicked ch=>cases rs with|nil=>exact ho.elim|cons x l=>cases l<;>exact ho.elim
   |outgrown=>cases rs with|nil=>exact ho.elim|cons x l=>cases l<;>exact ho.elim
   |returned val=>exact hN _ _ _ (eU hs k1 k2 (gV ho) bV rfl fun id hu=> .inl hu)
  ·obtain⟨f1,f2,f3,f4,f5⟩:=cj hs.heap (V.aP all) (bG all _ aC)
   have iq:(⟨s.o,us⟩:Hp).put (b8 s.o (V.aP all))=⟨put s.o (b8 s.o (V.aP all)),us⟩:=gS (H:=⟨s.o,us⟩) (by rw[jy];exact bG all _ aC)
   have o4:=cp f1 all ds _ f3 dp (V.aw f2 _ _ aC)
   have du:=hP.2 _ w vals (fun b hb=>hb.elim (f1.oE b) fun hl=>(f1.ours b hl).2) o4
   rw[dB hP.1]
   refine⟨fun hd=>by simp[cL]at hd,cf (du.mono fun e w' ⟨hk,val,he,ho⟩=> ?_)⟩
   subst he
   obtain⟨k1,k2⟩:=ed f1 hk
   refine hN _ _ _ (eU hs k1 (f2.trans k2) (ho _ _) bV (by rw[iq]) fun id hu=> ?_)
   rw[iq]at hu;exact .inl hu
  ·have du:=hH.2 s.o us M φ w vals (fun id ag=>⟨rfl,oC id (jw id ag)⟩) de hs.heap aC
   rw[dB hH.1]
   refine⟨fun hd=>by simp[cL]at hd,cf (du.mono fun e w' ⟨ai,k1,k2,val,he,ho⟩=> ?_)⟩
   subst he
   exact hN _ _ _ (eU hs k1 k2 ho bV rfl fun id hu=>hu)
theorem v3{o o2:Nat->aa}{us us2:Nat->Prop}(hH:af M φ ⟨o,us⟩ w)(ho:∀id,o2 id=o id\/o2 id= .no)(hu:∀id,us id->us2 id):af M φ ⟨o2,us2⟩ w/\Trans φ ⟨o,us⟩ w φ ⟨o2,us2⟩ w:=by
 have hl:∀id,(o2 id).live=true->(o id).live=true:=fun id h=>by
  rcases ho id with e|e
  ·rw[<- e];exact h
  ·rw[e]at h;cases h
 have yW:∀b,bp φ ⟨o2,us2⟩ b->bp φ ⟨o,us⟩ b:=fun b ⟨id,h1,h2⟩=>⟨id,hl id h1,h2⟩
 have ht:Trans φ ⟨o,us⟩ w φ ⟨o2,us2⟩ w:=by
  refine⟨dh.refl _ _,fun b hb=> .inl (yW b hb),⟨hu,fun id _ hr=> ?_,fun id e' _ he=> ?_⟩⟩
  ·rcases ho id with e|e
   ·exact⟨by show(o id).bc=true;rw[<- e];exact hr,rfl⟩
   ·rw[show(⟨o2,us2⟩:Hp).o id= .no from e]at hr;cases hr
  ·rcases ho id with e|e
   ·exact⟨e',by show(o id).aL=some e';rw[<- e];exact he,Nat.le_refl _,fun _=>rfl⟩
   ·rw[show(⟨o2,us2⟩:Hp).o id= .no from e]at he;cases he
 refine⟨⟨fun id=> ?_,fun id hn=> ?_,fun i j b hi hj=>hH.apart i j b (hl i hi) (hl j hj),fun b hb=>hH.ours b (yW b hb),hH.oE⟩,ht⟩
 ·rcases ho id with e|e
  ·exact(hH.ok id).mono ht e rfl fun _ _ _=>rfl
  ·unfold aq;rw[show(⟨o2,us2⟩:Hp).o id= .no from e];trivial
 ·rcases ho id with e|e
  ·exact e.trans (hH.fresh id fun h=>hn (hu id h))
  ·exact e
def nU(ds:List Nat)(wl:List Nat)(N:Nat)(s:S):S:=
 ⟨fun t=>if ds.contains t=true then .aE else s.env t,fun id=>if wl.contains id=true then .no else s.o id,s.nx+N⟩
theorem xC(hs:mV M bN H0 w0 n cx φ s us a w)(oC:∀id,id<s.nx->us id){N:Nat}(cJ:∀id,us id->id<s.nx+N){o:Oper}{op:Op}(cw:o.op=op){v:V}{ws rd:List Nat}(h:sf P s op v ws rd)
 {s0:S} {ds wl:List Nat} (dp:∀t,ds.contains t=false->s.env t=s0.env t) (I6:∀id,wl.contains id=false->s.o id=s0.o id) (zE:∀id∈ws,wl.contains id=true) (zC:s0.nx=s.nx)
 (hQ:∀ai w' val,bw M bN H0 w0 n cx ai (nU ds wl N s0) a w'->V.den (ad M ai (nU ds wl N s0).H) ai (nU ds wl N s0).H w' v val->Q (.panic [{v:=val,recovered:=false}]) a w'):o.wpIn (cL ro) k P a w next Q:=by
 obtain⟨c,f,g,first,cap,hc,cQ,nJ,h⟩:=h
 refine gr (fun c' rU=>by rw[cw,hc]at rU;cases rU) ?_
 obtain⟨vals,aC,dB⟩:=pC (P:=P) hs cw hc cQ nJ
 generalize first++c.args.toList.map s.ev++cap=all at h aC
 have fin:∀ (ai:Place) (w':World) (o':Nat->aa) (val:Value),(∀id,wl.contains id=false->o' id=s.o id)->af M ai ⟨o',us⟩ w'->Trans φ ⟨s.o,us⟩ w ai ⟨o',us⟩ w'->V.den (ad M ai ⟨o',us⟩) ai ⟨o',us⟩ w' v val->Q (.panic [{v:=val,recovered:=false}]) a w':=by
  intro ai w' o' val px k1 k2 k3
  obtain⟨m1,m2⟩:=v3 (o2:=(nU ds wl N s0).o) (us2:=fun id=>id<s0.nx+N) k1 (fun id=>by
   show(if wl.contains id=true then aa.no else s0.o id)=o' id\/_
   by_cases hw:wl.contains id=true
   ·right;simp only[nU];rw[if_pos hw]
   ·left;rw[if_neg hw,px id (by simpa using hw),I6 id (by simpa using hw)]) (fun id h=>by rw[zC];exact cJ id h)
  have ht:=hs.tr.trans (k2.trans m2)
  refine hQ ai w' val ⟨m1,ht,hs.size,hs.defers.mono (k2.trans m2),fun i=> ?_⟩ (V.ao m2 _ _ k3)
  show V.den _ _ _ _ (if ds.contains i=true then V.aE else s0.env i) _
  by_cases hd:ds.contains i=true
  ·rw[if_pos hd];trivial
  ·rw[if_neg hd, <- dp i (by simpa using hd)];exact V.ao (k2.trans m2) _ _ (hs.env i)
 rcases h with⟨dd,x,I7,hP,ku,rfl,_,rfl⟩|⟨x,Δ,hH,rfl,rfl,jw⟩
 ·obtain⟨f1,f2,f3,f4,f5⟩:=cj hs.heap (V.aP all) (bG all _ aC)
  have o4:=cp f1 all dd _ f3 I7 (V.aw f2 _ _ aC)
  have du:=hP.2 _ w vals (fun b hb=>hb.elim (f1.oE b) fun hl=>(f1.ours b hl).2) o4
  rw[dB hP.1]
  refine⟨fun hd=>by simp[cL]at hd,cf (du.mono fun e w' ⟨hk,ho⟩=> ?_)⟩
  cases e with
  |returned val=>exact ho.elim
  |outgrown=>exact ho.elim
  |panicked ch=>
   obtain⟨k1,k2⟩:=ed hs.heap hk
   have ho:=R.qg (out:= .ba x) (B':=ad M φ ⟨s.o,us⟩) ku ho
   obtain⟨val,rfl,hd⟩:=ho
   exact fin φ w' s.o val (fun _ _=>rfl) k1 k2 hd
 ·have du:=hH.2 s.o us M φ w vals (fun id ag=>⟨rfl,oC id (jw id ag)⟩) hs.heap aC
  rw[dB hH.1]
  refine⟨fun hd=>by simp[cL]at hd,cf (du.mono fun e w' ⟨ai,k1,k2,ho⟩=> ?_)⟩
  cases e with
  |returned val=>exact ho.elim
  |outgrown=>exact ho.elim
  |panicked ch=>
   obtain⟨val,rfl,hd⟩:=ho
   exact fin ai w' _ val (fun id ag=>qw fun y hy e=>by
    have:=zE y.1 (List.mem_map_of_mem hy)
    rw[e,ag]at this;cases this) k1 k2 hd
theorem dI(cA:∀i,V.den (ad M φ ⟨s.o,us⟩) φ ⟨s.o,us⟩ w (s.env i) (a.tmps.getD i undef)){ops:Array Oper}{o:Oper}{gd:Option (Nat×Bool)}{b:Bool}
 (hg:match o.guard with|none=>gd=none|some (j,want)=>∃d,me ops j=some d/\gd=some (d,want)) (h:cl s gd b):Region.wanted o (yielded ops a.tmps)=b:=by
 unfold Region.wanted
 split at hg
 ·rename_i hn;simp only[hn];subst hg;exact h.symm
 ·rename_i j want hn
  simp only[hn]
  obtain⟨d,hd,rfl⟩:=hg
  unfold me at hd
  unfold yielded
  simp only[hd,Option.bind_some]
  simp only[cl]at h
  have he:=cA d
  split at h
  ·rename_i c hv
   rw[hv]at he
   simp only[V.den,D.den]at he
   have:a.tmps[d]? =some (.bool c):=by
    rw[Array.getD_eq_getD_getElem?]at he
    cases hx:a.tmps[d]? with
    |none=>rw[hx]at he;simp[undef]at he
    |some x=>rw[hx]at he;simp at he;rw[he]
   simp only[this,h]
   cases c<;>cases want<;>rfl
  ·rename_i hv
   rw[hv]at he
   obtain⟨arr,bL,hn⟩:=he
   have:∀c,a.tmps[d]? ≠some (.bool c):=by
    intro c hx
    rw[Array.getD_eq_getD_getElem?,hx]at bL
    simp at bL
   subst h
   cases hx:a.tmps[d]? with
   |none=>rfl
   |some x=>cases x<;>first|(exact absurd hx (this _))|rfl
  ·exact h.elim
theorem dJ{s s':S}{gd:Option (Nat×Bool)}{b:Bool}(h:∀d want,gd=some (d,want)->s'.env d=s.env d)(hg:cl s gd b):cl s' gd b:=by
 unfold cl at*
 cases gd with
 |none=>exact hg
 |some p=>obtain⟨d,want⟩:=p;simp only at hg|-;rw[h d want rfl];exact hg
theorem sj{s s':S}{x:Operand}(h:∀t,x= .tmp t->s'.env t=s.env t):s'.ev x=s.ev x:=by
 cases x<;>simp only[S.ev]
 exact h _ rfl
theorem nV{s s':S}{op:Op}{c:Call}{f:Operand}{g:FuncId}{first cap:List V}(hv:∀x∈op.operands,s'.ev x=s.ev x)(hc:op= .call c)(cQ:c.callee= .value f)(nJ:s.ev f= .func (.func g) first cap):
 s'.ev f= .func (.func g) first cap/\c.args.toList.map s'.ev=c.args.toList.map s.ev:=by
 subst hc
 exact⟨(hv f (by simp only[Op.operands,Call.operands,cQ];exact Array.mem_append.2 (.inl (by simp)))).trans nJ,
  List.map_congr_left fun x hx=>hv x (by simp only[Op.operands,Call.operands];exact Array.mem_append.2 (.inr (Array.mem_toList_iff.1 hx)))⟩
theorem xz.frame {g:FuncId}{args:List V}{rd:List Nat}{o o':Nat->aa}{out:R}{Δ:List (Nat×aa)}(ho:∀id∈rd,o' id=o id)(h:xz P g args rd o out Δ):xz P g args rd o' out Δ:=
 ⟨h.1,fun o2 us M φ w vals h1 h2 h3=>h.2 o2 us M φ w vals (fun id ag=>⟨(h1 id ag).1.trans (ho id ag),(h1 id ag).2⟩) h2 h3⟩
theorem tO.frame {g:FuncId}{args:List V}{rd:List Nat}{o o':Nat->aa}{fr:Nat}{v:V}{Δ:List (Nat×aa)}(ho:∀id∈rd,o' id=o id)(h:tO P g args rd o fr v Δ):tO P g args rd o' fr v Δ:=
 ⟨h.1,fun o2 us M φ w vals h1 h2 h3=>h.2 o2 us M φ w vals (fun id ag=>⟨(h1 id ag).1.trans (ho id ag),(h1 id ag).2⟩) h2 h3⟩
theorem mA{s s':S}{fr:Nat}{op:Op}{v:V}{Δ:List (Nat×aa)}{rd:List Nat}(hv:∀x∈op.operands,s'.ev x=s.ev x)(ho:∀id∈rd,s'.o id=s.o id)(oC:s'.nx=s.nx)(h:pA P s fr op v Δ rd):∃pz,pA P s' fr op v Δ pz:=by
 rcases h with⟨⟨pz,h⟩,jw⟩|⟨c,f,g,first,cap,rfl,cQ,nJ,h⟩
 ·exact⟨_, .inl ⟨⟨pz,by rw[tN op hv (by rw[<- jw];exact ho)];exact h⟩,rfl⟩⟩
 ·obtain⟨hf,hm⟩:=nV hv rfl cQ nJ
  rcases h with⟨ds,rs,dp,hP,mM,jw,B8⟩|⟨rs,hH,mM,jw⟩|⟨ds,dp,hP,jw,B8⟩|⟨hH,jw⟩
  ·have hr:∀id∈V.az (first++c.args.toList.map s.ev++cap),s'.o id=s.o id:=fun id ag=>ho id (by rw[jw];simp only[ft,cQ,nJ];exact ag)
   refine⟨_, .inr ⟨c,f,g,first,cap,rfl,cQ,hf, .inl ⟨ds,rs,by rw[hm,eM _ hr];exact dp,hP,mM,rfl, ?_⟩⟩⟩
   rw[hm,eg (o:=s.o) fun id ag=>hr id (fL _ id ag)]
   exact B8
  ·exact⟨rd, .inr ⟨c,f,g,first,cap,rfl,cQ,hf, .inr (.inl ⟨rs,by rw[hm];exact hH.frame ho,mM,by rw[oC];exact jw⟩)⟩⟩
  ·have hr:∀id∈V.az (first++c.args.toList.map s.ev++cap),s'.o id=s.o id:=fun id ag=>ho id (by rw[jw];simp only[ft,cQ,nJ];exact ag)
   refine⟨_, .inr ⟨c,f,g,first,cap,rfl,cQ,hf, .inr (.inr (.inl ⟨ds,by rw[hm,eM _ hr];exact dp,hP,rfl, ?_⟩))⟩⟩
   rw[hm,eg (o:=s.o) fun id ag=>hr id (fL _ id ag)]
   exact B8
  ·exact⟨rd, .inr ⟨c,f,g,first,cap,rfl,cQ,hf, .inr (.inr (.inr ⟨by rw[hm];exact hH.frame ho,by rw[oC];exact jw⟩))⟩⟩
theorem sm{s s':S}{op:Op}{v:V}{ws rd:List Nat}(hv:∀x∈op.operands,s'.ev x=s.ev x)(ho:∀id∈rd,s'.o id=s.o id)(oC:s'.nx=s.nx)(h:sf P s op v ws rd):sf P s' op v ws rd:=by
 obtain⟨c,f,g,first,cap,rfl,cQ,nJ,h⟩:=h
 obtain⟨hf,hm⟩:=nV hv rfl cQ nJ
 refine⟨c,f,g,first,cap,rfl,cQ,hf, ?_⟩
 rw[hm]
 rcases h with⟨ds,x,dp,hP,ku,mM,jw,zE⟩|⟨x,Δ,hH,mM,zE,jw⟩
 ·have hr:∀id∈V.az (first++c.args.toList.map s.ev++cap),s'.o id=s.o id:=fun id ag=>ho id (by rw[jw];simp only[ft,cQ,nJ];exact ag)
  exact .inl ⟨ds,x,by rw[eM _ hr];exact dp,hP,ku,mM,by rw[jw];simp only[ft,cQ,nJ,hf,hm],zE⟩
 ·exact .inr ⟨x,Δ,hH.frame ho,mM,zE,by rw[oC];exact jw⟩
theorem nW{ops:Array Oper}:∀ (l:List Oper) (l':List bz) (i:Nat) (o:Oper),gJ n ops l=some l'->l[i]? =some o->wH n ops o=some (bn l' i)
 |[],_,_,_,_,h=>by simp at h
 |x::l,l',i,o,h,hi=>by
  simp only[gJ]at h
  split at h
  ·rename_i y ys hy OC
   injection h with h;subst h
   cases i with
   |zero=>simp at hi;subst hi;exact hy
   |succ i=>exact nW l ys i o OC (by simpa using hi)
  ·cases h
theorem pD{ops:Array Oper}{o:Oper}{x:bz}(h:wH n ops o=some x):x.op=o.op/\x.dst=o.dst/\ew n o.dst/\
 (match o.guard with|none=>x.gd=none|some (j,want)=>∃d,me ops j=some d/\x.gd=some (d,want)):=by
 unfold wH at h
 split at h
 ·rename_i hd
  have bV:ew n o.dst:=by
   unfold tf at hd;unfold ew
   split at hd<;>simp_all
  cases hg:o.guard with
  |none=>simp only[hg]at h;injection h with h;subst h;exact⟨rfl,rfl,bV,rfl⟩
  |some p=>
   obtain⟨j,want⟩:=p
   simp only[hg]at h
   cases A8:me ops j with
   |none=>simp[A8]at h
   |some d=>simp only[A8]at h;injection h with h;subst h;exact⟨rfl,rfl,bV,d,A8,rfl⟩
 ·cases h
theorem kg{ops:Array Oper}{ae:Array Bool}(m7:∀k,k<ops.size->∀j∈aT ops k,j<k)(hs:ae.size=ops.size)(hr:Region.ready .any ops ae=[]):∀k,k<ops.size->ae.getD k false=true:=by
 intro k
 induction k using Nat.strongRecOn with
 |_ k ih=>
  intro hk
  cases hl:ae.getD k false with
  |true=>rfl
  |false=>
   have:k∈Region.ready .any ops ae:=by
    refine mem_ready.2 ⟨?_,ops[k],by simp[hk],fun e he hb=> ?_⟩
    ·simp only[Array.getD_eq_getD_getElem?]at hl|-
     rw[Array.getElem?_eq_getElem (by omega)]at hl|-
     simpa using hl
    ·have hm:e.on∈aT ops k:=by
      simp only[aT,Array.getElem?_eq_getElem hk,List.mem_map,List.mem_filter]
      exact⟨e,⟨Array.mem_toList_iff.2 he,hb⟩,rfl⟩
     exact ih _ (m7 k hk _ hm) (by have:=m7 k hk _ hm;omega)
   rw[hr]at this;cases this
theorem sn(hs:bw M bN H0 w0 n cx φ s a w):bw M bN H0 w0 n cx φ s a {w with drawn:=w.drawn+1}:=by
 obtain⟨k1,k2⟩:=ed (w':={w with drawn:=w.drawn+1}) hs.heap ⟨rfl,rfl,rfl,Nat.le_refl _,fun _ _ _=>rfl⟩
 exact⟨k1,hs.tr.trans k2,hs.size,hs.defers.mono k2,fun i=>V.ao k2 _ _ (hs.env i)⟩
theorem fM{oc:Nat->bz}{ac:Nat->dD}{E:Nat->Bool}:∀k,(df oc ac E s k).nx=s.nx
 |0=>rfl
 |k+1=>by
  simp only[df]
  split
  ·cases ac k<;>exact fM k
  ·exact fM k
theorem uK{oc:Nat->bz}{ac:Nat->dD}{E:Nat->Bool}{t:Nat}:∀k,(∀j,j<k->(oc j).dst≠some t)->(df oc ac E s k).env t=s.env t
 |0,_=>rfl
 |k+1,h=>by
  have ih:=uK (oc:=oc) (ac:=ac) (E:=E) (t:=t) k fun j hj=>h j (by omega)
  simp only[df]
  split
  ·rw[gB fun d hd e=>h k (by omega) (by rw[hd,e])];exact ih
  ·exact ih
theorem Bc{oc:Nat->bz}{ac:Nat->dD}{E:Nat->Bool}{id:Nat}:∀k,(∀j,j<k->id∉gA (ac j))->(df oc ac E s k).o id=s.o id
 |0,_=>rfl
 |k+1,h=>by
  have ih:=Bc (oc:=oc) (ac:=ac) (E:=E) (id:=id) k fun j hj=>h j (by omega)
  simp only[df]
  split
  ·rw[je (h k (by omega))];exact ih
  ·exact ih
theorem sq(aO:P.follows .mixedOrders=true){ops:Array Oper}{l:List bz}{id:Nat}(jH:gJ n ops ops.toList=some l)(m7:∀k,k<ops.size->∀j∈aT ops k,j<k){ac:Nat->dD}{dl wl:List Nat}
 (hs:bw M bN H0 w0 n cx φ s a w) (B9:∀i,i<ops.size->Ba P (df (bn l) ac (fun _=>true) s i) (s.nx+i) (bn l i) (ac i))
 (Ca:∀i,i<ops.size->ac i= .cW->∃j∈aT ops i,(ac j).ok=false)
 {po:Nat->Nat->Prop} (uL:∀E:Nat->Bool,(∀k,k<ops.size->E k=true->∀j∈aT ops k,E j=true)->∀k,k<ops.size->(∀j∈aT ops k,E j=true)->∀j,po k j->E j=true) (sr:∀k,k<ops.size->∀j,po k j->j<k)
 (hc:∀i j,i<j->j<ops.size-> ¬po j i->Compat (bn l) ac (fun i=>oR (ac i)) i j)
 (Ig:∀i,i<ops.size->∀t,(bn l i).dst=some t->dl.contains t=true) (I6:∀i,i<ops.size->∀id∈gA (ac i),wl.contains id=true)
 (zE:∀i v ws rd,i<ops.size->ac i= .ba v ws rd->∀id∈ws,wl.contains id=true)
 (hQ:(∀i,i<ops.size->(ac i).ok=true)->∀φ a w,bw M bN H0 w0 n cx φ ⟨(df (bn l) ac (fun _=>true) s ops.size).env,(df (bn l) ac (fun _=>true) s ops.size).o,s.nx+ops.size⟩ a w->Q .normal a w)
 (hX:∀i v ws rd,i<ops.size->ac i= .ba v ws rd->∀φ a w val,bw M bN H0 w0 n cx φ (nU dl wl ops.size s) a w->V.den (ad M φ (nU dl wl ops.size s).H) φ (nU dl wl ops.size s).H w v val->Q (.panic [{v:=val,recovered:=false}]) a w):
 (Code.region id ops true).wpIn (cL ro) k P Q a w:=by
 refine wpIn_region_any aO ?_
 have hs:=sn hs
 generalize ({w with drawn:=w.drawn+1}:World)=w at hs
 let N:=ops.size
 let Ef (ae:Array Bool) (k:Nat):Bool:=ae.getD k false
 let tT (ae:Array Bool) (j:Nat):Prop:=j<s.nx\/∃k,k<N/\Ef ae k=true/\j=s.nx+k
 have key:∀ (fuel:Nat) (ae:Array Bool) (φ:Place) (a:Act) (w:World),ae.size=N->ae.count true+fuel=N->(∀k,k<N->Ef ae k=true->∀j∈aT ops k,Ef ae j=true)->(∀k,k<N->Ef ae k=true->(ac k).ok=true)->
  mV M bN H0 w0 n cx φ (df (bn l) ac (Ef ae) s N) (tT ae) a w->wpAnyIn (cL ro) k P .any ops Q fuel ae a w:=by
  have fin:∀ (ae:Array Bool) (φ:Place) (a:Act) (w:World),(∀k,k<N->Ef ae k=true)->(∀k,k<N->Ef ae k=true->(ac k).ok=true)->mV M bN H0 w0 n cx φ (df (bn l) ac (Ef ae) s N) (tT ae) a w->Q .normal a w:=by
   intro ae φ a w aC tU hu
   have e:∀k,k<=N->df (bn l) ac (Ef ae) s k=df (bn l) ac (fun _=>true) s k:=by
    intro k
    induction k with
    |zero=>intro _;rfl
    |succ k ih=>intro hk;simp only[df,aC k (by omega),ih (by omega)]
   rw[e N (Nat.le_refl _)]at hu
   obtain⟨k1,k2⟩:=fh (us':=fun id=>id<s.nx+N) hu.heap (fun id h=>by
    show id<s.nx+N
    rcases h with h|⟨k,hk,_,rfl⟩<;>omega)
   exact hQ (fun i hi=>tU i hi (aC i hi)) φ a w ⟨k1,hu.tr.trans k2,hu.size,hu.defers.mono k2,fun i=>V.ao k2 _ _ (hu.env i)⟩
  intro fuel
  induction fuel with
  |zero=>
   intro ae φ a w cK v5 mO tU hu
   have aC:∀k,k<N->Ef ae k=true:=by
    intro k hk
    have h1:ae.count true=ae.size:=by omega
    rw[Array.count_eq_size]at h1
    have:=h1 ae[k] (Array.getElem_mem (by omega))
    simp only[Ef,Array.getD_eq_getD_getElem?]
    rw[Array.getElem?_eq_getElem (by omega)]
    simpa using this.symm
   refine⟨?_,fin ae φ a w aC tU hu⟩
   rw[List.eq_nil_iff_forall_not_mem]
   intro k hk
   obtain⟨h1,o,h2,_⟩:=mem_ready.1 hk
   have OD:k<N:=(Array.getElem?_eq_some_iff.1 h2).1
   have:=aC k OD
   simp only[Ef,Array.getD_eq_getD_getElem?]at this h1
   rw[Array.getElem?_eq_getElem (by omega)]at this h1
   simp only[Option.getD_some]at this h1
   rw[this]at h1;cases h1
  |succ fuel ih=>
   intro ae φ a w cK v5 mO tU hu
   refine⟨fun hr=>fin ae φ a w (kg m7 cK hr) tU hu,fun i hi=> ?_⟩
   obtain⟨h1,o,h2,h3⟩:=mem_ready.1 hi
   have mW:i<N:=(Array.getElem?_eq_some_iff.1 h2).1
   have iN:Ef ae i=false:=by
    simp only[Ef,Array.getD_eq_getD_getElem?]at h1|-
    rw[Array.getElem?_eq_getElem (by omega)]at h1|-
    simpa using h1
   have xB:∀j∈aT ops i,Ef ae j=true:=by
    intro j hj
    simp only[aT,h2,List.mem_map,List.mem_filter]at hj
    obtain⟨e,⟨he,hb⟩,rfl⟩:=hj
    exact h3 e (Array.mem_toList_iff.1 he) hb
   have xD:qA N po (Ef ae):=fun k hk eC=>uL _ mO k hk (mO k hk eC)
   obtain⟨Fc,HG⟩:=Bb (s:=s) sr hc xD mW iN (uL _ mO i mW xB)
   obtain⟨g1,g2,g3,g4⟩:=pD (nW _ _ i o jH (by simpa using h2))
   have de: ¬tT ae (s.nx+i):=by
    rintro(h|⟨k,_,hk,he⟩)
    ·omega
    ·have:k=i:=by omega
     subst this;rw[iN]at hk;cases hk
   have tS:∀k,Ef (ae.setIfInBounds i true) k=(Ef ae k||k==i):=by
    intro k
    simp only[Ef,Array.getD_eq_getD_getElem?]
    by_cases e:k=i
    ·subst e;simp[cK,mW]
    ·rw[Array.getElem?_setIfInBounds_ne (Ne.symm e)]
     have:(k==i)=false:=by simpa using e
     simp[this]
   have Cb:=insert (s:=s) hc xD mW iN tS
   have Cc:∀k,k<N->Ef (ae.setIfInBounds i true) k=true->∀j∈aT ops k,Ef (ae.setIfInBounds i true) j=true:=by
    intro k hk eC j hj
    rw[tS]at eC|-
    by_cases e:k=i
    ·subst e;simp[xB j hj]
    ·have:(k==i)=false:=by simpa using e
     rw[this,Bool.or_false]at eC
     simp[mO k hk eC j hj]
   have xE:(ae.setIfInBounds i true).count true+fuel=N:=by
    have br:i<ae.size:=by omega
    have e1:ae.setIfInBounds i true=ae.set i true br:=by simp[Array.setIfInBounds,br]
    have e2:ae[i]=false:=by
     have:=iN
     simp only[Ef,Array.getD_eq_getD_getElem?]at this
     rw[Array.getElem?_eq_getElem br]at this
     simpa using this
    rw[e1,Array.count_set br,e2]
    simp
    omega
   have iH:(ac i).ok=true->∀ai a' w',mV M bN H0 w0 n cx ai (oD o.dst (ac i) (df (bn l) ac (Ef ae) s N)) (fun id=>tT ae id\/id=s.nx+i) a' w'->wpAnyIn (cL ro) k P .any ops Q fuel (ae.setIfInBounds i true) a' w':=by
    intro Fe ai a' w' oM
    refine ih _ ai a' w' (by simp[cK]) xE Cc (fun k hk eC=> ?_) ?_
    ·rw[tS]at eC
     by_cases e:k=i
     ·subst e;exact Fe
     ·have:(k==i)=false:=by simpa using e
      rw[this,Bool.or_false]at eC
      exact tU k hk eC
    rw[Cb,g2]
    obtain⟨k1,k2⟩:=fh (us':=tT (ae.setIfInBounds i true)) oM.heap (fun id h=>by
     rcases h with(h|⟨k,hk,eC,rfl⟩)|rfl
     ·exact .inl h
     ·exact .inr ⟨k,hk,by rw[tS,eC];rfl,rfl⟩
     ·exact .inr ⟨i,mW,by rw[tS];simp,rfl⟩)
    exact⟨k1,oM.tr.trans k2,oM.size,oM.defers.mono k2,fun j=>V.ao k2 _ _ (oM.env j)⟩
   have v7:∀d want,(bn l i).gd=some (d,want)->(df (bn l) ac (Ef ae) s N).env d=(df (bn l) ac (fun _=>true) s i).env d:=fun d want hd=>Fc d (by simp[dx,tmpsOf,hd])
   have a8:=B9 i mW
   have v8:∀x∈(bn l i).op.operands,(df (bn l) ac (Ef ae) s N).ev x=(df (bn l) ac (fun _=>true) s i).ev x:=fun x hx=>sj fun t ht=>Fc t (by
    subst ht
    simp only[dx,tmpsOf,List.mem_append,List.mem_filterMap]
    exact .inl (.inl ⟨.tmp t,Array.mem_toList_iff.2 hx,rfl⟩))
   have zF:(df (bn l) ac (Ef ae) s N).nx=(df (bn l) ac (fun _=>true) s i).nx:=(fM N).trans (fM i).symm
   unfold wpOpIn
   simp only[h2]
   cases mX:ac i with
   |skip=>
    rw[mX]at a8 iH
    have hw:=dI hu.env g4 (dJ v7 a8)
    simp only[hw,Bool.false_eq_true,if_false]
    refine⟨fun _ _=>trivial,iH rfl φ _ w ?_⟩
    have:=eU (v:= .bJ []) (val:=undef) hu hu.heap (Trans.refl _ _ _) ⟨#[],rfl,rfl⟩ (dst:=o.dst) g3 rfl (us':=fun id=>tT ae id\/id=s.nx+i) (fun id h=> .inl h)
    exact this
   |val v Δ rd=>
    rw[mX]at a8 iH
    have hw:=dI hu.env g4 (dJ v7 a8.1)
    simp only[hw,if_true]
    obtain⟨pz,jO⟩:=mA v8 (fun id ag=>HG id (by rw[mX];exact ag)) zF a8.2
    exact si hu de (fun id h=> .inl (by rw[fM]at h;exact h)) g1.symm g3 jO (iH rfl)
   |ba v ws rd=>
    rw[mX]at a8
    have hw:=dI hu.env g4 (dJ v7 a8.1)
    simp only[hw,if_true]
    have jO:=sm v8 (fun id ag=>HG id (by rw[mX];exact ag)) zF a8.2
    refine xC (s0:=s) (ds:=dl) (wl:=wl) (N:=N) hu (fun id h=> .inl (by rw[fM]at h;exact h)) (fun id h=> ?_) g1.symm jO (fun t ht=> ?_) (fun id ag=> ?_) (zE i v ws rd mW mX) (fM N).symm (fun ai w' val h1 h2=>hX i v ws rd mW mX ai a w' val h1 h2)
    ·rw[fM]
     rcases h with h|⟨k,hk,_,rfl⟩<;>omega
    ·refine uK N fun j hj e=> ?_
     have:=Ig j hj t e
     rw[ht]at this;cases this
    ·refine Bc N fun j hj hm=> ?_
     have:=I6 j hj id hm
     rw[ag]at this;cases this
   |cW=>
    exfalso
    obtain⟨j,hj,Cd⟩:=Ca i mW mX
    have:=tU j (Nat.lt_trans (m7 i mW j hj) mW) (xB j hj)
    rw[Cd]at this;cases this
 refine key ops.size _ φ a w (by simp[N]) (by simp[N,Array.count_replicate]) (fun k hk eC=> ?_) (fun k hk eC=> ?_) ?_
 ·simp[Ef,Array.getD_eq_getD_getElem?,Array.getElem?_replicate]at eC
  split at eC<;>simp at eC
 ·simp[Ef,Array.getD_eq_getD_getElem?,Array.getElem?_replicate]at eC
  split at eC<;>simp at eC
 ·have e:∀k,df (bn l) ac (Ef (Array.replicate ops.size false)) s k=s:=by
   intro k
   induction k with
   |zero=>rfl
   |succ k ih=>
    have:Ef (Array.replicate ops.size false) k=false:=by
     simp only[Ef,Array.getD_eq_getD_getElem?,Array.getElem?_replicate]
     split<;>rfl
    simp only[df,this,ih]
    rfl
  rw[e]
  obtain⟨k1,k2⟩:=fh (us':=tT (Array.replicate ops.size false)) hs.heap (fun id h=> .inl h)
  exact⟨k1,hs.tr.trans k2,hs.size,hs.defers.mono k2,fun j=>V.ao k2 _ _ (hs.env j)⟩
end
end Go.Proofs.YtbmnikpknlkbkaaGreat
namespace Go.Proofs.YtbmnikpknlkbkaaGreat
section
variable {P:Program}{M:Nat->Prop}{φ bN:Place}{H0:Hp}{w w' w0:World}{n:Nat}{s:S}{us:Nat->Prop}{a:Act}{cx:Cx}{ro:Option Nat}{k:Nat}
variable {Q:Exit->Act->World->Prop}
theorem v9{ops:Array Oper}{po:Nat->Nat->Prop}{m:Nat}{X:V->S->Prop}{K:S->Prop}
 (m7:∀k,k<ops.size->∀j∈aT ops k,j<k)
 (uL:∀E:Nat->Bool,(∀k,k<ops.size->E k=true->∀j∈aT ops k,E j=true)->∀k,k<ops.size->(∀j∈aT ops k,E j=true)->∀j,po k j->E j=true)
 (uM:∀k,m<=k->k<ops.size->∀j,j<k->po k j)
 (hK:∀s φ a w,K s->bw M bN H0 w0 n cx φ s a w->Q .normal a w)
 (hX:∀v s' ai a' w' val,X v s'->bw M bN H0 w0 n cx ai s' a' w'->V.den (ad M ai s'.H) ai s'.H w' v val->Q (.panic [{v:=val,recovered:=false}]) a' w'):
 ∀ (d t:Nat) (s:S) (φ:Place) (ae:Array Bool) (a:Act) (w:World),t+d=ops.size->ae.size=ops.size->(∀k,k<ops.size->ae.getD k false=decide (k<t))->m<=t->
   bw M bN H0 w0 n cx φ s a w->qe P n ops X K (ops.toList.drop t) s->wpAnyIn (cL ro) k P .any ops Q d ae a w:=by
 intro d
 induction d with
 |zero=>
  intro t s φ ae a w ht cK hl wD hs h
  have e:t=ops.size:=by omega
  subst e
  refine⟨?_, ?_⟩
  ·rw[List.eq_nil_iff_forall_not_mem]
   intro j hj
   obtain⟨h1,o,h2,_⟩:=mem_ready.1 hj
   have LQ:j<ops.size:=(Array.getElem?_eq_some_iff.1 h2).1
   have:=hl j LQ
   simp only[Array.getD_eq_getD_getElem?]at this h1
   rw[Array.getElem?_eq_getElem (by omega)]at this h1
   simp only[Option.getD_some]at this h1
   rw[h1]at this
   simp[LQ]at this
  ·rw[List.drop_eq_nil_of_le (by simp)]at h
   exact hK s φ a w h hs
 |succ d ih=>
  intro t s φ ae a w ht cK hl wD hs h
  have I8:t<ops.size:=by omega
  refine⟨fun hr=> ?_,fun i hi=> ?_⟩
  ·have:=kg m7 cK hr t I8
   rw[hl t I8]at this
   simp at this
  ·obtain⟨h1,o,h2,h3⟩:=mem_ready.1 hi
   have mW:i<ops.size:=(Array.getElem?_eq_some_iff.1 h2).1
   have iN:ae.getD i false=false:=by
    simp only[Array.getD_eq_getD_getElem?]at h1|-
    rw[Array.getElem?_eq_getElem (by omega)]at h1|-
    simpa using h1
   have OE:t<=i:=by
    have:=hl i mW
    rw[iN]at this
    have:=of_decide_eq_false this.symm
    omega
   have xB:∀j∈aT ops i,ae.getD j false=true:=by
    intro j hj
    simp only[aT,h2,List.mem_map,List.mem_filter]at hj
    obtain⟨e,⟨he,hb⟩,rfl⟩:=hj
    exact h3 e (Array.mem_toList_iff.1 he) hb
   have mO:∀k,k<ops.size->ae.getD k false=true->∀j∈aT ops k,ae.getD j false=true:=by
    intro k hk eC j hj
    have EI:=m7 k hk j hj
    rw[hl k hk]at eC
    rw[hl j (by omega)]
    have:=of_decide_eq_true eC
    exact decide_eq_true (by omega)
   have Iy:i=t:=by
    rcases Nat.eq_or_lt_of_le OE with e|e
    ·exact e.symm
    ·have:=uL (fun k=>ae.getD k false) mO i mW xB t (uM i (by omega) mW t e)
     rw[hl t I8]at this
     simp at this
   subst Iy
   have Ff:ops.toList.drop i=o::ops.toList.drop (i+1):=by
    have BZ:i<ops.toList.length:=by simpa using mW
    rw[List.drop_eq_getElem_cons BZ]
    have:ops.toList[i]=o:=by
     have:=(Array.getElem?_eq_some_iff.1 h2).2
     simpa using this
    rw[this]
   rw[Ff]at h
   obtain⟨g1,g2⟩:=kY hs h
   have EV:∀k,k<ops.size->(ae.setIfInBounds i true).getD k false=decide (k<i+1):=by
    intro k hk
    simp only[Array.getD_eq_getD_getElem?]
    by_cases e:k=i
    ·subst e;simp[cK,mW]
    ·rw[Array.getElem?_setIfInBounds_ne (Ne.symm e)]
     have:=hl k hk
     simp only[Array.getD_eq_getD_getElem?]at this
     rw[this]
     exact decide_eq_decide.2 (by omega)
   have iH:∀s' ai a' w',qe P n ops X K (ops.toList.drop (i+1)) s'->bw M bN H0 w0 n cx ai s' a' w'->wpAnyIn (cL ro) k P .any ops Q d (ae.setIfInBounds i true) a' w':=
    fun s' ai a' w' hk gy=>ih (i+1) s' ai _ a' w' (by omega) (by simp[cK]) EV (by omega) gy hk
   unfold wpOpIn
   simp only[h2]
   split
   ·rename_i hw
    exact pn hs (g1 hw) (fun s' ai a' w' hk gy=>iH s' ai a' w' hk gy) (fun v s' ai w' val hx gy hd=>hX v s' ai a w' val hx gy hd)
   ·rename_i hw
    obtain⟨bV,h3⟩:=g2 (by simpa using hw)
    exact⟨fun _ _=>trivial,iH _ _ _ _ h3 (rV hs bV)⟩
theorem tV(aO:P.follows .mixedOrders=true){ops:Array Oper}{l:List bz}{id:Nat}(jH:gJ n ops ops.toList=some l)(m7:∀k,k<ops.size->∀j∈aT ops k,j<k){ac:Nat->dD}{m:Nat}(hm:m<=ops.size){X:V->S->Prop}{K:S->Prop}
 (hs:bw M bN H0 w0 n cx φ s a w) (B9:∀i,i<m->Ba P (df (bn l) ac (fun _=>true) s i) (s.nx+i) (bn l i) (ac i))
 (Fg:∀i,i<m->(ac i).ok=true)
 {po:Nat->Nat->Prop} (uL:∀E:Nat->Bool,(∀k,k<ops.size->E k=true->∀j∈aT ops k,E j=true)->∀k,k<ops.size->(∀j∈aT ops k,E j=true)->∀j,po k j->E j=true) (sr:∀k,k<ops.size->∀j,po k j->j<k)
 (hc:∀i j,i<j->j<m-> ¬po j i->Compat (bn l) ac (fun i=>oR (ac i)) i j)
 (uM:∀k,m<=k->k<ops.size->∀j,j<k->po k j)
 (nM:qe P n ops X K (ops.toList.drop m) ⟨(df (bn l) ac (fun _=>true) s m).env,(df (bn l) ac (fun _=>true) s m).o,s.nx+m⟩)
 (hK:∀s φ a w,K s->bw M bN H0 w0 n cx φ s a w->Q .normal a w)
 (hX:∀v s' ai a' w' val,X v s'->bw M bN H0 w0 n cx ai s' a' w'->V.den (ad M ai s'.H) ai s'.H w' v val->Q (.panic [{v:=val,recovered:=false}]) a' w'):
 (Code.region id ops true).wpIn (cL ro) k P Q a w:=by
 refine wpIn_region_any aO ?_
 have hs:=sn hs
 generalize ({w with drawn:=w.drawn+1}:World)=w at hs
 let N:=m
 let Ef (ae:Array Bool) (k:Nat):Bool:=ae.getD k false
 let tT (ae:Array Bool) (j:Nat):Prop:=j<s.nx\/∃k,k<N/\Ef ae k=true/\j=s.nx+k
 have key:∀ (fuel:Nat) (ae:Array Bool) (φ:Place) (a:Act) (w:World),ae.size=ops.size->ae.count true+fuel=ops.size->(∀k,k<ops.size->Ef ae k=true->∀j∈aT ops k,Ef ae j=true)->(∀k,k<ops.size->Ef ae k=true->k<m)->
  mV M bN H0 w0 n cx φ (df (bn l) ac (Ef ae) s N) (tT ae) a w->wpAnyIn (cL ro) k P .any ops Q fuel ae a w:=by
  have fin:∀ (fuel:Nat) (ae:Array Bool) (φ:Place) (a:Act) (w:World),ae.size=ops.size->ae.count true+fuel=ops.size->(∀k,k<ops.size->Ef ae k=true->k<m)->(∀k,k<N->Ef ae k=true)->mV M bN H0 w0 n cx φ (df (bn l) ac (Ef ae) s N) (tT ae) a w->wpAnyIn (cL ro) k P .any ops Q fuel ae a w:=by
   intro fuel ae φ a w cK v5 br aC hu
   have e:∀k,k<=N->df (bn l) ac (Ef ae) s k=df (bn l) ac (fun _=>true) s k:=by
    intro k
    induction k with
    |zero=>intro _;rfl
    |succ k ih=>intro hk;simp only[df,aC k (by omega),ih (by omega)]
   rw[e N (Nat.le_refl _)]at hu
   obtain⟨k1,k2⟩:=fh (us':=fun id=>id<s.nx+N) hu.heap (fun id h=>by
    show id<s.nx+N
    rcases h with h|⟨k,hk,_,rfl⟩<;>omega)
   have I9:∀k,k<ops.size->ae.getD k false=decide (k<m):=by
    intro k hk
    by_cases h:k<m
    ·rw[decide_eq_true h];exact aC k h
    ·rw[decide_eq_false h]
     cases hb:ae.getD k false with
     |false=>rfl
     |true=>exact absurd (br k hk hb) h
   have HH:ae.count true=m:=by
    have e1:ae=Array.ofFn (n:=ops.size) fun k=>decide (k.1<m):=by
     apply Array.ext
     ·simp[cK]
     ·intro k h1 h2
      have:=I9 k (by omega)
      simp only[Array.getD_eq_getD_getElem?]at this
      rw[Array.getElem?_eq_getElem h1]at this
      simpa using this
    have e2:ae.toList=List.replicate m true++List.replicate (ops.size - m) false:=by
     apply List.ext_getElem?
     intro k
     by_cases hk:k<ops.size
     ·have h1:ae.toList[k]? =some (decide (k<m)):=by
       have:=I9 k hk
       simp only[Array.getD_eq_getD_getElem?]at this
       rw[Array.getElem?_eq_getElem (by omega)]at this
       simp only[Option.getD_some]at this
       rw[Array.getElem?_toList,Array.getElem?_eq_getElem (by omega),this]
      rw[h1]
      by_cases h:k<m
      ·rw[List.getElem?_append_left (by simpa using h)]
       simp[h]
      ·rw[List.getElem?_append_right (by simpa using(by omega:m<=k))]
       rw[List.length_replicate,List.getElem?_replicate,if_pos (by omega),decide_eq_false h]
     ·rw[List.getElem?_eq_none (by simp[cK];omega),List.getElem?_eq_none (by simp;omega)]
    rw[<- Array.count_toList,e2,List.count_append,List.count_replicate_self,List.count_replicate]
    simp
   exact v9 m7 uL uM hK hX fuel m ⟨(df (bn l) ac (fun _=>true) s m).env,(df (bn l) ac (fun _=>true) s m).o,s.nx+m⟩ φ ae a w (by omega) cK I9 (Nat.le_refl _) ⟨k1,hu.tr.trans k2,hu.size,hu.defers.mono k2,fun i=>V.ao k2 _ _ (hu.env i)⟩ nM
  intro fuel
  induction fuel with
  |zero=>
   intro ae φ a w cK v5 mO br hu
   have aC:∀k,k<ops.size->Ef ae k=true:=by
    intro k hk
    have h1:ae.count true=ae.size:=by omega
    rw[Array.count_eq_size]at h1
    have:=h1 ae[k] (Array.getElem_mem (by omega))
    simp only[Ef,Array.getD_eq_getD_getElem?]
    rw[Array.getElem?_eq_getElem (by omega)]
    simpa using this.symm
   exact fin 0 ae φ a w cK v5 br (fun k hk=>aC k (by omega)) hu
  |succ fuel ih=>
   intro ae φ a w cK v5 mO br hu
   by_cases Bd:∀k,k<m->Ef ae k=true
   ·exact fin (fuel+1) ae φ a w cK v5 br Bd hu
   have hex:∃j,j<m/\Ef ae j=false:=by
    apply Classical.byContradiction
    intro vq
    refine Bd fun k hk=> ?_
    cases hb:Ef ae k with
    |true=>rfl
    |false=>exact absurd ⟨k,hk,hb⟩ vq
   obtain⟨j0,Pp,Fh⟩:=hex
   refine⟨fun hr=> ?_,fun i hi=> ?_⟩
   ·have:=kg m7 cK hr j0 (by omega)
    rw[show ae.getD j0 false=false from Fh]at this
    cases this
   obtain⟨h1,o,h2,h3⟩:=mem_ready.1 hi
   have Ja:i<ops.size:=(Array.getElem?_eq_some_iff.1 h2).1
   have iN:Ef ae i=false:=by
    simp only[Ef,Array.getD_eq_getD_getElem?]at h1|-
    rw[Array.getElem?_eq_getElem (by omega)]at h1|-
    simpa using h1
   have xB:∀j∈aT ops i,Ef ae j=true:=by
    intro j hj
    simp only[aT,h2,List.mem_map,List.mem_filter]at hj
    obtain⟨e,⟨he,hb⟩,rfl⟩:=hj
    exact h3 e (Array.mem_toList_iff.1 he) hb
   have mW:i<N:=by
    apply Classical.byContradiction
    intro re
    have re:m<=i:=Nat.le_of_not_lt re
    have:=uL _ mO i Ja xB j0 (uM i re Ja j0 (by omega))
    rw[Fh]at this;cases this
   have xD:qA N po (Ef ae):=fun k hk eC=>uL _ mO k (by omega) (mO k (by omega) eC)
   obtain⟨Fc,HG⟩:=Bb (s:=s) (n:=N) (fun k hk=>sr k (by omega)) hc xD mW iN (uL _ mO i (by omega) xB)
   obtain⟨g1,g2,g3,g4⟩:=pD (nW _ _ i o jH (by simpa using h2))
   have de: ¬tT ae (s.nx+i):=by
    rintro(h|⟨k,_,hk,he⟩)
    ·omega
    ·have:k=i:=by omega
     subst this;rw[iN]at hk;cases hk
   have tS:∀k,Ef (ae.setIfInBounds i true) k=(Ef ae k||k==i):=by
    intro k
    simp only[Ef,Array.getD_eq_getD_getElem?]
    by_cases e:k=i
    ·subst e;simp[cK,Ja]
    ·rw[Array.getElem?_setIfInBounds_ne (Ne.symm e)]
     have:(k==i)=false:=by simpa using e
     simp[this]
   have Cb:=insert (s:=s) hc xD mW iN tS
   have Cc:∀k,k<ops.size->Ef (ae.setIfInBounds i true) k=true->∀j∈aT ops k,Ef (ae.setIfInBounds i true) j=true:=by
    intro k hk eC j hj
    rw[tS]at eC|-
    by_cases e:k=i
    ·subst e;simp[xB j hj]
    ·have:(k==i)=false:=by simpa using e
     rw[this,Bool.or_false]at eC
     simp[mO k hk eC j hj]
   have xE:(ae.setIfInBounds i true).count true+fuel=ops.size:=by
    have br:i<ae.size:=by omega
    have e1:ae.setIfInBounds i true=ae.set i true br:=by simp[Array.setIfInBounds,br]
    have e2:ae[i]=false:=by
     have:=iN
     simp only[Ef,Array.getD_eq_getD_getElem?]at this
     rw[Array.getElem?_eq_getElem br]at this
     simpa using this
    rw[e1,Array.count_set br,e2]
    simp
    omega
   have iH:(ac i).ok=true->∀ai a' w',mV M bN H0 w0 n cx ai (oD o.dst (ac i) (df (bn l) ac (Ef ae) s N)) (fun id=>tT ae id\/id=s.nx+i) a' w'->wpAnyIn (cL ro) k P .any ops Q fuel (ae.setIfInBounds i true) a' w':=by
    intro Fe ai a' w' oM
    refine ih _ ai a' w' (by simp[cK]) xE Cc (fun k hk eC=> ?_) ?_
    ·rw[tS]at eC
     by_cases e:k=i
     ·subst e;exact mW
     ·have:(k==i)=false:=by simpa using e
      rw[this,Bool.or_false]at eC
      exact br k hk eC
    rw[Cb,g2]
    obtain⟨k1,k2⟩:=fh (us':=tT (ae.setIfInBounds i true)) oM.heap (fun id h=>by
     rcases h with(h|⟨k,hk,eC,rfl⟩)|rfl
     ·exact .inl h
     ·exact .inr ⟨k,hk,by rw[tS,eC];rfl,rfl⟩
     ·exact .inr ⟨i,mW,by rw[tS];simp,rfl⟩)
    exact⟨k1,oM.tr.trans k2,oM.size,oM.defers.mono k2,fun j=>V.ao k2 _ _ (oM.env j)⟩
   have v7:∀d want,(bn l i).gd=some (d,want)->(df (bn l) ac (Ef ae) s N).env d=(df (bn l) ac (fun _=>true) s i).env d:=fun d want hd=>Fc d (by simp[dx,tmpsOf,hd])
   have a8:=B9 i mW
   have v8:∀x∈(bn l i).op.operands,(df (bn l) ac (Ef ae) s N).ev x=(df (bn l) ac (fun _=>true) s i).ev x:=fun x hx=>sj fun t ht=>Fc t (by
    subst ht
    simp only[dx,tmpsOf,List.mem_append,List.mem_filterMap]
    exact .inl (.inl ⟨.tmp t,Array.mem_toList_iff.2 hx,rfl⟩))
   have zF:(df (bn l) ac (Ef ae) s N).nx=(df (bn l) ac (fun _=>true) s i).nx:=(fM N).trans (fM i).symm
   unfold wpOpIn
   simp only[h2]
   cases mX:ac i with
   |skip=>
    rw[mX]at a8 iH
    have hw:=dI hu.env g4 (dJ v7 a8)
    simp only[hw,Bool.false_eq_true,if_false]
    refine⟨fun _ _=>trivial,iH rfl φ _ w ?_⟩
    have:=eU (v:= .bJ []) (val:=undef) hu hu.heap (Trans.refl _ _ _) ⟨#[],rfl,rfl⟩ (dst:=o.dst) g3 rfl (us':=fun id=>tT ae id\/id=s.nx+i) (fun id h=> .inl h)
    exact this
   |val v Δ rd=>
    rw[mX]at a8 iH
    have hw:=dI hu.env g4 (dJ v7 a8.1)
    simp only[hw,if_true]
    obtain⟨pz,jO⟩:=mA v8 (fun id ag=>HG id (by rw[mX];exact ag)) zF a8.2
    exact si hu de (fun id h=> .inl (by rw[fM]at h;exact h)) g1.symm g3 jO (iH rfl)
   |ba v ws rd=>
    have:=Fg i mW
    rw[mX]at this;cases this
   |cW=>
    have:=Fg i mW
    rw[mX]at this;cases this
 refine key ops.size _ φ a w (by simp) (by simp[Array.count_replicate]) (fun k hk eC=> ?_) (fun k hk eC=> ?_) ?_
 ·simp[Ef,Array.getD_eq_getD_getElem?,Array.getElem?_replicate]at eC
  split at eC<;>simp at eC
 ·simp[Ef,Array.getD_eq_getD_getElem?,Array.getElem?_replicate]at eC
  split at eC<;>simp at eC
 ·have e:∀k,df (bn l) ac (Ef (Array.replicate ops.size false)) s k=s:=by
   intro k
   induction k with
   |zero=>rfl
   |succ k ih=>
    have:Ef (Array.replicate ops.size false) k=false:=by
     simp only[Ef,Array.getD_eq_getD_getElem?,Array.getElem?_replicate]
     split<;>rfl
    simp only[df,this,ih]
    rfl
  rw[e]
  obtain⟨k1,k2⟩:=fh (us':=tT (Array.replicate ops.size false)) hs.heap (fun id h=> .inl h)
  exact⟨k1,hs.tr.trans k2,hs.size,hs.defers.mono k2,fun j=>V.ao k2 _ _ (hs.env j)⟩
end
end Go.Proofs.YtbmnikpknlkbkaaGreat
