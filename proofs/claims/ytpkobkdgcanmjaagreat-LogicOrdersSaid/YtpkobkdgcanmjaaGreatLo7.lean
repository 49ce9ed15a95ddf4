/-
  A PART OF THE PROOF. Conditions: none.
-/
import Derived.OrdersIn
import Derived.Test.YtpkobkdgcanmjaaGreatLo6
set_option linter.unusedSimpArgs false
set_option linter.unusedVariables false
namespace Go.Proofs.YtpkobkdgcanmjaaGreat
def aa.refs:aa->List Nat
 | .row cs=>V.ax cs
 | .loop _ _ env _ _ _ _ _=>V.ax env
 |_=>[]
def CY(R:List Nat)(o:Nat->aa):Nat->aa:=fun id=>if R.contains id=true then o id else .no
def zx(P:Program)(g:FuncId)(args:List V)(rd:List Nat)(o:Nat->aa)(out:R)(Δ:List (Nat×aa)):Prop:=
 gL P g/\∀ (o':Nat->aa) (us:Nat->Prop) (M:Nat->Prop) (φ:Place) (w:World) (vals:Array Value),(∀id∈rd,o' id=o id/\us id)->ai M φ ⟨o',us⟩ w->V.aq (ad M φ ⟨o',us⟩) φ ⟨o',us⟩ w args vals.toList->
  Calls P g vals w fun e w'=>∃aj,ai M aj ⟨put o' Δ,us⟩ w'/\Trans φ ⟨o',us⟩ w aj ⟨put o' Δ,us⟩ w'/\out.is (ad M aj ⟨put o' Δ,us⟩) w' e
def vk(P:Program)(g:FuncId)(args:List V)(rd:List Nat)(o:Nat->aa)(fr:Nat)(v:V)(Δ:List (Nat×aa)):Prop:=
 gL P g/\∀ (o':Nat->aa) (us:Nat->Prop) (M:Nat->Prop) (φ:Place) (w:World) (vals:Array Value),(∀id∈rd,o' id=o id/\us id)-> ¬us fr->ai M φ ⟨o',us⟩ w->V.aq (ad M φ ⟨o',us⟩) φ ⟨o',us⟩ w args vals.toList->
  Calls P g vals w fun e w'=>∃aj,ai M aj ⟨put o' Δ,fun id=>us id\/id=fr⟩ w'/\Trans φ ⟨o',us⟩ w aj ⟨put o' Δ,fun id=>us id\/id=fr⟩ w'/\∃val,e= .returned val/\V.den (ad M aj ⟨put o' Δ,fun id=>us id\/id=fr⟩) aj ⟨put o' Δ,fun id=>us id\/id=fr⟩ w' v val
mutual
theorem V.ik {B B':Nat->Prop}{φ aj:Place}{H H':Hp}{w:World}(hB:∀b, ¬B b-> ¬B' b):∀ (v:V) (val:Value),(∀id∈v.refs,H'.o id=H.o id/\aj id=φ id/\H'.us id)->V.den B φ H w v val->V.den B' aj H' w v val
 | .d x,val,_,h=>D.au (w:=w) (w':=w) (fun b _ hn=>⟨rfl,hB b hn⟩) x val h
 | .aM,_,_,h=>h
 | .aw,_,_,_=>trivial
 | .dC,_,_,h=>h
 | .kG es,val,_,h=>⟨D.au (w:=w) (w':=w) (fun b _ hn=>⟨rfl,hB b hn⟩) (.sl es) val h.1,h.2⟩
 | .agg cs,val,hr,h=>by
   obtain⟨a,rfl,h1,h2⟩:=h
   exact⟨a,rfl,V.dP hB cs _ (by simpa[V.refs]using hr) h1,h2⟩
 | .bM cs,val,hr,h=>by
   obtain⟨a,rfl,h1⟩:=h
   exact⟨a,rfl,V.dP hB cs _ (by simpa[V.refs]using hr) h1⟩
 | .ptr id off,val,hr,h=>by
   obtain⟨a,b,c⟩:=hr id (by simp[V.refs])
   obtain⟨h0,h1,h2⟩:=h
   refine⟨h0,c,fun aZ=> ?_⟩
   rw[a]at aZ
   obtain⟨x,y,z⟩:=h2 aZ
   exact⟨x,b.trans y,z⟩
 | .osl id ep,val,hr,h=>by
   obtain⟨a,b,c⟩:=hr id (by simp[V.refs])
   obtain⟨h0,h1,h2⟩:=h
   refine⟨h0,c,fun e he=> ?_⟩
   rw[a]at he
   obtain⟨x,y⟩:=h2 e he
   exact⟨x,fun heq=>(y heq).trans b.symm⟩
 | .pe id ep i sz off,val,hr,h=>by
   obtain⟨a,b,c⟩:=hr id (by simp[V.refs])
   obtain⟨h0,h1,h2⟩:=h
   refine⟨h0,c,fun e he=> ?_⟩
   rw[a]at he
   obtain⟨x,y⟩:=h2 e he
   refine⟨x,fun heq=> ?_⟩
   obtain⟨p,q,r,z,u⟩:=y heq
   exact⟨p,q,r,b.trans z,u⟩
 | .pp cs off,val,_,h=>by
   obtain⟨a,ev,h1,h2,h3,h5,h4⟩:=h
   exact⟨a,ev,h1,h2,D.az (w:=w) (w':=w) (fun b _ hn=>⟨rfl,hB b hn⟩) cs ev h3,h5,h4.mono (w:=w) (w':=w) (fun b _ hn=>⟨rfl,hB b hn⟩)⟩
 | .func fn first cap,val,hr,h=>by
   obtain⟨f,c,rfl,h1,h2⟩:=h
   exact⟨f,c,rfl,V.dP hB first _ (fun id ag=>hr id (by simp[V.refs,ag])) h1,V.dP hB cap _ (fun id ag=>hr id (by simp[V.refs,ag])) h2⟩
 | .iface t x,val,hr,h=>by
   obtain⟨u,rfl,h⟩:=h
   exact⟨u,rfl,V.ik hB x u (by simpa[V.refs]using hr) h⟩
 | .n5 id off n,val,hr,h=>by
   obtain⟨a,b,c⟩:=hr id (by simp[V.refs])
   obtain⟨h0,h1,h2⟩:=h
   refine⟨h0,c,fun aZ=> ?_⟩
   rw[a]at aZ
   obtain⟨x,y,z⟩:=h2 aZ
   exact⟨x,b.trans y,z⟩
 | .mp id,val,hr,h=>by
   obtain⟨a,b,c⟩:=hr id (by simp[V.refs])
   obtain⟨h0,h1,h2⟩:=h
   refine⟨h0,c,fun aZ=> ?_⟩
   rw[a]at aZ
   exact(h2 aZ).trans b.symm
 | .jT id,val,hr,h=>by
   obtain⟨a,b,c⟩:=hr id (by simp[V.refs])
   obtain⟨h0,h1,h2⟩:=h
   refine⟨h0,c,fun aZ=> ?_⟩
   rw[a]at aZ
   obtain⟨x,y,z⟩:=h2 aZ
   exact⟨x,b.trans y,z⟩
theorem V.dP {B B':Nat->Prop}{φ aj:Place}{H H':Hp}{w:World}(hB:∀b, ¬B b-> ¬B' b):∀ (vs:List V) (vals:List Value),(∀id∈V.ax vs,H'.o id=H.o id/\aj id=φ id/\H'.us id)->V.aq B φ H w vs vals->V.aq B' aj H' w vs vals
 |[],_,_,h=>h
 |v::vs,_,hr,h=>by
  obtain⟨u,us,rfl,h1,h2⟩:=h
  exact⟨u,us,rfl,V.ik hB v u (fun id ag=>hr id (by simp[V.ax,ag])) h1,V.dP hB vs us (fun id ag=>hr id (by simp[V.ax,ag])) h2⟩
end
theorem xZ{env:List V}{i id:Nat}(h:id∈(bI env i).refs):id∈V.ax env:=by
 unfold bI at h
 induction env generalizing i with
 |nil=>simp[V.refs]at h
 |cons v env ih=>
  cases i with
  |zero=>simp only[List.getD_cons_zero]at h;simp[V.ax,h]
  |succ i=>simp only[List.getD_cons_succ]at h;simp[V.ax,ih h]
theorem aA.refs {M M':Nat->Prop}{φ aj:Place}{H H':Hp}{w:World}{id:Nat}(hB:∀b, ¬ad M φ H b-> ¬ad M' aj H' b)(ho:H'.o id=H.o id)(cM:aj id=φ id)
 (hr:∀j∈(H.o id).refs,H'.o j=H.o j/\aj j=φ j/\H'.us j) (h:aA M φ H w id):aA M' aj H' w id:=by
 have hd:∀b,bN w b-> ¬ad M φ H b->w.heap[b]? =w.heap[b]? /\ ¬ad M' aj H' b:=fun b _ hn=>⟨rfl,hB b hn⟩
 unfold aA at*
 rw[ho]
 cases hx:H.o id with
 |no=>trivial
 |row cs=>
  simp only[hx]at h|-
  obtain⟨b,cd,ty,h1,h2,h3,h4⟩:=h
  exact⟨b,cd,ty,cM.trans h1,h2,V.dP hB cs _ (fun j hj=>hr j (by rw[hx];exact hj)) h3,h4⟩
 |arr ep ty sz es=>
  simp only[hx]at h|-
  obtain⟨h0,xs,h1,evs,h2,h3,h4⟩:=h
  exact⟨h0,xs,by rw[cM];exact h1,evs,h2,h3,D.az hd es evs h4⟩
 |lu ep es=>
  simp only[hx]at h|-
  rw[cM]
  exact D.au hd (.sl es) _ h
 |map kt vt l=>
  simp only[hx]at h|-
  obtain⟨b,es,clock,h1,h2,h4,h3⟩:=h
  exact⟨b,es,clock,cM.trans h1,h2,h4,ay.mono hd l _ h3⟩
 |eg l=>
  simp only[hx]at h|-
  rw[cM]
  exact D.au hd (.mp _ _) _ h
 |my l last=>
  simp only[hx]at h|-
  obtain⟨b,h1,h2⟩:=h
  exact⟨b,cM.trans h1,h2.mono hd rfl⟩
 |n6 s pos=>
  simp only[hx]at h|-
  obtain⟨b,h1,h2⟩:=h
  exact⟨b,cM.trans h1,h2⟩
 |loop nf n env ps kg gv st xj=>
  simp only[hx]at h|-
  obtain⟨b,r,h1,h2,h0,h3,h4,h5,h6,h7,h8,h9⟩:=h
  exact⟨b,r,cM.trans h1,h2,h0,h3,h4,h5,h6,h7,h8,fun i=>V.ik hB _ _ (fun j hj=>hr j (by rw[hx];exact xZ hj)) (h9 i)⟩
section
variable {P:Program}
theorem vl{o o':Nat->aa}{Δ:List (Nat×aa)}{id:Nat}(h:o id=o' id):put o Δ id=put o' Δ id:=wq h
where wq {o o':Nat->aa}:∀ {Δ:List (Nat×aa)} {id:Nat},o id=o' id->put o Δ id=put o' Δ id
 |[],_,h=>h
 |x::Δ,id,h=>by
  simp only[put,List.foldl_cons]
  refine wq (Δ:=Δ) (o:=aV o x.1 x.2) (o':=aV o' x.1 x.2) ?_
  simp only[aC]
  split
  ·rfl
  ·exact h
theorem rG{o:Nat->aa}:∀ {Δ:List (Nat×aa)} {id:Nat},(∀x∈Δ,x.1≠id)->put o Δ id=o id
 |[],_,_=>rfl
 |x::Δ,id,h=>by
  have:=rG (o:=aV o x.1 x.2) (Δ:=Δ) (id:=id) (fun y hy=>h y (by simp[hy]))
  simp only[put,List.foldl_cons]at this|-
  rw[this];simp[Ne.symm (h x (by simp))]
theorem zx.kQ {g:FuncId}{args:List V}{rd:List Nat}{o:Nat->aa}{nx:Nat}{out:R}{Δ:List (Nat×aa)}(pM:∀id∈rd,id<nx)(dg:∀id∈V.ax args,id∈rd)(nB:∀id∈rd,∀j∈(o id).refs,j∈rd)(DW:∀x∈Δ,x.1∈rd)(N9:∀x∈Δ,∀j∈x.2.refs,j∈rd)
 (h:fm P g args (CY rd o) nx
  (fun v o1 _=>(∀id∈rd,o1 id=put o Δ id)/\∃vs rs,v=(match vs with|[v]=>v|vs=> .bM vs)/\bA o1 vs=some rs/\out= .ret rs/\∀id∈V.aQ vs,id∉rd)
  (fun v o1 _=>(∀id∈rd,o1 id=put o Δ id)/\∃x,dn o1 v=some x/\out= .ba x/\∀id∈v.ids,id∉rd)):zx P g args rd o out Δ:=by
 refine⟨h.1,fun o' us M φ w vals ho hH hd=> ?_⟩
 let M1:Nat->Prop:=fun b=>M b\/∃id,id∉rd/\(o' id).live=true/\dA (φ id)=some b
 let HR:Hp:=hp (CY rd o) nx
 have oM:∀id,id∈rd->CY rd o id=o' id:=fun id ag=>by simp[CY,ag,(ho id ag).1]
 have nk:∀id,id∉rd->CY rd o id= .no:=fun id ag=>by simp[CY,ag]
 have hB:∀b,ad M1 φ HR b↔ad M φ ⟨o',us⟩ b:=by
  intro b
  constructor
  ·rintro((h|⟨id,h1,h2,h3⟩)|⟨id,h1,h2⟩)
   ·exact .inl h
   ·exact .inr ⟨id,h2,h3⟩
   ·by_cases ag:id∈rd
    ·exact .inr ⟨id,by show(o' id).live=true;rw[<- oM id ag];exact h1,h2⟩
    ·have:HR.o id= .no:=nk id ag
     rw[this]at h1;cases h1
  ·rintro(h|⟨id,h1,h2⟩)
   ·exact .inl (.inl h)
   ·by_cases ag:id∈rd
    ·exact .inr ⟨id,by show(CY rd o id).live=true;rw[oM id ag];exact h1,h2⟩
    ·exact .inl (.inr ⟨id,ag,h1,h2⟩)
 have pU:∀id∈rd,HR.o id=o' id/\φ id=φ id/\HR.us id:=fun id ag=>⟨oM id ag,rfl,pM id ag⟩
 have SY:ai M1 φ HR w:=by
  refine⟨fun id=> ?_,fun id hn=> ?_,fun i j b hi hj bi bj=> ?_,fun b hb=> ?_,fun b hb=> ?_⟩
  ·by_cases ag:id∈rd
   ·refine aA.refs (H:=⟨o',us⟩) (M:=M) (φ:=φ) (fun b hn hb=>hn ((hB b).1 hb)) (oM id ag) rfl (fun j hj=>pU j ?_) (hH.ok id)
    have:o' id=o id:=(ho id ag).1
    exact nB id ag j (by rw[<- this];exact hj)
   ·unfold aA
    rw[show HR.o id= .no from nk id ag];trivial
  ·exact nk id fun ag=>hn (pM id ag)
  ·have live:∀i,(HR.o i).live=true->i∈rd/\(o' i).live=true:=fun i hi=>by
    by_cases ag:i∈rd
    ·exact⟨ag,by rw[<- oM i ag];exact hi⟩
    ·rw[show HR.o i= .no from nk i ag]at hi;cases hi
   exact hH.apart i j b (live i hi).2 (live j hj).2 bi bj
  ·obtain⟨id,h1,h2⟩:=hb
   have ag:id∈rd:=by
    by_cases ag:id∈rd
    ·exact ag
    ·rw[show HR.o id= .no from nk id ag]at h1;cases h1
   rw[show HR.o id=o' id from oM id ag]at h1
   obtain⟨k1,k2⟩:=hH.ours b ⟨id,h1,h2⟩
   refine⟨?_,k2⟩
   rintro(hM|⟨j,j1,j2,j3⟩)
   ·exact k1 hM
   ·exact j1 (hH.apart j id b j2 h1 j3 h2 ▸ ag)
  ·rcases hb with hb|⟨id,h1,h2,h3⟩
   ·exact hH.pP b hb
   ·exact(hH.ours b ⟨id,h2,h3⟩).2
 have SZ:V.aq (ad M1 φ HR) φ HR w args vals.toList:=V.dP (H:=⟨o',us⟩) (fun b hn hb=>hn ((hB b).1 hb)) _ _ (fun id ag=>pU id (dg id ag)) hd
 refine(h.2 M1 φ w vals SY SZ).mono ?_
 rintro e w' ⟨fk,o1,sw,v,k1,k2,k3⟩
 have main:(∀id∈rd,o1 id=put o Δ id)->∃aj,ai M aj ⟨put o' Δ,us⟩ w'/\Trans φ ⟨o',us⟩ w aj ⟨put o' Δ,us⟩ w'/\∀b,ad M aj ⟨put o' Δ,us⟩ b->M1 b\/∃id∈rd,(o1 id).live=true/\dA (fk id)=some b:=by
  intro lJ
  have wb:∀id∈rd,put o' Δ id=o1 id:=fun id ag=>(vl (ho id ag).1).trans (lJ id ag).symm
  have yG:∀id,id∉rd->put o' Δ id=o' id:=fun id ag=>rG fun x hx e=>ag (e ▸ DW x hx)
  let xS:Place:=fun id=>if id∈rd then fk id else φ id
  have rH:∀id∈rd,xS id=fk id:=fun id ag=>if_pos ag
  have tt:∀id,id∉rd->xS id=φ id:=fun id ag=>if_neg ag
  let H2:Hp:=⟨put o' Δ,us⟩
  have bt:∀b,bq xS H2 b->(∃id∈rd,(o1 id).live=true/\dA (fk id)=some b)\/∃id,id∉rd/\(o' id).live=true/\dA (φ id)=some b:=by
   rintro b ⟨id,h1,h2⟩
   by_cases ag:id∈rd
   ·exact .inl ⟨id,ag,by rw[<- wb id ag];exact h1,by rw[<- rH id ag];exact h2⟩
   ·exact .inr ⟨id,ag,by rw[<- yG id ag];exact h1,by rw[<- tt id ag];exact h2⟩
  have MY:∀b,ad M xS H2 b->ad M1 fk (hp o1 sw) b:=by
   rintro b (hb|hb)
   ·exact .inl (.inl hb)
   ·rcases bt b hb with⟨id,h1,h2,h3⟩|⟨id,h1,h2,h3⟩
    ·exact .inr ⟨id,h2,h3⟩
    ·exact .inl (.inr ⟨id,h1,h2,h3⟩)
  have Hd:cW φ ⟨o',us⟩ xS H2:=by
   refine⟨fun id h=>h,fun id hu hr=> ?_,fun id e' hu he=> ?_⟩
   ·by_cases ag:id∈rd
    ·rw[show H2.o id=o1 id from wb id ag]at hr
     obtain⟨a,b⟩:=k2.rel.row id (pM id ag) hr
     rw[show HR.o id=o' id from oM id ag]at a
     exact⟨a,(rH id ag).trans b⟩
    ·rw[show H2.o id=o' id from yG id ag]at hr
     exact⟨hr,tt id ag⟩
   ·by_cases ag:id∈rd
    ·rw[show H2.o id=o1 id from wb id ag]at he
     obtain⟨e0,a,b,c⟩:=k2.rel.ep id e' (pM id ag) he
     rw[show HR.o id=o' id from oM id ag]at a
     exact⟨e0,a,b,fun heq=>(rH id ag).trans (c heq)⟩
    ·rw[show H2.o id=o' id from yG id ag]at he
     exact⟨e',he,Nat.le_refl _,fun _=>tt id ag⟩
  have ss:∀b,bN w b-> ¬ad M φ ⟨o',us⟩ b->w'.heap[b]? =w.heap[b]? /\ ¬ad M xS H2 b:=by
   intro b hc hn
   obtain⟨a,c⟩:=k2.blocks (M:=M1) b hc (fun hb=>hn ((hB b).1 hb))
   exact⟨a,fun hb=>c (MY b hb)⟩
  have ru:∀b,b<w.heap.size-> ¬bq φ HR b->w'.heap[b]? =w.heap[b]? :=fun b hb hl=>k2.bO.block b hb hl
  have ht:Trans φ ⟨o',us⟩ w xS H2 w':=by
   refine⟨⟨k2.bO.os,k2.bO.tape,k2.bO.output,k2.bO.size,fun b hb hl=>ru b hb fun⟨id,h1,h2⟩=>hl ?_⟩,fun b hb=> ?_,Hd⟩
   ·by_cases ag:id∈rd
    ·exact⟨id,by show(o' id).live=true;rw[<- oM id ag];exact h1,h2⟩
    ·rw[show HR.o id= .no from nk id ag]at h1;cases h1
   ·rcases bt b hb with⟨id,h1,h2,h3⟩|⟨id,h1,h2,h3⟩
    ·rcases k2.grow b ⟨id,h2,h3⟩with⟨j,j1,j2⟩|uN
     ·by_cases ag:j∈rd
      ·exact .inl ⟨j,by show(o' j).live=true;rw[<- oM j ag];exact j1,j2⟩
      ·rw[show HR.o j= .no from nk j ag]at j1;cases j1
     ·exact .inr uN
    ·exact .inl ⟨id,h2,h3⟩
  refine⟨xS,⟨fun id=> ?_,fun id hn=> ?_,fun i j b hi hj bi bj=> ?_,fun b hb=> ?_,fun b hb=>Nat.lt_of_lt_of_le (hH.pP b hb) k2.bO.size⟩,ht,fun b hb=> ?_⟩
  ·by_cases ag:id∈rd
   ·refine aA.refs (H:=hp o1 sw) (M:=M1) (φ:=fk) (fun b hn hb=>hn (MY b hb)) (wb id ag) (rH id ag) (fun j hj=> ?_) (k1.ok id)
    have yE:j∈rd:=by
     have e1:o1 id=put o Δ id:=lJ id ag
     have hj:j∈(put o Δ id).refs:=by rw[<- e1];exact hj
     have key:∀ (wu:List (Nat×aa)) (q:Nat->aa),(∀x∈wu,∀j∈x.2.refs,j∈rd)->(∀j∈(q id).refs,j∈rd)->∀j∈(put q wu id).refs,j∈rd:=by
      intro wu
      induction wu with
      |nil=>intro q _ h2;exact h2
      |cons x wu ih=>
       intro q h1 h2
       simp only[put,List.foldl_cons]
       refine ih (aV q x.1 x.2) (fun y hy=>h1 y (by simp[hy])) ?_
       simp only[aC]
       split
       ·exact h1 x (by simp)
       ·exact h2
     exact key Δ o N9 (nB id ag) j hj
    exact⟨wb j yE,rH j yE,(ho j yE).2⟩
   ·exact aA.sH ss Hd (yG id ag) (tt id ag) (fun hl b hb=>ru b (hH.ours b ⟨id,hl,hb⟩).2 fun⟨j,j1,j2⟩=>by
     by_cases hj:j∈rd
     ·rw[show HR.o j=o' j from oM j hj]at j1
      exact ag (hH.apart id j b hl j1 hb j2 ▸ hj)
     ·rw[show HR.o j= .no from nk j hj]at j1;cases j1) (hH.ok id)
  ·have ag:id∉rd:=fun ag=>hn (ho id ag).2
   exact(yG id ag).trans (hH.fresh id hn)
  ·by_cases e1:i∈rd<;>by_cases e2:j∈rd
   ·refine k1.apart i j b ?_ ?_ (by rw[<- rH i e1];exact bi) (by rw[<- rH j e2];exact bj)
    ·show(o1 i).live=true;rw[<- wb i e1];exact hi
    ·show(o1 j).live=true;rw[<- wb j e2];exact hj
   ·exfalso
    refine(k1.ours b ⟨i,by show(o1 i).live=true;rw[<- wb i e1];exact hi,by rw[<- rH i e1];exact bi⟩).1 (.inr ⟨j,e2,by rw[<- yG j e2];exact hj,by rw[<- tt j e2];exact bj⟩)
   ·exfalso
    refine(k1.ours b ⟨j,by show(o1 j).live=true;rw[<- wb j e2];exact hj,by rw[<- rH j e2];exact bj⟩).1 (.inr ⟨i,e1,by rw[<- yG i e1];exact hi,by rw[<- tt i e1];exact bi⟩)
   ·exact hH.apart i j b (by show(o' i).live=true;rw[<- yG i e1];exact hi) (by show(o' j).live=true;rw[<- yG j e2];exact hj) (by rw[<- tt i e1];exact bi) (by rw[<- tt j e2];exact bj)
  ·rcases bt b hb with⟨id,h1,h2,h3⟩|⟨id,h1,h2,h3⟩
   ·obtain⟨a,c⟩:=k1.ours b ⟨id,h2,h3⟩
    exact⟨fun hM=>a (.inl hM),c⟩
   ·obtain⟨a,c⟩:=hH.ours b ⟨id,h2,h3⟩
    exact⟨a,Nat.lt_of_lt_of_le c k2.bO.size⟩
  ·rcases hb with hb|hb
   ·exact .inl (.inl hb)
   ·rcases bt b hb with h|h
    ·exact .inr h
    ·exact .inl (.inr h)
 have res:∀ (vs:List V) (xs:List D) (us':List Value),(∀id∈rd,o1 id=put o Δ id)->bA o1 vs=some xs->(∀id∈V.aQ vs,id∉rd)->V.aq (ad M1 fk (hp o1 sw)) fk (hp o1 sw) w' vs us'->
  ∃aj,ai M aj ⟨put o' Δ,us⟩ w'/\Trans φ ⟨o',us⟩ w aj ⟨put o' Δ,us⟩ w'/\D.aq (ad M aj ⟨put o' Δ,us⟩) w' xs us':=by
  intro vs xs us' lJ h1 Oa h2
  obtain⟨f1,f2,f3,f4,f5⟩:=cw k1 (V.aQ vs) (bQ vs _ h2)
  have h3:=cF f1 vs xs us' f3 h1 (V.az f2 _ _ h2)
  obtain⟨aj,m1,m2,m3⟩:=main lJ
  refine⟨aj,m1,m2,D.az (w:=w') (w':=w') (fun b _ hn=>⟨rfl,fun hb=>hn ?_⟩) xs us' h3⟩
  rcases m3 b hb with hb|⟨id,i1,i2,i3⟩
  ·exact .inl hb
  ·exact .inr ⟨id,by rw[f4 id fun hm=>Oa id hm i1];exact i2,i3⟩
 cases e with
 |outgrown=>exact k3.elim
 |panicked ch=>
  obtain⟨val,rfl,g1,lJ,x,g2,rfl,g3⟩:=k3
  obtain⟨aj,m1,m2,m3⟩:=res [v] [x] [val] lJ (by simp[bA,g2]) (by simpa[V.aQ]using g3) ⟨val,[],rfl,g1,rfl⟩
  obtain⟨u,us2,he,h2,_⟩:=m3
  simp at he;obtain⟨rfl,rfl⟩:=he
  exact⟨aj,m1,m2,val,rfl,h2⟩
 |returned val=>
  obtain⟨g1,lJ,vs,rs,rfl,g2,rfl,g3⟩:=k3
  match vs,g1,g2,g3 with
  |[],g1,g2,g3=>
   obtain⟨arr,rfl,hv⟩:=g1
   simp only[bA,Option.some.injEq]at g2;subst g2
   obtain⟨aj,m1,m2,m3⟩:=res [] [] arr.toList lJ rfl (by simp[V.aQ]) hv
   exact⟨aj,m1,m2,arr,rfl,m3⟩
  |[v],g1,g2,g3=>
   obtain⟨aj,m1,m2,m3⟩:=res [v] rs [val] lJ g2 g3 ⟨val,[],rfl,g1,rfl⟩
   refine⟨aj,m1,m2, ?_⟩
   cases rs with
   |nil=>cases m3
   |cons x l=>
    obtain⟨u,us2,he,h2,h3⟩:=m3
    simp at he;obtain⟨rfl,rfl⟩:=he
    cases l with
    |nil=>exact h2
    |cons y l=>obtain⟨_,_,h,_⟩:=h3;cases h
  |v::v2::l,g1,g2,g3=>
   obtain⟨arr,rfl,hv⟩:=g1
   obtain⟨aj,m1,m2,m3⟩:=res (v::v2::l) rs arr.toList lJ g2 g3 hv
   refine⟨aj,m1,m2, ?_⟩
   have hl:=D.ao _ _ m3
   have Ha:=V.ao _ _ hv
   match rs,hl,m3 with
   |[],hl,_=>rw[Ha]at hl;simp at hl
   |[x],hl,_=>rw[Ha]at hl;simp at hl
   |x::y::l,_,m3=>exact⟨arr,rfl,m3⟩
end
end Go.Proofs.YtpkobkdgcanmjaaGreat
namespace Go.Proofs.YtpkobkdgcanmjaaGreat
inductive dQ where
 |skip|val (v:V) (Δ:List (Nat×aa)) (rd:List Nat)|ba (v:V) (ws rd:List Nat)|dA
 deriving Inhabited
def dQ.ok:dQ->Bool
 | .skip| .val .. =>true
 |_=>false
def pN(dst:Option Tmp)(x:dQ)(s:S):S:=
 match x with
 | .skip=>⟨aN s.env dst (.bM []),s.o,s.nx⟩
 | .val v Δ _=>⟨aN s.env dst v,put s.o Δ,s.nx⟩
 | .ba .. | .dA=>⟨aN s.env dst .aw,s.o,s.nx⟩
def gO:dQ->List Nat
 | .val _ Δ _=>Δ.map (·.1)
 |_=>[]
def pX:dQ->List Nat
 | .val _ _ rd=>rd
 | .ba _ _ rd=>rd
 |_=>[]
def He(P:Program)(g:FuncId)(ds:List D)(v:V):Prop:=
 gL P g/\∀ (M:Nat->Prop) (w:World) (vals:Array Value),(∀b,M b->b<w.heap.size)->D.aq M w ds vals.toList->
  Calls P g vals w fun e w'=>dJ (fun _=>False) w w'/\∃val,e= .returned val/\∀φ H,V.den M φ H w' v val
theorem He.kQ {P:Program}{g:FuncId}{ds:List D}{v:V}(hr:v.refs=[])(h:fm P g (ds.map .d) (fun _=> .no) 0 (fun v' _ _=>v'=v) (fun _ _ _=>False)):He P g ds v:=by
 refine⟨h.1,fun M w vals hM hd=> ?_⟩
 let bT:Place:=fun _=> .nilFunc
 have ru:∀b, ¬bq bT (hp (fun _=> .no) 0) b:=by rintro b ⟨id,hl,_⟩;simp[hp,aa.live]at hl
 refine(h.2 M bT w vals (jZ bT hM) ((V.bP _ _).2 (D.az (w:=w) (w':=w) (B:=M) (fun b _ hB=>⟨rfl,fun h=>h.elim hB (ru b)⟩) _ _ hd))).mono ?_
 rintro e w' ⟨aj,o',nx',v',k1,k2,k3⟩
 refine⟨⟨k2.bO.os,k2.bO.tape,k2.bO.output,k2.bO.size,fun k hk _=>k2.bO.block k hk (ru k)⟩, ?_⟩
 cases e with
 |outgrown=>exact k3.elim
 |panicked ch=>obtain⟨_,_,_,h⟩:=k3;exact h.elim
 |returned val=>
  obtain⟨g1,rfl⟩:=k3
  exact⟨val,rfl,fun φ H=>V.ik (B:=ad M aj (hp o' nx')) (φ:=aj) (H:=hp o' nx') (fun b hb hm=>hb (.inl hm)) v' val (fun id ag=>by rw[hr]at ag;cases ag) g1⟩
def qq(P:Program)(s:S)(fr:Nat)(op:Op)(v:V)(Δ:List (Nat×aa))(rd:List Nat):Prop:=
 ((∃qp,eF P s fr op=some (v,Δ,qp))/\rd=fL s op)\/
 (∃c f g first cap,op= .call c/\c.callee= .value f/\s.ev f= .func (.func g) first cap/\
  ((∃ds rs,bA s.o (first++c.args.toList.map s.ev++cap)=some ds/\bU P g ds (.ret rs)/\v=fY rs/\rd=fL s op/\
    (Δ=cg s.o (V.aQ (first++c.args.toList.map s.ev++cap))\/D.fX rs=true/\Δ=[]))\/
   (∃rs,zx P g (first++c.args.toList.map s.ev++cap) rd s.o (.ret rs) Δ/\v=fY rs/\∀id∈rd,id<s.nx)\/
   (∃ds,bA s.o (first++c.args.toList.map s.ev++cap)=some ds/\He P g ds v/\rd=fL s op/\Δ=cg s.o (V.aQ (first++c.args.toList.map s.ev++cap)))\/
   (vk P g (first++c.args.toList.map s.ev++cap) rd s.o fr v Δ/\∀id∈rd,id<s.nx)))
def tu(P:Program)(s:S)(op:Op)(v:V)(ws rd:List Nat):Prop:=
 ∃c f g first cap,op= .call c/\c.callee= .value f/\s.ev f= .func (.func g) first cap/\
  ((∃ds x,bA s.o (first++c.args.toList.map s.ev++cap)=some ds/\bU P g ds (.ba x)/\x.flat=true/\v= .d x/\rd=fL s op/\ws=[])\/
   (∃x Δ,zx P g (first++c.args.toList.map s.ev++cap) rd s.o (.ba x) Δ/\v= .d x/\ws=Δ.map (·.1)/\∀id∈rd,id<s.nx))
def cz(s:S)(gd:Option (Nat×Bool))(b:Bool):Prop:=
 match gd with
 |none=>b=true
 |some (d,want)=>match s.env d with
  | .d (.bool c)=>b=(c==want)
  | .bM []=>b=false
  |_=>False
def CZ(P:Program)(s:S)(fr:Nat)(o:bE)(x:dQ):Prop:=
 match x with
 | .skip=>cz s o.gd false
 | .val v Δ rd=>cz s o.gd true/\qq P s fr o.op v Δ rd
 | .ba v ws rd=>cz s o.gd true/\tu P s o.op v ws rd
 | .dA=>True
def dy(oc:Nat->bE)(ac:Nat->dQ)(E:Nat->Bool)(s:S):Nat->S
 |0=>s
 |k+1=>if E k then pN (oc k).dst (ac k) (dy oc ac E s k)else dy oc ac E s k
structure Compat (oc:Nat->bE) (ac:Nat->dQ) (R:Nat->List Nat) (i j:Nat):Prop where
 di:∀d,(oc i).dst=some d->d∉dH (oc j)
 dj:∀d,(oc j).dst=some d->d∉dH (oc i)
 wi:∀id∈gO (ac i),id∉R j/\id∉gO (ac j)
 wj:∀id∈gO (ac j),id∉R i
section
variable {P:Program}{oc:Nat->bE}{ac:Nat->dQ}{s:S}{n:Nat}{E:Nat->Bool}{R:Nat->List Nat}{pr:Nat->Nat->Prop}
theorem vm{env:Nat->V}{dst:Option Tmp}{v:V}{t:Nat}(h:∀d,dst=some d->d≠t):aN env dst v t=env t:=by
 cases dst with
 |none=>rfl
 |some d=>simp only[aN,aC];rw[if_neg (fun e=>h d rfl e.symm)]
theorem eC{o:Nat->aa}:∀ {Δ:List (Nat×aa)} {id:Nat},id∉Δ.map (·.1)->put o Δ id=o id
 |[],_,_=>rfl
 |x::Δ,id,h=>by
  simp only[List.map_cons,List.mem_cons,not_or]at h
  have:=eC (o:=aV o x.1 x.2) (Δ:=Δ) h.2
  simp only[put,List.foldl_cons]at this|-
  rw[this];simp[h.1]
theorem rI{o o':Nat->aa}:∀ {Δ:List (Nat×aa)} {id:Nat},id∈Δ.map (·.1)\/o id=o' id->put o Δ id=put o' Δ id
 |[],_,h=>by rcases h with h|h;· simp at h
             ·exact h
 |x::Δ,id,h=>by
  simp only[put,List.foldl_cons]
  refine rI (Δ:=Δ) (o:=aV o x.1 x.2) (o':=aV o' x.1 x.2) ?_
  simp only[List.map_cons,List.mem_cons]at h
  simp only[aC]
  by_cases e:id=x.1
  ·right;simp[e]
  ·rcases h with(h|h)|h
   ·exact absurd h e
   ·exact .inl h
   ·right;simp[e,h]
theorem gP{dst:Option Tmp}{x:dQ}{t:Nat}(h:∀d,dst=some d->d≠t):(pN dst x s).env t=s.env t:=by
 cases x<;>exact vm h
theorem jA{dst:Option Tmp}{x:dQ}{id:Nat}(h:id∉gO x):(pN dst x s).o id=s.o id:=by
 cases x with
 |val v Δ rd=>exact eC h
 |_=>rfl
theorem rJ{dst:Option Tmp}{x:dQ}{s':S}{t:Nat}(h:s.env t=s'.env t):(pN dst x s).env t=(pN dst x s').env t:=by
 cases x<;>cases dst<;>simp only[pN,aN,aC]<;>first|exact h|(split<;>first|rfl|exact h)
theorem vn{dst:Option Tmp}{x:dQ}{s':S}{id:Nat}(h:s.o id=s'.o id):(pN dst x s).o id=(pN dst x s').o id:=by
 cases x with
 |val v Δ rd=>exact rI (.inr h)
 |_=>exact h
theorem put_comm{o:Nat->aa}{Δ wu:List (Nat×aa)}(h:∀id∈Δ.map (·.1),id∉wu.map (·.1)):put (put o Δ) wu=put (put o wu) Δ:=by
 funext id
 by_cases h1:id∈Δ.map (·.1)
 ·rw[eC (h id h1)]
  exact rI (.inl h1)
 ·rw[eC (Δ:=Δ) h1]
  by_cases h2:id∈wu.map (·.1)
  ·exact rI (.inl h2)
  ·rw[eC h2,eC h2,eC h1]
theorem qs{env:Nat->V}{d d':Option Tmp}{v v':V}(h:∀t,d=some t->d'≠some t):aN (aN env d v) d' v'=aN (aN env d' v') d v:=by
 cases d with
 |none=>rfl
 |some t=>
  cases d' with
  |none=>rfl
  |some t'=>
   have eV:t'≠t:=fun e=>h t rfl (by rw[e])
   funext i
   simp only[aN,aC]
   by_cases e1:i=t<;>by_cases e2:i=t'
   ·exact absurd (e2.symm.trans e1) eV
   all_goals simp[e1,e2]
   ·intro e;exact absurd e.symm eV
   ·intro e;exact absurd e eV
theorem zy{d d':Option Tmp}{x x':dQ}(hd:∀t,d=some t->d'≠some t)(hw:∀id∈gO x,id∉gO x'):pN d x (pN d' x' s)=pN d' x' (pN d x s):=by
 cases x<;>cases x'<;>simp only[pN]<;>first
  |rw[qs hd,put_comm hw]
  |rw[qs hd]
def rK(n:Nat)(pr:Nat->Nat->Prop)(E:Nat->Bool):Prop:=∀k,k<n->E k=true->∀j,pr k j->E j=true
theorem C0(_:∀k,k<n->∀j,pr k j->j<k)(hc:∀i j,i<j->j<n-> ¬pr j i->Compat oc ac R i j)(hE:rK n pr E){i:Nat}(hi:i<n)(ji:E i=false)(zA:∀j,pr i j->E j=true):
 (∀t∈dH (oc i),(dy oc ac E s n).env t=(dy oc ac (fun _=>true) s i).env t)/\(∀id∈R i,(dy oc ac E s n).o id=(dy oc ac (fun _=>true) s i).o id):=by
 have a:∀k,k<=i->(∀t∈dH (oc i),(dy oc ac E s k).env t=(dy oc ac (fun _=>true) s k).env t)/\(∀id∈R i,(dy oc ac E s k).o id=(dy oc ac (fun _=>true) s k).o id):=by
  intro k
  induction k with
  |zero=>intro _;exact⟨fun _ _=>rfl,fun _ _=>rfl⟩
  |succ k ih=>
   intro hk
   obtain⟨h1,h2⟩:=ih (by omega)
   simp only[dy,if_true]
   by_cases eO:E k=true
   ·simp only[eO,if_true]
    exact⟨fun t ht=>rJ (h1 t ht),fun id ag=>vn (h2 id ag)⟩
   ·have CK: ¬pr i k:=fun hm=>eO (zA k hm)
    have c:=hc k i (by omega) hi CK
    simp only[eO]
    refine⟨fun t ht=> ?_,fun id ag=> ?_⟩
    ·rw[gP fun d hd e=>c.di d hd (e ▸ ht)];exact h1 t ht
    ·rw[jA fun hm=>(c.wi id hm).1 ag];exact h2 id ag
 have b:∀k,i<=k->k<=n->(∀t∈dH (oc i),(dy oc ac E s k).env t=(dy oc ac (fun _=>true) s i).env t)/\(∀id∈R i,(dy oc ac E s k).o id=(dy oc ac (fun _=>true) s i).o id):=by
  intro k Bw
  induction Bw with
  |refl=>intro _;exact a i (Nat.le_refl _)
  | @step k Bw ih=>
    intro hk
    have Bw:i<=k:=Bw
    obtain⟨h1,h2⟩:=ih (by omega)
    simp only[dy]
    by_cases eO:E k=true
    ·have eV:i≠k:=fun e=>by rw[e,eO]at ji;cases ji
     have CK: ¬pr k i:=fun hm=>by have:=hE k (by omega) eO i hm;rw[ji]at this;cases this
     have c:=hc i k (by omega) (by omega) CK
     simp only[eO,if_true]
     refine⟨fun t ht=> ?_,fun id ag=> ?_⟩
     ·rw[gP fun d hd e=>c.dj d hd (e ▸ ht)];exact h1 t ht
     ·rw[jA fun hm=>c.wj id hm ag];exact h2 id ag
    ·simp only[eO];exact⟨h1,h2⟩
 exact b n (by omega) (Nat.le_refl _)
theorem insert(hc:∀i j,i<j->j<n-> ¬pr j i->Compat oc ac R i j)(hE:rK n pr E){i:Nat}(hi:i<n)(ji:E i=false){E':Nat->Bool}(vo:∀k,E' k=(E k||k==i)):
 dy oc ac E' s n=pN (oc i).dst (ac i) (dy oc ac E s n):=by
 have a:∀k,k<=i->dy oc ac E' s k=dy oc ac E s k:=by
  intro k
  induction k with
  |zero=>intro _;rfl
  |succ k ih=>
   intro hk
   have:E' k=E k:=by rw[vo k];have:(k==i)=false:=by simp;omega
                     simp[this]
   simp only[dy,this,ih (by omega)]
 have b:∀k,i+1<=k->k<=n->dy oc ac E' s k=pN (oc i).dst (ac i) (dy oc ac E s k):=by
  intro k Bw
  induction Bw with
  |refl=>
   intro _
   have h1:E' i=true:=by rw[vo i];simp
   simp only[dy,h1,ji,if_true,a i (Nat.le_refl _)]
   rfl
  | @step k Bw ih=>
    intro hk
    have Bw:i+1<=k:=Bw
    have h1:E' k=E k:=by rw[vo k];have:(k==i)=false:=by simp;omega
                         simp[this]
    simp only[dy,h1,ih (by omega)]
    by_cases eO:E k=true
    ·have CK: ¬pr k i:=fun hm=>by have:=hE k (by omega) eO i hm;rw[ji]at this;cases this
     have c:=hc i k (by omega) (by omega) CK
     simp only[eO,if_true]
     refine zy (fun t ht he=> ?_) (fun id ag hm=>(c.wi id hm).2 ag)
     exact c.di t he (by simp[dH,ht])
    ·simp only[eO];rfl
 exact b n (by omega) (Nat.le_refl _)
end
end Go.Proofs.YtpkobkdgcanmjaaGreat
namespace Go.Proofs.YtpkobkdgcanmjaaGreat
structure nG (M:Nat->Prop) (bT:Place) (H0:Hp) (w0:World) (n:Nat) (cx:Cx) (φ:Place) (s:S) (us:Nat->Prop) (a:Act) (w:World):Prop where
 heap:ai M φ ⟨s.o,us⟩ w
 tr:Trans bT H0 w0 φ ⟨s.o,us⟩ w
 size:a.tmps.size=n
 defers:oA cx w0 φ ⟨s.o,us⟩ w a.defers
 env:∀i,V.den (ad M φ ⟨s.o,us⟩) φ ⟨s.o,us⟩ w (s.env i) (a.tmps.getD i undef)
section
variable {P:Program}{M:Nat->Prop}{φ bT:Place}{H0:Hp}{w w' w0:World}{n:Nat}{s:S}{us:Nat->Prop}{a:Act}{cx:Cx}{ro:Option Nat}{k:Nat}
variable {next:Act->World->Prop}{Q:Exit->Act->World->Prop}
theorem fh(hs:nG M bT H0 w0 n cx φ s us a w){aj:Place}{H':Hp}(hH:ai M aj H' w')(ht:Trans φ ⟨s.o,us⟩ w aj H' w'){v:V}{val:Value}(hd:V.den (ad M aj H') aj H' w' v val){dst:Option Tmp}(b7:eJ n dst)
 {o':Nat->aa} {us':Nat->Prop} (ho:H'.o=o') (hu:∀id,H'.us id->us' id):nG M bT H0 w0 n cx aj ⟨aN s.env dst v,o',s.nx⟩ us' (a.put dst val) w':=by
 obtain⟨k1,k2⟩:=fD hH hu
 subst ho
 refine⟨k1,hs.tr.trans (ht.trans k2), ?_, ?_,fun i=> ?_⟩
 ·cases dst<;>simp[Act.put,hs.size]
 ·have:=hs.defers.mono (ht.trans k2);cases dst<;>exact this
 ·cases dst with
  |none=>exact V.au (ht.trans k2) _ _ (hs.env i)
  |some d=>
   simp only[eJ]at b7
   simp only[aN,aC,Act.put]
   by_cases hi:i=d
   ·subst hi
    have h1:(a.tmps.setIfInBounds i val).getD i undef=val:=by simp[Array.getD,hs.size,b7]
    rw[if_pos rfl,h1]
    exact V.au k2 _ _ hd
   ·have h1:(a.tmps.setIfInBounds d val).getD i undef=a.tmps.getD i undef:=by
     simp only[Array.getD_eq_getD_getElem?]
     rw[Array.getElem?_setIfInBounds_ne (Ne.symm hi)]
    rw[if_neg hi,h1]
    exact V.au (ht.trans k2) _ _ (hs.env i)
theorem qt(hs:nG M bT H0 w0 n cx φ s us a w){o:Oper}{op:Op}(cO:o.op=op){c:Call}{f:Operand}{g:FuncId}{first cap:List V}(hc:op= .call c)(da:c.callee= .value f)(oB:s.ev f= .func (.func g) first cap):
 ∃vals:Array Value,V.aq (ad M φ ⟨s.o,us⟩) φ ⟨s.o,us⟩ w (first++c.args.toList.map s.ev++cap) vals.toList/\(gL P g->(execOp a.eval o).run P w= .ok (.enter g vals) w):=by
 have hf:=jm (M:=M) (φ:=φ) (H:=⟨s.o,us⟩) (w:=w) s a hs.env f
 have dg:=gx (M:=M) (φ:=φ) (H:=⟨s.o,us⟩) (w:=w) s a hs.env c.args.toList
 rw[oB]at hf
 obtain⟨fa,ca,DO,uO,G5⟩:=hf
 refine⟨fa++c.args.map a.eval++ca, ?_,fun he=> ?_⟩
 ·rw[Array.toList_append,Array.toList_append,Array.toList_map]
  exact V.iQ uO dg G5
 ·have:=ig (w:=w) he (fa++c.args.map a.eval++ca)
  generalize jb:fa++c.args.map a.eval++ca=vals at this
  simp[execOp,cO,hc,resolve,da,DO,Deferred.ofValue,invoke,this,jb]
theorem tv(hs:nG M bT H0 w0 n cx φ s us a w){fr:Nat}(cZ: ¬us fr)(pM:∀id,id<s.nx->us id){o:Oper}{op:Op}(cO:o.op=op)(b7:eJ n o.dst){v:V}{Δ:List (Nat×aa)}{rd:List Nat}(h:qq P s fr op v Δ rd)
 (hN:∀aj a' w',nG M bT H0 w0 n cx aj (pN o.dst (.val v Δ rd) s) (fun id=>us id\/id=fr) a' w'->next a' w'):o.wpIn (cV ro) k P a w next Q:=by
 rcases h with⟨⟨qp,h⟩,_⟩|⟨c,f,g,first,cap,hc,da,oB,h⟩
 ·have h1:=tn (K:=fun v' wu _=>v'=v/\wu=Δ) h ⟨rfl,rfl⟩
  obtain⟨nx,val,w',aj,v',wu,qp,⟨rfl,rfl⟩,hr,Ob,g1,g2,g3,g4⟩:=qi hs.heap (s:=s) rfl hs.env cZ cO h1
  have rk:=fh hs g1 g2 g3 b7 (o':=put s.o wu) (us':=fun id=>us id\/id=fr) rfl (fun id hu=>hu.elim .inl (g4 id))
  refine gC (fun c hc=>by rw[cO]at hc;subst hc;exact h1) ?_
  rw[hr]
  rcases Ob with rfl|⟨rfl,rfl⟩
  ·exact hN _ _ _ rk
  ·exact hN _ _ _ rk
 ·refine gC (fun c' xL=>by rw[cO,hc]at xL;cases xL) ?_
  obtain⟨vals,aF,dO⟩:=qt (P:=P) hs cO hc da oB
  generalize first++c.args.toList.map s.ev++cap=all at h aF
  rcases h with⟨ds,rs,dB,hP,rfl,_,DW⟩|⟨rs,hH,rfl,kn⟩|⟨ds,dB,hP,_,rfl⟩|⟨hH,kn⟩
  ·obtain⟨f1,f2,f3,f4,f5⟩:=cw hs.heap (V.aQ all) (bQ all _ aF)
   have iL:(⟨s.o,us⟩:Hp).put (cg s.o (V.aQ all))=⟨put s.o (cg s.o (V.aQ all)),us⟩:=hZ (H:=⟨s.o,us⟩) (by rw[jY];exact bQ all _ aF)
   have p9:=cF f1 all ds _ f3 dB (V.az f2 _ _ aF)
   have dG:=hP.2 _ w vals (fun b hb=>hb.elim (f1.pP b) fun hl=>(f1.ours b hl).2) p9
   rw[dO hP.1]
   refine⟨fun hd=>by simp[cV]at hd,cn (dG.mono fun e w' ⟨hk,ho⟩=> ?_)⟩
   cases e with
   |panicked ch=>cases rs with|nil=>exact ho.elim|cons x l=>cases l<;>exact ho.elim
   |outgrown=>cases rs with|nil=>exact ho.elim|cons x l=>cases l<;>exact ho.elim
   |returned val=>
    rcases DW with rfl|⟨lh,rfl⟩
    ·obtain⟨k1,k2⟩:=ew f1 hk
     refine hN _ _ _ (fh hs k1 (f2.trans k2) (ij ho) b7 (by rw[iL]) fun id hu=> ?_)
     rw[iL]at hu;exact .inl hu
    ·obtain⟨k1,k2⟩:=ew hs.heap hk
     have ho:=R.rl (out:= .ret rs) (B':=ad M φ ⟨s.o,us⟩) lh ho
     exact hN _ _ _ (fh hs k1 k2 (ij ho) b7 rfl fun id hu=> .inl hu)
  ·have dG:=hH.2 s.o us M φ w vals (fun id ag=>⟨rfl,pM id (kn id ag)⟩) hs.heap aF
   rw[dO hH.1]
   refine⟨fun hd=>by simp[cV]at hd,cn (dG.mono fun e w' ⟨aj,k1,k2,ho⟩=> ?_)⟩
   cases e with
   |panicked ch=>cases rs with|nil=>exact ho.elim|cons x l=>cases l<;>exact ho.elim
   |outgrown=>cases rs with|nil=>exact ho.elim|cons x l=>cases l<;>exact ho.elim
   |returned val=>exact hN _ _ _ (fh hs k1 k2 (ij ho) b7 rfl fun id hu=> .inl hu)
  ·obtain⟨f1,f2,f3,f4,f5⟩:=cw hs.heap (V.aQ all) (bQ all _ aF)
   have iL:(⟨s.o,us⟩:Hp).put (cg s.o (V.aQ all))=⟨put s.o (cg s.o (V.aQ all)),us⟩:=hZ (H:=⟨s.o,us⟩) (by rw[jY];exact bQ all _ aF)
   have p9:=cF f1 all ds _ f3 dB (V.az f2 _ _ aF)
   have dG:=hP.2 _ w vals (fun b hb=>hb.elim (f1.pP b) fun hl=>(f1.ours b hl).2) p9
   rw[dO hP.1]
   refine⟨fun hd=>by simp[cV]at hd,cn (dG.mono fun e w' ⟨hk,val,he,ho⟩=> ?_)⟩
   subst he
   obtain⟨k1,k2⟩:=ew f1 hk
   refine hN _ _ _ (fh hs k1 (f2.trans k2) (ho _ _) b7 (by rw[iL]) fun id hu=> ?_)
   rw[iL]at hu;exact .inl hu
  ·have dG:=hH.2 s.o us M φ w vals (fun id ag=>⟨rfl,pM id (kn id ag)⟩) cZ hs.heap aF
   rw[dO hH.1]
   refine⟨fun hd=>by simp[cV]at hd,cn (dG.mono fun e w' ⟨aj,k1,k2,val,he,ho⟩=> ?_)⟩
   subst he
   exact hN _ _ _ (fh hs k1 k2 ho b7 rfl fun id hu=>hu)
theorem x4{o o2:Nat->aa}{us us2:Nat->Prop}(hH:ai M φ ⟨o,us⟩ w)(ho:∀id,o2 id=o id\/o2 id= .no)(hu:∀id,us id->us2 id):ai M φ ⟨o2,us2⟩ w/\Trans φ ⟨o,us⟩ w φ ⟨o2,us2⟩ w:=by
 have hl:∀id,(o2 id).live=true->(o id).live=true:=fun id h=>by
  rcases ho id with e|e
  ·rw[<- e];exact h
  ·rw[e]at h;cases h
 have A0:∀b,bq φ ⟨o2,us2⟩ b->bq φ ⟨o,us⟩ b:=fun b ⟨id,h1,h2⟩=>⟨id,hl id h1,h2⟩
 have ht:Trans φ ⟨o,us⟩ w φ ⟨o2,us2⟩ w:=by
  refine⟨dJ.refl _ _,fun b hb=> .inl (A0 b hb),⟨hu,fun id _ hr=> ?_,fun id e' _ he=> ?_⟩⟩
  ·rcases ho id with e|e
   ·exact⟨by show(o id).bd=true;rw[<- e];exact hr,rfl⟩
   ·rw[show(⟨o2,us2⟩:Hp).o id= .no from e]at hr;cases hr
  ·rcases ho id with e|e
   ·exact⟨e',by show(o id).aO=some e';rw[<- e];exact he,Nat.le_refl _,fun _=>rfl⟩
   ·rw[show(⟨o2,us2⟩:Hp).o id= .no from e]at he;cases he
 refine⟨⟨fun id=> ?_,fun id hn=> ?_,fun i j b hi hj=>hH.apart i j b (hl i hi) (hl j hj),fun b hb=>hH.ours b (A0 b hb),hH.pP⟩,ht⟩
 ·rcases ho id with e|e
  ·exact(hH.ok id).mono ht e rfl fun _ _ _=>rfl
  ·unfold aA;rw[show(⟨o2,us2⟩:Hp).o id= .no from e];trivial
 ·rcases ho id with e|e
  ·exact e.trans (hH.fresh id fun h=>hn (hu id h))
  ·exact e
def oN(ds:List Nat)(wl:List Nat)(N:Nat)(s:S):S:=
 ⟨fun t=>if ds.contains t=true then .aw else s.env t,fun id=>if wl.contains id=true then .no else s.o id,s.nx+N⟩
theorem zB(hs:nG M bT H0 w0 n cx φ s us a w)(pM:∀id,id<s.nx->us id){N:Nat}(de:∀id,us id->id<s.nx+N){o:Oper}{op:Op}(cO:o.op=op){v:V}{ws rd:List Nat}(h:tu P s op v ws rd)
 {s0:S} {ds wl:List Nat} (dB:∀t,ds.contains t=false->s.env t=s0.env t) (Oc:∀id,wl.contains id=false->s.o id=s0.o id) (Bx:∀id∈ws,wl.contains id=true) (rr:s0.nx=s.nx)
 (hQ:∀aj w' val,bC M bT H0 w0 n cx aj (oN ds wl N s0) a w'->V.den (ad M aj (oN ds wl N s0).H) aj (oN ds wl N s0).H w' v val->Q (.panic [{v:=val,recovered:=false}]) a w'):o.wpIn (cV ro) k P a w next Q:=by
 obtain⟨c,f,g,first,cap,hc,da,oB,h⟩:=h
 refine gC (fun c' xL=>by rw[cO,hc]at xL;cases xL) ?_
 obtain⟨vals,aF,dO⟩:=qt (P:=P) hs cO hc da oB
 generalize first++c.args.toList.map s.ev++cap=all at h aF
 have fin:∀ (aj:Place) (w':World) (o':Nat->aa) (val:Value),(∀id,wl.contains id=false->o' id=s.o id)->ai M aj ⟨o',us⟩ w'->Trans φ ⟨s.o,us⟩ w aj ⟨o',us⟩ w'->V.den (ad M aj ⟨o',us⟩) aj ⟨o',us⟩ w' v val->Q (.panic [{v:=val,recovered:=false}]) a w':=by
  intro aj w' o' val tf k1 k2 k3
  obtain⟨m1,m2⟩:=x4 (o2:=(oN ds wl N s0).o) (us2:=fun id=>id<s0.nx+N) k1 (fun id=>by
   show(if wl.contains id=true then aa.no else s0.o id)=o' id\/_
   by_cases hw:wl.contains id=true
   ·right;simp only[oN];rw[if_pos hw]
   ·left;rw[if_neg hw,tf id (by simpa using hw),Oc id (by simpa using hw)]) (fun id h=>by rw[rr];exact de id h)
  have ht:=hs.tr.trans (k2.trans m2)
  refine hQ aj w' val ⟨m1,ht,hs.size,hs.defers.mono (k2.trans m2),fun i=> ?_⟩ (V.au m2 _ _ k3)
  show V.den _ _ _ _ (if ds.contains i=true then V.aw else s0.env i) _
  by_cases hd:ds.contains i=true
  ·rw[if_pos hd];trivial
  ·rw[if_neg hd, <- dB i (by simpa using hd)];exact V.au (k2.trans m2) _ _ (hs.env i)
 rcases h with⟨dd,x,Od,hP,lh,rfl,_,rfl⟩|⟨x,Δ,hH,rfl,rfl,kn⟩
 ·obtain⟨f1,f2,f3,f4,f5⟩:=cw hs.heap (V.aQ all) (bQ all _ aF)
  have p9:=cF f1 all dd _ f3 Od (V.az f2 _ _ aF)
  have dG:=hP.2 _ w vals (fun b hb=>hb.elim (f1.pP b) fun hl=>(f1.ours b hl).2) p9
  rw[dO hP.1]
  refine⟨fun hd=>by simp[cV]at hd,cn (dG.mono fun e w' ⟨hk,ho⟩=> ?_)⟩
  cases e with
  |returned val=>exact ho.elim
  |outgrown=>exact ho.elim
  |panicked ch=>
   obtain⟨k1,k2⟩:=ew hs.heap hk
   have ho:=R.rl (out:= .ba x) (B':=ad M φ ⟨s.o,us⟩) lh ho
   obtain⟨val,rfl,hd⟩:=ho
   exact fin φ w' s.o val (fun _ _=>rfl) k1 k2 hd
 ·have dG:=hH.2 s.o us M φ w vals (fun id ag=>⟨rfl,pM id (kn id ag)⟩) hs.heap aF
  rw[dO hH.1]
  refine⟨fun hd=>by simp[cV]at hd,cn (dG.mono fun e w' ⟨aj,k1,k2,ho⟩=> ?_)⟩
  cases e with
  |returned val=>exact ho.elim
  |outgrown=>exact ho.elim
  |panicked ch=>
   obtain⟨val,rfl,hd⟩:=ho
   exact fin aj w' _ val (fun id ag=>rG fun y hy e=>by
    have:=Bx y.1 (List.mem_map_of_mem hy)
    rw[e,ag]at this;cases this) k1 k2 hd
theorem dX(cN:∀i,V.den (ad M φ ⟨s.o,us⟩) φ ⟨s.o,us⟩ w (s.env i) (a.tmps.getD i undef)){ops:Array Oper}{o:Oper}{gd:Option (Nat×Bool)}{b:Bool}
 (hg:match o.guard with|none=>gd=none|some (j,want)=>∃d,mZ ops j=some d/\gd=some (d,want)) (h:cz s gd b):Region.wanted o (yielded ops a.tmps)=b:=by
 unfold Region.wanted
 split at hg
 ·rename_i hn;simp only[hn];subst hg;exact h.symm
 ·rename_i j want hn
  simp only[hn]
  obtain⟨d,hd,rfl⟩:=hg
  unfold mZ at hd
  unfold yielded
  simp only[hd,Option.bind_some]
  simp only[cz]at h
  have he:=cN d
  split at h
  ·rename_i c hv
   rw[hv]at he
   simp only[V.den,D.den]at he
   have:a.tmps[d]? =some (.bool c):=by
    rw[Array.getD_eq_getD_getElem?]at he
    cases hx:a.tmps[d]? with
    |none=>rw[hx]at he;simp[undef]at he
    |some x=>rw[hx]at he;simp at he;rw[he]
   simp only[this,h]
   cases c<;>cases want<;>rfl
  ·rename_i hv
   rw[hv]at he
   obtain⟨arr,bS,hn⟩:=he
   have:∀c,a.tmps[d]? ≠some (.bool c):=by
    intro c hx
    rw[Array.getD_eq_getD_getElem?,hx]at bS
    simp at bS
   subst h
   cases hx:a.tmps[d]? with
   |none=>rfl
   |some x=>cases x<;>first|(exact absurd hx (this _))|rfl
  ·exact h.elim
theorem dY{s s':S}{gd:Option (Nat×Bool)}{b:Bool}(h:∀d want,gd=some (d,want)->s'.env d=s.env d)(hg:cz s gd b):cz s' gd b:=by
 unfold cz at*
 cases gd with
 |none=>exact hg
 |some p=>obtain⟨d,want⟩:=p;simp only at hg|-;rw[h d want rfl];exact hg
theorem tw{s s':S}{x:Operand}(h:∀t,x= .tmp t->s'.env t=s.env t):s'.ev x=s.ev x:=by
 cases x<;>simp only[S.ev]
 exact h _ rfl
theorem oO{s s':S}{op:Op}{c:Call}{f:Operand}{g:FuncId}{first cap:List V}(hv:∀x∈op.operands,s'.ev x=s.ev x)(hc:op= .call c)(da:c.callee= .value f)(oB:s.ev f= .func (.func g) first cap):
 s'.ev f= .func (.func g) first cap/\c.args.toList.map s'.ev=c.args.toList.map s.ev:=by
 subst hc
 exact⟨(hv f (by simp only[Op.operands,Call.operands,da];exact Array.mem_append.2 (.inl (by simp)))).trans oB,
  List.map_congr_left fun x hx=>hv x (by simp only[Op.operands,Call.operands];exact Array.mem_append.2 (.inr (Array.mem_toList_iff.1 hx)))⟩
theorem zx.frame {g:FuncId}{args:List V}{rd:List Nat}{o o':Nat->aa}{out:R}{Δ:List (Nat×aa)}(ho:∀id∈rd,o' id=o id)(h:zx P g args rd o out Δ):zx P g args rd o' out Δ:=
 ⟨h.1,fun o2 us M φ w vals h1 h2 h3=>h.2 o2 us M φ w vals (fun id ag=>⟨(h1 id ag).1.trans (ho id ag),(h1 id ag).2⟩) h2 h3⟩
theorem vk.frame {g:FuncId}{args:List V}{rd:List Nat}{o o':Nat->aa}{fr:Nat}{v:V}{Δ:List (Nat×aa)}(ho:∀id∈rd,o' id=o id)(h:vk P g args rd o fr v Δ):vk P g args rd o' fr v Δ:=
 ⟨h.1,fun o2 us M φ w vals h1 h2 h3=>h.2 o2 us M φ w vals (fun id ag=>⟨(h1 id ag).1.trans (ho id ag),(h1 id ag).2⟩) h2 h3⟩
theorem nm{s s':S}{fr:Nat}{op:Op}{v:V}{Δ:List (Nat×aa)}{rd:List Nat}(hv:∀x∈op.operands,s'.ev x=s.ev x)(ho:∀id∈rd,s'.o id=s.o id)(pM:s'.nx=s.nx)(h:qq P s fr op v Δ rd):∃qp,qq P s' fr op v Δ qp:=by
 rcases h with⟨⟨qp,h⟩,kn⟩|⟨c,f,g,first,cap,rfl,da,oB,h⟩
 ·exact⟨_, .inl ⟨⟨qp,by rw[vj op hv (by rw[<- kn];exact ho)];exact h⟩,rfl⟩⟩
 ·obtain⟨hf,hm⟩:=oO hv rfl da oB
  rcases h with⟨ds,rs,dB,hP,pL,kn,DW⟩|⟨rs,hH,pL,kn⟩|⟨ds,dB,hP,kn,DW⟩|⟨hH,kn⟩
  ·have hr:∀id∈V.ax (first++c.args.toList.map s.ev++cap),s'.o id=s.o id:=fun id ag=>ho id (by rw[kn];simp only[fL,da,oB];exact ag)
   refine⟨_, .inr ⟨c,f,g,first,cap,rfl,da,hf, .inl ⟨ds,rs,by rw[hm,eZ _ hr];exact dB,hP,pL,rfl, ?_⟩⟩⟩
   rw[hm,eB (o:=s.o) fun id ag=>hr id (gf _ id ag)]
   exact DW
  ·exact⟨rd, .inr ⟨c,f,g,first,cap,rfl,da,hf, .inr (.inl ⟨rs,by rw[hm];exact hH.frame ho,pL,by rw[pM];exact kn⟩)⟩⟩
  ·have hr:∀id∈V.ax (first++c.args.toList.map s.ev++cap),s'.o id=s.o id:=fun id ag=>ho id (by rw[kn];simp only[fL,da,oB];exact ag)
   refine⟨_, .inr ⟨c,f,g,first,cap,rfl,da,hf, .inr (.inr (.inl ⟨ds,by rw[hm,eZ _ hr];exact dB,hP,rfl, ?_⟩))⟩⟩
   rw[hm,eB (o:=s.o) fun id ag=>hr id (gf _ id ag)]
   exact DW
  ·exact⟨rd, .inr ⟨c,f,g,first,cap,rfl,da,hf, .inr (.inr (.inr ⟨by rw[hm];exact hH.frame ho,by rw[pM];exact kn⟩))⟩⟩
theorem tx{s s':S}{op:Op}{v:V}{ws rd:List Nat}(hv:∀x∈op.operands,s'.ev x=s.ev x)(ho:∀id∈rd,s'.o id=s.o id)(pM:s'.nx=s.nx)(h:tu P s op v ws rd):tu P s' op v ws rd:=by
 obtain⟨c,f,g,first,cap,rfl,da,oB,h⟩:=h
 obtain⟨hf,hm⟩:=oO hv rfl da oB
 refine⟨c,f,g,first,cap,rfl,da,hf, ?_⟩
 rw[hm]
 rcases h with⟨ds,x,dB,hP,lh,pL,kn,Bx⟩|⟨x,Δ,hH,pL,Bx,kn⟩
 ·have hr:∀id∈V.ax (first++c.args.toList.map s.ev++cap),s'.o id=s.o id:=fun id ag=>ho id (by rw[kn];simp only[fL,da,oB];exact ag)
  exact .inl ⟨ds,x,by rw[eZ _ hr];exact dB,hP,lh,pL,by rw[kn];simp only[fL,da,oB,hf,hm],Bx⟩
 ·exact .inr ⟨x,Δ,hH.frame ho,pL,Bx,by rw[pM];exact kn⟩
theorem oP{ops:Array Oper}:∀ (l:List Oper) (l':List bE) (i:Nat) (o:Oper),gX n ops l=some l'->l[i]? =some o->yK n ops o=some (bp l' i)
 |[],_,_,_,_,h=>by simp at h
 |x::l,l',i,o,h,hi=>by
  simp only[gX]at h
  split at h
  ·rename_i y ys hy S0
   injection h with h;subst h
   cases i with
   |zero=>simp at hi;subst hi;exact hy
   |succ i=>exact oP l ys i o S0 (by simpa using hi)
  ·cases h
theorem qu{ops:Array Oper}{o:Oper}{x:bE}(h:yK n ops o=some x):x.op=o.op/\x.dst=o.dst/\eJ n o.dst/\
 (match o.guard with|none=>x.gd=none|some (j,want)=>∃d,mZ ops j=some d/\x.gd=some (d,want)):=by
 unfold yK at h
 split at h
 ·rename_i hd
  have b7:eJ n o.dst:=by
   unfold uH at hd;unfold eJ
   split at hd<;>simp_all
  cases hg:o.guard with
  |none=>simp only[hg]at h;injection h with h;subst h;exact⟨rfl,rfl,b7,rfl⟩
  |some p=>
   obtain⟨j,want⟩:=p
   simp only[hg]at h
   cases CX:mZ ops j with
   |none=>simp[CX]at h
   |some d=>simp only[CX]at h;injection h with h;subst h;exact⟨rfl,rfl,b7,d,CX,rfl⟩
 ·cases h
theorem kT{ops:Array Oper}{ae:Array Bool}(nO:∀k,k<ops.size->∀j∈aW ops k,j<k)(hs:ae.size=ops.size)(hr:Region.ready .any ops ae=[]):∀k,k<ops.size->ae.getD k false=true:=by
 intro k
 induction k using Nat.strongRecOn with
 |_ k ih=>
  intro hk
  cases hl:ae.getD k false with
  |true=>rfl
  |false=>
   have:k∈Region.ready .any ops ae:=by
    refine mem_ready.2 ⟨?_,ops[k],by simp[hk],fun e he hb=> ?_⟩
    ·simp only[Array.getD_eq_getD_getElem?]at hl|-
     rw[Array.getElem?_eq_getElem (by omega)]at hl|-
     simpa using hl
    ·have hm:e.on∈aW ops k:=by
      simp only[aW,Array.getElem?_eq_getElem hk,List.mem_map,List.mem_filter]
      exact⟨e,⟨Array.mem_toList_iff.2 he,hb⟩,rfl⟩
     exact ih _ (nO k hk _ hm) (by have:=nO k hk _ hm;omega)
   rw[hr]at this;cases this
theorem tz(hs:bC M bT H0 w0 n cx φ s a w):bC M bT H0 w0 n cx φ s a {w with drawn:=w.drawn+1}:=by
 obtain⟨k1,k2⟩:=ew (w':={w with drawn:=w.drawn+1}) hs.heap ⟨rfl,rfl,rfl,Nat.le_refl _,fun _ _ _=>rfl⟩
 exact⟨k1,hs.tr.trans k2,hs.size,hs.defers.mono k2,fun i=>V.au k2 _ _ (hs.env i)⟩
theorem gh{oc:Nat->bE}{ac:Nat->dQ}{E:Nat->Bool}:∀k,(dy oc ac E s k).nx=s.nx
 |0=>rfl
 |k+1=>by
  simp only[dy]
  split
  ·cases ac k<;>exact gh k
  ·exact gh k
theorem wv{oc:Nat->bE}{ac:Nat->dQ}{E:Nat->Bool}{t:Nat}:∀k,(∀j,j<k->(oc j).dst≠some t)->(dy oc ac E s k).env t=s.env t
 |0,_=>rfl
 |k+1,h=>by
  have ih:=wv (oc:=oc) (ac:=ac) (E:=E) (t:=t) k fun j hj=>h j (by omega)
  simp only[dy]
  split
  ·rw[gP fun d hd e=>h k (by omega) (by rw[hd,e])];exact ih
  ·exact ih
theorem C1{oc:Nat->bE}{ac:Nat->dQ}{E:Nat->Bool}{id:Nat}:∀k,(∀j,j<k->id∉gO (ac j))->(dy oc ac E s k).o id=s.o id
 |0,_=>rfl
 |k+1,h=>by
  have ih:=C1 (oc:=oc) (ac:=ac) (E:=E) (id:=id) k fun j hj=>h j (by omega)
  simp only[dy]
  split
  ·rw[jA (h k (by omega))];exact ih
  ·exact ih
theorem tA(aR:P.follows .mixedOrders=true){ops:Array Oper}{l:List bE}{id:Nat}(ko:gX n ops ops.toList=some l)(nO:∀k,k<ops.size->∀j∈aW ops k,j<k){ac:Nat->dQ}{dl wl:List Nat}
 (hs:bC M bT H0 w0 n cx φ s a w) (DX:∀i,i<ops.size->CZ P (dy (bp l) ac (fun _=>true) s i) (s.nx+i) (bp l i) (ac i))
 (DY:∀i,i<ops.size->ac i= .dA->∃j∈aW ops i,(ac j).ok=false)
 {po:Nat->Nat->Prop} (wx:∀E:Nat->Bool,(∀k,k<ops.size->E k=true->∀j∈aW ops k,E j=true)->∀k,k<ops.size->(∀j∈aW ops k,E j=true)->∀j,po k j->E j=true) (tC:∀k,k<ops.size->∀j,po k j->j<k)
 (hc:∀i j,i<j->j<ops.size-> ¬po j i->Compat (bp l) ac (fun i=>pX (ac i)) i j)
 (NB:∀i,i<ops.size->∀t,(bp l i).dst=some t->dl.contains t=true) (Oc:∀i,i<ops.size->∀id∈gO (ac i),wl.contains id=true)
 (Bx:∀i v ws rd,i<ops.size->ac i= .ba v ws rd->∀id∈ws,wl.contains id=true)
 (hQ:(∀i,i<ops.size->(ac i).ok=true)->∀φ a w,bC M bT H0 w0 n cx φ ⟨(dy (bp l) ac (fun _=>true) s ops.size).env,(dy (bp l) ac (fun _=>true) s ops.size).o,s.nx+ops.size⟩ a w->Q .normal a w)
 (hX:∀i v ws rd,i<ops.size->ac i= .ba v ws rd->∀φ a w val,bC M bT H0 w0 n cx φ (oN dl wl ops.size s) a w->V.den (ad M φ (oN dl wl ops.size s).H) φ (oN dl wl ops.size s).H w v val->Q (.panic [{v:=val,recovered:=false}]) a w):
 (Code.region id ops true).wpIn (cV ro) k P Q a w:=by
 refine wpIn_region_any aR ?_
 have hs:=tz hs
 generalize ({w with drawn:=w.drawn+1}:World)=w at hs
 let N:=ops.size
 let Ef (ae:Array Bool) (k:Nat):Bool:=ae.getD k false
 let vq (ae:Array Bool) (j:Nat):Prop:=j<s.nx\/∃k,k<N/\Ef ae k=true/\j=s.nx+k
 have key:∀ (fuel:Nat) (ae:Array Bool) (φ:Place) (a:Act) (w:World),ae.size=N->ae.count true+fuel=N->(∀k,k<N->Ef ae k=true->∀j∈aW ops k,Ef ae j=true)->(∀k,k<N->Ef ae k=true->(ac k).ok=true)->
  nG M bT H0 w0 n cx φ (dy (bp l) ac (Ef ae) s N) (vq ae) a w->wpAnyIn (cV ro) k P .any ops Q fuel ae a w:=by
  have fin:∀ (ae:Array Bool) (φ:Place) (a:Act) (w:World),(∀k,k<N->Ef ae k=true)->(∀k,k<N->Ef ae k=true->(ac k).ok=true)->nG M bT H0 w0 n cx φ (dy (bp l) ac (Ef ae) s N) (vq ae) a w->Q .normal a w:=by
   intro ae φ a w aF vr hu
   have e:∀k,k<=N->dy (bp l) ac (Ef ae) s k=dy (bp l) ac (fun _=>true) s k:=by
    intro k
    induction k with
    |zero=>intro _;rfl
    |succ k ih=>intro hk;simp only[dy,aF k (by omega),ih (by omega)]
   rw[e N (Nat.le_refl _)]at hu
   obtain⟨k1,k2⟩:=fD (us':=fun id=>id<s.nx+N) hu.heap (fun id h=>by
    show id<s.nx+N
    rcases h with h|⟨k,hk,_,rfl⟩<;>omega)
   exact hQ (fun i hi=>vr i hi (aF i hi)) φ a w ⟨k1,hu.tr.trans k2,hu.size,hu.defers.mono k2,fun i=>V.au k2 _ _ (hu.env i)⟩
  intro fuel
  induction fuel with
  |zero=>
   intro ae φ a w dv x5 nB vr hu
   have aF:∀k,k<N->Ef ae k=true:=by
    intro k hk
    have h1:ae.count true=ae.size:=by omega
    rw[Array.count_eq_size]at h1
    have:=h1 ae[k] (Array.getElem_mem (by omega))
    simp only[Ef,Array.getD_eq_getD_getElem?]
    rw[Array.getElem?_eq_getElem (by omega)]
    simpa using this.symm
   refine⟨?_,fin ae φ a w aF vr hu⟩
   rw[List.eq_nil_iff_forall_not_mem]
   intro k hk
   obtain⟨h1,o,h2,_⟩:=mem_ready.1 hk
   have S1:k<N:=(Array.getElem?_eq_some_iff.1 h2).1
   have:=aF k S1
   simp only[Ef,Array.getD_eq_getD_getElem?]at this h1
   rw[Array.getElem?_eq_getElem (by omega)]at this h1
   simp only[Option.getD_some]at this h1
   rw[this]at h1;cases h1
  |succ fuel ih=>
   intro ae φ a w dv x5 nB vr hu
   refine⟨fun hr=>fin ae φ a w (kT nO dv hr) vr hu,fun i hi=> ?_⟩
   obtain⟨h1,o,h2,h3⟩:=mem_ready.1 hi
   have nH:i<N:=(Array.getElem?_eq_some_iff.1 h2).1
   have ji:Ef ae i=false:=by
    simp only[Ef,Array.getD_eq_getD_getElem?]at h1|-
    rw[Array.getElem?_eq_getElem (by omega)]at h1|-
    simpa using h1
   have zA:∀j∈aW ops i,Ef ae j=true:=by
    intro j hj
    simp only[aW,h2,List.mem_map,List.mem_filter]at hj
    obtain⟨e,⟨he,hb⟩,rfl⟩:=hj
    exact h3 e (Array.mem_toList_iff.1 he) hb
   have zC:rK N po (Ef ae):=fun k hk eO=>wx _ nB k hk (nB k hk eO)
   obtain⟨Hf,MZ⟩:=C0 (s:=s) tC hc zC nH ji (wx _ nB i nH zA)
   obtain⟨g1,g2,g3,g4⟩:=qu (oP _ _ i o ko (by simpa using h2))
   have cZ: ¬vq ae (s.nx+i):=by
    rintro(h|⟨k,_,hk,he⟩)
    ·omega
    ·have:k=i:=by omega
     subst this;rw[ji]at hk;cases hk
   have vo:∀k,Ef (ae.setIfInBounds i true) k=(Ef ae k||k==i):=by
    intro k
    simp only[Ef,Array.getD_eq_getD_getElem?]
    by_cases e:k=i
    ·subst e;simp[dv,nH]
    ·rw[Array.getElem?_setIfInBounds_ne (Ne.symm e)]
     have:(k==i)=false:=by simpa using e
     simp[this]
   have DZ:=insert (s:=s) hc zC nH ji vo
   have D0:∀k,k<N->Ef (ae.setIfInBounds i true) k=true->∀j∈aW ops k,Ef (ae.setIfInBounds i true) j=true:=by
    intro k hk eO j hj
    rw[vo]at eO|-
    by_cases e:k=i
    ·subst e;simp[zA j hj]
    ·have:(k==i)=false:=by simpa using e
     rw[this,Bool.or_false]at eO
     simp[nB k hk eO j hj]
   have zD:(ae.setIfInBounds i true).count true+fuel=N:=by
    have br:i<ae.size:=by omega
    have e1:ae.setIfInBounds i true=ae.set i true br:=by simp[Array.setIfInBounds,br]
    have e2:ae[i]=false:=by
     have:=ji
     simp only[Ef,Array.getD_eq_getD_getElem?]at this
     rw[Array.getElem?_eq_getElem br]at this
     simpa using this
    rw[e1,Array.count_set br,e2]
    simp
    omega
   have jc:(ac i).ok=true->∀aj a' w',nG M bT H0 w0 n cx aj (pN o.dst (ac i) (dy (bp l) ac (Ef ae) s N)) (fun id=>vq ae id\/id=s.nx+i) a' w'->wpAnyIn (cV ro) k P .any ops Q fuel (ae.setIfInBounds i true) a' w':=by
    intro Hg aj a' w' qY
    refine ih _ aj a' w' (by simp[dv]) zD D0 (fun k hk eO=> ?_) ?_
    ·rw[vo]at eO
     by_cases e:k=i
     ·subst e;exact Hg
     ·have:(k==i)=false:=by simpa using e
      rw[this,Bool.or_false]at eO
      exact vr k hk eO
    rw[DZ,g2]
    obtain⟨k1,k2⟩:=fD (us':=vq (ae.setIfInBounds i true)) qY.heap (fun id h=>by
     rcases h with(h|⟨k,hk,eO,rfl⟩)|rfl
     ·exact .inl h
     ·exact .inr ⟨k,hk,by rw[vo,eO];rfl,rfl⟩
     ·exact .inr ⟨i,nH,by rw[vo];simp,rfl⟩)
    exact⟨k1,qY.tr.trans k2,qY.size,qY.defers.mono k2,fun j=>V.au k2 _ _ (qY.env j)⟩
   have x6:∀d want,(bp l i).gd=some (d,want)->(dy (bp l) ac (Ef ae) s N).env d=(dy (bp l) ac (fun _=>true) s i).env d:=fun d want hd=>Hf d (by simp[dH,tmpsOf,hd])
   have a8:=DX i nH
   have x7:∀x∈(bp l i).op.operands,(dy (bp l) ac (Ef ae) s N).ev x=(dy (bp l) ac (fun _=>true) s i).ev x:=fun x hx=>tw fun t ht=>Hf t (by
    subst ht
    simp only[dH,tmpsOf,List.mem_append,List.mem_filterMap]
    exact .inl (.inl ⟨.tmp t,Array.mem_toList_iff.2 hx,rfl⟩))
   have Bz:(dy (bp l) ac (Ef ae) s N).nx=(dy (bp l) ac (fun _=>true) s i).nx:=(gh N).trans (gh i).symm
   unfold wpOpIn
   simp only[h2]
   cases nI:ac i with
   |skip=>
    rw[nI]at a8 jc
    have hw:=dX hu.env g4 (dY x6 a8)
    simp only[hw,Bool.false_eq_true,if_false]
    refine⟨fun _ _=>trivial,jc rfl φ _ w ?_⟩
    have:=fh (v:= .bM []) (val:=undef) hu hu.heap (Trans.refl _ _ _) ⟨#[],rfl,rfl⟩ (dst:=o.dst) g3 rfl (us':=fun id=>vq ae id\/id=s.nx+i) (fun id h=> .inl h)
    exact this
   |val v Δ rd=>
    rw[nI]at a8 jc
    have hw:=dX hu.env g4 (dY x6 a8.1)
    simp only[hw,if_true]
    obtain⟨qp,lj⟩:=nm x7 (fun id ag=>MZ id (by rw[nI];exact ag)) Bz a8.2
    exact tv hu cZ (fun id h=> .inl (by rw[gh]at h;exact h)) g1.symm g3 lj (jc rfl)
   |ba v ws rd=>
    rw[nI]at a8
    have hw:=dX hu.env g4 (dY x6 a8.1)
    simp only[hw,if_true]
    have lj:=tx x7 (fun id ag=>MZ id (by rw[nI];exact ag)) Bz a8.2
    refine zB (s0:=s) (ds:=dl) (wl:=wl) (N:=N) hu (fun id h=> .inl (by rw[gh]at h;exact h)) (fun id h=> ?_) g1.symm lj (fun t ht=> ?_) (fun id ag=> ?_) (Bx i v ws rd nH nI) (gh N).symm (fun aj w' val h1 h2=>hX i v ws rd nH nI aj a w' val h1 h2)
    ·rw[gh]
     rcases h with h|⟨k,hk,_,rfl⟩<;>omega
    ·refine wv N fun j hj e=> ?_
     have:=NB j hj t e
     rw[ht]at this;cases this
    ·refine C1 N fun j hj hm=> ?_
     have:=Oc j hj id hm
     rw[ag]at this;cases this
   |dA=>
    exfalso
    obtain⟨j,hj,D1⟩:=DY i nH nI
    have:=vr j (Nat.lt_trans (nO i nH j hj) nH) (zA j hj)
    rw[D1]at this;cases this
 refine key ops.size _ φ a w (by simp[N]) (by simp[N,Array.count_replicate]) (fun k hk eO=> ?_) (fun k hk eO=> ?_) ?_
 ·simp[Ef,Array.getD_eq_getD_getElem?,Array.getElem?_replicate]at eO
  split at eO<;>simp at eO
 ·simp[Ef,Array.getD_eq_getD_getElem?,Array.getElem?_replicate]at eO
  split at eO<;>simp at eO
 ·have e:∀k,dy (bp l) ac (Ef (Array.replicate ops.size false)) s k=s:=by
   intro k
   induction k with
   |zero=>rfl
   |succ k ih=>
    have:Ef (Array.replicate ops.size false) k=false:=by
     simp only[Ef,Array.getD_eq_getD_getElem?,Array.getElem?_replicate]
     split<;>rfl
    simp only[dy,this,ih]
    rfl
  rw[e]
  obtain⟨k1,k2⟩:=fD (us':=vq (Array.replicate ops.size false)) hs.heap (fun id h=> .inl h)
  exact⟨k1,hs.tr.trans k2,hs.size,hs.defers.mono k2,fun j=>V.au k2 _ _ (hs.env j)⟩
end
end Go.Proofs.YtpkobkdgcanmjaaGreat
namespace Go.Proofs.YtpkobkdgcanmjaaGreat
section
variable {P:Program}{M:Nat->Prop}{φ bT:Place}{H0:Hp}{w w' w0:World}{n:Nat}{s:S}{us:Nat->Prop}{a:Act}{cx:Cx}{ro:Option Nat}{k:Nat}
variable {Q:Exit->Act->World->Prop}
theorem x8{ops:Array Oper}{po:Nat->Nat->Prop}{m:Nat}{X:V->S->Prop}{K:S->Prop}
 (nO:∀k,k<ops.size->∀j∈aW ops k,j<k)
 (wx:∀E:Nat->Bool,(∀k,k<ops.size->E k=true->∀j∈aW ops k,E j=true)->∀k,k<ops.size->(∀j∈aW ops k,E j=true)->∀j,po k j->E j=true)
 (wy:∀k,m<=k->k<ops.size->∀j,j<k->po k j)
 (hK:∀s φ a w,K s->bC M bT H0 w0 n cx φ s a w->Q .normal a w)
 (hX:∀v s' aj a' w' val,X v s'->bC M bT H0 w0 n cx aj s' a' w'->V.den (ad M aj s'.H) aj s'.H w' v val->Q (.panic [{v:=val,recovered:=false}]) a' w'):
 ∀ (d t:Nat) (s:S) (φ:Place) (ae:Array Bool) (a:Act) (w:World),t+d=ops.size->ae.size=ops.size->(∀k,k<ops.size->ae.getD k false=decide (k<t))->m<=t->
   bC M bT H0 w0 n cx φ s a w->rj P n ops X K (ops.toList.drop t) s->wpAnyIn (cV ro) k P .any ops Q d ae a w:=by
 intro d
 induction d with
 |zero=>
  intro t s φ ae a w ht dv hl yF hs h
  have e:t=ops.size:=by omega
  subst e
  refine⟨?_, ?_⟩
  ·rw[List.eq_nil_iff_forall_not_mem]
   intro j hj
   obtain⟨h1,o,h2,_⟩:=mem_ready.1 hj
   have QV:j<ops.size:=(Array.getElem?_eq_some_iff.1 h2).1
   have:=hl j QV
   simp only[Array.getD_eq_getD_getElem?]at this h1
   rw[Array.getElem?_eq_getElem (by omega)]at this h1
   simp only[Option.getD_some]at this h1
   rw[h1]at this
   simp[QV]at this
  ·rw[List.drop_eq_nil_of_le (by simp)]at h
   exact hK s φ a w h hs
 |succ d ih=>
  intro t s φ ae a w ht dv hl yF hs h
  have Oe:t<ops.size:=by omega
  refine⟨fun hr=> ?_,fun i hi=> ?_⟩
  ·have:=kT nO dv hr t Oe
   rw[hl t Oe]at this
   simp at this
  ·obtain⟨h1,o,h2,h3⟩:=mem_ready.1 hi
   have nH:i<ops.size:=(Array.getElem?_eq_some_iff.1 h2).1
   have ji:ae.getD i false=false:=by
    simp only[Array.getD_eq_getD_getElem?]at h1|-
    rw[Array.getElem?_eq_getElem (by omega)]at h1|-
    simpa using h1
   have S2:t<=i:=by
    have:=hl i nH
    rw[ji]at this
    have:=of_decide_eq_false this.symm
    omega
   have zA:∀j∈aW ops i,ae.getD j false=true:=by
    intro j hj
    simp only[aW,h2,List.mem_map,List.mem_filter]at hj
    obtain⟨e,⟨he,hb⟩,rfl⟩:=hj
    exact h3 e (Array.mem_toList_iff.1 he) hb
   have nB:∀k,k<ops.size->ae.getD k false=true->∀j∈aW ops k,ae.getD j false=true:=by
    intro k hk eO j hj
    have GA:=nO k hk j hj
    rw[hl k hk]at eO
    rw[hl j (by omega)]
    have:=of_decide_eq_true eO
    exact decide_eq_true (by omega)
   have NN:i=t:=by
    rcases Nat.eq_or_lt_of_le S2 with e|e
    ·exact e.symm
    ·have:=wx (fun k=>ae.getD k false) nB i nH zA t (wy i (by omega) nH t e)
     rw[hl t Oe]at this
     simp at this
   subst NN
   have tD:ops.toList.drop i=o::ops.toList.drop (i+1):=by
    have GP:i<ops.toList.length:=by simpa using nH
    rw[List.drop_eq_getElem_cons GP]
    have:ops.toList[i]=o:=by
     have:=(Array.getElem?_eq_some_iff.1 h2).2
     simpa using this
    rw[this]
   rw[tD]at h
   obtain⟨g1,g2⟩:=lT hs h
   have Bp:∀k,k<ops.size->(ae.setIfInBounds i true).getD k false=decide (k<i+1):=by
    intro k hk
    simp only[Array.getD_eq_getD_getElem?]
    by_cases e:k=i
    ·subst e;simp[dv,nH]
    ·rw[Array.getElem?_setIfInBounds_ne (Ne.symm e)]
     have:=hl k hk
     simp only[Array.getD_eq_getD_getElem?]at this
     rw[this]
     exact decide_eq_decide.2 (by omega)
   have jc:∀s' aj a' w',rj P n ops X K (ops.toList.drop (i+1)) s'->bC M bT H0 w0 n cx aj s' a' w'->wpAnyIn (cV ro) k P .any ops Q d (ae.setIfInBounds i true) a' w':=
    fun s' aj a' w' hk gM=>ih (i+1) s' aj _ a' w' (by omega) (by simp[dv]) Bp (by omega) gM hk
   unfold wpOpIn
   simp only[h2]
   split
   ·rename_i hw
    exact qk hs (g1 hw) (fun s' aj a' w' hk gM=>jc s' aj a' w' hk gM) (fun v s' aj w' val hx gM hd=>hX v s' aj a w' val hx gM hd)
   ·rename_i hw
    obtain⟨b7,h3⟩:=g2 (by simpa using hw)
    exact⟨fun _ _=>trivial,jc _ _ _ _ h3 (ta hs b7)⟩
theorem vu(aR:P.follows .mixedOrders=true){ops:Array Oper}{l:List bE}{id:Nat}(ko:gX n ops ops.toList=some l)(nO:∀k,k<ops.size->∀j∈aW ops k,j<k){ac:Nat->dQ}{m:Nat}(hm:m<=ops.size){X:V->S->Prop}{K:S->Prop}
 (hs:bC M bT H0 w0 n cx φ s a w) (DX:∀i,i<m->CZ P (dy (bp l) ac (fun _=>true) s i) (s.nx+i) (bp l i) (ac i))
 (Hh:∀i,i<m->(ac i).ok=true)
 {po:Nat->Nat->Prop} (wx:∀E:Nat->Bool,(∀k,k<ops.size->E k=true->∀j∈aW ops k,E j=true)->∀k,k<ops.size->(∀j∈aW ops k,E j=true)->∀j,po k j->E j=true) (tC:∀k,k<ops.size->∀j,po k j->j<k)
 (hc:∀i j,i<j->j<m-> ¬po j i->Compat (bp l) ac (fun i=>pX (ac i)) i j)
 (wy:∀k,m<=k->k<ops.size->∀j,j<k->po k j)
 (oF:rj P n ops X K (ops.toList.drop m) ⟨(dy (bp l) ac (fun _=>true) s m).env,(dy (bp l) ac (fun _=>true) s m).o,s.nx+m⟩)
 (hK:∀s φ a w,K s->bC M bT H0 w0 n cx φ s a w->Q .normal a w)
 (hX:∀v s' aj a' w' val,X v s'->bC M bT H0 w0 n cx aj s' a' w'->V.den (ad M aj s'.H) aj s'.H w' v val->Q (.panic [{v:=val,recovered:=false}]) a' w'):
 (Code.region id ops true).wpIn (cV ro) k P Q a w:=by
 refine wpIn_region_any aR ?_
 have hs:=tz hs
 generalize ({w with drawn:=w.drawn+1}:World)=w at hs
 let N:=m
 let Ef (ae:Array Bool) (k:Nat):Bool:=ae.getD k false
 let vq (ae:Array Bool) (j:Nat):Prop:=j<s.nx\/∃k,k<N/\Ef ae k=true/\j=s.nx+k
 have key:∀ (fuel:Nat) (ae:Array Bool) (φ:Place) (a:Act) (w:World),ae.size=ops.size->ae.count true+fuel=ops.size->(∀k,k<ops.size->Ef ae k=true->∀j∈aW ops k,Ef ae j=true)->(∀k,k<ops.size->Ef ae k=true->k<m)->
  nG M bT H0 w0 n cx φ (dy (bp l) ac (Ef ae) s N) (vq ae) a w->wpAnyIn (cV ro) k P .any ops Q fuel ae a w:=by
  have fin:∀ (fuel:Nat) (ae:Array Bool) (φ:Place) (a:Act) (w:World),ae.size=ops.size->ae.count true+fuel=ops.size->(∀k,k<ops.size->Ef ae k=true->k<m)->(∀k,k<N->Ef ae k=true)->nG M bT H0 w0 n cx φ (dy (bp l) ac (Ef ae) s N) (vq ae) a w->wpAnyIn (cV ro) k P .any ops Q fuel ae a w:=by
   intro fuel ae φ a w dv x5 br aF hu
   have e:∀k,k<=N->dy (bp l) ac (Ef ae) s k=dy (bp l) ac (fun _=>true) s k:=by
    intro k
    induction k with
    |zero=>intro _;rfl
    |succ k ih=>intro hk;simp only[dy,aF k (by omega),ih (by omega)]
   rw[e N (Nat.le_refl _)]at hu
   obtain⟨k1,k2⟩:=fD (us':=fun id=>id<s.nx+N) hu.heap (fun id h=>by
    show id<s.nx+N
    rcases h with h|⟨k,hk,_,rfl⟩<;>omega)
   have Of:∀k,k<ops.size->ae.getD k false=decide (k<m):=by
    intro k hk
    by_cases h:k<m
    ·rw[decide_eq_true h];exact aF k h
    ·rw[decide_eq_false h]
     cases hb:ae.getD k false with
     |false=>rfl
     |true=>exact absurd (br k hk hb) h
   have M0:ae.count true=m:=by
    have e1:ae=Array.ofFn (n:=ops.size) fun k=>decide (k.1<m):=by
     apply Array.ext
     ·simp[dv]
     ·intro k h1 h2
      have:=Of k (by omega)
      simp only[Array.getD_eq_getD_getElem?]at this
      rw[Array.getElem?_eq_getElem h1]at this
      simpa using this
    have e2:ae.toList=List.replicate m true++List.replicate (ops.size - m) false:=by
     apply List.ext_getElem?
     intro k
     by_cases hk:k<ops.size
     ·have h1:ae.toList[k]? =some (decide (k<m)):=by
       have:=Of k hk
       simp only[Array.getD_eq_getD_getElem?]at this
       rw[Array.getElem?_eq_getElem (by omega)]at this
       simp only[Option.getD_some]at this
       rw[Array.getElem?_toList,Array.getElem?_eq_getElem (by omega),this]
      rw[h1]
      by_cases h:k<m
      ·rw[List.getElem?_append_left (by simpa using h)]
       simp[h]
      ·rw[List.getElem?_append_right (by simpa using(by omega:m<=k))]
       rw[List.length_replicate,List.getElem?_replicate,if_pos (by omega),decide_eq_false h]
     ·rw[List.getElem?_eq_none (by simp[dv];omega),List.getElem?_eq_none (by simp;omega)]
    rw[<- Array.count_toList,e2,List.count_append,List.count_replicate_self,List.count_replicate]
    simp
   exact x8 nO wx wy hK hX fuel m ⟨(dy (bp l) ac (fun _=>true) s m).env,(dy (bp l) ac (fun _=>true) s m).o,s.nx+m⟩ φ ae a w (by omega) dv Of (Nat.le_refl _) ⟨k1,hu.tr.trans k2,hu.size,hu.defers.mono k2,fun i=>V.au k2 _ _ (hu.env i)⟩ oF
  intro fuel
  induction fuel with
  |zero=>
   intro ae φ a w dv x5 nB br hu
   have aF:∀k,k<ops.size->Ef ae k=true:=by
    intro k hk
    have h1:ae.count true=ae.size:=by omega
    rw[Array.count_eq_size]at h1
    have:=h1 ae[k] (Array.getElem_mem (by omega))
    simp only[Ef,Array.getD_eq_getD_getElem?]
    rw[Array.getElem?_eq_getElem (by omega)]
    simpa using this.symm
   exact fin 0 ae φ a w dv x5 br (fun k hk=>aF k (by omega)) hu
  |succ fuel ih=>
   intro ae φ a w dv x5 nB br hu
   by_cases C2:∀k,k<m->Ef ae k=true
   ·exact fin (fuel+1) ae φ a w dv x5 br C2 hu
   have hex:∃j,j<m/\Ef ae j=false:=by
    apply Classical.byContradiction
    intro DJ
    refine C2 fun k hk=> ?_
    cases hb:Ef ae k with
    |true=>rfl
    |false=>exact absurd ⟨k,hk,hb⟩ DJ
   obtain⟨j0,TQ,Hi⟩:=hex
   refine⟨fun hr=> ?_,fun i hi=> ?_⟩
   ·have:=kT nO dv hr j0 (by omega)
    rw[show ae.getD j0 false=false from Hi]at this
    cases this
   obtain⟨h1,o,h2,h3⟩:=mem_ready.1 hi
   have Og:i<ops.size:=(Array.getElem?_eq_some_iff.1 h2).1
   have ji:Ef ae i=false:=by
    simp only[Ef,Array.getD_eq_getD_getElem?]at h1|-
    rw[Array.getElem?_eq_getElem (by omega)]at h1|-
    simpa using h1
   have zA:∀j∈aW ops i,Ef ae j=true:=by
    intro j hj
    simp only[aW,h2,List.mem_map,List.mem_filter]at hj
    obtain⟨e,⟨he,hb⟩,rfl⟩:=hj
    exact h3 e (Array.mem_toList_iff.1 he) hb
   have nH:i<N:=by
    apply Classical.byContradiction
    intro uN
    have uN:m<=i:=Nat.le_of_not_lt uN
    have:=wx _ nB i Og zA j0 (wy i uN Og j0 (by omega))
    rw[Hi]at this;cases this
   have zC:rK N po (Ef ae):=fun k hk eO=>wx _ nB k (by omega) (nB k (by omega) eO)
   obtain⟨Hf,MZ⟩:=C0 (s:=s) (n:=N) (fun k hk=>tC k (by omega)) hc zC nH ji (wx _ nB i (by omega) zA)
   obtain⟨g1,g2,g3,g4⟩:=qu (oP _ _ i o ko (by simpa using h2))
   have cZ: ¬vq ae (s.nx+i):=by
    rintro(h|⟨k,_,hk,he⟩)
    ·omega
    ·have:k=i:=by omega
     subst this;rw[ji]at hk;cases hk
   have vo:∀k,Ef (ae.setIfInBounds i true) k=(Ef ae k||k==i):=by
    intro k
    simp only[Ef,Array.getD_eq_getD_getElem?]
    by_cases e:k=i
    ·subst e;simp[dv,Og]
    ·rw[Array.getElem?_setIfInBounds_ne (Ne.symm e)]
     have:(k==i)=false:=by simpa using e
     simp[this]
   have DZ:=insert (s:=s) hc zC nH ji vo
   have D0:∀k,k<ops.size->Ef (ae.setIfInBounds i true) k=true->∀j∈aW ops k,Ef (ae.setIfInBounds i true) j=true:=by
    intro k hk eO j hj
    rw[vo]at eO|-
    by_cases e:k=i
    ·subst e;simp[zA j hj]
    ·have:(k==i)=false:=by simpa using e
     rw[this,Bool.or_false]at eO
     simp[nB k hk eO j hj]
   have zD:(ae.setIfInBounds i true).count true+fuel=ops.size:=by
    have br:i<ae.size:=by omega
    have e1:ae.setIfInBounds i true=ae.set i true br:=by simp[Array.setIfInBounds,br]
    have e2:ae[i]=false:=by
     have:=ji
     simp only[Ef,Array.getD_eq_getD_getElem?]at this
     rw[Array.getElem?_eq_getElem br]at this
     simpa using this
    rw[e1,Array.count_set br,e2]
    simp
    omega
   have jc:(ac i).ok=true->∀aj a' w',nG M bT H0 w0 n cx aj (pN o.dst (ac i) (dy (bp l) ac (Ef ae) s N)) (fun id=>vq ae id\/id=s.nx+i) a' w'->wpAnyIn (cV ro) k P .any ops Q fuel (ae.setIfInBounds i true) a' w':=by
    intro Hg aj a' w' qY
    refine ih _ aj a' w' (by simp[dv]) zD D0 (fun k hk eO=> ?_) ?_
    ·rw[vo]at eO
     by_cases e:k=i
     ·subst e;exact nH
     ·have:(k==i)=false:=by simpa using e
      rw[this,Bool.or_false]at eO
      exact br k hk eO
    rw[DZ,g2]
    obtain⟨k1,k2⟩:=fD (us':=vq (ae.setIfInBounds i true)) qY.heap (fun id h=>by
     rcases h with(h|⟨k,hk,eO,rfl⟩)|rfl
     ·exact .inl h
     ·exact .inr ⟨k,hk,by rw[vo,eO];rfl,rfl⟩
     ·exact .inr ⟨i,nH,by rw[vo];simp,rfl⟩)
    exact⟨k1,qY.tr.trans k2,qY.size,qY.defers.mono k2,fun j=>V.au k2 _ _ (qY.env j)⟩
   have x6:∀d want,(bp l i).gd=some (d,want)->(dy (bp l) ac (Ef ae) s N).env d=(dy (bp l) ac (fun _=>true) s i).env d:=fun d want hd=>Hf d (by simp[dH,tmpsOf,hd])
   have a8:=DX i nH
   have x7:∀x∈(bp l i).op.operands,(dy (bp l) ac (Ef ae) s N).ev x=(dy (bp l) ac (fun _=>true) s i).ev x:=fun x hx=>tw fun t ht=>Hf t (by
    subst ht
    simp only[dH,tmpsOf,List.mem_append,List.mem_filterMap]
    exact .inl (.inl ⟨.tmp t,Array.mem_toList_iff.2 hx,rfl⟩))
   have Bz:(dy (bp l) ac (Ef ae) s N).nx=(dy (bp l) ac (fun _=>true) s i).nx:=(gh N).trans (gh i).symm
   unfold wpOpIn
   simp only[h2]
   cases nI:ac i with
   |skip=>
    rw[nI]at a8 jc
    have hw:=dX hu.env g4 (dY x6 a8)
    simp only[hw,Bool.false_eq_true,if_false]
    refine⟨fun _ _=>trivial,jc rfl φ _ w ?_⟩
    have:=fh (v:= .bM []) (val:=undef) hu hu.heap (Trans.refl _ _ _) ⟨#[],rfl,rfl⟩ (dst:=o.dst) g3 rfl (us':=fun id=>vq ae id\/id=s.nx+i) (fun id h=> .inl h)
    exact this
   |val v Δ rd=>
    rw[nI]at a8 jc
    have hw:=dX hu.env g4 (dY x6 a8.1)
    simp only[hw,if_true]
    obtain⟨qp,lj⟩:=nm x7 (fun id ag=>MZ id (by rw[nI];exact ag)) Bz a8.2
    exact tv hu cZ (fun id h=> .inl (by rw[gh]at h;exact h)) g1.symm g3 lj (jc rfl)
   |ba v ws rd=>
    have:=Hh i nH
    rw[nI]at this;cases this
   |dA=>
    have:=Hh i nH
    rw[nI]at this;cases this
 refine key ops.size _ φ a w (by simp) (by simp[Array.count_replicate]) (fun k hk eO=> ?_) (fun k hk eO=> ?_) ?_
 ·simp[Ef,Array.getD_eq_getD_getElem?,Array.getElem?_replicate]at eO
  split at eO<;>simp at eO
 ·simp[Ef,Array.getD_eq_getD_getElem?,Array.getElem?_replicate]at eO
  split at eO<;>simp at eO
 ·have e:∀k,dy (bp l) ac (Ef (Array.replicate ops.size false)) s k=s:=by
   intro k
   induction k with
   |zero=>rfl
   |succ k ih=>
    have:Ef (Array.replicate ops.size false) k=false:=by
     simp only[Ef,Array.getD_eq_getD_getElem?,Array.getElem?_replicate]
     split<;>rfl
    simp only[dy,this,ih]
    rfl
  rw[e]
  obtain⟨k1,k2⟩:=fD (us':=vq (Array.replicate ops.size false)) hs.heap (fun id h=> .inl h)
  exact⟨k1,hs.tr.trans k2,hs.size,hs.defers.mono k2,fun j=>V.au k2 _ _ (hs.env j)⟩
end
end Go.Proofs.YtpkobkdgcanmjaaGreat
