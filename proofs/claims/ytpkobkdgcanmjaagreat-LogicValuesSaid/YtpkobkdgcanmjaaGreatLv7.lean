/-
  A PART OF THE PROOF. Conditions: none.
-/
import Derived.OrdersIn
import Derived.Test.YtpkobkdgcanmjaaGreatLv6
set_option linter.unusedSimpArgs false
set_option linter.unusedVariables false
namespace Go.Proofs.YtpkobkdgcanmjaaGreat
def aa.refs:aa->List Nat
 | .row cs=>V.aw cs
 | .loop _ _ env _ _ _ _ _=>V.aw env
 |_=>[]
def C2(R:List Nat)(o:Nat->aa):Nat->aa:=fun id=>if R.contains id=true then o id else .no
def zC(P:Program)(g:FuncId)(args:List V)(rd:List Nat)(o:Nat->aa)(out:R)(Δ:List (Nat×aa)):Prop:=
 gQ P g/\∀ (o':Nat->aa) (us:Nat->Prop) (M:Nat->Prop) (φ:Place) (w:World) (vals:Array Value),(∀id∈rd,o' id=o id/\us id)->ai M φ ⟨o',us⟩ w->V.au (ad M φ ⟨o',us⟩) φ ⟨o',us⟩ w args vals.toList->
  Calls P g vals w fun e w'=>∃aj,ai M aj ⟨put o' Δ,us⟩ w'/\Trans φ ⟨o',us⟩ w aj ⟨put o' Δ,us⟩ w'/\out.is (ad M aj ⟨put o' Δ,us⟩) w' e
def vA(P:Program)(g:FuncId)(args:List V)(rd:List Nat)(o:Nat->aa)(fr:Nat)(v:V)(Δ:List (Nat×aa)):Prop:=
 gQ P g/\∀ (o':Nat->aa) (us:Nat->Prop) (M:Nat->Prop) (φ:Place) (w:World) (vals:Array Value),(∀id∈rd,o' id=o id/\us id)-> ¬us fr->ai M φ ⟨o',us⟩ w->V.au (ad M φ ⟨o',us⟩) φ ⟨o',us⟩ w args vals.toList->
  Calls P g vals w fun e w'=>∃aj,ai M aj ⟨put o' Δ,fun id=>us id\/id=fr⟩ w'/\Trans φ ⟨o',us⟩ w aj ⟨put o' Δ,fun id=>us id\/id=fr⟩ w'/\∃val,e= .returned val/\V.den (ad M aj ⟨put o' Δ,fun id=>us id\/id=fr⟩) aj ⟨put o' Δ,fun id=>us id\/id=fr⟩ w' v val
mutual
theorem V.iw {B B':Nat->Prop}{φ aj:Place}{H H':Hp}{w:World}(hB:∀b, ¬B b-> ¬B' b):∀ (v:V) (val:Value),(∀id∈v.refs,H'.o id=H.o id/\aj id=φ id/\H'.us id)->V.den B φ H w v val->V.den B' aj H' w v val
 | .d x,val,_,h=>D.ax (w:=w) (w':=w) (fun b _ hn=>⟨rfl,hB b hn⟩) x val h
 | .aM,_,_,h=>h
 | .ak,_,_,_=>trivial
 | .dB,_,_,h=>h
 | .kQ es,val,_,h=>⟨D.ax (w:=w) (w':=w) (fun b _ hn=>⟨rfl,hB b hn⟩) (.sl es) val h.1,h.2⟩
 | .agg cs,val,hr,h=>by
   obtain⟨a,rfl,h1,h2⟩:=h
   exact⟨a,rfl,V.dP hB cs _ (by simpa[V.refs]using hr) h1,h2⟩
 | .bQ cs,val,hr,h=>by
   obtain⟨a,rfl,h1⟩:=h
   exact⟨a,rfl,V.dP hB cs _ (by simpa[V.refs]using hr) h1⟩
 | .ptr id off,val,hr,h=>by
   obtain⟨a,b,c⟩:=hr id (by simp[V.refs])
   obtain⟨h0,h1,h2⟩:=h
   refine⟨h0,c,fun a8=> ?_⟩
   rw[a]at a8
   obtain⟨x,y,z⟩:=h2 a8
   exact⟨x,b.trans y,z⟩
 | .osl id ep,val,hr,h=>by
   obtain⟨a,b,c⟩:=hr id (by simp[V.refs])
   obtain⟨h0,h1,h2⟩:=h
   refine⟨h0,c,fun e he=> ?_⟩
   rw[a]at he
   obtain⟨x,y⟩:=h2 e he
   exact⟨x,fun heq=>(y heq).trans b.symm⟩
 | .pe id ep i sz off,val,hr,h=>by
   obtain⟨a,b,c⟩:=hr id (by simp[V.refs])
   obtain⟨h0,h1,h2⟩:=h
   refine⟨h0,c,fun e he=> ?_⟩
   rw[a]at he
   obtain⟨x,y⟩:=h2 e he
   refine⟨x,fun heq=> ?_⟩
   obtain⟨p,q,r,z,u⟩:=y heq
   exact⟨p,q,r,b.trans z,u⟩
 | .pp cs off,val,_,h=>by
   obtain⟨a,ev,h1,h2,h3,h5,h4⟩:=h
   exact⟨a,ev,h1,h2,D.aB (w:=w) (w':=w) (fun b _ hn=>⟨rfl,hB b hn⟩) cs ev h3,h5,h4.mono (w:=w) (w':=w) (fun b _ hn=>⟨rfl,hB b hn⟩)⟩
 | .func fn first cap,val,hr,h=>by
   obtain⟨f,c,rfl,h1,h2⟩:=h
   exact⟨f,c,rfl,V.dP hB first _ (fun id ah=>hr id (by simp[V.refs,ah])) h1,V.dP hB cap _ (fun id ah=>hr id (by simp[V.refs,ah])) h2⟩
 | .iface t x,val,hr,h=>by
   obtain⟨u,rfl,h⟩:=h
   exact⟨u,rfl,V.iw hB x u (by simpa[V.refs]using hr) h⟩
 | .oo id off n,val,hr,h=>by
   obtain⟨a,b,c⟩:=hr id (by simp[V.refs])
   obtain⟨h0,h1,h2⟩:=h
   refine⟨h0,c,fun a8=> ?_⟩
   rw[a]at a8
   obtain⟨x,y,z⟩:=h2 a8
   exact⟨x,b.trans y,z⟩
 | .mp id,val,hr,h=>by
   obtain⟨a,b,c⟩:=hr id (by simp[V.refs])
   obtain⟨h0,h1,h2⟩:=h
   refine⟨h0,c,fun a8=> ?_⟩
   rw[a]at a8
   exact(h2 a8).trans b.symm
 | .j7 id,val,hr,h=>by
   obtain⟨a,b,c⟩:=hr id (by simp[V.refs])
   obtain⟨h0,h1,h2⟩:=h
   refine⟨h0,c,fun a8=> ?_⟩
   rw[a]at a8
   obtain⟨x,y,z⟩:=h2 a8
   exact⟨x,b.trans y,z⟩
theorem V.dP {B B':Nat->Prop}{φ aj:Place}{H H':Hp}{w:World}(hB:∀b, ¬B b-> ¬B' b):∀ (vs:List V) (vals:List Value),(∀id∈V.aw vs,H'.o id=H.o id/\aj id=φ id/\H'.us id)->V.au B φ H w vs vals->V.au B' aj H' w vs vals
 |[],_,_,h=>h
 |v::vs,_,hr,h=>by
  obtain⟨u,us,rfl,h1,h2⟩:=h
  exact⟨u,us,rfl,V.iw hB v u (fun id ah=>hr id (by simp[V.aw,ah])) h1,V.dP hB vs us (fun id ah=>hr id (by simp[V.aw,ah])) h2⟩
end
theorem x5{env:List V}{i id:Nat}(h:id∈(bD env i).refs):id∈V.aw env:=by
 unfold bD at h
 induction env generalizing i with
 |nil=>simp[V.refs]at h
 |cons v env ih=>
  cases i with
  |zero=>simp only[List.getD_cons_zero]at h;simp[V.aw,h]
  |succ i=>simp only[List.getD_cons_succ]at h;simp[V.aw,ih h]
theorem aC.refs {M M':Nat->Prop}{φ aj:Place}{H H':Hp}{w:World}{id:Nat}(hB:∀b, ¬ad M φ H b-> ¬ad M' aj H' b)(ho:H'.o id=H.o id)(cN:aj id=φ id)
 (hr:∀j∈(H.o id).refs,H'.o j=H.o j/\aj j=φ j/\H'.us j) (h:aC M φ H w id):aC M' aj H' w id:=by
 have hd:∀b,bR w b-> ¬ad M φ H b->w.heap[b]? =w.heap[b]? /\ ¬ad M' aj H' b:=fun b _ hn=>⟨rfl,hB b hn⟩
 unfold aC at*
 rw[ho]
 cases hx:H.o id with
 |no=>trivial
 |row cs=>
  simp only[hx]at h|-
  obtain⟨b,cl,ty,h1,h2,h3,h4⟩:=h
  exact⟨b,cl,ty,cN.trans h1,h2,V.dP hB cs _ (fun j hj=>hr j (by rw[hx];exact hj)) h3,h4⟩
 |arr ep ty sz es=>
  simp only[hx]at h|-
  obtain⟨h0,xs,h1,evs,h2,h3,h4⟩:=h
  exact⟨h0,xs,by rw[cN];exact h1,evs,h2,h3,D.aB hd es evs h4⟩
 |lG ep es=>
  simp only[hx]at h|-
  rw[cN]
  exact D.ax hd (.sl es) _ h
 |map kt vt l=>
  simp only[hx]at h|-
  obtain⟨b,es,clock,h1,h2,h4,h3⟩:=h
  exact⟨b,es,clock,cN.trans h1,h2,h4,aA.mono hd l _ h3⟩
 |ef l=>
  simp only[hx]at h|-
  rw[cN]
  exact D.ax hd (.mp _ _) _ h
 |mJ l last=>
  simp only[hx]at h|-
  obtain⟨b,h1,h2⟩:=h
  exact⟨b,cN.trans h1,h2.mono hd rfl⟩
 |oq s pos=>
  simp only[hx]at h|-
  obtain⟨b,h1,h2⟩:=h
  exact⟨b,cN.trans h1,h2⟩
 |loop nf n env ps kA gB st xp=>
  simp only[hx]at h|-
  obtain⟨b,r,h1,h2,h0,h3,h4,h5,h6,h7,h8,h9⟩:=h
  exact⟨b,r,cN.trans h1,h2,h0,h3,h4,h5,h6,h7,h8,fun i=>V.iw hB _ _ (fun j hj=>hr j (by rw[hx];exact x5 hj)) (h9 i)⟩
section
variable {P:Program}
theorem vB{o o':Nat->aa}{Δ:List (Nat×aa)}{id:Nat}(h:o id=o' id):put o Δ id=put o' Δ id:=wC h
where wC {o o':Nat->aa}:∀ {Δ:List (Nat×aa)} {id:Nat},o id=o' id->put o Δ id=put o' Δ id
 |[],_,h=>h
 |x::Δ,id,h=>by
  simp only[put,List.foldl_cons]
  refine wC (Δ:=Δ) (o:=aQ o x.1 x.2) (o':=aQ o' x.1 x.2) ?_
  simp only[aE]
  split
  ·rfl
  ·exact h
theorem rU{o:Nat->aa}:∀ {Δ:List (Nat×aa)} {id:Nat},(∀x∈Δ,x.1≠id)->put o Δ id=o id
 |[],_,_=>rfl
 |x::Δ,id,h=>by
  have:=rU (o:=aQ o x.1 x.2) (Δ:=Δ) (id:=id) (fun y hy=>h y (by simp[hy]))
  simp only[put,List.foldl_cons]at this|-
  rw[this];simp[Ne.symm (h x (by simp))]
theorem zC.la {g:FuncId}{args:List V}{rd:List Nat}{o:Nat->aa}{nx:Nat}{out:R}{Δ:List (Nat×aa)}(p4:∀id∈rd,id<nx)(dh:∀id∈V.aw args,id∈rd)(nK:∀id∈rd,∀j∈(o id).refs,j∈rd)(D0:∀x∈Δ,x.1∈rd)(Ol:∀x∈Δ,∀j∈x.2.refs,j∈rd)
 (h:ft P g args (C2 rd o) nx
  (fun v o1 _=>(∀id∈rd,o1 id=put o Δ id)/\∃vs rs,v=(match vs with|[v]=>v|vs=> .bQ vs)/\bG o1 vs=some rs/\out= .ret rs/\∀id∈V.aR vs,id∉rd)
  (fun v o1 _=>(∀id∈rd,o1 id=put o Δ id)/\∃x,dn o1 v=some x/\out= .bf x/\∀id∈v.ids,id∉rd)):zC P g args rd o out Δ:=by
 refine⟨h.1,fun o' us M φ w vals ho hH hd=> ?_⟩
 let M1:Nat->Prop:=fun b=>M b\/∃id,id∉rd/\(o' id).live=true/\dz (φ id)=some b
 let HR:Hp:=hp (C2 rd o) nx
 have oY:∀id,id∈rd->C2 rd o id=o' id:=fun id ah=>by simp[C2,ah,(ho id ah).1]
 have nw:∀id,id∉rd->C2 rd o id= .no:=fun id ah=>by simp[C2,ah]
 have hB:∀b,ad M1 φ HR b↔ad M φ ⟨o',us⟩ b:=by
  intro b
  constructor
  ·rintro((h|⟨id,h1,h2,h3⟩)|⟨id,h1,h2⟩)
   ·exact .inl h
   ·exact .inr ⟨id,h2,h3⟩
   ·by_cases ah:id∈rd
    ·exact .inr ⟨id,by show(o' id).live=true;rw[<- oY id ah];exact h1,h2⟩
    ·have:HR.o id= .no:=nw id ah
     rw[this]at h1;cases h1
  ·rintro(h|⟨id,h1,h2⟩)
   ·exact .inl (.inl h)
   ·by_cases ah:id∈rd
    ·exact .inr ⟨id,by show(C2 rd o id).live=true;rw[oY id ah];exact h1,h2⟩
    ·exact .inl (.inr ⟨id,ah,h1,h2⟩)
 have qc:∀id∈rd,HR.o id=o' id/\φ id=φ id/\HR.us id:=fun id ah=>⟨oY id ah,rfl,p4 id ah⟩
 have S3:ai M1 φ HR w:=by
  refine⟨fun id=> ?_,fun id hn=> ?_,fun i j b hi hj bi bj=> ?_,fun b hb=> ?_,fun b hb=> ?_⟩
  ·by_cases ah:id∈rd
   ·refine aC.refs (H:=⟨o',us⟩) (M:=M) (φ:=φ) (fun b hn hb=>hn ((hB b).1 hb)) (oY id ah) rfl (fun j hj=>qc j ?_) (hH.ok id)
    have:o' id=o id:=(ho id ah).1
    exact nK id ah j (by rw[<- this];exact hj)
   ·unfold aC
    rw[show HR.o id= .no from nw id ah];trivial
  ·exact nw id fun ah=>hn (p4 id ah)
  ·have live:∀i,(HR.o i).live=true->i∈rd/\(o' i).live=true:=fun i hi=>by
    by_cases ah:i∈rd
    ·exact⟨ah,by rw[<- oY i ah];exact hi⟩
    ·rw[show HR.o i= .no from nw i ah]at hi;cases hi
   exact hH.apart i j b (live i hi).2 (live j hj).2 bi bj
  ·obtain⟨id,h1,h2⟩:=hb
   have ah:id∈rd:=by
    by_cases ah:id∈rd
    ·exact ah
    ·rw[show HR.o id= .no from nw id ah]at h1;cases h1
   rw[show HR.o id=o' id from oY id ah]at h1
   obtain⟨k1,k2⟩:=hH.ours b ⟨id,h1,h2⟩
   refine⟨?_,k2⟩
   rintro(hM|⟨j,j1,j2,j3⟩)
   ·exact k1 hM
   ·exact j1 (hH.apart j id b j2 h1 j3 h2 ▸ ah)
  ·rcases hb with hb|⟨id,h1,h2,h3⟩
   ·exact hH.p7 b hb
   ·exact(hH.ours b ⟨id,h2,h3⟩).2
 have S4:V.au (ad M1 φ HR) φ HR w args vals.toList:=V.dP (H:=⟨o',us⟩) (fun b hn hb=>hn ((hB b).1 hb)) _ _ (fun id ah=>qc id (dh id ah)) hd
 refine(h.2 M1 φ w vals S3 S4).mono ?_
 rintro e w' ⟨fm,o1,sK,v,k1,k2,k3⟩
 have main:(∀id∈rd,o1 id=put o Δ id)->∃aj,ai M aj ⟨put o' Δ,us⟩ w'/\Trans φ ⟨o',us⟩ w aj ⟨put o' Δ,us⟩ w'/\∀b,ad M aj ⟨put o' Δ,us⟩ b->M1 b\/∃id∈rd,(o1 id).live=true/\dz (fm id)=some b:=by
  intro lT
  have wq:∀id∈rd,put o' Δ id=o1 id:=fun id ah=>(vB (ho id ah).1).trans (lT id ah).symm
  have yK:∀id,id∉rd->put o' Δ id=o' id:=fun id ah=>rU fun x hx e=>ah (e ▸ D0 x hx)
  let xV:Place:=fun id=>if id∈rd then fm id else φ id
  have rV:∀id∈rd,xV id=fm id:=fun id ah=>if_pos ah
  have tN:∀id,id∉rd->xV id=φ id:=fun id ah=>if_neg ah
  let H2:Hp:=⟨put o' Δ,us⟩
  have bA:∀b,bw xV H2 b->(∃id∈rd,(o1 id).live=true/\dz (fm id)=some b)\/∃id,id∉rd/\(o' id).live=true/\dz (φ id)=some b:=by
   rintro b ⟨id,h1,h2⟩
   by_cases ah:id∈rd
   ·exact .inl ⟨id,ah,by rw[<- wq id ah];exact h1,by rw[<- rV id ah];exact h2⟩
   ·exact .inr ⟨id,ah,by rw[<- yK id ah];exact h1,by rw[<- tN id ah];exact h2⟩
  have Nc:∀b,ad M xV H2 b->ad M1 fm (hp o1 sK) b:=by
   rintro b (hb|hb)
   ·exact .inl (.inl hb)
   ·rcases bA b hb with⟨id,h1,h2,h3⟩|⟨id,h1,h2,h3⟩
    ·exact .inr ⟨id,h2,h3⟩
    ·exact .inl (.inr ⟨id,h1,h2,h3⟩)
  have Hh:cX φ ⟨o',us⟩ xV H2:=by
   refine⟨fun id h=>h,fun id hu hr=> ?_,fun id e' hu he=> ?_⟩
   ·by_cases ah:id∈rd
    ·rw[show H2.o id=o1 id from wq id ah]at hr
     obtain⟨a,b⟩:=k2.rel.row id (p4 id ah) hr
     rw[show HR.o id=o' id from oY id ah]at a
     exact⟨a,(rV id ah).trans b⟩
    ·rw[show H2.o id=o' id from yK id ah]at hr
     exact⟨hr,tN id ah⟩
   ·by_cases ah:id∈rd
    ·rw[show H2.o id=o1 id from wq id ah]at he
     obtain⟨e0,a,b,c⟩:=k2.rel.ep id e' (p4 id ah) he
     rw[show HR.o id=o' id from oY id ah]at a
     exact⟨e0,a,b,fun heq=>(rV id ah).trans (c heq)⟩
    ·rw[show H2.o id=o' id from yK id ah]at he
     exact⟨e',he,Nat.le_refl _,fun _=>tN id ah⟩
  have nV:∀b,bR w b-> ¬ad M φ ⟨o',us⟩ b->w'.heap[b]? =w.heap[b]? /\ ¬ad M xV H2 b:=by
   intro b hc hn
   obtain⟨a,c⟩:=k2.blocks (M:=M1) b hc (fun hb=>hn ((hB b).1 hb))
   exact⟨a,fun hb=>c (Nc b hb)⟩
  have rK:∀b,b<w.heap.size-> ¬bw φ HR b->w'.heap[b]? =w.heap[b]? :=fun b hb hl=>k2.bU.block b hb hl
  have ht:Trans φ ⟨o',us⟩ w xV H2 w':=by
   refine⟨⟨k2.bU.os,k2.bU.tape,k2.bU.output,k2.bU.size,fun b hb hl=>rK b hb fun⟨id,h1,h2⟩=>hl ?_⟩,fun b hb=> ?_,Hh⟩
   ·by_cases ah:id∈rd
    ·exact⟨id,by show(o' id).live=true;rw[<- oY id ah];exact h1,h2⟩
    ·rw[show HR.o id= .no from nw id ah]at h1;cases h1
   ·rcases bA b hb with⟨id,h1,h2,h3⟩|⟨id,h1,h2,h3⟩
    ·rcases k2.grow b ⟨id,h2,h3⟩with⟨j,j1,j2⟩|u9
     ·by_cases ah:j∈rd
      ·exact .inl ⟨j,by show(o' j).live=true;rw[<- oY j ah];exact j1,j2⟩
      ·rw[show HR.o j= .no from nw j ah]at j1;cases j1
     ·exact .inr u9
    ·exact .inl ⟨id,h2,h3⟩
  refine⟨xV,⟨fun id=> ?_,fun id hn=> ?_,fun i j b hi hj bi bj=> ?_,fun b hb=> ?_,fun b hb=>Nat.lt_of_lt_of_le (hH.p7 b hb) k2.bU.size⟩,ht,fun b hb=> ?_⟩
  ·by_cases ah:id∈rd
   ·refine aC.refs (H:=hp o1 sK) (M:=M1) (φ:=fm) (fun b hn hb=>hn (Nc b hb)) (wq id ah) (rV id ah) (fun j hj=> ?_) (k1.ok id)
    have yI:j∈rd:=by
     have e1:o1 id=put o Δ id:=lT id ah
     have hj:j∈(put o Δ id).refs:=by rw[<- e1];exact hj
     have key:∀ (wD:List (Nat×aa)) (q:Nat->aa),(∀x∈wD,∀j∈x.2.refs,j∈rd)->(∀j∈(q id).refs,j∈rd)->∀j∈(put q wD id).refs,j∈rd:=by
      intro wD
      induction wD with
      |nil=>intro q _ h2;exact h2
      |cons x wD ih=>
       intro q h1 h2
       simp only[put,List.foldl_cons]
       refine ih (aQ q x.1 x.2) (fun y hy=>h1 y (by simp[hy])) ?_
       simp only[aE]
       split
       ·exact h1 x (by simp)
       ·exact h2
     exact key Δ o Ol (nK id ah) j hj
    exact⟨wq j yI,rV j yI,(ho j yI).2⟩
   ·exact aC.sV nV Hh (yK id ah) (tN id ah) (fun hl b hb=>rK b (hH.ours b ⟨id,hl,hb⟩).2 fun⟨j,j1,j2⟩=>by
     by_cases hj:j∈rd
     ·rw[show HR.o j=o' j from oY j hj]at j1
      exact ah (hH.apart id j b hl j1 hb j2 ▸ hj)
     ·rw[show HR.o j= .no from nw j hj]at j1;cases j1) (hH.ok id)
  ·have ah:id∉rd:=fun ah=>hn (ho id ah).2
   exact(yK id ah).trans (hH.fresh id hn)
  ·by_cases e1:i∈rd<;>by_cases e2:j∈rd
   ·refine k1.apart i j b ?_ ?_ (by rw[<- rV i e1];exact bi) (by rw[<- rV j e2];exact bj)
    ·show(o1 i).live=true;rw[<- wq i e1];exact hi
    ·show(o1 j).live=true;rw[<- wq j e2];exact hj
   ·exfalso
    refine(k1.ours b ⟨i,by show(o1 i).live=true;rw[<- wq i e1];exact hi,by rw[<- rV i e1];exact bi⟩).1 (.inr ⟨j,e2,by rw[<- yK j e2];exact hj,by rw[<- tN j e2];exact bj⟩)
   ·exfalso
    refine(k1.ours b ⟨j,by show(o1 j).live=true;rw[<- wq j e2];exact hj,by rw[<- rV j e2];exact bj⟩).1 (.inr ⟨i,e1,by rw[<- yK i e1];exact hi,by rw[<- tN i e1];exact bi⟩)
   ·exact hH.apart i j b (by show(o' i).live=true;rw[<- yK i e1];exact hi) (by show(o' j).live=true;rw[<- yK j e2];exact hj) (by rw[<- tN i e1];exact bi) (by rw[<- tN j e2];exact bj)
  ·rcases bA b hb with⟨id,h1,h2,h3⟩|⟨id,h1,h2,h3⟩
   ·obtain⟨a,c⟩:=k1.ours b ⟨id,h2,h3⟩
    exact⟨fun hM=>a (.inl hM),c⟩
   ·obtain⟨a,c⟩:=hH.ours b ⟨id,h2,h3⟩
    exact⟨a,Nat.lt_of_lt_of_le c k2.bU.size⟩
  ·rcases hb with hb|hb
   ·exact .inl (.inl hb)
   ·rcases bA b hb with h|h
    ·exact .inr h
    ·exact .inl (.inr h)
 have res:∀ (vs:List V) (xs:List D) (us':List Value),(∀id∈rd,o1 id=put o Δ id)->bG o1 vs=some xs->(∀id∈V.aR vs,id∉rd)->V.au (ad M1 fm (hp o1 sK)) fm (hp o1 sK) w' vs us'->
  ∃aj,ai M aj ⟨put o' Δ,us⟩ w'/\Trans φ ⟨o',us⟩ w aj ⟨put o' Δ,us⟩ w'/\D.au (ad M aj ⟨put o' Δ,us⟩) w' xs us':=by
  intro vs xs us' lT h1 Om h2
  obtain⟨f1,f2,f3,f4,f5⟩:=cB k1 (V.aR vs) (bW vs _ h2)
  have h3:=cI f1 vs xs us' f3 h1 (V.aB f2 _ _ h2)
  obtain⟨aj,m1,m2,m3⟩:=main lT
  refine⟨aj,m1,m2,D.aB (w:=w') (w':=w') (fun b _ hn=>⟨rfl,fun hb=>hn ?_⟩) xs us' h3⟩
  rcases m3 b hb with hb|⟨id,i1,i2,i3⟩
  ·exact .inl hb
  ·exact .inr ⟨id,by rw[f4 id fun hm=>Om id hm i1];exact i2,i3⟩
 cases e with
 |outgrown=>exact k3.elim
 |panicked ch=>
  obtain⟨val,rfl,g1,lT,x,g2,rfl,g3⟩:=k3
  obtain⟨aj,m1,m2,m3⟩:=res [v] [x] [val] lT (by simp[bG,g2]) (by simpa[V.aR]using g3) ⟨val,[],rfl,g1,rfl⟩
  obtain⟨u,us2,he,h2,_⟩:=m3
  simp at he;obtain⟨rfl,rfl⟩:=he
  exact⟨aj,m1,m2,val,rfl,h2⟩
 |returned val=>
  obtain⟨g1,lT,vs,rs,rfl,g2,rfl,g3⟩:=k3
  match vs,g1,g2,g3 with
  |[],g1,g2,g3=>
   obtain⟨arr,rfl,hv⟩:=g1
   simp only[bG,Option.some.injEq]at g2;subst g2
   obtain⟨aj,m1,m2,m3⟩:=res [] [] arr.toList lT rfl (by simp[V.aR]) hv
   exact⟨aj,m1,m2,arr,rfl,m3⟩
  |[v],g1,g2,g3=>
   obtain⟨aj,m1,m2,m3⟩:=res [v] rs [val] lT g2 g3 ⟨val,[],rfl,g1,rfl⟩
   refine⟨aj,m1,m2, ?_⟩
   cases rs with
   |nil=>cases m3
   |cons x l=>
    obtain⟨u,us2,he,h2,h3⟩:=m3
    simp at he;obtain⟨rfl,rfl⟩:=he
    cases l with
    |nil=>exact h2
    |cons y l=>obtain⟨_,_,h,_⟩:=h3;cases h
  |v::v2::l,g1,g2,g3=>
   obtain⟨arr,rfl,hv⟩:=g1
   obtain⟨aj,m1,m2,m3⟩:=res (v::v2::l) rs arr.toList lT g2 g3 hv
   refine⟨aj,m1,m2, ?_⟩
   have hl:=D.aq _ _ m3
   have He:=V.aq _ _ hv
   match rs,hl,m3 with
   |[],hl,_=>rw[He]at hl;simp at hl
   |[x],hl,_=>rw[He]at hl;simp at hl
   |x::y::l,_,m3=>exact⟨arr,rfl,m3⟩
end
end Go.Proofs.YtpkobkdgcanmjaaGreat
namespace Go.Proofs.YtpkobkdgcanmjaaGreat
inductive dQ where
 |skip|val (v:V) (Δ:List (Nat×aa)) (rd:List Nat)|bf (v:V) (ws rd:List Nat)|dz
 deriving Inhabited
def dQ.ok:dQ->Bool
 | .skip| .val .. =>true
 |_=>false
def p5(dst:Option Tmp)(x:dQ)(s:S):S:=
 match x with
 | .skip=>⟨aO s.env dst (.bQ []),s.o,s.nx⟩
 | .val v Δ _=>⟨aO s.env dst v,put s.o Δ,s.nx⟩
 | .bf .. | .dz=>⟨aO s.env dst .ak,s.o,s.nx⟩
def gU:dQ->List Nat
 | .val _ Δ _=>Δ.map (·.1)
 |_=>[]
def qf:dQ->List Nat
 | .val _ _ rd=>rd
 | .bf _ _ rd=>rd
 |_=>[]
def Hi(P:Program)(g:FuncId)(ds:List D)(v:V):Prop:=
 gQ P g/\∀ (M:Nat->Prop) (w:World) (vals:Array Value),(∀b,M b->b<w.heap.size)->D.au M w ds vals.toList->
  Calls P g vals w fun e w'=>dJ (fun _=>False) w w'/\∃val,e= .returned val/\∀φ H,V.den M φ H w' v val
theorem Hi.la {P:Program}{g:FuncId}{ds:List D}{v:V}(hr:v.refs=[])(h:ft P g (ds.map .d) (fun _=> .no) 0 (fun v' _ _=>v'=v) (fun _ _ _=>False)):Hi P g ds v:=by
 refine⟨h.1,fun M w vals hM hd=> ?_⟩
 let b7:Place:=fun _=> .nilFunc
 have rK:∀b, ¬bw b7 (hp (fun _=> .no) 0) b:=by rintro b ⟨id,hl,_⟩;simp[hp,aa.live]at hl
 refine(h.2 M b7 w vals (kj b7 hM) ((V.bV _ _).2 (D.aB (w:=w) (w':=w) (B:=M) (fun b _ hB=>⟨rfl,fun h=>h.elim hB (rK b)⟩) _ _ hd))).mono ?_
 rintro e w' ⟨aj,o',nx',v',k1,k2,k3⟩
 refine⟨⟨k2.bU.os,k2.bU.tape,k2.bU.output,k2.bU.size,fun k hk _=>k2.bU.block k hk (rK k)⟩, ?_⟩
 cases e with
 |outgrown=>exact k3.elim
 |panicked ch=>obtain⟨_,_,_,h⟩:=k3;exact h.elim
 |returned val=>
  obtain⟨g1,rfl⟩:=k3
  exact⟨val,rfl,fun φ H=>V.iw (B:=ad M aj (hp o' nx')) (φ:=aj) (H:=hp o' nx') (fun b hb hm=>hb (.inl hm)) v' val (fun id ah=>by rw[hr]at ah;cases ah) g1⟩
def qG(P:Program)(s:S)(fr:Nat)(op:Op)(v:V)(Δ:List (Nat×aa))(rd:List Nat):Prop:=
 ((∃qF,eG P s fr op=some (v,Δ,qF))/\rd=fO s op)\/
 (∃c f g first cap,op= .call c/\c.callee= .value f/\s.ev f= .func (.func g) first cap/\
  ((∃ds rs,bG s.o (first++c.args.toList.map s.ev++cap)=some ds/\bJ P g ds (.ret rs)/\v=gh rs/\rd=fO s op/\
    (Δ=cn s.o (V.aR (first++c.args.toList.map s.ev++cap))\/D.gf rs=true/\Δ=[]))\/
   (∃rs,zC P g (first++c.args.toList.map s.ev++cap) rd s.o (.ret rs) Δ/\v=gh rs/\∀id∈rd,id<s.nx)\/
   (∃ds,bG s.o (first++c.args.toList.map s.ev++cap)=some ds/\Hi P g ds v/\rd=fO s op/\Δ=cn s.o (V.aR (first++c.args.toList.map s.ev++cap)))\/
   (vA P g (first++c.args.toList.map s.ev++cap) rd s.o fr v Δ/\∀id∈rd,id<s.nx)))
def tO(P:Program)(s:S)(op:Op)(v:V)(ws rd:List Nat):Prop:=
 ∃c f g first cap,op= .call c/\c.callee= .value f/\s.ev f= .func (.func g) first cap/\
  ((∃ds x,bG s.o (first++c.args.toList.map s.ev++cap)=some ds/\bJ P g ds (.bf x)/\x.flat=true/\v= .d x/\rd=fO s op/\ws=[])\/
   (∃x Δ,zC P g (first++c.args.toList.map s.ev++cap) rd s.o (.bf x) Δ/\v= .d x/\ws=Δ.map (·.1)/\∀id∈rd,id<s.nx))
def cD(s:S)(gd:Option (Nat×Bool))(b:Bool):Prop:=
 match gd with
 |none=>b=true
 |some (d,want)=>match s.env d with
  | .d (.bool c)=>b=(c==want)
  | .bQ []=>b=false
  |_=>False
def C3(P:Program)(s:S)(fr:Nat)(o:bK)(x:dQ):Prop:=
 match x with
 | .skip=>cD s o.gd false
 | .val v Δ rd=>cD s o.gd true/\qG P s fr o.op v Δ rd
 | .bf v ws rd=>cD s o.gd true/\tO P s o.op v ws rd
 | .dz=>True
def dx(oc:Nat->bK)(ac:Nat->dQ)(E:Nat->Bool)(s:S):Nat->S
 |0=>s
 |k+1=>if E k then p5 (oc k).dst (ac k) (dx oc ac E s k)else dx oc ac E s k
structure Compat (oc:Nat->bK) (ac:Nat->dQ) (R:Nat->List Nat) (i j:Nat):Prop where
 di:∀d,(oc i).dst=some d->d∉dH (oc j)
 dj:∀d,(oc j).dst=some d->d∉dH (oc i)
 wi:∀id∈gU (ac i),id∉R j/\id∉gU (ac j)
 wj:∀id∈gU (ac j),id∉R i
section
variable {P:Program}{oc:Nat->bK}{ac:Nat->dQ}{s:S}{n:Nat}{E:Nat->Bool}{R:Nat->List Nat}{pr:Nat->Nat->Prop}
theorem vC{env:Nat->V}{dst:Option Tmp}{v:V}{t:Nat}(h:∀d,dst=some d->d≠t):aO env dst v t=env t:=by
 cases dst with
 |none=>rfl
 |some d=>simp only[aO,aE];rw[if_neg (fun e=>h d rfl e.symm)]
theorem eC{o:Nat->aa}:∀ {Δ:List (Nat×aa)} {id:Nat},id∉Δ.map (·.1)->put o Δ id=o id
 |[],_,_=>rfl
 |x::Δ,id,h=>by
  simp only[List.map_cons,List.mem_cons,not_or]at h
  have:=eC (o:=aQ o x.1 x.2) (Δ:=Δ) h.2
  simp only[put,List.foldl_cons]at this|-
  rw[this];simp[h.1]
theorem rW{o o':Nat->aa}:∀ {Δ:List (Nat×aa)} {id:Nat},id∈Δ.map (·.1)\/o id=o' id->put o Δ id=put o' Δ id
 |[],_,h=>by rcases h with h|h;· simp at h
             ·exact h
 |x::Δ,id,h=>by
  simp only[put,List.foldl_cons]
  refine rW (Δ:=Δ) (o:=aQ o x.1 x.2) (o':=aQ o' x.1 x.2) ?_
  simp only[List.map_cons,List.mem_cons]at h
  simp only[aE]
  by_cases e:id=x.1
  ·right;simp[e]
  ·rcases h with(h|h)|h
   ·exact absurd h e
   ·exact .inl h
   ·right;simp[e,h]
theorem gV{dst:Option Tmp}{x:dQ}{t:Nat}(h:∀d,dst=some d->d≠t):(p5 dst x s).env t=s.env t:=by
 cases x<;>exact vC h
theorem jI{dst:Option Tmp}{x:dQ}{id:Nat}(h:id∉gU x):(p5 dst x s).o id=s.o id:=by
 cases x with
 |val v Δ rd=>exact eC h
 |_=>rfl
theorem rX{dst:Option Tmp}{x:dQ}{s':S}{t:Nat}(h:s.env t=s'.env t):(p5 dst x s).env t=(p5 dst x s').env t:=by
 cases x<;>cases dst<;>simp only[p5,aO,aE]<;>first|exact h|(split<;>first|rfl|exact h)
theorem vE{dst:Option Tmp}{x:dQ}{s':S}{id:Nat}(h:s.o id=s'.o id):(p5 dst x s).o id=(p5 dst x s').o id:=by
 cases x with
 |val v Δ rd=>exact rW (.inr h)
 |_=>exact h
theorem put_comm{o:Nat->aa}{Δ wD:List (Nat×aa)}(h:∀id∈Δ.map (·.1),id∉wD.map (·.1)):put (put o Δ) wD=put (put o wD) Δ:=by
 funext id
 by_cases h1:id∈Δ.map (·.1)
 ·rw[eC (h id h1)]
  exact rW (.inl h1)
 ·rw[eC (Δ:=Δ) h1]
  by_cases h2:id∈wD.map (·.1)
  ·exact rW (.inl h2)
  ·rw[eC h2,eC h2,eC h1]
theorem qH{env:Nat->V}{d d':Option Tmp}{v v':V}(h:∀t,d=some t->d'≠some t):aO (aO env d v) d' v'=aO (aO env d' v') d v:=by
 cases d with
 |none=>rfl
 |some t=>
  cases d' with
  |none=>rfl
  |some t'=>
   have eW:t'≠t:=fun e=>h t rfl (by rw[e])
   funext i
   simp only[aO,aE]
   by_cases e1:i=t<;>by_cases e2:i=t'
   ·exact absurd (e2.symm.trans e1) eW
   all_goals simp[e1,e2]
   ·intro e;exact absurd e.symm eW
   ·intro e;exact absurd e eW
theorem zD{d d':Option Tmp}{x x':dQ}(hd:∀t,d=some t->d'≠some t)(hw:∀id∈gU x,id∉gU x'):p5 d x (p5 d' x' s)=p5 d' x' (p5 d x s):=by
 cases x<;>cases x'<;>simp only[p5]<;>first
  |rw[qH hd,put_comm hw]
  |rw[qH hd]
def rY(n:Nat)(pr:Nat->Nat->Prop)(E:Nat->Bool):Prop:=∀k,k<n->E k=true->∀j,pr k j->E j=true
theorem C4(_:∀k,k<n->∀j,pr k j->j<k)(hc:∀i j,i<j->j<n-> ¬pr j i->Compat oc ac R i j)(hE:rY n pr E){i:Nat}(hi:i<n)(jq:E i=false)(zE:∀j,pr i j->E j=true):
 (∀t∈dH (oc i),(dx oc ac E s n).env t=(dx oc ac (fun _=>true) s i).env t)/\(∀id∈R i,(dx oc ac E s n).o id=(dx oc ac (fun _=>true) s i).o id):=by
 have a:∀k,k<=i->(∀t∈dH (oc i),(dx oc ac E s k).env t=(dx oc ac (fun _=>true) s k).env t)/\(∀id∈R i,(dx oc ac E s k).o id=(dx oc ac (fun _=>true) s k).o id):=by
  intro k
  induction k with
  |zero=>intro _;exact⟨fun _ _=>rfl,fun _ _=>rfl⟩
  |succ k ih=>
   intro hk
   obtain⟨h1,h2⟩:=ih (by omega)
   simp only[dx,if_true]
   by_cases eP:E k=true
   ·simp only[eP,if_true]
    exact⟨fun t ht=>rX (h1 t ht),fun id ah=>vE (h2 id ah)⟩
   ·have CO: ¬pr i k:=fun hm=>eP (zE k hm)
    have c:=hc k i (by omega) hi CO
    simp only[eP]
    refine⟨fun t ht=> ?_,fun id ah=> ?_⟩
    ·rw[gV fun d hd e=>c.di d hd (e ▸ ht)];exact h1 t ht
    ·rw[jI fun hm=>(c.wi id hm).1 ah];exact h2 id ah
 have b:∀k,i<=k->k<=n->(∀t∈dH (oc i),(dx oc ac E s k).env t=(dx oc ac (fun _=>true) s i).env t)/\(∀id∈R i,(dx oc ac E s k).o id=(dx oc ac (fun _=>true) s i).o id):=by
  intro k Bx
  induction Bx with
  |refl=>intro _;exact a i (Nat.le_refl _)
  | @step k Bx ih=>
    intro hk
    have Bx:i<=k:=Bx
    obtain⟨h1,h2⟩:=ih (by omega)
    simp only[dx]
    by_cases eP:E k=true
    ·have eW:i≠k:=fun e=>by rw[e,eP]at jq;cases jq
     have CO: ¬pr k i:=fun hm=>by have:=hE k (by omega) eP i hm;rw[jq]at this;cases this
     have c:=hc i k (by omega) (by omega) CO
     simp only[eP,if_true]
     refine⟨fun t ht=> ?_,fun id ah=> ?_⟩
     ·rw[gV fun d hd e=>c.dj d hd (e ▸ ht)];exact h1 t ht
     ·rw[jI fun hm=>c.wj id hm ah];exact h2 id ah
    ·simp only[eP];exact⟨h1,h2⟩
 exact b n (by omega) (Nat.le_refl _)
theorem insert(hc:∀i j,i<j->j<n-> ¬pr j i->Compat oc ac R i j)(hE:rY n pr E){i:Nat}(hi:i<n)(jq:E i=false){E':Nat->Bool}(vF:∀k,E' k=(E k||k==i)):
 dx oc ac E' s n=p5 (oc i).dst (ac i) (dx oc ac E s n):=by
 have a:∀k,k<=i->dx oc ac E' s k=dx oc ac E s k:=by
  intro k
  induction k with
  |zero=>intro _;rfl
  |succ k ih=>
   intro hk
   have:E' k=E k:=by rw[vF k];have:(k==i)=false:=by simp;omega
                     simp[this]
   simp only[dx,this,ih (by omega)]
 have b:∀k,i+1<=k->k<=n->dx oc ac E' s k=p5 (oc i).dst (ac i) (dx oc ac E s k):=by
  intro k Bx
  induction Bx with
  |refl=>
   intro _
   have h1:E' i=true:=by rw[vF i];simp
   simp only[dx,h1,jq,if_true,a i (Nat.le_refl _)]
   rfl
  | @step k Bx ih=>
    intro hk
    have Bx:i+1<=k:=Bx
    have h1:E' k=E k:=by rw[vF k];have:(k==i)=false:=by simp;omega
                         simp[this]
    simp only[dx,h1,ih (by omega)]
    by_cases eP:E k=true
    ·have CO: ¬pr k i:=fun hm=>by have:=hE k (by omega) eP i hm;rw[jq]at this;cases this
     have c:=hc i k (by omega) (by omega) CO
     simp only[eP,if_true]
     refine zD (fun t ht he=> ?_) (fun id ah hm=>(c.wi id hm).2 ah)
     exact c.di t he (by simp[dH,ht])
    ·simp only[eP];rfl
 exact b n (by omega) (Nat.le_refl _)
end
end Go.Proofs.YtpkobkdgcanmjaaGreat
namespace Go.Proofs.YtpkobkdgcanmjaaGreat
structure nP (M:Nat->Prop) (b7:Place) (H0:Hp) (w0:World) (n:Nat) (cx:Cx) (φ:Place) (s:S) (us:Nat->Prop) (a:Act) (w:World):Prop where
 heap:ai M φ ⟨s.o,us⟩ w
 tr:Trans b7 H0 w0 φ ⟨s.o,us⟩ w
 size:a.tmps.size=n
 defers:oM cx w0 φ ⟨s.o,us⟩ w a.defers
 env:∀i,V.den (ad M φ ⟨s.o,us⟩) φ ⟨s.o,us⟩ w (s.env i) (a.tmps.getD i undef)
section
variable {P:Program}{M:Nat->Prop}{φ b7:Place}{H0:Hp}{w w' w0:World}{n:Nat}{s:S}{us:Nat->Prop}{a:Act}{cx:Cx}{ro:Option Nat}{k:Nat}
variable {next:Act->World->Prop}{Q:Exit->Act->World->Prop}
theorem fi(hs:nP M b7 H0 w0 n cx φ s us a w){aj:Place}{H':Hp}(hH:ai M aj H' w')(ht:Trans φ ⟨s.o,us⟩ w aj H' w'){v:V}{val:Value}(hd:V.den (ad M aj H') aj H' w' v val){dst:Option Tmp}(cf:eK n dst)
 {o':Nat->aa} {us':Nat->Prop} (ho:H'.o=o') (hu:∀id,H'.us id->us' id):nP M b7 H0 w0 n cx aj ⟨aO s.env dst v,o',s.nx⟩ us' (a.put dst val) w':=by
 obtain⟨k1,k2⟩:=fF hH hu
 subst ho
 refine⟨k1,hs.tr.trans (ht.trans k2), ?_, ?_,fun i=> ?_⟩
 ·cases dst<;>simp[Act.put,hs.size]
 ·have:=hs.defers.mono (ht.trans k2);cases dst<;>exact this
 ·cases dst with
  |none=>exact V.ax (ht.trans k2) _ _ (hs.env i)
  |some d=>
   simp only[eK]at cf
   simp only[aO,aE,Act.put]
   by_cases hi:i=d
   ·subst hi
    have h1:(a.tmps.setIfInBounds i val).getD i undef=val:=by simp[Array.getD,hs.size,cf]
    rw[if_pos rfl,h1]
    exact V.ax k2 _ _ hd
   ·have h1:(a.tmps.setIfInBounds d val).getD i undef=a.tmps.getD i undef:=by
     simp only[Array.getD_eq_getD_getElem?]
     rw[Array.getElem?_setIfInBounds_ne (Ne.symm hi)]
    rw[if_neg hi,h1]
    exact V.ax (ht.trans k2) _ _ (hs.env i)
theorem qI(hs:nP M b7 H0 w0 n cx φ s us a w){o:Oper}{op:Op}(cP:o.op=op){c:Call}{f:Operand}{g:FuncId}{first cap:List V}(hc:op= .call c)(db:c.callee= .value f)(oN:s.ev f= .func (.func g) first cap):
 ∃vals:Array Value,V.au (ad M φ ⟨s.o,us⟩) φ ⟨s.o,us⟩ w (first++c.args.toList.map s.ev++cap) vals.toList/\(gQ P g->(execOp a.eval o).run P w= .ok (.enter g vals) w):=by
 have hf:=ju (M:=M) (φ:=φ) (H:=⟨s.o,us⟩) (w:=w) s a hs.env f
 have dh:=gD (M:=M) (φ:=φ) (H:=⟨s.o,us⟩) (w:=w) s a hs.env c.args.toList
 rw[oN]at hf
 obtain⟨fa,ca,DU,va,G9⟩:=hf
 refine⟨fa++c.args.map a.eval++ca, ?_,fun he=> ?_⟩
 ·rw[Array.toList_append,Array.toList_append,Array.toList_map]
  exact V.iV va dh G9
 ·have:=ir (w:=w) he (fa++c.args.map a.eval++ca)
  generalize jg:fa++c.args.map a.eval++ca=vals at this
  simp[execOp,cP,hc,resolve,db,DU,Deferred.ofValue,invoke,this,jg]
theorem tP(hs:nP M b7 H0 w0 n cx φ s us a w){fr:Nat}(c0: ¬us fr)(p4:∀id,id<s.nx->us id){o:Oper}{op:Op}(cP:o.op=op)(cf:eK n o.dst){v:V}{Δ:List (Nat×aa)}{rd:List Nat}(h:qG P s fr op v Δ rd)
 (hN:∀aj a' w',nP M b7 H0 w0 n cx aj (p5 o.dst (.val v Δ rd) s) (fun id=>us id\/id=fr) a' w'->next a' w'):o.wpIn (cV ro) k P a w next Q:=by
 rcases h with⟨⟨qF,h⟩,_⟩|⟨c,f,g,first,cap,hc,db,oN,h⟩
 ·have h1:=tK (K:=fun v' wD _=>v'=v/\wD=Δ) h ⟨rfl,rfl⟩
  obtain⟨nx,val,w',aj,v',wD,qF,⟨rfl,rfl⟩,hr,On,g1,g2,g3,g4⟩:=qy hs.heap (s:=s) rfl hs.env c0 cP h1
  have rD:=fi hs g1 g2 g3 cf (o':=put s.o wD) (us':=fun id=>us id\/id=fr) rfl (fun id hu=>hu.elim .inl (g4 id))
  refine gJ (fun c hc=>by rw[cP]at hc;subst hc;exact h1) ?_
  rw[hr]
  rcases On with rfl|⟨rfl,rfl⟩
  ·exact hN _ _ _ rD
  ·exact hN _ _ _ rD
 ·refine gJ (fun c' xO=>by rw[cP,hc]at xO;cases xO) ?_
  obtain⟨vals,aJ,dO⟩:=qI (P:=P) hs cP hc db oN
  generalize first++c.args.toList.map s.ev++cap=all at h aJ
  rcases h with⟨ds,rs,dA,hP,rfl,_,D0⟩|⟨rs,hH,rfl,kD⟩|⟨ds,dA,hP,_,rfl⟩|⟨hH,kD⟩
  ·obtain⟨f1,f2,f3,f4,f5⟩:=cB hs.heap (V.aR all) (bW all _ aJ)
   have iQ:(⟨s.o,us⟩:Hp).put (cn s.o (V.aR all))=⟨put s.o (cn s.o (V.aR all)),us⟩:=iq (H:=⟨s.o,us⟩) (by rw[ki];exact bW all _ aJ)
   have qo:=cI f1 all ds _ f3 dA (V.aB f2 _ _ aJ)
   have dF:=hP.2 _ w vals (fun b hb=>hb.elim (f1.p7 b) fun hl=>(f1.ours b hl).2) qo
   rw[dO hP.1]
   refine⟨fun hd=>by simp[cV]at hd,cy (dF.mono fun e w' ⟨hk,ho⟩=> ?_)⟩
   cases e with
   |panicked ch=>cases rs with|nil=>exact ho.elim|cons x l=>cases l<;>exact ho.elim
   |outgrown=>cases rs with|nil=>exact ho.elim|cons x l=>cases l<;>exact ho.elim
   |returned val=>
    rcases D0 with rfl|⟨lA,rfl⟩
    ·obtain⟨k1,k2⟩:=ew f1 hk
     refine hN _ _ _ (fi hs k1 (f2.trans k2) (iu ho) cf (by rw[iQ]) fun id hu=> ?_)
     rw[iQ]at hu;exact .inl hu
    ·obtain⟨k1,k2⟩:=ew hs.heap hk
     have ho:=R.rE (out:= .ret rs) (B':=ad M φ ⟨s.o,us⟩) lA ho
     exact hN _ _ _ (fi hs k1 k2 (iu ho) cf rfl fun id hu=> .inl hu)
  ·have dF:=hH.2 s.o us M φ w vals (fun id ah=>⟨rfl,p4 id (kD id ah)⟩) hs.heap aJ
   rw[dO hH.1]
   refine⟨fun hd=>by simp[cV]at hd,cy (dF.mono fun e w' ⟨aj,k1,k2,ho⟩=> ?_)⟩
   cases e with
   |panicked ch=>cases rs with|nil=>exact ho.elim|cons x l=>cases l<;>exact ho.elim
   |outgrown=>cases rs with|nil=>exact ho.elim|cons x l=>cases l<;>exact ho.elim
   |returned val=>exact hN _ _ _ (fi hs k1 k2 (iu ho) cf rfl fun id hu=> .inl hu)
  ·obtain⟨f1,f2,f3,f4,f5⟩:=cB hs.heap (V.aR all) (bW all _ aJ)
   have iQ:(⟨s.o,us⟩:Hp).put (cn s.o (V.aR all))=⟨put s.o (cn s.o (V.aR all)),us⟩:=iq (H:=⟨s.o,us⟩) (by rw[ki];exact bW all _ aJ)
   have qo:=cI f1 all ds _ f3 dA (V.aB f2 _ _ aJ)
   have dF:=hP.2 _ w vals (fun b hb=>hb.elim (f1.p7 b) fun hl=>(f1.ours b hl).2) qo
   rw[dO hP.1]
   refine⟨fun hd=>by simp[cV]at hd,cy (dF.mono fun e w' ⟨hk,val,he,ho⟩=> ?_)⟩
   subst he
   obtain⟨k1,k2⟩:=ew f1 hk
   refine hN _ _ _ (fi hs k1 (f2.trans k2) (ho _ _) cf (by rw[iQ]) fun id hu=> ?_)
   rw[iQ]at hu;exact .inl hu
  ·have dF:=hH.2 s.o us M φ w vals (fun id ah=>⟨rfl,p4 id (kD id ah)⟩) c0 hs.heap aJ
   rw[dO hH.1]
   refine⟨fun hd=>by simp[cV]at hd,cy (dF.mono fun e w' ⟨aj,k1,k2,val,he,ho⟩=> ?_)⟩
   subst he
   exact hN _ _ _ (fi hs k1 k2 ho cf rfl fun id hu=>hu)
theorem x6{o o2:Nat->aa}{us us2:Nat->Prop}(hH:ai M φ ⟨o,us⟩ w)(ho:∀id,o2 id=o id\/o2 id= .no)(hu:∀id,us id->us2 id):ai M φ ⟨o2,us2⟩ w/\Trans φ ⟨o,us⟩ w φ ⟨o2,us2⟩ w:=by
 have hl:∀id,(o2 id).live=true->(o id).live=true:=fun id h=>by
  rcases ho id with e|e
  ·rw[<- e];exact h
  ·rw[e]at h;cases h
 have A3:∀b,bw φ ⟨o2,us2⟩ b->bw φ ⟨o,us⟩ b:=fun b ⟨id,h1,h2⟩=>⟨id,hl id h1,h2⟩
 have ht:Trans φ ⟨o,us⟩ w φ ⟨o2,us2⟩ w:=by
  refine⟨dJ.refl _ _,fun b hb=> .inl (A3 b hb),⟨hu,fun id _ hr=> ?_,fun id e' _ he=> ?_⟩⟩
  ·rcases ho id with e|e
   ·exact⟨by show(o id).bp=true;rw[<- e];exact hr,rfl⟩
   ·rw[show(⟨o2,us2⟩:Hp).o id= .no from e]at hr;cases hr
  ·rcases ho id with e|e
   ·exact⟨e',by show(o id).aP=some e';rw[<- e];exact he,Nat.le_refl _,fun _=>rfl⟩
   ·rw[show(⟨o2,us2⟩:Hp).o id= .no from e]at he;cases he
 refine⟨⟨fun id=> ?_,fun id hn=> ?_,fun i j b hi hj=>hH.apart i j b (hl i hi) (hl j hj),fun b hb=>hH.ours b (A3 b hb),hH.p7⟩,ht⟩
 ·rcases ho id with e|e
  ·exact(hH.ok id).mono ht e rfl fun _ _ _=>rfl
  ·unfold aC;rw[show(⟨o2,us2⟩:Hp).o id= .no from e];trivial
 ·rcases ho id with e|e
  ·exact e.trans (hH.fresh id fun h=>hn (hu id h))
  ·exact e
def oZ(ds:List Nat)(wl:List Nat)(N:Nat)(s:S):S:=
 ⟨fun t=>if ds.contains t=true then .ak else s.env t,fun id=>if wl.contains id=true then .no else s.o id,s.nx+N⟩
theorem zF(hs:nP M b7 H0 w0 n cx φ s us a w)(p4:∀id,id<s.nx->us id){N:Nat}(df:∀id,us id->id<s.nx+N){o:Oper}{op:Op}(cP:o.op=op){v:V}{ws rd:List Nat}(h:tO P s op v ws rd)
 {s0:S} {ds wl:List Nat} (dA:∀t,ds.contains t=false->s.env t=s0.env t) (Oo:∀id,wl.contains id=false->s.o id=s0.o id) (Bz:∀id∈ws,wl.contains id=true) (rJ:s0.nx=s.nx)
 (hQ:∀aj w' val,bI M b7 H0 w0 n cx aj (oZ ds wl N s0) a w'->V.den (ad M aj (oZ ds wl N s0).H) aj (oZ ds wl N s0).H w' v val->Q (.panic [{v:=val,recovered:=false}]) a w'):o.wpIn (cV ro) k P a w next Q:=by
 obtain⟨c,f,g,first,cap,hc,db,oN,h⟩:=h
 refine gJ (fun c' xO=>by rw[cP,hc]at xO;cases xO) ?_
 obtain⟨vals,aJ,dO⟩:=qI (P:=P) hs cP hc db oN
 generalize first++c.args.toList.map s.ev++cap=all at h aJ
 have fin:∀ (aj:Place) (w':World) (o':Nat->aa) (val:Value),(∀id,wl.contains id=false->o' id=s.o id)->ai M aj ⟨o',us⟩ w'->Trans φ ⟨s.o,us⟩ w aj ⟨o',us⟩ w'->V.den (ad M aj ⟨o',us⟩) aj ⟨o',us⟩ w' v val->Q (.panic [{v:=val,recovered:=false}]) a w':=by
  intro aj w' o' val tE k1 k2 k3
  obtain⟨m1,m2⟩:=x6 (o2:=(oZ ds wl N s0).o) (us2:=fun id=>id<s0.nx+N) k1 (fun id=>by
   show(if wl.contains id=true then aa.no else s0.o id)=o' id\/_
   by_cases hw:wl.contains id=true
   ·right;simp only[oZ];rw[if_pos hw]
   ·left;rw[if_neg hw,tE id (by simpa using hw),Oo id (by simpa using hw)]) (fun id h=>by rw[rJ];exact df id h)
  have ht:=hs.tr.trans (k2.trans m2)
  refine hQ aj w' val ⟨m1,ht,hs.size,hs.defers.mono (k2.trans m2),fun i=> ?_⟩ (V.ax m2 _ _ k3)
  show V.den _ _ _ _ (if ds.contains i=true then V.ak else s0.env i) _
  by_cases hd:ds.contains i=true
  ·rw[if_pos hd];trivial
  ·rw[if_neg hd, <- dA i (by simpa using hd)];exact V.ax (k2.trans m2) _ _ (hs.env i)
 rcases h with⟨dd,x,Oq,hP,lA,rfl,_,rfl⟩|⟨x,Δ,hH,rfl,rfl,kD⟩
 ·obtain⟨f1,f2,f3,f4,f5⟩:=cB hs.heap (V.aR all) (bW all _ aJ)
  have qo:=cI f1 all dd _ f3 Oq (V.aB f2 _ _ aJ)
  have dF:=hP.2 _ w vals (fun b hb=>hb.elim (f1.p7 b) fun hl=>(f1.ours b hl).2) qo
  rw[dO hP.1]
  refine⟨fun hd=>by simp[cV]at hd,cy (dF.mono fun e w' ⟨hk,ho⟩=> ?_)⟩
  cases e with
  |returned val=>exact ho.elim
  |outgrown=>exact ho.elim
  |panicked ch=>
   obtain⟨k1,k2⟩:=ew hs.heap hk
   have ho:=R.rE (out:= .bf x) (B':=ad M φ ⟨s.o,us⟩) lA ho
   obtain⟨val,rfl,hd⟩:=ho
   exact fin φ w' s.o val (fun _ _=>rfl) k1 k2 hd
 ·have dF:=hH.2 s.o us M φ w vals (fun id ah=>⟨rfl,p4 id (kD id ah)⟩) hs.heap aJ
  rw[dO hH.1]
  refine⟨fun hd=>by simp[cV]at hd,cy (dF.mono fun e w' ⟨aj,k1,k2,ho⟩=> ?_)⟩
  cases e with
  |returned val=>exact ho.elim
  |outgrown=>exact ho.elim
  |panicked ch=>
   obtain⟨val,rfl,hd⟩:=ho
   exact fin aj w' _ val (fun id ah=>rU fun y hy e=>by
    have:=Bz y.1 (List.mem_map_of_mem hy)
    rw[e,ah]at this;cases this) k1 k2 hd
theorem dW(cO:∀i,V.den (ad M φ ⟨s.o,us⟩) φ ⟨s.o,us⟩ w (s.env i) (a.tmps.getD i undef)){ops:Array Oper}{o:Oper}{gd:Option (Nat×Bool)}{b:Bool}
 (hg:match o.guard with|none=>gd=none|some (j,want)=>∃d,nd ops j=some d/\gd=some (d,want)) (h:cD s gd b):Region.wanted o (yielded ops a.tmps)=b:=by
 unfold Region.wanted
 split at hg
 ·rename_i hn;simp only[hn];subst hg;exact h.symm
 ·rename_i j want hn
  simp only[hn]
  obtain⟨d,hd,rfl⟩:=hg
  unfold nd at hd
  unfold yielded
  simp only[hd,Option.bind_some]
  simp only[cD]at h
  have he:=cO d
  split at h
  ·rename_i c hv
   rw[hv]at he
   simp only[V.den,D.den]at he
   have:a.tmps[d]? =some (.bool c):=by
    rw[Array.getD_eq_getD_getElem?]at he
    cases hx:a.tmps[d]? with
    |none=>rw[hx]at he;simp[undef]at he
    |some x=>rw[hx]at he;simp at he;rw[he]
   simp only[this,h]
   cases c<;>cases want<;>rfl
  ·rename_i hv
   rw[hv]at he
   obtain⟨arr,bZ,hn⟩:=he
   have:∀c,a.tmps[d]? ≠some (.bool c):=by
    intro c hx
    rw[Array.getD_eq_getD_getElem?,hx]at bZ
    simp at bZ
   subst h
   cases hx:a.tmps[d]? with
   |none=>rfl
   |some x=>cases x<;>first|(exact absurd hx (this _))|rfl
  ·exact h.elim
theorem dX{s s':S}{gd:Option (Nat×Bool)}{b:Bool}(h:∀d want,gd=some (d,want)->s'.env d=s.env d)(hg:cD s gd b):cD s' gd b:=by
 unfold cD at*
 cases gd with
 |none=>exact hg
 |some p=>obtain⟨d,want⟩:=p;simp only at hg|-;rw[h d want rfl];exact hg
theorem tQ{s s':S}{x:Operand}(h:∀t,x= .tmp t->s'.env t=s.env t):s'.ev x=s.ev x:=by
 cases x<;>simp only[S.ev]
 exact h _ rfl
theorem o6{s s':S}{op:Op}{c:Call}{f:Operand}{g:FuncId}{first cap:List V}(hv:∀x∈op.operands,s'.ev x=s.ev x)(hc:op= .call c)(db:c.callee= .value f)(oN:s.ev f= .func (.func g) first cap):
 s'.ev f= .func (.func g) first cap/\c.args.toList.map s'.ev=c.args.toList.map s.ev:=by
 subst hc
 exact⟨(hv f (by simp only[Op.operands,Call.operands,db];exact Array.mem_append.2 (.inl (by simp)))).trans oN,
  List.map_congr_left fun x hx=>hv x (by simp only[Op.operands,Call.operands];exact Array.mem_append.2 (.inr (Array.mem_toList_iff.1 hx)))⟩
theorem zC.frame {g:FuncId}{args:List V}{rd:List Nat}{o o':Nat->aa}{out:R}{Δ:List (Nat×aa)}(ho:∀id∈rd,o' id=o id)(h:zC P g args rd o out Δ):zC P g args rd o' out Δ:=
 ⟨h.1,fun o2 us M φ w vals h1 h2 h3=>h.2 o2 us M φ w vals (fun id ah=>⟨(h1 id ah).1.trans (ho id ah),(h1 id ah).2⟩) h2 h3⟩
theorem vA.frame {g:FuncId}{args:List V}{rd:List Nat}{o o':Nat->aa}{fr:Nat}{v:V}{Δ:List (Nat×aa)}(ho:∀id∈rd,o' id=o id)(h:vA P g args rd o fr v Δ):vA P g args rd o' fr v Δ:=
 ⟨h.1,fun o2 us M φ w vals h1 h2 h3=>h.2 o2 us M φ w vals (fun id ah=>⟨(h1 id ah).1.trans (ho id ah),(h1 id ah).2⟩) h2 h3⟩
theorem ny{s s':S}{fr:Nat}{op:Op}{v:V}{Δ:List (Nat×aa)}{rd:List Nat}(hv:∀x∈op.operands,s'.ev x=s.ev x)(ho:∀id∈rd,s'.o id=s.o id)(p4:s'.nx=s.nx)(h:qG P s fr op v Δ rd):∃qF,qG P s' fr op v Δ qF:=by
 rcases h with⟨⟨qF,h⟩,kD⟩|⟨c,f,g,first,cap,rfl,db,oN,h⟩
 ·exact⟨_, .inl ⟨⟨qF,by rw[vz op hv (by rw[<- kD];exact ho)];exact h⟩,rfl⟩⟩
 ·obtain⟨hf,hm⟩:=o6 hv rfl db oN
  rcases h with⟨ds,rs,dA,hP,pZ,kD,D0⟩|⟨rs,hH,pZ,kD⟩|⟨ds,dA,hP,kD,D0⟩|⟨hH,kD⟩
  ·have hr:∀id∈V.aw (first++c.args.toList.map s.ev++cap),s'.o id=s.o id:=fun id ah=>ho id (by rw[kD];simp only[fO,db,oN];exact ah)
   refine⟨_, .inr ⟨c,f,g,first,cap,rfl,db,hf, .inl ⟨ds,rs,by rw[hm,e7 _ hr];exact dA,hP,pZ,rfl, ?_⟩⟩⟩
   rw[hm,eB (o:=s.o) fun id ah=>hr id (gm _ id ah)]
   exact D0
  ·exact⟨rd, .inr ⟨c,f,g,first,cap,rfl,db,hf, .inr (.inl ⟨rs,by rw[hm];exact hH.frame ho,pZ,by rw[p4];exact kD⟩)⟩⟩
  ·have hr:∀id∈V.aw (first++c.args.toList.map s.ev++cap),s'.o id=s.o id:=fun id ah=>ho id (by rw[kD];simp only[fO,db,oN];exact ah)
   refine⟨_, .inr ⟨c,f,g,first,cap,rfl,db,hf, .inr (.inr (.inl ⟨ds,by rw[hm,e7 _ hr];exact dA,hP,rfl, ?_⟩))⟩⟩
   rw[hm,eB (o:=s.o) fun id ah=>hr id (gm _ id ah)]
   exact D0
  ·exact⟨rd, .inr ⟨c,f,g,first,cap,rfl,db,hf, .inr (.inr (.inr ⟨by rw[hm];exact hH.frame ho,by rw[p4];exact kD⟩))⟩⟩
theorem tR{s s':S}{op:Op}{v:V}{ws rd:List Nat}(hv:∀x∈op.operands,s'.ev x=s.ev x)(ho:∀id∈rd,s'.o id=s.o id)(p4:s'.nx=s.nx)(h:tO P s op v ws rd):tO P s' op v ws rd:=by
 obtain⟨c,f,g,first,cap,rfl,db,oN,h⟩:=h
 obtain⟨hf,hm⟩:=o6 hv rfl db oN
 refine⟨c,f,g,first,cap,rfl,db,hf, ?_⟩
 rw[hm]
 rcases h with⟨ds,x,dA,hP,lA,pZ,kD,Bz⟩|⟨x,Δ,hH,pZ,Bz,kD⟩
 ·have hr:∀id∈V.aw (first++c.args.toList.map s.ev++cap),s'.o id=s.o id:=fun id ah=>ho id (by rw[kD];simp only[fO,db,oN];exact ah)
  exact .inl ⟨ds,x,by rw[e7 _ hr];exact dA,hP,lA,pZ,by rw[kD];simp only[fO,db,oN,hf,hm],Bz⟩
 ·exact .inr ⟨x,Δ,hH.frame ho,pZ,Bz,by rw[p4];exact kD⟩
theorem o7{ops:Array Oper}:∀ (l:List Oper) (l':List bK) (i:Nat) (o:Oper),hY n ops l=some l'->l[i]? =some o->yP n ops o=some (bu l' i)
 |[],_,_,_,_,h=>by simp at h
 |x::l,l',i,o,h,hi=>by
  simp only[hY]at h
  split at h
  ·rename_i y ys hy S5
   injection h with h;subst h
   cases i with
   |zero=>simp at hi;subst hi;exact hy
   |succ i=>exact o7 l ys i o S5 (by simpa using hi)
  ·cases h
theorem qJ{ops:Array Oper}{o:Oper}{x:bK}(h:yP n ops o=some x):x.op=o.op/\x.dst=o.dst/\eK n o.dst/\
 (match o.guard with|none=>x.gd=none|some (j,want)=>∃d,nd ops j=some d/\x.gd=some (d,want)):=by
 unfold yP at h
 split at h
 ·rename_i hd
  have cf:eK n o.dst:=by
   unfold u1 at hd;unfold eK
   split at hd<;>simp_all
  cases hg:o.guard with
  |none=>simp only[hg]at h;injection h with h;subst h;exact⟨rfl,rfl,cf,rfl⟩
  |some p=>
   obtain⟨j,want⟩:=p
   simp only[hg]at h
   cases C1:nd ops j with
   |none=>simp[C1]at h
   |some d=>simp only[C1]at h;injection h with h;subst h;exact⟨rfl,rfl,cf,d,C1,rfl⟩
 ·cases h
theorem lh{ops:Array Oper}{af:Array Bool}(nY:∀k,k<ops.size->∀j∈aX ops k,j<k)(hs:af.size=ops.size)(hr:Region.ready .any ops af=[]):∀k,k<ops.size->af.getD k false=true:=by
 intro k
 induction k using Nat.strongRecOn with
 |_ k ih=>
  intro hk
  cases hl:af.getD k false with
  |true=>rfl
  |false=>
   have:k∈Region.ready .any ops af:=by
    refine mem_ready.2 ⟨?_,ops[k],by simp[hk],fun e he hb=> ?_⟩
    ·simp only[Array.getD_eq_getD_getElem?]at hl|-
     rw[Array.getElem?_eq_getElem (by omega)]at hl|-
     simpa using hl
    ·have hm:e.on∈aX ops k:=by
      simp only[aX,Array.getElem?_eq_getElem hk,List.mem_map,List.mem_filter]
      exact⟨e,⟨Array.mem_toList_iff.2 he,hb⟩,rfl⟩
     exact ih _ (nY k hk _ hm) (by have:=nY k hk _ hm;omega)
   rw[hr]at this;cases this
theorem tS(hs:bI M b7 H0 w0 n cx φ s a w):bI M b7 H0 w0 n cx φ s a {w with drawn:=w.drawn+1}:=by
 obtain⟨k1,k2⟩:=ew (w':={w with drawn:=w.drawn+1}) hs.heap ⟨rfl,rfl,rfl,Nat.le_refl _,fun _ _ _=>rfl⟩
 exact⟨k1,hs.tr.trans k2,hs.size,hs.defers.mono k2,fun i=>V.ax k2 _ _ (hs.env i)⟩
theorem gq{oc:Nat->bK}{ac:Nat->dQ}{E:Nat->Bool}:∀k,(dx oc ac E s k).nx=s.nx
 |0=>rfl
 |k+1=>by
  simp only[dx]
  split
  ·cases ac k<;>exact gq k
  ·exact gq k
theorem wE{oc:Nat->bK}{ac:Nat->dQ}{E:Nat->Bool}{t:Nat}:∀k,(∀j,j<k->(oc j).dst≠some t)->(dx oc ac E s k).env t=s.env t
 |0,_=>rfl
 |k+1,h=>by
  have ih:=wE (oc:=oc) (ac:=ac) (E:=E) (t:=t) k fun j hj=>h j (by omega)
  simp only[dx]
  split
  ·rw[gV fun d hd e=>h k (by omega) (by rw[hd,e])];exact ih
  ·exact ih
theorem C5{oc:Nat->bK}{ac:Nat->dQ}{E:Nat->Bool}{id:Nat}:∀k,(∀j,j<k->id∉gU (ac j))->(dx oc ac E s k).o id=s.o id
 |0,_=>rfl
 |k+1,h=>by
  have ih:=C5 (oc:=oc) (ac:=ac) (E:=E) (id:=id) k fun j hj=>h j (by omega)
  simp only[dx]
  split
  ·rw[jI (h k (by omega))];exact ih
  ·exact ih
theorem tT(aS:P.follows .mixedOrders=true){ops:Array Oper}{l:List bK}{id:Nat}(kE:hY n ops ops.toList=some l)(nY:∀k,k<ops.size->∀j∈aX ops k,j<k){ac:Nat->dQ}{dl wl:List Nat}
 (hs:bI M b7 H0 w0 n cx φ s a w) (D1:∀i,i<ops.size->C3 P (dx (bu l) ac (fun _=>true) s i) (s.nx+i) (bu l i) (ac i))
 (D2:∀i,i<ops.size->ac i= .dz->∃j∈aX ops i,(ac j).ok=false)
 {po:Nat->Nat->Prop} (wF:∀E:Nat->Bool,(∀k,k<ops.size->E k=true->∀j∈aX ops k,E j=true)->∀k,k<ops.size->(∀j∈aX ops k,E j=true)->∀j,po k j->E j=true) (tU:∀k,k<ops.size->∀j,po k j->j<k)
 (hc:∀i j,i<j->j<ops.size-> ¬po j i->Compat (bu l) ac (fun i=>qf (ac i)) i j)
 (NO:∀i,i<ops.size->∀t,(bu l i).dst=some t->dl.contains t=true) (Oo:∀i,i<ops.size->∀id∈gU (ac i),wl.contains id=true)
 (Bz:∀i v ws rd,i<ops.size->ac i= .bf v ws rd->∀id∈ws,wl.contains id=true)
 (hQ:(∀i,i<ops.size->(ac i).ok=true)->∀φ a w,bI M b7 H0 w0 n cx φ ⟨(dx (bu l) ac (fun _=>true) s ops.size).env,(dx (bu l) ac (fun _=>true) s ops.size).o,s.nx+ops.size⟩ a w->Q .normal a w)
 (hX:∀i v ws rd,i<ops.size->ac i= .bf v ws rd->∀φ a w val,bI M b7 H0 w0 n cx φ (oZ dl wl ops.size s) a w->V.den (ad M φ (oZ dl wl ops.size s).H) φ (oZ dl wl ops.size s).H w v val->Q (.panic [{v:=val,recovered:=false}]) a w):
 (Code.region id ops true).wpIn (cV ro) k P Q a w:=by
 refine wpIn_region_any aS ?_
 have hs:=tS hs
 generalize ({w with drawn:=w.drawn+1}:World)=w at hs
 let N:=ops.size
 let Ef (af:Array Bool) (k:Nat):Bool:=af.getD k false
 let vG (af:Array Bool) (j:Nat):Prop:=j<s.nx\/∃k,k<N/\Ef af k=true/\j=s.nx+k
 have key:∀ (fuel:Nat) (af:Array Bool) (φ:Place) (a:Act) (w:World),af.size=N->af.count true+fuel=N->(∀k,k<N->Ef af k=true->∀j∈aX ops k,Ef af j=true)->(∀k,k<N->Ef af k=true->(ac k).ok=true)->
  nP M b7 H0 w0 n cx φ (dx (bu l) ac (Ef af) s N) (vG af) a w->wpAnyIn (cV ro) k P .any ops Q fuel af a w:=by
  have fin:∀ (af:Array Bool) (φ:Place) (a:Act) (w:World),(∀k,k<N->Ef af k=true)->(∀k,k<N->Ef af k=true->(ac k).ok=true)->nP M b7 H0 w0 n cx φ (dx (bu l) ac (Ef af) s N) (vG af) a w->Q .normal a w:=by
   intro af φ a w aJ vH hu
   have e:∀k,k<=N->dx (bu l) ac (Ef af) s k=dx (bu l) ac (fun _=>true) s k:=by
    intro k
    induction k with
    |zero=>intro _;rfl
    |succ k ih=>intro hk;simp only[dx,aJ k (by omega),ih (by omega)]
   rw[e N (Nat.le_refl _)]at hu
   obtain⟨k1,k2⟩:=fF (us':=fun id=>id<s.nx+N) hu.heap (fun id h=>by
    show id<s.nx+N
    rcases h with h|⟨k,hk,_,rfl⟩<;>omega)
   exact hQ (fun i hi=>vH i hi (aJ i hi)) φ a w ⟨k1,hu.tr.trans k2,hu.size,hu.defers.mono k2,fun i=>V.ax k2 _ _ (hu.env i)⟩
  intro fuel
  induction fuel with
  |zero=>
   intro af φ a w du x7 nK vH hu
   have aJ:∀k,k<N->Ef af k=true:=by
    intro k hk
    have h1:af.count true=af.size:=by omega
    rw[Array.count_eq_size]at h1
    have:=h1 af[k] (Array.getElem_mem (by omega))
    simp only[Ef,Array.getD_eq_getD_getElem?]
    rw[Array.getElem?_eq_getElem (by omega)]
    simpa using this.symm
   refine⟨?_,fin af φ a w aJ vH hu⟩
   rw[List.eq_nil_iff_forall_not_mem]
   intro k hk
   obtain⟨h1,o,h2,_⟩:=mem_ready.1 hk
   have S6:k<N:=(Array.getElem?_eq_some_iff.1 h2).1
   have:=aJ k S6
   simp only[Ef,Array.getD_eq_getD_getElem?]at this h1
   rw[Array.getElem?_eq_getElem (by omega)]at this h1
   simp only[Option.getD_some]at this h1
   rw[this]at h1;cases h1
  |succ fuel ih=>
   intro af φ a w du x7 nK vH hu
   refine⟨fun hr=>fin af φ a w (lh nY du hr) vH hu,fun i hi=> ?_⟩
   obtain⟨h1,o,h2,h3⟩:=mem_ready.1 hi
   have nQ:i<N:=(Array.getElem?_eq_some_iff.1 h2).1
   have jq:Ef af i=false:=by
    simp only[Ef,Array.getD_eq_getD_getElem?]at h1|-
    rw[Array.getElem?_eq_getElem (by omega)]at h1|-
    simpa using h1
   have zE:∀j∈aX ops i,Ef af j=true:=by
    intro j hj
    simp only[aX,h2,List.mem_map,List.mem_filter]at hj
    obtain⟨e,⟨he,hb⟩,rfl⟩:=hj
    exact h3 e (Array.mem_toList_iff.1 he) hb
   have zG:rY N po (Ef af):=fun k hk eP=>wF _ nK k hk (nK k hk eP)
   obtain⟨Hj,Nd⟩:=C4 (s:=s) tU hc zG nQ jq (wF _ nK i nQ zE)
   obtain⟨g1,g2,g3,g4⟩:=qJ (o7 _ _ i o kE (by simpa using h2))
   have c0: ¬vG af (s.nx+i):=by
    rintro(h|⟨k,_,hk,he⟩)
    ·omega
    ·have:k=i:=by omega
     subst this;rw[jq]at hk;cases hk
   have vF:∀k,Ef (af.setIfInBounds i true) k=(Ef af k||k==i):=by
    intro k
    simp only[Ef,Array.getD_eq_getD_getElem?]
    by_cases e:k=i
    ·subst e;simp[du,nQ]
    ·rw[Array.getElem?_setIfInBounds_ne (Ne.symm e)]
     have:(k==i)=false:=by simpa using e
     simp[this]
   have D3:=insert (s:=s) hc zG nQ jq vF
   have D4:∀k,k<N->Ef (af.setIfInBounds i true) k=true->∀j∈aX ops k,Ef (af.setIfInBounds i true) j=true:=by
    intro k hk eP j hj
    rw[vF]at eP|-
    by_cases e:k=i
    ·subst e;simp[zE j hj]
    ·have:(k==i)=false:=by simpa using e
     rw[this,Bool.or_false]at eP
     simp[nK k hk eP j hj]
   have zH:(af.setIfInBounds i true).count true+fuel=N:=by
    have bz:i<af.size:=by omega
    have e1:af.setIfInBounds i true=af.set i true bz:=by simp[Array.setIfInBounds,bz]
    have e2:af[i]=false:=by
     have:=jq
     simp only[Ef,Array.getD_eq_getD_getElem?]at this
     rw[Array.getElem?_eq_getElem bz]at this
     simpa using this
    rw[e1,Array.count_set bz,e2]
    simp
    omega
   have jh:(ac i).ok=true->∀aj a' w',nP M b7 H0 w0 n cx aj (p5 o.dst (ac i) (dx (bu l) ac (Ef af) s N)) (fun id=>vG af id\/id=s.nx+i) a' w'->wpAnyIn (cV ro) k P .any ops Q fuel (af.setIfInBounds i true) a' w':=by
    intro Hk aj a' w' rn
    refine ih _ aj a' w' (by simp[du]) zH D4 (fun k hk eP=> ?_) ?_
    ·rw[vF]at eP
     by_cases e:k=i
     ·subst e;exact Hk
     ·have:(k==i)=false:=by simpa using e
      rw[this,Bool.or_false]at eP
      exact vH k hk eP
    rw[D3,g2]
    obtain⟨k1,k2⟩:=fF (us':=vG (af.setIfInBounds i true)) rn.heap (fun id h=>by
     rcases h with(h|⟨k,hk,eP,rfl⟩)|rfl
     ·exact .inl h
     ·exact .inr ⟨k,hk,by rw[vF,eP];rfl,rfl⟩
     ·exact .inr ⟨i,nQ,by rw[vF];simp,rfl⟩)
    exact⟨k1,rn.tr.trans k2,rn.size,rn.defers.mono k2,fun j=>V.ax k2 _ _ (rn.env j)⟩
   have x8:∀d want,(bu l i).gd=some (d,want)->(dx (bu l) ac (Ef af) s N).env d=(dx (bu l) ac (fun _=>true) s i).env d:=fun d want hd=>Hj d (by simp[dH,tmpsOf,hd])
   have ba:=D1 i nQ
   have x9:∀x∈(bu l i).op.operands,(dx (bu l) ac (Ef af) s N).ev x=(dx (bu l) ac (fun _=>true) s i).ev x:=fun x hx=>tQ fun t ht=>Hj t (by
    subst ht
    simp only[dH,tmpsOf,List.mem_append,List.mem_filterMap]
    exact .inl (.inl ⟨.tmp t,Array.mem_toList_iff.2 hx,rfl⟩))
   have BA:(dx (bu l) ac (Ef af) s N).nx=(dx (bu l) ac (fun _=>true) s i).nx:=(gq N).trans (gq i).symm
   unfold wpOpIn
   simp only[h2]
   cases nR:ac i with
   |skip=>
    rw[nR]at ba jh
    have hw:=dW hu.env g4 (dX x8 ba)
    simp only[hw,Bool.false_eq_true,if_false]
    refine⟨fun _ _=>trivial,jh rfl φ _ w ?_⟩
    have:=fi (v:= .bQ []) (val:=undef) hu hu.heap (Trans.refl _ _ _) ⟨#[],rfl,rfl⟩ (dst:=o.dst) g3 rfl (us':=fun id=>vG af id\/id=s.nx+i) (fun id h=> .inl h)
    exact this
   |val v Δ rd=>
    rw[nR]at ba jh
    have hw:=dW hu.env g4 (dX x8 ba.1)
    simp only[hw,if_true]
    obtain⟨qF,lB⟩:=ny x9 (fun id ah=>Nd id (by rw[nR];exact ah)) BA ba.2
    exact tP hu c0 (fun id h=> .inl (by rw[gq]at h;exact h)) g1.symm g3 lB (jh rfl)
   |bf v ws rd=>
    rw[nR]at ba
    have hw:=dW hu.env g4 (dX x8 ba.1)
    simp only[hw,if_true]
    have lB:=tR x9 (fun id ah=>Nd id (by rw[nR];exact ah)) BA ba.2
    refine zF (s0:=s) (ds:=dl) (wl:=wl) (N:=N) hu (fun id h=> .inl (by rw[gq]at h;exact h)) (fun id h=> ?_) g1.symm lB (fun t ht=> ?_) (fun id ah=> ?_) (Bz i v ws rd nQ nR) (gq N).symm (fun aj w' val h1 h2=>hX i v ws rd nQ nR aj a w' val h1 h2)
    ·rw[gq]
     rcases h with h|⟨k,hk,_,rfl⟩<;>omega
    ·refine wE N fun j hj e=> ?_
     have:=NO j hj t e
     rw[ht]at this;cases this
    ·refine C5 N fun j hj hm=> ?_
     have:=Oo j hj id hm
     rw[ah]at this;cases this
   |dz=>
    exfalso
    obtain⟨j,hj,D5⟩:=D2 i nQ nR
    have:=vH j (Nat.lt_trans (nY i nQ j hj) nQ) (zE j hj)
    rw[D5]at this;cases this
 refine key ops.size _ φ a w (by simp[N]) (by simp[N,Array.count_replicate]) (fun k hk eP=> ?_) (fun k hk eP=> ?_) ?_
 ·simp[Ef,Array.getD_eq_getD_getElem?,Array.getElem?_replicate]at eP
  split at eP<;>simp at eP
 ·simp[Ef,Array.getD_eq_getD_getElem?,Array.getElem?_replicate]at eP
  split at eP<;>simp at eP
 ·have e:∀k,dx (bu l) ac (Ef (Array.replicate ops.size false)) s k=s:=by
   intro k
   induction k with
   |zero=>rfl
   |succ k ih=>
    have:Ef (Array.replicate ops.size false) k=false:=by
     simp only[Ef,Array.getD_eq_getD_getElem?,Array.getElem?_replicate]
     split<;>rfl
    simp only[dx,this,ih]
    rfl
  rw[e]
  obtain⟨k1,k2⟩:=fF (us':=vG (Array.replicate ops.size false)) hs.heap (fun id h=> .inl h)
  exact⟨k1,hs.tr.trans k2,hs.size,hs.defers.mono k2,fun j=>V.ax k2 _ _ (hs.env j)⟩
end
end Go.Proofs.YtpkobkdgcanmjaaGreat
namespace Go.Proofs.YtpkobkdgcanmjaaGreat
section
variable {P:Program}{M:Nat->Prop}{φ b7:Place}{H0:Hp}{w w' w0:World}{n:Nat}{s:S}{us:Nat->Prop}{a:Act}{cx:Cx}{ro:Option Nat}{k:Nat}
variable {Q:Exit->Act->World->Prop}
theorem ya{ops:Array Oper}{po:Nat->Nat->Prop}{m:Nat}{X:V->S->Prop}{K:S->Prop}
 (nY:∀k,k<ops.size->∀j∈aX ops k,j<k)
 (wF:∀E:Nat->Bool,(∀k,k<ops.size->E k=true->∀j∈aX ops k,E j=true)->∀k,k<ops.size->(∀j∈aX ops k,E j=true)->∀j,po k j->E j=true)
 (wG:∀k,m<=k->k<ops.size->∀j,j<k->po k j)
 (hK:∀s φ a w,K s->bI M b7 H0 w0 n cx φ s a w->Q .normal a w)
 (hX:∀v s' aj a' w' val,X v s'->bI M b7 H0 w0 n cx aj s' a' w'->V.den (ad M aj s'.H) aj s'.H w' v val->Q (.panic [{v:=val,recovered:=false}]) a' w'):
 ∀ (d t:Nat) (s:S) (φ:Place) (af:Array Bool) (a:Act) (w:World),t+d=ops.size->af.size=ops.size->(∀k,k<ops.size->af.getD k false=decide (k<t))->m<=t->
   bI M b7 H0 w0 n cx φ s a w->rC P n ops X K (ops.toList.drop t) s->wpAnyIn (cV ro) k P .any ops Q d af a w:=by
 intro d
 induction d with
 |zero=>
  intro t s φ af a w ht du hl yJ hs h
  have e:t=ops.size:=by omega
  subst e
  refine⟨?_, ?_⟩
  ·rw[List.eq_nil_iff_forall_not_mem]
   intro j hj
   obtain⟨h1,o,h2,_⟩:=mem_ready.1 hj
   have Q7:j<ops.size:=(Array.getElem?_eq_some_iff.1 h2).1
   have:=hl j Q7
   simp only[Array.getD_eq_getD_getElem?]at this h1
   rw[Array.getElem?_eq_getElem (by omega)]at this h1
   simp only[Option.getD_some]at this h1
   rw[h1]at this
   simp[Q7]at this
  ·rw[List.drop_eq_nil_of_le (by simp)]at h
   exact hK s φ a w h hs
 |succ d ih=>
  intro t s φ af a w ht du hl yJ hs h
  have Ot:t<ops.size:=by omega
  refine⟨fun hr=> ?_,fun i hi=> ?_⟩
  ·have:=lh nY du hr t Ot
   rw[hl t Ot]at this
   simp at this
  ·obtain⟨h1,o,h2,h3⟩:=mem_ready.1 hi
   have nQ:i<ops.size:=(Array.getElem?_eq_some_iff.1 h2).1
   have jq:af.getD i false=false:=by
    simp only[Array.getD_eq_getD_getElem?]at h1|-
    rw[Array.getElem?_eq_getElem (by omega)]at h1|-
    simpa using h1
   have S7:t<=i:=by
    have:=hl i nQ
    rw[jq]at this
    have:=of_decide_eq_false this.symm
    omega
   have zE:∀j∈aX ops i,af.getD j false=true:=by
    intro j hj
    simp only[aX,h2,List.mem_map,List.mem_filter]at hj
    obtain⟨e,⟨he,hb⟩,rfl⟩:=hj
    exact h3 e (Array.mem_toList_iff.1 he) hb
   have nK:∀k,k<ops.size->af.getD k false=true->∀j∈aX ops k,af.getD j false=true:=by
    intro k hk eP j hj
    have GG:=nY k hk j hj
    rw[hl k hk]at eP
    rw[hl j (by omega)]
    have:=of_decide_eq_true eP
    exact decide_eq_true (by omega)
   have NZ:i=t:=by
    rcases Nat.eq_or_lt_of_le S7 with e|e
    ·exact e.symm
    ·have:=wF (fun k=>af.getD k false) nK i nQ zE t (wG i (by omega) nQ t e)
     rw[hl t Ot]at this
     simp at this
   subst NZ
   have tV:ops.toList.drop i=o::ops.toList.drop (i+1):=by
    have GU:i<ops.toList.length:=by simpa using nQ
    rw[List.drop_eq_getElem_cons GU]
    have:ops.toList[i]=o:=by
     have:=(Array.getElem?_eq_some_iff.1 h2).2
     simpa using this
    rw[this]
   rw[tV]at h
   obtain⟨g1,g2⟩:=l4 hs h
   have Bq:∀k,k<ops.size->(af.setIfInBounds i true).getD k false=decide (k<i+1):=by
    intro k hk
    simp only[Array.getD_eq_getD_getElem?]
    by_cases e:k=i
    ·subst e;simp[du,nQ]
    ·rw[Array.getElem?_setIfInBounds_ne (Ne.symm e)]
     have:=hl k hk
     simp only[Array.getD_eq_getD_getElem?]at this
     rw[this]
     exact decide_eq_decide.2 (by omega)
   have jh:∀s' aj a' w',rC P n ops X K (ops.toList.drop (i+1)) s'->bI M b7 H0 w0 n cx aj s' a' w'->wpAnyIn (cV ro) k P .any ops Q d (af.setIfInBounds i true) a' w':=
    fun s' aj a' w' hk gR=>ih (i+1) s' aj _ a' w' (by omega) (by simp[du]) Bq (by omega) gR hk
   unfold wpOpIn
   simp only[h2]
   split
   ·rename_i hw
    exact qA hs (g1 hw) (fun s' aj a' w' hk gR=>jh s' aj a' w' hk gR) (fun v s' aj w' val hx gR hd=>hX v s' aj a w' val hx gR hd)
   ·rename_i hw
    obtain⟨cf,h3⟩:=g2 (by simpa using hw)
    exact⟨fun _ _=>trivial,jh _ _ _ _ h3 (tA hs cf)⟩
theorem vI(aS:P.follows .mixedOrders=true){ops:Array Oper}{l:List bK}{id:Nat}(kE:hY n ops ops.toList=some l)(nY:∀k,k<ops.size->∀j∈aX ops k,j<k){ac:Nat->dQ}{m:Nat}(hm:m<=ops.size){X:V->S->Prop}{K:S->Prop}
 (hs:bI M b7 H0 w0 n cx φ s a w) (D1:∀i,i<m->C3 P (dx (bu l) ac (fun _=>true) s i) (s.nx+i) (bu l i) (ac i))
 (Hl:∀i,i<m->(ac i).ok=true)
 {po:Nat->Nat->Prop} (wF:∀E:Nat->Bool,(∀k,k<ops.size->E k=true->∀j∈aX ops k,E j=true)->∀k,k<ops.size->(∀j∈aX ops k,E j=true)->∀j,po k j->E j=true) (tU:∀k,k<ops.size->∀j,po k j->j<k)
 (hc:∀i j,i<j->j<m-> ¬po j i->Compat (bu l) ac (fun i=>qf (ac i)) i j)
 (wG:∀k,m<=k->k<ops.size->∀j,j<k->po k j)
 (oR:rC P n ops X K (ops.toList.drop m) ⟨(dx (bu l) ac (fun _=>true) s m).env,(dx (bu l) ac (fun _=>true) s m).o,s.nx+m⟩)
 (hK:∀s φ a w,K s->bI M b7 H0 w0 n cx φ s a w->Q .normal a w)
 (hX:∀v s' aj a' w' val,X v s'->bI M b7 H0 w0 n cx aj s' a' w'->V.den (ad M aj s'.H) aj s'.H w' v val->Q (.panic [{v:=val,recovered:=false}]) a' w'):
 (Code.region id ops true).wpIn (cV ro) k P Q a w:=by
 refine wpIn_region_any aS ?_
 have hs:=tS hs
 generalize ({w with drawn:=w.drawn+1}:World)=w at hs
 let N:=m
 let Ef (af:Array Bool) (k:Nat):Bool:=af.getD k false
 let vG (af:Array Bool) (j:Nat):Prop:=j<s.nx\/∃k,k<N/\Ef af k=true/\j=s.nx+k
 have key:∀ (fuel:Nat) (af:Array Bool) (φ:Place) (a:Act) (w:World),af.size=ops.size->af.count true+fuel=ops.size->(∀k,k<ops.size->Ef af k=true->∀j∈aX ops k,Ef af j=true)->(∀k,k<ops.size->Ef af k=true->k<m)->
  nP M b7 H0 w0 n cx φ (dx (bu l) ac (Ef af) s N) (vG af) a w->wpAnyIn (cV ro) k P .any ops Q fuel af a w:=by
  have fin:∀ (fuel:Nat) (af:Array Bool) (φ:Place) (a:Act) (w:World),af.size=ops.size->af.count true+fuel=ops.size->(∀k,k<ops.size->Ef af k=true->k<m)->(∀k,k<N->Ef af k=true)->nP M b7 H0 w0 n cx φ (dx (bu l) ac (Ef af) s N) (vG af) a w->wpAnyIn (cV ro) k P .any ops Q fuel af a w:=by
   intro fuel af φ a w du x7 bz aJ hu
   have e:∀k,k<=N->dx (bu l) ac (Ef af) s k=dx (bu l) ac (fun _=>true) s k:=by
    intro k
    induction k with
    |zero=>intro _;rfl
    |succ k ih=>intro hk;simp only[dx,aJ k (by omega),ih (by omega)]
   rw[e N (Nat.le_refl _)]at hu
   obtain⟨k1,k2⟩:=fF (us':=fun id=>id<s.nx+N) hu.heap (fun id h=>by
    show id<s.nx+N
    rcases h with h|⟨k,hk,_,rfl⟩<;>omega)
   have Ou:∀k,k<ops.size->af.getD k false=decide (k<m):=by
    intro k hk
    by_cases h:k<m
    ·rw[decide_eq_true h];exact aJ k h
    ·rw[decide_eq_false h]
     cases hb:af.getD k false with
     |false=>rfl
     |true=>exact absurd (bz k hk hb) h
   have Nf:af.count true=m:=by
    have e1:af=Array.ofFn (n:=ops.size) fun k=>decide (k.1<m):=by
     apply Array.ext
     ·simp[du]
     ·intro k h1 h2
      have:=Ou k (by omega)
      simp only[Array.getD_eq_getD_getElem?]at this
      rw[Array.getElem?_eq_getElem h1]at this
      simpa using this
    have e2:af.toList=List.replicate m true++List.replicate (ops.size - m) false:=by
     apply List.ext_getElem?
     intro k
     by_cases hk:k<ops.size
     ·have h1:af.toList[k]? =some (decide (k<m)):=by
       have:=Ou k hk
       simp only[Array.getD_eq_getD_getElem?]at this
       rw[Array.getElem?_eq_getElem (by omega)]at this
       simp only[Option.getD_some]at this
       rw[Array.getElem?_toList,Array.getElem?_eq_getElem (by omega),this]
      rw[h1]
      by_cases h:k<m
      ·rw[List.getElem?_append_left (by simpa using h)]
       simp[h]
      ·rw[List.getElem?_append_right (by simpa using(by omega:m<=k))]
       rw[List.length_replicate,List.getElem?_replicate,if_pos (by omega),decide_eq_false h]
     ·rw[List.getElem?_eq_none (by simp[du];omega),List.getElem?_eq_none (by simp;omega)]
    rw[<- Array.count_toList,e2,List.count_append,List.count_replicate_self,List.count_replicate]
    simp
   exact ya nY wF wG hK hX fuel m ⟨(dx (bu l) ac (fun _=>true) s m).env,(dx (bu l) ac (fun _=>true) s m).o,s.nx+m⟩ φ af a w (by omega) du Ou (Nat.le_refl _) ⟨k1,hu.tr.trans k2,hu.size,hu.defers.mono k2,fun i=>V.ax k2 _ _ (hu.env i)⟩ oR
  intro fuel
  induction fuel with
  |zero=>
   intro af φ a w du x7 nK bz hu
   have aJ:∀k,k<ops.size->Ef af k=true:=by
    intro k hk
    have h1:af.count true=af.size:=by omega
    rw[Array.count_eq_size]at h1
    have:=h1 af[k] (Array.getElem_mem (by omega))
    simp only[Ef,Array.getD_eq_getD_getElem?]
    rw[Array.getElem?_eq_getElem (by omega)]
    simpa using this.symm
   exact fin 0 af φ a w du x7 bz (fun k hk=>aJ k (by omega)) hu
  |succ fuel ih=>
   intro af φ a w du x7 nK bz hu
   by_cases C6:∀k,k<m->Ef af k=true
   ·exact fin (fuel+1) af φ a w du x7 bz C6 hu
   have hex:∃j,j<m/\Ef af j=false:=by
    apply Classical.byContradiction
    intro DN
    refine C6 fun k hk=> ?_
    cases hb:Ef af k with
    |true=>rfl
    |false=>exact absurd ⟨k,hk,hb⟩ DN
   obtain⟨j0,TS,Hm⟩:=hex
   refine⟨fun hr=> ?_,fun i hi=> ?_⟩
   ·have:=lh nY du hr j0 (by omega)
    rw[show af.getD j0 false=false from Hm]at this
    cases this
   obtain⟨h1,o,h2,h3⟩:=mem_ready.1 hi
   have Ov:i<ops.size:=(Array.getElem?_eq_some_iff.1 h2).1
   have jq:Ef af i=false:=by
    simp only[Ef,Array.getD_eq_getD_getElem?]at h1|-
    rw[Array.getElem?_eq_getElem (by omega)]at h1|-
    simpa using h1
   have zE:∀j∈aX ops i,Ef af j=true:=by
    intro j hj
    simp only[aX,h2,List.mem_map,List.mem_filter]at hj
    obtain⟨e,⟨he,hb⟩,rfl⟩:=hj
    exact h3 e (Array.mem_toList_iff.1 he) hb
   have nQ:i<N:=by
    apply Classical.byContradiction
    intro u9
    have u9:m<=i:=Nat.le_of_not_lt u9
    have:=wF _ nK i Ov zE j0 (wG i u9 Ov j0 (by omega))
    rw[Hm]at this;cases this
   have zG:rY N po (Ef af):=fun k hk eP=>wF _ nK k (by omega) (nK k (by omega) eP)
   obtain⟨Hj,Nd⟩:=C4 (s:=s) (n:=N) (fun k hk=>tU k (by omega)) hc zG nQ jq (wF _ nK i (by omega) zE)
   obtain⟨g1,g2,g3,g4⟩:=qJ (o7 _ _ i o kE (by simpa using h2))
   have c0: ¬vG af (s.nx+i):=by
    rintro(h|⟨k,_,hk,he⟩)
    ·omega
    ·have:k=i:=by omega
     subst this;rw[jq]at hk;cases hk
   have vF:∀k,Ef (af.setIfInBounds i true) k=(Ef af k||k==i):=by
    intro k
    simp only[Ef,Array.getD_eq_getD_getElem?]
    by_cases e:k=i
    ·subst e;simp[du,Ov]
    ·rw[Array.getElem?_setIfInBounds_ne (Ne.symm e)]
     have:(k==i)=false:=by simpa using e
     simp[this]
   have D3:=insert (s:=s) hc zG nQ jq vF
   have D4:∀k,k<ops.size->Ef (af.setIfInBounds i true) k=true->∀j∈aX ops k,Ef (af.setIfInBounds i true) j=true:=by
    intro k hk eP j hj
    rw[vF]at eP|-
    by_cases e:k=i
    ·subst e;simp[zE j hj]
    ·have:(k==i)=false:=by simpa using e
     rw[this,Bool.or_false]at eP
     simp[nK k hk eP j hj]
   have zH:(af.setIfInBounds i true).count true+fuel=ops.size:=by
    have bz:i<af.size:=by omega
    have e1:af.setIfInBounds i true=af.set i true bz:=by simp[Array.setIfInBounds,bz]
    have e2:af[i]=false:=by
     have:=jq
     simp only[Ef,Array.getD_eq_getD_getElem?]at this
     rw[Array.getElem?_eq_getElem bz]at this
     simpa using this
    rw[e1,Array.count_set bz,e2]
    simp
    omega
   have jh:(ac i).ok=true->∀aj a' w',nP M b7 H0 w0 n cx aj (p5 o.dst (ac i) (dx (bu l) ac (Ef af) s N)) (fun id=>vG af id\/id=s.nx+i) a' w'->wpAnyIn (cV ro) k P .any ops Q fuel (af.setIfInBounds i true) a' w':=by
    intro Hk aj a' w' rn
    refine ih _ aj a' w' (by simp[du]) zH D4 (fun k hk eP=> ?_) ?_
    ·rw[vF]at eP
     by_cases e:k=i
     ·subst e;exact nQ
     ·have:(k==i)=false:=by simpa using e
      rw[this,Bool.or_false]at eP
      exact bz k hk eP
    rw[D3,g2]
    obtain⟨k1,k2⟩:=fF (us':=vG (af.setIfInBounds i true)) rn.heap (fun id h=>by
     rcases h with(h|⟨k,hk,eP,rfl⟩)|rfl
     ·exact .inl h
     ·exact .inr ⟨k,hk,by rw[vF,eP];rfl,rfl⟩
     ·exact .inr ⟨i,nQ,by rw[vF];simp,rfl⟩)
    exact⟨k1,rn.tr.trans k2,rn.size,rn.defers.mono k2,fun j=>V.ax k2 _ _ (rn.env j)⟩
   have x8:∀d want,(bu l i).gd=some (d,want)->(dx (bu l) ac (Ef af) s N).env d=(dx (bu l) ac (fun _=>true) s i).env d:=fun d want hd=>Hj d (by simp[dH,tmpsOf,hd])
   have ba:=D1 i nQ
   have x9:∀x∈(bu l i).op.operands,(dx (bu l) ac (Ef af) s N).ev x=(dx (bu l) ac (fun _=>true) s i).ev x:=fun x hx=>tQ fun t ht=>Hj t (by
    subst ht
    simp only[dH,tmpsOf,List.mem_append,List.mem_filterMap]
    exact .inl (.inl ⟨.tmp t,Array.mem_toList_iff.2 hx,rfl⟩))
   have BA:(dx (bu l) ac (Ef af) s N).nx=(dx (bu l) ac (fun _=>true) s i).nx:=(gq N).trans (gq i).symm
   unfold wpOpIn
   simp only[h2]
   cases nR:ac i with
   |skip=>
    rw[nR]at ba jh
    have hw:=dW hu.env g4 (dX x8 ba)
    simp only[hw,Bool.false_eq_true,if_false]
    refine⟨fun _ _=>trivial,jh rfl φ _ w ?_⟩
    have:=fi (v:= .bQ []) (val:=undef) hu hu.heap (Trans.refl _ _ _) ⟨#[],rfl,rfl⟩ (dst:=o.dst) g3 rfl (us':=fun id=>vG af id\/id=s.nx+i) (fun id h=> .inl h)
    exact this
   |val v Δ rd=>
    rw[nR]at ba jh
    have hw:=dW hu.env g4 (dX x8 ba.1)
    simp only[hw,if_true]
    obtain⟨qF,lB⟩:=ny x9 (fun id ah=>Nd id (by rw[nR];exact ah)) BA ba.2
    exact tP hu c0 (fun id h=> .inl (by rw[gq]at h;exact h)) g1.symm g3 lB (jh rfl)
   |bf v ws rd=>
    have:=Hl i nQ
    rw[nR]at this;cases this
   |dz=>
    have:=Hl i nQ
    rw[nR]at this;cases this
 refine key ops.size _ φ a w (by simp) (by simp[Array.count_replicate]) (fun k hk eP=> ?_) (fun k hk eP=> ?_) ?_
 ·simp[Ef,Array.getD_eq_getD_getElem?,Array.getElem?_replicate]at eP
  split at eP<;>simp at eP
 ·simp[Ef,Array.getD_eq_getD_getElem?,Array.getElem?_replicate]at eP
  split at eP<;>simp at eP
 ·have e:∀k,dx (bu l) ac (Ef (Array.replicate ops.size false)) s k=s:=by
   intro k
   induction k with
   |zero=>rfl
   |succ k ih=>
    have:Ef (Array.replicate ops.size false) k=false:=by
     simp only[Ef,Array.getD_eq_getD_getElem?,Array.getElem?_replicate]
     split<;>rfl
    simp only[dx,this,ih]
    rfl
  rw[e]
  obtain⟨k1,k2⟩:=fF (us':=vG (Array.replicate ops.size false)) hs.heap (fun id h=> .inl h)
  exact⟨k1,hs.tr.trans k2,hs.size,hs.defers.mono k2,fun j=>V.ax k2 _ _ (hs.env j)⟩
end
end Go.Proofs.YtpkobkdgcanmjaaGreat
