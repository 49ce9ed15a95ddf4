/-
  A PART OF THE PROOF. Conditions: none.
-/
import Derived.OrdersIn
import Derived.Test.YtealblliddhgiaaGreatGn6
set_option linter.unusedSimpArgs false
set_option linter.unusedVariables false
namespace Go.Proofs.YtealblliddhgiaaGreat
def ae.refs:ae->List Nat
 | .row cs=>V.ag cs
 | .loop _ _ env _ _ _ _ _=>V.ag env
 |_=>[]
def Dx(R:List Nat)(o:Nat->ae):Nat->ae:=fun id=>if R.contains id=true then o id else .no
def xP(P:Program)(g:FuncId)(args:List V)(rd:List Nat)(o:Nat->ae)(out:R)(Δ:List (Nat×ae)):Prop:=
 Enters P g/\∀ (o':Nat->ae) (us:Nat->Prop) (M:Nat->Prop) (φ:Place) (w:World) (vals:Array Value),(∀id∈rd,o' id=o id/\us id)->az M φ ⟨o',us⟩ w->V.aE (ao M φ ⟨o',us⟩) φ ⟨o',us⟩ w args vals.toList->
  Calls P g vals w fun e w'=>∃aC,az M aC ⟨put o' Δ,us⟩ w'/\Trans φ ⟨o',us⟩ w aC ⟨put o' Δ,us⟩ w'/\out.is (ao M aC ⟨put o' Δ,us⟩) w' e
def Cm(P:Program)(g:FuncId)(args:List V)(rd:List Nat)(o:Nat->ae)(fr:Nat)(v:V)(Δ:List (Nat×ae)):Prop:=
 Enters P g/\∀ (o':Nat->ae) (us:Nat->Prop) (M:Nat->Prop) (φ:Place) (w:World) (vals:Array Value),(∀id∈rd,o' id=o id/\us id)-> ¬us fr->az M φ ⟨o',us⟩ w->V.aE (ao M φ ⟨o',us⟩) φ ⟨o',us⟩ w args vals.toList->
  Calls P g vals w fun e w'=>∃aC,az M aC ⟨put o' Δ,fun id=>us id\/id=fr⟩ w'/\Trans φ ⟨o',us⟩ w aC ⟨put o' Δ,fun id=>us id\/id=fr⟩ w'/\∃val,e= .returned val/\V.den (ao M aC ⟨put o' Δ,fun id=>us id\/id=fr⟩) aC ⟨put o' Δ,fun id=>us id\/id=fr⟩ w' v val
mutual
theorem V.lq {B B':Nat->Prop}{φ aC:Place}{H H':Hp}{w:World}(hB:∀b, ¬B b-> ¬B' b):∀ (v:V) (val:Value),(∀id∈v.refs,H'.o id=H.o id/\aC id=φ id/\H'.us id)->V.den B φ H w v val->V.den B' aC H' w v val
 | .d x,val,_,h=>D.aF (w:=w) (w':=w) (fun b _ hn=>⟨rfl,hB b hn⟩) x val h
 | .bn,_,_,h=>h
 | .ab,_,_,_=>trivial
 | .eZ,_,_,h=>h
 | .ox es,val,_,h=>⟨D.aF (w:=w) (w':=w) (fun b _ hn=>⟨rfl,hB b hn⟩) (.sl es) val h.1,h.2⟩
 | .agg cs,val,hr,h=>by
   obtain⟨a,rfl,h1,h2⟩:=h
   exact⟨a,rfl,V.fi hB cs _ (by simpa[V.refs]using hr) h1,h2⟩
 | .bS cs,val,hr,h=>by
   obtain⟨a,rfl,h1⟩:=h
   exact⟨a,rfl,V.fi hB cs _ (by simpa[V.refs]using hr) h1⟩
 | .ptr id off,val,hr,h=>by
   obtain⟨a,b,c⟩:=hr id (by simp[V.refs])
   obtain⟨h0,h1,h2⟩:=h
   refine⟨h0,c,fun br=> ?_⟩
   rw[a]at br
   obtain⟨x,y,z⟩:=h2 br
   exact⟨x,b.trans y,z⟩
 | .osl id ep,val,hr,h=>by
   obtain⟨a,b,c⟩:=hr id (by simp[V.refs])
   obtain⟨h0,h1,h2⟩:=h
   refine⟨h0,c,fun e he=> ?_⟩
   rw[a]at he
   obtain⟨x,y⟩:=h2 e he
   exact⟨x,fun heq=>(y heq).trans b.symm⟩
 | .pe id ep i sz off,val,hr,h=>by
   obtain⟨a,b,c⟩:=hr id (by simp[V.refs])
   obtain⟨h0,h1,h2⟩:=h
   refine⟨h0,c,fun e he=> ?_⟩
   rw[a]at he
   obtain⟨x,y⟩:=h2 e he
   refine⟨x,fun heq=> ?_⟩
   obtain⟨p,q,r,z,u⟩:=y heq
   exact⟨p,q,r,b.trans z,u⟩
 | .pp cs off,val,_,h=>by
   obtain⟨a,ev,h1,h2,h3,h5,h4⟩:=h
   exact⟨a,ev,h1,h2,D.aI (w:=w) (w':=w) (fun b _ hn=>⟨rfl,hB b hn⟩) cs ev h3,h5,h4.mono (w:=w) (w':=w) (fun b _ hn=>⟨rfl,hB b hn⟩)⟩
 | .func fn first cap,val,hr,h=>by
   obtain⟨f,c,rfl,h1,h2⟩:=h
   exact⟨f,c,rfl,V.fi hB first _ (fun id ax=>hr id (by simp[V.refs,ax])) h1,V.fi hB cap _ (fun id ax=>hr id (by simp[V.refs,ax])) h2⟩
 | .iface t x,val,hr,h=>by
   obtain⟨u,rfl,h⟩:=h
   exact⟨u,rfl,V.lq hB x u (by simpa[V.refs]using hr) h⟩
 | .sX id off n,val,hr,h=>by
   obtain⟨a,b,c⟩:=hr id (by simp[V.refs])
   obtain⟨h0,h1,h2⟩:=h
   refine⟨h0,c,fun br=> ?_⟩
   rw[a]at br
   obtain⟨x,y,z⟩:=h2 br
   exact⟨x,b.trans y,z⟩
 | .mp id,val,hr,h=>by
   obtain⟨a,b,c⟩:=hr id (by simp[V.refs])
   obtain⟨h0,h1,h2⟩:=h
   refine⟨h0,c,fun br=> ?_⟩
   rw[a]at br
   exact(h2 br).trans b.symm
 | .kV id,val,hr,h=>by
   obtain⟨a,b,c⟩:=hr id (by simp[V.refs])
   obtain⟨h0,h1,h2⟩:=h
   refine⟨h0,c,fun br=> ?_⟩
   rw[a]at br
   obtain⟨x,y,z⟩:=h2 br
   exact⟨x,b.trans y,z⟩
theorem V.fi {B B':Nat->Prop}{φ aC:Place}{H H':Hp}{w:World}(hB:∀b, ¬B b-> ¬B' b):∀ (vs:List V) (vals:List Value),(∀id∈V.ag vs,H'.o id=H.o id/\aC id=φ id/\H'.us id)->V.aE B φ H w vs vals->V.aE B' aC H' w vs vals
 |[],_,_,h=>h
 |v::vs,_,hr,h=>by
  obtain⟨u,us,rfl,h1,h2⟩:=h
  exact⟨u,us,rfl,V.lq hB v u (fun id ax=>hr id (by simp[V.ag,ax])) h1,V.fi hB vs us (fun id ax=>hr id (by simp[V.ag,ax])) h2⟩
end
theorem Fe{env:List V}{i id:Nat}(h:id∈(bw env i).refs):id∈V.ag env:=by
 unfold bw at h
 induction env generalizing i with
 |nil=>simp[V.refs]at h
 |cons v env ih=>
  cases i with
  |zero=>simp only[List.getD_cons_zero]at h;simp[V.ag,h]
  |succ i=>simp only[List.getD_cons_succ]at h;simp[V.ag,ih h]
theorem aK.refs {M M':Nat->Prop}{φ aC:Place}{H H':Hp}{w:World}{id:Nat}(hB:∀b, ¬ao M φ H b-> ¬ao M' aC H' b)(ho:H'.o id=H.o id)(dq:aC id=φ id)
 (hr:∀j∈(H.o id).refs,H'.o j=H.o j/\aC j=φ j/\H'.us j) (h:aK M φ H w id):aK M' aC H' w id:=by
 have hd:∀b,cy w b-> ¬ao M φ H b->w.heap[b]? =w.heap[b]? /\ ¬ao M' aC H' b:=fun b _ hn=>⟨rfl,hB b hn⟩
 unfold aK at*
 rw[ho]
 cases hx:H.o id with
 |no=>trivial
 |row cs=>
  simp only[hx]at h|-
  obtain⟨b,cR,ty,h1,h2,h3,h4⟩:=h
  exact⟨b,cR,ty,dq.trans h1,h2,V.fi hB cs _ (fun j hj=>hr j (by rw[hx];exact hj)) h3,h4⟩
 |arr ep ty sz es=>
  simp only[hx]at h|-
  obtain⟨h0,xs,h1,evs,h2,h3,h4⟩:=h
  exact⟨h0,xs,by rw[dq];exact h1,evs,h2,h3,D.aI hd es evs h4⟩
 |ph ep es=>
  simp only[hx]at h|-
  rw[dq]
  exact D.aF hd (.sl es) _ h
 |map kt vt l=>
  simp only[hx]at h|-
  obtain⟨b,es,clock,h1,h2,h4,h3⟩:=h
  exact⟨b,es,clock,dq.trans h1,h2,h4,aH.mono hd l _ h3⟩
 |fq l=>
  simp only[hx]at h|-
  rw[dq]
  exact D.aF hd (.mp _ _) _ h
 |kW l last=>
  simp only[hx]at h|-
  obtain⟨b,h1,h2⟩:=h
  exact⟨b,dq.trans h1,h2.mono hd rfl⟩
 |sY s pos=>
  simp only[hx]at h|-
  obtain⟨b,h1,h2⟩:=h
  exact⟨b,dq.trans h1,h2⟩
 |loop nf n env ps kX fO st EE=>
  simp only[hx]at h|-
  obtain⟨b,r,h1,h2,h0,h3,h4,h5,h6,h7,h8,h9⟩:=h
  exact⟨b,r,dq.trans h1,h2,h0,h3,h4,h5,h6,h7,h8,fun i=>V.lq hB _ _ (fun j hj=>hr j (by rw[hx];exact Fe hj)) (h9 i)⟩
section
variable {P:Program}
theorem Cn{o o':Nat->ae}{Δ:List (Nat×ae)}{id:Nat}(h:o id=o' id):put o Δ id=put o' Δ id:=Dy h
where Dy {o o':Nat->ae}:∀ {Δ:List (Nat×ae)} {id:Nat},o id=o' id->put o Δ id=put o' Δ id
 |[],_,h=>h
 |x::Δ,id,h=>by
  simp only[put,List.foldl_cons]
  refine Dy (Δ:=Δ) (o:=ak o x.1 x.2) (o':=ak o' x.1 x.2) ?_
  simp only[aJ]
  split
  ·rfl
  ·exact h
theorem xQ{o:Nat->ae}:∀ {Δ:List (Nat×ae)} {id:Nat},(∀x∈Δ,x.1≠id)->put o Δ id=o id
 |[],_,_=>rfl
 |x::Δ,id,h=>by
  have:=xQ (o:=ak o x.1 x.2) (Δ:=Δ) (id:=id) (fun y hy=>h y (by simp[hy]))
  simp only[put,List.foldl_cons]at this|-
  rw[this];simp[Ne.symm (h x (by simp))]
theorem xP.kG {g:FuncId}{args:List V}{rd:List Nat}{o:Nat->ae}{nx:Nat}{out:R}{Δ:List (Nat×ae)}(qE:∀id∈rd,id<nx)(ei:∀id∈V.ag args,id∈rd)(mE:∀id∈rd,∀j∈(o id).refs,j∈rd)(Ny:∀x∈Δ,x.1∈rd)(WI:∀x∈Δ,∀j∈x.2.refs,j∈rd)
 (h:dX P g args (Dx rd o) nx
  (fun v o1 _=>(∀id∈rd,o1 id=put o Δ id)/\∃vs rs,v=(match vs with|[v]=>v|vs=> .bS vs)/\cc o1 vs=some rs/\out= .ret rs/\∀id∈V.bf vs,id∉rd)
  (fun v o1 _=>(∀id∈rd,o1 id=put o Δ id)/\∃x,dO o1 v=some x/\out= .bG x/\∀id∈v.ids,id∉rd)):xP P g args rd o out Δ:=by
 refine⟨h.1,fun o' us M φ w vals ho hH hd=> ?_⟩
 let M1:Nat->Prop:=fun b=>M b\/∃id,id∉rd/\(o' id).live=true/\dN (φ id)=some b
 let HR:Hp:=hp (Dx rd o) nx
 have tJ:∀id,id∈rd->Dx rd o id=o' id:=fun id ax=>by simp[Dx,ax,(ho id ax).1]
 have rI:∀id,id∉rd->Dx rd o id= .no:=fun id ax=>by simp[Dx,ax]
 have hB:∀b,ao M1 φ HR b↔ao M φ ⟨o',us⟩ b:=by
  intro b
  constructor
  ·rintro((h|⟨id,h1,h2,h3⟩)|⟨id,h1,h2⟩)
   ·exact .inl h
   ·exact .inr ⟨id,h2,h3⟩
   ·by_cases ax:id∈rd
    ·exact .inr ⟨id,by show(o' id).live=true;rw[<- tJ id ax];exact h1,h2⟩
    ·have:HR.o id= .no:=rI id ax
     rw[this]at h1;cases h1
  ·rintro(h|⟨id,h1,h2⟩)
   ·exact .inl (.inl h)
   ·by_cases ax:id∈rd
    ·exact .inr ⟨id,by show(Dx rd o id).live=true;rw[tJ id ax];exact h1,h2⟩
    ·exact .inl (.inr ⟨id,ax,h1,h2⟩)
 have mz:∀id∈rd,HR.o id=o' id/\φ id=φ id/\HR.us id:=fun id ax=>⟨tJ id ax,rfl,qE id ax⟩
 have hHR:az M1 φ HR w:=by
  refine⟨fun id=> ?_,fun id hn=> ?_,fun i j b hi hj bi bj=> ?_,fun b hb=> ?_,fun b hb=> ?_⟩
  ·by_cases ax:id∈rd
   ·refine aK.refs (H:=⟨o',us⟩) (M:=M) (φ:=φ) (fun b hn hb=>hn ((hB b).1 hb)) (tJ id ax) rfl (fun j hj=>mz j ?_) (hH.ok id)
    have:o' id=o id:=(ho id ax).1
    exact mE id ax j (by rw[<- this];exact hj)
   ·unfold aK
    rw[show HR.o id= .no from rI id ax];trivial
  ·exact rI id fun ax=>hn (qE id ax)
  ·have live:∀i,(HR.o i).live=true->i∈rd/\(o' i).live=true:=fun i hi=>by
    by_cases ax:i∈rd
    ·exact⟨ax,by rw[<- tJ i ax];exact hi⟩
    ·rw[show HR.o i= .no from rI i ax]at hi;cases hi
   exact hH.apart i j b (live i hi).2 (live j hj).2 bi bj
  ·obtain⟨id,h1,h2⟩:=hb
   have ax:id∈rd:=by
    by_cases ax:id∈rd
    ·exact ax
    ·rw[show HR.o id= .no from rI id ax]at h1;cases h1
   rw[show HR.o id=o' id from tJ id ax]at h1
   obtain⟨k1,k2⟩:=hH.ours b ⟨id,h1,h2⟩
   refine⟨?_,k2⟩
   rintro(hM|⟨j,j1,j2,j3⟩)
   ·exact k1 hM
   ·exact j1 (hH.apart j id b j2 h1 j3 h2 ▸ ax)
  ·rcases hb with hb|⟨id,h1,h2,h3⟩
   ·exact hH.u5 b hb
   ·exact(hH.ours b ⟨id,h2,h3⟩).2
 have hdR:V.aE (ao M1 φ HR) φ HR w args vals.toList:=V.fi (H:=⟨o',us⟩) (fun b hn hb=>hn ((hB b).1 hb)) _ _ (fun id ax=>mz id (ei id ax)) hd
 refine(h.2 M1 φ w vals hHR hdR).mono ?_
 rintro e w' ⟨iV,o1,yW,v,k1,k2,k3⟩
 have main:(∀id∈rd,o1 id=put o Δ id)->∃aC,az M aC ⟨put o' Δ,us⟩ w'/\Trans φ ⟨o',us⟩ w aC ⟨put o' Δ,us⟩ w'/\∀b,ao M aC ⟨put o' Δ,us⟩ b->M1 b\/∃id∈rd,(o1 id).live=true/\dN (iV id)=some b:=by
  intro lP
  have xw:∀id∈rd,put o' Δ id=o1 id:=fun id ax=>(Cn (ho id ax).1).trans (lP id ax).symm
  have Ga:∀id,id∉rd->put o' Δ id=o' id:=fun id ax=>xQ fun x hx e=>ax (e ▸ Ny x hx)
  let E6:Place:=fun id=>if id∈rd then iV id else φ id
  have xR:∀id∈rd,E6 id=iV id:=fun id ax=>if_pos ax
  have zW:∀id,id∉rd->E6 id=φ id:=fun id ax=>if_neg ax
  let H2:Hp:=⟨put o' Δ,us⟩
  have bP:∀b,bT E6 H2 b->(∃id∈rd,(o1 id).live=true/\dN (iV id)=some b)\/∃id,id∉rd/\(o' id).live=true/\dN (φ id)=some b:=by
   rintro b ⟨id,h1,h2⟩
   by_cases ax:id∈rd
   ·exact .inl ⟨id,ax,by rw[<- xw id ax];exact h1,by rw[<- xR id ax];exact h2⟩
   ·exact .inr ⟨id,ax,by rw[<- Ga id ax];exact h1,by rw[<- zW id ax];exact h2⟩
  have Vw:∀b,ao M E6 H2 b->ao M1 iV (hp o1 yW) b:=by
   rintro b (hb|hb)
   ·exact .inl (.inl hb)
   ·rcases bP b hb with⟨id,h1,h2,h3⟩|⟨id,h1,h2,h3⟩
    ·exact .inr ⟨id,h2,h3⟩
    ·exact .inl (.inr ⟨id,h1,h2,h3⟩)
  have Rs:dT φ ⟨o',us⟩ E6 H2:=by
   refine⟨fun id h=>h,fun id hu hr=> ?_,fun id e' hu he=> ?_⟩
   ·by_cases ax:id∈rd
    ·rw[show H2.o id=o1 id from xw id ax]at hr
     obtain⟨a,b⟩:=k2.rel.row id (qE id ax) hr
     rw[show HR.o id=o' id from tJ id ax]at a
     exact⟨a,(xR id ax).trans b⟩
    ·rw[show H2.o id=o' id from Ga id ax]at hr
     exact⟨hr,zW id ax⟩
   ·by_cases ax:id∈rd
    ·rw[show H2.o id=o1 id from xw id ax]at he
     obtain⟨e0,a,b,c⟩:=k2.rel.ep id e' (qE id ax) he
     rw[show HR.o id=o' id from tJ id ax]at a
     exact⟨e0,a,b,fun heq=>(xR id ax).trans (c heq)⟩
    ·rw[show H2.o id=o' id from Ga id ax]at he
     exact⟨e',he,Nat.le_refl _,fun _=>zW id ax⟩
  have xk:∀b,cy w b-> ¬ao M φ ⟨o',us⟩ b->w'.heap[b]? =w.heap[b]? /\ ¬ao M E6 H2 b:=by
   intro b hc hn
   obtain⟨a,c⟩:=k2.blocks (M:=M1) b hc (fun hb=>hn ((hB b).1 hb))
   exact⟨a,fun hb=>c (Vw b hb)⟩
  have ve:∀b,b<w.heap.size-> ¬bT φ HR b->w'.heap[b]? =w.heap[b]? :=fun b hb hl=>k2.bY.block b hb hl
  have ht:Trans φ ⟨o',us⟩ w E6 H2 w':=by
   refine⟨⟨k2.bY.os,k2.bY.tape,k2.bY.output,k2.bY.size,fun b hb hl=>ve b hb fun⟨id,h1,h2⟩=>hl ?_⟩,fun b hb=> ?_,Rs⟩
   ·by_cases ax:id∈rd
    ·exact⟨id,by show(o' id).live=true;rw[<- tJ id ax];exact h1,h2⟩
    ·rw[show HR.o id= .no from rI id ax]at h1;cases h1
   ·rcases bP b hb with⟨id,h1,h2,h3⟩|⟨id,h1,h2,h3⟩
    ·rcases k2.grow b ⟨id,h2,h3⟩with⟨j,j1,j2⟩|BX
     ·by_cases ax:j∈rd
      ·exact .inl ⟨j,by show(o' j).live=true;rw[<- tJ j ax];exact j1,j2⟩
      ·rw[show HR.o j= .no from rI j ax]at j1;cases j1
     ·exact .inr BX
    ·exact .inl ⟨id,h2,h3⟩
  refine⟨E6,⟨fun id=> ?_,fun id hn=> ?_,fun i j b hi hj bi bj=> ?_,fun b hb=> ?_,fun b hb=>Nat.lt_of_lt_of_le (hH.u5 b hb) k2.bY.size⟩,ht,fun b hb=> ?_⟩
  ·by_cases ax:id∈rd
   ·refine aK.refs (H:=hp o1 yW) (M:=M1) (φ:=iV) (fun b hn hb=>hn (Vw b hb)) (xw id ax) (xR id ax) (fun j hj=> ?_) (k1.ok id)
    have F9:j∈rd:=by
     have e1:o1 id=put o Δ id:=lP id ax
     have hj:j∈(put o Δ id).refs:=by rw[<- e1];exact hj
     have key:∀ (Dz:List (Nat×ae)) (q:Nat->ae),(∀x∈Dz,∀j∈x.2.refs,j∈rd)->(∀j∈(q id).refs,j∈rd)->∀j∈(put q Dz id).refs,j∈rd:=by
      intro Dz
      induction Dz with
      |nil=>intro q _ h2;exact h2
      |cons x Dz ih=>
       intro q h1 h2
       simp only[put,List.foldl_cons]
       refine ih (ak q x.1 x.2) (fun y hy=>h1 y (by simp[hy])) ?_
       simp only[aJ]
       split
       ·exact h1 x (by simp)
       ·exact h2
     exact key Δ o WI (mE id ax) j hj
    exact⟨xw j F9,xR j F9,(ho j F9).2⟩
   ·exact aK.zg xk Rs (Ga id ax) (zW id ax) (fun hl b hb=>ve b (hH.ours b ⟨id,hl,hb⟩).2 fun⟨j,j1,j2⟩=>by
     by_cases hj:j∈rd
     ·rw[show HR.o j=o' j from tJ j hj]at j1
      exact ax (hH.apart id j b hl j1 hb j2 ▸ hj)
     ·rw[show HR.o j= .no from rI j hj]at j1;cases j1) (hH.ok id)
  ·have ax:id∉rd:=fun ax=>hn (ho id ax).2
   exact(Ga id ax).trans (hH.fresh id hn)
  ·by_cases e1:i∈rd<;>by_cases e2:j∈rd
   ·refine k1.apart i j b ?_ ?_ (by rw[<- xR i e1];exact bi) (by rw[<- xR j e2];exact bj)
    ·show(o1 i).live=true;rw[<- xw i e1];exact hi
    ·show(o1 j).live=true;rw[<- xw j e2];exact hj
   ·exfalso
    refine(k1.ours b ⟨i,by show(o1 i).live=true;rw[<- xw i e1];exact hi,by rw[<- xR i e1];exact bi⟩).1 (.inr ⟨j,e2,by rw[<- Ga j e2];exact hj,by rw[<- zW j e2];exact bj⟩)
   ·exfalso
    refine(k1.ours b ⟨j,by show(o1 j).live=true;rw[<- xw j e2];exact hj,by rw[<- xR j e2];exact bj⟩).1 (.inr ⟨i,e1,by rw[<- Ga i e1];exact hi,by rw[<- zW i e1];exact bi⟩)
   ·exact hH.apart i j b (by show(o' i).live=true;rw[<- Ga i e1];exact hi) (by show(o' j).live=true;rw[<- Ga j e2];exact hj) (by rw[<- zW i e1];exact bi) (by rw[<- zW j e2];exact bj)
  ·rcases bP b hb with⟨id,h1,h2,h3⟩|⟨id,h1,h2,h3⟩
   ·obtain⟨a,c⟩:=k1.ours b ⟨id,h2,h3⟩
    exact⟨fun hM=>a (.inl hM),c⟩
   ·obtain⟨a,c⟩:=hH.ours b ⟨id,h2,h3⟩
    exact⟨a,Nat.lt_of_lt_of_le c k2.bY.size⟩
  ·rcases hb with hb|hb
   ·exact .inl (.inl hb)
   ·rcases bP b hb with h|h
    ·exact .inr h
    ·exact .inl (.inr h)
 have res:∀ (vs:List V) (xs:List D) (us':List Value),(∀id∈rd,o1 id=put o Δ id)->cc o1 vs=some xs->(∀id∈V.bf vs,id∉rd)->V.aE (ao M1 iV (hp o1 yW)) iV (hp o1 yW) w' vs us'->
  ∃aC,az M aC ⟨put o' Δ,us⟩ w'/\Trans φ ⟨o',us⟩ w aC ⟨put o' Δ,us⟩ w'/\D.aE (ao M aC ⟨put o' Δ,us⟩) w' xs us':=by
  intro vs xs us' lP h1 WJ h2
  obtain⟨f1,f2,f3,f4,f5⟩:=cT k1 (V.bf vs) (cC vs _ h2)
  have h3:=dr f1 vs xs us' f3 h1 (V.aI f2 _ _ h2)
  obtain⟨aC,m1,m2,m3⟩:=main lP
  refine⟨aC,m1,m2,D.aI (w:=w') (w':=w') (fun b _ hn=>⟨rfl,fun hb=>hn ?_⟩) xs us' h3⟩
  rcases m3 b hb with hb|⟨id,i1,i2,i3⟩
  ·exact .inl hb
  ·exact .inr ⟨id,by rw[f4 id fun hm=>WJ id hm i1];exact i2,i3⟩
 cases e with
 |outgrown=>exact k3.elim
 |panicked ch=>
  obtain⟨val,rfl,g1,lP,x,g2,rfl,g3⟩:=k3
  obtain⟨aC,m1,m2,m3⟩:=res [v] [x] [val] lP (by simp[cc,g2]) (by simpa[V.bf]using g3) ⟨val,[],rfl,g1,rfl⟩
  obtain⟨u,us2,he,h2,_⟩:=m3
  simp at he;obtain⟨rfl,rfl⟩:=he
  exact⟨aC,m1,m2,val,rfl,h2⟩
 |returned val=>
  obtain⟨g1,lP,vs,rs,rfl,g2,rfl,g3⟩:=k3
  match vs,g1,g2,g3 with
  |[],g1,g2,g3=>
   obtain⟨arr,rfl,hv⟩:=g1
   simp only[cc,Option.some.injEq]at g2;subst g2
   obtain⟨aC,m1,m2,m3⟩:=res [] [] arr.toList lP rfl (by simp[V.bf]) hv
   exact⟨aC,m1,m2,arr,rfl,m3⟩
  |[v],g1,g2,g3=>
   obtain⟨aC,m1,m2,m3⟩:=res [v] rs [val] lP g2 g3 ⟨val,[],rfl,g1,rfl⟩
   refine⟨aC,m1,m2, ?_⟩
   cases rs with
   |nil=>cases m3
   |cons x l=>
    obtain⟨u,us2,he,h2,h3⟩:=m3
    simp at he;obtain⟨rfl,rfl⟩:=he
    cases l with
    |nil=>exact h2
    |cons y l=>obtain⟨_,_,h,_⟩:=h3;cases h
  |v::v2::l,g1,g2,g3=>
   obtain⟨arr,rfl,hv⟩:=g1
   obtain⟨aC,m1,m2,m3⟩:=res (v::v2::l) rs arr.toList lP g2 g3 hv
   refine⟨aC,m1,m2, ?_⟩
   have hl:=D.aG _ _ m3
   have Rp:=V.aG _ _ hv
   match rs,hl,m3 with
   |[],hl,_=>rw[Rp]at hl;simp at hl
   |[x],hl,_=>rw[Rp]at hl;simp at hl
   |x::y::l,_,m3=>exact⟨arr,rfl,m3⟩
end
end Go.Proofs.YtealblliddhgiaaGreat
namespace Go.Proofs.YtealblliddhgiaaGreat
inductive fj where
 |skip|val (v:V) (Δ:List (Nat×ae)) (rd:List Nat)|bG (v:V) (ws rd:List Nat)|dN
 deriving Inhabited
def fj.ok:fj->Bool
 | .skip| .val .. =>true
 |_=>false
def vf(dst:Option Tmp)(x:fj)(s:S):S:=
 match x with
 | .skip=>⟨a8 s.env dst (.bS []),s.o,s.nx⟩
 | .val v Δ _=>⟨a8 s.env dst v,put s.o Δ,s.nx⟩
 | .bG .. | .dN=>⟨a8 s.env dst .ab,s.o,s.nx⟩
def kI:fj->List Nat
 | .val _ Δ _=>Δ.map (·.1)
 |_=>[]
def vw:fj->List Nat
 | .val _ _ rd=>rd
 | .bG _ _ rd=>rd
 |_=>[]
def Rt(P:Program)(g:FuncId)(ds:List D)(v:V):Prop:=
 Enters P g/\∀ (M:Nat->Prop) (w:World) (vals:Array Value),(∀b,M b->b<w.heap.size)->D.aE M w ds vals.toList->
  Calls P g vals w fun e w'=>eM (fun _=>False) w w'/\∃val,e= .returned val/\∀φ H,V.den M φ H w' v val
theorem Rt.kG {P:Program}{g:FuncId}{ds:List D}{v:V}(hr:v.refs=[])(h:dX P g (ds.map .d) (fun _=> .no) 0 (fun v' _ _=>v'=v) (fun _ _ _=>False)):Rt P g ds v:=by
 refine⟨h.1,fun M w vals hM hd=> ?_⟩
 let cA:Place:=fun _=> .nilFunc
 have ve:∀b, ¬bT cA (hp (fun _=> .no) 0) b:=by rintro b ⟨id,hl,_⟩;simp[hp,ae.live]at hl
 refine(h.2 M cA w vals (ll cA hM) ((V.cm _ _).2 (D.aI (w:=w) (w':=w) (B:=M) (fun b _ hB=>⟨rfl,fun h=>h.elim hB (ve b)⟩) _ _ hd))).mono ?_
 rintro e w' ⟨aC,o',nx',v',k1,k2,k3⟩
 refine⟨⟨k2.bY.os,k2.bY.tape,k2.bY.output,k2.bY.size,fun k hk _=>k2.bY.block k hk (ve k)⟩, ?_⟩
 cases e with
 |outgrown=>exact k3.elim
 |panicked ch=>obtain⟨_,_,_,h⟩:=k3;exact h.elim
 |returned val=>
  obtain⟨g1,rfl⟩:=k3
  exact⟨val,rfl,fun φ H=>V.lq (B:=ao M aC (hp o' nx')) (φ:=aC) (H:=hp o' nx') (fun b hb hm=>hb (.inl hm)) v' val (fun id ax=>by rw[hr]at ax;cases ax) g1⟩
def wo(P:Program)(s:S)(fr:Nat)(op:Op)(v:V)(Δ:List (Nat×ae))(rd:List Nat):Prop:=
 ((∃wm,gr P s fr op=some (v,Δ,wm))/\rd=jr s op)\/
 (∃c f g first cap,op= .call c/\c.callee= .value f/\s.ev f= .func (.func g) first cap/\
  ((∃ds rs,cc s.o (first++c.args.toList.map s.ev++cap)=some ds/\bJ P g ds (.ret rs)/\v=gS rs/\rd=jr s op/\
    (Δ=cQ s.o (V.bf (first++c.args.toList.map s.ev++cap))\/D.jE rs=true/\Δ=[]))\/
   (∃rs,xP P g (first++c.args.toList.map s.ev++cap) rd s.o (.ret rs) Δ/\v=gS rs/\∀id∈rd,id<s.nx)\/
   (∃ds,cc s.o (first++c.args.toList.map s.ev++cap)=some ds/\Rt P g ds v/\rd=jr s op/\Δ=cQ s.o (V.bf (first++c.args.toList.map s.ev++cap)))\/
   (Cm P g (first++c.args.toList.map s.ev++cap) rd s.o fr v Δ/\∀id∈rd,id<s.nx)))
def zX(P:Program)(s:S)(op:Op)(v:V)(ws rd:List Nat):Prop:=
 ∃c f g first cap,op= .call c/\c.callee= .value f/\s.ev f= .func (.func g) first cap/\
  ((∃ds x,cc s.o (first++c.args.toList.map s.ev++cap)=some ds/\bJ P g ds (.bG x)/\x.flat=true/\v= .d x/\rd=jr s op/\ws=[])\/
   (∃x Δ,xP P g (first++c.args.toList.map s.ev++cap) rd s.o (.bG x) Δ/\v= .d x/\ws=Δ.map (·.1)/\∀id∈rd,id<s.nx))
def dg(s:S)(gd:Option (Nat×Bool))(b:Bool):Prop:=
 match gd with
 |none=>b=true
 |some (d,want)=>match s.env d with
  | .d (.bool c)=>b=(c==want)
  | .bS []=>b=false
  |_=>False
def LU(P:Program)(s:S)(fr:Nat)(o:cg)(x:fj):Prop:=
 match x with
 | .skip=>dg s o.gd false
 | .val v Δ rd=>dg s o.gd true/\wo P s fr o.op v Δ rd
 | .bG v ws rd=>dg s o.gd true/\zX P s o.op v ws rd
 | .dN=>True
def eJ(oc:Nat->cg)(ac:Nat->fj)(E:Nat->Bool)(s:S):Nat->S
 |0=>s
 |k+1=>if E k then vf (oc k).dst (ac k) (eJ oc ac E s k)else eJ oc ac E s k
structure Compat (oc:Nat->cg) (ac:Nat->fj) (R:Nat->List Nat) (i j:Nat):Prop where
 di:∀d,(oc i).dst=some d->d∉eY (oc j)
 dj:∀d,(oc j).dst=some d->d∉eY (oc i)
 wi:∀id∈kI (ac i),id∉R j/\id∉kI (ac j)
 wj:∀id∈kI (ac j),id∉R i
section
variable {P:Program}{oc:Nat->cg}{ac:Nat->fj}{s:S}{n:Nat}{E:Nat->Bool}{R:Nat->List Nat}{pr:Nat->Nat->Prop}
theorem Co{env:Nat->V}{dst:Option Tmp}{v:V}{t:Nat}(h:∀d,dst=some d->d≠t):a8 env dst v t=env t:=by
 cases dst with
 |none=>rfl
 |some d=>simp only[a8,aJ];rw[if_neg (fun e=>h d rfl e.symm)]
theorem gh{o:Nat->ae}:∀ {Δ:List (Nat×ae)} {id:Nat},id∉Δ.map (·.1)->put o Δ id=o id
 |[],_,_=>rfl
 |x::Δ,id,h=>by
  simp only[List.map_cons,List.mem_cons,not_or]at h
  have:=gh (o:=ak o x.1 x.2) (Δ:=Δ) h.2
  simp only[put,List.foldl_cons]at this|-
  rw[this];simp[h.1]
theorem xS{o o':Nat->ae}:∀ {Δ:List (Nat×ae)} {id:Nat},id∈Δ.map (·.1)\/o id=o' id->put o Δ id=put o' Δ id
 |[],_,h=>by rcases h with h|h;· simp at h
             ·exact h
 |x::Δ,id,h=>by
  simp only[put,List.foldl_cons]
  refine xS (Δ:=Δ) (o:=ak o x.1 x.2) (o':=ak o' x.1 x.2) ?_
  simp only[List.map_cons,List.mem_cons]at h
  simp only[aJ]
  by_cases e:id=x.1
  ·right;simp[e]
  ·rcases h with(h|h)|h
   ·exact absurd h e
   ·exact .inl h
   ·right;simp[e,h]
theorem kJ{dst:Option Tmp}{x:fj}{t:Nat}(h:∀d,dst=some d->d≠t):(vf dst x s).env t=s.env t:=by
 cases x<;>exact Co h
theorem mW{dst:Option Tmp}{x:fj}{id:Nat}(h:id∉kI x):(vf dst x s).o id=s.o id:=by
 cases x with
 |val v Δ rd=>exact gh h
 |_=>rfl
theorem xT{dst:Option Tmp}{x:fj}{s':S}{t:Nat}(h:s.env t=s'.env t):(vf dst x s).env t=(vf dst x s').env t:=by
 cases x<;>cases dst<;>simp only[vf,a8,aJ]<;>first|exact h|(split<;>first|rfl|exact h)
theorem Cp{dst:Option Tmp}{x:fj}{s':S}{id:Nat}(h:s.o id=s'.o id):(vf dst x s).o id=(vf dst x s').o id:=by
 cases x with
 |val v Δ rd=>exact xS (.inr h)
 |_=>exact h
theorem put_comm{o:Nat->ae}{Δ Dz:List (Nat×ae)}(h:∀id∈Δ.map (·.1),id∉Dz.map (·.1)):put (put o Δ) Dz=put (put o Dz) Δ:=by
 funext id
 by_cases h1:id∈Δ.map (·.1)
 ·rw[gh (h id h1)]
  exact xS (.inl h1)
 ·rw[gh (Δ:=Δ) h1]
  by_cases h2:id∈Dz.map (·.1)
  ·exact xS (.inl h2)
  ·rw[gh h2,gh h2,gh h1]
theorem wq{env:Nat->V}{d d':Option Tmp}{v v':V}(h:∀t,d=some t->d'≠some t):a8 (a8 env d v) d' v'=a8 (a8 env d' v') d v:=by
 cases d with
 |none=>rfl
 |some t=>
  cases d' with
  |none=>rfl
  |some t'=>
   have gv:t'≠t:=fun e=>h t rfl (by rw[e])
   funext i
   simp only[a8,aJ]
   by_cases e1:i=t<;>by_cases e2:i=t'
   ·exact absurd (e2.symm.trans e1) gv
   all_goals simp[e1,e2]
   ·intro e;exact absurd e.symm gv
   ·intro e;exact absurd e gv
theorem G4{d d':Option Tmp}{x x':fj}(hd:∀t,d=some t->d'≠some t)(hw:∀id∈kI x,id∉kI x'):vf d x (vf d' x' s)=vf d' x' (vf d x s):=by
 cases x<;>cases x'<;>simp only[vf]<;>first
  |rw[wq hd,put_comm hw]
  |rw[wq hd]
def xU(n:Nat)(pr:Nat->Nat->Prop)(E:Nat->Bool):Prop:=∀k,k<n->E k=true->∀j,pr k j->E j=true
theorem agree(_:∀k,k<n->∀j,pr k j->j<k)(hc:∀i j,i<j->j<n-> ¬pr j i->Compat oc ac R i j)(hE:xU n pr E){i:Nat}(hi:i<n)(jZ:E i=false)(Cq:∀j,pr i j->E j=true):
 (∀t∈eY (oc i),(eJ oc ac E s n).env t=(eJ oc ac (fun _=>true) s i).env t)/\(∀id∈R i,(eJ oc ac E s n).o id=(eJ oc ac (fun _=>true) s i).o id):=by
 have a:∀k,k<=i->(∀t∈eY (oc i),(eJ oc ac E s k).env t=(eJ oc ac (fun _=>true) s k).env t)/\(∀id∈R i,(eJ oc ac E s k).o id=(eJ oc ac (fun _=>true) s k).o id):=by
  intro k
  induction k with
  |zero=>intro _;exact⟨fun _ _=>rfl,fun _ _=>rfl⟩
  |succ k ih=>
   intro hk
   obtain⟨h1,h2⟩:=ih (by omega)
   simp only[eJ,if_true]
   by_cases gG:E k=true
   ·simp only[gG,if_true]
    exact⟨fun t ht=>xT (h1 t ht),fun id ax=>Cp (h2 id ax)⟩
   ·have LH: ¬pr i k:=fun hm=>gG (Cq k hm)
    have c:=hc k i (by omega) hi LH
    simp only[gG]
    refine⟨fun t ht=> ?_,fun id ax=> ?_⟩
    ·rw[kJ fun d hd e=>c.di d hd (e ▸ ht)];exact h1 t ht
    ·rw[mW fun hm=>(c.wi id hm).1 ax];exact h2 id ax
 have b:∀k,i<=k->k<=n->(∀t∈eY (oc i),(eJ oc ac E s k).env t=(eJ oc ac (fun _=>true) s i).env t)/\(∀id∈R i,(eJ oc ac E s k).o id=(eJ oc ac (fun _=>true) s i).o id):=by
  intro k JD
  induction JD with
  |refl=>intro _;exact a i (Nat.le_refl _)
  | @step k JD ih=>
    intro hk
    have JD:i<=k:=JD
    obtain⟨h1,h2⟩:=ih (by omega)
    simp only[eJ]
    by_cases gG:E k=true
    ·have gv:i≠k:=fun e=>by rw[e,gG]at jZ;cases jZ
     have LH: ¬pr k i:=fun hm=>by have:=hE k (by omega) gG i hm;rw[jZ]at this;cases this
     have c:=hc i k (by omega) (by omega) LH
     simp only[gG,if_true]
     refine⟨fun t ht=> ?_,fun id ax=> ?_⟩
     ·rw[kJ fun d hd e=>c.dj d hd (e ▸ ht)];exact h1 t ht
     ·rw[mW fun hm=>c.wj id hm ax];exact h2 id ax
    ·simp only[gG];exact⟨h1,h2⟩
 exact b n (by omega) (Nat.le_refl _)
theorem insert(hc:∀i j,i<j->j<n-> ¬pr j i->Compat oc ac R i j)(hE:xU n pr E){i:Nat}(hi:i<n)(jZ:E i=false){E':Nat->Bool}(Cr:∀k,E' k=(E k||k==i)):
 eJ oc ac E' s n=vf (oc i).dst (ac i) (eJ oc ac E s n):=by
 have a:∀k,k<=i->eJ oc ac E' s k=eJ oc ac E s k:=by
  intro k
  induction k with
  |zero=>intro _;rfl
  |succ k ih=>
   intro hk
   have:E' k=E k:=by rw[Cr k];have:(k==i)=false:=by simp;omega
                     simp[this]
   simp only[eJ,this,ih (by omega)]
 have b:∀k,i+1<=k->k<=n->eJ oc ac E' s k=vf (oc i).dst (ac i) (eJ oc ac E s k):=by
  intro k JD
  induction JD with
  |refl=>
   intro _
   have h1:E' i=true:=by rw[Cr i];simp
   simp only[eJ,h1,jZ,if_true,a i (Nat.le_refl _)]
   rfl
  | @step k JD ih=>
    intro hk
    have JD:i+1<=k:=JD
    have h1:E' k=E k:=by rw[Cr k];have:(k==i)=false:=by simp;omega
                         simp[this]
    simp only[eJ,h1,ih (by omega)]
    by_cases gG:E k=true
    ·have LH: ¬pr k i:=fun hm=>by have:=hE k (by omega) gG i hm;rw[jZ]at this;cases this
     have c:=hc i k (by omega) (by omega) LH
     simp only[gG,if_true]
     refine G4 (fun t ht he=> ?_) (fun id ax hm=>(c.wi id hm).2 ax)
     exact c.di t he (by simp[eY,ht])
    ·simp only[gG];rfl
 exact b n (by omega) (Nat.le_refl _)
end
end Go.Proofs.YtealblliddhgiaaGreat
namespace Go.Proofs.YtealblliddhgiaaGreat
structure sj (M:Nat->Prop) (cA:Place) (H0:Hp) (w0:World) (n:Nat) (cx:Cx) (φ:Place) (s:S) (us:Nat->Prop) (a:Act) (w:World):Prop where
 heap:az M φ ⟨s.o,us⟩ w
 tr:Trans cA H0 w0 φ ⟨s.o,us⟩ w
 size:a.tmps.size=n
 defers:tu cx w0 φ ⟨s.o,us⟩ w a.defers
 env:∀i,V.den (ao M φ ⟨s.o,us⟩) φ ⟨s.o,us⟩ w (s.env i) (a.tmps.getD i undef)
section
variable {P:Program}{M:Nat->Prop}{φ cA:Place}{H0:Hp}{w w' w0:World}{n:Nat}{s:S}{us:Nat->Prop}{a:Act}{cx:Cx}{ro:Option Nat}{k:Nat}
variable {next:Act->World->Prop}{Q:Exit->Act->World->Prop}
theorem iI(hs:sj M cA H0 w0 n cx φ s us a w){aC:Place}{H':Hp}(hH:az M aC H' w')(ht:Trans φ ⟨s.o,us⟩ w aC H' w'){v:V}{val:Value}(hd:V.den (ao M aC H') aC H' w' v val){dst:Option Tmp}(cK:gA n dst)
 {o':Nat->ae} {us':Nat->Prop} (ho:H'.o=o') (hu:∀id,H'.us id->us' id):sj M cA H0 w0 n cx aC ⟨a8 s.env dst v,o',s.nx⟩ us' (a.put dst val) w':=by
 obtain⟨k1,k2⟩:=jf hH hu
 subst ho
 refine⟨k1,hs.tr.trans (ht.trans k2), ?_, ?_,fun i=> ?_⟩
 ·cases dst<;>simp[Act.put,hs.size]
 ·have:=hs.defers.mono (ht.trans k2);cases dst<;>exact this
 ·cases dst with
  |none=>exact V.aF (ht.trans k2) _ _ (hs.env i)
  |some d=>
   simp only[gA]at cK
   simp only[a8,aJ,Act.put]
   by_cases hi:i=d
   ·subst hi
    have h1:(a.tmps.setIfInBounds i val).getD i undef=val:=by simp[Array.getD,hs.size,cK]
    rw[if_pos rfl,h1]
    exact V.aF k2 _ _ hd
   ·have h1:(a.tmps.setIfInBounds d val).getD i undef=a.tmps.getD i undef:=by
     simp only[Array.getD_eq_getD_getElem?]
     rw[Array.getElem?_setIfInBounds_ne (Ne.symm hi)]
    rw[if_neg hi,h1]
    exact V.aF (ht.trans k2) _ _ (hs.env i)
theorem wu(hs:sj M cA H0 w0 n cx φ s us a w){o:Oper}{op:Op}(dD:o.op=op){c:Call}{f:Operand}{g:FuncId}{first cap:List V}(hc:op= .call c)(dY:c.callee= .value f)(tw:s.ev f= .func (.func g) first cap):
 ∃vals:Array Value,V.aE (ao M φ ⟨s.o,us⟩) φ ⟨s.o,us⟩ w (first++c.args.toList.map s.ev++cap) vals.toList/\(Enters P g->(execOp a.eval o).run P w= .ok (.enter g vals) w):=by
 have hf:=mJ (M:=M) (φ:=φ) (H:=⟨s.o,us⟩) (w:=w) s a hs.env f
 have ei:=j8 (M:=M) (φ:=φ) (H:=⟨s.o,us⟩) (w:=w) s a hs.env c.args.toList
 rw[tw]at hf
 obtain⟨fa,ca,Nt,BZ,Rm⟩:=hf
 refine⟨fa++c.args.map a.eval++ca, ?_,fun he=> ?_⟩
 ·rw[Array.toList_append,Array.toList_append,Array.toList_map]
  exact V.l0 BZ ei Rm
 ·have:=lj (w:=w) he (fa++c.args.map a.eval++ca)
  generalize kj:fa++c.args.map a.eval++ca=vals at this
  simp[execOp,dD,hc,resolve,dY,Nt,Deferred.ofValue,invoke,this,kj]
theorem zY(hs:sj M cA H0 w0 n cx φ s us a w){fr:Nat}(cS: ¬us fr)(qE:∀id,id<s.nx->us id){o:Oper}{op:Op}(dD:o.op=op)(cK:gA n o.dst){v:V}{Δ:List (Nat×ae)}{rd:List Nat}(h:wo P s fr op v Δ rd)
 (hN:∀aC a' w',sj M cA H0 w0 n cx aC (vf o.dst (.val v Δ rd) s) (fun id=>us id\/id=fr) a' w'->next a' w'):o.wpIn (dP ro) k P a w next Q:=by
 rcases h with⟨⟨wm,h⟩,_⟩|⟨c,f,g,first,cap,hc,dY,tw,h⟩
 ·have h1:=zT (K:=fun v' Dz _=>v'=v/\Dz=Δ) h ⟨rfl,rfl⟩
  obtain⟨nx,val,w',aC,v',Dz,wm,⟨rfl,rfl⟩,hr,WK,g1,g2,g3,g4⟩:=vX hs.heap (s:=s) rfl hs.env cS dD h1
  have pJ:=iI hs g1 g2 g3 cK (o':=put s.o Dz) (us':=fun id=>us id\/id=fr) rfl (fun id hu=>hu.elim .inl (g4 id))
  refine ki (fun c hc=>by rw[dD]at hc;subst hc;exact h1) ?_
  rw[hr]
  rcases WK with rfl|⟨rfl,rfl⟩
  ·exact hN _ _ _ pJ
  ·exact hN _ _ _ pJ
 ·refine ki (fun c' zJ=>by rw[dD,hc]at zJ;cases zJ) ?_
  obtain⟨vals,aM,fg⟩:=wu (P:=P) hs dD hc dY tw
  generalize first++c.args.toList.map s.ev++cap=all at h aM
  rcases h with⟨ds,rs,eP,hP,rfl,_,Ny⟩|⟨rs,hH,rfl,my⟩|⟨ds,eP,hP,_,rfl⟩|⟨hH,my⟩
  ·obtain⟨f1,f2,f3,f4,f5⟩:=cT hs.heap (V.bf all) (cC all _ aM)
   have kF:(⟨s.o,us⟩:Hp).put (cQ s.o (V.bf all))=⟨put s.o (cQ s.o (V.bf all)),us⟩:=lh (H:=⟨s.o,us⟩) (by rw[nJ];exact cC all _ aM)
   have vM:=dr f1 all ds _ f3 eP (V.aI f2 _ _ aM)
   have eT:=hP.2 _ w vals (fun b hb=>hb.elim (f1.u5 b) fun hl=>(f1.ours b hl).2) vM
   rw[fg hP.1]
   refine⟨fun hd=>by simp[dP]at hd,db (eT.mono fun e w' ⟨hk,ho⟩=> ?_)⟩
   cases e with
   |panicked ch=>cases rs with|nil=>exact ho.elim|cons x l=>cases l<;>exact ho.elim
   |outgrown=>cases rs with|nil=>exact ho.elim|cons x l=>cases l<;>exact ho.elim
   |returned val=>
    rcases Ny with rfl|⟨o9,rfl⟩
    ·obtain⟨k1,k2⟩:=fh f1 hk
     refine hN _ _ _ (iI hs k1 (f2.trans k2) (jF ho) cK (by rw[kF]) fun id hu=> ?_)
     rw[kF]at hu;exact .inl hu
    ·obtain⟨k1,k2⟩:=fh hs.heap hk
     have ho:=R.xB (out:= .ret rs) (B':=ao M φ ⟨s.o,us⟩) o9 ho
     exact hN _ _ _ (iI hs k1 k2 (jF ho) cK rfl fun id hu=> .inl hu)
  ·have eT:=hH.2 s.o us M φ w vals (fun id ax=>⟨rfl,qE id (my id ax)⟩) hs.heap aM
   rw[fg hH.1]
   refine⟨fun hd=>by simp[dP]at hd,db (eT.mono fun e w' ⟨aC,k1,k2,ho⟩=> ?_)⟩
   cases e with
   |panicked ch=>cases rs with|nil=>exact ho.elim|cons x l=>cases l<;>exact ho.elim
   |outgrown=>cases rs with|nil=>exact ho.elim|cons x l=>cases l<;>exact ho.elim
   |returned val=>exact hN _ _ _ (iI hs k1 k2 (jF ho) cK rfl fun id hu=> .inl hu)
  ·obtain⟨f1,f2,f3,f4,f5⟩:=cT hs.heap (V.bf all) (cC all _ aM)
   have kF:(⟨s.o,us⟩:Hp).put (cQ s.o (V.bf all))=⟨put s.o (cQ s.o (V.bf all)),us⟩:=lh (H:=⟨s.o,us⟩) (by rw[nJ];exact cC all _ aM)
   have vM:=dr f1 all ds _ f3 eP (V.aI f2 _ _ aM)
   have eT:=hP.2 _ w vals (fun b hb=>hb.elim (f1.u5 b) fun hl=>(f1.ours b hl).2) vM
   rw[fg hP.1]
   refine⟨fun hd=>by simp[dP]at hd,db (eT.mono fun e w' ⟨hk,val,he,ho⟩=> ?_)⟩
   subst he
   obtain⟨k1,k2⟩:=fh f1 hk
   refine hN _ _ _ (iI hs k1 (f2.trans k2) (ho _ _) cK (by rw[kF]) fun id hu=> ?_)
   rw[kF]at hu;exact .inl hu
  ·have eT:=hH.2 s.o us M φ w vals (fun id ax=>⟨rfl,qE id (my id ax)⟩) cS hs.heap aM
   rw[fg hH.1]
   refine⟨fun hd=>by simp[dP]at hd,db (eT.mono fun e w' ⟨aC,k1,k2,val,he,ho⟩=> ?_)⟩
   subst he
   exact hN _ _ _ (iI hs k1 k2 ho cK rfl fun id hu=>hu)
theorem Ff{o o2:Nat->ae}{us us2:Nat->Prop}(hH:az M φ ⟨o,us⟩ w)(ho:∀id,o2 id=o id\/o2 id= .no)(hu:∀id,us id->us2 id):az M φ ⟨o2,us2⟩ w/\Trans φ ⟨o,us⟩ w φ ⟨o2,us2⟩ w:=by
 have hl:∀id,(o2 id).live=true->(o id).live=true:=fun id h=>by
  rcases ho id with e|e
  ·rw[<- e];exact h
  ·rw[e]at h;cases h
 have Dj:∀b,bT φ ⟨o2,us2⟩ b->bT φ ⟨o,us⟩ b:=fun b ⟨id,h1,h2⟩=>⟨id,hl id h1,h2⟩
 have ht:Trans φ ⟨o,us⟩ w φ ⟨o2,us2⟩ w:=by
  refine⟨eM.refl _ _,fun b hb=> .inl (Dj b hb),⟨hu,fun id _ hr=> ?_,fun id e' _ he=> ?_⟩⟩
  ·rcases ho id with e|e
   ·exact⟨by show(o id).bM=true;rw[<- e];exact hr,rfl⟩
   ·rw[show(⟨o2,us2⟩:Hp).o id= .no from e]at hr;cases hr
  ·rcases ho id with e|e
   ·exact⟨e',by show(o id).ba=some e';rw[<- e];exact he,Nat.le_refl _,fun _=>rfl⟩
   ·rw[show(⟨o2,us2⟩:Hp).o id= .no from e]at he;cases he
 refine⟨⟨fun id=> ?_,fun id hn=> ?_,fun i j b hi hj=>hH.apart i j b (hl i hi) (hl j hj),fun b hb=>hH.ours b (Dj b hb),hH.u5⟩,ht⟩
 ·rcases ho id with e|e
  ·exact(hH.ok id).mono ht e rfl fun _ _ _=>rfl
  ·unfold aK;rw[show(⟨o2,us2⟩:Hp).o id= .no from e];trivial
 ·rcases ho id with e|e
  ·exact e.trans (hH.fresh id fun h=>hn (hu id h))
  ·exact e
def qJ(ds:List Nat)(wl:List Nat)(N:Nat)(s:S):S:=
 ⟨fun t=>if ds.contains t=true then .ab else s.env t,fun id=>if wl.contains id=true then .no else s.o id,s.nx+N⟩
theorem G5(hs:sj M cA H0 w0 n cx φ s us a w)(qE:∀id,id<s.nx->us id){N:Nat}(dA:∀id,us id->id<s.nx+N){o:Oper}{op:Op}(dD:o.op=op){v:V}{ws rd:List Nat}(h:zX P s op v ws rd)
 {s0:S} {ds wl:List Nat} (eP:∀t,ds.contains t=false->s.env t=s0.env t) (WL:∀id,wl.contains id=false->s.o id=s0.o id) (JE:∀id∈ws,wl.contains id=true) (rD:s0.nx=s.nx)
 (hQ:∀aC w' val,cf M cA H0 w0 n cx aC (qJ ds wl N s0) a w'->V.den (ao M aC (qJ ds wl N s0).H) aC (qJ ds wl N s0).H w' v val->Q (.panic [{v:=val,recovered:=false}]) a w'):o.wpIn (dP ro) k P a w next Q:=by
 obtain⟨c,f,g,first,cap,hc,dY,tw,h⟩:=h
 refine ki (fun c' zJ=>by rw[dD,hc]at zJ;cases zJ) ?_
 obtain⟨vals,aM,fg⟩:=wu (P:=P) hs dD hc dY tw
 generalize first++c.args.toList.map s.ev++cap=all at h aM
 have fin:∀ (aC:Place) (w':World) (o':Nat->ae) (val:Value),(∀id,wl.contains id=false->o' id=s.o id)->az M aC ⟨o',us⟩ w'->Trans φ ⟨s.o,us⟩ w aC ⟨o',us⟩ w'->V.den (ao M aC ⟨o',us⟩) aC ⟨o',us⟩ w' v val->Q (.panic [{v:=val,recovered:=false}]) a w':=by
  intro aC w' o' val zN k1 k2 k3
  obtain⟨m1,m2⟩:=Ff (o2:=(qJ ds wl N s0).o) (us2:=fun id=>id<s0.nx+N) k1 (fun id=>by
   show(if wl.contains id=true then ae.no else s0.o id)=o' id\/_
   by_cases hw:wl.contains id=true
   ·right;simp only[qJ];rw[if_pos hw]
   ·left;rw[if_neg hw,zN id (by simpa using hw),WL id (by simpa using hw)]) (fun id h=>by rw[rD];exact dA id h)
  have ht:=hs.tr.trans (k2.trans m2)
  refine hQ aC w' val ⟨m1,ht,hs.size,hs.defers.mono (k2.trans m2),fun i=> ?_⟩ (V.aF m2 _ _ k3)
  show V.den _ _ _ _ (if ds.contains i=true then V.ab else s0.env i) _
  by_cases hd:ds.contains i=true
  ·rw[if_pos hd];trivial
  ·rw[if_neg hd, <- eP i (by simpa using hd)];exact V.aF (k2.trans m2) _ _ (hs.env i)
 rcases h with⟨dd,x,WM,hP,o9,rfl,_,rfl⟩|⟨x,Δ,hH,rfl,rfl,my⟩
 ·obtain⟨f1,f2,f3,f4,f5⟩:=cT hs.heap (V.bf all) (cC all _ aM)
  have vM:=dr f1 all dd _ f3 WM (V.aI f2 _ _ aM)
  have eT:=hP.2 _ w vals (fun b hb=>hb.elim (f1.u5 b) fun hl=>(f1.ours b hl).2) vM
  rw[fg hP.1]
  refine⟨fun hd=>by simp[dP]at hd,db (eT.mono fun e w' ⟨hk,ho⟩=> ?_)⟩
  cases e with
  |returned val=>exact ho.elim
  |outgrown=>exact ho.elim
  |panicked ch=>
   obtain⟨k1,k2⟩:=fh hs.heap hk
   have ho:=R.xB (out:= .bG x) (B':=ao M φ ⟨s.o,us⟩) o9 ho
   obtain⟨val,rfl,hd⟩:=ho
   exact fin φ w' s.o val (fun _ _=>rfl) k1 k2 hd
 ·have eT:=hH.2 s.o us M φ w vals (fun id ax=>⟨rfl,qE id (my id ax)⟩) hs.heap aM
  rw[fg hH.1]
  refine⟨fun hd=>by simp[dP]at hd,db (eT.mono fun e w' ⟨aC,k1,k2,ho⟩=> ?_)⟩
  cases e with
  |returned val=>exact ho.elim
  |outgrown=>exact ho.elim
  |panicked ch=>
   obtain⟨val,rfl,hd⟩:=ho
   exact fin aC w' _ val (fun id ax=>xQ fun y hy e=>by
    have:=JE y.1 (List.mem_map_of_mem hy)
    rw[e,ax]at this;cases this) k1 k2 hd
theorem fE(dC:∀i,V.den (ao M φ ⟨s.o,us⟩) φ ⟨s.o,us⟩ w (s.env i) (a.tmps.getD i undef)){ops:Array Oper}{o:Oper}{gd:Option (Nat×Bool)}{b:Bool}
 (hg:match o.guard with|none=>gd=none|some (j,want)=>∃d,rn ops j=some d/\gd=some (d,want)) (h:dg s gd b):Region.wanted o (yielded ops a.tmps)=b:=by
 unfold Region.wanted
 split at hg
 ·rename_i hn;simp only[hn];subst hg;exact h.symm
 ·rename_i j want hn
  simp only[hn]
  obtain⟨d,hd,rfl⟩:=hg
  unfold rn at hd
  unfold yielded
  simp only[hd,Option.bind_some]
  simp only[dg]at h
  have he:=dC d
  split at h
  ·rename_i c hv
   rw[hv]at he
   simp only[V.den,D.den]at he
   have:a.tmps[d]? =some (.bool c):=by
    rw[Array.getD_eq_getD_getElem?]at he
    cases hx:a.tmps[d]? with
    |none=>rw[hx]at he;simp[undef]at he
    |some x=>rw[hx]at he;simp at he;rw[he]
   simp only[this,h]
   cases c<;>cases want<;>rfl
  ·rename_i hv
   rw[hv]at he
   obtain⟨arr,cF,hn⟩:=he
   have:∀c,a.tmps[d]? ≠some (.bool c):=by
    intro c hx
    rw[Array.getD_eq_getD_getElem?,hx]at cF
    simp at cF
   subst h
   cases hx:a.tmps[d]? with
   |none=>rfl
   |some x=>cases x<;>first|(exact absurd hx (this _))|rfl
  ·exact h.elim
theorem fF{s s':S}{gd:Option (Nat×Bool)}{b:Bool}(h:∀d want,gd=some (d,want)->s'.env d=s.env d)(hg:dg s gd b):dg s' gd b:=by
 unfold dg at*
 cases gd with
 |none=>exact hg
 |some p=>obtain⟨d,want⟩:=p;simp only at hg|-;rw[h d want rfl];exact hg
theorem zZ{s s':S}{x:Operand}(h:∀t,x= .tmp t->s'.env t=s.env t):s'.ev x=s.ev x:=by
 cases x<;>simp only[S.ev]
 exact h _ rfl
theorem tK{s s':S}{op:Op}{c:Call}{f:Operand}{g:FuncId}{first cap:List V}(hv:∀x∈op.operands,s'.ev x=s.ev x)(hc:op= .call c)(dY:c.callee= .value f)(tw:s.ev f= .func (.func g) first cap):
 s'.ev f= .func (.func g) first cap/\c.args.toList.map s'.ev=c.args.toList.map s.ev:=by
 subst hc
 exact⟨(hv f (by simp only[Op.operands,Call.operands,dY];exact Array.mem_append.2 (.inl (by simp)))).trans tw,
  List.map_congr_left fun x hx=>hv x (by simp only[Op.operands,Call.operands];exact Array.mem_append.2 (.inr (Array.mem_toList_iff.1 hx)))⟩
theorem xP.frame {g:FuncId}{args:List V}{rd:List Nat}{o o':Nat->ae}{out:R}{Δ:List (Nat×ae)}(ho:∀id∈rd,o' id=o id)(h:xP P g args rd o out Δ):xP P g args rd o' out Δ:=
 ⟨h.1,fun o2 us M φ w vals h1 h2 h3=>h.2 o2 us M φ w vals (fun id ax=>⟨(h1 id ax).1.trans (ho id ax),(h1 id ax).2⟩) h2 h3⟩
theorem Cm.frame {g:FuncId}{args:List V}{rd:List Nat}{o o':Nat->ae}{fr:Nat}{v:V}{Δ:List (Nat×ae)}(ho:∀id∈rd,o' id=o id)(h:Cm P g args rd o fr v Δ):Cm P g args rd o' fr v Δ:=
 ⟨h.1,fun o2 us M φ w vals h1 h2 h3=>h.2 o2 us M φ w vals (fun id ax=>⟨(h1 id ax).1.trans (ho id ax),(h1 id ax).2⟩) h2 h3⟩
theorem rJ{s s':S}{fr:Nat}{op:Op}{v:V}{Δ:List (Nat×ae)}{rd:List Nat}(hv:∀x∈op.operands,s'.ev x=s.ev x)(ho:∀id∈rd,s'.o id=s.o id)(qE:s'.nx=s.nx)(h:wo P s fr op v Δ rd):∃wm,wo P s' fr op v Δ wm:=by
 rcases h with⟨⟨wm,h⟩,my⟩|⟨c,f,g,first,cap,rfl,dY,tw,h⟩
 ·exact⟨_, .inl ⟨⟨wm,by rw[Cl op hv (by rw[<- my];exact ho)];exact h⟩,rfl⟩⟩
 ·obtain⟨hf,hm⟩:=tK hv rfl dY tw
  rcases h with⟨ds,rs,eP,hP,pa,my,Ny⟩|⟨rs,hH,pa,my⟩|⟨ds,eP,hP,my,Ny⟩|⟨hH,my⟩
  ·have hr:∀id∈V.ag (first++c.args.toList.map s.ev++cap),s'.o id=s.o id:=fun id ax=>ho id (by rw[my];simp only[jr,dY,tw];exact ax)
   refine⟨_, .inr ⟨c,f,g,first,cap,rfl,dY,hf, .inl ⟨ds,rs,by rw[hm,ig _ hr];exact eP,hP,pa,rfl, ?_⟩⟩⟩
   rw[hm,gf (o:=s.o) fun id ax=>hr id (jH _ id ax)]
   exact Ny
  ·exact⟨rd, .inr ⟨c,f,g,first,cap,rfl,dY,hf, .inr (.inl ⟨rs,by rw[hm];exact hH.frame ho,pa,by rw[qE];exact my⟩)⟩⟩
  ·have hr:∀id∈V.ag (first++c.args.toList.map s.ev++cap),s'.o id=s.o id:=fun id ax=>ho id (by rw[my];simp only[jr,dY,tw];exact ax)
   refine⟨_, .inr ⟨c,f,g,first,cap,rfl,dY,hf, .inr (.inr (.inl ⟨ds,by rw[hm,ig _ hr];exact eP,hP,rfl, ?_⟩))⟩⟩
   rw[hm,gf (o:=s.o) fun id ax=>hr id (jH _ id ax)]
   exact Ny
  ·exact⟨rd, .inr ⟨c,f,g,first,cap,rfl,dY,hf, .inr (.inr (.inr ⟨by rw[hm];exact hH.frame ho,by rw[qE];exact my⟩))⟩⟩
theorem z7{s s':S}{op:Op}{v:V}{ws rd:List Nat}(hv:∀x∈op.operands,s'.ev x=s.ev x)(ho:∀id∈rd,s'.o id=s.o id)(qE:s'.nx=s.nx)(h:zX P s op v ws rd):zX P s' op v ws rd:=by
 obtain⟨c,f,g,first,cap,rfl,dY,tw,h⟩:=h
 obtain⟨hf,hm⟩:=tK hv rfl dY tw
 refine⟨c,f,g,first,cap,rfl,dY,hf, ?_⟩
 rw[hm]
 rcases h with⟨ds,x,eP,hP,o9,pa,my,JE⟩|⟨x,Δ,hH,pa,JE,my⟩
 ·have hr:∀id∈V.ag (first++c.args.toList.map s.ev++cap),s'.o id=s.o id:=fun id ax=>ho id (by rw[my];simp only[jr,dY,tw];exact ax)
  exact .inl ⟨ds,x,by rw[ig _ hr];exact eP,hP,o9,pa,by rw[my];simp only[jr,dY,tw,hf,hm],JE⟩
 ·exact .inr ⟨x,Δ,hH.frame ho,pa,JE,by rw[qE];exact my⟩
theorem tM{ops:Array Oper}:∀ (l:List Oper) (l':List cg) (i:Nat) (o:Oper),kU n ops l=some l'->l[i]? =some o->Gh n ops o=some (bX l' i)
 |[],_,_,_,_,h=>by simp at h
 |x::l,l',i,o,h,hi=>by
  simp only[kU]at h
  split at h
  ·rename_i y ys hy hys
   injection h with h;subst h
   cases i with
   |zero=>simp at hi;subst hi;exact hy
   |succ i=>exact tM l ys i o hys (by simpa using hi)
  ·cases h
theorem wv{ops:Array Oper}{o:Oper}{x:cg}(h:Gh n ops o=some x):x.op=o.op/\x.dst=o.dst/\gA n o.dst/\
 (match o.guard with|none=>x.gd=none|some (j,want)=>∃d,rn ops j=some d/\x.gd=some (d,want)):=by
 unfold Gh at h
 split at h
 ·rename_i hd
  have cK:gA n o.dst:=by
   unfold BO at hd;unfold gA
   split at hd<;>simp_all
  cases hg:o.guard with
  |none=>simp only[hg]at h;injection h with h;subst h;exact⟨rfl,rfl,cK,rfl⟩
  |some p=>
   obtain⟨j,want⟩:=p
   simp only[hg]at h
   cases LS:rn ops j with
   |none=>simp[LS]at h
   |some d=>simp only[LS]at h;injection h with h;subst h;exact⟨rfl,rfl,cK,d,LS,rfl⟩
 ·cases h
theorem oL{ops:Array Oper}{au:Array Bool}(sD:∀k,k<ops.size->∀j∈bB ops k,j<k)(hs:au.size=ops.size)(hr:Region.ready .any ops au=[]):∀k,k<ops.size->au.getD k false=true:=by
 intro k
 induction k using Nat.strongRecOn with
 |_ k ih=>
  intro hk
  cases hl:au.getD k false with
  |true=>rfl
  |false=>
   have:k∈Region.ready .any ops au:=by
    refine mem_ready.2 ⟨?_,ops[k],by simp[hk],fun e he hb=> ?_⟩
    ·simp only[Array.getD_eq_getD_getElem?]at hl|-
     rw[Array.getElem?_eq_getElem (by omega)]at hl|-
     simpa using hl
    ·have hm:e.on∈bB ops k:=by
      simp only[bB,Array.getElem?_eq_getElem hk,List.mem_map,List.mem_filter]
      exact⟨e,⟨Array.mem_toList_iff.2 he,hb⟩,rfl⟩
     exact ih _ (sD k hk _ hm) (by have:=sD k hk _ hm;omega)
   rw[hr]at this;cases this
theorem z8(hs:cf M cA H0 w0 n cx φ s a w):cf M cA H0 w0 n cx φ s a {w with drawn:=w.drawn+1}:=by
 obtain⟨k1,k2⟩:=fh (w':={w with drawn:=w.drawn+1}) hs.heap ⟨rfl,rfl,rfl,Nat.le_refl _,fun _ _ _=>rfl⟩
 exact⟨k1,hs.tr.trans k2,hs.size,hs.defers.mono k2,fun i=>V.aF k2 _ _ (hs.env i)⟩
theorem jI{oc:Nat->cg}{ac:Nat->fj}{E:Nat->Bool}:∀k,(eJ oc ac E s k).nx=s.nx
 |0=>rfl
 |k+1=>by
  simp only[eJ]
  split
  ·cases ac k<;>exact jI k
  ·exact jI k
theorem DA{oc:Nat->cg}{ac:Nat->fj}{E:Nat->Bool}{t:Nat}:∀k,(∀j,j<k->(oc j).dst≠some t)->(eJ oc ac E s k).env t=s.env t
 |0,_=>rfl
 |k+1,h=>by
  have ih:=DA (oc:=oc) (ac:=ac) (E:=E) (t:=t) k fun j hj=>h j (by omega)
  simp only[eJ]
  split
  ·rw[kJ fun d hd e=>h k (by omega) (by rw[hd,e])];exact ih
  ·exact ih
theorem LV{oc:Nat->cg}{ac:Nat->fj}{E:Nat->Bool}{id:Nat}:∀k,(∀j,j<k->id∉kI (ac j))->(eJ oc ac E s k).o id=s.o id
 |0,_=>rfl
 |k+1,h=>by
  have ih:=LV (oc:=oc) (ac:=ac) (E:=E) (id:=id) k fun j hj=>h j (by omega)
  simp only[eJ]
  split
  ·rw[mW (h k (by omega))];exact ih
  ·exact ih
theorem Aa(bc:P.follows .mixedOrders=true){ops:Array Oper}{l:List cg}{id:Nat}(nS:kU n ops ops.toList=some l)(sD:∀k,k<ops.size->∀j∈bB ops k,j<k){ac:Nat->fj}{dl wl:List Nat}
 (hs:cf M cA H0 w0 n cx φ s a w) (Nz:∀i,i<ops.size->LU P (eJ (bX l) ac (fun _=>true) s i) (s.nx+i) (bX l i) (ac i))
 (Fg:∀i,i<ops.size->ac i= .dN->∃j∈bB ops i,(ac j).ok=false)
 {po:Nat->Nat->Prop} (DB:∀E:Nat->Bool,(∀k,k<ops.size->E k=true->∀j∈bB ops k,E j=true)->∀k,k<ops.size->(∀j∈bB ops k,E j=true)->∀j,po k j->E j=true) (Ab:∀k,k<ops.size->∀j,po k j->j<k)
 (hc:∀i j,i<j->j<ops.size-> ¬po j i->Compat (bX l) ac (fun i=>vw (ac i)) i j)
 (Nl:∀i,i<ops.size->∀t,(bX l i).dst=some t->dl.contains t=true) (WL:∀i,i<ops.size->∀id∈kI (ac i),wl.contains id=true)
 (JE:∀i v ws rd,i<ops.size->ac i= .bG v ws rd->∀id∈ws,wl.contains id=true)
 (hQ:(∀i,i<ops.size->(ac i).ok=true)->∀φ a w,cf M cA H0 w0 n cx φ ⟨(eJ (bX l) ac (fun _=>true) s ops.size).env,(eJ (bX l) ac (fun _=>true) s ops.size).o,s.nx+ops.size⟩ a w->Q .normal a w)
 (hX:∀i v ws rd,i<ops.size->ac i= .bG v ws rd->∀φ a w val,cf M cA H0 w0 n cx φ (qJ dl wl ops.size s) a w->V.den (ao M φ (qJ dl wl ops.size s).H) φ (qJ dl wl ops.size s).H w v val->Q (.panic [{v:=val,recovered:=false}]) a w):
 (Code.region id ops true).wpIn (dP ro) k P Q a w:=by
 refine wpIn_region_any bc ?_
 have hs:=z8 hs
 generalize ({w with drawn:=w.drawn+1}:World)=w at hs
 let N:=ops.size
 let Ef (au:Array Bool) (k:Nat):Bool:=au.getD k false
 let Cs (au:Array Bool) (j:Nat):Prop:=j<s.nx\/∃k,k<N/\Ef au k=true/\j=s.nx+k
 have key:∀ (fuel:Nat) (au:Array Bool) (φ:Place) (a:Act) (w:World),au.size=N->au.count true+fuel=N->(∀k,k<N->Ef au k=true->∀j∈bB ops k,Ef au j=true)->(∀k,k<N->Ef au k=true->(ac k).ok=true)->
  sj M cA H0 w0 n cx φ (eJ (bX l) ac (Ef au) s N) (Cs au) a w->wpAnyIn (dP ro) k P .any ops Q fuel au a w:=by
  have fin:∀ (au:Array Bool) (φ:Place) (a:Act) (w:World),(∀k,k<N->Ef au k=true)->(∀k,k<N->Ef au k=true->(ac k).ok=true)->sj M cA H0 w0 n cx φ (eJ (bX l) ac (Ef au) s N) (Cs au) a w->Q .normal a w:=by
   intro au φ a w aM Ct hu
   have e:∀k,k<=N->eJ (bX l) ac (Ef au) s k=eJ (bX l) ac (fun _=>true) s k:=by
    intro k
    induction k with
    |zero=>intro _;rfl
    |succ k ih=>intro hk;simp only[eJ,aM k (by omega),ih (by omega)]
   rw[e N (Nat.le_refl _)]at hu
   obtain⟨k1,k2⟩:=jf (us':=fun id=>id<s.nx+N) hu.heap (fun id h=>by
    show id<s.nx+N
    rcases h with h|⟨k,hk,_,rfl⟩<;>omega)
   exact hQ (fun i hi=>Ct i hi (aM i hi)) φ a w ⟨k1,hu.tr.trans k2,hu.size,hu.defers.mono k2,fun i=>V.aF k2 _ _ (hu.env i)⟩
  intro fuel
  induction fuel with
  |zero=>
   intro au φ a w eg Fh mE Ct hu
   have aM:∀k,k<N->Ef au k=true:=by
    intro k hk
    have h1:au.count true=au.size:=by omega
    rw[Array.count_eq_size]at h1
    have:=h1 au[k] (Array.getElem_mem (by omega))
    simp only[Ef,Array.getD_eq_getD_getElem?]
    rw[Array.getElem?_eq_getElem (by omega)]
    simpa using this.symm
   refine⟨?_,fin au φ a w aM Ct hu⟩
   rw[List.eq_nil_iff_forall_not_mem]
   intro k hk
   obtain⟨h1,o,h2,_⟩:=mem_ready.1 hk
   have hkN:k<N:=(Array.getElem?_eq_some_iff.1 h2).1
   have:=aM k hkN
   simp only[Ef,Array.getD_eq_getD_getElem?]at this h1
   rw[Array.getElem?_eq_getElem (by omega)]at this h1
   simp only[Option.getD_some]at this h1
   rw[this]at h1;cases h1
  |succ fuel ih=>
   intro au φ a w eg Fh mE Ct hu
   refine⟨fun hr=>fin au φ a w (oL sD eg hr) Ct hu,fun i hi=> ?_⟩
   obtain⟨h1,o,h2,h3⟩:=mem_ready.1 hi
   have sn:i<N:=(Array.getElem?_eq_some_iff.1 h2).1
   have jZ:Ef au i=false:=by
    simp only[Ef,Array.getD_eq_getD_getElem?]at h1|-
    rw[Array.getElem?_eq_getElem (by omega)]at h1|-
    simpa using h1
   have Cq:∀j∈bB ops i,Ef au j=true:=by
    intro j hj
    simp only[bB,h2,List.mem_map,List.mem_filter]at hj
    obtain⟨e,⟨he,hb⟩,rfl⟩:=hj
    exact h3 e (Array.mem_toList_iff.1 he) hb
   have G6:xU N po (Ef au):=fun k hk gG=>DB _ mE k hk (mE k hk gG)
   obtain⟨Ru,Vx⟩:=agree (s:=s) Ab hc G6 sn jZ (DB _ mE i sn Cq)
   obtain⟨g1,g2,g3,g4⟩:=wv (tM _ _ i o nS (by simpa using h2))
   have cS: ¬Cs au (s.nx+i):=by
    rintro(h|⟨k,_,hk,he⟩)
    ·omega
    ·have:k=i:=by omega
     subst this;rw[jZ]at hk;cases hk
   have Cr:∀k,Ef (au.setIfInBounds i true) k=(Ef au k||k==i):=by
    intro k
    simp only[Ef,Array.getD_eq_getD_getElem?]
    by_cases e:k=i
    ·subst e;simp[eg,sn]
    ·rw[Array.getElem?_setIfInBounds_ne (Ne.symm e)]
     have:(k==i)=false:=by simpa using e
     simp[this]
   have NA:=insert (s:=s) hc G6 sn jZ Cr
   have NB:∀k,k<N->Ef (au.setIfInBounds i true) k=true->∀j∈bB ops k,Ef (au.setIfInBounds i true) j=true:=by
    intro k hk gG j hj
    rw[Cr]at gG|-
    by_cases e:k=i
    ·subst e;simp[Cq j hj]
    ·have:(k==i)=false:=by simpa using e
     rw[this,Bool.or_false]at gG
     simp[mE k hk gG j hj]
   have G7:(au.setIfInBounds i true).count true+fuel=N:=by
    have bC:i<au.size:=by omega
    have e1:au.setIfInBounds i true=au.set i true bC:=by simp[Array.setIfInBounds,bC]
    have e2:au[i]=false:=by
     have:=jZ
     simp only[Ef,Array.getD_eq_getD_getElem?]at this
     rw[Array.getElem?_eq_getElem bC]at this
     simpa using this
    rw[e1,Array.count_set bC,e2]
    simp
    omega
   have mo:(ac i).ok=true->∀aC a' w',sj M cA H0 w0 n cx aC (vf o.dst (ac i) (eJ (bX l) ac (Ef au) s N)) (fun id=>Cs au id\/id=s.nx+i) a' w'->wpAnyIn (dP ro) k P .any ops Q fuel (au.setIfInBounds i true) a' w':=by
    intro Rv aC a' w' xn
    refine ih _ aC a' w' (by simp[eg]) G7 NB (fun k hk gG=> ?_) ?_
    ·rw[Cr]at gG
     by_cases e:k=i
     ·subst e;exact Rv
     ·have:(k==i)=false:=by simpa using e
      rw[this,Bool.or_false]at gG
      exact Ct k hk gG
    rw[NA,g2]
    obtain⟨k1,k2⟩:=jf (us':=Cs (au.setIfInBounds i true)) xn.heap (fun id h=>by
     rcases h with(h|⟨k,hk,gG,rfl⟩)|rfl
     ·exact .inl h
     ·exact .inr ⟨k,hk,by rw[Cr,gG];rfl,rfl⟩
     ·exact .inr ⟨i,sn,by rw[Cr];simp,rfl⟩)
    exact⟨k1,xn.tr.trans k2,xn.size,xn.defers.mono k2,fun j=>V.aF k2 _ _ (xn.env j)⟩
   have Fi:∀d want,(bX l i).gd=some (d,want)->(eJ (bX l) ac (Ef au) s N).env d=(eJ (bX l) ac (fun _=>true) s i).env d:=fun d want hd=>Ru d (by simp[eY,tmpsOf,hd])
   have bA:=Nz i sn
   have Fj:∀x∈(bX l i).op.operands,(eJ (bX l) ac (Ef au) s N).ev x=(eJ (bX l) ac (fun _=>true) s i).ev x:=fun x hx=>zZ fun t ht=>Ru t (by
    subst ht
    simp only[eY,tmpsOf,List.mem_append,List.mem_filterMap]
    exact .inl (.inl ⟨.tmp t,Array.mem_toList_iff.2 hx,rfl⟩))
   have JF:(eJ (bX l) ac (Ef au) s N).nx=(eJ (bX l) ac (fun _=>true) s i).nx:=(jI N).trans (jI i).symm
   unfold wpOpIn
   simp only[h2]
   cases sr:ac i with
   |skip=>
    rw[sr]at bA mo
    have hw:=fE hu.env g4 (fF Fi bA)
    simp only[hw,Bool.false_eq_true,if_false]
    refine⟨fun _ _=>trivial,mo rfl φ _ w ?_⟩
    have:=iI (v:= .bS []) (val:=undef) hu hu.heap (Trans.refl _ _ _) ⟨#[],rfl,rfl⟩ (dst:=o.dst) g3 rfl (us':=fun id=>Cs au id\/id=s.nx+i) (fun id h=> .inl h)
    exact this
   |val v Δ rd=>
    rw[sr]at bA mo
    have hw:=fE hu.env g4 (fF Fi bA.1)
    simp only[hw,if_true]
    obtain⟨wm,rY⟩:=rJ Fj (fun id ax=>Vx id (by rw[sr];exact ax)) JF bA.2
    exact zY hu cS (fun id h=> .inl (by rw[jI]at h;exact h)) g1.symm g3 rY (mo rfl)
   |bG v ws rd=>
    rw[sr]at bA
    have hw:=fE hu.env g4 (fF Fi bA.1)
    simp only[hw,if_true]
    have rY:=z7 Fj (fun id ax=>Vx id (by rw[sr];exact ax)) JF bA.2
    refine G5 (s0:=s) (ds:=dl) (wl:=wl) (N:=N) hu (fun id h=> .inl (by rw[jI]at h;exact h)) (fun id h=> ?_) g1.symm rY (fun t ht=> ?_) (fun id ax=> ?_) (JE i v ws rd sn sr) (jI N).symm (fun aC w' val h1 h2=>hX i v ws rd sn sr aC a w' val h1 h2)
    ·rw[jI]
     rcases h with h|⟨k,hk,_,rfl⟩<;>omega
    ·refine DA N fun j hj e=> ?_
     have:=Nl j hj t e
     rw[ht]at this;cases this
    ·refine LV N fun j hj hm=> ?_
     have:=WL j hj id hm
     rw[ax]at this;cases this
   |dN=>
    exfalso
    obtain⟨j,hj,NC⟩:=Fg i sn sr
    have:=Ct j (Nat.lt_trans (sD i sn j hj) sn) (Cq j hj)
    rw[NC]at this;cases this
 refine key ops.size _ φ a w (by simp[N]) (by simp[N,Array.count_replicate]) (fun k hk gG=> ?_) (fun k hk gG=> ?_) ?_
 ·simp[Ef,Array.getD_eq_getD_getElem?,Array.getElem?_replicate]at gG
  split at gG<;>simp at gG
 ·simp[Ef,Array.getD_eq_getD_getElem?,Array.getElem?_replicate]at gG
  split at gG<;>simp at gG
 ·have e:∀k,eJ (bX l) ac (Ef (Array.replicate ops.size false)) s k=s:=by
   intro k
   induction k with
   |zero=>rfl
   |succ k ih=>
    have:Ef (Array.replicate ops.size false) k=false:=by
     simp only[Ef,Array.getD_eq_getD_getElem?,Array.getElem?_replicate]
     split<;>rfl
    simp only[eJ,this,ih]
    rfl
  rw[e]
  obtain⟨k1,k2⟩:=jf (us':=Cs (Array.replicate ops.size false)) hs.heap (fun id h=> .inl h)
  exact⟨k1,hs.tr.trans k2,hs.size,hs.defers.mono k2,fun j=>V.aF k2 _ _ (hs.env j)⟩
end
end Go.Proofs.YtealblliddhgiaaGreat
namespace Go.Proofs.YtealblliddhgiaaGreat
section
variable {P:Program}{M:Nat->Prop}{φ cA:Place}{H0:Hp}{w w' w0:World}{n:Nat}{s:S}{us:Nat->Prop}{a:Act}{cx:Cx}{ro:Option Nat}{k:Nat}
variable {Q:Exit->Act->World->Prop}
theorem Fk{ops:Array Oper}{po:Nat->Nat->Prop}{m:Nat}{X:V->S->Prop}{K:S->Prop}
 (sD:∀k,k<ops.size->∀j∈bB ops k,j<k)
 (DB:∀E:Nat->Bool,(∀k,k<ops.size->E k=true->∀j∈bB ops k,E j=true)->∀k,k<ops.size->(∀j∈bB ops k,E j=true)->∀j,po k j->E j=true)
 (DC:∀k,m<=k->k<ops.size->∀j,j<k->po k j)
 (hK:∀s φ a w,K s->cf M cA H0 w0 n cx φ s a w->Q .normal a w)
 (hX:∀v s' aC a' w' val,X v s'->cf M cA H0 w0 n cx aC s' a' w'->V.den (ao M aC s'.H) aC s'.H w' v val->Q (.panic [{v:=val,recovered:=false}]) a' w'):
 ∀ (d t:Nat) (s:S) (φ:Place) (au:Array Bool) (a:Act) (w:World),t+d=ops.size->au.size=ops.size->(∀k,k<ops.size->au.getD k false=decide (k<t))->m<=t->
   cf M cA H0 w0 n cx φ s a w->xA P n ops X K (ops.toList.drop t) s->wpAnyIn (dP ro) k P .any ops Q d au a w:=by
 intro d
 induction d with
 |zero=>
  intro t s φ au a w ht eg hl Dn hs h
  have e:t=ops.size:=by omega
  subst e
  refine⟨?_, ?_⟩
  ·rw[List.eq_nil_iff_forall_not_mem]
   intro j hj
   obtain⟨h1,o,h2,_⟩:=mem_ready.1 hj
   have ZM:j<ops.size:=(Array.getElem?_eq_some_iff.1 h2).1
   have:=hl j ZM
   simp only[Array.getD_eq_getD_getElem?]at this h1
   rw[Array.getElem?_eq_getElem (by omega)]at this h1
   simp only[Option.getD_some]at this h1
   rw[h1]at this
   simp[ZM]at this
  ·rw[List.drop_eq_nil_of_le (by simp)]at h
   exact hK s φ a w h hs
 |succ d ih=>
  intro t s φ au a w ht eg hl Dn hs h
  have WN:t<ops.size:=by omega
  refine⟨fun hr=> ?_,fun i hi=> ?_⟩
  ·have:=oL sD eg hr t WN
   rw[hl t WN]at this
   simp at this
  ·obtain⟨h1,o,h2,h3⟩:=mem_ready.1 hi
   have sn:i<ops.size:=(Array.getElem?_eq_some_iff.1 h2).1
   have jZ:au.getD i false=false:=by
    simp only[Array.getD_eq_getD_getElem?]at h1|-
    rw[Array.getElem?_eq_getElem (by omega)]at h1|-
    simpa using h1
   have Rw:t<=i:=by
    have:=hl i sn
    rw[jZ]at this
    have:=of_decide_eq_false this.symm
    omega
   have Cq:∀j∈bB ops i,au.getD j false=true:=by
    intro j hj
    simp only[bB,h2,List.mem_map,List.mem_filter]at hj
    obtain⟨e,⟨he,hb⟩,rfl⟩:=hj
    exact h3 e (Array.mem_toList_iff.1 he) hb
   have mE:∀k,k<ops.size->au.getD k false=true->∀j∈bB ops k,au.getD j false=true:=by
    intro k hk gG j hj
    have QZ:=sD k hk j hj
    rw[hl k hk]at gG
    rw[hl j (by omega)]
    have:=of_decide_eq_true gG
    exact decide_eq_true (by omega)
   have Wl:i=t:=by
    rcases Nat.eq_or_lt_of_le Rw with e|e
    ·exact e.symm
    ·have:=DB (fun k=>au.getD k false) mE i sn Cq t (DC i (by omega) sn t e)
     rw[hl t WN]at this
     simp at this
   subst Wl
   have Ac:ops.toList.drop i=o::ops.toList.drop (i+1):=by
    have Nq:i<ops.toList.length:=by simpa using sn
    rw[List.drop_eq_getElem_cons Nq]
    have:ops.toList[i]=o:=by
     have:=(Array.getElem?_eq_some_iff.1 h2).2
     simpa using this
    rw[this]
   rw[Ac]at h
   obtain⟨g1,g2⟩:=pK hs h
   have Jg:∀k,k<ops.size->(au.setIfInBounds i true).getD k false=decide (k<i+1):=by
    intro k hk
    simp only[Array.getD_eq_getD_getElem?]
    by_cases e:k=i
    ·subst e;simp[eg,sn]
    ·rw[Array.getElem?_setIfInBounds_ne (Ne.symm e)]
     have:=hl k hk
     simp only[Array.getD_eq_getD_getElem?]at this
     rw[this]
     exact decide_eq_decide.2 (by omega)
   have mo:∀s' aC a' w',xA P n ops X K (ops.toList.drop (i+1)) s'->cf M cA H0 w0 n cx aC s' a' w'->wpAnyIn (dP ro) k P .any ops Q d (au.setIfInBounds i true) a' w':=
    fun s' aC a' w' hk iW=>ih (i+1) s' aC _ a' w' (by omega) (by simp[eg]) Jg (by omega) iW hk
   unfold wpOpIn
   simp only[h2]
   split
   ·rename_i hw
    exact wc hs (g1 hw) (fun s' aC a' w' hk iW=>mo s' aC a' w' hk iW) (fun v s' aC w' val hx iW hd=>hX v s' aC a w' val hx iW hd)
   ·rename_i hw
    obtain⟨cK,h3⟩:=g2 (by simpa using hw)
    exact⟨fun _ _=>trivial,mo _ _ _ _ h3 (zK hs cK)⟩
theorem Cu(bc:P.follows .mixedOrders=true){ops:Array Oper}{l:List cg}{id:Nat}(nS:kU n ops ops.toList=some l)(sD:∀k,k<ops.size->∀j∈bB ops k,j<k){ac:Nat->fj}{m:Nat}(hm:m<=ops.size){X:V->S->Prop}{K:S->Prop}
 (hs:cf M cA H0 w0 n cx φ s a w) (Nz:∀i,i<m->LU P (eJ (bX l) ac (fun _=>true) s i) (s.nx+i) (bX l i) (ac i))
 (Rx:∀i,i<m->(ac i).ok=true)
 {po:Nat->Nat->Prop} (DB:∀E:Nat->Bool,(∀k,k<ops.size->E k=true->∀j∈bB ops k,E j=true)->∀k,k<ops.size->(∀j∈bB ops k,E j=true)->∀j,po k j->E j=true) (Ab:∀k,k<ops.size->∀j,po k j->j<k)
 (hc:∀i j,i<j->j<m-> ¬po j i->Compat (bX l) ac (fun i=>vw (ac i)) i j)
 (DC:∀k,m<=k->k<ops.size->∀j,j<k->po k j)
 (fD:xA P n ops X K (ops.toList.drop m) ⟨(eJ (bX l) ac (fun _=>true) s m).env,(eJ (bX l) ac (fun _=>true) s m).o,s.nx+m⟩)
 (hK:∀s φ a w,K s->cf M cA H0 w0 n cx φ s a w->Q .normal a w)
 (hX:∀v s' aC a' w' val,X v s'->cf M cA H0 w0 n cx aC s' a' w'->V.den (ao M aC s'.H) aC s'.H w' v val->Q (.panic [{v:=val,recovered:=false}]) a' w'):
 (Code.region id ops true).wpIn (dP ro) k P Q a w:=by
 refine wpIn_region_any bc ?_
 have hs:=z8 hs
 generalize ({w with drawn:=w.drawn+1}:World)=w at hs
 let N:=m
 let Ef (au:Array Bool) (k:Nat):Bool:=au.getD k false
 let Cs (au:Array Bool) (j:Nat):Prop:=j<s.nx\/∃k,k<N/\Ef au k=true/\j=s.nx+k
 have key:∀ (fuel:Nat) (au:Array Bool) (φ:Place) (a:Act) (w:World),au.size=ops.size->au.count true+fuel=ops.size->(∀k,k<ops.size->Ef au k=true->∀j∈bB ops k,Ef au j=true)->(∀k,k<ops.size->Ef au k=true->k<m)->
  sj M cA H0 w0 n cx φ (eJ (bX l) ac (Ef au) s N) (Cs au) a w->wpAnyIn (dP ro) k P .any ops Q fuel au a w:=by
  have fin:∀ (fuel:Nat) (au:Array Bool) (φ:Place) (a:Act) (w:World),au.size=ops.size->au.count true+fuel=ops.size->(∀k,k<ops.size->Ef au k=true->k<m)->(∀k,k<N->Ef au k=true)->sj M cA H0 w0 n cx φ (eJ (bX l) ac (Ef au) s N) (Cs au) a w->wpAnyIn (dP ro) k P .any ops Q fuel au a w:=by
   intro fuel au φ a w eg Fh bC aM hu
   have e:∀k,k<=N->eJ (bX l) ac (Ef au) s k=eJ (bX l) ac (fun _=>true) s k:=by
    intro k
    induction k with
    |zero=>intro _;rfl
    |succ k ih=>intro hk;simp only[eJ,aM k (by omega),ih (by omega)]
   rw[e N (Nat.le_refl _)]at hu
   obtain⟨k1,k2⟩:=jf (us':=fun id=>id<s.nx+N) hu.heap (fun id h=>by
    show id<s.nx+N
    rcases h with h|⟨k,hk,_,rfl⟩<;>omega)
   have DD:∀k,k<ops.size->au.getD k false=decide (k<m):=by
    intro k hk
    by_cases h:k<m
    ·rw[decide_eq_true h];exact aM k h
    ·rw[decide_eq_false h]
     cases hb:au.getD k false with
     |false=>rfl
     |true=>exact absurd (bC k hk hb) h
   have Vy:au.count true=m:=by
    have e1:au=Array.ofFn (n:=ops.size) fun k=>decide (k.1<m):=by
     apply Array.ext
     ·simp[eg]
     ·intro k h1 h2
      have:=DD k (by omega)
      simp only[Array.getD_eq_getD_getElem?]at this
      rw[Array.getElem?_eq_getElem h1]at this
      simpa using this
    have e2:au.toList=List.replicate m true++List.replicate (ops.size - m) false:=by
     apply List.ext_getElem?
     intro k
     by_cases hk:k<ops.size
     ·have h1:au.toList[k]? =some (decide (k<m)):=by
       have:=DD k hk
       simp only[Array.getD_eq_getD_getElem?]at this
       rw[Array.getElem?_eq_getElem (by omega)]at this
       simp only[Option.getD_some]at this
       rw[Array.getElem?_toList,Array.getElem?_eq_getElem (by omega),this]
      rw[h1]
      by_cases h:k<m
      ·rw[List.getElem?_append_left (by simpa using h)]
       simp[h]
      ·rw[List.getElem?_append_right (by simpa using(by omega:m<=k))]
       rw[List.length_replicate,List.getElem?_replicate,if_pos (by omega),decide_eq_false h]
     ·rw[List.getElem?_eq_none (by simp[eg];omega),List.getElem?_eq_none (by simp;omega)]
    rw[<- Array.count_toList,e2,List.count_append,List.count_replicate_self,List.count_replicate]
    simp
   exact Fk sD DB DC hK hX fuel m ⟨(eJ (bX l) ac (fun _=>true) s m).env,(eJ (bX l) ac (fun _=>true) s m).o,s.nx+m⟩ φ au a w (by omega) eg DD (Nat.le_refl _) ⟨k1,hu.tr.trans k2,hu.size,hu.defers.mono k2,fun i=>V.aF k2 _ _ (hu.env i)⟩ fD
  intro fuel
  induction fuel with
  |zero=>
   intro au φ a w eg Fh mE bC hu
   have aM:∀k,k<ops.size->Ef au k=true:=by
    intro k hk
    have h1:au.count true=au.size:=by omega
    rw[Array.count_eq_size]at h1
    have:=h1 au[k] (Array.getElem_mem (by omega))
    simp only[Ef,Array.getD_eq_getD_getElem?]
    rw[Array.getElem?_eq_getElem (by omega)]
    simpa using this.symm
   exact fin 0 au φ a w eg Fh bC (fun k hk=>aM k (by omega)) hu
  |succ fuel ih=>
   intro au φ a w eg Fh mE bC hu
   by_cases LW:∀k,k<m->Ef au k=true
   ·exact fin (fuel+1) au φ a w eg Fh bC LW hu
   have hex:∃j,j<m/\Ef au j=false:=by
    apply Classical.byContradiction
    intro vj
    refine LW fun k hk=> ?_
    cases hb:Ef au k with
    |true=>rfl
    |false=>exact absurd ⟨k,hk,hb⟩ vj
   obtain⟨j0,hj0,Ry⟩:=hex
   refine⟨fun hr=> ?_,fun i hi=> ?_⟩
   ·have:=oL sD eg hr j0 (by omega)
    rw[show au.getD j0 false=false from Ry]at this
    cases this
   obtain⟨h1,o,h2,h3⟩:=mem_ready.1 hi
   have WO:i<ops.size:=(Array.getElem?_eq_some_iff.1 h2).1
   have jZ:Ef au i=false:=by
    simp only[Ef,Array.getD_eq_getD_getElem?]at h1|-
    rw[Array.getElem?_eq_getElem (by omega)]at h1|-
    simpa using h1
   have Cq:∀j∈bB ops i,Ef au j=true:=by
    intro j hj
    simp only[bB,h2,List.mem_map,List.mem_filter]at hj
    obtain⟨e,⟨he,hb⟩,rfl⟩:=hj
    exact h3 e (Array.mem_toList_iff.1 he) hb
   have sn:i<N:=by
    apply Classical.byContradiction
    intro BX
    have BX:m<=i:=Nat.le_of_not_lt BX
    have:=DB _ mE i WO Cq j0 (DC i BX WO j0 (by omega))
    rw[Ry]at this;cases this
   have G6:xU N po (Ef au):=fun k hk gG=>DB _ mE k (by omega) (mE k (by omega) gG)
   obtain⟨Ru,Vx⟩:=agree (s:=s) (n:=N) (fun k hk=>Ab k (by omega)) hc G6 sn jZ (DB _ mE i (by omega) Cq)
   obtain⟨g1,g2,g3,g4⟩:=wv (tM _ _ i o nS (by simpa using h2))
   have cS: ¬Cs au (s.nx+i):=by
    rintro(h|⟨k,_,hk,he⟩)
    ·omega
    ·have:k=i:=by omega
     subst this;rw[jZ]at hk;cases hk
   have Cr:∀k,Ef (au.setIfInBounds i true) k=(Ef au k||k==i):=by
    intro k
    simp only[Ef,Array.getD_eq_getD_getElem?]
    by_cases e:k=i
    ·subst e;simp[eg,WO]
    ·rw[Array.getElem?_setIfInBounds_ne (Ne.symm e)]
     have:(k==i)=false:=by simpa using e
     simp[this]
   have NA:=insert (s:=s) hc G6 sn jZ Cr
   have NB:∀k,k<ops.size->Ef (au.setIfInBounds i true) k=true->∀j∈bB ops k,Ef (au.setIfInBounds i true) j=true:=by
    intro k hk gG j hj
    rw[Cr]at gG|-
    by_cases e:k=i
    ·subst e;simp[Cq j hj]
    ·have:(k==i)=false:=by simpa using e
     rw[this,Bool.or_false]at gG
     simp[mE k hk gG j hj]
   have G7:(au.setIfInBounds i true).count true+fuel=ops.size:=by
    have bC:i<au.size:=by omega
    have e1:au.setIfInBounds i true=au.set i true bC:=by simp[Array.setIfInBounds,bC]
    have e2:au[i]=false:=by
     have:=jZ
     simp only[Ef,Array.getD_eq_getD_getElem?]at this
     rw[Array.getElem?_eq_getElem bC]at this
     simpa using this
    rw[e1,Array.count_set bC,e2]
    simp
    omega
   have mo:(ac i).ok=true->∀aC a' w',sj M cA H0 w0 n cx aC (vf o.dst (ac i) (eJ (bX l) ac (Ef au) s N)) (fun id=>Cs au id\/id=s.nx+i) a' w'->wpAnyIn (dP ro) k P .any ops Q fuel (au.setIfInBounds i true) a' w':=by
    intro Rv aC a' w' xn
    refine ih _ aC a' w' (by simp[eg]) G7 NB (fun k hk gG=> ?_) ?_
    ·rw[Cr]at gG
     by_cases e:k=i
     ·subst e;exact sn
     ·have:(k==i)=false:=by simpa using e
      rw[this,Bool.or_false]at gG
      exact bC k hk gG
    rw[NA,g2]
    obtain⟨k1,k2⟩:=jf (us':=Cs (au.setIfInBounds i true)) xn.heap (fun id h=>by
     rcases h with(h|⟨k,hk,gG,rfl⟩)|rfl
     ·exact .inl h
     ·exact .inr ⟨k,hk,by rw[Cr,gG];rfl,rfl⟩
     ·exact .inr ⟨i,sn,by rw[Cr];simp,rfl⟩)
    exact⟨k1,xn.tr.trans k2,xn.size,xn.defers.mono k2,fun j=>V.aF k2 _ _ (xn.env j)⟩
   have Fi:∀d want,(bX l i).gd=some (d,want)->(eJ (bX l) ac (Ef au) s N).env d=(eJ (bX l) ac (fun _=>true) s i).env d:=fun d want hd=>Ru d (by simp[eY,tmpsOf,hd])
   have bA:=Nz i sn
   have Fj:∀x∈(bX l i).op.operands,(eJ (bX l) ac (Ef au) s N).ev x=(eJ (bX l) ac (fun _=>true) s i).ev x:=fun x hx=>zZ fun t ht=>Ru t (by
    subst ht
    simp only[eY,tmpsOf,List.mem_append,List.mem_filterMap]
    exact .inl (.inl ⟨.tmp t,Array.mem_toList_iff.2 hx,rfl⟩))
   have JF:(eJ (bX l) ac (Ef au) s N).nx=(eJ (bX l) ac (fun _=>true) s i).nx:=(jI N).trans (jI i).symm
   unfold wpOpIn
   simp only[h2]
   cases sr:ac i with
   |skip=>
    rw[sr]at bA mo
    have hw:=fE hu.env g4 (fF Fi bA)
    simp only[hw,Bool.false_eq_true,if_false]
    refine⟨fun _ _=>trivial,mo rfl φ _ w ?_⟩
    have:=iI (v:= .bS []) (val:=undef) hu hu.heap (Trans.refl _ _ _) ⟨#[],rfl,rfl⟩ (dst:=o.dst) g3 rfl (us':=fun id=>Cs au id\/id=s.nx+i) (fun id h=> .inl h)
    exact this
   |val v Δ rd=>
    rw[sr]at bA mo
    have hw:=fE hu.env g4 (fF Fi bA.1)
    simp only[hw,if_true]
    obtain⟨wm,rY⟩:=rJ Fj (fun id ax=>Vx id (by rw[sr];exact ax)) JF bA.2
    exact zY hu cS (fun id h=> .inl (by rw[jI]at h;exact h)) g1.symm g3 rY (mo rfl)
   |bG v ws rd=>
    have:=Rx i sn
    rw[sr]at this;cases this
   |dN=>
    have:=Rx i sn
    rw[sr]at this;cases this
 refine key ops.size _ φ a w (by simp) (by simp[Array.count_replicate]) (fun k hk gG=> ?_) (fun k hk gG=> ?_) ?_
 ·simp[Ef,Array.getD_eq_getD_getElem?,Array.getElem?_replicate]at gG
  split at gG<;>simp at gG
 ·simp[Ef,Array.getD_eq_getD_getElem?,Array.getElem?_replicate]at gG
  split at gG<;>simp at gG
 ·have e:∀k,eJ (bX l) ac (Ef (Array.replicate ops.size false)) s k=s:=by
   intro k
   induction k with
   |zero=>rfl
   |succ k ih=>
    have:Ef (Array.replicate ops.size false) k=false:=by
     simp only[Ef,Array.getD_eq_getD_getElem?,Array.getElem?_replicate]
     split<;>rfl
    simp only[eJ,this,ih]
    rfl
  rw[e]
  obtain⟨k1,k2⟩:=jf (us':=Cs (Array.replicate ops.size false)) hs.heap (fun id h=> .inl h)
  exact⟨k1,hs.tr.trans k2,hs.size,hs.defers.mono k2,fun j=>V.aF k2 _ _ (hs.env j)⟩
end
end Go.Proofs.YtealblliddhgiaaGreat
