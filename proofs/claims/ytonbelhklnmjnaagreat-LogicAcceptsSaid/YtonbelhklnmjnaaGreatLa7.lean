/-
  A PART OF THE PROOF. Conditions: none.
-/
import Derived.OrdersIn
import Derived.Test.YtonbelhklnmjnaaGreatLa6
set_option linter.unusedSimpArgs false
set_option linter.unusedVariables false
namespace Go.Proofs.YtonbelhklnmjnaaGreat
def ae.refs:ae->List Nat
 | .row cs=>V.aQ cs
 | .loop _ _ env _ _ _ _ _=>V.aQ env
 |_=>[]
def ET(R:List Nat)(o:Nat->ae):Nat->ae:=fun id=>if R.contains id=true then o id else .no
def Gd(P:Program)(g:FuncId)(args:List V)(rd:List Nat)(o:Nat->ae)(out:R)(Δ:List (Nat×ae)):Prop:=
 Enters P g/\∀ (o':Nat->ae) (us:Nat->Prop) (M:Nat->Prop) (φ:Place) (w:World) (vals:Array Value),(∀id∈rd,o' id=o id/\us id)->aF M φ ⟨o',us⟩ w->V.aP (az M φ ⟨o',us⟩) φ ⟨o',us⟩ w args vals.toList->
  Calls P g vals w fun e w'=>∃aS,aF M aS ⟨put o' Δ,us⟩ w'/\Trans φ ⟨o',us⟩ w aS ⟨put o' Δ,us⟩ w'/\out.is (az M aS ⟨put o' Δ,us⟩) w' e
def yz(P:Program)(g:FuncId)(args:List V)(rd:List Nat)(o:Nat->ae)(fr:Nat)(v:V)(Δ:List (Nat×ae)):Prop:=
 Enters P g/\∀ (o':Nat->ae) (us:Nat->Prop) (M:Nat->Prop) (φ:Place) (w:World) (vals:Array Value),(∀id∈rd,o' id=o id/\us id)-> ¬us fr->aF M φ ⟨o',us⟩ w->V.aP (az M φ ⟨o',us⟩) φ ⟨o',us⟩ w args vals.toList->
  Calls P g vals w fun e w'=>∃aS,aF M aS ⟨put o' Δ,fun id=>us id\/id=fr⟩ w'/\Trans φ ⟨o',us⟩ w aS ⟨put o' Δ,fun id=>us id\/id=fr⟩ w'/\∃val,e= .returned val/\V.den (az M aS ⟨put o' Δ,fun id=>us id\/id=fr⟩) aS ⟨put o' Δ,fun id=>us id\/id=fr⟩ w' v val
mutual
theorem V.nK {B B':Nat->Prop}{φ aS:Place}{H H':Hp}{w:World}(hB:∀b, ¬B b-> ¬B' b):∀ (v:V) (val:Value),(∀id∈v.refs,H'.o id=H.o id/\aS id=φ id/\H'.us id)->V.den B φ H w v val->V.den B' aS H' w v val
 | .d x,val,_,h=>D.aX (w:=w) (w':=w) (fun b _ hn=>⟨rfl,hB b hn⟩) x val h
 | .bT,_,_,h=>h
 | .aa,_,_,_=>trivial
 | .fm,_,_,h=>h
 | .rP es,val,_,h=>⟨D.aX (w:=w) (w':=w) (fun b _ hn=>⟨rfl,hB b hn⟩) (.sl es) val h.1,h.2⟩
 | .agg cs,val,hr,h=>by
   obtain⟨a,rfl,h1,h2⟩:=h
   exact⟨a,rfl,V.ik hB cs _ Hz h1,h2⟩
 | .cA cs,val,hr,h=>by
   obtain⟨a,rfl,h1⟩:=h
   exact⟨a,rfl,V.ik hB cs _ Hz h1⟩
 | .ptr id off,val,hr,h=>by
   obtain⟨a,b,c⟩:=hr id tW
   obtain⟨h0,h1,h2⟩:=h
   refine⟨h0,c,fun ck=> ?_⟩
   rw[a]at ck
   obtain⟨x,y,z⟩:=h2 ck
   exact⟨x,b.trans y,z⟩
 | .osl id ep,val,hr,h=>by
   obtain⟨a,b,c⟩:=hr id tW
   obtain⟨h0,h1,h2⟩:=h
   refine⟨h0,c,fun e he=> ?_⟩
   rw[a]at he
   obtain⟨x,y⟩:=h2 e he
   exact⟨x,fun heq=>(y heq).trans b.symm⟩
 | .pe id ep i sz off,val,hr,h=>by
   obtain⟨a,b,c⟩:=hr id tW
   obtain⟨h0,h1,h2⟩:=h
   refine⟨h0,c,fun e he=> ?_⟩
   rw[a]at he
   obtain⟨x,y⟩:=h2 e he
   refine⟨x,fun heq=> ?_⟩
   obtain⟨p,q,r,z,u⟩:=y heq
   exact⟨p,q,r,b.trans z,u⟩
 | .pp cs off,val,_,h=>by
   obtain⟨a,ev,h1,h2,h3,h5,h4⟩:=h
   exact⟨a,ev,h1,h2,D.bg (w:=w) (w':=w) (fun b _ hn=>⟨rfl,hB b hn⟩) cs ev h3,h5,h4.mono (w:=w) (w':=w) (fun b _ hn=>⟨rfl,hB b hn⟩)⟩
 | .func fn first cap,val,hr,h=>by
   obtain⟨f,c,rfl,h1,h2⟩:=h
   exact⟨f,c,rfl,V.ik hB first _ (fun id aC=>hr id Oe) h1,V.ik hB cap _ (fun id aC=>hr id Oe) h2⟩
 | .iface t x,val,hr,h=>by
   obtain⟨u,rfl,h⟩:=h
   exact⟨u,rfl,V.nK hB x u Hz h⟩
 | .xW id off n,val,hr,h=>by
   obtain⟨a,b,c⟩:=hr id tW
   obtain⟨h0,h1,h2⟩:=h
   refine⟨h0,c,fun ck=> ?_⟩
   rw[a]at ck
   obtain⟨x,y,z⟩:=h2 ck
   exact⟨x,b.trans y,z⟩
 | .mp id,val,hr,h=>by
   obtain⟨a,b,c⟩:=hr id tW
   obtain⟨h0,h1,h2⟩:=h
   refine⟨h0,c,fun ck=> ?_⟩
   rw[a]at ck
   exact(h2 ck).trans b.symm
 | .j6 id,val,hr,h=>by
   obtain⟨a,b,c⟩:=hr id tW
   obtain⟨h0,h1,h2⟩:=h
   refine⟨h0,c,fun ck=> ?_⟩
   rw[a]at ck
   obtain⟨x,y,z⟩:=h2 ck
   exact⟨x,b.trans y,z⟩
theorem V.ik {B B':Nat->Prop}{φ aS:Place}{H H':Hp}{w:World}(hB:∀b, ¬B b-> ¬B' b):∀ (vs:List V) (vals:List Value),(∀id∈V.aQ vs,H'.o id=H.o id/\aS id=φ id/\H'.us id)->V.aP B φ H w vs vals->V.aP B' aS H' w vs vals
 |[],_,_,h=>h
 |v::vs,_,hr,h=>by
  obtain⟨u,us,rfl,h1,h2⟩:=h
  exact⟨u,us,rfl,V.nK hB v u (fun id aC=>hr id Od) h1,V.ik hB vs us (fun id aC=>hr id Od) h2⟩
end
theorem Ih{env:List V}{i id:Nat}(h:id∈(bz env i).refs):id∈V.aQ env:=by
 unfold bz at h
 induction env generalizing i with
 |nil=>simp[V.refs]at h
 |cons v env ih=>
  cases i with
  |zero=>simp only[List.getD_cons_zero]at h;simp[V.aQ,h]
  |succ i=>simp only[List.getD_cons_succ]at h;simp[V.aQ,ih h]
theorem bn.refs {M M':Nat->Prop}{φ aS:Place}{H H':Hp}{w:World}{id:Nat}(hB:∀b, ¬az M φ H b-> ¬az M' aS H' b)(ho:H'.o id=H.o id)(fj:aS id=φ id)
 (hr:∀j∈(H.o id).refs,H'.o j=H.o j/\aS j=φ j/\H'.us j) (h:bn M φ H w id):bn M' aS H' w id:=by
 have hd:∀b,dG w b-> ¬az M φ H b->w.heap[b]? =w.heap[b]? /\ ¬az M' aS H' b:=fun b _ hn=>⟨rfl,hB b hn⟩
 unfold bn at*
 rw[ho]
 cases hx:H.o id with
 |no=>trivial
 |row cs=>
  simp only[hx]at h|-
  obtain⟨b,dX,ty,h1,h2,h3,h4⟩:=h
  exact⟨b,dX,ty,fj.trans h1,h2,V.ik hB cs _ (fun j hj=>hr j (by rw[hx];exact hj)) h3,h4⟩
 |arr ep ty sz es=>
  simp only[hx]at h|-
  obtain⟨h0,xs,h1,evs,h2,h3,h4⟩:=h
  exact⟨h0,xs,by rw[fj];exact h1,evs,h2,h3,D.bg hd es evs h4⟩
 |tc ep es=>
  simp only[hx]at h|-
  rw[fj]
  exact D.aX hd (.sl es) _ h
 |map kt vt l=>
  simp only[hx]at h|-
  obtain⟨b,es,clock,h1,h2,h4,h3⟩:=h
  exact⟨b,es,clock,fj.trans h1,h2,h4,a8.mono hd l _ h3⟩
 |iY l=>
  simp only[hx]at h|-
  rw[fj]
  exact D.aX hd (.mp _ _) _ h
 |nq l last=>
  simp only[hx]at h|-
  obtain⟨b,h1,h2⟩:=h
  exact⟨b,fj.trans h1,h2.mono hd rfl⟩
 |zX s pos=>
  simp only[hx]at h|-
  obtain⟨b,h1,h2⟩:=h
  exact⟨b,fj.trans h1,h2⟩
 |loop nf n env ps iZ eN st HJ=>
  simp only[hx]at h|-
  obtain⟨b,r,h1,h2,h0,h3,h4,h5,h6,h7,h8,h9⟩:=h
  exact⟨b,r,fj.trans h1,h2,h0,h3,h4,h5,h6,h7,h8,fun i=>V.nK hB _ _ (fun j hj=>hr j (by rw[hx];exact Ih hj)) (h9 i)⟩
section
variable {P:Program}
theorem EU{o o':Nat->ae}{Δ:List (Nat×ae)}{id:Nat}(h:o id=o' id):put o Δ id=put o' Δ id:=Ge h
where Ge {o o':Nat->ae}:∀ {Δ:List (Nat×ae)} {id:Nat},o id=o' id->put o Δ id=put o' Δ id
 |[],_,h=>h
 |x::Δ,id,h=>by
  simp only[put,List.foldl_cons]
  refine Ge (Δ:=Δ) (o:=aK o x.1 x.2) (o':=aK o' x.1 x.2) ?_
  simp only[aW]
  split
  ·rfl
  ·exact h
theorem Aw{o:Nat->ae}:∀ {Δ:List (Nat×ae)} {id:Nat},(∀x∈Δ,x.1≠id)->put o Δ id=o id
 |[],_,_=>rfl
 |x::Δ,id,h=>by
  have:=Aw (o:=aK o x.1 x.2) (Δ:=Δ) (id:=id) (fun y hy=>h y BI)
  simp only[put,List.foldl_cons]at this|-
  rw[this];simp[Ne.symm (h x (by simp))]
theorem Gd.mC {g:FuncId}{args:List V}{rd:List Nat}{o:Nat->ae}{nx:Nat}{out:R}{Δ:List (Nat×ae)}(uA:∀id∈rd,id<nx)(eg:∀id∈V.aQ args,id∈rd)(pI:∀id∈rd,∀j∈(o id).refs,j∈rd)(Uy:∀x∈Δ,x.1∈rd)(adX:∀x∈Δ,∀j∈x.2.refs,j∈rd)
 (h:cU P g args (ET rd o) nx
  (fun v o1 _=>(∀id∈rd,o1 id=put o Δ id)/\∃vs rs,v=(match vs with|[v]=>v|vs=> .cA vs)/\cE o1 vs=some rs/\out= .ret rs/\∀id∈V.bO vs,id∉rd)
  (fun v o1 _=>(∀id∈rd,o1 id=put o Δ id)/\∃x,eu o1 v=some x/\out= .cc x/\∀id∈v.ids,id∉rd)):Gd P g args rd o out Δ:=by
 refine⟨h.1,fun o' us M φ w vals ho hH hd=> ?_⟩
 let M1:Nat->Prop:=fun b=>M b\/∃id,id∉rd/\(o' id).live=true/\eT (φ id)=some b
 let HR:Hp:=hp (ET rd o) nx
 have vB:∀id,id∈rd->ET rd o id=o' id:=fun id aC=>by simp[ET,aC,(ho id aC).1]
 have tx:∀id,id∉rd->ET rd o id= .no:=fun id aC=>by simp[ET,aC]
 have hB:∀b,az M1 φ HR b↔az M φ ⟨o',us⟩ b:=by
  intro b
  constructor
  ·rintro((h|⟨id,h1,h2,h3⟩)|⟨id,h1,h2⟩)
   ·exact .inl h
   ·exact .inr ⟨id,h2,h3⟩
   ·by_cases aC:id∈rd
    ·exact .inr ⟨id,by show(o' id).live=true;rw[<- vB id aC];exact h1,h2⟩
    ·have:HR.o id= .no:=tx id aC
     rw[this]at h1;cases h1
  ·rintro(h|⟨id,h1,h2⟩)
   ·exact .inl (.inl h)
   ·by_cases aC:id∈rd
    ·exact .inr ⟨id,by show(ET rd o id).live=true;rw[vB id aC];exact h1,h2⟩
    ·exact .inl (.inr ⟨id,aC,h1,h2⟩)
 have Kr:∀id∈rd,HR.o id=o' id/\φ id=φ id/\HR.us id:=fun id aC=>⟨vB id aC,rfl,uA id aC⟩
 have hHR:aF M1 φ HR w:=by
  refine⟨fun id=> ?_,fun id hn=> ?_,fun i j b hi hj bi bj=> ?_,fun b hb=> ?_,fun b hb=> ?_⟩
  ·by_cases aC:id∈rd
   ·refine bn.refs (H:=⟨o',us⟩) (M:=M) (φ:=φ) (fun b hn hb=>hn ((hB b).1 hb)) (vB id aC) rfl (fun j hj=>Kr j ?_) (hH.ok id)
    have:o' id=o id:=(ho id aC).1
    exact pI id aC j (by rw[<- this];exact hj)
   ·unfold bn
    rw[show HR.o id= .no from tx id aC];trivial
  ·exact tx id fun aC=>hn (uA id aC)
  ·have live:∀i,(HR.o i).live=true->i∈rd/\(o' i).live=true:=fun i hi=>by
    by_cases aC:i∈rd
    ·exact⟨aC,by rw[<- vB i aC];exact hi⟩
    ·rw[show HR.o i= .no from tx i aC]at hi;cases hi
   exact hH.apart i j b (live i hi).2 (live j hj).2 bi bj
  ·obtain⟨id,h1,h2⟩:=hb
   have aC:id∈rd:=by
    by_cases aC:id∈rd
    ·exact aC
    ·rw[show HR.o id= .no from tx id aC]at h1;cases h1
   rw[show HR.o id=o' id from vB id aC]at h1
   obtain⟨k1,k2⟩:=hH.ours b ⟨id,h1,h2⟩
   refine⟨?_,k2⟩
   rintro(hM|⟨j,j1,j2,j3⟩)
   ·exact k1 hM
   ·exact j1 (hH.apart j id b j2 h1 j3 h2 ▸ aC)
  ·rcases hb with hb|⟨id,h1,h2,h3⟩
   ·exact hH.Bu b hb
   ·exact(hH.ours b ⟨id,h2,h3⟩).2
 have hdR:V.aP (az M1 φ HR) φ HR w args vals.toList:=V.ik (H:=⟨o',us⟩) (fun b hn hb=>hn ((hB b).1 hb)) _ _ (fun id aC=>Kr id (eg id aC)) hd
 refine(h.2 M1 φ w vals hHR hdR).mono ?_
 rintro e w' ⟨jG,o1,Bx,v,k1,k2,k3⟩
 have main:(∀id∈rd,o1 id=put o Δ id)->∃aS,aF M aS ⟨put o' Δ,us⟩ w'/\Trans φ ⟨o',us⟩ w aS ⟨put o' Δ,us⟩ w'/\∀b,az M aS ⟨put o' Δ,us⟩ b->M1 b\/∃id∈rd,(o1 id).live=true/\eT (jG id)=some b:=by
  intro xg
  have F5:∀id∈rd,put o' Δ id=o1 id:=fun id aC=>(EU (ho id aC).1).trans (xg id aC).symm
  have JP:∀id,id∉rd->put o' Δ id=o' id:=fun id aC=>Aw fun x hx e=>aC (e ▸ Uy x hx)
  let H8:Place:=fun id=>if id∈rd then jG id else φ id
  have Ax:∀id∈rd,H8 id=jG id:=fun id aC=>if_pos aC
  have Cy:∀id,id∉rd->H8 id=φ id:=fun id aC=>if_neg aC
  let H2:Hp:=⟨put o' Δ,us⟩
  have dk:∀b,du H8 H2 b->(∃id∈rd,(o1 id).live=true/\eT (jG id)=some b)\/∃id,id∉rd/\(o' id).live=true/\eT (φ id)=some b:=by
   rintro b ⟨id,h1,h2⟩
   by_cases aC:id∈rd
   ·exact .inl ⟨id,aC,by rw[<- F5 id aC];exact h1,by rw[<- Ax id aC];exact h2⟩
   ·exact .inr ⟨id,aC,by rw[<- JP id aC];exact h1,by rw[<- Cy id aC];exact h2⟩
  have hB2:∀b,az M H8 H2 b->az M1 jG (hp o1 Bx) b:=by
   rintro b (hb|hb)
   ·exact .inl (.inl hb)
   ·rcases dk b hb with⟨id,h1,h2,h3⟩|⟨id,h1,h2,h3⟩
    ·exact .inr ⟨id,h2,h3⟩
    ·exact .inl (.inr ⟨id,h1,h2,h3⟩)
  have ZB:eC φ ⟨o',us⟩ H8 H2:=by
   refine⟨fun id h=>h,fun id hu hr=> ?_,fun id e' hu he=> ?_⟩
   ·by_cases aC:id∈rd
    ·rw[show H2.o id=o1 id from F5 id aC]at hr
     obtain⟨a,b⟩:=k2.rel.row id (uA id aC) hr
     rw[show HR.o id=o' id from vB id aC]at a
     exact⟨a,(Ax id aC).trans b⟩
    ·rw[show H2.o id=o' id from JP id aC]at hr
     exact⟨hr,Cy id aC⟩
   ·by_cases aC:id∈rd
    ·rw[show H2.o id=o1 id from F5 id aC]at he
     obtain⟨e0,a,b,c⟩:=k2.rel.ep id e' (uA id aC) he
     rw[show HR.o id=o' id from vB id aC]at a
     exact⟨e0,a,b,fun heq=>(Ax id aC).trans (c heq)⟩
    ·rw[show H2.o id=o' id from JP id aC]at he
     exact⟨e',he,Nat.le_refl _,fun _=>Cy id aC⟩
  have x5:∀b,dG w b-> ¬az M φ ⟨o',us⟩ b->w'.heap[b]? =w.heap[b]? /\ ¬az M H8 H2 b:=by
   intro b hc hn
   obtain⟨a,c⟩:=k2.blocks (M:=M1) b hc (fun hb=>hn ((hB b).1 hb))
   exact⟨a,fun hb=>c (hB2 b hb)⟩
  have xI:∀b,b<w.heap.size-> ¬du φ HR b->w'.heap[b]? =w.heap[b]? :=fun b hb hl=>k2.cJ.block b hb hl
  have ht:Trans φ ⟨o',us⟩ w H8 H2 w':=by
   refine⟨⟨k2.cJ.os,k2.cJ.tape,k2.cJ.output,k2.cJ.size,fun b hb hl=>xI b hb fun⟨id,h1,h2⟩=>hl ?_⟩,fun b hb=> ?_,ZB⟩
   ·by_cases aC:id∈rd
    ·exact⟨id,by show(o' id).live=true;rw[<- vB id aC];exact h1,h2⟩
    ·rw[show HR.o id= .no from tx id aC]at h1;cases h1
   ·rcases dk b hb with⟨id,h1,h2,h3⟩|⟨id,h1,h2,h3⟩
    ·rcases k2.grow b ⟨id,h2,h3⟩with⟨j,j1,j2⟩|Bv
     ·by_cases aC:j∈rd
      ·exact .inl ⟨j,by show(o' j).live=true;rw[<- vB j aC];exact j1,j2⟩
      ·rw[show HR.o j= .no from tx j aC]at j1;cases j1
     ·exact .inr Bv
    ·exact .inl ⟨id,h2,h3⟩
  refine⟨H8,⟨fun id=> ?_,fun id hn=> ?_,fun i j b hi hj bi bj=> ?_,fun b hb=> ?_,fun b hb=>Nat.lt_of_lt_of_le (hH.Bu b hb) k2.cJ.size⟩,ht,fun b hb=> ?_⟩
  ·by_cases aC:id∈rd
   ·refine bn.refs (H:=hp o1 Bx) (M:=M1) (φ:=jG) (fun b hn hb=>hn (hB2 b hb)) (F5 id aC) (Ax id aC) (fun j hj=> ?_) (k1.ok id)
    have JM:j∈rd:=by
     have e1:o1 id=put o Δ id:=xg id aC
     have hj:j∈(put o Δ id).refs:=by rw[<- e1];exact hj
     have key:∀ (Gf:List (Nat×ae)) (q:Nat->ae),(∀x∈Gf,∀j∈x.2.refs,j∈rd)->(∀j∈(q id).refs,j∈rd)->∀j∈(put q Gf id).refs,j∈rd:=by
      intro Gf
      induction Gf with
      |nil=>intro q _ h2;exact h2
      |cons x Gf ih=>
       intro q h1 h2
       simp only[put,List.foldl_cons]
       refine ih (aK q x.1 x.2) (fun y hy=>h1 y BI) ?_
       simp only[aW]
       split
       ·exact h1 x au
       ·exact h2
     exact key Δ o adX (pI id aC) j hj
    exact⟨F5 j JM,Ax j JM,(ho j JM).2⟩
   ·exact bn.BT x5 ZB (JP id aC) (Cy id aC) (fun hl b hb=>xI b (hH.ours b ⟨id,hl,hb⟩).2 fun⟨j,j1,j2⟩=>by
     by_cases hj:j∈rd
     ·rw[show HR.o j=o' j from vB j hj]at j1
      exact aC (hH.apart id j b hl j1 hb j2 ▸ hj)
     ·rw[show HR.o j= .no from tx j hj]at j1;cases j1) (hH.ok id)
  ·have aC:id∉rd:=fun aC=>hn (ho id aC).2
   exact(JP id aC).trans (hH.fresh id hn)
  ·by_cases e1:i∈rd<;>by_cases e2:j∈rd
   ·refine k1.apart i j b ?_ ?_ (by rw[<- Ax i e1];exact bi) (by rw[<- Ax j e2];exact bj)
    ·show(o1 i).live=true;rw[<- F5 i e1];exact hi
    ·show(o1 j).live=true;rw[<- F5 j e2];exact hj
   ·exfalso
    refine(k1.ours b ⟨i,by show(o1 i).live=true;rw[<- F5 i e1];exact hi,by rw[<- Ax i e1];exact bi⟩).1 (.inr ⟨j,e2,by rw[<- JP j e2];exact hj,by rw[<- Cy j e2];exact bj⟩)
   ·exfalso
    refine(k1.ours b ⟨j,by show(o1 j).live=true;rw[<- F5 j e2];exact hj,by rw[<- Ax j e2];exact bj⟩).1 (.inr ⟨i,e1,by rw[<- JP i e1];exact hi,by rw[<- Cy i e1];exact bi⟩)
   ·exact hH.apart i j b (by show(o' i).live=true;rw[<- JP i e1];exact hi) (by show(o' j).live=true;rw[<- JP j e2];exact hj) (by rw[<- Cy i e1];exact bi) (by rw[<- Cy j e2];exact bj)
  ·rcases dk b hb with⟨id,h1,h2,h3⟩|⟨id,h1,h2,h3⟩
   ·obtain⟨a,c⟩:=k1.ours b ⟨id,h2,h3⟩
    exact⟨fun hM=>a (.inl hM),c⟩
   ·obtain⟨a,c⟩:=hH.ours b ⟨id,h2,h3⟩
    exact⟨a,Nat.lt_of_lt_of_le c k2.cJ.size⟩
  ·rcases hb with hb|hb
   ·exact .inl (.inl hb)
   ·rcases dk b hb with h|h
    ·exact .inr h
    ·exact .inl (.inr h)
 have res:∀ (vs:List V) (xs:List D) (us':List Value),(∀id∈rd,o1 id=put o Δ id)->cE o1 vs=some xs->(∀id∈V.bO vs,id∉rd)->V.aP (az M1 jG (hp o1 Bx)) jG (hp o1 Bx) w' vs us'->
  ∃aS,aF M aS ⟨put o' Δ,us⟩ w'/\Trans φ ⟨o',us⟩ w aS ⟨put o' Δ,us⟩ w'/\D.aP (az M aS ⟨put o' Δ,us⟩) w' xs us':=by
  intro vs xs us' xg h1 adY h2
  obtain⟨f1,f2,f3,f4,f5⟩:=dH k1 (V.bO vs) (dw vs _ h2)
  have h3:=dN f1 vs xs us' f3 h1 (V.bg f2 _ _ h2)
  obtain⟨aS,m1,m2,m3⟩:=main xg
  refine⟨aS,m1,m2,D.bg (w:=w') (w':=w') (fun b _ hn=>⟨rfl,fun hb=>hn ?_⟩) xs us' h3⟩
  rcases m3 b hb with hb|⟨id,i1,i2,i3⟩
  ·exact .inl hb
  ·exact .inr ⟨id,by rw[f4 id fun hm=>adY id hm i1];exact i2,i3⟩
 cases e with
 |outgrown=>exact k3.elim
 |panicked ch=>
  obtain⟨val,rfl,g1,xg,x,g2,rfl,g3⟩:=k3
  obtain⟨aS,m1,m2,m3⟩:=res [v] [x] [val] xg (by simp[cE,g2]) (by simpa[V.bO]using g3) ⟨val,[],rfl,g1,rfl⟩
  obtain⟨u,us2,he,h2,_⟩:=m3
  simp at he;obtain⟨rfl,rfl⟩:=he
  exact⟨aS,m1,m2,val,rfl,h2⟩
 |returned val=>
  obtain⟨g1,xg,vs,rs,rfl,g2,rfl,g3⟩:=k3
  match vs,g1,g2,g3 with
  |[],g1,g2,g3=>
   obtain⟨arr,rfl,hv⟩:=g1
   simp only[cE,Option.some.injEq]at g2;subst g2
   obtain⟨aS,m1,m2,m3⟩:=res [] [] arr.toList xg rfl (by simp[V.bO]) hv
   exact⟨aS,m1,m2,arr,rfl,m3⟩
  |[v],g1,g2,g3=>
   obtain⟨aS,m1,m2,m3⟩:=res [v] rs [val] xg g2 g3 ⟨val,[],rfl,g1,rfl⟩
   refine⟨aS,m1,m2, ?_⟩
   cases rs with
   |nil=>cases m3
   |cons x l=>
    obtain⟨u,us2,he,h2,h3⟩:=m3
    simp at he;obtain⟨rfl,rfl⟩:=he
    cases l with
    |nil=>exact h2
    |cons y l=>obtain⟨_,_,h,_⟩:=h3;cases h
  |v::v2::l,g1,g2,g3=>
   obtain⟨arr,rfl,hv⟩:=g1
   obtain⟨aS,m1,m2,m3⟩:=res (v::v2::l) rs arr.toList xg g2 g3 hv
   refine⟨aS,m1,m2, ?_⟩
   have hl:=D.aM _ _ m3
   have oT:=V.aM _ _ hv
   match rs,hl,m3 with
   |[],hl,_=>exact Oa
   |[x],hl,_=>exact Oa
   |x::y::l,_,m3=>exact⟨arr,rfl,m3⟩
end
end Go.Proofs.YtonbelhklnmjnaaGreat
namespace Go.Proofs.YtonbelhklnmjnaaGreat
inductive fO where
 |skip|val (v:V) (Δ:List (Nat×ae)) (rd:List Nat)|cc (v:V) (ws rd:List Nat)|eT
 deriving Inhabited
def fO.ok:fO->Bool
 | .skip| .val .. =>true
 |_=>false
def xj(dst:Option Tmp)(x:fO)(s:S):S:=
 match x with
 | .skip=>⟨bF s.env dst (.cA []),s.o,s.nx⟩
 | .val v Δ _=>⟨bF s.env dst v,put s.o Δ,s.nx⟩
 | .cc .. | .eT=>⟨bF s.env dst .aa,s.o,s.nx⟩
def lC:fO->List Nat
 | .val _ Δ _=>Δ.map (·.1)
 |_=>[]
def xJ:fO->List Nat
 | .val _ _ rd=>rd
 | .cc _ _ rd=>rd
 |_=>[]
def Ra(P:Program)(g:FuncId)(ds:List D)(v:V):Prop:=
 Enters P g/\∀ (M:Nat->Prop) (w:World) (vals:Array Value),(∀b,M b->b<w.heap.size)->D.aP M w ds vals.toList->
  Calls P g vals w fun e w'=>eO (fun _=>False) w w'/\∃val,e= .returned val/\∀φ H,V.den M φ H w' v val
theorem Ra.mC {P:Program}{g:FuncId}{ds:List D}{v:V}(hr:v.refs=[])(h:cU P g (ds.map .d) (fun _=> .no) 0 (fun v' _ _=>v'=v) (fun _ _ _=>False)):Ra P g ds v:=by
 refine⟨h.1,fun M w vals hM hd=> ?_⟩
 let cZ:Place:=fun _=> .nilFunc
 have xI:∀b, ¬du cZ (hp (fun _=> .no) 0) b:=by rintro b ⟨id,hl,_⟩;simp[hp,ae.live]at hl
 refine(h.2 M cZ w vals (lV cZ hM) ((V.cM _ _).2 (D.bg (w:=w) (w':=w) (B:=M) (fun b _ hB=>⟨rfl,fun h=>h.elim hB (xI b)⟩) _ _ hd))).mono ?_
 rintro e w' ⟨aS,o',nx',v',k1,k2,k3⟩
 refine⟨⟨k2.cJ.os,k2.cJ.tape,k2.cJ.output,k2.cJ.size,fun k hk _=>k2.cJ.block k hk (xI k)⟩, ?_⟩
 cases e with
 |outgrown=>exact k3.elim
 |panicked ch=>obtain⟨_,_,_,h⟩:=k3;exact h.elim
 |returned val=>
  obtain⟨g1,rfl⟩:=k3
  exact⟨val,rfl,fun φ H=>V.nK (B:=az M aS (hp o' nx')) (φ:=aS) (H:=hp o' nx') (fun b hb hm=>hb (.inl hm)) v' val (fun id aC=>by rw[hr]at aC;cases aC) g1⟩
def yA(P:Program)(s:S)(fr:Nat)(op:Op)(v:V)(Δ:List (Nat×ae))(rd:List Nat):Prop:=
 ((∃uf,gQ P s fr op=some (v,Δ,uf))/\rd=qk s op)\/
 (∃c f g first cap,op= .call c/\c.callee= .value f/\s.ev f= .func (.func g) first cap/\
  ((∃ds rs,cE s.o (first++c.args.toList.map s.ev++cap)=some ds/\aR P g ds (.ret rs)/\v=jT rs/\rd=qk s op/\
    (Δ=dy s.o (V.bO (first++c.args.toList.map s.ev++cap))\/D.kz rs=true/\Δ=[]))\/
   (∃rs,Gd P g (first++c.args.toList.map s.ev++cap) rd s.o (.ret rs) Δ/\v=jT rs/\∀id∈rd,id<s.nx)\/
   (∃ds,cE s.o (first++c.args.toList.map s.ev++cap)=some ds/\Ra P g ds v/\rd=qk s op/\Δ=dy s.o (V.bO (first++c.args.toList.map s.ev++cap)))\/
   (yz P g (first++c.args.toList.map s.ev++cap) rd s.o fr v Δ/\∀id∈rd,id<s.nx)))
def Cz(P:Program)(s:S)(op:Op)(v:V)(ws rd:List Nat):Prop:=
 ∃c f g first cap,op= .call c/\c.callee= .value f/\s.ev f= .func (.func g) first cap/\
  ((∃ds x,cE s.o (first++c.args.toList.map s.ev++cap)=some ds/\aR P g ds (.cc x)/\x.flat=true/\v= .d x/\rd=qk s op/\ws=[])\/
   (∃x Δ,Gd P g (first++c.args.toList.map s.ev++cap) rd s.o (.cc x) Δ/\v= .d x/\ws=Δ.map (·.1)/\∀id∈rd,id<s.nx))
def eB(s:S)(gd:Option (Nat×Bool))(b:Bool):Prop:=
 match gd with
 |none=>b=true
 |some (d,want)=>match s.env d with
  | .d (.bool c)=>b=(c==want)
  | .cA []=>b=false
  |_=>False
def Rb(P:Program)(s:S)(fr:Nat)(o:cI)(x:fO):Prop:=
 match x with
 | .skip=>eB s o.gd false
 | .val v Δ rd=>eB s o.gd true/\yA P s fr o.op v Δ rd
 | .cc v ws rd=>eB s o.gd true/\Cz P s o.op v ws rd
 | .eT=>True
def fg(oc:Nat->cI)(ac:Nat->fO)(E:Nat->Bool)(s:S):Nat->S
 |0=>s
 |k+1=>if E k then xj (oc k).dst (ac k) (fg oc ac E s k)else fg oc ac E s k
structure Compat (oc:Nat->cI) (ac:Nat->fO) (R:Nat->List Nat) (i j:Nat):Prop where
 di:∀d,(oc i).dst=some d->d∉fI (oc j)
 dj:∀d,(oc j).dst=some d->d∉fI (oc i)
 wi:∀id∈lC (ac i),id∉R j/\id∉lC (ac j)
 wj:∀id∈lC (ac j),id∉R i
section
variable {P:Program}{oc:Nat->cI}{ac:Nat->fO}{s:S}{n:Nat}{E:Nat->Bool}{R:Nat->List Nat}{pr:Nat->Nat->Prop}
theorem EV{env:Nat->V}{dst:Option Tmp}{v:V}{t:Nat}(h:∀d,dst=some d->d≠t):bF env dst v t=env t:=by
 cases dst with
 |none=>rfl
 |some d=>simp only[bF,aW];rw[if_neg (fun e=>h d rfl e.symm)]
theorem il{o:Nat->ae}:∀ {Δ:List (Nat×ae)} {id:Nat},id∉Δ.map (·.1)->put o Δ id=o id
 |[],_,_=>rfl
 |x::Δ,id,h=>by
  simp only[List.map_cons,List.mem_cons,not_or]at h
  have:=il (o:=aK o x.1 x.2) (Δ:=Δ) h.2
  simp only[put,List.foldl_cons]at this|-
  rw[this];simp[h.1]
theorem Ay{o o':Nat->ae}:∀ {Δ:List (Nat×ae)} {id:Nat},id∈Δ.map (·.1)\/o id=o' id->put o Δ id=put o' Δ id
 |[],_,h=>by rcases h with h|h;· simp at h
             ·exact h
 |x::Δ,id,h=>by
  simp only[put,List.foldl_cons]
  refine Ay (Δ:=Δ) (o:=aK o x.1 x.2) (o':=aK o' x.1 x.2) ?_
  simp only[List.map_cons,List.mem_cons]at h
  simp only[aW]
  by_cases e:id=x.1
  ·right;simp[e]
  ·rcases h with(h|h)|h
   ·exact absurd h e
   ·exact .inl h
   ·right;simp[e,h]
theorem lD{dst:Option Tmp}{x:fO}{t:Nat}(h:∀d,dst=some d->d≠t):(xj dst x s).env t=s.env t:=by
 cases x<;>exact EV h
theorem nL{dst:Option Tmp}{x:fO}{id:Nat}(h:id∉lC x):(xj dst x s).o id=s.o id:=by
 cases x with
 |val v Δ rd=>exact il h
 |_=>rfl
theorem Az{dst:Option Tmp}{x:fO}{s':S}{t:Nat}(h:s.env t=s'.env t):(xj dst x s).env t=(xj dst x s').env t:=by
 cases x<;>cases dst<;>simp only[xj,bF,aW]<;>first|exact h|(split<;>first|rfl|exact h)
theorem EW{dst:Option Tmp}{x:fO}{s':S}{id:Nat}(h:s.o id=s'.o id):(xj dst x s).o id=(xj dst x s').o id:=by
 cases x with
 |val v Δ rd=>exact Ay (.inr h)
 |_=>exact h
theorem put_comm{o:Nat->ae}{Δ Gf:List (Nat×ae)}(h:∀id∈Δ.map (·.1),id∉Gf.map (·.1)):put (put o Δ) Gf=put (put o Gf) Δ:=by
 funext id
 by_cases h1:id∈Δ.map (·.1)
 ·rw[il (h id h1)]
  exact Ay (.inl h1)
 ·rw[il (Δ:=Δ) h1]
  by_cases h2:id∈Gf.map (·.1)
  ·exact Ay (.inl h2)
  ·rw[il h2,il h2,il h1]
theorem yB{env:Nat->V}{d d':Option Tmp}{v v':V}(h:∀t,d=some t->d'≠some t):bF (bF env d v) d' v'=bF (bF env d' v') d v:=by
 cases d with
 |none=>rfl
 |some t=>
  cases d' with
  |none=>rfl
  |some t'=>
   have iQ:t'≠t:=fun e=>h t rfl (by rw[e])
   funext i
   simp only[bF,aW]
   by_cases e1:i=t<;>by_cases e2:i=t'
   ·exact absurd (e2.symm.trans e1) iQ
   all_goals simp[e1,e2]
   ·intro e;exact absurd e.symm iQ
   ·intro e;exact absurd e iQ
theorem K1{d d':Option Tmp}{x x':fO}(hd:∀t,d=some t->d'≠some t)(hw:∀id∈lC x,id∉lC x'):xj d x (xj d' x' s)=xj d' x' (xj d x s):=by
 cases x<;>cases x'<;>simp only[xj]<;>first
  |rw[yB hd,put_comm hw]
  |rw[yB hd]
def AA(n:Nat)(pr:Nat->Nat->Prop)(E:Nat->Bool):Prop:=∀k,k<n->E k=true->∀j,pr k j->E j=true
theorem agree(_:∀k,k<n->∀j,pr k j->j<k)(hc:∀i j,i<j->j<n-> ¬pr j i->Compat oc ac R i j)(hE:AA n pr E){i:Nat}(hi:i<n)(nm:E i=false)(K4:∀j,pr i j->E j=true):
 (∀t∈fI (oc i),(fg oc ac E s n).env t=(fg oc ac (fun _=>true) s i).env t)/\(∀id∈R i,(fg oc ac E s n).o id=(fg oc ac (fun _=>true) s i).o id):=by
 have a:∀k,k<=i->(∀t∈fI (oc i),(fg oc ac E s k).env t=(fg oc ac (fun _=>true) s k).env t)/\(∀id∈R i,(fg oc ac E s k).o id=(fg oc ac (fun _=>true) s k).o id):=by
  intro k
  induction k with
  |zero=>intro _;exact⟨fun _ _=>rfl,fun _ _=>rfl⟩
  |succ k ih=>
   intro hk
   obtain⟨h1,h2⟩:=ih ad
   simp only[fg,if_true]
   by_cases fC:E k=true
   ·simp only[fC,if_true]
    exact⟨fun t ht=>Az (h1 t ht),fun id aC=>EW (h2 id aC)⟩
   ·have Q0: ¬pr i k:=fun hm=>fC (K4 k hm)
    have c:=hc k i ad hi Q0
    simp only[fC]
    refine⟨fun t ht=> ?_,fun id aC=> ?_⟩
    ·rw[lD fun d hd e=>c.di d hd (e ▸ ht)];exact h1 t ht
    ·rw[nL fun hm=>(c.wi id hm).1 aC];exact h2 id aC
 have b:∀k,i<=k->k<=n->(∀t∈fI (oc i),(fg oc ac E s k).env t=(fg oc ac (fun _=>true) s i).env t)/\(∀id∈R i,(fg oc ac E s k).o id=(fg oc ac (fun _=>true) s i).o id):=by
  intro k OO
  induction OO with
  |refl=>intro _;exact a i (Nat.le_refl _)
  | @step k OO ih=>
    intro hk
    have OO:i<=k:=OO
    obtain⟨h1,h2⟩:=ih ad
    simp only[fg]
    by_cases fC:E k=true
    ·have iQ:i≠k:=fun e=>by rw[e,fC]at nm;cases nm
     have Q0: ¬pr k i:=fun hm=>by have:=hE k ad fC i hm;rw[nm]at this;cases this
     have c:=hc i k ad ad Q0
     simp only[fC,if_true]
     refine⟨fun t ht=> ?_,fun id aC=> ?_⟩
     ·rw[lD fun d hd e=>c.dj d hd (e ▸ ht)];exact h1 t ht
     ·rw[nL fun hm=>c.wj id hm aC];exact h2 id aC
    ·simp only[fC];exact⟨h1,h2⟩
 exact b n ad (Nat.le_refl _)
theorem insert(hc:∀i j,i<j->j<n-> ¬pr j i->Compat oc ac R i j)(hE:AA n pr E){i:Nat}(hi:i<n)(nm:E i=false){E':Nat->Bool}(EX:∀k,E' k=(E k||k==i)):
 fg oc ac E' s n=xj (oc i).dst (ac i) (fg oc ac E s n):=by
 have a:∀k,k<=i->fg oc ac E' s k=fg oc ac E s k:=by
  intro k
  induction k with
  |zero=>intro _;rfl
  |succ k ih=>
   intro hk
   have:E' k=E k:=by rw[EX k];have:(k==i)=false:=by simp;omega
                     simp[this]
   simp only[fg,this,ih (by omega)]
 have b:∀k,i+1<=k->k<=n->fg oc ac E' s k=xj (oc i).dst (ac i) (fg oc ac E s k):=by
  intro k OO
  induction OO with
  |refl=>
   intro _
   have h1:E' i=true:=by rw[EX i];simp
   simp only[fg,h1,nm,if_true,a i (Nat.le_refl _)]
   rfl
  | @step k OO ih=>
    intro hk
    have OO:i+1<=k:=OO
    have h1:E' k=E k:=by rw[EX k];have:(k==i)=false:=by simp;omega
                         simp[this]
    simp only[fg,h1,ih (by omega)]
    by_cases fC:E k=true
    ·have Q0: ¬pr k i:=fun hm=>by have:=hE k ad fC i hm;rw[nm]at this;cases this
     have c:=hc i k ad ad Q0
     simp only[fC,if_true]
     refine K1 (fun t ht he=> ?_) (fun id aC hm=>(c.wi id hm).2 aC)
     exact c.di t he (by simp[fI,ht])
    ·simp only[fC];rfl
 exact b n ad (Nat.le_refl _)
end
end Go.Proofs.YtonbelhklnmjnaaGreat
namespace Go.Proofs.YtonbelhklnmjnaaGreat
structure uh (M:Nat->Prop) (cZ:Place) (H0:Hp) (w0:World) (n:Nat) (cx:Cx) (φ:Place) (s:S) (us:Nat->Prop) (a:Act) (w:World):Prop where
 heap:aF M φ ⟨s.o,us⟩ w
 tr:Trans cZ H0 w0 φ ⟨s.o,us⟩ w
 size:a.tmps.size=n
 defers:vq cx w0 φ ⟨s.o,us⟩ w a.defers
 env:∀i,V.den (az M φ ⟨s.o,us⟩) φ ⟨s.o,us⟩ w (s.env i) (a.tmps.getD i undef)
section
variable {P:Program}{M:Nat->Prop}{φ cZ:Place}{H0:Hp}{w w' w0:World}{n:Nat}{s:S}{us:Nat->Prop}{a:Act}{cx:Cx}{ro:Option Nat}{k:Nat}
variable {next:Act->World->Prop}{Q:Exit->Act->World->Prop}
theorem jz(hs:uh M cZ H0 w0 n cx φ s us a w){aS:Place}{H':Hp}(hH:aF M aS H' w')(ht:Trans φ ⟨s.o,us⟩ w aS H' w'){v:V}{val:Value}(hd:V.den (az M aS H') aS H' w' v val){dst:Option Tmp}(dm:iz n dst)
 {o':Nat->ae} {us':Nat->Prop} (ho:H'.o=o') (hu:∀id,H'.us id->us' id):uh M cZ H0 w0 n cx aS ⟨bF s.env dst v,o',s.nx⟩ us' (a.put dst val) w':=by
 obtain⟨k1,k2⟩:=jU hH hu
 subst ho
 refine⟨k1,hs.tr.trans (ht.trans k2), ?_, ?_,fun i=> ?_⟩
 ·cases dst<;>simp[Act.put,hs.size]
 ·have:=hs.defers.mono (ht.trans k2);cases dst<;>exact this
 ·cases dst with
  |none=>exact V.aX (ht.trans k2) _ _ (hs.env i)
  |some d=>
   simp only[iz]at dm
   simp only[bF,aW,Act.put]
   by_cases hi:i=d
   ·subst hi
    have h1:(a.tmps.setIfInBounds i val).getD i undef=val:=by simp[Array.getD,hs.size,dm]
    rw[if_pos rfl,h1]
    exact V.aX k2 _ _ hd
   ·have h1:(a.tmps.setIfInBounds d val).getD i undef=a.tmps.getD i undef:=by
     simp only[Array.getD_eq_getD_getElem?]
     rw[Array.getElem?_setIfInBounds_ne (Ne.symm hi)]
    rw[if_neg hi,h1]
    exact V.aX (ht.trans k2) _ _ (hs.env i)
theorem yC(hs:uh M cZ H0 w0 n cx φ s us a w){o:Oper}{op:Op}(ey:o.op=op){c:Call}{f:Operand}{g:FuncId}{first cap:List V}(hc:op= .call c)(e7:c.callee= .value f)(xw:s.ev f= .func (.func g) first cap):
 ∃vals:Array Value,V.aP (az M φ ⟨s.o,us⟩) φ ⟨s.o,us⟩ w (first++c.args.toList.map s.ev++cap) vals.toList/\(Enters P g->(execOp a.eval o).run P w= .ok (.enter g vals) w):=by
 have hf:=nv (M:=M) (φ:=φ) (H:=⟨s.o,us⟩) (w:=w) s a hs.env f
 have eg:=kW (M:=M) (φ:=φ) (H:=⟨s.o,us⟩) (w:=w) s a hs.env c.args.toList
 rw[xw]at hf
 obtain⟨fa,ca,Uu,B7,Zv⟩:=hf
 refine⟨fa++c.args.map a.eval++ca, ?_,fun he=> ?_⟩
 ·rw[Array.toList_append,Array.toList_append,Array.toList_map]
  exact V.my B7 eg Zv
 ·have:=lS (w:=w) he (fa++c.args.map a.eval++ca)
  generalize pk:fa++c.args.map a.eval++ca=vals at this
  simp[execOp,ey,hc,resolve,e7,Uu,Deferred.ofValue,invoke,this,pk]
theorem CA(hs:uh M cZ H0 w0 n cx φ s us a w){fr:Nat}(dh: ¬us fr)(uA:∀id,id<s.nx->us id){o:Oper}{op:Op}(ey:o.op=op)(dm:iz n o.dst){v:V}{Δ:List (Nat×ae)}{rd:List Nat}(h:yA P s fr op v Δ rd)
 (hN:∀aS a' w',uh M cZ H0 w0 n cx aS (xj o.dst (.val v Δ rd) s) (fun id=>us id\/id=fr) a' w'->next a' w'):o.wpIn (ew ro) k P a w next Q:=by
 rcases h with⟨⟨uf,h⟩,_⟩|⟨c,f,g,first,cap,hc,e7,xw,h⟩
 ·have h1:=Cu (K:=fun v' Gf _=>v'=v/\Gf=Δ) h ⟨rfl,rfl⟩
  obtain⟨nx,val,w',aS,v',Gf,uf,⟨rfl,rfl⟩,hr,adZ,g1,g2,g3,g4⟩:=yi hs.heap (s:=s) rfl hs.env dh ey h1
  have Ai:=jz hs g1 g2 g3 dm (o':=put s.o Gf) (us':=fun id=>us id\/id=fr) rfl (fun id hu=>hu.elim .inl (g4 id))
  refine la (fun c hc=>by rw[ey]at hc;subst hc;exact h1) ?_
  rw[hr]
  rcases adZ with rfl|⟨rfl,rfl⟩
  ·exact hN _ _ _ Ai
  ·exact hN _ _ _ Ai
 ·refine la (fun c' qn=>by rw[ey,hc]at qn;cases qn) ?_
  obtain⟨vals,bI,fM⟩:=yC (P:=P) hs ey hc e7 xw
  generalize first++c.args.toList.map s.ev++cap=all at h bI
  rcases h with⟨ds,rs,fk,hP,rfl,_,Uy⟩|⟨rs,hH,rfl,nk⟩|⟨ds,fk,hP,_,rfl⟩|⟨hH,nk⟩
  ·obtain⟨f1,f2,f3,f4,f5⟩:=dH hs.heap (V.bO all) (dw all _ bI)
   have lA:(⟨s.o,us⟩:Hp).put (dy s.o (V.bO all))=⟨put s.o (dy s.o (V.bO all)),us⟩:=lR (H:=⟨s.o,us⟩) TY
   have x7:=dN f1 all ds _ f3 fk (V.bg f2 _ _ bI)
   have fA:=hP.2 _ w vals (fun b hb=>hb.elim (f1.Bu b) fun hl=>(f1.ours b hl).2) x7
   rw[fM hP.1]
   refine⟨fun hd=>by simp[ew]at hd,dE (fA.mono fun e w' ⟨hk,ho⟩=> ?_)⟩
   cases e with
   |panicked ch=>cases rs with|nil=>exact ho.elim|cons x l=>cases l<;>exact ho.elim
   |outgrown=>cases rs with|nil=>exact ho.elim|cons x l=>cases l<;>exact ho.elim
   |returned val=>
    rcases Uy with rfl|⟨pF,rfl⟩
    ·obtain⟨k1,k2⟩:=hY f1 hk
     refine hN _ _ _ (jz hs k1 (f2.trans k2) (lT ho) dm (by rw[lA]) fun id hu=> ?_)
     rw[lA]at hu;exact .inl hu
    ·obtain⟨k1,k2⟩:=hY hs.heap hk
     have ho:=R.Aj (out:= .ret rs) (B':=az M φ ⟨s.o,us⟩) pF ho
     exact hN _ _ _ (jz hs k1 k2 (lT ho) dm rfl fun id hu=> .inl hu)
  ·have fA:=hH.2 s.o us M φ w vals (fun id aC=>⟨rfl,uA id (nk id aC)⟩) hs.heap bI
   rw[fM hH.1]
   refine⟨fun hd=>by simp[ew]at hd,dE (fA.mono fun e w' ⟨aS,k1,k2,ho⟩=> ?_)⟩
   cases e with
   |panicked ch=>cases rs with|nil=>exact ho.elim|cons x l=>cases l<;>exact ho.elim
   |outgrown=>cases rs with|nil=>exact ho.elim|cons x l=>cases l<;>exact ho.elim
   |returned val=>exact hN _ _ _ (jz hs k1 k2 (lT ho) dm rfl fun id hu=> .inl hu)
  ·obtain⟨f1,f2,f3,f4,f5⟩:=dH hs.heap (V.bO all) (dw all _ bI)
   have lA:(⟨s.o,us⟩:Hp).put (dy s.o (V.bO all))=⟨put s.o (dy s.o (V.bO all)),us⟩:=lR (H:=⟨s.o,us⟩) TY
   have x7:=dN f1 all ds _ f3 fk (V.bg f2 _ _ bI)
   have fA:=hP.2 _ w vals (fun b hb=>hb.elim (f1.Bu b) fun hl=>(f1.ours b hl).2) x7
   rw[fM hP.1]
   refine⟨fun hd=>by simp[ew]at hd,dE (fA.mono fun e w' ⟨hk,val,he,ho⟩=> ?_)⟩
   subst he
   obtain⟨k1,k2⟩:=hY f1 hk
   refine hN _ _ _ (jz hs k1 (f2.trans k2) (ho _ _) dm (by rw[lA]) fun id hu=> ?_)
   rw[lA]at hu;exact .inl hu
  ·have fA:=hH.2 s.o us M φ w vals (fun id aC=>⟨rfl,uA id (nk id aC)⟩) dh hs.heap bI
   rw[fM hH.1]
   refine⟨fun hd=>by simp[ew]at hd,dE (fA.mono fun e w' ⟨aS,k1,k2,val,he,ho⟩=> ?_)⟩
   subst he
   exact hN _ _ _ (jz hs k1 k2 ho dm rfl fun id hu=>hu)
theorem Ii{o o2:Nat->ae}{us us2:Nat->Prop}(hH:aF M φ ⟨o,us⟩ w)(ho:∀id,o2 id=o id\/o2 id= .no)(hu:∀id,us id->us2 id):aF M φ ⟨o2,us2⟩ w/\Trans φ ⟨o,us⟩ w φ ⟨o2,us2⟩ w:=by
 have hl:∀id,(o2 id).live=true->(o id).live=true:=fun id h=>by
  rcases ho id with e|e
  ·rw[<- e];exact h
  ·rw[e]at h;cases h
 have X7:∀b,du φ ⟨o2,us2⟩ b->du φ ⟨o,us⟩ b:=fun b ⟨id,h1,h2⟩=>⟨id,hl id h1,h2⟩
 have ht:Trans φ ⟨o,us⟩ w φ ⟨o2,us2⟩ w:=by
  refine⟨eO.refl _ _,fun b hb=> .inl (X7 b hb),⟨hu,fun id _ hr=> ?_,fun id e' _ he=> ?_⟩⟩
  ·rcases ho id with e|e
   ·exact⟨by show(o id).cK=true;rw[<- e];exact hr,rfl⟩
   ·rw[show(⟨o2,us2⟩:Hp).o id= .no from e]at hr;cases hr
  ·rcases ho id with e|e
   ·exact⟨e',by show(o id).cH=some e';rw[<- e];exact he,Nat.le_refl _,fun _=>rfl⟩
   ·rw[show(⟨o2,us2⟩:Hp).o id= .no from e]at he;cases he
 refine⟨⟨fun id=> ?_,fun id hn=> ?_,fun i j b hi hj=>hH.apart i j b (hl i hi) (hl j hj),fun b hb=>hH.ours b (X7 b hb),hH.Bu⟩,ht⟩
 ·rcases ho id with e|e
  ·exact(hH.ok id).mono ht e rfl fun _ _ _=>rfl
  ·unfold bn;rw[show(⟨o2,us2⟩:Hp).o id= .no from e];trivial
 ·rcases ho id with e|e
  ·exact e.trans (hH.fresh id fun h=>hn (hu id h))
  ·exact e
def qq(ds:List Nat)(wl:List Nat)(N:Nat)(s:S):S:=
 ⟨fun t=>if ds.contains t=true then .aa else s.env t,fun id=>if wl.contains id=true then .no else s.o id,s.nx+N⟩
theorem K5(hs:uh M cZ H0 w0 n cx φ s us a w)(uA:∀id,id<s.nx->us id){N:Nat}(fQ:∀id,us id->id<s.nx+N){o:Oper}{op:Op}(ey:o.op=op){v:V}{ws rd:List Nat}(h:Cz P s op v ws rd)
 {s0:S} {ds wl:List Nat} (fk:∀t,ds.contains t=false->s.env t=s0.env t) (ZC:∀id,wl.contains id=false->s.o id=s0.o id) (OP:∀id∈ws,wl.contains id=true) (gG:s0.nx=s.nx)
 (hQ:∀aS w' val,cG M cZ H0 w0 n cx aS (qq ds wl N s0) a w'->V.den (az M aS (qq ds wl N s0).H) aS (qq ds wl N s0).H w' v val->Q (.panic [{v:=val,recovered:=false}]) a w'):o.wpIn (ew ro) k P a w next Q:=by
 obtain⟨c,f,g,first,cap,hc,e7,xw,h⟩:=h
 refine la (fun c' qn=>by rw[ey,hc]at qn;cases qn) ?_
 obtain⟨vals,bI,fM⟩:=yC (P:=P) hs ey hc e7 xw
 generalize first++c.args.toList.map s.ev++cap=all at h bI
 have fin:∀ (aS:Place) (w':World) (o':Nat->ae) (val:Value),(∀id,wl.contains id=false->o' id=s.o id)->aF M aS ⟨o',us⟩ w'->Trans φ ⟨s.o,us⟩ w aS ⟨o',us⟩ w'->V.den (az M aS ⟨o',us⟩) aS ⟨o',us⟩ w' v val->Q (.panic [{v:=val,recovered:=false}]) a w':=by
  intro aS w' o' val yw k1 k2 k3
  obtain⟨m1,m2⟩:=Ii (o2:=(qq ds wl N s0).o) (us2:=fun id=>id<s0.nx+N) k1 (fun id=>by
   show(if wl.contains id=true then ae.no else s0.o id)=o' id\/_
   by_cases hw:wl.contains id=true
   ·right;simp only[qq];rw[if_pos hw]
   ·left;rw[if_neg hw,yw id (by simpa using hw),ZC id (by simpa using hw)]) (fun id h=>by rw[gG];exact fQ id h)
  have ht:=hs.tr.trans (k2.trans m2)
  refine hQ aS w' val ⟨m1,ht,hs.size,hs.defers.mono (k2.trans m2),fun i=> ?_⟩ (V.aX m2 _ _ k3)
  show V.den _ _ _ _ (if ds.contains i=true then V.aa else s0.env i) _
  by_cases hd:ds.contains i=true
  ·rw[if_pos hd];trivial
  ·rw[if_neg hd, <- fk i (by simpa using hd)];exact V.aX (k2.trans m2) _ _ (hs.env i)
 rcases h with⟨dd,x,ad0,hP,pF,rfl,_,rfl⟩|⟨x,Δ,hH,rfl,rfl,nk⟩
 ·obtain⟨f1,f2,f3,f4,f5⟩:=dH hs.heap (V.bO all) (dw all _ bI)
  have x7:=dN f1 all dd _ f3 ad0 (V.bg f2 _ _ bI)
  have fA:=hP.2 _ w vals (fun b hb=>hb.elim (f1.Bu b) fun hl=>(f1.ours b hl).2) x7
  rw[fM hP.1]
  refine⟨fun hd=>by simp[ew]at hd,dE (fA.mono fun e w' ⟨hk,ho⟩=> ?_)⟩
  cases e with
  |returned val=>exact ho.elim
  |outgrown=>exact ho.elim
  |panicked ch=>
   obtain⟨k1,k2⟩:=hY hs.heap hk
   have ho:=R.Aj (out:= .cc x) (B':=az M φ ⟨s.o,us⟩) pF ho
   obtain⟨val,rfl,hd⟩:=ho
   exact fin φ w' s.o val (fun _ _=>rfl) k1 k2 hd
 ·have fA:=hH.2 s.o us M φ w vals (fun id aC=>⟨rfl,uA id (nk id aC)⟩) hs.heap bI
  rw[fM hH.1]
  refine⟨fun hd=>by simp[ew]at hd,dE (fA.mono fun e w' ⟨aS,k1,k2,ho⟩=> ?_)⟩
  cases e with
  |returned val=>exact ho.elim
  |outgrown=>exact ho.elim
  |panicked ch=>
   obtain⟨val,rfl,hd⟩:=ho
   exact fin aS w' _ val (fun id aC=>Aw fun y hy e=>by
    have:=OP y.1 (List.mem_map_of_mem hy)
    rw[e,aC]at this;cases this) k1 k2 hd
theorem gv(eP:∀i,V.den (az M φ ⟨s.o,us⟩) φ ⟨s.o,us⟩ w (s.env i) (a.tmps.getD i undef)){ops:Array Oper}{o:Oper}{gd:Option (Nat×Bool)}{b:Bool}
 (hg:match o.guard with|none=>gd=none|some (j,want)=>∃d,ta ops j=some d/\gd=some (d,want)) (h:eB s gd b):Region.wanted o (yielded ops a.tmps)=b:=by
 unfold Region.wanted
 split at hg
 ·rename_i hn;simp only[hn];subst hg;exact h.symm
 ·rename_i j want hn
  simp only[hn]
  obtain⟨d,hd,rfl⟩:=hg
  unfold ta at hd
  unfold yielded
  simp only[hd,Option.bind_some]
  simp only[eB]at h
  have he:=eP d
  split at h
  ·rename_i c hv
   rw[hv]at he
   simp only[V.den,D.den]at he
   have:a.tmps[d]? =some (.bool c):=by
    rw[Array.getD_eq_getD_getElem?]at he
    cases hx:a.tmps[d]? with
    |none=>rw[hx]at he;simp[undef]at he
    |some x=>rw[hx]at he;simp at he;rw[he]
   simp only[this,h]
   cases c<;>cases want<;>rfl
  ·rename_i hv
   rw[hv]at he
   obtain⟨arr,cV,hn⟩:=he
   have:∀c,a.tmps[d]? ≠some (.bool c):=by
    intro c hx
    rw[Array.getD_eq_getD_getElem?,hx]at cV
    simp at cV
   subst h
   cases hx:a.tmps[d]? with
   |none=>rfl
   |some x=>cases x<;>first|(exact absurd hx (this _))|rfl
  ·exact h.elim
theorem gw{s s':S}{gd:Option (Nat×Bool)}{b:Bool}(h:∀d want,gd=some (d,want)->s'.env d=s.env d)(hg:eB s gd b):eB s' gd b:=by
 unfold eB at*
 cases gd with
 |none=>exact hg
 |some p=>obtain⟨d,want⟩:=p;simp only at hg|-;rw[h d want rfl];exact hg
theorem CB{s s':S}{x:Operand}(h:∀t,x= .tmp t->s'.env t=s.env t):s'.ev x=s.ev x:=by
 cases x<;>simp only[S.ev]
 exact h _ rfl
theorem vC{s s':S}{op:Op}{c:Call}{f:Operand}{g:FuncId}{first cap:List V}(hv:∀x∈op.operands,s'.ev x=s.ev x)(hc:op= .call c)(e7:c.callee= .value f)(xw:s.ev f= .func (.func g) first cap):
 s'.ev f= .func (.func g) first cap/\c.args.toList.map s'.ev=c.args.toList.map s.ev:=by
 subst hc
 exact⟨(hv f (by simp only[Op.operands,Call.operands,e7];exact Array.mem_append.2 (.inl au))).trans xw,
  List.map_congr_left fun x hx=>hv x (by simp only[Op.operands,Call.operands];exact Array.mem_append.2 (.inr (Array.mem_toList_iff.1 hx)))⟩
theorem Gd.frame {g:FuncId}{args:List V}{rd:List Nat}{o o':Nat->ae}{out:R}{Δ:List (Nat×ae)}(ho:∀id∈rd,o' id=o id)(h:Gd P g args rd o out Δ):Gd P g args rd o' out Δ:=
 ⟨h.1,fun o2 us M φ w vals h1 h2 h3=>h.2 o2 us M φ w vals (fun id aC=>⟨(h1 id aC).1.trans (ho id aC),(h1 id aC).2⟩) h2 h3⟩
theorem yz.frame {g:FuncId}{args:List V}{rd:List Nat}{o o':Nat->ae}{fr:Nat}{v:V}{Δ:List (Nat×ae)}(ho:∀id∈rd,o' id=o id)(h:yz P g args rd o fr v Δ):yz P g args rd o' fr v Δ:=
 ⟨h.1,fun o2 us M φ w vals h1 h2 h3=>h.2 o2 us M φ w vals (fun id aC=>⟨(h1 id aC).1.trans (ho id aC),(h1 id aC).2⟩) h2 h3⟩
theorem tz{s s':S}{fr:Nat}{op:Op}{v:V}{Δ:List (Nat×ae)}{rd:List Nat}(hv:∀x∈op.operands,s'.ev x=s.ev x)(ho:∀id∈rd,s'.o id=s.o id)(uA:s'.nx=s.nx)(h:yA P s fr op v Δ rd):∃uf,yA P s' fr op v Δ uf:=by
 rcases h with⟨⟨uf,h⟩,nk⟩|⟨c,f,g,first,cap,rfl,e7,xw,h⟩
 ·exact⟨_, .inl ⟨⟨uf,by rw[ES op hv (by rw[<- nk];exact ho)];exact h⟩,rfl⟩⟩
 ·obtain⟨hf,hm⟩:=vC hv rfl e7 xw
  rcases h with⟨ds,rs,fk,hP,tZ,nk,Uy⟩|⟨rs,hH,tZ,nk⟩|⟨ds,fk,hP,nk,Uy⟩|⟨hH,nk⟩
  ·have hr:∀id∈V.aQ (first++c.args.toList.map s.ev++cap),s'.o id=s.o id:=fun id aC=>ho id TU
   refine⟨_, .inr ⟨c,f,g,first,cap,rfl,e7,hf, .inl ⟨ds,rs,by rw[hm,jg _ hr];exact fk,hP,tZ,rfl, ?_⟩⟩⟩
   rw[hm,ij (o:=s.o) fun id aC=>hr id (kA _ id aC)]
   exact Uy
  ·exact⟨rd, .inr ⟨c,f,g,first,cap,rfl,e7,hf, .inr (.inl ⟨rs,by rw[hm];exact hH.frame ho,tZ,by rw[uA];exact nk⟩)⟩⟩
  ·have hr:∀id∈V.aQ (first++c.args.toList.map s.ev++cap),s'.o id=s.o id:=fun id aC=>ho id TU
   refine⟨_, .inr ⟨c,f,g,first,cap,rfl,e7,hf, .inr (.inr (.inl ⟨ds,by rw[hm,jg _ hr];exact fk,hP,rfl, ?_⟩))⟩⟩
   rw[hm,ij (o:=s.o) fun id aC=>hr id (kA _ id aC)]
   exact Uy
  ·exact⟨rd, .inr ⟨c,f,g,first,cap,rfl,e7,hf, .inr (.inr (.inr ⟨by rw[hm];exact hH.frame ho,by rw[uA];exact nk⟩))⟩⟩
theorem CC{s s':S}{op:Op}{v:V}{ws rd:List Nat}(hv:∀x∈op.operands,s'.ev x=s.ev x)(ho:∀id∈rd,s'.o id=s.o id)(uA:s'.nx=s.nx)(h:Cz P s op v ws rd):Cz P s' op v ws rd:=by
 obtain⟨c,f,g,first,cap,rfl,e7,xw,h⟩:=h
 obtain⟨hf,hm⟩:=vC hv rfl e7 xw
 refine⟨c,f,g,first,cap,rfl,e7,hf, ?_⟩
 rw[hm]
 rcases h with⟨ds,x,fk,hP,pF,tZ,nk,OP⟩|⟨x,Δ,hH,tZ,OP,nk⟩
 ·have hr:∀id∈V.aQ (first++c.args.toList.map s.ev++cap),s'.o id=s.o id:=fun id aC=>ho id TU
  exact .inl ⟨ds,x,by rw[jg _ hr];exact fk,hP,pF,tZ,by rw[nk];simp only[qk,e7,xw,hf,hm],OP⟩
 ·exact .inr ⟨x,Δ,hH.frame ho,tZ,OP,by rw[uA];exact nk⟩
theorem vE{ops:Array Oper}:∀ (l:List Oper) (l':List cI) (i:Nat) (o:Oper),lK n ops l=some l'->l[i]? =some o->Kc n ops o=some (cq l' i)
 |[],_,_,_,_,h=>by simp at h
 |x::l,l',i,o,h,hi=>by
  simp only[lK]at h
  split at h
  ·rename_i y ys hy hys
   injection h with h;subst h
   cases i with
   |zero=>simp at hi;subst hi;exact hy
   |succ i=>exact vE l ys i o hys J9
  ·cases h
theorem yD{ops:Array Oper}{o:Oper}{x:cI}(h:Kc n ops o=some x):x.op=o.op/\x.dst=o.dst/\iz n o.dst/\
 (match o.guard with|none=>x.gd=none|some (j,want)=>∃d,ta ops j=some d/\x.gd=some (d,want)):=by
 unfold Kc at h
 split at h
 ·rename_i hd
  have dm:iz n o.dst:=by
   unfold En at hd;unfold iz
   split at hd<;>simp_all
  cases hg:o.guard with
  |none=>simp only[hg]at h;injection h with h;subst h;exact⟨rfl,rfl,dm,rfl⟩
  |some p=>
   obtain⟨j,want⟩:=p
   simp only[hg]at h
   cases Q9:ta ops j with
   |none=>simp[Q9]at h
   |some d=>simp only[Q9]at h;injection h with h;subst h;exact⟨rfl,rfl,dm,d,Q9,rfl⟩
 ·cases h
theorem pQ{ops:Array Oper}{aB:Array Bool}(tl:∀k,k<ops.size->∀j∈bW ops k,j<k)(hs:aB.size=ops.size)(hr:Region.ready .any ops aB=[]):∀k,k<ops.size->aB.getD k false=true:=by
 intro k
 induction k using Nat.strongRecOn with
 |_ k ih=>
  intro hk
  cases hl:aB.getD k false with
  |true=>rfl
  |false=>
   have:k∈Region.ready .any ops aB:=by
    refine mem_ready.2 ⟨?_,ops[k],by simp[hk],fun e he hb=> ?_⟩
    ·simp only[Array.getD_eq_getD_getElem?]at hl|-
     rw[Array.getElem?_eq_getElem (by omega)]at hl|-
     simpa using hl
    ·have hm:e.on∈bW ops k:=by
      simp only[bW,Array.getElem?_eq_getElem hk,List.mem_map,List.mem_filter]
      exact⟨e,⟨Array.mem_toList_iff.2 he,hb⟩,rfl⟩
     exact ih _ (tl k hk _ hm) (by have:=tl k hk _ hm;omega)
   rw[hr]at this;cases this
theorem CD(hs:cG M cZ H0 w0 n cx φ s a w):cG M cZ H0 w0 n cx φ s a {w with drawn:=w.drawn+1}:=by
 obtain⟨k1,k2⟩:=hY (w':={w with drawn:=w.drawn+1}) hs.heap ⟨rfl,rfl,rfl,Nat.le_refl _,fun _ _ _=>rfl⟩
 exact⟨k1,hs.tr.trans k2,hs.size,hs.defers.mono k2,fun i=>V.aX k2 _ _ (hs.env i)⟩
theorem mg{oc:Nat->cI}{ac:Nat->fO}{E:Nat->Bool}:∀k,(fg oc ac E s k).nx=s.nx
 |0=>rfl
 |k+1=>by
  simp only[fg]
  split
  ·cases ac k<;>exact mg k
  ·exact mg k
theorem Gg{oc:Nat->cI}{ac:Nat->fO}{E:Nat->Bool}{t:Nat}:∀k,(∀j,j<k->(oc j).dst≠some t)->(fg oc ac E s k).env t=s.env t
 |0,_=>rfl
 |k+1,h=>by
  have ih:=Gg (oc:=oc) (ac:=ac) (E:=E) (t:=t) k fun j hj=>h j ad
  simp only[fg]
  split
  ·rw[lD fun d hd e=>h k (by omega) (by rw[hd,e])];exact ih
  ·exact ih
theorem Rc{oc:Nat->cI}{ac:Nat->fO}{E:Nat->Bool}{id:Nat}:∀k,(∀j,j<k->id∉lC (ac j))->(fg oc ac E s k).o id=s.o id
 |0,_=>rfl
 |k+1,h=>by
  have ih:=Rc (oc:=oc) (ac:=ac) (E:=E) (id:=id) k fun j hj=>h j ad
  simp only[fg]
  split
  ·rw[nL (h k (by omega))];exact ih
  ·exact ih
theorem CE(bM:P.follows .mixedOrders=true){ops:Array Oper}{l:List cI}{id:Nat}(sE:lK n ops ops.toList=some l)(tl:∀k,k<ops.size->∀j∈bW ops k,j<k){ac:Nat->fO}{dl wl:List Nat}
 (hs:cG M cZ H0 w0 n cx φ s a w) (Uz:∀i,i<ops.size->Rb P (fg (cq l) ac (fun _=>true) s i) (s.nx+i) (cq l i) (ac i))
 (Ij:∀i,i<ops.size->ac i= .eT->∃j∈bW ops i,(ac j).ok=false)
 {po:Nat->Nat->Prop} (Gh:∀E:Nat->Bool,(∀k,k<ops.size->E k=true->∀j∈bW ops k,E j=true)->∀k,k<ops.size->(∀j∈bW ops k,E j=true)->∀j,po k j->E j=true) (CF:∀k,k<ops.size->∀j,po k j->j<k)
 (hc:∀i j,i<j->j<ops.size-> ¬po j i->Compat (cq l) ac (fun i=>xJ (ac i)) i j)
 (hdl:∀i,i<ops.size->∀t,(cq l i).dst=some t->dl.contains t=true) (ZC:∀i,i<ops.size->∀id∈lC (ac i),wl.contains id=true)
 (OP:∀i v ws rd,i<ops.size->ac i= .cc v ws rd->∀id∈ws,wl.contains id=true)
 (hQ:(∀i,i<ops.size->(ac i).ok=true)->∀φ a w,cG M cZ H0 w0 n cx φ ⟨(fg (cq l) ac (fun _=>true) s ops.size).env,(fg (cq l) ac (fun _=>true) s ops.size).o,s.nx+ops.size⟩ a w->Q .normal a w)
 (hX:∀i v ws rd,i<ops.size->ac i= .cc v ws rd->∀φ a w val,cG M cZ H0 w0 n cx φ (qq dl wl ops.size s) a w->V.den (az M φ (qq dl wl ops.size s).H) φ (qq dl wl ops.size s).H w v val->Q (.panic [{v:=val,recovered:=false}]) a w):
 (Code.region id ops true).wpIn (ew ro) k P Q a w:=by
 refine wpIn_region_any bM ?_
 have hs:=CD hs
 generalize ({w with drawn:=w.drawn+1}:World)=w at hs
 let N:=ops.size
 let Ef (aB:Array Bool) (k:Nat):Bool:=aB.getD k false
 let EY (aB:Array Bool) (j:Nat):Prop:=j<s.nx\/∃k,k<N/\Ef aB k=true/\j=s.nx+k
 have key:∀ (fuel:Nat) (aB:Array Bool) (φ:Place) (a:Act) (w:World),aB.size=N->aB.count true+fuel=N->(∀k,k<N->Ef aB k=true->∀j∈bW ops k,Ef aB j=true)->(∀k,k<N->Ef aB k=true->(ac k).ok=true)->
  uh M cZ H0 w0 n cx φ (fg (cq l) ac (Ef aB) s N) (EY aB) a w->wpAnyIn (ew ro) k P .any ops Q fuel aB a w:=by
  have fin:∀ (aB:Array Bool) (φ:Place) (a:Act) (w:World),(∀k,k<N->Ef aB k=true)->(∀k,k<N->Ef aB k=true->(ac k).ok=true)->uh M cZ H0 w0 n cx φ (fg (cq l) ac (Ef aB) s N) (EY aB) a w->Q .normal a w:=by
   intro aB φ a w bI EZ hu
   have e:∀k,k<=N->fg (cq l) ac (Ef aB) s k=fg (cq l) ac (fun _=>true) s k:=by
    intro k
    induction k with
    |zero=>intro _;rfl
    |succ k ih=>intro hk;simp only[fg,bI k (by omega),ih (by omega)]
   rw[e N (Nat.le_refl _)]at hu
   obtain⟨k1,k2⟩:=jU (us':=fun id=>id<s.nx+N) hu.heap (fun id h=>by
    show id<s.nx+N
    rcases h with h|⟨k,hk,_,rfl⟩<;>omega)
   exact hQ (fun i hi=>EZ i hi (bI i hi)) φ a w ⟨k1,hu.tr.trans k2,hu.size,hu.defers.mono k2,fun i=>V.aX k2 _ _ (hu.env i)⟩
  intro fuel
  induction fuel with
  |zero=>
   intro aB φ a w ed Ik pI EZ hu
   have bI:∀k,k<N->Ef aB k=true:=by
    intro k hk
    have h1:aB.count true=aB.size:=ad
    rw[Array.count_eq_size]at h1
    have:=h1 aB[k] (Array.getElem_mem ad)
    simp only[Ef,Array.getD_eq_getD_getElem?]
    rw[Array.getElem?_eq_getElem (by omega)]
    simpa using this.symm
   refine⟨?_,fin aB φ a w bI EZ hu⟩
   rw[List.eq_nil_iff_forall_not_mem]
   intro k hk
   obtain⟨h1,o,h2,_⟩:=mem_ready.1 hk
   have hkN:k<N:=(Array.getElem?_eq_some_iff.1 h2).1
   have:=bI k hkN
   simp only[Ef,Array.getD_eq_getD_getElem?]at this h1
   rw[Array.getElem?_eq_getElem (by omega)]at this h1
   simp only[Option.getD_some]at this h1
   rw[this]at h1;cases h1
  |succ fuel ih=>
   intro aB φ a w ed Ik pI EZ hu
   refine⟨fun hr=>fin aB φ a w (pQ tl ed hr) EZ hu,fun i hi=> ?_⟩
   obtain⟨h1,o,h2,h3⟩:=mem_ready.1 hi
   have ui:i<N:=(Array.getElem?_eq_some_iff.1 h2).1
   have nm:Ef aB i=false:=by
    simp only[Ef,Array.getD_eq_getD_getElem?]at h1|-
    rw[Array.getElem?_eq_getElem (by omega)]at h1|-
    simpa using h1
   have K4:∀j∈bW ops i,Ef aB j=true:=by
    intro j hj
    simp only[bW,h2,List.mem_map,List.mem_filter]at hj
    obtain⟨e,⟨he,hb⟩,rfl⟩:=hj
    exact h3 e (Array.mem_toList_iff.1 he) hb
   have K6:AA N po (Ef aB):=fun k hk fC=>Gh _ pI k hk (pI k hk fC)
   obtain⟨ZD,ag2⟩:=agree (s:=s) CF hc K6 ui nm (Gh _ pI i ui K4)
   obtain⟨g1,g2,g3,g4⟩:=yD (vE _ _ i o sE Em)
   have dh: ¬EY aB (s.nx+i):=by
    rintro(h|⟨k,_,hk,he⟩)
    ·omega
    ·have:k=i:=ad
     subst this;rw[nm]at hk;cases hk
   have EX:∀k,Ef (aB.setIfInBounds i true) k=(Ef aB k||k==i):=by
    intro k
    simp only[Ef,Array.getD_eq_getD_getElem?]
    by_cases e:k=i
    ·subst e;simp[ed,ui]
    ·rw[Array.getElem?_setIfInBounds_ne (Ne.symm e)]
     have:(k==i)=false:=by simpa using e
     simp[this]
   have UA:=insert (s:=s) hc K6 ui nm EX
   have UB:∀k,k<N->Ef (aB.setIfInBounds i true) k=true->∀j∈bW ops k,Ef (aB.setIfInBounds i true) j=true:=by
    intro k hk fC j hj
    rw[EX]at fC|-
    by_cases e:k=i
    ·subst e;simp[K4 j hj]
    ·have:(k==i)=false:=by simpa using e
     rw[this,Bool.or_false]at fC
     simp[pI k hk fC j hj]
   have K7:(aB.setIfInBounds i true).count true+fuel=N:=by
    have db:i<aB.size:=ad
    have e1:aB.setIfInBounds i true=aB.set i true db:=by simp[Array.setIfInBounds,db]
    have e2:aB[i]=false:=by
     have:=nm
     simp only[Ef,Array.getD_eq_getD_getElem?]at this
     rw[Array.getElem?_eq_getElem db]at this
     simpa using this
    rw[e1,Array.count_set db,e2]
    simp
    omega
   have lh:(ac i).ok=true->∀aS a' w',uh M cZ H0 w0 n cx aS (xj o.dst (ac i) (fg (cq l) ac (Ef aB) s N)) (fun id=>EY aB id\/id=s.nx+i) a' w'->wpAnyIn (ew ro) k P .any ops Q fuel (aB.setIfInBounds i true) a' w':=by
    intro ZE aS a' w' xE
    refine ih _ aS a' w' (by simp[ed]) K7 UB (fun k hk fC=> ?_) ?_
    ·rw[EX]at fC
     by_cases e:k=i
     ·subst e;exact ZE
     ·have:(k==i)=false:=by simpa using e
      rw[this,Bool.or_false]at fC
      exact EZ k hk fC
    rw[UA,g2]
    obtain⟨k1,k2⟩:=jU (us':=EY (aB.setIfInBounds i true)) xE.heap (fun id h=>by
     rcases h with(h|⟨k,hk,fC,rfl⟩)|rfl
     ·exact .inl h
     ·exact .inr ⟨k,hk,by rw[EX,fC];rfl,rfl⟩
     ·exact .inr ⟨i,ui,by rw[EX];simp,rfl⟩)
    exact⟨k1,xE.tr.trans k2,xE.size,xE.defers.mono k2,fun j=>V.aX k2 _ _ (xE.env j)⟩
   have Il:∀d want,(cq l i).gd=some (d,want)->(fg (cq l) ac (Ef aB) s N).env d=(fg (cq l) ac (fun _=>true) s i).env d:=fun d want hd=>ZD d (by simp[fI,tmpsOf,hd])
   have bA:=Uz i ui
   have Im:∀x∈(cq l i).op.operands,(fg (cq l) ac (Ef aB) s N).ev x=(fg (cq l) ac (fun _=>true) s i).ev x:=fun x hx=>CB fun t ht=>ZD t (by
    subst ht
    simp only[fI,tmpsOf,List.mem_append,List.mem_filterMap]
    exact .inl (.inl ⟨.tmp t,Array.mem_toList_iff.2 hx,rfl⟩))
   have OQ:(fg (cq l) ac (Ef aB) s N).nx=(fg (cq l) ac (fun _=>true) s i).nx:=(mg N).trans (mg i).symm
   unfold wpOpIn
   simp only[h2]
   cases uY:ac i with
   |skip=>
    rw[uY]at bA lh
    have hw:=gv hu.env g4 (gw Il bA)
    simp only[hw,Bool.false_eq_true,if_false]
    refine⟨fun _ _=>trivial,lh rfl φ _ w ?_⟩
    have:=jz (v:= .cA []) (val:=undef) hu hu.heap (Trans.refl _ _ _) ⟨#[],rfl,rfl⟩ (dst:=o.dst) g3 rfl (us':=fun id=>EY aB id\/id=s.nx+i) (fun id h=> .inl h)
    exact this
   |val v Δ rd=>
    rw[uY]at bA lh
    have hw:=gv hu.env g4 (gw Il bA.1)
    simp only[hw,if_true]
    obtain⟨uf,mZ⟩:=tz Im (fun id aC=>ag2 id (by rw[uY];exact aC)) OQ bA.2
    exact CA hu dh (fun id h=> .inl Uf) g1.symm g3 mZ (lh rfl)
   |cc v ws rd=>
    rw[uY]at bA
    have hw:=gv hu.env g4 (gw Il bA.1)
    simp only[hw,if_true]
    have mZ:=CC Im (fun id aC=>ag2 id (by rw[uY];exact aC)) OQ bA.2
    refine K5 (s0:=s) (ds:=dl) (wl:=wl) (N:=N) hu (fun id h=> .inl Uf) (fun id h=> ?_) g1.symm mZ (fun t ht=> ?_) (fun id aC=> ?_) (OP i v ws rd ui uY) (mg N).symm (fun aS w' val h1 h2=>hX i v ws rd ui uY aS a w' val h1 h2)
    ·rw[mg]
     rcases h with h|⟨k,hk,_,rfl⟩<;>omega
    ·refine Gg N fun j hj e=> ?_
     have:=hdl j hj t e
     rw[ht]at this;cases this
    ·refine Rc N fun j hj hm=> ?_
     have:=ZC j hj id hm
     rw[aC]at this;cases this
   |eT=>
    exfalso
    obtain⟨j,hj,UC⟩:=Ij i ui uY
    have:=EZ j (Nat.lt_trans (tl i ui j hj) ui) (K4 j hj)
    rw[UC]at this;cases this
 refine key ops.size _ φ a w (by simp[N]) (by simp[N,Array.count_replicate]) (fun k hk fC=> ?_) (fun k hk fC=> ?_) ?_
 ·simp[Ef,Array.getD_eq_getD_getElem?,Array.getElem?_replicate]at fC
  split at fC<;>simp at fC
 ·simp[Ef,Array.getD_eq_getD_getElem?,Array.getElem?_replicate]at fC
  split at fC<;>simp at fC
 ·have e:∀k,fg (cq l) ac (Ef (Array.replicate ops.size false)) s k=s:=by
   intro k
   induction k with
   |zero=>rfl
   |succ k ih=>
    have:Ef (Array.replicate ops.size false) k=false:=by
     simp only[Ef,Array.getD_eq_getD_getElem?,Array.getElem?_replicate]
     split<;>rfl
    simp only[fg,this,ih]
    rfl
  rw[e]
  obtain⟨k1,k2⟩:=jU (us':=EY (Array.replicate ops.size false)) hs.heap (fun id h=> .inl h)
  exact⟨k1,hs.tr.trans k2,hs.size,hs.defers.mono k2,fun j=>V.aX k2 _ _ (hs.env j)⟩
end
end Go.Proofs.YtonbelhklnmjnaaGreat
namespace Go.Proofs.YtonbelhklnmjnaaGreat
section
variable {P:Program}{M:Nat->Prop}{φ cZ:Place}{H0:Hp}{w w' w0:World}{n:Nat}{s:S}{us:Nat->Prop}{a:Act}{cx:Cx}{ro:Option Nat}{k:Nat}
variable {Q:Exit->Act->World->Prop}
theorem Io{ops:Array Oper}{po:Nat->Nat->Prop}{m:Nat}{X:V->S->Prop}{K:S->Prop}
 (tl:∀k,k<ops.size->∀j∈bW ops k,j<k)
 (Gh:∀E:Nat->Bool,(∀k,k<ops.size->E k=true->∀j∈bW ops k,E j=true)->∀k,k<ops.size->(∀j∈bW ops k,E j=true)->∀j,po k j->E j=true)
 (Gi:∀k,m<=k->k<ops.size->∀j,j<k->po k j)
 (hK:∀s φ a w,K s->cG M cZ H0 w0 n cx φ s a w->Q .normal a w)
 (hX:∀v s' aS a' w' val,X v s'->cG M cZ H0 w0 n cx aS s' a' w'->V.den (az M aS s'.H) aS s'.H w' v val->Q (.panic [{v:=val,recovered:=false}]) a' w'):
 ∀ (d t:Nat) (s:S) (φ:Place) (aB:Array Bool) (a:Act) (w:World),t+d=ops.size->aB.size=ops.size->(∀k,k<ops.size->aB.getD k false=decide (k<t))->m<=t->
   cG M cZ H0 w0 n cx φ s a w->Ah P n ops X K (ops.toList.drop t) s->wpAnyIn (ew ro) k P .any ops Q d aB a w:=by
 intro d
 induction d with
 |zero=>
  intro t s φ aB a w ht ed hl JN hs h
  have e:t=ops.size:=ad
  subst e
  refine⟨?_, ?_⟩
  ·rw[List.eq_nil_iff_forall_not_mem]
   intro j hj
   obtain⟨h1,o,h2,_⟩:=mem_ready.1 hj
   have hjN:j<ops.size:=(Array.getElem?_eq_some_iff.1 h2).1
   have:=hl j hjN
   simp only[Array.getD_eq_getD_getElem?]at this h1
   rw[Array.getElem?_eq_getElem (by omega)]at this h1
   simp only[Option.getD_some]at this h1
   rw[h1]at this
   simp[hjN]at this
  ·rw[List.drop_eq_nil_of_le (by simp)]at h
   exact hK s φ a w h hs
 |succ d ih=>
  intro t s φ aB a w ht ed hl JN hs h
  have htN:t<ops.size:=ad
  refine⟨fun hr=> ?_,fun i hi=> ?_⟩
  ·have:=pQ tl ed hr t htN
   rw[hl t htN]at this
   simp at this
  ·obtain⟨h1,o,h2,h3⟩:=mem_ready.1 hi
   have ui:i<ops.size:=(Array.getElem?_eq_some_iff.1 h2).1
   have nm:aB.getD i false=false:=by
    simp only[Array.getD_eq_getD_getElem?]at h1|-
    rw[Array.getElem?_eq_getElem (by omega)]at h1|-
    simpa using h1
   have ZF:t<=i:=by
    have:=hl i ui
    rw[nm]at this
    have:=of_decide_eq_false this.symm
    omega
   have K4:∀j∈bW ops i,aB.getD j false=true:=by
    intro j hj
    simp only[bW,h2,List.mem_map,List.mem_filter]at hj
    obtain⟨e,⟨he,hb⟩,rfl⟩:=hj
    exact h3 e (Array.mem_toList_iff.1 he) hb
   have pI:∀k,k<ops.size->aB.getD k false=true->∀j∈bW ops k,aB.getD j false=true:=by
    intro k hk fC j hj
    have Za:=tl k hk j hj
    rw[hl k hk]at fC
    rw[hl j (by omega)]
    have:=of_decide_eq_true fC
    exact decide_eq_true ad
   have hie:i=t:=by
    rcases Nat.eq_or_lt_of_le ZF with e|e
    ·exact e.symm
    ·have:=Gh (fun k=>aB.getD k false) pI i ui K4 t (Gi i ad ui t e)
     rw[hl t htN]at this
     simp at this
   subst hie
   have CG:ops.toList.drop i=o::ops.toList.drop (i+1):=by
    have Uq:i<ops.toList.length:=by simpa using ui
    rw[List.drop_eq_getElem_cons Uq]
    have:ops.toList[i]=o:=by
     have:=(Array.getElem?_eq_some_iff.1 h2).2
     simpa using this
    rw[this]
   rw[CG]at h
   obtain⟨g1,g2⟩:=qO hs h
   have jy:∀k,k<ops.size->(aB.setIfInBounds i true).getD k false=decide (k<i+1):=by
    intro k hk
    simp only[Array.getD_eq_getD_getElem?]
    by_cases e:k=i
    ·subst e;simp[ed,ui]
    ·rw[Array.getElem?_setIfInBounds_ne (Ne.symm e)]
     have:=hl k hk
     simp only[Array.getD_eq_getD_getElem?]at this
     rw[this]
     exact decide_eq_decide.2 ad
   have lh:∀s' aS a' w',Ah P n ops X K (ops.toList.drop (i+1)) s'->cG M cZ H0 w0 n cx aS s' a' w'->wpAnyIn (ew ro) k P .any ops Q d (aB.setIfInBounds i true) a' w':=
    fun s' aS a' w' hk iS=>ih (i+1) s' aS _ a' w' ad (by simp[ed]) jy ad iS hk
   unfold wpOpIn
   simp only[h2]
   split
   ·rename_i hw
    exact yl hs (g1 hw) (fun s' aS a' w' hk iS=>lh s' aS a' w' hk iS) (fun v s' aS w' val hx iS hd=>hX v s' aS a w' val hx iS hd)
   ·rename_i hw
    obtain⟨dm,h3⟩:=g2 (by simpa using hw)
    exact⟨fun _ _=>trivial,lh _ _ _ _ h3 (Cm hs dm)⟩
theorem E0(bM:P.follows .mixedOrders=true){ops:Array Oper}{l:List cI}{id:Nat}(sE:lK n ops ops.toList=some l)(tl:∀k,k<ops.size->∀j∈bW ops k,j<k){ac:Nat->fO}{m:Nat}(hm:m<=ops.size){X:V->S->Prop}{K:S->Prop}
 (hs:cG M cZ H0 w0 n cx φ s a w) (Uz:∀i,i<m->Rb P (fg (cq l) ac (fun _=>true) s i) (s.nx+i) (cq l i) (ac i))
 (ZG:∀i,i<m->(ac i).ok=true)
 {po:Nat->Nat->Prop} (Gh:∀E:Nat->Bool,(∀k,k<ops.size->E k=true->∀j∈bW ops k,E j=true)->∀k,k<ops.size->(∀j∈bW ops k,E j=true)->∀j,po k j->E j=true) (CF:∀k,k<ops.size->∀j,po k j->j<k)
 (hc:∀i j,i<j->j<m-> ¬po j i->Compat (cq l) ac (fun i=>xJ (ac i)) i j)
 (Gi:∀k,m<=k->k<ops.size->∀j,j<k->po k j)
 (cO:Ah P n ops X K (ops.toList.drop m) ⟨(fg (cq l) ac (fun _=>true) s m).env,(fg (cq l) ac (fun _=>true) s m).o,s.nx+m⟩)
 (hK:∀s φ a w,K s->cG M cZ H0 w0 n cx φ s a w->Q .normal a w)
 (hX:∀v s' aS a' w' val,X v s'->cG M cZ H0 w0 n cx aS s' a' w'->V.den (az M aS s'.H) aS s'.H w' v val->Q (.panic [{v:=val,recovered:=false}]) a' w'):
 (Code.region id ops true).wpIn (ew ro) k P Q a w:=by
 refine wpIn_region_any bM ?_
 have hs:=CD hs
 generalize ({w with drawn:=w.drawn+1}:World)=w at hs
 let N:=m
 let Ef (aB:Array Bool) (k:Nat):Bool:=aB.getD k false
 let EY (aB:Array Bool) (j:Nat):Prop:=j<s.nx\/∃k,k<N/\Ef aB k=true/\j=s.nx+k
 have key:∀ (fuel:Nat) (aB:Array Bool) (φ:Place) (a:Act) (w:World),aB.size=ops.size->aB.count true+fuel=ops.size->(∀k,k<ops.size->Ef aB k=true->∀j∈bW ops k,Ef aB j=true)->(∀k,k<ops.size->Ef aB k=true->k<m)->
  uh M cZ H0 w0 n cx φ (fg (cq l) ac (Ef aB) s N) (EY aB) a w->wpAnyIn (ew ro) k P .any ops Q fuel aB a w:=by
  have fin:∀ (fuel:Nat) (aB:Array Bool) (φ:Place) (a:Act) (w:World),aB.size=ops.size->aB.count true+fuel=ops.size->(∀k,k<ops.size->Ef aB k=true->k<m)->(∀k,k<N->Ef aB k=true)->uh M cZ H0 w0 n cx φ (fg (cq l) ac (Ef aB) s N) (EY aB) a w->wpAnyIn (ew ro) k P .any ops Q fuel aB a w:=by
   intro fuel aB φ a w ed Ik db bI hu
   have e:∀k,k<=N->fg (cq l) ac (Ef aB) s k=fg (cq l) ac (fun _=>true) s k:=by
    intro k
    induction k with
    |zero=>intro _;rfl
    |succ k ih=>intro hk;simp only[fg,bI k (by omega),ih (by omega)]
   rw[e N (Nat.le_refl _)]at hu
   obtain⟨k1,k2⟩:=jU (us':=fun id=>id<s.nx+N) hu.heap (fun id h=>by
    show id<s.nx+N
    rcases h with h|⟨k,hk,_,rfl⟩<;>omega)
   have hlv:∀k,k<ops.size->aB.getD k false=decide (k<m):=by
    intro k hk
    by_cases h:k<m
    ·rw[decide_eq_true h];exact bI k h
    ·rw[decide_eq_false h]
     cases hb:aB.getD k false with
     |false=>rfl
     |true=>exact absurd (db k hk hb) h
   have hcm:aB.count true=m:=by
    have e1:aB=Array.ofFn (n:=ops.size) fun k=>decide (k.1<m):=by
     apply Array.ext
     ·simp[ed]
     ·intro k h1 h2
      have:=hlv k ad
      simp only[Array.getD_eq_getD_getElem?]at this
      rw[Array.getElem?_eq_getElem h1]at this
      simpa using this
    have e2:aB.toList=List.replicate m true++List.replicate (ops.size - m) false:=by
     apply List.ext_getElem?
     intro k
     by_cases hk:k<ops.size
     ·have h1:aB.toList[k]? =some (decide (k<m)):=by
       have:=hlv k hk
       simp only[Array.getD_eq_getD_getElem?]at this
       rw[Array.getElem?_eq_getElem (by omega)]at this
       simp only[Option.getD_some]at this
       rw[Array.getElem?_toList,Array.getElem?_eq_getElem (by omega),this]
      rw[h1]
      by_cases h:k<m
      ·rw[List.getElem?_append_left (by simpa using h)]
       simp[h]
      ·rw[List.getElem?_append_right (by simpa using(by omega:m<=k))]
       rw[List.length_replicate,List.getElem?_replicate,if_pos (by omega),decide_eq_false h]
     ·rw[List.getElem?_eq_none (by simp[ed];omega),List.getElem?_eq_none (by simp;omega)]
    rw[<- Array.count_toList,e2,List.count_append,List.count_replicate_self,List.count_replicate]
    simp
   exact Io tl Gh Gi hK hX fuel m ⟨(fg (cq l) ac (fun _=>true) s m).env,(fg (cq l) ac (fun _=>true) s m).o,s.nx+m⟩ φ aB a w ad ed hlv (Nat.le_refl _) ⟨k1,hu.tr.trans k2,hu.size,hu.defers.mono k2,fun i=>V.aX k2 _ _ (hu.env i)⟩ cO
  intro fuel
  induction fuel with
  |zero=>
   intro aB φ a w ed Ik pI db hu
   have bI:∀k,k<ops.size->Ef aB k=true:=by
    intro k hk
    have h1:aB.count true=aB.size:=ad
    rw[Array.count_eq_size]at h1
    have:=h1 aB[k] (Array.getElem_mem ad)
    simp only[Ef,Array.getD_eq_getD_getElem?]
    rw[Array.getElem?_eq_getElem (by omega)]
    simpa using this.symm
   exact fin 0 aB φ a w ed Ik db (fun k hk=>bI k ad) hu
  |succ fuel ih=>
   intro aB φ a w ed Ik pI db hu
   by_cases Re:∀k,k<m->Ef aB k=true
   ·exact fin (fuel+1) aB φ a w ed Ik db Re hu
   have hex:∃j,j<m/\Ef aB j=false:=by
    apply Classical.byContradiction
    intro xz
    refine Re fun k hk=> ?_
    cases hb:Ef aB k with
    |true=>rfl
    |false=>exact absurd ⟨k,hk,hb⟩ xz
   obtain⟨j0,hj0,ZH⟩:=hex
   refine⟨fun hr=> ?_,fun i hi=> ?_⟩
   ·have:=pQ tl ed hr j0 ad
    rw[show aB.getD j0 false=false from ZH]at this
    cases this
   obtain⟨h1,o,h2,h3⟩:=mem_ready.1 hi
   have hiS:i<ops.size:=(Array.getElem?_eq_some_iff.1 h2).1
   have nm:Ef aB i=false:=by
    simp only[Ef,Array.getD_eq_getD_getElem?]at h1|-
    rw[Array.getElem?_eq_getElem (by omega)]at h1|-
    simpa using h1
   have K4:∀j∈bW ops i,Ef aB j=true:=by
    intro j hj
    simp only[bW,h2,List.mem_map,List.mem_filter]at hj
    obtain⟨e,⟨he,hb⟩,rfl⟩:=hj
    exact h3 e (Array.mem_toList_iff.1 he) hb
   have ui:i<N:=by
    apply Classical.byContradiction
    intro Bv
    have Bv:m<=i:=Nat.le_of_not_lt Bv
    have:=Gh _ pI i hiS K4 j0 (Gi i Bv hiS j0 ad)
    rw[ZH]at this;cases this
   have K6:AA N po (Ef aB):=fun k hk fC=>Gh _ pI k ad (pI k ad fC)
   obtain⟨ZD,ag2⟩:=agree (s:=s) (n:=N) (fun k hk=>CF k ad) hc K6 ui nm (Gh _ pI i ad K4)
   obtain⟨g1,g2,g3,g4⟩:=yD (vE _ _ i o sE Em)
   have dh: ¬EY aB (s.nx+i):=by
    rintro(h|⟨k,_,hk,he⟩)
    ·omega
    ·have:k=i:=ad
     subst this;rw[nm]at hk;cases hk
   have EX:∀k,Ef (aB.setIfInBounds i true) k=(Ef aB k||k==i):=by
    intro k
    simp only[Ef,Array.getD_eq_getD_getElem?]
    by_cases e:k=i
    ·subst e;simp[ed,hiS]
    ·rw[Array.getElem?_setIfInBounds_ne (Ne.symm e)]
     have:(k==i)=false:=by simpa using e
     simp[this]
   have UA:=insert (s:=s) hc K6 ui nm EX
   have UB:∀k,k<ops.size->Ef (aB.setIfInBounds i true) k=true->∀j∈bW ops k,Ef (aB.setIfInBounds i true) j=true:=by
    intro k hk fC j hj
    rw[EX]at fC|-
    by_cases e:k=i
    ·subst e;simp[K4 j hj]
    ·have:(k==i)=false:=by simpa using e
     rw[this,Bool.or_false]at fC
     simp[pI k hk fC j hj]
   have K7:(aB.setIfInBounds i true).count true+fuel=ops.size:=by
    have db:i<aB.size:=ad
    have e1:aB.setIfInBounds i true=aB.set i true db:=by simp[Array.setIfInBounds,db]
    have e2:aB[i]=false:=by
     have:=nm
     simp only[Ef,Array.getD_eq_getD_getElem?]at this
     rw[Array.getElem?_eq_getElem db]at this
     simpa using this
    rw[e1,Array.count_set db,e2]
    simp
    omega
   have lh:(ac i).ok=true->∀aS a' w',uh M cZ H0 w0 n cx aS (xj o.dst (ac i) (fg (cq l) ac (Ef aB) s N)) (fun id=>EY aB id\/id=s.nx+i) a' w'->wpAnyIn (ew ro) k P .any ops Q fuel (aB.setIfInBounds i true) a' w':=by
    intro ZE aS a' w' xE
    refine ih _ aS a' w' (by simp[ed]) K7 UB (fun k hk fC=> ?_) ?_
    ·rw[EX]at fC
     by_cases e:k=i
     ·subst e;exact ui
     ·have:(k==i)=false:=by simpa using e
      rw[this,Bool.or_false]at fC
      exact db k hk fC
    rw[UA,g2]
    obtain⟨k1,k2⟩:=jU (us':=EY (aB.setIfInBounds i true)) xE.heap (fun id h=>by
     rcases h with(h|⟨k,hk,fC,rfl⟩)|rfl
     ·exact .inl h
     ·exact .inr ⟨k,hk,by rw[EX,fC];rfl,rfl⟩
     ·exact .inr ⟨i,ui,by rw[EX];simp,rfl⟩)
    exact⟨k1,xE.tr.trans k2,xE.size,xE.defers.mono k2,fun j=>V.aX k2 _ _ (xE.env j)⟩
   have Il:∀d want,(cq l i).gd=some (d,want)->(fg (cq l) ac (Ef aB) s N).env d=(fg (cq l) ac (fun _=>true) s i).env d:=fun d want hd=>ZD d (by simp[fI,tmpsOf,hd])
   have bA:=Uz i ui
   have Im:∀x∈(cq l i).op.operands,(fg (cq l) ac (Ef aB) s N).ev x=(fg (cq l) ac (fun _=>true) s i).ev x:=fun x hx=>CB fun t ht=>ZD t (by
    subst ht
    simp only[fI,tmpsOf,List.mem_append,List.mem_filterMap]
    exact .inl (.inl ⟨.tmp t,Array.mem_toList_iff.2 hx,rfl⟩))
   have OQ:(fg (cq l) ac (Ef aB) s N).nx=(fg (cq l) ac (fun _=>true) s i).nx:=(mg N).trans (mg i).symm
   unfold wpOpIn
   simp only[h2]
   cases uY:ac i with
   |skip=>
    rw[uY]at bA lh
    have hw:=gv hu.env g4 (gw Il bA)
    simp only[hw,Bool.false_eq_true,if_false]
    refine⟨fun _ _=>trivial,lh rfl φ _ w ?_⟩
    have:=jz (v:= .cA []) (val:=undef) hu hu.heap (Trans.refl _ _ _) ⟨#[],rfl,rfl⟩ (dst:=o.dst) g3 rfl (us':=fun id=>EY aB id\/id=s.nx+i) (fun id h=> .inl h)
    exact this
   |val v Δ rd=>
    rw[uY]at bA lh
    have hw:=gv hu.env g4 (gw Il bA.1)
    simp only[hw,if_true]
    obtain⟨uf,mZ⟩:=tz Im (fun id aC=>ag2 id (by rw[uY];exact aC)) OQ bA.2
    exact CA hu dh (fun id h=> .inl Uf) g1.symm g3 mZ (lh rfl)
   |cc v ws rd=>
    have:=ZG i ui
    rw[uY]at this;cases this
   |eT=>
    have:=ZG i ui
    rw[uY]at this;cases this
 refine key ops.size _ φ a w au (by simp[Array.count_replicate]) (fun k hk fC=> ?_) (fun k hk fC=> ?_) ?_
 ·simp[Ef,Array.getD_eq_getD_getElem?,Array.getElem?_replicate]at fC
  split at fC<;>simp at fC
 ·simp[Ef,Array.getD_eq_getD_getElem?,Array.getElem?_replicate]at fC
  split at fC<;>simp at fC
 ·have e:∀k,fg (cq l) ac (Ef (Array.replicate ops.size false)) s k=s:=by
   intro k
   induction k with
   |zero=>rfl
   |succ k ih=>
    have:Ef (Array.replicate ops.size false) k=false:=by
     simp only[Ef,Array.getD_eq_getD_getElem?,Array.getElem?_replicate]
     split<;>rfl
    simp only[fg,this,ih]
    rfl
  rw[e]
  obtain⟨k1,k2⟩:=jU (us':=EY (Array.replicate ops.size false)) hs.heap (fun id h=> .inl h)
  exact⟨k1,hs.tr.trans k2,hs.size,hs.defers.mono k2,fun j=>V.aX k2 _ _ (hs.env j)⟩
end
end Go.Proofs.YtonbelhklnmjnaaGreat
