/-
  A PART OF THE PROOF. Conditions: none.
-/
import Derived.OrdersIn
import Derived.Test.YtnkamdiiakdkgaaGreatEl7
set_option linter.unusedSimpArgs false
set_option linter.unusedVariables false
namespace Go.Proofs.YtnkamdiiakdkgaaGreat
section
def ab.refs:ab->List Nat
 | .row cs=>V.aE cs
 | .loop _ _ env _ _ _ _ _=>V.aE env
 |_=>[]
def xE(R:List Nat)(o:Nat->ab):Nat->ab:=fun id=>if R.contains id=true then o id else .no
def xF(P:Program)(g:FuncId)(args:List V)(rd:List Nat)(o:Nat->ab)(out:R)(Δ:List (Nat×ab)):Prop:=
 Enters P g/\∀ (o':Nat->ab) (us:Nat->Prop) (M:Nat->Prop) (φ:Place) (w:World) (vals:Array Value),(∀id∈rd,o' id=o id/\us id)->ay M φ ⟨o',us⟩ w->V.aB (ao M φ ⟨o',us⟩) φ ⟨o',us⟩ w args vals.toList->
  Calls P g vals w fun e w'=>∃aG,ay M aG ⟨put o' Δ,us⟩ w'/\Trans φ ⟨o',us⟩ w aG ⟨put o' Δ,us⟩ w'/\out.is (ao M aG ⟨put o' Δ,us⟩) w' e
def Ar(P:Program)(g:FuncId)(args:List V)(rd:List Nat)(o:Nat->ab)(fr:Nat)(v:V)(Δ:List (Nat×ab)):Prop:=
 Enters P g/\∀ (o':Nat->ab) (us:Nat->Prop) (M:Nat->Prop) (φ:Place) (w:World) (vals:Array Value),(∀id∈rd,o' id=o id/\us id)-> ¬us fr->ay M φ ⟨o',us⟩ w->V.aB (ao M φ ⟨o',us⟩) φ ⟨o',us⟩ w args vals.toList->
  Calls P g vals w fun e w'=>∃aG,ay M aG ⟨put o' Δ,fun id=>us id\/id=fr⟩ w'/\Trans φ ⟨o',us⟩ w aG ⟨put o' Δ,fun id=>us id\/id=fr⟩ w'/\∃val,e= .returned val/\V.den (ao M aG ⟨put o' Δ,fun id=>us id\/id=fr⟩) aG ⟨put o' Δ,fun id=>us id\/id=fr⟩ w' v val
mutual
theorem V.nz {B B':Nat->Prop}{φ aG:Place}{H H':Hp}{w:World}(hB:∀b, ¬B b-> ¬B' b):∀ (v:V) (val:Value),(∀id∈v.refs,H'.o id=H.o id/\aG id=φ id/\H'.us id)->V.den B φ H w v val->V.den B' aG H' w v val
 | .d x,val,_,h=>D.aO (w:=w) (w':=w) (fun b _ hn=>⟨rfl,hB b hn⟩) x val h
 | .aZ,_,_,h=>h
 | .aa,_,_,_=>trivial
 | .ft,_,_,h=>h
 | .rK es,val,_,h=>⟨D.aO (w:=w) (w':=w) (fun b _ hn=>⟨rfl,hB b hn⟩) (.sl es) val h.1,h.2⟩
 | .agg cs,val,hr,h=>by
   obtain⟨a,rfl,h1,h2⟩:=h
   exact⟨a,rfl,V.gv hB cs _ x5 h1,h2⟩
 | .bW cs,val,hr,h=>by
   obtain⟨a,rfl,h1⟩:=h
   exact⟨a,rfl,V.gv hB cs _ x5 h1⟩
 | .ptr id off,val,hr,h=>by
   exact US
 | .osl id ep,val,hr,h=>by
   obtain⟨a,b,c⟩:=hr id BN
   obtain⟨h0,h1,h2⟩:=h
   refine⟨h0,c,fun e he=> ?_⟩
   rw[a]at he
   obtain⟨x,y⟩:=h2 e he
   exact⟨x,fun heq=>(y heq).trans b.symm⟩
 | .pe id ep i sz off,val,hr,h=>by
   obtain⟨a,b,c⟩:=hr id BN
   obtain⟨h0,h1,h2⟩:=h
   refine⟨h0,c,fun e he=> ?_⟩
   rw[a]at he
   obtain⟨x,y⟩:=h2 e he
   exact R0
 | .pp cs off,val,_,h=>by
   obtain⟨a,ev,h1,h2,h3,h5,h4⟩:=h
   exact aaj
 | .func fn first cap,val,hr,h=>by
   obtain⟨f,c,rfl,h1,h2⟩:=h
   exact⟨f,c,rfl,V.gv hB first _ (fun id aq=>hr id (by simp[V.refs,aq])) h1,V.gv hB cap _ (fun id aq=>hr id (by simp[V.refs,aq])) h2⟩
 | .iface t x,val,hr,h=>by
   obtain⟨u,rfl,h⟩:=h
   exact⟨u,rfl,V.nz hB x u x5 h⟩
 | .x9 id off n,val,hr,h=>by
   exact US
 | .mp id,val,hr,h=>by
   obtain⟨a,b,c⟩:=hr id BN
   obtain⟨h0,h1,h2⟩:=h
   refine⟨h0,c,fun bG=> ?_⟩
   rw[a]at bG
   exact(h2 bG).trans b.symm
 | .ju id,val,hr,h=>by
   exact US
theorem V.gv {B B':Nat->Prop}{φ aG:Place}{H H':Hp}{w:World}(hB:∀b, ¬B b-> ¬B' b):∀ (vs:List V) (vals:List Value),(∀id∈V.aE vs,H'.o id=H.o id/\aG id=φ id/\H'.us id)->V.aB B φ H w vs vals->V.aB B' aG H' w vs vals
 |[],_,_,h=>h
 |v::vs,_,hr,h=>by
  obtain⟨u,us,rfl,h1,h2⟩:=h
  exact⟨u,us,rfl,V.nz hB v u (fun id aq=>hr id (by simp[V.aE,aq])) h1,V.gv hB vs us (fun id aq=>hr id (by simp[V.aE,aq])) h2⟩
end
theorem Jj{env:List V}{i id:Nat}(h:id∈(aU env i).refs):id∈V.aE env:=by
 unfold aU at h
 induction env generalizing i with
 |nil=>simp[V.refs]at h
 |cons v env ih=>
  cases i with
  |zero=>simp only[List.getD_cons_zero]at h;simp[V.aE,h]
  |succ i=>simp only[List.getD_cons_succ]at h;simp[V.aE,ih h]
theorem aP.refs {M M':Nat->Prop}{φ aG:Place}{H H':Hp}{w:World}{id:Nat}(hB:∀b, ¬ao M φ H b-> ¬ao M' aG H' b)(ho:H'.o id=H.o id)(eu:aG id=φ id)
 (hr:∀j∈(H.o id).refs,H'.o j=H.o j/\aG j=φ j/\H'.us j) (h:aP M φ H w id):aP M' aG H' w id:=by
 have hd:∀b,db w b-> ¬ao M φ H b->w.heap[b]? =w.heap[b]? /\ ¬ao M' aG H' b:=fun b _ hn=>⟨rfl,hB b hn⟩
 unfold aP at*
 rw[ho]
 cases hx:H.o id with
 |no=>trivial
 |row cs=>
  simp only[hx]at h|-
  obtain⟨b,dT,ty,h1,h2,h3,h4⟩:=h
  exact⟨b,dT,ty,eu.trans h1,h2,V.gv hB cs _ (fun j hj=>hr j (by rw[hx];exact hj)) h3,h4⟩
 |arr ep ty sz es=>
  simp only[hx]at h|-
  obtain⟨h0,xs,h1,evs,h2,h3,h4⟩:=h
  exact⟨h0,xs,by rw[eu];exact h1,evs,h2,h3,D.aQ hd es evs h4⟩
 |rV ep es=>
  simp only[hx]at h|-
  rw[eu]
  exact D.aO hd (.sl es) _ h
 |map kt vt l=>
  simp only[hx]at h|-
  obtain⟨b,es,clock,h1,h2,h4,h3⟩:=h
  exact⟨b,es,clock,eu.trans h1,h2,h4,aL.mono hd l _ h3⟩
 |hZ l=>
  simp only[hx]at h|-
  rw[eu]
  exact D.aO hd (.mp _ _) _ h
 |pb l last=>
  simp only[hx]at h|-
  obtain⟨b,h1,h2⟩:=h
  exact⟨b,eu.trans h1,h2.mono hd rfl⟩
 |zQ s pos=>
  simp only[hx]at h|-
  obtain⟨b,h1,h2⟩:=h
  exact⟨b,eu.trans h1,h2⟩
 |loop nf n env ps iZ eI st IK=>
  simp only[hx]at h|-
  obtain⟨b,r,h1,h2,h0,h3,h4,h5,h6,h7,h8,h9⟩:=h
  exact⟨b,r,eu.trans h1,h2,h0,h3,h4,h5,h6,h7,h8,fun i=>V.nz hB _ _ (fun j hj=>hr j (by rw[hx];exact Jj hj)) (h9 i)⟩
section
variable {P:Program}
theorem Fo{o o':Nat->ab}{Δ:List (Nat×ab)}{id:Nat}(h:o id=o' id):put o Δ id=put o' Δ id:=G3 h
where G3 {o o':Nat->ab}:∀ {Δ:List (Nat×ab)} {id:Nat},o id=o' id->put o Δ id=put o' Δ id
 |[],_,h=>h
 |x::Δ,id,h=>by
  simp only[put,List.foldl_cons]
  refine G3 (Δ:=Δ) (o:=ax o x.1 x.2) (o':=ax o' x.1 x.2) ?_
  simp only[aK]
  split
  ·rfl
  ·exact h
theorem As{o:Nat->ab}:∀ {Δ:List (Nat×ab)} {id:Nat},(∀x∈Δ,x.1≠id)->put o Δ id=o id
 |[],_,_=>rfl
 |x::Δ,id,h=>by
  have:=As (o:=ax o x.1 x.2) (Δ:=Δ) (id:=id) (fun y hy=>h y kD)
  simp only[put,List.foldl_cons]at this|-
  rw[this];simp[Ne.symm (h x (by simp))]
theorem xF.jd {g:FuncId}{args:List V}{rd:List Nat}{o:Nat->ab}{nx:Nat}{out:R}{Δ:List (Nat×ab)}(vw:∀id∈rd,id<nx)(dP:∀id∈V.aE args,id∈rd)(mX:∀id∈rd,∀j∈(o id).refs,j∈rd)(YP:∀x∈Δ,x.1∈rd)(Vw:∀x∈Δ,∀j∈x.2.refs,j∈rd)
 (h:cH P g args (xE rd o) nx
  (fun v o1 _=>(∀id∈rd,o1 id=put o Δ id)/\∃vs rs,v=(match vs with|[v]=>v|vs=> .bW vs)/\b7 o1 vs=some rs/\out= .ret rs/\∀id∈V.bg vs,id∉rd)
  (fun v o1 _=>(∀id∈rd,o1 id=put o Δ id)/\∃x,dB o1 v=some x/\out= .bE x/\∀id∈v.ids,id∉rd)):xF P g args rd o out Δ:=by
 refine⟨h.1,fun o' us M φ w vals ho hH hd=> ?_⟩
 let M1:Nat->Prop:=fun b=>M b\/∃id,id∉rd/\(o' id).live=true/\dx (φ id)=some b
 let HR:Hp:=hp (xE rd o) nx
 have vE:∀id,id∈rd->xE rd o id=o' id:=fun id aq=>by simp[xE,aq,(ho id aq).1]
 have tx:∀id,id∉rd->xE rd o id= .no:=fun id aq=>by simp[xE,aq]
 have hB:∀b,ao M1 φ HR b↔ao M φ ⟨o',us⟩ b:=by
  intro b
  constructor
  ·rintro((h|⟨id,h1,h2,h3⟩)|⟨id,h1,h2⟩)
   ·exact .inl h
   ·exact .inr ⟨id,h2,h3⟩
   ·by_cases aq:id∈rd
    ·exact .inr ⟨id,by show(o' id).live=true;rw[<- vE id aq];exact h1,h2⟩
    ·have:HR.o id= .no:=tx id aq
     rw[this]at h1;cases h1
  ·rintro(h|⟨id,h1,h2⟩)
   ·exact .inl (.inl h)
   ·by_cases aq:id∈rd
    ·exact .inr ⟨id,by show(xE rd o id).live=true;rw[vE id aq];exact h1,h2⟩
    ·exact .inl (.inr ⟨id,aq,h1,h2⟩)
 have jb:∀id∈rd,HR.o id=o' id/\φ id=φ id/\HR.us id:=fun id aq=>⟨vE id aq,rfl,vw id aq⟩
 have hHR:ay M1 φ HR w:=by
  refine⟨fun id=> ?_,fun id hn=> ?_,fun i j b hi hj bi bj=> ?_,fun b hb=> ?_,fun b hb=> ?_⟩
  ·by_cases aq:id∈rd
   ·refine aP.refs (H:=⟨o',us⟩) (M:=M) (φ:=φ) (fun b hn hb=>hn ((hB b).1 hb)) (vE id aq) rfl (fun j hj=>jb j ?_) (hH.ok id)
    have:o' id=o id:=(ho id aq).1
    exact mX id aq j (by rw[<- this];exact hj)
   ·unfold aP
    rw[show HR.o id= .no from tx id aq];trivial
  ·exact tx id fun aq=>hn (vw id aq)
  ·have live:∀i,(HR.o i).live=true->i∈rd/\(o' i).live=true:=fun i hi=>by
    by_cases aq:i∈rd
    ·exact⟨aq,by rw[<- vE i aq];exact hi⟩
    ·rw[show HR.o i= .no from tx i aq]at hi;cases hi
   exact hH.apart i j b (live i hi).2 (live j hj).2 bi bj
  ·obtain⟨id,h1,h2⟩:=hb
   have aq:id∈rd:=by
    by_cases aq:id∈rd
    ·exact aq
    ·rw[show HR.o id= .no from tx id aq]at h1;cases h1
   rw[show HR.o id=o' id from vE id aq]at h1
   obtain⟨k1,k2⟩:=hH.ours b ⟨id,h1,h2⟩
   refine⟨?_,k2⟩
   rintro(hM|⟨j,j1,j2,j3⟩)
   ·exact k1 hM
   ·exact j1 (hH.apart j id b j2 h1 j3 h2 ▸ aq)
  ·rcases hb with hb|⟨id,h1,h2,h3⟩
   ·exact hH.BB b hb
   ·exact(hH.ours b ⟨id,h2,h3⟩).2
 have hdR:V.aB (ao M1 φ HR) φ HR w args vals.toList:=V.gv (H:=⟨o',us⟩) (fun b hn hb=>hn ((hB b).1 hb)) _ _ (fun id aq=>jb id (dP id aq)) hd
 refine(h.2 M1 φ w vals hHR hdR).mono ?_
 rintro e w' ⟨iW,o1,BE,v,k1,k2,k3⟩
 have main:(∀id∈rd,o1 id=put o Δ id)->∃aG,ay M aG ⟨put o' Δ,us⟩ w'/\Trans φ ⟨o',us⟩ w aG ⟨put o' Δ,us⟩ w'/\∀b,ao M aG ⟨put o' Δ,us⟩ b->M1 b\/∃id∈rd,(o1 id).live=true/\dx (iW id)=some b:=by
  intro xf
  have GV:∀id∈rd,put o' Δ id=o1 id:=fun id aq=>(Fo (ho id aq).1).trans (xf id aq).symm
  have GU:∀id,id∉rd->put o' Δ id=o' id:=fun id aq=>As fun x hx e=>aq (e ▸ YP x hx)
  let Jc:Place:=fun id=>if id∈rd then iW id else φ id
  have Au:∀id∈rd,Jc id=iW id:=fun id aq=>if_pos aq
  have CH:∀id,id∉rd->Jc id=φ id:=fun id aq=>if_neg aq
  let H2:Hp:=⟨put o' Δ,us⟩
  have cN:∀b,cE Jc H2 b->(∃id∈rd,(o1 id).live=true/\dx (iW id)=some b)\/∃id,id∉rd/\(o' id).live=true/\dx (φ id)=some b:=by
   rintro b ⟨id,h1,h2⟩
   by_cases aq:id∈rd
   ·exact .inl ⟨id,aq,by rw[<- GV id aq];exact h1,by rw[<- Au id aq];exact h2⟩
   ·exact .inr ⟨id,aq,by rw[<- GU id aq];exact h1,by rw[<- CH id aq];exact h2⟩
  have hB2:∀b,ao M Jc H2 b->ao M1 iW (hp o1 BE) b:=by
   rintro b (hb|hb)
   ·exact .inl (.inl hb)
   ·rcases cN b hb with⟨id,h1,h2,h3⟩|⟨id,h1,h2,h3⟩
    ·exact .inr ⟨id,h2,h3⟩
    ·exact .inl (.inr ⟨id,h1,h2,h3⟩)
  have abF:dU φ ⟨o',us⟩ Jc H2:=by
   refine⟨fun id h=>h,fun id hu hr=> ?_,fun id e' hu he=> ?_⟩
   ·by_cases aq:id∈rd
    ·rw[show H2.o id=o1 id from GV id aq]at hr
     obtain⟨a,b⟩:=k2.rel.row id (vw id aq) hr
     rw[show HR.o id=o' id from vE id aq]at a
     exact⟨a,(Au id aq).trans b⟩
    ·rw[show H2.o id=o' id from GU id aq]at hr
     exact⟨hr,CH id aq⟩
   ·by_cases aq:id∈rd
    ·rw[show H2.o id=o1 id from GV id aq]at he
     obtain⟨e0,a,b,c⟩:=k2.rel.ep id e' (vw id aq) he
     rw[show HR.o id=o' id from vE id aq]at a
     exact⟨e0,a,b,fun heq=>(Au id aq).trans (c heq)⟩
    ·rw[show H2.o id=o' id from GU id aq]at he
     exact⟨e',he,Nat.le_refl _,fun _=>CH id aq⟩
  have yi:∀b,db w b-> ¬ao M φ ⟨o',us⟩ b->w'.heap[b]? =w.heap[b]? /\ ¬ao M Jc H2 b:=by
   intro b hc hn
   obtain⟨a,c⟩:=k2.blocks (M:=M1) b hc (fun hb=>hn ((hB b).1 hb))
   exact⟨a,fun hb=>c (hB2 b hb)⟩
  have tp:∀b,b<w.heap.size-> ¬cE φ HR b->w'.heap[b]? =w.heap[b]? :=fun b hb hl=>k2.keep.block b hb hl
  have ht:Trans φ ⟨o',us⟩ w Jc H2 w':=by
   refine⟨⟨k2.keep.os,k2.keep.tape,k2.keep.output,k2.keep.size,fun b hb hl=>tp b hb fun⟨id,h1,h2⟩=>hl ?_⟩,fun b hb=> ?_,abF⟩
   ·by_cases aq:id∈rd
    ·exact⟨id,by show(o' id).live=true;rw[<- vE id aq];exact h1,h2⟩
    ·rw[show HR.o id= .no from tx id aq]at h1;cases h1
   ·rcases cN b hb with⟨id,h1,h2,h3⟩|⟨id,h1,h2,h3⟩
    ·rcases k2.grow b ⟨id,h2,h3⟩with⟨j,j1,j2⟩|BC
     ·by_cases aq:j∈rd
      ·exact .inl ⟨j,by show(o' j).live=true;rw[<- vE j aq];exact j1,j2⟩
      ·rw[show HR.o j= .no from tx j aq]at j1;cases j1
     ·exact .inr BC
    ·exact .inl ⟨id,h2,h3⟩
  refine⟨Jc,⟨fun id=> ?_,fun id hn=> ?_,fun i j b hi hj bi bj=> ?_,fun b hb=> ?_,fun b hb=>Nat.lt_of_lt_of_le (hH.BB b hb) k2.keep.size⟩,ht,fun b hb=> ?_⟩
  ·by_cases aq:id∈rd
   ·refine aP.refs (H:=hp o1 BE) (M:=M1) (φ:=iW) (fun b hn hb=>hn (hB2 b hb)) (GV id aq) (Au id aq) (fun j hj=> ?_) (k1.ok id)
    have GK:j∈rd:=by
     have e1:o1 id=put o Δ id:=xf id aq
     have hj:j∈(put o Δ id).refs:=by rw[<- e1];exact hj
     have key:∀ (G4:List (Nat×ab)) (q:Nat->ab),(∀x∈G4,∀j∈x.2.refs,j∈rd)->(∀j∈(q id).refs,j∈rd)->∀j∈(put q G4 id).refs,j∈rd:=by
      intro G4
      induction G4 with
      |nil=>intro q _ h2;exact h2
      |cons x G4 ih=>
       intro q h1 h2
       simp only[put,List.foldl_cons]
       refine ih (ax q x.1 x.2) (fun y hy=>h1 y kD) ?_
       simp only[aK]
       split
       ·exact h1 x aI
       ·exact h2
     exact key Δ o Vw (mX id aq) j hj
    exact⟨GV j GK,Au j GK,(ho j GK).2⟩
   ·exact aP.B4 yi abF (GU id aq) (CH id aq) (fun hl b hb=>tp b (hH.ours b ⟨id,hl,hb⟩).2 fun⟨j,j1,j2⟩=>by
     by_cases hj:j∈rd
     ·rw[show HR.o j=o' j from vE j hj]at j1
      exact aq (hH.apart id j b hl j1 hb j2 ▸ hj)
     ·rw[show HR.o j= .no from tx j hj]at j1;cases j1) (hH.ok id)
  ·have aq:id∉rd:=fun aq=>hn (ho id aq).2
   exact(GU id aq).trans (hH.fresh id hn)
  ·by_cases e1:i∈rd<;>by_cases e2:j∈rd
   ·refine k1.apart i j b ?_ ?_ (by rw[<- Au i e1];exact bi) (by rw[<- Au j e2];exact bj)
    ·show(o1 i).live=true;rw[<- GV i e1];exact hi
    ·show(o1 j).live=true;rw[<- GV j e2];exact hj
   ·exfalso
    refine(k1.ours b ⟨i,by show(o1 i).live=true;rw[<- GV i e1];exact hi,by rw[<- Au i e1];exact bi⟩).1 (.inr ⟨j,e2,by rw[<- GU j e2];exact hj,by rw[<- CH j e2];exact bj⟩)
   ·exfalso
    refine(k1.ours b ⟨j,by show(o1 j).live=true;rw[<- GV j e2];exact hj,by rw[<- Au j e2];exact bj⟩).1 (.inr ⟨i,e1,by rw[<- GU i e1];exact hi,by rw[<- CH i e1];exact bi⟩)
   ·exact hH.apart i j b (by show(o' i).live=true;rw[<- GU i e1];exact hi) (by show(o' j).live=true;rw[<- GU j e2];exact hj) (by rw[<- CH i e1];exact bi) (by rw[<- CH j e2];exact bj)
  ·rcases cN b hb with⟨id,h1,h2,h3⟩|⟨id,h1,h2,h3⟩
   ·obtain⟨a,c⟩:=k1.ours b ⟨id,h2,h3⟩
    exact⟨fun hM=>a (.inl hM),c⟩
   ·obtain⟨a,c⟩:=hH.ours b ⟨id,h2,h3⟩
    exact⟨a,Nat.lt_of_lt_of_le c k2.keep.size⟩
  ·rcases hb with hb|hb
   ·exact .inl (.inl hb)
   ·rcases cN b hb with h|h
    ·exact .inr h
    ·exact .inl (.inr h)
 have res:∀ (vs:List V) (xs:List D) (us':List Value),(∀id∈rd,o1 id=put o Δ id)->b7 o1 vs=some xs->(∀id∈V.bg vs,id∉rd)->V.aB (ao M1 iW (hp o1 BE)) iW (hp o1 BE) w' vs us'->
  ∃aG,ay M aG ⟨put o' Δ,us⟩ w'/\Trans φ ⟨o',us⟩ w aG ⟨put o' Δ,us⟩ w'/\D.aB (ao M aG ⟨put o' Δ,us⟩) w' xs us':=by
  intro vs xs us' xf h1 afn h2
  obtain⟨f1,f2,f3,f4,f5⟩:=cO k1 (V.bg vs) (cW vs _ h2)
  have h3:=dp f1 vs xs us' f3 h1 (V.aQ f2 _ _ h2)
  obtain⟨aG,m1,m2,m3⟩:=main xf
  refine⟨aG,m1,m2,D.aQ (w:=w') (w':=w') (fun b _ hn=>⟨rfl,fun hb=>hn ?_⟩) xs us' h3⟩
  rcases m3 b hb with hb|⟨id,i1,i2,i3⟩
  ·exact .inl hb
  ·exact .inr ⟨id,by rw[f4 id fun hm=>afn id hm i1];exact i2,i3⟩
 cases e with
 |outgrown=>exact k3.elim
 |panicked ch=>
  obtain⟨val,rfl,g1,xf,x,g2,rfl,g3⟩:=k3
  obtain⟨aG,m1,m2,m3⟩:=res [v] [x] [val] xf (by simp[b7,g2]) (by simpa[V.bg]using g3) ⟨val,[],rfl,g1,rfl⟩
  obtain⟨u,us2,he,h2,_⟩:=m3
  simp at he;obtain⟨rfl,rfl⟩:=he
  exact⟨aG,m1,m2,val,rfl,h2⟩
 |returned val=>
  obtain⟨g1,xf,vs,rs,rfl,g2,rfl,g3⟩:=k3
  match vs,g1,g2,g3 with
  |[],g1,g2,g3=>
   obtain⟨arr,rfl,hv⟩:=g1
   simp only[b7,Option.some.injEq]at g2;subst g2
   obtain⟨aG,m1,m2,m3⟩:=res [] [] arr.toList xf rfl (by simp[V.bg]) hv
   exact⟨aG,m1,m2,arr,rfl,m3⟩
  |[v],g1,g2,g3=>
   obtain⟨aG,m1,m2,m3⟩:=res [v] rs [val] xf g2 g3 ⟨val,[],rfl,g1,rfl⟩
   refine⟨aG,m1,m2, ?_⟩
   cases rs with
   |nil=>cases m3
   |cons x l=>
    obtain⟨u,us2,he,h2,h3⟩:=m3
    simp at he;obtain⟨rfl,rfl⟩:=he
    cases l with
    |nil=>exact h2
    |cons y l=>obtain⟨_,_,h,_⟩:=h3;cases h
  |v::v2::l,g1,g2,g3=>
   obtain⟨arr,rfl,hv⟩:=g1
   obtain⟨aG,m1,m2,m3⟩:=res (v::v2::l) rs arr.toList xf g2 g3 hv
   refine⟨aG,m1,m2, ?_⟩
   have hl:=D.aA _ _ m3
   have YN:=V.aA _ _ hv
   match rs,hl,m3 with
   |[],hl,_=>exact Gu
   |[x],hl,_=>exact Gu
   |x::y::l,_,m3=>exact⟨arr,rfl,m3⟩
end
end
section
inductive fh where
 |skip|val (v:V) (Δ:List (Nat×ab)) (rd:List Nat)|bE (v:V) (ws rd:List Nat)|dx
 deriving Inhabited
def fh.ok:fh->Bool
 | .skip| .val .. =>true
 |_=>false
def xj(dst:Option Tmp)(x:fh)(s:S):S:=
 match x with
 | .skip=>⟨aY s.env dst (.bW []),s.o,s.nx⟩
 | .val v Δ _=>⟨aY s.env dst v,put s.o Δ,s.nx⟩
 | .bE .. | .dx=>⟨aY s.env dst .aa,s.o,s.nx⟩
def kZ:fh->List Nat
 | .val _ Δ _=>Δ.map (·.1)
 |_=>[]
def xG:fh->List Nat
 | .val _ _ rd=>rd
 | .bE _ _ rd=>rd
 |_=>[]
def PVt(P:Program)(g:FuncId)(ds:List D)(v:V):Prop:=
 Enters P g/\∀ (M:Nat->Prop) (w:World) (vals:Array Value),(∀b,M b->b<w.heap.size)->D.aB M w ds vals.toList->
  Calls P g vals w fun e w'=>dM (fun _=>False) w w'/\∃val,e= .returned val/\∀φ H,V.den M φ H w' v val
theorem PVt.jd {P:Program}{g:FuncId}{ds:List D}{v:V}(hr:v.refs=[])(h:cH P g (ds.map .d) (fun _=> .no) 0 (fun v' _ _=>v'=v) (fun _ _ _=>False)):PVt P g ds v:=by
 refine⟨h.1,fun M w vals hM hd=> ?_⟩
 let cA:Place:=fun _=> .nilFunc
 have tp:∀b, ¬cE cA (hp (fun _=> .no) 0) b:=by rintro b ⟨id,hl,_⟩;simp[hp,ab.live]at hl
 refine(h.2 M cA w vals (lJ cA hM) ((V.cn _ _).2 (D.aQ (w:=w) (w':=w) (B:=M) (fun b _ hB=>⟨rfl,fun h=>h.elim hB (tp b)⟩) _ _ hd))).mono ?_
 rintro e w' ⟨aG,o',nx',v',k1,k2,k3⟩
 refine⟨⟨k2.keep.os,k2.keep.tape,k2.keep.output,k2.keep.size,fun k hk _=>k2.keep.block k hk (tp k)⟩, ?_⟩
 cases e with
 |outgrown=>exact k3.elim
 |panicked ch=>obtain⟨_,_,_,h⟩:=k3;exact h.elim
 |returned val=>
  obtain⟨g1,rfl⟩:=k3
  exact⟨val,rfl,fun φ H=>V.nz (B:=ao M aG (hp o' nx')) (φ:=aG) (H:=hp o' nx') (fun b hb hm=>hb (.inl hm)) v' val (fun id aq=>by rw[hr]at aq;cases aq) g1⟩
def yG(P:Program)(s:S)(fr:Nat)(op:Op)(v:V)(Δ:List (Nat×ab))(rd:List Nat):Prop:=
 ((∃uz,gC P s fr op=some (v,Δ,uz))/\rd=oM s op)\/
 (∃c f g first cap,op= .call c/\c.callee= .value f/\s.ev f= .func (.func g) first cap/\
  ((∃ds rs,b7 s.o (first++c.args.toList.map s.ev++cap)=some ds/\aV P g ds (.ret rs)/\v=jv rs/\rd=oM s op/\
    (Δ=bT s.o (V.bg (first++c.args.toList.map s.ev++cap))\/D.jR rs=true/\Δ=[]))\/
   (∃rs,xF P g (first++c.args.toList.map s.ev++cap) rd s.o (.ret rs) Δ/\v=jv rs/\∀id∈rd,id<s.nx)\/
   (∃ds,b7 s.o (first++c.args.toList.map s.ev++cap)=some ds/\PVt P g ds v/\rd=oM s op/\Δ=bT s.o (V.bg (first++c.args.toList.map s.ev++cap)))\/
   (Ar P g (first++c.args.toList.map s.ev++cap) rd s.o fr v Δ/\∀id∈rd,id<s.nx)))
def CI(P:Program)(s:S)(op:Op)(v:V)(ws rd:List Nat):Prop:=
 ∃c f g first cap,op= .call c/\c.callee= .value f/\s.ev f= .func (.func g) first cap/\
  ((∃ds x,b7 s.o (first++c.args.toList.map s.ev++cap)=some ds/\aV P g ds (.bE x)/\x.flat=true/\v= .d x/\rd=oM s op/\ws=[])\/
   (∃x Δ,xF P g (first++c.args.toList.map s.ev++cap) rd s.o (.bE x) Δ/\v= .d x/\ws=Δ.map (·.1)/\∀id∈rd,id<s.nx))
def dS(s:S)(gd:Option (Nat×Bool))(b:Bool):Prop:=
 match gd with
 |none=>b=true
 |some (d,want)=>match s.env d with
  | .d (.bool c)=>b=(c==want)
  | .bW []=>b=false
  |_=>False
def SB(P:Program)(s:S)(fr:Nat)(o:bM)(x:fh):Prop:=
 match x with
 | .skip=>dS s o.gd false
 | .val v Δ rd=>dS s o.gd true/\yG P s fr o.op v Δ rd
 | .bE v ws rd=>dS s o.gd true/\CI P s o.op v ws rd
 | .dx=>True
def eD(oc:Nat->bM)(ac:Nat->fh)(E:Nat->Bool)(s:S):Nat->S
 |0=>s
 |k+1=>if E k then xj (oc k).dst (ac k) (eD oc ac E s k)else eD oc ac E s k
structure Compat (oc:Nat->bM) (ac:Nat->fh) (R:Nat->List Nat) (i j:Nat):Prop where
 di:∀d,(oc i).dst=some d->d∉fb (oc j)
 dj:∀d,(oc j).dst=some d->d∉fb (oc i)
 wi:∀id∈kZ (ac i),id∉R j/\id∉kZ (ac j)
 wj:∀id∈kZ (ac j),id∉R i
section
variable {P:Program}{oc:Nat->bM}{ac:Nat->fh}{s:S}{n:Nat}{E:Nat->Bool}{R:Nat->List Nat}{pr:Nat->Nat->Prop}
theorem Fq{env:Nat->V}{dst:Option Tmp}{v:V}{t:Nat}(h:∀d,dst=some d->d≠t):aY env dst v t=env t:=by
 cases dst with
 |none=>rfl
 |some d=>simp only[aY,aK];rw[if_neg (fun e=>h d rfl e.symm)]
theorem gw{o:Nat->ab}:∀ {Δ:List (Nat×ab)} {id:Nat},id∉Δ.map (·.1)->put o Δ id=o id
 |[],_,_=>rfl
 |x::Δ,id,h=>by
  simp only[List.map_cons,List.mem_cons,not_or]at h
  have:=gw (o:=ax o x.1 x.2) (Δ:=Δ) h.2
  simp only[put,List.foldl_cons]at this|-
  rw[this];simp[h.1]
theorem Av{o o':Nat->ab}:∀ {Δ:List (Nat×ab)} {id:Nat},id∈Δ.map (·.1)\/o id=o' id->put o Δ id=put o' Δ id
 |[],_,h=>by rcases h with h|h;· simp at h
             ·exact h
 |x::Δ,id,h=>by
  simp only[put,List.foldl_cons]
  refine Av (Δ:=Δ) (o:=ax o x.1 x.2) (o':=ax o' x.1 x.2) ?_
  simp only[List.map_cons,List.mem_cons]at h
  simp only[aK]
  by_cases e:id=x.1
  ·right;simp[e]
  ·rcases h with(h|h)|h
   ·exact absurd h e
   ·exact .inl h
   ·right;simp[e,h]
theorem lg{dst:Option Tmp}{x:fh}{t:Nat}(h:∀d,dst=some d->d≠t):(xj dst x s).env t=s.env t:=by
 cases x<;>exact Fq h
theorem nA{dst:Option Tmp}{x:fh}{id:Nat}(h:id∉kZ x):(xj dst x s).o id=s.o id:=by
 cases x with
 |val v Δ rd=>exact gw h
 |_=>rfl
theorem Aw{dst:Option Tmp}{x:fh}{s':S}{t:Nat}(h:s.env t=s'.env t):(xj dst x s).env t=(xj dst x s').env t:=by
 cases x<;>cases dst<;>simp only[xj,aY,aK]<;>first|exact h|(split<;>first|rfl|exact h)
theorem Fs{dst:Option Tmp}{x:fh}{s':S}{id:Nat}(h:s.o id=s'.o id):(xj dst x s).o id=(xj dst x s').o id:=by
 cases x with
 |val v Δ rd=>exact Av (.inr h)
 |_=>exact h
theorem put_comm{o:Nat->ab}{Δ G4:List (Nat×ab)}(h:∀id∈Δ.map (·.1),id∉G4.map (·.1)):put (put o Δ) G4=put (put o G4) Δ:=by
 funext id
 by_cases h1:id∈Δ.map (·.1)
 ·rw[gw (h id h1)]
  exact Av (.inl h1)
 ·rw[gw (Δ:=Δ) h1]
  by_cases h2:id∈G4.map (·.1)
  ·exact Av (.inl h2)
  ·rw[gw h2,gw h2,gw h1]
theorem yH{env:Nat->V}{d d':Option Tmp}{v v':V}(h:∀t,d=some t->d'≠some t):aY (aY env d v) d' v'=aY (aY env d' v') d v:=by
 cases d with
 |none=>rfl
 |some t=>
  cases d' with
  |none=>rfl
  |some t'=>
   have ik:t'≠t:=fun e=>h t rfl (by rw[e])
   funext i
   simp only[aY,aK]
   by_cases e1:i=t<;>by_cases e2:i=t'
   ·exact absurd (e2.symm.trans e1) ik
   all_goals simp[e1,e2]
   ·intro e;exact absurd e.symm ik
   ·intro e;exact absurd e ik
theorem L7{d d':Option Tmp}{x x':fh}(hd:∀t,d=some t->d'≠some t)(hw:∀id∈kZ x,id∉kZ x'):xj d x (xj d' x' s)=xj d' x' (xj d x s):=by
 cases x<;>cases x'<;>simp only[xj]<;>first
  |rw[yH hd,put_comm hw]
  |rw[yH hd]
def Ax(n:Nat)(pr:Nat->Nat->Prop)(E:Nat->Bool):Prop:=∀k,k<n->E k=true->∀j,pr k j->E j=true
theorem agree(_:∀k,k<n->∀j,pr k j->j<k)(hc:∀i j,i<j->j<n-> ¬pr j i->Compat oc ac R i j)(hE:Ax n pr E){i:Nat}(hi:i<n)(mW:E i=false)(L8:∀j,pr i j->E j=true):
 (∀t∈fb (oc i),(eD oc ac E s n).env t=(eD oc ac (fun _=>true) s i).env t)/\(∀id∈R i,(eD oc ac E s n).o id=(eD oc ac (fun _=>true) s i).o id):=by
 have a:∀k,k<=i->(∀t∈fb (oc i),(eD oc ac E s k).env t=(eD oc ac (fun _=>true) s k).env t)/\(∀id∈R i,(eD oc ac E s k).o id=(eD oc ac (fun _=>true) s k).o id):=by
  intro k
  induction k with
  |zero=>intro _;exact⟨fun _ _=>rfl,fun _ _=>rfl⟩
  |succ k ih=>
   intro hk
   obtain⟨h1,h2⟩:=ih ag
   simp only[eD,if_true]
   by_cases jl:E k=true
   ·simp only[jl,if_true]
    exact⟨fun t ht=>Aw (h1 t ht),fun id aq=>Fs (h2 id aq)⟩
   ·have Sq: ¬pr i k:=fun hm=>jl (L8 k hm)
    have c:=hc k i ag hi Sq
    simp only[jl]
    refine⟨fun t ht=> ?_,fun id aq=> ?_⟩
    ·rw[lg fun d hd e=>c.di d hd (e ▸ ht)];exact h1 t ht
    ·rw[nA fun hm=>(c.wi id hm).1 aq];exact h2 id aq
 have b:∀k,i<=k->k<=n->(∀t∈fb (oc i),(eD oc ac E s k).env t=(eD oc ac (fun _=>true) s i).env t)/\(∀id∈R i,(eD oc ac E s k).o id=(eD oc ac (fun _=>true) s i).o id):=by
  intro k Ps
  induction Ps with
  |refl=>intro _;exact a i (Nat.le_refl _)
  | @step k Ps ih=>
    intro hk
    have Ps:i<=k:=Ps
    obtain⟨h1,h2⟩:=ih ag
    simp only[eD]
    by_cases jl:E k=true
    ·have ik:i≠k:=fun e=>by rw[e,jl]at mW;cases mW
     have Sq: ¬pr k i:=fun hm=>by have:=hE k ag jl i hm;rw[mW]at this;cases this
     have c:=hc i k ag ag Sq
     simp only[jl,if_true]
     refine⟨fun t ht=> ?_,fun id aq=> ?_⟩
     ·rw[lg fun d hd e=>c.dj d hd (e ▸ ht)];exact h1 t ht
     ·rw[nA fun hm=>c.wj id hm aq];exact h2 id aq
    ·simp only[jl];exact⟨h1,h2⟩
 exact b n ag (Nat.le_refl _)
theorem insert(hc:∀i j,i<j->j<n-> ¬pr j i->Compat oc ac R i j)(hE:Ax n pr E){i:Nat}(hi:i<n)(mW:E i=false){E':Nat->Bool}(CJ:∀k,E' k=(E k||k==i)):
 eD oc ac E' s n=xj (oc i).dst (ac i) (eD oc ac E s n):=by
 have a:∀k,k<=i->eD oc ac E' s k=eD oc ac E s k:=by
  intro k
  induction k with
  |zero=>intro _;rfl
  |succ k ih=>
   intro hk
   have:E' k=E k:=by rw[CJ k];have:(k==i)=false:=by simp;omega
                     simp[this]
   simp only[eD,this,ih (by omega)]
 have b:∀k,i+1<=k->k<=n->eD oc ac E' s k=xj (oc i).dst (ac i) (eD oc ac E s k):=by
  intro k Ps
  induction Ps with
  |refl=>
   intro _
   have h1:E' i=true:=by rw[CJ i];simp
   simp only[eD,h1,mW,if_true,a i (Nat.le_refl _)]
   rfl
  | @step k Ps ih=>
    intro hk
    have Ps:i+1<=k:=Ps
    have h1:E' k=E k:=by rw[CJ k];have:(k==i)=false:=by simp;omega
                         simp[this]
    simp only[eD,h1,ih (by omega)]
    by_cases jl:E k=true
    ·have Sq: ¬pr k i:=fun hm=>by have:=hE k ag jl i hm;rw[mW]at this;cases this
     have c:=hc i k ag ag Sq
     simp only[jl,if_true]
     refine L7 (fun t ht he=> ?_) (fun id aq hm=>(c.wi id hm).2 aq)
     exact c.di t he (by simp[fb,ht])
    ·simp only[jl];rfl
 exact b n ag (Nat.le_refl _)
end
end
section
structure ug (M:Nat->Prop) (cA:Place) (H0:Hp) (w0:World) (n:Nat) (cx:Cx) (φ:Place) (s:S) (us:Nat->Prop) (a:Act) (w:World):Prop where
 heap:ay M φ ⟨s.o,us⟩ w
 tr:Trans cA H0 w0 φ ⟨s.o,us⟩ w
 size:a.tmps.size=n
 defers:vu cx w0 φ ⟨s.o,us⟩ w a.defers
 env:∀i,V.den (ao M φ ⟨s.o,us⟩) φ ⟨s.o,us⟩ w (s.env i) (a.tmps.getD i undef)
section
variable {P:Program}{M:Nat->Prop}{φ cA:Place}{H0:Hp}{w w' w0:World}{n:Nat}{s:S}{us:Nat->Prop}{a:Act}{cx:Cx}{ro:Option Nat}{k:Nat}
variable {next:Act->World->Prop}{Q:Exit->Act->World->Prop}
theorem jJ(hs:ug M cA H0 w0 n cx φ s us a w){aG:Place}{H':Hp}(hH:ay M aG H' w')(ht:Trans φ ⟨s.o,us⟩ w aG H' w'){v:V}{val:Value}(hd:V.den (ao M aG H') aG H' w' v val){dst:Option Tmp}(cQ:gJ n dst)
 {o':Nat->ab} {us':Nat->Prop} (ho:H'.o=o') (hu:∀id,H'.us id->us' id):ug M cA H0 w0 n cx aG ⟨aY s.env dst v,o',s.nx⟩ us' (a.put dst val) w':=by
 obtain⟨k1,k2⟩:=jt hH hu
 subst ho
 refine⟨k1,hs.tr.trans (ht.trans k2), ?_, ?_,fun i=> ?_⟩
 ·cases dst<;>simp[Act.put,hs.size]
 ·have:=hs.defers.mono (ht.trans k2);cases dst<;>exact this
 ·cases dst with
  |none=>exact OS
  |some d=>
   simp only[gJ]at cQ
   simp only[aY,aK,Act.put]
   by_cases hi:i=d
   ·subst hi
    have h1:(a.tmps.setIfInBounds i val).getD i undef=val:=by simp[Array.getD,hs.size,cQ]
    rw[if_pos rfl,h1]
    exact V.aO k2 _ _ hd
   ·have h1:(a.tmps.setIfInBounds d val).getD i undef=a.tmps.getD i undef:=by
     exact U1
    rw[if_neg hi,h1]
    exact OS
theorem yI(hs:ug M cA H0 w0 n cx φ s us a w){o:Oper}{op:Op}(gW:o.op=op){c:Call}{f:Operand}{g:FuncId}{first cap:List V}(hc:op= .call c)(eX:c.callee= .value f)(xo:s.ev f= .func (.func g) first cap):
 ∃vals:Array Value,V.aB (ao M φ ⟨s.o,us⟩) φ ⟨s.o,us⟩ w (first++c.args.toList.map s.ev++cap) vals.toList/\(Enters P g->(execOp a.eval o).run P w= .ok (.enter g vals) w):=by
 have hf:=ng (M:=M) (φ:=φ) (H:=⟨s.o,us⟩) (w:=w) s a hs.env f
 have dP:=kF (M:=M) (φ:=φ) (H:=⟨s.o,us⟩) (w:=w) s a hs.env c.args.toList
 rw[xo]at hf
 obtain⟨fa,ca,Vr,GF,hca⟩:=hf
 refine⟨fa++c.args.map a.eval++ca, ?_,fun he=> ?_⟩
 ·exact RT
 ·have:=lI (w:=w) he (fa++c.args.map a.eval++ca)
  generalize jK:fa++c.args.map a.eval++ca=vals at this
  simp[execOp,gW,hc,resolve,eX,Vr,Deferred.ofValue,invoke,this,jK]
theorem KZ(hs:ug M cA H0 w0 n cx φ s us a w){fr:Nat}(cP: ¬us fr)(vw:∀id,id<s.nx->us id){o:Oper}{op:Op}(gW:o.op=op)(cQ:gJ n o.dst){v:V}{Δ:List (Nat×ab)}{rd:List Nat}(h:yG P s fr op v Δ rd)
 (hN:∀aG a' w',ug M cA H0 w0 n cx aG (xj o.dst (.val v Δ rd) s) (fun id=>us id\/id=fr) a' w'->next a' w'):o.wpIn (dN ro) k P a w next Q:=by
 rcases h with⟨⟨uz,h⟩,_⟩|⟨c,f,g,first,cap,hc,eX,xo,h⟩
 ·have h1:=CE (K:=fun v' G4 _=>v'=v/\G4=Δ) h ⟨rfl,rfl⟩
  obtain⟨nx,val,w',aG,v',G4,uz,⟨rfl,rfl⟩,hr,afo,g1,g2,g3,g4⟩:=yw hs.heap (s:=s) rfl hs.env cP gW h1
  have Ac:=jJ hs g1 g2 g3 cQ (o':=put s.o G4) (us':=fun id=>us id\/id=fr) rfl (fun id hu=>hu.elim .inl (g4 id))
  refine kK (fun c hc=>by rw[gW]at hc;subst hc;exact h1) ?_
  rw[hr]
  rcases afo with rfl|⟨rfl,rfl⟩
  ·exact hN _ _ _ Ac
  ·exact hN _ _ _ Ac
 ·refine kK (fun c' s8=>by rw[gW,hc]at s8;cases s8) ?_
  obtain⟨vals,bc,fg⟩:=yI (P:=P) hs gW hc eX xo
  generalize first++c.args.toList.map s.ev++cap=all at h bc
  rcases h with⟨ds,rs,eZ,hP,rfl,_,YP⟩|⟨rs,hH,rfl,m5⟩|⟨ds,eZ,hP,_,rfl⟩|⟨hH,m5⟩
  ·obtain⟨f1,f2,f3,f4,f5⟩:=cO hs.heap (V.bg all) (cW all _ bc)
   have fU:(⟨s.o,us⟩:Hp).put (bT s.o (V.bg all))=⟨put s.o (bT s.o (V.bg all)),us⟩:=lH (H:=⟨s.o,us⟩) Lc
   have yk:=dp f1 all ds _ f3 eZ (V.aQ f2 _ _ bc)
   have eO:=hP.2 _ w vals (fun b hb=>hb.elim (f1.BB b) fun hl=>(f1.ours b hl).2) yk
   rw[fg hP.1]
   refine⟨fun hd=>by simp[dN]at hd,cZ (eO.mono fun e w' ⟨hk,ho⟩=> ?_)⟩
   cases e with
   |panicked ch=>exact xn
   |outgrown=>exact xn
   |returned val=>
    rcases YP with rfl|⟨m8,rfl⟩
    ·obtain⟨k1,k2⟩:=gr f1 hk
     refine hN _ _ _ (jJ hs k1 (f2.trans k2) (m7 ho) cQ (by rw[fU]) fun id hu=> ?_)
     rw[fU]at hu;exact .inl hu
    ·obtain⟨k1,k2⟩:=gr hs.heap hk
     have ho:=R.Ad (out:= .ret rs) (B':=ao M φ ⟨s.o,us⟩) m8 ho
     exact Ry
  ·have eO:=hH.2 s.o us M φ w vals (fun id aq=>⟨rfl,vw id (m5 id aq)⟩) hs.heap bc
   rw[fg hH.1]
   refine⟨fun hd=>by simp[dN]at hd,cZ (eO.mono fun e w' ⟨aG,k1,k2,ho⟩=> ?_)⟩
   cases e with
   |panicked ch=>exact xn
   |outgrown=>exact xn
   |returned val=>exact Ry
  ·obtain⟨f1,f2,f3,f4,f5⟩:=cO hs.heap (V.bg all) (cW all _ bc)
   have fU:(⟨s.o,us⟩:Hp).put (bT s.o (V.bg all))=⟨put s.o (bT s.o (V.bg all)),us⟩:=lH (H:=⟨s.o,us⟩) Lc
   have yk:=dp f1 all ds _ f3 eZ (V.aQ f2 _ _ bc)
   have eO:=hP.2 _ w vals (fun b hb=>hb.elim (f1.BB b) fun hl=>(f1.ours b hl).2) yk
   rw[fg hP.1]
   refine⟨fun hd=>by simp[dN]at hd,cZ (eO.mono fun e w' ⟨hk,val,he,ho⟩=> ?_)⟩
   subst he
   obtain⟨k1,k2⟩:=gr f1 hk
   refine hN _ _ _ (jJ hs k1 (f2.trans k2) (ho _ _) cQ (by rw[fU]) fun id hu=> ?_)
   rw[fU]at hu;exact .inl hu
  ·have eO:=hH.2 s.o us M φ w vals (fun id aq=>⟨rfl,vw id (m5 id aq)⟩) cP hs.heap bc
   rw[fg hH.1]
   refine⟨fun hd=>by simp[dN]at hd,cZ (eO.mono fun e w' ⟨aG,k1,k2,val,he,ho⟩=> ?_)⟩
   subst he
   exact hN _ _ _ (jJ hs k1 k2 ho cQ rfl fun id hu=>hu)
theorem Jk{o o2:Nat->ab}{us us2:Nat->Prop}(hH:ay M φ ⟨o,us⟩ w)(ho:∀id,o2 id=o id\/o2 id= .no)(hu:∀id,us id->us2 id):ay M φ ⟨o2,us2⟩ w/\Trans φ ⟨o,us⟩ w φ ⟨o2,us2⟩ w:=by
 have hl:∀id,(o2 id).live=true->(o id).live=true:=fun id h=>by
  rcases ho id with e|e
  ·rw[<- e];exact h
  ·rw[e]at h;cases h
 have YT:∀b,cE φ ⟨o2,us2⟩ b->cE φ ⟨o,us⟩ b:=fun b ⟨id,h1,h2⟩=>⟨id,hl id h1,h2⟩
 have ht:Trans φ ⟨o,us⟩ w φ ⟨o2,us2⟩ w:=by
  refine⟨dM.refl _ _,fun b hb=> .inl (YT b hb),⟨hu,fun id _ hr=> ?_,fun id e' _ he=> ?_⟩⟩
  ·rcases ho id with e|e
   ·exact⟨by show(o id).cj=true;rw[<- e];exact hr,rfl⟩
   ·rw[show(⟨o2,us2⟩:Hp).o id= .no from e]at hr;cases hr
  ·rcases ho id with e|e
   ·exact⟨e',by show(o id).b9=some e';rw[<- e];exact he,Nat.le_refl _,fun _=>rfl⟩
   ·rw[show(⟨o2,us2⟩:Hp).o id= .no from e]at he;cases he
 refine⟨⟨fun id=> ?_,fun id hn=> ?_,fun i j b hi hj=>hH.apart i j b (hl i hi) (hl j hj),fun b hb=>hH.ours b (YT b hb),hH.BB⟩,ht⟩
 ·rcases ho id with e|e
  ·exact(hH.ok id).mono ht e rfl fun _ _ _=>rfl
  ·unfold aP;rw[show(⟨o2,us2⟩:Hp).o id= .no from e];trivial
 ·rcases ho id with e|e
  ·exact e.trans (hH.fresh id fun h=>hn (hu id h))
  ·exact e
def uh(ds:List Nat)(wl:List Nat)(N:Nat)(s:S):S:=
 ⟨fun t=>if ds.contains t=true then .aa else s.env t,fun id=>if wl.contains id=true then .no else s.o id,s.nx+N⟩
theorem L9(hs:ug M cA H0 w0 n cx φ s us a w)(vw:∀id,id<s.nx->us id){N:Nat}(ed:∀id,us id->id<s.nx+N){o:Oper}{op:Op}(gW:o.op=op){v:V}{ws rd:List Nat}(h:CI P s op v ws rd)
 {s0:S} {ds wl:List Nat} (eZ:∀t,ds.contains t=false->s.env t=s0.env t) (hwl:∀id,wl.contains id=false->s.o id=s0.o id) (Pt:∀id∈ws,wl.contains id=true) (iL:s0.nx=s.nx)
 (hQ:∀aG w' val,b8 M cA H0 w0 n cx aG (uh ds wl N s0) a w'->V.den (ao M aG (uh ds wl N s0).H) aG (uh ds wl N s0).H w' v val->Q (.panic [{v:=val,recovered:=false}]) a w'):o.wpIn (dN ro) k P a w next Q:=by
 obtain⟨c,f,g,first,cap,hc,eX,xo,h⟩:=h
 refine kK (fun c' s8=>by rw[gW,hc]at s8;cases s8) ?_
 obtain⟨vals,bc,fg⟩:=yI (P:=P) hs gW hc eX xo
 generalize first++c.args.toList.map s.ev++cap=all at h bc
 have fin:∀ (aG:Place) (w':World) (o':Nat->ab) (val:Value),(∀id,wl.contains id=false->o' id=s.o id)->ay M aG ⟨o',us⟩ w'->Trans φ ⟨s.o,us⟩ w aG ⟨o',us⟩ w'->V.den (ao M aG ⟨o',us⟩) aG ⟨o',us⟩ w' v val->Q (.panic [{v:=val,recovered:=false}]) a w':=by
  intro aG w' o' val xZ k1 k2 k3
  obtain⟨m1,m2⟩:=Jk (o2:=(uh ds wl N s0).o) (us2:=fun id=>id<s0.nx+N) k1 (fun id=>by
   show(if wl.contains id=true then ab.no else s0.o id)=o' id\/_
   by_cases hw:wl.contains id=true
   ·right;simp only[uh];rw[if_pos hw]
   ·left;rw[if_neg hw,xZ id (by simpa using hw),hwl id (by simpa using hw)]) (fun id h=>by rw[iL];exact ed id h)
  have ht:=hs.tr.trans (k2.trans m2)
  refine hQ aG w' val ⟨m1,ht,hs.size,hs.defers.mono (k2.trans m2),fun i=> ?_⟩ (V.aO m2 _ _ k3)
  show V.den _ _ _ _ (if ds.contains i=true then V.aa else s0.env i) _
  by_cases hd:ds.contains i=true
  ·rw[if_pos hd];trivial
  ·rw[if_neg hd, <- eZ i (by simpa using hd)];exact V.aO (k2.trans m2) _ _ (hs.env i)
 rcases h with⟨dd,x,afp,hP,m8,rfl,_,rfl⟩|⟨x,Δ,hH,rfl,rfl,m5⟩
 ·obtain⟨f1,f2,f3,f4,f5⟩:=cO hs.heap (V.bg all) (cW all _ bc)
  have yk:=dp f1 all dd _ f3 afp (V.aQ f2 _ _ bc)
  have eO:=hP.2 _ w vals (fun b hb=>hb.elim (f1.BB b) fun hl=>(f1.ours b hl).2) yk
  rw[fg hP.1]
  refine⟨fun hd=>by simp[dN]at hd,cZ (eO.mono fun e w' ⟨hk,ho⟩=> ?_)⟩
  cases e with
  |returned val=>exact ho.elim
  |outgrown=>exact ho.elim
  |panicked ch=>
   obtain⟨k1,k2⟩:=gr hs.heap hk
   have ho:=R.Ad (out:= .bE x) (B':=ao M φ ⟨s.o,us⟩) m8 ho
   obtain⟨val,rfl,hd⟩:=ho
   exact fin φ w' s.o val (fun _ _=>rfl) k1 k2 hd
 ·have eO:=hH.2 s.o us M φ w vals (fun id aq=>⟨rfl,vw id (m5 id aq)⟩) hs.heap bc
  rw[fg hH.1]
  refine⟨fun hd=>by simp[dN]at hd,cZ (eO.mono fun e w' ⟨aG,k1,k2,ho⟩=> ?_)⟩
  cases e with
  |returned val=>exact ho.elim
  |outgrown=>exact ho.elim
  |panicked ch=>
   obtain⟨val,rfl,hd⟩:=ho
   exact fin aG w' _ val (fun id aq=>As fun y hy e=>by
    have:=Pt y.1 (List.mem_map_of_mem hy)
    rw[e,aq]at this;cases this) k1 k2 hd
theorem fI(ef:∀i,V.den (ao M φ ⟨s.o,us⟩) φ ⟨s.o,us⟩ w (s.env i) (a.tmps.getD i undef)){ops:Array Oper}{o:Oper}{gd:Option (Nat×Bool)}{b:Bool}
 (hg:match o.guard with|none=>gd=none|some (j,want)=>∃d,s9 ops j=some d/\gd=some (d,want)) (h:dS s gd b):Region.wanted o (yielded ops a.tmps)=b:=by
 unfold Region.wanted
 split at hg
 ·rename_i hn;simp only[hn];subst hg;exact h.symm
 ·rename_i j want hn
  simp only[hn]
  obtain⟨d,hd,rfl⟩:=hg
  unfold s9 at hd
  unfold yielded
  simp only[hd,Option.bind_some]
  simp only[dS]at h
  have he:=ef d
  split at h
  ·rename_i c hv
   rw[hv]at he
   simp only[V.den,D.den]at he
   have:a.tmps[d]? =some (.bool c):=by
    rw[Array.getD_eq_getD_getElem?]at he
    cases hx:a.tmps[d]? with
    |none=>rw[hx]at he;simp[undef]at he
    |some x=>rw[hx]at he;simp at he;rw[he]
   simp only[this,h]
   cases c<;>cases want<;>rfl
  ·rename_i hv
   rw[hv]at he
   obtain⟨arr,dg,hn⟩:=he
   have:∀c,a.tmps[d]? ≠some (.bool c):=by
    exact Se
   subst h
   cases hx:a.tmps[d]? with
   |none=>rfl
   |some x=>cases x<;>first|(exact absurd hx (this _))|rfl
  ·exact h.elim
theorem fK{s s':S}{gd:Option (Nat×Bool)}{b:Bool}(h:∀d want,gd=some (d,want)->s'.env d=s.env d)(hg:dS s gd b):dS s' gd b:=by
 unfold dS at*
 cases gd with
 |none=>exact hg
 |some p=>obtain⟨d,want⟩:=p;simp only at hg|-;rw[h d want rfl];exact hg
theorem CK{s s':S}{x:Operand}(h:∀t,x= .tmp t->s'.env t=s.env t):s'.ev x=s.ev x:=by
 cases x<;>simp only[S.ev]
 exact h _ rfl
theorem vF{s s':S}{op:Op}{c:Call}{f:Operand}{g:FuncId}{first cap:List V}(hv:∀x∈op.operands,s'.ev x=s.ev x)(hc:op= .call c)(eX:c.callee= .value f)(xo:s.ev f= .func (.func g) first cap):
 s'.ev f= .func (.func g) first cap/\c.args.toList.map s'.ev=c.args.toList.map s.ev:=by
 subst hc
 exact⟨(hv f (by simp only[Op.operands,Call.operands,eX];exact Array.mem_append.2 (.inl aI))).trans xo,
  List.map_congr_left fun x hx=>hv x aaA⟩
theorem xF.frame {g:FuncId}{args:List V}{rd:List Nat}{o o':Nat->ab}{out:R}{Δ:List (Nat×ab)}(ho:∀id∈rd,o' id=o id)(h:xF P g args rd o out Δ):xF P g args rd o' out Δ:=
 ⟨h.1,fun o2 us M φ w vals h1 h2 h3=>h.2 o2 us M φ w vals (fun id aq=>⟨(h1 id aq).1.trans (ho id aq),(h1 id aq).2⟩) h2 h3⟩
theorem Ar.frame {g:FuncId}{args:List V}{rd:List Nat}{o o':Nat->ab}{fr:Nat}{v:V}{Δ:List (Nat×ab)}(ho:∀id∈rd,o' id=o id)(h:Ar P g args rd o fr v Δ):Ar P g args rd o' fr v Δ:=
 ⟨h.1,fun o2 us M φ w vals h1 h2 h3=>h.2 o2 us M φ w vals (fun id aq=>⟨(h1 id aq).1.trans (ho id aq),(h1 id aq).2⟩) h2 h3⟩
theorem BU{s s':S}{fr:Nat}{op:Op}{v:V}{Δ:List (Nat×ab)}{rd:List Nat}(hv:∀x∈op.operands,s'.ev x=s.ev x)(ho:∀id∈rd,s'.o id=s.o id)(vw:s'.nx=s.nx)(h:yG P s fr op v Δ rd):∃uz,yG P s' fr op v Δ uz:=by
 rcases h with⟨⟨uz,h⟩,m5⟩|⟨c,f,g,first,cap,rfl,eX,xo,h⟩
 ·exact⟨_, .inl ⟨⟨uz,by rw[Fm op hv (by rw[<- m5];exact ho)];exact h⟩,rfl⟩⟩
 ·obtain⟨hf,hm⟩:=vF hv rfl eX xo
  rcases h with⟨ds,rs,eZ,hP,tY,m5,YP⟩|⟨rs,hH,tY,m5⟩|⟨ds,eZ,hP,m5,YP⟩|⟨hH,m5⟩
  ·have hr:∀id∈V.aE (first++c.args.toList.map s.ev++cap),s'.o id=s.o id:=fun id aq=>ho id K8
   refine⟨_, .inr ⟨c,f,g,first,cap,rfl,eX,hf, .inl ⟨ds,rs,by rw[hm,ir _ hr];exact eZ,hP,tY,rfl, ?_⟩⟩⟩
   exact R7
  ·exact⟨rd, .inr ⟨c,f,g,first,cap,rfl,eX,hf, .inr (.inl ⟨rs,by rw[hm];exact hH.frame ho,tY,by rw[vw];exact m5⟩)⟩⟩
  ·have hr:∀id∈V.aE (first++c.args.toList.map s.ev++cap),s'.o id=s.o id:=fun id aq=>ho id K8
   refine⟨_, .inr ⟨c,f,g,first,cap,rfl,eX,hf, .inr (.inr (.inl ⟨ds,by rw[hm,ir _ hr];exact eZ,hP,rfl, ?_⟩))⟩⟩
   exact R7
  ·exact⟨rd, .inr ⟨c,f,g,first,cap,rfl,eX,hf, .inr (.inr (.inr ⟨by rw[hm];exact hH.frame ho,by rw[vw];exact m5⟩))⟩⟩
theorem CL{s s':S}{op:Op}{v:V}{ws rd:List Nat}(hv:∀x∈op.operands,s'.ev x=s.ev x)(ho:∀id∈rd,s'.o id=s.o id)(vw:s'.nx=s.nx)(h:CI P s op v ws rd):CI P s' op v ws rd:=by
 obtain⟨c,f,g,first,cap,rfl,eX,xo,h⟩:=h
 obtain⟨hf,hm⟩:=vF hv rfl eX xo
 refine⟨c,f,g,first,cap,rfl,eX,hf, ?_⟩
 rw[hm]
 rcases h with⟨ds,x,eZ,hP,m8,tY,m5,Pt⟩|⟨x,Δ,hH,tY,Pt,m5⟩
 ·have hr:∀id∈V.aE (first++c.args.toList.map s.ev++cap),s'.o id=s.o id:=fun id aq=>ho id K8
  exact .inl ⟨ds,x,by rw[ir _ hr];exact eZ,hP,m8,tY,by rw[m5];simp only[oM,eX,xo,hf,hm],Pt⟩
 ·exact .inr ⟨x,Δ,hH.frame ho,tY,Pt,by rw[vw];exact m5⟩
theorem vG{ops:Array Oper}:∀ (l:List Oper) (l':List bM) (i:Nat) (o:Oper),lA n ops l=some l'->l[i]? =some o->Lx n ops o=some (bU l' i)
 |[],_,_,_,_,h=>by simp at h
 |x::l,l',i,o,h,hi=>by
  simp only[lA]at h
  split at h
  ·rename_i y ys hy hys
   injection h with h;subst h
   cases i with
   |zero=>simp at hi;subst hi;exact hy
   |succ i=>exact vG l ys i o hys (by simpa using hi)
  ·cases h
theorem yJ{ops:Array Oper}{o:Oper}{x:bM}(h:Lx n ops o=some x):x.op=o.op/\x.dst=o.dst/\gJ n o.dst/\
 (match o.guard with|none=>x.gd=none|some (j,want)=>∃d,s9 ops j=some d/\x.gd=some (d,want)):=by
 unfold Lx at h
 split at h
 ·rename_i hd
  have cQ:gJ n o.dst:=by
   unfold ER at hd;unfold gJ
   split at hd<;>simp_all
  cases hg:o.guard with
  |none=>simp only[hg]at h;injection h with h;subst h;exact⟨rfl,rfl,cQ,rfl⟩
  |some p=>
   obtain⟨j,want⟩:=p
   simp only[hg]at h
   cases SA:s9 ops j with
   |none=>simp[SA]at h
   |some d=>simp only[SA]at h;injection h with h;subst h;exact⟨rfl,rfl,cQ,d,SA,rfl⟩
 ·cases h
theorem pB{ops:Array Oper}{au:Array Bool}(uE:∀k,k<ops.size->∀j∈bA ops k,j<k)(hs:au.size=ops.size)(hr:Region.ready .any ops au=[]):∀k,k<ops.size->au.getD k false=true:=by
 intro k
 induction k using Nat.strongRecOn with
 |_ k ih=>
  intro hk
  cases hl:au.getD k false with
  |true=>rfl
  |false=>
   have:k∈Region.ready .any ops au:=by
    refine mem_ready.2 ⟨?_,ops[k],by simp[hk],fun e he hb=> ?_⟩
    ·simp only[Array.getD_eq_getD_getElem?]at hl|-
     rw[Array.getElem?_eq_getElem (by omega)]at hl|-
     simpa using hl
    ·have hm:e.on∈bA ops k:=by
      simp only[bA,Array.getElem?_eq_getElem hk,List.mem_map,List.mem_filter]
      exact⟨e,⟨Array.mem_toList_iff.2 he,hb⟩,rfl⟩
     exact ih _ (uE k hk _ hm) (by have:=uE k hk _ hm;omega)
   rw[hr]at this;cases this
theorem CM(hs:b8 M cA H0 w0 n cx φ s a w):b8 M cA H0 w0 n cx φ s a {w with drawn:=w.drawn+1}:=by
 obtain⟨k1,k2⟩:=gr (w':={w with drawn:=w.drawn+1}) hs.heap ⟨rfl,rfl,rfl,Nat.le_refl _,fun _ _ _=>rfl⟩
 exact⟨k1,hs.tr.trans k2,hs.size,hs.defers.mono k2,fun i=>V.aO k2 _ _ (hs.env i)⟩
theorem kW{oc:Nat->bM}{ac:Nat->fh}{E:Nat->Bool}:∀k,(eD oc ac E s k).nx=s.nx
 |0=>rfl
 |k+1=>by
  simp only[eD]
  split
  ·cases ac k<;>exact kW k
  ·exact kW k
theorem G5{oc:Nat->bM}{ac:Nat->fh}{E:Nat->Bool}{t:Nat}:∀k,(∀j,j<k->(oc j).dst≠some t)->(eD oc ac E s k).env t=s.env t
 |0,_=>rfl
 |k+1,h=>by
  have ih:=G5 (oc:=oc) (ac:=ac) (E:=E) (t:=t) k fun j hj=>h j ag
  simp only[eD]
  split
  ·rw[lg fun d hd e=>h k (by omega) (by rw[hd,e])];exact ih
  ·exact ih
theorem SC{oc:Nat->bM}{ac:Nat->fh}{E:Nat->Bool}{id:Nat}:∀k,(∀j,j<k->id∉kZ (ac j))->(eD oc ac E s k).o id=s.o id
 |0,_=>rfl
 |k+1,h=>by
  have ih:=SC (oc:=oc) (ac:=ac) (E:=E) (id:=id) k fun j hj=>h j ag
  simp only[eD]
  split
  ·rw[nA (h k (by omega))];exact ih
  ·exact ih
theorem CN(bd:P.follows .mixedOrders=true){ops:Array Oper}{l:List bM}{id:Nat}(su:lA n ops ops.toList=some l)(uE:∀k,k<ops.size->∀j∈bA ops k,j<k){ac:Nat->fh}{dl wl:List Nat}
 (hs:b8 M cA H0 w0 n cx φ s a w) (Vx:∀i,i<ops.size->SB P (eD (bU l) ac (fun _=>true) s i) (s.nx+i) (bU l i) (ac i))
 (Ay:∀i,i<ops.size->ac i= .dx->∃j∈bA ops i,(ac j).ok=false)
 {po:Nat->Nat->Prop} (G6:∀E:Nat->Bool,(∀k,k<ops.size->E k=true->∀j∈bA ops k,E j=true)->∀k,k<ops.size->(∀j∈bA ops k,E j=true)->∀j,po k j->E j=true) (CO:∀k,k<ops.size->∀j,po k j->j<k)
 (hc:∀i j,i<j->j<ops.size-> ¬po j i->Compat (bU l) ac (fun i=>xG (ac i)) i j)
 (hdl:∀i,i<ops.size->∀t,(bU l i).dst=some t->dl.contains t=true) (hwl:∀i,i<ops.size->∀id∈kZ (ac i),wl.contains id=true)
 (Pt:∀i v ws rd,i<ops.size->ac i= .bE v ws rd->∀id∈ws,wl.contains id=true)
 (hQ:(∀i,i<ops.size->(ac i).ok=true)->∀φ a w,b8 M cA H0 w0 n cx φ ⟨(eD (bU l) ac (fun _=>true) s ops.size).env,(eD (bU l) ac (fun _=>true) s ops.size).o,s.nx+ops.size⟩ a w->Q .normal a w)
 (hX:∀i v ws rd,i<ops.size->ac i= .bE v ws rd->∀φ a w val,b8 M cA H0 w0 n cx φ (uh dl wl ops.size s) a w->V.den (ao M φ (uh dl wl ops.size s).H) φ (uh dl wl ops.size s).H w v val->Q (.panic [{v:=val,recovered:=false}]) a w):
 (Code.region id ops true).wpIn (dN ro) k P Q a w:=by
 refine wpIn_region_any bd ?_
 have hs:=CM hs
 generalize ({w with drawn:=w.drawn+1}:World)=w at hs
 let N:=ops.size
 let Ef (au:Array Bool) (k:Nat):Bool:=au.getD k false
 let GA (au:Array Bool) (j:Nat):Prop:=j<s.nx\/∃k,k<N/\Ef au k=true/\j=s.nx+k
 have key:∀ (fuel:Nat) (au:Array Bool) (φ:Place) (a:Act) (w:World),au.size=N->au.count true+fuel=N->(∀k,k<N->Ef au k=true->∀j∈bA ops k,Ef au j=true)->(∀k,k<N->Ef au k=true->(ac k).ok=true)->
  ug M cA H0 w0 n cx φ (eD (bU l) ac (Ef au) s N) (GA au) a w->wpAnyIn (dN ro) k P .any ops Q fuel au a w:=by
  have fin:∀ (au:Array Bool) (φ:Place) (a:Act) (w:World),(∀k,k<N->Ef au k=true)->(∀k,k<N->Ef au k=true->(ac k).ok=true)->ug M cA H0 w0 n cx φ (eD (bU l) ac (Ef au) s N) (GA au) a w->Q .normal a w:=by
   intro au φ a w bc Ft hu
   have e:∀k,k<=N->eD (bU l) ac (Ef au) s k=eD (bU l) ac (fun _=>true) s k:=by
    intro k
    induction k with
    |zero=>intro _;rfl
    |succ k ih=>intro hk;simp only[eD,bc k (by omega),ih (by omega)]
   rw[e N (Nat.le_refl _)]at hu
   obtain⟨k1,k2⟩:=jt (us':=fun id=>id<s.nx+N) hu.heap (fun id h=>by
    show id<s.nx+N
    rcases h with h|⟨k,hk,_,rfl⟩<;>omega)
   exact hQ (fun i hi=>Ft i hi (bc i hi)) φ a w ⟨k1,hu.tr.trans k2,hu.size,hu.defers.mono k2,fun i=>V.aO k2 _ _ (hu.env i)⟩
  intro fuel
  induction fuel with
  |zero=>
   intro au φ a w dO Jl mX Ft hu
   have bc:∀k,k<N->Ef au k=true:=by
    intro k hk
    have h1:au.count true=au.size:=ag
    rw[Array.count_eq_size]at h1
    have:=h1 au[k] (Array.getElem_mem ag)
    simp only[Ef,Array.getD_eq_getD_getElem?]
    rw[Array.getElem?_eq_getElem (by omega)]
    simpa using this.symm
   refine⟨?_,fin au φ a w bc Ft hu⟩
   rw[List.eq_nil_iff_forall_not_mem]
   intro k hk
   obtain⟨h1,o,h2,_⟩:=mem_ready.1 hk
   have hkN:k<N:=(Array.getElem?_eq_some_iff.1 h2).1
   have:=bc k hkN
   simp only[Ef,Array.getD_eq_getD_getElem?]at this h1
   rw[Array.getElem?_eq_getElem (by omega)]at this h1
   simp only[Option.getD_some]at this h1
   rw[this]at h1;cases h1
  |succ fuel ih=>
   intro au φ a w dO Jl mX Ft hu
   refine⟨fun hr=>fin au φ a w (pB uE dO hr) Ft hu,fun i hi=> ?_⟩
   obtain⟨h1,o,h2,h3⟩:=mem_ready.1 hi
   have ui:i<N:=(Array.getElem?_eq_some_iff.1 h2).1
   have mW:Ef au i=false:=by
    simp only[Ef,Array.getD_eq_getD_getElem?]at h1|-
    rw[Array.getElem?_eq_getElem (by omega)]at h1|-
    simpa using h1
   have L8:∀j∈bA ops i,Ef au j=true:=by
    exact UW
   have Ma:Ax N po (Ef au):=fun k hk jl=>G6 _ mX k hk (mX k hk jl)
   obtain⟨ag1,ag2⟩:=agree (s:=s) CO hc Ma ui mW (G6 _ mX i ui L8)
   obtain⟨g1,g2,g3,g4⟩:=yJ (vG _ _ i o su uZ)
   have cP: ¬GA au (s.nx+i):=by
    rintro(h|⟨k,_,hk,he⟩)
    ·omega
    ·have:k=i:=ag
     subst this;rw[mW]at hk;cases hk
   have CJ:∀k,Ef (au.setIfInBounds i true) k=(Ef au k||k==i):=by
    intro k
    simp only[Ef,Array.getD_eq_getD_getElem?]
    by_cases e:k=i
    ·subst e;simp[dO,ui]
    ·rw[Array.getElem?_setIfInBounds_ne (Ne.symm e)]
     have:(k==i)=false:=by simpa using e
     simp[this]
   have Vy:=insert (s:=s) hc Ma ui mW CJ
   have Vz:∀k,k<N->Ef (au.setIfInBounds i true) k=true->∀j∈bA ops k,Ef (au.setIfInBounds i true) j=true:=by
    intro k hk jl j hj
    rw[CJ]at jl|-
    by_cases e:k=i
    ·subst e;simp[L8 j hj]
    ·have:(k==i)=false:=by simpa using e
     rw[this,Bool.or_false]at jl
     simp[mX k hk jl j hj]
   have Mb:(au.setIfInBounds i true).count true+fuel=N:=by
    have cG:i<au.size:=ag
    have e1:au.setIfInBounds i true=au.set i true cG:=by simp[Array.setIfInBounds,cG]
    have e2:au[i]=false:=by
     have:=mW
     simp only[Ef,Array.getD_eq_getD_getElem?]at this
     rw[Array.getElem?_eq_getElem cG]at this
     simpa using this
    rw[e1,Array.count_set cG,e2]
    simp
    omega
   have lz:(ac i).ok=true->∀aG a' w',ug M cA H0 w0 n cx aG (xj o.dst (ac i) (eD (bU l) ac (Ef au) s N)) (fun id=>GA au id\/id=s.nx+i) a' w'->wpAnyIn (dN ro) k P .any ops Q fuel (au.setIfInBounds i true) a' w':=by
    intro abG aG a' w' BM
    refine ih _ aG a' w' (by simp[dO]) Mb Vz (fun k hk jl=> ?_) ?_
    ·rw[CJ]at jl
     by_cases e:k=i
     ·subst e;exact abG
     ·have:(k==i)=false:=by simpa using e
      rw[this,Bool.or_false]at jl
      exact Ft k hk jl
    rw[Vy,g2]
    obtain⟨k1,k2⟩:=jt (us':=GA (au.setIfInBounds i true)) BM.heap (fun id h=>by
     rcases h with(h|⟨k,hk,jl,rfl⟩)|rfl
     ·exact .inl h
     ·exact .inr ⟨k,hk,by rw[CJ,jl];rfl,rfl⟩
     ·exact .inr ⟨i,ui,by rw[CJ];simp,rfl⟩)
    exact aaD
   have Jm:∀d want,(bU l i).gd=some (d,want)->(eD (bU l) ac (Ef au) s N).env d=(eD (bU l) ac (fun _=>true) s i).env d:=fun d want hd=>ag1 d (by simp[fb,tmpsOf,hd])
   have aW:=Vx i ui
   have Lw:∀x∈(bU l i).op.operands,(eD (bU l) ac (Ef au) s N).ev x=(eD (bU l) ac (fun _=>true) s i).ev x:=fun x hx=>CK fun t ht=>ag1 t (by
    subst ht
    simp only[fb,tmpsOf,List.mem_append,List.mem_filterMap]
    exact .inl (.inl ⟨.tmp t,Array.mem_toList_iff.2 hx,rfl⟩))
   have Va:(eD (bU l) ac (Ef au) s N).nx=(eD (bU l) ac (fun _=>true) s i).nx:=(kW N).trans (kW i).symm
   unfold wpOpIn
   simp only[h2]
   cases xg:ac i with
   |skip=>
    rw[xg]at aW lz
    have hw:=fI hu.env g4 (fK Jm aW)
    simp only[hw,Bool.false_eq_true,if_false]
    refine⟨fun _ _=>trivial,lz rfl φ _ w ?_⟩
    have:=jJ (v:= .bW []) (val:=undef) hu hu.heap (Trans.refl _ _ _) ⟨#[],rfl,rfl⟩ (dst:=o.dst) g3 rfl (us':=fun id=>GA au id\/id=s.nx+i) (fun id h=> .inl h)
    exact this
   |val v Δ rd=>
    rw[xg]at aW lz
    have hw:=fI hu.env g4 (fK Jm aW.1)
    exact abc
   |bE v ws rd=>
    rw[xg]at aW
    have hw:=fI hu.env g4 (fK Jm aW.1)
    simp only[hw,if_true]
    have iY:=CL Lw (fun id aq=>ag2 id (by rw[xg];exact aq)) Va aW.2
    refine L9 (s0:=s) (ds:=dl) (wl:=wl) (N:=N) hu (fun id h=> .inl (by rw[kW]at h;exact h)) (fun id h=> ?_) g1.symm iY (fun t ht=> ?_) (fun id aq=> ?_) (Pt i v ws rd ui xg) (kW N).symm (fun aG w' val h1 h2=>hX i v ws rd ui xg aG a w' val h1 h2)
    ·rw[kW]
     rcases h with h|⟨k,hk,_,rfl⟩<;>omega
    ·refine G5 N fun j hj e=> ?_
     have:=hdl j hj t e
     rw[ht]at this;cases this
    ·refine SC N fun j hj hm=> ?_
     have:=hwl j hj id hm
     rw[aq]at this;cases this
   |dx=>
    exfalso
    obtain⟨j,hj,VA⟩:=Ay i ui xg
    have:=Ft j (Nat.lt_trans (uE i ui j hj) ui) (L8 j hj)
    rw[VA]at this;cases this
 refine key ops.size _ φ a w (by simp[N]) (by simp[N,Array.count_replicate]) (fun k hk jl=> ?_) (fun k hk jl=> ?_) ?_
 ·exact OW
 ·exact OW
 ·have e:∀k,eD (bU l) ac (Ef (Array.replicate ops.size false)) s k=s:=by
   intro k
   induction k with
   |zero=>rfl
   |succ k ih=>
    have:Ef (Array.replicate ops.size false) k=false:=by
     exact R3
    simp only[eD,this,ih]
    rfl
  exact abh
end
end
section
section
variable {P:Program}{M:Nat->Prop}{φ cA:Place}{H0:Hp}{w w' w0:World}{n:Nat}{s:S}{us:Nat->Prop}{a:Act}{cx:Cx}{ro:Option Nat}{k:Nat}
variable {Q:Exit->Act->World->Prop}
theorem Jn{ops:Array Oper}{po:Nat->Nat->Prop}{m:Nat}{X:V->S->Prop}{K:S->Prop}
 (uE:∀k,k<ops.size->∀j∈bA ops k,j<k)
 (G6:∀E:Nat->Bool,(∀k,k<ops.size->E k=true->∀j∈bA ops k,E j=true)->∀k,k<ops.size->(∀j∈bA ops k,E j=true)->∀j,po k j->E j=true)
 (G7:∀k,m<=k->k<ops.size->∀j,j<k->po k j)
 (hK:∀s φ a w,K s->b8 M cA H0 w0 n cx φ s a w->Q .normal a w)
 (hX:∀v s' aG a' w' val,X v s'->b8 M cA H0 w0 n cx aG s' a' w'->V.den (ao M aG s'.H) aG s'.H w' v val->Q (.panic [{v:=val,recovered:=false}]) a' w'):
 ∀ (d t:Nat) (s:S) (φ:Place) (au:Array Bool) (a:Act) (w:World),t+d=ops.size->au.size=ops.size->(∀k,k<ops.size->au.getD k false=decide (k<t))->m<=t->
   b8 M cA H0 w0 n cx φ s a w->Ab P n ops X K (ops.toList.drop t) s->wpAnyIn (dN ro) k P .any ops Q d au a w:=by
 intro d
 induction d with
 |zero=>
  intro t s φ au a w ht dO hl KC hs h
  have e:t=ops.size:=ag
  subst e
  refine⟨?_, ?_⟩
  ·rw[List.eq_nil_iff_forall_not_mem]
   intro j hj
   obtain⟨h1,o,h2,_⟩:=mem_ready.1 hj
   have hjN:j<ops.size:=(Array.getElem?_eq_some_iff.1 h2).1
   have:=hl j hjN
   simp only[Array.getD_eq_getD_getElem?]at this h1
   rw[Array.getElem?_eq_getElem (by omega)]at this h1
   simp only[Option.getD_some]at this h1
   rw[h1]at this
   simp[hjN]at this
  ·rw[List.drop_eq_nil_of_le (by simp)]at h
   exact hK s φ a w h hs
 |succ d ih=>
  intro t s φ au a w ht dO hl KC hs h
  have htN:t<ops.size:=ag
  refine⟨fun hr=> ?_,fun i hi=> ?_⟩
  ·have:=pB uE dO hr t htN
   rw[hl t htN]at this
   simp at this
  ·obtain⟨h1,o,h2,h3⟩:=mem_ready.1 hi
   have ui:i<ops.size:=(Array.getElem?_eq_some_iff.1 h2).1
   have mW:au.getD i false=false:=by
    simp only[Array.getD_eq_getD_getElem?]at h1|-
    rw[Array.getElem?_eq_getElem (by omega)]at h1|-
    simpa using h1
   have hit:t<=i:=by
    have:=hl i ui
    rw[mW]at this
    have:=of_decide_eq_false this.symm
    omega
   have L8:∀j∈bA ops i,au.getD j false=true:=by
    exact UW
   have mX:∀k,k<ops.size->au.getD k false=true->∀j∈bA ops k,au.getD j false=true:=by
    intro k hk jl j hj
    have hjk:=uE k hk j hj
    rw[hl k hk]at jl
    rw[hl j (by omega)]
    have:=of_decide_eq_true jl
    exact decide_eq_true ag
   have Vn:i=t:=by
    rcases Nat.eq_or_lt_of_le hit with e|e
    ·exact e.symm
    ·have:=G6 (fun k=>au.getD k false) mX i ui L8 t (G7 i ag ui t e)
     rw[hl t htN]at this
     simp at this
   subst Vn
   have CP:ops.toList.drop i=o::ops.toList.drop (i+1):=by
    have Vm:i<ops.toList.length:=by simpa using ui
    rw[List.drop_eq_getElem_cons Vm]
    have:ops.toList[i]=o:=by
     have:=(Array.getElem?_eq_some_iff.1 h2).2
     simpa using this
    rw[this]
   rw[CP]at h
   obtain⟨g1,g2⟩:=qB hs h
   have Pk:∀k,k<ops.size->(au.setIfInBounds i true).getD k false=decide (k<i+1):=by
    intro k hk
    simp only[Array.getD_eq_getD_getElem?]
    by_cases e:k=i
    ·subst e;simp[dO,ui]
    ·rw[Array.getElem?_setIfInBounds_ne (Ne.symm e)]
     have:=hl k hk
     simp only[Array.getD_eq_getD_getElem?]at this
     rw[this]
     exact decide_eq_decide.2 ag
   have lz:∀s' aG a' w',Ab P n ops X K (ops.toList.drop (i+1)) s'->b8 M cA H0 w0 n cx aG s' a' w'->wpAnyIn (dN ro) k P .any ops Q d (au.setIfInBounds i true) a' w':=
    fun s' aG a' w' hk jr=>ih (i+1) s' aG _ a' w' ag (by simp[dO]) Pk ag jr hk
   unfold wpOpIn
   simp only[h2]
   split
   ·rename_i hw
    exact yy hs (g1 hw) (fun s' aG a' w' hk jr=>lz s' aG a' w' hk jr) (fun v s' aG w' val hx jr hd=>hX v s' aG a w' val hx jr hd)
   ·rename_i hw
    obtain⟨cQ,h3⟩:=g2 (by simpa using hw)
    exact⟨fun _ _=>trivial,lz _ _ _ _ h3 (Cw hs cQ)⟩
theorem Fu(bd:P.follows .mixedOrders=true){ops:Array Oper}{l:List bM}{id:Nat}(su:lA n ops ops.toList=some l)(uE:∀k,k<ops.size->∀j∈bA ops k,j<k){ac:Nat->fh}{m:Nat}(hm:m<=ops.size){X:V->S->Prop}{K:S->Prop}
 (hs:b8 M cA H0 w0 n cx φ s a w) (Vx:∀i,i<m->SB P (eD (bU l) ac (fun _=>true) s i) (s.nx+i) (bU l i) (ac i))
 (abH:∀i,i<m->(ac i).ok=true)
 {po:Nat->Nat->Prop} (G6:∀E:Nat->Bool,(∀k,k<ops.size->E k=true->∀j∈bA ops k,E j=true)->∀k,k<ops.size->(∀j∈bA ops k,E j=true)->∀j,po k j->E j=true) (CO:∀k,k<ops.size->∀j,po k j->j<k)
 (hc:∀i j,i<j->j<m-> ¬po j i->Compat (bU l) ac (fun i=>xG (ac i)) i j)
 (G7:∀k,m<=k->k<ops.size->∀j,j<k->po k j)
 (cL:Ab P n ops X K (ops.toList.drop m) ⟨(eD (bU l) ac (fun _=>true) s m).env,(eD (bU l) ac (fun _=>true) s m).o,s.nx+m⟩)
 (hK:∀s φ a w,K s->b8 M cA H0 w0 n cx φ s a w->Q .normal a w)
 (hX:∀v s' aG a' w' val,X v s'->b8 M cA H0 w0 n cx aG s' a' w'->V.den (ao M aG s'.H) aG s'.H w' v val->Q (.panic [{v:=val,recovered:=false}]) a' w'):
 (Code.region id ops true).wpIn (dN ro) k P Q a w:=by
 refine wpIn_region_any bd ?_
 have hs:=CM hs
 generalize ({w with drawn:=w.drawn+1}:World)=w at hs
 let N:=m
 let Ef (au:Array Bool) (k:Nat):Bool:=au.getD k false
 let GA (au:Array Bool) (j:Nat):Prop:=j<s.nx\/∃k,k<N/\Ef au k=true/\j=s.nx+k
 have key:∀ (fuel:Nat) (au:Array Bool) (φ:Place) (a:Act) (w:World),au.size=ops.size->au.count true+fuel=ops.size->(∀k,k<ops.size->Ef au k=true->∀j∈bA ops k,Ef au j=true)->(∀k,k<ops.size->Ef au k=true->k<m)->
  ug M cA H0 w0 n cx φ (eD (bU l) ac (Ef au) s N) (GA au) a w->wpAnyIn (dN ro) k P .any ops Q fuel au a w:=by
  have fin:∀ (fuel:Nat) (au:Array Bool) (φ:Place) (a:Act) (w:World),au.size=ops.size->au.count true+fuel=ops.size->(∀k,k<ops.size->Ef au k=true->k<m)->(∀k,k<N->Ef au k=true)->ug M cA H0 w0 n cx φ (eD (bU l) ac (Ef au) s N) (GA au) a w->wpAnyIn (dN ro) k P .any ops Q fuel au a w:=by
   intro fuel au φ a w dO Jl cG bc hu
   have e:∀k,k<=N->eD (bU l) ac (Ef au) s k=eD (bU l) ac (fun _=>true) s k:=by
    intro k
    induction k with
    |zero=>intro _;rfl
    |succ k ih=>intro hk;simp only[eD,bc k (by omega),ih (by omega)]
   rw[e N (Nat.le_refl _)]at hu
   obtain⟨k1,k2⟩:=jt (us':=fun id=>id<s.nx+N) hu.heap (fun id h=>by
    show id<s.nx+N
    rcases h with h|⟨k,hk,_,rfl⟩<;>omega)
   have hlv:∀k,k<ops.size->au.getD k false=decide (k<m):=by
    intro k hk
    by_cases h:k<m
    ·rw[decide_eq_true h];exact bc k h
    ·rw[decide_eq_false h]
     cases hb:au.getD k false with
     |false=>rfl
     |true=>exact absurd (cG k hk hb) h
   have hcm:au.count true=m:=by
    have e1:au=Array.ofFn (n:=ops.size) fun k=>decide (k.1<m):=by
     apply Array.ext
     ·simp[dO]
     ·intro k h1 h2
      have:=hlv k ag
      simp only[Array.getD_eq_getD_getElem?]at this
      rw[Array.getElem?_eq_getElem h1]at this
      simpa using this
    have e2:au.toList=List.replicate m true++List.replicate (ops.size - m) false:=by
     apply List.ext_getElem?
     intro k
     by_cases hk:k<ops.size
     ·have h1:au.toList[k]? =some (decide (k<m)):=by
       have:=hlv k hk
       simp only[Array.getD_eq_getD_getElem?]at this
       rw[Array.getElem?_eq_getElem (by omega)]at this
       simp only[Option.getD_some]at this
       rw[Array.getElem?_toList,Array.getElem?_eq_getElem (by omega),this]
      rw[h1]
      by_cases h:k<m
      ·rw[List.getElem?_append_left (by simpa using h)]
       simp[h]
      ·rw[List.getElem?_append_right (by simpa using(by omega:m<=k))]
       rw[List.length_replicate,List.getElem?_replicate,if_pos (by omega),decide_eq_false h]
     ·rw[List.getElem?_eq_none (by simp[dO];omega),List.getElem?_eq_none (by simp;omega)]
    rw[<- Array.count_toList,e2,List.count_append,List.count_replicate_self,List.count_replicate]
    simp
   exact Jn uE G6 G7 hK hX fuel m ⟨(eD (bU l) ac (fun _=>true) s m).env,(eD (bU l) ac (fun _=>true) s m).o,s.nx+m⟩ φ au a w ag dO hlv (Nat.le_refl _) ⟨k1,hu.tr.trans k2,hu.size,hu.defers.mono k2,fun i=>V.aO k2 _ _ (hu.env i)⟩ cL
  intro fuel
  induction fuel with
  |zero=>
   intro au φ a w dO Jl mX cG hu
   have bc:∀k,k<ops.size->Ef au k=true:=by
    intro k hk
    have h1:au.count true=au.size:=ag
    rw[Array.count_eq_size]at h1
    have:=h1 au[k] (Array.getElem_mem ag)
    simp only[Ef,Array.getD_eq_getD_getElem?]
    rw[Array.getElem?_eq_getElem (by omega)]
    simpa using this.symm
   exact fin 0 au φ a w dO Jl cG (fun k hk=>bc k ag) hu
  |succ fuel ih=>
   intro au φ a w dO Jl mX cG hu
   by_cases SD:∀k,k<m->Ef au k=true
   ·exact fin (fuel+1) au φ a w dO Jl cG SD hu
   have hex:∃j,j<m/\Ef au j=false:=by
    apply Classical.byContradiction
    intro gY
    refine SD fun k hk=> ?_
    cases hb:Ef au k with
    |true=>rfl
    |false=>exact absurd ⟨k,hk,hb⟩ gY
   obtain⟨j0,hj0,abI⟩:=hex
   refine⟨fun hr=> ?_,fun i hi=> ?_⟩
   ·have:=pB uE dO hr j0 ag
    rw[show au.getD j0 false=false from abI]at this
    cases this
   obtain⟨h1,o,h2,h3⟩:=mem_ready.1 hi
   have hiS:i<ops.size:=(Array.getElem?_eq_some_iff.1 h2).1
   have mW:Ef au i=false:=by
    simp only[Ef,Array.getD_eq_getD_getElem?]at h1|-
    rw[Array.getElem?_eq_getElem (by omega)]at h1|-
    simpa using h1
   have L8:∀j∈bA ops i,Ef au j=true:=by
    exact UW
   have ui:i<N:=by
    apply Classical.byContradiction
    intro BC
    have BC:m<=i:=Nat.le_of_not_lt BC
    have:=G6 _ mX i hiS L8 j0 (G7 i BC hiS j0 ag)
    rw[abI]at this;cases this
   have Ma:Ax N po (Ef au):=fun k hk jl=>G6 _ mX k ag (mX k ag jl)
   obtain⟨ag1,ag2⟩:=agree (s:=s) (n:=N) (fun k hk=>CO k ag) hc Ma ui mW (G6 _ mX i ag L8)
   obtain⟨g1,g2,g3,g4⟩:=yJ (vG _ _ i o su uZ)
   have cP: ¬GA au (s.nx+i):=by
    rintro(h|⟨k,_,hk,he⟩)
    ·omega
    ·have:k=i:=ag
     subst this;rw[mW]at hk;cases hk
   have CJ:∀k,Ef (au.setIfInBounds i true) k=(Ef au k||k==i):=by
    intro k
    simp only[Ef,Array.getD_eq_getD_getElem?]
    by_cases e:k=i
    ·subst e;simp[dO,hiS]
    ·rw[Array.getElem?_setIfInBounds_ne (Ne.symm e)]
     have:(k==i)=false:=by simpa using e
     simp[this]
   have Vy:=insert (s:=s) hc Ma ui mW CJ
   have Vz:∀k,k<ops.size->Ef (au.setIfInBounds i true) k=true->∀j∈bA ops k,Ef (au.setIfInBounds i true) j=true:=by
    intro k hk jl j hj
    rw[CJ]at jl|-
    by_cases e:k=i
    ·subst e;simp[L8 j hj]
    ·have:(k==i)=false:=by simpa using e
     rw[this,Bool.or_false]at jl
     simp[mX k hk jl j hj]
   have Mb:(au.setIfInBounds i true).count true+fuel=ops.size:=by
    have cG:i<au.size:=ag
    have e1:au.setIfInBounds i true=au.set i true cG:=by simp[Array.setIfInBounds,cG]
    have e2:au[i]=false:=by
     have:=mW
     simp only[Ef,Array.getD_eq_getD_getElem?]at this
     rw[Array.getElem?_eq_getElem cG]at this
     simpa using this
    rw[e1,Array.count_set cG,e2]
    simp
    omega
   have lz:(ac i).ok=true->∀aG a' w',ug M cA H0 w0 n cx aG (xj o.dst (ac i) (eD (bU l) ac (Ef au) s N)) (fun id=>GA au id\/id=s.nx+i) a' w'->wpAnyIn (dN ro) k P .any ops Q fuel (au.setIfInBounds i true) a' w':=by
    intro abG aG a' w' BM
    refine ih _ aG a' w' (by simp[dO]) Mb Vz (fun k hk jl=> ?_) ?_
    ·rw[CJ]at jl
     by_cases e:k=i
     ·subst e;exact ui
     ·have:(k==i)=false:=by simpa using e
      rw[this,Bool.or_false]at jl
      exact cG k hk jl
    rw[Vy,g2]
    obtain⟨k1,k2⟩:=jt (us':=GA (au.setIfInBounds i true)) BM.heap (fun id h=>by
     rcases h with(h|⟨k,hk,jl,rfl⟩)|rfl
     ·exact .inl h
     ·exact .inr ⟨k,hk,by rw[CJ,jl];rfl,rfl⟩
     ·exact .inr ⟨i,ui,by rw[CJ];simp,rfl⟩)
    exact aaD
   have Jm:∀d want,(bU l i).gd=some (d,want)->(eD (bU l) ac (Ef au) s N).env d=(eD (bU l) ac (fun _=>true) s i).env d:=fun d want hd=>ag1 d (by simp[fb,tmpsOf,hd])
   have aW:=Vx i ui
   have Lw:∀x∈(bU l i).op.operands,(eD (bU l) ac (Ef au) s N).ev x=(eD (bU l) ac (fun _=>true) s i).ev x:=fun x hx=>CK fun t ht=>ag1 t (by
    subst ht
    simp only[fb,tmpsOf,List.mem_append,List.mem_filterMap]
    exact .inl (.inl ⟨.tmp t,Array.mem_toList_iff.2 hx,rfl⟩))
   have Va:(eD (bU l) ac (Ef au) s N).nx=(eD (bU l) ac (fun _=>true) s i).nx:=(kW N).trans (kW i).symm
   unfold wpOpIn
   simp only[h2]
   cases xg:ac i with
   |skip=>
    rw[xg]at aW lz
    have hw:=fI hu.env g4 (fK Jm aW)
    simp only[hw,Bool.false_eq_true,if_false]
    refine⟨fun _ _=>trivial,lz rfl φ _ w ?_⟩
    have:=jJ (v:= .bW []) (val:=undef) hu hu.heap (Trans.refl _ _ _) ⟨#[],rfl,rfl⟩ (dst:=o.dst) g3 rfl (us':=fun id=>GA au id\/id=s.nx+i) (fun id h=> .inl h)
    exact this
   |val v Δ rd=>
    rw[xg]at aW lz
    have hw:=fI hu.env g4 (fK Jm aW.1)
    exact abc
   |bE v ws rd=>
    have:=abH i ui
    rw[xg]at this;cases this
   |dx=>
    have:=abH i ui
    rw[xg]at this;cases this
 refine key ops.size _ φ a w aI (by simp[Array.count_replicate]) (fun k hk jl=> ?_) (fun k hk jl=> ?_) ?_
 ·exact OW
 ·exact OW
 ·have e:∀k,eD (bU l) ac (Ef (Array.replicate ops.size false)) s k=s:=by
   intro k
   induction k with
   |zero=>rfl
   |succ k ih=>
    have:Ef (Array.replicate ops.size false) k=false:=by
     exact R3
    simp only[eD,this,ih]
    rfl
  exact abh
end
end
end Go.Proofs.YtnkamdiiakdkgaaGreat
