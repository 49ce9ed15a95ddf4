/-
  A PART. Conditions: none.
-/
import Derived.OrdersIn
import Derived.Test.YtlhemmpklhhgoaaGreatQf7
set_option linter.unusedSimpArgs false
set_option linter.unusedVariables false
set_option maxHeartbeats 8000000
namespace Go.Proofs.YtlhemmpklhhgoaaGreat
section
def aa.refs:aa->List Nat
 | .row cs=>V.aN cs
 | .loop _ _ env _ _ _ _ _=>V.aN env
 |_=>[]
def Gj(R:List Nat)(o:Nat->aa):Nat->aa:=fun id=>if R.contains id=true then o id else .no
def CC(P:Program)(g:FuncId)(args:List V)(rd:List Nat)(o:Nat->aa)(out:R)(Δ:List (Nat×aa)):Prop:=
 Enters P g/\∀ (o':Nat->aa) (us:Nat->Prop) (M:Nat->Prop) (φ:Place) (w:World) (vals:Array Value),(∀id∈rd,o' id=o id/\us id)->aB M φ ⟨o',us⟩ w->V.aG (aq M φ ⟨o',us⟩) φ ⟨o',us⟩ w args vals.toList->
  Calls P g vals w fun e w'=>∃aI,aB M aI ⟨put o' Δ,us⟩ w'/\Trans φ ⟨o',us⟩ w aI ⟨put o' Δ,us⟩ w'/\out.is (aq M aI ⟨put o' Δ,us⟩) w' e
def CD(P:Program)(g:FuncId)(args:List V)(rd:List Nat)(o:Nat->aa)(fr:Nat)(v:V)(Δ:List (Nat×aa)):Prop:=
 Enters P g/\∀ (o':Nat->aa) (us:Nat->Prop) (M:Nat->Prop) (φ:Place) (w:World) (vals:Array Value),(∀id∈rd,o' id=o id/\us id)-> ¬us fr->aB M φ ⟨o',us⟩ w->V.aG (aq M φ ⟨o',us⟩) φ ⟨o',us⟩ w args vals.toList->
  Calls P g vals w fun e w'=>∃aI,aB M aI ⟨put o' Δ,fun id=>us id\/id=fr⟩ w'/\Trans φ ⟨o',us⟩ w aI ⟨put o' Δ,fun id=>us id\/id=fr⟩ w'/\∃val,e= .returned val/\V.den (aq M aI ⟨put o' Δ,fun id=>us id\/id=fr⟩) aI ⟨put o' Δ,fun id=>us id\/id=fr⟩ w' v val
mutual
theorem V.oB {B B':Nat->Prop}{φ aI:Place}{H H':Hp}{w:World}(hB:∀b, ¬B b-> ¬B' b):∀ (v:V) (val:Value),(∀id∈v.refs,H'.o id=H.o id/\aI id=φ id/\H'.us id)->V.den B φ H w v val->V.den B' aI H' w v val
 | .d x,val,_,h=>D.aV (w:=w) (w':=w) (fun b _ hn=>⟨rfl,hB b hn⟩) x val h
 | .ao,_,_,h=>h
 | .ai,_,_,_=>trivial
 | .gh,_,_,h=>h
 | .pY es,val,_,h=>⟨D.aV (w:=w) (w':=w) (fun b _ hn=>⟨rfl,hB b hn⟩) (.sl es) val h.1,h.2⟩
 | .agg cs,val,hr,h=>by
   obtain⟨a,rfl,h1,h2⟩:=h
   exact⟨a,rfl,V.hZ hB cs _ zm h1,h2⟩
 | .cf cs,val,hr,h=>by
   obtain⟨a,rfl,h1⟩:=h
   exact⟨a,rfl,V.hZ hB cs _ zm h1⟩
 | .ptr id off,val,hr,h=>by
   exact Xb
 | .osl id ep,val,hr,h=>by
   obtain⟨a,b,c⟩:=hr id pM
   obtain⟨h0,h1,h2⟩:=h
   refine⟨h0,c,fun e he=> ?_⟩
   rw[a]at he
   obtain⟨x,y⟩:=h2 e he
   exact⟨x,fun heq=>(y heq).trans b.symm⟩
 | .pe id ep i sz off,val,hr,h=>by
   obtain⟨a,b,c⟩:=hr id pM
   obtain⟨h0,h1,h2⟩:=h
   refine⟨h0,c,fun e he=> ?_⟩
   rw[a]at he
   obtain⟨x,y⟩:=h2 e he
   exact Ua
 | .pp cs off,val,_,h=>by
   obtain⟨a,ev,h1,h2,h3,h5,h4⟩:=h
   exact abL
 | .func fn first cap,val,hr,h=>by
   obtain⟨f,c,rfl,h1,h2⟩:=h
   exact⟨f,c,rfl,V.hZ hB first _ (fun id ay=>hr id (by simp[V.refs,ay])) h1,V.hZ hB cap _ (fun id ay=>hr id (by simp[V.refs,ay])) h2⟩
 | .iface t x,val,hr,h=>by
   obtain⟨u,rfl,h⟩:=h
   exact⟨u,rfl,V.oB hB x u zm h⟩
 | .zA id off n,val,hr,h=>by
   exact Xb
 | .mp id,val,hr,h=>by
   obtain⟨a,b,c⟩:=hr id pM
   obtain⟨h0,h1,h2⟩:=h
   refine⟨h0,c,fun cL=> ?_⟩
   rw[a]at cL
   exact(h2 cL).trans b.symm
 | .lC id,val,hr,h=>by
   exact Xb
theorem V.hZ {B B':Nat->Prop}{φ aI:Place}{H H':Hp}{w:World}(hB:∀b, ¬B b-> ¬B' b):∀ (vs:List V) (vals:List Value),(∀id∈V.aN vs,H'.o id=H.o id/\aI id=φ id/\H'.us id)->V.aG B φ H w vs vals->V.aG B' aI H' w vs vals
 |[],_,_,h=>h
 |v::vs,_,hr,h=>by
  obtain⟨u,us,rfl,h1,h2⟩:=h
  exact⟨u,us,rfl,V.oB hB v u (fun id ay=>hr id (by simp[V.aN,ay])) h1,V.hZ hB vs us (fun id ay=>hr id (by simp[V.aN,ay])) h2⟩
end
theorem KU{env:List V}{i id:Nat}(h:id∈(aY env i).refs):id∈V.aN env:=by
 unfold aY at h
 induction env generalizing i with
 |nil=>simp[V.refs]at h
 |cons v env ih=>
  cases i with
  |zero=>simp only[List.getD_cons_zero]at h;simp[V.aN,h]
  |succ i=>simp only[List.getD_cons_succ]at h;simp[V.aN,ih h]
theorem aU.refs {M M':Nat->Prop}{φ aI:Place}{H H':Hp}{w:World}{id:Nat}(hB:∀b, ¬aq M φ H b-> ¬aq M' aI H' b)(ho:H'.o id=H.o id)(fA:aI id=φ id)
 (hr:∀j∈(H.o id).refs,H'.o j=H.o j/\aI j=φ j/\H'.us j) (h:aU M φ H w id):aU M' aI H' w id:=by
 have hd:∀b,dt w b-> ¬aq M φ H b->w.heap[b]? =w.heap[b]? /\ ¬aq M' aI H' b:=fun b _ hn=>⟨rfl,hB b hn⟩
 unfold aU at*
 rw[ho]
 cases hx:H.o id with
 |no=>trivial
 |row cs=>
  simp only[hx]at h|-
  obtain⟨b,eG,ty,h1,h2,h3,h4⟩:=h
  exact⟨b,eG,ty,fA.trans h1,h2,V.hZ hB cs _ (fun j hj=>hr j (by rw[hx];exact hj)) h3,h4⟩
 |arr ep ty sz es=>
  simp only[hx]at h|-
  obtain⟨h0,xs,h1,evs,h2,h3,h4⟩:=h
  exact⟨h0,xs,by rw[fA];exact h1,evs,h2,h3,D.aW hd es evs h4⟩
 |vg ep es=>
  simp only[hx]at h|-
  rw[fA]
  exact D.aV hd (.sl es) _ h
 |map kt vt l=>
  simp only[hx]at h|-
  obtain⟨b,es,clock,h1,h2,h4,h3⟩:=h
  exact⟨b,es,clock,fA.trans h1,h2,h4,aK.mono hd l _ h3⟩
 |bZ l=>
  simp only[hx]at h|-
  rw[fA]
  exact lZ.mono hd h
 |s8 l last=>
  simp only[hx]at h|-
  obtain⟨b,h1,h2⟩:=h
  exact⟨b,fA.trans h1,h2.mono hd rfl⟩
 |A4 s pos=>
  simp only[hx]at h|-
  obtain⟨b,h1,h2⟩:=h
  exact⟨b,fA.trans h1,h2⟩
 |loop nf n env ps kG fV st Ki=>
  simp only[hx]at h|-
  obtain⟨b,r,h1,h2,h0,h3,h4,h5,h6,h7,h8,h9⟩:=h
  exact⟨b,r,fA.trans h1,h2,h0,h3,h4,h5,h6,h7,h8,fun i=>V.oB hB _ _ (fun j hj=>hr j (by rw[hx];exact KU hj)) (h9 i)⟩
section
variable {P:Program}
theorem Gk{o o':Nat->aa}{Δ:List (Nat×aa)}{id:Nat}(h:o id=o' id):put o Δ id=put o' Δ id:=Is h
where Is {o o':Nat->aa}:∀ {Δ:List (Nat×aa)} {id:Nat},o id=o' id->put o Δ id=put o' Δ id
 |[],_,h=>h
 |x::Δ,id,h=>by
  simp only[put,List.foldl_cons]
  refine Is (Δ:=Δ) (o:=aw o x.1 x.2) (o':=aw o' x.1 x.2) ?_
  simp only[aQ]
  split
  ·rfl
  ·exact h
theorem Bx{o:Nat->aa}:∀ {Δ:List (Nat×aa)} {id:Nat},(∀x∈Δ,x.1≠id)->put o Δ id=o id
 |[],_,_=>rfl
 |x::Δ,id,h=>by
  have:=Bx (o:=aw o x.1 x.2) (Δ:=Δ) (id:=id) (fun y hy=>h y jX)
  simp only[put,List.foldl_cons]at this|-
  rw[this];simp[Ne.symm (h x (by simp))]
theorem CC.l8 {g:FuncId}{args:List V}{rd:List Nat}{o:Nat->aa}{nx:Nat}{out:R}{Δ:List (Nat×aa)}(vl:∀id∈rd,id<nx)(dV:∀id∈V.aN args,id∈rd)(pg:∀id∈rd,∀j∈(o id).refs,j∈rd)(hΔ:∀x∈Δ,x.1∈rd)(agF:∀x∈Δ,∀j∈x.2.refs,j∈rd)
 (h:bJ P g args (Gj rd o) nx
  (fun v o1 _=>(∀id∈rd,o1 id=put o Δ id)/\∃vs rs,v=(match vs with|[v]=>v|vs=> .cf vs)/\cA o1 vs=some rs/\out= .ret rs/\∀id∈V.bw vs,id∉rd)
  (fun v o1 _=>(∀id∈rd,o1 id=put o Δ id)/\∃x,ef o1 v=some x/\out= .bU x/\∀id∈v.ids,id∉rd)):CC P g args rd o out Δ:=by
 refine⟨h.1,fun o' us M φ w vals ho hH hd=> ?_⟩
 let M1:Nat->Prop:=fun b=>M b\/∃id,id∉rd/\(o' id).live=true/\dY (φ id)=some b
 let HR:Hp:=hp (Gj rd o) nx
 have w6:∀id,id∈rd->Gj rd o id=o' id:=fun id ay=>by simp[Gj,ay,(ho id ay).1]
 have uQ:∀id,id∉rd->Gj rd o id= .no:=fun id ay=>by simp[Gj,ay]
 have hB:∀b,aq M1 φ HR b↔aq M φ ⟨o',us⟩ b:=by
  intro b
  constructor
  ·rintro((h|⟨id,h1,h2,h3⟩)|⟨id,h1,h2⟩)
   ·exact .inl h
   ·exact .inr ⟨id,h2,h3⟩
   ·by_cases ay:id∈rd
    ·exact .inr ⟨id,by show(o' id).live=true;rw[<- w6 id ay];exact h1,h2⟩
    ·have:HR.o id= .no:=uQ id ay
     rw[this]at h1;cases h1
  ·rintro(h|⟨id,h1,h2⟩)
   ·exact .inl (.inl h)
   ·by_cases ay:id∈rd
    ·exact .inr ⟨id,by show(Gj rd o id).live=true;rw[w6 id ay];exact h1,h2⟩
    ·exact .inl (.inr ⟨id,ay,h1,h2⟩)
 have Cz:∀id∈rd,HR.o id=o' id/\φ id=φ id/\HR.us id:=fun id ay=>⟨w6 id ay,rfl,vl id ay⟩
 have hHR:aB M1 φ HR w:=by
  refine⟨fun id=> ?_,fun id hn=> ?_,fun i j b hi hj bi bj=> ?_,fun b hb=> ?_,fun b hb=> ?_⟩
  ·by_cases ay:id∈rd
   ·refine aU.refs (H:=⟨o',us⟩) (M:=M) (φ:=φ) (fun b hn hb=>hn ((hB b).1 hb)) (w6 id ay) rfl (fun j hj=>Cz j ?_) (hH.ok id)
    have:o' id=o id:=(ho id ay).1
    exact pg id ay j (by rw[<- this];exact hj)
   ·unfold aU
    rw[show HR.o id= .no from uQ id ay];trivial
  ·exact uQ id fun ay=>hn (vl id ay)
  ·have live:∀i,(HR.o i).live=true->i∈rd/\(o' i).live=true:=fun i hi=>by
    by_cases ay:i∈rd
    ·exact⟨ay,by rw[<- w6 i ay];exact hi⟩
    ·rw[show HR.o i= .no from uQ i ay]at hi;cases hi
   exact hH.apart i j b (live i hi).2 (live j hj).2 bi bj
  ·obtain⟨id,h1,h2⟩:=hb
   have ay:id∈rd:=by
    by_cases ay:id∈rd
    ·exact ay
    ·rw[show HR.o id= .no from uQ id ay]at h1;cases h1
   rw[show HR.o id=o' id from w6 id ay]at h1
   obtain⟨k1,k2⟩:=hH.ours b ⟨id,h1,h2⟩
   refine⟨?_,k2⟩
   rintro(hM|⟨j,j1,j2,j3⟩)
   ·exact k1 hM
   ·exact j1 (hH.apart j id b j2 h1 j3 h2 ▸ ay)
  ·rcases hb with hb|⟨id,h1,h2,h3⟩
   ·exact hH.Cy b hb
   ·exact(hH.ours b ⟨id,h2,h3⟩).2
 have hdR:V.aG (aq M1 φ HR) φ HR w args vals.toList:=V.hZ (H:=⟨o',us⟩) (fun b hn hb=>hn ((hB b).1 hb)) _ _ (fun id ay=>Cz id (dV id ay)) hd
 refine(h.2 M1 φ w vals hHR hdR).mono ?_
 rintro e w' ⟨jI,o1,Gl,v,k1,k2,k3⟩
 have main:(∀id∈rd,o1 id=put o Δ id)->∃aI,aB M aI ⟨put o' Δ,us⟩ w'/\Trans φ ⟨o',us⟩ w aI ⟨put o' Δ,us⟩ w'/\∀b,aq M aI ⟨put o' Δ,us⟩ b->M1 b\/∃id∈rd,(o1 id).live=true/\dY (jI id)=some b:=by
  intro yy
  have Ih:∀id∈rd,put o' Δ id=o1 id:=fun id ay=>(Gk (ho id ay).1).trans (yy id ay).symm
  have Ig:∀id,id∉rd->put o' Δ id=o' id:=fun id ay=>Bx fun x hx e=>ay (e ▸ hΔ x hx)
  let Gb:Place:=fun id=>if id∈rd then jI id else φ id
  have Bz:∀id∈rd,Gb id=jI id:=fun id ay=>if_pos ay
  have DG:∀id,id∉rd->Gb id=φ id:=fun id ay=>if_neg ay
  let H2:Hp:=⟨put o' Δ,us⟩
  have dg:∀b,cO Gb H2 b->(∃id∈rd,(o1 id).live=true/\dY (jI id)=some b)\/∃id,id∉rd/\(o' id).live=true/\dY (φ id)=some b:=by
   rintro b ⟨id,h1,h2⟩
   by_cases ay:id∈rd
   ·exact .inl ⟨id,ay,by rw[<- Ih id ay];exact h1,by rw[<- Bz id ay];exact h2⟩
   ·exact .inr ⟨id,ay,by rw[<- Ig id ay];exact h1,by rw[<- DG id ay];exact h2⟩
  have hB2:∀b,aq M Gb H2 b->aq M1 jI (hp o1 Gl) b:=by
   rintro b (hb|hb)
   ·exact .inl (.inl hb)
   ·rcases dg b hb with⟨id,h1,h2,h3⟩|⟨id,h1,h2,h3⟩
    ·exact .inr ⟨id,h2,h3⟩
    ·exact .inl (.inr ⟨id,h1,h2,h3⟩)
  have ac5:eH φ ⟨o',us⟩ Gb H2:=by
   refine⟨fun id h=>h,fun id hu hr=> ?_,fun id e' hu he=> ?_⟩
   ·by_cases ay:id∈rd
    ·rw[show H2.o id=o1 id from Ih id ay]at hr
     obtain⟨a,b⟩:=k2.rel.row id (vl id ay) hr
     rw[show HR.o id=o' id from w6 id ay]at a
     exact⟨a,(Bz id ay).trans b⟩
    ·rw[show H2.o id=o' id from Ig id ay]at hr
     exact⟨hr,DG id ay⟩
   ·by_cases ay:id∈rd
    ·rw[show H2.o id=o1 id from Ih id ay]at he
     obtain⟨e0,a,b,c⟩:=k2.rel.ep id e' (vl id ay) he
     rw[show HR.o id=o' id from w6 id ay]at a
     exact⟨e0,a,b,fun heq=>(Bz id ay).trans (c heq)⟩
    ·rw[show H2.o id=o' id from Ig id ay]at he
     exact⟨e',he,Nat.le_refl _,fun _=>DG id ay⟩
  have rA:∀b,dt w b-> ¬aq M φ ⟨o',us⟩ b->w'.heap[b]? =w.heap[b]? /\ ¬aq M Gb H2 b:=by
   intro b hc hn
   obtain⟨a,c⟩:=k2.blocks (M:=M1) b hc (fun hb=>hn ((hB b).1 hb))
   exact⟨a,fun hb=>c (hB2 b hb)⟩
  have uL:∀b,b<w.heap.size-> ¬cO φ HR b->w'.heap[b]? =w.heap[b]? :=fun b hb hl=>k2.cP.block b hb hl
  have ht:Trans φ ⟨o',us⟩ w Gb H2 w':=by
   refine⟨⟨k2.cP.os,k2.cP.tape,k2.cP.output,k2.cP.size,fun b hb hl=>uL b hb fun⟨id,h1,h2⟩=>hl ?_⟩,fun b hb=> ?_,ac5⟩
   ·by_cases ay:id∈rd
    ·exact⟨id,by show(o' id).live=true;rw[<- w6 id ay];exact h1,h2⟩
    ·rw[show HR.o id= .no from uQ id ay]at h1;cases h1
   ·rcases dg b hb with⟨id,h1,h2,h3⟩|⟨id,h1,h2,h3⟩
    ·rcases k2.grow b ⟨id,h2,h3⟩with⟨j,j1,j2⟩|yA
     ·by_cases ay:j∈rd
      ·exact .inl ⟨j,by show(o' j).live=true;rw[<- w6 j ay];exact j1,j2⟩
      ·rw[show HR.o j= .no from uQ j ay]at j1;cases j1
     ·exact .inr yA
    ·exact .inl ⟨id,h2,h3⟩
  refine⟨Gb,⟨fun id=> ?_,fun id hn=> ?_,fun i j b hi hj bi bj=> ?_,fun b hb=> ?_,fun b hb=>Nat.lt_of_lt_of_le (hH.Cy b hb) k2.cP.size⟩,ht,fun b hb=> ?_⟩
  ·by_cases ay:id∈rd
   ·refine aU.refs (H:=hp o1 Gl) (M:=M1) (φ:=jI) (fun b hn hb=>hn (hB2 b hb)) (Ih id ay) (Bz id ay) (fun j hj=> ?_) (k1.ok id)
    have LV:j∈rd:=by
     have e1:o1 id=put o Δ id:=yy id ay
     have hj:j∈(put o Δ id).refs:=by rw[<- e1];exact hj
     have key:∀ (It:List (Nat×aa)) (q:Nat->aa),(∀x∈It,∀j∈x.2.refs,j∈rd)->(∀j∈(q id).refs,j∈rd)->∀j∈(put q It id).refs,j∈rd:=by
      intro It
      induction It with
      |nil=>intro q _ h2;exact h2
      |cons x It ih=>
       intro q h1 h2
       simp only[put,List.foldl_cons]
       refine ih (aw q x.1 x.2) (fun y hy=>h1 y jX) ?_
       simp only[aQ]
       split
       ·exact h1 x aF
       ·exact h2
     exact key Δ o agF (pg id ay) j hj
    exact⟨Ih j LV,Bz j LV,(ho j LV).2⟩
   ·exact aU.C3 rA ac5 (Ig id ay) (DG id ay) (fun hl b hb=>uL b (hH.ours b ⟨id,hl,hb⟩).2 fun⟨j,j1,j2⟩=>by
     by_cases hj:j∈rd
     ·rw[show HR.o j=o' j from w6 j hj]at j1
      exact ay (hH.apart id j b hl j1 hb j2 ▸ hj)
     ·rw[show HR.o j= .no from uQ j hj]at j1;cases j1) (hH.ok id)
  ·have ay:id∉rd:=fun ay=>hn (ho id ay).2
   exact(Ig id ay).trans (hH.fresh id hn)
  ·by_cases e1:i∈rd<;>by_cases e2:j∈rd
   ·refine k1.apart i j b ?_ ?_ (by rw[<- Bz i e1];exact bi) (by rw[<- Bz j e2];exact bj)
    ·show(o1 i).live=true;rw[<- Ih i e1];exact hi
    ·show(o1 j).live=true;rw[<- Ih j e2];exact hj
   ·exfalso
    refine(k1.ours b ⟨i,by show(o1 i).live=true;rw[<- Ih i e1];exact hi,by rw[<- Bz i e1];exact bi⟩).1 (.inr ⟨j,e2,by rw[<- Ig j e2];exact hj,by rw[<- DG j e2];exact bj⟩)
   ·exfalso
    refine(k1.ours b ⟨j,by show(o1 j).live=true;rw[<- Ih j e2];exact hj,by rw[<- Bz j e2];exact bj⟩).1 (.inr ⟨i,e1,by rw[<- Ig i e1];exact hi,by rw[<- DG i e1];exact bi⟩)
   ·exact hH.apart i j b (by show(o' i).live=true;rw[<- Ig i e1];exact hi) (by show(o' j).live=true;rw[<- Ig j e2];exact hj) (by rw[<- DG i e1];exact bi) (by rw[<- DG j e2];exact bj)
  ·rcases dg b hb with⟨id,h1,h2,h3⟩|⟨id,h1,h2,h3⟩
   ·obtain⟨a,c⟩:=k1.ours b ⟨id,h2,h3⟩
    exact⟨fun hM=>a (.inl hM),c⟩
   ·obtain⟨a,c⟩:=hH.ours b ⟨id,h2,h3⟩
    exact⟨a,Nat.lt_of_lt_of_le c k2.cP.size⟩
  ·rcases hb with hb|hb
   ·exact .inl (.inl hb)
   ·rcases dg b hb with h|h
    ·exact .inr h
    ·exact .inl (.inr h)
 have res:∀ (vs:List V) (xs:List D) (us':List Value),(∀id∈rd,o1 id=put o Δ id)->cA o1 vs=some xs->(∀id∈V.bw vs,id∉rd)->V.aG (aq M1 jI (hp o1 Gl)) jI (hp o1 Gl) w' vs us'->
  ∃aI,aB M aI ⟨put o' Δ,us⟩ w'/\Trans φ ⟨o',us⟩ w aI ⟨put o' Δ,us⟩ w'/\D.aG (aq M aI ⟨put o' Δ,us⟩) w' xs us':=by
  intro vs xs us' yy h1 agG h2
  obtain⟨f1,f2,f3,f4,f5⟩:=dh k1 (V.bw vs) (dw vs _ h2)
  have h3:=dN f1 vs xs us' f3 h1 (V.aW f2 _ _ h2)
  obtain⟨aI,m1,m2,m3⟩:=main yy
  refine⟨aI,m1,m2,D.aW (w:=w') (w':=w') (fun b _ hn=>⟨rfl,fun hb=>hn ?_⟩) xs us' h3⟩
  rcases m3 b hb with hb|⟨id,i1,i2,i3⟩
  ·exact .inl hb
  ·exact .inr ⟨id,by rw[f4 id fun hm=>agG id hm i1];exact i2,i3⟩
 cases e with
 |outgrown=>exact k3.elim
 |panicked ch=>
  obtain⟨val,rfl,g1,yy,x,g2,rfl,g3⟩:=k3
  obtain⟨aI,m1,m2,m3⟩:=res [v] [x] [val] yy (by simp[cA,g2]) (by simpa[V.bw]using g3) ⟨val,[],rfl,g1,rfl⟩
  obtain⟨u,us2,he,h2,_⟩:=m3
  simp at he;obtain⟨rfl,rfl⟩:=he
  exact⟨aI,m1,m2,val,rfl,h2⟩
 |returned val=>
  obtain⟨g1,yy,vs,rs,rfl,g2,rfl,g3⟩:=k3
  match vs,g1,g2,g3 with
  |[],g1,g2,g3=>
   obtain⟨arr,rfl,hv⟩:=g1
   simp only[cA,Option.some.injEq]at g2;subst g2
   obtain⟨aI,m1,m2,m3⟩:=res [] [] arr.toList yy rfl (by simp[V.bw]) hv
   exact⟨aI,m1,m2,arr,rfl,m3⟩
  |[v],g1,g2,g3=>
   obtain⟨aI,m1,m2,m3⟩:=res [v] rs [val] yy g2 g3 ⟨val,[],rfl,g1,rfl⟩
   refine⟨aI,m1,m2, ?_⟩
   cases rs with
   |nil=>cases m3
   |cons x l=>
    obtain⟨u,us2,he,h2,h3⟩:=m3
    simp at he;obtain⟨rfl,rfl⟩:=he
    cases l with
    |nil=>exact h2
    |cons y l=>obtain⟨_,_,h,_⟩:=h3;cases h
  |v::v2::l,g1,g2,g3=>
   obtain⟨arr,rfl,hv⟩:=g1
   obtain⟨aI,m1,m2,m3⟩:=res (v::v2::l) rs arr.toList yy g2 g3 hv
   refine⟨aI,m1,m2, ?_⟩
   have hl:=D.aE _ _ m3
   have Qc:=V.aE _ _ hv
   match rs,hl,m3 with
   |[],hl,_=>exact HJ
   |[x],hl,_=>exact HJ
   |x::y::l,_,m3=>exact⟨arr,rfl,m3⟩
end
end
section
inductive fX where
 |skip|val (v:V) (Δ:List (Nat×aa)) (rd:List Nat)|bU (v:V) (ws rd:List Nat)|dY
 deriving Inhabited
def fX.ok:fX->Bool
 | .skip| .val .. =>true
 |_=>false
def yB(dst:Option Tmp)(x:fX)(s:S):S:=
 match x with
 | .skip=>⟨ba s.env dst (.cf []),s.o,s.nx⟩
 | .val v Δ _=>⟨ba s.env dst v,put s.o Δ,s.nx⟩
 | .bU .. | .dY=>⟨ba s.env dst .ai,s.o,s.nx⟩
def ma:fX->List Nat
 | .val _ Δ _=>Δ.map (·.1)
 |_=>[]
def yV:fX->List Nat
 | .val _ _ rd=>rd
 | .bU _ _ rd=>rd
 |_=>[]
def Qk(P:Program)(g:FuncId)(ds:List D)(v:V):Prop:=
 Enters P g/\∀ (M:Nat->Prop) (w:World) (vals:Array Value),(∀b,M b->b<w.heap.size)->D.aG M w ds vals.toList->
  Calls P g vals w fun e w'=>dZ (fun _=>False) w w'/\∃val,e= .returned val/\∀φ H,V.den M φ H w' v val
theorem Qk.l8 {P:Program}{g:FuncId}{ds:List D}{v:V}(hr:v.refs=[])(h:bJ P g (ds.map .d) (fun _=> .no) 0 (fun v' _ _=>v'=v) (fun _ _ _=>False)):Qk P g ds v:=by
 refine⟨h.1,fun M w vals hM hd=> ?_⟩
 let cY:Place:=fun _=> .nilFunc
 have uL:∀b, ¬cO cY (hp (fun _=> .no) 0) b:=by rintro b ⟨id,hl,_⟩;simp[hp,aa.live]at hl
 refine(h.2 M cY w vals (pk cY hM) ((V.cT _ _).2 (D.aW (w:=w) (w':=w) (B:=M) (fun b _ hB=>⟨rfl,fun h=>h.elim hB (uL b)⟩) _ _ hd))).mono ?_
 rintro e w' ⟨aI,o',nx',v',k1,k2,k3⟩
 refine⟨⟨k2.cP.os,k2.cP.tape,k2.cP.output,k2.cP.size,fun k hk _=>k2.cP.block k hk (uL k)⟩, ?_⟩
 cases e with
 |outgrown=>exact k3.elim
 |panicked ch=>obtain⟨_,_,_,h⟩:=k3;exact h.elim
 |returned val=>
  obtain⟨g1,rfl⟩:=k3
  exact⟨val,rfl,fun φ H=>V.oB (B:=aq M aI (hp o' nx')) (φ:=aI) (H:=hp o' nx') (fun b hb hm=>hb (.inl hm)) v' val (fun id ay=>by rw[hr]at ay;cases ay) g1⟩
def z7(P:Program)(s:S)(fr:Nat)(op:Op)(v:V)(Δ:List (Nat×aa))(rd:List Nat):Prop:=
 ((∃vF,iu P s fr op=some (v,Δ,vF))/\rd=pV s op)\/
 (∃c f g first cap,op= .call c/\c.callee= .value f/\s.ev f= .func (.func g) first cap/\
  ((∃ds rs,cA s.o (first++c.args.toList.map s.ev++cap)=some ds/\a7 P g ds (.ret rs)/\v=jM rs/\rd=pV s op/\
    (Δ=bK s.o (V.bw (first++c.args.toList.map s.ev++cap))\/D.kN rs=true/\Δ=[]))\/
   (∃rs,CC P g (first++c.args.toList.map s.ev++cap) rd s.o (.ret rs) Δ/\v=jM rs/\∀id∈rd,id<s.nx)\/
   (∃ds,cA s.o (first++c.args.toList.map s.ev++cap)=some ds/\Qk P g ds v/\rd=pV s op/\Δ=bK s.o (V.bw (first++c.args.toList.map s.ev++cap)))\/
   (CD P g (first++c.args.toList.map s.ev++cap) rd s.o fr v Δ/\∀id∈rd,id<s.nx)))
def DH(P:Program)(s:S)(op:Op)(v:V)(ws rd:List Nat):Prop:=
 ∃c f g first cap,op= .call c/\c.callee= .value f/\s.ev f= .func (.func g) first cap/\
  ((∃ds x,cA s.o (first++c.args.toList.map s.ev++cap)=some ds/\a7 P g ds (.bU x)/\x.flat=true/\v= .d x/\rd=pV s op/\ws=[])\/
   (∃x Δ,CC P g (first++c.args.toList.map s.ev++cap) rd s.o (.bU x) Δ/\v= .d x/\ws=Δ.map (·.1)/\∀id∈rd,id<s.nx))
def eF(s:S)(gd:Option (Nat×Bool))(b:Bool):Prop:=
 match gd with
 |none=>b=true
 |some (d,want)=>match s.env d with
  | .d (.bool c)=>b=(c==want)
  | .cf []=>b=false
  |_=>False
def UX(P:Program)(s:S)(fr:Nat)(o:cg)(x:fX):Prop:=
 match x with
 | .skip=>eF s o.gd false
 | .val v Δ rd=>eF s o.gd true/\z7 P s fr o.op v Δ rd
 | .bU v ws rd=>eF s o.gd true/\DH P s o.op v ws rd
 | .dY=>True
def fh(oc:Nat->cg)(ac:Nat->fX)(E:Nat->Bool)(s:S):Nat->S
 |0=>s
 |k+1=>if E k then yB (oc k).dst (ac k) (fh oc ac E s k)else fh oc ac E s k
structure Compat (oc:Nat->cg) (ac:Nat->fX) (R:Nat->List Nat) (i j:Nat):Prop where
 di:∀d,(oc i).dst=some d->d∉fU (oc j)
 dj:∀d,(oc j).dst=some d->d∉fU (oc i)
 wi:∀id∈ma (ac i),id∉R j/\id∉ma (ac j)
 wj:∀id∈ma (ac j),id∉R i
section
variable {P:Program}{oc:Nat->cg}{ac:Nat->fX}{s:S}{n:Nat}{E:Nat->Bool}{R:Nat->List Nat}{pr:Nat->Nat->Prop}
theorem Gm{env:Nat->V}{dst:Option Tmp}{v:V}{t:Nat}(h:∀d,dst=some d->d≠t):ba env dst v t=env t:=by
 cases dst with
 |none=>rfl
 |some d=>simp only[ba,aQ];rw[if_neg (fun e=>h d rfl e.symm)]
theorem ig{o:Nat->aa}:∀ {Δ:List (Nat×aa)} {id:Nat},id∉Δ.map (·.1)->put o Δ id=o id
 |[],_,_=>rfl
 |x::Δ,id,h=>by
  simp only[List.map_cons,List.mem_cons,not_or]at h
  have:=ig (o:=aw o x.1 x.2) (Δ:=Δ) h.2
  simp only[put,List.foldl_cons]at this|-
  rw[this];simp[h.1]
theorem BA{o o':Nat->aa}:∀ {Δ:List (Nat×aa)} {id:Nat},id∈Δ.map (·.1)\/o id=o' id->put o Δ id=put o' Δ id
 |[],_,h=>by rcases h with h|h;· simp at h
             ·exact h
 |x::Δ,id,h=>by
  simp only[put,List.foldl_cons]
  refine BA (Δ:=Δ) (o:=aw o x.1 x.2) (o':=aw o' x.1 x.2) ?_
  simp only[List.map_cons,List.mem_cons]at h
  simp only[aQ]
  by_cases e:id=x.1
  ·right;simp[e]
  ·rcases h with(h|h)|h
   ·exact absurd h e
   ·exact .inl h
   ·right;simp[e,h]
theorem mc{dst:Option Tmp}{x:fX}{t:Nat}(h:∀d,dst=some d->d≠t):(yB dst x s).env t=s.env t:=by
 cases x<;>exact Gm h
theorem oC{dst:Option Tmp}{x:fX}{id:Nat}(h:id∉ma x):(yB dst x s).o id=s.o id:=by
 cases x with
 |val v Δ rd=>exact ig h
 |_=>rfl
theorem BB{dst:Option Tmp}{x:fX}{s':S}{t:Nat}(h:s.env t=s'.env t):(yB dst x s).env t=(yB dst x s').env t:=by
 cases x<;>cases dst<;>simp only[yB,ba,aQ]<;>first|exact h|(split<;>first|rfl|exact h)
theorem Gn{dst:Option Tmp}{x:fX}{s':S}{id:Nat}(h:s.o id=s'.o id):(yB dst x s).o id=(yB dst x s').o id:=by
 cases x with
 |val v Δ rd=>exact BA (.inr h)
 |_=>exact h
theorem put_comm{o:Nat->aa}{Δ It:List (Nat×aa)}(h:∀id∈Δ.map (·.1),id∉It.map (·.1)):put (put o Δ) It=put (put o It) Δ:=by
 funext id
 by_cases h1:id∈Δ.map (·.1)
 ·rw[ig (h id h1)]
  exact BA (.inl h1)
 ·rw[ig (Δ:=Δ) h1]
  by_cases h2:id∈It.map (·.1)
  ·exact BA (.inl h2)
  ·rw[ig h2,ig h2,ig h1]
theorem z8{env:Nat->V}{d d':Option Tmp}{v v':V}(h:∀t,d=some t->d'≠some t):ba (ba env d v) d' v'=ba (ba env d' v') d v:=by
 cases d with
 |none=>rfl
 |some t=>
  cases d' with
  |none=>rfl
  |some t'=>
   have fS:t'≠t:=fun e=>h t rfl (by rw[e])
   funext i
   simp only[ba,aQ]
   by_cases e1:i=t<;>by_cases e2:i=t'
   ·exact absurd (e2.symm.trans e1) fS
   all_goals simp[e1,e2]
   ·intro e;exact absurd e.symm fS
   ·intro e;exact absurd e fS
theorem Nw{d d':Option Tmp}{x x':fX}(hd:∀t,d=some t->d'≠some t)(hw:∀id∈ma x,id∉ma x'):yB d x (yB d' x' s)=yB d' x' (yB d x s):=by
 cases x<;>cases x'<;>simp only[yB]<;>first
  |rw[z8 hd,put_comm hw]
  |rw[z8 hd]
def BC(n:Nat)(pr:Nat->Nat->Prop)(E:Nat->Bool):Prop:=∀k,k<n->E k=true->∀j,pr k j->E j=true
theorem agree(_:∀k,k<n->∀j,pr k j->j<k)(hc:∀i j,i<j->j<n-> ¬pr j i->Compat oc ac R i j)(hE:BC n pr E){i:Nat}(hi:i<n)(kZ:E i=false)(Nx:∀j,pr i j->E j=true):
 (∀t∈fU (oc i),(fh oc ac E s n).env t=(fh oc ac (fun _=>true) s i).env t)/\(∀id∈R i,(fh oc ac E s n).o id=(fh oc ac (fun _=>true) s i).o id):=by
 have a:∀k,k<=i->(∀t∈fU (oc i),(fh oc ac E s k).env t=(fh oc ac (fun _=>true) s k).env t)/\(∀id∈R i,(fh oc ac E s k).o id=(fh oc ac (fun _=>true) s k).o id):=by
  intro k
  induction k with
  |zero=>intro _;exact⟨fun _ _=>rfl,fun _ _=>rfl⟩
  |succ k ih=>
   intro hk
   obtain⟨h1,h2⟩:=ih ad
   simp only[fh,if_true]
   by_cases jT:E k=true
   ·simp only[jT,if_true]
    exact⟨fun t ht=>BB (h1 t ht),fun id ay=>Gn (h2 id ay)⟩
   ·have UM: ¬pr i k:=fun hm=>jT (Nx k hm)
    have c:=hc k i ad hi UM
    simp only[jT]
    refine⟨fun t ht=> ?_,fun id ay=> ?_⟩
    ·rw[mc fun d hd e=>c.di d hd (e ▸ ht)];exact h1 t ht
    ·rw[oC fun hm=>(c.wi id hm).1 ay];exact h2 id ay
 have b:∀k,i<=k->k<=n->(∀t∈fU (oc i),(fh oc ac E s k).env t=(fh oc ac (fun _=>true) s i).env t)/\(∀id∈R i,(fh oc ac E s k).o id=(fh oc ac (fun _=>true) s i).o id):=by
  intro k KW
  induction KW with
  |refl=>intro _;exact a i (Nat.le_refl _)
  | @step k KW ih=>
    intro hk
    have KW:i<=k:=KW
    obtain⟨h1,h2⟩:=ih ad
    simp only[fh]
    by_cases jT:E k=true
    ·have fS:i≠k:=fun e=>by rw[e,jT]at kZ;cases kZ
     have UM: ¬pr k i:=fun hm=>by have:=hE k ad jT i hm;rw[kZ]at this;cases this
     have c:=hc i k ad ad UM
     simp only[jT,if_true]
     refine⟨fun t ht=> ?_,fun id ay=> ?_⟩
     ·rw[mc fun d hd e=>c.dj d hd (e ▸ ht)];exact h1 t ht
     ·rw[oC fun hm=>c.wj id hm ay];exact h2 id ay
    ·simp only[jT];exact⟨h1,h2⟩
 exact b n ad (Nat.le_refl _)
theorem insert(hc:∀i j,i<j->j<n-> ¬pr j i->Compat oc ac R i j)(hE:BC n pr E){i:Nat}(hi:i<n)(kZ:E i=false){E':Nat->Bool}(Gp:∀k,E' k=(E k||k==i)):
 fh oc ac E' s n=yB (oc i).dst (ac i) (fh oc ac E s n):=by
 have a:∀k,k<=i->fh oc ac E' s k=fh oc ac E s k:=by
  intro k
  induction k with
  |zero=>intro _;rfl
  |succ k ih=>
   intro hk
   have:E' k=E k:=by rw[Gp k];have:(k==i)=false:=by simp;omega
                     simp[this]
   simp only[fh,this,ih (by omega)]
 have b:∀k,i+1<=k->k<=n->fh oc ac E' s k=yB (oc i).dst (ac i) (fh oc ac E s k):=by
  intro k KW
  induction KW with
  |refl=>
   intro _
   have h1:E' i=true:=by rw[Gp i];simp
   simp only[fh,h1,kZ,if_true,a i (Nat.le_refl _)]
   rfl
  | @step k KW ih=>
    intro hk
    have KW:i+1<=k:=KW
    have h1:E' k=E k:=by rw[Gp k];have:(k==i)=false:=by simp;omega
                         simp[this]
    simp only[fh,h1,ih (by omega)]
    by_cases jT:E k=true
    ·have UM: ¬pr k i:=fun hm=>by have:=hE k ad jT i hm;rw[kZ]at this;cases this
     have c:=hc i k ad ad UM
     simp only[jT,if_true]
     refine Nw (fun t ht he=> ?_) (fun id ay hm=>(c.wi id hm).2 ay)
     exact c.di t he (by simp[fU,ht])
    ·simp only[jT];rfl
 exact b n ad (Nat.le_refl _)
end
end
section
structure vw (M:Nat->Prop) (cY:Place) (H0:Hp) (w0:World) (n:Nat) (cx:Cx) (φ:Place) (s:S) (us:Nat->Prop) (a:Act) (w:World):Prop where
 heap:aB M φ ⟨s.o,us⟩ w
 tr:Trans cY H0 w0 φ ⟨s.o,us⟩ w
 size:a.tmps.size=n
 defers:wS cx w0 φ ⟨s.o,us⟩ w a.defers
 env:∀i,V.den (aq M φ ⟨s.o,us⟩) φ ⟨s.o,us⟩ w (s.env i) (a.tmps.getD i undef)
section
variable {P:Program}{M:Nat->Prop}{φ cY:Place}{H0:Hp}{w w' w0:World}{n:Nat}{s:S}{us:Nat->Prop}{a:Act}{cx:Cx}{ro:Option Nat}{k:Nat}
variable {next:Act->World->Prop}{Q:Exit->Act->World->Prop}
theorem kD(hs:vw M cY H0 w0 n cx φ s us a w){aI:Place}{H':Hp}(hH:aB M aI H' w')(ht:Trans φ ⟨s.o,us⟩ w aI H' w'){v:V}{val:Value}(hd:V.den (aq M aI H') aI H' w' v val){dst:Option Tmp}(dq:iC n dst)
 {o':Nat->aa} {us':Nat->Prop} (ho:H'.o=o') (hu:∀id,H'.us id->us' id):vw M cY H0 w0 n cx aI ⟨ba s.env dst v,o',s.nx⟩ us' (a.put dst val) w':=by
 obtain⟨k1,k2⟩:=lB hH hu
 subst ho
 refine⟨k1,hs.tr.trans (ht.trans k2), ?_, ?_,fun i=> ?_⟩
 ·cases dst<;>simp[Act.put,hs.size]
 ·have:=hs.defers.mono (ht.trans k2);cases dst<;>exact this
 ·cases dst with
  |none=>exact QF
  |some d=>
   simp only[iC]at dq
   simp only[ba,aQ,Act.put]
   by_cases hi:i=d
   ·subst hi
    have h1:(a.tmps.setIfInBounds i val).getD i undef=val:=by simp[Array.getD,hs.size,dq]
    rw[if_pos rfl,h1]
    exact V.aV k2 _ _ hd
   ·have h1:(a.tmps.setIfInBounds d val).getD i undef=a.tmps.getD i undef:=by
     exact Xh
    rw[if_neg hi,h1]
    exact QF
theorem Aa(hs:vw M cY H0 w0 n cx φ s us a w){o:Oper}{op:Op}(gX:o.op=op){c:Call}{f:Operand}{g:FuncId}{first cap:List V}(hc:op= .call c)(fQ:c.callee= .value f)(yG:s.ev f= .func (.func g) first cap):
 ∃vals:Array Value,V.aG (aq M φ ⟨s.o,us⟩) φ ⟨s.o,us⟩ w (first++c.args.toList.map s.ev++cap) vals.toList/\(Enters P g->(execOp a.eval o).run P w= .ok (.enter g vals) w):=by
 have hf:=n6 (M:=M) (φ:=φ) (H:=⟨s.o,us⟩) (w:=w) s a hs.env f
 have dV:=lE (M:=M) (φ:=φ) (H:=⟨s.o,us⟩) (w:=w) s a hs.env c.args.toList
 rw[yG]at hf
 obtain⟨fa,ca,Q9,Fo,hca⟩:=hf
 refine⟨fa++c.args.map a.eval++ca, ?_,fun he=> ?_⟩
 ·exact T3
 ·have:=mF (w:=w) he (fa++c.args.map a.eval++ca)
  generalize kF:fa++c.args.map a.eval++ca=vals at this
  simp[execOp,gX,hc,resolve,fQ,Q9,Deferred.ofValue,invoke,this,kF]
theorem Mh(hs:vw M cY H0 w0 n cx φ s us a w){fr:Nat}(dn: ¬us fr)(vl:∀id,id<s.nx->us id){o:Oper}{op:Op}(gX:o.op=op)(dq:iC n o.dst){v:V}{Δ:List (Nat×aa)}{rd:List Nat}(h:z7 P s fr op v Δ rd)
 (hN:∀aI a' w',vw M cY H0 w0 n cx aI (yB o.dst (.val v Δ rd) s) (fun id=>us id\/id=fr) a' w'->next a' w'):o.wpIn (eB ro) k P a w next Q:=by
 rcases h with⟨⟨vF,h⟩,_⟩|⟨c,f,g,first,cap,hc,fQ,yG,h⟩
 ·have h1:=DD (K:=fun v' It _=>v'=v/\It=Δ) h ⟨rfl,rfl⟩
  obtain⟨nx,val,w',aI,v',It,vF,⟨rfl,rfl⟩,hr,agH,g1,g2,g3,g4⟩:=zR hs.heap (s:=s) rfl hs.env dn gX h1
  have vm:=kD hs g1 g2 g3 dq (o':=put s.o It) (us':=fun id=>us id\/id=fr) rfl (fun id hu=>hu.elim .inl (g4 id))
  refine lH (fun c hc=>by rw[gX]at hc;subst hc;exact h1) ?_
  rw[hr]
  rcases agH with rfl|⟨rfl,rfl⟩
  ·exact hN _ _ _ vm
  ·exact hN _ _ _ vm
 ·refine lH (fun c' zT=>by rw[gX,hc]at zT;cases zT) ?_
  obtain⟨vals,bu,fW⟩:=Aa (P:=P) hs gX hc fQ yG
  generalize first++c.args.toList.map s.ev++cap=all at h bu
  rcases h with⟨ds,rs,fT,hP,rfl,_,hΔ⟩|⟨rs,hH,rfl,nR⟩|⟨ds,fT,hP,_,rfl⟩|⟨hH,nR⟩
  ·obtain⟨f1,f2,f3,f4,f5⟩:=dh hs.heap (V.bw all) (dw all _ bu)
   have ft:(⟨s.o,us⟩:Hp).put (bK s.o (V.bw all))=⟨put s.o (bK s.o (V.bw all)),us⟩:=mE (H:=⟨s.o,us⟩) Ms
   have zI:=dN f1 all ds _ f3 fT (V.aW f2 _ _ bu)
   have fK:=hP.2 _ w vals (fun b hb=>hb.elim (f1.Cy b) fun hl=>(f1.ours b hl).2) zI
   rw[fW hP.1]
   refine⟨fun hd=>by simp[eB]at hd,dC (fK.mono fun e w' ⟨hk,ho⟩=> ?_)⟩
   cases e with
   |panicked ch=>exact yE
   |outgrown=>exact yE
   |returned val=>
    rcases hΔ with rfl|⟨re,rfl⟩
    ·obtain⟨k1,k2⟩:=hU f1 hk
     refine hN _ _ _ (kD hs k1 (f2.trans k2) (nV ho) dq (by rw[ft]) fun id hu=> ?_)
     rw[ft]at hu;exact .inl hu
    ·obtain⟨k1,k2⟩:=hU hs.heap hk
     have ho:=R.Bk (out:= .ret rs) (B':=aq M φ ⟨s.o,us⟩) re ho
     exact TC
  ·have fK:=hH.2 s.o us M φ w vals (fun id ay=>⟨rfl,vl id (nR id ay)⟩) hs.heap bu
   rw[fW hH.1]
   refine⟨fun hd=>by simp[eB]at hd,dC (fK.mono fun e w' ⟨aI,k1,k2,ho⟩=> ?_)⟩
   cases e with
   |panicked ch=>exact yE
   |outgrown=>exact yE
   |returned val=>exact TC
  ·obtain⟨f1,f2,f3,f4,f5⟩:=dh hs.heap (V.bw all) (dw all _ bu)
   have ft:(⟨s.o,us⟩:Hp).put (bK s.o (V.bw all))=⟨put s.o (bK s.o (V.bw all)),us⟩:=mE (H:=⟨s.o,us⟩) Ms
   have zI:=dN f1 all ds _ f3 fT (V.aW f2 _ _ bu)
   have fK:=hP.2 _ w vals (fun b hb=>hb.elim (f1.Cy b) fun hl=>(f1.ours b hl).2) zI
   rw[fW hP.1]
   refine⟨fun hd=>by simp[eB]at hd,dC (fK.mono fun e w' ⟨hk,val,he,ho⟩=> ?_)⟩
   subst he
   obtain⟨k1,k2⟩:=hU f1 hk
   refine hN _ _ _ (kD hs k1 (f2.trans k2) (ho _ _) dq (by rw[ft]) fun id hu=> ?_)
   rw[ft]at hu;exact .inl hu
  ·have fK:=hH.2 s.o us M φ w vals (fun id ay=>⟨rfl,vl id (nR id ay)⟩) dn hs.heap bu
   rw[fW hH.1]
   refine⟨fun hd=>by simp[eB]at hd,dC (fK.mono fun e w' ⟨aI,k1,k2,val,he,ho⟩=> ?_)⟩
   subst he
   exact hN _ _ _ (kD hs k1 k2 ho dq rfl fun id hu=>hu)
theorem KY{o o2:Nat->aa}{us us2:Nat->Prop}(hH:aB M φ ⟨o,us⟩ w)(ho:∀id,o2 id=o id\/o2 id= .no)(hu:∀id,us id->us2 id):aB M φ ⟨o2,us2⟩ w/\Trans φ ⟨o,us⟩ w φ ⟨o2,us2⟩ w:=by
 have hl:∀id,(o2 id).live=true->(o id).live=true:=fun id h=>by
  rcases ho id with e|e
  ·rw[<- e];exact h
  ·rw[e]at h;cases h
 have M0:∀b,cO φ ⟨o2,us2⟩ b->cO φ ⟨o,us⟩ b:=fun b ⟨id,h1,h2⟩=>⟨id,hl id h1,h2⟩
 have ht:Trans φ ⟨o,us⟩ w φ ⟨o2,us2⟩ w:=by
  refine⟨dZ.refl _ _,fun b hb=> .inl (M0 b hb),⟨hu,fun id _ hr=> ?_,fun id e' _ he=> ?_⟩⟩
  ·rcases ho id with e|e
   ·exact⟨by show(o id).cF=true;rw[<- e];exact hr,rfl⟩
   ·rw[show(⟨o2,us2⟩:Hp).o id= .no from e]at hr;cases hr
  ·rcases ho id with e|e
   ·exact⟨e',by show(o id).cu=some e';rw[<- e];exact he,Nat.le_refl _,fun _=>rfl⟩
   ·rw[show(⟨o2,us2⟩:Hp).o id= .no from e]at he;cases he
 refine⟨⟨fun id=> ?_,fun id hn=> ?_,fun i j b hi hj=>hH.apart i j b (hl i hi) (hl j hj),fun b hb=>hH.ours b (M0 b hb),hH.Cy⟩,ht⟩
 ·rcases ho id with e|e
  ·exact(hH.ok id).mono ht e rfl fun _ _ _=>rfl
  ·unfold aU;rw[show(⟨o2,us2⟩:Hp).o id= .no from e];trivial
 ·rcases ho id with e|e
  ·exact e.trans (hH.fresh id fun h=>hn (hu id h))
  ·exact e
def w7(ds:List Nat)(wl:List Nat)(N:Nat)(s:S):S:=
 ⟨fun t=>if ds.contains t=true then .ai else s.env t,fun id=>if wl.contains id=true then .no else s.o id,s.nx+N⟩
theorem Ny(hs:vw M cY H0 w0 n cx φ s us a w)(vl:∀id,id<s.nx->us id){N:Nat}(eE:∀id,us id->id<s.nx+N){o:Oper}{op:Op}(gX:o.op=op){v:V}{ws rd:List Nat}(h:DH P s op v ws rd)
 {s0:S} {ds wl:List Nat} (fT:∀t,ds.contains t=false->s.env t=s0.env t) (hwl:∀id,wl.contains id=false->s.o id=s0.o id) (Re:∀id∈ws,wl.contains id=true) (pQ:s0.nx=s.nx)
 (hQ:∀aI w' val,cB M cY H0 w0 n cx aI (w7 ds wl N s0) a w'->V.den (aq M aI (w7 ds wl N s0).H) aI (w7 ds wl N s0).H w' v val->Q (.panic [{v:=val,recovered:=false}]) a w'):o.wpIn (eB ro) k P a w next Q:=by
 obtain⟨c,f,g,first,cap,hc,fQ,yG,h⟩:=h
 refine lH (fun c' zT=>by rw[gX,hc]at zT;cases zT) ?_
 obtain⟨vals,bu,fW⟩:=Aa (P:=P) hs gX hc fQ yG
 generalize first++c.args.toList.map s.ev++cap=all at h bu
 have fin:∀ (aI:Place) (w':World) (o':Nat->aa) (val:Value),(∀id,wl.contains id=false->o' id=s.o id)->aB M aI ⟨o',us⟩ w'->Trans φ ⟨s.o,us⟩ w aI ⟨o',us⟩ w'->V.den (aq M aI ⟨o',us⟩) aI ⟨o',us⟩ w' v val->Q (.panic [{v:=val,recovered:=false}]) a w':=by
  intro aI w' o' val zk k1 k2 k3
  obtain⟨m1,m2⟩:=KY (o2:=(w7 ds wl N s0).o) (us2:=fun id=>id<s0.nx+N) k1 (fun id=>by
   show(if wl.contains id=true then aa.no else s0.o id)=o' id\/_
   by_cases hw:wl.contains id=true
   ·right;simp only[w7];rw[if_pos hw]
   ·left;rw[if_neg hw,zk id (by simpa using hw),hwl id (by simpa using hw)]) (fun id h=>by rw[pQ];exact eE id h)
  have ht:=hs.tr.trans (k2.trans m2)
  refine hQ aI w' val ⟨m1,ht,hs.size,hs.defers.mono (k2.trans m2),fun i=> ?_⟩ (V.aV m2 _ _ k3)
  show V.den _ _ _ _ (if ds.contains i=true then V.ai else s0.env i) _
  by_cases hd:ds.contains i=true
  ·rw[if_pos hd];trivial
  ·rw[if_neg hd, <- fT i (by simpa using hd)];exact V.aV (k2.trans m2) _ _ (hs.env i)
 rcases h with⟨dd,x,agI,hP,re,rfl,_,rfl⟩|⟨x,Δ,hH,rfl,rfl,nR⟩
 ·obtain⟨f1,f2,f3,f4,f5⟩:=dh hs.heap (V.bw all) (dw all _ bu)
  have zI:=dN f1 all dd _ f3 agI (V.aW f2 _ _ bu)
  have fK:=hP.2 _ w vals (fun b hb=>hb.elim (f1.Cy b) fun hl=>(f1.ours b hl).2) zI
  rw[fW hP.1]
  refine⟨fun hd=>by simp[eB]at hd,dC (fK.mono fun e w' ⟨hk,ho⟩=> ?_)⟩
  cases e with
  |returned val=>exact ho.elim
  |outgrown=>exact ho.elim
  |panicked ch=>
   obtain⟨k1,k2⟩:=hU hs.heap hk
   have ho:=R.Bk (out:= .bU x) (B':=aq M φ ⟨s.o,us⟩) re ho
   obtain⟨val,rfl,hd⟩:=ho
   exact fin φ w' s.o val (fun _ _=>rfl) k1 k2 hd
 ·have fK:=hH.2 s.o us M φ w vals (fun id ay=>⟨rfl,vl id (nR id ay)⟩) hs.heap bu
  rw[fW hH.1]
  refine⟨fun hd=>by simp[eB]at hd,dC (fK.mono fun e w' ⟨aI,k1,k2,ho⟩=> ?_)⟩
  cases e with
  |returned val=>exact ho.elim
  |outgrown=>exact ho.elim
  |panicked ch=>
   obtain⟨val,rfl,hd⟩:=ho
   exact fin aI w' _ val (fun id ay=>Bx fun y hy e=>by
    have:=Re y.1 (List.mem_map_of_mem hy)
    rw[e,ay]at this;cases this) k1 k2 hd
theorem gE(eR:∀i,V.den (aq M φ ⟨s.o,us⟩) φ ⟨s.o,us⟩ w (s.env i) (a.tmps.getD i undef)){ops:Array Oper}{o:Oper}{gd:Option (Nat×Bool)}{b:Bool}
 (hg:match o.guard with|none=>gd=none|some (j,want)=>∃d,uz ops j=some d/\gd=some (d,want)) (h:eF s gd b):Region.wanted o (yielded ops a.tmps)=b:=by
 unfold Region.wanted
 split at hg
 ·rename_i hn;simp only[hn];subst hg;exact h.symm
 ·rename_i j want hn
  simp only[hn]
  obtain⟨d,hd,rfl⟩:=hg
  unfold uz at hd
  unfold yielded
  simp only[hd,Option.bind_some]
  simp only[eF]at h
  have he:=eR d
  split at h
  ·rename_i c hv
   rw[hv]at he
   simp only[V.den,D.den]at he
   have:a.tmps[d]? =some (.bool c):=by
    rw[Array.getD_eq_getD_getElem?]at he
    cases hx:a.tmps[d]? with
    |none=>rw[hx]at he;simp[undef]at he
    |some x=>rw[hx]at he;simp at he;rw[he]
   simp only[this,h]
   cases c<;>cases want<;>rfl
  ·rename_i hv
   rw[hv]at he
   obtain⟨arr,dF,hn⟩:=he
   have:∀c,a.tmps[d]? ≠some (.bool c):=by
    exact Ux
   subst h
   cases hx:a.tmps[d]? with
   |none=>rfl
   |some x=>cases x<;>first|(exact absurd hx (this _))|rfl
  ·exact h.elim
theorem gG{s s':S}{gd:Option (Nat×Bool)}{b:Bool}(h:∀d want,gd=some (d,want)->s'.env d=s.env d)(hg:eF s gd b):eF s' gd b:=by
 unfold eF at*
 cases gd with
 |none=>exact hg
 |some p=>obtain⟨d,want⟩:=p;simp only at hg|-;rw[h d want rfl];exact hg
theorem DI{s s':S}{x:Operand}(h:∀t,x= .tmp t->s'.env t=s.env t):s'.ev x=s.ev x:=by
 cases x<;>simp only[S.ev]
 exact h _ rfl
theorem w8{s s':S}{op:Op}{c:Call}{f:Operand}{g:FuncId}{first cap:List V}(hv:∀x∈op.operands,s'.ev x=s.ev x)(hc:op= .call c)(fQ:c.callee= .value f)(yG:s.ev f= .func (.func g) first cap):
 s'.ev f= .func (.func g) first cap/\c.args.toList.map s'.ev=c.args.toList.map s.ev:=by
 subst hc
 exact⟨(hv f (by simp only[Op.operands,Call.operands,fQ];exact Array.mem_append.2 (.inl aF))).trans yG,
  List.map_congr_left fun x hx=>hv x abY⟩
theorem CC.frame {g:FuncId}{args:List V}{rd:List Nat}{o o':Nat->aa}{out:R}{Δ:List (Nat×aa)}(ho:∀id∈rd,o' id=o id)(h:CC P g args rd o out Δ):CC P g args rd o' out Δ:=
 ⟨h.1,fun o2 us M φ w vals h1 h2 h3=>h.2 o2 us M φ w vals (fun id ay=>⟨(h1 id ay).1.trans (ho id ay),(h1 id ay).2⟩) h2 h3⟩
theorem CD.frame {g:FuncId}{args:List V}{rd:List Nat}{o o':Nat->aa}{fr:Nat}{v:V}{Δ:List (Nat×aa)}(ho:∀id∈rd,o' id=o id)(h:CD P g args rd o fr v Δ):CD P g args rd o' fr v Δ:=
 ⟨h.1,fun o2 us M φ w vals h1 h2 h3=>h.2 o2 us M φ w vals (fun id ay=>⟨(h1 id ay).1.trans (ho id ay),(h1 id ay).2⟩) h2 h3⟩
theorem CT{s s':S}{fr:Nat}{op:Op}{v:V}{Δ:List (Nat×aa)}{rd:List Nat}(hv:∀x∈op.operands,s'.ev x=s.ev x)(ho:∀id∈rd,s'.o id=s.o id)(vl:s'.nx=s.nx)(h:z7 P s fr op v Δ rd):∃vF,z7 P s' fr op v Δ vF:=by
 rcases h with⟨⟨vF,h⟩,nR⟩|⟨c,f,g,first,cap,rfl,fQ,yG,h⟩
 ·exact⟨_, .inl ⟨⟨vF,by rw[Gi op hv (by rw[<- nR];exact ho)];exact h⟩,rfl⟩⟩
 ·obtain⟨hf,hm⟩:=w8 hv rfl fQ yG
  rcases h with⟨ds,rs,fT,hP,oe,nR,hΔ⟩|⟨rs,hH,oe,nR⟩|⟨ds,fT,hP,nR,hΔ⟩|⟨hH,nR⟩
  ·have hr:∀id∈V.aN (first++c.args.toList.map s.ev++cap),s'.o id=s.o id:=fun id ay=>ho id Mo
   refine⟨_, .inr ⟨c,f,g,first,cap,rfl,fQ,hf, .inl ⟨ds,rs,by rw[hm,jh _ hr];exact fT,hP,oe,rfl, ?_⟩⟩⟩
   exact Ui
  ·exact⟨rd, .inr ⟨c,f,g,first,cap,rfl,fQ,hf, .inr (.inl ⟨rs,by rw[hm];exact hH.frame ho,oe,by rw[vl];exact nR⟩)⟩⟩
  ·have hr:∀id∈V.aN (first++c.args.toList.map s.ev++cap),s'.o id=s.o id:=fun id ay=>ho id Mo
   refine⟨_, .inr ⟨c,f,g,first,cap,rfl,fQ,hf, .inr (.inr (.inl ⟨ds,by rw[hm,jh _ hr];exact fT,hP,rfl, ?_⟩))⟩⟩
   exact Ui
  ·exact⟨rd, .inr ⟨c,f,g,first,cap,rfl,fQ,hf, .inr (.inr (.inr ⟨by rw[hm];exact hH.frame ho,by rw[vl];exact nR⟩))⟩⟩
theorem DJ{s s':S}{op:Op}{v:V}{ws rd:List Nat}(hv:∀x∈op.operands,s'.ev x=s.ev x)(ho:∀id∈rd,s'.o id=s.o id)(vl:s'.nx=s.nx)(h:DH P s op v ws rd):DH P s' op v ws rd:=by
 obtain⟨c,f,g,first,cap,rfl,fQ,yG,h⟩:=h
 obtain⟨hf,hm⟩:=w8 hv rfl fQ yG
 refine⟨c,f,g,first,cap,rfl,fQ,hf, ?_⟩
 rw[hm]
 rcases h with⟨ds,x,fT,hP,re,oe,nR,Re⟩|⟨x,Δ,hH,oe,Re,nR⟩
 ·have hr:∀id∈V.aN (first++c.args.toList.map s.ev++cap),s'.o id=s.o id:=fun id ay=>ho id Mo
  exact .inl ⟨ds,x,by rw[jh _ hr];exact fT,hP,re,oe,by rw[nR];simp only[pV,fQ,yG,hf,hm],Re⟩
 ·exact .inr ⟨x,Δ,hH.frame ho,oe,Re,by rw[vl];exact nR⟩
theorem w9{ops:Array Oper}:∀ (l:List Oper) (l':List cg) (i:Nat) (o:Oper),mq n ops l=some l'->l[i]? =some o->MN n ops o=some (cq l' i)
 |[],_,_,_,_,h=>by simp at h
 |x::l,l',i,o,h,hi=>by
  simp only[mq]at h
  split at h
  ·rename_i y ys hy hys
   injection h with h;subst h
   cases i with
   |zero=>simp at hi;subst hi;exact hy
   |succ i=>exact w9 l ys i o hys (by simpa using hi)
  ·cases h
theorem Ab{ops:Array Oper}{o:Oper}{x:cg}(h:MN n ops o=some x):x.op=o.op/\x.dst=o.dst/\iC n o.dst/\
 (match o.guard with|none=>x.gd=none|some (j,want)=>∃d,uz ops j=some d/\x.gd=some (d,want)):=by
 unfold MN at h
 split at h
 ·rename_i hd
  have dq:iC n o.dst:=by
   unfold FL at hd;unfold iC
   split at hd<;>simp_all
  cases hg:o.guard with
  |none=>simp only[hg]at h;injection h with h;subst h;exact⟨rfl,rfl,dq,rfl⟩
  |some p=>
   obtain⟨j,want⟩:=p
   simp only[hg]at h
   cases UW:uz ops j with
   |none=>simp[UW]at h
   |some d=>simp only[UW]at h;injection h with h;subst h;exact⟨rfl,rfl,dq,d,UW,rfl⟩
 ·cases h
theorem qG{ops:Array Oper}{au:Array Bool}(uF:∀k,k<ops.size->∀j∈bO ops k,j<k)(hs:au.size=ops.size)(hr:Region.ready .any ops au=[]):∀k,k<ops.size->au.getD k false=true:=by
 intro k
 induction k using Nat.strongRecOn with
 |_ k ih=>
  intro hk
  cases hl:au.getD k false with
  |true=>rfl
  |false=>
   have:k∈Region.ready .any ops au:=by
    refine mem_ready.2 ⟨?_,ops[k],by simp[hk],fun e he hb=> ?_⟩
    ·simp only[Array.getD_eq_getD_getElem?]at hl|-
     rw[Array.getElem?_eq_getElem (by omega)]at hl|-
     simpa using hl
    ·have hm:e.on∈bO ops k:=by
      simp only[bO,Array.getElem?_eq_getElem hk,List.mem_map,List.mem_filter]
      exact⟨e,⟨Array.mem_toList_iff.2 he,hb⟩,rfl⟩
     exact ih _ (uF k hk _ hm) (by have:=uF k hk _ hm;omega)
   rw[hr]at this;cases this
theorem DK(hs:cB M cY H0 w0 n cx φ s a w):cB M cY H0 w0 n cx φ s a {w with drawn:=w.drawn+1}:=by
 obtain⟨k1,k2⟩:=hU (w':={w with drawn:=w.drawn+1}) hs.heap ⟨rfl,rfl,rfl,Nat.le_refl _,fun _ _ _=>rfl⟩
 exact⟨k1,hs.tr.trans k2,hs.size,hs.defers.mono k2,fun i=>V.aV k2 _ _ (hs.env i)⟩
theorem lV{oc:Nat->cg}{ac:Nat->fX}{E:Nat->Bool}:∀k,(fh oc ac E s k).nx=s.nx
 |0=>rfl
 |k+1=>by
  simp only[fh]
  split
  ·cases ac k<;>exact lV k
  ·exact lV k
theorem Iu{oc:Nat->cg}{ac:Nat->fX}{E:Nat->Bool}{t:Nat}:∀k,(∀j,j<k->(oc j).dst≠some t)->(fh oc ac E s k).env t=s.env t
 |0,_=>rfl
 |k+1,h=>by
  have ih:=Iu (oc:=oc) (ac:=ac) (E:=E) (t:=t) k fun j hj=>h j ad
  simp only[fh]
  split
  ·rw[mc fun d hd e=>h k (by omega) (by rw[hd,e])];exact ih
  ·exact ih
theorem UY{oc:Nat->cg}{ac:Nat->fX}{E:Nat->Bool}{id:Nat}:∀k,(∀j,j<k->id∉ma (ac j))->(fh oc ac E s k).o id=s.o id
 |0,_=>rfl
 |k+1,h=>by
  have ih:=UY (oc:=oc) (ac:=ac) (E:=E) (id:=id) k fun j hj=>h j ad
  simp only[fh]
  split
  ·rw[oC (h k (by omega))];exact ih
  ·exact ih
theorem DL(bz:P.follows .mixedOrders=true){ops:Array Oper}{l:List cg}{id:Nat}(tK:mq n ops ops.toList=some l)(uF:∀k,k<ops.size->∀j∈bO ops k,j<k){ac:Nat->fX}{dl wl:List Nat}
 (hs:cB M cY H0 w0 n cx φ s a w) (XF:∀i,i<ops.size->UX P (fh (cq l) ac (fun _=>true) s i) (s.nx+i) (cq l i) (ac i))
 (KZ:∀i,i<ops.size->ac i= .dY->∃j∈bO ops i,(ac j).ok=false)
 {po:Nat->Nat->Prop} (Iv:∀E:Nat->Bool,(∀k,k<ops.size->E k=true->∀j∈bO ops k,E j=true)->∀k,k<ops.size->(∀j∈bO ops k,E j=true)->∀j,po k j->E j=true) (DM:∀k,k<ops.size->∀j,po k j->j<k)
 (hc:∀i j,i<j->j<ops.size-> ¬po j i->Compat (cq l) ac (fun i=>yV (ac i)) i j)
 (Kd:∀i,i<ops.size->∀t,(cq l i).dst=some t->dl.contains t=true) (hwl:∀i,i<ops.size->∀id∈ma (ac i),wl.contains id=true)
 (Re:∀i v ws rd,i<ops.size->ac i= .bU v ws rd->∀id∈ws,wl.contains id=true)
 (hQ:(∀i,i<ops.size->(ac i).ok=true)->∀φ a w,cB M cY H0 w0 n cx φ ⟨(fh (cq l) ac (fun _=>true) s ops.size).env,(fh (cq l) ac (fun _=>true) s ops.size).o,s.nx+ops.size⟩ a w->Q .normal a w)
 (hX:∀i v ws rd,i<ops.size->ac i= .bU v ws rd->∀φ a w val,cB M cY H0 w0 n cx φ (w7 dl wl ops.size s) a w->V.den (aq M φ (w7 dl wl ops.size s).H) φ (w7 dl wl ops.size s).H w v val->Q (.panic [{v:=val,recovered:=false}]) a w):
 (Code.region id ops true).wpIn (eB ro) k P Q a w:=by
 refine wpIn_region_any bz ?_
 have hs:=DK hs
 generalize ({w with drawn:=w.drawn+1}:World)=w at hs
 let N:=ops.size
 let Ef (au:Array Bool) (k:Nat):Bool:=au.getD k false
 let HV (au:Array Bool) (j:Nat):Prop:=j<s.nx\/∃k,k<N/\Ef au k=true/\j=s.nx+k
 have key:∀ (fuel:Nat) (au:Array Bool) (φ:Place) (a:Act) (w:World),au.size=N->au.count true+fuel=N->(∀k,k<N->Ef au k=true->∀j∈bO ops k,Ef au j=true)->(∀k,k<N->Ef au k=true->(ac k).ok=true)->
  vw M cY H0 w0 n cx φ (fh (cq l) ac (Ef au) s N) (HV au) a w->wpAnyIn (eB ro) k P .any ops Q fuel au a w:=by
  have fin:∀ (au:Array Bool) (φ:Place) (a:Act) (w:World),(∀k,k<N->Ef au k=true)->(∀k,k<N->Ef au k=true->(ac k).ok=true)->vw M cY H0 w0 n cx φ (fh (cq l) ac (Ef au) s N) (HV au) a w->Q .normal a w:=by
   intro au φ a w bu Gq hu
   have e:∀k,k<=N->fh (cq l) ac (Ef au) s k=fh (cq l) ac (fun _=>true) s k:=by
    intro k
    induction k with
    |zero=>intro _;rfl
    |succ k ih=>intro hk;simp only[fh,bu k (by omega),ih (by omega)]
   rw[e N (Nat.le_refl _)]at hu
   obtain⟨k1,k2⟩:=lB (us':=fun id=>id<s.nx+N) hu.heap (fun id h=>by
    show id<s.nx+N
    rcases h with h|⟨k,hk,_,rfl⟩<;>omega)
   exact hQ (fun i hi=>Gq i hi (bu i hi)) φ a w ⟨k1,hu.tr.trans k2,hu.size,hu.defers.mono k2,fun i=>V.aV k2 _ _ (hu.env i)⟩
  intro fuel
  induction fuel with
  |zero=>
   intro au φ a w eD K0 pg Gq hu
   have bu:∀k,k<N->Ef au k=true:=by
    intro k hk
    have h1:au.count true=au.size:=ad
    rw[Array.count_eq_size]at h1
    have:=h1 au[k] (Array.getElem_mem ad)
    simp only[Ef,Array.getD_eq_getD_getElem?]
    rw[Array.getElem?_eq_getElem (by omega)]
    simpa using this.symm
   refine⟨?_,fin au φ a w bu Gq hu⟩
   rw[List.eq_nil_iff_forall_not_mem]
   intro k hk
   obtain⟨h1,o,h2,_⟩:=mem_ready.1 hk
   have hkN:k<N:=(Array.getElem?_eq_some_iff.1 h2).1
   have:=bu k hkN
   simp only[Ef,Array.getD_eq_getD_getElem?]at this h1
   rw[Array.getElem?_eq_getElem (by omega)]at this h1
   simp only[Option.getD_some]at this h1
   rw[this]at h1;cases h1
  |succ fuel ih=>
   intro au φ a w eD K0 pg Gq hu
   refine⟨fun hr=>fin au φ a w (qG uF eD hr) Gq hu,fun i hi=> ?_⟩
   obtain⟨h1,o,h2,h3⟩:=mem_ready.1 hi
   have vy:i<N:=(Array.getElem?_eq_some_iff.1 h2).1
   have kZ:Ef au i=false:=by
    simp only[Ef,Array.getD_eq_getD_getElem?]at h1|-
    rw[Array.getElem?_eq_getElem (by omega)]at h1|-
    simpa using h1
   have Nx:∀j∈bO ops i,Ef au j=true:=by
    exact Xe
   have Nz:BC N po (Ef au):=fun k hk jT=>Iv _ pg k hk (pg k hk jT)
   obtain⟨ag1,ag2⟩:=agree (s:=s) DM hc Nz vy kZ (Iv _ pg i vy Nx)
   obtain⟨g1,g2,g3,g4⟩:=Ab (w9 _ _ i o tK zq)
   have dn: ¬HV au (s.nx+i):=by
    rintro(h|⟨k,_,hk,he⟩)
    ·omega
    ·have:k=i:=ad
     subst this;rw[kZ]at hk;cases hk
   have Gp:∀k,Ef (au.setIfInBounds i true) k=(Ef au k||k==i):=by
    intro k
    simp only[Ef,Array.getD_eq_getD_getElem?]
    by_cases e:k=i
    ·subst e;simp[eD,vy]
    ·rw[Array.getElem?_setIfInBounds_ne (Ne.symm e)]
     have:(k==i)=false:=by simpa using e
     simp[this]
   have XG:=insert (s:=s) hc Nz vy kZ Gp
   have XH:∀k,k<N->Ef (au.setIfInBounds i true) k=true->∀j∈bO ops k,Ef (au.setIfInBounds i true) j=true:=by
    intro k hk jT j hj
    rw[Gp]at jT|-
    by_cases e:k=i
    ·subst e;simp[Nx j hj]
    ·have:(k==i)=false:=by simpa using e
     rw[this,Bool.or_false]at jT
     simp[pg k hk jT j hj]
   have NA:(au.setIfInBounds i true).count true+fuel=N:=by
    have cD:i<au.size:=ad
    have e1:au.setIfInBounds i true=au.set i true cD:=by simp[Array.setIfInBounds,cD]
    have e2:au[i]=false:=by
     have:=kZ
     simp only[Ef,Array.getD_eq_getD_getElem?]at this
     rw[Array.getElem?_eq_getElem cD]at this
     simpa using this
    rw[e1,Array.count_set cD,e2]
    simp
    omega
   have jS:(ac i).ok=true->∀aI a' w',vw M cY H0 w0 n cx aI (yB o.dst (ac i) (fh (cq l) ac (Ef au) s N)) (fun id=>HV au id\/id=s.nx+i) a' w'->wpAnyIn (eB ro) k P .any ops Q fuel (au.setIfInBounds i true) a' w':=by
    intro ac6 aI a' w' CK
    refine ih _ aI a' w' (by simp[eD]) NA XH (fun k hk jT=> ?_) ?_
    ·rw[Gp]at jT
     by_cases e:k=i
     ·subst e;exact ac6
     ·have:(k==i)=false:=by simpa using e
      rw[this,Bool.or_false]at jT
      exact Gq k hk jT
    rw[XG,g2]
    obtain⟨k1,k2⟩:=lB (us':=HV (au.setIfInBounds i true)) CK.heap (fun id h=>by
     rcases h with(h|⟨k,hk,jT,rfl⟩)|rfl
     ·exact .inl h
     ·exact .inr ⟨k,hk,by rw[Gp,jT];rfl,rfl⟩
     ·exact .inr ⟨i,vy,by rw[Gp];simp,rfl⟩)
    exact ab1
   have K1:∀d want,(cq l i).gd=some (d,want)->(fh (cq l) ac (Ef au) s N).env d=(fh (cq l) ac (fun _=>true) s i).env d:=fun d want hd=>ag1 d (by simp[fU,tmpsOf,hd])
   have a8:=XF i vy
   have MJ:∀x∈(cq l i).op.operands,(fh (cq l) ac (Ef au) s N).ev x=(fh (cq l) ac (fun _=>true) s i).ev x:=fun x hx=>DI fun t ht=>ag1 t (by
    subst ht
    simp only[fU,tmpsOf,List.mem_append,List.mem_filterMap]
    exact .inl (.inl ⟨.tmp t,Array.mem_toList_iff.2 hx,rfl⟩))
   have Xo:(fh (cq l) ac (Ef au) s N).nx=(fh (cq l) ac (fun _=>true) s i).nx:=(lV N).trans (lV i).symm
   unfold wpOpIn
   simp only[h2]
   cases yz:ac i with
   |skip=>
    rw[yz]at a8 jS
    have hw:=gE hu.env g4 (gG K1 a8)
    simp only[hw,Bool.false_eq_true,if_false]
    refine⟨fun _ _=>trivial,jS rfl φ _ w ?_⟩
    have:=kD (v:= .cf []) (val:=undef) hu hu.heap (Trans.refl _ _ _) ⟨#[],rfl,rfl⟩ (dst:=o.dst) g3 rfl (us':=fun id=>HV au id\/id=s.nx+i) (fun id h=> .inl h)
    exact this
   |val v Δ rd=>
    rw[yz]at a8 jS
    have hw:=gE hu.env g4 (gG K1 a8.1)
    exact acz
   |bU v ws rd=>
    rw[yz]at a8
    have hw:=gE hu.env g4 (gG K1 a8.1)
    simp only[hw,if_true]
    have kC:=DJ MJ (fun id ay=>ag2 id (by rw[yz];exact ay)) Xo a8.2
    refine Ny (s0:=s) (ds:=dl) (wl:=wl) (N:=N) hu (fun id h=> .inl (by rw[lV]at h;exact h)) (fun id h=> ?_) g1.symm kC (fun t ht=> ?_) (fun id ay=> ?_) (Re i v ws rd vy yz) (lV N).symm (fun aI w' val h1 h2=>hX i v ws rd vy yz aI a w' val h1 h2)
    ·rw[lV]
     rcases h with h|⟨k,hk,_,rfl⟩<;>omega
    ·refine Iu N fun j hj e=> ?_
     have:=Kd j hj t e
     rw[ht]at this;cases this
    ·refine UY N fun j hj hm=> ?_
     have:=hwl j hj id hm
     rw[ay]at this;cases this
   |dY=>
    exfalso
    obtain⟨j,hj,XI⟩:=KZ i vy yz
    have:=Gq j (Nat.lt_trans (uF i vy j hj) vy) (Nx j hj)
    rw[XI]at this;cases this
 refine key ops.size _ φ a w (by simp[N]) (by simp[N,Array.count_replicate]) (fun k hk jT=> ?_) (fun k hk jT=> ?_) ?_
 ·exact QI
 ·exact QI
 ·have e:∀k,fh (cq l) ac (Ef (Array.replicate ops.size false)) s k=s:=by
   intro k
   induction k with
   |zero=>rfl
   |succ k ih=>
    have:Ef (Array.replicate ops.size false) k=false:=by
     exact Ue
    simp only[fh,this,ih]
    rfl
  exact acG
end
end
section
section
variable {P:Program}{M:Nat->Prop}{φ cY:Place}{H0:Hp}{w w' w0:World}{n:Nat}{s:S}{us:Nat->Prop}{a:Act}{cx:Cx}{ro:Option Nat}{k:Nat}
variable {Q:Exit->Act->World->Prop}
theorem K2{ops:Array Oper}{po:Nat->Nat->Prop}{m:Nat}{X:V->S->Prop}{K:S->Prop}
 (uF:∀k,k<ops.size->∀j∈bO ops k,j<k)
 (Iv:∀E:Nat->Bool,(∀k,k<ops.size->E k=true->∀j∈bO ops k,E j=true)->∀k,k<ops.size->(∀j∈bO ops k,E j=true)->∀j,po k j->E j=true)
 (Iw:∀k,m<=k->k<ops.size->∀j,j<k->po k j)
 (hK:∀s φ a w,K s->cB M cY H0 w0 n cx φ s a w->Q .normal a w)
 (hX:∀v s' aI a' w' val,X v s'->cB M cY H0 w0 n cx aI s' a' w'->V.den (aq M aI s'.H) aI s'.H w' v val->Q (.panic [{v:=val,recovered:=false}]) a' w'):
 ∀ (d t:Nat) (s:S) (φ:Place) (au:Array Bool) (a:Act) (w:World),t+d=ops.size->au.size=ops.size->(∀k,k<ops.size->au.getD k false=decide (k<t))->m<=t->
   cB M cY H0 w0 n cx φ s a w->Bi P n ops X K (ops.toList.drop t) s->wpAnyIn (eB ro) k P .any ops Q d au a w:=by
 intro d
 induction d with
 |zero=>
  intro t s φ au a w ht eD hl LY hs h
  have e:t=ops.size:=ad
  subst e
  refine⟨?_, ?_⟩
  ·rw[List.eq_nil_iff_forall_not_mem]
   intro j hj
   obtain⟨h1,o,h2,_⟩:=mem_ready.1 hj
   have hjN:j<ops.size:=(Array.getElem?_eq_some_iff.1 h2).1
   have:=hl j hjN
   simp only[Array.getD_eq_getD_getElem?]at this h1
   rw[Array.getElem?_eq_getElem (by omega)]at this h1
   simp only[Option.getD_some]at this h1
   rw[h1]at this
   simp[hjN]at this
  ·rw[List.drop_eq_nil_of_le (by simp)]at h
   exact hK s φ a w h hs
 |succ d ih=>
  intro t s φ au a w ht eD hl LY hs h
  have htN:t<ops.size:=ad
  refine⟨fun hr=> ?_,fun i hi=> ?_⟩
  ·have:=qG uF eD hr t htN
   rw[hl t htN]at this
   simp at this
  ·obtain⟨h1,o,h2,h3⟩:=mem_ready.1 hi
   have vy:i<ops.size:=(Array.getElem?_eq_some_iff.1 h2).1
   have kZ:au.getD i false=false:=by
    simp only[Array.getD_eq_getD_getElem?]at h1|-
    rw[Array.getElem?_eq_getElem (by omega)]at h1|-
    simpa using h1
   have hit:t<=i:=by
    have:=hl i vy
    rw[kZ]at this
    have:=of_decide_eq_false this.symm
    omega
   have Nx:∀j∈bO ops i,au.getD j false=true:=by
    exact Xe
   have pg:∀k,k<ops.size->au.getD k false=true->∀j∈bO ops k,au.getD j false=true:=by
    intro k hk jT j hj
    have Uz:=uF k hk j hj
    rw[hl k hk]at jT
    rw[hl j (by omega)]
    have:=of_decide_eq_true jT
    exact decide_eq_true ad
   have hie:i=t:=by
    rcases Nat.eq_or_lt_of_le hit with e|e
    ·exact e.symm
    ·have:=Iv (fun k=>au.getD k false) pg i vy Nx t (Iw i ad vy t e)
     rw[hl t htN]at this
     simp at this
   subst hie
   have DN:ops.toList.drop i=o::ops.toList.drop (i+1):=by
    have Xy:i<ops.toList.length:=by simpa using vy
    rw[List.drop_eq_getElem_cons Xy]
    have:ops.toList[i]=o:=by
     have:=(Array.getElem?_eq_some_iff.1 h2).2
     simpa using this
    rw[this]
   rw[DN]at h
   obtain⟨g1,g2⟩:=rP hs h
   have vK:∀k,k<ops.size->(au.setIfInBounds i true).getD k false=decide (k<i+1):=by
    intro k hk
    simp only[Array.getD_eq_getD_getElem?]
    by_cases e:k=i
    ·subst e;simp[eD,vy]
    ·rw[Array.getElem?_setIfInBounds_ne (Ne.symm e)]
     have:=hl k hk
     simp only[Array.getD_eq_getD_getElem?]at this
     rw[this]
     exact decide_eq_decide.2 ad
   have jS:∀s' aI a' w',Bi P n ops X K (ops.toList.drop (i+1)) s'->cB M cY H0 w0 n cx aI s' a' w'->wpAnyIn (eB ro) k P .any ops Q d (au.setIfInBounds i true) a' w':=
    fun s' aI a' w' hk kE=>ih (i+1) s' aI _ a' w' ad (by simp[eD]) vK ad kE hk
   unfold wpOpIn
   simp only[h2]
   split
   ·rename_i hw
    exact zU hs (g1 hw) (fun s' aI a' w' hk kE=>jS s' aI a' w' hk kE) (fun v s' aI w' val hx kE hd=>hX v s' aI a w' val hx kE hd)
   ·rename_i hw
    obtain⟨dq,h3⟩:=g2 (by simpa using hw)
    exact⟨fun _ _=>trivial,jS _ _ _ _ h3 (Du hs dq)⟩
theorem Gs(bz:P.follows .mixedOrders=true){ops:Array Oper}{l:List cg}{id:Nat}(tK:mq n ops ops.toList=some l)(uF:∀k,k<ops.size->∀j∈bO ops k,j<k){ac:Nat->fX}{m:Nat}(hm:m<=ops.size){X:V->S->Prop}{K:S->Prop}
 (hs:cB M cY H0 w0 n cx φ s a w) (XF:∀i,i<m->UX P (fh (cq l) ac (fun _=>true) s i) (s.nx+i) (cq l i) (ac i))
 (ac7:∀i,i<m->(ac i).ok=true)
 {po:Nat->Nat->Prop} (Iv:∀E:Nat->Bool,(∀k,k<ops.size->E k=true->∀j∈bO ops k,E j=true)->∀k,k<ops.size->(∀j∈bO ops k,E j=true)->∀j,po k j->E j=true) (DM:∀k,k<ops.size->∀j,po k j->j<k)
 (hc:∀i j,i<j->j<m-> ¬po j i->Compat (cq l) ac (fun i=>yV (ac i)) i j)
 (Iw:∀k,m<=k->k<ops.size->∀j,j<k->po k j)
 (eZ:Bi P n ops X K (ops.toList.drop m) ⟨(fh (cq l) ac (fun _=>true) s m).env,(fh (cq l) ac (fun _=>true) s m).o,s.nx+m⟩)
 (hK:∀s φ a w,K s->cB M cY H0 w0 n cx φ s a w->Q .normal a w)
 (hX:∀v s' aI a' w' val,X v s'->cB M cY H0 w0 n cx aI s' a' w'->V.den (aq M aI s'.H) aI s'.H w' v val->Q (.panic [{v:=val,recovered:=false}]) a' w'):
 (Code.region id ops true).wpIn (eB ro) k P Q a w:=by
 refine wpIn_region_any bz ?_
 have hs:=DK hs
 generalize ({w with drawn:=w.drawn+1}:World)=w at hs
 let N:=m
 let Ef (au:Array Bool) (k:Nat):Bool:=au.getD k false
 let HV (au:Array Bool) (j:Nat):Prop:=j<s.nx\/∃k,k<N/\Ef au k=true/\j=s.nx+k
 have key:∀ (fuel:Nat) (au:Array Bool) (φ:Place) (a:Act) (w:World),au.size=ops.size->au.count true+fuel=ops.size->(∀k,k<ops.size->Ef au k=true->∀j∈bO ops k,Ef au j=true)->(∀k,k<ops.size->Ef au k=true->k<m)->
  vw M cY H0 w0 n cx φ (fh (cq l) ac (Ef au) s N) (HV au) a w->wpAnyIn (eB ro) k P .any ops Q fuel au a w:=by
  have fin:∀ (fuel:Nat) (au:Array Bool) (φ:Place) (a:Act) (w:World),au.size=ops.size->au.count true+fuel=ops.size->(∀k,k<ops.size->Ef au k=true->k<m)->(∀k,k<N->Ef au k=true)->vw M cY H0 w0 n cx φ (fh (cq l) ac (Ef au) s N) (HV au) a w->wpAnyIn (eB ro) k P .any ops Q fuel au a w:=by
   intro fuel au φ a w eD K0 cD bu hu
   have e:∀k,k<=N->fh (cq l) ac (Ef au) s k=fh (cq l) ac (fun _=>true) s k:=by
    intro k
    induction k with
    |zero=>intro _;rfl
    |succ k ih=>intro hk;simp only[fh,bu k (by omega),ih (by omega)]
   rw[e N (Nat.le_refl _)]at hu
   obtain⟨k1,k2⟩:=lB (us':=fun id=>id<s.nx+N) hu.heap (fun id h=>by
    show id<s.nx+N
    rcases h with h|⟨k,hk,_,rfl⟩<;>omega)
   have hlv:∀k,k<ops.size->au.getD k false=decide (k<m):=by
    intro k hk
    by_cases h:k<m
    ·rw[decide_eq_true h];exact bu k h
    ·rw[decide_eq_false h]
     cases hb:au.getD k false with
     |false=>rfl
     |true=>exact absurd (cD k hk hb) h
   have hcm:au.count true=m:=by
    have e1:au=Array.ofFn (n:=ops.size) fun k=>decide (k.1<m):=by
     apply Array.ext
     ·simp[eD]
     ·intro k h1 h2
      have:=hlv k ad
      simp only[Array.getD_eq_getD_getElem?]at this
      rw[Array.getElem?_eq_getElem h1]at this
      simpa using this
    have e2:au.toList=List.replicate m true++List.replicate (ops.size - m) false:=by
     apply List.ext_getElem?
     intro k
     by_cases hk:k<ops.size
     ·have h1:au.toList[k]? =some (decide (k<m)):=by
       have:=hlv k hk
       simp only[Array.getD_eq_getD_getElem?]at this
       rw[Array.getElem?_eq_getElem (by omega)]at this
       simp only[Option.getD_some]at this
       rw[Array.getElem?_toList,Array.getElem?_eq_getElem (by omega),this]
      rw[h1]
      by_cases h:k<m
      ·rw[List.getElem?_append_left (by simpa using h)]
       simp[h]
      ·rw[List.getElem?_append_right (by simpa using(by omega:m<=k))]
       rw[List.length_replicate,List.getElem?_replicate,if_pos (by omega),decide_eq_false h]
     ·rw[List.getElem?_eq_none (by simp[eD];omega),List.getElem?_eq_none (by simp;omega)]
    rw[<- Array.count_toList,e2,List.count_append,List.count_replicate_self,List.count_replicate]
    simp
   exact K2 uF Iv Iw hK hX fuel m ⟨(fh (cq l) ac (fun _=>true) s m).env,(fh (cq l) ac (fun _=>true) s m).o,s.nx+m⟩ φ au a w ad eD hlv (Nat.le_refl _) ⟨k1,hu.tr.trans k2,hu.size,hu.defers.mono k2,fun i=>V.aV k2 _ _ (hu.env i)⟩ eZ
  intro fuel
  induction fuel with
  |zero=>
   intro au φ a w eD K0 pg cD hu
   have bu:∀k,k<ops.size->Ef au k=true:=by
    intro k hk
    have h1:au.count true=au.size:=ad
    rw[Array.count_eq_size]at h1
    have:=h1 au[k] (Array.getElem_mem ad)
    simp only[Ef,Array.getD_eq_getD_getElem?]
    rw[Array.getElem?_eq_getElem (by omega)]
    simpa using this.symm
   exact fin 0 au φ a w eD K0 cD (fun k hk=>bu k ad) hu
  |succ fuel ih=>
   intro au φ a w eD K0 pg cD hu
   by_cases UZ:∀k,k<m->Ef au k=true
   ·exact fin (fuel+1) au φ a w eD K0 cD UZ hu
   have hex:∃j,j<m/\Ef au j=false:=by
    apply Classical.byContradiction
    intro jK
    refine UZ fun k hk=> ?_
    cases hb:Ef au k with
    |true=>rfl
    |false=>exact absurd ⟨k,hk,hb⟩ jK
   obtain⟨j0,hj0,ac8⟩:=hex
   refine⟨fun hr=> ?_,fun i hi=> ?_⟩
   ·have:=qG uF eD hr j0 ad
    rw[show au.getD j0 false=false from ac8]at this
    cases this
   obtain⟨h1,o,h2,h3⟩:=mem_ready.1 hi
   have hiS:i<ops.size:=(Array.getElem?_eq_some_iff.1 h2).1
   have kZ:Ef au i=false:=by
    simp only[Ef,Array.getD_eq_getD_getElem?]at h1|-
    rw[Array.getElem?_eq_getElem (by omega)]at h1|-
    simpa using h1
   have Nx:∀j∈bO ops i,Ef au j=true:=by
    exact Xe
   have vy:i<N:=by
    apply Classical.byContradiction
    intro yA
    have yA:m<=i:=Nat.le_of_not_lt yA
    have:=Iv _ pg i hiS Nx j0 (Iw i yA hiS j0 ad)
    rw[ac8]at this;cases this
   have Nz:BC N po (Ef au):=fun k hk jT=>Iv _ pg k ad (pg k ad jT)
   obtain⟨ag1,ag2⟩:=agree (s:=s) (n:=N) (fun k hk=>DM k ad) hc Nz vy kZ (Iv _ pg i ad Nx)
   obtain⟨g1,g2,g3,g4⟩:=Ab (w9 _ _ i o tK zq)
   have dn: ¬HV au (s.nx+i):=by
    rintro(h|⟨k,_,hk,he⟩)
    ·omega
    ·have:k=i:=ad
     subst this;rw[kZ]at hk;cases hk
   have Gp:∀k,Ef (au.setIfInBounds i true) k=(Ef au k||k==i):=by
    intro k
    simp only[Ef,Array.getD_eq_getD_getElem?]
    by_cases e:k=i
    ·subst e;simp[eD,hiS]
    ·rw[Array.getElem?_setIfInBounds_ne (Ne.symm e)]
     have:(k==i)=false:=by simpa using e
     simp[this]
   have XG:=insert (s:=s) hc Nz vy kZ Gp
   have XH:∀k,k<ops.size->Ef (au.setIfInBounds i true) k=true->∀j∈bO ops k,Ef (au.setIfInBounds i true) j=true:=by
    intro k hk jT j hj
    rw[Gp]at jT|-
    by_cases e:k=i
    ·subst e;simp[Nx j hj]
    ·have:(k==i)=false:=by simpa using e
     rw[this,Bool.or_false]at jT
     simp[pg k hk jT j hj]
   have NA:(au.setIfInBounds i true).count true+fuel=ops.size:=by
    have cD:i<au.size:=ad
    have e1:au.setIfInBounds i true=au.set i true cD:=by simp[Array.setIfInBounds,cD]
    have e2:au[i]=false:=by
     have:=kZ
     simp only[Ef,Array.getD_eq_getD_getElem?]at this
     rw[Array.getElem?_eq_getElem cD]at this
     simpa using this
    rw[e1,Array.count_set cD,e2]
    simp
    omega
   have jS:(ac i).ok=true->∀aI a' w',vw M cY H0 w0 n cx aI (yB o.dst (ac i) (fh (cq l) ac (Ef au) s N)) (fun id=>HV au id\/id=s.nx+i) a' w'->wpAnyIn (eB ro) k P .any ops Q fuel (au.setIfInBounds i true) a' w':=by
    intro ac6 aI a' w' CK
    refine ih _ aI a' w' (by simp[eD]) NA XH (fun k hk jT=> ?_) ?_
    ·rw[Gp]at jT
     by_cases e:k=i
     ·subst e;exact vy
     ·have:(k==i)=false:=by simpa using e
      rw[this,Bool.or_false]at jT
      exact cD k hk jT
    rw[XG,g2]
    obtain⟨k1,k2⟩:=lB (us':=HV (au.setIfInBounds i true)) CK.heap (fun id h=>by
     rcases h with(h|⟨k,hk,jT,rfl⟩)|rfl
     ·exact .inl h
     ·exact .inr ⟨k,hk,by rw[Gp,jT];rfl,rfl⟩
     ·exact .inr ⟨i,vy,by rw[Gp];simp,rfl⟩)
    exact ab1
   have K1:∀d want,(cq l i).gd=some (d,want)->(fh (cq l) ac (Ef au) s N).env d=(fh (cq l) ac (fun _=>true) s i).env d:=fun d want hd=>ag1 d (by simp[fU,tmpsOf,hd])
   have a8:=XF i vy
   have MJ:∀x∈(cq l i).op.operands,(fh (cq l) ac (Ef au) s N).ev x=(fh (cq l) ac (fun _=>true) s i).ev x:=fun x hx=>DI fun t ht=>ag1 t (by
    subst ht
    simp only[fU,tmpsOf,List.mem_append,List.mem_filterMap]
    exact .inl (.inl ⟨.tmp t,Array.mem_toList_iff.2 hx,rfl⟩))
   have Xo:(fh (cq l) ac (Ef au) s N).nx=(fh (cq l) ac (fun _=>true) s i).nx:=(lV N).trans (lV i).symm
   unfold wpOpIn
   simp only[h2]
   cases yz:ac i with
   |skip=>
    rw[yz]at a8 jS
    have hw:=gE hu.env g4 (gG K1 a8)
    simp only[hw,Bool.false_eq_true,if_false]
    refine⟨fun _ _=>trivial,jS rfl φ _ w ?_⟩
    have:=kD (v:= .cf []) (val:=undef) hu hu.heap (Trans.refl _ _ _) ⟨#[],rfl,rfl⟩ (dst:=o.dst) g3 rfl (us':=fun id=>HV au id\/id=s.nx+i) (fun id h=> .inl h)
    exact this
   |val v Δ rd=>
    rw[yz]at a8 jS
    have hw:=gE hu.env g4 (gG K1 a8.1)
    exact acz
   |bU v ws rd=>
    have:=ac7 i vy
    rw[yz]at this;cases this
   |dY=>
    have:=ac7 i vy
    rw[yz]at this;cases this
 refine key ops.size _ φ a w aF (by simp[Array.count_replicate]) (fun k hk jT=> ?_) (fun k hk jT=> ?_) ?_
 ·exact QI
 ·exact QI
 ·have e:∀k,fh (cq l) ac (Ef (Array.replicate ops.size false)) s k=s:=by
   intro k
   induction k with
   |zero=>rfl
   |succ k ih=>
    have:Ef (Array.replicate ops.size false) k=false:=by
     exact Ue
    simp only[fh,this,ih]
    rfl
  exact acG
end
end
end Go.Proofs.YtlhemmpklhhgoaaGreat
