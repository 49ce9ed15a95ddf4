/-
  A PART OF THE PROOF. Conditions: none.
-/
import Derived.OrdersIn
import Derived.Test.YtonbelhklnmjnaaGreatLp7
set_option linter.unusedSimpArgs false
set_option linter.unusedVariables false
namespace Go.Proofs.YtonbelhklnmjnaaGreat
section
def ab.refs:ab->List Nat
 | .row cs=>V.aL cs
 | .loop _ _ env _ _ _ _ _=>V.aL env
 |_=>[]
def EX(R:List Nat)(o:Nat->ab):Nat->ab:=fun id=>if R.contains id=true then o id else .no
def Gz(P:Program)(g:FuncId)(args:List V)(rd:List Nat)(o:Nat->ab)(out:R)(Δ:List (Nat×ab)):Prop:=
 Enters P g/\∀ (o':Nat->ab) (us:Nat->Prop) (M:Nat->Prop) (φ:Place) (w:World) (vals:Array Value),(∀id∈rd,o' id=o id/\us id)->aE M φ ⟨o',us⟩ w->V.aM (ay M φ ⟨o',us⟩) φ ⟨o',us⟩ w args vals.toList->
  Calls P g vals w fun e w'=>∃aN,aE M aN ⟨put o' Δ,us⟩ w'/\Trans φ ⟨o',us⟩ w aN ⟨put o' Δ,us⟩ w'/\out.is (ay M aN ⟨put o' Δ,us⟩) w' e
def yq(P:Program)(g:FuncId)(args:List V)(rd:List Nat)(o:Nat->ab)(fr:Nat)(v:V)(Δ:List (Nat×ab)):Prop:=
 Enters P g/\∀ (o':Nat->ab) (us:Nat->Prop) (M:Nat->Prop) (φ:Place) (w:World) (vals:Array Value),(∀id∈rd,o' id=o id/\us id)-> ¬us fr->aE M φ ⟨o',us⟩ w->V.aM (ay M φ ⟨o',us⟩) φ ⟨o',us⟩ w args vals.toList->
  Calls P g vals w fun e w'=>∃aN,aE M aN ⟨put o' Δ,fun id=>us id\/id=fr⟩ w'/\Trans φ ⟨o',us⟩ w aN ⟨put o' Δ,fun id=>us id\/id=fr⟩ w'/\∃val,e= .returned val/\V.den (ay M aN ⟨put o' Δ,fun id=>us id\/id=fr⟩) aN ⟨put o' Δ,fun id=>us id\/id=fr⟩ w' v val
mutual
theorem V.nD {B B':Nat->Prop}{φ aN:Place}{H H':Hp}{w:World}(hB:∀b, ¬B b-> ¬B' b):∀ (v:V) (val:Value),(∀id∈v.refs,H'.o id=H.o id/\aN id=φ id/\H'.us id)->V.den B φ H w v val->V.den B' aN H' w v val
 | .d x,val,_,h=>D.aW (w:=w) (w':=w) (fun b _ hn=>⟨rfl,hB b hn⟩) x val h
 | .br,_,_,h=>h
 | .aa,_,_,_=>trivial
 | .fq,_,_,h=>h
 | .rF es,val,_,h=>⟨D.aW (w:=w) (w':=w) (fun b _ hn=>⟨rfl,hB b hn⟩) (.sl es) val h.1,h.2⟩
 | .agg cs,val,hr,h=>by
   obtain⟨a,rfl,h1,h2⟩:=h
   exact⟨a,rfl,V.hY hB cs _ xJ h1,h2⟩
 | .cg cs,val,hr,h=>by
   obtain⟨a,rfl,h1⟩:=h
   exact⟨a,rfl,V.hY hB cs _ xJ h1⟩
 | .ptr id off,val,hr,h=>by
   exact We
 | .osl id ep,val,hr,h=>by
   obtain⟨a,b,c⟩:=hr id BE
   obtain⟨h0,h1,h2⟩:=h
   refine⟨h0,c,fun e he=> ?_⟩
   rw[a]at he
   obtain⟨x,y⟩:=h2 e he
   exact⟨x,fun heq=>(y heq).trans b.symm⟩
 | .pe id ep i sz off,val,hr,h=>by
   obtain⟨a,b,c⟩:=hr id BE
   obtain⟨h0,h1,h2⟩:=h
   refine⟨h0,c,fun e he=> ?_⟩
   rw[a]at he
   obtain⟨x,y⟩:=h2 e he
   exact SA
 | .pp cs off,val,_,h=>by
   obtain⟨a,ev,h1,h2,h3,h5,h4⟩:=h
   exact aa6
 | .func fn first cap,val,hr,h=>by
   obtain⟨f,c,rfl,h1,h2⟩:=h
   exact⟨f,c,rfl,V.hY hB first _ (fun id aC=>hr id (by simp[V.refs,aC])) h1,V.hY hB cap _ (fun id aC=>hr id (by simp[V.refs,aC])) h2⟩
 | .iface t x,val,hr,h=>by
   obtain⟨u,rfl,h⟩:=h
   exact⟨u,rfl,V.nD hB x u xJ h⟩
 | .xR id off n,val,hr,h=>by
   exact We
 | .mp id,val,hr,h=>by
   obtain⟨a,b,c⟩:=hr id BE
   obtain⟨h0,h1,h2⟩:=h
   refine⟨h0,c,fun cq=> ?_⟩
   rw[a]at cq
   exact(h2 cq).trans b.symm
 | .jW id,val,hr,h=>by
   exact We
theorem V.hY {B B':Nat->Prop}{φ aN:Place}{H H':Hp}{w:World}(hB:∀b, ¬B b-> ¬B' b):∀ (vs:List V) (vals:List Value),(∀id∈V.aL vs,H'.o id=H.o id/\aN id=φ id/\H'.us id)->V.aM B φ H w vs vals->V.aM B' aN H' w vs vals
 |[],_,_,h=>h
 |v::vs,_,hr,h=>by
  obtain⟨u,us,rfl,h1,h2⟩:=h
  exact⟨u,us,rfl,V.nD hB v u (fun id aC=>hr id (by simp[V.aL,aC])) h1,V.hY hB vs us (fun id aC=>hr id (by simp[V.aL,aC])) h2⟩
end
theorem IE{env:List V}{i id:Nat}(h:id∈(bp env i).refs):id∈V.aL env:=by
 unfold bp at h
 induction env generalizing i with
 |nil=>simp[V.refs]at h
 |cons v env ih=>
  cases i with
  |zero=>simp only[List.getD_cons_zero]at h;simp[V.aL,h]
  |succ i=>simp only[List.getD_cons_succ]at h;simp[V.aL,ih h]
theorem aX.refs {M M':Nat->Prop}{φ aN:Place}{H H':Hp}{w:World}{id:Nat}(hB:∀b, ¬ay M φ H b-> ¬ay M' aN H' b)(ho:H'.o id=H.o id)(fk:aN id=φ id)
 (hr:∀j∈(H.o id).refs,H'.o j=H.o j/\aN j=φ j/\H'.us j) (h:aX M φ H w id):aX M' aN H' w id:=by
 have hd:∀b,dw w b-> ¬ay M φ H b->w.heap[b]? =w.heap[b]? /\ ¬ay M' aN H' b:=fun b _ hn=>⟨rfl,hB b hn⟩
 unfold aX at*
 rw[ho]
 cases hx:H.o id with
 |no=>trivial
 |row cs=>
  simp only[hx]at h|-
  obtain⟨b,eE,ty,h1,h2,h3,h4⟩:=h
  exact⟨b,eE,ty,fk.trans h1,h2,V.hY hB cs _ (fun j hj=>hr j (by rw[hx];exact hj)) h3,h4⟩
 |arr ep ty sz es=>
  simp only[hx]at h|-
  obtain⟨h0,xs,h1,evs,h2,h3,h4⟩:=h
  exact⟨h0,xs,by rw[fk];exact h1,evs,h2,h3,D.aY hd es evs h4⟩
 |qg ep es=>
  simp only[hx]at h|-
  rw[fk]
  exact D.aW hd (.sl es) _ h
 |map kt vt l=>
  simp only[hx]at h|-
  obtain⟨b,es,clock,h1,h2,h4,h3⟩:=h
  exact⟨b,es,clock,fk.trans h1,h2,h4,aT.mono hd l _ h3⟩
 |iV l=>
  simp only[hx]at h|-
  rw[fk]
  exact D.aW hd (.mp _ _) _ h
 |nh l last=>
  simp only[hx]at h|-
  obtain⟨b,h1,h2⟩:=h
  exact⟨b,fk.trans h1,h2.mono hd rfl⟩
 |zS s pos=>
  simp only[hx]at h|-
  obtain⟨b,h1,h2⟩:=h
  exact⟨b,fk.trans h1,h2⟩
 |loop nf n env ps iW eS st H7=>
  simp only[hx]at h|-
  obtain⟨b,r,h1,h2,h0,h3,h4,h5,h6,h7,h8,h9⟩:=h
  exact⟨b,r,fk.trans h1,h2,h0,h3,h4,h5,h6,h7,h8,fun i=>V.nD hB _ _ (fun j hj=>hr j (by rw[hx];exact IE hj)) (h9 i)⟩
section
variable {P:Program}
theorem EY{o o':Nat->ab}{Δ:List (Nat×ab)}{id:Nat}(h:o id=o' id):put o Δ id=put o' Δ id:=GA h
where GA {o o':Nat->ab}:∀ {Δ:List (Nat×ab)} {id:Nat},o id=o' id->put o Δ id=put o' Δ id
 |[],_,h=>h
 |x::Δ,id,h=>by
  simp only[put,List.foldl_cons]
  refine GA (Δ:=Δ) (o:=aK o x.1 x.2) (o':=aK o' x.1 x.2) ?_
  simp only[aQ]
  split
  ·rfl
  ·exact h
theorem Ar{o:Nat->ab}:∀ {Δ:List (Nat×ab)} {id:Nat},(∀x∈Δ,x.1≠id)->put o Δ id=o id
 |[],_,_=>rfl
 |x::Δ,id,h=>by
  have:=Ar (o:=aK o x.1 x.2) (Δ:=Δ) (id:=id) (fun y hy=>h y sV)
  simp only[put,List.foldl_cons]at this|-
  rw[this];simp[Ne.symm (h x (by simp))]
theorem Gz.mz {g:FuncId}{args:List V}{rd:List Nat}{o:Nat->ab}{nx:Nat}{out:R}{Δ:List (Nat×ab)}(uj:∀id∈rd,id<nx)(eA:∀id∈V.aL args,id∈rd)(p6:∀id∈rd,∀j∈(o id).refs,j∈rd)(hΔ:∀x∈Δ,x.1∈rd)(afI:∀x∈Δ,∀j∈x.2.refs,j∈rd)
 (h:cK P g args (EX rd o) nx
  (fun v o1 _=>(∀id∈rd,o1 id=put o Δ id)/\∃vs rs,v=(match vs with|[v]=>v|vs=> .cg vs)/\ct o1 vs=some rs/\out= .ret rs/\∀id∈V.bD vs,id∉rd)
  (fun v o1 _=>(∀id∈rd,o1 id=put o Δ id)/\∃x,ew o1 v=some x/\out= .bP x/\∀id∈v.ids,id∉rd)):Gz P g args rd o out Δ:=by
 refine⟨h.1,fun o' us M φ w vals ho hH hd=> ?_⟩
 let M1:Nat->Prop:=fun b=>M b\/∃id,id∉rd/\(o' id).live=true/\eW (φ id)=some b
 let HR:Hp:=hp (EX rd o) nx
 have vh:∀id,id∈rd->EX rd o id=o' id:=fun id aC=>by simp[EX,aC,(ho id aC).1]
 have th:∀id,id∉rd->EX rd o id= .no:=fun id aC=>by simp[EX,aC]
 have hB:∀b,ay M1 φ HR b↔ay M φ ⟨o',us⟩ b:=by
  intro b
  constructor
  ·rintro((h|⟨id,h1,h2,h3⟩)|⟨id,h1,h2⟩)
   ·exact .inl h
   ·exact .inr ⟨id,h2,h3⟩
   ·by_cases aC:id∈rd
    ·exact .inr ⟨id,by show(o' id).live=true;rw[<- vh id aC];exact h1,h2⟩
    ·have:HR.o id= .no:=th id aC
     rw[this]at h1;cases h1
  ·rintro(h|⟨id,h1,h2⟩)
   ·exact .inl (.inl h)
   ·by_cases aC:id∈rd
    ·exact .inr ⟨id,by show(EX rd o id).live=true;rw[vh id aC];exact h1,h2⟩
    ·exact .inl (.inr ⟨id,aC,h1,h2⟩)
 have LD:∀id∈rd,HR.o id=o' id/\φ id=φ id/\HR.us id:=fun id aC=>⟨vh id aC,rfl,uj id aC⟩
 have hHR:aE M1 φ HR w:=by
  refine⟨fun id=> ?_,fun id hn=> ?_,fun i j b hi hj bi bj=> ?_,fun b hb=> ?_,fun b hb=> ?_⟩
  ·by_cases aC:id∈rd
   ·refine aX.refs (H:=⟨o',us⟩) (M:=M) (φ:=φ) (fun b hn hb=>hn ((hB b).1 hb)) (vh id aC) rfl (fun j hj=>LD j ?_) (hH.ok id)
    have:o' id=o id:=(ho id aC).1
    exact p6 id aC j (by rw[<- this];exact hj)
   ·unfold aX
    rw[show HR.o id= .no from th id aC];trivial
  ·exact th id fun aC=>hn (uj id aC)
  ·have live:∀i,(HR.o i).live=true->i∈rd/\(o' i).live=true:=fun i hi=>by
    by_cases aC:i∈rd
    ·exact⟨aC,by rw[<- vh i aC];exact hi⟩
    ·rw[show HR.o i= .no from th i aC]at hi;cases hi
   exact hH.apart i j b (live i hi).2 (live j hj).2 bi bj
  ·obtain⟨id,h1,h2⟩:=hb
   have aC:id∈rd:=by
    by_cases aC:id∈rd
    ·exact aC
    ·rw[show HR.o id= .no from th id aC]at h1;cases h1
   rw[show HR.o id=o' id from vh id aC]at h1
   obtain⟨k1,k2⟩:=hH.ours b ⟨id,h1,h2⟩
   refine⟨?_,k2⟩
   rintro(hM|⟨j,j1,j2,j3⟩)
   ·exact k1 hM
   ·exact j1 (hH.apart j id b j2 h1 j3 h2 ▸ aC)
  ·rcases hb with hb|⟨id,h1,h2,h3⟩
   ·exact hH.Br b hb
   ·exact(hH.ours b ⟨id,h2,h3⟩).2
 have hdR:V.aM (ay M1 φ HR) φ HR w args vals.toList:=V.hY (H:=⟨o',us⟩) (fun b hn hb=>hn ((hB b).1 hb)) _ _ (fun id aC=>LD id (eA id aC)) hd
 refine(h.2 M1 φ w vals hHR hdR).mono ?_
 rintro e w' ⟨jG,o1,Bu,v,k1,k2,k3⟩
 have main:(∀id∈rd,o1 id=put o Δ id)->∃aN,aE M aN ⟨put o' Δ,us⟩ w'/\Trans φ ⟨o',us⟩ w aN ⟨put o' Δ,us⟩ w'/\∀b,ay M aN ⟨put o' Δ,us⟩ b->M1 b\/∃id∈rd,(o1 id).live=true/\eW (jG id)=some b:=by
  intro wT
  have Gq:∀id∈rd,put o' Δ id=o1 id:=fun id aC=>(EY (ho id aC).1).trans (wT id aC).symm
  have J6:∀id,id∉rd->put o' Δ id=o' id:=fun id aC=>Ar fun x hx e=>aC (e ▸ hΔ x hx)
  let Iv:Place:=fun id=>if id∈rd then jG id else φ id
  have As:∀id∈rd,Iv id=jG id:=fun id aC=>if_pos aC
  have CB:∀id,id∉rd->Iv id=φ id:=fun id aC=>if_neg aC
  let H2:Hp:=⟨put o' Δ,us⟩
  have c0:∀b,df Iv H2 b->(∃id∈rd,(o1 id).live=true/\eW (jG id)=some b)\/∃id,id∉rd/\(o' id).live=true/\eW (φ id)=some b:=by
   rintro b ⟨id,h1,h2⟩
   by_cases aC:id∈rd
   ·exact .inl ⟨id,aC,by rw[<- Gq id aC];exact h1,by rw[<- As id aC];exact h2⟩
   ·exact .inr ⟨id,aC,by rw[<- J6 id aC];exact h1,by rw[<- CB id aC];exact h2⟩
  have hB2:∀b,ay M Iv H2 b->ay M1 jG (hp o1 Bu) b:=by
   rintro b (hb|hb)
   ·exact .inl (.inl hb)
   ·rcases c0 b hb with⟨id,h1,h2,h3⟩|⟨id,h1,h2,h3⟩
    ·exact .inr ⟨id,h2,h3⟩
    ·exact .inl (.inr ⟨id,h1,h2,h3⟩)
  have ab7:eF φ ⟨o',us⟩ Iv H2:=by
   refine⟨fun id h=>h,fun id hu hr=> ?_,fun id e' hu he=> ?_⟩
   ·by_cases aC:id∈rd
    ·rw[show H2.o id=o1 id from Gq id aC]at hr
     obtain⟨a,b⟩:=k2.rel.row id (uj id aC) hr
     rw[show HR.o id=o' id from vh id aC]at a
     exact⟨a,(As id aC).trans b⟩
    ·rw[show H2.o id=o' id from J6 id aC]at hr
     exact⟨hr,CB id aC⟩
   ·by_cases aC:id∈rd
    ·rw[show H2.o id=o1 id from Gq id aC]at he
     obtain⟨e0,a,b,c⟩:=k2.rel.ep id e' (uj id aC) he
     rw[show HR.o id=o' id from vh id aC]at a
     exact⟨e0,a,b,fun heq=>(As id aC).trans (c heq)⟩
    ·rw[show H2.o id=o' id from J6 id aC]at he
     exact⟨e',he,Nat.le_refl _,fun _=>CB id aC⟩
  have xW:∀b,dw w b-> ¬ay M φ ⟨o',us⟩ b->w'.heap[b]? =w.heap[b]? /\ ¬ay M Iv H2 b:=by
   intro b hc hn
   obtain⟨a,c⟩:=k2.blocks (M:=M1) b hc (fun hb=>hn ((hB b).1 hb))
   exact⟨a,fun hb=>c (hB2 b hb)⟩
  have xh:∀b,b<w.heap.size-> ¬df φ HR b->w'.heap[b]? =w.heap[b]? :=fun b hb hl=>k2.keep.block b hb hl
  have ht:Trans φ ⟨o',us⟩ w Iv H2 w':=by
   refine⟨⟨k2.keep.os,k2.keep.tape,k2.keep.output,k2.keep.size,fun b hb hl=>xh b hb fun⟨id,h1,h2⟩=>hl ?_⟩,fun b hb=> ?_,ab7⟩
   ·by_cases aC:id∈rd
    ·exact⟨id,by show(o' id).live=true;rw[<- vh id aC];exact h1,h2⟩
    ·rw[show HR.o id= .no from th id aC]at h1;cases h1
   ·rcases c0 b hb with⟨id,h1,h2,h3⟩|⟨id,h1,h2,h3⟩
    ·rcases k2.grow b ⟨id,h2,h3⟩with⟨j,j1,j2⟩|Bt
     ·by_cases aC:j∈rd
      ·exact .inl ⟨j,by show(o' j).live=true;rw[<- vh j aC];exact j1,j2⟩
      ·rw[show HR.o j= .no from th j aC]at j1;cases j1
     ·exact .inr Bt
    ·exact .inl ⟨id,h2,h3⟩
  refine⟨Iv,⟨fun id=> ?_,fun id hn=> ?_,fun i j b hi hj bi bj=> ?_,fun b hb=> ?_,fun b hb=>Nat.lt_of_lt_of_le (hH.Br b hb) k2.keep.size⟩,ht,fun b hb=> ?_⟩
  ·by_cases aC:id∈rd
   ·refine aX.refs (H:=hp o1 Bu) (M:=M1) (φ:=jG) (fun b hn hb=>hn (hB2 b hb)) (Gq id aC) (As id aC) (fun j hj=> ?_) (k1.ok id)
    have J2:j∈rd:=by
     have e1:o1 id=put o Δ id:=wT id aC
     have hj:j∈(put o Δ id).refs:=by rw[<- e1];exact hj
     have key:∀ (GC:List (Nat×ab)) (q:Nat->ab),(∀x∈GC,∀j∈x.2.refs,j∈rd)->(∀j∈(q id).refs,j∈rd)->∀j∈(put q GC id).refs,j∈rd:=by
      intro GC
      induction GC with
      |nil=>intro q _ h2;exact h2
      |cons x GC ih=>
       intro q h1 h2
       simp only[put,List.foldl_cons]
       refine ih (aK q x.1 x.2) (fun y hy=>h1 y sV) ?_
       simp only[aQ]
       split
       ·exact h1 x ao
       ·exact h2
     exact key Δ o afI (p6 id aC) j hj
    exact⟨Gq j J2,As j J2,(ho j J2).2⟩
   ·exact aX.BZ xW ab7 (J6 id aC) (CB id aC) (fun hl b hb=>xh b (hH.ours b ⟨id,hl,hb⟩).2 fun⟨j,j1,j2⟩=>by
     by_cases hj:j∈rd
     ·rw[show HR.o j=o' j from vh j hj]at j1
      exact aC (hH.apart id j b hl j1 hb j2 ▸ hj)
     ·rw[show HR.o j= .no from th j hj]at j1;cases j1) (hH.ok id)
  ·have aC:id∉rd:=fun aC=>hn (ho id aC).2
   exact(J6 id aC).trans (hH.fresh id hn)
  ·by_cases e1:i∈rd<;>by_cases e2:j∈rd
   ·refine k1.apart i j b ?_ ?_ (by rw[<- As i e1];exact bi) (by rw[<- As j e2];exact bj)
    ·show(o1 i).live=true;rw[<- Gq i e1];exact hi
    ·show(o1 j).live=true;rw[<- Gq j e2];exact hj
   ·exfalso
    refine(k1.ours b ⟨i,by show(o1 i).live=true;rw[<- Gq i e1];exact hi,by rw[<- As i e1];exact bi⟩).1 (.inr ⟨j,e2,by rw[<- J6 j e2];exact hj,by rw[<- CB j e2];exact bj⟩)
   ·exfalso
    refine(k1.ours b ⟨j,by show(o1 j).live=true;rw[<- Gq j e2];exact hj,by rw[<- As j e2];exact bj⟩).1 (.inr ⟨i,e1,by rw[<- J6 i e1];exact hi,by rw[<- CB i e1];exact bi⟩)
   ·exact hH.apart i j b (by show(o' i).live=true;rw[<- J6 i e1];exact hi) (by show(o' j).live=true;rw[<- J6 j e2];exact hj) (by rw[<- CB i e1];exact bi) (by rw[<- CB j e2];exact bj)
  ·rcases c0 b hb with⟨id,h1,h2,h3⟩|⟨id,h1,h2,h3⟩
   ·obtain⟨a,c⟩:=k1.ours b ⟨id,h2,h3⟩
    exact⟨fun hM=>a (.inl hM),c⟩
   ·obtain⟨a,c⟩:=hH.ours b ⟨id,h2,h3⟩
    exact⟨a,Nat.lt_of_lt_of_le c k2.keep.size⟩
  ·rcases hb with hb|hb
   ·exact .inl (.inl hb)
   ·rcases c0 b hb with h|h
    ·exact .inr h
    ·exact .inl (.inr h)
 have res:∀ (vs:List V) (xs:List D) (us':List Value),(∀id∈rd,o1 id=put o Δ id)->ct o1 vs=some xs->(∀id∈V.bD vs,id∉rd)->V.aM (ay M1 jG (hp o1 Bu)) jG (hp o1 Bu) w' vs us'->
  ∃aN,aE M aN ⟨put o' Δ,us⟩ w'/\Trans φ ⟨o',us⟩ w aN ⟨put o' Δ,us⟩ w'/\D.aM (ay M aN ⟨put o' Δ,us⟩) w' xs us':=by
  intro vs xs us' wT h1 afJ h2
  obtain⟨f1,f2,f3,f4,f5⟩:=dx k1 (V.bD vs) (dh vs _ h2)
  have h3:=dJ f1 vs xs us' f3 h1 (V.aY f2 _ _ h2)
  obtain⟨aN,m1,m2,m3⟩:=main wT
  refine⟨aN,m1,m2,D.aY (w:=w') (w':=w') (fun b _ hn=>⟨rfl,fun hb=>hn ?_⟩) xs us' h3⟩
  rcases m3 b hb with hb|⟨id,i1,i2,i3⟩
  ·exact .inl hb
  ·exact .inr ⟨id,by rw[f4 id fun hm=>afJ id hm i1];exact i2,i3⟩
 cases e with
 |outgrown=>exact k3.elim
 |panicked ch=>
  obtain⟨val,rfl,g1,wT,x,g2,rfl,g3⟩:=k3
  obtain⟨aN,m1,m2,m3⟩:=res [v] [x] [val] wT (by simp[ct,g2]) (by simpa[V.bD]using g3) ⟨val,[],rfl,g1,rfl⟩
  obtain⟨u,us2,he,h2,_⟩:=m3
  simp at he;obtain⟨rfl,rfl⟩:=he
  exact⟨aN,m1,m2,val,rfl,h2⟩
 |returned val=>
  obtain⟨g1,wT,vs,rs,rfl,g2,rfl,g3⟩:=k3
  match vs,g1,g2,g3 with
  |[],g1,g2,g3=>
   obtain⟨arr,rfl,hv⟩:=g1
   simp only[ct,Option.some.injEq]at g2;subst g2
   obtain⟨aN,m1,m2,m3⟩:=res [] [] arr.toList wT rfl (by simp[V.bD]) hv
   exact⟨aN,m1,m2,arr,rfl,m3⟩
  |[v],g1,g2,g3=>
   obtain⟨aN,m1,m2,m3⟩:=res [v] rs [val] wT g2 g3 ⟨val,[],rfl,g1,rfl⟩
   refine⟨aN,m1,m2, ?_⟩
   cases rs with
   |nil=>cases m3
   |cons x l=>
    obtain⟨u,us2,he,h2,h3⟩:=m3
    simp at he;obtain⟨rfl,rfl⟩:=he
    cases l with
    |nil=>exact h2
    |cons y l=>obtain⟨_,_,h,_⟩:=h3;cases h
  |v::v2::l,g1,g2,g3=>
   obtain⟨arr,rfl,hv⟩:=g1
   obtain⟨aN,m1,m2,m3⟩:=res (v::v2::l) rs arr.toList wT g2 g3 hv
   refine⟨aN,m1,m2, ?_⟩
   have hl:=D.aJ _ _ m3
   have BI:=V.aJ _ _ hv
   match rs,hl,m3 with
   |[],hl,_=>exact F4
   |[x],hl,_=>exact F4
   |x::y::l,_,m3=>exact⟨arr,rfl,m3⟩
end
end
section
inductive fO where
 |skip|val (v:V) (Δ:List (Nat×ab)) (rd:List Nat)|bP (v:V) (ws rd:List Nat)|eW
 deriving Inhabited
def fO.ok:fO->Bool
 | .skip| .val .. =>true
 |_=>false
def wW(dst:Option Tmp)(x:fO)(s:S):S:=
 match x with
 | .skip=>⟨bt s.env dst (.cg []),s.o,s.nx⟩
 | .val v Δ _=>⟨bt s.env dst v,put s.o Δ,s.nx⟩
 | .bP .. | .eW=>⟨bt s.env dst .aa,s.o,s.nx⟩
def lB:fO->List Nat
 | .val _ Δ _=>Δ.map (·.1)
 |_=>[]
def xi:fO->List Nat
 | .val _ _ rd=>rd
 | .bP _ _ rd=>rd
 |_=>[]
def Tf(P:Program)(g:FuncId)(ds:List D)(v:V):Prop:=
 Enters P g/\∀ (M:Nat->Prop) (w:World) (vals:Array Value),(∀b,M b->b<w.heap.size)->D.aM M w ds vals.toList->
  Calls P g vals w fun e w'=>eT (fun _=>False) w w'/\∃val,e= .returned val/\∀φ H,V.den M φ H w' v val
theorem Tf.mz {P:Program}{g:FuncId}{ds:List D}{v:V}(hr:v.refs=[])(h:cK P g (ds.map .d) (fun _=> .no) 0 (fun v' _ _=>v'=v) (fun _ _ _=>False)):Tf P g ds v:=by
 refine⟨h.1,fun M w vals hM hd=> ?_⟩
 let cN:Place:=fun _=> .nilFunc
 have xh:∀b, ¬df cN (hp (fun _=> .no) 0) b:=by rintro b ⟨id,hl,_⟩;simp[hp,ab.live]at hl
 refine(h.2 M cN w vals (lV cN hM) ((V.cD _ _).2 (D.aY (w:=w) (w':=w) (B:=M) (fun b _ hB=>⟨rfl,fun h=>h.elim hB (xh b)⟩) _ _ hd))).mono ?_
 rintro e w' ⟨aN,o',nx',v',k1,k2,k3⟩
 refine⟨⟨k2.keep.os,k2.keep.tape,k2.keep.output,k2.keep.size,fun k hk _=>k2.keep.block k hk (xh k)⟩, ?_⟩
 cases e with
 |outgrown=>exact k3.elim
 |panicked ch=>obtain⟨_,_,_,h⟩:=k3;exact h.elim
 |returned val=>
  obtain⟨g1,rfl⟩:=k3
  exact⟨val,rfl,fun φ H=>V.nD (B:=ay M aN (hp o' nx')) (φ:=aN) (H:=hp o' nx') (fun b hb hm=>hb (.inl hm)) v' val (fun id aC=>by rw[hr]at aC;cases aC) g1⟩
def yr(P:Program)(s:S)(fr:Nat)(op:Op)(v:V)(Δ:List (Nat×ab))(rd:List Nat):Prop:=
 ((∃uf,gQ P s fr op=some (v,Δ,uf))/\rd=oS s op)\/
 (∃c f g first cap,op= .call c/\c.callee= .value f/\s.ev f= .func (.func g) first cap/\
  ((∃ds rs,ct s.o (first++c.args.toList.map s.ev++cap)=some ds/\aR P g ds (.ret rs)/\v=jR rs/\rd=oS s op/\
    (Δ=dk s.o (V.bD (first++c.args.toList.map s.ev++cap))\/D.ku rs=true/\Δ=[]))\/
   (∃rs,Gz P g (first++c.args.toList.map s.ev++cap) rd s.o (.ret rs) Δ/\v=jR rs/\∀id∈rd,id<s.nx)\/
   (∃ds,ct s.o (first++c.args.toList.map s.ev++cap)=some ds/\Tf P g ds v/\rd=oS s op/\Δ=dk s.o (V.bD (first++c.args.toList.map s.ev++cap)))\/
   (yq P g (first++c.args.toList.map s.ev++cap) rd s.o fr v Δ/\∀id∈rd,id<s.nx)))
def CC(P:Program)(s:S)(op:Op)(v:V)(ws rd:List Nat):Prop:=
 ∃c f g first cap,op= .call c/\c.callee= .value f/\s.ev f= .func (.func g) first cap/\
  ((∃ds x,ct s.o (first++c.args.toList.map s.ev++cap)=some ds/\aR P g ds (.bP x)/\x.flat=true/\v= .d x/\rd=oS s op/\ws=[])\/
   (∃x Δ,Gz P g (first++c.args.toList.map s.ev++cap) rd s.o (.bP x) Δ/\v= .d x/\ws=Δ.map (·.1)/\∀id∈rd,id<s.nx))
def eD(s:S)(gd:Option (Nat×Bool))(b:Bool):Prop:=
 match gd with
 |none=>b=true
 |some (d,want)=>match s.env d with
  | .d (.bool c)=>b=(c==want)
  | .cg []=>b=false
  |_=>False
def Tg(P:Program)(s:S)(fr:Nat)(o:ck)(x:fO):Prop:=
 match x with
 | .skip=>eD s o.gd false
 | .val v Δ rd=>eD s o.gd true/\yr P s fr o.op v Δ rd
 | .bP v ws rd=>eD s o.gd true/\CC P s o.op v ws rd
 | .eW=>True
def fg(oc:Nat->ck)(ac:Nat->fO)(E:Nat->Bool)(s:S):Nat->S
 |0=>s
 |k+1=>if E k then wW (oc k).dst (ac k) (fg oc ac E s k)else fg oc ac E s k
structure Compat (oc:Nat->ck) (ac:Nat->fO) (R:Nat->List Nat) (i j:Nat):Prop where
 di:∀d,(oc i).dst=some d->d∉fH (oc j)
 dj:∀d,(oc j).dst=some d->d∉fH (oc i)
 wi:∀id∈lB (ac i),id∉R j/\id∉lB (ac j)
 wj:∀id∈lB (ac j),id∉R i
section
variable {P:Program}{oc:Nat->ck}{ac:Nat->fO}{s:S}{n:Nat}{E:Nat->Bool}{R:Nat->List Nat}{pr:Nat->Nat->Prop}
theorem EZ{env:Nat->V}{dst:Option Tmp}{v:V}{t:Nat}(h:∀d,dst=some d->d≠t):bt env dst v t=env t:=by
 cases dst with
 |none=>rfl
 |some d=>simp only[bt,aQ];rw[if_neg (fun e=>h d rfl e.symm)]
theorem hZ{o:Nat->ab}:∀ {Δ:List (Nat×ab)} {id:Nat},id∉Δ.map (·.1)->put o Δ id=o id
 |[],_,_=>rfl
 |x::Δ,id,h=>by
  simp only[List.map_cons,List.mem_cons,not_or]at h
  have:=hZ (o:=aK o x.1 x.2) (Δ:=Δ) h.2
  simp only[put,List.foldl_cons]at this|-
  rw[this];simp[h.1]
theorem Au{o o':Nat->ab}:∀ {Δ:List (Nat×ab)} {id:Nat},id∈Δ.map (·.1)\/o id=o' id->put o Δ id=put o' Δ id
 |[],_,h=>by rcases h with h|h;· simp at h
             ·exact h
 |x::Δ,id,h=>by
  simp only[put,List.foldl_cons]
  refine Au (Δ:=Δ) (o:=aK o x.1 x.2) (o':=aK o' x.1 x.2) ?_
  simp only[List.map_cons,List.mem_cons]at h
  simp only[aQ]
  by_cases e:id=x.1
  ·right;simp[e]
  ·rcases h with(h|h)|h
   ·exact absurd h e
   ·exact .inl h
   ·right;simp[e,h]
theorem lC{dst:Option Tmp}{x:fO}{t:Nat}(h:∀d,dst=some d->d≠t):(wW dst x s).env t=s.env t:=by
 cases x<;>exact EZ h
theorem nE{dst:Option Tmp}{x:fO}{id:Nat}(h:id∉lB x):(wW dst x s).o id=s.o id:=by
 cases x with
 |val v Δ rd=>exact hZ h
 |_=>rfl
theorem Av{dst:Option Tmp}{x:fO}{s':S}{t:Nat}(h:s.env t=s'.env t):(wW dst x s).env t=(wW dst x s').env t:=by
 cases x<;>cases dst<;>simp only[wW,bt,aQ]<;>first|exact h|(split<;>first|rfl|exact h)
theorem E0{dst:Option Tmp}{x:fO}{s':S}{id:Nat}(h:s.o id=s'.o id):(wW dst x s).o id=(wW dst x s').o id:=by
 cases x with
 |val v Δ rd=>exact Au (.inr h)
 |_=>exact h
theorem put_comm{o:Nat->ab}{Δ GC:List (Nat×ab)}(h:∀id∈Δ.map (·.1),id∉GC.map (·.1)):put (put o Δ) GC=put (put o GC) Δ:=by
 funext id
 by_cases h1:id∈Δ.map (·.1)
 ·rw[hZ (h id h1)]
  exact Au (.inl h1)
 ·rw[hZ (Δ:=Δ) h1]
  by_cases h2:id∈GC.map (·.1)
  ·exact Au (.inl h2)
  ·rw[hZ h2,hZ h2,hZ h1]
theorem yu{env:Nat->V}{d d':Option Tmp}{v v':V}(h:∀t,d=some t->d'≠some t):bt (bt env d v) d' v'=bt (bt env d' v') d v:=by
 cases d with
 |none=>rfl
 |some t=>
  cases d' with
  |none=>rfl
  |some t'=>
   have ik:t'≠t:=fun e=>h t rfl (by rw[e])
   funext i
   simp only[bt,aQ]
   by_cases e1:i=t<;>by_cases e2:i=t'
   ·exact absurd (e2.symm.trans e1) ik
   all_goals simp[e1,e2]
   ·intro e;exact absurd e.symm ik
   ·intro e;exact absurd e ik
theorem L3{d d':Option Tmp}{x x':fO}(hd:∀t,d=some t->d'≠some t)(hw:∀id∈lB x,id∉lB x'):wW d x (wW d' x' s)=wW d' x' (wW d x s):=by
 cases x<;>cases x'<;>simp only[wW]<;>first
  |rw[yu hd,put_comm hw]
  |rw[yu hd]
def Aw(n:Nat)(pr:Nat->Nat->Prop)(E:Nat->Bool):Prop:=∀k,k<n->E k=true->∀j,pr k j->E j=true
theorem agree(_:∀k,k<n->∀j,pr k j->j<k)(hc:∀i j,i<j->j<n-> ¬pr j i->Compat oc ac R i j)(hE:Aw n pr E){i:Nat}(hi:i<n)(m8:E i=false)(L4:∀j,pr i j->E j=true):
 (∀t∈fH (oc i),(fg oc ac E s n).env t=(fg oc ac (fun _=>true) s i).env t)/\(∀id∈R i,(fg oc ac E s n).o id=(fg oc ac (fun _=>true) s i).o id):=by
 have a:∀k,k<=i->(∀t∈fH (oc i),(fg oc ac E s k).env t=(fg oc ac (fun _=>true) s k).env t)/\(∀id∈R i,(fg oc ac E s k).o id=(fg oc ac (fun _=>true) s k).o id):=by
  intro k
  induction k with
  |zero=>intro _;exact⟨fun _ _=>rfl,fun _ _=>rfl⟩
  |succ k ih=>
   intro hk
   obtain⟨h1,h2⟩:=ih ah
   simp only[fg,if_true]
   by_cases iM:E k=true
   ·simp only[iM,if_true]
    exact⟨fun t ht=>Av (h1 t ht),fun id aC=>E0 (h2 id aC)⟩
   ·have S5: ¬pr i k:=fun hm=>iM (L4 k hm)
    have c:=hc k i ah hi S5
    simp only[iM]
    refine⟨fun t ht=> ?_,fun id aC=> ?_⟩
    ·rw[lC fun d hd e=>c.di d hd (e ▸ ht)];exact h1 t ht
    ·rw[nE fun hm=>(c.wi id hm).1 aC];exact h2 id aC
 have b:∀k,i<=k->k<=n->(∀t∈fH (oc i),(fg oc ac E s k).env t=(fg oc ac (fun _=>true) s i).env t)/\(∀id∈R i,(fg oc ac E s k).o id=(fg oc ac (fun _=>true) s i).o id):=by
  intro k PJ
  induction PJ with
  |refl=>intro _;exact a i (Nat.le_refl _)
  | @step k PJ ih=>
    intro hk
    have PJ:i<=k:=PJ
    obtain⟨h1,h2⟩:=ih ah
    simp only[fg]
    by_cases iM:E k=true
    ·have ik:i≠k:=fun e=>by rw[e,iM]at m8;cases m8
     have S5: ¬pr k i:=fun hm=>by have:=hE k ah iM i hm;rw[m8]at this;cases this
     have c:=hc i k ah ah S5
     simp only[iM,if_true]
     refine⟨fun t ht=> ?_,fun id aC=> ?_⟩
     ·rw[lC fun d hd e=>c.dj d hd (e ▸ ht)];exact h1 t ht
     ·rw[nE fun hm=>c.wj id hm aC];exact h2 id aC
    ·simp only[iM];exact⟨h1,h2⟩
 exact b n ah (Nat.le_refl _)
theorem insert(hc:∀i j,i<j->j<n-> ¬pr j i->Compat oc ac R i j)(hE:Aw n pr E){i:Nat}(hi:i<n)(m8:E i=false){E':Nat->Bool}(E1:∀k,E' k=(E k||k==i)):
 fg oc ac E' s n=wW (oc i).dst (ac i) (fg oc ac E s n):=by
 have a:∀k,k<=i->fg oc ac E' s k=fg oc ac E s k:=by
  intro k
  induction k with
  |zero=>intro _;rfl
  |succ k ih=>
   intro hk
   have:E' k=E k:=by rw[E1 k];have:(k==i)=false:=by simp;omega
                     simp[this]
   simp only[fg,this,ih (by omega)]
 have b:∀k,i+1<=k->k<=n->fg oc ac E' s k=wW (oc i).dst (ac i) (fg oc ac E s k):=by
  intro k PJ
  induction PJ with
  |refl=>
   intro _
   have h1:E' i=true:=by rw[E1 i];simp
   simp only[fg,h1,m8,if_true,a i (Nat.le_refl _)]
   rfl
  | @step k PJ ih=>
    intro hk
    have PJ:i+1<=k:=PJ
    have h1:E' k=E k:=by rw[E1 k];have:(k==i)=false:=by simp;omega
                         simp[this]
    simp only[fg,h1,ih (by omega)]
    by_cases iM:E k=true
    ·have S5: ¬pr k i:=fun hm=>by have:=hE k ah iM i hm;rw[m8]at this;cases this
     have c:=hc i k ah ah S5
     simp only[iM,if_true]
     refine L3 (fun t ht he=> ?_) (fun id aC hm=>(c.wi id hm).2 aC)
     exact c.di t he (by simp[fH,ht])
    ·simp only[iM];rfl
 exact b n ah (Nat.le_refl _)
end
end
section
structure tS (M:Nat->Prop) (cN:Place) (H0:Hp) (w0:World) (n:Nat) (cx:Cx) (φ:Place) (s:S) (us:Nat->Prop) (a:Act) (w:World):Prop where
 heap:aE M φ ⟨s.o,us⟩ w
 tr:Trans cN H0 w0 φ ⟨s.o,us⟩ w
 size:a.tmps.size=n
 defers:u6 cx w0 φ ⟨s.o,us⟩ w a.defers
 env:∀i,V.den (ay M φ ⟨s.o,us⟩) φ ⟨s.o,us⟩ w (s.env i) (a.tmps.getD i undef)
section
variable {P:Program}{M:Nat->Prop}{φ cN:Place}{H0:Hp}{w w' w0:World}{n:Nat}{s:S}{us:Nat->Prop}{a:Act}{cx:Cx}{ro:Option Nat}{k:Nat}
variable {next:Act->World->Prop}{Q:Exit->Act->World->Prop}
theorem j9(hs:tS M cN H0 w0 n cx φ s us a w){aN:Place}{H':Hp}(hH:aE M aN H' w')(ht:Trans φ ⟨s.o,us⟩ w aN H' w'){v:V}{val:Value}(hd:V.den (ay M aN H') aN H' w' v val){dst:Option Tmp}(de:iz n dst)
 {o':Nat->ab} {us':Nat->Prop} (ho:H'.o=o') (hu:∀id,H'.us id->us' id):tS M cN H0 w0 n cx aN ⟨bt s.env dst v,o',s.nx⟩ us' (a.put dst val) w':=by
 obtain⟨k1,k2⟩:=kU hH hu
 subst ho
 refine⟨k1,hs.tr.trans (ht.trans k2), ?_, ?_,fun i=> ?_⟩
 ·cases dst<;>simp[Act.put,hs.size]
 ·have:=hs.defers.mono (ht.trans k2);cases dst<;>exact this
 ·cases dst with
  |none=>exact O5
  |some d=>
   simp only[iz]at de
   simp only[bt,aQ,Act.put]
   by_cases hi:i=d
   ·subst hi
    have h1:(a.tmps.setIfInBounds i val).getD i undef=val:=by simp[Array.getD,hs.size,de]
    rw[if_pos rfl,h1]
    exact V.aW k2 _ _ hd
   ·have h1:(a.tmps.setIfInBounds d val).getD i undef=a.tmps.getD i undef:=by
     exact Wp
    rw[if_neg hi,h1]
    exact O5
theorem yw(hs:tS M cN H0 w0 n cx φ s us a w){o:Oper}{op:Op}(fl:o.op=op){c:Call}{f:Operand}{g:FuncId}{first cap:List V}(hc:op= .call c)(fF:c.callee= .value f)(w7:s.ev f= .func (.func g) first cap):
 ∃vals:Array Value,V.aM (ay M φ ⟨s.o,us⟩) φ ⟨s.o,us⟩ w (first++c.args.toList.map s.ev++cap) vals.toList/\(Enters P g->(execOp a.eval o).run P w= .ok (.enter g vals) w):=by
 have hf:=nm (M:=M) (φ:=φ) (H:=⟨s.o,us⟩) (w:=w) s a hs.env f
 have eA:=kW (M:=M) (φ:=φ) (H:=⟨s.o,us⟩) (w:=w) s a hs.env c.args.toList
 rw[w7]at hf
 obtain⟨fa,ca,WI,Er,hca⟩:=hf
 refine⟨fa++c.args.map a.eval++ca, ?_,fun he=> ?_⟩
 ·exact Sq
 ·have:=lU (w:=w) he (fa++c.args.map a.eval++ca)
  generalize qe:fa++c.args.map a.eval++ca=vals at this
  simp[execOp,fl,hc,resolve,fF,WI,Deferred.ofValue,invoke,this,qe]
theorem Kv(hs:tS M cN H0 w0 n cx φ s us a w){fr:Nat}(dE: ¬us fr)(uj:∀id,id<s.nx->us id){o:Oper}{op:Op}(fl:o.op=op)(de:iz n o.dst){v:V}{Δ:List (Nat×ab)}{rd:List Nat}(h:yr P s fr op v Δ rd)
 (hN:∀aN a' w',tS M cN H0 w0 n cx aN (wW o.dst (.val v Δ rd) s) (fun id=>us id\/id=fr) a' w'->next a' w'):o.wpIn (ey ro) k P a w next Q:=by
 rcases h with⟨⟨uf,h⟩,_⟩|⟨c,f,g,first,cap,hc,fF,w7,h⟩
 ·have h1:=Cy (K:=fun v' GC _=>v'=v/\GC=Δ) h ⟨rfl,rfl⟩
  obtain⟨nx,val,w',aN,v',GC,uf,⟨rfl,rfl⟩,hr,afK,g1,g2,g3,g4⟩:=yg hs.heap (s:=s) rfl hs.env dE fl h1
  have Ad:=j9 hs g1 g2 g3 de (o':=put s.o GC) (us':=fun id=>us id\/id=fr) rfl (fun id hu=>hu.elim .inl (g4 id))
  refine la (fun c hc=>by rw[fl]at hc;subst hc;exact h1) ?_
  rw[hr]
  rcases afK with rfl|⟨rfl,rfl⟩
  ·exact hN _ _ _ Ad
  ·exact hN _ _ _ Ad
 ·refine la (fun c' Af=>by rw[fl,hc]at Af;cases Af) ?_
  obtain⟨vals,bw,fM⟩:=yw (P:=P) hs fl hc fF w7
  generalize first++c.args.toList.map s.ev++cap=all at h bw
  rcases h with⟨ds,rs,fG,hP,rfl,_,hΔ⟩|⟨rs,hH,rfl,oO⟩|⟨ds,fG,hP,_,rfl⟩|⟨hH,oO⟩
  ·obtain⟨f1,f2,f3,f4,f5⟩:=dx hs.heap (V.bD all) (dh all _ bw)
   have lz:(⟨s.o,us⟩:Hp).put (dk s.o (V.bD all))=⟨put s.o (dk s.o (V.bD all)),us⟩:=lT (H:=⟨s.o,us⟩) KI
   have xZ:=dJ f1 all ds _ f3 fG (V.aY f2 _ _ bw)
   have fA:=hP.2 _ w vals (fun b hb=>hb.elim (f1.Br b) fun hl=>(f1.ours b hl).2) xZ
   rw[fM hP.1]
   refine⟨fun hd=>by simp[ey]at hd,du (fA.mono fun e w' ⟨hk,ho⟩=> ?_)⟩
   cases e with
   |panicked ch=>exact wZ
   |outgrown=>exact wZ
   |returned val=>
    rcases hΔ with rfl|⟨rD,rfl⟩
    ·obtain⟨k1,k2⟩:=gZ f1 hk
     refine hN _ _ _ (j9 hs k1 (f2.trans k2) (nb ho) de (by rw[lz]) fun id hu=> ?_)
     rw[lz]at hu;exact .inl hu
    ·obtain⟨k1,k2⟩:=gZ hs.heap hk
     have ho:=R.Ae (out:= .ret rs) (B':=ay M φ ⟨s.o,us⟩) rD ho
     exact Ry
  ·have fA:=hH.2 s.o us M φ w vals (fun id aC=>⟨rfl,uj id (oO id aC)⟩) hs.heap bw
   rw[fM hH.1]
   refine⟨fun hd=>by simp[ey]at hd,du (fA.mono fun e w' ⟨aN,k1,k2,ho⟩=> ?_)⟩
   cases e with
   |panicked ch=>exact wZ
   |outgrown=>exact wZ
   |returned val=>exact Ry
  ·obtain⟨f1,f2,f3,f4,f5⟩:=dx hs.heap (V.bD all) (dh all _ bw)
   have lz:(⟨s.o,us⟩:Hp).put (dk s.o (V.bD all))=⟨put s.o (dk s.o (V.bD all)),us⟩:=lT (H:=⟨s.o,us⟩) KI
   have xZ:=dJ f1 all ds _ f3 fG (V.aY f2 _ _ bw)
   have fA:=hP.2 _ w vals (fun b hb=>hb.elim (f1.Br b) fun hl=>(f1.ours b hl).2) xZ
   rw[fM hP.1]
   refine⟨fun hd=>by simp[ey]at hd,du (fA.mono fun e w' ⟨hk,val,he,ho⟩=> ?_)⟩
   subst he
   obtain⟨k1,k2⟩:=gZ f1 hk
   refine hN _ _ _ (j9 hs k1 (f2.trans k2) (ho _ _) de (by rw[lz]) fun id hu=> ?_)
   rw[lz]at hu;exact .inl hu
  ·have fA:=hH.2 s.o us M φ w vals (fun id aC=>⟨rfl,uj id (oO id aC)⟩) dE hs.heap bw
   rw[fM hH.1]
   refine⟨fun hd=>by simp[ey]at hd,du (fA.mono fun e w' ⟨aN,k1,k2,val,he,ho⟩=> ?_)⟩
   subst he
   exact hN _ _ _ (j9 hs k1 k2 ho de rfl fun id hu=>hu)
theorem IF{o o2:Nat->ab}{us us2:Nat->Prop}(hH:aE M φ ⟨o,us⟩ w)(ho:∀id,o2 id=o id\/o2 id= .no)(hu:∀id,us id->us2 id):aE M φ ⟨o2,us2⟩ w/\Trans φ ⟨o,us⟩ w φ ⟨o2,us2⟩ w:=by
 have hl:∀id,(o2 id).live=true->(o id).live=true:=fun id h=>by
  rcases ho id with e|e
  ·rw[<- e];exact h
  ·rw[e]at h;cases h
 have hlb:∀b,df φ ⟨o2,us2⟩ b->df φ ⟨o,us⟩ b:=fun b ⟨id,h1,h2⟩=>⟨id,hl id h1,h2⟩
 have ht:Trans φ ⟨o,us⟩ w φ ⟨o2,us2⟩ w:=by
  refine⟨eT.refl _ _,fun b hb=> .inl (hlb b hb),⟨hu,fun id _ hr=> ?_,fun id e' _ he=> ?_⟩⟩
  ·rcases ho id with e|e
   ·exact⟨by show(o id).cB=true;rw[<- e];exact hr,rfl⟩
   ·rw[show(⟨o2,us2⟩:Hp).o id= .no from e]at hr;cases hr
  ·rcases ho id with e|e
   ·exact⟨e',by show(o id).cA=some e';rw[<- e];exact he,Nat.le_refl _,fun _=>rfl⟩
   ·rw[show(⟨o2,us2⟩:Hp).o id= .no from e]at he;cases he
 refine⟨⟨fun id=> ?_,fun id hn=> ?_,fun i j b hi hj=>hH.apart i j b (hl i hi) (hl j hj),fun b hb=>hH.ours b (hlb b hb),hH.Br⟩,ht⟩
 ·rcases ho id with e|e
  ·exact(hH.ok id).mono ht e rfl fun _ _ _=>rfl
  ·unfold aX;rw[show(⟨o2,us2⟩:Hp).o id= .no from e];trivial
 ·rcases ho id with e|e
  ·exact e.trans (hH.fresh id fun h=>hn (hu id h))
  ·exact e
def rJ(ds:List Nat)(wl:List Nat)(N:Nat)(s:S):S:=
 ⟨fun t=>if ds.contains t=true then .aa else s.env t,fun id=>if wl.contains id=true then .no else s.o id,s.nx+N⟩
theorem L5(hs:tS M cN H0 w0 n cx φ s us a w)(uj:∀id,id<s.nx->us id){N:Nat}(fS:∀id,us id->id<s.nx+N){o:Oper}{op:Op}(fl:o.op=op){v:V}{ws rd:List Nat}(h:CC P s op v ws rd)
 {s0:S} {ds wl:List Nat} (fG:∀t,ds.contains t=false->s.env t=s0.env t) (hwl:∀id,wl.contains id=false->s.o id=s0.o id) (L6:∀id∈ws,wl.contains id=true) (gH:s0.nx=s.nx)
 (hQ:∀aN w' val,cu M cN H0 w0 n cx aN (rJ ds wl N s0) a w'->V.den (ay M aN (rJ ds wl N s0).H) aN (rJ ds wl N s0).H w' v val->Q (.panic [{v:=val,recovered:=false}]) a w'):o.wpIn (ey ro) k P a w next Q:=by
 obtain⟨c,f,g,first,cap,hc,fF,w7,h⟩:=h
 refine la (fun c' Af=>by rw[fl,hc]at Af;cases Af) ?_
 obtain⟨vals,bw,fM⟩:=yw (P:=P) hs fl hc fF w7
 generalize first++c.args.toList.map s.ev++cap=all at h bw
 have fin:∀ (aN:Place) (w':World) (o':Nat->ab) (val:Value),(∀id,wl.contains id=false->o' id=s.o id)->aE M aN ⟨o',us⟩ w'->Trans φ ⟨s.o,us⟩ w aN ⟨o',us⟩ w'->V.den (ay M aN ⟨o',us⟩) aN ⟨o',us⟩ w' v val->Q (.panic [{v:=val,recovered:=false}]) a w':=by
  intro aN w' o' val BB k1 k2 k3
  obtain⟨m1,m2⟩:=IF (o2:=(rJ ds wl N s0).o) (us2:=fun id=>id<s0.nx+N) k1 (fun id=>by
   show(if wl.contains id=true then ab.no else s0.o id)=o' id\/_
   by_cases hw:wl.contains id=true
   ·right;simp only[rJ];rw[if_pos hw]
   ·left;rw[if_neg hw,BB id (by simpa using hw),hwl id (by simpa using hw)]) (fun id h=>by rw[gH];exact fS id h)
  have ht:=hs.tr.trans (k2.trans m2)
  refine hQ aN w' val ⟨m1,ht,hs.size,hs.defers.mono (k2.trans m2),fun i=> ?_⟩ (V.aW m2 _ _ k3)
  show V.den _ _ _ _ (if ds.contains i=true then V.aa else s0.env i) _
  by_cases hd:ds.contains i=true
  ·rw[if_pos hd];trivial
  ·rw[if_neg hd, <- fG i (by simpa using hd)];exact V.aW (k2.trans m2) _ _ (hs.env i)
 rcases h with⟨dd,x,afL,hP,rD,rfl,_,rfl⟩|⟨x,Δ,hH,rfl,rfl,oO⟩
 ·obtain⟨f1,f2,f3,f4,f5⟩:=dx hs.heap (V.bD all) (dh all _ bw)
  have xZ:=dJ f1 all dd _ f3 afL (V.aY f2 _ _ bw)
  have fA:=hP.2 _ w vals (fun b hb=>hb.elim (f1.Br b) fun hl=>(f1.ours b hl).2) xZ
  rw[fM hP.1]
  refine⟨fun hd=>by simp[ey]at hd,du (fA.mono fun e w' ⟨hk,ho⟩=> ?_)⟩
  cases e with
  |returned val=>exact ho.elim
  |outgrown=>exact ho.elim
  |panicked ch=>
   obtain⟨k1,k2⟩:=gZ hs.heap hk
   have ho:=R.Ae (out:= .bP x) (B':=ay M φ ⟨s.o,us⟩) rD ho
   obtain⟨val,rfl,hd⟩:=ho
   exact fin φ w' s.o val (fun _ _=>rfl) k1 k2 hd
 ·have fA:=hH.2 s.o us M φ w vals (fun id aC=>⟨rfl,uj id (oO id aC)⟩) hs.heap bw
  rw[fM hH.1]
  refine⟨fun hd=>by simp[ey]at hd,du (fA.mono fun e w' ⟨aN,k1,k2,ho⟩=> ?_)⟩
  cases e with
  |returned val=>exact ho.elim
  |outgrown=>exact ho.elim
  |panicked ch=>
   obtain⟨val,rfl,hd⟩:=ho
   exact fin aN w' _ val (fun id aC=>Ar fun y hy e=>by
    have:=L6 y.1 (List.mem_map_of_mem hy)
    rw[e,aC]at this;cases this) k1 k2 hd
theorem gv(eU:∀i,V.den (ay M φ ⟨s.o,us⟩) φ ⟨s.o,us⟩ w (s.env i) (a.tmps.getD i undef)){ops:Array Oper}{o:Oper}{gd:Option (Nat×Bool)}{b:Bool}
 (hg:match o.guard with|none=>gd=none|some (j,want)=>∃d,sW ops j=some d/\gd=some (d,want)) (h:eD s gd b):Region.wanted o (yielded ops a.tmps)=b:=by
 unfold Region.wanted
 split at hg
 ·rename_i hn;simp only[hn];subst hg;exact h.symm
 ·rename_i j want hn
  simp only[hn]
  obtain⟨d,hd,rfl⟩:=hg
  unfold sW at hd
  unfold yielded
  simp only[hd,Option.bind_some]
  simp only[eD]at h
  have he:=eU d
  split at h
  ·rename_i c hv
   rw[hv]at he
   simp only[V.den,D.den]at he
   have:a.tmps[d]? =some (.bool c):=by
    rw[Array.getD_eq_getD_getElem?]at he
    cases hx:a.tmps[d]? with
    |none=>rw[hx]at he;simp[undef]at he
    |some x=>rw[hx]at he;simp at he;rw[he]
   simp only[this,h]
   cases c<;>cases want<;>rfl
  ·rename_i hv
   rw[hv]at he
   obtain⟨arr,dC,hn⟩:=he
   have:∀c,a.tmps[d]? ≠some (.bool c):=by
    exact SS
   subst h
   cases hx:a.tmps[d]? with
   |none=>rfl
   |some x=>cases x<;>first|(exact absurd hx (this _))|rfl
  ·exact h.elim
theorem gw{s s':S}{gd:Option (Nat×Bool)}{b:Bool}(h:∀d want,gd=some (d,want)->s'.env d=s.env d)(hg:eD s gd b):eD s' gd b:=by
 unfold eD at*
 cases gd with
 |none=>exact hg
 |some p=>obtain⟨d,want⟩:=p;simp only at hg|-;rw[h d want rfl];exact hg
theorem CD{s s':S}{x:Operand}(h:∀t,x= .tmp t->s'.env t=s.env t):s'.ev x=s.ev x:=by
 cases x<;>simp only[S.ev]
 exact h _ rfl
theorem vi{s s':S}{op:Op}{c:Call}{f:Operand}{g:FuncId}{first cap:List V}(hv:∀x∈op.operands,s'.ev x=s.ev x)(hc:op= .call c)(fF:c.callee= .value f)(w7:s.ev f= .func (.func g) first cap):
 s'.ev f= .func (.func g) first cap/\c.args.toList.map s'.ev=c.args.toList.map s.ev:=by
 subst hc
 exact⟨(hv f (by simp only[Op.operands,Call.operands,fF];exact Array.mem_append.2 (.inl ao))).trans w7,
  List.map_congr_left fun x hx=>hv x abh⟩
theorem Gz.frame {g:FuncId}{args:List V}{rd:List Nat}{o o':Nat->ab}{out:R}{Δ:List (Nat×ab)}(ho:∀id∈rd,o' id=o id)(h:Gz P g args rd o out Δ):Gz P g args rd o' out Δ:=
 ⟨h.1,fun o2 us M φ w vals h1 h2 h3=>h.2 o2 us M φ w vals (fun id aC=>⟨(h1 id aC).1.trans (ho id aC),(h1 id aC).2⟩) h2 h3⟩
theorem yq.frame {g:FuncId}{args:List V}{rd:List Nat}{o o':Nat->ab}{fr:Nat}{v:V}{Δ:List (Nat×ab)}(ho:∀id∈rd,o' id=o id)(h:yq P g args rd o fr v Δ):yq P g args rd o' fr v Δ:=
 ⟨h.1,fun o2 us M φ w vals h1 h2 h3=>h.2 o2 us M φ w vals (fun id aC=>⟨(h1 id aC).1.trans (ho id aC),(h1 id aC).2⟩) h2 h3⟩
theorem BN{s s':S}{fr:Nat}{op:Op}{v:V}{Δ:List (Nat×ab)}{rd:List Nat}(hv:∀x∈op.operands,s'.ev x=s.ev x)(ho:∀id∈rd,s'.o id=s.o id)(uj:s'.nx=s.nx)(h:yr P s fr op v Δ rd):∃uf,yr P s' fr op v Δ uf:=by
 rcases h with⟨⟨uf,h⟩,oO⟩|⟨c,f,g,first,cap,rfl,fF,w7,h⟩
 ·exact⟨_, .inl ⟨⟨uf,by rw[EW op hv (by rw[<- oO];exact ho)];exact h⟩,rfl⟩⟩
 ·obtain⟨hf,hm⟩:=vi hv rfl fF w7
  rcases h with⟨ds,rs,fG,hP,tL,oO,hΔ⟩|⟨rs,hH,tL,oO⟩|⟨ds,fG,hP,oO,hΔ⟩|⟨hH,oO⟩
  ·have hr:∀id∈V.aL (first++c.args.toList.map s.ev++cap),s'.o id=s.o id:=fun id aC=>ho id KC
   refine⟨_, .inr ⟨c,f,g,first,cap,rfl,fF,hf, .inl ⟨ds,rs,by rw[hm,jd _ hr];exact fG,hP,tL,rfl, ?_⟩⟩⟩
   exact SI
  ·exact⟨rd, .inr ⟨c,f,g,first,cap,rfl,fF,hf, .inr (.inl ⟨rs,by rw[hm];exact hH.frame ho,tL,by rw[uj];exact oO⟩)⟩⟩
  ·have hr:∀id∈V.aL (first++c.args.toList.map s.ev++cap),s'.o id=s.o id:=fun id aC=>ho id KC
   refine⟨_, .inr ⟨c,f,g,first,cap,rfl,fF,hf, .inr (.inr (.inl ⟨ds,by rw[hm,jd _ hr];exact fG,hP,rfl, ?_⟩))⟩⟩
   exact SI
  ·exact⟨rd, .inr ⟨c,f,g,first,cap,rfl,fF,hf, .inr (.inr (.inr ⟨by rw[hm];exact hH.frame ho,by rw[uj];exact oO⟩))⟩⟩
theorem CE{s s':S}{op:Op}{v:V}{ws rd:List Nat}(hv:∀x∈op.operands,s'.ev x=s.ev x)(ho:∀id∈rd,s'.o id=s.o id)(uj:s'.nx=s.nx)(h:CC P s op v ws rd):CC P s' op v ws rd:=by
 obtain⟨c,f,g,first,cap,rfl,fF,w7,h⟩:=h
 obtain⟨hf,hm⟩:=vi hv rfl fF w7
 refine⟨c,f,g,first,cap,rfl,fF,hf, ?_⟩
 rw[hm]
 rcases h with⟨ds,x,fG,hP,rD,tL,oO,L6⟩|⟨x,Δ,hH,tL,L6,oO⟩
 ·have hr:∀id∈V.aL (first++c.args.toList.map s.ev++cap),s'.o id=s.o id:=fun id aC=>ho id KC
  exact .inl ⟨ds,x,by rw[jd _ hr];exact fG,hP,rD,tL,by rw[oO];simp only[oS,fF,w7,hf,hm],L6⟩
 ·exact .inr ⟨x,Δ,hH.frame ho,tL,L6,by rw[uj];exact oO⟩
theorem vj{ops:Array Oper}:∀ (l:List Oper) (l':List ck) (i:Nat) (o:Oper),lL n ops l=some l'->l[i]? =some o->Lp n ops o=some (b9 l' i)
 |[],_,_,_,_,h=>by simp at h
 |x::l,l',i,o,h,hi=>by
  simp only[lL]at h
  split at h
  ·rename_i y ys hy hys
   injection h with h;subst h
   cases i with
   |zero=>simp at hi;subst hi;exact hy
   |succ i=>exact vj l ys i o hys (by simpa using hi)
  ·cases h
theorem yx{ops:Array Oper}{o:Oper}{x:ck}(h:Lp n ops o=some x):x.op=o.op/\x.dst=o.dst/\iz n o.dst/\
 (match o.guard with|none=>x.gd=none|some (j,want)=>∃d,sW ops j=some d/\x.gd=some (d,want)):=by
 unfold Lp at h
 split at h
 ·rename_i hd
  have de:iz n o.dst:=by
   unfold Es at hd;unfold iz
   split at hd<;>simp_all
  cases hg:o.guard with
  |none=>simp only[hg]at h;injection h with h;subst h;exact⟨rfl,rfl,de,rfl⟩
  |some p=>
   obtain⟨j,want⟩:=p
   simp only[hg]at h
   cases Te:sW ops j with
   |none=>simp[Te]at h
   |some d=>simp only[Te]at h;injection h with h;subst h;exact⟨rfl,rfl,de,d,Te,rfl⟩
 ·cases h
theorem pI{ops:Array Oper}{aA:Array Bool}(ui:∀k,k<ops.size->∀j∈bK ops k,j<k)(hs:aA.size=ops.size)(hr:Region.ready .any ops aA=[]):∀k,k<ops.size->aA.getD k false=true:=by
 intro k
 induction k using Nat.strongRecOn with
 |_ k ih=>
  intro hk
  cases hl:aA.getD k false with
  |true=>rfl
  |false=>
   have:k∈Region.ready .any ops aA:=by
    refine mem_ready.2 ⟨?_,ops[k],by simp[hk],fun e he hb=> ?_⟩
    ·simp only[Array.getD_eq_getD_getElem?]at hl|-
     rw[Array.getElem?_eq_getElem (by omega)]at hl|-
     simpa using hl
    ·have hm:e.on∈bK ops k:=by
      simp only[bK,Array.getElem?_eq_getElem hk,List.mem_map,List.mem_filter]
      exact⟨e,⟨Array.mem_toList_iff.2 he,hb⟩,rfl⟩
     exact ih _ (ui k hk _ hm) (by have:=ui k hk _ hm;omega)
   rw[hr]at this;cases this
theorem CF(hs:cu M cN H0 w0 n cx φ s a w):cu M cN H0 w0 n cx φ s a {w with drawn:=w.drawn+1}:=by
 obtain⟨k1,k2⟩:=gZ (w':={w with drawn:=w.drawn+1}) hs.heap ⟨rfl,rfl,rfl,Nat.le_refl _,fun _ _ _=>rfl⟩
 exact⟨k1,hs.tr.trans k2,hs.size,hs.defers.mono k2,fun i=>V.aW k2 _ _ (hs.env i)⟩
theorem lx{oc:Nat->ck}{ac:Nat->fO}{E:Nat->Bool}:∀k,(fg oc ac E s k).nx=s.nx
 |0=>rfl
 |k+1=>by
  simp only[fg]
  split
  ·cases ac k<;>exact lx k
  ·exact lx k
theorem GD{oc:Nat->ck}{ac:Nat->fO}{E:Nat->Bool}{t:Nat}:∀k,(∀j,j<k->(oc j).dst≠some t)->(fg oc ac E s k).env t=s.env t
 |0,_=>rfl
 |k+1,h=>by
  have ih:=GD (oc:=oc) (ac:=ac) (E:=E) (t:=t) k fun j hj=>h j ah
  simp only[fg]
  split
  ·rw[lC fun d hd e=>h k (by omega) (by rw[hd,e])];exact ih
  ·exact ih
theorem Th{oc:Nat->ck}{ac:Nat->fO}{E:Nat->Bool}{id:Nat}:∀k,(∀j,j<k->id∉lB (ac j))->(fg oc ac E s k).o id=s.o id
 |0,_=>rfl
 |k+1,h=>by
  have ih:=Th (oc:=oc) (ac:=ac) (E:=E) (id:=id) k fun j hj=>h j ah
  simp only[fg]
  split
  ·rw[nE (h k (by omega))];exact ih
  ·exact ih
theorem CG(bB:P.follows .mixedOrders=true){ops:Array Oper}{l:List ck}{id:Nat}(sn:lL n ops ops.toList=some l)(ui:∀k,k<ops.size->∀j∈bK ops k,j<k){ac:Nat->fO}{dl wl:List Nat}
 (hs:cu M cN H0 w0 n cx φ s a w) (WM:∀i,i<ops.size->Tg P (fg (b9 l) ac (fun _=>true) s i) (s.nx+i) (b9 l i) (ac i))
 (IG:∀i,i<ops.size->ac i= .eW->∃j∈bK ops i,(ac j).ok=false)
 {po:Nat->Nat->Prop} (GF:∀E:Nat->Bool,(∀k,k<ops.size->E k=true->∀j∈bK ops k,E j=true)->∀k,k<ops.size->(∀j∈bK ops k,E j=true)->∀j,po k j->E j=true) (CH:∀k,k<ops.size->∀j,po k j->j<k)
 (hc:∀i j,i<j->j<ops.size-> ¬po j i->Compat (b9 l) ac (fun i=>xi (ac i)) i j)
 (hdl:∀i,i<ops.size->∀t,(b9 l i).dst=some t->dl.contains t=true) (hwl:∀i,i<ops.size->∀id∈lB (ac i),wl.contains id=true)
 (L6:∀i v ws rd,i<ops.size->ac i= .bP v ws rd->∀id∈ws,wl.contains id=true)
 (hQ:(∀i,i<ops.size->(ac i).ok=true)->∀φ a w,cu M cN H0 w0 n cx φ ⟨(fg (b9 l) ac (fun _=>true) s ops.size).env,(fg (b9 l) ac (fun _=>true) s ops.size).o,s.nx+ops.size⟩ a w->Q .normal a w)
 (hX:∀i v ws rd,i<ops.size->ac i= .bP v ws rd->∀φ a w val,cu M cN H0 w0 n cx φ (rJ dl wl ops.size s) a w->V.den (ay M φ (rJ dl wl ops.size s).H) φ (rJ dl wl ops.size s).H w v val->Q (.panic [{v:=val,recovered:=false}]) a w):
 (Code.region id ops true).wpIn (ey ro) k P Q a w:=by
 refine wpIn_region_any bB ?_
 have hs:=CF hs
 generalize ({w with drawn:=w.drawn+1}:World)=w at hs
 let N:=ops.size
 let Ef (aA:Array Bool) (k:Nat):Bool:=aA.getD k false
 let Gc (aA:Array Bool) (j:Nat):Prop:=j<s.nx\/∃k,k<N/\Ef aA k=true/\j=s.nx+k
 have key:∀ (fuel:Nat) (aA:Array Bool) (φ:Place) (a:Act) (w:World),aA.size=N->aA.count true+fuel=N->(∀k,k<N->Ef aA k=true->∀j∈bK ops k,Ef aA j=true)->(∀k,k<N->Ef aA k=true->(ac k).ok=true)->
  tS M cN H0 w0 n cx φ (fg (b9 l) ac (Ef aA) s N) (Gc aA) a w->wpAnyIn (ey ro) k P .any ops Q fuel aA a w:=by
  have fin:∀ (aA:Array Bool) (φ:Place) (a:Act) (w:World),(∀k,k<N->Ef aA k=true)->(∀k,k<N->Ef aA k=true->(ac k).ok=true)->tS M cN H0 w0 n cx φ (fg (b9 l) ac (Ef aA) s N) (Gc aA) a w->Q .normal a w:=by
   intro aA φ a w bw E2 hu
   have e:∀k,k<=N->fg (b9 l) ac (Ef aA) s k=fg (b9 l) ac (fun _=>true) s k:=by
    intro k
    induction k with
    |zero=>intro _;rfl
    |succ k ih=>intro hk;simp only[fg,bw k (by omega),ih (by omega)]
   rw[e N (Nat.le_refl _)]at hu
   obtain⟨k1,k2⟩:=kU (us':=fun id=>id<s.nx+N) hu.heap (fun id h=>by
    show id<s.nx+N
    rcases h with h|⟨k,hk,_,rfl⟩<;>omega)
   exact hQ (fun i hi=>E2 i hi (bw i hi)) φ a w ⟨k1,hu.tr.trans k2,hu.size,hu.defers.mono k2,fun i=>V.aW k2 _ _ (hu.env i)⟩
  intro fuel
  induction fuel with
  |zero=>
   intro aA φ a w eu II p6 E2 hu
   have bw:∀k,k<N->Ef aA k=true:=by
    intro k hk
    have h1:aA.count true=aA.size:=ah
    rw[Array.count_eq_size]at h1
    have:=h1 aA[k] (Array.getElem_mem ah)
    simp only[Ef,Array.getD_eq_getD_getElem?]
    rw[Array.getElem?_eq_getElem (by omega)]
    simpa using this.symm
   refine⟨?_,fin aA φ a w bw E2 hu⟩
   rw[List.eq_nil_iff_forall_not_mem]
   intro k hk
   obtain⟨h1,o,h2,_⟩:=mem_ready.1 hk
   have hkN:k<N:=(Array.getElem?_eq_some_iff.1 h2).1
   have:=bw k hkN
   simp only[Ef,Array.getD_eq_getD_getElem?]at this h1
   rw[Array.getElem?_eq_getElem (by omega)]at this h1
   simp only[Option.getD_some]at this h1
   rw[this]at h1;cases h1
  |succ fuel ih=>
   intro aA φ a w eu II p6 E2 hu
   refine⟨fun hr=>fin aA φ a w (pI ui eu hr) E2 hu,fun i hi=> ?_⟩
   obtain⟨h1,o,h2,h3⟩:=mem_ready.1 hi
   have tT:i<N:=(Array.getElem?_eq_some_iff.1 h2).1
   have m8:Ef aA i=false:=by
    simp only[Ef,Array.getD_eq_getD_getElem?]at h1|-
    rw[Array.getElem?_eq_getElem (by omega)]at h1|-
    simpa using h1
   have L4:∀j∈bK ops i,Ef aA j=true:=by
    exact Wl
   have L7:Aw N po (Ef aA):=fun k hk iM=>GF _ p6 k hk (p6 k hk iM)
   obtain⟨ag1,ag2⟩:=agree (s:=s) CH hc L7 tT m8 (GF _ p6 i tT L4)
   obtain⟨g1,g2,g3,g4⟩:=yx (vj _ _ i o sn qa)
   have dE: ¬Gc aA (s.nx+i):=by
    rintro(h|⟨k,_,hk,he⟩)
    ·omega
    ·have:k=i:=ah
     subst this;rw[m8]at hk;cases hk
   have E1:∀k,Ef (aA.setIfInBounds i true) k=(Ef aA k||k==i):=by
    intro k
    simp only[Ef,Array.getD_eq_getD_getElem?]
    by_cases e:k=i
    ·subst e;simp[eu,tT]
    ·rw[Array.getElem?_setIfInBounds_ne (Ne.symm e)]
     have:(k==i)=false:=by simpa using e
     simp[this]
   have WN:=insert (s:=s) hc L7 tT m8 E1
   have WO:∀k,k<N->Ef (aA.setIfInBounds i true) k=true->∀j∈bK ops k,Ef (aA.setIfInBounds i true) j=true:=by
    intro k hk iM j hj
    rw[E1]at iM|-
    by_cases e:k=i
    ·subst e;simp[L4 j hj]
    ·have:(k==i)=false:=by simpa using e
     rw[this,Bool.or_false]at iM
     simp[p6 k hk iM j hj]
   have L8:(aA.setIfInBounds i true).count true+fuel=N:=by
    have cM:i<aA.size:=ah
    have e1:aA.setIfInBounds i true=aA.set i true cM:=by simp[Array.setIfInBounds,cM]
    have e2:aA[i]=false:=by
     have:=m8
     simp only[Ef,Array.getD_eq_getD_getElem?]at this
     rw[Array.getElem?_eq_getElem cM]at this
     simpa using this
    rw[e1,Array.count_set cM,e2]
    simp
    omega
   have lK:(ac i).ok=true->∀aN a' w',tS M cN H0 w0 n cx aN (wW o.dst (ac i) (fg (b9 l) ac (Ef aA) s N)) (fun id=>Gc aA id\/id=s.nx+i) a' w'->wpAnyIn (ey ro) k P .any ops Q fuel (aA.setIfInBounds i true) a' w':=by
    intro ab8 aN a' w' BD
    refine ih _ aN a' w' (by simp[eu]) L8 WO (fun k hk iM=> ?_) ?_
    ·rw[E1]at iM
     by_cases e:k=i
     ·subst e;exact ab8
     ·have:(k==i)=false:=by simpa using e
      rw[this,Bool.or_false]at iM
      exact E2 k hk iM
    rw[WN,g2]
    obtain⟨k1,k2⟩:=kU (us':=Gc (aA.setIfInBounds i true)) BD.heap (fun id h=>by
     rcases h with(h|⟨k,hk,iM,rfl⟩)|rfl
     ·exact .inl h
     ·exact .inr ⟨k,hk,by rw[E1,iM];rfl,rfl⟩
     ·exact .inr ⟨i,tT,by rw[E1];simp,rfl⟩)
    exact abj
   have IJ:∀d want,(b9 l i).gd=some (d,want)->(fg (b9 l) ac (Ef aA) s N).env d=(fg (b9 l) ac (fun _=>true) s i).env d:=fun d want hd=>ag1 d (by simp[fH,tmpsOf,hd])
   have bn:=WM i tT
   have Lh:∀x∈(b9 l i).op.operands,(fg (b9 l) ac (Ef aA) s N).ev x=(fg (b9 l) ac (fun _=>true) s i).ev x:=fun x hx=>CD fun t ht=>ag1 t (by
    subst ht
    simp only[fH,tmpsOf,List.mem_append,List.mem_filterMap]
    exact .inl (.inl ⟨.tmp t,Array.mem_toList_iff.2 hx,rfl⟩))
   have Wu:(fg (b9 l) ac (Ef aA) s N).nx=(fg (b9 l) ac (fun _=>true) s i).nx:=(lx N).trans (lx i).symm
   unfold wpOpIn
   simp only[h2]
   cases wU:ac i with
   |skip=>
    rw[wU]at bn lK
    have hw:=gv hu.env g4 (gw IJ bn)
    simp only[hw,Bool.false_eq_true,if_false]
    refine⟨fun _ _=>trivial,lK rfl φ _ w ?_⟩
    have:=j9 (v:= .cg []) (val:=undef) hu hu.heap (Trans.refl _ _ _) ⟨#[],rfl,rfl⟩ (dst:=o.dst) g3 rfl (us':=fun id=>Gc aA id\/id=s.nx+i) (fun id h=> .inl h)
    exact this
   |val v Δ rd=>
    rw[wU]at bn lK
    have hw:=gv hu.env g4 (gw IJ bn.1)
    exact R3
   |bP v ws rd=>
    rw[wU]at bn
    have hw:=gv hu.env g4 (gw IJ bn.1)
    simp only[hw,if_true]
    have oT:=CE Lh (fun id aC=>ag2 id (by rw[wU];exact aC)) Wu bn.2
    refine L5 (s0:=s) (ds:=dl) (wl:=wl) (N:=N) hu (fun id h=> .inl (by rw[lx]at h;exact h)) (fun id h=> ?_) g1.symm oT (fun t ht=> ?_) (fun id aC=> ?_) (L6 i v ws rd tT wU) (lx N).symm (fun aN w' val h1 h2=>hX i v ws rd tT wU aN a w' val h1 h2)
    ·rw[lx]
     rcases h with h|⟨k,hk,_,rfl⟩<;>omega
    ·refine GD N fun j hj e=> ?_
     have:=hdl j hj t e
     rw[ht]at this;cases this
    ·refine Th N fun j hj hm=> ?_
     have:=hwl j hj id hm
     rw[aC]at this;cases this
   |eW=>
    exfalso
    obtain⟨j,hj,WQ⟩:=IG i tT wU
    have:=E2 j (Nat.lt_trans (ui i tT j hj) tT) (L4 j hj)
    rw[WQ]at this;cases this
 refine key ops.size _ φ a w (by simp[N]) (by simp[N,Array.count_replicate]) (fun k hk iM=> ?_) (fun k hk iM=> ?_) ?_
 ·exact Pa
 ·exact Pa
 ·have e:∀k,fg (b9 l) ac (Ef (Array.replicate ops.size false)) s k=s:=by
   intro k
   induction k with
   |zero=>rfl
   |succ k ih=>
    have:Ef (Array.replicate ops.size false) k=false:=by
     exact SD
    simp only[fg,this,ih]
    rfl
  exact R9
end
end
section
section
variable {P:Program}{M:Nat->Prop}{φ cN:Place}{H0:Hp}{w w' w0:World}{n:Nat}{s:S}{us:Nat->Prop}{a:Act}{cx:Cx}{ro:Option Nat}{k:Nat}
variable {Q:Exit->Act->World->Prop}
theorem IK{ops:Array Oper}{po:Nat->Nat->Prop}{m:Nat}{X:V->S->Prop}{K:S->Prop}
 (ui:∀k,k<ops.size->∀j∈bK ops k,j<k)
 (GF:∀E:Nat->Bool,(∀k,k<ops.size->E k=true->∀j∈bK ops k,E j=true)->∀k,k<ops.size->(∀j∈bK ops k,E j=true)->∀j,po k j->E j=true)
 (GG:∀k,m<=k->k<ops.size->∀j,j<k->po k j)
 (hK:∀s φ a w,K s->cu M cN H0 w0 n cx φ s a w->Q .normal a w)
 (hX:∀v s' aN a' w' val,X v s'->cu M cN H0 w0 n cx aN s' a' w'->V.den (ay M aN s'.H) aN s'.H w' v val->Q (.panic [{v:=val,recovered:=false}]) a' w'):
 ∀ (d t:Nat) (s:S) (φ:Place) (aA:Array Bool) (a:Act) (w:World),t+d=ops.size->aA.size=ops.size->(∀k,k<ops.size->aA.getD k false=decide (k<t))->m<=t->
   cu M cN H0 w0 n cx φ s a w->Ac P n ops X K (ops.toList.drop t) s->wpAnyIn (ey ro) k P .any ops Q d aA a w:=by
 intro d
 induction d with
 |zero=>
  intro t s φ aA a w ht eu hl J4 hs h
  have e:t=ops.size:=ah
  subst e
  refine⟨?_, ?_⟩
  ·rw[List.eq_nil_iff_forall_not_mem]
   intro j hj
   obtain⟨h1,o,h2,_⟩:=mem_ready.1 hj
   have hjN:j<ops.size:=(Array.getElem?_eq_some_iff.1 h2).1
   have:=hl j hjN
   simp only[Array.getD_eq_getD_getElem?]at this h1
   rw[Array.getElem?_eq_getElem (by omega)]at this h1
   simp only[Option.getD_some]at this h1
   rw[h1]at this
   simp[hjN]at this
  ·rw[List.drop_eq_nil_of_le (by simp)]at h
   exact hK s φ a w h hs
 |succ d ih=>
  intro t s φ aA a w ht eu hl J4 hs h
  have htN:t<ops.size:=ah
  refine⟨fun hr=> ?_,fun i hi=> ?_⟩
  ·have:=pI ui eu hr t htN
   rw[hl t htN]at this
   simp at this
  ·obtain⟨h1,o,h2,h3⟩:=mem_ready.1 hi
   have tT:i<ops.size:=(Array.getElem?_eq_some_iff.1 h2).1
   have m8:aA.getD i false=false:=by
    simp only[Array.getD_eq_getD_getElem?]at h1|-
    rw[Array.getElem?_eq_getElem (by omega)]at h1|-
    simpa using h1
   have hit:t<=i:=by
    have:=hl i tT
    rw[m8]at this
    have:=of_decide_eq_false this.symm
    omega
   have L4:∀j∈bK ops i,aA.getD j false=true:=by
    exact Wl
   have p6:∀k,k<ops.size->aA.getD k false=true->∀j∈bK ops k,aA.getD j false=true:=by
    intro k hk iM j hj
    have hjk:=ui k hk j hj
    rw[hl k hk]at iM
    rw[hl j (by omega)]
    have:=of_decide_eq_true iM
    exact decide_eq_true ah
   have hie:i=t:=by
    rcases Nat.eq_or_lt_of_le hit with e|e
    ·exact e.symm
    ·have:=GF (fun k=>aA.getD k false) p6 i tT L4 t (GG i ah tT t e)
     rw[hl t htN]at this
     simp at this
   subst hie
   have CI:ops.toList.drop i=o::ops.toList.drop (i+1):=by
    have WE:i<ops.toList.length:=by simpa using tT
    rw[List.drop_eq_getElem_cons WE]
    have:ops.toList[i]=o:=by
     have:=(Array.getElem?_eq_some_iff.1 h2).2
     simpa using this
    rw[this]
   rw[CI]at h
   obtain⟨g1,g2⟩:=qA hs h
   have z8:∀k,k<ops.size->(aA.setIfInBounds i true).getD k false=decide (k<i+1):=by
    intro k hk
    simp only[Array.getD_eq_getD_getElem?]
    by_cases e:k=i
    ·subst e;simp[eu,tT]
    ·rw[Array.getElem?_setIfInBounds_ne (Ne.symm e)]
     have:=hl k hk
     simp only[Array.getD_eq_getD_getElem?]at this
     rw[this]
     exact decide_eq_decide.2 ah
   have lK:∀s' aN a' w',Ac P n ops X K (ops.toList.drop (i+1)) s'->cu M cN H0 w0 n cx aN s' a' w'->wpAnyIn (ey ro) k P .any ops Q d (aA.setIfInBounds i true) a' w':=
    fun s' aN a' w' hk jv=>ih (i+1) s' aN _ a' w' ah (by simp[eu]) z8 ah jv hk
   unfold wpOpIn
   simp only[h2]
   split
   ·rename_i hw
    exact yi hs (g1 hw) (fun s' aN a' w' hk jv=>lK s' aN a' w' hk jv) (fun v s' aN w' val hx jv hd=>hX v s' aN a w' val hx jv hd)
   ·rename_i hw
    obtain⟨de,h3⟩:=g2 (by simpa using hw)
    exact⟨fun _ _=>trivial,lK _ _ _ _ h3 (Cp hs de)⟩
theorem E3(bB:P.follows .mixedOrders=true){ops:Array Oper}{l:List ck}{id:Nat}(sn:lL n ops ops.toList=some l)(ui:∀k,k<ops.size->∀j∈bK ops k,j<k){ac:Nat->fO}{m:Nat}(hm:m<=ops.size){X:V->S->Prop}{K:S->Prop}
 (hs:cu M cN H0 w0 n cx φ s a w) (WM:∀i,i<m->Tg P (fg (b9 l) ac (fun _=>true) s i) (s.nx+i) (b9 l i) (ac i))
 (ab9:∀i,i<m->(ac i).ok=true)
 {po:Nat->Nat->Prop} (GF:∀E:Nat->Bool,(∀k,k<ops.size->E k=true->∀j∈bK ops k,E j=true)->∀k,k<ops.size->(∀j∈bK ops k,E j=true)->∀j,po k j->E j=true) (CH:∀k,k<ops.size->∀j,po k j->j<k)
 (hc:∀i j,i<j->j<m-> ¬po j i->Compat (b9 l) ac (fun i=>xi (ac i)) i j)
 (GG:∀k,m<=k->k<ops.size->∀j,j<k->po k j)
 (cR:Ac P n ops X K (ops.toList.drop m) ⟨(fg (b9 l) ac (fun _=>true) s m).env,(fg (b9 l) ac (fun _=>true) s m).o,s.nx+m⟩)
 (hK:∀s φ a w,K s->cu M cN H0 w0 n cx φ s a w->Q .normal a w)
 (hX:∀v s' aN a' w' val,X v s'->cu M cN H0 w0 n cx aN s' a' w'->V.den (ay M aN s'.H) aN s'.H w' v val->Q (.panic [{v:=val,recovered:=false}]) a' w'):
 (Code.region id ops true).wpIn (ey ro) k P Q a w:=by
 refine wpIn_region_any bB ?_
 have hs:=CF hs
 generalize ({w with drawn:=w.drawn+1}:World)=w at hs
 let N:=m
 let Ef (aA:Array Bool) (k:Nat):Bool:=aA.getD k false
 let Gc (aA:Array Bool) (j:Nat):Prop:=j<s.nx\/∃k,k<N/\Ef aA k=true/\j=s.nx+k
 have key:∀ (fuel:Nat) (aA:Array Bool) (φ:Place) (a:Act) (w:World),aA.size=ops.size->aA.count true+fuel=ops.size->(∀k,k<ops.size->Ef aA k=true->∀j∈bK ops k,Ef aA j=true)->(∀k,k<ops.size->Ef aA k=true->k<m)->
  tS M cN H0 w0 n cx φ (fg (b9 l) ac (Ef aA) s N) (Gc aA) a w->wpAnyIn (ey ro) k P .any ops Q fuel aA a w:=by
  have fin:∀ (fuel:Nat) (aA:Array Bool) (φ:Place) (a:Act) (w:World),aA.size=ops.size->aA.count true+fuel=ops.size->(∀k,k<ops.size->Ef aA k=true->k<m)->(∀k,k<N->Ef aA k=true)->tS M cN H0 w0 n cx φ (fg (b9 l) ac (Ef aA) s N) (Gc aA) a w->wpAnyIn (ey ro) k P .any ops Q fuel aA a w:=by
   intro fuel aA φ a w eu II cM bw hu
   have e:∀k,k<=N->fg (b9 l) ac (Ef aA) s k=fg (b9 l) ac (fun _=>true) s k:=by
    intro k
    induction k with
    |zero=>intro _;rfl
    |succ k ih=>intro hk;simp only[fg,bw k (by omega),ih (by omega)]
   rw[e N (Nat.le_refl _)]at hu
   obtain⟨k1,k2⟩:=kU (us':=fun id=>id<s.nx+N) hu.heap (fun id h=>by
    show id<s.nx+N
    rcases h with h|⟨k,hk,_,rfl⟩<;>omega)
   have hlv:∀k,k<ops.size->aA.getD k false=decide (k<m):=by
    intro k hk
    by_cases h:k<m
    ·rw[decide_eq_true h];exact bw k h
    ·rw[decide_eq_false h]
     cases hb:aA.getD k false with
     |false=>rfl
     |true=>exact absurd (cM k hk hb) h
   have hcm:aA.count true=m:=by
    have e1:aA=Array.ofFn (n:=ops.size) fun k=>decide (k.1<m):=by
     apply Array.ext
     ·simp[eu]
     ·intro k h1 h2
      have:=hlv k ah
      simp only[Array.getD_eq_getD_getElem?]at this
      rw[Array.getElem?_eq_getElem h1]at this
      simpa using this
    have e2:aA.toList=List.replicate m true++List.replicate (ops.size - m) false:=by
     apply List.ext_getElem?
     intro k
     by_cases hk:k<ops.size
     ·have h1:aA.toList[k]? =some (decide (k<m)):=by
       have:=hlv k hk
       simp only[Array.getD_eq_getD_getElem?]at this
       rw[Array.getElem?_eq_getElem (by omega)]at this
       simp only[Option.getD_some]at this
       rw[Array.getElem?_toList,Array.getElem?_eq_getElem (by omega),this]
      rw[h1]
      by_cases h:k<m
      ·rw[List.getElem?_append_left (by simpa using h)]
       simp[h]
      ·rw[List.getElem?_append_right (by simpa using(by omega:m<=k))]
       rw[List.length_replicate,List.getElem?_replicate,if_pos (by omega),decide_eq_false h]
     ·rw[List.getElem?_eq_none (by simp[eu];omega),List.getElem?_eq_none (by simp;omega)]
    rw[<- Array.count_toList,e2,List.count_append,List.count_replicate_self,List.count_replicate]
    simp
   exact IK ui GF GG hK hX fuel m ⟨(fg (b9 l) ac (fun _=>true) s m).env,(fg (b9 l) ac (fun _=>true) s m).o,s.nx+m⟩ φ aA a w ah eu hlv (Nat.le_refl _) ⟨k1,hu.tr.trans k2,hu.size,hu.defers.mono k2,fun i=>V.aW k2 _ _ (hu.env i)⟩ cR
  intro fuel
  induction fuel with
  |zero=>
   intro aA φ a w eu II p6 cM hu
   have bw:∀k,k<ops.size->Ef aA k=true:=by
    intro k hk
    have h1:aA.count true=aA.size:=ah
    rw[Array.count_eq_size]at h1
    have:=h1 aA[k] (Array.getElem_mem ah)
    simp only[Ef,Array.getD_eq_getD_getElem?]
    rw[Array.getElem?_eq_getElem (by omega)]
    simpa using this.symm
   exact fin 0 aA φ a w eu II cM (fun k hk=>bw k ah) hu
  |succ fuel ih=>
   intro aA φ a w eu II p6 cM hu
   by_cases Ti:∀k,k<m->Ef aA k=true
   ·exact fin (fuel+1) aA φ a w eu II cM Ti hu
   have hex:∃j,j<m/\Ef aA j=false:=by
    apply Classical.byContradiction
    intro wS
    refine Ti fun k hk=> ?_
    cases hb:Ef aA k with
    |true=>rfl
    |false=>exact absurd ⟨k,hk,hb⟩ wS
   obtain⟨j0,hj0,aca⟩:=hex
   refine⟨fun hr=> ?_,fun i hi=> ?_⟩
   ·have:=pI ui eu hr j0 ah
    rw[show aA.getD j0 false=false from aca]at this
    cases this
   obtain⟨h1,o,h2,h3⟩:=mem_ready.1 hi
   have hiS:i<ops.size:=(Array.getElem?_eq_some_iff.1 h2).1
   have m8:Ef aA i=false:=by
    simp only[Ef,Array.getD_eq_getD_getElem?]at h1|-
    rw[Array.getElem?_eq_getElem (by omega)]at h1|-
    simpa using h1
   have L4:∀j∈bK ops i,Ef aA j=true:=by
    exact Wl
   have tT:i<N:=by
    apply Classical.byContradiction
    intro Bt
    have Bt:m<=i:=Nat.le_of_not_lt Bt
    have:=GF _ p6 i hiS L4 j0 (GG i Bt hiS j0 ah)
    rw[aca]at this;cases this
   have L7:Aw N po (Ef aA):=fun k hk iM=>GF _ p6 k ah (p6 k ah iM)
   obtain⟨ag1,ag2⟩:=agree (s:=s) (n:=N) (fun k hk=>CH k ah) hc L7 tT m8 (GF _ p6 i ah L4)
   obtain⟨g1,g2,g3,g4⟩:=yx (vj _ _ i o sn qa)
   have dE: ¬Gc aA (s.nx+i):=by
    rintro(h|⟨k,_,hk,he⟩)
    ·omega
    ·have:k=i:=ah
     subst this;rw[m8]at hk;cases hk
   have E1:∀k,Ef (aA.setIfInBounds i true) k=(Ef aA k||k==i):=by
    intro k
    simp only[Ef,Array.getD_eq_getD_getElem?]
    by_cases e:k=i
    ·subst e;simp[eu,hiS]
    ·rw[Array.getElem?_setIfInBounds_ne (Ne.symm e)]
     have:(k==i)=false:=by simpa using e
     simp[this]
   have WN:=insert (s:=s) hc L7 tT m8 E1
   have WO:∀k,k<ops.size->Ef (aA.setIfInBounds i true) k=true->∀j∈bK ops k,Ef (aA.setIfInBounds i true) j=true:=by
    intro k hk iM j hj
    rw[E1]at iM|-
    by_cases e:k=i
    ·subst e;simp[L4 j hj]
    ·have:(k==i)=false:=by simpa using e
     rw[this,Bool.or_false]at iM
     simp[p6 k hk iM j hj]
   have L8:(aA.setIfInBounds i true).count true+fuel=ops.size:=by
    have cM:i<aA.size:=ah
    have e1:aA.setIfInBounds i true=aA.set i true cM:=by simp[Array.setIfInBounds,cM]
    have e2:aA[i]=false:=by
     have:=m8
     simp only[Ef,Array.getD_eq_getD_getElem?]at this
     rw[Array.getElem?_eq_getElem cM]at this
     simpa using this
    rw[e1,Array.count_set cM,e2]
    simp
    omega
   have lK:(ac i).ok=true->∀aN a' w',tS M cN H0 w0 n cx aN (wW o.dst (ac i) (fg (b9 l) ac (Ef aA) s N)) (fun id=>Gc aA id\/id=s.nx+i) a' w'->wpAnyIn (ey ro) k P .any ops Q fuel (aA.setIfInBounds i true) a' w':=by
    intro ab8 aN a' w' BD
    refine ih _ aN a' w' (by simp[eu]) L8 WO (fun k hk iM=> ?_) ?_
    ·rw[E1]at iM
     by_cases e:k=i
     ·subst e;exact tT
     ·have:(k==i)=false:=by simpa using e
      rw[this,Bool.or_false]at iM
      exact cM k hk iM
    rw[WN,g2]
    obtain⟨k1,k2⟩:=kU (us':=Gc (aA.setIfInBounds i true)) BD.heap (fun id h=>by
     rcases h with(h|⟨k,hk,iM,rfl⟩)|rfl
     ·exact .inl h
     ·exact .inr ⟨k,hk,by rw[E1,iM];rfl,rfl⟩
     ·exact .inr ⟨i,tT,by rw[E1];simp,rfl⟩)
    exact abj
   have IJ:∀d want,(b9 l i).gd=some (d,want)->(fg (b9 l) ac (Ef aA) s N).env d=(fg (b9 l) ac (fun _=>true) s i).env d:=fun d want hd=>ag1 d (by simp[fH,tmpsOf,hd])
   have bn:=WM i tT
   have Lh:∀x∈(b9 l i).op.operands,(fg (b9 l) ac (Ef aA) s N).ev x=(fg (b9 l) ac (fun _=>true) s i).ev x:=fun x hx=>CD fun t ht=>ag1 t (by
    subst ht
    simp only[fH,tmpsOf,List.mem_append,List.mem_filterMap]
    exact .inl (.inl ⟨.tmp t,Array.mem_toList_iff.2 hx,rfl⟩))
   have Wu:(fg (b9 l) ac (Ef aA) s N).nx=(fg (b9 l) ac (fun _=>true) s i).nx:=(lx N).trans (lx i).symm
   unfold wpOpIn
   simp only[h2]
   cases wU:ac i with
   |skip=>
    rw[wU]at bn lK
    have hw:=gv hu.env g4 (gw IJ bn)
    simp only[hw,Bool.false_eq_true,if_false]
    refine⟨fun _ _=>trivial,lK rfl φ _ w ?_⟩
    have:=j9 (v:= .cg []) (val:=undef) hu hu.heap (Trans.refl _ _ _) ⟨#[],rfl,rfl⟩ (dst:=o.dst) g3 rfl (us':=fun id=>Gc aA id\/id=s.nx+i) (fun id h=> .inl h)
    exact this
   |val v Δ rd=>
    rw[wU]at bn lK
    have hw:=gv hu.env g4 (gw IJ bn.1)
    exact R3
   |bP v ws rd=>
    have:=ab9 i tT
    rw[wU]at this;cases this
   |eW=>
    have:=ab9 i tT
    rw[wU]at this;cases this
 refine key ops.size _ φ a w ao (by simp[Array.count_replicate]) (fun k hk iM=> ?_) (fun k hk iM=> ?_) ?_
 ·exact Pa
 ·exact Pa
 ·have e:∀k,fg (b9 l) ac (Ef (Array.replicate ops.size false)) s k=s:=by
   intro k
   induction k with
   |zero=>rfl
   |succ k ih=>
    have:Ef (Array.replicate ops.size false) k=false:=by
     exact SD
    simp only[fg,this,ih]
    rfl
  exact R9
end
end
end Go.Proofs.YtonbelhklnmjnaaGreat
