/-
  A PART OF THE PROOF. Conditions: none.
-/
import Derived.OrdersIn
import Derived.Test.YtlhemmpklhhgoaaGreatQo7
set_option linter.unusedSimpArgs false
set_option linter.unusedVariables false
namespace Go.Proofs.YtlhemmpklhhgoaaGreat
section
def ad.refs:ad->List Nat
 | .row cs=>V.aL cs
 | .loop _ _ env _ _ _ _ _=>V.aL env
 |_=>[]
def Fc(R:List Nat)(o:Nat->ad):Nat->ad:=fun id=>if R.contains id=true then o id else .no
def BI(P:Program)(g:FuncId)(args:List V)(rd:List Nat)(o:Nat->ad)(out:R)(Δ:List (Nat×ad)):Prop:=
 Enters P g/\∀ (o':Nat->ad) (us:Nat->Prop) (M:Nat->Prop) (φ:Place) (w:World) (vals:Array Value),(∀id∈rd,o' id=o id/\us id)->aA M φ ⟨o',us⟩ w->V.aF (ao M φ ⟨o',us⟩) φ ⟨o',us⟩ w args vals.toList->
  Calls P g vals w fun e w'=>∃aH,aA M aH ⟨put o' Δ,us⟩ w'/\Trans φ ⟨o',us⟩ w aH ⟨put o' Δ,us⟩ w'/\out.is (ao M aH ⟨put o' Δ,us⟩) w' e
def BJ(P:Program)(g:FuncId)(args:List V)(rd:List Nat)(o:Nat->ad)(fr:Nat)(v:V)(Δ:List (Nat×ad)):Prop:=
 Enters P g/\∀ (o':Nat->ad) (us:Nat->Prop) (M:Nat->Prop) (φ:Place) (w:World) (vals:Array Value),(∀id∈rd,o' id=o id/\us id)-> ¬us fr->aA M φ ⟨o',us⟩ w->V.aF (ao M φ ⟨o',us⟩) φ ⟨o',us⟩ w args vals.toList->
  Calls P g vals w fun e w'=>∃aH,aA M aH ⟨put o' Δ,fun id=>us id\/id=fr⟩ w'/\Trans φ ⟨o',us⟩ w aH ⟨put o' Δ,fun id=>us id\/id=fr⟩ w'/\∃val,e= .returned val/\V.den (ao M aH ⟨put o' Δ,fun id=>us id\/id=fr⟩) aH ⟨put o' Δ,fun id=>us id\/id=fr⟩ w' v val
mutual
theorem V.nE {B B':Nat->Prop}{φ aH:Place}{H H':Hp}{w:World}(hB:∀b, ¬B b-> ¬B' b):∀ (v:V) (val:Value),(∀id∈v.refs,H'.o id=H.o id/\aH id=φ id/\H'.us id)->V.den B φ H w v val->V.den B' aH H' w v val
 | .d x,val,_,h=>D.aU (w:=w) (w':=w) (fun b _ hn=>⟨rfl,hB b hn⟩) x val h
 | .ax,_,_,h=>h
 | .ab,_,_,_=>trivial
 | .fH,_,_,h=>h
 | .pb es,val,_,h=>⟨D.aU (w:=w) (w':=w) (fun b _ hn=>⟨rfl,hB b hn⟩) (.sl es) val h.1,h.2⟩
 | .agg cs,val,hr,h=>by
   obtain⟨a,rfl,h1,h2⟩:=h
   exact⟨a,rfl,V.gD hB cs _ yf h1,h2⟩
 | .bY cs,val,hr,h=>by
   obtain⟨a,rfl,h1⟩:=h
   exact⟨a,rfl,V.gD hB cs _ yf h1⟩
 | .ptr id off,val,hr,h=>by
   exact VM
 | .osl id ep,val,hr,h=>by
   obtain⟨a,b,c⟩:=hr id oU
   obtain⟨h0,h1,h2⟩:=h
   refine⟨h0,c,fun e he=> ?_⟩
   rw[a]at he
   obtain⟨x,y⟩:=h2 e he
   exact⟨x,fun heq=>(y heq).trans b.symm⟩
 | .pe id ep i sz off,val,hr,h=>by
   obtain⟨a,b,c⟩:=hr id oU
   obtain⟨h0,h1,h2⟩:=h
   refine⟨h0,c,fun e he=> ?_⟩
   rw[a]at he
   obtain⟨x,y⟩:=h2 e he
   exact SW
 | .pp cs off,val,_,h=>by
   obtain⟨a,ev,h1,h2,h3,h5,h4⟩:=h
   exact aaE
 | .func fn first cap,val,hr,h=>by
   obtain⟨f,c,rfl,h1,h2⟩:=h
   exact⟨f,c,rfl,V.gD hB first _ (fun id aw=>hr id (by simp[V.refs,aw])) h1,V.gD hB cap _ (fun id aw=>hr id (by simp[V.refs,aw])) h2⟩
 | .iface t x,val,hr,h=>by
   obtain⟨u,rfl,h⟩:=h
   exact⟨u,rfl,V.nE hB x u yf h⟩
 | .yq id off n,val,hr,h=>by
   exact VM
 | .mp id,val,hr,h=>by
   obtain⟨a,b,c⟩:=hr id oU
   obtain⟨h0,h1,h2⟩:=h
   refine⟨h0,c,fun c8=> ?_⟩
   rw[a]at c8
   exact(h2 c8).trans b.symm
 | .kH id,val,hr,h=>by
   exact VM
theorem V.gD {B B':Nat->Prop}{φ aH:Place}{H H':Hp}{w:World}(hB:∀b, ¬B b-> ¬B' b):∀ (vs:List V) (vals:List Value),(∀id∈V.aL vs,H'.o id=H.o id/\aH id=φ id/\H'.us id)->V.aF B φ H w vs vals->V.aF B' aH H' w vs vals
 |[],_,_,h=>h
 |v::vs,_,hr,h=>by
  obtain⟨u,us,rfl,h1,h2⟩:=h
  exact⟨u,us,rfl,V.nE hB v u (fun id aw=>hr id (by simp[V.aL,aw])) h1,V.gD hB vs us (fun id aw=>hr id (by simp[V.aL,aw])) h2⟩
end
theorem JA{env:List V}{i id:Nat}(h:id∈(aX env i).refs):id∈V.aL env:=by
 unfold aX at h
 induction env generalizing i with
 |nil=>simp[V.refs]at h
 |cons v env ih=>
  cases i with
  |zero=>simp only[List.getD_cons_zero]at h;simp[V.aL,h]
  |succ i=>simp only[List.getD_cons_succ]at h;simp[V.aL,ih h]
theorem aS.refs {M M':Nat->Prop}{φ aH:Place}{H H':Hp}{w:World}{id:Nat}(hB:∀b, ¬ao M φ H b-> ¬ao M' aH H' b)(ho:H'.o id=H.o id)(eT:aH id=φ id)
 (hr:∀j∈(H.o id).refs,H'.o j=H.o j/\aH j=φ j/\H'.us j) (h:aS M φ H w id):aS M' aH H' w id:=by
 have hd:∀b,dc w b-> ¬ao M φ H b->w.heap[b]? =w.heap[b]? /\ ¬ao M' aH H' b:=fun b _ hn=>⟨rfl,hB b hn⟩
 unfold aS at*
 rw[ho]
 cases hx:H.o id with
 |no=>trivial
 |row cs=>
  simp only[hx]at h|-
  obtain⟨b,ed,ty,h1,h2,h3,h4⟩:=h
  exact⟨b,ed,ty,eT.trans h1,h2,V.gD hB cs _ (fun j hj=>hr j (by rw[hx];exact hj)) h3,h4⟩
 |arr ep ty sz es=>
  simp only[hx]at h|-
  obtain⟨h0,xs,h1,evs,h2,h3,h4⟩:=h
  exact⟨h0,xs,by rw[eT];exact h1,evs,h2,h3,D.aV hd es evs h4⟩
 |uI ep es=>
  simp only[hx]at h|-
  rw[eT]
  exact D.aU hd (.sl es) _ h
 |map kt vt l=>
  simp only[hx]at h|-
  obtain⟨b,es,clock,h1,h2,h4,h3⟩:=h
  exact⟨b,es,clock,eT.trans h1,h2,h4,aJ.mono hd l _ h3⟩
 |cc l=>
  simp only[hx]at h|-
  rw[eT]
  exact kY.mono hd h
 |rW l last=>
  simp only[hx]at h|-
  obtain⟨b,h1,h2⟩:=h
  exact⟨b,eT.trans h1,h2.mono hd rfl⟩
 |z7 s pos=>
  simp only[hx]at h|-
  obtain⟨b,h1,h2⟩:=h
  exact⟨b,eT.trans h1,h2⟩
 |loop nf n env ps jS fq st I5=>
  simp only[hx]at h|-
  obtain⟨b,r,h1,h2,h0,h3,h4,h5,h6,h7,h8,h9⟩:=h
  exact⟨b,r,eT.trans h1,h2,h0,h3,h4,h5,h6,h7,h8,fun i=>V.nE hB _ _ (fun j hj=>hr j (by rw[hx];exact JA hj)) (h9 i)⟩
section
variable {P:Program}
theorem Fe{o o':Nat->ad}{Δ:List (Nat×ad)}{id:Nat}(h:o id=o' id):put o Δ id=put o' Δ id:=Hb h
where Hb {o o':Nat->ad}:∀ {Δ:List (Nat×ad)} {id:Nat},o id=o' id->put o Δ id=put o' Δ id
 |[],_,h=>h
 |x::Δ,id,h=>by
  simp only[put,List.foldl_cons]
  refine Hb (Δ:=Δ) (o:=ay o x.1 x.2) (o':=ay o' x.1 x.2) ?_
  simp only[aN]
  split
  ·rfl
  ·exact h
theorem AH{o:Nat->ad}:∀ {Δ:List (Nat×ad)} {id:Nat},(∀x∈Δ,x.1≠id)->put o Δ id=o id
 |[],_,_=>rfl
 |x::Δ,id,h=>by
  have:=AH (o:=ay o x.1 x.2) (Δ:=Δ) (id:=id) (fun y hy=>h y lD)
  simp only[put,List.foldl_cons]at this|-
  rw[this];simp[Ne.symm (h x (by simp))]
theorem BI.la {g:FuncId}{args:List V}{rd:List Nat}{o:Nat->ad}{nx:Nat}{out:R}{Δ:List (Nat×ad)}(uq:∀id∈rd,id<nx)(dE:∀id∈V.aL args,id∈rd)(rZ:∀id∈rd,∀j∈(o id).refs,j∈rd)(Zf:∀x∈Δ,x.1∈rd)(af1:∀x∈Δ,∀j∈x.2.refs,j∈rd)
 (h:bP P g args (Fc rd o) nx
  (fun v o1 _=>(∀id∈rd,o1 id=put o Δ id)/\∃vs rs,v=(match vs with|[v]=>v|vs=> .bY vs)/\cm o1 vs=some rs/\out= .ret rs/\∀id∈V.bc vs,id∉rd)
  (fun v o1 _=>(∀id∈rd,o1 id=put o Δ id)/\∃x,dM o1 v=some x/\out= .bN x/\∀id∈v.ids,id∉rd)):BI P g args rd o out Δ:=by
 refine⟨h.1,fun o' us M φ w vals ho hH hd=> ?_⟩
 let M1:Nat->Prop:=fun b=>M b\/∃id,id∉rd/\(o' id).live=true/\eB (φ id)=some b
 let HR:Hp:=hp (Fc rd o) nx
 have vX:∀id,id∈rd->Fc rd o id=o' id:=fun id aw=>by simp[Fc,aw,(ho id aw).1]
 have tP:∀id,id∉rd->Fc rd o id= .no:=fun id aw=>by simp[Fc,aw]
 have hB:∀b,ao M1 φ HR b↔ao M φ ⟨o',us⟩ b:=by
  intro b
  constructor
  ·rintro((h|⟨id,h1,h2,h3⟩)|⟨id,h1,h2⟩)
   ·exact .inl h
   ·exact .inr ⟨id,h2,h3⟩
   ·by_cases aw:id∈rd
    ·exact .inr ⟨id,by show(o' id).live=true;rw[<- vX id aw];exact h1,h2⟩
    ·have:HR.o id= .no:=tP id aw
     rw[this]at h1;cases h1
  ·rintro(h|⟨id,h1,h2⟩)
   ·exact .inl (.inl h)
   ·by_cases aw:id∈rd
    ·exact .inr ⟨id,by show(Fc rd o id).live=true;rw[vX id aw];exact h1,h2⟩
    ·exact .inl (.inr ⟨id,aw,h1,h2⟩)
 have GV:∀id∈rd,HR.o id=o' id/\φ id=φ id/\HR.us id:=fun id aw=>⟨vX id aw,rfl,uq id aw⟩
 have hHR:aA M1 φ HR w:=by
  refine⟨fun id=> ?_,fun id hn=> ?_,fun i j b hi hj bi bj=> ?_,fun b hb=> ?_,fun b hb=> ?_⟩
  ·by_cases aw:id∈rd
   ·refine aS.refs (H:=⟨o',us⟩) (M:=M) (φ:=φ) (fun b hn hb=>hn ((hB b).1 hb)) (vX id aw) rfl (fun j hj=>GV j ?_) (hH.ok id)
    have:o' id=o id:=(ho id aw).1
    exact rZ id aw j (by rw[<- this];exact hj)
   ·unfold aS
    rw[show HR.o id= .no from tP id aw];trivial
  ·exact tP id fun aw=>hn (uq id aw)
  ·have live:∀i,(HR.o i).live=true->i∈rd/\(o' i).live=true:=fun i hi=>by
    by_cases aw:i∈rd
    ·exact⟨aw,by rw[<- vX i aw];exact hi⟩
    ·rw[show HR.o i= .no from tP i aw]at hi;cases hi
   exact hH.apart i j b (live i hi).2 (live j hj).2 bi bj
  ·obtain⟨id,h1,h2⟩:=hb
   have aw:id∈rd:=by
    by_cases aw:id∈rd
    ·exact aw
    ·rw[show HR.o id= .no from tP id aw]at h1;cases h1
   rw[show HR.o id=o' id from vX id aw]at h1
   obtain⟨k1,k2⟩:=hH.ours b ⟨id,h1,h2⟩
   refine⟨?_,k2⟩
   rintro(hM|⟨j,j1,j2,j3⟩)
   ·exact k1 hM
   ·exact j1 (hH.apart j id b j2 h1 j3 h2 ▸ aw)
  ·rcases hb with hb|⟨id,h1,h2,h3⟩
   ·exact hH.BD b hb
   ·exact(hH.ours b ⟨id,h2,h3⟩).2
 have hdR:V.aF (ao M1 φ HR) φ HR w args vals.toList:=V.gD (H:=⟨o',us⟩) (fun b hn hb=>hn ((hB b).1 hb)) _ _ (fun id aw=>GV id (dE id aw)) hd
 refine(h.2 M1 φ w vals hHR hdR).mono ?_
 rintro e w' ⟨jd,o1,BK,v,k1,k2,k3⟩
 have main:(∀id∈rd,o1 id=put o Δ id)->∃aH,aA M aH ⟨put o' Δ,us⟩ w'/\Trans φ ⟨o',us⟩ w aH ⟨put o' Δ,us⟩ w'/\∀b,ao M aH ⟨put o' Δ,us⟩ b->M1 b\/∃id∈rd,(o1 id).live=true/\eB (jd id)=some b:=by
  intro uh
  have G1:∀id∈rd,put o' Δ id=o1 id:=fun id aw=>(Fe (ho id aw).1).trans (uh id aw).symm
  have KJ:∀id,id∉rd->put o' Δ id=o' id:=fun id aw=>AH fun x hx e=>aw (e ▸ Zf x hx)
  let Jt:Place:=fun id=>if id∈rd then jd id else φ id
  have AJ:∀id∈rd,Jt id=jd id:=fun id aw=>if_pos aw
  have CO:∀id,id∉rd->Jt id=φ id:=fun id aw=>if_neg aw
  let H2:Hp:=⟨put o' Δ,us⟩
  have cX:∀b,cI Jt H2 b->(∃id∈rd,(o1 id).live=true/\eB (jd id)=some b)\/∃id,id∉rd/\(o' id).live=true/\eB (φ id)=some b:=by
   rintro b ⟨id,h1,h2⟩
   by_cases aw:id∈rd
   ·exact .inl ⟨id,aw,by rw[<- G1 id aw];exact h1,by rw[<- AJ id aw];exact h2⟩
   ·exact .inr ⟨id,aw,by rw[<- KJ id aw];exact h1,by rw[<- CO id aw];exact h2⟩
  have hB2:∀b,ao M Jt H2 b->ao M1 jd (hp o1 BK) b:=by
   rintro b (hb|hb)
   ·exact .inl (.inl hb)
   ·rcases cX b hb with⟨id,h1,h2,h3⟩|⟨id,h1,h2,h3⟩
    ·exact .inr ⟨id,h2,h3⟩
    ·exact .inl (.inr ⟨id,h1,h2,h3⟩)
  have ab3:ef φ ⟨o',us⟩ Jt H2:=by
   refine⟨fun id h=>h,fun id hu hr=> ?_,fun id e' hu he=> ?_⟩
   ·by_cases aw:id∈rd
    ·rw[show H2.o id=o1 id from G1 id aw]at hr
     obtain⟨a,b⟩:=k2.rel.row id (uq id aw) hr
     rw[show HR.o id=o' id from vX id aw]at a
     exact⟨a,(AJ id aw).trans b⟩
    ·rw[show H2.o id=o' id from KJ id aw]at hr
     exact⟨hr,CO id aw⟩
   ·by_cases aw:id∈rd
    ·rw[show H2.o id=o1 id from G1 id aw]at he
     obtain⟨e0,a,b,c⟩:=k2.rel.ep id e' (uq id aw) he
     rw[show HR.o id=o' id from vX id aw]at a
     exact⟨e0,a,b,fun heq=>(AJ id aw).trans (c heq)⟩
    ·rw[show H2.o id=o' id from KJ id aw]at he
     exact⟨e',he,Nat.le_refl _,fun _=>CO id aw⟩
  have rY:∀b,dc w b-> ¬ao M φ ⟨o',us⟩ b->w'.heap[b]? =w.heap[b]? /\ ¬ao M Jt H2 b:=by
   intro b hc hn
   obtain⟨a,c⟩:=k2.blocks (M:=M1) b hc (fun hb=>hn ((hB b).1 hb))
   exact⟨a,fun hb=>c (hB2 b hb)⟩
  have uO:∀b,b<w.heap.size-> ¬cI φ HR b->w'.heap[b]? =w.heap[b]? :=fun b hb hl=>k2.cL.block b hb hl
  have ht:Trans φ ⟨o',us⟩ w Jt H2 w':=by
   refine⟨⟨k2.cL.os,k2.cL.tape,k2.cL.output,k2.cL.size,fun b hb hl=>uO b hb fun⟨id,h1,h2⟩=>hl ?_⟩,fun b hb=> ?_,ab3⟩
   ·by_cases aw:id∈rd
    ·exact⟨id,by show(o' id).live=true;rw[<- vX id aw];exact h1,h2⟩
    ·rw[show HR.o id= .no from tP id aw]at h1;cases h1
   ·rcases cX b hb with⟨id,h1,h2,h3⟩|⟨id,h1,h2,h3⟩
    ·rcases k2.grow b ⟨id,h2,h3⟩with⟨j,j1,j2⟩|BE
     ·by_cases aw:j∈rd
      ·exact .inl ⟨j,by show(o' j).live=true;rw[<- vX j aw];exact j1,j2⟩
      ·rw[show HR.o j= .no from tP j aw]at j1;cases j1
     ·exact .inr BE
    ·exact .inl ⟨id,h2,h3⟩
  refine⟨Jt,⟨fun id=> ?_,fun id hn=> ?_,fun i j b hi hj bi bj=> ?_,fun b hb=> ?_,fun b hb=>Nat.lt_of_lt_of_le (hH.BD b hb) k2.cL.size⟩,ht,fun b hb=> ?_⟩
  ·by_cases aw:id∈rd
   ·refine aS.refs (H:=hp o1 BK) (M:=M1) (φ:=jd) (fun b hn hb=>hn (hB2 b hb)) (G1 id aw) (AJ id aw) (fun j hj=> ?_) (k1.ok id)
    have Kz:j∈rd:=by
     have e1:o1 id=put o Δ id:=uh id aw
     have hj:j∈(put o Δ id).refs:=by rw[<- e1];exact hj
     have key:∀ (Hc:List (Nat×ad)) (q:Nat->ad),(∀x∈Hc,∀j∈x.2.refs,j∈rd)->(∀j∈(q id).refs,j∈rd)->∀j∈(put q Hc id).refs,j∈rd:=by
      intro Hc
      induction Hc with
      |nil=>intro q _ h2;exact h2
      |cons x Hc ih=>
       intro q h1 h2
       simp only[put,List.foldl_cons]
       refine ih (ay q x.1 x.2) (fun y hy=>h1 y lD) ?_
       simp only[aN]
       split
       ·exact h1 x aE
       ·exact h2
     exact key Δ o af1 (rZ id aw) j hj
    exact⟨G1 j Kz,AJ j Kz,(ho j Kz).2⟩
   ·exact aS.Cc rY ab3 (KJ id aw) (CO id aw) (fun hl b hb=>uO b (hH.ours b ⟨id,hl,hb⟩).2 fun⟨j,j1,j2⟩=>by
     by_cases hj:j∈rd
     ·rw[show HR.o j=o' j from vX j hj]at j1
      exact aw (hH.apart id j b hl j1 hb j2 ▸ hj)
     ·rw[show HR.o j= .no from tP j hj]at j1;cases j1) (hH.ok id)
  ·have aw:id∉rd:=fun aw=>hn (ho id aw).2
   exact(KJ id aw).trans (hH.fresh id hn)
  ·by_cases e1:i∈rd<;>by_cases e2:j∈rd
   ·refine k1.apart i j b ?_ ?_ (by rw[<- AJ i e1];exact bi) (by rw[<- AJ j e2];exact bj)
    ·show(o1 i).live=true;rw[<- G1 i e1];exact hi
    ·show(o1 j).live=true;rw[<- G1 j e2];exact hj
   ·exfalso
    refine(k1.ours b ⟨i,by show(o1 i).live=true;rw[<- G1 i e1];exact hi,by rw[<- AJ i e1];exact bi⟩).1 (.inr ⟨j,e2,by rw[<- KJ j e2];exact hj,by rw[<- CO j e2];exact bj⟩)
   ·exfalso
    refine(k1.ours b ⟨j,by show(o1 j).live=true;rw[<- G1 j e2];exact hj,by rw[<- AJ j e2];exact bj⟩).1 (.inr ⟨i,e1,by rw[<- KJ i e1];exact hi,by rw[<- CO i e1];exact bi⟩)
   ·exact hH.apart i j b (by show(o' i).live=true;rw[<- KJ i e1];exact hi) (by show(o' j).live=true;rw[<- KJ j e2];exact hj) (by rw[<- CO i e1];exact bi) (by rw[<- CO j e2];exact bj)
  ·rcases cX b hb with⟨id,h1,h2,h3⟩|⟨id,h1,h2,h3⟩
   ·obtain⟨a,c⟩:=k1.ours b ⟨id,h2,h3⟩
    exact⟨fun hM=>a (.inl hM),c⟩
   ·obtain⟨a,c⟩:=hH.ours b ⟨id,h2,h3⟩
    exact⟨a,Nat.lt_of_lt_of_le c k2.cL.size⟩
  ·rcases hb with hb|hb
   ·exact .inl (.inl hb)
   ·rcases cX b hb with h|h
    ·exact .inr h
    ·exact .inl (.inr h)
 have res:∀ (vs:List V) (xs:List D) (us':List Value),(∀id∈rd,o1 id=put o Δ id)->cm o1 vs=some xs->(∀id∈V.bc vs,id∉rd)->V.aF (ao M1 jd (hp o1 BK)) jd (hp o1 BK) w' vs us'->
  ∃aH,aA M aH ⟨put o' Δ,us⟩ w'/\Trans φ ⟨o',us⟩ w aH ⟨put o' Δ,us⟩ w'/\D.aF (ao M aH ⟨put o' Δ,us⟩) w' xs us':=by
  intro vs xs us' uh h1 af2 h2
  obtain⟨f1,f2,f3,f4,f5⟩:=cY k1 (V.bc vs) (df vs _ h2)
  have h3:=dA f1 vs xs us' f3 h1 (V.aV f2 _ _ h2)
  obtain⟨aH,m1,m2,m3⟩:=main uh
  refine⟨aH,m1,m2,D.aV (w:=w') (w':=w') (fun b _ hn=>⟨rfl,fun hb=>hn ?_⟩) xs us' h3⟩
  rcases m3 b hb with hb|⟨id,i1,i2,i3⟩
  ·exact .inl hb
  ·exact .inr ⟨id,by rw[f4 id fun hm=>af2 id hm i1];exact i2,i3⟩
 cases e with
 |outgrown=>exact k3.elim
 |panicked ch=>
  obtain⟨val,rfl,g1,uh,x,g2,rfl,g3⟩:=k3
  obtain⟨aH,m1,m2,m3⟩:=res [v] [x] [val] uh (by simp[cm,g2]) (by simpa[V.bc]using g3) ⟨val,[],rfl,g1,rfl⟩
  obtain⟨u,us2,he,h2,_⟩:=m3
  simp at he;obtain⟨rfl,rfl⟩:=he
  exact⟨aH,m1,m2,val,rfl,h2⟩
 |returned val=>
  obtain⟨g1,uh,vs,rs,rfl,g2,rfl,g3⟩:=k3
  match vs,g1,g2,g3 with
  |[],g1,g2,g3=>
   obtain⟨arr,rfl,hv⟩:=g1
   simp only[cm,Option.some.injEq]at g2;subst g2
   obtain⟨aH,m1,m2,m3⟩:=res [] [] arr.toList uh rfl (by simp[V.bc]) hv
   exact⟨aH,m1,m2,arr,rfl,m3⟩
  |[v],g1,g2,g3=>
   obtain⟨aH,m1,m2,m3⟩:=res [v] rs [val] uh g2 g3 ⟨val,[],rfl,g1,rfl⟩
   refine⟨aH,m1,m2, ?_⟩
   cases rs with
   |nil=>cases m3
   |cons x l=>
    obtain⟨u,us2,he,h2,h3⟩:=m3
    simp at he;obtain⟨rfl,rfl⟩:=he
    cases l with
    |nil=>exact h2
    |cons y l=>obtain⟨_,_,h,_⟩:=h3;cases h
  |v::v2::l,g1,g2,g3=>
   obtain⟨arr,rfl,hv⟩:=g1
   obtain⟨aH,m1,m2,m3⟩:=res (v::v2::l) rs arr.toList uh g2 g3 hv
   refine⟨aH,m1,m2, ?_⟩
   have hl:=D.aC _ _ m3
   have SL:=V.aC _ _ hv
   match rs,hl,m3 with
   |[],hl,_=>exact GA
   |[x],hl,_=>exact GA
   |x::y::l,_,m3=>exact⟨arr,rfl,m3⟩
end
end
section
inductive fC where
 |skip|val (v:V) (Δ:List (Nat×ad)) (rd:List Nat)|bN (v:V) (ws rd:List Nat)|eB
 deriving Inhabited
def fC.ok:fC->Bool
 | .skip| .val .. =>true
 |_=>false
def xA(dst:Option Tmp)(x:fC)(s:S):S:=
 match x with
 | .skip=>⟨a8 s.env dst (.bY []),s.o,s.nx⟩
 | .val v Δ _=>⟨a8 s.env dst v,put s.o Δ,s.nx⟩
 | .bN .. | .eB=>⟨a8 s.env dst .ab,s.o,s.nx⟩
def lh:fC->List Nat
 | .val _ Δ _=>Δ.map (·.1)
 |_=>[]
def xS:fC->List Nat
 | .val _ _ rd=>rd
 | .bN _ _ rd=>rd
 |_=>[]
def O4(P:Program)(g:FuncId)(ds:List D)(v:V):Prop:=
 Enters P g/\∀ (M:Nat->Prop) (w:World) (vals:Array Value),(∀b,M b->b<w.heap.size)->D.aF M w ds vals.toList->
  Calls P g vals w fun e w'=>eC (fun _=>False) w w'/\∃val,e= .returned val/\∀φ H,V.den M φ H w' v val
theorem O4.la {P:Program}{g:FuncId}{ds:List D}{v:V}(hr:v.refs=[])(h:bP P g (ds.map .d) (fun _=> .no) 0 (fun v' _ _=>v'=v) (fun _ _ _=>False)):O4 P g ds v:=by
 refine⟨h.1,fun M w vals hM hd=> ?_⟩
 let cP:Place:=fun _=> .nilFunc
 have uO:∀b, ¬cI cP (hp (fun _=> .no) 0) b:=by rintro b ⟨id,hl,_⟩;simp[hp,ad.live]at hl
 refine(h.2 M cP w vals (oD cP hM) ((V.cM _ _).2 (D.aV (w:=w) (w':=w) (B:=M) (fun b _ hB=>⟨rfl,fun h=>h.elim hB (uO b)⟩) _ _ hd))).mono ?_
 rintro e w' ⟨aH,o',nx',v',k1,k2,k3⟩
 refine⟨⟨k2.cL.os,k2.cL.tape,k2.cL.output,k2.cL.size,fun k hk _=>k2.cL.block k hk (uO k)⟩, ?_⟩
 cases e with
 |outgrown=>exact k3.elim
 |panicked ch=>obtain⟨_,_,_,h⟩:=k3;exact h.elim
 |returned val=>
  obtain⟨g1,rfl⟩:=k3
  exact⟨val,rfl,fun φ H=>V.nE (B:=ao M aH (hp o' nx')) (φ:=aH) (H:=hp o' nx') (fun b hb hm=>hb (.inl hm)) v' val (fun id aw=>by rw[hr]at aw;cases aw) g1⟩
def yT(P:Program)(s:S)(fr:Nat)(op:Op)(v:V)(Δ:List (Nat×ad))(rd:List Nat):Prop:=
 ((∃uH,gM P s fr op=some (v,Δ,uH))/\rd=o9 s op)\/
 (∃c f g first cap,op= .call c/\c.callee= .value f/\s.ev f= .func (.func g) first cap/\
  ((∃ds rs,cm s.o (first++c.args.toList.map s.ev++cap)=some ds/\aW P g ds (.ret rs)/\v=jf rs/\rd=o9 s op/\
    (Δ=bG s.o (V.bc (first++c.args.toList.map s.ev++cap))\/D.jZ rs=true/\Δ=[]))\/
   (∃rs,BI P g (first++c.args.toList.map s.ev++cap) rd s.o (.ret rs) Δ/\v=jf rs/\∀id∈rd,id<s.nx)\/
   (∃ds,cm s.o (first++c.args.toList.map s.ev++cap)=some ds/\O4 P g ds v/\rd=o9 s op/\Δ=bG s.o (V.bc (first++c.args.toList.map s.ev++cap)))\/
   (BJ P g (first++c.args.toList.map s.ev++cap) rd s.o fr v Δ/\∀id∈rd,id<s.nx)))
def CP(P:Program)(s:S)(op:Op)(v:V)(ws rd:List Nat):Prop:=
 ∃c f g first cap,op= .call c/\c.callee= .value f/\s.ev f= .func (.func g) first cap/\
  ((∃ds x,cm s.o (first++c.args.toList.map s.ev++cap)=some ds/\aW P g ds (.bN x)/\x.flat=true/\v= .d x/\rd=o9 s op/\ws=[])\/
   (∃x Δ,BI P g (first++c.args.toList.map s.ev++cap) rd s.o (.bN x) Δ/\v= .d x/\ws=Δ.map (·.1)/\∀id∈rd,id<s.nx))
def dZ(s:S)(gd:Option (Nat×Bool))(b:Bool):Prop:=
 match gd with
 |none=>b=true
 |some (d,want)=>match s.env d with
  | .d (.bool c)=>b=(c==want)
  | .bY []=>b=false
  |_=>False
def TH(P:Program)(s:S)(fr:Nat)(o:b7)(x:fC):Prop:=
 match x with
 | .skip=>dZ s o.gd false
 | .val v Δ rd=>dZ s o.gd true/\yT P s fr o.op v Δ rd
 | .bN v ws rd=>dZ s o.gd true/\CP P s o.op v ws rd
 | .eB=>True
def eO(oc:Nat->b7)(ac:Nat->fC)(E:Nat->Bool)(s:S):Nat->S
 |0=>s
 |k+1=>if E k then xA (oc k).dst (ac k) (eO oc ac E s k)else eO oc ac E s k
structure Compat (oc:Nat->b7) (ac:Nat->fC) (R:Nat->List Nat) (i j:Nat):Prop where
 di:∀d,(oc i).dst=some d->d∉fk (oc j)
 dj:∀d,(oc j).dst=some d->d∉fk (oc i)
 wi:∀id∈lh (ac i),id∉R j/\id∉lh (ac j)
 wj:∀id∈lh (ac j),id∉R i
section
variable {P:Program}{oc:Nat->b7}{ac:Nat->fC}{s:S}{n:Nat}{E:Nat->Bool}{R:Nat->List Nat}{pr:Nat->Nat->Prop}
theorem Ff{env:Nat->V}{dst:Option Tmp}{v:V}{t:Nat}(h:∀d,dst=some d->d≠t):a8 env dst v t=env t:=by
 cases dst with
 |none=>rfl
 |some d=>simp only[a8,aN];rw[if_neg (fun e=>h d rfl e.symm)]
theorem gE{o:Nat->ad}:∀ {Δ:List (Nat×ad)} {id:Nat},id∉Δ.map (·.1)->put o Δ id=o id
 |[],_,_=>rfl
 |x::Δ,id,h=>by
  simp only[List.map_cons,List.mem_cons,not_or]at h
  have:=gE (o:=ay o x.1 x.2) (Δ:=Δ) h.2
  simp only[put,List.foldl_cons]at this|-
  rw[this];simp[h.1]
theorem AK{o o':Nat->ad}:∀ {Δ:List (Nat×ad)} {id:Nat},id∈Δ.map (·.1)\/o id=o' id->put o Δ id=put o' Δ id
 |[],_,h=>by rcases h with h|h;· simp at h
             ·exact h
 |x::Δ,id,h=>by
  simp only[put,List.foldl_cons]
  refine AK (Δ:=Δ) (o:=ay o x.1 x.2) (o':=ay o' x.1 x.2) ?_
  simp only[List.map_cons,List.mem_cons]at h
  simp only[aN]
  by_cases e:id=x.1
  ·right;simp[e]
  ·rcases h with(h|h)|h
   ·exact absurd h e
   ·exact .inl h
   ·right;simp[e,h]
theorem lj{dst:Option Tmp}{x:fC}{t:Nat}(h:∀d,dst=some d->d≠t):(xA dst x s).env t=s.env t:=by
 cases x<;>exact Ff h
theorem nF{dst:Option Tmp}{x:fC}{id:Nat}(h:id∉lh x):(xA dst x s).o id=s.o id:=by
 cases x with
 |val v Δ rd=>exact gE h
 |_=>rfl
theorem AL{dst:Option Tmp}{x:fC}{s':S}{t:Nat}(h:s.env t=s'.env t):(xA dst x s).env t=(xA dst x s').env t:=by
 cases x<;>cases dst<;>simp only[xA,a8,aN]<;>first|exact h|(split<;>first|rfl|exact h)
theorem Fg{dst:Option Tmp}{x:fC}{s':S}{id:Nat}(h:s.o id=s'.o id):(xA dst x s).o id=(xA dst x s').o id:=by
 cases x with
 |val v Δ rd=>exact AK (.inr h)
 |_=>exact h
theorem put_comm{o:Nat->ad}{Δ Hc:List (Nat×ad)}(h:∀id∈Δ.map (·.1),id∉Hc.map (·.1)):put (put o Δ) Hc=put (put o Hc) Δ:=by
 funext id
 by_cases h1:id∈Δ.map (·.1)
 ·rw[gE (h id h1)]
  exact AK (.inl h1)
 ·rw[gE (Δ:=Δ) h1]
  by_cases h2:id∈Hc.map (·.1)
  ·exact AK (.inl h2)
  ·rw[gE h2,gE h2,gE h1]
theorem yU{env:Nat->V}{d d':Option Tmp}{v v':V}(h:∀t,d=some t->d'≠some t):a8 (a8 env d v) d' v'=a8 (a8 env d' v') d v:=by
 cases d with
 |none=>rfl
 |some t=>
  cases d' with
  |none=>rfl
  |some t'=>
   have iu:t'≠t:=fun e=>h t rfl (by rw[e])
   funext i
   simp only[a8,aN]
   by_cases e1:i=t<;>by_cases e2:i=t'
   ·exact absurd (e2.symm.trans e1) iu
   all_goals simp[e1,e2]
   ·intro e;exact absurd e.symm iu
   ·intro e;exact absurd e iu
theorem Mp{d d':Option Tmp}{x x':fC}(hd:∀t,d=some t->d'≠some t)(hw:∀id∈lh x,id∉lh x'):xA d x (xA d' x' s)=xA d' x' (xA d x s):=by
 cases x<;>cases x'<;>simp only[xA]<;>first
  |rw[yU hd,put_comm hw]
  |rw[yU hd]
def AM(n:Nat)(pr:Nat->Nat->Prop)(E:Nat->Bool):Prop:=∀k,k<n->E k=true->∀j,pr k j->E j=true
theorem agree(_:∀k,k<n->∀j,pr k j->j<k)(hc:∀i j,i<j->j<n-> ¬pr j i->Compat oc ac R i j)(hE:AM n pr E){i:Nat}(hi:i<n)(kx:E i=false)(Mq:∀j,pr i j->E j=true):
 (∀t∈fk (oc i),(eO oc ac E s n).env t=(eO oc ac (fun _=>true) s i).env t)/\(∀id∈R i,(eO oc ac E s n).o id=(eO oc ac (fun _=>true) s i).o id):=by
 have a:∀k,k<=i->(∀t∈fk (oc i),(eO oc ac E s k).env t=(eO oc ac (fun _=>true) s k).env t)/\(∀id∈R i,(eO oc ac E s k).o id=(eO oc ac (fun _=>true) s k).o id):=by
  intro k
  induction k with
  |zero=>intro _;exact⟨fun _ _=>rfl,fun _ _=>rfl⟩
  |succ k ih=>
   intro hk
   obtain⟨h1,h2⟩:=ih af
   simp only[eO,if_true]
   by_cases jn:E k=true
   ·simp only[jn,if_true]
    exact⟨fun t ht=>AL (h1 t ht),fun id aw=>Fg (h2 id aw)⟩
   ·have Tw: ¬pr i k:=fun hm=>jn (Mq k hm)
    have c:=hc k i af hi Tw
    simp only[jn]
    refine⟨fun t ht=> ?_,fun id aw=> ?_⟩
    ·rw[lj fun d hd e=>c.di d hd (e ▸ ht)];exact h1 t ht
    ·rw[nF fun hm=>(c.wi id hm).1 aw];exact h2 id aw
 have b:∀k,i<=k->k<=n->(∀t∈fk (oc i),(eO oc ac E s k).env t=(eO oc ac (fun _=>true) s i).env t)/\(∀id∈R i,(eO oc ac E s k).o id=(eO oc ac (fun _=>true) s i).o id):=by
  intro k Qd
  induction Qd with
  |refl=>intro _;exact a i (Nat.le_refl _)
  | @step k Qd ih=>
    intro hk
    have Qd:i<=k:=Qd
    obtain⟨h1,h2⟩:=ih af
    simp only[eO]
    by_cases jn:E k=true
    ·have iu:i≠k:=fun e=>by rw[e,jn]at kx;cases kx
     have Tw: ¬pr k i:=fun hm=>by have:=hE k af jn i hm;rw[kx]at this;cases this
     have c:=hc i k af af Tw
     simp only[jn,if_true]
     refine⟨fun t ht=> ?_,fun id aw=> ?_⟩
     ·rw[lj fun d hd e=>c.dj d hd (e ▸ ht)];exact h1 t ht
     ·rw[nF fun hm=>c.wj id hm aw];exact h2 id aw
    ·simp only[jn];exact⟨h1,h2⟩
 exact b n af (Nat.le_refl _)
theorem insert(hc:∀i j,i<j->j<n-> ¬pr j i->Compat oc ac R i j)(hE:AM n pr E){i:Nat}(hi:i<n)(kx:E i=false){E':Nat->Bool}(Fh:∀k,E' k=(E k||k==i)):
 eO oc ac E' s n=xA (oc i).dst (ac i) (eO oc ac E s n):=by
 have a:∀k,k<=i->eO oc ac E' s k=eO oc ac E s k:=by
  intro k
  induction k with
  |zero=>intro _;rfl
  |succ k ih=>
   intro hk
   have:E' k=E k:=by rw[Fh k];have:(k==i)=false:=by simp;omega
                     simp[this]
   simp only[eO,this,ih (by omega)]
 have b:∀k,i+1<=k->k<=n->eO oc ac E' s k=xA (oc i).dst (ac i) (eO oc ac E s k):=by
  intro k Qd
  induction Qd with
  |refl=>
   intro _
   have h1:E' i=true:=by rw[Fh i];simp
   simp only[eO,h1,kx,if_true,a i (Nat.le_refl _)]
   rfl
  | @step k Qd ih=>
    intro hk
    have Qd:i+1<=k:=Qd
    have h1:E' k=E k:=by rw[Fh k];have:(k==i)=false:=by simp;omega
                         simp[this]
    simp only[eO,h1,ih (by omega)]
    by_cases jn:E k=true
    ·have Tw: ¬pr k i:=fun hm=>by have:=hE k af jn i hm;rw[kx]at this;cases this
     have c:=hc i k af af Tw
     simp only[jn,if_true]
     refine Mp (fun t ht he=> ?_) (fun id aw hm=>(c.wi id hm).2 aw)
     exact c.di t he (by simp[fk,ht])
    ·simp only[jn];rfl
 exact b n af (Nat.le_refl _)
end
end
section
structure uA (M:Nat->Prop) (cP:Place) (H0:Hp) (w0:World) (n:Nat) (cx:Cx) (φ:Place) (s:S) (us:Nat->Prop) (a:Act) (w:World):Prop where
 heap:aA M φ ⟨s.o,us⟩ w
 tr:Trans cP H0 w0 φ ⟨s.o,us⟩ w
 size:a.tmps.size=n
 defers:vP cx w0 φ ⟨s.o,us⟩ w a.defers
 env:∀i,V.den (ao M φ ⟨s.o,us⟩) φ ⟨s.o,us⟩ w (s.env i) (a.tmps.getD i undef)
section
variable {P:Program}{M:Nat->Prop}{φ cP:Place}{H0:Hp}{w w' w0:World}{n:Nat}{s:S}{us:Nat->Prop}{a:Act}{cx:Cx}{ro:Option Nat}{k:Nat}
variable {next:Act->World->Prop}{Q:Exit->Act->World->Prop}
theorem jP(hs:uA M cP H0 w0 n cx φ s us a w){aH:Place}{H':Hp}(hH:aA M aH H' w')(ht:Trans φ ⟨s.o,us⟩ w aH H' w'){v:V}{val:Value}(hd:V.den (ao M aH H') aH H' w' v val){dst:Option Tmp}(db:gS n dst)
 {o':Nat->ad} {us':Nat->Prop} (ho:H'.o=o') (hu:∀id,H'.us id->us' id):uA M cP H0 w0 n cx aH ⟨a8 s.env dst v,o',s.nx⟩ us' (a.put dst val) w':=by
 obtain⟨k1,k2⟩:=kG hH hu
 subst ho
 refine⟨k1,hs.tr.trans (ht.trans k2), ?_, ?_,fun i=> ?_⟩
 ·cases dst<;>simp[Act.put,hs.size]
 ·have:=hs.defers.mono (ht.trans k2);cases dst<;>exact this
 ·cases dst with
  |none=>exact PC
  |some d=>
   simp only[gS]at db
   simp only[a8,aN,Act.put]
   by_cases hi:i=d
   ·subst hi
    have h1:(a.tmps.setIfInBounds i val).getD i undef=val:=by simp[Array.getD,hs.size,db]
    rw[if_pos rfl,h1]
    exact V.aU k2 _ _ hd
   ·have h1:(a.tmps.setIfInBounds d val).getD i undef=a.tmps.getD i undef:=by
     exact VW
    rw[if_neg hi,h1]
    exact PC
theorem yV(hs:uA M cP H0 w0 n cx φ s us a w){o:Oper}{op:Op}(gy:o.op=op){c:Call}{f:Operand}{g:FuncId}{first cap:List V}(hc:op= .call c)(fi:c.callee= .value f)(xG:s.ev f= .func (.func g) first cap):
 ∃vals:Array Value,V.aF (ao M φ ⟨s.o,us⟩) φ ⟨s.o,us⟩ w (first++c.args.toList.map s.ev++cap) vals.toList/\(Enters P g->(execOp a.eval o).run P w= .ok (.enter g vals) w):=by
 have hf:=nk (M:=M) (φ:=φ) (H:=⟨s.o,us⟩) (w:=w) s a hs.env f
 have dE:=kJ (M:=M) (φ:=φ) (H:=⟨s.o,us⟩) (w:=w) s a hs.env c.args.toList
 rw[xG]at hf
 obtain⟨fa,ca,Wc,GK,hca⟩:=hf
 refine⟨fa++c.args.map a.eval++ca, ?_,fun he=> ?_⟩
 ·exact SO
 ·have:=lO (w:=w) he (fa++c.args.map a.eval++ca)
  generalize lE:fa++c.args.map a.eval++ca=vals at this
  simp[execOp,gy,hc,resolve,fi,Wc,Deferred.ofValue,invoke,this,lE]
theorem Le(hs:uA M cP H0 w0 n cx φ s us a w){fr:Nat}(c7: ¬us fr)(uq:∀id,id<s.nx->us id){o:Oper}{op:Op}(gy:o.op=op)(db:gS n o.dst){v:V}{Δ:List (Nat×ad)}{rd:List Nat}(h:yT P s fr op v Δ rd)
 (hN:∀aH a' w',uA M cP H0 w0 n cx aH (xA o.dst (.val v Δ rd) s) (fun id=>us id\/id=fr) a' w'->next a' w'):o.wpIn (dW ro) k P a w next Q:=by
 rcases h with⟨⟨uH,h⟩,_⟩|⟨c,f,g,first,cap,hc,fi,xG,h⟩
 ·have h1:=CL (K:=fun v' Hc _=>v'=v/\Hc=Δ) h ⟨rfl,rfl⟩
  obtain⟨nx,val,w',aH,v',Hc,uH,⟨rfl,rfl⟩,hr,af3,g1,g2,g3,g4⟩:=yK hs.heap (s:=s) rfl hs.env c7 gy h1
  have ur:=jP hs g1 g2 g3 db (o':=put s.o Hc) (us':=fun id=>us id\/id=fr) rfl (fun id hu=>hu.elim .inl (g4 id))
  refine kN (fun c hc=>by rw[gy]at hc;subst hc;exact h1) ?_
  rw[hr]
  rcases af3 with rfl|⟨rfl,rfl⟩
  ·exact hN _ _ _ ur
  ·exact hN _ _ _ ur
 ·refine kN (fun c' yM=>by rw[gy,hc]at yM;cases yM) ?_
  obtain⟨vals,ba,fw⟩:=yV (P:=P) hs gy hc fi xG
  generalize first++c.args.toList.map s.ev++cap=all at h ba
  rcases h with⟨ds,rs,fj,hP,rfl,_,Zf⟩|⟨rs,hH,rfl,mV⟩|⟨ds,fj,hP,_,rfl⟩|⟨hH,mV⟩
  ·obtain⟨f1,f2,f3,f4,f5⟩:=cY hs.heap (V.bc all) (df all _ ba)
   have fA:(⟨s.o,us⟩:Hp).put (bG s.o (V.bc all))=⟨put s.o (bG s.o (V.bc all)),us⟩:=lN (H:=⟨s.o,us⟩) Lp
   have yA:=dA f1 all ds _ f3 fj (V.aV f2 _ _ ba)
   have fe:=hP.2 _ w vals (fun b hb=>hb.elim (f1.BD b) fun hl=>(f1.ours b hl).2) yA
   rw[fw hP.1]
   refine⟨fun hd=>by simp[dW]at hd,dn (fe.mono fun e w' ⟨hk,ho⟩=> ?_)⟩
   cases e with
   |panicked ch=>exact xE
   |outgrown=>exact xE
   |returned val=>
    rcases Zf with rfl|⟨oV,rfl⟩
    ·obtain⟨k1,k2⟩:=gB f1 hk
     refine hN _ _ _ (jP hs k1 (f2.trans k2) (m9 ho) db (by rw[fA]) fun id hu=> ?_)
     rw[fA]at hu;exact .inl hu
    ·obtain⟨k1,k2⟩:=gB hs.heap hk
     have ho:=R.As (out:= .ret rs) (B':=ao M φ ⟨s.o,us⟩) oV ho
     exact Sn
  ·have fe:=hH.2 s.o us M φ w vals (fun id aw=>⟨rfl,uq id (mV id aw)⟩) hs.heap ba
   rw[fw hH.1]
   refine⟨fun hd=>by simp[dW]at hd,dn (fe.mono fun e w' ⟨aH,k1,k2,ho⟩=> ?_)⟩
   cases e with
   |panicked ch=>exact xE
   |outgrown=>exact xE
   |returned val=>exact Sn
  ·obtain⟨f1,f2,f3,f4,f5⟩:=cY hs.heap (V.bc all) (df all _ ba)
   have fA:(⟨s.o,us⟩:Hp).put (bG s.o (V.bc all))=⟨put s.o (bG s.o (V.bc all)),us⟩:=lN (H:=⟨s.o,us⟩) Lp
   have yA:=dA f1 all ds _ f3 fj (V.aV f2 _ _ ba)
   have fe:=hP.2 _ w vals (fun b hb=>hb.elim (f1.BD b) fun hl=>(f1.ours b hl).2) yA
   rw[fw hP.1]
   refine⟨fun hd=>by simp[dW]at hd,dn (fe.mono fun e w' ⟨hk,val,he,ho⟩=> ?_)⟩
   subst he
   obtain⟨k1,k2⟩:=gB f1 hk
   refine hN _ _ _ (jP hs k1 (f2.trans k2) (ho _ _) db (by rw[fA]) fun id hu=> ?_)
   rw[fA]at hu;exact .inl hu
  ·have fe:=hH.2 s.o us M φ w vals (fun id aw=>⟨rfl,uq id (mV id aw)⟩) c7 hs.heap ba
   rw[fw hH.1]
   refine⟨fun hd=>by simp[dW]at hd,dn (fe.mono fun e w' ⟨aH,k1,k2,val,he,ho⟩=> ?_)⟩
   subst he
   exact hN _ _ _ (jP hs k1 k2 ho db rfl fun id hu=>hu)
theorem JB{o o2:Nat->ad}{us us2:Nat->Prop}(hH:aA M φ ⟨o,us⟩ w)(ho:∀id,o2 id=o id\/o2 id= .no)(hu:∀id,us id->us2 id):aA M φ ⟨o2,us2⟩ w/\Trans φ ⟨o,us⟩ w φ ⟨o2,us2⟩ w:=by
 have hl:∀id,(o2 id).live=true->(o id).live=true:=fun id h=>by
  rcases ho id with e|e
  ·rw[<- e];exact h
  ·rw[e]at h;cases h
 have LY:∀b,cI φ ⟨o2,us2⟩ b->cI φ ⟨o,us⟩ b:=fun b ⟨id,h1,h2⟩=>⟨id,hl id h1,h2⟩
 have ht:Trans φ ⟨o,us⟩ w φ ⟨o2,us2⟩ w:=by
  refine⟨eC.refl _ _,fun b hb=> .inl (LY b hb),⟨hu,fun id _ hr=> ?_,fun id e' _ he=> ?_⟩⟩
  ·rcases ho id with e|e
   ·exact⟨by show(o id).cA=true;rw[<- e];exact hr,rfl⟩
   ·rw[show(⟨o2,us2⟩:Hp).o id= .no from e]at hr;cases hr
  ·rcases ho id with e|e
   ·exact⟨e',by show(o id).cz=some e';rw[<- e];exact he,Nat.le_refl _,fun _=>rfl⟩
   ·rw[show(⟨o2,us2⟩:Hp).o id= .no from e]at he;cases he
 refine⟨⟨fun id=> ?_,fun id hn=> ?_,fun i j b hi hj=>hH.apart i j b (hl i hi) (hl j hj),fun b hb=>hH.ours b (LY b hb),hH.BD⟩,ht⟩
 ·rcases ho id with e|e
  ·exact(hH.ok id).mono ht e rfl fun _ _ _=>rfl
  ·unfold aS;rw[show(⟨o2,us2⟩:Hp).o id= .no from e];trivial
 ·rcases ho id with e|e
  ·exact e.trans (hH.fresh id fun h=>hn (hu id h))
  ·exact e
def vY(ds:List Nat)(wl:List Nat)(N:Nat)(s:S):S:=
 ⟨fun t=>if ds.contains t=true then .ab else s.env t,fun id=>if wl.contains id=true then .no else s.o id,s.nx+N⟩
theorem Mr(hs:uA M cP H0 w0 n cx φ s us a w)(uq:∀id,id<s.nx->us id){N:Nat}(ec:∀id,us id->id<s.nx+N){o:Oper}{op:Op}(gy:o.op=op){v:V}{ws rd:List Nat}(h:CP P s op v ws rd)
 {s0:S} {ds wl:List Nat} (fj:∀t,ds.contains t=false->s.env t=s0.env t) (hwl:∀id,wl.contains id=false->s.o id=s0.o id) (Qe:∀id∈ws,wl.contains id=true) (oY:s0.nx=s.nx)
 (hQ:∀aH w' val,cn M cP H0 w0 n cx aH (vY ds wl N s0) a w'->V.den (ao M aH (vY ds wl N s0).H) aH (vY ds wl N s0).H w' v val->Q (.panic [{v:=val,recovered:=false}]) a w'):o.wpIn (dW ro) k P a w next Q:=by
 obtain⟨c,f,g,first,cap,hc,fi,xG,h⟩:=h
 refine kN (fun c' yM=>by rw[gy,hc]at yM;cases yM) ?_
 obtain⟨vals,ba,fw⟩:=yV (P:=P) hs gy hc fi xG
 generalize first++c.args.toList.map s.ev++cap=all at h ba
 have fin:∀ (aH:Place) (w':World) (o':Nat->ad) (val:Value),(∀id,wl.contains id=false->o' id=s.o id)->aA M aH ⟨o',us⟩ w'->Trans φ ⟨s.o,us⟩ w aH ⟨o',us⟩ w'->V.den (ao M aH ⟨o',us⟩) aH ⟨o',us⟩ w' v val->Q (.panic [{v:=val,recovered:=false}]) a w':=by
  intro aH w' o' val yc k1 k2 k3
  obtain⟨m1,m2⟩:=JB (o2:=(vY ds wl N s0).o) (us2:=fun id=>id<s0.nx+N) k1 (fun id=>by
   show(if wl.contains id=true then ad.no else s0.o id)=o' id\/_
   by_cases hw:wl.contains id=true
   ·right;simp only[vY];rw[if_pos hw]
   ·left;rw[if_neg hw,yc id (by simpa using hw),hwl id (by simpa using hw)]) (fun id h=>by rw[oY];exact ec id h)
  have ht:=hs.tr.trans (k2.trans m2)
  refine hQ aH w' val ⟨m1,ht,hs.size,hs.defers.mono (k2.trans m2),fun i=> ?_⟩ (V.aU m2 _ _ k3)
  show V.den _ _ _ _ (if ds.contains i=true then V.ab else s0.env i) _
  by_cases hd:ds.contains i=true
  ·rw[if_pos hd];trivial
  ·rw[if_neg hd, <- fj i (by simpa using hd)];exact V.aU (k2.trans m2) _ _ (hs.env i)
 rcases h with⟨dd,x,af4,hP,oV,rfl,_,rfl⟩|⟨x,Δ,hH,rfl,rfl,mV⟩
 ·obtain⟨f1,f2,f3,f4,f5⟩:=cY hs.heap (V.bc all) (df all _ ba)
  have yA:=dA f1 all dd _ f3 af4 (V.aV f2 _ _ ba)
  have fe:=hP.2 _ w vals (fun b hb=>hb.elim (f1.BD b) fun hl=>(f1.ours b hl).2) yA
  rw[fw hP.1]
  refine⟨fun hd=>by simp[dW]at hd,dn (fe.mono fun e w' ⟨hk,ho⟩=> ?_)⟩
  cases e with
  |returned val=>exact ho.elim
  |outgrown=>exact ho.elim
  |panicked ch=>
   obtain⟨k1,k2⟩:=gB hs.heap hk
   have ho:=R.As (out:= .bN x) (B':=ao M φ ⟨s.o,us⟩) oV ho
   obtain⟨val,rfl,hd⟩:=ho
   exact fin φ w' s.o val (fun _ _=>rfl) k1 k2 hd
 ·have fe:=hH.2 s.o us M φ w vals (fun id aw=>⟨rfl,uq id (mV id aw)⟩) hs.heap ba
  rw[fw hH.1]
  refine⟨fun hd=>by simp[dW]at hd,dn (fe.mono fun e w' ⟨aH,k1,k2,ho⟩=> ?_)⟩
  cases e with
  |returned val=>exact ho.elim
  |outgrown=>exact ho.elim
  |panicked ch=>
   obtain⟨val,rfl,hd⟩:=ho
   exact fin aH w' _ val (fun id aw=>AH fun y hy e=>by
    have:=Qe y.1 (List.mem_map_of_mem hy)
    rw[e,aw]at this;cases this) k1 k2 hd
theorem fU(eD:∀i,V.den (ao M φ ⟨s.o,us⟩) φ ⟨s.o,us⟩ w (s.env i) (a.tmps.getD i undef)){ops:Array Oper}{o:Oper}{gd:Option (Nat×Bool)}{b:Bool}
 (hg:match o.guard with|none=>gd=none|some (j,want)=>∃d,tz ops j=some d/\gd=some (d,want)) (h:dZ s gd b):Region.wanted o (yielded ops a.tmps)=b:=by
 unfold Region.wanted
 split at hg
 ·rename_i hn;simp only[hn];subst hg;exact h.symm
 ·rename_i j want hn
  simp only[hn]
  obtain⟨d,hd,rfl⟩:=hg
  unfold tz at hd
  unfold yielded
  simp only[hd,Option.bind_some]
  simp only[dZ]at h
  have he:=eD d
  split at h
  ·rename_i c hv
   rw[hv]at he
   simp only[V.den,D.den]at he
   have:a.tmps[d]? =some (.bool c):=by
    rw[Array.getD_eq_getD_getElem?]at he
    cases hx:a.tmps[d]? with
    |none=>rw[hx]at he;simp[undef]at he
    |some x=>rw[hx]at he;simp at he;rw[he]
   simp only[this,h]
   cases c<;>cases want<;>rfl
  ·rename_i hv
   rw[hv]at he
   obtain⟨arr,dx,hn⟩:=he
   have:∀c,a.tmps[d]? ≠some (.bool c):=by
    exact Te
   subst h
   cases hx:a.tmps[d]? with
   |none=>rfl
   |some x=>cases x<;>first|(exact absurd hx (this _))|rfl
  ·exact h.elim
theorem fV{s s':S}{gd:Option (Nat×Bool)}{b:Bool}(h:∀d want,gd=some (d,want)->s'.env d=s.env d)(hg:dZ s gd b):dZ s' gd b:=by
 unfold dZ at*
 cases gd with
 |none=>exact hg
 |some p=>obtain⟨d,want⟩:=p;simp only at hg|-;rw[h d want rfl];exact hg
theorem CQ{s s':S}{x:Operand}(h:∀t,x= .tmp t->s'.env t=s.env t):s'.ev x=s.ev x:=by
 cases x<;>simp only[S.ev]
 exact h _ rfl
theorem vZ{s s':S}{op:Op}{c:Call}{f:Operand}{g:FuncId}{first cap:List V}(hv:∀x∈op.operands,s'.ev x=s.ev x)(hc:op= .call c)(fi:c.callee= .value f)(xG:s.ev f= .func (.func g) first cap):
 s'.ev f= .func (.func g) first cap/\c.args.toList.map s'.ev=c.args.toList.map s.ev:=by
 subst hc
 exact⟨(hv f (by simp only[Op.operands,Call.operands,fi];exact Array.mem_append.2 (.inl aE))).trans xG,
  List.map_congr_left fun x hx=>hv x aaS⟩
theorem BI.frame {g:FuncId}{args:List V}{rd:List Nat}{o o':Nat->ad}{out:R}{Δ:List (Nat×ad)}(ho:∀id∈rd,o' id=o id)(h:BI P g args rd o out Δ):BI P g args rd o' out Δ:=
 ⟨h.1,fun o2 us M φ w vals h1 h2 h3=>h.2 o2 us M φ w vals (fun id aw=>⟨(h1 id aw).1.trans (ho id aw),(h1 id aw).2⟩) h2 h3⟩
theorem BJ.frame {g:FuncId}{args:List V}{rd:List Nat}{o o':Nat->ad}{fr:Nat}{v:V}{Δ:List (Nat×ad)}(ho:∀id∈rd,o' id=o id)(h:BJ P g args rd o fr v Δ):BJ P g args rd o' fr v Δ:=
 ⟨h.1,fun o2 us M φ w vals h1 h2 h3=>h.2 o2 us M φ w vals (fun id aw=>⟨(h1 id aw).1.trans (ho id aw),(h1 id aw).2⟩) h2 h3⟩
theorem B3{s s':S}{fr:Nat}{op:Op}{v:V}{Δ:List (Nat×ad)}{rd:List Nat}(hv:∀x∈op.operands,s'.ev x=s.ev x)(ho:∀id∈rd,s'.o id=s.o id)(uq:s'.nx=s.nx)(h:yT P s fr op v Δ rd):∃uH,yT P s' fr op v Δ uH:=by
 rcases h with⟨⟨uH,h⟩,mV⟩|⟨c,f,g,first,cap,rfl,fi,xG,h⟩
 ·exact⟨_, .inl ⟨⟨uH,by rw[Fb op hv (by rw[<- mV];exact ho)];exact h⟩,rfl⟩⟩
 ·obtain⟨hf,hm⟩:=vZ hv rfl fi xG
  rcases h with⟨ds,rs,fj,hP,qm,mV,Zf⟩|⟨rs,hH,qm,mV⟩|⟨ds,fj,hP,mV,Zf⟩|⟨hH,mV⟩
  ·have hr:∀id∈V.aL (first++c.args.toList.map s.ev++cap),s'.o id=s.o id:=fun id aw=>ho id Ll
   refine⟨_, .inr ⟨c,f,g,first,cap,rfl,fi,hf, .inl ⟨ds,rs,by rw[hm,iI _ hr];exact fj,hP,qm,rfl, ?_⟩⟩⟩
   exact S3
  ·exact⟨rd, .inr ⟨c,f,g,first,cap,rfl,fi,hf, .inr (.inl ⟨rs,by rw[hm];exact hH.frame ho,qm,by rw[uq];exact mV⟩)⟩⟩
  ·have hr:∀id∈V.aL (first++c.args.toList.map s.ev++cap),s'.o id=s.o id:=fun id aw=>ho id Ll
   refine⟨_, .inr ⟨c,f,g,first,cap,rfl,fi,hf, .inr (.inr (.inl ⟨ds,by rw[hm,iI _ hr];exact fj,hP,rfl, ?_⟩))⟩⟩
   exact S3
  ·exact⟨rd, .inr ⟨c,f,g,first,cap,rfl,fi,hf, .inr (.inr (.inr ⟨by rw[hm];exact hH.frame ho,by rw[uq];exact mV⟩))⟩⟩
theorem CS{s s':S}{op:Op}{v:V}{ws rd:List Nat}(hv:∀x∈op.operands,s'.ev x=s.ev x)(ho:∀id∈rd,s'.o id=s.o id)(uq:s'.nx=s.nx)(h:CP P s op v ws rd):CP P s' op v ws rd:=by
 obtain⟨c,f,g,first,cap,rfl,fi,xG,h⟩:=h
 obtain⟨hf,hm⟩:=vZ hv rfl fi xG
 refine⟨c,f,g,first,cap,rfl,fi,hf, ?_⟩
 rw[hm]
 rcases h with⟨ds,x,fj,hP,oV,qm,mV,Qe⟩|⟨x,Δ,hH,qm,Qe,mV⟩
 ·have hr:∀id∈V.aL (first++c.args.toList.map s.ev++cap),s'.o id=s.o id:=fun id aw=>ho id Ll
  exact .inl ⟨ds,x,by rw[iI _ hr];exact fj,hP,oV,qm,by rw[mV];simp only[o9,fi,xG,hf,hm],Qe⟩
 ·exact .inr ⟨x,Δ,hH.frame ho,qm,Qe,by rw[uq];exact mV⟩
theorem v7{ops:Array Oper}:∀ (l:List Oper) (l':List b7) (i:Nat) (o:Oper),lF n ops l=some l'->l[i]? =some o->LL n ops o=some (b9 l' i)
 |[],_,_,_,_,h=>by simp at h
 |x::l,l',i,o,h,hi=>by
  simp only[lF]at h
  split at h
  ·rename_i y ys hy hys
   injection h with h;subst h
   cases i with
   |zero=>simp at hi;subst hi;exact hy
   |succ i=>exact v7 l ys i o hys (by simpa using hi)
  ·cases h
theorem yW{ops:Array Oper}{o:Oper}{x:b7}(h:LL n ops o=some x):x.op=o.op/\x.dst=o.dst/\gS n o.dst/\
 (match o.guard with|none=>x.gd=none|some (j,want)=>∃d,tz ops j=some d/\x.gd=some (d,want)):=by
 unfold LL at h
 split at h
 ·rename_i hd
  have db:gS n o.dst:=by
   unfold EG at hd;unfold gS
   split at hd<;>simp_all
  cases hg:o.guard with
  |none=>simp only[hg]at h;injection h with h;subst h;exact⟨rfl,rfl,db,rfl⟩
  |some p=>
   obtain⟨j,want⟩:=p
   simp only[hg]at h
   cases TG:tz ops j with
   |none=>simp[TG]at h
   |some d=>simp only[TG]at h;injection h with h;subst h;exact⟨rfl,rfl,db,d,TG,rfl⟩
 ·cases h
theorem pR{ops:Array Oper}{au:Array Bool}(tG:∀k,k<ops.size->∀j∈bH ops k,j<k)(hs:au.size=ops.size)(hr:Region.ready .any ops au=[]):∀k,k<ops.size->au.getD k false=true:=by
 intro k
 induction k using Nat.strongRecOn with
 |_ k ih=>
  intro hk
  cases hl:au.getD k false with
  |true=>rfl
  |false=>
   have:k∈Region.ready .any ops au:=by
    refine mem_ready.2 ⟨?_,ops[k],by simp[hk],fun e he hb=> ?_⟩
    ·simp only[Array.getD_eq_getD_getElem?]at hl|-
     rw[Array.getElem?_eq_getElem (by omega)]at hl|-
     simpa using hl
    ·have hm:e.on∈bH ops k:=by
      simp only[bH,Array.getElem?_eq_getElem hk,List.mem_map,List.mem_filter]
      exact⟨e,⟨Array.mem_toList_iff.2 he,hb⟩,rfl⟩
     exact ih _ (tG k hk _ hm) (by have:=tG k hk _ hm;omega)
   rw[hr]at this;cases this
theorem CT(hs:cn M cP H0 w0 n cx φ s a w):cn M cP H0 w0 n cx φ s a {w with drawn:=w.drawn+1}:=by
 obtain⟨k1,k2⟩:=gB (w':={w with drawn:=w.drawn+1}) hs.heap ⟨rfl,rfl,rfl,Nat.le_refl _,fun _ _ _=>rfl⟩
 exact⟨k1,hs.tr.trans k2,hs.size,hs.defers.mono k2,fun i=>V.aU k2 _ _ (hs.env i)⟩
theorem kW{oc:Nat->b7}{ac:Nat->fC}{E:Nat->Bool}:∀k,(eO oc ac E s k).nx=s.nx
 |0=>rfl
 |k+1=>by
  simp only[eO]
  split
  ·cases ac k<;>exact kW k
  ·exact kW k
theorem Hd{oc:Nat->b7}{ac:Nat->fC}{E:Nat->Bool}{t:Nat}:∀k,(∀j,j<k->(oc j).dst≠some t)->(eO oc ac E s k).env t=s.env t
 |0,_=>rfl
 |k+1,h=>by
  have ih:=Hd (oc:=oc) (ac:=ac) (E:=E) (t:=t) k fun j hj=>h j af
  simp only[eO]
  split
  ·rw[lj fun d hd e=>h k (by omega) (by rw[hd,e])];exact ih
  ·exact ih
theorem TI{oc:Nat->b7}{ac:Nat->fC}{E:Nat->Bool}{id:Nat}:∀k,(∀j,j<k->id∉lh (ac j))->(eO oc ac E s k).o id=s.o id
 |0,_=>rfl
 |k+1,h=>by
  have ih:=TI (oc:=oc) (ac:=ac) (E:=E) (id:=id) k fun j hj=>h j af
  simp only[eO]
  split
  ·rw[nF (h k (by omega))];exact ih
  ·exact ih
theorem CU(bf:P.follows .mixedOrders=true){ops:Array Oper}{l:List b7}{id:Nat}(sL:lF n ops ops.toList=some l)(tG:∀k,k<ops.size->∀j∈bH ops k,j<k){ac:Nat->fC}{dl wl:List Nat}
 (hs:cn M cP H0 w0 n cx φ s a w) (Wg:∀i,i<ops.size->TH P (eO (b9 l) ac (fun _=>true) s i) (s.nx+i) (b9 l i) (ac i))
 (JC:∀i,i<ops.size->ac i= .eB->∃j∈bH ops i,(ac j).ok=false)
 {po:Nat->Nat->Prop} (He:∀E:Nat->Bool,(∀k,k<ops.size->E k=true->∀j∈bH ops k,E j=true)->∀k,k<ops.size->(∀j∈bH ops k,E j=true)->∀j,po k j->E j=true) (CV:∀k,k<ops.size->∀j,po k j->j<k)
 (hc:∀i j,i<j->j<ops.size-> ¬po j i->Compat (b9 l) ac (fun i=>xS (ac i)) i j)
 (hdl:∀i,i<ops.size->∀t,(b9 l i).dst=some t->dl.contains t=true) (hwl:∀i,i<ops.size->∀id∈lh (ac i),wl.contains id=true)
 (Qe:∀i v ws rd,i<ops.size->ac i= .bN v ws rd->∀id∈ws,wl.contains id=true)
 (hQ:(∀i,i<ops.size->(ac i).ok=true)->∀φ a w,cn M cP H0 w0 n cx φ ⟨(eO (b9 l) ac (fun _=>true) s ops.size).env,(eO (b9 l) ac (fun _=>true) s ops.size).o,s.nx+ops.size⟩ a w->Q .normal a w)
 (hX:∀i v ws rd,i<ops.size->ac i= .bN v ws rd->∀φ a w val,cn M cP H0 w0 n cx φ (vY dl wl ops.size s) a w->V.den (ao M φ (vY dl wl ops.size s).H) φ (vY dl wl ops.size s).H w v val->Q (.panic [{v:=val,recovered:=false}]) a w):
 (Code.region id ops true).wpIn (dW ro) k P Q a w:=by
 refine wpIn_region_any bf ?_
 have hs:=CT hs
 generalize ({w with drawn:=w.drawn+1}:World)=w at hs
 let N:=ops.size
 let Ef (au:Array Bool) (k:Nat):Bool:=au.getD k false
 let GJ (au:Array Bool) (j:Nat):Prop:=j<s.nx\/∃k,k<N/\Ef au k=true/\j=s.nx+k
 have key:∀ (fuel:Nat) (au:Array Bool) (φ:Place) (a:Act) (w:World),au.size=N->au.count true+fuel=N->(∀k,k<N->Ef au k=true->∀j∈bH ops k,Ef au j=true)->(∀k,k<N->Ef au k=true->(ac k).ok=true)->
  uA M cP H0 w0 n cx φ (eO (b9 l) ac (Ef au) s N) (GJ au) a w->wpAnyIn (dW ro) k P .any ops Q fuel au a w:=by
  have fin:∀ (au:Array Bool) (φ:Place) (a:Act) (w:World),(∀k,k<N->Ef au k=true)->(∀k,k<N->Ef au k=true->(ac k).ok=true)->uA M cP H0 w0 n cx φ (eO (b9 l) ac (Ef au) s N) (GJ au) a w->Q .normal a w:=by
   intro au φ a w ba Fi hu
   have e:∀k,k<=N->eO (b9 l) ac (Ef au) s k=eO (b9 l) ac (fun _=>true) s k:=by
    intro k
    induction k with
    |zero=>intro _;rfl
    |succ k ih=>intro hk;simp only[eO,ba k (by omega),ih (by omega)]
   rw[e N (Nat.le_refl _)]at hu
   obtain⟨k1,k2⟩:=kG (us':=fun id=>id<s.nx+N) hu.heap (fun id h=>by
    show id<s.nx+N
    rcases h with h|⟨k,hk,_,rfl⟩<;>omega)
   exact hQ (fun i hi=>Fi i hi (ba i hi)) φ a w ⟨k1,hu.tr.trans k2,hu.size,hu.defers.mono k2,fun i=>V.aU k2 _ _ (hu.env i)⟩
  intro fuel
  induction fuel with
  |zero=>
   intro au φ a w eA JD rZ Fi hu
   have ba:∀k,k<N->Ef au k=true:=by
    intro k hk
    have h1:au.count true=au.size:=af
    rw[Array.count_eq_size]at h1
    have:=h1 au[k] (Array.getElem_mem af)
    simp only[Ef,Array.getD_eq_getD_getElem?]
    rw[Array.getElem?_eq_getElem (by omega)]
    simpa using this.symm
   refine⟨?_,fin au φ a w ba Fi hu⟩
   rw[List.eq_nil_iff_forall_not_mem]
   intro k hk
   obtain⟨h1,o,h2,_⟩:=mem_ready.1 hk
   have hkN:k<N:=(Array.getElem?_eq_some_iff.1 h2).1
   have:=ba k hkN
   simp only[Ef,Array.getD_eq_getD_getElem?]at this h1
   rw[Array.getElem?_eq_getElem (by omega)]at this h1
   simp only[Option.getD_some]at this h1
   rw[this]at h1;cases h1
  |succ fuel ih=>
   intro au φ a w eA JD rZ Fi hu
   refine⟨fun hr=>fin au φ a w (pR tG eA hr) Fi hu,fun i hi=> ?_⟩
   obtain⟨h1,o,h2,h3⟩:=mem_ready.1 hi
   have uB:i<N:=(Array.getElem?_eq_some_iff.1 h2).1
   have kx:Ef au i=false:=by
    simp only[Ef,Array.getD_eq_getD_getElem?]at h1|-
    rw[Array.getElem?_eq_getElem (by omega)]at h1|-
    simpa using h1
   have Mq:∀j∈bH ops i,Ef au j=true:=by
    exact VR
   have Ms:AM N po (Ef au):=fun k hk jn=>He _ rZ k hk (rZ k hk jn)
   obtain⟨ag1,ag2⟩:=agree (s:=s) CV hc Ms uB kx (He _ rZ i uB Mq)
   obtain⟨g1,g2,g3,g4⟩:=yW (v7 _ _ i o sL vm)
   have c7: ¬GJ au (s.nx+i):=by
    rintro(h|⟨k,_,hk,he⟩)
    ·omega
    ·have:k=i:=af
     subst this;rw[kx]at hk;cases hk
   have Fh:∀k,Ef (au.setIfInBounds i true) k=(Ef au k||k==i):=by
    intro k
    simp only[Ef,Array.getD_eq_getD_getElem?]
    by_cases e:k=i
    ·subst e;simp[eA,uB]
    ·rw[Array.getElem?_setIfInBounds_ne (Ne.symm e)]
     have:(k==i)=false:=by simpa using e
     simp[this]
   have Wh:=insert (s:=s) hc Ms uB kx Fh
   have Wi:∀k,k<N->Ef (au.setIfInBounds i true) k=true->∀j∈bH ops k,Ef (au.setIfInBounds i true) j=true:=by
    intro k hk jn j hj
    rw[Fh]at jn|-
    by_cases e:k=i
    ·subst e;simp[Mq j hj]
    ·have:(k==i)=false:=by simpa using e
     rw[this,Bool.or_false]at jn
     simp[rZ k hk jn j hj]
   have Mt:(au.setIfInBounds i true).count true+fuel=N:=by
    have cq:i<au.size:=af
    have e1:au.setIfInBounds i true=au.set i true cq:=by simp[Array.setIfInBounds,cq]
    have e2:au[i]=false:=by
     have:=kx
     simp only[Ef,Array.getD_eq_getD_getElem?]at this
     rw[Array.getElem?_eq_getElem cq]at this
     simpa using this
    rw[e1,Array.count_set cq,e2]
    simp
    omega
   have jm:(ac i).ok=true->∀aH a' w',uA M cP H0 w0 n cx aH (xA o.dst (ac i) (eO (b9 l) ac (Ef au) s N)) (fun id=>GJ au id\/id=s.nx+i) a' w'->wpAnyIn (dW ro) k P .any ops Q fuel (au.setIfInBounds i true) a' w':=by
    intro ab4 aH a' w' BT
    refine ih _ aH a' w' (by simp[eA]) Mt Wi (fun k hk jn=> ?_) ?_
    ·rw[Fh]at jn
     by_cases e:k=i
     ·subst e;exact ab4
     ·have:(k==i)=false:=by simpa using e
      rw[this,Bool.or_false]at jn
      exact Fi k hk jn
    rw[Wh,g2]
    obtain⟨k1,k2⟩:=kG (us':=GJ (au.setIfInBounds i true)) BT.heap (fun id h=>by
     rcases h with(h|⟨k,hk,jn,rfl⟩)|rfl
     ·exact .inl h
     ·exact .inr ⟨k,hk,by rw[Fh,jn];rfl,rfl⟩
     ·exact .inr ⟨i,uB,by rw[Fh];simp,rfl⟩)
    exact aaV
   have JE:∀d want,(b9 l i).gd=some (d,want)->(eO (b9 l) ac (Ef au) s N).env d=(eO (b9 l) ac (fun _=>true) s i).env d:=fun d want hd=>ag1 d (by simp[fk,tmpsOf,hd])
   have aY:=Wg i uB
   have LJ:∀x∈(b9 l i).op.operands,(eO (b9 l) ac (Ef au) s N).ev x=(eO (b9 l) ac (fun _=>true) s i).ev x:=fun x hx=>CQ fun t ht=>ag1 t (by
    subst ht
    simp only[fk,tmpsOf,List.mem_append,List.mem_filterMap]
    exact .inl (.inl ⟨.tmp t,Array.mem_toList_iff.2 hx,rfl⟩))
   have V1:(eO (b9 l) ac (Ef au) s N).nx=(eO (b9 l) ac (fun _=>true) s i).nx:=(kW N).trans (kW i).symm
   unfold wpOpIn
   simp only[h2]
   cases xz:ac i with
   |skip=>
    rw[xz]at aY jm
    have hw:=fU hu.env g4 (fV JE aY)
    simp only[hw,Bool.false_eq_true,if_false]
    refine⟨fun _ _=>trivial,jm rfl φ _ w ?_⟩
    have:=jP (v:= .bY []) (val:=undef) hu hu.heap (Trans.refl _ _ _) ⟨#[],rfl,rfl⟩ (dst:=o.dst) g3 rfl (us':=fun id=>GJ au id\/id=s.nx+i) (fun id h=> .inl h)
    exact this
   |val v Δ rd=>
    rw[xz]at aY jm
    have hw:=fU hu.env g4 (fV JE aY.1)
    exact abu
   |bN v ws rd=>
    rw[xz]at aY
    have hw:=fU hu.env g4 (fV JE aY.1)
    simp only[hw,if_true]
    have ky:=CS LJ (fun id aw=>ag2 id (by rw[xz];exact aw)) V1 aY.2
    refine Mr (s0:=s) (ds:=dl) (wl:=wl) (N:=N) hu (fun id h=> .inl (by rw[kW]at h;exact h)) (fun id h=> ?_) g1.symm ky (fun t ht=> ?_) (fun id aw=> ?_) (Qe i v ws rd uB xz) (kW N).symm (fun aH w' val h1 h2=>hX i v ws rd uB xz aH a w' val h1 h2)
    ·rw[kW]
     rcases h with h|⟨k,hk,_,rfl⟩<;>omega
    ·refine Hd N fun j hj e=> ?_
     have:=hdl j hj t e
     rw[ht]at this;cases this
    ·refine TI N fun j hj hm=> ?_
     have:=hwl j hj id hm
     rw[aw]at this;cases this
   |eB=>
    exfalso
    obtain⟨j,hj,Wj⟩:=JC i uB xz
    have:=Fi j (Nat.lt_trans (tG i uB j hj) uB) (Mq j hj)
    rw[Wj]at this;cases this
 refine key ops.size _ φ a w (by simp[N]) (by simp[N,Array.count_replicate]) (fun k hk jn=> ?_) (fun k hk jn=> ?_) ?_
 ·exact zw8
 ·exact zw8
 ·have e:∀k,eO (b9 l) ac (Ef (Array.replicate ops.size false)) s k=s:=by
   intro k
   induction k with
   |zero=>rfl
   |succ k ih=>
    have:Ef (Array.replicate ops.size false) k=false:=by
     exact SZ
    simp only[eO,this,ih]
    rfl
  exact abC
end
end
section
section
variable {P:Program}{M:Nat->Prop}{φ cP:Place}{H0:Hp}{w w' w0:World}{n:Nat}{s:S}{us:Nat->Prop}{a:Act}{cx:Cx}{ro:Option Nat}{k:Nat}
variable {Q:Exit->Act->World->Prop}
theorem JF{ops:Array Oper}{po:Nat->Nat->Prop}{m:Nat}{X:V->S->Prop}{K:S->Prop}
 (tG:∀k,k<ops.size->∀j∈bH ops k,j<k)
 (He:∀E:Nat->Bool,(∀k,k<ops.size->E k=true->∀j∈bH ops k,E j=true)->∀k,k<ops.size->(∀j∈bH ops k,E j=true)->∀j,po k j->E j=true)
 (Hf:∀k,m<=k->k<ops.size->∀j,j<k->po k j)
 (hK:∀s φ a w,K s->cn M cP H0 w0 n cx φ s a w->Q .normal a w)
 (hX:∀v s' aH a' w' val,X v s'->cn M cP H0 w0 n cx aH s' a' w'->V.den (ao M aH s'.H) aH s'.H w' v val->Q (.panic [{v:=val,recovered:=false}]) a' w'):
 ∀ (d t:Nat) (s:S) (φ:Place) (au:Array Bool) (a:Act) (w:World),t+d=ops.size->au.size=ops.size->(∀k,k<ops.size->au.getD k false=decide (k<t))->m<=t->
   cn M cP H0 w0 n cx φ s a w->Ap P n ops X K (ops.toList.drop t) s->wpAnyIn (dW ro) k P .any ops Q d au a w:=by
 intro d
 induction d with
 |zero=>
  intro t s φ au a w ht eA hl KH hs h
  have e:t=ops.size:=af
  subst e
  refine⟨?_, ?_⟩
  ·rw[List.eq_nil_iff_forall_not_mem]
   intro j hj
   obtain⟨h1,o,h2,_⟩:=mem_ready.1 hj
   have hjN:j<ops.size:=(Array.getElem?_eq_some_iff.1 h2).1
   have:=hl j hjN
   simp only[Array.getD_eq_getD_getElem?]at this h1
   rw[Array.getElem?_eq_getElem (by omega)]at this h1
   simp only[Option.getD_some]at this h1
   rw[h1]at this
   simp[hjN]at this
  ·rw[List.drop_eq_nil_of_le (by simp)]at h
   exact hK s φ a w h hs
 |succ d ih=>
  intro t s φ au a w ht eA hl KH hs h
  have htN:t<ops.size:=af
  refine⟨fun hr=> ?_,fun i hi=> ?_⟩
  ·have:=pR tG eA hr t htN
   rw[hl t htN]at this
   simp at this
  ·obtain⟨h1,o,h2,h3⟩:=mem_ready.1 hi
   have uB:i<ops.size:=(Array.getElem?_eq_some_iff.1 h2).1
   have kx:au.getD i false=false:=by
    simp only[Array.getD_eq_getD_getElem?]at h1|-
    rw[Array.getElem?_eq_getElem (by omega)]at h1|-
    simpa using h1
   have hit:t<=i:=by
    have:=hl i uB
    rw[kx]at this
    have:=of_decide_eq_false this.symm
    omega
   have Mq:∀j∈bH ops i,au.getD j false=true:=by
    exact VR
   have rZ:∀k,k<ops.size->au.getD k false=true->∀j∈bH ops k,au.getD j false=true:=by
    intro k hk jn j hj
    have Tg:=tG k hk j hj
    rw[hl k hk]at jn
    rw[hl j (by omega)]
    have:=of_decide_eq_true jn
    exact decide_eq_true af
   have hie:i=t:=by
    rcases Nat.eq_or_lt_of_le hit with e|e
    ·exact e.symm
    ·have:=He (fun k=>au.getD k false) rZ i uB Mq t (Hf i af uB t e)
     rw[hl t htN]at this
     simp at this
   subst hie
   have CW:ops.toList.drop i=o::ops.toList.drop (i+1):=by
    have Wb:i<ops.toList.length:=by simpa using uB
    rw[List.drop_eq_getElem_cons Wb]
    have:ops.toList[i]=o:=by
     have:=(Array.getElem?_eq_some_iff.1 h2).2
     simpa using this
    rw[this]
   rw[CW]at h
   obtain⟨g1,g2⟩:=qP hs h
   have G0:∀k,k<ops.size->(au.setIfInBounds i true).getD k false=decide (k<i+1):=by
    intro k hk
    simp only[Array.getD_eq_getD_getElem?]
    by_cases e:k=i
    ·subst e;simp[eA,uB]
    ·rw[Array.getElem?_setIfInBounds_ne (Ne.symm e)]
     have:=hl k hk
     simp only[Array.getD_eq_getD_getElem?]at this
     rw[this]
     exact decide_eq_decide.2 af
   have jm:∀s' aH a' w',Ap P n ops X K (ops.toList.drop (i+1)) s'->cn M cP H0 w0 n cx aH s' a' w'->wpAnyIn (dW ro) k P .any ops Q d (au.setIfInBounds i true) a' w':=
    fun s' aH a' w' hk jR=>ih (i+1) s' aH _ a' w' af (by simp[eA]) G0 af jR hk
   unfold wpOpIn
   simp only[h2]
   split
   ·rename_i hw
    exact yN hs (g1 hw) (fun s' aH a' w' hk jR=>jm s' aH a' w' hk jR) (fun v s' aH w' val hx jR hd=>hX v s' aH a w' val hx jR hd)
   ·rename_i hw
    obtain⟨db,h3⟩:=g2 (by simpa using hw)
    exact⟨fun _ _=>trivial,jm _ _ _ _ h3 (CD hs db)⟩
theorem Fj(bf:P.follows .mixedOrders=true){ops:Array Oper}{l:List b7}{id:Nat}(sL:lF n ops ops.toList=some l)(tG:∀k,k<ops.size->∀j∈bH ops k,j<k){ac:Nat->fC}{m:Nat}(hm:m<=ops.size){X:V->S->Prop}{K:S->Prop}
 (hs:cn M cP H0 w0 n cx φ s a w) (Wg:∀i,i<m->TH P (eO (b9 l) ac (fun _=>true) s i) (s.nx+i) (b9 l i) (ac i))
 (ab5:∀i,i<m->(ac i).ok=true)
 {po:Nat->Nat->Prop} (He:∀E:Nat->Bool,(∀k,k<ops.size->E k=true->∀j∈bH ops k,E j=true)->∀k,k<ops.size->(∀j∈bH ops k,E j=true)->∀j,po k j->E j=true) (CV:∀k,k<ops.size->∀j,po k j->j<k)
 (hc:∀i j,i<j->j<m-> ¬po j i->Compat (b9 l) ac (fun i=>xS (ac i)) i j)
 (Hf:∀k,m<=k->k<ops.size->∀j,j<k->po k j)
 (eJ:Ap P n ops X K (ops.toList.drop m) ⟨(eO (b9 l) ac (fun _=>true) s m).env,(eO (b9 l) ac (fun _=>true) s m).o,s.nx+m⟩)
 (hK:∀s φ a w,K s->cn M cP H0 w0 n cx φ s a w->Q .normal a w)
 (hX:∀v s' aH a' w' val,X v s'->cn M cP H0 w0 n cx aH s' a' w'->V.den (ao M aH s'.H) aH s'.H w' v val->Q (.panic [{v:=val,recovered:=false}]) a' w'):
 (Code.region id ops true).wpIn (dW ro) k P Q a w:=by
 refine wpIn_region_any bf ?_
 have hs:=CT hs
 generalize ({w with drawn:=w.drawn+1}:World)=w at hs
 let N:=m
 let Ef (au:Array Bool) (k:Nat):Bool:=au.getD k false
 let GJ (au:Array Bool) (j:Nat):Prop:=j<s.nx\/∃k,k<N/\Ef au k=true/\j=s.nx+k
 have key:∀ (fuel:Nat) (au:Array Bool) (φ:Place) (a:Act) (w:World),au.size=ops.size->au.count true+fuel=ops.size->(∀k,k<ops.size->Ef au k=true->∀j∈bH ops k,Ef au j=true)->(∀k,k<ops.size->Ef au k=true->k<m)->
  uA M cP H0 w0 n cx φ (eO (b9 l) ac (Ef au) s N) (GJ au) a w->wpAnyIn (dW ro) k P .any ops Q fuel au a w:=by
  have fin:∀ (fuel:Nat) (au:Array Bool) (φ:Place) (a:Act) (w:World),au.size=ops.size->au.count true+fuel=ops.size->(∀k,k<ops.size->Ef au k=true->k<m)->(∀k,k<N->Ef au k=true)->uA M cP H0 w0 n cx φ (eO (b9 l) ac (Ef au) s N) (GJ au) a w->wpAnyIn (dW ro) k P .any ops Q fuel au a w:=by
   intro fuel au φ a w eA JD cq ba hu
   have e:∀k,k<=N->eO (b9 l) ac (Ef au) s k=eO (b9 l) ac (fun _=>true) s k:=by
    intro k
    induction k with
    |zero=>intro _;rfl
    |succ k ih=>intro hk;simp only[eO,ba k (by omega),ih (by omega)]
   rw[e N (Nat.le_refl _)]at hu
   obtain⟨k1,k2⟩:=kG (us':=fun id=>id<s.nx+N) hu.heap (fun id h=>by
    show id<s.nx+N
    rcases h with h|⟨k,hk,_,rfl⟩<;>omega)
   have hlv:∀k,k<ops.size->au.getD k false=decide (k<m):=by
    intro k hk
    by_cases h:k<m
    ·rw[decide_eq_true h];exact ba k h
    ·rw[decide_eq_false h]
     cases hb:au.getD k false with
     |false=>rfl
     |true=>exact absurd (cq k hk hb) h
   have hcm:au.count true=m:=by
    have e1:au=Array.ofFn (n:=ops.size) fun k=>decide (k.1<m):=by
     apply Array.ext
     ·simp[eA]
     ·intro k h1 h2
      have:=hlv k af
      simp only[Array.getD_eq_getD_getElem?]at this
      rw[Array.getElem?_eq_getElem h1]at this
      simpa using this
    have e2:au.toList=List.replicate m true++List.replicate (ops.size - m) false:=by
     apply List.ext_getElem?
     intro k
     by_cases hk:k<ops.size
     ·have h1:au.toList[k]? =some (decide (k<m)):=by
       have:=hlv k hk
       simp only[Array.getD_eq_getD_getElem?]at this
       rw[Array.getElem?_eq_getElem (by omega)]at this
       simp only[Option.getD_some]at this
       rw[Array.getElem?_toList,Array.getElem?_eq_getElem (by omega),this]
      rw[h1]
      by_cases h:k<m
      ·rw[List.getElem?_append_left (by simpa using h)]
       simp[h]
      ·rw[List.getElem?_append_right (by simpa using(by omega:m<=k))]
       rw[List.length_replicate,List.getElem?_replicate,if_pos (by omega),decide_eq_false h]
     ·rw[List.getElem?_eq_none (by simp[eA];omega),List.getElem?_eq_none (by simp;omega)]
    rw[<- Array.count_toList,e2,List.count_append,List.count_replicate_self,List.count_replicate]
    simp
   exact JF tG He Hf hK hX fuel m ⟨(eO (b9 l) ac (fun _=>true) s m).env,(eO (b9 l) ac (fun _=>true) s m).o,s.nx+m⟩ φ au a w af eA hlv (Nat.le_refl _) ⟨k1,hu.tr.trans k2,hu.size,hu.defers.mono k2,fun i=>V.aU k2 _ _ (hu.env i)⟩ eJ
  intro fuel
  induction fuel with
  |zero=>
   intro au φ a w eA JD rZ cq hu
   have ba:∀k,k<ops.size->Ef au k=true:=by
    intro k hk
    have h1:au.count true=au.size:=af
    rw[Array.count_eq_size]at h1
    have:=h1 au[k] (Array.getElem_mem af)
    simp only[Ef,Array.getD_eq_getD_getElem?]
    rw[Array.getElem?_eq_getElem (by omega)]
    simpa using this.symm
   exact fin 0 au φ a w eA JD cq (fun k hk=>ba k af) hu
  |succ fuel ih=>
   intro au φ a w eA JD rZ cq hu
   by_cases TJ:∀k,k<m->Ef au k=true
   ·exact fin (fuel+1) au φ a w eA JD cq TJ hu
   have hex:∃j,j<m/\Ef au j=false:=by
    apply Classical.byContradiction
    intro mP
    refine TJ fun k hk=> ?_
    cases hb:Ef au k with
    |true=>rfl
    |false=>exact absurd ⟨k,hk,hb⟩ mP
   obtain⟨j0,hj0,ab6⟩:=hex
   refine⟨fun hr=> ?_,fun i hi=> ?_⟩
   ·have:=pR tG eA hr j0 af
    rw[show au.getD j0 false=false from ab6]at this
    cases this
   obtain⟨h1,o,h2,h3⟩:=mem_ready.1 hi
   have hiS:i<ops.size:=(Array.getElem?_eq_some_iff.1 h2).1
   have kx:Ef au i=false:=by
    simp only[Ef,Array.getD_eq_getD_getElem?]at h1|-
    rw[Array.getElem?_eq_getElem (by omega)]at h1|-
    simpa using h1
   have Mq:∀j∈bH ops i,Ef au j=true:=by
    exact VR
   have uB:i<N:=by
    apply Classical.byContradiction
    intro BE
    have BE:m<=i:=Nat.le_of_not_lt BE
    have:=He _ rZ i hiS Mq j0 (Hf i BE hiS j0 af)
    rw[ab6]at this;cases this
   have Ms:AM N po (Ef au):=fun k hk jn=>He _ rZ k af (rZ k af jn)
   obtain⟨ag1,ag2⟩:=agree (s:=s) (n:=N) (fun k hk=>CV k af) hc Ms uB kx (He _ rZ i af Mq)
   obtain⟨g1,g2,g3,g4⟩:=yW (v7 _ _ i o sL vm)
   have c7: ¬GJ au (s.nx+i):=by
    rintro(h|⟨k,_,hk,he⟩)
    ·omega
    ·have:k=i:=af
     subst this;rw[kx]at hk;cases hk
   have Fh:∀k,Ef (au.setIfInBounds i true) k=(Ef au k||k==i):=by
    intro k
    simp only[Ef,Array.getD_eq_getD_getElem?]
    by_cases e:k=i
    ·subst e;simp[eA,hiS]
    ·rw[Array.getElem?_setIfInBounds_ne (Ne.symm e)]
     have:(k==i)=false:=by simpa using e
     simp[this]
   have Wh:=insert (s:=s) hc Ms uB kx Fh
   have Wi:∀k,k<ops.size->Ef (au.setIfInBounds i true) k=true->∀j∈bH ops k,Ef (au.setIfInBounds i true) j=true:=by
    intro k hk jn j hj
    rw[Fh]at jn|-
    by_cases e:k=i
    ·subst e;simp[Mq j hj]
    ·have:(k==i)=false:=by simpa using e
     rw[this,Bool.or_false]at jn
     simp[rZ k hk jn j hj]
   have Mt:(au.setIfInBounds i true).count true+fuel=ops.size:=by
    have cq:i<au.size:=af
    have e1:au.setIfInBounds i true=au.set i true cq:=by simp[Array.setIfInBounds,cq]
    have e2:au[i]=false:=by
     have:=kx
     simp only[Ef,Array.getD_eq_getD_getElem?]at this
     rw[Array.getElem?_eq_getElem cq]at this
     simpa using this
    rw[e1,Array.count_set cq,e2]
    simp
    omega
   have jm:(ac i).ok=true->∀aH a' w',uA M cP H0 w0 n cx aH (xA o.dst (ac i) (eO (b9 l) ac (Ef au) s N)) (fun id=>GJ au id\/id=s.nx+i) a' w'->wpAnyIn (dW ro) k P .any ops Q fuel (au.setIfInBounds i true) a' w':=by
    intro ab4 aH a' w' BT
    refine ih _ aH a' w' (by simp[eA]) Mt Wi (fun k hk jn=> ?_) ?_
    ·rw[Fh]at jn
     by_cases e:k=i
     ·subst e;exact uB
     ·have:(k==i)=false:=by simpa using e
      rw[this,Bool.or_false]at jn
      exact cq k hk jn
    rw[Wh,g2]
    obtain⟨k1,k2⟩:=kG (us':=GJ (au.setIfInBounds i true)) BT.heap (fun id h=>by
     rcases h with(h|⟨k,hk,jn,rfl⟩)|rfl
     ·exact .inl h
     ·exact .inr ⟨k,hk,by rw[Fh,jn];rfl,rfl⟩
     ·exact .inr ⟨i,uB,by rw[Fh];simp,rfl⟩)
    exact aaV
   have JE:∀d want,(b9 l i).gd=some (d,want)->(eO (b9 l) ac (Ef au) s N).env d=(eO (b9 l) ac (fun _=>true) s i).env d:=fun d want hd=>ag1 d (by simp[fk,tmpsOf,hd])
   have aY:=Wg i uB
   have LJ:∀x∈(b9 l i).op.operands,(eO (b9 l) ac (Ef au) s N).ev x=(eO (b9 l) ac (fun _=>true) s i).ev x:=fun x hx=>CQ fun t ht=>ag1 t (by
    subst ht
    simp only[fk,tmpsOf,List.mem_append,List.mem_filterMap]
    exact .inl (.inl ⟨.tmp t,Array.mem_toList_iff.2 hx,rfl⟩))
   have V1:(eO (b9 l) ac (Ef au) s N).nx=(eO (b9 l) ac (fun _=>true) s i).nx:=(kW N).trans (kW i).symm
   unfold wpOpIn
   simp only[h2]
   cases xz:ac i with
   |skip=>
    rw[xz]at aY jm
    have hw:=fU hu.env g4 (fV JE aY)
    simp only[hw,Bool.false_eq_true,if_false]
    refine⟨fun _ _=>trivial,jm rfl φ _ w ?_⟩
    have:=jP (v:= .bY []) (val:=undef) hu hu.heap (Trans.refl _ _ _) ⟨#[],rfl,rfl⟩ (dst:=o.dst) g3 rfl (us':=fun id=>GJ au id\/id=s.nx+i) (fun id h=> .inl h)
    exact this
   |val v Δ rd=>
    rw[xz]at aY jm
    have hw:=fU hu.env g4 (fV JE aY.1)
    exact abu
   |bN v ws rd=>
    have:=ab5 i uB
    rw[xz]at this;cases this
   |eB=>
    have:=ab5 i uB
    rw[xz]at this;cases this
 refine key ops.size _ φ a w aE (by simp[Array.count_replicate]) (fun k hk jn=> ?_) (fun k hk jn=> ?_) ?_
 ·exact zw8
 ·exact zw8
 ·have e:∀k,eO (b9 l) ac (Ef (Array.replicate ops.size false)) s k=s:=by
   intro k
   induction k with
   |zero=>rfl
   |succ k ih=>
    have:Ef (Array.replicate ops.size false) k=false:=by
     exact SZ
    simp only[eO,this,ih]
    rfl
  exact abC
end
end
end Go.Proofs.YtlhemmpklhhgoaaGreat
