/-
  A PART OF THE PROOF. Conditions: none.
-/
import Derived.OrdersIn
import Derived.Test.YtnkamdiiakdkgaaGreatEd7
set_option linter.unusedSimpArgs false
set_option linter.unusedVariables false
namespace Go.Proofs.YtnkamdiiakdkgaaGreat
section
def ab.refs:ab->List Nat
 | .row cs=>V.aG cs
 | .loop _ _ env _ _ _ _ _=>V.aG env
 |_=>[]
def Dp(R:List Nat)(o:Nat->ab):Nat->ab:=fun id=>if R.contains id=true then o id else .no
def EV(P:Program)(g:FuncId)(args:List V)(rd:List Nat)(o:Nat->ab)(out:R)(Δ:List (Nat×ab)):Prop:=
 Enters P g/\∀ (o':Nat->ab) (us:Nat->Prop) (M:Nat->Prop) (φ:Place) (w:World) (vals:Array Value),(∀id∈rd,o' id=o id/\us id)->ax M φ ⟨o',us⟩ w->V.aD (ak M φ ⟨o',us⟩) φ ⟨o',us⟩ w args vals.toList->
  Calls P g vals w fun e w'=>∃aE,ax M aE ⟨put o' Δ,us⟩ w'/\Trans φ ⟨o',us⟩ w aE ⟨put o' Δ,us⟩ w'/\out.is (ak M aE ⟨put o' Δ,us⟩) w' e
def yw(P:Program)(g:FuncId)(args:List V)(rd:List Nat)(o:Nat->ab)(fr:Nat)(v:V)(Δ:List (Nat×ab)):Prop:=
 Enters P g/\∀ (o':Nat->ab) (us:Nat->Prop) (M:Nat->Prop) (φ:Place) (w:World) (vals:Array Value),(∀id∈rd,o' id=o id/\us id)-> ¬us fr->ax M φ ⟨o',us⟩ w->V.aD (ak M φ ⟨o',us⟩) φ ⟨o',us⟩ w args vals.toList->
  Calls P g vals w fun e w'=>∃aE,ax M aE ⟨put o' Δ,fun id=>us id\/id=fr⟩ w'/\Trans φ ⟨o',us⟩ w aE ⟨put o' Δ,fun id=>us id\/id=fr⟩ w'/\∃val,e= .returned val/\V.den (ak M aE ⟨put o' Δ,fun id=>us id\/id=fr⟩) aE ⟨put o' Δ,fun id=>us id\/id=fr⟩ w' v val
mutual
theorem V.mT {B B':Nat->Prop}{φ aE:Place}{H H':Hp}{w:World}(hB:∀b, ¬B b-> ¬B' b):∀ (v:V) (val:Value),(∀id∈v.refs,H'.o id=H.o id/\aE id=φ id/\H'.us id)->V.den B φ H w v val->V.den B' aE H' w v val
 | .d x,val,_,h=>D.aM (w:=w) (w':=w) (fun b _ hn=>⟨rfl,hB b hn⟩) x val h
 | .bd,_,_,h=>h
 | .aa,_,_,_=>trivial
 | .eV,_,_,h=>h
 | .qB es,val,_,h=>⟨D.aM (w:=w) (w':=w) (fun b _ hn=>⟨rfl,hB b hn⟩) (.sl es) val h.1,h.2⟩
 | .agg cs,val,hr,h=>by
   obtain⟨a,rfl,h1,h2⟩:=h
   exact⟨a,rfl,V.fN hB cs _ wo h1,h2⟩
 | .bU cs,val,hr,h=>by
   obtain⟨a,rfl,h1⟩:=h
   exact⟨a,rfl,V.fN hB cs _ wo h1⟩
 | .ptr id off,val,hr,h=>by
   exact Sw
 | .osl id ep,val,hr,h=>by
   obtain⟨a,b,c⟩:=hr id zZ
   obtain⟨h0,h1,h2⟩:=h
   refine⟨h0,c,fun e he=> ?_⟩
   rw[a]at he
   obtain⟨x,y⟩:=h2 e he
   exact⟨x,fun heq=>(y heq).trans b.symm⟩
 | .pe id ep i sz off,val,hr,h=>by
   obtain⟨a,b,c⟩:=hr id zZ
   obtain⟨h0,h1,h2⟩:=h
   refine⟨h0,c,fun e he=> ?_⟩
   rw[a]at he
   obtain⟨x,y⟩:=h2 e he
   exact Pv
 | .pp cs off,val,_,h=>by
   obtain⟨a,ev,h1,h2,h3,h5,h4⟩:=h
   exact XF
 | .func fn first cap,val,hr,h=>by
   obtain⟨f,c,rfl,h1,h2⟩:=h
   exact⟨f,c,rfl,V.fN hB first _ (fun id au=>hr id (by simp[V.refs,au])) h1,V.fN hB cap _ (fun id au=>hr id (by simp[V.refs,au])) h2⟩
 | .iface t x,val,hr,h=>by
   obtain⟨u,rfl,h⟩:=h
   exact⟨u,rfl,V.mT hB x u wo h⟩
 | .wx id off n,val,hr,h=>by
   exact Sw
 | .mp id,val,hr,h=>by
   obtain⟨a,b,c⟩:=hr id zZ
   obtain⟨h0,h1,h2⟩:=h
   refine⟨h0,c,fun bG=> ?_⟩
   rw[a]at bG
   exact(h2 bG).trans b.symm
 | .ja id,val,hr,h=>by
   exact Sw
theorem V.fN {B B':Nat->Prop}{φ aE:Place}{H H':Hp}{w:World}(hB:∀b, ¬B b-> ¬B' b):∀ (vs:List V) (vals:List Value),(∀id∈V.aG vs,H'.o id=H.o id/\aE id=φ id/\H'.us id)->V.aD B φ H w vs vals->V.aD B' aE H' w vs vals
 |[],_,_,h=>h
 |v::vs,_,hr,h=>by
  obtain⟨u,us,rfl,h1,h2⟩:=h
  exact⟨u,us,rfl,V.mT hB v u (fun id au=>hr id (by simp[V.aG,au])) h1,V.fN hB vs us (fun id au=>hr id (by simp[V.aG,au])) h2⟩
end
theorem GR{env:List V}{i id:Nat}(h:id∈(aS env i).refs):id∈V.aG env:=by
 unfold aS at h
 induction env generalizing i with
 |nil=>simp[V.refs]at h
 |cons v env ih=>
  cases i with
  |zero=>simp only[List.getD_cons_zero]at h;simp[V.aG,h]
  |succ i=>simp only[List.getD_cons_succ]at h;simp[V.aG,ih h]
theorem aN.refs {M M':Nat->Prop}{φ aE:Place}{H H':Hp}{w:World}{id:Nat}(hB:∀b, ¬ak M φ H b-> ¬ak M' aE H' b)(ho:H'.o id=H.o id)(dT:aE id=φ id)
 (hr:∀j∈(H.o id).refs,H'.o j=H.o j/\aE j=φ j/\H'.us j) (h:aN M φ H w id):aN M' aE H' w id:=by
 have hd:∀b,cU w b-> ¬ak M φ H b->w.heap[b]? =w.heap[b]? /\ ¬ak M' aE H' b:=fun b _ hn=>⟨rfl,hB b hn⟩
 unfold aN at*
 rw[ho]
 cases hx:H.o id with
 |no=>trivial
 |row cs=>
  simp only[hx]at h|-
  obtain⟨b,dI,ty,h1,h2,h3,h4⟩:=h
  exact⟨b,dI,ty,dT.trans h1,h2,V.fN hB cs _ (fun j hj=>hr j (by rw[hx];exact hj)) h3,h4⟩
 |arr ep ty sz es=>
  simp only[hx]at h|-
  obtain⟨h0,xs,h1,evs,h2,h3,h4⟩:=h
  exact⟨h0,xs,by rw[dT];exact h1,evs,h2,h3,D.aP hd es evs h4⟩
 |rN ep es=>
  simp only[hx]at h|-
  rw[dT]
  exact D.aM hd (.sl es) _ h
 |map kt vt l=>
  simp only[hx]at h|-
  obtain⟨b,es,clock,h1,h2,h4,h3⟩:=h
  exact⟨b,es,clock,dT.trans h1,h2,h4,aK.mono hd l _ h3⟩
 |gH l=>
  simp only[hx]at h|-
  rw[dT]
  exact D.aM hd (.mp _ _) _ h
 |oA l last=>
  simp only[hx]at h|-
  obtain⟨b,h1,h2⟩:=h
  exact⟨b,dT.trans h1,h2.mono hd rfl⟩
 |xT s pos=>
  simp only[hx]at h|-
  obtain⟨b,h1,h2⟩:=h
  exact⟨b,dT.trans h1,h2⟩
 |loop nf n env ps jr fj st Gj=>
  simp only[hx]at h|-
  obtain⟨b,r,h1,h2,h0,h3,h4,h5,h6,h7,h8,h9⟩:=h
  exact⟨b,r,dT.trans h1,h2,h0,h3,h4,h5,h6,h7,h8,fun i=>V.mT hB _ _ (fun j hj=>hr j (by rw[hx];exact GR hj)) (h9 i)⟩
section
variable {P:Program}
theorem Dq{o o':Nat->ab}{Δ:List (Nat×ab)}{id:Nat}(h:o id=o' id):put o Δ id=put o' Δ id:=EW h
where EW {o o':Nat->ab}:∀ {Δ:List (Nat×ab)} {id:Nat},o id=o' id->put o Δ id=put o' Δ id
 |[],_,h=>h
 |x::Δ,id,h=>by
  simp only[put,List.foldl_cons]
  refine EW (Δ:=Δ) (o:=aA o x.1 x.2) (o':=aA o' x.1 x.2) ?_
  simp only[aJ]
  split
  ·rfl
  ·exact h
theorem yx{o:Nat->ab}:∀ {Δ:List (Nat×ab)} {id:Nat},(∀x∈Δ,x.1≠id)->put o Δ id=o id
 |[],_,_=>rfl
 |x::Δ,id,h=>by
  have:=yx (o:=aA o x.1 x.2) (Δ:=Δ) (id:=id) (fun y hy=>h y rL)
  simp only[put,List.foldl_cons]at this|-
  rw[this];simp[Ne.symm (h x (by simp))]
theorem EV.mP {g:FuncId}{args:List V}{rd:List Nat}{o:Nat->ab}{nx:Nat}{out:R}{Δ:List (Nat×ab)}(vG:∀id∈rd,id<nx)(dD:∀id∈V.aG args,id∈rd)(kV:∀id∈rd,∀j∈(o id).refs,j∈rd)(V9:∀x∈Δ,x.1∈rd)(JM:∀x∈Δ,∀j∈x.2.refs,j∈rd)
 (h:cX P g args (Dp rd o) nx
  (fun v o1 _=>(∀id∈rd,o1 id=put o Δ id)/\∃vs rs,v=(match vs with|[v]=>v|vs=> .bU vs)/\bV o1 vs=some rs/\out= .ret rs/\∀id∈V.bf vs,id∉rd)
  (fun v o1 _=>(∀id∈rd,o1 id=put o Δ id)/\∃x,dE o1 v=some x/\out= .bD x/\∀id∈v.ids,id∉rd)):EV P g args rd o out Δ:=by
 refine⟨h.1,fun o' us M φ w vals ho hH hd=> ?_⟩
 let M1:Nat->Prop:=fun b=>M b\/∃id,id∉rd/\(o' id).live=true/\de (φ id)=some b
 let HR:Hp:=hp (Dp rd o) nx
 have ug:∀id,id∈rd->Dp rd o id=o' id:=fun id au=>by simp[Dp,au,(ho id au).1]
 have sa:∀id,id∉rd->Dp rd o id= .no:=fun id au=>by simp[Dp,au]
 have hB:∀b,ak M1 φ HR b↔ak M φ ⟨o',us⟩ b:=by
  intro b
  constructor
  ·rintro((h|⟨id,h1,h2,h3⟩)|⟨id,h1,h2⟩)
   ·exact .inl h
   ·exact .inr ⟨id,h2,h3⟩
   ·by_cases au:id∈rd
    ·exact .inr ⟨id,by show(o' id).live=true;rw[<- ug id au];exact h1,h2⟩
    ·have:HR.o id= .no:=sa id au
     rw[this]at h1;cases h1
  ·rintro(h|⟨id,h1,h2⟩)
   ·exact .inl (.inl h)
   ·by_cases au:id∈rd
    ·exact .inr ⟨id,by show(Dp rd o id).live=true;rw[ug id au];exact h1,h2⟩
    ·exact .inl (.inr ⟨id,au,h1,h2⟩)
 have AA:∀id∈rd,HR.o id=o' id/\φ id=φ id/\HR.us id:=fun id au=>⟨ug id au,rfl,vG id au⟩
 have hHR:ax M1 φ HR w:=by
  refine⟨fun id=> ?_,fun id hn=> ?_,fun i j b hi hj bi bj=> ?_,fun b hb=> ?_,fun b hb=> ?_⟩
  ·by_cases au:id∈rd
   ·refine aN.refs (H:=⟨o',us⟩) (M:=M) (φ:=φ) (fun b hn hb=>hn ((hB b).1 hb)) (ug id au) rfl (fun j hj=>AA j ?_) (hH.ok id)
    have:o' id=o id:=(ho id au).1
    exact kV id au j (by rw[<- this];exact hj)
   ·unfold aN
    rw[show HR.o id= .no from sa id au];trivial
  ·exact sa id fun au=>hn (vG id au)
  ·have live:∀i,(HR.o i).live=true->i∈rd/\(o' i).live=true:=fun i hi=>by
    by_cases au:i∈rd
    ·exact⟨au,by rw[<- ug i au];exact hi⟩
    ·rw[show HR.o i= .no from sa i au]at hi;cases hi
   exact hH.apart i j b (live i hi).2 (live j hj).2 bi bj
  ·obtain⟨id,h1,h2⟩:=hb
   have au:id∈rd:=by
    by_cases au:id∈rd
    ·exact au
    ·rw[show HR.o id= .no from sa id au]at h1;cases h1
   rw[show HR.o id=o' id from ug id au]at h1
   obtain⟨k1,k2⟩:=hH.ours b ⟨id,h1,h2⟩
   refine⟨?_,k2⟩
   rintro(hM|⟨j,j1,j2,j3⟩)
   ·exact k1 hM
   ·exact j1 (hH.apart j id b j2 h1 j3 h2 ▸ au)
  ·rcases hb with hb|⟨id,h1,h2,h3⟩
   ·exact hH.zO b hb
   ·exact(hH.ours b ⟨id,h2,h3⟩).2
 have hdR:V.aD (ak M1 φ HR) φ HR w args vals.toList:=V.fN (H:=⟨o',us⟩) (fun b hn hb=>hn ((hB b).1 hb)) _ _ (fun id au=>AA id (dD id au)) hd
 refine(h.2 M1 φ w vals hHR hdR).mono ?_
 rintro e w' ⟨iH,o1,zS,v,k1,k2,k3⟩
 have main:(∀id∈rd,o1 id=put o Δ id)->∃aE,ax M aE ⟨put o' Δ,us⟩ w'/\Trans φ ⟨o',us⟩ w aE ⟨put o' Δ,us⟩ w'/\∀b,ak M aE ⟨put o' Δ,us⟩ b->M1 b\/∃id∈rd,(o1 id).live=true/\de (iH id)=some b:=by
  intro vA
  have EM:∀id∈rd,put o' Δ id=o1 id:=fun id au=>(Dq (ho id au).1).trans (vA id au).symm
  have EL:∀id,id∉rd->put o' Δ id=o' id:=fun id au=>yx fun x hx e=>au (e ▸ V9 x hx)
  let GJ:Place:=fun id=>if id∈rd then iH id else φ id
  have yy:∀id∈rd,GJ id=iH id:=fun id au=>if_pos au
  have A4:∀id,id∉rd->GJ id=φ id:=fun id au=>if_neg au
  let H2:Hp:=⟨put o' Δ,us⟩
  have cB:∀b,cA GJ H2 b->(∃id∈rd,(o1 id).live=true/\de (iH id)=some b)\/∃id,id∉rd/\(o' id).live=true/\de (φ id)=some b:=by
   rintro b ⟨id,h1,h2⟩
   by_cases au:id∈rd
   ·exact .inl ⟨id,au,by rw[<- EM id au];exact h1,by rw[<- yy id au];exact h2⟩
   ·exact .inr ⟨id,au,by rw[<- EL id au];exact h1,by rw[<- A4 id au];exact h2⟩
  have hB2:∀b,ak M GJ H2 b->ak M1 iH (hp o1 zS) b:=by
   rintro b (hb|hb)
   ·exact .inl (.inl hb)
   ·rcases cB b hb with⟨id,h1,h2,h3⟩|⟨id,h1,h2,h3⟩
    ·exact .inr ⟨id,h2,h3⟩
    ·exact .inl (.inr ⟨id,h1,h2,h3⟩)
  have vW:dJ φ ⟨o',us⟩ GJ H2:=by
   refine⟨fun id h=>h,fun id hu hr=> ?_,fun id e' hu he=> ?_⟩
   ·by_cases au:id∈rd
    ·rw[show H2.o id=o1 id from EM id au]at hr
     obtain⟨a,b⟩:=k2.rel.row id (vG id au) hr
     rw[show HR.o id=o' id from ug id au]at a
     exact⟨a,(yy id au).trans b⟩
    ·rw[show H2.o id=o' id from EL id au]at hr
     exact⟨hr,A4 id au⟩
   ·by_cases au:id∈rd
    ·rw[show H2.o id=o1 id from EM id au]at he
     obtain⟨e0,a,b,c⟩:=k2.rel.ep id e' (vG id au) he
     rw[show HR.o id=o' id from ug id au]at a
     exact⟨e0,a,b,fun heq=>(yy id au).trans (c heq)⟩
    ·rw[show H2.o id=o' id from EL id au]at he
     exact⟨e',he,Nat.le_refl _,fun _=>A4 id au⟩
  have zP:∀b,cU w b-> ¬ak M φ ⟨o',us⟩ b->w'.heap[b]? =w.heap[b]? /\ ¬ak M GJ H2 b:=by
   intro b hc hn
   obtain⟨a,c⟩:=k2.blocks (M:=M1) b hc (fun hb=>hn ((hB b).1 hb))
   exact⟨a,fun hb=>c (hB2 b hb)⟩
  have vH:∀b,b<w.heap.size-> ¬cA φ HR b->w'.heap[b]? =w.heap[b]? :=fun b hb hl=>k2.keep.block b hb hl
  have ht:Trans φ ⟨o',us⟩ w GJ H2 w':=by
   refine⟨⟨k2.keep.os,k2.keep.tape,k2.keep.output,k2.keep.size,fun b hb hl=>vH b hb fun⟨id,h1,h2⟩=>hl ?_⟩,fun b hb=> ?_,vW⟩
   ·by_cases au:id∈rd
    ·exact⟨id,by show(o' id).live=true;rw[<- ug id au];exact h1,h2⟩
    ·rw[show HR.o id= .no from sa id au]at h1;cases h1
   ·rcases cB b hb with⟨id,h1,h2,h3⟩|⟨id,h1,h2,h3⟩
    ·rcases k2.grow b ⟨id,h2,h3⟩with⟨j,j1,j2⟩|zQ
     ·by_cases au:j∈rd
      ·exact .inl ⟨j,by show(o' j).live=true;rw[<- ug j au];exact j1,j2⟩
      ·rw[show HR.o j= .no from sa j au]at j1;cases j1
     ·exact .inr zQ
    ·exact .inl ⟨id,h2,h3⟩
  refine⟨GJ,⟨fun id=> ?_,fun id hn=> ?_,fun i j b hi hj bi bj=> ?_,fun b hb=> ?_,fun b hb=>Nat.lt_of_lt_of_le (hH.zO b hb) k2.keep.size⟩,ht,fun b hb=> ?_⟩
  ·by_cases au:id∈rd
   ·refine aN.refs (H:=hp o1 zS) (M:=M1) (φ:=iH) (fun b hn hb=>hn (hB2 b hb)) (EM id au) (yy id au) (fun j hj=> ?_) (k1.ok id)
    have H7:j∈rd:=by
     have e1:o1 id=put o Δ id:=vA id au
     have hj:j∈(put o Δ id).refs:=by rw[<- e1];exact hj
     have key:∀ (EX:List (Nat×ab)) (q:Nat->ab),(∀x∈EX,∀j∈x.2.refs,j∈rd)->(∀j∈(q id).refs,j∈rd)->∀j∈(put q EX id).refs,j∈rd:=by
      intro EX
      induction EX with
      |nil=>intro q _ h2;exact h2
      |cons x EX ih=>
       intro q h1 h2
       simp only[put,List.foldl_cons]
       refine ih (aA q x.1 x.2) (fun y hy=>h1 y rL) ?_
       simp only[aJ]
       split
       ·exact h1 x aL
       ·exact h2
     exact key Δ o JM (kV id au) j hj
    exact⟨EM j H7,yy j H7,(ho j H7).2⟩
   ·exact aN.An zP vW (EL id au) (A4 id au) (fun hl b hb=>vH b (hH.ours b ⟨id,hl,hb⟩).2 fun⟨j,j1,j2⟩=>by
     by_cases hj:j∈rd
     ·rw[show HR.o j=o' j from ug j hj]at j1
      exact au (hH.apart id j b hl j1 hb j2 ▸ hj)
     ·rw[show HR.o j= .no from sa j hj]at j1;cases j1) (hH.ok id)
  ·have au:id∉rd:=fun au=>hn (ho id au).2
   exact(EL id au).trans (hH.fresh id hn)
  ·by_cases e1:i∈rd<;>by_cases e2:j∈rd
   ·refine k1.apart i j b ?_ ?_ (by rw[<- yy i e1];exact bi) (by rw[<- yy j e2];exact bj)
    ·show(o1 i).live=true;rw[<- EM i e1];exact hi
    ·show(o1 j).live=true;rw[<- EM j e2];exact hj
   ·exfalso
    refine(k1.ours b ⟨i,by show(o1 i).live=true;rw[<- EM i e1];exact hi,by rw[<- yy i e1];exact bi⟩).1 (.inr ⟨j,e2,by rw[<- EL j e2];exact hj,by rw[<- A4 j e2];exact bj⟩)
   ·exfalso
    refine(k1.ours b ⟨j,by show(o1 j).live=true;rw[<- EM j e2];exact hj,by rw[<- yy j e2];exact bj⟩).1 (.inr ⟨i,e1,by rw[<- EL i e1];exact hi,by rw[<- A4 i e1];exact bi⟩)
   ·exact hH.apart i j b (by show(o' i).live=true;rw[<- EL i e1];exact hi) (by show(o' j).live=true;rw[<- EL j e2];exact hj) (by rw[<- A4 i e1];exact bi) (by rw[<- A4 j e2];exact bj)
  ·rcases cB b hb with⟨id,h1,h2,h3⟩|⟨id,h1,h2,h3⟩
   ·obtain⟨a,c⟩:=k1.ours b ⟨id,h2,h3⟩
    exact⟨fun hM=>a (.inl hM),c⟩
   ·obtain⟨a,c⟩:=hH.ours b ⟨id,h2,h3⟩
    exact⟨a,Nat.lt_of_lt_of_le c k2.keep.size⟩
  ·rcases hb with hb|hb
   ·exact .inl (.inl hb)
   ·rcases cB b hb with h|h
    ·exact .inr h
    ·exact .inl (.inr h)
 have res:∀ (vs:List V) (xs:List D) (us':List Value),(∀id∈rd,o1 id=put o Δ id)->bV o1 vs=some xs->(∀id∈V.bf vs,id∉rd)->V.aD (ak M1 iH (hp o1 zS)) iH (hp o1 zS) w' vs us'->
  ∃aE,ax M aE ⟨put o' Δ,us⟩ w'/\Trans φ ⟨o',us⟩ w aE ⟨put o' Δ,us⟩ w'/\D.aD (ak M aE ⟨put o' Δ,us⟩) w' xs us':=by
  intro vs xs us' vA h1 ac6 h2
  obtain⟨f1,f2,f3,f4,f5⟩:=cG k1 (V.bf vs) (cK vs _ h2)
  have h3:=c0 f1 vs xs us' f3 h1 (V.aP f2 _ _ h2)
  obtain⟨aE,m1,m2,m3⟩:=main vA
  refine⟨aE,m1,m2,D.aP (w:=w') (w':=w') (fun b _ hn=>⟨rfl,fun hb=>hn ?_⟩) xs us' h3⟩
  rcases m3 b hb with hb|⟨id,i1,i2,i3⟩
  ·exact .inl hb
  ·exact .inr ⟨id,by rw[f4 id fun hm=>ac6 id hm i1];exact i2,i3⟩
 cases e with
 |outgrown=>exact k3.elim
 |panicked ch=>
  obtain⟨val,rfl,g1,vA,x,g2,rfl,g3⟩:=k3
  obtain⟨aE,m1,m2,m3⟩:=res [v] [x] [val] vA (by simp[bV,g2]) (by simpa[V.bf]using g3) ⟨val,[],rfl,g1,rfl⟩
  obtain⟨u,us2,he,h2,_⟩:=m3
  simp at he;obtain⟨rfl,rfl⟩:=he
  exact⟨aE,m1,m2,val,rfl,h2⟩
 |returned val=>
  obtain⟨g1,vA,vs,rs,rfl,g2,rfl,g3⟩:=k3
  match vs,g1,g2,g3 with
  |[],g1,g2,g3=>
   obtain⟨arr,rfl,hv⟩:=g1
   simp only[bV,Option.some.injEq]at g2;subst g2
   obtain⟨aE,m1,m2,m3⟩:=res [] [] arr.toList vA rfl (by simp[V.bf]) hv
   exact⟨aE,m1,m2,arr,rfl,m3⟩
  |[v],g1,g2,g3=>
   obtain⟨aE,m1,m2,m3⟩:=res [v] rs [val] vA g2 g3 ⟨val,[],rfl,g1,rfl⟩
   refine⟨aE,m1,m2, ?_⟩
   cases rs with
   |nil=>cases m3
   |cons x l=>
    obtain⟨u,us2,he,h2,h3⟩:=m3
    simp at he;obtain⟨rfl,rfl⟩:=he
    cases l with
    |nil=>exact h2
    |cons y l=>obtain⟨_,_,h,_⟩:=h3;cases h
  |v::v2::l,g1,g2,g3=>
   obtain⟨arr,rfl,hv⟩:=g1
   obtain⟨aE,m1,m2,m3⟩:=res (v::v2::l) rs arr.toList vA g2 g3 hv
   refine⟨aE,m1,m2, ?_⟩
   have hl:=D.aB _ _ m3
   have Ss:=V.aB _ _ hv
   match rs,hl,m3 with
   |[],hl,_=>exact En
   |[x],hl,_=>exact En
   |x::y::l,_,m3=>exact⟨arr,rfl,m3⟩
end
end
section
inductive eR where
 |skip|val (v:V) (Δ:List (Nat×ab)) (rd:List Nat)|bD (v:V) (ws rd:List Nat)|de
 deriving Inhabited
def eR.ok:eR->Bool
 | .skip| .val .. =>true
 |_=>false
def vI(dst:Option Tmp)(x:eR)(s:S):S:=
 match x with
 | .skip=>⟨aY s.env dst (.bU []),s.o,s.nx⟩
 | .val v Δ _=>⟨aY s.env dst v,put s.o Δ,s.nx⟩
 | .bD .. | .de=>⟨aY s.env dst .aa,s.o,s.nx⟩
def kE:eR->List Nat
 | .val _ Δ _=>Δ.map (·.1)
 |_=>[]
def vX:eR->List Nat
 | .val _ _ rd=>rd
 | .bD _ _ rd=>rd
 |_=>[]
def Y5(P:Program)(g:FuncId)(ds:List D)(v:V):Prop:=
 Enters P g/\∀ (M:Nat->Prop) (w:World) (vals:Array Value),(∀b,M b->b<w.heap.size)->D.aD M w ds vals.toList->
  Calls P g vals w fun e w'=>dB (fun _=>False) w w'/\∃val,e= .returned val/\∀φ H,V.den M φ H w' v val
theorem Y5.mP {P:Program}{g:FuncId}{ds:List D}{v:V}(hr:v.refs=[])(h:cX P g (ds.map .d) (fun _=> .no) 0 (fun v' _ _=>v'=v) (fun _ _ _=>False)):Y5 P g ds v:=by
 refine⟨h.1,fun M w vals hM hd=> ?_⟩
 let cj:Place:=fun _=> .nilFunc
 have vH:∀b, ¬cA cj (hp (fun _=> .no) 0) b:=by rintro b ⟨id,hl,_⟩;simp[hp,ab.live]at hl
 refine(h.2 M cj w vals (la cj hM) ((V.b9 _ _).2 (D.aP (w:=w) (w':=w) (B:=M) (fun b _ hB=>⟨rfl,fun h=>h.elim hB (vH b)⟩) _ _ hd))).mono ?_
 rintro e w' ⟨aE,o',nx',v',k1,k2,k3⟩
 refine⟨⟨k2.keep.os,k2.keep.tape,k2.keep.output,k2.keep.size,fun k hk _=>k2.keep.block k hk (vH k)⟩, ?_⟩
 cases e with
 |outgrown=>exact k3.elim
 |panicked ch=>obtain⟨_,_,_,h⟩:=k3;exact h.elim
 |returned val=>
  obtain⟨g1,rfl⟩:=k3
  exact⟨val,rfl,fun φ H=>V.mT (B:=ak M aE (hp o' nx')) (φ:=aE) (H:=hp o' nx') (fun b hb hm=>hb (.inl hm)) v' val (fun id au=>by rw[hr]at au;cases au) g1⟩
def wW(P:Program)(s:S)(fr:Nat)(op:Op)(v:V)(Δ:List (Nat×ab))(rd:List Nat):Prop:=
 ((∃s5,fS P s fr op=some (v,Δ,s5))/\rd=n6 s op)\/
 (∃c f g first cap,op= .call c/\c.callee= .value f/\s.ev f= .func (.func g) first cap/\
  ((∃ds rs,bV s.o (first++c.args.toList.map s.ev++cap)=some ds/\aT P g ds (.ret rs)/\v=jb rs/\rd=n6 s op/\
    (Δ=cg s.o (V.bf (first++c.args.toList.map s.ev++cap))\/D.jy rs=true/\Δ=[]))\/
   (∃rs,EV P g (first++c.args.toList.map s.ev++cap) rd s.o (.ret rs) Δ/\v=jb rs/\∀id∈rd,id<s.nx)\/
   (∃ds,bV s.o (first++c.args.toList.map s.ev++cap)=some ds/\Y5 P g ds v/\rd=n6 s op/\Δ=cg s.o (V.bf (first++c.args.toList.map s.ev++cap)))\/
   (yw P g (first++c.args.toList.map s.ev++cap) rd s.o fr v Δ/\∀id∈rd,id<s.nx)))
def A5(P:Program)(s:S)(op:Op)(v:V)(ws rd:List Nat):Prop:=
 ∃c f g first cap,op= .call c/\c.callee= .value f/\s.ev f= .func (.func g) first cap/\
  ((∃ds x,bV s.o (first++c.args.toList.map s.ev++cap)=some ds/\aT P g ds (.bD x)/\x.flat=true/\v= .d x/\rd=n6 s op/\ws=[])\/
   (∃x Δ,EV P g (first++c.args.toList.map s.ev++cap) rd s.o (.bD x) Δ/\v= .d x/\ws=Δ.map (·.1)/\∀id∈rd,id<s.nx))
def dH(s:S)(gd:Option (Nat×Bool))(b:Bool):Prop:=
 match gd with
 |none=>b=true
 |some (d,want)=>match s.env d with
  | .d (.bool c)=>b=(c==want)
  | .bU []=>b=false
  |_=>False
def Qd(P:Program)(s:S)(fr:Nat)(o:bI)(x:eR):Prop:=
 match x with
 | .skip=>dH s o.gd false
 | .val v Δ rd=>dH s o.gd true/\wW P s fr o.op v Δ rd
 | .bD v ws rd=>dH s o.gd true/\A5 P s o.op v ws rd
 | .de=>True
def ef(oc:Nat->bI)(ac:Nat->eR)(E:Nat->Bool)(s:S):Nat->S
 |0=>s
 |k+1=>if E k then vI (oc k).dst (ac k) (ef oc ac E s k)else ef oc ac E s k
structure Compat (oc:Nat->bI) (ac:Nat->eR) (R:Nat->List Nat) (i j:Nat):Prop where
 di:∀d,(oc i).dst=some d->d∉eL (oc j)
 dj:∀d,(oc j).dst=some d->d∉eL (oc i)
 wi:∀id∈kE (ac i),id∉R j/\id∉kE (ac j)
 wj:∀id∈kE (ac j),id∉R i
section
variable {P:Program}{oc:Nat->bI}{ac:Nat->eR}{s:S}{n:Nat}{E:Nat->Bool}{R:Nat->List Nat}{pr:Nat->Nat->Prop}
theorem Dr{env:Nat->V}{dst:Option Tmp}{v:V}{t:Nat}(h:∀d,dst=some d->d≠t):aY env dst v t=env t:=by
 cases dst with
 |none=>rfl
 |some d=>simp only[aY,aJ];rw[if_neg (fun e=>h d rfl e.symm)]
theorem fO{o:Nat->ab}:∀ {Δ:List (Nat×ab)} {id:Nat},id∉Δ.map (·.1)->put o Δ id=o id
 |[],_,_=>rfl
 |x::Δ,id,h=>by
  simp only[List.map_cons,List.mem_cons,not_or]at h
  have:=fO (o:=aA o x.1 x.2) (Δ:=Δ) h.2
  simp only[put,List.foldl_cons]at this|-
  rw[this];simp[h.1]
theorem yz{o o':Nat->ab}:∀ {Δ:List (Nat×ab)} {id:Nat},id∈Δ.map (·.1)\/o id=o' id->put o Δ id=put o' Δ id
 |[],_,h=>by rcases h with h|h;· simp at h
             ·exact h
 |x::Δ,id,h=>by
  simp only[put,List.foldl_cons]
  refine yz (Δ:=Δ) (o:=aA o x.1 x.2) (o':=aA o' x.1 x.2) ?_
  simp only[List.map_cons,List.mem_cons]at h
  simp only[aJ]
  by_cases e:id=x.1
  ·right;simp[e]
  ·rcases h with(h|h)|h
   ·exact absurd h e
   ·exact .inl h
   ·right;simp[e,h]
theorem kF{dst:Option Tmp}{x:eR}{t:Nat}(h:∀d,dst=some d->d≠t):(vI dst x s).env t=s.env t:=by
 cases x<;>exact Dr h
theorem mU{dst:Option Tmp}{x:eR}{id:Nat}(h:id∉kE x):(vI dst x s).o id=s.o id:=by
 cases x with
 |val v Δ rd=>exact fO h
 |_=>rfl
theorem yA{dst:Option Tmp}{x:eR}{s':S}{t:Nat}(h:s.env t=s'.env t):(vI dst x s).env t=(vI dst x s').env t:=by
 cases x<;>cases dst<;>simp only[vI,aY,aJ]<;>first|exact h|(split<;>first|rfl|exact h)
theorem Ds{dst:Option Tmp}{x:eR}{s':S}{id:Nat}(h:s.o id=s'.o id):(vI dst x s).o id=(vI dst x s').o id:=by
 cases x with
 |val v Δ rd=>exact yz (.inr h)
 |_=>exact h
theorem put_comm{o:Nat->ab}{Δ EX:List (Nat×ab)}(h:∀id∈Δ.map (·.1),id∉EX.map (·.1)):put (put o Δ) EX=put (put o EX) Δ:=by
 funext id
 by_cases h1:id∈Δ.map (·.1)
 ·rw[fO (h id h1)]
  exact yz (.inl h1)
 ·rw[fO (Δ:=Δ) h1]
  by_cases h2:id∈EX.map (·.1)
  ·exact yz (.inl h2)
  ·rw[fO h2,fO h2,fO h1]
theorem wX{env:Nat->V}{d d':Option Tmp}{v v':V}(h:∀t,d=some t->d'≠some t):aY (aY env d v) d' v'=aY (aY env d' v') d v:=by
 cases d with
 |none=>rfl
 |some t=>
  cases d' with
  |none=>rfl
  |some t'=>
   have j9:t'≠t:=fun e=>h t rfl (by rw[e])
   funext i
   simp only[aY,aJ]
   by_cases e1:i=t<;>by_cases e2:i=t'
   ·exact absurd (e2.symm.trans e1) j9
   all_goals simp[e1,e2]
   ·intro e;exact absurd e.symm j9
   ·intro e;exact absurd e j9
theorem JN{d d':Option Tmp}{x x':eR}(hd:∀t,d=some t->d'≠some t)(hw:∀id∈kE x,id∉kE x'):vI d x (vI d' x' s)=vI d' x' (vI d x s):=by
 cases x<;>cases x'<;>simp only[vI]<;>first
  |rw[wX hd,put_comm hw]
  |rw[wX hd]
def yB(n:Nat)(pr:Nat->Nat->Prop)(E:Nat->Bool):Prop:=∀k,k<n->E k=true->∀j,pr k j->E j=true
theorem agree(_:∀k,k<n->∀j,pr k j->j<k)(hc:∀i j,i<j->j<n-> ¬pr j i->Compat oc ac R i j)(hE:yB n pr E){i:Nat}(hi:i<n)(ml:E i=false)(JO:∀j,pr i j->E j=true):
 (∀t∈eL (oc i),(ef oc ac E s n).env t=(ef oc ac (fun _=>true) s i).env t)/\(∀id∈R i,(ef oc ac E s n).o id=(ef oc ac (fun _=>true) s i).o id):=by
 have a:∀k,k<=i->(∀t∈eL (oc i),(ef oc ac E s k).env t=(ef oc ac (fun _=>true) s k).env t)/\(∀id∈R i,(ef oc ac E s k).o id=(ef oc ac (fun _=>true) s k).o id):=by
  intro k
  induction k with
  |zero=>intro _;exact⟨fun _ _=>rfl,fun _ _=>rfl⟩
  |succ k ih=>
   intro hk
   obtain⟨h1,h2⟩:=ih af
   simp only[ef,if_true]
   by_cases iS:E k=true
   ·simp only[iS,if_true]
    exact⟨fun t ht=>yA (h1 t ht),fun id au=>Ds (h2 id au)⟩
   ·have PW: ¬pr i k:=fun hm=>iS (JO k hm)
    have c:=hc k i af hi PW
    simp only[iS]
    refine⟨fun t ht=> ?_,fun id au=> ?_⟩
    ·rw[kF fun d hd e=>c.di d hd (e ▸ ht)];exact h1 t ht
    ·rw[mU fun hm=>(c.wi id hm).1 au];exact h2 id au
 have b:∀k,i<=k->k<=n->(∀t∈eL (oc i),(ef oc ac E s k).env t=(ef oc ac (fun _=>true) s i).env t)/\(∀id∈R i,(ef oc ac E s k).o id=(ef oc ac (fun _=>true) s i).o id):=by
  intro k M9
  induction M9 with
  |refl=>intro _;exact a i (Nat.le_refl _)
  | @step k M9 ih=>
    intro hk
    have M9:i<=k:=M9
    obtain⟨h1,h2⟩:=ih af
    simp only[ef]
    by_cases iS:E k=true
    ·have j9:i≠k:=fun e=>by rw[e,iS]at ml;cases ml
     have PW: ¬pr k i:=fun hm=>by have:=hE k af iS i hm;rw[ml]at this;cases this
     have c:=hc i k af af PW
     simp only[iS,if_true]
     refine⟨fun t ht=> ?_,fun id au=> ?_⟩
     ·rw[kF fun d hd e=>c.dj d hd (e ▸ ht)];exact h1 t ht
     ·rw[mU fun hm=>c.wj id hm au];exact h2 id au
    ·simp only[iS];exact⟨h1,h2⟩
 exact b n af (Nat.le_refl _)
theorem insert(hc:∀i j,i<j->j<n-> ¬pr j i->Compat oc ac R i j)(hE:yB n pr E){i:Nat}(hi:i<n)(ml:E i=false){E':Nat->Bool}(Dt:∀k,E' k=(E k||k==i)):
 ef oc ac E' s n=vI (oc i).dst (ac i) (ef oc ac E s n):=by
 have a:∀k,k<=i->ef oc ac E' s k=ef oc ac E s k:=by
  intro k
  induction k with
  |zero=>intro _;rfl
  |succ k ih=>
   intro hk
   have:E' k=E k:=by rw[Dt k];have:(k==i)=false:=by simp;omega
                     simp[this]
   simp only[ef,this,ih (by omega)]
 have b:∀k,i+1<=k->k<=n->ef oc ac E' s k=vI (oc i).dst (ac i) (ef oc ac E s k):=by
  intro k M9
  induction M9 with
  |refl=>
   intro _
   have h1:E' i=true:=by rw[Dt i];simp
   simp only[ef,h1,ml,if_true,a i (Nat.le_refl _)]
   rfl
  | @step k M9 ih=>
    intro hk
    have M9:i+1<=k:=M9
    have h1:E' k=E k:=by rw[Dt k];have:(k==i)=false:=by simp;omega
                         simp[this]
    simp only[ef,h1,ih (by omega)]
    by_cases iS:E k=true
    ·have PW: ¬pr k i:=fun hm=>by have:=hE k af iS i hm;rw[ml]at this;cases this
     have c:=hc i k af af PW
     simp only[iS,if_true]
     refine JN (fun t ht he=> ?_) (fun id au hm=>(c.wi id hm).2 au)
     exact c.di t he (by simp[eL,ht])
    ·simp only[iS];rfl
 exact b n af (Nat.le_refl _)
end
end
section
structure sO (M:Nat->Prop) (cj:Place) (H0:Hp) (w0:World) (n:Nat) (cx:Cx) (φ:Place) (s:S) (us:Nat->Prop) (a:Act) (w:World):Prop where
 heap:ax M φ ⟨s.o,us⟩ w
 tr:Trans cj H0 w0 φ ⟨s.o,us⟩ w
 size:a.tmps.size=n
 defers:tY cx w0 φ ⟨s.o,us⟩ w a.defers
 env:∀i,V.den (ak M φ ⟨s.o,us⟩) φ ⟨s.o,us⟩ w (s.env i) (a.tmps.getD i undef)
section
variable {P:Program}{M:Nat->Prop}{φ cj:Place}{H0:Hp}{w w' w0:World}{n:Nat}{s:S}{us:Nat->Prop}{a:Act}{cx:Cx}{ro:Option Nat}{k:Nat}
variable {next:Act->World->Prop}{Q:Exit->Act->World->Prop}
theorem jq(hs:sO M cj H0 w0 n cx φ s us a w){aE:Place}{H':Hp}(hH:ax M aE H' w')(ht:Trans φ ⟨s.o,us⟩ w aE H' w'){v:V}{val:Value}(hd:V.den (ak M aE H') aE H' w' v val){dst:Option Tmp}(cF:fY n dst)
 {o':Nat->ab} {us':Nat->Prop} (ho:H'.o=o') (hu:∀id,H'.us id->us' id):sO M cj H0 w0 n cx aE ⟨aY s.env dst v,o',s.nx⟩ us' (a.put dst val) w':=by
 obtain⟨k1,k2⟩:=iZ hH hu
 subst ho
 refine⟨k1,hs.tr.trans (ht.trans k2), ?_, ?_,fun i=> ?_⟩
 ·cases dst<;>simp[Act.put,hs.size]
 ·have:=hs.defers.mono (ht.trans k2);cases dst<;>exact this
 ·cases dst with
  |none=>exact ME
  |some d=>
   simp only[fY]at cF
   simp only[aY,aJ,Act.put]
   by_cases hi:i=d
   ·subst hi
    have h1:(a.tmps.setIfInBounds i val).getD i undef=val:=by simp[Array.getD,hs.size,cF]
    rw[if_pos rfl,h1]
    exact V.aM k2 _ _ hd
   ·have h1:(a.tmps.setIfInBounds d val).getD i undef=a.tmps.getD i undef:=by
     exact SE
    rw[if_neg hi,h1]
    exact ME
theorem wY(hs:sO M cj H0 w0 n cx φ s us a w){o:Oper}{op:Op}(gz:o.op=op){c:Call}{f:Operand}{g:FuncId}{first cap:List V}(hc:op= .call c)(eI:c.callee= .value f)(vL:s.ev f= .func (.func g) first cap):
 ∃vals:Array Value,V.aD (ak M φ ⟨s.o,us⟩) φ ⟨s.o,us⟩ w (first++c.args.toList.map s.ev++cap) vals.toList/\(Enters P g->(execOp a.eval o).run P w= .ok (.enter g vals) w):=by
 have hf:=mz (M:=M) (φ:=φ) (H:=⟨s.o,us⟩) (w:=w) s a hs.env f
 have dD:=j7 (M:=M) (φ:=φ) (H:=⟨s.o,us⟩) (w:=w) s a hs.env c.args.toList
 rw[vL]at hf
 obtain⟨fa,ca,S3,Ew,hca⟩:=hf
 refine⟨fa++c.args.map a.eval++ca, ?_,fun he=> ?_⟩
 ·exact Po
 ·have:=kZ (w:=w) he (fa++c.args.map a.eval++ca)
  generalize kP:fa++c.args.map a.eval++ca=vals at this
  simp[execOp,gz,hc,resolve,eI,S3,Deferred.ofValue,invoke,this,kP]
theorem Iw(hs:sO M cj H0 w0 n cx φ s us a w){fr:Nat}(cN: ¬us fr)(vG:∀id,id<s.nx->us id){o:Oper}{op:Op}(gz:o.op=op)(cF:fY n o.dst){v:V}{Δ:List (Nat×ab)}{rd:List Nat}(h:wW P s fr op v Δ rd)
 (hN:∀aE a' w',sO M cj H0 w0 n cx aE (vI o.dst (.val v Δ rd) s) (fun id=>us id\/id=fr) a' w'->next a' w'):o.wpIn (dC ro) k P a w next Q:=by
 rcases h with⟨⟨s5,h⟩,_⟩|⟨c,f,g,first,cap,hc,eI,vL,h⟩
 ·have h1:=A1 (K:=fun v' EX _=>v'=v/\EX=Δ) h ⟨rfl,rfl⟩
  obtain⟨nx,val,w',aE,v',EX,s5,⟨rfl,rfl⟩,hr,ac7,g1,g2,g3,g4⟩:=wM hs.heap (s:=s) rfl hs.env cN gz h1
  have ye:=jq hs g1 g2 g3 cF (o':=put s.o EX) (us':=fun id=>us id\/id=fr) rfl (fun id hu=>hu.elim .inl (g4 id))
  refine ki (fun c hc=>by rw[gz]at hc;subst hc;exact h1) ?_
  rw[hr]
  rcases ac7 with rfl|⟨rfl,rfl⟩
  ·exact hN _ _ _ ye
  ·exact hN _ _ _ ye
 ·refine ki (fun c' AS=>by rw[gz,hc]at AS;cases AS) ?_
  obtain⟨vals,a7,eO⟩:=wY (P:=P) hs gz hc eI vL
  generalize first++c.args.toList.map s.ev++cap=all at h a7
  rcases h with⟨ds,rs,eK,hP,rfl,_,V9⟩|⟨rs,hH,rfl,nP⟩|⟨ds,eK,hP,_,rfl⟩|⟨hH,nP⟩
  ·obtain⟨f1,f2,f3,f4,f5⟩:=cG hs.heap (V.bf all) (cK all _ a7)
   have gK:(⟨s.o,us⟩:Hp).put (cg s.o (V.bf all))=⟨put s.o (cg s.o (V.bf all)),us⟩:=kY (H:=⟨s.o,us⟩) IJ
   have wD:=c0 f1 all ds _ f3 eK (V.aP f2 _ _ a7)
   have eB:=hP.2 _ w vals (fun b hb=>hb.elim (f1.zO b) fun hl=>(f1.ours b hl).2) wD
   rw[eO hP.1]
   refine⟨fun hd=>by simp[dC]at hd,cS (eB.mono fun e w' ⟨hk,ho⟩=> ?_)⟩
   cases e with
   |panicked ch=>exact vK
   |outgrown=>exact vK
   |returned val=>
    rcases V9 with rfl|⟨qA,rfl⟩
    ·obtain⟨k1,k2⟩:=fL f1 hk
     refine hN _ _ _ (jq hs k1 (f2.trans k2) (mq ho) cF (by rw[gK]) fun id hu=> ?_)
     rw[gK]at hu;exact .inl hu
    ·obtain⟨k1,k2⟩:=fL hs.heap hk
     have ho:=R.yf (out:= .ret rs) (B':=ak M φ ⟨s.o,us⟩) qA ho
     exact OW
  ·have eB:=hH.2 s.o us M φ w vals (fun id au=>⟨rfl,vG id (nP id au)⟩) hs.heap a7
   rw[eO hH.1]
   refine⟨fun hd=>by simp[dC]at hd,cS (eB.mono fun e w' ⟨aE,k1,k2,ho⟩=> ?_)⟩
   cases e with
   |panicked ch=>exact vK
   |outgrown=>exact vK
   |returned val=>exact OW
  ·obtain⟨f1,f2,f3,f4,f5⟩:=cG hs.heap (V.bf all) (cK all _ a7)
   have gK:(⟨s.o,us⟩:Hp).put (cg s.o (V.bf all))=⟨put s.o (cg s.o (V.bf all)),us⟩:=kY (H:=⟨s.o,us⟩) IJ
   have wD:=c0 f1 all ds _ f3 eK (V.aP f2 _ _ a7)
   have eB:=hP.2 _ w vals (fun b hb=>hb.elim (f1.zO b) fun hl=>(f1.ours b hl).2) wD
   rw[eO hP.1]
   refine⟨fun hd=>by simp[dC]at hd,cS (eB.mono fun e w' ⟨hk,val,he,ho⟩=> ?_)⟩
   subst he
   obtain⟨k1,k2⟩:=fL f1 hk
   refine hN _ _ _ (jq hs k1 (f2.trans k2) (ho _ _) cF (by rw[gK]) fun id hu=> ?_)
   rw[gK]at hu;exact .inl hu
  ·have eB:=hH.2 s.o us M φ w vals (fun id au=>⟨rfl,vG id (nP id au)⟩) cN hs.heap a7
   rw[eO hH.1]
   refine⟨fun hd=>by simp[dC]at hd,cS (eB.mono fun e w' ⟨aE,k1,k2,val,he,ho⟩=> ?_)⟩
   subst he
   exact hN _ _ _ (jq hs k1 k2 ho cF rfl fun id hu=>hu)
theorem GS{o o2:Nat->ab}{us us2:Nat->Prop}(hH:ax M φ ⟨o,us⟩ w)(ho:∀id,o2 id=o id\/o2 id= .no)(hu:∀id,us id->us2 id):ax M φ ⟨o2,us2⟩ w/\Trans φ ⟨o,us⟩ w φ ⟨o2,us2⟩ w:=by
 have hl:∀id,(o2 id).live=true->(o id).live=true:=fun id h=>by
  rcases ho id with e|e
  ·rw[<- e];exact h
  ·rw[e]at h;cases h
 have Wc:∀b,cA φ ⟨o2,us2⟩ b->cA φ ⟨o,us⟩ b:=fun b ⟨id,h1,h2⟩=>⟨id,hl id h1,h2⟩
 have ht:Trans φ ⟨o,us⟩ w φ ⟨o2,us2⟩ w:=by
  refine⟨dB.refl _ _,fun b hb=> .inl (Wc b hb),⟨hu,fun id _ hr=> ?_,fun id e' _ he=> ?_⟩⟩
  ·rcases ho id with e|e
   ·exact⟨by show(o id).b8=true;rw[<- e];exact hr,rfl⟩
   ·rw[show(⟨o2,us2⟩:Hp).o id= .no from e]at hr;cases hr
  ·rcases ho id with e|e
   ·exact⟨e',by show(o id).bY=some e';rw[<- e];exact he,Nat.le_refl _,fun _=>rfl⟩
   ·rw[show(⟨o2,us2⟩:Hp).o id= .no from e]at he;cases he
 refine⟨⟨fun id=> ?_,fun id hn=> ?_,fun i j b hi hj=>hH.apart i j b (hl i hi) (hl j hj),fun b hb=>hH.ours b (Wc b hb),hH.zO⟩,ht⟩
 ·rcases ho id with e|e
  ·exact(hH.ok id).mono ht e rfl fun _ _ _=>rfl
  ·unfold aN;rw[show(⟨o2,us2⟩:Hp).o id= .no from e];trivial
 ·rcases ho id with e|e
  ·exact e.trans (hH.fresh id fun h=>hn (hu id h))
  ·exact e
def uh(ds:List Nat)(wl:List Nat)(N:Nat)(s:S):S:=
 ⟨fun t=>if ds.contains t=true then .aa else s.env t,fun id=>if wl.contains id=true then .no else s.o id,s.nx+N⟩
theorem JP(hs:sO M cj H0 w0 n cx φ s us a w)(vG:∀id,id<s.nx->us id){N:Nat}(dW:∀id,us id->id<s.nx+N){o:Oper}{op:Op}(gz:o.op=op){v:V}{ws rd:List Nat}(h:A5 P s op v ws rd)
 {s0:S} {ds wl:List Nat} (eK:∀t,ds.contains t=false->s.env t=s0.env t) (hwl:∀id,wl.contains id=false->s.o id=s0.o id) (Na:∀id∈ws,wl.contains id=true) (iu:s0.nx=s.nx)
 (hQ:∀aE w' val,bX M cj H0 w0 n cx aE (uh ds wl N s0) a w'->V.den (ak M aE (uh ds wl N s0).H) aE (uh ds wl N s0).H w' v val->Q (.panic [{v:=val,recovered:=false}]) a w'):o.wpIn (dC ro) k P a w next Q:=by
 obtain⟨c,f,g,first,cap,hc,eI,vL,h⟩:=h
 refine ki (fun c' AS=>by rw[gz,hc]at AS;cases AS) ?_
 obtain⟨vals,a7,eO⟩:=wY (P:=P) hs gz hc eI vL
 generalize first++c.args.toList.map s.ev++cap=all at h a7
 have fin:∀ (aE:Place) (w':World) (o':Nat->ab) (val:Value),(∀id,wl.contains id=false->o' id=s.o id)->ax M aE ⟨o',us⟩ w'->Trans φ ⟨s.o,us⟩ w aE ⟨o',us⟩ w'->V.den (ak M aE ⟨o',us⟩) aE ⟨o',us⟩ w' v val->Q (.panic [{v:=val,recovered:=false}]) a w':=by
  intro aE w' o' val wm k1 k2 k3
  obtain⟨m1,m2⟩:=GS (o2:=(uh ds wl N s0).o) (us2:=fun id=>id<s0.nx+N) k1 (fun id=>by
   show(if wl.contains id=true then ab.no else s0.o id)=o' id\/_
   by_cases hw:wl.contains id=true
   ·right;simp only[uh];rw[if_pos hw]
   ·left;rw[if_neg hw,wm id (by simpa using hw),hwl id (by simpa using hw)]) (fun id h=>by rw[iu];exact dW id h)
  have ht:=hs.tr.trans (k2.trans m2)
  refine hQ aE w' val ⟨m1,ht,hs.size,hs.defers.mono (k2.trans m2),fun i=> ?_⟩ (V.aM m2 _ _ k3)
  show V.den _ _ _ _ (if ds.contains i=true then V.aa else s0.env i) _
  by_cases hd:ds.contains i=true
  ·rw[if_pos hd];trivial
  ·rw[if_neg hd, <- eK i (by simpa using hd)];exact V.aM (k2.trans m2) _ _ (hs.env i)
 rcases h with⟨dd,x,ac8,hP,qA,rfl,_,rfl⟩|⟨x,Δ,hH,rfl,rfl,nP⟩
 ·obtain⟨f1,f2,f3,f4,f5⟩:=cG hs.heap (V.bf all) (cK all _ a7)
  have wD:=c0 f1 all dd _ f3 ac8 (V.aP f2 _ _ a7)
  have eB:=hP.2 _ w vals (fun b hb=>hb.elim (f1.zO b) fun hl=>(f1.ours b hl).2) wD
  rw[eO hP.1]
  refine⟨fun hd=>by simp[dC]at hd,cS (eB.mono fun e w' ⟨hk,ho⟩=> ?_)⟩
  cases e with
  |returned val=>exact ho.elim
  |outgrown=>exact ho.elim
  |panicked ch=>
   obtain⟨k1,k2⟩:=fL hs.heap hk
   have ho:=R.yf (out:= .bD x) (B':=ak M φ ⟨s.o,us⟩) qA ho
   obtain⟨val,rfl,hd⟩:=ho
   exact fin φ w' s.o val (fun _ _=>rfl) k1 k2 hd
 ·have eB:=hH.2 s.o us M φ w vals (fun id au=>⟨rfl,vG id (nP id au)⟩) hs.heap a7
  rw[eO hH.1]
  refine⟨fun hd=>by simp[dC]at hd,cS (eB.mono fun e w' ⟨aE,k1,k2,ho⟩=> ?_)⟩
  cases e with
  |returned val=>exact ho.elim
  |outgrown=>exact ho.elim
  |panicked ch=>
   obtain⟨val,rfl,hd⟩:=ho
   exact fin aE w' _ val (fun id au=>yx fun y hy e=>by
    have:=Na y.1 (List.mem_map_of_mem hy)
    rw[e,au]at this;cases this) k1 k2 hd
theorem fe(dP:∀i,V.den (ak M φ ⟨s.o,us⟩) φ ⟨s.o,us⟩ w (s.env i) (a.tmps.getD i undef)){ops:Array Oper}{o:Oper}{gd:Option (Nat×Bool)}{b:Bool}
 (hg:match o.guard with|none=>gd=none|some (j,want)=>∃d,rM ops j=some d/\gd=some (d,want)) (h:dH s gd b):Region.wanted o (yielded ops a.tmps)=b:=by
 unfold Region.wanted
 split at hg
 ·rename_i hn;simp only[hn];subst hg;exact h.symm
 ·rename_i j want hn
  simp only[hn]
  obtain⟨d,hd,rfl⟩:=hg
  unfold rM at hd
  unfold yielded
  simp only[hd,Option.bind_some]
  simp only[dH]at h
  have he:=dP d
  split at h
  ·rename_i c hv
   rw[hv]at he
   simp only[V.den,D.den]at he
   have:a.tmps[d]? =some (.bool c):=by
    rw[Array.getD_eq_getD_getElem?]at he
    cases hx:a.tmps[d]? with
    |none=>rw[hx]at he;simp[undef]at he
    |some x=>rw[hx]at he;simp at he;rw[he]
   simp only[this,h]
   cases c<;>cases want<;>rfl
  ·rename_i hv
   rw[hv]at he
   obtain⟨arr,cW,hn⟩:=he
   have:∀c,a.tmps[d]? ≠some (.bool c):=by
    exact PI
   subst h
   cases hx:a.tmps[d]? with
   |none=>rfl
   |some x=>cases x<;>first|(exact absurd hx (this _))|rfl
  ·exact h.elim
theorem ff{s s':S}{gd:Option (Nat×Bool)}{b:Bool}(h:∀d want,gd=some (d,want)->s'.env d=s.env d)(hg:dH s gd b):dH s' gd b:=by
 unfold dH at*
 cases gd with
 |none=>exact hg
 |some p=>obtain⟨d,want⟩:=p;simp only at hg|-;rw[h d want rfl];exact hg
theorem A6{s s':S}{x:Operand}(h:∀t,x= .tmp t->s'.env t=s.env t):s'.ev x=s.ev x:=by
 cases x<;>simp only[S.ev]
 exact h _ rfl
theorem ui{s s':S}{op:Op}{c:Call}{f:Operand}{g:FuncId}{first cap:List V}(hv:∀x∈op.operands,s'.ev x=s.ev x)(hc:op= .call c)(eI:c.callee= .value f)(vL:s.ev f= .func (.func g) first cap):
 s'.ev f= .func (.func g) first cap/\c.args.toList.map s'.ev=c.args.toList.map s.ev:=by
 subst hc
 exact⟨(hv f (by simp only[Op.operands,Call.operands,eI];exact Array.mem_append.2 (.inl aL))).trans vL,
  List.map_congr_left fun x hx=>hv x XU⟩
theorem EV.frame {g:FuncId}{args:List V}{rd:List Nat}{o o':Nat->ab}{out:R}{Δ:List (Nat×ab)}(ho:∀id∈rd,o' id=o id)(h:EV P g args rd o out Δ):EV P g args rd o' out Δ:=
 ⟨h.1,fun o2 us M φ w vals h1 h2 h3=>h.2 o2 us M φ w vals (fun id au=>⟨(h1 id au).1.trans (ho id au),(h1 id au).2⟩) h2 h3⟩
theorem yw.frame {g:FuncId}{args:List V}{rd:List Nat}{o o':Nat->ab}{fr:Nat}{v:V}{Δ:List (Nat×ab)}(ho:∀id∈rd,o' id=o id)(h:yw P g args rd o fr v Δ):yw P g args rd o' fr v Δ:=
 ⟨h.1,fun o2 us M φ w vals h1 h2 h3=>h.2 o2 us M φ w vals (fun id au=>⟨(h1 id au).1.trans (ho id au),(h1 id au).2⟩) h2 h3⟩
theorem Ae{s s':S}{fr:Nat}{op:Op}{v:V}{Δ:List (Nat×ab)}{rd:List Nat}(hv:∀x∈op.operands,s'.ev x=s.ev x)(ho:∀id∈rd,s'.o id=s.o id)(vG:s'.nx=s.nx)(h:wW P s fr op v Δ rd):∃s5,wW P s' fr op v Δ s5:=by
 rcases h with⟨⟨s5,h⟩,nP⟩|⟨c,f,g,first,cap,rfl,eI,vL,h⟩
 ·exact⟨_, .inl ⟨⟨s5,by rw[Dn op hv (by rw[<- nP];exact ho)];exact h⟩,rfl⟩⟩
 ·obtain⟨hf,hm⟩:=ui hv rfl eI vL
  rcases h with⟨ds,rs,eK,hP,sG,nP,V9⟩|⟨rs,hH,sG,nP⟩|⟨ds,eK,hP,nP,V9⟩|⟨hH,nP⟩
  ·have hr:∀id∈V.aG (first++c.args.toList.map s.ev++cap),s'.o id=s.o id:=fun id au=>ho id IF
   refine⟨_, .inr ⟨c,f,g,first,cap,rfl,eI,hf, .inl ⟨ds,rs,by rw[hm,gO _ hr];exact eK,hP,sG,rfl, ?_⟩⟩⟩
   exact PB
  ·exact⟨rd, .inr ⟨c,f,g,first,cap,rfl,eI,hf, .inr (.inl ⟨rs,by rw[hm];exact hH.frame ho,sG,by rw[vG];exact nP⟩)⟩⟩
  ·have hr:∀id∈V.aG (first++c.args.toList.map s.ev++cap),s'.o id=s.o id:=fun id au=>ho id IF
   refine⟨_, .inr ⟨c,f,g,first,cap,rfl,eI,hf, .inr (.inr (.inl ⟨ds,by rw[hm,gO _ hr];exact eK,hP,rfl, ?_⟩))⟩⟩
   exact PB
  ·exact⟨rd, .inr ⟨c,f,g,first,cap,rfl,eI,hf, .inr (.inr (.inr ⟨by rw[hm];exact hH.frame ho,by rw[vG];exact nP⟩))⟩⟩
theorem A7{s s':S}{op:Op}{v:V}{ws rd:List Nat}(hv:∀x∈op.operands,s'.ev x=s.ev x)(ho:∀id∈rd,s'.o id=s.o id)(vG:s'.nx=s.nx)(h:A5 P s op v ws rd):A5 P s' op v ws rd:=by
 obtain⟨c,f,g,first,cap,rfl,eI,vL,h⟩:=h
 obtain⟨hf,hm⟩:=ui hv rfl eI vL
 refine⟨c,f,g,first,cap,rfl,eI,hf, ?_⟩
 rw[hm]
 rcases h with⟨ds,x,eK,hP,qA,sG,nP,Na⟩|⟨x,Δ,hH,sG,Na,nP⟩
 ·have hr:∀id∈V.aG (first++c.args.toList.map s.ev++cap),s'.o id=s.o id:=fun id au=>ho id IF
  exact .inl ⟨ds,x,by rw[gO _ hr];exact eK,hP,qA,sG,by rw[nP];simp only[n6,eI,vL,hf,hm],Na⟩
 ·exact .inr ⟨x,Δ,hH.frame ho,sG,Na,by rw[vG];exact nP⟩
theorem uj{ops:Array Oper}:∀ (l:List Oper) (l':List bI) (i:Nat) (o:Oper),kQ n ops l=some l'->l[i]? =some o->I9 n ops o=some (bN l' i)
 |[],_,_,_,_,h=>by simp at h
 |x::l,l',i,o,h,hi=>by
  simp only[kQ]at h
  split at h
  ·rename_i y ys hy hys
   injection h with h;subst h
   cases i with
   |zero=>simp at hi;subst hi;exact hy
   |succ i=>exact uj l ys i o hys (by simpa using hi)
  ·cases h
theorem wZ{ops:Array Oper}{o:Oper}{x:bI}(h:I9 n ops o=some x):x.op=o.op/\x.dst=o.dst/\fY n o.dst/\
 (match o.guard with|none=>x.gd=none|some (j,want)=>∃d,rM ops j=some d/\x.gd=some (d,want)):=by
 unfold I9 at h
 split at h
 ·rename_i hd
  have cF:fY n o.dst:=by
   unfold CT at hd;unfold fY
   split at hd<;>simp_all
  cases hg:o.guard with
  |none=>simp only[hg]at h;injection h with h;subst h;exact⟨rfl,rfl,cF,rfl⟩
  |some p=>
   obtain⟨j,want⟩:=p
   simp only[hg]at h
   cases Qc:rM ops j with
   |none=>simp[Qc]at h
   |some d=>simp only[Qc]at h;injection h with h;subst h;exact⟨rfl,rfl,cF,d,Qc,rfl⟩
 ·cases h
theorem oO{ops:Array Oper}{ao:Array Bool}(sI:∀k,k<ops.size->∀j∈bw ops k,j<k)(hs:ao.size=ops.size)(hr:Region.ready .any ops ao=[]):∀k,k<ops.size->ao.getD k false=true:=by
 intro k
 induction k using Nat.strongRecOn with
 |_ k ih=>
  intro hk
  cases hl:ao.getD k false with
  |true=>rfl
  |false=>
   have:k∈Region.ready .any ops ao:=by
    refine mem_ready.2 ⟨?_,ops[k],by simp[hk],fun e he hb=> ?_⟩
    ·simp only[Array.getD_eq_getD_getElem?]at hl|-
     rw[Array.getElem?_eq_getElem (by omega)]at hl|-
     simpa using hl
    ·have hm:e.on∈bw ops k:=by
      simp only[bw,Array.getElem?_eq_getElem hk,List.mem_map,List.mem_filter]
      exact⟨e,⟨Array.mem_toList_iff.2 he,hb⟩,rfl⟩
     exact ih _ (sI k hk _ hm) (by have:=sI k hk _ hm;omega)
   rw[hr]at this;cases this
theorem A8(hs:bX M cj H0 w0 n cx φ s a w):bX M cj H0 w0 n cx φ s a {w with drawn:=w.drawn+1}:=by
 obtain⟨k1,k2⟩:=fL (w':={w with drawn:=w.drawn+1}) hs.heap ⟨rfl,rfl,rfl,Nat.le_refl _,fun _ _ _=>rfl⟩
 exact⟨k1,hs.tr.trans k2,hs.size,hs.defers.mono k2,fun i=>V.aM k2 _ _ (hs.env i)⟩
theorem ky{oc:Nat->bI}{ac:Nat->eR}{E:Nat->Bool}:∀k,(ef oc ac E s k).nx=s.nx
 |0=>rfl
 |k+1=>by
  simp only[ef]
  split
  ·cases ac k<;>exact ky k
  ·exact ky k
theorem EY{oc:Nat->bI}{ac:Nat->eR}{E:Nat->Bool}{t:Nat}:∀k,(∀j,j<k->(oc j).dst≠some t)->(ef oc ac E s k).env t=s.env t
 |0,_=>rfl
 |k+1,h=>by
  have ih:=EY (oc:=oc) (ac:=ac) (E:=E) (t:=t) k fun j hj=>h j af
  simp only[ef]
  split
  ·rw[kF fun d hd e=>h k (by omega) (by rw[hd,e])];exact ih
  ·exact ih
theorem Qe{oc:Nat->bI}{ac:Nat->eR}{E:Nat->Bool}{id:Nat}:∀k,(∀j,j<k->id∉kE (ac j))->(ef oc ac E s k).o id=s.o id
 |0,_=>rfl
 |k+1,h=>by
  have ih:=Qe (oc:=oc) (ac:=ac) (E:=E) (id:=id) k fun j hj=>h j af
  simp only[ef]
  split
  ·rw[mU (h k (by omega))];exact ih
  ·exact ih
theorem A9(bc:P.follows .mixedOrders=true){ops:Array Oper}{l:List bI}{id:Nat}(re:kQ n ops ops.toList=some l)(sI:∀k,k<ops.size->∀j∈bw ops k,j<k){ac:Nat->eR}{dl wl:List Nat}
 (hs:bX M cj H0 w0 n cx φ s a w) (S9:∀i,i<ops.size->Qd P (ef (bN l) ac (fun _=>true) s i) (s.nx+i) (bN l i) (ac i))
 (yD:∀i,i<ops.size->ac i= .de->∃j∈bw ops i,(ac j).ok=false)
 {po:Nat->Nat->Prop} (EZ:∀E:Nat->Bool,(∀k,k<ops.size->E k=true->∀j∈bw ops k,E j=true)->∀k,k<ops.size->(∀j∈bw ops k,E j=true)->∀j,po k j->E j=true) (Ba:∀k,k<ops.size->∀j,po k j->j<k)
 (hc:∀i j,i<j->j<ops.size-> ¬po j i->Compat (bN l) ac (fun i=>vX (ac i)) i j)
 (hdl:∀i,i<ops.size->∀t,(bN l i).dst=some t->dl.contains t=true) (hwl:∀i,i<ops.size->∀id∈kE (ac i),wl.contains id=true)
 (Na:∀i v ws rd,i<ops.size->ac i= .bD v ws rd->∀id∈ws,wl.contains id=true)
 (hQ:(∀i,i<ops.size->(ac i).ok=true)->∀φ a w,bX M cj H0 w0 n cx φ ⟨(ef (bN l) ac (fun _=>true) s ops.size).env,(ef (bN l) ac (fun _=>true) s ops.size).o,s.nx+ops.size⟩ a w->Q .normal a w)
 (hX:∀i v ws rd,i<ops.size->ac i= .bD v ws rd->∀φ a w val,bX M cj H0 w0 n cx φ (uh dl wl ops.size s) a w->V.den (ak M φ (uh dl wl ops.size s).H) φ (uh dl wl ops.size s).H w v val->Q (.panic [{v:=val,recovered:=false}]) a w):
 (Code.region id ops true).wpIn (dC ro) k P Q a w:=by
 refine wpIn_region_any bc ?_
 have hs:=A8 hs
 generalize ({w with drawn:=w.drawn+1}:World)=w at hs
 let N:=ops.size
 let Ef (ao:Array Bool) (k:Nat):Bool:=ao.getD k false
 let Eu (ao:Array Bool) (j:Nat):Prop:=j<s.nx\/∃k,k<N/\Ef ao k=true/\j=s.nx+k
 have key:∀ (fuel:Nat) (ao:Array Bool) (φ:Place) (a:Act) (w:World),ao.size=N->ao.count true+fuel=N->(∀k,k<N->Ef ao k=true->∀j∈bw ops k,Ef ao j=true)->(∀k,k<N->Ef ao k=true->(ac k).ok=true)->
  sO M cj H0 w0 n cx φ (ef (bN l) ac (Ef ao) s N) (Eu ao) a w->wpAnyIn (dC ro) k P .any ops Q fuel ao a w:=by
  have fin:∀ (ao:Array Bool) (φ:Place) (a:Act) (w:World),(∀k,k<N->Ef ao k=true)->(∀k,k<N->Ef ao k=true->(ac k).ok=true)->sO M cj H0 w0 n cx φ (ef (bN l) ac (Ef ao) s N) (Eu ao) a w->Q .normal a w:=by
   intro ao φ a w a7 Du hu
   have e:∀k,k<=N->ef (bN l) ac (Ef ao) s k=ef (bN l) ac (fun _=>true) s k:=by
    intro k
    induction k with
    |zero=>intro _;rfl
    |succ k ih=>intro hk;simp only[ef,a7 k (by omega),ih (by omega)]
   rw[e N (Nat.le_refl _)]at hu
   obtain⟨k1,k2⟩:=iZ (us':=fun id=>id<s.nx+N) hu.heap (fun id h=>by
    show id<s.nx+N
    rcases h with h|⟨k,hk,_,rfl⟩<;>omega)
   exact hQ (fun i hi=>Du i hi (a7 i hi)) φ a w ⟨k1,hu.tr.trans k2,hu.size,hu.defers.mono k2,fun i=>V.aM k2 _ _ (hu.env i)⟩
  intro fuel
  induction fuel with
  |zero=>
   intro ao φ a w dA GU kV Du hu
   have a7:∀k,k<N->Ef ao k=true:=by
    intro k hk
    have h1:ao.count true=ao.size:=af
    rw[Array.count_eq_size]at h1
    have:=h1 ao[k] (Array.getElem_mem af)
    simp only[Ef,Array.getD_eq_getD_getElem?]
    rw[Array.getElem?_eq_getElem (by omega)]
    simpa using this.symm
   refine⟨?_,fin ao φ a w a7 Du hu⟩
   rw[List.eq_nil_iff_forall_not_mem]
   intro k hk
   obtain⟨h1,o,h2,_⟩:=mem_ready.1 hk
   have hkN:k<N:=(Array.getElem?_eq_some_iff.1 h2).1
   have:=a7 k hkN
   simp only[Ef,Array.getD_eq_getD_getElem?]at this h1
   rw[Array.getElem?_eq_getElem (by omega)]at this h1
   simp only[Option.getD_some]at this h1
   rw[this]at h1;cases h1
  |succ fuel ih=>
   intro ao φ a w dA GU kV Du hu
   refine⟨fun hr=>fin ao φ a w (oO sI dA hr) Du hu,fun i hi=> ?_⟩
   obtain⟨h1,o,h2,h3⟩:=mem_ready.1 hi
   have sP:i<N:=(Array.getElem?_eq_some_iff.1 h2).1
   have ml:Ef ao i=false:=by
    simp only[Ef,Array.getD_eq_getD_getElem?]at h1|-
    rw[Array.getElem?_eq_getElem (by omega)]at h1|-
    simpa using h1
   have JO:∀j∈bw ops i,Ef ao j=true:=by
    exact Sz
   have JQ:yB N po (Ef ao):=fun k hk iS=>EZ _ kV k hk (kV k hk iS)
   obtain⟨Y6,ag2⟩:=agree (s:=s) Ba hc JQ sP ml (EZ _ kV i sP JO)
   obtain⟨g1,g2,g3,g4⟩:=wZ (uj _ _ i o re tA)
   have cN: ¬Eu ao (s.nx+i):=by
    rintro(h|⟨k,_,hk,he⟩)
    ·omega
    ·have:k=i:=af
     subst this;rw[ml]at hk;cases hk
   have Dt:∀k,Ef (ao.setIfInBounds i true) k=(Ef ao k||k==i):=by
    intro k
    simp only[Ef,Array.getD_eq_getD_getElem?]
    by_cases e:k=i
    ·subst e;simp[dA,sP]
    ·rw[Array.getElem?_setIfInBounds_ne (Ne.symm e)]
     have:(k==i)=false:=by simpa using e
     simp[this]
   have Ta:=insert (s:=s) hc JQ sP ml Dt
   have Tb:∀k,k<N->Ef (ao.setIfInBounds i true) k=true->∀j∈bw ops k,Ef (ao.setIfInBounds i true) j=true:=by
    intro k hk iS j hj
    rw[Dt]at iS|-
    by_cases e:k=i
    ·subst e;simp[JO j hj]
    ·have:(k==i)=false:=by simpa using e
     rw[this,Bool.or_false]at iS
     simp[kV k hk iS j hj]
   have JR:(ao.setIfInBounds i true).count true+fuel=N:=by
    have ck:i<ao.size:=af
    have e1:ao.setIfInBounds i true=ao.set i true ck:=by simp[Array.setIfInBounds,ck]
    have e2:ao[i]=false:=by
     have:=ml
     simp only[Ef,Array.getD_eq_getD_getElem?]at this
     rw[Array.getElem?_eq_getElem ck]at this
     simpa using this
    rw[e1,Array.count_set ck,e2]
    simp
    omega
   have kO:(ac i).ok=true->∀aE a' w',sO M cj H0 w0 n cx aE (vI o.dst (ac i) (ef (bN l) ac (Ef ao) s N)) (fun id=>Eu ao id\/id=s.nx+i) a' w'->wpAnyIn (dC ro) k P .any ops Q fuel (ao.setIfInBounds i true) a' w':=by
    intro Y7 aE a' w' zY
    refine ih _ aE a' w' (by simp[dA]) JR Tb (fun k hk iS=> ?_) ?_
    ·rw[Dt]at iS
     by_cases e:k=i
     ·subst e;exact Y7
     ·have:(k==i)=false:=by simpa using e
      rw[this,Bool.or_false]at iS
      exact Du k hk iS
    rw[Ta,g2]
    obtain⟨k1,k2⟩:=iZ (us':=Eu (ao.setIfInBounds i true)) zY.heap (fun id h=>by
     rcases h with(h|⟨k,hk,iS,rfl⟩)|rfl
     ·exact .inl h
     ·exact .inr ⟨k,hk,by rw[Dt,iS];rfl,rfl⟩
     ·exact .inr ⟨i,sP,by rw[Dt];simp,rfl⟩)
    exact XZ
   have GV:∀d want,(bN l i).gd=some (d,want)->(ef (bN l) ac (Ef ao) s N).env d=(ef (bN l) ac (fun _=>true) s i).env d:=fun d want hd=>Y6 d (by simp[eL,tmpsOf,hd])
   have aW:=S9 i sP
   have I7:∀x∈(bN l i).op.operands,(ef (bN l) ac (Ef ao) s N).ev x=(ef (bN l) ac (fun _=>true) s i).ev x:=fun x hx=>A6 fun t ht=>Y6 t (by
    subst ht
    simp only[eL,tmpsOf,List.mem_append,List.mem_filterMap]
    exact .inl (.inl ⟨.tmp t,Array.mem_toList_iff.2 hx,rfl⟩))
   have SM:(ef (bN l) ac (Ef ao) s N).nx=(ef (bN l) ac (fun _=>true) s i).nx:=(ky N).trans (ky i).symm
   unfold wpOpIn
   simp only[h2]
   cases vB:ac i with
   |skip=>
    rw[vB]at aW kO
    have hw:=fe hu.env g4 (ff GV aW)
    simp only[hw,Bool.false_eq_true,if_false]
    refine⟨fun _ _=>trivial,kO rfl φ _ w ?_⟩
    have:=jq (v:= .bU []) (val:=undef) hu hu.heap (Trans.refl _ _ _) ⟨#[],rfl,rfl⟩ (dst:=o.dst) g3 rfl (us':=fun id=>Eu ao id\/id=s.nx+i) (fun id h=> .inl h)
    exact this
   |val v Δ rd=>
    rw[vB]at aW kO
    have hw:=fe hu.env g4 (ff GV aW.1)
    exact Yw
   |bD v ws rd=>
    rw[vB]at aW
    have hw:=fe hu.env g4 (ff GV aW.1)
    simp only[hw,if_true]
    have iW:=A7 I7 (fun id au=>ag2 id (by rw[vB];exact au)) SM aW.2
    refine JP (s0:=s) (ds:=dl) (wl:=wl) (N:=N) hu (fun id h=> .inl (by rw[ky]at h;exact h)) (fun id h=> ?_) g1.symm iW (fun t ht=> ?_) (fun id au=> ?_) (Na i v ws rd sP vB) (ky N).symm (fun aE w' val h1 h2=>hX i v ws rd sP vB aE a w' val h1 h2)
    ·rw[ky]
     rcases h with h|⟨k,hk,_,rfl⟩<;>omega
    ·refine EY N fun j hj e=> ?_
     have:=hdl j hj t e
     rw[ht]at this;cases this
    ·refine Qe N fun j hj hm=> ?_
     have:=hwl j hj id hm
     rw[au]at this;cases this
   |de=>
    exfalso
    obtain⟨j,hj,Tc⟩:=yD i sP vB
    have:=Du j (Nat.lt_trans (sI i sP j hj) sP) (JO j hj)
    rw[Tc]at this;cases this
 refine key ops.size _ φ a w (by simp[N]) (by simp[N,Array.count_replicate]) (fun k hk iS=> ?_) (fun k hk iS=> ?_) ?_
 ·exact MG
 ·exact MG
 ·have e:∀k,ef (bN l) ac (Ef (Array.replicate ops.size false)) s k=s:=by
   intro k
   induction k with
   |zero=>rfl
   |succ k ih=>
    have:Ef (Array.replicate ops.size false) k=false:=by
     exact Py
    simp only[ef,this,ih]
    rfl
  exact YB
end
end
section
section
variable {P:Program}{M:Nat->Prop}{φ cj:Place}{H0:Hp}{w w' w0:World}{n:Nat}{s:S}{us:Nat->Prop}{a:Act}{cx:Cx}{ro:Option Nat}{k:Nat}
variable {Q:Exit->Act->World->Prop}
theorem GW{ops:Array Oper}{po:Nat->Nat->Prop}{m:Nat}{X:V->S->Prop}{K:S->Prop}
 (sI:∀k,k<ops.size->∀j∈bw ops k,j<k)
 (EZ:∀E:Nat->Bool,(∀k,k<ops.size->E k=true->∀j∈bw ops k,E j=true)->∀k,k<ops.size->(∀j∈bw ops k,E j=true)->∀j,po k j->E j=true)
 (E0:∀k,m<=k->k<ops.size->∀j,j<k->po k j)
 (hK:∀s φ a w,K s->bX M cj H0 w0 n cx φ s a w->Q .normal a w)
 (hX:∀v s' aE a' w' val,X v s'->bX M cj H0 w0 n cx aE s' a' w'->V.den (ak M aE s'.H) aE s'.H w' v val->Q (.panic [{v:=val,recovered:=false}]) a' w'):
 ∀ (d t:Nat) (s:S) (φ:Place) (ao:Array Bool) (a:Act) (w:World),t+d=ops.size->ao.size=ops.size->(∀k,k<ops.size->ao.getD k false=decide (k<t))->m<=t->
   bX M cj H0 w0 n cx φ s a w->yd P n ops X K (ops.toList.drop t) s->wpAnyIn (dC ro) k P .any ops Q d ao a w:=by
 intro d
 induction d with
 |zero=>
  intro t s φ ao a w ht dA hl H8 hs h
  have e:t=ops.size:=af
  subst e
  refine⟨?_, ?_⟩
  ·rw[List.eq_nil_iff_forall_not_mem]
   intro j hj
   obtain⟨h1,o,h2,_⟩:=mem_ready.1 hj
   have hjN:j<ops.size:=(Array.getElem?_eq_some_iff.1 h2).1
   have:=hl j hjN
   simp only[Array.getD_eq_getD_getElem?]at this h1
   rw[Array.getElem?_eq_getElem (by omega)]at this h1
   simp only[Option.getD_some]at this h1
   rw[h1]at this
   simp[hjN]at this
  ·rw[List.drop_eq_nil_of_le (by simp)]at h
   exact hK s φ a w h hs
 |succ d ih=>
  intro t s φ ao a w ht dA hl H8 hs h
  have htN:t<ops.size:=af
  refine⟨fun hr=> ?_,fun i hi=> ?_⟩
  ·have:=oO sI dA hr t htN
   rw[hl t htN]at this
   simp at this
  ·obtain⟨h1,o,h2,h3⟩:=mem_ready.1 hi
   have sP:i<ops.size:=(Array.getElem?_eq_some_iff.1 h2).1
   have ml:ao.getD i false=false:=by
    simp only[Array.getD_eq_getD_getElem?]at h1|-
    rw[Array.getElem?_eq_getElem (by omega)]at h1|-
    simpa using h1
   have hit:t<=i:=by
    have:=hl i sP
    rw[ml]at this
    have:=of_decide_eq_false this.symm
    omega
   have JO:∀j∈bw ops i,ao.getD j false=true:=by
    exact Sz
   have kV:∀k,k<ops.size->ao.getD k false=true->∀j∈bw ops k,ao.getD j false=true:=by
    intro k hk iS j hj
    have YG:=sI k hk j hj
    rw[hl k hk]at iS
    rw[hl j (by omega)]
    have:=of_decide_eq_true iS
    exact decide_eq_true af
   have Js:i=t:=by
    rcases Nat.eq_or_lt_of_le hit with e|e
    ·exact e.symm
    ·have:=EZ (fun k=>ao.getD k false) kV i sP JO t (E0 i af sP t e)
     rw[hl t htN]at this
     simp at this
   subst Js
   have Bb:ops.toList.drop i=o::ops.toList.drop (i+1):=by
    have SY:i<ops.toList.length:=by simpa using sP
    rw[List.drop_eq_getElem_cons SY]
    have:ops.toList[i]=o:=by
     have:=(Array.getElem?_eq_some_iff.1 h2).2
     simpa using this
    rw[this]
   rw[Bb]at h
   obtain⟨g1,g2⟩:=pF hs h
   have M3:∀k,k<ops.size->(ao.setIfInBounds i true).getD k false=decide (k<i+1):=by
    intro k hk
    simp only[Array.getD_eq_getD_getElem?]
    by_cases e:k=i
    ·subst e;simp[dA,sP]
    ·rw[Array.getElem?_setIfInBounds_ne (Ne.symm e)]
     have:=hl k hk
     simp only[Array.getD_eq_getD_getElem?]at this
     rw[this]
     exact decide_eq_decide.2 af
   have kO:∀s' aE a' w',yd P n ops X K (ops.toList.drop (i+1)) s'->bX M cj H0 w0 n cx aE s' a' w'->wpAnyIn (dC ro) k P .any ops Q d (ao.setIfInBounds i true) a' w':=
    fun s' aE a' w' hk jU=>ih (i+1) s' aE _ a' w' af (by simp[dA]) M3 af jU hk
   unfold wpOpIn
   simp only[h2]
   split
   ·rename_i hw
    exact wO hs (g1 hw) (fun s' aE a' w' hk jU=>kO s' aE a' w' hk jU) (fun v s' aE w' val hx jU hd=>hX v s' aE a w' val hx jU hd)
   ·rename_i hw
    obtain⟨cF,h3⟩:=g2 (by simpa using hw)
    exact⟨fun _ _=>trivial,kO _ _ _ _ h3 (AU hs cF)⟩
theorem Dv(bc:P.follows .mixedOrders=true){ops:Array Oper}{l:List bI}{id:Nat}(re:kQ n ops ops.toList=some l)(sI:∀k,k<ops.size->∀j∈bw ops k,j<k){ac:Nat->eR}{m:Nat}(hm:m<=ops.size){X:V->S->Prop}{K:S->Prop}
 (hs:bX M cj H0 w0 n cx φ s a w) (S9:∀i,i<m->Qd P (ef (bN l) ac (fun _=>true) s i) (s.nx+i) (bN l i) (ac i))
 (Y8:∀i,i<m->(ac i).ok=true)
 {po:Nat->Nat->Prop} (EZ:∀E:Nat->Bool,(∀k,k<ops.size->E k=true->∀j∈bw ops k,E j=true)->∀k,k<ops.size->(∀j∈bw ops k,E j=true)->∀j,po k j->E j=true) (Ba:∀k,k<ops.size->∀j,po k j->j<k)
 (hc:∀i j,i<j->j<m-> ¬po j i->Compat (bN l) ac (fun i=>vX (ac i)) i j)
 (E0:∀k,m<=k->k<ops.size->∀j,j<k->po k j)
 (cz:yd P n ops X K (ops.toList.drop m) ⟨(ef (bN l) ac (fun _=>true) s m).env,(ef (bN l) ac (fun _=>true) s m).o,s.nx+m⟩)
 (hK:∀s φ a w,K s->bX M cj H0 w0 n cx φ s a w->Q .normal a w)
 (hX:∀v s' aE a' w' val,X v s'->bX M cj H0 w0 n cx aE s' a' w'->V.den (ak M aE s'.H) aE s'.H w' v val->Q (.panic [{v:=val,recovered:=false}]) a' w'):
 (Code.region id ops true).wpIn (dC ro) k P Q a w:=by
 refine wpIn_region_any bc ?_
 have hs:=A8 hs
 generalize ({w with drawn:=w.drawn+1}:World)=w at hs
 let N:=m
 let Ef (ao:Array Bool) (k:Nat):Bool:=ao.getD k false
 let Eu (ao:Array Bool) (j:Nat):Prop:=j<s.nx\/∃k,k<N/\Ef ao k=true/\j=s.nx+k
 have key:∀ (fuel:Nat) (ao:Array Bool) (φ:Place) (a:Act) (w:World),ao.size=ops.size->ao.count true+fuel=ops.size->(∀k,k<ops.size->Ef ao k=true->∀j∈bw ops k,Ef ao j=true)->(∀k,k<ops.size->Ef ao k=true->k<m)->
  sO M cj H0 w0 n cx φ (ef (bN l) ac (Ef ao) s N) (Eu ao) a w->wpAnyIn (dC ro) k P .any ops Q fuel ao a w:=by
  have fin:∀ (fuel:Nat) (ao:Array Bool) (φ:Place) (a:Act) (w:World),ao.size=ops.size->ao.count true+fuel=ops.size->(∀k,k<ops.size->Ef ao k=true->k<m)->(∀k,k<N->Ef ao k=true)->sO M cj H0 w0 n cx φ (ef (bN l) ac (Ef ao) s N) (Eu ao) a w->wpAnyIn (dC ro) k P .any ops Q fuel ao a w:=by
   intro fuel ao φ a w dA GU ck a7 hu
   have e:∀k,k<=N->ef (bN l) ac (Ef ao) s k=ef (bN l) ac (fun _=>true) s k:=by
    intro k
    induction k with
    |zero=>intro _;rfl
    |succ k ih=>intro hk;simp only[ef,a7 k (by omega),ih (by omega)]
   rw[e N (Nat.le_refl _)]at hu
   obtain⟨k1,k2⟩:=iZ (us':=fun id=>id<s.nx+N) hu.heap (fun id h=>by
    show id<s.nx+N
    rcases h with h|⟨k,hk,_,rfl⟩<;>omega)
   have hlv:∀k,k<ops.size->ao.getD k false=decide (k<m):=by
    intro k hk
    by_cases h:k<m
    ·rw[decide_eq_true h];exact a7 k h
    ·rw[decide_eq_false h]
     cases hb:ao.getD k false with
     |false=>rfl
     |true=>exact absurd (ck k hk hb) h
   have hcm:ao.count true=m:=by
    have e1:ao=Array.ofFn (n:=ops.size) fun k=>decide (k.1<m):=by
     apply Array.ext
     ·simp[dA]
     ·intro k h1 h2
      have:=hlv k af
      simp only[Array.getD_eq_getD_getElem?]at this
      rw[Array.getElem?_eq_getElem h1]at this
      simpa using this
    have e2:ao.toList=List.replicate m true++List.replicate (ops.size - m) false:=by
     apply List.ext_getElem?
     intro k
     by_cases hk:k<ops.size
     ·have h1:ao.toList[k]? =some (decide (k<m)):=by
       have:=hlv k hk
       simp only[Array.getD_eq_getD_getElem?]at this
       rw[Array.getElem?_eq_getElem (by omega)]at this
       simp only[Option.getD_some]at this
       rw[Array.getElem?_toList,Array.getElem?_eq_getElem (by omega),this]
      rw[h1]
      by_cases h:k<m
      ·rw[List.getElem?_append_left (by simpa using h)]
       simp[h]
      ·rw[List.getElem?_append_right (by simpa using(by omega:m<=k))]
       rw[List.length_replicate,List.getElem?_replicate,if_pos (by omega),decide_eq_false h]
     ·rw[List.getElem?_eq_none (by simp[dA];omega),List.getElem?_eq_none (by simp;omega)]
    rw[<- Array.count_toList,e2,List.count_append,List.count_replicate_self,List.count_replicate]
    simp
   exact GW sI EZ E0 hK hX fuel m ⟨(ef (bN l) ac (fun _=>true) s m).env,(ef (bN l) ac (fun _=>true) s m).o,s.nx+m⟩ φ ao a w af dA hlv (Nat.le_refl _) ⟨k1,hu.tr.trans k2,hu.size,hu.defers.mono k2,fun i=>V.aM k2 _ _ (hu.env i)⟩ cz
  intro fuel
  induction fuel with
  |zero=>
   intro ao φ a w dA GU kV ck hu
   have a7:∀k,k<ops.size->Ef ao k=true:=by
    intro k hk
    have h1:ao.count true=ao.size:=af
    rw[Array.count_eq_size]at h1
    have:=h1 ao[k] (Array.getElem_mem af)
    simp only[Ef,Array.getD_eq_getD_getElem?]
    rw[Array.getElem?_eq_getElem (by omega)]
    simpa using this.symm
   exact fin 0 ao φ a w dA GU ck (fun k hk=>a7 k af) hu
  |succ fuel ih=>
   intro ao φ a w dA GU kV ck hu
   by_cases Qf:∀k,k<m->Ef ao k=true
   ·exact fin (fuel+1) ao φ a w dA GU ck Qf hu
   have hex:∃j,j<m/\Ef ao j=false:=by
    apply Classical.byContradiction
    intro iX
    refine Qf fun k hk=> ?_
    cases hb:Ef ao k with
    |true=>rfl
    |false=>exact absurd ⟨k,hk,hb⟩ iX
   obtain⟨j0,hj0,Y9⟩:=hex
   refine⟨fun hr=> ?_,fun i hi=> ?_⟩
   ·have:=oO sI dA hr j0 af
    rw[show ao.getD j0 false=false from Y9]at this
    cases this
   obtain⟨h1,o,h2,h3⟩:=mem_ready.1 hi
   have hiS:i<ops.size:=(Array.getElem?_eq_some_iff.1 h2).1
   have ml:Ef ao i=false:=by
    simp only[Ef,Array.getD_eq_getD_getElem?]at h1|-
    rw[Array.getElem?_eq_getElem (by omega)]at h1|-
    simpa using h1
   have JO:∀j∈bw ops i,Ef ao j=true:=by
    exact Sz
   have sP:i<N:=by
    apply Classical.byContradiction
    intro zQ
    have zQ:m<=i:=Nat.le_of_not_lt zQ
    have:=EZ _ kV i hiS JO j0 (E0 i zQ hiS j0 af)
    rw[Y9]at this;cases this
   have JQ:yB N po (Ef ao):=fun k hk iS=>EZ _ kV k af (kV k af iS)
   obtain⟨Y6,ag2⟩:=agree (s:=s) (n:=N) (fun k hk=>Ba k af) hc JQ sP ml (EZ _ kV i af JO)
   obtain⟨g1,g2,g3,g4⟩:=wZ (uj _ _ i o re tA)
   have cN: ¬Eu ao (s.nx+i):=by
    rintro(h|⟨k,_,hk,he⟩)
    ·omega
    ·have:k=i:=af
     subst this;rw[ml]at hk;cases hk
   have Dt:∀k,Ef (ao.setIfInBounds i true) k=(Ef ao k||k==i):=by
    intro k
    simp only[Ef,Array.getD_eq_getD_getElem?]
    by_cases e:k=i
    ·subst e;simp[dA,hiS]
    ·rw[Array.getElem?_setIfInBounds_ne (Ne.symm e)]
     have:(k==i)=false:=by simpa using e
     simp[this]
   have Ta:=insert (s:=s) hc JQ sP ml Dt
   have Tb:∀k,k<ops.size->Ef (ao.setIfInBounds i true) k=true->∀j∈bw ops k,Ef (ao.setIfInBounds i true) j=true:=by
    intro k hk iS j hj
    rw[Dt]at iS|-
    by_cases e:k=i
    ·subst e;simp[JO j hj]
    ·have:(k==i)=false:=by simpa using e
     rw[this,Bool.or_false]at iS
     simp[kV k hk iS j hj]
   have JR:(ao.setIfInBounds i true).count true+fuel=ops.size:=by
    have ck:i<ao.size:=af
    have e1:ao.setIfInBounds i true=ao.set i true ck:=by simp[Array.setIfInBounds,ck]
    have e2:ao[i]=false:=by
     have:=ml
     simp only[Ef,Array.getD_eq_getD_getElem?]at this
     rw[Array.getElem?_eq_getElem ck]at this
     simpa using this
    rw[e1,Array.count_set ck,e2]
    simp
    omega
   have kO:(ac i).ok=true->∀aE a' w',sO M cj H0 w0 n cx aE (vI o.dst (ac i) (ef (bN l) ac (Ef ao) s N)) (fun id=>Eu ao id\/id=s.nx+i) a' w'->wpAnyIn (dC ro) k P .any ops Q fuel (ao.setIfInBounds i true) a' w':=by
    intro Y7 aE a' w' zY
    refine ih _ aE a' w' (by simp[dA]) JR Tb (fun k hk iS=> ?_) ?_
    ·rw[Dt]at iS
     by_cases e:k=i
     ·subst e;exact sP
     ·have:(k==i)=false:=by simpa using e
      rw[this,Bool.or_false]at iS
      exact ck k hk iS
    rw[Ta,g2]
    obtain⟨k1,k2⟩:=iZ (us':=Eu (ao.setIfInBounds i true)) zY.heap (fun id h=>by
     rcases h with(h|⟨k,hk,iS,rfl⟩)|rfl
     ·exact .inl h
     ·exact .inr ⟨k,hk,by rw[Dt,iS];rfl,rfl⟩
     ·exact .inr ⟨i,sP,by rw[Dt];simp,rfl⟩)
    exact XZ
   have GV:∀d want,(bN l i).gd=some (d,want)->(ef (bN l) ac (Ef ao) s N).env d=(ef (bN l) ac (fun _=>true) s i).env d:=fun d want hd=>Y6 d (by simp[eL,tmpsOf,hd])
   have aW:=S9 i sP
   have I7:∀x∈(bN l i).op.operands,(ef (bN l) ac (Ef ao) s N).ev x=(ef (bN l) ac (fun _=>true) s i).ev x:=fun x hx=>A6 fun t ht=>Y6 t (by
    subst ht
    simp only[eL,tmpsOf,List.mem_append,List.mem_filterMap]
    exact .inl (.inl ⟨.tmp t,Array.mem_toList_iff.2 hx,rfl⟩))
   have SM:(ef (bN l) ac (Ef ao) s N).nx=(ef (bN l) ac (fun _=>true) s i).nx:=(ky N).trans (ky i).symm
   unfold wpOpIn
   simp only[h2]
   cases vB:ac i with
   |skip=>
    rw[vB]at aW kO
    have hw:=fe hu.env g4 (ff GV aW)
    simp only[hw,Bool.false_eq_true,if_false]
    refine⟨fun _ _=>trivial,kO rfl φ _ w ?_⟩
    have:=jq (v:= .bU []) (val:=undef) hu hu.heap (Trans.refl _ _ _) ⟨#[],rfl,rfl⟩ (dst:=o.dst) g3 rfl (us':=fun id=>Eu ao id\/id=s.nx+i) (fun id h=> .inl h)
    exact this
   |val v Δ rd=>
    rw[vB]at aW kO
    have hw:=fe hu.env g4 (ff GV aW.1)
    exact Yw
   |bD v ws rd=>
    have:=Y8 i sP
    rw[vB]at this;cases this
   |de=>
    have:=Y8 i sP
    rw[vB]at this;cases this
 refine key ops.size _ φ a w aL (by simp[Array.count_replicate]) (fun k hk iS=> ?_) (fun k hk iS=> ?_) ?_
 ·exact MG
 ·exact MG
 ·have e:∀k,ef (bN l) ac (Ef (Array.replicate ops.size false)) s k=s:=by
   intro k
   induction k with
   |zero=>rfl
   |succ k ih=>
    have:Ef (Array.replicate ops.size false) k=false:=by
     exact Py
    simp only[ef,this,ih]
    rfl
  exact YB
end
end
end Go.Proofs.YtnkamdiiakdkgaaGreat
