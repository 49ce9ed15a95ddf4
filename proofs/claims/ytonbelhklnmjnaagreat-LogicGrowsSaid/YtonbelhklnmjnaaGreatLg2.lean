/-
  A PART OF THE PROOF. Conditions: none.
-/
import Derived.Great.BuildSlice
import Derived.Great.FillDense
import Derived.Test.YtonbelhklnmjnaaGreatLg1
set_option linter.unusedSimpArgs false
set_option linter.unusedVariables false
namespace Go.Proofs.YtonbelhklnmjnaaGreat
section
variable {B:Nat->Prop}{φ:Place}{H:Hp}{w:World}
theorem V.aH:∀ (cs:List V) (vs:List Value),V.aM B φ H w cs vs->vs.length=cs.length
 |[],_,h=>by simp[V.aM]at h;simp[h]
 |c::cs,_,h=>by obtain⟨u,us,rfl,_,h2⟩:=h;simp[V.aH cs us h2]
theorem V.dP:∀ (cs:List V) (vs:List Value) (i:Nat) (c:V),V.aM B φ H w cs vs->cs[i]? =some c->∃v,vs[i]? =some v/\V.den B φ H w c v
 |[],_,_,_,_,hd=>by simp at hd
 |c::cs,_,0,x,h,hd=>by
  obtain⟨u,us,rfl,h1,_⟩:=h
  simp at hd;subst hd;exact⟨u,aj,h1⟩
 |c::cs,_,i+1,x,h,hd=>by
  obtain⟨u,us,rfl,_,h2⟩:=h
  simpa using V.dP cs us i x h2 (by simpa using hd)
theorem V.bI:∀ (cs ds:List V) (us vs:List Value),V.aM B φ H w cs us->V.aM B φ H w ds vs->V.aM B φ H w (cs++ds) (us++vs)
 |[],ds,us,vs,h,k=>by simp[V.aM]at h;subst h;simpa using k
 |c::cs,ds,_,vs,h,k=>by
  obtain⟨u,us,rfl,h1,h2⟩:=h
  exact⟨u,us++vs,aj,h1,V.bI cs ds us vs h2 k⟩
theorem V.dQ:∀ (n:Nat) (cs:List V) (vs:List Value),V.aM B φ H w cs vs->V.aM B φ H w (cs.take n) (vs.take n)
 |0,_,_,_=>by simp[V.aM]
 |n+1,[],_,h=>by simp[V.aM]at h;subst h;simp[V.aM]
 |n+1,c::cs,_,h=>by
  obtain⟨u,us,rfl,h1,h2⟩:=h
  exact⟨u,us.take n,aj,h1,V.dQ n cs us h2⟩
theorem V.eL:∀ (n:Nat) (cs:List V) (vs:List Value),V.aM B φ H w cs vs->V.aM B φ H w (cs.drop n) (vs.drop n)
 |0,_,_,h=>by simpa using h
 |n+1,[],_,h=>by simp[V.aM]at h;subst h;simp[V.aM]
 |n+1,c::cs,_,h=>by
  obtain⟨u,us,rfl,h1,h2⟩:=h
  simpa using V.eL n cs us h2
theorem V.cA:∀ (ds:List D) (vs:List Value),V.aM B φ H w (ds.map .d) vs↔D.aM B w ds vs
 |[],vs=>by simp[V.aM,D.aM]
 |x::ds,vs=>by simp only[List.map_cons,V.aM,D.aM,V.den,V.cA ds]
theorem D.bI:∀ (cs ds:List D) (us vs:List Value),D.aM B w cs us->D.aM B w ds vs->D.aM B w (cs++ds) (us++vs)
 |[],ds,us,vs,h,k=>by simp[D.aM]at h;subst h;simpa using k
 |c::cs,ds,_,vs,h,k=>by
  obtain⟨u,us,rfl,h1,h2⟩:=h
  exact⟨u,us++vs,aj,h1,D.bI cs ds us vs h2 k⟩
theorem D.dQ:∀ (n:Nat) (cs:List D) (vs:List Value),D.aM B w cs vs->D.aM B w (cs.take n) (vs.take n)
 |0,_,_,_=>by simp[D.aM]
 |n+1,[],_,h=>by simp[D.aM]at h;subst h;simp[D.aM]
 |n+1,c::cs,_,h=>by
  obtain⟨u,us,rfl,h1,h2⟩:=h
  exact⟨u,us.take n,aj,h1,D.dQ n cs us h2⟩
theorem D.eL:∀ (n:Nat) (cs:List D) (vs:List Value),D.aM B w cs vs->D.aM B w (cs.drop n) (vs.drop n)
 |0,_,_,h=>by simpa using h
 |n+1,[],_,h=>by simp[D.aM]at h;subst h;simp[D.aM]
 |n+1,c::cs,_,h=>by
  obtain⟨u,us,rfl,h1,h2⟩:=h
  simpa using D.eL n cs us h2
theorem D.A3:∀ (i:Nat) (ds:List D) (vs:List Value) (x:D) (v:Value),D.aM B w ds vs->D.den B w x v->D.aM B w (ds.set i x) (vs.set i v)
 |_,[],_,_,_,h,_=>by simp[D.aM]at h;subst h;simp[D.aM]
 |0,c::cs,_,x,v,h,k=>by
  obtain⟨u,us,rfl,h1,h2⟩:=h
  exact⟨v,us,aj,k,h2⟩
 |i+1,c::cs,_,x,v,h,k=>by
  obtain⟨u,us,rfl,h1,h2⟩:=h
  exact⟨u,us.set i v,aj,h1,D.A3 i cs us x v h2 k⟩
theorem w9:∀ (cs:List V) (ds:List D),Dp cs=some ds->cs=ds.map .d
 |[],ds,h=>by simp[Dp]at h;subst h;rfl
 | .d x::cs,ds,h=>by
   simp only[Dp,Option.map_eq_some_iff]at h
   obtain⟨a,h1,rfl⟩:=h
   simp[w9 cs a h1]
 | .bW::_,_,h| .agg _::_,_,h| .ck _::_,_,h| .ptr _ _::_,_,h| .osl _ _::_,_,h| .pe _ _ _ _ _::_,_,h| .pp _ _::_,_,h
 | .func _ _ _::_,_,h| .iface _ _::_,_,h| .aa::_,_,h| .qT _::_,_,h| .wY _ _ _::_,_,h| .mp _::_,_,h| .eZ::_,_,h=>by simp[Dp]at h
theorem lB(cs:List V)(a:Array Value)(h:V.aM B φ H w cs a.toList)(hf:Flat a.toList):V.den B φ H w (my cs) (.agg a):=by
 unfold my
 split
 ·rename_i ds hd
  have:=w9 cs ds hd
  subst this
  exact⟨a,rfl,(V.cA ds _).1 h,hf⟩
 ·exact⟨a,rfl,h,hf⟩
theorem D.nR:∀ (x:D) (v:Value),D.den B w x v->(∃cs a,x= .agg cs/\v= .agg a)\/v.oneCell'=true/\x.cells=[x]/\v.cells=#[v]
 | .int _ _,_,h| .bool _,_,h| .fq,_,h| .mH,_,h| .bT,_,h| .ji,_,h=>by
   simp only[D.den]at h;subst h;exact .inr ⟨rfl,rfl,rfl⟩
 | .str l,_,h=>by obtain⟨s,rfl,_⟩:=h;exact .inr ⟨rfl,rfl,rfl⟩
 | .agg cs,_,h=>by obtain⟨a,rfl,_,_⟩:=h;exact .inl ⟨cs,a,rfl,rfl⟩
 | .sl es,_,h=>by obtain⟨b,l,c,rfl,_⟩:=h;exact .inr ⟨rfl,rfl,rfl⟩
 | .iface t x,_,h=>by obtain⟨u,rfl,_⟩:=h;exact .inr ⟨rfl,rfl,rfl⟩
 | .mp ks vs,_,h=>by obtain⟨m,es,c,p,rfl,_⟩:=h;exact .inr ⟨rfl,rfl,rfl⟩
theorem D.ft (x:D)(v:Value)(h:D.den B w x v):D.aM B w x.cells v.cells.toList/\Flat v.cells.toList:=by
 rcases D.nR x v h with⟨cs,a,rfl,rfl⟩|⟨h1,h2,h3⟩
 ·obtain⟨a',h1,h2,h3⟩:=h
  injection h1 with h1;subst h1
  exact⟨h2,h3⟩
 ·rw[h2,h3]
  exact⟨⟨v,[],rfl,h,rfl⟩,by intro u hu;simp at hu;subst hu;exact h1⟩
theorem V.nR (x:V)(v:Value)(us:List V)(hx:x.cells=some us)(h:V.den B φ H w x v):V.aM B φ H w us v.cells.toList/\Flat v.cells.toList:=by
 have one:∀ (y:V),v.oneCell'=true->V.den B φ H w y v->V.aM B φ H w [y] v.cells.toList/\Flat v.cells.toList:=by
  intro y h1 h2
  have h3:v.cells=#[v]:=by cases v<;>simp_all[Value.oneCell',Value.cells]
  rw[h3]
  exact⟨⟨v,[],rfl,h2,rfl⟩,by intro u hu;simp at hu;subst hu;exact h1⟩
 cases x with
 |d x=>
  simp only[V.cells,Option.some.injEq]at hx;subst hx
  have:=D.ft x v h
  exact⟨(V.cA _ _).2 this.1,this.2⟩
 |bW=>simp only[V.cells,Option.some.injEq]at hx;subst hx;exact one _ (by cases h;rfl) h
 |agg cs=>
  simp only[V.cells,Option.some.injEq]at hx;subst hx
  obtain⟨a,rfl,h1,h2⟩:=h
  exact⟨h1,h2⟩
 |ck vs=>simp[V.cells]at hx
 |aa=>simp[V.cells]at hx
 |ptr id off=>simp only[V.cells,Option.some.injEq]at hx;subst hx;exact one _ h.1 h
 |osl id ep=>simp only[V.cells,Option.some.injEq]at hx;subst hx;exact one _ h.1 h
 |pe id ep i sz off=>simp only[V.cells,Option.some.injEq]at hx;subst hx;exact one _ h.1 h
 |pp cs off=>simp only[V.cells,Option.some.injEq]at hx;subst hx;exact one _ (by obtain⟨a,ev,_,rfl,_⟩:=h;rfl) h
 |func fn f c=>simp only[V.cells,Option.some.injEq]at hx;subst hx;exact one _ (by obtain⟨a,ev,rfl,_⟩:=h;rfl) h
 |iface t y=>simp only[V.cells,Option.some.injEq]at hx;subst hx;exact one _ (by obtain⟨a,rfl,_⟩:=h;rfl) h
 |qT es=>simp only[V.cells,Option.some.injEq]at hx;subst hx;exact one _ (by obtain⟨_,b,n,rfl⟩:=h;rfl) h
 |wY id off n=>simp only[V.cells,Option.some.injEq]at hx;subst hx;exact one _ h.1 h
 |mp id=>simp only[V.cells,Option.some.injEq]at hx;subst hx;exact one _ h.1 h
 |jO id=>simp only[V.cells,Option.some.injEq]at hx;subst hx;exact one _ h.1 h
 |eZ=>simp only[V.cells,Option.some.injEq]at hx;subst hx;exact one _ (by obtain⟨a,rfl⟩:=h;rfl) h
theorem lY(v:Value)(h:v.oneCell'=true):V.den B φ H w (V.dD v) v:=by
 cases v<;>simp_all only[Value.oneCell',V.dD,V.den,D.den]<;>try trivial
 all_goals (try (split<;>simp_all[V.den,D.den]))
 all_goals (try first|(simp_all[D.den];done)|simp_all)
theorem dR:∀ (vs:List Value),Flat vs->V.aM B φ H w (vs.map V.dD) vs
 |[],_=>rfl
 |v::vs,h=>⟨v,vs,rfl,lY v (h v aj),dR vs fun u hu=>h u (by simp[hu])⟩
end
end Go.Proofs.YtonbelhklnmjnaaGreat
namespace Go.Proofs.YtonbelhklnmjnaaGreat
theorem nS(H:Hp):H.put []=H:=by
 obtain⟨o,us⟩:=H
 simp[Hp.put,put]
theorem eo(H:Hp)(A C:List (Nat×ab)):H.put (A++C)=(H.put A).put C:=by
 obtain⟨o,us⟩:=H
 simp only[Hp.put,put,List.foldl_append,Hp.mk.injEq,true_and]
 funext id
 simp only[List.map_append,List.mem_append,eq_iff_iff]
 exact⟨fun h=>by rcases h with h|h|h<;>simp[h],fun h=>by rcases h with(h|h)|h<;>simp[h]⟩
@[simp] theorem bO (H:Hp) (i:Nat) (x:ab):(H.put [(i,x)]).o=aL H.o i x:=rfl
@[simp] theorem et (H:Hp) (i j:Nat) (x:ab):(H.put [(i,x)]).us j↔(H.us j\/j=i):=by simp[Hp.put]
section
variable {M:Nat->Prop}{φ aO:Place}{H H':Hp}{w w':World}
theorem ba.A4 (yW:∀b,dt w b-> ¬ax M φ H b->w'.heap[b]? =w.heap[b]? /\ ¬ax M aO H' b)(hrl:ej φ H aO H'){id:Nat}(ho:H'.o id=H.o id)(eW:aO id=φ id)
 (hb:(H.o id).live=true->∀b,eK (φ id)=some b->w'.heap[b]? =w.heap[b]?) (h:ba M φ H w id):ba M aO H' w' id:=by
 unfold ba at*
 rw[ho]
 cases hx:H.o id with
 |no=>trivial
 |row cs=>
  simp only[hx]at h|-
  obtain⟨b,dO,ty,h1,h2,h3,h4⟩:=h
  exact⟨b,dO,ty,eW.trans h1,(hb AR b Gz).trans h2,V.gA yW hrl cs _ h3,h4⟩
 |arr ep ty sz es=>
  simp only[hx]at h|-
  obtain⟨h0,xs,h1,evs,h2,h3,h4⟩:=h
  refine⟨h0,xs, ?_,evs,h2,h3,D.a8 yW es evs h4⟩
  rw[eW]
  obtain⟨g1,g2⟩:=h1
  refine⟨g1, ?_⟩
  rcases g2 with g2|⟨g,cap,cur,k1,k2,k3,k4⟩
  ·exact .inl g2
  ·exact .inr ⟨g,cap,cur,k1,k2,(hb AR g (by rw[k1];rfl)).trans k3,k4⟩
 |su ep es=>
  simp only[hx]at h|-
  rw[eW]
  exact D.aS yW (.sl es) _ h
 |map kt vt l=>
  simp only[hx]at h|-
  obtain⟨b,es,clock,h1,h2,h4,h3⟩:=h
  exact⟨b,es,clock,eW.trans h1,(hb AR b Gz).trans h2,h4,aW.mono yW l _ h3⟩
 |iJ l=>
  simp only[hx]at h|-
  rw[eW]
  exact D.aS yW (.mp _ _) _ h
 |mP l last=>
  simp only[hx]at h|-
  obtain⟨b,h1,h2⟩:=h
  exact⟨b,eW.trans h1,h2.mono yW (hb AR b Gz)⟩
 |yR s pos=>
  simp only[hx]at h|-
  obtain⟨b,h1,h2⟩:=h
  exact⟨b,eW.trans h1,(hb AR b Gz).trans h2⟩
 |loop nf n env ps iK eE st GC=>
  simp only[hx]at h|-
  obtain⟨b,r,h1,h2,h0,h3,h4,h5,h6,h7,h8,h9⟩:=h
  exact⟨b,r,eW.trans h1,(hb AR b Gz).trans h2,h0,h3,h4,h5,h6,h7,h8,fun i=>V.lz yW hrl _ _ (h9 i)⟩
theorem ba.mono (ht:Trans φ H w aO H' w'){id:Nat}(ho:H'.o id=H.o id)(eW:aO id=φ id)
 (hb:(H.o id).live=true->∀b,eK (φ id)=some b->w'.heap[b]? =w.heap[b]?) (h:ba M φ H w id):ba M aO H' w' id:=ba.A4 ht.blocks ht.rel ho eW hb h
theorem aC.of (hH:aC M φ H w)(ht:Trans φ H w aO H' w')(T:Nat->Prop)(hT:∀id,T id->ba M aO H' w' id)
 (hn:∀id, ¬T id->H'.o id=H.o id/\aO id=φ id/\((H.o id).live=true->∀b,eK (φ id)=some b->w'.heap[b]? =w.heap[b]?))
 (j5:∀id, ¬H'.us id->H'.o id= .no)
 (XH:∀i j b,(H'.o i).live=true->(H'.o j).live=true->eK (aO i)=some b->eK (aO j)=some b->i=j)
 (XI:∀b,de aO H' b->b<w'.heap.size):aC M aO H' w' where
 ok id:=by
  by_cases hc:T id
  ·exact hT id hc
  ·obtain⟨h1,h2,h3⟩:=hn id hc
   exact(hH.ok id).mono ht h1 h2 h3
 fresh:=j5
 apart:=XH
 ours b hb:=by
  refine⟨fun hM=> ?_,XI b hb⟩
  rcases ht.grow b hb with h1|h1
  ·exact(hH.ours b h1).1 hM
  ·have:=hH.AD b hM;omega
 AD b hM:=Nat.lt_of_lt_of_le (hH.AD b hM) ht.cw.size
theorem eM(hk:eF (fun _=>False) w w'){fr:Nat}(db: ¬H.us fr)(obj:ab)(val:Value)(fK:∀b,eK val=some b->w.heap.size<=b):
 Trans φ H w (aL φ fr val) (H.put [(fr,obj)]) w' where
 cw:=⟨hk.os,hk.tape,hk.output,hk.size,fun k h _=>hk.block k h (fun h=>h)⟩
 grow b:=by
  rintro⟨id,h1,h2⟩
  by_cases aB:id=fr
  ·subst aB;simp at h2;exact .inr (fK b h2)
  ·simp[aB]at h1 h2;exact .inl ⟨id,h1,h2⟩
 rel:={
  us:=fun id h=>by simp[h]
  row:=fun id hu hr=>by
   have aB:id≠fr:=fun h=>db (h ▸ hu)
   simp[aB]at hr|-;exact hr
  ep:=fun id e' hu he=>by
   have aB:id≠fr:=fun h=>db (h ▸ hu)
   simp[aB]at he|-;exact⟨e',he,Nat.le_refl _⟩}
theorem jl(hH:aC M φ H w)(hk:eF (fun _=>False) w w'){fr:Nat}(db: ¬H.us fr)(obj:ab)(val:Value)(fK:∀b,eK val=some b->w.heap.size<=b/\b<w'.heap.size)
 (uq:ba M (aL φ fr val) (H.put [(fr,obj)]) w' fr):aC M (aL φ fr val) (H.put [(fr,obj)]) w':=by
 have ht:Trans φ H w (aL φ fr val) (H.put [(fr,obj)]) w':=eM hk db obj val fun b hb=>(fK b hb).1
 refine hH.of ht (· =fr) (fun id h=>h ▸ uq) (fun id h=> ?_) (fun id h=> ?_) (fun i j b hi hj bi bj=> ?_) (fun b=> ?_)
 ·refine⟨by simp[h],by simp[h],fun hl b hb=>hk.block b ?_ (fun h=>h)⟩
  exact(hH.ours b ⟨id,hl,hb⟩).2
 ·rw[et]at h
  have h1:id≠fr:=fun e=>h (.inr e)
  simp only[bO,aR,h1,if_false]
  exact hH.fresh id fun hu=>h (.inl hu)
 ·by_cases e1:i=fr<;>by_cases e2:j=fr
  ·exact e1.trans e2.symm
  ·simp[e1,e2]at hi hj bi bj
   have:=(hH.ours b ⟨j,hj,bj⟩).2;have:=(fK b bi).1;omega
  ·simp[e1,e2]at hi hj bi bj
   have:=(hH.ours b ⟨i,hi,bi⟩).2;have:=(fK b bj).1;omega
  ·simp[e1,e2]at hi hj bi bj
   exact hH.apart i j b hi hj bi bj
 ·rintro⟨id,h1,h2⟩
  by_cases aB:id=fr
  ·subst aB;simp at h2;exact(fK b h2).2
  ·simp[aB]at h1 h2
   exact Nat.lt_of_lt_of_le (hH.ours b ⟨id,h1,h2⟩).2 hk.size
theorem cR(w:World)(o:Obj):eF (fun _=>False) w (w.alloc o):=
 ⟨rfl,rfl,rfl,aj,fun k hk _=>RowKit.Below.heap_alloc w o k hk⟩
theorem lZ{w w':World}(h:w.grownBy w' none):eF (fun _=>False) w w':=
 ⟨h.os,h.tape,h.output,h.size,fun k hk _=>h.block k hk aj⟩
theorem MZ(hH:aC M φ H w){fr:Nat}(db: ¬H.us fr)(cs:List V)(dO:Array Value)(ty:TypeId)(hd:V.aM (ax M φ H) φ H w cs dO.toList)(hf:Flat dO.toList):
 let aO:=aL φ fr (.pointer (some ⟨w.heap.size,0,none⟩));let H':=H.put [(fr, .row cs)];let w':=w.alloc (.cells dO ty)
 aC M aO H' w'/\Trans φ H w aO H' w'/\V.den (ax M aO H') aO H' w' (.ptr fr 0) (.pointer (some ⟨w.heap.size,0,none⟩)):=by
 intro aO H' w'
 have hv:∀b,eK (.pointer (some ⟨w.heap.size,0,none⟩))=some b->w.heap.size<=b/\b<w'.heap.size:=by
  intro b hb;simp[eK]at hb;subst hb;simp[w']
 have ht:Trans φ H w aO H' w':=eM (cR w _) db _ _ fun b hb=>(hv b hb).1
 refine⟨jl hH (cR w _) db _ _ hv ?_,ht,rfl,by simp[H'],fun _=>⟨w.heap.size,by simp[aO],rfl⟩⟩
 unfold ba
 simp only[bO,aR,if_true]
 exact⟨w.heap.size,dO,ty,rfl,heap_alloc_new w _,V.a8 ht cs _ hd,hf⟩
theorem fe{id:Nat}(fG:H.us id){b:Nat}(c0:(H.o id).live=true)(hb:eK (φ id)=some b)(hk:eF (· =b) w w')(obj:ab)(bX:obj.cy=(H.o id).cy)(wy:obj.ct=(H.o id).ct):
 Trans φ H w φ (H.put [(id,obj)]) w' where
 cw:=⟨hk.os,hk.tape,hk.output,hk.size,fun k h hl=>hk.block k h (fun e=>hl ⟨id,c0,e ▸ hb⟩)⟩
 grow b':=by
  rintro⟨j,h1,h2⟩
  by_cases hj:j=id
  ·subst hj;exact .inl ⟨j,c0,h2⟩
  ·simp[hj]at h1;exact .inl ⟨j,h1,h2⟩
 rel:={
  us:=fun j h=>by simp[h]
  row:=fun j hu hr=>by
   by_cases hj:j=id
   ·subst hj;simp at hr;exact⟨bX ▸ hr,rfl⟩
   ·exact SG
  ep:=fun j e' hu he=>by
   by_cases hj:j=id
   ·subst hj;simp at he;exact⟨e',wy ▸ he,Nat.le_refl _,fun _=>rfl⟩
   ·simp[hj]at he;exact⟨e',he,Nat.le_refl _,fun _=>rfl⟩}
theorem iL(hH:aC M φ H w){id:Nat}(fG:H.us id){b:Nat}(c0:(H.o id).live=true)(hb:eK (φ id)=some b)(hk:eF (· =b) w w')(obj:ab)(bX:obj.cy=(H.o id).cy)
 (wy:obj.ct=(H.o id).ct) (uq:ba M φ (H.put [(id,obj)]) w' id):aC M φ (H.put [(id,obj)]) w':=by
 refine hH.of (fe fG c0 hb hk obj bX wy) (· =id) (fun j h=>h ▸ uq) (fun j h=> ?_) (fun j h=> ?_) (fun i j b' hi hj bi bj=> ?_) (fun b'=> ?_)
 ·refine⟨by simp[h],rfl,fun hl b' EV=>hk.block b' (hH.ours b' ⟨j,hl,EV⟩).2 fun e=>h ?_⟩
  exact hH.apart j id b hl c0 (e ▸ EV) hb
 ·rw[et]at h
  have h1:j≠id:=fun e=>h (.inr e)
  simp only[bO,aR,h1,if_false]
  exact hH.fresh j fun hu=>h (.inl hu)
 ·refine hH.apart i j b' ?_ ?_ bi bj
  ·by_cases e:i=id
   ·subst e;exact c0
   ·simpa[e]using hi
  ·by_cases e:j=id
   ·subst e;exact c0
   ·simpa[e]using hj
 ·rintro⟨j,h1,h2⟩
  refine Nat.lt_of_lt_of_le (hH.ours b' ⟨j, ?_,h2⟩).2 hk.size
  by_cases e:j=id
  ·subst e;exact c0
  ·simpa[e]using h1
theorem kI(w:World)(b:Nat)(cs:Array Value):eF (· =b) w (w.setRow b cs):=
 ⟨rfl,rfl,rfl,aj,fun k _ hk=>by
  unfold World.setRow
  simp only[Array.getElem?_modify]
  rw[if_neg (fun e=>hk e.symm)]⟩
theorem A5(hH:aC M φ H w){id b:Nat}(fG:H.us id){cs cs':List V}(ho:H.o id= .row cs)(eW:φ id= .pointer (some ⟨b,0,none⟩)){dO:Array Value}{ty:TypeId}
 (hb:w.heap[b]? =some (.cells dO ty (0,0))) (pS:Array Value) (hd:V.aM (ax M φ H) φ H w cs' pS.toList) (hf:Flat pS.toList):
 aC M φ (H.put [(id, .row cs')]) (w.setRow b pS)/\Trans φ H w φ (H.put [(id, .row cs')]) (w.setRow b pS):=by
 have hl:(H.o id).live=true:=by rw[ho];rfl
 have yW:eK (φ id)=some b:=by rw[eW];rfl
 have ht:Trans φ H w φ (H.put [(id, .row cs')]) (w.setRow b pS):=fe fG hl yW (kI w b pS) _ eV eV
 refine⟨iL hH fG hl yW (kI w b pS) _ eV eV ?_,ht⟩
 unfold ba
 simp only[bO,aR,if_true]
 exact⟨b,pS,ty,eW,setRow_heap w b dO pS ty (0,0) hb,V.a8 ht cs' _ hd,hf⟩
theorem pT{B:Nat->Prop}{sz g:Nat}(cur:Array Value)(ty:TypeId)(fz:Nat×Nat)(hg:w.heap[g]? =some (.cells cur ty fz))(hB: ¬B g):
 ∀ (es:List D) (evs:List Value) (i:Nat),D.aM B w es evs->(∀ev∈evs,ev.cells.size=sz)->(∀j u,(evs.flatMap (·.cells.toList))[j]? =some u->cur[i*sz+j]? =some u)->D.elems B w sz ⟨g,0,none⟩ i es
 |[],_,_,_,_,_=>trivial
 |e::es,_,i,h,hs,hc=>by
  obtain⟨ev,evs,rfl,h1,h2⟩:=h
  have ec:ev.cells.size=sz:=hs ev aj
  refine⟨⟨ev,ec,fun j u hj=> ?_,h1⟩,pT cur ty fz hg hB es evs (i+1) h2 (fun x hx=>hs x lu) fun j u hj=> ?_⟩
  ·have cU:j<ev.cells.size:=(Array.getElem?_eq_some_iff.1 hj).1
   have:cur[i*sz+j]? =some u:=hc j u (by
    rw[List.flatMap_cons,List.getElem?_append_left (by simpa using cU)];simpa using hj)
   refine⟨?_,by simpa using hB⟩
   unfold Addr.add World.cell?
   by_cases e1:i*sz=0<;>by_cases e2:j=0<;>simp_all
  ·have:=hc (sz+j) u (by
    rw[List.flatMap_cons,List.getElem?_append_right (by simp[ec])]
    simpa[ec]using hj)
   rw[show(i+1)*sz+j=i*sz+(sz+j) by rw[Nat.add_mul];omega]
   exact this
theorem M0(hH:aC M φ H w){id ep sz:Nat}{ty:TypeId}{es:List D}(fG:H.us id)(ho:H.o id= .arr ep ty sz es):
 aC M φ (H.put [(id, .su ep es)]) w/\Trans φ H w φ (H.put [(id, .su ep es)]) w:=by
 have A6:∀b,de φ (H.put [(id, .su ep es)]) b->de φ H b:=by
  rintro b ⟨j,h1,h2⟩
  by_cases hj:j=id
  ·subst hj;simp[ab.live]at h1
  ·simp[hj]at h1;exact⟨j,h1,h2⟩
 have ht:Trans φ H w φ (H.put [(id, .su ep es)]) w:={
  cw:=eF.refl _ _
  grow:=fun b hb=> .inl (A6 b hb)
  rel:={
   us:=fun j h=>by simp[h]
   row:=fun j hu hr=>by
    by_cases hj:j=id
    ·subst hj;simp[ab.cy]at hr
    ·exact SG
   ep:=fun j e' hu he=>by
    by_cases hj:j=id
    ·subst hj;simp[ab.ct]at he;subst he;exact⟨ep,by rw[ho];rfl,Nat.le_refl _,fun _=>rfl⟩
    ·simp[hj]at he;exact⟨e',he,Nat.le_refl _,fun _=>rfl⟩}}
 refine⟨hH.of ht (· =id) (fun j h=> ?_) (fun j h=>⟨by simp[h],rfl,fun _ _ _=>rfl⟩) (fun j h=> ?_) (fun i j b hi hj bi bj=> ?_) (fun b hb=>(hH.ours b (A6 b hb)).2),ht⟩
 ·subst h
  have bn:=hH.ok j
  unfold ba at bn|-
  simp only[ho,bO,aR,if_true]at bn|-
  obtain⟨h0,xs,⟨hl,bX⟩,evs,rfl,h2,h3⟩:=bn
  have hlen:=D.aH _ _ h3
  rcases bX with⟨h4,h5⟩|⟨g,cap,cur,h4,_,h5,h6,h7,h8,h9⟩
  ·rw[h4]
   have:es=[]:=by simpa using h5
   subst this
   exact⟨none,0,0,rfl,rfl,Nat.le_refl _,fun _=>rfl,0,fun a ha=>by cases ha⟩
  ·rw[h4]
   refine⟨some ⟨g,0,none⟩,es.length,cap,rfl,rfl,h6,(fun h=>by cases h),sz,fun a ha=> ?_⟩
   injection ha with ha;subst ha
   refine⟨fun _=>rfl,pT cur ty (0,0) h5 ?_ es evs 0 (D.a8 (ht.blocks (M:=M)) es evs h3) h2 fun j' u Iw=> ?_⟩
   ·rintro(hM|⟨i,M3,SU⟩)
    ·exact(hH.ours g ⟨j,by rw[ho];rfl,by rw[h4];rfl⟩).1 hM
    ·by_cases e:i=j
     ·subst e;simp[ab.live]at M3
     ·simp[e]at M3
      exact e (hH.apart i j g M3 eV SU (by rw[h4];rfl))
   ·rw[<- h9]at Iw
    simp only[Nat.zero_mul,Nat.zero_add]
    rw[List.getElem?_take]at Iw
    split at Iw
    ·simpa using Iw
    ·cases Iw
 ·rw[et]at h
  have h1:j≠id:=fun e=>h (.inr e)
  simp only[bO,aR,h1,if_false]
  exact hH.fresh j fun hu=>h (.inl hu)
 ·by_cases e1:i=id
  ·subst e1;simp[ab.live]at hi
  ·by_cases e2:j=id
   ·subst e2;simp[ab.live]at hj
   ·simp[e1,e2]at hi hj;exact hH.apart i j b hi hj bi bj
theorem EW(hH:aC M φ H w){id:Nat}{kt vt:TypeId}{l:List (D×D)}(fG:H.us id)(ho:H.o id= .map kt vt l):
 aC M φ (H.put [(id, .iJ l)]) w/\Trans φ H w φ (H.put [(id, .iJ l)]) w:=by
 have A6:∀b,de φ (H.put [(id, .iJ l)]) b->de φ H b:=by
  rintro b ⟨j,h1,h2⟩
  by_cases hj:j=id
  ·subst hj;simp[ab.live]at h1
  ·simp[hj]at h1;exact⟨j,h1,h2⟩
 have ht:Trans φ H w φ (H.put [(id, .iJ l)]) w:={
  cw:=eF.refl _ _
  grow:=fun b hb=> .inl (A6 b hb)
  rel:={
   us:=fun j h=>by simp[h]
   row:=fun j hu hr=>by
    by_cases hj:j=id
    ·subst hj;exact⟨by rw[ho];rfl,rfl⟩
    ·exact SG
   ep:=fun j e' hu he=>by
    by_cases hj:j=id
    ·subst hj;simp[ab.ct]at he
    ·simp[hj]at he;exact⟨e',he,Nat.le_refl _,fun _=>rfl⟩}}
 refine⟨hH.of ht (· =id) (fun j h=> ?_) (fun j h=>⟨by simp[h],rfl,fun _ _ _=>rfl⟩) (fun j h=> ?_) (fun i j b hi hj bi bj=> ?_) (fun b hb=>(hH.ours b (A6 b hb)).2),ht⟩
 ·subst h
  have bn:=hH.ok j
  unfold ba at bn|-
  simp only[ho,bO,aR,if_true]at bn|-
  obtain⟨b,es,clock,h1,h2,h3,h4⟩:=bn
  obtain⟨h5,h6⟩:=(ly _ _).1 h4
  refine⟨b,es,clock,es.toList,h1,h2, ?_,h3, .inl rfl,D.a8 (ht.blocks (M:=M)) _ _ h5,D.a8 (ht.blocks (M:=M)) _ _ h6⟩
  rintro(hM|⟨i,M3,SU⟩)
  ·exact(hH.ours b ⟨j,by rw[ho];rfl,by rw[h1];rfl⟩).1 hM
  ·by_cases e:i=j
   ·subst e;simp[ab.live]at M3
   ·simp[e]at M3
    exact e (hH.apart i j b M3 eV SU Gz)
 ·rw[et]at h
  have h1:j≠id:=fun e=>h (.inr e)
  simp only[bO,aR,h1,if_false]
  exact hH.fresh j fun hu=>h (.inl hu)
 ·by_cases e1:i=id
  ·subst e1;simp[ab.live]at hi
  ·by_cases e2:j=id
   ·subst e2;simp[ab.live]at hj
   ·simp[e1,e2]at hi hj;exact hH.apart i j b hi hj bi bj
end
end Go.Proofs.YtonbelhklnmjnaaGreat
namespace Go.Proofs.YtonbelhklnmjnaaGreat
def cV(M:Nat->Prop)(φ:Place)(H:Hp)(w:World)(fr:Nat)(r:Result Next)(K:V->List (Nat×ab)->List Nat->Prop):Prop:=
 ∃nx val w' aO v Δ rd,K v Δ rd/\r= .ok nx w'/\(nx= .value val\/nx= .skip/\val=undef)/\aC M aO (H.put Δ) w'/\Trans φ H w aO (H.put Δ) w'/\
  V.den (ax M aO (H.put Δ)) aO (H.put Δ) w' v val/\(∀id∈Δ.map (·.1),H.us id\/id=fr)
section
variable {P:Program}{M:Nat->Prop}{φ:Place}{H:Hp}{w:World}{fr:Nat}{K:V->List (Nat×ab)->List Nat->Prop}
theorem cV.same (hH:aC M φ H w){r:Result Next}{v:V}{rd:List Nat}(val:Value)(hK:K v [] rd)(hr:r= .ok (.value val) w)(hd:V.den (ax M φ H) φ H w v val):cV M φ H w fr r K:=
 ⟨_,val,w,φ,v,[],rd,hK,hr, .inl rfl,by rw[nS];exact hH,by rw[nS];exact Trans.refl _ _ _,by rw[nS];exact hd,aj⟩
theorem cV.mono {r:Result Next}{K':V->List (Nat×ab)->List Nat->Prop}(h:cV M φ H w fr r K)(hk:∀v Δ rd,K v Δ rd->K' v Δ rd):cV M φ H w fr r K':=by
 obtain⟨nx,val,w',aO,v,Δ,rd,h1,h2⟩:=h
 exact⟨nx,val,w',aO,v,Δ,rd,hk _ _ _ h1,h2⟩
theorem info_of_underlying{t:TypeId}{d:TypeDesc}(h:P.underlying t=some d):∃i,P.info? t=some i:=by
 unfold Program.underlying at h
 cases hi:P.info? t with
 |none=>simp[hi]at h
 |some i=>exact⟨i,rfl⟩
theorem b9{t:TypeId}{i:TypeInfo}(h:P.info? t=some i):P.cellsOf t=i.size:=by simp[Program.cellsOf,h]
theorem l0{t:TypeId}{i:TypeInfo}(h:P.info? t=some i):P.bytesOf t=i.bytes:=by simp[Program.bytesOf,h]
theorem j6{t:TypeId}{z:List V}(h:cL P t=some z):∃i v,P.info? t=some i/\i.zero=some v/\v.cells.size=i.size/\Flat v.cells.toList/\z=v.cells.toList.map V.dD:=by
 unfold cL at h
 cases hi:P.info? t with
 |none=>simp[hi]at h
 |some i=>
  simp only[hi]at h
  cases hz:i.zero with
  |none=>simp[hz]at h
  |some v=>
   simp only[hz]at h
   split at h
   ·rename_i hc
    injection h with h
    exact⟨i,v,rfl,hz,hc.1,fun u hu=>List.all_eq_true.1 hc.2 u hu,h.symm⟩
   ·cases h
theorem rp{t:TypeId}(h:dx P t=some true)(w:World):(isAgg t).run P w= .ok true w:=by
 unfold dx at h
 unfold isAgg
 cases hd:P.underlying t with
 |none=>simp[hd]at h
 |some d=>cases d<;>simp_all[run_underlying hd]
theorem oQ{t:TypeId}(h:dx P t=some false)(w:World):(isAgg t).run P w= .ok false w:=by
 unfold dx at h
 unfold isAgg
 cases hd:P.underlying t with
 |none=>simp[hd]at h
 |some d=>cases d<;>simp_all[run_underlying hd]
theorem dS{t:TypeId}{i:TypeInfo}(h:P.info? t=some i)(w:World):(sizeOf t).run P w= .ok (P.cellsOf t) w:=by
 simp[sizeOf,typeInfo,h,b9 h]
theorem rq{t:TypeId}{b:Bool}(h:dx P t=some b):∃i,P.info? t=some i:=by
 unfold dx at h
 cases hd:P.underlying t with
 |none=>simp[hd]at h
 |some d=>exact info_of_underlying hd
theorem bE{t e:TypeId}(h:cI P t=some e):P.underlying t=some (.slice e):=by
 unfold cI at h
 cases hd:P.underlying t with
 |none=>simp[hd]at h
 |some d=>cases d<;>simp_all
theorem xa{t e:TypeId}{n:Nat}(h:AX P t=some (n,e)):P.underlying t=some (.array n e):=by
 unfold AX at h
 cases hd:P.underlying t with
 |none=>simp[hd]at h
 |some d=>cases d<;>simp_all
theorem add_zero(a:Addr):a.add 0=a:=by simp[Addr.add]
theorem add_plain(b o j:Nat):(⟨b,o,none⟩:Addr).add j=⟨b,o+j,none⟩:=by
 unfold Addr.add;split
 ·rename_i h;subst h;rfl
 ·rfl
theorem add_add(a:Addr)(h:a.spot=none)(m n:Nat):(a.add m).add n=a.add (m+n):=by
 obtain⟨b,o,s⟩:=a
 simp only at h;subst h
 simp only[add_plain,Nat.add_assoc]
theorem A7(a:Addr)(h:a.spot=none)(m:Nat):(a.add m).spot=none:=by
 unfold Addr.add;split<;>first|exact h|rfl
theorem mT(s:S)(a:Act)(eG:∀i,V.den (ax M φ H) φ H w (s.env i) (a.tmps.getD i undef))(x:Operand):V.den (ax M φ H) φ H w (s.ev x) (a.eval x):=by
 cases x with
 |tmp t=>exact eG t
 |func f=>exact⟨#[],#[],rfl,rfl,rfl⟩
 |global g=>trivial
 |const v=>
  cases v with
  |agg c=>
   simp only[S.ev,V.ofConst,Act.eval]
   split
   ·rename_i hc
    have hf:Flat c.toList:=fun u hu=>List.all_eq_true.1 hc u hu
    exact lB _ _ (dR _ hf) hf
   ·trivial
  |tuple _=>trivial
  |_=>simp only[S.ev,V.ofConst,Act.eval];exact lY _ (by rfl)
theorem kJ(s:S)(a:Act)(eG:∀i,V.den (ax M φ H) φ H w (s.env i) (a.tmps.getD i undef)):∀ (xs:List Operand),V.aM (ax M φ H) φ H w (xs.map s.ev) (xs.map a.eval)
 |[]=>rfl
 |x::xs=>⟨a.eval x,xs.map a.eval,rfl,mT s a eG x,kJ s a eG xs⟩
theorem mU{t:TypeId}(a:Addr)(us:List Value)(hc:∀j u,us[j]? =some u->w.cell? (a.add j)=some u):
 (dx P t=some true->us.length=P.cellsOf t->(Instr.loadAt t (.pointer (some a))).run P w= .ok (.agg us.toArray) w)/\
 (dx P t=some false->∀u,us[0]? =some u->(Instr.loadAt t (.pointer (some a))).run P w= .ok u w):=by
 constructor
 ·intro h hl
  obtain⟨i,hi⟩:=rq h
  have h1:=run_loadCells_list (P:=P) w a us hc
  rw[hl]at h1
  simp[Instr.loadAt,Instr.sureAddr,loadVar,rp h,dS hi,h1]
 ·intro h u hu
  have h1:=hc 0 u hu
  rw[add_zero]at h1
  simp[Instr.loadAt,Instr.sureAddr,loadVar,oQ h,h1]
theorem pU{t:TypeId}{cs:List V}{off:Nat}{v:V}(hg:e7 P t cs off=some v)(a:Addr)(vs:List Value)(hd:V.aM (ax M φ H) φ H w cs vs)(hf:Flat vs)
 (hc:∀j u,vs[j]? =some u->w.cell? (a.add j)=some u) (ha:a.spot=none):∃val,(Instr.loadAt t (.pointer (some (a.add off)))).run P w= .ok val w/\V.den (ax M φ H) φ H w v val:=by
 have hlen:=V.aH _ _ hd
 unfold e7 at hg
 cases Dr:dx P t with
 |none=>simp[Dr]at hg
 |some b=>
  cases b with
  |true=>
   simp only[Dr]at hg
   split at hg
   ·rename_i hle
    injection hg with hg;subst hg
    refine⟨.agg ((vs.drop off).take (P.cellsOf t)).toArray,(mU (P:=P) (t:=t) (a.add off) ((vs.drop off).take (P.cellsOf t)) ?_).1 Dr AS, ?_⟩
    ·intro j u hj
     rw[add_add a ha]
     rw[List.getElem?_take]at hj
     split at hj
     ·exact hc _ _ kW
     ·cases hj
    ·refine lB _ _ ?_ ?_
     ·exact V.dQ _ _ _ (V.eL _ _ _ hd)
     ·intro u hu
      exact hf u (List.mem_of_mem_drop (List.mem_of_mem_take (by simpa using hu)))
   ·cases hg
  |false=>
   simp only[Dr]at hg
   obtain⟨u,hu,M4⟩:=V.dP _ _ _ _ hd hg
   refine⟨u,(mU (P:=P) (t:=t) (a.add off) (vs.drop off) ?_).2 Dr u (by simpa using hu),M4⟩
   intro j x hj
   rw[add_add a ha]
   exact hc _ _ kW
theorem mV(sz:Nat):∀ (evs:List Value) (i j:Nat) (ev:Value) (u:Value),(∀x∈evs,x.cells.size=sz)->evs[i]? =some ev->ev.cells[j]? =some u->
 (evs.flatMap (·.cells.toList))[i*sz+j]? =some u
 |[],_,_,_,_,_,h,_=>by simp at h
 |e::evs,0,j,ev,u,hs,h,hu=>by
  simp at h;subst h
  have:j<e.cells.size:=(Array.getElem?_eq_some_iff.1 hu).1
  rw[List.flatMap_cons,List.getElem?_append_left (by simp;omega)]
  simpa using hu
 |e::evs,i+1,j,ev,u,hs,h,hu=>by
  have ih:=mV sz evs i j ev u (fun x hx=>hs x lu) Gy hu
  rw[List.flatMap_cons,List.getElem?_append_right (by simp[hs e (by simp),Nat.add_mul];omega)]
  simp only[Array.length_toList,hs e (by simp)]
  rw[show(i+1)*sz+j - sz=i*sz+j by rw[Nat.add_mul];omega]
  exact ih
theorem pV{g:Nat}{dO:Array Value}{ty:TypeId}{fz:Nat×Nat}(h:w.heap[g]? =some (.cells dO ty fz))(j:Nat)(u:Value)(hu:dO[j]? =some u):w.cell? ((⟨g,0,none⟩:Addr).add j)=some u:=by
 rw[add_plain,Nat.zero_add,cell_of_row w g j dO ty fz h];exact hu
theorem I8{B:Nat->Prop}{ty:TypeId}{sz:Nat}{es:List D}{v:Value}{b n c i:Nat}{e:D}
 (bn:0<sz/\∃xs,w.ownsRow 0 ty sz v es.length xs/\gz B w sz es xs) (hv:v= .slice (some ⟨b,0,none⟩) n c) (he:es[i]? =some e):
 ∃ev:Value,ev.cells.size=sz/\D.aM B w e.cells ev.cells.toList/\Flat ev.cells.toList/\(∀j u,ev.cells.toList[j]? =some u->w.cell? ((⟨b,i*sz,none⟩:Addr).add j)=some u):=by
 obtain⟨h0,xs,⟨hl,bX⟩,evs,rfl,h2,h3⟩:=bn
 obtain⟨ev,dI,hd⟩:=D.dP _ _ _ _ h3 he
 have SV:=D.ft _ _ hd
 refine⟨ev,h2 ev (List.mem_of_getElem? dI),SV.1,SV.2,fun j u hj=> ?_⟩
 subst hv
 rcases bX with⟨h4,_⟩|⟨g,cap,cur,h4,_,h5,h6,h7,h8,h9⟩
 ·simp at h4
 ·simp at h4;obtain⟨rfl,_,rfl⟩:=h4
  have:=mV sz evs i j ev u h2 dI kW
  rw[<- h9,List.getElem?_take]at this
  split at this
  ·have Pk:=pV h5 (i*sz+j) u (by simpa using this)
   rw[add_plain]at Pk|-
   simpa using Pk
  ·cases this
theorem I9(hH:aC M φ H w){t:TypeId}{x:V}{xv:Value}(hx:V.den (ax M φ H) φ H w x xv)
 (h:AZ P H.o t x fun v rd=>K v [] rd):cV M φ H w fr ((do let y <- Instr.loadAt t xv;pure (Next.value y):Sem Next).run P w) K:=by
 have fin:∀ (v:V) rd,K v [] rd->(∃val,(Instr.loadAt t xv).run P w= .ok val w/\V.den (ax M φ H) φ H w v val)->cV M φ H w fr ((do let y <- Instr.loadAt t xv;pure (Next.value y):Sem Next).run P w) K:=by
  rintro v rd hK ⟨val,h1,h2⟩
  exact cV.same hH val hK (by simp[h1]) h2
 unfold AZ at h
 split at h
 ·rename_i id off
  split at h
  ·rename_i cs ho
   obtain⟨v,h1,hK⟩:=h
   obtain⟨_,hu,hp⟩:=hx
   obtain⟨b,eW,rfl⟩:=hp eV
   have bn:=hH.ok id
   simp only[ba,ho]at bn
   obtain⟨b',dO,ty,g1,g2,g3,g4⟩:=bn
   rw[eW]at g1;simp at g1;subst g1
   refine fin v _ hK ?_
   have:=pU (P:=P) h1 ⟨b,0,none⟩ dO.toList g3 g4 (fun j u hj=>pV g2 j u kW) rfl
   rwa [add_plain,Nat.zero_add]at this
  ·exact h.elim
 ·rename_i cs off
  obtain⟨v,h1,hK⟩:=h
  obtain⟨a,ev,ha,rfl,hd,hf,hc⟩:=hx
  exact fin v _ hK (pU h1 a ev ((V.cA _ _).2 hd) hf (fun j u hj=>(hc j u kW).1) ha)
 ·rename_i id ep i sz off
  split at h
  ·rename_i jj ty qU es ho
   obtain⟨rfl,rfl,e,he,v,h1,hK⟩:=h
   obtain⟨_,hu,hp⟩:=hx
   obtain⟨b,n,c,eW,rfl⟩:=(hp ep eV).2 rfl
   have bn:=hH.ok id
   simp only[ba,ho]at bn
   obtain⟨ev,g1,g2,g3,g4⟩:=I8 bn eW he
   refine fin v _ hK ?_
   have:=pU (P:=P) h1 ⟨b,i*sz,none⟩ ev.cells.toList ((V.cA _ _).2 g2) g3 g4 rfl
   rwa [add_plain]at this
  ·exact h.elim
 ·exact h.elim
end
end Go.Proofs.YtonbelhklnmjnaaGreat
namespace Go.Proofs.YtonbelhklnmjnaaGreat
section
variable {P:Program}{M:Nat->Prop}{φ:Place}{H:Hp}{w:World}{fr:Nat}{K:V->List (Nat×ab)->List Nat->Prop}
theorem cV.plain (hH:aC M φ H w){s:Sem Value}{v:V}{rd:List Nat}(val:Value)(hK:K v [] rd)(hr:s.run P w= .ok val w)(hd:V.den (ax M φ H) φ H w v val):
 cV M φ H w fr ((do let y <- s;pure (Next.value y):Sem Next).run P w) K:=cV.same hH val hK (by simp[hr]) hd
theorem A8{t:TypeId}{f q:Nat}(h:cz P t f=some q):∃fs fd,P.underlying t=some (.struct fs)/\fs[f]? =some fd/\P.cellsOf fd.type≠0/\fd.offset=q:=by
 unfold cz at h
 cases hd:P.underlying t with
 |none=>simp[hd]at h
 |some d=>
  cases d<;>simp only[hd]at h<;>try (cases h;done)
  rename_i fs
  cases hf:fs[f]? with
  |none=>simp[hf]at h
  |some fd=>
   simp only[hf]at h
   split at h
   ·cases h
   ·injection h with h
    exact⟨fs,fd,rfl,hf,by assumption,h⟩
theorem A9{t:TypeId}{f q:Nat}(h:cz P t f=some q)(a:Addr):(Instr.fieldAt t (.pointer (some a)) f).run P w= .ok (.pointer (some (a.add q))) w:=by
 obtain⟨fs,fd,h1,h2,h3,rfl⟩:=A8 h
 have:∃i,P.info? fd.type=some i:=by
  cases hi:P.info? fd.type with
  |none=>simp[Program.cellsOf,hi]at h3
  |some i=>exact⟨i,rfl⟩
 obtain⟨i,hi⟩:=this
 simp[Instr.fieldAt,run_underlying h1,h2,Instr.sureAddr,fieldPlace,dS hi,h3]
def V.step (x:V)(q:Nat):Option V:=
 match x with
 | .ptr id off=>some (.ptr id (off+q))
 | .pp cs off=>some (.pp cs (off+q))
 | .pe id ep j sz off=>some (.pe id ep j sz (off+q))
 |_=>none
def V.place (o:Nat->ab):V->Prop
 | .ptr id _=>(o id).cy=true
 | .pe id ep _ _ _=>(o id).ct=some ep
 |_=>True
theorem Ba{x y:V}{q:Nat}(h:x.step q=some y){xv:Value}(hx:V.den (ax M φ H) φ H w x xv)
 (hr:x.place H.o):
 ∃a,xv= .pointer (some a)/\V.den (ax M φ H) φ H w y (.pointer (some (a.add q))):=by
 cases x with
 |ptr id off=>
  simp only[V.step,Option.some.injEq]at h;subst h
  obtain⟨h1,h2,h3⟩:=hx
  obtain⟨b,h4,rfl⟩:=h3 hr
  exact⟨_,rfl,rfl,h2,fun _=>⟨b,h4,by rw[add_plain]⟩⟩
 |pp cs off=>
  simp only[V.step,Option.some.injEq]at h;subst h
  obtain⟨a,ev,ha,rfl,hd⟩:=hx
  exact⟨_,rfl,a,ev,ha,by rw[add_add a ha],hd⟩
 |pe id ep j sz off=>
  simp only[V.step,Option.some.injEq]at h;subst h
  obtain⟨h1,h2,h3⟩:=hx
  obtain⟨b,n,c,h4,rfl⟩:=(h3 ep hr).2 rfl
  refine⟨_,rfl,rfl,h2,fun e he=>⟨(h3 e he).1,fun heq=>⟨b,n,c,h4,by rw[add_plain,Nat.add_assoc]⟩⟩⟩
 |_=>simp[V.step]at h
theorem wz(hH:aC M φ H w){t:TypeId}{f:Nat}{x:V}{xv:Value}(hx:V.den (ax M φ H) φ H w x xv)(h:jX P H.o t x f fun v=>K v [] []):
 cV M φ H w fr ((do let y <- Instr.fieldAt t xv f;pure (Next.value y):Sem Next).run P w) K:=by
 have fin:∀ (y:V) q,cz P t f=some q->x.step q=some y->x.place H.o->K y [] []->
  cV M φ H w fr ((do let y <- Instr.fieldAt t xv f;pure (Next.value y):Sem Next).run P w) K:=by
  intro y q hq hs hr hK
  obtain⟨a,rfl,hd⟩:=Ba hs hx hr
  exact cV.plain hH _ hK (A9 hq a) hd
 unfold jX at h
 split at h
 ·rename_i q hq
  split at h
  ·exact fin _ q hq rfl h.1 h.2
  ·exact fin _ q hq rfl trivial h
  ·exact fin _ q hq rfl h.1 h.2
  ·exact h.elim
 ·exact h.elim
theorem Ds{B:Nat->Prop}{es:List D}{xv:Value}(hx:D.den B w (.sl es) xv){i:Nat}{y:D}(hy:es[i]? =some y):
 ∃a len cap ev,xv= .slice (some a) len cap/\i<len/\a.spot=none/\D.aM B w y.cells ev/\Flat ev/\ig B w (a.add (i*y.cells.length)) ev.toArray/\len=es.length:=by
 obtain⟨base,len,cap,rfl,rfl,h2,h3,sz,h4⟩:=hx
 have cU:i<es.length:=(List.getElem?_eq_some_iff.1 hy).1
 cases base with
 |none=>have:=h3 rfl;omega
 |some a=>
  obtain⟨h5,h6⟩:=h4 a rfl
  obtain⟨ev,h7,h8,h9⟩:=D.wZ es 0 i y h6 hy
  have Pk:=D.ft _ _ h9
  have h11:y.cells.length=sz:=by rw[<- h7, <- D.aH _ _ Pk.1];simp
  refine⟨a,es.length,cap,ev.cells.toList,rfl,cU,h5 ad,Pk.1,Pk.2, ?_,rfl⟩
  rw[h11]
  simpa using h8
theorem oB{t e:TypeId}(ht:cI P t=some e)(a:Addr)(len cap:Nat)(k:IntKind)(i:Int)(h0:0<=i)(h1:i.toNat<len)(hc:0<P.cellsOf e):
 (Instr.indexAt t (.slice (some a) len cap) (.int k i)).run P w= .ok (.pointer (some (a.add (i.toNat*P.cellsOf e)))) w:=by
 have hu:=bE ht
 have:∃ie,P.info? e=some ie:=by
  cases hi:P.info? e with
  |none=>simp[Program.cellsOf,hi]at hc
  |some i=>exact⟨i,rfl⟩
 obtain⟨ie,hi⟩:=this
 have h2:0<=i/\i<(len:Int):=⟨h0,ad⟩
 simp[Instr.indexAt,run_underlying hu,asIntOf,h2,dS hi]
theorem wA{t e:TypeId}{n:Nat}(ht:AX P t=some (n,e))(a:Addr)(k:IntKind)(i:Int)(h0:0<=i)(h1:i<n)(hi:∃ie,P.info? e=some ie):
 (Instr.indexAt t (.pointer (some a)) (.int k i)).run P w= .ok (.pointer (some (a.add (i.toNat*P.cellsOf e)))) w:=by
 have hu:=xa ht
 obtain⟨ie,hi⟩:=hi
 have h2:0<=i/\i<(n:Int):=⟨h0,h1⟩
 simp[Instr.indexAt,run_underlying hu,asIntOf,Instr.sureAddr,h2,dS hi]
theorem wB(hH:aC M φ H w){t:TypeId}{x ix:V}{xv iv:Value}(hx:V.den (ax M φ H) φ H w x xv)(hi:V.den (ax M φ H) φ H w ix iv)
 (h:jW P H.o t x ix fun v rd=>K v [] rd):cV M φ H w fr ((do let y <- Instr.indexAt t xv iv;pure (Next.value y):Sem Next).run P w) K:=by
 unfold jW at h
 split at h
 ·rename_i k i
  simp only[V.den,D.den]at hi;subst hi
  have yX:∀ {e:TypeId} {es:List D} {rd},cI P t=some e->D.den (ax M φ H) w (.sl es) xv->(0<=i/\∃y,es[i.toNat]? =some y/\y.cells.length=P.cellsOf e/\0<P.cellsOf e/\K (.pp y.cells 0) [] rd)->
   cV M φ H w fr ((do let y <- Instr.indexAt t xv (.int k i);pure (Next.value y):Sem Next).run P w) K:=by
   rintro e es rd ht hd ⟨h0,y,hy,hc,fV,hK⟩
   obtain⟨a,len,cap,ev,rfl,h1,h2,h3,h4,h5,_⟩:=Ds hd hy
   refine cV.plain hH _ hK (oB ht a len cap k i h0 h1 fV) ⟨a.add (i.toNat*P.cellsOf e),ev,A7 a h2 _,by rw[add_zero],h3,h4, ?_⟩
   rw[<- hc];exact h5
  split at h
  ·rename_i e ht
   split at h
   ·exact yX ht hx h
   ·exact yX ht hx.1 h
   ·rename_i id ep
    split at h
    ·rename_i jj ty sz es ho
     obtain⟨rfl,h0,h1,rfl,fV,hK⟩:=h
     obtain⟨M5,fG,wy⟩:=hx
     have hv:=(wy ep eV).2 rfl
     have bn:=hH.ok id
     simp only[ba,ho]at bn
     obtain⟨h3,xs,⟨_,bX⟩,_⟩:=bn
     rcases bX with⟨_,h5⟩|⟨g,cap,cur,h4,_⟩
     ·omega
     ·subst hv
      rw[h4]
      refine cV.plain hH _ hK (oB ht _ _ cap k i h0 h1 fV) ⟨rfl,fG,fun e' ou=>⟨(wy e' ou).1,fun heq=>⟨g,es.length,cap,h4,by rw[add_plain];simp⟩⟩⟩
    ·rename_i jj es ho
     obtain⟨rfl,h⟩:=h
     obtain⟨M5,fG,wy⟩:=hx
     have hv:=(wy ep eV).2 rfl
     have bn:=hH.ok id
     simp only[ba,ho]at bn
     exact yX ht (hv ▸ bn) h
    ·exact h.elim
   ·exact h.elim
  ·split at h
   ·rename_i n e ht
    obtain⟨h0,h1,abj,h⟩:=h
    have fin:∀ (y:V),x.step (i.toNat*P.cellsOf e)=some y->x.place H.o->K y [] []->
     cV M φ H w fr ((do let y <- Instr.indexAt t xv (.int k i);pure (Next.value y):Sem Next).run P w) K:=by
     intro y hs hr hK
     obtain⟨a,rfl,hd⟩:=Ba hs hx hr
     refine cV.plain hH _ hK (wA ht a k i h0 h1 (Option.isSome_iff_exists.1 abj)) hd
    split at h
    ·exact fin _ rfl h.1 h.2
    ·exact fin _ rfl trivial h
    ·exact fin _ rfl h.1 h.2
    ·exact h.elim
   ·exact h.elim
 ·exact h.elim
theorem SW(hH:aC M φ H w){op:UnOp}{x:V}{xv:Value}(hx:V.den (ax M φ H) φ H w x xv)(h:XG op x fun v=>K v [] []):
 cV M φ H w fr ((do let y <- Op.unary op xv;pure (Next.value y):Sem Next).run P w) K:=by
 unfold XG at h
 split at h
 ·simp only[V.den,D.den]at hx;subst hx
  exact cV.plain hH _ h (by simp[Op.unary,Op.intArith]) rfl
 ·simp only[V.den,D.den]at hx;subst hx
  exact cV.plain hH _ h (by simp[Op.unary]) rfl
 ·exact h.elim
theorem AQ{op:BinOp}{k:IntKind}{a b r:Int}(h:ui op k a b=some r):(Op.intBits op k a b).run P w= .ok (.int k r) w:=by
 unfold ui at h
 cases op<;>simp at h<;>subst h<;>simp[Op.intBits]
theorem sw{t:TypeId}(hu:P.underlying t=some .bool)(a b:Bool)(d:Nat):(Op.equalIn (d+1) t (.bool a) (.bool b)).run P w= .ok (a==b) w:=by
 simp[Op.equalIn,run_underlying hu]
theorem M6(hH:aC M φ H w){op:BinOp}{t:TypeId}{p q:Operand}{x y:V}{xv yv:Value}(hx:V.den (ax M φ H) φ H w x xv)(hy:V.den (ax M φ H) φ H w y yv)
 (h:I4 P op t x y fun v=>K v [] []):
 cV M φ H w fr ((do let y <- (do eqGuard op t p q xv yv;binOp op t xv yv);pure (Next.value y):Sem Next).run P w) K:=by
 unfold I4 at h
 split at h
 ·rename_i k a k' b
  obtain⟨rfl,h⟩:=h
  simp only[V.den,D.den]at hx hy;subst hx;subst hy
  have hg:(eqGuard op t p q (.int k a) (.int k b)).run P w= .ok () w:=by
   exact SF
  have fin:∀ (v:V) (val:Value),K v [] []->(binOp op t (.int k a) (.int k b)).run P w= .ok val w->V.den (ax M φ H) φ H w v val->
   cV M φ H w fr ((do let y <- (do eqGuard op t p q (.int k a) (.int k b);binOp op t (.int k a) (.int k b));pure (Next.value y):Sem Next).run P w) K:=by
   intro v val hK hr hd
   exact cV.plain hH val hK (by simp[hg,hr]) hd
  cases op<;>simp only[MW]at h
  case add=>exact fin _ _ h SN rfl
  case sub=>exact fin _ _ h SN rfl
  case mul=>exact fin _ _ h SN rfl
  case quo=>exact fin _ _ h.2 (by simp[binOp,Op.intDiv,h.1]) rfl
  case rem=>exact fin _ _ h.2 (by simp[binOp,Op.intDiv,h.1]) rfl
  case and=>obtain⟨r,hr,hK⟩:=h;exact fin _ _ hK MN rfl
  case or=>obtain⟨r,hr,hK⟩:=h;exact fin _ _ hK MN rfl
  case xor=>obtain⟨r,hr,hK⟩:=h;exact fin _ _ hK MN rfl
  case andNot=>obtain⟨r,hr,hK⟩:=h;exact fin _ _ hK MN rfl
  all_goals
   obtain⟨r,hr,hK⟩:=h
   simp only[XF,Option.some.injEq]at hr
   subst hr
   exact fin _ _ hK (by simp[binOp,Op.intCmp];rfl) (by simp[V.den,D.den])
 ·rename_i a b
  simp only[V.den,D.den]at hx hy;subst hx;subst hy
  have hg:(eqGuard op t p q (.bool a) (.bool b)).run P w= .ok () w:=by
   exact SF
  split at h
  ·obtain⟨hu,hK⟩:=h
   have h1:(Op.equal t (.bool a) (.bool b)).run P w= .ok (a==b) w:=sw hu a b 9999
   exact cV.plain hH (.bool (a==b)) hK (by simp[hg,binOp,h1]) rfl
  ·obtain⟨hu,hK⟩:=h
   have h1:(Op.equal t (.bool a) (.bool b)).run P w= .ok (a==b) w:=sw hu a b 9999
   exact cV.plain hH (.bool (a !=b)) hK (by simp[hg,binOp,h1,bne]) rfl
  ·exact h.elim
 ·rename_i a b
  obtain⟨u,rfl,rfl⟩:=hx
  obtain⟨v,rfl,rfl⟩:=hy
  have hg:(eqGuard op t p q (.string u) (.string v)).run P w= .ok () w:=by
   exact SF
  split at h
  ·exact cV.plain hH (.bool (u.data.toList==v.data.toList)) h (by simp[hg,binOp,Op.stringOp,ByteArray.toList_eq]) rfl
  ·exact cV.plain hH (.bool (u.data.toList !=v.data.toList)) h (by simp[hg,binOp,Op.stringOp,ByteArray.toList_eq,bne]) rfl
  ·exact h.elim
 ·rename_i a b
  obtain⟨a',rfl,hx⟩:=hx
  obtain⟨b',rfl,hy⟩:=hy
  split at h
  ·obtain⟨r,hr,hK⟩:=h
   obtain⟨h1,h2⟩:=hr (ax M φ H) w (.agg a') (.agg b') ⟨a',rfl,hx⟩ ⟨b',rfl,hy⟩
   exact cV.plain hH (.bool r) hK (by simp[h2,binOp,h1]) rfl
  ·obtain⟨r,hr,hK⟩:=h
   obtain⟨h1,h2⟩:=hr (ax M φ H) w (.agg a') (.agg b') ⟨a',rfl,hx⟩ ⟨b',rfl,hy⟩
   exact cV.plain hH (.bool !r) hK (by simp[h2,binOp,h1]) rfl
  ·exact h.elim
 ·exact h.elim
theorem Ja(hH:aC M φ H w){c a b:V}{cv av bv:Value}(hc:V.den (ax M φ H) φ H w c cv)(ha:V.den (ax M φ H) φ H w a av)(hb:V.den (ax M φ H) φ H w b bv)
 (h:AY c a b fun v=>K v [] []):cV M φ H w fr ((do pure (.value (if <- asBool cv then av else bv)):Sem Next).run P w) K:=by
 unfold AY at h
 split at h
 ·rename_i t
  simp only[V.den,D.den]at hc;subst hc
  have hr:((do pure (.value (if <- asBool (.bool t)then av else bv)):Sem Next).run P w)= .ok (.value (if t then av else bv)) w:=by simp[asBool]
  have fin:∀v,K v [] []->V.den (ax M φ H) φ H w v (if t then av else bv)->cV M φ H w fr ((do pure (.value (if <- asBool (.bool t)then av else bv)):Sem Next).run P w) K:=
   fun v hK hd=>cV.same hH _ hK hr hd
  cases t
  ·exact fin _ (h.2 rfl) (by simpa using hb)
  ·exact fin _ (h.1 rfl) (by simpa using ha)
 ·exact h.elim
theorem tI{t:TypeId}{e:TypeId}(hu:P.underlying t=some (.slice e))(base:Option Addr)(n c:Nat)(ty:TypeId):(Builtin.len_ #[t] ty #[.slice base n c]).run P w= .ok (goInt n) w:=by
 simp[Builtin.len_,run_underlying hu]
theorem M7(hH:aC M φ H w){t ty:TypeId}{x:V}{xv:Value}(hx:V.den (ax M φ H) φ H w x xv)(h:I5 P t H.o x fun v rd=>K v [] rd):
 cV M φ H w fr ((do let y <- Builtin.len_ #[t] ty #[xv];pure (Next.value y):Sem Next).run P w) K:=by
 unfold I5 at h
 split at h
 ·rename_i e hu
  have fin:∀ {es:List D} {rd},D.den (ax M φ H) w (.sl es) xv->K (.d (.int .i64 es.length)) [] rd->cV M φ H w fr ((do let y <- Builtin.len_ #[t] ty #[xv];pure (Next.value y):Sem Next).run P w) K:=by
   rintro es rd ⟨base,len,cap,rfl,rfl,_⟩ hK
   exact cV.plain hH _ hK (tI hu _ _ _ _) rfl
  split at h
  ·exact fin hx h
  ·simp only[V.den]at hx;subst hx
   exact cV.plain hH _ h (tI hu _ _ _ _) rfl
  ·exact fin hx.1 h
  ·rename_i id ep
   split at h
   ·rename_i jj ty sz es ho
    obtain⟨rfl,hK⟩:=h
    obtain⟨M5,fG,wy⟩:=hx
    have hv:=(wy ep eV).2 rfl
    have bn:=hH.ok id
    simp only[ba,ho]at bn
    obtain⟨h3,xs,⟨_,bX⟩,_⟩:=bn
    subst hv
    rcases bX with⟨h4,h5⟩|⟨g,cap,cur,h4,_⟩
    ·rw[h4];rw[h5]at hK;exact cV.plain hH _ hK (tI hu _ _ _ _) rfl
    ·rw[h4];exact cV.plain hH _ hK (tI hu _ _ _ _) rfl
   ·rename_i jj es ho
    obtain⟨rfl,hK⟩:=h
    obtain⟨M5,fG,wy⟩:=hx
    have hv:=(wy ep eV).2 rfl
    have bn:=hH.ok id
    simp only[ba,ho]at bn
    exact fin (hv ▸ bn) hK
   ·exact h.elim
  ·exact h.elim
 ·rename_i hu
  split at h
  ·obtain⟨u,rfl,rfl⟩:=hx
   exact cV.plain hH (goInt u.size) h (by simp[Builtin.len_,run_underlying hu]) (by simp[V.den,D.den,goInt])
  ·exact h.elim
 ·rename_i n e hu
  exact cV.plain hH _ h (by simp[Builtin.len_,run_underlying hu];rfl) rfl
 ·exact h.elim
end
end Go.Proofs.YtonbelhklnmjnaaGreat
namespace Go.Proofs.YtonbelhklnmjnaaGreat
section
variable {P:Program}{M:Nat->Prop}{φ:Place}{H:Hp}{w:World}{fr:Nat}{K:V->List (Nat×ab)->List Nat->Prop}
def ab.fz:ab->ab
 | .arr ep _ _ es=> .su ep es
 | .map _ _ l=> .iJ l
 |o=>o
theorem l4(o:Nat->ab)(ids:List Nat):dk o ids=ids.map fun id=>(id,(o id).fz):=by
 unfold dk
 refine List.map_congr_left fun id _=> ?_
 cases o id<;>rfl
theorem ur(H:Hp){id:Nat}(hu:H.us id){x:ab}(hx:H.o id=x):H.put [(id,x)]=H:=by
 obtain⟨o,us⟩:=H
 simp only[Hp.put,put,List.foldl_cons,List.foldl_nil,Hp.mk.injEq,List.map_cons,List.map_nil,List.mem_singleton]
 constructor
 ·funext j
  by_cases hj:j=id
  ·subst hj;simpa using hx.symm
  ·simp[hj]
 ·funext j
  simp only[eq_iff_iff]
  exact⟨fun h=>h.elim (fun h=>h) fun e=>e ▸ hu, .inl⟩
theorem pW(o:Nat->ab):∀ (ids:List Nat) (H:Hp),aC M φ H w->(∀id∈ids,H.us id)->(∀id,H.o id=o id\/H.o id=(o id).fz)->
 let H':=H.put (ids.map fun id=>(id,(o id).fz));aC M φ H' w/\Trans φ H w φ H' w/\(∀id∈ids,H'.o id=(o id).fz)/\(∀id,H'.o id=o id\/H'.o id=(o id).fz)/\(∀id,id∉ids->H'.o id=H.o id)/\∀id,H'.us id↔H.us id
 |[],H,hH,_,ho=>by
  simp only[List.map_nil,nS]
  exact⟨hH,Trans.refl _ _ _,aj,ho,aj,aj⟩
 |id::ids,H,hH,hu,ho=>by
  have h1:aC M φ (H.put [(id,(o id).fz)]) w/\Trans φ H w φ (H.put [(id,(o id).fz)]) w:=by
   rcases ho id with h|h
   ·cases hx:o id with
    |arr ep ty sz es=>exact M0 hH (hu id aj) (h.trans hx)
    |map kt vt l=>exact EW hH (hu id aj) (h.trans hx)
    |_=>
     rw[ur H (hu id (by simp)) (h.trans (by rw[hx];rfl))]
     exact⟨hH,Trans.refl _ _ _⟩
   ·rw[ur H (hu id (by simp)) h]
    exact⟨hH,Trans.refl _ _ _⟩
  have h2:∀j,(H.put [(id,(o id).fz)]).o j=o j\/(H.put [(id,(o id).fz)]).o j=(o j).fz:=by
   intro j
   by_cases hj:j=id
   ·subst hj;right;simp
   ·simpa[hj]using ho j
  have ih:=pW o ids (H.put [(id,(o id).fz)]) h1.1 (fun j hj=>by simp[hu j (by simp[hj])]) h2
  obtain⟨i1,i2,i3,i4,i5,i6⟩:=ih
  have e:H.put ((id::ids).map fun id=>(id,(o id).fz))=(H.put [(id,(o id).fz)]).put (ids.map fun id=>(id,(o id).fz)):=by
   rw[<- eo];rfl
  rw[e]
  refine⟨i1,h1.2.trans i2,fun j hj=> ?_,i4,fun j hj=> ?_,fun j=> ?_⟩
  ·rcases List.mem_cons.1 hj with rfl|hj
   ·by_cases hm:j∈ids
    ·exact i3 j hm
    ·rw[i5 j hm];simp
   ·exact i3 j hj
  ·simp only[List.mem_cons,not_or]at hj
   rw[i5 j hj.2];simp[hj.1]
  ·rw[i6 j,et]
   exact⟨fun h=>h.elim (fun h=>h) fun e=>e ▸ hu id aj, .inl⟩
theorem du(hH:aC M φ H w)(ids:List Nat)(hu:∀id∈ids,H.us id):
 let H':=H.put (dk H.o ids);aC M φ H' w/\Trans φ H w φ H' w/\(∀id∈ids,H'.o id=(H.o id).fz)/\(∀id,id∉ids->H'.o id=H.o id)/\∀id,H'.us id↔H.us id:=by
 rw[l4]
 obtain⟨a,b,c,_,d,e⟩:=pW H.o ids H hH hu (fun _=> .inl rfl)
 exact⟨a,b,c,d,e⟩
mutual
theorem dn:∀ (v:V) (val:Value),V.den (ax M φ H) φ H w v val->∀id∈v.ids,H.us id
 | .osl id ep,_,h,j,hj=>by simp[V.ids]at hj;subst hj;exact h.2.1
 | .mp id,_,h,j,hj=>by simp[V.ids]at hj;subst hj;exact h.2.1
 | .agg cs,_,h,j,hj=>by obtain⟨a,rfl,h,_⟩:=h;exact dh cs _ h j (by simpa[V.ids]using hj)
 | .iface t x,_,h,j,hj=>by obtain⟨u,rfl,h⟩:=h;exact dn x u h j (by simpa[V.ids]using hj)
 | .d _,_,_,_,hj| .bW,_,_,_,hj| .ck _,_,_,_,hj| .ptr _ _,_,_,_,hj| .pe _ _ _ _ _,_,_,_,hj| .pp _ _,_,_,_,hj| .func _ _ _,_,_,_,hj| .aa,_,_,_,hj| .qT _,_,_,_,hj| .wY _ _ _,_,_,_,hj| .eZ,_,_,_,hj| .jO _,_,_,_,hj=>by simp[V.ids]at hj
theorem dh:∀ (vs:List V) (vals:List Value),V.aM (ax M φ H) φ H w vs vals->∀id∈V.bF vs,H.us id
 |[],_,_,j,hj=>by simp[V.bF]at hj
 |v::vs,_,h,j,hj=>by
  obtain⟨u,us,rfl,h1,h2⟩:=h
  rcases List.mem_append.1 (show j∈v.ids++V.bF vs from hj)with hj|hj
  ·exact dn v u h1 j hj
  ·exact dh vs us h2 j hj
end
mutual
theorem gr(hH:aC M φ H w){o:Nat->ab}:∀ (v:V) (x:D) (val:Value),(∀id∈v.ids,H.o id=(o id).fz)->dZ o v=some x->V.den (ax M φ H) φ H w v val->D.den (ax M φ H) w x val
 | .d y,x,val,_,h,hd=>by simp[dZ]at h;subst h;exact hd
 | .bW,x,val,_,h,hd=>by
   simp[dZ]at h;subst h
   simp only[V.den]at hd;subst hd
   exact⟨none,0,0,rfl,rfl,Nat.le_refl _,fun _=>rfl,0,fun a ha=>by cases ha⟩
 | .osl id ep,x,val,ho,h,hd=>by
   obtain⟨_,_,hd⟩:=hd
   have ho:=ho id (by simp[V.ids])
   have bn:=hH.ok id
   simp only[dZ]at h
   cases hx:o id with
   |no=>simp[hx]at h
   |row cs=>simp[hx]at h
   |map kt vt l=>simp[hx]at h
   |loop nf n env ps iK eE st GC=>simp[hx]at h
   |iJ l=>simp[hx]at h
   |mP l last=>simp[hx]at h
   |yR s pos=>simp[hx]at h
   |arr jj ty sz es=>
    simp only[hx]at h ho
    split at h
    ·rename_i e;subst e;injection h with h;subst h
     simp only[ab.fz]at ho
     simp only[ba,ho]at bn
     rw[(hd ep (by rw[ho];rfl)).2 rfl];exact bn
    ·cases h
   |su jj es=>
    simp only[hx]at h ho
    split at h
    ·rename_i e;subst e;injection h with h;subst h
     simp only[ab.fz]at ho
     simp only[ba,ho]at bn
     rw[(hd ep (by rw[ho];rfl)).2 rfl];exact bn
    ·cases h
 | .mp id,x,val,ho,h,hd=>by
   obtain⟨_,_,hd⟩:=hd
   have ho:=ho id (by simp[V.ids])
   have bn:=hH.ok id
   simp only[dZ]at h
   cases hx:o id with
   |map kt vt l=>
    simp only[hx]at h ho
    injection h with h;subst h
    simp only[ab.fz]at ho
    simp only[ba,ho]at bn
    rw[hd (by rw[ho];rfl)];exact bn
   |iJ l=>
    simp only[hx]at h ho
    injection h with h;subst h
    simp only[ab.fz]at ho
    simp only[ba,ho]at bn
    rw[hd (by rw[ho];rfl)];exact bn
   |_=>simp[hx]at h
 | .agg cs,x,val,ho,h,hd=>by
   simp only[dZ,Option.map_eq_some_iff]at h
   obtain⟨ds,h1,rfl⟩:=h
   obtain⟨a,rfl,h2,h3⟩:=hd
   exact⟨a,rfl,dE hH cs ds _ (fun id aB=>ho id (by simpa[V.ids]using aB)) h1 h2,h3⟩
 | .iface t y,x,val,ho,h,hd=>by
   simp only[dZ,Option.map_eq_some_iff]at h
   obtain⟨z,h1,rfl⟩:=h
   obtain⟨u,rfl,h2⟩:=hd
   exact⟨u,rfl,gr hH y z u (fun id aB=>ho id (by simpa[V.ids]using aB)) h1 h2⟩
 | .ck _,_,_,_,h,_| .ptr _ _,_,_,_,h,_| .pe _ _ _ _ _,_,_,_,h,_| .pp _ _,_,_,_,h,_| .func _ _ _,_,_,_,h,_| .aa,_,_,_,h,_| .wY _ _ _,_,_,_,h,_| .eZ,_,_,_,h,_| .jO _,_,_,_,h,_=>by simp[dZ]at h
 | .qT es,x,val,_,h,hd=>by simp[dZ]at h;subst h;exact hd.1
theorem dE(hH:aC M φ H w){o:Nat->ab}:∀ (vs:List V) (xs:List D) (vals:List Value),(∀id∈V.bF vs,H.o id=(o id).fz)->cn o vs=some xs->V.aM (ax M φ H) φ H w vs vals->D.aM (ax M φ H) w xs vals
 |[],xs,vals,_,h,hd=>by simp[cn]at h;subst h;exact hd
 |v::vs,xs,vals,ho,h,hd=>by
  simp only[cn,Option.bind_eq_some_iff,Option.map_eq_some_iff]at h
  obtain⟨x,h1,ys,h2,rfl⟩:=h
  obtain⟨u,us,rfl,h3,h4⟩:=hd
  exact⟨u,us,rfl,gr hH v x u (fun id aB=>ho id (by simp[V.bF,aB])) h1 h3,dE hH vs ys us (fun id aB=>ho id (by simp[V.bF,aB])) h2 h4⟩
end
theorem sx(hH:aC M φ H w)(db: ¬H.us fr){s:Sem Value}(cs:List V)(dO:Array Value)(ty:TypeId)(hK:K (.ptr fr 0) [(fr, .row cs)] [])
 (hr:s.run P w= .ok (.pointer (some ⟨w.heap.size,0,none⟩)) (w.alloc (.cells dO ty))) (hd:V.aM (ax M φ H) φ H w cs dO.toList) (hf:Flat dO.toList):
 cV M φ H w fr ((do let y <- s;pure (Next.value y):Sem Next).run P w) K:=by
 obtain⟨h1,h2,h3⟩:=MZ hH db cs dO ty hd hf
 exact⟨_,_,_,_,_,_,_,hK,by simp[hr], .inl rfl,h1,h2,h3,aj⟩
theorem GF(hH:aC M φ H w)(db: ¬H.us fr){t:TypeId}(h:∃cs,cL P t=some cs/\K (.ptr fr 0) [(fr, .row cs)] []):
 cV M φ H w fr ((do let y <- Instr.alloc t true (.tuple #[]);pure (Next.value y):Sem Next).run P w) K:=by
 obtain⟨cs,hz,hK⟩:=h
 obtain⟨i,v,h1,h2,h3,h4,rfl⟩:=j6 hz
 refine sx hH db _ v.cells t hK ?_ (dR _ h4) h4
 simp[Instr.alloc,zeroValue,typeInfo,h1,h2,newVar,newRow]
theorem M8(hH:aC M φ H w)(db: ¬H.us fr){t:TypeId}{x:V}{xv:Value}(hx:V.den (ax M φ H) φ H w x xv)(h:∃cs,x.cells=some cs/\K (.ptr fr 0) [(fr, .row cs)] []):
 cV M φ H w fr ((do let y <- Instr.box t xv;pure (Next.value y):Sem Next).run P w) K:=by
 obtain⟨cs,hc,hK⟩:=h
 obtain⟨h1,h2⟩:=V.nR x xv cs hc hx
 refine sx hH db _ xv.cells t hK ?_ h1 h2
 simp[Instr.box,newVar,newRow]
theorem GG(off:Nat):∀ (us:List Value) (cells:Array Value),off+us.length<=cells.size->
 ((us.zipIdx.foldl (fun cs (p:Value×Nat)=>cs.setIfInBounds (off+p.2) p.1) cells)).toList=cells.toList.take off++us++cells.toList.drop (off+us.length):=by
 have key:∀ (us:List Value) (k:Nat) (cells:Array Value),off+k+us.length<=cells.size->
  (((us.zipIdx k).foldl (fun cs (p:Value×Nat)=>cs.setIfInBounds (off+p.2) p.1) cells)).toList=cells.toList.take (off+k)++us++cells.toList.drop (off+k+us.length):=by
  intro us
  induction us with
  |nil=>intro k cells h;simp
  |cons u us ih=>
   intro k cells h
   simp only[List.zipIdx_cons,List.foldl_cons]
   rw[ih (k+1) _ (by simp at h|-;omega)]
   simp only[Array.toList_setIfInBounds,List.length_cons]
   have cU:off+k<cells.toList.length:=by simp at h|-;omega
   rw[show off+(k+1)=off+k+1 by omega,List.take_set,List.take_succ_eq_append_getElem cU,List.set_append_right _ _ (by simp;omega)]
   simp only[List.length_take]
   rw[show min (off+k) cells.toList.length=off+k by omega,Nat.sub_self]
   simp only[List.set_cons_zero,List.append_assoc,List.cons_append,List.nil_append]
   rw[List.drop_set_of_lt (by omega)]
   congr 3
   rw[show off+k+1+us.length=off+k+(us.length+1) by omega]
 intro us cells h
 have:=key us 0 cells Gy
 simpa using this
theorem Bb(places:List (Nat×Nat)):∀ (parts:List (Nat×V)) (l5:List (Nat×Value)) (cs cs':List V) (cells:Array Value),
 l5.map (·.1)=parts.map (·.1)->V.aM (ax M φ H) φ H w (parts.map (·.2)) (l5.map (·.2))->V.aM (ax M φ H) φ H w cs cells.toList->Flat cells.toList->sv places cs parts=some cs'->
 ∃iM,(∀place:Nat->Option (Nat×Nat),(∀i p,places[i]? =some p->place i=some p)->Instr.fill place cells l5=some iM)/\V.aM (ax M φ H) φ H w cs' iM.toList/\Flat iM.toList
 |[],l5,cs,cs',cells,h1,_,h3,h4,h=>by
  cases l5 with
  |nil=>simp[sv]at h;subst h;exact⟨cells,fun _ _=>rfl,h3,h4⟩
  |cons a l=>simp at h1
 |(i,v)::parts,l5,cs,cs',cells,h1,h2,h3,h4,h=>by
  cases l5 with
  |nil=>simp at h1
  |cons a l5=>
   obtain⟨i',val⟩:=a
   simp only[List.map_cons,List.cons.injEq]at h1
   obtain⟨rfl,h1⟩:=h1
   simp only[List.map_cons]at h2
   obtain⟨u,us,e,h5,h6⟩:=h2
   simp only[List.cons.injEq]at e
   obtain⟨rfl,rfl⟩:=e
   simp only[sv]at h
   split at h
   ·rename_i off size us Dl hc
    split at h
    ·rename_i ec
     obtain⟨g1,g2⟩:=V.nR v _ us hc h5
     have hl:=V.aH _ _ g1
     have hl3:=V.aH _ _ h3
     have hs:=GG off val.cells.toList cells (by simp at hl hl3|-;omega)
     rw[Array.length_toList]at hl hl3
     have ih:=Bb places parts l5 _ cs' (val.cells.toList.zipIdx.foldl (fun cs (p:Value×Nat)=>cs.setIfInBounds (off+p.2) p.1) cells) h1 h6 (by
      rw[hs]
      refine V.bI _ _ _ _ (V.bI _ _ _ _ (V.dQ _ _ _ h3) g1) ?_
      rw[show val.cells.toList.length=us.length by simpa using hl]
      exact V.eL _ _ _ h3) (by
      rw[hs]
      intro x hx
      simp only[List.mem_append]at hx
      rcases hx with(hx|hx)|hx
      ·exact h4 x (List.mem_of_mem_take hx)
      ·exact g2 x hx
      ·exact h4 x (List.mem_of_mem_drop hx)) h
     obtain⟨iM,i1,i2⟩:=ih
     refine⟨iM,fun place hp=> ?_,i2⟩
     have i1:=i1 place hp
     simp only[Instr.fill,hp _ _ Dl]
     rw[if_neg (by simp;omega), <- i1]
     have e:∀ (c:Array Value),c.zipIdx.foldl (fun cs (x:Value×Nat)=>cs.setIfInBounds (off+x.2) x.1) cells=c.toList.zipIdx.foldl (fun cs (x:Value×Nat)=>cs.setIfInBounds (off+x.2) x.1) cells:=by
      intro c;rw[<- Array.foldl_toList,Array.toList_zipIdx]
     rw[<- e]
    ·cases h
   ·cases h
theorem Bc{t:TypeId}{pl:List (Nat×Nat)}(h:gh P t=some pl)(parts:List (Nat×Value))(cells iM:Array Value){i:TypeInfo}{z:Value}(hi:P.info? t=some i)(hz:i.zero=some z)(hc:z.cells=cells)
 (hf:∀place:Nat->Option (Nat×Nat),(∀i p,pl[i]? =some p->place i=some p)->Instr.fill place cells parts=some iM):
 P.built t parts=some iM:=by
 subst hc
 unfold gh at h
 unfold Program.built
 cases hd:P.underlying t with
 |none=>simp[hd]at h
 |some d=>
  cases d<;>simp only[hd]at h<;>try (cases h;done)
  case struct fs=>
   simp only[Option.ite_none_right_eq_some,Option.some.injEq]at h
   obtain⟨bz,rfl⟩:=h
   have hm:fs.toList.mapM (fun f=>(P.info? f.type).map fun i=>(f.offset,i.size))=some (fs.toList.map fun f=>(f.offset,P.cellsOf f.type)):=by
    generalize fs.toList=l at bz
    clear hf
    induction l with
    |nil=>rfl
    |cons f l ih=>
     simp only[List.all_cons,Bool.and_eq_true]at bz
     obtain⟨j,hj⟩:=Option.isSome_iff_exists.1 bz.1
     simp[List.mapM_cons,ih bz.2,hj,b9 hj]
   simp only[hi,hz,hm]
   exact hf _ aj
  case array n e=>
   simp only[Option.ite_none_right_eq_some,Option.some.injEq]at h
   obtain⟨bz,rfl⟩:=h
   obtain⟨j,hj⟩:=Option.isSome_iff_exists.1 bz
   simp only[hi,hz,hj]
   refine hf _ fun k p hp=> ?_
   rw[List.getElem?_map]at hp
   simp only[Option.map_eq_some_iff]at hp
   obtain⟨a,h1,rfl⟩:=hp
   rw[List.getElem?_range]at h1
   ·injection h1 with h1;subst h1;rw[b9 hj]
   ·rcases Nat.lt_or_ge k n with hn|hn
    ·exact hn
    ·rw[List.getElem?_eq_none (by simpa using hn)]at h1;cases h1
theorem GH(hH:aC M φ H w){t:TypeId}{parts:Array (Nat×Operand)}{s:S}{a:Act}(eG:∀i,V.den (ax M φ H) φ H w (s.env i) (a.tmps.getD i undef))
 (h:∃z pl cs,cL P t=some z/\gh P t=some pl/\sv pl z (parts.toList.map fun p=>(p.1,s.ev p.2))=some cs/\K (my cs) [] []):
 cV M φ H w fr ((do let y <- Instr.build t (parts.map fun(i,x)=>(i,a.eval x));pure (Next.value y):Sem Next).run P w) K:=by
 obtain⟨z,pl,cs,hz,Dl,pD,hK⟩:=h
 obtain⟨i,zv,h1,h2,h3,h4,rfl⟩:=j6 hz
 have hd:V.aM (ax M φ H) φ H w ((parts.toList.map fun p=>(p.1,s.ev p.2)).map (·.2)) ((parts.map fun(i,x)=>(i,a.eval x)).toList.map (·.2)):=by
  have:=kJ s a eG (parts.toList.map (·.2))
  simpa[Function.comp_def]using this
 have he:(parts.map fun(i,x)=>(i,a.eval x)).toList.map (·.1)=(parts.toList.map fun p=>(p.1,s.ev p.2)).map (·.1):=by simp[Function.comp_def]
 obtain⟨iM,g1,g2,g3⟩:=Bb (M:=M) (φ:=φ) (H:=H) (w:=w) pl _ _ _ cs zv.cells he hd (dR _ h4) h4 pD
 have hb:P.built t (parts.map fun(i,x)=>(i,a.eval x)).toList=some iM:=Bc Dl _ zv.cells iM h1 h2 rfl g1
 exact cV.plain hH (.agg iM) hK (run_build w t _ iM hb) (lB _ _ g2 g3)
end
end Go.Proofs.YtonbelhklnmjnaaGreat
