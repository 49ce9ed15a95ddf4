/-
  A PART OF THE PROOF. Conditions: none.
-/
import Derived.Great.BuildSlice
import Derived.Great.FillDense
import Derived.Test.YtonbelhklnmjnaaGreatLt1
set_option linter.unusedSimpArgs false
set_option linter.unusedVariables false
namespace Go.Proofs.YtonbelhklnmjnaaGreat
section
variable {B:Nat->Prop}{φ:Place}{H:Hp}{w:World}
theorem V.aH:∀ (cs:List V) (vs:List Value),V.aN B φ H w cs vs->vs.length=cs.length
 |[],_,h=>by simp[V.aN]at h;simp[h]
 |c::cs,_,h=>by obtain⟨u,us,rfl,_,h2⟩:=h;simp[V.aH cs us h2]
theorem V.dV:∀ (cs:List V) (vs:List Value) (i:Nat) (c:V),V.aN B φ H w cs vs->cs[i]? =some c->∃v,vs[i]? =some v/\V.den B φ H w c v
 |[],_,_,_,_,hd=>by simp at hd
 |c::cs,_,0,x,h,hd=>by
  obtain⟨u,us,rfl,h1,_⟩:=h
  simp at hd;subst hd;exact⟨u,aj,h1⟩
 |c::cs,_,i+1,x,h,hd=>by
  obtain⟨u,us,rfl,_,h2⟩:=h
  simpa using V.dV cs us i x h2 (by simpa using hd)
theorem V.bI:∀ (cs ds:List V) (us vs:List Value),V.aN B φ H w cs us->V.aN B φ H w ds vs->V.aN B φ H w (cs++ds) (us++vs)
 |[],ds,us,vs,h,k=>by simp[V.aN]at h;subst h;simpa using k
 |c::cs,ds,_,vs,h,k=>by
  obtain⟨u,us,rfl,h1,h2⟩:=h
  exact⟨u,us++vs,aj,h1,V.bI cs ds us vs h2 k⟩
theorem V.dW:∀ (n:Nat) (cs:List V) (vs:List Value),V.aN B φ H w cs vs->V.aN B φ H w (cs.take n) (vs.take n)
 |0,_,_,_=>by simp[V.aN]
 |n+1,[],_,h=>by simp[V.aN]at h;subst h;simp[V.aN]
 |n+1,c::cs,_,h=>by
  obtain⟨u,us,rfl,h1,h2⟩:=h
  exact⟨u,us.take n,aj,h1,V.dW n cs us h2⟩
theorem V.eR:∀ (n:Nat) (cs:List V) (vs:List Value),V.aN B φ H w cs vs->V.aN B φ H w (cs.drop n) (vs.drop n)
 |0,_,_,h=>by simpa using h
 |n+1,[],_,h=>by simp[V.aN]at h;subst h;simp[V.aN]
 |n+1,c::cs,_,h=>by
  obtain⟨u,us,rfl,h1,h2⟩:=h
  simpa using V.eR n cs us h2
theorem V.cE:∀ (ds:List D) (vs:List Value),V.aN B φ H w (ds.map .d) vs↔D.aN B w ds vs
 |[],vs=>by simp[V.aN,D.aN]
 |x::ds,vs=>by simp only[List.map_cons,V.aN,D.aN,V.den,V.cE ds]
theorem D.bI:∀ (cs ds:List D) (us vs:List Value),D.aN B w cs us->D.aN B w ds vs->D.aN B w (cs++ds) (us++vs)
 |[],ds,us,vs,h,k=>by simp[D.aN]at h;subst h;simpa using k
 |c::cs,ds,_,vs,h,k=>by
  obtain⟨u,us,rfl,h1,h2⟩:=h
  exact⟨u,us++vs,aj,h1,D.bI cs ds us vs h2 k⟩
theorem D.dW:∀ (n:Nat) (cs:List D) (vs:List Value),D.aN B w cs vs->D.aN B w (cs.take n) (vs.take n)
 |0,_,_,_=>by simp[D.aN]
 |n+1,[],_,h=>by simp[D.aN]at h;subst h;simp[D.aN]
 |n+1,c::cs,_,h=>by
  obtain⟨u,us,rfl,h1,h2⟩:=h
  exact⟨u,us.take n,aj,h1,D.dW n cs us h2⟩
theorem D.eR:∀ (n:Nat) (cs:List D) (vs:List Value),D.aN B w cs vs->D.aN B w (cs.drop n) (vs.drop n)
 |0,_,_,h=>by simpa using h
 |n+1,[],_,h=>by simp[D.aN]at h;subst h;simp[D.aN]
 |n+1,c::cs,_,h=>by
  obtain⟨u,us,rfl,h1,h2⟩:=h
  simpa using D.eR n cs us h2
theorem D.A8:∀ (i:Nat) (ds:List D) (vs:List Value) (x:D) (v:Value),D.aN B w ds vs->D.den B w x v->D.aN B w (ds.set i x) (vs.set i v)
 |_,[],_,_,_,h,_=>by simp[D.aN]at h;subst h;simp[D.aN]
 |0,c::cs,_,x,v,h,k=>by
  obtain⟨u,us,rfl,h1,h2⟩:=h
  exact⟨v,us,aj,k,h2⟩
 |i+1,c::cs,_,x,v,h,k=>by
  obtain⟨u,us,rfl,h1,h2⟩:=h
  exact⟨u,us.set i v,aj,h1,D.A8 i cs us x v h2 k⟩
theorem xh:∀ (cs:List V) (ds:List D),DC cs=some ds->cs=ds.map .d
 |[],ds,h=>by simp[DC]at h;subst h;rfl
 | .d x::cs,ds,h=>by
   simp only[DC,Option.map_eq_some_iff]at h
   obtain⟨a,h1,rfl⟩:=h
   simp[xh cs a h1]
 | .bO::_,_,h| .agg _::_,_,h| .cp _::_,_,h| .ptr _ _::_,_,h| .osl _ _::_,_,h| .pe _ _ _ _ _::_,_,h| .pp _ _::_,_,h
 | .func _ _ _::_,_,h| .iface _ _::_,_,h| .aa::_,_,h| .qZ _::_,_,h| .xd _ _ _::_,_,h| .mp _::_,_,h| .fh::_,_,h=>by simp[DC]at h
theorem lF(cs:List V)(a:Array Value)(h:V.aN B φ H w cs a.toList)(hf:Flat a.toList):V.den B φ H w (mD cs) (.agg a):=by
 unfold mD
 split
 ·rename_i ds hd
  have:=xh cs ds hd
  subst this
  exact⟨a,rfl,(V.cE ds _).1 h,hf⟩
 ·exact⟨a,rfl,h,hf⟩
theorem D.nX:∀ (x:D) (v:Value),D.den B w x v->(∃cs a,x= .agg cs/\v= .agg a)\/v.oneCell'=true/\x.cells=[x]/\v.cells=#[v]
 | .int _ _,_,h| .bool _,_,h| .fD,_,h| .mM,_,h| .bW,_,h| .jq,_,h=>by
   simp only[D.den]at h;subst h;exact .inr ⟨rfl,rfl,rfl⟩
 | .str l,_,h=>by obtain⟨s,rfl,_⟩:=h;exact .inr ⟨rfl,rfl,rfl⟩
 | .agg cs,_,h=>by obtain⟨a,rfl,_,_⟩:=h;exact .inl ⟨cs,a,rfl,rfl⟩
 | .sl es,_,h=>by obtain⟨b,l,c,rfl,_⟩:=h;exact .inr ⟨rfl,rfl,rfl⟩
 | .iface t x,_,h=>by obtain⟨u,rfl,_⟩:=h;exact .inr ⟨rfl,rfl,rfl⟩
 | .mp ks vs,_,h=>by obtain⟨m,es,c,p,rfl,_⟩:=h;exact .inr ⟨rfl,rfl,rfl⟩
theorem D.fE (x:D)(v:Value)(h:D.den B w x v):D.aN B w x.cells v.cells.toList/\Flat v.cells.toList:=by
 rcases D.nX x v h with⟨cs,a,rfl,rfl⟩|⟨h1,h2,h3⟩
 ·obtain⟨a',h1,h2,h3⟩:=h
  injection h1 with h1;subst h1
  exact⟨h2,h3⟩
 ·rw[h2,h3]
  exact⟨⟨v,[],rfl,h,rfl⟩,by intro u hu;simp at hu;subst hu;exact h1⟩
theorem V.nX (x:V)(v:Value)(us:List V)(hx:x.cells=some us)(h:V.den B φ H w x v):V.aN B φ H w us v.cells.toList/\Flat v.cells.toList:=by
 have one:∀ (y:V),v.oneCell'=true->V.den B φ H w y v->V.aN B φ H w [y] v.cells.toList/\Flat v.cells.toList:=by
  intro y h1 h2
  have h3:v.cells=#[v]:=by cases v<;>simp_all[Value.oneCell',Value.cells]
  rw[h3]
  exact⟨⟨v,[],rfl,h2,rfl⟩,by intro u hu;simp at hu;subst hu;exact h1⟩
 cases x with
 |d x=>
  simp only[V.cells,Option.some.injEq]at hx;subst hx
  have:=D.fE x v h
  exact⟨(V.cE _ _).2 this.1,this.2⟩
 |bO=>simp only[V.cells,Option.some.injEq]at hx;subst hx;exact one _ (by cases h;rfl) h
 |agg cs=>
  simp only[V.cells,Option.some.injEq]at hx;subst hx
  obtain⟨a,rfl,h1,h2⟩:=h
  exact⟨h1,h2⟩
 |cp vs=>simp[V.cells]at hx
 |aa=>simp[V.cells]at hx
 |ptr id off=>simp only[V.cells,Option.some.injEq]at hx;subst hx;exact one _ h.1 h
 |osl id ep=>simp only[V.cells,Option.some.injEq]at hx;subst hx;exact one _ h.1 h
 |pe id ep i sz off=>simp only[V.cells,Option.some.injEq]at hx;subst hx;exact one _ h.1 h
 |pp cs off=>simp only[V.cells,Option.some.injEq]at hx;subst hx;exact one _ (by obtain⟨a,ev,_,rfl,_⟩:=h;rfl) h
 |func fn f c=>simp only[V.cells,Option.some.injEq]at hx;subst hx;exact one _ (by obtain⟨a,ev,rfl,_⟩:=h;rfl) h
 |iface t y=>simp only[V.cells,Option.some.injEq]at hx;subst hx;exact one _ (by obtain⟨a,rfl,_⟩:=h;rfl) h
 |qZ es=>simp only[V.cells,Option.some.injEq]at hx;subst hx;exact one _ (by obtain⟨_,b,n,rfl⟩:=h;rfl) h
 |xd id off n=>simp only[V.cells,Option.some.injEq]at hx;subst hx;exact one _ h.1 h
 |mp id=>simp only[V.cells,Option.some.injEq]at hx;subst hx;exact one _ h.1 h
 |jU id=>simp only[V.cells,Option.some.injEq]at hx;subst hx;exact one _ h.1 h
 |fh=>simp only[V.cells,Option.some.injEq]at hx;subst hx;exact one _ (by obtain⟨a,rfl⟩:=h;rfl) h
theorem l4(v:Value)(h:v.oneCell'=true):V.den B φ H w (V.dG v) v:=by
 cases v<;>simp_all only[Value.oneCell',V.dG,V.den,D.den]<;>try trivial
 all_goals (try (split<;>simp_all[V.den,D.den]))
 all_goals (try first|(simp_all[D.den];done)|simp_all)
theorem dX:∀ (vs:List Value),Flat vs->V.aN B φ H w (vs.map V.dG) vs
 |[],_=>rfl
 |v::vs,h=>⟨v,vs,rfl,l4 v (h v aj),dX vs fun u hu=>h u (by simp[hu])⟩
end
end Go.Proofs.YtonbelhklnmjnaaGreat
namespace Go.Proofs.YtonbelhklnmjnaaGreat
theorem nY(H:Hp):H.put []=H:=by
 obtain⟨o,us⟩:=H
 simp[Hp.put,put]
theorem ey(H:Hp)(A C:List (Nat×ab)):H.put (A++C)=(H.put A).put C:=by
 obtain⟨o,us⟩:=H
 simp only[Hp.put,put,List.foldl_append,Hp.mk.injEq,true_and]
 funext id
 simp only[List.map_append,List.mem_append,eq_iff_iff]
 exact⟨fun h=>by rcases h with h|h|h<;>simp[h],fun h=>by rcases h with(h|h)|h<;>simp[h]⟩
@[simp] theorem bQ (H:Hp) (i:Nat) (x:ab):(H.put [(i,x)]).o=aM H.o i x:=rfl
@[simp] theorem ez (H:Hp) (i j:Nat) (x:ab):(H.put [(i,x)]).us j↔(H.us j\/j=i):=by simp[Hp.put]
section
variable {M:Nat->Prop}{φ aQ:Place}{H H':Hp}{w w':World}
theorem bc.A9 (ze:∀b,dw w b-> ¬ay M φ H b->w'.heap[b]? =w.heap[b]? /\ ¬ay M aQ H' b)(hrl:ew φ H aQ H'){id:Nat}(ho:H'.o id=H.o id)(fb:aQ id=φ id)
 (hb:(H.o id).live=true->∀b,eQ (φ id)=some b->w'.heap[b]? =w.heap[b]?) (h:bc M φ H w id):bc M aQ H' w' id:=by
 unfold bc at*
 rw[ho]
 cases hx:H.o id with
 |no=>trivial
 |row cs=>
  simp only[hx]at h|-
  obtain⟨b,dU,ty,h1,h2,h3,h4⟩:=h
  exact⟨b,dU,ty,fb.trans h1,(hb AY b GW).trans h2,V.gK ze hrl cs _ h3,h4⟩
 |arr ep ty sz es=>
  simp only[hx]at h|-
  obtain⟨h0,xs,h1,evs,h2,h3,h4⟩:=h
  refine⟨h0,xs, ?_,evs,h2,h3,D.ba ze es evs h4⟩
  rw[fb]
  obtain⟨g1,g2⟩:=h1
  refine⟨g1, ?_⟩
  rcases g2 with g2|⟨g,cap,cur,k1,k2,k3,k4⟩
  ·exact .inl g2
  ·exact .inr ⟨g,cap,cur,k1,k2,(hb AY g (by rw[k1];rfl)).trans k3,k4⟩
 |sv ep es=>
  simp only[hx]at h|-
  rw[fb]
  exact D.aT ze (.sl es) _ h
 |map kt vt l=>
  simp only[hx]at h|-
  obtain⟨b,es,clock,h1,h2,h4,h3⟩:=h
  exact⟨b,es,clock,fb.trans h1,(hb AY b GW).trans h2,h4,aY.mono ze l _ h3⟩
 |iP l=>
  simp only[hx]at h|-
  rw[fb]
  exact D.aT ze (.mp _ _) _ h
 |mW l last=>
  simp only[hx]at h|-
  obtain⟨b,h1,h2⟩:=h
  exact⟨b,fb.trans h1,h2.mono ze (hb AY b GW)⟩
 |za s pos=>
  simp only[hx]at h|-
  obtain⟨b,h1,h2⟩:=h
  exact⟨b,fb.trans h1,(hb AY b GW).trans h2⟩
 |loop nf n env ps iQ eJ st GY=>
  simp only[hx]at h|-
  obtain⟨b,r,h1,h2,h0,h3,h4,h5,h6,h7,h8,h9⟩:=h
  exact⟨b,r,fb.trans h1,(hb AY b GW).trans h2,h0,h3,h4,h5,h6,h7,h8,fun i=>V.lD ze hrl _ _ (h9 i)⟩
theorem bc.mono (ht:Trans φ H w aQ H' w'){id:Nat}(ho:H'.o id=H.o id)(fb:aQ id=φ id)
 (hb:(H.o id).live=true->∀b,eQ (φ id)=some b->w'.heap[b]? =w.heap[b]?) (h:bc M φ H w id):bc M aQ H' w' id:=bc.A9 ht.blocks ht.rel ho fb hb h
theorem aD.of (hH:aD M φ H w)(ht:Trans φ H w aQ H' w')(T:Nat->Prop)(hT:∀id,T id->bc M aQ H' w' id)
 (hn:∀id, ¬T id->H'.o id=H.o id/\aQ id=φ id/\((H.o id).live=true->∀b,eQ (φ id)=some b->w'.heap[b]? =w.heap[b]?))
 (kg:∀id, ¬H'.us id->H'.o id= .no)
 (Yb:∀i j b,(H'.o i).live=true->(H'.o j).live=true->eQ (aQ i)=some b->eQ (aQ j)=some b->i=j)
 (Yc:∀b,df aQ H' b->b<w'.heap.size):aD M aQ H' w' where
 ok id:=by
  by_cases hc:T id
  ·exact hT id hc
  ·obtain⟨h1,h2,h3⟩:=hn id hc
   exact(hH.ok id).mono ht h1 h2 h3
 fresh:=kg
 apart:=Yb
 ours b hb:=by
  refine⟨fun hM=> ?_,Yc b hb⟩
  rcases ht.grow b hb with h1|h1
  ·exact(hH.ours b h1).1 hM
  ·have:=hH.AL b hM;omega
 AL b hM:=Nat.lt_of_lt_of_le (hH.AL b hM) ht.cA.size
theorem eS(hk:eK (fun _=>False) w w'){fr:Nat}(dc: ¬H.us fr)(obj:ab)(val:Value)(fO:∀b,eQ val=some b->w.heap.size<=b):
 Trans φ H w (aM φ fr val) (H.put [(fr,obj)]) w' where
 cA:=⟨hk.os,hk.tape,hk.output,hk.size,fun k h _=>hk.block k h (fun h=>h)⟩
 grow b:=by
  rintro⟨id,h1,h2⟩
  by_cases aC:id=fr
  ·subst aC;simp at h2;exact .inr (fO b h2)
  ·simp[aC]at h1 h2;exact .inl ⟨id,h1,h2⟩
 rel:={
  us:=fun id h=>by simp[h]
  row:=fun id hu hr=>by
   have aC:id≠fr:=fun h=>dc (h ▸ hu)
   simp[aC]at hr|-;exact hr
  ep:=fun id e' hu he=>by
   have aC:id≠fr:=fun h=>dc (h ▸ hu)
   simp[aC]at he|-;exact⟨e',he,Nat.le_refl _⟩}
theorem jt(hH:aD M φ H w)(hk:eK (fun _=>False) w w'){fr:Nat}(dc: ¬H.us fr)(obj:ab)(val:Value)(fO:∀b,eQ val=some b->w.heap.size<=b/\b<w'.heap.size)
 (uu:bc M (aM φ fr val) (H.put [(fr,obj)]) w' fr):aD M (aM φ fr val) (H.put [(fr,obj)]) w':=by
 have ht:Trans φ H w (aM φ fr val) (H.put [(fr,obj)]) w':=eS hk dc obj val fun b hb=>(fO b hb).1
 refine hH.of ht (· =fr) (fun id h=>h ▸ uu) (fun id h=> ?_) (fun id h=> ?_) (fun i j b hi hj bi bj=> ?_) (fun b=> ?_)
 ·refine⟨by simp[h],by simp[h],fun hl b hb=>hk.block b ?_ (fun h=>h)⟩
  exact(hH.ours b ⟨id,hl,hb⟩).2
 ·rw[ez]at h
  have h1:id≠fr:=fun e=>h (.inr e)
  simp only[bQ,aS,h1,if_false]
  exact hH.fresh id fun hu=>h (.inl hu)
 ·by_cases e1:i=fr<;>by_cases e2:j=fr
  ·exact e1.trans e2.symm
  ·simp[e1,e2]at hi hj bi bj
   have:=(hH.ours b ⟨j,hj,bj⟩).2;have:=(fO b bi).1;omega
  ·simp[e1,e2]at hi hj bi bj
   have:=(hH.ours b ⟨i,hi,bi⟩).2;have:=(fO b bj).1;omega
  ·simp[e1,e2]at hi hj bi bj
   exact hH.apart i j b hi hj bi bj
 ·rintro⟨id,h1,h2⟩
  by_cases aC:id=fr
  ·subst aC;simp at h2;exact(fO b h2).2
  ·simp[aC]at h1 h2
   exact Nat.lt_of_lt_of_le (hH.ours b ⟨id,h1,h2⟩).2 hk.size
theorem cU(w:World)(o:Obj):eK (fun _=>False) w (w.alloc o):=
 ⟨rfl,rfl,rfl,aj,fun k hk _=>RowKit.Below.heap_alloc w o k hk⟩
theorem l5{w w':World}(h:w.grownBy w' none):eK (fun _=>False) w w':=
 ⟨h.os,h.tape,h.output,h.size,fun k hk _=>h.block k hk aj⟩
theorem Nr(hH:aD M φ H w){fr:Nat}(dc: ¬H.us fr)(cs:List V)(dU:Array Value)(ty:TypeId)(hd:V.aN (ay M φ H) φ H w cs dU.toList)(hf:Flat dU.toList):
 let aQ:=aM φ fr (.pointer (some ⟨w.heap.size,0,none⟩));let H':=H.put [(fr, .row cs)];let w':=w.alloc (.cells dU ty)
 aD M aQ H' w'/\Trans φ H w aQ H' w'/\V.den (ay M aQ H') aQ H' w' (.ptr fr 0) (.pointer (some ⟨w.heap.size,0,none⟩)):=by
 intro aQ H' w'
 have hv:∀b,eQ (.pointer (some ⟨w.heap.size,0,none⟩))=some b->w.heap.size<=b/\b<w'.heap.size:=by
  intro b hb;simp[eQ]at hb;subst hb;simp[w']
 have ht:Trans φ H w aQ H' w':=eS (cU w _) dc _ _ fun b hb=>(hv b hb).1
 refine⟨jt hH (cU w _) dc _ _ hv ?_,ht,rfl,by simp[H'],fun _=>⟨w.heap.size,by simp[aQ],rfl⟩⟩
 unfold bc
 simp only[bQ,aS,if_true]
 exact⟨w.heap.size,dU,ty,rfl,heap_alloc_new w _,V.ba ht cs _ hd,hf⟩
theorem fk{id:Nat}(fL:H.us id){b:Nat}(c7:(H.o id).live=true)(hb:eQ (φ id)=some b)(hk:eK (· =b) w w')(obj:ab)(bZ:obj.cC=(H.o id).cC)(wF:obj.cy=(H.o id).cy):
 Trans φ H w φ (H.put [(id,obj)]) w' where
 cA:=⟨hk.os,hk.tape,hk.output,hk.size,fun k h hl=>hk.block k h (fun e=>hl ⟨id,c7,e ▸ hb⟩)⟩
 grow b':=by
  rintro⟨j,h1,h2⟩
  by_cases hj:j=id
  ·subst hj;exact .inl ⟨j,c7,h2⟩
  ·simp[hj]at h1;exact .inl ⟨j,h1,h2⟩
 rel:={
  us:=fun j h=>by simp[h]
  row:=fun j hu hr=>by
   by_cases hj:j=id
   ·subst hj;simp at hr;exact⟨bZ ▸ hr,rfl⟩
   ·exact S3
  ep:=fun j e' hu he=>by
   by_cases hj:j=id
   ·subst hj;simp at he;exact⟨e',wF ▸ he,Nat.le_refl _,fun _=>rfl⟩
   ·simp[hj]at he;exact⟨e',he,Nat.le_refl _,fun _=>rfl⟩}
theorem iR(hH:aD M φ H w){id:Nat}(fL:H.us id){b:Nat}(c7:(H.o id).live=true)(hb:eQ (φ id)=some b)(hk:eK (· =b) w w')(obj:ab)(bZ:obj.cC=(H.o id).cC)
 (wF:obj.cy=(H.o id).cy) (uu:bc M φ (H.put [(id,obj)]) w' id):aD M φ (H.put [(id,obj)]) w':=by
 refine hH.of (fk fL c7 hb hk obj bZ wF) (· =id) (fun j h=>h ▸ uu) (fun j h=> ?_) (fun j h=> ?_) (fun i j b' hi hj bi bj=> ?_) (fun b'=> ?_)
 ·refine⟨by simp[h],rfl,fun hl b' IX=>hk.block b' (hH.ours b' ⟨j,hl,IX⟩).2 fun e=>h ?_⟩
  exact hH.apart j id b hl c7 (e ▸ IX) hb
 ·rw[ez]at h
  have h1:j≠id:=fun e=>h (.inr e)
  simp only[bQ,aS,h1,if_false]
  exact hH.fresh j fun hu=>h (.inl hu)
 ·refine hH.apart i j b' ?_ ?_ bi bj
  ·by_cases e:i=id
   ·subst e;exact c7
   ·simpa[e]using hi
  ·by_cases e:j=id
   ·subst e;exact c7
   ·simpa[e]using hj
 ·rintro⟨j,h1,h2⟩
  refine Nat.lt_of_lt_of_le (hH.ours b' ⟨j, ?_,h2⟩).2 hk.size
  by_cases e:j=id
  ·subst e;exact c7
  ·simpa[e]using h1
theorem kN(w:World)(b:Nat)(cs:Array Value):eK (· =b) w (w.setRow b cs):=
 ⟨rfl,rfl,rfl,aj,fun k _ hk=>by
  unfold World.setRow
  simp only[Array.getElem?_modify]
  rw[if_neg (fun e=>hk e.symm)]⟩
theorem Ba(hH:aD M φ H w){id b:Nat}(fL:H.us id){cs cs':List V}(ho:H.o id= .row cs)(fb:φ id= .pointer (some ⟨b,0,none⟩)){dU:Array Value}{ty:TypeId}
 (hb:w.heap[b]? =some (.cells dU ty (0,0))) (pX:Array Value) (hd:V.aN (ay M φ H) φ H w cs' pX.toList) (hf:Flat pX.toList):
 aD M φ (H.put [(id, .row cs')]) (w.setRow b pX)/\Trans φ H w φ (H.put [(id, .row cs')]) (w.setRow b pX):=by
 have hl:(H.o id).live=true:=by rw[ho];rfl
 have ze:eQ (φ id)=some b:=by rw[fb];rfl
 have ht:Trans φ H w φ (H.put [(id, .row cs')]) (w.setRow b pX):=fk fL hl ze (kN w b pX) _ e8 e8
 refine⟨iR hH fL hl ze (kN w b pX) _ e8 e8 ?_,ht⟩
 unfold bc
 simp only[bQ,aS,if_true]
 exact⟨b,pX,ty,fb,setRow_heap w b dU pX ty (0,0) hb,V.ba ht cs' _ hd,hf⟩
theorem pY{B:Nat->Prop}{sz g:Nat}(cur:Array Value)(ty:TypeId)(fz:Nat×Nat)(hg:w.heap[g]? =some (.cells cur ty fz))(hB: ¬B g):
 ∀ (es:List D) (evs:List Value) (i:Nat),D.aN B w es evs->(∀ev∈evs,ev.cells.size=sz)->(∀j u,(evs.flatMap (·.cells.toList))[j]? =some u->cur[i*sz+j]? =some u)->D.elems B w sz ⟨g,0,none⟩ i es
 |[],_,_,_,_,_=>trivial
 |e::es,_,i,h,hs,hc=>by
  obtain⟨ev,evs,rfl,h1,h2⟩:=h
  have eh:ev.cells.size=sz:=hs ev aj
  refine⟨⟨ev,eh,fun j u hj=> ?_,h1⟩,pY cur ty fz hg hB es evs (i+1) h2 (fun x hx=>hs x lY) fun j u hj=> ?_⟩
  ·have cJ:j<ev.cells.size:=(Array.getElem?_eq_some_iff.1 hj).1
   have:cur[i*sz+j]? =some u:=hc j u (by
    rw[List.flatMap_cons,List.getElem?_append_left (by simpa using cJ)];simpa using hj)
   refine⟨?_,by simpa using hB⟩
   unfold Addr.add World.cell?
   by_cases e1:i*sz=0<;>by_cases e2:j=0<;>simp_all
  ·have:=hc (sz+j) u (by
    rw[List.flatMap_cons,List.getElem?_append_right (by simp[eh])]
    simpa[eh]using hj)
   rw[show(i+1)*sz+j=i*sz+(sz+j) by rw[Nat.add_mul];omega]
   exact this
theorem Ns(hH:aD M φ H w){id ep sz:Nat}{ty:TypeId}{es:List D}(fL:H.us id)(ho:H.o id= .arr ep ty sz es):
 aD M φ (H.put [(id, .sv ep es)]) w/\Trans φ H w φ (H.put [(id, .sv ep es)]) w:=by
 have Bb:∀b,df φ (H.put [(id, .sv ep es)]) b->df φ H b:=by
  rintro b ⟨j,h1,h2⟩
  by_cases hj:j=id
  ·subst hj;simp[ab.live]at h1
  ·simp[hj]at h1;exact⟨j,h1,h2⟩
 have ht:Trans φ H w φ (H.put [(id, .sv ep es)]) w:={
  cA:=eK.refl _ _
  grow:=fun b hb=> .inl (Bb b hb)
  rel:={
   us:=fun j h=>by simp[h]
   row:=fun j hu hr=>by
    by_cases hj:j=id
    ·subst hj;simp[ab.cC]at hr
    ·exact S3
   ep:=fun j e' hu he=>by
    by_cases hj:j=id
    ·subst hj;simp[ab.cy]at he;subst he;exact⟨ep,by rw[ho];rfl,Nat.le_refl _,fun _=>rfl⟩
    ·simp[hj]at he;exact⟨e',he,Nat.le_refl _,fun _=>rfl⟩}}
 refine⟨hH.of ht (· =id) (fun j h=> ?_) (fun j h=>⟨by simp[h],rfl,fun _ _ _=>rfl⟩) (fun j h=> ?_) (fun i j b hi hj bi bj=> ?_) (fun b hb=>(hH.ours b (Bb b hb)).2),ht⟩
 ·subst h
  have bp:=hH.ok j
  unfold bc at bp|-
  simp only[ho,bQ,aS,if_true]at bp|-
  obtain⟨h0,xs,⟨hl,bZ⟩,evs,rfl,h2,h3⟩:=bp
  have hlen:=D.aH _ _ h3
  rcases bZ with⟨h4,h5⟩|⟨g,cap,cur,h4,_,h5,h6,h7,h8,h9⟩
  ·rw[h4]
   have:es=[]:=by simpa using h5
   subst this
   exact⟨none,0,0,rfl,rfl,Nat.le_refl _,fun _=>rfl,0,fun a ha=>by cases ha⟩
  ·rw[h4]
   refine⟨some ⟨g,0,none⟩,es.length,cap,rfl,rfl,h6,(fun h=>by cases h),sz,fun a ha=> ?_⟩
   injection ha with ha;subst ha
   refine⟨fun _=>rfl,pY cur ty (0,0) h5 ?_ es evs 0 (D.ba (ht.blocks (M:=M)) es evs h3) h2 fun j' u IY=> ?_⟩
   ·rintro(hM|⟨i,Nt,Ti⟩)
    ·exact(hH.ours g ⟨j,by rw[ho];rfl,by rw[h4];rfl⟩).1 hM
    ·by_cases e:i=j
     ·subst e;simp[ab.live]at Nt
     ·simp[e]at Nt
      exact e (hH.apart i j g Nt e8 Ti (by rw[h4];rfl))
   ·rw[<- h9]at IY
    simp only[Nat.zero_mul,Nat.zero_add]
    rw[List.getElem?_take]at IY
    split at IY
    ·simpa using IY
    ·cases IY
 ·rw[ez]at h
  have h1:j≠id:=fun e=>h (.inr e)
  simp only[bQ,aS,h1,if_false]
  exact hH.fresh j fun hu=>h (.inl hu)
 ·by_cases e1:i=id
  ·subst e1;simp[ab.live]at hi
  ·by_cases e2:j=id
   ·subst e2;simp[ab.live]at hj
   ·simp[e1,e2]at hi hj;exact hH.apart i j b hi hj bi bj
theorem Fa(hH:aD M φ H w){id:Nat}{kt vt:TypeId}{l:List (D×D)}(fL:H.us id)(ho:H.o id= .map kt vt l):
 aD M φ (H.put [(id, .iP l)]) w/\Trans φ H w φ (H.put [(id, .iP l)]) w:=by
 have Bb:∀b,df φ (H.put [(id, .iP l)]) b->df φ H b:=by
  rintro b ⟨j,h1,h2⟩
  by_cases hj:j=id
  ·subst hj;simp[ab.live]at h1
  ·simp[hj]at h1;exact⟨j,h1,h2⟩
 have ht:Trans φ H w φ (H.put [(id, .iP l)]) w:={
  cA:=eK.refl _ _
  grow:=fun b hb=> .inl (Bb b hb)
  rel:={
   us:=fun j h=>by simp[h]
   row:=fun j hu hr=>by
    by_cases hj:j=id
    ·subst hj;exact⟨by rw[ho];rfl,rfl⟩
    ·exact S3
   ep:=fun j e' hu he=>by
    by_cases hj:j=id
    ·subst hj;simp[ab.cy]at he
    ·simp[hj]at he;exact⟨e',he,Nat.le_refl _,fun _=>rfl⟩}}
 refine⟨hH.of ht (· =id) (fun j h=> ?_) (fun j h=>⟨by simp[h],rfl,fun _ _ _=>rfl⟩) (fun j h=> ?_) (fun i j b hi hj bi bj=> ?_) (fun b hb=>(hH.ours b (Bb b hb)).2),ht⟩
 ·subst h
  have bp:=hH.ok j
  unfold bc at bp|-
  simp only[ho,bQ,aS,if_true]at bp|-
  obtain⟨b,es,clock,h1,h2,h3,h4⟩:=bp
  obtain⟨h5,h6⟩:=(lC _ _).1 h4
  refine⟨b,es,clock,es.toList,h1,h2, ?_,h3, .inl rfl,D.ba (ht.blocks (M:=M)) _ _ h5,D.ba (ht.blocks (M:=M)) _ _ h6⟩
  rintro(hM|⟨i,Nt,Ti⟩)
  ·exact(hH.ours b ⟨j,by rw[ho];rfl,by rw[h1];rfl⟩).1 hM
  ·by_cases e:i=j
   ·subst e;simp[ab.live]at Nt
   ·simp[e]at Nt
    exact e (hH.apart i j b Nt e8 Ti GW)
 ·rw[ez]at h
  have h1:j≠id:=fun e=>h (.inr e)
  simp only[bQ,aS,h1,if_false]
  exact hH.fresh j fun hu=>h (.inl hu)
 ·by_cases e1:i=id
  ·subst e1;simp[ab.live]at hi
  ·by_cases e2:j=id
   ·subst e2;simp[ab.live]at hj
   ·simp[e1,e2]at hi hj;exact hH.apart i j b hi hj bi bj
end
end Go.Proofs.YtonbelhklnmjnaaGreat
namespace Go.Proofs.YtonbelhklnmjnaaGreat
def cX(M:Nat->Prop)(φ:Place)(H:Hp)(w:World)(fr:Nat)(r:Result Next)(K:V->List (Nat×ab)->List Nat->Prop):Prop:=
 ∃nx val w' aQ v Δ rd,K v Δ rd/\r= .ok nx w'/\(nx= .value val\/nx= .skip/\val=undef)/\aD M aQ (H.put Δ) w'/\Trans φ H w aQ (H.put Δ) w'/\
  V.den (ay M aQ (H.put Δ)) aQ (H.put Δ) w' v val/\(∀id∈Δ.map (·.1),H.us id\/id=fr)
section
variable {P:Program}{M:Nat->Prop}{φ:Place}{H:Hp}{w:World}{fr:Nat}{K:V->List (Nat×ab)->List Nat->Prop}
theorem cX.same (hH:aD M φ H w){r:Result Next}{v:V}{rd:List Nat}(val:Value)(hK:K v [] rd)(hr:r= .ok (.value val) w)(hd:V.den (ay M φ H) φ H w v val):cX M φ H w fr r K:=
 ⟨_,val,w,φ,v,[],rd,hK,hr, .inl rfl,by rw[nY];exact hH,by rw[nY];exact Trans.refl _ _ _,by rw[nY];exact hd,aj⟩
theorem cX.mono {r:Result Next}{K':V->List (Nat×ab)->List Nat->Prop}(h:cX M φ H w fr r K)(hk:∀v Δ rd,K v Δ rd->K' v Δ rd):cX M φ H w fr r K':=by
 obtain⟨nx,val,w',aQ,v,Δ,rd,h1,h2⟩:=h
 exact⟨nx,val,w',aQ,v,Δ,rd,hk _ _ _ h1,h2⟩
theorem info_of_underlying{t:TypeId}{d:TypeDesc}(h:P.underlying t=some d):∃i,P.info? t=some i:=by
 unfold Program.underlying at h
 cases hi:P.info? t with
 |none=>simp[hi]at h
 |some i=>exact⟨i,rfl⟩
theorem cg{t:TypeId}{i:TypeInfo}(h:P.info? t=some i):P.cellsOf t=i.size:=by simp[Program.cellsOf,h]
theorem l6{t:TypeId}{i:TypeInfo}(h:P.info? t=some i):P.bytesOf t=i.bytes:=by simp[Program.bytesOf,h]
theorem ki{t:TypeId}{z:List V}(h:cN P t=some z):∃i v,P.info? t=some i/\i.zero=some v/\v.cells.size=i.size/\Flat v.cells.toList/\z=v.cells.toList.map V.dG:=by
 unfold cN at h
 cases hi:P.info? t with
 |none=>simp[hi]at h
 |some i=>
  simp only[hi]at h
  cases hz:i.zero with
  |none=>simp[hz]at h
  |some v=>
   simp only[hz]at h
   split at h
   ·rename_i hc
    injection h with h
    exact⟨i,v,rfl,hz,hc.1,fun u hu=>List.all_eq_true.1 hc.2 u hu,h.symm⟩
   ·cases h
theorem rz{t:TypeId}(h:dA P t=some true)(w:World):(isAgg t).run P w= .ok true w:=by
 unfold dA at h
 unfold isAgg
 cases hd:P.underlying t with
 |none=>simp[hd]at h
 |some d=>cases d<;>simp_all[run_underlying hd]
theorem oZ{t:TypeId}(h:dA P t=some false)(w:World):(isAgg t).run P w= .ok false w:=by
 unfold dA at h
 unfold isAgg
 cases hd:P.underlying t with
 |none=>simp[hd]at h
 |some d=>cases d<;>simp_all[run_underlying hd]
theorem dY{t:TypeId}{i:TypeInfo}(h:P.info? t=some i)(w:World):(sizeOf t).run P w= .ok (P.cellsOf t) w:=by
 simp[sizeOf,typeInfo,h,cg h]
theorem rA{t:TypeId}{b:Bool}(h:dA P t=some b):∃i,P.info? t=some i:=by
 unfold dA at h
 cases hd:P.underlying t with
 |none=>simp[hd]at h
 |some d=>exact info_of_underlying hd
theorem bE{t e:TypeId}(h:cK P t=some e):P.underlying t=some (.slice e):=by
 unfold cK at h
 cases hd:P.underlying t with
 |none=>simp[hd]at h
 |some d=>cases d<;>simp_all
theorem xi{t e:TypeId}{n:Nat}(h:A2 P t=some (n,e)):P.underlying t=some (.array n e):=by
 unfold A2 at h
 cases hd:P.underlying t with
 |none=>simp[hd]at h
 |some d=>cases d<;>simp_all
theorem add_zero(a:Addr):a.add 0=a:=by simp[Addr.add]
theorem add_plain(b o j:Nat):(⟨b,o,none⟩:Addr).add j=⟨b,o+j,none⟩:=by
 unfold Addr.add;split
 ·rename_i h;subst h;rfl
 ·rfl
theorem add_add(a:Addr)(h:a.spot=none)(m n:Nat):(a.add m).add n=a.add (m+n):=by
 obtain⟨b,o,s⟩:=a
 simp only at h;subst h
 simp only[add_plain,Nat.add_assoc]
theorem Bc(a:Addr)(h:a.spot=none)(m:Nat):(a.add m).spot=none:=by
 unfold Addr.add;split<;>first|exact h|rfl
theorem m8(s:S)(a:Act)(eL:∀i,V.den (ay M φ H) φ H w (s.env i) (a.tmps.getD i undef))(x:Operand):V.den (ay M φ H) φ H w (s.ev x) (a.eval x):=by
 cases x with
 |tmp t=>exact eL t
 |func f=>exact⟨#[],#[],rfl,rfl,rfl⟩
 |global g=>trivial
 |const v=>
  cases v with
  |agg c=>
   simp only[S.ev,V.ofConst,Act.eval]
   split
   ·rename_i hc
    have hf:Flat c.toList:=fun u hu=>List.all_eq_true.1 hc u hu
    exact lF _ _ (dX _ hf) hf
   ·trivial
  |tuple _=>trivial
  |_=>simp only[S.ev,V.ofConst,Act.eval];exact l4 _ (by rfl)
theorem kO(s:S)(a:Act)(eL:∀i,V.den (ay M φ H) φ H w (s.env i) (a.tmps.getD i undef)):∀ (xs:List Operand),V.aN (ay M φ H) φ H w (xs.map s.ev) (xs.map a.eval)
 |[]=>rfl
 |x::xs=>⟨a.eval x,xs.map a.eval,rfl,m8 s a eL x,kO s a eL xs⟩
theorem m9{t:TypeId}(a:Addr)(us:List Value)(hc:∀j u,us[j]? =some u->w.cell? (a.add j)=some u):
 (dA P t=some true->us.length=P.cellsOf t->(Instr.loadAt t (.pointer (some a))).run P w= .ok (.agg us.toArray) w)/\
 (dA P t=some false->∀u,us[0]? =some u->(Instr.loadAt t (.pointer (some a))).run P w= .ok u w):=by
 constructor
 ·intro h hl
  obtain⟨i,hi⟩:=rA h
  have h1:=run_loadCells_list (P:=P) w a us hc
  rw[hl]at h1
  simp[Instr.loadAt,Instr.sureAddr,loadVar,rz h,dY hi,h1]
 ·intro h u hu
  have h1:=hc 0 u hu
  rw[add_zero]at h1
  simp[Instr.loadAt,Instr.sureAddr,loadVar,oZ h,h1]
theorem pZ{t:TypeId}{cs:List V}{off:Nat}{v:V}(hg:fi P t cs off=some v)(a:Addr)(vs:List Value)(hd:V.aN (ay M φ H) φ H w cs vs)(hf:Flat vs)
 (hc:∀j u,vs[j]? =some u->w.cell? (a.add j)=some u) (ha:a.spot=none):∃val,(Instr.loadAt t (.pointer (some (a.add off)))).run P w= .ok val w/\V.den (ay M φ H) φ H w v val:=by
 have hlen:=V.aH _ _ hd
 unfold fi at hg
 cases DE:dA P t with
 |none=>simp[DE]at hg
 |some b=>
  cases b with
  |true=>
   simp only[DE]at hg
   split at hg
   ·rename_i hle
    injection hg with hg;subst hg
    refine⟨.agg ((vs.drop off).take (P.cellsOf t)).toArray,(m9 (P:=P) (t:=t) (a.add off) ((vs.drop off).take (P.cellsOf t)) ?_).1 DE AZ, ?_⟩
    ·intro j u hj
     rw[add_add a ha]
     rw[List.getElem?_take]at hj
     split at hj
     ·exact hc _ _ la
     ·cases hj
    ·refine lF _ _ ?_ ?_
     ·exact V.dW _ _ _ (V.eR _ _ _ hd)
     ·intro u hu
      exact hf u (List.mem_of_mem_drop (List.mem_of_mem_take (by simpa using hu)))
   ·cases hg
  |false=>
   simp only[DE]at hg
   obtain⟨u,hu,Nu⟩:=V.dV _ _ _ _ hd hg
   refine⟨u,(m9 (P:=P) (t:=t) (a.add off) (vs.drop off) ?_).2 DE u (by simpa using hu),Nu⟩
   intro j x hj
   rw[add_add a ha]
   exact hc _ _ la
theorem na(sz:Nat):∀ (evs:List Value) (i j:Nat) (ev:Value) (u:Value),(∀x∈evs,x.cells.size=sz)->evs[i]? =some ev->ev.cells[j]? =some u->
 (evs.flatMap (·.cells.toList))[i*sz+j]? =some u
 |[],_,_,_,_,_,h,_=>by simp at h
 |e::evs,0,j,ev,u,hs,h,hu=>by
  simp at h;subst h
  have:j<e.cells.size:=(Array.getElem?_eq_some_iff.1 hu).1
  rw[List.flatMap_cons,List.getElem?_append_left (by simp;omega)]
  simpa using hu
 |e::evs,i+1,j,ev,u,hs,h,hu=>by
  have ih:=na sz evs i j ev u (fun x hx=>hs x lY) GV hu
  rw[List.flatMap_cons,List.getElem?_append_right (by simp[hs e (by simp),Nat.add_mul];omega)]
  simp only[Array.length_toList,hs e (by simp)]
  rw[show(i+1)*sz+j - sz=i*sz+j by rw[Nat.add_mul];omega]
  exact ih
theorem p6{g:Nat}{dU:Array Value}{ty:TypeId}{fz:Nat×Nat}(h:w.heap[g]? =some (.cells dU ty fz))(j:Nat)(u:Value)(hu:dU[j]? =some u):w.cell? ((⟨g,0,none⟩:Addr).add j)=some u:=by
 rw[add_plain,Nat.zero_add,cell_of_row w g j dU ty fz h];exact hu
theorem Jw{B:Nat->Prop}{ty:TypeId}{sz:Nat}{es:List D}{v:Value}{b n c i:Nat}{e:D}
 (bp:0<sz/\∃xs,w.ownsRow 0 ty sz v es.length xs/\gJ B w sz es xs) (hv:v= .slice (some ⟨b,0,none⟩) n c) (he:es[i]? =some e):
 ∃ev:Value,ev.cells.size=sz/\D.aN B w e.cells ev.cells.toList/\Flat ev.cells.toList/\(∀j u,ev.cells.toList[j]? =some u->w.cell? ((⟨b,i*sz,none⟩:Addr).add j)=some u):=by
 obtain⟨h0,xs,⟨hl,bZ⟩,evs,rfl,h2,h3⟩:=bp
 obtain⟨ev,dM,hd⟩:=D.dV _ _ _ _ h3 he
 have Tj:=D.fE _ _ hd
 refine⟨ev,h2 ev (List.mem_of_getElem? dM),Tj.1,Tj.2,fun j u hj=> ?_⟩
 subst hv
 rcases bZ with⟨h4,_⟩|⟨g,cap,cur,h4,_,h5,h6,h7,h8,h9⟩
 ·simp at h4
 ·simp at h4;obtain⟨rfl,_,rfl⟩:=h4
  have:=na sz evs i j ev u h2 dM la
  rw[<- h9,List.getElem?_take]at this
  split at this
  ·have PH:=p6 h5 (i*sz+j) u (by simpa using this)
   rw[add_plain]at PH|-
   simpa using PH
  ·cases this
theorem Jx(hH:aD M φ H w){t:TypeId}{x:V}{xv:Value}(hx:V.den (ay M φ H) φ H w x xv)
 (h:A4 P H.o t x fun v rd=>K v [] rd):cX M φ H w fr ((do let y <- Instr.loadAt t xv;pure (Next.value y):Sem Next).run P w) K:=by
 have fin:∀ (v:V) rd,K v [] rd->(∃val,(Instr.loadAt t xv).run P w= .ok val w/\V.den (ay M φ H) φ H w v val)->cX M φ H w fr ((do let y <- Instr.loadAt t xv;pure (Next.value y):Sem Next).run P w) K:=by
  rintro v rd hK ⟨val,h1,h2⟩
  exact cX.same hH val hK (by simp[h1]) h2
 unfold A4 at h
 split at h
 ·rename_i id off
  split at h
  ·rename_i cs ho
   obtain⟨v,h1,hK⟩:=h
   obtain⟨_,hu,hp⟩:=hx
   obtain⟨b,fb,rfl⟩:=hp e8
   have bp:=hH.ok id
   simp only[bc,ho]at bp
   obtain⟨b',dU,ty,g1,g2,g3,g4⟩:=bp
   rw[fb]at g1;simp at g1;subst g1
   refine fin v _ hK ?_
   have:=pZ (P:=P) h1 ⟨b,0,none⟩ dU.toList g3 g4 (fun j u hj=>p6 g2 j u la) rfl
   rwa [add_plain,Nat.zero_add]at this
  ·exact h.elim
 ·rename_i cs off
  obtain⟨v,h1,hK⟩:=h
  obtain⟨a,ev,ha,rfl,hd,hf,hc⟩:=hx
  exact fin v _ hK (pZ h1 a ev ((V.cE _ _).2 hd) hf (fun j u hj=>(hc j u la).1) ha)
 ·rename_i id ep i sz off
  split at h
  ·rename_i jr ty ra es ho
   obtain⟨rfl,rfl,e,he,v,h1,hK⟩:=h
   obtain⟨_,hu,hp⟩:=hx
   obtain⟨b,n,c,fb,rfl⟩:=(hp ep e8).2 rfl
   have bp:=hH.ok id
   simp only[bc,ho]at bp
   obtain⟨ev,g1,g2,g3,g4⟩:=Jw bp fb he
   refine fin v _ hK ?_
   have:=pZ (P:=P) h1 ⟨b,i*sz,none⟩ ev.cells.toList ((V.cE _ _).2 g2) g3 g4 rfl
   rwa [add_plain]at this
  ·exact h.elim
 ·exact h.elim
end
end Go.Proofs.YtonbelhklnmjnaaGreat
namespace Go.Proofs.YtonbelhklnmjnaaGreat
section
variable {P:Program}{M:Nat->Prop}{φ:Place}{H:Hp}{w:World}{fr:Nat}{K:V->List (Nat×ab)->List Nat->Prop}
theorem cX.plain (hH:aD M φ H w){s:Sem Value}{v:V}{rd:List Nat}(val:Value)(hK:K v [] rd)(hr:s.run P w= .ok val w)(hd:V.den (ay M φ H) φ H w v val):
 cX M φ H w fr ((do let y <- s;pure (Next.value y):Sem Next).run P w) K:=cX.same hH val hK (by simp[hr]) hd
theorem Bd{t:TypeId}{f q:Nat}(h:cD P t f=some q):∃fs fd,P.underlying t=some (.struct fs)/\fs[f]? =some fd/\P.cellsOf fd.type≠0/\fd.offset=q:=by
 unfold cD at h
 cases hd:P.underlying t with
 |none=>simp[hd]at h
 |some d=>
  cases d<;>simp only[hd]at h<;>try (cases h;done)
  rename_i fs
  cases hf:fs[f]? with
  |none=>simp[hf]at h
  |some fd=>
   simp only[hf]at h
   split at h
   ·cases h
   ·injection h with h
    exact⟨fs,fd,rfl,hf,by assumption,h⟩
theorem Be{t:TypeId}{f q:Nat}(h:cD P t f=some q)(a:Addr):(Instr.fieldAt t (.pointer (some a)) f).run P w= .ok (.pointer (some (a.add q))) w:=by
 obtain⟨fs,fd,h1,h2,h3,rfl⟩:=Bd h
 have:∃i,P.info? fd.type=some i:=by
  cases hi:P.info? fd.type with
  |none=>simp[Program.cellsOf,hi]at h3
  |some i=>exact⟨i,rfl⟩
 obtain⟨i,hi⟩:=this
 simp[Instr.fieldAt,run_underlying h1,h2,Instr.sureAddr,fieldPlace,dY hi,h3]
def V.step (x:V)(q:Nat):Option V:=
 match x with
 | .ptr id off=>some (.ptr id (off+q))
 | .pp cs off=>some (.pp cs (off+q))
 | .pe id ep j sz off=>some (.pe id ep j sz (off+q))
 |_=>none
def V.place (o:Nat->ab):V->Prop
 | .ptr id _=>(o id).cC=true
 | .pe id ep _ _ _=>(o id).cy=some ep
 |_=>True
theorem Bf{x y:V}{q:Nat}(h:x.step q=some y){xv:Value}(hx:V.den (ay M φ H) φ H w x xv)
 (hr:x.place H.o):
 ∃a,xv= .pointer (some a)/\V.den (ay M φ H) φ H w y (.pointer (some (a.add q))):=by
 cases x with
 |ptr id off=>
  simp only[V.step,Option.some.injEq]at h;subst h
  obtain⟨h1,h2,h3⟩:=hx
  obtain⟨b,h4,rfl⟩:=h3 hr
  exact⟨_,rfl,rfl,h2,fun _=>⟨b,h4,by rw[add_plain]⟩⟩
 |pp cs off=>
  simp only[V.step,Option.some.injEq]at h;subst h
  obtain⟨a,ev,ha,rfl,hd⟩:=hx
  exact⟨_,rfl,a,ev,ha,by rw[add_add a ha],hd⟩
 |pe id ep j sz off=>
  simp only[V.step,Option.some.injEq]at h;subst h
  obtain⟨h1,h2,h3⟩:=hx
  obtain⟨b,n,c,h4,rfl⟩:=(h3 ep hr).2 rfl
  refine⟨_,rfl,rfl,h2,fun e he=>⟨(h3 e he).1,fun heq=>⟨b,n,c,h4,by rw[add_plain,Nat.add_assoc]⟩⟩⟩
 |_=>simp[V.step]at h
theorem wG(hH:aD M φ H w){t:TypeId}{f:Nat}{x:V}{xv:Value}(hx:V.den (ay M φ H) φ H w x xv)(h:j8 P H.o t x f fun v=>K v [] []):
 cX M φ H w fr ((do let y <- Instr.fieldAt t xv f;pure (Next.value y):Sem Next).run P w) K:=by
 have fin:∀ (y:V) q,cD P t f=some q->x.step q=some y->x.place H.o->K y [] []->
  cX M φ H w fr ((do let y <- Instr.fieldAt t xv f;pure (Next.value y):Sem Next).run P w) K:=by
  intro y q hq hs hr hK
  obtain⟨a,rfl,hd⟩:=Bf hs hx hr
  exact cX.plain hH _ hK (Be hq a) hd
 unfold j8 at h
 split at h
 ·rename_i q hq
  split at h
  ·exact fin _ q hq rfl h.1 h.2
  ·exact fin _ q hq rfl trivial h
  ·exact fin _ q hq rfl h.1 h.2
  ·exact h.elim
 ·exact h.elim
theorem DF{B:Nat->Prop}{es:List D}{xv:Value}(hx:D.den B w (.sl es) xv){i:Nat}{y:D}(hy:es[i]? =some y):
 ∃a len cap ev,xv= .slice (some a) len cap/\i<len/\a.spot=none/\D.aN B w y.cells ev/\Flat ev/\iw B w (a.add (i*y.cells.length)) ev.toArray/\len=es.length:=by
 obtain⟨base,len,cap,rfl,rfl,h2,h3,sz,h4⟩:=hx
 have cJ:i<es.length:=(List.getElem?_eq_some_iff.1 hy).1
 cases base with
 |none=>have:=h3 rfl;omega
 |some a=>
  obtain⟨h5,h6⟩:=h4 a rfl
  obtain⟨ev,h7,h8,h9⟩:=D.xe es 0 i y h6 hy
  have PH:=D.fE _ _ h9
  have h11:y.cells.length=sz:=by rw[<- h7, <- D.aH _ _ PH.1];simp
  refine⟨a,es.length,cap,ev.cells.toList,rfl,cJ,h5 ad,PH.1,PH.2, ?_,rfl⟩
  rw[h11]
  simpa using h8
theorem oI{t e:TypeId}(ht:cK P t=some e)(a:Addr)(len cap:Nat)(k:IntKind)(i:Int)(h0:0<=i)(h1:i.toNat<len)(hc:0<P.cellsOf e):
 (Instr.indexAt t (.slice (some a) len cap) (.int k i)).run P w= .ok (.pointer (some (a.add (i.toNat*P.cellsOf e)))) w:=by
 have hu:=bE ht
 have:∃ie,P.info? e=some ie:=by
  cases hi:P.info? e with
  |none=>simp[Program.cellsOf,hi]at hc
  |some i=>exact⟨i,rfl⟩
 obtain⟨ie,hi⟩:=this
 have h2:0<=i/\i<(len:Int):=⟨h0,ad⟩
 simp[Instr.indexAt,run_underlying hu,asIntOf,h2,dY hi]
theorem wH{t e:TypeId}{n:Nat}(ht:A2 P t=some (n,e))(a:Addr)(k:IntKind)(i:Int)(h0:0<=i)(h1:i<n)(hi:∃ie,P.info? e=some ie):
 (Instr.indexAt t (.pointer (some a)) (.int k i)).run P w= .ok (.pointer (some (a.add (i.toNat*P.cellsOf e)))) w:=by
 have hu:=xi ht
 obtain⟨ie,hi⟩:=hi
 have h2:0<=i/\i<(n:Int):=⟨h0,h1⟩
 simp[Instr.indexAt,run_underlying hu,asIntOf,Instr.sureAddr,h2,dY hi]
theorem wI(hH:aD M φ H w){t:TypeId}{x ix:V}{xv iv:Value}(hx:V.den (ay M φ H) φ H w x xv)(hi:V.den (ay M φ H) φ H w ix iv)
 (h:j7 P H.o t x ix fun v rd=>K v [] rd):cX M φ H w fr ((do let y <- Instr.indexAt t xv iv;pure (Next.value y):Sem Next).run P w) K:=by
 unfold j7 at h
 split at h
 ·rename_i k i
  simp only[V.den,D.den]at hi;subst hi
  have zf:∀ {e:TypeId} {es:List D} {rd},cK P t=some e->D.den (ay M φ H) w (.sl es) xv->(0<=i/\∃y,es[i.toNat]? =some y/\y.cells.length=P.cellsOf e/\0<P.cellsOf e/\K (.pp y.cells 0) [] rd)->
   cX M φ H w fr ((do let y <- Instr.indexAt t xv (.int k i);pure (Next.value y):Sem Next).run P w) K:=by
   rintro e es rd ht hd ⟨h0,y,hy,hc,fP,hK⟩
   obtain⟨a,len,cap,ev,rfl,h1,h2,h3,h4,h5,_⟩:=DF hd hy
   refine cX.plain hH _ hK (oI ht a len cap k i h0 h1 fP) ⟨a.add (i.toNat*P.cellsOf e),ev,Bc a h2 _,by rw[add_zero],h3,h4, ?_⟩
   rw[<- hc];exact h5
  split at h
  ·rename_i e ht
   split at h
   ·exact zf ht hx h
   ·exact zf ht hx.1 h
   ·rename_i id ep
    split at h
    ·rename_i jr ty sz es ho
     obtain⟨rfl,h0,h1,rfl,fP,hK⟩:=h
     obtain⟨Nv,fL,wF⟩:=hx
     have hv:=(wF ep e8).2 rfl
     have bp:=hH.ok id
     simp only[bc,ho]at bp
     obtain⟨h3,xs,⟨_,bZ⟩,_⟩:=bp
     rcases bZ with⟨_,h5⟩|⟨g,cap,cur,h4,_⟩
     ·omega
     ·subst hv
      rw[h4]
      refine cX.plain hH _ hK (oI ht _ _ cap k i h0 h1 fP) ⟨rfl,fL,fun e' oD=>⟨(wF e' oD).1,fun heq=>⟨g,es.length,cap,h4,by rw[add_plain];simp⟩⟩⟩
    ·rename_i jr es ho
     obtain⟨rfl,h⟩:=h
     obtain⟨Nv,fL,wF⟩:=hx
     have hv:=(wF ep e8).2 rfl
     have bp:=hH.ok id
     simp only[bc,ho]at bp
     exact zf ht (hv ▸ bp) h
    ·exact h.elim
   ·exact h.elim
  ·split at h
   ·rename_i n e ht
    obtain⟨h0,h1,abM,h⟩:=h
    have fin:∀ (y:V),x.step (i.toNat*P.cellsOf e)=some y->x.place H.o->K y [] []->
     cX M φ H w fr ((do let y <- Instr.indexAt t xv (.int k i);pure (Next.value y):Sem Next).run P w) K:=by
     intro y hs hr hK
     obtain⟨a,rfl,hd⟩:=Bf hs hx hr
     refine cX.plain hH _ hK (wH ht a k i h0 h1 (Option.isSome_iff_exists.1 abM)) hd
    split at h
    ·exact fin _ rfl h.1 h.2
    ·exact fin _ rfl trivial h
    ·exact fin _ rfl h.1 h.2
    ·exact h.elim
   ·exact h.elim
 ·exact h.elim
theorem Tk(hH:aD M φ H w){op:UnOp}{x:V}{xv:Value}(hx:V.den (ay M φ H) φ H w x xv)(h:Ya op x fun v=>K v [] []):
 cX M φ H w fr ((do let y <- Op.unary op xv;pure (Next.value y):Sem Next).run P w) K:=by
 unfold Ya at h
 split at h
 ·simp only[V.den,D.den]at hx;subst hx
  exact cX.plain hH _ h (by simp[Op.unary,Op.intArith]) rfl
 ·simp only[V.den,D.den]at hx;subst hx
  exact cX.plain hH _ h (by simp[Op.unary]) rfl
 ·exact h.elim
theorem AX{op:BinOp}{k:IntKind}{a b r:Int}(h:uk op k a b=some r):(Op.intBits op k a b).run P w= .ok (.int k r) w:=by
 unfold uk at h
 cases op<;>simp at h<;>subst h<;>simp[Op.intBits]
theorem sy{t:TypeId}(hu:P.underlying t=some .bool)(a b:Bool)(d:Nat):(Op.equalIn (d+1) t (.bool a) (.bool b)).run P w= .ok (a==b) w:=by
 simp[Op.equalIn,run_underlying hu]
theorem Nw(hH:aD M φ H w){op:BinOp}{t:TypeId}{p q:Operand}{x y:V}{xv yv:Value}(hx:V.den (ay M φ H) φ H w x xv)(hy:V.den (ay M φ H) φ H w y yv)
 (h:Js P op t x y fun v=>K v [] []):
 cX M φ H w fr ((do let y <- (do eqGuard op t p q xv yv;binOp op t xv yv);pure (Next.value y):Sem Next).run P w) K:=by
 unfold Js at h
 split at h
 ·rename_i k a k' b
  obtain⟨rfl,h⟩:=h
  simp only[V.den,D.den]at hx hy;subst hx;subst hy
  have hg:(eqGuard op t p q (.int k a) (.int k b)).run P w= .ok () w:=by
   exact S2
  have fin:∀ (v:V) (val:Value),K v [] []->(binOp op t (.int k a) (.int k b)).run P w= .ok val w->V.den (ay M φ H) φ H w v val->
   cX M φ H w fr ((do let y <- (do eqGuard op t p q (.int k a) (.int k b);binOp op t (.int k a) (.int k b));pure (Next.value y):Sem Next).run P w) K:=by
   intro v val hK hr hd
   exact cX.plain hH val hK (by simp[hg,hr]) hd
  cases op<;>simp only[Nn]at h
  case add=>exact fin _ _ h Tb rfl
  case sub=>exact fin _ _ h Tb rfl
  case mul=>exact fin _ _ h Tb rfl
  case quo=>exact fin _ _ h.2 (by simp[binOp,Op.intDiv,h.1]) rfl
  case rem=>exact fin _ _ h.2 (by simp[binOp,Op.intDiv,h.1]) rfl
  case and=>obtain⟨r,hr,hK⟩:=h;exact fin _ _ hK Nc rfl
  case or=>obtain⟨r,hr,hK⟩:=h;exact fin _ _ hK Nc rfl
  case xor=>obtain⟨r,hr,hK⟩:=h;exact fin _ _ hK Nc rfl
  case andNot=>obtain⟨r,hr,hK⟩:=h;exact fin _ _ hK Nc rfl
  all_goals
   obtain⟨r,hr,hK⟩:=h
   simp only[X9,Option.some.injEq]at hr
   subst hr
   exact fin _ _ hK (by simp[binOp,Op.intCmp];rfl) (by simp[V.den,D.den])
 ·rename_i a b
  simp only[V.den,D.den]at hx hy;subst hx;subst hy
  have hg:(eqGuard op t p q (.bool a) (.bool b)).run P w= .ok () w:=by
   exact S2
  split at h
  ·obtain⟨hu,hK⟩:=h
   have h1:(Op.equal t (.bool a) (.bool b)).run P w= .ok (a==b) w:=sy hu a b 9999
   exact cX.plain hH (.bool (a==b)) hK (by simp[hg,binOp,h1]) rfl
  ·obtain⟨hu,hK⟩:=h
   have h1:(Op.equal t (.bool a) (.bool b)).run P w= .ok (a==b) w:=sy hu a b 9999
   exact cX.plain hH (.bool (a !=b)) hK (by simp[hg,binOp,h1,bne]) rfl
  ·exact h.elim
 ·rename_i a b
  obtain⟨u,rfl,rfl⟩:=hx
  obtain⟨v,rfl,rfl⟩:=hy
  have hg:(eqGuard op t p q (.string u) (.string v)).run P w= .ok () w:=by
   exact S2
  split at h
  ·exact cX.plain hH (.bool (u.data.toList==v.data.toList)) h (by simp[hg,binOp,Op.stringOp,ByteArray.toList_eq]) rfl
  ·exact cX.plain hH (.bool (u.data.toList !=v.data.toList)) h (by simp[hg,binOp,Op.stringOp,ByteArray.toList_eq,bne]) rfl
  ·exact h.elim
 ·rename_i a b
  obtain⟨a',rfl,hx⟩:=hx
  obtain⟨b',rfl,hy⟩:=hy
  split at h
  ·obtain⟨r,hr,hK⟩:=h
   obtain⟨h1,h2⟩:=hr (ay M φ H) w (.agg a') (.agg b') ⟨a',rfl,hx⟩ ⟨b',rfl,hy⟩
   exact cX.plain hH (.bool r) hK (by simp[h2,binOp,h1]) rfl
  ·obtain⟨r,hr,hK⟩:=h
   obtain⟨h1,h2⟩:=hr (ay M φ H) w (.agg a') (.agg b') ⟨a',rfl,hx⟩ ⟨b',rfl,hy⟩
   exact cX.plain hH (.bool !r) hK (by simp[h2,binOp,h1]) rfl
  ·exact h.elim
 ·exact h.elim
theorem Jy(hH:aD M φ H w){c a b:V}{cv av bv:Value}(hc:V.den (ay M φ H) φ H w c cv)(ha:V.den (ay M φ H) φ H w a av)(hb:V.den (ay M φ H) φ H w b bv)
 (h:A3 c a b fun v=>K v [] []):cX M φ H w fr ((do pure (.value (if <- asBool cv then av else bv)):Sem Next).run P w) K:=by
 unfold A3 at h
 split at h
 ·rename_i t
  simp only[V.den,D.den]at hc;subst hc
  have hr:((do pure (.value (if <- asBool (.bool t)then av else bv)):Sem Next).run P w)= .ok (.value (if t then av else bv)) w:=by simp[asBool]
  have fin:∀v,K v [] []->V.den (ay M φ H) φ H w v (if t then av else bv)->cX M φ H w fr ((do pure (.value (if <- asBool (.bool t)then av else bv)):Sem Next).run P w) K:=
   fun v hK hd=>cX.same hH _ hK hr hd
  cases t
  ·exact fin _ (h.2 rfl) (by simpa using hb)
  ·exact fin _ (h.1 rfl) (by simpa using ha)
 ·exact h.elim
theorem tJ{t:TypeId}{e:TypeId}(hu:P.underlying t=some (.slice e))(base:Option Addr)(n c:Nat)(ty:TypeId):(Builtin.len_ #[t] ty #[.slice base n c]).run P w= .ok (goInt n) w:=by
 simp[Builtin.len_,run_underlying hu]
theorem Nx(hH:aD M φ H w){t ty:TypeId}{x:V}{xv:Value}(hx:V.den (ay M φ H) φ H w x xv)(h:Jt P t H.o x fun v rd=>K v [] rd):
 cX M φ H w fr ((do let y <- Builtin.len_ #[t] ty #[xv];pure (Next.value y):Sem Next).run P w) K:=by
 unfold Jt at h
 split at h
 ·rename_i e hu
  have fin:∀ {es:List D} {rd},D.den (ay M φ H) w (.sl es) xv->K (.d (.int .i64 es.length)) [] rd->cX M φ H w fr ((do let y <- Builtin.len_ #[t] ty #[xv];pure (Next.value y):Sem Next).run P w) K:=by
   rintro es rd ⟨base,len,cap,rfl,rfl,_⟩ hK
   exact cX.plain hH _ hK (tJ hu _ _ _ _) rfl
  split at h
  ·exact fin hx h
  ·simp only[V.den]at hx;subst hx
   exact cX.plain hH _ h (tJ hu _ _ _ _) rfl
  ·exact fin hx.1 h
  ·rename_i id ep
   split at h
   ·rename_i jr ty sz es ho
    obtain⟨rfl,hK⟩:=h
    obtain⟨Nv,fL,wF⟩:=hx
    have hv:=(wF ep e8).2 rfl
    have bp:=hH.ok id
    simp only[bc,ho]at bp
    obtain⟨h3,xs,⟨_,bZ⟩,_⟩:=bp
    subst hv
    rcases bZ with⟨h4,h5⟩|⟨g,cap,cur,h4,_⟩
    ·rw[h4];rw[h5]at hK;exact cX.plain hH _ hK (tJ hu _ _ _ _) rfl
    ·rw[h4];exact cX.plain hH _ hK (tJ hu _ _ _ _) rfl
   ·rename_i jr es ho
    obtain⟨rfl,hK⟩:=h
    obtain⟨Nv,fL,wF⟩:=hx
    have hv:=(wF ep e8).2 rfl
    have bp:=hH.ok id
    simp only[bc,ho]at bp
    exact fin (hv ▸ bp) hK
   ·exact h.elim
  ·exact h.elim
 ·rename_i hu
  split at h
  ·obtain⟨u,rfl,rfl⟩:=hx
   exact cX.plain hH (goInt u.size) h (by simp[Builtin.len_,run_underlying hu]) (by simp[V.den,D.den,goInt])
  ·exact h.elim
 ·rename_i n e hu
  exact cX.plain hH _ h (by simp[Builtin.len_,run_underlying hu];rfl) rfl
 ·exact h.elim
end
end Go.Proofs.YtonbelhklnmjnaaGreat
namespace Go.Proofs.YtonbelhklnmjnaaGreat
section
variable {P:Program}{M:Nat->Prop}{φ:Place}{H:Hp}{w:World}{fr:Nat}{K:V->List (Nat×ab)->List Nat->Prop}
def ab.fz:ab->ab
 | .arr ep _ _ es=> .sv ep es
 | .map _ _ l=> .iP l
 |o=>o
theorem l7(o:Nat->ab)(ids:List Nat):dn o ids=ids.map fun id=>(id,(o id).fz):=by
 unfold dn
 refine List.map_congr_left fun id _=> ?_
 cases o id<;>rfl
theorem uv(H:Hp){id:Nat}(hu:H.us id){x:ab}(hx:H.o id=x):H.put [(id,x)]=H:=by
 obtain⟨o,us⟩:=H
 simp only[Hp.put,put,List.foldl_cons,List.foldl_nil,Hp.mk.injEq,List.map_cons,List.map_nil,List.mem_singleton]
 constructor
 ·funext j
  by_cases hj:j=id
  ·subst hj;simpa using hx.symm
  ·simp[hj]
 ·funext j
  simp only[eq_iff_iff]
  exact⟨fun h=>h.elim (fun h=>h) fun e=>e ▸ hu, .inl⟩
theorem p7(o:Nat->ab):∀ (ids:List Nat) (H:Hp),aD M φ H w->(∀id∈ids,H.us id)->(∀id,H.o id=o id\/H.o id=(o id).fz)->
 let H':=H.put (ids.map fun id=>(id,(o id).fz));aD M φ H' w/\Trans φ H w φ H' w/\(∀id∈ids,H'.o id=(o id).fz)/\(∀id,H'.o id=o id\/H'.o id=(o id).fz)/\(∀id,id∉ids->H'.o id=H.o id)/\∀id,H'.us id↔H.us id
 |[],H,hH,_,ho=>by
  simp only[List.map_nil,nY]
  exact⟨hH,Trans.refl _ _ _,aj,ho,aj,aj⟩
 |id::ids,H,hH,hu,ho=>by
  have h1:aD M φ (H.put [(id,(o id).fz)]) w/\Trans φ H w φ (H.put [(id,(o id).fz)]) w:=by
   rcases ho id with h|h
   ·cases hx:o id with
    |arr ep ty sz es=>exact Ns hH (hu id aj) (h.trans hx)
    |map kt vt l=>exact Fa hH (hu id aj) (h.trans hx)
    |_=>
     rw[uv H (hu id (by simp)) (h.trans (by rw[hx];rfl))]
     exact⟨hH,Trans.refl _ _ _⟩
   ·rw[uv H (hu id (by simp)) h]
    exact⟨hH,Trans.refl _ _ _⟩
  have h2:∀j,(H.put [(id,(o id).fz)]).o j=o j\/(H.put [(id,(o id).fz)]).o j=(o j).fz:=by
   intro j
   by_cases hj:j=id
   ·subst hj;right;simp
   ·simpa[hj]using ho j
  have ih:=p7 o ids (H.put [(id,(o id).fz)]) h1.1 (fun j hj=>by simp[hu j (by simp[hj])]) h2
  obtain⟨i1,i2,i3,i4,i5,i6⟩:=ih
  have e:H.put ((id::ids).map fun id=>(id,(o id).fz))=(H.put [(id,(o id).fz)]).put (ids.map fun id=>(id,(o id).fz)):=by
   rw[<- ey];rfl
  rw[e]
  refine⟨i1,h1.2.trans i2,fun j hj=> ?_,i4,fun j hj=> ?_,fun j=> ?_⟩
  ·rcases List.mem_cons.1 hj with rfl|hj
   ·by_cases hm:j∈ids
    ·exact i3 j hm
    ·rw[i5 j hm];simp
   ·exact i3 j hj
  ·simp only[List.mem_cons,not_or]at hj
   rw[i5 j hj.2];simp[hj.1]
  ·rw[i6 j,ez]
   exact⟨fun h=>h.elim (fun h=>h) fun e=>e ▸ hu id aj, .inl⟩
theorem dx(hH:aD M φ H w)(ids:List Nat)(hu:∀id∈ids,H.us id):
 let H':=H.put (dn H.o ids);aD M φ H' w/\Trans φ H w φ H' w/\(∀id∈ids,H'.o id=(H.o id).fz)/\(∀id,id∉ids->H'.o id=H.o id)/\∀id,H'.us id↔H.us id:=by
 rw[l7]
 obtain⟨a,b,c,_,d,e⟩:=p7 H.o ids H hH hu (fun _=> .inl rfl)
 exact⟨a,b,c,d,e⟩
mutual
theorem dq:∀ (v:V) (val:Value),V.den (ay M φ H) φ H w v val->∀id∈v.ids,H.us id
 | .osl id ep,_,h,j,hj=>by simp[V.ids]at hj;subst hj;exact h.2.1
 | .mp id,_,h,j,hj=>by simp[V.ids]at hj;subst hj;exact h.2.1
 | .agg cs,_,h,j,hj=>by obtain⟨a,rfl,h,_⟩:=h;exact dm cs _ h j (by simpa[V.ids]using hj)
 | .iface t x,_,h,j,hj=>by obtain⟨u,rfl,h⟩:=h;exact dq x u h j (by simpa[V.ids]using hj)
 | .d _,_,_,_,hj| .bO,_,_,_,hj| .cp _,_,_,_,hj| .ptr _ _,_,_,_,hj| .pe _ _ _ _ _,_,_,_,hj| .pp _ _,_,_,_,hj| .func _ _ _,_,_,_,hj| .aa,_,_,_,hj| .qZ _,_,_,_,hj| .xd _ _ _,_,_,_,hj| .fh,_,_,_,hj| .jU _,_,_,_,hj=>by simp[V.ids]at hj
theorem dm:∀ (vs:List V) (vals:List Value),V.aN (ay M φ H) φ H w vs vals->∀id∈V.bF vs,H.us id
 |[],_,_,j,hj=>by simp[V.bF]at hj
 |v::vs,_,h,j,hj=>by
  obtain⟨u,us,rfl,h1,h2⟩:=h
  rcases List.mem_append.1 (show j∈v.ids++V.bF vs from hj)with hj|hj
  ·exact dq v u h1 j hj
  ·exact dm vs us h2 j hj
end
mutual
theorem gA(hH:aD M φ H w){o:Nat->ab}:∀ (v:V) (x:D) (val:Value),(∀id∈v.ids,H.o id=(o id).fz)->eg o v=some x->V.den (ay M φ H) φ H w v val->D.den (ay M φ H) w x val
 | .d y,x,val,_,h,hd=>by simp[eg]at h;subst h;exact hd
 | .bO,x,val,_,h,hd=>by
   simp[eg]at h;subst h
   simp only[V.den]at hd;subst hd
   exact⟨none,0,0,rfl,rfl,Nat.le_refl _,fun _=>rfl,0,fun a ha=>by cases ha⟩
 | .osl id ep,x,val,ho,h,hd=>by
   obtain⟨_,_,hd⟩:=hd
   have ho:=ho id (by simp[V.ids])
   have bp:=hH.ok id
   simp only[eg]at h
   cases hx:o id with
   |no=>simp[hx]at h
   |row cs=>simp[hx]at h
   |map kt vt l=>simp[hx]at h
   |loop nf n env ps iQ eJ st GY=>simp[hx]at h
   |iP l=>simp[hx]at h
   |mW l last=>simp[hx]at h
   |za s pos=>simp[hx]at h
   |arr jr ty sz es=>
    simp only[hx]at h ho
    split at h
    ·rename_i e;subst e;injection h with h;subst h
     simp only[ab.fz]at ho
     simp only[bc,ho]at bp
     rw[(hd ep (by rw[ho];rfl)).2 rfl];exact bp
    ·cases h
   |sv jr es=>
    simp only[hx]at h ho
    split at h
    ·rename_i e;subst e;injection h with h;subst h
     simp only[ab.fz]at ho
     simp only[bc,ho]at bp
     rw[(hd ep (by rw[ho];rfl)).2 rfl];exact bp
    ·cases h
 | .mp id,x,val,ho,h,hd=>by
   obtain⟨_,_,hd⟩:=hd
   have ho:=ho id (by simp[V.ids])
   have bp:=hH.ok id
   simp only[eg]at h
   cases hx:o id with
   |map kt vt l=>
    simp only[hx]at h ho
    injection h with h;subst h
    simp only[ab.fz]at ho
    simp only[bc,ho]at bp
    rw[hd (by rw[ho];rfl)];exact bp
   |iP l=>
    simp only[hx]at h ho
    injection h with h;subst h
    simp only[ab.fz]at ho
    simp only[bc,ho]at bp
    rw[hd (by rw[ho];rfl)];exact bp
   |_=>simp[hx]at h
 | .agg cs,x,val,ho,h,hd=>by
   simp only[eg,Option.map_eq_some_iff]at h
   obtain⟨ds,h1,rfl⟩:=h
   obtain⟨a,rfl,h2,h3⟩:=hd
   exact⟨a,rfl,dH hH cs ds _ (fun id aC=>ho id (by simpa[V.ids]using aC)) h1 h2,h3⟩
 | .iface t y,x,val,ho,h,hd=>by
   simp only[eg,Option.map_eq_some_iff]at h
   obtain⟨z,h1,rfl⟩:=h
   obtain⟨u,rfl,h2⟩:=hd
   exact⟨u,rfl,gA hH y z u (fun id aC=>ho id (by simpa[V.ids]using aC)) h1 h2⟩
 | .cp _,_,_,_,h,_| .ptr _ _,_,_,_,h,_| .pe _ _ _ _ _,_,_,_,h,_| .pp _ _,_,_,_,h,_| .func _ _ _,_,_,_,h,_| .aa,_,_,_,h,_| .xd _ _ _,_,_,_,h,_| .fh,_,_,_,h,_| .jU _,_,_,_,h,_=>by simp[eg]at h
 | .qZ es,x,val,_,h,hd=>by simp[eg]at h;subst h;exact hd.1
theorem dH(hH:aD M φ H w){o:Nat->ab}:∀ (vs:List V) (xs:List D) (vals:List Value),(∀id∈V.bF vs,H.o id=(o id).fz)->ct o vs=some xs->V.aN (ay M φ H) φ H w vs vals->D.aN (ay M φ H) w xs vals
 |[],xs,vals,_,h,hd=>by simp[ct]at h;subst h;exact hd
 |v::vs,xs,vals,ho,h,hd=>by
  simp only[ct,Option.bind_eq_some_iff,Option.map_eq_some_iff]at h
  obtain⟨x,h1,ys,h2,rfl⟩:=h
  obtain⟨u,us,rfl,h3,h4⟩:=hd
  exact⟨u,us,rfl,gA hH v x u (fun id aC=>ho id (by simp[V.bF,aC])) h1 h3,dH hH vs ys us (fun id aC=>ho id (by simp[V.bF,aC])) h2 h4⟩
end
theorem sA(hH:aD M φ H w)(dc: ¬H.us fr){s:Sem Value}(cs:List V)(dU:Array Value)(ty:TypeId)(hK:K (.ptr fr 0) [(fr, .row cs)] [])
 (hr:s.run P w= .ok (.pointer (some ⟨w.heap.size,0,none⟩)) (w.alloc (.cells dU ty))) (hd:V.aN (ay M φ H) φ H w cs dU.toList) (hf:Flat dU.toList):
 cX M φ H w fr ((do let y <- s;pure (Next.value y):Sem Next).run P w) K:=by
 obtain⟨h1,h2,h3⟩:=Nr hH dc cs dU ty hd hf
 exact⟨_,_,_,_,_,_,_,hK,by simp[hr], .inl rfl,h1,h2,h3,aj⟩
theorem G0(hH:aD M φ H w)(dc: ¬H.us fr){t:TypeId}(h:∃cs,cN P t=some cs/\K (.ptr fr 0) [(fr, .row cs)] []):
 cX M φ H w fr ((do let y <- Instr.alloc t true (.tuple #[]);pure (Next.value y):Sem Next).run P w) K:=by
 obtain⟨cs,hz,hK⟩:=h
 obtain⟨i,v,h1,h2,h3,h4,rfl⟩:=ki hz
 refine sA hH dc _ v.cells t hK ?_ (dX _ h4) h4
 simp[Instr.alloc,zeroValue,typeInfo,h1,h2,newVar,newRow]
theorem Ny(hH:aD M φ H w)(dc: ¬H.us fr){t:TypeId}{x:V}{xv:Value}(hx:V.den (ay M φ H) φ H w x xv)(h:∃cs,x.cells=some cs/\K (.ptr fr 0) [(fr, .row cs)] []):
 cX M φ H w fr ((do let y <- Instr.box t xv;pure (Next.value y):Sem Next).run P w) K:=by
 obtain⟨cs,hc,hK⟩:=h
 obtain⟨h1,h2⟩:=V.nX x xv cs hc hx
 refine sA hH dc _ xv.cells t hK ?_ h1 h2
 simp[Instr.box,newVar,newRow]
theorem G1(off:Nat):∀ (us:List Value) (cells:Array Value),off+us.length<=cells.size->
 ((us.zipIdx.foldl (fun cs (p:Value×Nat)=>cs.setIfInBounds (off+p.2) p.1) cells)).toList=cells.toList.take off++us++cells.toList.drop (off+us.length):=by
 have key:∀ (us:List Value) (k:Nat) (cells:Array Value),off+k+us.length<=cells.size->
  (((us.zipIdx k).foldl (fun cs (p:Value×Nat)=>cs.setIfInBounds (off+p.2) p.1) cells)).toList=cells.toList.take (off+k)++us++cells.toList.drop (off+k+us.length):=by
  intro us
  induction us with
  |nil=>intro k cells h;simp
  |cons u us ih=>
   intro k cells h
   simp only[List.zipIdx_cons,List.foldl_cons]
   rw[ih (k+1) _ (by simp at h|-;omega)]
   simp only[Array.toList_setIfInBounds,List.length_cons]
   have cJ:off+k<cells.toList.length:=by simp at h|-;omega
   rw[show off+(k+1)=off+k+1 by omega,List.take_set,List.take_succ_eq_append_getElem cJ,List.set_append_right _ _ (by simp;omega)]
   simp only[List.length_take]
   rw[show min (off+k) cells.toList.length=off+k by omega,Nat.sub_self]
   simp only[List.set_cons_zero,List.append_assoc,List.cons_append,List.nil_append]
   rw[List.drop_set_of_lt (by omega)]
   congr 3
   rw[show off+k+1+us.length=off+k+(us.length+1) by omega]
 intro us cells h
 have:=key us 0 cells GV
 simpa using this
theorem Bg(places:List (Nat×Nat)):∀ (parts:List (Nat×V)) (l8:List (Nat×Value)) (cs cs':List V) (cells:Array Value),
 l8.map (·.1)=parts.map (·.1)->V.aN (ay M φ H) φ H w (parts.map (·.2)) (l8.map (·.2))->V.aN (ay M φ H) φ H w cs cells.toList->Flat cells.toList->sw places cs parts=some cs'->
 ∃iS,(∀place:Nat->Option (Nat×Nat),(∀i p,places[i]? =some p->place i=some p)->Instr.fill place cells l8=some iS)/\V.aN (ay M φ H) φ H w cs' iS.toList/\Flat iS.toList
 |[],l8,cs,cs',cells,h1,_,h3,h4,h=>by
  cases l8 with
  |nil=>simp[sw]at h;subst h;exact⟨cells,fun _ _=>rfl,h3,h4⟩
  |cons a l=>simp at h1
 |(i,v)::parts,l8,cs,cs',cells,h1,h2,h3,h4,h=>by
  cases l8 with
  |nil=>simp at h1
  |cons a l8=>
   obtain⟨i',val⟩:=a
   simp only[List.map_cons,List.cons.injEq]at h1
   obtain⟨rfl,h1⟩:=h1
   simp only[List.map_cons]at h2
   obtain⟨u,us,e,h5,h6⟩:=h2
   simp only[List.cons.injEq]at e
   obtain⟨rfl,rfl⟩:=e
   simp only[sw]at h
   split at h
   ·rename_i off size us Dz hc
    split at h
    ·rename_i eh
     obtain⟨g1,g2⟩:=V.nX v _ us hc h5
     have hl:=V.aH _ _ g1
     have hl3:=V.aH _ _ h3
     have hs:=G1 off val.cells.toList cells (by simp at hl hl3|-;omega)
     rw[Array.length_toList]at hl hl3
     have ih:=Bg places parts l8 _ cs' (val.cells.toList.zipIdx.foldl (fun cs (p:Value×Nat)=>cs.setIfInBounds (off+p.2) p.1) cells) h1 h6 (by
      rw[hs]
      refine V.bI _ _ _ _ (V.bI _ _ _ _ (V.dW _ _ _ h3) g1) ?_
      rw[show val.cells.toList.length=us.length by simpa using hl]
      exact V.eR _ _ _ h3) (by
      rw[hs]
      intro x hx
      simp only[List.mem_append]at hx
      rcases hx with(hx|hx)|hx
      ·exact h4 x (List.mem_of_mem_take hx)
      ·exact g2 x hx
      ·exact h4 x (List.mem_of_mem_drop hx)) h
     obtain⟨iS,i1,i2⟩:=ih
     refine⟨iS,fun place hp=> ?_,i2⟩
     have i1:=i1 place hp
     simp only[Instr.fill,hp _ _ Dz]
     rw[if_neg (by simp;omega), <- i1]
     have e:∀ (c:Array Value),c.zipIdx.foldl (fun cs (x:Value×Nat)=>cs.setIfInBounds (off+x.2) x.1) cells=c.toList.zipIdx.foldl (fun cs (x:Value×Nat)=>cs.setIfInBounds (off+x.2) x.1) cells:=by
      intro c;rw[<- Array.foldl_toList,Array.toList_zipIdx]
     rw[<- e]
    ·cases h
   ·cases h
theorem Bh{t:TypeId}{pl:List (Nat×Nat)}(h:gy P t=some pl)(parts:List (Nat×Value))(cells iS:Array Value){i:TypeInfo}{z:Value}(hi:P.info? t=some i)(hz:i.zero=some z)(hc:z.cells=cells)
 (hf:∀place:Nat->Option (Nat×Nat),(∀i p,pl[i]? =some p->place i=some p)->Instr.fill place cells parts=some iS):
 P.built t parts=some iS:=by
 subst hc
 unfold gy at h
 unfold Program.built
 cases hd:P.underlying t with
 |none=>simp[hd]at h
 |some d=>
  cases d<;>simp only[hd]at h<;>try (cases h;done)
  case struct fs=>
   simp only[Option.ite_none_right_eq_some,Option.some.injEq]at h
   obtain⟨bA,rfl⟩:=h
   have hm:fs.toList.mapM (fun f=>(P.info? f.type).map fun i=>(f.offset,i.size))=some (fs.toList.map fun f=>(f.offset,P.cellsOf f.type)):=by
    generalize fs.toList=l at bA
    clear hf
    induction l with
    |nil=>rfl
    |cons f l ih=>
     simp only[List.all_cons,Bool.and_eq_true]at bA
     obtain⟨j,hj⟩:=Option.isSome_iff_exists.1 bA.1
     simp[List.mapM_cons,ih bA.2,hj,cg hj]
   simp only[hi,hz,hm]
   exact hf _ aj
  case array n e=>
   simp only[Option.ite_none_right_eq_some,Option.some.injEq]at h
   obtain⟨bA,rfl⟩:=h
   obtain⟨j,hj⟩:=Option.isSome_iff_exists.1 bA
   simp only[hi,hz,hj]
   refine hf _ fun k p hp=> ?_
   rw[List.getElem?_map]at hp
   simp only[Option.map_eq_some_iff]at hp
   obtain⟨a,h1,rfl⟩:=hp
   rw[List.getElem?_range]at h1
   ·injection h1 with h1;subst h1;rw[cg hj]
   ·rcases Nat.lt_or_ge k n with hn|hn
    ·exact hn
    ·rw[List.getElem?_eq_none (by simpa using hn)]at h1;cases h1
theorem G2(hH:aD M φ H w){t:TypeId}{parts:Array (Nat×Operand)}{s:S}{a:Act}(eL:∀i,V.den (ay M φ H) φ H w (s.env i) (a.tmps.getD i undef))
 (h:∃z pl cs,cN P t=some z/\gy P t=some pl/\sw pl z (parts.toList.map fun p=>(p.1,s.ev p.2))=some cs/\K (mD cs) [] []):
 cX M φ H w fr ((do let y <- Instr.build t (parts.map fun(i,x)=>(i,a.eval x));pure (Next.value y):Sem Next).run P w) K:=by
 obtain⟨z,pl,cs,hz,Dz,pK,hK⟩:=h
 obtain⟨i,zv,h1,h2,h3,h4,rfl⟩:=ki hz
 have hd:V.aN (ay M φ H) φ H w ((parts.toList.map fun p=>(p.1,s.ev p.2)).map (·.2)) ((parts.map fun(i,x)=>(i,a.eval x)).toList.map (·.2)):=by
  have:=kO s a eL (parts.toList.map (·.2))
  simpa[Function.comp_def]using this
 have he:(parts.map fun(i,x)=>(i,a.eval x)).toList.map (·.1)=(parts.toList.map fun p=>(p.1,s.ev p.2)).map (·.1):=by simp[Function.comp_def]
 obtain⟨iS,g1,g2,g3⟩:=Bg (M:=M) (φ:=φ) (H:=H) (w:=w) pl _ _ _ cs zv.cells he hd (dX _ h4) h4 pK
 have hb:P.built t (parts.map fun(i,x)=>(i,a.eval x)).toList=some iS:=Bh Dz _ zv.cells iS h1 h2 rfl g1
 exact cX.plain hH (.agg iS) hK (run_build w t _ iS hb) (lF _ _ g2 g3)
end
end Go.Proofs.YtonbelhklnmjnaaGreat
