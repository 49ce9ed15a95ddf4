/-
  A PART OF THE PROOF. Conditions: none.
-/
import Derived.Great.BuildSlice
import Derived.Great.FillDense
import Derived.Test.YtlhemmpklhhgoaaGreatQk1
set_option linter.unusedSimpArgs false
set_option linter.unusedVariables false
namespace Go.Proofs.YtlhemmpklhhgoaaGreat
section
theorem gC(H:Hp):H.put []=H:=by
 obtain⟨o,us⟩:=H
 simp[Hp.put,put]
theorem bV(H:Hp)(A C:List (Nat×aa)):H.put (A++C)=(H.put A).put C:=by
 obtain⟨o,us⟩:=H
 simp only[Hp.put,put,List.foldl_append,Hp.mk.injEq,true_and]
 funext id
 simp only[List.map_append,List.mem_append,eq_iff_iff]
 exact⟨fun h=>by rcases h with h|h|h<;>simp[h],fun h=>by rcases h with(h|h)|h<;>simp[h]⟩
@[simp] theorem aH (H:Hp) (i:Nat) (x:aa):(H.put [(i,x)]).o=cn H.o i x:=rfl
@[simp] theorem bW (H:Hp) (i j:Nat) (x:aa):(H.put [(i,x)]).us j↔(H.us j\/j=i):=by simp[Hp.put]
section
variable {M:Nat->Prop}{φ ao:Place}{H H':Hp}{w w':World}
theorem au.oI (oq:∀b,bb w b-> ¬ae M φ H b->w'.heap[b]? =w.heap[b]? /\ ¬ae M ao H' b)(K3:bU φ H ao H'){id:Nat}(ho:H'.o id=H.o id)(cL:ao id=φ id)
 (hb:(H.o id).live=true->∀b,cM (φ id)=some b->w'.heap[b]? =w.heap[b]?) (h:au M φ H w id):au M ao H' w' id:=by
 unfold au at*
 rw[ho]
 cases hx:H.o id with
 |no=>trivial
 |row cs=>
  simp only[hx]at h|-
  obtain⟨b,cw,ty,h1,h2,h3,h4⟩:=h
  exact⟨b,cw,ty,cL.trans h1,(hb oz b r9).trans h2,V.cS oq K3 cs _ h3,h4⟩
 |arr ep ty sz es=>
  simp only[hx]at h|-
  obtain⟨h0,xs,h1,evs,h2,h3,h4⟩:=h
  refine⟨h0,xs, ?_,evs,h2,h3,D.aw oq es evs h4⟩
  rw[cL]
  obtain⟨g1,g2⟩:=h1
  refine⟨g1, ?_⟩
  rcases g2 with g2|⟨g,cap,cur,k1,k2,k3,k4⟩
  ·exact .inl g2
  ·exact .inr ⟨g,cap,cur,k1,k2,(hb oz g (by rw[k1];rfl)).trans k3,k4⟩
 |l5 ep es=>
  simp only[hx]at h|-
  rw[cL]
  exact D.ax oq (.sl es) _ h
 |map kt vt l=>
  simp only[hx]at h|-
  obtain⟨b,es,clock,h1,h2,h4,h3⟩:=h
  exact⟨b,es,clock,cL.trans h1,(hb oz b r9).trans h2,h4,ak.mono oq l _ h3⟩
 |dm l=>
  simp only[hx]at h|-
  rw[cL]
  exact fJ.mono oq h
 |l8 l last=>
  simp only[hx]at h|-
  obtain⟨b,h1,h2⟩:=h
  exact⟨b,cL.trans h1,h2.mono oq (hb oz b r9)⟩
 |pX s pos=>
  simp only[hx]at h|-
  obtain⟨b,h1,h2⟩:=h
  exact⟨b,cL.trans h1,(hb oz b r9).trans h2⟩
 |loop nf n env ps gU eY st sc=>
  simp only[hx]at h|-
  obtain⟨b,r,h1,h2,h0,h3,h4,h5,h6,h7,h8,h9⟩:=h
  exact⟨b,r,cL.trans h1,(hb oz b r9).trans h2,h0,h3,h4,h5,h6,h7,h8,fun i=>V.eP oq K3 _ _ (h9 i)⟩
theorem au.mono (ht:Trans φ H w ao H' w'){id:Nat}(ho:H'.o id=H.o id)(cL:ao id=φ id)
 (hb:(H.o id).live=true->∀b,cM (φ id)=some b->w'.heap[b]? =w.heap[b]?) (h:au M φ H w id):au M ao H' w' id:=au.oI ht.blocks ht.rel ho cL hb h
theorem ag.of (hH:ag M φ H w)(ht:Trans φ H w ao H' w')(T:Nat->Prop)(hT:∀id,T id->au M ao H' w' id)
 (hn:∀id, ¬T id->H'.o id=H.o id/\ao id=φ id/\((H.o id).live=true->∀b,cM (φ id)=some b->w'.heap[b]? =w.heap[b]?))
 (eb:∀id, ¬H'.us id->H'.o id= .no)
 (Md:∀i j b,(H'.o i).live=true->(H'.o j).live=true->cM (ao i)=some b->cM (ao j)=some b->i=j)
 (Db:∀b,b4 ao H' b->b<w'.heap.size):ag M ao H' w' where
 ok id:=by
  by_cases hc:T id
  ·exact hT id hc
  ·obtain⟨h1,h2,h3⟩:=hn id hc
   exact(hH.ok id).mono ht h1 h2 h3
 fresh:=eb
 apart:=Md
 ours b hb:=by
  refine⟨fun hM=> ?_,Db b hb⟩
  rcases ht.grow b hb with h1|h1
  ·exact(hH.ours b h1).1 hM
  ·have:=hH.pY b hM;omega
 pY b hM:=Nat.lt_of_lt_of_le (hH.pY b hM) ht.keep.size
theorem bN(hk:cc (fun _=>False) w w'){fr:Nat}(cq: ¬H.us fr)(obj:aa)(val:Value)(dI:∀b,cM val=some b->w.heap.size<=b):
 Trans φ H w (cn φ fr val) (H.put [(fr,obj)]) w' where
 keep:=⟨hk.os,hk.tape,hk.output,hk.size,fun k h _=>hk.block k h (fun h=>h)⟩
 grow b:=by
  rintro⟨id,h1,h2⟩
  by_cases aj:id=fr
  ·subst aj;simp at h2;exact .inr (dI b h2)
  ·simp[aj]at h1 h2;exact .inl ⟨id,h1,h2⟩
 rel:={
  us:=fun id h=>by simp[h]
  row:=fun id hu hr=>by
   have aj:id≠fr:=fun h=>cq (h ▸ hu)
   simp[aj]at hr|-;exact hr
  ep:=fun id e' hu he=>by
   have aj:id≠fr:=fun h=>cq (h ▸ hu)
   simp[aj]at he|-;exact⟨e',he,Nat.le_refl _⟩}
theorem dC(hH:ag M φ H w)(hk:cc (fun _=>False) w w'){fr:Nat}(cq: ¬H.us fr)(obj:aa)(val:Value)(dI:∀b,cM val=some b->w.heap.size<=b/\b<w'.heap.size)
 (nu:au M (cn φ fr val) (H.put [(fr,obj)]) w' fr):ag M (cn φ fr val) (H.put [(fr,obj)]) w':=by
 have ht:Trans φ H w (cn φ fr val) (H.put [(fr,obj)]) w':=bN hk cq obj val fun b hb=>(dI b hb).1
 refine hH.of ht (· =fr) (fun id h=>h ▸ nu) (fun id h=> ?_) (fun id h=> ?_) (fun i j b hi hj bi bj=> ?_) (fun b=> ?_)
 ·refine⟨by simp[h],by simp[h],fun hl b hb=>hk.block b ?_ (fun h=>h)⟩
  exact(hH.ours b ⟨id,hl,hb⟩).2
 ·rw[bW]at h
  have h1:id≠fr:=fun e=>h (.inr e)
  simp only[aH,aq,h1,if_false]
  exact hH.fresh id fun hu=>h (.inl hu)
 ·by_cases e1:i=fr<;>by_cases e2:j=fr
  ·exact e1.trans e2.symm
  ·simp[e1,e2]at hi hj bi bj
   have:=(hH.ours b ⟨j,hj,bj⟩).2;have:=(dI b bi).1;omega
  ·simp[e1,e2]at hi hj bi bj
   have:=(hH.ours b ⟨i,hi,bi⟩).2;have:=(dI b bj).1;omega
  ·simp[e1,e2]at hi hj bi bj
   exact hH.apart i j b hi hj bi bj
 ·rintro⟨id,h1,h2⟩
  by_cases aj:id=fr
  ·subst aj;simp at h2;exact(dI b h2).2
  ·simp[aj]at h1 h2
   exact Nat.lt_of_lt_of_le (hH.ours b ⟨id,h1,h2⟩).2 hk.size
theorem aS(w:World)(o:Obj):cc (fun _=>False) w (w.alloc o):=
 ⟨rfl,rfl,rfl,aU,fun k hk _=>RowKit.Below.heap_alloc w o k hk⟩
theorem fe{w w':World}(h:w.grownBy w' none):cc (fun _=>False) w w':=
 ⟨h.os,h.tape,h.output,h.size,fun k hk _=>h.block k hk aU⟩
theorem vM(hH:ag M φ H w){fr:Nat}(cq: ¬H.us fr)(cs:List V)(cw:Array Value)(ty:TypeId)(hd:V.ai (ae M φ H) φ H w cs cw.toList)(hf:Flat cw.toList):
 let ao:=cn φ fr (.pointer (some ⟨w.heap.size,0,none⟩));let H':=H.put [(fr, .row cs)];let w':=w.alloc (.cells cw ty)
 ag M ao H' w'/\Trans φ H w ao H' w'/\V.den (ae M ao H') ao H' w' (.ptr fr 0) (.pointer (some ⟨w.heap.size,0,none⟩)):=by
 intro ao H' w'
 have hv:∀b,cM (.pointer (some ⟨w.heap.size,0,none⟩))=some b->w.heap.size<=b/\b<w'.heap.size:=by
  intro b hb;simp[cM]at hb;subst hb;simp[w']
 have ht:Trans φ H w ao H' w':=bN (aS w _) cq _ _ fun b hb=>(hv b hb).1
 refine⟨dC hH (aS w _) cq _ _ hv ?_,ht,rfl,by simp[H'],fun _=>⟨w.heap.size,by simp[ao],rfl⟩⟩
 unfold au
 simp only[aH,aq,if_true]
 exact⟨w.heap.size,cw,ty,rfl,heap_alloc_new w _,V.aw ht cs _ hd,hf⟩
theorem cT{id:Nat}(cR:H.us id){b:Nat}(cA:(H.o id).live=true)(hb:cM (φ id)=some b)(hk:cc (· =b) w w')(obj:aa)(bZ:obj.aY=(H.o id).aY)(mb:obj.bz=(H.o id).bz):
 Trans φ H w φ (H.put [(id,obj)]) w' where
 keep:=⟨hk.os,hk.tape,hk.output,hk.size,fun k h hl=>hk.block k h (fun e=>hl ⟨id,cA,e ▸ hb⟩)⟩
 grow b':=by
  rintro⟨j,h1,h2⟩
  by_cases hj:j=id
  ·subst hj;exact .inl ⟨j,cA,h2⟩
  ·simp[hj]at h1;exact .inl ⟨j,h1,h2⟩
 rel:={
  us:=fun j h=>by simp[h]
  row:=fun j hu hr=>by
   by_cases hj:j=id
   ·subst hj;simp at hr;exact⟨bZ ▸ hr,rfl⟩
   ·exact yW
  ep:=fun j e' hu he=>by
   by_cases hj:j=id
   ·subst hj;simp at he;exact⟨e',mb ▸ he,Nat.le_refl _,fun _=>rfl⟩
   ·simp[hj]at he;exact⟨e',he,Nat.le_refl _,fun _=>rfl⟩}
theorem dR(hH:ag M φ H w){id:Nat}(cR:H.us id){b:Nat}(cA:(H.o id).live=true)(hb:cM (φ id)=some b)(hk:cc (· =b) w w')(obj:aa)(bZ:obj.aY=(H.o id).aY)
 (mb:obj.bz=(H.o id).bz) (nu:au M φ (H.put [(id,obj)]) w' id):ag M φ (H.put [(id,obj)]) w':=by
 refine hH.of (cT cR cA hb hk obj bZ mb) (· =id) (fun j h=>h ▸ nu) (fun j h=> ?_) (fun j h=> ?_) (fun i j b' hi hj bi bj=> ?_) (fun b'=> ?_)
 ·refine⟨by simp[h],rfl,fun hl b' Hw=>hk.block b' (hH.ours b' ⟨j,hl,Hw⟩).2 fun e=>h ?_⟩
  exact hH.apart j id b hl cA (e ▸ Hw) hb
 ·rw[bW]at h
  have h1:j≠id:=fun e=>h (.inr e)
  exact y5
 ·refine hH.apart i j b' ?_ ?_ bi bj
  ·by_cases e:i=id
   ·subst e;exact cA
   ·simpa[e]using hi
  ·by_cases e:j=id
   ·subst e;exact cA
   ·simpa[e]using hj
 ·rintro⟨j,h1,h2⟩
  refine Nat.lt_of_lt_of_le (hH.ours b' ⟨j, ?_,h2⟩).2 hk.size
  by_cases e:j=id
  ·subst e;exact cA
  ·simpa[e]using h1
theorem ew(w:World)(b:Nat)(cs:Array Value):cc (· =b) w (w.setRow b cs):=
 ⟨rfl,rfl,rfl,aU,fun k _ hk=>by
  unfold World.setRow
  simp only[Array.getElem?_modify]
  rw[if_neg (fun e=>hk e.symm)]⟩
theorem oJ(hH:ag M φ H w){id b:Nat}(cR:H.us id){cs cs':List V}(ho:H.o id= .row cs)(cL:φ id= .pointer (some ⟨b,0,none⟩)){cw:Array Value}{ty:TypeId}
 (hb:w.heap[b]? =some (.cells cw ty (0,0))) (iF:Array Value) (hd:V.ai (ae M φ H) φ H w cs' iF.toList) (hf:Flat iF.toList):
 ag M φ (H.put [(id, .row cs')]) (w.setRow b iF)/\Trans φ H w φ (H.put [(id, .row cs')]) (w.setRow b iF):=by
 have hl:(H.o id).live=true:=by rw[ho];rfl
 have oq:cM (φ id)=some b:=by rw[cL];rfl
 have ht:Trans φ H w φ (H.put [(id, .row cs')]) (w.setRow b iF):=cT cR hl oq (ew w b iF) _ fC fC
 refine⟨dR hH cR hl oq (ew w b iF) _ fC fC ?_,ht⟩
 unfold au
 simp only[aH,aq,if_true]
 exact⟨b,iF,ty,cL,setRow_heap w b cw iF ty (0,0) hb,V.aw ht cs' _ hd,hf⟩
theorem iG{B:Nat->Prop}{sz g:Nat}(cur:Array Value)(ty:TypeId)(fz:Nat×Nat)(hg:w.heap[g]? =some (.cells cur ty fz))(hB: ¬B g):
 ∀ (es:List D) (evs:List Value) (i:Nat),D.ai B w es evs->(∀ev∈evs,ev.cells.size=sz)->(∀j u,(evs.flatMap (·.cells.toList))[j]? =some u->cur[i*sz+j]? =some u)->D.elems B w sz ⟨g,0,none⟩ i es
 |[],_,_,_,_,_=>trivial
 |e::es,_,i,h,hs,hc=>by
  obtain⟨ev,evs,rfl,h1,h2⟩:=h
  have cg:ev.cells.size=sz:=hs ev aU
  refine⟨⟨ev,cg,fun j u hj=> ?_,h1⟩,iG cur ty fz hg hB es evs (i+1) h2 (fun x hx=>hs x (by simp[hx])) fun j u hj=> ?_⟩
  ·have cm:j<ev.cells.size:=(Array.getElem?_eq_some_iff.1 hj).1
   have:cur[i*sz+j]? =some u:=hc j u (by
    rw[List.flatMap_cons,List.getElem?_append_left (by simpa using cm)];simpa using hj)
   refine⟨?_,by simpa using hB⟩
   unfold Addr.add World.cell?
   by_cases e1:i*sz=0<;>by_cases e2:j=0<;>simp_all
  ·have:=hc (sz+j) u (by
    rw[List.flatMap_cons,List.getElem?_append_right (by simp[cg])]
    simpa[cg]using hj)
   rw[show(i+1)*sz+j=i*sz+(sz+j) by rw[Nat.add_mul];omega]
   exact this
theorem vN(hH:ag M φ H w){id ep sz:Nat}{ty:TypeId}{es:List D}(cR:H.us id)(ho:H.o id= .arr ep ty sz es):
 ag M φ (H.put [(id, .l5 ep es)]) w/\Trans φ H w φ (H.put [(id, .l5 ep es)]) w:=by
 have y9:∀b,b4 φ (H.put [(id, .l5 ep es)]) b->b4 φ H b:=by
  rintro b ⟨j,h1,h2⟩
  by_cases hj:j=id
  ·subst hj;simp[aa.live]at h1
  ·simp[hj]at h1;exact⟨j,h1,h2⟩
 have ht:Trans φ H w φ (H.put [(id, .l5 ep es)]) w:={
  keep:=cc.refl _ _
  grow:=fun b hb=> .inl (y9 b hb)
  rel:={
   us:=fun j h=>by simp[h]
   row:=fun j hu hr=>by
    by_cases hj:j=id
    ·subst hj;simp[aa.aY]at hr
    ·exact yW
   ep:=fun j e' hu he=>by
    by_cases hj:j=id
    ·subst hj;simp[aa.bz]at he;subst he;exact⟨ep,by rw[ho];rfl,Nat.le_refl _,fun _=>rfl⟩
    ·simp[hj]at he;exact⟨e',he,Nat.le_refl _,fun _=>rfl⟩}}
 refine⟨hH.of ht (· =id) (fun j h=> ?_) (fun j h=>⟨by simp[h],rfl,fun _ _ _=>rfl⟩) (fun j h=> ?_) (fun i j b hi hj bi bj=> ?_) (fun b hb=>(hH.ours b (y9 b hb)).2),ht⟩
 ·subst h
  have aI:=hH.ok j
  unfold au at aI|-
  simp only[ho,aH,aq,if_true]at aI|-
  obtain⟨h0,xs,⟨hl,bZ⟩,evs,rfl,h2,h3⟩:=aI
  have hlen:=D.ah _ _ h3
  rcases bZ with⟨h4,h5⟩|⟨g,cap,cur,h4,_,h5,h6,h7,h8,h9⟩
  ·rw[h4]
   have:es=[]:=by simpa using h5
   subst this
   exact Cs
  ·rw[h4]
   refine⟨some ⟨g,0,none⟩,es.length,cap,rfl,rfl,h6,(fun h=>by cases h),sz,fun a ha=> ?_⟩
   injection ha with ha;subst ha
   refine⟨fun _=>rfl,iG cur ty (0,0) h5 ?_ es evs 0 (D.aw (ht.blocks (M:=M)) es evs h3) h2 fun j' u s9=> ?_⟩
   ·rintro(hM|⟨i,vO,Dc⟩)
    ·exact(hH.ours g ⟨j,by rw[ho];rfl,by rw[h4];rfl⟩).1 hM
    ·by_cases e:i=j
     ·subst e;simp[aa.live]at vO
     ·simp[e]at vO
      exact e (hH.apart i j g vO fC Dc (by rw[h4];rfl))
   ·rw[<- h9]at s9
    simp only[Nat.zero_mul,Nat.zero_add]
    rw[List.getElem?_take]at s9
    split at s9
    ·simpa using s9
    ·cases s9
 ·rw[bW]at h
  have h1:j≠id:=fun e=>h (.inr e)
  exact y5
 ·by_cases e1:i=id
  ·subst e1;simp[aa.live]at hi
  ·by_cases e2:j=id
   ·subst e2;simp[aa.live]at hj
   ·simp[e1,e2]at hi hj;exact hH.apart i j b hi hj bi bj
theorem q9(hH:ag M φ H w){id:Nat}{kt vt:TypeId}{l:List (D×D)}(cR:H.us id)(ho:H.o id= .map kt vt l):
 ag M φ (H.put [(id, .dm l)]) w/\Trans φ H w φ (H.put [(id, .dm l)]) w:=by
 have y9:∀b,b4 φ (H.put [(id, .dm l)]) b->b4 φ H b:=by
  rintro b ⟨j,h1,h2⟩
  by_cases hj:j=id
  ·subst hj;simp[aa.live]at h1
  ·simp[hj]at h1;exact⟨j,h1,h2⟩
 have ht:Trans φ H w φ (H.put [(id, .dm l)]) w:={
  keep:=cc.refl _ _
  grow:=fun b hb=> .inl (y9 b hb)
  rel:={
   us:=fun j h=>by simp[h]
   row:=fun j hu hr=>by
    by_cases hj:j=id
    ·subst hj;exact⟨by rw[ho];rfl,rfl⟩
    ·exact yW
   ep:=fun j e' hu he=>by
    by_cases hj:j=id
    ·subst hj;simp[aa.bz]at he
    ·simp[hj]at he;exact⟨e',he,Nat.le_refl _,fun _=>rfl⟩}}
 refine⟨hH.of ht (· =id) (fun j h=> ?_) (fun j h=>⟨by simp[h],rfl,fun _ _ _=>rfl⟩) (fun j h=> ?_) (fun i j b hi hj bi bj=> ?_) (fun b hb=>(hH.ours b (y9 b hb)).2),ht⟩
 ·subst h
  have aI:=hH.ok j
  unfold au at aI|-
  simp only[ho,aH,aq,if_true]at aI|-
  obtain⟨b,es,clock,h1,h2,h3,h4⟩:=aI
  refine⟨b,es,clock,h1,h2, ?_,h3,ak.mono (ht.blocks (M:=M)) _ _ h4⟩
  rintro(hM|⟨i,vO,Dc⟩)
  ·exact(hH.ours b ⟨j,by rw[ho];rfl,by rw[h1];rfl⟩).1 hM
  ·by_cases e:i=j
   ·subst e;simp[aa.live]at vO
   ·simp[e]at vO
    exact e (hH.apart i j b vO fC Dc r9)
 ·rw[bW]at h
  have h1:j≠id:=fun e=>h (.inr e)
  exact y5
 ·by_cases e1:i=id
  ·subst e1;simp[aa.live]at hi
  ·by_cases e2:j=id
   ·subst e2;simp[aa.live]at hj
   ·simp[e1,e2]at hi hj;exact hH.apart i j b hi hj bi bj
end
end
section
def a6(M:Nat->Prop)(φ:Place)(H:Hp)(w:World)(fr:Nat)(r:Result Next)(K:V->List (Nat×aa)->List Nat->Prop):Prop:=
 ∃nx val w' ao v Δ rd,K v Δ rd/\r= .ok nx w'/\(nx= .value val\/nx= .skip/\val=undef)/\ag M ao (H.put Δ) w'/\Trans φ H w ao (H.put Δ) w'/\
  V.den (ae M ao (H.put Δ)) ao (H.put Δ) w' v val/\(∀id∈Δ.map (·.1),H.us id\/id=fr)
section
variable {P:Program}{M:Nat->Prop}{φ:Place}{H:Hp}{w:World}{fr:Nat}{K:V->List (Nat×aa)->List Nat->Prop}
theorem a6.same (hH:ag M φ H w){r:Result Next}{v:V}{rd:List Nat}(val:Value)(hK:K v [] rd)(hr:r= .ok (.value val) w)(hd:V.den (ae M φ H) φ H w v val):a6 M φ H w fr r K:=
 ⟨_,val,w,φ,v,[],rd,hK,hr, .inl rfl,by rw[gC];exact hH,by rw[gC];exact Trans.refl _ _ _,by rw[gC];exact hd,aU⟩
theorem a6.mono {r:Result Next}{K':V->List (Nat×aa)->List Nat->Prop}(h:a6 M φ H w fr r K)(hk:∀v Δ rd,K v Δ rd->K' v Δ rd):a6 M φ H w fr r K':=by
 obtain⟨nx,val,w',ao,v,Δ,rd,h1,h2⟩:=h
 exact⟨nx,val,w',ao,v,Δ,rd,hk _ _ _ h1,h2⟩
theorem info_of_underlying{t:TypeId}{d:TypeDesc}(h:P.underlying t=some d):∃i,P.info? t=some i:=by
 unfold Program.underlying at h
 cases hi:P.info? t with
 |none=>simp[hi]at h
 |some i=>exact⟨i,rfl⟩
theorem aK{t:TypeId}{i:TypeInfo}(h:P.info? t=some i):P.cellsOf t=i.size:=by simp[Program.cellsOf,h]
theorem ff{t:TypeId}{i:TypeInfo}(h:P.info? t=some i):P.bytesOf t=i.bytes:=by simp[Program.bytesOf,h]
theorem ec{t:TypeId}{z:List V}(h:eQ P t=some z):∃i v,P.info? t=some i/\i.zero=some v/\v.cells.size=i.size/\Flat v.cells.toList/\z=v.cells.toList.map V.bB:=by
 unfold eQ at h
 cases hi:P.info? t with
 |none=>simp[hi]at h
 |some i=>
  simp only[hi]at h
  cases hz:i.zero with
  |none=>simp[hz]at h
  |some v=>
   simp only[hz]at h
   split at h
   ·rename_i hc
    injection h with h
    exact⟨i,v,rfl,hz,hc.1,fun u hu=>List.all_eq_true.1 hc.2 u hu,h.symm⟩
   ·cases h
theorem jy{t:TypeId}(h:kn P t=some true)(w:World):(isAgg t).run P w= .ok true w:=by
 unfold kn at h
 unfold isAgg
 cases hd:P.underlying t with
 |none=>simp[hd]at h
 |some d=>cases d<;>simp_all[run_underlying hd]
theorem hG{t:TypeId}(h:kn P t=some false)(w:World):(isAgg t).run P w= .ok false w:=by
 unfold kn at h
 unfold isAgg
 cases hd:P.underlying t with
 |none=>simp[hd]at h
 |some d=>cases d<;>simp_all[run_underlying hd]
theorem bO{t:TypeId}{i:TypeInfo}(h:P.info? t=some i)(w:World):(sizeOf t).run P w= .ok (P.cellsOf t) w:=by
 simp[sizeOf,typeInfo,h,aK h]
theorem jz{t:TypeId}{b:Bool}(h:kn P t=some b):∃i,P.info? t=some i:=by
 unfold kn at h
 cases hd:P.underlying t with
 |none=>simp[hd]at h
 |some d=>exact info_of_underlying hd
theorem aA{t e:TypeId}(h:bI P t=some e):P.underlying t=some (.slice e):=by
 unfold bI at h
 cases hd:P.underlying t with
 |none=>simp[hd]at h
 |some d=>cases d<;>simp_all
theorem my{t e:TypeId}{n:Nat}(h:p8 P t=some (n,e)):P.underlying t=some (.array n e):=by
 unfold p8 at h
 cases hd:P.underlying t with
 |none=>simp[hd]at h
 |some d=>cases d<;>simp_all
theorem add_zero(a:Addr):a.add 0=a:=by simp[Addr.add]
theorem add_plain(b o j:Nat):(⟨b,o,none⟩:Addr).add j=⟨b,o+j,none⟩:=by
 unfold Addr.add;split
 ·rename_i h;subst h;rfl
 ·rfl
theorem add_add(a:Addr)(h:a.spot=none)(m n:Nat):(a.add m).add n=a.add (m+n):=by
 obtain⟨b,o,s⟩:=a
 simp only at h;subst h
 simp only[add_plain,Nat.add_assoc]
theorem oK(a:Addr)(h:a.spot=none)(m:Nat):(a.add m).spot=none:=by
 unfold Addr.add;split<;>first|exact h|rfl
theorem fL(s:S)(a:Act)(b5:∀i,V.den (ae M φ H) φ H w (s.env i) (a.tmps.getD i undef))(x:Operand):V.den (ae M φ H) φ H w (s.ev x) (a.eval x):=by
 cases x with
 |tmp t=>exact b5 t
 |func f=>exact⟨#[],#[],rfl,rfl,rfl⟩
 |global g=>trivial
 |const v=>
  cases v with
  |agg c=>
   simp only[S.ev,V.ofConst,Act.eval]
   split
   ·rename_i hc
    have hf:Flat c.toList:=fun u hu=>List.all_eq_true.1 hc u hu
    exact eS _ _ (bM _ hf) hf
   ·trivial
  |tuple _=>trivial
  |_=>simp only[S.ev,V.ofConst,Act.eval];exact fb _ (by rfl)
theorem ey(s:S)(a:Act)(b5:∀i,V.den (ae M φ H) φ H w (s.env i) (a.tmps.getD i undef)):∀ (xs:List Operand),V.ai (ae M φ H) φ H w (xs.map s.ev) (xs.map a.eval)
 |[]=>rfl
 |x::xs=>⟨a.eval x,xs.map a.eval,rfl,fL s a b5 x,ey s a b5 xs⟩
theorem fM{t:TypeId}(a:Addr)(us:List Value)(hc:∀j u,us[j]? =some u->w.cell? (a.add j)=some u):
 (kn P t=some true->us.length=P.cellsOf t->(Instr.loadAt t (.pointer (some a))).run P w= .ok (.agg us.toArray) w)/\
 (kn P t=some false->∀u,us[0]? =some u->(Instr.loadAt t (.pointer (some a))).run P w= .ok u w):=by
 constructor
 ·intro h hl
  obtain⟨i,hi⟩:=jz h
  have h1:=run_loadCells_list (P:=P) w a us hc
  rw[hl]at h1
  simp[Instr.loadAt,Instr.sureAddr,loadVar,jy h,bO hi,h1]
 ·intro h u hu
  have h1:=hc 0 u hu
  rw[add_zero]at h1
  simp[Instr.loadAt,Instr.sureAddr,loadVar,hG h,h1]
theorem iH{t:TypeId}{cs:List V}{off:Nat}{v:V}(hg:cy P t cs off=some v)(a:Addr)(vs:List Value)(hd:V.ai (ae M φ H) φ H w cs vs)(hf:Flat vs)
 (hc:∀j u,vs[j]? =some u->w.cell? (a.add j)=some u) (ha:a.spot=none):∃val,(Instr.loadAt t (.pointer (some (a.add off)))).run P w= .ok val w/\V.den (ae M φ H) φ H w v val:=by
 have hlen:=V.ah _ _ hd
 unfold cy at hg
 cases qb:kn P t with
 |none=>simp[qb]at hg
 |some b=>
  cases b with
  |true=>
   simp only[qb]at hg
   split at hg
   ·rename_i hle
    injection hg with hg;subst hg
    refine⟨.agg ((vs.drop off).take (P.cellsOf t)).toArray,(fM (P:=P) (t:=t) (a.add off) ((vs.drop off).take (P.cellsOf t)) ?_).1 qb sa, ?_⟩
    ·intro j u hj
     rw[add_add a ha]
     rw[List.getElem?_take]at hj
     split at hj
     ·exact hc _ _ fG
     ·cases hj
    ·refine eS _ _ ?_ ?_
     ·exact V.a8 _ _ _ (V.b8 _ _ _ hd)
     ·intro u hu
      exact hf u (List.mem_of_mem_drop (List.mem_of_mem_take (by simpa using hu)))
   ·cases hg
  |false=>
   simp only[qb]at hg
   obtain⟨u,hu,vP⟩:=V.bA _ _ _ _ hd hg
   refine⟨u,(fM (P:=P) (t:=t) (a.add off) (vs.drop off) ?_).2 qb u (by simpa using hu),vP⟩
   intro j x hj
   rw[add_add a ha]
   exact hc _ _ fG
theorem fN(sz:Nat):∀ (evs:List Value) (i j:Nat) (ev:Value) (u:Value),(∀x∈evs,x.cells.size=sz)->evs[i]? =some ev->ev.cells[j]? =some u->
 (evs.flatMap (·.cells.toList))[i*sz+j]? =some u
 |[],_,_,_,_,_,h,_=>by simp at h
 |e::evs,0,j,ev,u,hs,h,hu=>by
  simp at h;subst h
  have:j<e.cells.size:=(Array.getElem?_eq_some_iff.1 hu).1
  rw[List.flatMap_cons,List.getElem?_append_left (by simp;omega)]
  simpa using hu
 |e::evs,i+1,j,ev,u,hs,h,hu=>by
  have ih:=fN sz evs i j ev u (fun x hx=>hs x (by simp[hx])) (by simpa using h) hu
  rw[List.flatMap_cons,List.getElem?_append_right (by simp[hs e (by simp),Nat.add_mul];omega)]
  simp only[Array.length_toList,hs e (by simp)]
  rw[show(i+1)*sz+j - sz=i*sz+j by rw[Nat.add_mul];omega]
  exact ih
theorem iI{g:Nat}{cw:Array Value}{ty:TypeId}{fz:Nat×Nat}(h:w.heap[g]? =some (.cells cw ty fz))(j:Nat)(u:Value)(hu:cw[j]? =some u):w.cell? ((⟨g,0,none⟩:Addr).add j)=some u:=by
 rw[add_plain,Nat.zero_add,cell_of_row w g j cw ty fz h];exact hu
theorem tz{B:Nat->Prop}{ty:TypeId}{sz:Nat}{es:List D}{v:Value}{b n c i:Nat}{e:D}
 (aI:0<sz/\∃xs,w.ownsRow 0 ty sz v es.length xs/\cu B w sz es xs) (hv:v= .slice (some ⟨b,0,none⟩) n c) (he:es[i]? =some e):
 ∃ev:Value,ev.cells.size=sz/\D.ai B w e.cells ev.cells.toList/\Flat ev.cells.toList/\(∀j u,ev.cells.toList[j]? =some u->w.cell? ((⟨b,i*sz,none⟩:Addr).add j)=some u):=by
 obtain⟨h0,xs,⟨hl,bZ⟩,evs,rfl,h2,h3⟩:=aI
 obtain⟨ev,bC,hd⟩:=D.bA _ _ _ _ h3 he
 have za:=D.cH _ _ hd
 refine⟨ev,h2 ev (List.mem_of_getElem? bC),za.1,za.2,fun j u hj=> ?_⟩
 subst hv
 rcases bZ with⟨h4,_⟩|⟨g,cap,cur,h4,_,h5,h6,h7,h8,h9⟩
 ·simp at h4
 ·simp at h4;obtain⟨rfl,_,rfl⟩:=h4
  have:=fN sz evs i j ev u h2 bC fG
  rw[<- h9,List.getElem?_take]at this
  split at this
  ·have xu:=iI h5 (i*sz+j) u (by simpa using this)
   rw[add_plain]at xu|-
   simpa using xu
  ·cases this
theorem tA(hH:ag M φ H w){t:TypeId}{x:V}{xv:Value}(hx:V.den (ae M φ H) φ H w x xv)
 (h:oE P H.o t x fun v rd=>K v [] rd):a6 M φ H w fr ((do let y <- Instr.loadAt t xv;pure (Next.value y):Sem Next).run P w) K:=by
 have fin:∀ (v:V) rd,K v [] rd->(∃val,(Instr.loadAt t xv).run P w= .ok val w/\V.den (ae M φ H) φ H w v val)->a6 M φ H w fr ((do let y <- Instr.loadAt t xv;pure (Next.value y):Sem Next).run P w) K:=by
  rintro v rd hK ⟨val,h1,h2⟩
  exact a6.same hH val hK (by simp[h1]) h2
 unfold oE at h
 split at h
 ·rename_i id off
  split at h
  ·rename_i cs ho
   obtain⟨v,h1,hK⟩:=h
   obtain⟨_,hu,hp⟩:=hx
   obtain⟨b,cL,rfl⟩:=hp fC
   have aI:=hH.ok id
   simp only[au,ho]at aI
   obtain⟨b',cw,ty,g1,g2,g3,g4⟩:=aI
   rw[cL]at g1;simp at g1;subst g1
   refine fin v _ hK ?_
   have:=iH (P:=P) h1 ⟨b,0,none⟩ cw.toList g3 g4 (fun j u hj=>iI g2 j u fG) rfl
   rwa [add_plain,Nat.zero_add]at this
  ·exact h.elim
 ·rename_i cs off
  obtain⟨v,h1,hK⟩:=h
  obtain⟨a,ev,ha,rfl,hd,hf,hc⟩:=hx
  exact fin v _ hK (iH h1 a ev ((V.aW _ _).2 hd) hf (fun j u hj=>(hc j u fG).1) ha)
 ·rename_i id ep i sz off
  split at h
  ·rename_i dL ty jm es ho
   obtain⟨rfl,rfl,e,he,v,h1,hK⟩:=h
   obtain⟨_,hu,hp⟩:=hx
   obtain⟨b,n,c,cL,rfl⟩:=(hp ep fC).2 rfl
   have aI:=hH.ok id
   simp only[au,ho]at aI
   obtain⟨ev,g1,g2,g3,g4⟩:=tz aI cL he
   refine fin v _ hK ?_
   have:=iH (P:=P) h1 ⟨b,i*sz,none⟩ ev.cells.toList ((V.aW _ _).2 g2) g3 g4 rfl
   rwa [add_plain]at this
  ·exact h.elim
 ·exact h.elim
end
end
section
section
variable {P:Program}{M:Nat->Prop}{φ:Place}{H:Hp}{w:World}{fr:Nat}{K:V->List (Nat×aa)->List Nat->Prop}
theorem a6.plain (hH:ag M φ H w){s:Sem Value}{v:V}{rd:List Nat}(val:Value)(hK:K v [] rd)(hr:s.run P w= .ok val w)(hd:V.den (ae M φ H) φ H w v val):
 a6 M φ H w fr ((do let y <- s;pure (Next.value y):Sem Next).run P w) K:=a6.same hH val hK (by simp[hr]) hd
theorem oL{t:TypeId}{f q:Nat}(h:gV P t f=some q):∃fs fd,P.underlying t=some (.struct fs)/\fs[f]? =some fd/\P.cellsOf fd.type≠0/\fd.offset=q:=by
 unfold gV at h
 cases hd:P.underlying t with
 |none=>simp[hd]at h
 |some d=>
  cases d<;>simp only[hd]at h<;>try (cases h;done)
  rename_i fs
  cases hf:fs[f]? with
  |none=>simp[hf]at h
  |some fd=>
   simp only[hf]at h
   split at h
   ·cases h
   ·injection h with h
    exact⟨fs,fd,rfl,hf,by assumption,h⟩
theorem oM{t:TypeId}{f q:Nat}(h:gV P t f=some q)(a:Addr):(Instr.fieldAt t (.pointer (some a)) f).run P w= .ok (.pointer (some (a.add q))) w:=by
 obtain⟨fs,fd,h1,h2,h3,rfl⟩:=oL h
 have:∃i,P.info? fd.type=some i:=by
  cases hi:P.info? fd.type with
  |none=>simp[Program.cellsOf,hi]at h3
  |some i=>exact⟨i,rfl⟩
 obtain⟨i,hi⟩:=this
 simp[Instr.fieldAt,run_underlying h1,h2,Instr.sureAddr,fieldPlace,bO hi,h3]
def V.step (x:V)(q:Nat):Option V:=
 match x with
 | .ptr id off=>some (.ptr id (off+q))
 | .pp cs off=>some (.pp cs (off+q))
 | .pe id ep j sz off=>some (.pe id ep j sz (off+q))
 |_=>none
def V.place (o:Nat->aa):V->Prop
 | .ptr id _=>(o id).aY=true
 | .pe id ep _ _ _=>(o id).bz=some ep
 |_=>True
theorem oN{x y:V}{q:Nat}(h:x.step q=some y){xv:Value}(hx:V.den (ae M φ H) φ H w x xv)
 (hr:x.place H.o):
 ∃a,xv= .pointer (some a)/\V.den (ae M φ H) φ H w y (.pointer (some (a.add q))):=by
 cases x with
 |ptr id off=>
  simp only[V.step,Option.some.injEq]at h;subst h
  obtain⟨h1,h2,h3⟩:=hx
  obtain⟨b,h4,rfl⟩:=h3 hr
  exact⟨_,rfl,rfl,h2,fun _=>⟨b,h4,by rw[add_plain]⟩⟩
 |pp cs off=>
  simp only[V.step,Option.some.injEq]at h;subst h
  obtain⟨a,ev,ha,rfl,hd⟩:=hx
  exact⟨_,rfl,a,ev,ha,by rw[add_add a ha],hd⟩
 |pe id ep j sz off=>
  simp only[V.step,Option.some.injEq]at h;subst h
  obtain⟨h1,h2,h3⟩:=hx
  obtain⟨b,n,c,h4,rfl⟩:=(h3 ep hr).2 rfl
  refine⟨_,rfl,rfl,h2,fun e he=>⟨(h3 e he).1,fun heq=>⟨b,n,c,h4,by rw[add_plain,Nat.add_assoc]⟩⟩⟩
 |_=>simp[V.step]at h
theorem mc(hH:ag M φ H w){t:TypeId}{f:Nat}{x:V}{xv:Value}(hx:V.den (ae M φ H) φ H w x xv)(h:dZ P H.o t x f fun v=>K v [] []):
 a6 M φ H w fr ((do let y <- Instr.fieldAt t xv f;pure (Next.value y):Sem Next).run P w) K:=by
 have fin:∀ (y:V) q,gV P t f=some q->x.step q=some y->x.place H.o->K y [] []->
  a6 M φ H w fr ((do let y <- Instr.fieldAt t xv f;pure (Next.value y):Sem Next).run P w) K:=by
  intro y q hq hs hr hK
  obtain⟨a,rfl,hd⟩:=oN hs hx hr
  exact a6.plain hH _ hK (oM hq a) hd
 unfold dZ at h
 split at h
 ·rename_i q hq
  split at h
  ·exact fin _ q hq rfl h.1 h.2
  ·exact fin _ q hq rfl trivial h
  ·exact fin _ q hq rfl h.1 h.2
  ·exact h.elim
 ·exact h.elim
theorem qc{B:Nat->Prop}{es:List D}{xv:Value}(hx:D.den B w (.sl es) xv){i:Nat}{y:D}(hy:es[i]? =some y):
 ∃a len cap ev,xv= .slice (some a) len cap/\i<len/\a.spot=none/\D.ai B w y.cells ev/\Flat ev/\c6 B w (a.add (i*y.cells.length)) ev.toArray/\len=es.length:=by
 obtain⟨base,len,cap,rfl,rfl,h2,h3,sz,h4⟩:=hx
 have cm:i<es.length:=(List.getElem?_eq_some_iff.1 hy).1
 cases base with
 |none=>have:=h3 rfl;omega
 |some a=>
  obtain⟨h5,h6⟩:=h4 a rfl
  obtain⟨ev,h7,h8,h9⟩:=D.mn es 0 i y h6 hy
  have xu:=D.cH _ _ h9
  have Me:y.cells.length=sz:=by rw[<- h7, <- D.ah _ _ xu.1];simp
  refine⟨a,es.length,cap,ev.cells.toList,rfl,cm,h5 aN,xu.1,xu.2, ?_,rfl⟩
  rw[Me]
  simpa using h8
theorem gM{t e:TypeId}(ht:bI P t=some e)(a:Addr)(len cap:Nat)(k:IntKind)(i:Int)(h0:0<=i)(h1:i.toNat<len)(hc:0<P.cellsOf e):
 (Instr.indexAt t (.slice (some a) len cap) (.int k i)).run P w= .ok (.pointer (some (a.add (i.toNat*P.cellsOf e)))) w:=by
 have hu:=aA ht
 have:∃ie,P.info? e=some ie:=by
  cases hi:P.info? e with
  |none=>simp[Program.cellsOf,hi]at hc
  |some i=>exact⟨i,rfl⟩
 obtain⟨ie,hi⟩:=this
 have h2:0<=i/\i<(len:Int):=⟨h0,aN⟩
 simp[Instr.indexAt,run_underlying hu,asIntOf,h2,bO hi]
theorem me{t e:TypeId}{n:Nat}(ht:p8 P t=some (n,e))(a:Addr)(k:IntKind)(i:Int)(h0:0<=i)(h1:i<n)(hi:∃ie,P.info? e=some ie):
 (Instr.indexAt t (.pointer (some a)) (.int k i)).run P w= .ok (.pointer (some (a.add (i.toNat*P.cellsOf e)))) w:=by
 have hu:=my ht
 obtain⟨ie,hi⟩:=hi
 have h2:0<=i/\i<(n:Int):=⟨h0,h1⟩
 simp[Instr.indexAt,run_underlying hu,asIntOf,Instr.sureAddr,h2,bO hi]
theorem mf(hH:ag M φ H w){t:TypeId}{x ix:V}{xv iv:Value}(hx:V.den (ae M φ H) φ H w x xv)(hi:V.den (ae M φ H) φ H w ix iv)
 (h:dY P H.o t x ix fun v rd=>K v [] rd):a6 M φ H w fr ((do let y <- Instr.indexAt t xv iv;pure (Next.value y):Sem Next).run P w) K:=by
 unfold dY at h
 split at h
 ·rename_i k i
  simp only[V.den,D.den]at hi;subst hi
  have nv:∀ {e:TypeId} {es:List D} {rd},bI P t=some e->D.den (ae M φ H) w (.sl es) xv->(0<=i/\∃y,es[i.toNat]? =some y/\y.cells.length=P.cellsOf e/\0<P.cellsOf e/\K (.pp y.cells 0) [] rd)->
   a6 M φ H w fr ((do let y <- Instr.indexAt t xv (.int k i);pure (Next.value y):Sem Next).run P w) K:=by
   rintro e es rd ht hd ⟨h0,y,hy,hc,cU,hK⟩
   obtain⟨a,len,cap,ev,rfl,h1,h2,h3,h4,h5,_⟩:=qc hd hy
   refine a6.plain hH _ hK (gM ht a len cap k i h0 h1 cU) ⟨a.add (i.toNat*P.cellsOf e),ev,oK a h2 _,by rw[add_zero],h3,h4, ?_⟩
   rw[<- hc];exact h5
  split at h
  ·rename_i e ht
   split at h
   ·exact nv ht hx h
   ·exact nv ht hx.1 h
   ·rename_i id ep
    split at h
    ·rename_i dL ty sz es ho
     obtain⟨rfl,h0,h1,rfl,cU,hK⟩:=h
     obtain⟨vQ,cR,mb⟩:=hx
     have hv:=(mb ep fC).2 rfl
     have aI:=hH.ok id
     simp only[au,ho]at aI
     obtain⟨h3,xs,⟨_,bZ⟩,_⟩:=aI
     rcases bZ with⟨_,h5⟩|⟨g,cap,cur,h4,_⟩
     ·omega
     ·subst hv
      rw[h4]
      refine a6.plain hH _ hK (gM ht _ _ cap k i h0 h1 cU) ⟨rfl,cR,fun e' vq=>⟨(mb e' vq).1,fun heq=>⟨g,es.length,cap,h4,by rw[add_plain];simp⟩⟩⟩
    ·rename_i dL es ho
     obtain⟨rfl,h⟩:=h
     obtain⟨vQ,cR,mb⟩:=hx
     have hv:=(mb ep fC).2 rfl
     have aI:=hH.ok id
     simp only[au,ho]at aI
     exact nv ht (hv ▸ aI) h
    ·exact h.elim
   ·exact h.elim
  ·split at h
   ·rename_i n e ht
    obtain⟨h0,h1,Im,h⟩:=h
    have fin:∀ (y:V),x.step (i.toNat*P.cellsOf e)=some y->x.place H.o->K y [] []->
     a6 M φ H w fr ((do let y <- Instr.indexAt t xv (.int k i);pure (Next.value y):Sem Next).run P w) K:=by
     intro y hs hr hK
     obtain⟨a,rfl,hd⟩:=oN hs hx hr
     refine a6.plain hH _ hK (me ht a k i h0 h1 (Option.isSome_iff_exists.1 Im)) hd
    split at h
    ·exact fin _ rfl h.1 h.2
    ·exact fin _ rfl trivial h
    ·exact fin _ rfl h.1 h.2
    ·exact h.elim
   ·exact h.elim
 ·exact h.elim
theorem zb(hH:ag M φ H w){op:UnOp}{x:V}{xv:Value}(hx:V.den (ae M φ H) φ H w x xv)(h:Da op x fun v=>K v [] []):
 a6 M φ H w fr ((do let y <- Op.unary op xv;pure (Next.value y):Sem Next).run P w) K:=by
 unfold Da at h
 split at h
 ·simp only[V.den,D.den]at hx;subst hx
  exact a6.plain hH _ h (by simp[Op.unary,Op.intArith]) rfl
 ·simp only[V.den,D.den]at hx;subst hx
  exact a6.plain hH _ h (by simp[Op.unary]) rfl
 ·exact h.elim
theorem oy{op:BinOp}{k:IntKind}{a b r:Int}(h:kU op k a b=some r):(Op.intBits op k a b).run P w= .ok (.int k r) w:=by
 unfold kU at h
 cases op<;>simp at h<;>subst h<;>simp[Op.intBits]
theorem jQ{t:TypeId}(hu:P.underlying t=some .bool)(a b:Bool)(d:Nat):(Op.equalIn (d+1) t (.bool a) (.bool b)).run P w= .ok (a==b) w:=by
 simp[Op.equalIn,run_underlying hu]
theorem vR(hH:ag M φ H w){op:BinOp}{t:TypeId}{p q:Operand}{x y:V}{xv yv:Value}(hx:V.den (ae M φ H) φ H w x xv)(hy:V.den (ae M φ H) φ H w y yv)
 (h:tv P op t x y fun v=>K v [] []):
 a6 M φ H w fr ((do let y <- (do eqGuard op t p q xv yv;binOp op t xv yv);pure (Next.value y):Sem Next).run P w) K:=by
 unfold tv at h
 split at h
 ·rename_i k a k' b
  obtain⟨rfl,h⟩:=h
  simp only[V.den,D.den]at hx hy;subst hx;subst hy
  have hg:(eqGuard op t p q (.int k a) (.int k b)).run P w= .ok () w:=by
   exact yV
  have fin:∀ (v:V) (val:Value),K v [] []->(binOp op t (.int k a) (.int k b)).run P w= .ok val w->V.den (ae M φ H) φ H w v val->
   a6 M φ H w fr ((do let y <- (do eqGuard op t p q (.int k a) (.int k b);binOp op t (.int k a) (.int k b));pure (Next.value y):Sem Next).run P w) K:=by
   intro v val hK hr hd
   exact a6.plain hH val hK (by simp[hg,hr]) hd
  cases op<;>simp only[vI]at h
  case add=>exact fin _ _ h (by simp[binOp,Op.intArith]) rfl
  case sub=>exact fin _ _ h (by simp[binOp,Op.intArith]) rfl
  case mul=>exact fin _ _ h (by simp[binOp,Op.intArith]) rfl
  case quo=>exact fin _ _ h.2 (by simp[binOp,Op.intDiv,h.1]) rfl
  case rem=>exact fin _ _ h.2 (by simp[binOp,Op.intDiv,h.1]) rfl
  case and=>obtain⟨r,hr,hK⟩:=h;exact fin _ _ hK vE rfl
  case or=>obtain⟨r,hr,hK⟩:=h;exact fin _ _ hK vE rfl
  case xor=>obtain⟨r,hr,hK⟩:=h;exact fin _ _ hK vE rfl
  case andNot=>obtain⟨r,hr,hK⟩:=h;exact fin _ _ hK vE rfl
  all_goals
   obtain⟨r,hr,hK⟩:=h
   simp only[C9,Option.some.injEq]at hr
   subst hr
   exact fin _ _ hK (by simp[binOp,Op.intCmp];rfl) (by simp[V.den,D.den])
 ·rename_i a b
  simp only[V.den,D.den]at hx hy;subst hx;subst hy
  have hg:(eqGuard op t p q (.bool a) (.bool b)).run P w= .ok () w:=by
   exact yV
  split at h
  ·obtain⟨hu,hK⟩:=h
   have h1:(Op.equal t (.bool a) (.bool b)).run P w= .ok (a==b) w:=jQ hu a b 9999
   exact a6.plain hH (.bool (a==b)) hK (by simp[hg,binOp,h1]) rfl
  ·obtain⟨hu,hK⟩:=h
   have h1:(Op.equal t (.bool a) (.bool b)).run P w= .ok (a==b) w:=jQ hu a b 9999
   exact a6.plain hH (.bool (a !=b)) hK (by simp[hg,binOp,h1,bne]) rfl
  ·exact h.elim
 ·rename_i a b
  obtain⟨u,rfl,rfl⟩:=hx
  obtain⟨v,rfl,rfl⟩:=hy
  have hg:(eqGuard op t p q (.string u) (.string v)).run P w= .ok () w:=by
   exact yV
  split at h
  ·exact a6.plain hH (.bool (u.data.toList==v.data.toList)) h (by simp[hg,binOp,Op.stringOp,ByteArray.toList_eq]) rfl
  ·exact a6.plain hH (.bool (u.data.toList !=v.data.toList)) h (by simp[hg,binOp,Op.stringOp,ByteArray.toList_eq,bne]) rfl
  ·exact h.elim
 ·rename_i a b
  obtain⟨a',rfl,hx⟩:=hx
  obtain⟨b',rfl,hy⟩:=hy
  split at h
  ·obtain⟨r,hr,hK⟩:=h
   obtain⟨h1,h2⟩:=hr (ae M φ H) w (.agg a') (.agg b') ⟨a',rfl,hx⟩ ⟨b',rfl,hy⟩
   exact a6.plain hH (.bool r) hK (by simp[h2,binOp,h1]) rfl
  ·obtain⟨r,hr,hK⟩:=h
   obtain⟨h1,h2⟩:=hr (ae M φ H) w (.agg a') (.agg b') ⟨a',rfl,hx⟩ ⟨b',rfl,hy⟩
   exact a6.plain hH (.bool !r) hK (by simp[h2,binOp,h1]) rfl
  ·exact h.elim
 ·exact h.elim
theorem tB(hH:ag M φ H w){c a b:V}{cv av bv:Value}(hc:V.den (ae M φ H) φ H w c cv)(ha:V.den (ae M φ H) φ H w a av)(hb:V.den (ae M φ H) φ H w b bv)
 (h:oD c a b fun v=>K v [] []):a6 M φ H w fr ((do pure (.value (if <- asBool cv then av else bv)):Sem Next).run P w) K:=by
 unfold oD at h
 split at h
 ·rename_i t
  simp only[V.den,D.den]at hc;subst hc
  have hr:((do pure (.value (if <- asBool (.bool t)then av else bv)):Sem Next).run P w)= .ok (.value (if t then av else bv)) w:=by simp[asBool]
  have fin:∀v,K v [] []->V.den (ae M φ H) φ H w v (if t then av else bv)->a6 M φ H w fr ((do pure (.value (if <- asBool (.bool t)then av else bv)):Sem Next).run P w) K:=
   fun v hK hd=>a6.same hH _ hK hr hd
  cases t
  ·exact fin _ (h.2 rfl) (by simpa using hb)
  ·exact fin _ (h.1 rfl) (by simpa using ha)
 ·exact h.elim
theorem kH{t:TypeId}{e:TypeId}(hu:P.underlying t=some (.slice e))(base:Option Addr)(n c:Nat)(ty:TypeId):(Builtin.len_ #[t] ty #[.slice base n c]).run P w= .ok (goInt n) w:=by
 simp[Builtin.len_,run_underlying hu]
theorem vS(hH:ag M φ H w){t ty:TypeId}{x:V}{xv:Value}(hx:V.den (ae M φ H) φ H w x xv)(h:tw P t H.o x fun v rd=>K v [] rd):
 a6 M φ H w fr ((do let y <- Builtin.len_ #[t] ty #[xv];pure (Next.value y):Sem Next).run P w) K:=by
 unfold tw at h
 split at h
 ·rename_i e hu
  have fin:∀ {es:List D} {rd},D.den (ae M φ H) w (.sl es) xv->K (.d (.int .i64 es.length)) [] rd->a6 M φ H w fr ((do let y <- Builtin.len_ #[t] ty #[xv];pure (Next.value y):Sem Next).run P w) K:=by
   rintro es rd ⟨base,len,cap,rfl,rfl,_⟩ hK
   exact a6.plain hH _ hK (kH hu _ _ _ _) rfl
  split at h
  ·exact fin hx h
  ·simp only[V.den]at hx;subst hx
   exact a6.plain hH _ h (kH hu _ _ _ _) rfl
  ·exact fin hx.1 h
  ·rename_i id ep
   split at h
   ·rename_i dL ty sz es ho
    obtain⟨rfl,hK⟩:=h
    obtain⟨vQ,cR,mb⟩:=hx
    have hv:=(mb ep fC).2 rfl
    have aI:=hH.ok id
    simp only[au,ho]at aI
    obtain⟨h3,xs,⟨_,bZ⟩,_⟩:=aI
    subst hv
    rcases bZ with⟨h4,h5⟩|⟨g,cap,cur,h4,_⟩
    ·rw[h4];rw[h5]at hK;exact a6.plain hH _ hK (kH hu _ _ _ _) rfl
    ·rw[h4];exact a6.plain hH _ hK (kH hu _ _ _ _) rfl
   ·rename_i dL es ho
    obtain⟨rfl,hK⟩:=h
    obtain⟨vQ,cR,mb⟩:=hx
    have hv:=(mb ep fC).2 rfl
    have aI:=hH.ok id
    simp only[au,ho]at aI
    exact fin (hv ▸ aI) hK
   ·exact h.elim
  ·exact h.elim
 ·rename_i hu
  split at h
  ·obtain⟨u,rfl,rfl⟩:=hx
   exact a6.plain hH (goInt u.size) h (by simp[Builtin.len_,run_underlying hu]) (by simp[V.den,D.den,goInt])
  ·exact h.elim
 ·rename_i n e hu
  exact a6.plain hH _ h (by simp[Builtin.len_,run_underlying hu];rfl) rfl
 ·exact h.elim
end
end
section
section
variable {P:Program}{M:Nat->Prop}{φ:Place}{H:Hp}{w:World}{fr:Nat}{K:V->List (Nat×aa)->List Nat->Prop}
def aa.fz:aa->aa
 | .arr ep _ _ es=> .l5 ep es
 | .map _ _ l=> .dm l
 |o=>o
theorem fg(o:Nat->aa)(ids:List Nat):bH o ids=ids.map fun id=>(id,(o id).fz):=by
 unfold bH
 refine List.map_congr_left fun id _=> ?_
 cases o id<;>rfl
theorem k8(H:Hp){id:Nat}(hu:H.us id){x:aa}(hx:H.o id=x):H.put [(id,x)]=H:=by
 obtain⟨o,us⟩:=H
 simp only[Hp.put,put,List.foldl_cons,List.foldl_nil,Hp.mk.injEq,List.map_cons,List.map_nil,List.mem_singleton]
 constructor
 ·funext j
  by_cases hj:j=id
  ·subst hj;simpa using hx.symm
  ·simp[hj]
 ·funext j
  simp only[eq_iff_iff]
  exact⟨fun h=>h.elim (fun h=>h) fun e=>e ▸ hu, .inl⟩
theorem iJ(o:Nat->aa):∀ (ids:List Nat) (H:Hp),ag M φ H w->(∀id∈ids,H.us id)->(∀id,H.o id=o id\/H.o id=(o id).fz)->
 let H':=H.put (ids.map fun id=>(id,(o id).fz));ag M φ H' w/\Trans φ H w φ H' w/\(∀id∈ids,H'.o id=(o id).fz)/\(∀id,H'.o id=o id\/H'.o id=(o id).fz)/\(∀id,id∉ids->H'.o id=H.o id)/\∀id,H'.us id↔H.us id
 |[],H,hH,_,ho=>by
  simp only[List.map_nil,gC]
  exact⟨hH,Trans.refl _ _ _,aU,ho,aU,aU⟩
 |id::ids,H,hH,hu,ho=>by
  have h1:ag M φ (H.put [(id,(o id).fz)]) w/\Trans φ H w φ (H.put [(id,(o id).fz)]) w:=by
   rcases ho id with h|h
   ·cases hx:o id with
    |arr ep ty sz es=>exact vN hH (hu id aU) (h.trans hx)
    |map kt vt l=>exact q9 hH (hu id aU) (h.trans hx)
    |_=>
     rw[k8 H (hu id (by simp)) (h.trans (by rw[hx];rfl))]
     exact⟨hH,Trans.refl _ _ _⟩
   ·rw[k8 H (hu id (by simp)) h]
    exact⟨hH,Trans.refl _ _ _⟩
  have h2:∀j,(H.put [(id,(o id).fz)]).o j=o j\/(H.put [(id,(o id).fz)]).o j=(o j).fz:=by
   intro j
   by_cases hj:j=id
   ·subst hj;right;simp
   ·simpa[hj]using ho j
  have ih:=iJ o ids (H.put [(id,(o id).fz)]) h1.1 (fun j hj=>by simp[hu j (by simp[hj])]) h2
  obtain⟨i1,i2,i3,i4,i5,i6⟩:=ih
  have e:H.put ((id::ids).map fun id=>(id,(o id).fz))=(H.put [(id,(o id).fz)]).put (ids.map fun id=>(id,(o id).fz)):=by
   rw[<- bV];rfl
  rw[e]
  refine⟨i1,h1.2.trans i2,fun j hj=> ?_,i4,fun j hj=> ?_,fun j=> ?_⟩
  ·rcases List.mem_cons.1 hj with rfl|hj
   ·by_cases hm:j∈ids
    ·exact i3 j hm
    ·rw[i5 j hm];simp
   ·exact i3 j hj
  ·simp only[List.mem_cons,not_or]at hj
   rw[i5 j hj.2];simp[hj.1]
  ·rw[i6 j,bW]
   exact⟨fun h=>h.elim (fun h=>h) fun e=>e ▸ hu id aU, .inl⟩
theorem bK(hH:ag M φ H w)(ids:List Nat)(hu:∀id∈ids,H.us id):
 let H':=H.put (bH H.o ids);ag M φ H' w/\Trans φ H w φ H' w/\(∀id∈ids,H'.o id=(H.o id).fz)/\(∀id,id∉ids->H'.o id=H.o id)/\∀id,H'.us id↔H.us id:=by
 rw[fg]
 obtain⟨a,b,c,_,d,e⟩:=iJ H.o ids H hH hu (fun _=> .inl rfl)
 exact⟨a,b,c,d,e⟩
mutual
theorem bP:∀ (v:V) (val:Value),V.den (ae M φ H) φ H w v val->∀id∈v.ids,H.us id
 | .osl id ep,_,h,j,hj=>by simp[V.ids]at hj;subst hj;exact h.2.1
 | .mp id,_,h,j,hj=>by simp[V.ids]at hj;subst hj;exact h.2.1
 | .agg cs,_,h,j,hj=>by obtain⟨a,rfl,h,_⟩:=h;exact bd cs _ h j (by simpa[V.ids]using hj)
 | .iface t x,_,h,j,hj=>by obtain⟨u,rfl,h⟩:=h;exact bP x u h j (by simpa[V.ids]using hj)
 | .d _,_,_,_,hj| .cG,_,_,_,hj| .a7 _,_,_,_,hj| .ptr _ _,_,_,_,hj| .pe _ _ _ _ _,_,_,_,hj| .pp _ _,_,_,_,hj| .func _ _ _,_,_,_,hj| .bT,_,_,_,hj| .jN _,_,_,_,hj| .oo _ _ _,_,_,_,hj| .c7,_,_,_,hj| .jl _,_,_,_,hj=>by simp[V.ids]at hj
theorem bd:∀ (vs:List V) (vals:List Value),V.ai (ae M φ H) φ H w vs vals->∀id∈V.aC vs,H.us id
 |[],_,_,j,hj=>by simp[V.aC]at hj
 |v::vs,_,h,j,hj=>by
  obtain⟨u,us,rfl,h1,h2⟩:=h
  rcases List.mem_append.1 (show j∈v.ids++V.aC vs from hj)with hj|hj
  ·exact bP v u h1 j hj
  ·exact bd vs us h2 j hj
end
mutual
theorem dA(hH:ag M φ H w){o:Nat->aa}:∀ (v:V) (x:D) (val:Value),(∀id∈v.ids,H.o id=(o id).fz)->cN o v=some x->V.den (ae M φ H) φ H w v val->D.den (ae M φ H) w x val
 | .d y,x,val,_,h,hd=>by simp[cN]at h;subst h;exact hd
 | .cG,x,val,_,h,hd=>by
   simp[cN]at h;subst h
   simp only[V.den]at hd;subst hd
   exact Cs
 | .osl id ep,x,val,ho,h,hd=>by
   obtain⟨_,_,hd⟩:=hd
   have ho:=ho id (by simp[V.ids])
   have aI:=hH.ok id
   simp only[cN]at h
   cases hx:o id with
   |no=>simp[hx]at h
   |row cs=>simp[hx]at h
   |map kt vt l=>simp[hx]at h
   |loop nf n env ps gU eY st sc=>simp[hx]at h
   |dm l=>simp[hx]at h
   |l8 l last=>simp[hx]at h
   |pX s pos=>simp[hx]at h
   |arr dL ty sz es=>
    simp only[hx]at h ho
    split at h
    ·rename_i e;subst e;injection h with h;subst h
     exact CU
    ·cases h
   |l5 dL es=>
    simp only[hx]at h ho
    split at h
    ·rename_i e;subst e;injection h with h;subst h
     exact CU
    ·cases h
 | .mp id,x,val,ho,h,hd=>by
   obtain⟨_,_,hd⟩:=hd
   have ho:=ho id (by simp[V.ids])
   have aI:=hH.ok id
   simp only[cN]at h
   cases hx:o id with
   |map kt vt l=>
    exact CE
   |dm l=>
    exact CE
   |_=>simp[hx]at h
 | .agg cs,x,val,ho,h,hd=>by
   simp only[cN,Option.map_eq_some_iff]at h
   obtain⟨ds,h1,rfl⟩:=h
   obtain⟨a,rfl,h2,h3⟩:=hd
   exact⟨a,rfl,bD hH cs ds _ (fun id aj=>ho id (by simpa[V.ids]using aj)) h1 h2,h3⟩
 | .iface t y,x,val,ho,h,hd=>by
   simp only[cN,Option.map_eq_some_iff]at h
   obtain⟨z,h1,rfl⟩:=h
   obtain⟨u,rfl,h2⟩:=hd
   exact⟨u,rfl,dA hH y z u (fun id aj=>ho id (by simpa[V.ids]using aj)) h1 h2⟩
 | .a7 _,_,_,_,h,_| .ptr _ _,_,_,_,h,_| .pe _ _ _ _ _,_,_,_,h,_| .pp _ _,_,_,_,h,_| .func _ _ _,_,_,_,h,_| .bT,_,_,_,h,_| .oo _ _ _,_,_,_,h,_| .c7,_,_,_,h,_| .jl _,_,_,_,h,_=>by simp[cN]at h
 | .jN es,x,val,_,h,hd=>by simp[cN]at h;subst h;exact hd.1
theorem bD(hH:ag M φ H w){o:Nat->aa}:∀ (vs:List V) (xs:List D) (vals:List Value),(∀id∈V.aC vs,H.o id=(o id).fz)->aT o vs=some xs->V.ai (ae M φ H) φ H w vs vals->D.ai (ae M φ H) w xs vals
 |[],xs,vals,_,h,hd=>by simp[aT]at h;subst h;exact hd
 |v::vs,xs,vals,ho,h,hd=>by
  simp only[aT,Option.bind_eq_some_iff,Option.map_eq_some_iff]at h
  obtain⟨x,h1,ys,h2,rfl⟩:=h
  obtain⟨u,us,rfl,h3,h4⟩:=hd
  exact⟨u,us,rfl,dA hH v x u (fun id aj=>ho id (by simp[V.aC,aj])) h1 h3,bD hH vs ys us (fun id aj=>ho id (by simp[V.aC,aj])) h2 h4⟩
end
theorem jR(hH:ag M φ H w)(cq: ¬H.us fr){s:Sem Value}(cs:List V)(cw:Array Value)(ty:TypeId)(hK:K (.ptr fr 0) [(fr, .row cs)] [])
 (hr:s.run P w= .ok (.pointer (some ⟨w.heap.size,0,none⟩)) (w.alloc (.cells cw ty))) (hd:V.ai (ae M φ H) φ H w cs cw.toList) (hf:Flat cw.toList):
 a6 M φ H w fr ((do let y <- s;pure (Next.value y):Sem Next).run P w) K:=by
 obtain⟨h1,h2,h3⟩:=vM hH cq cs cw ty hd hf
 exact Cv
theorem si(hH:ag M φ H w)(cq: ¬H.us fr){t:TypeId}(h:∃cs,eQ P t=some cs/\K (.ptr fr 0) [(fr, .row cs)] []):
 a6 M φ H w fr ((do let y <- Instr.alloc t true (.tuple #[]);pure (Next.value y):Sem Next).run P w) K:=by
 obtain⟨cs,hz,hK⟩:=h
 obtain⟨i,v,h1,h2,h3,h4,rfl⟩:=ec hz
 refine jR hH cq _ v.cells t hK ?_ (bM _ h4) h4
 simp[Instr.alloc,zeroValue,typeInfo,h1,h2,newVar,newRow]
theorem vT(hH:ag M φ H w)(cq: ¬H.us fr){t:TypeId}{x:V}{xv:Value}(hx:V.den (ae M φ H) φ H w x xv)(h:∃cs,x.cells=some cs/\K (.ptr fr 0) [(fr, .row cs)] []):
 a6 M φ H w fr ((do let y <- Instr.box t xv;pure (Next.value y):Sem Next).run P w) K:=by
 obtain⟨cs,hc,hK⟩:=h
 obtain⟨h1,h2⟩:=V.gB x xv cs hc hx
 refine jR hH cq _ xv.cells t hK ?_ h1 h2
 simp[Instr.box,newVar,newRow]
theorem sj(off:Nat):∀ (us:List Value) (cells:Array Value),off+us.length<=cells.size->
 ((us.zipIdx.foldl (fun cs (p:Value×Nat)=>cs.setIfInBounds (off+p.2) p.1) cells)).toList=cells.toList.take off++us++cells.toList.drop (off+us.length):=by
 have key:∀ (us:List Value) (k:Nat) (cells:Array Value),off+k+us.length<=cells.size->
  (((us.zipIdx k).foldl (fun cs (p:Value×Nat)=>cs.setIfInBounds (off+p.2) p.1) cells)).toList=cells.toList.take (off+k)++us++cells.toList.drop (off+k+us.length):=by
  intro us
  induction us with
  |nil=>intro k cells h;simp
  |cons u us ih=>
   intro k cells h
   simp only[List.zipIdx_cons,List.foldl_cons]
   rw[ih (k+1) _ (by simp at h|-;omega)]
   simp only[Array.toList_setIfInBounds,List.length_cons]
   have cm:off+k<cells.toList.length:=by simp at h|-;omega
   rw[show off+(k+1)=off+k+1 by omega,List.take_set,List.take_succ_eq_append_getElem cm,List.set_append_right _ _ (by simp;omega)]
   simp only[List.length_take]
   rw[show min (off+k) cells.toList.length=off+k by omega,Nat.sub_self]
   simp only[List.set_cons_zero,List.append_assoc,List.cons_append,List.nil_append]
   rw[List.drop_set_of_lt (by omega)]
   congr 3
   rw[show off+k+1+us.length=off+k+(us.length+1) by omega]
 intro us cells h
 have:=key us 0 cells (by simpa using h)
 simpa using this
theorem oO(places:List (Nat×Nat)):∀ (parts:List (Nat×V)) (fh:List (Nat×Value)) (cs cs':List V) (cells:Array Value),
 fh.map (·.1)=parts.map (·.1)->V.ai (ae M φ H) φ H w (parts.map (·.2)) (fh.map (·.2))->V.ai (ae M φ H) φ H w cs cells.toList->Flat cells.toList->jO places cs parts=some cs'->
 ∃dr,(∀place:Nat->Option (Nat×Nat),(∀i p,places[i]? =some p->place i=some p)->Instr.fill place cells fh=some dr)/\V.ai (ae M φ H) φ H w cs' dr.toList/\Flat dr.toList
 |[],fh,cs,cs',cells,h1,_,h3,h4,h=>by
  cases fh with
  |nil=>simp[jO]at h;subst h;exact⟨cells,fun _ _=>rfl,h3,h4⟩
  |cons a l=>simp at h1
 |(i,v)::parts,fh,cs,cs',cells,h1,h2,h3,h4,h=>by
  cases fh with
  |nil=>simp at h1
  |cons a fh=>
   obtain⟨i',val⟩:=a
   simp only[List.map_cons,List.cons.injEq]at h1
   obtain⟨rfl,h1⟩:=h1
   simp only[List.map_cons]at h2
   obtain⟨u,us,e,h5,h6⟩:=h2
   simp only[List.cons.injEq]at e
   obtain⟨rfl,rfl⟩:=e
   simp only[jO]at h
   split at h
   ·rename_i off size us pZ hc
    split at h
    ·rename_i cg
     obtain⟨g1,g2⟩:=V.gB v _ us hc h5
     have hl:=V.ah _ _ g1
     have K4:=V.ah _ _ h3
     have hs:=sj off val.cells.toList cells (by simp at hl K4|-;omega)
     rw[Array.length_toList]at hl K4
     have ih:=oO places parts fh _ cs' (val.cells.toList.zipIdx.foldl (fun cs (p:Value×Nat)=>cs.setIfInBounds (off+p.2) p.1) cells) h1 h6 (by
      rw[hs]
      refine V.aB _ _ _ _ (V.aB _ _ _ _ (V.a8 _ _ _ h3) g1) ?_
      rw[show val.cells.toList.length=us.length by simpa using hl]
      exact V.b8 _ _ _ h3) (by
      rw[hs]
      intro x hx
      simp only[List.mem_append]at hx
      rcases hx with(hx|hx)|hx
      ·exact h4 x (List.mem_of_mem_take hx)
      ·exact g2 x hx
      ·exact h4 x (List.mem_of_mem_drop hx)) h
     obtain⟨dr,i1,i2⟩:=ih
     refine⟨dr,fun place hp=> ?_,i2⟩
     have i1:=i1 place hp
     simp only[Instr.fill,hp _ _ pZ]
     rw[if_neg (by simp;omega), <- i1]
     have e:∀ (c:Array Value),c.zipIdx.foldl (fun cs (x:Value×Nat)=>cs.setIfInBounds (off+x.2) x.1) cells=c.toList.zipIdx.foldl (fun cs (x:Value×Nat)=>cs.setIfInBounds (off+x.2) x.1) cells:=by
      intro c;rw[<- Array.foldl_toList,Array.toList_zipIdx]
     rw[<- e]
    ·cases h
   ·cases h
theorem oP{t:TypeId}{pl:List (Nat×Nat)}(h:iu P t=some pl)(parts:List (Nat×Value))(cells dr:Array Value){i:TypeInfo}{z:Value}(hi:P.info? t=some i)(hz:i.zero=some z)(hc:z.cells=cells)
 (hf:∀place:Nat->Option (Nat×Nat),(∀i p,pl[i]? =some p->place i=some p)->Instr.fill place cells parts=some dr):
 P.built t parts=some dr:=by
 subst hc
 unfold iu at h
 unfold Program.built
 cases hd:P.underlying t with
 |none=>simp[hd]at h
 |some d=>
  cases d<;>simp only[hd]at h<;>try (cases h;done)
  case struct fs=>
   simp only[Option.ite_none_right_eq_some,Option.some.injEq]at h
   obtain⟨aV,rfl⟩:=h
   have hm:fs.toList.mapM (fun f=>(P.info? f.type).map fun i=>(f.offset,i.size))=some (fs.toList.map fun f=>(f.offset,P.cellsOf f.type)):=by
    generalize fs.toList=l at aV
    clear hf
    induction l with
    |nil=>rfl
    |cons f l ih=>
     simp only[List.all_cons,Bool.and_eq_true]at aV
     obtain⟨j,hj⟩:=Option.isSome_iff_exists.1 aV.1
     simp[List.mapM_cons,ih aV.2,hj,aK hj]
   simp only[hi,hz,hm]
   exact hf _ aU
  case array n e=>
   simp only[Option.ite_none_right_eq_some,Option.some.injEq]at h
   obtain⟨aV,rfl⟩:=h
   obtain⟨j,hj⟩:=Option.isSome_iff_exists.1 aV
   simp only[hi,hz,hj]
   refine hf _ fun k p hp=> ?_
   rw[List.getElem?_map]at hp
   simp only[Option.map_eq_some_iff]at hp
   obtain⟨a,h1,rfl⟩:=hp
   rw[List.getElem?_range]at h1
   ·injection h1 with h1;subst h1;rw[aK hj]
   ·rcases Nat.lt_or_ge k n with hn|hn
    ·exact hn
    ·rw[List.getElem?_eq_none (by simpa using hn)]at h1;cases h1
theorem sm(hH:ag M φ H w){t:TypeId}{parts:Array (Nat×Operand)}{s:S}{a:Act}(b5:∀i,V.den (ae M φ H) φ H w (s.env i) (a.tmps.getD i undef))
 (h:∃z pl cs,eQ P t=some z/\iu P t=some pl/\jO pl z (parts.toList.map fun p=>(p.1,s.ev p.2))=some cs/\K (ir cs) [] []):
 a6 M φ H w fr ((do let y <- Instr.build t (parts.map fun(i,x)=>(i,a.eval x));pure (Next.value y):Sem Next).run P w) K:=by
 obtain⟨z,pl,cs,hz,pZ,jk,hK⟩:=h
 obtain⟨i,zv,h1,h2,h3,h4,rfl⟩:=ec hz
 have hd:V.ai (ae M φ H) φ H w ((parts.toList.map fun p=>(p.1,s.ev p.2)).map (·.2)) ((parts.map fun(i,x)=>(i,a.eval x)).toList.map (·.2)):=by
  have:=ey s a b5 (parts.toList.map (·.2))
  simpa[Function.comp_def]using this
 have he:(parts.map fun(i,x)=>(i,a.eval x)).toList.map (·.1)=(parts.toList.map fun p=>(p.1,s.ev p.2)).map (·.1):=by simp[Function.comp_def]
 obtain⟨dr,g1,g2,g3⟩:=oO (M:=M) (φ:=φ) (H:=H) (w:=w) pl _ _ _ cs zv.cells he hd (bM _ h4) h4 jk
 have hb:P.built t (parts.map fun(i,x)=>(i,a.eval x)).toList=some dr:=oP pZ _ zv.cells dr h1 h2 rfl g1
 exact a6.plain hH (.agg dr) hK (run_build w t _ dr hb) (eS _ _ g2 g3)
end
end
end Go.Proofs.YtlhemmpklhhgoaaGreat
