/-
  A PART OF THE PROOF. Conditions: none.
-/
import Derived.ChangeKeysEq
import Derived.Laws.CopyRow
import Derived.Test.YtbmnikpknlkbkaaGreatEk2
set_option linter.unusedSimpArgs false
set_option linter.unusedVariables false
namespace Go.Proofs.YtbmnikpknlkbkaaGreat
section
variable {P:Program}{M:Nat->Prop}{φ:Place}{H:Hp}{w w':World}{fr:Nat}{K:V->List (Nat×aa)->List Nat->Prop}
theorem jX{t:TypeId}{b off:Nat}{ty:TypeId}{cur:Array Value}(hb:w.heap[b]? =some (.cells cur ty (0,0)))(v:Value)(hs:v.cells.size=P.cellsOf t)(cU:0<v.cells.size\/(P.info? t).isSome=true)
 (hle:off+v.cells.size<=cur.size) (hf:Flat v.cells.toList):
 (Instr.storeAt t (.pointer (some ⟨b,off,none⟩)) v).run P w= .ok () (w.setRow b (cur.toList.take off++v.cells.toList++cur.toList.drop (off+v.cells.size)).toArray):=by
 obtain⟨i,hi⟩:∃i,P.info? t=some i:=by
  rcases cU with cU|cU
  ·exact ek (P:=P) (e:=t) (by omega)
  ·exact Option.isSome_iff_exists.1 cU
 have:=run_storeCells_at (P:=P) b off ty v.cells.toList 0 cur w hb (by simpa using hle) (fun u hu=>hf u hu)
 simp only[Nat.add_zero,Array.length_toList]at this
 simp[Instr.storeAt,Instr.sureAddr,storeVar,bQ hi,hs,this]
theorem oO{sz:Nat}:∀ (evs:List Value) (i off:Nat) (ev r8:Value) (us:List Value),(∀x∈evs,x.cells.size=sz)->evs[i]? =some ev->off+us.length<=sz->
 r8.cells.toList=ev.cells.toList.take off++us++ev.cells.toList.drop (off+us.length)->
 (evs.set i r8).flatMap (·.cells.toList)=(evs.flatMap (·.cells.toList)).take (i*sz+off)++us++(evs.flatMap (·.cells.toList)).drop (i*sz+off+us.length)
 |[],_,_,_,_,_,_,h,_,_=>by simp at h
 |x::evs,0,off,ev,r8,us,hs,h,hle,he=>by
  simp at h;subst h
  have hx:x.cells.toList.length=sz:=by simpa using hs x (by simp)
  simp only[List.set_cons_zero,List.flatMap_cons,Nat.zero_mul,Nat.zero_add,he]
  rw[List.take_append_of_le_length (by omega),List.drop_append_of_le_length (by omega)]
  simp[List.append_assoc]
 |x::evs,i+1,off,ev,r8,us,hs,h,hle,he=>by
  have hx:x.cells.toList.length=sz:=by simpa using hs x (by simp)
  have ih:=oO evs i off ev r8 us (fun y hy=>hs y (by simp[hy])) (by simpa using h) hle he
  simp only[List.set_cons_succ,List.flatMap_cons,ih]
  rw[show(i+1)*sz+off=x.cells.toList.length+(i*sz+off) by rw[Nat.add_mul,hx];omega,List.take_length_add_append,
   show x.cells.toList.length+(i*sz+off)+us.length=x.cells.toList.length+(i*sz+off+us.length) by omega,List.drop_length_add_append]
  simp[List.append_assoc]
theorem oP{α:Type}(l v:List α)(k m n:Nat)(hn:n=v.length)(h:k+n<=m)(hm:m<=l.length):(l.take k++v++l.drop (k+n)).take m=(l.take m).take k++v++(l.take m).drop (k+n):=by
 subst hn
 apply List.ext_getElem?
 intro i
 simp only[List.getElem?_append,List.getElem?_take,List.getElem?_drop,List.length_append,List.length_take]
 repeat' split
 all_goals first
  |rfl
  |omega
  |(congr 1;omega)
  |(symm;apply List.getElem?_eq_none;omega)
  |(apply List.getElem?_eq_none;omega)
  |skip
theorem tq{B:Nat->Prop}{e e':D}{off:Nat}{ds:List D}(h:e.put off ds=some e'){ev:Value}(he:D.den B w e ev){us:List Value}(hu:D.aj B w ds us)(hf:Flat us):
 ∃r8,D.den B w e' r8/\r8.cells.toList=ev.cells.toList.take off++us++ev.cells.toList.drop (off+us.length)/\off+us.length<=ev.cells.size:=by
 have hl:=D.ag _ _ hu
 rcases D.gK _ _ he with⟨cs,a,rfl,rfl⟩|⟨h1,h2,h3⟩
 ·obtain⟨a',ha,h4,h5⟩:=he
  injection ha with ha;subst ha
  have JI:=D.ag _ _ h4
  simp only[Array.length_toList]at JI
  simp only[D.put]at h
  split at h
  ·rename_i hle
   injection h with h;subst h
   refine⟨.agg (a.toList.take off++us++a.toList.drop (off+us.length)).toArray,⟨_,rfl, ?_, ?_⟩,by simp[Value.cells],by simp[Value.cells];omega⟩
   ·simp only
    rw[hl]
    exact D.aA _ _ _ _ (D.aA _ _ _ _ (D.bN _ _ _ h4) hu) (D.cc _ _ _ h4)
   ·intro x hx
    simp only[List.mem_append]at hx
    rcases hx with(hx|hx)|hx
    ·exact h5 x (List.mem_of_mem_take hx)
    ·exact hf x hx
    ·exact h5 x (List.mem_of_mem_drop hx)
  ·cases h
 ·have fy:off=0/\∃u,ds=[u]/\e'=u:=by
   cases e<;>simp only[D.put]at h<;>first
    |(split at h
      ·rename_i u;injection h with h;exact⟨rfl,u,rfl,h.symm⟩
      ·cases h)
    |(simp[D.cells]at h2;done)
    |skip
   obtain⟨a,rfl,_⟩:=he
   simp[Value.oneCell']at h1
  obtain⟨rfl,u,rfl,rfl⟩:=fy
  obtain⟨x,xs,rfl,h4,h5⟩:=hu
  simp only[D.aj]at h5;subst h5
  have hx:x.cells=#[x]:=by have:=hf x (by simp);cases x<;>simp_all[Value.oneCell',Value.cells]
  exact⟨x,h4,by simp[hx,h3],by simp[h3]⟩
theorem r9(hH:af M φ H w){t:TypeId}{x v:V}{xv vv:Value}(hx:V.den (ad M φ H) φ H w x xv)(hv:V.den (ad M φ H) φ H w v vv)
 (h:lb P H.o t x v fun Δ rd=>K (.a8 []) Δ rd):aY M φ H w fr ((do Instr.storeAt t xv vv;pure Next.skip:Sem Next).run P w) K:=by
 unfold lb at h
 split at h
 ·rename_i id off
  split at h
  ·rename_i cs ho
   obtain⟨cs',h1,hK⟩:=h
   obtain⟨_,b5,hp⟩:=hx
   obtain⟨b,bG,rfl⟩:=hp (by rw[ho];rfl)
   have aG:=hH.ok id
   simp only[au,ho]at aG
   obtain⟨b',cg,ty,g1,g2,g3,g4⟩:=aG
   rw[bG]at g1;simp at g1;subst g1
   unfold nv at h1
   split at h1
   ·rename_i us hc
    split at h1
    ·rename_i hle
     injection h1 with h1;subst h1
     obtain⟨k1,k2⟩:=V.gK _ _ _ hc hv
     have l1:=V.ag _ _ k1
     have l2:=V.ag _ _ g3
     simp only[Array.length_toList]at l1 l2
     have hr:=jX (P:=P) (t:=t) (off:=off) g2 vv (by omega) (hle.2.1.imp (fun h=>by omega) (fun h=>h)) (by omega) k2
     obtain⟨t1,t2⟩:=oF (cs':=cs.take off++us++cs.drop (off+us.length)) hH b5 ho bG g2 (cg.toList.take off++vv.cells.toList++cg.toList.drop (off+vv.cells.size)).toArray (by
      simp only
      rw[l1]
      exact V.aA _ _ _ _ (V.aA _ _ _ _ (V.bN _ _ _ g3) k1) (V.cc _ _ _ g3)) (by
      intro u hu
      simp only[List.mem_append]at hu
      rcases hu with(hu|hu)|hu
      ·exact g4 u (List.mem_of_mem_take hu)
      ·exact k2 u hu
      ·exact g4 u (List.mem_of_mem_drop hu))
     exact⟨_,_,_,_,_,_,_,hK,by simp only[Sem.run_bind,hr,Result.andThen_ok];rfl, .inr ⟨rfl,rfl⟩,t1,t2,⟨#[],rfl,rfl⟩,by simp[b5]⟩
    ·cases h1
   ·cases h1
  ·exact h.elim
 ·rename_i id ep i gR off
  split at h
  ·rename_i dB ty sz es ho
   obtain⟨rfl,rfl,e,he,y,hy,Lc,hyp,iT,e',fy,hK⟩:=h
   obtain⟨_,b5,hp⟩:=hx
   obtain⟨b,n,c,bG,rfl⟩:=(hp ep (by rw[ho];rfl)).2 rfl
   obtain⟨f1,f2,f3,f4,f5⟩:=bK hH v.ids (bR v _ hv)
   have fR:id∉v.ids:=fun hm=>by have:=List.all_eq_true.1 iT id hm;simp at this
   have iU:=(f4 id fR).trans ho
   have Ej:=dp f1 v y vv f3 hy (V.aq f2 _ _ hv)
   obtain⟨k1,k2⟩:=D.cE _ _ Ej
   have l1:=D.ag _ _ k1
   simp only[Array.length_toList]at l1
   have aG:=f1.ok id
   simp only[au,iU]at aG
   obtain⟨h0,xs,⟨hl,aL⟩,evs,rfl,h2,h3⟩:=aG
   rcases aL with⟨h4,h5⟩|⟨g,cap,cur,h4,h5,h6,h7,h8,h9,wY⟩
   ·rw[bG]at h4;simp at h4
   ·rw[bG]at h4;simp at h4
    obtain⟨rfl,rfl,rfl⟩:=h4
    obtain⟨ev,bI,JJ⟩:=D.b7 _ _ _ _ h3 he
    obtain⟨r8,p1,p2,p3⟩:=tq fy JJ k1 k2
    simp only[Array.length_toList]at p2 p3
    have JK:=h2 ev (List.mem_of_getElem? bI)
    have Ek:i<es.length:=(List.getElem?_eq_some_iff.1 he).1
    have w8:i*gR+gR<=es.length*gR:=by
     rw[<- Nat.succ_mul];exact Nat.mul_le_mul_right _ Ek
    have El:es.length*gR<=cur.size:=by rw[h9];exact Nat.mul_le_mul_right _ h7
    have hr:=jX (P:=P) (t:=t) (off:=i*gR+off) h6 vv (by omega) (.inl (by omega)) (by omega) k2
    have vF:=oO evs i off ev r8 vv.cells.toList h2 bI (by simpa using(by omega:off+vv.cells.size<=gR)) (by simpa using p2)
    simp only[Array.length_toList]at vF
    have bP:((H.put (bD H.o v.ids)).o id).live=true:=by rw[iU];rfl
    have ou:cI (φ id)=some b:=by rw[bG];rfl
    have A7:=(f5 id).2 b5
    have ht:=cT (w:=w) (w':=w.setRow b (cur.toList.take (i*gR+off)++vv.cells.toList++cur.toList.drop (i*gR+off+vv.cells.size)).toArray) A7 bP ou (eE w b _) (.arr ep ty gR (es.set i e')) (by rw[iU];rfl) (by rw[iU];rfl)
    have hh:=dZ f1 A7 bP ou (eE w b (cur.toList.take (i*gR+off)++vv.cells.toList++cur.toList.drop (i*gR+off+vv.cells.size)).toArray) (.arr ep ty gR (es.set i e')) (by rw[iU];rfl) (by rw[iU];rfl) (by
     unfold au
     simp only[aE,ak,if_true]
     refine⟨h0,(evs.set i r8).flatMap (·.cells.toList),⟨?_, .inr ⟨b,c,_,by rw[List.length_set];exact bG,Nat.zero_le _,setRow_heap w b cur _ ty (0,0) h6,by rw[List.length_set];exact h7,h8, ?_, ?_⟩⟩,evs.set i r8,rfl, ?_, ?_⟩
     ·rw[vF,List.length_set]
      simp only[List.length_append,List.length_take,List.length_drop,Array.length_toList,hl]
      omega
     ·simp only[List.size_toArray,List.length_append,List.length_take,List.length_drop,Array.length_toList]
      omega
     ·rw[vF,List.length_set, <- wY]
      exact oP cur.toList vv.cells.toList _ _ _ (by simp) (by omega) (by simpa using El)
     ·intro x hx
      rcases List.mem_or_eq_of_mem_set hx with hx|rfl
      ·exact h2 x hx
      ·have:=congrArg List.length p2
       simp only[Array.length_toList,List.length_append,List.length_take,List.length_drop]at this
       omega
     ·exact D.aw (ht.blocks (M:=M)) _ _ (D.oD i es evs e' r8 h3 p1))
    rw[<- bV]at hh ht
    refine⟨_,_,_,_,_,_,_,hK,by simp only[Sem.run_bind,hr,Result.andThen_ok];rfl, .inr ⟨rfl,rfl⟩,hh,f2.trans ht,⟨#[],rfl,rfl⟩,fun j hj=> ?_⟩
    simp only[List.map_append,List.mem_append,List.map_cons,List.map_nil,List.mem_singleton]at hj
    rcases hj with hj|hj
    ·left
     refine bR v _ hv j ?_
     rw[fu]at hj
     simpa[Function.comp_def]using hj
    ·exact .inl (hj ▸ b5)
  ·exact h.elim
 ·exact h.elim
end
end Go.Proofs.YtbmnikpknlkbkaaGreat
namespace Go.Proofs.YtbmnikpknlkbkaaGreat
section
variable {P:Program}{B:Nat->Prop}{w:World}
theorem cY{t:TypeId}{xs:List D}{off:Nat}{x:D}(h:eC P t xs off=some x){arr:Array Value}(hd:D.aj B w xs arr.toList)(hf:Flat arr.toList):
 ∃u,(∀w',(part t arr off).run P w'= .ok u w')/\D.den B w x u:=by
 unfold eC at h
 split at h
 ·rename_i ha
  split at h
  ·rename_i hl
   injection h with h;subst h
   obtain⟨i,hi⟩:=jF ha
   refine⟨.agg (arr.extract off (off+P.cellsOf t)),fun w'=> ?_,_,rfl, ?_, ?_⟩
   ·simp only[part,Sem.run_bind,jE ha w',Result.andThen_ok,if_true,bQ hi w',Sem.run_pure]
   ·have:=D.bN (P.cellsOf t) _ _ (D.cc off _ _ hd)
    simpa[Array.toList_extract,List.extract]using this
   ·intro u hu
    simp only[Array.toList_extract,List.extract]at hu
    exact hf u (List.mem_of_mem_drop (List.mem_of_mem_take hu))
  ·cases h
 ·rename_i ha
  obtain⟨u,hu,vz⟩:=D.b7 _ _ _ _ hd h
  refine⟨u,fun w'=> ?_,vz⟩
  have mq:arr[off]? =some u:=by simpa using hu
  simp only[part,Sem.run_bind,hY ha w',Result.andThen_ok,Bool.false_eq_true,if_false,mq,Sem.run_pure]
 ·cases h
theorem mK{a b:Option Bool}{r:Bool}(h:vq a b=some r):∃x y,a=some x/\b=some y/\r=(x&&y):=by
 unfold vq at h
 split at h
 ·injection h with h;exact⟨_,_,rfl,rfl,h.symm⟩
 ·cases h
def DD(P:Program)(m:Nat)(t:TypeId)(x y:D)(r:Bool):Prop:=
 ∀ (B:Nat->Prop) (w:World) (u v:Value),D.den B w x u->D.den B w y v->(Op.equalIn m t u v).run P w= .ok r w
theorem iV{d m:Nat}(IH:∀t x y r,mh P d t x y=some r->DD P m t x y r){xs ys:List D}{aO bs:Array Value}(ha:D.aj B w xs aO.toList)(qd:Flat aO.toList)(hb:D.aj B w ys bs.toList)(vG:Flat bs.toList):
 ∀ (fs:List Field) (r:Bool),(∀f∈fs,f.name≠ "_")->qW (fun u off=>z6 (mh P d u) (eC P u xs off) (eC P u ys off)) (fs.map fun f=>(f.type,f.offset))=some r->
   (Op.eqFields m aO bs fs).run P w= .ok r w
 |[],r,_,h=>by simp[qW]at h;subst h;simp[Op.eqFields]
 |f::fs,r,hn,h=>by
  obtain⟨x,y,h1,h2,rfl⟩:=mK h
  simp only[z6]at h1
  split at h1
  ·rename_i p q hp hq
   obtain⟨u,k1,k2⟩:=cY hp ha qd
   obtain⟨v,k3,k4⟩:=cY hq hb vG
   have h3:=IH _ _ _ _ h1 B w u v k2 k4
   have h4:=iV IH ha qd hb vG fs y (fun g hg=>hn g (by simp[hg])) h2
   have iT:=hn f (by simp)
   simp only[Op.eqFields,iT,ne_eq,not_false_eq_true,if_true,Sem.run_bind,k1,k3,h3,Result.andThen_ok]
   cases x
   ·simp
   ·simpa using h4
  ·cases h1
theorem jY{d m:Nat}{e:TypeId}(IH:∀t x y r,mh P d t x y=some r->DD P m t x y r){xs ys:List D}{aO bs:Array Value}(ha:D.aj B w xs aO.toList)(qd:Flat aO.toList)(hb:D.aj B w ys bs.toList)(vG:Flat bs.toList):
 ∀ (n i:Nat) (r:Bool),qX (fun i=>z6 (mh P d e) (eC P e xs (i*P.cellsOf e)) (eC P e ys (i*P.cellsOf e))) n i=some r->
   (Op.eqItems m e (P.cellsOf e) aO bs (List.range' i n)).run P w= .ok r w
 |0,i,r,h=>by simp[qX]at h;subst h;simp[Op.eqItems]
 |n+1,i,r,h=>by
  obtain⟨x,y,h1,h2,rfl⟩:=mK h
  simp only[z6]at h1
  split at h1
  ·rename_i p q hp hq
   obtain⟨u,k1,k2⟩:=cY hp ha qd
   obtain⟨v,k3,k4⟩:=cY hq hb vG
   have h3:=IH _ _ _ _ h1 B w u v k2 k4
   have h4:=jY IH ha qd hb vG n (i+1) y h2
   simp only[List.range'_succ,Op.eqItems,Sem.run_bind,k1,k3,h3,Result.andThen_ok]
   cases x
   ·simp
   ·simpa using h4
  ·cases h1
theorem kN:∀ (d:Nat) (t:TypeId) (x y:D) (r:Bool),mh P d t x y=some r->∀m,d<=m->DD P m t x y r
 |0,_,_,_,_,h=>by simp[mh]at h
 |d+1,t,x,y,r,h=>by
  intro m hm B w u v hu hv
  obtain⟨m,rfl⟩:∃k,m=k+1:=⟨m - 1,by omega⟩
  have IH:∀t x y r,mh P d t x y=some r->DD P m t x y r:=fun t x y r h=>kN d t x y r h m (by omega)
  unfold mh at h
  cases hs:dn P t with
  |none=>rw[hs]at h;cases h
  |some sh=>
   rw[hs]at h
   unfold dn at hs
   cases ht:P.underlying t with
   |none=>rw[ht]at hs;cases hs
   |some td=>
    rw[ht]at hs
    cases td<;>simp only[Option.some.injEq,reduceCtorEq]at hs
    case int k0=>
     subst hs
     simp only at h
     split at h
     ·split at h
      ·rename_i e;subst e;injection h with h;subst h
       simp only[D.den]at hu hv;subst hu;subst hv
       exact run_equalIn_int w m t _ _ _ _ ht
      ·cases h
     ·cases h
    case bool=>
     subst hs
     simp only at h
     split at h
     ·injection h with h;subst h
      simp only[D.den]at hu hv;subst hu;subst hv
      exact run_equalIn_bool' w m t _ _ ht
     ·cases h
    case string=>
     subst hs
     simp only at h
     split at h
     ·injection h with h;subst h
      obtain⟨s1,rfl,rfl⟩:=hu
      obtain⟨s2,rfl,rfl⟩:=hv
      rw[run_equalIn_string w m t _ _ ht]
      rw[ByteArray.toList_eq,ByteArray.toList_eq]
     ·cases h
    case struct fs=>
     split at hs
     ·rename_i hc
      injection hs with hs;subst hs
      simp only[Bool.and_eq_true,Bool.not_eq_true',List.all_eq_true,bne_iff_ne]at hc
      simp only at h
      split at h
      ·obtain⟨aO,rfl,ha,qd⟩:=hu
       obtain⟨bs,rfl,hb,vG⟩:=hv
       have Hq:P.fieldsOf t=fs:=by simp[Program.fieldsOf,ht]
       rw[run_equalIn_struct w m t aO bs (by rw[Hq];exact ht) hc.1,Hq]
       exact iV IH ha qd hb vG _ _ hc.2 h
      ·cases h
     ·cases hs
    case array n e=>
     split at hs
     ·rename_i hc
      injection hs with hs;subst hs
      simp only at h
      split at h
      ·obtain⟨aO,rfl,ha,qd⟩:=hu
       obtain⟨bs,rfl,hb,vG⟩:=hv
       obtain⟨i,hi⟩:=Option.isSome_iff_exists.1 hc
       rw[run_equalIn_array w m aO bs ht hi,List.range_eq_range']
       exact jY IH ha qd hb vG _ _ _ h
      ·cases h
     ·cases hs
theorem tt{t:TypeId}{aO bs:List D}{r:Bool}(h:mh P 100 t (.agg aO) (.agg bs)=some r)(hg:P.eqGuardType P.depth t=false):s8 P t (.agg aO) (.agg bs) r:=by
 intro B w u v hu hv
 refine⟨kN 100 t _ _ _ h _ (by decide) B w u v hu hv,fun op a b=> ?_⟩
 obtain⟨aO,rfl,_⟩:=hu
 obtain⟨bs,rfl,_⟩:=hv
 exact run_eqGuard_agg w op t a b aO bs hg
end
end Go.Proofs.YtbmnikpknlkbkaaGreat
namespace Go.Proofs.YtbmnikpknlkbkaaGreat
section
variable {P:Program}{M:Nat->Prop}{φ:Place}{H:Hp}{w:World}{fr:Nat}{K:V->List (Nat×aa)->List Nat->Prop}
theorem bA{x:Option dy}(h:ba x K):∃v Δ rd,x=some (v,Δ,rd)/\K v Δ rd:=by
 unfold ba at h;split at h
 ·exact⟨_,_,_,rfl,h⟩
 ·exact h.elim
theorem oQ{o:Nat->aa}{x:V}{id off:Nat}(h:hG o x=some (id,off)):x= .ptr id off/\(o id).aM=true:=by
 unfold hG at h
 split at h
 ·split at h
  ·simp only[Option.some.injEq,Prod.mk.injEq]at h;obtain⟨rfl,rfl⟩:=h;exact⟨rfl,by assumption⟩
  ·cases h
 ·cases h
theorem oR{o:Nat->aa}{x:V}{id off n:Nat}{cs:List V}(h:hO o x=some (id,off,n,cs)):x= .mg id off n/\o id= .row cs:=by
 unfold hO at h
 split at h
 ·split at h
  ·rename_i ho
   simp only[Option.some.injEq,Prod.mk.injEq]at h;obtain⟨rfl,rfl,rfl,rfl⟩:=h;exact⟨rfl,ho⟩
  ·cases h
 ·cases h
theorem iW{x:Option V}{val:Option Value}{d n:Nat}(hx:match x,val with|none,none=>True|some v,some u=>V.den (ad M φ H) φ H w v u|_,_=>False)(h:rV x d=some n):
 (x=none/\val=none/\n=d)\/∃k,val=some (.int k n)/\x≠none:=by
 unfold rV at h
 split at h
 ·injection h with h
  left
  cases val with
  |none=>exact⟨rfl,rfl,h.symm⟩
  |some u=>exact hx.elim
 ·rename_i k i
  split at h
  ·injection h with h;subst h
   right
   cases val with
   |none=>exact hx.elim
   |some u=>
    simp only[V.den,D.den]at hx
    refine⟨k, ?_,by simp⟩
    rw[hx,Int.toNat_of_nonneg (by assumption)]
  ·cases h
 ·cases h
theorem rb{B:Nat->Prop}{es:List D}{base:Option Addr}{len cap l h:Nat}(hd:D.den B w (.sl es) (.slice base len cap))(hl:l<=h)(hh:h<=es.length){m:Nat}(hm:m=cap\/h<=m/\m<=es.length){z7:Nat}(cl:l=0\/∀y∈es,y.cells.length=z7):
 D.den B w (.sl ((es.take h).drop l)) (.slice (if m=l then base else base.map (·.add (l*z7))) (h - l) (m - l)):=by
 obtain⟨b',JL,JM,he,h1,h2,h3,sz,h4⟩:=hd
 injection he with e1 e2 e3
 subst e1;subst e2;subst e3
 refine⟨_,_,_,rfl,by simp;omega,by omega,fun hb=> ?_,sz,fun a ha=> ?_⟩
 ·split at hb
  ·omega
  ·cases base with
   |none=>have:=h3 rfl;omega
   |some a=>simp at hb
 ·have key:∀ (es:List D) (i:Nat) (a:Addr),D.elems B w sz a i es->∀l h,D.elems B w sz a (i+l) ((es.take h).drop l):=by
   intro es
   induction es with
   |nil=>intro i a _ l h;simp[D.elems]
   |cons e es ih=>
    intro i a he l h
    cases h with
    |zero=>simp[D.elems]
    |succ h=>
     cases l with
     |zero=>
      refine⟨he.1, ?_⟩
      simpa using ih (i+1) a he.2 0 h
     |succ l=>
      have:=ih (i+1) a he.2 l h
      rw[show i+1+l=i+(l+1) by omega]at this
      simpa using this
  split at ha
  ·
    rename_i vH
    have Hr:h - l=0:=by omega
    have Em:(es.take h).drop l=[]:=List.eq_nil_of_length_eq_zero (by simp;omega)
    rw[Em]
    cases base with
    |none=>cases ha
    |some b=>injection ha with ha;subst ha;exact⟨fun hc=>by omega,trivial⟩
  ·cases base with
   |none=>simp at ha
   |some b=>
    simp only[Option.map_some,Option.some.injEq]at ha
    subst ha
    obtain⟨h5,h6⟩:=h4 b rfl
    replace h5:=h5 (by omega)
    refine⟨fun _=>oG b h5 _, ?_⟩
    have h7:=key es 0 b h6 l h
    rw[Nat.zero_add]at h7
    have shift:∀ (ds:List D) (i:Nat),(∀y∈ds,y.cells.length=z7\/l=0)->D.elems B w sz b (l+i) ds->D.elems B w sz (b.add (l*z7)) i ds:=by
     intro ds
     induction ds with
     |nil=>intro i _ _;trivial
     |cons y ds ih=>
      intro i hy hd
      obtain⟨⟨ev,g1,g2,g3⟩,g4⟩:=hd
      have En:l*z7=l*sz:=by
       rcases hy y (by simp)with hy|hy
       ·have:=D.ag _ _ (D.cE _ _ g3).1
        rw[hy]at this
        have e:ev.cells.size=z7:=by simpa using this
        rw[<- e,g1]
       ·rw[hy];simp
      refine⟨⟨ev,g1, ?_,g3⟩,ih (i+1) (fun z hz=>hy z (by simp[hz])) (by rw[show l+(i+1)=l+i+1 by omega];exact g4)⟩
      rw[add_add b h5,En, <- Nat.add_mul]
      exact g2
    refine shift _ 0 (fun y hy=> ?_) (by simpa using h7)
    rcases cl with cl|cl
    ·exact .inr cl
    ·exact .inl (cl y (List.mem_of_mem_take (List.mem_of_mem_drop hy)))
theorem ib{len cap:Nat}{lo hi mx:Option Value}{l h m:Nat}(vk:lo=none/\l=0\/∃k,lo=some (.int k l))(qe:hi=none/\h=len/\mx=none\/∃k,hi=some (.int k h))(tu:mx=none/\m=cap\/∃k,mx=some (.int k m))(h1:l<=h)(h2:h<=m)(h3:m<=cap):
 (Instr.sliceBounds true len cap lo hi mx).run P w= .ok (l,h,m) w:=by
 rcases vk with⟨rfl,rfl⟩|⟨kl,rfl⟩<;>rcases qe with⟨rfl,rfl,rfl⟩|⟨kh,rfl⟩<;>rcases tu with⟨e,rfl⟩|⟨km,e⟩<;>subst_vars<;>
  first
  |(simp[Instr.sliceBounds,run_sliceBound,h1,h2,h3];done)
  |(cases e;done)
  |(cases e;simp[Instr.sliceBounds,run_sliceBound,h1,h2,h3])
theorem qf(hH:af M φ H w){t:TypeId}{x:V}{xv:Value}{lo hi mx:Option V}{lov hiv mxv:Option Value}(hx:V.den (ad M φ H) φ H w x xv)
 (vk:match lo,lov with|none,none=>True|some v,some u=>V.den (ad M φ H) φ H w v u|_,_=>False) (qe:match hi,hiv with|none,none=>True|some v,some u=>V.den (ad M φ H) φ H w v u|_,_=>False)
 (tu:match mx,mxv with|none,none=>True|some v,some u=>V.den (ad M φ H) φ H w v u|_,_=>False) (h:ba (iG P H.o t x lo hi mx) K):
 aY M φ H w fr ((do let z <- Instr.sliceAt t xv lov hiv mxv;pure (Next.value z):Sem Next).run P w) K:=by
 have hg:=bA h
 clear h
 obtain⟨v,Δ,rd,h,hK⟩:=hg
 unfold iG at h
 split at h
 ·rename_i e ht
  have iX:=az ht
  split at h
  ·rename_i es l sX hl
   split at h
   ·rename_i hh Hs
    split at h
    ·rename_i hc
     obtain⟨c1,c2,c3,c4⟩:=hc
     obtain⟨i,yi⟩:=Option.isSome_iff_exists.1 c3
     have hD:cJ H.o x=some (.sl es):=by
      unfold cy at sX
      split at sX
      ·rename_i es' hD;injection sX with sX;subst sX;exact hD
      ·cases sX
     obtain⟨f1,f2,f3,f4,f5⟩:=bK hH x.ids (bR x _ hx)
     have hd:=dp f1 x (.sl es) xv f3 hD (V.aq f2 _ _ hx)
     obtain⟨base,len,cap,Ei,hlen,Eo,_⟩:=id hd
     subst Ei
     have cl:l=0\/∀y∈es,y.cells.length=P.cellsOf e:=by
      rcases c4 with c4|c4
      ·exact .inl c4
      ·exact .inr fun y hy=>by simpa using List.all_eq_true.1 c4 y hy
     have elem:P.elem t=e:=by simp[Program.elem,iX]
     have cG:∀ {m:Nat},(Instr.sliceBounds true len cap lov hiv mxv).run P w= .ok (l,hh,m) w->
      (Instr.sliceAt t (.slice base len cap) lov hiv mxv).run P w= .ok (.slice (if m=l then base else base.map (·.add (l*P.cellsOf e))) (hh - l) (m - l)) w:=by
      intro m hm
      rw[run_sliceAt_slice w t _ _ _ _ (by rw[elem];exact iX),run_slice_any w t base len cap (by rw[elem];exact iX),hm]
      simp only[Result.andThen_ok,elem,bQ yi,sliced]
     have fin:∀ {val:Value} {v:V},(Instr.sliceAt t (.slice base len cap) lov hiv mxv).run P w= .ok val w->V.den (ad M φ (H.put (bD H.o x.ids))) φ (H.put (bD H.o x.ids)) w v val->K v (bD H.o x.ids) x.ids->
      aY M φ H w fr ((do let z <- Instr.sliceAt t (.slice base len cap) lov hiv mxv;pure (Next.value z):Sem Next).run P w) K:=by
      intro val v r1 r2 r3
      exact⟨_,val,w,φ,v,_,_,r3,by simp only[Sem.run_bind,r1,Result.andThen_ok];rfl, .inl rfl,f1,f2,r2,fun id ah=> .inl (by
       have e:(bD H.o x.ids).map (·.1)=x.ids:=by rw[fu];simp[Function.comp_def]
       rw[e]at ah
       exact bR x _ hx id ah)⟩
     have bl:lov=none/\l=0\/∃k,lov=some (.int k l):=by
      rcases iW vk hl with⟨_,a,b⟩|⟨k,a,_⟩
      ·exact .inl ⟨a,b⟩
      ·exact .inr ⟨k,a⟩
     split at h
     ·injection h with h;injection h with e1 e2;injection e2 with e2 e3;subst e1;subst e2;subst e3
      have bm:mxv=none:=by
       cases mxv with
       |none=>rfl
       |some u=>exact tu.elim
      subst bm
      have bh:hiv=none/\hh=len/\(none:Option Value)=none\/∃k,hiv=some (.int k hh):=by
       rcases iW qe Hs with⟨_,a,b⟩|⟨k,a,_⟩
       ·exact .inl ⟨a,by omega,rfl⟩
       ·exact .inr ⟨k,a⟩
      refine fin (cG (ib (m:=cap) bl bh (.inl ⟨rfl,rfl⟩) c1 (by omega) (Nat.le_refl _))) ?_ hK
      exact rb hd c1 c2 (.inl rfl) cl
     ·rename_i mv
      split at h
      ·rename_i hv m hm
       split at h
       ·rename_i pZ
        injection h with h;injection h with e1 e2;injection e2 with e2 e3;subst e1;subst e2;subst e3
        have bm:∃k,mxv=some (.int k m):=by
         rcases iW tu hm with⟨a,_⟩|⟨k,a,_⟩
         ·cases a
         ·exact⟨k,a⟩
        have bh:∃k,hiv=some (.int k hh):=by
         rcases iW qe Hs with⟨a,_⟩|⟨k,a,_⟩
         ·cases a
         ·exact⟨k,a⟩
        have hp:=rb (m:=m) hd c1 c2 (.inr pZ) cl
        refine fin (cG (ib (m:=m) bl (.inr bh) (.inr bm) c1 pZ.1 (by omega))) ?_ hK
        split
        ·rename_i e;subst e
         exact⟨hp,_,_,rfl⟩
        ·exact hp
       ·cases h
      ·cases h
    ·cases h
   ·cases h
  ·cases h
 ·cases ha:p7 P t with
  |none=>rw[ha]at h;cases h
  |some p=>
  obtain⟨n,e⟩:=p
  rw[ha]at h
  split at h
  ·rename_i n' e' heq
   have e0:n=n'/\e=e':=by simpa using heq
   obtain⟨rfl,rfl⟩:=e0
   split at h
   ·rename_i id off kO
    obtain⟨rfl,aL⟩:=oQ kO
    split at h
    ·rename_i hc
     injection h with h;injection h with e1 e2;injection e2 with e2 e3;subst e1;subst e2;subst e3
     obtain⟨i,yi⟩:=Option.isSome_iff_exists.1 hc
     have e1:lov=none:=by cases lov with|none=>rfl|some u=>exact vk.elim
     have e2:hiv=none:=by cases hiv with|none=>rfl|some u=>exact qe.elim
     have e3:mxv=none:=by cases mxv with|none=>rfl|some u=>exact tu.elim
     subst e1;subst e2;subst e3
     obtain⟨g1,g2,g3⟩:=hx
     obtain⟨b,k1,k2⟩:=g3 aL
     subst k2
     have Ep:=mG ha
     have elem:P.elem t=e:=by simp[Program.elem,Ep]
     have len:P.arrayLen t=n:=by simp[Program.arrayLen,Ep]
     refine aY.same hH (.slice (some ⟨b,off,none⟩) n n) hK ?_ ⟨rfl,g2,fun _=>⟨b,k1,rfl⟩⟩
     have:=run_sliceAt_array_all (P:=P) w t ⟨b,off,none⟩ (by rw[elem,len];exact Ep)
     simp only[Sem.run_bind,this,elem,bQ yi,Result.andThen_ok,slicedAt,len]
     by_cases hn:n=0
     ·subst hn;rfl
     ·simp[hn,Addr.add]
    ·cases h
   ·cases h
  ·cases h
theorem sa(g:Nat):(⟨g,0,none⟩:Addr).add 0=⟨g,0,none⟩:=rfl
theorem vI(hH:af M φ H w){t:TypeId}{x:V}{xv:Value}{lo hi mx:Option V}{lov hiv mxv:Option Value}(hx:V.den (ad M φ H) φ H w x xv)
 (vk:match lo,lov with|none,none=>True|some v,some u=>V.den (ad M φ H) φ H w v u|_,_=>False) (qe:match hi,hiv with|none,none=>True|some v,some u=>V.den (ad M φ H) φ H w v u|_,_=>False)
 (tu:match mx,mxv with|none,none=>True|some v,some u=>V.den (ad M φ H) φ H w v u|_,_=>False) {v:V} {Δ:List (Nat×aa)} {rd:List Nat} (h:p8 P H.o t x lo hi mx=some (v,Δ,rd)) (hK:K v Δ rd):
 aY M φ H w fr ((do let z <- Instr.sliceAt t xv lov hiv mxv;pure (Next.value z):Sem Next).run P w) K:=by
 have bounds:∀ {kk:IntKind} {e:TypeId} {base:Option Addr} {len cap:Nat},bM P t=some e->(P.info? e).isSome=true->base=none\/(∃g,base=some ⟨g,0,none⟩)->
  (Instr.sliceAt t (.slice base len cap) none (some (.int kk 0)) none).run P w= .ok (.slice base 0 cap) w:=by
  intro kk e base len cap ht hi hb
  obtain⟨i,yi⟩:=Option.isSome_iff_exists.1 hi
  have iX:=az ht
  have elem:P.elem t=e:=by simp[Program.elem,iX]
  have hm:=ib (P:=P) (w:=w) (len:=len) (cap:=cap) (lo:=none) (hi:=some (.int kk 0)) (mx:=none) (l:=0) (h:=0) (m:=cap) (.inl ⟨rfl,rfl⟩) (.inr ⟨kk,rfl⟩) (.inl ⟨rfl,rfl⟩) (Nat.le_refl _) (Nat.zero_le _) (Nat.le_refl _)
  rw[run_sliceAt_slice w t _ _ _ _ (by rw[elem];exact iX),run_slice_any w t base len cap (by rw[elem];exact iX),hm]
  simp only[Result.andThen_ok,elem,bQ yi,sliced]
  rcases hb with rfl|⟨g,rfl⟩
  ·simp
  ·simp[sa]
 unfold p8 at h
 split at h
 ·split at h
  ·rename_i kk k
   split at h
   ·rename_i e ht
    split at h
    ·rename_i hc
     simp only[Option.some.injEq,Prod.mk.injEq]at h;obtain⟨rfl,rfl,rfl⟩:=h
     obtain⟨rfl,hc⟩:=hc
     simp only[V.den]at hx;subst hx
     have e1:lov=none:=by cases lov with|none=>rfl|some u=>exact vk.elim
     have e2:mxv=none:=by cases mxv with|none=>rfl|some u=>exact tu.elim
     have e3:hiv=some (.int kk 0):=by
      cases hiv with
      |none=>exact qe.elim
      |some u=>simp only[V.den,D.den]at qe;rw[qe]
     subst e1;subst e2;subst e3
     exact aY.same hH (.slice none 0 0) hK (by simp only[Sem.run_bind,bounds (base:=none) (len:=0) (cap:=0) ht hc (.inl rfl),Result.andThen_ok];rfl) rfl
    ·cases h
   ·cases h
  ·cases h
 ·rename_i id ep
  split at h
  ·rename_i kk k
   split at h
   ·rename_i e dB ty sz es ht ho
    split at h
    ·rename_i hc
     simp only[Option.some.injEq,Prod.mk.injEq]at h;obtain⟨rfl,rfl,rfl⟩:=h
     obtain⟨rfl,rfl,hc⟩:=hc
     have e1:lov=none:=by cases lov with|none=>rfl|some u=>exact vk.elim
     have e2:mxv=none:=by cases mxv with|none=>rfl|some u=>exact tu.elim
     have e3:hiv=some (.int kk 0):=by
      cases hiv with
      |none=>exact qe.elim
      |some u=>simp only[V.den,D.den]at qe;rw[qe]
     subst e1;subst e2;subst e3
     obtain⟨_,b5,ny⟩:=hx
     have hv:=(ny ep (by rw[ho];rfl)).2 rfl
     subst hv
     have aG:=hH.ok id
     simp only[au,ho]at aG
     obtain⟨cl,xs,cq,gM⟩:=aG
     have A8:dm (ad M φ H) w sz [] []:=⟨[],rfl,by simp,rfl⟩
     rcases cq.2 with⟨h3,h4⟩|⟨g,cap,cur,h3,h4,h5,h6,h7,h8,h9⟩
     ·have oN:w.ownsRow 0 ty sz (.slice none 0 0) ([]:List D).length []:=⟨by simp, .inl ⟨rfl,rfl⟩⟩
      obtain⟨s1,s2,s3⟩:=lq (m:=fun _=>False) hH b5 ho (cp.refl _ _) (fun _ h=>h.elim) (fun b hb=>by simp[cI]at hb) oN A8
      rw[h3]
      exact⟨_,_,_,_,_,_,_,hK,by simp only[Sem.run_bind,bounds (base:=none) (len:=0) (cap:=0) ht hc (.inl rfl),Result.andThen_ok];rfl, .inl rfl,s1,s2,s3,by simp[b5]⟩
     ·have oN:w.ownsRow 0 ty sz (.slice (some ⟨g,0,none⟩) 0 cap) ([]:List D).length []:=⟨by simp, .inr ⟨g,cap,cur,rfl,h4,h5,Nat.zero_le _,h7,h8,by simp⟩⟩
      obtain⟨s1,s2,s3⟩:=lq (m:=fun _=>False) hH b5 ho (cp.refl _ _) (fun _ h=>h.elim) (fun b hb=> .inl (by rw[h3];exact hb)) oN A8
      rw[h3]
      exact⟨_,_,_,_,_,_,_,hK,by simp only[Sem.run_bind,bounds (base:=some ⟨g,0,none⟩) ht hc (.inr ⟨g,rfl⟩),Result.andThen_ok];rfl, .inl rfl,s1,s2,s3,by simp[b5]⟩
    ·cases h
   ·cases h
  ·cases h
 ·cases h
theorem sb(hH:af M φ H w){t:TypeId}{x:V}{xv:Value}{lo hi mx:Option V}{lov hiv mxv:Option Value}(hx:V.den (ad M φ H) φ H w x xv)
 (vk:match lo,lov with|none,none=>True|some v,some u=>V.den (ad M φ H) φ H w v u|_,_=>False) (qe:match hi,hiv with|none,none=>True|some v,some u=>V.den (ad M φ H) φ H w v u|_,_=>False)
 (tu:match mx,mxv with|none,none=>True|some v,some u=>V.den (ad M φ H) φ H w v u|_,_=>False) (h:ba (jA P H.o t x lo hi mx) K):
 aY M φ H w fr ((do let z <- Instr.sliceAt t xv lov hiv mxv;pure (Next.value z):Sem Next).run P w) K:=by
 unfold jA at h
 split at h
 ·rename_i r hr
  obtain⟨v,Δ,rd⟩:=r
  exact vI hH hx vk qe tu hr h
 ·exact qf hH hx vk qe tu h
theorem tv(hH:af M φ H w){ts:Array TypeId}{ty0:TypeId}{x y:V}{xv yv:Value}(hx:V.den (ad M φ H) φ H w x xv)(hy:V.den (ad M φ H) φ H w y yv)(h:ba (mC P H.o ts x y) K):
 aY M φ H w fr ((do let z <- Builtin.copy_ ts ty0 #[xv,yv];pure (Next.value z):Sem Next).run P w) K:=by
 have hg:=bA h
 clear h
 obtain⟨v,Δ,rd,h,hK⟩:=hg
 unfold mC at h
 split at h
 ·rename_i t t' mo
  have mo:ts=#[t,t']:=by apply Array.ext';simpa using mo
  subst mo
  split at h
  ·rename_i e ht
   split at h
   ·rename_i id off n cs es A9 sX
    obtain⟨rfl,ho⟩:=oR A9
    ·split at h
     ·rename_i hc
      obtain⟨c1,c2,c3,c4⟩:=hc
      injection h with h;injection h with e1 e2;injection e2 with e2 e3;subst e1;subst e2;subst e3
      have c3:∀z∈es,z.cells.length=1:=fun z hz=>by simpa using List.all_eq_true.1 c3 z hz
      obtain⟨i,hi⟩:=ek (P:=P) (e:=e) (by omega)
      have cl:(P.info? e).map (·.size)=some 1:=by rw[hi];simp[<- aJ hi,c1]
      obtain⟨_,b5,hp⟩:=hx
      obtain⟨b,bG,rfl⟩:=hp (by rw[ho];rfl)
      have fR:id∉y.ids:=fun hm=>by have:=List.all_eq_true.1 c4 id hm;simp at this
      obtain⟨f1,f2,f3,f4,f5⟩:=bK hH y.ids (bR y _ hy)
      have iU:=(f4 id fR).trans ho
      have aG:=f1.ok id
      simp only[au,iU]at aG
      obtain⟨b',cg,ty,g1,g2,g3,g4⟩:=aG
      rw[bG]at g1;simp at g1;subst g1
      have l2:=V.ag _ _ g3
      simp only[Array.length_toList]at l2
      have vJ:(bD H.o y.ids).map (·.1)=y.ids:=by rw[fu];simp[Function.comp_def]
      rcases hZ hH hy sX c3 with⟨rfl,rfl⟩|⟨a,c,evs,rfl,k1,k2,k3,k4⟩
      ·have hr:=run_copy_nil (P:=P) w t t' ty0 e ⟨b,off,none⟩ n n (az ht) (by rw[cl];rfl)
       have same:H.put (bD H.o y.ids++[(id,aa.row (cs.take off++(([]:List D).take n |>.flatMap D.cells).map .d++cs.drop (off+(([]:List D).take n).length)))])=H.put (bD H.o y.ids):=by
        rw[bV]
        refine ll _ ((f5 id).2 b5) ?_
        rw[iU]
        simp
       refine⟨_,goInt 0,w,φ,_,_,_,hK,by simp only[Sem.run_bind,hr,Result.andThen_ok];rfl, .inl rfl,by rw[same];exact f1,by rw[same];exact f2,by simp[V.den,D.den,goInt],fun j hj=> .inl ?_⟩
       rw[List.map_append,vJ]at hj
       simp only[List.map_cons,List.map_nil,List.mem_append,List.mem_singleton]at hj
       rcases hj with hj|rfl
       ·exact bR y _ hy j hj
       ·exact b5
      ·have hlen:evs.length=es.length:=D.ag _ _ k1
       have JN:=D.aw (f2.blocks (M:=M)) _ _ k1
       have p0:D.aj (ad M φ (H.put (bD H.o y.ids))) w (es.take n) (evs.take n):=D.bN n _ _ JN
       have vK:∀ev∈evs.take n,ev.cells.size=1:=fun ev bI=>by
        have:=k2 ev (List.mem_of_mem_take bI);omega
       have kA:((evs.take n).flatMap (·.cells.toList)).length=Nat.min es.length n:=by
        rw[bf (sz:=1) _ vK];simp[hlen,Nat.min_comm]
       have pre:∀ (j:Nat) (u:Value),((evs.take n).flatMap (·.cells.toList))[j]? =some u->(evs.flatMap (·.cells.toList))[j]? =some u:=by
        intro j u hj
        have:evs.flatMap (·.cells.toList)=(evs.take n).flatMap (·.cells.toList)++(evs.drop n).flatMap (·.cells.toList):=by rw[<- List.flatMap_append,List.take_append_drop]
        rw[this]
        have cu:j<((evs.take n).flatMap (·.cells.toList)).length:=by
         rcases Nat.lt_or_ge j ((evs.take n).flatMap (·.cells.toList)).length with cu|q8
         ·exact cu
         ·rw[List.getElem?_eq_none q8]at hj;cases hj
        rw[List.getElem?_append_left cu];exact hj
       have iy:Flat ((evs.take n).flatMap (·.cells.toList)):=by
        intro u hu
        simp only[List.mem_flatMap]at hu
        obtain⟨ev,h1,h2⟩:=hu
        exact k4 u (by simp only[List.mem_flatMap];exact⟨ev,List.mem_of_mem_take h1,h2⟩)
       have hr:=run_copy_row (P:=P) w t t' ty0 e b off n n a es.length c cg ty (List.flatMap (fun x:Value=>x.cells.toList) (evs.take n)) (az ht) cl g2 kA (fun j u hj=>k3 j u (pre j u hj)) (by rw[kA];have:Nat.min es.length n<=n:=Nat.min_le_right _ _;omega) iy
       have yg:V.aj (ad M φ (H.put (bD H.o y.ids))) φ (H.put (bD H.o y.ids)) w (((es.take n).flatMap D.cells).map .d) ((evs.take n).flatMap (·.cells.toList)):=by
        have flat:∀ (ds:List D) (us:List Value),D.aj (ad M φ (H.put (bD H.o y.ids))) w ds us->D.aj (ad M φ (H.put (bD H.o y.ids))) w (ds.flatMap D.cells) (us.flatMap (·.cells.toList)):=by
         intro ds
         induction ds with
         |nil=>intro us h;simp[D.aj]at h;subst h;rfl
         |cons d ds ih=>
          intro us h
          obtain⟨u,us,rfl,q1,q2⟩:=h
          simp only[List.flatMap_cons]
          exact D.aA _ _ _ _ (D.cE _ _ q1).1 (ih us q2)
        exact(V.aV _ _).2 (flat _ _ p0)
       have nA:((evs.take n).flatMap (·.cells.toList)).length=(es.take n).length:=by rw[kA];simp[Nat.min_comm]
       obtain⟨t1,t2⟩:=oF (cs':=cs.take off++((es.take n).flatMap D.cells).map .d++cs.drop (off+(es.take n).length)) f1 ((f5 id).2 b5) iU bG g2
        (cg.toList.take off++(evs.take n).flatMap (·.cells.toList)++cg.toList.drop (off+((evs.take n).flatMap (·.cells.toList)).length)).toArray (by
        simp only
        rw[nA]
        exact V.aA _ _ _ _ (V.aA _ _ _ _ (V.bN _ _ _ g3) yg) (V.cc _ _ _ g3)) (by
        intro u hu
        simp only[List.mem_append]at hu
        rcases hu with(hu|hu)|hu
        ·exact g4 u (List.mem_of_mem_take hu)
        ·exact iy u hu
        ·exact g4 u (List.mem_of_mem_drop hu))
       refine⟨_,_,_,φ,_,_,_,hK,by simp only[Sem.run_bind,hr,Result.andThen_ok];rfl, .inl rfl,by rw[bV];exact t1,by rw[bV];exact f2.trans t2, ?_,fun j hj=> .inl ?_⟩
       ·simp only[V.den,D.den,goInt,kA]
       ·rw[List.map_append,vJ]at hj
        simp only[List.map_cons,List.map_nil,List.mem_append,List.mem_singleton]at hj
        rcases hj with hj|rfl
        ·exact bR y _ hy j hj
        ·exact b5
     ·cases h
   ·cases h
  ·cases h
 ·cases h
theorem nB{t u:TypeId}{f off:Nat}(h:nw P t f=some (off,u)):∃fs fd,P.underlying t=some (.struct fs)/\fs[f]? =some fd/\fd.offset=off/\fd.type=u:=by
 unfold nw at h
 split at h
 ·rename_i fs hu
  split at h
  ·rename_i fd hf
   injection h with h;injection h with h1 h2
   exact⟨fs,fd,hu,hf,h1,h2⟩
  ·cases h
 ·cases h
theorem mL{t:TypeId}{cs:List V}{off:Nat}{x:V}(h:cw P t cs off=some x){arr:Array Value}(hd:V.aj (ad M φ H) φ H w cs arr.toList)(hf:Flat arr.toList):
 ∃u,(part t arr off).run P w= .ok u w/\V.den (ad M φ H) φ H w x u:=by
 unfold cw at h
 split at h
 ·rename_i ha
  split at h
  ·rename_i hl
   injection h with h;subst h
   obtain⟨i,hi⟩:=jF ha
   refine⟨.agg (arr.extract off (off+P.cellsOf t)), ?_,e9 _ _ ?_ ?_⟩
   ·simp only[part,Sem.run_bind,jE ha w,Result.andThen_ok,if_true,bQ hi w,Sem.run_pure]
   ·have:=V.bN (P.cellsOf t) _ _ (V.cc off _ _ hd)
    simpa[Array.toList_extract,List.extract]using this
   ·intro u hu
    simp only[Array.toList_extract,List.extract]at hu
    exact hf u (List.mem_of_mem_drop (List.mem_of_mem_take hu))
  ·cases h
 ·rename_i ha
  obtain⟨u,hu,vz⟩:=V.b7 _ _ _ _ hd h
  refine⟨u, ?_,vz⟩
  have mq:arr[off]? =some u:=by simpa using hu
  simp only[part,Sem.run_bind,hY ha w,Result.andThen_ok,Bool.false_eq_true,if_false,mq,Sem.run_pure]
 ·cases h
theorem sc(hH:af M φ H w){t:TypeId}{x:V}{xv:Value}{f:Nat}(hx:V.den (ad M φ H) φ H w x xv)(h:ba ((lf P t x f).map fun v=>(v,[],[])) K):
 aY M φ H w fr ((do let z <- Instr.field t xv f;pure (Next.value z):Sem Next).run P w) K:=by
 have hg:=bA h
 clear h
 obtain⟨v,Δ,rd,h,hK⟩:=hg
 simp only[Option.map_eq_some_iff,Prod.mk.injEq]at h
 have hg:=h
 clear h
 obtain⟨v',h,rfl,rfl,rfl⟩:=hg
 unfold lf at h
 split at h
 ·rename_i off u hf
  obtain⟨fs,fd,hu,JO,rfl,rfl⟩:=nB hf
  have fin:∀ {arr:Array Value} {val:Value},(part fd.type arr fd.offset).run P w= .ok val w->V.den (ad M φ H) φ H w v' val->aY M φ H w fr ((do let z <- Instr.field t (.agg arr) f;pure (Next.value z):Sem Next).run P w) K:=by
   intro arr val r1 r2
   refine aY.same hH val hK ?_ r2
   simp[Instr.field,run_underlying hu,JO,asAgg,r1]
  split at h
  ·rename_i cs
   simp only[Option.map_eq_some_iff]at h
   obtain⟨d,h1,rfl⟩:=h
   obtain⟨arr,rfl,g1,g2⟩:=hx
   obtain⟨val,r1,r2⟩:=cY h1 g1 g2
   exact fin (r1 w) r2
  ·rename_i cs
   obtain⟨arr,rfl,g1,g2⟩:=hx
   obtain⟨val,r1,r2⟩:=mL h g1 g2
   exact fin r1 r2
  ·cases h
 ·cases h
theorem sd(s:ByteArray)(n:Nat):s[n]? =s.data.toList[n]? :=by
 rw[getElem?_def]
 split
 ·rename_i h
  have h':n<s.data.toList.length:=by simpa using h
  rw[List.getElem?_eq_getElem h']
  rfl
 ·rename_i h
  have h':s.data.toList.length<=n:=by
   have: ¬n<s.data.size:=h
   simpa using this
  rw[List.getElem?_eq_none h']
theorem se(hH:af M φ H w){t:TypeId}{x i:V}{xv iv:Value}(hx:V.den (ad M φ H) φ H w x xv)(hi:V.den (ad M φ H) φ H w i iv)(h:ba ((lg P t x i).map fun v=>(v,[],[])) K):
 aY M φ H w fr ((do let z <- Instr.index t xv iv;pure (Next.value z):Sem Next).run P w) K:=by
 have hg:=bA h
 clear h
 obtain⟨v,Δ,rd,h,hK⟩:=hg
 simp only[Option.map_eq_some_iff,Prod.mk.injEq]at h
 have hg:=h
 clear h
 obtain⟨v',h,rfl,rfl,rfl⟩:=hg
 unfold lg at h
 split at h
 ·rename_i k i
  simp only[V.den,D.den]at hi
  subst hi
  split at h
  ·rename_i h0
   split at h
   ·rename_i hu
    split at h
    ·rename_i l
     split at h
     ·rename_i b hb
      injection h with h;subst h
      obtain⟨s,rfl,rfl⟩:=hx
      refine aY.same hH (.int .u8 b.toNat) hK ?_ rfl
      have Dz:s[i.toNat]? =some b:=by rw[sd];exact hb
      simp[Instr.index,asIntOf,run_underlying hu,h0,Dz]
     ·cases h
    ·cases h
   ·rename_i n e hu
    split at h
    ·rename_i hn
     obtain⟨h1,h2⟩:=hn
     obtain⟨ie,Er⟩:=Option.isSome_iff_exists.1 h2
     have hc:0<=i/\i<(n:Int):=⟨h0,h1⟩
     have fin:∀ {arr:Array Value} {val:Value},(part e arr (i.toNat*P.cellsOf e)).run P w= .ok val w->V.den (ad M φ H) φ H w v' val->aY M φ H w fr ((do let z <- Instr.index t (.agg arr) (.int k i);pure (Next.value z):Sem Next).run P w) K:=by
      intro arr val r1 r2
      refine aY.same hH val hK ?_ r2
      simp[Instr.index,asIntOf,run_underlying hu,hc,bQ Er,r1]
     split at h
     ·rename_i cs
      simp only[Option.map_eq_some_iff]at h
      obtain⟨d,h1,rfl⟩:=h
      obtain⟨arr,rfl,g1,g2⟩:=hx
      obtain⟨val,r1,r2⟩:=cY h1 g1 g2
      exact fin (r1 w) r2
     ·rename_i cs
      obtain⟨arr,rfl,g1,g2⟩:=hx
      obtain⟨val,r1,r2⟩:=mL h g1 g2
      exact fin r1 r2
     ·cases h
    ·cases h
   ·cases h
  ·cases h
 ·cases h
theorem oS{t:TypeId}(h:p9 P t=true):∃d,P.underlying t=some d/\∀ms,d≠ .interface ms:=by
 unfold p9 at h
 split at h
 ·cases h
 ·rename_i d hn hd
  exact⟨d,hd,fun ms e=>hn ms e⟩
 ·cases h
theorem jG{t:TypeId}{z:V}(hz:zeroV P t=some z):∃val,(zeroValue t).run P w= .ok val w/\V.den (ad M φ H) φ H w z val:=by
 unfold zeroV at hz
 split at hz
 ·rename_i i hi
  have hr:∀v,i.zero=some v->(zeroValue t).run P w= .ok v w:=fun v hv=>by simp[zeroValue,typeInfo,hi,hv]
  split at hz
  ·rename_i a hv
   split at hz
   ·rename_i hf
    injection hz with hz;subst hz
    have Ht:Flat a.toList:=fun u hu=>List.all_eq_true.1 hf u hu
    exact⟨_,hr _ hv,e9 _ _ (bO _ Ht) Ht⟩
   ·cases hz
  ·rename_i v _ hv
   split at hz
   ·rename_i h1
    injection hz with hz;subst hz
    exact⟨_,hr _ hv,fm _ h1⟩
   ·cases hz
  ·cases hz
 ·cases hz
theorem qg(hH:af M φ H w){t xt:TypeId}{ok:Bool}{x:V}{xv:Value}(hx:V.den (ad M φ H) φ H w x xv)(h:ba ((iH P t ok x).map fun v=>(v,[],[])) K):
 aY M φ H w fr ((do let z <- Instr.typeAssert xv xt t ok;pure (Next.value z):Sem Next).run P w) K:=by
 have hg:=bA h
 clear h
 obtain⟨v,Δ,rd,h,hK⟩:=hg
 simp only[Option.map_eq_some_iff,Prod.mk.injEq]at h
 have hg:=h
 clear h
 obtain⟨v',h,rfl,rfl,rfl⟩:=hg
 unfold iH at h
 split at h
 ·rename_i hp
  obtain⟨d,hd,fR⟩:=oS hp
  split at h
  ·rename_i u y
   obtain⟨val,rfl,Hu⟩:=hx
   split at h
   ·rename_i e
    subst e
    injection h with h
    have hr:(Instr.typeAssert (.iface u val) xt u ok).run P w= .ok (if ok=true then .tuple #[val, .bool true]else val) w:=by
     cases d<;>first|exact absurd rfl (fR _)|(cases ok<;>simp[Instr.typeAssert,run_underlying hd])
    refine aY.same hH _ hK (by simp only[Sem.run_bind,hr,Result.andThen_ok];rfl) ?_
    subst h
    cases ok
    ·exact Hu
    ·exact⟨_,rfl,val,[.bool true],rfl,Hu, .bool true,[],rfl,rfl,rfl⟩
   ·rename_i iT
    split at h
    ·rename_i aG
     simp only[Option.map_eq_some_iff]at h
     obtain⟨z,hz,rfl⟩:=h
     obtain⟨zv,r1,r2⟩:=jG (w:=w) (M:=M) (φ:=φ) (H:=H) hz
     have hr:(Instr.typeAssert (.iface u val) xt t ok).run P w= .ok (.tuple #[zv, .bool false]) w:=by
      cases d<;>first|exact absurd rfl (fR _)|simp[Instr.typeAssert,run_underlying hd,iT,aG,r1]
     exact aY.same hH _ hK (by simp only[Sem.run_bind,hr,Result.andThen_ok];rfl) ⟨_,rfl,zv,[.bool false],rfl,r2, .bool false,[],rfl,rfl,rfl⟩
    ·cases h
  ·simp only[V.den,D.den]at hx
   subst hx
   split at h
   ·rename_i aG
    simp only[Option.map_eq_some_iff]at h
    obtain⟨z,hz,rfl⟩:=h
    obtain⟨zv,r1,r2⟩:=jG (w:=w) (M:=M) (φ:=φ) (H:=H) hz
    have hr:(Instr.typeAssert .nilIface xt t ok).run P w= .ok (.tuple #[zv, .bool false]) w:=by
     cases d<;>first|exact absurd rfl (fR _)|simp[Instr.typeAssert,run_underlying hd,aG,r1]
    exact aY.same hH _ hK (by simp only[Sem.run_bind,hr,Result.andThen_ok];rfl) ⟨_,rfl,zv,[.bool false],rfl,r2, .bool false,[],rfl,rfl,rfl⟩
   ·cases h
  ·cases h
 ·cases h
end
end Go.Proofs.YtbmnikpknlkbkaaGreat
