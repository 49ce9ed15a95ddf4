/-
  A PART OF THE PROOF. Conditions: none.
-/
import Derived.ChangeKeysEq
import Derived.Laws.CopyRow
import Derived.Test.YtbmnikpknlkbkaaGreatEc2
set_option linter.unusedSimpArgs false
set_option linter.unusedVariables false
namespace Go.Proofs.YtbmnikpknlkbkaaGreat
section
variable {P:Program}{M:Nat->Prop}{φ:Place}{H:Hp}{w w':World}{fr:Nat}{K:V->List (Nat×aa)->List Nat->Prop}
theorem mj{t:TypeId}{b off:Nat}{ty:TypeId}{cur:Array Value}(hb:w.heap[b]? =some (.cells cur ty (0,0)))(v:Value)(hs:v.cells.size=P.cellsOf t)(dW:0<v.cells.size\/(P.info? t).isSome=true)
 (hle:off+v.cells.size<=cur.size) (hf:Flat v.cells.toList):
 (Instr.storeAt t (.pointer (some ⟨b,off,none⟩)) v).run P w= .ok () (w.setRow b (cur.toList.take off++v.cells.toList++cur.toList.drop (off+v.cells.size)).toArray):=by
 obtain⟨i,hi⟩:∃i,P.info? t=some i:=by
  rcases dW with dW|dW
  ·exact fI (P:=P) (e:=t) (by omega)
  ·exact Option.isSome_iff_exists.1 dW
 have:=run_storeCells_at (P:=P) b off ty v.cells.toList 0 cur w hb (by simpa using hle) (fun u hu=>hf u hu)
 simp only[Nat.add_zero,Array.length_toList]at this
 simp[Instr.storeAt,Instr.sureAddr,storeVar,cG hi,hs,this]
theorem rF{sz:Nat}:∀ (evs:List Value) (i off:Nat) (ev vx:Value) (us:List Value),(∀x∈evs,x.cells.size=sz)->evs[i]? =some ev->off+us.length<=sz->
 vx.cells.toList=ev.cells.toList.take off++us++ev.cells.toList.drop (off+us.length)->
 (evs.set i vx).flatMap (·.cells.toList)=(evs.flatMap (·.cells.toList)).take (i*sz+off)++us++(evs.flatMap (·.cells.toList)).drop (i*sz+off+us.length)
 |[],_,_,_,_,_,_,h,_,_=>by simp at h
 |x::evs,0,off,ev,vx,us,hs,h,hle,he=>by
  simp at h;subst h
  have hx:x.cells.toList.length=sz:=by simpa using hs x (by simp)
  simp only[List.set_cons_zero,List.flatMap_cons,Nat.zero_mul,Nat.zero_add,he]
  rw[List.take_append_of_le_length (by omega),List.drop_append_of_le_length (by omega)]
  simp[List.append_assoc]
 |x::evs,i+1,off,ev,vx,us,hs,h,hle,he=>by
  have hx:x.cells.toList.length=sz:=by simpa using hs x (by simp)
  have ih:=rF evs i off ev vx us (fun y hy=>hs y (by simp[hy])) (by simpa using h) hle he
  simp only[List.set_cons_succ,List.flatMap_cons,ih]
  rw[show(i+1)*sz+off=x.cells.toList.length+(i*sz+off) by rw[Nat.add_mul,hx];omega,List.take_length_add_append,
   show x.cells.toList.length+(i*sz+off)+us.length=x.cells.toList.length+(i*sz+off+us.length) by omega,List.drop_length_add_append]
  simp[List.append_assoc]
theorem rG{α:Type}(l v:List α)(k m n:Nat)(hn:n=v.length)(h:k+n<=m)(hm:m<=l.length):(l.take k++v++l.drop (k+n)).take m=(l.take m).take k++v++(l.take m).drop (k+n):=by
 subst hn
 apply List.ext_getElem?
 intro i
 simp only[List.getElem?_append,List.getElem?_take,List.getElem?_drop,List.length_append,List.length_take]
 repeat' split
 all_goals first
  |rfl
  |omega
  |(congr 1;omega)
  |(symm;apply List.getElem?_eq_none;omega)
  |(apply List.getElem?_eq_none;omega)
  |skip
theorem wW{B:Nat->Prop}{e e':D}{off:Nat}{ds:List D}(h:e.put off ds=some e'){ev:Value}(he:D.den B w e ev){us:List Value}(hu:D.ak B w ds us)(hf:Flat us):
 ∃vx,D.den B w e' vx/\vx.cells.toList=ev.cells.toList.take off++us++ev.cells.toList.drop (off+us.length)/\off+us.length<=ev.cells.size:=by
 have hl:=D.aj _ _ hu
 rcases D.ju _ _ he with⟨cs,a,rfl,rfl⟩|⟨h1,h2,h3⟩
 ·obtain⟨a',ha,h4,h5⟩:=he
  injection ha with ha;subst ha
  have NT:=D.aj _ _ h4
  simp only[Array.length_toList]at NT
  simp only[D.put]at h
  split at h
  ·rename_i hle
   injection h with h;subst h
   refine⟨.agg (a.toList.take off++us++a.toList.drop (off+us.length)).toArray,⟨_,rfl, ?_, ?_⟩,by simp[Value.cells],by simp[Value.cells];omega⟩
   ·simp only
    rw[hl]
    exact D.aQ _ _ _ _ (D.aQ _ _ _ _ (D.cE _ _ _ h4) hu) (D.cX _ _ _ h4)
   ·intro x hx
    simp only[List.mem_append]at hx
    rcases hx with(hx|hx)|hx
    ·exact h5 x (List.mem_of_mem_take hx)
    ·exact hf x hx
    ·exact h5 x (List.mem_of_mem_drop hx)
  ·cases h
 ·have iq:off=0/\∃u,ds=[u]/\e'=u:=by
   cases e<;>simp only[D.put]at h<;>first
    |(split at h
      ·rename_i u;injection h with h;exact⟨rfl,u,rfl,h.symm⟩
      ·cases h)
    |(simp[D.cells]at h2;done)
    |skip
   obtain⟨a,rfl,_⟩:=he
   simp[Value.oneCell']at h1
  obtain⟨rfl,u,rfl,rfl⟩:=iq
  obtain⟨x,xs,rfl,h4,h5⟩:=hu
  simp only[D.ak]at h5;subst h5
  have hx:x.cells=#[x]:=by have:=hf x (by simp);cases x<;>simp_all[Value.oneCell',Value.cells]
  exact⟨x,h4,by simp[hx,h3],by simp[h3]⟩
theorem vy(hH:af M φ H w){t:TypeId}{x v:V}{xv vv:Value}(hx:V.den (ad M φ H) φ H w x xv)(hv:V.den (ad M φ H) φ H w v vv)
 (h:nr P H.o t x v fun Δ rd=>K (.bJ []) Δ rd):bK M φ H w fr ((do Instr.storeAt t xv vv;pure Next.skip:Sem Next).run P w) K:=by
 unfold nr at h
 split at h
 ·rename_i id off
  split at h
  ·rename_i cs ho
   obtain⟨cs',h1,hK⟩:=h
   obtain⟨_,cJ,hp⟩:=hx
   obtain⟨b,cz,rfl⟩:=hp (by rw[ho];rfl)
   have a8:=hH.ok id
   simp only[aq,ho]at a8
   obtain⟨b',bY,ty,g1,g2,g3,g4⟩:=a8
   rw[cz]at g1;simp at g1;subst g1
   unfold p5 at h1
   split at h1
   ·rename_i us hc
    split at h1
    ·rename_i hle
     injection h1 with h1;subst h1
     obtain⟨k1,k2⟩:=V.ju _ _ _ hc hv
     have l1:=V.aj _ _ k1
     have l2:=V.aj _ _ g3
     simp only[Array.length_toList]at l1 l2
     have hr:=mj (P:=P) (t:=t) (off:=off) g2 vv (by omega) (hle.2.1.imp (fun h=>by omega) (fun h=>h)) (by omega) k2
     obtain⟨t1,t2⟩:=ru (cs':=cs.take off++us++cs.drop (off+us.length)) hH cJ ho cz g2 (bY.toList.take off++vv.cells.toList++bY.toList.drop (off+vv.cells.size)).toArray (by
      simp only
      rw[l1]
      exact V.aQ _ _ _ _ (V.aQ _ _ _ _ (V.cE _ _ _ g3) k1) (V.cX _ _ _ g3)) (by
      intro u hu
      simp only[List.mem_append]at hu
      rcases hu with(hu|hu)|hu
      ·exact g4 u (List.mem_of_mem_take hu)
      ·exact k2 u hu
      ·exact g4 u (List.mem_of_mem_drop hu))
     exact⟨_,_,_,_,_,_,_,hK,by simp only[Sem.run_bind,hr,Result.andThen_ok];rfl, .inr ⟨rfl,rfl⟩,t1,t2,⟨#[],rfl,rfl⟩,by simp[cJ]⟩
    ·cases h1
   ·cases h1
  ·exact h.elim
 ·rename_i id ep i jF off
  split at h
  ·rename_i eF ty sz es ho
   obtain⟨rfl,rfl,e,he,y,hy,Pn,hyp,e9,e',iq,hK⟩:=h
   obtain⟨_,cJ,hp⟩:=hx
   obtain⟨b,n,c,cz,rfl⟩:=(hp ep (by rw[ho];rfl)).2 rfl
   obtain⟨f1,f2,f3,f4,f5⟩:=cj hH v.ids (b9 v _ hv)
   have iN:id∉v.ids:=fun hm=>by have:=List.all_eq_true.1 e9 id hm;simp at this
   have kP:=(f4 id iN).trans ho
   have Ir:=dA f1 v y vv f3 hy (V.ao f2 _ _ hv)
   obtain⟨k1,k2⟩:=D.dz _ _ Ir
   have l1:=D.aj _ _ k1
   simp only[Array.length_toList]at l1
   have a8:=f1.ok id
   simp only[aq,kP]at a8
   obtain⟨h0,xs,⟨hl,aY⟩,evs,rfl,h2,h3⟩:=a8
   rcases aY with⟨h4,h5⟩|⟨g,cap,cur,h4,h5,h6,h7,h8,h9,AK⟩
   ·rw[cz]at h4;simp at h4
   ·rw[cz]at h4;simp at h4
    obtain⟨rfl,rfl,rfl⟩:=h4
    obtain⟨ev,cB,NU⟩:=D.cD _ _ _ _ h3 he
    obtain⟨vx,p1,p2,p3⟩:=wW iq NU k1 k2
    simp only[Array.length_toList]at p2 p3
    have NV:=h2 ev (List.mem_of_getElem? cB)
    have Is:i<es.length:=(List.getElem?_eq_some_iff.1 he).1
    have oN:i*jF+jF<=es.length*jF:=by
     rw[<- Nat.succ_mul];exact Nat.mul_le_mul_right _ Is
    have It:es.length*jF<=cur.size:=by rw[h9];exact Nat.mul_le_mul_right _ h7
    have hr:=mj (P:=P) (t:=t) (off:=i*jF+off) h6 vv (by omega) (.inl (by omega)) (by omega) k2
    have zm:=rF evs i off ev vx vv.cells.toList h2 cB (by simpa using(by omega:off+vv.cells.size<=jF)) (by simpa using p2)
    simp only[Array.length_toList]at zm
    have bq:((H.put (b8 H.o v.ids)).o id).live=true:=by rw[kP];rfl
    have q9:cW (φ id)=some b:=by rw[cz];rfl
    have EO:=(f5 id).2 cJ
    have ht:=dV (w:=w) (w':=w.setRow b (cur.toList.take (i*jF+off)++vv.cells.toList++cur.toList.drop (i*jF+off+vv.cells.size)).toArray) EO bq q9 (fY w b _) (.arr ep ty jF (es.set i e')) (by rw[kP];rfl) (by rw[kP];rfl)
    have hh:=fl f1 EO bq q9 (fY w b (cur.toList.take (i*jF+off)++vv.cells.toList++cur.toList.drop (i*jF+off+vv.cells.size)).toArray) (.arr ep ty jF (es.set i e')) (by rw[kP];rfl) (by rw[kP];rfl) (by
     unfold aq
     simp only[aU,ax,if_true]
     refine⟨h0,(evs.set i vx).flatMap (·.cells.toList),⟨?_, .inr ⟨b,c,_,by rw[List.length_set];exact cz,Nat.zero_le _,setRow_heap w b cur _ ty (0,0) h6,by rw[List.length_set];exact h7,h8, ?_, ?_⟩⟩,evs.set i vx,rfl, ?_, ?_⟩
     ·rw[zm,List.length_set]
      simp only[List.length_append,List.length_take,List.length_drop,Array.length_toList,hl]
      omega
     ·simp only[List.size_toArray,List.length_append,List.length_take,List.length_drop,Array.length_toList]
      omega
     ·rw[zm,List.length_set, <- AK]
      exact rG cur.toList vv.cells.toList _ _ _ (by simp) (by omega) (by simpa using It)
     ·intro x hx
      rcases List.mem_or_eq_of_mem_set hx with hx|rfl
      ·exact h2 x hx
      ·have:=congrArg List.length p2
       simp only[Array.length_toList,List.length_append,List.length_take,List.length_drop]at this
       omega
     ·exact D.aw (ht.blocks (M:=M)) _ _ (D.rq i es evs e' vx h3 p1))
    rw[<- cN]at hh ht
    refine⟨_,_,_,_,_,_,_,hK,by simp only[Sem.run_bind,hr,Result.andThen_ok];rfl, .inr ⟨rfl,rfl⟩,hh,f2.trans ht,⟨#[],rfl,rfl⟩,fun j hj=> ?_⟩
    simp only[List.map_append,List.mem_append,List.map_cons,List.map_nil,List.mem_singleton]at hj
    rcases hj with hj|hj
    ·left
     refine b9 v _ hv j ?_
     rw[il]at hj
     simpa[Function.comp_def]using hj
    ·exact .inl (hj ▸ cJ)
  ·exact h.elim
 ·exact h.elim
end
end Go.Proofs.YtbmnikpknlkbkaaGreat
namespace Go.Proofs.YtbmnikpknlkbkaaGreat
section
variable {P:Program}{B:Nat->Prop}{w:World}
theorem dZ{t:TypeId}{xs:List D}{off:Nat}{x:D}(h:eH P t xs off=some x){arr:Array Value}(hd:D.ak B w xs arr.toList)(hf:Flat arr.toList):
 ∃u,(∀w',(part t arr off).run P w'= .ok u w')/\D.den B w x u:=by
 unfold eH at h
 split at h
 ·rename_i ha
  split at h
  ·rename_i hl
   injection h with h;subst h
   obtain⟨i,hi⟩:=lZ ha
   refine⟨.agg (arr.extract off (off+P.cellsOf t)),fun w'=> ?_,_,rfl, ?_, ?_⟩
   ·simp only[part,Sem.run_bind,lY ha w',Result.andThen_ok,if_true,cG hi w',Sem.run_pure]
   ·have:=D.cE (P.cellsOf t) _ _ (D.cX off _ _ hd)
    simpa[Array.toList_extract,List.extract]using this
   ·intro u hu
    simp only[Array.toList_extract,List.extract]at hu
    exact hf u (List.mem_of_mem_drop (List.mem_of_mem_take hu))
  ·cases h
 ·rename_i ha
  obtain⟨u,hu,zf⟩:=D.cD _ _ _ _ hd h
  refine⟨u,fun w'=> ?_,zf⟩
  have oM:arr[off]? =some u:=by simpa using hu
  simp only[part,Sem.run_bind,jZ ha w',Result.andThen_ok,Bool.false_eq_true,if_false,oM,Sem.run_pure]
 ·cases h
theorem o8{a b:Option Bool}{r:Bool}(h:vn a b=some r):∃x y,a=some x/\b=some y/\r=(x&&y):=by
 unfold vn at h
 split at h
 ·injection h with h;exact⟨_,_,rfl,rfl,h.symm⟩
 ·cases h
def HA(P:Program)(m:Nat)(t:TypeId)(x y:D)(r:Bool):Prop:=
 ∀ (B:Nat->Prop) (w:World) (u v:Value),D.den B w x u->D.den B w y v->(Op.equalIn m t u v).run P w= .ok r w
theorem kQ{d m:Nat}(IH:∀t x y r,mJ P d t x y=some r->HA P m t x y r){xs ys:List D}{bu bs:Array Value}(ha:D.ak B w xs bu.toList)(tn:Flat bu.toList)(hb:D.ak B w ys bs.toList)(zn:Flat bs.toList):
 ∀ (fs:List Field) (r:Bool),(∀f∈fs,f.name≠ "_")->oV (fun u off=>AH (mJ P d u) (eH P u xs off) (eH P u ys off)) (fs.map fun f=>(f.type,f.offset))=some r->
   (Op.eqFields m bu bs fs).run P w= .ok r w
 |[],r,_,h=>by simp[oV]at h;subst h;simp[Op.eqFields]
 |f::fs,r,hn,h=>by
  obtain⟨x,y,h1,h2,rfl⟩:=o8 h
  simp only[AH]at h1
  split at h1
  ·rename_i p q hp hq
   obtain⟨u,k1,k2⟩:=dZ hp ha tn
   obtain⟨v,k3,k4⟩:=dZ hq hb zn
   have h3:=IH _ _ _ _ h1 B w u v k2 k4
   have h4:=kQ IH ha tn hb zn fs y (fun g hg=>hn g (by simp[hg])) h2
   have e9:=hn f (by simp)
   simp only[Op.eqFields,e9,ne_eq,not_false_eq_true,if_true,Sem.run_bind,k1,k3,h3,Result.andThen_ok]
   cases x
   ·simp
   ·simpa using h4
  ·cases h1
theorem ml{d m:Nat}{e:TypeId}(IH:∀t x y r,mJ P d t x y=some r->HA P m t x y r){xs ys:List D}{bu bs:Array Value}(ha:D.ak B w xs bu.toList)(tn:Flat bu.toList)(hb:D.ak B w ys bs.toList)(zn:Flat bs.toList):
 ∀ (n i:Nat) (r:Bool),uq (fun i=>AH (mJ P d e) (eH P e xs (i*P.cellsOf e)) (eH P e ys (i*P.cellsOf e))) n i=some r->
   (Op.eqItems m e (P.cellsOf e) bu bs (List.range' i n)).run P w= .ok r w
 |0,i,r,h=>by simp[uq]at h;subst h;simp[Op.eqItems]
 |n+1,i,r,h=>by
  obtain⟨x,y,h1,h2,rfl⟩:=o8 h
  simp only[AH]at h1
  split at h1
  ·rename_i p q hp hq
   obtain⟨u,k1,k2⟩:=dZ hp ha tn
   obtain⟨v,k3,k4⟩:=dZ hq hb zn
   have h3:=IH _ _ _ _ h1 B w u v k2 k4
   have h4:=ml IH ha tn hb zn n (i+1) y h2
   simp only[List.range'_succ,Op.eqItems,Sem.run_bind,k1,k3,h3,Result.andThen_ok]
   cases x
   ·simp
   ·simpa using h4
  ·cases h1
theorem m6:∀ (d:Nat) (t:TypeId) (x y:D) (r:Bool),mJ P d t x y=some r->∀m,d<=m->HA P m t x y r
 |0,_,_,_,_,h=>by simp[mJ]at h
 |d+1,t,x,y,r,h=>by
  intro m hm B w u v hu hv
  obtain⟨m,rfl⟩:∃k,m=k+1:=⟨m - 1,by omega⟩
  have IH:∀t x y r,mJ P d t x y=some r->HA P m t x y r:=fun t x y r h=>m6 d t x y r h m (by omega)
  unfold mJ at h
  cases hs:a9 P t with
  |none=>rw[hs]at h;cases h
  |some sh=>
   rw[hs]at h
   unfold a9 at hs
   cases ht:P.underlying t with
   |none=>rw[ht]at hs;cases hs
   |some td=>
    rw[ht]at hs
    cases td<;>simp only[Option.some.injEq,reduceCtorEq]at hs
    case int k0=>
     subst hs
     simp only at h
     split at h
     ·split at h
      ·rename_i e;subst e;injection h with h;subst h
       simp only[D.den]at hu hv;subst hu;subst hv
       exact run_equalIn_int w m t _ _ _ _ ht
      ·cases h
     ·cases h
    case bool=>
     subst hs
     simp only at h
     split at h
     ·injection h with h;subst h
      simp only[D.den]at hu hv;subst hu;subst hv
      exact run_equalIn_bool' w m t _ _ ht
     ·cases h
    case string=>
     subst hs
     simp only at h
     split at h
     ·injection h with h;subst h
      obtain⟨s1,rfl,rfl⟩:=hu
      obtain⟨s2,rfl,rfl⟩:=hv
      rw[run_equalIn_string w m t _ _ ht]
      rw[ByteArray.toList_eq,ByteArray.toList_eq]
     ·cases h
    case struct fs=>
     split at hs
     ·rename_i hc
      injection hs with hs;subst hs
      simp only[Bool.and_eq_true,Bool.not_eq_true',List.all_eq_true,bne_iff_ne]at hc
      simp only at h
      split at h
      ·obtain⟨bu,rfl,ha,tn⟩:=hu
       obtain⟨bs,rfl,hb,zn⟩:=hv
       have LG:P.fieldsOf t=fs:=by simp[Program.fieldsOf,ht]
       rw[run_equalIn_struct w m t bu bs (by rw[LG];exact ht) hc.1,LG]
       exact kQ IH ha tn hb zn _ _ hc.2 h
      ·cases h
     ·cases hs
    case array n e=>
     split at hs
     ·rename_i hc
      injection hs with hs;subst hs
      simp only at h
      split at h
      ·obtain⟨bu,rfl,ha,tn⟩:=hu
       obtain⟨bs,rfl,hb,zn⟩:=hv
       obtain⟨i,hi⟩:=Option.isSome_iff_exists.1 hc
       rw[run_equalIn_array w m bu bs ht hi,List.range_eq_range']
       exact ml IH ha tn hb zn _ _ _ h
      ·cases h
     ·cases hs
theorem wX{t:TypeId}{bu bs:List D}{r:Bool}(h:mJ P 100 t (.agg bu) (.agg bs)=some r)(hg:P.eqGuardType P.depth t=false):wJ P t (.agg bu) (.agg bs) r:=by
 intro B w u v hu hv
 refine⟨m6 100 t _ _ _ h _ (by decide) B w u v hu hv,fun op a b=> ?_⟩
 obtain⟨bu,rfl,_⟩:=hu
 obtain⟨bs,rfl,_⟩:=hv
 exact run_eqGuard_agg w op t a b bu bs hg
end
end Go.Proofs.YtbmnikpknlkbkaaGreat
namespace Go.Proofs.YtbmnikpknlkbkaaGreat
section
variable {P:Program}{M:Nat->Prop}{φ:Place}{H:Hp}{w:World}{fr:Nat}{K:V->List (Nat×aa)->List Nat->Prop}
theorem cq{x:Option eu}(h:bW x K):∃v Δ rd,x=some (v,Δ,rd)/\K v Δ rd:=by
 unfold bW at h;split at h
 ·exact⟨_,_,_,rfl,h⟩
 ·exact h.elim
theorem rH{o:Nat->aa}{x:V}{id off:Nat}(h:jV o x=some (id,off)):x= .ptr id off/\(o id).bc=true:=by
 unfold jV at h
 split at h
 ·split at h
  ·simp only[Option.some.injEq,Prod.mk.injEq]at h;obtain⟨rfl,rfl⟩:=h;exact⟨rfl,by assumption⟩
  ·cases h
 ·cases h
theorem rI{o:Nat->aa}{x:V}{id off n:Nat}{cs:List V}(h:jW o x=some (id,off,n,cs)):x= .nm id off n/\o id= .row cs:=by
 unfold jW at h
 split at h
 ·split at h
  ·rename_i ho
   simp only[Option.some.injEq,Prod.mk.injEq]at h;obtain⟨rfl,rfl,rfl,rfl⟩:=h;exact⟨rfl,ho⟩
  ·cases h
 ·cases h
theorem kR{x:Option V}{val:Option Value}{d n:Nat}(hx:match x,val with|none,none=>True|some v,some u=>V.den (ad M φ H) φ H w v u|_,_=>False)(h:vo x d=some n):
 (x=none/\val=none/\n=d)\/∃k,val=some (.int k n)/\x≠none:=by
 unfold vo at h
 split at h
 ·injection h with h
  left
  cases val with
  |none=>exact⟨rfl,rfl,h.symm⟩
  |some u=>exact hx.elim
 ·rename_i k i
  split at h
  ·injection h with h;subst h
   right
   cases val with
   |none=>exact hx.elim
   |some u=>
    simp only[V.den,D.den]at hx
    refine⟨k, ?_,by simp⟩
    rw[hx,Int.toNat_of_nonneg (by assumption)]
  ·cases h
 ·cases h
theorem uz{B:Nat->Prop}{es:List D}{base:Option Addr}{len cap l h:Nat}(hd:D.den B w (.sl es) (.slice base len cap))(hl:l<=h)(hh:h<=es.length){m:Nat}(hm:m=cap\/h<=m/\m<=es.length){DN:Nat}(cK:l=0\/∀y∈es,y.cells.length=DN):
 D.den B w (.sl ((es.take h).drop l)) (.slice (if m=l then base else base.map (·.add (l*DN))) (h - l) (m - l)):=by
 obtain⟨b',NW,NX,he,h1,h2,h3,sz,h4⟩:=hd
 injection he with e1 e2 e3
 subst e1;subst e2;subst e3
 refine⟨_,_,_,rfl,by simp;omega,by omega,fun hb=> ?_,sz,fun a ha=> ?_⟩
 ·split at hb
  ·omega
  ·cases base with
   |none=>have:=h3 rfl;omega
   |some a=>simp at hb
 ·have key:∀ (es:List D) (i:Nat) (a:Addr),D.elems B w sz a i es->∀l h,D.elems B w sz a (i+l) ((es.take h).drop l):=by
   intro es
   induction es with
   |nil=>intro i a _ l h;simp[D.elems]
   |cons e es ih=>
    intro i a he l h
    cases h with
    |zero=>simp[D.elems]
    |succ h=>
     cases l with
     |zero=>
      refine⟨he.1, ?_⟩
      simpa using ih (i+1) a he.2 0 h
     |succ l=>
      have:=ih (i+1) a he.2 l h
      rw[show i+1+l=i+(l+1) by omega]at this
      simpa using this
  split at ha
  ·
    rename_i zo
    have LH:h - l=0:=by omega
    have Iu:(es.take h).drop l=[]:=List.eq_nil_of_length_eq_zero (by simp;omega)
    rw[Iu]
    cases base with
    |none=>cases ha
    |some b=>injection ha with ha;subst ha;exact⟨fun hc=>by omega,trivial⟩
  ·cases base with
   |none=>simp at ha
   |some b=>
    simp only[Option.map_some,Option.some.injEq]at ha
    subst ha
    obtain⟨h5,h6⟩:=h4 b rfl
    replace h5:=h5 (by omega)
    refine⟨fun _=>rv b h5 _, ?_⟩
    have h7:=key es 0 b h6 l h
    rw[Nat.zero_add]at h7
    have shift:∀ (ds:List D) (i:Nat),(∀y∈ds,y.cells.length=DN\/l=0)->D.elems B w sz b (l+i) ds->D.elems B w sz (b.add (l*DN)) i ds:=by
     intro ds
     induction ds with
     |nil=>intro i _ _;trivial
     |cons y ds ih=>
      intro i hy hd
      obtain⟨⟨ev,g1,g2,g3⟩,g4⟩:=hd
      have Iv:l*DN=l*sz:=by
       rcases hy y (by simp)with hy|hy
       ·have:=D.aj _ _ (D.dz _ _ g3).1
        rw[hy]at this
        have e:ev.cells.size=DN:=by simpa using this
        rw[<- e,g1]
       ·rw[hy];simp
      refine⟨⟨ev,g1, ?_,g3⟩,ih (i+1) (fun z hz=>hy z (by simp[hz])) (by rw[show l+(i+1)=l+i+1 by omega];exact g4)⟩
      rw[add_add b h5,Iv, <- Nat.add_mul]
      exact g2
    refine shift _ 0 (fun y hy=> ?_) (by simpa using h7)
    rcases cK with cK|cK
    ·exact .inr cK
    ·exact .inl (cK y (List.mem_of_mem_take (List.mem_of_mem_drop hy)))
theorem j6{len cap:Nat}{lo hi mx:Option Value}{l h m:Nat}(s9:lo=none/\l=0\/∃k,lo=some (.int k l))(tp:hi=none/\h=len/\mx=none\/∃k,hi=some (.int k h))(wY:mx=none/\m=cap\/∃k,mx=some (.int k m))(h1:l<=h)(h2:h<=m)(h3:m<=cap):
 (Instr.sliceBounds true len cap lo hi mx).run P w= .ok (l,h,m) w:=by
 rcases s9 with⟨rfl,rfl⟩|⟨kl,rfl⟩<;>rcases tp with⟨rfl,rfl,rfl⟩|⟨kh,rfl⟩<;>rcases wY with⟨e,rfl⟩|⟨km,e⟩<;>subst_vars<;>
  first
  |(simp[Instr.sliceBounds,run_sliceBound,h1,h2,h3];done)
  |(cases e;done)
  |(cases e;simp[Instr.sliceBounds,run_sliceBound,h1,h2,h3])
theorem tq(hH:af M φ H w){t:TypeId}{x:V}{xv:Value}{lo hi mx:Option V}{lov hiv mxv:Option Value}(hx:V.den (ad M φ H) φ H w x xv)
 (s9:match lo,lov with|none,none=>True|some v,some u=>V.den (ad M φ H) φ H w v u|_,_=>False) (tp:match hi,hiv with|none,none=>True|some v,some u=>V.den (ad M φ H) φ H w v u|_,_=>False)
 (wY:match mx,mxv with|none,none=>True|some v,some u=>V.den (ad M φ H) φ H w v u|_,_=>False) (h:bW (kB P H.o t x lo hi mx) K):
 bK M φ H w fr ((do let z <- Instr.sliceAt t xv lov hiv mxv;pure (Next.value z):Sem Next).run P w) K:=by
 have hg:=cq h
 clear h
 obtain⟨v,Δ,rd,h,hK⟩:=hg
 unfold kB at h
 split at h
 ·rename_i e ht
  have jO:=aN ht
  split at h
  ·rename_i es l wC hl
   split at h
   ·rename_i hh LI
    split at h
    ·rename_i hc
     obtain⟨c1,c2,c3,c4⟩:=hc
     obtain⟨i,BZ⟩:=Option.isSome_iff_exists.1 c3
     have hD:dk H.o x=some (.sl es):=by
      unfold dr at wC
      split at wC
      ·rename_i es' hD;injection wC with wC;subst wC;exact hD
      ·cases wC
     obtain⟨f1,f2,f3,f4,f5⟩:=cj hH x.ids (b9 x _ hx)
     have hd:=dA f1 x (.sl es) xv f3 hD (V.ao f2 _ _ hx)
     obtain⟨base,len,cap,Iq,hlen,Iw,_⟩:=id hd
     subst Iq
     have cK:l=0\/∀y∈es,y.cells.length=P.cellsOf e:=by
      rcases c4 with c4|c4
      ·exact .inl c4
      ·exact .inr fun y hy=>by simpa using List.all_eq_true.1 c4 y hy
     have elem:P.elem t=e:=by simp[Program.elem,jO]
     have dB:∀ {m:Nat},(Instr.sliceBounds true len cap lov hiv mxv).run P w= .ok (l,hh,m) w->
      (Instr.sliceAt t (.slice base len cap) lov hiv mxv).run P w= .ok (.slice (if m=l then base else base.map (·.add (l*P.cellsOf e))) (hh - l) (m - l)) w:=by
      intro m hm
      rw[run_sliceAt_slice w t _ _ _ _ (by rw[elem];exact jO),run_slice_any w t base len cap (by rw[elem];exact jO),hm]
      simp only[Result.andThen_ok,elem,cG BZ,sliced]
     have fin:∀ {val:Value} {v:V},(Instr.sliceAt t (.slice base len cap) lov hiv mxv).run P w= .ok val w->V.den (ad M φ (H.put (b8 H.o x.ids))) φ (H.put (b8 H.o x.ids)) w v val->K v (b8 H.o x.ids) x.ids->
      bK M φ H w fr ((do let z <- Instr.sliceAt t (.slice base len cap) lov hiv mxv;pure (Next.value z):Sem Next).run P w) K:=by
      intro val v r1 r2 r3
      exact⟨_,val,w,φ,v,_,_,r3,by simp only[Sem.run_bind,r1,Result.andThen_ok];rfl, .inl rfl,f1,f2,r2,fun id ag=> .inl (by
       have e:(b8 H.o x.ids).map (·.1)=x.ids:=by rw[il];simp[Function.comp_def]
       rw[e]at ag
       exact b9 x _ hx id ag)⟩
     have bl:lov=none/\l=0\/∃k,lov=some (.int k l):=by
      rcases kR s9 hl with⟨_,a,b⟩|⟨k,a,_⟩
      ·exact .inl ⟨a,b⟩
      ·exact .inr ⟨k,a⟩
     split at h
     ·injection h with h;injection h with e1 e2;injection e2 with e2 e3;subst e1;subst e2;subst e3
      have bm:mxv=none:=by
       cases mxv with
       |none=>rfl
       |some u=>exact wY.elim
      subst bm
      have bh:hiv=none/\hh=len/\(none:Option Value)=none\/∃k,hiv=some (.int k hh):=by
       rcases kR tp LI with⟨_,a,b⟩|⟨k,a,_⟩
       ·exact .inl ⟨a,by omega,rfl⟩
       ·exact .inr ⟨k,a⟩
      refine fin (dB (j6 (m:=cap) bl bh (.inl ⟨rfl,rfl⟩) c1 (by omega) (Nat.le_refl _))) ?_ hK
      exact uz hd c1 c2 (.inl rfl) cK
     ·rename_i mv
      split at h
      ·rename_i hv m hm
       split at h
       ·rename_i ta
        injection h with h;injection h with e1 e2;injection e2 with e2 e3;subst e1;subst e2;subst e3
        have bm:∃k,mxv=some (.int k m):=by
         rcases kR wY hm with⟨a,_⟩|⟨k,a,_⟩
         ·cases a
         ·exact⟨k,a⟩
        have bh:∃k,hiv=some (.int k hh):=by
         rcases kR tp LI with⟨a,_⟩|⟨k,a,_⟩
         ·cases a
         ·exact⟨k,a⟩
        have hp:=uz (m:=m) hd c1 c2 (.inr ta) cK
        refine fin (dB (j6 (m:=m) bl (.inr bh) (.inr bm) c1 ta.1 (by omega))) ?_ hK
        split
        ·rename_i e;subst e
         exact⟨hp,_,_,rfl⟩
        ·exact hp
       ·cases h
      ·cases h
    ·cases h
   ·cases h
  ·cases h
 ·cases ha:bA P t with
  |none=>rw[ha]at h;cases h
  |some p=>
  obtain⟨n,e⟩:=p
  rw[ha]at h
  split at h
  ·rename_i n' e' heq
   have e0:n=n'/\e=e':=by simpa using heq
   obtain⟨rfl,rfl⟩:=e0
   split at h
   ·rename_i id off m7
    obtain⟨rfl,aY⟩:=rH m7
    split at h
    ·rename_i hc
     injection h with h;injection h with e1 e2;injection e2 with e2 e3;subst e1;subst e2;subst e3
     obtain⟨i,BZ⟩:=Option.isSome_iff_exists.1 hc
     have e1:lov=none:=by cases lov with|none=>rfl|some u=>exact s9.elim
     have e2:hiv=none:=by cases hiv with|none=>rfl|some u=>exact tp.elim
     have e3:mxv=none:=by cases mxv with|none=>rfl|some u=>exact wY.elim
     subst e1;subst e2;subst e3
     obtain⟨g1,g2,g3⟩:=hx
     obtain⟨b,k1,k2⟩:=g3 aY
     subst k2
     have Ix:=o3 ha
     have elem:P.elem t=e:=by simp[Program.elem,Ix]
     have len:P.arrayLen t=n:=by simp[Program.arrayLen,Ix]
     refine bK.same hH (.slice (some ⟨b,off,none⟩) n n) hK ?_ ⟨rfl,g2,fun _=>⟨b,k1,rfl⟩⟩
     have:=run_sliceAt_array_all (P:=P) w t ⟨b,off,none⟩ (by rw[elem,len];exact Ix)
     simp only[Sem.run_bind,this,elem,cG BZ,Result.andThen_ok,slicedAt,len]
     by_cases hn:n=0
     ·subst hn;rfl
     ·simp[hn,Addr.add]
    ·cases h
   ·cases h
  ·cases h
theorem vz(g:Nat):(⟨g,0,none⟩:Addr).add 0=⟨g,0,none⟩:=rfl
theorem zp(hH:af M φ H w){t:TypeId}{x:V}{xv:Value}{lo hi mx:Option V}{lov hiv mxv:Option Value}(hx:V.den (ad M φ H) φ H w x xv)
 (s9:match lo,lov with|none,none=>True|some v,some u=>V.den (ad M φ H) φ H w v u|_,_=>False) (tp:match hi,hiv with|none,none=>True|some v,some u=>V.den (ad M φ H) φ H w v u|_,_=>False)
 (wY:match mx,mxv with|none,none=>True|some v,some u=>V.den (ad M φ H) φ H w v u|_,_=>False) {v:V} {Δ:List (Nat×aa)} {rd:List Nat} (h:tg P H.o t x lo hi mx=some (v,Δ,rd)) (hK:K v Δ rd):
 bK M φ H w fr ((do let z <- Instr.sliceAt t xv lov hiv mxv;pure (Next.value z):Sem Next).run P w) K:=by
 have bounds:∀ {kk:IntKind} {e:TypeId} {base:Option Addr} {len cap:Nat},aB P t=some e->(P.info? e).isSome=true->base=none\/(∃g,base=some ⟨g,0,none⟩)->
  (Instr.sliceAt t (.slice base len cap) none (some (.int kk 0)) none).run P w= .ok (.slice base 0 cap) w:=by
  intro kk e base len cap ht hi hb
  obtain⟨i,BZ⟩:=Option.isSome_iff_exists.1 hi
  have jO:=aN ht
  have elem:P.elem t=e:=by simp[Program.elem,jO]
  have hm:=j6 (P:=P) (w:=w) (len:=len) (cap:=cap) (lo:=none) (hi:=some (.int kk 0)) (mx:=none) (l:=0) (h:=0) (m:=cap) (.inl ⟨rfl,rfl⟩) (.inr ⟨kk,rfl⟩) (.inl ⟨rfl,rfl⟩) (Nat.le_refl _) (Nat.zero_le _) (Nat.le_refl _)
  rw[run_sliceAt_slice w t _ _ _ _ (by rw[elem];exact jO),run_slice_any w t base len cap (by rw[elem];exact jO),hm]
  simp only[Result.andThen_ok,elem,cG BZ,sliced]
  rcases hb with rfl|⟨g,rfl⟩
  ·simp
  ·simp[vz]
 unfold tg at h
 split at h
 ·split at h
  ·rename_i kk k
   split at h
   ·rename_i e ht
    split at h
    ·rename_i hc
     simp only[Option.some.injEq,Prod.mk.injEq]at h;obtain⟨rfl,rfl,rfl⟩:=h
     obtain⟨rfl,hc⟩:=hc
     simp only[V.den]at hx;subst hx
     have e1:lov=none:=by cases lov with|none=>rfl|some u=>exact s9.elim
     have e2:mxv=none:=by cases mxv with|none=>rfl|some u=>exact wY.elim
     have e3:hiv=some (.int kk 0):=by
      cases hiv with
      |none=>exact tp.elim
      |some u=>simp only[V.den,D.den]at tp;rw[tp]
     subst e1;subst e2;subst e3
     exact bK.same hH (.slice none 0 0) hK (by simp only[Sem.run_bind,bounds (base:=none) (len:=0) (cap:=0) ht hc (.inl rfl),Result.andThen_ok];rfl) rfl
    ·cases h
   ·cases h
  ·cases h
 ·rename_i id ep
  split at h
  ·rename_i kk k
   split at h
   ·rename_i e eF ty sz es ht ho
    split at h
    ·rename_i hc
     simp only[Option.some.injEq,Prod.mk.injEq]at h;obtain⟨rfl,rfl,rfl⟩:=h
     obtain⟨rfl,rfl,hc⟩:=hc
     have e1:lov=none:=by cases lov with|none=>rfl|some u=>exact s9.elim
     have e2:mxv=none:=by cases mxv with|none=>rfl|some u=>exact wY.elim
     have e3:hiv=some (.int kk 0):=by
      cases hiv with
      |none=>exact tp.elim
      |some u=>simp only[V.den,D.den]at tp;rw[tp]
     subst e1;subst e2;subst e3
     obtain⟨_,cJ,mK⟩:=hx
     have hv:=(mK ep (by rw[ho];rfl)).2 rfl
     subst hv
     have a8:=hH.ok id
     simp only[aq,ho]at a8
     obtain⟨cK,xs,dm,jw⟩:=a8
     have EP:et (ad M φ H) w sz [] []:=⟨[],rfl,by simp,rfl⟩
     rcases dm.2 with⟨h3,h4⟩|⟨g,cap,cur,h3,h4,h5,h6,h7,h8,h9⟩
     ·have rE:w.ownsRow 0 ty sz (.slice none 0 0) ([]:List D).length []:=⟨by simp, .inl ⟨rfl,rfl⟩⟩
      obtain⟨s1,s2,s3⟩:=nB (m:=fun _=>False) hH cJ ho (dh.refl _ _) (fun _ h=>h.elim) (fun b hb=>by simp[cW]at hb) rE EP
      rw[h3]
      exact⟨_,_,_,_,_,_,_,hK,by simp only[Sem.run_bind,bounds (base:=none) (len:=0) (cap:=0) ht hc (.inl rfl),Result.andThen_ok];rfl, .inl rfl,s1,s2,s3,by simp[cJ]⟩
     ·have rE:w.ownsRow 0 ty sz (.slice (some ⟨g,0,none⟩) 0 cap) ([]:List D).length []:=⟨by simp, .inr ⟨g,cap,cur,rfl,h4,h5,Nat.zero_le _,h7,h8,by simp⟩⟩
      obtain⟨s1,s2,s3⟩:=nB (m:=fun _=>False) hH cJ ho (dh.refl _ _) (fun _ h=>h.elim) (fun b hb=> .inl (by rw[h3];exact hb)) rE EP
      rw[h3]
      exact⟨_,_,_,_,_,_,_,hK,by simp only[Sem.run_bind,bounds (base:=some ⟨g,0,none⟩) ht hc (.inr ⟨g,rfl⟩),Result.andThen_ok];rfl, .inl rfl,s1,s2,s3,by simp[cJ]⟩
    ·cases h
   ·cases h
  ·cases h
 ·cases h
theorem vA(hH:af M φ H w){t:TypeId}{x:V}{xv:Value}{lo hi mx:Option V}{lov hiv mxv:Option Value}(hx:V.den (ad M φ H) φ H w x xv)
 (s9:match lo,lov with|none,none=>True|some v,some u=>V.den (ad M φ H) φ H w v u|_,_=>False) (tp:match hi,hiv with|none,none=>True|some v,some u=>V.den (ad M φ H) φ H w v u|_,_=>False)
 (wY:match mx,mxv with|none,none=>True|some v,some u=>V.den (ad M φ H) φ H w v u|_,_=>False) (h:bW (lU P H.o t x lo hi mx) K):
 bK M φ H w fr ((do let z <- Instr.sliceAt t xv lov hiv mxv;pure (Next.value z):Sem Next).run P w) K:=by
 unfold lU at h
 split at h
 ·rename_i r hr
  obtain⟨v,Δ,rd⟩:=r
  exact zp hH hx s9 tp wY hr h
 ·exact tq hH hx s9 tp wY h
theorem wZ(hH:af M φ H w){ts:Array TypeId}{ty0:TypeId}{x y:V}{xv yv:Value}(hx:V.den (ad M φ H) φ H w x xv)(hy:V.den (ad M φ H) φ H w y yv)(h:bW (oW P H.o ts x y) K):
 bK M φ H w fr ((do let z <- Builtin.copy_ ts ty0 #[xv,yv];pure (Next.value z):Sem Next).run P w) K:=by
 have hg:=cq h
 clear h
 obtain⟨v,Δ,rd,h,hK⟩:=hg
 unfold oW at h
 split at h
 ·rename_i t t' oL
  have oL:ts=#[t,t']:=by apply Array.ext';simpa using oL
  subst oL
  split at h
  ·rename_i e ht
   split at h
   ·rename_i id off n cs es ER wC
    obtain⟨rfl,ho⟩:=rI ER
    ·split at h
     ·rename_i hc
      obtain⟨c1,c2,c3,c4⟩:=hc
      injection h with h;injection h with e1 e2;injection e2 with e2 e3;subst e1;subst e2;subst e3
      have c3:∀z∈es,z.cells.length=1:=fun z hz=>by simpa using List.all_eq_true.1 c3 z hz
      obtain⟨i,hi⟩:=fI (P:=P) (e:=e) (by omega)
      have cK:(P.info? e).map (·.size)=some 1:=by rw[hi];simp[<- bf hi,c1]
      obtain⟨_,cJ,hp⟩:=hx
      obtain⟨b,cz,rfl⟩:=hp (by rw[ho];rfl)
      have iN:id∉y.ids:=fun hm=>by have:=List.all_eq_true.1 c4 id hm;simp at this
      obtain⟨f1,f2,f3,f4,f5⟩:=cj hH y.ids (b9 y _ hy)
      have kP:=(f4 id iN).trans ho
      have a8:=f1.ok id
      simp only[aq,kP]at a8
      obtain⟨b',bY,ty,g1,g2,g3,g4⟩:=a8
      rw[cz]at g1;simp at g1;subst g1
      have l2:=V.aj _ _ g3
      simp only[Array.length_toList]at l2
      have zq:(b8 H.o y.ids).map (·.1)=y.ids:=by rw[il];simp[Function.comp_def]
      rcases j5 hH hy wC c3 with⟨rfl,rfl⟩|⟨a,c,evs,rfl,k1,k2,k3,k4⟩
      ·have hr:=run_copy_nil (P:=P) w t t' ty0 e ⟨b,off,none⟩ n n (aN ht) (by rw[cK];rfl)
       have same:H.put (b8 H.o y.ids++[(id,aa.row (cs.take off++(([]:List D).take n |>.flatMap D.cells).map .d++cs.drop (off+(([]:List D).take n).length)))])=H.put (b8 H.o y.ids):=by
        rw[cN]
        refine nz _ ((f5 id).2 cJ) ?_
        rw[kP]
        simp
       refine⟨_,goInt 0,w,φ,_,_,_,hK,by simp only[Sem.run_bind,hr,Result.andThen_ok];rfl, .inl rfl,by rw[same];exact f1,by rw[same];exact f2,by simp[V.den,D.den,goInt],fun j hj=> .inl ?_⟩
       rw[List.map_append,zq]at hj
       simp only[List.map_cons,List.map_nil,List.mem_append,List.mem_singleton]at hj
       rcases hj with hj|rfl
       ·exact b9 y _ hy j hj
       ·exact cJ
      ·have hlen:evs.length=es.length:=D.aj _ _ k1
       have NY:=D.aw (f2.blocks (M:=M)) _ _ k1
       have tc:D.ak (ad M φ (H.put (b8 H.o y.ids))) w (es.take n) (evs.take n):=D.cE n _ _ NY
       have zr:∀ev∈evs.take n,ev.cells.size=1:=fun ev cB=>by
        have:=k2 ev (List.mem_of_mem_take cB);omega
       have mO:((evs.take n).flatMap (·.cells.toList)).length=Nat.min es.length n:=by
        rw[cc (sz:=1) _ zr];simp[hlen,Nat.min_comm]
       have pre:∀ (j:Nat) (u:Value),((evs.take n).flatMap (·.cells.toList))[j]? =some u->(evs.flatMap (·.cells.toList))[j]? =some u:=by
        intro j u hj
        have:evs.flatMap (·.cells.toList)=(evs.take n).flatMap (·.cells.toList)++(evs.drop n).flatMap (·.cells.toList):=by rw[<- List.flatMap_append,List.take_append_drop]
        rw[this]
        have br:j<((evs.take n).flatMap (·.cells.toList)).length:=by
         rcases Nat.lt_or_ge j ((evs.take n).flatMap (·.cells.toList)).length with br|re
         ·exact br
         ·rw[List.getElem?_eq_none re]at hj;cases hj
        rw[List.getElem?_append_left br];exact hj
       have ku:Flat ((evs.take n).flatMap (·.cells.toList)):=by
        intro u hu
        simp only[List.mem_flatMap]at hu
        obtain⟨ev,h1,h2⟩:=hu
        exact k4 u (by simp only[List.mem_flatMap];exact⟨ev,List.mem_of_mem_take h1,h2⟩)
       have hr:=run_copy_row (P:=P) w t t' ty0 e b off n n a es.length c bY ty (List.flatMap (fun x:Value=>x.cells.toList) (evs.take n)) (aN ht) cK g2 mO (fun j u hj=>k3 j u (pre j u hj)) (by rw[mO];have:Nat.min es.length n<=n:=Nat.min_le_right _ _;omega) ku
       have zl:V.ak (ad M φ (H.put (b8 H.o y.ids))) φ (H.put (b8 H.o y.ids)) w (((es.take n).flatMap D.cells).map .d) ((evs.take n).flatMap (·.cells.toList)):=by
        have flat:∀ (ds:List D) (us:List Value),D.ak (ad M φ (H.put (b8 H.o y.ids))) w ds us->D.ak (ad M φ (H.put (b8 H.o y.ids))) w (ds.flatMap D.cells) (us.flatMap (·.cells.toList)):=by
         intro ds
         induction ds with
         |nil=>intro us h;simp[D.ak]at h;subst h;rfl
         |cons d ds ih=>
          intro us h
          obtain⟨u,us,rfl,q1,q2⟩:=h
          simp only[List.flatMap_cons]
          exact D.aQ _ _ _ _ (D.dz _ _ q1).1 (ih us q2)
        exact(V.bE _ _).2 (flat _ _ tc)
       have oO:((evs.take n).flatMap (·.cells.toList)).length=(es.take n).length:=by rw[mO];simp[Nat.min_comm]
       obtain⟨t1,t2⟩:=ru (cs':=cs.take off++((es.take n).flatMap D.cells).map .d++cs.drop (off+(es.take n).length)) f1 ((f5 id).2 cJ) kP cz g2
        (bY.toList.take off++(evs.take n).flatMap (·.cells.toList)++bY.toList.drop (off+((evs.take n).flatMap (·.cells.toList)).length)).toArray (by
        simp only
        rw[oO]
        exact V.aQ _ _ _ _ (V.aQ _ _ _ _ (V.cE _ _ _ g3) zl) (V.cX _ _ _ g3)) (by
        intro u hu
        simp only[List.mem_append]at hu
        rcases hu with(hu|hu)|hu
        ·exact g4 u (List.mem_of_mem_take hu)
        ·exact ku u hu
        ·exact g4 u (List.mem_of_mem_drop hu))
       refine⟨_,_,_,φ,_,_,_,hK,by simp only[Sem.run_bind,hr,Result.andThen_ok];rfl, .inl rfl,by rw[cN];exact t1,by rw[cN];exact f2.trans t2, ?_,fun j hj=> .inl ?_⟩
       ·simp only[V.den,D.den,goInt,mO]
       ·rw[List.map_append,zq]at hj
        simp only[List.map_cons,List.map_nil,List.mem_append,List.mem_singleton]at hj
        rcases hj with hj|rfl
        ·exact b9 y _ hy j hj
        ·exact cJ
     ·cases h
   ·cases h
  ·cases h
 ·cases h
theorem p8{t u:TypeId}{f off:Nat}(h:p6 P t f=some (off,u)):∃fs fd,P.underlying t=some (.struct fs)/\fs[f]? =some fd/\fd.offset=off/\fd.type=u:=by
 unfold p6 at h
 split at h
 ·rename_i fs hu
  split at h
  ·rename_i fd hf
   injection h with h;injection h with h1 h2
   exact⟨fs,fd,hu,hf,h1,h2⟩
  ·cases h
 ·cases h
theorem o9{t:TypeId}{cs:List V}{off:Nat}{x:V}(h:dq P t cs off=some x){arr:Array Value}(hd:V.ak (ad M φ H) φ H w cs arr.toList)(hf:Flat arr.toList):
 ∃u,(part t arr off).run P w= .ok u w/\V.den (ad M φ H) φ H w x u:=by
 unfold dq at h
 split at h
 ·rename_i ha
  split at h
  ·rename_i hl
   injection h with h;subst h
   obtain⟨i,hi⟩:=lZ ha
   refine⟨.agg (arr.extract off (off+P.cellsOf t)), ?_,gN _ _ ?_ ?_⟩
   ·simp only[part,Sem.run_bind,lY ha w,Result.andThen_ok,if_true,cG hi w,Sem.run_pure]
   ·have:=V.cE (P.cellsOf t) _ _ (V.cX off _ _ hd)
    simpa[Array.toList_extract,List.extract]using this
   ·intro u hu
    simp only[Array.toList_extract,List.extract]at hu
    exact hf u (List.mem_of_mem_drop (List.mem_of_mem_take hu))
  ·cases h
 ·rename_i ha
  obtain⟨u,hu,zf⟩:=V.cD _ _ _ _ hd h
  refine⟨u, ?_,zf⟩
  have oM:arr[off]? =some u:=by simpa using hu
  simp only[part,Sem.run_bind,jZ ha w,Result.andThen_ok,Bool.false_eq_true,if_false,oM,Sem.run_pure]
 ·cases h
theorem vB(hH:af M φ H w){t:TypeId}{x:V}{xv:Value}{f:Nat}(hx:V.den (ad M φ H) φ H w x xv)(h:bW ((ns P t x f).map fun v=>(v,[],[])) K):
 bK M φ H w fr ((do let z <- Instr.field t xv f;pure (Next.value z):Sem Next).run P w) K:=by
 have hg:=cq h
 clear h
 obtain⟨v,Δ,rd,h,hK⟩:=hg
 simp only[Option.map_eq_some_iff,Prod.mk.injEq]at h
 have hg:=h
 clear h
 obtain⟨v',h,rfl,rfl,rfl⟩:=hg
 unfold ns at h
 split at h
 ·rename_i off u hf
  obtain⟨fs,fd,hu,NZ,rfl,rfl⟩:=p8 hf
  have fin:∀ {arr:Array Value} {val:Value},(part fd.type arr fd.offset).run P w= .ok val w->V.den (ad M φ H) φ H w v' val->bK M φ H w fr ((do let z <- Instr.field t (.agg arr) f;pure (Next.value z):Sem Next).run P w) K:=by
   intro arr val r1 r2
   refine bK.same hH val hK ?_ r2
   simp[Instr.field,run_underlying hu,NZ,asAgg,r1]
  split at h
  ·rename_i cs
   simp only[Option.map_eq_some_iff]at h
   obtain⟨d,h1,rfl⟩:=h
   obtain⟨arr,rfl,g1,g2⟩:=hx
   obtain⟨val,r1,r2⟩:=dZ h1 g1 g2
   exact fin (r1 w) r2
  ·rename_i cs
   obtain⟨arr,rfl,g1,g2⟩:=hx
   obtain⟨val,r1,r2⟩:=o9 h g1 g2
   exact fin r1 r2
  ·cases h
 ·cases h
theorem vC(s:ByteArray)(n:Nat):s[n]? =s.data.toList[n]? :=by
 rw[getElem?_def]
 split
 ·rename_i h
  have h':n<s.data.toList.length:=by simpa using h
  rw[List.getElem?_eq_getElem h']
  rfl
 ·rename_i h
  have h':s.data.toList.length<=n:=by
   have: ¬n<s.data.size:=h
   simpa using this
  rw[List.getElem?_eq_none h']
theorem vE(hH:af M φ H w){t:TypeId}{x i:V}{xv iv:Value}(hx:V.den (ad M φ H) φ H w x xv)(hi:V.den (ad M φ H) φ H w i iv)(h:bW ((nu P t x i).map fun v=>(v,[],[])) K):
 bK M φ H w fr ((do let z <- Instr.index t xv iv;pure (Next.value z):Sem Next).run P w) K:=by
 have hg:=cq h
 clear h
 obtain⟨v,Δ,rd,h,hK⟩:=hg
 simp only[Option.map_eq_some_iff,Prod.mk.injEq]at h
 have hg:=h
 clear h
 obtain⟨v',h,rfl,rfl,rfl⟩:=hg
 unfold nu at h
 split at h
 ·rename_i k i
  simp only[V.den,D.den]at hi
  subst hi
  split at h
  ·rename_i h0
   split at h
   ·rename_i hu
    split at h
    ·rename_i l
     split at h
     ·rename_i b hb
      injection h with h;subst h
      obtain⟨s,rfl,rfl⟩:=hx
      refine bK.same hH (.int .u8 b.toNat) hK ?_ rfl
      have Hx:s[i.toNat]? =some b:=by rw[vC];exact hb
      simp[Instr.index,asIntOf,run_underlying hu,h0,Hx]
     ·cases h
    ·cases h
   ·rename_i n e hu
    split at h
    ·rename_i hn
     obtain⟨h1,h2⟩:=hn
     obtain⟨ie,Iy⟩:=Option.isSome_iff_exists.1 h2
     have hc:0<=i/\i<(n:Int):=⟨h0,h1⟩
     have fin:∀ {arr:Array Value} {val:Value},(part e arr (i.toNat*P.cellsOf e)).run P w= .ok val w->V.den (ad M φ H) φ H w v' val->bK M φ H w fr ((do let z <- Instr.index t (.agg arr) (.int k i);pure (Next.value z):Sem Next).run P w) K:=by
      intro arr val r1 r2
      refine bK.same hH val hK ?_ r2
      simp[Instr.index,asIntOf,run_underlying hu,hc,cG Iy,r1]
     split at h
     ·rename_i cs
      simp only[Option.map_eq_some_iff]at h
      obtain⟨d,h1,rfl⟩:=h
      obtain⟨arr,rfl,g1,g2⟩:=hx
      obtain⟨val,r1,r2⟩:=dZ h1 g1 g2
      exact fin (r1 w) r2
     ·rename_i cs
      obtain⟨arr,rfl,g1,g2⟩:=hx
      obtain⟨val,r1,r2⟩:=o9 h g1 g2
      exact fin r1 r2
     ·cases h
    ·cases h
   ·cases h
  ·cases h
 ·cases h
theorem rJ{t:TypeId}(h:th P t=true):∃d,P.underlying t=some d/\∀ms,d≠ .interface ms:=by
 unfold th at h
 split at h
 ·cases h
 ·rename_i d hn hd
  exact⟨d,hd,fun ms e=>hn ms e⟩
 ·cases h
theorem l0{t:TypeId}{z:V}(hz:zeroV P t=some z):∃val,(zeroValue t).run P w= .ok val w/\V.den (ad M φ H) φ H w z val:=by
 unfold zeroV at hz
 split at hz
 ·rename_i i hi
  have hr:∀v,i.zero=some v->(zeroValue t).run P w= .ok v w:=fun v hv=>by simp[zeroValue,typeInfo,hi,hv]
  split at hz
  ·rename_i a hv
   split at hz
   ·rename_i hf
    injection hz with hz;subst hz
    have DO:Flat a.toList:=fun u hu=>List.all_eq_true.1 hf u hu
    exact⟨_,hr _ hv,gN _ _ (cF _ DO) DO⟩
   ·cases hz
  ·rename_i v _ hv
   split at hz
   ·rename_i h1
    injection hz with hz;subst hz
    exact⟨_,hr _ hv,ig _ h1⟩
   ·cases hz
  ·cases hz
 ·cases hz
theorem tt(hH:af M φ H w){t xt:TypeId}{ok:Bool}{x:V}{xv:Value}(hx:V.den (ad M φ H) φ H w x xv)(h:bW ((kC P t ok x).map fun v=>(v,[],[])) K):
 bK M φ H w fr ((do let z <- Instr.typeAssert xv xt t ok;pure (Next.value z):Sem Next).run P w) K:=by
 have hg:=cq h
 clear h
 obtain⟨v,Δ,rd,h,hK⟩:=hg
 simp only[Option.map_eq_some_iff,Prod.mk.injEq]at h
 have hg:=h
 clear h
 obtain⟨v',h,rfl,rfl,rfl⟩:=hg
 unfold kC at h
 split at h
 ·rename_i hp
  obtain⟨d,hd,iN⟩:=rJ hp
  split at h
  ·rename_i u y
   obtain⟨val,rfl,LJ⟩:=hx
   split at h
   ·rename_i e
    subst e
    injection h with h
    have hr:(Instr.typeAssert (.iface u val) xt u ok).run P w= .ok (if ok=true then .tuple #[val, .bool true]else val) w:=by
     cases d<;>first|exact absurd rfl (iN _)|(cases ok<;>simp[Instr.typeAssert,run_underlying hd])
    refine bK.same hH _ hK (by simp only[Sem.run_bind,hr,Result.andThen_ok];rfl) ?_
    subst h
    cases ok
    ·exact LJ
    ·exact⟨_,rfl,val,[.bool true],rfl,LJ, .bool true,[],rfl,rfl,rfl⟩
   ·rename_i e9
    split at h
    ·rename_i a8
     simp only[Option.map_eq_some_iff]at h
     obtain⟨z,hz,rfl⟩:=h
     obtain⟨zv,r1,r2⟩:=l0 (w:=w) (M:=M) (φ:=φ) (H:=H) hz
     have hr:(Instr.typeAssert (.iface u val) xt t ok).run P w= .ok (.tuple #[zv, .bool false]) w:=by
      cases d<;>first|exact absurd rfl (iN _)|simp[Instr.typeAssert,run_underlying hd,e9,a8,r1]
     exact bK.same hH _ hK (by simp only[Sem.run_bind,hr,Result.andThen_ok];rfl) ⟨_,rfl,zv,[.bool false],rfl,r2, .bool false,[],rfl,rfl,rfl⟩
    ·cases h
  ·simp only[V.den,D.den]at hx
   subst hx
   split at h
   ·rename_i a8
    simp only[Option.map_eq_some_iff]at h
    obtain⟨z,hz,rfl⟩:=h
    obtain⟨zv,r1,r2⟩:=l0 (w:=w) (M:=M) (φ:=φ) (H:=H) hz
    have hr:(Instr.typeAssert .nilIface xt t ok).run P w= .ok (.tuple #[zv, .bool false]) w:=by
     cases d<;>first|exact absurd rfl (iN _)|simp[Instr.typeAssert,run_underlying hd,a8,r1]
    exact bK.same hH _ hK (by simp only[Sem.run_bind,hr,Result.andThen_ok];rfl) ⟨_,rfl,zv,[.bool false],rfl,r2, .bool false,[],rfl,rfl,rfl⟩
   ·cases h
  ·cases h
 ·cases h
end
end Go.Proofs.YtbmnikpknlkbkaaGreat
