/-
  A PART OF THE PROOF. Conditions: none.
-/
import Derived.ChangeKeysEq
import Derived.Test.YtlhemmpklhhgoaaGreatQs2
set_option linter.unusedSimpArgs false
set_option linter.unusedVariables false
namespace Go.Proofs.YtlhemmpklhhgoaaGreat
section
section
variable {P:Program}{M:Nat->Prop}{φ:Place}{H:Hp}{w:World}{fr:Nat}{K:V->List (Nat×ad)->List Nat->Prop}
def ad.fz:ad->ad
 | .arr ep _ _ es=> .tw ep es
 | .map _ _ l=> .bU l
 |o=>o
theorem lR(o:Nat->ad)(ids:List Nat):bL o ids=ids.map fun id=>(id,(o id).fz):=by
 unfold bL
 refine List.map_congr_left fun id _=> ?_
 cases o id<;>rfl
theorem uJ(H:Hp){id:Nat}(hu:H.us id){x:ad}(hx:H.o id=x):H.put [(id,x)]=H:=by
 obtain⟨o,us⟩:=H
 simp only[Hp.put,put,List.foldl_cons,List.foldl_nil,Hp.mk.injEq,List.map_cons,List.map_nil,List.mem_singleton]
 constructor
 ·funext j
  by_cases hj:j=id
  ·subst hj;simpa using hx.symm
  ·simp[hj]
 ·funext j
  simp only[eq_iff_iff]
  exact⟨fun h=>h.elim (fun h=>h) fun e=>e ▸ hu, .inl⟩
theorem qc(o:Nat->ad):∀ (ids:List Nat) (H:Hp),ax M φ H w->(∀id∈ids,H.us id)->(∀id,H.o id=o id\/H.o id=(o id).fz)->
 let H':=H.put (ids.map fun id=>(id,(o id).fz));ax M φ H' w/\Trans φ H w φ H' w/\(∀id∈ids,H'.o id=(o id).fz)/\(∀id,H'.o id=o id\/H'.o id=(o id).fz)/\(∀id,id∉ids->H'.o id=H.o id)/\∀id,H'.us id↔H.us id
 |[],H,hH,_,ho=>by
  simp only[List.map_nil,nT]
  exact⟨hH,Trans.refl _ _ _,aF,ho,aF,aF⟩
 |id::ids,H,hH,hu,ho=>by
  have h1:ax M φ (H.put [(id,(o id).fz)]) w/\Trans φ H w φ (H.put [(id,(o id).fz)]) w:=by
   rcases ho id with h|h
   ·cases hx:o id with
    |arr ep ty sz es=>exact MG hH (hu id aF) (h.trans hx)
    |map kt vt l=>exact yN hH (hu id aF) (h.trans hx)
    |_=>
     rw[uJ H (hu id (by simp)) (h.trans (by rw[hx];rfl))]
     exact⟨hH,Trans.refl _ _ _⟩
   ·rw[uJ H (hu id (by simp)) h]
    exact⟨hH,Trans.refl _ _ _⟩
  have h2:∀j,(H.put [(id,(o id).fz)]).o j=o j\/(H.put [(id,(o id).fz)]).o j=(o j).fz:=by
   intro j
   by_cases hj:j=id
   ·subst hj;right;simp
   ·simpa[hj]using ho j
  have ih:=qc o ids (H.put [(id,(o id).fz)]) h1.1 (fun j hj=>by simp[hu j (by simp[hj])]) h2
  obtain⟨i1,i2,i3,i4,i5,i6⟩:=ih
  have e:H.put ((id::ids).map fun id=>(id,(o id).fz))=(H.put [(id,(o id).fz)]).put (ids.map fun id=>(id,(o id).fz)):=by
   rw[<- dO];rfl
  rw[e]
  refine⟨i1,h1.2.trans i2,fun j hj=> ?_,i4,fun j hj=> ?_,fun j=> ?_⟩
  ·rcases List.mem_cons.1 hj with rfl|hj
   ·by_cases hm:j∈ids
    ·exact i3 j hm
    ·rw[i5 j hm];simp
   ·exact i3 j hj
  ·simp only[List.mem_cons,not_or]at hj
   rw[i5 j hj.2];simp[hj.1]
  ·rw[i6 j,dP]
   exact⟨fun h=>h.elim (fun h=>h) fun e=>e ▸ hu id aF, .inl⟩
theorem cQ(hH:ax M φ H w)(ids:List Nat)(hu:∀id∈ids,H.us id):
 let H':=H.put (bL H.o ids);ax M φ H' w/\Trans φ H w φ H' w/\(∀id∈ids,H'.o id=(H.o id).fz)/\(∀id,id∉ids->H'.o id=H.o id)/\∀id,H'.us id↔H.us id:=by
 rw[lR]
 obtain⟨a,b,c,_,d,e⟩:=qc H.o ids H hH hu (fun _=> .inl rfl)
 exact⟨a,b,c,d,e⟩
mutual
theorem cK:∀ (v:V) (val:Value),V.den (ao M φ H) φ H w v val->∀id∈v.ids,H.us id
 | .osl id ep,_,h,j,hj=>by simp[V.ids]at hj;subst hj;exact h.2.1
 | .mp id,_,h,j,hj=>by simp[V.ids]at hj;subst hj;exact h.2.1
 | .agg cs,_,h,j,hj=>by obtain⟨a,rfl,h,_⟩:=h;exact cS cs _ h j (by simpa[V.ids]using hj)
 | .iface t x,_,h,j,hj=>by obtain⟨u,rfl,h⟩:=h;exact cK x u h j (by simpa[V.ids]using hj)
 | .d _,_,_,_,hj| .aJ,_,_,_,hj| .bT _,_,_,_,hj| .ptr _ _,_,_,_,hj| .pe _ _ _ _ _,_,_,_,hj| .pp _ _,_,_,_,hj| .func _ _ _,_,_,_,hj| .aa,_,_,_,hj| .q9 _,_,_,_,hj| .xn _ _ _,_,_,_,hj| .fH,_,_,_,hj| .j7 _,_,_,_,hj=>by simp[V.ids]at hj
theorem cS:∀ (vs:List V) (vals:List Value),V.aC (ao M φ H) φ H w vs vals->∀id∈V.br vs,H.us id
 |[],_,_,j,hj=>by simp[V.br]at hj
 |v::vs,_,h,j,hj=>by
  obtain⟨u,us,rfl,h1,h2⟩:=h
  rcases List.mem_append.1 (show j∈v.ids++V.br vs from hj)with hj|hj
  ·exact cK v u h1 j hj
  ·exact cS vs us h2 j hj
end
mutual
theorem eT(hH:ax M φ H w){o:Nat->ad}:∀ (v:V) (x:D) (val:Value),(∀id∈v.ids,H.o id=(o id).fz)->dU o v=some x->V.den (ao M φ H) φ H w v val->D.den (ao M φ H) w x val
 | .d y,x,val,_,h,hd=>by simp[dU]at h;subst h;exact hd
 | .aJ,x,val,_,h,hd=>by
   simp[dU]at h;subst h
   simp only[V.den]at hd;subst hd
   exact XT
 | .osl id ep,x,val,ho,h,hd=>by
   obtain⟨_,_,hd⟩:=hd
   have ho:=ho id (by simp[V.ids])
   have aW:=hH.ok id
   simp only[dU]at h
   cases hx:o id with
   |no=>simp[hx]at h
   |row cs=>simp[hx]at h
   |map kt vt l=>simp[hx]at h
   |loop nf n env ps jr eR st GU=>simp[hx]at h
   |bU l=>simp[hx]at h
   |ra l last=>simp[hx]at h
   |yI s pos=>simp[hx]at h
   |arr e7 ty sz es=>
    simp only[hx]at h ho
    split at h
    ·rename_i e;subst e;injection h with h;subst h
     exact YD
    ·cases h
   |tw e7 es=>
    simp only[hx]at h ho
    split at h
    ·rename_i e;subst e;injection h with h;subst h
     exact YD
    ·cases h
 | .mp id,x,val,ho,h,hd=>by
   obtain⟨_,_,hd⟩:=hd
   have ho:=ho id (by simp[V.ids])
   have aW:=hH.ok id
   simp only[dU]at h
   cases hx:o id with
   |map kt vt l=>
    exact Yh
   |bU l=>
    exact Yh
   |_=>simp[hx]at h
 | .agg cs,x,val,ho,h,hd=>by
   simp only[dU,Option.map_eq_some_iff]at h
   obtain⟨ds,h1,rfl⟩:=h
   obtain⟨a,rfl,h2,h3⟩:=hd
   exact⟨a,rfl,df hH cs ds _ (fun id au=>ho id (by simpa[V.ids]using au)) h1 h2,h3⟩
 | .iface t y,x,val,ho,h,hd=>by
   simp only[dU,Option.map_eq_some_iff]at h
   obtain⟨z,h1,rfl⟩:=h
   obtain⟨u,rfl,h2⟩:=hd
   exact⟨u,rfl,eT hH y z u (fun id au=>ho id (by simpa[V.ids]using au)) h1 h2⟩
 | .bT _,_,_,_,h,_| .ptr _ _,_,_,_,h,_| .pe _ _ _ _ _,_,_,_,h,_| .pp _ _,_,_,_,h,_| .func _ _ _,_,_,_,h,_| .aa,_,_,_,h,_| .xn _ _ _,_,_,_,h,_| .fH,_,_,_,h,_| .j7 _,_,_,_,h,_=>by simp[dU]at h
 | .q9 es,x,val,_,h,hd=>by simp[dU]at h;subst h;exact hd.1
theorem df(hH:ax M φ H w){o:Nat->ad}:∀ (vs:List V) (xs:List D) (vals:List Value),(∀id∈V.br vs,H.o id=(o id).fz)->bZ o vs=some xs->V.aC (ao M φ H) φ H w vs vals->D.aC (ao M φ H) w xs vals
 |[],xs,vals,_,h,hd=>by simp[bZ]at h;subst h;exact hd
 |v::vs,xs,vals,ho,h,hd=>by
  simp only[bZ,Option.bind_eq_some_iff,Option.map_eq_some_iff]at h
  obtain⟨x,h1,ys,h2,rfl⟩:=h
  obtain⟨u,us,rfl,h3,h4⟩:=hd
  exact⟨u,us,rfl,eT hH v x u (fun id au=>ho id (by simp[V.br,au])) h1 h3,df hH vs ys us (fun id au=>ho id (by simp[V.br,au])) h2 h4⟩
end
theorem sO(hH:ax M φ H w)(c8: ¬H.us fr){s:Sem Value}(cs:List V)(dM:Array Value)(ty:TypeId)(hK:K (.ptr fr 0) [(fr, .row cs)] [])
 (hr:s.run P w= .ok (.pointer (some ⟨w.heap.size,0,none⟩)) (w.alloc (.cells dM ty))) (hd:V.aC (ao M φ H) φ H w cs dM.toList) (hf:Flat dM.toList):
 cC M φ H w fr ((do let y <- s;pure (Next.value y):Sem Next).run P w) K:=by
 obtain⟨h1,h2,h3⟩:=MF hH c8 cs dM ty hd hf
 exact OI
theorem GX(hH:ax M φ H w)(c8: ¬H.us fr){t:TypeId}(h:∃cs,cq P t=some cs/\K (.ptr fr 0) [(fr, .row cs)] []):
 cC M φ H w fr ((do let y <- Instr.alloc t true (.tuple #[]);pure (Next.value y):Sem Next).run P w) K:=by
 obtain⟨cs,hz,hK⟩:=h
 obtain⟨i,v,h1,h2,h3,h4,rfl⟩:=jw hz
 refine sO hH c8 _ v.cells t hK ?_ (dy _ h4) h4
 simp[Instr.alloc,zeroValue,typeInfo,h1,h2,newVar,newRow]
theorem ML(hH:ax M φ H w)(c8: ¬H.us fr){t:TypeId}{x:V}{xv:Value}(hx:V.den (ao M φ H) φ H w x xv)(h:∃cs,x.cells=some cs/\K (.ptr fr 0) [(fr, .row cs)] []):
 cC M φ H w fr ((do let y <- Instr.box t xv;pure (Next.value y):Sem Next).run P w) K:=by
 obtain⟨cs,hc,hK⟩:=h
 obtain⟨h1,h2⟩:=V.nS x xv cs hc hx
 refine sO hH c8 _ xv.cells t hK ?_ h1 h2
 simp[Instr.box,newVar,newRow]
theorem GY(off:Nat):∀ (us:List Value) (cells:Array Value),off+us.length<=cells.size->
 ((us.zipIdx.foldl (fun cs (p:Value×Nat)=>cs.setIfInBounds (off+p.2) p.1) cells)).toList=cells.toList.take off++us++cells.toList.drop (off+us.length):=by
 have key:∀ (us:List Value) (k:Nat) (cells:Array Value),off+k+us.length<=cells.size->
  (((us.zipIdx k).foldl (fun cs (p:Value×Nat)=>cs.setIfInBounds (off+p.2) p.1) cells)).toList=cells.toList.take (off+k)++us++cells.toList.drop (off+k+us.length):=by
  intro us
  induction us with
  |nil=>intro k cells h;simp
  |cons u us ih=>
   intro k cells h
   simp only[List.zipIdx_cons,List.foldl_cons]
   rw[ih (k+1) _ (by simp at h|-;omega)]
   simp only[Array.toList_setIfInBounds,List.length_cons]
   have b8:off+k<cells.toList.length:=by simp at h|-;omega
   rw[show off+(k+1)=off+k+1 by omega,List.take_set,List.take_succ_eq_append_getElem b8,List.set_append_right _ _ (by simp;omega)]
   simp only[List.length_take]
   rw[show min (off+k) cells.toList.length=off+k by omega,Nat.sub_self]
   simp only[List.set_cons_zero,List.append_assoc,List.cons_append,List.nil_append]
   rw[List.drop_set_of_lt (by omega)]
   congr 3
   rw[show off+k+1+us.length=off+k+(us.length+1) by omega]
 intro us cells h
 have:=key us 0 cells (by simpa using h)
 simpa using this
theorem AY(places:List (Nat×Nat)):∀ (parts:List (Nat×V)) (lS:List (Nat×Value)) (cs cs':List V) (cells:Array Value),
 lS.map (·.1)=parts.map (·.1)->V.aC (ao M φ H) φ H w (parts.map (·.2)) (lS.map (·.2))->V.aC (ao M φ H) φ H w cs cells.toList->Flat cells.toList->sM places cs parts=some cs'->
 ∃gU,(∀place:Nat->Option (Nat×Nat),(∀i p,places[i]? =some p->place i=some p)->Instr.fill place cells lS=some gU)/\V.aC (ao M φ H) φ H w cs' gU.toList/\Flat gU.toList
 |[],lS,cs,cs',cells,h1,_,h3,h4,h=>by
  cases lS with
  |nil=>simp[sM]at h;subst h;exact⟨cells,fun _ _=>rfl,h3,h4⟩
  |cons a l=>simp at h1
 |(i,v)::parts,lS,cs,cs',cells,h1,h2,h3,h4,h=>by
  cases lS with
  |nil=>simp at h1
  |cons a lS=>
   obtain⟨i',val⟩:=a
   simp only[List.map_cons,List.cons.injEq]at h1
   obtain⟨rfl,h1⟩:=h1
   simp only[List.map_cons]at h2
   obtain⟨u,us,e,h5,h6⟩:=h2
   simp only[List.cons.injEq]at e
   obtain⟨rfl,rfl⟩:=e
   simp only[sM]at h
   split at h
   ·rename_i off size us wz hc
    split at h
    ·rename_i dK
     obtain⟨g1,g2⟩:=V.nS v _ us hc h5
     have hl:=V.aA _ _ g1
     have hl3:=V.aA _ _ h3
     have hs:=GY off val.cells.toList cells (by simp at hl hl3|-;omega)
     rw[Array.length_toList]at hl hl3
     have ih:=AY places parts lS _ cs' (val.cells.toList.zipIdx.foldl (fun cs (p:Value×Nat)=>cs.setIfInBounds (off+p.2) p.1) cells) h1 h6 (by
      rw[hs]
      refine V.bu _ _ _ _ (V.bu _ _ _ _ (V.cG _ _ _ h3) g1) ?_
      rw[show val.cells.toList.length=us.length by simpa using hl]
      exact V.dZ _ _ _ h3) (by
      rw[hs]
      intro x hx
      simp only[List.mem_append]at hx
      rcases hx with(hx|hx)|hx
      ·exact h4 x (List.mem_of_mem_take hx)
      ·exact g2 x hx
      ·exact h4 x (List.mem_of_mem_drop hx)) h
     obtain⟨gU,i1,i2⟩:=ih
     refine⟨gU,fun place hp=> ?_,i2⟩
     have i1:=i1 place hp
     simp only[Instr.fill,hp _ _ wz]
     rw[if_neg (by simp;omega), <- i1]
     have e:∀ (c:Array Value),c.zipIdx.foldl (fun cs (x:Value×Nat)=>cs.setIfInBounds (off+x.2) x.1) cells=c.toList.zipIdx.foldl (fun cs (x:Value×Nat)=>cs.setIfInBounds (off+x.2) x.1) cells:=by
      intro c;rw[<- Array.foldl_toList,Array.toList_zipIdx]
     rw[<- e]
    ·cases h
   ·cases h
theorem AZ{t:TypeId}{pl:List (Nat×Nat)}(h:cY P t=some pl)(parts:List (Nat×Value))(cells gU:Array Value){i:TypeInfo}{z:Value}(hi:P.info? t=some i)(hz:i.zero=some z)(hc:z.cells=cells)
 (hf:∀place:Nat->Option (Nat×Nat),(∀i p,pl[i]? =some p->place i=some p)->Instr.fill place cells parts=some gU):
 P.built t parts=some gU:=by
 subst hc
 unfold cY at h
 unfold Program.built
 cases hd:P.underlying t with
 |none=>simp[hd]at h
 |some d=>
  cases d<;>simp only[hd]at h<;>try (cases h;done)
  case struct fs=>
   simp only[Option.ite_none_right_eq_some,Option.some.injEq]at h
   obtain⟨bf,rfl⟩:=h
   have hm:fs.toList.mapM (fun f=>(P.info? f.type).map fun i=>(f.offset,i.size))=some (fs.toList.map fun f=>(f.offset,P.cellsOf f.type)):=by
    generalize fs.toList=l at bf
    clear hf
    induction l with
    |nil=>rfl
    |cons f l ih=>
     simp only[List.all_cons,Bool.and_eq_true]at bf
     obtain⟨j,hj⟩:=Option.isSome_iff_exists.1 bf.1
     simp[List.mapM_cons,ih bf.2,hj,bM hj]
   simp only[hi,hz,hm]
   exact hf _ aF
  case array n e=>
   simp only[Option.ite_none_right_eq_some,Option.some.injEq]at h
   obtain⟨bf,rfl⟩:=h
   obtain⟨j,hj⟩:=Option.isSome_iff_exists.1 bf
   simp only[hi,hz,hj]
   refine hf _ fun k p hp=> ?_
   rw[List.getElem?_map]at hp
   simp only[Option.map_eq_some_iff]at hp
   obtain⟨a,h1,rfl⟩:=hp
   rw[List.getElem?_range]at h1
   ·injection h1 with h1;subst h1;rw[bM hj]
   ·rcases Nat.lt_or_ge k n with hn|hn
    ·exact hn
    ·rw[List.getElem?_eq_none (by simpa using hn)]at h1;cases h1
theorem GZ(hH:ax M φ H w){t:TypeId}{parts:Array (Nat×Operand)}{s:S}{a:Act}(dW:∀i,V.den (ao M φ H) φ H w (s.env i) (a.tmps.getD i undef))
 (h:∃z pl cs,cq P t=some z/\cY P t=some pl/\sM pl z (parts.toList.map fun p=>(p.1,s.ev p.2))=some cs/\K (mn cs) [] []):
 cC M φ H w fr ((do let y <- Instr.build t (parts.map fun(i,x)=>(i,a.eval x));pure (Next.value y):Sem Next).run P w) K:=by
 obtain⟨z,pl,cs,hz,wz,mJ,hK⟩:=h
 obtain⟨i,zv,h1,h2,h3,h4,rfl⟩:=jw hz
 have hd:V.aC (ao M φ H) φ H w ((parts.toList.map fun p=>(p.1,s.ev p.2)).map (·.2)) ((parts.map fun(i,x)=>(i,a.eval x)).toList.map (·.2)):=by
  have:=j9 s a dW (parts.toList.map (·.2))
  simpa[Function.comp_def]using this
 have he:(parts.map fun(i,x)=>(i,a.eval x)).toList.map (·.1)=(parts.toList.map fun p=>(p.1,s.ev p.2)).map (·.1):=by simp[Function.comp_def]
 obtain⟨gU,g1,g2,g3⟩:=AY (M:=M) (φ:=φ) (H:=H) (w:=w) pl _ _ _ cs zv.cells he hd (dy _ h4) h4 mJ
 have hb:P.built t (parts.map fun(i,x)=>(i,a.eval x)).toList=some gU:=AZ wz _ zv.cells gU h1 h2 rfl g1
 exact cC.plain hH (.agg gU) hK (run_build w t _ gU hb) (lg _ _ g2 g3)
end
end
section
section
variable {P:Program}{M:Nat->Prop}{φ:Place}{H:Hp}{w w':World}{fr:Nat}{K:V->List (Nat×ad)->List Nat->Prop}
theorem qd{base:Nat}{e:TypeId}{sz n:Nat}{v:Value}{xs:List Value}(h:w.ownsRow base e sz v n xs):w.ownsRow 0 e sz v n xs:=by
 obtain⟨h1,h2⟩:=h
 refine⟨h1, ?_⟩
 rcases h2 with h2|⟨g,cap,cur,a,_,b⟩
 ·exact .inl h2
 ·exact .inr ⟨g,cap,cur,a,Nat.zero_le _,b⟩
theorem ke{base:Nat}{e:TypeId}{sz n:Nat}{v:Value}{xs:List Value}(h:w.ownsRow base e sz v n xs)(b:Nat)(hb:dT v=some b):base<=b/\b<w.heap.size:=by
 rcases h.2 with⟨rfl,_⟩|⟨g,cap,cur,rfl,h1,h2,_⟩
 ·cases hb
 ·simp[dT]at hb;subst hb
  exact⟨h1,(Array.getElem?_eq_some_iff.1 h2).1⟩
theorem eh.mono {B B':Nat->Prop}(hb:∀b,cP w b-> ¬B b->w'.heap[b]? =w.heap[b]? /\ ¬B' b){sz:Nat}{es:List D}{xs:List Value}(h:eh B w sz es xs):eh B' w' sz es xs:=by
 obtain⟨evs,h1,h2,h3⟩:=h
 exact⟨evs,h1,h2,D.aT hb es evs h3⟩
theorem Fa(hH:ax M φ H w)(c8: ¬H.us fr)(hk:dV (fun _=>False) w w'){val:Value}{ty:TypeId}{sz:Nat}{es:List D}{xs:List Value}(dK:0<sz)
 (du:w'.ownsRow w.heap.size ty sz val es.length xs) (hd:eh (ao M φ H) w sz es xs):
 let aE:=az φ fr val;let H':=H.put [(fr, .arr 0 ty sz es)]
 ax M aE H' w'/\Trans φ H w aE H' w'/\V.den (ao M aE H') aE H' w' (.osl fr 0) val:=by
 intro aE H'
 have ht:Trans φ H w aE H' w':=dz hk c8 _ _ fun b hb=>(ke du b hb).1
 refine⟨iz hH hk c8 _ _ (ke du) ?_,ht, ?_,by simp[H'],fun e he=> ?_⟩
 ·unfold aO
  simp only[bC,aH,if_true]
  exact⟨dK,xs,qd du,hd.mono (ht.blocks (M:=M))⟩
 ·rcases du.2 with⟨rfl,_⟩|⟨g,cap,cur,rfl,_⟩<;>rfl
 ·exact Pf
theorem eJ(hH:ax M φ H w)(c8: ¬H.us fr)(hk:dV (fun _=>False) w w'){s:Sem Value}{val:Value}{ty:TypeId}{sz:Nat}{es:List D}{xs:List Value}{rd:List Nat}(dK:0<sz)
 (hK:K (.osl fr 0) [(fr, .arr 0 ty sz es)] rd) (hr:s.run P w= .ok val w') (du:w'.ownsRow w.heap.size ty sz val es.length xs) (hd:eh (ao M φ H) w sz es xs):
 cC M φ H w fr ((do let y <- s;pure (Next.value y):Sem Next).run P w) K:=by
 obtain⟨h1,h2,h3⟩:=Fa hH c8 hk dK du hd
 exact OI
theorem jA{e:TypeId}(h:0<P.cellsOf e):∃i,P.info? e=some i:=by
 cases hi:P.info? e with
 |none=>simp[Program.cellsOf,hi]at h
 |some i=>exact⟨i,rfl⟩
theorem A0(parts:List (Nat×Value))(n:Nat)(h:parts.map (·.1)=List.range n):parts=((parts.map (·.2)).zipIdx 0).map fun x=>(x.2,x.1):=by
 apply List.ext_getElem?
 intro i
 have hl:parts.length=n:=by have:=congrArg List.length h;simpa using this
 rw[List.getElem?_map,List.getElem?_zipIdx,List.getElem?_map]
 cases hp:parts[i]? with
 |none=>simp
 |some p=>
  have h1:(parts.map (·.1))[i]? =some p.1:=by simp[hp]
  rw[h,List.getElem?_range (by have:=(List.getElem?_eq_some_iff.1 hp).1;omega)]at h1
  simp at h1
  obtain⟨p1,p2⟩:=p
  simp_all
theorem tC{t e:TypeId}(ht:P.underlying t=some (.slice e))(fe:0<P.cellsOf e):(Instr.buildSlice t 0 #[]).run P w= .ok (.slice (some ⟨w.heap.size,0,none⟩) 0 0) (w.alloc (.cells #[] e)):=by
 obtain⟨i,hi⟩:=jA fe
 have h1:(underlying t).run P w= .ok (.slice e) w:=by simp[Go.underlying,ht]
 have h2:(sizeOf e).run P w= .ok i.size w:=by simp[Go.sizeOf,Go.typeInfo,hi]
 simp[Instr.buildSlice,h1,h2,Instr.fill,newRow]
 congr 2
 exact Array.eq_empty_of_size_eq_zero aF
theorem uK(hH:ax M φ H w)(c8: ¬H.us fr){t:TypeId}{len:Nat}{parts:Array (Nat×Operand)}{s:S}{a:Act}(dW:∀i,V.den (ao M φ H) φ H w (s.env i) (a.tmps.getD i undef))
 (h:iB P H.o fr t len (parts.toList.map fun p=>(p.1,s.ev p.2)) K):
 cC M φ H w fr ((do let y <- Instr.buildSlice t len (parts.map fun(i,x)=>(i,a.eval x));pure (Next.value y):Sem Next).run P w) K:=by
 unfold iB at h
 split at h
 ·rename_i e ht
  rcases h with⟨rfl,hp0,fe,hK⟩|⟨ac5,hz,hlen,fe,tQ,ds,eP,hw,hK⟩
  ·have uy:parts=#[]:=by
    have:=congrArg List.length hp0
    simp at this
    exact this
   subst uy
   have du:=World.ownsRow_lit (base:=w.heap.size) (e:=e) (size:=P.cellsOf e) w #[] 0 (Nat.le_refl _) (Nat.zero_le _) aF
   exact eJ hH c8 (cc w _) fe hK (by simpa using tC (w:=w) (bp ht) fe) du ⟨[],rfl,aF,rfl⟩
  obtain⟨z,hz⟩:=Option.isSome_iff_exists.1 hz
  obtain⟨ie,zv,h1,h2,h3,h4,_⟩:=jw hz
  have hd:V.aC (ao M φ H) φ H w ((parts.toList.map fun p=>(p.1,s.ev p.2)).map (·.2)) ((parts.map fun(i,x)=>(i,a.eval x)).toList.map (·.2)):=by
   have:=j9 s a dW (parts.toList.map (·.2))
   simpa[Function.comp_def]using this
  have Jv:(parts.map fun(i,x)=>(i,a.eval x)).toList.map (·.1)=List.range len:=by
   rw[<- ac5];simp[Function.comp_def]
  generalize hvp:(parts.map fun(i,x)=>(i,a.eval x)).toList=vp at hd Jv
  generalize Py:(parts.toList.map fun p=>(p.1,s.ev p.2)).map (·.2)=sp at hd eP hK
  obtain⟨f1,f2,f3,f4,f5⟩:=cQ hH (V.br sp) (cS sp _ hd)
  have hd1:=V.aT f2 _ _ hd
  have xz:=df f1 sp ds _ f3 eP hd1
  have dK:∀v∈vp.map (·.2),v.cells.size=P.cellsOf e:=by
   intro v hv
   obtain⟨i,hi⟩:=List.mem_iff_getElem?.1 hv
   have hl:=D.aA _ _ xz
   have b8:i<ds.length:=by rw[<- hl];exact(List.getElem?_eq_some_iff.1 hi).1
   obtain⟨v',pN,Jw⟩:=D.dc _ _ i ds[i] xz (by simp[b8])
   rw[hi]at pN;injection pN with pN;subst pN
   have:=D.aA _ _ (D.eS _ _ Jw).1
   rw[hw _ (List.getElem_mem b8)]at this
   simpa using this
  have hvl:vp.length=len:=by have:=congrArg List.length Jv;simpa using this
  have YM:Instr.fill (fun i=>some (i*ie.size,ie.size)) ((Array.range (len*ie.size)).map (zv.cells[· %zv.cells.size]!)) vp=some ((vp.map (·.2)).flatMap fun v=>v.cells.toList).toArray:=by
   rw[<- bM h1]
   have:=Great.fill_whole fe (vp.map (·.2)) ((Array.range (len*P.cellsOf e)).map (zv.cells[· %zv.cells.size]!)) dK (by simp[hvl])
   rwa [<- A0 vp len Jv]at this
  have eU:=run_buildSlice (P:=P) w t e len (parts.map fun(i,x)=>(i,a.eval x)) _ ie zv (bp ht) h1 h2 (by rw[<- bM h1];omega) (by rw[<- bM h1];have:=Nat.mul_pos hlen fe;omega) (by rw[hvp];exact YM)
  have hdl:=D.aA _ _ xz
  have du:=World.ownsRow_lit (base:=w.heap.size) (e:=e) (size:=P.cellsOf e) w ((vp.map (·.2)).flatMap fun v=>v.cells.toList).toArray len (Nat.le_refl _) (by have:=Nat.le_mul_of_pos_right len fe;simp[maxLen];omega) (by
   have:∀l:List Value,(∀v∈l,v.cells.size=P.cellsOf e)->(l.flatMap fun v=>v.cells.toList).length=l.length*P.cellsOf e:=by
    intro l
    induction l with
    |nil=>simp
    |cons x l ih=>intro hx;simp[hx x (by simp),ih (fun v hv=>hx v (by simp[hv])),Nat.add_mul,Nat.add_comm]
   have:=this (vp.map (·.2)) dK
   simpa[hvl]using this)
  have oN:len=ds.length:=by rw[<- hdl];simp[hvl]
  obtain⟨g1,g2,g3⟩:=Fa (ty:=e) (sz:=P.cellsOf e) (es:=ds) f1 (fr:=fr) (fun hu=>c8 ((f5 fr).1 hu)) (cc w _) fe (by rw[<- oN];exact du) ⟨vp.map (·.2),aF,dK,xz⟩
  rw[<- dO]at g1 g2 g3
  refine⟨_,_,_,_,_,_,_,hK,by simp only[Sem.run_bind,eU,Result.andThen_ok];rfl, .inl rfl,g1,f2.trans g2,g3,fun id au=> ?_⟩
  simp only[List.map_append,List.mem_append,List.map_cons,List.map_nil,List.mem_singleton]at au
  rcases au with au|au
  ·left
   refine cS sp _ hd id ?_
   rw[lR]at au
   simpa[Function.comp_def]using au
  ·exact .inr au
 ·exact h.elim
theorem mS:∀ (vs:List Value),V.br (vs.map V.de)=[]
 |[]=>rfl
 |v::vs=>by
  have h:(V.de v).ids=[]:=by cases v<;>simp only[V.de,V.ids]<;>split<;>rfl
  simp[V.br,h,mS vs]
theorem xA(hH:ax M φ H w){e:TypeId}{x:D}(h:AM P e=some x):∃i z ev,P.info? e=some i/\i.zero=some z/\z.cells.size=i.size/\Flat z.cells.toList/\ev.cells=z.cells/\D.den (ao M φ H) w x ev:=by
 unfold AM at h
 split at h
 ·rename_i zs hz
  obtain⟨i,z,h1,h2,h3,h4,rfl⟩:=jw hz
  have key:∀ds,bZ (fun _=> .no) (z.cells.toList.map V.de)=some ds->D.aC (ao M φ H) w ds z.cells.toList:=fun ds eP=>
   df hH _ _ _ (by rw[mS];simp) eP (dy _ h4)
  split at h
  ·rename_i ds eP Dl
   injection h with h;subst h
   exact⟨i,z, .agg z.cells,h1,h2,h3,h4,rfl,z.cells,rfl,key ds eP,h4⟩
  ·rename_i y eP Dl
   injection h with h;subst h
   obtain⟨u,us,h5,h6,h7⟩:=key _ eP
   simp only[D.aC]at h7;subst h7
   have GW:=h4 u (by rw[h5];simp)
   have hu:u.cells=#[u]:=by cases u<;>simp_all[Value.oneCell',Value.cells]
   refine⟨i,z,u,h1,h2,h3,h4, ?_,h6⟩
   rw[hu];apply Array.ext';simpa using h5.symm
  ·cases h
 ·cases h
theorem mT(z:Value)(n:Nat):(madeCells z.cells (n*z.cells.size)).toList=(List.replicate n z).flatMap (·.cells.toList):=by
 apply List.ext_getElem?
 intro i
 by_cases h0:z.cells.size=0
 ·have:z.cells.toList=[]:=by simpa using h0
  simp[madeCells,h0]
 ·have fe:0<z.cells.size:=af
  by_cases hi:i<n*z.cells.size
  ·have hd:i/z.cells.size<n:=Nat.div_lt_of_lt_mul (by rwa [Nat.mul_comm]at hi)
   have hm:=Nat.mod_lt i fe
   have:=mR z.cells.size (List.replicate n z) (i/z.cells.size) (i%z.cells.size) z z.cells[i%z.cells.size] (fun x hx=>by rw[(List.mem_replicate.1 hx).2]) (by simp[hd]) (by simp[hm])
   rw[Nat.mul_comm,Nat.div_add_mod]at this
   rw[this]
   simp[madeCells,List.getElem?_range hi,hm]
  ·have h1:(madeCells z.cells (n*z.cells.size)).toList.length=n*z.cells.size:=by simp[madeCells]
   have h2:((List.replicate n z).flatMap (·.cells.toList)).length=n*z.cells.size:=by simp[List.flatMap_replicate]
   rw[List.getElem?_eq_none (by omega),List.getElem?_eq_none (by omega)]
theorem wN(hH:ax M φ H w)(c8: ¬H.us fr){t:TypeId}{l c:V}{lv cv:Value}(hl:V.den (ao M φ H) φ H w l lv)(hc:V.den (ao M φ H) φ H w c cv)
 (h:ju P fr t l c fun v Δ=>K v Δ []):cC M φ H w fr ((do let y <- Instr.makeSlice t lv cv;pure (Next.value y):Sem Next).run P w) K:=by
 unfold ju at h
 split at h
 ·rename_i e kl n kc m ht
  obtain⟨rfl,h0,fe,hb,hn,x,hx,hK⟩:=h
  simp only[V.den,D.den]at hl hc;subst hl;subst hc
  obtain⟨i,z,ev,h1,h2,h3,h4,h5,h6⟩:=xA hH hx
  obtain⟨k,rfl⟩:=Int.eq_ofNat_of_zero_le h0
  simp only[Int.toNat_natCast]at hb hn hK
  rw[lQ h1]at hb
  obtain⟨w',r1,r2,r3⟩:=run_make_full (P:=P) w w.heap.size t e i z (P.cellsOf e) (bp ht) h1 h2 (bM h1).symm kl kc k af (by simp[maxLen];omega) (Nat.le_refl _)
  refine eJ hH c8 (lP r3) fe hK r1 (by simpa using r2) ⟨List.replicate k ev, ?_, ?_, ?_⟩
  ·rw[bM h1, <- h3,mT]
   simp[List.flatMap_replicate,h5]
  ·intro v hv
   rw[(List.mem_replicate.1 hv).2,h5,h3,bM h1]
  ·clear r1 r2 hK hb hn
   induction k with
   |zero=>rfl
   |succ k ih=>exact⟨ev,List.replicate k ev,rfl,h6,ih af⟩
 ·exact h.elim
theorem tD(w:World)(t u ty e:TypeId)(i:TypeInfo)(z:Value)(ht:P.underlying t=some (.slice e)){k0:IntKind}(hu:P.underlying u=some (.int k0))(hi:P.info? e=some i)(hz:i.zero=some z)(fe:0<i.size)
 (k:IntKind) (n:Nat) (h0:0<n) (h63:n<=1099511627776) (h48:n*i.bytes<=1099511627776):
 (Builtin.append_ #[t,u] ty #[.slice none 0 0, .int k n]).run P w=
  .ok (.slice (some ⟨w.heap.size,0,none⟩) n (grownCap w n 0 e)) (w.drew.alloc (.cells (Builtin.zeroCells z.cells n++Builtin.zeroCells z.cells (grownCap w n 0 e - n)) e)):=by
 have hn:n≠0:=af
 have Iv: ¬ (n*i.size=0):=by
  intro h
  rcases Nat.mul_eq_zero.1 h with h|h<;>omega
 have hwr:IntKind.i64.wrap (n:Int)=n:=by
  unfold IntKind.wrap
  have e1:((2:Int)^IntKind.i64.bits)=18446744073709551616:=bV
  have e2:((2:Int)^(IntKind.i64.bits - 1))=9223372036854775808:=bV
  have e3:IntKind.i64.signed=true:=rfl
  simp only[e1,e2,e3]
  have h1:(n:Int)%18446744073709551616=n:=Int.emod_eq_of_lt af af
  rw[h1]
  split<;>simp_all<;>omega
 have ac6: ¬ (9223372036854775807<(n:Int)):=af
 have SC: ¬ (281474976710656<(n:Int)*(i.bytes:Int)):=by
  have h5:((n*i.bytes:Nat):Int)<=(1099511627776:Nat):=Int.ofNat_le.2 h48
  rw[Int.natCast_mul]at h5;omega
 have ac7: ¬ (281474976710656<Builtin.nextslicecap n 0*i.bytes):=by rw[nextslicecap_zero h0];omega
 simp[Builtin.append_,run_underlying ht,run_underlying hu,sizeOf,typeInfo,zeroValue,hi,hz,Builtin.lenOf,hn,Iv,hwr,ac6,ac7,SC,Question.forced,run_firstCells_none,newRow,grownCap,asInt,asIntOf]
 intro h;omega
theorem Jx(hH:ax M φ H w)(c8: ¬H.us fr){ts:Array TypeId}{ty0:TypeId}{x y:V}{xv yv:Value}(hx:V.den (ao M φ H) φ H w x xv)(hy:V.den (ao M φ H) φ H w y yv)
 (h:cU (xr P fr ts x y) K):cC M φ H w fr ((do let z <- Builtin.append_ ts ty0 #[xv,yv];pure (Next.value z):Sem Next).run P w) K:=by
 unfold xr at h
 split at h
 ·rename_i t t' wO
  have wO:ts=#[t,t']:=by apply Array.ext';simpa using wO
  subst wO
  split at h
  ·exact h.elim
  ·split at h
   ·rename_i e ht
    split at h
    ·rename_i k0 kk n hu
     split at h
     ·rename_i hc
      obtain⟨c1,c2,c3,c4⟩:=hc
      split at h
      ·rename_i x0 hx0
       simp only[V.den,D.den]at hx hy;subst hx;subst hy
       obtain⟨i,z,ev,h1,h2,h3,h4,h5,h6⟩:=xA hH hx0
       obtain⟨k,rfl⟩:=Int.eq_ofNat_of_zero_le (Int.le_of_lt c1)
       simp only[Int.toNat_natCast]at c3 c4 h
       have Ay:P.underlying t'=some (.int k0):=by
        unfold tz at hu
        split at hu
        ·rename_i k1 hk;injection hu with hu;subst hu;exact hk
        ·cases hu
       have hr:=tD (P:=P) w t t' ty0 e i z (bp ht) Ay h1 h2 (by rw[<- bM h1];exact c2) kk k af af (by rw[<- lQ h1];omega)
       have Am:=grownCap_ge w k 0 e
       have dK:z.cells.size=P.cellsOf e:=by rw[bM h1, <- h3]
       have Jy:(Builtin.zeroCells z.cells k).toList=(List.replicate k ev).flatMap (·.cells.toList):=by
        have e1:(Builtin.zeroCells z.cells k).toList=(madeCells z.cells (k*z.cells.size)).toList:=by simp[Builtin.zeroCells,madeCells]
        rw[e1,mT]
        simp[List.flatMap_replicate,h5]
       refine eJ hH c8 (w':=w.drew.alloc (.cells (Builtin.zeroCells z.cells k++Builtin.zeroCells z.cells (grownCap w k 0 e - k)) e)) (xs:=(List.replicate k ev).flatMap (·.cells.toList)) ⟨rfl,rfl,rfl,aF,fun j hj _=>RowKit.Below.heap_alloc w.drew _ j hj⟩ c2 h hr ?_ ⟨List.replicate k ev,rfl, ?_, ?_⟩
       ·refine⟨?_, .inr ⟨w.heap.size,_,_,by rw[List.length_replicate],Nat.le_refl _,heap_alloc_new w.drew _,by rw[List.length_replicate];exact Am,grownCap_le_maxLen w k 0 e (by simp[maxLen];omega), ?_, ?_⟩⟩
        ·rw[<- Jy,Array.length_toList,size_zeroCells,dK,List.length_replicate]
        ·rw[Array.size_append,size_zeroCells,size_zeroCells,dK, <- Nat.add_mul];congr 1;omega
        ·rw[Array.toList_append, <- Jy,List.take_append_of_le_length (by simp[size_zeroCells,dK]),List.take_of_length_le (by simp[size_zeroCells,dK])]
       ·intro v hv
        rw[(List.mem_replicate.1 hv).2,h5,dK]
       ·clear hr h c1 c3 c4 Am Jy
        induction k with
        |zero=>rfl
        |succ k ih=>exact⟨ev,List.replicate k ev,rfl,h6,ih⟩
      ·exact h.elim
     ·exact h.elim
    ·exact h.elim
   ·exact h.elim
 ·exact h.elim
theorem o8(hH:ax M φ H w){y:V}{yv:Value}{new:List D}{sz:Nat}(hy:V.den (ao M φ H) φ H w y yv)(h:eH H.o y=some new)(hw:∀z∈new,z.cells.length=sz):
 (yv= .slice none 0 0/\new=[])\/∃a c evs,yv= .slice (some a) new.length c/\D.aC (ao M φ H) w new evs/\(∀ev∈evs,ev.cells.size=sz)/\
  (∀j u,(evs.flatMap (·.cells.toList))[j]? =some u->w.cell? (a.add j)=some u)/\Flat (evs.flatMap (·.cells.toList)):=by
 have Pz:∀ {evs:List Value},D.aC (ao M φ H) w new evs->(∀ev∈evs,ev.cells.size=sz)/\Flat (evs.flatMap (·.cells.toList)):=by
  intro evs hd
  have key:∀ev∈evs,ev.cells.size=sz/\Flat ev.cells.toList:=by
   intro ev da
   obtain⟨i,hi⟩:=List.mem_iff_getElem?.1 da
   have hl:=D.aA _ _ hd
   have b8:i<new.length:=by rw[<- hl];exact(List.getElem?_eq_some_iff.1 hi).1
   obtain⟨v',pN,Jw⟩:=D.dc _ _ i new[i] hd (by simp[b8])
   rw[hi]at pN;injection pN with pN;subst pN
   have h1:=D.eS _ _ Jw
   have h2:=D.aA _ _ h1.1
   rw[hw _ (List.getElem_mem b8)]at h2
   exact⟨by simpa using h2,h1.2⟩
  refine⟨fun ev da=>(key ev da).1,fun u hu=> ?_⟩
  obtain⟨ev,h1,h2⟩:=List.mem_flatMap.1 hu
  exact(key ev h1).2 u h2
 have Fb:D.den (ao M φ H) w (.sl new) yv->(yv= .slice none 0 0/\new=[])\/∃a c evs,yv= .slice (some a) new.length c/\D.aC (ao M φ H) w new evs/\(∀ev∈evs,ev.cells.size=sz)/\
  (∀j u,(evs.flatMap (·.cells.toList))[j]? =some u->w.cell? (a.add j)=some u)/\Flat (evs.flatMap (·.cells.toList)):=by
  rintro⟨base,len,cap,rfl,rfl,h2,h3,rb,h4⟩
  cases base with
  |none=>
   left
   have h5:=h3 rfl;subst h5
   have:new=[]:=by simpa using h2
   subst this;exact⟨rfl,rfl⟩
  |some a=>
   right
   obtain⟨h5,h6⟩:=h4 a rfl
   by_cases PA:cap=0
   ·have:new=[]:=List.eq_nil_of_length_eq_zero af
    subst this
    exact⟨a,cap,[],rfl,rfl,aF,aF,by simp[Flat]⟩
   replace h5:=h5 PA
   have key:∀ (es:List D) (i:Nat),(∀z∈es,z.cells.length=sz)->D.elems (ao M φ H) w rb a i es->
    ∃evs,D.aC (ao M φ H) w es evs/\∀j u,(evs.flatMap (·.cells.toList))[j]? =some u->w.cell? (a.add (i*sz+j))=some u:=by
    intro es
    induction es with
    |nil=>intro i _ _;exact⟨[],rfl,aF⟩
    |cons e es ih=>
     intro i hz h
     obtain⟨⟨ev,k1,k2,k3⟩,k4⟩:=h
     obtain⟨evs,g1,g2⟩:=ih (i+1) (fun z MM=>hz z (by simp[MM])) k4
     have k5:ev.cells.size=sz:=by
      have:=D.aA _ _ (D.eS _ _ k3).1
      rw[hz e (by simp)]at this
      simpa using this
     refine⟨ev::evs,⟨ev,evs,rfl,k3,g1⟩,fun j u hj=> ?_⟩
     rw[List.flatMap_cons]at hj
     by_cases b8:j<sz
     ·rw[List.getElem?_append_left (by simp;omega)]at hj
      have:=(k2 j u mF).1
      rw[add_add a h5]at this
      rwa [<- k1,k5]at this
     ·rw[List.getElem?_append_right (by simp;omega)]at hj
      have:=g2 (j - sz) u (by simpa[k5]using hj)
      rwa [show(i+1)*sz+(j - sz)=i*sz+j by rw[Nat.add_mul];omega]at this
   obtain⟨evs,g1,g2⟩:=key new 0 hw h6
   obtain⟨s1,s2⟩:=Pz g1
   exact⟨a,cap,evs,rfl,g1,s1,fun j u hj=>by simpa using g2 j u hj,s2⟩
 unfold eH at h
 split at h
 ·rename_i es hD
  injection h with h;subst h
  cases y with
  |d x=>simp only[dU,Option.some.injEq]at hD;subst hD;exact Fb hy
  |aJ=>simp only[dU,Option.some.injEq,D.sl.injEq]at hD;subst hD;exact .inl ⟨hy,rfl⟩
  |osl id ep=>
   obtain⟨_,_,uI⟩:=hy
   have aW:=hH.ok id
   simp only[dU]at hD
   cases hx:H.o id with
   |no=>simp[hx]at hD
   |row cs=>simp[hx]at hD
   |map kt vt l=>simp[hx]at hD
   |loop nf n env ps jr eR st GU=>simp[hx]at hD
   |bU l=>simp[hx]at hD
   |ra l last=>simp[hx]at hD
   |yI s pos=>simp[hx]at hD
   |arr e7 ty rb es'=>
    simp only[hx]at hD
    split at hD
    ·rename_i e;subst e
     simp only[Option.some.injEq,D.sl.injEq]at hD;subst hD
     simp only[aO,hx]at aW
     have hv:=(uI ep sI).2 rfl
     obtain⟨h0,xs,⟨hl,cz⟩,evs,rfl,h2,h3⟩:=aW
     obtain⟨s1,s2⟩:=Pz h3
     rw[hv]
     rcases cz with⟨h4,h5⟩|⟨g,cap,cur,h4,_,h5,h6,h7,h8,h9⟩
     ·exact .inl ⟨h4,by simpa using h5⟩
     ·right
      refine⟨_,cap,evs,h4,h3,s1,fun j u hj=> ?_,s2⟩
      refine qb h5 j u ?_
      rw[<- h9,List.getElem?_take]at hj
      split at hj
      ·simpa using hj
      ·cases hj
    ·cases hD
   |tw e7 es'=>
    simp only[hx]at hD
    split at hD
    ·rename_i e;subst e
     simp only[Option.some.injEq,D.sl.injEq]at hD;subst hD
     simp only[aO,hx]at aW
     have hv:=(uI ep sI).2 rfl
     rw[hv]at Fb|-
     exact Fb aW
    ·cases hD
  |agg cs=>simp[dU]at hD
  |iface t x=>simp[dU]at hD
  |q9 es'=>simp only[dU,Option.some.injEq,D.sl.injEq]at hD;subst hD;exact Fb hy.1
  |mp id=>simp only[dU]at hD;split at hD<;>simp at hD
  |_=>simp[dU]at hD
 ·cases h
theorem qe(hH:ax M φ H w){id ep:Nat}(dY:H.us id){ty:TypeId}{sz:Nat}{es es':List D}(ho:H.o id= .arr ep ty sz es){val:Value}{xs':List Value}{m:Nat->Prop}(hk:dV m w w')
 (hm:∀b,m b->dT (φ id)=some b) (fi:∀b,dT val=some b->dT (φ id)=some b\/w.heap.size<=b) (du:w'.ownsRow 0 ty sz val es'.length xs') (hd:eh (ao M φ H) w sz es' xs'):
 let aE:=az φ id val;let H':=H.put [(id, .arr (ep+1) ty sz es')]
 ax M aE H' w'/\Trans φ H w aE H' w'/\V.den (ao M aE H') aE H' w' (.osl id (ep+1)) val:=by
 intro aE H'
 have hl:(H.o id).live=true:=by rw[ho];rfl
 have ht:Trans φ H w aE H' w':={
  cu:=⟨hk.os,hk.tape,hk.output,hk.size,fun k h VP=>hk.block k h (fun e=>VP ⟨id,hl,hm k e⟩)⟩
  grow:=by
   rintro b ⟨j,h1,h2⟩
   by_cases hj:j=id
   ·subst hj
    simp only[aE,aH,if_true]at h2
    rcases fi b h2 with h3|h3
    ·exact .inl ⟨j,hl,h3⟩
    ·exact .inr h3
   ·simp[H',aE,hj]at h1 h2;exact .inl ⟨j,h1,h2⟩
  rel:={
   us:=fun j h=>by simp[H',h]
   row:=fun j hu hr=>by
    by_cases hj:j=id
    ·subst hj;simp[H',ad.cg]at hr
    ·simp[H',aE,hj]at hr|-;exact hr
   ep:=fun j e' hu he=>by
    by_cases hj:j=id
    ·subst hj;simp[H',ad.cf]at he;subst he;exact⟨ep,by rw[ho];rfl,Nat.le_succ _,fun h=>af⟩
    ·simp[H',aE,hj]at he|-;exact⟨e',he,Nat.le_refl _⟩}}
 have h0:=hH.ok id
 simp only[aO,ho]at h0
 refine⟨hH.of ht (· =id) (fun j h=> ?_) (fun j h=> ?_) (fun j h=> ?_) (fun i j b hi hj bi bj=> ?_) (fun b=> ?_),ht, ?_,by simp[H'],fun e he=> ?_⟩
 ·subst h
  unfold aO
  simp only[H',bC,aH,if_true]
  exact⟨h0.1,xs',by simpa[aE]using du,hd.mono (ht.blocks (M:=M))⟩
 ·refine⟨by simp[H',h],by simp[aE,h],fun hlj b hb=>hk.block b (hH.ours b ⟨j,hlj,hb⟩).2 fun e=>h ?_⟩
  exact hH.apart j id b hlj hl hb (hm b e)
 ·rw[dP]at h
  have h1:j≠id:=fun e=>h (.inr e)
  simp only[H',bC,aH,h1,if_false]
  exact X4
 ·by_cases e1:i=id<;>by_cases e2:j=id
  ·exact e1.trans e2.symm
  ·subst e1
   simp[H',aE,e2]at hj bj bi
   rcases fi b bi with h3|h3
   ·exact hH.apart i j b hl hj h3 bj
   ·have:=(hH.ours b ⟨j,hj,bj⟩).2;omega
  ·subst e2
   simp[H',aE,e1]at hi bi bj
   rcases fi b bj with h3|h3
   ·exact hH.apart i j b hi hl bi h3
   ·have:=(hH.ours b ⟨i,hi,bi⟩).2;omega
  ·simp[H',aE,e1,e2]at hi hj bi bj
   exact hH.apart i j b hi hj bi bj
 ·rintro⟨j,h1,h2⟩
  by_cases hj:j=id
  ·subst hj;simp only[aE,aH,if_true]at h2;exact(ke du b h2).2
  ·simp[H',aE,hj]at h1 h2
   exact Nat.lt_of_lt_of_le (hH.ours b ⟨j,h1,h2⟩).2 hk.size
 ·rcases du.2 with⟨rfl,_⟩|⟨g,cap,cur,rfl,_⟩<;>rfl
 ·exact Pf
theorem eh.append {B:Nat->Prop}{sz:Nat}{es new:List D}{xs:List Value}{evs:List Value}(h:eh B w sz es xs)(h1:D.aC B w new evs)(h2:∀ev∈evs,ev.cells.size=sz):
 eh B w sz (es++new) (xs++evs.flatMap (·.cells.toList)):=by
 obtain⟨ac8,rfl,h3,h4⟩:=h
 refine⟨ac8++evs,aF,fun ev da=> ?_,D.bu _ _ _ _ h4 h1⟩
 rcases List.mem_append.1 da with h|h
 ·exact h3 ev h
 ·exact h2 ev h
theorem cV{sz:Nat}:∀ (evs:List Value),(∀ev∈evs,ev.cells.size=sz)->(evs.flatMap (·.cells.toList)).length=evs.length*sz
 |[],_=>aF
 |x::l,hx=>by
  have:=cV l fun v hv=>hx v (by simp[hv])
  simp[this,hx x (by simp),Nat.add_mul,Nat.add_comm]
theorem Dn(hH:ax M φ H w)(c8: ¬H.us fr){ts:Array TypeId}{ty0:TypeId}{x y:V}{xv yv:Value}(hx:V.den (ao M φ H) φ H w x xv)(hy:V.den (ao M φ H) φ H w y yv)
 (h:pV P H.o fr ts x y K):cC M φ H w fr ((do let z <- Builtin.append_ ts ty0 #[xv,yv];pure (Next.value z):Sem Next).run P w) K:=by
 unfold pV at h
 split at h
 ·rename_i t t' wO
  obtain⟨rfl,h⟩:=h
  have wO:ts=#[t,t]:=by apply Array.ext';simpa using wO
  subst wO
  split at h
  ·rename_i e ht
   obtain⟨new,SD,fe,hz,hw,h⟩:=h
   obtain⟨zz,hz⟩:=Option.isSome_iff_exists.1 hz
   obtain⟨i,z,g1,g2,g3,g4,_⟩:=jw hz
   have hi:=bM g1
   have SC:=lQ g1
   have Fc:=o8 hH hy SD hw
   split at h
   ·obtain⟨h1,h2,hK⟩:=h
    simp only[V.den]at hx;subst hx
    rcases Fc with⟨rfl,rfl⟩|⟨a,c,evs,rfl,k1,k2,k3,k4⟩
    ·refine eJ hH c8 (dV.refl _ _) fe hK (run_append_owned_none (P:=P) w 0 t ty0 e i i.size (bp ht) g1 _ 0 [] (World.ownsRow_nil w 0 e i.size)) ?_ ⟨[],rfl,aF,rfl⟩
     exact World.ownsRow_nil w _ e _
    ·obtain⟨v',w',r1,r2,r3,_⟩:=run_append_own (P:=P) w w.heap.size t ty0 e i z (P.cellsOf e) (P.bytesOf e) (bp ht) g1 g2 hi.symm SC.symm (by rw[g3,hi]) fe _ 0 [] (World.ownsRow_nil w _ e _) a new.length c
      (evs.flatMap fun v:Value=>v.cells.toList) (by rw[cV evs k2,D.aA _ _ k1]) k3 (fun u hu=>k4 u hu) (by simp[maxLen];omega) xi (Nat.le_refl _)
     refine eJ hH c8 (lP r3) fe hK r1 (by simpa using r2) ⟨evs,rfl,k2,k1⟩
   ·rename_i es
    obtain⟨PB,h⟩:=h
    have Me:=o8 (sz:=P.cellsOf e) hH (y:= .d (.sl es)) (new:=es) (show V.den (ao M φ H) φ H w (.d (.sl es)) xv from hx.1) (by simp[eH,dU]) PB
    obtain⟨b,n,hxv⟩:=hx.2
    subst hxv
    split at h
    ·rename_i hn;subst hn
     have tQ:(sizeOf e).run P w= .ok i.size w:=by rw[dA g1,hi]
     have hr:(Builtin.append_ #[t,t] ty0 #[.slice b n n,yv]).run P w= .ok (.slice b n n) w:=by
      rcases Fc with⟨rfl,_⟩|⟨a,c,evs,rfl,_⟩
      ·cases b<;>simp[Builtin.append_,run_underlying (bp ht),tQ,Builtin.lenOf,Builtin.firstCells,storeCells]
      ·cases b<;>simp[Builtin.append_,run_underlying (bp ht),tQ,Builtin.lenOf,Builtin.firstCells,storeCells,loadCells,loadCellsFrom]
     exact cC.same hH _ h Xz hx
    ·rename_i fG
     obtain⟨h1,h2,hK⟩:=h
     rcases Fc with⟨rfl,rfl⟩|⟨a,c,evs,rfl,k1,k2,k3,k4⟩
     ·exact absurd rfl fG
     ·have hlen:(evs.flatMap (·.cells.toList)).length=new.length*P.cellsOf e:=by rw[cV evs k2,D.aA _ _ k1]
      rcases Me with⟨e1,rfl⟩|⟨a',c',Jz,e1,q1,q2,q3,q4⟩
      ·injection e1 with e1 e2 e3
       subst e1;subst e2
       obtain⟨v',w',r1,r2,r3,_⟩:=run_append_own (P:=P) w w.heap.size t ty0 e i z (P.cellsOf e) (P.bytesOf e) (bp ht) g1 g2 hi.symm SC.symm (by rw[g3,hi]) fe _ 0 [] (World.ownsRow_nil w _ e _) a new.length c
        (evs.flatMap fun v:Value=>v.cells.toList) (by rw[cV evs k2,D.aA _ _ k1]) k3 (fun u hu=>k4 u hu) (by simp[maxLen];simp at h1;omega) (by simp at h2|-;omega) (Nat.le_refl _)
       refine eJ hH c8 (lP r3) fe hK r1 (by simpa using r2) ⟨evs,rfl,k2,k1⟩
      ·injection e1 with e1 e2 e3
       subst e1;subst e2
       have oN:(Jz.flatMap (·.cells.toList)).length=es.length*P.cellsOf e:=by rw[cV Jz q2,D.aA _ _ q1]
       have aeH:0<new.length:=by cases new with|nil=>exact absurd rfl fG|cons _ _=>simp
       have yP:es.length+new.length<=maxLen:=by simp[maxLen];omega
       have hr:=run_append_grow (P:=P) w t ty0 e i z (bp ht) g1 g2 a' es.length es.length _ (by rw[oN,hi]) q3 a new.length c _ (by rw[hlen,hi]) k3 af af
        (growslice_fits af (by rw[<- SC];omega))
       refine eJ (xs:=Jz.flatMap (·.cells.toList)++evs.flatMap (·.cells.toList)) hH c8 ?_ fe hK hr ?_ ⟨Jz++evs,aF,fun ev da=> ?_,D.bu _ _ _ _ q1 k1⟩
       ·exact⟨rfl,rfl,rfl,aF,fun k hk _=>RowKit.Below.heap_alloc w.drew _ k hk⟩
       ·have Am:=grownCap_ge w (es.length+new.length) es.length e
        refine⟨by rw[List.length_append,oN,hlen,List.length_append,Nat.add_mul], .inr ⟨w.heap.size,_,_,by rw[List.length_append],Nat.le_refl _,heap_alloc_new w.drew _,by rw[List.length_append];exact Am,
         grownCap_le_maxLen w _ _ e yP, ?_, ?_⟩⟩
        ·simp only[Array.size_append,List.size_toArray,size_zeroCells,g3,oN,hlen,hi, <- Nat.add_mul]
         congr 1
         omega
        ·have:(Jz.flatMap (·.cells.toList)++evs.flatMap (·.cells.toList)).length=(es++new).length*P.cellsOf e:=by rw[List.length_append,oN,hlen,List.length_append,Nat.add_mul]
         simp only[Array.toList_append]
         rw[<- this]
         exact List.take_left
       ·rcases List.mem_append.1 da with da|da
        ·exact q2 ev da
        ·exact k2 ev da
   ·rename_i id ep
    split at h
    ·rename_i e7 ty sz es ho
     obtain⟨rfl,rfl,rfl,h1,h2,hK⟩:=h
     obtain⟨_,dY,uI⟩:=hx
     have hv:=(uI ep ed).2 rfl
     subst hv
     have aW:=hH.ok id
     simp only[aO,ho]at aW
     obtain⟨_,xs,du,mG⟩:=aW
     have done:∀ {val:Value} {w':World} {m:Nat->Prop} {evs:List Value},(Builtin.append_ #[t,t] ty0 #[φ id,yv]).run P w= .ok val w'->dV m w w'->(∀b,m b->dT (φ id)=some b)->
      (∀b,dT val=some b->dT (φ id)=some b\/w.heap.size<=b)->w'.ownsRow 0 ty (P.cellsOf ty) val (es++new).length (xs++evs.flatMap (·.cells.toList))->D.aC (ao M φ H) w new evs->
      (∀ev∈evs,ev.cells.size=P.cellsOf ty)->cC M φ H w fr ((do let z <- Builtin.append_ #[t,t] ty0 #[φ id,yv];pure (Next.value z):Sem Next).run P w) K:=by
      intro val w' m evs r1 r2 r3 r4 r5 r6 r7
      obtain⟨s1,s2,s3⟩:=qe hH dY ho r2 r3 r4 r5 (mG.append r6 r7)
      exact⟨_,_,_,_,_,_,_,hK,by simp only[Sem.run_bind,r1,Result.andThen_ok];rfl, .inl rfl,s1,s2,s3,by simp[dY]⟩
     rcases Fc with⟨rfl,rfl⟩|⟨a,c,evs,rfl,k1,k2,k3,k4⟩
     ·refine done (evs:=[]) (run_append_owned_none (P:=P) w 0 t ty0 ty i (P.cellsOf ty) (bp ht) g1 _ _ xs du) (dV.refl (fun _=>False) _) (fun _ h=>h.elim) (fun b hb=> .inl hb) (by simpa using du) rfl aF
     ·have hlen:(evs.flatMap (·.cells.toList)).length=new.length*P.cellsOf ty:=by rw[cV evs k2,D.aA _ _ k1]
      have yP:es.length+new.length<=maxLen:=by simp[maxLen];omega
      rcases du.2 with⟨h3,h4⟩|⟨g,cap,cur,h3,h4,h5,h6,h7,h8,h9⟩
      ·have uL:w.ownsRow w.heap.size ty (P.cellsOf ty) (φ id) es.length xs:=⟨du.1, .inl ⟨h3,h4⟩⟩
       obtain⟨v',w',r1,r2,r3,_⟩:=run_append_own (P:=P) w w.heap.size t ty0 ty i z (P.cellsOf ty) (P.bytesOf ty) (bp ht) g1 g2 hi.symm SC.symm (by rw[g3,hi]) fe _ _ xs uL a new.length c
        (evs.flatMap fun v:Value=>v.cells.toList) hlen k3 (fun u hu=>k4 u hu) yP h2 (Nat.le_refl _)
       refine done r1 (lP (by rw[h3]at r3;exact r3)) (fun _ h=>h.elim) (fun b hb=> .inr (ke r2 b hb).1) (by simpa using qd r2) k1 k2
      ·by_cases PC:es.length+new.length<=cap
       ·rw[h3]at du
        obtain⟨w',r1,r2,r3⟩:=run_append_fits (P:=P) w 0 t ty0 ty i (P.cellsOf ty) (bp ht) g1 hi.symm g es.length cap xs du a new.length c (evs.flatMap fun v:Value=>v.cells.toList) hlen k3 (fun u hu=>k4 u hu) PC
        rw[<- h3]at r1
        exact done (m:=(· =g)) r1 ⟨r3.os,r3.tape,r3.output,r3.size,fun k hk fG=>r3.block k hk (by simpa using fG)⟩ (fun b hb=>by subst hb;rw[h3];rfl) (fun b hb=> .inl (by rw[h3];exact hb)) (by simpa using r2) k1 k2
       ·have holds:∀j u,xs[j]? =some u->w.cell? ((⟨g,0,none⟩:Addr).add j)=some u:=du.cells (g:=g) (by rw[h3];rfl)
        have hr:=run_append_grow (P:=P) w t ty0 ty i z (bp ht) g1 g2 ⟨g,0,none⟩ es.length cap xs (by rw[du.1,hi]) holds a new.length c _ (by rw[hlen,hi]) k3 af (by simp[maxLen]at yP;omega)
         (growslice_fits af (by rw[<- SC];omega))
        rw[<- h3]at hr
        refine done (m:=fun _=>False) hr ⟨rfl,rfl,rfl,aF,fun k hk _=>RowKit.Below.heap_alloc w.drew _ k hk⟩ (fun _ h=>h.elim) (fun b hb=> .inr (by simp[dT]at hb;omega)) ?_ k1 k2
        have Am:=grownCap_ge w (es.length+new.length) cap ty
        refine⟨by rw[List.length_append,du.1,hlen,List.length_append,Nat.add_mul], .inr ⟨w.heap.size,_,_,by rw[List.length_append],Nat.zero_le _,heap_alloc_new w.drew _,by rw[List.length_append];exact Am,
         grownCap_le_maxLen w _ cap ty yP, ?_, ?_⟩⟩
        ·simp only[Array.size_append,List.size_toArray,size_zeroCells,g3,du.1,hlen,hi, <- Nat.add_mul]
         congr 1
         omega
        ·have:(xs++evs.flatMap (·.cells.toList)).length=(es++new).length*P.cellsOf ty:=by rw[List.length_append,du.1,hlen,List.length_append,Nat.add_mul]
         simp only[Array.toList_append,List.append_assoc]
         rw[<- List.append_assoc, <- this]
         exact List.take_left
    ·exact h.elim
   ·exact h.elim
  ·exact h.elim
 ·exact h.elim
end
end
section
section
variable {P:Program}{M:Nat->Prop}{φ:Place}{H:Hp}{w w':World}{fr:Nat}{K:V->List (Nat×ad)->List Nat->Prop}
theorem sP{t:TypeId}{b off:Nat}{ty:TypeId}{cur:Array Value}(hb:w.heap[b]? =some (.cells cur ty (0,0)))(v:Value)(hs:v.cells.size=P.cellsOf t)(fe:0<v.cells.size\/(P.info? t).isSome=true)
 (hle:off+v.cells.size<=cur.size) (hf:Flat v.cells.toList):
 (Instr.storeAt t (.pointer (some ⟨b,off,none⟩)) v).run P w= .ok () (w.setRow b (cur.toList.take off++v.cells.toList++cur.toList.drop (off+v.cells.size)).toArray):=by
 obtain⟨i,hi⟩:∃i,P.info? t=some i:=by
  rcases fe with fe|fe
  ·exact jA (P:=P) (e:=t) af
  ·exact Option.isSome_iff_exists.1 fe
 have:=run_storeCells_at (P:=P) b off ty v.cells.toList 0 cur w hb (by simpa using hle) (fun u hu=>hf u hu)
 simp only[Nat.add_zero,Array.length_toList]at this
 simp[Instr.storeAt,Instr.sureAddr,storeVar,dA hi,hs,this]
theorem A1{sz:Nat}:∀ (evs:List Value) (i off:Nat) (ev G0:Value) (us:List Value),(∀x∈evs,x.cells.size=sz)->evs[i]? =some ev->off+us.length<=sz->
 G0.cells.toList=ev.cells.toList.take off++us++ev.cells.toList.drop (off+us.length)->
 (evs.set i G0).flatMap (·.cells.toList)=(evs.flatMap (·.cells.toList)).take (i*sz+off)++us++(evs.flatMap (·.cells.toList)).drop (i*sz+off+us.length)
 |[],_,_,_,_,_,_,h,_,_=>by simp at h
 |x::evs,0,off,ev,G0,us,hs,h,hle,he=>by
  simp at h;subst h
  have hx:x.cells.toList.length=sz:=by simpa using hs x aF
  simp only[List.set_cons_zero,List.flatMap_cons,Nat.zero_mul,Nat.zero_add,he]
  rw[List.take_append_of_le_length (by omega),List.drop_append_of_le_length (by omega)]
  simp[List.append_assoc]
 |x::evs,i+1,off,ev,G0,us,hs,h,hle,he=>by
  have hx:x.cells.toList.length=sz:=by simpa using hs x aF
  have ih:=A1 evs i off ev G0 us (fun y hy=>hs y lJ) (by simpa using h) hle he
  simp only[List.set_cons_succ,List.flatMap_cons,ih]
  rw[show(i+1)*sz+off=x.cells.toList.length+(i*sz+off) by rw[Nat.add_mul,hx];omega,List.take_length_add_append,
   show x.cells.toList.length+(i*sz+off)+us.length=x.cells.toList.length+(i*sz+off+us.length) by omega,List.drop_length_add_append]
  simp[List.append_assoc]
theorem A2{α:Type}(l v:List α)(k m n:Nat)(hn:n=v.length)(h:k+n<=m)(hm:m<=l.length):(l.take k++v++l.drop (k+n)).take m=(l.take m).take k++v++(l.take m).drop (k+n):=by
 subst hn
 apply List.ext_getElem?
 intro i
 simp only[List.getElem?_append,List.getElem?_take,List.getElem?_drop,List.length_append,List.length_take]
 repeat' split
 all_goals first
  |rfl
  |omega
  |(congr 1;omega)
  |(symm;apply List.getElem?_eq_none;omega)
  |(apply List.getElem?_eq_none;omega)
  |skip
theorem JA{B:Nat->Prop}{e e':D}{off:Nat}{ds:List D}(h:e.put off ds=some e'){ev:Value}(he:D.den B w e ev){us:List Value}(hu:D.aC B w ds us)(hf:Flat us):
 ∃G0,D.den B w e' G0/\G0.cells.toList=ev.cells.toList.take off++us++ev.cells.toList.drop (off+us.length)/\off+us.length<=ev.cells.size:=by
 have hl:=D.aA _ _ hu
 rcases D.nS _ _ he with⟨cs,a,rfl,rfl⟩|⟨h1,h2,h3⟩
 ·obtain⟨a',ha,h4,h5⟩:=he
  injection ha with ha;subst ha
  have hl4:=D.aA _ _ h4
  simp only[Array.length_toList]at hl4
  simp only[D.put]at h
  split at h
  ·rename_i hle
   injection h with h;subst h
   refine⟨.agg (a.toList.take off++us++a.toList.drop (off+us.length)).toArray,⟨_,rfl, ?_, ?_⟩,by simp[Value.cells],by simp[Value.cells];omega⟩
   ·simp only
    rw[hl]
    exact D.bu _ _ _ _ (D.bu _ _ _ _ (D.cG _ _ _ h4) hu) (D.dZ _ _ _ h4)
   ·intro x hx
    simp only[List.mem_append]at hx
    rcases hx with(hx|hx)|hx
    ·exact h5 x (List.mem_of_mem_take hx)
    ·exact hf x hx
    ·exact h5 x (List.mem_of_mem_drop hx)
  ·cases h
 ·have gk:off=0/\∃u,ds=[u]/\e'=u:=by
   cases e<;>simp only[D.put]at h<;>first
    |(split at h
      ·rename_i u;injection h with h;exact⟨rfl,u,rfl,h.symm⟩
      ·cases h)
    |(simp[D.cells]at h2;done)
    |skip
   obtain⟨a,rfl,_⟩:=he
   simp[Value.oneCell']at h1
  obtain⟨rfl,u,rfl,rfl⟩:=gk
  obtain⟨x,xs,rfl,h4,h5⟩:=hu
  simp only[D.aC]at h5;subst h5
  have hx:x.cells=#[x]:=by have:=hf x aF;cases x<;>simp_all[Value.oneCell',Value.cells]
  exact⟨x,h4,by simp[hx,h3],by simp[h3]⟩
theorem G1(hH:ax M φ H w){t:TypeId}{x v:V}{xv vv:Value}(hx:V.den (ao M φ H) φ H w x xv)(hv:V.den (ao M φ H) φ H w v vv)
 (h:uC P H.o t x v fun Δ rd=>K (.bT []) Δ rd):cC M φ H w fr ((do Instr.storeAt t xv vv;pure Next.skip:Sem Next).run P w) K:=by
 unfold uC at h
 split at h
 ·rename_i id off
  split at h
  ·rename_i cs ho
   obtain⟨cs',h1,hK⟩:=h
   obtain⟨_,dY,hp⟩:=hx
   obtain⟨b,eB,rfl⟩:=hp ed
   have aW:=hH.ok id
   simp only[aO,ho]at aW
   obtain⟨b',dM,ty,g1,g2,g3,g4⟩:=aW
   rw[eB]at g1;simp at g1;subst g1
   unfold yL at h1
   split at h1
   ·rename_i us hc
    split at h1
    ·rename_i hle
     injection h1 with h1;subst h1
     obtain⟨k1,k2⟩:=V.nS _ _ _ hc hv
     have l1:=V.aA _ _ k1
     have l2:=V.aA _ _ g3
     simp only[Array.length_toList]at l1 l2
     have hr:=sP (P:=P) (t:=t) (off:=off) g2 vv af (hle.2.1.imp (fun h=>af) (fun h=>h)) af k2
     obtain⟨t1,t2⟩:=AS (cs':=cs.take off++us++cs.drop (off+us.length)) hH dY ho eB g2 (dM.toList.take off++vv.cells.toList++dM.toList.drop (off+vv.cells.size)).toArray (by
      simp only
      rw[l1]
      exact V.bu _ _ _ _ (V.bu _ _ _ _ (V.cG _ _ _ g3) k1) (V.dZ _ _ _ g3)) (by
      intro u hu
      simp only[List.mem_append]at hu
      rcases hu with(hu|hu)|hu
      ·exact g4 u (List.mem_of_mem_take hu)
      ·exact k2 u hu
      ·exact g4 u (List.mem_of_mem_drop hu))
     exact⟨_,_,_,_,_,_,_,hK,by simp only[Sem.run_bind,hr,Result.andThen_ok];rfl, .inr ⟨rfl,rfl⟩,t1,t2,⟨#[],rfl,rfl⟩,by simp[dY]⟩
    ·cases h1
   ·cases h1
  ·exact h.elim
 ·rename_i id ep i rb off
  split at h
  ·rename_i e7 ty sz es ho
   obtain⟨rfl,rfl,e,he,y,hy,hyl,hyp,fG,e',gk,hK⟩:=h
   obtain⟨_,dY,hp⟩:=hx
   obtain⟨b,n,c,eB,rfl⟩:=(hp ep ed).2 rfl
   obtain⟨f1,f2,f3,f4,f5⟩:=cQ hH v.ids (cK v _ hv)
   have lI:id∉v.ids:=fun hm=>by have:=List.all_eq_true.1 fG id hm;simp at this
   have wx:=(f4 id lI).trans ho
   have hvd:=eT f1 v y vv f3 hy (V.aS f2 _ _ hv)
   obtain⟨k1,k2⟩:=D.eS _ _ hvd
   have l1:=D.aA _ _ k1
   simp only[Array.length_toList]at l1
   have aW:=f1.ok id
   simp only[aO,wx]at aW
   obtain⟨h0,xs,⟨hl,cz⟩,evs,rfl,h2,h3⟩:=aW
   rcases cz with⟨h4,h5⟩|⟨g,cap,cur,h4,h5,h6,h7,h8,h9,Px⟩
   ·rw[eB]at h4;simp at h4
   ·rw[eB]at h4;simp at h4
    obtain⟨rfl,rfl,rfl⟩:=h4
    obtain⟨ev,da,hde⟩:=D.dc _ _ _ _ h3 he
    obtain⟨G0,p1,p2,p3⟩:=JA gk hde k1 k2
    simp only[Array.length_toList]at p2 p3
    have aeN:=h2 ev (List.mem_of_getElem? da)
    have ac9:i<es.length:=(List.getElem?_eq_some_iff.1 he).1
    have Fe:i*rb+rb<=es.length*rb:=by
     rw[<- Nat.succ_mul];exact Nat.mul_le_mul_right _ ac9
    have ada:es.length*rb<=cur.size:=by rw[h9];exact Nat.mul_le_mul_right _ h7
    have hr:=sP (P:=P) (t:=t) (off:=i*rb+off) h6 vv af (.inl af) af k2
    have MN:=A1 evs i off ev G0 vv.cells.toList h2 da (by simpa using(by omega:off+vv.cells.size<=rb)) (by simpa using p2)
    simp only[Array.length_toList]at MN
    have cH:((H.put (bL H.o v.ids)).o id).live=true:=by rw[wx];rfl
    have tA:dT (φ id)=some b:=by rw[eB];rfl
    have YN:=(f5 id).2 dY
    have ht:=eI (w:=w) (w':=w.setRow b (cur.toList.take (i*rb+off)++vv.cells.toList++cur.toList.drop (i*rb+off+vv.cells.size)).toArray) YN cH tA (j8 w b _) (.arr ep ty rb (es.set i e')) sH sH
    have hh:=gS f1 YN cH tA (j8 w b (cur.toList.take (i*rb+off)++vv.cells.toList++cur.toList.drop (i*rb+off+vv.cells.size)).toArray) (.arr ep ty rb (es.set i e')) sH sH (by
     unfold aO
     simp only[bC,aH,if_true]
     refine⟨h0,(evs.set i G0).flatMap (·.cells.toList),⟨?_, .inr ⟨b,c,_,by rw[List.length_set];exact eB,Nat.zero_le _,setRow_heap w b cur _ ty (0,0) h6,by rw[List.length_set];exact h7,h8, ?_, ?_⟩⟩,evs.set i G0,rfl, ?_, ?_⟩
     ·rw[MN,List.length_set]
      simp only[List.length_append,List.length_take,List.length_drop,Array.length_toList,hl]
      omega
     ·simp only[List.size_toArray,List.length_append,List.length_take,List.length_drop,Array.length_toList]
      omega
     ·rw[MN,List.length_set, <- Px]
      exact A2 cur.toList vv.cells.toList _ _ _ aF af (by simpa using ada)
     ·intro x hx
      rcases List.mem_or_eq_of_mem_set hx with hx|rfl
      ·exact h2 x hx
      ·have:=congrArg List.length p2
       simp only[Array.length_toList,List.length_append,List.length_take,List.length_drop]at this
       omega
     ·exact D.aT (ht.blocks (M:=M)) _ _ (D.AQ i es evs e' G0 h3 p1))
    rw[<- dO]at hh ht
    refine⟨_,_,_,_,_,_,_,hK,by simp only[Sem.run_bind,hr,Result.andThen_ok];rfl, .inr ⟨rfl,rfl⟩,hh,f2.trans ht,⟨#[],rfl,rfl⟩,fun j hj=> ?_⟩
    simp only[List.map_append,List.mem_append,List.map_cons,List.map_nil,List.mem_singleton]at hj
    rcases hj with hj|hj
    ·left
     refine cK v _ hv j ?_
     rw[lR]at hj
     simpa[Function.comp_def]using hj
    ·exact .inl (hj ▸ dY)
  ·exact h.elim
 ·exact h.elim
end
end
section
section
variable {P:Program}{B:Nat->Prop}{w:World}
theorem gQ{t:TypeId}{xs:List D}{off:Nat}{x:D}(h:iC P t xs off=some x){arr:Array Value}(hd:D.aC B w xs arr.toList)(hf:Flat arr.toList):
 ∃u,(∀w',(part t arr off).run P w'= .ok u w')/\D.den B w x u:=by
 unfold iC at h
 split at h
 ·rename_i ha
  split at h
  ·rename_i hl
   injection h with h;subst h
   obtain⟨i,hi⟩:=rF ha
   refine⟨.agg (arr.extract off (off+P.cellsOf t)),fun w'=> ?_,_,rfl, ?_, ?_⟩
   ·simp only[part,Sem.run_bind,rE ha w',Result.andThen_ok,if_true,dA hi w',Sem.run_pure]
   ·have:=D.cG (P.cellsOf t) _ _ (D.dZ off _ _ hd)
    simpa[Array.toList_extract,List.extract]using this
   ·exact Ys
  ·cases h
 ·rename_i ha
  obtain⟨u,hu,MI⟩:=D.dc _ _ _ _ hd h
  refine⟨u,fun w'=> ?_,MI⟩
  have Ay:arr[off]? =some u:=by simpa using hu
  simp only[part,Sem.run_bind,o7 ha w',Result.andThen_ok,Bool.false_eq_true,if_false,Ay,Sem.run_pure]
 ·cases h
theorem xB{a b:Option Bool}{r:Bool}(h:Di a b=some r):∃x y,a=some x/\b=some y/\r=(x&&y):=by
 unfold Di at h
 split at h
 ·injection h with h;exact⟨_,_,rfl,rfl,h.symm⟩
 ·cases h
def EqD(P:Program)(m:Nat)(t:TypeId)(x y:D)(r:Bool):Prop:=
 ∀ (B:Nat->Prop) (w:World) (u v:Value),D.den B w x u->D.den B w y v->(Op.equalIn m t u v).run P w= .ok r w
theorem qf{d m:Nat}(IH:∀t x y r,oH P d t x y=some r->EqD P m t x y r){xs ys:List D}{b9 bs:Array Value}(ha:D.aC B w xs b9.toList)(E5:Flat b9.toList)(hb:D.aC B w ys bs.toList)(MO:Flat bs.toList):
 ∀ (fs:List Field) (r:Bool),(∀f∈fs,f.name≠ "_")->xp (fun u off=>MC (oH P d u) (iC P u xs off) (iC P u ys off)) (fs.map fun f=>(f.type,f.offset))=some r->
   (Op.eqFields m b9 bs fs).run P w= .ok r w
 |[],r,_,h=>by simp[xp]at h;subst h;simp[Op.eqFields]
 |f::fs,r,hn,h=>by
  obtain⟨x,y,h1,h2,rfl⟩:=xB h
  simp only[MC]at h1
  split at h1
  ·rename_i p q hp hq
   obtain⟨u,k1,k2⟩:=gQ hp ha E5
   obtain⟨v,k3,k4⟩:=gQ hq hb MO
   have h3:=IH _ _ _ _ h1 B w u v k2 k4
   have h4:=qf IH ha E5 hb MO fs y (fun g hg=>hn g (by simp[hg])) h2
   have fG:=hn f aF
   simp only[Op.eqFields,fG,ne_eq,not_false_eq_true,if_true,Sem.run_bind,k1,k3,h3,Result.andThen_ok]
   cases x
   ·simp
   ·simpa using h4
  ·cases h1
theorem sQ{d m:Nat}{e:TypeId}(IH:∀t x y r,oH P d t x y=some r->EqD P m t x y r){xs ys:List D}{b9 bs:Array Value}(ha:D.aC B w xs b9.toList)(E5:Flat b9.toList)(hb:D.aC B w ys bs.toList)(MO:Flat bs.toList):
 ∀ (n i:Nat) (r:Bool),AO (fun i=>MC (oH P d e) (iC P e xs (i*P.cellsOf e)) (iC P e ys (i*P.cellsOf e))) n i=some r->
   (Op.eqItems m e (P.cellsOf e) b9 bs (List.range' i n)).run P w= .ok r w
 |0,i,r,h=>by simp[AO]at h;subst h;simp[Op.eqItems]
 |n+1,i,r,h=>by
  obtain⟨x,y,h1,h2,rfl⟩:=xB h
  simp only[MC]at h1
  split at h1
  ·rename_i p q hp hq
   obtain⟨u,k1,k2⟩:=gQ hp ha E5
   obtain⟨v,k3,k4⟩:=gQ hq hb MO
   have h3:=IH _ _ _ _ h1 B w u v k2 k4
   have h4:=sQ IH ha E5 hb MO n (i+1) y h2
   simp only[List.range'_succ,Op.eqItems,Sem.run_bind,k1,k3,h3,Result.andThen_ok]
   cases x
   ·simp
   ·simpa using h4
  ·cases h1
theorem tR:∀ (d:Nat) (t:TypeId) (x y:D) (r:Bool),oH P d t x y=some r->∀m,d<=m->EqD P m t x y r
 |0,_,_,_,_,h=>by simp[oH]at h
 |d+1,t,x,y,r,h=>by
  intro m hm B w u v hu hv
  obtain⟨m,rfl⟩:∃k,m=k+1:=⟨m - 1,af⟩
  have IH:∀t x y r,oH P d t x y=some r->EqD P m t x y r:=fun t x y r h=>tR d t x y r h m af
  unfold oH at h
  cases hs:bH P t with
  |none=>rw[hs]at h;cases h
  |some sh=>
   rw[hs]at h
   unfold bH at hs
   cases ht:P.underlying t with
   |none=>rw[ht]at hs;cases hs
   |some td=>
    rw[ht]at hs
    cases td<;>simp only[Option.some.injEq,reduceCtorEq]at hs
    case int k0=>
     subst hs
     simp only at h
     split at h
     ·split at h
      ·rename_i e;subst e;injection h with h;subst h
       simp only[D.den]at hu hv;subst hu;subst hv
       exact run_equalIn_int w m t _ _ _ _ ht
      ·cases h
     ·cases h
    case bool=>
     subst hs
     simp only at h
     split at h
     ·injection h with h;subst h
      simp only[D.den]at hu hv;subst hu;subst hv
      exact run_equalIn_bool' w m t _ _ ht
     ·cases h
    case string=>
     subst hs
     simp only at h
     split at h
     ·injection h with h;subst h
      obtain⟨s1,rfl,rfl⟩:=hu
      obtain⟨s2,rfl,rfl⟩:=hv
      rw[run_equalIn_string w m t _ _ ht]
      rw[ByteArray.toList_eq,ByteArray.toList_eq]
     ·cases h
    case struct fs=>
     split at hs
     ·rename_i hc
      injection hs with hs;subst hs
      simp only[Bool.and_eq_true,Bool.not_eq_true',List.all_eq_true,bne_iff_ne]at hc
      simp only at h
      split at h
      ·obtain⟨b9,rfl,ha,E5⟩:=hu
       obtain⟨bs,rfl,hb,MO⟩:=hv
       have hfs:P.fieldsOf t=fs:=by simp[Program.fieldsOf,ht]
       rw[run_equalIn_struct w m t b9 bs (by rw[hfs];exact ht) hc.1,hfs]
       exact qf IH ha E5 hb MO _ _ hc.2 h
      ·cases h
     ·cases hs
    case array n e=>
     split at hs
     ·rename_i hc
      injection hs with hs;subst hs
      simp only at h
      split at h
      ·obtain⟨b9,rfl,ha,E5⟩:=hu
       obtain⟨bs,rfl,hb,MO⟩:=hv
       obtain⟨i,hi⟩:=Option.isSome_iff_exists.1 hc
       rw[run_equalIn_array w m b9 bs ht hi,List.range_eq_range']
       exact sQ IH ha E5 hb MO _ _ _ h
      ·cases h
     ·cases hs
theorem Sr{t:TypeId}{b9 bs:List D}{r:Bool}(h:oH P 100 t (.agg b9) (.agg bs)=some r)(hg:P.eqGuardType P.depth t=false):Jo P t (.agg b9) (.agg bs) r:=by
 intro B w u v hu hv
 refine⟨tR 100 t _ _ _ h _ bV B w u v hu hv,fun op a b=> ?_⟩
 obtain⟨b9,rfl,_⟩:=hu
 obtain⟨bs,rfl,_⟩:=hv
 exact run_eqGuard_agg w op t a b b9 bs hg
end
end
end Go.Proofs.YtlhemmpklhhgoaaGreat
