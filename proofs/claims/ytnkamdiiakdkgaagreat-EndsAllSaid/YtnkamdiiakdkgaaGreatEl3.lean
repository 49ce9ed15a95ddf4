/-
  A PART OF THE PROOF. Conditions: none.
-/
import Derived.ChangeKeysEq
import Derived.Test.YtnkamdiiakdkgaaGreatEl2
set_option linter.unusedSimpArgs false
set_option linter.unusedVariables false
namespace Go.Proofs.YtnkamdiiakdkgaaGreat
section
section
variable {P:Program}{M:Nat->Prop}{φ:Place}{H:Hp}{w:World}{fr:Nat}{K:V->List (Nat×ab)->List Nat->Prop}
def ab.fz:ab->ab
 | .arr ep _ _ es=> .rV ep es
 | .map _ _ l=> .hZ l
 |o=>o
theorem l8(o:Nat->ab)(ids:List Nat):bT o ids=ids.map fun id=>(id,(o id).fz):=by
 unfold bT
 refine List.map_congr_left fun id _=> ?_
 cases o id<;>rfl
theorem vj(H:Hp){id:Nat}(hu:H.us id){x:ab}(hx:H.o id=x):H.put [(id,x)]=H:=by
 obtain⟨o,us⟩:=H
 simp only[Hp.put,put,List.foldl_cons,List.foldl_nil,Hp.mk.injEq,List.map_cons,List.map_nil,List.mem_singleton]
 constructor
 ·funext j
  by_cases hj:j=id
  ·subst hj;simpa using hx.symm
  ·simp[hj]
 ·funext j
  simp only[eq_iff_iff]
  exact⟨fun h=>h.elim (fun h=>h) fun e=>e ▸ hu, .inl⟩
theorem qq(o:Nat->ab):∀ (ids:List Nat) (H:Hp),ay M φ H w->(∀id∈ids,H.us id)->(∀id,H.o id=o id\/H.o id=(o id).fz)->
 let H':=H.put (ids.map fun id=>(id,(o id).fz));ay M φ H' w/\Trans φ H w φ H' w/\(∀id∈ids,H'.o id=(o id).fz)/\(∀id,H'.o id=o id\/H'.o id=(o id).fz)/\(∀id,id∉ids->H'.o id=H.o id)/\∀id,H'.us id↔H.us id
 |[],H,hH,_,ho=>by
  simp only[List.map_nil,oe]
  exact⟨hH,Trans.refl _ _ _,aI,ho,aI,aI⟩
 |id::ids,H,hH,hu,ho=>by
  have h1:ay M φ (H.put [(id,(o id).fz)]) w/\Trans φ H w φ (H.put [(id,(o id).fz)]) w:=by
   rcases ho id with h|h
   ·cases hx:o id with
    |arr ep ty sz es=>exact O2 hH (hu id aI) (h.trans hx)
    |map kt vt l=>exact GL hH (hu id aI) (h.trans hx)
    |_=>
     rw[vj H (hu id (by simp)) (h.trans (by rw[hx];rfl))]
     exact⟨hH,Trans.refl _ _ _⟩
   ·rw[vj H (hu id (by simp)) h]
    exact⟨hH,Trans.refl _ _ _⟩
  have h2:∀j,(H.put [(id,(o id).fz)]).o j=o j\/(H.put [(id,(o id).fz)]).o j=(o j).fz:=by
   intro j
   by_cases hj:j=id
   ·subst hj;right;simp
   ·simpa[hj]using ho j
  have ih:=qq o ids (H.put [(id,(o id).fz)]) h1.1 (fun j hj=>by simp[hu j (by simp[hj])]) h2
  obtain⟨i1,i2,i3,i4,i5,i6⟩:=ih
  have e:H.put ((id::ids).map fun id=>(id,(o id).fz))=(H.put [(id,(o id).fz)]).put (ids.map fun id=>(id,(o id).fz)):=by
   rw[<- dV];rfl
  rw[e]
  refine⟨i1,h1.2.trans i2,fun j hj=> ?_,i4,fun j hj=> ?_,fun j=> ?_⟩
  ·rcases List.mem_cons.1 hj with rfl|hj
   ·by_cases hm:j∈ids
    ·exact i3 j hm
    ·rw[i5 j hm];simp
   ·exact i3 j hj
  ·simp only[List.mem_cons,not_or]at hj
   rw[i5 j hj.2];simp[hj.1]
  ·rw[i6 j,dW]
   exact⟨fun h=>h.elim (fun h=>h) fun e=>e ▸ hu id aI, .inl⟩
theorem cO(hH:ay M φ H w)(ids:List Nat)(hu:∀id∈ids,H.us id):
 let H':=H.put (bT H.o ids);ay M φ H' w/\Trans φ H w φ H' w/\(∀id∈ids,H'.o id=(H.o id).fz)/\(∀id,id∉ids->H'.o id=H.o id)/\∀id,H'.us id↔H.us id:=by
 rw[l8]
 obtain⟨a,b,c,_,d,e⟩:=qq H.o ids H hH hu (fun _=> .inl rfl)
 exact⟨a,b,c,d,e⟩
mutual
theorem cJ:∀ (v:V) (val:Value),V.den (ao M φ H) φ H w v val->∀id∈v.ids,H.us id
 | .osl id ep,_,h,j,hj=>by simp[V.ids]at hj;subst hj;exact h.2.1
 | .mp id,_,h,j,hj=>by simp[V.ids]at hj;subst hj;exact h.2.1
 | .agg cs,_,h,j,hj=>by obtain⟨a,rfl,h,_⟩:=h;exact cW cs _ h j (by simpa[V.ids]using hj)
 | .iface t x,_,h,j,hj=>by obtain⟨u,rfl,h⟩:=h;exact cJ x u h j (by simpa[V.ids]using hj)
 | .d _,_,_,_,hj| .aZ,_,_,_,hj| .bW _,_,_,_,hj| .ptr _ _,_,_,_,hj| .pe _ _ _ _ _,_,_,_,hj| .pp _ _,_,_,_,hj| .func _ _ _,_,_,_,hj| .aa,_,_,_,hj| .rK _,_,_,_,hj| .x9 _ _ _,_,_,_,hj| .ft,_,_,_,hj| .ju _,_,_,_,hj=>by simp[V.ids]at hj
theorem cW:∀ (vs:List V) (vals:List Value),V.aB (ao M φ H) φ H w vs vals->∀id∈V.bg vs,H.us id
 |[],_,_,j,hj=>by simp[V.bg]at hj
 |v::vs,_,h,j,hj=>by
  obtain⟨u,us,rfl,h1,h2⟩:=h
  rcases List.mem_append.1 (show j∈v.ids++V.bg vs from hj)with hj|hj
  ·exact cJ v u h1 j hj
  ·exact cW vs us h2 j hj
end
mutual
theorem eC(hH:ay M φ H w){o:Nat->ab}:∀ (v:V) (x:D) (val:Value),(∀id∈v.ids,H.o id=(o id).fz)->dB o v=some x->V.den (ao M φ H) φ H w v val->D.den (ao M φ H) w x val
 | .d y,x,val,_,h,hd=>by simp[dB]at h;subst h;exact hd
 | .aZ,x,val,_,h,hd=>by
   simp[dB]at h;subst h
   simp only[V.den]at hd;subst hd
   exact aaJ
 | .osl id ep,x,val,ho,h,hd=>by
   obtain⟨_,_,hd⟩:=hd
   have ho:=ho id (by simp[V.ids])
   have aW:=hH.ok id
   simp only[dB]at h
   cases hx:o id with
   |no=>simp[hx]at h
   |row cs=>simp[hx]at h
   |map kt vt l=>simp[hx]at h
   |loop nf n env ps iZ eI st IK=>simp[hx]at h
   |hZ l=>simp[hx]at h
   |pb l last=>simp[hx]at h
   |zQ s pos=>simp[hx]at h
   |arr fF ty sz es=>
    simp only[hx]at h ho
    split at h
    ·rename_i e;subst e;injection h with h;subst h
     exact RS
    ·cases h
   |rV fF es=>
    simp only[hx]at h ho
    split at h
    ·rename_i e;subst e;injection h with h;subst h
     exact RS
    ·cases h
 | .mp id,x,val,ho,h,hd=>by
   obtain⟨_,_,hd⟩:=hd
   have ho:=ho id (by simp[V.ids])
   have aW:=hH.ok id
   simp only[dB]at h
   cases hx:o id with
   |map kt vt l=>
    exact aa5
   |hZ l=>
    exact aa5
   |_=>simp[hx]at h
 | .agg cs,x,val,ho,h,hd=>by
   simp only[dB,Option.map_eq_some_iff]at h
   obtain⟨ds,h1,rfl⟩:=h
   obtain⟨a,rfl,h2,h3⟩:=hd
   exact⟨a,rfl,dp hH cs ds _ (fun id aq=>ho id (by simpa[V.ids]using aq)) h1 h2,h3⟩
 | .iface t y,x,val,ho,h,hd=>by
   simp only[dB,Option.map_eq_some_iff]at h
   obtain⟨z,h1,rfl⟩:=h
   obtain⟨u,rfl,h2⟩:=hd
   exact⟨u,rfl,eC hH y z u (fun id aq=>ho id (by simpa[V.ids]using aq)) h1 h2⟩
 | .bW _,_,_,_,h,_| .ptr _ _,_,_,_,h,_| .pe _ _ _ _ _,_,_,_,h,_| .pp _ _,_,_,_,h,_| .func _ _ _,_,_,_,h,_| .aa,_,_,_,h,_| .x9 _ _ _,_,_,_,h,_| .ft,_,_,_,h,_| .ju _,_,_,_,h,_=>by simp[dB]at h
 | .rK es,x,val,_,h,hd=>by simp[dB]at h;subst h;exact hd.1
theorem dp(hH:ay M φ H w){o:Nat->ab}:∀ (vs:List V) (xs:List D) (vals:List Value),(∀id∈V.bg vs,H.o id=(o id).fz)->b7 o vs=some xs->V.aB (ao M φ H) φ H w vs vals->D.aB (ao M φ H) w xs vals
 |[],xs,vals,_,h,hd=>by simp[b7]at h;subst h;exact hd
 |v::vs,xs,vals,ho,h,hd=>by
  simp only[b7,Option.bind_eq_some_iff,Option.map_eq_some_iff]at h
  obtain⟨x,h1,ys,h2,rfl⟩:=h
  obtain⟨u,us,rfl,h3,h4⟩:=hd
  exact⟨u,us,rfl,eC hH v x u (fun id aq=>ho id (by simp[V.bg,aq])) h1 h3,dp hH vs ys us (fun id aq=>ho id (by simp[V.bg,aq])) h2 h4⟩
end
theorem te(hH:ay M φ H w)(cP: ¬H.us fr){s:Sem Value}(cs:List V)(dT:Array Value)(ty:TypeId)(hK:K (.ptr fr 0) [(fr, .row cs)] [])
 (hr:s.run P w= .ok (.pointer (some ⟨w.heap.size,0,none⟩)) (w.alloc (.cells dT ty))) (hd:V.aB (ao M φ H) φ H w cs dT.toList) (hf:Flat dT.toList):
 cI M φ H w fr ((do let y <- s;pure (Next.value y):Sem Next).run P w) K:=by
 obtain⟨h1,h2,h3⟩:=O1 hH cP cs dT ty hd hf
 exact RA
theorem IM(hH:ay M φ H w)(cP: ¬H.us fr){t:TypeId}(h:∃cs,cl P t=some cs/\K (.ptr fr 0) [(fr, .row cs)] []):
 cI M φ H w fr ((do let y <- Instr.alloc t true (.tuple #[]);pure (Next.value y):Sem Next).run P w) K:=by
 obtain⟨cs,hz,hK⟩:=h
 obtain⟨i,v,h1,h2,h3,h4,rfl⟩:=jP hz
 refine te hH cP _ v.cells t hK ?_ (dG _ h4) h4
 simp[Instr.alloc,zeroValue,typeInfo,h1,h2,newVar,newRow]
theorem O6(hH:ay M φ H w)(cP: ¬H.us fr){t:TypeId}{x:V}{xv:Value}(hx:V.den (ao M φ H) φ H w x xv)(h:∃cs,x.cells=some cs/\K (.ptr fr 0) [(fr, .row cs)] []):
 cI M φ H w fr ((do let y <- Instr.box t xv;pure (Next.value y):Sem Next).run P w) K:=by
 obtain⟨cs,hc,hK⟩:=h
 obtain⟨h1,h2⟩:=V.od x xv cs hc hx
 refine te hH cP _ xv.cells t hK ?_ h1 h2
 simp[Instr.box,newVar,newRow]
theorem IP(off:Nat):∀ (us:List Value) (cells:Array Value),off+us.length<=cells.size->
 ((us.zipIdx.foldl (fun cs (p:Value×Nat)=>cs.setIfInBounds (off+p.2) p.1) cells)).toList=cells.toList.take off++us++cells.toList.drop (off+us.length):=by
 have key:∀ (us:List Value) (k:Nat) (cells:Array Value),off+k+us.length<=cells.size->
  (((us.zipIdx k).foldl (fun cs (p:Value×Nat)=>cs.setIfInBounds (off+p.2) p.1) cells)).toList=cells.toList.take (off+k)++us++cells.toList.drop (off+k+us.length):=by
  intro us
  induction us with
  |nil=>intro k cells h;simp
  |cons u us ih=>
   intro k cells h
   simp only[List.zipIdx_cons,List.foldl_cons]
   rw[ih (k+1) _ (by simp at h|-;omega)]
   simp only[Array.toList_setIfInBounds,List.length_cons]
   have cG:off+k<cells.toList.length:=by simp at h|-;omega
   rw[show off+(k+1)=off+k+1 by omega,List.take_set,List.take_succ_eq_append_getElem cG,List.set_append_right _ _ (by simp;omega)]
   simp only[List.length_take]
   rw[show min (off+k) cells.toList.length=off+k by omega,Nat.sub_self]
   simp only[List.set_cons_zero,List.append_assoc,List.cons_append,List.nil_append]
   rw[List.drop_set_of_lt (by omega)]
   congr 3
   rw[show off+k+1+us.length=off+k+(us.length+1) by omega]
 intro us cells h
 have:=key us 0 cells (by simpa using h)
 simpa using this
theorem Ca(places:List (Nat×Nat)):∀ (parts:List (Nat×V)) (l9:List (Nat×Value)) (cs cs':List V) (cells:Array Value),
 l9.map (·.1)=parts.map (·.1)->V.aB (ao M φ H) φ H w (parts.map (·.2)) (l9.map (·.2))->V.aB (ao M φ H) φ H w cs cells.toList->Flat cells.toList->ta places cs parts=some cs'->
 ∃ij,(∀place:Nat->Option (Nat×Nat),(∀i p,places[i]? =some p->place i=some p)->Instr.fill place cells l9=some ij)/\V.aB (ao M φ H) φ H w cs' ij.toList/\Flat ij.toList
 |[],l9,cs,cs',cells,h1,_,h3,h4,h=>by
  cases l9 with
  |nil=>simp[ta]at h;subst h;exact⟨cells,fun _ _=>rfl,h3,h4⟩
  |cons a l=>simp at h1
 |(i,v)::parts,l9,cs,cs',cells,h1,h2,h3,h4,h=>by
  cases l9 with
  |nil=>simp at h1
  |cons a l9=>
   obtain⟨i',val⟩:=a
   simp only[List.map_cons,List.cons.injEq]at h1
   obtain⟨rfl,h1⟩:=h1
   simp only[List.map_cons]at h2
   obtain⟨u,us,e,h5,h6⟩:=h2
   simp only[List.cons.injEq]at e
   obtain⟨rfl,rfl⟩:=e
   simp only[ta]at h
   split at h
   ·rename_i off size us xi hc
    split at h
    ·rename_i dO
     obtain⟨g1,g2⟩:=V.od v _ us hc h5
     have hl:=V.aA _ _ g1
     have hl3:=V.aA _ _ h3
     have hs:=IP off val.cells.toList cells (by simp at hl hl3|-;omega)
     rw[Array.length_toList]at hl hl3
     have ih:=Ca places parts l9 _ cs' (val.cells.toList.zipIdx.foldl (fun cs (p:Value×Nat)=>cs.setIfInBounds (off+p.2) p.1) cells) h1 h6 (by
      rw[hs]
      refine V.br _ _ _ _ (V.br _ _ _ _ (V.dF _ _ _ h3) g1) ?_
      rw[show val.cells.toList.length=us.length by simpa using hl]
      exact V.et _ _ _ h3) (by
      rw[hs]
      intro x hx
      simp only[List.mem_append]at hx
      rcases hx with(hx|hx)|hx
      ·exact h4 x (List.mem_of_mem_take hx)
      ·exact g2 x hx
      ·exact h4 x (List.mem_of_mem_drop hx)) h
     obtain⟨ij,i1,i2⟩:=ih
     refine⟨ij,fun place hp=> ?_,i2⟩
     have i1:=i1 place hp
     simp only[Instr.fill,hp _ _ xi]
     rw[if_neg (by simp;omega), <- i1]
     have e:∀ (c:Array Value),c.zipIdx.foldl (fun cs (x:Value×Nat)=>cs.setIfInBounds (off+x.2) x.1) cells=c.toList.zipIdx.foldl (fun cs (x:Value×Nat)=>cs.setIfInBounds (off+x.2) x.1) cells:=by
      intro c;rw[<- Array.foldl_toList,Array.toList_zipIdx]
     rw[<- e]
    ·cases h
   ·cases h
theorem Cb{t:TypeId}{pl:List (Nat×Nat)}(h:dc P t=some pl)(parts:List (Nat×Value))(cells ij:Array Value){i:TypeInfo}{z:Value}(hi:P.info? t=some i)(hz:i.zero=some z)(hc:z.cells=cells)
 (hf:∀place:Nat->Option (Nat×Nat),(∀i p,pl[i]? =some p->place i=some p)->Instr.fill place cells parts=some ij):
 P.built t parts=some ij:=by
 subst hc
 unfold dc at h
 unfold Program.built
 cases hd:P.underlying t with
 |none=>simp[hd]at h
 |some d=>
  cases d<;>simp only[hd]at h<;>try (cases h;done)
  case struct fs=>
   simp only[Option.ite_none_right_eq_some,Option.some.injEq]at h
   obtain⟨bc,rfl⟩:=h
   have hm:fs.toList.mapM (fun f=>(P.info? f.type).map fun i=>(f.offset,i.size))=some (fs.toList.map fun f=>(f.offset,P.cellsOf f.type)):=by
    generalize fs.toList=l at bc
    clear hf
    induction l with
    |nil=>rfl
    |cons f l ih=>
     simp only[List.all_cons,Bool.and_eq_true]at bc
     obtain⟨j,hj⟩:=Option.isSome_iff_exists.1 bc.1
     simp[List.mapM_cons,ih bc.2,hj,bL hj]
   simp only[hi,hz,hm]
   exact hf _ aI
  case array n e=>
   simp only[Option.ite_none_right_eq_some,Option.some.injEq]at h
   obtain⟨bc,rfl⟩:=h
   obtain⟨j,hj⟩:=Option.isSome_iff_exists.1 bc
   simp only[hi,hz,hj]
   refine hf _ fun k p hp=> ?_
   rw[List.getElem?_map]at hp
   simp only[Option.map_eq_some_iff]at hp
   obtain⟨a,h1,rfl⟩:=hp
   rw[List.getElem?_range]at h1
   ·injection h1 with h1;subst h1;rw[bL hj]
   ·rcases Nat.lt_or_ge k n with hn|hn
    ·exact hn
    ·rw[List.getElem?_eq_none (by simpa using hn)]at h1;cases h1
theorem IQ(hH:ay M φ H w){t:TypeId}{parts:Array (Nat×Operand)}{s:S}{a:Act}(ef:∀i,V.den (ao M φ H) φ H w (s.env i) (a.tmps.getD i undef))
 (h:∃z pl cs,cl P t=some z/\dc P t=some pl/\ta pl z (parts.toList.map fun p=>(p.1,s.ev p.2))=some cs/\K (oP cs) [] []):
 cI M φ H w fr ((do let y <- Instr.build t (parts.map fun(i,x)=>(i,a.eval x));pure (Next.value y):Sem Next).run P w) K:=by
 obtain⟨z,pl,cs,hz,xi,m8,hK⟩:=h
 obtain⟨i,zv,h1,h2,h3,h4,rfl⟩:=jP hz
 have hd:V.aB (ao M φ H) φ H w ((parts.toList.map fun p=>(p.1,s.ev p.2)).map (·.2)) ((parts.map fun(i,x)=>(i,a.eval x)).toList.map (·.2)):=by
  have:=kF s a ef (parts.toList.map (·.2))
  simpa[Function.comp_def]using this
 have he:(parts.map fun(i,x)=>(i,a.eval x)).toList.map (·.1)=(parts.toList.map fun p=>(p.1,s.ev p.2)).map (·.1):=by simp[Function.comp_def]
 obtain⟨ij,g1,g2,g3⟩:=Ca (M:=M) (φ:=φ) (H:=H) (w:=w) pl _ _ _ cs zv.cells he hd (dG _ h4) h4 m8
 have hb:P.built t (parts.map fun(i,x)=>(i,a.eval x)).toList=some ij:=Cb xi _ zv.cells ij h1 h2 rfl g1
 exact cI.plain hH (.agg ij) hK (run_build w t _ ij hb) (lE _ _ g2 g3)
end
end
section
section
variable {P:Program}{M:Nat->Prop}{φ:Place}{H:Hp}{w w':World}{fr:Nat}{K:V->List (Nat×ab)->List Nat->Prop}
theorem qs{base:Nat}{e:TypeId}{sz n:Nat}{v:Value}{xs:List Value}(h:w.ownsRow base e sz v n xs):w.ownsRow 0 e sz v n xs:=by
 obtain⟨h1,h2⟩:=h
 refine⟨h1, ?_⟩
 rcases h2 with h2|⟨g,cap,cur,a,_,b⟩
 ·exact .inl h2
 ·exact .inr ⟨g,cap,cur,a,Nat.zero_le _,b⟩
theorem kH{base:Nat}{e:TypeId}{sz n:Nat}{v:Value}{xs:List Value}(h:w.ownsRow base e sz v n xs)(b:Nat)(hb:dx v=some b):base<=b/\b<w.heap.size:=by
 rcases h.2 with⟨rfl,_⟩|⟨g,cap,cur,rfl,h1,h2,_⟩
 ·cases hb
 ·simp[dx]at hb;subst hb
  exact⟨h1,(Array.getElem?_eq_some_iff.1 h2).1⟩
theorem fQ.mono {B B':Nat->Prop}(hb:∀b,db w b-> ¬B b->w'.heap[b]? =w.heap[b]? /\ ¬B' b){sz:Nat}{es:List D}{xs:List Value}(h:fQ B w sz es xs):fQ B' w' sz es xs:=by
 obtain⟨evs,h1,h2,h3⟩:=h
 exact⟨evs,h1,h2,D.aQ hb es evs h3⟩
theorem GM(hH:ay M φ H w)(cP: ¬H.us fr)(hk:dM (fun _=>False) w w'){val:Value}{ty:TypeId}{sz:Nat}{es:List D}{xs:List Value}(dO:0<sz)
 (dz:w'.ownsRow w.heap.size ty sz val es.length xs) (hd:fQ (ao M φ H) w sz es xs):
 let aG:=ax φ fr val;let H':=H.put [(fr, .arr 0 ty sz es)]
 ay M aG H' w'/\Trans φ H w aG H' w'/\V.den (ao M aG H') aG H' w' (.osl fr 0) val:=by
 intro aG H'
 have ht:Trans φ H w aG H' w':=ew hk cP _ _ fun b hb=>(kH dz b hb).1
 refine⟨iJ hH hk cP _ _ (kH dz) ?_,ht, ?_,by simp[H'],fun e he=> ?_⟩
 ·unfold aP
  simp only[bD,aK,if_true]
  exact⟨dO,xs,qs dz,hd.mono (ht.blocks (M:=M))⟩
 ·rcases dz.2 with⟨rfl,_⟩|⟨g,cap,cur,rfl,_⟩<;>rfl
 ·exact R5
theorem eN(hH:ay M φ H w)(cP: ¬H.us fr)(hk:dM (fun _=>False) w w'){s:Sem Value}{val:Value}{ty:TypeId}{sz:Nat}{es:List D}{xs:List Value}{rd:List Nat}(dO:0<sz)
 (hK:K (.osl fr 0) [(fr, .arr 0 ty sz es)] rd) (hr:s.run P w= .ok val w') (dz:w'.ownsRow w.heap.size ty sz val es.length xs) (hd:fQ (ao M φ H) w sz es xs):
 cI M φ H w fr ((do let y <- s;pure (Next.value y):Sem Next).run P w) K:=by
 obtain⟨h1,h2,h3⟩:=GM hH cP hk dO dz hd
 exact RA
theorem jQ{e:TypeId}(h:0<P.cellsOf e):∃i,P.info? e=some i:=by
 cases hi:P.info? e with
 |none=>simp[Program.cellsOf,hi]at h
 |some i=>exact⟨i,rfl⟩
theorem Cc(parts:List (Nat×Value))(n:Nat)(h:parts.map (·.1)=List.range n):parts=((parts.map (·.2)).zipIdx 0).map fun x=>(x.2,x.1):=by
 apply List.ext_getElem?
 intro i
 have hl:parts.length=n:=by have:=congrArg List.length h;simpa using this
 rw[List.getElem?_map,List.getElem?_zipIdx,List.getElem?_map]
 cases hp:parts[i]? with
 |none=>simp
 |some p=>
  have h1:(parts.map (·.1))[i]? =some p.1:=by simp[hp]
  rw[h,List.getElem?_range (by have:=(List.getElem?_eq_some_iff.1 hp).1;omega)]at h1
  simp at h1
  obtain⟨p1,p2⟩:=p
  simp_all
theorem tX{t e:TypeId}(ht:P.underlying t=some (.slice e))(fT:0<P.cellsOf e):(Instr.buildSlice t 0 #[]).run P w= .ok (.slice (some ⟨w.heap.size,0,none⟩) 0 0) (w.alloc (.cells #[] e)):=by
 obtain⟨i,hi⟩:=jQ fT
 have h1:(underlying t).run P w= .ok (.slice e) w:=by simp[Go.underlying,ht]
 have h2:(sizeOf e).run P w= .ok i.size w:=by simp[Go.sizeOf,Go.typeInfo,hi]
 simp[Instr.buildSlice,h1,h2,Instr.fill,newRow]
 congr 2
 exact Array.eq_empty_of_size_eq_zero aI
theorem vk(hH:ay M φ H w)(cP: ¬H.us fr){t:TypeId}{len:Nat}{parts:Array (Nat×Operand)}{s:S}{a:Act}(ef:∀i,V.den (ao M φ H) φ H w (s.env i) (a.tmps.getD i undef))
 (h:iH P H.o fr t len (parts.toList.map fun p=>(p.1,s.ev p.2)) K):
 cI M φ H w fr ((do let y <- Instr.buildSlice t len (parts.map fun(i,x)=>(i,a.eval x));pure (Next.value y):Sem Next).run P w) K:=by
 unfold iH at h
 split at h
 ·rename_i e ht
  rcases h with⟨rfl,YR,fT,hK⟩|⟨ae5,hz,hlen,fT,YS,ds,eZ,hw,hK⟩
  ·have EW:parts=#[]:=by
    have:=congrArg List.length YR
    simp at this
    exact this
   subst EW
   have dz:=World.ownsRow_lit (base:=w.heap.size) (e:=e) (size:=P.cellsOf e) w #[] 0 (Nat.le_refl _) (Nat.zero_le _) aI
   exact eN hH cP (cC w _) fT hK (by simpa using tX (w:=w) (bf ht) fT) dz ⟨[],rfl,aI,rfl⟩
  obtain⟨z,hz⟩:=Option.isSome_iff_exists.1 hz
  obtain⟨ie,zv,h1,h2,h3,h4,_⟩:=jP hz
  have hd:V.aB (ao M φ H) φ H w ((parts.toList.map fun p=>(p.1,s.ev p.2)).map (·.2)) ((parts.map fun(i,x)=>(i,a.eval x)).toList.map (·.2)):=by
   have:=kF s a ef (parts.toList.map (·.2))
   simpa[Function.comp_def]using this
  have LF:(parts.map fun(i,x)=>(i,a.eval x)).toList.map (·.1)=List.range len:=by
   rw[<- ae5];simp[Function.comp_def]
  generalize hvp:(parts.map fun(i,x)=>(i,a.eval x)).toList=vp at hd LF
  generalize EB:(parts.toList.map fun p=>(p.1,s.ev p.2)).map (·.2)=sp at hd eZ hK
  obtain⟨f1,f2,f3,f4,f5⟩:=cO hH (V.bg sp) (cW sp _ hd)
  have hd1:=V.aQ f2 _ _ hd
  have yk:=dp f1 sp ds _ f3 eZ hd1
  have dO:∀v∈vp.map (·.2),v.cells.size=P.cellsOf e:=by
   intro v hv
   obtain⟨i,hi⟩:=List.mem_iff_getElem?.1 hv
   have hl:=D.aA _ _ yk
   have cG:i<ds.length:=by rw[<- hl];exact(List.getElem?_eq_some_iff.1 hi).1
   obtain⟨v',tY,O7⟩:=D.dE _ _ i ds[i] yk (by simp[cG])
   rw[hi]at tY;injection tY with tY;subst tY
   have:=D.aA _ _ (D.ff _ _ O7).1
   rw[hw _ (List.getElem_mem cG)]at this
   simpa using this
  have hvl:vp.length=len:=by have:=congrArg List.length LF;simpa using this
  have abp:Instr.fill (fun i=>some (i*ie.size,ie.size)) ((Array.range (len*ie.size)).map (zv.cells[· %zv.cells.size]!)) vp=some ((vp.map (·.2)).flatMap fun v=>v.cells.toList).toArray:=by
   rw[<- bL h1]
   have:=Great.fill_whole fT (vp.map (·.2)) ((Array.range (len*P.cellsOf e)).map (zv.cells[· %zv.cells.size]!)) dO (by simp[hvl])
   rwa [<- Cc vp len LF]at this
  have fg:=run_buildSlice (P:=P) w t e len (parts.map fun(i,x)=>(i,a.eval x)) _ ie zv (bf ht) h1 h2 (by rw[<- bL h1];omega) (by rw[<- bL h1];have:=Nat.mul_pos hlen fT;omega) (by rw[hvp];exact abp)
  have hdl:=D.aA _ _ yk
  have dz:=World.ownsRow_lit (base:=w.heap.size) (e:=e) (size:=P.cellsOf e) w ((vp.map (·.2)).flatMap fun v=>v.cells.toList).toArray len (Nat.le_refl _) (by have:=Nat.le_mul_of_pos_right len fT;simp[maxLen];omega) (by
   have:∀l:List Value,(∀v∈l,v.cells.size=P.cellsOf e)->(l.flatMap fun v=>v.cells.toList).length=l.length*P.cellsOf e:=by
    intro l
    induction l with
    |nil=>simp
    |cons x l ih=>intro hx;simp[hx x (by simp),ih (fun v hv=>hx v (by simp[hv])),Nat.add_mul,Nat.add_comm]
   have:=this (vp.map (·.2)) dO
   simpa[hvl]using this)
  have yl:len=ds.length:=by rw[<- hdl];simp[hvl]
  obtain⟨g1,g2,g3⟩:=GM (ty:=e) (sz:=P.cellsOf e) (es:=ds) f1 (fr:=fr) (fun hu=>cP ((f5 fr).1 hu)) (cC w _) fT (by rw[<- yl];exact dz) ⟨vp.map (·.2),aI,dO,yk⟩
  rw[<- dV]at g1 g2 g3
  refine⟨_,_,_,_,_,_,_,hK,by simp only[Sem.run_bind,fg,Result.andThen_ok];rfl, .inl rfl,g1,f2.trans g2,g3,fun id aq=> ?_⟩
  simp only[List.map_append,List.mem_append,List.map_cons,List.map_nil,List.mem_singleton]at aq
  rcases aq with aq|aq
  ·left
   refine cW sp _ hd id ?_
   rw[l8]at aq
   simpa[Function.comp_def]using aq
  ·exact .inr aq
 ·exact h.elim
theorem nj:∀ (vs:List Value),V.bg (vs.map V.dn)=[]
 |[]=>rfl
 |v::vs=>by
  have h:(V.dn v).ids=[]:=by cases v<;>simp only[V.dn,V.ids]<;>split<;>rfl
  simp[V.bg,h,nj vs]
theorem ym(hH:ay M φ H w){e:TypeId}{x:D}(h:yc P e=some x):∃i z ev,P.info? e=some i/\i.zero=some z/\z.cells.size=i.size/\Flat z.cells.toList/\ev.cells=z.cells/\D.den (ao M φ H) w x ev:=by
 unfold yc at h
 split at h
 ·rename_i zs hz
  obtain⟨i,z,h1,h2,h3,h4,rfl⟩:=jP hz
  have key:∀ds,b7 (fun _=> .no) (z.cells.toList.map V.dn)=some ds->D.aB (ao M φ H) w ds z.cells.toList:=fun ds eZ=>
   dp hH _ _ _ (by rw[nj];simp) eZ (dG _ h4)
  split at h
  ·rename_i ds eZ EU
   injection h with h;subst h
   exact⟨i,z, .agg z.cells,h1,h2,h3,h4,rfl,z.cells,rfl,key ds eZ,h4⟩
  ·rename_i y eZ EU
   injection h with h;subst h
   obtain⟨u,us,h5,h6,h7⟩:=key _ eZ
   simp only[D.aB]at h7;subst h7
   have xy:=h4 u (by rw[h5];simp)
   have hu:u.cells=#[u]:=by cases u<;>simp_all[Value.oneCell',Value.cells]
   refine⟨i,z,u,h1,h2,h3,h4, ?_,h6⟩
   rw[hu];apply Array.ext';simpa using h5.symm
  ·cases h
 ·cases h
theorem nk(z:Value)(n:Nat):(madeCells z.cells (n*z.cells.size)).toList=(List.replicate n z).flatMap (·.cells.toList):=by
 apply List.ext_getElem?
 intro i
 by_cases h0:z.cells.size=0
 ·have:z.cells.toList=[]:=by simpa using h0
  simp[madeCells,h0]
 ·have fT:0<z.cells.size:=ag
  by_cases hi:i<n*z.cells.size
  ·have hd:i/z.cells.size<n:=Nat.div_lt_of_lt_mul (by rwa [Nat.mul_comm]at hi)
   have hm:=Nat.mod_lt i fT
   have:=ni z.cells.size (List.replicate n z) (i/z.cells.size) (i%z.cells.size) z z.cells[i%z.cells.size] (fun x hx=>by rw[(List.mem_replicate.1 hx).2]) (by simp[hd]) (by simp[hm])
   rw[Nat.mul_comm,Nat.div_add_mod]at this
   rw[this]
   simp[madeCells,List.getElem?_range hi,hm]
  ·have h1:(madeCells z.cells (n*z.cells.size)).toList.length=n*z.cells.size:=by simp[madeCells]
   have h2:((List.replicate n z).flatMap (·.cells.toList)).length=n*z.cells.size:=by simp[List.flatMap_replicate]
   rw[List.getElem?_eq_none (by omega),List.getElem?_eq_none (by omega)]
theorem xz(hH:ay M φ H w)(cP: ¬H.us fr){t:TypeId}{l c:V}{lv cv:Value}(hl:V.den (ao M φ H) φ H w l lv)(hc:V.den (ao M φ H) φ H w c cv)
 (h:jN P fr t l c fun v Δ=>K v Δ []):cI M φ H w fr ((do let y <- Instr.makeSlice t lv cv;pure (Next.value y):Sem Next).run P w) K:=by
 unfold jN at h
 split at h
 ·rename_i e kl n kc m ht
  obtain⟨rfl,h0,fT,hb,hn,x,hx,hK⟩:=h
  simp only[V.den,D.den]at hl hc;subst hl;subst hc
  obtain⟨i,z,ev,h1,h2,h3,h4,h5,h6⟩:=ym hH hx
  obtain⟨k,rfl⟩:=Int.eq_ofNat_of_zero_le h0
  simp only[Int.toNat_natCast]at hb hn hK
  rw[l7 h1]at hb
  obtain⟨w',r1,r2,r3⟩:=run_make_full (P:=P) w w.heap.size t e i z (P.cellsOf e) (bf ht) h1 h2 (bL h1).symm kl kc k ag (by simp[maxLen];omega) (Nat.le_refl _)
  refine eN hH cP (l6 r3) fT hK r1 (by simpa using r2) ⟨List.replicate k ev, ?_, ?_, ?_⟩
  ·rw[bL h1, <- h3,nk]
   simp[List.flatMap_replicate,h5]
  ·intro v hv
   rw[(List.mem_replicate.1 hv).2,h5,h3,bL h1]
  ·clear r1 r2 hK hb hn
   induction k with
   |zero=>rfl
   |succ k ih=>exact⟨ev,List.replicate k ev,rfl,h6,ih ag⟩
 ·exact h.elim
theorem tZ(w:World)(t u ty e:TypeId)(i:TypeInfo)(z:Value)(ht:P.underlying t=some (.slice e)){k0:IntKind}(hu:P.underlying u=some (.int k0))(hi:P.info? e=some i)(hz:i.zero=some z)(fT:0<i.size)
 (k:IntKind) (n:Nat) (h0:0<n) (h63:n<=1099511627776) (h48:n*i.bytes<=1099511627776):
 (Builtin.append_ #[t,u] ty #[.slice none 0 0, .int k n]).run P w=
  .ok (.slice (some ⟨w.heap.size,0,none⟩) n (grownCap w n 0 e)) (w.drew.alloc (.cells (Builtin.zeroCells z.cells n++Builtin.zeroCells z.cells (grownCap w n 0 e - n)) e)):=by
 have hn:n≠0:=ag
 have IU: ¬ (n*i.size=0):=by
  intro h
  rcases Nat.mul_eq_zero.1 h with h|h<;>omega
 have hwr:IntKind.i64.wrap (n:Int)=n:=by
  unfold IntKind.wrap
  have e1:((2:Int)^IntKind.i64.bits)=18446744073709551616:=bI
  have e2:((2:Int)^(IntKind.i64.bits - 1))=9223372036854775808:=bI
  have e3:IntKind.i64.signed=true:=rfl
  simp only[e1,e2,e3]
  have h1:(n:Int)%18446744073709551616=n:=Int.emod_eq_of_lt ag ag
  rw[h1]
  split<;>simp_all<;>omega
 have ae6: ¬ (9223372036854775807<(n:Int)):=ag
 have Vl: ¬ (281474976710656<(n:Int)*(i.bytes:Int)):=by
  have h5:((n*i.bytes:Nat):Int)<=(1099511627776:Nat):=Int.ofNat_le.2 h48
  rw[Int.natCast_mul]at h5;omega
 have ae7: ¬ (281474976710656<Builtin.nextslicecap n 0*i.bytes):=by rw[nextslicecap_zero h0];omega
 simp[Builtin.append_,run_underlying ht,run_underlying hu,sizeOf,typeInfo,zeroValue,hi,hz,Builtin.lenOf,hn,IU,hwr,ae6,ae7,Vl,Question.forced,run_firstCells_none,newRow,grownCap,asInt,asIntOf]
 intro h;omega
theorem LG(hH:ay M φ H w)(cP: ¬H.us fr){ts:Array TypeId}{ty0:TypeId}{x y:V}{xv yv:Value}(hx:V.den (ao M φ H) φ H w x xv)(hy:V.den (ao M φ H) φ H w y yv)
 (h:cX (yg P fr ts x y) K):cI M φ H w fr ((do let z <- Builtin.append_ ts ty0 #[xv,yv];pure (Next.value z):Sem Next).run P w) K:=by
 unfold yg at h
 split at h
 ·rename_i t t' uC
  have uC:ts=#[t,t']:=by apply Array.ext';simpa using uC
  subst uC
  split at h
  ·exact h.elim
  ·split at h
   ·rename_i e ht
    split at h
    ·rename_i k0 kk n hu
     split at h
     ·rename_i hc
      obtain⟨c1,c2,c3,c4⟩:=hc
      split at h
      ·rename_i x0 u5
       simp only[V.den,D.den]at hx hy;subst hx;subst hy
       obtain⟨i,z,ev,h1,h2,h3,h4,h5,h6⟩:=ym hH u5
       obtain⟨k,rfl⟩:=Int.eq_ofNat_of_zero_le (Int.le_of_lt c1)
       simp only[Int.toNat_natCast]at c3 c4 h
       have BM:P.underlying t'=some (.int k0):=by
        unfold qf at hu
        split at hu
        ·rename_i k1 hk;injection hu with hu;subst hu;exact hk
        ·cases hu
       have hr:=tZ (P:=P) w t t' ty0 e i z (bf ht) BM h1 h2 (by rw[<- bL h1];exact c2) kk k ag ag (by rw[<- l7 h1];omega)
       have BC:=grownCap_ge w k 0 e
       have dO:z.cells.size=P.cellsOf e:=by rw[bL h1, <- h3]
       have LH:(Builtin.zeroCells z.cells k).toList=(List.replicate k ev).flatMap (·.cells.toList):=by
        have e1:(Builtin.zeroCells z.cells k).toList=(madeCells z.cells (k*z.cells.size)).toList:=by simp[Builtin.zeroCells,madeCells]
        rw[e1,nk]
        simp[List.flatMap_replicate,h5]
       refine eN hH cP (w':=w.drew.alloc (.cells (Builtin.zeroCells z.cells k++Builtin.zeroCells z.cells (grownCap w k 0 e - k)) e)) (xs:=(List.replicate k ev).flatMap (·.cells.toList)) ⟨rfl,rfl,rfl,aI,fun j hj _=>RowKit.Below.heap_alloc w.drew _ j hj⟩ c2 h hr ?_ ⟨List.replicate k ev,rfl, ?_, ?_⟩
       ·refine⟨?_, .inr ⟨w.heap.size,_,_,by rw[List.length_replicate],Nat.le_refl _,heap_alloc_new w.drew _,by rw[List.length_replicate];exact BC,grownCap_le_maxLen w k 0 e (by simp[maxLen];omega), ?_, ?_⟩⟩
        ·rw[<- LH,Array.length_toList,size_zeroCells,dO,List.length_replicate]
        ·rw[Array.size_append,size_zeroCells,size_zeroCells,dO, <- Nat.add_mul];congr 1;omega
        ·rw[Array.toList_append, <- LH,List.take_append_of_le_length (by simp[size_zeroCells,dO]),List.take_of_length_le (by simp[size_zeroCells,dO])]
       ·intro v hv
        rw[(List.mem_replicate.1 hv).2,h5,dO]
       ·clear hr h c1 c3 c4 BC LH
        induction k with
        |zero=>rfl
        |succ k ih=>exact⟨ev,List.replicate k ev,rfl,h6,ih⟩
      ·exact h.elim
     ·exact h.elim
    ·exact h.elim
   ·exact h.elim
 ·exact h.elim
theorem pk(hH:ay M φ H w){y:V}{yv:Value}{new:List D}{sz:Nat}(hy:V.den (ao M φ H) φ H w y yv)(h:eL H.o y=some new)(hw:∀z∈new,z.cells.length=sz):
 (yv= .slice none 0 0/\new=[])\/∃a c evs,yv= .slice (some a) new.length c/\D.aB (ao M φ H) w new evs/\(∀ev∈evs,ev.cells.size=sz)/\
  (∀j u,(evs.flatMap (·.cells.toList))[j]? =some u->w.cell? (a.add j)=some u)/\Flat (evs.flatMap (·.cells.toList)):=by
 have Sh:∀ {evs:List Value},D.aB (ao M φ H) w new evs->(∀ev∈evs,ev.cells.size=sz)/\Flat (evs.flatMap (·.cells.toList)):=by
  intro evs hd
  have key:∀ev∈evs,ev.cells.size=sz/\Flat ev.cells.toList:=by
   intro ev du
   obtain⟨i,hi⟩:=List.mem_iff_getElem?.1 du
   have hl:=D.aA _ _ hd
   have cG:i<new.length:=by rw[<- hl];exact(List.getElem?_eq_some_iff.1 hi).1
   obtain⟨v',tY,O7⟩:=D.dE _ _ i new[i] hd (by simp[cG])
   rw[hi]at tY;injection tY with tY;subst tY
   have h1:=D.ff _ _ O7
   have h2:=D.aA _ _ h1.1
   rw[hw _ (List.getElem_mem cG)]at h2
   exact⟨by simpa using h2,h1.2⟩
  refine⟨fun ev du=>(key ev du).1,fun u hu=> ?_⟩
  obtain⟨ev,h1,h2⟩:=List.mem_flatMap.1 hu
  exact(key ev h1).2 u h2
 have GN:D.den (ao M φ H) w (.sl new) yv->(yv= .slice none 0 0/\new=[])\/∃a c evs,yv= .slice (some a) new.length c/\D.aB (ao M φ H) w new evs/\(∀ev∈evs,ev.cells.size=sz)/\
  (∀j u,(evs.flatMap (·.cells.toList))[j]? =some u->w.cell? (a.add j)=some u)/\Flat (evs.flatMap (·.cells.toList)):=by
  rintro⟨base,len,cap,rfl,rfl,h2,h3,rL,h4⟩
  cases base with
  |none=>
   left
   have h5:=h3 rfl;subst h5
   have:new=[]:=by simpa using h2
   subst this;exact⟨rfl,rfl⟩
  |some a=>
   right
   obtain⟨h5,h6⟩:=h4 a rfl
   by_cases KA:cap=0
   ·have:new=[]:=List.eq_nil_of_length_eq_zero ag
    subst this
    exact⟨a,cap,[],rfl,rfl,aI,aI,by simp[Flat]⟩
   replace h5:=h5 KA
   have key:∀ (es:List D) (i:Nat),(∀z∈es,z.cells.length=sz)->D.elems (ao M φ H) w rL a i es->
    ∃evs,D.aB (ao M φ H) w es evs/\∀j u,(evs.flatMap (·.cells.toList))[j]? =some u->w.cell? (a.add (i*sz+j))=some u:=by
    intro es
    induction es with
    |nil=>intro i _ _;exact⟨[],rfl,aI⟩
    |cons e es ih=>
     intro i hz h
     obtain⟨⟨ev,k1,k2,k3⟩,k4⟩:=h
     obtain⟨evs,g1,g2⟩:=ih (i+1) (fun z hz'=>hz z (by simp[hz'])) k4
     have k5:ev.cells.size=sz:=by
      have:=D.aA _ _ (D.ff _ _ k3).1
      rw[hz e (by simp)]at this
      simpa using this
     refine⟨ev::evs,⟨ev,evs,rfl,k3,g1⟩,fun j u hj=> ?_⟩
     rw[List.flatMap_cons]at hj
     by_cases cG:j<sz
     ·rw[List.getElem?_append_left (by simp;omega)]at hj
      have:=(k2 j u m4).1
      rw[add_add a h5]at this
      rwa [<- k1,k5]at this
     ·rw[List.getElem?_append_right (by simp;omega)]at hj
      have:=g2 (j - sz) u (by simpa[k5]using hj)
      rwa [show(i+1)*sz+(j - sz)=i*sz+j by rw[Nat.add_mul];omega]at this
   obtain⟨evs,g1,g2⟩:=key new 0 hw h6
   obtain⟨s1,s2⟩:=Sh g1
   exact⟨a,cap,evs,rfl,g1,s1,fun j u hj=>by simpa using g2 j u hj,s2⟩
 unfold eL at h
 split at h
 ·rename_i es hD
  injection h with h;subst h
  cases y with
  |d x=>simp only[dB,Option.some.injEq]at hD;subst hD;exact GN hy
  |aZ=>simp only[dB,Option.some.injEq,D.sl.injEq]at hD;subst hD;exact .inl ⟨hy,rfl⟩
  |osl id ep=>
   obtain⟨_,_,xq⟩:=hy
   have aW:=hH.ok id
   simp only[dB]at hD
   cases hx:H.o id with
   |no=>simp[hx]at hD
   |row cs=>simp[hx]at hD
   |map kt vt l=>simp[hx]at hD
   |loop nf n env ps iZ eI st IK=>simp[hx]at hD
   |hZ l=>simp[hx]at hD
   |pb l last=>simp[hx]at hD
   |zQ s pos=>simp[hx]at hD
   |arr fF ty rL es'=>
    simp only[hx]at hD
    split at hD
    ·rename_i e;subst e
     simp only[Option.some.injEq,D.sl.injEq]at hD;subst hD
     simp only[aP,hx]at aW
     have hv:=(xq ep s7).2 rfl
     obtain⟨h0,xs,⟨hl,bG⟩,evs,rfl,h2,h3⟩:=aW
     obtain⟨s1,s2⟩:=Sh h3
     rw[hv]
     rcases bG with⟨h4,h5⟩|⟨g,cap,cur,h4,_,h5,h6,h7,h8,h9⟩
     ·exact .inl ⟨h4,by simpa using h5⟩
     ·right
      refine⟨_,cap,evs,h4,h3,s1,fun j u hj=> ?_,s2⟩
      refine qp h5 j u ?_
      rw[<- h9,List.getElem?_take]at hj
      split at hj
      ·simpa using hj
      ·cases hj
    ·cases hD
   |rV fF es'=>
    simp only[hx]at hD
    split at hD
    ·rename_i e;subst e
     simp only[Option.some.injEq,D.sl.injEq]at hD;subst hD
     simp only[aP,hx]at aW
     have hv:=(xq ep s7).2 rfl
     rw[hv]at GN|-
     exact GN aW
    ·cases hD
  |agg cs=>simp[dB]at hD
  |iface t x=>simp[dB]at hD
  |rK es'=>simp only[dB,Option.some.injEq,D.sl.injEq]at hD;subst hD;exact GN hy.1
  |mp id=>simp only[dB]at hD;split at hD<;>simp at hD
  |_=>simp[dB]at hD
 ·cases h
theorem nm(hH:ay M φ H w){id ep:Nat}(ed:H.us id){ty:TypeId}{sz:Nat}{es es':List D}(ho:H.o id= .arr ep ty sz es){val:Value}{xs':List Value}{m:Nat->Prop}(hk:dM m w w')
 (hm:∀b,m b->dx (φ id)=some b) (eY:∀b,dx val=some b->dx (φ id)=some b\/w.heap.size<=b) (dz:w'.ownsRow 0 ty sz val es'.length xs') (hd:fQ (ao M φ H) w sz es' xs'):
 let aG:=ax φ id val;let H':=H.put [(id, .arr (ep+1) ty sz es')]
 ay M aG H' w'/\Trans φ H w aG H' w'/\V.den (ao M aG H') aG H' w' (.osl id (ep+1)) val:=by
 intro aG H'
 have hl:(H.o id).live=true:=by rw[ho];rfl
 have ht:Trans φ H w aG H' w':={
  keep:=⟨hk.os,hk.tape,hk.output,hk.size,fun k h YT=>hk.block k h (fun e=>YT ⟨id,hl,hm k e⟩)⟩
  grow:=by
   rintro b ⟨j,h1,h2⟩
   by_cases hj:j=id
   ·subst hj
    simp only[aG,aK,if_true]at h2
    rcases eY b h2 with h3|h3
    ·exact .inl ⟨j,hl,h3⟩
    ·exact .inr h3
   ·simp[H',aG,hj]at h1 h2;exact .inl ⟨j,h1,h2⟩
  rel:={
   us:=fun j h=>by simp[H',h]
   row:=fun j hu hr=>by
    by_cases hj:j=id
    ·subst hj;simp[H',ab.cj]at hr
    ·simp[H',aG,hj]at hr|-;exact hr
   ep:=fun j e' hu he=>by
    by_cases hj:j=id
    ·subst hj;simp[H',ab.b9]at he;subst he;exact⟨ep,by rw[ho];rfl,Nat.le_succ _,fun h=>ag⟩
    ·simp[H',aG,hj]at he|-;exact⟨e',he,Nat.le_refl _⟩}}
 have h0:=hH.ok id
 simp only[aP,ho]at h0
 refine⟨hH.of ht (· =id) (fun j h=> ?_) (fun j h=> ?_) (fun j h=> ?_) (fun i j b hi hj bi bj=> ?_) (fun b=> ?_),ht, ?_,by simp[H'],fun e he=> ?_⟩
 ·subst h
  unfold aP
  simp only[H',bD,aK,if_true]
  exact⟨h0.1,xs',by simpa[aG]using dz,hd.mono (ht.blocks (M:=M))⟩
 ·refine⟨by simp[H',h],by simp[aG,h],fun hlj b hb=>hk.block b (hH.ours b ⟨j,hlj,hb⟩).2 fun e=>h ?_⟩
  exact hH.apart j id b hlj hl hb (hm b e)
 ·rw[dW]at h
  have h1:j≠id:=fun e=>h (.inr e)
  simp only[H',bD,aK,h1,if_false]
  exact Rx
 ·by_cases e1:i=id<;>by_cases e2:j=id
  ·exact e1.trans e2.symm
  ·subst e1
   simp[H',aG,e2]at hj bj bi
   rcases eY b bi with h3|h3
   ·exact hH.apart i j b hl hj h3 bj
   ·have:=(hH.ours b ⟨j,hj,bj⟩).2;omega
  ·subst e2
   simp[H',aG,e1]at hi bi bj
   rcases eY b bj with h3|h3
   ·exact hH.apart i j b hi hl bi h3
   ·have:=(hH.ours b ⟨i,hi,bi⟩).2;omega
  ·simp[H',aG,e1,e2]at hi hj bi bj
   exact hH.apart i j b hi hj bi bj
 ·rintro⟨j,h1,h2⟩
  by_cases hj:j=id
  ·subst hj;simp only[aG,aK,if_true]at h2;exact(kH dz b h2).2
  ·simp[H',aG,hj]at h1 h2
   exact Nat.lt_of_lt_of_le (hH.ours b ⟨j,h1,h2⟩).2 hk.size
 ·rcases dz.2 with⟨rfl,_⟩|⟨g,cap,cur,rfl,_⟩<;>rfl
 ·exact R5
theorem fQ.append {B:Nat->Prop}{sz:Nat}{es new:List D}{xs:List Value}{evs:List Value}(h:fQ B w sz es xs)(h1:D.aB B w new evs)(h2:∀ev∈evs,ev.cells.size=sz):
 fQ B w sz (es++new) (xs++evs.flatMap (·.cells.toList)):=by
 obtain⟨ae8,rfl,h3,h4⟩:=h
 refine⟨ae8++evs,aI,fun ev du=> ?_,D.br _ _ _ _ h4 h1⟩
 rcases List.mem_append.1 du with h|h
 ·exact h3 ev h
 ·exact h2 ev h
theorem cY{sz:Nat}:∀ (evs:List Value),(∀ev∈evs,ev.cells.size=sz)->(evs.flatMap (·.cells.toList)).length=evs.length*sz
 |[],_=>aI
 |x::l,hx=>by
  have:=cY l fun v hv=>hx v (by simp[hv])
  simp[this,hx x (by simp),Nat.add_mul,Nat.add_comm]
theorem EX(hH:ay M φ H w)(cP: ¬H.us fr){ts:Array TypeId}{ty0:TypeId}{x y:V}{xv yv:Value}(hx:V.den (ao M φ H) φ H w x xv)(hy:V.den (ao M φ H) φ H w y yv)
 (h:qg P H.o fr ts x y K):cI M φ H w fr ((do let z <- Builtin.append_ ts ty0 #[xv,yv];pure (Next.value z):Sem Next).run P w) K:=by
 unfold qg at h
 split at h
 ·rename_i t t' uC
  obtain⟨rfl,h⟩:=h
  have uC:ts=#[t,t]:=by apply Array.ext';simpa using uC
  subst uC
  split at h
  ·rename_i e ht
   obtain⟨new,LI,fT,hz,hw,h⟩:=h
   obtain⟨zz,hz⟩:=Option.isSome_iff_exists.1 hz
   obtain⟨i,z,g1,g2,g3,g4,_⟩:=jP hz
   have hi:=bL g1
   have Vl:=l7 g1
   have GO:=pk hH hy LI hw
   split at h
   ·obtain⟨h1,h2,hK⟩:=h
    simp only[V.den]at hx;subst hx
    rcases GO with⟨rfl,rfl⟩|⟨a,c,evs,rfl,k1,k2,k3,k4⟩
    ·refine eN hH cP (dM.refl _ _) fT hK (run_append_owned_none (P:=P) w 0 t ty0 e i i.size (bf ht) g1 _ 0 [] (World.ownsRow_nil w 0 e i.size)) ?_ ⟨[],rfl,aI,rfl⟩
     exact World.ownsRow_nil w _ e _
    ·obtain⟨v',w',r1,r2,r3,_⟩:=run_append_own (P:=P) w w.heap.size t ty0 e i z (P.cellsOf e) (P.bytesOf e) (bf ht) g1 g2 hi.symm Vl.symm (by rw[g3,hi]) fT _ 0 [] (World.ownsRow_nil w _ e _) a new.length c
      (evs.flatMap fun v:Value=>v.cells.toList) (by rw[cY evs k2,D.aA _ _ k1]) k3 (fun u hu=>k4 u hu) (by simp[maxLen];omega) uZ (Nat.le_refl _)
     refine eN hH cP (l6 r3) fT hK r1 (by simpa using r2) ⟨evs,rfl,k2,k1⟩
   ·rename_i es
    obtain⟨hw2,h⟩:=h
    have IV:=pk (sz:=P.cellsOf e) hH (y:= .d (.sl es)) (new:=es) (show V.den (ao M φ H) φ H w (.d (.sl es)) xv from hx.1) (by simp[eL,dB]) hw2
    obtain⟨b,n,hxv⟩:=hx.2
    subst hxv
    split at h
    ·rename_i hn;subst hn
     have YS:(sizeOf e).run P w= .ok i.size w:=by rw[dH g1,hi]
     have hr:(Builtin.append_ #[t,t] ty0 #[.slice b n n,yv]).run P w= .ok (.slice b n n) w:=by
      rcases GO with⟨rfl,_⟩|⟨a,c,evs,rfl,_⟩
      ·cases b<;>simp[Builtin.append_,run_underlying (bf ht),YS,Builtin.lenOf,Builtin.firstCells,storeCells]
      ·cases b<;>simp[Builtin.append_,run_underlying (bf ht),YS,Builtin.lenOf,Builtin.firstCells,storeCells,loadCells,loadCellsFrom]
     exact cI.same hH _ h aax hx
    ·rename_i ik
     obtain⟨h1,h2,hK⟩:=h
     rcases GO with⟨rfl,rfl⟩|⟨a,c,evs,rfl,k1,k2,k3,k4⟩
     ·exact absurd rfl ik
     ·have hlen:(evs.flatMap (·.cells.toList)).length=new.length*P.cellsOf e:=by rw[cY evs k2,D.aA _ _ k1]
      rcases IV with⟨e1,rfl⟩|⟨a',c',LJ,e1,q1,q2,q3,q4⟩
      ·injection e1 with e1 e2 e3
       subst e1;subst e2
       obtain⟨v',w',r1,r2,r3,_⟩:=run_append_own (P:=P) w w.heap.size t ty0 e i z (P.cellsOf e) (P.bytesOf e) (bf ht) g1 g2 hi.symm Vl.symm (by rw[g3,hi]) fT _ 0 [] (World.ownsRow_nil w _ e _) a new.length c
        (evs.flatMap fun v:Value=>v.cells.toList) (by rw[cY evs k2,D.aA _ _ k1]) k3 (fun u hu=>k4 u hu) (by simp[maxLen];simp at h1;omega) (by simp at h2|-;omega) (Nat.le_refl _)
       refine eN hH cP (l6 r3) fT hK r1 (by simpa using r2) ⟨evs,rfl,k2,k1⟩
      ·injection e1 with e1 e2 e3
       subst e1;subst e2
       have yl:(LJ.flatMap (·.cells.toList)).length=es.length*P.cellsOf e:=by rw[cY LJ q2,D.aA _ _ q1]
       have agF:0<new.length:=by cases new with|nil=>exact absurd rfl ik|cons _ _=>simp
       have zW:es.length+new.length<=maxLen:=by simp[maxLen];omega
       have hr:=run_append_grow (P:=P) w t ty0 e i z (bf ht) g1 g2 a' es.length es.length _ (by rw[yl,hi]) q3 a new.length c _ (by rw[hlen,hi]) k3 ag ag
        (growslice_fits ag (by rw[<- Vl];omega))
       refine eN (xs:=LJ.flatMap (·.cells.toList)++evs.flatMap (·.cells.toList)) hH cP ?_ fT hK hr ?_ ⟨LJ++evs,aI,fun ev du=> ?_,D.br _ _ _ _ q1 k1⟩
       ·exact⟨rfl,rfl,rfl,aI,fun k hk _=>RowKit.Below.heap_alloc w.drew _ k hk⟩
       ·have BC:=grownCap_ge w (es.length+new.length) es.length e
        refine⟨by rw[List.length_append,yl,hlen,List.length_append,Nat.add_mul], .inr ⟨w.heap.size,_,_,by rw[List.length_append],Nat.le_refl _,heap_alloc_new w.drew _,by rw[List.length_append];exact BC,
         grownCap_le_maxLen w _ _ e zW, ?_, ?_⟩⟩
        ·simp only[Array.size_append,List.size_toArray,size_zeroCells,g3,yl,hlen,hi, <- Nat.add_mul]
         congr 1
         omega
        ·have:(LJ.flatMap (·.cells.toList)++evs.flatMap (·.cells.toList)).length=(es++new).length*P.cellsOf e:=by rw[List.length_append,yl,hlen,List.length_append,Nat.add_mul]
         simp only[Array.toList_append]
         rw[<- this]
         exact List.take_left
       ·rcases List.mem_append.1 du with du|du
        ·exact q2 ev du
        ·exact k2 ev du
   ·rename_i id ep
    split at h
    ·rename_i fF ty sz es ho
     obtain⟨rfl,rfl,rfl,h1,h2,hK⟩:=h
     obtain⟨_,ed,xq⟩:=hx
     have hv:=(xq ep eH).2 rfl
     subst hv
     have aW:=hH.ok id
     simp only[aP,ho]at aW
     obtain⟨_,xs,dz,m5⟩:=aW
     have done:∀ {val:Value} {w':World} {m:Nat->Prop} {evs:List Value},(Builtin.append_ #[t,t] ty0 #[φ id,yv]).run P w= .ok val w'->dM m w w'->(∀b,m b->dx (φ id)=some b)->
      (∀b,dx val=some b->dx (φ id)=some b\/w.heap.size<=b)->w'.ownsRow 0 ty (P.cellsOf ty) val (es++new).length (xs++evs.flatMap (·.cells.toList))->D.aB (ao M φ H) w new evs->
      (∀ev∈evs,ev.cells.size=P.cellsOf ty)->cI M φ H w fr ((do let z <- Builtin.append_ #[t,t] ty0 #[φ id,yv];pure (Next.value z):Sem Next).run P w) K:=by
      intro val w' m evs r1 r2 r3 r4 r5 r6 r7
      obtain⟨s1,s2,s3⟩:=nm hH ed ho r2 r3 r4 r5 (m5.append r6 r7)
      exact⟨_,_,_,_,_,_,_,hK,by simp only[Sem.run_bind,r1,Result.andThen_ok];rfl, .inl rfl,s1,s2,s3,by simp[ed]⟩
     rcases GO with⟨rfl,rfl⟩|⟨a,c,evs,rfl,k1,k2,k3,k4⟩
     ·refine done (evs:=[]) (run_append_owned_none (P:=P) w 0 t ty0 ty i (P.cellsOf ty) (bf ht) g1 _ _ xs dz) (dM.refl (fun _=>False) _) (fun _ h=>h.elim) (fun b hb=> .inl hb) (by simpa using dz) rfl aI
     ·have hlen:(evs.flatMap (·.cells.toList)).length=new.length*P.cellsOf ty:=by rw[cY evs k2,D.aA _ _ k1]
      have zW:es.length+new.length<=maxLen:=by simp[maxLen];omega
      rcases dz.2 with⟨h3,h4⟩|⟨g,cap,cur,h3,h4,h5,h6,h7,h8,h9⟩
      ·have Cd:w.ownsRow w.heap.size ty (P.cellsOf ty) (φ id) es.length xs:=⟨dz.1, .inl ⟨h3,h4⟩⟩
       obtain⟨v',w',r1,r2,r3,_⟩:=run_append_own (P:=P) w w.heap.size t ty0 ty i z (P.cellsOf ty) (P.bytesOf ty) (bf ht) g1 g2 hi.symm Vl.symm (by rw[g3,hi]) fT _ _ xs Cd a new.length c
        (evs.flatMap fun v:Value=>v.cells.toList) hlen k3 (fun u hu=>k4 u hu) zW h2 (Nat.le_refl _)
       refine done r1 (l6 (by rw[h3]at r3;exact r3)) (fun _ h=>h.elim) (fun b hb=> .inr (kH r2 b hb).1) (by simpa using qs r2) k1 k2
      ·by_cases Si:es.length+new.length<=cap
       ·rw[h3]at dz
        obtain⟨w',r1,r2,r3⟩:=run_append_fits (P:=P) w 0 t ty0 ty i (P.cellsOf ty) (bf ht) g1 hi.symm g es.length cap xs dz a new.length c (evs.flatMap fun v:Value=>v.cells.toList) hlen k3 (fun u hu=>k4 u hu) Si
        rw[<- h3]at r1
        exact done (m:=(· =g)) r1 ⟨r3.os,r3.tape,r3.output,r3.size,fun k hk ik=>r3.block k hk (by simpa using ik)⟩ (fun b hb=>by subst hb;rw[h3];rfl) (fun b hb=> .inl (by rw[h3];exact hb)) (by simpa using r2) k1 k2
       ·have holds:∀j u,xs[j]? =some u->w.cell? ((⟨g,0,none⟩:Addr).add j)=some u:=dz.cells (g:=g) (by rw[h3];rfl)
        have hr:=run_append_grow (P:=P) w t ty0 ty i z (bf ht) g1 g2 ⟨g,0,none⟩ es.length cap xs (by rw[dz.1,hi]) holds a new.length c _ (by rw[hlen,hi]) k3 ag (by simp[maxLen]at zW;omega)
         (growslice_fits ag (by rw[<- Vl];omega))
        rw[<- h3]at hr
        refine done (m:=fun _=>False) hr ⟨rfl,rfl,rfl,aI,fun k hk _=>RowKit.Below.heap_alloc w.drew _ k hk⟩ (fun _ h=>h.elim) (fun b hb=> .inr (by simp[dx]at hb;omega)) ?_ k1 k2
        have BC:=grownCap_ge w (es.length+new.length) cap ty
        refine⟨by rw[List.length_append,dz.1,hlen,List.length_append,Nat.add_mul], .inr ⟨w.heap.size,_,_,by rw[List.length_append],Nat.zero_le _,heap_alloc_new w.drew _,by rw[List.length_append];exact BC,
         grownCap_le_maxLen w _ cap ty zW, ?_, ?_⟩⟩
        ·simp only[Array.size_append,List.size_toArray,size_zeroCells,g3,dz.1,hlen,hi, <- Nat.add_mul]
         congr 1
         omega
        ·have:(xs++evs.flatMap (·.cells.toList)).length=(es++new).length*P.cellsOf ty:=by rw[List.length_append,dz.1,hlen,List.length_append,Nat.add_mul]
         simp only[Array.toList_append,List.append_assoc]
         rw[<- List.append_assoc, <- this]
         exact List.take_left
    ·exact h.elim
   ·exact h.elim
  ·exact h.elim
 ·exact h.elim
end
end
section
section
variable {P:Program}{M:Nat->Prop}{φ:Place}{H:Hp}{w w':World}{fr:Nat}{K:V->List (Nat×ab)->List Nat->Prop}
theorem tf{t:TypeId}{b off:Nat}{ty:TypeId}{cur:Array Value}(hb:w.heap[b]? =some (.cells cur ty (0,0)))(v:Value)(hs:v.cells.size=P.cellsOf t)(fT:0<v.cells.size\/(P.info? t).isSome=true)
 (hle:off+v.cells.size<=cur.size) (hf:Flat v.cells.toList):
 (Instr.storeAt t (.pointer (some ⟨b,off,none⟩)) v).run P w= .ok () (w.setRow b (cur.toList.take off++v.cells.toList++cur.toList.drop (off+v.cells.size)).toArray):=by
 obtain⟨i,hi⟩:∃i,P.info? t=some i:=by
  rcases fT with fT|fT
  ·exact jQ (P:=P) (e:=t) ag
  ·exact Option.isSome_iff_exists.1 fT
 have:=run_storeCells_at (P:=P) b off ty v.cells.toList 0 cur w hb (by simpa using hle) (fun u hu=>hf u hu)
 simp only[Nat.add_zero,Array.length_toList]at this
 simp[Instr.storeAt,Instr.sureAddr,storeVar,dH hi,hs,this]
theorem Ce{sz:Nat}:∀ (evs:List Value) (i off:Nat) (ev IW:Value) (us:List Value),(∀x∈evs,x.cells.size=sz)->evs[i]? =some ev->off+us.length<=sz->
 IW.cells.toList=ev.cells.toList.take off++us++ev.cells.toList.drop (off+us.length)->
 (evs.set i IW).flatMap (·.cells.toList)=(evs.flatMap (·.cells.toList)).take (i*sz+off)++us++(evs.flatMap (·.cells.toList)).drop (i*sz+off+us.length)
 |[],_,_,_,_,_,_,h,_,_=>by simp at h
 |x::evs,0,off,ev,IW,us,hs,h,hle,he=>by
  simp at h;subst h
  have hx:x.cells.toList.length=sz:=by simpa using hs x aI
  simp only[List.set_cons_zero,List.flatMap_cons,Nat.zero_mul,Nat.zero_add,he]
  rw[List.take_append_of_le_length (by omega),List.drop_append_of_le_length (by omega)]
  simp[List.append_assoc]
 |x::evs,i+1,off,ev,IW,us,hs,h,hle,he=>by
  have hx:x.cells.toList.length=sz:=by simpa using hs x aI
  have ih:=Ce evs i off ev IW us (fun y hy=>hs y kD) (by simpa using h) hle he
  simp only[List.set_cons_succ,List.flatMap_cons,ih]
  rw[show(i+1)*sz+off=x.cells.toList.length+(i*sz+off) by rw[Nat.add_mul,hx];omega,List.take_length_add_append,
   show x.cells.toList.length+(i*sz+off)+us.length=x.cells.toList.length+(i*sz+off+us.length) by omega,List.drop_length_add_append]
  simp[List.append_assoc]
theorem Cf{α:Type}(l v:List α)(k m n:Nat)(hn:n=v.length)(h:k+n<=m)(hm:m<=l.length):(l.take k++v++l.drop (k+n)).take m=(l.take m).take k++v++(l.take m).drop (k+n):=by
 subst hn
 apply List.ext_getElem?
 intro i
 simp only[List.getElem?_append,List.getElem?_take,List.getElem?_drop,List.length_append,List.length_take]
 repeat' split
 all_goals first
  |rfl
  |omega
  |(congr 1;omega)
  |(symm;apply List.getElem?_eq_none;omega)
  |(apply List.getElem?_eq_none;omega)
  |skip
theorem LK{B:Nat->Prop}{e e':D}{off:Nat}{ds:List D}(h:e.put off ds=some e'){ev:Value}(he:D.den B w e ev){us:List Value}(hu:D.aB B w ds us)(hf:Flat us):
 ∃IW,D.den B w e' IW/\IW.cells.toList=ev.cells.toList.take off++us++ev.cells.toList.drop (off+us.length)/\off+us.length<=ev.cells.size:=by
 have hl:=D.aA _ _ hu
 rcases D.od _ _ he with⟨cs,a,rfl,rfl⟩|⟨h1,h2,h3⟩
 ·obtain⟨a',ha,h4,h5⟩:=he
  injection ha with ha;subst ha
  have hl4:=D.aA _ _ h4
  simp only[Array.length_toList]at hl4
  simp only[D.put]at h
  split at h
  ·rename_i hle
   injection h with h;subst h
   refine⟨.agg (a.toList.take off++us++a.toList.drop (off+us.length)).toArray,⟨_,rfl, ?_, ?_⟩,by simp[Value.cells],by simp[Value.cells];omega⟩
   ·simp only
    rw[hl]
    exact D.br _ _ _ _ (D.br _ _ _ _ (D.dF _ _ _ h4) hu) (D.et _ _ _ h4)
   ·intro x hx
    simp only[List.mem_append]at hx
    rcases hx with(hx|hx)|hx
    ·exact h5 x (List.mem_of_mem_take hx)
    ·exact hf x hx
    ·exact h5 x (List.mem_of_mem_drop hx)
  ·cases h
 ·have fU:off=0/\∃u,ds=[u]/\e'=u:=by
   cases e<;>simp only[D.put]at h<;>first
    |(split at h
      ·rename_i u;injection h with h;exact⟨rfl,u,rfl,h.symm⟩
      ·cases h)
    |(simp[D.cells]at h2;done)
    |skip
   obtain⟨a,rfl,_⟩:=he
   simp[Value.oneCell']at h1
  obtain⟨rfl,u,rfl,rfl⟩:=fU
  obtain⟨x,xs,rfl,h4,h5⟩:=hu
  simp only[D.aB]at h5;subst h5
  have hx:x.cells=#[x]:=by have:=hf x aI;cases x<;>simp_all[Value.oneCell',Value.cells]
  exact⟨x,h4,by simp[hx,h3],by simp[h3]⟩
theorem IX(hH:ay M φ H w){t:TypeId}{x v:V}{xv vv:Value}(hx:V.den (ao M φ H) φ H w x xv)(hv:V.den (ao M φ H) φ H w v vv)
 (h:ve P H.o t x v fun Δ rd=>K (.bW []) Δ rd):cI M φ H w fr ((do Instr.storeAt t xv vv;pure Next.skip:Sem Next).run P w) K:=by
 unfold ve at h
 split at h
 ·rename_i id off
  split at h
  ·rename_i cs ho
   obtain⟨cs',h1,hK⟩:=h
   obtain⟨_,ed,hp⟩:=hx
   obtain⟨b,eu,rfl⟩:=hp eH
   have aW:=hH.ok id
   simp only[aP,ho]at aW
   obtain⟨b',dT,ty,g1,g2,g3,g4⟩:=aW
   rw[eu]at g1;simp at g1;subst g1
   unfold zS at h1
   split at h1
   ·rename_i us hc
    split at h1
    ·rename_i hle
     injection h1 with h1;subst h1
     obtain⟨k1,k2⟩:=V.od _ _ _ hc hv
     have l1:=V.aA _ _ k1
     have l2:=V.aA _ _ g3
     simp only[Array.length_toList]at l1 l2
     have hr:=tf (P:=P) (t:=t) (off:=off) g2 vv ag (hle.2.1.imp (fun h=>ag) (fun h=>h)) ag k2
     obtain⟨t1,t2⟩:=B5 (cs':=cs.take off++us++cs.drop (off+us.length)) hH ed ho eu g2 (dT.toList.take off++vv.cells.toList++dT.toList.drop (off+vv.cells.size)).toArray (by
      simp only
      rw[l1]
      exact V.br _ _ _ _ (V.br _ _ _ _ (V.dF _ _ _ g3) k1) (V.et _ _ _ g3)) (by
      intro u hu
      simp only[List.mem_append]at hu
      rcases hu with(hu|hu)|hu
      ·exact g4 u (List.mem_of_mem_take hu)
      ·exact k2 u hu
      ·exact g4 u (List.mem_of_mem_drop hu))
     exact⟨_,_,_,_,_,_,_,hK,by simp only[Sem.run_bind,hr,Result.andThen_ok];rfl, .inr ⟨rfl,rfl⟩,t1,t2,⟨#[],rfl,rfl⟩,by simp[ed]⟩
    ·cases h1
   ·cases h1
  ·exact h.elim
 ·rename_i id ep i rL off
  split at h
  ·rename_i fF ty sz es ho
   obtain⟨rfl,rfl,e,he,y,hy,hyl,hyp,ik,e',fU,hK⟩:=h
   obtain⟨_,ed,hp⟩:=hx
   obtain⟨b,n,c,eu,rfl⟩:=(hp ep eH).2 rfl
   obtain⟨f1,f2,f3,f4,f5⟩:=cO hH v.ids (cJ v _ hv)
   have mW:id∉v.ids:=fun hm=>by have:=List.all_eq_true.1 ik id hm;simp at this
   have xf:=(f4 id mW).trans ho
   have hvd:=eC f1 v y vv f3 hy (V.aO f2 _ _ hv)
   obtain⟨k1,k2⟩:=D.ff _ _ hvd
   have l1:=D.aA _ _ k1
   simp only[Array.length_toList]at l1
   have aW:=f1.ok id
   simp only[aP,xf]at aW
   obtain⟨h0,xs,⟨hl,bG⟩,evs,rfl,h2,h3⟩:=aW
   rcases bG with⟨h4,h5⟩|⟨g,cap,cur,h4,h5,h6,h7,h8,h9,Sg⟩
   ·rw[eu]at h4;simp at h4
   ·rw[eu]at h4;simp at h4
    obtain⟨rfl,rfl,rfl⟩:=h4
    obtain⟨ev,du,hde⟩:=D.dE _ _ _ _ h3 he
    obtain⟨IW,p1,p2,p3⟩:=LK fU hde k1 k2
    simp only[Array.length_toList]at p2 p3
    have agM:=h2 ev (List.mem_of_getElem? du)
    have ae9:i<es.length:=(List.getElem?_eq_some_iff.1 he).1
    have jb:i*rL+rL<=es.length*rL:=by
     rw[<- Nat.succ_mul];exact Nat.mul_le_mul_right _ ae9
    have afa:es.length*rL<=cur.size:=by rw[h9];exact Nat.mul_le_mul_right _ h7
    have hr:=tf (P:=P) (t:=t) (off:=i*rL+off) h6 vv ag (.inl ag) ag k2
    have O8:=Ce evs i off ev IW vv.cells.toList h2 du (by simpa using(by omega:off+vv.cells.size<=rL)) (by simpa using p2)
    simp only[Array.length_toList]at O8
    have cN:((H.put (bT H.o v.ids)).o id).live=true:=by rw[xf];rfl
    have yi:dx (φ id)=some b:=by rw[eu];rfl
    have abq:=(f5 id).2 ed
    have ht:=eM (w:=w) (w':=w.setRow b (cur.toList.take (i*rL+off)++vv.cells.toList++cur.toList.drop (i*rL+off+vv.cells.size)).toArray) abq cN yi (kE w b _) (.arr ep ty rL (es.set i e')) s6 s6
    have hh:=ig f1 abq cN yi (kE w b (cur.toList.take (i*rL+off)++vv.cells.toList++cur.toList.drop (i*rL+off+vv.cells.size)).toArray) (.arr ep ty rL (es.set i e')) s6 s6 (by
     unfold aP
     simp only[bD,aK,if_true]
     refine⟨h0,(evs.set i IW).flatMap (·.cells.toList),⟨?_, .inr ⟨b,c,_,by rw[List.length_set];exact eu,Nat.zero_le _,setRow_heap w b cur _ ty (0,0) h6,by rw[List.length_set];exact h7,h8, ?_, ?_⟩⟩,evs.set i IW,rfl, ?_, ?_⟩
     ·rw[O8,List.length_set]
      simp only[List.length_append,List.length_take,List.length_drop,Array.length_toList,hl]
      omega
     ·simp only[List.size_toArray,List.length_append,List.length_take,List.length_drop,Array.length_toList]
      omega
     ·rw[O8,List.length_set, <- Sg]
      exact Cf cur.toList vv.cells.toList _ _ _ aI ag (by simpa using afa)
     ·intro x hx
      rcases List.mem_or_eq_of_mem_set hx with hx|rfl
      ·exact h2 x hx
      ·have:=congrArg List.length p2
       simp only[Array.length_toList,List.length_append,List.length_take,List.length_drop]at this
       omega
     ·exact D.aQ (ht.blocks (M:=M)) _ _ (D.B3 i es evs e' IW h3 p1))
    rw[<- dV]at hh ht
    refine⟨_,_,_,_,_,_,_,hK,by simp only[Sem.run_bind,hr,Result.andThen_ok];rfl, .inr ⟨rfl,rfl⟩,hh,f2.trans ht,⟨#[],rfl,rfl⟩,fun j hj=> ?_⟩
    simp only[List.map_append,List.mem_append,List.map_cons,List.map_nil,List.mem_singleton]at hj
    rcases hj with hj|hj
    ·left
     refine cJ v _ hv j ?_
     rw[l8]at hj
     simpa[Function.comp_def]using hj
    ·exact .inl (hj ▸ ed)
  ·exact h.elim
 ·exact h.elim
end
end
section
section
variable {P:Program}{B:Nat->Prop}{w:World}
theorem gZ{t:TypeId}{xs:List D}{off:Nat}{x:D}(h:cw P t xs off=some x){arr:Array Value}(hd:D.aB B w xs arr.toList)(hf:Flat arr.toList):
 ∃u,(∀w',(part t arr off).run P w'= .ok u w')/\D.den B w x u:=by
 unfold cw at h
 split at h
 ·rename_i ha
  split at h
  ·rename_i hl
   injection h with h;subst h
   obtain⟨i,hi⟩:=sb ha
   refine⟨.agg (arr.extract off (off+P.cellsOf t)),fun w'=> ?_,_,rfl, ?_, ?_⟩
   ·simp only[part,Sem.run_bind,r9 ha w',Result.andThen_ok,if_true,dH hi w',Sem.run_pure]
   ·have:=D.dF (P.cellsOf t) _ _ (D.et off _ _ hd)
    simpa[Array.toList_extract,List.extract]using this
   ·exact abf
  ·cases h
 ·rename_i ha
  obtain⟨u,hu,O3⟩:=D.dE _ _ _ _ hd h
  refine⟨u,fun w'=> ?_,O3⟩
  have BM:arr[off]? =some u:=by simpa using hu
  simp only[part,Sem.run_bind,pj ha w',Result.andThen_ok,Bool.false_eq_true,if_false,BM,Sem.run_pure]
 ·cases h
theorem yn{a b:Option Bool}{r:Bool}(h:B0 a b=some r):∃x y,a=some x/\b=some y/\r=(x&&y):=by
 unfold B0 at h
 split at h
 ·injection h with h;exact⟨_,_,rfl,rfl,h.symm⟩
 ·cases h
def EqD(P:Program)(m:Nat)(t:TypeId)(x y:D)(r:Bool):Prop:=
 ∀ (B:Nat->Prop) (w:World) (u v:Value),D.den B w x u->D.den B w y v->(Op.equalIn m t u v).run P w= .ok r w
theorem qt{d m:Nat}(IH:∀t x y r,mH P d t x y=some r->EqD P m t x y r){xs ys:List D}{cc bs:Array Value}(ha:D.aB B w xs cc.toList)(GF:Flat cc.toList)(hb:D.aB B w ys bs.toList)(O9:Flat bs.toList):
 ∀ (fs:List Field) (r:Bool),(∀f∈fs,f.name≠ "_")->yd (fun u off=>Ov (mH P d u) (cw P u xs off) (cw P u ys off)) (fs.map fun f=>(f.type,f.offset))=some r->
   (Op.eqFields m cc bs fs).run P w= .ok r w
 |[],r,_,h=>by simp[yd]at h;subst h;simp[Op.eqFields]
 |f::fs,r,hn,h=>by
  obtain⟨x,y,h1,h2,rfl⟩:=yn h
  simp only[Ov]at h1
  split at h1
  ·rename_i p q hp hq
   obtain⟨u,k1,k2⟩:=gZ hp ha GF
   obtain⟨v,k3,k4⟩:=gZ hq hb O9
   have h3:=IH _ _ _ _ h1 B w u v k2 k4
   have h4:=qt IH ha GF hb O9 fs y (fun g hg=>hn g (by simp[hg])) h2
   have ik:=hn f aI
   simp only[Op.eqFields,ik,ne_eq,not_false_eq_true,if_true,Sem.run_bind,k1,k3,h3,Result.andThen_ok]
   cases x
   ·simp
   ·simpa using h4
  ·cases h1
theorem tg{d m:Nat}{e:TypeId}(IH:∀t x y r,mH P d t x y=some r->EqD P m t x y r){xs ys:List D}{cc bs:Array Value}(ha:D.aB B w xs cc.toList)(GF:Flat cc.toList)(hb:D.aB B w ys bs.toList)(O9:Flat bs.toList):
 ∀ (n i:Nat) (r:Bool),ye (fun i=>Ov (mH P d e) (cw P e xs (i*P.cellsOf e)) (cw P e ys (i*P.cellsOf e))) n i=some r->
   (Op.eqItems m e (P.cellsOf e) cc bs (List.range' i n)).run P w= .ok r w
 |0,i,r,h=>by simp[ye]at h;subst h;simp[Op.eqItems]
 |n+1,i,r,h=>by
  obtain⟨x,y,h1,h2,rfl⟩:=yn h
  simp only[Ov]at h1
  split at h1
  ·rename_i p q hp hq
   obtain⟨u,k1,k2⟩:=gZ hp ha GF
   obtain⟨v,k3,k4⟩:=gZ hq hb O9
   have h3:=IH _ _ _ _ h1 B w u v k2 k4
   have h4:=tg IH ha GF hb O9 n (i+1) y h2
   simp only[List.range'_succ,Op.eqItems,Sem.run_bind,k1,k3,h3,Result.andThen_ok]
   cases x
   ·simp
   ·simpa using h4
  ·cases h1
theorem uD:∀ (d:Nat) (t:TypeId) (x y:D) (r:Bool),mH P d t x y=some r->∀m,d<=m->EqD P m t x y r
 |0,_,_,_,_,h=>by simp[mH]at h
 |d+1,t,x,y,r,h=>by
  intro m hm B w u v hu hv
  obtain⟨m,rfl⟩:∃k,m=k+1:=⟨m - 1,ag⟩
  have IH:∀t x y r,mH P d t x y=some r->EqD P m t x y r:=fun t x y r h=>uD d t x y r h m ag
  unfold mH at h
  cases hs:bp P t with
  |none=>rw[hs]at h;cases h
  |some sh=>
   rw[hs]at h
   unfold bp at hs
   cases ht:P.underlying t with
   |none=>rw[ht]at hs;cases hs
   |some td=>
    rw[ht]at hs
    cases td<;>simp only[Option.some.injEq,reduceCtorEq]at hs
    case int k0=>
     subst hs
     simp only at h
     split at h
     ·split at h
      ·rename_i e;subst e;injection h with h;subst h
       simp only[D.den]at hu hv;subst hu;subst hv
       exact run_equalIn_int w m t _ _ _ _ ht
      ·cases h
     ·cases h
    case bool=>
     subst hs
     simp only at h
     split at h
     ·injection h with h;subst h
      simp only[D.den]at hu hv;subst hu;subst hv
      exact run_equalIn_bool' w m t _ _ ht
     ·cases h
    case string=>
     subst hs
     simp only at h
     split at h
     ·injection h with h;subst h
      obtain⟨s1,rfl,rfl⟩:=hu
      obtain⟨s2,rfl,rfl⟩:=hv
      rw[run_equalIn_string w m t _ _ ht]
      rw[ByteArray.toList_eq,ByteArray.toList_eq]
     ·cases h
    case struct fs=>
     split at hs
     ·rename_i hc
      injection hs with hs;subst hs
      simp only[Bool.and_eq_true,Bool.not_eq_true',List.all_eq_true,bne_iff_ne]at hc
      simp only at h
      split at h
      ·obtain⟨cc,rfl,ha,GF⟩:=hu
       obtain⟨bs,rfl,hb,O9⟩:=hv
       have hfs:P.fieldsOf t=fs:=by simp[Program.fieldsOf,ht]
       rw[run_equalIn_struct w m t cc bs (by rw[hfs];exact ht) hc.1,hfs]
       exact qt IH ha GF hb O9 _ _ hc.2 h
      ·cases h
     ·cases hs
    case array n e=>
     split at hs
     ·rename_i hc
      injection hs with hs;subst hs
      simp only at h
      split at h
      ·obtain⟨cc,rfl,ha,GF⟩:=hu
       obtain⟨bs,rfl,hb,O9⟩:=hv
       obtain⟨i,hi⟩:=Option.isSome_iff_exists.1 hc
       rw[run_equalIn_array w m cc bs ht hi,List.range_eq_range']
       exact tg IH ha GF hb O9 _ _ _ h
      ·cases h
     ·cases hs
theorem U9{t:TypeId}{cc bs:List D}{r:Bool}(h:mH P 100 t (.agg cc) (.agg bs)=some r)(hg:P.eqGuardType P.depth t=false):Ly P t (.agg cc) (.agg bs) r:=by
 intro B w u v hu hv
 refine⟨uD 100 t _ _ _ h _ bI B w u v hu hv,fun op a b=> ?_⟩
 obtain⟨cc,rfl,_⟩:=hu
 obtain⟨bs,rfl,_⟩:=hv
 exact run_eqGuard_agg w op t a b cc bs hg
end
end
end Go.Proofs.YtnkamdiiakdkgaaGreat
