/-
  A PART. Conditions: none.
-/
import Derived.ChangeKeysEq
import Derived.Test.YtnkamdiiakdkgaaGreatEe2
set_option linter.unusedSimpArgs false
set_option linter.unusedVariables false
set_option maxHeartbeats 8000000
namespace Go.Proofs.YtnkamdiiakdkgaaGreat
section
section
variable {P:Program}{M:Nat->Prop}{φ:Place}{H:Hp}{w:World}{fr:Nat}{K:V->List (Nat×aa)->List Nat->Prop}
def aa.fz:aa->aa
 | .arr ep _ _ es=> .qg ep es
 | .map _ _ l=> .gw l
 |o=>o
theorem kK(o:Nat->aa)(ids:List Nat):bY o ids=ids.map fun id=>(id,(o id).fz):=by
 unfold bY
 refine List.map_congr_left fun id _=> ?_
 cases o id<;>rfl
theorem wN(H:Hp){id:Nat}(hu:H.us id){x:aa}(hx:H.o id=x):H.put [(id,x)]=H:=by
 obtain⟨o,us⟩:=H
 simp only[Hp.put,put,List.foldl_cons,List.foldl_nil,Hp.mk.injEq,List.map_cons,List.map_nil,List.mem_singleton]
 constructor
 ·funext j
  by_cases hj:j=id
  ·subst hj;simpa using hx.symm
  ·simp[hj]
 ·funext j
  simp only[eq_iff_iff]
  exact⟨fun h=>h.elim (fun h=>h) fun e=>e ▸ hu, .inl⟩
theorem rC(o:Nat->aa):∀ (ids:List Nat) (H:Hp),ay M φ H w->(∀id∈ids,H.us id)->(∀id,H.o id=o id\/H.o id=(o id).fz)->
 let H':=H.put (ids.map fun id=>(id,(o id).fz));ay M φ H' w/\Trans φ H w φ H' w/\(∀id∈ids,H'.o id=(o id).fz)/\(∀id,H'.o id=o id\/H'.o id=(o id).fz)/\(∀id,id∉ids->H'.o id=H.o id)/\∀id,H'.us id↔H.us id
 |[],H,hH,_,ho=>by
  simp only[List.map_nil,pF]
  exact⟨hH,Trans.refl _ _ _,aJ,ho,aJ,aJ⟩
 |id::ids,H,hH,hu,ho=>by
  have h1:ay M φ (H.put [(id,(o id).fz)]) w/\Trans φ H w φ (H.put [(id,(o id).fz)]) w:=by
   rcases ho id with h|h
   ·cases hx:o id with
    |arr ep ty sz es=>exact RL hH (hu id aJ) (h.trans hx)
    |map kt vt l=>exact IJ hH (hu id aJ) (h.trans hx)
    |_=>
     rw[wN H (hu id (by simp)) (h.trans (by rw[hx];rfl))]
     exact⟨hH,Trans.refl _ _ _⟩
   ·rw[wN H (hu id (by simp)) h]
    exact⟨hH,Trans.refl _ _ _⟩
  have h2:∀j,(H.put [(id,(o id).fz)]).o j=o j\/(H.put [(id,(o id).fz)]).o j=(o j).fz:=by
   intro j
   by_cases hj:j=id
   ·subst hj;right;simp
   ·simpa[hj]using ho j
  have ih:=rC o ids (H.put [(id,(o id).fz)]) h1.1 (fun j hj=>by simp[hu j (by simp[hj])]) h2
  obtain⟨i1,i2,i3,i4,i5,i6⟩:=ih
  have e:H.put ((id::ids).map fun id=>(id,(o id).fz))=(H.put [(id,(o id).fz)]).put (ids.map fun id=>(id,(o id).fz)):=by
   rw[<- bW];rfl
  rw[e]
  refine⟨i1,h1.2.trans i2,fun j hj=> ?_,i4,fun j hj=> ?_,fun j=> ?_⟩
  ·rcases List.mem_cons.1 hj with rfl|hj
   ·by_cases hm:j∈ids
    ·exact i3 j hm
    ·rw[i5 j hm];simp
   ·exact i3 j hj
  ·simp only[List.mem_cons,not_or]at hj
   rw[i5 j hj.2];simp[hj.1]
  ·rw[i6 j,eF]
   exact⟨fun h=>h.elim (fun h=>h) fun e=>e ▸ hu id aJ, .inl⟩
theorem cW(hH:ay M φ H w)(ids:List Nat)(hu:∀id∈ids,H.us id):
 let H':=H.put (bY H.o ids);ay M φ H' w/\Trans φ H w φ H' w/\(∀id∈ids,H'.o id=(H.o id).fz)/\(∀id,id∉ids->H'.o id=H.o id)/\∀id,H'.us id↔H.us id:=by
 rw[kK]
 obtain⟨a,b,c,_,d,e⟩:=rC H.o ids H hH hu (fun _=> .inl rfl)
 exact⟨a,b,c,d,e⟩
mutual
theorem b9:∀ (v:V) (val:Value),V.den (ao M φ H) φ H w v val->∀id∈v.ids,H.us id
 | .osl id ep,_,h,j,hj=>by simp[V.ids]at hj;subst hj;exact h.2.1
 | .mp id,_,h,j,hj=>by simp[V.ids]at hj;subst hj;exact h.2.1
 | .agg cs,_,h,j,hj=>by obtain⟨a,rfl,h,_⟩:=h;exact du cs _ h j (by simpa[V.ids]using hj)
 | .iface t x,_,h,j,hj=>by obtain⟨u,rfl,h⟩:=h;exact b9 x u h j (by simpa[V.ids]using hj)
 | .d _,_,_,_,hj| .aU,_,_,_,hj| .cc _,_,_,_,hj| .ptr _ _,_,_,_,hj| .pe _ _ _ _ _,_,_,_,hj| .pp _ _,_,_,_,hj| .func _ _ _,_,_,_,hj| .ag,_,_,_,hj| .qx _,_,_,_,hj| .jo _ _ _ _,_,_,_,hj| .fl,_,_,_,hj| .jI _,_,_,_,hj=>by simp[V.ids]at hj
theorem du:∀ (vs:List V) (vals:List Value),V.aG (ao M φ H) φ H w vs vals->∀id∈V.bC vs,H.us id
 |[],_,_,j,hj=>by simp[V.bC]at hj
 |v::vs,_,h,j,hj=>by
  obtain⟨u,us,rfl,h1,h2⟩:=h
  rcases List.mem_append.1 (show j∈v.ids++V.bC vs from hj)with hj|hj
  ·exact b9 v u h1 j hj
  ·exact du vs us h2 j hj
end
mutual
theorem eG(hH:ay M φ H w){o:Nat->aa}:∀ (v:V) (x:D) (val:Value),(∀id∈v.ids,H.o id=(o id).fz)->dS o v=some x->V.den (ao M φ H) φ H w v val->D.den (ao M φ H) w x val
 | .d y,x,val,_,h,hd=>by simp[dS]at h;subst h;exact hd
 | .aU,x,val,_,h,hd=>by
   simp[dS]at h;subst h
   simp only[V.den]at hd;subst hd
   exact Ub
 | .osl id ep,x,val,ho,h,hd=>by
   obtain⟨_,_,hd⟩:=hd
   have ho:=ho id (by simp[V.ids])
   have bp:=hH.ok id
   simp only[dS]at h
   cases hx:o id with
   |no=>simp[hx]at h
   |row cs=>simp[hx]at h
   |map kt vt l=>simp[hx]at h
   |loop nf n env ps jM fm st KH=>simp[hx]at h
   |gw l=>simp[hx]at h
   |pW l last=>simp[hx]at h
   |yY s pos=>simp[hx]at h
   |arr fq ty sz es=>
    simp only[hx]at h ho
    split at h
    ·rename_i e;subst e;injection h with h;subst h
     exact UT
    ·cases h
   |qg fq es=>
    simp only[hx]at h ho
    split at h
    ·rename_i e;subst e;injection h with h;subst h
     exact UT
    ·cases h
 | .mp id,x,val,ho,h,hd=>by
   obtain⟨_,_,hd⟩:=hd
   have ho:=ho id (by simp[V.ids])
   have bp:=hH.ok id
   simp only[dS]at h
   cases hx:o id with
   |map kt vt l=>
    exact adi
   |gw l=>
    exact adi
   |_=>simp[hx]at h
 | .agg cs,x,val,ho,h,hd=>by
   simp only[dS,Option.map_eq_some_iff]at h
   obtain⟨ds,h1,rfl⟩:=h
   obtain⟨a,rfl,h2,h3⟩:=hd
   exact⟨a,rfl,dN hH cs ds _ (fun id aq=>ho id (by simpa[V.ids]using aq)) h1 h2,h3⟩
 | .iface t y,x,val,ho,h,hd=>by
   simp only[dS,Option.map_eq_some_iff]at h
   obtain⟨z,h1,rfl⟩:=h
   obtain⟨u,rfl,h2⟩:=hd
   exact⟨u,rfl,eG hH y z u (fun id aq=>ho id (by simpa[V.ids]using aq)) h1 h2⟩
 | .cc _,_,_,_,h,_| .ptr _ _,_,_,_,h,_| .pe _ _ _ _ _,_,_,_,h,_| .pp _ _,_,_,_,h,_| .func _ _ _,_,_,_,h,_| .ag,_,_,_,h,_| .jo _ _ _ _,_,_,_,h,_| .fl,_,_,_,h,_| .jI _,_,_,_,h,_=>by simp[dS]at h
 | .qx es,x,val,_,h,hd=>by simp[dS]at h;subst h;exact hd.1
theorem dN(hH:ay M φ H w){o:Nat->aa}:∀ (vs:List V) (xs:List D) (vals:List Value),(∀id∈V.bC vs,H.o id=(o id).fz)->cF o vs=some xs->V.aG (ao M φ H) φ H w vs vals->D.aG (ao M φ H) w xs vals
 |[],xs,vals,_,h,hd=>by simp[cF]at h;subst h;exact hd
 |v::vs,xs,vals,ho,h,hd=>by
  simp only[cF,Option.bind_eq_some_iff,Option.map_eq_some_iff]at h
  obtain⟨x,h1,ys,h2,rfl⟩:=h
  obtain⟨u,us,rfl,h3,h4⟩:=hd
  exact⟨u,us,rfl,eG hH v x u (fun id aq=>ho id (by simp[V.bC,aq])) h1 h3,dN hH vs ys us (fun id aq=>ho id (by simp[V.bC,aq])) h2 h4⟩
end
theorem uB(hH:ay M φ H w)(c8: ¬H.us fr){s:Sem Value}(cs:List V)(dk:Array Value)(ty:TypeId)(hK:K (.ptr fr 0) [(fr, .row cs)] [])
 (hr:s.run P w= .ok (.pointer (some ⟨w.heap.size,0,none⟩)) (w.alloc (.cells dk ty))) (hd:V.aG (ao M φ H) φ H w cs dk.toList) (hf:Flat dk.toList):
 da M φ H w fr ((do let y <- s;pure (Next.value y):Sem Next).run P w) K:=by
 obtain⟨h1,h2,h3⟩:=Bm hH c8 cs dk ty hd hf
 exact Ur
theorem KJ(hH:ay M φ H w)(c8: ¬H.us fr){t:TypeId}(h:∃cs,ct P t=some cs/\K (.ptr fr 0) [(fr, .row cs)] []):
 da M φ H w fr ((do let y <- Instr.alloc t true (.tuple #[]);pure (Next.value y):Sem Next).run P w) K:=by
 obtain⟨cs,hz,hK⟩:=h
 obtain⟨i,v,h1,h2,h3,h4,rfl⟩:=gP hz
 refine uB hH c8 _ v.cells t hK ?_ (ef _ h4) h4
 simp[Instr.alloc,zeroValue,typeInfo,h1,h2,newVar,newRow]
theorem RQ(hH:ay M φ H w)(c8: ¬H.us fr){t:TypeId}{x:V}{xv:Value}(hx:V.den (ao M φ H) φ H w x xv)(h:∃cs,x.cells=some cs/\K (.ptr fr 0) [(fr, .row cs)] []):
 da M φ H w fr ((do let y <- Instr.box t xv;pure (Next.value y):Sem Next).run P w) K:=by
 obtain⟨cs,hc,hK⟩:=h
 obtain⟨h1,h2⟩:=V.pE x xv cs hc hx
 refine uB hH c8 _ xv.cells t hK ?_ h1 h2
 simp[Instr.box,newVar,newRow]
theorem KL(off:Nat):∀ (us:List Value) (cells:Array Value),off+us.length<=cells.size->
 ((us.zipIdx.foldl (fun cs (p:Value×Nat)=>cs.setIfInBounds (off+p.2) p.1) cells)).toList=cells.toList.take off++us++cells.toList.drop (off+us.length):=by
 have key:∀ (us:List Value) (k:Nat) (cells:Array Value),off+k+us.length<=cells.size->
  (((us.zipIdx k).foldl (fun cs (p:Value×Nat)=>cs.setIfInBounds (off+p.2) p.1) cells)).toList=cells.toList.take (off+k)++us++cells.toList.drop (off+k+us.length):=by
  intro us
  induction us with
  |nil=>intro k cells h;simp
  |cons u us ih=>
   intro k cells h
   simp only[List.zipIdx_cons,List.foldl_cons]
   rw[ih (k+1) _ (by simp at h|-;omega)]
   simp only[Array.toList_setIfInBounds,List.length_cons]
   have cS:off+k<cells.toList.length:=by simp at h|-;omega
   rw[show off+(k+1)=off+k+1 by omega,List.take_set,List.take_succ_eq_append_getElem cS,List.set_append_right _ _ (by simp;omega)]
   simp only[List.length_take]
   rw[show min (off+k) cells.toList.length=off+k by omega,Nat.sub_self]
   simp only[List.set_cons_zero,List.append_assoc,List.cons_append,List.nil_append]
   rw[List.drop_set_of_lt (by omega)]
   congr 3
   rw[show off+k+1+us.length=off+k+(us.length+1) by omega]
 intro us cells h
 have:=key us 0 cells (by simpa using h)
 simpa using this
theorem Dz(places:List (Nat×Nat)):∀ (parts:List (Nat×V)) (nb:List (Nat×Value)) (cs cs':List V) (cells:Array Value),
 nb.map (·.1)=parts.map (·.1)->V.aG (ao M φ H) φ H w (parts.map (·.2)) (nb.map (·.2))->V.aG (ao M φ H) φ H w cs cells.toList->Flat cells.toList->uz places cs parts=some cs'->
 ∃ja,(∀place:Nat->Option (Nat×Nat),(∀i p,places[i]? =some p->place i=some p)->Instr.fill place cells nb=some ja)/\V.aG (ao M φ H) φ H w cs' ja.toList/\Flat ja.toList
 |[],nb,cs,cs',cells,h1,_,h3,h4,h=>by
  cases nb with
  |nil=>simp[uz]at h;subst h;exact⟨cells,fun _ _=>rfl,h3,h4⟩
  |cons a l=>simp at h1
 |(i,v)::parts,nb,cs,cs',cells,h1,h2,h3,h4,h=>by
  cases nb with
  |nil=>simp at h1
  |cons a nb=>
   obtain⟨i',val⟩:=a
   simp only[List.map_cons,List.cons.injEq]at h1
   obtain⟨rfl,h1⟩:=h1
   simp only[List.map_cons]at h2
   obtain⟨u,us,e,h5,h6⟩:=h2
   simp only[List.cons.injEq]at e
   obtain⟨rfl,rfl⟩:=e
   simp only[uz]at h
   split at h
   ·rename_i off size us vL hc
    split at h
    ·rename_i dU
     obtain⟨g1,g2⟩:=V.pE v _ us hc h5
     have hl:=V.aE _ _ g1
     have hl3:=V.aE _ _ h3
     have hs:=KL off val.cells.toList cells (by simp at hl hl3|-;omega)
     rw[Array.length_toList]at hl hl3
     have ih:=Dz places parts nb _ cs' (val.cells.toList.zipIdx.foldl (fun cs (p:Value×Nat)=>cs.setIfInBounds (off+p.2) p.1) cells) h1 h6 (by
      rw[hs]
      refine V.bc _ _ _ _ (V.bc _ _ _ _ (V.cZ _ _ _ h3) g1) ?_
      rw[show val.cells.toList.length=us.length by simpa using hl]
      exact V.ee _ _ _ h3) (by
      rw[hs]
      intro x hx
      simp only[List.mem_append]at hx
      rcases hx with(hx|hx)|hx
      ·exact h4 x (List.mem_of_mem_take hx)
      ·exact g2 x hx
      ·exact h4 x (List.mem_of_mem_drop hx)) h
     obtain⟨ja,i1,i2⟩:=ih
     refine⟨ja,fun place hp=> ?_,i2⟩
     have i1:=i1 place hp
     simp only[Instr.fill,hp _ _ vL]
     rw[if_neg (by simp;omega), <- i1]
     have e:∀ (c:Array Value),c.zipIdx.foldl (fun cs (x:Value×Nat)=>cs.setIfInBounds (off+x.2) x.1) cells=c.toList.zipIdx.foldl (fun cs (x:Value×Nat)=>cs.setIfInBounds (off+x.2) x.1) cells:=by
      intro c;rw[<- Array.foldl_toList,Array.toList_zipIdx]
     rw[<- e]
    ·cases h
   ·cases h
theorem DA{t:TypeId}{pl:List (Nat×Nat)}(h:dC P t=some pl)(parts:List (Nat×Value))(cells ja:Array Value){i:TypeInfo}{z:Value}(hi:P.info? t=some i)(hz:i.zero=some z)(hc:z.cells=cells)
 (hf:∀place:Nat->Option (Nat×Nat),(∀i p,pl[i]? =some p->place i=some p)->Instr.fill place cells parts=some ja):
 P.built t parts=some ja:=by
 subst hc
 unfold dC at h
 unfold Program.built
 cases hd:P.underlying t with
 |none=>simp[hd]at h
 |some d=>
  cases d<;>simp only[hd]at h<;>try (cases h;done)
  case struct fs=>
   simp only[Option.ite_none_right_eq_some,Option.some.injEq]at h
   obtain⟨bu,rfl⟩:=h
   have hm:fs.toList.mapM (fun f=>(P.info? f.type).map fun i=>(f.offset,i.size))=some (fs.toList.map fun f=>(f.offset,P.cellsOf f.type)):=by
    generalize fs.toList=l at bu
    clear hf
    induction l with
    |nil=>rfl
    |cons f l ih=>
     simp only[List.all_cons,Bool.and_eq_true]at bu
     obtain⟨j,hj⟩:=Option.isSome_iff_exists.1 bu.1
     simp[List.mapM_cons,ih bu.2,hj,bM hj]
   simp only[hi,hz,hm]
   exact hf _ aJ
  case array n e=>
   simp only[Option.ite_none_right_eq_some,Option.some.injEq]at h
   obtain⟨bu,rfl⟩:=h
   obtain⟨j,hj⟩:=Option.isSome_iff_exists.1 bu
   simp only[hi,hz,hj]
   refine hf _ fun k p hp=> ?_
   rw[List.getElem?_map]at hp
   simp only[Option.map_eq_some_iff]at hp
   obtain⟨a,h1,rfl⟩:=hp
   rw[List.getElem?_range]at h1
   ·injection h1 with h1;subst h1;rw[bM hj]
   ·rcases Nat.lt_or_ge k n with hn|hn
    ·exact hn
    ·rw[List.getElem?_eq_none (by simpa using hn)]at h1;cases h1
theorem KM(hH:ay M φ H w){t:TypeId}{parts:Array (Nat×Operand)}{s:S}{a:Act}(eA:∀i,V.den (ao M φ H) φ H w (s.env i) (a.tmps.getD i undef))
 (h:∃z pl cs,ct P t=some z/\dC P t=some pl/\uz pl z (parts.toList.map fun p=>(p.1,s.ev p.2))=some cs/\K (qi cs) [] []):
 da M φ H w fr ((do let y <- Instr.build t (parts.map fun(i,x)=>(i,a.eval x));pure (Next.value y):Sem Next).run P w) K:=by
 obtain⟨z,pl,cs,hz,vL,nX,hK⟩:=h
 obtain⟨i,zv,h1,h2,h3,h4,rfl⟩:=gP hz
 have hd:V.aG (ao M φ H) φ H w ((parts.toList.map fun p=>(p.1,s.ev p.2)).map (·.2)) ((parts.map fun(i,x)=>(i,a.eval x)).toList.map (·.2)):=by
  have:=lM s a eA (parts.toList.map (·.2))
  simpa[Function.comp_def]using this
 have he:(parts.map fun(i,x)=>(i,a.eval x)).toList.map (·.1)=(parts.toList.map fun p=>(p.1,s.ev p.2)).map (·.1):=by simp[Function.comp_def]
 obtain⟨ja,g1,g2,g3⟩:=Dz (M:=M) (φ:=φ) (H:=H) (w:=w) pl _ _ _ cs zv.cells he hd (ef _ h4) h4 nX
 have hb:P.built t (parts.map fun(i,x)=>(i,a.eval x)).toList=some ja:=DA vL _ zv.cells ja h1 h2 rfl g1
 exact da.plain hH (.agg ja) hK (run_build w t _ ja hb) (mq _ _ g2 g3)
end
end
section
section
variable {P:Program}{M:Nat->Prop}{φ:Place}{H:Hp}{w w':World}{fr:Nat}{K:V->List (Nat×aa)->List Nat->Prop}
theorem rD{base:Nat}{e:TypeId}{sz n:Nat}{v:Value}{xs:List Value}(h:w.ownsRow base e sz v n xs):w.ownsRow 0 e sz v n xs:=by
 obtain⟨h1,h2⟩:=h
 refine⟨h1, ?_⟩
 rcases h2 with h2|⟨g,cap,cur,a,_,b⟩
 ·exact .inl h2
 ·exact .inr ⟨g,cap,cur,a,Nat.zero_le _,b⟩
theorem lN{base:Nat}{e:TypeId}{sz n:Nat}{v:Value}{xs:List Value}(h:w.ownsRow base e sz v n xs)(b:Nat)(hb:dG v=some b):base<=b/\b<w.heap.size:=by
 rcases h.2 with⟨rfl,_⟩|⟨g,cap,cur,rfl,h1,h2,_⟩
 ·cases hb
 ·simp[dG]at hb;subst hb
  exact⟨h1,(Array.getElem?_eq_some_iff.1 h2).1⟩
theorem eY.mono {B B':Nat->Prop}(hb:∀b,cP w b-> ¬B b->w'.heap[b]? =w.heap[b]? /\ ¬B' b){sz:Nat}{es:List D}{xs:List Value}(h:eY B w sz es xs):eY B' w' sz es xs:=by
 obtain⟨evs,h1,h2,h3⟩:=h
 exact⟨evs,h1,h2,D.aQ hb es evs h3⟩
theorem IK(hH:ay M φ H w)(c8: ¬H.us fr)(hk:ed (fun _=>False) w w'){val:Value}{ty:TypeId}{sz:Nat}{es:List D}{xs:List Value}(dU:0<sz)
 (dI:w'.ownsRow w.heap.size ty sz val es.length xs) (hd:eY (ao M φ H) w sz es xs):
 let aH:=au φ fr val;let H':=H.put [(fr, .arr 0 ty sz es)]
 ay M aH H' w'/\Trans φ H w aH H' w'/\V.den (ao M aH H') aH H' w' (.osl fr 0) val:=by
 intro aH H'
 have ht:Trans φ H w aH H' w':=eg hk c8 _ _ fun b hb=>(lN dI b hb).1
 refine⟨js hH hk c8 _ _ (lN dI) ?_,ht, ?_,by simp[H'],fun e he=> ?_⟩
 ·unfold aO
  simp only[bT,aR,if_true]
  exact⟨dU,xs,rD dI,hd.mono (ht.blocks (M:=M))⟩
 ·rcases dI.2 with⟨rfl,_⟩|⟨g,cap,cur,rfl,_⟩<;>rfl
 ·exact U8
theorem fA(hH:ay M φ H w)(c8: ¬H.us fr)(hk:ed (fun _=>False) w w'){s:Sem Value}{val:Value}{ty:TypeId}{sz:Nat}{es:List D}{xs:List Value}{rd:List Nat}(dU:0<sz)
 (hK:K (.osl fr 0) [(fr, .arr 0 ty sz es)] rd) (hr:s.run P w= .ok val w') (dI:w'.ownsRow w.heap.size ty sz val es.length xs) (hd:eY (ao M φ H) w sz es xs):
 da M φ H w fr ((do let y <- s;pure (Next.value y):Sem Next).run P w) K:=by
 obtain⟨h1,h2,h3⟩:=IK hH c8 hk dU dI hd
 exact Ur
theorem kL{e:TypeId}(h:0<P.cellsOf e):∃i,P.info? e=some i:=by
 cases hi:P.info? e with
 |none=>simp[Program.cellsOf,hi]at h
 |some i=>exact⟨i,rfl⟩
theorem DB(parts:List (Nat×Value))(n:Nat)(h:parts.map (·.1)=List.range n):parts=((parts.map (·.2)).zipIdx 0).map fun x=>(x.2,x.1):=by
 apply List.ext_getElem?
 intro i
 have hl:parts.length=n:=by have:=congrArg List.length h;simpa using this
 rw[List.getElem?_map,List.getElem?_zipIdx,List.getElem?_map]
 cases hp:parts[i]? with
 |none=>simp
 |some p=>
  have h1:(parts.map (·.1))[i]? =some p.1:=by simp[hp]
  rw[h,List.getElem?_range (by have:=(List.getElem?_eq_some_iff.1 hp).1;omega)]at h1
  simp at h1
  obtain⟨p1,p2⟩:=p
  simp_all
theorem vi{t e:TypeId}(ht:P.underlying t=some (.slice e))(et:0<P.cellsOf e):(Instr.buildSlice t 0 #[]).run P w= .ok (.slice (some ⟨w.heap.size,0,none⟩) 0 0) (w.alloc (.cells #[] e)):=by
 obtain⟨i,hi⟩:=kL et
 have h1:(underlying t).run P w= .ok (.slice e) w:=by simp[Go.underlying,ht]
 have h2:(sizeOf e).run P w= .ok i.size w:=by simp[Go.sizeOf,Go.typeInfo,hi]
 simp[Instr.buildSlice,h1,h2,Instr.fill,newRow]
 congr 2
 exact Array.eq_empty_of_size_eq_zero aJ
theorem wO(hH:ay M φ H w)(c8: ¬H.us fr){t:TypeId}{len:Nat}{parts:Array (Nat×Operand)}{s:S}{a:Act}(eA:∀i,V.den (ao M φ H) φ H w (s.env i) (a.tmps.getD i undef))
 (h:ju P H.o fr t len (parts.toList.map fun p=>(p.1,s.ev p.2)) K):
 da M φ H w fr ((do let y <- Instr.buildSlice t len (parts.map fun(i,x)=>(i,a.eval x));pure (Next.value y):Sem Next).run P w) K:=by
 unfold ju at h
 split at h
 ·rename_i e ht
  rcases h with⟨rfl,hp0,et,hK⟩|⟨ahl,hz,hlen,et,hsm,ds,fL,hw,hK⟩
  ·have C2:parts=#[]:=by
    have:=congrArg List.length hp0
    simp at this
    exact this
   subst C2
   have dI:=World.ownsRow_lit (base:=w.heap.size) (e:=e) (size:=P.cellsOf e) w #[] 0 (Nat.le_refl _) (Nat.zero_le _) aJ
   exact fA hH c8 (cO w _) et hK (by simpa using vi (w:=w) (bd ht) et) dI ⟨[],rfl,aJ,rfl⟩
  obtain⟨z,hz⟩:=Option.isSome_iff_exists.1 hz
  obtain⟨ie,zv,h1,h2,h3,h4,_⟩:=gP hz
  have hd:V.aG (ao M φ H) φ H w ((parts.toList.map fun p=>(p.1,s.ev p.2)).map (·.2)) ((parts.map fun(i,x)=>(i,a.eval x)).toList.map (·.2)):=by
   have:=lM s a eA (parts.toList.map (·.2))
   simpa[Function.comp_def]using this
  have NS:(parts.map fun(i,x)=>(i,a.eval x)).toList.map (·.1)=List.range len:=by
   rw[<- ahl];simp[Function.comp_def]
  generalize hvp:(parts.map fun(i,x)=>(i,a.eval x)).toList=vp at hd NS
  generalize yN:(parts.toList.map fun p=>(p.1,s.ev p.2)).map (·.2)=sp at hd fL hK
  obtain⟨f1,f2,f3,f4,f5⟩:=cW hH (V.bC sp) (du sp _ hd)
  have hd1:=V.aQ f2 _ _ hd
  have zN:=dN f1 sp ds _ f3 fL hd1
  have dU:∀v∈vp.map (·.2),v.cells.size=P.cellsOf e:=by
   intro v hv
   obtain⟨i,hi⟩:=List.mem_iff_getElem?.1 hv
   have hl:=D.aE _ _ zN
   have cS:i<ds.length:=by rw[<- hl];exact(List.getElem?_eq_some_iff.1 hi).1
   obtain⟨v',tc,Gf⟩:=D.dL _ _ i ds[i] zN (by simp[cS])
   rw[hi]at tc;injection tc with tc;subst tc
   have:=D.aE _ _ (D.eR _ _ Gf).1
   rw[hw _ (List.getElem_mem cS)]at this
   simpa using this
  have hvl:vp.length=len:=by have:=congrArg List.length NS;simpa using this
  have adC:Instr.fill (fun i=>some (i*ie.size,ie.size)) ((Array.range (len*ie.size)).map (zv.cells[· %zv.cells.size]!)) vp=some ((vp.map (·.2)).flatMap fun v=>v.cells.toList).toArray:=by
   rw[<- bM h1]
   have:=Great.fill_whole et (vp.map (·.2)) ((Array.range (len*P.cellsOf e)).map (zv.cells[· %zv.cells.size]!)) dU (by simp[hvl])
   rwa [<- DB vp len NS]at this
  have fO:=run_buildSlice (P:=P) w t e len (parts.map fun(i,x)=>(i,a.eval x)) _ ie zv (bd ht) h1 h2 (by rw[<- bM h1];omega) (by rw[<- bM h1];have:=Nat.mul_pos hlen et;omega) (by rw[hvp];exact adC)
  have Yn:=D.aE _ _ zN
  have dI:=World.ownsRow_lit (base:=w.heap.size) (e:=e) (size:=P.cellsOf e) w ((vp.map (·.2)).flatMap fun v=>v.cells.toList).toArray len (Nat.le_refl _) (by have:=Nat.le_mul_of_pos_right len et;simp[maxLen];omega) (by
   have:∀l:List Value,(∀v∈l,v.cells.size=P.cellsOf e)->(l.flatMap fun v=>v.cells.toList).length=l.length*P.cellsOf e:=by
    intro l
    induction l with
    |nil=>simp
    |cons x l ih=>intro hx;simp[hx x (by simp),ih (fun v hv=>hx v (by simp[hv])),Nat.add_mul,Nat.add_comm]
   have:=this (vp.map (·.2)) dU
   simpa[hvl]using this)
  have zO:len=ds.length:=by rw[<- Yn];simp[hvl]
  obtain⟨g1,g2,g3⟩:=IK (ty:=e) (sz:=P.cellsOf e) (es:=ds) f1 (fr:=fr) (fun hu=>c8 ((f5 fr).1 hu)) (cO w _) et (by rw[<- zO];exact dI) ⟨vp.map (·.2),aJ,dU,zN⟩
  rw[<- bW]at g1 g2 g3
  refine⟨_,_,_,_,_,_,_,hK,by simp only[Sem.run_bind,fO,Result.andThen_ok];rfl, .inl rfl,g1,f2.trans g2,g3,fun id aq=> ?_⟩
  simp only[List.map_append,List.mem_append,List.map_cons,List.map_nil,List.mem_singleton]at aq
  rcases aq with aq|aq
  ·left
   refine du sp _ hd id ?_
   rw[kK]at aq
   simpa[Function.comp_def]using aq
  ·exact .inr aq
 ·exact h.elim
theorem oB:∀ (vs:List Value),V.bC (vs.map V.dM)=[]
 |[]=>rfl
 |v::vs=>by
  have h:(V.dM v).ids=[]:=by cases v<;>simp only[V.dM,V.ids]<;>split<;>rfl
  simp[V.bC,h,oB vs]
theorem zP(hH:ay M φ H w){e:TypeId}{x:D}(h:zG P e=some x):∃i z ev,P.info? e=some i/\i.zero=some z/\z.cells.size=i.size/\Flat z.cells.toList/\ev.cells=z.cells/\D.den (ao M φ H) w x ev:=by
 unfold zG at h
 split at h
 ·rename_i zs hz
  obtain⟨i,z,h1,h2,h3,h4,rfl⟩:=gP hz
  have key:∀ds,cF (fun _=> .no) (z.cells.toList.map V.dM)=some ds->D.aG (ao M φ H) w ds z.cells.toList:=fun ds fL=>
   dN hH _ _ _ (by rw[oB];simp) fL (ef _ h4)
  split at h
  ·rename_i ds fL Gv
   injection h with h;subst h
   exact⟨i,z, .agg z.cells,h1,h2,h3,h4,rfl,z.cells,rfl,key ds fL,h4⟩
  ·rename_i y fL Gv
   injection h with h;subst h
   obtain⟨u,us,h5,h6,h7⟩:=key _ fL
   simp only[D.aG]at h7;subst h7
   have wM:=h4 u (by rw[h5];simp)
   have hu:u.cells=#[u]:=by cases u<;>simp_all[Value.oneCell',Value.cells]
   refine⟨i,z,u,h1,h2,h3,h4, ?_,h6⟩
   rw[hu];apply Array.ext';simpa using h5.symm
  ·cases h
 ·cases h
theorem oC(z:Value)(n:Nat):(madeCells z.cells (n*z.cells.size)).toList=(List.replicate n z).flatMap (·.cells.toList):=by
 apply List.ext_getElem?
 intro i
 by_cases h0:z.cells.size=0
 ·have:z.cells.toList=[]:=by simpa using h0
  simp[madeCells,h0]
 ·have et:0<z.cells.size:=ae
  by_cases hi:i<n*z.cells.size
  ·have hd:i/z.cells.size<n:=Nat.div_lt_of_lt_mul (by rwa [Nat.mul_comm]at hi)
   have hm:=Nat.mod_lt i et
   have:=oA z.cells.size (List.replicate n z) (i/z.cells.size) (i%z.cells.size) z z.cells[i%z.cells.size] (fun x hx=>by rw[(List.mem_replicate.1 hx).2]) (by simp[hd]) (by simp[hm])
   rw[Nat.mul_comm,Nat.div_add_mod]at this
   rw[this]
   simp[madeCells,List.getElem?_range hi,hm]
  ·have h1:(madeCells z.cells (n*z.cells.size)).toList.length=n*z.cells.size:=by simp[madeCells]
   have h2:((List.replicate n z).flatMap (·.cells.toList)).length=n*z.cells.size:=by simp[List.flatMap_replicate]
   rw[List.getElem?_eq_none (by omega),List.getElem?_eq_none (by omega)]
theorem zb(hH:ay M φ H w)(c8: ¬H.us fr){t:TypeId}{l c:V}{lv cv:Value}(hl:V.den (ao M φ H) φ H w l lv)(hc:V.den (ao M φ H) φ H w c cv)
 (h:kI P fr t l c fun v Δ=>K v Δ []):da M φ H w fr ((do let y <- Instr.makeSlice t lv cv;pure (Next.value y):Sem Next).run P w) K:=by
 unfold kI at h
 split at h
 ·rename_i e kl n kc m ht
  obtain⟨rfl,h0,et,hb,hn,x,hx,hK⟩:=h
  simp only[V.den,D.den]at hl hc;subst hl;subst hc
  obtain⟨i,z,ev,h1,h2,h3,h4,h5,h6⟩:=zP hH hx
  obtain⟨k,rfl⟩:=Int.eq_ofNat_of_zero_le h0
  simp only[Int.toNat_natCast]at hb hn hK
  rw[iE h1]at hb
  obtain⟨w',r1,r2,r3⟩:=run_make_full (P:=P) w w.heap.size t e i z (P.cellsOf e) (bd ht) h1 h2 (bM h1).symm kl kc k ae (by simp[maxLen];omega) (Nat.le_refl _)
  refine fA hH c8 (na r3) et hK r1 (by simpa using r2) ⟨List.replicate k ev, ?_, ?_, ?_⟩
  ·rw[bM h1, <- h3,oC]
   simp[List.flatMap_replicate,h5]
  ·intro v hv
   rw[(List.mem_replicate.1 hv).2,h5,h3,bM h1]
  ·clear r1 r2 hK hb hn
   induction k with
   |zero=>rfl
   |succ k ih=>exact⟨ev,List.replicate k ev,rfl,h6,ih ae⟩
 ·exact h.elim
theorem vj(w:World)(t u ty e:TypeId)(i:TypeInfo)(z:Value)(ht:P.underlying t=some (.slice e)){k0:IntKind}(hu:P.underlying u=some (.int k0))(hi:P.info? e=some i)(hz:i.zero=some z)(et:0<i.size)
 (k:IntKind) (n:Nat) (h0:0<n) (h63:n<=1099511627776) (h48:n*i.bytes<=1099511627776):
 (Builtin.append_ #[t,u] ty #[.slice none 0 0, .int k n]).run P w=
  .ok (.slice (some ⟨w.heap.size,0,none⟩) n (grownCap w n 0 e)) (w.drew.alloc (.cells (Builtin.zeroCells z.cells n++Builtin.zeroCells z.cells (grownCap w n 0 e - n)) e)):=by
 have hn:n≠0:=ae
 have KN: ¬ (n*i.size=0):=by
  intro h
  rcases Nat.mul_eq_zero.1 h with h|h<;>omega
 have hwr:IntKind.i64.wrap (n:Int)=n:=by
  unfold IntKind.wrap
  have e1:((2:Int)^IntKind.i64.bits)=18446744073709551616:=bG
  have e2:((2:Int)^(IntKind.i64.bits - 1))=9223372036854775808:=bG
  have e3:IntKind.i64.signed=true:=rfl
  simp only[e1,e2,e3]
  have h1:(n:Int)%18446744073709551616=n:=Int.emod_eq_of_lt ae ae
  rw[h1]
  split<;>simp_all<;>omega
 have ahm: ¬ (9223372036854775807<(n:Int)):=ae
 have UH: ¬ (281474976710656<(n:Int)*(i.bytes:Int)):=by
  have h5:((n*i.bytes:Nat):Int)<=(1099511627776:Nat):=Int.ofNat_le.2 h48
  rw[Int.natCast_mul]at h5;omega
 have ahn: ¬ (281474976710656<Builtin.nextslicecap n 0*i.bytes):=by rw[nextslicecap_zero h0];omega
 simp[Builtin.append_,run_underlying ht,run_underlying hu,sizeOf,typeInfo,zeroValue,hi,hz,Builtin.lenOf,hn,KN,hwr,ahm,ahn,UH,Question.forced,run_firstCells_none,newRow,grownCap,asInt,asIntOf]
 intro h;omega
theorem NT(hH:ay M φ H w)(c8: ¬H.us fr){ts:Array TypeId}{ty0:TypeId}{x y:V}{xv yv:Value}(hx:V.den (ao M φ H) φ H w x xv)(hy:V.den (ao M φ H) φ H w y yv)
 (h:dx (zJ P fr ts x y) K):da M φ H w fr ((do let z <- Builtin.append_ ts ty0 #[xv,yv];pure (Next.value z):Sem Next).run P w) K:=by
 unfold zJ at h
 split at h
 ·rename_i t t' pG
  have pG:ts=#[t,t']:=by apply Array.ext';simpa using pG
  subst pG
  split at h
  ·exact h.elim
  ·split at h
   ·rename_i e ht
    split at h
    ·rename_i k0 kk n hu
     split at h
     ·rename_i hc
      obtain⟨c1,c2,c3,c4⟩:=hc
      split at h
      ·rename_i x0 vg
       simp only[V.den,D.den]at hx hy;subst hx;subst hy
       obtain⟨i,z,ev,h1,h2,h3,h4,h5,h6⟩:=zP hH vg
       obtain⟨k,rfl⟩:=Int.eq_ofNat_of_zero_le (Int.le_of_lt c1)
       simp only[Int.toNat_natCast]at c3 c4 h
       have Dc:P.underlying t'=some (.int k0):=by
        unfold rl at hu
        split at hu
        ·rename_i k1 hk;injection hu with hu;subst hu;exact hk
        ·cases hu
       have hr:=vj (P:=P) w t t' ty0 e i z (bd ht) Dc h1 h2 (by rw[<- bM h1];exact c2) kk k ae ae (by rw[<- iE h1];omega)
       have vM:=grownCap_ge w k 0 e
       have dU:z.cells.size=P.cellsOf e:=by rw[bM h1, <- h3]
       have NU:(Builtin.zeroCells z.cells k).toList=(List.replicate k ev).flatMap (·.cells.toList):=by
        have e1:(Builtin.zeroCells z.cells k).toList=(madeCells z.cells (k*z.cells.size)).toList:=by simp[Builtin.zeroCells,madeCells]
        rw[e1,oC]
        simp[List.flatMap_replicate,h5]
       refine fA hH c8 (w':=w.drew.alloc (.cells (Builtin.zeroCells z.cells k++Builtin.zeroCells z.cells (grownCap w k 0 e - k)) e)) (xs:=(List.replicate k ev).flatMap (·.cells.toList)) ⟨rfl,rfl,rfl,aJ,fun j hj _=>RowKit.Below.heap_alloc w.drew _ j hj⟩ c2 h hr ?_ ⟨List.replicate k ev,rfl, ?_, ?_⟩
       ·refine⟨?_, .inr ⟨w.heap.size,_,_,by rw[List.length_replicate],Nat.le_refl _,heap_alloc_new w.drew _,by rw[List.length_replicate];exact vM,grownCap_le_maxLen w k 0 e (by simp[maxLen];omega), ?_, ?_⟩⟩
        ·rw[<- NU,Array.length_toList,size_zeroCells,dU,List.length_replicate]
        ·rw[Array.size_append,size_zeroCells,size_zeroCells,dU, <- Nat.add_mul];congr 1;omega
        ·rw[Array.toList_append, <- NU,List.take_append_of_le_length (by simp[size_zeroCells,dU]),List.take_of_length_le (by simp[size_zeroCells,dU])]
       ·intro v hv
        rw[(List.mem_replicate.1 hv).2,h5,dU]
       ·clear hr h c1 c3 c4 vM NU
        induction k with
        |zero=>rfl
        |succ k ih=>exact⟨ev,List.replicate k ev,rfl,h6,ih⟩
      ·exact h.elim
     ·exact h.elim
    ·exact h.elim
   ·exact h.elim
 ·exact h.elim
theorem kM(hH:ay M φ H w){y:V}{yv:Value}{new:List D}{sz:Nat}(hy:V.den (ao M φ H) φ H w y yv)(h:dA H.o y=some new)(hw:∀z∈new,z.cells.length=sz):
 (yv= .slice none 0 0/\new=[])\/∃a c evs,yv= .slice (some a) new.length c/\D.aG (ao M φ H) w new evs/\(∀ev∈evs,ev.cells.size=sz)/\
  (∀j u,(evs.flatMap (·.cells.toList))[j]? =some u->w.cell? (a.add j)=some u)/\Flat (evs.flatMap (·.cells.toList)):=by
 have Vm:∀ {evs:List Value},D.aG (ao M φ H) w new evs->(∀ev∈evs,ev.cells.size=sz)/\Flat (evs.flatMap (·.cells.toList)):=by
  intro evs hd
  have key:∀ev∈evs,ev.cells.size=sz/\Flat ev.cells.toList:=by
   intro ev dF
   obtain⟨i,hi⟩:=List.mem_iff_getElem?.1 dF
   have hl:=D.aE _ _ hd
   have cS:i<new.length:=by rw[<- hl];exact(List.getElem?_eq_some_iff.1 hi).1
   obtain⟨v',tc,Gf⟩:=D.dL _ _ i new[i] hd (by simp[cS])
   rw[hi]at tc;injection tc with tc;subst tc
   have h1:=D.eR _ _ Gf
   have h2:=D.aE _ _ h1.1
   rw[hw _ (List.getElem_mem cS)]at h2
   exact⟨by simpa using h2,h1.2⟩
  refine⟨fun ev dF=>(key ev dF).1,fun u hu=> ?_⟩
  obtain⟨ev,h1,h2⟩:=List.mem_flatMap.1 hu
  exact(key ev h1).2 u h2
 have IL:D.den (ao M φ H) w (.sl new) yv->(yv= .slice none 0 0/\new=[])\/∃a c evs,yv= .slice (some a) new.length c/\D.aG (ao M φ H) w new evs/\(∀ev∈evs,ev.cells.size=sz)/\
  (∀j u,(evs.flatMap (·.cells.toList))[j]? =some u->w.cell? (a.add j)=some u)/\Flat (evs.flatMap (·.cells.toList)):=by
  rintro⟨base,len,cap,rfl,rfl,h2,h3,pX,h4⟩
  cases base with
  |none=>
   left
   have h5:=h3 rfl;subst h5
   have:new=[]:=by simpa using h2
   subst this;exact⟨rfl,rfl⟩
  |some a=>
   right
   obtain⟨h5,h6⟩:=h4 a rfl
   by_cases Dl:cap=0
   ·have:new=[]:=List.eq_nil_of_length_eq_zero ae
    subst this
    exact⟨a,cap,[],rfl,rfl,aJ,aJ,by simp[Flat]⟩
   replace h5:=h5 Dl
   have key:∀ (es:List D) (i:Nat),(∀z∈es,z.cells.length=sz)->D.elems (ao M φ H) w pX a i es->
    ∃evs,D.aG (ao M φ H) w es evs/\∀j u,(evs.flatMap (·.cells.toList))[j]? =some u->w.cell? (a.add (i*sz+j))=some u:=by
    intro es
    induction es with
    |nil=>intro i _ _;exact⟨[],rfl,aJ⟩
    |cons e es ih=>
     intro i hz h
     obtain⟨⟨ev,k1,k2,k3⟩,k4⟩:=h
     obtain⟨evs,g1,g2⟩:=ih (i+1) (fun z hz'=>hz z (by simp[hz'])) k4
     have k5:ev.cells.size=sz:=by
      have:=D.aE _ _ (D.eR _ _ k3).1
      rw[hz e (by simp)]at this
      simpa using this
     refine⟨ev::evs,⟨ev,evs,rfl,k3,g1⟩,fun j u hj=> ?_⟩
     rw[List.flatMap_cons]at hj
     by_cases cS:j<sz
     ·rw[List.getElem?_append_left (by simp;omega)]at hj
      have:=(k2 j u od).1
      rw[add_add a h5]at this
      rwa [<- k1,k5]at this
     ·rw[List.getElem?_append_right (by simp;omega)]at hj
      have:=g2 (j - sz) u (by simpa[k5]using hj)
      rwa [show(i+1)*sz+(j - sz)=i*sz+j by rw[Nat.add_mul];omega]at this
   obtain⟨evs,g1,g2⟩:=key new 0 hw h6
   obtain⟨s1,s2⟩:=Vm g1
   exact⟨a,cap,evs,rfl,g1,s1,fun j u hj=>by simpa using g2 j u hj,s2⟩
 unfold dA at h
 split at h
 ·rename_i es hD
  injection h with h;subst h
  cases y with
  |d x=>simp only[dS,Option.some.injEq]at hD;subst hD;exact IL hy
  |aU=>simp only[dS,Option.some.injEq,D.sl.injEq]at hD;subst hD;exact .inl ⟨hy,rfl⟩
  |osl id ep=>
   obtain⟨_,_,wK⟩:=hy
   have bp:=hH.ok id
   simp only[dS]at hD
   cases hx:H.o id with
   |no=>simp[hx]at hD
   |row cs=>simp[hx]at hD
   |map kt vt l=>simp[hx]at hD
   |loop nf n env ps jM fm st KH=>simp[hx]at hD
   |gw l=>simp[hx]at hD
   |pW l last=>simp[hx]at hD
   |yY s pos=>simp[hx]at hD
   |arr fq ty pX es'=>
    simp only[hx]at hD
    split at hD
    ·rename_i e;subst e
     simp only[Option.some.injEq,D.sl.injEq]at hD;subst hD
     simp only[aO,hx]at bp
     have hv:=(wK ep uv).2 rfl
     obtain⟨h0,xs,⟨hl,bD⟩,evs,rfl,h2,h3⟩:=bp
     obtain⟨s1,s2⟩:=Vm h3
     rw[hv]
     rcases bD with⟨h4,h5⟩|⟨g,cap,cur,h4,_,h5,h6,h7,h8,h9⟩
     ·exact .inl ⟨h4,by simpa using h5⟩
     ·right
      refine⟨_,cap,evs,h4,h3,s1,fun j u hj=> ?_,s2⟩
      refine rA h5 j u ?_
      rw[<- h9,List.getElem?_take]at hj
      split at hj
      ·simpa using hj
      ·cases hj
    ·cases hD
   |qg fq es'=>
    simp only[hx]at hD
    split at hD
    ·rename_i e;subst e
     simp only[Option.some.injEq,D.sl.injEq]at hD;subst hD
     simp only[aO,hx]at bp
     have hv:=(wK ep uv).2 rfl
     rw[hv]at IL|-
     exact IL bp
    ·cases hD
  |agg cs=>simp[dS]at hD
  |iface t x=>simp[dS]at hD
  |qx es'=>simp only[dS,Option.some.injEq,D.sl.injEq]at hD;subst hD;exact IL hy.1
  |mp id=>simp only[dS]at hD;split at hD<;>simp at hD
  |_=>simp[dS]at hD
 ·cases h
theorem mu(hH:ay M φ H w){id ep:Nat}(dg:H.us id){ty:TypeId}{sz:Nat}{es es':List D}(ho:H.o id= .arr ep ty sz es){val:Value}{xs':List Value}{m:Nat->Prop}(hk:ed m w w')
 (hm:∀b,m b->dG (φ id)=some b) (fK:∀b,dG val=some b->dG (φ id)=some b\/w.heap.size<=b) (dI:w'.ownsRow 0 ty sz val es'.length xs') (hd:eY (ao M φ H) w sz es' xs'):
 let aH:=au φ id val;let H':=H.put [(id, .arr (ep+1) ty sz es')]
 ay M aH H' w'/\Trans φ H w aH H' w'/\V.den (ao M aH H') aH H' w' (.osl id (ep+1)) val:=by
 intro aH H'
 have hl:(H.o id).live=true:=by rw[ho];rfl
 have ht:Trans φ H w aH H' w':={
  keep:=⟨hk.os,hk.tape,hk.output,hk.size,fun k h Q4=>hk.block k h (fun e=>Q4 ⟨id,hl,hm k e⟩)⟩
  grow:=by
   rintro b ⟨j,h1,h2⟩
   by_cases hj:j=id
   ·subst hj
    simp only[aH,aR,if_true]at h2
    rcases fK b h2 with h3|h3
    ·exact .inl ⟨j,hl,h3⟩
    ·exact .inr h3
   ·simp[H',aH,hj]at h1 h2;exact .inl ⟨j,h1,h2⟩
  rel:={
   us:=fun j h=>by simp[H',h]
   row:=fun j hu hr=>by
    by_cases hj:j=id
    ·subst hj;simp[H',aa.bF]at hr
    ·simp[H',aH,hj]at hr|-;exact hr
   ep:=fun j e' hu he=>by
    by_cases hj:j=id
    ·subst hj;simp[H',aa.bV]at he;subst he;exact⟨ep,by rw[ho];rfl,Nat.le_succ _,fun h=>ae⟩
    ·simp[H',aH,hj]at he|-;exact⟨e',he,Nat.le_refl _⟩}}
 have h0:=hH.ok id
 simp only[aO,ho]at h0
 refine⟨hH.of ht (· =id) (fun j h=> ?_) (fun j h=> ?_) (fun j h=> ?_) (fun i j b hi hj bi bj=> ?_) (fun b=> ?_),ht, ?_,by simp[H'],fun e he=> ?_⟩
 ·subst h
  unfold aO
  simp only[H',bT,aR,if_true]
  exact⟨h0.1,xs',by simpa[aH]using dI,hd.mono (ht.blocks (M:=M))⟩
 ·refine⟨by simp[H',h],by simp[aH,h],fun hlj b hb=>hk.block b (hH.ours b ⟨j,hlj,hb⟩).2 fun e=>h ?_⟩
  exact hH.apart j id b hlj hl hb (hm b e)
 ·rw[eF]at h
  have h1:j≠id:=fun e=>h (.inr e)
  simp only[H',bT,aR,h1,if_false]
  exact Uo
 ·by_cases e1:i=id<;>by_cases e2:j=id
  ·exact e1.trans e2.symm
  ·subst e1
   simp[H',aH,e2]at hj bj bi
   rcases fK b bi with h3|h3
   ·exact hH.apart i j b hl hj h3 bj
   ·have:=(hH.ours b ⟨j,hj,bj⟩).2;omega
  ·subst e2
   simp[H',aH,e1]at hi bi bj
   rcases fK b bj with h3|h3
   ·exact hH.apart i j b hi hl bi h3
   ·have:=(hH.ours b ⟨i,hi,bi⟩).2;omega
  ·simp[H',aH,e1,e2]at hi hj bi bj
   exact hH.apart i j b hi hj bi bj
 ·rintro⟨j,h1,h2⟩
  by_cases hj:j=id
  ·subst hj;simp only[aH,aR,if_true]at h2;exact(lN dI b h2).2
  ·simp[H',aH,hj]at h1 h2
   exact Nat.lt_of_lt_of_le (hH.ours b ⟨j,h1,h2⟩).2 hk.size
 ·rcases dI.2 with⟨rfl,_⟩|⟨g,cap,cur,rfl,_⟩<;>rfl
 ·exact U8
theorem eY.append {B:Nat->Prop}{sz:Nat}{es new:List D}{xs:List Value}{evs:List Value}(h:eY B w sz es xs)(h1:D.aG B w new evs)(h2:∀ev∈evs,ev.cells.size=sz):
 eY B w sz (es++new) (xs++evs.flatMap (·.cells.toList)):=by
 obtain⟨aho,rfl,h3,h4⟩:=h
 refine⟨aho++evs,aJ,fun ev dF=> ?_,D.bc _ _ _ _ h4 h1⟩
 rcases List.mem_append.1 dF with h|h
 ·exact h3 ev h
 ·exact h2 ev h
theorem cQ{sz:Nat}:∀ (evs:List Value),(∀ev∈evs,ev.cells.size=sz)->(evs.flatMap (·.cells.toList)).length=evs.length*sz
 |[],_=>aJ
 |x::l,hx=>by
  have:=cQ l fun v hv=>hx v (by simp[hv])
  simp[this,hx x (by simp),Nat.add_mul,Nat.add_comm]
theorem Gx(hH:ay M φ H w)(c8: ¬H.us fr){ts:Array TypeId}{ty0:TypeId}{x y:V}{xv yv:Value}(hx:V.den (ao M φ H) φ H w x xv)(hy:V.den (ao M φ H) φ H w y yv)
 (h:rm P H.o fr ts x y K):da M φ H w fr ((do let z <- Builtin.append_ ts ty0 #[xv,yv];pure (Next.value z):Sem Next).run P w) K:=by
 unfold rm at h
 split at h
 ·rename_i t t' pG
  obtain⟨rfl,h⟩:=h
  have pG:ts=#[t,t]:=by apply Array.ext';simpa using pG
  subst pG
  split at h
  ·rename_i e ht
   obtain⟨new,Bo,et,hz,hw,h⟩:=h
   obtain⟨zz,hz⟩:=Option.isSome_iff_exists.1 hz
   obtain⟨i,z,g1,g2,g3,g4,_⟩:=gP hz
   have hi:=bM g1
   have UH:=iE g1
   have IM:=kM hH hy Bo hw
   split at h
   ·obtain⟨h1,h2,hK⟩:=h
    simp only[V.den]at hx;subst hx
    rcases IM with⟨rfl,rfl⟩|⟨a,c,evs,rfl,k1,k2,k3,k4⟩
    ·refine fA hH c8 (ed.refl _ _) et hK (run_append_owned_none (P:=P) w 0 t ty0 e i i.size (bd ht) g1 _ 0 [] (World.ownsRow_nil w 0 e i.size)) ?_ ⟨[],rfl,aJ,rfl⟩
     exact World.ownsRow_nil w _ e _
    ·obtain⟨v',w',r1,r2,r3,_⟩:=run_append_own (P:=P) w w.heap.size t ty0 e i z (P.cellsOf e) (P.bytesOf e) (bd ht) g1 g2 hi.symm UH.symm (by rw[g3,hi]) et _ 0 [] (World.ownsRow_nil w _ e _) a new.length c
      (evs.flatMap fun v:Value=>v.cells.toList) (by rw[cQ evs k2,D.aE _ _ k1]) k3 (fun u hu=>k4 u hu) (by simp[maxLen];omega) wv (Nat.le_refl _)
     refine fA hH c8 (na r3) et hK r1 (by simpa using r2) ⟨evs,rfl,k2,k1⟩
   ·rename_i es
    obtain⟨hw2,h⟩:=h
    have Gy:=kM (sz:=P.cellsOf e) hH (y:= .d (.sl es)) (new:=es) (show V.den (ao M φ H) φ H w (.d (.sl es)) xv from hx.1) (by simp[dA,dS]) hw2
    obtain⟨b,n,hxv⟩:=hx.2
    subst hxv
    split at h
    ·rename_i hn;subst hn
     have hsm:(sizeOf e).run P w= .ok i.size w:=by rw[eh g1,hi]
     have hr:(Builtin.append_ #[t,t] ty0 #[.slice b n n,yv]).run P w= .ok (.slice b n n) w:=by
      rcases IM with⟨rfl,_⟩|⟨a,c,evs,rfl,_⟩
      ·cases b<;>simp[Builtin.append_,run_underlying (bd ht),hsm,Builtin.lenOf,Builtin.firstCells,storeCells]
      ·cases b<;>simp[Builtin.append_,run_underlying (bd ht),hsm,Builtin.lenOf,Builtin.firstCells,storeCells,loadCells,loadCellsFrom]
     exact da.same hH _ h acL hx
    ·rename_i iz
     obtain⟨h1,h2,hK⟩:=h
     rcases IM with⟨rfl,rfl⟩|⟨a,c,evs,rfl,k1,k2,k3,k4⟩
     ·exact absurd rfl iz
     ·have hlen:(evs.flatMap (·.cells.toList)).length=new.length*P.cellsOf e:=by rw[cQ evs k2,D.aE _ _ k1]
      rcases Gy with⟨e1,rfl⟩|⟨a',c',NV,e1,q1,q2,q3,q4⟩
      ·injection e1 with e1 e2 e3
       subst e1;subst e2
       obtain⟨v',w',r1,r2,r3,_⟩:=run_append_own (P:=P) w w.heap.size t ty0 e i z (P.cellsOf e) (P.bytesOf e) (bd ht) g1 g2 hi.symm UH.symm (by rw[g3,hi]) et _ 0 [] (World.ownsRow_nil w _ e _) a new.length c
        (evs.flatMap fun v:Value=>v.cells.toList) (by rw[cQ evs k2,D.aE _ _ k1]) k3 (fun u hu=>k4 u hu) (by simp[maxLen];simp at h1;omega) (by simp at h2|-;omega) (Nat.le_refl _)
       refine fA hH c8 (na r3) et hK r1 (by simpa using r2) ⟨evs,rfl,k2,k1⟩
      ·injection e1 with e1 e2 e3
       subst e1;subst e2
       have zO:(NV.flatMap (·.cells.toList)).length=es.length*P.cellsOf e:=by rw[cQ NV q2,D.aE _ _ q1]
       have ajj:0<new.length:=by cases new with|nil=>exact absurd rfl iz|cons _ _=>simp
       have wP:es.length+new.length<=maxLen:=by simp[maxLen];omega
       have hr:=run_append_grow (P:=P) w t ty0 e i z (bd ht) g1 g2 a' es.length es.length _ (by rw[zO,hi]) q3 a new.length c _ (by rw[hlen,hi]) k3 ae ae
        (growslice_fits ae Ix)
       refine fA (xs:=NV.flatMap (·.cells.toList)++evs.flatMap (·.cells.toList)) hH c8 ?_ et hK hr ?_ ⟨NV++evs,aJ,fun ev dF=> ?_,D.bc _ _ _ _ q1 k1⟩
       ·exact⟨rfl,rfl,rfl,aJ,fun k hk _=>RowKit.Below.heap_alloc w.drew _ k hk⟩
       ·have vM:=grownCap_ge w (es.length+new.length) es.length e
        refine⟨by rw[List.length_append,zO,hlen,List.length_append,Nat.add_mul], .inr ⟨w.heap.size,_,_,by rw[List.length_append],Nat.le_refl _,heap_alloc_new w.drew _,by rw[List.length_append];exact vM,
         grownCap_le_maxLen w _ _ e wP, ?_, ?_⟩⟩
        ·simp only[Array.size_append,List.size_toArray,size_zeroCells,g3,zO,hlen,hi, <- Nat.add_mul]
         congr 1
         omega
        ·have:(NV.flatMap (·.cells.toList)++evs.flatMap (·.cells.toList)).length=(es++new).length*P.cellsOf e:=by rw[List.length_append,zO,hlen,List.length_append,Nat.add_mul]
         simp only[Array.toList_append]
         rw[<- this]
         exact List.take_left
       ·rcases List.mem_append.1 dF with dF|dF
        ·exact q2 ev dF
        ·exact k2 ev dF
   ·rename_i id ep
    split at h
    ·rename_i fq ty sz es ho
     obtain⟨rfl,rfl,rfl,h1,h2,hK⟩:=h
     obtain⟨_,dg,wK⟩:=hx
     have hv:=(wK ep eL).2 rfl
     subst hv
     have bp:=hH.ok id
     simp only[aO,ho]at bp
     obtain⟨_,xs,dI,nP⟩:=bp
     have done:∀ {val:Value} {w':World} {m:Nat->Prop} {evs:List Value},(Builtin.append_ #[t,t] ty0 #[φ id,yv]).run P w= .ok val w'->ed m w w'->(∀b,m b->dG (φ id)=some b)->
      (∀b,dG val=some b->dG (φ id)=some b\/w.heap.size<=b)->w'.ownsRow 0 ty (P.cellsOf ty) val (es++new).length (xs++evs.flatMap (·.cells.toList))->D.aG (ao M φ H) w new evs->
      (∀ev∈evs,ev.cells.size=P.cellsOf ty)->da M φ H w fr ((do let z <- Builtin.append_ #[t,t] ty0 #[φ id,yv];pure (Next.value z):Sem Next).run P w) K:=by
      intro val w' m evs r1 r2 r3 r4 r5 r6 r7
      obtain⟨s1,s2,s3⟩:=mu hH dg ho r2 r3 r4 r5 (nP.append r6 r7)
      exact⟨_,_,_,_,_,_,_,hK,by simp only[Sem.run_bind,r1,Result.andThen_ok];rfl, .inl rfl,s1,s2,s3,by simp[dg]⟩
     rcases IM with⟨rfl,rfl⟩|⟨a,c,evs,rfl,k1,k2,k3,k4⟩
     ·refine done (evs:=[]) (run_append_owned_none (P:=P) w 0 t ty0 ty i (P.cellsOf ty) (bd ht) g1 _ _ xs dI) (ed.refl (fun _=>False) _) (fun _ h=>h.elim) (fun b hb=> .inl hb) (by simpa using dI) rfl aJ
     ·have hlen:(evs.flatMap (·.cells.toList)).length=new.length*P.cellsOf ty:=by rw[cQ evs k2,D.aE _ _ k1]
      have wP:es.length+new.length<=maxLen:=by simp[maxLen];omega
      rcases dI.2 with⟨h3,h4⟩|⟨g,cap,cur,h3,h4,h5,h6,h7,h8,h9⟩
      ·have wQ:w.ownsRow w.heap.size ty (P.cellsOf ty) (φ id) es.length xs:=⟨dI.1, .inl ⟨h3,h4⟩⟩
       obtain⟨v',w',r1,r2,r3,_⟩:=run_append_own (P:=P) w w.heap.size t ty0 ty i z (P.cellsOf ty) (P.bytesOf ty) (bd ht) g1 g2 hi.symm UH.symm (by rw[g3,hi]) et _ _ xs wQ a new.length c
        (evs.flatMap fun v:Value=>v.cells.toList) hlen k3 (fun u hu=>k4 u hu) wP h2 (Nat.le_refl _)
       refine done r1 (na (by rw[h3]at r3;exact r3)) (fun _ h=>h.elim) (fun b hb=> .inr (lN r2 b hb).1) (by simpa using rD r2) k1 k2
      ·by_cases IP:es.length+new.length<=cap
       ·rw[h3]at dI
        obtain⟨w',r1,r2,r3⟩:=run_append_fits (P:=P) w 0 t ty0 ty i (P.cellsOf ty) (bd ht) g1 hi.symm g es.length cap xs dI a new.length c (evs.flatMap fun v:Value=>v.cells.toList) hlen k3 (fun u hu=>k4 u hu) IP
        rw[<- h3]at r1
        exact done (m:=(· =g)) r1 ⟨r3.os,r3.tape,r3.output,r3.size,fun k hk iz=>r3.block k hk (by simpa using iz)⟩ (fun b hb=>by subst hb;rw[h3];rfl) (fun b hb=> .inl (by rw[h3];exact hb)) (by simpa using r2) k1 k2
       ·have holds:∀j u,xs[j]? =some u->w.cell? ((⟨g,0,none⟩:Addr).add j)=some u:=dI.cells (g:=g) (by rw[h3];rfl)
        have hr:=run_append_grow (P:=P) w t ty0 ty i z (bd ht) g1 g2 ⟨g,0,none⟩ es.length cap xs (by rw[dI.1,hi]) holds a new.length c _ (by rw[hlen,hi]) k3 ae (by simp[maxLen]at wP;omega)
         (growslice_fits ae Ix)
        rw[<- h3]at hr
        refine done (m:=fun _=>False) hr ⟨rfl,rfl,rfl,aJ,fun k hk _=>RowKit.Below.heap_alloc w.drew _ k hk⟩ (fun _ h=>h.elim) (fun b hb=> .inr (by simp[dG]at hb;omega)) ?_ k1 k2
        have vM:=grownCap_ge w (es.length+new.length) cap ty
        refine⟨by rw[List.length_append,dI.1,hlen,List.length_append,Nat.add_mul], .inr ⟨w.heap.size,_,_,by rw[List.length_append],Nat.zero_le _,heap_alloc_new w.drew _,by rw[List.length_append];exact vM,
         grownCap_le_maxLen w _ cap ty wP, ?_, ?_⟩⟩
        ·simp only[Array.size_append,List.size_toArray,size_zeroCells,g3,dI.1,hlen,hi, <- Nat.add_mul]
         congr 1
         omega
        ·have:(xs++evs.flatMap (·.cells.toList)).length=(es++new).length*P.cellsOf ty:=by rw[List.length_append,dI.1,hlen,List.length_append,Nat.add_mul]
         simp only[Array.toList_append,List.append_assoc]
         rw[<- List.append_assoc, <- this]
         exact List.take_left
    ·exact h.elim
   ·exact h.elim
  ·exact h.elim
 ·exact h.elim
end
end
section
section
variable {P:Program}{M:Nat->Prop}{φ:Place}{H:Hp}{w w':World}{fr:Nat}{K:V->List (Nat×aa)->List Nat->Prop}
theorem uC{t:TypeId}{b off:Nat}{ty:TypeId}{cur:Array Value}(hb:w.heap[b]? =some (.cells cur ty (0,0)))(v:Value)(hs:v.cells.size=P.cellsOf t)(et:0<v.cells.size\/(P.info? t).isSome=true)
 (hle:off+v.cells.size<=cur.size) (hf:Flat v.cells.toList):
 (Instr.storeAt t (.pointer (some ⟨b,off,none⟩)) v).run P w= .ok () (w.setRow b (cur.toList.take off++v.cells.toList++cur.toList.drop (off+v.cells.size)).toArray):=by
 obtain⟨i,hi⟩:∃i,P.info? t=some i:=by
  rcases et with et|et
  ·exact kL (P:=P) (e:=t) ae
  ·exact Option.isSome_iff_exists.1 et
 have:=run_storeCells_at (P:=P) b off ty v.cells.toList 0 cur w hb (by simpa using hle) (fun u hu=>hf u hu)
 simp only[Nat.add_zero,Array.length_toList]at this
 simp[Instr.storeAt,Instr.sureAddr,storeVar,eh hi,hs,this]
theorem DC{sz:Nat}:∀ (evs:List Value) (i off:Nat) (ev KO:Value) (us:List Value),(∀x∈evs,x.cells.size=sz)->evs[i]? =some ev->off+us.length<=sz->
 KO.cells.toList=ev.cells.toList.take off++us++ev.cells.toList.drop (off+us.length)->
 (evs.set i KO).flatMap (·.cells.toList)=(evs.flatMap (·.cells.toList)).take (i*sz+off)++us++(evs.flatMap (·.cells.toList)).drop (i*sz+off+us.length)
 |[],_,_,_,_,_,_,h,_,_=>by simp at h
 |x::evs,0,off,ev,KO,us,hs,h,hle,he=>by
  simp at h;subst h
  have hx:x.cells.toList.length=sz:=by simpa using hs x aJ
  simp only[List.set_cons_zero,List.flatMap_cons,Nat.zero_mul,Nat.zero_add,he]
  rw[List.take_append_of_le_length (by omega),List.drop_append_of_le_length (by omega)]
  simp[List.append_assoc]
 |x::evs,i+1,off,ev,KO,us,hs,h,hle,he=>by
  have hx:x.cells.toList.length=sz:=by simpa using hs x aJ
  have ih:=DC evs i off ev KO us (fun y hy=>hs y mj) (by simpa using h) hle he
  simp only[List.set_cons_succ,List.flatMap_cons,ih]
  rw[show(i+1)*sz+off=x.cells.toList.length+(i*sz+off) by rw[Nat.add_mul,hx];omega,List.take_length_add_append,
   show x.cells.toList.length+(i*sz+off)+us.length=x.cells.toList.length+(i*sz+off+us.length) by omega,List.drop_length_add_append]
  simp[List.append_assoc]
theorem DD{α:Type}(l v:List α)(k m n:Nat)(hn:n=v.length)(h:k+n<=m)(hm:m<=l.length):(l.take k++v++l.drop (k+n)).take m=(l.take m).take k++v++(l.take m).drop (k+n):=by
 subst hn
 apply List.ext_getElem?
 intro i
 simp only[List.getElem?_append,List.getElem?_take,List.getElem?_drop,List.length_append,List.length_take]
 repeat' split
 all_goals first
  |rfl
  |omega
  |(congr 1;omega)
  |(symm;apply List.getElem?_eq_none;omega)
  |(apply List.getElem?_eq_none;omega)
  |skip
theorem NW{B:Nat->Prop}{e e':D}{off:Nat}{ds:List D}(h:e.put off ds=some e'){ev:Value}(he:D.den B w e ev){us:List Value}(hu:D.aG B w ds us)(hf:Flat us):
 ∃KO,D.den B w e' KO/\KO.cells.toList=ev.cells.toList.take off++us++ev.cells.toList.drop (off+us.length)/\off+us.length<=ev.cells.size:=by
 have hl:=D.aE _ _ hu
 rcases D.pE _ _ he with⟨cs,a,rfl,rfl⟩|⟨h1,h2,h3⟩
 ·obtain⟨a',ha,h4,h5⟩:=he
  injection ha with ha;subst ha
  have hl4:=D.aE _ _ h4
  simp only[Array.length_toList]at hl4
  simp only[D.put]at h
  split at h
  ·rename_i hle
   injection h with h;subst h
   refine⟨.agg (a.toList.take off++us++a.toList.drop (off+us.length)).toArray,⟨_,rfl, ?_, ?_⟩,by simp[Value.cells],by simp[Value.cells];omega⟩
   ·simp only
    rw[hl]
    exact D.bc _ _ _ _ (D.bc _ _ _ _ (D.cZ _ _ _ h4) hu) (D.ee _ _ _ h4)
   ·intro x hx
    simp only[List.mem_append]at hx
    rcases hx with(hx|hx)|hx
    ·exact h5 x (List.mem_of_mem_take hx)
    ·exact hf x hx
    ·exact h5 x (List.mem_of_mem_drop hx)
  ·cases h
 ·have gS:off=0/\∃u,ds=[u]/\e'=u:=by
   cases e<;>simp only[D.put]at h<;>first
    |(split at h
      ·rename_i u;injection h with h;exact⟨rfl,u,rfl,h.symm⟩
      ·cases h)
    |(simp[D.cells]at h2;done)
    |skip
   obtain⟨a,rfl,_⟩:=he
   simp[Value.oneCell']at h1
  obtain⟨rfl,u,rfl,rfl⟩:=gS
  obtain⟨x,xs,rfl,h4,h5⟩:=hu
  simp only[D.aG]at h5;subst h5
  have hx:x.cells=#[x]:=by have:=hf x aJ;cases x<;>simp_all[Value.oneCell',Value.cells]
  exact⟨x,h4,by simp[hx,h3],by simp[h3]⟩
theorem KQ(hH:ay M φ H w){t:TypeId}{x v:V}{xv vv:Value}(hx:V.den (ao M φ H) φ H w x xv)(hv:V.den (ao M φ H) φ H w v vv)
 (h:wE P H.o t x v fun Δ rd=>K (.cc []) Δ rd):da M φ H w fr ((do Instr.storeAt t xv vv;pure Next.skip:Sem Next).run P w) K:=by
 unfold wE at h
 split at h
 ·rename_i id off
  split at h
  ·rename_i cs ho
   obtain⟨cs',h1,hK⟩:=h
   obtain⟨_,dg,hp⟩:=hx
   obtain⟨b,dz,rfl⟩:=hp eL
   have bp:=hH.ok id
   simp only[aO,ho]at bp
   obtain⟨b',dk,ty,g1,g2,g3,g4⟩:=bp
   rw[dz]at g1;simp at g1;subst g1
   unfold Bi at h1
   split at h1
   ·rename_i us hc
    split at h1
    ·rename_i hle
     injection h1 with h1;subst h1
     obtain⟨k1,k2⟩:=V.pE _ _ _ hc hv
     have l1:=V.aE _ _ k1
     have l2:=V.aE _ _ g3
     simp only[Array.length_toList]at l1 l2
     have hr:=uC (P:=P) (t:=t) (off:=off) g2 vv ae (hle.2.1.imp (fun h=>ae) (fun h=>h)) ae k2
     obtain⟨t1,t2⟩:=wL (cs':=cs.take off++us++cs.drop (off+us.length)) hH dg ho dz g2 (dk.toList.take off++vv.cells.toList++dk.toList.drop (off+vv.cells.size)).toArray (by
      simp only
      rw[l1]
      exact V.bc _ _ _ _ (V.bc _ _ _ _ (V.cZ _ _ _ g3) k1) (V.ee _ _ _ g3)) (by
      intro u hu
      simp only[List.mem_append]at hu
      rcases hu with(hu|hu)|hu
      ·exact Nq
      ·exact k2 u hu
      ·exact g4 u (List.mem_of_mem_drop hu))
     exact⟨_,_,_,_,_,_,_,hK,by simp only[Sem.run_bind,hr,Result.andThen_ok];rfl, .inr ⟨rfl,rfl⟩,t1,t2,⟨#[],rfl,rfl⟩,by simp[dg]⟩
    ·cases h1
   ·cases h1
  ·exact h.elim
 ·rename_i id ep i pX off
  split at h
  ·rename_i fq ty sz es ho
   obtain⟨rfl,rfl,e,he,y,hy,hyl,hyp,iz,e',gS,hK⟩:=h
   obtain⟨_,dg,hp⟩:=hx
   obtain⟨b,n,c,dz,rfl⟩:=(hp ep eL).2 rfl
   obtain⟨f1,f2,f3,f4,f5⟩:=cW hH v.ids (b9 v _ hv)
   have me:id∉v.ids:=fun hm=>by have:=List.all_eq_true.1 iz id hm;simp at this
   have vf:=(f4 id me).trans ho
   have hvd:=eG f1 v y vv f3 hy (V.aS f2 _ _ hv)
   obtain⟨k1,k2⟩:=D.eR _ _ hvd
   have l1:=D.aE _ _ k1
   simp only[Array.length_toList]at l1
   have bp:=f1.ok id
   simp only[aO,vf]at bp
   obtain⟨h0,xs,⟨hl,bD⟩,evs,rfl,h2,h3⟩:=bp
   rcases bD with⟨h4,h5⟩|⟨g,cap,cur,h4,h5,h6,h7,h8,h9,Vl⟩
   ·rw[dz]at h4;simp at h4
   ·rw[dz]at h4;simp at h4
    obtain⟨rfl,rfl,rfl⟩:=h4
    obtain⟨ev,dF,hde⟩:=D.dL _ _ _ _ h3 he
    obtain⟨KO,p1,p2,p3⟩:=NW gS hde k1 k2
    simp only[Array.length_toList]at p2 p3
    have ajs:=h2 ev (List.mem_of_getElem? dF)
    have ahp:i<es.length:=(List.getElem?_eq_some_iff.1 he).1
    have fY:i*pX+pX<=es.length*pX:=by
     rw[<- Nat.succ_mul];exact Nat.mul_le_mul_right _ ahp
    have ahq:es.length*pX<=cur.size:=by rw[h9];exact Nat.mul_le_mul_right _ h7
    have hr:=uC (P:=P) (t:=t) (off:=i*pX+off) h6 vv ae (.inl ae) ae k2
    have RR:=DC evs i off ev KO vv.cells.toList h2 dF (by simpa using(by omega:off+vv.cells.size<=pX)) (by simpa using p2)
    simp only[Array.length_toList]at RR
    have cU:((H.put (bY H.o v.ids)).o id).live=true:=by rw[vf];rfl
    have zL:dG (φ id)=some b:=by rw[dz];rfl
    have adD:=(f5 id).2 dg
    have ht:=fy (w:=w) (w':=w.setRow b (cur.toList.take (i*pX+off)++vv.cells.toList++cur.toList.drop (i*pX+off+vv.cells.size)).toArray) adD cU zL (lL w b _) (.arr ep ty pX (es.set i e')) uu uu
    have hh:=iZ f1 adD cU zL (lL w b (cur.toList.take (i*pX+off)++vv.cells.toList++cur.toList.drop (i*pX+off+vv.cells.size)).toArray) (.arr ep ty pX (es.set i e')) uu uu (by
     unfold aO
     simp only[bT,aR,if_true]
     refine⟨h0,(evs.set i KO).flatMap (·.cells.toList),⟨?_, .inr ⟨b,c,_,by rw[List.length_set];exact dz,Nat.zero_le _,setRow_heap w b cur _ ty (0,0) h6,by rw[List.length_set];exact h7,h8, ?_, ?_⟩⟩,evs.set i KO,rfl, ?_, ?_⟩
     ·rw[RR,List.length_set]
      simp only[List.length_append,List.length_take,List.length_drop,Array.length_toList,hl]
      omega
     ·simp only[List.size_toArray,List.length_append,List.length_take,List.length_drop,Array.length_toList]
      omega
     ·rw[RR,List.length_set, <- Vl]
      exact DD cur.toList vv.cells.toList _ _ _ aJ ae (by simpa using ahq)
     ·intro x hx
      rcases List.mem_or_eq_of_mem_set hx with hx|rfl
      ·exact h2 x hx
      ·have:=congrArg List.length p2
       simp only[Array.length_toList,List.length_append,List.length_take,List.length_drop]at this
       omega
     ·exact D.aQ (ht.blocks (M:=M)) _ _ (D.Dt i es evs e' KO h3 p1))
    rw[<- bW]at hh ht
    refine⟨_,_,_,_,_,_,_,hK,by simp only[Sem.run_bind,hr,Result.andThen_ok];rfl, .inr ⟨rfl,rfl⟩,hh,f2.trans ht,⟨#[],rfl,rfl⟩,fun j hj=> ?_⟩
    simp only[List.map_append,List.mem_append,List.map_cons,List.map_nil,List.mem_singleton]at hj
    rcases hj with hj|hj
    ·left
     refine b9 v _ hv j ?_
     rw[kK]at hj
     simpa[Function.comp_def]using hj
    ·exact .inl (hj ▸ dg)
  ·exact h.elim
 ·exact h.elim
end
end
section
section
variable {P:Program}{B:Nat->Prop}{w:World}
theorem iW{t:TypeId}{xs:List D}{off:Nat}{x:D}(h:cT P t xs off=some x){arr:Array Value}(hd:D.aG B w xs arr.toList)(hf:Flat arr.toList):
 ∃u,(∀w',(part t arr off).run P w'= .ok u w')/\D.den B w x u:=by
 unfold cT at h
 split at h
 ·rename_i ha
  split at h
  ·rename_i hl
   injection h with h;subst h
   obtain⟨i,hi⟩:=tz ha
   refine⟨.agg (arr.extract off (off+P.cellsOf t)),fun w'=> ?_,_,rfl, ?_, ?_⟩
   ·simp only[part,Sem.run_bind,tx ha w',Result.andThen_ok,if_true,eh hi w',Sem.run_pure]
   ·have:=D.cZ (P.cellsOf t) _ _ (D.ee off _ _ hd)
    simpa[Array.toList_extract,List.extract]using this
   ·exact adt
  ·cases h
 ·rename_i ha
  obtain⟨u,hu,RM⟩:=D.dL _ _ _ _ hd h
  refine⟨u,fun w'=> ?_,RM⟩
  have Dc:arr[off]? =some u:=by simpa using hu
  simp only[part,Sem.run_bind,qB ha w',Result.andThen_ok,Bool.false_eq_true,if_false,Dc,Sem.run_pure]
 ·cases h
theorem zQ{a b:Option Bool}{r:Bool}(h:Bj a b=some r):∃x y,a=some x/\b=some y/\r=(x&&y):=by
 unfold Bj at h
 split at h
 ·injection h with h;exact⟨_,_,rfl,rfl,h.symm⟩
 ·cases h
def EqD(P:Program)(m:Nat)(t:TypeId)(x y:D)(r:Bool):Prop:=
 ∀ (B:Nat->Prop) (w:World) (u v:Value),D.den B w x u->D.den B w y v->(Op.equalIn m t u v).run P w= .ok r w
theorem rE{d m:Nat}(IH:∀t x y r,mX P d t x y=some r->EqD P m t x y r){xs ys:List D}{cI bs:Array Value}(ha:D.aG B w xs cI.toList)(ID:Flat cI.toList)(hb:D.aG B w ys bs.toList)(RS:Flat bs.toList):
 ∀ (fs:List Field) (r:Bool),(∀f∈fs,f.name≠ "_")->wG (fun u off=>NO (mX P d u) (cT P u xs off) (cT P u ys off)) (fs.map fun f=>(f.type,f.offset))=some r->
   (Op.eqFields m cI bs fs).run P w= .ok r w
 |[],r,_,h=>by simp[wG]at h;subst h;simp[Op.eqFields]
 |f::fs,r,hn,h=>by
  obtain⟨x,y,h1,h2,rfl⟩:=zQ h
  simp only[NO]at h1
  split at h1
  ·rename_i p q hp hq
   obtain⟨u,k1,k2⟩:=iW hp ha ID
   obtain⟨v,k3,k4⟩:=iW hq hb RS
   have h3:=IH _ _ _ _ h1 B w u v k2 k4
   have h4:=rE IH ha ID hb RS fs y (fun g hg=>hn g (by simp[hg])) h2
   have iz:=hn f aJ
   simp only[Op.eqFields,iz,ne_eq,not_false_eq_true,if_true,Sem.run_bind,k1,k3,h3,Result.andThen_ok]
   cases x
   ·simp
   ·simpa using h4
  ·cases h1
theorem uD{d m:Nat}{e:TypeId}(IH:∀t x y r,mX P d t x y=some r->EqD P m t x y r){xs ys:List D}{cI bs:Array Value}(ha:D.aG B w xs cI.toList)(ID:Flat cI.toList)(hb:D.aG B w ys bs.toList)(RS:Flat bs.toList):
 ∀ (n i:Nat) (r:Bool),zH (fun i=>NO (mX P d e) (cT P e xs (i*P.cellsOf e)) (cT P e ys (i*P.cellsOf e))) n i=some r->
   (Op.eqItems m e (P.cellsOf e) cI bs (List.range' i n)).run P w= .ok r w
 |0,i,r,h=>by simp[zH]at h;subst h;simp[Op.eqItems]
 |n+1,i,r,h=>by
  obtain⟨x,y,h1,h2,rfl⟩:=zQ h
  simp only[NO]at h1
  split at h1
  ·rename_i p q hp hq
   obtain⟨u,k1,k2⟩:=iW hp ha ID
   obtain⟨v,k3,k4⟩:=iW hq hb RS
   have h3:=IH _ _ _ _ h1 B w u v k2 k4
   have h4:=uD IH ha ID hb RS n (i+1) y h2
   simp only[List.range'_succ,Op.eqItems,Sem.run_bind,k1,k3,h3,Result.andThen_ok]
   cases x
   ·simp
   ·simpa using h4
  ·cases h1
theorem vN:∀ (d:Nat) (t:TypeId) (x y:D) (r:Bool),mX P d t x y=some r->∀m,d<=m->EqD P m t x y r
 |0,_,_,_,_,h=>by simp[mX]at h
 |d+1,t,x,y,r,h=>by
  intro m hm B w u v hu hv
  obtain⟨m,rfl⟩:∃k,m=k+1:=⟨m - 1,ae⟩
  have IH:∀t x y r,mX P d t x y=some r->EqD P m t x y r:=fun t x y r h=>vN d t x y r h m ae
  unfold mX at h
  cases hs:bz P t with
  |none=>rw[hs]at h;cases h
  |some sh=>
   rw[hs]at h
   unfold bz at hs
   cases ht:P.underlying t with
   |none=>rw[ht]at hs;cases hs
   |some td=>
    rw[ht]at hs
    cases td<;>simp only[Option.some.injEq,reduceCtorEq]at hs
    case int k0=>
     subst hs
     simp only at h
     split at h
     ·split at h
      ·rename_i e;subst e;injection h with h;subst h
       simp only[D.den]at hu hv;subst hu;subst hv
       exact run_equalIn_int w m t _ _ _ _ ht
      ·cases h
     ·cases h
    case bool=>
     subst hs
     simp only at h
     split at h
     ·injection h with h;subst h
      simp only[D.den]at hu hv;subst hu;subst hv
      exact run_equalIn_bool' w m t _ _ ht
     ·cases h
    case string=>
     subst hs
     simp only at h
     split at h
     ·injection h with h;subst h
      obtain⟨s1,rfl,rfl⟩:=hu
      obtain⟨s2,rfl,rfl⟩:=hv
      rw[run_equalIn_string w m t _ _ ht]
      rw[ByteArray.toList_eq,ByteArray.toList_eq]
     ·cases h
    case struct fs=>
     split at hs
     ·rename_i hc
      injection hs with hs;subst hs
      simp only[Bool.and_eq_true,Bool.not_eq_true',List.all_eq_true,bne_iff_ne]at hc
      simp only at h
      split at h
      ·obtain⟨cI,rfl,ha,ID⟩:=hu
       obtain⟨bs,rfl,hb,RS⟩:=hv
       have hfs:P.fieldsOf t=fs:=by simp[Program.fieldsOf,ht]
       rw[run_equalIn_struct w m t cI bs (by rw[hfs];exact ht) hc.1,hfs]
       exact rE IH ha ID hb RS _ _ hc.2 h
      ·cases h
     ·cases hs
    case array n e=>
     split at hs
     ·rename_i hc
      injection hs with hs;subst hs
      simp only at h
      split at h
      ·obtain⟨cI,rfl,ha,ID⟩:=hu
       obtain⟨bs,rfl,hb,RS⟩:=hv
       obtain⟨i,hi⟩:=Option.isSome_iff_exists.1 hc
       rw[run_equalIn_array w m cI bs ht hi,List.range_eq_range']
       exact uD IH ha ID hb RS _ _ _ h
      ·cases h
     ·cases hs
theorem Yd{t:TypeId}{cI bs:List D}{r:Bool}(h:mX P 100 t (.agg cI) (.agg bs)=some r)(hg:P.eqGuardType P.depth t=false):NL P t (.agg cI) (.agg bs) r:=by
 intro B w u v hu hv
 refine⟨vN 100 t _ _ _ h _ bG B w u v hu hv,fun op a b=> ?_⟩
 obtain⟨cI,rfl,_⟩:=hu
 obtain⟨bs,rfl,_⟩:=hv
 exact run_eqGuard_agg w op t a b cI bs hg
end
end
end Go.Proofs.YtnkamdiiakdkgaaGreat
