/-
  A PART OF THE PROOF. Conditions: none.
-/
import Derived.ChangeKeysEq
import Derived.Test.YtlhemmpklhhgoaaGreatQb2
set_option linter.unusedSimpArgs false
set_option linter.unusedVariables false
namespace Go.Proofs.YtlhemmpklhhgoaaGreat
section
section
variable {P:Program}{M:Nat->Prop}{φ:Place}{H:Hp}{w:World}{fr:Nat}{K:V->List (Nat×ab)->List Nat->Prop}
def ab.fz:ab->ab
 | .arr ep _ _ es=> .qN ep es
 | .map _ _ l=> .cM l
 |o=>o
theorem jP(o:Nat->ab)(ids:List Nat):bP o ids=ids.map fun id=>(id,(o id).fz):=by
 unfold bP
 refine List.map_congr_left fun id _=> ?_
 cases o id<;>rfl
theorem rz(H:Hp){id:Nat}(hu:H.us id){x:ab}(hx:H.o id=x):H.put [(id,x)]=H:=by
 obtain⟨o,us⟩:=H
 simp only[Hp.put,put,List.foldl_cons,List.foldl_nil,Hp.mk.injEq,List.map_cons,List.map_nil,List.mem_singleton]
 constructor
 ·funext j
  by_cases hj:j=id
  ·subst hj;simpa using hx.symm
  ·simp[hj]
 ·funext j
  simp only[eq_iff_iff]
  exact⟨fun h=>h.elim (fun h=>h) fun e=>e ▸ hu, .inl⟩
theorem nG(o:Nat->ab):∀ (ids:List Nat) (H:Hp),aq M φ H w->(∀id∈ids,H.us id)->(∀id,H.o id=o id\/H.o id=(o id).fz)->
 let H':=H.put (ids.map fun id=>(id,(o id).fz));aq M φ H' w/\Trans φ H w φ H' w/\(∀id∈ids,H'.o id=(o id).fz)/\(∀id,H'.o id=o id\/H'.o id=(o id).fz)/\(∀id,id∉ids->H'.o id=H.o id)/\∀id,H'.us id↔H.us id
 |[],H,hH,_,ho=>by
  simp only[List.map_nil,lP]
  exact⟨hH,Trans.refl _ _ _,aK,ho,aK,aK⟩
 |id::ids,H,hH,hu,ho=>by
  have h1:aq M φ (H.put [(id,(o id).fz)]) w/\Trans φ H w φ (H.put [(id,(o id).fz)]) w:=by
   rcases ho id with h|h
   ·cases hx:o id with
    |arr ep ty sz es=>exact Ir hH (hu id aK) (h.trans hx)
    |map kt vt l=>exact B0 hH (hu id aK) (h.trans hx)
    |_=>
     rw[rz H (hu id (by simp)) (h.trans (by rw[hx];rfl))]
     exact⟨hH,Trans.refl _ _ _⟩
   ·rw[rz H (hu id (by simp)) h]
    exact⟨hH,Trans.refl _ _ _⟩
  have h2:∀j,(H.put [(id,(o id).fz)]).o j=o j\/(H.put [(id,(o id).fz)]).o j=(o j).fz:=by
   intro j
   by_cases hj:j=id
   ·subst hj;right;simp
   ·simpa[hj]using ho j
  have ih:=nG o ids (H.put [(id,(o id).fz)]) h1.1 (fun j hj=>by simp[hu j (by simp[hj])]) h2
  obtain⟨i1,i2,i3,i4,i5,i6⟩:=ih
  have e:H.put ((id::ids).map fun id=>(id,(o id).fz))=(H.put [(id,(o id).fz)]).put (ids.map fun id=>(id,(o id).fz)):=by
   rw[<- dk];rfl
  rw[e]
  refine⟨i1,h1.2.trans i2,fun j hj=> ?_,i4,fun j hj=> ?_,fun j=> ?_⟩
  ·rcases List.mem_cons.1 hj with rfl|hj
   ·by_cases hm:j∈ids
    ·exact i3 j hm
    ·rw[i5 j hm];simp
   ·exact i3 j hj
  ·simp only[List.mem_cons,not_or]at hj
   rw[i5 j hj.2];simp[hj.1]
  ·rw[i6 j,dm]
   exact⟨fun h=>h.elim (fun h=>h) fun e=>e ▸ hu id aK, .inl⟩
theorem cG(hH:aq M φ H w)(ids:List Nat)(hu:∀id∈ids,H.us id):
 let H':=H.put (bP H.o ids);aq M φ H' w/\Trans φ H w φ H' w/\(∀id∈ids,H'.o id=(H.o id).fz)/\(∀id,id∉ids->H'.o id=H.o id)/\∀id,H'.us id↔H.us id:=by
 rw[jP]
 obtain⟨a,b,c,_,d,e⟩:=nG H.o ids H hH hu (fun _=> .inl rfl)
 exact⟨a,b,c,d,e⟩
mutual
theorem cD:∀ (v:V) (val:Value),V.den (ai M φ H) φ H w v val->∀id∈v.ids,H.us id
 | .osl id ep,_,h,j,hj=>by simp[V.ids]at hj;subst hj;exact h.2.1
 | .mp id,_,h,j,hj=>by simp[V.ids]at hj;subst hj;exact h.2.1
 | .agg cs,_,h,j,hj=>by obtain⟨a,rfl,h,_⟩:=h;exact cw cs _ h j (by simpa[V.ids]using hj)
 | .iface t x,_,h,j,hj=>by obtain⟨u,rfl,h⟩:=h;exact cD x u h j (by simpa[V.ids]using hj)
 | .d _,_,_,_,hj| .aE,_,_,_,hj| .bH _,_,_,_,hj| .ptr _ _,_,_,_,hj| .pe _ _ _ _ _,_,_,_,hj| .pp _ _,_,_,_,hj| .func _ _ _,_,_,_,hj| .aa,_,_,_,hj| .oO _,_,_,_,hj| .uc _ _ _,_,_,_,hj| .eg,_,_,_,hj| .js _,_,_,_,hj=>by simp[V.ids]at hj
theorem cw:∀ (vs:List V) (vals:List Value),V.az (ai M φ H) φ H w vs vals->∀id∈V.aZ vs,H.us id
 |[],_,_,j,hj=>by simp[V.aZ]at hj
 |v::vs,_,h,j,hj=>by
  obtain⟨u,us,rfl,h1,h2⟩:=h
  rcases List.mem_append.1 (show j∈v.ids++V.aZ vs from hj)with hj|hj
  ·exact cD v u h1 j hj
  ·exact cw vs us h2 j hj
end
mutual
theorem ey(hH:aq M φ H w){o:Nat->ab}:∀ (v:V) (x:D) (val:Value),(∀id∈v.ids,H.o id=(o id).fz)->dv o v=some x->V.den (ai M φ H) φ H w v val->D.den (ai M φ H) w x val
 | .d y,x,val,_,h,hd=>by simp[dv]at h;subst h;exact hd
 | .aE,x,val,_,h,hd=>by
   simp[dv]at h;subst h
   simp only[V.den]at hd;subst hd
   exact Sm
 | .osl id ep,x,val,ho,h,hd=>by
   obtain⟨_,_,hd⟩:=hd
   have ho:=ho id (by simp[V.ids])
   have aQ:=hH.ok id
   simp only[dv]at h
   cases hx:o id with
   |no=>simp[hx]at h
   |row cs=>simp[hx]at h
   |map kt vt l=>simp[hx]at h
   |loop nf n env ps jg eS st Dj=>simp[hx]at h
   |cM l=>simp[hx]at h
   |oX l last=>simp[hx]at h
   |vy s pos=>simp[hx]at h
   |arr fU ty sz es=>
    simp only[hx]at h ho
    split at h
    ·rename_i e;subst e;injection h with h;subst h
     exact Ta
    ·cases h
   |qN fU es=>
    simp only[hx]at h ho
    split at h
    ·rename_i e;subst e;injection h with h;subst h
     exact Ta
    ·cases h
 | .mp id,x,val,ho,h,hd=>by
   obtain⟨_,_,hd⟩:=hd
   have ho:=ho id (by simp[V.ids])
   have aQ:=hH.ok id
   simp only[dv]at h
   cases hx:o id with
   |map kt vt l=>
    exact SQ
   |cM l=>
    exact SQ
   |_=>simp[hx]at h
 | .agg cs,x,val,ho,h,hd=>by
   simp only[dv,Option.map_eq_some_iff]at h
   obtain⟨ds,h1,rfl⟩:=h
   obtain⟨a,rfl,h2,h3⟩:=hd
   exact⟨a,rfl,cQ hH cs ds _ (fun id au=>ho id (by simpa[V.ids]using au)) h1 h2,h3⟩
 | .iface t y,x,val,ho,h,hd=>by
   simp only[dv,Option.map_eq_some_iff]at h
   obtain⟨z,h1,rfl⟩:=h
   obtain⟨u,rfl,h2⟩:=hd
   exact⟨u,rfl,ey hH y z u (fun id au=>ho id (by simpa[V.ids]using au)) h1 h2⟩
 | .bH _,_,_,_,h,_| .ptr _ _,_,_,_,h,_| .pe _ _ _ _ _,_,_,_,h,_| .pp _ _,_,_,_,h,_| .func _ _ _,_,_,_,h,_| .aa,_,_,_,h,_| .uc _ _ _,_,_,_,h,_| .eg,_,_,_,h,_| .js _,_,_,_,h,_=>by simp[dv]at h
 | .oO es,x,val,_,h,hd=>by simp[dv]at h;subst h;exact hd.1
theorem cQ(hH:aq M φ H w){o:Nat->ab}:∀ (vs:List V) (xs:List D) (vals:List Value),(∀id∈V.aZ vs,H.o id=(o id).fz)->bI o vs=some xs->V.az (ai M φ H) φ H w vs vals->D.az (ai M φ H) w xs vals
 |[],xs,vals,_,h,hd=>by simp[bI]at h;subst h;exact hd
 |v::vs,xs,vals,ho,h,hd=>by
  simp only[bI,Option.bind_eq_some_iff,Option.map_eq_some_iff]at h
  obtain⟨x,h1,ys,h2,rfl⟩:=h
  obtain⟨u,us,rfl,h3,h4⟩:=hd
  exact⟨u,us,rfl,ey hH v x u (fun id au=>ho id (by simp[V.aZ,au])) h1 h3,cQ hH vs ys us (fun id au=>ho id (by simp[V.aZ,au])) h2 h4⟩
end
theorem pV(hH:aq M φ H w)(cI: ¬H.us fr){s:Sem Value}(cs:List V)(df:Array Value)(ty:TypeId)(hK:K (.ptr fr 0) [(fr, .row cs)] [])
 (hr:s.run P w= .ok (.pointer (some ⟨w.heap.size,0,none⟩)) (w.alloc (.cells df ty))) (hd:V.az (ai M φ H) φ H w cs df.toList) (hf:Flat df.toList):
 b9 M φ H w fr ((do let y <- s;pure (Next.value y):Sem Next).run P w) K:=by
 obtain⟨h1,h2,h3⟩:=Iq hH cI cs df ty hd hf
 exact Sz
theorem Dn(hH:aq M φ H w)(cI: ¬H.us fr){t:TypeId}(h:∃cs,cJ P t=some cs/\K (.ptr fr 0) [(fr, .row cs)] []):
 b9 M φ H w fr ((do let y <- Instr.alloc t true (.tuple #[]);pure (Next.value y):Sem Next).run P w) K:=by
 obtain⟨cs,hz,hK⟩:=h
 obtain⟨i,v,h1,h2,h3,h4,rfl⟩:=ik hz
 refine pV hH cI _ v.cells t hK ?_ (cY _ h4) h4
 simp[Instr.alloc,zeroValue,typeInfo,h1,h2,newVar,newRow]
theorem Ix(hH:aq M φ H w)(cI: ¬H.us fr){t:TypeId}{x:V}{xv:Value}(hx:V.den (ai M φ H) φ H w x xv)(h:∃cs,x.cells=some cs/\K (.ptr fr 0) [(fr, .row cs)] []):
 b9 M φ H w fr ((do let y <- Instr.box t xv;pure (Next.value y):Sem Next).run P w) K:=by
 obtain⟨cs,hc,hK⟩:=h
 obtain⟨h1,h2⟩:=V.lO x xv cs hc hx
 refine pV hH cI _ xv.cells t hK ?_ h1 h2
 simp[Instr.box,newVar,newRow]
theorem Dp(off:Nat):∀ (us:List Value) (cells:Array Value),off+us.length<=cells.size->
 ((us.zipIdx.foldl (fun cs (p:Value×Nat)=>cs.setIfInBounds (off+p.2) p.1) cells)).toList=cells.toList.take off++us++cells.toList.drop (off+us.length):=by
 have key:∀ (us:List Value) (k:Nat) (cells:Array Value),off+k+us.length<=cells.size->
  (((us.zipIdx k).foldl (fun cs (p:Value×Nat)=>cs.setIfInBounds (off+p.2) p.1) cells)).toList=cells.toList.take (off+k)++us++cells.toList.drop (off+k+us.length):=by
  intro us
  induction us with
  |nil=>intro k cells h;simp
  |cons u us ih=>
   intro k cells h
   simp only[List.zipIdx_cons,List.foldl_cons]
   rw[ih (k+1) _ (by simp at h|-;omega)]
   simp only[Array.toList_setIfInBounds,List.length_cons]
   have bR:off+k<cells.toList.length:=by simp at h|-;omega
   rw[show off+(k+1)=off+k+1 by omega,List.take_set,List.take_succ_eq_append_getElem bR,List.set_append_right _ _ (by simp;omega)]
   simp only[List.length_take]
   rw[show min (off+k) cells.toList.length=off+k by omega,Nat.sub_self]
   simp only[List.set_cons_zero,List.append_assoc,List.cons_append,List.nil_append]
   rw[List.drop_set_of_lt (by omega)]
   congr 3
   rw[show off+k+1+us.length=off+k+(us.length+1) by omega]
 intro us cells h
 have:=key us 0 cells (by simpa using h)
 simpa using this
theorem xP(places:List (Nat×Nat)):∀ (parts:List (Nat×V)) (jQ:List (Nat×Value)) (cs cs':List V) (cells:Array Value),
 jQ.map (·.1)=parts.map (·.1)->V.az (ai M φ H) φ H w (parts.map (·.2)) (jQ.map (·.2))->V.az (ai M φ H) φ H w cs cells.toList->Flat cells.toList->pT places cs parts=some cs'->
 ∃fw,(∀place:Nat->Option (Nat×Nat),(∀i p,places[i]? =some p->place i=some p)->Instr.fill place cells jQ=some fw)/\V.az (ai M φ H) φ H w cs' fw.toList/\Flat fw.toList
 |[],jQ,cs,cs',cells,h1,_,h3,h4,h=>by
  cases jQ with
  |nil=>simp[pT]at h;subst h;exact⟨cells,fun _ _=>rfl,h3,h4⟩
  |cons a l=>simp at h1
 |(i,v)::parts,jQ,cs,cs',cells,h1,h2,h3,h4,h=>by
  cases jQ with
  |nil=>simp at h1
  |cons a jQ=>
   obtain⟨i',val⟩:=a
   simp only[List.map_cons,List.cons.injEq]at h1
   obtain⟨rfl,h1⟩:=h1
   simp only[List.map_cons]at h2
   obtain⟨u,us,e,h5,h6⟩:=h2
   simp only[List.cons.injEq]at e
   obtain⟨rfl,rfl⟩:=e
   simp only[pT]at h
   split at h
   ·rename_i off size us vF hc
    split at h
    ·rename_i du
     obtain⟨g1,g2⟩:=V.lO v _ us hc h5
     have hl:=V.ax _ _ g1
     have hl3:=V.ax _ _ h3
     have hs:=Dp off val.cells.toList cells (by simp at hl hl3|-;omega)
     rw[Array.length_toList]at hl hl3
     have ih:=xP places parts jQ _ cs' (val.cells.toList.zipIdx.foldl (fun cs (p:Value×Nat)=>cs.setIfInBounds (off+p.2) p.1) cells) h1 h6 (by
      rw[hs]
      refine V.a7 _ _ _ _ (V.a7 _ _ _ _ (V.cg _ _ _ h3) g1) ?_
      rw[show val.cells.toList.length=us.length by simpa using hl]
      exact V.dz _ _ _ h3) (by
      rw[hs]
      intro x hx
      simp only[List.mem_append]at hx
      rcases hx with(hx|hx)|hx
      ·exact h4 x (List.mem_of_mem_take hx)
      ·exact g2 x hx
      ·exact h4 x (List.mem_of_mem_drop hx)) h
     obtain⟨fw,i1,i2⟩:=ih
     refine⟨fw,fun place hp=> ?_,i2⟩
     have i1:=i1 place hp
     simp only[Instr.fill,hp _ _ vF]
     rw[if_neg (by simp;omega), <- i1]
     have e:∀ (c:Array Value),c.zipIdx.foldl (fun cs (x:Value×Nat)=>cs.setIfInBounds (off+x.2) x.1) cells=c.toList.zipIdx.foldl (fun cs (x:Value×Nat)=>cs.setIfInBounds (off+x.2) x.1) cells:=by
      intro c;rw[<- Array.foldl_toList,Array.toList_zipIdx]
     rw[<- e]
    ·cases h
   ·cases h
theorem xQ{t:TypeId}{pl:List (Nat×Nat)}(h:dh P t=some pl)(parts:List (Nat×Value))(cells fw:Array Value){i:TypeInfo}{z:Value}(hi:P.info? t=some i)(hz:i.zero=some z)(hc:z.cells=cells)
 (hf:∀place:Nat->Option (Nat×Nat),(∀i p,pl[i]? =some p->place i=some p)->Instr.fill place cells parts=some fw):
 P.built t parts=some fw:=by
 subst hc
 unfold dh at h
 unfold Program.built
 cases hd:P.underlying t with
 |none=>simp[hd]at h
 |some d=>
  cases d<;>simp only[hd]at h<;>try (cases h;done)
  case struct fs=>
   simp only[Option.ite_none_right_eq_some,Option.some.injEq]at h
   obtain⟨aT,rfl⟩:=h
   have hm:fs.toList.mapM (fun f=>(P.info? f.type).map fun i=>(f.offset,i.size))=some (fs.toList.map fun f=>(f.offset,P.cellsOf f.type)):=by
    generalize fs.toList=l at aT
    clear hf
    induction l with
    |nil=>rfl
    |cons f l ih=>
     simp only[List.all_cons,Bool.and_eq_true]at aT
     obtain⟨j,hj⟩:=Option.isSome_iff_exists.1 aT.1
     simp[List.mapM_cons,ih aT.2,hj,bz hj]
   simp only[hi,hz,hm]
   exact hf _ aK
  case array n e=>
   simp only[Option.ite_none_right_eq_some,Option.some.injEq]at h
   obtain⟨aT,rfl⟩:=h
   obtain⟨j,hj⟩:=Option.isSome_iff_exists.1 aT
   simp only[hi,hz,hj]
   refine hf _ fun k p hp=> ?_
   rw[List.getElem?_map]at hp
   simp only[Option.map_eq_some_iff]at hp
   obtain⟨a,h1,rfl⟩:=hp
   rw[List.getElem?_range]at h1
   ·injection h1 with h1;subst h1;rw[bz hj]
   ·rcases Nat.lt_or_ge k n with hn|hn
    ·exact hn
    ·rw[List.getElem?_eq_none (by simpa using hn)]at h1;cases h1
theorem Dq(hH:aq M φ H w){t:TypeId}{parts:Array (Nat×Operand)}{s:S}{a:Act}(dw:∀i,V.den (ai M φ H) φ H w (s.env i) (a.tmps.getD i undef))
 (h:∃z pl cs,cJ P t=some z/\dh P t=some pl/\pT pl z (parts.toList.map fun p=>(p.1,s.ev p.2))=some cs/\K (mo cs) [] []):
 b9 M φ H w fr ((do let y <- Instr.build t (parts.map fun(i,x)=>(i,a.eval x));pure (Next.value y):Sem Next).run P w) K:=by
 obtain⟨z,pl,cs,hz,vF,nj,hK⟩:=h
 obtain⟨i,zv,h1,h2,h3,h4,rfl⟩:=ik hz
 have hd:V.az (ai M φ H) φ H w ((parts.toList.map fun p=>(p.1,s.ev p.2)).map (·.2)) ((parts.map fun(i,x)=>(i,a.eval x)).toList.map (·.2)):=by
  have:=iO s a dw (parts.toList.map (·.2))
  simpa[Function.comp_def]using this
 have he:(parts.map fun(i,x)=>(i,a.eval x)).toList.map (·.1)=(parts.toList.map fun p=>(p.1,s.ev p.2)).map (·.1):=by simp[Function.comp_def]
 obtain⟨fw,g1,g2,g3⟩:=xP (M:=M) (φ:=φ) (H:=H) (w:=w) pl _ _ _ cs zv.cells he hd (cY _ h4) h4 nj
 have hb:P.built t (parts.map fun(i,x)=>(i,a.eval x)).toList=some fw:=xQ vF _ zv.cells fw h1 h2 rfl g1
 exact b9.plain hH (.agg fw) hK (run_build w t _ fw hb) (jA _ _ g2 g3)
end
end
section
section
variable {P:Program}{M:Nat->Prop}{φ:Place}{H:Hp}{w w':World}{fr:Nat}{K:V->List (Nat×ab)->List Nat->Prop}
theorem nH{base:Nat}{e:TypeId}{sz n:Nat}{v:Value}{xs:List Value}(h:w.ownsRow base e sz v n xs):w.ownsRow 0 e sz v n xs:=by
 obtain⟨h1,h2⟩:=h
 refine⟨h1, ?_⟩
 rcases h2 with h2|⟨g,cap,cur,a,_,b⟩
 ·exact .inl h2
 ·exact .inr ⟨g,cap,cur,a,Nat.zero_le _,b⟩
theorem iP{base:Nat}{e:TypeId}{sz n:Nat}{v:Value}{xs:List Value}(h:w.ownsRow base e sz v n xs)(b:Nat)(hb:dR v=some b):base<=b/\b<w.heap.size:=by
 rcases h.2 with⟨rfl,_⟩|⟨g,cap,cur,rfl,h1,h2,_⟩
 ·cases hb
 ·simp[dR]at hb;subst hb
  exact⟨h1,(Array.getElem?_eq_some_iff.1 h2).1⟩
theorem dL.mono {B B':Nat->Prop}(hb:∀b,ct w b-> ¬B b->w'.heap[b]? =w.heap[b]? /\ ¬B' b){sz:Nat}{es:List D}{xs:List Value}(h:dL B w sz es xs):dL B' w' sz es xs:=by
 obtain⟨evs,h1,h2,h3⟩:=h
 exact⟨evs,h1,h2,D.aO hb es evs h3⟩
theorem B1(hH:aq M φ H w)(cI: ¬H.us fr)(hk:dD (fun _=>False) w w'){val:Value}{ty:TypeId}{sz:Nat}{es:List D}{xs:List Value}(du:0<sz)
 (dn:w'.ownsRow w.heap.size ty sz val es.length xs) (hd:dL (ai M φ H) w sz es xs):
 let aA:=aI φ fr val;let H':=H.put [(fr, .arr 0 ty sz es)]
 aq M aA H' w'/\Trans φ H w aA H' w'/\V.den (ai M aA H') aA H' w' (.osl fr 0) val:=by
 intro aA H'
 have ht:Trans φ H w aA H' w':=cZ hk cI _ _ fun b hb=>(iP dn b hb).1
 refine⟨fW hH hk cI _ _ (iP dn) ?_,ht, ?_,by simp[H'],fun e he=> ?_⟩
 ·unfold aJ
  simp only[bn,aC,if_true]
  exact⟨du,xs,nH dn,hd.mono (ht.blocks (M:=M))⟩
 ·rcases dn.2 with⟨rfl,_⟩|⟨g,cap,cur,rfl,_⟩<;>rfl
 ·exact Kx
theorem dO(hH:aq M φ H w)(cI: ¬H.us fr)(hk:dD (fun _=>False) w w'){s:Sem Value}{val:Value}{ty:TypeId}{sz:Nat}{es:List D}{xs:List Value}{rd:List Nat}(du:0<sz)
 (hK:K (.osl fr 0) [(fr, .arr 0 ty sz es)] rd) (hr:s.run P w= .ok val w') (dn:w'.ownsRow w.heap.size ty sz val es.length xs) (hd:dL (ai M φ H) w sz es xs):
 b9 M φ H w fr ((do let y <- s;pure (Next.value y):Sem Next).run P w) K:=by
 obtain⟨h1,h2,h3⟩:=B1 hH cI hk du dn hd
 exact Sz
theorem il{e:TypeId}(h:0<P.cellsOf e):∃i,P.info? e=some i:=by
 cases hi:P.info? e with
 |none=>simp[Program.cellsOf,hi]at h
 |some i=>exact⟨i,rfl⟩
theorem xR(parts:List (Nat×Value))(n:Nat)(h:parts.map (·.1)=List.range n):parts=((parts.map (·.2)).zipIdx 0).map fun x=>(x.2,x.1):=by
 apply List.ext_getElem?
 intro i
 have hl:parts.length=n:=by have:=congrArg List.length h;simpa using this
 rw[List.getElem?_map,List.getElem?_zipIdx,List.getElem?_map]
 cases hp:parts[i]? with
 |none=>simp
 |some p=>
  have h1:(parts.map (·.1))[i]? =some p.1:=by simp[hp]
  rw[h,List.getElem?_range (by have:=(List.getElem?_eq_some_iff.1 hp).1;omega)]at h1
  simp at h1
  obtain⟨p1,p2⟩:=p
  simp_all
theorem qy{t e:TypeId}(ht:P.underlying t=some (.slice e))(eF:0<P.cellsOf e):(Instr.buildSlice t 0 #[]).run P w= .ok (.slice (some ⟨w.heap.size,0,none⟩) 0 0) (w.alloc (.cells #[] e)):=by
 obtain⟨i,hi⟩:=il eF
 have h1:(underlying t).run P w= .ok (.slice e) w:=by simp[Go.underlying,ht]
 have h2:(sizeOf e).run P w= .ok i.size w:=by simp[Go.sizeOf,Go.typeInfo,hi]
 simp[Instr.buildSlice,h1,h2,Instr.fill,newRow]
 congr 2
 exact Array.eq_empty_of_size_eq_zero aK
theorem rA(hH:aq M φ H w)(cI: ¬H.us fr){t:TypeId}{len:Nat}{parts:Array (Nat×Operand)}{s:S}{a:Act}(dw:∀i,V.den (ai M φ H) φ H w (s.env i) (a.tmps.getD i undef))
 (h:fY P H.o fr t len (parts.toList.map fun p=>(p.1,s.ev p.2)) K):
 b9 M φ H w fr ((do let y <- Instr.buildSlice t len (parts.map fun(i,x)=>(i,a.eval x));pure (Next.value y):Sem Next).run P w) K:=by
 unfold fY at h
 split at h
 ·rename_i e ht
  rcases h with⟨rfl,Xp,eF,hK⟩|⟨YB,hz,hlen,eF,xh,ds,dT,hw,hK⟩
  ·have vr:parts=#[]:=by
    have:=congrArg List.length Xp
    simp at this
    exact this
   subst vr
   have dn:=World.ownsRow_lit (base:=w.heap.size) (e:=e) (size:=P.cellsOf e) w #[] 0 (Nat.le_refl _) (Nat.zero_le _) aK
   exact dO hH cI (bL w _) eF hK (by simpa using qy (w:=w) (aW ht) eF) dn ⟨[],rfl,aK,rfl⟩
  obtain⟨z,hz⟩:=Option.isSome_iff_exists.1 hz
  obtain⟨ie,zv,h1,h2,h3,h4,_⟩:=ik hz
  have hd:V.az (ai M φ H) φ H w ((parts.toList.map fun p=>(p.1,s.ev p.2)).map (·.2)) ((parts.map fun(i,x)=>(i,a.eval x)).toList.map (·.2)):=by
   have:=iO s a dw (parts.toList.map (·.2))
   simpa[Function.comp_def]using this
  have Fw:(parts.map fun(i,x)=>(i,a.eval x)).toList.map (·.1)=List.range len:=by
   rw[<- YB];simp[Function.comp_def]
  generalize hvp:(parts.map fun(i,x)=>(i,a.eval x)).toList=vp at hd Fw
  generalize KT:(parts.toList.map fun p=>(p.1,s.ev p.2)).map (·.2)=sp at hd dT hK
  obtain⟨f1,f2,f3,f4,f5⟩:=cG hH (V.aZ sp) (cw sp _ hd)
  have hd1:=V.aO f2 _ _ hd
  have uj:=cQ f1 sp ds _ f3 dT hd1
  have du:∀v∈vp.map (·.2),v.cells.size=P.cellsOf e:=by
   intro v hv
   obtain⟨i,hi⟩:=List.mem_iff_getElem?.1 hv
   have hl:=D.ax _ _ uj
   have bR:i<ds.length:=by rw[<- hl];exact(List.getElem?_eq_some_iff.1 hi).1
   obtain⟨v',nm,Fx⟩:=D.cN _ _ i ds[i] uj (by simp[bR])
   rw[hi]at nm;injection nm with nm;subst nm
   have:=D.ax _ _ (D.dV _ _ Fx).1
   rw[hw _ (List.getElem_mem bR)]at this
   simpa using this
  have Xq:vp.length=len:=by have:=congrArg List.length Fw;simpa using this
  have Tp:Instr.fill (fun i=>some (i*ie.size,ie.size)) ((Array.range (len*ie.size)).map (zv.cells[· %zv.cells.size]!)) vp=some ((vp.map (·.2)).flatMap fun v=>v.cells.toList).toArray:=by
   rw[<- bz h1]
   have:=Great.fill_whole eF (vp.map (·.2)) ((Array.range (len*P.cellsOf e)).map (zv.cells[· %zv.cells.size]!)) du (by simp[Xq])
   rwa [<- xR vp len Fw]at this
  have dW:=run_buildSlice (P:=P) w t e len (parts.map fun(i,x)=>(i,a.eval x)) _ ie zv (aW ht) h1 h2 (by rw[<- bz h1];omega) (by rw[<- bz h1];have:=Nat.mul_pos hlen eF;omega) (by rw[hvp];exact Tp)
  have YC:=D.ax _ _ uj
  have dn:=World.ownsRow_lit (base:=w.heap.size) (e:=e) (size:=P.cellsOf e) w ((vp.map (·.2)).flatMap fun v=>v.cells.toList).toArray len (Nat.le_refl _) (by have:=Nat.le_mul_of_pos_right len eF;simp[maxLen];omega) (by
   have:∀l:List Value,(∀v∈l,v.cells.size=P.cellsOf e)->(l.flatMap fun v=>v.cells.toList).length=l.length*P.cellsOf e:=by
    intro l
    induction l with
    |nil=>simp
    |cons x l ih=>intro hx;simp[hx x (by simp),ih (fun v hv=>hx v (by simp[hv])),Nat.add_mul,Nat.add_comm]
   have:=this (vp.map (·.2)) du
   simpa[Xq]using this)
  have uk:len=ds.length:=by rw[<- YC];simp[Xq]
  obtain⟨g1,g2,g3⟩:=B1 (ty:=e) (sz:=P.cellsOf e) (es:=ds) f1 (fr:=fr) (fun hu=>cI ((f5 fr).1 hu)) (bL w _) eF (by rw[<- uk];exact dn) ⟨vp.map (·.2),aK,du,uj⟩
  rw[<- dk]at g1 g2 g3
  refine⟨_,_,_,_,_,_,_,hK,by simp only[Sem.run_bind,dW,Result.andThen_ok];rfl, .inl rfl,g1,f2.trans g2,g3,fun id au=> ?_⟩
  simp only[List.map_append,List.mem_append,List.map_cons,List.map_nil,List.mem_singleton]at au
  rcases au with au|au
  ·left
   refine cw sp _ hd id ?_
   rw[jP]at au
   simpa[Function.comp_def]using au
  ·exact .inr au
 ·exact h.elim
theorem kN:∀ (vs:List Value),V.aZ (vs.map V.cO)=[]
 |[]=>rfl
 |v::vs=>by
  have h:(V.cO v).ids=[]:=by cases v<;>simp only[V.cO,V.ids]<;>split<;>rfl
  simp[V.aZ,h,kN vs]
theorem um(hH:aq M φ H w){e:TypeId}{x:D}(h:xG P e=some x):∃i z ev,P.info? e=some i/\i.zero=some z/\z.cells.size=i.size/\Flat z.cells.toList/\ev.cells=z.cells/\D.den (ai M φ H) w x ev:=by
 unfold xG at h
 split at h
 ·rename_i zs hz
  obtain⟨i,z,h1,h2,h3,h4,rfl⟩:=ik hz
  have key:∀ds,bI (fun _=> .no) (z.cells.toList.map V.cO)=some ds->D.az (ai M φ H) w ds z.cells.toList:=fun ds dT=>
   cQ hH _ _ _ (by rw[kN];simp) dT (cY _ h4)
  split at h
  ·rename_i ds dT Am
   injection h with h;subst h
   exact⟨i,z, .agg z.cells,h1,h2,h3,h4,rfl,z.cells,rfl,key ds dT,h4⟩
  ·rename_i y dT Am
   injection h with h;subst h
   obtain⟨u,us,h5,h6,h7⟩:=key _ dT
   simp only[D.az]at h7;subst h7
   have Iu:=h4 u (by rw[h5];simp)
   have hu:u.cells=#[u]:=by cases u<;>simp_all[Value.oneCell',Value.cells]
   refine⟨i,z,u,h1,h2,h3,h4, ?_,h6⟩
   rw[hu];apply Array.ext';simpa using h5.symm
  ·cases h
 ·cases h
theorem kO(z:Value)(n:Nat):(madeCells z.cells (n*z.cells.size)).toList=(List.replicate n z).flatMap (·.cells.toList):=by
 apply List.ext_getElem?
 intro i
 by_cases h0:z.cells.size=0
 ·have:z.cells.toList=[]:=by simpa using h0
  simp[madeCells,h0]
 ·have eF:0<z.cells.size:=af
  by_cases hi:i<n*z.cells.size
  ·have hd:i/z.cells.size<n:=Nat.div_lt_of_lt_mul (by rwa [Nat.mul_comm]at hi)
   have hm:=Nat.mod_lt i eF
   have:=kM z.cells.size (List.replicate n z) (i/z.cells.size) (i%z.cells.size) z z.cells[i%z.cells.size] (fun x hx=>by rw[(List.mem_replicate.1 hx).2]) (by simp[hd]) (by simp[hm])
   rw[Nat.mul_comm,Nat.div_add_mod]at this
   rw[this]
   simp[madeCells,List.getElem?_range hi,hm]
  ·have h1:(madeCells z.cells (n*z.cells.size)).toList.length=n*z.cells.size:=by simp[madeCells]
   have h2:((List.replicate n z).flatMap (·.cells.toList)).length=n*z.cells.size:=by simp[List.flatMap_replicate]
   rw[List.getElem?_eq_none (by omega),List.getElem?_eq_none (by omega)]
theorem tG(hH:aq M φ H w)(cI: ¬H.us fr){t:TypeId}{l c:V}{lv cv:Value}(hl:V.den (ai M φ H) φ H w l lv)(hc:V.den (ai M φ H) φ H w c cv)
 (h:ig P fr t l c fun v Δ=>K v Δ []):b9 M φ H w fr ((do let y <- Instr.makeSlice t lv cv;pure (Next.value y):Sem Next).run P w) K:=by
 unfold ig at h
 split at h
 ·rename_i e kl n kc m ht
  obtain⟨rfl,h0,eF,hb,hn,x,hx,hK⟩:=h
  simp only[V.den,D.den]at hl hc;subst hl;subst hc
  obtain⟨i,z,ev,h1,h2,h3,h4,h5,h6⟩:=um hH hx
  obtain⟨k,rfl⟩:=Int.eq_ofNat_of_zero_le h0
  simp only[Int.toNat_natCast]at hb hn hK
  rw[jO h1]at hb
  obtain⟨w',r1,r2,r3⟩:=run_make_full (P:=P) w w.heap.size t e i z (P.cellsOf e) (aW ht) h1 h2 (bz h1).symm kl kc k af (by simp[maxLen];omega) (Nat.le_refl _)
  refine dO hH cI (jN r3) eF hK r1 (by simpa using r2) ⟨List.replicate k ev, ?_, ?_, ?_⟩
  ·rw[bz h1, <- h3,kO]
   simp[List.flatMap_replicate,h5]
  ·intro v hv
   rw[(List.mem_replicate.1 hv).2,h5,h3,bz h1]
  ·clear r1 r2 hK hb hn
   induction k with
   |zero=>rfl
   |succ k ih=>exact⟨ev,List.replicate k ev,rfl,h6,ih af⟩
 ·exact h.elim
theorem qz(w:World)(t u ty e:TypeId)(i:TypeInfo)(z:Value)(ht:P.underlying t=some (.slice e)){k0:IntKind}(hu:P.underlying u=some (.int k0))(hi:P.info? e=some i)(hz:i.zero=some z)(eF:0<i.size)
 (k:IntKind) (n:Nat) (h0:0<n) (h63:n<=1099511627776) (h48:n*i.bytes<=1099511627776):
 (Builtin.append_ #[t,u] ty #[.slice none 0 0, .int k n]).run P w=
  .ok (.slice (some ⟨w.heap.size,0,none⟩) n (grownCap w n 0 e)) (w.drew.alloc (.cells (Builtin.zeroCells z.cells n++Builtin.zeroCells z.cells (grownCap w n 0 e - n)) e)):=by
 have hn:n≠0:=af
 have HW: ¬ (n*i.size=0):=by
  intro h
  rcases Nat.mul_eq_zero.1 h with h|h<;>omega
 have YD:IntKind.i64.wrap (n:Int)=n:=by
  unfold IntKind.wrap
  have e1:((2:Int)^IntKind.i64.bits)=18446744073709551616:=cA
  have e2:((2:Int)^(IntKind.i64.bits - 1))=9223372036854775808:=cA
  have e3:IntKind.i64.signed=true:=rfl
  simp only[e1,e2,e3]
  have h1:(n:Int)%18446744073709551616=n:=Int.emod_eq_of_lt af af
  rw[h1]
  split<;>simp_all<;>omega
 have YE: ¬ (9223372036854775807<(n:Int)):=af
 have Ny: ¬ (281474976710656<(n:Int)*(i.bytes:Int)):=by
  have h5:((n*i.bytes:Nat):Int)<=(1099511627776:Nat):=Int.ofNat_le.2 h48
  rw[Int.natCast_mul]at h5;omega
 have YF: ¬ (281474976710656<Builtin.nextslicecap n 0*i.bytes):=by rw[nextslicecap_zero h0];omega
 simp[Builtin.append_,run_underlying ht,run_underlying hu,sizeOf,typeInfo,zeroValue,hi,hz,Builtin.lenOf,hn,HW,YD,YE,YF,Ny,Question.forced,run_firstCells_none,newRow,grownCap,asInt,asIntOf]
 intro h;omega
theorem Fy(hH:aq M φ H w)(cI: ¬H.us fr){ts:Array TypeId}{ty0:TypeId}{x y:V}{xv yv:Value}(hx:V.den (ai M φ H) φ H w x xv)(hy:V.den (ai M φ H) φ H w y yv)
 (h:cB (ug P fr ts x y) K):b9 M φ H w fr ((do let z <- Builtin.append_ ts ty0 #[xv,yv];pure (Next.value z):Sem Next).run P w) K:=by
 unfold ug at h
 split at h
 ·rename_i t t' tH
  have tH:ts=#[t,t']:=by apply Array.ext';simpa using tH
  subst tH
  split at h
  ·exact h.elim
  ·split at h
   ·rename_i e ht
    split at h
    ·rename_i k0 kk n hu
     split at h
     ·rename_i hc
      obtain⟨c1,c2,c3,c4⟩:=hc
      split at h
      ·rename_i x0 YG
       simp only[V.den,D.den]at hx hy;subst hx;subst hy
       obtain⟨i,z,ev,h1,h2,h3,h4,h5,h6⟩:=um hH YG
       obtain⟨k,rfl⟩:=Int.eq_ofNat_of_zero_le (Int.le_of_lt c1)
       simp only[Int.toNat_natCast]at c3 c4 h
       have xr:P.underlying t'=some (.int k0):=by
        unfold oZ at hu
        split at hu
        ·rename_i k1 hk;injection hu with hu;subst hu;exact hk
        ·cases hu
       have hr:=qz (P:=P) w t t' ty0 e i z (aW ht) xr h1 h2 (by rw[<- bz h1];exact c2) kk k af af (by rw[<- jO h1];omega)
       have xi:=grownCap_ge w k 0 e
       have du:z.cells.size=P.cellsOf e:=by rw[bz h1, <- h3]
       have Fz:(Builtin.zeroCells z.cells k).toList=(List.replicate k ev).flatMap (·.cells.toList):=by
        have e1:(Builtin.zeroCells z.cells k).toList=(madeCells z.cells (k*z.cells.size)).toList:=by simp[Builtin.zeroCells,madeCells]
        rw[e1,kO]
        simp[List.flatMap_replicate,h5]
       refine dO hH cI (w':=w.drew.alloc (.cells (Builtin.zeroCells z.cells k++Builtin.zeroCells z.cells (grownCap w k 0 e - k)) e)) (xs:=(List.replicate k ev).flatMap (·.cells.toList)) ⟨rfl,rfl,rfl,aK,fun j hj _=>RowKit.Below.heap_alloc w.drew _ j hj⟩ c2 h hr ?_ ⟨List.replicate k ev,rfl, ?_, ?_⟩
       ·refine⟨?_, .inr ⟨w.heap.size,_,_,by rw[List.length_replicate],Nat.le_refl _,heap_alloc_new w.drew _,by rw[List.length_replicate];exact xi,grownCap_le_maxLen w k 0 e (by simp[maxLen];omega), ?_, ?_⟩⟩
        ·rw[<- Fz,Array.length_toList,size_zeroCells,du,List.length_replicate]
        ·rw[Array.size_append,size_zeroCells,size_zeroCells,du, <- Nat.add_mul];congr 1;omega
        ·rw[Array.toList_append, <- Fz,List.take_append_of_le_length (by simp[size_zeroCells,du]),List.take_of_length_le (by simp[size_zeroCells,du])]
       ·intro v hv
        rw[(List.mem_replicate.1 hv).2,h5,du]
       ·clear hr h c1 c3 c4 xi Fz
        induction k with
        |zero=>rfl
        |succ k ih=>exact⟨ev,List.replicate k ev,rfl,h6,ih⟩
      ·exact h.elim
     ·exact h.elim
    ·exact h.elim
   ·exact h.elim
 ·exact h.elim
theorem mL(hH:aq M φ H w){y:V}{yv:Value}{new:List D}{sz:Nat}(hy:V.den (ai M φ H) φ H w y yv)(h:dN H.o y=some new)(hw:∀z∈new,z.cells.length=sz):
 (yv= .slice none 0 0/\new=[])\/∃a c evs,yv= .slice (some a) new.length c/\D.az (ai M φ H) w new evs/\(∀ev∈evs,ev.cells.size=sz)/\
  (∀j u,(evs.flatMap (·.cells.toList))[j]? =some u->w.cell? (a.add j)=some u)/\Flat (evs.flatMap (·.cells.toList)):=by
 have KU:∀ {evs:List Value},D.az (ai M φ H) w new evs->(∀ev∈evs,ev.cells.size=sz)/\Flat (evs.flatMap (·.cells.toList)):=by
  intro evs hd
  have key:∀ev∈evs,ev.cells.size=sz/\Flat ev.cells.toList:=by
   intro ev cP
   obtain⟨i,hi⟩:=List.mem_iff_getElem?.1 cP
   have hl:=D.ax _ _ hd
   have bR:i<new.length:=by rw[<- hl];exact(List.getElem?_eq_some_iff.1 hi).1
   obtain⟨v',nm,Fx⟩:=D.cN _ _ i new[i] hd (by simp[bR])
   rw[hi]at nm;injection nm with nm;subst nm
   have h1:=D.dV _ _ Fx
   have h2:=D.ax _ _ h1.1
   rw[hw _ (List.getElem_mem bR)]at h2
   exact⟨by simpa using h2,h1.2⟩
  refine⟨fun ev cP=>(key ev cP).1,fun u hu=> ?_⟩
  obtain⟨ev,h1,h2⟩:=List.mem_flatMap.1 hu
  exact(key ev h1).2 u h2
 have B2:D.den (ai M φ H) w (.sl new) yv->(yv= .slice none 0 0/\new=[])\/∃a c evs,yv= .slice (some a) new.length c/\D.az (ai M φ H) w new evs/\(∀ev∈evs,ev.cells.size=sz)/\
  (∀j u,(evs.flatMap (·.cells.toList))[j]? =some u->w.cell? (a.add j)=some u)/\Flat (evs.flatMap (·.cells.toList)):=by
  rintro⟨base,len,cap,rfl,rfl,h2,h3,oP,h4⟩
  cases base with
  |none=>
   left
   have h5:=h3 rfl;subst h5
   have:new=[]:=by simpa using h2
   subst this;exact⟨rfl,rfl⟩
  |some a=>
   right
   obtain⟨h5,h6⟩:=h4 a rfl
   by_cases Xr:cap=0
   ·have:new=[]:=List.eq_nil_of_length_eq_zero af
    subst this
    exact⟨a,cap,[],rfl,rfl,aK,aK,by simp[Flat]⟩
   replace h5:=h5 Xr
   have key:∀ (es:List D) (i:Nat),(∀z∈es,z.cells.length=sz)->D.elems (ai M φ H) w oP a i es->
    ∃evs,D.az (ai M φ H) w es evs/\∀j u,(evs.flatMap (·.cells.toList))[j]? =some u->w.cell? (a.add (i*sz+j))=some u:=by
    intro es
    induction es with
    |nil=>intro i _ _;exact⟨[],rfl,aK⟩
    |cons e es ih=>
     intro i hz h
     obtain⟨⟨ev,k1,k2,k3⟩,k4⟩:=h
     obtain⟨evs,g1,g2⟩:=ih (i+1) (fun z Nz=>hz z (by simp[Nz])) k4
     have k5:ev.cells.size=sz:=by
      have:=D.ax _ _ (D.dV _ _ k3).1
      rw[hz e (by simp)]at this
      simpa using this
     refine⟨ev::evs,⟨ev,evs,rfl,k3,g1⟩,fun j u hj=> ?_⟩
     rw[List.flatMap_cons]at hj
     by_cases bR:j<sz
     ·rw[List.getElem?_append_left (by simp;omega)]at hj
      have:=(k2 j u kF).1
      rw[add_add a h5]at this
      rwa [<- k1,k5]at this
     ·rw[List.getElem?_append_right (by simp;omega)]at hj
      have:=g2 (j - sz) u (by simpa[k5]using hj)
      rwa [show(i+1)*sz+(j - sz)=i*sz+j by rw[Nat.add_mul];omega]at this
   obtain⟨evs,g1,g2⟩:=key new 0 hw h6
   obtain⟨s1,s2⟩:=KU g1
   exact⟨a,cap,evs,rfl,g1,s1,fun j u hj=>by simpa using g2 j u hj,s2⟩
 unfold dN at h
 split at h
 ·rename_i es hD
  injection h with h;subst h
  cases y with
  |d x=>simp only[dv,Option.some.injEq]at hD;subst hD;exact B2 hy
  |aE=>simp only[dv,Option.some.injEq,D.sl.injEq]at hD;subst hD;exact .inl ⟨hy,rfl⟩
  |osl id ep=>
   obtain⟨_,_,ry⟩:=hy
   have aQ:=hH.ok id
   simp only[dv]at hD
   cases hx:H.o id with
   |no=>simp[hx]at hD
   |row cs=>simp[hx]at hD
   |map kt vt l=>simp[hx]at hD
   |loop nf n env ps jg eS st Dj=>simp[hx]at hD
   |cM l=>simp[hx]at hD
   |oX l last=>simp[hx]at hD
   |vy s pos=>simp[hx]at hD
   |arr fU ty oP es'=>
    simp only[hx]at hD
    split at hD
    ·rename_i e;subst e
     simp only[Option.some.injEq,D.sl.injEq]at hD;subst hD
     simp only[aJ,hx]at aQ
     have hv:=(ry ep pQ).2 rfl
     obtain⟨h0,xs,⟨hl,cy⟩,evs,rfl,h2,h3⟩:=aQ
     obtain⟨s1,s2⟩:=KU h3
     rw[hv]
     rcases cy with⟨h4,h5⟩|⟨g,cap,cur,h4,_,h5,h6,h7,h8,h9⟩
     ·exact .inl ⟨h4,by simpa using h5⟩
     ·right
      refine⟨_,cap,evs,h4,h3,s1,fun j u hj=> ?_,s2⟩
      refine nF h5 j u ?_
      rw[<- h9,List.getElem?_take]at hj
      split at hj
      ·simpa using hj
      ·cases hj
    ·cases hD
   |qN fU es'=>
    simp only[hx]at hD
    split at hD
    ·rename_i e;subst e
     simp only[Option.some.injEq,D.sl.injEq]at hD;subst hD
     simp only[aJ,hx]at aQ
     have hv:=(ry ep pQ).2 rfl
     rw[hv]at B2|-
     exact B2 aQ
    ·cases hD
  |agg cs=>simp[dv]at hD
  |iface t x=>simp[dv]at hD
  |oO es'=>simp only[dv,Option.some.injEq,D.sl.injEq]at hD;subst hD;exact B2 hy.1
  |mp id=>simp only[dv]at hD;split at hD<;>simp at hD
  |_=>simp[dv]at hD
 ·cases h
theorem nI(hH:aq M φ H w){id ep:Nat}(ee:H.us id){ty:TypeId}{sz:Nat}{es es':List D}(ho:H.o id= .arr ep ty sz es){val:Value}{YH:List Value}{m:Nat->Prop}(hk:dD m w w')
 (hm:∀b,m b->dR (φ id)=some b) (eP:∀b,dR val=some b->dR (φ id)=some b\/w.heap.size<=b) (dn:w'.ownsRow 0 ty sz val es'.length YH) (hd:dL (ai M φ H) w sz es' YH):
 let aA:=aI φ id val;let H':=H.put [(id, .arr (ep+1) ty sz es')]
 aq M aA H' w'/\Trans φ H w aA H' w'/\V.den (ai M aA H') aA H' w' (.osl id (ep+1)) val:=by
 intro aA H'
 have hl:(H.o id).live=true:=by rw[ho];rfl
 have ht:Trans φ H w aA H' w':={
  keep:=⟨hk.os,hk.tape,hk.output,hk.size,fun k h QE=>hk.block k h (fun e=>QE ⟨id,hl,hm k e⟩)⟩
  grow:=by
   rintro b ⟨j,h1,h2⟩
   by_cases hj:j=id
   ·subst hj
    simp only[aA,aC,if_true]at h2
    rcases eP b h2 with h3|h3
    ·exact .inl ⟨j,hl,h3⟩
    ·exact .inr h3
   ·simp[H',aA,hj]at h1 h2;exact .inl ⟨j,h1,h2⟩
  rel:={
   us:=fun j h=>by simp[H',h]
   row:=fun j hu hr=>by
    by_cases hj:j=id
    ·subst hj;simp[H',ab.bM]at hr
    ·simp[H',aA,hj]at hr|-;exact hr
   ep:=fun j e' hu he=>by
    by_cases hj:j=id
    ·subst hj;simp[H',ab.bQ]at he;subst he;exact⟨ep,by rw[ho];rfl,Nat.le_succ _,fun h=>af⟩
    ·simp[H',aA,hj]at he|-;exact⟨e',he,Nat.le_refl _⟩}}
 have h0:=hH.ok id
 simp only[aJ,ho]at h0
 refine⟨hH.of ht (· =id) (fun j h=> ?_) (fun j h=> ?_) (fun j h=> ?_) (fun i j b hi hj bi bj=> ?_) (fun b=> ?_),ht, ?_,by simp[H'],fun e he=> ?_⟩
 ·subst h
  unfold aJ
  simp only[H',bn,aC,if_true]
  exact⟨h0.1,YH,by simpa[aA]using dn,hd.mono (ht.blocks (M:=M))⟩
 ·refine⟨by simp[H',h],by simp[aA,h],fun hlj b hb=>hk.block b (hH.ours b ⟨j,hlj,hb⟩).2 fun e=>h ?_⟩
  exact hH.apart j id b hlj hl hb (hm b e)
 ·rw[dm]at h
  have h1:j≠id:=fun e=>h (.inr e)
  simp only[H',bn,aC,h1,if_false]
  exact Sx
 ·by_cases e1:i=id<;>by_cases e2:j=id
  ·exact e1.trans e2.symm
  ·subst e1
   simp[H',aA,e2]at hj bj bi
   rcases eP b bi with h3|h3
   ·exact hH.apart i j b hl hj h3 bj
   ·have:=(hH.ours b ⟨j,hj,bj⟩).2;omega
  ·subst e2
   simp[H',aA,e1]at hi bi bj
   rcases eP b bj with h3|h3
   ·exact hH.apart i j b hi hl bi h3
   ·have:=(hH.ours b ⟨i,hi,bi⟩).2;omega
  ·simp[H',aA,e1,e2]at hi hj bi bj
   exact hH.apart i j b hi hj bi bj
 ·rintro⟨j,h1,h2⟩
  by_cases hj:j=id
  ·subst hj;simp only[aA,aC,if_true]at h2;exact(iP dn b h2).2
  ·simp[H',aA,hj]at h1 h2
   exact Nat.lt_of_lt_of_le (hH.ours b ⟨j,h1,h2⟩).2 hk.size
 ·rcases dn.2 with⟨rfl,_⟩|⟨g,cap,cur,rfl,_⟩<;>rfl
 ·exact Kx
theorem dL.append {B:Nat->Prop}{sz:Nat}{es new:List D}{xs:List Value}{evs:List Value}(h:dL B w sz es xs)(h1:D.az B w new evs)(h2:∀ev∈evs,ev.cells.size=sz):
 dL B w sz (es++new) (xs++evs.flatMap (·.cells.toList)):=by
 obtain⟨YI,rfl,h3,h4⟩:=h
 refine⟨YI++evs,aK,fun ev cP=> ?_,D.a7 _ _ _ _ h4 h1⟩
 rcases List.mem_append.1 cP with h|h
 ·exact h3 ev h
 ·exact h2 ev h
theorem cE{sz:Nat}:∀ (evs:List Value),(∀ev∈evs,ev.cells.size=sz)->(evs.flatMap (·.cells.toList)).length=evs.length*sz
 |[],_=>aK
 |x::l,hx=>by
  have:=cE l fun v hv=>hx v (by simp[hv])
  simp[this,hx x (by simp),Nat.add_mul,Nat.add_comm]
theorem Ao(hH:aq M φ H w)(cI: ¬H.us fr){ts:Array TypeId}{ty0:TypeId}{x y:V}{xv yv:Value}(hx:V.den (ai M φ H) φ H w x xv)(hy:V.den (ai M φ H) φ H w y yv)
 (h:ny P H.o fr ts x y K):b9 M φ H w fr ((do let z <- Builtin.append_ ts ty0 #[xv,yv];pure (Next.value z):Sem Next).run P w) K:=by
 unfold ny at h
 split at h
 ·rename_i t t' tH
  obtain⟨rfl,h⟩:=h
  have tH:ts=#[t,t]:=by apply Array.ext';simpa using tH
  subst tH
  split at h
  ·rename_i e ht
   obtain⟨new,YJ,eF,hz,hw,h⟩:=h
   obtain⟨zz,hz⟩:=Option.isSome_iff_exists.1 hz
   obtain⟨i,z,g1,g2,g3,g4,_⟩:=ik hz
   have hi:=bz g1
   have Ny:=jO g1
   have B3:=mL hH hy YJ hw
   split at h
   ·obtain⟨h1,h2,hK⟩:=h
    simp only[V.den]at hx;subst hx
    rcases B3 with⟨rfl,rfl⟩|⟨a,c,evs,rfl,k1,k2,k3,k4⟩
    ·refine dO hH cI (dD.refl _ _) eF hK (run_append_owned_none (P:=P) w 0 t ty0 e i i.size (aW ht) g1 _ 0 [] (World.ownsRow_nil w 0 e i.size)) ?_ ⟨[],rfl,aK,rfl⟩
     exact World.ownsRow_nil w _ e _
    ·obtain⟨v',w',r1,r2,r3,_⟩:=run_append_own (P:=P) w w.heap.size t ty0 e i z (P.cellsOf e) (P.bytesOf e) (aW ht) g1 g2 hi.symm Ny.symm (by rw[g3,hi]) eF _ 0 [] (World.ownsRow_nil w _ e _) a new.length c
      (evs.flatMap fun v:Value=>v.cells.toList) (by rw[cE evs k2,D.ax _ _ k1]) k3 (fun u hu=>k4 u hu) (by simp[maxLen];omega) tV (Nat.le_refl _)
     refine dO hH cI (jN r3) eF hK r1 (by simpa using r2) ⟨evs,rfl,k2,k1⟩
   ·rename_i es
    obtain⟨KW,h⟩:=h
    have KY:=mL (sz:=P.cellsOf e) hH (y:= .d (.sl es)) (new:=es) (show V.den (ai M φ H) φ H w (.d (.sl es)) xv from hx.1) (by simp[dN,dv]) KW
    obtain⟨b,n,YK⟩:=hx.2
    subst YK
    split at h
    ·rename_i hn;subst hn
     have xh:(sizeOf e).run P w= .ok i.size w:=by rw[c0 g1,hi]
     have hr:(Builtin.append_ #[t,t] ty0 #[.slice b n n,yv]).run P w= .ok (.slice b n n) w:=by
      rcases B3 with⟨rfl,_⟩|⟨a,c,evs,rfl,_⟩
      ·cases b<;>simp[Builtin.append_,run_underlying (aW ht),xh,Builtin.lenOf,Builtin.firstCells,storeCells]
      ·cases b<;>simp[Builtin.append_,run_underlying (aW ht),xh,Builtin.lenOf,Builtin.firstCells,storeCells,loadCells,loadCellsFrom]
     exact b9.same hH _ h R7 hx
    ·rename_i kA
     obtain⟨h1,h2,hK⟩:=h
     rcases B3 with⟨rfl,rfl⟩|⟨a,c,evs,rfl,k1,k2,k3,k4⟩
     ·exact absurd rfl kA
     ·have hlen:(evs.flatMap (·.cells.toList)).length=new.length*P.cellsOf e:=by rw[cE evs k2,D.ax _ _ k1]
      rcases KY with⟨e1,rfl⟩|⟨a',c',FA,e1,q1,q2,q3,q4⟩
      ·injection e1 with e1 e2 e3
       subst e1;subst e2
       obtain⟨v',w',r1,r2,r3,_⟩:=run_append_own (P:=P) w w.heap.size t ty0 e i z (P.cellsOf e) (P.bytesOf e) (aW ht) g1 g2 hi.symm Ny.symm (by rw[g3,hi]) eF _ 0 [] (World.ownsRow_nil w _ e _) a new.length c
        (evs.flatMap fun v:Value=>v.cells.toList) (by rw[cE evs k2,D.ax _ _ k1]) k3 (fun u hu=>k4 u hu) (by simp[maxLen];simp at h1;omega) (by simp at h2|-;omega) (Nat.le_refl _)
       refine dO hH cI (jN r3) eF hK r1 (by simpa using r2) ⟨evs,rfl,k2,k1⟩
      ·injection e1 with e1 e2 e3
       subst e1;subst e2
       have uk:(FA.flatMap (·.cells.toList)).length=es.length*P.cellsOf e:=by rw[cE FA q2,D.ax _ _ q1]
       have aaL:0<new.length:=by cases new with|nil=>exact absurd rfl kA|cons _ _=>simp
       have FB:es.length+new.length<=maxLen:=by simp[maxLen];omega
       have hr:=run_append_grow (P:=P) w t ty0 e i z (aW ht) g1 g2 a' es.length es.length _ (by rw[uk,hi]) q3 a new.length c _ (by rw[hlen,hi]) k3 af af
        (growslice_fits af (by rw[<- Ny];omega))
       refine dO (xs:=FA.flatMap (·.cells.toList)++evs.flatMap (·.cells.toList)) hH cI ?_ eF hK hr ?_ ⟨FA++evs,aK,fun ev cP=> ?_,D.a7 _ _ _ _ q1 k1⟩
       ·exact⟨rfl,rfl,rfl,aK,fun k hk _=>RowKit.Below.heap_alloc w.drew _ k hk⟩
       ·have xi:=grownCap_ge w (es.length+new.length) es.length e
        refine⟨by rw[List.length_append,uk,hlen,List.length_append,Nat.add_mul], .inr ⟨w.heap.size,_,_,by rw[List.length_append],Nat.le_refl _,heap_alloc_new w.drew _,by rw[List.length_append];exact xi,
         grownCap_le_maxLen w _ _ e FB, ?_, ?_⟩⟩
        ·simp only[Array.size_append,List.size_toArray,size_zeroCells,g3,uk,hlen,hi, <- Nat.add_mul]
         congr 1
         omega
        ·have:(FA.flatMap (·.cells.toList)++evs.flatMap (·.cells.toList)).length=(es++new).length*P.cellsOf e:=by rw[List.length_append,uk,hlen,List.length_append,Nat.add_mul]
         simp only[Array.toList_append]
         rw[<- this]
         exact List.take_left
       ·rcases List.mem_append.1 cP with cP|cP
        ·exact q2 ev cP
        ·exact k2 ev cP
   ·rename_i id ep
    split at h
    ·rename_i fU ty sz es ho
     obtain⟨rfl,rfl,rfl,h1,h2,hK⟩:=h
     obtain⟨_,ee,ry⟩:=hx
     have hv:=(ry ep dB).2 rfl
     subst hv
     have aQ:=hH.ok id
     simp only[aJ,ho]at aQ
     obtain⟨_,xs,dn,l6⟩:=aQ
     have done:∀ {val:Value} {w':World} {m:Nat->Prop} {evs:List Value},(Builtin.append_ #[t,t] ty0 #[φ id,yv]).run P w= .ok val w'->dD m w w'->(∀b,m b->dR (φ id)=some b)->
      (∀b,dR val=some b->dR (φ id)=some b\/w.heap.size<=b)->w'.ownsRow 0 ty (P.cellsOf ty) val (es++new).length (xs++evs.flatMap (·.cells.toList))->D.az (ai M φ H) w new evs->
      (∀ev∈evs,ev.cells.size=P.cellsOf ty)->b9 M φ H w fr ((do let z <- Builtin.append_ #[t,t] ty0 #[φ id,yv];pure (Next.value z):Sem Next).run P w) K:=by
      intro val w' m evs r1 r2 r3 r4 r5 r6 r7
      obtain⟨s1,s2,s3⟩:=nI hH ee ho r2 r3 r4 r5 (l6.append r6 r7)
      exact⟨_,_,_,_,_,_,_,hK,by simp only[Sem.run_bind,r1,Result.andThen_ok];rfl, .inl rfl,s1,s2,s3,by simp[ee]⟩
     rcases B3 with⟨rfl,rfl⟩|⟨a,c,evs,rfl,k1,k2,k3,k4⟩
     ·refine done (evs:=[]) (run_append_owned_none (P:=P) w 0 t ty0 ty i (P.cellsOf ty) (aW ht) g1 _ _ xs dn) (dD.refl (fun _=>False) _) (fun _ h=>h.elim) (fun b hb=> .inl hb) (by simpa using dn) rfl aK
     ·have hlen:(evs.flatMap (·.cells.toList)).length=new.length*P.cellsOf ty:=by rw[cE evs k2,D.ax _ _ k1]
      have FB:es.length+new.length<=maxLen:=by simp[maxLen];omega
      rcases dn.2 with⟨h3,h4⟩|⟨g,cap,cur,h3,h4,h5,h6,h7,h8,h9⟩
      ·have rB:w.ownsRow w.heap.size ty (P.cellsOf ty) (φ id) es.length xs:=⟨dn.1, .inl ⟨h3,h4⟩⟩
       obtain⟨v',w',r1,r2,r3,_⟩:=run_append_own (P:=P) w w.heap.size t ty0 ty i z (P.cellsOf ty) (P.bytesOf ty) (aW ht) g1 g2 hi.symm Ny.symm (by rw[g3,hi]) eF _ _ xs rB a new.length c
        (evs.flatMap fun v:Value=>v.cells.toList) hlen k3 (fun u hu=>k4 u hu) FB h2 (Nat.le_refl _)
       refine done r1 (jN (by rw[h3]at r3;exact r3)) (fun _ h=>h.elim) (fun b hb=> .inr (iP r2 b hb).1) (by simpa using nH r2) k1 k2
      ·by_cases KZ:es.length+new.length<=cap
       ·rw[h3]at dn
        obtain⟨w',r1,r2,r3⟩:=run_append_fits (P:=P) w 0 t ty0 ty i (P.cellsOf ty) (aW ht) g1 hi.symm g es.length cap xs dn a new.length c (evs.flatMap fun v:Value=>v.cells.toList) hlen k3 (fun u hu=>k4 u hu) KZ
        rw[<- h3]at r1
        exact done (m:=(· =g)) r1 ⟨r3.os,r3.tape,r3.output,r3.size,fun k hk kA=>r3.block k hk (by simpa using kA)⟩ (fun b hb=>by subst hb;rw[h3];rfl) (fun b hb=> .inl (by rw[h3];exact hb)) (by simpa using r2) k1 k2
       ·have holds:∀j u,xs[j]? =some u->w.cell? ((⟨g,0,none⟩:Addr).add j)=some u:=dn.cells (g:=g) (by rw[h3];rfl)
        have hr:=run_append_grow (P:=P) w t ty0 ty i z (aW ht) g1 g2 ⟨g,0,none⟩ es.length cap xs (by rw[dn.1,hi]) holds a new.length c _ (by rw[hlen,hi]) k3 af (by simp[maxLen]at FB;omega)
         (growslice_fits af (by rw[<- Ny];omega))
        rw[<- h3]at hr
        refine done (m:=fun _=>False) hr ⟨rfl,rfl,rfl,aK,fun k hk _=>RowKit.Below.heap_alloc w.drew _ k hk⟩ (fun _ h=>h.elim) (fun b hb=> .inr (by simp[dR]at hb;omega)) ?_ k1 k2
        have xi:=grownCap_ge w (es.length+new.length) cap ty
        refine⟨by rw[List.length_append,dn.1,hlen,List.length_append,Nat.add_mul], .inr ⟨w.heap.size,_,_,by rw[List.length_append],Nat.zero_le _,heap_alloc_new w.drew _,by rw[List.length_append];exact xi,
         grownCap_le_maxLen w _ cap ty FB, ?_, ?_⟩⟩
        ·simp only[Array.size_append,List.size_toArray,size_zeroCells,g3,dn.1,hlen,hi, <- Nat.add_mul]
         congr 1
         omega
        ·have:(xs++evs.flatMap (·.cells.toList)).length=(es++new).length*P.cellsOf ty:=by rw[List.length_append,dn.1,hlen,List.length_append,Nat.add_mul]
         simp only[Array.toList_append,List.append_assoc]
         rw[<- List.append_assoc, <- this]
         exact List.take_left
    ·exact h.elim
   ·exact h.elim
  ·exact h.elim
 ·exact h.elim
end
end
section
section
variable {P:Program}{M:Nat->Prop}{φ:Place}{H:Hp}{w w':World}{fr:Nat}{K:V->List (Nat×ab)->List Nat->Prop}
theorem pW{t:TypeId}{b off:Nat}{ty:TypeId}{cur:Array Value}(hb:w.heap[b]? =some (.cells cur ty (0,0)))(v:Value)(hs:v.cells.size=P.cellsOf t)(eF:0<v.cells.size\/(P.info? t).isSome=true)
 (hle:off+v.cells.size<=cur.size) (hf:Flat v.cells.toList):
 (Instr.storeAt t (.pointer (some ⟨b,off,none⟩)) v).run P w= .ok () (w.setRow b (cur.toList.take off++v.cells.toList++cur.toList.drop (off+v.cells.size)).toArray):=by
 obtain⟨i,hi⟩:∃i,P.info? t=some i:=by
  rcases eF with eF|eF
  ·exact il (P:=P) (e:=t) af
  ·exact Option.isSome_iff_exists.1 eF
 have:=run_storeCells_at (P:=P) b off ty v.cells.toList 0 cur w hb (by simpa using hle) (fun u hu=>hf u hu)
 simp only[Nat.add_zero,Array.length_toList]at this
 simp[Instr.storeAt,Instr.sureAddr,storeVar,c0 hi,hs,this]
theorem xS{sz:Nat}:∀ (evs:List Value) (i off:Nat) (ev Dr:Value) (us:List Value),(∀x∈evs,x.cells.size=sz)->evs[i]? =some ev->off+us.length<=sz->
 Dr.cells.toList=ev.cells.toList.take off++us++ev.cells.toList.drop (off+us.length)->
 (evs.set i Dr).flatMap (·.cells.toList)=(evs.flatMap (·.cells.toList)).take (i*sz+off)++us++(evs.flatMap (·.cells.toList)).drop (i*sz+off+us.length)
 |[],_,_,_,_,_,_,h,_,_=>by simp at h
 |x::evs,0,off,ev,Dr,us,hs,h,hle,he=>by
  simp at h;subst h
  have hx:x.cells.toList.length=sz:=by simpa using hs x aK
  simp only[List.set_cons_zero,List.flatMap_cons,Nat.zero_mul,Nat.zero_add,he]
  rw[List.take_append_of_le_length (by omega),List.drop_append_of_le_length (by omega)]
  simp[List.append_assoc]
 |x::evs,i+1,off,ev,Dr,us,hs,h,hle,he=>by
  have hx:x.cells.toList.length=sz:=by simpa using hs x aK
  have ih:=xS evs i off ev Dr us (fun y hy=>hs y mj) (by simpa using h) hle he
  simp only[List.set_cons_succ,List.flatMap_cons,ih]
  rw[show(i+1)*sz+off=x.cells.toList.length+(i*sz+off) by rw[Nat.add_mul,hx];omega,List.take_length_add_append,
   show x.cells.toList.length+(i*sz+off)+us.length=x.cells.toList.length+(i*sz+off+us.length) by omega,List.drop_length_add_append]
  simp[List.append_assoc]
theorem xT{α:Type}(l v:List α)(k m n:Nat)(hn:n=v.length)(h:k+n<=m)(hm:m<=l.length):(l.take k++v++l.drop (k+n)).take m=(l.take m).take k++v++(l.take m).drop (k+n):=by
 subst hn
 apply List.ext_getElem?
 intro i
 simp only[List.getElem?_append,List.getElem?_take,List.getElem?_drop,List.length_append,List.length_take]
 repeat' split
 all_goals first
  |rfl
  |omega
  |(congr 1;omega)
  |(symm;apply List.getElem?_eq_none;omega)
  |(apply List.getElem?_eq_none;omega)
  |skip
theorem FC{B:Nat->Prop}{e e':D}{off:Nat}{ds:List D}(h:e.put off ds=some e'){ev:Value}(he:D.den B w e ev){us:List Value}(hu:D.az B w ds us)(hf:Flat us):
 ∃Dr,D.den B w e' Dr/\Dr.cells.toList=ev.cells.toList.take off++us++ev.cells.toList.drop (off+us.length)/\off+us.length<=ev.cells.size:=by
 have hl:=D.ax _ _ hu
 rcases D.lO _ _ he with⟨cs,a,rfl,rfl⟩|⟨h1,h2,h3⟩
 ·obtain⟨a',ha,h4,h5⟩:=he
  injection ha with ha;subst ha
  have hl4:=D.ax _ _ h4
  simp only[Array.length_toList]at hl4
  simp only[D.put]at h
  split at h
  ·rename_i hle
   injection h with h;subst h
   refine⟨.agg (a.toList.take off++us++a.toList.drop (off+us.length)).toArray,⟨_,rfl, ?_, ?_⟩,by simp[Value.cells],by simp[Value.cells];omega⟩
   ·simp only
    rw[hl]
    exact D.a7 _ _ _ _ (D.a7 _ _ _ _ (D.cg _ _ _ h4) hu) (D.dz _ _ _ h4)
   ·intro x hx
    simp only[List.mem_append]at hx
    rcases hx with(hx|hx)|hx
    ·exact h5 x (List.mem_of_mem_take hx)
    ·exact hf x hx
    ·exact h5 x (List.mem_of_mem_drop hx)
  ·cases h
 ·have im:off=0/\∃u,ds=[u]/\e'=u:=by
   cases e<;>simp only[D.put]at h<;>first
    |(split at h
      ·rename_i u;injection h with h;exact⟨rfl,u,rfl,h.symm⟩
      ·cases h)
    |(simp[D.cells]at h2;done)
    |skip
   obtain⟨a,rfl,_⟩:=he
   simp[Value.oneCell']at h1
  obtain⟨rfl,u,rfl,rfl⟩:=im
  obtain⟨x,xs,rfl,h4,h5⟩:=hu
  simp only[D.az]at h5;subst h5
  have hx:x.cells=#[x]:=by have:=hf x aK;cases x<;>simp_all[Value.oneCell',Value.cells]
  exact⟨x,h4,by simp[hx,h3],by simp[h3]⟩
theorem Ds(hH:aq M φ H w){t:TypeId}{x v:V}{xv vv:Value}(hx:V.den (ai M φ H) φ H w x xv)(hv:V.den (ai M φ H) φ H w v vv)
 (h:rp P H.o t x v fun Δ rd=>K (.bH []) Δ rd):b9 M φ H w fr ((do Instr.storeAt t xv vv;pure Next.skip:Sem Next).run P w) K:=by
 unfold rp at h
 split at h
 ·rename_i id off
  split at h
  ·rename_i cs ho
   obtain⟨cs',h1,hK⟩:=h
   obtain⟨_,ee,hp⟩:=hx
   obtain⟨b,ef,rfl⟩:=hp dB
   have aQ:=hH.ok id
   simp only[aJ,ho]at aQ
   obtain⟨b',df,ty,g1,g2,g3,g4⟩:=aQ
   rw[ef]at g1;simp at g1;subst g1
   unfold vA at h1
   split at h1
   ·rename_i us hc
    split at h1
    ·rename_i hle
     injection h1 with h1;subst h1
     obtain⟨k1,k2⟩:=V.lO _ _ _ hc hv
     have l1:=V.ax _ _ k1
     have l2:=V.ax _ _ g3
     simp only[Array.length_toList]at l1 l2
     have hr:=pW (P:=P) (t:=t) (off:=off) g2 vv af (hle.2.1.imp (fun h=>af) (fun h=>h)) af k2
     obtain⟨t1,t2⟩:=xK (cs':=cs.take off++us++cs.drop (off+us.length)) hH ee ho ef g2 (df.toList.take off++vv.cells.toList++df.toList.drop (off+vv.cells.size)).toArray (by
      simp only
      rw[l1]
      exact V.a7 _ _ _ _ (V.a7 _ _ _ _ (V.cg _ _ _ g3) k1) (V.dz _ _ _ g3)) (by
      intro u hu
      simp only[List.mem_append]at hu
      rcases hu with(hu|hu)|hu
      ·exact g4 u (List.mem_of_mem_take hu)
      ·exact k2 u hu
      ·exact g4 u (List.mem_of_mem_drop hu))
     exact⟨_,_,_,_,_,_,_,hK,by simp only[Sem.run_bind,hr,Result.andThen_ok];rfl, .inr ⟨rfl,rfl⟩,t1,t2,⟨#[],rfl,rfl⟩,by simp[ee]⟩
    ·cases h1
   ·cases h1
  ·exact h.elim
 ·rename_i id ep i oP off
  split at h
  ·rename_i fU ty sz es ho
   obtain⟨rfl,rfl,e,he,y,hy,hyl,hyp,kA,e',im,hK⟩:=h
   obtain⟨_,ee,hp⟩:=hx
   obtain⟨b,n,c,ef,rfl⟩:=(hp ep dB).2 rfl
   obtain⟨f1,f2,f3,f4,f5⟩:=cG hH v.ids (cD v _ hv)
   have kC:id∉v.ids:=fun hm=>by have:=List.all_eq_true.1 kA id hm;simp at this
   have tf:=(f4 id kC).trans ho
   have YL:=ey f1 v y vv f3 hy (V.aL f2 _ _ hv)
   obtain⟨k1,k2⟩:=D.dV _ _ YL
   have l1:=D.ax _ _ k1
   simp only[Array.length_toList]at l1
   have aQ:=f1.ok id
   simp only[aJ,tf]at aQ
   obtain⟨h0,xs,⟨hl,cy⟩,evs,rfl,h2,h3⟩:=aQ
   rcases cy with⟨h4,h5⟩|⟨g,cap,cur,h4,h5,h6,h7,h8,h9,KR⟩
   ·rw[ef]at h4;simp at h4
   ·rw[ef]at h4;simp at h4
    obtain⟨rfl,rfl,rfl⟩:=h4
    obtain⟨ev,cP,hde⟩:=D.cN _ _ _ _ h3 he
    obtain⟨Dr,p1,p2,p3⟩:=FC im hde k1 k2
    simp only[Array.length_toList]at p2 p3
    have aaR:=h2 ev (List.mem_of_getElem? cP)
    have YM:i<es.length:=(List.getElem?_eq_some_iff.1 he).1
    have FE:i*oP+oP<=es.length*oP:=by
     rw[<- Nat.succ_mul];exact Nat.mul_le_mul_right _ YM
    have YN:es.length*oP<=cur.size:=by rw[h9];exact Nat.mul_le_mul_right _ h7
    have hr:=pW (P:=P) (t:=t) (off:=i*oP+off) h6 vv af (.inl af) af k2
    have Iy:=xS evs i off ev Dr vv.cells.toList h2 cP (by simpa using(by omega:off+vv.cells.size<=oP)) (by simpa using p2)
    simp only[Array.length_toList]at Iy
    have cC:((H.put (bP H.o v.ids)).o id).live=true:=by rw[tf];rfl
    have rv:dR (φ id)=some b:=by rw[ef];rfl
    have Tq:=(f5 id).2 ee
    have ht:=eE (w:=w) (w':=w.setRow b (cur.toList.take (i*oP+off)++vv.cells.toList++cur.toList.drop (i*oP+off+vv.cells.size)).toArray) Tq cC rv (iN w b _) (.arr ep ty oP (es.set i e')) pP pP
    have hh:=gR f1 Tq cC rv (iN w b (cur.toList.take (i*oP+off)++vv.cells.toList++cur.toList.drop (i*oP+off+vv.cells.size)).toArray) (.arr ep ty oP (es.set i e')) pP pP (by
     unfold aJ
     simp only[bn,aC,if_true]
     refine⟨h0,(evs.set i Dr).flatMap (·.cells.toList),⟨?_, .inr ⟨b,c,_,by rw[List.length_set];exact ef,Nat.zero_le _,setRow_heap w b cur _ ty (0,0) h6,by rw[List.length_set];exact h7,h8, ?_, ?_⟩⟩,evs.set i Dr,rfl, ?_, ?_⟩
     ·rw[Iy,List.length_set]
      simp only[List.length_append,List.length_take,List.length_drop,Array.length_toList,hl]
      omega
     ·simp only[List.size_toArray,List.length_append,List.length_take,List.length_drop,Array.length_toList]
      omega
     ·rw[Iy,List.length_set, <- KR]
      exact xT cur.toList vv.cells.toList _ _ _ aK af (by simpa using YN)
     ·intro x hx
      rcases List.mem_or_eq_of_mem_set hx with hx|rfl
      ·exact h2 x hx
      ·have:=congrArg List.length p2
       simp only[Array.length_toList,List.length_append,List.length_take,List.length_drop]at this
       omega
     ·exact D.aO (ht.blocks (M:=M)) _ _ (D.xI i es evs e' Dr h3 p1))
    rw[<- dk]at hh ht
    refine⟨_,_,_,_,_,_,_,hK,by simp only[Sem.run_bind,hr,Result.andThen_ok];rfl, .inr ⟨rfl,rfl⟩,hh,f2.trans ht,⟨#[],rfl,rfl⟩,fun j hj=> ?_⟩
    simp only[List.map_append,List.mem_append,List.map_cons,List.map_nil,List.mem_singleton]at hj
    rcases hj with hj|hj
    ·left
     refine cD v _ hv j ?_
     rw[jP]at hj
     simpa[Function.comp_def]using hj
    ·exact .inl (hj ▸ ee)
  ·exact h.elim
 ·exact h.elim
end
end
section
section
variable {P:Program}{B:Nat->Prop}{w:World}
theorem ft{t:TypeId}{xs:List D}{off:Nat}{x:D}(h:gG P t xs off=some x){arr:Array Value}(hd:D.az B w xs arr.toList)(hf:Flat arr.toList):
 ∃u,(∀w',(part t arr off).run P w'= .ok u w')/\D.den B w x u:=by
 unfold gG at h
 split at h
 ·rename_i ha
  split at h
  ·rename_i hl
   injection h with h;subst h
   obtain⟨i,hi⟩:=pc ha
   refine⟨.agg (arr.extract off (off+P.cellsOf t)),fun w'=> ?_,_,rfl, ?_, ?_⟩
   ·simp only[part,Sem.run_bind,pb ha w',Result.andThen_ok,if_true,c0 hi w',Sem.run_pure]
   ·have:=D.cg (P.cellsOf t) _ _ (D.dz off _ _ hd)
    simpa[Array.toList_extract,List.extract]using this
   ·exact S0
  ·cases h
 ·rename_i ha
  obtain⟨u,hu,It⟩:=D.cN _ _ _ _ hd h
  refine⟨u,fun w'=> ?_,It⟩
  have xr:arr[off]? =some u:=by simpa using hu
  simp only[part,Sem.run_bind,mK ha w',Result.andThen_ok,Bool.false_eq_true,if_false,xr,Sem.run_pure]
 ·cases h
theorem uo{a b:Option Bool}{r:Bool}(h:Dk a b=some r):∃x y,a=some x/\b=some y/\r=(x&&y):=by
 unfold Dk at h
 split at h
 ·injection h with h;exact⟨_,_,rfl,rfl,h.symm⟩
 ·cases h
def Xs(P:Program)(m:Nat)(t:TypeId)(x y:D)(r:Bool):Prop:=
 ∀ (B:Nat->Prop) (w:World) (u v:Value),D.den B w x u->D.den B w y v->(Op.equalIn m t u v).run P w= .ok r w
theorem nJ{d m:Nat}(IH:∀t x y r,nk P d t x y=some r->Xs P m t x y r){xs ys:List D}{bK bs:Array Value}(ha:D.az B w xs bK.toList)(BU:Flat bK.toList)(hb:D.az B w ys bs.toList)(Iz:Flat bs.toList):
 ∀ (fs:List Field) (r:Bool),(∀f∈fs,f.name≠ "_")->ue (fun u off=>KO (nk P d u) (gG P u xs off) (gG P u ys off)) (fs.map fun f=>(f.type,f.offset))=some r->
   (Op.eqFields m bK bs fs).run P w= .ok r w
 |[],r,_,h=>by simp[ue]at h;subst h;simp[Op.eqFields]
 |f::fs,r,hn,h=>by
  obtain⟨x,y,h1,h2,rfl⟩:=uo h
  simp only[KO]at h1
  split at h1
  ·rename_i p q hp hq
   obtain⟨u,k1,k2⟩:=ft hp ha BU
   obtain⟨v,k3,k4⟩:=ft hq hb Iz
   have h3:=IH _ _ _ _ h1 B w u v k2 k4
   have h4:=nJ IH ha BU hb Iz fs y (fun g hg=>hn g (by simp[hg])) h2
   have kA:=hn f aK
   simp only[Op.eqFields,kA,ne_eq,not_false_eq_true,if_true,Sem.run_bind,k1,k3,h3,Result.andThen_ok]
   cases x
   ·simp
   ·simpa using h4
  ·cases h1
theorem pX{d m:Nat}{e:TypeId}(IH:∀t x y r,nk P d t x y=some r->Xs P m t x y r){xs ys:List D}{bK bs:Array Value}(ha:D.az B w xs bK.toList)(BU:Flat bK.toList)(hb:D.az B w ys bs.toList)(Iz:Flat bs.toList):
 ∀ (n i:Nat) (r:Bool),BV (fun i=>KO (nk P d e) (gG P e xs (i*P.cellsOf e)) (gG P e ys (i*P.cellsOf e))) n i=some r->
   (Op.eqItems m e (P.cellsOf e) bK bs (List.range' i n)).run P w= .ok r w
 |0,i,r,h=>by simp[BV]at h;subst h;simp[Op.eqItems]
 |n+1,i,r,h=>by
  obtain⟨x,y,h1,h2,rfl⟩:=uo h
  simp only[KO]at h1
  split at h1
  ·rename_i p q hp hq
   obtain⟨u,k1,k2⟩:=ft hp ha BU
   obtain⟨v,k3,k4⟩:=ft hq hb Iz
   have h3:=IH _ _ _ _ h1 B w u v k2 k4
   have h4:=pX IH ha BU hb Iz n (i+1) y h2
   simp only[List.range'_succ,Op.eqItems,Sem.run_bind,k1,k3,h3,Result.andThen_ok]
   cases x
   ·simp
   ·simpa using h4
  ·cases h1
theorem qP:∀ (d:Nat) (t:TypeId) (x y:D) (r:Bool),nk P d t x y=some r->∀m,d<=m->Xs P m t x y r
 |0,_,_,_,_,h=>by simp[nk]at h
 |d+1,t,x,y,r,h=>by
  intro m hm B w u v hu hv
  obtain⟨m,rfl⟩:∃k,m=k+1:=⟨m - 1,af⟩
  have IH:∀t x y r,nk P d t x y=some r->Xs P m t x y r:=fun t x y r h=>qP d t x y r h m af
  unfold nk at h
  cases hs:bw P t with
  |none=>rw[hs]at h;cases h
  |some sh=>
   rw[hs]at h
   unfold bw at hs
   cases ht:P.underlying t with
   |none=>rw[ht]at hs;cases hs
   |some td=>
    rw[ht]at hs
    cases td<;>simp only[Option.some.injEq,reduceCtorEq]at hs
    case int k0=>
     subst hs
     simp only at h
     split at h
     ·split at h
      ·rename_i e;subst e;injection h with h;subst h
       simp only[D.den]at hu hv;subst hu;subst hv
       exact run_equalIn_int w m t _ _ _ _ ht
      ·cases h
     ·cases h
    case bool=>
     subst hs
     simp only at h
     split at h
     ·injection h with h;subst h
      simp only[D.den]at hu hv;subst hu;subst hv
      exact run_equalIn_bool' w m t _ _ ht
     ·cases h
    case string=>
     subst hs
     simp only at h
     split at h
     ·injection h with h;subst h
      obtain⟨s1,rfl,rfl⟩:=hu
      obtain⟨s2,rfl,rfl⟩:=hv
      rw[run_equalIn_string w m t _ _ ht]
      rw[ByteArray.toList_eq,ByteArray.toList_eq]
     ·cases h
    case struct fs=>
     split at hs
     ·rename_i hc
      injection hs with hs;subst hs
      simp only[Bool.and_eq_true,Bool.not_eq_true',List.all_eq_true,bne_iff_ne]at hc
      simp only at h
      split at h
      ·obtain⟨bK,rfl,ha,BU⟩:=hu
       obtain⟨bs,rfl,hb,Iz⟩:=hv
       have hfs:P.fieldsOf t=fs:=by simp[Program.fieldsOf,ht]
       rw[run_equalIn_struct w m t bK bs (by rw[hfs];exact ht) hc.1,hfs]
       exact nJ IH ha BU hb Iz _ _ hc.2 h
      ·cases h
     ·cases hs
    case array n e=>
     split at hs
     ·rename_i hc
      injection hs with hs;subst hs
      simp only at h
      split at h
      ·obtain⟨bK,rfl,ha,BU⟩:=hu
       obtain⟨bs,rfl,hb,Iz⟩:=hv
       obtain⟨i,hi⟩:=Option.isSome_iff_exists.1 hc
       rw[run_equalIn_array w m bK bs ht hi,List.range_eq_range']
       exact pX IH ha BU hb Iz _ _ _ h
      ·cases h
     ·cases hs
theorem Nl{t:TypeId}{bK bs:List D}{r:Bool}(h:nk P 100 t (.agg bK) (.agg bs)=some r)(hg:P.eqGuardType P.depth t=false):Fl P t (.agg bK) (.agg bs) r:=by
 intro B w u v hu hv
 refine⟨qP 100 t _ _ _ h _ cA B w u v hu hv,fun op a b=> ?_⟩
 obtain⟨bK,rfl,_⟩:=hu
 obtain⟨bs,rfl,_⟩:=hv
 exact run_eqGuard_agg w op t a b bK bs hg
end
end
end Go.Proofs.YtlhemmpklhhgoaaGreat
