/-
  A PART OF THE PROOF. Conditions: none.
-/
import Derived.Test.YtonbelhklnmjnaaGreatLl6
set_option linter.unusedSimpArgs false
set_option linter.unusedVariables false
namespace Go.Proofs.YtonbelhklnmjnaaGreat
section
section
variable {P:Program}{M:Nat->Prop}{φ:Place}{H:Hp}{w w':World}{cU:Place}{H0:Hp}{w0:World}{n b:Nat}{s:S}{a:Act}{cx:Cx}{ro:Option Nat}{k:Nat}
theorem jj(hb:∀id,H0.us id->id<b)(uT:cx.rd=false->ro=none):∀ (c:Code) (Q:gf->S->Prop) (s:S) (φ:Place) (a:Act) (w:World),j6 P n b cx.rd c Q s->cB M cU H0 w0 n cx φ s a w->c.ux P ro (Hs M cU H0 w0 n cx Q) a w:=by
 intro c
 induction c with
 |skip=>exact fun Q s φ a w h hs=>qc (k:=0) (wpIn_skip ⟨.normal,s,φ,h,hs,trivial⟩)
 |scope x ih=>exact fun Q s φ a w h hs=>zb (ih Q s φ a w h hs) (fun l a w ⟨xx,s',aS,hq,jC,hm⟩=>by cases xx<;>exact hm)
 |label l=>exact fun Q s φ a w h hs=>qc (k:=0) (wpIn_label ⟨.normal,s,φ,h,hs,trivial⟩)
 |exit id=>exact fun Q s φ a w h hs=>Da ⟨.exit id,s,φ,h,hs,rfl⟩
 |ret=>exact fun Q s φ a w h hs=>Ht ⟨.ret,s,φ,h,hs,trivial⟩
 |goto l=>exact fun Q s φ a w h hs=>h.elim
 |refuse y=>exact fun Q s φ a w h hs=>h.elim
 |rangeFunc g ps x y=>
  intro Q s φ a w h hs
  obtain⟨h1,s',hle,h2⟩:=h
  rcases hle with rfl|hle
  ·exact ze hs h1 (uT h1) h2
  ·obtain⟨aS,jC⟩:=FF hb hs hle
   exact ze jC h1 (uT h1) h2
 |region id ops draw=>
  intro Q s φ a w h hs
  cases draw with
  |true=>exact qc (h M cU H0 w0 cx φ a w ro 0 hs)
  |false=>
   refine qc (k:=0) (wpIn_region_list (qb (K:=Q .normal) (X:=fun v s=>Q (.bW v) s) (fun s φ a w hk hs=>⟨.normal,s,φ,hk,hs,trivial⟩) (fun v s φ a w val hx hs hd=>⟨.bW v,s,φ,hx,hs,val,rfl,hd⟩) _ s φ a w h hs))
 |seq x y Q6 Q7=>
  intro Q s φ a w h hs
  refine A1 (iM (Q6 _ s φ a w h hs) ?_)
  rintro e a' w' ⟨xx,s',aS,hq,jC,hm⟩
  cases e<;>cases xx<;>first|(exact hm.elim)|skip
  ·exact Q7 Q s' aS a' w' hq jC
  ·subst hm;exact⟨_,s',aS,hq,jC,rfl⟩
  ·exact LV
  ·exact LZ
 |cond c x y Q6 Q7=>
  intro Q s φ a w h hs
  simp only[j6]at h
  have hc:=nH (M:=M) (φ:=φ) (H:=s.H) (w:=w) s a hs.env c
  split at h
  ·rename_i t hv
   rw[hv]at hc
   simp only[V.den,D.den]at hc
   cases t with
   |true=>exact rk hc (Q6 Q s φ a w (h.1 rfl) hs)
   |false=>exact rk hc (Q7 Q s φ a w (h.2 rfl) hs)
  ·rename_i hv
   rw[hv]at hc
   obtain⟨t,hc⟩:=hc
   cases t with
   |true=>exact rk hc (Q6 Q s φ a w h.1 hs)
   |false=>exact rk hc (Q7 Q s φ a w h.2 hs)
  ·exact h.elim
 |block id x ih=>
  intro Q s φ a w h hs
  refine Js (iM (ih _ s φ a w h hs) ?_)
  rintro e a' w' ⟨xx,s',aS,hq,jC,hm⟩
  cases e<;>cases xx<;>first|(exact hm.elim)|skip
  ·exact⟨.normal,s',aS,hq,jC,trivial⟩
  ·subst hm
   simp only[Exit.inBlock]
   simp only[gA]at hq
   split
   ·rename_i he;rw[if_pos he]at hq;exact⟨.normal,s',aS,hq,jC,trivial⟩
   ·rename_i he;rw[if_neg he]at hq;exact⟨.exit _,s',aS,hq,jC,rfl⟩
  ·exact LV
  ·exact LZ
 |loop x ih=>
  intro Q s φ a w h hs
  obtain⟨J,⟨m0,s1,hle,hI⟩,mL⟩:=h
  obtain⟨jN,zf⟩:=FF hb hs hle
  refine A2 (fun m a w=>∃s φ,J m s/\cB M cU H0 w0 n cx φ s a w) ?_ m0 a w ⟨s1,jN,hI,zf⟩
  rintro m a w ⟨s,φ,hI,hs⟩
  refine iM (ih _ s φ a w (mL m s hI) hs) ?_
  rintro e a' w' ⟨xx,s',aS,hq,jC,hm⟩
  cases e<;>cases xx<;>first|(exact hm.elim)|skip
  ·obtain⟨m2,s2,cD,adD,M9⟩:=hq
   obtain⟨Jt,Qe⟩:=FF hb jC adD
   exact⟨m2,cD,s2,Jt,M9,Qe⟩
  ·subst hm;exact⟨_,s',aS,hq,jC,rfl⟩
  ·exact LV
  ·exact LZ
def Na(tmps:Array Value)(r:ResultVar):Sem Value:=
 match r with
 | .tmp t=>pure (tmps.getD t undef)
 | .cell p t=>do loadVar t (<- asAddr (tmps.getD p undef))
theorem uU(rm:aI M φ s.H w)(fh:∀i,V.den (aA M φ s.H) φ s.H w (s.env i) (a.tmps.getD i undef)):∀ (rs:List ResultVar) (vs:List V),mJ P s rs=some vs->
 ∃vals,(rs.mapM (Na a.tmps)).run P w= .ok vals w/\V.aP (aA M φ s.H) φ s.H w vs vals
 |[],vs,h=>by simp[mJ]at h;subst h;exact⟨[],ao,rfl⟩
 | .tmp t::rs,vs,h=>by
   simp only[mJ,Option.map_eq_some_iff]at h
   obtain⟨us,h1,rfl⟩:=h
   obtain⟨vals,h2,h3⟩:=uU rm fh rs us h1
   exact⟨a.tmps.getD t undef::vals,by simp only[List.mapM_cons,Na,Sem.run_bind,Sem.run_pure,Result.andThen_ok,h2],_,_,rfl,fh t,h3⟩
 | .cell p t::rs,vs,h=>by
   simp only[mJ]at h
   split at h
   ·rename_i id off hv
    split at h
    ·rename_i cs ho
     simp only[Option.bind_eq_some_iff,Option.map_eq_some_iff]at h
     obtain⟨v,h0,us,h1,rfl⟩:=h
     obtain⟨vals,h2,h3⟩:=uU rm fh rs us h1
     have hx:=fh p
     rw[hv]at hx
     obtain⟨_,hu,hp⟩:=hx
     obtain⟨k,fE,gG⟩:=hp (by show(s.o id).cK=true;rw[ho];rfl)
     have bw:=rm.ok id
     have Cl:s.H.o id= .row cs:=ho
     simp only[bf,Cl]at bw
     obtain⟨b',eQ,ty,g1,g2,g3,g4⟩:=bw
     rw[fE]at g1;simp at g1;subst g1
     obtain⟨val,h4,h5⟩:=qT (P:=P) h0 ⟨k,0,none⟩ eQ.toList g3 g4 (fun j u hj=>qU g2 j u nz) rfl
     rw[add_plain,Nat.zero_add]at h4
     have h6:(loadVar t ⟨k,off,none⟩).run P w= .ok val w:=by simpa[Instr.loadAt,Instr.sureAddr]using h4
     exact⟨val::vals,by simp only[List.mapM_cons,Na,gG,asAddr,Sem.run_bind,Sem.run_pure,Result.andThen_ok,h6,h2],val,vals,rfl,h5,h3⟩
    ·cases h
   ·cases h
theorem nR{fn:Func}{tmps:Array Value}{vals:List Value}
 (h:(fn.results.toList.mapM (Na tmps)).run P w= .ok vals w):
 (results fn tmps).run P w= .ok (if h:vals.toArray.size=1 then vals.toArray[0]else .tuple vals.toArray) w:=by
 have e:results fn tmps=(do let vs <- fn.results.mapM (Na tmps);pure (if h:vs.size=1 then vs[0]else .tuple vs)):=by
  unfold results
  congr 2
 rw[e,Array.mapM_eq_mapM_toList]
 simp only[Sem.run_bind,Sem.run_map,h,Result.andThen_ok,Sem.run_pure]
theorem mb{us:Nat->Prop}(φ:Place)(hM:∀k,M k->k<w.heap.size):aI M φ ⟨fun _=> .no,us⟩ w where
 ok id:=by simp[bf]
 fresh _ _:=rfl
 apart i j k hi:=by simp[ab.live]at hi
 ours k:=by rintro⟨id,h,_⟩;simp[ab.live]at h
 B9:=hM
theorem Ju{vals:Array Value}{m i:Nat}:(vals++Array.replicate m undef).getD i undef=(vals[i]?).getD undef:=by
 simp only[Array.getD_eq_getD_getElem?,Array.getElem?_append]
 split
 ·rfl
 ·rw[Array.getElem?_eq_none (xs:=vals) (by omega)]
  simp only[Array.getElem?_replicate]
  split<;>rfl
structure A3 (M:Nat->Prop) (cU:Place) (H0:Hp) (w0:World) (φ:Place) (s:S) (tmps:Array Value) (w:World):Prop where
 heap:aI M φ s.H w
 tr:Trans cU H0 w0 φ s.H w
 env:∀i,V.den (aA M φ s.H) φ s.H w (s.env i) (tmps.getD i undef)
theorem Jv{tmps:Array Value}(hs:A3 M cU H0 w0 φ s tmps w){r:Nat}(h1:w0.heap.size<=r)(h2:w.heap[r]? =some (.deferred (some [])))(h3: ¬dt φ s.H r):
 A3 M cU H0 w0 φ s tmps {w with heap:=w.heap.setIfInBounds r (.deferred none)}:=by
 have il:∀b,b≠r->(w.heap.setIfInBounds r (.deferred none))[b]? =w.heap[b]? :=fun b hb=>(MapKept.heap_set h2).2 b hb
 have xS:∀b,dG w b-> ¬aA M φ s.H b->(w.heap.setIfInBounds r (.deferred none))[b]? =w.heap[b]? /\ ¬aA M φ s.H b:=by
  intro b hc hn
  refine⟨il b fun e=> ?_,hn⟩
  subst e
  rcases hc with⟨cs,ty,fz,hc⟩|⟨es,clock,hc⟩
  ·rw[h2]at hc;cases hc
  ·rw[h2]at hc;cases hc
 refine⟨⟨fun id=> ?_,hs.heap.fresh,hs.heap.apart,fun b hb=>⟨(hs.heap.ours b hb).1,by simpa using(hs.heap.ours b hb).2⟩,fun b hb=>by simpa using hs.heap.B9 b hb⟩,⟨⟨hs.tr.keep.os,hs.tr.keep.tape,hs.tr.keep.output,by simpa using hs.tr.keep.size,fun j hj hm=> ?_⟩,hs.tr.grow,hs.tr.rel⟩,fun i=>V.l4 xS (eR.refl _ _) _ _ (hs.env i)⟩
 ·exact bf.CI xS (eR.refl _ _) rfl rfl (fun hl b hb=>il b fun e=>h3 ⟨id,hl,e ▸ hb⟩) (hs.heap.ok id)
 ·rw[il j (by omega)];exact hs.tr.keep.block j hj hm
theorem iN{fn:Func}{R:Ending->World->Prop}{u:FrameMode}(hu:u≠ .run){tmps tb:Array Value}{ds:List Deferred}(hR:∀w,A3 M cU H0 w0 φ s tb w->LeavesInM (eK none) k P fn tmps R ds u w):
 ∀ (ms:List Nat) (w:World),ms.Nodup->(∀r∈ms,w0.heap.size<=r/\w.heap[r]? =some (.deferred (some []))/\ ¬dt φ s.H r)->A3 M cU H0 w0 φ s tb w->LeavesInM (eK none) k P fn tmps R (ms.map mark++ds) u w
 |[],w,_,_,hs=>hR w hs
 |r::ms,w,hn,hm,hs=>by
  obtain⟨h1,h2,h3⟩:=hm r ao
  obtain⟨E5,Qa⟩:=List.nodup_cons.1 hn
  refine⟨hu, .inl ⟨r,{w with heap:=w.heap.setIfInBounds r (.deferred none)},rfl, ?_,iN hu hR ms _ Qa (fun r' AV=> ?_) (Jv hs h1 h2 h3)⟩⟩
  ·simp[Instr.takeDeferred,getObj,setObj,Sem.run,h2,Result.andThen]
  ·obtain⟨g1,g2,g3⟩:=hm r' (by simp[AV])
   exact⟨g1,((MapKept.heap_set h2).2 r' (fun e=>E5 (e ▸ AV))).trans g2,g3⟩
theorem cB.toB (hs:cB M cU H0 w0 n cx φ s a w):A3 M cU H0 w0 φ s a.tmps w:=⟨hs.heap,hs.tr,hs.env⟩
def mM(P:Program)(rs:List ResultVar)(K X:V->(Nat->ab)->Nat->Prop)(e:gf)(s:S):Prop:=
 match e with
 | .normal| .ret=>match mJ P s rs with
   |some [v]=>K v s.o s.nx
   |some vs=>K (.cn vs) s.o s.nx
   |none=>False
 | .bW v=>X v s.o s.nx
 | .exit _=>False
theorem Dd{P:Program}{rs:List ResultVar}{K X:V->(Nat->ab)->Nat->Prop}{s:S}(h:mM P rs K X .ret s):∃vs,mJ P s rs=some vs/\K (match vs with|[v]=>v|vs=> .cn vs) s.o s.nx:=by
 unfold mM at h
 simp only at h
 split at h
 ·rename_i v h1;exact⟨[v],h1,h⟩
 ·rename_i vs h1 h2
  refine⟨vs,h2, ?_⟩
  split
  ·exact absurd rfl (h1 _)
  ·exact h
 ·exact h.elim
theorem De:∀ {vs:List V} {vals:List Value},V.aP (aA M φ H) φ H w vs vals->V.den (aA M φ H) φ H w (match vs with|[v]=>v|vs=> .cn vs) (if h:vals.toArray.size=1 then vals.toArray[0]else .tuple vals.toArray)
 |[],vals,h=>by simp only[V.aP]at h;subst h;exact⟨#[],rfl,rfl⟩
 |[v],vals,h=>by obtain⟨u,us,rfl,h1,h2⟩:=h;simp only[V.aP]at h2;subst h2;exact h1
 |v::y::l,vals,h=>by
  have h':=h
  obtain⟨u,us,rfl,h1,u2,us2,rfl,h2⟩:=h
  exact⟨(u::u2::us2).toArray,ao,by simpa using h'⟩
theorem Cz{vals:Array Value}{m:Nat}{vs:List V}(hd:V.aP (aA M φ H) φ H w vs vals.toList)(i:Nat):V.den (aA M φ H) φ H w (cN vs i) ((vals++Array.replicate m undef).getD i undef):=by
 have hlen:=V.aL _ _ hd
 simp only[cN,Ju]
 cases hx:vs[i]? with
 |none=>
  have:vals[i]? =none:=by
   rw[List.getElem?_eq_none_iff]at hx
   apply Array.getElem?_eq_none
   simp at hlen;omega
  simp only[List.getD_eq_getElem?_getD,hx,this]
  exact⟨#[],rfl,rfl⟩
 |some v=>
  obtain⟨u,hu,QQ⟩:=V.ez _ _ _ _ hd hx
  have Cn:vals[i]? =some u:=by simpa using hu
  simp only[List.getD_eq_getElem?_getD,hx,Cn,Option.getD_some]
  exact QQ
theorem nS{f:FuncId}{fn:Func}{c:Code}{args:Array Value}{w:World}{R:Ending->World->Prop}(hf:P.funcs[f]? =some fn)(hb:fn.body=some c)
 (h:c.ux P none (bodyPostM (eK none) k P fn R) {tmps:=args++Array.replicate (fn.ntmps - args.size) undef,defers:=[]} w):CallsIn (eK none) k P f args w R:=by
 have cD:f<P.funcs.size:=(Array.getElem?_eq_some_iff.1 hf).1
 refine⟨trivial,fun cs hr=> ?_⟩
 let b:Frame:={(default:Frame)with fn:=f,kind:= .normal,roundOf:=none}
 have mK:Frame.enter P f args .normal=b.atR {tmps:=args++Array.replicate (fn.ntmps - args.size) undef,defers:=[]} [.code c]:=by
  simp[Frame.enter,Frame.atR,hf,hb,b]
 obtain⟨e,a',w',hq,dK⟩:=h b [] cs rfl cD
 rw[<- mK]at dK
 cases e with
 |normal=>
  obtain⟨e',XE,fr',hR,hs,K8,hl⟩:=leaves_stepsInM a'.defers .returning w' {b.atR a' []with mode:= .returning} cs rfl rfl rfl hf rfl (trivial:(eK none).fn f) hr hq
  exact⟨e',XE,fr',hR,ComesIn.of_steps (StepsIn.trans dK (.one (fenced_calm (n:=0) (fr:=b.atR a' []) trivial iL rfl) (stepR_end rfl))) hs,K8,hl⟩
 |ret=>
  obtain⟨todo,Ti⟩:=dK.1 rfl
  obtain⟨e',XE,fr',hR,hs,K8,hl⟩:=leaves_stepsInM a'.defers .returning w' {b.atR a' todo with mode:= .returning} cs rfl rfl rfl hf rfl (trivial:(eK none).fn f) hr hq
  exact Th
 |panic chain=>
  obtain⟨todo,Ti⟩:=dK
  obtain⟨e',XE,fr',hR,hs,K8,hl⟩:=leaves_stepsInM a'.defers (.panicking chain) w' {b.atR a' todo with mode:= .panicking chain} cs rfl rfl rfl hf rfl (trivial:(eK none).fn f) hr hq
  exact Th
 |exit id=>exact hq.elim
 |goto l=>exact hq.elim
 |outgrown=>exact⟨.outgrown,w',b,hq,dK.resolve_left (by simp[b]),rfl,trivial⟩
def FH(P:Program)(l:Nat)(R:Ending->World->Prop):Exit->Act->World->Prop
 | .normal,_,w=>∃v w',(Instr.endRound l none).run P w= .ok v w'/\R (.returned v) w'
 | .ret,_,w=>∃v w',(Instr.endRound l (some .ret)).run P w= .ok v w'/\R (.returned v) w'
 | .exit id,_,w=>∃v w',(Instr.endRound l (some (.exit id))).run P w= .ok v w'/\R (.returned v) w'
 | .goto _,_,_=>False
 | .panic chain,a,w=>a.defers=[]/\R (.panicked chain) w
 | .outgrown,_,_=>False
theorem vO{l:Nat}{f:FuncId}{tmps:Array Value}{assign body:Code}{w:World}{R:Ending->World->Prop}(hf:f<P.funcs.size)
 (h:assign.ux P (some l) (Exit.then (fun pq kD=>∃sS,(Instr.beginRound l).run P kD= .ok () sS/\body.ux P (some l) (FH P l R) pq sS) (fun e a w=>match e with| .panic chain=>a.defers=[]/\R (.panicked chain) w|_=>False))
  {tmps:=tmps,defers:=[]} w):
 RoundIn Fence.wide n P l f tmps assign body w R:=by
 refine⟨trivial,fun c cs hr=> ?_⟩
 let b:Frame:={(default:Frame)with fn:=f,kind:= .normal,roundOf:=some l}
 have Qf:Frame.round l f tmps assign body .normal=b.atR {tmps:=tmps,defers:=[]} [.code assign, .beginRound, .code body]:=by
  simp[Frame.round,Frame.atR,b]
 have calm:∀ (m:Machine),m.fenced P Fence.wide:=fun m=>fenced_wide P m
 have bW:∀ {a:Act} {w:World} {todo:List Item} {chain:List PanicEntry},a.defers=[]->step P (lone {b.atR a todo with mode:= .panicking chain} (c::cs) w)= .next (lone (c.raise chain) cs w):=by
  intro a w todo chain hd
  exact step_leave_panicked (fr:={b.atR a todo with mode:= .panicking chain}) ⟨rfl,hd,P.funcs[f],by show P.funcs[f]? =_;simp[hf]⟩
 obtain⟨e,pq,kD,hq,dK⟩:=h b [.beginRound, .code body] (c::cs) rfl hf
 rw[<- Qf]at dK
 cases e with
 |normal=>
  obtain⟨sS,hbr,rn⟩:=hq
  have s1:StepsIn (Machine.fenced P Fence.wide) P (lone (b.atR pq [.beginRound, .code body]) (c::cs) kD) (lone (b.atR pq [.code body]) (c::cs) sS):= .one (calm _) (stepR_beginRound rfl hbr)
  obtain⟨Ye,adB,FC,rj,lF⟩:=rn b [] (c::cs) rfl hf
  have dK:StepsIn (Machine.fenced P Fence.wide) P _ _:=dK
  cases Ye with
  |normal=>
   obtain⟨v,uy,db,hR⟩:=rj
   have lF:StepsIn (Machine.fenced P Fence.wide) P _ _:=lF
   exact⟨.returned v,uy,hR,(StepsIn.trans dK s1).trans (StepsIn.trans lF (.one (calm _) (stepR_round_end rfl rfl db)))⟩
  |ret=>
   obtain⟨v,uy,db,hR⟩:=rj
   obtain⟨k₁,hs⟩:=lF.2 rfl
   have hs:StepsIn (Machine.fenced P Fence.wide) P _ _:=hs
   exact⟨.returned v,uy,hR,(StepsIn.trans dK s1).trans (StepsIn.trans hs (.one (calm _) (stepR_round_ret rfl rfl db)))⟩
  |exit id=>
   obtain⟨v,uy,db,hR⟩:=rj
   obtain⟨k₁,hk,hs⟩:=lF.2 rfl rfl
   have hs:StepsIn (Machine.fenced P Fence.wide) P _ _:=hs
   exact⟨.returned v,uy,hR,(StepsIn.trans dK s1).trans (StepsIn.trans hs (.one (calm _) (stepR_round_exit rfl rfl hk db)))⟩
  |goto t=>exact rj.elim
  |panic chain=>
   obtain⟨todo,hs⟩:=lF
   have hs:StepsIn (Machine.fenced P Fence.wide) P _ _:=hs
   exact⟨.panicked chain,FC,rj.2,(StepsIn.trans dK s1).trans (StepsIn.trans hs (.one (calm _) (bW rj.1)))⟩
  |outgrown=>exact rj.elim
 |exit id=>exact hq.elim
 |goto t=>exact hq.elim
 |ret=>exact hq.elim
 |panic chain=>
  obtain⟨todo,hs⟩:=dK
  have hs:StepsIn (Machine.fenced P Fence.wide) P _ _:=hs
  exact⟨.panicked chain,kD,hq.2,StepsIn.trans hs (.one (calm _) (bW hq.1))⟩
 |outgrown=>exact hq.elim
theorem cR.Hw {f:FuncId}{fn:Func}{c:Code}{args:List V}{o:Nat->ab}{nx:Nat}{K X:V->(Nat->ab)->Nat->Prop}(hf:P.funcs[f]? =some fn)(hn:(fn.name== "runtime.NumGoroutine")=false)(rn:fn.body=some c)(hl:args.length<=fn.ntmps)
 (h:j6 P fn.ntmps nx false c (mM P fn.results.toList K X) ⟨cN args,o,nx⟩):cR P f args o nx K X:=by
 refine⟨⟨fn,hf,hn,by rw[rn];rfl⟩,fun M φ w vals hH hd=> ?_⟩
 have hlen:=V.aL _ _ hd
 let s0:S:=⟨cN args,o,nx⟩
 let a0:Act:={tmps:=vals++Array.replicate (fn.ntmps - vals.size) undef,defers:=[]}
 have gQ:cB M φ (hp o nx) w fn.ntmps ⟨[],false⟩ φ s0 a0 w:=by
  exact TJ
 refine C6 (ro:=none) (k:=0) (nS hf rn (iM (jj (P:=P) (H0:=hp o nx) (b:=nx) (cx:=⟨[],false⟩) (ro:=none) (fun id hu=>hu) (fun _=>rfl) c _ s0 φ a0 w h gQ) ?_))
 rintro e a w' ⟨x,s,aS,hq,hs,hm⟩
 obtain⟨ms,g1,g2,g3,g4⟩:=hs.defers
 rw[List.append_nil]at g1
 have done:(x= .normal\/x= .ret)->LeavesInM (eK none) 0 P fn a.tmps (nN M φ (hp o nx) w K X) a.defers .returning w':=by
  intro hx
  have hq':mM P fn.results.toList K X .ret s:=by rcases hx with rfl|rfl<;>exact hq
  obtain⟨vs,h1,h2⟩:=Dd hq'
  rw[g1]
  have:=iN (P:=P) (k:=0) (fn:=fn) (R:=nN M φ (hp o nx) w K X) (u:= .returning) ao (ds:=[]) (fun w2 hb=>by
   obtain⟨vals,h3,h4⟩:=uU (P:=P) (a:=a) hb.heap hb.env _ _ h1
   exact⟨_,nR h3,aS,s.o,s.nx,_,hb.heap,hb.tr,De h4,h2⟩) ms w' g2 g4 hs.toB
  rwa [List.append_nil]at this
 cases e<;>cases x<;>first|(exact hm.elim)|skip
 ·exact done (.inl rfl)
 ·exact hq.elim
 ·exact done (.inr rfl)
 ·rename_i v
  obtain⟨val,rfl,hd'⟩:=hm
  show LeavesInM (eK none) 0 P fn a.tmps (nN M φ (hp o nx) w K X) a.defers _ w'
  rw[g1]
  have Qf:A3 M φ (hp o nx) w aS ⟨fun i=>if i=0 then v else .aa,s.o,s.nx⟩ #[val] w':=⟨hs.heap,hs.tr,fun i=>by
   by_cases hi:i=0
   ·subst hi;exact hd'
   ·simp only[hi,if_false];trivial⟩
  have:=iN (P:=P) (k:=0) (fn:=fn) (s:=⟨fun i=>if i=0 then v else .aa,s.o,s.nx⟩) (tmps:=a.tmps) (tb:=#[val]) (cU:=φ) (H0:=hp o nx) (w0:=w) (R:=nN M φ (hp o nx) w K X) (u:= .panicking [{v:=val,recovered:=false}]) ao (ds:=[]) (fun w2 hb=>by
   have h0:=hb.env 0
   exact⟨aS,s.o,s.nx,v,hb.heap,hb.tr,val,rfl,h0,hq⟩) ms w' g2 g4 Qf
  rwa [List.append_nil]at this
theorem aQ.mN {f:FuncId}{ds:List D}{out:R}(h:cR P f (ds.map .d) (fun _=> .no) 0 (fun v o _=>∃vs rs,v=(match vs with|[v]=>v|vs=> .cn vs)/\cA o vs=some rs/\out= .ret rs) (fun v o _=>∃x,eI o v=some x/\out= .bW x)):aQ P f ds out:=by
 refine⟨h.1,fun M w vals hM hd=> ?_⟩
 let cU:Place:=fun _=> .nilFunc
 have x7:∀b, ¬dt cU (hp (fun _=> .no) 0) b:=by rintro b ⟨id,hl,_⟩;simp[hp,ab.live]at hl
 refine(h.2 M cU w vals (mb cU hM) ((V.cM _ _).2 (D.bg (w:=w) (w':=w) (B:=M) (fun b _ hB=>⟨rfl,fun h=>h.elim hB (x7 b)⟩) _ _ hd))).mono ?_
 rintro e w' ⟨aS,o',nx',v,k1,k2,k3⟩
 have zg:fg (fun _=>False) w w':=⟨k2.keep.os,k2.keep.tape,k2.keep.output,k2.keep.size,fun k hk _=>k2.keep.block k hk (x7 k)⟩
 have fin:∀ (vs:List V) (xs:List D) (vals:List Value),cA o' vs=some xs->V.aP (aA M aS (hp o' nx')) aS (hp o' nx') w' vs vals->D.aP M w' xs vals:=by
  intro vs xs vals h1 h2
  obtain⟨f1,f2,f3,f4,f5⟩:=dH k1 (V.bK vs) (dv vs _ h2)
  have h3:=dT f1 vs xs vals f3 h1 (V.bg f2 _ _ h2)
  exact D.bg (w:=w') (w':=w') (fun k _ hB=>⟨rfl,fun hM=>hB (.inl hM)⟩) xs vals h3
 refine⟨zg, ?_⟩
 cases e with
 |outgrown=>exact k3.elim
 |panicked ch=>
  obtain⟨val,rfl,g1,x,g2,rfl⟩:=k3
  have:=fin [v] [x] [val] (by simp[cA,g2]) ⟨val,[],rfl,g1,rfl⟩
  obtain⟨u,us,he,h2,_⟩:=this
  simp at he;obtain⟨rfl,rfl⟩:=he
  exact⟨val,rfl,h2⟩
 |returned val=>
  obtain⟨g1,vs,rs,rfl,g2,rfl⟩:=k3
  match vs,g1,g2 with
  |[],g1,g2=>
   obtain⟨arr,rfl,hv⟩:=g1
   simp only[cA,Option.some.injEq]at g2;subst g2
   exact⟨arr,rfl,hv⟩
  |[v],g1,g2=>
   have:=fin [v] rs [val] g2 ⟨val,[],rfl,g1,rfl⟩
   cases rs with
   |nil=>cases this
   |cons x l=>
    obtain⟨u,us,he,h2,h3⟩:=this
    simp at he;obtain⟨rfl,rfl⟩:=he
    cases l with
    |nil=>exact h2
    |cons y l=>obtain⟨_,_,h,_⟩:=h3;cases h
  |v::v2::l,g1,g2=>
   obtain⟨arr,rfl,h⟩:=g1
   have:=fin (v::v2::l) rs arr.toList g2 h
   have hl:=D.aL _ _ this
   have nm:=V.aL _ _ h
   match rs,hl,this with
   |[],hl,_=>exact GY
   |[x],hl,_=>exact GY
   |x::y::l,_,this=>exact⟨arr,rfl,this⟩
theorem Jw{rs:List ResultVar}{out:R}(e:gf)(s:S)(h:FB P rs out e s):
 mM P rs (fun v o _=>∃vs rs,v=(match vs with|[v]=>v|vs=> .cn vs)/\cA o vs=some rs/\out= .ret rs) (fun v o _=>∃x,eI o v=some x/\out= .bW x) e s:=by
 have ret:FB P rs out .ret s->mM P rs (fun v o _=>∃vs rs,v=(match vs with|[v]=>v|vs=> .cn vs)/\cA o vs=some rs/\out= .ret rs) (fun v o _=>∃x,eI o v=some x/\out= .bW x) .ret s:=by
  intro h
  obtain⟨vs,xs,h1,h2,h3⟩:=M0 h
  simp only[mM,h1]
  match vs,h2 with
  |[],h2=>exact⟨[],xs,rfl,h2,h3⟩
  |[v],h2=>exact⟨[v],xs,rfl,h2,h3⟩
  |v::v2::l,h2=>exact⟨v::v2::l,xs,rfl,h2,h3⟩
 cases e with
 |normal=>exact ret h
 |ret=>exact ret h
 |exit id=>exact h.elim
 |bW v=>exact M3 h
end
end
section
def Nb{α:Type}(c:Bool)(x:α):Option α:=if c=true then some x else none
def one(v:V):Option gY:=some (v,[],[])
def Df(op:BinOp)(k:IntKind)(a b:Int):Option V:=
 match op with
 | .add=>some (.d (.int k (k.wrap (a+b))))
 | .sub=>some (.d (.int k (k.wrap (a - b))))
 | .mul=>some (.d (.int k (k.wrap (a*b))))
 | .quo=>if b=0 then none else some (.d (.int k (k.wrap (a.tdiv b))))
 | .rem=>if b=0 then none else some (.d (.int k (a.tmod b)))
 | .and=>(vw .and k a b).map fun r=> .d (.int k r)
 | .or=>(vw .or k a b).map fun r=> .d (.int k r)
 | .xor=>(vw .xor k a b).map fun r=> .d (.int k r)
 | .andNot=>(vw .andNot k a b).map fun r=> .d (.int k r)
 | .eql=>some (.d (.bool (a==b)))| .neq=>some (.d (.bool (a !=b)))| .lss=>some (.d (.bool (decide (a<b))))| .leq=>some (.d (.bool (decide (a<=b))))
 | .gtr=>some (.d (.bool (decide (b<a))))| .geq=>some (.d (.bool (decide (b<=a))))
 |_=>none
def oV(P:Program)(t:TypeId):Bool:=
 match P.underlying t with
 |some .bool=>true
 |_=>false
def A4(P:Program)(op:BinOp)(t:TypeId)(x y:V):Option V:=
 match x,y with
 | .d (.int k a), .d (.int k' b)=>if k=k' then Df op k a b else none
 | .d (.bool a), .d (.bool b)=>match op with
   | .eql=>Nb (oV P t) (.d (.bool (a==b)))
   | .neq=>Nb (oV P t) (.d (.bool (a !=b)))
   |_=>none
 | .d (.str a), .d (.str b)=>match op with
   | .eql=>some (.d (.bool (a==b)))
   | .neq=>some (.d (.bool (a !=b)))
   |_=>none
 |_,_=>none
def unF(op:UnOp)(x:V):Option V:=
 match op,x with
 | .neg, .d (.int k n)=>some (.d (.int k (k.wrap (-n))))
 | .not, .d (.bool b)=>some (.d (.bool !b))
 |_,_=>none
def rp(c a b:V):Option V:=
 match c with
 | .d (.bool true)=>some a
 | .d (.bool false)=>some b
 |_=>none
def rq(o:Nat->ab)(x:V):Option (List D×List Nat):=
 match x with
 | .d (.sl es)=>some (es,[])
 | .bO=>some ([],[])
 | .sn es=>some (es,[])
 | .osl id ep=>match o id with
   | .arr jE _ _ es=>if ep=jE then some (es,[id])else none
   | .sF jE es=>if ep=jE then some (es,[id])else none
   |_=>none
 |_=>none
def FI(P:Program)(t:TypeId)(o:Nat->ab)(x:V):Option gY:=
 match P.underlying t with
 |some (.slice _)=>match rq o x with
  |some (es,rd)=>some (.d (.int .i64 es.length),[],rd)
  |none=>none
 |some .string=>match x with
  | .d (.str s)=>one (.d (.int .i64 s.length))
  |_=>none
 |some (.array n _)=>one (.d (.int .i64 n))
 |_=>none
def zh(P:Program)(e:TypeId)(es:List D)(i:Int)(rd:List Nat):Option gY:=
 if 0<=i then match es[i.toNat]? with
  |some y=>Nb (y.cells.length==P.cellsOf e&&0<P.cellsOf e) (.pp y.cells 0,[],rd)
  |none=>none
 else none
def pM(o:Nat->ab)(x:V)(q:Nat):Option V:=
 match x with
 | .ptr id off=>Nb (o id).cK (.ptr id (off+q))
 | .pp cs off=>some (.pp cs (off+q))
 | .pe id ep j sz off=>if(o id).cJ=some ep then some (.pe id ep j sz (off+q))else none
 |_=>none
def jk(P:Program)(o:Nat->ab)(t:TypeId)(x ix:V):Option gY:=
 match ix with
 | .d (.int _ i)=>match cO P t with
   |some e=>match x with
    | .d (.sl es)=>zh P e es i []
    | .sn es=>zh P e es i []
    | .osl id ep=>match o id with
      | .arr jE _ sz es=>if ep=jE/\0<=i/\i.toNat<es.length/\sz=P.cellsOf e/\0<P.cellsOf e then some (.pe id ep i.toNat sz 0,[],[id])else none
      | .sF jE es=>if ep=jE then zh P e es i [id]else none
      |_=>none
    |_=>none
   |none=>match CB P t with
    |some (n,e)=>if 0<=i/\i<n/\(P.info? e).isSome=true then(pM o x (i.toNat*P.cellsOf e)).bind one else none
    |none=>none
 |_=>none
def jl(P:Program)(o:Nat->ab)(t:TypeId)(x:V)(f:Nat):Option V:=
 match cL P t f with
 |some q=>pM o x q
 |none=>none
def nT(P:Program)(o:Nat->ab)(t:TypeId)(x:V):Option gY:=
 match x with
 | .ptr id off=>match o id with
   | .row cs=>match fK P t cs off with
     |some v=>some (v,[],[id])
     |none=>none
   |_=>none
 | .pp cs off=>match fK P t (cs.map .d) off with
   |some v=>some (v,[],[])
   |none=>none
 | .pe id ep i sz off=>match o id with
   | .arr jE _ sq es=>if ep=jE/\sz=sq then match es[i]? with
    |some e=>match fK P t (e.cells.map .d) off with
     |some v=>some (v,[],[id])
     |none=>none
    |none=>none
     else none
   |_=>none
 |_=>none
def sT(P:Program)(o:Nat->ab)(t:TypeId)(x v:V):Option gY:=
 match x with
 | .ptr id off=>match o id with
   | .row cs=>match AM P t cs off v with
     |some cs'=>some (.cn [],[(id, .row cs')],[id])
     |none=>none
   |_=>none
 | .pe id ep i sq off=>match o id with
   | .arr jE ty sz es=>if ep=jE/\sq=sz then match es[i]?,eI o v with
    |some e,some y=>if y.cells.length=P.cellsOf t/\0<y.cells.length/\v.ids.all (· !=id)=true then match e.put off y.cells with
     |some e'=>some (.cn [],dw o v.ids++[(id, .arr ep ty sz (es.set i e'))],id::v.ids)
     |none=>none
     else none
    |_,_=>none
     else none
   |_=>none
 |_=>none
def iw(P:Program)(o:Nat->ab)(fr:Nat)(t:TypeId)(len:Nat)(parts:List (Nat×V)):Option gY:=
 match cO P t with
 |some e=>if len=0/\parts.isEmpty=true/\0<P.cellsOf e then some (.osl fr 0,[(fr, .arr 0 e (P.cellsOf e) [])],[])else if parts.map (·.1)=List.range len/\(cQ P e).isSome=true/\0<len/\0<P.cellsOf e/\len*P.cellsOf e<=2^24 then match cA o (parts.map (·.2))with
  |some ds=>if ds.all (fun x=>x.cells.length==P.cellsOf e)=true then some (.osl fr 0,dw o (V.bK (parts.map (·.2)))++[(fr, .arr 0 e (P.cellsOf e) ds)],V.bK (parts.map (·.2)))else none
  |none=>none
  else none
 |none=>none
def mO(P:Program)(fr:Nat)(t:TypeId)(l c:V):Option gY:=
 match cO P t with
 |some e=>match l,c with
  | .d (.int _ n), .d (.int _ m)=>if n=m/\0<=n/\0<P.cellsOf e/\P.bytesOf e*n.toNat<=2^47/\n.toNat<=2^47 then match CE P e with
   |some x=>some (.osl fr 0,[(fr, .arr 0 e (P.cellsOf e) (List.replicate n.toNat x))],[])
   |none=>none
    else none
  |_,_=>none
 |none=>none
def rr(P:Program)(o:Nat->ab)(fr:Nat)(ts:Array TypeId)(x y:V):Option gY:=
 match ts.toList with
 |[t,t']=>if t=t' then match cO P t,rq o y with
    |some e,some (new,rd)=>if 0<P.cellsOf e/\(cQ P e).isSome=true/\new.all (fun z=>z.cells.length==P.cellsOf e)=true then match x with
     | .bO=>if new.length<=2^47/\new.length*P.bytesOf e<=2^47 then some (.osl fr 0,[(fr, .arr 0 e (P.cellsOf e) new)],rd)else none
     | .sn es=>if es.all (fun z=>z.cells.length==P.cellsOf e)=true then(if new=[]then some (.sn es,[],rd)else if es.length+new.length<=2^40/\(es.length+new.length)*P.bytesOf e<=2^40 then some (.osl fr 0,[(fr, .arr 0 e (P.cellsOf e) (es++new))],rd)else none)else none
     | .osl id ep=>match o id with
       | .arr jE ty sz es=>if ep=jE/\ty=e/\sz=P.cellsOf e/\es.length+new.length<=2^47/\(es.length+new.length)*P.bytesOf e<=2^47 then
        some (.osl id (ep+1),[(id, .arr (ep+1) ty sz (es++new))],id::rd)else none
       |_=>none
     |_=>none
     else none
    |_,_=>none
  else none
 |_=>none
def rv(isMax:Bool)(x y:V):Option V:=
 match x,y with
 | .d (.int k a), .d (.int k' b)=>if k=k' then some (.d (.int k (if isMax then(if b>a then b else a)else(if b<a then b else a))))else none
 |_,_=>none
def mc(x:Option V):Option gY:=match x with|some v=>one v|none=>none
def ry(P:Program)(s:S)(fr:Nat)(b:Builtin)(args:List Operand)(ts:Array TypeId):Option gY:=
 match b,args with
 | .len,[x]=>match ts.toList with
   |[t]=>FI P t s.o (s.ev x)
   |_=>none
 | .append,[x,y]=>match yM P fr ts (s.ev x) (s.ev y)with
   |some r=>some r
   |none=>rr P s.o fr ts (s.ev x) (s.ev y)
 | .max,[x,y]=>mc (rv true (s.ev x) (s.ev y))
 | .min,[x,y]=>mc (rv false (s.ev x) (s.ev y))
 | .max,[x,y,z]=>mc (MG (s.ev x) (s.ev y) (s.ev z))
 | .copy,[x,y]=>yL P s.o ts (s.ev x) (s.ev y)
 | .delete,[x,y]=>match ts.toList.head? with
   |some t=>oS P s.o t (s.ev x) (s.ev y)
   |none=>none
 | .cap,[x]=>QM P ts (s.ev x)
 |_,_=>none
def sU(P:Program)(t:TypeId)(parts:List (Nat×V)):Option V:=
 match cQ P t,fW P t with
 |some z,some pl=>match tE pl z parts with
  |some cs=>some (na cs)
  |none=>none
 |_,_=>none
def ku(o:Nat->ab)(x:V):Option V:=
 match x with
 | .ptr id off=>Nb (o id).cK (.ptr id off)
 | .pp cs off=>some (.pp cs off)
 | .func (.func f) first cap=>some (.func (.func f) first cap)
 |_=>none
def jm(P:Program)(t:TypeId):Bool:=
 match P.underlying t with
 |some (.interface _)=>false
 |some _=>true
 |none=>false
def Nc(P:Program)(t:TypeId)(x:V):Option V:=
 Nb (jm P t) (match x with
  | .d y=> .d (.iface t y)
  |v=> .iface t v)
def e7(P:Program)(o:Nat->ab)(op:BinOp)(t:TypeId)(pW:Bool)(x y:V):Option gY:=
 match A4 P op t x y with
 |some v=>one v
 |none=>sK P o op t pW x y
def I3(op:UnOp)(x:V):Option V:=
 match op,x with
 | .not, .fI=>some .fI
 |op,x=>unF op x
def gZ(P:Program)(s:S)(fr:Nat)(op:Op):Option gY:=
 match op with
 | .move x=>one (s.ev x)
 | .assign x=>one (s.ev x)
 | .pick c a b=>mc (rp (s.ev c) (s.ev a) (s.ev b))
 | .alloc t=>match cQ P t with
   |some cs=>some (.ptr fr 0,[(fr, .row cs)],[])
   |none=>none
 | .box _ x=>match(s.ev x).cells with
   |some cs=>some (.ptr fr 0,[(fr, .row cs)],[])
   |none=>none
 | .build t parts=>mc (sU P t (parts.toList.map fun p=>(p.1,s.ev p.2)))
 | .buildSlice t len parts=>iw P s.o fr t len (parts.toList.map fun p=>(p.1,s.ev p.2))
 | .load t x=>nT P s.o t (s.ev x)
 | .store t x v=>sT P s.o t (s.ev x) (s.ev v)
 | .nilCheck x=>mc (ku s.o (s.ev x))
 | .binOp op t x y _=>e7 P s.o op t (isConst x||isConst y) (s.ev x) (s.ev y)
 | .unOp op _ x=>mc (I3 op (s.ev x))
 | .convert u t x=>match P.underlying u,xR P t,s.ev x with
   |some _,some k, .d (.int _ n)=>one (.d (.int k (k.wrap n)))
   |_,_,_=>none
 | .makeInterface t x=>mc (Nc P t (s.ev x))
 | .makeFunc fn first cap=>one (.func fn (first.toList.map s.ev) (cap.toList.map s.ev))
 | .makeSlice t l c=>mO P fr t (s.ev l) (s.ev c)
 | .fieldAddr t x f=>mc (jl P s.o t (s.ev x) f)
 | .indexAddr t x i=>jk P s.o t (s.ev x) (s.ev i)
 | .extract x i=>match s.ev x with
   | .cn vs=>match vs[i]? with
     |some v=>one v
     |none=>none
   |_=>none
 | .call c=>match c.callee with
   | .builtin b=>ry P s fr b c.args.toList c.argTypes
   |_=>none
 | .slice t x lo hi mx=>sH P s.o t (s.ev x) (lo.map s.ev) (hi.map s.ev) (mx.map s.ev)
 | .field t x f=>mc (vy P t (s.ev x) f)
 | .index t x i=>mc (vz P t (s.ev x) (s.ev i))
 | .typeAssert x _ t ok=>mc (qO P t ok (s.ev x))
 | .makeMap t none=>nE P fr t
 | .lookup t m k ok=>jz P s.o t (s.ev m) (s.ev k) ok
 | .mapUpdate t m k v=>gO P s.o t (s.ev m) (s.ev k) (s.ev v)
 | .insert t m k v=>gO P s.o t (s.ev m) (s.ev k) (s.ev v)
 | .range t x=>nF P s.o fr t (s.ev x)
 | .next x str=>pH s.o (s.ev x) str
 | .entry x=>nG s.o (s.ev x)
 |_=>none
section
variable {P:Program}{s:S}{fr:Nat}{v:V}{Δ:List (Nat×ab)}{rd:List Nat}{o:Nat->ab}{K:V->List (Nat×ab)->List Nat->Prop}
theorem sV{α:Type}{c:Bool}{x y:α}(h:Nb c x=some y):c=true/\x=y:=by
 unfold Nb at h;split at h
 ·injection h with h;exact⟨by assumption,h⟩
 ·cases h
theorem lO{x:V}{r:gY}(h:one x=some r):r=(x,[],[]):=by unfold one at h;injection h with h;exact h.symm
theorem j8{x:Option V}{r:gY}(h:mc x=some r):∃v,x=some v/\r=(v,[],[]):=by
 unfold mc at h;split at h
 ·exact⟨_,rfl,lO h⟩
 ·cases h
theorem FJ{x:V}{es:List D}{rd:List Nat}(h:rq o x=some (es,rd)):fL o x=some es/\rd=x.ids:=by
 unfold rq at h
 split at h
 ·exact LK
 ·exact LK
 ·exact LK
 ·split at h
  ·rename_i ho
   split at h
   ·rename_i e;simp at h;obtain⟨rfl,rfl⟩:=h;exact⟨by simp[fL,eI,ho,e],rfl⟩
   ·cases h
  ·rename_i ho
   split at h
   ·rename_i e;simp at h;obtain⟨rfl,rfl⟩:=h;exact⟨by simp[fL,eI,ho,e],rfl⟩
   ·cases h
  ·cases h
 ·cases h
theorem Jx{op:BinOp}{k:IntKind}{a b:Int}{v:V}(h:Df op k a b=some v){K:V->Prop}(hK:K v):QK op k a b K:=by
 cases op<;>simp only[Df]at h<;>simp only[QK]
 case quo=>split at h
           ·cases h
           ·exact LH
 case rem=>split at h
           ·cases h
           ·exact LH
 case and=>simp only[Option.map_eq_some_iff]at h;obtain⟨r,h1,rfl⟩:=h;exact⟨r,h1,hK⟩
 case or=>simp only[Option.map_eq_some_iff]at h;obtain⟨r,h1,rfl⟩:=h;exact⟨r,h1,hK⟩
 case xor=>simp only[Option.map_eq_some_iff]at h;obtain⟨r,h1,rfl⟩:=h;exact⟨r,h1,hK⟩
 case andNot=>simp only[Option.map_eq_some_iff]at h;obtain⟨r,h1,rfl⟩:=h;exact⟨r,h1,hK⟩
 case shl=>cases h
 case shr=>cases h
 case eql=>injection h with h;subst h;exact⟨_,rfl,hK⟩
 case neq=>injection h with h;subst h;exact⟨_,rfl,hK⟩
 case lss=>injection h with h;subst h;exact⟨_,rfl,hK⟩
 case leq=>injection h with h;subst h;exact⟨_,rfl,hK⟩
 case gtr=>injection h with h;subst h;exact⟨_,rfl,hK⟩
 case geq=>injection h with h;subst h;exact⟨_,rfl,hK⟩
 all_goals (injection h with h;subst h;exact hK)
theorem Jy{op:BinOp}{t:TypeId}{x y v:V}(h:A4 P op t x y=some v){K:V->Prop}(hK:K v):MC P op t x y K:=by
 unfold A4 at h
 unfold MC
 split at h
 ·split at h
  ·exact⟨by assumption,Jx h hK⟩
  ·cases h
 ·have hb:oV P t=true->P.underlying t=some .bool:=by
   unfold oV;intro h;split at h
   ·assumption
   ·cases h
  split at h
  ·obtain⟨h1,rfl⟩:=sV h;exact⟨hb h1,hK⟩
  ·obtain⟨h1,rfl⟩:=sV h;exact⟨hb h1,hK⟩
  ·cases h
 ·split at h
  ·exact LF
  ·exact LF
  ·cases h
 ·cases h
theorem FK{c a b v:V}(h:rp c a b=some v){K:V->Prop}(hK:K v):CC c a b K:=by
 unfold rp at h
 unfold CC
 split at h
 ·injection h with h;subst h;exact⟨fun _=>hK,(fun h=>by cases h)⟩
 ·injection h with h;subst h;exact⟨(fun h=>by cases h),fun _=>hK⟩
 ·cases h
theorem vP{x y:V}{q:Nat}(h:pM o x q=some y):(∃id off,x= .ptr id off/\(o id).cK=true/\y= .ptr id (off+q))\/(∃cs off,x= .pp cs off/\y= .pp cs (off+q))\/
 (∃id ep j sz off,x= .pe id ep j sz off/\(o id).cJ=some ep/\y= .pe id ep j sz (off+q)):=by
 unfold pM at h
 split at h
 ·obtain⟨h1,rfl⟩:=sV h;exact .inl ⟨_,_,rfl,h1,rfl⟩
 ·injection h with h;exact .inr (.inl ⟨_,_,rfl,h.symm⟩)
 ·split at h
  ·injection h with h;exact .inr (.inr ⟨_,_,_,_,_,rfl,by assumption,h.symm⟩)
  ·cases h
 ·cases h
theorem vq{e:TypeId}{es:List D}{i:Int}{rd:List Nat}{r:gY}(h:zh P e es i rd=some r):
 0<=i/\∃y,es[i.toNat]? =some y/\y.cells.length=P.cellsOf e/\0<P.cellsOf e/\r=(.pp y.cells 0,[],rd):=by
 unfold zh at h
 split at h
 ·rename_i h0
  split at h
  ·rename_i y hy
   obtain⟨h1,rfl⟩:=sV h
   simp only[Bool.and_eq_true,beq_iff_eq,decide_eq_true_eq]at h1
   exact⟨h0,y,hy,h1.1,h1.2,rfl⟩
  ·cases h
 ·cases h
theorem uz{t:TypeId}{x ix:V}(h:jk P o t x ix=some (v,Δ,rd))(hK:K v Δ rd):kH P o t x ix fun v rd=>K v [] rd:=by
 unfold jk at h
 unfold kH
 split at h
 ·simp only
  split at h
  ·rename_i e ht
   simp only[ht]
   split at h
   ·exact Tw
   ·exact Tw
   ·split at h
    ·rename_i ho
     split at h
     ·rename_i hc
      simp only[Option.some.injEq,Prod.mk.injEq]at h;obtain⟨rfl,rfl,rfl⟩:=h
      simp only[ho]
      exact⟨hc.1,hc.2.1,hc.2.2.1,hc.2.2.2.1,hc.2.2.2.2,hK⟩
     ·cases h
    ·rename_i ho
     split at h
     ·rename_i hc
      obtain⟨h0,y,h1,h2,h3,h4⟩:=vq h
      simp only[Prod.mk.injEq]at h4;obtain⟨rfl,rfl,rfl⟩:=h4
      simp only[ho]
      exact⟨hc,h0,y,h1,h2,h3,hK⟩
     ·cases h
    ·cases h
   ·cases h
  ·rename_i ht
   simp only[ht]
   split at h
   ·rename_i n e ha
    simp only[ha]
    split at h
    ·rename_i hc
     simp only[Option.bind_eq_some_iff]at h
     obtain⟨y,hy,h1⟩:=h
     have h1:=lO h1
     simp only[Prod.mk.injEq]at h1;obtain⟨rfl,rfl,rfl⟩:=h1
     refine⟨hc.1,hc.2.1,hc.2.2, ?_⟩
     rcases vP hy with⟨_,_,rfl,h2,rfl⟩|⟨_,_,rfl,rfl⟩|⟨_,_,_,_,_,rfl,h2,rfl⟩
     ·exact⟨h2,hK⟩
     ·exact hK
     ·exact⟨h2,hK⟩
    ·cases h
   ·cases h
 ·cases h
theorem uA{t:TypeId}{x y:V}{f:Nat}(h:jl P o t x f=some y){K:V->Prop}(hK:K y):kI P o t x f K:=by
 unfold jl at h
 unfold kI
 split at h
 ·rename_i q hq
  simp only[hq]
  rcases vP h with⟨_,_,rfl,h2,rfl⟩|⟨_,_,rfl,rfl⟩|⟨_,_,_,_,_,rfl,h2,rfl⟩
  ·exact⟨h2,hK⟩
  ·exact hK
  ·exact⟨h2,hK⟩
 ·cases h
theorem Jz{t:TypeId}{x:V}(h:FI P t o x=some (v,Δ,rd))(hK:K v Δ rd):MD P t o x fun v rd=>K v [] rd:=by
 unfold FI at h
 unfold MD
 split at h
 ·rename_i e hu
  simp only[hu]
  split at h
  ·rename_i es uO hl
   simp only[Option.some.injEq,Prod.mk.injEq]at h;obtain⟨rfl,rfl,rfl⟩:=h
   unfold rq at hl
   split at hl
   ·exact LO
   ·exact LO
   ·exact LO
   ·split at hl
    ·rename_i ho
     split at hl
     ·rename_i hc;simp at hl;obtain⟨rfl,rfl⟩:=hl;simp only[ho];exact⟨hc,hK⟩
     ·cases hl
    ·rename_i ho
     split at hl
     ·rename_i hc;simp at hl;obtain⟨rfl,rfl⟩:=hl;simp only[ho];exact⟨hc,hK⟩
     ·cases hl
    ·cases hl
   ·cases hl
  ·cases h
 ·rename_i hu
  simp only[hu]
  split at h
  ·have h1:=lO h;simp only[Prod.mk.injEq]at h1;obtain⟨rfl,rfl,rfl⟩:=h1;exact hK
  ·cases h
 ·rename_i hu
  simp only[hu]
  have h1:=lO h;simp only[Prod.mk.injEq]at h1;obtain⟨rfl,rfl,rfl⟩:=h1;exact hK
 ·cases h
theorem FL{t:TypeId}{x:V}(h:nT P o t x=some (v,Δ,rd))(hK:K v Δ rd):CD P o t x fun v rd=>K v [] rd:=by
 unfold nT at h
 unfold CD
 split at h
 ·split at h
  ·rename_i ho
   split at h
   ·rename_i hg
    exact TP
   ·cases h
  ·cases h
 ·split at h
  ·rename_i hg
   simp only[Option.some.injEq,Prod.mk.injEq]at h;obtain⟨rfl,rfl,rfl⟩:=h
   exact⟨_,hg,hK⟩
  ·cases h
 ·split at h
  ·rename_i ho
   split at h
   ·rename_i hc
    split at h
    ·rename_i e he
     split at h
     ·rename_i hg
      simp only[Option.some.injEq,Prod.mk.injEq]at h;obtain⟨rfl,rfl,rfl⟩:=h
      simp only[ho];exact⟨hc.1,hc.2,e,he,_,hg,hK⟩
     ·cases h
    ·cases h
   ·cases h
  ·cases h
 ·cases h
theorem Dg{t:TypeId}{x y:V}(h:sT P o t x y=some (v,Δ,rd))(hK:K v Δ rd):vx P o t x y fun Δ rd=>K (.cn []) Δ rd:=by
 unfold sT at h
 unfold vx
 split at h
 ·split at h
  ·rename_i ho
   split at h
   ·rename_i hg
    exact TP
   ·cases h
  ·cases h
 ·split at h
  ·rename_i ho
   split at h
   ·rename_i hc
    split at h
    ·rename_i e z he hz
     split at h
     ·rename_i hl
      split at h
      ·rename_i e' hp
       simp only[Option.some.injEq,Prod.mk.injEq]at h;obtain⟨rfl,rfl,rfl⟩:=h
       simp only[ho]
       exact⟨hc.1,hc.2,e,he,z,hz,hl.1,hl.2.1,hl.2.2,e',hp,hK⟩
      ·cases h
     ·cases h
    ·cases h
   ·cases h
  ·cases h
 ·cases h
theorem sW{t:TypeId}{len:Nat}{parts:List (Nat×V)}(h:iw P o fr t len parts=some (v,Δ,rd))(hK:K v Δ rd):jF P o fr t len parts K:=by
 unfold iw at h
 unfold jF
 split at h
 ·rename_i e ht
  simp only[ht]
  split at h
  ·rename_i hc
   simp only[Option.some.injEq,Prod.mk.injEq]at h;obtain⟨rfl,rfl,rfl⟩:=h
   exact .inl ⟨hc.1,by simpa using hc.2.1,hc.2.2,hK⟩
  split at h
  ·rename_i hc
   refine .inr ?_
   split at h
   ·rename_i ds hd
    split at h
    ·rename_i hw
     simp only[Option.some.injEq,Prod.mk.injEq]at h;obtain⟨rfl,rfl,rfl⟩:=h
     refine⟨hc.1,hc.2.1,hc.2.2.1,hc.2.2.2.1,hc.2.2.2.2,ds,hd,fun x hx=> ?_,hK⟩
     simpa using List.all_eq_true.1 hw x hx
    ·cases h
   ·cases h
  ·cases h
 ·cases h
theorem uB{t:TypeId}{l c:V}(h:mO P fr t l c=some (v,Δ,rd))(hK:K v Δ rd):kJ P fr t l c fun v Δ=>K v Δ []:=by
 unfold mO at h
 unfold kJ
 split at h
 ·rename_i e ht
  split at h
  ·split at h
   ·rename_i hc
    split at h
    ·rename_i x hx
     simp only[Option.some.injEq,Prod.mk.injEq]at h;obtain⟨rfl,rfl,rfl⟩:=h
     simp only[ht]
     exact⟨hc.1,hc.2.1,hc.2.2.1,hc.2.2.2.1,hc.2.2.2.2,x,hx,hK⟩
    ·cases h
   ·cases h
  ·cases h
 ·cases h
theorem A5{ts:Array TypeId}{x y:V}(h:rr P o fr ts x y=some (v,Δ,rd))(hK:K v Δ rd):qM P o fr ts x y K:=by
 unfold rr at h
 unfold qM
 split at h
 ·rename_i t t' ss
  simp only[ss]
  split at h
  ·rename_i htt
   refine⟨htt, ?_⟩
   split at h
   ·rename_i e new uO ht hl
    obtain⟨xG,rfl⟩:=FJ hl
    simp only[ht]
    split at h
    ·rename_i hc
     refine⟨new,xG,hc.1,hc.2.1,fun z hz=>by simpa using List.all_eq_true.1 hc.2.2 z hz, ?_⟩
     split at h
     ·split at h
      ·rename_i uw
       simp only[Option.some.injEq,Prod.mk.injEq]at h;obtain⟨rfl,rfl,rfl⟩:=h
       exact⟨uw.1,uw.2,hK⟩
      ·cases h
     ·split at h
      ·rename_i E1
       refine⟨fun z hz=>by simpa using List.all_eq_true.1 E1 z hz, ?_⟩
       split at h
       ·rename_i hn
        simp only[Option.some.injEq,Prod.mk.injEq]at h;obtain⟨rfl,rfl,rfl⟩:=h
        rw[if_pos hn];exact hK
       ·rename_i hn
        split at h
        ·rename_i uw
         simp only[Option.some.injEq,Prod.mk.injEq]at h;obtain⟨rfl,rfl,rfl⟩:=h
         rw[if_neg hn];exact⟨uw.1,uw.2,hK⟩
        ·cases h
      ·cases h
     ·split at h
      ·rename_i ho
       split at h
       ·rename_i uw
        simp only[Option.some.injEq,Prod.mk.injEq]at h;obtain⟨rfl,rfl,rfl⟩:=h
        simp only[ho]
        exact⟨uw.1,uw.2.1,uw.2.2.1,uw.2.2.2.1,uw.2.2.2.2,hK⟩
       ·cases h
      ·cases h
     ·cases h
    ·cases h
   ·cases h
  ·cases h
 ·cases h
theorem vQ{x y:V}(h:ku o x=some y){K:V->Prop}(hK:K y):l5 o x K:=by
 unfold ku at h
 unfold l5
 split at h
 ·obtain⟨h2,rfl⟩:=sV h;exact⟨h2,hK⟩
 ·exact LF
 ·exact LF
 ·cases h
theorem Nd{op:UnOp}{x y:V}(h:unF op x=some y){K:V->Prop}(hK:K y):unV op x K:=by
 unfold unF at h
 unfold unV
 split at h
 ·injection h with h;subst h;simp only;rw[Int.zero_sub];exact hK
 ·exact LF
 ·cases h
theorem AG{m:Bool}{x y v:V}(h:rv m x y=some v){K:V->Prop}(hK:K v):oR m [x,y] K:=by
 unfold rv at h
 unfold oR
 split at h
 ·split at h
  ·exact LH
  ·cases h
 ·cases h
theorem Dh{op:Op}(h:gZ P s fr op=some (v,Δ,rd))(hK:K v Δ rd):Uy P s fr op K:=by
 cases op<;>simp only[gZ]at h<;>simp only[Uy]<;>try (cases h;done)
 case move x=>have h:=lO h;simp only[Prod.mk.injEq]at h;obtain⟨rfl,rfl,rfl⟩:=h;exact hK
 case assign x=>have h:=lO h;simp only[Prod.mk.injEq]at h;obtain⟨rfl,rfl,rfl⟩:=h;exact hK
 case pick c a b=>
  obtain⟨x,h1,h⟩:=j8 h;simp only[Prod.mk.injEq]at h;obtain⟨rfl,rfl,rfl⟩:=h
  exact FK h1 hK
 case alloc t=>
  split at h
  ·rename_i cs hz;simp only[Option.some.injEq,Prod.mk.injEq]at h;obtain⟨rfl,rfl,rfl⟩:=h;exact⟨cs,hz,hK⟩
  ·cases h
 case box t x=>
  split at h
  ·rename_i cs hz;simp only[Option.some.injEq,Prod.mk.injEq]at h;obtain⟨rfl,rfl,rfl⟩:=h;exact⟨cs,hz,hK⟩
  ·cases h
 case build t parts=>
  obtain⟨x,h1,h⟩:=j8 h;simp only[Prod.mk.injEq]at h;obtain⟨rfl,rfl,rfl⟩:=h
  unfold sU at h1
  split at h1
  ·rename_i z pl hz hp
   split at h1
   ·rename_i cs hc;injection h1 with h1;subst h1;exact⟨z,pl,cs,hz,hp,hc,hK⟩
   ·cases h1
  ·cases h1
 case buildSlice t len parts=>exact sW h hK
 case load t x=>exact FL h hK
 case store t x y=>exact Dg h hK
 case nilCheck x=>
  obtain⟨y,h1,h⟩:=j8 h;simp only[Prod.mk.injEq]at h;obtain⟨rfl,rfl,rfl⟩:=h
  exact vQ h1 hK
 case binOp op t x y yt=>
  unfold e7 at h
  split at h
  ·rename_i z h1
   have h:=lO h;simp only[Prod.mk.injEq]at h;obtain⟨rfl,rfl,rfl⟩:=h
   exact .inl (Jy h1 hK)
  ·right;simp only[h,dy];exact hK
 case unOp op t x=>
  obtain⟨z,h1,h⟩:=j8 h;simp only[Prod.mk.injEq]at h;obtain⟨rfl,rfl,rfl⟩:=h
  unfold I3 at h1
  split at h1
  ·rename_i hx;injection h1 with h1;subst h1;exact .inr ⟨rfl,hx,hK⟩
  ·exact .inl (Nd h1 hK)
 case slice t x lo hi mx=>simp only[h,dy];exact hK
 case field t x f=>
  exact XU
 case typeAssert x xt t ok=>
  exact XU
 case makeMap t r=>
  cases r with
  |none=>simp only[h,dy];exact hK
  |some x=>cases h
 case lookup t m k ok=>simp only[h,dy];exact hK
 case mapUpdate t m k v=>simp only[h,dy];exact hK
 case insert t m k v=>simp only[h,dy];exact hK
 case index t x i=>
  exact XU
 case convert u t x=>
  split at h
  ·rename_i d k k' n hu hk hx
   have h:=lO h;simp only[Prod.mk.injEq]at h;obtain⟨rfl,rfl,rfl⟩:=h
   exact⟨by rw[hu];rfl,by simp only[hk,hx];exact hK⟩
  ·cases h
 case makeInterface t x=>
  obtain⟨z,h1,h⟩:=j8 h;simp only[Prod.mk.injEq]at h;obtain⟨rfl,rfl,rfl⟩:=h
  obtain⟨h2,rfl⟩:=sV h1
  refine⟨?_, ?_⟩
  ·unfold jm at h2
   cases hd:P.underlying t with
   |none=>simp[hd]at h2
   |some d=>exact⟨d,rfl,by cases d<;>simp_all⟩
  ·split
   ·rename_i y hy;simp only[hy]at hK;exact hK
   ·rename_i hy
    split at hK
    ·rename_i y Nf;exact absurd Nf (hy y)
    ·exact hK
 case makeFunc fn first cap=>have h:=lO h;simp only[Prod.mk.injEq]at h;obtain⟨rfl,rfl,rfl⟩:=h;exact hK
 case makeSlice t l c=>
  exact uB h hK
 case fieldAddr t x f=>
  obtain⟨z,h1,h⟩:=j8 h;simp only[Prod.mk.injEq]at h;obtain⟨rfl,rfl,rfl⟩:=h
  exact uA h1 hK
 case indexAddr t x i=>
  exact uz h hK
 case extract x i=>
  split at h
  ·rename_i vs hv
   split at h
   ·rename_i u hu
    have h:=lO h;simp only[Prod.mk.injEq]at h;obtain⟨rfl,rfl,rfl⟩:=h
    simp only[hv];exact⟨_,hu,hK⟩
   ·cases h
  ·cases h
 case call c=>
  obtain⟨MY,args,ts⟩:=c
  cases MY<;>simp only at h|- <;>try (cases h;done)
  rename_i b
  unfold ry at h
  unfold vA
  split at h
  ·rename_i x ha
   simp only[ha]
   split at h
   ·rename_i t ss;exact⟨t,ss,Jz h hK⟩
   ·cases h
  ·rename_i x y ha
   simp only[ha]
   split at h
   ·rename_i r hr
    simp only[Option.some.injEq]at h
    subst h
    exact .inl (by rw[hr];exact hK)
   ·exact .inr (A5 h hK)
  ·rename_i x y ha
   exact TD
  ·rename_i x y ha
   exact TD
  ·rename_i x y z ha
   simp only[ha]
   obtain⟨v0,h1,h⟩:=j8 h;simp only[Prod.mk.injEq]at h;obtain⟨rfl,rfl,rfl⟩:=h
   exact acP
  ·rename_i x y ha
   simp only[ha,h,dy];exact hK
  ·rename_i x y ha
   simp only[ha]
   split at h
   ·rename_i t ht;exact⟨t,ht,by simp only[h,dy];exact hK⟩
   ·cases h
  ·rename_i x ha
   simp only[ha,h,dy];exact hK
  ·cases h
 case range t x=>simp only[h,dy];exact hK
 case next x str=>left;simp only[h,dy];exact hK
 case entry x=>simp only[h,dy];exact hK
end
end
section
def vR(P:Program)(g:FuncId)(ds:List D)(o o1 oa:Nat->ab)(K:V->(Nat->ab)->Prop)(X:V->(Nat->ab)->Prop):Prop:=
 ∃out,aQ P g ds out/\((match out with| .ret rs=>K (ke rs) o1| .bW x=>X (.d x) o1)\/(out.flat=true/\match out with| .ret rs=>K (ke rs) o| .bW x=>X (.d x) o)\/(out.nO=true/\match out with| .ret rs=>K (ke rs) oa| .bW x=>X (.d x) oa))
def tM(P:Program)(g:FuncId)(args:List V)(o:Nat->ab)(nx:Nat)(K:V->(Nat->ab)->Nat->Prop)(X:V->(Nat->ab)->Nat->Prop):Prop:=pC P g args o nx K X
theorem pC.mono {P:Program}{g:FuncId}{args:List V}{o:Nat->ab}{nx:Nat}{K X K' X':V->(Nat->ab)->Nat->Prop}(hK:∀v o n,K v o n->K' v o n)(hX:∀v o n,X v o n->X' v o n)(h:pC P g args o nx K X):pC P g args o nx K' X':=
 h.imp (cR.mono hK hX) (cR.mono hK hX)
@[congr] theorem UL {P:Program} {g g':FuncId} {ds ds':List D} {o o1 oa:Nat->ab} {K X} (h:g=g') (h':ds=ds'):vR P g ds o o1 oa K X=vR P g' ds' o o1 oa K X:=by subst h;subst h';rfl
@[congr] theorem UM {P:Program} {g g':FuncId} {cE adE:List V} {o:Nat->ab} {nx:Nat} {K X} (h:g=g') (h':cE=adE):tM P g cE o nx K X=tM P g' adE o nx K X:=by subst h;subst h';rfl
def UN(P:Program)(g:FuncId)(args:List V)(o:Nat->ab)(nx:Nat)(K X:V->(Nat->ab)->Nat->Prop):Prop:=
 (∃ds,cA o args=some ds/\vR P g ds o (put o (dw o (V.bK args))) (put o (sG o (V.bK args))) (fun v o'=>K v o' (nx+1)) (fun v o'=>X v o' (nx+1)))\/cR P g args o nx K X
def Lf(P:Program)(s:S)(o:cq)(X:V->S->Prop)(K:S->Prop):Prop:=
 match o.op with
 | .call c=>match c.callee with
   | .value f=>match s.ev f with
     | .func (.func g) first cap=>match cA s.o (first++c.args.toList.map s.ev++cap)with
       |some ds=>vR P g ds s.o (put s.o (dw s.o (V.bK (first++c.args.toList.map s.ev++cap)))) (put s.o (sG s.o (V.bK (first++c.args.toList.map s.ev++cap)))) (fun v o'=>K ⟨bB s.env o.dst v,o',s.nx+1⟩) (fun v o'=>X v ⟨s.env,o',s.nx+1⟩)\/
        tM P g (first++c.args.toList.map s.ev++cap) s.o s.nx (fun v o' nx'=>K ⟨bB s.env o.dst v,o',nx'⟩) (fun v o' nx'=>X v ⟨s.env,o',nx'⟩)
       |none=>tM P g (first++c.args.toList.map s.ev++cap) s.o s.nx (fun v o' nx'=>K ⟨bB s.env o.dst v,o',nx'⟩) (fun v o' nx'=>X v ⟨s.env,o',nx'⟩)
     | .kq id=>eD P id (c.args.toList.map s.ev) s.o s.nx (fun v o' nx'=>K ⟨bB s.env o.dst v,o',nx'⟩) (fun v o' nx'=>X v ⟨s.env,o',nx'⟩)
     |_=>False
   | .invoke r m=>match vL P m (s.ev r)with
     |some (g,y)=>UN P g (y::c.args.toList.map s.ev) s.o s.nx (fun v o' nx'=>K ⟨bB s.env o.dst v,o',nx'⟩) (fun v o' nx'=>X v ⟨s.env,o',nx'⟩)
     |none=>False
   |_=>match gZ P s s.nx o.op with
    |some (v,Δ,_)=>K ⟨bB s.env o.dst v,put s.o Δ,s.nx+1⟩
    |none=>False
 | .panic x=>match s.ev x with
   | .d (.iface t y)=>X (.d (.iface t y)) s
   | .iface t y=>X (.iface t y) s
   |_=>False
 | .next x str=>match pI s.o (s.ev x)with
   |some (id,l)=>str=false/\Hf id l fun v Δ _=>K ⟨bB s.env o.dst v,put s.o Δ,s.nx+1⟩
   |none=>match gZ P s s.nx o.op with
    |some (v,Δ,_)=>K ⟨bB s.env o.dst v,put s.o Δ,s.nx+1⟩
    |none=>False
 |op=>match gZ P s s.nx op with
  |some (v,Δ,_)=>K ⟨bB s.env o.dst v,put s.o Δ,s.nx+1⟩
  |none=>False
def qe(P:Program)(X:V->S->Prop)(K:S->Prop):List cq->S->Prop
 |[],s=>K s
 |o::l,s=>match o.gd with
  |none=>Lf P s o X (qe P X K l)
  |some (d,want)=>match s.env d with
   | .d (.bool b)=>if b=want then Lf P s o X (qe P X K l)else qe P X K l ⟨bB s.env o.dst (.cn []),s.o,s.nx+1⟩
   | .cn []=>qe P X K l ⟨bB s.env o.dst (.cn []),s.o,s.nx+1⟩
   |_=>False
def Ng(b:Nat)(body:(gf->S->Prop)->S->Prop)(Q:gf->S->Prop)(s:S):Prop:=
 ∃ (J:Nat->S->Prop),(∃m s1,bM b s s1/\J m s1)/\∀m s0,J m s0->body (fun e s=>match e with| .normal=>∃m' s1,m'<m/\bM b s s1/\J m' s1|e=>Q e s) s0
@[congr] theorem UO {b:Nat} {body Q} {s s':S} (h:s=s'):Ng b body Q s=Ng b body Q s':=by subst h;rfl
def rz(t:Bool)(A B:Prop):Prop:=(t=true->A)/\(t=false->B)
@[congr] theorem UP {t t':Bool} {A B:Prop} (h:t=t'):rz t A B=rz t' A B:=by subst h;rfl
@[simp] theorem vS (A B:Prop):rz true A B=A:=by simp[rz]
@[simp] theorem tN (A B:Prop):rz false A B=B:=by simp[rz]
section
variable {P:Program}{n b:Nat}
theorem Hx{s:S}{o:cq}{o':Oper}{X X':V->S->Prop}{K K':S->Prop}(eJ:o'.op=o.op)(dq:o'.dst=o.dst)(hd:iJ n o'.dst)(hK:∀s,K s->K' s)(hX:∀v s,X v s->X' v s)(h:Lf P s o X K):opW P n s o' X' K':=by
 refine⟨hd, ?_⟩
 rw[dq,eJ]
 unfold Lf at h
 have hs:∀ {op:Op},(match gZ P s s.nx op with|some (v,Δ,_)=>K ⟨bB s.env o.dst v,put s.o Δ,s.nx+1⟩|none=>False)->Uy P s s.nx op fun v Δ _=>K' ⟨bB s.env o.dst v,put s.o Δ,s.nx+1⟩:=by
  intro op h
  split at h
  ·rename_i v Δ rd he;exact Dh he (hK _ h)
  ·exact h.elim
 split at h
 ·rename_i c hc
  split at h
  ·rename_i f fS
   simp only[hc,fS]
   split at h
   ·rename_i g first cap hf
    unfold C5
    simp only[hf]
    unfold vK
    split at h
    ·rename_i ds fT
     rcases h with⟨out,hP,h|⟨qH,h⟩|⟨qH,h⟩⟩|h
     ·exact Ua
     ·exact T1
     ·exact TW
     ·exact acU
    ·exact acU
   ·rename_i id hf
    unfold C5
    simp only[hf]
    exact eD.mono (fun v o n h=>hK _ h) (fun v o n h=>hX _ _ h) h
   ·exact h.elim
  ·rename_i r m fS
   simp only[hc,fS]
   split at h
   ·rename_i g y hr
    simp only[hr]
    unfold vK
    rcases h with⟨ds,fT,out,hP,h|⟨qH,h⟩|⟨qH,h⟩⟩|h
    ·exact Ua
    ·exact T1
    ·exact TW
    ·exact .inr (.inr (.inr (.inl (cR.mono (fun v o n h=>hK _ h) (fun v o n h=>hX _ _ h) h))))
   ·exact h.elim
  ·rename_i fS hinv
   rw[hc]at h|-
   obtain⟨MY,args,ts⟩:=c
   cases MY with
   |value f=>exact absurd rfl (fS f)
   |invoke r m=>exact absurd rfl (hinv r m)
   |_=>exact hs h
 ·rename_i x hx
  simp only[hx]
  split at h
  ·rename_i hv;simp only[hv];exact hX _ _ h
  ·rename_i hv;simp only[hv];exact hX _ _ h
  ·exact h.elim
 ·rename_i x str hx
  rw[hx]at h|-
  split at h
  ·rename_i id l hl
   exact .inr ⟨h.1,id,l,hl,fun e=>hK _ (h.2.1 e),fun i k x e=>hK _ (h.2.2 i k x e)⟩
  ·exact hs h
 ·rename_i hc hp uS
  have h2:=hs h
  cases hh:o.op<;>first
   |exact absurd hh (hc _)
   |exact absurd hh (hp _)
   |exact absurd hh (uS _ _)
   |(rw[hh]at h2;exact h2)
theorem kx{ops:Array Oper}{X X':V->S->Prop}{K K':S->Prop}(hK:∀s,K s->K' s)(hX:∀v s,X v s->X' v s):∀ (l:List Oper) (l':List cq) (s:S),lZ n ops l=some l'->qe P X K l' s->AY P n ops X' K' l s
 |[],l',s,h,hr=>by simp[lZ]at h;subst h;exact hK _ hr
 |o::l,l',s,h,hr=>by
  simp only[lZ]at h
  split at h
  ·rename_i x xs hx CS
   injection h with h;subst h
   unfold MA at hx
   split at hx
   ·rename_i hd
    have dq:iJ n o.dst:=by
     unfold Ff at hd;unfold iJ
     split at hd<;>simp_all
    simp only[AY,AX]
    cases hg:o.guard with
    |none=>
     simp only[hg]at hx
     injection hx with hx;subst hx
     exact Hx rfl rfl dq (fun s hs=>kx hK hX l xs s CS hs) hX hr
    |some p=>
     obtain⟨j,want⟩:=p
     simp only[hg]at hx
     cases UQ:tD ops j with
     |none=>simp[UQ]at hx
     |some d=>
      simp only[UQ]at hx
      injection hx with hx;subst hx
      simp only
      simp only[qe]at hr
      split at hr
      ·rename_i t ht
       simp only[UQ,ht]
       split at hr
       ·rename_i e
        exact⟨fun _=>Hx rfl rfl dq (fun s hs=>kx hK hX l xs s CS hs) hX hr,fun h=>absurd e h⟩
       ·rename_i e
        exact⟨fun h=>absurd h e,fun _=>⟨dq,kx hK hX l xs _ CS hr⟩⟩
      ·rename_i ht
       simp only[UQ,ht]
       exact⟨dq,kx hK hX l xs _ CS hr⟩
      ·exact hr.elim
   ·cases hx
  ·cases h
end
end
section
mutual
def V.refs:V->List Nat
 | .ptr id _=>[id]| .osl id _=>[id]| .pe id _ _ _ _=>[id]| .yJ id _ _=>[id]| .mp id=>[id]| .kq id=>[id]
 | .agg cs=>V.aO cs
 | .cn cs=>V.aO cs
 | .func _ a b=>V.aO a++V.aO b
 | .iface _ x=>x.refs
 |_=>[]
def V.aO:List V->List Nat
 |[]=>[]
 |v::vs=>v.refs++V.aO vs
end
mutual
theorem kP:∀ (v:V),∀id∈v.ids,id∈v.refs
 | .osl id _,j,h=>by simpa[V.ids,V.refs]using h
 | .agg cs,j,h=>by simp only[V.ids]at h;simp only[V.refs];exact mA cs j h
 | .iface _ x,j,h=>by simp only[V.ids]at h;simp only[V.refs];exact kP x j h
 | .mp _,j,h=>by simpa[V.ids,V.refs]using h
 | .d _,_,h| .bO,_,h| .cn _,_,h| .ptr _ _,_,h| .pe _ _ _ _ _,_,h| .pp _ _,_,h| .func _ _ _,_,h| .aa,_,h| .sn _,_,h| .yJ _ _ _,_,h| .fI,_,h| .kq _,_,h=>by simp[V.ids]at h
theorem mA:∀ (vs:List V),∀id∈V.bK vs,id∈V.aO vs
 |[],j,h=>by simp[V.bK]at h
 |v::vs,j,h=>by
  simp only[V.bK,V.aO,List.mem_append]at h|-
  exact h.imp (kP v j) (mA vs j)
end
mutual
theorem dP{o o':Nat->ab}:∀ (v:V),(∀id∈v.refs,o' id=o id)->eI o' v=eI o v
 | .osl id ep,h=>by simp only[eI,h id (by simp[V.refs])]
 | .mp id,h=>by simp only[eI,h id (by simp[V.refs])]
 | .agg cs,h=>by simp only[eI,jn cs (by simpa[V.refs]using h)]
 | .iface t x,h=>by simp only[eI,dP x (by simpa[V.refs]using h)]
 | .d _,_| .bO,_| .cn _,_| .ptr _ _,_| .pe _ _ _ _ _,_| .pp _ _,_| .func _ _ _,_| .aa,_| .sn _,_| .yJ _ _ _,_| .fI,_| .kq _,_=>by simp only[eI]
theorem jn{o o':Nat->ab}:∀ (vs:List V),(∀id∈V.aO vs,o' id=o id)->cA o' vs=cA o vs
 |[],_=>rfl
 |v::vs,h=>by
  simp only[cA,dP v (fun id aG=>h id (by simp[V.aO,aG])),jn vs (fun id aG=>h id (by simp[V.aO,aG]))]
end
theorem jd{o o':Nat->ab}{ids:List Nat}(h:∀id∈ids,o' id=o id):dw o' ids=dw o ids:=by
 rw[mF,mF]
 exact List.map_congr_left fun id aG=>by rw[h id aG]
def pB(s:S)(op:Op):List Nat:=
 match op with
 | .load _ x=>(s.ev x).refs
 | .nilCheck x=>(s.ev x).refs
 | .fieldAddr _ x _=>(s.ev x).refs
 | .indexAddr _ x _=>(s.ev x).refs
 | .store _ x v=>(s.ev x).refs++(s.ev v).refs
 | .buildSlice _ _ parts=>V.aO (parts.toList.map fun p=>s.ev p.2)
 | .binOp _ _ x y _=>(s.ev x).refs++(s.ev y).refs
 | .slice _ x _ _ _=>(s.ev x).refs
 | .lookup _ m k _=>(s.ev m).refs++(s.ev k).refs
 | .mapUpdate _ m k v=>(s.ev m).refs++((s.ev k).refs++(s.ev v).refs)
 | .insert _ m k v=>(s.ev m).refs++((s.ev k).refs++(s.ev v).refs)
 | .range _ x=>(s.ev x).refs
 | .next x _=>(s.ev x).refs
 | .entry x=>(s.ev x).refs
 | .call c=>match c.callee with
   | .builtin _=>V.aO (c.args.toList.map s.ev)
   | .value f=>match s.ev f with
     | .func _ first cap=>V.aO (first++c.args.toList.map s.ev++cap)
     |_=>[]
   |_=>[]
 |_=>[]
section
variable {P:Program}{s s':S}{fr:Nat}
theorem tO{o o':Nat->ab}(v:V)(h:∀id∈v.refs,o' id=o id):rq o' v=rq o v:=by
 cases v with
 |osl id ep=>simp only[rq,h id (by simp[V.refs])]
 |d x=>cases x<;>rfl
 |_=>rfl
theorem tP{o o':Nat->ab}(v:V)(q:Nat)(h:∀id∈v.refs,o' id=o id):pM o' v q=pM o v q:=by
 cases v<;>simp only[pM]<;>rw[h _ (by simp[V.refs])]
theorem FM{o o':Nat->ab}(v:V)(h:∀id∈v.refs,o' id=o id):CG o' v=CG o v:=by
 have h1:fL o' v=fL o v:=by unfold fL;rw[dP v h]
 cases v<;>first|rfl|simp only[CG,h1]
theorem A6{o o':Nat->ab}(v:V)(h:∀id∈v.refs,o' id=o id):sI o' v=sI o v:=by
 cases v with
 |mp id=>simp only[sI,h id (by simp[V.refs])]
 |d x=>cases x<;>rfl
 |_=>rfl
theorem A7{o o':Nat->ab}(v:V)(h:∀id∈v.refs,o' id=o id):sJ o' v=sJ o v:=by
 cases v with
 |ptr id off=>simp only[sJ,h id (by simp[V.refs])]
 |d x=>cases x<;>rfl
 |_=>rfl
theorem nU{o o':Nat->ab}(v:V)(h:∀id∈v.refs,o' id=o id):pG o' v=pG o v:=by
 cases v with
 |mp id=>simp only[pG,h id (by simp[V.refs])]
 |d x=>cases x<;>rfl
 |_=>rfl
theorem Di{o o':Nat->ab}(v:V)(h:∀id∈v.refs,o' id=o id):qQ o' v=qQ o v:=by
 cases v with
 |mp id=>simp only[qQ,h id (by simp[V.refs])]
 |d x=>cases x<;>rfl
 |_=>rfl
theorem Dj{o o':Nat->ab}(v:V)(str:Bool)(h:∀id∈v.refs,o' id=o id):pH o' v str=pH o v str:=by
 cases v with
 |ptr id off=>cases off<;>simp only[pH,h id (by simp[V.refs])]
 |_=>rfl
theorem A8{o o':Nat->ab}(v:V)(h:∀id∈v.refs,o' id=o id):nG o' v=nG o v:=by
 cases v with
 |ptr id off=>cases off<;>simp only[nG,h id (by simp[V.refs])]
 |_=>rfl
theorem A9{o o':Nat->ab}{fr:Nat}{t:TypeId}{P:Program}(v:V)(h:∀id∈v.refs,o' id=o id):nF P o' fr t v=nF P o fr t v:=by
 unfold nF
 cases v with
 |mp id=>simp only[h id (by simp[V.refs])]
 |d x=>cases x<;>rfl
 |_=>rfl
theorem Ba{o o':Nat->ab}(v:V)(h:∀id∈v.refs,o' id=o id):pT o' v=pT o v:=by
 cases v with
 |ptr id off=>simp only[pT,h id (by simp[V.refs])]
 |_=>rfl
theorem Bb{o o':Nat->ab}(v:V)(h:∀id∈v.refs,o' id=o id):pU o' v=pU o v:=by
 cases v with
 |yJ id off n=>simp only[pU,h id (by simp[V.refs])]
 |_=>rfl
theorem FN(op:Op)(hv:∀x∈op.operands,s'.ev x=s.ev x)(ho:∀id∈pB s op,s'.o id=s.o id):gZ P s' fr op=gZ P s fr op:=by
 cases op<;>simp only[gZ]
 case move x=>rw[hv x (by simp[Op.operands])]
 case assign x=>rw[hv x (by simp[Op.operands])]
 case pick c a b=>rw[hv c (by simp[Op.operands]),hv a (by simp[Op.operands]),hv b (by simp[Op.operands])]
 case box t x=>rw[hv x (by simp[Op.operands])]
 case build t parts=>
  have:(parts.toList.map fun p=>(p.1,s'.ev p.2))=parts.toList.map fun p=>(p.1,s.ev p.2):=
   List.map_congr_left fun p hp=>by rw[hv p.2 (by simp only[Op.operands];simp;exact⟨p.1,by simpa using hp⟩)]
  rw[this]
 case buildSlice t len parts=>
  have:(parts.toList.map fun p=>(p.1,s'.ev p.2))=parts.toList.map fun p=>(p.1,s.ev p.2):=
   List.map_congr_left fun p hp=>by rw[hv p.2 (by simp only[Op.operands];simp;exact⟨p.1,by simpa using hp⟩)]
  rw[this]
  have e:(parts.toList.map fun p=>(p.1,s.ev p.2)).map (·.2)=parts.toList.map fun p=>s.ev p.2:=by simp[Function.comp_def]
  have h1:cA s'.o ((parts.toList.map fun p=>(p.1,s.ev p.2)).map (·.2))=cA s.o ((parts.toList.map fun p=>(p.1,s.ev p.2)).map (·.2)):=jn _ (by rw[e];exact ho)
  have h2:dw s'.o (V.bK ((parts.toList.map fun p=>(p.1,s.ev p.2)).map (·.2)))=dw s.o (V.bK ((parts.toList.map fun p=>(p.1,s.ev p.2)).map (·.2))):=
   jd fun id aG=>ho id (by rw[e]at aG;exact mA _ id aG)
  simp only[iw,h1,h2]
 case load t x=>
  rw[hv x (by simp[Op.operands])]
  cases hx:s.ev x<;>simp only[nT]<;>rw[ho _ (by simp[pB,hx,V.refs])]
 case store t x y=>
  rw[hv x (by simp[Op.operands]),hv y (by simp[Op.operands])]
  have h1:eI s'.o (s.ev y)=eI s.o (s.ev y):=dP _ fun id aG=>ho id pQ
  have h2:dw s'.o (s.ev y).ids=dw s.o (s.ev y).ids:=jd fun id aG=>ho id (by simp[pB,kP _ _ aG])
  cases hx:s.ev x<;>simp only[sT]<;>rw[ho _ (by simp[pB,hx,V.refs])]
  simp only[h1,h2]
 case nilCheck x=>
  rw[hv x (by simp[Op.operands])]
  cases hx:s.ev x with
  |ptr id off=>simp only[ku];rw[ho _ (by simp[pB,hx,V.refs])]
  |func fn a b=>cases fn<;>rfl
  |_=>rfl
 case binOp op t x y yt=>
  rw[hv x (by simp[Op.operands]),hv y (by simp[Op.operands])]
  have h1:CG s'.o (s.ev x)=CG s.o (s.ev x):=FM _ fun id aG=>ho id pQ
  have h2:∀a b,sj P s'.o a b (s.ev x) (s.ev y)=sj P s.o a b (s.ev x) (s.ev y):=fun a b=>by
   have h3:∀id∈(s.ev x).refs,s'.o id=s.o id:=fun id aG=>ho id pQ
   have h4:=A6 (s.ev x) h3
   have h5:=A7 (s.ev x) h3
   unfold sj
   rw[h1,h4,h5]
  unfold e7 sK
  simp only[h2]
 case slice t x lo hi mx=>
  rw[hv x (by simp[Op.operands])]
  have e1:lo.map s'.ev=lo.map s.ev:=by cases lo<;>simp[hv,Op.operands]
  have e2:hi.map s'.ev=hi.map s.ev:=by cases hi<;>simp[hv,Op.operands]
  have e3:mx.map s'.ev=mx.map s.ev:=by cases mx<;>simp[hv,Op.operands]
  rw[e1,e2,e3]
  have h3:∀id∈(s.ev x).refs,s'.o id=s.o id:=fun id aG=>ho id pQ
  have h1:fL s'.o (s.ev x)=fL s.o (s.ev x):=by unfold fL;rw[dP _ h3]
  have h2:dw s'.o (s.ev x).ids=dw s.o (s.ev x).ids:=jd fun id aG=>h3 id (kP _ _ aG)
  have h4:Fi P s'.o t (s.ev x) (lo.map s.ev) (hi.map s.ev) (mx.map s.ev)=Fi P s.o t (s.ev x) (lo.map s.ev) (hi.map s.ev) (mx.map s.ev):=by
   cases hx:s.ev x with
   |osl id ep=>simp only[Fi,h3 id (by simp[hx,V.refs])]
   |_=>rfl
  unfold sH qN
  simp only[h1,h2,h4,Ba _ h3]
 case field t x f=>rw[hv x (by simp[Op.operands])]
 case typeAssert x xt t ok=>rw[hv x (by simp[Op.operands])]
 case makeMap t r=>cases r<;>rfl
 case lookup t m k ok=>
  rw[hv m (by simp[Op.operands]),hv k (by simp[Op.operands])]
  have h3:∀id∈(s.ev m).refs,s'.o id=s.o id:=fun id aG=>ho id pQ
  have h1:eI s'.o (s.ev k)=eI s.o (s.ev k):=dP _ fun id aG=>ho id pQ
  unfold jz
  simp only[h1,Di _ h3]
 case mapUpdate t m k v=>
  rw[hv m (by simp[Op.operands]),hv k (by simp[Op.operands]),hv v (by simp[Op.operands])]
  have h3:∀id∈(s.ev m).refs,s'.o id=s.o id:=fun id aG=>ho id pQ
  have h1:eI s'.o (s.ev k)=eI s.o (s.ev k):=dP _ fun id aG=>ho id pQ
  have h2:eI s'.o (s.ev v)=eI s.o (s.ev v):=dP _ fun id aG=>ho id pQ
  have h4:dw s'.o (s.ev v).ids=dw s.o (s.ev v).ids:=jd fun id aG=>ho id (by simp[pB,kP _ _ aG])
  unfold gO
  simp only[h1,h2,h4,nU _ h3]
 case insert t m k v=>
  rw[hv m (by simp[Op.operands]),hv k (by simp[Op.operands]),hv v (by simp[Op.operands])]
  have h3:∀id∈(s.ev m).refs,s'.o id=s.o id:=fun id aG=>ho id pQ
  have h1:eI s'.o (s.ev k)=eI s.o (s.ev k):=dP _ fun id aG=>ho id pQ
  have h2:eI s'.o (s.ev v)=eI s.o (s.ev v):=dP _ fun id aG=>ho id pQ
  have h4:dw s'.o (s.ev v).ids=dw s.o (s.ev v).ids:=jd fun id aG=>ho id (by simp[pB,kP _ _ aG])
  unfold gO
  simp only[h1,h2,h4,nU _ h3]
 case index t x i=>rw[hv x (by simp[Op.operands]),hv i (by simp[Op.operands])]
 case range t x=>
  rw[hv x (by simp[Op.operands])]
  exact A9 _ fun id aG=>ho id pQ
 case next x str=>
  rw[hv x (by simp[Op.operands])]
  exact Dj _ _ fun id aG=>ho id pQ
 case entry x=>
  rw[hv x (by simp[Op.operands])]
  exact A8 _ fun id aG=>ho id pQ
 case unOp op t x=>rw[hv x (by simp[Op.operands])]
 case convert u t x=>rw[hv x (by simp[Op.operands])]
 case makeInterface t x=>rw[hv x (by simp[Op.operands])]
 case makeFunc fn first cap=>
  have h1:first.toList.map s'.ev=first.toList.map s.ev:=List.map_congr_left fun x hx=>hv x (by simp only[Op.operands];exact Array.mem_append.2 (.inl (Array.mem_toList_iff.1 hx)))
  have h2:cap.toList.map s'.ev=cap.toList.map s.ev:=List.map_congr_left fun x hx=>hv x (by simp only[Op.operands];exact Array.mem_append.2 (.inr (Array.mem_toList_iff.1 hx)))
  rw[h1,h2]
 case makeSlice t l c=>rw[hv l (by simp[Op.operands]),hv c (by simp[Op.operands])]
 case fieldAddr t x f=>
  rw[hv x (by simp[Op.operands])]
  simp only[jl]
  cases cL P t f<;>simp only
  rw[tP _ _ (by simpa[pB]using ho)]
 case indexAddr t x i=>
  rw[hv x (by simp[Op.operands]),hv i (by simp[Op.operands])]
  have h1:∀q,pM s'.o (s.ev x) q=pM s.o (s.ev x) q:=fun q=>tP _ _ (by simpa[pB]using ho)
  simp only[jk,h1]
  cases hx:s.ev x with
  |osl id ep=>simp only[ho id (by simp[pB,hx,V.refs])]
  |d y=>cases y<;>rfl
  |_=>rfl
 case extract x i=>rw[hv x (by simp[Op.operands])]
 case call c=>
  obtain⟨MY,args,ts⟩:=c
  cases MY<;>simp only
  rename_i b
  unfold ry
  have hm:∀x∈args.toList,s'.ev x=s.ev x:=fun x hx=>hv x acO
  have hr:∀x∈args.toList,∀id∈(s.ev x).refs,s'.o id=s.o id:=by
   intro x hx id aG
   refine ho id ?_
   simp only[pB]
   generalize args.toList=l at hx
   induction l with
   |nil=>cases hx
   |cons y l ih=>
    simp only[List.map_cons,V.aO,List.mem_append]
    rcases List.mem_cons.1 hx with rfl|hx
    ·exact .inl aG
    ·exact .inr (ih hx)
  split
  ·rename_i x ha
   rw[ha]at hm hr
   rw[hm x (by simp)]
   have h1:∀t,FI P t s'.o (s.ev x)=FI P t s.o (s.ev x):=fun t=>by simp only[FI,tO _ (hr x (by simp))]
   simp only[h1]
  ·rename_i x y ha
   rw[ha]at hm hr
   rw[hm x (by simp),hm y (by simp)]
   simp only[rr,tO _ (hr y (by simp))]
   cases yM P fr ts (s.ev x) (s.ev y)with
   |some r=>rfl
   |none=>
   dsimp only
   cases hx:s.ev x with
   |osl id ep=>simp only[hr x (by simp) id (by simp[hx,V.refs])]
   |_=>rfl
  ·rename_i x y ha
   rw[ha]at hm
   rw[hm x (by simp),hm y (by simp)]
  ·rename_i x y ha
   rw[ha]at hm
   rw[hm x (by simp),hm y (by simp)]
  ·rename_i x y z h;rw[hm x (by rw[h];simp),hm y (by rw[h];simp),hm z (by rw[h];simp)]
  ·rename_i x y ha
   rw[ha]at hm hr
   rw[hm x (by simp),hm y (by simp)]
   have h1:fL s'.o (s.ev y)=fL s.o (s.ev y):=by unfold fL;rw[dP _ (hr y (by simp))]
   have h2:dw s'.o (s.ev y).ids=dw s.o (s.ev y).ids:=jd fun id aG=>hr y ao id (kP _ _ aG)
   unfold yL
   simp only[h1,h2,Bb _ (hr x (by simp))]
  ·rename_i x y ha
   rw[ha]at hm hr
   rw[hm x (by simp),hm y (by simp)]
   have h1:eI s'.o (s.ev y)=eI s.o (s.ev y):=dP _ (hr y ao)
   have h2:=nU _ (hr x ao)
   simp only[oS,h1,h2]
  ·rename_i x ha
   rw[ha]at hm
   rw[hm x (by simp)]
  ·rfl
end
end
end Go.Proofs.YtonbelhklnmjnaaGreat
