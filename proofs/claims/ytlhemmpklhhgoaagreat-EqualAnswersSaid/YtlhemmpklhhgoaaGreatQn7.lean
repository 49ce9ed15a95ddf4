/-
  A PART OF THE PROOF. Conditions: none.
-/
import Derived.Test.YtlhemmpklhhgoaaGreatQn6
set_option linter.unusedSimpArgs false
set_option linter.unusedVariables false
namespace Go.Proofs.YtlhemmpklhhgoaaGreat
section
section
variable {P:Program}{M:Nat->Prop}{φ:Place}{H:Hp}{w w':World}{cS:Place}{H0:Hp}{w0:World}{n b:Nat}{s:S}{a:Act}{cx:Cx}{ro:Option Nat}{k:Nat}
theorem iL(hb:∀id,H0.us id->id<b)(uS:cx.rd=false->ro=none):∀ (c:Code) (Q:fS->S->Prop) (s:S) (φ:Place) (a:Act) (w:World),jC P n b cx.rd c Q s->cq M cS H0 w0 n cx φ s a w->c.uB P ro (Hf M cS H0 w0 n cx Q) a w:=by
 intro c
 induction c with
 |skip=>exact fun Q s φ a w h hs=>qh (k:=0) (wpIn_skip ⟨.normal,s,φ,h,hs,trivial⟩)
 |scope x ih=>exact fun Q s φ a w h hs=>yY (ih Q s φ a w h hs) (fun l a w ⟨xx,s',aJ,hq,jU,hm⟩=>by cases xx<;>exact hm)
 |label l=>exact fun Q s φ a w h hs=>qh (k:=0) (wpIn_label ⟨.normal,s,φ,h,hs,trivial⟩)
 |exit id=>exact fun Q s φ a w h hs=>CI ⟨.exit id,s,φ,h,hs,rfl⟩
 |ret=>exact fun Q s φ a w h hs=>Hg ⟨.ret,s,φ,h,hs,trivial⟩
 |goto l=>exact fun Q s φ a w h hs=>h.elim
 |refuse y=>exact fun Q s φ a w h hs=>h.elim
 |rangeFunc g ps x y=>
  intro Q s φ a w h hs
  obtain⟨h1,s',hle,h2⟩:=h
  rcases hle with rfl|hle
  ·exact y9 hs h1 (uS h1) h2
  ·obtain⟨aJ,jU⟩:=Fg hb hs hle
   exact y9 jU h1 (uS h1) h2
 |region id ops draw=>
  intro Q s φ a w h hs
  cases draw with
  |true=>exact qh (h M cS H0 w0 cx φ a w ro 0 hs)
  |false=>
   refine qh (k:=0) (wpIn_region_list (qg (K:=Q .normal) (X:=fun v s=>Q (.bN v) s) (fun s φ a w hk hs=>⟨.normal,s,φ,hk,hs,trivial⟩) (fun v s φ a w val hx hs hd=>⟨.bN v,s,φ,hx,hs,val,rfl,hd⟩) _ s φ a w h hs))
 |seq x y PX PY=>
  intro Q s φ a w h hs
  refine AH (hO (PX _ s φ a w h hs) ?_)
  rintro e a' w' ⟨xx,s',aJ,hq,jU,hm⟩
  cases e<;>cases xx<;>first|(exact hm.elim)|skip
  ·exact PY Q s' aJ a' w' hq jU
  ·subst hm;exact⟨_,s',aJ,hq,jU,rfl⟩
  ·exact LB
  ·exact LG
 |cond c x y PX PY=>
  intro Q s φ a w h hs
  simp only[jC]at h
  have hc:=nA (M:=M) (φ:=φ) (H:=s.H) (w:=w) s a hs.env c
  split at h
  ·rename_i t hv
   rw[hv]at hc
   simp only[V.den,D.den]at hc
   cases t with
   |true=>exact rj hc (PX Q s φ a w (h.1 rfl) hs)
   |false=>exact rj hc (PY Q s φ a w (h.2 rfl) hs)
  ·rename_i hv
   rw[hv]at hc
   obtain⟨t,hc⟩:=hc
   cases t with
   |true=>exact rj hc (PX Q s φ a w h.1 hs)
   |false=>exact rj hc (PY Q s φ a w h.2 hs)
  ·exact h.elim
 |block id x ih=>
  intro Q s φ a w h hs
  refine JE (hO (ih _ s φ a w h hs) ?_)
  rintro e a' w' ⟨xx,s',aJ,hq,jU,hm⟩
  cases e<;>cases xx<;>first|(exact hm.elim)|skip
  ·exact⟨.normal,s',aJ,hq,jU,trivial⟩
  ·subst hm
   simp only[Exit.inBlock]
   simp only[fU]at hq
   split
   ·rename_i he;rw[if_pos he]at hq;exact⟨.normal,s',aJ,hq,jU,trivial⟩
   ·rename_i he;rw[if_neg he]at hq;exact⟨.exit _,s',aJ,hq,jU,rfl⟩
  ·exact LB
  ·exact LG
 |loop x ih=>
  intro Q s φ a w h hs
  obtain⟨J,⟨m0,s1,hle,hI⟩,vS⟩:=h
  obtain⟨jn,sw⟩:=Fg hb hs hle
  refine AJ (fun m a w=>∃s φ,J m s/\cq M cS H0 w0 n cx φ s a w) ?_ m0 a w ⟨s1,jn,hI,sw⟩
  rintro m a w ⟨s,φ,hI,hs⟩
  refine hO (ih _ s φ a w (vS m s hI) hs) ?_
  rintro e a' w' ⟨xx,s',aJ,hq,jU,hm⟩
  cases e<;>cases xx<;>first|(exact hm.elim)|skip
  ·obtain⟨m2,s2,cu,Mo,hI2⟩:=hq
   obtain⟨JF,Hi⟩:=Fg hb jU Mo
   exact⟨m2,cu,s2,JF,hI2,Hi⟩
  ·subst hm;exact⟨_,s',aJ,hq,jU,rfl⟩
  ·exact LB
  ·exact LG
def Mp(tmps:Array Value)(r:ResultVar):Sem Value:=
 match r with
 | .tmp t=>pure (tmps.getD t undef)
 | .cell p t=>do loadVar t (<- asAddr (tmps.getD p undef))
theorem uT(rl:az M φ s.H w)(eD:∀i,V.den (aq M φ s.H) φ s.H w (s.env i) (a.tmps.getD i undef)):∀ (rs:List ResultVar) (vs:List V),mD P s rs=some vs->
 ∃vals,(rs.mapM (Mp a.tmps)).run P w= .ok vals w/\V.aF (aq M φ s.H) φ s.H w vs vals
 |[],vs,h=>by simp[mD]at h;subst h;exact⟨[],aE,rfl⟩
 | .tmp t::rs,vs,h=>by
   simp only[mD,Option.map_eq_some_iff]at h
   obtain⟨us,h1,rfl⟩:=h
   obtain⟨vals,h2,h3⟩:=uT rl eD rs us h1
   exact⟨a.tmps.getD t undef::vals,by simp only[List.mapM_cons,Mp,Sem.run_bind,Sem.run_pure,Result.andThen_ok,h2],_,_,rfl,eD t,h3⟩
 | .cell p t::rs,vs,h=>by
   simp only[mD]at h
   split at h
   ·rename_i id off hv
    split at h
    ·rename_i cs ho
     simp only[Option.bind_eq_some_iff,Option.map_eq_some_iff]at h
     obtain⟨v,h0,us,h1,rfl⟩:=h
     obtain⟨vals,h2,h3⟩:=uT rl eD rs us h1
     have hx:=eD p
     rw[hv]at hx
     obtain⟨_,hu,hp⟩:=hx
     obtain⟨k,eY,e9⟩:=hp (by show(s.o id).cA=true;rw[ho];rfl)
     have aY:=rl.ok id
     have yj:s.H.o id= .row cs:=ho
     simp only[aR,yj]at aY
     obtain⟨b',dZ,ty,g1,g2,g3,g4⟩:=aY
     rw[eY]at g1;simp at g1;subst g1
     obtain⟨val,h4,h5⟩:=qT (P:=P) h0 ⟨k,0,none⟩ dZ.toList g3 g4 (fun j u hj=>qU g2 j u nq) rfl
     rw[add_plain,Nat.zero_add]at h4
     have h6:(loadVar t ⟨k,off,none⟩).run P w= .ok val w:=by simpa[Instr.loadAt,Instr.sureAddr]using h4
     exact⟨val::vals,by simp only[List.mapM_cons,Mp,e9,asAddr,Sem.run_bind,Sem.run_pure,Result.andThen_ok,h6,h2],val,vals,rfl,h5,h3⟩
    ·cases h
   ·cases h
theorem nJ{fn:Func}{tmps:Array Value}{vals:List Value}
 (h:(fn.results.toList.mapM (Mp tmps)).run P w= .ok vals w):
 (results fn tmps).run P w= .ok (if h:vals.toArray.size=1 then vals.toArray[0]else .tuple vals.toArray) w:=by
 have e:results fn tmps=(do let vs <- fn.results.mapM (Mp tmps);pure (if h:vs.size=1 then vs[0]else .tuple vs)):=by
  unfold results
  congr 2
 rw[e,Array.mapM_eq_mapM_toList]
 simp only[Sem.run_bind,Sem.run_map,h,Result.andThen_ok,Sem.run_pure]
theorem oM{us:Nat->Prop}(φ:Place)(hM:∀k,M k->k<w.heap.size):az M φ ⟨fun _=> .no,us⟩ w where
 ok id:=by simp[aR]
 fresh _ _:=rfl
 apart i j k hi:=by simp[ab.live]at hi
 ours k:=by rintro⟨id,h,_⟩;simp[ab.live]at h
 BM:=hM
theorem JG{vals:Array Value}{m i:Nat}:(vals++Array.replicate m undef).getD i undef=(vals[i]?).getD undef:=by
 simp only[Array.getD_eq_getD_getElem?,Array.getElem?_append]
 split
 ·rfl
 ·rw[Array.getElem?_eq_none (xs:=vals) (by omega)]
  simp only[Array.getElem?_replicate]
  split<;>rfl
structure AK (M:Nat->Prop) (cS:Place) (H0:Hp) (w0:World) (φ:Place) (s:S) (tmps:Array Value) (w:World):Prop where
 heap:az M φ s.H w
 tr:Trans cS H0 w0 φ s.H w
 env:∀i,V.den (aq M φ s.H) φ s.H w (s.env i) (tmps.getD i undef)
theorem JH{tmps:Array Value}(hs:AK M cS H0 w0 φ s tmps w){r:Nat}(h1:w0.heap.size<=r)(h2:w.heap[r]? =some (.deferred (some [])))(h3: ¬cL φ s.H r):
 AK M cS H0 w0 φ s tmps {w with heap:=w.heap.setIfInBounds r (.deferred none)}:=by
 have je:∀b,b≠r->(w.heap.setIfInBounds r (.deferred none))[b]? =w.heap[b]? :=fun b hb=>(MapKept.heap_set h2).2 b hb
 have ss:∀b,dg w b-> ¬aq M φ s.H b->(w.heap.setIfInBounds r (.deferred none))[b]? =w.heap[b]? /\ ¬aq M φ s.H b:=by
  intro b hc hn
  refine⟨je b fun e=> ?_,hn⟩
  subst e
  rcases hc with⟨cs,ty,fz,hc⟩|⟨es,clock,hc⟩
  ·rw[h2]at hc;cases hc
  ·rw[h2]at hc;cases hc
 refine⟨⟨fun id=> ?_,hs.heap.fresh,hs.heap.apart,fun b hb=>⟨(hs.heap.ours b hb).1,by simpa using(hs.heap.ours b hb).2⟩,fun b hb=>by simpa using hs.heap.BM b hb⟩,⟨⟨hs.tr.cN.os,hs.tr.cN.tape,hs.tr.cN.output,by simpa using hs.tr.cN.size,fun j hj hm=> ?_⟩,hs.tr.grow,hs.tr.rel⟩,fun i=>V.lR ss (ec.refl _ _) _ _ (hs.env i)⟩
 ·exact aR.Cg ss (ec.refl _ _) rfl rfl (fun hl b hb=>je b fun e=>h3 ⟨id,hl,e ▸ hb⟩) (hs.heap.ok id)
 ·rw[je j (by omega)];exact hs.tr.cN.block j hj hm
theorem hU{fn:Func}{R:Ending->World->Prop}{u:FrameMode}(hu:u≠ .run){tmps tb:Array Value}{ds:List Deferred}(hR:∀w,AK M cS H0 w0 φ s tb w->LeavesInM (dT none) k P fn tmps R ds u w):
 ∀ (ms:List Nat) (w:World),ms.Nodup->(∀r∈ms,w0.heap.size<=r/\w.heap[r]? =some (.deferred (some []))/\ ¬cL φ s.H r)->AK M cS H0 w0 φ s tb w->LeavesInM (dT none) k P fn tmps R (ms.map mark++ds) u w
 |[],w,_,_,hs=>hR w hs
 |r::ms,w,hn,hm,hs=>by
  obtain⟨h1,h2,h3⟩:=hm r aE
  obtain⟨KY,KM⟩:=List.nodup_cons.1 hn
  refine⟨hu, .inl ⟨r,{w with heap:=w.heap.setIfInBounds r (.deferred none)},rfl, ?_,hU hu hR ms _ KM (fun r' Jz=> ?_) (JH hs h1 h2 h3)⟩⟩
  ·simp[Instr.takeDeferred,getObj,setObj,Sem.run,h2,Result.andThen]
  ·obtain⟨g1,g2,g3⟩:=hm r' (by simp[Jz])
   exact⟨g1,((MapKept.heap_set h2).2 r' (fun e=>KY (e ▸ Jz))).trans g2,g3⟩
theorem cq.toB (hs:cq M cS H0 w0 n cx φ s a w):AK M cS H0 w0 φ s a.tmps w:=⟨hs.heap,hs.tr,hs.env⟩
def mF(P:Program)(rs:List ResultVar)(K X:V->(Nat->ab)->Nat->Prop)(e:fS)(s:S):Prop:=
 match e with
 | .normal| .ret=>match mD P s rs with
   |some [v]=>K v s.o s.nx
   |some vs=>K (.bW vs) s.o s.nx
   |none=>False
 | .bN v=>X v s.o s.nx
 | .exit _=>False
theorem CL{P:Program}{rs:List ResultVar}{K X:V->(Nat->ab)->Nat->Prop}{s:S}(h:mF P rs K X .ret s):∃vs,mD P s rs=some vs/\K (match vs with|[v]=>v|vs=> .bW vs) s.o s.nx:=by
 unfold mF at h
 simp only at h
 split at h
 ·rename_i v h1;exact⟨[v],h1,h⟩
 ·rename_i vs h1 h2
  refine⟨vs,h2, ?_⟩
  split
  ·exact absurd rfl (h1 _)
  ·exact h
 ·exact h.elim
theorem CM:∀ {vs:List V} {vals:List Value},V.aF (aq M φ H) φ H w vs vals->V.den (aq M φ H) φ H w (match vs with|[v]=>v|vs=> .bW vs) (if h:vals.toArray.size=1 then vals.toArray[0]else .tuple vals.toArray)
 |[],vals,h=>by simp only[V.aF]at h;subst h;exact⟨#[],rfl,rfl⟩
 |[v],vals,h=>by obtain⟨u,us,rfl,h1,h2⟩:=h;simp only[V.aF]at h2;subst h2;exact h1
 |v::y::l,vals,h=>by
  have h':=h
  obtain⟨u,us,rfl,h1,u2,us2,rfl,h2⟩:=h
  exact⟨(u::u2::us2).toArray,aE,by simpa using h'⟩
theorem B8{vals:Array Value}{m:Nat}{vs:List V}(hd:V.aF (aq M φ H) φ H w vs vals.toList)(i:Nat):V.den (aq M φ H) φ H w (cB vs i) ((vals++Array.replicate m undef).getD i undef):=by
 have hlen:=V.aC _ _ hd
 simp only[cB,JG]
 cases hx:vs[i]? with
 |none=>
  have:vals[i]? =none:=by
   rw[List.getElem?_eq_none_iff]at hx
   apply Array.getElem?_eq_none
   simp at hlen;omega
  simp only[List.getD_eq_getElem?_getD,hx,this]
  exact⟨#[],rfl,rfl⟩
 |some v=>
  obtain⟨u,hu,PJ⟩:=V.dz _ _ _ _ hd hx
  have BZ:vals[i]? =some u:=by simpa using hu
  simp only[List.getD_eq_getElem?_getD,hx,BZ,Option.getD_some]
  exact PJ
theorem nK{f:FuncId}{fn:Func}{c:Code}{args:Array Value}{w:World}{R:Ending->World->Prop}(hf:P.funcs[f]? =some fn)(hb:fn.body=some c)
 (h:c.uB P none (bodyPostM (dT none) k P fn R) {tmps:=args++Array.replicate (fn.ntmps - args.size) undef,defers:=[]} w):CallsIn (dT none) k P f args w R:=by
 have cu:f<P.funcs.size:=(Array.getElem?_eq_some_iff.1 hf).1
 refine⟨trivial,fun cs hr=> ?_⟩
 let b:Frame:={(default:Frame)with fn:=f,kind:= .normal,roundOf:=none}
 have mE:Frame.enter P f args .normal=b.atR {tmps:=args++Array.replicate (fn.ntmps - args.size) undef,defers:=[]} [.code c]:=by
  simp[Frame.enter,Frame.atR,hf,hb,b]
 obtain⟨e,a',w',hq,dy⟩:=h b [] cs rfl cu
 rw[<- mE]at dy
 cases e with
 |normal=>
  obtain⟨e',VK,fr',hR,hs,KH,hl⟩:=leaves_stepsInM a'.defers .returning w' {b.atR a' []with mode:= .returning} cs rfl rfl rfl hf rfl (trivial:(dT none).fn f) hr hq
  exact⟨e',VK,fr',hR,ComesIn.of_steps (StepsIn.trans dy (.one (fenced_calm (n:=0) (fr:=b.atR a' []) trivial gZ rfl) (stepR_end rfl))) hs,KH,hl⟩
 |ret=>
  obtain⟨todo,SE⟩:=dy.1 rfl
  obtain⟨e',VK,fr',hR,hs,KH,hl⟩:=leaves_stepsInM a'.defers .returning w' {b.atR a' todo with mode:= .returning} cs rfl rfl rfl hf rfl (trivial:(dT none).fn f) hr hq
  exact SD
 |panic chain=>
  obtain⟨todo,SE⟩:=dy
  obtain⟨e',VK,fr',hR,hs,KH,hl⟩:=leaves_stepsInM a'.defers (.panicking chain) w' {b.atR a' todo with mode:= .panicking chain} cs rfl rfl rfl hf rfl (trivial:(dT none).fn f) hr hq
  exact SD
 |exit id=>exact hq.elim
 |goto l=>exact hq.elim
 |outgrown=>exact⟨.outgrown,w',b,hq,dy.resolve_left (by simp[b]),rfl,trivial⟩
def Fi(P:Program)(l:Nat)(R:Ending->World->Prop):Exit->Act->World->Prop
 | .normal,_,w=>∃v w',(Instr.endRound l none).run P w= .ok v w'/\R (.returned v) w'
 | .ret,_,w=>∃v w',(Instr.endRound l (some .ret)).run P w= .ok v w'/\R (.returned v) w'
 | .exit id,_,w=>∃v w',(Instr.endRound l (some (.exit id))).run P w= .ok v w'/\R (.returned v) w'
 | .goto _,_,_=>False
 | .panic chain,a,w=>a.defers=[]/\R (.panicked chain) w
 | .outgrown,_,_=>False
theorem vT{l:Nat}{f:FuncId}{tmps:Array Value}{assign body:Code}{w:World}{R:Ending->World->Prop}(hf:f<P.funcs.size)
 (h:assign.uB P (some l) (Exit.then (fun pg jR=>∃sR,(Instr.beginRound l).run P jR= .ok () sR/\body.uB P (some l) (Fi P l R) pg sR) (fun e a w=>match e with| .panic chain=>a.defers=[]/\R (.panicked chain) w|_=>False))
  {tmps:=tmps,defers:=[]} w):
 RoundIn Fence.wide n P l f tmps assign body w R:=by
 refine⟨trivial,fun c cs hr=> ?_⟩
 let b:Frame:={(default:Frame)with fn:=f,kind:= .normal,roundOf:=some l}
 have hb0:Frame.round l f tmps assign body .normal=b.atR {tmps:=tmps,defers:=[]} [.code assign, .beginRound, .code body]:=by
  simp[Frame.round,Frame.atR,b]
 have calm:∀ (m:Machine),m.fenced P Fence.wide:=fun m=>fenced_wide P m
 have bN:∀ {a:Act} {w:World} {todo:List Item} {chain:List PanicEntry},a.defers=[]->step P (lone {b.atR a todo with mode:= .panicking chain} (c::cs) w)= .next (lone (c.raise chain) cs w):=by
  intro a w todo chain hd
  exact step_leave_panicked (fr:={b.atR a todo with mode:= .panicking chain}) ⟨rfl,hd,P.funcs[f],by show P.funcs[f]? =_;simp[hf]⟩
 obtain⟨e,pg,jR,hq,dy⟩:=h b [.beginRound, .code body] (c::cs) rfl hf
 rw[<- hb0]at dy
 cases e with
 |normal=>
  obtain⟨sR,Tv,rm⟩:=hq
  have s1:StepsIn (Machine.fenced P Fence.wide) P (lone (b.atR pg [.beginRound, .code body]) (c::cs) jR) (lone (b.atR pg [.code body]) (c::cs) sR):= .one (calm _) (stepR_beginRound rfl Tv)
  obtain⟨Wd,ab0,Fe,ri,kT⟩:=rm b [] (c::cs) rfl hf
  have dy:StepsIn (Machine.fenced P Fence.wide) P _ _:=dy
  cases Wd with
  |normal=>
   obtain⟨v,uC,eL,hR⟩:=ri
   have kT:StepsIn (Machine.fenced P Fence.wide) P _ _:=kT
   exact⟨.returned v,uC,hR,(StepsIn.trans dy s1).trans (StepsIn.trans kT (.one (calm _) (stepR_round_end rfl rfl eL)))⟩
  |ret=>
   obtain⟨v,uC,eL,hR⟩:=ri
   obtain⟨k₁,hs⟩:=kT.2 rfl
   have hs:StepsIn (Machine.fenced P Fence.wide) P _ _:=hs
   exact⟨.returned v,uC,hR,(StepsIn.trans dy s1).trans (StepsIn.trans hs (.one (calm _) (stepR_round_ret rfl rfl eL)))⟩
  |exit id=>
   obtain⟨v,uC,eL,hR⟩:=ri
   obtain⟨k₁,hk,hs⟩:=kT.2 rfl rfl
   have hs:StepsIn (Machine.fenced P Fence.wide) P _ _:=hs
   exact⟨.returned v,uC,hR,(StepsIn.trans dy s1).trans (StepsIn.trans hs (.one (calm _) (stepR_round_exit rfl rfl hk eL)))⟩
  |goto t=>exact ri.elim
  |panic chain=>
   obtain⟨todo,hs⟩:=kT
   have hs:StepsIn (Machine.fenced P Fence.wide) P _ _:=hs
   exact⟨.panicked chain,Fe,ri.2,(StepsIn.trans dy s1).trans (StepsIn.trans hs (.one (calm _) (bN ri.1)))⟩
  |outgrown=>exact ri.elim
 |exit id=>exact hq.elim
 |goto t=>exact hq.elim
 |ret=>exact hq.elim
 |panic chain=>
  obtain⟨todo,hs⟩:=dy
  have hs:StepsIn (Machine.fenced P Fence.wide) P _ _:=hs
  exact⟨.panicked chain,jR,hq.2,StepsIn.trans hs (.one (calm _) (bN hq.1))⟩
 |outgrown=>exact hq.elim
theorem bQ.Hk {f:FuncId}{fn:Func}{c:Code}{args:List V}{o:Nat->ab}{nx:Nat}{K X:V->(Nat->ab)->Nat->Prop}(hf:P.funcs[f]? =some fn)(hn:(fn.name== "runtime.NumGoroutine")=false)(rm:fn.body=some c)(hl:args.length<=fn.ntmps)
 (h:jC P fn.ntmps nx false c (mF P fn.results.toList K X) ⟨cB args,o,nx⟩):bQ P f args o nx K X:=by
 refine⟨⟨fn,hf,hn,by rw[rm];rfl⟩,fun M φ w vals hH hd=> ?_⟩
 have hlen:=V.aC _ _ hd
 let s0:S:=⟨cB args,o,nx⟩
 let a0:Act:={tmps:=vals++Array.replicate (fn.ntmps - vals.size) undef,defers:=[]}
 have nm:cq M φ (hp o nx) w fn.ntmps ⟨[],false⟩ φ s0 a0 w:=by
  exact abC
 refine CE (ro:=none) (k:=0) (nK hf rm (hO (iL (P:=P) (H0:=hp o nx) (b:=nx) (cx:=⟨[],false⟩) (ro:=none) (fun id hu=>hu) (fun _=>rfl) c _ s0 φ a0 w h nm) ?_))
 rintro e a w' ⟨x,s,aJ,hq,hs,hm⟩
 obtain⟨ms,g1,g2,g3,g4⟩:=hs.defers
 rw[List.append_nil]at g1
 have done:(x= .normal\/x= .ret)->LeavesInM (dT none) 0 P fn a.tmps (nF M φ (hp o nx) w K X) a.defers .returning w':=by
  intro hx
  have hq':mF P fn.results.toList K X .ret s:=by rcases hx with rfl|rfl<;>exact hq
  obtain⟨vs,h1,h2⟩:=CL hq'
  rw[g1]
  have:=hU (P:=P) (k:=0) (fn:=fn) (R:=nF M φ (hp o nx) w K X) (u:= .returning) aE (ds:=[]) (fun w2 hb=>by
   obtain⟨vals,h3,h4⟩:=uT (P:=P) (a:=a) hb.heap hb.env _ _ h1
   exact⟨_,nJ h3,aJ,s.o,s.nx,_,hb.heap,hb.tr,CM h4,h2⟩) ms w' g2 g4 hs.toB
  rwa [List.append_nil]at this
 cases e<;>cases x<;>first|(exact hm.elim)|skip
 ·exact done (.inl rfl)
 ·exact hq.elim
 ·exact done (.inr rfl)
 ·rename_i v
  obtain⟨val,rfl,PZ⟩:=hm
  show LeavesInM (dT none) 0 P fn a.tmps (nF M φ (hp o nx) w K X) a.defers _ w'
  rw[g1]
  have hb0:AK M φ (hp o nx) w aJ ⟨fun i=>if i=0 then v else .ad,s.o,s.nx⟩ #[val] w':=⟨hs.heap,hs.tr,fun i=>by
   by_cases hi:i=0
   ·subst hi;exact PZ
   ·simp only[hi,if_false];trivial⟩
  have:=hU (P:=P) (k:=0) (fn:=fn) (s:=⟨fun i=>if i=0 then v else .ad,s.o,s.nx⟩) (tmps:=a.tmps) (tb:=#[val]) (cS:=φ) (H0:=hp o nx) (w0:=w) (R:=nF M φ (hp o nx) w K X) (u:= .panicking [{v:=val,recovered:=false}]) aE (ds:=[]) (fun w2 hb=>by
   have h0:=hb.env 0
   exact⟨aJ,s.o,s.nx,v,hb.heap,hb.tr,val,rfl,h0,hq⟩) ms w' g2 g4 hb0
  rwa [List.append_nil]at this
theorem aX.lA {f:FuncId}{ds:List D}{out:R}(h:bQ P f (ds.map .d) (fun _=> .no) 0 (fun v o _=>∃vs rs,v=(match vs with|[v]=>v|vs=> .bW vs)/\cn o vs=some rs/\out= .ret rs) (fun v o _=>∃x,dM o v=some x/\out= .bN x)):aX P f ds out:=by
 refine⟨h.1,fun M w vals hM hd=> ?_⟩
 let cS:Place:=fun _=> .nilFunc
 have uD:∀b, ¬cL cS (hp (fun _=> .no) 0) b:=by rintro b ⟨id,hl,_⟩;simp[hp,ab.live]at hl
 refine(h.2 M cS w vals (oM cS hM) ((V.cO _ _).2 (D.aW (w:=w) (w':=w) (B:=M) (fun b _ hB=>⟨rfl,fun h=>h.elim hB (uD b)⟩) _ _ hd))).mono ?_
 rintro e w' ⟨aJ,o',nx',v,k1,k2,k3⟩
 have Hl:eC (fun _=>False) w w':=⟨k2.cN.os,k2.cN.tape,k2.cN.output,k2.cN.size,fun k hk _=>k2.cN.block k hk (uD k)⟩
 have fin:∀ (vs:List V) (xs:List D) (vals:List Value),cn o' vs=some xs->V.aF (aq M aJ (hp o' nx')) aJ (hp o' nx') w' vs vals->D.aF M w' xs vals:=by
  intro vs xs vals h1 h2
  obtain⟨f1,f2,f3,f4,f5⟩:=cZ k1 (V.bg vs) (dk vs _ h2)
  have h3:=dB f1 vs xs vals f3 h1 (V.aW f2 _ _ h2)
  exact D.aW (w:=w') (w':=w') (fun k _ hB=>⟨rfl,fun hM=>hB (.inl hM)⟩) xs vals h3
 refine⟨Hl, ?_⟩
 cases e with
 |outgrown=>exact k3.elim
 |panicked ch=>
  obtain⟨val,rfl,g1,x,g2,rfl⟩:=k3
  have:=fin [v] [x] [val] (by simp[cn,g2]) ⟨val,[],rfl,g1,rfl⟩
  obtain⟨u,us,he,h2,_⟩:=this
  simp at he;obtain⟨rfl,rfl⟩:=he
  exact⟨val,rfl,h2⟩
 |returned val=>
  obtain⟨g1,vs,rs,rfl,g2,rfl⟩:=k3
  match vs,g1,g2 with
  |[],g1,g2=>
   obtain⟨arr,rfl,hv⟩:=g1
   simp only[cn,Option.some.injEq]at g2;subst g2
   exact⟨arr,rfl,hv⟩
  |[v],g1,g2=>
   have:=fin [v] rs [val] g2 ⟨val,[],rfl,g1,rfl⟩
   cases rs with
   |nil=>cases this
   |cons x l=>
    obtain⟨u,us,he,h2,h3⟩:=this
    simp at he;obtain⟨rfl,rfl⟩:=he
    cases l with
    |nil=>exact h2
    |cons y l=>obtain⟨_,_,h,_⟩:=h3;cases h
  |v::v2::l,g1,g2=>
   obtain⟨arr,rfl,h⟩:=g1
   have:=fin (v::v2::l) rs arr.toList g2 h
   have hl:=D.aC _ _ this
   have SG:=V.aC _ _ h
   match rs,hl,this with
   |[],hl,_=>exact GO
   |[x],hl,_=>exact GO
   |x::y::l,_,this=>exact⟨arr,rfl,this⟩
theorem JI{rs:List ResultVar}{out:R}(e:fS)(s:S)(h:AE P rs out e s):
 mF P rs (fun v o _=>∃vs rs,v=(match vs with|[v]=>v|vs=> .bW vs)/\cn o vs=some rs/\out= .ret rs) (fun v o _=>∃x,dM o v=some x/\out= .bN x) e s:=by
 have ret:AE P rs out .ret s->mF P rs (fun v o _=>∃vs rs,v=(match vs with|[v]=>v|vs=> .bW vs)/\cn o vs=some rs/\out= .ret rs) (fun v o _=>∃x,dM o v=some x/\out= .bN x) .ret s:=by
  intro h
  obtain⟨vs,xs,h1,h2,h3⟩:=Mg h
  simp only[mF,h1]
  match vs,h2 with
  |[],h2=>exact⟨[],xs,rfl,h2,h3⟩
  |[v],h2=>exact⟨[v],xs,rfl,h2,h3⟩
  |v::v2::l,h2=>exact⟨v::v2::l,xs,rfl,h2,h3⟩
 cases e with
 |normal=>exact ret h
 |ret=>exact ret h
 |exit id=>exact h.elim
 |bN v=>exact Mh h
end
end
section
def Mq{α:Type}(c:Bool)(x:α):Option α:=if c=true then some x else none
def one(v:V):Option gz:=some (v,[],[])
def CN(op:BinOp)(k:IntKind)(a b:Int):Option V:=
 match op with
 | .add=>some (.d (.int k (k.wrap (a+b))))
 | .sub=>some (.d (.int k (k.wrap (a - b))))
 | .mul=>some (.d (.int k (k.wrap (a*b))))
 | .quo=>if b=0 then none else some (.d (.int k (k.wrap (a.tdiv b))))
 | .rem=>if b=0 then none else some (.d (.int k (a.tmod b)))
 | .and=>(vy .and k a b).map fun r=> .d (.int k r)
 | .or=>(vy .or k a b).map fun r=> .d (.int k r)
 | .xor=>(vy .xor k a b).map fun r=> .d (.int k r)
 | .andNot=>(vy .andNot k a b).map fun r=> .d (.int k r)
 | .eql=>some (.d (.bool (a==b)))| .neq=>some (.d (.bool (a !=b)))| .lss=>some (.d (.bool (decide (a<b))))| .leq=>some (.d (.bool (decide (a<=b))))
 | .gtr=>some (.d (.bool (decide (b<a))))| .geq=>some (.d (.bool (decide (b<=a))))
 |_=>none
def oN(P:Program)(t:TypeId):Bool:=
 match P.underlying t with
 |some .bool=>true
 |_=>false
def AL(P:Program)(op:BinOp)(t:TypeId)(x y:V):Option V:=
 match x,y with
 | .d (.int k a), .d (.int k' b)=>if k=k' then CN op k a b else none
 | .d (.bool a), .d (.bool b)=>match op with
   | .eql=>Mq (oN P t) (.d (.bool (a==b)))
   | .neq=>Mq (oN P t) (.d (.bool (a !=b)))
   |_=>none
 | .d (.str a), .d (.str b)=>match op with
   | .eql=>some (.d (.bool (a==b)))
   | .neq=>some (.d (.bool (a !=b)))
   |_=>none
 |_,_=>none
def unF(op:UnOp)(x:V):Option V:=
 match op,x with
 | .neg, .d (.int k n)=>some (.d (.int k (k.wrap (-n))))
 | .not, .d (.bool b)=>some (.d (.bool !b))
 |_,_=>none
def rn(c a b:V):Option V:=
 match c with
 | .d (.bool true)=>some a
 | .d (.bool false)=>some b
 |_=>none
def rp(o:Nat->ab)(x:V):Option (List D×List Nat):=
 match x with
 | .d (.sl es)=>some (es,[])
 | .aw=>some ([],[])
 | .pF es=>some (es,[])
 | .osl id ep=>match o id with
   | .arr gr _ _ es=>if ep=gr then some (es,[id])else none
   | .uO gr es=>if ep=gr then some (es,[id])else none
   |_=>none
 |_=>none
def Fj(P:Program)(t:TypeId)(o:Nat->ab)(x:V):Option gz:=
 match P.underlying t with
 |some (.slice _)=>match rp o x with
  |some (es,rd)=>some (.d (.int .i64 es.length),[],rd)
  |none=>none
 |some .string=>match x with
  | .d (.str s)=>one (.d (.int .i64 s.length))
  |_=>none
 |some (.array n _)=>one (.d (.int .i64 n))
 |_=>none
def zc(P:Program)(e:TypeId)(es:List D)(i:Int)(rd:List Nat):Option gz:=
 if 0<=i then match es[i.toNat]? with
  |some y=>Mq (y.cells.length==P.cellsOf e&&0<P.cellsOf e) (.pp y.cells 0,[],rd)
  |none=>none
 else none
def pP(o:Nat->ab)(x:V)(q:Nat):Option V:=
 match x with
 | .ptr id off=>Mq (o id).cA (.ptr id (off+q))
 | .pp cs off=>some (.pp cs (off+q))
 | .pe id ep j sz off=>if(o id).cz=some ep then some (.pe id ep j sz (off+q))else none
 |_=>none
def iM(P:Program)(o:Nat->ab)(t:TypeId)(x ix:V):Option gz:=
 match ix with
 | .d (.int _ i)=>match b8 P t with
   |some e=>match x with
    | .d (.sl es)=>zc P e es i []
    | .pF es=>zc P e es i []
    | .osl id ep=>match o id with
      | .arr gr _ sz es=>if ep=gr/\0<=i/\i.toNat<es.length/\sz=P.cellsOf e/\0<P.cellsOf e then some (.pe id ep i.toNat sz 0,[],[id])else none
      | .uO gr es=>if ep=gr then zc P e es i [id]else none
      |_=>none
    |_=>none
   |none=>match Ao P t with
    |some (n,e)=>if 0<=i/\i<n/\(P.info? e).isSome=true then(pP o x (i.toNat*P.cellsOf e)).bind one else none
    |none=>none
 |_=>none
def iN(P:Program)(o:Nat->ab)(t:TypeId)(x:V)(f:Nat):Option V:=
 match b7 P t f with
 |some q=>pP o x q
 |none=>none
def nL(P:Program)(o:Nat->ab)(t:TypeId)(x:V):Option gz:=
 match x with
 | .ptr id off=>match o id with
   | .row cs=>match fh P t cs off with
     |some v=>some (v,[],[id])
     |none=>none
   |_=>none
 | .pp cs off=>match fh P t (cs.map .d) off with
   |some v=>some (v,[],[])
   |none=>none
 | .pe id ep i sz off=>match o id with
   | .arr gr _ sq es=>if ep=gr/\sz=sq then match es[i]? with
    |some e=>match fh P t (e.cells.map .d) off with
     |some v=>some (v,[],[id])
     |none=>none
    |none=>none
     else none
   |_=>none
 |_=>none
def sS(P:Program)(o:Nat->ab)(t:TypeId)(x v:V):Option gz:=
 match x with
 | .ptr id off=>match o id with
   | .row cs=>match Ap P t cs off v with
     |some cs'=>some (.bW [],[(id, .row cs')],[id])
     |none=>none
   |_=>none
 | .pe id ep i sq off=>match o id with
   | .arr gr ty sz es=>if ep=gr/\sq=sz then match es[i]?,dM o v with
    |some e,some y=>if y.cells.length=P.cellsOf t/\0<y.cells.length/\v.ids.all (· !=id)=true then match e.put off y.cells with
     |some e'=>some (.bW [],bG o v.ids++[(id, .arr ep ty sz (es.set i e'))],id::v.ids)
     |none=>none
     else none
    |_,_=>none
     else none
   |_=>none
 |_=>none
def gH(P:Program)(o:Nat->ab)(fr:Nat)(t:TypeId)(len:Nat)(parts:List (Nat×V)):Option gz:=
 match b8 P t with
 |some e=>if len=0/\parts.isEmpty=true/\0<P.cellsOf e then some (.osl fr 0,[(fr, .arr 0 e (P.cellsOf e) [])],[])else if parts.map (·.1)=List.range len/\(cG P e).isSome=true/\0<len/\0<P.cellsOf e/\len*P.cellsOf e<=2^24 then match cn o (parts.map (·.2))with
  |some ds=>if ds.all (fun x=>x.cells.length==P.cellsOf e)=true then some (.osl fr 0,bG o (V.bg (parts.map (·.2)))++[(fr, .arr 0 e (P.cellsOf e) ds)],V.bg (parts.map (·.2)))else none
  |none=>none
  else none
 |none=>none
def mG(P:Program)(fr:Nat)(t:TypeId)(l c:V):Option gz:=
 match b8 P t with
 |some e=>match l,c with
  | .d (.int _ n), .d (.int _ m)=>if n=m/\0<=n/\0<P.cellsOf e/\P.bytesOf e*n.toNat<=2^47/\n.toNat<=2^47 then match Cc P e with
   |some x=>some (.osl fr 0,[(fr, .arr 0 e (P.cellsOf e) (List.replicate n.toNat x))],[])
   |none=>none
    else none
  |_,_=>none
 |none=>none
def rq(P:Program)(o:Nat->ab)(fr:Nat)(ts:Array TypeId)(x y:V):Option gz:=
 match ts.toList with
 |[t,t']=>if t=t' then match b8 P t,rp o y with
    |some e,some (new,rd)=>if 0<P.cellsOf e/\(cG P e).isSome=true/\new.all (fun z=>z.cells.length==P.cellsOf e)=true then match x with
     | .aw=>if new.length<=2^47/\new.length*P.bytesOf e<=2^47 then some (.osl fr 0,[(fr, .arr 0 e (P.cellsOf e) new)],rd)else none
     | .pF es=>if es.all (fun z=>z.cells.length==P.cellsOf e)=true then(if new=[]then some (.pF es,[],rd)else if es.length+new.length<=2^40/\(es.length+new.length)*P.bytesOf e<=2^40 then some (.osl fr 0,[(fr, .arr 0 e (P.cellsOf e) (es++new))],rd)else none)else none
     | .osl id ep=>match o id with
       | .arr gr ty sz es=>if ep=gr/\ty=e/\sz=P.cellsOf e/\es.length+new.length<=2^47/\(es.length+new.length)*P.bytesOf e<=2^47 then
        some (.osl id (ep+1),[(id, .arr (ep+1) ty sz (es++new))],id::rd)else none
       |_=>none
     |_=>none
     else none
    |_,_=>none
  else none
 |_=>none
def rr(isMax:Bool)(x y:V):Option V:=
 match x,y with
 | .d (.int k a), .d (.int k' b)=>if k=k' then some (.d (.int k (if isMax then(if b>a then b else a)else(if b<a then b else a))))else none
 |_,_=>none
def mH(x:Option V):Option gz:=match x with|some v=>one v|none=>none
def rv(P:Program)(s:S)(fr:Nat)(b:Builtin)(args:List Operand)(ts:Array TypeId):Option gz:=
 match b,args with
 | .len,[x]=>match ts.toList with
   |[t]=>Fj P t s.o (s.ev x)
   |_=>none
 | .append,[x,y]=>match yE P fr ts (s.ev x) (s.ev y)with
   |some r=>some r
   |none=>rq P s.o fr ts (s.ev x) (s.ev y)
 | .max,[x,y]=>mH (rr true (s.ev x) (s.ev y))
 | .min,[x,y]=>mH (rr false (s.ev x) (s.ev y))
 | .max,[x,y,z]=>mH (LW (s.ev x) (s.ev y) (s.ev z))
 | .copy,[x,y]=>yD P s.o ts (s.ev x) (s.ev y)
 | .delete,[x,y]=>match ts.toList.head? with
   |some t=>oJ P s.o t (s.ev x) (s.ev y)
   |none=>none
 | .cap,[x]=>PF P ts (s.ev x)
 |_,_=>none
def AM(P:Program)(t:TypeId)(parts:List (Nat×V)):Option V:=
 match cG P t,cR P t with
 |some z,some pl=>match tI pl z parts with
  |some cs=>some (mX cs)
  |none=>none
 |_,_=>none
def jI(o:Nat->ab)(x:V):Option V:=
 match x with
 | .ptr id off=>Mq (o id).cA (.ptr id off)
 | .pp cs off=>some (.pp cs off)
 | .func (.func f) first cap=>some (.func (.func f) first cap)
 |_=>none
def mI(P:Program)(t:TypeId):Bool:=
 match P.underlying t with
 |some (.interface _)=>false
 |some _=>true
 |none=>false
def Mr(P:Program)(t:TypeId)(x:V):Option V:=
 Mq (mI P t) (match x with
  | .d y=> .d (.iface t y)
  |v=> .iface t v)
def fO(P:Program)(o:Nat->ab)(op:BinOp)(t:TypeId)(nu:Bool)(x y:V):Option gz:=
 match AL P op t x y with
 |some v=>one v
 |none=>sJ P o op t nu x y
def Jc(op:UnOp)(x:V):Option V:=
 match op,x with
 | .not, .fF=>some .fF
 |op,x=>unF op x
def gQ(P:Program)(s:S)(fr:Nat)(op:Op):Option gz:=
 match op with
 | .move x=>one (s.ev x)
 | .assign x=>one (s.ev x)
 | .pick c a b=>mH (rn (s.ev c) (s.ev a) (s.ev b))
 | .alloc t=>match cG P t with
   |some cs=>some (.ptr fr 0,[(fr, .row cs)],[])
   |none=>none
 | .box _ x=>match(s.ev x).cells with
   |some cs=>some (.ptr fr 0,[(fr, .row cs)],[])
   |none=>none
 | .build t parts=>mH (AM P t (parts.toList.map fun p=>(p.1,s.ev p.2)))
 | .buildSlice t len parts=>gH P s.o fr t len (parts.toList.map fun p=>(p.1,s.ev p.2))
 | .load t x=>nL P s.o t (s.ev x)
 | .store t x v=>sS P s.o t (s.ev x) (s.ev v)
 | .nilCheck x=>mH (jI s.o (s.ev x))
 | .binOp op t x y _=>fO P s.o op t (isConst x||isConst y) (s.ev x) (s.ev y)
 | .unOp op _ x=>mH (Jc op (s.ev x))
 | .convert u t x=>match P.underlying u,pq P t,s.ev x with
   |some _,some k, .d (.int _ n)=>one (.d (.int k (k.wrap n)))
   |_,_,_=>none
 | .makeInterface t x=>mH (Mr P t (s.ev x))
 | .makeFunc fn first cap=>one (.func fn (first.toList.map s.ev) (cap.toList.map s.ev))
 | .makeSlice t l c=>mG P fr t (s.ev l) (s.ev c)
 | .fieldAddr t x f=>mH (iN P s.o t (s.ev x) f)
 | .indexAddr t x i=>iM P s.o t (s.ev x) (s.ev i)
 | .extract x i=>match s.ev x with
   | .bW vs=>match vs[i]? with
     |some v=>one v
     |none=>none
   |_=>none
 | .call c=>match c.callee with
   | .builtin b=>rv P s fr b c.args.toList c.argTypes
   |_=>none
 | .slice t x lo hi mx=>sG P s.o t (s.ev x) (lo.map s.ev) (hi.map s.ev) (mx.map s.ev)
 | .field t x f=>mH (vA P t (s.ev x) f)
 | .index t x i=>mH (vB P t (s.ev x) (s.ev i))
 | .typeAssert x _ t ok=>mH (qP P t ok (s.ev x))
 | .makeMap t none=>nv P fr t
 | .lookup t m k ok=>jE P s.o t (s.ev m) (s.ev k) ok
 | .mapUpdate t m k v=>gu P s.o t (s.ev m) (s.ev k) (s.ev v)
 | .insert t m k v=>gu P s.o t (s.ev m) (s.ev k) (s.ev v)
 | .range t x=>ny P s.o fr t (s.ev x)
 | .next x str=>pK s.o (s.ev x) str
 | .entry x=>nz s.o (s.ev x)
 |_=>none
section
variable {P:Program}{s:S}{fr:Nat}{v:V}{Δ:List (Nat×ab)}{rd:List Nat}{o:Nat->ab}{K:V->List (Nat×ab)->List Nat->Prop}
theorem sT{α:Type}{c:Bool}{x y:α}(h:Mq c x=some y):c=true/\x=y:=by
 unfold Mq at h;split at h
 ·injection h with h;exact⟨by assumption,h⟩
 ·cases h
theorem lB{x:V}{r:gz}(h:one x=some r):r=(x,[],[]):=by unfold one at h;injection h with h;exact h.symm
theorem jD{x:Option V}{r:gz}(h:mH x=some r):∃v,x=some v/\r=(v,[],[]):=by
 unfold mH at h;split at h
 ·exact⟨_,rfl,lB h⟩
 ·cases h
theorem Fk{x:V}{es:List D}{rd:List Nat}(h:rp o x=some (es,rd)):fi o x=some es/\rd=x.ids:=by
 unfold rp at h
 split at h
 ·exact Ls
 ·exact Ls
 ·exact Ls
 ·split at h
  ·rename_i ho
   split at h
   ·rename_i e;simp at h;obtain⟨rfl,rfl⟩:=h;exact⟨by simp[fi,dM,ho,e],rfl⟩
   ·cases h
  ·rename_i ho
   split at h
   ·rename_i e;simp at h;obtain⟨rfl,rfl⟩:=h;exact⟨by simp[fi,dM,ho,e],rfl⟩
   ·cases h
  ·cases h
 ·cases h
theorem JJ{op:BinOp}{k:IntKind}{a b:Int}{v:V}(h:CN op k a b=some v){K:V->Prop}(hK:K v):PC op k a b K:=by
 cases op<;>simp only[CN]at h<;>simp only[PC]
 case quo=>split at h
           ·cases h
           ·exact Lr
 case rem=>split at h
           ·cases h
           ·exact Lr
 case and=>simp only[Option.map_eq_some_iff]at h;obtain⟨r,h1,rfl⟩:=h;exact⟨r,h1,hK⟩
 case or=>simp only[Option.map_eq_some_iff]at h;obtain⟨r,h1,rfl⟩:=h;exact⟨r,h1,hK⟩
 case xor=>simp only[Option.map_eq_some_iff]at h;obtain⟨r,h1,rfl⟩:=h;exact⟨r,h1,hK⟩
 case andNot=>simp only[Option.map_eq_some_iff]at h;obtain⟨r,h1,rfl⟩:=h;exact⟨r,h1,hK⟩
 case shl=>cases h
 case shr=>cases h
 case eql=>injection h with h;subst h;exact⟨_,rfl,hK⟩
 case neq=>injection h with h;subst h;exact⟨_,rfl,hK⟩
 case lss=>injection h with h;subst h;exact⟨_,rfl,hK⟩
 case leq=>injection h with h;subst h;exact⟨_,rfl,hK⟩
 case gtr=>injection h with h;subst h;exact⟨_,rfl,hK⟩
 case geq=>injection h with h;subst h;exact⟨_,rfl,hK⟩
 all_goals (injection h with h;subst h;exact hK)
theorem JK{op:BinOp}{t:TypeId}{x y v:V}(h:AL P op t x y=some v){K:V->Prop}(hK:K v):LU P op t x y K:=by
 unfold AL at h
 unfold LU
 split at h
 ·split at h
  ·exact⟨by assumption,JJ h hK⟩
  ·cases h
 ·have hb:oN P t=true->P.underlying t=some .bool:=by
   unfold oN;intro h;split at h
   ·assumption
   ·cases h
  split at h
  ·obtain⟨h1,rfl⟩:=sT h;exact⟨hb h1,hK⟩
  ·obtain⟨h1,rfl⟩:=sT h;exact⟨hb h1,hK⟩
  ·cases h
 ·split at h
  ·exact Lp
  ·exact Lp
  ·cases h
 ·cases h
theorem Fl{c a b v:V}(h:rn c a b=some v){K:V->Prop}(hK:K v):Ca c a b K:=by
 unfold rn at h
 unfold Ca
 split at h
 ·injection h with h;subst h;exact⟨fun _=>hK,(fun h=>by cases h)⟩
 ·injection h with h;subst h;exact⟨(fun h=>by cases h),fun _=>hK⟩
 ·cases h
theorem vU{x y:V}{q:Nat}(h:pP o x q=some y):(∃id off,x= .ptr id off/\(o id).cA=true/\y= .ptr id (off+q))\/(∃cs off,x= .pp cs off/\y= .pp cs (off+q))\/
 (∃id ep j sz off,x= .pe id ep j sz off/\(o id).cz=some ep/\y= .pe id ep j sz (off+q)):=by
 unfold pP at h
 split at h
 ·obtain⟨h1,rfl⟩:=sT h;exact .inl ⟨_,_,rfl,h1,rfl⟩
 ·injection h with h;exact .inr (.inl ⟨_,_,rfl,h.symm⟩)
 ·split at h
  ·injection h with h;exact .inr (.inr ⟨_,_,_,_,_,rfl,by assumption,h.symm⟩)
  ·cases h
 ·cases h
theorem vq{e:TypeId}{es:List D}{i:Int}{rd:List Nat}{r:gz}(h:zc P e es i rd=some r):
 0<=i/\∃y,es[i.toNat]? =some y/\y.cells.length=P.cellsOf e/\0<P.cellsOf e/\r=(.pp y.cells 0,[],rd):=by
 unfold zc at h
 split at h
 ·rename_i h0
  split at h
  ·rename_i y hy
   obtain⟨h1,rfl⟩:=sT h
   simp only[Bool.and_eq_true,beq_iff_eq,decide_eq_true_eq]at h1
   exact⟨h0,y,hy,h1.1,h1.2,rfl⟩
  ·cases h
 ·cases h
theorem uE{t:TypeId}{x ix:V}(h:iM P o t x ix=some (v,Δ,rd))(hK:K v Δ rd):jW P o t x ix fun v rd=>K v [] rd:=by
 unfold iM at h
 unfold jW
 split at h
 ·simp only
  split at h
  ·rename_i e ht
   simp only[ht]
   split at h
   ·exact abq
   ·exact abq
   ·split at h
    ·rename_i ho
     split at h
     ·rename_i hc
      simp only[Option.some.injEq,Prod.mk.injEq]at h;obtain⟨rfl,rfl,rfl⟩:=h
      simp only[ho]
      exact⟨hc.1,hc.2.1,hc.2.2.1,hc.2.2.2.1,hc.2.2.2.2,hK⟩
     ·cases h
    ·rename_i ho
     split at h
     ·rename_i hc
      obtain⟨h0,y,h1,h2,h3,h4⟩:=vq h
      simp only[Prod.mk.injEq]at h4;obtain⟨rfl,rfl,rfl⟩:=h4
      simp only[ho]
      exact⟨hc,h0,y,h1,h2,h3,hK⟩
     ·cases h
    ·cases h
   ·cases h
  ·rename_i ht
   simp only[ht]
   split at h
   ·rename_i n e ha
    simp only[ha]
    split at h
    ·rename_i hc
     simp only[Option.bind_eq_some_iff]at h
     obtain⟨y,hy,h1⟩:=h
     have h1:=lB h1
     simp only[Prod.mk.injEq]at h1;obtain⟨rfl,rfl,rfl⟩:=h1
     refine⟨hc.1,hc.2.1,hc.2.2, ?_⟩
     rcases vU hy with⟨_,_,rfl,h2,rfl⟩|⟨_,_,rfl,rfl⟩|⟨_,_,_,_,_,rfl,h2,rfl⟩
     ·exact⟨h2,hK⟩
     ·exact hK
     ·exact⟨h2,hK⟩
    ·cases h
   ·cases h
 ·cases h
theorem uF{t:TypeId}{x y:V}{f:Nat}(h:iN P o t x f=some y){K:V->Prop}(hK:K y):jX P o t x f K:=by
 unfold iN at h
 unfold jX
 split at h
 ·rename_i q hq
  simp only[hq]
  rcases vU h with⟨_,_,rfl,h2,rfl⟩|⟨_,_,rfl,rfl⟩|⟨_,_,_,_,_,rfl,h2,rfl⟩
  ·exact⟨h2,hK⟩
  ·exact hK
  ·exact⟨h2,hK⟩
 ·cases h
theorem JL{t:TypeId}{x:V}(h:Fj P t o x=some (v,Δ,rd))(hK:K v Δ rd):LV P t o x fun v rd=>K v [] rd:=by
 unfold Fj at h
 unfold LV
 split at h
 ·rename_i e hu
  simp only[hu]
  split at h
  ·rename_i es uN hl
   simp only[Option.some.injEq,Prod.mk.injEq]at h;obtain⟨rfl,rfl,rfl⟩:=h
   unfold rp at hl
   split at hl
   ·exact Lu
   ·exact Lu
   ·exact Lu
   ·split at hl
    ·rename_i ho
     split at hl
     ·rename_i hc;simp at hl;obtain⟨rfl,rfl⟩:=hl;simp only[ho];exact⟨hc,hK⟩
     ·cases hl
    ·rename_i ho
     split at hl
     ·rename_i hc;simp at hl;obtain⟨rfl,rfl⟩:=hl;simp only[ho];exact⟨hc,hK⟩
     ·cases hl
    ·cases hl
   ·cases hl
  ·cases h
 ·rename_i hu
  simp only[hu]
  split at h
  ·have h1:=lB h;simp only[Prod.mk.injEq]at h1;obtain⟨rfl,rfl,rfl⟩:=h1;exact hK
  ·cases h
 ·rename_i hu
  simp only[hu]
  have h1:=lB h;simp only[Prod.mk.injEq]at h1;obtain⟨rfl,rfl,rfl⟩:=h1;exact hK
 ·cases h
theorem Fo{t:TypeId}{x:V}(h:nL P o t x=some (v,Δ,rd))(hK:K v Δ rd):Cb P o t x fun v rd=>K v [] rd:=by
 unfold nL at h
 unfold Cb
 split at h
 ·split at h
  ·rename_i ho
   split at h
   ·rename_i hg
    exact abH
   ·cases h
  ·cases h
 ·split at h
  ·rename_i hg
   simp only[Option.some.injEq,Prod.mk.injEq]at h;obtain⟨rfl,rfl,rfl⟩:=h
   exact⟨_,hg,hK⟩
  ·cases h
 ·split at h
  ·rename_i ho
   split at h
   ·rename_i hc
    split at h
    ·rename_i e he
     split at h
     ·rename_i hg
      simp only[Option.some.injEq,Prod.mk.injEq]at h;obtain⟨rfl,rfl,rfl⟩:=h
      simp only[ho];exact⟨hc.1,hc.2,e,he,_,hg,hK⟩
     ·cases h
    ·cases h
   ·cases h
  ·cases h
 ·cases h
theorem CO{t:TypeId}{x y:V}(h:sS P o t x y=some (v,Δ,rd))(hK:K v Δ rd):vz P o t x y fun Δ rd=>K (.bW []) Δ rd:=by
 unfold sS at h
 unfold vz
 split at h
 ·split at h
  ·rename_i ho
   split at h
   ·rename_i hg
    exact abH
   ·cases h
  ·cases h
 ·split at h
  ·rename_i ho
   split at h
   ·rename_i hc
    split at h
    ·rename_i e z he hz
     split at h
     ·rename_i hl
      split at h
      ·rename_i e' hp
       simp only[Option.some.injEq,Prod.mk.injEq]at h;obtain⟨rfl,rfl,rfl⟩:=h
       simp only[ho]
       exact⟨hc.1,hc.2,e,he,z,hz,hl.1,hl.2.1,hl.2.2,e',hp,hK⟩
      ·cases h
     ·cases h
    ·cases h
   ·cases h
  ·cases h
 ·cases h
theorem sU{t:TypeId}{len:Nat}{parts:List (Nat×V)}(h:gH P o fr t len parts=some (v,Δ,rd))(hK:K v Δ rd):jc P o fr t len parts K:=by
 unfold gH at h
 unfold jc
 split at h
 ·rename_i e ht
  simp only[ht]
  split at h
  ·rename_i hc
   simp only[Option.some.injEq,Prod.mk.injEq]at h;obtain⟨rfl,rfl,rfl⟩:=h
   exact .inl ⟨hc.1,by simpa using hc.2.1,hc.2.2,hK⟩
  split at h
  ·rename_i hc
   refine .inr ?_
   split at h
   ·rename_i ds hd
    split at h
    ·rename_i hw
     simp only[Option.some.injEq,Prod.mk.injEq]at h;obtain⟨rfl,rfl,rfl⟩:=h
     refine⟨hc.1,hc.2.1,hc.2.2.1,hc.2.2.2.1,hc.2.2.2.2,ds,hd,fun x hx=> ?_,hK⟩
     simpa using List.all_eq_true.1 hw x hx
    ·cases h
   ·cases h
  ·cases h
 ·cases h
theorem uG{t:TypeId}{l c:V}(h:mG P fr t l c=some (v,Δ,rd))(hK:K v Δ rd):jY P fr t l c fun v Δ=>K v Δ []:=by
 unfold mG at h
 unfold jY
 split at h
 ·rename_i e ht
  split at h
  ·split at h
   ·rename_i hc
    split at h
    ·rename_i x hx
     simp only[Option.some.injEq,Prod.mk.injEq]at h;obtain⟨rfl,rfl,rfl⟩:=h
     simp only[ht]
     exact⟨hc.1,hc.2.1,hc.2.2.1,hc.2.2.2.1,hc.2.2.2.2,x,hx,hK⟩
    ·cases h
   ·cases h
  ·cases h
 ·cases h
theorem AO{ts:Array TypeId}{x y:V}(h:rq P o fr ts x y=some (v,Δ,rd))(hK:K v Δ rd):qN P o fr ts x y K:=by
 unfold rq at h
 unfold qN
 split at h
 ·rename_i t t' xS
  simp only[xS]
  split at h
  ·rename_i htt
   refine⟨htt, ?_⟩
   split at h
   ·rename_i e new uN ht hl
    obtain⟨sv,rfl⟩:=Fk hl
    simp only[ht]
    split at h
    ·rename_i hc
     refine⟨new,sv,hc.1,hc.2.1,fun z hz=>by simpa using List.all_eq_true.1 hc.2.2 z hz, ?_⟩
     split at h
     ·split at h
      ·rename_i sN
       simp only[Option.some.injEq,Prod.mk.injEq]at h;obtain⟨rfl,rfl,rfl⟩:=h
       exact⟨sN.1,sN.2,hK⟩
      ·cases h
     ·split at h
      ·rename_i Ha
       refine⟨fun z hz=>by simpa using List.all_eq_true.1 Ha z hz, ?_⟩
       split at h
       ·rename_i hn
        simp only[Option.some.injEq,Prod.mk.injEq]at h;obtain⟨rfl,rfl,rfl⟩:=h
        rw[if_pos hn];exact hK
       ·rename_i hn
        split at h
        ·rename_i sN
         simp only[Option.some.injEq,Prod.mk.injEq]at h;obtain⟨rfl,rfl,rfl⟩:=h
         rw[if_neg hn];exact⟨sN.1,sN.2,hK⟩
        ·cases h
      ·cases h
     ·split at h
      ·rename_i ho
       split at h
       ·rename_i sN
        simp only[Option.some.injEq,Prod.mk.injEq]at h;obtain⟨rfl,rfl,rfl⟩:=h
        simp only[ho]
        exact⟨sN.1,sN.2.1,sN.2.2.1,sN.2.2.2.1,sN.2.2.2.2,hK⟩
       ·cases h
      ·cases h
     ·cases h
    ·cases h
   ·cases h
  ·cases h
 ·cases h
theorem vV{x y:V}(h:jI o x=some y){K:V->Prop}(hK:K y):lS o x K:=by
 unfold jI at h
 unfold lS
 split at h
 ·obtain⟨h2,rfl⟩:=sT h;exact⟨h2,hK⟩
 ·exact Lp
 ·exact Lp
 ·cases h
theorem Ms{op:UnOp}{x y:V}(h:unF op x=some y){K:V->Prop}(hK:K y):unV op x K:=by
 unfold unF at h
 unfold unV
 split at h
 ·injection h with h;subst h;simp only;rw[Int.zero_sub];exact hK
 ·exact Lp
 ·cases h
theorem Ai{m:Bool}{x y v:V}(h:rr m x y=some v){K:V->Prop}(hK:K v):oI m [x,y] K:=by
 unfold rr at h
 unfold oI
 split at h
 ·split at h
  ·exact Lr
  ·cases h
 ·cases h
theorem CP{op:Op}(h:gQ P s fr op=some (v,Δ,rd))(hK:K v Δ rd):Te P s fr op K:=by
 cases op<;>simp only[gQ]at h<;>simp only[Te]<;>try (cases h;done)
 case move x=>have h:=lB h;simp only[Prod.mk.injEq]at h;obtain⟨rfl,rfl,rfl⟩:=h;exact hK
 case assign x=>have h:=lB h;simp only[Prod.mk.injEq]at h;obtain⟨rfl,rfl,rfl⟩:=h;exact hK
 case pick c a b=>
  obtain⟨x,h1,h⟩:=jD h;simp only[Prod.mk.injEq]at h;obtain⟨rfl,rfl,rfl⟩:=h
  exact Fl h1 hK
 case alloc t=>
  split at h
  ·rename_i cs hz;simp only[Option.some.injEq,Prod.mk.injEq]at h;obtain⟨rfl,rfl,rfl⟩:=h;exact⟨cs,hz,hK⟩
  ·cases h
 case box t x=>
  split at h
  ·rename_i cs hz;simp only[Option.some.injEq,Prod.mk.injEq]at h;obtain⟨rfl,rfl,rfl⟩:=h;exact⟨cs,hz,hK⟩
  ·cases h
 case build t parts=>
  obtain⟨x,h1,h⟩:=jD h;simp only[Prod.mk.injEq]at h;obtain⟨rfl,rfl,rfl⟩:=h
  unfold AM at h1
  split at h1
  ·rename_i z pl hz hp
   split at h1
   ·rename_i cs hc;injection h1 with h1;subst h1;exact⟨z,pl,cs,hz,hp,hc,hK⟩
   ·cases h1
  ·cases h1
 case buildSlice t len parts=>exact sU h hK
 case load t x=>exact Fo h hK
 case store t x y=>exact CO h hK
 case nilCheck x=>
  obtain⟨y,h1,h⟩:=jD h;simp only[Prod.mk.injEq]at h;obtain⟨rfl,rfl,rfl⟩:=h
  exact vV h1 hK
 case binOp op t x y yt=>
  unfold fO at h
  split at h
  ·rename_i z h1
   have h:=lB h;simp only[Prod.mk.injEq]at h;obtain⟨rfl,rfl,rfl⟩:=h
   exact .inl (JK h1 hK)
  ·right;simp only[h,dn];exact hK
 case unOp op t x=>
  obtain⟨z,h1,h⟩:=jD h;simp only[Prod.mk.injEq]at h;obtain⟨rfl,rfl,rfl⟩:=h
  unfold Jc at h1
  split at h1
  ·rename_i hx;injection h1 with h1;subst h1;exact .inr ⟨rfl,hx,hK⟩
  ·exact .inl (Ms h1 hK)
 case slice t x lo hi mx=>simp only[h,dn];exact hK
 case field t x f=>
  exact VT
 case typeAssert x xt t ok=>
  exact VT
 case makeMap t r=>
  cases r with
  |none=>simp only[h,dn];exact hK
  |some x=>cases h
 case lookup t m k ok=>simp only[h,dn];exact hK
 case mapUpdate t m k v=>simp only[h,dn];exact hK
 case insert t m k v=>simp only[h,dn];exact hK
 case index t x i=>
  exact VT
 case convert u t x=>
  split at h
  ·rename_i d k k' n hu hk hx
   have h:=lB h;simp only[Prod.mk.injEq]at h;obtain⟨rfl,rfl,rfl⟩:=h
   exact⟨by rw[hu];rfl,by simp only[hk,hx];exact hK⟩
  ·cases h
 case makeInterface t x=>
  obtain⟨z,h1,h⟩:=jD h;simp only[Prod.mk.injEq]at h;obtain⟨rfl,rfl,rfl⟩:=h
  obtain⟨h2,rfl⟩:=sT h1
  refine⟨?_, ?_⟩
  ·unfold mI at h2
   cases hd:P.underlying t with
   |none=>simp[hd]at h2
   |some d=>exact⟨d,rfl,by cases d<;>simp_all⟩
  ·split
   ·rename_i y hy;simp only[hy]at hK;exact hK
   ·rename_i hy
    split at hK
    ·rename_i y hy';exact absurd hy' (hy y)
    ·exact hK
 case makeFunc fn first cap=>have h:=lB h;simp only[Prod.mk.injEq]at h;obtain⟨rfl,rfl,rfl⟩:=h;exact hK
 case makeSlice t l c=>
  exact uG h hK
 case fieldAddr t x f=>
  obtain⟨z,h1,h⟩:=jD h;simp only[Prod.mk.injEq]at h;obtain⟨rfl,rfl,rfl⟩:=h
  exact uF h1 hK
 case indexAddr t x i=>
  exact uE h hK
 case extract x i=>
  split at h
  ·rename_i vs hv
   split at h
   ·rename_i u hu
    have h:=lB h;simp only[Prod.mk.injEq]at h;obtain⟨rfl,rfl,rfl⟩:=h
    simp only[hv];exact⟨_,hu,hK⟩
   ·cases h
  ·cases h
 case call c=>
  obtain⟨Me,args,ts⟩:=c
  cases Me<;>simp only at h|- <;>try (cases h;done)
  rename_i b
  unfold rv at h
  unfold vE
  split at h
  ·rename_i x ha
   simp only[ha]
   split at h
   ·rename_i t xS;exact⟨t,xS,JL h hK⟩
   ·cases h
  ·rename_i x y ha
   simp only[ha]
   split at h
   ·rename_i r hr
    simp only[Option.some.injEq]at h
    subst h
    exact .inl (by rw[hr];exact hK)
   ·exact .inr (AO h hK)
  ·rename_i x y ha
   exact abv
  ·rename_i x y ha
   exact abv
  ·rename_i x y z ha
   simp only[ha]
   obtain⟨v0,h1,h⟩:=jD h;simp only[Prod.mk.injEq]at h;obtain⟨rfl,rfl,rfl⟩:=h
   exact aaW
  ·rename_i x y ha
   simp only[ha,h,dn];exact hK
  ·rename_i x y ha
   simp only[ha]
   split at h
   ·rename_i t ht;exact⟨t,ht,by simp only[h,dn];exact hK⟩
   ·cases h
  ·rename_i x ha
   simp only[ha,h,dn];exact hK
  ·cases h
 case range t x=>simp only[h,dn];exact hK
 case next x str=>left;simp only[h,dn];exact hK
 case entry x=>simp only[h,dn];exact hK
end
end
section
def vW(P:Program)(g:FuncId)(ds:List D)(o o1 oa:Nat->ab)(K:V->(Nat->ab)->Prop)(X:V->(Nat->ab)->Prop):Prop:=
 ∃out,aX P g ds out/\((match out with| .ret rs=>K (jq rs) o1| .bN x=>X (.d x) o1)\/(out.flat=true/\match out with| .ret rs=>K (jq rs) o| .bN x=>X (.d x) o)\/(out.nG=true/\match out with| .ret rs=>K (jq rs) oa| .bN x=>X (.d x) oa))
def tS(P:Program)(g:FuncId)(args:List V)(o:Nat->ab)(nx:Nat)(K:V->(Nat->ab)->Nat->Prop)(X:V->(Nat->ab)->Nat->Prop):Prop:=pD P g args o nx K X
theorem pD.mono {P:Program}{g:FuncId}{args:List V}{o:Nat->ab}{nx:Nat}{K X K' X':V->(Nat->ab)->Nat->Prop}(hK:∀v o n,K v o n->K' v o n)(hX:∀v o n,X v o n->X' v o n)(h:pD P g args o nx K X):pD P g args o nx K' X':=
 h.imp (bQ.mono hK hX) (bQ.mono hK hX)
@[congr] theorem Tw {P:Program} {g g':FuncId} {ds ds':List D} {o o1 oa:Nat->ab} {K X} (h:g=g') (h':ds=ds'):vW P g ds o o1 oa K X=vW P g' ds' o o1 oa K X:=by subst h;subst h';rfl
@[congr] theorem Tx {P:Program} {g g':FuncId} {ct ab2:List V} {o:Nat->ab} {nx:Nat} {K X} (h:g=g') (h':ct=ab2):tS P g ct o nx K X=tS P g' ab2 o nx K X:=by subst h;subst h';rfl
def Ty(P:Program)(g:FuncId)(args:List V)(o:Nat->ab)(nx:Nat)(K X:V->(Nat->ab)->Nat->Prop):Prop:=
 (∃ds,cn o args=some ds/\vW P g ds o (put o (bG o (V.bg args))) (put o (sF o (V.bg args))) (fun v o'=>K v o' (nx+1)) (fun v o'=>X v o' (nx+1)))\/bQ P g args o nx K X
def KZ(P:Program)(s:S)(o:bZ)(X:V->S->Prop)(K:S->Prop):Prop:=
 match o.op with
 | .call c=>match c.callee with
   | .value f=>match s.ev f with
     | .func (.func g) first cap=>match cn s.o (first++c.args.toList.map s.ev++cap)with
       |some ds=>vW P g ds s.o (put s.o (bG s.o (V.bg (first++c.args.toList.map s.ev++cap)))) (put s.o (sF s.o (V.bg (first++c.args.toList.map s.ev++cap)))) (fun v o'=>K ⟨ba s.env o.dst v,o',s.nx+1⟩) (fun v o'=>X v ⟨s.env,o',s.nx+1⟩)\/
        tS P g (first++c.args.toList.map s.ev++cap) s.o s.nx (fun v o' nx'=>K ⟨ba s.env o.dst v,o',nx'⟩) (fun v o' nx'=>X v ⟨s.env,o',nx'⟩)
       |none=>tS P g (first++c.args.toList.map s.ev++cap) s.o s.nx (fun v o' nx'=>K ⟨ba s.env o.dst v,o',nx'⟩) (fun v o' nx'=>X v ⟨s.env,o',nx'⟩)
     | .kM id=>dQ P id (c.args.toList.map s.ev) s.o s.nx (fun v o' nx'=>K ⟨ba s.env o.dst v,o',nx'⟩) (fun v o' nx'=>X v ⟨s.env,o',nx'⟩)
     |_=>False
   | .invoke r m=>match vP P m (s.ev r)with
     |some (g,y)=>Ty P g (y::c.args.toList.map s.ev) s.o s.nx (fun v o' nx'=>K ⟨ba s.env o.dst v,o',nx'⟩) (fun v o' nx'=>X v ⟨s.env,o',nx'⟩)
     |none=>False
   |_=>match gQ P s s.nx o.op with
    |some (v,Δ,_)=>K ⟨ba s.env o.dst v,put s.o Δ,s.nx+1⟩
    |none=>False
 | .panic x=>match s.ev x with
   | .d (.iface t y)=>X (.d (.iface t y)) s
   | .iface t y=>X (.iface t y) s
   |_=>False
 | .next x str=>match pL s.o (s.ev x)with
   |some (id,l)=>str=false/\G3 id l fun v Δ _=>K ⟨ba s.env o.dst v,put s.o Δ,s.nx+1⟩
   |none=>match gQ P s s.nx o.op with
    |some (v,Δ,_)=>K ⟨ba s.env o.dst v,put s.o Δ,s.nx+1⟩
    |none=>False
 |op=>match gQ P s s.nx op with
  |some (v,Δ,_)=>K ⟨ba s.env o.dst v,put s.o Δ,s.nx+1⟩
  |none=>False
def qi(P:Program)(X:V->S->Prop)(K:S->Prop):List bZ->S->Prop
 |[],s=>K s
 |o::l,s=>match o.gd with
  |none=>KZ P s o X (qi P X K l)
  |some (d,want)=>match s.env d with
   | .d (.bool b)=>if b=want then KZ P s o X (qi P X K l)else qi P X K l ⟨ba s.env o.dst (.bW []),s.o,s.nx+1⟩
   | .bW []=>qi P X K l ⟨ba s.env o.dst (.bW []),s.o,s.nx+1⟩
   |_=>False
def Mt(b:Nat)(body:(fS->S->Prop)->S->Prop)(Q:fS->S->Prop)(s:S):Prop:=
 ∃ (J:Nat->S->Prop),(∃m s1,bO b s s1/\J m s1)/\∀m s0,J m s0->body (fun e s=>match e with| .normal=>∃m' s1,m'<m/\bO b s s1/\J m' s1|e=>Q e s) s0
@[congr] theorem Tz {b:Nat} {body Q} {s s':S} (h:s=s'):Mt b body Q s=Mt b body Q s':=by subst h;rfl
def rz(t:Bool)(A B:Prop):Prop:=(t=true->A)/\(t=false->B)
@[congr] theorem TA {t t':Bool} {A B:Prop} (h:t=t'):rz t A B=rz t' A B:=by subst h;rfl
@[simp] theorem vX (A B:Prop):rz true A B=A:=by simp[rz]
@[simp] theorem tT (A B:Prop):rz false A B=B:=by simp[rz]
section
variable {P:Program}{n b:Nat}
theorem Hm{s:S}{o:bZ}{o':Oper}{X X':V->S->Prop}{K K':S->Prop}(gC:o'.op=o.op)(df:o'.dst=o.dst)(hd:gX n o'.dst)(hK:∀s,K s->K' s)(hX:∀v s,X v s->X' v s)(h:KZ P s o X K):opW P n s o' X' K':=by
 refine⟨hd, ?_⟩
 rw[df,gC]
 unfold KZ at h
 have hs:∀ {op:Op},(match gQ P s s.nx op with|some (v,Δ,_)=>K ⟨ba s.env o.dst v,put s.o Δ,s.nx+1⟩|none=>False)->Te P s s.nx op fun v Δ _=>K' ⟨ba s.env o.dst v,put s.o Δ,s.nx+1⟩:=by
  intro op h
  split at h
  ·rename_i v Δ rd he;exact CP he (hK _ h)
  ·exact h.elim
 split at h
 ·rename_i c hc
  split at h
  ·rename_i f fC
   simp only[hc,fC]
   split at h
   ·rename_i g first cap hf
    unfold CD
    simp only[hf]
    unfold vO
    split at h
    ·rename_i ds fD
     rcases h with⟨out,hP,h|⟨qG,h⟩|⟨qG,h⟩⟩|h
     ·exact SV
     ·exact SM
     ·exact abL
     ·exact R5
    ·exact R5
   ·rename_i id hf
    unfold CD
    simp only[hf]
    exact dQ.mono (fun v o n h=>hK _ h) (fun v o n h=>hX _ _ h) h
   ·exact h.elim
  ·rename_i r m fC
   simp only[hc,fC]
   split at h
   ·rename_i g y hr
    simp only[hr]
    unfold vO
    rcases h with⟨ds,fD,out,hP,h|⟨qG,h⟩|⟨qG,h⟩⟩|h
    ·exact SV
    ·exact SM
    ·exact abL
    ·exact .inr (.inr (.inr (.inl (bQ.mono (fun v o n h=>hK _ h) (fun v o n h=>hX _ _ h) h))))
   ·exact h.elim
  ·rename_i fC hinv
   rw[hc]at h|-
   obtain⟨Me,args,ts⟩:=c
   cases Me with
   |value f=>exact absurd rfl (fC f)
   |invoke r m=>exact absurd rfl (hinv r m)
   |_=>exact hs h
 ·rename_i x hx
  simp only[hx]
  split at h
  ·rename_i hv;simp only[hv];exact hX _ _ h
  ·rename_i hv;simp only[hv];exact hX _ _ h
  ·exact h.elim
 ·rename_i x str hx
  rw[hx]at h|-
  split at h
  ·rename_i id l hl
   exact .inr ⟨h.1,id,l,hl,fun e=>hK _ (h.2.1 e),fun i k x e=>hK _ (h.2.2 i k x e)⟩
  ·exact hs h
 ·rename_i hc hp uz
  have h2:=hs h
  cases hh:o.op<;>first
   |exact absurd hh (hc _)
   |exact absurd hh (hp _)
   |exact absurd hh (uz _ _)
   |(rw[hh]at h2;exact h2)
theorem jJ{ops:Array Oper}{X X':V->S->Prop}{K K':S->Prop}(hK:∀s,K s->K' s)(hX:∀v s,X v s->X' v s):∀ (l:List Oper) (l':List bZ) (s:S),lO n ops l=some l'->qi P X K l' s->AD P n ops X' K' l s
 |[],l',s,h,hr=>by simp[lO]at h;subst h;exact hK _ hr
 |o::l,l',s,h,hr=>by
  simp only[lO]at h
  split at h
  ·rename_i x xs hx OY
   injection h with h;subst h
   unfold LR at hx
   split at hx
   ·rename_i hd
    have df:gX n o.dst:=by
     unfold ET at hd;unfold gX
     split at hd<;>simp_all
    simp only[AD,AB]
    cases hg:o.guard with
    |none=>
     simp only[hg]at hx
     injection hx with hx;subst hx
     exact Hm rfl rfl df (fun s hs=>jJ hK hX l xs s OY hs) hX hr
    |some p=>
     obtain⟨j,want⟩:=p
     simp only[hg]at hx
     cases TC:tH ops j with
     |none=>simp[TC]at hx
     |some d=>
      simp only[TC]at hx
      injection hx with hx;subst hx
      simp only
      simp only[qi]at hr
      split at hr
      ·rename_i t ht
       simp only[TC,ht]
       split at hr
       ·rename_i e
        exact⟨fun _=>Hm rfl rfl df (fun s hs=>jJ hK hX l xs s OY hs) hX hr,fun h=>absurd e h⟩
       ·rename_i e
        exact⟨fun h=>absurd h e,fun _=>⟨df,jJ hK hX l xs _ OY hr⟩⟩
      ·rename_i ht
       simp only[TC,ht]
       exact⟨df,jJ hK hX l xs _ OY hr⟩
      ·exact hr.elim
   ·cases hx
  ·cases h
end
end
section
mutual
def V.refs:V->List Nat
 | .ptr id _=>[id]| .osl id _=>[id]| .pe id _ _ _ _=>[id]| .yA id _ _=>[id]| .mp id=>[id]| .kM id=>[id]
 | .agg cs=>V.aL cs
 | .bW cs=>V.aL cs
 | .func _ a b=>V.aL a++V.aL b
 | .iface _ x=>x.refs
 |_=>[]
def V.aL:List V->List Nat
 |[]=>[]
 |v::vs=>v.refs++V.aL vs
end
mutual
theorem j8:∀ (v:V),∀id∈v.ids,id∈v.refs
 | .osl id _,j,h=>by simpa[V.ids,V.refs]using h
 | .agg cs,j,h=>by simp only[V.ids]at h;simp only[V.refs];exact mn cs j h
 | .iface _ x,j,h=>by simp only[V.ids]at h;simp only[V.refs];exact j8 x j h
 | .mp _,j,h=>by simpa[V.ids,V.refs]using h
 | .d _,_,h| .aw,_,h| .bW _,_,h| .ptr _ _,_,h| .pe _ _ _ _ _,_,h| .pp _ _,_,h| .func _ _ _,_,h| .ad,_,h| .pF _,_,h| .yA _ _ _,_,h| .fF,_,h| .kM _,_,h=>by simp[V.ids]at h
theorem mn:∀ (vs:List V),∀id∈V.bg vs,id∈V.aL vs
 |[],j,h=>by simp[V.bg]at h
 |v::vs,j,h=>by
  simp only[V.bg,V.aL,List.mem_append]at h|-
  exact h.imp (j8 v j) (mn vs j)
end
mutual
theorem dx{o o':Nat->ab}:∀ (v:V),(∀id∈v.refs,o' id=o id)->dM o' v=dM o v
 | .osl id ep,h=>by simp only[dM,h id (by simp[V.refs])]
 | .mp id,h=>by simp only[dM,h id (by simp[V.refs])]
 | .agg cs,h=>by simp only[dM,iO cs (by simpa[V.refs]using h)]
 | .iface t x,h=>by simp only[dM,dx x (by simpa[V.refs]using h)]
 | .d _,_| .aw,_| .bW _,_| .ptr _ _,_| .pe _ _ _ _ _,_| .pp _ _,_| .func _ _ _,_| .ad,_| .pF _,_| .yA _ _ _,_| .fF,_| .kM _,_=>by simp only[dM]
theorem iO{o o':Nat->ab}:∀ (vs:List V),(∀id∈V.aL vs,o' id=o id)->cn o' vs=cn o vs
 |[],_=>rfl
 |v::vs,h=>by
  simp only[cn,dx v (fun id ax=>h id (by simp[V.aL,ax])),iO vs (fun id ax=>h id (by simp[V.aL,ax]))]
end
theorem iI{o o':Nat->ab}{ids:List Nat}(h:∀id∈ids,o' id=o id):bG o' ids=bG o ids:=by
 rw[my,my]
 exact List.map_congr_left fun id ax=>by rw[h id ax]
def pC(s:S)(op:Op):List Nat:=
 match op with
 | .load _ x=>(s.ev x).refs
 | .nilCheck x=>(s.ev x).refs
 | .fieldAddr _ x _=>(s.ev x).refs
 | .indexAddr _ x _=>(s.ev x).refs
 | .store _ x v=>(s.ev x).refs++(s.ev v).refs
 | .buildSlice _ _ parts=>V.aL (parts.toList.map fun p=>s.ev p.2)
 | .binOp _ _ x y _=>(s.ev x).refs++(s.ev y).refs
 | .slice _ x _ _ _=>(s.ev x).refs
 | .lookup _ m k _=>(s.ev m).refs++(s.ev k).refs
 | .mapUpdate _ m k v=>(s.ev m).refs++((s.ev k).refs++(s.ev v).refs)
 | .insert _ m k v=>(s.ev m).refs++((s.ev k).refs++(s.ev v).refs)
 | .range _ x=>(s.ev x).refs
 | .next x _=>(s.ev x).refs
 | .entry x=>(s.ev x).refs
 | .call c=>match c.callee with
   | .builtin _=>V.aL (c.args.toList.map s.ev)
   | .value f=>match s.ev f with
     | .func _ first cap=>V.aL (first++c.args.toList.map s.ev++cap)
     |_=>[]
   |_=>[]
 |_=>[]
section
variable {P:Program}{s s':S}{fr:Nat}
theorem tU{o o':Nat->ab}(v:V)(h:∀id∈v.refs,o' id=o id):rp o' v=rp o v:=by
 cases v with
 |osl id ep=>simp only[rp,h id (by simp[V.refs])]
 |d x=>cases x<;>rfl
 |_=>rfl
theorem tV{o o':Nat->ab}(v:V)(q:Nat)(h:∀id∈v.refs,o' id=o id):pP o' v q=pP o v q:=by
 cases v<;>simp only[pP]<;>rw[h _ (by simp[V.refs])]
theorem Fq{o o':Nat->ab}(v:V)(h:∀id∈v.refs,o' id=o id):Ce o' v=Ce o v:=by
 have h1:fi o' v=fi o v:=by unfold fi;rw[dx v h]
 cases v<;>first|rfl|simp only[Ce,h1]
theorem AP{o o':Nat->ab}(v:V)(h:∀id∈v.refs,o' id=o id):sH o' v=sH o v:=by
 cases v with
 |mp id=>simp only[sH,h id (by simp[V.refs])]
 |d x=>cases x<;>rfl
 |_=>rfl
theorem AQ{o o':Nat->ab}(v:V)(h:∀id∈v.refs,o' id=o id):sI o' v=sI o v:=by
 cases v with
 |ptr id off=>simp only[sI,h id (by simp[V.refs])]
 |d x=>cases x<;>rfl
 |_=>rfl
theorem nM{o o':Nat->ab}(v:V)(h:∀id∈v.refs,o' id=o id):pJ o' v=pJ o v:=by
 cases v with
 |mp id=>simp only[pJ,h id (by simp[V.refs])]
 |d x=>cases x<;>rfl
 |_=>rfl
theorem CQ{o o':Nat->ab}(v:V)(h:∀id∈v.refs,o' id=o id):qQ o' v=qQ o v:=by
 cases v with
 |mp id=>simp only[qQ,h id (by simp[V.refs])]
 |d x=>cases x<;>rfl
 |_=>rfl
theorem CS{o o':Nat->ab}(v:V)(str:Bool)(h:∀id∈v.refs,o' id=o id):pK o' v str=pK o v str:=by
 cases v with
 |ptr id off=>cases off<;>simp only[pK,h id (by simp[V.refs])]
 |_=>rfl
theorem AR{o o':Nat->ab}(v:V)(h:∀id∈v.refs,o' id=o id):nz o' v=nz o v:=by
 cases v with
 |ptr id off=>cases off<;>simp only[nz,h id (by simp[V.refs])]
 |_=>rfl
theorem AS{o o':Nat->ab}{fr:Nat}{t:TypeId}{P:Program}(v:V)(h:∀id∈v.refs,o' id=o id):ny P o' fr t v=ny P o fr t v:=by
 unfold ny
 cases v with
 |mp id=>simp only[h id (by simp[V.refs])]
 |d x=>cases x<;>rfl
 |_=>rfl
theorem AU{o o':Nat->ab}(v:V)(h:∀id∈v.refs,o' id=o id):p9 o' v=p9 o v:=by
 cases v with
 |ptr id off=>simp only[p9,h id (by simp[V.refs])]
 |_=>rfl
theorem AV{o o':Nat->ab}(v:V)(h:∀id∈v.refs,o' id=o id):qa o' v=qa o v:=by
 cases v with
 |yA id off n=>simp only[qa,h id (by simp[V.refs])]
 |_=>rfl
theorem Fs(op:Op)(hv:∀x∈op.operands,s'.ev x=s.ev x)(ho:∀id∈pC s op,s'.o id=s.o id):gQ P s' fr op=gQ P s fr op:=by
 cases op<;>simp only[gQ]
 case move x=>rw[hv x (by simp[Op.operands])]
 case assign x=>rw[hv x (by simp[Op.operands])]
 case pick c a b=>rw[hv c (by simp[Op.operands]),hv a (by simp[Op.operands]),hv b (by simp[Op.operands])]
 case box t x=>rw[hv x (by simp[Op.operands])]
 case build t parts=>
  have:(parts.toList.map fun p=>(p.1,s'.ev p.2))=parts.toList.map fun p=>(p.1,s.ev p.2):=
   List.map_congr_left fun p hp=>by rw[hv p.2 (by simp only[Op.operands];simp;exact⟨p.1,by simpa using hp⟩)]
  rw[this]
 case buildSlice t len parts=>
  have:(parts.toList.map fun p=>(p.1,s'.ev p.2))=parts.toList.map fun p=>(p.1,s.ev p.2):=
   List.map_congr_left fun p hp=>by rw[hv p.2 (by simp only[Op.operands];simp;exact⟨p.1,by simpa using hp⟩)]
  rw[this]
  have e:(parts.toList.map fun p=>(p.1,s.ev p.2)).map (·.2)=parts.toList.map fun p=>s.ev p.2:=by simp[Function.comp_def]
  have h1:cn s'.o ((parts.toList.map fun p=>(p.1,s.ev p.2)).map (·.2))=cn s.o ((parts.toList.map fun p=>(p.1,s.ev p.2)).map (·.2)):=iO _ (by rw[e];exact ho)
  have h2:bG s'.o (V.bg ((parts.toList.map fun p=>(p.1,s.ev p.2)).map (·.2)))=bG s.o (V.bg ((parts.toList.map fun p=>(p.1,s.ev p.2)).map (·.2))):=
   iI fun id ax=>ho id (by rw[e]at ax;exact mn _ id ax)
  simp only[gH,h1,h2]
 case load t x=>
  rw[hv x (by simp[Op.operands])]
  cases hx:s.ev x<;>simp only[nL]<;>rw[ho _ (by simp[pC,hx,V.refs])]
 case store t x y=>
  rw[hv x (by simp[Op.operands]),hv y (by simp[Op.operands])]
  have h1:dM s'.o (s.ev y)=dM s.o (s.ev y):=dx _ fun id ax=>ho id pZ
  have h2:bG s'.o (s.ev y).ids=bG s.o (s.ev y).ids:=iI fun id ax=>ho id (by simp[pC,j8 _ _ ax])
  cases hx:s.ev x<;>simp only[sS]<;>rw[ho _ (by simp[pC,hx,V.refs])]
  simp only[h1,h2]
 case nilCheck x=>
  rw[hv x (by simp[Op.operands])]
  cases hx:s.ev x with
  |ptr id off=>simp only[jI];rw[ho _ (by simp[pC,hx,V.refs])]
  |func fn a b=>cases fn<;>rfl
  |_=>rfl
 case binOp op t x y yt=>
  rw[hv x (by simp[Op.operands]),hv y (by simp[Op.operands])]
  have h1:Ce s'.o (s.ev x)=Ce s.o (s.ev x):=Fq _ fun id ax=>ho id pZ
  have h2:∀a b,pn P s'.o a b (s.ev x) (s.ev y)=pn P s.o a b (s.ev x) (s.ev y):=fun a b=>by
   have h3:∀id∈(s.ev x).refs,s'.o id=s.o id:=fun id ax=>ho id pZ
   have h4:=AP (s.ev x) h3
   have h5:=AQ (s.ev x) h3
   unfold pn
   rw[h1,h4,h5]
  unfold fO sJ
  simp only[h2]
 case slice t x lo hi mx=>
  rw[hv x (by simp[Op.operands])]
  have e1:lo.map s'.ev=lo.map s.ev:=by cases lo<;>simp[hv,Op.operands]
  have e2:hi.map s'.ev=hi.map s.ev:=by cases hi<;>simp[hv,Op.operands]
  have e3:mx.map s'.ev=mx.map s.ev:=by cases mx<;>simp[hv,Op.operands]
  rw[e1,e2,e3]
  have h3:∀id∈(s.ev x).refs,s'.o id=s.o id:=fun id ax=>ho id pZ
  have h1:fi s'.o (s.ev x)=fi s.o (s.ev x):=by unfold fi;rw[dx _ h3]
  have h2:bG s'.o (s.ev x).ids=bG s.o (s.ev x).ids:=iI fun id ax=>h3 id (j8 _ _ ax)
  have h4:EX P s'.o t (s.ev x) (lo.map s.ev) (hi.map s.ev) (mx.map s.ev)=EX P s.o t (s.ev x) (lo.map s.ev) (hi.map s.ev) (mx.map s.ev):=by
   cases hx:s.ev x with
   |osl id ep=>simp only[EX,h3 id (by simp[hx,V.refs])]
   |_=>rfl
  unfold sG qO
  simp only[h1,h2,h4,AU _ h3]
 case field t x f=>rw[hv x (by simp[Op.operands])]
 case typeAssert x xt t ok=>rw[hv x (by simp[Op.operands])]
 case makeMap t r=>cases r<;>rfl
 case lookup t m k ok=>
  rw[hv m (by simp[Op.operands]),hv k (by simp[Op.operands])]
  have h3:∀id∈(s.ev m).refs,s'.o id=s.o id:=fun id ax=>ho id pZ
  have h1:dM s'.o (s.ev k)=dM s.o (s.ev k):=dx _ fun id ax=>ho id pZ
  unfold jE
  simp only[h1,CQ _ h3]
 case mapUpdate t m k v=>
  rw[hv m (by simp[Op.operands]),hv k (by simp[Op.operands]),hv v (by simp[Op.operands])]
  have h3:∀id∈(s.ev m).refs,s'.o id=s.o id:=fun id ax=>ho id pZ
  have h1:dM s'.o (s.ev k)=dM s.o (s.ev k):=dx _ fun id ax=>ho id pZ
  have h2:dM s'.o (s.ev v)=dM s.o (s.ev v):=dx _ fun id ax=>ho id pZ
  have h4:bG s'.o (s.ev v).ids=bG s.o (s.ev v).ids:=iI fun id ax=>ho id (by simp[pC,j8 _ _ ax])
  unfold gu
  simp only[h1,h2,h4,nM _ h3]
 case insert t m k v=>
  rw[hv m (by simp[Op.operands]),hv k (by simp[Op.operands]),hv v (by simp[Op.operands])]
  have h3:∀id∈(s.ev m).refs,s'.o id=s.o id:=fun id ax=>ho id pZ
  have h1:dM s'.o (s.ev k)=dM s.o (s.ev k):=dx _ fun id ax=>ho id pZ
  have h2:dM s'.o (s.ev v)=dM s.o (s.ev v):=dx _ fun id ax=>ho id pZ
  have h4:bG s'.o (s.ev v).ids=bG s.o (s.ev v).ids:=iI fun id ax=>ho id (by simp[pC,j8 _ _ ax])
  unfold gu
  simp only[h1,h2,h4,nM _ h3]
 case index t x i=>rw[hv x (by simp[Op.operands]),hv i (by simp[Op.operands])]
 case range t x=>
  rw[hv x (by simp[Op.operands])]
  exact AS _ fun id ax=>ho id pZ
 case next x str=>
  rw[hv x (by simp[Op.operands])]
  exact CS _ _ fun id ax=>ho id pZ
 case entry x=>
  rw[hv x (by simp[Op.operands])]
  exact AR _ fun id ax=>ho id pZ
 case unOp op t x=>rw[hv x (by simp[Op.operands])]
 case convert u t x=>rw[hv x (by simp[Op.operands])]
 case makeInterface t x=>rw[hv x (by simp[Op.operands])]
 case makeFunc fn first cap=>
  have h1:first.toList.map s'.ev=first.toList.map s.ev:=List.map_congr_left fun x hx=>hv x (by simp only[Op.operands];exact Array.mem_append.2 (.inl (Array.mem_toList_iff.1 hx)))
  have h2:cap.toList.map s'.ev=cap.toList.map s.ev:=List.map_congr_left fun x hx=>hv x (by simp only[Op.operands];exact Array.mem_append.2 (.inr (Array.mem_toList_iff.1 hx)))
  rw[h1,h2]
 case makeSlice t l c=>rw[hv l (by simp[Op.operands]),hv c (by simp[Op.operands])]
 case fieldAddr t x f=>
  rw[hv x (by simp[Op.operands])]
  simp only[iN]
  cases b7 P t f<;>simp only
  rw[tV _ _ (by simpa[pC]using ho)]
 case indexAddr t x i=>
  rw[hv x (by simp[Op.operands]),hv i (by simp[Op.operands])]
  have h1:∀q,pP s'.o (s.ev x) q=pP s.o (s.ev x) q:=fun q=>tV _ _ (by simpa[pC]using ho)
  simp only[iM,h1]
  cases hx:s.ev x with
  |osl id ep=>simp only[ho id (by simp[pC,hx,V.refs])]
  |d y=>cases y<;>rfl
  |_=>rfl
 case extract x i=>rw[hv x (by simp[Op.operands])]
 case call c=>
  obtain⟨Me,args,ts⟩:=c
  cases Me<;>simp only
  rename_i b
  unfold rv
  have hm:∀x∈args.toList,s'.ev x=s.ev x:=fun x hx=>hv x aaU
  have hr:∀x∈args.toList,∀id∈(s.ev x).refs,s'.o id=s.o id:=by
   intro x hx id ax
   refine ho id ?_
   simp only[pC]
   generalize args.toList=l at hx
   induction l with
   |nil=>cases hx
   |cons y l ih=>
    simp only[List.map_cons,V.aL,List.mem_append]
    rcases List.mem_cons.1 hx with rfl|hx
    ·exact .inl ax
    ·exact .inr (ih hx)
  split
  ·rename_i x ha
   rw[ha]at hm hr
   rw[hm x (by simp)]
   have h1:∀t,Fj P t s'.o (s.ev x)=Fj P t s.o (s.ev x):=fun t=>by simp only[Fj,tU _ (hr x (by simp))]
   simp only[h1]
  ·rename_i x y ha
   rw[ha]at hm hr
   rw[hm x (by simp),hm y (by simp)]
   simp only[rq,tU _ (hr y (by simp))]
   cases yE P fr ts (s.ev x) (s.ev y)with
   |some r=>rfl
   |none=>
   dsimp only
   cases hx:s.ev x with
   |osl id ep=>simp only[hr x (by simp) id (by simp[hx,V.refs])]
   |_=>rfl
  ·rename_i x y ha
   rw[ha]at hm
   rw[hm x (by simp),hm y (by simp)]
  ·rename_i x y ha
   rw[ha]at hm
   rw[hm x (by simp),hm y (by simp)]
  ·rename_i x y z h;rw[hm x (by rw[h];simp),hm y (by rw[h];simp),hm z (by rw[h];simp)]
  ·rename_i x y ha
   rw[ha]at hm hr
   rw[hm x (by simp),hm y (by simp)]
   have h1:fi s'.o (s.ev y)=fi s.o (s.ev y):=by unfold fi;rw[dx _ (hr y (by simp))]
   have h2:bG s'.o (s.ev y).ids=bG s.o (s.ev y).ids:=iI fun id ax=>hr y aE id (j8 _ _ ax)
   unfold yD
   simp only[h1,h2,AV _ (hr x (by simp))]
  ·rename_i x y ha
   rw[ha]at hm hr
   rw[hm x (by simp),hm y (by simp)]
   have h1:dM s'.o (s.ev y)=dM s.o (s.ev y):=dx _ (hr y aE)
   have h2:=nM _ (hr x aE)
   simp only[oJ,h1,h2]
  ·rename_i x ha
   rw[ha]at hm
   rw[hm x (by simp)]
  ·rfl
end
end
end Go.Proofs.YtlhemmpklhhgoaaGreat
