/-
  A PART OF THE PROOF. Conditions: none.
-/
import Derived.Test.YtnkamdiiakdkgaaGreatEt6
set_option linter.unusedSimpArgs false
set_option linter.unusedVariables false
namespace Go.Proofs.YtnkamdiiakdkgaaGreat
section
section
variable {P:Program}{M:Nat->Prop}{φ:Place}{H:Hp}{w w':World}{cf:Place}{H0:Hp}{w0:World}{n b:Nat}{s:S}{a:Act}{cx:Cx}{ro:Option Nat}{k:Nat}
theorem gL(hb:∀id,H0.us id->id<b)(sO:cx.rd=false->ro=none):∀ (c:Code) (Q:fL->S->Prop) (s:S) (φ:Place) (a:Act) (w:World),iS P n b cx.rd c Q s->bW M cf H0 w0 n cx φ s a w->c.sr P ro (Ek M cf H0 w0 n cx Q) a w:=by
 intro c
 induction c with
 |skip=>exact fun Q s φ a w h hs=>oz (k:=0) (wpIn_skip ⟨.normal,s,φ,h,hs,trivial⟩)
 |scope x ih=>exact fun Q s φ a w h hs=>wB (ih Q s φ a w h hs) (fun l a w ⟨xx,s',aC,hq,jQ,hm⟩=>by cases xx<;>exact hm)
 |label l=>exact fun Q s φ a w h hs=>oz (k:=0) (wpIn_label ⟨.normal,s,φ,h,hs,trivial⟩)
 |exit id=>exact fun Q s φ a w h hs=>AK ⟨.exit id,s,φ,h,hs,rfl⟩
 |ret=>exact fun Q s φ a w h hs=>El ⟨.ret,s,φ,h,hs,trivial⟩
 |goto l=>exact fun Q s φ a w h hs=>h.elim
 |refuse y=>exact fun Q s φ a w h hs=>h.elim
 |rangeFunc g ps x y=>
  intro Q s φ a w h hs
  obtain⟨h1,s',hle,h2⟩:=h
  rcases hle with rfl|hle
  ·exact wE hs h1 (sO h1) h2
  ·obtain⟨aC,jQ⟩:=CU hb hs hle
   exact wE jQ h1 (sO h1) h2
 |region id ops draw=>
  intro Q s φ a w h hs
  cases draw with
  |true=>exact oz (h M cf H0 w0 cx φ a w ro 0 hs)
  |false=>
   refine oz (k:=0) (wpIn_region_list (ox (K:=Q .normal) (X:=fun v s=>Q (.bB v) s) (fun s φ a w hk hs=>⟨.normal,s,φ,hk,hs,trivial⟩) (fun v s φ a w val hx hs hd=>⟨.bB v,s,φ,hx,hs,val,rfl,hd⟩) _ s φ a w h hs))
 |seq x y Mo Mp=>
  intro Q s φ a w h hs
  refine xY (gf (Mo _ s φ a w h hs) ?_)
  rintro e a' w' ⟨xx,s',aC,hq,jQ,hm⟩
  cases e<;>cases xx<;>first|(exact hm.elim)|skip
  ·exact Mp Q s' aC a' w' hq jQ
  ·subst hm;exact⟨_,s',aC,hq,jQ,rfl⟩
  ·exact Ia
  ·exact Ig
 |cond c x y Mo Mp=>
  intro Q s φ a w h hs
  simp only[iS]at h
  have hc:=mi (M:=M) (φ:=φ) (H:=s.H) (w:=w) s a hs.env c
  split at h
  ·rename_i t hv
   rw[hv]at hc
   simp only[V.den,D.den]at hc
   cases t with
   |true=>exact pD hc (Mo Q s φ a w (h.1 rfl) hs)
   |false=>exact pD hc (Mp Q s φ a w (h.2 rfl) hs)
  ·rename_i hv
   rw[hv]at hc
   obtain⟨t,hc⟩:=hc
   cases t with
   |true=>exact pD hc (Mo Q s φ a w h.1 hs)
   |false=>exact pD hc (Mp Q s φ a w h.2 hs)
  ·exact h.elim
 |block id x ih=>
  intro Q s φ a w h hs
  refine Gg (gf (ih _ s φ a w h hs) ?_)
  rintro e a' w' ⟨xx,s',aC,hq,jQ,hm⟩
  cases e<;>cases xx<;>first|(exact hm.elim)|skip
  ·exact⟨.normal,s',aC,hq,jQ,trivial⟩
  ·subst hm
   simp only[Exit.inBlock]
   simp only[eX]at hq
   split
   ·rename_i he;rw[if_pos he]at hq;exact⟨.normal,s',aC,hq,jQ,trivial⟩
   ·rename_i he;rw[if_neg he]at hq;exact⟨.exit _,s',aC,hq,jQ,rfl⟩
  ·exact Ia
  ·exact Ig
 |loop x ih=>
  intro Q s φ a w h hs
  obtain⟨J,⟨m0,s1,hle,hI⟩,oB⟩:=h
  obtain⟨iI,wF⟩:=CU hb hs hle
  refine x6 (fun m a w=>∃s φ,J m s/\bW M cf H0 w0 n cx φ s a w) ?_ m0 a w ⟨s1,iI,hI,wF⟩
  rintro m a w ⟨s,φ,hI,hs⟩
  refine gf (ih _ s φ a w (oB m s hI) hs) ?_
  rintro e a' w' ⟨xx,s',aC,hq,jQ,hm⟩
  cases e<;>cases xx<;>first|(exact hm.elim)|skip
  ·obtain⟨m2,s2,cm,aci,hI2⟩:=hq
   obtain⟨Gh,LA⟩:=CU hb jQ aci
   exact⟨m2,cm,s2,Gh,hI2,LA⟩
  ·subst hm;exact⟨_,s',aC,hq,jQ,rfl⟩
  ·exact Ia
  ·exact Ig
def I5(tmps:Array Value)(r:ResultVar):Sem Value:=
 match r with
 | .tmp t=>pure (tmps.getD t undef)
 | .cell p t=>do loadVar t (<- asAddr (tmps.getD p undef))
theorem sP(pE:aw M φ s.H w)(dO:∀i,V.den (ak M φ s.H) φ s.H w (s.env i) (a.tmps.getD i undef)):∀ (rs:List ResultVar) (vs:List V),lD P s rs=some vs->
 ∃vals,(rs.mapM (I5 a.tmps)).run P w= .ok vals w/\V.az (ak M φ s.H) φ s.H w vs vals
 |[],vs,h=>by simp[lD]at h;subst h;exact⟨[],aJ,rfl⟩
 | .tmp t::rs,vs,h=>by
   simp only[lD,Option.map_eq_some_iff]at h
   obtain⟨us,h1,rfl⟩:=h
   obtain⟨vals,h2,h3⟩:=sP pE dO rs us h1
   exact⟨a.tmps.getD t undef::vals,by simp only[List.mapM_cons,I5,Sem.run_bind,Sem.run_pure,Result.andThen_ok,h2],_,_,rfl,dO t,h3⟩
 | .cell p t::rs,vs,h=>by
   simp only[lD]at h
   split at h
   ·rename_i id off hv
    split at h
    ·rename_i cs ho
     simp only[Option.bind_eq_some_iff,Option.map_eq_some_iff]at h
     obtain⟨v,h0,us,h1,rfl⟩:=h
     obtain⟨vals,h2,h3⟩:=sP pE dO rs us h1
     have hx:=dO p
     rw[hv]at hx
     obtain⟨_,hu,hp⟩:=hx
     obtain⟨k,dT,eK⟩:=hp (by show(s.o id).b7=true;rw[ho];rfl)
     have aS:=pE.ok id
     have vT:s.H.o id= .row cs:=ho
     simp only[aM,vT]at aS
     obtain⟨b',dG,ty,g1,g2,g3,g4⟩:=aS
     rw[dT]at g1;simp at g1;subst g1
     obtain⟨val,h4,h5⟩:=pj (P:=P) h0 ⟨k,0,none⟩ dG.toList g3 g4 (fun j u hj=>pk g2 j u l7) rfl
     rw[add_plain,Nat.zero_add]at h4
     have h6:(loadVar t ⟨k,off,none⟩).run P w= .ok val w:=by simpa[Instr.loadAt,Instr.sureAddr]using h4
     exact⟨val::vals,by simp only[List.mapM_cons,I5,eK,asAddr,Sem.run_bind,Sem.run_pure,Result.andThen_ok,h6,h2],val,vals,rfl,h5,h3⟩
    ·cases h
   ·cases h
theorem mA{fn:Func}{tmps:Array Value}{vals:List Value}
 (h:(fn.results.toList.mapM (I5 tmps)).run P w= .ok vals w):
 (results fn tmps).run P w= .ok (if h:vals.toArray.size=1 then vals.toArray[0]else .tuple vals.toArray) w:=by
 have e:results fn tmps=(do let vs <- fn.results.mapM (I5 tmps);pure (if h:vs.size=1 then vs[0]else .tuple vs)):=by
  unfold results
  congr 2
 rw[e,Array.mapM_eq_mapM_toList]
 simp only[Sem.run_bind,Sem.run_map,h,Result.andThen_ok,Sem.run_pure]
theorem kT{us:Nat->Prop}(φ:Place)(hM:∀k,M k->k<w.heap.size):aw M φ ⟨fun _=> .no,us⟩ w where
 ok id:=by simp[aM]
 fresh _ _:=rfl
 apart i j k hi:=by simp[ab.live]at hi
 ours k:=by rintro⟨id,h,_⟩;simp[ab.live]at h
 zH:=hM
theorem Gi{vals:Array Value}{m i:Nat}:(vals++Array.replicate m undef).getD i undef=(vals[i]?).getD undef:=by
 simp only[Array.getD_eq_getD_getElem?,Array.getElem?_append]
 split
 ·rfl
 ·rw[Array.getElem?_eq_none (xs:=vals) (by omega)]
  simp only[Array.getElem?_replicate]
  split<;>rfl
structure x7 (M:Nat->Prop) (cf:Place) (H0:Hp) (w0:World) (φ:Place) (s:S) (tmps:Array Value) (w:World):Prop where
 heap:aw M φ s.H w
 tr:Trans cf H0 w0 φ s.H w
 env:∀i,V.den (ak M φ s.H) φ s.H w (s.env i) (tmps.getD i undef)
theorem Gj{tmps:Array Value}(hs:x7 M cf H0 w0 φ s tmps w){r:Nat}(h1:w0.heap.size<=r)(h2:w.heap[r]? =some (.deferred (some [])))(h3: ¬cw φ s.H r):
 x7 M cf H0 w0 φ s tmps {w with heap:=w.heap.setIfInBounds r (.deferred none)}:=by
 have jY:∀b,b≠r->(w.heap.setIfInBounds r (.deferred none))[b]? =w.heap[b]? :=fun b hb=>(MapKept.heap_set h2).2 b hb
 have zJ:∀b,cS w b-> ¬ak M φ s.H b->(w.heap.setIfInBounds r (.deferred none))[b]? =w.heap[b]? /\ ¬ak M φ s.H b:=by
  intro b hc hn
  refine⟨jY b fun e=> ?_,hn⟩
  subst e
  rcases hc with⟨cs,ty,fz,hc⟩|⟨es,clock,hc⟩
  ·rw[h2]at hc;cases hc
  ·rw[h2]at hc;cases hc
 refine⟨⟨fun id=> ?_,hs.heap.fresh,hs.heap.apart,fun b hb=>⟨(hs.heap.ours b hb).1,by simpa using(hs.heap.ours b hb).2⟩,fun b hb=>by simpa using hs.heap.zH b hb⟩,⟨⟨hs.tr.keep.os,hs.tr.keep.tape,hs.tr.keep.output,by simpa using hs.tr.keep.size,fun j hj hm=> ?_⟩,hs.tr.grow,hs.tr.rel⟩,fun i=>V.kM zJ (dH.refl _ _) _ _ (hs.env i)⟩
 ·exact aM.Af zJ (dH.refl _ _) rfl rfl (fun hl b hb=>jY b fun e=>h3 ⟨id,hl,e ▸ hb⟩) (hs.heap.ok id)
 ·rw[jY j (by omega)];exact hs.tr.keep.block j hj hm
theorem gh{fn:Func}{R:Ending->World->Prop}{u:FrameMode}(hu:u≠ .run){tmps tb:Array Value}{ds:List Deferred}(hR:∀w,x7 M cf H0 w0 φ s tb w->LeavesInM (dy none) k P fn tmps R ds u w):
 ∀ (ms:List Nat) (w:World),ms.Nodup->(∀r∈ms,w0.heap.size<=r/\w.heap[r]? =some (.deferred (some []))/\ ¬cw φ s.H r)->x7 M cf H0 w0 φ s tb w->LeavesInM (dy none) k P fn tmps R (ms.map mark++ds) u w
 |[],w,_,_,hs=>hR w hs
 |r::ms,w,hn,hm,hs=>by
  obtain⟨h1,h2,h3⟩:=hm r aJ
  obtain⟨O6,ID⟩:=List.nodup_cons.1 hn
  refine⟨hu, .inl ⟨r,{w with heap:=w.heap.setIfInBounds r (.deferred none)},rfl, ?_,gh hu hR ms _ ID (fun r' xS=> ?_) (Gj hs h1 h2 h3)⟩⟩
  ·simp[Instr.takeDeferred,getObj,setObj,Sem.run,h2,Result.andThen]
  ·obtain⟨g1,g2,g3⟩:=hm r' (by simp[xS])
   exact⟨g1,((MapKept.heap_set h2).2 r' (fun e=>O6 (e ▸ xS))).trans g2,g3⟩
theorem bW.toB (hs:bW M cf H0 w0 n cx φ s a w):x7 M cf H0 w0 φ s a.tmps w:=⟨hs.heap,hs.tr,hs.env⟩
def lF(P:Program)(rs:List ResultVar)(K X:V->(Nat->ab)->Nat->Prop)(e:fL)(s:S):Prop:=
 match e with
 | .normal| .ret=>match lD P s rs with
   |some [v]=>K v s.o s.nx
   |some vs=>K (.bT vs) s.o s.nx
   |none=>False
 | .bB v=>X v s.o s.nx
 | .exit _=>False
theorem AM{P:Program}{rs:List ResultVar}{K X:V->(Nat->ab)->Nat->Prop}{s:S}(h:lF P rs K X .ret s):∃vs,lD P s rs=some vs/\K (match vs with|[v]=>v|vs=> .bT vs) s.o s.nx:=by
 unfold lF at h
 simp only at h
 split at h
 ·rename_i v h1;exact⟨[v],h1,h⟩
 ·rename_i vs h1 h2
  refine⟨vs,h2, ?_⟩
  split
  ·exact absurd rfl (h1 _)
  ·exact h
 ·exact h.elim
theorem AO:∀ {vs:List V} {vals:List Value},V.az (ak M φ H) φ H w vs vals->V.den (ak M φ H) φ H w (match vs with|[v]=>v|vs=> .bT vs) (if h:vals.toArray.size=1 then vals.toArray[0]else .tuple vals.toArray)
 |[],vals,h=>by simp only[V.az]at h;subst h;exact⟨#[],rfl,rfl⟩
 |[v],vals,h=>by obtain⟨u,us,rfl,h1,h2⟩:=h;simp only[V.az]at h2;subst h2;exact h1
 |v::y::l,vals,h=>by
  have h':=h
  obtain⟨u,us,rfl,h1,u2,us2,rfl,h2⟩:=h
  exact⟨(u::u2::us2).toArray,aJ,by simpa using h'⟩
theorem z7{vals:Array Value}{m:Nat}{vs:List V}(hd:V.az (ak M φ H) φ H w vs vals.toList)(i:Nat):V.den (ak M φ H) φ H w (cA vs i) ((vals++Array.replicate m undef).getD i undef):=by
 have hlen:=V.ax _ _ hd
 simp only[cA,Gi]
 cases hx:vs[i]? with
 |none=>
  have:vals[i]? =none:=by
   rw[List.getElem?_eq_none_iff]at hx
   apply Array.getElem?_eq_none
   simp at hlen;omega
  simp only[List.getD_eq_getElem?_getD,hx,this]
  exact⟨#[],rfl,rfl⟩
 |some v=>
  obtain⟨u,hu,L6⟩:=V.dm _ _ _ _ hd hx
  have zR:vals[i]? =some u:=by simpa using hu
  simp only[List.getD_eq_getElem?_getD,hx,zR,Option.getD_some]
  exact L6
theorem mB{f:FuncId}{fn:Func}{c:Code}{args:Array Value}{w:World}{R:Ending->World->Prop}(hf:P.funcs[f]? =some fn)(hb:fn.body=some c)
 (h:c.sr P none (bodyPostM (dy none) k P fn R) {tmps:=args++Array.replicate (fn.ntmps - args.size) undef,defers:=[]} w):CallsIn (dy none) k P f args w R:=by
 have cm:f<P.funcs.size:=(Array.getElem?_eq_some_iff.1 hf).1
 refine⟨trivial,fun cs hr=> ?_⟩
 let b:Frame:={(default:Frame)with fn:=f,kind:= .normal,roundOf:=none}
 have lE:Frame.enter P f args .normal=b.atR {tmps:=args++Array.replicate (fn.ntmps - args.size) undef,defers:=[]} [.code c]:=by
  simp[Frame.enter,Frame.atR,hf,hb,b]
 obtain⟨e,a',w',hq,cV⟩:=h b [] cs rfl cm
 rw[<- lE]at cV
 cases e with
 |normal=>
  obtain⟨e',Rx,fr',hR,hs,Hy,hl⟩:=leaves_stepsInM a'.defers .returning w' {b.atR a' []with mode:= .returning} cs rfl rfl rfl hf rfl (trivial:(dy none).fn f) hr hq
  exact⟨e',Rx,fr',hR,ComesIn.of_steps (StepsIn.trans cV (.one (fenced_calm (n:=0) (fr:=b.atR a' []) trivial fZ rfl) (stepR_end rfl))) hs,Hy,hl⟩
 |ret=>
  obtain⟨todo,Om⟩:=cV.1 rfl
  obtain⟨e',Rx,fr',hR,hs,Hy,hl⟩:=leaves_stepsInM a'.defers .returning w' {b.atR a' todo with mode:= .returning} cs rfl rfl rfl hf rfl (trivial:(dy none).fn f) hr hq
  exact Ol
 |panic chain=>
  obtain⟨todo,Om⟩:=cV
  obtain⟨e',Rx,fr',hR,hs,Hy,hl⟩:=leaves_stepsInM a'.defers (.panicking chain) w' {b.atR a' todo with mode:= .panicking chain} cs rfl rfl rfl hf rfl (trivial:(dy none).fn f) hr hq
  exact Ol
 |exit id=>exact hq.elim
 |goto l=>exact hq.elim
 |outgrown=>exact⟨.outgrown,w',b,hq,cV.resolve_left (by simp[b]),rfl,trivial⟩
def CW(P:Program)(l:Nat)(R:Ending->World->Prop):Exit->Act->World->Prop
 | .normal,_,w=>∃v w',(Instr.endRound l none).run P w= .ok v w'/\R (.returned v) w'
 | .ret,_,w=>∃v w',(Instr.endRound l (some .ret)).run P w= .ok v w'/\R (.returned v) w'
 | .exit id,_,w=>∃v w',(Instr.endRound l (some (.exit id))).run P w= .ok v w'/\R (.returned v) w'
 | .goto _,_,_=>False
 | .panic chain,a,w=>a.defers=[]/\R (.panicked chain) w
 | .outgrown,_,_=>False
theorem tN{l:Nat}{f:FuncId}{tmps:Array Value}{assign body:Code}{w:World}{R:Ending->World->Prop}(hf:f<P.funcs.size)
 (h:assign.sr P (some l) (Exit.then (fun nE jk=>∃qJ,(Instr.beginRound l).run P jk= .ok () qJ/\body.sr P (some l) (CW P l R) nE qJ) (fun e a w=>match e with| .panic chain=>a.defers=[]/\R (.panicked chain) w|_=>False))
  {tmps:=tmps,defers:=[]} w):
 RoundIn Fence.wide n P l f tmps assign body w R:=by
 refine⟨trivial,fun c cs hr=> ?_⟩
 let b:Frame:={(default:Frame)with fn:=f,kind:= .normal,roundOf:=some l}
 have Sc:Frame.round l f tmps assign body .normal=b.atR {tmps:=tmps,defers:=[]} [.code assign, .beginRound, .code body]:=by
  simp[Frame.round,Frame.atR,b]
 have calm:∀ (m:Machine),m.fenced P Fence.wide:=fun m=>fenced_wide P m
 have bB:∀ {a:Act} {w:World} {todo:List Item} {chain:List PanicEntry},a.defers=[]->step P (lone {b.atR a todo with mode:= .panicking chain} (c::cs) w)= .next (lone (c.raise chain) cs w):=by
  intro a w todo chain hd
  exact step_leave_panicked (fr:={b.atR a todo with mode:= .panicking chain}) ⟨rfl,hd,P.funcs[f],by show P.funcs[f]? =_;simp[hf]⟩
 obtain⟨e,nE,jk,hq,cV⟩:=h b [.beginRound, .code body] (c::cs) rfl hf
 rw[<- Sc]at cV
 cases e with
 |normal=>
  obtain⟨qJ,hbr,pF⟩:=hq
  have s1:StepsIn (Machine.fenced P Fence.wide) P (lone (b.atR nE [.beginRound, .code body]) (c::cs) jk) (lone (b.atR nE [.code body]) (c::cs) qJ):= .one (calm _) (stepR_beginRound rfl hbr)
  obtain⟨R9,Yk,CS,pC,j7⟩:=pF b [] (c::cs) rfl hf
  have cV:StepsIn (Machine.fenced P Fence.wide) P _ _:=cV
  cases R9 with
  |normal=>
   obtain⟨v,ss,cu,hR⟩:=pC
   have j7:StepsIn (Machine.fenced P Fence.wide) P _ _:=j7
   exact⟨.returned v,ss,hR,(StepsIn.trans cV s1).trans (StepsIn.trans j7 (.one (calm _) (stepR_round_end rfl rfl cu)))⟩
  |ret=>
   obtain⟨v,ss,cu,hR⟩:=pC
   obtain⟨k₁,hs⟩:=j7.2 rfl
   have hs:StepsIn (Machine.fenced P Fence.wide) P _ _:=hs
   exact⟨.returned v,ss,hR,(StepsIn.trans cV s1).trans (StepsIn.trans hs (.one (calm _) (stepR_round_ret rfl rfl cu)))⟩
  |exit id=>
   obtain⟨v,ss,cu,hR⟩:=pC
   obtain⟨k₁,hk,hs⟩:=j7.2 rfl rfl
   have hs:StepsIn (Machine.fenced P Fence.wide) P _ _:=hs
   exact⟨.returned v,ss,hR,(StepsIn.trans cV s1).trans (StepsIn.trans hs (.one (calm _) (stepR_round_exit rfl rfl hk cu)))⟩
  |goto t=>exact pC.elim
  |panic chain=>
   obtain⟨todo,hs⟩:=j7
   have hs:StepsIn (Machine.fenced P Fence.wide) P _ _:=hs
   exact⟨.panicked chain,CS,pC.2,(StepsIn.trans cV s1).trans (StepsIn.trans hs (.one (calm _) (bB pC.1)))⟩
  |outgrown=>exact pC.elim
 |exit id=>exact hq.elim
 |goto t=>exact hq.elim
 |ret=>exact hq.elim
 |panic chain=>
  obtain⟨todo,hs⟩:=cV
  have hs:StepsIn (Machine.fenced P Fence.wide) P _ _:=hs
  exact⟨.panicked chain,jk,hq.2,StepsIn.trans hs (.one (calm _) (bB hq.1))⟩
 |outgrown=>exact hq.elim
theorem cX.Eo {f:FuncId}{fn:Func}{c:Code}{args:List V}{o:Nat->ab}{nx:Nat}{K X:V->(Nat->ab)->Nat->Prop}(hf:P.funcs[f]? =some fn)(hn:(fn.name== "runtime.NumGoroutine")=false)(pF:fn.body=some c)(hl:args.length<=fn.ntmps)
 (h:iS P fn.ntmps nx false c (lF P fn.results.toList K X) ⟨cA args,o,nx⟩):cX P f args o nx K X:=by
 refine⟨⟨fn,hf,hn,by rw[pF];rfl⟩,fun M φ w vals hH hd=> ?_⟩
 have hlen:=V.ax _ _ hd
 let s0:S:=⟨cA args,o,nx⟩
 let a0:Act:={tmps:=vals++Array.replicate (fn.ntmps - vals.size) undef,defers:=[]}
 have iq:bW M φ (hp o nx) w fn.ntmps ⟨[],false⟩ φ s0 a0 w:=by
  exact XL
 refine AF (ro:=none) (k:=0) (mB hf pF (gf (gL (P:=P) (H0:=hp o nx) (b:=nx) (cx:=⟨[],false⟩) (ro:=none) (fun id hu=>hu) (fun _=>rfl) c _ s0 φ a0 w h iq) ?_))
 rintro e a w' ⟨x,s,aC,hq,hs,hm⟩
 obtain⟨ms,g1,g2,g3,g4⟩:=hs.defers
 rw[List.append_nil]at g1
 have done:(x= .normal\/x= .ret)->LeavesInM (dy none) 0 P fn a.tmps (mq M φ (hp o nx) w K X) a.defers .returning w':=by
  intro hx
  have hq':lF P fn.results.toList K X .ret s:=by rcases hx with rfl|rfl<;>exact hq
  obtain⟨vs,h1,h2⟩:=AM hq'
  rw[g1]
  have:=gh (P:=P) (k:=0) (fn:=fn) (R:=mq M φ (hp o nx) w K X) (u:= .returning) aJ (ds:=[]) (fun w2 hb=>by
   obtain⟨vals,h3,h4⟩:=sP (P:=P) (a:=a) hb.heap hb.env _ _ h1
   exact⟨_,mA h3,aC,s.o,s.nx,_,hb.heap,hb.tr,AO h4,h2⟩) ms w' g2 g4 hs.toB
  rwa [List.append_nil]at this
 cases e<;>cases x<;>first|(exact hm.elim)|skip
 ·exact done (.inl rfl)
 ·exact hq.elim
 ·exact done (.inr rfl)
 ·rename_i v
  obtain⟨val,rfl,hd'⟩:=hm
  show LeavesInM (dy none) 0 P fn a.tmps (mq M φ (hp o nx) w K X) a.defers _ w'
  rw[g1]
  have Sc:x7 M φ (hp o nx) w aC ⟨fun i=>if i=0 then v else .aa,s.o,s.nx⟩ #[val] w':=⟨hs.heap,hs.tr,fun i=>by
   by_cases hi:i=0
   ·subst hi;exact hd'
   ·simp only[hi,if_false];trivial⟩
  have:=gh (P:=P) (k:=0) (fn:=fn) (s:=⟨fun i=>if i=0 then v else .aa,s.o,s.nx⟩) (tmps:=a.tmps) (tb:=#[val]) (cf:=φ) (H0:=hp o nx) (w0:=w) (R:=mq M φ (hp o nx) w K X) (u:= .panicking [{v:=val,recovered:=false}]) aJ (ds:=[]) (fun w2 hb=>by
   have h0:=hb.env 0
   exact⟨aC,s.o,s.nx,v,hb.heap,hb.tr,val,rfl,h0,hq⟩) ms w' g2 g4 Sc
  rwa [List.append_nil]at this
theorem aV.mC {f:FuncId}{ds:List D}{out:R}(h:cX P f (ds.map .d) (fun _=> .no) 0 (fun v o _=>∃vs rs,v=(match vs with|[v]=>v|vs=> .bT vs)/\bU o vs=some rs/\out= .ret rs) (fun v o _=>∃x,dC o v=some x/\out= .bB x)):aV P f ds out:=by
 refine⟨h.1,fun M w vals hM hd=> ?_⟩
 let cf:Place:=fun _=> .nilFunc
 have vB:∀b, ¬cw cf (hp (fun _=> .no) 0) b:=by rintro b ⟨id,hl,_⟩;simp[hp,ab.live]at hl
 refine(h.2 M cf w vals (kT cf hM) ((V.b8 _ _).2 (D.aN (w:=w) (w':=w) (B:=M) (fun b _ hB=>⟨rfl,fun h=>h.elim hB (vB b)⟩) _ _ hd))).mono ?_
 rintro e w' ⟨aC,o',nx',v,k1,k2,k3⟩
 have rI:dx (fun _=>False) w w':=⟨k2.keep.os,k2.keep.tape,k2.keep.output,k2.keep.size,fun k hk _=>k2.keep.block k hk (vB k)⟩
 have fin:∀ (vs:List V) (xs:List D) (vals:List Value),bU o' vs=some xs->V.az (ak M aC (hp o' nx')) aC (hp o' nx') w' vs vals->D.az M w' xs vals:=by
  intro vs xs vals h1 h2
  obtain⟨f1,f2,f3,f4,f5⟩:=cF k1 (V.bc vs) (cK vs _ h2)
  have h3:=c0 f1 vs xs vals f3 h1 (V.aN f2 _ _ h2)
  exact D.aN (w:=w') (w':=w') (fun k _ hB=>⟨rfl,fun hM=>hB (.inl hM)⟩) xs vals h3
 refine⟨rI, ?_⟩
 cases e with
 |outgrown=>exact k3.elim
 |panicked ch=>
  obtain⟨val,rfl,g1,x,g2,rfl⟩:=k3
  have:=fin [v] [x] [val] (by simp[bU,g2]) ⟨val,[],rfl,g1,rfl⟩
  obtain⟨u,us,he,h2,_⟩:=this
  simp at he;obtain⟨rfl,rfl⟩:=he
  exact⟨val,rfl,h2⟩
 |returned val=>
  obtain⟨g1,vs,rs,rfl,g2,rfl⟩:=k3
  match vs,g1,g2 with
  |[],g1,g2=>
   obtain⟨arr,rfl,hv⟩:=g1
   simp only[bU,Option.some.injEq]at g2;subst g2
   exact⟨arr,rfl,hv⟩
  |[v],g1,g2=>
   have:=fin [v] rs [val] g2 ⟨val,[],rfl,g1,rfl⟩
   cases rs with
   |nil=>cases this
   |cons x l=>
    obtain⟨u,us,he,h2,h3⟩:=this
    simp at he;obtain⟨rfl,rfl⟩:=he
    cases l with
    |nil=>exact h2
    |cons y l=>obtain⟨_,_,h,_⟩:=h3;cases h
  |v::v2::l,g1,g2=>
   obtain⟨arr,rfl,h⟩:=g1
   have:=fin (v::v2::l) rs arr.toList g2 h
   have hl:=D.ax _ _ this
   have Vi:=V.ax _ _ h
   match rs,hl,this with
   |[],hl,_=>exact DY
   |[x],hl,_=>exact DY
   |x::y::l,_,this=>exact⟨arr,rfl,this⟩
theorem Gk{rs:List ResultVar}{out:R}(e:fL)(s:S)(h:AE P rs out e s):
 lF P rs (fun v o _=>∃vs rs,v=(match vs with|[v]=>v|vs=> .bT vs)/\bU o vs=some rs/\out= .ret rs) (fun v o _=>∃x,dC o v=some x/\out= .bB x) e s:=by
 have ret:AE P rs out .ret s->lF P rs (fun v o _=>∃vs rs,v=(match vs with|[v]=>v|vs=> .bT vs)/\bU o vs=some rs/\out= .ret rs) (fun v o _=>∃x,dC o v=some x/\out= .bB x) .ret s:=by
  intro h
  obtain⟨vs,xs,h1,h2,h3⟩:=IY h
  simp only[lF,h1]
  match vs,h2 with
  |[],h2=>exact⟨[],xs,rfl,h2,h3⟩
  |[v],h2=>exact⟨[v],xs,rfl,h2,h3⟩
  |v::v2::l,h2=>exact⟨v::v2::l,xs,rfl,h2,h3⟩
 cases e with
 |normal=>exact ret h
 |ret=>exact ret h
 |exit id=>exact h.elim
 |bB v=>exact IZ h
end
end
section
def I6{α:Type}(c:Bool)(x:α):Option α:=if c=true then some x else none
def one(v:V):Option fy:=some (v,[],[])
def AP(op:BinOp)(k:IntKind)(a b:Int):Option V:=
 match op with
 | .add=>some (.d (.int k (k.wrap (a+b))))
 | .sub=>some (.d (.int k (k.wrap (a - b))))
 | .mul=>some (.d (.int k (k.wrap (a*b))))
 | .quo=>if b=0 then none else some (.d (.int k (k.wrap (a.tdiv b))))
 | .rem=>if b=0 then none else some (.d (.int k (a.tmod b)))
 | .and=>(tq .and k a b).map fun r=> .d (.int k r)
 | .or=>(tq .or k a b).map fun r=> .d (.int k r)
 | .xor=>(tq .xor k a b).map fun r=> .d (.int k r)
 | .andNot=>(tq .andNot k a b).map fun r=> .d (.int k r)
 | .eql=>some (.d (.bool (a==b)))| .neq=>some (.d (.bool (a !=b)))| .lss=>some (.d (.bool (decide (a<b))))| .leq=>some (.d (.bool (decide (a<=b))))
 | .gtr=>some (.d (.bool (decide (b<a))))| .geq=>some (.d (.bool (decide (b<=a))))
 |_=>none
def lG(P:Program)(t:TypeId):Bool:=
 match P.underlying t with
 |some .bool=>true
 |_=>false
def x8(P:Program)(op:BinOp)(t:TypeId)(x y:V):Option V:=
 match x,y with
 | .d (.int k a), .d (.int k' b)=>if k=k' then AP op k a b else none
 | .d (.bool a), .d (.bool b)=>match op with
   | .eql=>I6 (lG P t) (.d (.bool (a==b)))
   | .neq=>I6 (lG P t) (.d (.bool (a !=b)))
   |_=>none
 | .d (.str a), .d (.str b)=>match op with
   | .eql=>some (.d (.bool (a==b)))
   | .neq=>some (.d (.bool (a !=b)))
   |_=>none
 |_,_=>none
def unF(op:UnOp)(x:V):Option V:=
 match op,x with
 | .neg, .d (.int k n)=>some (.d (.int k (k.wrap (-n))))
 | .not, .d (.bool b)=>some (.d (.bool !b))
 |_,_=>none
def pG(c a b:V):Option V:=
 match c with
 | .d (.bool true)=>some a
 | .d (.bool false)=>some b
 |_=>none
def pH(o:Nat->ab)(x:V):Option (List D×List Nat):=
 match x with
 | .d (.sl es)=>some (es,[])
 | .bu=>some ([],[])
 | .qn es=>some (es,[])
 | .osl id ep=>match o id with
   | .arr ig _ _ es=>if ep=ig then some (es,[id])else none
   | .rz ig es=>if ep=ig then some (es,[id])else none
   |_=>none
 |_=>none
def CX(P:Program)(t:TypeId)(o:Nat->ab)(x:V):Option fy:=
 match P.underlying t with
 |some (.slice _)=>match pH o x with
  |some (es,rd)=>some (.d (.int .i64 es.length),[],rd)
  |none=>none
 |some .string=>match x with
  | .d (.str s)=>one (.d (.int .i64 s.length))
  |_=>none
 |some (.array n _)=>one (.d (.int .i64 n))
 |_=>none
def wG(P:Program)(e:TypeId)(es:List D)(i:Int)(rd:List Nat):Option fy:=
 if 0<=i then match es[i.toNat]? with
  |some y=>I6 (y.cells.length==P.cellsOf e&&0<P.cellsOf e) (.pp y.cells 0,[],rd)
  |none=>none
 else none
def nZ(o:Nat->ab)(x:V)(q:Nat):Option V:=
 match x with
 | .ptr id off=>I6 (o id).b7 (.ptr id (off+q))
 | .pp cs off=>some (.pp cs (off+q))
 | .pe id ep j sz off=>if(o id).bX=some ep then some (.pe id ep j sz (off+q))else none
 |_=>none
def gM(P:Program)(o:Nat->ab)(t:TypeId)(x ix:V):Option fy:=
 match ix with
 | .d (.int _ i)=>match bV P t with
   |some e=>match x with
    | .d (.sl es)=>wG P e es i []
    | .qn es=>wG P e es i []
    | .osl id ep=>match o id with
      | .arr ig _ sz es=>if ep=ig/\0<=i/\i.toNat<es.length/\sz=P.cellsOf e/\0<P.cellsOf e then some (.pe id ep i.toNat sz 0,[],[id])else none
      | .rz ig es=>if ep=ig then wG P e es i [id]else none
      |_=>none
    |_=>none
   |none=>match vo P t with
    |some (n,e)=>if 0<=i/\i<n/\(P.info? e).isSome=true then(nZ o x (i.toNat*P.cellsOf e)).bind one else none
    |none=>none
 |_=>none
def gN(P:Program)(o:Nat->ab)(t:TypeId)(x:V)(f:Nat):Option V:=
 match bJ P t f with
 |some q=>nZ o x q
 |none=>none
def mE(P:Program)(o:Nat->ab)(t:TypeId)(x:V):Option fy:=
 match x with
 | .ptr id off=>match o id with
   | .row cs=>match ez P t cs off with
     |some v=>some (v,[],[id])
     |none=>none
   |_=>none
 | .pp cs off=>match ez P t (cs.map .d) off with
   |some v=>some (v,[],[])
   |none=>none
 | .pe id ep i sz off=>match o id with
   | .arr ig _ qo es=>if ep=ig/\sz=qo then match es[i]? with
    |some e=>match ez P t (e.cells.map .d) off with
     |some v=>some (v,[],[id])
     |none=>none
    |none=>none
     else none
   |_=>none
 |_=>none
def qK(P:Program)(o:Nat->ab)(t:TypeId)(x v:V):Option fy:=
 match x with
 | .ptr id off=>match o id with
   | .row cs=>match xJ P t cs off v with
     |some cs'=>some (.bT [],[(id, .row cs')],[id])
     |none=>none
   |_=>none
 | .pe id ep i qo off=>match o id with
   | .arr ig ty sz es=>if ep=ig/\qo=sz then match es[i]?,dC o v with
    |some e,some y=>if y.cells.length=P.cellsOf t/\0<y.cells.length/\v.ids.all (· !=id)=true then match e.put off y.cells with
     |some e'=>some (.bT [],cc o v.ids++[(id, .arr ep ty sz (es.set i e'))],id::v.ids)
     |none=>none
     else none
    |_,_=>none
     else none
   |_=>none
 |_=>none
def fN(P:Program)(o:Nat->ab)(fr:Nat)(t:TypeId)(len:Nat)(parts:List (Nat×V)):Option fy:=
 match bV P t with
 |some e=>if len=0/\parts.isEmpty=true/\0<P.cellsOf e then some (.osl fr 0,[(fr, .arr 0 e (P.cellsOf e) [])],[])else if parts.map (·.1)=List.range len/\(cp P e).isSome=true/\0<len/\0<P.cellsOf e/\len*P.cellsOf e<=2^24 then match bU o (parts.map (·.2))with
  |some ds=>if ds.all (fun x=>x.cells.length==P.cellsOf e)=true then some (.osl fr 0,cc o (V.bc (parts.map (·.2)))++[(fr, .arr 0 e (P.cellsOf e) ds)],V.bc (parts.map (·.2)))else none
  |none=>none
  else none
 |none=>none
def lH(P:Program)(fr:Nat)(t:TypeId)(l c:V):Option fy:=
 match bV P t with
 |some e=>match l,c with
  | .d (.int _ n), .d (.int _ m)=>if n=m/\0<=n/\0<P.cellsOf e/\P.bytesOf e*n.toNat<=2^47/\n.toNat<=2^47 then match Ac P e with
   |some x=>some (.osl fr 0,[(fr, .arr 0 e (P.cellsOf e) (List.replicate n.toNat x))],[])
   |none=>none
    else none
  |_,_=>none
 |none=>none
def pI(P:Program)(o:Nat->ab)(fr:Nat)(ts:Array TypeId)(x y:V):Option fy:=
 match ts.toList with
 |[t,t']=>if t=t' then match bV P t,pH o y with
    |some e,some (new,rd)=>if 0<P.cellsOf e/\(cp P e).isSome=true/\new.all (fun z=>z.cells.length==P.cellsOf e)=true then match x with
     | .bu=>if new.length<=2^47/\new.length*P.bytesOf e<=2^47 then some (.osl fr 0,[(fr, .arr 0 e (P.cellsOf e) new)],rd)else none
     | .qn es=>if es.all (fun z=>z.cells.length==P.cellsOf e)=true then(if new=[]then some (.qn es,[],rd)else if es.length+new.length<=2^40/\(es.length+new.length)*P.bytesOf e<=2^40 then some (.osl fr 0,[(fr, .arr 0 e (P.cellsOf e) (es++new))],rd)else none)else none
     | .osl id ep=>match o id with
       | .arr ig ty sz es=>if ep=ig/\ty=e/\sz=P.cellsOf e/\es.length+new.length<=2^47/\(es.length+new.length)*P.bytesOf e<=2^47 then
        some (.osl id (ep+1),[(id, .arr (ep+1) ty sz (es++new))],id::rd)else none
       |_=>none
     |_=>none
     else none
    |_,_=>none
  else none
 |_=>none
def pK(isMax:Bool)(x y:V):Option V:=
 match x,y with
 | .d (.int k a), .d (.int k' b)=>if k=k' then some (.d (.int k (if isMax then(if b>a then b else a)else(if b<a then b else a))))else none
 |_,_=>none
def lI(x:Option V):Option fy:=match x with|some v=>one v|none=>none
def pL(P:Program)(s:S)(fr:Nat)(b:Builtin)(args:List Operand)(ts:Array TypeId):Option fy:=
 match b,args with
 | .len,[x]=>match ts.toList with
   |[t]=>CX P t s.o (s.ev x)
   |_=>none
 | .append,[x,y]=>match v8 P fr ts (s.ev x) (s.ev y)with
   |some r=>some r
   |none=>pI P s.o fr ts (s.ev x) (s.ev y)
 | .max,[x,y]=>lI (pK true (s.ev x) (s.ev y))
 | .min,[x,y]=>lI (pK false (s.ev x) (s.ev y))
 | .max,[x,y,z]=>lI (Ea (s.ev x) (s.ev y) (s.ev z))
 | .copy,[x,y]=>v7 P s.o ts (s.ev x) (s.ev y)
 | .delete,[x,y]=>match ts.toList.head? with
   |some t=>nk P s.o t (s.ev x) (s.ev y)
   |none=>none
 | .cap,[x]=>L3 P ts (s.ev x)
 |_,_=>none
def x9(P:Program)(t:TypeId)(parts:List (Nat×V)):Option V:=
 match cp P t,ef P t with
 |some z,some pl=>match rA pl z parts with
  |some cs=>some (o8 cs)
  |none=>none
 |_,_=>none
def jd(o:Nat->ab)(x:V):Option V:=
 match x with
 | .ptr id off=>I6 (o id).b7 (.ptr id off)
 | .pp cs off=>some (.pp cs off)
 | .func (.func f) first cap=>some (.func (.func f) first cap)
 |_=>none
def tO(P:Program)(t:TypeId):Bool:=
 match P.underlying t with
 |some (.interface _)=>false
 |some _=>true
 |none=>false
def I7(P:Program)(t:TypeId)(x:V):Option V:=
 I6 (tO P t) (match x with
  | .d y=> .d (.iface t y)
  |v=> .iface t v)
def eV(P:Program)(o:Nat->ab)(op:BinOp)(t:TypeId)(nH:Bool)(x y:V):Option fy:=
 match x8 P op t x y with
 |some v=>one v
 |none=>qC P o op t nH x y
def FQ(op:UnOp)(x:V):Option V:=
 match op,x with
 | .not, .eW=>some .eW
 |op,x=>unF op x
def fS(P:Program)(s:S)(fr:Nat)(op:Op):Option fy:=
 match op with
 | .move x=>one (s.ev x)
 | .assign x=>one (s.ev x)
 | .pick c a b=>lI (pG (s.ev c) (s.ev a) (s.ev b))
 | .alloc t=>match cp P t with
   |some cs=>some (.ptr fr 0,[(fr, .row cs)],[])
   |none=>none
 | .box _ x=>match(s.ev x).cells with
   |some cs=>some (.ptr fr 0,[(fr, .row cs)],[])
   |none=>none
 | .build t parts=>lI (x9 P t (parts.toList.map fun p=>(p.1,s.ev p.2)))
 | .buildSlice t len parts=>fN P s.o fr t len (parts.toList.map fun p=>(p.1,s.ev p.2))
 | .load t x=>mE P s.o t (s.ev x)
 | .store t x v=>qK P s.o t (s.ev x) (s.ev v)
 | .nilCheck x=>lI (jd s.o (s.ev x))
 | .binOp op t x y _=>eV P s.o op t (isConst x||isConst y) (s.ev x) (s.ev y)
 | .unOp op _ x=>lI (FQ op (s.ev x))
 | .convert u t x=>match P.underlying u,tp P t,s.ev x with
   |some _,some k, .d (.int _ n)=>one (.d (.int k (k.wrap n)))
   |_,_,_=>none
 | .makeInterface t x=>lI (I7 P t (s.ev x))
 | .makeFunc fn first cap=>one (.func fn (first.toList.map s.ev) (cap.toList.map s.ev))
 | .makeSlice t l c=>lH P fr t (s.ev l) (s.ev c)
 | .fieldAddr t x f=>lI (gN P s.o t (s.ev x) f)
 | .indexAddr t x i=>gM P s.o t (s.ev x) (s.ev i)
 | .extract x i=>match s.ev x with
   | .bT vs=>match vs[i]? with
     |some v=>one v
     |none=>none
   |_=>none
 | .call c=>match c.callee with
   | .builtin b=>pL P s fr b c.args.toList c.argTypes
   |_=>none
 | .slice t x lo hi mx=>qz P s.o t (s.ev x) (lo.map s.ev) (hi.map s.ev) (mx.map s.ev)
 | .field t x f=>lI (tu P t (s.ev x) f)
 | .index t x i=>lI (tv P t (s.ev x) (s.ev i))
 | .typeAssert x _ t ok=>lI (pc P t ok (s.ev x))
 | .makeMap t none=>me P fr t
 | .lookup t m k ok=>gZ P s.o t (s.ev m) (s.ev k) ok
 | .mapUpdate t m k v=>fm P s.o t (s.ev m) (s.ev k) (s.ev v)
 | .insert t m k v=>fm P s.o t (s.ev m) (s.ev k) (s.ev v)
 | .range t x=>mf P s.o fr t (s.ev x)
 | .next x str=>nU s.o (s.ev x) str
 | .entry x=>mh s.o (s.ev x)
 |_=>none
section
variable {P:Program}{s:S}{fr:Nat}{v:V}{Δ:List (Nat×ab)}{rd:List Nat}{o:Nat->ab}{K:V->List (Nat×ab)->List Nat->Prop}
theorem qL{α:Type}{c:Bool}{x y:α}(h:I6 c x=some y):c=true/\x=y:=by
 unfold I6 at h;split at h
 ·injection h with h;exact⟨by assumption,h⟩
 ·cases h
theorem ku{x:V}{r:fy}(h:one x=some r):r=(x,[],[]):=by unfold one at h;injection h with h;exact h.symm
theorem iU{x:Option V}{r:fy}(h:lI x=some r):∃v,x=some v/\r=(v,[],[]):=by
 unfold lI at h;split at h
 ·exact⟨_,rfl,ku h⟩
 ·cases h
theorem CY{x:V}{es:List D}{rd:List Nat}(h:pH o x=some (es,rd)):eA o x=some es/\rd=x.ids:=by
 unfold pH at h
 split at h
 ·exact HY
 ·exact HY
 ·exact HY
 ·split at h
  ·rename_i ho
   split at h
   ·rename_i e;simp at h;obtain⟨rfl,rfl⟩:=h;exact⟨by simp[eA,dC,ho,e],rfl⟩
   ·cases h
  ·rename_i ho
   split at h
   ·rename_i e;simp at h;obtain⟨rfl,rfl⟩:=h;exact⟨by simp[eA,dC,ho,e],rfl⟩
   ·cases h
  ·cases h
 ·cases h
theorem Gl{op:BinOp}{k:IntKind}{a b:Int}{v:V}(h:AP op k a b=some v){K:V->Prop}(hK:K v):L1 op k a b K:=by
 cases op<;>simp only[AP]at h<;>simp only[L1]
 case quo=>split at h
           ·cases h
           ·exact Rw
 case rem=>split at h
           ·cases h
           ·exact Rw
 case and=>simp only[Option.map_eq_some_iff]at h;obtain⟨r,h1,rfl⟩:=h;exact⟨r,h1,hK⟩
 case or=>simp only[Option.map_eq_some_iff]at h;obtain⟨r,h1,rfl⟩:=h;exact⟨r,h1,hK⟩
 case xor=>simp only[Option.map_eq_some_iff]at h;obtain⟨r,h1,rfl⟩:=h;exact⟨r,h1,hK⟩
 case andNot=>simp only[Option.map_eq_some_iff]at h;obtain⟨r,h1,rfl⟩:=h;exact⟨r,h1,hK⟩
 case shl=>cases h
 case shr=>cases h
 case eql=>injection h with h;subst h;exact⟨_,rfl,hK⟩
 case neq=>injection h with h;subst h;exact⟨_,rfl,hK⟩
 case lss=>injection h with h;subst h;exact⟨_,rfl,hK⟩
 case leq=>injection h with h;subst h;exact⟨_,rfl,hK⟩
 case gtr=>injection h with h;subst h;exact⟨_,rfl,hK⟩
 case geq=>injection h with h;subst h;exact⟨_,rfl,hK⟩
 all_goals (injection h with h;subst h;exact hK)
theorem Gm{op:BinOp}{t:TypeId}{x y v:V}(h:x8 P op t x y=some v){K:V->Prop}(hK:K v):Iu P op t x y K:=by
 unfold x8 at h
 unfold Iu
 split at h
 ·split at h
  ·exact⟨by assumption,Gl h hK⟩
  ·cases h
 ·have hb:lG P t=true->P.underlying t=some .bool:=by
   unfold lG;intro h;split at h
   ·assumption
   ·cases h
  split at h
  ·obtain⟨h1,rfl⟩:=qL h;exact⟨hb h1,hK⟩
  ·obtain⟨h1,rfl⟩:=qL h;exact⟨hb h1,hK⟩
  ·cases h
 ·split at h
  ·exact HV
  ·exact HV
  ·cases h
 ·cases h
theorem CZ{c a b v:V}(h:pG c a b=some v){K:V->Prop}(hK:K v):Aa c a b K:=by
 unfold pG at h
 unfold Aa
 split at h
 ·injection h with h;subst h;exact⟨fun _=>hK,(fun h=>by cases h)⟩
 ·injection h with h;subst h;exact⟨(fun h=>by cases h),fun _=>hK⟩
 ·cases h
theorem tP{x y:V}{q:Nat}(h:nZ o x q=some y):(∃id off,x= .ptr id off/\(o id).b7=true/\y= .ptr id (off+q))\/(∃cs off,x= .pp cs off/\y= .pp cs (off+q))\/
 (∃id ep j sz off,x= .pe id ep j sz off/\(o id).bX=some ep/\y= .pe id ep j sz (off+q)):=by
 unfold nZ at h
 split at h
 ·obtain⟨h1,rfl⟩:=qL h;exact .inl ⟨_,_,rfl,h1,rfl⟩
 ·injection h with h;exact .inr (.inl ⟨_,_,rfl,h.symm⟩)
 ·split at h
  ·injection h with h;exact .inr (.inr ⟨_,_,_,_,_,rfl,by assumption,h.symm⟩)
  ·cases h
 ·cases h
theorem tj{e:TypeId}{es:List D}{i:Int}{rd:List Nat}{r:fy}(h:wG P e es i rd=some r):
 0<=i/\∃y,es[i.toNat]? =some y/\y.cells.length=P.cellsOf e/\0<P.cellsOf e/\r=(.pp y.cells 0,[],rd):=by
 unfold wG at h
 split at h
 ·rename_i h0
  split at h
  ·rename_i y hy
   obtain⟨h1,rfl⟩:=qL h
   simp only[Bool.and_eq_true,beq_iff_eq,decide_eq_true_eq]at h1
   exact⟨h0,y,hy,h1.1,h1.2,rfl⟩
  ·cases h
 ·cases h
theorem su{t:TypeId}{x ix:V}(h:gM P o t x ix=some (v,Δ,rd))(hK:K v Δ rd):jo P o t x ix fun v rd=>K v [] rd:=by
 unfold gM at h
 unfold jo
 split at h
 ·simp only
  split at h
  ·rename_i e ht
   simp only[ht]
   split at h
   ·exact XB
   ·exact XB
   ·split at h
    ·rename_i ho
     split at h
     ·rename_i hc
      simp only[Option.some.injEq,Prod.mk.injEq]at h;obtain⟨rfl,rfl,rfl⟩:=h
      simp only[ho]
      exact⟨hc.1,hc.2.1,hc.2.2.1,hc.2.2.2.1,hc.2.2.2.2,hK⟩
     ·cases h
    ·rename_i ho
     split at h
     ·rename_i hc
      obtain⟨h0,y,h1,h2,h3,h4⟩:=tj h
      simp only[Prod.mk.injEq]at h4;obtain⟨rfl,rfl,rfl⟩:=h4
      simp only[ho]
      exact⟨hc,h0,y,h1,h2,h3,hK⟩
     ·cases h
    ·cases h
   ·cases h
  ·rename_i ht
   simp only[ht]
   split at h
   ·rename_i n e ha
    simp only[ha]
    split at h
    ·rename_i hc
     simp only[Option.bind_eq_some_iff]at h
     obtain⟨y,hy,h1⟩:=h
     have h1:=ku h1
     simp only[Prod.mk.injEq]at h1;obtain⟨rfl,rfl,rfl⟩:=h1
     refine⟨hc.1,hc.2.1,hc.2.2, ?_⟩
     rcases tP hy with⟨_,_,rfl,h2,rfl⟩|⟨_,_,rfl,rfl⟩|⟨_,_,_,_,_,rfl,h2,rfl⟩
     ·exact⟨h2,hK⟩
     ·exact hK
     ·exact⟨h2,hK⟩
    ·cases h
   ·cases h
 ·cases h
theorem sv{t:TypeId}{x y:V}{f:Nat}(h:gN P o t x f=some y){K:V->Prop}(hK:K y):jq P o t x f K:=by
 unfold gN at h
 unfold jq
 split at h
 ·rename_i q hq
  simp only[hq]
  rcases tP h with⟨_,_,rfl,h2,rfl⟩|⟨_,_,rfl,rfl⟩|⟨_,_,_,_,_,rfl,h2,rfl⟩
  ·exact⟨h2,hK⟩
  ·exact hK
  ·exact⟨h2,hK⟩
 ·cases h
theorem Gn{t:TypeId}{x:V}(h:CX P t o x=some (v,Δ,rd))(hK:K v Δ rd):Iv P t o x fun v rd=>K v [] rd:=by
 unfold CX at h
 unfold Iv
 split at h
 ·rename_i e hu
  simp only[hu]
  split at h
  ·rename_i es sJ hl
   simp only[Option.some.injEq,Prod.mk.injEq]at h;obtain⟨rfl,rfl,rfl⟩:=h
   unfold pH at hl
   split at hl
   ·exact H5
   ·exact H5
   ·exact H5
   ·split at hl
    ·rename_i ho
     split at hl
     ·rename_i hc;simp at hl;obtain⟨rfl,rfl⟩:=hl;simp only[ho];exact⟨hc,hK⟩
     ·cases hl
    ·rename_i ho
     split at hl
     ·rename_i hc;simp at hl;obtain⟨rfl,rfl⟩:=hl;simp only[ho];exact⟨hc,hK⟩
     ·cases hl
    ·cases hl
   ·cases hl
  ·cases h
 ·rename_i hu
  simp only[hu]
  split at h
  ·have h1:=ku h;simp only[Prod.mk.injEq]at h1;obtain⟨rfl,rfl,rfl⟩:=h1;exact hK
  ·cases h
 ·rename_i hu
  simp only[hu]
  have h1:=ku h;simp only[Prod.mk.injEq]at h1;obtain⟨rfl,rfl,rfl⟩:=h1;exact hK
 ·cases h
theorem C0{t:TypeId}{x:V}(h:mE P o t x=some (v,Δ,rd))(hK:K v Δ rd):Ab P o t x fun v rd=>K v [] rd:=by
 unfold mE at h
 unfold Ab
 split at h
 ·split at h
  ·rename_i ho
   split at h
   ·rename_i hg
    exact XP
   ·cases h
  ·cases h
 ·split at h
  ·rename_i hg
   simp only[Option.some.injEq,Prod.mk.injEq]at h;obtain⟨rfl,rfl,rfl⟩:=h
   exact⟨_,hg,hK⟩
  ·cases h
 ·split at h
  ·rename_i ho
   split at h
   ·rename_i hc
    split at h
    ·rename_i e he
     split at h
     ·rename_i hg
      simp only[Option.some.injEq,Prod.mk.injEq]at h;obtain⟨rfl,rfl,rfl⟩:=h
      simp only[ho];exact⟨hc.1,hc.2,e,he,_,hg,hK⟩
     ·cases h
    ·cases h
   ·cases h
  ·cases h
 ·cases h
theorem AQ{t:TypeId}{x y:V}(h:qK P o t x y=some (v,Δ,rd))(hK:K v Δ rd):tt P o t x y fun Δ rd=>K (.bT []) Δ rd:=by
 unfold qK at h
 unfold tt
 split at h
 ·split at h
  ·rename_i ho
   split at h
   ·rename_i hg
    exact XP
   ·cases h
  ·cases h
 ·split at h
  ·rename_i ho
   split at h
   ·rename_i hc
    split at h
    ·rename_i e z he hz
     split at h
     ·rename_i hl
      split at h
      ·rename_i e' hp
       simp only[Option.some.injEq,Prod.mk.injEq]at h;obtain⟨rfl,rfl,rfl⟩:=h
       simp only[ho]
       exact⟨hc.1,hc.2,e,he,z,hz,hl.1,hl.2.1,hl.2.2,e',hp,hK⟩
      ·cases h
     ·cases h
    ·cases h
   ·cases h
  ·cases h
 ·cases h
theorem qM{t:TypeId}{len:Nat}{parts:List (Nat×V)}(h:fN P o fr t len parts=some (v,Δ,rd))(hK:K v Δ rd):ij P o fr t len parts K:=by
 unfold fN at h
 unfold ij
 split at h
 ·rename_i e ht
  simp only[ht]
  split at h
  ·rename_i hc
   simp only[Option.some.injEq,Prod.mk.injEq]at h;obtain⟨rfl,rfl,rfl⟩:=h
   exact .inl ⟨hc.1,by simpa using hc.2.1,hc.2.2,hK⟩
  split at h
  ·rename_i hc
   refine .inr ?_
   split at h
   ·rename_i ds hd
    split at h
    ·rename_i hw
     simp only[Option.some.injEq,Prod.mk.injEq]at h;obtain⟨rfl,rfl,rfl⟩:=h
     refine⟨hc.1,hc.2.1,hc.2.2.1,hc.2.2.2.1,hc.2.2.2.2,ds,hd,fun x hx=> ?_,hK⟩
     simpa using List.all_eq_true.1 hw x hx
    ·cases h
   ·cases h
  ·cases h
 ·cases h
theorem sw{t:TypeId}{l c:V}(h:lH P fr t l c=some (v,Δ,rd))(hK:K v Δ rd):jr P fr t l c fun v Δ=>K v Δ []:=by
 unfold lH at h
 unfold jr
 split at h
 ·rename_i e ht
  split at h
  ·split at h
   ·rename_i hc
    split at h
    ·rename_i x hx
     simp only[Option.some.injEq,Prod.mk.injEq]at h;obtain⟨rfl,rfl,rfl⟩:=h
     simp only[ht]
     exact⟨hc.1,hc.2.1,hc.2.2.1,hc.2.2.2.1,hc.2.2.2.2,x,hx,hK⟩
    ·cases h
   ·cases h
  ·cases h
 ·cases h
theorem ya{ts:Array TypeId}{x y:V}(h:pI P o fr ts x y=some (v,Δ,rd))(hK:K v Δ rd):o9 P o fr ts x y K:=by
 unfold pI at h
 unfold o9
 split at h
 ·rename_i t t' sL
  simp only[sL]
  split at h
  ·rename_i htt
   refine⟨htt, ?_⟩
   split at h
   ·rename_i e new sJ ht hl
    obtain⟨tD,rfl⟩:=CY hl
    simp only[ht]
    split at h
    ·rename_i hc
     refine⟨new,tD,hc.1,hc.2.1,fun z hz=>by simpa using List.all_eq_true.1 hc.2.2 z hz, ?_⟩
     split at h
     ·split at h
      ·rename_i tC
       simp only[Option.some.injEq,Prod.mk.injEq]at h;obtain⟨rfl,rfl,rfl⟩:=h
       exact⟨tC.1,tC.2,hK⟩
      ·cases h
     ·split at h
      ·rename_i Eh
       refine⟨fun z hz=>by simpa using List.all_eq_true.1 Eh z hz, ?_⟩
       split at h
       ·rename_i hn
        simp only[Option.some.injEq,Prod.mk.injEq]at h;obtain⟨rfl,rfl,rfl⟩:=h
        rw[if_pos hn];exact hK
       ·rename_i hn
        split at h
        ·rename_i tC
         simp only[Option.some.injEq,Prod.mk.injEq]at h;obtain⟨rfl,rfl,rfl⟩:=h
         rw[if_neg hn];exact⟨tC.1,tC.2,hK⟩
        ·cases h
      ·cases h
     ·split at h
      ·rename_i ho
       split at h
       ·rename_i tC
        simp only[Option.some.injEq,Prod.mk.injEq]at h;obtain⟨rfl,rfl,rfl⟩:=h
        simp only[ho]
        exact⟨tC.1,tC.2.1,tC.2.2.1,tC.2.2.2.1,tC.2.2.2.2,hK⟩
       ·cases h
      ·cases h
     ·cases h
    ·cases h
   ·cases h
  ·cases h
 ·cases h
theorem tQ{x y:V}(h:jd o x=some y){K:V->Prop}(hK:K y):kN o x K:=by
 unfold jd at h
 unfold kN
 split at h
 ·obtain⟨h2,rfl⟩:=qL h;exact⟨h2,hK⟩
 ·exact HV
 ·exact HV
 ·cases h
theorem I8{op:UnOp}{x y:V}(h:unF op x=some y){K:V->Prop}(hK:K y):XZ op x K:=by
 unfold unF at h
 unfold XZ
 split at h
 ·injection h with h;subst h;simp only;rw[Int.zero_sub];exact hK
 ·exact HV
 ·cases h
theorem xD{m:Bool}{x y v:V}(h:pK m x y=some v){K:V->Prop}(hK:K v):nj m [x,y] K:=by
 unfold pK at h
 unfold nj
 split at h
 ·split at h
  ·exact Rw
  ·cases h
 ·cases h
theorem AR{op:Op}(h:fS P s fr op=some (v,Δ,rd))(hK:K v Δ rd):OS P s fr op K:=by
 cases op<;>simp only[fS]at h<;>simp only[OS]<;>try (cases h;done)
 case move x=>have h:=ku h;simp only[Prod.mk.injEq]at h;obtain⟨rfl,rfl,rfl⟩:=h;exact hK
 case assign x=>have h:=ku h;simp only[Prod.mk.injEq]at h;obtain⟨rfl,rfl,rfl⟩:=h;exact hK
 case pick c a b=>
  obtain⟨x,h1,h⟩:=iU h;simp only[Prod.mk.injEq]at h;obtain⟨rfl,rfl,rfl⟩:=h
  exact CZ h1 hK
 case alloc t=>
  split at h
  ·rename_i cs hz;simp only[Option.some.injEq,Prod.mk.injEq]at h;obtain⟨rfl,rfl,rfl⟩:=h;exact⟨cs,hz,hK⟩
  ·cases h
 case box t x=>
  split at h
  ·rename_i cs hz;simp only[Option.some.injEq,Prod.mk.injEq]at h;obtain⟨rfl,rfl,rfl⟩:=h;exact⟨cs,hz,hK⟩
  ·cases h
 case build t parts=>
  obtain⟨x,h1,h⟩:=iU h;simp only[Prod.mk.injEq]at h;obtain⟨rfl,rfl,rfl⟩:=h
  unfold x9 at h1
  split at h1
  ·rename_i z pl hz hp
   split at h1
   ·rename_i cs hc;injection h1 with h1;subst h1;exact⟨z,pl,cs,hz,hp,hc,hK⟩
   ·cases h1
  ·cases h1
 case buildSlice t len parts=>exact qM h hK
 case load t x=>exact C0 h hK
 case store t x y=>exact AQ h hK
 case nilCheck x=>
  obtain⟨y,h1,h⟩:=iU h;simp only[Prod.mk.injEq]at h;obtain⟨rfl,rfl,rfl⟩:=h
  exact tQ h1 hK
 case binOp op t x y yt=>
  unfold eV at h
  split at h
  ·rename_i z h1
   have h:=ku h;simp only[Prod.mk.injEq]at h;obtain⟨rfl,rfl,rfl⟩:=h
   exact .inl (Gm h1 hK)
  ·right;simp only[h,cO];exact hK
 case unOp op t x=>
  obtain⟨z,h1,h⟩:=iU h;simp only[Prod.mk.injEq]at h;obtain⟨rfl,rfl,rfl⟩:=h
  unfold FQ at h1
  split at h1
  ·rename_i hx;injection h1 with h1;subst h1;exact .inr ⟨rfl,hx,hK⟩
  ·exact .inl (I8 h1 hK)
 case slice t x lo hi mx=>simp only[h,cO];exact hK
 case field t x f=>
  exact RE
 case typeAssert x xt t ok=>
  exact RE
 case makeMap t r=>
  cases r with
  |none=>simp only[h,cO];exact hK
  |some x=>cases h
 case lookup t m k ok=>simp only[h,cO];exact hK
 case mapUpdate t m k v=>simp only[h,cO];exact hK
 case insert t m k v=>simp only[h,cO];exact hK
 case index t x i=>
  exact RE
 case convert u t x=>
  split at h
  ·rename_i d k k' n hu hk hx
   have h:=ku h;simp only[Prod.mk.injEq]at h;obtain⟨rfl,rfl,rfl⟩:=h
   exact⟨by rw[hu];rfl,by simp only[hk,hx];exact hK⟩
  ·cases h
 case makeInterface t x=>
  obtain⟨z,h1,h⟩:=iU h;simp only[Prod.mk.injEq]at h;obtain⟨rfl,rfl,rfl⟩:=h
  obtain⟨h2,rfl⟩:=qL h1
  refine⟨?_, ?_⟩
  ·unfold tO at h2
   cases hd:P.underlying t with
   |none=>simp[hd]at h2
   |some d=>exact⟨d,rfl,by cases d<;>simp_all⟩
  ·split
   ·rename_i y hy;simp only[hy]at hK;exact hK
   ·rename_i hy
    split at hK
    ·rename_i y Gp;exact absurd Gp (hy y)
    ·exact hK
 case makeFunc fn first cap=>have h:=ku h;simp only[Prod.mk.injEq]at h;obtain⟨rfl,rfl,rfl⟩:=h;exact hK
 case makeSlice t l c=>
  exact sw h hK
 case fieldAddr t x f=>
  obtain⟨z,h1,h⟩:=iU h;simp only[Prod.mk.injEq]at h;obtain⟨rfl,rfl,rfl⟩:=h
  exact sv h1 hK
 case indexAddr t x i=>
  exact su h hK
 case extract x i=>
  split at h
  ·rename_i vs hv
   split at h
   ·rename_i u hu
    have h:=ku h;simp only[Prod.mk.injEq]at h;obtain⟨rfl,rfl,rfl⟩:=h
    simp only[hv];exact⟨_,hu,hK⟩
   ·cases h
  ·cases h
 case call c=>
  obtain⟨IW,args,ts⟩:=c
  cases IW<;>simp only at h|- <;>try (cases h;done)
  rename_i b
  unfold pL at h
  unfold tw
  split at h
  ·rename_i x ha
   simp only[ha]
   split at h
   ·rename_i t sL;exact⟨t,sL,Gn h hK⟩
   ·cases h
  ·rename_i x y ha
   simp only[ha]
   split at h
   ·rename_i r hr
    simp only[Option.some.injEq]at h
    subst h
    exact .inl (by rw[hr];exact hK)
   ·exact .inr (ya h hK)
  ·rename_i x y ha
   exact XG
  ·rename_i x y ha
   exact XG
  ·rename_i x y z ha
   simp only[ha]
   obtain⟨v0,h1,h⟩:=iU h;simp only[Prod.mk.injEq]at h;obtain⟨rfl,rfl,rfl⟩:=h
   exact W3
  ·rename_i x y ha
   simp only[ha,h,cO];exact hK
  ·rename_i x y ha
   simp only[ha]
   split at h
   ·rename_i t ht;exact⟨t,ht,by simp only[h,cO];exact hK⟩
   ·cases h
  ·rename_i x ha
   simp only[ha,h,cO];exact hK
  ·cases h
 case range t x=>simp only[h,cO];exact hK
 case next x str=>left;simp only[h,cO];exact hK
 case entry x=>simp only[h,cO];exact hK
end
end
section
def tR(P:Program)(g:FuncId)(ds:List D)(o o1 oa:Nat->ab)(K:V->(Nat->ab)->Prop)(X:V->(Nat->ab)->Prop):Prop:=
 ∃out,aV P g ds out/\((match out with| .ret rs=>K (iX rs) o1| .bB x=>X (.d x) o1)\/(out.flat=true/\match out with| .ret rs=>K (iX rs) o| .bB x=>X (.d x) o)\/(out.mu=true/\match out with| .ret rs=>K (iX rs) oa| .bB x=>X (.d x) oa))
def rJ(P:Program)(g:FuncId)(args:List V)(o:Nat->ab)(nx:Nat)(K:V->(Nat->ab)->Nat->Prop)(X:V->(Nat->ab)->Nat->Prop):Prop:=nQ P g args o nx K X
theorem nQ.mono {P:Program}{g:FuncId}{args:List V}{o:Nat->ab}{nx:Nat}{K X K' X':V->(Nat->ab)->Nat->Prop}(hK:∀v o n,K v o n->K' v o n)(hX:∀v o n,X v o n->X' v o n)(h:nQ P g args o nx K X):nQ P g args o nx K' X':=
 h.imp (cX.mono hK hX) (cX.mono hK hX)
@[congr] theorem O7 {P:Program} {g g':FuncId} {ds Yn:List D} {o o1 oa:Nat->ab} {K X} (h:g=g') (h':ds=Yn):tR P g ds o o1 oa K X=tR P g' Yn o o1 oa K X:=by subst h;subst h';rfl
@[congr] theorem O8 {P:Program} {g g':FuncId} {bY Yo:List V} {o:Nat->ab} {nx:Nat} {K X} (h:g=g') (h':bY=Yo):rJ P g bY o nx K X=rJ P g' Yo o nx K X:=by subst h;subst h';rfl
def O9(P:Program)(g:FuncId)(args:List V)(o:Nat->ab)(nx:Nat)(K X:V->(Nat->ab)->Nat->Prop):Prop:=
 (∃ds,bU o args=some ds/\tR P g ds o (put o (cc o (V.bc args))) (put o (qy o (V.bc args))) (fun v o'=>K v o' (nx+1)) (fun v o'=>X v o' (nx+1)))\/cX P g args o nx K X
def HC(P:Program)(s:S)(o:bH)(X:V->S->Prop)(K:S->Prop):Prop:=
 match o.op with
 | .call c=>match c.callee with
   | .value f=>match s.ev f with
     | .func (.func g) first cap=>match bU s.o (first++c.args.toList.map s.ev++cap)with
       |some ds=>tR P g ds s.o (put s.o (cc s.o (V.bc (first++c.args.toList.map s.ev++cap)))) (put s.o (qy s.o (V.bc (first++c.args.toList.map s.ev++cap)))) (fun v o'=>K ⟨aU s.env o.dst v,o',s.nx+1⟩) (fun v o'=>X v ⟨s.env,o',s.nx+1⟩)\/
        rJ P g (first++c.args.toList.map s.ev++cap) s.o s.nx (fun v o' nx'=>K ⟨aU s.env o.dst v,o',nx'⟩) (fun v o' nx'=>X v ⟨s.env,o',nx'⟩)
       |none=>rJ P g (first++c.args.toList.map s.ev++cap) s.o s.nx (fun v o' nx'=>K ⟨aU s.env o.dst v,o',nx'⟩) (fun v o' nx'=>X v ⟨s.env,o',nx'⟩)
     | .iW id=>dt P id (c.args.toList.map s.ev) s.o s.nx (fun v o' nx'=>K ⟨aU s.env o.dst v,o',nx'⟩) (fun v o' nx'=>X v ⟨s.env,o',nx'⟩)
     |_=>False
   | .invoke r m=>match tJ P m (s.ev r)with
     |some (g,y)=>O9 P g (y::c.args.toList.map s.ev) s.o s.nx (fun v o' nx'=>K ⟨aU s.env o.dst v,o',nx'⟩) (fun v o' nx'=>X v ⟨s.env,o',nx'⟩)
     |none=>False
   |_=>match fS P s s.nx o.op with
    |some (v,Δ,_)=>K ⟨aU s.env o.dst v,put s.o Δ,s.nx+1⟩
    |none=>False
 | .panic x=>match s.ev x with
   | .d (.iface t y)=>X (.d (.iface t y)) s
   | .iface t y=>X (.iface t y) s
   |_=>False
 | .next x str=>match nV s.o (s.ev x)with
   |some (id,l)=>str=false/\D9 id l fun v Δ _=>K ⟨aU s.env o.dst v,put s.o Δ,s.nx+1⟩
   |none=>match fS P s s.nx o.op with
    |some (v,Δ,_)=>K ⟨aU s.env o.dst v,put s.o Δ,s.nx+1⟩
    |none=>False
 |op=>match fS P s s.nx op with
  |some (v,Δ,_)=>K ⟨aU s.env o.dst v,put s.o Δ,s.nx+1⟩
  |none=>False
def oC(P:Program)(X:V->S->Prop)(K:S->Prop):List bH->S->Prop
 |[],s=>K s
 |o::l,s=>match o.gd with
  |none=>HC P s o X (oC P X K l)
  |some (d,want)=>match s.env d with
   | .d (.bool b)=>if b=want then HC P s o X (oC P X K l)else oC P X K l ⟨aU s.env o.dst (.bT []),s.o,s.nx+1⟩
   | .bT []=>oC P X K l ⟨aU s.env o.dst (.bT []),s.o,s.nx+1⟩
   |_=>False
def I9(b:Nat)(body:(fL->S->Prop)->S->Prop)(Q:fL->S->Prop)(s:S):Prop:=
 ∃ (J:Nat->S->Prop),(∃m s1,br b s s1/\J m s1)/\∀m s0,J m s0->body (fun e s=>match e with| .normal=>∃m' s1,m'<m/\br b s s1/\J m' s1|e=>Q e s) s0
@[congr] theorem Pa {b:Nat} {body Q} {s s':S} (h:s=s'):I9 b body Q s=I9 b body Q s':=by subst h;rfl
def pM(t:Bool)(A B:Prop):Prop:=(t=true->A)/\(t=false->B)
@[congr] theorem Pb {t t':Bool} {A B:Prop} (h:t=t'):pM t A B=pM t' A B:=by subst h;rfl
@[simp] theorem tS (A B:Prop):pM true A B=A:=by simp[pM]
@[simp] theorem rK (A B:Prop):pM false A B=B:=by simp[pM]
section
variable {P:Program}{n b:Nat}
theorem Ep{s:S}{o:bH}{o':Oper}{X X':V->S->Prop}{K K':S->Prop}(gy:o'.op=o.op)(cD:o'.dst=o.dst)(hd:fX n o'.dst)(hK:∀s,K s->K' s)(hX:∀v s,X v s->X' v s)(h:HC P s o X K):opW P n s o' X' K':=by
 refine⟨hd, ?_⟩
 rw[cD,gy]
 unfold HC at h
 have hs:∀ {op:Op},(match fS P s s.nx op with|some (v,Δ,_)=>K ⟨aU s.env o.dst v,put s.o Δ,s.nx+1⟩|none=>False)->OS P s s.nx op fun v Δ _=>K' ⟨aU s.env o.dst v,put s.o Δ,s.nx+1⟩:=by
  intro op h
  split at h
  ·rename_i v Δ rd he;exact AR he (hK _ h)
  ·exact h.elim
 split at h
 ·rename_i c hc
  split at h
  ·rename_i f eJ
   simp only[hc,eJ]
   split at h
   ·rename_i g first cap hf
    unfold AD
    simp only[hf]
    unfold tI
    split at h
    ·rename_i ds eL
     rcases h with⟨out,hP,h|⟨qm,h⟩|⟨qm,h⟩⟩|h
     ·exact OE
     ·exact Ow
     ·exact XS
     ·exact W8
    ·exact W8
   ·rename_i id hf
    unfold AD
    simp only[hf]
    exact dt.mono (fun v o n h=>hK _ h) (fun v o n h=>hX _ _ h) h
   ·exact h.elim
  ·rename_i r m eJ
   simp only[hc,eJ]
   split at h
   ·rename_i g y hr
    simp only[hr]
    unfold tI
    rcases h with⟨ds,eL,out,hP,h|⟨qm,h⟩|⟨qm,h⟩⟩|h
    ·exact OE
    ·exact Ow
    ·exact XS
    ·exact .inr (.inr (.inr (.inl (cX.mono (fun v o n h=>hK _ h) (fun v o n h=>hX _ _ h) h))))
   ·exact h.elim
  ·rename_i eJ hinv
   rw[hc]at h|-
   obtain⟨IW,args,ts⟩:=c
   cases IW with
   |value f=>exact absurd rfl (eJ f)
   |invoke r m=>exact absurd rfl (hinv r m)
   |_=>exact hs h
 ·rename_i x hx
  simp only[hx]
  split at h
  ·rename_i hv;simp only[hv];exact hX _ _ h
  ·rename_i hv;simp only[hv];exact hX _ _ h
  ·exact h.elim
 ·rename_i x str hx
  rw[hx]at h|-
  split at h
  ·rename_i id l hl
   exact .inr ⟨h.1,id,l,hl,fun e=>hK _ (h.2.1 e),fun i k x e=>hK _ (h.2.2 i k x e)⟩
  ·exact hs h
 ·rename_i hc hp tL
  have h2:=hs h
  cases hh:o.op<;>first
   |exact absurd hh (hc _)
   |exact absurd hh (hp _)
   |exact absurd hh (tL _ _)
   |(rw[hh]at h2;exact h2)
theorem je{ops:Array Oper}{X X':V->S->Prop}{K K':S->Prop}(hK:∀s,K s->K' s)(hX:∀v s,X v s->X' v s):∀ (l:List Oper) (l':List bH) (s:S),kK n ops l=some l'->oC P X K l' s->xV P n ops X' K' l s
 |[],l',s,h,hr=>by simp[kK]at h;subst h;exact hK _ hr
 |o::l,l',s,h,hr=>by
  simp only[kK]at h
  split at h
  ·rename_i x xs hx F0
   injection h with h;subst h
   unfold Is at hx
   split at hx
   ·rename_i hd
    have cD:fX n o.dst:=by
     unfold Cz at hd;unfold fX
     split at hd<;>simp_all
    simp only[xV,xU]
    cases hg:o.guard with
    |none=>
     simp only[hg]at hx
     injection hx with hx;subst hx
     exact Ep rfl rfl cD (fun s hs=>je hK hX l xs s F0 hs) hX hr
    |some p=>
     obtain⟨j,want⟩:=p
     simp only[hg]at hx
     cases Pc:ry ops j with
     |none=>simp[Pc]at hx
     |some d=>
      simp only[Pc]at hx
      injection hx with hx;subst hx
      simp only
      simp only[oC]at hr
      split at hr
      ·rename_i t ht
       simp only[Pc,ht]
       split at hr
       ·rename_i e
        exact⟨fun _=>Ep rfl rfl cD (fun s hs=>je hK hX l xs s F0 hs) hX hr,fun h=>absurd e h⟩
       ·rename_i e
        exact⟨fun h=>absurd h e,fun _=>⟨cD,je hK hX l xs _ F0 hr⟩⟩
      ·rename_i ht
       simp only[Pc,ht]
       exact⟨cD,je hK hX l xs _ F0 hr⟩
      ·exact hr.elim
   ·cases hx
  ·cases h
end
end
section
mutual
def V.refs:V->List Nat
 | .ptr id _=>[id]| .osl id _=>[id]| .pe id _ _ _ _=>[id]| .vX id _ _=>[id]| .mp id=>[id]| .iW id=>[id]
 | .agg cs=>V.aE cs
 | .bT cs=>V.aE cs
 | .func _ a b=>V.aE a++V.aE b
 | .iface _ x=>x.refs
 |_=>[]
def V.aE:List V->List Nat
 |[]=>[]
 |v::vs=>v.refs++V.aE vs
end
mutual
theorem jw:∀ (v:V),∀id∈v.ids,id∈v.refs
 | .osl id _,j,h=>by simpa[V.ids,V.refs]using h
 | .agg cs,j,h=>by simp only[V.ids]at h;simp only[V.refs];exact lq cs j h
 | .iface _ x,j,h=>by simp only[V.ids]at h;simp only[V.refs];exact jw x j h
 | .mp _,j,h=>by simpa[V.ids,V.refs]using h
 | .d _,_,h| .bu,_,h| .bT _,_,h| .ptr _ _,_,h| .pe _ _ _ _ _,_,h| .pp _ _,_,h| .func _ _ _,_,h| .aa,_,h| .qn _,_,h| .vX _ _ _,_,h| .eW,_,h| .iW _,_,h=>by simp[V.ids]at h
theorem lq:∀ (vs:List V),∀id∈V.bc vs,id∈V.aE vs
 |[],j,h=>by simp[V.bc]at h
 |v::vs,j,h=>by
  simp only[V.bc,V.aE,List.mem_append]at h|-
  exact h.imp (jw v j) (lq vs j)
end
mutual
theorem cY{o o':Nat->ab}:∀ (v:V),(∀id∈v.refs,o' id=o id)->dC o' v=dC o v
 | .osl id ep,h=>by simp only[dC,h id (by simp[V.refs])]
 | .mp id,h=>by simp only[dC,h id (by simp[V.refs])]
 | .agg cs,h=>by simp only[dC,gO cs (by simpa[V.refs]using h)]
 | .iface t x,h=>by simp only[dC,cY x (by simpa[V.refs]using h)]
 | .d _,_| .bu,_| .bT _,_| .ptr _ _,_| .pe _ _ _ _ _,_| .pp _ _,_| .func _ _ _,_| .aa,_| .qn _,_| .vX _ _ _,_| .eW,_| .iW _,_=>by simp only[dC]
theorem gO{o o':Nat->ab}:∀ (vs:List V),(∀id∈V.aE vs,o' id=o id)->bU o' vs=bU o vs
 |[],_=>rfl
 |v::vs,h=>by
  simp only[bU,cY v (fun id au=>h id (by simp[V.aE,au])),gO vs (fun id au=>h id (by simp[V.aE,au]))]
end
theorem gG{o o':Nat->ab}{ids:List Nat}(h:∀id∈ids,o' id=o id):cc o' ids=cc o ids:=by
 rw[lz,lz]
 exact List.map_congr_left fun id au=>by rw[h id au]
def nP(s:S)(op:Op):List Nat:=
 match op with
 | .load _ x=>(s.ev x).refs
 | .nilCheck x=>(s.ev x).refs
 | .fieldAddr _ x _=>(s.ev x).refs
 | .indexAddr _ x _=>(s.ev x).refs
 | .store _ x v=>(s.ev x).refs++(s.ev v).refs
 | .buildSlice _ _ parts=>V.aE (parts.toList.map fun p=>s.ev p.2)
 | .binOp _ _ x y _=>(s.ev x).refs++(s.ev y).refs
 | .slice _ x _ _ _=>(s.ev x).refs
 | .lookup _ m k _=>(s.ev m).refs++(s.ev k).refs
 | .mapUpdate _ m k v=>(s.ev m).refs++((s.ev k).refs++(s.ev v).refs)
 | .insert _ m k v=>(s.ev m).refs++((s.ev k).refs++(s.ev v).refs)
 | .range _ x=>(s.ev x).refs
 | .next x _=>(s.ev x).refs
 | .entry x=>(s.ev x).refs
 | .call c=>match c.callee with
   | .builtin _=>V.aE (c.args.toList.map s.ev)
   | .value f=>match s.ev f with
     | .func _ first cap=>V.aE (first++c.args.toList.map s.ev++cap)
     |_=>[]
   |_=>[]
 |_=>[]
section
variable {P:Program}{s s':S}{fr:Nat}
theorem rL{o o':Nat->ab}(v:V)(h:∀id∈v.refs,o' id=o id):pH o' v=pH o v:=by
 cases v with
 |osl id ep=>simp only[pH,h id (by simp[V.refs])]
 |d x=>cases x<;>rfl
 |_=>rfl
theorem rM{o o':Nat->ab}(v:V)(q:Nat)(h:∀id∈v.refs,o' id=o id):nZ o' v q=nZ o v q:=by
 cases v<;>simp only[nZ]<;>rw[h _ (by simp[V.refs])]
theorem C1{o o':Nat->ab}(v:V)(h:∀id∈v.refs,o' id=o id):Ad o' v=Ad o v:=by
 have h1:eA o' v=eA o v:=by unfold eA;rw[cY v h]
 cases v<;>first|rfl|simp only[Ad,h1]
theorem yc{o o':Nat->ab}(v:V)(h:∀id∈v.refs,o' id=o id):qA o' v=qA o v:=by
 cases v with
 |mp id=>simp only[qA,h id (by simp[V.refs])]
 |d x=>cases x<;>rfl
 |_=>rfl
theorem yd{o o':Nat->ab}(v:V)(h:∀id∈v.refs,o' id=o id):qB o' v=qB o v:=by
 cases v with
 |ptr id off=>simp only[qB,h id (by simp[V.refs])]
 |d x=>cases x<;>rfl
 |_=>rfl
theorem mF{o o':Nat->ab}(v:V)(h:∀id∈v.refs,o' id=o id):nT o' v=nT o v:=by
 cases v with
 |mp id=>simp only[nT,h id (by simp[V.refs])]
 |d x=>cases x<;>rfl
 |_=>rfl
theorem AS{o o':Nat->ab}(v:V)(h:∀id∈v.refs,o' id=o id):pf o' v=pf o v:=by
 cases v with
 |mp id=>simp only[pf,h id (by simp[V.refs])]
 |d x=>cases x<;>rfl
 |_=>rfl
theorem AU{o o':Nat->ab}(v:V)(str:Bool)(h:∀id∈v.refs,o' id=o id):nU o' v str=nU o v str:=by
 cases v with
 |ptr id off=>cases off<;>simp only[nU,h id (by simp[V.refs])]
 |_=>rfl
theorem ye{o o':Nat->ab}(v:V)(h:∀id∈v.refs,o' id=o id):mh o' v=mh o v:=by
 cases v with
 |ptr id off=>cases off<;>simp only[mh,h id (by simp[V.refs])]
 |_=>rfl
theorem yf{o o':Nat->ab}{fr:Nat}{t:TypeId}{P:Program}(v:V)(h:∀id∈v.refs,o' id=o id):mf P o' fr t v=mf P o fr t v:=by
 unfold mf
 cases v with
 |mp id=>simp only[h id (by simp[V.refs])]
 |d x=>cases x<;>rfl
 |_=>rfl
theorem yg{o o':Nat->ab}(v:V)(h:∀id∈v.refs,o' id=o id):oi o' v=oi o v:=by
 cases v with
 |ptr id off=>simp only[oi,h id (by simp[V.refs])]
 |_=>rfl
theorem yh{o o':Nat->ab}(v:V)(h:∀id∈v.refs,o' id=o id):oj o' v=oj o v:=by
 cases v with
 |vX id off n=>simp only[oj,h id (by simp[V.refs])]
 |_=>rfl
theorem C2(op:Op)(hv:∀x∈op.operands,s'.ev x=s.ev x)(ho:∀id∈nP s op,s'.o id=s.o id):fS P s' fr op=fS P s fr op:=by
 cases op<;>simp only[fS]
 case move x=>rw[hv x (by simp[Op.operands])]
 case assign x=>rw[hv x (by simp[Op.operands])]
 case pick c a b=>rw[hv c (by simp[Op.operands]),hv a (by simp[Op.operands]),hv b (by simp[Op.operands])]
 case box t x=>rw[hv x (by simp[Op.operands])]
 case build t parts=>
  have:(parts.toList.map fun p=>(p.1,s'.ev p.2))=parts.toList.map fun p=>(p.1,s.ev p.2):=
   List.map_congr_left fun p hp=>by rw[hv p.2 (by simp only[Op.operands];simp;exact⟨p.1,by simpa using hp⟩)]
  rw[this]
 case buildSlice t len parts=>
  have:(parts.toList.map fun p=>(p.1,s'.ev p.2))=parts.toList.map fun p=>(p.1,s.ev p.2):=
   List.map_congr_left fun p hp=>by rw[hv p.2 (by simp only[Op.operands];simp;exact⟨p.1,by simpa using hp⟩)]
  rw[this]
  have e:(parts.toList.map fun p=>(p.1,s.ev p.2)).map (·.2)=parts.toList.map fun p=>s.ev p.2:=by simp[Function.comp_def]
  have h1:bU s'.o ((parts.toList.map fun p=>(p.1,s.ev p.2)).map (·.2))=bU s.o ((parts.toList.map fun p=>(p.1,s.ev p.2)).map (·.2)):=gO _ (by rw[e];exact ho)
  have h2:cc s'.o (V.bc ((parts.toList.map fun p=>(p.1,s.ev p.2)).map (·.2)))=cc s.o (V.bc ((parts.toList.map fun p=>(p.1,s.ev p.2)).map (·.2))):=
   gG fun id au=>ho id (by rw[e]at au;exact lq _ id au)
  simp only[fN,h1,h2]
 case load t x=>
  rw[hv x (by simp[Op.operands])]
  cases hx:s.ev x<;>simp only[mE]<;>rw[ho _ (by simp[nP,hx,V.refs])]
 case store t x y=>
  rw[hv x (by simp[Op.operands]),hv y (by simp[Op.operands])]
  have h1:dC s'.o (s.ev y)=dC s.o (s.ev y):=cY _ fun id au=>ho id oe
  have h2:cc s'.o (s.ev y).ids=cc s.o (s.ev y).ids:=gG fun id au=>ho id (by simp[nP,jw _ _ au])
  cases hx:s.ev x<;>simp only[qK]<;>rw[ho _ (by simp[nP,hx,V.refs])]
  simp only[h1,h2]
 case nilCheck x=>
  rw[hv x (by simp[Op.operands])]
  cases hx:s.ev x with
  |ptr id off=>simp only[jd];rw[ho _ (by simp[nP,hx,V.refs])]
  |func fn a b=>cases fn<;>rfl
  |_=>rfl
 case binOp op t x y yt=>
  rw[hv x (by simp[Op.operands]),hv y (by simp[Op.operands])]
  have h1:Ad s'.o (s.ev x)=Ad s.o (s.ev x):=C1 _ fun id au=>ho id oe
  have h2:∀a b,vh P s'.o a b (s.ev x) (s.ev y)=vh P s.o a b (s.ev x) (s.ev y):=fun a b=>by
   have h3:∀id∈(s.ev x).refs,s'.o id=s.o id:=fun id au=>ho id oe
   have h4:=yc (s.ev x) h3
   have h5:=yd (s.ev x) h3
   unfold vh
   rw[h1,h4,h5]
  unfold eV qC
  simp only[h2]
 case slice t x lo hi mx=>
  rw[hv x (by simp[Op.operands])]
  have e1:lo.map s'.ev=lo.map s.ev:=by cases lo<;>simp[hv,Op.operands]
  have e2:hi.map s'.ev=hi.map s.ev:=by cases hi<;>simp[hv,Op.operands]
  have e3:mx.map s'.ev=mx.map s.ev:=by cases mx<;>simp[hv,Op.operands]
  rw[e1,e2,e3]
  have h3:∀id∈(s.ev x).refs,s'.o id=s.o id:=fun id au=>ho id oe
  have h1:eA s'.o (s.ev x)=eA s.o (s.ev x):=by unfold eA;rw[cY _ h3]
  have h2:cc s'.o (s.ev x).ids=cc s.o (s.ev x).ids:=gG fun id au=>h3 id (jw _ _ au)
  have h4:CB P s'.o t (s.ev x) (lo.map s.ev) (hi.map s.ev) (mx.map s.ev)=CB P s.o t (s.ev x) (lo.map s.ev) (hi.map s.ev) (mx.map s.ev):=by
   cases hx:s.ev x with
   |osl id ep=>simp only[CB,h3 id (by simp[hx,V.refs])]
   |_=>rfl
  unfold qz pb
  simp only[h1,h2,h4,yg _ h3]
 case field t x f=>rw[hv x (by simp[Op.operands])]
 case typeAssert x xt t ok=>rw[hv x (by simp[Op.operands])]
 case makeMap t r=>cases r<;>rfl
 case lookup t m k ok=>
  rw[hv m (by simp[Op.operands]),hv k (by simp[Op.operands])]
  have h3:∀id∈(s.ev m).refs,s'.o id=s.o id:=fun id au=>ho id oe
  have h1:dC s'.o (s.ev k)=dC s.o (s.ev k):=cY _ fun id au=>ho id oe
  unfold gZ
  simp only[h1,AS _ h3]
 case mapUpdate t m k v=>
  rw[hv m (by simp[Op.operands]),hv k (by simp[Op.operands]),hv v (by simp[Op.operands])]
  have h3:∀id∈(s.ev m).refs,s'.o id=s.o id:=fun id au=>ho id oe
  have h1:dC s'.o (s.ev k)=dC s.o (s.ev k):=cY _ fun id au=>ho id oe
  have h2:dC s'.o (s.ev v)=dC s.o (s.ev v):=cY _ fun id au=>ho id oe
  have h4:cc s'.o (s.ev v).ids=cc s.o (s.ev v).ids:=gG fun id au=>ho id (by simp[nP,jw _ _ au])
  unfold fm
  simp only[h1,h2,h4,mF _ h3]
 case insert t m k v=>
  rw[hv m (by simp[Op.operands]),hv k (by simp[Op.operands]),hv v (by simp[Op.operands])]
  have h3:∀id∈(s.ev m).refs,s'.o id=s.o id:=fun id au=>ho id oe
  have h1:dC s'.o (s.ev k)=dC s.o (s.ev k):=cY _ fun id au=>ho id oe
  have h2:dC s'.o (s.ev v)=dC s.o (s.ev v):=cY _ fun id au=>ho id oe
  have h4:cc s'.o (s.ev v).ids=cc s.o (s.ev v).ids:=gG fun id au=>ho id (by simp[nP,jw _ _ au])
  unfold fm
  simp only[h1,h2,h4,mF _ h3]
 case index t x i=>rw[hv x (by simp[Op.operands]),hv i (by simp[Op.operands])]
 case range t x=>
  rw[hv x (by simp[Op.operands])]
  exact yf _ fun id au=>ho id oe
 case next x str=>
  rw[hv x (by simp[Op.operands])]
  exact AU _ _ fun id au=>ho id oe
 case entry x=>
  rw[hv x (by simp[Op.operands])]
  exact ye _ fun id au=>ho id oe
 case unOp op t x=>rw[hv x (by simp[Op.operands])]
 case convert u t x=>rw[hv x (by simp[Op.operands])]
 case makeInterface t x=>rw[hv x (by simp[Op.operands])]
 case makeFunc fn first cap=>
  have h1:first.toList.map s'.ev=first.toList.map s.ev:=List.map_congr_left fun x hx=>hv x (by simp only[Op.operands];exact Array.mem_append.2 (.inl (Array.mem_toList_iff.1 hx)))
  have h2:cap.toList.map s'.ev=cap.toList.map s.ev:=List.map_congr_left fun x hx=>hv x (by simp only[Op.operands];exact Array.mem_append.2 (.inr (Array.mem_toList_iff.1 hx)))
  rw[h1,h2]
 case makeSlice t l c=>rw[hv l (by simp[Op.operands]),hv c (by simp[Op.operands])]
 case fieldAddr t x f=>
  rw[hv x (by simp[Op.operands])]
  simp only[gN]
  cases bJ P t f<;>simp only
  rw[rM _ _ (by simpa[nP]using ho)]
 case indexAddr t x i=>
  rw[hv x (by simp[Op.operands]),hv i (by simp[Op.operands])]
  have h1:∀q,nZ s'.o (s.ev x) q=nZ s.o (s.ev x) q:=fun q=>rM _ _ (by simpa[nP]using ho)
  simp only[gM,h1]
  cases hx:s.ev x with
  |osl id ep=>simp only[ho id (by simp[nP,hx,V.refs])]
  |d y=>cases y<;>rfl
  |_=>rfl
 case extract x i=>rw[hv x (by simp[Op.operands])]
 case call c=>
  obtain⟨IW,args,ts⟩:=c
  cases IW<;>simp only
  rename_i b
  unfold pL
  have hm:∀x∈args.toList,s'.ev x=s.ev x:=fun x hx=>hv x W1
  have hr:∀x∈args.toList,∀id∈(s.ev x).refs,s'.o id=s.o id:=by
   intro x hx id au
   refine ho id ?_
   simp only[nP]
   generalize args.toList=l at hx
   induction l with
   |nil=>cases hx
   |cons y l ih=>
    simp only[List.map_cons,V.aE,List.mem_append]
    rcases List.mem_cons.1 hx with rfl|hx
    ·exact .inl au
    ·exact .inr (ih hx)
  split
  ·rename_i x ha
   rw[ha]at hm hr
   rw[hm x (by simp)]
   have h1:∀t,CX P t s'.o (s.ev x)=CX P t s.o (s.ev x):=fun t=>by simp only[CX,rL _ (hr x (by simp))]
   simp only[h1]
  ·rename_i x y ha
   rw[ha]at hm hr
   rw[hm x (by simp),hm y (by simp)]
   simp only[pI,rL _ (hr y (by simp))]
   cases v8 P fr ts (s.ev x) (s.ev y)with
   |some r=>rfl
   |none=>
   dsimp only
   cases hx:s.ev x with
   |osl id ep=>simp only[hr x (by simp) id (by simp[hx,V.refs])]
   |_=>rfl
  ·rename_i x y ha
   rw[ha]at hm
   rw[hm x (by simp),hm y (by simp)]
  ·rename_i x y ha
   rw[ha]at hm
   rw[hm x (by simp),hm y (by simp)]
  ·rename_i x y z h;rw[hm x (by rw[h];simp),hm y (by rw[h];simp),hm z (by rw[h];simp)]
  ·rename_i x y ha
   rw[ha]at hm hr
   rw[hm x (by simp),hm y (by simp)]
   have h1:eA s'.o (s.ev y)=eA s.o (s.ev y):=by unfold eA;rw[cY _ (hr y (by simp))]
   have h2:cc s'.o (s.ev y).ids=cc s.o (s.ev y).ids:=gG fun id au=>hr y aJ id (jw _ _ au)
   unfold v7
   simp only[h1,h2,yh _ (hr x (by simp))]
  ·rename_i x y ha
   rw[ha]at hm hr
   rw[hm x (by simp),hm y (by simp)]
   have h1:dC s'.o (s.ev y)=dC s.o (s.ev y):=cY _ (hr y aJ)
   have h2:=mF _ (hr x aJ)
   simp only[nk,h1,h2]
  ·rename_i x ha
   rw[ha]at hm
   rw[hm x (by simp)]
  ·rfl
end
end
end Go.Proofs.YtnkamdiiakdkgaaGreat
