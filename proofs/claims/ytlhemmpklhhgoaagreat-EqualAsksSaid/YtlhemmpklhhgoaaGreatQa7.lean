/-
  A PART OF THE PROOF. Conditions: none.
-/
import Derived.Test.YtlhemmpklhhgoaaGreatQa6
set_option linter.unusedSimpArgs false
set_option linter.unusedVariables false
namespace Go.Proofs.YtlhemmpklhhgoaaGreat
section
section
variable {P:Program}{M:Nat->Prop}{φ:Place}{H:Hp}{w w':World}{cm:Place}{H0:Hp}{w0:World}{n b:Nat}{s:S}{a:Act}{cx:Cx}{ro:Option Nat}{k:Nat}
theorem gL(hb:∀id,H0.us id->id<b)(s8:cx.rd=false->ro=none):∀ (c:Code) (Q:fw->S->Prop) (s:S) (φ:Place) (a:Act) (w:World),iL P n b cx.rd c Q s->bT M cm H0 w0 n cx φ s a w->c.sQ P ro (ED M cm H0 w0 n cx Q) a w:=by
 intro c
 induction c with
 |skip=>exact fun Q s φ a w h hs=>oJ (k:=0) (wpIn_skip ⟨.normal,s,φ,h,hs,trivial⟩)
 |scope x ih=>exact fun Q s φ a w h hs=>wW (ih Q s φ a w h hs) (fun l a w ⟨xx,s',aC,hq,jC,hm⟩=>by cases xx<;>exact hm)
 |label l=>exact fun Q s φ a w h hs=>oJ (k:=0) (wpIn_label ⟨.normal,s,φ,h,hs,trivial⟩)
 |exit id=>exact fun Q s φ a w h hs=>AQ ⟨.exit id,s,φ,h,hs,rfl⟩
 |ret=>exact fun Q s φ a w h hs=>EE ⟨.ret,s,φ,h,hs,trivial⟩
 |goto l=>exact fun Q s φ a w h hs=>h.elim
 |refuse y=>exact fun Q s φ a w h hs=>h.elim
 |rangeFunc g ps x y=>
  intro Q s φ a w h hs
  obtain⟨h1,s',hle,h2⟩:=h
  rcases hle with rfl|hle
  ·exact wZ hs h1 (s8 h1) h2
  ·obtain⟨aC,jC⟩:=C0 hb hs hle
   exact wZ jC h1 (s8 h1) h2
 |region id ops draw=>
  intro Q s φ a w h hs
  cases draw with
  |true=>exact oJ (h M cm H0 w0 cx φ a w ro 0 hs)
  |false=>
   refine oJ (k:=0) (wpIn_region_list (oI (K:=Q .normal) (X:=fun v s=>Q (.bB v) s) (fun s φ a w hk hs=>⟨.normal,s,φ,hk,hs,trivial⟩) (fun v s φ a w val hx hs hd=>⟨.bB v,s,φ,hx,hs,val,rfl,hd⟩) _ s φ a w h hs))
 |seq x y LQ LR=>
  intro Q s φ a w h hs
  refine yn (gv (LQ _ s φ a w h hs) ?_)
  rintro e a' w' ⟨xx,s',aC,hq,jC,hm⟩
  cases e<;>cases xx<;>first|(exact hm.elim)|skip
  ·exact LR Q s' aC a' w' hq jC
  ·subst hm;exact⟨_,s',aC,hq,jC,rfl⟩
  ·exact HZ
  ·exact H6
 |cond c x y LQ LR=>
  intro Q s φ a w h hs
  simp only[iL]at h
  have hc:=mq (M:=M) (φ:=φ) (H:=s.H) (w:=w) s a hs.env c
  split at h
  ·rename_i t hv
   rw[hv]at hc
   simp only[V.den,D.den]at hc
   cases t with
   |true=>exact pT hc (LQ Q s φ a w (h.1 rfl) hs)
   |false=>exact pT hc (LR Q s φ a w (h.2 rfl) hs)
  ·rename_i hv
   rw[hv]at hc
   obtain⟨t,hc⟩:=hc
   cases t with
   |true=>exact pT hc (LQ Q s φ a w h.1 hs)
   |false=>exact pT hc (LR Q s φ a w h.2 hs)
  ·exact h.elim
 |block id x ih=>
  intro Q s φ a w h hs
  refine Gj (gv (ih _ s φ a w h hs) ?_)
  rintro e a' w' ⟨xx,s',aC,hq,jC,hm⟩
  cases e<;>cases xx<;>first|(exact hm.elim)|skip
  ·exact⟨.normal,s',aC,hq,jC,trivial⟩
  ·subst hm
   simp only[Exit.inBlock]
   simp only[ff]at hq
   split
   ·rename_i he;rw[if_pos he]at hq;exact⟨.normal,s',aC,hq,jC,trivial⟩
   ·rename_i he;rw[if_neg he]at hq;exact⟨.exit _,s',aC,hq,jC,rfl⟩
  ·exact HZ
  ·exact H6
 |loop x ih=>
  intro Q s φ a w h hs
  obtain⟨J,⟨m0,s1,hle,hI⟩,uc⟩:=h
  obtain⟨iB,pg⟩:=C0 hb hs hle
  refine yo (fun m a w=>∃s φ,J m s/\bT M cm H0 w0 n cx φ s a w) ?_ m0 a w ⟨s1,iB,hI,pg⟩
  rintro m a w ⟨s,φ,hI,hs⟩
  refine gv (ih _ s φ a w (uc m s hI) hs) ?_
  rintro e a' w' ⟨xx,s',aC,hq,jC,hm⟩
  cases e<;>cases xx<;>first|(exact hm.elim)|skip
  ·obtain⟨m2,s2,bW,Ra,hI2⟩:=hq
   obtain⟨Gk,Ct⟩:=C0 hb jC Ra
   exact⟨m2,bW,s2,Gk,hI2,Ct⟩
  ·subst hm;exact⟨_,s',aC,hq,jC,rfl⟩
  ·exact HZ
  ·exact H6
def IQ(tmps:Array Value)(r:ResultVar):Sem Value:=
 match r with
 | .tmp t=>pure (tmps.getD t undef)
 | .cell p t=>do loadVar t (<- asAddr (tmps.getD p undef))
theorem s9(pU:ax M φ s.H w)(dW:∀i,V.den (ak M φ s.H) φ s.H w (s.env i) (a.tmps.getD i undef)):∀ (rs:List ResultVar) (vs:List V),lA P s rs=some vs->
 ∃vals,(rs.mapM (IQ a.tmps)).run P w= .ok vals w/\V.az (ak M φ s.H) φ s.H w vs vals
 |[],vs,h=>by simp[lA]at h;subst h;exact⟨[],aG,rfl⟩
 | .tmp t::rs,vs,h=>by
   simp only[lA,Option.map_eq_some_iff]at h
   obtain⟨us,h1,rfl⟩:=h
   obtain⟨vals,h2,h3⟩:=s9 pU dW rs us h1
   exact⟨a.tmps.getD t undef::vals,by simp only[List.mapM_cons,IQ,Sem.run_bind,Sem.run_pure,Result.andThen_ok,h2],_,_,rfl,dW t,h3⟩
 | .cell p t::rs,vs,h=>by
   simp only[lA]at h
   split at h
   ·rename_i id off hv
    split at h
    ·rename_i cs ho
     simp only[Option.bind_eq_some_iff,Option.map_eq_some_iff]at h
     obtain⟨v,h0,us,h1,rfl⟩:=h
     obtain⟨vals,h2,h3⟩:=s9 pU dW rs us h1
     have hx:=dW p
     rw[hv]at hx
     obtain⟨_,hu,hp⟩:=hx
     obtain⟨k,e8,eA⟩:=hp (by show(s.o id).bY=true;rw[ho];rfl)
     have aS:=pU.ok id
     have wo:s.H.o id= .row cs:=ho
     simp only[aO,wo]at aS
     obtain⟨b',dJ,ty,g1,g2,g3,g4⟩:=aS
     rw[e8]at g1;simp at g1;subst g1
     obtain⟨val,h4,h5⟩:=pF (P:=P) h0 ⟨k,0,none⟩ dJ.toList g3 g4 (fun j u hj=>pG g2 j u me) rfl
     rw[add_plain,Nat.zero_add]at h4
     have h6:(loadVar t ⟨k,off,none⟩).run P w= .ok val w:=by simpa[Instr.loadAt,Instr.sureAddr]using h4
     exact⟨val::vals,by simp only[List.mapM_cons,IQ,eA,asAddr,Sem.run_bind,Sem.run_pure,Result.andThen_ok,h6,h2],val,vals,rfl,h5,h3⟩
    ·cases h
   ·cases h
theorem mF{fn:Func}{tmps:Array Value}{vals:List Value}
 (h:(fn.results.toList.mapM (IQ tmps)).run P w= .ok vals w):
 (results fn tmps).run P w= .ok (if h:vals.toArray.size=1 then vals.toArray[0]else .tuple vals.toArray) w:=by
 have e:results fn tmps=(do let vs <- fn.results.mapM (IQ tmps);pure (if h:vs.size=1 then vs[0]else .tuple vs)):=by
  unfold results
  congr 2
 rw[e,Array.mapM_eq_mapM_toList]
 simp only[Sem.run_bind,Sem.run_map,h,Result.andThen_ok,Sem.run_pure]
theorem nw{us:Nat->Prop}(φ:Place)(hM:∀k,M k->k<w.heap.size):ax M φ ⟨fun _=> .no,us⟩ w where
 ok id:=by simp[aO]
 fresh _ _:=rfl
 apart i j k hi:=by simp[aa.live]at hi
 ours k:=by rintro⟨id,h,_⟩;simp[aa.live]at h
 zE:=hM
theorem Gl{vals:Array Value}{m i:Nat}:(vals++Array.replicate m undef).getD i undef=(vals[i]?).getD undef:=by
 simp only[Array.getD_eq_getD_getElem?,Array.getElem?_append]
 split
 ·rfl
 ·rw[Array.getElem?_eq_none (xs:=vals) (by omega)]
  simp only[Array.getElem?_replicate]
  split<;>rfl
structure yp (M:Nat->Prop) (cm:Place) (H0:Hp) (w0:World) (φ:Place) (s:S) (tmps:Array Value) (w:World):Prop where
 heap:ax M φ s.H w
 tr:Trans cm H0 w0 φ s.H w
 env:∀i,V.den (ak M φ s.H) φ s.H w (s.env i) (tmps.getD i undef)
theorem Gm{tmps:Array Value}(hs:yp M cm H0 w0 φ s tmps w){r:Nat}(h1:w0.heap.size<=r)(h2:w.heap[r]? =some (.deferred (some [])))(h3: ¬cF φ s.H r):
 yp M cm H0 w0 φ s tmps {w with heap:=w.heap.setIfInBounds r (.deferred none)}:=by
 have j8:∀b,b≠r->(w.heap.setIfInBounds r (.deferred none))[b]? =w.heap[b]? :=fun b hb=>(MapKept.heap_set h2).2 b hb
 have tL:∀b,cH w b-> ¬ak M φ s.H b->(w.heap.setIfInBounds r (.deferred none))[b]? =w.heap[b]? /\ ¬ak M φ s.H b:=by
  intro b hc hn
  refine⟨j8 b fun e=> ?_,hn⟩
  subst e
  rcases hc with⟨cs,ty,fz,hc⟩|⟨es,clock,hc⟩
  ·rw[h2]at hc;cases hc
  ·rw[h2]at hc;cases hc
 refine⟨⟨fun id=> ?_,hs.heap.fresh,hs.heap.apart,fun b hb=>⟨(hs.heap.ours b hb).1,by simpa using(hs.heap.ours b hb).2⟩,fun b hb=>by simpa using hs.heap.zE b hb⟩,⟨⟨hs.tr.cf.os,hs.tr.cf.tape,hs.tr.cf.output,by simpa using hs.tr.cf.size,fun j hj hm=> ?_⟩,hs.tr.grow,hs.tr.rel⟩,fun i=>V.kE tL (dK.refl _ _) _ _ (hs.env i)⟩
 ·exact aO.Ak tL (dK.refl _ _) rfl rfl (fun hl b hb=>j8 b fun e=>h3 ⟨id,hl,e ▸ hb⟩) (hs.heap.ok id)
 ·rw[j8 j (by omega)];exact hs.tr.cf.block j hj hm
theorem gw{fn:Func}{R:Ending->World->Prop}{u:FrameMode}(hu:u≠ .run){tmps tb:Array Value}{ds:List Deferred}(hR:∀w,yp M cm H0 w0 φ s tb w->LeavesInM (dD none) k P fn tmps R ds u w):
 ∀ (ms:List Nat) (w:World),ms.Nodup->(∀r∈ms,w0.heap.size<=r/\w.heap[r]? =some (.deferred (some []))/\ ¬cF φ s.H r)->yp M cm H0 w0 φ s tb w->LeavesInM (dD none) k P fn tmps R (ms.map mark++ds) u w
 |[],w,_,_,hs=>hR w hs
 |r::ms,w,hn,hm,hs=>by
  obtain⟨h1,h2,h3⟩:=hm r aG
  obtain⟨OA,K4⟩:=List.nodup_cons.1 hn
  refine⟨hu, .inl ⟨r,{w with heap:=w.heap.setIfInBounds r (.deferred none)},rfl, ?_,gw hu hR ms _ K4 (fun r' Ge=> ?_) (Gm hs h1 h2 h3)⟩⟩
  ·simp[Instr.takeDeferred,getObj,setObj,Sem.run,h2,Result.andThen]
  ·obtain⟨g1,g2,g3⟩:=hm r' (by simp[Ge])
   exact⟨g1,((MapKept.heap_set h2).2 r' (fun e=>OA (e ▸ Ge))).trans g2,g3⟩
theorem bT.toB (hs:bT M cm H0 w0 n cx φ s a w):yp M cm H0 w0 φ s a.tmps w:=⟨hs.heap,hs.tr,hs.env⟩
def lC(P:Program)(rs:List ResultVar)(K X:V->(Nat->aa)->Nat->Prop)(e:fw)(s:S):Prop:=
 match e with
 | .normal| .ret=>match lA P s rs with
   |some [v]=>K v s.o s.nx
   |some vs=>K (.bN vs) s.o s.nx
   |none=>False
 | .bB v=>X v s.o s.nx
 | .exit _=>False
theorem AU{P:Program}{rs:List ResultVar}{K X:V->(Nat->aa)->Nat->Prop}{s:S}(h:lC P rs K X .ret s):∃vs,lA P s rs=some vs/\K (match vs with|[v]=>v|vs=> .bN vs) s.o s.nx:=by
 unfold lC at h
 simp only at h
 split at h
 ·rename_i v h1;exact⟨[v],h1,h⟩
 ·rename_i vs h1 h2
  refine⟨vs,h2, ?_⟩
  split
  ·exact absurd rfl (h1 _)
  ·exact h
 ·exact h.elim
theorem AV:∀ {vs:List V} {vals:List Value},V.az (ak M φ H) φ H w vs vals->V.den (ak M φ H) φ H w (match vs with|[v]=>v|vs=> .bN vs) (if h:vals.toArray.size=1 then vals.toArray[0]else .tuple vals.toArray)
 |[],vals,h=>by simp only[V.az]at h;subst h;exact⟨#[],rfl,rfl⟩
 |[v],vals,h=>by obtain⟨u,us,rfl,h1,h2⟩:=h;simp only[V.az]at h2;subst h2;exact h1
 |v::y::l,vals,h=>by
  have h':=h
  obtain⟨u,us,rfl,h1,u2,us2,rfl,h2⟩:=h
  exact⟨(u::u2::us2).toArray,aG,by simpa using h'⟩
theorem Ab{vals:Array Value}{m:Nat}{vs:List V}(hd:V.az (ak M φ H) φ H w vs vals.toList)(i:Nat):V.den (ak M φ H) φ H w (bZ vs i) ((vals++Array.replicate m undef).getD i undef):=by
 have hlen:=V.ay _ _ hd
 simp only[bZ,Gl]
 cases hx:vs[i]? with
 |none=>
  have:vals[i]? =none:=by
   rw[List.getElem?_eq_none_iff]at hx
   apply Array.getElem?_eq_none
   simp at hlen;omega
  simp only[List.getD_eq_getElem?_getD,hx,this]
  exact⟨#[],rfl,rfl⟩
 |some v=>
  obtain⟨u,hu,Lz⟩:=V.c9 _ _ _ _ hd hx
  have zV:vals[i]? =some u:=by simpa using hu
  simp only[List.getD_eq_getElem?_getD,hx,zV,Option.getD_some]
  exact Lz
theorem mG{f:FuncId}{fn:Func}{c:Code}{args:Array Value}{w:World}{R:Ending->World->Prop}(hf:P.funcs[f]? =some fn)(hb:fn.body=some c)
 (h:c.sQ P none (bodyPostM (dD none) k P fn R) {tmps:=args++Array.replicate (fn.ntmps - args.size) undef,defers:=[]} w):CallsIn (dD none) k P f args w R:=by
 have bW:f<P.funcs.size:=(Array.getElem?_eq_some_iff.1 hf).1
 refine⟨trivial,fun cs hr=> ?_⟩
 let b:Frame:={(default:Frame)with fn:=f,kind:= .normal,roundOf:=none}
 have lB:Frame.enter P f args .normal=b.atR {tmps:=args++Array.replicate (fn.ntmps - args.size) undef,defers:=[]} [.code c]:=by
  simp[Frame.enter,Frame.atR,hf,hb,b]
 obtain⟨e,a',w',hq,c7⟩:=h b [] cs rfl bW
 rw[<- lB]at c7
 cases e with
 |normal=>
  obtain⟨e',QH,fr',hR,hs,Ho,hl⟩:=leaves_stepsInM a'.defers .returning w' {b.atR a' []with mode:= .returning} cs rfl rfl rfl hf rfl (trivial:(dD none).fn f) hr hq
  exact⟨e',QH,fr',hR,ComesIn.of_steps (StepsIn.trans c7 (.one (fenced_calm (n:=0) (fr:=b.atR a' []) trivial gu rfl) (stepR_end rfl))) hs,Ho,hl⟩
 |ret=>
  obtain⟨todo,NP⟩:=c7.1 rfl
  obtain⟨e',QH,fr',hR,hs,Ho,hl⟩:=leaves_stepsInM a'.defers .returning w' {b.atR a' todo with mode:= .returning} cs rfl rfl rfl hf rfl (trivial:(dD none).fn f) hr hq
  exact NO
 |panic chain=>
  obtain⟨todo,NP⟩:=c7
  obtain⟨e',QH,fr',hR,hs,Ho,hl⟩:=leaves_stepsInM a'.defers (.panicking chain) w' {b.atR a' todo with mode:= .panicking chain} cs rfl rfl rfl hf rfl (trivial:(dD none).fn f) hr hq
  exact NO
 |exit id=>exact hq.elim
 |goto l=>exact hq.elim
 |outgrown=>exact⟨.outgrown,w',b,hq,c7.resolve_left (by simp[b]),rfl,trivial⟩
def C2(P:Program)(l:Nat)(R:Ending->World->Prop):Exit->Act->World->Prop
 | .normal,_,w=>∃v w',(Instr.endRound l none).run P w= .ok v w'/\R (.returned v) w'
 | .ret,_,w=>∃v w',(Instr.endRound l (some .ret)).run P w= .ok v w'/\R (.returned v) w'
 | .exit id,_,w=>∃v w',(Instr.endRound l (some (.exit id))).run P w= .ok v w'/\R (.returned v) w'
 | .goto _,_,_=>False
 | .panic chain,a,w=>a.defers=[]/\R (.panicked chain) w
 | .outgrown,_,_=>False
theorem ud{l:Nat}{f:FuncId}{tmps:Array Value}{assign body:Code}{w:World}{R:Ending->World->Prop}(hf:f<P.funcs.size)
 (h:assign.sQ P (some l) (Exit.then (fun nO jb=>∃re,(Instr.beginRound l).run P jb= .ok () re/\body.sQ P (some l) (C2 P l R) nO re) (fun e a w=>match e with| .panic chain=>a.defers=[]/\R (.panicked chain) w|_=>False))
  {tmps:=tmps,defers:=[]} w):
 RoundIn Fence.wide n P l f tmps assign body w R:=by
 refine⟨trivial,fun c cs hr=> ?_⟩
 let b:Frame:={(default:Frame)with fn:=f,kind:= .normal,roundOf:=some l}
 have Xa:Frame.round l f tmps assign body .normal=b.atR {tmps:=tmps,defers:=[]} [.code assign, .beginRound, .code body]:=by
  simp[Frame.round,Frame.atR,b]
 have calm:∀ (m:Machine),m.fenced P Fence.wide:=fun m=>fenced_wide P m
 have bB:∀ {a:Act} {w:World} {todo:List Item} {chain:List PanicEntry},a.defers=[]->step P (lone {b.atR a todo with mode:= .panicking chain} (c::cs) w)= .next (lone (c.raise chain) cs w):=by
  intro a w todo chain hd
  exact step_leave_panicked (fr:={b.atR a todo with mode:= .panicking chain}) ⟨rfl,hd,P.funcs[f],by show P.funcs[f]? =_;simp[hf]⟩
 obtain⟨e,nO,jb,hq,c7⟩:=h b [.beginRound, .code body] (c::cs) rfl hf
 rw[<- Xa]at c7
 cases e with
 |normal=>
  obtain⟨re,hbr,pV⟩:=hq
  have s1:StepsIn (Machine.fenced P Fence.wide) P (lone (b.atR nO [.beginRound, .code body]) (c::cs) jb) (lone (b.atR nO [.code body]) (c::cs) re):= .one (calm _) (stepR_beginRound rfl hbr)
  obtain⟨Q7,W8,CY,pS,jP⟩:=pV b [] (c::cs) rfl hf
  have c7:StepsIn (Machine.fenced P Fence.wide) P _ _:=c7
  cases Q7 with
  |normal=>
   obtain⟨v,sR,eg,hR⟩:=pS
   have jP:StepsIn (Machine.fenced P Fence.wide) P _ _:=jP
   exact⟨.returned v,sR,hR,(StepsIn.trans c7 s1).trans (StepsIn.trans jP (.one (calm _) (stepR_round_end rfl rfl eg)))⟩
  |ret=>
   obtain⟨v,sR,eg,hR⟩:=pS
   obtain⟨k₁,hs⟩:=jP.2 rfl
   have hs:StepsIn (Machine.fenced P Fence.wide) P _ _:=hs
   exact⟨.returned v,sR,hR,(StepsIn.trans c7 s1).trans (StepsIn.trans hs (.one (calm _) (stepR_round_ret rfl rfl eg)))⟩
  |exit id=>
   obtain⟨v,sR,eg,hR⟩:=pS
   obtain⟨k₁,hk,hs⟩:=jP.2 rfl rfl
   have hs:StepsIn (Machine.fenced P Fence.wide) P _ _:=hs
   exact⟨.returned v,sR,hR,(StepsIn.trans c7 s1).trans (StepsIn.trans hs (.one (calm _) (stepR_round_exit rfl rfl hk eg)))⟩
  |goto t=>exact pS.elim
  |panic chain=>
   obtain⟨todo,hs⟩:=jP
   have hs:StepsIn (Machine.fenced P Fence.wide) P _ _:=hs
   exact⟨.panicked chain,CY,pS.2,(StepsIn.trans c7 s1).trans (StepsIn.trans hs (.one (calm _) (bB pS.1)))⟩
  |outgrown=>exact pS.elim
 |exit id=>exact hq.elim
 |goto t=>exact hq.elim
 |ret=>exact hq.elim
 |panic chain=>
  obtain⟨todo,hs⟩:=c7
  have hs:StepsIn (Machine.fenced P Fence.wide) P _ _:=hs
  exact⟨.panicked chain,jb,hq.2,StepsIn.trans hs (.one (calm _) (bB hq.1))⟩
 |outgrown=>exact hq.elim
theorem cO.EG {f:FuncId}{fn:Func}{c:Code}{args:List V}{o:Nat->aa}{nx:Nat}{K X:V->(Nat->aa)->Nat->Prop}(hf:P.funcs[f]? =some fn)(hn:(fn.name== "runtime.NumGoroutine")=false)(pV:fn.body=some c)(hl:args.length<=fn.ntmps)
 (h:iL P fn.ntmps nx false c (lC P fn.results.toList K X) ⟨bZ args,o,nx⟩):cO P f args o nx K X:=by
 refine⟨⟨fn,hf,hn,by rw[pV];rfl⟩,fun M φ w vals hH hd=> ?_⟩
 have hlen:=V.ay _ _ hd
 let s0:S:=⟨bZ args,o,nx⟩
 let a0:Act:={tmps:=vals++Array.replicate (fn.ntmps - vals.size) undef,defers:=[]}
 have oK:bT M φ (hp o nx) w fn.ntmps ⟨[],false⟩ φ s0 a0 w:=by
  exact Wx
 refine AK (ro:=none) (k:=0) (mG hf pV (gv (gL (P:=P) (H0:=hp o nx) (b:=nx) (cx:=⟨[],false⟩) (ro:=none) (fun id hu=>hu) (fun _=>rfl) c _ s0 φ a0 w h oK) ?_))
 rintro e a w' ⟨x,s,aC,hq,hs,hm⟩
 obtain⟨ms,g1,g2,g3,g4⟩:=hs.defers
 rw[List.append_nil]at g1
 have done:(x= .normal\/x= .ret)->LeavesInM (dD none) 0 P fn a.tmps (mA M φ (hp o nx) w K X) a.defers .returning w':=by
  intro hx
  have hq':lC P fn.results.toList K X .ret s:=by rcases hx with rfl|rfl<;>exact hq
  obtain⟨vs,h1,h2⟩:=AU hq'
  rw[g1]
  have:=gw (P:=P) (k:=0) (fn:=fn) (R:=mA M φ (hp o nx) w K X) (u:= .returning) aG (ds:=[]) (fun w2 hb=>by
   obtain⟨vals,h3,h4⟩:=s9 (P:=P) (a:=a) hb.heap hb.env _ _ h1
   exact⟨_,mF h3,aC,s.o,s.nx,_,hb.heap,hb.tr,AV h4,h2⟩) ms w' g2 g4 hs.toB
  rwa [List.append_nil]at this
 cases e<;>cases x<;>first|(exact hm.elim)|skip
 ·exact done (.inl rfl)
 ·exact hq.elim
 ·exact done (.inr rfl)
 ·rename_i v
  obtain⟨val,rfl,LS⟩:=hm
  show LeavesInM (dD none) 0 P fn a.tmps (mA M φ (hp o nx) w K X) a.defers _ w'
  rw[g1]
  have Xa:yp M φ (hp o nx) w aC ⟨fun i=>if i=0 then v else .ab,s.o,s.nx⟩ #[val] w':=⟨hs.heap,hs.tr,fun i=>by
   by_cases hi:i=0
   ·subst hi;exact LS
   ·simp only[hi,if_false];trivial⟩
  have:=gw (P:=P) (k:=0) (fn:=fn) (s:=⟨fun i=>if i=0 then v else .ab,s.o,s.nx⟩) (tmps:=a.tmps) (tb:=#[val]) (cm:=φ) (H0:=hp o nx) (w0:=w) (R:=mA M φ (hp o nx) w K X) (u:= .panicking [{v:=val,recovered:=false}]) aG (ds:=[]) (fun w2 hb=>by
   have h0:=hb.env 0
   exact⟨aC,s.o,s.nx,v,hb.heap,hb.tr,val,rfl,h0,hq⟩) ms w' g2 g4 Xa
  rwa [List.append_nil]at this
theorem aV.lD {f:FuncId}{ds:List D}{out:R}(h:cO P f (ds.map .d) (fun _=> .no) 0 (fun v o _=>∃vs rs,v=(match vs with|[v]=>v|vs=> .bN vs)/\bR o vs=some rs/\out= .ret rs) (fun v o _=>∃x,dL o v=some x/\out= .bB x)):aV P f ds out:=by
 refine⟨h.1,fun M w vals hM hd=> ?_⟩
 let cm:Place:=fun _=> .nilFunc
 have vE:∀b, ¬cF cm (hp (fun _=> .no) 0) b:=by rintro b ⟨id,hl,_⟩;simp[hp,aa.live]at hl
 refine(h.2 M cm w vals (nw cm hM) ((V.cg _ _).2 (D.aQ (w:=w) (w':=w) (B:=M) (fun b _ hB=>⟨rfl,fun h=>h.elim hB (vE b)⟩) _ _ hd))).mono ?_
 rintro e w' ⟨aC,o',nx',v,k1,k2,k3⟩
 have Xb:eh (fun _=>False) w w':=⟨k2.cf.os,k2.cf.tape,k2.cf.output,k2.cf.size,fun k hk _=>k2.cf.block k hk (vE k)⟩
 have fin:∀ (vs:List V) (xs:List D) (vals:List Value),bR o' vs=some xs->V.az (ak M aC (hp o' nx')) aC (hp o' nx') w' vs vals->D.az M w' xs vals:=by
  intro vs xs vals h1 h2
  obtain⟨f1,f2,f3,f4,f5⟩:=cX k1 (V.a8 vs) (cM vs _ h2)
  have h3:=de f1 vs xs vals f3 h1 (V.aQ f2 _ _ h2)
  exact D.aQ (w:=w') (w':=w') (fun k _ hB=>⟨rfl,fun hM=>hB (.inl hM)⟩) xs vals h3
 refine⟨Xb, ?_⟩
 cases e with
 |outgrown=>exact k3.elim
 |panicked ch=>
  obtain⟨val,rfl,g1,x,g2,rfl⟩:=k3
  have:=fin [v] [x] [val] (by simp[bR,g2]) ⟨val,[],rfl,g1,rfl⟩
  obtain⟨u,us,he,h2,_⟩:=this
  simp at he;obtain⟨rfl,rfl⟩:=he
  exact⟨val,rfl,h2⟩
 |returned val=>
  obtain⟨g1,vs,rs,rfl,g2,rfl⟩:=k3
  match vs,g1,g2 with
  |[],g1,g2=>
   obtain⟨arr,rfl,hv⟩:=g1
   simp only[bR,Option.some.injEq]at g2;subst g2
   exact⟨arr,rfl,hv⟩
  |[v],g1,g2=>
   have:=fin [v] rs [val] g2 ⟨val,[],rfl,g1,rfl⟩
   cases rs with
   |nil=>cases this
   |cons x l=>
    obtain⟨u,us,he,h2,h3⟩:=this
    simp at he;obtain⟨rfl,rfl⟩:=he
    cases l with
    |nil=>exact h2
    |cons y l=>obtain⟨_,_,h,_⟩:=h3;cases h
  |v::v2::l,g1,g2=>
   obtain⟨arr,rfl,h⟩:=g1
   have:=fin (v::v2::l) rs arr.toList g2 h
   have hl:=D.ay _ _ this
   have We:=V.ay _ _ h
   match rs,hl,this with
   |[],hl,_=>exact Ec
   |[x],hl,_=>exact Ec
   |x::y::l,_,this=>exact⟨arr,rfl,this⟩
theorem Gn{rs:List ResultVar}{out:R}(e:fw)(s:S)(h:yl P rs out e s):
 lC P rs (fun v o _=>∃vs rs,v=(match vs with|[v]=>v|vs=> .bN vs)/\bR o vs=some rs/\out= .ret rs) (fun v o _=>∃x,dL o v=some x/\out= .bB x) e s:=by
 have ret:yl P rs out .ret s->lC P rs (fun v o _=>∃vs rs,v=(match vs with|[v]=>v|vs=> .bN vs)/\bR o vs=some rs/\out= .ret rs) (fun v o _=>∃x,dL o v=some x/\out= .bB x) .ret s:=by
  intro h
  obtain⟨vs,xs,h1,h2,h3⟩:=IG h
  simp only[lC,h1]
  match vs,h2 with
  |[],h2=>exact⟨[],xs,rfl,h2,h3⟩
  |[v],h2=>exact⟨[v],xs,rfl,h2,h3⟩
  |v::v2::l,h2=>exact⟨v::v2::l,xs,rfl,h2,h3⟩
 cases e with
 |normal=>exact ret h
 |ret=>exact ret h
 |exit id=>exact h.elim
 |bB v=>exact II h
end
end
section
def IU{α:Type}(c:Bool)(x:α):Option α:=if c=true then some x else none
def one(v:V):Option fG:=some (v,[],[])
def AW(op:BinOp)(k:IntKind)(a b:Int):Option V:=
 match op with
 | .add=>some (.d (.int k (k.wrap (a+b))))
 | .sub=>some (.d (.int k (k.wrap (a - b))))
 | .mul=>some (.d (.int k (k.wrap (a*b))))
 | .quo=>if b=0 then none else some (.d (.int k (k.wrap (a.tdiv b))))
 | .rem=>if b=0 then none else some (.d (.int k (a.tmod b)))
 | .and=>(tF .and k a b).map fun r=> .d (.int k r)
 | .or=>(tF .or k a b).map fun r=> .d (.int k r)
 | .xor=>(tF .xor k a b).map fun r=> .d (.int k r)
 | .andNot=>(tF .andNot k a b).map fun r=> .d (.int k r)
 | .eql=>some (.d (.bool (a==b)))| .neq=>some (.d (.bool (a !=b)))| .lss=>some (.d (.bool (decide (a<b))))| .leq=>some (.d (.bool (decide (a<=b))))
 | .gtr=>some (.d (.bool (decide (b<a))))| .geq=>some (.d (.bool (decide (b<=a))))
 |_=>none
def nz(P:Program)(t:TypeId):Bool:=
 match P.underlying t with
 |some .bool=>true
 |_=>false
def yq(P:Program)(op:BinOp)(t:TypeId)(x y:V):Option V:=
 match x,y with
 | .d (.int k a), .d (.int k' b)=>if k=k' then AW op k a b else none
 | .d (.bool a), .d (.bool b)=>match op with
   | .eql=>IU (nz P t) (.d (.bool (a==b)))
   | .neq=>IU (nz P t) (.d (.bool (a !=b)))
   |_=>none
 | .d (.str a), .d (.str b)=>match op with
   | .eql=>some (.d (.bool (a==b)))
   | .neq=>some (.d (.bool (a !=b)))
   |_=>none
 |_,_=>none
def unF(op:UnOp)(x:V):Option V:=
 match op,x with
 | .neg, .d (.int k n)=>some (.d (.int k (k.wrap (-n))))
 | .not, .d (.bool b)=>some (.d (.bool !b))
 |_,_=>none
def pW(c a b:V):Option V:=
 match c with
 | .d (.bool true)=>some a
 | .d (.bool false)=>some b
 |_=>none
def pX(o:Nat->aa)(x:V):Option (List D×List Nat):=
 match x with
 | .d (.sl es)=>some (es,[])
 | .aM=>some ([],[])
 | .oA es=>some (es,[])
 | .osl id ep=>match o id with
   | .arr fF _ _ es=>if ep=fF then some (es,[id])else none
   | .sZ fF es=>if ep=fF then some (es,[id])else none
   |_=>none
 |_=>none
def C3(P:Program)(t:TypeId)(o:Nat->aa)(x:V):Option fG:=
 match P.underlying t with
 |some (.slice _)=>match pX o x with
  |some (es,rd)=>some (.d (.int .i64 es.length),[],rd)
  |none=>none
 |some .string=>match x with
  | .d (.str s)=>one (.d (.int .i64 s.length))
  |_=>none
 |some (.array n _)=>one (.d (.int .i64 n))
 |_=>none
def w6(P:Program)(e:TypeId)(es:List D)(i:Int)(rd:List Nat):Option fG:=
 if 0<=i then match es[i.toNat]? with
  |some y=>IU (y.cells.length==P.cellsOf e&&0<P.cellsOf e) (.pp y.cells 0,[],rd)
  |none=>none
 else none
def om(o:Nat->aa)(x:V)(q:Nat):Option V:=
 match x with
 | .ptr id off=>IU (o id).bY (.ptr id (off+q))
 | .pp cs off=>some (.pp cs (off+q))
 | .pe id ep j sz off=>if(o id).b9=some ep then some (.pe id ep j sz (off+q))else none
 |_=>none
def gM(P:Program)(o:Nat->aa)(t:TypeId)(x ix:V):Option fG:=
 match ix with
 | .d (.int _ i)=>match bP P t with
   |some e=>match x with
    | .d (.sl es)=>w6 P e es i []
    | .oA es=>w6 P e es i []
    | .osl id ep=>match o id with
      | .arr fF _ sz es=>if ep=fF/\0<=i/\i.toNat<es.length/\sz=P.cellsOf e/\0<P.cellsOf e then some (.pe id ep i.toNat sz 0,[],[id])else none
      | .sZ fF es=>if ep=fF then w6 P e es i [id]else none
      |_=>none
    |_=>none
   |none=>match x4 P t with
    |some (n,e)=>if 0<=i/\i<n/\(P.info? e).isSome=true then(om o x (i.toNat*P.cellsOf e)).bind one else none
    |none=>none
 |_=>none
def gN(P:Program)(o:Nat->aa)(t:TypeId)(x:V)(f:Nat):Option V:=
 match bS P t f with
 |some q=>om o x q
 |none=>none
def mH(P:Program)(o:Nat->aa)(t:TypeId)(x:V):Option fG:=
 match x with
 | .ptr id off=>match o id with
   | .row cs=>match eF P t cs off with
     |some v=>some (v,[],[id])
     |none=>none
   |_=>none
 | .pp cs off=>match eF P t (cs.map .d) off with
   |some v=>some (v,[],[])
   |none=>none
 | .pe id ep i sz off=>match o id with
   | .arr fF _ qJ es=>if ep=fF/\sz=qJ then match es[i]? with
    |some e=>match eF P t (e.cells.map .d) off with
     |some v=>some (v,[],[id])
     |none=>none
    |none=>none
     else none
   |_=>none
 |_=>none
def ri(P:Program)(o:Nat->aa)(t:TypeId)(x v:V):Option fG:=
 match x with
 | .ptr id off=>match o id with
   | .row cs=>match x5 P t cs off v with
     |some cs'=>some (.bN [],[(id, .row cs')],[id])
     |none=>none
   |_=>none
 | .pe id ep i qJ off=>match o id with
   | .arr fF ty sz es=>if ep=fF/\qJ=sz then match es[i]?,dL o v with
    |some e,some y=>if y.cells.length=P.cellsOf t/\0<y.cells.length/\v.ids.all (· !=id)=true then match e.put off y.cells with
     |some e'=>some (.bN [],b7 o v.ids++[(id, .arr ep ty sz (es.set i e'))],id::v.ids)
     |none=>none
     else none
    |_,_=>none
     else none
   |_=>none
 |_=>none
def fO(P:Program)(o:Nat->aa)(fr:Nat)(t:TypeId)(len:Nat)(parts:List (Nat×V)):Option fG:=
 match bP P t with
 |some e=>if len=0/\parts.isEmpty=true/\0<P.cellsOf e then some (.osl fr 0,[(fr, .arr 0 e (P.cellsOf e) [])],[])else if parts.map (·.1)=List.range len/\(ct P e).isSome=true/\0<len/\0<P.cellsOf e/\len*P.cellsOf e<=2^24 then match bR o (parts.map (·.2))with
  |some ds=>if ds.all (fun x=>x.cells.length==P.cellsOf e)=true then some (.osl fr 0,b7 o (V.a8 (parts.map (·.2)))++[(fr, .arr 0 e (P.cellsOf e) ds)],V.a8 (parts.map (·.2)))else none
  |none=>none
  else none
 |none=>none
def lE(P:Program)(fr:Nat)(t:TypeId)(l c:V):Option fG:=
 match bP P t with
 |some e=>match l,c with
  | .d (.int _ n), .d (.int _ m)=>if n=m/\0<=n/\0<P.cellsOf e/\P.bytesOf e*n.toNat<=2^47/\n.toNat<=2^47 then match Ag P e with
   |some x=>some (.osl fr 0,[(fr, .arr 0 e (P.cellsOf e) (List.replicate n.toNat x))],[])
   |none=>none
    else none
  |_,_=>none
 |none=>none
def pY(P:Program)(o:Nat->aa)(fr:Nat)(ts:Array TypeId)(x y:V):Option fG:=
 match ts.toList with
 |[t,t']=>if t=t' then match bP P t,pX o y with
    |some e,some (new,rd)=>if 0<P.cellsOf e/\(ct P e).isSome=true/\new.all (fun z=>z.cells.length==P.cellsOf e)=true then match x with
     | .aM=>if new.length<=2^47/\new.length*P.bytesOf e<=2^47 then some (.osl fr 0,[(fr, .arr 0 e (P.cellsOf e) new)],rd)else none
     | .oA es=>if es.all (fun z=>z.cells.length==P.cellsOf e)=true then(if new=[]then some (.oA es,[],rd)else if es.length+new.length<=2^40/\(es.length+new.length)*P.bytesOf e<=2^40 then some (.osl fr 0,[(fr, .arr 0 e (P.cellsOf e) (es++new))],rd)else none)else none
     | .osl id ep=>match o id with
       | .arr fF ty sz es=>if ep=fF/\ty=e/\sz=P.cellsOf e/\es.length+new.length<=2^47/\(es.length+new.length)*P.bytesOf e<=2^47 then
        some (.osl id (ep+1),[(id, .arr (ep+1) ty sz (es++new))],id::rd)else none
       |_=>none
     |_=>none
     else none
    |_,_=>none
  else none
 |_=>none
def pZ(isMax:Bool)(x y:V):Option V:=
 match x,y with
 | .d (.int k a), .d (.int k' b)=>if k=k' then some (.d (.int k (if isMax then(if b>a then b else a)else(if b<a then b else a))))else none
 |_,_=>none
def lF(x:Option V):Option fG:=match x with|some v=>one v|none=>none
def p9(P:Program)(s:S)(fr:Nat)(b:Builtin)(args:List Operand)(ts:Array TypeId):Option fG:=
 match b,args with
 | .len,[x]=>match ts.toList with
   |[t]=>C3 P t s.o (s.ev x)
   |_=>none
 | .append,[x,y]=>match wG P fr ts (s.ev x) (s.ev y)with
   |some r=>some r
   |none=>pY P s.o fr ts (s.ev x) (s.ev y)
 | .max,[x,y]=>lF (pZ true (s.ev x) (s.ev y))
 | .min,[x,y]=>lF (pZ false (s.ev x) (s.ev y))
 | .max,[x,y,z]=>lF (Ik (s.ev x) (s.ev y) (s.ev z))
 | .copy,[x,y]=>wF P s.o ts (s.ev x) (s.ev y)
 | .delete,[x,y]=>match ts.toList.head? with
   |some t=>nr P s.o t (s.ev x) (s.ev y)
   |none=>none
 | .cap,[x]=>Lu P ts (s.ev x)
 |_,_=>none
def yr(P:Program)(t:TypeId)(parts:List (Nat×V)):Option V:=
 match ct P t,cW P t with
 |some z,some pl=>match rX pl z parts with
  |some cs=>some (lR cs)
  |none=>none
 |_,_=>none
def iT(o:Nat->aa)(x:V):Option V:=
 match x with
 | .ptr id off=>IU (o id).bY (.ptr id off)
 | .pp cs off=>some (.pp cs off)
 | .func (.func f) first cap=>some (.func (.func f) first cap)
 |_=>none
def lG(P:Program)(t:TypeId):Bool:=
 match P.underlying t with
 |some (.interface _)=>false
 |some _=>true
 |none=>false
def IV(P:Program)(t:TypeId)(x:V):Option V:=
 IU (lG P t) (match x with
  | .d y=> .d (.iface t y)
  |v=> .iface t v)
def eZ(P:Program)(o:Nat->aa)(op:BinOp)(t:TypeId)(mj:Bool)(x y:V):Option fG:=
 match yq P op t x y with
 |some v=>one v
 |none=>qX P o op t mj x y
def FR(op:UnOp)(x:V):Option V:=
 match op,x with
 | .not, .fD=>some .fD
 |op,x=>unF op x
def fX(P:Program)(s:S)(fr:Nat)(op:Op):Option fG:=
 match op with
 | .move x=>one (s.ev x)
 | .assign x=>one (s.ev x)
 | .pick c a b=>lF (pW (s.ev c) (s.ev a) (s.ev b))
 | .alloc t=>match ct P t with
   |some cs=>some (.ptr fr 0,[(fr, .row cs)],[])
   |none=>none
 | .box _ x=>match(s.ev x).cells with
   |some cs=>some (.ptr fr 0,[(fr, .row cs)],[])
   |none=>none
 | .build t parts=>lF (yr P t (parts.toList.map fun p=>(p.1,s.ev p.2)))
 | .buildSlice t len parts=>fO P s.o fr t len (parts.toList.map fun p=>(p.1,s.ev p.2))
 | .load t x=>mH P s.o t (s.ev x)
 | .store t x v=>ri P s.o t (s.ev x) (s.ev v)
 | .nilCheck x=>lF (iT s.o (s.ev x))
 | .binOp op t x y _=>eZ P s.o op t (isConst x||isConst y) (s.ev x) (s.ev y)
 | .unOp op _ x=>lF (FR op (s.ev x))
 | .convert u t x=>match P.underlying u,tE P t,s.ev x with
   |some _,some k, .d (.int _ n)=>one (.d (.int k (k.wrap n)))
   |_,_,_=>none
 | .makeInterface t x=>lF (IV P t (s.ev x))
 | .makeFunc fn first cap=>one (.func fn (first.toList.map s.ev) (cap.toList.map s.ev))
 | .makeSlice t l c=>lE P fr t (s.ev l) (s.ev c)
 | .fieldAddr t x f=>lF (gN P s.o t (s.ev x) f)
 | .indexAddr t x i=>gM P s.o t (s.ev x) (s.ev i)
 | .extract x i=>match s.ev x with
   | .bN vs=>match vs[i]? with
     |some v=>one v
     |none=>none
   |_=>none
 | .call c=>match c.callee with
   | .builtin b=>p9 P s fr b c.args.toList c.argTypes
   |_=>none
 | .slice t x lo hi mx=>qU P s.o t (s.ev x) (lo.map s.ev) (hi.map s.ev) (mx.map s.ev)
 | .field t x f=>lF (tH P t (s.ev x) f)
 | .index t x i=>lF (tI P t (s.ev x) (s.ev i))
 | .typeAssert x _ t ok=>lF (pB P t ok (s.ev x))
 | .makeMap t none=>mm P fr t
 | .lookup t m k ok=>iO P s.o t (s.ev m) (s.ev k) ok
 | .mapUpdate t m k v=>ft P s.o t (s.ev m) (s.ev k) (s.ev v)
 | .insert t m k v=>ft P s.o t (s.ev m) (s.ev k) (s.ev v)
 | .range t x=>mn P s.o fr t (s.ev x)
 | .next x str=>oe s.o (s.ev x) str
 | .entry x=>mo s.o (s.ev x)
 |_=>none
section
variable {P:Program}{s:S}{fr:Nat}{v:V}{Δ:List (Nat×aa)}{rd:List Nat}{o:Nat->aa}{K:V->List (Nat×aa)->List Nat->Prop}
theorem rj{α:Type}{c:Bool}{x y:α}(h:IU c x=some y):c=true/\x=y:=by
 unfold IU at h;split at h
 ·injection h with h;exact⟨by assumption,h⟩
 ·cases h
theorem ke{x:V}{r:fG}(h:one x=some r):r=(x,[],[]):=by unfold one at h;injection h with h;exact h.symm
theorem iN{x:Option V}{r:fG}(h:lF x=some r):∃v,x=some v/\r=(v,[],[]):=by
 unfold lF at h;split at h
 ·exact⟨_,rfl,ke h⟩
 ·cases h
theorem C4{x:V}{es:List D}{rd:List Nat}(h:pX o x=some (es,rd)):eG o x=some es/\rd=x.ids:=by
 unfold pX at h
 split at h
 ·exact QG
 ·exact QG
 ·exact QG
 ·split at h
  ·rename_i ho
   split at h
   ·rename_i e;simp at h;obtain⟨rfl,rfl⟩:=h;exact⟨by simp[eG,dL,ho,e],rfl⟩
   ·cases h
  ·rename_i ho
   split at h
   ·rename_i e;simp at h;obtain⟨rfl,rfl⟩:=h;exact⟨by simp[eG,dL,ho,e],rfl⟩
   ·cases h
  ·cases h
 ·cases h
theorem Gp{op:BinOp}{k:IntKind}{a b:Int}{v:V}(h:AW op k a b=some v){K:V->Prop}(hK:K v):Lr op k a b K:=by
 cases op<;>simp only[AW]at h<;>simp only[Lr]
 case quo=>split at h
           ·cases h
           ·exact QF
 case rem=>split at h
           ·cases h
           ·exact QF
 case and=>simp only[Option.map_eq_some_iff]at h;obtain⟨r,h1,rfl⟩:=h;exact⟨r,h1,hK⟩
 case or=>simp only[Option.map_eq_some_iff]at h;obtain⟨r,h1,rfl⟩:=h;exact⟨r,h1,hK⟩
 case xor=>simp only[Option.map_eq_some_iff]at h;obtain⟨r,h1,rfl⟩:=h;exact⟨r,h1,hK⟩
 case andNot=>simp only[Option.map_eq_some_iff]at h;obtain⟨r,h1,rfl⟩:=h;exact⟨r,h1,hK⟩
 case shl=>cases h
 case shr=>cases h
 case eql=>injection h with h;subst h;exact⟨_,rfl,hK⟩
 case neq=>injection h with h;subst h;exact⟨_,rfl,hK⟩
 case lss=>injection h with h;subst h;exact⟨_,rfl,hK⟩
 case leq=>injection h with h;subst h;exact⟨_,rfl,hK⟩
 case gtr=>injection h with h;subst h;exact⟨_,rfl,hK⟩
 case geq=>injection h with h;subst h;exact⟨_,rfl,hK⟩
 all_goals (injection h with h;subst h;exact hK)
theorem Gq{op:BinOp}{t:TypeId}{x y v:V}(h:yq P op t x y=some v){K:V->Prop}(hK:K v):Ii P op t x y K:=by
 unfold yq at h
 unfold Ii
 split at h
 ·split at h
  ·exact⟨by assumption,Gp h hK⟩
  ·cases h
 ·have hb:nz P t=true->P.underlying t=some .bool:=by
   unfold nz;intro h;split at h
   ·assumption
   ·cases h
  split at h
  ·obtain⟨h1,rfl⟩:=rj h;exact⟨hb h1,hK⟩
  ·obtain⟨h1,rfl⟩:=rj h;exact⟨hb h1,hK⟩
  ·cases h
 ·split at h
  ·exact HP
  ·exact HP
  ·cases h
 ·cases h
theorem C5{c a b v:V}(h:pW c a b=some v){K:V->Prop}(hK:K v):Ae c a b K:=by
 unfold pW at h
 unfold Ae
 split at h
 ·injection h with h;subst h;exact⟨fun _=>hK,(fun h=>by cases h)⟩
 ·injection h with h;subst h;exact⟨(fun h=>by cases h),fun _=>hK⟩
 ·cases h
theorem ue{x y:V}{q:Nat}(h:om o x q=some y):(∃id off,x= .ptr id off/\(o id).bY=true/\y= .ptr id (off+q))\/(∃cs off,x= .pp cs off/\y= .pp cs (off+q))\/
 (∃id ep j sz off,x= .pe id ep j sz off/\(o id).b9=some ep/\y= .pe id ep j sz (off+q)):=by
 unfold om at h
 split at h
 ·obtain⟨h1,rfl⟩:=rj h;exact .inl ⟨_,_,rfl,h1,rfl⟩
 ·injection h with h;exact .inr (.inl ⟨_,_,rfl,h.symm⟩)
 ·split at h
  ·injection h with h;exact .inr (.inr ⟨_,_,_,_,_,rfl,by assumption,h.symm⟩)
  ·cases h
 ·cases h
theorem tA{e:TypeId}{es:List D}{i:Int}{rd:List Nat}{r:fG}(h:w6 P e es i rd=some r):
 0<=i/\∃y,es[i.toNat]? =some y/\y.cells.length=P.cellsOf e/\0<P.cellsOf e/\r=(.pp y.cells 0,[],rd):=by
 unfold w6 at h
 split at h
 ·rename_i h0
  split at h
  ·rename_i y hy
   obtain⟨h1,rfl⟩:=rj h
   simp only[Bool.and_eq_true,beq_iff_eq,decide_eq_true_eq]at h1
   exact⟨h0,y,hy,h1.1,h1.2,rfl⟩
  ·cases h
 ·cases h
theorem sS{t:TypeId}{x ix:V}(h:gM P o t x ix=some (v,Δ,rd))(hK:K v Δ rd):jf P o t x ix fun v rd=>K v [] rd:=by
 unfold gM at h
 unfold jf
 split at h
 ·simp only
  split at h
  ·rename_i e ht
   simp only[ht]
   split at h
   ·exact Wo
   ·exact Wo
   ·split at h
    ·rename_i ho
     split at h
     ·rename_i hc
      simp only[Option.some.injEq,Prod.mk.injEq]at h;obtain⟨rfl,rfl,rfl⟩:=h
      simp only[ho]
      exact⟨hc.1,hc.2.1,hc.2.2.1,hc.2.2.2.1,hc.2.2.2.2,hK⟩
     ·cases h
    ·rename_i ho
     split at h
     ·rename_i hc
      obtain⟨h0,y,h1,h2,h3,h4⟩:=tA h
      simp only[Prod.mk.injEq]at h4;obtain⟨rfl,rfl,rfl⟩:=h4
      simp only[ho]
      exact⟨hc,h0,y,h1,h2,h3,hK⟩
     ·cases h
    ·cases h
   ·cases h
  ·rename_i ht
   simp only[ht]
   split at h
   ·rename_i n e ha
    simp only[ha]
    split at h
    ·rename_i hc
     simp only[Option.bind_eq_some_iff]at h
     obtain⟨y,hy,h1⟩:=h
     have h1:=ke h1
     simp only[Prod.mk.injEq]at h1;obtain⟨rfl,rfl,rfl⟩:=h1
     refine⟨hc.1,hc.2.1,hc.2.2, ?_⟩
     rcases ue hy with⟨_,_,rfl,h2,rfl⟩|⟨_,_,rfl,rfl⟩|⟨_,_,_,_,_,rfl,h2,rfl⟩
     ·exact⟨h2,hK⟩
     ·exact hK
     ·exact⟨h2,hK⟩
    ·cases h
   ·cases h
 ·cases h
theorem sT{t:TypeId}{x y:V}{f:Nat}(h:gN P o t x f=some y){K:V->Prop}(hK:K y):jg P o t x f K:=by
 unfold gN at h
 unfold jg
 split at h
 ·rename_i q hq
  simp only[hq]
  rcases ue h with⟨_,_,rfl,h2,rfl⟩|⟨_,_,rfl,rfl⟩|⟨_,_,_,_,_,rfl,h2,rfl⟩
  ·exact⟨h2,hK⟩
  ·exact hK
  ·exact⟨h2,hK⟩
 ·cases h
theorem Gs{t:TypeId}{x:V}(h:C3 P t o x=some (v,Δ,rd))(hK:K v Δ rd):Ij P t o x fun v rd=>K v [] rd:=by
 unfold C3 at h
 unfold Ij
 split at h
 ·rename_i e hu
  simp only[hu]
  split at h
  ·rename_i es xU hl
   simp only[Option.some.injEq,Prod.mk.injEq]at h;obtain⟨rfl,rfl,rfl⟩:=h
   unfold pX at hl
   split at hl
   ·exact HT
   ·exact HT
   ·exact HT
   ·split at hl
    ·rename_i ho
     split at hl
     ·rename_i hc;simp at hl;obtain⟨rfl,rfl⟩:=hl;simp only[ho];exact⟨hc,hK⟩
     ·cases hl
    ·rename_i ho
     split at hl
     ·rename_i hc;simp at hl;obtain⟨rfl,rfl⟩:=hl;simp only[ho];exact⟨hc,hK⟩
     ·cases hl
    ·cases hl
   ·cases hl
  ·cases h
 ·rename_i hu
  simp only[hu]
  split at h
  ·have h1:=ke h;simp only[Prod.mk.injEq]at h1;obtain⟨rfl,rfl,rfl⟩:=h1;exact hK
  ·cases h
 ·rename_i hu
  simp only[hu]
  have h1:=ke h;simp only[Prod.mk.injEq]at h1;obtain⟨rfl,rfl,rfl⟩:=h1;exact hK
 ·cases h
theorem C6{t:TypeId}{x:V}(h:mH P o t x=some (v,Δ,rd))(hK:K v Δ rd):Af P o t x fun v rd=>K v [] rd:=by
 unfold mH at h
 unfold Af
 split at h
 ·split at h
  ·rename_i ho
   split at h
   ·rename_i hg
    exact WB
   ·cases h
  ·cases h
 ·split at h
  ·rename_i hg
   simp only[Option.some.injEq,Prod.mk.injEq]at h;obtain⟨rfl,rfl,rfl⟩:=h
   exact⟨_,hg,hK⟩
  ·cases h
 ·split at h
  ·rename_i ho
   split at h
   ·rename_i hc
    split at h
    ·rename_i e he
     split at h
     ·rename_i hg
      simp only[Option.some.injEq,Prod.mk.injEq]at h;obtain⟨rfl,rfl,rfl⟩:=h
      simp only[ho];exact⟨hc.1,hc.2,e,he,_,hg,hK⟩
     ·cases h
    ·cases h
   ·cases h
  ·cases h
 ·cases h
theorem AX{t:TypeId}{x y:V}(h:ri P o t x y=some (v,Δ,rd))(hK:K v Δ rd):tG P o t x y fun Δ rd=>K (.bN []) Δ rd:=by
 unfold ri at h
 unfold tG
 split at h
 ·split at h
  ·rename_i ho
   split at h
   ·rename_i hg
    exact WB
   ·cases h
  ·cases h
 ·split at h
  ·rename_i ho
   split at h
   ·rename_i hc
    split at h
    ·rename_i e z he hz
     split at h
     ·rename_i hl
      split at h
      ·rename_i e' hp
       simp only[Option.some.injEq,Prod.mk.injEq]at h;obtain⟨rfl,rfl,rfl⟩:=h
       simp only[ho]
       exact⟨hc.1,hc.2,e,he,z,hz,hl.1,hl.2.1,hl.2.2,e',hp,hK⟩
      ·cases h
     ·cases h
    ·cases h
   ·cases h
  ·cases h
 ·cases h
theorem rk{t:TypeId}{len:Nat}{parts:List (Nat×V)}(h:fO P o fr t len parts=some (v,Δ,rd))(hK:K v Δ rd):ig P o fr t len parts K:=by
 unfold fO at h
 unfold ig
 split at h
 ·rename_i e ht
  simp only[ht]
  split at h
  ·rename_i hc
   simp only[Option.some.injEq,Prod.mk.injEq]at h;obtain⟨rfl,rfl,rfl⟩:=h
   exact .inl ⟨hc.1,by simpa using hc.2.1,hc.2.2,hK⟩
  split at h
  ·rename_i hc
   refine .inr ?_
   split at h
   ·rename_i ds hd
    split at h
    ·rename_i hw
     simp only[Option.some.injEq,Prod.mk.injEq]at h;obtain⟨rfl,rfl,rfl⟩:=h
     refine⟨hc.1,hc.2.1,hc.2.2.1,hc.2.2.2.1,hc.2.2.2.2,ds,hd,fun x hx=> ?_,hK⟩
     simpa using List.all_eq_true.1 hw x hx
    ·cases h
   ·cases h
  ·cases h
 ·cases h
theorem sU{t:TypeId}{l c:V}(h:lE P fr t l c=some (v,Δ,rd))(hK:K v Δ rd):jh P fr t l c fun v Δ=>K v Δ []:=by
 unfold lE at h
 unfold jh
 split at h
 ·rename_i e ht
  split at h
  ·split at h
   ·rename_i hc
    split at h
    ·rename_i x hx
     simp only[Option.some.injEq,Prod.mk.injEq]at h;obtain⟨rfl,rfl,rfl⟩:=h
     simp only[ht]
     exact⟨hc.1,hc.2.1,hc.2.2.1,hc.2.2.2.1,hc.2.2.2.2,x,hx,hK⟩
    ·cases h
   ·cases h
  ·cases h
 ·cases h
theorem yu{ts:Array TypeId}{x y:V}(h:pY P o fr ts x y=some (v,Δ,rd))(hK:K v Δ rd):pz P o fr ts x y K:=by
 unfold pY at h
 unfold pz
 split at h
 ·rename_i t t' vU
  simp only[vU]
  split at h
  ·rename_i htt
   refine⟨htt, ?_⟩
   split at h
   ·rename_i e new xU ht hl
    obtain⟨qL,rfl⟩:=C4 hl
    simp only[ht]
    split at h
    ·rename_i hc
     refine⟨new,qL,hc.1,hc.2.1,fun z hz=>by simpa using List.all_eq_true.1 hc.2.2 z hz, ?_⟩
     split at h
     ·split at h
      ·rename_i tQ
       simp only[Option.some.injEq,Prod.mk.injEq]at h;obtain⟨rfl,rfl,rfl⟩:=h
       exact⟨tQ.1,tQ.2,hK⟩
      ·cases h
     ·split at h
      ·rename_i Ev
       refine⟨fun z hz=>by simpa using List.all_eq_true.1 Ev z hz, ?_⟩
       split at h
       ·rename_i hn
        simp only[Option.some.injEq,Prod.mk.injEq]at h;obtain⟨rfl,rfl,rfl⟩:=h
        rw[if_pos hn];exact hK
       ·rename_i hn
        split at h
        ·rename_i tQ
         simp only[Option.some.injEq,Prod.mk.injEq]at h;obtain⟨rfl,rfl,rfl⟩:=h
         rw[if_neg hn];exact⟨tQ.1,tQ.2,hK⟩
        ·cases h
      ·cases h
     ·split at h
      ·rename_i ho
       split at h
       ·rename_i tQ
        simp only[Option.some.injEq,Prod.mk.injEq]at h;obtain⟨rfl,rfl,rfl⟩:=h
        simp only[ho]
        exact⟨tQ.1,tQ.2.1,tQ.2.2.1,tQ.2.2.2.1,tQ.2.2.2.2,hK⟩
       ·cases h
      ·cases h
     ·cases h
    ·cases h
   ·cases h
  ·cases h
 ·cases h
theorem uf{x y:V}(h:iT o x=some y){K:V->Prop}(hK:K y):kF o x K:=by
 unfold iT at h
 unfold kF
 split at h
 ·obtain⟨h2,rfl⟩:=rj h;exact⟨h2,hK⟩
 ·exact HP
 ·exact HP
 ·cases h
theorem IW{op:UnOp}{x y:V}(h:unF op x=some y){K:V->Prop}(hK:K y):WR op x K:=by
 unfold unF at h
 unfold WR
 split at h
 ·injection h with h;subst h;simp only;rw[Int.zero_sub];exact hK
 ·exact HP
 ·cases h
theorem xT{m:Bool}{x y v:V}(h:pZ m x y=some v){K:V->Prop}(hK:K v):nq m [x,y] K:=by
 unfold pZ at h
 unfold nq
 split at h
 ·split at h
  ·exact QF
  ·cases h
 ·cases h
theorem AY{op:Op}(h:fX P s fr op=some (v,Δ,rd))(hK:K v Δ rd):Oe P s fr op K:=by
 cases op<;>simp only[fX]at h<;>simp only[Oe]<;>try (cases h;done)
 case move x=>have h:=ke h;simp only[Prod.mk.injEq]at h;obtain⟨rfl,rfl,rfl⟩:=h;exact hK
 case assign x=>have h:=ke h;simp only[Prod.mk.injEq]at h;obtain⟨rfl,rfl,rfl⟩:=h;exact hK
 case pick c a b=>
  obtain⟨x,h1,h⟩:=iN h;simp only[Prod.mk.injEq]at h;obtain⟨rfl,rfl,rfl⟩:=h
  exact C5 h1 hK
 case alloc t=>
  split at h
  ·rename_i cs hz;simp only[Option.some.injEq,Prod.mk.injEq]at h;obtain⟨rfl,rfl,rfl⟩:=h;exact⟨cs,hz,hK⟩
  ·cases h
 case box t x=>
  split at h
  ·rename_i cs hz;simp only[Option.some.injEq,Prod.mk.injEq]at h;obtain⟨rfl,rfl,rfl⟩:=h;exact⟨cs,hz,hK⟩
  ·cases h
 case build t parts=>
  obtain⟨x,h1,h⟩:=iN h;simp only[Prod.mk.injEq]at h;obtain⟨rfl,rfl,rfl⟩:=h
  unfold yr at h1
  split at h1
  ·rename_i z pl hz hp
   split at h1
   ·rename_i cs hc;injection h1 with h1;subst h1;exact⟨z,pl,cs,hz,hp,hc,hK⟩
   ·cases h1
  ·cases h1
 case buildSlice t len parts=>exact rk h hK
 case load t x=>exact C6 h hK
 case store t x y=>exact AX h hK
 case nilCheck x=>
  obtain⟨y,h1,h⟩:=iN h;simp only[Prod.mk.injEq]at h;obtain⟨rfl,rfl,rfl⟩:=h
  exact uf h1 hK
 case binOp op t x y yt=>
  unfold eZ at h
  split at h
  ·rename_i z h1
   have h:=ke h;simp only[Prod.mk.injEq]at h;obtain⟨rfl,rfl,rfl⟩:=h
   exact .inl (Gq h1 hK)
  ·right;simp only[h,cP];exact hK
 case unOp op t x=>
  obtain⟨z,h1,h⟩:=iN h;simp only[Prod.mk.injEq]at h;obtain⟨rfl,rfl,rfl⟩:=h
  unfold FR at h1
  split at h1
  ·rename_i hx;injection h1 with h1;subst h1;exact .inr ⟨rfl,hx,hK⟩
  ·exact .inl (IW h1 hK)
 case slice t x lo hi mx=>simp only[h,cP];exact hK
 case field t x f=>
  exact QL
 case typeAssert x xt t ok=>
  exact QL
 case makeMap t r=>
  cases r with
  |none=>simp only[h,cP];exact hK
  |some x=>cases h
 case lookup t m k ok=>simp only[h,cP];exact hK
 case mapUpdate t m k v=>simp only[h,cP];exact hK
 case insert t m k v=>simp only[h,cP];exact hK
 case index t x i=>
  exact QL
 case convert u t x=>
  split at h
  ·rename_i d k k' n hu hk hx
   have h:=ke h;simp only[Prod.mk.injEq]at h;obtain⟨rfl,rfl,rfl⟩:=h
   exact⟨by rw[hu];rfl,by simp only[hk,hx];exact hK⟩
  ·cases h
 case makeInterface t x=>
  obtain⟨z,h1,h⟩:=iN h;simp only[Prod.mk.injEq]at h;obtain⟨rfl,rfl,rfl⟩:=h
  obtain⟨h2,rfl⟩:=rj h1
  refine⟨?_, ?_⟩
  ·unfold lG at h2
   cases hd:P.underlying t with
   |none=>simp[hd]at h2
   |some d=>exact⟨d,rfl,by cases d<;>simp_all⟩
  ·split
   ·rename_i y hy;simp only[hy]at hK;exact hK
   ·rename_i hy
    split at hK
    ·rename_i y hy';exact absurd hy' (hy y)
    ·exact hK
 case makeFunc fn first cap=>have h:=ke h;simp only[Prod.mk.injEq]at h;obtain⟨rfl,rfl,rfl⟩:=h;exact hK
 case makeSlice t l c=>
  exact sU h hK
 case fieldAddr t x f=>
  obtain⟨z,h1,h⟩:=iN h;simp only[Prod.mk.injEq]at h;obtain⟨rfl,rfl,rfl⟩:=h
  exact sT h1 hK
 case indexAddr t x i=>
  exact sS h hK
 case extract x i=>
  split at h
  ·rename_i vs hv
   split at h
   ·rename_i u hu
    have h:=ke h;simp only[Prod.mk.injEq]at h;obtain⟨rfl,rfl,rfl⟩:=h
    simp only[hv];exact⟨_,hu,hK⟩
   ·cases h
  ·cases h
 case call c=>
  obtain⟨IE,args,ts⟩:=c
  cases IE<;>simp only at h|- <;>try (cases h;done)
  rename_i b
  unfold p9 at h
  unfold tK
  split at h
  ·rename_i x ha
   simp only[ha]
   split at h
   ·rename_i t vU;exact⟨t,vU,Gs h hK⟩
   ·cases h
  ·rename_i x y ha
   simp only[ha]
   split at h
   ·rename_i r hr
    simp only[Option.some.injEq]at h
    subst h
    exact .inl (by rw[hr];exact hK)
   ·exact .inr (yu h hK)
  ·rename_i x y ha
   exact Wr
  ·rename_i x y ha
   exact Wr
  ·rename_i x y z ha
   simp only[ha]
   obtain⟨v0,h1,h⟩:=iN h;simp only[Prod.mk.injEq]at h;obtain⟨rfl,rfl,rfl⟩:=h
   exact VS
  ·rename_i x y ha
   simp only[ha,h,cP];exact hK
  ·rename_i x y ha
   simp only[ha]
   split at h
   ·rename_i t ht;exact⟨t,ht,by simp only[h,cP];exact hK⟩
   ·cases h
  ·rename_i x ha
   simp only[ha,h,cP];exact hK
  ·cases h
 case range t x=>simp only[h,cP];exact hK
 case next x str=>left;simp only[h,cP];exact hK
 case entry x=>simp only[h,cP];exact hK
end
end
section
def ug(P:Program)(g:FuncId)(ds:List D)(o o1 oa:Nat->aa)(K:V->(Nat->aa)->Prop)(X:V->(Nat->aa)->Prop):Prop:=
 ∃out,aV P g ds out/\((match out with| .ret rs=>K (iD rs) o1| .bB x=>X (.d x) o1)\/(out.flat=true/\match out with| .ret rs=>K (iD rs) o| .bB x=>X (.d x) o)\/(out.mC=true/\match out with| .ret rs=>K (iD rs) oa| .bB x=>X (.d x) oa))
def se(P:Program)(g:FuncId)(args:List V)(o:Nat->aa)(nx:Nat)(K:V->(Nat->aa)->Nat->Prop)(X:V->(Nat->aa)->Nat->Prop):Prop:=nX P g args o nx K X
theorem nX.mono {P:Program}{g:FuncId}{args:List V}{o:Nat->aa}{nx:Nat}{K X K' X':V->(Nat->aa)->Nat->Prop}(hK:∀v o n,K v o n->K' v o n)(hX:∀v o n,X v o n->X' v o n)(h:nX P g args o nx K X):nX P g args o nx K' X':=
 h.imp (cO.mono hK hX) (cO.mono hK hX)
@[congr] theorem OB {P:Program} {g g':FuncId} {ds Xc:List D} {o o1 oa:Nat->aa} {K X} (h:g=g') (h':ds=Xc):ug P g ds o o1 oa K X=ug P g' Xc o o1 oa K X:=by subst h;subst h';rfl
@[congr] theorem OC {P:Program} {g g':FuncId} {bU Xd:List V} {o:Nat->aa} {nx:Nat} {K X} (h:g=g') (h':bU=Xd):se P g bU o nx K X=se P g' Xd o nx K X:=by subst h;subst h';rfl
def OD(P:Program)(g:FuncId)(args:List V)(o:Nat->aa)(nx:Nat)(K X:V->(Nat->aa)->Nat->Prop):Prop:=
 (∃ds,bR o args=some ds/\ug P g ds o (put o (b7 o (V.a8 args))) (put o (qT o (V.a8 args))) (fun v o'=>K v o' (nx+1)) (fun v o'=>X v o' (nx+1)))\/cO P g args o nx K X
def Hy(P:Program)(s:S)(o:bK)(X:V->S->Prop)(K:S->Prop):Prop:=
 match o.op with
 | .call c=>match c.callee with
   | .value f=>match s.ev f with
     | .func (.func g) first cap=>match bR s.o (first++c.args.toList.map s.ev++cap)with
       |some ds=>ug P g ds s.o (put s.o (b7 s.o (V.a8 (first++c.args.toList.map s.ev++cap)))) (put s.o (qT s.o (V.a8 (first++c.args.toList.map s.ev++cap)))) (fun v o'=>K ⟨aU s.env o.dst v,o',s.nx+1⟩) (fun v o'=>X v ⟨s.env,o',s.nx+1⟩)\/
        se P g (first++c.args.toList.map s.ev++cap) s.o s.nx (fun v o' nx'=>K ⟨aU s.env o.dst v,o',nx'⟩) (fun v o' nx'=>X v ⟨s.env,o',nx'⟩)
       |none=>se P g (first++c.args.toList.map s.ev++cap) s.o s.nx (fun v o' nx'=>K ⟨aU s.env o.dst v,o',nx'⟩) (fun v o' nx'=>X v ⟨s.env,o',nx'⟩)
     | .kz id=>dB P id (c.args.toList.map s.ev) s.o s.nx (fun v o' nx'=>K ⟨aU s.env o.dst v,o',nx'⟩) (fun v o' nx'=>X v ⟨s.env,o',nx'⟩)
     |_=>False
   | .invoke r m=>match tW P m (s.ev r)with
     |some (g,y)=>OD P g (y::c.args.toList.map s.ev) s.o s.nx (fun v o' nx'=>K ⟨aU s.env o.dst v,o',nx'⟩) (fun v o' nx'=>X v ⟨s.env,o',nx'⟩)
     |none=>False
   |_=>match fX P s s.nx o.op with
    |some (v,Δ,_)=>K ⟨aU s.env o.dst v,put s.o Δ,s.nx+1⟩
    |none=>False
 | .panic x=>match s.ev x with
   | .d (.iface t y)=>X (.d (.iface t y)) s
   | .iface t y=>X (.iface t y) s
   |_=>False
 | .next x str=>match og s.o (s.ev x)with
   |some (id,l)=>str=false/\En id l fun v Δ _=>K ⟨aU s.env o.dst v,put s.o Δ,s.nx+1⟩
   |none=>match fX P s s.nx o.op with
    |some (v,Δ,_)=>K ⟨aU s.env o.dst v,put s.o Δ,s.nx+1⟩
    |none=>False
 |op=>match fX P s s.nx op with
  |some (v,Δ,_)=>K ⟨aU s.env o.dst v,put s.o Δ,s.nx+1⟩
  |none=>False
def oL(P:Program)(X:V->S->Prop)(K:S->Prop):List bK->S->Prop
 |[],s=>K s
 |o::l,s=>match o.gd with
  |none=>Hy P s o X (oL P X K l)
  |some (d,want)=>match s.env d with
   | .d (.bool b)=>if b=want then Hy P s o X (oL P X K l)else oL P X K l ⟨aU s.env o.dst (.bN []),s.o,s.nx+1⟩
   | .bN []=>oL P X K l ⟨aU s.env o.dst (.bN []),s.o,s.nx+1⟩
   |_=>False
def IX(b:Nat)(body:(fw->S->Prop)->S->Prop)(Q:fw->S->Prop)(s:S):Prop:=
 ∃ (J:Nat->S->Prop),(∃m s1,bM b s s1/\J m s1)/\∀m s0,J m s0->body (fun e s=>match e with| .normal=>∃m' s1,m'<m/\bM b s s1/\J m' s1|e=>Q e s) s0
@[congr] theorem OE {b:Nat} {body Q} {s s':S} (h:s=s'):IX b body Q s=IX b body Q s':=by subst h;rfl
def qa(t:Bool)(A B:Prop):Prop:=(t=true->A)/\(t=false->B)
@[congr] theorem OG {t t':Bool} {A B:Prop} (h:t=t'):qa t A B=qa t' A B:=by subst h;rfl
@[simp] theorem uh (A B:Prop):qa true A B=A:=by simp[qa]
@[simp] theorem si (A B:Prop):qa false A B=B:=by simp[qa]
section
variable {P:Program}{n b:Nat}
theorem EH{s:S}{o:bK}{o':Oper}{X X':V->S->Prop}{K K':S->Prop}(fK:o'.op=o.op)(cG:o'.dst=o.dst)(hd:gk n o'.dst)(hK:∀s,K s->K' s)(hX:∀v s,X v s->X' v s)(h:Hy P s o X K):opW P n s o' X' K':=by
 refine⟨hd, ?_⟩
 rw[cG,fK]
 unfold Hy at h
 have hs:∀ {op:Op},(match fX P s s.nx op with|some (v,Δ,_)=>K ⟨aU s.env o.dst v,put s.o Δ,s.nx+1⟩|none=>False)->Oe P s s.nx op fun v Δ _=>K' ⟨aU s.env o.dst v,put s.o Δ,s.nx+1⟩:=by
  intro op h
  split at h
  ·rename_i v Δ rd he;exact AY he (hK _ h)
  ·exact h.elim
 split at h
 ·rename_i c hc
  split at h
  ·rename_i f eP
   simp only[hc,eP]
   split at h
   ·rename_i g first cap hf
    unfold AJ
    simp only[hf]
    unfold tV
    split at h
    ·rename_i ds eR
     rcases h with⟨out,hP,h|⟨pc,h⟩|⟨pc,h⟩⟩|h
     ·exact NV
     ·exact WK
     ·exact WE
     ·exact V0
    ·exact V0
   ·rename_i id hf
    unfold AJ
    simp only[hf]
    exact dB.mono (fun v o n h=>hK _ h) (fun v o n h=>hX _ _ h) h
   ·exact h.elim
  ·rename_i r m eP
   simp only[hc,eP]
   split at h
   ·rename_i g y hr
    simp only[hr]
    unfold tV
    rcases h with⟨ds,eR,out,hP,h|⟨pc,h⟩|⟨pc,h⟩⟩|h
    ·exact NV
    ·exact WK
    ·exact WE
    ·exact .inr (.inr (.inr (.inl (cO.mono (fun v o n h=>hK _ h) (fun v o n h=>hX _ _ h) h))))
   ·exact h.elim
  ·rename_i eP hinv
   rw[hc]at h|-
   obtain⟨IE,args,ts⟩:=c
   cases IE with
   |value f=>exact absurd rfl (eP f)
   |invoke r m=>exact absurd rfl (hinv r m)
   |_=>exact hs h
 ·rename_i x hx
  simp only[hx]
  split at h
  ·rename_i hv;simp only[hv];exact hX _ _ h
  ·rename_i hv;simp only[hv];exact hX _ _ h
  ·exact h.elim
 ·rename_i x str hx
  rw[hx]at h|-
  split at h
  ·rename_i id l hl
   exact .inr ⟨h.1,id,l,hl,fun e=>hK _ (h.2.1 e),fun i k x e=>hK _ (h.2.2 i k x e)⟩
  ·exact hs h
 ·rename_i hc hp s7
  have h2:=hs h
  cases hh:o.op<;>first
   |exact absurd hh (hc _)
   |exact absurd hh (hp _)
   |exact absurd hh (s7 _ _)
   |(rw[hh]at h2;exact h2)
theorem iU{ops:Array Oper}{X X':V->S->Prop}{K K':S->Prop}(hK:∀s,K s->K' s)(hX:∀v s,X v s->X' v s):∀ (l:List Oper) (l':List bK) (s:S),kB n ops l=some l'->oL P X K l' s->yj P n ops X' K' l s
 |[],l',s,h,hr=>by simp[kB]at h;subst h;exact hK _ hr
 |o::l,l',s,h,hr=>by
  simp only[kB]at h
  split at h
  ·rename_i x xs hx Oj
   injection h with h;subst h
   unfold Ig at hx
   split at hx
   ·rename_i hd
    have cG:gk n o.dst:=by
     unfold CF at hd;unfold gk
     split at hd<;>simp_all
    simp only[yj,yi]
    cases hg:o.guard with
    |none=>
     simp only[hg]at hx
     injection hx with hx;subst hx
     exact EH rfl rfl cG (fun s hs=>iU hK hX l xs s Oj hs) hX hr
    |some p=>
     obtain⟨j,want⟩:=p
     simp only[hg]at hx
     cases OH:rW ops j with
     |none=>simp[OH]at hx
     |some d=>
      simp only[OH]at hx
      injection hx with hx;subst hx
      simp only
      simp only[oL]at hr
      split at hr
      ·rename_i t ht
       simp only[OH,ht]
       split at hr
       ·rename_i e
        exact⟨fun _=>EH rfl rfl cG (fun s hs=>iU hK hX l xs s Oj hs) hX hr,fun h=>absurd e h⟩
       ·rename_i e
        exact⟨fun h=>absurd h e,fun _=>⟨cG,iU hK hX l xs _ Oj hr⟩⟩
      ·rename_i ht
       simp only[OH,ht]
       exact⟨cG,iU hK hX l xs _ Oj hr⟩
      ·exact hr.elim
   ·cases hx
  ·cases h
end
end
section
mutual
def V.refs:V->List Nat
 | .ptr id _=>[id]| .osl id _=>[id]| .pe id _ _ _ _=>[id]| .wC id _ _=>[id]| .mp id=>[id]| .kz id=>[id]
 | .agg cs=>V.aN cs
 | .bN cs=>V.aN cs
 | .func _ a b=>V.aN a++V.aN b
 | .iface _ x=>x.refs
 |_=>[]
def V.aN:List V->List Nat
 |[]=>[]
 |v::vs=>v.refs++V.aN vs
end
mutual
theorem jn:∀ (v:V),∀id∈v.ids,id∈v.refs
 | .osl id _,j,h=>by simpa[V.ids,V.refs]using h
 | .agg cs,j,h=>by simp only[V.ids]at h;simp only[V.refs];exact kZ cs j h
 | .iface _ x,j,h=>by simp only[V.ids]at h;simp only[V.refs];exact jn x j h
 | .mp _,j,h=>by simpa[V.ids,V.refs]using h
 | .d _,_,h| .aM,_,h| .bN _,_,h| .ptr _ _,_,h| .pe _ _ _ _ _,_,h| .pp _ _,_,h| .func _ _ _,_,h| .ab,_,h| .oA _,_,h| .wC _ _ _,_,h| .fD,_,h| .kz _,_,h=>by simp[V.ids]at h
theorem kZ:∀ (vs:List V),∀id∈V.a8 vs,id∈V.aN vs
 |[],j,h=>by simp[V.a8]at h
 |v::vs,j,h=>by
  simp only[V.a8,V.aN,List.mem_append]at h|-
  exact h.imp (jn v j) (kZ vs j)
end
mutual
theorem c6{o o':Nat->aa}:∀ (v:V),(∀id∈v.refs,o' id=o id)->dL o' v=dL o v
 | .osl id ep,h=>by simp only[dL,h id (by simp[V.refs])]
 | .mp id,h=>by simp only[dL,h id (by simp[V.refs])]
 | .agg cs,h=>by simp only[dL,gO cs (by simpa[V.refs]using h)]
 | .iface t x,h=>by simp only[dL,c6 x (by simpa[V.refs]using h)]
 | .d _,_| .aM,_| .bN _,_| .ptr _ _,_| .pe _ _ _ _ _,_| .pp _ _,_| .func _ _ _,_| .ab,_| .oA _,_| .wC _ _ _,_| .fD,_| .kz _,_=>by simp only[dL]
theorem gO{o o':Nat->aa}:∀ (vs:List V),(∀id∈V.aN vs,o' id=o id)->bR o' vs=bR o vs
 |[],_=>rfl
 |v::vs,h=>by
  simp only[bR,c6 v (fun id aw=>h id (by simp[V.aN,aw])),gO vs (fun id aw=>h id (by simp[V.aN,aw]))]
end
theorem gJ{o o':Nat->aa}{ids:List Nat}(h:∀id∈ids,o' id=o id):b7 o' ids=b7 o ids:=by
 rw[lj,lj]
 exact List.map_congr_left fun id aw=>by rw[h id aw]
def nW(s:S)(op:Op):List Nat:=
 match op with
 | .load _ x=>(s.ev x).refs
 | .nilCheck x=>(s.ev x).refs
 | .fieldAddr _ x _=>(s.ev x).refs
 | .indexAddr _ x _=>(s.ev x).refs
 | .store _ x v=>(s.ev x).refs++(s.ev v).refs
 | .buildSlice _ _ parts=>V.aN (parts.toList.map fun p=>s.ev p.2)
 | .binOp _ _ x y _=>(s.ev x).refs++(s.ev y).refs
 | .slice _ x _ _ _=>(s.ev x).refs
 | .lookup _ m k _=>(s.ev m).refs++(s.ev k).refs
 | .mapUpdate _ m k v=>(s.ev m).refs++((s.ev k).refs++(s.ev v).refs)
 | .insert _ m k v=>(s.ev m).refs++((s.ev k).refs++(s.ev v).refs)
 | .range _ x=>(s.ev x).refs
 | .next x _=>(s.ev x).refs
 | .entry x=>(s.ev x).refs
 | .call c=>match c.callee with
   | .builtin _=>V.aN (c.args.toList.map s.ev)
   | .value f=>match s.ev f with
     | .func _ first cap=>V.aN (first++c.args.toList.map s.ev++cap)
     |_=>[]
   |_=>[]
 |_=>[]
section
variable {P:Program}{s s':S}{fr:Nat}
theorem sj{o o':Nat->aa}(v:V)(h:∀id∈v.refs,o' id=o id):pX o' v=pX o v:=by
 cases v with
 |osl id ep=>simp only[pX,h id (by simp[V.refs])]
 |d x=>cases x<;>rfl
 |_=>rfl
theorem sn{o o':Nat->aa}(v:V)(q:Nat)(h:∀id∈v.refs,o' id=o id):om o' v q=om o v q:=by
 cases v<;>simp only[om]<;>rw[h _ (by simp[V.refs])]
theorem C7{o o':Nat->aa}(v:V)(h:∀id∈v.refs,o' id=o id):Ai o' v=Ai o v:=by
 have h1:eG o' v=eG o v:=by unfold eG;rw[c6 v h]
 cases v<;>first|rfl|simp only[Ai,h1]
theorem yw{o o':Nat->aa}(v:V)(h:∀id∈v.refs,o' id=o id):qV o' v=qV o v:=by
 cases v with
 |mp id=>simp only[qV,h id (by simp[V.refs])]
 |d x=>cases x<;>rfl
 |_=>rfl
theorem yx{o o':Nat->aa}(v:V)(h:∀id∈v.refs,o' id=o id):qW o' v=qW o v:=by
 cases v with
 |ptr id off=>simp only[qW,h id (by simp[V.refs])]
 |d x=>cases x<;>rfl
 |_=>rfl
theorem mI{o o':Nat->aa}(v:V)(h:∀id∈v.refs,o' id=o id):od o' v=od o v:=by
 cases v with
 |mp id=>simp only[od,h id (by simp[V.refs])]
 |d x=>cases x<;>rfl
 |_=>rfl
theorem AZ{o o':Nat->aa}(v:V)(h:∀id∈v.refs,o' id=o id):pC o' v=pC o v:=by
 cases v with
 |mp id=>simp only[pC,h id (by simp[V.refs])]
 |d x=>cases x<;>rfl
 |_=>rfl
theorem A0{o o':Nat->aa}(v:V)(str:Bool)(h:∀id∈v.refs,o' id=o id):oe o' v str=oe o v str:=by
 cases v with
 |ptr id off=>cases off<;>simp only[oe,h id (by simp[V.refs])]
 |_=>rfl
theorem yy{o o':Nat->aa}(v:V)(h:∀id∈v.refs,o' id=o id):mo o' v=mo o v:=by
 cases v with
 |ptr id off=>cases off<;>simp only[mo,h id (by simp[V.refs])]
 |_=>rfl
theorem yz{o o':Nat->aa}{fr:Nat}{t:TypeId}{P:Program}(v:V)(h:∀id∈v.refs,o' id=o id):mn P o' fr t v=mn P o fr t v:=by
 unfold mn
 cases v with
 |mp id=>simp only[h id (by simp[V.refs])]
 |d x=>cases x<;>rfl
 |_=>rfl
theorem yA{o o':Nat->aa}(v:V)(h:∀id∈v.refs,o' id=o id):oB o' v=oB o v:=by
 cases v with
 |ptr id off=>simp only[oB,h id (by simp[V.refs])]
 |_=>rfl
theorem yB{o o':Nat->aa}(v:V)(h:∀id∈v.refs,o' id=o id):oC o' v=oC o v:=by
 cases v with
 |wC id off n=>simp only[oC,h id (by simp[V.refs])]
 |_=>rfl
theorem C8(op:Op)(hv:∀x∈op.operands,s'.ev x=s.ev x)(ho:∀id∈nW s op,s'.o id=s.o id):fX P s' fr op=fX P s fr op:=by
 cases op<;>simp only[fX]
 case move x=>rw[hv x (by simp[Op.operands])]
 case assign x=>rw[hv x (by simp[Op.operands])]
 case pick c a b=>rw[hv c (by simp[Op.operands]),hv a (by simp[Op.operands]),hv b (by simp[Op.operands])]
 case box t x=>rw[hv x (by simp[Op.operands])]
 case build t parts=>
  have:(parts.toList.map fun p=>(p.1,s'.ev p.2))=parts.toList.map fun p=>(p.1,s.ev p.2):=
   List.map_congr_left fun p hp=>by rw[hv p.2 (by simp only[Op.operands];simp;exact⟨p.1,by simpa using hp⟩)]
  rw[this]
 case buildSlice t len parts=>
  have:(parts.toList.map fun p=>(p.1,s'.ev p.2))=parts.toList.map fun p=>(p.1,s.ev p.2):=
   List.map_congr_left fun p hp=>by rw[hv p.2 (by simp only[Op.operands];simp;exact⟨p.1,by simpa using hp⟩)]
  rw[this]
  have e:(parts.toList.map fun p=>(p.1,s.ev p.2)).map (·.2)=parts.toList.map fun p=>s.ev p.2:=by simp[Function.comp_def]
  have h1:bR s'.o ((parts.toList.map fun p=>(p.1,s.ev p.2)).map (·.2))=bR s.o ((parts.toList.map fun p=>(p.1,s.ev p.2)).map (·.2)):=gO _ (by rw[e];exact ho)
  have h2:b7 s'.o (V.a8 ((parts.toList.map fun p=>(p.1,s.ev p.2)).map (·.2)))=b7 s.o (V.a8 ((parts.toList.map fun p=>(p.1,s.ev p.2)).map (·.2))):=
   gJ fun id aw=>ho id (by rw[e]at aw;exact kZ _ id aw)
  simp only[fO,h1,h2]
 case load t x=>
  rw[hv x (by simp[Op.operands])]
  cases hx:s.ev x<;>simp only[mH]<;>rw[ho _ (by simp[nW,hx,V.refs])]
 case store t x y=>
  rw[hv x (by simp[Op.operands]),hv y (by simp[Op.operands])]
  have h1:dL s'.o (s.ev y)=dL s.o (s.ev y):=c6 _ fun id aw=>ho id oz
  have h2:b7 s'.o (s.ev y).ids=b7 s.o (s.ev y).ids:=gJ fun id aw=>ho id (by simp[nW,jn _ _ aw])
  cases hx:s.ev x<;>simp only[ri]<;>rw[ho _ (by simp[nW,hx,V.refs])]
  simp only[h1,h2]
 case nilCheck x=>
  rw[hv x (by simp[Op.operands])]
  cases hx:s.ev x with
  |ptr id off=>simp only[iT];rw[ho _ (by simp[nW,hx,V.refs])]
  |func fn a b=>cases fn<;>rfl
  |_=>rfl
 case binOp op t x y yt=>
  rw[hv x (by simp[Op.operands]),hv y (by simp[Op.operands])]
  have h1:Ai s'.o (s.ev x)=Ai s.o (s.ev x):=C7 _ fun id aw=>ho id oz
  have h2:∀a b,xW P s'.o a b (s.ev x) (s.ev y)=xW P s.o a b (s.ev x) (s.ev y):=fun a b=>by
   have h3:∀id∈(s.ev x).refs,s'.o id=s.o id:=fun id aw=>ho id oz
   have h4:=yw (s.ev x) h3
   have h5:=yx (s.ev x) h3
   unfold xW
   rw[h1,h4,h5]
  unfold eZ qX
  simp only[h2]
 case slice t x lo hi mx=>
  rw[hv x (by simp[Op.operands])]
  have e1:lo.map s'.ev=lo.map s.ev:=by cases lo<;>simp[hv,Op.operands]
  have e2:hi.map s'.ev=hi.map s.ev:=by cases hi<;>simp[hv,Op.operands]
  have e3:mx.map s'.ev=mx.map s.ev:=by cases mx<;>simp[hv,Op.operands]
  rw[e1,e2,e3]
  have h3:∀id∈(s.ev x).refs,s'.o id=s.o id:=fun id aw=>ho id oz
  have h1:eG s'.o (s.ev x)=eG s.o (s.ev x):=by unfold eG;rw[c6 _ h3]
  have h2:b7 s'.o (s.ev x).ids=b7 s.o (s.ev x).ids:=gJ fun id aw=>h3 id (jn _ _ aw)
  have h4:CJ P s'.o t (s.ev x) (lo.map s.ev) (hi.map s.ev) (mx.map s.ev)=CJ P s.o t (s.ev x) (lo.map s.ev) (hi.map s.ev) (mx.map s.ev):=by
   cases hx:s.ev x with
   |osl id ep=>simp only[CJ,h3 id (by simp[hx,V.refs])]
   |_=>rfl
  unfold qU pA
  simp only[h1,h2,h4,yA _ h3]
 case field t x f=>rw[hv x (by simp[Op.operands])]
 case typeAssert x xt t ok=>rw[hv x (by simp[Op.operands])]
 case makeMap t r=>cases r<;>rfl
 case lookup t m k ok=>
  rw[hv m (by simp[Op.operands]),hv k (by simp[Op.operands])]
  have h3:∀id∈(s.ev m).refs,s'.o id=s.o id:=fun id aw=>ho id oz
  have h1:dL s'.o (s.ev k)=dL s.o (s.ev k):=c6 _ fun id aw=>ho id oz
  unfold iO
  simp only[h1,AZ _ h3]
 case mapUpdate t m k v=>
  rw[hv m (by simp[Op.operands]),hv k (by simp[Op.operands]),hv v (by simp[Op.operands])]
  have h3:∀id∈(s.ev m).refs,s'.o id=s.o id:=fun id aw=>ho id oz
  have h1:dL s'.o (s.ev k)=dL s.o (s.ev k):=c6 _ fun id aw=>ho id oz
  have h2:dL s'.o (s.ev v)=dL s.o (s.ev v):=c6 _ fun id aw=>ho id oz
  have h4:b7 s'.o (s.ev v).ids=b7 s.o (s.ev v).ids:=gJ fun id aw=>ho id (by simp[nW,jn _ _ aw])
  unfold ft
  simp only[h1,h2,h4,mI _ h3]
 case insert t m k v=>
  rw[hv m (by simp[Op.operands]),hv k (by simp[Op.operands]),hv v (by simp[Op.operands])]
  have h3:∀id∈(s.ev m).refs,s'.o id=s.o id:=fun id aw=>ho id oz
  have h1:dL s'.o (s.ev k)=dL s.o (s.ev k):=c6 _ fun id aw=>ho id oz
  have h2:dL s'.o (s.ev v)=dL s.o (s.ev v):=c6 _ fun id aw=>ho id oz
  have h4:b7 s'.o (s.ev v).ids=b7 s.o (s.ev v).ids:=gJ fun id aw=>ho id (by simp[nW,jn _ _ aw])
  unfold ft
  simp only[h1,h2,h4,mI _ h3]
 case index t x i=>rw[hv x (by simp[Op.operands]),hv i (by simp[Op.operands])]
 case range t x=>
  rw[hv x (by simp[Op.operands])]
  exact yz _ fun id aw=>ho id oz
 case next x str=>
  rw[hv x (by simp[Op.operands])]
  exact A0 _ _ fun id aw=>ho id oz
 case entry x=>
  rw[hv x (by simp[Op.operands])]
  exact yy _ fun id aw=>ho id oz
 case unOp op t x=>rw[hv x (by simp[Op.operands])]
 case convert u t x=>rw[hv x (by simp[Op.operands])]
 case makeInterface t x=>rw[hv x (by simp[Op.operands])]
 case makeFunc fn first cap=>
  have h1:first.toList.map s'.ev=first.toList.map s.ev:=List.map_congr_left fun x hx=>hv x (by simp only[Op.operands];exact Array.mem_append.2 (.inl (Array.mem_toList_iff.1 hx)))
  have h2:cap.toList.map s'.ev=cap.toList.map s.ev:=List.map_congr_left fun x hx=>hv x (by simp only[Op.operands];exact Array.mem_append.2 (.inr (Array.mem_toList_iff.1 hx)))
  rw[h1,h2]
 case makeSlice t l c=>rw[hv l (by simp[Op.operands]),hv c (by simp[Op.operands])]
 case fieldAddr t x f=>
  rw[hv x (by simp[Op.operands])]
  simp only[gN]
  cases bS P t f<;>simp only
  rw[sn _ _ (by simpa[nW]using ho)]
 case indexAddr t x i=>
  rw[hv x (by simp[Op.operands]),hv i (by simp[Op.operands])]
  have h1:∀q,om s'.o (s.ev x) q=om s.o (s.ev x) q:=fun q=>sn _ _ (by simpa[nW]using ho)
  simp only[gM,h1]
  cases hx:s.ev x with
  |osl id ep=>simp only[ho id (by simp[nW,hx,V.refs])]
  |d y=>cases y<;>rfl
  |_=>rfl
 case extract x i=>rw[hv x (by simp[Op.operands])]
 case call c=>
  obtain⟨IE,args,ts⟩:=c
  cases IE<;>simp only
  rename_i b
  unfold p9
  have hm:∀x∈args.toList,s'.ev x=s.ev x:=fun x hx=>hv x VQ
  have hr:∀x∈args.toList,∀id∈(s.ev x).refs,s'.o id=s.o id:=by
   intro x hx id aw
   refine ho id ?_
   simp only[nW]
   generalize args.toList=l at hx
   induction l with
   |nil=>cases hx
   |cons y l ih=>
    simp only[List.map_cons,V.aN,List.mem_append]
    rcases List.mem_cons.1 hx with rfl|hx
    ·exact .inl aw
    ·exact .inr (ih hx)
  split
  ·rename_i x ha
   rw[ha]at hm hr
   rw[hm x (by simp)]
   have h1:∀t,C3 P t s'.o (s.ev x)=C3 P t s.o (s.ev x):=fun t=>by simp only[C3,sj _ (hr x (by simp))]
   simp only[h1]
  ·rename_i x y ha
   rw[ha]at hm hr
   rw[hm x (by simp),hm y (by simp)]
   simp only[pY,sj _ (hr y (by simp))]
   cases wG P fr ts (s.ev x) (s.ev y)with
   |some r=>rfl
   |none=>
   dsimp only
   cases hx:s.ev x with
   |osl id ep=>simp only[hr x (by simp) id (by simp[hx,V.refs])]
   |_=>rfl
  ·rename_i x y ha
   rw[ha]at hm
   rw[hm x (by simp),hm y (by simp)]
  ·rename_i x y ha
   rw[ha]at hm
   rw[hm x (by simp),hm y (by simp)]
  ·rename_i x y z h;rw[hm x (by rw[h];simp),hm y (by rw[h];simp),hm z (by rw[h];simp)]
  ·rename_i x y ha
   rw[ha]at hm hr
   rw[hm x (by simp),hm y (by simp)]
   have h1:eG s'.o (s.ev y)=eG s.o (s.ev y):=by unfold eG;rw[c6 _ (hr y (by simp))]
   have h2:b7 s'.o (s.ev y).ids=b7 s.o (s.ev y).ids:=gJ fun id aw=>hr y aG id (jn _ _ aw)
   unfold wF
   simp only[h1,h2,yB _ (hr x (by simp))]
  ·rename_i x y ha
   rw[ha]at hm hr
   rw[hm x (by simp),hm y (by simp)]
   have h1:dL s'.o (s.ev y)=dL s.o (s.ev y):=c6 _ (hr y aG)
   have h2:=mI _ (hr x aG)
   simp only[nr,h1,h2]
  ·rename_i x ha
   rw[ha]at hm
   rw[hm x (by simp)]
  ·rfl
end
end
end Go.Proofs.YtlhemmpklhhgoaaGreat
