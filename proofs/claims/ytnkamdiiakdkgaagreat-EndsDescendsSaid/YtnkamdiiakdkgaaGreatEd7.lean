/-
  A PART OF THE PROOF. Conditions: none.
-/
import Derived.Test.YtnkamdiiakdkgaaGreatEd6
set_option linter.unusedSimpArgs false
set_option linter.unusedVariables false
namespace Go.Proofs.YtnkamdiiakdkgaaGreat
section
section
variable {P:Program}{M:Nat->Prop}{φ:Place}{H:Hp}{w w':World}{cj:Place}{H0:Hp}{w0:World}{n b:Nat}{s:S}{a:Act}{cx:Cx}{ro:Option Nat}{k:Nat}
theorem gL(hb:∀id,H0.us id->id<b)(s8:cx.rd=false->ro=none):∀ (c:Code) (Q:fm->S->Prop) (s:S) (φ:Place) (a:Act) (w:World),iU P n b cx.rd c Q s->bX M cj H0 w0 n cx φ s a w->c.sJ P ro (EO M cj H0 w0 n cx Q) a w:=by
 intro c
 induction c with
 |skip=>exact fun Q s φ a w h hs=>oK (k:=0) (wpIn_skip ⟨.normal,s,φ,h,hs,trivial⟩)
 |scope x ih=>exact fun Q s φ a w h hs=>wP (ih Q s φ a w h hs) (fun l a w ⟨xx,s',aE,hq,jU,hm⟩=>by cases xx<;>exact hm)
 |label l=>exact fun Q s φ a w h hs=>oK (k:=0) (wpIn_label ⟨.normal,s,φ,h,hs,trivial⟩)
 |exit id=>exact fun Q s φ a w h hs=>AV ⟨.exit id,s,φ,h,hs,rfl⟩
 |ret=>exact fun Q s φ a w h hs=>EP ⟨.ret,s,φ,h,hs,trivial⟩
 |goto l=>exact fun Q s φ a w h hs=>h.elim
 |refuse y=>exact fun Q s φ a w h hs=>h.elim
 |rangeFunc g ps x y=>
  intro Q s φ a w h hs
  obtain⟨h1,s',hle,h2⟩:=h
  rcases hle with rfl|hle
  ·exact wT hs h1 (s8 h1) h2
  ·obtain⟨aE,jU⟩:=Df hb hs hle
   exact wT jU h1 (s8 h1) h2
 |region id ops draw=>
  intro Q s φ a w h hs
  cases draw with
  |true=>exact oK (h M cj H0 w0 cx φ a w ro 0 hs)
  |false=>
   refine oK (k:=0) (wpIn_region_list (oJ (K:=Q .normal) (X:=fun v s=>Q (.bD v) s) (fun s φ a w hk hs=>⟨.normal,s,φ,hk,hs,trivial⟩) (fun v s φ a w val hx hs hd=>⟨.bD v,s,φ,hx,hs,val,rfl,hd⟩) _ s φ a w h hs))
 |seq x y M7 M8=>
  intro Q s φ a w h hs
  refine yg (gh (M7 _ s φ a w h hs) ?_)
  rintro e a' w' ⟨xx,s',aE,hq,jU,hm⟩
  cases e<;>cases xx<;>first|(exact hm.elim)|skip
  ·exact M8 Q s' aE a' w' hq jU
  ·subst hm;exact⟨_,s',aE,hq,jU,rfl⟩
  ·exact IM
  ·exact IW
 |cond c x y M7 M8=>
  intro Q s φ a w h hs
  simp only[iU]at h
  have hc:=mz (M:=M) (φ:=φ) (H:=s.H) (w:=w) s a hs.env c
  split at h
  ·rename_i t hv
   rw[hv]at hc
   simp only[V.den,D.den]at hc
   cases t with
   |true=>exact pH hc (M7 Q s φ a w (h.1 rfl) hs)
   |false=>exact pH hc (M8 Q s φ a w (h.2 rfl) hs)
  ·rename_i hv
   rw[hv]at hc
   obtain⟨t,hc⟩:=hc
   cases t with
   |true=>exact pH hc (M7 Q s φ a w h.1 hs)
   |false=>exact pH hc (M8 Q s φ a w h.2 hs)
  ·exact h.elim
 |block id x ih=>
  intro Q s φ a w h hs
  refine GI (gh (ih _ s φ a w h hs) ?_)
  rintro e a' w' ⟨xx,s',aE,hq,jU,hm⟩
  cases e<;>cases xx<;>first|(exact hm.elim)|skip
  ·exact⟨.normal,s',aE,hq,jU,trivial⟩
  ·subst hm
   simp only[Exit.inBlock]
   simp only[eW]at hq
   split
   ·rename_i he;rw[if_pos he]at hq;exact⟨.normal,s',aE,hq,jU,trivial⟩
   ·rename_i he;rw[if_neg he]at hq;exact⟨.exit _,s',aE,hq,jU,rfl⟩
  ·exact IM
  ·exact IW
 |loop x ih=>
  intro Q s φ a w h hs
  obtain⟨J,⟨m0,s1,hle,hI⟩,oM⟩:=h
  obtain⟨iH,wU⟩:=Df hb hs hle
  refine yi (fun m a w=>∃s φ,J m s/\bX M cj H0 w0 n cx φ s a w) ?_ m0 a w ⟨s1,iH,hI,wU⟩
  rintro m a w ⟨s,φ,hI,hs⟩
  refine gh (ih _ s φ a w (oM m s hI) hs) ?_
  rintro e a' w' ⟨xx,s',aE,hq,jU,hm⟩
  cases e<;>cases xx<;>first|(exact hm.elim)|skip
  ·obtain⟨m2,s2,ck,S7,hI2⟩:=hq
   obtain⟨GJ,Mg⟩:=Df hb jU S7
   exact⟨m2,ck,s2,GJ,hI2,Mg⟩
  ·subst hm;exact⟨_,s',aE,hq,jU,rfl⟩
  ·exact IM
  ·exact IW
def JH(tmps:Array Value)(r:ResultVar):Sem Value:=
 match r with
 | .tmp t=>pure (tmps.getD t undef)
 | .cell p t=>do loadVar t (<- asAddr (tmps.getD p undef))
theorem s9(pI:ax M φ s.H w)(dP:∀i,V.den (ak M φ s.H) φ s.H w (s.env i) (a.tmps.getD i undef)):∀ (rs:List ResultVar) (vs:List V),lK P s rs=some vs->
 ∃vals,(rs.mapM (JH a.tmps)).run P w= .ok vals w/\V.aD (ak M φ s.H) φ s.H w vs vals
 |[],vs,h=>by simp[lK]at h;subst h;exact⟨[],aL,rfl⟩
 | .tmp t::rs,vs,h=>by
   simp only[lK,Option.map_eq_some_iff]at h
   obtain⟨us,h1,rfl⟩:=h
   obtain⟨vals,h2,h3⟩:=s9 pI dP rs us h1
   exact⟨a.tmps.getD t undef::vals,by simp only[List.mapM_cons,JH,Sem.run_bind,Sem.run_pure,Result.andThen_ok,h2],_,_,rfl,dP t,h3⟩
 | .cell p t::rs,vs,h=>by
   simp only[lK]at h
   split at h
   ·rename_i id off hv
    split at h
    ·rename_i cs ho
     simp only[Option.bind_eq_some_iff,Option.map_eq_some_iff]at h
     obtain⟨v,h0,us,h1,rfl⟩:=h
     obtain⟨vals,h2,h3⟩:=s9 pI dP rs us h1
     have hx:=dP p
     rw[hv]at hx
     obtain⟨_,hu,hp⟩:=hx
     obtain⟨k,dT,eJ⟩:=hp (by show(s.o id).b8=true;rw[ho];rfl)
     have aW:=pI.ok id
     have wm:s.H.o id= .row cs:=ho
     simp only[aN,wm]at aW
     obtain⟨b',dI,ty,g1,g2,g3,g4⟩:=aW
     rw[dT]at g1;simp at g1;subst g1
     obtain⟨val,h4,h5⟩:=pq (P:=P) h0 ⟨k,0,none⟩ dI.toList g3 g4 (fun j u hj=>pt g2 j u mn) rfl
     rw[add_plain,Nat.zero_add]at h4
     have h6:(loadVar t ⟨k,off,none⟩).run P w= .ok val w:=by simpa[Instr.loadAt,Instr.sureAddr]using h4
     exact⟨val::vals,by simp only[List.mapM_cons,JH,eJ,asAddr,Sem.run_bind,Sem.run_pure,Result.andThen_ok,h6,h2],val,vals,rfl,h5,h3⟩
    ·cases h
   ·cases h
theorem mN{fn:Func}{tmps:Array Value}{vals:List Value}
 (h:(fn.results.toList.mapM (JH tmps)).run P w= .ok vals w):
 (results fn tmps).run P w= .ok (if h:vals.toArray.size=1 then vals.toArray[0]else .tuple vals.toArray) w:=by
 have e:results fn tmps=(do let vs <- fn.results.mapM (JH tmps);pure (if h:vs.size=1 then vs[0]else .tuple vs)):=by
  unfold results
  congr 2
 rw[e,Array.mapM_eq_mapM_toList]
 simp only[Sem.run_bind,Sem.run_map,h,Result.andThen_ok,Sem.run_pure]
theorem la{us:Nat->Prop}(φ:Place)(hM:∀k,M k->k<w.heap.size):ax M φ ⟨fun _=> .no,us⟩ w where
 ok id:=by simp[aN]
 fresh _ _:=rfl
 apart i j k hi:=by simp[ab.live]at hi
 ours k:=by rintro⟨id,h,_⟩;simp[ab.live]at h
 zO:=hM
theorem GK{vals:Array Value}{m i:Nat}:(vals++Array.replicate m undef).getD i undef=(vals[i]?).getD undef:=by
 simp only[Array.getD_eq_getD_getElem?,Array.getElem?_append]
 split
 ·rfl
 ·rw[Array.getElem?_eq_none (xs:=vals) (by omega)]
  simp only[Array.getElem?_replicate]
  split<;>rfl
structure yj (M:Nat->Prop) (cj:Place) (H0:Hp) (w0:World) (φ:Place) (s:S) (tmps:Array Value) (w:World):Prop where
 heap:ax M φ s.H w
 tr:Trans cj H0 w0 φ s.H w
 env:∀i,V.den (ak M φ s.H) φ s.H w (s.env i) (tmps.getD i undef)
theorem GL{tmps:Array Value}(hs:yj M cj H0 w0 φ s tmps w){r:Nat}(h1:w0.heap.size<=r)(h2:w.heap[r]? =some (.deferred (some [])))(h3: ¬cA φ s.H r):
 yj M cj H0 w0 φ s tmps {w with heap:=w.heap.setIfInBounds r (.deferred none)}:=by
 have j9:∀b,b≠r->(w.heap.setIfInBounds r (.deferred none))[b]? =w.heap[b]? :=fun b hb=>(MapKept.heap_set h2).2 b hb
 have zP:∀b,cU w b-> ¬ak M φ s.H b->(w.heap.setIfInBounds r (.deferred none))[b]? =w.heap[b]? /\ ¬ak M φ s.H b:=by
  intro b hc hn
  refine⟨j9 b fun e=> ?_,hn⟩
  subst e
  rcases hc with⟨cs,ty,fz,hc⟩|⟨es,clock,hc⟩
  ·rw[h2]at hc;cases hc
  ·rw[h2]at hc;cases hc
 refine⟨⟨fun id=> ?_,hs.heap.fresh,hs.heap.apart,fun b hb=>⟨(hs.heap.ours b hb).1,by simpa using(hs.heap.ours b hb).2⟩,fun b hb=>by simpa using hs.heap.zO b hb⟩,⟨⟨hs.tr.keep.os,hs.tr.keep.tape,hs.tr.keep.output,by simpa using hs.tr.keep.size,fun j hj hm=> ?_⟩,hs.tr.grow,hs.tr.rel⟩,fun i=>V.kS zP (dJ.refl _ _) _ _ (hs.env i)⟩
 ·exact aN.An zP (dJ.refl _ _) rfl rfl (fun hl b hb=>j9 b fun e=>h3 ⟨id,hl,e ▸ hb⟩) (hs.heap.ok id)
 ·rw[j9 j (by omega)];exact hs.tr.keep.block j hj hm
theorem gk{fn:Func}{R:Ending->World->Prop}{u:FrameMode}(hu:u≠ .run){tmps tb:Array Value}{ds:List Deferred}(hR:∀w,yj M cj H0 w0 φ s tb w->LeavesInM (dC none) k P fn tmps R ds u w):
 ∀ (ms:List Nat) (w:World),ms.Nodup->(∀r∈ms,w0.heap.size<=r/\w.heap[r]? =some (.deferred (some []))/\ ¬cA φ s.H r)->yj M cj H0 w0 φ s tb w->LeavesInM (dC none) k P fn tmps R (ms.map mark++ds) u w
 |[],w,_,_,hs=>hR w hs
 |r::ms,w,hn,hm,hs=>by
  obtain⟨h1,h2,h3⟩:=hm r aL
  obtain⟨P6,Jj⟩:=List.nodup_cons.1 hn
  refine⟨hu, .inl ⟨r,{w with heap:=w.heap.setIfInBounds r (.deferred none)},rfl, ?_,gk hu hR ms _ Jj (fun r' x9=> ?_) (GL hs h1 h2 h3)⟩⟩
  ·simp[Instr.takeDeferred,getObj,setObj,Sem.run,h2,Result.andThen]
  ·obtain⟨g1,g2,g3⟩:=hm r' (by simp[x9])
   exact⟨g1,((MapKept.heap_set h2).2 r' (fun e=>P6 (e ▸ x9))).trans g2,g3⟩
theorem bX.toB (hs:bX M cj H0 w0 n cx φ s a w):yj M cj H0 w0 φ s a.tmps w:=⟨hs.heap,hs.tr,hs.env⟩
def lM(P:Program)(rs:List ResultVar)(K X:V->(Nat->ab)->Nat->Prop)(e:fm)(s:S):Prop:=
 match e with
 | .normal| .ret=>match lK P s rs with
   |some [v]=>K v s.o s.nx
   |some vs=>K (.bU vs) s.o s.nx
   |none=>False
 | .bD v=>X v s.o s.nx
 | .exit _=>False
theorem AX{P:Program}{rs:List ResultVar}{K X:V->(Nat->ab)->Nat->Prop}{s:S}(h:lM P rs K X .ret s):∃vs,lK P s rs=some vs/\K (match vs with|[v]=>v|vs=> .bU vs) s.o s.nx:=by
 unfold lM at h
 simp only at h
 split at h
 ·rename_i v h1;exact⟨[v],h1,h⟩
 ·rename_i vs h1 h2
  refine⟨vs,h2, ?_⟩
  split
  ·exact absurd rfl (h1 _)
  ·exact h
 ·exact h.elim
theorem AY:∀ {vs:List V} {vals:List Value},V.aD (ak M φ H) φ H w vs vals->V.den (ak M φ H) φ H w (match vs with|[v]=>v|vs=> .bU vs) (if h:vals.toArray.size=1 then vals.toArray[0]else .tuple vals.toArray)
 |[],vals,h=>by simp only[V.aD]at h;subst h;exact⟨#[],rfl,rfl⟩
 |[v],vals,h=>by obtain⟨u,us,rfl,h1,h2⟩:=h;simp only[V.aD]at h2;subst h2;exact h1
 |v::y::l,vals,h=>by
  have h':=h
  obtain⟨u,us,rfl,h1,u2,us2,rfl,h2⟩:=h
  exact⟨(u::u2::us2).toArray,aL,by simpa using h'⟩
theorem Af{vals:Array Value}{m:Nat}{vs:List V}(hd:V.aD (ak M φ H) φ H w vs vals.toList)(i:Nat):V.den (ak M φ H) φ H w (cC vs i) ((vals++Array.replicate m undef).getD i undef):=by
 have hlen:=V.aB _ _ hd
 simp only[cC,GK]
 cases hx:vs[i]? with
 |none=>
  have:vals[i]? =none:=by
   rw[List.getElem?_eq_none_iff]at hx
   apply Array.getElem?_eq_none
   simp at hlen;omega
  simp only[List.getD_eq_getElem?_getD,hx,this]
  exact⟨#[],rfl,rfl⟩
 |some v=>
  obtain⟨u,hu,MN⟩:=V.dq _ _ _ _ hd hx
  have zY:vals[i]? =some u:=by simpa using hu
  simp only[List.getD_eq_getElem?_getD,hx,zY,Option.getD_some]
  exact MN
theorem mO{f:FuncId}{fn:Func}{c:Code}{args:Array Value}{w:World}{R:Ending->World->Prop}(hf:P.funcs[f]? =some fn)(hb:fn.body=some c)
 (h:c.sJ P none (bodyPostM (dC none) k P fn R) {tmps:=args++Array.replicate (fn.ntmps - args.size) undef,defers:=[]} w):CallsIn (dC none) k P f args w R:=by
 have ck:f<P.funcs.size:=(Array.getElem?_eq_some_iff.1 hf).1
 refine⟨trivial,fun cs hr=> ?_⟩
 let b:Frame:={(default:Frame)with fn:=f,kind:= .normal,roundOf:=none}
 have lL:Frame.enter P f args .normal=b.atR {tmps:=args++Array.replicate (fn.ntmps - args.size) undef,defers:=[]} [.code c]:=by
  simp[Frame.enter,Frame.atR,hf,hb,b]
 obtain⟨e,a',w',hq,cW⟩:=h b [] cs rfl ck
 rw[<- lL]at cW
 cases e with
 |normal=>
  obtain⟨e',Sr,fr',hR,hs,H5,hl⟩:=leaves_stepsInM a'.defers .returning w' {b.atR a' []with mode:= .returning} cs rfl rfl rfl hf rfl (trivial:(dC none).fn f) hr hq
  exact⟨e',Sr,fr',hR,ComesIn.of_steps (StepsIn.trans cW (.one (fenced_calm (n:=0) (fr:=b.atR a' []) trivial gf rfl) (stepR_end rfl))) hs,H5,hl⟩
 |ret=>
  obtain⟨todo,Pa⟩:=cW.1 rfl
  obtain⟨e',Sr,fr',hR,hs,H5,hl⟩:=leaves_stepsInM a'.defers .returning w' {b.atR a' todo with mode:= .returning} cs rfl rfl rfl hf rfl (trivial:(dC none).fn f) hr hq
  exact O9
 |panic chain=>
  obtain⟨todo,Pa⟩:=cW
  obtain⟨e',Sr,fr',hR,hs,H5,hl⟩:=leaves_stepsInM a'.defers (.panicking chain) w' {b.atR a' todo with mode:= .panicking chain} cs rfl rfl rfl hf rfl (trivial:(dC none).fn f) hr hq
  exact O9
 |exit id=>exact hq.elim
 |goto l=>exact hq.elim
 |outgrown=>exact⟨.outgrown,w',b,hq,cW.resolve_left (by simp[b]),rfl,trivial⟩
def Dh(P:Program)(l:Nat)(R:Ending->World->Prop):Exit->Act->World->Prop
 | .normal,_,w=>∃v w',(Instr.endRound l none).run P w= .ok v w'/\R (.returned v) w'
 | .ret,_,w=>∃v w',(Instr.endRound l (some .ret)).run P w= .ok v w'/\R (.returned v) w'
 | .exit id,_,w=>∃v w',(Instr.endRound l (some (.exit id))).run P w= .ok v w'/\R (.returned v) w'
 | .goto _,_,_=>False
 | .panic chain,a,w=>a.defers=[]/\R (.panicked chain) w
 | .outgrown,_,_=>False
theorem ua{l:Nat}{f:FuncId}{tmps:Array Value}{assign body:Code}{w:World}{R:Ending->World->Prop}(hf:f<P.funcs.size)
 (h:assign.sJ P (some l) (Exit.then (fun nN jn=>∃qZ,(Instr.beginRound l).run P jn= .ok () qZ/\body.sJ P (some l) (Dh P l R) nN qZ) (fun e a w=>match e with| .panic chain=>a.defers=[]/\R (.panicked chain) w|_=>False))
  {tmps:=tmps,defers:=[]} w):
 RoundIn Fence.wide n P l f tmps assign body w R:=by
 refine⟨trivial,fun c cs hr=> ?_⟩
 let b:Frame:={(default:Frame)with fn:=f,kind:= .normal,roundOf:=some l}
 have S8:Frame.round l f tmps assign body .normal=b.atR {tmps:=tmps,defers:=[]} [.code assign, .beginRound, .code body]:=by
  simp[Frame.round,Frame.atR,b]
 have calm:∀ (m:Machine),m.fenced P Fence.wide:=fun m=>fenced_wide P m
 have bD:∀ {a:Act} {w:World} {todo:List Item} {chain:List PanicEntry},a.defers=[]->step P (lone {b.atR a todo with mode:= .panicking chain} (c::cs) w)= .next (lone (c.raise chain) cs w):=by
  intro a w todo chain hd
  exact step_leave_panicked (fr:={b.atR a todo with mode:= .panicking chain}) ⟨rfl,hd,P.funcs[f],by show P.funcs[f]? =_;simp[hf]⟩
 obtain⟨e,nN,jn,hq,cW⟩:=h b [.beginRound, .code body] (c::cs) rfl hf
 rw[<- S8]at cW
 cases e with
 |normal=>
  obtain⟨qZ,hbr,pK⟩:=hq
  have s1:StepsIn (Machine.fenced P Fence.wide) P (lone (b.atR nN [.beginRound, .code body]) (c::cs) jn) (lone (b.atR nN [.code body]) (c::cs) qZ):= .one (calm _) (stepR_beginRound rfl hbr)
  obtain⟨S4,Y1,Dd,pG,kj⟩:=pK b [] (c::cs) rfl hf
  have cW:StepsIn (Machine.fenced P Fence.wide) P _ _:=cW
  cases S4 with
  |normal=>
   obtain⟨v,sK,cz,hR⟩:=pG
   have kj:StepsIn (Machine.fenced P Fence.wide) P _ _:=kj
   exact⟨.returned v,sK,hR,(StepsIn.trans cW s1).trans (StepsIn.trans kj (.one (calm _) (stepR_round_end rfl rfl cz)))⟩
  |ret=>
   obtain⟨v,sK,cz,hR⟩:=pG
   obtain⟨k₁,hs⟩:=kj.2 rfl
   have hs:StepsIn (Machine.fenced P Fence.wide) P _ _:=hs
   exact⟨.returned v,sK,hR,(StepsIn.trans cW s1).trans (StepsIn.trans hs (.one (calm _) (stepR_round_ret rfl rfl cz)))⟩
  |exit id=>
   obtain⟨v,sK,cz,hR⟩:=pG
   obtain⟨k₁,hk,hs⟩:=kj.2 rfl rfl
   have hs:StepsIn (Machine.fenced P Fence.wide) P _ _:=hs
   exact⟨.returned v,sK,hR,(StepsIn.trans cW s1).trans (StepsIn.trans hs (.one (calm _) (stepR_round_exit rfl rfl hk cz)))⟩
  |goto t=>exact pG.elim
  |panic chain=>
   obtain⟨todo,hs⟩:=kj
   have hs:StepsIn (Machine.fenced P Fence.wide) P _ _:=hs
   exact⟨.panicked chain,Dd,pG.2,(StepsIn.trans cW s1).trans (StepsIn.trans hs (.one (calm _) (bD pG.1)))⟩
  |outgrown=>exact pG.elim
 |exit id=>exact hq.elim
 |goto t=>exact hq.elim
 |ret=>exact hq.elim
 |panic chain=>
  obtain⟨todo,hs⟩:=cW
  have hs:StepsIn (Machine.fenced P Fence.wide) P _ _:=hs
  exact⟨.panicked chain,jn,hq.2,StepsIn.trans hs (.one (calm _) (bD hq.1))⟩
 |outgrown=>exact hq.elim
theorem cX.ET {f:FuncId}{fn:Func}{c:Code}{args:List V}{o:Nat->ab}{nx:Nat}{K X:V->(Nat->ab)->Nat->Prop}(hf:P.funcs[f]? =some fn)(hn:(fn.name== "runtime.NumGoroutine")=false)(pK:fn.body=some c)(hl:args.length<=fn.ntmps)
 (h:iU P fn.ntmps nx false c (lM P fn.results.toList K X) ⟨cC args,o,nx⟩):cX P f args o nx K X:=by
 refine⟨⟨fn,hf,hn,by rw[pK];rfl⟩,fun M φ w vals hH hd=> ?_⟩
 have hlen:=V.aB _ _ hd
 let s0:S:=⟨cC args,o,nx⟩
 let a0:Act:={tmps:=vals++Array.replicate (fn.ntmps - vals.size) undef,defers:=[]}
 have iu:bX M φ (hp o nx) w fn.ntmps ⟨[],false⟩ φ s0 a0 w:=by
  exact YA
 refine AP (ro:=none) (k:=0) (mO hf pK (gh (gL (P:=P) (H0:=hp o nx) (b:=nx) (cx:=⟨[],false⟩) (ro:=none) (fun id hu=>hu) (fun _=>rfl) c _ s0 φ a0 w h iu) ?_))
 rintro e a w' ⟨x,s,aE,hq,hs,hm⟩
 obtain⟨ms,g1,g2,g3,g4⟩:=hs.defers
 rw[List.append_nil]at g1
 have done:(x= .normal\/x= .ret)->LeavesInM (dC none) 0 P fn a.tmps (mI M φ (hp o nx) w K X) a.defers .returning w':=by
  intro hx
  have hq':lM P fn.results.toList K X .ret s:=by rcases hx with rfl|rfl<;>exact hq
  obtain⟨vs,h1,h2⟩:=AX hq'
  rw[g1]
  have:=gk (P:=P) (k:=0) (fn:=fn) (R:=mI M φ (hp o nx) w K X) (u:= .returning) aL (ds:=[]) (fun w2 hb=>by
   obtain⟨vals,h3,h4⟩:=s9 (P:=P) (a:=a) hb.heap hb.env _ _ h1
   exact⟨_,mN h3,aE,s.o,s.nx,_,hb.heap,hb.tr,AY h4,h2⟩) ms w' g2 g4 hs.toB
  rwa [List.append_nil]at this
 cases e<;>cases x<;>first|(exact hm.elim)|skip
 ·exact done (.inl rfl)
 ·exact hq.elim
 ·exact done (.inr rfl)
 ·rename_i v
  obtain⟨val,rfl,hd'⟩:=hm
  show LeavesInM (dC none) 0 P fn a.tmps (mI M φ (hp o nx) w K X) a.defers _ w'
  rw[g1]
  have S8:yj M φ (hp o nx) w aE ⟨fun i=>if i=0 then v else .aa,s.o,s.nx⟩ #[val] w':=⟨hs.heap,hs.tr,fun i=>by
   by_cases hi:i=0
   ·subst hi;exact hd'
   ·simp only[hi,if_false];trivial⟩
  have:=gk (P:=P) (k:=0) (fn:=fn) (s:=⟨fun i=>if i=0 then v else .aa,s.o,s.nx⟩) (tmps:=a.tmps) (tb:=#[val]) (cj:=φ) (H0:=hp o nx) (w0:=w) (R:=mI M φ (hp o nx) w K X) (u:= .panicking [{v:=val,recovered:=false}]) aL (ds:=[]) (fun w2 hb=>by
   have h0:=hb.env 0
   exact⟨aE,s.o,s.nx,v,hb.heap,hb.tr,val,rfl,h0,hq⟩) ms w' g2 g4 S8
  rwa [List.append_nil]at this
theorem aT.mP {f:FuncId}{ds:List D}{out:R}(h:cX P f (ds.map .d) (fun _=> .no) 0 (fun v o _=>∃vs rs,v=(match vs with|[v]=>v|vs=> .bU vs)/\bV o vs=some rs/\out= .ret rs) (fun v o _=>∃x,dE o v=some x/\out= .bD x)):aT P f ds out:=by
 refine⟨h.1,fun M w vals hM hd=> ?_⟩
 let cj:Place:=fun _=> .nilFunc
 have vH:∀b, ¬cA cj (hp (fun _=> .no) 0) b:=by rintro b ⟨id,hl,_⟩;simp[hp,ab.live]at hl
 refine(h.2 M cj w vals (la cj hM) ((V.b9 _ _).2 (D.aP (w:=w) (w':=w) (B:=M) (fun b _ hB=>⟨rfl,fun h=>h.elim hB (vH b)⟩) _ _ hd))).mono ?_
 rintro e w' ⟨aE,o',nx',v,k1,k2,k3⟩
 have rX:dB (fun _=>False) w w':=⟨k2.keep.os,k2.keep.tape,k2.keep.output,k2.keep.size,fun k hk _=>k2.keep.block k hk (vH k)⟩
 have fin:∀ (vs:List V) (xs:List D) (vals:List Value),bV o' vs=some xs->V.aD (ak M aE (hp o' nx')) aE (hp o' nx') w' vs vals->D.aD M w' xs vals:=by
  intro vs xs vals h1 h2
  obtain⟨f1,f2,f3,f4,f5⟩:=cG k1 (V.bf vs) (cK vs _ h2)
  have h3:=c0 f1 vs xs vals f3 h1 (V.aP f2 _ _ h2)
  exact D.aP (w:=w') (w':=w') (fun k _ hB=>⟨rfl,fun hM=>hB (.inl hM)⟩) xs vals h3
 refine⟨rX, ?_⟩
 cases e with
 |outgrown=>exact k3.elim
 |panicked ch=>
  obtain⟨val,rfl,g1,x,g2,rfl⟩:=k3
  have:=fin [v] [x] [val] (by simp[bV,g2]) ⟨val,[],rfl,g1,rfl⟩
  obtain⟨u,us,he,h2,_⟩:=this
  simp at he;obtain⟨rfl,rfl⟩:=he
  exact⟨val,rfl,h2⟩
 |returned val=>
  obtain⟨g1,vs,rs,rfl,g2,rfl⟩:=k3
  match vs,g1,g2 with
  |[],g1,g2=>
   obtain⟨arr,rfl,hv⟩:=g1
   simp only[bV,Option.some.injEq]at g2;subst g2
   exact⟨arr,rfl,hv⟩
  |[v],g1,g2=>
   have:=fin [v] rs [val] g2 ⟨val,[],rfl,g1,rfl⟩
   cases rs with
   |nil=>cases this
   |cons x l=>
    obtain⟨u,us,he,h2,h3⟩:=this
    simp at he;obtain⟨rfl,rfl⟩:=he
    cases l with
    |nil=>exact h2
    |cons y l=>obtain⟨_,_,h,_⟩:=h3;cases h
  |v::v2::l,g1,g2=>
   obtain⟨arr,rfl,h⟩:=g1
   have:=fin (v::v2::l) rs arr.toList g2 h
   have hl:=D.aB _ _ this
   have Ss:=V.aB _ _ h
   match rs,hl,this with
   |[],hl,_=>exact En
   |[x],hl,_=>exact En
   |x::y::l,_,this=>exact⟨arr,rfl,this⟩
theorem GM{rs:List ResultVar}{out:R}(e:fm)(s:S)(h:Dc P rs out e s):
 lM P rs (fun v o _=>∃vs rs,v=(match vs with|[v]=>v|vs=> .bU vs)/\bV o vs=some rs/\out= .ret rs) (fun v o _=>∃x,dE o v=some x/\out= .bD x) e s:=by
 have ret:Dc P rs out .ret s->lM P rs (fun v o _=>∃vs rs,v=(match vs with|[v]=>v|vs=> .bU vs)/\bV o vs=some rs/\out= .ret rs) (fun v o _=>∃x,dE o v=some x/\out= .bD x) .ret s:=by
  intro h
  obtain⟨vs,xs,h1,h2,h3⟩:=JA h
  simp only[lM,h1]
  match vs,h2 with
  |[],h2=>exact⟨[],xs,rfl,h2,h3⟩
  |[v],h2=>exact⟨[v],xs,rfl,h2,h3⟩
  |v::v2::l,h2=>exact⟨v::v2::l,xs,rfl,h2,h3⟩
 cases e with
 |normal=>exact ret h
 |ret=>exact ret h
 |exit id=>exact h.elim
 |bD v=>exact JB h
end
end
section
def JI{α:Type}(c:Bool)(x:α):Option α:=if c=true then some x else none
def one(v:V):Option fA:=some (v,[],[])
def AZ(op:BinOp)(k:IntKind)(a b:Int):Option V:=
 match op with
 | .add=>some (.d (.int k (k.wrap (a+b))))
 | .sub=>some (.d (.int k (k.wrap (a - b))))
 | .mul=>some (.d (.int k (k.wrap (a*b))))
 | .quo=>if b=0 then none else some (.d (.int k (k.wrap (a.tdiv b))))
 | .rem=>if b=0 then none else some (.d (.int k (a.tmod b)))
 | .and=>(tJ .and k a b).map fun r=> .d (.int k r)
 | .or=>(tJ .or k a b).map fun r=> .d (.int k r)
 | .xor=>(tJ .xor k a b).map fun r=> .d (.int k r)
 | .andNot=>(tJ .andNot k a b).map fun r=> .d (.int k r)
 | .eql=>some (.d (.bool (a==b)))| .neq=>some (.d (.bool (a !=b)))| .lss=>some (.d (.bool (decide (a<b))))| .leq=>some (.d (.bool (decide (a<=b))))
 | .gtr=>some (.d (.bool (decide (b<a))))| .geq=>some (.d (.bool (decide (b<=a))))
 |_=>none
def lN(P:Program)(t:TypeId):Bool:=
 match P.underlying t with
 |some .bool=>true
 |_=>false
def yk(P:Program)(op:BinOp)(t:TypeId)(x y:V):Option V:=
 match x,y with
 | .d (.int k a), .d (.int k' b)=>if k=k' then AZ op k a b else none
 | .d (.bool a), .d (.bool b)=>match op with
   | .eql=>JI (lN P t) (.d (.bool (a==b)))
   | .neq=>JI (lN P t) (.d (.bool (a !=b)))
   |_=>none
 | .d (.str a), .d (.str b)=>match op with
   | .eql=>some (.d (.bool (a==b)))
   | .neq=>some (.d (.bool (a !=b)))
   |_=>none
 |_,_=>none
def unF(op:UnOp)(x:V):Option V:=
 match op,x with
 | .neg, .d (.int k n)=>some (.d (.int k (k.wrap (-n))))
 | .not, .d (.bool b)=>some (.d (.bool !b))
 |_,_=>none
def pL(c a b:V):Option V:=
 match c with
 | .d (.bool true)=>some a
 | .d (.bool false)=>some b
 |_=>none
def pM(o:Nat->ab)(x:V):Option (List D×List Nat):=
 match x with
 | .d (.sl es)=>some (es,[])
 | .bd=>some ([],[])
 | .qB es=>some (es,[])
 | .osl id ep=>match o id with
   | .arr ij _ _ es=>if ep=ij then some (es,[id])else none
   | .rN ij es=>if ep=ij then some (es,[id])else none
   |_=>none
 |_=>none
def Di(P:Program)(t:TypeId)(o:Nat->ab)(x:V):Option fA:=
 match P.underlying t with
 |some (.slice _)=>match pM o x with
  |some (es,rd)=>some (.d (.int .i64 es.length),[],rd)
  |none=>none
 |some .string=>match x with
  | .d (.str s)=>one (.d (.int .i64 s.length))
  |_=>none
 |some (.array n _)=>one (.d (.int .i64 n))
 |_=>none
def wV(P:Program)(e:TypeId)(es:List D)(i:Int)(rd:List Nat):Option fA:=
 if 0<=i then match es[i.toNat]? with
  |some y=>JI (y.cells.length==P.cellsOf e&&0<P.cellsOf e) (.pp y.cells 0,[],rd)
  |none=>none
 else none
def oj(o:Nat->ab)(x:V)(q:Nat):Option V:=
 match x with
 | .ptr id off=>JI (o id).b8 (.ptr id (off+q))
 | .pp cs off=>some (.pp cs (off+q))
 | .pe id ep j sz off=>if(o id).bY=some ep then some (.pe id ep j sz (off+q))else none
 |_=>none
def gM(P:Program)(o:Nat->ab)(t:TypeId)(x ix:V):Option fA:=
 match ix with
 | .d (.int _ i)=>match bW P t with
   |some e=>match x with
    | .d (.sl es)=>wV P e es i []
    | .qB es=>wV P e es i []
    | .osl id ep=>match o id with
      | .arr ij _ sz es=>if ep=ij/\0<=i/\i.toNat<es.length/\sz=P.cellsOf e/\0<P.cellsOf e then some (.pe id ep i.toNat sz 0,[],[id])else none
      | .rN ij es=>if ep=ij then wV P e es i [id]else none
      |_=>none
    |_=>none
   |none=>match vM P t with
    |some (n,e)=>if 0<=i/\i<n/\(P.info? e).isSome=true then(oj o x (i.toNat*P.cellsOf e)).bind one else none
    |none=>none
 |_=>none
def gN(P:Program)(o:Nat->ab)(t:TypeId)(x:V)(f:Nat):Option V:=
 match bK P t f with
 |some q=>oj o x q
 |none=>none
def mQ(P:Program)(o:Nat->ab)(t:TypeId)(x:V):Option fA:=
 match x with
 | .ptr id off=>match o id with
   | .row cs=>match ew P t cs off with
     |some v=>some (v,[],[id])
     |none=>none
   |_=>none
 | .pp cs off=>match ew P t (cs.map .d) off with
   |some v=>some (v,[],[])
   |none=>none
 | .pe id ep i sz off=>match o id with
   | .arr ij _ qC es=>if ep=ij/\sz=qC then match es[i]? with
    |some e=>match ew P t (e.cells.map .d) off with
     |some v=>some (v,[],[id])
     |none=>none
    |none=>none
     else none
   |_=>none
 |_=>none
def q9(P:Program)(o:Nat->ab)(t:TypeId)(x v:V):Option fA:=
 match x with
 | .ptr id off=>match o id with
   | .row cs=>match xW P t cs off v with
     |some cs'=>some (.bU [],[(id, .row cs')],[id])
     |none=>none
   |_=>none
 | .pe id ep i qC off=>match o id with
   | .arr ij ty sz es=>if ep=ij/\qC=sz then match es[i]?,dE o v with
    |some e,some y=>if y.cells.length=P.cellsOf t/\0<y.cells.length/\v.ids.all (· !=id)=true then match e.put off y.cells with
     |some e'=>some (.bU [],cg o v.ids++[(id, .arr ep ty sz (es.set i e'))],id::v.ids)
     |none=>none
     else none
    |_,_=>none
     else none
   |_=>none
 |_=>none
def fM(P:Program)(o:Nat->ab)(fr:Nat)(t:TypeId)(len:Nat)(parts:List (Nat×V)):Option fA:=
 match bW P t with
 |some e=>if len=0/\parts.isEmpty=true/\0<P.cellsOf e then some (.osl fr 0,[(fr, .arr 0 e (P.cellsOf e) [])],[])else if parts.map (·.1)=List.range len/\(cu P e).isSome=true/\0<len/\0<P.cellsOf e/\len*P.cellsOf e<=2^24 then match bV o (parts.map (·.2))with
  |some ds=>if ds.all (fun x=>x.cells.length==P.cellsOf e)=true then some (.osl fr 0,cg o (V.bf (parts.map (·.2)))++[(fr, .arr 0 e (P.cellsOf e) ds)],V.bf (parts.map (·.2)))else none
  |none=>none
  else none
 |none=>none
def lO(P:Program)(fr:Nat)(t:TypeId)(l c:V):Option fA:=
 match bW P t with
 |some e=>match l,c with
  | .d (.int _ n), .d (.int _ m)=>if n=m/\0<=n/\0<P.cellsOf e/\P.bytesOf e*n.toNat<=2^47/\n.toNat<=2^47 then match Aj P e with
   |some x=>some (.osl fr 0,[(fr, .arr 0 e (P.cellsOf e) (List.replicate n.toNat x))],[])
   |none=>none
    else none
  |_,_=>none
 |none=>none
def pO(P:Program)(o:Nat->ab)(fr:Nat)(ts:Array TypeId)(x y:V):Option fA:=
 match ts.toList with
 |[t,t']=>if t=t' then match bW P t,pM o y with
    |some e,some (new,rd)=>if 0<P.cellsOf e/\(cu P e).isSome=true/\new.all (fun z=>z.cells.length==P.cellsOf e)=true then match x with
     | .bd=>if new.length<=2^47/\new.length*P.bytesOf e<=2^47 then some (.osl fr 0,[(fr, .arr 0 e (P.cellsOf e) new)],rd)else none
     | .qB es=>if es.all (fun z=>z.cells.length==P.cellsOf e)=true then(if new=[]then some (.qB es,[],rd)else if es.length+new.length<=2^40/\(es.length+new.length)*P.bytesOf e<=2^40 then some (.osl fr 0,[(fr, .arr 0 e (P.cellsOf e) (es++new))],rd)else none)else none
     | .osl id ep=>match o id with
       | .arr ij ty sz es=>if ep=ij/\ty=e/\sz=P.cellsOf e/\es.length+new.length<=2^47/\(es.length+new.length)*P.bytesOf e<=2^47 then
        some (.osl id (ep+1),[(id, .arr (ep+1) ty sz (es++new))],id::rd)else none
       |_=>none
     |_=>none
     else none
    |_,_=>none
  else none
 |_=>none
def pP(isMax:Bool)(x y:V):Option V:=
 match x,y with
 | .d (.int k a), .d (.int k' b)=>if k=k' then some (.d (.int k (if isMax then(if b>a then b else a)else(if b<a then b else a))))else none
 |_,_=>none
def lP(x:Option V):Option fA:=match x with|some v=>one v|none=>none
def pQ(P:Program)(s:S)(fr:Nat)(b:Builtin)(args:List Operand)(ts:Array TypeId):Option fA:=
 match b,args with
 | .len,[x]=>match ts.toList with
   |[t]=>Di P t s.o (s.ev x)
   |_=>none
 | .append,[x,y]=>match wA P fr ts (s.ev x) (s.ev y)with
   |some r=>some r
   |none=>pO P s.o fr ts (s.ev x) (s.ev y)
 | .max,[x,y]=>lP (pP true (s.ev x) (s.ev y))
 | .min,[x,y]=>lP (pP false (s.ev x) (s.ev y))
 | .max,[x,y,z]=>lP (EC (s.ev x) (s.ev y) (s.ev z))
 | .copy,[x,y]=>wz P s.o ts (s.ev x) (s.ev y)
 | .delete,[x,y]=>match ts.toList.head? with
   |some t=>nu P s.o t (s.ev x) (s.ev y)
   |none=>none
 | .cap,[x]=>MJ P ts (s.ev x)
 |_,_=>none
def yl(P:Program)(t:TypeId)(parts:List (Nat×V)):Option V:=
 match cu P t,ee P t with
 |some z,some pl=>match rO pl z parts with
  |some cs=>some (pc cs)
  |none=>none
 |_,_=>none
def jh(o:Nat->ab)(x:V):Option V:=
 match x with
 | .ptr id off=>JI (o id).b8 (.ptr id off)
 | .pp cs off=>some (.pp cs off)
 | .func (.func f) first cap=>some (.func (.func f) first cap)
 |_=>none
def ub(P:Program)(t:TypeId):Bool:=
 match P.underlying t with
 |some (.interface _)=>false
 |some _=>true
 |none=>false
def JJ(P:Program)(t:TypeId)(x:V):Option V:=
 JI (ub P t) (match x with
  | .d y=> .d (.iface t y)
  |v=> .iface t v)
def eT(P:Program)(o:Nat->ab)(op:BinOp)(t:TypeId)(oD:Bool)(x y:V):Option fA:=
 match yk P op t x y with
 |some v=>one v
 |none=>qR P o op t oD x y
def Gf(op:UnOp)(x:V):Option V:=
 match op,x with
 | .not, .eV=>some .eV
 |op,x=>unF op x
def fS(P:Program)(s:S)(fr:Nat)(op:Op):Option fA:=
 match op with
 | .move x=>one (s.ev x)
 | .assign x=>one (s.ev x)
 | .pick c a b=>lP (pL (s.ev c) (s.ev a) (s.ev b))
 | .alloc t=>match cu P t with
   |some cs=>some (.ptr fr 0,[(fr, .row cs)],[])
   |none=>none
 | .box _ x=>match(s.ev x).cells with
   |some cs=>some (.ptr fr 0,[(fr, .row cs)],[])
   |none=>none
 | .build t parts=>lP (yl P t (parts.toList.map fun p=>(p.1,s.ev p.2)))
 | .buildSlice t len parts=>fM P s.o fr t len (parts.toList.map fun p=>(p.1,s.ev p.2))
 | .load t x=>mQ P s.o t (s.ev x)
 | .store t x v=>q9 P s.o t (s.ev x) (s.ev v)
 | .nilCheck x=>lP (jh s.o (s.ev x))
 | .binOp op t x y _=>eT P s.o op t (isConst x||isConst y) (s.ev x) (s.ev y)
 | .unOp op _ x=>lP (Gf op (s.ev x))
 | .convert u t x=>match P.underlying u,vN P t,s.ev x with
   |some _,some k, .d (.int _ n)=>one (.d (.int k (k.wrap n)))
   |_,_,_=>none
 | .makeInterface t x=>lP (JJ P t (s.ev x))
 | .makeFunc fn first cap=>one (.func fn (first.toList.map s.ev) (cap.toList.map s.ev))
 | .makeSlice t l c=>lO P fr t (s.ev l) (s.ev c)
 | .fieldAddr t x f=>lP (gN P s.o t (s.ev x) f)
 | .indexAddr t x i=>gM P s.o t (s.ev x) (s.ev i)
 | .extract x i=>match s.ev x with
   | .bU vs=>match vs[i]? with
     |some v=>one v
     |none=>none
   |_=>none
 | .call c=>match c.callee with
   | .builtin b=>pQ P s fr b c.args.toList c.argTypes
   |_=>none
 | .slice t x lo hi mx=>qO P s.o t (s.ev x) (lo.map s.ev) (hi.map s.ev) (mx.map s.ev)
 | .field t x f=>lP (tL P t (s.ev x) f)
 | .index t x i=>lP (tM P t (s.ev x) (s.ev i))
 | .typeAssert x _ t ok=>lP (ph P t ok (s.ev x))
 | .makeMap t none=>mu P fr t
 | .lookup t m k ok=>hU P s.o t (s.ev m) (s.ev k) ok
 | .mapUpdate t m k v=>fl P s.o t (s.ev m) (s.ev k) (s.ev v)
 | .insert t m k v=>fl P s.o t (s.ev m) (s.ev k) (s.ev v)
 | .range t x=>mw P s.o fr t (s.ev x)
 | .next x str=>oe s.o (s.ev x) str
 | .entry x=>my s.o (s.ev x)
 |_=>none
section
variable {P:Program}{s:S}{fr:Nat}{v:V}{Δ:List (Nat×ab)}{rd:List Nat}{o:Nat->ab}{K:V->List (Nat×ab)->List Nat->Prop}
theorem ra{α:Type}{c:Bool}{x y:α}(h:JI c x=some y):c=true/\x=y:=by
 unfold JI at h;split at h
 ·injection h with h;exact⟨by assumption,h⟩
 ·cases h
theorem kD{x:V}{r:fA}(h:one x=some r):r=(x,[],[]):=by unfold one at h;injection h with h;exact h.symm
theorem iY{x:Option V}{r:fA}(h:lP x=some r):∃v,x=some v/\r=(v,[],[]):=by
 unfold lP at h;split at h
 ·exact⟨_,rfl,kD h⟩
 ·cases h
theorem Dj{x:V}{es:List D}{rd:List Nat}(h:pM o x=some (es,rd)):ey o x=some es/\rd=x.ids:=by
 unfold pM at h
 split at h
 ·exact IB
 ·exact IB
 ·exact IB
 ·split at h
  ·rename_i ho
   split at h
   ·rename_i e;simp at h;obtain⟨rfl,rfl⟩:=h;exact⟨by simp[ey,dE,ho,e],rfl⟩
   ·cases h
  ·rename_i ho
   split at h
   ·rename_i e;simp at h;obtain⟨rfl,rfl⟩:=h;exact⟨by simp[ey,dE,ho,e],rfl⟩
   ·cases h
  ·cases h
 ·cases h
theorem GN{op:BinOp}{k:IntKind}{a b:Int}{v:V}(h:AZ op k a b=some v){K:V->Prop}(hK:K v):MH op k a b K:=by
 cases op<;>simp only[AZ]at h<;>simp only[MH]
 case quo=>split at h
           ·cases h
           ·exact IA
 case rem=>split at h
           ·cases h
           ·exact IA
 case and=>simp only[Option.map_eq_some_iff]at h;obtain⟨r,h1,rfl⟩:=h;exact⟨r,h1,hK⟩
 case or=>simp only[Option.map_eq_some_iff]at h;obtain⟨r,h1,rfl⟩:=h;exact⟨r,h1,hK⟩
 case xor=>simp only[Option.map_eq_some_iff]at h;obtain⟨r,h1,rfl⟩:=h;exact⟨r,h1,hK⟩
 case andNot=>simp only[Option.map_eq_some_iff]at h;obtain⟨r,h1,rfl⟩:=h;exact⟨r,h1,hK⟩
 case shl=>cases h
 case shr=>cases h
 case eql=>injection h with h;subst h;exact⟨_,rfl,hK⟩
 case neq=>injection h with h;subst h;exact⟨_,rfl,hK⟩
 case lss=>injection h with h;subst h;exact⟨_,rfl,hK⟩
 case leq=>injection h with h;subst h;exact⟨_,rfl,hK⟩
 case gtr=>injection h with h;subst h;exact⟨_,rfl,hK⟩
 case geq=>injection h with h;subst h;exact⟨_,rfl,hK⟩
 all_goals (injection h with h;subst h;exact hK)
theorem GO{op:BinOp}{t:TypeId}{x y v:V}(h:yk P op t x y=some v){K:V->Prop}(hK:K v):Jb P op t x y K:=by
 unfold yk at h
 unfold Jb
 split at h
 ·split at h
  ·exact⟨by assumption,GN h hK⟩
  ·cases h
 ·have hb:lN P t=true->P.underlying t=some .bool:=by
   unfold lN;intro h;split at h
   ·assumption
   ·cases h
  split at h
  ·obtain⟨h1,rfl⟩:=ra h;exact⟨hb h1,hK⟩
  ·obtain⟨h1,rfl⟩:=ra h;exact⟨hb h1,hK⟩
  ·cases h
 ·split at h
  ·exact Ix
  ·exact Ix
  ·cases h
 ·cases h
theorem Dk{c a b v:V}(h:pL c a b=some v){K:V->Prop}(hK:K v):Ah c a b K:=by
 unfold pL at h
 unfold Ah
 split at h
 ·injection h with h;subst h;exact⟨fun _=>hK,(fun h=>by cases h)⟩
 ·injection h with h;subst h;exact⟨(fun h=>by cases h),fun _=>hK⟩
 ·cases h
theorem uc{x y:V}{q:Nat}(h:oj o x q=some y):(∃id off,x= .ptr id off/\(o id).b8=true/\y= .ptr id (off+q))\/(∃cs off,x= .pp cs off/\y= .pp cs (off+q))\/
 (∃id ep j sz off,x= .pe id ep j sz off/\(o id).bY=some ep/\y= .pe id ep j sz (off+q)):=by
 unfold oj at h
 split at h
 ·obtain⟨h1,rfl⟩:=ra h;exact .inl ⟨_,_,rfl,h1,rfl⟩
 ·injection h with h;exact .inr (.inl ⟨_,_,rfl,h.symm⟩)
 ·split at h
  ·injection h with h;exact .inr (.inr ⟨_,_,_,_,_,rfl,by assumption,h.symm⟩)
  ·cases h
 ·cases h
theorem tG{e:TypeId}{es:List D}{i:Int}{rd:List Nat}{r:fA}(h:wV P e es i rd=some r):
 0<=i/\∃y,es[i.toNat]? =some y/\y.cells.length=P.cellsOf e/\0<P.cellsOf e/\r=(.pp y.cells 0,[],rd):=by
 unfold wV at h
 split at h
 ·rename_i h0
  split at h
  ·rename_i y hy
   obtain⟨h1,rfl⟩:=ra h
   simp only[Bool.and_eq_true,beq_iff_eq,decide_eq_true_eq]at h1
   exact⟨h0,y,hy,h1.1,h1.2,rfl⟩
  ·cases h
 ·cases h
theorem sL{t:TypeId}{x ix:V}(h:gM P o t x ix=some (v,Δ,rd))(hK:K v Δ rd):js P o t x ix fun v rd=>K v [] rd:=by
 unfold gM at h
 unfold js
 split at h
 ·simp only
  split at h
  ·rename_i e ht
   simp only[ht]
   split at h
   ·exact Yr
   ·exact Yr
   ·split at h
    ·rename_i ho
     split at h
     ·rename_i hc
      simp only[Option.some.injEq,Prod.mk.injEq]at h;obtain⟨rfl,rfl,rfl⟩:=h
      simp only[ho]
      exact⟨hc.1,hc.2.1,hc.2.2.1,hc.2.2.2.1,hc.2.2.2.2,hK⟩
     ·cases h
    ·rename_i ho
     split at h
     ·rename_i hc
      obtain⟨h0,y,h1,h2,h3,h4⟩:=tG h
      simp only[Prod.mk.injEq]at h4;obtain⟨rfl,rfl,rfl⟩:=h4
      simp only[ho]
      exact⟨hc,h0,y,h1,h2,h3,hK⟩
     ·cases h
    ·cases h
   ·cases h
  ·rename_i ht
   simp only[ht]
   split at h
   ·rename_i n e ha
    simp only[ha]
    split at h
    ·rename_i hc
     simp only[Option.bind_eq_some_iff]at h
     obtain⟨y,hy,h1⟩:=h
     have h1:=kD h1
     simp only[Prod.mk.injEq]at h1;obtain⟨rfl,rfl,rfl⟩:=h1
     refine⟨hc.1,hc.2.1,hc.2.2, ?_⟩
     rcases uc hy with⟨_,_,rfl,h2,rfl⟩|⟨_,_,rfl,rfl⟩|⟨_,_,_,_,_,rfl,h2,rfl⟩
     ·exact⟨h2,hK⟩
     ·exact hK
     ·exact⟨h2,hK⟩
    ·cases h
   ·cases h
 ·cases h
theorem sM{t:TypeId}{x y:V}{f:Nat}(h:gN P o t x f=some y){K:V->Prop}(hK:K y):jt P o t x f K:=by
 unfold gN at h
 unfold jt
 split at h
 ·rename_i q hq
  simp only[hq]
  rcases uc h with⟨_,_,rfl,h2,rfl⟩|⟨_,_,rfl,rfl⟩|⟨_,_,_,_,_,rfl,h2,rfl⟩
  ·exact⟨h2,hK⟩
  ·exact hK
  ·exact⟨h2,hK⟩
 ·cases h
theorem GP{t:TypeId}{x:V}(h:Di P t o x=some (v,Δ,rd))(hK:K v Δ rd):Jc P t o x fun v rd=>K v [] rd:=by
 unfold Di at h
 unfold Jc
 split at h
 ·rename_i e hu
  simp only[hu]
  split at h
  ·rename_i es s5 hl
   simp only[Option.some.injEq,Prod.mk.injEq]at h;obtain⟨rfl,rfl,rfl⟩:=h
   unfold pM at hl
   split at hl
   ·exact IG
   ·exact IG
   ·exact IG
   ·split at hl
    ·rename_i ho
     split at hl
     ·rename_i hc;simp at hl;obtain⟨rfl,rfl⟩:=hl;simp only[ho];exact⟨hc,hK⟩
     ·cases hl
    ·rename_i ho
     split at hl
     ·rename_i hc;simp at hl;obtain⟨rfl,rfl⟩:=hl;simp only[ho];exact⟨hc,hK⟩
     ·cases hl
    ·cases hl
   ·cases hl
  ·cases h
 ·rename_i hu
  simp only[hu]
  split at h
  ·have h1:=kD h;simp only[Prod.mk.injEq]at h1;obtain⟨rfl,rfl,rfl⟩:=h1;exact hK
  ·cases h
 ·rename_i hu
  simp only[hu]
  have h1:=kD h;simp only[Prod.mk.injEq]at h1;obtain⟨rfl,rfl,rfl⟩:=h1;exact hK
 ·cases h
theorem Dl{t:TypeId}{x:V}(h:mQ P o t x=some (v,Δ,rd))(hK:K v Δ rd):Ai P o t x fun v rd=>K v [] rd:=by
 unfold mQ at h
 unfold Ai
 split at h
 ·split at h
  ·rename_i ho
   split at h
   ·rename_i hg
    exact YF
   ·cases h
  ·cases h
 ·split at h
  ·rename_i hg
   simp only[Option.some.injEq,Prod.mk.injEq]at h;obtain⟨rfl,rfl,rfl⟩:=h
   exact⟨_,hg,hK⟩
  ·cases h
 ·split at h
  ·rename_i ho
   split at h
   ·rename_i hc
    split at h
    ·rename_i e he
     split at h
     ·rename_i hg
      simp only[Option.some.injEq,Prod.mk.injEq]at h;obtain⟨rfl,rfl,rfl⟩:=h
      simp only[ho];exact⟨hc.1,hc.2,e,he,_,hg,hK⟩
     ·cases h
    ·cases h
   ·cases h
  ·cases h
 ·cases h
theorem A0{t:TypeId}{x y:V}(h:q9 P o t x y=some (v,Δ,rd))(hK:K v Δ rd):tK P o t x y fun Δ rd=>K (.bU []) Δ rd:=by
 unfold q9 at h
 unfold tK
 split at h
 ·split at h
  ·rename_i ho
   split at h
   ·rename_i hg
    exact YF
   ·cases h
  ·cases h
 ·split at h
  ·rename_i ho
   split at h
   ·rename_i hc
    split at h
    ·rename_i e z he hz
     split at h
     ·rename_i hl
      split at h
      ·rename_i e' hp
       simp only[Option.some.injEq,Prod.mk.injEq]at h;obtain⟨rfl,rfl,rfl⟩:=h
       simp only[ho]
       exact⟨hc.1,hc.2,e,he,z,hz,hl.1,hl.2.1,hl.2.2,e',hp,hK⟩
      ·cases h
     ·cases h
    ·cases h
   ·cases h
  ·cases h
 ·cases h
theorem rb{t:TypeId}{len:Nat}{parts:List (Nat×V)}(h:fM P o fr t len parts=some (v,Δ,rd))(hK:K v Δ rd):ik P o fr t len parts K:=by
 unfold fM at h
 unfold ik
 split at h
 ·rename_i e ht
  simp only[ht]
  split at h
  ·rename_i hc
   simp only[Option.some.injEq,Prod.mk.injEq]at h;obtain⟨rfl,rfl,rfl⟩:=h
   exact .inl ⟨hc.1,by simpa using hc.2.1,hc.2.2,hK⟩
  split at h
  ·rename_i hc
   refine .inr ?_
   split at h
   ·rename_i ds hd
    split at h
    ·rename_i hw
     simp only[Option.some.injEq,Prod.mk.injEq]at h;obtain⟨rfl,rfl,rfl⟩:=h
     refine⟨hc.1,hc.2.1,hc.2.2.1,hc.2.2.2.1,hc.2.2.2.2,ds,hd,fun x hx=> ?_,hK⟩
     simpa using List.all_eq_true.1 hw x hx
    ·cases h
   ·cases h
  ·cases h
 ·cases h
theorem sN{t:TypeId}{l c:V}(h:lO P fr t l c=some (v,Δ,rd))(hK:K v Δ rd):ju P fr t l c fun v Δ=>K v Δ []:=by
 unfold lO at h
 unfold ju
 split at h
 ·rename_i e ht
  split at h
  ·split at h
   ·rename_i hc
    split at h
    ·rename_i x hx
     simp only[Option.some.injEq,Prod.mk.injEq]at h;obtain⟨rfl,rfl,rfl⟩:=h
     simp only[ht]
     exact⟨hc.1,hc.2.1,hc.2.2.1,hc.2.2.2.1,hc.2.2.2.2,x,hx,hK⟩
    ·cases h
   ·cases h
  ·cases h
 ·cases h
theorem ym{ts:Array TypeId}{x y:V}(h:pO P o fr ts x y=some (v,Δ,rd))(hK:K v Δ rd):pf P o fr ts x y K:=by
 unfold pO at h
 unfold pf
 split at h
 ·rename_i t t' rR
  simp only[rR]
  split at h
  ·rename_i htt
   refine⟨htt, ?_⟩
   split at h
   ·rename_i e new s5 ht hl
    obtain⟨tS,rfl⟩:=Dj hl
    simp only[ht]
    split at h
    ·rename_i hc
     refine⟨new,tS,hc.1,hc.2.1,fun z hz=>by simpa using List.all_eq_true.1 hc.2.2 z hz, ?_⟩
     split at h
     ·split at h
      ·rename_i tR
       simp only[Option.some.injEq,Prod.mk.injEq]at h;obtain⟨rfl,rfl,rfl⟩:=h
       exact⟨tR.1,tR.2,hK⟩
      ·cases h
     ·split at h
      ·rename_i EJ
       refine⟨fun z hz=>by simpa using List.all_eq_true.1 EJ z hz, ?_⟩
       split at h
       ·rename_i hn
        simp only[Option.some.injEq,Prod.mk.injEq]at h;obtain⟨rfl,rfl,rfl⟩:=h
        rw[if_pos hn];exact hK
       ·rename_i hn
        split at h
        ·rename_i tR
         simp only[Option.some.injEq,Prod.mk.injEq]at h;obtain⟨rfl,rfl,rfl⟩:=h
         rw[if_neg hn];exact⟨tR.1,tR.2,hK⟩
        ·cases h
      ·cases h
     ·split at h
      ·rename_i ho
       split at h
       ·rename_i tR
        simp only[Option.some.injEq,Prod.mk.injEq]at h;obtain⟨rfl,rfl,rfl⟩:=h
        simp only[ho]
        exact⟨tR.1,tR.2.1,tR.2.2.1,tR.2.2.2.1,tR.2.2.2.2,hK⟩
       ·cases h
      ·cases h
     ·cases h
    ·cases h
   ·cases h
  ·cases h
 ·cases h
theorem ud{x y:V}(h:jh o x=some y){K:V->Prop}(hK:K y):kT o x K:=by
 unfold jh at h
 unfold kT
 split at h
 ·obtain⟨h2,rfl⟩:=ra h;exact⟨h2,hK⟩
 ·exact Ix
 ·exact Ix
 ·cases h
theorem JK{op:UnOp}{x y:V}(h:unF op x=some y){K:V->Prop}(hK:K y):YJ op x K:=by
 unfold unF at h
 unfold YJ
 split at h
 ·injection h with h;subst h;simp only;rw[Int.zero_sub];exact hK
 ·exact Ix
 ·cases h
theorem xQ{m:Bool}{x y v:V}(h:pP m x y=some v){K:V->Prop}(hK:K v):ns m [x,y] K:=by
 unfold pP at h
 unfold ns
 split at h
 ·split at h
  ·exact IA
  ·cases h
 ·cases h
theorem A1{op:Op}(h:fS P s fr op=some (v,Δ,rd))(hK:K v Δ rd):PK P s fr op K:=by
 cases op<;>simp only[fS]at h<;>simp only[PK]<;>try (cases h;done)
 case move x=>have h:=kD h;simp only[Prod.mk.injEq]at h;obtain⟨rfl,rfl,rfl⟩:=h;exact hK
 case assign x=>have h:=kD h;simp only[Prod.mk.injEq]at h;obtain⟨rfl,rfl,rfl⟩:=h;exact hK
 case pick c a b=>
  obtain⟨x,h1,h⟩:=iY h;simp only[Prod.mk.injEq]at h;obtain⟨rfl,rfl,rfl⟩:=h
  exact Dk h1 hK
 case alloc t=>
  split at h
  ·rename_i cs hz;simp only[Option.some.injEq,Prod.mk.injEq]at h;obtain⟨rfl,rfl,rfl⟩:=h;exact⟨cs,hz,hK⟩
  ·cases h
 case box t x=>
  split at h
  ·rename_i cs hz;simp only[Option.some.injEq,Prod.mk.injEq]at h;obtain⟨rfl,rfl,rfl⟩:=h;exact⟨cs,hz,hK⟩
  ·cases h
 case build t parts=>
  obtain⟨x,h1,h⟩:=iY h;simp only[Prod.mk.injEq]at h;obtain⟨rfl,rfl,rfl⟩:=h
  unfold yl at h1
  split at h1
  ·rename_i z pl hz hp
   split at h1
   ·rename_i cs hc;injection h1 with h1;subst h1;exact⟨z,pl,cs,hz,hp,hc,hK⟩
   ·cases h1
  ·cases h1
 case buildSlice t len parts=>exact rb h hK
 case load t x=>exact Dl h hK
 case store t x y=>exact A0 h hK
 case nilCheck x=>
  obtain⟨y,h1,h⟩:=iY h;simp only[Prod.mk.injEq]at h;obtain⟨rfl,rfl,rfl⟩:=h
  exact ud h1 hK
 case binOp op t x y yt=>
  unfold eT at h
  split at h
  ·rename_i z h1
   have h:=kD h;simp only[Prod.mk.injEq]at h;obtain⟨rfl,rfl,rfl⟩:=h
   exact .inl (GO h1 hK)
  ·right;simp only[h,cO];exact hK
 case unOp op t x=>
  obtain⟨z,h1,h⟩:=iY h;simp only[Prod.mk.injEq]at h;obtain⟨rfl,rfl,rfl⟩:=h
  unfold Gf at h1
  split at h1
  ·rename_i hx;injection h1 with h1;subst h1;exact .inr ⟨rfl,hx,hK⟩
  ·exact .inl (JK h1 hK)
 case slice t x lo hi mx=>simp only[h,cO];exact hK
 case field t x f=>
  exact SB
 case typeAssert x xt t ok=>
  exact SB
 case makeMap t r=>
  cases r with
  |none=>simp only[h,cO];exact hK
  |some x=>cases h
 case lookup t m k ok=>simp only[h,cO];exact hK
 case mapUpdate t m k v=>simp only[h,cO];exact hK
 case insert t m k v=>simp only[h,cO];exact hK
 case index t x i=>
  exact SB
 case convert u t x=>
  split at h
  ·rename_i d k k' n hu hk hx
   have h:=kD h;simp only[Prod.mk.injEq]at h;obtain⟨rfl,rfl,rfl⟩:=h
   exact⟨by rw[hu];rfl,by simp only[hk,hx];exact hK⟩
  ·cases h
 case makeInterface t x=>
  obtain⟨z,h1,h⟩:=iY h;simp only[Prod.mk.injEq]at h;obtain⟨rfl,rfl,rfl⟩:=h
  obtain⟨h2,rfl⟩:=ra h1
  refine⟨?_, ?_⟩
  ·unfold ub at h2
   cases hd:P.underlying t with
   |none=>simp[hd]at h2
   |some d=>exact⟨d,rfl,by cases d<;>simp_all⟩
  ·split
   ·rename_i y hy;simp only[hy]at hK;exact hK
   ·rename_i hy
    split at hK
    ·rename_i y GQ;exact absurd GQ (hy y)
    ·exact hK
 case makeFunc fn first cap=>have h:=kD h;simp only[Prod.mk.injEq]at h;obtain⟨rfl,rfl,rfl⟩:=h;exact hK
 case makeSlice t l c=>
  exact sN h hK
 case fieldAddr t x f=>
  obtain⟨z,h1,h⟩:=iY h;simp only[Prod.mk.injEq]at h;obtain⟨rfl,rfl,rfl⟩:=h
  exact sM h1 hK
 case indexAddr t x i=>
  exact sL h hK
 case extract x i=>
  split at h
  ·rename_i vs hv
   split at h
   ·rename_i u hu
    have h:=kD h;simp only[Prod.mk.injEq]at h;obtain⟨rfl,rfl,rfl⟩:=h
    simp only[hv];exact⟨_,hu,hK⟩
   ·cases h
  ·cases h
 case call c=>
  obtain⟨Jy,args,ts⟩:=c
  cases Jy<;>simp only at h|- <;>try (cases h;done)
  rename_i b
  unfold pQ at h
  unfold tN
  split at h
  ·rename_i x ha
   simp only[ha]
   split at h
   ·rename_i t rR;exact⟨t,rR,GP h hK⟩
   ·cases h
  ·rename_i x y ha
   simp only[ha]
   split at h
   ·rename_i r hr
    simp only[Option.some.injEq]at h
    subst h
    exact .inl (by rw[hr];exact hK)
   ·exact .inr (ym h hK)
  ·rename_i x y ha
   exact Yv
  ·rename_i x y ha
   exact Yv
  ·rename_i x y z ha
   simp only[ha]
   obtain⟨v0,h1,h⟩:=iY h;simp only[Prod.mk.injEq]at h;obtain⟨rfl,rfl,rfl⟩:=h
   exact XY
  ·rename_i x y ha
   simp only[ha,h,cO];exact hK
  ·rename_i x y ha
   simp only[ha]
   split at h
   ·rename_i t ht;exact⟨t,ht,by simp only[h,cO];exact hK⟩
   ·cases h
  ·rename_i x ha
   simp only[ha,h,cO];exact hK
  ·cases h
 case range t x=>simp only[h,cO];exact hK
 case next x str=>left;simp only[h,cO];exact hK
 case entry x=>simp only[h,cO];exact hK
end
end
section
def ue(P:Program)(g:FuncId)(ds:List D)(o o1 oa:Nat->ab)(K:V->(Nat->ab)->Prop)(X:V->(Nat->ab)->Prop):Prop:=
 ∃out,aT P g ds out/\((match out with| .ret rs=>K (jb rs) o1| .bD x=>X (.d x) o1)\/(out.flat=true/\match out with| .ret rs=>K (jb rs) o| .bD x=>X (.d x) o)\/(out.mJ=true/\match out with| .ret rs=>K (jb rs) oa| .bD x=>X (.d x) oa))
def rY(P:Program)(g:FuncId)(args:List V)(o:Nat->ab)(nx:Nat)(K:V->(Nat->ab)->Nat->Prop)(X:V->(Nat->ab)->Nat->Prop):Prop:=n7 P g args o nx K X
theorem n7.mono {P:Program}{g:FuncId}{args:List V}{o:Nat->ab}{nx:Nat}{K X K' X':V->(Nat->ab)->Nat->Prop}(hK:∀v o n,K v o n->K' v o n)(hX:∀v o n,X v o n->X' v o n)(h:n7 P g args o nx K X):n7 P g args o nx K' X':=
 h.imp (cX.mono hK hX) (cX.mono hK hX)
@[congr] theorem P7 {P:Program} {g g':FuncId} {ds Y3:List D} {o o1 oa:Nat->ab} {K X} (h:g=g') (h':ds=Y3):ue P g ds o o1 oa K X=ue P g' Y3 o o1 oa K X:=by subst h;subst h';rfl
@[congr] theorem P8 {P:Program} {g g':FuncId} {bZ Y4:List V} {o:Nat->ab} {nx:Nat} {K X} (h:g=g') (h':bZ=Y4):rY P g bZ o nx K X=rY P g' Y4 o nx K X:=by subst h;subst h';rfl
def P9(P:Program)(g:FuncId)(args:List V)(o:Nat->ab)(nx:Nat)(K X:V->(Nat->ab)->Nat->Prop):Prop:=
 (∃ds,bV o args=some ds/\ue P g ds o (put o (cg o (V.bf args))) (put o (qM o (V.bf args))) (fun v o'=>K v o' (nx+1)) (fun v o'=>X v o' (nx+1)))\/cX P g args o nx K X
def H9(P:Program)(s:S)(o:bI)(X:V->S->Prop)(K:S->Prop):Prop:=
 match o.op with
 | .call c=>match c.callee with
   | .value f=>match s.ev f with
     | .func (.func g) first cap=>match bV s.o (first++c.args.toList.map s.ev++cap)with
       |some ds=>ue P g ds s.o (put s.o (cg s.o (V.bf (first++c.args.toList.map s.ev++cap)))) (put s.o (qM s.o (V.bf (first++c.args.toList.map s.ev++cap)))) (fun v o'=>K ⟨aY s.env o.dst v,o',s.nx+1⟩) (fun v o'=>X v ⟨s.env,o',s.nx+1⟩)\/
        rY P g (first++c.args.toList.map s.ev++cap) s.o s.nx (fun v o' nx'=>K ⟨aY s.env o.dst v,o',nx'⟩) (fun v o' nx'=>X v ⟨s.env,o',nx'⟩)
       |none=>rY P g (first++c.args.toList.map s.ev++cap) s.o s.nx (fun v o' nx'=>K ⟨aY s.env o.dst v,o',nx'⟩) (fun v o' nx'=>X v ⟨s.env,o',nx'⟩)
     | .ja id=>dw P id (c.args.toList.map s.ev) s.o s.nx (fun v o' nx'=>K ⟨aY s.env o.dst v,o',nx'⟩) (fun v o' nx'=>X v ⟨s.env,o',nx'⟩)
     |_=>False
   | .invoke r m=>match tX P m (s.ev r)with
     |some (g,y)=>P9 P g (y::c.args.toList.map s.ev) s.o s.nx (fun v o' nx'=>K ⟨aY s.env o.dst v,o',nx'⟩) (fun v o' nx'=>X v ⟨s.env,o',nx'⟩)
     |none=>False
   |_=>match fS P s s.nx o.op with
    |some (v,Δ,_)=>K ⟨aY s.env o.dst v,put s.o Δ,s.nx+1⟩
    |none=>False
 | .panic x=>match s.ev x with
   | .d (.iface t y)=>X (.d (.iface t y)) s
   | .iface t y=>X (.iface t y) s
   |_=>False
 | .next x str=>match og s.o (s.ev x)with
   |some (id,l)=>str=false/\EB id l fun v Δ _=>K ⟨aY s.env o.dst v,put s.o Δ,s.nx+1⟩
   |none=>match fS P s s.nx o.op with
    |some (v,Δ,_)=>K ⟨aY s.env o.dst v,put s.o Δ,s.nx+1⟩
    |none=>False
 |op=>match fS P s s.nx op with
  |some (v,Δ,_)=>K ⟨aY s.env o.dst v,put s.o Δ,s.nx+1⟩
  |none=>False
def oN(P:Program)(X:V->S->Prop)(K:S->Prop):List bI->S->Prop
 |[],s=>K s
 |o::l,s=>match o.gd with
  |none=>H9 P s o X (oN P X K l)
  |some (d,want)=>match s.env d with
   | .d (.bool b)=>if b=want then H9 P s o X (oN P X K l)else oN P X K l ⟨aY s.env o.dst (.bU []),s.o,s.nx+1⟩
   | .bU []=>oN P X K l ⟨aY s.env o.dst (.bU []),s.o,s.nx+1⟩
   |_=>False
def JL(b:Nat)(body:(fm->S->Prop)->S->Prop)(Q:fm->S->Prop)(s:S):Prop:=
 ∃ (J:Nat->S->Prop),(∃m s1,aZ b s s1/\J m s1)/\∀m s0,J m s0->body (fun e s=>match e with| .normal=>∃m' s1,m'<m/\aZ b s s1/\J m' s1|e=>Q e s) s0
@[congr] theorem Qa {b:Nat} {body Q} {s s':S} (h:s=s'):JL b body Q s=JL b body Q s':=by subst h;rfl
def pR(t:Bool)(A B:Prop):Prop:=(t=true->A)/\(t=false->B)
@[congr] theorem Qb {t t':Bool} {A B:Prop} (h:t=t'):pR t A B=pR t' A B:=by subst h;rfl
@[simp] theorem uf (A B:Prop):pR true A B=A:=by simp[pR]
@[simp] theorem rZ (A B:Prop):pR false A B=B:=by simp[pR]
section
variable {P:Program}{n b:Nat}
theorem EU{s:S}{o:bI}{o':Oper}{X X':V->S->Prop}{K K':S->Prop}(gz:o'.op=o.op)(cF:o'.dst=o.dst)(hd:fY n o'.dst)(hK:∀s,K s->K' s)(hX:∀v s,X v s->X' v s)(h:H9 P s o X K):opW P n s o' X' K':=by
 refine⟨hd, ?_⟩
 rw[cF,gz]
 unfold H9 at h
 have hs:∀ {op:Op},(match fS P s s.nx op with|some (v,Δ,_)=>K ⟨aY s.env o.dst v,put s.o Δ,s.nx+1⟩|none=>False)->PK P s s.nx op fun v Δ _=>K' ⟨aY s.env o.dst v,put s.o Δ,s.nx+1⟩:=by
  intro op h
  split at h
  ·rename_i v Δ rd he;exact A1 he (hK _ h)
  ·exact h.elim
 split at h
 ·rename_i c hc
  split at h
  ·rename_i f eI
   simp only[hc,eI]
   split at h
   ·rename_i g first cap hf
    unfold AO
    simp only[hf]
    unfold tW
    split at h
    ·rename_i ds eK
     rcases h with⟨out,hP,h|⟨qA,h⟩|⟨qA,h⟩⟩|h
     ·exact Px
     ·exact Pp
     ·exact Pk
     ·exact X4
    ·exact X4
   ·rename_i id hf
    unfold AO
    simp only[hf]
    exact dw.mono (fun v o n h=>hK _ h) (fun v o n h=>hX _ _ h) h
   ·exact h.elim
  ·rename_i r m eI
   simp only[hc,eI]
   split at h
   ·rename_i g y hr
    simp only[hr]
    unfold tW
    rcases h with⟨ds,eK,out,hP,h|⟨qA,h⟩|⟨qA,h⟩⟩|h
    ·exact Px
    ·exact Pp
    ·exact Pk
    ·exact .inr (.inr (.inr (.inl (cX.mono (fun v o n h=>hK _ h) (fun v o n h=>hX _ _ h) h))))
   ·exact h.elim
  ·rename_i eI hinv
   rw[hc]at h|-
   obtain⟨Jy,args,ts⟩:=c
   cases Jy with
   |value f=>exact absurd rfl (eI f)
   |invoke r m=>exact absurd rfl (hinv r m)
   |_=>exact hs h
 ·rename_i x hx
  simp only[hx]
  split at h
  ·rename_i hv;simp only[hv];exact hX _ _ h
  ·rename_i hv;simp only[hv];exact hX _ _ h
  ·exact h.elim
 ·rename_i x str hx
  rw[hx]at h|-
  split at h
  ·rename_i id l hl
   exact .inr ⟨h.1,id,l,hl,fun e=>hK _ (h.2.1 e),fun i k x e=>hK _ (h.2.2 i k x e)⟩
  ·exact hs h
 ·rename_i hc hp vG
  have h2:=hs h
  cases hh:o.op<;>first
   |exact absurd hh (hc _)
   |exact absurd hh (hp _)
   |exact absurd hh (vG _ _)
   |(rw[hh]at h2;exact h2)
theorem ji{ops:Array Oper}{X X':V->S->Prop}{K K':S->Prop}(hK:∀s,K s->K' s)(hX:∀v s,X v s->X' v s):∀ (l:List Oper) (l':List bI) (s:S),kQ n ops l=some l'->oN P X K l' s->yd P n ops X' K' l s
 |[],l',s,h,hr=>by simp[kQ]at h;subst h;exact hK _ hr
 |o::l,l',s,h,hr=>by
  simp only[kQ]at h
  split at h
  ·rename_i x xs hx C0
   injection h with h;subst h
   unfold I9 at hx
   split at hx
   ·rename_i hd
    have cF:fY n o.dst:=by
     unfold CT at hd;unfold fY
     split at hd<;>simp_all
    simp only[yd,yc]
    cases hg:o.guard with
    |none=>
     simp only[hg]at hx
     injection hx with hx;subst hx
     exact EU rfl rfl cF (fun s hs=>ji hK hX l xs s C0 hs) hX hr
    |some p=>
     obtain⟨j,want⟩:=p
     simp only[hg]at hx
     cases Qc:rM ops j with
     |none=>simp[Qc]at hx
     |some d=>
      simp only[Qc]at hx
      injection hx with hx;subst hx
      simp only
      simp only[oN]at hr
      split at hr
      ·rename_i t ht
       simp only[Qc,ht]
       split at hr
       ·rename_i e
        exact⟨fun _=>EU rfl rfl cF (fun s hs=>ji hK hX l xs s C0 hs) hX hr,fun h=>absurd e h⟩
       ·rename_i e
        exact⟨fun h=>absurd h e,fun _=>⟨cF,ji hK hX l xs _ C0 hr⟩⟩
      ·rename_i ht
       simp only[Qc,ht]
       exact⟨cF,ji hK hX l xs _ C0 hr⟩
      ·exact hr.elim
   ·cases hx
  ·cases h
end
end
section
mutual
def V.refs:V->List Nat
 | .ptr id _=>[id]| .osl id _=>[id]| .pe id _ _ _ _=>[id]| .wx id _ _=>[id]| .mp id=>[id]| .ja id=>[id]
 | .agg cs=>V.aG cs
 | .bU cs=>V.aG cs
 | .func _ a b=>V.aG a++V.aG b
 | .iface _ x=>x.refs
 |_=>[]
def V.aG:List V->List Nat
 |[]=>[]
 |v::vs=>v.refs++V.aG vs
end
mutual
theorem jz:∀ (v:V),∀id∈v.ids,id∈v.refs
 | .osl id _,j,h=>by simpa[V.ids,V.refs]using h
 | .agg cs,j,h=>by simp only[V.ids]at h;simp only[V.refs];exact lB cs j h
 | .iface _ x,j,h=>by simp only[V.ids]at h;simp only[V.refs];exact jz x j h
 | .mp _,j,h=>by simpa[V.ids,V.refs]using h
 | .d _,_,h| .bd,_,h| .bU _,_,h| .ptr _ _,_,h| .pe _ _ _ _ _,_,h| .pp _ _,_,h| .func _ _ _,_,h| .aa,_,h| .qB _,_,h| .wx _ _ _,_,h| .eV,_,h| .ja _,_,h=>by simp[V.ids]at h
theorem lB:∀ (vs:List V),∀id∈V.bf vs,id∈V.aG vs
 |[],j,h=>by simp[V.bf]at h
 |v::vs,j,h=>by
  simp only[V.bf,V.aG,List.mem_append]at h|-
  exact h.imp (jz v j) (lB vs j)
end
mutual
theorem cY{o o':Nat->ab}:∀ (v:V),(∀id∈v.refs,o' id=o id)->dE o' v=dE o v
 | .osl id ep,h=>by simp only[dE,h id (by simp[V.refs])]
 | .mp id,h=>by simp only[dE,h id (by simp[V.refs])]
 | .agg cs,h=>by simp only[dE,gO cs (by simpa[V.refs]using h)]
 | .iface t x,h=>by simp only[dE,cY x (by simpa[V.refs]using h)]
 | .d _,_| .bd,_| .bU _,_| .ptr _ _,_| .pe _ _ _ _ _,_| .pp _ _,_| .func _ _ _,_| .aa,_| .qB _,_| .wx _ _ _,_| .eV,_| .ja _,_=>by simp only[dE]
theorem gO{o o':Nat->ab}:∀ (vs:List V),(∀id∈V.aG vs,o' id=o id)->bV o' vs=bV o vs
 |[],_=>rfl
 |v::vs,h=>by
  simp only[bV,cY v (fun id au=>h id (by simp[V.aG,au])),gO vs (fun id au=>h id (by simp[V.aG,au]))]
end
theorem gG{o o':Nat->ab}{ids:List Nat}(h:∀id∈ids,o' id=o id):cg o' ids=cg o ids:=by
 rw[lG,lG]
 exact List.map_congr_left fun id au=>by rw[h id au]
def n6(s:S)(op:Op):List Nat:=
 match op with
 | .load _ x=>(s.ev x).refs
 | .nilCheck x=>(s.ev x).refs
 | .fieldAddr _ x _=>(s.ev x).refs
 | .indexAddr _ x _=>(s.ev x).refs
 | .store _ x v=>(s.ev x).refs++(s.ev v).refs
 | .buildSlice _ _ parts=>V.aG (parts.toList.map fun p=>s.ev p.2)
 | .binOp _ _ x y _=>(s.ev x).refs++(s.ev y).refs
 | .slice _ x _ _ _=>(s.ev x).refs
 | .lookup _ m k _=>(s.ev m).refs++(s.ev k).refs
 | .mapUpdate _ m k v=>(s.ev m).refs++((s.ev k).refs++(s.ev v).refs)
 | .insert _ m k v=>(s.ev m).refs++((s.ev k).refs++(s.ev v).refs)
 | .range _ x=>(s.ev x).refs
 | .next x _=>(s.ev x).refs
 | .entry x=>(s.ev x).refs
 | .call c=>match c.callee with
   | .builtin _=>V.aG (c.args.toList.map s.ev)
   | .value f=>match s.ev f with
     | .func _ first cap=>V.aG (first++c.args.toList.map s.ev++cap)
     |_=>[]
   |_=>[]
 |_=>[]
section
variable {P:Program}{s s':S}{fr:Nat}
theorem r8{o o':Nat->ab}(v:V)(h:∀id∈v.refs,o' id=o id):pM o' v=pM o v:=by
 cases v with
 |osl id ep=>simp only[pM,h id (by simp[V.refs])]
 |d x=>cases x<;>rfl
 |_=>rfl
theorem r9{o o':Nat->ab}(v:V)(q:Nat)(h:∀id∈v.refs,o' id=o id):oj o' v q=oj o v q:=by
 cases v<;>simp only[oj]<;>rw[h _ (by simp[V.refs])]
theorem Dm{o o':Nat->ab}(v:V)(h:∀id∈v.refs,o' id=o id):Al o' v=Al o v:=by
 have h1:ey o' v=ey o v:=by unfold ey;rw[cY v h]
 cases v<;>first|rfl|simp only[Al,h1]
theorem yn{o o':Nat->ab}(v:V)(h:∀id∈v.refs,o' id=o id):qP o' v=qP o v:=by
 cases v with
 |mp id=>simp only[qP,h id (by simp[V.refs])]
 |d x=>cases x<;>rfl
 |_=>rfl
theorem yo{o o':Nat->ab}(v:V)(h:∀id∈v.refs,o' id=o id):qQ o' v=qQ o v:=by
 cases v with
 |ptr id off=>simp only[qQ,h id (by simp[V.refs])]
 |d x=>cases x<;>rfl
 |_=>rfl
theorem mS{o o':Nat->ab}(v:V)(h:∀id∈v.refs,o' id=o id):od o' v=od o v:=by
 cases v with
 |mp id=>simp only[od,h id (by simp[V.refs])]
 |d x=>cases x<;>rfl
 |_=>rfl
theorem A2{o o':Nat->ab}(v:V)(h:∀id∈v.refs,o' id=o id):pj o' v=pj o v:=by
 cases v with
 |mp id=>simp only[pj,h id (by simp[V.refs])]
 |d x=>cases x<;>rfl
 |_=>rfl
theorem A3{o o':Nat->ab}(v:V)(str:Bool)(h:∀id∈v.refs,o' id=o id):oe o' v str=oe o v str:=by
 cases v with
 |ptr id off=>cases off<;>simp only[oe,h id (by simp[V.refs])]
 |_=>rfl
theorem yp{o o':Nat->ab}(v:V)(h:∀id∈v.refs,o' id=o id):my o' v=my o v:=by
 cases v with
 |ptr id off=>cases off<;>simp only[my,h id (by simp[V.refs])]
 |_=>rfl
theorem yq{o o':Nat->ab}{fr:Nat}{t:TypeId}{P:Program}(v:V)(h:∀id∈v.refs,o' id=o id):mw P o' fr t v=mw P o fr t v:=by
 unfold mw
 cases v with
 |mp id=>simp only[h id (by simp[V.refs])]
 |d x=>cases x<;>rfl
 |_=>rfl
theorem yr{o o':Nat->ab}(v:V)(h:∀id∈v.refs,o' id=o id):oB o' v=oB o v:=by
 cases v with
 |ptr id off=>simp only[oB,h id (by simp[V.refs])]
 |_=>rfl
theorem yu{o o':Nat->ab}(v:V)(h:∀id∈v.refs,o' id=o id):oC o' v=oC o v:=by
 cases v with
 |wx id off n=>simp only[oC,h id (by simp[V.refs])]
 |_=>rfl
theorem Dn(op:Op)(hv:∀x∈op.operands,s'.ev x=s.ev x)(ho:∀id∈n6 s op,s'.o id=s.o id):fS P s' fr op=fS P s fr op:=by
 cases op<;>simp only[fS]
 case move x=>rw[hv x (by simp[Op.operands])]
 case assign x=>rw[hv x (by simp[Op.operands])]
 case pick c a b=>rw[hv c (by simp[Op.operands]),hv a (by simp[Op.operands]),hv b (by simp[Op.operands])]
 case box t x=>rw[hv x (by simp[Op.operands])]
 case build t parts=>
  have:(parts.toList.map fun p=>(p.1,s'.ev p.2))=parts.toList.map fun p=>(p.1,s.ev p.2):=
   List.map_congr_left fun p hp=>by rw[hv p.2 (by simp only[Op.operands];simp;exact⟨p.1,by simpa using hp⟩)]
  rw[this]
 case buildSlice t len parts=>
  have:(parts.toList.map fun p=>(p.1,s'.ev p.2))=parts.toList.map fun p=>(p.1,s.ev p.2):=
   List.map_congr_left fun p hp=>by rw[hv p.2 (by simp only[Op.operands];simp;exact⟨p.1,by simpa using hp⟩)]
  rw[this]
  have e:(parts.toList.map fun p=>(p.1,s.ev p.2)).map (·.2)=parts.toList.map fun p=>s.ev p.2:=by simp[Function.comp_def]
  have h1:bV s'.o ((parts.toList.map fun p=>(p.1,s.ev p.2)).map (·.2))=bV s.o ((parts.toList.map fun p=>(p.1,s.ev p.2)).map (·.2)):=gO _ (by rw[e];exact ho)
  have h2:cg s'.o (V.bf ((parts.toList.map fun p=>(p.1,s.ev p.2)).map (·.2)))=cg s.o (V.bf ((parts.toList.map fun p=>(p.1,s.ev p.2)).map (·.2))):=
   gG fun id au=>ho id (by rw[e]at au;exact lB _ id au)
  simp only[fM,h1,h2]
 case load t x=>
  rw[hv x (by simp[Op.operands])]
  cases hx:s.ev x<;>simp only[mQ]<;>rw[ho _ (by simp[n6,hx,V.refs])]
 case store t x y=>
  rw[hv x (by simp[Op.operands]),hv y (by simp[Op.operands])]
  have h1:dE s'.o (s.ev y)=dE s.o (s.ev y):=cY _ fun id au=>ho id ox
  have h2:cg s'.o (s.ev y).ids=cg s.o (s.ev y).ids:=gG fun id au=>ho id (by simp[n6,jz _ _ au])
  cases hx:s.ev x<;>simp only[q9]<;>rw[ho _ (by simp[n6,hx,V.refs])]
  simp only[h1,h2]
 case nilCheck x=>
  rw[hv x (by simp[Op.operands])]
  cases hx:s.ev x with
  |ptr id off=>simp only[jh];rw[ho _ (by simp[n6,hx,V.refs])]
  |func fn a b=>cases fn<;>rfl
  |_=>rfl
 case binOp op t x y yt=>
  rw[hv x (by simp[Op.operands]),hv y (by simp[Op.operands])]
  have h1:Al s'.o (s.ev x)=Al s.o (s.ev x):=Dm _ fun id au=>ho id ox
  have h2:∀a b,wv P s'.o a b (s.ev x) (s.ev y)=wv P s.o a b (s.ev x) (s.ev y):=fun a b=>by
   have h3:∀id∈(s.ev x).refs,s'.o id=s.o id:=fun id au=>ho id ox
   have h4:=yn (s.ev x) h3
   have h5:=yo (s.ev x) h3
   unfold wv
   rw[h1,h4,h5]
  unfold eT qR
  simp only[h2]
 case slice t x lo hi mx=>
  rw[hv x (by simp[Op.operands])]
  have e1:lo.map s'.ev=lo.map s.ev:=by cases lo<;>simp[hv,Op.operands]
  have e2:hi.map s'.ev=hi.map s.ev:=by cases hi<;>simp[hv,Op.operands]
  have e3:mx.map s'.ev=mx.map s.ev:=by cases mx<;>simp[hv,Op.operands]
  rw[e1,e2,e3]
  have h3:∀id∈(s.ev x).refs,s'.o id=s.o id:=fun id au=>ho id ox
  have h1:ey s'.o (s.ev x)=ey s.o (s.ev x):=by unfold ey;rw[cY _ h3]
  have h2:cg s'.o (s.ev x).ids=cg s.o (s.ev x).ids:=gG fun id au=>h3 id (jz _ _ au)
  have h4:CV P s'.o t (s.ev x) (lo.map s.ev) (hi.map s.ev) (mx.map s.ev)=CV P s.o t (s.ev x) (lo.map s.ev) (hi.map s.ev) (mx.map s.ev):=by
   cases hx:s.ev x with
   |osl id ep=>simp only[CV,h3 id (by simp[hx,V.refs])]
   |_=>rfl
  unfold qO pg
  simp only[h1,h2,h4,yr _ h3]
 case field t x f=>rw[hv x (by simp[Op.operands])]
 case typeAssert x xt t ok=>rw[hv x (by simp[Op.operands])]
 case makeMap t r=>cases r<;>rfl
 case lookup t m k ok=>
  rw[hv m (by simp[Op.operands]),hv k (by simp[Op.operands])]
  have h3:∀id∈(s.ev m).refs,s'.o id=s.o id:=fun id au=>ho id ox
  have h1:dE s'.o (s.ev k)=dE s.o (s.ev k):=cY _ fun id au=>ho id ox
  unfold hU
  simp only[h1,A2 _ h3]
 case mapUpdate t m k v=>
  rw[hv m (by simp[Op.operands]),hv k (by simp[Op.operands]),hv v (by simp[Op.operands])]
  have h3:∀id∈(s.ev m).refs,s'.o id=s.o id:=fun id au=>ho id ox
  have h1:dE s'.o (s.ev k)=dE s.o (s.ev k):=cY _ fun id au=>ho id ox
  have h2:dE s'.o (s.ev v)=dE s.o (s.ev v):=cY _ fun id au=>ho id ox
  have h4:cg s'.o (s.ev v).ids=cg s.o (s.ev v).ids:=gG fun id au=>ho id (by simp[n6,jz _ _ au])
  unfold fl
  simp only[h1,h2,h4,mS _ h3]
 case insert t m k v=>
  rw[hv m (by simp[Op.operands]),hv k (by simp[Op.operands]),hv v (by simp[Op.operands])]
  have h3:∀id∈(s.ev m).refs,s'.o id=s.o id:=fun id au=>ho id ox
  have h1:dE s'.o (s.ev k)=dE s.o (s.ev k):=cY _ fun id au=>ho id ox
  have h2:dE s'.o (s.ev v)=dE s.o (s.ev v):=cY _ fun id au=>ho id ox
  have h4:cg s'.o (s.ev v).ids=cg s.o (s.ev v).ids:=gG fun id au=>ho id (by simp[n6,jz _ _ au])
  unfold fl
  simp only[h1,h2,h4,mS _ h3]
 case index t x i=>rw[hv x (by simp[Op.operands]),hv i (by simp[Op.operands])]
 case range t x=>
  rw[hv x (by simp[Op.operands])]
  exact yq _ fun id au=>ho id ox
 case next x str=>
  rw[hv x (by simp[Op.operands])]
  exact A3 _ _ fun id au=>ho id ox
 case entry x=>
  rw[hv x (by simp[Op.operands])]
  exact yp _ fun id au=>ho id ox
 case unOp op t x=>rw[hv x (by simp[Op.operands])]
 case convert u t x=>rw[hv x (by simp[Op.operands])]
 case makeInterface t x=>rw[hv x (by simp[Op.operands])]
 case makeFunc fn first cap=>
  have h1:first.toList.map s'.ev=first.toList.map s.ev:=List.map_congr_left fun x hx=>hv x (by simp only[Op.operands];exact Array.mem_append.2 (.inl (Array.mem_toList_iff.1 hx)))
  have h2:cap.toList.map s'.ev=cap.toList.map s.ev:=List.map_congr_left fun x hx=>hv x (by simp only[Op.operands];exact Array.mem_append.2 (.inr (Array.mem_toList_iff.1 hx)))
  rw[h1,h2]
 case makeSlice t l c=>rw[hv l (by simp[Op.operands]),hv c (by simp[Op.operands])]
 case fieldAddr t x f=>
  rw[hv x (by simp[Op.operands])]
  simp only[gN]
  cases bK P t f<;>simp only
  rw[r9 _ _ (by simpa[n6]using ho)]
 case indexAddr t x i=>
  rw[hv x (by simp[Op.operands]),hv i (by simp[Op.operands])]
  have h1:∀q,oj s'.o (s.ev x) q=oj s.o (s.ev x) q:=fun q=>r9 _ _ (by simpa[n6]using ho)
  simp only[gM,h1]
  cases hx:s.ev x with
  |osl id ep=>simp only[ho id (by simp[n6,hx,V.refs])]
  |d y=>cases y<;>rfl
  |_=>rfl
 case extract x i=>rw[hv x (by simp[Op.operands])]
 case call c=>
  obtain⟨Jy,args,ts⟩:=c
  cases Jy<;>simp only
  rename_i b
  unfold pQ
  have hm:∀x∈args.toList,s'.ev x=s.ev x:=fun x hx=>hv x XU
  have hr:∀x∈args.toList,∀id∈(s.ev x).refs,s'.o id=s.o id:=by
   intro x hx id au
   refine ho id ?_
   simp only[n6]
   generalize args.toList=l at hx
   induction l with
   |nil=>cases hx
   |cons y l ih=>
    simp only[List.map_cons,V.aG,List.mem_append]
    rcases List.mem_cons.1 hx with rfl|hx
    ·exact .inl au
    ·exact .inr (ih hx)
  split
  ·rename_i x ha
   rw[ha]at hm hr
   rw[hm x (by simp)]
   have h1:∀t,Di P t s'.o (s.ev x)=Di P t s.o (s.ev x):=fun t=>by simp only[Di,r8 _ (hr x (by simp))]
   simp only[h1]
  ·rename_i x y ha
   rw[ha]at hm hr
   rw[hm x (by simp),hm y (by simp)]
   simp only[pO,r8 _ (hr y (by simp))]
   cases wA P fr ts (s.ev x) (s.ev y)with
   |some r=>rfl
   |none=>
   dsimp only
   cases hx:s.ev x with
   |osl id ep=>simp only[hr x (by simp) id (by simp[hx,V.refs])]
   |_=>rfl
  ·rename_i x y ha
   rw[ha]at hm
   rw[hm x (by simp),hm y (by simp)]
  ·rename_i x y ha
   rw[ha]at hm
   rw[hm x (by simp),hm y (by simp)]
  ·rename_i x y z h;rw[hm x (by rw[h];simp),hm y (by rw[h];simp),hm z (by rw[h];simp)]
  ·rename_i x y ha
   rw[ha]at hm hr
   rw[hm x (by simp),hm y (by simp)]
   have h1:ey s'.o (s.ev y)=ey s.o (s.ev y):=by unfold ey;rw[cY _ (hr y (by simp))]
   have h2:cg s'.o (s.ev y).ids=cg s.o (s.ev y).ids:=gG fun id au=>hr y aL id (jz _ _ au)
   unfold wz
   simp only[h1,h2,yu _ (hr x (by simp))]
  ·rename_i x y ha
   rw[ha]at hm hr
   rw[hm x (by simp),hm y (by simp)]
   have h1:dE s'.o (s.ev y)=dE s.o (s.ev y):=cY _ (hr y aL)
   have h2:=mS _ (hr x aL)
   simp only[nu,h1,h2]
  ·rename_i x ha
   rw[ha]at hm
   rw[hm x (by simp)]
  ·rfl
end
end
end Go.Proofs.YtnkamdiiakdkgaaGreat
