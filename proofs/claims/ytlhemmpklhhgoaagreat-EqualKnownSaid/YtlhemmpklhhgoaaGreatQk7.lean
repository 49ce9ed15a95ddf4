/-
  A PART OF THE PROOF. Conditions: none.
-/
import Derived.Test.YtlhemmpklhhgoaaGreatQk6
set_option linter.unusedSimpArgs false
set_option linter.unusedVariables false
namespace Go.Proofs.YtlhemmpklhhgoaaGreat
section
section
variable {P:Program}{M:Nat->Prop}{φ:Place}{H:Hp}{w w':World}{aZ:Place}{H0:Hp}{w0:World}{n b:Nat}{s:S}{a:Act}{cx:Cx}{ro:Option Nat}{k:Nat}
theorem dt(hb:∀id,H0.us id->id<b)(kM:cx.rd=false->ro=none):∀ (c:Code) (Q:dM->S->Prop) (s:S) (φ:Place) (a:Act) (w:World),dN P n b cx.rd c Q s->aQ M aZ H0 w0 n cx φ s a w->c.kx P ro (rn M aZ H0 w0 n cx Q) a w:=by
 intro c
 induction c with
 |skip=>exact fun Q s φ a w h hs=>ib (k:=0) (wpIn_skip ⟨.normal,s,φ,h,hs,trivial⟩)
 |scope x ih=>exact fun Q s φ a w h hs=>mO (ih Q s φ a w h hs) (fun l a w ⟨xx,s',ao,hq,eM,hm⟩=>by cases xx<;>exact hm)
 |label l=>exact fun Q s φ a w h hs=>ib (k:=0) (wpIn_label ⟨.normal,s,φ,h,hs,trivial⟩)
 |exit id=>exact fun Q s φ a w h hs=>ph ⟨.exit id,s,φ,h,hs,rfl⟩
 |ret=>exact fun Q s φ a w h hs=>rp ⟨.ret,s,φ,h,hs,trivial⟩
 |goto l=>exact fun Q s φ a w h hs=>h.elim
 |refuse y=>exact fun Q s φ a w h hs=>h.elim
 |rangeFunc g ps x y=>
  intro Q s φ a w h hs
  obtain⟨h1,s',hle,h2⟩:=h
  rcases hle with rfl|hle
  ·exact mR hs h1 (kM h1) h2
  ·obtain⟨ao,eM⟩:=qs hb hs hle
   exact mR eM h1 (kM h1) h2
 |region id ops draw=>
  intro Q s φ a w h hs
  cases draw with
  |true=>exact ib (h M aZ H0 w0 cx φ a w ro 0 hs)
  |false=>
   refine ib (k:=0) (wpIn_region_list (hZ (K:=Q .normal) (X:=fun v s=>Q (.aJ v) s) (fun s φ a w hk hs=>⟨.normal,s,φ,hk,hs,trivial⟩) (fun v s φ a w val hx hs hd=>⟨.aJ v,s,φ,hx,hs,val,rfl,hd⟩) _ s φ a w h hs))
 |seq x y we wg=>
  intro Q s φ a w h hs
  refine nI (dc (we _ s φ a w h hs) ?_)
  rintro e a' w' ⟨xx,s',ao,hq,eM,hm⟩
  cases e<;>cases xx<;>first|(exact hm.elim)|skip
  ·exact wg Q s' ao a' w' hq eM
  ·subst hm;exact⟨_,s',ao,hq,eM,rfl⟩
  ·exact yP
  ·exact yT
 |cond c x y we wg=>
  intro Q s φ a w h hs
  simp only[dN]at h
  have hc:=fL (M:=M) (φ:=φ) (H:=s.H) (w:=w) s a hs.env c
  split at h
  ·rename_i t hv
   rw[hv]at hc
   simp only[V.den,D.den]at hc
   cases t with
   |true=>exact iX hc (we Q s φ a w (h.1 rfl) hs)
   |false=>exact iX hc (wg Q s φ a w (h.2 rfl) hs)
  ·rename_i hv
   rw[hv]at hc
   obtain⟨t,hc⟩:=hc
   cases t with
   |true=>exact iX hc (we Q s φ a w h.1 hs)
   |false=>exact iX hc (wg Q s φ a w h.2 hs)
  ·exact h.elim
 |block id x ih=>
  intro Q s φ a w h hs
  refine sH (dc (ih _ s φ a w h hs) ?_)
  rintro e a' w' ⟨xx,s',ao,hq,eM,hm⟩
  cases e<;>cases xx<;>first|(exact hm.elim)|skip
  ·exact⟨.normal,s',ao,hq,eM,trivial⟩
  ·subst hm
   simp only[Exit.inBlock]
   simp only[cV]at hq
   split
   ·rename_i he;rw[if_pos he]at hq;exact⟨.normal,s',ao,hq,eM,trivial⟩
   ·rename_i he;rw[if_neg he]at hq;exact⟨.exit _,s',ao,hq,eM,rfl⟩
  ·exact yP
  ·exact yT
 |loop x ih=>
  intro Q s φ a w h hs
  obtain⟨J,⟨m0,s1,hle,hI⟩,zl⟩:=h
  obtain⟨dH,mS⟩:=qs hb hs hle
  refine nJ (fun m a w=>∃s φ,J m s/\aQ M aZ H0 w0 n cx φ s a w) ?_ m0 a w ⟨s1,dH,hI,mS⟩
  rintro m a w ⟨s,φ,hI,hs⟩
  refine dc (ih _ s φ a w (zl m s hI) hs) ?_
  rintro e a' w' ⟨xx,s',ao,hq,eM,hm⟩
  cases e<;>cases xx<;>first|(exact hm.elim)|skip
  ·obtain⟨m2,s2,cm,Jf,M3⟩:=hq
   obtain⟨sI,vu⟩:=qs hb eM Jf
   exact⟨m2,cm,s2,sI,M3,vu⟩
  ·subst hm;exact⟨_,s',ao,hq,eM,rfl⟩
  ·exact yP
  ·exact yT
def uf(tmps:Array Value)(r:ResultVar):Sem Value:=
 match r with
 | .tmp t=>pure (tmps.getD t undef)
 | .cell p t=>do loadVar t (<- asAddr (tmps.getD p undef))
theorem kN(iY:ag M φ s.H w)(b5:∀i,V.den (ae M φ s.H) φ s.H w (s.env i) (a.tmps.getD i undef)):∀ (rs:List ResultVar) (vs:List V),fl P s rs=some vs->
 ∃vals,(rs.mapM (uf a.tmps)).run P w= .ok vals w/\V.ai (ae M φ s.H) φ s.H w vs vals
 |[],vs,h=>by simp[fl]at h;subst h;exact⟨[],aU,rfl⟩
 | .tmp t::rs,vs,h=>by
   simp only[fl,Option.map_eq_some_iff]at h
   obtain⟨us,h1,rfl⟩:=h
   obtain⟨vals,h2,h3⟩:=kN iY b5 rs us h1
   exact⟨a.tmps.getD t undef::vals,by simp only[List.mapM_cons,uf,Sem.run_bind,Sem.run_pure,Result.andThen_ok,h2],_,_,rfl,b5 t,h3⟩
 | .cell p t::rs,vs,h=>by
   simp only[fl]at h
   split at h
   ·rename_i id off hv
    split at h
    ·rename_i cs ho
     simp only[Option.bind_eq_some_iff,Option.map_eq_some_iff]at h
     obtain⟨v,h0,us,h1,rfl⟩:=h
     obtain⟨vals,h2,h3⟩:=kN iY b5 rs us h1
     have hx:=b5 p
     rw[hv]at hx
     obtain⟨_,hu,hp⟩:=hx
     obtain⟨k,cL,dI⟩:=hp (by show(s.o id).aY=true;rw[ho];rfl)
     have aI:=iY.ok id
     have mm:s.H.o id= .row cs:=ho
     simp only[au,mm]at aI
     obtain⟨b',cw,ty,g1,g2,g3,g4⟩:=aI
     rw[cL]at g1;simp at g1;subst g1
     obtain⟨val,h4,h5⟩:=iH (P:=P) h0 ⟨k,0,none⟩ cw.toList g3 g4 (fun j u hj=>iI g2 j u fG) rfl
     rw[add_plain,Nat.zero_add]at h4
     have h6:(loadVar t ⟨k,off,none⟩).run P w= .ok val w:=by simpa[Instr.loadAt,Instr.sureAddr]using h4
     exact⟨val::vals,by simp only[List.mapM_cons,uf,dI,asAddr,Sem.run_bind,Sem.run_pure,Result.andThen_ok,h6,h2],val,vals,rfl,h5,h3⟩
    ·cases h
   ·cases h
theorem fV{fn:Func}{tmps:Array Value}{vals:List Value}
 (h:(fn.results.toList.mapM (uf tmps)).run P w= .ok vals w):
 (results fn tmps).run P w= .ok (if h:vals.toArray.size=1 then vals.toArray[0]else .tuple vals.toArray) w:=by
 have e:results fn tmps=(do let vs <- fn.results.mapM (uf tmps);pure (if h:vs.size=1 then vs[0]else .tuple vs)):=by
  unfold results
  congr 2
 rw[e,Array.mapM_eq_mapM_toList]
 simp only[Sem.run_bind,Sem.run_map,h,Result.andThen_ok,Sem.run_pure]
theorem gD{us:Nat->Prop}(φ:Place)(hM:∀k,M k->k<w.heap.size):ag M φ ⟨fun _=> .no,us⟩ w where
 ok id:=by simp[au]
 fresh _ _:=rfl
 apart i j k hi:=by simp[aa.live]at hi
 ours k:=by rintro⟨id,h,_⟩;simp[aa.live]at h
 pY:=hM
theorem sJ{vals:Array Value}{m i:Nat}:(vals++Array.replicate m undef).getD i undef=(vals[i]?).getD undef:=by
 simp only[Array.getD_eq_getD_getElem?,Array.getElem?_append]
 split
 ·rfl
 ·rw[Array.getElem?_eq_none (xs:=vals) (by omega)]
  simp only[Array.getElem?_replicate]
  split<;>rfl
structure nK (M:Nat->Prop) (aZ:Place) (H0:Hp) (w0:World) (φ:Place) (s:S) (tmps:Array Value) (w:World):Prop where
 heap:ag M φ s.H w
 tr:Trans aZ H0 w0 φ s.H w
 env:∀i,V.den (ae M φ s.H) φ s.H w (s.env i) (tmps.getD i undef)
theorem sK{tmps:Array Value}(hs:nK M aZ H0 w0 φ s tmps w){r:Nat}(h1:w0.heap.size<=r)(h2:w.heap[r]? =some (.deferred (some [])))(h3: ¬b4 φ s.H r):
 nK M aZ H0 w0 φ s tmps {w with heap:=w.heap.setIfInBounds r (.deferred none)}:=by
 have iM:∀b,b≠r->(w.heap.setIfInBounds r (.deferred none))[b]? =w.heap[b]? :=fun b hb=>(MapKept.heap_set h2).2 b hb
 have oq:∀b,bb w b-> ¬ae M φ s.H b->(w.heap.setIfInBounds r (.deferred none))[b]? =w.heap[b]? /\ ¬ae M φ s.H b:=by
  intro b hc hn
  refine⟨iM b fun e=> ?_,hn⟩
  subst e
  rcases hc with⟨cs,ty,fz,hc⟩|⟨es,clock,hc⟩
  ·rw[h2]at hc;cases hc
  ·rw[h2]at hc;cases hc
 refine⟨⟨fun id=> ?_,hs.heap.fresh,hs.heap.apart,fun b hb=>⟨(hs.heap.ours b hb).1,by simpa using(hs.heap.ours b hb).2⟩,fun b hb=>by simpa using hs.heap.pY b hb⟩,⟨⟨hs.tr.keep.os,hs.tr.keep.tape,hs.tr.keep.output,by simpa using hs.tr.keep.size,fun j hj hm=> ?_⟩,hs.tr.grow,hs.tr.rel⟩,fun i=>V.eP oq (bU.refl _ _) _ _ (hs.env i)⟩
 ·exact au.oI oq (bU.refl _ _) rfl rfl (fun hl b hb=>iM b fun e=>h3 ⟨id,hl,e ▸ hb⟩) (hs.heap.ok id)
 ·rw[iM j (by omega)];exact hs.tr.keep.block j hj hm
theorem de{fn:Func}{R:Ending->World->Prop}{u:FrameMode}(hu:u≠ .run){tmps tb:Array Value}{ds:List Deferred}(hR:∀w,nK M aZ H0 w0 φ s tb w->LeavesInM (bQ none) k P fn tmps R ds u w):
 ∀ (ms:List Nat) (w:World),ms.Nodup->(∀r∈ms,w0.heap.size<=r/\w.heap[r]? =some (.deferred (some []))/\ ¬b4 φ s.H r)->nK M aZ H0 w0 φ s tb w->LeavesInM (bQ none) k P fn tmps R (ms.map mark++ds) u w
 |[],w,_,_,hs=>hR w hs
 |r::ms,w,hn,hm,hs=>by
  obtain⟨h1,h2,h3⟩:=hm r aU
  obtain⟨M4,Is⟩:=List.nodup_cons.1 hn
  refine⟨hu, .inl ⟨r,{w with heap:=w.heap.setIfInBounds r (.deferred none)},rfl, ?_,de hu hR ms _ Is (fun r' tP=> ?_) (sK hs h1 h2 h3)⟩⟩
  ·simp[Instr.takeDeferred,getObj,setObj,Sem.run,h2,Result.andThen]
  ·obtain⟨g1,g2,g3⟩:=hm r' (by simp[tP])
   exact⟨g1,((MapKept.heap_set h2).2 r' (fun e=>M4 (e ▸ tP))).trans g2,g3⟩
theorem aQ.Ll (hs:aQ M aZ H0 w0 n cx φ s a w):nK M aZ H0 w0 φ s a.tmps w:=⟨hs.heap,hs.tr,hs.env⟩
def fq(P:Program)(rs:List ResultVar)(K X:V->(Nat->aa)->Nat->Prop)(e:dM)(s:S):Prop:=
 match e with
 | .normal| .ret=>match fl P s rs with
   |some [v]=>K v s.o s.nx
   |some vs=>K (.a7 vs) s.o s.nx
   |none=>False
 | .aJ v=>X v s.o s.nx
 | .exit _=>False
theorem pj{P:Program}{rs:List ResultVar}{K X:V->(Nat->aa)->Nat->Prop}{s:S}(h:fq P rs K X .ret s):∃vs,fl P s rs=some vs/\K (match vs with|[v]=>v|vs=> .a7 vs) s.o s.nx:=by
 unfold fq at h
 simp only at h
 split at h
 ·rename_i v h1;exact⟨[v],h1,h⟩
 ·rename_i vs h1 h2
  refine⟨vs,h2, ?_⟩
  split
  ·exact absurd rfl (h1 _)
  ·exact h
 ·exact h.elim
theorem pk:∀ {vs:List V} {vals:List Value},V.ai (ae M φ H) φ H w vs vals->V.den (ae M φ H) φ H w (match vs with|[v]=>v|vs=> .a7 vs) (if h:vals.toArray.size=1 then vals.toArray[0]else .tuple vals.toArray)
 |[],vals,h=>by simp only[V.ai]at h;subst h;exact⟨#[],rfl,rfl⟩
 |[v],vals,h=>by obtain⟨u,us,rfl,h1,h2⟩:=h;simp only[V.ai]at h2;subst h2;exact h1
 |v::y::l,vals,h=>by
  have h':=h
  obtain⟨u,us,rfl,h1,u2,us2,rfl,h2⟩:=h
  exact⟨(u::u2::us2).toArray,aU,by simpa using h'⟩
theorem oB{vals:Array Value}{m:Nat}{vs:List V}(hd:V.ai (ae M φ H) φ H w vs vals.toList)(i:Nat):V.den (ae M φ H) φ H w (br vs i) ((vals++Array.replicate m undef).getD i undef):=by
 have hlen:=V.ah _ _ hd
 simp only[br,sJ]
 cases hx:vs[i]? with
 |none=>
  have:vals[i]? =none:=by
   rw[List.getElem?_eq_none_iff]at hx
   apply Array.getElem?_eq_none
   simp at hlen;omega
  simp only[List.getD_eq_getElem?_getD,hx,this]
  exact⟨#[],rfl,rfl⟩
 |some v=>
  obtain⟨u,hu,vP⟩:=V.bA _ _ _ _ hd hx
  have ov:vals[i]? =some u:=by simpa using hu
  simp only[List.getD_eq_getElem?_getD,hx,ov,Option.getD_some]
  exact vP
theorem fW{f:FuncId}{fn:Func}{c:Code}{args:Array Value}{w:World}{R:Ending->World->Prop}(hf:P.funcs[f]? =some fn)(hb:fn.body=some c)
 (h:c.kx P none (bodyPostM (bQ none) k P fn R) {tmps:=args++Array.replicate (fn.ntmps - args.size) undef,defers:=[]} w):CallsIn (bQ none) k P f args w R:=by
 have cm:f<P.funcs.size:=(Array.getElem?_eq_some_iff.1 hf).1
 refine⟨trivial,fun cs hr=> ?_⟩
 let b:Frame:={(default:Frame)with fn:=f,kind:= .normal,roundOf:=none}
 have fm:Frame.enter P f args .normal=b.atR {tmps:=args++Array.replicate (fn.ntmps - args.size) undef,defers:=[]} [.code c]:=by
  simp[Frame.enter,Frame.atR,hf,hb,b]
 obtain⟨e,a',w',hq,bw⟩:=h b [] cs rfl cm
 rw[<- fm]at bw
 cases e with
 |normal=>
  obtain⟨e',yQ,Hq,hR,hs,s7,hl⟩:=leaves_stepsInM a'.defers .returning w' {b.atR a' []with mode:= .returning} cs rfl rfl rfl hf rfl (trivial:(bQ none).fn f) hr hq
  exact⟨e',yQ,Hq,hR,ComesIn.of_steps (StepsIn.trans bw (.one (fenced_calm (n:=0) (fr:=b.atR a' []) trivial db rfl) (stepR_end rfl))) hs,s7,hl⟩
 |ret=>
  obtain⟨todo,xo⟩:=bw.1 rfl
  obtain⟨e',yQ,Hq,hR,hs,s7,hl⟩:=leaves_stepsInM a'.defers .returning w' {b.atR a' todo with mode:= .returning} cs rfl rfl rfl hf rfl (trivial:(bQ none).fn f) hr hq
  exact CB
 |panic chain=>
  obtain⟨todo,xo⟩:=bw
  obtain⟨e',yQ,Hq,hR,hs,s7,hl⟩:=leaves_stepsInM a'.defers (.panicking chain) w' {b.atR a' todo with mode:= .panicking chain} cs rfl rfl rfl hf rfl (trivial:(bQ none).fn f) hr hq
  exact CB
 |exit id=>exact hq.elim
 |goto l=>exact hq.elim
 |outgrown=>exact⟨.outgrown,w',b,hq,bw.resolve_left (by simp[b]),rfl,trivial⟩
def qu(P:Program)(l:Nat)(R:Ending->World->Prop):Exit->Act->World->Prop
 | .normal,_,w=>∃v w',(Instr.endRound l none).run P w= .ok v w'/\R (.returned v) w'
 | .ret,_,w=>∃v w',(Instr.endRound l (some .ret)).run P w= .ok v w'/\R (.returned v) w'
 | .exit id,_,w=>∃v w',(Instr.endRound l (some (.exit id))).run P w= .ok v w'/\R (.returned v) w'
 | .goto _,_,_=>False
 | .panic chain,a,w=>a.defers=[]/\R (.panicked chain) w
 | .outgrown,_,_=>False
theorem lu{l:Nat}{f:FuncId}{tmps:Array Value}{assign body:Code}{w:World}{R:Ending->World->Prop}(hf:f<P.funcs.size)
 (h:assign.kx P (some l) (Exit.then (fun gG dV=>∃jD,(Instr.beginRound l).run P dV= .ok () jD/\body.kx P (some l) (qu P l R) gG jD) (fun e a w=>match e with| .panic chain=>a.defers=[]/\R (.panicked chain) w|_=>False))
  {tmps:=tmps,defers:=[]} w):
 RoundIn Fence.wide n P l f tmps assign body w R:=by
 refine⟨trivial,fun c cs hr=> ?_⟩
 let b:Frame:={(default:Frame)with fn:=f,kind:= .normal,roundOf:=some l}
 have Dy:Frame.round l f tmps assign body .normal=b.atR {tmps:=tmps,defers:=[]} [.code assign, .beginRound, .code body]:=by
  simp[Frame.round,Frame.atR,b]
 have calm:∀ (m:Machine),m.fenced P Fence.wide:=fun m=>fenced_wide P m
 have aJ:∀ {a:Act} {w:World} {todo:List Item} {chain:List PanicEntry},a.defers=[]->step P (lone {b.atR a todo with mode:= .panicking chain} (c::cs) w)= .next (lone (c.raise chain) cs w):=by
  intro a w todo chain hd
  exact step_leave_panicked (fr:={b.atR a todo with mode:= .panicking chain}) ⟨rfl,hd,P.funcs[f],by show P.funcs[f]? =_;simp[hf]⟩
 obtain⟨e,gG,dV,hq,bw⟩:=h b [.beginRound, .code body] (c::cs) rfl hf
 rw[<- Dy]at bw
 cases e with
 |normal=>
  obtain⟨jD,M5,iZ⟩:=hq
  have s1:StepsIn (Machine.fenced P Fence.wide) P (lone (b.atR gG [.beginRound, .code body]) (c::cs) dV) (lone (b.atR gG [.code body]) (c::cs) jD):= .one (calm _) (stepR_beginRound rfl M5)
  obtain⟨zi,Dw,qo,iW,eD⟩:=iZ b [] (c::cs) rfl hf
  have bw:StepsIn (Machine.fenced P Fence.wide) P _ _:=bw
  cases zi with
  |normal=>
   obtain⟨v,ky,lr,hR⟩:=iW
   have eD:StepsIn (Machine.fenced P Fence.wide) P _ _:=eD
   exact⟨.returned v,ky,hR,(StepsIn.trans bw s1).trans (StepsIn.trans eD (.one (calm _) (stepR_round_end rfl rfl lr)))⟩
  |ret=>
   obtain⟨v,ky,lr,hR⟩:=iW
   obtain⟨k₁,hs⟩:=eD.2 rfl
   have hs:StepsIn (Machine.fenced P Fence.wide) P _ _:=hs
   exact⟨.returned v,ky,hR,(StepsIn.trans bw s1).trans (StepsIn.trans hs (.one (calm _) (stepR_round_ret rfl rfl lr)))⟩
  |exit id=>
   obtain⟨v,ky,lr,hR⟩:=iW
   obtain⟨k₁,hk,hs⟩:=eD.2 rfl rfl
   have hs:StepsIn (Machine.fenced P Fence.wide) P _ _:=hs
   exact⟨.returned v,ky,hR,(StepsIn.trans bw s1).trans (StepsIn.trans hs (.one (calm _) (stepR_round_exit rfl rfl hk lr)))⟩
  |goto t=>exact iW.elim
  |panic chain=>
   obtain⟨todo,hs⟩:=eD
   have hs:StepsIn (Machine.fenced P Fence.wide) P _ _:=hs
   exact⟨.panicked chain,qo,iW.2,(StepsIn.trans bw s1).trans (StepsIn.trans hs (.one (calm _) (aJ iW.1)))⟩
  |outgrown=>exact iW.elim
 |exit id=>exact hq.elim
 |goto t=>exact hq.elim
 |ret=>exact hq.elim
 |panic chain=>
  obtain⟨todo,hs⟩:=bw
  have hs:StepsIn (Machine.fenced P Fence.wide) P _ _:=hs
  exact⟨.panicked chain,dV,hq.2,StepsIn.trans hs (.one (calm _) (aJ hq.1))⟩
 |outgrown=>exact hq.elim
theorem gI.ru {f:FuncId}{fn:Func}{c:Code}{args:List V}{o:Nat->aa}{nx:Nat}{K X:V->(Nat->aa)->Nat->Prop}(hf:P.funcs[f]? =some fn)(hn:(fn.name== "runtime.NumGoroutine")=false)(iZ:fn.body=some c)(hl:args.length<=fn.ntmps)
 (h:dN P fn.ntmps nx false c (fq P fn.results.toList K X) ⟨br args,o,nx⟩):gI P f args o nx K X:=by
 refine⟨⟨fn,hf,hn,by rw[iZ];rfl⟩,fun M φ w vals hH hd=> ?_⟩
 have hlen:=V.ah _ _ hd
 let s0:S:=⟨br args,o,nx⟩
 let a0:Act:={tmps:=vals++Array.replicate (fn.ntmps - vals.size) undef,defers:=[]}
 have wh:aQ M φ (hp o nx) w fn.ntmps ⟨[],false⟩ φ s0 a0 w:=by
  exact CN
 refine pb (ro:=none) (k:=0) (fW hf iZ (dc (dt (P:=P) (H0:=hp o nx) (b:=nx) (cx:=⟨[],false⟩) (ro:=none) (fun id hu=>hu) (fun _=>rfl) c _ s0 φ a0 w h wh) ?_))
 rintro e a w' ⟨x,s,ao,hq,hs,hm⟩
 obtain⟨ms,g1,g2,g3,g4⟩:=hs.defers
 rw[List.append_nil]at g1
 have done:(x= .normal\/x= .ret)->LeavesInM (bQ none) 0 P fn a.tmps (fQ M φ (hp o nx) w K X) a.defers .returning w':=by
  intro hx
  have M6:fq P fn.results.toList K X .ret s:=by rcases hx with rfl|rfl<;>exact hq
  obtain⟨vs,h1,h2⟩:=pj M6
  rw[g1]
  have:=de (P:=P) (k:=0) (fn:=fn) (R:=fQ M φ (hp o nx) w K X) (u:= .returning) aU (ds:=[]) (fun w2 hb=>by
   obtain⟨vals,h3,h4⟩:=kN (P:=P) (a:=a) hb.heap hb.env _ _ h1
   exact⟨_,fV h3,ao,s.o,s.nx,_,hb.heap,hb.tr,pk h4,h2⟩) ms w' g2 g4 hs.Ll
  rwa [List.append_nil]at this
 cases e<;>cases x<;>first|(exact hm.elim)|skip
 ·exact done (.inl rfl)
 ·exact hq.elim
 ·exact done (.inr rfl)
 ·rename_i v
  obtain⟨val,rfl,Jg⟩:=hm
  show LeavesInM (bQ none) 0 P fn a.tmps (fQ M φ (hp o nx) w K X) a.defers _ w'
  rw[g1]
  have Dy:nK M φ (hp o nx) w ao ⟨fun i=>if i=0 then v else .bT,s.o,s.nx⟩ #[val] w':=⟨hs.heap,hs.tr,fun i=>by
   by_cases hi:i=0
   ·subst hi;exact Jg
   ·simp only[hi,if_false];trivial⟩
  have:=de (P:=P) (k:=0) (fn:=fn) (s:=⟨fun i=>if i=0 then v else .bT,s.o,s.nx⟩) (tmps:=a.tmps) (tb:=#[val]) (aZ:=φ) (H0:=hp o nx) (w0:=w) (R:=fQ M φ (hp o nx) w K X) (u:= .panicking [{v:=val,recovered:=false}]) aU (ds:=[]) (fun w2 hb=>by
   have h0:=hb.env 0
   exact⟨ao,s.o,s.nx,v,hb.heap,hb.tr,val,rfl,h0,hq⟩) ms w' g2 g4 Dy
  rwa [List.append_nil]at this
theorem bt.ig {f:FuncId}{ds:List D}{out:R}(h:gI P f (ds.map .d) (fun _=> .no) 0 (fun v o _=>∃vs rs,v=(match vs with|[v]=>v|vs=> .a7 vs)/\aT o vs=some rs/\out= .ret rs) (fun v o _=>∃x,cN o v=some x/\out= .aJ x)):bt P f ds out:=by
 refine⟨h.1,fun M w vals hM hd=> ?_⟩
 let aZ:Place:=fun _=> .nilFunc
 have p5:∀b, ¬b4 aZ (hp (fun _=> .no) 0) b:=by rintro b ⟨id,hl,_⟩;simp[hp,aa.live]at hl
 refine(h.2 M aZ w vals (gD aZ hM) ((V.aW _ _).2 (D.aw (w:=w) (w':=w) (B:=M) (fun b _ hB=>⟨rfl,fun h=>h.elim hB (p5 b)⟩) _ _ hd))).mono ?_
 rintro e w' ⟨ao,o',nx',v,k1,k2,k3⟩
 have Dz:cc (fun _=>False) w w':=⟨k2.keep.os,k2.keep.tape,k2.keep.output,k2.keep.size,fun k hk _=>k2.keep.block k hk (p5 k)⟩
 have fin:∀ (vs:List V) (xs:List D) (vals:List Value),aT o' vs=some xs->V.ai (ae M ao (hp o' nx')) ao (hp o' nx') w' vs vals->D.ai M w' xs vals:=by
  intro vs xs vals h1 h2
  obtain⟨f1,f2,f3,f4,f5⟩:=bK k1 (V.aC vs) (bd vs _ h2)
  have h3:=bD f1 vs xs vals f3 h1 (V.aw f2 _ _ h2)
  exact D.aw (w:=w') (w':=w') (fun k _ hB=>⟨rfl,fun hM=>hB (.inl hM)⟩) xs vals h3
 refine⟨Dz, ?_⟩
 cases e with
 |outgrown=>exact k3.elim
 |panicked ch=>
  obtain⟨val,rfl,g1,x,g2,rfl⟩:=k3
  have:=fin [v] [x] [val] (by simp[aT,g2]) ⟨val,[],rfl,g1,rfl⟩
  obtain⟨u,us,he,h2,_⟩:=this
  simp at he;obtain⟨rfl,rfl⟩:=he
  exact⟨val,rfl,h2⟩
 |returned val=>
  obtain⟨g1,vs,rs,rfl,g2,rfl⟩:=k3
  match vs,g1,g2 with
  |[],g1,g2=>
   obtain⟨arr,rfl,hv⟩:=g1
   simp only[aT,Option.some.injEq]at g2;subst g2
   exact⟨arr,rfl,hv⟩
  |[v],g1,g2=>
   have:=fin [v] rs [val] g2 ⟨val,[],rfl,g1,rfl⟩
   cases rs with
   |nil=>cases this
   |cons x l=>
    obtain⟨u,us,he,h2,h3⟩:=this
    simp at he;obtain⟨rfl,rfl⟩:=he
    cases l with
    |nil=>exact h2
    |cons y l=>obtain⟨_,_,h,_⟩:=h3;cases h
  |v::v2::l,g1,g2=>
   obtain⟨arr,rfl,h⟩:=g1
   have:=fin (v::v2::l) rs arr.toList g2 h
   have hl:=D.ah _ _ this
   have KZ:=V.ah _ _ h
   match rs,hl,this with
   |[],hl,_=>exact vF
   |[x],hl,_=>exact vF
   |x::y::l,_,this=>exact⟨arr,rfl,this⟩
theorem sL{rs:List ResultVar}{out:R}(e:dM)(s:S)(h:sF P rs out e s):
 fq P rs (fun v o _=>∃vs rs,v=(match vs with|[v]=>v|vs=> .a7 vs)/\aT o vs=some rs/\out= .ret rs) (fun v o _=>∃x,cN o v=some x/\out= .aJ x) e s:=by
 have ret:sF P rs out .ret s->fq P rs (fun v o _=>∃vs rs,v=(match vs with|[v]=>v|vs=> .a7 vs)/\aT o vs=some rs/\out= .ret rs) (fun v o _=>∃x,cN o v=some x/\out= .aJ x) .ret s:=by
  intro h
  obtain⟨vs,xs,h1,h2,h3⟩:=tT h
  simp only[fq,h1]
  match vs,h2 with
  |[],h2=>exact⟨[],xs,rfl,h2,h3⟩
  |[v],h2=>exact⟨[v],xs,rfl,h2,h3⟩
  |v::v2::l,h2=>exact⟨v::v2::l,xs,rfl,h2,h3⟩
 cases e with
 |normal=>exact ret h
 |ret=>exact ret h
 |exit id=>exact h.elim
 |aJ v=>exact tU h
end
end
section
def ug{α:Type}(c:Bool)(x:α):Option α:=if c=true then some x else none
def one(v:V):Option dn:=some (v,[],[])
def pn(op:BinOp)(k:IntKind)(a b:Int):Option V:=
 match op with
 | .add=>some (.d (.int k (k.wrap (a+b))))
 | .sub=>some (.d (.int k (k.wrap (a - b))))
 | .mul=>some (.d (.int k (k.wrap (a*b))))
 | .quo=>if b=0 then none else some (.d (.int k (k.wrap (a.tdiv b))))
 | .rem=>if b=0 then none else some (.d (.int k (a.tmod b)))
 | .and=>(kU .and k a b).map fun r=> .d (.int k r)
 | .or=>(kU .or k a b).map fun r=> .d (.int k r)
 | .xor=>(kU .xor k a b).map fun r=> .d (.int k r)
 | .andNot=>(kU .andNot k a b).map fun r=> .d (.int k r)
 | .eql=>some (.d (.bool (a==b)))| .neq=>some (.d (.bool (a !=b)))| .lss=>some (.d (.bool (decide (a<b))))| .leq=>some (.d (.bool (decide (a<=b))))
 | .gtr=>some (.d (.bool (decide (b<a))))| .geq=>some (.d (.bool (decide (b<=a))))
 |_=>none
def gE(P:Program)(t:TypeId):Bool:=
 match P.underlying t with
 |some .bool=>true
 |_=>false
def nL(P:Program)(op:BinOp)(t:TypeId)(x y:V):Option V:=
 match x,y with
 | .d (.int k a), .d (.int k' b)=>if k=k' then pn op k a b else none
 | .d (.bool a), .d (.bool b)=>match op with
   | .eql=>ug (gE P t) (.d (.bool (a==b)))
   | .neq=>ug (gE P t) (.d (.bool (a !=b)))
   |_=>none
 | .d (.str a), .d (.str b)=>match op with
   | .eql=>some (.d (.bool (a==b)))
   | .neq=>some (.d (.bool (a !=b)))
   |_=>none
 |_,_=>none
def Jh(op:UnOp)(x:V):Option V:=
 match op,x with
 | .neg, .d (.int k n)=>some (.d (.int k (k.wrap (-n))))
 | .not, .d (.bool b)=>some (.d (.bool !b))
 |_,_=>none
def ja(c a b:V):Option V:=
 match c with
 | .d (.bool true)=>some a
 | .d (.bool false)=>some b
 |_=>none
def jb(o:Nat->aa)(x:V):Option (List D×List Nat):=
 match x with
 | .d (.sl es)=>some (es,[])
 | .cG=>some ([],[])
 | .jN es=>some (es,[])
 | .osl id ep=>match o id with
   | .arr dL _ _ es=>if ep=dL then some (es,[id])else none
   | .l5 dL es=>if ep=dL then some (es,[id])else none
   |_=>none
 |_=>none
def qv(P:Program)(t:TypeId)(o:Nat->aa)(x:V):Option dn:=
 match P.underlying t with
 |some (.slice _)=>match jb o x with
  |some (es,rd)=>some (.d (.int .i64 es.length),[],rd)
  |none=>none
 |some .string=>match x with
  | .d (.str s)=>one (.d (.int .i64 s.length))
  |_=>none
 |some (.array n _)=>one (.d (.int .i64 n))
 |_=>none
def mT(P:Program)(e:TypeId)(es:List D)(i:Int)(rd:List Nat):Option dn:=
 if 0<=i then match es[i.toNat]? with
  |some y=>ug (y.cells.length==P.cellsOf e&&0<P.cellsOf e) (.pp y.cells 0,[],rd)
  |none=>none
 else none
def gO(o:Nat->aa)(x:V)(q:Nat):Option V:=
 match x with
 | .ptr id off=>ug (o id).aY (.ptr id (off+q))
 | .pp cs off=>some (.pp cs (off+q))
 | .pe id ep j sz off=>if(o id).bz=some ep then some (.pe id ep j sz (off+q))else none
 |_=>none
def du(P:Program)(o:Nat->aa)(t:TypeId)(x ix:V):Option dn:=
 match ix with
 | .d (.int _ i)=>match bI P t with
   |some e=>match x with
    | .d (.sl es)=>mT P e es i []
    | .jN es=>mT P e es i []
    | .osl id ep=>match o id with
      | .arr dL _ sz es=>if ep=dL/\0<=i/\i.toNat<es.length/\sz=P.cellsOf e/\0<P.cellsOf e then some (.pe id ep i.toNat sz 0,[],[id])else none
      | .l5 dL es=>if ep=dL then mT P e es i [id]else none
      |_=>none
    |_=>none
   |none=>match p8 P t with
    |some (n,e)=>if 0<=i/\i<n/\(P.info? e).isSome=true then(gO o x (i.toNat*P.cellsOf e)).bind one else none
    |none=>none
 |_=>none
def dv(P:Program)(o:Nat->aa)(t:TypeId)(x:V)(f:Nat):Option V:=
 match gV P t f with
 |some q=>gO o x q
 |none=>none
def fX(P:Program)(o:Nat->aa)(t:TypeId)(x:V):Option dn:=
 match x with
 | .ptr id off=>match o id with
   | .row cs=>match cy P t cs off with
     |some v=>some (v,[],[id])
     |none=>none
   |_=>none
 | .pp cs off=>match cy P t (cs.map .d) off with
   |some v=>some (v,[],[])
   |none=>none
 | .pe id ep i sz off=>match o id with
   | .arr dL _ jm es=>if ep=dL/\sz=jm then match es[i]? with
    |some e=>match cy P t (e.cells.map .d) off with
     |some v=>some (v,[],[id])
     |none=>none
    |none=>none
     else none
   |_=>none
 |_=>none
def jE(P:Program)(o:Nat->aa)(t:TypeId)(x v:V):Option dn:=
 match x with
 | .ptr id off=>match o id with
   | .row cs=>match nr P t cs off v with
     |some cs'=>some (.a7 [],[(id, .row cs')],[id])
     |none=>none
   |_=>none
 | .pe id ep i jm off=>match o id with
   | .arr dL ty sz es=>if ep=dL/\jm=sz then match es[i]?,cN o v with
    |some e,some y=>if y.cells.length=P.cellsOf t/\0<y.cells.length/\v.ids.all (· !=id)=true then match e.put off y.cells with
     |some e'=>some (.a7 [],bH o v.ids++[(id, .arr ep ty sz (es.set i e'))],id::v.ids)
     |none=>none
     else none
    |_,_=>none
     else none
   |_=>none
 |_=>none
def cZ(P:Program)(o:Nat->aa)(fr:Nat)(t:TypeId)(len:Nat)(parts:List (Nat×V)):Option dn:=
 match bI P t with
 |some e=>if len=0/\parts.isEmpty=true/\0<P.cellsOf e then some (.osl fr 0,[(fr, .arr 0 e (P.cellsOf e) [])],[])else if parts.map (·.1)=List.range len/\(eQ P e).isSome=true/\0<len/\0<P.cellsOf e/\len*P.cellsOf e<=2^24 then match aT o (parts.map (·.2))with
  |some ds=>if ds.all (fun x=>x.cells.length==P.cellsOf e)=true then some (.osl fr 0,bH o (V.aC (parts.map (·.2)))++[(fr, .arr 0 e (P.cellsOf e) ds)],V.aC (parts.map (·.2)))else none
  |none=>none
  else none
 |none=>none
def ft(P:Program)(fr:Nat)(t:TypeId)(l c:V):Option dn:=
 match bI P t with
 |some e=>match l,c with
  | .d (.int _ n), .d (.int _ m)=>if n=m/\0<=n/\0<P.cellsOf e/\P.bytesOf e*n.toNat<=2^47/\n.toNat<=2^47 then match oF P e with
   |some x=>some (.osl fr 0,[(fr, .arr 0 e (P.cellsOf e) (List.replicate n.toNat x))],[])
   |none=>none
    else none
  |_,_=>none
 |none=>none
def jc(P:Program)(o:Nat->aa)(fr:Nat)(ts:Array TypeId)(x y:V):Option dn:=
 match ts.toList with
 |[t,t']=>if t=t' then match bI P t,jb o y with
    |some e,some (new,rd)=>if 0<P.cellsOf e/\(eQ P e).isSome=true/\new.all (fun z=>z.cells.length==P.cellsOf e)=true then match x with
     | .cG=>if new.length<=2^47/\new.length*P.bytesOf e<=2^47 then some (.osl fr 0,[(fr, .arr 0 e (P.cellsOf e) new)],rd)else none
     | .jN es=>if es.all (fun z=>z.cells.length==P.cellsOf e)=true then(if new=[]then some (.jN es,[],rd)else if es.length+new.length<=2^40/\(es.length+new.length)*P.bytesOf e<=2^40 then some (.osl fr 0,[(fr, .arr 0 e (P.cellsOf e) (es++new))],rd)else none)else none
     | .osl id ep=>match o id with
       | .arr dL ty sz es=>if ep=dL/\ty=e/\sz=P.cellsOf e/\es.length+new.length<=2^47/\(es.length+new.length)*P.bytesOf e<=2^47 then
        some (.osl id (ep+1),[(id, .arr (ep+1) ty sz (es++new))],id::rd)else none
       |_=>none
     |_=>none
     else none
    |_,_=>none
  else none
 |_=>none
def jd(isMax:Bool)(x y:V):Option V:=
 match x,y with
 | .d (.int k a), .d (.int k' b)=>if k=k' then some (.d (.int k (if isMax then(if b>a then b else a)else(if b<a then b else a))))else none
 |_,_=>none
def fu(x:Option V):Option dn:=match x with|some v=>one v|none=>none
def je(P:Program)(s:S)(fr:Nat)(b:Builtin)(args:List Operand)(ts:Array TypeId):Option dn:=
 match b,args with
 | .len,[x]=>match ts.toList with
   |[t]=>qv P t s.o (s.ev x)
   |_=>none
 | .append,[x,y]=>match mu P fr ts (s.ev x) (s.ev y)with
   |some r=>some r
   |none=>jc P s.o fr ts (s.ev x) (s.ev y)
 | .max,[x,y]=>fu (jd true (s.ev x) (s.ev y))
 | .min,[x,y]=>fu (jd false (s.ev x) (s.ev y))
 | .max,[x,y,z]=>fu (tx (s.ev x) (s.ev y) (s.ev z))
 | .copy,[x,y]=>mo P s.o ts (s.ev x) (s.ev y)
 | .delete,[x,y]=>match ts.toList.head? with
   |some t=>iE P s.o t (s.ev x) (s.ev y)
   |none=>none
 | .cap,[x]=>vL P ts (s.ev x)
 |_,_=>none
def nM(P:Program)(t:TypeId)(parts:List (Nat×V)):Option V:=
 match eQ P t,iu P t with
 |some z,some pl=>match jO pl z parts with
  |some cs=>some (ir cs)
  |none=>none
 |_,_=>none
def dS(o:Nat->aa)(x:V):Option V:=
 match x with
 | .ptr id off=>ug (o id).aY (.ptr id off)
 | .pp cs off=>some (.pp cs off)
 | .func (.func f) first cap=>some (.func (.func f) first cap)
 |_=>none
def lx(P:Program)(t:TypeId):Bool:=
 match P.underlying t with
 |some (.interface _)=>false
 |some _=>true
 |none=>false
def uh(P:Program)(t:TypeId)(x:V):Option V:=
 ug (lx P t) (match x with
  | .d y=> .d (.iface t y)
  |v=> .iface t v)
def cK(P:Program)(o:Nat->aa)(op:BinOp)(t:TypeId)(ko:Bool)(x y:V):Option dn:=
 match nL P op t x y with
 |some v=>one v
 |none=>jx P o op t ko x y
def rZ(op:UnOp)(x:V):Option V:=
 match op,x with
 | .not, .c7=>some .c7
 |op,x=>Jh op x
def dw(P:Program)(s:S)(fr:Nat)(op:Op):Option dn:=
 match op with
 | .move x=>one (s.ev x)
 | .assign x=>one (s.ev x)
 | .pick c a b=>fu (ja (s.ev c) (s.ev a) (s.ev b))
 | .alloc t=>match eQ P t with
   |some cs=>some (.ptr fr 0,[(fr, .row cs)],[])
   |none=>none
 | .box _ x=>match(s.ev x).cells with
   |some cs=>some (.ptr fr 0,[(fr, .row cs)],[])
   |none=>none
 | .build t parts=>fu (nM P t (parts.toList.map fun p=>(p.1,s.ev p.2)))
 | .buildSlice t len parts=>cZ P s.o fr t len (parts.toList.map fun p=>(p.1,s.ev p.2))
 | .load t x=>fX P s.o t (s.ev x)
 | .store t x v=>jE P s.o t (s.ev x) (s.ev v)
 | .nilCheck x=>fu (dS s.o (s.ev x))
 | .binOp op t x y _=>cK P s.o op t (isConst x||isConst y) (s.ev x) (s.ev y)
 | .unOp op _ x=>fu (rZ op (s.ev x))
 | .convert u t x=>match P.underlying u,sd P t,s.ev x with
   |some _,some k, .d (.int _ n)=>one (.d (.int k (k.wrap n)))
   |_,_,_=>none
 | .makeInterface t x=>fu (uh P t (s.ev x))
 | .makeFunc fn first cap=>one (.func fn (first.toList.map s.ev) (cap.toList.map s.ev))
 | .makeSlice t l c=>ft P fr t (s.ev l) (s.ev c)
 | .fieldAddr t x f=>fu (dv P s.o t (s.ev x) f)
 | .indexAddr t x i=>du P s.o t (s.ev x) (s.ev i)
 | .extract x i=>match s.ev x with
   | .a7 vs=>match vs[i]? with
     |some v=>one v
     |none=>none
   |_=>none
 | .call c=>match c.callee with
   | .builtin b=>je P s fr b c.args.toList c.argTypes
   |_=>none
 | .slice t x lo hi mx=>ju P s.o t (s.ev x) (lo.map s.ev) (hi.map s.ev) (mx.map s.ev)
 | .field t x f=>fu (kW P t (s.ev x) f)
 | .index t x i=>fu (kX P t (s.ev x) (s.ev i))
 | .typeAssert x _ t ok=>fu (iz P t ok (s.ev x))
 | .makeMap t none=>iB P fr t
 | .lookup t m k ok=>iA P s.o t (s.ev m) (s.ev k) ok
 | .mapUpdate t m k v=>eu P s.o t (s.ev m) (s.ev k) (s.ev v)
 | .insert t m k v=>eu P s.o t (s.ev m) (s.ev k) (s.ev v)
 | .range t x=>gY P s.o fr t (s.ev x)
 | .next x str=>iC s.o (s.ev x) str
 | .entry x=>gZ s.o (s.ev x)
 |_=>none
section
variable {P:Program}{s:S}{fr:Nat}{v:V}{Δ:List (Nat×aa)}{rd:List Nat}{o:Nat->aa}{K:V->List (Nat×aa)->List Nat->Prop}
theorem jF{α:Type}{c:Bool}{x y:α}(h:ug c x=some y):c=true/\x=y:=by
 unfold ug at h;split at h
 ·injection h with h;exact⟨by assumption,h⟩
 ·cases h
theorem eI{x:V}{r:dn}(h:one x=some r):r=(x,[],[]):=by unfold one at h;injection h with h;exact h.symm
theorem dO{x:Option V}{r:dn}(h:fu x=some r):∃v,x=some v/\r=(v,[],[]):=by
 unfold fu at h;split at h
 ·exact⟨_,rfl,eI h⟩
 ·cases h
theorem qw{x:V}{es:List D}{rd:List Nat}(h:jb o x=some (es,rd)):cz o x=some es/\rd=x.ids:=by
 unfold jb at h
 split at h
 ·exact yJ
 ·exact yJ
 ·exact yJ
 ·split at h
  ·rename_i ho
   split at h
   ·rename_i e;simp at h;obtain⟨rfl,rfl⟩:=h;exact⟨by simp[cz,cN,ho,e],rfl⟩
   ·cases h
  ·rename_i ho
   split at h
   ·rename_i e;simp at h;obtain⟨rfl,rfl⟩:=h;exact⟨by simp[cz,cN,ho,e],rfl⟩
   ·cases h
  ·cases h
 ·cases h
theorem sM{op:BinOp}{k:IntKind}{a b:Int}{v:V}(h:pn op k a b=some v){K:V->Prop}(hK:K v):vI op k a b K:=by
 cases op<;>simp only[pn]at h<;>simp only[vI]
 case quo=>split at h
           ·cases h
           ·exact yI
 case rem=>split at h
           ·cases h
           ·exact yI
 case and=>simp only[Option.map_eq_some_iff]at h;obtain⟨r,h1,rfl⟩:=h;exact⟨r,h1,hK⟩
 case or=>simp only[Option.map_eq_some_iff]at h;obtain⟨r,h1,rfl⟩:=h;exact⟨r,h1,hK⟩
 case xor=>simp only[Option.map_eq_some_iff]at h;obtain⟨r,h1,rfl⟩:=h;exact⟨r,h1,hK⟩
 case andNot=>simp only[Option.map_eq_some_iff]at h;obtain⟨r,h1,rfl⟩:=h;exact⟨r,h1,hK⟩
 case shl=>cases h
 case shr=>cases h
 case eql=>injection h with h;subst h;exact⟨_,rfl,hK⟩
 case neq=>injection h with h;subst h;exact⟨_,rfl,hK⟩
 case lss=>injection h with h;subst h;exact⟨_,rfl,hK⟩
 case leq=>injection h with h;subst h;exact⟨_,rfl,hK⟩
 case gtr=>injection h with h;subst h;exact⟨_,rfl,hK⟩
 case geq=>injection h with h;subst h;exact⟨_,rfl,hK⟩
 all_goals (injection h with h;subst h;exact hK)
theorem sN{op:BinOp}{t:TypeId}{x y v:V}(h:nL P op t x y=some v){K:V->Prop}(hK:K v):tv P op t x y K:=by
 unfold nL at h
 unfold tv
 split at h
 ·split at h
  ·exact⟨by assumption,sM h hK⟩
  ·cases h
 ·have hb:gE P t=true->P.underlying t=some .bool:=by
   unfold gE;intro h;split at h
   ·assumption
   ·cases h
  split at h
  ·obtain⟨h1,rfl⟩:=jF h;exact⟨hb h1,hK⟩
  ·obtain⟨h1,rfl⟩:=jF h;exact⟨hb h1,hK⟩
  ·cases h
 ·split at h
  ·exact tj
  ·exact tj
  ·cases h
 ·cases h
theorem qx{c a b v:V}(h:ja c a b=some v){K:V->Prop}(hK:K v):oD c a b K:=by
 unfold ja at h
 unfold oD
 split at h
 ·injection h with h;subst h;exact⟨fun _=>hK,(fun h=>by cases h)⟩
 ·injection h with h;subst h;exact⟨(fun h=>by cases h),fun _=>hK⟩
 ·cases h
theorem ly{x y:V}{q:Nat}(h:gO o x q=some y):(∃id off,x= .ptr id off/\(o id).aY=true/\y= .ptr id (off+q))\/(∃cs off,x= .pp cs off/\y= .pp cs (off+q))\/
 (∃id ep j sz off,x= .pe id ep j sz off/\(o id).bz=some ep/\y= .pe id ep j sz (off+q)):=by
 unfold gO at h
 split at h
 ·obtain⟨h1,rfl⟩:=jF h;exact .inl ⟨_,_,rfl,h1,rfl⟩
 ·injection h with h;exact .inr (.inl ⟨_,_,rfl,h.symm⟩)
 ·split at h
  ·injection h with h;exact .inr (.inr ⟨_,_,_,_,_,rfl,by assumption,h.symm⟩)
  ·cases h
 ·cases h
theorem kR{e:TypeId}{es:List D}{i:Int}{rd:List Nat}{r:dn}(h:mT P e es i rd=some r):
 0<=i/\∃y,es[i.toNat]? =some y/\y.cells.length=P.cellsOf e/\0<P.cellsOf e/\r=(.pp y.cells 0,[],rd):=by
 unfold mT at h
 split at h
 ·rename_i h0
  split at h
  ·rename_i y hy
   obtain⟨h1,rfl⟩:=jF h
   simp only[Bool.and_eq_true,beq_iff_eq,decide_eq_true_eq]at h1
   exact⟨h0,y,hy,h1.1,h1.2,rfl⟩
  ·cases h
 ·cases h
theorem kz{t:TypeId}{x ix:V}(h:du P o t x ix=some (v,Δ,rd))(hK:K v Δ rd):dY P o t x ix fun v rd=>K v [] rd:=by
 unfold du at h
 unfold dY
 split at h
 ·simp only
  split at h
  ·rename_i e ht
   simp only[ht]
   split at h
   ·exact CF
   ·exact CF
   ·split at h
    ·rename_i ho
     split at h
     ·rename_i hc
      simp only[Option.some.injEq,Prod.mk.injEq]at h;obtain⟨rfl,rfl,rfl⟩:=h
      simp only[ho]
      exact⟨hc.1,hc.2.1,hc.2.2.1,hc.2.2.2.1,hc.2.2.2.2,hK⟩
     ·cases h
    ·rename_i ho
     split at h
     ·rename_i hc
      obtain⟨h0,y,h1,h2,h3,h4⟩:=kR h
      simp only[Prod.mk.injEq]at h4;obtain⟨rfl,rfl,rfl⟩:=h4
      simp only[ho]
      exact⟨hc,h0,y,h1,h2,h3,hK⟩
     ·cases h
    ·cases h
   ·cases h
  ·rename_i ht
   simp only[ht]
   split at h
   ·rename_i n e ha
    simp only[ha]
    split at h
    ·rename_i hc
     simp only[Option.bind_eq_some_iff]at h
     obtain⟨y,hy,h1⟩:=h
     have h1:=eI h1
     simp only[Prod.mk.injEq]at h1;obtain⟨rfl,rfl,rfl⟩:=h1
     refine⟨hc.1,hc.2.1,hc.2.2, ?_⟩
     rcases ly hy with⟨_,_,rfl,h2,rfl⟩|⟨_,_,rfl,rfl⟩|⟨_,_,_,_,_,rfl,h2,rfl⟩
     ·exact⟨h2,hK⟩
     ·exact hK
     ·exact⟨h2,hK⟩
    ·cases h
   ·cases h
 ·cases h
theorem kA{t:TypeId}{x y:V}{f:Nat}(h:dv P o t x f=some y){K:V->Prop}(hK:K y):dZ P o t x f K:=by
 unfold dv at h
 unfold dZ
 split at h
 ·rename_i q hq
  simp only[hq]
  rcases ly h with⟨_,_,rfl,h2,rfl⟩|⟨_,_,rfl,rfl⟩|⟨_,_,_,_,_,rfl,h2,rfl⟩
  ·exact⟨h2,hK⟩
  ·exact hK
  ·exact⟨h2,hK⟩
 ·cases h
theorem sO{t:TypeId}{x:V}(h:qv P t o x=some (v,Δ,rd))(hK:K v Δ rd):tw P t o x fun v rd=>K v [] rd:=by
 unfold qv at h
 unfold tw
 split at h
 ·rename_i e hu
  simp only[hu]
  split at h
  ·rename_i es om hl
   simp only[Option.some.injEq,Prod.mk.injEq]at h;obtain⟨rfl,rfl,rfl⟩:=h
   unfold jb at hl
   split at hl
   ·exact yL
   ·exact yL
   ·exact yL
   ·split at hl
    ·rename_i ho
     split at hl
     ·rename_i hc;simp at hl;obtain⟨rfl,rfl⟩:=hl;simp only[ho];exact⟨hc,hK⟩
     ·cases hl
    ·rename_i ho
     split at hl
     ·rename_i hc;simp at hl;obtain⟨rfl,rfl⟩:=hl;simp only[ho];exact⟨hc,hK⟩
     ·cases hl
    ·cases hl
   ·cases hl
  ·cases h
 ·rename_i hu
  simp only[hu]
  split at h
  ·have h1:=eI h;simp only[Prod.mk.injEq]at h1;obtain⟨rfl,rfl,rfl⟩:=h1;exact hK
  ·cases h
 ·rename_i hu
  simp only[hu]
  have h1:=eI h;simp only[Prod.mk.injEq]at h1;obtain⟨rfl,rfl,rfl⟩:=h1;exact hK
 ·cases h
theorem qy{t:TypeId}{x:V}(h:fX P o t x=some (v,Δ,rd))(hK:K v Δ rd):oE P o t x fun v rd=>K v [] rd:=by
 unfold fX at h
 unfold oE
 split at h
 ·split at h
  ·rename_i ho
   split at h
   ·rename_i hg
    exact CP
   ·cases h
  ·cases h
 ·split at h
  ·rename_i hg
   simp only[Option.some.injEq,Prod.mk.injEq]at h;obtain⟨rfl,rfl,rfl⟩:=h
   exact⟨_,hg,hK⟩
  ·cases h
 ·split at h
  ·rename_i ho
   split at h
   ·rename_i hc
    split at h
    ·rename_i e he
     split at h
     ·rename_i hg
      simp only[Option.some.injEq,Prod.mk.injEq]at h;obtain⟨rfl,rfl,rfl⟩:=h
      simp only[ho];exact⟨hc.1,hc.2,e,he,_,hg,hK⟩
     ·cases h
    ·cases h
   ·cases h
  ·cases h
 ·cases h
theorem pq{t:TypeId}{x y:V}(h:jE P o t x y=some (v,Δ,rd))(hK:K v Δ rd):kV P o t x y fun Δ rd=>K (.a7 []) Δ rd:=by
 unfold jE at h
 unfold kV
 split at h
 ·split at h
  ·rename_i ho
   split at h
   ·rename_i hg
    exact CP
   ·cases h
  ·cases h
 ·split at h
  ·rename_i ho
   split at h
   ·rename_i hc
    split at h
    ·rename_i e z he hz
     split at h
     ·rename_i hl
      split at h
      ·rename_i e' hp
       simp only[Option.some.injEq,Prod.mk.injEq]at h;obtain⟨rfl,rfl,rfl⟩:=h
       simp only[ho]
       exact⟨hc.1,hc.2,e,he,z,hz,hl.1,hl.2.1,hl.2.2,e',hp,hK⟩
      ·cases h
     ·cases h
    ·cases h
   ·cases h
  ·cases h
 ·cases h
theorem jG{t:TypeId}{len:Nat}{parts:List (Nat×V)}(h:cZ P o fr t len parts=some (v,Δ,rd))(hK:K v Δ rd):dE P o fr t len parts K:=by
 unfold cZ at h
 unfold dE
 split at h
 ·rename_i e ht
  simp only[ht]
  split at h
  ·rename_i hc
   simp only[Option.some.injEq,Prod.mk.injEq]at h;obtain⟨rfl,rfl,rfl⟩:=h
   exact .inl ⟨hc.1,by simpa using hc.2.1,hc.2.2,hK⟩
  split at h
  ·rename_i hc
   refine .inr ?_
   split at h
   ·rename_i ds hd
    split at h
    ·rename_i hw
     simp only[Option.some.injEq,Prod.mk.injEq]at h;obtain⟨rfl,rfl,rfl⟩:=h
     refine⟨hc.1,hc.2.1,hc.2.2.1,hc.2.2.2.1,hc.2.2.2.2,ds,hd,fun x hx=> ?_,hK⟩
     simpa using List.all_eq_true.1 hw x hx
    ·cases h
   ·cases h
  ·cases h
 ·cases h
theorem kB{t:TypeId}{l c:V}(h:ft P fr t l c=some (v,Δ,rd))(hK:K v Δ rd):ea P fr t l c fun v Δ=>K v Δ []:=by
 unfold ft at h
 unfold ea
 split at h
 ·rename_i e ht
  split at h
  ·split at h
   ·rename_i hc
    split at h
    ·rename_i x hx
     simp only[Option.some.injEq,Prod.mk.injEq]at h;obtain⟨rfl,rfl,rfl⟩:=h
     simp only[ht]
     exact⟨hc.1,hc.2.1,hc.2.2.1,hc.2.2.2.1,hc.2.2.2.2,x,hx,hK⟩
    ·cases h
   ·cases h
  ·cases h
 ·cases h
theorem nN{ts:Array TypeId}{x y:V}(h:jc P o fr ts x y=some (v,Δ,rd))(hK:K v Δ rd):iw P o fr ts x y K:=by
 unfold jc at h
 unfold iw
 split at h
 ·rename_i t t' mh
  simp only[mh]
  split at h
  ·rename_i M7
   refine⟨M7, ?_⟩
   split at h
   ·rename_i e new om ht hl
    obtain⟨nw,rfl⟩:=qw hl
    simp only[ht]
    split at h
    ·rename_i hc
     refine⟨new,nw,hc.1,hc.2.1,fun z hz=>by simpa using List.all_eq_true.1 hc.2.2 z hz, ?_⟩
     split at h
     ·split at h
      ·rename_i p0
       simp only[Option.some.injEq,Prod.mk.injEq]at h;obtain⟨rfl,rfl,rfl⟩:=h
       exact⟨p0.1,p0.2,hK⟩
      ·cases h
     ·split at h
      ·rename_i tc
       refine⟨fun z hz=>by simpa using List.all_eq_true.1 tc z hz, ?_⟩
       split at h
       ·rename_i hn
        simp only[Option.some.injEq,Prod.mk.injEq]at h;obtain⟨rfl,rfl,rfl⟩:=h
        rw[if_pos hn];exact hK
       ·rename_i hn
        split at h
        ·rename_i p0
         simp only[Option.some.injEq,Prod.mk.injEq]at h;obtain⟨rfl,rfl,rfl⟩:=h
         rw[if_neg hn];exact⟨p0.1,p0.2,hK⟩
        ·cases h
      ·cases h
     ·split at h
      ·rename_i ho
       split at h
       ·rename_i p0
        simp only[Option.some.injEq,Prod.mk.injEq]at h;obtain⟨rfl,rfl,rfl⟩:=h
        simp only[ho]
        exact⟨p0.1,p0.2.1,p0.2.2.1,p0.2.2.2.1,p0.2.2.2.2,hK⟩
       ·cases h
      ·cases h
     ·cases h
    ·cases h
   ·cases h
  ·cases h
 ·cases h
theorem lz{x y:V}(h:dS o x=some y){K:V->Prop}(hK:K y):eR o x K:=by
 unfold dS at h
 unfold eR
 split at h
 ·obtain⟨h2,rfl⟩:=jF h;exact⟨h2,hK⟩
 ·exact tj
 ·exact tj
 ·cases h
theorem ui{op:UnOp}{x y:V}(h:Jh op x=some y){K:V->Prop}(hK:K y):Da op x K:=by
 unfold Jh at h
 unfold Da
 split at h
 ·injection h with h;subst h;simp only;rw[Int.zero_sub];exact hK
 ·exact tj
 ·cases h
theorem nm{m:Bool}{x y v:V}(h:jd m x y=some v){K:V->Prop}(hK:K v):gA m [x,y] K:=by
 unfold jd at h
 unfold gA
 split at h
 ·split at h
  ·exact yI
  ·cases h
 ·cases h
theorem pt{op:Op}(h:dw P s fr op=some (v,Δ,rd))(hK:K v Δ rd):xr P s fr op K:=by
 cases op<;>simp only[dw]at h<;>simp only[xr]<;>try (cases h;done)
 case move x=>have h:=eI h;simp only[Prod.mk.injEq]at h;obtain⟨rfl,rfl,rfl⟩:=h;exact hK
 case assign x=>have h:=eI h;simp only[Prod.mk.injEq]at h;obtain⟨rfl,rfl,rfl⟩:=h;exact hK
 case pick c a b=>
  obtain⟨x,h1,h⟩:=dO h;simp only[Prod.mk.injEq]at h;obtain⟨rfl,rfl,rfl⟩:=h
  exact qx h1 hK
 case alloc t=>
  split at h
  ·rename_i cs hz;simp only[Option.some.injEq,Prod.mk.injEq]at h;obtain⟨rfl,rfl,rfl⟩:=h;exact⟨cs,hz,hK⟩
  ·cases h
 case box t x=>
  split at h
  ·rename_i cs hz;simp only[Option.some.injEq,Prod.mk.injEq]at h;obtain⟨rfl,rfl,rfl⟩:=h;exact⟨cs,hz,hK⟩
  ·cases h
 case build t parts=>
  obtain⟨x,h1,h⟩:=dO h;simp only[Prod.mk.injEq]at h;obtain⟨rfl,rfl,rfl⟩:=h
  unfold nM at h1
  split at h1
  ·rename_i z pl hz hp
   split at h1
   ·rename_i cs hc;injection h1 with h1;subst h1;exact⟨z,pl,cs,hz,hp,hc,hK⟩
   ·cases h1
  ·cases h1
 case buildSlice t len parts=>exact jG h hK
 case load t x=>exact qy h hK
 case store t x y=>exact pq h hK
 case nilCheck x=>
  obtain⟨y,h1,h⟩:=dO h;simp only[Prod.mk.injEq]at h;obtain⟨rfl,rfl,rfl⟩:=h
  exact lz h1 hK
 case binOp op t x y yt=>
  unfold cK at h
  split at h
  ·rename_i z h1
   have h:=eI h;simp only[Prod.mk.injEq]at h;obtain⟨rfl,rfl,rfl⟩:=h
   exact .inl (sN h1 hK)
  ·right;simp only[h,bf];exact hK
 case unOp op t x=>
  obtain⟨z,h1,h⟩:=dO h;simp only[Prod.mk.injEq]at h;obtain⟨rfl,rfl,rfl⟩:=h
  unfold rZ at h1
  split at h1
  ·rename_i hx;injection h1 with h1;subst h1;exact .inr ⟨rfl,hx,hK⟩
  ·exact .inl (ui h1 hK)
 case slice t x lo hi mx=>simp only[h,bf];exact hK
 case field t x f=>
  exact Ih
 case typeAssert x xt t ok=>
  exact Ih
 case makeMap t r=>
  cases r with
  |none=>simp only[h,bf];exact hK
  |some x=>cases h
 case lookup t m k ok=>simp only[h,bf];exact hK
 case mapUpdate t m k v=>simp only[h,bf];exact hK
 case insert t m k v=>simp only[h,bf];exact hK
 case index t x i=>
  exact Ih
 case convert u t x=>
  split at h
  ·rename_i d k k' n hu hk hx
   have h:=eI h;simp only[Prod.mk.injEq]at h;obtain⟨rfl,rfl,rfl⟩:=h
   exact⟨by rw[hu];rfl,by simp only[hk,hx];exact hK⟩
  ·cases h
 case makeInterface t x=>
  obtain⟨z,h1,h⟩:=dO h;simp only[Prod.mk.injEq]at h;obtain⟨rfl,rfl,rfl⟩:=h
  obtain⟨h2,rfl⟩:=jF h1
  refine⟨?_, ?_⟩
  ·unfold lx at h2
   cases hd:P.underlying t with
   |none=>simp[hd]at h2
   |some d=>exact⟨d,rfl,by cases d<;>simp_all⟩
  ·split
   ·rename_i y hy;simp only[hy]at hK;exact hK
   ·rename_i hy
    split at hK
    ·rename_i y M8;exact absurd M8 (hy y)
    ·exact hK
 case makeFunc fn first cap=>have h:=eI h;simp only[Prod.mk.injEq]at h;obtain⟨rfl,rfl,rfl⟩:=h;exact hK
 case makeSlice t l c=>
  exact kB h hK
 case fieldAddr t x f=>
  obtain⟨z,h1,h⟩:=dO h;simp only[Prod.mk.injEq]at h;obtain⟨rfl,rfl,rfl⟩:=h
  exact kA h1 hK
 case indexAddr t x i=>
  exact kz h hK
 case extract x i=>
  split at h
  ·rename_i vs hv
   split at h
   ·rename_i u hu
    have h:=eI h;simp only[Prod.mk.injEq]at h;obtain⟨rfl,rfl,rfl⟩:=h
    simp only[hv];exact⟨_,hu,hK⟩
   ·cases h
  ·cases h
 case call c=>
  obtain⟨wa,args,ts⟩:=c
  cases wa<;>simp only at h|- <;>try (cases h;done)
  rename_i b
  unfold je at h
  unfold kZ
  split at h
  ·rename_i x ha
   simp only[ha]
   split at h
   ·rename_i t mh;exact⟨t,mh,sO h hK⟩
   ·cases h
  ·rename_i x y ha
   simp only[ha]
   split at h
   ·rename_i r hr
    simp only[Option.some.injEq]at h
    subst h
    exact .inl (by rw[hr];exact hK)
   ·exact .inr (nN h hK)
  ·rename_i x y ha
   exact CI
  ·rename_i x y ha
   exact CI
  ·rename_i x y z ha
   simp only[ha]
   obtain⟨v0,h1,h⟩:=dO h;simp only[Prod.mk.injEq]at h;obtain⟨rfl,rfl,rfl⟩:=h
   exact Co
  ·rename_i x y ha
   simp only[ha,h,bf];exact hK
  ·rename_i x y ha
   simp only[ha]
   split at h
   ·rename_i t ht;exact⟨t,ht,by simp only[h,bf];exact hK⟩
   ·cases h
  ·rename_i x ha
   simp only[ha,h,bf];exact hK
  ·cases h
 case range t x=>simp only[h,bf];exact hK
 case next x str=>left;simp only[h,bf];exact hK
 case entry x=>simp only[h,bf];exact hK
end
end
section
def mU(P:Program)(g:FuncId)(ds:List D)(o o1 oa:Nat->aa)(K:V->(Nat->aa)->Prop)(X:V->(Nat->aa)->Prop):Prop:=
 ∃out,bt P g ds out/\((match out with| .ret rs=>K (fE rs) o1| .aJ x=>X (.d x) o1)\/(out.flat=true/\match out with| .ret rs=>K (fE rs) o| .aJ x=>X (.d x) o)\/(out.fR=true/\match out with| .ret rs=>K (fE rs) oa| .aJ x=>X (.d x) oa))
def mV(P:Program)(g:FuncId)(args:List V)(o:Nat->aa)(nx:Nat)(K:V->(Nat->aa)->Nat->Prop)(X:V->(Nat->aa)->Nat->Prop):Prop:=jL P g args o nx K X
theorem jL.mono {P:Program}{g:FuncId}{args:List V}{o:Nat->aa}{nx:Nat}{K X K' X':V->(Nat->aa)->Nat->Prop}(hK:∀v o n,K v o n->K' v o n)(hX:∀v o n,X v o n->X' v o n)(h:jL P g args o nx K X):jL P g args o nx K' X':=
 h.imp (gI.mono hK hX) (gI.mono hK hX)
@[congr] theorem xM {P:Program} {g g':FuncId} {ds Dv:List D} {o o1 oa:Nat->aa} {K X} (h:g=g') (h':ds=Dv):mU P g ds o o1 oa K X=mU P g' Dv o o1 oa K X:=by subst h;subst h';rfl
@[congr] theorem xN {P:Program} {g g':FuncId} {aR DA:List V} {o:Nat->aa} {nx:Nat} {K X} (h:g=g') (h':aR=DA):mV P g aR o nx K X=mV P g' DA o nx K X:=by subst h;subst h';rfl
def xO(P:Program)(g:FuncId)(args:List V)(o:Nat->aa)(nx:Nat)(K X:V->(Nat->aa)->Nat->Prop):Prop:=
 (∃ds,aT o args=some ds/\mU P g ds o (put o (bH o (V.aC args))) (put o (kj o (V.aC args))) (fun v o'=>K v o' (nx+1)) (fun v o'=>X v o' (nx+1)))\/gI P g args o nx K X
def zm(P:Program)(s:S)(o:aP)(X:V->S->Prop)(K:S->Prop):Prop:=
 match o.op with
 | .call c=>match c.callee with
   | .value f=>match s.ev f with
     | .func (.func g) first cap=>match aT s.o (first++c.args.toList.map s.ev++cap)with
       |some ds=>mU P g ds s.o (put s.o (bH s.o (V.aC (first++c.args.toList.map s.ev++cap)))) (put s.o (kj s.o (V.aC (first++c.args.toList.map s.ev++cap)))) (fun v o'=>K ⟨az s.env o.dst v,o',s.nx+1⟩) (fun v o'=>X v ⟨s.env,o',s.nx+1⟩)\/
        mV P g (first++c.args.toList.map s.ev++cap) s.o s.nx (fun v o' nx'=>K ⟨az s.env o.dst v,o',nx'⟩) (fun v o' nx'=>X v ⟨s.env,o',nx'⟩)
       |none=>mV P g (first++c.args.toList.map s.ev++cap) s.o s.nx (fun v o' nx'=>K ⟨az s.env o.dst v,o',nx'⟩) (fun v o' nx'=>X v ⟨s.env,o',nx'⟩)
     | .jl id=>ee P id (c.args.toList.map s.ev) s.o s.nx (fun v o' nx'=>K ⟨az s.env o.dst v,o',nx'⟩) (fun v o' nx'=>X v ⟨s.env,o',nx'⟩)
     |_=>False
   | .invoke r m=>match lk P m (s.ev r)with
     |some (g,y)=>xO P g (y::c.args.toList.map s.ev) s.o s.nx (fun v o' nx'=>K ⟨az s.env o.dst v,o',nx'⟩) (fun v o' nx'=>X v ⟨s.env,o',nx'⟩)
     |none=>False
   |_=>match dw P s s.nx o.op with
    |some (v,Δ,_)=>K ⟨az s.env o.dst v,put s.o Δ,s.nx+1⟩
    |none=>False
 | .panic x=>match s.ev x with
   | .d (.iface t y)=>X (.d (.iface t y)) s
   | .iface t y=>X (.iface t y) s
   |_=>False
 | .next x str=>match iD s.o (s.ev x)with
   |some (id,l)=>str=false/\q8 id l fun v Δ _=>K ⟨az s.env o.dst v,put s.o Δ,s.nx+1⟩
   |none=>match dw P s s.nx o.op with
    |some (v,Δ,_)=>K ⟨az s.env o.dst v,put s.o Δ,s.nx+1⟩
    |none=>False
 |op=>match dw P s s.nx op with
  |some (v,Δ,_)=>K ⟨az s.env o.dst v,put s.o Δ,s.nx+1⟩
  |none=>False
def jH(P:Program)(X:V->S->Prop)(K:S->Prop):List aP->S->Prop
 |[],s=>K s
 |o::l,s=>match o.gd with
  |none=>zm P s o X (jH P X K l)
  |some (d,want)=>match s.env d with
   | .d (.bool b)=>if b=want then zm P s o X (jH P X K l)else jH P X K l ⟨az s.env o.dst (.a7 []),s.o,s.nx+1⟩
   | .a7 []=>jH P X K l ⟨az s.env o.dst (.a7 []),s.o,s.nx+1⟩
   |_=>False
def uj(b:Nat)(body:(dM->S->Prop)->S->Prop)(Q:dM->S->Prop)(s:S):Prop:=
 ∃ (J:Nat->S->Prop),(∃m s1,sE b s s1/\J m s1)/\∀m s0,J m s0->body (fun e s=>match e with| .normal=>∃m' s1,m'<m/\sE b s s1/\J m' s1|e=>Q e s) s0
@[congr] theorem xP {b:Nat} {body Q} {s s':S} (h:s=s'):uj b body Q s=uj b body Q s':=by subst h;rfl
def jf(t:Bool)(A B:Prop):Prop:=(t=true->A)/\(t=false->B)
@[congr] theorem xQ {t t':Bool} {A B:Prop} (h:t=t'):jf t A B=jf t' A B:=by subst h;rfl
@[simp] theorem lA (A B:Prop):jf true A B=A:=by simp[jf]
@[simp] theorem jZ (A B:Prop):jf false A B=B:=by simp[jf]
section
variable {P:Program}{n b:Nat}
theorem rv{s:S}{o:aP}{o':Oper}{X X':V->S->Prop}{K K':S->Prop}(dg:o'.op=o.op)(ba:o'.dst=o.dst)(hd:c9 n o'.dst)(hK:∀s,K s->K' s)(hX:∀v s,X v s->X' v s)(h:zm P s o X K):I4 P n s o' X' K':=by
 refine⟨hd, ?_⟩
 rw[ba,dg]
 unfold zm at h
 have hs:∀ {op:Op},(match dw P s s.nx op with|some (v,Δ,_)=>K ⟨az s.env o.dst v,put s.o Δ,s.nx+1⟩|none=>False)->xr P s s.nx op fun v Δ _=>K' ⟨az s.env o.dst v,put s.o Δ,s.nx+1⟩:=by
  intro op h
  split at h
  ·rename_i v Δ rd he;exact pt he (hK _ h)
  ·exact h.elim
 split at h
 ·rename_i c hc
  split at h
  ·rename_i f cE
   simp only[hc,cE]
   split at h
   ·rename_i g first cap hf
    unfold o6
    simp only[hf]
    unfold lj
    split at h
    ·rename_i ds dh
     rcases h with⟨out,hP,h|⟨jk,h⟩|⟨jk,h⟩⟩|h
     ·exact C0
     ·exact CX
     ·exact CT
     ·exact Cr
    ·exact Cr
   ·rename_i id hf
    unfold o6
    simp only[hf]
    exact ee.mono (fun v o n h=>hK _ h) (fun v o n h=>hX _ _ h) h
   ·exact h.elim
  ·rename_i r m cE
   simp only[hc,cE]
   split at h
   ·rename_i g y hr
    simp only[hr]
    unfold lj
    rcases h with⟨ds,dh,out,hP,h|⟨jk,h⟩|⟨jk,h⟩⟩|h
    ·exact C0
    ·exact CX
    ·exact CT
    ·exact .inr (.inr (.inr (.inl (gI.mono (fun v o n h=>hK _ h) (fun v o n h=>hX _ _ h) h))))
   ·exact h.elim
  ·rename_i cE hinv
   rw[hc]at h|-
   obtain⟨wa,args,ts⟩:=c
   cases wa with
   |value f=>exact absurd rfl (cE f)
   |invoke r m=>exact absurd rfl (hinv r m)
   |_=>exact hs h
 ·rename_i x hx
  simp only[hx]
  split at h
  ·rename_i hv;simp only[hv];exact hX _ _ h
  ·rename_i hv;simp only[hv];exact hX _ _ h
  ·exact h.elim
 ·rename_i x str hx
  rw[hx]at h|-
  split at h
  ·rename_i id l hl
   exact .inr ⟨h.1,id,l,hl,fun e=>hK _ (h.2.1 e),fun i k x e=>hK _ (h.2.2 i k x e)⟩
  ·exact hs h
 ·rename_i hc hp ou
  have h2:=hs h
  cases hh:o.op<;>first
   |exact absurd hh (hc _)
   |exact absurd hh (hp _)
   |exact absurd hh (ou _ _)
   |(rw[hh]at h2;exact h2)
theorem dT{ops:Array Oper}{X X':V->S->Prop}{K K':S->Prop}(hK:∀s,K s->K' s)(hX:∀v s,X v s->X' v s):∀ (l:List Oper) (l':List aP) (s:S),eN n ops l=some l'->jH P X K l' s->nE P n ops X' K' l s
 |[],l',s,h,hr=>by simp[eN]at h;subst h;exact hK _ hr
 |o::l,l',s,h,hr=>by
  simp only[eN]at h
  split at h
  ·rename_i x xs hx xy
   injection h with h;subst h
   unfold tp at hx
   split at hx
   ·rename_i hd
    have ba:c9 n o.dst:=by
     unfold p6 at hd;unfold c9
     split at hd<;>simp_all
    simp only[nE,nD]
    cases hg:o.guard with
    |none=>
     simp only[hg]at hx
     injection hx with hx;subst hx
     exact rv rfl rfl ba (fun s hs=>dT hK hX l xs s xy hs) hX hr
    |some p=>
     obtain⟨j,want⟩:=p
     simp only[hg]at hx
     cases xR:jM ops j with
     |none=>simp[xR]at hx
     |some d=>
      simp only[xR]at hx
      injection hx with hx;subst hx
      simp only
      simp only[jH]at hr
      split at hr
      ·rename_i t ht
       simp only[xR,ht]
       split at hr
       ·rename_i e
        exact⟨fun _=>rv rfl rfl ba (fun s hs=>dT hK hX l xs s xy hs) hX hr,fun h=>absurd e h⟩
       ·rename_i e
        exact⟨fun h=>absurd h e,fun _=>⟨ba,dT hK hX l xs _ xy hr⟩⟩
      ·rename_i ht
       simp only[xR,ht]
       exact⟨ba,dT hK hX l xs _ xy hr⟩
      ·exact hr.elim
   ·cases hx
  ·cases h
end
end
section
mutual
def V.refs:V->List Nat
 | .ptr id _=>[id]| .osl id _=>[id]| .pe id _ _ _ _=>[id]| .oo id _ _=>[id]| .mp id=>[id]| .jl id=>[id]
 | .agg cs=>V.bp cs
 | .a7 cs=>V.bp cs
 | .func _ a b=>V.bp a++V.bp b
 | .iface _ x=>x.refs
 |_=>[]
def V.bp:List V->List Nat
 |[]=>[]
 |v::vs=>v.refs++V.bp vs
end
mutual
theorem ef:∀ (v:V),∀id∈v.ids,id∈v.refs
 | .osl id _,j,h=>by simpa[V.ids,V.refs]using h
 | .agg cs,j,h=>by simp only[V.ids]at h;simp only[V.refs];exact eZ cs j h
 | .iface _ x,j,h=>by simp only[V.ids]at h;simp only[V.refs];exact ef x j h
 | .mp _,j,h=>by simpa[V.ids,V.refs]using h
 | .d _,_,h| .cG,_,h| .a7 _,_,h| .ptr _ _,_,h| .pe _ _ _ _ _,_,h| .pp _ _,_,h| .func _ _ _,_,h| .bT,_,h| .jN _,_,h| .oo _ _ _,_,h| .c7,_,h| .jl _,_,h=>by simp[V.ids]at h
theorem eZ:∀ (vs:List V),∀id∈V.aC vs,id∈V.bp vs
 |[],j,h=>by simp[V.aC]at h
 |v::vs,j,h=>by
  simp only[V.aC,V.bp,List.mem_append]at h|-
  exact h.imp (ef v j) (eZ vs j)
end
mutual
theorem bu{o o':Nat->aa}:∀ (v:V),(∀id∈v.refs,o' id=o id)->cN o' v=cN o v
 | .osl id ep,h=>by simp only[cN,h id (by simp[V.refs])]
 | .mp id,h=>by simp only[cN,h id (by simp[V.refs])]
 | .agg cs,h=>by simp only[cN,dx cs (by simpa[V.refs]using h)]
 | .iface t x,h=>by simp only[cN,bu x (by simpa[V.refs]using h)]
 | .d _,_| .cG,_| .a7 _,_| .ptr _ _,_| .pe _ _ _ _ _,_| .pp _ _,_| .func _ _ _,_| .bT,_| .jN _,_| .oo _ _ _,_| .c7,_| .jl _,_=>by simp only[cN]
theorem dx{o o':Nat->aa}:∀ (vs:List V),(∀id∈V.bp vs,o' id=o id)->aT o' vs=aT o vs
 |[],_=>rfl
 |v::vs,h=>by
  simp only[aT,bu v (fun id aj=>h id (by simp[V.bp,aj])),dx vs (fun id aj=>h id (by simp[V.bp,aj]))]
end
theorem dq{o o':Nat->aa}{ids:List Nat}(h:∀id∈ids,o' id=o id):bH o' ids=bH o ids:=by
 rw[fg,fg]
 exact List.map_congr_left fun id aj=>by rw[h id aj]
def gK(s:S)(op:Op):List Nat:=
 match op with
 | .load _ x=>(s.ev x).refs
 | .nilCheck x=>(s.ev x).refs
 | .fieldAddr _ x _=>(s.ev x).refs
 | .indexAddr _ x _=>(s.ev x).refs
 | .store _ x v=>(s.ev x).refs++(s.ev v).refs
 | .buildSlice _ _ parts=>V.bp (parts.toList.map fun p=>s.ev p.2)
 | .binOp _ _ x y _=>(s.ev x).refs++(s.ev y).refs
 | .slice _ x _ _ _=>(s.ev x).refs
 | .lookup _ m k _=>(s.ev m).refs++(s.ev k).refs
 | .mapUpdate _ m k v=>(s.ev m).refs++((s.ev k).refs++(s.ev v).refs)
 | .insert _ m k v=>(s.ev m).refs++((s.ev k).refs++(s.ev v).refs)
 | .range _ x=>(s.ev x).refs
 | .next x _=>(s.ev x).refs
 | .entry x=>(s.ev x).refs
 | .call c=>match c.callee with
   | .builtin _=>V.bp (c.args.toList.map s.ev)
   | .value f=>match s.ev f with
     | .func _ first cap=>V.bp (first++c.args.toList.map s.ev++cap)
     |_=>[]
   |_=>[]
 |_=>[]
section
variable {P:Program}{s s':S}{fr:Nat}
theorem j5{o o':Nat->aa}(v:V)(h:∀id∈v.refs,o' id=o id):jb o' v=jb o v:=by
 cases v with
 |osl id ep=>simp only[jb,h id (by simp[V.refs])]
 |d x=>cases x<;>rfl
 |_=>rfl
theorem j6{o o':Nat->aa}(v:V)(q:Nat)(h:∀id∈v.refs,o' id=o id):gO o' v q=gO o v q:=by
 cases v<;>simp only[gO]<;>rw[h _ (by simp[V.refs])]
theorem qz{o o':Nat->aa}(v:V)(h:∀id∈v.refs,o' id=o id):oG o' v=oG o v:=by
 have h1:cz o' v=cz o v:=by unfold cz;rw[bu v h]
 cases v<;>first|rfl|simp only[oG,h1]
theorem nO{o o':Nat->aa}(v:V)(h:∀id∈v.refs,o' id=o id):jv o' v=jv o v:=by
 cases v with
 |mp id=>simp only[jv,h id (by simp[V.refs])]
 |d x=>cases x<;>rfl
 |_=>rfl
theorem nP{o o':Nat->aa}(v:V)(h:∀id∈v.refs,o' id=o id):jw o' v=jw o v:=by
 cases v with
 |ptr id off=>simp only[jw,h id (by simp[V.refs])]
 |d x=>cases x<;>rfl
 |_=>rfl
theorem fY{o o':Nat->aa}(v:V)(h:∀id∈v.refs,o' id=o id):kY o' v=kY o v:=by
 cases v with
 |mp id=>simp only[kY,h id (by simp[V.refs])]
 |d x=>cases x<;>rfl
 |_=>rfl
theorem pv{o o':Nat->aa}(v:V)(h:∀id∈v.refs,o' id=o id):mq o' v=mq o v:=by
 cases v with
 |mp id=>simp only[mq,h id (by simp[V.refs])]
 |d x=>cases x<;>rfl
 |_=>rfl
theorem pw{o o':Nat->aa}(v:V)(str:Bool)(h:∀id∈v.refs,o' id=o id):iC o' v str=iC o v str:=by
 cases v with
 |ptr id off=>cases off<;>simp only[iC,h id (by simp[V.refs])]
 |_=>rfl
theorem nQ{o o':Nat->aa}(v:V)(h:∀id∈v.refs,o' id=o id):gZ o' v=gZ o v:=by
 cases v with
 |ptr id off=>cases off<;>simp only[gZ,h id (by simp[V.refs])]
 |_=>rfl
theorem nR{o o':Nat->aa}{fr:Nat}{t:TypeId}{P:Program}(v:V)(h:∀id∈v.refs,o' id=o id):gY P o' fr t v=gY P o fr t v:=by
 unfold gY
 cases v with
 |mp id=>simp only[h id (by simp[V.refs])]
 |d x=>cases x<;>rfl
 |_=>rfl
theorem nS{o o':Nat->aa}(v:V)(h:∀id∈v.refs,o' id=o id):gW o' v=gW o v:=by
 cases v with
 |ptr id off=>simp only[gW,h id (by simp[V.refs])]
 |_=>rfl
theorem nT{o o':Nat->aa}(v:V)(h:∀id∈v.refs,o' id=o id):gX o' v=gX o v:=by
 cases v with
 |oo id off n=>simp only[gX,h id (by simp[V.refs])]
 |_=>rfl
theorem qA(op:Op)(hv:∀x∈op.operands,s'.ev x=s.ev x)(ho:∀id∈gK s op,s'.o id=s.o id):dw P s' fr op=dw P s fr op:=by
 cases op<;>simp only[dw]
 case move x=>rw[hv x (by simp[Op.operands])]
 case assign x=>rw[hv x (by simp[Op.operands])]
 case pick c a b=>rw[hv c (by simp[Op.operands]),hv a (by simp[Op.operands]),hv b (by simp[Op.operands])]
 case box t x=>rw[hv x (by simp[Op.operands])]
 case build t parts=>
  have:(parts.toList.map fun p=>(p.1,s'.ev p.2))=parts.toList.map fun p=>(p.1,s.ev p.2):=
   List.map_congr_left fun p hp=>by rw[hv p.2 (by simp only[Op.operands];simp;exact⟨p.1,by simpa using hp⟩)]
  rw[this]
 case buildSlice t len parts=>
  have:(parts.toList.map fun p=>(p.1,s'.ev p.2))=parts.toList.map fun p=>(p.1,s.ev p.2):=
   List.map_congr_left fun p hp=>by rw[hv p.2 (by simp only[Op.operands];simp;exact⟨p.1,by simpa using hp⟩)]
  rw[this]
  have e:(parts.toList.map fun p=>(p.1,s.ev p.2)).map (·.2)=parts.toList.map fun p=>s.ev p.2:=by simp[Function.comp_def]
  have h1:aT s'.o ((parts.toList.map fun p=>(p.1,s.ev p.2)).map (·.2))=aT s.o ((parts.toList.map fun p=>(p.1,s.ev p.2)).map (·.2)):=dx _ (by rw[e];exact ho)
  have h2:bH s'.o (V.aC ((parts.toList.map fun p=>(p.1,s.ev p.2)).map (·.2)))=bH s.o (V.aC ((parts.toList.map fun p=>(p.1,s.ev p.2)).map (·.2))):=
   dq fun id aj=>ho id (by rw[e]at aj;exact eZ _ id aj)
  simp only[cZ,h1,h2]
 case load t x=>
  rw[hv x (by simp[Op.operands])]
  cases hx:s.ev x<;>simp only[fX]<;>rw[ho _ (by simp[gK,hx,V.refs])]
 case store t x y=>
  rw[hv x (by simp[Op.operands]),hv y (by simp[Op.operands])]
  have h1:cN s'.o (s.ev y)=cN s.o (s.ev y):=bu _ fun id aj=>ho id gR
  have h2:bH s'.o (s.ev y).ids=bH s.o (s.ev y).ids:=dq fun id aj=>ho id (by simp[gK,ef _ _ aj])
  cases hx:s.ev x<;>simp only[jE]<;>rw[ho _ (by simp[gK,hx,V.refs])]
  simp only[h1,h2]
 case nilCheck x=>
  rw[hv x (by simp[Op.operands])]
  cases hx:s.ev x with
  |ptr id off=>simp only[dS];rw[ho _ (by simp[gK,hx,V.refs])]
  |func fn a b=>cases fn<;>rfl
  |_=>rfl
 case binOp op t x y yt=>
  rw[hv x (by simp[Op.operands]),hv y (by simp[Op.operands])]
  have h1:oG s'.o (s.ev x)=oG s.o (s.ev x):=qz _ fun id aj=>ho id gR
  have h2:∀a b,y8 P s'.o a b (s.ev x) (s.ev y)=y8 P s.o a b (s.ev x) (s.ev y):=fun a b=>by
   have h3:∀id∈(s.ev x).refs,s'.o id=s.o id:=fun id aj=>ho id gR
   have h4:=nO (s.ev x) h3
   have h5:=nP (s.ev x) h3
   unfold y8
   rw[h1,h4,h5]
  unfold cK jx
  simp only[h2]
 case slice t x lo hi mx=>
  rw[hv x (by simp[Op.operands])]
  have e1:lo.map s'.ev=lo.map s.ev:=by cases lo<;>simp[hv,Op.operands]
  have e2:hi.map s'.ev=hi.map s.ev:=by cases hi<;>simp[hv,Op.operands]
  have e3:mx.map s'.ev=mx.map s.ev:=by cases mx<;>simp[hv,Op.operands]
  rw[e1,e2,e3]
  have h3:∀id∈(s.ev x).refs,s'.o id=s.o id:=fun id aj=>ho id gR
  have h1:cz s'.o (s.ev x)=cz s.o (s.ev x):=by unfold cz;rw[bu _ h3]
  have h2:bH s'.o (s.ev x).ids=bH s.o (s.ev x).ids:=dq fun id aj=>h3 id (ef _ _ aj)
  have h4:p9 P s'.o t (s.ev x) (lo.map s.ev) (hi.map s.ev) (mx.map s.ev)=p9 P s.o t (s.ev x) (lo.map s.ev) (hi.map s.ev) (mx.map s.ev):=by
   cases hx:s.ev x with
   |osl id ep=>simp only[p9,h3 id (by simp[hx,V.refs])]
   |_=>rfl
  unfold ju iy
  simp only[h1,h2,h4,nS _ h3]
 case field t x f=>rw[hv x (by simp[Op.operands])]
 case typeAssert x xt t ok=>rw[hv x (by simp[Op.operands])]
 case makeMap t r=>cases r<;>rfl
 case lookup t m k ok=>
  rw[hv m (by simp[Op.operands]),hv k (by simp[Op.operands])]
  have h3:∀id∈(s.ev m).refs,s'.o id=s.o id:=fun id aj=>ho id gR
  have h1:cN s'.o (s.ev k)=cN s.o (s.ev k):=bu _ fun id aj=>ho id gR
  unfold iA
  simp only[h1,pv _ h3]
 case mapUpdate t m k v=>
  rw[hv m (by simp[Op.operands]),hv k (by simp[Op.operands]),hv v (by simp[Op.operands])]
  have h3:∀id∈(s.ev m).refs,s'.o id=s.o id:=fun id aj=>ho id gR
  have h1:cN s'.o (s.ev k)=cN s.o (s.ev k):=bu _ fun id aj=>ho id gR
  have h2:cN s'.o (s.ev v)=cN s.o (s.ev v):=bu _ fun id aj=>ho id gR
  have h4:bH s'.o (s.ev v).ids=bH s.o (s.ev v).ids:=dq fun id aj=>ho id (by simp[gK,ef _ _ aj])
  unfold eu
  simp only[h1,h2,h4,fY _ h3]
 case insert t m k v=>
  rw[hv m (by simp[Op.operands]),hv k (by simp[Op.operands]),hv v (by simp[Op.operands])]
  have h3:∀id∈(s.ev m).refs,s'.o id=s.o id:=fun id aj=>ho id gR
  have h1:cN s'.o (s.ev k)=cN s.o (s.ev k):=bu _ fun id aj=>ho id gR
  have h2:cN s'.o (s.ev v)=cN s.o (s.ev v):=bu _ fun id aj=>ho id gR
  have h4:bH s'.o (s.ev v).ids=bH s.o (s.ev v).ids:=dq fun id aj=>ho id (by simp[gK,ef _ _ aj])
  unfold eu
  simp only[h1,h2,h4,fY _ h3]
 case index t x i=>rw[hv x (by simp[Op.operands]),hv i (by simp[Op.operands])]
 case range t x=>
  rw[hv x (by simp[Op.operands])]
  exact nR _ fun id aj=>ho id gR
 case next x str=>
  rw[hv x (by simp[Op.operands])]
  exact pw _ _ fun id aj=>ho id gR
 case entry x=>
  rw[hv x (by simp[Op.operands])]
  exact nQ _ fun id aj=>ho id gR
 case unOp op t x=>rw[hv x (by simp[Op.operands])]
 case convert u t x=>rw[hv x (by simp[Op.operands])]
 case makeInterface t x=>rw[hv x (by simp[Op.operands])]
 case makeFunc fn first cap=>
  have h1:first.toList.map s'.ev=first.toList.map s.ev:=List.map_congr_left fun x hx=>hv x (by simp only[Op.operands];exact Array.mem_append.2 (.inl (Array.mem_toList_iff.1 hx)))
  have h2:cap.toList.map s'.ev=cap.toList.map s.ev:=List.map_congr_left fun x hx=>hv x (by simp only[Op.operands];exact Array.mem_append.2 (.inr (Array.mem_toList_iff.1 hx)))
  rw[h1,h2]
 case makeSlice t l c=>rw[hv l (by simp[Op.operands]),hv c (by simp[Op.operands])]
 case fieldAddr t x f=>
  rw[hv x (by simp[Op.operands])]
  simp only[dv]
  cases gV P t f<;>simp only
  rw[j6 _ _ (by simpa[gK]using ho)]
 case indexAddr t x i=>
  rw[hv x (by simp[Op.operands]),hv i (by simp[Op.operands])]
  have h1:∀q,gO s'.o (s.ev x) q=gO s.o (s.ev x) q:=fun q=>j6 _ _ (by simpa[gK]using ho)
  simp only[du,h1]
  cases hx:s.ev x with
  |osl id ep=>simp only[ho id (by simp[gK,hx,V.refs])]
  |d y=>cases y<;>rfl
  |_=>rfl
 case extract x i=>rw[hv x (by simp[Op.operands])]
 case call c=>
  obtain⟨wa,args,ts⟩:=c
  cases wa<;>simp only
  rename_i b
  unfold je
  have hm:∀x∈args.toList,s'.ev x=s.ev x:=fun x hx=>hv x Cn
  have hr:∀x∈args.toList,∀id∈(s.ev x).refs,s'.o id=s.o id:=by
   intro x hx id aj
   refine ho id ?_
   simp only[gK]
   generalize args.toList=l at hx
   induction l with
   |nil=>cases hx
   |cons y l ih=>
    simp only[List.map_cons,V.bp,List.mem_append]
    rcases List.mem_cons.1 hx with rfl|hx
    ·exact .inl aj
    ·exact .inr (ih hx)
  split
  ·rename_i x ha
   rw[ha]at hm hr
   rw[hm x (by simp)]
   have h1:∀t,qv P t s'.o (s.ev x)=qv P t s.o (s.ev x):=fun t=>by simp only[qv,j5 _ (hr x (by simp))]
   simp only[h1]
  ·rename_i x y ha
   rw[ha]at hm hr
   rw[hm x (by simp),hm y (by simp)]
   simp only[jc,j5 _ (hr y (by simp))]
   cases mu P fr ts (s.ev x) (s.ev y)with
   |some r=>rfl
   |none=>
   dsimp only
   cases hx:s.ev x with
   |osl id ep=>simp only[hr x (by simp) id (by simp[hx,V.refs])]
   |_=>rfl
  ·rename_i x y ha
   rw[ha]at hm
   rw[hm x (by simp),hm y (by simp)]
  ·rename_i x y ha
   rw[ha]at hm
   rw[hm x (by simp),hm y (by simp)]
  ·rename_i x y z h;rw[hm x (by rw[h];simp),hm y (by rw[h];simp),hm z (by rw[h];simp)]
  ·rename_i x y ha
   rw[ha]at hm hr
   rw[hm x (by simp),hm y (by simp)]
   have h1:cz s'.o (s.ev y)=cz s.o (s.ev y):=by unfold cz;rw[bu _ (hr y (by simp))]
   have h2:bH s'.o (s.ev y).ids=bH s.o (s.ev y).ids:=dq fun id aj=>hr y aU id (ef _ _ aj)
   unfold mo
   simp only[h1,h2,nT _ (hr x (by simp))]
  ·rename_i x y ha
   rw[ha]at hm hr
   rw[hm x (by simp),hm y (by simp)]
   have h1:cN s'.o (s.ev y)=cN s.o (s.ev y):=bu _ (hr y aU)
   have h2:=fY _ (hr x aU)
   simp only[iE,h1,h2]
  ·rename_i x ha
   rw[ha]at hm
   rw[hm x (by simp)]
  ·rfl
end
end
end Go.Proofs.YtlhemmpklhhgoaaGreat
