/-
  A PART OF THE PROOF. Conditions: none.
-/
import Derived.Test.YtlhemmpklhhgoaaGreatQo6
set_option linter.unusedSimpArgs false
set_option linter.unusedVariables false
namespace Go.Proofs.YtlhemmpklhhgoaaGreat
section
section
variable {P:Program}{M:Nat->Prop}{φ:Place}{H:Hp}{w w':World}{cP:Place}{H0:Hp}{w0:World}{n b:Nat}{s:S}{a:Act}{cx:Cx}{ro:Option Nat}{k:Nat}
theorem iF(hb:∀id,H0.us id->id<b)(uM:cx.rd=false->ro=none):∀ (c:Code) (Q:fK->S->Prop) (s:S) (φ:Place) (a:Act) (w:World),jo P n b cx.rd c Q s->cn M cP H0 w0 n cx φ s a w->c.uu P ro (G3 M cP H0 w0 n cx Q) a w:=by
 intro c
 induction c with
 |skip=>exact fun Q s φ a w h hs=>pP (k:=0) (wpIn_skip ⟨.normal,s,φ,h,hs,trivial⟩)
 |scope x ih=>exact fun Q s φ a w h hs=>yO (ih Q s φ a w h hs) (fun l a w ⟨xx,s',aH,hq,jR,hm⟩=>by cases xx<;>exact hm)
 |label l=>exact fun Q s φ a w h hs=>pP (k:=0) (wpIn_label ⟨.normal,s,φ,h,hs,trivial⟩)
 |exit id=>exact fun Q s φ a w h hs=>CE ⟨.exit id,s,φ,h,hs,rfl⟩
 |ret=>exact fun Q s φ a w h hs=>G4 ⟨.ret,s,φ,h,hs,trivial⟩
 |goto l=>exact fun Q s φ a w h hs=>h.elim
 |refuse y=>exact fun Q s φ a w h hs=>h.elim
 |rangeFunc g ps x y=>
  intro Q s φ a w h hs
  obtain⟨h1,s',hle,h2⟩:=h
  rcases hle with rfl|hle
  ·exact yR hs h1 (uM h1) h2
  ·obtain⟨aH,jR⟩:=E3 hb hs hle
   exact yR jR h1 (uM h1) h2
 |region id ops draw=>
  intro Q s φ a w h hs
  cases draw with
  |true=>exact pP (h M cP H0 w0 cx φ a w ro 0 hs)
  |false=>
   refine pP (k:=0) (wpIn_region_list (pO (K:=Q .normal) (X:=fun v s=>Q (.bN v) s) (fun s φ a w hk hs=>⟨.normal,s,φ,hk,hs,trivial⟩) (fun v s φ a w val hx hs hd=>⟨.bN v,s,φ,hx,hs,val,rfl,hd⟩) _ s φ a w h hs))
 |seq x y Qa Qb=>
  intro Q s φ a w h hs
  refine Au (gW (Qa _ s φ a w h hs) ?_)
  rintro e a' w' ⟨xx,s',aH,hq,jR,hm⟩
  cases e<;>cases xx<;>first|(exact hm.elim)|skip
  ·exact Qb Q s' aH a' w' hq jR
  ·subst hm;exact⟨_,s',aH,hq,jR,rfl⟩
  ·exact Ls
  ·exact Lx
 |cond c x y Qa Qb=>
  intro Q s φ a w h hs
  simp only[jo]at h
  have hc:=nk (M:=M) (φ:=φ) (H:=s.H) (w:=w) s a hs.env c
  split at h
  ·rename_i t hv
   rw[hv]at hc
   simp only[V.den,D.den]at hc
   cases t with
   |true=>exact qR hc (Qa Q s φ a w (h.1 rfl) hs)
   |false=>exact qR hc (Qb Q s φ a w (h.2 rfl) hs)
  ·rename_i hv
   rw[hv]at hc
   obtain⟨t,hc⟩:=hc
   cases t with
   |true=>exact qR hc (Qa Q s φ a w h.1 hs)
   |false=>exact qR hc (Qb Q s φ a w h.2 hs)
  ·exact h.elim
 |block id x ih=>
  intro Q s φ a w h hs
  refine Js (gW (ih _ s φ a w h hs) ?_)
  rintro e a' w' ⟨xx,s',aH,hq,jR,hm⟩
  cases e<;>cases xx<;>first|(exact hm.elim)|skip
  ·exact⟨.normal,s',aH,hq,jR,trivial⟩
  ·subst hm
   simp only[Exit.inBlock]
   simp only[fL]at hq
   split
   ·rename_i he;rw[if_pos he]at hq;exact⟨.normal,s',aH,hq,jR,trivial⟩
   ·rename_i he;rw[if_neg he]at hq;exact⟨.exit _,s',aH,hq,jR,rfl⟩
  ·exact Ls
  ·exact Lx
 |loop x ih=>
  intro Q s φ a w h hs
  obtain⟨J,⟨m0,s1,hle,hI⟩,vR⟩:=h
  obtain⟨jd,r9⟩:=E3 hb hs hle
  refine Av (fun m a w=>∃s φ,J m s/\cn M cP H0 w0 n cx φ s a w) ?_ m0 a w ⟨s1,jd,hI,r9⟩
  rintro m a w ⟨s,φ,hI,hs⟩
  refine gW (ih _ s φ a w (vR m s hI) hs) ?_
  rintro e a' w' ⟨xx,s',aH,hq,jR,hm⟩
  cases e<;>cases xx<;>first|(exact hm.elim)|skip
  ·obtain⟨m2,s2,cq,Mj,hI2⟩:=hq
   obtain⟨Jt,G6⟩:=E3 hb jR Mj
   exact⟨m2,cq,s2,Jt,hI2,G6⟩
  ·subst hm;exact⟨_,s',aH,hq,jR,rfl⟩
  ·exact Ls
  ·exact Lx
def Mk(tmps:Array Value)(r:ResultVar):Sem Value:=
 match r with
 | .tmp t=>pure (tmps.getD t undef)
 | .cell p t=>do loadVar t (<- asAddr (tmps.getD p undef))
theorem uN(qT:aA M φ s.H w)(eD:∀i,V.den (ao M φ s.H) φ s.H w (s.env i) (a.tmps.getD i undef)):∀ (rs:List ResultVar) (vs:List V),mm P s rs=some vs->
 ∃vals,(rs.mapM (Mk a.tmps)).run P w= .ok vals w/\V.aF (ao M φ s.H) φ s.H w vs vals
 |[],vs,h=>by simp[mm]at h;subst h;exact⟨[],aE,rfl⟩
 | .tmp t::rs,vs,h=>by
   simp only[mm,Option.map_eq_some_iff]at h
   obtain⟨us,h1,rfl⟩:=h
   obtain⟨vals,h2,h3⟩:=uN qT eD rs us h1
   exact⟨a.tmps.getD t undef::vals,by simp only[List.mapM_cons,Mk,Sem.run_bind,Sem.run_pure,Result.andThen_ok,h2],_,_,rfl,eD t,h3⟩
 | .cell p t::rs,vs,h=>by
   simp only[mm]at h
   split at h
   ·rename_i id off hv
    split at h
    ·rename_i cs ho
     simp only[Option.bind_eq_some_iff,Option.map_eq_some_iff]at h
     obtain⟨v,h0,us,h1,rfl⟩:=h
     obtain⟨vals,h2,h3⟩:=uN qT eD rs us h1
     have hx:=eD p
     rw[hv]at hx
     obtain⟨_,hu,hp⟩:=hx
     obtain⟨k,eT,fS⟩:=hp (by show(s.o id).cA=true;rw[ho];rfl)
     have aY:=qT.ok id
     have yc:s.H.o id= .row cs:=ho
     simp only[aS,yc]at aY
     obtain⟨b',ed,ty,g1,g2,g3,g4⟩:=aY
     rw[eT]at g1;simp at g1;subst g1
     obtain⟨val,h4,h5⟩:=qD (P:=P) h0 ⟨k,0,none⟩ ed.toList g3 g4 (fun j u hj=>qE g2 j u m8) rfl
     rw[add_plain,Nat.zero_add]at h4
     have h6:(loadVar t ⟨k,off,none⟩).run P w= .ok val w:=by simpa[Instr.loadAt,Instr.sureAddr]using h4
     exact⟨val::vals,by simp only[List.mapM_cons,Mk,fS,asAddr,Sem.run_bind,Sem.run_pure,Result.andThen_ok,h6,h2],val,vals,rfl,h5,h3⟩
    ·cases h
   ·cases h
theorem nA{fn:Func}{tmps:Array Value}{vals:List Value}
 (h:(fn.results.toList.mapM (Mk tmps)).run P w= .ok vals w):
 (results fn tmps).run P w= .ok (if h:vals.toArray.size=1 then vals.toArray[0]else .tuple vals.toArray) w:=by
 have e:results fn tmps=(do let vs <- fn.results.mapM (Mk tmps);pure (if h:vs.size=1 then vs[0]else .tuple vs)):=by
  unfold results
  congr 2
 rw[e,Array.mapM_eq_mapM_toList]
 simp only[Sem.run_bind,Sem.run_map,h,Result.andThen_ok,Sem.run_pure]
theorem oD{us:Nat->Prop}(φ:Place)(hM:∀k,M k->k<w.heap.size):aA M φ ⟨fun _=> .no,us⟩ w where
 ok id:=by simp[aS]
 fresh _ _:=rfl
 apart i j k hi:=by simp[ad.live]at hi
 ours k:=by rintro⟨id,h,_⟩;simp[ad.live]at h
 BD:=hM
theorem Ju{vals:Array Value}{m i:Nat}:(vals++Array.replicate m undef).getD i undef=(vals[i]?).getD undef:=by
 simp only[Array.getD_eq_getD_getElem?,Array.getElem?_append]
 split
 ·rfl
 ·rw[Array.getElem?_eq_none (xs:=vals) (by omega)]
  simp only[Array.getElem?_replicate]
  split<;>rfl
structure Aw (M:Nat->Prop) (cP:Place) (H0:Hp) (w0:World) (φ:Place) (s:S) (tmps:Array Value) (w:World):Prop where
 heap:aA M φ s.H w
 tr:Trans cP H0 w0 φ s.H w
 env:∀i,V.den (ao M φ s.H) φ s.H w (s.env i) (tmps.getD i undef)
theorem Jv{tmps:Array Value}(hs:Aw M cP H0 w0 φ s tmps w){r:Nat}(h1:w0.heap.size<=r)(h2:w.heap[r]? =some (.deferred (some [])))(h3: ¬cI φ s.H r):
 Aw M cP H0 w0 φ s tmps {w with heap:=w.heap.setIfInBounds r (.deferred none)}:=by
 have iu:∀b,b≠r->(w.heap.setIfInBounds r (.deferred none))[b]? =w.heap[b]? :=fun b hb=>(MapKept.heap_set h2).2 b hb
 have rY:∀b,dc w b-> ¬ao M φ s.H b->(w.heap.setIfInBounds r (.deferred none))[b]? =w.heap[b]? /\ ¬ao M φ s.H b:=by
  intro b hc hn
  refine⟨iu b fun e=> ?_,hn⟩
  subst e
  rcases hc with⟨cs,ty,fz,hc⟩|⟨es,clock,hc⟩
  ·rw[h2]at hc;cases hc
  ·rw[h2]at hc;cases hc
 refine⟨⟨fun id=> ?_,hs.heap.fresh,hs.heap.apart,fun b hb=>⟨(hs.heap.ours b hb).1,by simpa using(hs.heap.ours b hb).2⟩,fun b hb=>by simpa using hs.heap.BD b hb⟩,⟨⟨hs.tr.cL.os,hs.tr.cL.tape,hs.tr.cL.output,by simpa using hs.tr.cL.size,fun j hj hm=> ?_⟩,hs.tr.grow,hs.tr.rel⟩,fun i=>V.lI rY (ef.refl _ _) _ _ (hs.env i)⟩
 ·exact aS.Cc rY (ef.refl _ _) rfl rfl (fun hl b hb=>iu b fun e=>h3 ⟨id,hl,e ▸ hb⟩) (hs.heap.ok id)
 ·rw[iu j (by omega)];exact hs.tr.cL.block j hj hm
theorem gX{fn:Func}{R:Ending->World->Prop}{u:FrameMode}(hu:u≠ .run){tmps tb:Array Value}{ds:List Deferred}(hR:∀w,Aw M cP H0 w0 φ s tb w->LeavesInM (dW none) k P fn tmps R ds u w):
 ∀ (ms:List Nat) (w:World),ms.Nodup->(∀r∈ms,w0.heap.size<=r/\w.heap[r]? =some (.deferred (some []))/\ ¬cI φ s.H r)->Aw M cP H0 w0 φ s tb w->LeavesInM (dW none) k P fn tmps R (ms.map mark++ds) u w
 |[],w,_,_,hs=>hR w hs
 |r::ms,w,hn,hm,hs=>by
  obtain⟨h1,h2,h3⟩:=hm r aE
  obtain⟨KK,KA⟩:=List.nodup_cons.1 hn
  refine⟨hu, .inl ⟨r,{w with heap:=w.heap.setIfInBounds r (.deferred none)},rfl, ?_,gX hu hR ms _ KA (fun r' Jn=> ?_) (Jv hs h1 h2 h3)⟩⟩
  ·simp[Instr.takeDeferred,getObj,setObj,Sem.run,h2,Result.andThen]
  ·obtain⟨g1,g2,g3⟩:=hm r' (by simp[Jn])
   exact⟨g1,((MapKept.heap_set h2).2 r' (fun e=>KK (e ▸ Jn))).trans g2,g3⟩
theorem cn.toB (hs:cn M cP H0 w0 n cx φ s a w):Aw M cP H0 w0 φ s a.tmps w:=⟨hs.heap,hs.tr,hs.env⟩
def mo(P:Program)(rs:List ResultVar)(K X:V->(Nat->ad)->Nat->Prop)(e:fK)(s:S):Prop:=
 match e with
 | .normal| .ret=>match mm P s rs with
   |some [v]=>K v s.o s.nx
   |some vs=>K (.bY vs) s.o s.nx
   |none=>False
 | .bN v=>X v s.o s.nx
 | .exit _=>False
theorem CH{P:Program}{rs:List ResultVar}{K X:V->(Nat->ad)->Nat->Prop}{s:S}(h:mo P rs K X .ret s):∃vs,mm P s rs=some vs/\K (match vs with|[v]=>v|vs=> .bY vs) s.o s.nx:=by
 unfold mo at h
 simp only at h
 split at h
 ·rename_i v h1;exact⟨[v],h1,h⟩
 ·rename_i vs h1 h2
  refine⟨vs,h2, ?_⟩
  split
  ·exact absurd rfl (h1 _)
  ·exact h
 ·exact h.elim
theorem CI:∀ {vs:List V} {vals:List Value},V.aF (ao M φ H) φ H w vs vals->V.den (ao M φ H) φ H w (match vs with|[v]=>v|vs=> .bY vs) (if h:vals.toArray.size=1 then vals.toArray[0]else .tuple vals.toArray)
 |[],vals,h=>by simp only[V.aF]at h;subst h;exact⟨#[],rfl,rfl⟩
 |[v],vals,h=>by obtain⟨u,us,rfl,h1,h2⟩:=h;simp only[V.aF]at h2;subst h2;exact h1
 |v::y::l,vals,h=>by
  have h':=h
  obtain⟨u,us,rfl,h1,u2,us2,rfl,h2⟩:=h
  exact⟨(u::u2::us2).toArray,aE,by simpa using h'⟩
theorem B4{vals:Array Value}{m:Nat}{vs:List V}(hd:V.aF (ao M φ H) φ H w vs vals.toList)(i:Nat):V.den (ao M φ H) φ H w (cC vs i) ((vals++Array.replicate m undef).getD i undef):=by
 have hlen:=V.aC _ _ hd
 simp only[cC,Ju]
 cases hx:vs[i]? with
 |none=>
  have:vals[i]? =none:=by
   rw[List.getElem?_eq_none_iff]at hx
   apply Array.getElem?_eq_none
   simp at hlen;omega
  simp only[List.getD_eq_getElem?_getD,hx,this]
  exact⟨#[],rfl,rfl⟩
 |some v=>
  obtain⟨u,hu,PN⟩:=V.dy _ _ _ _ hd hx
  have BT:vals[i]? =some u:=by simpa using hu
  simp only[List.getD_eq_getElem?_getD,hx,BT,Option.getD_some]
  exact PN
theorem nB{f:FuncId}{fn:Func}{c:Code}{args:Array Value}{w:World}{R:Ending->World->Prop}(hf:P.funcs[f]? =some fn)(hb:fn.body=some c)
 (h:c.uu P none (bodyPostM (dW none) k P fn R) {tmps:=args++Array.replicate (fn.ntmps - args.size) undef,defers:=[]} w):CallsIn (dW none) k P f args w R:=by
 have cq:f<P.funcs.size:=(Array.getElem?_eq_some_iff.1 hf).1
 refine⟨trivial,fun cs hr=> ?_⟩
 let b:Frame:={(default:Frame)with fn:=f,kind:= .normal,roundOf:=none}
 have mn:Frame.enter P f args .normal=b.atR {tmps:=args++Array.replicate (fn.ntmps - args.size) undef,defers:=[]} [.code c]:=by
  simp[Frame.enter,Frame.atR,hf,hb,b]
 obtain⟨e,a',w',hq,dx⟩:=h b [] cs rfl cq
 rw[<- mn]at dx
 cases e with
 |normal=>
  obtain⟨e',VK,fr',hR,hs,Kx,hl⟩:=leaves_stepsInM a'.defers .returning w' {b.atR a' []with mode:= .returning} cs rfl rfl rfl hf rfl (trivial:(dW none).fn f) hr hq
  exact⟨e',VK,fr',hR,ComesIn.of_steps (StepsIn.trans dx (.one (fenced_calm (n:=0) (fr:=b.atR a' []) trivial gV rfl) (stepR_end rfl))) hs,Kx,hl⟩
 |ret=>
  obtain⟨todo,SJ⟩:=dx.1 rfl
  obtain⟨e',VK,fr',hR,hs,Kx,hl⟩:=leaves_stepsInM a'.defers .returning w' {b.atR a' todo with mode:= .returning} cs rfl rfl rfl hf rfl (trivial:(dW none).fn f) hr hq
  exact SI
 |panic chain=>
  obtain⟨todo,SJ⟩:=dx
  obtain⟨e',VK,fr',hR,hs,Kx,hl⟩:=leaves_stepsInM a'.defers (.panicking chain) w' {b.atR a' todo with mode:= .panicking chain} cs rfl rfl rfl hf rfl (trivial:(dW none).fn f) hr hq
  exact SI
 |exit id=>exact hq.elim
 |goto l=>exact hq.elim
 |outgrown=>exact⟨.outgrown,w',b,hq,dx.resolve_left (by simp[b]),rfl,trivial⟩
def E5(P:Program)(l:Nat)(R:Ending->World->Prop):Exit->Act->World->Prop
 | .normal,_,w=>∃v w',(Instr.endRound l none).run P w= .ok v w'/\R (.returned v) w'
 | .ret,_,w=>∃v w',(Instr.endRound l (some .ret)).run P w= .ok v w'/\R (.returned v) w'
 | .exit id,_,w=>∃v w',(Instr.endRound l (some (.exit id))).run P w= .ok v w'/\R (.returned v) w'
 | .goto _,_,_=>False
 | .panic chain,a,w=>a.defers=[]/\R (.panicked chain) w
 | .outgrown,_,_=>False
theorem vS{l:Nat}{f:FuncId}{tmps:Array Value}{assign body:Code}{w:World}{R:Ending->World->Prop}(hf:f<P.funcs.size)
 (h:assign.uu P (some l) (Exit.then (fun oT jK=>∃sH,(Instr.beginRound l).run P jK= .ok () sH/\body.uu P (some l) (E5 P l R) oT sH) (fun e a w=>match e with| .panic chain=>a.defers=[]/\R (.panicked chain) w|_=>False))
  {tmps:=tmps,defers:=[]} w):
 RoundIn Fence.wide n P l f tmps assign body w R:=by
 refine⟨trivial,fun c cs hr=> ?_⟩
 let b:Frame:={(default:Frame)with fn:=f,kind:= .normal,roundOf:=some l}
 have hb0:Frame.round l f tmps assign body .normal=b.atR {tmps:=tmps,defers:=[]} [.code assign, .beginRound, .code body]:=by
  simp[Frame.round,Frame.atR,b]
 have calm:∀ (m:Machine),m.fenced P Fence.wide:=fun m=>fenced_wide P m
 have bN:∀ {a:Act} {w:World} {todo:List Item} {chain:List PanicEntry},a.defers=[]->step P (lone {b.atR a todo with mode:= .panicking chain} (c::cs) w)= .next (lone (c.raise chain) cs w):=by
  intro a w todo chain hd
  exact step_leave_panicked (fr:={b.atR a todo with mode:= .panicking chain}) ⟨rfl,hd,P.funcs[f],by show P.funcs[f]? =_;simp[hf]⟩
 obtain⟨e,oT,jK,hq,dx⟩:=h b [.beginRound, .code body] (c::cs) rfl hf
 rw[<- hb0]at dx
 cases e with
 |normal=>
  obtain⟨sH,Zm,qU⟩:=hq
  have s1:StepsIn (Machine.fenced P Fence.wide) P (lone (b.atR oT [.beginRound, .code body]) (c::cs) jK) (lone (b.atR oT [.code body]) (c::cs) sH):= .one (calm _) (stepR_beginRound rfl Zm)
  obtain⟨Wd,ab0,E1,qQ,kO⟩:=qU b [] (c::cs) rfl hf
  have dx:StepsIn (Machine.fenced P Fence.wide) P _ _:=dx
  cases Wd with
  |normal=>
   obtain⟨v,uv,eJ,hR⟩:=qQ
   have kO:StepsIn (Machine.fenced P Fence.wide) P _ _:=kO
   exact⟨.returned v,uv,hR,(StepsIn.trans dx s1).trans (StepsIn.trans kO (.one (calm _) (stepR_round_end rfl rfl eJ)))⟩
  |ret=>
   obtain⟨v,uv,eJ,hR⟩:=qQ
   obtain⟨k₁,hs⟩:=kO.2 rfl
   have hs:StepsIn (Machine.fenced P Fence.wide) P _ _:=hs
   exact⟨.returned v,uv,hR,(StepsIn.trans dx s1).trans (StepsIn.trans hs (.one (calm _) (stepR_round_ret rfl rfl eJ)))⟩
  |exit id=>
   obtain⟨v,uv,eJ,hR⟩:=qQ
   obtain⟨k₁,hk,hs⟩:=kO.2 rfl rfl
   have hs:StepsIn (Machine.fenced P Fence.wide) P _ _:=hs
   exact⟨.returned v,uv,hR,(StepsIn.trans dx s1).trans (StepsIn.trans hs (.one (calm _) (stepR_round_exit rfl rfl hk eJ)))⟩
  |goto t=>exact qQ.elim
  |panic chain=>
   obtain⟨todo,hs⟩:=kO
   have hs:StepsIn (Machine.fenced P Fence.wide) P _ _:=hs
   exact⟨.panicked chain,E1,qQ.2,(StepsIn.trans dx s1).trans (StepsIn.trans hs (.one (calm _) (bN qQ.1)))⟩
  |outgrown=>exact qQ.elim
 |exit id=>exact hq.elim
 |goto t=>exact hq.elim
 |ret=>exact hq.elim
 |panic chain=>
  obtain⟨todo,hs⟩:=dx
  have hs:StepsIn (Machine.fenced P Fence.wide) P _ _:=hs
  exact⟨.panicked chain,jK,hq.2,StepsIn.trans hs (.one (calm _) (bN hq.1))⟩
 |outgrown=>exact hq.elim
theorem bP.G8 {f:FuncId}{fn:Func}{c:Code}{args:List V}{o:Nat->ad}{nx:Nat}{K X:V->(Nat->ad)->Nat->Prop}(hf:P.funcs[f]? =some fn)(hn:(fn.name== "runtime.NumGoroutine")=false)(qU:fn.body=some c)(hl:args.length<=fn.ntmps)
 (h:jo P fn.ntmps nx false c (mo P fn.results.toList K X) ⟨cC args,o,nx⟩):bP P f args o nx K X:=by
 refine⟨⟨fn,hf,hn,by rw[qU];rfl⟩,fun M φ w vals hH hd=> ?_⟩
 have hlen:=V.aC _ _ hd
 let s0:S:=⟨cC args,o,nx⟩
 let a0:Act:={tmps:=vals++Array.replicate (fn.ntmps - vals.size) undef,defers:=[]}
 have oY:cn M φ (hp o nx) w fn.ntmps ⟨[],false⟩ φ s0 a0 w:=by
  exact abA
 refine CA (ro:=none) (k:=0) (nB hf qU (gW (iF (P:=P) (H0:=hp o nx) (b:=nx) (cx:=⟨[],false⟩) (ro:=none) (fun id hu=>hu) (fun _=>rfl) c _ s0 φ a0 w h oY) ?_))
 rintro e a w' ⟨x,s,aH,hq,hs,hm⟩
 obtain⟨ms,g1,g2,g3,g4⟩:=hs.defers
 rw[List.append_nil]at g1
 have done:(x= .normal\/x= .ret)->LeavesInM (dW none) 0 P fn a.tmps (nu M φ (hp o nx) w K X) a.defers .returning w':=by
  intro hx
  have hq':mo P fn.results.toList K X .ret s:=by rcases hx with rfl|rfl<;>exact hq
  obtain⟨vs,h1,h2⟩:=CH hq'
  rw[g1]
  have:=gX (P:=P) (k:=0) (fn:=fn) (R:=nu M φ (hp o nx) w K X) (u:= .returning) aE (ds:=[]) (fun w2 hb=>by
   obtain⟨vals,h3,h4⟩:=uN (P:=P) (a:=a) hb.heap hb.env _ _ h1
   exact⟨_,nA h3,aH,s.o,s.nx,_,hb.heap,hb.tr,CI h4,h2⟩) ms w' g2 g4 hs.toB
  rwa [List.append_nil]at this
 cases e<;>cases x<;>first|(exact hm.elim)|skip
 ·exact done (.inl rfl)
 ·exact hq.elim
 ·exact done (.inr rfl)
 ·rename_i v
  obtain⟨val,rfl,Qc⟩:=hm
  show LeavesInM (dW none) 0 P fn a.tmps (nu M φ (hp o nx) w K X) a.defers _ w'
  rw[g1]
  have hb0:Aw M φ (hp o nx) w aH ⟨fun i=>if i=0 then v else .ab,s.o,s.nx⟩ #[val] w':=⟨hs.heap,hs.tr,fun i=>by
   by_cases hi:i=0
   ·subst hi;exact Qc
   ·simp only[hi,if_false];trivial⟩
  have:=gX (P:=P) (k:=0) (fn:=fn) (s:=⟨fun i=>if i=0 then v else .ab,s.o,s.nx⟩) (tmps:=a.tmps) (tb:=#[val]) (cP:=φ) (H0:=hp o nx) (w0:=w) (R:=nu M φ (hp o nx) w K X) (u:= .panicking [{v:=val,recovered:=false}]) aE (ds:=[]) (fun w2 hb=>by
   have h0:=hb.env 0
   exact⟨aH,s.o,s.nx,v,hb.heap,hb.tr,val,rfl,h0,hq⟩) ms w' g2 g4 hb0
  rwa [List.append_nil]at this
theorem aW.la {f:FuncId}{ds:List D}{out:R}(h:bP P f (ds.map .d) (fun _=> .no) 0 (fun v o _=>∃vs rs,v=(match vs with|[v]=>v|vs=> .bY vs)/\cm o vs=some rs/\out= .ret rs) (fun v o _=>∃x,dM o v=some x/\out= .bN x)):aW P f ds out:=by
 refine⟨h.1,fun M w vals hM hd=> ?_⟩
 let cP:Place:=fun _=> .nilFunc
 have uO:∀b, ¬cI cP (hp (fun _=> .no) 0) b:=by rintro b ⟨id,hl,_⟩;simp[hp,ad.live]at hl
 refine(h.2 M cP w vals (oD cP hM) ((V.cM _ _).2 (D.aV (w:=w) (w':=w) (B:=M) (fun b _ hB=>⟨rfl,fun h=>h.elim hB (uO b)⟩) _ _ hd))).mono ?_
 rintro e w' ⟨aH,o',nx',v,k1,k2,k3⟩
 have G9:eC (fun _=>False) w w':=⟨k2.cL.os,k2.cL.tape,k2.cL.output,k2.cL.size,fun k hk _=>k2.cL.block k hk (uO k)⟩
 have fin:∀ (vs:List V) (xs:List D) (vals:List Value),cm o' vs=some xs->V.aF (ao M aH (hp o' nx')) aH (hp o' nx') w' vs vals->D.aF M w' xs vals:=by
  intro vs xs vals h1 h2
  obtain⟨f1,f2,f3,f4,f5⟩:=cY k1 (V.bc vs) (df vs _ h2)
  have h3:=dA f1 vs xs vals f3 h1 (V.aV f2 _ _ h2)
  exact D.aV (w:=w') (w':=w') (fun k _ hB=>⟨rfl,fun hM=>hB (.inl hM)⟩) xs vals h3
 refine⟨G9, ?_⟩
 cases e with
 |outgrown=>exact k3.elim
 |panicked ch=>
  obtain⟨val,rfl,g1,x,g2,rfl⟩:=k3
  have:=fin [v] [x] [val] (by simp[cm,g2]) ⟨val,[],rfl,g1,rfl⟩
  obtain⟨u,us,he,h2,_⟩:=this
  simp at he;obtain⟨rfl,rfl⟩:=he
  exact⟨val,rfl,h2⟩
 |returned val=>
  obtain⟨g1,vs,rs,rfl,g2,rfl⟩:=k3
  match vs,g1,g2 with
  |[],g1,g2=>
   obtain⟨arr,rfl,hv⟩:=g1
   simp only[cm,Option.some.injEq]at g2;subst g2
   exact⟨arr,rfl,hv⟩
  |[v],g1,g2=>
   have:=fin [v] rs [val] g2 ⟨val,[],rfl,g1,rfl⟩
   cases rs with
   |nil=>cases this
   |cons x l=>
    obtain⟨u,us,he,h2,h3⟩:=this
    simp at he;obtain⟨rfl,rfl⟩:=he
    cases l with
    |nil=>exact h2
    |cons y l=>obtain⟨_,_,h,_⟩:=h3;cases h
  |v::v2::l,g1,g2=>
   obtain⟨arr,rfl,h⟩:=g1
   have:=fin (v::v2::l) rs arr.toList g2 h
   have hl:=D.aC _ _ this
   have SL:=V.aC _ _ h
   match rs,hl,this with
   |[],hl,_=>exact GA
   |[x],hl,_=>exact GA
   |x::y::l,_,this=>exact⟨arr,rfl,this⟩
theorem Jw{rs:List ResultVar}{out:R}(e:fK)(s:S)(h:Aq P rs out e s):
 mo P rs (fun v o _=>∃vs rs,v=(match vs with|[v]=>v|vs=> .bY vs)/\cm o vs=some rs/\out= .ret rs) (fun v o _=>∃x,dM o v=some x/\out= .bN x) e s:=by
 have ret:Aq P rs out .ret s->mo P rs (fun v o _=>∃vs rs,v=(match vs with|[v]=>v|vs=> .bY vs)/\cm o vs=some rs/\out= .ret rs) (fun v o _=>∃x,dM o v=some x/\out= .bN x) .ret s:=by
  intro h
  obtain⟨vs,xs,h1,h2,h3⟩:=Mb h
  simp only[mo,h1]
  match vs,h2 with
  |[],h2=>exact⟨[],xs,rfl,h2,h3⟩
  |[v],h2=>exact⟨[v],xs,rfl,h2,h3⟩
  |v::v2::l,h2=>exact⟨v::v2::l,xs,rfl,h2,h3⟩
 cases e with
 |normal=>exact ret h
 |ret=>exact ret h
 |exit id=>exact h.elim
 |bN v=>exact Mc h
end
end
section
def Ml{α:Type}(c:Bool)(x:α):Option α:=if c=true then some x else none
def one(v:V):Option gr:=some (v,[],[])
def CJ(op:BinOp)(k:IntKind)(a b:Int):Option V:=
 match op with
 | .add=>some (.d (.int k (k.wrap (a+b))))
 | .sub=>some (.d (.int k (k.wrap (a - b))))
 | .mul=>some (.d (.int k (k.wrap (a*b))))
 | .quo=>if b=0 then none else some (.d (.int k (k.wrap (a.tdiv b))))
 | .rem=>if b=0 then none else some (.d (.int k (a.tmod b)))
 | .and=>(vw .and k a b).map fun r=> .d (.int k r)
 | .or=>(vw .or k a b).map fun r=> .d (.int k r)
 | .xor=>(vw .xor k a b).map fun r=> .d (.int k r)
 | .andNot=>(vw .andNot k a b).map fun r=> .d (.int k r)
 | .eql=>some (.d (.bool (a==b)))| .neq=>some (.d (.bool (a !=b)))| .lss=>some (.d (.bool (decide (a<b))))| .leq=>some (.d (.bool (decide (a<=b))))
 | .gtr=>some (.d (.bool (decide (b<a))))| .geq=>some (.d (.bool (decide (b<=a))))
 |_=>none
def mq(P:Program)(t:TypeId):Bool:=
 match P.underlying t with
 |some .bool=>true
 |_=>false
def Ax(P:Program)(op:BinOp)(t:TypeId)(x y:V):Option V:=
 match x,y with
 | .d (.int k a), .d (.int k' b)=>if k=k' then CJ op k a b else none
 | .d (.bool a), .d (.bool b)=>match op with
   | .eql=>Ml (mq P t) (.d (.bool (a==b)))
   | .neq=>Ml (mq P t) (.d (.bool (a !=b)))
   |_=>none
 | .d (.str a), .d (.str b)=>match op with
   | .eql=>some (.d (.bool (a==b)))
   | .neq=>some (.d (.bool (a !=b)))
   |_=>none
 |_,_=>none
def unF(op:UnOp)(x:V):Option V:=
 match op,x with
 | .neg, .d (.int k n)=>some (.d (.int k (k.wrap (-n))))
 | .not, .d (.bool b)=>some (.d (.bool !b))
 |_,_=>none
def qV(c a b:V):Option V:=
 match c with
 | .d (.bool true)=>some a
 | .d (.bool false)=>some b
 |_=>none
def qW(o:Nat->ad)(x:V):Option (List D×List Nat):=
 match x with
 | .d (.sl es)=>some (es,[])
 | .ax=>some ([],[])
 | .pb es=>some (es,[])
 | .osl id ep=>match o id with
   | .arr fT _ _ es=>if ep=fT then some (es,[id])else none
   | .uI fT es=>if ep=fT then some (es,[id])else none
   |_=>none
 |_=>none
def E6(P:Program)(t:TypeId)(o:Nat->ad)(x:V):Option gr:=
 match P.underlying t with
 |some (.slice _)=>match qW o x with
  |some (es,rd)=>some (.d (.int .i64 es.length),[],rd)
  |none=>none
 |some .string=>match x with
  | .d (.str s)=>one (.d (.int .i64 s.length))
  |_=>none
 |some (.array n _)=>one (.d (.int .i64 n))
 |_=>none
def yS(P:Program)(e:TypeId)(es:List D)(i:Int)(rd:List Nat):Option gr:=
 if 0<=i then match es[i.toNat]? with
  |some y=>Ml (y.cells.length==P.cellsOf e&&0<P.cellsOf e) (.pp y.cells 0,[],rd)
  |none=>none
 else none
def px(o:Nat->ad)(x:V)(q:Nat):Option V:=
 match x with
 | .ptr id off=>Ml (o id).cA (.ptr id (off+q))
 | .pp cs off=>some (.pp cs (off+q))
 | .pe id ep j sz off=>if(o id).cz=some ep then some (.pe id ep j sz (off+q))else none
 |_=>none
def iG(P:Program)(o:Nat->ad)(t:TypeId)(x ix:V):Option gr:=
 match ix with
 | .d (.int _ i)=>match bV P t with
   |some e=>match x with
    | .d (.sl es)=>yS P e es i []
    | .pb es=>yS P e es i []
    | .osl id ep=>match o id with
      | .arr fT _ sz es=>if ep=fT/\0<=i/\i.toNat<es.length/\sz=P.cellsOf e/\0<P.cellsOf e then some (.pe id ep i.toNat sz 0,[],[id])else none
      | .uI fT es=>if ep=fT then yS P e es i [id]else none
      |_=>none
    |_=>none
   |none=>match Aa P t with
    |some (n,e)=>if 0<=i/\i<n/\(P.info? e).isSome=true then(px o x (i.toNat*P.cellsOf e)).bind one else none
    |none=>none
 |_=>none
def iH(P:Program)(o:Nat->ad)(t:TypeId)(x:V)(f:Nat):Option V:=
 match b8 P t f with
 |some q=>px o x q
 |none=>none
def nC(P:Program)(o:Nat->ad)(t:TypeId)(x:V):Option gr:=
 match x with
 | .ptr id off=>match o id with
   | .row cs=>match eX P t cs off with
     |some v=>some (v,[],[id])
     |none=>none
   |_=>none
 | .pp cs off=>match eX P t (cs.map .d) off with
   |some v=>some (v,[],[])
   |none=>none
 | .pe id ep i sz off=>match o id with
   | .arr fT _ rX es=>if ep=fT/\sz=rX then match es[i]? with
    |some e=>match eX P t (e.cells.map .d) off with
     |some v=>some (v,[],[id])
     |none=>none
    |none=>none
     else none
   |_=>none
 |_=>none
def sI(P:Program)(o:Nat->ad)(t:TypeId)(x v:V):Option gr:=
 match x with
 | .ptr id off=>match o id with
   | .row cs=>match Ab P t cs off v with
     |some cs'=>some (.bY [],[(id, .row cs')],[id])
     |none=>none
   |_=>none
 | .pe id ep i rX off=>match o id with
   | .arr fT ty sz es=>if ep=fT/\rX=sz then match es[i]?,dM o v with
    |some e,some y=>if y.cells.length=P.cellsOf t/\0<y.cells.length/\v.ids.all (· !=id)=true then match e.put off y.cells with
     |some e'=>some (.bY [],bG o v.ids++[(id, .arr ep ty sz (es.set i e'))],id::v.ids)
     |none=>none
     else none
    |_,_=>none
     else none
   |_=>none
 |_=>none
def gC(P:Program)(o:Nat->ad)(fr:Nat)(t:TypeId)(len:Nat)(parts:List (Nat×V)):Option gr:=
 match bV P t with
 |some e=>if len=0/\parts.isEmpty=true/\0<P.cellsOf e then some (.osl fr 0,[(fr, .arr 0 e (P.cellsOf e) [])],[])else if parts.map (·.1)=List.range len/\(cB P e).isSome=true/\0<len/\0<P.cellsOf e/\len*P.cellsOf e<=2^24 then match cm o (parts.map (·.2))with
  |some ds=>if ds.all (fun x=>x.cells.length==P.cellsOf e)=true then some (.osl fr 0,bG o (V.bc (parts.map (·.2)))++[(fr, .arr 0 e (P.cellsOf e) ds)],V.bc (parts.map (·.2)))else none
  |none=>none
  else none
 |none=>none
def mu(P:Program)(fr:Nat)(t:TypeId)(l c:V):Option gr:=
 match bV P t with
 |some e=>match l,c with
  | .d (.int _ n), .d (.int _ m)=>if n=m/\0<=n/\0<P.cellsOf e/\P.bytesOf e*n.toNat<=2^47/\n.toNat<=2^47 then match B8 P e with
   |some x=>some (.osl fr 0,[(fr, .arr 0 e (P.cellsOf e) (List.replicate n.toNat x))],[])
   |none=>none
    else none
  |_,_=>none
 |none=>none
def qX(P:Program)(o:Nat->ad)(fr:Nat)(ts:Array TypeId)(x y:V):Option gr:=
 match ts.toList with
 |[t,t']=>if t=t' then match bV P t,qW o y with
    |some e,some (new,rd)=>if 0<P.cellsOf e/\(cB P e).isSome=true/\new.all (fun z=>z.cells.length==P.cellsOf e)=true then match x with
     | .ax=>if new.length<=2^47/\new.length*P.bytesOf e<=2^47 then some (.osl fr 0,[(fr, .arr 0 e (P.cellsOf e) new)],rd)else none
     | .pb es=>if es.all (fun z=>z.cells.length==P.cellsOf e)=true then(if new=[]then some (.pb es,[],rd)else if es.length+new.length<=2^40/\(es.length+new.length)*P.bytesOf e<=2^40 then some (.osl fr 0,[(fr, .arr 0 e (P.cellsOf e) (es++new))],rd)else none)else none
     | .osl id ep=>match o id with
       | .arr fT ty sz es=>if ep=fT/\ty=e/\sz=P.cellsOf e/\es.length+new.length<=2^47/\(es.length+new.length)*P.bytesOf e<=2^47 then
        some (.osl id (ep+1),[(id, .arr (ep+1) ty sz (es++new))],id::rd)else none
       |_=>none
     |_=>none
     else none
    |_,_=>none
  else none
 |_=>none
def qY(isMax:Bool)(x y:V):Option V:=
 match x,y with
 | .d (.int k a), .d (.int k' b)=>if k=k' then some (.d (.int k (if isMax then(if b>a then b else a)else(if b<a then b else a))))else none
 |_,_=>none
def mw(x:Option V):Option gr:=match x with|some v=>one v|none=>none
def qZ(P:Program)(s:S)(fr:Nat)(b:Builtin)(args:List Operand)(ts:Array TypeId):Option gr:=
 match b,args with
 | .len,[x]=>match ts.toList with
   |[t]=>E6 P t s.o (s.ev x)
   |_=>none
 | .append,[x,y]=>match yx P fr ts (s.ev x) (s.ev y)with
   |some r=>some r
   |none=>qX P s.o fr ts (s.ev x) (s.ev y)
 | .max,[x,y]=>mw (qY true (s.ev x) (s.ev y))
 | .min,[x,y]=>mw (qY false (s.ev x) (s.ev y))
 | .max,[x,y,z]=>mw (LP (s.ev x) (s.ev y) (s.ev z))
 | .copy,[x,y]=>yw P s.o ts (s.ev x) (s.ev y)
 | .delete,[x,y]=>match ts.toList.head? with
   |some t=>oA P s.o t (s.ev x) (s.ev y)
   |none=>none
 | .cap,[x]=>PJ P ts (s.ev x)
 |_,_=>none
def Ay(P:Program)(t:TypeId)(parts:List (Nat×V)):Option V:=
 match cB P t,cV P t with
 |some z,some pl=>match tA pl z parts with
  |some cs=>some (mQ cs)
  |none=>none
 |_,_=>none
def jA(o:Nat->ad)(x:V):Option V:=
 match x with
 | .ptr id off=>Ml (o id).cA (.ptr id off)
 | .pp cs off=>some (.pp cs off)
 | .func (.func f) first cap=>some (.func (.func f) first cap)
 |_=>none
def my(P:Program)(t:TypeId):Bool:=
 match P.underlying t with
 |some (.interface _)=>false
 |some _=>true
 |none=>false
def Mm(P:Program)(t:TypeId)(x:V):Option V:=
 Ml (my P t) (match x with
  | .d y=> .d (.iface t y)
  |v=> .iface t v)
def fF(P:Program)(o:Nat->ad)(op:BinOp)(t:TypeId)(ng:Bool)(x y:V):Option gr:=
 match Ax P op t x y with
 |some v=>one v
 |none=>sy P o op t ng x y
def I0(op:UnOp)(x:V):Option V:=
 match op,x with
 | .not, .fH=>some .fH
 |op,x=>unF op x
def gM(P:Program)(s:S)(fr:Nat)(op:Op):Option gr:=
 match op with
 | .move x=>one (s.ev x)
 | .assign x=>one (s.ev x)
 | .pick c a b=>mw (qV (s.ev c) (s.ev a) (s.ev b))
 | .alloc t=>match cB P t with
   |some cs=>some (.ptr fr 0,[(fr, .row cs)],[])
   |none=>none
 | .box _ x=>match(s.ev x).cells with
   |some cs=>some (.ptr fr 0,[(fr, .row cs)],[])
   |none=>none
 | .build t parts=>mw (Ay P t (parts.toList.map fun p=>(p.1,s.ev p.2)))
 | .buildSlice t len parts=>gC P s.o fr t len (parts.toList.map fun p=>(p.1,s.ev p.2))
 | .load t x=>nC P s.o t (s.ev x)
 | .store t x v=>sI P s.o t (s.ev x) (s.ev v)
 | .nilCheck x=>mw (jA s.o (s.ev x))
 | .binOp op t x y _=>fF P s.o op t (isConst x||isConst y) (s.ev x) (s.ev y)
 | .unOp op _ x=>mw (I0 op (s.ev x))
 | .convert u t x=>match P.underlying u,oW P t,s.ev x with
   |some _,some k, .d (.int _ n)=>one (.d (.int k (k.wrap n)))
   |_,_,_=>none
 | .makeInterface t x=>mw (Mm P t (s.ev x))
 | .makeFunc fn first cap=>one (.func fn (first.toList.map s.ev) (cap.toList.map s.ev))
 | .makeSlice t l c=>mu P fr t (s.ev l) (s.ev c)
 | .fieldAddr t x f=>mw (iH P s.o t (s.ev x) f)
 | .indexAddr t x i=>iG P s.o t (s.ev x) (s.ev i)
 | .extract x i=>match s.ev x with
   | .bY vs=>match vs[i]? with
     |some v=>one v
     |none=>none
   |_=>none
 | .call c=>match c.callee with
   | .builtin b=>qZ P s fr b c.args.toList c.argTypes
   |_=>none
 | .slice t x lo hi mx=>su P s.o t (s.ev x) (lo.map s.ev) (hi.map s.ev) (mx.map s.ev)
 | .field t x f=>mw (vz P t (s.ev x) f)
 | .index t x i=>mw (vA P t (s.ev x) (s.ev i))
 | .typeAssert x _ t ok=>mw (qz P t ok (s.ev x))
 | .makeMap t none=>nh P fr t
 | .lookup t m k ok=>jr P s.o t (s.ev m) (s.ev k) ok
 | .mapUpdate t m k v=>fZ P s.o t (s.ev m) (s.ev k) (s.ev v)
 | .insert t m k v=>fZ P s.o t (s.ev m) (s.ev k) (s.ev v)
 | .range t x=>ni P s.o fr t (s.ev x)
 | .next x str=>pn s.o (s.ev x) str
 | .entry x=>nj s.o (s.ev x)
 |_=>none
section
variable {P:Program}{s:S}{fr:Nat}{v:V}{Δ:List (Nat×ad)}{rd:List Nat}{o:Nat->ad}{K:V->List (Nat×ad)->List Nat->Prop}
theorem sJ{α:Type}{c:Bool}{x y:α}(h:Ml c x=some y):c=true/\x=y:=by
 unfold Ml at h;split at h
 ·injection h with h;exact⟨by assumption,h⟩
 ·cases h
theorem lg{x:V}{r:gr}(h:one x=some r):r=(x,[],[]):=by unfold one at h;injection h with h;exact h.symm
theorem jq{x:Option V}{r:gr}(h:mw x=some r):∃v,x=some v/\r=(v,[],[]):=by
 unfold mw at h;split at h
 ·exact⟨_,rfl,lg h⟩
 ·cases h
theorem E7{x:V}{es:List D}{rd:List Nat}(h:qW o x=some (es,rd)):eY o x=some es/\rd=x.ids:=by
 unfold qW at h
 split at h
 ·exact Lk
 ·exact Lk
 ·exact Lk
 ·split at h
  ·rename_i ho
   split at h
   ·rename_i e;simp at h;obtain⟨rfl,rfl⟩:=h;exact⟨by simp[eY,dM,ho,e],rfl⟩
   ·cases h
  ·rename_i ho
   split at h
   ·rename_i e;simp at h;obtain⟨rfl,rfl⟩:=h;exact⟨by simp[eY,dM,ho,e],rfl⟩
   ·cases h
  ·cases h
 ·cases h
theorem Jx{op:BinOp}{k:IntKind}{a b:Int}{v:V}(h:CJ op k a b=some v){K:V->Prop}(hK:K v):PG op k a b K:=by
 cases op<;>simp only[CJ]at h<;>simp only[PG]
 case quo=>split at h
           ·cases h
           ·exact Lj
 case rem=>split at h
           ·cases h
           ·exact Lj
 case and=>simp only[Option.map_eq_some_iff]at h;obtain⟨r,h1,rfl⟩:=h;exact⟨r,h1,hK⟩
 case or=>simp only[Option.map_eq_some_iff]at h;obtain⟨r,h1,rfl⟩:=h;exact⟨r,h1,hK⟩
 case xor=>simp only[Option.map_eq_some_iff]at h;obtain⟨r,h1,rfl⟩:=h;exact⟨r,h1,hK⟩
 case andNot=>simp only[Option.map_eq_some_iff]at h;obtain⟨r,h1,rfl⟩:=h;exact⟨r,h1,hK⟩
 case shl=>cases h
 case shr=>cases h
 case eql=>injection h with h;subst h;exact⟨_,rfl,hK⟩
 case neq=>injection h with h;subst h;exact⟨_,rfl,hK⟩
 case lss=>injection h with h;subst h;exact⟨_,rfl,hK⟩
 case leq=>injection h with h;subst h;exact⟨_,rfl,hK⟩
 case gtr=>injection h with h;subst h;exact⟨_,rfl,hK⟩
 case geq=>injection h with h;subst h;exact⟨_,rfl,hK⟩
 all_goals (injection h with h;subst h;exact hK)
theorem Jy{op:BinOp}{t:TypeId}{x y v:V}(h:Ax P op t x y=some v){K:V->Prop}(hK:K v):LN P op t x y K:=by
 unfold Ax at h
 unfold LN
 split at h
 ·split at h
  ·exact⟨by assumption,Jx h hK⟩
  ·cases h
 ·have hb:mq P t=true->P.underlying t=some .bool:=by
   unfold mq;intro h;split at h
   ·assumption
   ·cases h
  split at h
  ·obtain⟨h1,rfl⟩:=sJ h;exact⟨hb h1,hK⟩
  ·obtain⟨h1,rfl⟩:=sJ h;exact⟨hb h1,hK⟩
  ·cases h
 ·split at h
  ·exact Lf
  ·exact Lf
  ·cases h
 ·cases h
theorem E8{c a b v:V}(h:qV c a b=some v){K:V->Prop}(hK:K v):B6 c a b K:=by
 unfold qV at h
 unfold B6
 split at h
 ·injection h with h;subst h;exact⟨fun _=>hK,(fun h=>by cases h)⟩
 ·injection h with h;subst h;exact⟨(fun h=>by cases h),fun _=>hK⟩
 ·cases h
theorem vT{x y:V}{q:Nat}(h:px o x q=some y):(∃id off,x= .ptr id off/\(o id).cA=true/\y= .ptr id (off+q))\/(∃cs off,x= .pp cs off/\y= .pp cs (off+q))\/
 (∃id ep j sz off,x= .pe id ep j sz off/\(o id).cz=some ep/\y= .pe id ep j sz (off+q)):=by
 unfold px at h
 split at h
 ·obtain⟨h1,rfl⟩:=sJ h;exact .inl ⟨_,_,rfl,h1,rfl⟩
 ·injection h with h;exact .inr (.inl ⟨_,_,rfl,h.symm⟩)
 ·split at h
  ·injection h with h;exact .inr (.inr ⟨_,_,_,_,_,rfl,by assumption,h.symm⟩)
  ·cases h
 ·cases h
theorem vo{e:TypeId}{es:List D}{i:Int}{rd:List Nat}{r:gr}(h:yS P e es i rd=some r):
 0<=i/\∃y,es[i.toNat]? =some y/\y.cells.length=P.cellsOf e/\0<P.cellsOf e/\r=(.pp y.cells 0,[],rd):=by
 unfold yS at h
 split at h
 ·rename_i h0
  split at h
  ·rename_i y hy
   obtain⟨h1,rfl⟩:=sJ h
   simp only[Bool.and_eq_true,beq_iff_eq,decide_eq_true_eq]at h1
   exact⟨h0,y,hy,h1.1,h1.2,rfl⟩
  ·cases h
 ·cases h
theorem uw{t:TypeId}{x ix:V}(h:iG P o t x ix=some (v,Δ,rd))(hK:K v Δ rd):jT P o t x ix fun v rd=>K v [] rd:=by
 unfold iG at h
 unfold jT
 split at h
 ·simp only
  split at h
  ·rename_i e ht
   simp only[ht]
   split at h
   ·exact abo
   ·exact abo
   ·split at h
    ·rename_i ho
     split at h
     ·rename_i hc
      simp only[Option.some.injEq,Prod.mk.injEq]at h;obtain⟨rfl,rfl,rfl⟩:=h
      simp only[ho]
      exact⟨hc.1,hc.2.1,hc.2.2.1,hc.2.2.2.1,hc.2.2.2.2,hK⟩
     ·cases h
    ·rename_i ho
     split at h
     ·rename_i hc
      obtain⟨h0,y,h1,h2,h3,h4⟩:=vo h
      simp only[Prod.mk.injEq]at h4;obtain⟨rfl,rfl,rfl⟩:=h4
      simp only[ho]
      exact⟨hc,h0,y,h1,h2,h3,hK⟩
     ·cases h
    ·cases h
   ·cases h
  ·rename_i ht
   simp only[ht]
   split at h
   ·rename_i n e ha
    simp only[ha]
    split at h
    ·rename_i hc
     simp only[Option.bind_eq_some_iff]at h
     obtain⟨y,hy,h1⟩:=h
     have h1:=lg h1
     simp only[Prod.mk.injEq]at h1;obtain⟨rfl,rfl,rfl⟩:=h1
     refine⟨hc.1,hc.2.1,hc.2.2, ?_⟩
     rcases vT hy with⟨_,_,rfl,h2,rfl⟩|⟨_,_,rfl,rfl⟩|⟨_,_,_,_,_,rfl,h2,rfl⟩
     ·exact⟨h2,hK⟩
     ·exact hK
     ·exact⟨h2,hK⟩
    ·cases h
   ·cases h
 ·cases h
theorem ux{t:TypeId}{x y:V}{f:Nat}(h:iH P o t x f=some y){K:V->Prop}(hK:K y):jU P o t x f K:=by
 unfold iH at h
 unfold jU
 split at h
 ·rename_i q hq
  simp only[hq]
  rcases vT h with⟨_,_,rfl,h2,rfl⟩|⟨_,_,rfl,rfl⟩|⟨_,_,_,_,_,rfl,h2,rfl⟩
  ·exact⟨h2,hK⟩
  ·exact hK
  ·exact⟨h2,hK⟩
 ·cases h
theorem Jz{t:TypeId}{x:V}(h:E6 P t o x=some (v,Δ,rd))(hK:K v Δ rd):LO P t o x fun v rd=>K v [] rd:=by
 unfold E6 at h
 unfold LO
 split at h
 ·rename_i e hu
  simp only[hu]
  split at h
  ·rename_i es uH hl
   simp only[Option.some.injEq,Prod.mk.injEq]at h;obtain⟨rfl,rfl,rfl⟩:=h
   unfold qW at hl
   split at hl
   ·exact Lm
   ·exact Lm
   ·exact Lm
   ·split at hl
    ·rename_i ho
     split at hl
     ·rename_i hc;simp at hl;obtain⟨rfl,rfl⟩:=hl;simp only[ho];exact⟨hc,hK⟩
     ·cases hl
    ·rename_i ho
     split at hl
     ·rename_i hc;simp at hl;obtain⟨rfl,rfl⟩:=hl;simp only[ho];exact⟨hc,hK⟩
     ·cases hl
    ·cases hl
   ·cases hl
  ·cases h
 ·rename_i hu
  simp only[hu]
  split at h
  ·have h1:=lg h;simp only[Prod.mk.injEq]at h1;obtain⟨rfl,rfl,rfl⟩:=h1;exact hK
  ·cases h
 ·rename_i hu
  simp only[hu]
  have h1:=lg h;simp only[Prod.mk.injEq]at h1;obtain⟨rfl,rfl,rfl⟩:=h1;exact hK
 ·cases h
theorem E9{t:TypeId}{x:V}(h:nC P o t x=some (v,Δ,rd))(hK:K v Δ rd):B7 P o t x fun v rd=>K v [] rd:=by
 unfold nC at h
 unfold B7
 split at h
 ·split at h
  ·rename_i ho
   split at h
   ·rename_i hg
    exact abF
   ·cases h
  ·cases h
 ·split at h
  ·rename_i hg
   simp only[Option.some.injEq,Prod.mk.injEq]at h;obtain⟨rfl,rfl,rfl⟩:=h
   exact⟨_,hg,hK⟩
  ·cases h
 ·split at h
  ·rename_i ho
   split at h
   ·rename_i hc
    split at h
    ·rename_i e he
     split at h
     ·rename_i hg
      simp only[Option.some.injEq,Prod.mk.injEq]at h;obtain⟨rfl,rfl,rfl⟩:=h
      simp only[ho];exact⟨hc.1,hc.2,e,he,_,hg,hK⟩
     ·cases h
    ·cases h
   ·cases h
  ·cases h
 ·cases h
theorem CK{t:TypeId}{x y:V}(h:sI P o t x y=some (v,Δ,rd))(hK:K v Δ rd):vy P o t x y fun Δ rd=>K (.bY []) Δ rd:=by
 unfold sI at h
 unfold vy
 split at h
 ·split at h
  ·rename_i ho
   split at h
   ·rename_i hg
    exact abF
   ·cases h
  ·cases h
 ·split at h
  ·rename_i ho
   split at h
   ·rename_i hc
    split at h
    ·rename_i e z he hz
     split at h
     ·rename_i hl
      split at h
      ·rename_i e' hp
       simp only[Option.some.injEq,Prod.mk.injEq]at h;obtain⟨rfl,rfl,rfl⟩:=h
       simp only[ho]
       exact⟨hc.1,hc.2,e,he,z,hz,hl.1,hl.2.1,hl.2.2,e',hp,hK⟩
      ·cases h
     ·cases h
    ·cases h
   ·cases h
  ·cases h
 ·cases h
theorem sK{t:TypeId}{len:Nat}{parts:List (Nat×V)}(h:gC P o fr t len parts=some (v,Δ,rd))(hK:K v Δ rd):iV P o fr t len parts K:=by
 unfold gC at h
 unfold iV
 split at h
 ·rename_i e ht
  simp only[ht]
  split at h
  ·rename_i hc
   simp only[Option.some.injEq,Prod.mk.injEq]at h;obtain⟨rfl,rfl,rfl⟩:=h
   exact .inl ⟨hc.1,by simpa using hc.2.1,hc.2.2,hK⟩
  split at h
  ·rename_i hc
   refine .inr ?_
   split at h
   ·rename_i ds hd
    split at h
    ·rename_i hw
     simp only[Option.some.injEq,Prod.mk.injEq]at h;obtain⟨rfl,rfl,rfl⟩:=h
     refine⟨hc.1,hc.2.1,hc.2.2.1,hc.2.2.2.1,hc.2.2.2.2,ds,hd,fun x hx=> ?_,hK⟩
     simpa using List.all_eq_true.1 hw x hx
    ·cases h
   ·cases h
  ·cases h
 ·cases h
theorem uz{t:TypeId}{l c:V}(h:mu P fr t l c=some (v,Δ,rd))(hK:K v Δ rd):jV P fr t l c fun v Δ=>K v Δ []:=by
 unfold mu at h
 unfold jV
 split at h
 ·rename_i e ht
  split at h
  ·split at h
   ·rename_i hc
    split at h
    ·rename_i x hx
     simp only[Option.some.injEq,Prod.mk.injEq]at h;obtain⟨rfl,rfl,rfl⟩:=h
     simp only[ht]
     exact⟨hc.1,hc.2.1,hc.2.2.1,hc.2.2.2.1,hc.2.2.2.2,x,hx,hK⟩
    ·cases h
   ·cases h
  ·cases h
 ·cases h
theorem Az{ts:Array TypeId}{x y:V}(h:qX P o fr ts x y=some (v,Δ,rd))(hK:K v Δ rd):qx P o fr ts x y K:=by
 unfold qX at h
 unfold qx
 split at h
 ·rename_i t t' xO
  simp only[xO]
  split at h
  ·rename_i htt
   refine⟨htt, ?_⟩
   split at h
   ·rename_i e new uH ht hl
    obtain⟨r8,rfl⟩:=E7 hl
    simp only[ht]
    split at h
    ·rename_i hc
     refine⟨new,r8,hc.1,hc.2.1,fun z hz=>by simpa using List.all_eq_true.1 hc.2.2 z hz, ?_⟩
     split at h
     ·split at h
      ·rename_i sD
       simp only[Option.some.injEq,Prod.mk.injEq]at h;obtain⟨rfl,rfl,rfl⟩:=h
       exact⟨sD.1,sD.2,hK⟩
      ·cases h
     ·split at h
      ·rename_i GX
       refine⟨fun z hz=>by simpa using List.all_eq_true.1 GX z hz, ?_⟩
       split at h
       ·rename_i hn
        simp only[Option.some.injEq,Prod.mk.injEq]at h;obtain⟨rfl,rfl,rfl⟩:=h
        rw[if_pos hn];exact hK
       ·rename_i hn
        split at h
        ·rename_i sD
         simp only[Option.some.injEq,Prod.mk.injEq]at h;obtain⟨rfl,rfl,rfl⟩:=h
         rw[if_neg hn];exact⟨sD.1,sD.2,hK⟩
        ·cases h
      ·cases h
     ·split at h
      ·rename_i ho
       split at h
       ·rename_i sD
        simp only[Option.some.injEq,Prod.mk.injEq]at h;obtain⟨rfl,rfl,rfl⟩:=h
        simp only[ho]
        exact⟨sD.1,sD.2.1,sD.2.2.1,sD.2.2.2.1,sD.2.2.2.2,hK⟩
       ·cases h
      ·cases h
     ·cases h
    ·cases h
   ·cases h
  ·cases h
 ·cases h
theorem vU{x y:V}(h:jA o x=some y){K:V->Prop}(hK:K y):lJ o x K:=by
 unfold jA at h
 unfold lJ
 split at h
 ·obtain⟨h2,rfl⟩:=sJ h;exact⟨h2,hK⟩
 ·exact Lf
 ·exact Lf
 ·cases h
theorem Mn{op:UnOp}{x y:V}(h:unF op x=some y){K:V->Prop}(hK:K y):unV op x K:=by
 unfold unF at h
 unfold unV
 split at h
 ·injection h with h;subst h;simp only;rw[Int.zero_sub];exact hK
 ·exact Lf
 ·cases h
theorem zX{m:Bool}{x y v:V}(h:qY m x y=some v){K:V->Prop}(hK:K v):oz m [x,y] K:=by
 unfold qY at h
 unfold oz
 split at h
 ·split at h
  ·exact Lj
  ·cases h
 ·cases h
theorem CL{op:Op}(h:gM P s fr op=some (v,Δ,rd))(hK:K v Δ rd):Th P s fr op K:=by
 cases op<;>simp only[gM]at h<;>simp only[Th]<;>try (cases h;done)
 case move x=>have h:=lg h;simp only[Prod.mk.injEq]at h;obtain⟨rfl,rfl,rfl⟩:=h;exact hK
 case assign x=>have h:=lg h;simp only[Prod.mk.injEq]at h;obtain⟨rfl,rfl,rfl⟩:=h;exact hK
 case pick c a b=>
  obtain⟨x,h1,h⟩:=jq h;simp only[Prod.mk.injEq]at h;obtain⟨rfl,rfl,rfl⟩:=h
  exact E8 h1 hK
 case alloc t=>
  split at h
  ·rename_i cs hz;simp only[Option.some.injEq,Prod.mk.injEq]at h;obtain⟨rfl,rfl,rfl⟩:=h;exact⟨cs,hz,hK⟩
  ·cases h
 case box t x=>
  split at h
  ·rename_i cs hz;simp only[Option.some.injEq,Prod.mk.injEq]at h;obtain⟨rfl,rfl,rfl⟩:=h;exact⟨cs,hz,hK⟩
  ·cases h
 case build t parts=>
  obtain⟨x,h1,h⟩:=jq h;simp only[Prod.mk.injEq]at h;obtain⟨rfl,rfl,rfl⟩:=h
  unfold Ay at h1
  split at h1
  ·rename_i z pl hz hp
   split at h1
   ·rename_i cs hc;injection h1 with h1;subst h1;exact⟨z,pl,cs,hz,hp,hc,hK⟩
   ·cases h1
  ·cases h1
 case buildSlice t len parts=>exact sK h hK
 case load t x=>exact E9 h hK
 case store t x y=>exact CK h hK
 case nilCheck x=>
  obtain⟨y,h1,h⟩:=jq h;simp only[Prod.mk.injEq]at h;obtain⟨rfl,rfl,rfl⟩:=h
  exact vU h1 hK
 case binOp op t x y yt=>
  unfold fF at h
  split at h
  ·rename_i z h1
   have h:=lg h;simp only[Prod.mk.injEq]at h;obtain⟨rfl,rfl,rfl⟩:=h
   exact .inl (Jy h1 hK)
  ·right;simp only[h,dk];exact hK
 case unOp op t x=>
  obtain⟨z,h1,h⟩:=jq h;simp only[Prod.mk.injEq]at h;obtain⟨rfl,rfl,rfl⟩:=h
  unfold I0 at h1
  split at h1
  ·rename_i hx;injection h1 with h1;subst h1;exact .inr ⟨rfl,hx,hK⟩
  ·exact .inl (Mn h1 hK)
 case slice t x lo hi mx=>simp only[h,dk];exact hK
 case field t x f=>
  exact VT
 case typeAssert x xt t ok=>
  exact VT
 case makeMap t r=>
  cases r with
  |none=>simp only[h,dk];exact hK
  |some x=>cases h
 case lookup t m k ok=>simp only[h,dk];exact hK
 case mapUpdate t m k v=>simp only[h,dk];exact hK
 case insert t m k v=>simp only[h,dk];exact hK
 case index t x i=>
  exact VT
 case convert u t x=>
  split at h
  ·rename_i d k k' n hu hk hx
   have h:=lg h;simp only[Prod.mk.injEq]at h;obtain⟨rfl,rfl,rfl⟩:=h
   exact⟨by rw[hu];rfl,by simp only[hk,hx];exact hK⟩
  ·cases h
 case makeInterface t x=>
  obtain⟨z,h1,h⟩:=jq h;simp only[Prod.mk.injEq]at h;obtain⟨rfl,rfl,rfl⟩:=h
  obtain⟨h2,rfl⟩:=sJ h1
  refine⟨?_, ?_⟩
  ·unfold my at h2
   cases hd:P.underlying t with
   |none=>simp[hd]at h2
   |some d=>exact⟨d,rfl,by cases d<;>simp_all⟩
  ·split
   ·rename_i y hy;simp only[hy]at hK;exact hK
   ·rename_i hy
    split at hK
    ·rename_i y hy';exact absurd hy' (hy y)
    ·exact hK
 case makeFunc fn first cap=>have h:=lg h;simp only[Prod.mk.injEq]at h;obtain⟨rfl,rfl,rfl⟩:=h;exact hK
 case makeSlice t l c=>
  exact uz h hK
 case fieldAddr t x f=>
  obtain⟨z,h1,h⟩:=jq h;simp only[Prod.mk.injEq]at h;obtain⟨rfl,rfl,rfl⟩:=h
  exact ux h1 hK
 case indexAddr t x i=>
  exact uw h hK
 case extract x i=>
  split at h
  ·rename_i vs hv
   split at h
   ·rename_i u hu
    have h:=lg h;simp only[Prod.mk.injEq]at h;obtain⟨rfl,rfl,rfl⟩:=h
    simp only[hv];exact⟨_,hu,hK⟩
   ·cases h
  ·cases h
 case call c=>
  obtain⟨L9,args,ts⟩:=c
  cases L9<;>simp only at h|- <;>try (cases h;done)
  rename_i b
  unfold qZ at h
  unfold vC
  split at h
  ·rename_i x ha
   simp only[ha]
   split at h
   ·rename_i t xO;exact⟨t,xO,Jz h hK⟩
   ·cases h
  ·rename_i x y ha
   simp only[ha]
   split at h
   ·rename_i r hr
    simp only[Option.some.injEq]at h
    subst h
    exact .inl (by rw[hr];exact hK)
   ·exact .inr (Az h hK)
  ·rename_i x y ha
   exact abt
  ·rename_i x y ha
   exact abt
  ·rename_i x y z ha
   simp only[ha]
   obtain⟨v0,h1,h⟩:=jq h;simp only[Prod.mk.injEq]at h;obtain⟨rfl,rfl,rfl⟩:=h
   exact aaU
  ·rename_i x y ha
   simp only[ha,h,dk];exact hK
  ·rename_i x y ha
   simp only[ha]
   split at h
   ·rename_i t ht;exact⟨t,ht,by simp only[h,dk];exact hK⟩
   ·cases h
  ·rename_i x ha
   simp only[ha,h,dk];exact hK
  ·cases h
 case range t x=>simp only[h,dk];exact hK
 case next x str=>left;simp only[h,dk];exact hK
 case entry x=>simp only[h,dk];exact hK
end
end
section
def vV(P:Program)(g:FuncId)(ds:List D)(o o1 oa:Nat->ad)(K:V->(Nat->ad)->Prop)(X:V->(Nat->ad)->Prop):Prop:=
 ∃out,aW P g ds out/\((match out with| .ret rs=>K (jf rs) o1| .bN x=>X (.d x) o1)\/(out.flat=true/\match out with| .ret rs=>K (jf rs) o| .bN x=>X (.d x) o)\/(out.nv=true/\match out with| .ret rs=>K (jf rs) oa| .bN x=>X (.d x) oa))
def tL(P:Program)(g:FuncId)(args:List V)(o:Nat->ad)(nx:Nat)(K:V->(Nat->ad)->Nat->Prop)(X:V->(Nat->ad)->Nat->Prop):Prop:=pa P g args o nx K X
theorem pa.mono {P:Program}{g:FuncId}{args:List V}{o:Nat->ad}{nx:Nat}{K X K' X':V->(Nat->ad)->Nat->Prop}(hK:∀v o n,K v o n->K' v o n)(hX:∀v o n,X v o n->X' v o n)(h:pa P g args o nx K X):pa P g args o nx K' X':=
 h.imp (bP.mono hK hX) (bP.mono hK hX)
@[congr] theorem TA {P:Program} {g g':FuncId} {ds ds':List D} {o o1 oa:Nat->ad} {K X} (h:g=g') (h':ds=ds'):vV P g ds o o1 oa K X=vV P g' ds' o o1 oa K X:=by subst h;subst h';rfl
@[congr] theorem TC {P:Program} {g g':FuncId} {ct ab2:List V} {o:Nat->ad} {nx:Nat} {K X} (h:g=g') (h':ct=ab2):tL P g ct o nx K X=tL P g' ab2 o nx K X:=by subst h;subst h';rfl
def TD(P:Program)(g:FuncId)(args:List V)(o:Nat->ad)(nx:Nat)(K X:V->(Nat->ad)->Nat->Prop):Prop:=
 (∃ds,cm o args=some ds/\vV P g ds o (put o (bG o (V.bc args))) (put o (ss o (V.bc args))) (fun v o'=>K v o' (nx+1)) (fun v o'=>X v o' (nx+1)))\/bP P g args o nx K X
def KL(P:Program)(s:S)(o:b7)(X:V->S->Prop)(K:S->Prop):Prop:=
 match o.op with
 | .call c=>match c.callee with
   | .value f=>match s.ev f with
     | .func (.func g) first cap=>match cm s.o (first++c.args.toList.map s.ev++cap)with
       |some ds=>vV P g ds s.o (put s.o (bG s.o (V.bc (first++c.args.toList.map s.ev++cap)))) (put s.o (ss s.o (V.bc (first++c.args.toList.map s.ev++cap)))) (fun v o'=>K ⟨a8 s.env o.dst v,o',s.nx+1⟩) (fun v o'=>X v ⟨s.env,o',s.nx+1⟩)\/
        tL P g (first++c.args.toList.map s.ev++cap) s.o s.nx (fun v o' nx'=>K ⟨a8 s.env o.dst v,o',nx'⟩) (fun v o' nx'=>X v ⟨s.env,o',nx'⟩)
       |none=>tL P g (first++c.args.toList.map s.ev++cap) s.o s.nx (fun v o' nx'=>K ⟨a8 s.env o.dst v,o',nx'⟩) (fun v o' nx'=>X v ⟨s.env,o',nx'⟩)
     | .kH id=>dQ P id (c.args.toList.map s.ev) s.o s.nx (fun v o' nx'=>K ⟨a8 s.env o.dst v,o',nx'⟩) (fun v o' nx'=>X v ⟨s.env,o',nx'⟩)
     |_=>False
   | .invoke r m=>match vO P m (s.ev r)with
     |some (g,y)=>TD P g (y::c.args.toList.map s.ev) s.o s.nx (fun v o' nx'=>K ⟨a8 s.env o.dst v,o',nx'⟩) (fun v o' nx'=>X v ⟨s.env,o',nx'⟩)
     |none=>False
   |_=>match gM P s s.nx o.op with
    |some (v,Δ,_)=>K ⟨a8 s.env o.dst v,put s.o Δ,s.nx+1⟩
    |none=>False
 | .panic x=>match s.ev x with
   | .d (.iface t y)=>X (.d (.iface t y)) s
   | .iface t y=>X (.iface t y) s
   |_=>False
 | .next x str=>match pq s.o (s.ev x)with
   |some (id,l)=>str=false/\GQ id l fun v Δ _=>K ⟨a8 s.env o.dst v,put s.o Δ,s.nx+1⟩
   |none=>match gM P s s.nx o.op with
    |some (v,Δ,_)=>K ⟨a8 s.env o.dst v,put s.o Δ,s.nx+1⟩
    |none=>False
 |op=>match gM P s s.nx op with
  |some (v,Δ,_)=>K ⟨a8 s.env o.dst v,put s.o Δ,s.nx+1⟩
  |none=>False
def pQ(P:Program)(X:V->S->Prop)(K:S->Prop):List b7->S->Prop
 |[],s=>K s
 |o::l,s=>match o.gd with
  |none=>KL P s o X (pQ P X K l)
  |some (d,want)=>match s.env d with
   | .d (.bool b)=>if b=want then KL P s o X (pQ P X K l)else pQ P X K l ⟨a8 s.env o.dst (.bY []),s.o,s.nx+1⟩
   | .bY []=>pQ P X K l ⟨a8 s.env o.dst (.bY []),s.o,s.nx+1⟩
   |_=>False
def Mo(b:Nat)(body:(fK->S->Prop)->S->Prop)(Q:fK->S->Prop)(s:S):Prop:=
 ∃ (J:Nat->S->Prop),(∃m s1,bL b s s1/\J m s1)/\∀m s0,J m s0->body (fun e s=>match e with| .normal=>∃m' s1,m'<m/\bL b s s1/\J m' s1|e=>Q e s) s0
@[congr] theorem TE {b:Nat} {body Q} {s s':S} (h:s=s'):Mo b body Q s=Mo b body Q s':=by subst h;rfl
def q8(t:Bool)(A B:Prop):Prop:=(t=true->A)/\(t=false->B)
@[congr] theorem TF {t t':Bool} {A B:Prop} (h:t=t'):q8 t A B=q8 t' A B:=by subst h;rfl
@[simp] theorem vW (A B:Prop):q8 true A B=A:=by simp[q8]
@[simp] theorem tM (A B:Prop):q8 false A B=B:=by simp[q8]
section
variable {P:Program}{n b:Nat}
theorem Ha{s:S}{o:b7}{o':Oper}{X X':V->S->Prop}{K K':S->Prop}(gy:o'.op=o.op)(db:o'.dst=o.dst)(hd:gS n o'.dst)(hK:∀s,K s->K' s)(hX:∀v s,X v s->X' v s)(h:KL P s o X K):opW P n s o' X' K':=by
 refine⟨hd, ?_⟩
 rw[db,gy]
 unfold KL at h
 have hs:∀ {op:Op},(match gM P s s.nx op with|some (v,Δ,_)=>K ⟨a8 s.env o.dst v,put s.o Δ,s.nx+1⟩|none=>False)->Th P s s.nx op fun v Δ _=>K' ⟨a8 s.env o.dst v,put s.o Δ,s.nx+1⟩:=by
  intro op h
  split at h
  ·rename_i v Δ rd he;exact CL he (hK _ h)
  ·exact h.elim
 split at h
 ·rename_i c hc
  split at h
  ·rename_i f fi
   simp only[hc,fi]
   split at h
   ·rename_i g first cap hf
    unfold Cz
    simp only[hf]
    unfold vN
    split at h
    ·rename_i ds fj
     rcases h with⟨out,hP,h|⟨oV,h⟩|⟨oV,h⟩⟩|h
     ·exact SY
     ·exact SP
     ·exact abJ
     ·exact Sa
    ·exact Sa
   ·rename_i id hf
    unfold Cz
    simp only[hf]
    exact dQ.mono (fun v o n h=>hK _ h) (fun v o n h=>hX _ _ h) h
   ·exact h.elim
  ·rename_i r m fi
   simp only[hc,fi]
   split at h
   ·rename_i g y hr
    simp only[hr]
    unfold vN
    rcases h with⟨ds,fj,out,hP,h|⟨oV,h⟩|⟨oV,h⟩⟩|h
    ·exact SY
    ·exact SP
    ·exact abJ
    ·exact .inr (.inr (.inr (.inl (bP.mono (fun v o n h=>hK _ h) (fun v o n h=>hX _ _ h) h))))
   ·exact h.elim
  ·rename_i fi hinv
   rw[hc]at h|-
   obtain⟨L9,args,ts⟩:=c
   cases L9 with
   |value f=>exact absurd rfl (fi f)
   |invoke r m=>exact absurd rfl (hinv r m)
   |_=>exact hs h
 ·rename_i x hx
  simp only[hx]
  split at h
  ·rename_i hv;simp only[hv];exact hX _ _ h
  ·rename_i hv;simp only[hv];exact hX _ _ h
  ·exact h.elim
 ·rename_i x str hx
  rw[hx]at h|-
  split at h
  ·rename_i id l hl
   exact .inr ⟨h.1,id,l,hl,fun e=>hK _ (h.2.1 e),fun i k x e=>hK _ (h.2.2 i k x e)⟩
  ·exact hs h
 ·rename_i hc hp uq
  have h2:=hs h
  cases hh:o.op<;>first
   |exact absurd hh (hc _)
   |exact absurd hh (hp _)
   |exact absurd hh (uq _ _)
   |(rw[hh]at h2;exact h2)
theorem jB{ops:Array Oper}{X X':V->S->Prop}{K K':S->Prop}(hK:∀s,K s->K' s)(hX:∀v s,X v s->X' v s):∀ (l:List Oper) (l':List b7) (s:S),lF n ops l=some l'->pQ P X K l' s->Ap P n ops X' K' l s
 |[],l',s,h,hr=>by simp[lF]at h;subst h;exact hK _ hr
 |o::l,l',s,h,hr=>by
  simp only[lF]at h
  split at h
  ·rename_i x xs hx Af
   injection h with h;subst h
   unfold LL at hx
   split at hx
   ·rename_i hd
    have db:gS n o.dst:=by
     unfold EG at hd;unfold gS
     split at hd<;>simp_all
    simp only[Ap,Ao]
    cases hg:o.guard with
    |none=>
     simp only[hg]at hx
     injection hx with hx;subst hx
     exact Ha rfl rfl db (fun s hs=>jB hK hX l xs s Af hs) hX hr
    |some p=>
     obtain⟨j,want⟩:=p
     simp only[hg]at hx
     cases TG:tz ops j with
     |none=>simp[TG]at hx
     |some d=>
      simp only[TG]at hx
      injection hx with hx;subst hx
      simp only
      simp only[pQ]at hr
      split at hr
      ·rename_i t ht
       simp only[TG,ht]
       split at hr
       ·rename_i e
        exact⟨fun _=>Ha rfl rfl db (fun s hs=>jB hK hX l xs s Af hs) hX hr,fun h=>absurd e h⟩
       ·rename_i e
        exact⟨fun h=>absurd h e,fun _=>⟨db,jB hK hX l xs _ Af hr⟩⟩
      ·rename_i ht
       simp only[TG,ht]
       exact⟨db,jB hK hX l xs _ Af hr⟩
      ·exact hr.elim
   ·cases hx
  ·cases h
end
end
section
mutual
def V.refs:V->List Nat
 | .ptr id _=>[id]| .osl id _=>[id]| .pe id _ _ _ _=>[id]| .yq id _ _=>[id]| .mp id=>[id]| .kH id=>[id]
 | .agg cs=>V.aL cs
 | .bY cs=>V.aL cs
 | .func _ a b=>V.aL a++V.aL b
 | .iface _ x=>x.refs
 |_=>[]
def V.aL:List V->List Nat
 |[]=>[]
 |v::vs=>v.refs++V.aL vs
end
mutual
theorem j5:∀ (v:V),∀id∈v.ids,id∈v.refs
 | .osl id _,j,h=>by simpa[V.ids,V.refs]using h
 | .agg cs,j,h=>by simp only[V.ids]at h;simp only[V.refs];exact l9 cs j h
 | .iface _ x,j,h=>by simp only[V.ids]at h;simp only[V.refs];exact j5 x j h
 | .mp _,j,h=>by simpa[V.ids,V.refs]using h
 | .d _,_,h| .ax,_,h| .bY _,_,h| .ptr _ _,_,h| .pe _ _ _ _ _,_,h| .pp _ _,_,h| .func _ _ _,_,h| .ab,_,h| .pb _,_,h| .yq _ _ _,_,h| .fH,_,h| .kH _,_,h=>by simp[V.ids]at h
theorem l9:∀ (vs:List V),∀id∈V.bc vs,id∈V.aL vs
 |[],j,h=>by simp[V.bc]at h
 |v::vs,j,h=>by
  simp only[V.bc,V.aL,List.mem_append]at h|-
  exact h.imp (j5 v j) (l9 vs j)
end
mutual
theorem dw{o o':Nat->ad}:∀ (v:V),(∀id∈v.refs,o' id=o id)->dM o' v=dM o v
 | .osl id ep,h=>by simp only[dM,h id (by simp[V.refs])]
 | .mp id,h=>by simp only[dM,h id (by simp[V.refs])]
 | .agg cs,h=>by simp only[dM,iI cs (by simpa[V.refs]using h)]
 | .iface t x,h=>by simp only[dM,dw x (by simpa[V.refs]using h)]
 | .d _,_| .ax,_| .bY _,_| .ptr _ _,_| .pe _ _ _ _ _,_| .pp _ _,_| .func _ _ _,_| .ab,_| .pb _,_| .yq _ _ _,_| .fH,_| .kH _,_=>by simp only[dM]
theorem iI{o o':Nat->ad}:∀ (vs:List V),(∀id∈V.aL vs,o' id=o id)->cm o' vs=cm o vs
 |[],_=>rfl
 |v::vs,h=>by
  simp only[cm,dw v (fun id aw=>h id (by simp[V.aL,aw])),iI vs (fun id aw=>h id (by simp[V.aL,aw]))]
end
theorem iC{o o':Nat->ad}{ids:List Nat}(h:∀id∈ids,o' id=o id):bG o' ids=bG o ids:=by
 rw[mg,mg]
 exact List.map_congr_left fun id aw=>by rw[h id aw]
def o9(s:S)(op:Op):List Nat:=
 match op with
 | .load _ x=>(s.ev x).refs
 | .nilCheck x=>(s.ev x).refs
 | .fieldAddr _ x _=>(s.ev x).refs
 | .indexAddr _ x _=>(s.ev x).refs
 | .store _ x v=>(s.ev x).refs++(s.ev v).refs
 | .buildSlice _ _ parts=>V.aL (parts.toList.map fun p=>s.ev p.2)
 | .binOp _ _ x y _=>(s.ev x).refs++(s.ev y).refs
 | .slice _ x _ _ _=>(s.ev x).refs
 | .lookup _ m k _=>(s.ev m).refs++(s.ev k).refs
 | .mapUpdate _ m k v=>(s.ev m).refs++((s.ev k).refs++(s.ev v).refs)
 | .insert _ m k v=>(s.ev m).refs++((s.ev k).refs++(s.ev v).refs)
 | .range _ x=>(s.ev x).refs
 | .next x _=>(s.ev x).refs
 | .entry x=>(s.ev x).refs
 | .call c=>match c.callee with
   | .builtin _=>V.aL (c.args.toList.map s.ev)
   | .value f=>match s.ev f with
     | .func _ first cap=>V.aL (first++c.args.toList.map s.ev++cap)
     |_=>[]
   |_=>[]
 |_=>[]
section
variable {P:Program}{s s':S}{fr:Nat}
theorem tN{o o':Nat->ad}(v:V)(h:∀id∈v.refs,o' id=o id):qW o' v=qW o v:=by
 cases v with
 |osl id ep=>simp only[qW,h id (by simp[V.refs])]
 |d x=>cases x<;>rfl
 |_=>rfl
theorem tO{o o':Nat->ad}(v:V)(q:Nat)(h:∀id∈v.refs,o' id=o id):px o' v q=px o v q:=by
 cases v<;>simp only[px]<;>rw[h _ (by simp[V.refs])]
theorem Fa{o o':Nat->ad}(v:V)(h:∀id∈v.refs,o' id=o id):Ca o' v=Ca o v:=by
 have h1:eY o' v=eY o v:=by unfold eY;rw[dw v h]
 cases v<;>first|rfl|simp only[Ca,h1]
theorem AA{o o':Nat->ad}(v:V)(h:∀id∈v.refs,o' id=o id):sv o' v=sv o v:=by
 cases v with
 |mp id=>simp only[sv,h id (by simp[V.refs])]
 |d x=>cases x<;>rfl
 |_=>rfl
theorem AB{o o':Nat->ad}(v:V)(h:∀id∈v.refs,o' id=o id):sw o' v=sw o v:=by
 cases v with
 |ptr id off=>simp only[sw,h id (by simp[V.refs])]
 |d x=>cases x<;>rfl
 |_=>rfl
theorem nD{o o':Nat->ad}(v:V)(h:∀id∈v.refs,o' id=o id):pk o' v=pk o v:=by
 cases v with
 |mp id=>simp only[pk,h id (by simp[V.refs])]
 |d x=>cases x<;>rfl
 |_=>rfl
theorem CM{o o':Nat->ad}(v:V)(h:∀id∈v.refs,o' id=o id):qA o' v=qA o v:=by
 cases v with
 |mp id=>simp only[qA,h id (by simp[V.refs])]
 |d x=>cases x<;>rfl
 |_=>rfl
theorem CN{o o':Nat->ad}(v:V)(str:Bool)(h:∀id∈v.refs,o' id=o id):pn o' v str=pn o v str:=by
 cases v with
 |ptr id off=>cases off<;>simp only[pn,h id (by simp[V.refs])]
 |_=>rfl
theorem AD{o o':Nat->ad}(v:V)(h:∀id∈v.refs,o' id=o id):nj o' v=nj o v:=by
 cases v with
 |ptr id off=>cases off<;>simp only[nj,h id (by simp[V.refs])]
 |_=>rfl
theorem AE{o o':Nat->ad}{fr:Nat}{t:TypeId}{P:Program}(v:V)(h:∀id∈v.refs,o' id=o id):ni P o' fr t v=ni P o fr t v:=by
 unfold ni
 cases v with
 |mp id=>simp only[h id (by simp[V.refs])]
 |d x=>cases x<;>rfl
 |_=>rfl
theorem AF{o o':Nat->ad}(v:V)(h:∀id∈v.refs,o' id=o id):pH o' v=pH o v:=by
 cases v with
 |ptr id off=>simp only[pH,h id (by simp[V.refs])]
 |_=>rfl
theorem AG{o o':Nat->ad}(v:V)(h:∀id∈v.refs,o' id=o id):pI o' v=pI o v:=by
 cases v with
 |yq id off n=>simp only[pI,h id (by simp[V.refs])]
 |_=>rfl
theorem Fb(op:Op)(hv:∀x∈op.operands,s'.ev x=s.ev x)(ho:∀id∈o9 s op,s'.o id=s.o id):gM P s' fr op=gM P s fr op:=by
 cases op<;>simp only[gM]
 case move x=>rw[hv x (by simp[Op.operands])]
 case assign x=>rw[hv x (by simp[Op.operands])]
 case pick c a b=>rw[hv c (by simp[Op.operands]),hv a (by simp[Op.operands]),hv b (by simp[Op.operands])]
 case box t x=>rw[hv x (by simp[Op.operands])]
 case build t parts=>
  have:(parts.toList.map fun p=>(p.1,s'.ev p.2))=parts.toList.map fun p=>(p.1,s.ev p.2):=
   List.map_congr_left fun p hp=>by rw[hv p.2 (by simp only[Op.operands];simp;exact⟨p.1,by simpa using hp⟩)]
  rw[this]
 case buildSlice t len parts=>
  have:(parts.toList.map fun p=>(p.1,s'.ev p.2))=parts.toList.map fun p=>(p.1,s.ev p.2):=
   List.map_congr_left fun p hp=>by rw[hv p.2 (by simp only[Op.operands];simp;exact⟨p.1,by simpa using hp⟩)]
  rw[this]
  have e:(parts.toList.map fun p=>(p.1,s.ev p.2)).map (·.2)=parts.toList.map fun p=>s.ev p.2:=by simp[Function.comp_def]
  have h1:cm s'.o ((parts.toList.map fun p=>(p.1,s.ev p.2)).map (·.2))=cm s.o ((parts.toList.map fun p=>(p.1,s.ev p.2)).map (·.2)):=iI _ (by rw[e];exact ho)
  have h2:bG s'.o (V.bc ((parts.toList.map fun p=>(p.1,s.ev p.2)).map (·.2)))=bG s.o (V.bc ((parts.toList.map fun p=>(p.1,s.ev p.2)).map (·.2))):=
   iC fun id aw=>ho id (by rw[e]at aw;exact l9 _ id aw)
  simp only[gC,h1,h2]
 case load t x=>
  rw[hv x (by simp[Op.operands])]
  cases hx:s.ev x<;>simp only[nC]<;>rw[ho _ (by simp[o9,hx,V.refs])]
 case store t x y=>
  rw[hv x (by simp[Op.operands]),hv y (by simp[Op.operands])]
  have h1:dM s'.o (s.ev y)=dM s.o (s.ev y):=dw _ fun id aw=>ho id pG
  have h2:bG s'.o (s.ev y).ids=bG s.o (s.ev y).ids:=iC fun id aw=>ho id (by simp[o9,j5 _ _ aw])
  cases hx:s.ev x<;>simp only[sI]<;>rw[ho _ (by simp[o9,hx,V.refs])]
  simp only[h1,h2]
 case nilCheck x=>
  rw[hv x (by simp[Op.operands])]
  cases hx:s.ev x with
  |ptr id off=>simp only[jA];rw[ho _ (by simp[o9,hx,V.refs])]
  |func fn a b=>cases fn<;>rfl
  |_=>rfl
 case binOp op t x y yt=>
  rw[hv x (by simp[Op.operands]),hv y (by simp[Op.operands])]
  have h1:Ca s'.o (s.ev x)=Ca s.o (s.ev x):=Fa _ fun id aw=>ho id pG
  have h2:∀a b,qu P s'.o a b (s.ev x) (s.ev y)=qu P s.o a b (s.ev x) (s.ev y):=fun a b=>by
   have h3:∀id∈(s.ev x).refs,s'.o id=s.o id:=fun id aw=>ho id pG
   have h4:=AA (s.ev x) h3
   have h5:=AB (s.ev x) h3
   unfold qu
   rw[h1,h4,h5]
  unfold fF sy
  simp only[h2]
 case slice t x lo hi mx=>
  rw[hv x (by simp[Op.operands])]
  have e1:lo.map s'.ev=lo.map s.ev:=by cases lo<;>simp[hv,Op.operands]
  have e2:hi.map s'.ev=hi.map s.ev:=by cases hi<;>simp[hv,Op.operands]
  have e3:mx.map s'.ev=mx.map s.ev:=by cases mx<;>simp[hv,Op.operands]
  rw[e1,e2,e3]
  have h3:∀id∈(s.ev x).refs,s'.o id=s.o id:=fun id aw=>ho id pG
  have h1:eY s'.o (s.ev x)=eY s.o (s.ev x):=by unfold eY;rw[dw _ h3]
  have h2:bG s'.o (s.ev x).ids=bG s.o (s.ev x).ids:=iC fun id aw=>h3 id (j5 _ _ aw)
  have h4:EK P s'.o t (s.ev x) (lo.map s.ev) (hi.map s.ev) (mx.map s.ev)=EK P s.o t (s.ev x) (lo.map s.ev) (hi.map s.ev) (mx.map s.ev):=by
   cases hx:s.ev x with
   |osl id ep=>simp only[EK,h3 id (by simp[hx,V.refs])]
   |_=>rfl
  unfold su qy
  simp only[h1,h2,h4,AF _ h3]
 case field t x f=>rw[hv x (by simp[Op.operands])]
 case typeAssert x xt t ok=>rw[hv x (by simp[Op.operands])]
 case makeMap t r=>cases r<;>rfl
 case lookup t m k ok=>
  rw[hv m (by simp[Op.operands]),hv k (by simp[Op.operands])]
  have h3:∀id∈(s.ev m).refs,s'.o id=s.o id:=fun id aw=>ho id pG
  have h1:dM s'.o (s.ev k)=dM s.o (s.ev k):=dw _ fun id aw=>ho id pG
  unfold jr
  simp only[h1,CM _ h3]
 case mapUpdate t m k v=>
  rw[hv m (by simp[Op.operands]),hv k (by simp[Op.operands]),hv v (by simp[Op.operands])]
  have h3:∀id∈(s.ev m).refs,s'.o id=s.o id:=fun id aw=>ho id pG
  have h1:dM s'.o (s.ev k)=dM s.o (s.ev k):=dw _ fun id aw=>ho id pG
  have h2:dM s'.o (s.ev v)=dM s.o (s.ev v):=dw _ fun id aw=>ho id pG
  have h4:bG s'.o (s.ev v).ids=bG s.o (s.ev v).ids:=iC fun id aw=>ho id (by simp[o9,j5 _ _ aw])
  unfold fZ
  simp only[h1,h2,h4,nD _ h3]
 case insert t m k v=>
  rw[hv m (by simp[Op.operands]),hv k (by simp[Op.operands]),hv v (by simp[Op.operands])]
  have h3:∀id∈(s.ev m).refs,s'.o id=s.o id:=fun id aw=>ho id pG
  have h1:dM s'.o (s.ev k)=dM s.o (s.ev k):=dw _ fun id aw=>ho id pG
  have h2:dM s'.o (s.ev v)=dM s.o (s.ev v):=dw _ fun id aw=>ho id pG
  have h4:bG s'.o (s.ev v).ids=bG s.o (s.ev v).ids:=iC fun id aw=>ho id (by simp[o9,j5 _ _ aw])
  unfold fZ
  simp only[h1,h2,h4,nD _ h3]
 case index t x i=>rw[hv x (by simp[Op.operands]),hv i (by simp[Op.operands])]
 case range t x=>
  rw[hv x (by simp[Op.operands])]
  exact AE _ fun id aw=>ho id pG
 case next x str=>
  rw[hv x (by simp[Op.operands])]
  exact CN _ _ fun id aw=>ho id pG
 case entry x=>
  rw[hv x (by simp[Op.operands])]
  exact AD _ fun id aw=>ho id pG
 case unOp op t x=>rw[hv x (by simp[Op.operands])]
 case convert u t x=>rw[hv x (by simp[Op.operands])]
 case makeInterface t x=>rw[hv x (by simp[Op.operands])]
 case makeFunc fn first cap=>
  have h1:first.toList.map s'.ev=first.toList.map s.ev:=List.map_congr_left fun x hx=>hv x (by simp only[Op.operands];exact Array.mem_append.2 (.inl (Array.mem_toList_iff.1 hx)))
  have h2:cap.toList.map s'.ev=cap.toList.map s.ev:=List.map_congr_left fun x hx=>hv x (by simp only[Op.operands];exact Array.mem_append.2 (.inr (Array.mem_toList_iff.1 hx)))
  rw[h1,h2]
 case makeSlice t l c=>rw[hv l (by simp[Op.operands]),hv c (by simp[Op.operands])]
 case fieldAddr t x f=>
  rw[hv x (by simp[Op.operands])]
  simp only[iH]
  cases b8 P t f<;>simp only
  rw[tO _ _ (by simpa[o9]using ho)]
 case indexAddr t x i=>
  rw[hv x (by simp[Op.operands]),hv i (by simp[Op.operands])]
  have h1:∀q,px s'.o (s.ev x) q=px s.o (s.ev x) q:=fun q=>tO _ _ (by simpa[o9]using ho)
  simp only[iG,h1]
  cases hx:s.ev x with
  |osl id ep=>simp only[ho id (by simp[o9,hx,V.refs])]
  |d y=>cases y<;>rfl
  |_=>rfl
 case extract x i=>rw[hv x (by simp[Op.operands])]
 case call c=>
  obtain⟨L9,args,ts⟩:=c
  cases L9<;>simp only
  rename_i b
  unfold qZ
  have hm:∀x∈args.toList,s'.ev x=s.ev x:=fun x hx=>hv x aaS
  have hr:∀x∈args.toList,∀id∈(s.ev x).refs,s'.o id=s.o id:=by
   intro x hx id aw
   refine ho id ?_
   simp only[o9]
   generalize args.toList=l at hx
   induction l with
   |nil=>cases hx
   |cons y l ih=>
    simp only[List.map_cons,V.aL,List.mem_append]
    rcases List.mem_cons.1 hx with rfl|hx
    ·exact .inl aw
    ·exact .inr (ih hx)
  split
  ·rename_i x ha
   rw[ha]at hm hr
   rw[hm x (by simp)]
   have h1:∀t,E6 P t s'.o (s.ev x)=E6 P t s.o (s.ev x):=fun t=>by simp only[E6,tN _ (hr x (by simp))]
   simp only[h1]
  ·rename_i x y ha
   rw[ha]at hm hr
   rw[hm x (by simp),hm y (by simp)]
   simp only[qX,tN _ (hr y (by simp))]
   cases yx P fr ts (s.ev x) (s.ev y)with
   |some r=>rfl
   |none=>
   dsimp only
   cases hx:s.ev x with
   |osl id ep=>simp only[hr x (by simp) id (by simp[hx,V.refs])]
   |_=>rfl
  ·rename_i x y ha
   rw[ha]at hm
   rw[hm x (by simp),hm y (by simp)]
  ·rename_i x y ha
   rw[ha]at hm
   rw[hm x (by simp),hm y (by simp)]
  ·rename_i x y z h;rw[hm x (by rw[h];simp),hm y (by rw[h];simp),hm z (by rw[h];simp)]
  ·rename_i x y ha
   rw[ha]at hm hr
   rw[hm x (by simp),hm y (by simp)]
   have h1:eY s'.o (s.ev y)=eY s.o (s.ev y):=by unfold eY;rw[dw _ (hr y (by simp))]
   have h2:bG s'.o (s.ev y).ids=bG s.o (s.ev y).ids:=iC fun id aw=>hr y aE id (j5 _ _ aw)
   unfold yw
   simp only[h1,h2,AG _ (hr x (by simp))]
  ·rename_i x y ha
   rw[ha]at hm hr
   rw[hm x (by simp),hm y (by simp)]
   have h1:dM s'.o (s.ev y)=dM s.o (s.ev y):=dw _ (hr y aE)
   have h2:=nD _ (hr x aE)
   simp only[oA,h1,h2]
  ·rename_i x ha
   rw[ha]at hm
   rw[hm x (by simp)]
  ·rfl
end
end
end Go.Proofs.YtlhemmpklhhgoaaGreat
