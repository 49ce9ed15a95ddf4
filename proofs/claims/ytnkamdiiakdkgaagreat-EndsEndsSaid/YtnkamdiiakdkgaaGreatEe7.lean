/-
  A PART. Conditions: none.
-/
import Derived.Test.YtnkamdiiakdkgaaGreatEe6
set_option linter.unusedSimpArgs false
set_option linter.unusedVariables false
set_option maxHeartbeats 8000000
namespace Go.Proofs.YtnkamdiiakdkgaaGreat
section
section
variable {P:Program}{M:Nat->Prop}{φ:Place}{H:Hp}{w w':World}{cY:Place}{H0:Hp}{w0:World}{n b:Nat}{s:S}{a:Act}{cx:Cx}{ro:Option Nat}{k:Nat}
theorem jc(hb:∀id,H0.us id->id<b)(vO:cx.rd=false->ro=none):∀ (c:Code) (Q:fW->S->Prop) (s:S) (φ:Place) (a:Act) (w:World),jW P n b cx.rd c Q s->cG M cY H0 w0 n cx φ s a w->c.vl P ro (I1 M cY H0 w0 n cx Q) a w:=by
 intro c
 induction c with
 |skip=>exact fun Q s φ a w h hs=>qH (k:=0) (wpIn_skip ⟨.normal,s,φ,h,hs,trivial⟩)
 |scope x ih=>exact fun Q s φ a w h hs=>z8 (ih Q s φ a w h hs) (fun l a w ⟨xx,s',aH,hq,j7,hm⟩=>by cases xx<;>exact hm)
 |label l=>exact fun Q s φ a w h hs=>qH (k:=0) (wpIn_label ⟨.normal,s,φ,h,hs,trivial⟩)
 |exit id=>exact fun Q s φ a w h hs=>DV ⟨.exit id,s,φ,h,hs,rfl⟩
 |ret=>exact fun Q s φ a w h hs=>I2 ⟨.ret,s,φ,h,hs,trivial⟩
 |goto l=>exact fun Q s φ a w h hs=>h.elim
 |refuse y=>exact fun Q s φ a w h hs=>h.elim
 |rangeFunc g ps x y=>
  intro Q s φ a w h hs
  obtain⟨h1,s',hle,h2⟩:=h
  rcases hle with rfl|hle
  ·exact Ac hs h1 (vO h1) h2
  ·obtain⟨aH,j7⟩:=GQ hb hs hle
   exact Ac j7 h1 (vO h1) h2
 |region id ops draw=>
  intro Q s φ a w h hs
  cases draw with
  |true=>exact qH (h M cY H0 w0 cx φ a w ro 0 hs)
  |false=>
   refine qH (k:=0) (wpIn_region_list (qG (K:=Q .normal) (X:=fun v s=>Q (.bU v) s) (fun s φ a w hk hs=>⟨.normal,s,φ,hk,hs,trivial⟩) (fun v s φ a w val hx hs hd=>⟨.bU v,s,φ,hx,hs,val,rfl,hd⟩) _ s φ a w h hs))
 |seq x y R3 R4=>
  intro Q s φ a w h hs
  refine BB (iI (R3 _ s φ a w h hs) ?_)
  rintro e a' w' ⟨xx,s',aH,hq,j7,hm⟩
  cases e<;>cases xx<;>first|(exact hm.elim)|skip
  ·exact R4 Q s' aH a' w' hq j7
  ·subst hm;exact⟨_,s',aH,hq,j7,rfl⟩
  ·exact Nl
  ·exact Nt
 |cond c x y R3 R4=>
  intro Q s φ a w h hs
  simp only[jW]at h
  have hc:=ox (M:=M) (φ:=φ) (H:=s.H) (w:=w) s a hs.env c
  split at h
  ·rename_i t hv
   rw[hv]at hc
   simp only[V.den,D.den]at hc
   cases t with
   |true=>exact rN hc (R3 Q s φ a w (h.1 rfl) hs)
   |false=>exact rN hc (R4 Q s φ a w (h.2 rfl) hs)
  ·rename_i hv
   rw[hv]at hc
   obtain⟨t,hc⟩:=hc
   cases t with
   |true=>exact rN hc (R3 Q s φ a w h.1 hs)
   |false=>exact rN hc (R4 Q s φ a w h.2 hs)
  ·exact h.elim
 |block id x ih=>
  intro Q s φ a w h hs
  refine K9 (iI (ih _ s φ a w h hs) ?_)
  rintro e a' w' ⟨xx,s',aH,hq,j7,hm⟩
  cases e<;>cases xx<;>first|(exact hm.elim)|skip
  ·exact⟨.normal,s',aH,hq,j7,trivial⟩
  ·subst hm
   simp only[Exit.inBlock]
   simp only[fZ]at hq
   split
   ·rename_i he;rw[if_pos he]at hq;exact⟨.normal,s',aH,hq,j7,trivial⟩
   ·rename_i he;rw[if_neg he]at hq;exact⟨.exit _,s',aH,hq,j7,rfl⟩
  ·exact Nl
  ·exact Nt
 |loop x ih=>
  intro Q s φ a w h hs
  obtain⟨J,⟨m0,s1,hle,hI⟩,qJ⟩:=h
  obtain⟨jJ,Ad⟩:=GQ hb hs hle
  refine BD (fun m a w=>∃s φ,J m s/\cG M cY H0 w0 n cx φ s a w) ?_ m0 a w ⟨s1,jJ,hI,Ad⟩
  rintro m a w ⟨s,φ,hI,hs⟩
  refine iI (ih _ s φ a w (qJ m s hI) hs) ?_
  rintro e a' w' ⟨xx,s',aH,hq,j7,hm⟩
  cases e<;>cases xx<;>first|(exact hm.elim)|skip
  ·obtain⟨m2,s2,cS,Yv,I5⟩:=hq
   obtain⟨Lb,La⟩:=GQ hb j7 Yv
   exact⟨m2,cS,s2,Lb,I5,La⟩
  ·subst hm;exact⟨_,s',aH,hq,j7,rfl⟩
  ·exact Nl
  ·exact Nt
def Od(tmps:Array Value)(r:ResultVar):Sem Value:=
 match r with
 | .tmp t=>pure (tmps.getD t undef)
 | .cell p t=>do loadVar t (<- asAddr (tmps.getD p undef))
theorem vP(rO:ay M φ s.H w)(eA:∀i,V.den (ao M φ s.H) φ s.H w (s.env i) (a.tmps.getD i undef)):∀ (rs:List ResultVar) (vs:List V),ni P s rs=some vs->
 ∃vals,(rs.mapM (Od a.tmps)).run P w= .ok vals w/\V.aG (ao M φ s.H) φ s.H w vs vals
 |[],vs,h=>by simp[ni]at h;subst h;exact⟨[],aJ,rfl⟩
 | .tmp t::rs,vs,h=>by
   simp only[ni,Option.map_eq_some_iff]at h
   obtain⟨us,h1,rfl⟩:=h
   obtain⟨vals,h2,h3⟩:=vP rO eA rs us h1
   exact⟨a.tmps.getD t undef::vals,by simp only[List.mapM_cons,Od,Sem.run_bind,Sem.run_pure,Result.andThen_ok,h2],_,_,rfl,eA t,h3⟩
 | .cell p t::rs,vs,h=>by
   simp only[ni]at h
   split at h
   ·rename_i id off hv
    split at h
    ·rename_i cs ho
     simp only[Option.bind_eq_some_iff,Option.map_eq_some_iff]at h
     obtain⟨v,h0,us,h1,rfl⟩:=h
     obtain⟨vals,h2,h3⟩:=vP rO eA rs us h1
     have hx:=eA p
     rw[hv]at hx
     obtain⟨_,hu,hp⟩:=hx
     obtain⟨k,dz,fK⟩:=hp (by show(s.o id).bF=true;rw[ho];rfl)
     have bp:=rO.ok id
     have wu:s.H.o id= .row cs:=ho
     simp only[aO,wu]at bp
     obtain⟨b',dk,ty,g1,g2,g3,g4⟩:=bp
     rw[dz]at g1;simp at g1;subst g1
     obtain⟨val,h4,h5⟩:=rz (P:=P) h0 ⟨k,0,none⟩ dk.toList g3 g4 (fun j u hj=>rA g2 j u od) rfl
     rw[add_plain,Nat.zero_add]at h4
     have h6:(loadVar t ⟨k,off,none⟩).run P w= .ok val w:=by simpa[Instr.loadAt,Instr.sureAddr]using h4
     exact⟨val::vals,by simp only[List.mapM_cons,Od,fK,asAddr,Sem.run_bind,Sem.run_pure,Result.andThen_ok,h6,h2],val,vals,rfl,h5,h3⟩
    ·cases h
   ·cases h
theorem oI{fn:Func}{tmps:Array Value}{vals:List Value}
 (h:(fn.results.toList.mapM (Od tmps)).run P w= .ok vals w):
 (results fn tmps).run P w= .ok (if h:vals.toArray.size=1 then vals.toArray[0]else .tuple vals.toArray) w:=by
 have e:results fn tmps=(do let vs <- fn.results.mapM (Od tmps);pure (if h:vs.size=1 then vs[0]else .tuple vs)):=by
  unfold results
  congr 2
 rw[e,Array.mapM_eq_mapM_toList]
 simp only[Sem.run_bind,Sem.run_map,h,Result.andThen_ok,Sem.run_pure]
theorem mB{us:Nat->Prop}(φ:Place)(hM:∀k,M k->k<w.heap.size):ay M φ ⟨fun _=> .no,us⟩ w where
 ok id:=by simp[aO]
 fresh _ _:=rfl
 apart i j k hi:=by simp[aa.live]at hi
 ours k:=by rintro⟨id,h,_⟩;simp[aa.live]at h
 Bh:=hM
theorem Lc{vals:Array Value}{m i:Nat}:(vals++Array.replicate m undef).getD i undef=(vals[i]?).getD undef:=by
 simp only[Array.getD_eq_getD_getElem?,Array.getElem?_append]
 split
 ·rfl
 ·rw[Array.getElem?_eq_none (xs:=vals) (by omega)]
  simp only[Array.getElem?_replicate]
  split<;>rfl
structure BE (M:Nat->Prop) (cY:Place) (H0:Hp) (w0:World) (φ:Place) (s:S) (tmps:Array Value) (w:World):Prop where
 heap:ay M φ s.H w
 tr:Trans cY H0 w0 φ s.H w
 env:∀i,V.den (ao M φ s.H) φ s.H w (s.env i) (tmps.getD i undef)
theorem Ld{tmps:Array Value}(hs:BE M cY H0 w0 φ s tmps w){r:Nat}(h1:w0.heap.size<=r)(h2:w.heap[r]? =some (.deferred (some [])))(h3: ¬cw φ s.H r):
 BE M cY H0 w0 φ s tmps {w with heap:=w.heap.setIfInBounds r (.deferred none)}:=by
 have iz:∀b,b≠r->(w.heap.setIfInBounds r (.deferred none))[b]? =w.heap[b]? :=fun b hb=>(MapKept.heap_set h2).2 b hb
 have zL:∀b,cP w b-> ¬ao M φ s.H b->(w.heap.setIfInBounds r (.deferred none))[b]? =w.heap[b]? /\ ¬ao M φ s.H b:=by
  intro b hc hn
  refine⟨iz b fun e=> ?_,hn⟩
  subst e
  rcases hc with⟨cs,ty,fz,hc⟩|⟨es,clock,hc⟩
  ·rw[h2]at hc;cases hc
  ·rw[h2]at hc;cases hc
 refine⟨⟨fun id=> ?_,hs.heap.fresh,hs.heap.apart,fun b hb=>⟨(hs.heap.ours b hb).1,by simpa using(hs.heap.ours b hb).2⟩,fun b hb=>by simpa using hs.heap.Bh b hb⟩,⟨⟨hs.tr.keep.os,hs.tr.keep.tape,hs.tr.keep.output,by simpa using hs.tr.keep.size,fun j hj hm=> ?_⟩,hs.tr.grow,hs.tr.rel⟩,fun i=>V.mn zL (eE.refl _ _) _ _ (hs.env i)⟩
 ·exact aO.Du zL (eE.refl _ _) rfl rfl (fun hl b hb=>iz b fun e=>h3 ⟨id,hl,e ▸ hb⟩) (hs.heap.ok id)
 ·rw[iz j (by omega)];exact hs.tr.keep.block j hj hm
theorem iJ{fn:Func}{R:Ending->World->Prop}{u:FrameMode}(hu:u≠ .run){tmps tb:Array Value}{ds:List Deferred}(hR:∀w,BE M cY H0 w0 φ s tb w->LeavesInM (eB none) k P fn tmps R ds u w):
 ∀ (ms:List Nat) (w:World),ms.Nodup->(∀r∈ms,w0.heap.size<=r/\w.heap[r]? =some (.deferred (some []))/\ ¬cw φ s.H r)->BE M cY H0 w0 φ s tb w->LeavesInM (eB none) k P fn tmps R (ms.map mark++ds) u w
 |[],w,_,_,hs=>hR w hs
 |r::ms,w,hn,hm,hs=>by
  obtain⟨h1,h2,h3⟩:=hm r aJ
  obtain⟨GV,KN⟩:=List.nodup_cons.1 hn
  refine⟨hu, .inl ⟨r,{w with heap:=w.heap.setIfInBounds r (.deferred none)},rfl, ?_,iJ hu hR ms _ KN (fun r' zd=> ?_) (Ld hs h1 h2 h3)⟩⟩
  ·simp[Instr.takeDeferred,getObj,setObj,Sem.run,h2,Result.andThen]
  ·obtain⟨g1,g2,g3⟩:=hm r' (by simp[zd])
   exact⟨g1,((MapKept.heap_set h2).2 r' (fun e=>GV (e ▸ zd))).trans g2,g3⟩
theorem cG.toB (hs:cG M cY H0 w0 n cx φ s a w):BE M cY H0 w0 φ s a.tmps w:=⟨hs.heap,hs.tr,hs.env⟩
def nk(P:Program)(rs:List ResultVar)(K X:V->(Nat->aa)->Nat->Prop)(e:fW)(s:S):Prop:=
 match e with
 | .normal| .ret=>match ni P s rs with
   |some [v]=>K v s.o s.nx
   |some vs=>K (.cc vs) s.o s.nx
   |none=>False
 | .bU v=>X v s.o s.nx
 | .exit _=>False
theorem DX{P:Program}{rs:List ResultVar}{K X:V->(Nat->aa)->Nat->Prop}{s:S}(h:nk P rs K X .ret s):∃vs,ni P s rs=some vs/\K (match vs with|[v]=>v|vs=> .cc vs) s.o s.nx:=by
 unfold nk at h
 simp only at h
 split at h
 ·rename_i v h1;exact⟨[v],h1,h⟩
 ·rename_i vs h1 h2
  refine⟨vs,h2, ?_⟩
  split
  ·exact absurd rfl (h1 _)
  ·exact h
 ·exact h.elim
theorem DY:∀ {vs:List V} {vals:List Value},V.aG (ao M φ H) φ H w vs vals->V.den (ao M φ H) φ H w (match vs with|[v]=>v|vs=> .cc vs) (if h:vals.toArray.size=1 then vals.toArray[0]else .tuple vals.toArray)
 |[],vals,h=>by simp only[V.aG]at h;subst h;exact⟨#[],rfl,rfl⟩
 |[v],vals,h=>by obtain⟨u,us,rfl,h1,h2⟩:=h;simp only[V.aG]at h2;subst h2;exact h1
 |v::y::l,vals,h=>by
  have h':=h
  obtain⟨u,us,rfl,h1,u2,us2,rfl,h2⟩:=h
  exact⟨(u::u2::us2).toArray,aJ,by simpa using h'⟩
theorem Dn{vals:Array Value}{m:Nat}{vs:List V}(hd:V.aG (ao M φ H) φ H w vs vals.toList)(i:Nat):V.den (ao M φ H) φ H w (cR vs i) ((vals++Array.replicate m undef).getD i undef):=by
 have hlen:=V.aE _ _ hd
 simp only[cR,Lc]
 cases hx:vs[i]? with
 |none=>
  have:vals[i]? =none:=by
   rw[List.getElem?_eq_none_iff]at hx
   apply Array.getElem?_eq_none
   simp at hlen;omega
  simp only[List.getD_eq_getElem?_getD,hx,this]
  exact⟨#[],rfl,rfl⟩
 |some v=>
  obtain⟨u,hu,RM⟩:=V.dL _ _ _ _ hd hx
  have Dc:vals[i]? =some u:=by simpa using hu
  simp only[List.getD_eq_getElem?_getD,hx,Dc,Option.getD_some]
  exact RM
theorem oJ{f:FuncId}{fn:Func}{c:Code}{args:Array Value}{w:World}{R:Ending->World->Prop}(hf:P.funcs[f]? =some fn)(hb:fn.body=some c)
 (h:c.vl P none (bodyPostM (eB none) k P fn R) {tmps:=args++Array.replicate (fn.ntmps - args.size) undef,defers:=[]} w):CallsIn (eB none) k P f args w R:=by
 have cS:f<P.funcs.size:=(Array.getElem?_eq_some_iff.1 hf).1
 refine⟨trivial,fun cs hr=> ?_⟩
 let b:Frame:={(default:Frame)with fn:=f,kind:= .normal,roundOf:=none}
 have nj:Frame.enter P f args .normal=b.atR {tmps:=args++Array.replicate (fn.ntmps - args.size) undef,defers:=[]} [.code c]:=by
  simp[Frame.enter,Frame.atR,hf,hb,b]
 obtain⟨e,a',w',hq,dE⟩:=h b [] cs rfl cS
 rw[<- nj]at dE
 cases e with
 |normal=>
  obtain⟨e',XQ,fr',hR,hs,MH,hl⟩:=leaves_stepsInM a'.defers .returning w' {b.atR a' []with mode:= .returning} cs rfl rfl rfl hf rfl (trivial:(eB none).fn f) hr hq
  exact⟨e',XQ,fr',hR,ComesIn.of_steps (StepsIn.trans dE (.one (fenced_calm (n:=0) (fr:=b.atR a' []) trivial iH rfl) (stepR_end rfl))) hs,MH,hl⟩
 |ret=>
  obtain⟨todo,UF⟩:=dE.1 rfl
  obtain⟨e',XQ,fr',hR,hs,MH,hl⟩:=leaves_stepsInM a'.defers .returning w' {b.atR a' todo with mode:= .returning} cs rfl rfl rfl hf rfl (trivial:(eB none).fn f) hr hq
  exact UE
 |panic chain=>
  obtain⟨todo,UF⟩:=dE
  obtain⟨e',XQ,fr',hR,hs,MH,hl⟩:=leaves_stepsInM a'.defers (.panicking chain) w' {b.atR a' todo with mode:= .panicking chain} cs rfl rfl rfl hf rfl (trivial:(eB none).fn f) hr hq
  exact UE
 |exit id=>exact hq.elim
 |goto l=>exact hq.elim
 |outgrown=>exact⟨.outgrown,w',b,hq,dE.resolve_left (by simp[b]),rfl,trivial⟩
def GW(P:Program)(l:Nat)(R:Ending->World->Prop):Exit->Act->World->Prop
 | .normal,_,w=>∃v w',(Instr.endRound l none).run P w= .ok v w'/\R (.returned v) w'
 | .ret,_,w=>∃v w',(Instr.endRound l (some .ret)).run P w= .ok v w'/\R (.returned v) w'
 | .exit id,_,w=>∃v w',(Instr.endRound l (some (.exit id))).run P w= .ok v w'/\R (.returned v) w'
 | .goto _,_,_=>False
 | .panic chain,a,w=>a.defers=[]/\R (.panicked chain) w
 | .outgrown,_,_=>False
theorem xa{l:Nat}{f:FuncId}{tmps:Array Value}{assign body:Code}{w:World}{R:Ending->World->Prop}(hf:f<P.funcs.size)
 (h:assign.vl P (some l) (Exit.then (fun pU ky=>∃tI,(Instr.beginRound l).run P ky= .ok () tI/\body.vl P (some l) (GW P l R) pU tI) (fun e a w=>match e with| .panic chain=>a.defers=[]/\R (.panicked chain) w|_=>False))
  {tmps:=tmps,defers:=[]} w):
 RoundIn Fence.wide n P l f tmps assign body w R:=by
 refine⟨trivial,fun c cs hr=> ?_⟩
 let b:Frame:={(default:Frame)with fn:=f,kind:= .normal,roundOf:=some l}
 have Yw:Frame.round l f tmps assign body .normal=b.atR {tmps:=tmps,defers:=[]} [.code assign, .beginRound, .code body]:=by
  simp[Frame.round,Frame.atR,b]
 have calm:∀ (m:Machine),m.fenced P Fence.wide:=fun m=>fenced_wide P m
 have bU:∀ {a:Act} {w:World} {todo:List Item} {chain:List PanicEntry},a.defers=[]->step P (lone {b.atR a todo with mode:= .panicking chain} (c::cs) w)= .next (lone (c.raise chain) cs w):=by
  intro a w todo chain hd
  exact step_leave_panicked (fr:={b.atR a todo with mode:= .panicking chain}) ⟨rfl,hd,P.funcs[f],by show P.funcs[f]? =_;simp[hf]⟩
 obtain⟨e,pU,ky,hq,dE⟩:=h b [.beginRound, .code body] (c::cs) rfl hf
 rw[<- Yw]at dE
 cases e with
 |normal=>
  obtain⟨tI,hbr,rP⟩:=hq
  have s1:StepsIn (Machine.fenced P Fence.wide) P (lone (b.atR pU [.beginRound, .code body]) (c::cs) ky) (lone (b.atR pU [.code body]) (c::cs) tI):= .one (calm _) (stepR_beginRound rfl hbr)
  obtain⟨Yt,adQ,GO,rM,lS⟩:=rP b [] (c::cs) rfl hf
  have dE:StepsIn (Machine.fenced P Fence.wide) P _ _:=dE
  cases Yt with
  |normal=>
   obtain⟨v,vm,de,hR⟩:=rM
   have lS:StepsIn (Machine.fenced P Fence.wide) P _ _:=lS
   exact⟨.returned v,vm,hR,(StepsIn.trans dE s1).trans (StepsIn.trans lS (.one (calm _) (stepR_round_end rfl rfl de)))⟩
  |ret=>
   obtain⟨v,vm,de,hR⟩:=rM
   obtain⟨k₁,hs⟩:=lS.2 rfl
   have hs:StepsIn (Machine.fenced P Fence.wide) P _ _:=hs
   exact⟨.returned v,vm,hR,(StepsIn.trans dE s1).trans (StepsIn.trans hs (.one (calm _) (stepR_round_ret rfl rfl de)))⟩
  |exit id=>
   obtain⟨v,vm,de,hR⟩:=rM
   obtain⟨k₁,hk,hs⟩:=lS.2 rfl rfl
   have hs:StepsIn (Machine.fenced P Fence.wide) P _ _:=hs
   exact⟨.returned v,vm,hR,(StepsIn.trans dE s1).trans (StepsIn.trans hs (.one (calm _) (stepR_round_exit rfl rfl hk de)))⟩
  |goto t=>exact rM.elim
  |panic chain=>
   obtain⟨todo,hs⟩:=lS
   have hs:StepsIn (Machine.fenced P Fence.wide) P _ _:=hs
   exact⟨.panicked chain,GO,rM.2,(StepsIn.trans dE s1).trans (StepsIn.trans hs (.one (calm _) (bU rM.1)))⟩
  |outgrown=>exact rM.elim
 |exit id=>exact hq.elim
 |goto t=>exact hq.elim
 |ret=>exact hq.elim
 |panic chain=>
  obtain⟨todo,hs⟩:=dE
  have hs:StepsIn (Machine.fenced P Fence.wide) P _ _:=hs
  exact⟨.panicked chain,ky,hq.2,StepsIn.trans hs (.one (calm _) (bU hq.1))⟩
 |outgrown=>exact hq.elim
theorem cX.I6 {f:FuncId}{fn:Func}{c:Code}{args:List V}{o:Nat->aa}{nx:Nat}{K X:V->(Nat->aa)->Nat->Prop}(hf:P.funcs[f]? =some fn)(hn:(fn.name== "runtime.NumGoroutine")=false)(rP:fn.body=some c)(hl:args.length<=fn.ntmps)
 (h:jW P fn.ntmps nx false c (nk P fn.results.toList K X) ⟨cR args,o,nx⟩):cX P f args o nx K X:=by
 refine⟨⟨fn,hf,hn,by rw[rP];rfl⟩,fun M φ w vals hH hd=> ?_⟩
 have hlen:=V.aE _ _ hd
 let s0:S:=⟨cR args,o,nx⟩
 let a0:Act:={tmps:=vals++Array.replicate (fn.ntmps - vals.size) undef,defers:=[]}
 have kO:cG M φ (hp o nx) w fn.ntmps ⟨[],false⟩ φ s0 a0 w:=by
  exact adv
 refine DP (ro:=none) (k:=0) (oJ hf rP (iI (jc (P:=P) (H0:=hp o nx) (b:=nx) (cx:=⟨[],false⟩) (ro:=none) (fun id hu=>hu) (fun _=>rfl) c _ s0 φ a0 w h kO) ?_))
 rintro e a w' ⟨x,s,aH,hq,hs,hm⟩
 obtain⟨ms,g1,g2,g3,g4⟩:=hs.defers
 rw[List.append_nil]at g1
 have done:(x= .normal\/x= .ret)->LeavesInM (eB none) 0 P fn a.tmps (oE M φ (hp o nx) w K X) a.defers .returning w':=by
  intro hx
  have hq':nk P fn.results.toList K X .ret s:=by rcases hx with rfl|rfl<;>exact hq
  obtain⟨vs,h1,h2⟩:=DX hq'
  rw[g1]
  have:=iJ (P:=P) (k:=0) (fn:=fn) (R:=oE M φ (hp o nx) w K X) (u:= .returning) aJ (ds:=[]) (fun w2 hb=>by
   obtain⟨vals,h3,h4⟩:=vP (P:=P) (a:=a) hb.heap hb.env _ _ h1
   exact⟨_,oI h3,aH,s.o,s.nx,_,hb.heap,hb.tr,DY h4,h2⟩) ms w' g2 g4 hs.toB
  rwa [List.append_nil]at this
 cases e<;>cases x<;>first|(exact hm.elim)|skip
 ·exact done (.inl rfl)
 ·exact hq.elim
 ·exact done (.inr rfl)
 ·rename_i v
  obtain⟨val,rfl,hd'⟩:=hm
  show LeavesInM (eB none) 0 P fn a.tmps (oE M φ (hp o nx) w K X) a.defers _ w'
  rw[g1]
  have Yw:BE M φ (hp o nx) w aH ⟨fun i=>if i=0 then v else .ag,s.o,s.nx⟩ #[val] w':=⟨hs.heap,hs.tr,fun i=>by
   by_cases hi:i=0
   ·subst hi;exact hd'
   ·simp only[hi,if_false];trivial⟩
  have:=iJ (P:=P) (k:=0) (fn:=fn) (s:=⟨fun i=>if i=0 then v else .ag,s.o,s.nx⟩) (tmps:=a.tmps) (tb:=#[val]) (cY:=φ) (H0:=hp o nx) (w0:=w) (R:=oE M φ (hp o nx) w K X) (u:= .panicking [{v:=val,recovered:=false}]) aJ (ds:=[]) (fun w2 hb=>by
   have h0:=hb.env 0
   exact⟨aH,s.o,s.nx,v,hb.heap,hb.tr,val,rfl,h0,hq⟩) ms w' g2 g4 Yw
  rwa [List.append_nil]at this
theorem aW.jP {f:FuncId}{ds:List D}{out:R}(h:cX P f (ds.map .d) (fun _=> .no) 0 (fun v o _=>∃vs rs,v=(match vs with|[v]=>v|vs=> .cc vs)/\cF o vs=some rs/\out= .ret rs) (fun v o _=>∃x,dS o v=some x/\out= .bU x)):aW P f ds out:=by
 refine⟨h.1,fun M w vals hM hd=> ?_⟩
 let cY:Place:=fun _=> .nilFunc
 have tJ:∀b, ¬cw cY (hp (fun _=> .no) 0) b:=by rintro b ⟨id,hl,_⟩;simp[hp,aa.live]at hl
 refine(h.2 M cY w vals (mB cY hM) ((V.cA _ _).2 (D.aQ (w:=w) (w':=w) (B:=M) (fun b _ hB=>⟨rfl,fun h=>h.elim hB (tJ b)⟩) _ _ hd))).mono ?_
 rintro e w' ⟨aH,o',nx',v,k1,k2,k3⟩
 have uI:ed (fun _=>False) w w':=⟨k2.keep.os,k2.keep.tape,k2.keep.output,k2.keep.size,fun k hk _=>k2.keep.block k hk (tJ k)⟩
 have fin:∀ (vs:List V) (xs:List D) (vals:List Value),cF o' vs=some xs->V.aG (ao M aH (hp o' nx')) aH (hp o' nx') w' vs vals->D.aG M w' xs vals:=by
  intro vs xs vals h1 h2
  obtain⟨f1,f2,f3,f4,f5⟩:=cW k1 (V.bC vs) (du vs _ h2)
  have h3:=dN f1 vs xs vals f3 h1 (V.aQ f2 _ _ h2)
  exact D.aQ (w:=w') (w':=w') (fun k _ hB=>⟨rfl,fun hM=>hB (.inl hM)⟩) xs vals h3
 refine⟨uI, ?_⟩
 cases e with
 |outgrown=>exact k3.elim
 |panicked ch=>
  obtain⟨val,rfl,g1,x,g2,rfl⟩:=k3
  have:=fin [v] [x] [val] (by simp[cF,g2]) ⟨val,[],rfl,g1,rfl⟩
  obtain⟨u,us,he,h2,_⟩:=this
  simp at he;obtain⟨rfl,rfl⟩:=he
  exact⟨val,rfl,h2⟩
 |returned val=>
  obtain⟨g1,vs,rs,rfl,g2,rfl⟩:=k3
  match vs,g1,g2 with
  |[],g1,g2=>
   obtain⟨arr,rfl,hv⟩:=g1
   simp only[cF,Option.some.injEq]at g2;subst g2
   exact⟨arr,rfl,hv⟩
  |[v],g1,g2=>
   have:=fin [v] rs [val] g2 ⟨val,[],rfl,g1,rfl⟩
   cases rs with
   |nil=>cases this
   |cons x l=>
    obtain⟨u,us,he,h2,h3⟩:=this
    simp at he;obtain⟨rfl,rfl⟩:=he
    cases l with
    |nil=>exact h2
    |cons y l=>obtain⟨_,_,h,_⟩:=h3;cases h
  |v::v2::l,g1,g2=>
   obtain⟨arr,rfl,h⟩:=g1
   have:=fin (v::v2::l) rs arr.toList g2 h
   have hl:=D.aE _ _ this
   have XR:=V.aE _ _ h
   match rs,hl,this with
   |[],hl,_=>exact Ir
   |[x],hl,_=>exact Ir
   |x::y::l,_,this=>exact⟨arr,rfl,this⟩
theorem Le{rs:List ResultVar}{out:R}(e:fW)(s:S)(h:GN P rs out e s):
 nk P rs (fun v o _=>∃vs rs,v=(match vs with|[v]=>v|vs=> .cc vs)/\cF o vs=some rs/\out= .ret rs) (fun v o _=>∃x,dS o v=some x/\out= .bU x) e s:=by
 have ret:GN P rs out .ret s->nk P rs (fun v o _=>∃vs rs,v=(match vs with|[v]=>v|vs=> .cc vs)/\cF o vs=some rs/\out= .ret rs) (fun v o _=>∃x,dS o v=some x/\out= .bU x) .ret s:=by
  intro h
  obtain⟨vs,xs,h1,h2,h3⟩:=N6 h
  simp only[nk,h1]
  match vs,h2 with
  |[],h2=>exact⟨[],xs,rfl,h2,h3⟩
  |[v],h2=>exact⟨[v],xs,rfl,h2,h3⟩
  |v::v2::l,h2=>exact⟨v::v2::l,xs,rfl,h2,h3⟩
 cases e with
 |normal=>exact ret h
 |ret=>exact ret h
 |exit id=>exact h.elim
 |bU v=>exact N7 h
end
end
section
def Oe{α:Type}(c:Bool)(x:α):Option α:=if c=true then some x else none
def one(v:V):Option gM:=some (v,[],[])
def DZ(op:BinOp)(k:IntKind)(a b:Int):Option V:=
 match op with
 | .add=>some (.d (.int k (k.wrap (a+b))))
 | .sub=>some (.d (.int k (k.wrap (a - b))))
 | .mul=>some (.d (.int k (k.wrap (a*b))))
 | .quo=>if b=0 then none else some (.d (.int k (k.wrap (a.tdiv b))))
 | .rem=>if b=0 then none else some (.d (.int k (a.tmod b)))
 | .and=>(wD .and k a b).map fun r=> .d (.int k r)
 | .or=>(wD .or k a b).map fun r=> .d (.int k r)
 | .xor=>(wD .xor k a b).map fun r=> .d (.int k r)
 | .andNot=>(wD .andNot k a b).map fun r=> .d (.int k r)
 | .eql=>some (.d (.bool (a==b)))| .neq=>some (.d (.bool (a !=b)))| .lss=>some (.d (.bool (decide (a<b))))| .leq=>some (.d (.bool (decide (a<=b))))
 | .gtr=>some (.d (.bool (decide (b<a))))| .geq=>some (.d (.bool (decide (b<=a))))
 |_=>none
def nm(P:Program)(t:TypeId):Bool:=
 match P.underlying t with
 |some .bool=>true
 |_=>false
def BF(P:Program)(op:BinOp)(t:TypeId)(x y:V):Option V:=
 match x,y with
 | .d (.int k a), .d (.int k' b)=>if k=k' then DZ op k a b else none
 | .d (.bool a), .d (.bool b)=>match op with
   | .eql=>Oe (nm P t) (.d (.bool (a==b)))
   | .neq=>Oe (nm P t) (.d (.bool (a !=b)))
   |_=>none
 | .d (.str a), .d (.str b)=>match op with
   | .eql=>some (.d (.bool (a==b)))
   | .neq=>some (.d (.bool (a !=b)))
   |_=>none
 |_,_=>none
def unF(op:UnOp)(x:V):Option V:=
 match op,x with
 | .neg, .d (.int k n)=>some (.d (.int k (k.wrap (-n))))
 | .not, .d (.bool b)=>some (.d (.bool !b))
 |_,_=>none
def rQ(c a b:V):Option V:=
 match c with
 | .d (.bool true)=>some a
 | .d (.bool false)=>some b
 |_=>none
def rR(o:Nat->aa)(x:V):Option (List D×List Nat):=
 match x with
 | .d (.sl es)=>some (es,[])
 | .aU=>some ([],[])
 | .qx es=>some (es,[])
 | .osl id ep=>match o id with
   | .arr fq _ _ es=>if ep=fq then some (es,[id])else none
   | .qg fq es=>if ep=fq then some (es,[id])else none
   |_=>none
 |_=>none
def GX(o:Nat->aa)(x:V):Option Nat:=
 match x with
 | .jo id _ n _=>if(o id).bF=true then some n else none
 |_=>none
theorem Lf{o:Nat->aa}{x:V}{n:Nat}(h:GX o x=some n):∃id off c,x= .jo id off n c/\(o id).bF=true:=by
 unfold GX at h
 split at h
 ·split at h
  ·rename_i hr
   injection h with h;subst h
   exact⟨_,_,_,rfl,hr⟩
  ·cases h
 ·cases h
def GY(P:Program)(t:TypeId)(o:Nat->aa)(x:V):Option gM:=
 match P.underlying t with
 |some (.slice _)=>match rR o x with
  |some (es,rd)=>some (.d (.int .i64 es.length),[],rd)
  |none=>match GX o x with
   |some n=>some (.d (.int .i64 n),[],[])
   |none=>none
 |some .string=>match x with
  | .d (.str s)=>one (.d (.int .i64 s.length))
  |_=>none
 |some (.array n _)=>one (.d (.int .i64 n))
 |_=>none
def Ae(P:Program)(e:TypeId)(es:List D)(i:Int)(rd:List Nat):Option gM:=
 if 0<=i then match es[i.toNat]? with
  |some y=>Oe (y.cells.length==P.cellsOf e&&0<P.cellsOf e) (.pp y.cells 0,[],rd)
  |none=>none
 else none
def qo(o:Nat->aa)(x:V)(q:Nat):Option V:=
 match x with
 | .ptr id off=>Oe (o id).bF (.ptr id (off+q))
 | .pp cs off=>some (.pp cs (off+q))
 | .pe id ep j sz off=>if(o id).bV=some ep then some (.pe id ep j sz (off+q))else none
 |_=>none
def jd(P:Program)(o:Nat->aa)(t:TypeId)(x ix:V):Option gM:=
 match ix with
 | .d (.int _ i)=>match bR P t with
   |some e=>match x with
    | .d (.sl es)=>Ae P e es i []
    | .qx es=>Ae P e es i []
    | .osl id ep=>match o id with
      | .arr fq _ sz es=>if ep=fq/\0<=i/\i.toNat<es.length/\sz=P.cellsOf e/\0<P.cellsOf e then some (.pe id ep i.toNat sz 0,[],[id])else none
      | .qg fq es=>if ep=fq then Ae P e es i [id]else none
      |_=>none
    | .jo id off n _=>if(o id).bF=true/\0<=i/\i.toNat<n/\0<P.cellsOf e then one (.ptr id (off+i.toNat*P.cellsOf e))else none
    |_=>none
   |none=>match yZ P t with
    |some (n,e)=>if 0<=i/\i<n/\(P.info? e).isSome=true then(qo o x (i.toNat*P.cellsOf e)).bind one else none
    |none=>none
 |_=>none
def je(P:Program)(o:Nat->aa)(t:TypeId)(x:V)(f:Nat):Option V:=
 match bH P t f with
 |some q=>qo o x q
 |none=>none
def oK(P:Program)(o:Nat->aa)(t:TypeId)(x:V):Option gM:=
 match x with
 | .ptr id off=>match o id with
   | .row cs=>match fw P t cs off with
     |some v=>some (v,[],[id])
     |none=>none
   |_=>none
 | .pp cs off=>match fw P t (cs.map .d) off with
   |some v=>some (v,[],[])
   |none=>none
 | .pe id ep i sz off=>match o id with
   | .arr fq _ pX es=>if ep=fq/\sz=pX then match es[i]? with
    |some e=>match fw P t (e.cells.map .d) off with
     |some v=>some (v,[],[id])
     |none=>none
    |none=>none
     else none
   |_=>none
 |_=>none
def tK(P:Program)(o:Nat->aa)(t:TypeId)(x v:V):Option gM:=
 match x with
 | .ptr id off=>match o id with
   | .row cs=>match Bi P t cs off v with
     |some cs'=>some (.cc [],[(id, .row cs')],[id])
     |none=>none
   |_=>none
 | .pe id ep i pX off=>match o id with
   | .arr fq ty sz es=>if ep=fq/\pX=sz then match es[i]?,dS o v with
    |some e,some y=>if y.cells.length=P.cellsOf t/\0<y.cells.length/\v.ids.all (· !=id)=true then match e.put off y.cells with
     |some e'=>some (.cc [],bY o v.ids++[(id, .arr ep ty sz (es.set i e'))],id::v.ids)
     |none=>none
     else none
    |_,_=>none
     else none
   |_=>none
 |_=>none
def hY(P:Program)(o:Nat->aa)(fr:Nat)(t:TypeId)(len:Nat)(parts:List (Nat×V)):Option gM:=
 match bR P t with
 |some e=>if len=0/\parts.isEmpty=true/\0<P.cellsOf e then some (.osl fr 0,[(fr, .arr 0 e (P.cellsOf e) [])],[])else if parts.map (·.1)=List.range len/\(ct P e).isSome=true/\0<len/\0<P.cellsOf e/\len*P.cellsOf e<=2^24 then match cF o (parts.map (·.2))with
  |some ds=>if ds.all (fun x=>x.cells.length==P.cellsOf e)=true then some (.osl fr 0,bY o (V.bC (parts.map (·.2)))++[(fr, .arr 0 e (P.cellsOf e) ds)],V.bC (parts.map (·.2)))else none
  |none=>none
  else none
 |none=>none
def nn(P:Program)(fr:Nat)(t:TypeId)(l c:V):Option gM:=
 match bR P t with
 |some e=>match l,c with
  | .d (.int _ n), .d (.int _ m)=>if n=m/\0<=n/\0<P.cellsOf e/\P.bytesOf e*n.toNat<=2^47/\n.toNat<=2^47 then match zG P e with
   |some x=>some (.osl fr 0,[(fr, .arr 0 e (P.cellsOf e) (List.replicate n.toNat x))],[])
   |none=>none
    else none
  |_,_=>none
 |none=>none
def rS(P:Program)(o:Nat->aa)(fr:Nat)(ts:Array TypeId)(x y:V):Option gM:=
 match ts.toList with
 |[t,t']=>if t=t' then match bR P t,rR o y with
    |some e,some (new,rd)=>if 0<P.cellsOf e/\(ct P e).isSome=true/\new.all (fun z=>z.cells.length==P.cellsOf e)=true then match x with
     | .aU=>if new.length<=2^47/\new.length*P.bytesOf e<=2^47 then some (.osl fr 0,[(fr, .arr 0 e (P.cellsOf e) new)],rd)else none
     | .qx es=>if es.all (fun z=>z.cells.length==P.cellsOf e)=true then(if new=[]then some (.qx es,[],rd)else if es.length+new.length<=2^40/\(es.length+new.length)*P.bytesOf e<=2^40 then some (.osl fr 0,[(fr, .arr 0 e (P.cellsOf e) (es++new))],rd)else none)else none
     | .osl id ep=>match o id with
       | .arr fq ty sz es=>if ep=fq/\ty=e/\sz=P.cellsOf e/\es.length+new.length<=2^47/\(es.length+new.length)*P.bytesOf e<=2^47 then
        some (.osl id (ep+1),[(id, .arr (ep+1) ty sz (es++new))],id::rd)else none
       |_=>none
     |_=>none
     else none
    |_,_=>none
  else none
 |_=>none
def rT(isMax:Bool)(x y:V):Option V:=
 match x,y with
 | .d (.int k a), .d (.int k' b)=>if k=k' then some (.d (.int k (if isMax then(if b>a then b else a)else(if b<a then b else a))))else none
 |_,_=>none
def np(x:Option V):Option gM:=match x with|some v=>one v|none=>none
def rU(P:Program)(s:S)(fr:Nat)(b:Builtin)(args:List Operand)(ts:Array TypeId):Option gM:=
 match b,args with
 | .len,[x]=>match ts.toList with
   |[t]=>GY P t s.o (s.ev x)
   |_=>none
 | .append,[x,y]=>match zJ P fr ts (s.ev x) (s.ev y)with
   |some r=>some r
   |none=>rS P s.o fr ts (s.ev x) (s.ev y)
 | .max,[x,y]=>np (rT true (s.ev x) (s.ev y))
 | .min,[x,y]=>np (rT false (s.ev x) (s.ev y))
 | .max,[x,y,z]=>np (IG (s.ev x) (s.ev y) (s.ev z))
 | .copy,[x,y]=>zI P s.o ts (s.ev x) (s.ev y)
 | .delete,[x,y]=>match ts.toList.head? with
   |some t=>pD P s.o t (s.ev x) (s.ev y)
   |none=>none
 | .cap,[x]=>RJ P ts (s.ev x)
 |_,_=>none
def BG(P:Program)(t:TypeId)(parts:List (Nat×V)):Option V:=
 match ct P t,dC P t with
 |some z,some pl=>match uz pl z parts with
  |some cs=>some (qi cs)
  |none=>none
 |_,_=>none
def kn(o:Nat->aa)(x:V):Option V:=
 match x with
 | .ptr id off=>Oe (o id).bF (.ptr id off)
 | .pp cs off=>some (.pp cs off)
 | .func (.func f) first cap=>some (.func (.func f) first cap)
 |_=>none
def qK(P:Program)(t:TypeId):Bool:=
 match P.underlying t with
 |some (.interface _)=>false
 |some _=>true
 |none=>false
def Of(P:Program)(t:TypeId)(x:V):Option V:=
 Oe (qK P t) (match x with
  | .d y=> .d (.iface t y)
  |v=> .iface t v)
def fU(P:Program)(o:Nat->aa)(op:BinOp)(t:TypeId)(oo:Bool)(x y:V):Option gM:=
 match BF P op t x y with
 |some v=>one v
 |none=>tw P o op t oo x y
def KC(op:UnOp)(x:V):Option V:=
 match op,x with
 | .not, .fl=>some .fl
 |op,x=>unF op x
def gA(P:Program)(s:S)(fr:Nat)(op:Op):Option gM:=
 match op with
 | .move x=>one (s.ev x)
 | .assign x=>one (s.ev x)
 | .pick c a b=>np (rQ (s.ev c) (s.ev a) (s.ev b))
 | .alloc t=>match ct P t with
   |some cs=>some (.ptr fr 0,[(fr, .row cs)],[])
   |none=>none
 | .box _ x=>match(s.ev x).cells with
   |some cs=>some (.ptr fr 0,[(fr, .row cs)],[])
   |none=>none
 | .build t parts=>np (BG P t (parts.toList.map fun p=>(p.1,s.ev p.2)))
 | .buildSlice t len parts=>hY P s.o fr t len (parts.toList.map fun p=>(p.1,s.ev p.2))
 | .load t x=>oK P s.o t (s.ev x)
 | .store t x v=>tK P s.o t (s.ev x) (s.ev v)
 | .nilCheck x=>np (kn s.o (s.ev x))
 | .binOp op t x y _=>fU P s.o op t (isConst x||isConst y) (s.ev x) (s.ev y)
 | .unOp op _ x=>np (KC op (s.ev x))
 | .convert u t x=>match P.underlying u,rl P t,s.ev x with
   |some _,some k, .d (.int _ n)=>one (.d (.int k (k.wrap n)))
   |_,_,_=>none
 | .makeInterface t x=>np (Of P t (s.ev x))
 | .makeFunc fn first cap=>one (.func fn (first.toList.map s.ev) (cap.toList.map s.ev))
 | .makeSlice t l c=>nn P fr t (s.ev l) (s.ev c)
 | .fieldAddr t x f=>np (je P s.o t (s.ev x) f)
 | .indexAddr t x i=>jd P s.o t (s.ev x) (s.ev i)
 | .extract x i=>match s.ev x with
   | .cc vs=>match vs[i]? with
     |some v=>one v
     |none=>none
   |_=>none
 | .call c=>match c.callee with
   | .builtin b=>rU P s fr b c.args.toList c.argTypes
   |_=>none
 | .slice t x lo hi mx=>tt P s.o t (s.ev x) (lo.map s.ev) (hi.map s.ev) (mx.map s.ev)
 | .field t x f=>np (wH P t (s.ev x) f)
 | .index t x i=>np (wI P t (s.ev x) (s.ev i))
 | .typeAssert x _ t ok=>np (rp P t ok (s.ev x))
 | .makeMap t none=>oq P fr t
 | .lookup t m k ok=>jq P s.o t (s.ev m) (s.ev k) ok
 | .mapUpdate t m k v=>gI P s.o t (s.ev m) (s.ev k) (s.ev v)
 | .insert t m k v=>gI P s.o t (s.ev m) (s.ev k) (s.ev v)
 | .range t x=>ou P s.o fr t (s.ev x)
 | .next x str=>qk s.o (s.ev x) str
 | .entry x=>ow s.o (s.ev x)
 |_=>none
section
variable {P:Program}{s:S}{fr:Nat}{v:V}{Δ:List (Nat×aa)}{rd:List Nat}{o:Nat->aa}{K:V->List (Nat×aa)->List Nat->Prop}
theorem tL{α:Type}{c:Bool}{x y:α}(h:Oe c x=some y):c=true/\x=y:=by
 unfold Oe at h;split at h
 ·injection h with h;exact⟨by assumption,h⟩
 ·cases h
theorem kP{x:V}{r:gM}(h:one x=some r):r=(x,[],[]):=by unfold one at h;injection h with h;exact h.symm
theorem j8{x:Option V}{r:gM}(h:np x=some r):∃v,x=some v/\r=(v,[],[]):=by
 unfold np at h;split at h
 ·exact⟨_,rfl,kP h⟩
 ·cases h
theorem GZ{x:V}{es:List D}{rd:List Nat}(h:rR o x=some (es,rd)):dA o x=some es/\rd=x.ids:=by
 unfold rR at h
 split at h
 ·exact Na
 ·exact Na
 ·exact Na
 ·split at h
  ·rename_i ho
   split at h
   ·rename_i e;simp at h;obtain⟨rfl,rfl⟩:=h;exact⟨by simp[dA,dS,ho,e],rfl⟩
   ·cases h
  ·rename_i ho
   split at h
   ·rename_i e;simp at h;obtain⟨rfl,rfl⟩:=h;exact⟨by simp[dA,dS,ho,e],rfl⟩
   ·cases h
  ·cases h
 ·cases h
theorem Lg{op:BinOp}{k:IntKind}{a b:Int}{v:V}(h:DZ op k a b=some v){K:V->Prop}(hK:K v):RH op k a b K:=by
 cases op<;>simp only[DZ]at h<;>simp only[RH]
 case quo=>split at h
           ·cases h
           ·exact M8
 case rem=>split at h
           ·cases h
           ·exact M8
 case and=>simp only[Option.map_eq_some_iff]at h;obtain⟨r,h1,rfl⟩:=h;exact⟨r,h1,hK⟩
 case or=>simp only[Option.map_eq_some_iff]at h;obtain⟨r,h1,rfl⟩:=h;exact⟨r,h1,hK⟩
 case xor=>simp only[Option.map_eq_some_iff]at h;obtain⟨r,h1,rfl⟩:=h;exact⟨r,h1,hK⟩
 case andNot=>simp only[Option.map_eq_some_iff]at h;obtain⟨r,h1,rfl⟩:=h;exact⟨r,h1,hK⟩
 case shl=>cases h
 case shr=>cases h
 case eql=>injection h with h;subst h;exact⟨_,rfl,hK⟩
 case neq=>injection h with h;subst h;exact⟨_,rfl,hK⟩
 case lss=>injection h with h;subst h;exact⟨_,rfl,hK⟩
 case leq=>injection h with h;subst h;exact⟨_,rfl,hK⟩
 case gtr=>injection h with h;subst h;exact⟨_,rfl,hK⟩
 case geq=>injection h with h;subst h;exact⟨_,rfl,hK⟩
 all_goals (injection h with h;subst h;exact hK)
theorem Lh{op:BinOp}{t:TypeId}{x y v:V}(h:BF P op t x y=some v){K:V->Prop}(hK:K v):NM P op t x y K:=by
 unfold BF at h
 unfold NM
 split at h
 ·split at h
  ·exact⟨by assumption,Lg h hK⟩
  ·cases h
 ·have hb:nm P t=true->P.underlying t=some .bool:=by
   unfold nm;intro h;split at h
   ·assumption
   ·cases h
  split at h
  ·obtain⟨h1,rfl⟩:=tL h;exact⟨hb h1,hK⟩
  ·obtain⟨h1,rfl⟩:=tL h;exact⟨hb h1,hK⟩
  ·cases h
 ·split at h
  ·exact M5
  ·exact M5
  ·cases h
 ·cases h
theorem G0{c a b v:V}(h:rQ c a b=some v){K:V->Prop}(hK:K v):Dq c a b K:=by
 unfold rQ at h
 unfold Dq
 split at h
 ·injection h with h;subst h;exact⟨fun _=>hK,(fun h=>by cases h)⟩
 ·injection h with h;subst h;exact⟨(fun h=>by cases h),fun _=>hK⟩
 ·cases h
theorem xb{x y:V}{q:Nat}(h:qo o x q=some y):(∃id off,x= .ptr id off/\(o id).bF=true/\y= .ptr id (off+q))\/(∃cs off,x= .pp cs off/\y= .pp cs (off+q))\/
 (∃id ep j sz off,x= .pe id ep j sz off/\(o id).bV=some ep/\y= .pe id ep j sz (off+q)):=by
 unfold qo at h
 split at h
 ·obtain⟨h1,rfl⟩:=tL h;exact .inl ⟨_,_,rfl,h1,rfl⟩
 ·injection h with h;exact .inr (.inl ⟨_,_,rfl,h.symm⟩)
 ·split at h
  ·injection h with h;exact .inr (.inr ⟨_,_,_,_,_,rfl,by assumption,h.symm⟩)
  ·cases h
 ·cases h
theorem wz{e:TypeId}{es:List D}{i:Int}{rd:List Nat}{r:gM}(h:Ae P e es i rd=some r):
 0<=i/\∃y,es[i.toNat]? =some y/\y.cells.length=P.cellsOf e/\0<P.cellsOf e/\r=(.pp y.cells 0,[],rd):=by
 unfold Ae at h
 split at h
 ·rename_i h0
  split at h
  ·rename_i y hy
   obtain⟨h1,rfl⟩:=tL h
   simp only[Bool.and_eq_true,beq_iff_eq,decide_eq_true_eq]at h1
   exact⟨h0,y,hy,h1.1,h1.2,rfl⟩
  ·cases h
 ·cases h
theorem vn{t:TypeId}{x ix:V}(h:jd P o t x ix=some (v,Δ,rd))(hK:K v Δ rd):kF P o t x ix fun v rd=>K v [] rd:=by
 unfold jd at h
 unfold kF
 split at h
 ·simp only
  split at h
  ·rename_i e ht
   simp only[ht]
   split at h
   ·exact adk
   ·exact adk
   ·split at h
    ·rename_i ho
     split at h
     ·rename_i hc
      simp only[Option.some.injEq,Prod.mk.injEq]at h;obtain⟨rfl,rfl,rfl⟩:=h
      simp only[ho]
      exact⟨hc.1,hc.2.1,hc.2.2.1,hc.2.2.2.1,hc.2.2.2.2,hK⟩
     ·cases h
    ·rename_i ho
     split at h
     ·rename_i hc
      obtain⟨h0,y,h1,h2,h3,h4⟩:=wz h
      simp only[Prod.mk.injEq]at h4;obtain⟨rfl,rfl,rfl⟩:=h4
      simp only[ho]
      exact⟨hc,h0,y,h1,h2,h3,hK⟩
     ·cases h
    ·cases h
   ·split at h
    ·rename_i hc
     have h1:=kP h
     simp only[Prod.mk.injEq]at h1;obtain⟨rfl,rfl,rfl⟩:=h1
     exact⟨hc.1,hc.2.1,hc.2.2.1,hc.2.2.2,hK⟩
    ·cases h
   ·cases h
  ·rename_i ht
   simp only[ht]
   split at h
   ·rename_i n e ha
    simp only[ha]
    split at h
    ·rename_i hc
     simp only[Option.bind_eq_some_iff]at h
     obtain⟨y,hy,h1⟩:=h
     have h1:=kP h1
     simp only[Prod.mk.injEq]at h1;obtain⟨rfl,rfl,rfl⟩:=h1
     refine⟨hc.1,hc.2.1,hc.2.2, ?_⟩
     rcases xb hy with⟨_,_,rfl,h2,rfl⟩|⟨_,_,rfl,rfl⟩|⟨_,_,_,_,_,rfl,h2,rfl⟩
     ·exact⟨h2,hK⟩
     ·exact hK
     ·exact⟨h2,hK⟩
    ·cases h
   ·cases h
 ·cases h
theorem vo{t:TypeId}{x y:V}{f:Nat}(h:je P o t x f=some y){K:V->Prop}(hK:K y):kH P o t x f K:=by
 unfold je at h
 unfold kH
 split at h
 ·rename_i q hq
  simp only[hq]
  rcases xb h with⟨_,_,rfl,h2,rfl⟩|⟨_,_,rfl,rfl⟩|⟨_,_,_,_,_,rfl,h2,rfl⟩
  ·exact⟨h2,hK⟩
  ·exact hK
  ·exact⟨h2,hK⟩
 ·cases h
theorem Li{t:TypeId}{x:V}(h:GY P t o x=some (v,Δ,rd))(hK:K v Δ rd):NN P t o x fun v rd=>K v [] rd:=by
 unfold GY at h
 unfold NN
 split at h
 ·rename_i e hu
  simp only[hu]
  split at h
  ·rename_i es vJ hl
   simp only[Option.some.injEq,Prod.mk.injEq]at h;obtain⟨rfl,rfl,rfl⟩:=h
   unfold rR at hl
   split at hl
   ·exact Ng
   ·exact Ng
   ·exact Ng
   ·split at hl
    ·rename_i ho
     split at hl
     ·rename_i hc;simp at hl;obtain⟨rfl,rfl⟩:=hl;simp only[ho];exact⟨hc,hK⟩
     ·cases hl
    ·rename_i ho
     split at hl
     ·rename_i hc;simp at hl;obtain⟨rfl,rfl⟩:=hl;simp only[ho];exact⟨hc,hK⟩
     ·cases hl
    ·cases hl
   ·cases hl
  ·split at h
   ·rename_i n hr
    obtain⟨id,off,c,rfl,bD⟩:=Lf hr
    simp only[Option.some.injEq,Prod.mk.injEq]at h;obtain⟨rfl,rfl,rfl⟩:=h
    exact⟨bD,hK⟩
   ·cases h
 ·rename_i hu
  simp only[hu]
  split at h
  ·have h1:=kP h;simp only[Prod.mk.injEq]at h1;obtain⟨rfl,rfl,rfl⟩:=h1;exact hK
  ·cases h
 ·rename_i hu
  simp only[hu]
  have h1:=kP h;simp only[Prod.mk.injEq]at h1;obtain⟨rfl,rfl,rfl⟩:=h1;exact hK
 ·cases h
theorem G1{t:TypeId}{x:V}(h:oK P o t x=some (v,Δ,rd))(hK:K v Δ rd):Dr P o t x fun v rd=>K v [] rd:=by
 unfold oK at h
 unfold Dr
 split at h
 ·split at h
  ·rename_i ho
   split at h
   ·rename_i hg
    exact UM
   ·cases h
  ·cases h
 ·split at h
  ·rename_i hg
   simp only[Option.some.injEq,Prod.mk.injEq]at h;obtain⟨rfl,rfl,rfl⟩:=h
   exact⟨_,hg,hK⟩
  ·cases h
 ·split at h
  ·rename_i ho
   split at h
   ·rename_i hc
    split at h
    ·rename_i e he
     split at h
     ·rename_i hg
      simp only[Option.some.injEq,Prod.mk.injEq]at h;obtain⟨rfl,rfl,rfl⟩:=h
      simp only[ho];exact⟨hc.1,hc.2,e,he,_,hg,hK⟩
     ·cases h
    ·cases h
   ·cases h
  ·cases h
 ·cases h
theorem D0{t:TypeId}{x y:V}(h:tK P o t x y=some (v,Δ,rd))(hK:K v Δ rd):wE P o t x y fun Δ rd=>K (.cc []) Δ rd:=by
 unfold tK at h
 unfold wE
 split at h
 ·split at h
  ·rename_i ho
   split at h
   ·rename_i hg
    exact UM
   ·cases h
  ·cases h
 ·split at h
  ·rename_i ho
   split at h
   ·rename_i hc
    split at h
    ·rename_i e z he hz
     split at h
     ·rename_i hl
      split at h
      ·rename_i e' hp
       simp only[Option.some.injEq,Prod.mk.injEq]at h;obtain⟨rfl,rfl,rfl⟩:=h
       simp only[ho]
       exact⟨hc.1,hc.2,e,he,z,hz,hl.1,hl.2.1,hl.2.2,e',hp,hK⟩
      ·cases h
     ·cases h
    ·cases h
   ·cases h
  ·cases h
 ·cases h
theorem tM{t:TypeId}{len:Nat}{parts:List (Nat×V)}(h:hY P o fr t len parts=some (v,Δ,rd))(hK:K v Δ rd):ju P o fr t len parts K:=by
 unfold hY at h
 unfold ju
 split at h
 ·rename_i e ht
  simp only[ht]
  split at h
  ·rename_i hc
   simp only[Option.some.injEq,Prod.mk.injEq]at h;obtain⟨rfl,rfl,rfl⟩:=h
   exact .inl ⟨hc.1,by simpa using hc.2.1,hc.2.2,hK⟩
  split at h
  ·rename_i hc
   refine .inr ?_
   split at h
   ·rename_i ds hd
    split at h
    ·rename_i hw
     simp only[Option.some.injEq,Prod.mk.injEq]at h;obtain⟨rfl,rfl,rfl⟩:=h
     refine⟨hc.1,hc.2.1,hc.2.2.1,hc.2.2.2.1,hc.2.2.2.2,ds,hd,fun x hx=> ?_,hK⟩
     simpa using List.all_eq_true.1 hw x hx
    ·cases h
   ·cases h
  ·cases h
 ·cases h
theorem vq{t:TypeId}{l c:V}(h:nn P fr t l c=some (v,Δ,rd))(hK:K v Δ rd):kI P fr t l c fun v Δ=>K v Δ []:=by
 unfold nn at h
 unfold kI
 split at h
 ·rename_i e ht
  split at h
  ·split at h
   ·rename_i hc
    split at h
    ·rename_i x hx
     simp only[Option.some.injEq,Prod.mk.injEq]at h;obtain⟨rfl,rfl,rfl⟩:=h
     simp only[ht]
     exact⟨hc.1,hc.2.1,hc.2.2.1,hc.2.2.2.1,hc.2.2.2.2,x,hx,hK⟩
    ·cases h
   ·cases h
  ·cases h
 ·cases h
theorem BH{ts:Array TypeId}{x y:V}(h:rS P o fr ts x y=some (v,Δ,rd))(hK:K v Δ rd):rm P o fr ts x y K:=by
 unfold rS at h
 unfold rm
 split at h
 ·rename_i t t' pG
  simp only[pG]
  split at h
  ·rename_i htt
   refine⟨htt, ?_⟩
   split at h
   ·rename_i e new vJ ht hl
    obtain⟨wS,rfl⟩:=GZ hl
    simp only[ht]
    split at h
    ·rename_i hc
     refine⟨new,wS,hc.1,hc.2.1,fun z hz=>by simpa using List.all_eq_true.1 hc.2.2 z hz, ?_⟩
     split at h
     ·split at h
      ·rename_i uE
       simp only[Option.some.injEq,Prod.mk.injEq]at h;obtain⟨rfl,rfl,rfl⟩:=h
       exact⟨uE.1,uE.2,hK⟩
      ·cases h
     ·split at h
      ·rename_i IV
       refine⟨fun z hz=>by simpa using List.all_eq_true.1 IV z hz, ?_⟩
       split at h
       ·rename_i hn
        simp only[Option.some.injEq,Prod.mk.injEq]at h;obtain⟨rfl,rfl,rfl⟩:=h
        rw[if_pos hn];exact hK
       ·rename_i hn
        split at h
        ·rename_i uE
         simp only[Option.some.injEq,Prod.mk.injEq]at h;obtain⟨rfl,rfl,rfl⟩:=h
         rw[if_neg hn];exact⟨uE.1,uE.2,hK⟩
        ·cases h
      ·cases h
     ·split at h
      ·rename_i ho
       split at h
       ·rename_i uE
        simp only[Option.some.injEq,Prod.mk.injEq]at h;obtain⟨rfl,rfl,rfl⟩:=h
        simp only[ho]
        exact⟨uE.1,uE.2.1,uE.2.2.1,uE.2.2.2.1,uE.2.2.2.2,hK⟩
       ·cases h
      ·cases h
     ·cases h
    ·cases h
   ·cases h
  ·cases h
 ·cases h
theorem xd{x y:V}(h:kn o x=some y){K:V->Prop}(hK:K y):mo o x K:=by
 unfold kn at h
 unfold mo
 split at h
 ·obtain⟨h2,rfl⟩:=tL h;exact⟨h2,hK⟩
 ·exact M5
 ·exact M5
 ·cases h
theorem Og{op:UnOp}{x y:V}(h:unF op x=some y){K:V->Prop}(hK:K y):unV op x K:=by
 unfold unF at h
 unfold unV
 split at h
 ·injection h with h;subst h;simp only;rw[Int.zero_sub];exact hK
 ·exact M5
 ·cases h
theorem Be{m:Bool}{x y v:V}(h:rT m x y=some v){K:V->Prop}(hK:K v):pC m [x,y] K:=by
 unfold rT at h
 unfold pC
 split at h
 ·split at h
  ·exact M8
  ·cases h
 ·cases h
theorem D1{op:Op}(h:gA P s fr op=some (v,Δ,rd))(hK:K v Δ rd):Q3 P s fr op K:=by
 cases op<;>simp only[gA]at h<;>simp only[Q3]<;>try (cases h;done)
 case move x=>have h:=kP h;simp only[Prod.mk.injEq]at h;obtain⟨rfl,rfl,rfl⟩:=h;exact hK
 case assign x=>have h:=kP h;simp only[Prod.mk.injEq]at h;obtain⟨rfl,rfl,rfl⟩:=h;exact hK
 case pick c a b=>
  obtain⟨x,h1,h⟩:=j8 h;simp only[Prod.mk.injEq]at h;obtain⟨rfl,rfl,rfl⟩:=h
  exact G0 h1 hK
 case alloc t=>
  split at h
  ·rename_i cs hz;simp only[Option.some.injEq,Prod.mk.injEq]at h;obtain⟨rfl,rfl,rfl⟩:=h;exact⟨cs,hz,hK⟩
  ·cases h
 case box t x=>
  split at h
  ·rename_i cs hz;simp only[Option.some.injEq,Prod.mk.injEq]at h;obtain⟨rfl,rfl,rfl⟩:=h;exact⟨cs,hz,hK⟩
  ·cases h
 case build t parts=>
  obtain⟨x,h1,h⟩:=j8 h;simp only[Prod.mk.injEq]at h;obtain⟨rfl,rfl,rfl⟩:=h
  unfold BG at h1
  split at h1
  ·rename_i z pl hz hp
   split at h1
   ·rename_i cs hc;injection h1 with h1;subst h1;exact⟨z,pl,cs,hz,hp,hc,hK⟩
   ·cases h1
  ·cases h1
 case buildSlice t len parts=>exact tM h hK
 case load t x=>exact G1 h hK
 case store t x y=>exact D0 h hK
 case nilCheck x=>
  obtain⟨y,h1,h⟩:=j8 h;simp only[Prod.mk.injEq]at h;obtain⟨rfl,rfl,rfl⟩:=h
  exact xd h1 hK
 case binOp op t x y yt=>
  unfold fU at h
  split at h
  ·rename_i z h1
   have h:=kP h;simp only[Prod.mk.injEq]at h;obtain⟨rfl,rfl,rfl⟩:=h
   exact .inl (Lh h1 hK)
  ·right;simp only[h,dx];exact hK
 case unOp op t x=>
  obtain⟨z,h1,h⟩:=j8 h;simp only[Prod.mk.injEq]at h;obtain⟨rfl,rfl,rfl⟩:=h
  unfold KC at h1
  split at h1
  ·rename_i hx;injection h1 with h1;subst h1;exact .inr ⟨rfl,hx,hK⟩
  ·exact .inl (Og h1 hK)
 case slice t x lo hi mx=>simp only[h,dx];exact hK
 case field t x f=>
  exact X2
 case typeAssert x xt t ok=>
  exact X2
 case makeMap t r=>
  cases r with
  |none=>simp only[h,dx];exact hK
  |some x=>cases h
 case lookup t m k ok=>simp only[h,dx];exact hK
 case mapUpdate t m k v=>simp only[h,dx];exact hK
 case insert t m k v=>simp only[h,dx];exact hK
 case index t x i=>
  exact X2
 case convert u t x=>
  split at h
  ·rename_i d k k' n hu hk hx
   have h:=kP h;simp only[Prod.mk.injEq]at h;obtain⟨rfl,rfl,rfl⟩:=h
   exact⟨by rw[hu];rfl,by simp only[hk,hx];exact hK⟩
  ·cases h
 case makeInterface t x=>
  obtain⟨z,h1,h⟩:=j8 h;simp only[Prod.mk.injEq]at h;obtain⟨rfl,rfl,rfl⟩:=h
  obtain⟨h2,rfl⟩:=tL h1
  refine⟨?_, ?_⟩
  ·unfold qK at h2
   cases hd:P.underlying t with
   |none=>simp[hd]at h2
   |some d=>exact⟨d,rfl,by cases d<;>simp_all⟩
  ·split
   ·rename_i y hy;simp only[hy]at hK;exact hK
   ·rename_i hy
    split at hK
    ·rename_i y Lj;exact absurd Lj (hy y)
    ·exact hK
 case makeFunc fn first cap=>have h:=kP h;simp only[Prod.mk.injEq]at h;obtain⟨rfl,rfl,rfl⟩:=h;exact hK
 case makeSlice t l c=>
  exact vq h hK
 case fieldAddr t x f=>
  obtain⟨z,h1,h⟩:=j8 h;simp only[Prod.mk.injEq]at h;obtain⟨rfl,rfl,rfl⟩:=h
  exact vo h1 hK
 case indexAddr t x i=>
  exact vn h hK
 case extract x i=>
  split at h
  ·rename_i vs hv
   split at h
   ·rename_i u hu
    have h:=kP h;simp only[Prod.mk.injEq]at h;obtain⟨rfl,rfl,rfl⟩:=h
    simp only[hv];exact⟨_,hu,hK⟩
   ·cases h
  ·cases h
 case call c=>
  obtain⟨N4,args,ts⟩:=c
  cases N4<;>simp only at h|- <;>try (cases h;done)
  rename_i b
  unfold rU at h
  unfold ru
  split at h
  ·rename_i x ha
   simp only[ha]
   split at h
   ·rename_i t pG;exact⟨t,pG,Li h hK⟩
   ·cases h
  ·rename_i x y ha
   simp only[ha]
   split at h
   ·rename_i r hr
    simp only[Option.some.injEq]at h
    subst h
    exact .inl (.inl (by rw[hr];exact hK))
   ·exact .inr (BH h hK)
  ·rename_i x y ha
   exact adp
  ·rename_i x y ha
   exact adp
  ·rename_i x y z ha
   simp only[ha]
   obtain⟨v0,h1,h⟩:=j8 h;simp only[Prod.mk.injEq]at h;obtain⟨rfl,rfl,rfl⟩:=h
   exact acR
  ·rename_i x y ha
   simp only[ha,h,dx];exact hK
  ·rename_i x y ha
   simp only[ha]
   split at h
   ·rename_i t ht;exact⟨t,ht,by simp only[h,dx];exact hK⟩
   ·cases h
  ·rename_i x ha
   simp only[ha,h,dx];exact hK
  ·cases h
 case range t x=>simp only[h,dx];exact hK
 case next x str=>left;simp only[h,dx];exact hK
 case entry x=>simp only[h,dx];exact hK
end
end
section
def xe(P:Program)(g:FuncId)(ds:List D)(o o1 oa:Nat->aa)(K:V->(Nat->aa)->Prop)(X:V->(Nat->aa)->Prop):Prop:=
 ∃out,aW P g ds out/\((match out with| .ret rs=>K (kb rs) o1| .bU x=>X (.d x) o1)\/(out.flat=true/\match out with| .ret rs=>K (kb rs) o| .bU x=>X (.d x) o)\/(out.oF=true/\match out with| .ret rs=>K (kb rs) oa| .bU x=>X (.d x) oa))
def uJ(P:Program)(g:FuncId)(args:List V)(o:Nat->aa)(nx:Nat)(K:V->(Nat->aa)->Nat->Prop)(X:V->(Nat->aa)->Nat->Prop):Prop:=qf P g args o nx K X
theorem qf.mono {P:Program}{g:FuncId}{args:List V}{o:Nat->aa}{nx:Nat}{K X K' X':V->(Nat->aa)->Nat->Prop}(hK:∀v o n,K v o n->K' v o n)(hX:∀v o n,X v o n->X' v o n)(h:qf P g args o nx K X):qf P g args o nx K' X':=
 h.imp (cX.mono hK hX) (cX.mono hK hX)
@[congr] theorem Vy {P:Program} {g g':FuncId} {ds ds':List D} {o o1 oa:Nat->aa} {K X} (h:g=g') (h':ds=ds'):xe P g ds o o1 oa K X=xe P g' ds' o o1 oa K X:=by subst h;subst h';rfl
@[congr] theorem Vz {P:Program} {g g':FuncId} {cI adS:List V} {o:Nat->aa} {nx:Nat} {K X} (h:g=g') (h':cI=adS):uJ P g cI o nx K X=uJ P g' adS o nx K X:=by subst h;subst h';rfl
def VA(P:Program)(g:FuncId)(args:List V)(o:Nat->aa)(nx:Nat)(K X:V->(Nat->aa)->Nat->Prop):Prop:=
 (∃ds,cF o args=some ds/\xe P g ds o (put o (bY o (V.bC args))) (put o (tq o (V.bC args))) (fun v o'=>K v o' (nx+1)) (fun v o'=>X v o' (nx+1)))\/cX P g args o nx K X
def VB(P:Program)(s:S)(op:Op)(K:V->List (Nat×aa)->Prop):Prop:=
 match op with
 | .call c=>match c.callee with
   | .builtin .append=>match c.args.toList with
     |[x,y]=>wF P s.o s.nx c.argTypes (s.ev x) (s.ev y) fun v Δ _=>K v Δ
     |_=>False
   |_=>False
 |_=>False
theorem Lk{P:Program}{o:Nat->aa}{fr:Nat}{ts:Array TypeId}{x y:V}{K K':V->List (Nat×aa)->List Nat->Prop}(hK:∀v Δ rd,K v Δ rd->K' v Δ rd)(h:wF P o fr ts x y K):wF P o fr ts x y K':=by
 unfold wF at h|-
 split at h
 ·split at h
  ·split at h
   ·obtain⟨a1,a2,a3,a4,a5,a6⟩:=h
    exact⟨a1,a2,a3,a4,a5,fun G g1 g2=>hK _ _ _ (a6 G g1 g2)⟩
   ·exact h.elim
  ·exact h.elim
 ·split at h
  ·split at h
   ·obtain⟨a1,a2,a3,a4,a5,a6,a7,a8,a9,a10,a11,a12⟩:=h
    exact⟨a1,a2,a3,a4,a5,a6,a7,a8,a9,a10,fun h=>hK _ _ _ (a11 h),fun h G g1 g2=>hK _ _ _ (a12 h G g1 g2)⟩
   ·exact h.elim
  ·exact h.elim
 ·exact h.elim
theorem D2{P:Program}{s:S}{op:Op}{K K':V->List (Nat×aa)->Prop}(hK:∀v Δ,K v Δ->K' v Δ)(h:VB P s op K):VB P s op K':=by
 unfold VB at h|-
 split at h
 ·split at h
  ·split at h
   ·exact Lk (fun v Δ _=>hK v Δ) h
   ·exact h.elim
  ·exact h.elim
 ·exact h.elim
theorem R5{P:Program}{s:S}{op:Op}{K:V->List (Nat×aa)->Prop}(h:VB P s op K):Q3 P s s.nx op fun v Δ _=>K v Δ:=by
 unfold VB at h
 split at h
 ·rename_i c
  split at h
  ·rename_i hc
   split at h
   ·rename_i x y ha
    simp only[Q3,hc,ru,ha]
    exact .inl (.inr h)
   ·exact h.elim
  ·exact h.elim
 ·exact h.elim
def MM(P:Program)(s:S)(o:b8)(X:V->S->Prop)(K:S->Prop):Prop:=
 match o.op with
 | .call c=>match c.callee with
   | .value f=>match s.ev f with
     | .func (.func g) first cap=>match cF s.o (first++c.args.toList.map s.ev++cap)with
       |some ds=>xe P g ds s.o (put s.o (bY s.o (V.bC (first++c.args.toList.map s.ev++cap)))) (put s.o (tq s.o (V.bC (first++c.args.toList.map s.ev++cap)))) (fun v o'=>K ⟨bf s.env o.dst v,o',s.nx+1⟩) (fun v o'=>X v ⟨s.env,o',s.nx+1⟩)\/
        uJ P g (first++c.args.toList.map s.ev++cap) s.o s.nx (fun v o' nx'=>K ⟨bf s.env o.dst v,o',nx'⟩) (fun v o' nx'=>X v ⟨s.env,o',nx'⟩)
       |none=>uJ P g (first++c.args.toList.map s.ev++cap) s.o s.nx (fun v o' nx'=>K ⟨bf s.env o.dst v,o',nx'⟩) (fun v o' nx'=>X v ⟨s.env,o',nx'⟩)
     | .jI id=>eu P id (c.args.toList.map s.ev) s.o s.nx (fun v o' nx'=>K ⟨bf s.env o.dst v,o',nx'⟩) (fun v o' nx'=>X v ⟨s.env,o',nx'⟩)
     |_=>False
   | .invoke r m=>match wZ P m (s.ev r)with
     |some (g,y)=>VA P g (y::c.args.toList.map s.ev) s.o s.nx (fun v o' nx'=>K ⟨bf s.env o.dst v,o',nx'⟩) (fun v o' nx'=>X v ⟨s.env,o',nx'⟩)
     |none=>False
   |_=>(match gA P s s.nx o.op with
    |some (v,Δ,_)=>K ⟨bf s.env o.dst v,put s.o Δ,s.nx+1⟩
    |none=>False)\/VB P s o.op fun v Δ=>K ⟨bf s.env o.dst v,put s.o Δ,s.nx+1⟩
 | .panic x=>match s.ev x with
   | .d (.iface t y)=>X (.d (.iface t y)) s
   | .iface t y=>X (.iface t y) s
   |_=>False
 | .next x str=>match ql s.o (s.ev x)with
   |some (id,l)=>str=false/\IF id l fun v Δ _=>K ⟨bf s.env o.dst v,put s.o Δ,s.nx+1⟩
   |none=>match gA P s s.nx o.op with
    |some (v,Δ,_)=>K ⟨bf s.env o.dst v,put s.o Δ,s.nx+1⟩
    |none=>False
 |op=>match gA P s s.nx op with
  |some (v,Δ,_)=>K ⟨bf s.env o.dst v,put s.o Δ,s.nx+1⟩
  |none=>False
def qL(P:Program)(X:V->S->Prop)(K:S->Prop):List b8->S->Prop
 |[],s=>K s
 |o::l,s=>match o.gd with
  |none=>MM P s o X (qL P X K l)
  |some (d,want)=>match s.env d with
   | .d (.bool b)=>if b=want then MM P s o X (qL P X K l)else qL P X K l ⟨bf s.env o.dst (.cc []),s.o,s.nx+1⟩
   | .cc []=>qL P X K l ⟨bf s.env o.dst (.cc []),s.o,s.nx+1⟩
   |_=>False
def Oh(b:Nat)(body:(fW->S->Prop)->S->Prop)(Q:fW->S->Prop)(s:S):Prop:=
 ∃ (J:Nat->S->Prop),(∃m s1,aZ b s s1/\J m s1)/\∀m s0,J m s0->body (fun e s=>match e with| .normal=>∃m' s1,m'<m/\aZ b s s1/\J m' s1|e=>Q e s) s0
@[congr] theorem VC {b:Nat} {body Q} {s s':S} (h:s=s'):Oh b body Q s=Oh b body Q s':=by subst h;rfl
def rV(t:Bool)(A B:Prop):Prop:=(t=true->A)/\(t=false->B)
@[congr] theorem VD {t t':Bool} {A B:Prop} (h:t=t'):rV t A B=rV t' A B:=by subst h;rfl
@[simp] theorem xf (A B:Prop):rV true A B=A:=by simp[rV]
@[simp] theorem uK (A B:Prop):rV false A B=B:=by simp[rV]
section
variable {P:Program}{n b:Nat}
theorem I7{s:S}{o:b8}{o':Oper}{X X':V->S->Prop}{K K':S->Prop}(iS:o'.op=o.op)(dh:o'.dst=o.dst)(hd:iF n o'.dst)(hK:∀s,K s->K' s)(hX:∀v s,X v s->X' v s)(h:MM P s o X K):opW P n s o' X' K':=by
 refine⟨hd, ?_⟩
 rw[dh,iS]
 unfold MM at h
 have hs:∀ {op:Op},(match gA P s s.nx op with|some (v,Δ,_)=>K ⟨bf s.env o.dst v,put s.o Δ,s.nx+1⟩|none=>False)->Q3 P s s.nx op fun v Δ _=>K' ⟨bf s.env o.dst v,put s.o Δ,s.nx+1⟩:=by
  intro op h
  split at h
  ·rename_i v Δ rd he;exact D1 he (hK _ h)
  ·exact h.elim
 split at h
 ·rename_i c hc
  split at h
  ·rename_i f fI
   simp only[hc,fI]
   split at h
   ·rename_i g first cap hf
    unfold DO
    simp only[hf]
    unfold wY
    split at h
    ·rename_i ds fL
     rcases h with⟨out,hP,h|⟨nX,h⟩|⟨nX,h⟩⟩|h
     ·exact U5
     ·exact UW
     ·exact UQ
     ·exact acW
    ·exact acW
   ·rename_i id hf
    unfold DO
    simp only[hf]
    exact eu.mono (fun v o n h=>hK _ h) (fun v o n h=>hX _ _ h) h
   ·exact h.elim
  ·rename_i r m fI
   simp only[hc,fI]
   split at h
   ·rename_i g y hr
    simp only[hr]
    unfold wY
    rcases h with⟨ds,fL,out,hP,h|⟨nX,h⟩|⟨nX,h⟩⟩|h
    ·exact U5
    ·exact UW
    ·exact UQ
    ·exact .inr (.inr (.inr (.inl (cX.mono (fun v o n h=>hK _ h) (fun v o n h=>hX _ _ h) h))))
   ·exact h.elim
  ·rename_i fI hinv
   rw[hc]at h|-
   obtain⟨N4,args,ts⟩:=c
   cases N4 with
   |value f=>exact absurd rfl (fI f)
   |invoke r m=>exact absurd rfl (hinv r m)
   |_=>exact h.elim (fun h=>hs h) (fun h=>R5 (D2 (fun v Δ h=>hK _ h) h))
 ·rename_i x hx
  simp only[hx]
  split at h
  ·rename_i hv;simp only[hv];exact hX _ _ h
  ·rename_i hv;simp only[hv];exact hX _ _ h
  ·exact h.elim
 ·rename_i x str hx
  rw[hx]at h|-
  split at h
  ·rename_i id l hl
   exact .inr ⟨h.1,id,l,hl,fun e=>hK _ (h.2.1 e),fun i k x e=>hK _ (h.2.2 i k x e)⟩
  ·exact hs h
 ·rename_i hc hp w8
  have h2:=hs h
  cases hh:o.op<;>first
   |exact absurd hh (hc _)
   |exact absurd hh (hp _)
   |exact absurd hh (w8 _ _)
   |(rw[hh]at h2;exact h2)
theorem ko{ops:Array Oper}{X X':V->S->Prop}{K K':S->Prop}(hK:∀s,K s->K' s)(hX:∀v s,X v s->X' v s):∀ (l:List Oper) (l':List b8) (s:S),ml n ops l=some l'->qL P X K l' s->Bx P n ops X' K' l s
 |[],l',s,h,hr=>by simp[ml]at h;subst h;exact hK _ hr
 |o::l,l',s,h,hr=>by
  simp only[ml]at h
  split at h
  ·rename_i x xs hx Gy
   injection h with h;subst h
   unfold NJ at hx
   split at hx
   ·rename_i hd
    have dh:iF n o.dst:=by
     unfold Gt at hd;unfold iF
     split at hd<;>simp_all
    simp only[Bx,Bw]
    cases hg:o.guard with
    |none=>
     simp only[hg]at hx
     injection hx with hx;subst hx
     exact I7 rfl rfl dh (fun s hs=>ko hK hX l xs s Gy hs) hX hr
    |some p=>
     obtain⟨j,want⟩:=p
     simp only[hg]at hx
     cases VE:uy ops j with
     |none=>simp[VE]at hx
     |some d=>
      simp only[VE]at hx
      injection hx with hx;subst hx
      simp only
      simp only[qL]at hr
      split at hr
      ·rename_i t ht
       simp only[VE,ht]
       split at hr
       ·rename_i e
        exact⟨fun _=>I7 rfl rfl dh (fun s hs=>ko hK hX l xs s Gy hs) hX hr,fun h=>absurd e h⟩
       ·rename_i e
        exact⟨fun h=>absurd h e,fun _=>⟨dh,ko hK hX l xs _ Gy hr⟩⟩
      ·rename_i ht
       simp only[VE,ht]
       exact⟨dh,ko hK hX l xs _ Gy hr⟩
      ·exact hr.elim
   ·cases hx
  ·cases h
end
end
section
mutual
def V.refs:V->List Nat
 | .ptr id _=>[id]| .osl id _=>[id]| .pe id _ _ _ _=>[id]| .jo id _ _ _=>[id]| .mp id=>[id]| .jI id=>[id]
 | .agg cs=>V.aM cs
 | .cc cs=>V.aM cs
 | .func _ a b=>V.aM a++V.aM b
 | .iface _ x=>x.refs
 |_=>[]
def V.aM:List V->List Nat
 |[]=>[]
 |v::vs=>v.refs++V.aM vs
end
mutual
theorem kQ:∀ (v:V),∀id∈v.ids,id∈v.refs
 | .osl id _,j,h=>by simpa[V.ids,V.refs]using h
 | .agg cs,j,h=>by simp only[V.ids]at h;simp only[V.refs];exact m7 cs j h
 | .iface _ x,j,h=>by simp only[V.ids]at h;simp only[V.refs];exact kQ x j h
 | .mp _,j,h=>by simpa[V.ids,V.refs]using h
 | .d _,_,h| .aU,_,h| .cc _,_,h| .ptr _ _,_,h| .pe _ _ _ _ _,_,h| .pp _ _,_,h| .func _ _ _,_,h| .ag,_,h| .qx _,_,h| .jo _ _ _ _,_,h| .fl,_,h| .jI _,_,h=>by simp[V.ids]at h
theorem m7:∀ (vs:List V),∀id∈V.bC vs,id∈V.aM vs
 |[],j,h=>by simp[V.bC]at h
 |v::vs,j,h=>by
  simp only[V.bC,V.aM,List.mem_append]at h|-
  exact h.imp (kQ v j) (m7 vs j)
end
mutual
theorem dK{o o':Nat->aa}:∀ (v:V),(∀id∈v.refs,o' id=o id)->dS o' v=dS o v
 | .osl id ep,h=>by simp only[dS,h id (by simp[V.refs])]
 | .mp id,h=>by simp only[dS,h id (by simp[V.refs])]
 | .agg cs,h=>by simp only[dS,jf cs (by simpa[V.refs]using h)]
 | .iface t x,h=>by simp only[dS,dK x (by simpa[V.refs]using h)]
 | .d _,_| .aU,_| .cc _,_| .ptr _ _,_| .pe _ _ _ _ _,_| .pp _ _,_| .func _ _ _,_| .ag,_| .qx _,_| .jo _ _ _ _,_| .fl,_| .jI _,_=>by simp only[dS]
theorem jf{o o':Nat->aa}:∀ (vs:List V),(∀id∈V.aM vs,o' id=o id)->cF o' vs=cF o vs
 |[],_=>rfl
 |v::vs,h=>by
  simp only[cF,dK v (fun id aq=>h id (by simp[V.aM,aq])),jf vs (fun id aq=>h id (by simp[V.aM,aq]))]
end
theorem iX{o o':Nat->aa}{ids:List Nat}(h:∀id∈ids,o' id=o id):bY o' ids=bY o ids:=by
 rw[kK,kK]
 exact List.map_congr_left fun id aq=>by rw[h id aq]
def pV(s:S)(op:Op):List Nat:=
 match op with
 | .load _ x=>(s.ev x).refs
 | .nilCheck x=>(s.ev x).refs
 | .fieldAddr _ x _=>(s.ev x).refs
 | .indexAddr _ x _=>(s.ev x).refs
 | .store _ x v=>(s.ev x).refs++(s.ev v).refs
 | .buildSlice _ _ parts=>V.aM (parts.toList.map fun p=>s.ev p.2)
 | .binOp _ _ x y _=>(s.ev x).refs++(s.ev y).refs
 | .slice _ x _ _ _=>(s.ev x).refs
 | .lookup _ m k _=>(s.ev m).refs++(s.ev k).refs
 | .mapUpdate _ m k v=>(s.ev m).refs++((s.ev k).refs++(s.ev v).refs)
 | .insert _ m k v=>(s.ev m).refs++((s.ev k).refs++(s.ev v).refs)
 | .range _ x=>(s.ev x).refs
 | .next x _=>(s.ev x).refs
 | .entry x=>(s.ev x).refs
 | .call c=>match c.callee with
   | .builtin _=>V.aM (c.args.toList.map s.ev)
   | .value f=>match s.ev f with
     | .func _ first cap=>V.aM (first++c.args.toList.map s.ev++cap)
     |_=>[]
   |_=>[]
 |_=>[]
section
variable {P:Program}{s s':S}{fr:Nat}
theorem uL{o o':Nat->aa}(v:V)(h:∀id∈v.refs,o' id=o id):rR o' v=rR o v:=by
 cases v with
 |osl id ep=>simp only[rR,h id (by simp[V.refs])]
 |d x=>cases x<;>rfl
 |_=>rfl
theorem uM{o o':Nat->aa}(v:V)(q:Nat)(h:∀id∈v.refs,o' id=o id):qo o' v q=qo o v q:=by
 cases v<;>simp only[qo]<;>rw[h _ (by simp[V.refs])]
theorem G2{o o':Nat->aa}(v:V)(h:∀id∈v.refs,o' id=o id):Ds o' v=Ds o v:=by
 have h1:dA o' v=dA o v:=by unfold dA;rw[dK v h]
 cases v<;>first|rfl|simp only[Ds,h1]
theorem BI{o o':Nat->aa}(v:V)(h:∀id∈v.refs,o' id=o id):tu o' v=tu o v:=by
 cases v with
 |mp id=>simp only[tu,h id (by simp[V.refs])]
 |d x=>cases x<;>rfl
 |_=>rfl
theorem BJ{o o':Nat->aa}(v:V)(h:∀id∈v.refs,o' id=o id):tv o' v=tv o v:=by
 cases v with
 |ptr id off=>simp only[tv,h id (by simp[V.refs])]
 |d x=>cases x<;>rfl
 |_=>rfl
theorem oL{o o':Nat->aa}(v:V)(h:∀id∈v.refs,o' id=o id):qj o' v=qj o v:=by
 cases v with
 |mp id=>simp only[qj,h id (by simp[V.refs])]
 |d x=>cases x<;>rfl
 |_=>rfl
theorem D3{o o':Nat->aa}(v:V)(h:∀id∈v.refs,o' id=o id):rr o' v=rr o v:=by
 cases v with
 |mp id=>simp only[rr,h id (by simp[V.refs])]
 |d x=>cases x<;>rfl
 |_=>rfl
theorem D4{o o':Nat->aa}(v:V)(str:Bool)(h:∀id∈v.refs,o' id=o id):qk o' v str=qk o v str:=by
 cases v with
 |ptr id off=>cases off<;>simp only[qk,h id (by simp[V.refs])]
 |_=>rfl
theorem BK{o o':Nat->aa}(v:V)(h:∀id∈v.refs,o' id=o id):ow o' v=ow o v:=by
 cases v with
 |ptr id off=>cases off<;>simp only[ow,h id (by simp[V.refs])]
 |_=>rfl
theorem BL{o o':Nat->aa}{fr:Nat}{t:TypeId}{P:Program}(v:V)(h:∀id∈v.refs,o' id=o id):ou P o' fr t v=ou P o fr t v:=by
 unfold ou
 cases v with
 |mp id=>simp only[h id (by simp[V.refs])]
 |d x=>cases x<;>rfl
 |_=>rfl
theorem BM{o o':Nat->aa}(v:V)(h:∀id∈v.refs,o' id=o id):qz o' v=qz o v:=by
 cases v with
 |ptr id off=>simp only[qz,h id (by simp[V.refs])]
 |_=>rfl
theorem G3{o o':Nat->aa}(v:V)(h:∀id∈v.refs,o' id=o id):GX o' v=GX o v:=by
 cases v with
 |jo id off n c=>simp only[GX,h id (by simp[V.refs])]
 |_=>rfl
theorem BN{o o':Nat->aa}(v:V)(h:∀id∈v.refs,o' id=o id):qA o' v=qA o v:=by
 cases v with
 |jo id off n c=>simp only[qA,h id (by simp[V.refs])]
 |_=>rfl
theorem G4(op:Op)(hv:∀x∈op.operands,s'.ev x=s.ev x)(ho:∀id∈pV s op,s'.o id=s.o id):gA P s' fr op=gA P s fr op:=by
 cases op<;>simp only[gA]
 case move x=>rw[hv x (by simp[Op.operands])]
 case assign x=>rw[hv x (by simp[Op.operands])]
 case pick c a b=>rw[hv c (by simp[Op.operands]),hv a (by simp[Op.operands]),hv b (by simp[Op.operands])]
 case box t x=>rw[hv x (by simp[Op.operands])]
 case build t parts=>
  have:(parts.toList.map fun p=>(p.1,s'.ev p.2))=parts.toList.map fun p=>(p.1,s.ev p.2):=
   List.map_congr_left fun p hp=>by rw[hv p.2 (by simp only[Op.operands];simp;exact⟨p.1,by simpa using hp⟩)]
  rw[this]
 case buildSlice t len parts=>
  have:(parts.toList.map fun p=>(p.1,s'.ev p.2))=parts.toList.map fun p=>(p.1,s.ev p.2):=
   List.map_congr_left fun p hp=>by rw[hv p.2 (by simp only[Op.operands];simp;exact⟨p.1,by simpa using hp⟩)]
  rw[this]
  have e:(parts.toList.map fun p=>(p.1,s.ev p.2)).map (·.2)=parts.toList.map fun p=>s.ev p.2:=by simp[Function.comp_def]
  have h1:cF s'.o ((parts.toList.map fun p=>(p.1,s.ev p.2)).map (·.2))=cF s.o ((parts.toList.map fun p=>(p.1,s.ev p.2)).map (·.2)):=jf _ (by rw[e];exact ho)
  have h2:bY s'.o (V.bC ((parts.toList.map fun p=>(p.1,s.ev p.2)).map (·.2)))=bY s.o (V.bC ((parts.toList.map fun p=>(p.1,s.ev p.2)).map (·.2))):=
   iX fun id aq=>ho id (by rw[e]at aq;exact m7 _ id aq)
  simp only[hY,h1,h2]
 case load t x=>
  rw[hv x (by simp[Op.operands])]
  cases hx:s.ev x<;>simp only[oK]<;>rw[ho _ (by simp[pV,hx,V.refs])]
 case store t x y=>
  rw[hv x (by simp[Op.operands]),hv y (by simp[Op.operands])]
  have h1:dS s'.o (s.ev y)=dS s.o (s.ev y):=dK _ fun id aq=>ho id qv
  have h2:bY s'.o (s.ev y).ids=bY s.o (s.ev y).ids:=iX fun id aq=>ho id (by simp[pV,kQ _ _ aq])
  cases hx:s.ev x<;>simp only[tK]<;>rw[ho _ (by simp[pV,hx,V.refs])]
  simp only[h1,h2]
 case nilCheck x=>
  rw[hv x (by simp[Op.operands])]
  cases hx:s.ev x with
  |ptr id off=>simp only[kn];rw[ho _ (by simp[pV,hx,V.refs])]
  |func fn a b=>cases fn<;>rfl
  |_=>rfl
 case binOp op t x y yt=>
  rw[hv x (by simp[Op.operands]),hv y (by simp[Op.operands])]
  have h1:Ds s'.o (s.ev x)=Ds s.o (s.ev x):=G2 _ fun id aq=>ho id qv
  have h2:∀a b,ux P s'.o a b (s.ev x) (s.ev y)=ux P s.o a b (s.ev x) (s.ev y):=fun a b=>by
   have h3:∀id∈(s.ev x).refs,s'.o id=s.o id:=fun id aq=>ho id qv
   have h4:=BI (s.ev x) h3
   have h5:=BJ (s.ev x) h3
   unfold ux
   rw[h1,h4,h5]
  unfold fU tw
  simp only[h2]
 case slice t x lo hi mx=>
  rw[hv x (by simp[Op.operands])]
  have e1:lo.map s'.ev=lo.map s.ev:=by cases lo<;>simp[hv,Op.operands]
  have e2:hi.map s'.ev=hi.map s.ev:=by cases hi<;>simp[hv,Op.operands]
  have e3:mx.map s'.ev=mx.map s.ev:=by cases mx<;>simp[hv,Op.operands]
  rw[e1,e2,e3]
  have h3:∀id∈(s.ev x).refs,s'.o id=s.o id:=fun id aq=>ho id qv
  have h1:dA s'.o (s.ev x)=dA s.o (s.ev x):=by unfold dA;rw[dK _ h3]
  have h2:bY s'.o (s.ev x).ids=bY s.o (s.ev x).ids:=iX fun id aq=>h3 id (kQ _ _ aq)
  have h4:Gu P s'.o t (s.ev x) (lo.map s.ev) (hi.map s.ev) (mx.map s.ev)=Gu P s.o t (s.ev x) (lo.map s.ev) (hi.map s.ev) (mx.map s.ev):=by
   cases hx:s.ev x with
   |osl id ep=>simp only[Gu,h3 id (by simp[hx,V.refs])]
   |_=>rfl
  unfold tt rn
  simp only[h1,h2,h4,BM _ h3]
 case field t x f=>rw[hv x (by simp[Op.operands])]
 case typeAssert x xt t ok=>rw[hv x (by simp[Op.operands])]
 case makeMap t r=>cases r<;>rfl
 case lookup t m k ok=>
  rw[hv m (by simp[Op.operands]),hv k (by simp[Op.operands])]
  have h3:∀id∈(s.ev m).refs,s'.o id=s.o id:=fun id aq=>ho id qv
  have h1:dS s'.o (s.ev k)=dS s.o (s.ev k):=dK _ fun id aq=>ho id qv
  unfold jq
  simp only[h1,D3 _ h3]
 case mapUpdate t m k v=>
  rw[hv m (by simp[Op.operands]),hv k (by simp[Op.operands]),hv v (by simp[Op.operands])]
  have h3:∀id∈(s.ev m).refs,s'.o id=s.o id:=fun id aq=>ho id qv
  have h1:dS s'.o (s.ev k)=dS s.o (s.ev k):=dK _ fun id aq=>ho id qv
  have h2:dS s'.o (s.ev v)=dS s.o (s.ev v):=dK _ fun id aq=>ho id qv
  have h4:bY s'.o (s.ev v).ids=bY s.o (s.ev v).ids:=iX fun id aq=>ho id (by simp[pV,kQ _ _ aq])
  unfold gI
  simp only[h1,h2,h4,oL _ h3]
 case insert t m k v=>
  rw[hv m (by simp[Op.operands]),hv k (by simp[Op.operands]),hv v (by simp[Op.operands])]
  have h3:∀id∈(s.ev m).refs,s'.o id=s.o id:=fun id aq=>ho id qv
  have h1:dS s'.o (s.ev k)=dS s.o (s.ev k):=dK _ fun id aq=>ho id qv
  have h2:dS s'.o (s.ev v)=dS s.o (s.ev v):=dK _ fun id aq=>ho id qv
  have h4:bY s'.o (s.ev v).ids=bY s.o (s.ev v).ids:=iX fun id aq=>ho id (by simp[pV,kQ _ _ aq])
  unfold gI
  simp only[h1,h2,h4,oL _ h3]
 case index t x i=>rw[hv x (by simp[Op.operands]),hv i (by simp[Op.operands])]
 case range t x=>
  rw[hv x (by simp[Op.operands])]
  exact BL _ fun id aq=>ho id qv
 case next x str=>
  rw[hv x (by simp[Op.operands])]
  exact D4 _ _ fun id aq=>ho id qv
 case entry x=>
  rw[hv x (by simp[Op.operands])]
  exact BK _ fun id aq=>ho id qv
 case unOp op t x=>rw[hv x (by simp[Op.operands])]
 case convert u t x=>rw[hv x (by simp[Op.operands])]
 case makeInterface t x=>rw[hv x (by simp[Op.operands])]
 case makeFunc fn first cap=>
  have h1:first.toList.map s'.ev=first.toList.map s.ev:=List.map_congr_left fun x hx=>hv x (by simp only[Op.operands];exact Array.mem_append.2 (.inl (Array.mem_toList_iff.1 hx)))
  have h2:cap.toList.map s'.ev=cap.toList.map s.ev:=List.map_congr_left fun x hx=>hv x (by simp only[Op.operands];exact Array.mem_append.2 (.inr (Array.mem_toList_iff.1 hx)))
  rw[h1,h2]
 case makeSlice t l c=>rw[hv l (by simp[Op.operands]),hv c (by simp[Op.operands])]
 case fieldAddr t x f=>
  rw[hv x (by simp[Op.operands])]
  simp only[je]
  cases bH P t f<;>simp only
  rw[uM _ _ (by simpa[pV]using ho)]
 case indexAddr t x i=>
  rw[hv x (by simp[Op.operands]),hv i (by simp[Op.operands])]
  have h1:∀q,qo s'.o (s.ev x) q=qo s.o (s.ev x) q:=fun q=>uM _ _ (by simpa[pV]using ho)
  simp only[jd,h1]
  cases hx:s.ev x with
  |osl id ep=>simp only[ho id (by simp[pV,hx,V.refs])]
  |jo id off n c=>simp only[ho id (by simp[pV,hx,V.refs])]
  |d y=>cases y<;>rfl
  |_=>rfl
 case extract x i=>rw[hv x (by simp[Op.operands])]
 case call c=>
  obtain⟨N4,args,ts⟩:=c
  cases N4<;>simp only
  rename_i b
  unfold rU
  have hm:∀x∈args.toList,s'.ev x=s.ev x:=fun x hx=>hv x acP
  have hr:∀x∈args.toList,∀id∈(s.ev x).refs,s'.o id=s.o id:=by
   intro x hx id aq
   refine ho id ?_
   simp only[pV]
   generalize args.toList=l at hx
   induction l with
   |nil=>cases hx
   |cons y l ih=>
    simp only[List.map_cons,V.aM,List.mem_append]
    rcases List.mem_cons.1 hx with rfl|hx
    ·exact .inl aq
    ·exact .inr (ih hx)
  split
  ·rename_i x ha
   rw[ha]at hm hr
   rw[hm x (by simp)]
   have h1:∀t,GY P t s'.o (s.ev x)=GY P t s.o (s.ev x):=fun t=>by simp only[GY,uL _ (hr x (by simp)),G3 _ (hr x (by simp))]
   simp only[h1]
  ·rename_i x y ha
   rw[ha]at hm hr
   rw[hm x (by simp),hm y (by simp)]
   simp only[rS,uL _ (hr y (by simp))]
   cases zJ P fr ts (s.ev x) (s.ev y)with
   |some r=>rfl
   |none=>
   dsimp only
   cases hx:s.ev x with
   |osl id ep=>simp only[hr x (by simp) id (by simp[hx,V.refs])]
   |_=>rfl
  ·rename_i x y ha
   rw[ha]at hm
   rw[hm x (by simp),hm y (by simp)]
  ·rename_i x y ha
   rw[ha]at hm
   rw[hm x (by simp),hm y (by simp)]
  ·rename_i x y z h;rw[hm x (by rw[h];simp),hm y (by rw[h];simp),hm z (by rw[h];simp)]
  ·rename_i x y ha
   rw[ha]at hm hr
   rw[hm x (by simp),hm y (by simp)]
   have h1:dA s'.o (s.ev y)=dA s.o (s.ev y):=by unfold dA;rw[dK _ (hr y (by simp))]
   have h2:bY s'.o (s.ev y).ids=bY s.o (s.ev y).ids:=iX fun id aq=>hr y aJ id (kQ _ _ aq)
   unfold zI
   simp only[h1,h2,BN _ (hr x (by simp))]
  ·rename_i x y ha
   rw[ha]at hm hr
   rw[hm x (by simp),hm y (by simp)]
   have h1:dS s'.o (s.ev y)=dS s.o (s.ev y):=dK _ (hr y aJ)
   have h2:=oL _ (hr x aJ)
   simp only[pD,h1,h2]
  ·rename_i x ha
   rw[ha]at hm
   rw[hm x (by simp)]
  ·rfl
end
end
end Go.Proofs.YtnkamdiiakdkgaaGreat
