/-
  A PART. Conditions: none.
-/
import Derived.Test.YtlhemmpklhhgoaaGreatQf6
set_option linter.unusedSimpArgs false
set_option linter.unusedVariables false
set_option maxHeartbeats 8000000
namespace Go.Proofs.YtlhemmpklhhgoaaGreat
section
section
variable {P:Program}{M:Nat->Prop}{φ:Place}{H:Hp}{w w':World}{cY:Place}{H0:Hp}{w0:World}{n b:Nat}{s:S}{a:Act}{cx:Cx}{ro:Option Nat}{k:Nat}
theorem je(hb:∀id,H0.us id->id<b)(vL:cx.rd=false->ro=none):∀ (c:Code) (Q:gr->S->Prop) (s:S) (φ:Place) (a:Act) (w:World),jV P n b cx.rd c Q s->cB M cY H0 w0 n cx φ s a w->c.vn P ro (Ij M cY H0 w0 n cx Q) a w:=by
 intro c
 induction c with
 |skip=>exact fun Q s φ a w h hs=>qE (k:=0) (wpIn_skip ⟨.normal,s,φ,h,hs,trivial⟩)
 |scope x ih=>exact fun Q s φ a w h hs=>zV (ih Q s φ a w h hs) (fun l a w ⟨xx,s',aI,hq,kE,hm⟩=>by cases xx<;>exact hm)
 |label l=>exact fun Q s φ a w h hs=>qE (k:=0) (wpIn_label ⟨.normal,s,φ,h,hs,trivial⟩)
 |exit id=>exact fun Q s φ a w h hs=>Dv ⟨.exit id,s,φ,h,hs,rfl⟩
 |ret=>exact fun Q s φ a w h hs=>Ik ⟨.ret,s,φ,h,hs,trivial⟩
 |goto l=>exact fun Q s φ a w h hs=>h.elim
 |refuse y=>exact fun Q s φ a w h hs=>h.elim
 |rangeFunc g ps x y=>
  intro Q s φ a w h hs
  obtain⟨h1,s',hle,h2⟩:=h
  rcases hle with rfl|hle
  ·exact zY hs h1 (vL h1) h2
  ·obtain⟨aI,kE⟩:=F9 hb hs hle
   exact zY kE h1 (vL h1) h2
 |region id ops draw=>
  intro Q s φ a w h hs
  cases draw with
  |true=>exact qE (h M cY H0 w0 cx φ a w ro 0 hs)
  |false=>
   refine qE (k:=0) (wpIn_region_list (qD (K:=Q .normal) (X:=fun v s=>Q (.bU v) s) (fun s φ a w hk hs=>⟨.normal,s,φ,hk,hs,trivial⟩) (fun v s φ a w val hx hs hd=>⟨.bU v,s,φ,hx,hs,val,rfl,hd⟩) _ s φ a w h hs))
 |seq x y Ra Rb=>
  intro Q s φ a w h hs
  refine Bl (iF (Ra _ s φ a w h hs) ?_)
  rintro e a' w' ⟨xx,s',aI,hq,kE,hm⟩
  cases e<;>cases xx<;>first|(exact hm.elim)|skip
  ·exact Rb Q s' aI a' w' hq kE
  ·subst hm;exact⟨_,s',aI,hq,kE,rfl⟩
  ·exact Mv
  ·exact Mz
 |cond c x y Ra Rb=>
  intro Q s φ a w h hs
  simp only[jV]at h
  have hc:=n6 (M:=M) (φ:=φ) (H:=s.H) (w:=w) s a hs.env c
  split at h
  ·rename_i t hv
   rw[hv]at hc
   simp only[V.den,D.den]at hc
   cases t with
   |true=>exact rR hc (Ra Q s φ a w (h.1 rfl) hs)
   |false=>exact rR hc (Rb Q s φ a w (h.2 rfl) hs)
  ·rename_i hv
   rw[hv]at hc
   obtain⟨t,hc⟩:=hc
   cases t with
   |true=>exact rR hc (Ra Q s φ a w h.1 hs)
   |false=>exact rR hc (Rb Q s φ a w h.2 hs)
  ·exact h.elim
 |block id x ih=>
  intro Q s φ a w h hs
  refine KK (iF (ih _ s φ a w h hs) ?_)
  rintro e a' w' ⟨xx,s',aI,hq,kE,hm⟩
  cases e<;>cases xx<;>first|(exact hm.elim)|skip
  ·exact⟨.normal,s',aI,hq,kE,trivial⟩
  ·subst hm
   simp only[Exit.inBlock]
   simp only[gu]at hq
   split
   ·rename_i he;rw[if_pos he]at hq;exact⟨.normal,s',aI,hq,kE,trivial⟩
   ·rename_i he;rw[if_neg he]at hq;exact⟨.exit _,s',aI,hq,kE,rfl⟩
  ·exact Mv
  ·exact Mz
 |loop x ih=>
  intro Q s φ a w h hs
  obtain⟨J,⟨m0,s1,hle,hI⟩,wU⟩:=h
  obtain⟨jI,ta⟩:=F9 hb hs hle
  refine Bm (fun m a w=>∃s φ,J m s/\cB M cY H0 w0 n cx φ s a w) ?_ m0 a w ⟨s1,jI,hI,ta⟩
  rintro m a w ⟨s,φ,hI,hs⟩
  refine iF (ih _ s φ a w (wU m s hI) hs) ?_
  rintro e a' w' ⟨xx,s',aI,hq,kE,hm⟩
  cases e<;>cases xx<;>first|(exact hm.elim)|skip
  ·obtain⟨m2,s2,cD,Np,hI2⟩:=hq
   obtain⟨Gb,Im⟩:=F9 hb kE Np
   exact⟨m2,cD,s2,Gb,hI2,Im⟩
  ·subst hm;exact⟨_,s',aI,hq,kE,rfl⟩
  ·exact Mv
  ·exact Mz
def Nq(tmps:Array Value)(r:ResultVar):Sem Value:=
 match r with
 | .tmp t=>pure (tmps.getD t undef)
 | .cell p t=>do loadVar t (<- asAddr (tmps.getD p undef))
theorem vM(rT:aB M φ s.H w)(eR:∀i,V.den (aq M φ s.H) φ s.H w (s.env i) (a.tmps.getD i undef)):∀ (rs:List ResultVar) (vs:List V),ni P s rs=some vs->
 ∃vals,(rs.mapM (Nq a.tmps)).run P w= .ok vals w/\V.aG (aq M φ s.H) φ s.H w vs vals
 |[],vs,h=>by simp[ni]at h;subst h;exact⟨[],aF,rfl⟩
 | .tmp t::rs,vs,h=>by
   simp only[ni,Option.map_eq_some_iff]at h
   obtain⟨us,h1,rfl⟩:=h
   obtain⟨vals,h2,h3⟩:=vM rT eR rs us h1
   exact⟨a.tmps.getD t undef::vals,by simp only[List.mapM_cons,Nq,Sem.run_bind,Sem.run_pure,Result.andThen_ok,h2],_,_,rfl,eR t,h3⟩
 | .cell p t::rs,vs,h=>by
   simp only[ni]at h
   split at h
   ·rename_i id off hv
    split at h
    ·rename_i cs ho
     simp only[Option.bind_eq_some_iff,Option.map_eq_some_iff]at h
     obtain⟨v,h0,us,h1,rfl⟩:=h
     obtain⟨vals,h2,h3⟩:=vM rT eR rs us h1
     have hx:=eR p
     rw[hv]at hx
     obtain⟨_,hu,hp⟩:=hx
     obtain⟨k,fA,fR⟩:=hp (by show(s.o id).cF=true;rw[ho];rfl)
     have a8:=rT.ok id
     have zk:s.H.o id= .row cs:=ho
     simp only[aU,zk]at a8
     obtain⟨b',eG,ty,g1,g2,g3,g4⟩:=a8
     rw[fA]at g1;simp at g1;subst g1
     obtain⟨val,h4,h5⟩:=rD (P:=P) h0 ⟨k,0,none⟩ eG.toList g3 g4 (fun j u hj=>rE g2 j u nU) rfl
     rw[add_plain,Nat.zero_add]at h4
     have h6:(loadVar t ⟨k,off,none⟩).run P w= .ok val w:=by simpa[Instr.loadAt,Instr.sureAddr]using h4
     exact⟨val::vals,by simp only[List.mapM_cons,Nq,fR,asAddr,Sem.run_bind,Sem.run_pure,Result.andThen_ok,h6,h2],val,vals,rfl,h5,h3⟩
    ·cases h
   ·cases h
theorem ow{fn:Func}{tmps:Array Value}{vals:List Value}
 (h:(fn.results.toList.mapM (Nq tmps)).run P w= .ok vals w):
 (results fn tmps).run P w= .ok (if h:vals.toArray.size=1 then vals.toArray[0]else .tuple vals.toArray) w:=by
 have e:results fn tmps=(do let vs <- fn.results.mapM (Nq tmps);pure (if h:vs.size=1 then vs[0]else .tuple vs)):=by
  unfold results
  congr 2
 rw[e,Array.mapM_eq_mapM_toList]
 simp only[Sem.run_bind,Sem.run_map,h,Result.andThen_ok,Sem.run_pure]
theorem pk{us:Nat->Prop}(φ:Place)(hM:∀k,M k->k<w.heap.size):aB M φ ⟨fun _=> .no,us⟩ w where
 ok id:=by simp[aU]
 fresh _ _:=rfl
 apart i j k hi:=by simp[aa.live]at hi
 ours k:=by rintro⟨id,h,_⟩;simp[aa.live]at h
 Cy:=hM
theorem KL{vals:Array Value}{m i:Nat}:(vals++Array.replicate m undef).getD i undef=(vals[i]?).getD undef:=by
 simp only[Array.getD_eq_getD_getElem?,Array.getElem?_append]
 split
 ·rfl
 ·rw[Array.getElem?_eq_none (xs:=vals) (by omega)]
  simp only[Array.getElem?_replicate]
  split<;>rfl
structure Bn (M:Nat->Prop) (cY:Place) (H0:Hp) (w0:World) (φ:Place) (s:S) (tmps:Array Value) (w:World):Prop where
 heap:aB M φ s.H w
 tr:Trans cY H0 w0 φ s.H w
 env:∀i,V.den (aq M φ s.H) φ s.H w (s.env i) (tmps.getD i undef)
theorem KM{tmps:Array Value}(hs:Bn M cY H0 w0 φ s tmps w){r:Nat}(h1:w0.heap.size<=r)(h2:w.heap[r]? =some (.deferred (some [])))(h3: ¬cO φ s.H r):
 Bn M cY H0 w0 φ s tmps {w with heap:=w.heap.setIfInBounds r (.deferred none)}:=by
 have fS:∀b,b≠r->(w.heap.setIfInBounds r (.deferred none))[b]? =w.heap[b]? :=fun b hb=>(MapKept.heap_set h2).2 b hb
 have rA:∀b,dt w b-> ¬aq M φ s.H b->(w.heap.setIfInBounds r (.deferred none))[b]? =w.heap[b]? /\ ¬aq M φ s.H b:=by
  intro b hc hn
  refine⟨fS b fun e=> ?_,hn⟩
  subst e
  rcases hc with⟨cs,ty,fz,hc⟩|⟨es,clock,hc⟩
  ·rw[h2]at hc;cases hc
  ·rw[h2]at hc;cases hc
 refine⟨⟨fun id=> ?_,hs.heap.fresh,hs.heap.apart,fun b hb=>⟨(hs.heap.ours b hb).1,by simpa using(hs.heap.ours b hb).2⟩,fun b hb=>by simpa using hs.heap.Cy b hb⟩,⟨⟨hs.tr.cP.os,hs.tr.cP.tape,hs.tr.cP.output,by simpa using hs.tr.cP.size,fun j hj hm=> ?_⟩,hs.tr.grow,hs.tr.rel⟩,fun i=>V.my rA (eH.refl _ _) _ _ (hs.env i)⟩
 ·exact aU.C3 rA (eH.refl _ _) rfl rfl (fun hl b hb=>fS b fun e=>h3 ⟨id,hl,e ▸ hb⟩) (hs.heap.ok id)
 ·rw[fS j (by omega)];exact hs.tr.cP.block j hj hm
theorem iG{fn:Func}{R:Ending->World->Prop}{u:FrameMode}(hu:u≠ .run){tmps tb:Array Value}{ds:List Deferred}(hR:∀w,Bn M cY H0 w0 φ s tb w->LeavesInM (eB none) k P fn tmps R ds u w):
 ∀ (ms:List Nat) (w:World),ms.Nodup->(∀r∈ms,w0.heap.size<=r/\w.heap[r]? =some (.deferred (some []))/\ ¬cO φ s.H r)->Bn M cY H0 w0 φ s tb w->LeavesInM (eB none) k P fn tmps R (ms.map mark++ds) u w
 |[],w,_,_,hs=>hR w hs
 |r::ms,w,hn,hm,hs=>by
  obtain⟨h1,h2,h3⟩:=hm r aF
  obtain⟨UP,Qd⟩:=List.nodup_cons.1 hn
  refine⟨hu, .inl ⟨r,{w with heap:=w.heap.setIfInBounds r (.deferred none)},rfl, ?_,iG hu hR ms _ Qd (fun r' KF=> ?_) (KM hs h1 h2 h3)⟩⟩
  ·simp[Instr.takeDeferred,getObj,setObj,Sem.run,h2,Result.andThen]
  ·obtain⟨g1,g2,g3⟩:=hm r' (by simp[KF])
   exact⟨g1,((MapKept.heap_set h2).2 r' (fun e=>UP (e ▸ KF))).trans g2,g3⟩
theorem cB.toB (hs:cB M cY H0 w0 n cx φ s a w):Bn M cY H0 w0 φ s a.tmps w:=⟨hs.heap,hs.tr,hs.env⟩
def nk(P:Program)(rs:List ResultVar)(K X:V->(Nat->aa)->Nat->Prop)(e:gr)(s:S):Prop:=
 match e with
 | .normal| .ret=>match ni P s rs with
   |some [v]=>K v s.o s.nx
   |some vs=>K (.cf vs) s.o s.nx
   |none=>False
 | .bU v=>X v s.o s.nx
 | .exit _=>False
theorem Dz{P:Program}{rs:List ResultVar}{K X:V->(Nat->aa)->Nat->Prop}{s:S}(h:nk P rs K X .ret s):∃vs,ni P s rs=some vs/\K (match vs with|[v]=>v|vs=> .cf vs) s.o s.nx:=by
 unfold nk at h
 simp only at h
 split at h
 ·rename_i v h1;exact⟨[v],h1,h⟩
 ·rename_i vs h1 h2
  refine⟨vs,h2, ?_⟩
  split
  ·exact absurd rfl (h1 _)
  ·exact h
 ·exact h.elim
theorem DA:∀ {vs:List V} {vals:List Value},V.aG (aq M φ H) φ H w vs vals->V.den (aq M φ H) φ H w (match vs with|[v]=>v|vs=> .cf vs) (if h:vals.toArray.size=1 then vals.toArray[0]else .tuple vals.toArray)
 |[],vals,h=>by simp only[V.aG]at h;subst h;exact⟨#[],rfl,rfl⟩
 |[v],vals,h=>by obtain⟨u,us,rfl,h1,h2⟩:=h;simp only[V.aG]at h2;subst h2;exact h1
 |v::y::l,vals,h=>by
  have h':=h
  obtain⟨u,us,rfl,h1,u2,us2,rfl,h2⟩:=h
  exact⟨(u::u2::us2).toArray,aF,by simpa using h'⟩
theorem CU{vals:Array Value}{m:Nat}{vs:List V}(hd:V.aG (aq M φ H) φ H w vs vals.toList)(i:Nat):V.den (aq M φ H) φ H w (cG vs i) ((vals++Array.replicate m undef).getD i undef):=by
 have hlen:=V.aE _ _ hd
 simp only[cG,KL]
 cases hx:vs[i]? with
 |none=>
  have:vals[i]? =none:=by
   rw[List.getElem?_eq_none_iff]at hx
   apply Array.getElem?_eq_none
   simp at hlen;omega
  simp only[List.getD_eq_getElem?_getD,hx,this]
  exact⟨#[],rfl,rfl⟩
 |some v=>
  obtain⟨u,hu,QW⟩:=V.dA _ _ _ _ hd hx
  have CK:vals[i]? =some u:=by simpa using hu
  simp only[List.getD_eq_getElem?_getD,hx,CK,Option.getD_some]
  exact QW
theorem ox{f:FuncId}{fn:Func}{c:Code}{args:Array Value}{w:World}{R:Ending->World->Prop}(hf:P.funcs[f]? =some fn)(hb:fn.body=some c)
 (h:c.vn P none (bodyPostM (eB none) k P fn R) {tmps:=args++Array.replicate (fn.ntmps - args.size) undef,defers:=[]} w):CallsIn (eB none) k P f args w R:=by
 have cD:f<P.funcs.size:=(Array.getElem?_eq_some_iff.1 hf).1
 refine⟨trivial,fun cs hr=> ?_⟩
 let b:Frame:={(default:Frame)with fn:=f,kind:= .normal,roundOf:=none}
 have nj:Frame.enter P f args .normal=b.atR {tmps:=args++Array.replicate (fn.ntmps - args.size) undef,defers:=[]} [.code c]:=by
  simp[Frame.enter,Frame.atR,hf,hb,b]
 obtain⟨e,a',w',hq,dF⟩:=h b [] cs rfl cD
 rw[<- nj]at dF
 cases e with
 |normal=>
  obtain⟨e',QH,fr',hR,hs,FH,hl⟩:=leaves_stepsInM a'.defers .returning w' {b.atR a' []with mode:= .returning} cs rfl rfl rfl hf rfl (trivial:(eB none).fn f) hr hq
  exact⟨e',QH,fr',hR,ComesIn.of_steps (StepsIn.trans dF (.one (fenced_calm (n:=0) (fr:=b.atR a' []) trivial iE rfl) (stepR_end rfl))) hs,FH,hl⟩
 |ret=>
  obtain⟨todo,TX⟩:=dF.1 rfl
  obtain⟨e',QH,fr',hR,hs,FH,hl⟩:=leaves_stepsInM a'.defers .returning w' {b.atR a' todo with mode:= .returning} cs rfl rfl rfl hf rfl (trivial:(eB none).fn f) hr hq
  exact TW
 |panic chain=>
  obtain⟨todo,TX⟩:=dF
  obtain⟨e',QH,fr',hR,hs,FH,hl⟩:=leaves_stepsInM a'.defers (.panicking chain) w' {b.atR a' todo with mode:= .panicking chain} cs rfl rfl rfl hf rfl (trivial:(eB none).fn f) hr hq
  exact TW
 |exit id=>exact hq.elim
 |goto l=>exact hq.elim
 |outgrown=>exact⟨.outgrown,w',b,hq,dF.resolve_left (by simp[b]),rfl,trivial⟩
def Gc(P:Program)(l:Nat)(R:Ending->World->Prop):Exit->Act->World->Prop
 | .normal,_,w=>∃v w',(Instr.endRound l none).run P w= .ok v w'/\R (.returned v) w'
 | .ret,_,w=>∃v w',(Instr.endRound l (some .ret)).run P w= .ok v w'/\R (.returned v) w'
 | .exit id,_,w=>∃v w',(Instr.endRound l (some (.exit id))).run P w= .ok v w'/\R (.returned v) w'
 | .goto _,_,_=>False
 | .panic chain,a,w=>a.defers=[]/\R (.panicked chain) w
 | .outgrown,_,_=>False
theorem wV{l:Nat}{f:FuncId}{tmps:Array Value}{assign body:Code}{w:World}{R:Ending->World->Prop}(hf:f<P.funcs.size)
 (h:assign.vn P (some l) (Exit.then (fun pL ky=>∃tG,(Instr.beginRound l).run P ky= .ok () tG/\body.vn P (some l) (Gc P l R) pL tG) (fun e a w=>match e with| .panic chain=>a.defers=[]/\R (.panicked chain) w|_=>False))
  {tmps:=tmps,defers:=[]} w):
 RoundIn Fence.wide n P l f tmps assign body w R:=by
 refine⟨trivial,fun c cs hr=> ?_⟩
 let b:Frame:={(default:Frame)with fn:=f,kind:= .normal,roundOf:=some l}
 have hb0:Frame.round l f tmps assign body .normal=b.atR {tmps:=tmps,defers:=[]} [.code assign, .beginRound, .code body]:=by
  simp[Frame.round,Frame.atR,b]
 have calm:∀ (m:Machine),m.fenced P Fence.wide:=fun m=>fenced_wide P m
 have bU:∀ {a:Act} {w:World} {todo:List Item} {chain:List PanicEntry},a.defers=[]->step P (lone {b.atR a todo with mode:= .panicking chain} (c::cs) w)= .next (lone (c.raise chain) cs w):=by
  intro a w todo chain hd
  exact step_leave_panicked (fr:={b.atR a todo with mode:= .panicking chain}) ⟨rfl,hd,P.funcs[f],by show P.funcs[f]? =_;simp[hf]⟩
 obtain⟨e,pL,ky,hq,dF⟩:=h b [.beginRound, .code body] (c::cs) rfl hf
 rw[<- hb0]at dF
 cases e with
 |normal=>
  obtain⟨tG,hbr,rU⟩:=hq
  have s1:StepsIn (Machine.fenced P Fence.wide) P (lone (b.atR pL [.beginRound, .code body]) (c::cs) ky) (lone (b.atR pL [.code body]) (c::cs) tG):= .one (calm _) (stepR_beginRound rfl hbr)
  obtain⟨XB,ac2,F7,rQ,lI⟩:=rU b [] (c::cs) rfl hf
  have dF:StepsIn (Machine.fenced P Fence.wide) P _ _:=dF
  cases XB with
  |normal=>
   obtain⟨v,vo,eZ,hR⟩:=rQ
   have lI:StepsIn (Machine.fenced P Fence.wide) P _ _:=lI
   exact⟨.returned v,vo,hR,(StepsIn.trans dF s1).trans (StepsIn.trans lI (.one (calm _) (stepR_round_end rfl rfl eZ)))⟩
  |ret=>
   obtain⟨v,vo,eZ,hR⟩:=rQ
   obtain⟨k₁,hs⟩:=lI.2 rfl
   have hs:StepsIn (Machine.fenced P Fence.wide) P _ _:=hs
   exact⟨.returned v,vo,hR,(StepsIn.trans dF s1).trans (StepsIn.trans hs (.one (calm _) (stepR_round_ret rfl rfl eZ)))⟩
  |exit id=>
   obtain⟨v,vo,eZ,hR⟩:=rQ
   obtain⟨k₁,hk,hs⟩:=lI.2 rfl rfl
   have hs:StepsIn (Machine.fenced P Fence.wide) P _ _:=hs
   exact⟨.returned v,vo,hR,(StepsIn.trans dF s1).trans (StepsIn.trans hs (.one (calm _) (stepR_round_exit rfl rfl hk eZ)))⟩
  |goto t=>exact rQ.elim
  |panic chain=>
   obtain⟨todo,hs⟩:=lI
   have hs:StepsIn (Machine.fenced P Fence.wide) P _ _:=hs
   exact⟨.panicked chain,F7,rQ.2,(StepsIn.trans dF s1).trans (StepsIn.trans hs (.one (calm _) (bU rQ.1)))⟩
  |outgrown=>exact rQ.elim
 |exit id=>exact hq.elim
 |goto t=>exact hq.elim
 |ret=>exact hq.elim
 |panic chain=>
  obtain⟨todo,hs⟩:=dF
  have hs:StepsIn (Machine.fenced P Fence.wide) P _ _:=hs
  exact⟨.panicked chain,ky,hq.2,StepsIn.trans hs (.one (calm _) (bU hq.1))⟩
 |outgrown=>exact hq.elim
theorem bJ.Ip {f:FuncId}{fn:Func}{c:Code}{args:List V}{o:Nat->aa}{nx:Nat}{K X:V->(Nat->aa)->Nat->Prop}(hf:P.funcs[f]? =some fn)(hn:(fn.name== "runtime.NumGoroutine")=false)(rU:fn.body=some c)(hl:args.length<=fn.ntmps)
 (h:jV P fn.ntmps nx false c (nk P fn.results.toList K X) ⟨cG args,o,nx⟩):bJ P f args o nx K X:=by
 refine⟨⟨fn,hf,hn,by rw[rU];rfl⟩,fun M φ w vals hH hd=> ?_⟩
 have hlen:=V.aE _ _ hd
 let s0:S:=⟨cG args,o,nx⟩
 let a0:Act:={tmps:=vals++Array.replicate (fn.ntmps - vals.size) undef,defers:=[]}
 have pQ:cB M φ (hp o nx) w fn.ntmps ⟨[],false⟩ φ s0 a0 w:=by
  exact acD
 refine Dr (ro:=none) (k:=0) (ox hf rU (iF (je (P:=P) (H0:=hp o nx) (b:=nx) (cx:=⟨[],false⟩) (ro:=none) (fun id hu=>hu) (fun _=>rfl) c _ s0 φ a0 w h pQ) ?_))
 rintro e a w' ⟨x,s,aI,hq,hs,hm⟩
 obtain⟨ms,g1,g2,g3,g4⟩:=hs.defers
 rw[List.append_nil]at g1
 have done:(x= .normal\/x= .ret)->LeavesInM (eB none) 0 P fn a.tmps (oj M φ (hp o nx) w K X) a.defers .returning w':=by
  intro hx
  have hq':nk P fn.results.toList K X .ret s:=by rcases hx with rfl|rfl<;>exact hq
  obtain⟨vs,h1,h2⟩:=Dz hq'
  rw[g1]
  have:=iG (P:=P) (k:=0) (fn:=fn) (R:=oj M φ (hp o nx) w K X) (u:= .returning) aF (ds:=[]) (fun w2 hb=>by
   obtain⟨vals,h3,h4⟩:=vM (P:=P) (a:=a) hb.heap hb.env _ _ h1
   exact⟨_,ow h3,aI,s.o,s.nx,_,hb.heap,hb.tr,DA h4,h2⟩) ms w' g2 g4 hs.toB
  rwa [List.append_nil]at this
 cases e<;>cases x<;>first|(exact hm.elim)|skip
 ·exact done (.inl rfl)
 ·exact hq.elim
 ·exact done (.inr rfl)
 ·rename_i v
  obtain⟨val,rfl,Rc⟩:=hm
  show LeavesInM (eB none) 0 P fn a.tmps (oj M φ (hp o nx) w K X) a.defers _ w'
  rw[g1]
  have hb0:Bn M φ (hp o nx) w aI ⟨fun i=>if i=0 then v else .ai,s.o,s.nx⟩ #[val] w':=⟨hs.heap,hs.tr,fun i=>by
   by_cases hi:i=0
   ·subst hi;exact Rc
   ·simp only[hi,if_false];trivial⟩
  have:=iG (P:=P) (k:=0) (fn:=fn) (s:=⟨fun i=>if i=0 then v else .ai,s.o,s.nx⟩) (tmps:=a.tmps) (tb:=#[val]) (cY:=φ) (H0:=hp o nx) (w0:=w) (R:=oj M φ (hp o nx) w K X) (u:= .panicking [{v:=val,recovered:=false}]) aF (ds:=[]) (fun w2 hb=>by
   have h0:=hb.env 0
   exact⟨aI,s.o,s.nx,v,hb.heap,hb.tr,val,rfl,h0,hq⟩) ms w' g2 g4 hb0
  rwa [List.append_nil]at this
theorem a7.l8 {f:FuncId}{ds:List D}{out:R}(h:bJ P f (ds.map .d) (fun _=> .no) 0 (fun v o _=>∃vs rs,v=(match vs with|[v]=>v|vs=> .cf vs)/\cA o vs=some rs/\out= .ret rs) (fun v o _=>∃x,ef o v=some x/\out= .bU x)):a7 P f ds out:=by
 refine⟨h.1,fun M w vals hM hd=> ?_⟩
 let cY:Place:=fun _=> .nilFunc
 have uL:∀b, ¬cO cY (hp (fun _=> .no) 0) b:=by rintro b ⟨id,hl,_⟩;simp[hp,aa.live]at hl
 refine(h.2 M cY w vals (pk cY hM) ((V.cT _ _).2 (D.aW (w:=w) (w':=w) (B:=M) (fun b _ hB=>⟨rfl,fun h=>h.elim hB (uL b)⟩) _ _ hd))).mono ?_
 rintro e w' ⟨aI,o',nx',v,k1,k2,k3⟩
 have Iq:dZ (fun _=>False) w w':=⟨k2.cP.os,k2.cP.tape,k2.cP.output,k2.cP.size,fun k hk _=>k2.cP.block k hk (uL k)⟩
 have fin:∀ (vs:List V) (xs:List D) (vals:List Value),cA o' vs=some xs->V.aG (aq M aI (hp o' nx')) aI (hp o' nx') w' vs vals->D.aG M w' xs vals:=by
  intro vs xs vals h1 h2
  obtain⟨f1,f2,f3,f4,f5⟩:=dh k1 (V.bw vs) (dw vs _ h2)
  have h3:=dN f1 vs xs vals f3 h1 (V.aW f2 _ _ h2)
  exact D.aW (w:=w') (w':=w') (fun k _ hB=>⟨rfl,fun hM=>hB (.inl hM)⟩) xs vals h3
 refine⟨Iq, ?_⟩
 cases e with
 |outgrown=>exact k3.elim
 |panicked ch=>
  obtain⟨val,rfl,g1,x,g2,rfl⟩:=k3
  have:=fin [v] [x] [val] (by simp[cA,g2]) ⟨val,[],rfl,g1,rfl⟩
  obtain⟨u,us,he,h2,_⟩:=this
  simp at he;obtain⟨rfl,rfl⟩:=he
  exact⟨val,rfl,h2⟩
 |returned val=>
  obtain⟨g1,vs,rs,rfl,g2,rfl⟩:=k3
  match vs,g1,g2 with
  |[],g1,g2=>
   obtain⟨arr,rfl,hv⟩:=g1
   simp only[cA,Option.some.injEq]at g2;subst g2
   exact⟨arr,rfl,hv⟩
  |[v],g1,g2=>
   have:=fin [v] rs [val] g2 ⟨val,[],rfl,g1,rfl⟩
   cases rs with
   |nil=>cases this
   |cons x l=>
    obtain⟨u,us,he,h2,h3⟩:=this
    simp at he;obtain⟨rfl,rfl⟩:=he
    cases l with
    |nil=>exact h2
    |cons y l=>obtain⟨_,_,h,_⟩:=h3;cases h
  |v::v2::l,g1,g2=>
   obtain⟨arr,rfl,h⟩:=g1
   have:=fin (v::v2::l) rs arr.toList g2 h
   have hl:=D.aE _ _ this
   have Qc:=V.aE _ _ h
   match rs,hl,this with
   |[],hl,_=>exact HJ
   |[x],hl,_=>exact HJ
   |x::y::l,_,this=>exact⟨arr,rfl,this⟩
theorem KN{rs:List ResultVar}{out:R}(e:gr)(s:S)(h:Bj P rs out e s):
 nk P rs (fun v o _=>∃vs rs,v=(match vs with|[v]=>v|vs=> .cf vs)/\cA o vs=some rs/\out= .ret rs) (fun v o _=>∃x,ef o v=some x/\out= .bU x) e s:=by
 have ret:Bj P rs out .ret s->nk P rs (fun v o _=>∃vs rs,v=(match vs with|[v]=>v|vs=> .cf vs)/\cA o vs=some rs/\out= .ret rs) (fun v o _=>∃x,ef o v=some x/\out= .bU x) .ret s:=by
  intro h
  obtain⟨vs,xs,h1,h2,h3⟩:=Ng h
  simp only[nk,h1]
  match vs,h2 with
  |[],h2=>exact⟨[],xs,rfl,h2,h3⟩
  |[v],h2=>exact⟨[v],xs,rfl,h2,h3⟩
  |v::v2::l,h2=>exact⟨v::v2::l,xs,rfl,h2,h3⟩
 cases e with
 |normal=>exact ret h
 |ret=>exact ret h
 |exit id=>exact h.elim
 |bU v=>exact Nh h
end
end
section
def Nr{α:Type}(c:Bool)(x:α):Option α:=if c=true then some x else none
def one(v:V):Option gS:=some (v,[],[])
def DB(op:BinOp)(k:IntKind)(a b:Int):Option V:=
 match op with
 | .add=>some (.d (.int k (k.wrap (a+b))))
 | .sub=>some (.d (.int k (k.wrap (a - b))))
 | .mul=>some (.d (.int k (k.wrap (a*b))))
 | .quo=>if b=0 then none else some (.d (.int k (k.wrap (a.tdiv b))))
 | .rem=>if b=0 then none else some (.d (.int k (a.tmod b)))
 | .and=>(wA .and k a b).map fun r=> .d (.int k r)
 | .or=>(wA .or k a b).map fun r=> .d (.int k r)
 | .xor=>(wA .xor k a b).map fun r=> .d (.int k r)
 | .andNot=>(wA .andNot k a b).map fun r=> .d (.int k r)
 | .eql=>some (.d (.bool (a==b)))| .neq=>some (.d (.bool (a !=b)))| .lss=>some (.d (.bool (decide (a<b))))| .leq=>some (.d (.bool (decide (a<=b))))
 | .gtr=>some (.d (.bool (decide (b<a))))| .geq=>some (.d (.bool (decide (b<=a))))
 |_=>none
def nm(P:Program)(t:TypeId):Bool:=
 match P.underlying t with
 |some .bool=>true
 |_=>false
def Bo(P:Program)(op:BinOp)(t:TypeId)(x y:V):Option V:=
 match x,y with
 | .d (.int k a), .d (.int k' b)=>if k=k' then DB op k a b else none
 | .d (.bool a), .d (.bool b)=>match op with
   | .eql=>Nr (nm P t) (.d (.bool (a==b)))
   | .neq=>Nr (nm P t) (.d (.bool (a !=b)))
   |_=>none
 | .d (.str a), .d (.str b)=>match op with
   | .eql=>some (.d (.bool (a==b)))
   | .neq=>some (.d (.bool (a !=b)))
   |_=>none
 |_,_=>none
def unF(op:UnOp)(x:V):Option V:=
 match op,x with
 | .neg, .d (.int k n)=>some (.d (.int k (k.wrap (-n))))
 | .not, .d (.bool b)=>some (.d (.bool !b))
 |_,_=>none
def rV(c a b:V):Option V:=
 match c with
 | .d (.bool true)=>some a
 | .d (.bool false)=>some b
 |_=>none
def rW(o:Nat->aa)(x:V):Option (List D×List Nat):=
 match x with
 | .d (.sl es)=>some (es,[])
 | .ao=>some ([],[])
 | .pY es=>some (es,[])
 | .osl id ep=>match o id with
   | .arr gM _ _ es=>if ep=gM then some (es,[id])else none
   | .vg gM es=>if ep=gM then some (es,[id])else none
   |_=>none
 |_=>none
def Gd(P:Program)(t:TypeId)(o:Nat->aa)(x:V):Option gS:=
 match P.underlying t with
 |some (.slice _)=>match rW o x with
  |some (es,rd)=>some (.d (.int .i64 es.length),[],rd)
  |none=>none
 |some .string=>match x with
  | .d (.str s)=>one (.d (.int .i64 s.length))
  |_=>none
 |some (.array n _)=>one (.d (.int .i64 n))
 |_=>none
def zZ(P:Program)(e:TypeId)(es:List D)(i:Int)(rd:List Nat):Option gS:=
 if 0<=i then match es[i.toNat]? with
  |some y=>Nr (y.cells.length==P.cellsOf e&&0<P.cellsOf e) (.pp y.cells 0,[],rd)
  |none=>none
 else none
def qh(o:Nat->aa)(x:V)(q:Nat):Option V:=
 match x with
 | .ptr id off=>Nr (o id).cF (.ptr id (off+q))
 | .pp cs off=>some (.pp cs (off+q))
 | .pe id ep j sz off=>if(o id).cu=some ep then some (.pe id ep j sz (off+q))else none
 |_=>none
def jf(P:Program)(o:Nat->aa)(t:TypeId)(x ix:V):Option gS:=
 match ix with
 | .d (.int _ i)=>match b7 P t with
   |some e=>match x with
    | .d (.sl es)=>zZ P e es i []
    | .pY es=>zZ P e es i []
    | .osl id ep=>match o id with
      | .arr gM _ sz es=>if ep=gM/\0<=i/\i.toNat<es.length/\sz=P.cellsOf e/\0<P.cellsOf e then some (.pe id ep i.toNat sz 0,[],[id])else none
      | .vg gM es=>if ep=gM then zZ P e es i [id]else none
      |_=>none
    |_=>none
   |none=>match A6 P t with
    |some (n,e)=>if 0<=i/\i<n/\(P.info? e).isSome=true then(qh o x (i.toNat*P.cellsOf e)).bind one else none
    |none=>none
 |_=>none
def jg(P:Program)(o:Nat->aa)(t:TypeId)(x:V)(f:Nat):Option V:=
 match bX P t f with
 |some q=>qh o x q
 |none=>none
def oz(P:Program)(o:Nat->aa)(t:TypeId)(x:V):Option gS:=
 match x with
 | .ptr id off=>match o id with
   | .row cs=>match fF P t cs off with
     |some v=>some (v,[],[id])
     |none=>none
   |_=>none
 | .pp cs off=>match fF P t (cs.map .d) off with
   |some v=>some (v,[],[])
   |none=>none
 | .pe id ep i sz off=>match o id with
   | .arr gM _ s9 es=>if ep=gM/\sz=s9 then match es[i]? with
    |some e=>match fF P t (e.cells.map .d) off with
     |some v=>some (v,[],[id])
     |none=>none
    |none=>none
     else none
   |_=>none
 |_=>none
def tH(P:Program)(o:Nat->aa)(t:TypeId)(x v:V):Option gS:=
 match x with
 | .ptr id off=>match o id with
   | .row cs=>match A7 P t cs off v with
     |some cs'=>some (.cf [],[(id, .row cs')],[id])
     |none=>none
   |_=>none
 | .pe id ep i s9 off=>match o id with
   | .arr gM ty sz es=>if ep=gM/\s9=sz then match es[i]?,ef o v with
    |some e,some y=>if y.cells.length=P.cellsOf t/\0<y.cells.length/\v.ids.all (· !=id)=true then match e.put off y.cells with
     |some e'=>some (.cf [],bK o v.ids++[(id, .arr ep ty sz (es.set i e'))],id::v.ids)
     |none=>none
     else none
    |_,_=>none
     else none
   |_=>none
 |_=>none
def hY(P:Program)(o:Nat->aa)(fr:Nat)(t:TypeId)(len:Nat)(parts:List (Nat×V)):Option gS:=
 match b7 P t with
 |some e=>if len=0/\parts.isEmpty=true/\0<P.cellsOf e then some (.osl fr 0,[(fr, .arr 0 e (P.cellsOf e) [])],[])else if parts.map (·.1)=List.range len/\(cy P e).isSome=true/\0<len/\0<P.cellsOf e/\len*P.cellsOf e<=2^24 then match cA o (parts.map (·.2))with
  |some ds=>if ds.all (fun x=>x.cells.length==P.cellsOf e)=true then some (.osl fr 0,bK o (V.bw (parts.map (·.2)))++[(fr, .arr 0 e (P.cellsOf e) ds)],V.bw (parts.map (·.2)))else none
  |none=>none
  else none
 |none=>none
def np(P:Program)(fr:Nat)(t:TypeId)(l c:V):Option gS:=
 match b7 P t with
 |some e=>match l,c with
  | .d (.int _ n), .d (.int _ m)=>if n=m/\0<=n/\0<P.cellsOf e/\P.bytesOf e*n.toNat<=2^47/\n.toNat<=2^47 then match CY P e with
   |some x=>some (.osl fr 0,[(fr, .arr 0 e (P.cellsOf e) (List.replicate n.toNat x))],[])
   |none=>none
    else none
  |_,_=>none
 |none=>none
def rX(P:Program)(o:Nat->aa)(fr:Nat)(ts:Array TypeId)(x y:V):Option gS:=
 match ts.toList with
 |[t,t']=>if t=t' then match b7 P t,rW o y with
    |some e,some (new,rd)=>if 0<P.cellsOf e/\(cy P e).isSome=true/\new.all (fun z=>z.cells.length==P.cellsOf e)=true then match x with
     | .ao=>if new.length<=2^47/\new.length*P.bytesOf e<=2^47 then some (.osl fr 0,[(fr, .arr 0 e (P.cellsOf e) new)],rd)else none
     | .pY es=>if es.all (fun z=>z.cells.length==P.cellsOf e)=true then(if new=[]then some (.pY es,[],rd)else if es.length+new.length<=2^40/\(es.length+new.length)*P.bytesOf e<=2^40 then some (.osl fr 0,[(fr, .arr 0 e (P.cellsOf e) (es++new))],rd)else none)else none
     | .osl id ep=>match o id with
       | .arr gM ty sz es=>if ep=gM/\ty=e/\sz=P.cellsOf e/\es.length+new.length<=2^47/\(es.length+new.length)*P.bytesOf e<=2^47 then
        some (.osl id (ep+1),[(id, .arr (ep+1) ty sz (es++new))],id::rd)else none
       |_=>none
     |_=>none
     else none
    |_,_=>none
  else none
 |_=>none
def rY(isMax:Bool)(x y:V):Option V:=
 match x,y with
 | .d (.int k a), .d (.int k' b)=>if k=k' then some (.d (.int k (if isMax then(if b>a then b else a)else(if b<a then b else a))))else none
 |_,_=>none
def nq(x:Option V):Option gS:=match x with|some v=>one v|none=>none
def rZ(P:Program)(s:S)(fr:Nat)(b:Builtin)(args:List Operand)(ts:Array TypeId):Option gS:=
 match b,args with
 | .len,[x]=>match ts.toList with
   |[t]=>Gd P t s.o (s.ev x)
   |_=>none
 | .append,[x,y]=>match zE P fr ts (s.ev x) (s.ev y)with
   |some r=>some r
   |none=>rX P s.o fr ts (s.ev x) (s.ev y)
 | .max,[x,y]=>nq (rY true (s.ev x) (s.ev y))
 | .min,[x,y]=>nq (rY false (s.ev x) (s.ev y))
 | .max,[x,y,z]=>nq (MT (s.ev x) (s.ev y) (s.ev z))
 | .copy,[x,y]=>zD P s.o ts (s.ev x) (s.ev y)
 | .delete,[x,y]=>match ts.toList.head? with
   |some t=>pb P s.o t (s.ev x) (s.ev y)
   |none=>none
 | .cap,[x]=>QR P ts (s.ev x)
 |_,_=>none
def Bp(P:Program)(t:TypeId)(parts:List (Nat×V)):Option V:=
 match cy P t,de P t with
 |some z,some pl=>match uA pl z parts with
  |some cs=>some (nM cs)
  |none=>none
 |_,_=>none
def j9(o:Nat->aa)(x:V):Option V:=
 match x with
 | .ptr id off=>Nr (o id).cF (.ptr id off)
 | .pp cs off=>some (.pp cs off)
 | .func (.func f) first cap=>some (.func (.func f) first cap)
 |_=>none
def nr(P:Program)(t:TypeId):Bool:=
 match P.underlying t with
 |some (.interface _)=>false
 |some _=>true
 |none=>false
def Ns(P:Program)(t:TypeId)(x:V):Option V:=
 Nr (nr P t) (match x with
  | .d y=> .d (.iface t y)
  |v=> .iface t v)
def fZ(P:Program)(o:Nat->aa)(op:BinOp)(t:TypeId)(pO:Bool)(x y:V):Option gS:=
 match Bo P op t x y with
 |some v=>one v
 |none=>tv P o op t pO x y
def Ka(op:UnOp)(x:V):Option V:=
 match op,x with
 | .not, .gh=>some .gh
 |op,x=>unF op x
def iu(P:Program)(s:S)(fr:Nat)(op:Op):Option gS:=
 match op with
 | .move x=>one (s.ev x)
 | .assign x=>one (s.ev x)
 | .pick c a b=>nq (rV (s.ev c) (s.ev a) (s.ev b))
 | .alloc t=>match cy P t with
   |some cs=>some (.ptr fr 0,[(fr, .row cs)],[])
   |none=>none
 | .box _ x=>match(s.ev x).cells with
   |some cs=>some (.ptr fr 0,[(fr, .row cs)],[])
   |none=>none
 | .build t parts=>nq (Bp P t (parts.toList.map fun p=>(p.1,s.ev p.2)))
 | .buildSlice t len parts=>hY P s.o fr t len (parts.toList.map fun p=>(p.1,s.ev p.2))
 | .load t x=>oz P s.o t (s.ev x)
 | .store t x v=>tH P s.o t (s.ev x) (s.ev v)
 | .nilCheck x=>nq (j9 s.o (s.ev x))
 | .binOp op t x y _=>fZ P s.o op t (isConst x||isConst y) (s.ev x) (s.ev y)
 | .unOp op _ x=>nq (Ka op (s.ev x))
 | .convert u t x=>match P.underlying u,nW P t,s.ev x with
   |some _,some k, .d (.int _ n)=>one (.d (.int k (k.wrap n)))
   |_,_,_=>none
 | .makeInterface t x=>nq (Ns P t (s.ev x))
 | .makeFunc fn first cap=>one (.func fn (first.toList.map s.ev) (cap.toList.map s.ev))
 | .makeSlice t l c=>np P fr t (s.ev l) (s.ev c)
 | .fieldAddr t x f=>nq (jg P s.o t (s.ev x) f)
 | .indexAddr t x i=>jf P s.o t (s.ev x) (s.ev i)
 | .extract x i=>match s.ev x with
   | .cf vs=>match vs[i]? with
     |some v=>one v
     |none=>none
   |_=>none
 | .call c=>match c.callee with
   | .builtin b=>rZ P s fr b c.args.toList c.argTypes
   |_=>none
 | .slice t x lo hi mx=>tq P s.o t (s.ev x) (lo.map s.ev) (hi.map s.ev) (mx.map s.ev)
 | .field t x f=>nq (wC P t (s.ev x) f)
 | .index t x i=>nq (wD P t (s.ev x) (s.ev i))
 | .typeAssert x _ t ok=>nq (rv P t ok (s.ev x))
 | .makeMap t none=>nX P fr t
 | .lookup t m k ok=>jZ P s.o t (s.ev m) (s.ev k) ok
 | .mapUpdate t m k v=>gN P s.o t (s.ev m) (s.ev k) (s.ev v)
 | .insert t m k v=>gN P s.o t (s.ev m) (s.ev k) (s.ev v)
 | .range t x=>nY P s.o fr t (s.ev x)
 | .next x str=>qa s.o (s.ev x) str
 | .entry x=>nZ s.o (s.ev x)
 |_=>none
section
variable {P:Program}{s:S}{fr:Nat}{v:V}{Δ:List (Nat×aa)}{rd:List Nat}{o:Nat->aa}{K:V->List (Nat×aa)->List Nat->Prop}
theorem tI{α:Type}{c:Bool}{x y:α}(h:Nr c x=some y):c=true/\x=y:=by
 unfold Nr at h;split at h
 ·injection h with h;exact⟨by assumption,h⟩
 ·cases h
theorem l9{x:V}{r:gS}(h:one x=some r):r=(x,[],[]):=by unfold one at h;injection h with h;exact h.symm
theorem jY{x:Option V}{r:gS}(h:nq x=some r):∃v,x=some v/\r=(v,[],[]):=by
 unfold nq at h;split at h
 ·exact⟨_,rfl,l9 h⟩
 ·cases h
theorem Ge{x:V}{es:List D}{rd:List Nat}(h:rW o x=some (es,rd)):fG o x=some es/\rd=x.ids:=by
 unfold rW at h
 split at h
 ·exact Mn
 ·exact Mn
 ·exact Mn
 ·split at h
  ·rename_i ho
   split at h
   ·rename_i e;simp at h;obtain⟨rfl,rfl⟩:=h;exact⟨by simp[fG,ef,ho,e],rfl⟩
   ·cases h
  ·rename_i ho
   split at h
   ·rename_i e;simp at h;obtain⟨rfl,rfl⟩:=h;exact⟨by simp[fG,ef,ho,e],rfl⟩
   ·cases h
  ·cases h
 ·cases h
theorem KO{op:BinOp}{k:IntKind}{a b:Int}{v:V}(h:DB op k a b=some v){K:V->Prop}(hK:K v):QP op k a b K:=by
 cases op<;>simp only[DB]at h<;>simp only[QP]
 case quo=>split at h
           ·cases h
           ·exact Mm
 case rem=>split at h
           ·cases h
           ·exact Mm
 case and=>simp only[Option.map_eq_some_iff]at h;obtain⟨r,h1,rfl⟩:=h;exact⟨r,h1,hK⟩
 case or=>simp only[Option.map_eq_some_iff]at h;obtain⟨r,h1,rfl⟩:=h;exact⟨r,h1,hK⟩
 case xor=>simp only[Option.map_eq_some_iff]at h;obtain⟨r,h1,rfl⟩:=h;exact⟨r,h1,hK⟩
 case andNot=>simp only[Option.map_eq_some_iff]at h;obtain⟨r,h1,rfl⟩:=h;exact⟨r,h1,hK⟩
 case shl=>cases h
 case shr=>cases h
 case eql=>injection h with h;subst h;exact⟨_,rfl,hK⟩
 case neq=>injection h with h;subst h;exact⟨_,rfl,hK⟩
 case lss=>injection h with h;subst h;exact⟨_,rfl,hK⟩
 case leq=>injection h with h;subst h;exact⟨_,rfl,hK⟩
 case gtr=>injection h with h;subst h;exact⟨_,rfl,hK⟩
 case geq=>injection h with h;subst h;exact⟨_,rfl,hK⟩
 all_goals (injection h with h;subst h;exact hK)
theorem KQ{op:BinOp}{t:TypeId}{x y v:V}(h:Bo P op t x y=some v){K:V->Prop}(hK:K v):MQ P op t x y K:=by
 unfold Bo at h
 unfold MQ
 split at h
 ·split at h
  ·exact⟨by assumption,KO h hK⟩
  ·cases h
 ·have hb:nm P t=true->P.underlying t=some .bool:=by
   unfold nm;intro h;split at h
   ·assumption
   ·cases h
  split at h
  ·obtain⟨h1,rfl⟩:=tI h;exact⟨hb h1,hK⟩
  ·obtain⟨h1,rfl⟩:=tI h;exact⟨hb h1,hK⟩
  ·cases h
 ·split at h
  ·exact Mi
  ·exact Mi
  ·cases h
 ·cases h
theorem Gf{c a b v:V}(h:rV c a b=some v){K:V->Prop}(hK:K v):CW c a b K:=by
 unfold rV at h
 unfold CW
 split at h
 ·injection h with h;subst h;exact⟨fun _=>hK,(fun h=>by cases h)⟩
 ·injection h with h;subst h;exact⟨(fun h=>by cases h),fun _=>hK⟩
 ·cases h
theorem wW{x y:V}{q:Nat}(h:qh o x q=some y):(∃id off,x= .ptr id off/\(o id).cF=true/\y= .ptr id (off+q))\/(∃cs off,x= .pp cs off/\y= .pp cs (off+q))\/
 (∃id ep j sz off,x= .pe id ep j sz off/\(o id).cu=some ep/\y= .pe id ep j sz (off+q)):=by
 unfold qh at h
 split at h
 ·obtain⟨h1,rfl⟩:=tI h;exact .inl ⟨_,_,rfl,h1,rfl⟩
 ·injection h with h;exact .inr (.inl ⟨_,_,rfl,h.symm⟩)
 ·split at h
  ·injection h with h;exact .inr (.inr ⟨_,_,_,_,_,rfl,by assumption,h.symm⟩)
  ·cases h
 ·cases h
theorem wv{e:TypeId}{es:List D}{i:Int}{rd:List Nat}{r:gS}(h:zZ P e es i rd=some r):
 0<=i/\∃y,es[i.toNat]? =some y/\y.cells.length=P.cellsOf e/\0<P.cellsOf e/\r=(.pp y.cells 0,[],rd):=by
 unfold zZ at h
 split at h
 ·rename_i h0
  split at h
  ·rename_i y hy
   obtain⟨h1,rfl⟩:=tI h
   simp only[Bool.and_eq_true,beq_iff_eq,decide_eq_true_eq]at h1
   exact⟨h0,y,hy,h1.1,h1.2,rfl⟩
  ·cases h
 ·cases h
theorem vq{t:TypeId}{x ix:V}(h:jf P o t x ix=some (v,Δ,rd))(hK:K v Δ rd):kH P o t x ix fun v rd=>K v [] rd:=by
 unfold jf at h
 unfold kH
 split at h
 ·simp only
  split at h
  ·rename_i e ht
   simp only[ht]
   split at h
   ·exact acu
   ·exact acu
   ·split at h
    ·rename_i ho
     split at h
     ·rename_i hc
      simp only[Option.some.injEq,Prod.mk.injEq]at h;obtain⟨rfl,rfl,rfl⟩:=h
      simp only[ho]
      exact⟨hc.1,hc.2.1,hc.2.2.1,hc.2.2.2.1,hc.2.2.2.2,hK⟩
     ·cases h
    ·rename_i ho
     split at h
     ·rename_i hc
      obtain⟨h0,y,h1,h2,h3,h4⟩:=wv h
      simp only[Prod.mk.injEq]at h4;obtain⟨rfl,rfl,rfl⟩:=h4
      simp only[ho]
      exact⟨hc,h0,y,h1,h2,h3,hK⟩
     ·cases h
    ·cases h
   ·cases h
  ·rename_i ht
   simp only[ht]
   split at h
   ·rename_i n e ha
    simp only[ha]
    split at h
    ·rename_i hc
     simp only[Option.bind_eq_some_iff]at h
     obtain⟨y,hy,h1⟩:=h
     have h1:=l9 h1
     simp only[Prod.mk.injEq]at h1;obtain⟨rfl,rfl,rfl⟩:=h1
     refine⟨hc.1,hc.2.1,hc.2.2, ?_⟩
     rcases wW hy with⟨_,_,rfl,h2,rfl⟩|⟨_,_,rfl,rfl⟩|⟨_,_,_,_,_,rfl,h2,rfl⟩
     ·exact⟨h2,hK⟩
     ·exact hK
     ·exact⟨h2,hK⟩
    ·cases h
   ·cases h
 ·cases h
theorem vr{t:TypeId}{x y:V}{f:Nat}(h:jg P o t x f=some y){K:V->Prop}(hK:K y):kI P o t x f K:=by
 unfold jg at h
 unfold kI
 split at h
 ·rename_i q hq
  simp only[hq]
  rcases wW h with⟨_,_,rfl,h2,rfl⟩|⟨_,_,rfl,rfl⟩|⟨_,_,_,_,_,rfl,h2,rfl⟩
  ·exact⟨h2,hK⟩
  ·exact hK
  ·exact⟨h2,hK⟩
 ·cases h
theorem KT{t:TypeId}{x:V}(h:Gd P t o x=some (v,Δ,rd))(hK:K v Δ rd):MR P t o x fun v rd=>K v [] rd:=by
 unfold Gd at h
 unfold MR
 split at h
 ·rename_i e hu
  simp only[hu]
  split at h
  ·rename_i es vF hl
   simp only[Option.some.injEq,Prod.mk.injEq]at h;obtain⟨rfl,rfl,rfl⟩:=h
   unfold rW at hl
   split at hl
   ·exact Mp
   ·exact Mp
   ·exact Mp
   ·split at hl
    ·rename_i ho
     split at hl
     ·rename_i hc;simp at hl;obtain⟨rfl,rfl⟩:=hl;simp only[ho];exact⟨hc,hK⟩
     ·cases hl
    ·rename_i ho
     split at hl
     ·rename_i hc;simp at hl;obtain⟨rfl,rfl⟩:=hl;simp only[ho];exact⟨hc,hK⟩
     ·cases hl
    ·cases hl
   ·cases hl
  ·cases h
 ·rename_i hu
  simp only[hu]
  split at h
  ·have h1:=l9 h;simp only[Prod.mk.injEq]at h1;obtain⟨rfl,rfl,rfl⟩:=h1;exact hK
  ·cases h
 ·rename_i hu
  simp only[hu]
  have h1:=l9 h;simp only[Prod.mk.injEq]at h1;obtain⟨rfl,rfl,rfl⟩:=h1;exact hK
 ·cases h
theorem Gg{t:TypeId}{x:V}(h:oz P o t x=some (v,Δ,rd))(hK:K v Δ rd):CX P o t x fun v rd=>K v [] rd:=by
 unfold oz at h
 unfold CX
 split at h
 ·split at h
  ·rename_i ho
   split at h
   ·rename_i hg
    exact acJ
   ·cases h
  ·cases h
 ·split at h
  ·rename_i hg
   simp only[Option.some.injEq,Prod.mk.injEq]at h;obtain⟨rfl,rfl,rfl⟩:=h
   exact⟨_,hg,hK⟩
  ·cases h
 ·split at h
  ·rename_i ho
   split at h
   ·rename_i hc
    split at h
    ·rename_i e he
     split at h
     ·rename_i hg
      simp only[Option.some.injEq,Prod.mk.injEq]at h;obtain⟨rfl,rfl,rfl⟩:=h
      simp only[ho];exact⟨hc.1,hc.2,e,he,_,hg,hK⟩
     ·cases h
    ·cases h
   ·cases h
  ·cases h
 ·cases h
theorem DC{t:TypeId}{x y:V}(h:tH P o t x y=some (v,Δ,rd))(hK:K v Δ rd):wB P o t x y fun Δ rd=>K (.cf []) Δ rd:=by
 unfold tH at h
 unfold wB
 split at h
 ·split at h
  ·rename_i ho
   split at h
   ·rename_i hg
    exact acJ
   ·cases h
  ·cases h
 ·split at h
  ·rename_i ho
   split at h
   ·rename_i hc
    split at h
    ·rename_i e z he hz
     split at h
     ·rename_i hl
      split at h
      ·rename_i e' hp
       simp only[Option.some.injEq,Prod.mk.injEq]at h;obtain⟨rfl,rfl,rfl⟩:=h
       simp only[ho]
       exact⟨hc.1,hc.2,e,he,z,hz,hl.1,hl.2.1,hl.2.2,e',hp,hK⟩
      ·cases h
     ·cases h
    ·cases h
   ·cases h
  ·cases h
 ·cases h
theorem tJ{t:TypeId}{len:Nat}{parts:List (Nat×V)}(h:hY P o fr t len parts=some (v,Δ,rd))(hK:K v Δ rd):jA P o fr t len parts K:=by
 unfold hY at h
 unfold jA
 split at h
 ·rename_i e ht
  simp only[ht]
  split at h
  ·rename_i hc
   simp only[Option.some.injEq,Prod.mk.injEq]at h;obtain⟨rfl,rfl,rfl⟩:=h
   exact .inl ⟨hc.1,by simpa using hc.2.1,hc.2.2,hK⟩
  split at h
  ·rename_i hc
   refine .inr ?_
   split at h
   ·rename_i ds hd
    split at h
    ·rename_i hw
     simp only[Option.some.injEq,Prod.mk.injEq]at h;obtain⟨rfl,rfl,rfl⟩:=h
     refine⟨hc.1,hc.2.1,hc.2.2.1,hc.2.2.2.1,hc.2.2.2.2,ds,hd,fun x hx=> ?_,hK⟩
     simpa using List.all_eq_true.1 hw x hx
    ·cases h
   ·cases h
  ·cases h
 ·cases h
theorem vu{t:TypeId}{l c:V}(h:np P fr t l c=some (v,Δ,rd))(hK:K v Δ rd):kJ P fr t l c fun v Δ=>K v Δ []:=by
 unfold np at h
 unfold kJ
 split at h
 ·rename_i e ht
  split at h
  ·split at h
   ·rename_i hc
    split at h
    ·rename_i x hx
     simp only[Option.some.injEq,Prod.mk.injEq]at h;obtain⟨rfl,rfl,rfl⟩:=h
     simp only[ht]
     exact⟨hc.1,hc.2.1,hc.2.2.1,hc.2.2.2.1,hc.2.2.2.2,x,hx,hK⟩
    ·cases h
   ·cases h
  ·cases h
 ·cases h
theorem Bq{ts:Array TypeId}{x y:V}(h:rX P o fr ts x y=some (v,Δ,rd))(hK:K v Δ rd):rq P o fr ts x y K:=by
 unfold rX at h
 unfold rq
 split at h
 ·rename_i t t' yP
  simp only[yP]
  split at h
  ·rename_i htt
   refine⟨htt, ?_⟩
   split at h
   ·rename_i e new vF ht hl
    obtain⟨qf,rfl⟩:=Ge hl
    simp only[ht]
    split at h
    ·rename_i hc
     refine⟨new,qf,hc.1,hc.2.1,fun z hz=>by simpa using List.all_eq_true.1 hc.2.2 z hz, ?_⟩
     split at h
     ·split at h
      ·rename_i tC
       simp only[Option.some.injEq,Prod.mk.injEq]at h;obtain⟨rfl,rfl,rfl⟩:=h
       exact⟨tC.1,tC.2,hK⟩
      ·cases h
     ·split at h
      ·rename_i Ia
       refine⟨fun z hz=>by simpa using List.all_eq_true.1 Ia z hz, ?_⟩
       split at h
       ·rename_i hn
        simp only[Option.some.injEq,Prod.mk.injEq]at h;obtain⟨rfl,rfl,rfl⟩:=h
        rw[if_pos hn];exact hK
       ·rename_i hn
        split at h
        ·rename_i tC
         simp only[Option.some.injEq,Prod.mk.injEq]at h;obtain⟨rfl,rfl,rfl⟩:=h
         rw[if_neg hn];exact⟨tC.1,tC.2,hK⟩
        ·cases h
      ·cases h
     ·split at h
      ·rename_i ho
       split at h
       ·rename_i tC
        simp only[Option.some.injEq,Prod.mk.injEq]at h;obtain⟨rfl,rfl,rfl⟩:=h
        simp only[ho]
        exact⟨tC.1,tC.2.1,tC.2.2.1,tC.2.2.2.1,tC.2.2.2.2,hK⟩
       ·cases h
      ·cases h
     ·cases h
    ·cases h
   ·cases h
  ·cases h
 ·cases h
theorem wX{x y:V}(h:j9 o x=some y){K:V->Prop}(hK:K y):mz o x K:=by
 unfold j9 at h
 unfold mz
 split at h
 ·obtain⟨h2,rfl⟩:=tI h;exact⟨h2,hK⟩
 ·exact Mi
 ·exact Mi
 ·cases h
theorem Nu{op:UnOp}{x y:V}(h:unF op x=some y){K:V->Prop}(hK:K y):unV op x K:=by
 unfold unF at h
 unfold unV
 split at h
 ·injection h with h;subst h;simp only;rw[Int.zero_sub];exact hK
 ·exact Mi
 ·cases h
theorem A1{m:Bool}{x y v:V}(h:rY m x y=some v){K:V->Prop}(hK:K v):pa m [x,y] K:=by
 unfold rY at h
 unfold pa
 split at h
 ·split at h
  ·exact Mm
  ·cases h
 ·cases h
theorem DD{op:Op}(h:iu P s fr op=some (v,Δ,rd))(hK:K v Δ rd):UB P s fr op K:=by
 cases op<;>simp only[iu]at h<;>simp only[UB]<;>try (cases h;done)
 case move x=>have h:=l9 h;simp only[Prod.mk.injEq]at h;obtain⟨rfl,rfl,rfl⟩:=h;exact hK
 case assign x=>have h:=l9 h;simp only[Prod.mk.injEq]at h;obtain⟨rfl,rfl,rfl⟩:=h;exact hK
 case pick c a b=>
  obtain⟨x,h1,h⟩:=jY h;simp only[Prod.mk.injEq]at h;obtain⟨rfl,rfl,rfl⟩:=h
  exact Gf h1 hK
 case alloc t=>
  split at h
  ·rename_i cs hz;simp only[Option.some.injEq,Prod.mk.injEq]at h;obtain⟨rfl,rfl,rfl⟩:=h;exact⟨cs,hz,hK⟩
  ·cases h
 case box t x=>
  split at h
  ·rename_i cs hz;simp only[Option.some.injEq,Prod.mk.injEq]at h;obtain⟨rfl,rfl,rfl⟩:=h;exact⟨cs,hz,hK⟩
  ·cases h
 case build t parts=>
  obtain⟨x,h1,h⟩:=jY h;simp only[Prod.mk.injEq]at h;obtain⟨rfl,rfl,rfl⟩:=h
  unfold Bp at h1
  split at h1
  ·rename_i z pl hz hp
   split at h1
   ·rename_i cs hc;injection h1 with h1;subst h1;exact⟨z,pl,cs,hz,hp,hc,hK⟩
   ·cases h1
  ·cases h1
 case buildSlice t len parts=>exact tJ h hK
 case load t x=>exact Gg h hK
 case store t x y=>exact DC h hK
 case nilCheck x=>
  obtain⟨y,h1,h⟩:=jY h;simp only[Prod.mk.injEq]at h;obtain⟨rfl,rfl,rfl⟩:=h
  exact wX h1 hK
 case binOp op t x y yt=>
  unfold fZ at h
  split at h
  ·rename_i z h1
   have h:=l9 h;simp only[Prod.mk.injEq]at h;obtain⟨rfl,rfl,rfl⟩:=h
   exact .inl (KQ h1 hK)
  ·right;simp only[h,dz];exact hK
 case unOp op t x=>
  obtain⟨z,h1,h⟩:=jY h;simp only[Prod.mk.injEq]at h;obtain⟨rfl,rfl,rfl⟩:=h
  unfold Ka at h1
  split at h1
  ·rename_i hx;injection h1 with h1;subst h1;exact .inr ⟨rfl,hx,hK⟩
  ·exact .inl (Nu h1 hK)
 case slice t x lo hi mx=>simp only[h,dz];exact hK
 case field t x f=>
  exact Xg
 case typeAssert x xt t ok=>
  exact Xg
 case makeMap t r=>
  cases r with
  |none=>simp only[h,dz];exact hK
  |some x=>cases h
 case lookup t m k ok=>simp only[h,dz];exact hK
 case mapUpdate t m k v=>simp only[h,dz];exact hK
 case insert t m k v=>simp only[h,dz];exact hK
 case index t x i=>
  exact Xg
 case convert u t x=>
  split at h
  ·rename_i d k k' n hu hk hx
   have h:=l9 h;simp only[Prod.mk.injEq]at h;obtain⟨rfl,rfl,rfl⟩:=h
   exact⟨by rw[hu];rfl,by simp only[hk,hx];exact hK⟩
  ·cases h
 case makeInterface t x=>
  obtain⟨z,h1,h⟩:=jY h;simp only[Prod.mk.injEq]at h;obtain⟨rfl,rfl,rfl⟩:=h
  obtain⟨h2,rfl⟩:=tI h1
  refine⟨?_, ?_⟩
  ·unfold nr at h2
   cases hd:P.underlying t with
   |none=>simp[hd]at h2
   |some d=>exact⟨d,rfl,by cases d<;>simp_all⟩
  ·split
   ·rename_i y hy;simp only[hy]at hK;exact hK
   ·rename_i hy
    split at hK
    ·rename_i y hy';exact absurd hy' (hy y)
    ·exact hK
 case makeFunc fn first cap=>have h:=l9 h;simp only[Prod.mk.injEq]at h;obtain⟨rfl,rfl,rfl⟩:=h;exact hK
 case makeSlice t l c=>
  exact vu h hK
 case fieldAddr t x f=>
  obtain⟨z,h1,h⟩:=jY h;simp only[Prod.mk.injEq]at h;obtain⟨rfl,rfl,rfl⟩:=h
  exact vr h1 hK
 case indexAddr t x i=>
  exact vq h hK
 case extract x i=>
  split at h
  ·rename_i vs hv
   split at h
   ·rename_i u hu
    have h:=l9 h;simp only[Prod.mk.injEq]at h;obtain⟨rfl,rfl,rfl⟩:=h
    simp only[hv];exact⟨_,hu,hK⟩
   ·cases h
  ·cases h
 case call c=>
  obtain⟨Nd,args,ts⟩:=c
  cases Nd<;>simp only at h|- <;>try (cases h;done)
  rename_i b
  unfold rZ at h
  unfold wF
  split at h
  ·rename_i x ha
   simp only[ha]
   split at h
   ·rename_i t yP;exact⟨t,yP,KT h hK⟩
   ·cases h
  ·rename_i x y ha
   simp only[ha]
   split at h
   ·rename_i r hr
    simp only[Option.some.injEq]at h
    subst h
    exact .inl (by rw[hr];exact hK)
   ·exact .inr (Bq h hK)
  ·rename_i x y ha
   exact acx
  ·rename_i x y ha
   exact acx
  ·rename_i x y z ha
   simp only[ha]
   obtain⟨v0,h1,h⟩:=jY h;simp only[Prod.mk.injEq]at h;obtain⟨rfl,rfl,rfl⟩:=h
   exact ab0
  ·rename_i x y ha
   simp only[ha,h,dz];exact hK
  ·rename_i x y ha
   simp only[ha]
   split at h
   ·rename_i t ht;exact⟨t,ht,by simp only[h,dz];exact hK⟩
   ·cases h
  ·rename_i x ha
   simp only[ha,h,dz];exact hK
  ·cases h
 case range t x=>simp only[h,dz];exact hK
 case next x str=>left;simp only[h,dz];exact hK
 case entry x=>simp only[h,dz];exact hK
end
end
section
def wY(P:Program)(g:FuncId)(ds:List D)(o o1 oa:Nat->aa)(K:V->(Nat->aa)->Prop)(X:V->(Nat->aa)->Prop):Prop:=
 ∃out,a7 P g ds out/\((match out with| .ret rs=>K (jM rs) o1| .bU x=>X (.d x) o1)\/(out.flat=true/\match out with| .ret rs=>K (jM rs) o| .bU x=>X (.d x) o)\/(out.oo=true/\match out with| .ret rs=>K (jM rs) oa| .bU x=>X (.d x) oa))
def uM(P:Program)(g:FuncId)(args:List V)(o:Nat->aa)(nx:Nat)(K:V->(Nat->aa)->Nat->Prop)(X:V->(Nat->aa)->Nat->Prop):Prop:=pW P g args o nx K X
theorem pW.mono {P:Program}{g:FuncId}{args:List V}{o:Nat->aa}{nx:Nat}{K X K' X':V->(Nat->aa)->Nat->Prop}(hK:∀v o n,K v o n->K' v o n)(hX:∀v o n,X v o n->X' v o n)(h:pW P g args o nx K X):pW P g args o nx K' X':=
 h.imp (bJ.mono hK hX) (bJ.mono hK hX)
@[congr] theorem UQ {P:Program} {g g':FuncId} {ds ds':List D} {o o1 oa:Nat->aa} {K X} (h:g=g') (h':ds=ds'):wY P g ds o o1 oa K X=wY P g' ds' o o1 oa K X:=by subst h;subst h';rfl
@[congr] theorem UR {P:Program} {g g':FuncId} {cC ac4:List V} {o:Nat->aa} {nx:Nat} {K X} (h:g=g') (h':cC=ac4):uM P g cC o nx K X=uM P g' ac4 o nx K X:=by subst h;subst h';rfl
def US(P:Program)(g:FuncId)(args:List V)(o:Nat->aa)(nx:Nat)(K X:V->(Nat->aa)->Nat->Prop):Prop:=
 (∃ds,cA o args=some ds/\wY P g ds o (put o (bK o (V.bw args))) (put o (tp o (V.bw args))) (fun v o'=>K v o' (nx+1)) (fun v o'=>X v o' (nx+1)))\/bJ P g args o nx K X
def LZ(P:Program)(s:S)(o:cg)(X:V->S->Prop)(K:S->Prop):Prop:=
 match o.op with
 | .call c=>match c.callee with
   | .value f=>match s.ev f with
     | .func (.func g) first cap=>match cA s.o (first++c.args.toList.map s.ev++cap)with
       |some ds=>wY P g ds s.o (put s.o (bK s.o (V.bw (first++c.args.toList.map s.ev++cap)))) (put s.o (tp s.o (V.bw (first++c.args.toList.map s.ev++cap)))) (fun v o'=>K ⟨ba s.env o.dst v,o',s.nx+1⟩) (fun v o'=>X v ⟨s.env,o',s.nx+1⟩)\/
        uM P g (first++c.args.toList.map s.ev++cap) s.o s.nx (fun v o' nx'=>K ⟨ba s.env o.dst v,o',nx'⟩) (fun v o' nx'=>X v ⟨s.env,o',nx'⟩)
       |none=>uM P g (first++c.args.toList.map s.ev++cap) s.o s.nx (fun v o' nx'=>K ⟨ba s.env o.dst v,o',nx'⟩) (fun v o' nx'=>X v ⟨s.env,o',nx'⟩)
     | .lC id=>ej P id (c.args.toList.map s.ev) s.o s.nx (fun v o' nx'=>K ⟨ba s.env o.dst v,o',nx'⟩) (fun v o' nx'=>X v ⟨s.env,o',nx'⟩)
     |_=>False
   | .invoke r m=>match wR P m (s.ev r)with
     |some (g,y)=>US P g (y::c.args.toList.map s.ev) s.o s.nx (fun v o' nx'=>K ⟨ba s.env o.dst v,o',nx'⟩) (fun v o' nx'=>X v ⟨s.env,o',nx'⟩)
     |none=>False
   |_=>match iu P s s.nx o.op with
    |some (v,Δ,_)=>K ⟨ba s.env o.dst v,put s.o Δ,s.nx+1⟩
    |none=>False
 | .panic x=>match s.ev x with
   | .d (.iface t y)=>X (.d (.iface t y)) s
   | .iface t y=>X (.iface t y) s
   |_=>False
 | .next x str=>match qb s.o (s.ev x)with
   |some (id,l)=>str=false/\H5 id l fun v Δ _=>K ⟨ba s.env o.dst v,put s.o Δ,s.nx+1⟩
   |none=>match iu P s s.nx o.op with
    |some (v,Δ,_)=>K ⟨ba s.env o.dst v,put s.o Δ,s.nx+1⟩
    |none=>False
 |op=>match iu P s s.nx op with
  |some (v,Δ,_)=>K ⟨ba s.env o.dst v,put s.o Δ,s.nx+1⟩
  |none=>False
def qF(P:Program)(X:V->S->Prop)(K:S->Prop):List cg->S->Prop
 |[],s=>K s
 |o::l,s=>match o.gd with
  |none=>LZ P s o X (qF P X K l)
  |some (d,want)=>match s.env d with
   | .d (.bool b)=>if b=want then LZ P s o X (qF P X K l)else qF P X K l ⟨ba s.env o.dst (.cf []),s.o,s.nx+1⟩
   | .cf []=>qF P X K l ⟨ba s.env o.dst (.cf []),s.o,s.nx+1⟩
   |_=>False
def Nv(b:Nat)(body:(gr->S->Prop)->S->Prop)(Q:gr->S->Prop)(s:S):Prop:=
 ∃ (J:Nat->S->Prop),(∃m s1,bM b s s1/\J m s1)/\∀m s0,J m s0->body (fun e s=>match e with| .normal=>∃m' s1,m'<m/\bM b s s1/\J m' s1|e=>Q e s) s0
@[congr] theorem UT {b:Nat} {body Q} {s s':S} (h:s=s'):Nv b body Q s=Nv b body Q s':=by subst h;rfl
def r8(t:Bool)(A B:Prop):Prop:=(t=true->A)/\(t=false->B)
@[congr] theorem UU {t t':Bool} {A B:Prop} (h:t=t'):r8 t A B=r8 t' A B:=by subst h;rfl
@[simp] theorem wZ (A B:Prop):r8 true A B=A:=by simp[r8]
@[simp] theorem uN (A B:Prop):r8 false A B=B:=by simp[r8]
section
variable {P:Program}{n b:Nat}
theorem Ir{s:S}{o:cg}{o':Oper}{X X':V->S->Prop}{K K':S->Prop}(gX:o'.op=o.op)(dq:o'.dst=o.dst)(hd:iC n o'.dst)(hK:∀s,K s->K' s)(hX:∀v s,X v s->X' v s)(h:LZ P s o X K):opW P n s o' X' K':=by
 refine⟨hd, ?_⟩
 rw[dq,gX]
 unfold LZ at h
 have hs:∀ {op:Op},(match iu P s s.nx op with|some (v,Δ,_)=>K ⟨ba s.env o.dst v,put s.o Δ,s.nx+1⟩|none=>False)->UB P s s.nx op fun v Δ _=>K' ⟨ba s.env o.dst v,put s.o Δ,s.nx+1⟩:=by
  intro op h
  split at h
  ·rename_i v Δ rd he;exact DD he (hK _ h)
  ·exact h.elim
 split at h
 ·rename_i c hc
  split at h
  ·rename_i f fQ
   simp only[hc,fQ]
   split at h
   ·rename_i g first cap hf
    unfold Dq
    simp only[hf]
    unfold wQ
    split at h
    ·rename_i ds fT
     rcases h with⟨out,hP,h|⟨re,h⟩|⟨re,h⟩⟩|h
     ·exact Uc
     ·exact T4
     ·exact acN
     ·exact Tq
    ·exact Tq
   ·rename_i id hf
    unfold Dq
    simp only[hf]
    exact ej.mono (fun v o n h=>hK _ h) (fun v o n h=>hX _ _ h) h
   ·exact h.elim
  ·rename_i r m fQ
   simp only[hc,fQ]
   split at h
   ·rename_i g y hr
    simp only[hr]
    unfold wQ
    rcases h with⟨ds,fT,out,hP,h|⟨re,h⟩|⟨re,h⟩⟩|h
    ·exact Uc
    ·exact T4
    ·exact acN
    ·exact .inr (.inr (.inr (.inl (bJ.mono (fun v o n h=>hK _ h) (fun v o n h=>hX _ _ h) h))))
   ·exact h.elim
  ·rename_i fQ hinv
   rw[hc]at h|-
   obtain⟨Nd,args,ts⟩:=c
   cases Nd with
   |value f=>exact absurd rfl (fQ f)
   |invoke r m=>exact absurd rfl (hinv r m)
   |_=>exact hs h
 ·rename_i x hx
  simp only[hx]
  split at h
  ·rename_i hv;simp only[hv];exact hX _ _ h
  ·rename_i hv;simp only[hv];exact hX _ _ h
  ·exact h.elim
 ·rename_i x str hx
  rw[hx]at h|-
  split at h
  ·rename_i id l hl
   exact .inr ⟨h.1,id,l,hl,fun e=>hK _ (h.2.1 e),fun i k x e=>hK _ (h.2.2 i k x e)⟩
  ·exact hs h
 ·rename_i hc hp vl
  have h2:=hs h
  cases hh:o.op<;>first
   |exact absurd hh (hc _)
   |exact absurd hh (hp _)
   |exact absurd hh (vl _ _)
   |(rw[hh]at h2;exact h2)
theorem ke{ops:Array Oper}{X X':V->S->Prop}{K K':S->Prop}(hK:∀s,K s->K' s)(hX:∀v s,X v s->X' v s):∀ (l:List Oper) (l':List cg) (s:S),mq n ops l=some l'->qF P X K l' s->Bi P n ops X' K' l s
 |[],l',s,h,hr=>by simp[mq]at h;subst h;exact hK _ hr
 |o::l,l',s,h,hr=>by
  simp only[mq]at h
  split at h
  ·rename_i x xs hx Qf
   injection h with h;subst h
   unfold MN at hx
   split at hx
   ·rename_i hd
    have dq:iC n o.dst:=by
     unfold FL at hd;unfold iC
     split at hd<;>simp_all
    simp only[Bi,Bh]
    cases hg:o.guard with
    |none=>
     simp only[hg]at hx
     injection hx with hx;subst hx
     exact Ir rfl rfl dq (fun s hs=>ke hK hX l xs s Qf hs) hX hr
    |some p=>
     obtain⟨j,want⟩:=p
     simp only[hg]at hx
     cases UW:uz ops j with
     |none=>simp[UW]at hx
     |some d=>
      simp only[UW]at hx
      injection hx with hx;subst hx
      simp only
      simp only[qF]at hr
      split at hr
      ·rename_i t ht
       simp only[UW,ht]
       split at hr
       ·rename_i e
        exact⟨fun _=>Ir rfl rfl dq (fun s hs=>ke hK hX l xs s Qf hs) hX hr,fun h=>absurd e h⟩
       ·rename_i e
        exact⟨fun h=>absurd h e,fun _=>⟨dq,ke hK hX l xs _ Qf hr⟩⟩
      ·rename_i ht
       simp only[UW,ht]
       exact⟨dq,ke hK hX l xs _ Qf hr⟩
      ·exact hr.elim
   ·cases hx
  ·cases h
end
end
section
mutual
def V.refs:V->List Nat
 | .ptr id _=>[id]| .osl id _=>[id]| .pe id _ _ _ _=>[id]| .zA id _ _=>[id]| .mp id=>[id]| .lC id=>[id]
 | .agg cs=>V.aN cs
 | .cf cs=>V.aN cs
 | .func _ a b=>V.aN a++V.aN b
 | .iface _ x=>x.refs
 |_=>[]
def V.aN:List V->List Nat
 |[]=>[]
 |v::vs=>v.refs++V.aN vs
end
mutual
theorem kO:∀ (v:V),∀id∈v.ids,id∈v.refs
 | .osl id _,j,h=>by simpa[V.ids,V.refs]using h
 | .agg cs,j,h=>by simp only[V.ids]at h;simp only[V.refs];exact mX cs j h
 | .iface _ x,j,h=>by simp only[V.ids]at h;simp only[V.refs];exact kO x j h
 | .mp _,j,h=>by simpa[V.ids,V.refs]using h
 | .d _,_,h| .ao,_,h| .cf _,_,h| .ptr _ _,_,h| .pe _ _ _ _ _,_,h| .pp _ _,_,h| .func _ _ _,_,h| .ai,_,h| .pY _,_,h| .zA _ _ _,_,h| .gh,_,h| .lC _,_,h=>by simp[V.ids]at h
theorem mX:∀ (vs:List V),∀id∈V.bw vs,id∈V.aN vs
 |[],j,h=>by simp[V.bw]at h
 |v::vs,j,h=>by
  simp only[V.bw,V.aN,List.mem_append]at h|-
  exact h.imp (kO v j) (mX vs j)
end
mutual
theorem dL{o o':Nat->aa}:∀ (v:V),(∀id∈v.refs,o' id=o id)->ef o' v=ef o v
 | .osl id ep,h=>by simp only[ef,h id (by simp[V.refs])]
 | .mp id,h=>by simp only[ef,h id (by simp[V.refs])]
 | .agg cs,h=>by simp only[ef,jh cs (by simpa[V.refs]using h)]
 | .iface t x,h=>by simp only[ef,dL x (by simpa[V.refs]using h)]
 | .d _,_| .ao,_| .cf _,_| .ptr _ _,_| .pe _ _ _ _ _,_| .pp _ _,_| .func _ _ _,_| .ai,_| .pY _,_| .zA _ _ _,_| .gh,_| .lC _,_=>by simp only[ef]
theorem jh{o o':Nat->aa}:∀ (vs:List V),(∀id∈V.aN vs,o' id=o id)->cA o' vs=cA o vs
 |[],_=>rfl
 |v::vs,h=>by
  simp only[cA,dL v (fun id ay=>h id (by simp[V.aN,ay])),jh vs (fun id ay=>h id (by simp[V.aN,ay]))]
end
theorem ja{o o':Nat->aa}{ids:List Nat}(h:∀id∈ids,o' id=o id):bK o' ids=bK o ids:=by
 rw[m7,m7]
 exact List.map_congr_left fun id ay=>by rw[h id ay]
def pV(s:S)(op:Op):List Nat:=
 match op with
 | .load _ x=>(s.ev x).refs
 | .nilCheck x=>(s.ev x).refs
 | .fieldAddr _ x _=>(s.ev x).refs
 | .indexAddr _ x _=>(s.ev x).refs
 | .store _ x v=>(s.ev x).refs++(s.ev v).refs
 | .buildSlice _ _ parts=>V.aN (parts.toList.map fun p=>s.ev p.2)
 | .binOp _ _ x y _=>(s.ev x).refs++(s.ev y).refs
 | .slice _ x _ _ _=>(s.ev x).refs
 | .lookup _ m k _=>(s.ev m).refs++(s.ev k).refs
 | .mapUpdate _ m k v=>(s.ev m).refs++((s.ev k).refs++(s.ev v).refs)
 | .insert _ m k v=>(s.ev m).refs++((s.ev k).refs++(s.ev v).refs)
 | .range _ x=>(s.ev x).refs
 | .next x _=>(s.ev x).refs
 | .entry x=>(s.ev x).refs
 | .call c=>match c.callee with
   | .builtin _=>V.aN (c.args.toList.map s.ev)
   | .value f=>match s.ev f with
     | .func _ first cap=>V.aN (first++c.args.toList.map s.ev++cap)
     |_=>[]
   |_=>[]
 |_=>[]
section
variable {P:Program}{s s':S}{fr:Nat}
theorem uO{o o':Nat->aa}(v:V)(h:∀id∈v.refs,o' id=o id):rW o' v=rW o v:=by
 cases v with
 |osl id ep=>simp only[rW,h id (by simp[V.refs])]
 |d x=>cases x<;>rfl
 |_=>rfl
theorem uP{o o':Nat->aa}(v:V)(q:Nat)(h:∀id∈v.refs,o' id=o id):qh o' v q=qh o v q:=by
 cases v<;>simp only[qh]<;>rw[h _ (by simp[V.refs])]
theorem Gh{o o':Nat->aa}(v:V)(h:∀id∈v.refs,o' id=o id):C1 o' v=C1 o v:=by
 have h1:fG o' v=fG o v:=by unfold fG;rw[dL v h]
 cases v<;>first|rfl|simp only[C1,h1]
theorem Br{o o':Nat->aa}(v:V)(h:∀id∈v.refs,o' id=o id):tt o' v=tt o v:=by
 cases v with
 |mp id=>simp only[tt,h id (by simp[V.refs])]
 |d x=>cases x<;>rfl
 |_=>rfl
theorem Bs{o o':Nat->aa}(v:V)(h:∀id∈v.refs,o' id=o id):tu o' v=tu o v:=by
 cases v with
 |ptr id off=>simp only[tu,h id (by simp[V.refs])]
 |d x=>cases x<;>rfl
 |_=>rfl
theorem oA{o o':Nat->aa}(v:V)(h:∀id∈v.refs,o' id=o id):p9 o' v=p9 o v:=by
 cases v with
 |mp id=>simp only[p9,h id (by simp[V.refs])]
 |d x=>cases x<;>rfl
 |_=>rfl
theorem DE{o o':Nat->aa}(v:V)(h:∀id∈v.refs,o' id=o id):rz o' v=rz o v:=by
 cases v with
 |mp id=>simp only[rz,h id (by simp[V.refs])]
 |d x=>cases x<;>rfl
 |_=>rfl
theorem DF{o o':Nat->aa}(v:V)(str:Bool)(h:∀id∈v.refs,o' id=o id):qa o' v str=qa o v str:=by
 cases v with
 |ptr id off=>cases off<;>simp only[qa,h id (by simp[V.refs])]
 |_=>rfl
theorem Bt{o o':Nat->aa}(v:V)(h:∀id∈v.refs,o' id=o id):nZ o' v=nZ o v:=by
 cases v with
 |ptr id off=>cases off<;>simp only[nZ,h id (by simp[V.refs])]
 |_=>rfl
theorem Bu{o o':Nat->aa}{fr:Nat}{t:TypeId}{P:Program}(v:V)(h:∀id∈v.refs,o' id=o id):nY P o' fr t v=nY P o fr t v:=by
 unfold nY
 cases v with
 |mp id=>simp only[h id (by simp[V.refs])]
 |d x=>cases x<;>rfl
 |_=>rfl
theorem Bv{o o':Nat->aa}(v:V)(h:∀id∈v.refs,o' id=o id):qw o' v=qw o v:=by
 cases v with
 |ptr id off=>simp only[qw,h id (by simp[V.refs])]
 |_=>rfl
theorem Bw{o o':Nat->aa}(v:V)(h:∀id∈v.refs,o' id=o id):qx o' v=qx o v:=by
 cases v with
 |zA id off n=>simp only[qx,h id (by simp[V.refs])]
 |_=>rfl
theorem Gi(op:Op)(hv:∀x∈op.operands,s'.ev x=s.ev x)(ho:∀id∈pV s op,s'.o id=s.o id):iu P s' fr op=iu P s fr op:=by
 cases op<;>simp only[iu]
 case move x=>rw[hv x (by simp[Op.operands])]
 case assign x=>rw[hv x (by simp[Op.operands])]
 case pick c a b=>rw[hv c (by simp[Op.operands]),hv a (by simp[Op.operands]),hv b (by simp[Op.operands])]
 case box t x=>rw[hv x (by simp[Op.operands])]
 case build t parts=>
  have:(parts.toList.map fun p=>(p.1,s'.ev p.2))=parts.toList.map fun p=>(p.1,s.ev p.2):=
   List.map_congr_left fun p hp=>by rw[hv p.2 (by simp only[Op.operands];simp;exact⟨p.1,by simpa using hp⟩)]
  rw[this]
 case buildSlice t len parts=>
  have:(parts.toList.map fun p=>(p.1,s'.ev p.2))=parts.toList.map fun p=>(p.1,s.ev p.2):=
   List.map_congr_left fun p hp=>by rw[hv p.2 (by simp only[Op.operands];simp;exact⟨p.1,by simpa using hp⟩)]
  rw[this]
  have e:(parts.toList.map fun p=>(p.1,s.ev p.2)).map (·.2)=parts.toList.map fun p=>s.ev p.2:=by simp[Function.comp_def]
  have h1:cA s'.o ((parts.toList.map fun p=>(p.1,s.ev p.2)).map (·.2))=cA s.o ((parts.toList.map fun p=>(p.1,s.ev p.2)).map (·.2)):=jh _ (by rw[e];exact ho)
  have h2:bK s'.o (V.bw ((parts.toList.map fun p=>(p.1,s.ev p.2)).map (·.2)))=bK s.o (V.bw ((parts.toList.map fun p=>(p.1,s.ev p.2)).map (·.2))):=
   ja fun id ay=>ho id (by rw[e]at ay;exact mX _ id ay)
  simp only[hY,h1,h2]
 case load t x=>
  rw[hv x (by simp[Op.operands])]
  cases hx:s.ev x<;>simp only[oz]<;>rw[ho _ (by simp[pV,hx,V.refs])]
 case store t x y=>
  rw[hv x (by simp[Op.operands]),hv y (by simp[Op.operands])]
  have h1:ef s'.o (s.ev y)=ef s.o (s.ev y):=dL _ fun id ay=>ho id qu
  have h2:bK s'.o (s.ev y).ids=bK s.o (s.ev y).ids:=ja fun id ay=>ho id (by simp[pV,kO _ _ ay])
  cases hx:s.ev x<;>simp only[tH]<;>rw[ho _ (by simp[pV,hx,V.refs])]
  simp only[h1,h2]
 case nilCheck x=>
  rw[hv x (by simp[Op.operands])]
  cases hx:s.ev x with
  |ptr id off=>simp only[j9];rw[ho _ (by simp[pV,hx,V.refs])]
  |func fn a b=>cases fn<;>rfl
  |_=>rfl
 case binOp op t x y yt=>
  rw[hv x (by simp[Op.operands]),hv y (by simp[Op.operands])]
  have h1:C1 s'.o (s.ev x)=C1 s.o (s.ev x):=Gh _ fun id ay=>ho id qu
  have h2:∀a b,th P s'.o a b (s.ev x) (s.ev y)=th P s.o a b (s.ev x) (s.ev y):=fun a b=>by
   have h3:∀id∈(s.ev x).refs,s'.o id=s.o id:=fun id ay=>ho id qu
   have h4:=Br (s.ev x) h3
   have h5:=Bs (s.ev x) h3
   unfold th
   rw[h1,h4,h5]
  unfold fZ tv
  simp only[h2]
 case slice t x lo hi mx=>
  rw[hv x (by simp[Op.operands])]
  have e1:lo.map s'.ev=lo.map s.ev:=by cases lo<;>simp[hv,Op.operands]
  have e2:hi.map s'.ev=hi.map s.ev:=by cases hi<;>simp[hv,Op.operands]
  have e3:mx.map s'.ev=mx.map s.ev:=by cases mx<;>simp[hv,Op.operands]
  rw[e1,e2,e3]
  have h3:∀id∈(s.ev x).refs,s'.o id=s.o id:=fun id ay=>ho id qu
  have h1:fG s'.o (s.ev x)=fG s.o (s.ev x):=by unfold fG;rw[dL _ h3]
  have h2:bK s'.o (s.ev x).ids=bK s.o (s.ev x).ids:=ja fun id ay=>h3 id (kO _ _ ay)
  have h4:FO P s'.o t (s.ev x) (lo.map s.ev) (hi.map s.ev) (mx.map s.ev)=FO P s.o t (s.ev x) (lo.map s.ev) (hi.map s.ev) (mx.map s.ev):=by
   cases hx:s.ev x with
   |osl id ep=>simp only[FO,h3 id (by simp[hx,V.refs])]
   |_=>rfl
  unfold tq rr
  simp only[h1,h2,h4,Bv _ h3]
 case field t x f=>rw[hv x (by simp[Op.operands])]
 case typeAssert x xt t ok=>rw[hv x (by simp[Op.operands])]
 case makeMap t r=>cases r<;>rfl
 case lookup t m k ok=>
  rw[hv m (by simp[Op.operands]),hv k (by simp[Op.operands])]
  have h3:∀id∈(s.ev m).refs,s'.o id=s.o id:=fun id ay=>ho id qu
  have h1:ef s'.o (s.ev k)=ef s.o (s.ev k):=dL _ fun id ay=>ho id qu
  unfold jZ
  simp only[h1,DE _ h3]
 case mapUpdate t m k v=>
  rw[hv m (by simp[Op.operands]),hv k (by simp[Op.operands]),hv v (by simp[Op.operands])]
  have h3:∀id∈(s.ev m).refs,s'.o id=s.o id:=fun id ay=>ho id qu
  have h1:ef s'.o (s.ev k)=ef s.o (s.ev k):=dL _ fun id ay=>ho id qu
  have h2:ef s'.o (s.ev v)=ef s.o (s.ev v):=dL _ fun id ay=>ho id qu
  have h4:bK s'.o (s.ev v).ids=bK s.o (s.ev v).ids:=ja fun id ay=>ho id (by simp[pV,kO _ _ ay])
  unfold gN
  simp only[h1,h2,h4,oA _ h3]
 case insert t m k v=>
  rw[hv m (by simp[Op.operands]),hv k (by simp[Op.operands]),hv v (by simp[Op.operands])]
  have h3:∀id∈(s.ev m).refs,s'.o id=s.o id:=fun id ay=>ho id qu
  have h1:ef s'.o (s.ev k)=ef s.o (s.ev k):=dL _ fun id ay=>ho id qu
  have h2:ef s'.o (s.ev v)=ef s.o (s.ev v):=dL _ fun id ay=>ho id qu
  have h4:bK s'.o (s.ev v).ids=bK s.o (s.ev v).ids:=ja fun id ay=>ho id (by simp[pV,kO _ _ ay])
  unfold gN
  simp only[h1,h2,h4,oA _ h3]
 case index t x i=>rw[hv x (by simp[Op.operands]),hv i (by simp[Op.operands])]
 case range t x=>
  rw[hv x (by simp[Op.operands])]
  exact Bu _ fun id ay=>ho id qu
 case next x str=>
  rw[hv x (by simp[Op.operands])]
  exact DF _ _ fun id ay=>ho id qu
 case entry x=>
  rw[hv x (by simp[Op.operands])]
  exact Bt _ fun id ay=>ho id qu
 case unOp op t x=>rw[hv x (by simp[Op.operands])]
 case convert u t x=>rw[hv x (by simp[Op.operands])]
 case makeInterface t x=>rw[hv x (by simp[Op.operands])]
 case makeFunc fn first cap=>
  have h1:first.toList.map s'.ev=first.toList.map s.ev:=List.map_congr_left fun x hx=>hv x (by simp only[Op.operands];exact Array.mem_append.2 (.inl (Array.mem_toList_iff.1 hx)))
  have h2:cap.toList.map s'.ev=cap.toList.map s.ev:=List.map_congr_left fun x hx=>hv x (by simp only[Op.operands];exact Array.mem_append.2 (.inr (Array.mem_toList_iff.1 hx)))
  rw[h1,h2]
 case makeSlice t l c=>rw[hv l (by simp[Op.operands]),hv c (by simp[Op.operands])]
 case fieldAddr t x f=>
  rw[hv x (by simp[Op.operands])]
  simp only[jg]
  cases bX P t f<;>simp only
  rw[uP _ _ (by simpa[pV]using ho)]
 case indexAddr t x i=>
  rw[hv x (by simp[Op.operands]),hv i (by simp[Op.operands])]
  have h1:∀q,qh s'.o (s.ev x) q=qh s.o (s.ev x) q:=fun q=>uP _ _ (by simpa[pV]using ho)
  simp only[jf,h1]
  cases hx:s.ev x with
  |osl id ep=>simp only[ho id (by simp[pV,hx,V.refs])]
  |d y=>cases y<;>rfl
  |_=>rfl
 case extract x i=>rw[hv x (by simp[Op.operands])]
 case call c=>
  obtain⟨Nd,args,ts⟩:=c
  cases Nd<;>simp only
  rename_i b
  unfold rZ
  have hm:∀x∈args.toList,s'.ev x=s.ev x:=fun x hx=>hv x abY
  have hr:∀x∈args.toList,∀id∈(s.ev x).refs,s'.o id=s.o id:=by
   intro x hx id ay
   refine ho id ?_
   simp only[pV]
   generalize args.toList=l at hx
   induction l with
   |nil=>cases hx
   |cons y l ih=>
    simp only[List.map_cons,V.aN,List.mem_append]
    rcases List.mem_cons.1 hx with rfl|hx
    ·exact .inl ay
    ·exact .inr (ih hx)
  split
  ·rename_i x ha
   rw[ha]at hm hr
   rw[hm x (by simp)]
   have h1:∀t,Gd P t s'.o (s.ev x)=Gd P t s.o (s.ev x):=fun t=>by simp only[Gd,uO _ (hr x (by simp))]
   simp only[h1]
  ·rename_i x y ha
   rw[ha]at hm hr
   rw[hm x (by simp),hm y (by simp)]
   simp only[rX,uO _ (hr y (by simp))]
   cases zE P fr ts (s.ev x) (s.ev y)with
   |some r=>rfl
   |none=>
   dsimp only
   cases hx:s.ev x with
   |osl id ep=>simp only[hr x (by simp) id (by simp[hx,V.refs])]
   |_=>rfl
  ·rename_i x y ha
   rw[ha]at hm
   rw[hm x (by simp),hm y (by simp)]
  ·rename_i x y ha
   rw[ha]at hm
   rw[hm x (by simp),hm y (by simp)]
  ·rename_i x y z h;rw[hm x (by rw[h];simp),hm y (by rw[h];simp),hm z (by rw[h];simp)]
  ·rename_i x y ha
   rw[ha]at hm hr
   rw[hm x (by simp),hm y (by simp)]
   have h1:fG s'.o (s.ev y)=fG s.o (s.ev y):=by unfold fG;rw[dL _ (hr y (by simp))]
   have h2:bK s'.o (s.ev y).ids=bK s.o (s.ev y).ids:=ja fun id ay=>hr y aF id (kO _ _ ay)
   unfold zD
   simp only[h1,h2,Bw _ (hr x (by simp))]
  ·rename_i x y ha
   rw[ha]at hm hr
   rw[hm x (by simp),hm y (by simp)]
   have h1:ef s'.o (s.ev y)=ef s.o (s.ev y):=dL _ (hr y aF)
   have h2:=oA _ (hr x aF)
   simp only[pb,h1,h2]
  ·rename_i x ha
   rw[ha]at hm
   rw[hm x (by simp)]
  ·rfl
end
end
end Go.Proofs.YtlhemmpklhhgoaaGreat
