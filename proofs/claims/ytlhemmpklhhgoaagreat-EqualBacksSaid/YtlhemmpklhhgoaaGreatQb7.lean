/-
  A PART OF THE PROOF. Conditions: none.
-/
import Derived.Test.YtlhemmpklhhgoaaGreatQb6
set_option linter.unusedSimpArgs false
set_option linter.unusedVariables false
namespace Go.Proofs.YtlhemmpklhhgoaaGreat
section
section
variable {P:Program}{M:Nat->Prop}{φ:Place}{H:Hp}{w w':World}{b7:Place}{H0:Hp}{w0:World}{n b:Nat}{s:S}{a:Act}{cx:Cx}{ro:Option Nat}{k:Nat}
theorem fA(hb:∀id,H0.us id->id<b)(qQ:cx.rd=false->ro=none):∀ (c:Code) (Q:eT->S->Prop) (s:S) (φ:Place) (a:Act) (w:World),gH P n b cx.rd c Q s->bJ M b7 H0 w0 n cx φ s a w->c.qC P ro (Cc M b7 H0 w0 n cx Q) a w:=by
 intro c
 induction c with
 |skip=>exact fun Q s φ a w h hs=>mQ (k:=0) (wpIn_skip ⟨.normal,s,φ,h,hs,trivial⟩)
 |scope x ih=>exact fun Q s φ a w h hs=>uB (ih Q s φ a w h hs) (fun l a w ⟨xx,s',aA,hq,iI,hm⟩=>by cases xx<;>exact hm)
 |label l=>exact fun Q s φ a w h hs=>mQ (k:=0) (wpIn_label ⟨.normal,s,φ,h,hs,trivial⟩)
 |exit id=>exact fun Q s φ a w h hs=>yd ⟨.exit id,s,φ,h,hs,rfl⟩
 |ret=>exact fun Q s φ a w h hs=>Cd ⟨.ret,s,φ,h,hs,trivial⟩
 |goto l=>exact fun Q s φ a w h hs=>h.elim
 |refuse y=>exact fun Q s φ a w h hs=>h.elim
 |rangeFunc g ps x y=>
  intro Q s φ a w h hs
  obtain⟨h1,s',hle,h2⟩:=h
  rcases hle with rfl|hle
  ·exact uE hs h1 (qQ h1) h2
  ·obtain⟨aA,iI⟩:=AD hb hs hle
   exact uE iI h1 (qQ h1) h2
 |region id ops draw=>
  intro Q s φ a w h hs
  cases draw with
  |true=>exact mQ (h M b7 H0 w0 cx φ a w ro 0 hs)
  |false=>
   refine mQ (k:=0) (wpIn_region_list (mP (K:=Q .normal) (X:=fun v s=>Q (.bu v) s) (fun s φ a w hk hs=>⟨.normal,s,φ,hk,hs,trivial⟩) (fun v s φ a w val hx hs hd=>⟨.bu v,s,φ,hx,hs,val,rfl,hd⟩) _ s φ a w h hs))
 |seq x y IL IM=>
  intro Q s φ a w h hs
  refine vS (e7 (IL _ s φ a w h hs) ?_)
  rintro e a' w' ⟨xx,s',aA,hq,iI,hm⟩
  cases e<;>cases xx<;>first|(exact hm.elim)|skip
  ·exact IM Q s' aA a' w' hq iI
  ·subst hm;exact⟨_,s',aA,hq,iI,rfl⟩
  ·exact E9
  ·exact Fc
 |cond c x y IL IM=>
  intro Q s φ a w h hs
  simp only[gH]at h
  have hc:=kK (M:=M) (φ:=φ) (H:=s.H) (w:=w) s a hs.env c
  split at h
  ·rename_i t hv
   rw[hv]at hc
   simp only[V.den,D.den]at hc
   cases t with
   |true=>exact nS hc (IL Q s φ a w (h.1 rfl) hs)
   |false=>exact nS hc (IM Q s φ a w (h.2 rfl) hs)
  ·rename_i hv
   rw[hv]at hc
   obtain⟨t,hc⟩:=hc
   cases t with
   |true=>exact nS hc (IL Q s φ a w h.1 hs)
   |false=>exact nS hc (IM Q s φ a w h.2 hs)
  ·exact h.elim
 |block id x ih=>
  intro Q s φ a w h hs
  refine DI (e7 (ih _ s φ a w h hs) ?_)
  rintro e a' w' ⟨xx,s',aA,hq,iI,hm⟩
  cases e<;>cases xx<;>first|(exact hm.elim)|skip
  ·exact⟨.normal,s',aA,hq,iI,trivial⟩
  ·subst hm
   simp only[Exit.inBlock]
   simp only[eh]at hq
   split
   ·rename_i he;rw[if_pos he]at hq;exact⟨.normal,s',aA,hq,iI,trivial⟩
   ·rename_i he;rw[if_neg he]at hq;exact⟨.exit _,s',aA,hq,iI,rfl⟩
  ·exact E9
  ·exact Fc
 |loop x ih=>
  intro Q s φ a w h hs
  obtain⟨J,⟨m0,s1,hle,hI⟩,rL⟩:=h
  obtain⟨gy,rK⟩:=AD hb hs hle
  refine vT (fun m a w=>∃s φ,J m s/\bJ M b7 H0 w0 n cx φ s a w) ?_ m0 a w ⟨s1,gy,hI,rK⟩
  rintro m a w ⟨s,φ,hI,hs⟩
  refine e7 (ih _ s φ a w (rL m s hI) hs) ?_
  rintro e a' w' ⟨xx,s',aA,hq,iI,hm⟩
  cases e<;>cases xx<;>first|(exact hm.elim)|skip
  ·obtain⟨m2,s2,bR,NG,hI2⟩:=hq
   obtain⟨DJ,ER⟩:=AD hb iI NG
   exact⟨m2,bR,s2,DJ,hI2,ER⟩
  ·subst hm;exact⟨_,s',aA,hq,iI,rfl⟩
  ·exact E9
  ·exact Fc
def FX(tmps:Array Value)(r:ResultVar):Sem Value:=
 match r with
 | .tmp t=>pure (tmps.getD t undef)
 | .cell p t=>do loadVar t (<- asAddr (tmps.getD p undef))
theorem qR(nT:aq M φ s.H w)(dw:∀i,V.den (ai M φ s.H) φ s.H w (s.env i) (a.tmps.getD i undef)):∀ (rs:List ResultVar) (vs:List V),jU P s rs=some vs->
 ∃vals,(rs.mapM (FX a.tmps)).run P w= .ok vals w/\V.az (ai M φ s.H) φ s.H w vs vals
 |[],vs,h=>by simp[jU]at h;subst h;exact⟨[],aK,rfl⟩
 | .tmp t::rs,vs,h=>by
   simp only[jU,Option.map_eq_some_iff]at h
   obtain⟨us,h1,rfl⟩:=h
   obtain⟨vals,h2,h3⟩:=qR nT dw rs us h1
   exact⟨a.tmps.getD t undef::vals,by simp only[List.mapM_cons,FX,Sem.run_bind,Sem.run_pure,Result.andThen_ok,h2],_,_,rfl,dw t,h3⟩
 | .cell p t::rs,vs,h=>by
   simp only[jU]at h
   split at h
   ·rename_i id off hv
    split at h
    ·rename_i cs ho
     simp only[Option.bind_eq_some_iff,Option.map_eq_some_iff]at h
     obtain⟨v,h0,us,h1,rfl⟩:=h
     obtain⟨vals,h2,h3⟩:=qR nT dw rs us h1
     have hx:=dw p
     rw[hv]at hx
     obtain⟨_,hu,hp⟩:=hx
     obtain⟨k,ef,eP⟩:=hp (by show(s.o id).bM=true;rw[ho];rfl)
     have aQ:=nT.ok id
     have tT:s.H.o id= .row cs:=ho
     simp only[aJ,tT]at aQ
     obtain⟨b',df,ty,g1,g2,g3,g4⟩:=aQ
     rw[ef]at g1;simp at g1;subst g1
     obtain⟨val,h4,h5⟩:=nE (P:=P) h0 ⟨k,0,none⟩ df.toList g3 g4 (fun j u hj=>nF g2 j u kF) rfl
     rw[add_plain,Nat.zero_add]at h4
     have h6:(loadVar t ⟨k,off,none⟩).run P w= .ok val w:=by simpa[Instr.loadAt,Instr.sureAddr]using h4
     exact⟨val::vals,by simp only[List.mapM_cons,FX,eP,asAddr,Sem.run_bind,Sem.run_pure,Result.andThen_ok,h6,h2],val,vals,rfl,h5,h3⟩
    ·cases h
   ·cases h
theorem kT{fn:Func}{tmps:Array Value}{vals:List Value}
 (h:(fn.results.toList.mapM (FX tmps)).run P w= .ok vals w):
 (results fn tmps).run P w= .ok (if h:vals.toArray.size=1 then vals.toArray[0]else .tuple vals.toArray) w:=by
 have e:results fn tmps=(do let vs <- fn.results.mapM (FX tmps);pure (if h:vs.size=1 then vs[0]else .tuple vs)):=by
  unfold results
  congr 2
 rw[e,Array.mapM_eq_mapM_toList]
 simp only[Sem.run_bind,Sem.run_map,h,Result.andThen_ok,Sem.run_pure]
theorem lQ{us:Nat->Prop}(φ:Place)(hM:∀k,M k->k<w.heap.size):aq M φ ⟨fun _=> .no,us⟩ w where
 ok id:=by simp[aJ]
 fresh _ _:=rfl
 apart i j k hi:=by simp[ab.live]at hi
 ours k:=by rintro⟨id,h,_⟩;simp[ab.live]at h
 xg:=hM
theorem DK{vals:Array Value}{m i:Nat}:(vals++Array.replicate m undef).getD i undef=(vals[i]?).getD undef:=by
 simp only[Array.getD_eq_getD_getElem?,Array.getElem?_append]
 split
 ·rfl
 ·rw[Array.getElem?_eq_none (xs:=vals) (by omega)]
  simp only[Array.getElem?_replicate]
  split<;>rfl
structure vU (M:Nat->Prop) (b7:Place) (H0:Hp) (w0:World) (φ:Place) (s:S) (tmps:Array Value) (w:World):Prop where
 heap:aq M φ s.H w
 tr:Trans b7 H0 w0 φ s.H w
 env:∀i,V.den (ai M φ s.H) φ s.H w (s.env i) (tmps.getD i undef)
theorem DL{tmps:Array Value}(hs:vU M b7 H0 w0 φ s tmps w){r:Nat}(h1:w0.heap.size<=r)(h2:w.heap[r]? =some (.deferred (some [])))(h3: ¬cn φ s.H r):
 vU M b7 H0 w0 φ s tmps {w with heap:=w.heap.setIfInBounds r (.deferred none)}:=by
 have kA:∀b,b≠r->(w.heap.setIfInBounds r (.deferred none))[b]? =w.heap[b]? :=fun b hb=>(MapKept.heap_set h2).2 b hb
 have rv:∀b,ct w b-> ¬ai M φ s.H b->(w.heap.setIfInBounds r (.deferred none))[b]? =w.heap[b]? /\ ¬ai M φ s.H b:=by
  intro b hc hn
  refine⟨kA b fun e=> ?_,hn⟩
  subst e
  rcases hc with⟨cs,ty,fz,hc⟩|⟨es,clock,hc⟩
  ·rw[h2]at hc;cases hc
  ·rw[h2]at hc;cases hc
 refine⟨⟨fun id=> ?_,hs.heap.fresh,hs.heap.apart,fun b hb=>⟨(hs.heap.ours b hb).1,by simpa using(hs.heap.ours b hb).2⟩,fun b hb=>by simpa using hs.heap.xg b hb⟩,⟨⟨hs.tr.keep.os,hs.tr.keep.tape,hs.tr.keep.output,by simpa using hs.tr.keep.size,fun j hj hm=> ?_⟩,hs.tr.grow,hs.tr.rel⟩,fun i=>V.jw rv (dg.refl _ _) _ _ (hs.env i)⟩
 ·exact aJ.xJ rv (dg.refl _ _) rfl rfl (fun hl b hb=>kA b fun e=>h3 ⟨id,hl,e ▸ hb⟩) (hs.heap.ok id)
 ·rw[kA j (by omega)];exact hs.tr.keep.block j hj hm
theorem e8{fn:Func}{R:Ending->World->Prop}{u:FrameMode}(hu:u≠ .run){tmps tb:Array Value}{ds:List Deferred}(hR:∀w,vU M b7 H0 w0 φ s tb w->LeavesInM (c8 none) k P fn tmps R ds u w):
 ∀ (ms:List Nat) (w:World),ms.Nodup->(∀r∈ms,w0.heap.size<=r/\w.heap[r]? =some (.deferred (some []))/\ ¬cn φ s.H r)->vU M b7 H0 w0 φ s tb w->LeavesInM (c8 none) k P fn tmps R (ms.map mark++ds) u w
 |[],w,_,_,hs=>hR w hs
 |r::ms,w,hn,hm,hs=>by
  obtain⟨h1,h2,h3⟩:=hm r aK
  obtain⟨Lc,HW⟩:=List.nodup_cons.1 hn
  refine⟨hu, .inl ⟨r,{w with heap:=w.heap.setIfInBounds r (.deferred none)},rfl, ?_,e8 hu hR ms _ HW (fun r' DD=> ?_) (DL hs h1 h2 h3)⟩⟩
  ·simp[Instr.takeDeferred,getObj,setObj,Sem.run,h2,Result.andThen]
  ·obtain⟨g1,g2,g3⟩:=hm r' (by simp[DD])
   exact⟨g1,((MapKept.heap_set h2).2 r' (fun e=>Lc (e ▸ DD))).trans g2,g3⟩
theorem bJ.toB (hs:bJ M b7 H0 w0 n cx φ s a w):vU M b7 H0 w0 φ s a.tmps w:=⟨hs.heap,hs.tr,hs.env⟩
def jW(P:Program)(rs:List ResultVar)(K X:V->(Nat->ab)->Nat->Prop)(e:eT)(s:S):Prop:=
 match e with
 | .normal| .ret=>match jU P s rs with
   |some [v]=>K v s.o s.nx
   |some vs=>K (.bH vs) s.o s.nx
   |none=>False
 | .bu v=>X v s.o s.nx
 | .exit _=>False
theorem yg{P:Program}{rs:List ResultVar}{K X:V->(Nat->ab)->Nat->Prop}{s:S}(h:jW P rs K X .ret s):∃vs,jU P s rs=some vs/\K (match vs with|[v]=>v|vs=> .bH vs) s.o s.nx:=by
 unfold jW at h
 simp only at h
 split at h
 ·rename_i v h1;exact⟨[v],h1,h⟩
 ·rename_i vs h1 h2
  refine⟨vs,h2, ?_⟩
  split
  ·exact absurd rfl (h1 _)
  ·exact h
 ·exact h.elim
theorem yh:∀ {vs:List V} {vals:List Value},V.az (ai M φ H) φ H w vs vals->V.den (ai M φ H) φ H w (match vs with|[v]=>v|vs=> .bH vs) (if h:vals.toArray.size=1 then vals.toArray[0]else .tuple vals.toArray)
 |[],vals,h=>by simp only[V.az]at h;subst h;exact⟨#[],rfl,rfl⟩
 |[v],vals,h=>by obtain⟨u,us,rfl,h1,h2⟩:=h;simp only[V.az]at h2;subst h2;exact h1
 |v::y::l,vals,h=>by
  have h':=h
  obtain⟨u,us,rfl,h1,u2,us2,rfl,h2⟩:=h
  exact⟨(u::u2::us2).toArray,aK,by simpa using h'⟩
theorem xB{vals:Array Value}{m:Nat}{vs:List V}(hd:V.az (ai M φ H) φ H w vs vals.toList)(i:Nat):V.den (ai M φ H) φ H w (cj vs i) ((vals++Array.replicate m undef).getD i undef):=by
 have hlen:=V.ax _ _ hd
 simp only[cj,DK]
 cases hx:vs[i]? with
 |none=>
  have:vals[i]? =none:=by
   rw[List.getElem?_eq_none_iff]at hx
   apply Array.getElem?_eq_none
   simp at hlen;omega
  simp only[List.getD_eq_getElem?_getD,hx,this]
  exact⟨#[],rfl,rfl⟩
 |some v=>
  obtain⟨u,hu,It⟩:=V.cN _ _ _ _ hd hx
  have xr:vals[i]? =some u:=by simpa using hu
  simp only[List.getD_eq_getElem?_getD,hx,xr,Option.getD_some]
  exact It
theorem kU{f:FuncId}{fn:Func}{c:Code}{args:Array Value}{w:World}{R:Ending->World->Prop}(hf:P.funcs[f]? =some fn)(hb:fn.body=some c)
 (h:c.qC P none (bodyPostM (c8 none) k P fn R) {tmps:=args++Array.replicate (fn.ntmps - args.size) undef,defers:=[]} w):CallsIn (c8 none) k P f args w R:=by
 have bR:f<P.funcs.size:=(Array.getElem?_eq_some_iff.1 hf).1
 refine⟨trivial,fun cs hr=> ?_⟩
 let b:Frame:={(default:Frame)with fn:=f,kind:= .normal,roundOf:=none}
 have jV:Frame.enter P f args .normal=b.atR {tmps:=args++Array.replicate (fn.ntmps - args.size) undef,defers:=[]} [.code c]:=by
  simp[Frame.enter,Frame.atR,hf,hb,b]
 obtain⟨e,a',w',hq,cL⟩:=h b [] cs rfl bR
 rw[<- jV]at cL
 cases e with
 |normal=>
  obtain⟨e',Na,Xj,hR,hs,EF,hl⟩:=leaves_stepsInM a'.defers .returning w' {b.atR a' []with mode:= .returning} cs rfl rfl rfl hf rfl (trivial:(c8 none).fn f) hr hq
  exact⟨e',Na,Xj,hR,ComesIn.of_steps (StepsIn.trans cL (.one (fenced_calm (n:=0) (fr:=b.atR a' []) trivial eZ rfl) (stepR_end rfl))) hs,EF,hl⟩
 |ret=>
  obtain⟨todo,Kr⟩:=cL.1 rfl
  obtain⟨e',Na,Xj,hR,hs,EF,hl⟩:=leaves_stepsInM a'.defers .returning w' {b.atR a' todo with mode:= .returning} cs rfl rfl rfl hf rfl (trivial:(c8 none).fn f) hr hq
  exact Kq
 |panic chain=>
  obtain⟨todo,Kr⟩:=cL
  obtain⟨e',Na,Xj,hR,hs,EF,hl⟩:=leaves_stepsInM a'.defers (.panicking chain) w' {b.atR a' todo with mode:= .panicking chain} cs rfl rfl rfl hf rfl (trivial:(c8 none).fn f) hr hq
  exact Kq
 |exit id=>exact hq.elim
 |goto l=>exact hq.elim
 |outgrown=>exact⟨.outgrown,w',b,hq,cL.resolve_left (by simp[b]),rfl,trivial⟩
def AF(P:Program)(l:Nat)(R:Ending->World->Prop):Exit->Act->World->Prop
 | .normal,_,w=>∃v w',(Instr.endRound l none).run P w= .ok v w'/\R (.returned v) w'
 | .ret,_,w=>∃v w',(Instr.endRound l (some .ret)).run P w= .ok v w'/\R (.returned v) w'
 | .exit id,_,w=>∃v w',(Instr.endRound l (some (.exit id))).run P w= .ok v w'/\R (.returned v) w'
 | .goto _,_,_=>False
 | .panic chain,a,w=>a.defers=[]/\R (.panicked chain) w
 | .outgrown,_,_=>False
theorem rM{l:Nat}{f:FuncId}{tmps:Array Value}{assign body:Code}{w:World}{R:Ending->World->Prop}(hf:f<P.funcs.size)
 (h:assign.qC P (some l) (Exit.then (fun l0 gZ=>∃pn,(Instr.beginRound l).run P gZ= .ok () pn/\body.qC P (some l) (AF P l R) l0 pn) (fun e a w=>match e with| .panic chain=>a.defers=[]/\R (.panicked chain) w|_=>False))
  {tmps:=tmps,defers:=[]} w):
 RoundIn Fence.wide n P l f tmps assign body w R:=by
 refine⟨trivial,fun c cs hr=> ?_⟩
 let b:Frame:={(default:Frame)with fn:=f,kind:= .normal,roundOf:=some l}
 have TH:Frame.round l f tmps assign body .normal=b.atR {tmps:=tmps,defers:=[]} [.code assign, .beginRound, .code body]:=by
  simp[Frame.round,Frame.atR,b]
 have calm:∀ (m:Machine),m.fenced P Fence.wide:=fun m=>fenced_wide P m
 have bu:∀ {a:Act} {w:World} {todo:List Item} {chain:List PanicEntry},a.defers=[]->step P (lone {b.atR a todo with mode:= .panicking chain} (c::cs) w)= .next (lone (c.raise chain) cs w):=by
  intro a w todo chain hd
  exact step_leave_panicked (fr:={b.atR a todo with mode:= .panicking chain}) ⟨rfl,hd,P.funcs[f],by show P.funcs[f]? =_;simp[hf]⟩
 obtain⟨e,l0,gZ,hq,cL⟩:=h b [.beginRound, .code body] (c::cs) rfl hf
 rw[<- TH]at cL
 cases e with
 |normal=>
  obtain⟨pn,hbr,nU⟩:=hq
  have s1:StepsIn (Machine.fenced P Fence.wide) P (lone (b.atR l0 [.beginRound, .code body]) (c::cs) gZ) (lone (b.atR l0 [.code body]) (c::cs) pn):= .one (calm _) (stepR_beginRound rfl hbr)
  obtain⟨NC,TF,AA,nR,iT⟩:=nU b [] (c::cs) rfl hf
  have cL:StepsIn (Machine.fenced P Fence.wide) P _ _:=cL
  cases NC with
  |normal=>
   obtain⟨v,qD,dC,hR⟩:=nR
   have iT:StepsIn (Machine.fenced P Fence.wide) P _ _:=iT
   exact⟨.returned v,qD,hR,(StepsIn.trans cL s1).trans (StepsIn.trans iT (.one (calm _) (stepR_round_end rfl rfl dC)))⟩
  |ret=>
   obtain⟨v,qD,dC,hR⟩:=nR
   obtain⟨k₁,hs⟩:=iT.2 rfl
   have hs:StepsIn (Machine.fenced P Fence.wide) P _ _:=hs
   exact⟨.returned v,qD,hR,(StepsIn.trans cL s1).trans (StepsIn.trans hs (.one (calm _) (stepR_round_ret rfl rfl dC)))⟩
  |exit id=>
   obtain⟨v,qD,dC,hR⟩:=nR
   obtain⟨k₁,hk,hs⟩:=iT.2 rfl rfl
   have hs:StepsIn (Machine.fenced P Fence.wide) P _ _:=hs
   exact⟨.returned v,qD,hR,(StepsIn.trans cL s1).trans (StepsIn.trans hs (.one (calm _) (stepR_round_exit rfl rfl hk dC)))⟩
  |goto t=>exact nR.elim
  |panic chain=>
   obtain⟨todo,hs⟩:=iT
   have hs:StepsIn (Machine.fenced P Fence.wide) P _ _:=hs
   exact⟨.panicked chain,AA,nR.2,(StepsIn.trans cL s1).trans (StepsIn.trans hs (.one (calm _) (bu nR.1)))⟩
  |outgrown=>exact nR.elim
 |exit id=>exact hq.elim
 |goto t=>exact hq.elim
 |ret=>exact hq.elim
 |panic chain=>
  obtain⟨todo,hs⟩:=cL
  have hs:StepsIn (Machine.fenced P Fence.wide) P _ _:=hs
  exact⟨.panicked chain,gZ,hq.2,StepsIn.trans hs (.one (calm _) (bu hq.1))⟩
 |outgrown=>exact hq.elim
theorem dA.Cg {f:FuncId}{fn:Func}{c:Code}{args:List V}{o:Nat->ab}{nx:Nat}{K X:V->(Nat->ab)->Nat->Prop}(hf:P.funcs[f]? =some fn)(hn:(fn.name== "runtime.NumGoroutine")=false)(nU:fn.body=some c)(hl:args.length<=fn.ntmps)
 (h:gH P fn.ntmps nx false c (jW P fn.results.toList K X) ⟨cj args,o,nx⟩):dA P f args o nx K X:=by
 refine⟨⟨fn,hf,hn,by rw[nU];rfl⟩,fun M φ w vals hH hd=> ?_⟩
 have hlen:=V.ax _ _ hd
 let s0:S:=⟨cj args,o,nx⟩
 let a0:Act:={tmps:=vals++Array.replicate (fn.ntmps - vals.size) undef,defers:=[]}
 have mR:bJ M φ (hp o nx) w fn.ntmps ⟨[],false⟩ φ s0 a0 w:=by
  exact S1
 refine x7 (ro:=none) (k:=0) (kU hf nU (e7 (fA (P:=P) (H0:=hp o nx) (b:=nx) (cx:=⟨[],false⟩) (ro:=none) (fun id hu=>hu) (fun _=>rfl) c _ s0 φ a0 w h mR) ?_))
 rintro e a w' ⟨x,s,aA,hq,hs,hm⟩
 obtain⟨ms,g1,g2,g3,g4⟩:=hs.defers
 rw[List.append_nil]at g1
 have done:(x= .normal\/x= .ret)->LeavesInM (c8 none) 0 P fn a.tmps (kP M φ (hp o nx) w K X) a.defers .returning w':=by
  intro hx
  have hq':jW P fn.results.toList K X .ret s:=by rcases hx with rfl|rfl<;>exact hq
  obtain⟨vs,h1,h2⟩:=yg hq'
  rw[g1]
  have:=e8 (P:=P) (k:=0) (fn:=fn) (R:=kP M φ (hp o nx) w K X) (u:= .returning) aK (ds:=[]) (fun w2 hb=>by
   obtain⟨vals,h3,h4⟩:=qR (P:=P) (a:=a) hb.heap hb.env _ _ h1
   exact⟨_,kT h3,aA,s.o,s.nx,_,hb.heap,hb.tr,yh h4,h2⟩) ms w' g2 g4 hs.toB
  rwa [List.append_nil]at this
 cases e<;>cases x<;>first|(exact hm.elim)|skip
 ·exact done (.inl rfl)
 ·exact hq.elim
 ·exact done (.inr rfl)
 ·rename_i v
  obtain⟨val,rfl,IP⟩:=hm
  show LeavesInM (c8 none) 0 P fn a.tmps (kP M φ (hp o nx) w K X) a.defers _ w'
  rw[g1]
  have TH:vU M φ (hp o nx) w aA ⟨fun i=>if i=0 then v else .aa,s.o,s.nx⟩ #[val] w':=⟨hs.heap,hs.tr,fun i=>by
   by_cases hi:i=0
   ·subst hi;exact IP
   ·simp only[hi,if_false];trivial⟩
  have:=e8 (P:=P) (k:=0) (fn:=fn) (s:=⟨fun i=>if i=0 then v else .aa,s.o,s.nx⟩) (tmps:=a.tmps) (tb:=#[val]) (b7:=φ) (H0:=hp o nx) (w0:=w) (R:=kP M φ (hp o nx) w K X) (u:= .panicking [{v:=val,recovered:=false}]) aK (ds:=[]) (fun w2 hb=>by
   have h0:=hb.env 0
   exact⟨aA,s.o,s.nx,v,hb.heap,hb.tr,val,rfl,h0,hq⟩) ms w' g2 g4 TH
  rwa [List.append_nil]at this
theorem aX.mS {f:FuncId}{ds:List D}{out:R}(h:dA P f (ds.map .d) (fun _=> .no) 0 (fun v o _=>∃vs rs,v=(match vs with|[v]=>v|vs=> .bH vs)/\bI o vs=some rs/\out= .ret rs) (fun v o _=>∃x,dv o v=some x/\out= .bu x)):aX P f ds out:=by
 refine⟨h.1,fun M w vals hM hd=> ?_⟩
 let b7:Place:=fun _=> .nilFunc
 have vV:∀b, ¬cn b7 (hp (fun _=> .no) 0) b:=by rintro b ⟨id,hl,_⟩;simp[hp,ab.live]at hl
 refine(h.2 M b7 w vals (lQ b7 hM) ((V.bW _ _).2 (D.aO (w:=w) (w':=w) (B:=M) (fun b _ hB=>⟨rfl,fun h=>h.elim hB (vV b)⟩) _ _ hd))).mono ?_
 rintro e w' ⟨aA,o',nx',v,k1,k2,k3⟩
 have TI:dD (fun _=>False) w w':=⟨k2.keep.os,k2.keep.tape,k2.keep.output,k2.keep.size,fun k hk _=>k2.keep.block k hk (vV k)⟩
 have fin:∀ (vs:List V) (xs:List D) (vals:List Value),bI o' vs=some xs->V.az (ai M aA (hp o' nx')) aA (hp o' nx') w' vs vals->D.az M w' xs vals:=by
  intro vs xs vals h1 h2
  obtain⟨f1,f2,f3,f4,f5⟩:=cG k1 (V.aZ vs) (cw vs _ h2)
  have h3:=cQ f1 vs xs vals f3 h1 (V.aO f2 _ _ h2)
  exact D.aO (w:=w') (w':=w') (fun k _ hB=>⟨rfl,fun hM=>hB (.inl hM)⟩) xs vals h3
 refine⟨TI, ?_⟩
 cases e with
 |outgrown=>exact k3.elim
 |panicked ch=>
  obtain⟨val,rfl,g1,x,g2,rfl⟩:=k3
  have:=fin [v] [x] [val] (by simp[bI,g2]) ⟨val,[],rfl,g1,rfl⟩
  obtain⟨u,us,he,h2,_⟩:=this
  simp at he;obtain⟨rfl,rfl⟩:=he
  exact⟨val,rfl,h2⟩
 |returned val=>
  obtain⟨g1,vs,rs,rfl,g2,rfl⟩:=k3
  match vs,g1,g2 with
  |[],g1,g2=>
   obtain⟨arr,rfl,hv⟩:=g1
   simp only[bI,Option.some.injEq]at g2;subst g2
   exact⟨arr,rfl,hv⟩
  |[v],g1,g2=>
   have:=fin [v] rs [val] g2 ⟨val,[],rfl,g1,rfl⟩
   cases rs with
   |nil=>cases this
   |cons x l=>
    obtain⟨u,us,he,h2,h3⟩:=this
    simp at he;obtain⟨rfl,rfl⟩:=he
    cases l with
    |nil=>exact h2
    |cons y l=>obtain⟨_,_,h,_⟩:=h3;cases h
  |v::v2::l,g1,g2=>
   obtain⟨arr,rfl,h⟩:=g1
   have:=fin (v::v2::l) rs arr.toList g2 h
   have hl:=D.ax _ _ this
   have hl2:=V.ax _ _ h
   match rs,hl,this with
   |[],hl,_=>exact BO
   |[x],hl,_=>exact BO
   |x::y::l,_,this=>exact⟨arr,rfl,this⟩
theorem DM{rs:List ResultVar}{out:R}(e:eT)(s:S)(h:vQ P rs out e s):
 jW P rs (fun v o _=>∃vs rs,v=(match vs with|[v]=>v|vs=> .bH vs)/\bI o vs=some rs/\out= .ret rs) (fun v o _=>∃x,dv o v=some x/\out= .bu x) e s:=by
 have ret:vQ P rs out .ret s->jW P rs (fun v o _=>∃vs rs,v=(match vs with|[v]=>v|vs=> .bH vs)/\bI o vs=some rs/\out= .ret rs) (fun v o _=>∃x,dv o v=some x/\out= .bu x) .ret s:=by
  intro h
  obtain⟨vs,xs,h1,h2,h3⟩:=FP h
  simp only[jW,h1]
  match vs,h2 with
  |[],h2=>exact⟨[],xs,rfl,h2,h3⟩
  |[v],h2=>exact⟨[v],xs,rfl,h2,h3⟩
  |v::v2::l,h2=>exact⟨v::v2::l,xs,rfl,h2,h3⟩
 cases e with
 |normal=>exact ret h
 |ret=>exact ret h
 |exit id=>exact h.elim
 |bu v=>exact FQ h
end
end
section
def FY{α:Type}(c:Bool)(x:α):Option α:=if c=true then some x else none
def one(v:V):Option eD:=some (v,[],[])
def yi(op:BinOp)(k:IntKind)(a b:Int):Option V:=
 match op with
 | .add=>some (.d (.int k (k.wrap (a+b))))
 | .sub=>some (.d (.int k (k.wrap (a - b))))
 | .mul=>some (.d (.int k (k.wrap (a*b))))
 | .quo=>if b=0 then none else some (.d (.int k (k.wrap (a.tdiv b))))
 | .rem=>if b=0 then none else some (.d (.int k (a.tmod b)))
 | .and=>(rn .and k a b).map fun r=> .d (.int k r)
 | .or=>(rn .or k a b).map fun r=> .d (.int k r)
 | .xor=>(rn .xor k a b).map fun r=> .d (.int k r)
 | .andNot=>(rn .andNot k a b).map fun r=> .d (.int k r)
 | .eql=>some (.d (.bool (a==b)))| .neq=>some (.d (.bool (a !=b)))| .lss=>some (.d (.bool (decide (a<b))))| .leq=>some (.d (.bool (decide (a<=b))))
 | .gtr=>some (.d (.bool (decide (b<a))))| .geq=>some (.d (.bool (decide (b<=a))))
 |_=>none
def lR(P:Program)(t:TypeId):Bool:=
 match P.underlying t with
 |some .bool=>true
 |_=>false
def vW(P:Program)(op:BinOp)(t:TypeId)(x y:V):Option V:=
 match x,y with
 | .d (.int k a), .d (.int k' b)=>if k=k' then yi op k a b else none
 | .d (.bool a), .d (.bool b)=>match op with
   | .eql=>FY (lR P t) (.d (.bool (a==b)))
   | .neq=>FY (lR P t) (.d (.bool (a !=b)))
   |_=>none
 | .d (.str a), .d (.str b)=>match op with
   | .eql=>some (.d (.bool (a==b)))
   | .neq=>some (.d (.bool (a !=b)))
   |_=>none
 |_,_=>none
def Y7(op:UnOp)(x:V):Option V:=
 match op,x with
 | .neg, .d (.int k n)=>some (.d (.int k (k.wrap (-n))))
 | .not, .d (.bool b)=>some (.d (.bool !b))
 |_,_=>none
def nV(c a b:V):Option V:=
 match c with
 | .d (.bool true)=>some a
 | .d (.bool false)=>some b
 |_=>none
def nW(o:Nat->ab)(x:V):Option (List D×List Nat):=
 match x with
 | .d (.sl es)=>some (es,[])
 | .aE=>some ([],[])
 | .oO es=>some (es,[])
 | .osl id ep=>match o id with
   | .arr fU _ _ es=>if ep=fU then some (es,[id])else none
   | .qN fU es=>if ep=fU then some (es,[id])else none
   |_=>none
 |_=>none
def AG(P:Program)(t:TypeId)(o:Nat->ab)(x:V):Option eD:=
 match P.underlying t with
 |some (.slice _)=>match nW o x with
  |some (es,rd)=>some (.d (.int .i64 es.length),[],rd)
  |none=>none
 |some .string=>match x with
  | .d (.str s)=>one (.d (.int .i64 s.length))
  |_=>none
 |some (.array n _)=>one (.d (.int .i64 n))
 |_=>none
def uF(P:Program)(e:TypeId)(es:List D)(i:Int)(rd:List Nat):Option eD:=
 if 0<=i then match es[i.toNat]? with
  |some y=>FY (y.cells.length==P.cellsOf e&&0<P.cellsOf e) (.pp y.cells 0,[],rd)
  |none=>none
 else none
def mC(o:Nat->ab)(x:V)(q:Nat):Option V:=
 match x with
 | .ptr id off=>FY (o id).bM (.ptr id (off+q))
 | .pp cs off=>some (.pp cs (off+q))
 | .pe id ep j sz off=>if(o id).bQ=some ep then some (.pe id ep j sz (off+q))else none
 |_=>none
def fC(P:Program)(o:Nat->ab)(t:TypeId)(x ix:V):Option eD:=
 match ix with
 | .d (.int _ i)=>match bN P t with
   |some e=>match x with
    | .d (.sl es)=>uF P e es i []
    | .oO es=>uF P e es i []
    | .osl id ep=>match o id with
      | .arr fU _ sz es=>if ep=fU/\0<=i/\i.toNat<es.length/\sz=P.cellsOf e/\0<P.cellsOf e then some (.pe id ep i.toNat sz 0,[],[id])else none
      | .qN fU es=>if ep=fU then uF P e es i [id]else none
      |_=>none
    |_=>none
   |none=>match xD P t with
    |some (n,e)=>if 0<=i/\i<n/\(P.info? e).isSome=true then(mC o x (i.toNat*P.cellsOf e)).bind one else none
    |none=>none
 |_=>none
def fD(P:Program)(o:Nat->ab)(t:TypeId)(x:V)(f:Nat):Option V:=
 match bV P t f with
 |some q=>mC o x q
 |none=>none
def kV(P:Program)(o:Nat->ab)(t:TypeId)(x:V):Option eD:=
 match x with
 | .ptr id off=>match o id with
   | .row cs=>match dM P t cs off with
     |some v=>some (v,[],[id])
     |none=>none
   |_=>none
 | .pp cs off=>match dM P t (cs.map .d) off with
   |some v=>some (v,[],[])
   |none=>none
 | .pe id ep i sz off=>match o id with
   | .arr fU _ oP es=>if ep=fU/\sz=oP then match es[i]? with
    |some e=>match dM P t (e.cells.map .d) off with
     |some v=>some (v,[],[id])
     |none=>none
    |none=>none
     else none
   |_=>none
 |_=>none
def pt(P:Program)(o:Nat->ab)(t:TypeId)(x v:V):Option eD:=
 match x with
 | .ptr id off=>match o id with
   | .row cs=>match vA P t cs off v with
     |some cs'=>some (.bH [],[(id, .row cs')],[id])
     |none=>none
   |_=>none
 | .pe id ep i oP off=>match o id with
   | .arr fU ty sz es=>if ep=fU/\oP=sz then match es[i]?,dv o v with
    |some e,some y=>if y.cells.length=P.cellsOf t/\0<y.cells.length/\v.ids.all (· !=id)=true then match e.put off y.cells with
     |some e'=>some (.bH [],bP o v.ids++[(id, .arr ep ty sz (es.set i e'))],id::v.ids)
     |none=>none
     else none
    |_,_=>none
     else none
   |_=>none
 |_=>none
def eL(P:Program)(o:Nat->ab)(fr:Nat)(t:TypeId)(len:Nat)(parts:List (Nat×V)):Option eD:=
 match bN P t with
 |some e=>if len=0/\parts.isEmpty=true/\0<P.cellsOf e then some (.osl fr 0,[(fr, .arr 0 e (P.cellsOf e) [])],[])else if parts.map (·.1)=List.range len/\(cJ P e).isSome=true/\0<len/\0<P.cellsOf e/\len*P.cellsOf e<=2^24 then match bI o (parts.map (·.2))with
  |some ds=>if ds.all (fun x=>x.cells.length==P.cellsOf e)=true then some (.osl fr 0,bP o (V.aZ (parts.map (·.2)))++[(fr, .arr 0 e (P.cellsOf e) ds)],V.aZ (parts.map (·.2)))else none
  |none=>none
  else none
 |none=>none
def jX(P:Program)(fr:Nat)(t:TypeId)(l c:V):Option eD:=
 match bN P t with
 |some e=>match l,c with
  | .d (.int _ n), .d (.int _ m)=>if n=m/\0<=n/\0<P.cellsOf e/\P.bytesOf e*n.toNat<=2^47/\n.toNat<=2^47 then match xG P e with
   |some x=>some (.osl fr 0,[(fr, .arr 0 e (P.cellsOf e) (List.replicate n.toNat x))],[])
   |none=>none
    else none
  |_,_=>none
 |none=>none
def nX(P:Program)(o:Nat->ab)(fr:Nat)(ts:Array TypeId)(x y:V):Option eD:=
 match ts.toList with
 |[t,t']=>if t=t' then match bN P t,nW o y with
    |some e,some (new,rd)=>if 0<P.cellsOf e/\(cJ P e).isSome=true/\new.all (fun z=>z.cells.length==P.cellsOf e)=true then match x with
     | .aE=>if new.length<=2^47/\new.length*P.bytesOf e<=2^47 then some (.osl fr 0,[(fr, .arr 0 e (P.cellsOf e) new)],rd)else none
     | .oO es=>if es.all (fun z=>z.cells.length==P.cellsOf e)=true then(if new=[]then some (.oO es,[],rd)else if es.length+new.length<=2^40/\(es.length+new.length)*P.bytesOf e<=2^40 then some (.osl fr 0,[(fr, .arr 0 e (P.cellsOf e) (es++new))],rd)else none)else none
     | .osl id ep=>match o id with
       | .arr fU ty sz es=>if ep=fU/\ty=e/\sz=P.cellsOf e/\es.length+new.length<=2^47/\(es.length+new.length)*P.bytesOf e<=2^47 then
        some (.osl id (ep+1),[(id, .arr (ep+1) ty sz (es++new))],id::rd)else none
       |_=>none
     |_=>none
     else none
    |_,_=>none
  else none
 |_=>none
def nY(isMax:Bool)(x y:V):Option V:=
 match x,y with
 | .d (.int k a), .d (.int k' b)=>if k=k' then some (.d (.int k (if isMax then(if b>a then b else a)else(if b<a then b else a))))else none
 |_,_=>none
def jY(x:Option V):Option eD:=match x with|some v=>one v|none=>none
def nZ(P:Program)(s:S)(fr:Nat)(b:Builtin)(args:List Operand)(ts:Array TypeId):Option eD:=
 match b,args with
 | .len,[x]=>match ts.toList with
   |[t]=>AG P t s.o (s.ev x)
   |_=>none
 | .append,[x,y]=>match ug P fr ts (s.ev x) (s.ev y)with
   |some r=>some r
   |none=>nX P s.o fr ts (s.ev x) (s.ev y)
 | .max,[x,y]=>jY (nY true (s.ev x) (s.ev y))
 | .min,[x,y]=>jY (nY false (s.ev x) (s.ev y))
 | .max,[x,y,z]=>jY (Fq (s.ev x) (s.ev y) (s.ev z))
 | .copy,[x,y]=>uf P s.o ts (s.ev x) (s.ev y)
 | .delete,[x,y]=>match ts.toList.head? with
   |some t=>lN P s.o t (s.ev x) (s.ev y)
   |none=>none
 | .cap,[x]=>Ip P ts (s.ev x)
 |_,_=>none
def vX(P:Program)(t:TypeId)(parts:List (Nat×V)):Option V:=
 match cJ P t,dh P t with
 |some z,some pl=>match pT pl z parts with
  |some cs=>some (mo cs)
  |none=>none
 |_,_=>none
def gS(o:Nat->ab)(x:V):Option V:=
 match x with
 | .ptr id off=>FY (o id).bM (.ptr id off)
 | .pp cs off=>some (.pp cs off)
 | .func (.func f) first cap=>some (.func (.func f) first cap)
 |_=>none
def rN(P:Program)(t:TypeId):Bool:=
 match P.underlying t with
 |some (.interface _)=>false
 |some _=>true
 |none=>false
def FZ(P:Program)(t:TypeId)(x:V):Option V:=
 FY (rN P t) (match x with
  | .d y=> .d (.iface t y)
  |v=> .iface t v)
def ed(P:Program)(o:Nat->ab)(op:BinOp)(t:TypeId)(l7:Bool)(x y:V):Option eD:=
 match vW P op t x y with
 |some v=>one v
 |none=>o9 P o op t l7 x y
def Dg(op:UnOp)(x:V):Option V:=
 match op,x with
 | .not, .eg=>some .eg
 |op,x=>Y7 op x
def eR(P:Program)(s:S)(fr:Nat)(op:Op):Option eD:=
 match op with
 | .move x=>one (s.ev x)
 | .assign x=>one (s.ev x)
 | .pick c a b=>jY (nV (s.ev c) (s.ev a) (s.ev b))
 | .alloc t=>match cJ P t with
   |some cs=>some (.ptr fr 0,[(fr, .row cs)],[])
   |none=>none
 | .box _ x=>match(s.ev x).cells with
   |some cs=>some (.ptr fr 0,[(fr, .row cs)],[])
   |none=>none
 | .build t parts=>jY (vX P t (parts.toList.map fun p=>(p.1,s.ev p.2)))
 | .buildSlice t len parts=>eL P s.o fr t len (parts.toList.map fun p=>(p.1,s.ev p.2))
 | .load t x=>kV P s.o t (s.ev x)
 | .store t x v=>pt P s.o t (s.ev x) (s.ev v)
 | .nilCheck x=>jY (gS s.o (s.ev x))
 | .binOp op t x y _=>ed P s.o op t (isConst x||isConst y) (s.ev x) (s.ev y)
 | .unOp op _ x=>jY (Dg op (s.ev x))
 | .convert u t x=>match P.underlying u,oZ P t,s.ev x with
   |some _,some k, .d (.int _ n)=>one (.d (.int k (k.wrap n)))
   |_,_,_=>none
 | .makeInterface t x=>jY (FZ P t (s.ev x))
 | .makeFunc fn first cap=>one (.func fn (first.toList.map s.ev) (cap.toList.map s.ev))
 | .makeSlice t l c=>jX P fr t (s.ev l) (s.ev c)
 | .fieldAddr t x f=>jY (fD P s.o t (s.ev x) f)
 | .indexAddr t x i=>fC P s.o t (s.ev x) (s.ev i)
 | .extract x i=>match s.ev x with
   | .bH vs=>match vs[i]? with
     |some v=>one v
     |none=>none
   |_=>none
 | .call c=>match c.callee with
   | .builtin b=>nZ P s fr b c.args.toList c.argTypes
   |_=>none
 | .slice t x lo hi mx=>o6 P s.o t (s.ev x) (lo.map s.ev) (hi.map s.ev) (mx.map s.ev)
 | .field t x f=>jY (rq P t (s.ev x) f)
 | .index t x i=>jY (rr P t (s.ev x) (s.ev i))
 | .typeAssert x _ t ok=>jY (nA P t ok (s.ev x))
 | .makeMap t none=>kH P fr t
 | .lookup t m k ok=>gK P s.o t (s.ev m) (s.ev k) ok
 | .mapUpdate t m k v=>ew P s.o t (s.ev m) (s.ev k) (s.ev v)
 | .insert t m k v=>ew P s.o t (s.ev m) (s.ev k) (s.ev v)
 | .range t x=>kI P s.o fr t (s.ev x)
 | .next x str=>mw s.o (s.ev x) str
 | .entry x=>kJ s.o (s.ev x)
 |_=>none
section
variable {P:Program}{s:S}{fr:Nat}{v:V}{Δ:List (Nat×ab)}{rd:List Nat}{o:Nat->ab}{K:V->List (Nat×ab)->List Nat->Prop}
theorem pv{α:Type}{c:Bool}{x y:α}(h:FY c x=some y):c=true/\x=y:=by
 unfold FY at h;split at h
 ·injection h with h;exact⟨by assumption,h⟩
 ·cases h
theorem ji{x:V}{r:eD}(h:one x=some r):r=(x,[],[]):=by unfold one at h;injection h with h;exact h.symm
theorem gJ{x:Option V}{r:eD}(h:jY x=some r):∃v,x=some v/\r=(v,[],[]):=by
 unfold jY at h;split at h
 ·exact⟨_,rfl,ji h⟩
 ·cases h
theorem AH{x:V}{es:List D}{rd:List Nat}(h:nW o x=some (es,rd)):dN o x=some es/\rd=x.ids:=by
 unfold nW at h
 split at h
 ·exact M6
 ·exact M6
 ·exact M6
 ·split at h
  ·rename_i ho
   split at h
   ·rename_i e;simp at h;obtain⟨rfl,rfl⟩:=h;exact⟨by simp[dN,dv,ho,e],rfl⟩
   ·cases h
  ·rename_i ho
   split at h
   ·rename_i e;simp at h;obtain⟨rfl,rfl⟩:=h;exact⟨by simp[dN,dv,ho,e],rfl⟩
   ·cases h
  ·cases h
 ·cases h
theorem DN{op:BinOp}{k:IntKind}{a b:Int}{v:V}(h:yi op k a b=some v){K:V->Prop}(hK:K v):Im op k a b K:=by
 cases op<;>simp only[yi]at h<;>simp only[Im]
 case quo=>split at h
           ·cases h
           ·exact M5
 case rem=>split at h
           ·cases h
           ·exact M5
 case and=>simp only[Option.map_eq_some_iff]at h;obtain⟨r,h1,rfl⟩:=h;exact⟨r,h1,hK⟩
 case or=>simp only[Option.map_eq_some_iff]at h;obtain⟨r,h1,rfl⟩:=h;exact⟨r,h1,hK⟩
 case xor=>simp only[Option.map_eq_some_iff]at h;obtain⟨r,h1,rfl⟩:=h;exact⟨r,h1,hK⟩
 case andNot=>simp only[Option.map_eq_some_iff]at h;obtain⟨r,h1,rfl⟩:=h;exact⟨r,h1,hK⟩
 case shl=>cases h
 case shr=>cases h
 case eql=>injection h with h;subst h;exact⟨_,rfl,hK⟩
 case neq=>injection h with h;subst h;exact⟨_,rfl,hK⟩
 case lss=>injection h with h;subst h;exact⟨_,rfl,hK⟩
 case leq=>injection h with h;subst h;exact⟨_,rfl,hK⟩
 case gtr=>injection h with h;subst h;exact⟨_,rfl,hK⟩
 case geq=>injection h with h;subst h;exact⟨_,rfl,hK⟩
 all_goals (injection h with h;subst h;exact hK)
theorem DO{op:BinOp}{t:TypeId}{x y v:V}(h:vW P op t x y=some v){K:V->Prop}(hK:K v):Fm P op t x y K:=by
 unfold vW at h
 unfold Fm
 split at h
 ·split at h
  ·exact⟨by assumption,DN h hK⟩
  ·cases h
 ·have hb:lR P t=true->P.underlying t=some .bool:=by
   unfold lR;intro h;split at h
   ·assumption
   ·cases h
  split at h
  ·obtain⟨h1,rfl⟩:=pv h;exact⟨hb h1,hK⟩
  ·obtain⟨h1,rfl⟩:=pv h;exact⟨hb h1,hK⟩
  ·cases h
 ·split at h
  ·exact E4
  ·exact E4
  ·cases h
 ·cases h
theorem AJ{c a b v:V}(h:nV c a b=some v){K:V->Prop}(hK:K v):xE c a b K:=by
 unfold nV at h
 unfold xE
 split at h
 ·injection h with h;subst h;exact⟨fun _=>hK,(fun h=>by cases h)⟩
 ·injection h with h;subst h;exact⟨(fun h=>by cases h),fun _=>hK⟩
 ·cases h
theorem rO{x y:V}{q:Nat}(h:mC o x q=some y):(∃id off,x= .ptr id off/\(o id).bM=true/\y= .ptr id (off+q))\/(∃cs off,x= .pp cs off/\y= .pp cs (off+q))\/
 (∃id ep j sz off,x= .pe id ep j sz off/\(o id).bQ=some ep/\y= .pe id ep j sz (off+q)):=by
 unfold mC at h
 split at h
 ·obtain⟨h1,rfl⟩:=pv h;exact .inl ⟨_,_,rfl,h1,rfl⟩
 ·injection h with h;exact .inr (.inl ⟨_,_,rfl,h.symm⟩)
 ·split at h
  ·injection h with h;exact .inr (.inr ⟨_,_,_,_,_,rfl,by assumption,h.symm⟩)
  ·cases h
 ·cases h
theorem rk{e:TypeId}{es:List D}{i:Int}{rd:List Nat}{r:eD}(h:uF P e es i rd=some r):
 0<=i/\∃y,es[i.toNat]? =some y/\y.cells.length=P.cellsOf e/\0<P.cellsOf e/\r=(.pp y.cells 0,[],rd):=by
 unfold uF at h
 split at h
 ·rename_i h0
  split at h
  ·rename_i y hy
   obtain⟨h1,rfl⟩:=pv h
   simp only[Bool.and_eq_true,beq_iff_eq,decide_eq_true_eq]at h1
   exact⟨h0,y,hy,h1.1,h1.2,rfl⟩
  ·cases h
 ·cases h
theorem qE{t:TypeId}{x ix:V}(h:fC P o t x ix=some (v,Δ,rd))(hK:K v Δ rd):hY P o t x ix fun v rd=>K v [] rd:=by
 unfold fC at h
 unfold hY
 split at h
 ·simp only
  split at h
  ·rename_i e ht
   simp only[ht]
   split at h
   ·exact SR
   ·exact SR
   ·split at h
    ·rename_i ho
     split at h
     ·rename_i hc
      simp only[Option.some.injEq,Prod.mk.injEq]at h;obtain⟨rfl,rfl,rfl⟩:=h
      simp only[ho]
      exact⟨hc.1,hc.2.1,hc.2.2.1,hc.2.2.2.1,hc.2.2.2.2,hK⟩
     ·cases h
    ·rename_i ho
     split at h
     ·rename_i hc
      obtain⟨h0,y,h1,h2,h3,h4⟩:=rk h
      simp only[Prod.mk.injEq]at h4;obtain⟨rfl,rfl,rfl⟩:=h4
      simp only[ho]
      exact⟨hc,h0,y,h1,h2,h3,hK⟩
     ·cases h
    ·cases h
   ·cases h
  ·rename_i ht
   simp only[ht]
   split at h
   ·rename_i n e ha
    simp only[ha]
    split at h
    ·rename_i hc
     simp only[Option.bind_eq_some_iff]at h
     obtain⟨y,hy,h1⟩:=h
     have h1:=ji h1
     simp only[Prod.mk.injEq]at h1;obtain⟨rfl,rfl,rfl⟩:=h1
     refine⟨hc.1,hc.2.1,hc.2.2, ?_⟩
     rcases rO hy with⟨_,_,rfl,h2,rfl⟩|⟨_,_,rfl,rfl⟩|⟨_,_,_,_,_,rfl,h2,rfl⟩
     ·exact⟨h2,hK⟩
     ·exact hK
     ·exact⟨h2,hK⟩
    ·cases h
   ·cases h
 ·cases h
theorem qF{t:TypeId}{x y:V}{f:Nat}(h:fD P o t x f=some y){K:V->Prop}(hK:K y):hZ P o t x f K:=by
 unfold fD at h
 unfold hZ
 split at h
 ·rename_i q hq
  simp only[hq]
  rcases rO h with⟨_,_,rfl,h2,rfl⟩|⟨_,_,rfl,rfl⟩|⟨_,_,_,_,_,rfl,h2,rfl⟩
  ·exact⟨h2,hK⟩
  ·exact hK
  ·exact⟨h2,hK⟩
 ·cases h
theorem DP{t:TypeId}{x:V}(h:AG P t o x=some (v,Δ,rd))(hK:K v Δ rd):Fo P t o x fun v rd=>K v [] rd:=by
 unfold AG at h
 unfold Fo
 split at h
 ·rename_i e hu
  simp only[hu]
  split at h
  ·rename_i es qM hl
   simp only[Option.some.injEq,Prod.mk.injEq]at h;obtain⟨rfl,rfl,rfl⟩:=h
   unfold nW at hl
   split at hl
   ·exact M8
   ·exact M8
   ·exact M8
   ·split at hl
    ·rename_i ho
     split at hl
     ·rename_i hc;simp at hl;obtain⟨rfl,rfl⟩:=hl;simp only[ho];exact⟨hc,hK⟩
     ·cases hl
    ·rename_i ho
     split at hl
     ·rename_i hc;simp at hl;obtain⟨rfl,rfl⟩:=hl;simp only[ho];exact⟨hc,hK⟩
     ·cases hl
    ·cases hl
   ·cases hl
  ·cases h
 ·rename_i hu
  simp only[hu]
  split at h
  ·have h1:=ji h;simp only[Prod.mk.injEq]at h1;obtain⟨rfl,rfl,rfl⟩:=h1;exact hK
  ·cases h
 ·rename_i hu
  simp only[hu]
  have h1:=ji h;simp only[Prod.mk.injEq]at h1;obtain⟨rfl,rfl,rfl⟩:=h1;exact hK
 ·cases h
theorem AK{t:TypeId}{x:V}(h:kV P o t x=some (v,Δ,rd))(hK:K v Δ rd):xF P o t x fun v rd=>K v [] rd:=by
 unfold kV at h
 unfold xF
 split at h
 ·split at h
  ·rename_i ho
   split at h
   ·rename_i hg
    exact S4
   ·cases h
  ·cases h
 ·split at h
  ·rename_i hg
   simp only[Option.some.injEq,Prod.mk.injEq]at h;obtain⟨rfl,rfl,rfl⟩:=h
   exact⟨_,hg,hK⟩
  ·cases h
 ·split at h
  ·rename_i ho
   split at h
   ·rename_i hc
    split at h
    ·rename_i e he
     split at h
     ·rename_i hg
      simp only[Option.some.injEq,Prod.mk.injEq]at h;obtain⟨rfl,rfl,rfl⟩:=h
      simp only[ho];exact⟨hc.1,hc.2,e,he,_,hg,hK⟩
     ·cases h
    ·cases h
   ·cases h
  ·cases h
 ·cases h
theorem yj{t:TypeId}{x y:V}(h:pt P o t x y=some (v,Δ,rd))(hK:K v Δ rd):rp P o t x y fun Δ rd=>K (.bH []) Δ rd:=by
 unfold pt at h
 unfold rp
 split at h
 ·split at h
  ·rename_i ho
   split at h
   ·rename_i hg
    exact S4
   ·cases h
  ·cases h
 ·split at h
  ·rename_i ho
   split at h
   ·rename_i hc
    split at h
    ·rename_i e z he hz
     split at h
     ·rename_i hl
      split at h
      ·rename_i e' hp
       simp only[Option.some.injEq,Prod.mk.injEq]at h;obtain⟨rfl,rfl,rfl⟩:=h
       simp only[ho]
       exact⟨hc.1,hc.2,e,he,z,hz,hl.1,hl.2.1,hl.2.2,e',hp,hK⟩
      ·cases h
     ·cases h
    ·cases h
   ·cases h
  ·cases h
 ·cases h
theorem pw{t:TypeId}{len:Nat}{parts:List (Nat×V)}(h:eL P o fr t len parts=some (v,Δ,rd))(hK:K v Δ rd):fY P o fr t len parts K:=by
 unfold eL at h
 unfold fY
 split at h
 ·rename_i e ht
  simp only[ht]
  split at h
  ·rename_i hc
   simp only[Option.some.injEq,Prod.mk.injEq]at h;obtain⟨rfl,rfl,rfl⟩:=h
   exact .inl ⟨hc.1,by simpa using hc.2.1,hc.2.2,hK⟩
  split at h
  ·rename_i hc
   refine .inr ?_
   split at h
   ·rename_i ds hd
    split at h
    ·rename_i hw
     simp only[Option.some.injEq,Prod.mk.injEq]at h;obtain⟨rfl,rfl,rfl⟩:=h
     refine⟨hc.1,hc.2.1,hc.2.2.1,hc.2.2.2.1,hc.2.2.2.2,ds,hd,fun x hx=> ?_,hK⟩
     simpa using List.all_eq_true.1 hw x hx
    ·cases h
   ·cases h
  ·cases h
 ·cases h
theorem qG{t:TypeId}{l c:V}(h:jX P fr t l c=some (v,Δ,rd))(hK:K v Δ rd):ig P fr t l c fun v Δ=>K v Δ []:=by
 unfold jX at h
 unfold ig
 split at h
 ·rename_i e ht
  split at h
  ·split at h
   ·rename_i hc
    split at h
    ·rename_i x hx
     simp only[Option.some.injEq,Prod.mk.injEq]at h;obtain⟨rfl,rfl,rfl⟩:=h
     simp only[ht]
     exact⟨hc.1,hc.2.1,hc.2.2.1,hc.2.2.2.1,hc.2.2.2.2,x,hx,hK⟩
    ·cases h
   ·cases h
  ·cases h
 ·cases h
theorem vY{ts:Array TypeId}{x y:V}(h:nX P o fr ts x y=some (v,Δ,rd))(hK:K v Δ rd):ny P o fr ts x y K:=by
 unfold nX at h
 unfold ny
 split at h
 ·rename_i t t' tH
  simp only[tH]
  split at h
  ·rename_i htt
   refine⟨htt, ?_⟩
   split at h
   ·rename_i e new qM ht hl
    obtain⟨vG,rfl⟩:=AH hl
    simp only[ht]
    split at h
    ·rename_i hc
     refine⟨new,vG,hc.1,hc.2.1,fun z hz=>by simpa using List.all_eq_true.1 hc.2.2 z hz, ?_⟩
     split at h
     ·split at h
      ·rename_i rC
       simp only[Option.some.injEq,Prod.mk.injEq]at h;obtain⟨rfl,rfl,rfl⟩:=h
       exact⟨rC.1,rC.2,hK⟩
      ·cases h
     ·split at h
      ·rename_i B6
       refine⟨fun z hz=>by simpa using List.all_eq_true.1 B6 z hz, ?_⟩
       split at h
       ·rename_i hn
        simp only[Option.some.injEq,Prod.mk.injEq]at h;obtain⟨rfl,rfl,rfl⟩:=h
        rw[if_pos hn];exact hK
       ·rename_i hn
        split at h
        ·rename_i rC
         simp only[Option.some.injEq,Prod.mk.injEq]at h;obtain⟨rfl,rfl,rfl⟩:=h
         rw[if_neg hn];exact⟨rC.1,rC.2,hK⟩
        ·cases h
      ·cases h
     ·split at h
      ·rename_i ho
       split at h
       ·rename_i rC
        simp only[Option.some.injEq,Prod.mk.injEq]at h;obtain⟨rfl,rfl,rfl⟩:=h
        simp only[ho]
        exact⟨rC.1,rC.2.1,rC.2.2.1,rC.2.2.2.1,rC.2.2.2.2,hK⟩
       ·cases h
      ·cases h
     ·cases h
    ·cases h
   ·cases h
  ·cases h
 ·cases h
theorem rP{x y:V}(h:gS o x=some y){K:V->Prop}(hK:K y):jx o x K:=by
 unfold gS at h
 unfold jx
 split at h
 ·obtain⟨h2,rfl⟩:=pv h;exact⟨h2,hK⟩
 ·exact E4
 ·exact E4
 ·cases h
theorem F0{op:UnOp}{x y:V}(h:Y7 op x=some y){K:V->Prop}(hK:K y):Tl op x K:=by
 unfold Y7 at h
 unfold Tl
 split at h
 ·injection h with h;subst h;simp only;rw[Int.zero_sub];exact hK
 ·exact E4
 ·cases h
theorem vq{m:Bool}{x y v:V}(h:nY m x y=some v){K:V->Prop}(hK:K v):lM m [x,y] K:=by
 unfold nY at h
 unfold lM
 split at h
 ·split at h
  ·exact M5
  ·cases h
 ·cases h
theorem yk{op:Op}(h:eR P s fr op=some (v,Δ,rd))(hK:K v Δ rd):KQ P s fr op K:=by
 cases op<;>simp only[eR]at h<;>simp only[KQ]<;>try (cases h;done)
 case move x=>have h:=ji h;simp only[Prod.mk.injEq]at h;obtain⟨rfl,rfl,rfl⟩:=h;exact hK
 case assign x=>have h:=ji h;simp only[Prod.mk.injEq]at h;obtain⟨rfl,rfl,rfl⟩:=h;exact hK
 case pick c a b=>
  obtain⟨x,h1,h⟩:=gJ h;simp only[Prod.mk.injEq]at h;obtain⟨rfl,rfl,rfl⟩:=h
  exact AJ h1 hK
 case alloc t=>
  split at h
  ·rename_i cs hz;simp only[Option.some.injEq,Prod.mk.injEq]at h;obtain⟨rfl,rfl,rfl⟩:=h;exact⟨cs,hz,hK⟩
  ·cases h
 case box t x=>
  split at h
  ·rename_i cs hz;simp only[Option.some.injEq,Prod.mk.injEq]at h;obtain⟨rfl,rfl,rfl⟩:=h;exact⟨cs,hz,hK⟩
  ·cases h
 case build t parts=>
  obtain⟨x,h1,h⟩:=gJ h;simp only[Prod.mk.injEq]at h;obtain⟨rfl,rfl,rfl⟩:=h
  unfold vX at h1
  split at h1
  ·rename_i z pl hz hp
   split at h1
   ·rename_i cs hc;injection h1 with h1;subst h1;exact⟨z,pl,cs,hz,hp,hc,hK⟩
   ·cases h1
  ·cases h1
 case buildSlice t len parts=>exact pw h hK
 case load t x=>exact AK h hK
 case store t x y=>exact yj h hK
 case nilCheck x=>
  obtain⟨y,h1,h⟩:=gJ h;simp only[Prod.mk.injEq]at h;obtain⟨rfl,rfl,rfl⟩:=h
  exact rP h1 hK
 case binOp op t x y yt=>
  unfold ed at h
  split at h
  ·rename_i z h1
   have h:=ji h;simp only[Prod.mk.injEq]at h;obtain⟨rfl,rfl,rfl⟩:=h
   exact .inl (DO h1 hK)
  ·right;simp only[h,cB];exact hK
 case unOp op t x=>
  obtain⟨z,h1,h⟩:=gJ h;simp only[Prod.mk.injEq]at h;obtain⟨rfl,rfl,rfl⟩:=h
  unfold Dg at h1
  split at h1
  ·rename_i hx;injection h1 with h1;subst h1;exact .inr ⟨rfl,hx,hK⟩
  ·exact .inl (F0 h1 hK)
 case slice t x lo hi mx=>simp only[h,cB];exact hK
 case field t x f=>
  exact Nd
 case typeAssert x xt t ok=>
  exact Nd
 case makeMap t r=>
  cases r with
  |none=>simp only[h,cB];exact hK
  |some x=>cases h
 case lookup t m k ok=>simp only[h,cB];exact hK
 case mapUpdate t m k v=>simp only[h,cB];exact hK
 case insert t m k v=>simp only[h,cB];exact hK
 case index t x i=>
  exact Nd
 case convert u t x=>
  split at h
  ·rename_i d k k' n hu hk hx
   have h:=ji h;simp only[Prod.mk.injEq]at h;obtain⟨rfl,rfl,rfl⟩:=h
   exact⟨by rw[hu];rfl,by simp only[hk,hx];exact hK⟩
  ·cases h
 case makeInterface t x=>
  obtain⟨z,h1,h⟩:=gJ h;simp only[Prod.mk.injEq]at h;obtain⟨rfl,rfl,rfl⟩:=h
  obtain⟨h2,rfl⟩:=pv h1
  refine⟨?_, ?_⟩
  ·unfold rN at h2
   cases hd:P.underlying t with
   |none=>simp[hd]at h2
   |some d=>exact⟨d,rfl,by cases d<;>simp_all⟩
  ·split
   ·rename_i y hy;simp only[hy]at hK;exact hK
   ·rename_i hy
    split at hK
    ·rename_i y hy';exact absurd hy' (hy y)
    ·exact hK
 case makeFunc fn first cap=>have h:=ji h;simp only[Prod.mk.injEq]at h;obtain⟨rfl,rfl,rfl⟩:=h;exact hK
 case makeSlice t l c=>
  exact qG h hK
 case fieldAddr t x f=>
  obtain⟨z,h1,h⟩:=gJ h;simp only[Prod.mk.injEq]at h;obtain⟨rfl,rfl,rfl⟩:=h
  exact qF h1 hK
 case indexAddr t x i=>
  exact qE h hK
 case extract x i=>
  split at h
  ·rename_i vs hv
   split at h
   ·rename_i u hu
    have h:=ji h;simp only[Prod.mk.injEq]at h;obtain⟨rfl,rfl,rfl⟩:=h
    simp only[hv];exact⟨_,hu,hK⟩
   ·cases h
  ·cases h
 case call c=>
  obtain⟨FN,args,ts⟩:=c
  cases FN<;>simp only at h|- <;>try (cases h;done)
  rename_i b
  unfold nZ at h
  unfold ru
  split at h
  ·rename_i x ha
   simp only[ha]
   split at h
   ·rename_i t tH;exact⟨t,tH,DP h hK⟩
   ·cases h
  ·rename_i x y ha
   simp only[ha]
   split at h
   ·rename_i r hr
    simp only[Option.some.injEq]at h
    subst h
    exact .inl (by rw[hr];exact hK)
   ·exact .inr (vY h hK)
  ·rename_i x y ha
   exact SV
  ·rename_i x y ha
   exact SV
  ·rename_i x y z ha
   simp only[ha]
   obtain⟨v0,h1,h⟩:=gJ h;simp only[Prod.mk.injEq]at h;obtain⟨rfl,rfl,rfl⟩:=h
   exact Sd
  ·rename_i x y ha
   simp only[ha,h,cB];exact hK
  ·rename_i x y ha
   simp only[ha]
   split at h
   ·rename_i t ht;exact⟨t,ht,by simp only[h,cB];exact hK⟩
   ·cases h
  ·rename_i x ha
   simp only[ha,h,cB];exact hK
  ·cases h
 case range t x=>simp only[h,cB];exact hK
 case next x str=>left;simp only[h,cB];exact hK
 case entry x=>simp only[h,cB];exact hK
end
end
section
def rQ(P:Program)(g:FuncId)(ds:List D)(o o1 oa:Nat->ab)(K:V->(Nat->ab)->Prop)(X:V->(Nat->ab)->Prop):Prop:=
 ∃out,aX P g ds out/\((match out with| .ret rs=>K (ir rs) o1| .bu x=>X (.d x) o1)\/(out.flat=true/\match out with| .ret rs=>K (ir rs) o| .bu x=>X (.d x) o)\/(out.kQ=true/\match out with| .ret rs=>K (ir rs) oa| .bu x=>X (.d x) oa))
def qc(P:Program)(g:FuncId)(args:List V)(o:Nat->ab)(nx:Nat)(K:V->(Nat->ab)->Nat->Prop)(X:V->(Nat->ab)->Nat->Prop):Prop:=mi P g args o nx K X
theorem mi.mono {P:Program}{g:FuncId}{args:List V}{o:Nat->ab}{nx:Nat}{K X K' X':V->(Nat->ab)->Nat->Prop}(hK:∀v o n,K v o n->K' v o n)(hX:∀v o n,X v o n->X' v o n)(h:mi P g args o nx K X):mi P g args o nx K' X':=
 h.imp (dA.mono hK hX) (dA.mono hK hX)
@[congr] theorem Ld {P:Program} {g g':FuncId} {ds TJ:List D} {o o1 oa:Nat->ab} {K X} (h:g=g') (h':ds=TJ):rQ P g ds o o1 oa K X=rQ P g' TJ o o1 oa K X:=by subst h;subst h';rfl
@[congr] theorem Le {P:Program} {g g':FuncId} {bK TK:List V} {o:Nat->ab} {nx:Nat} {K X} (h:g=g') (h':bK=TK):qc P g bK o nx K X=qc P g' TK o nx K X:=by subst h;subst h';rfl
def Lf(P:Program)(g:FuncId)(args:List V)(o:Nat->ab)(nx:Nat)(K X:V->(Nat->ab)->Nat->Prop):Prop:=
 (∃ds,bI o args=some ds/\rQ P g ds o (put o (bP o (V.aZ args))) (put o (oY o (V.aZ args))) (fun v o'=>K v o' (nx+1)) (fun v o'=>X v o' (nx+1)))\/dA P g args o nx K X
def ES(P:Program)(s:S)(o:bB)(X:V->S->Prop)(K:S->Prop):Prop:=
 match o.op with
 | .call c=>match c.callee with
   | .value f=>match s.ev f with
     | .func (.func g) first cap=>match bI s.o (first++c.args.toList.map s.ev++cap)with
       |some ds=>rQ P g ds s.o (put s.o (bP s.o (V.aZ (first++c.args.toList.map s.ev++cap)))) (put s.o (oY s.o (V.aZ (first++c.args.toList.map s.ev++cap)))) (fun v o'=>K ⟨aS s.env o.dst v,o',s.nx+1⟩) (fun v o'=>X v ⟨s.env,o',s.nx+1⟩)\/
        qc P g (first++c.args.toList.map s.ev++cap) s.o s.nx (fun v o' nx'=>K ⟨aS s.env o.dst v,o',nx'⟩) (fun v o' nx'=>X v ⟨s.env,o',nx'⟩)
       |none=>qc P g (first++c.args.toList.map s.ev++cap) s.o s.nx (fun v o' nx'=>K ⟨aS s.env o.dst v,o',nx'⟩) (fun v o' nx'=>X v ⟨s.env,o',nx'⟩)
     | .js id=>c6 P id (c.args.toList.map s.ev) s.o s.nx (fun v o' nx'=>K ⟨aS s.env o.dst v,o',nx'⟩) (fun v o' nx'=>X v ⟨s.env,o',nx'⟩)
     |_=>False
   | .invoke r m=>match rH P m (s.ev r)with
     |some (g,y)=>Lf P g (y::c.args.toList.map s.ev) s.o s.nx (fun v o' nx'=>K ⟨aS s.env o.dst v,o',nx'⟩) (fun v o' nx'=>X v ⟨s.env,o',nx'⟩)
     |none=>False
   |_=>match eR P s s.nx o.op with
    |some (v,Δ,_)=>K ⟨aS s.env o.dst v,put s.o Δ,s.nx+1⟩
    |none=>False
 | .panic x=>match s.ev x with
   | .d (.iface t y)=>X (.d (.iface t y)) s
   | .iface t y=>X (.iface t y) s
   |_=>False
 | .next x str=>match my s.o (s.ev x)with
   |some (id,l)=>str=false/\BZ id l fun v Δ _=>K ⟨aS s.env o.dst v,put s.o Δ,s.nx+1⟩
   |none=>match eR P s s.nx o.op with
    |some (v,Δ,_)=>K ⟨aS s.env o.dst v,put s.o Δ,s.nx+1⟩
    |none=>False
 |op=>match eR P s s.nx op with
  |some (v,Δ,_)=>K ⟨aS s.env o.dst v,put s.o Δ,s.nx+1⟩
  |none=>False
def mT(P:Program)(X:V->S->Prop)(K:S->Prop):List bB->S->Prop
 |[],s=>K s
 |o::l,s=>match o.gd with
  |none=>ES P s o X (mT P X K l)
  |some (d,want)=>match s.env d with
   | .d (.bool b)=>if b=want then ES P s o X (mT P X K l)else mT P X K l ⟨aS s.env o.dst (.bH []),s.o,s.nx+1⟩
   | .bH []=>mT P X K l ⟨aS s.env o.dst (.bH []),s.o,s.nx+1⟩
   |_=>False
def F1(b:Nat)(body:(eT->S->Prop)->S->Prop)(Q:eT->S->Prop)(s:S):Prop:=
 ∃ (J:Nat->S->Prop),(∃m s1,bG b s s1/\J m s1)/\∀m s0,J m s0->body (fun e s=>match e with| .normal=>∃m' s1,m'<m/\bG b s s1/\J m' s1|e=>Q e s) s0
@[congr] theorem Lg {b:Nat} {body Q} {s s':S} (h:s=s'):F1 b body Q s=F1 b body Q s':=by subst h;rfl
def n6(t:Bool)(A B:Prop):Prop:=(t=true->A)/\(t=false->B)
@[congr] theorem Lh {t t':Bool} {A B:Prop} (h:t=t'):n6 t A B=n6 t' A B:=by subst h;rfl
@[simp] theorem rR (A B:Prop):n6 true A B=A:=by simp[n6]
@[simp] theorem qd (A B:Prop):n6 false A B=B:=by simp[n6]
section
variable {P:Program}{n b:Nat}
theorem Ch{s:S}{o:bB}{o':Oper}{X X':V->S->Prop}{K K':S->Prop}(fh:o'.op=o.op)(cq:o'.dst=o.dst)(hd:eX n o'.dst)(hK:∀s,K s->K' s)(hX:∀v s,X v s->X' v s)(h:ES P s o X K):YZ P n s o' X' K':=by
 refine⟨hd, ?_⟩
 rw[cq,fh]
 unfold ES at h
 have hs:∀ {op:Op},(match eR P s s.nx op with|some (v,Δ,_)=>K ⟨aS s.env o.dst v,put s.o Δ,s.nx+1⟩|none=>False)->KQ P s s.nx op fun v Δ _=>K' ⟨aS s.env o.dst v,put s.o Δ,s.nx+1⟩:=by
  intro op h
  split at h
  ·rename_i v Δ rd he;exact yk he (hK _ h)
  ·exact h.elim
 split at h
 ·rename_i c hc
  split at h
  ·rename_i f dS
   simp only[hc,dS]
   split at h
   ·rename_i g first cap hf
    unfold x6
    simp only[hf]
    unfold rG
    split at h
    ·rename_i ds dT
     rcases h with⟨out,hP,h|⟨nj,h⟩|⟨nj,h⟩⟩|h
     ·exact Kv
     ·exact Tc
     ·exact S7
     ·exact Sk
    ·exact Sk
   ·rename_i id hf
    unfold x6
    simp only[hf]
    exact c6.mono (fun v o n h=>hK _ h) (fun v o n h=>hX _ _ h) h
   ·exact h.elim
  ·rename_i r m dS
   simp only[hc,dS]
   split at h
   ·rename_i g y hr
    simp only[hr]
    unfold rG
    rcases h with⟨ds,dT,out,hP,h|⟨nj,h⟩|⟨nj,h⟩⟩|h
    ·exact Kv
    ·exact Tc
    ·exact S7
    ·exact .inr (.inr (.inr (.inl (dA.mono (fun v o n h=>hK _ h) (fun v o n h=>hX _ _ h) h))))
   ·exact h.elim
  ·rename_i dS hinv
   rw[hc]at h|-
   obtain⟨FN,args,ts⟩:=c
   cases FN with
   |value f=>exact absurd rfl (dS f)
   |invoke r m=>exact absurd rfl (hinv r m)
   |_=>exact hs h
 ·rename_i x hx
  simp only[hx]
  split at h
  ·rename_i hv;simp only[hv];exact hX _ _ h
  ·rename_i hv;simp only[hv];exact hX _ _ h
  ·exact h.elim
 ·rename_i x str hx
  rw[hx]at h|-
  split at h
  ·rename_i id l hl
   exact .inr ⟨h.1,id,l,hl,fun e=>hK _ (h.2.1 e),fun i k x e=>hK _ (h.2.2 i k x e)⟩
  ·exact hs h
 ·rename_i hc hp tj
  have h2:=hs h
  cases hh:o.op<;>first
   |exact absurd hh (hc _)
   |exact absurd hh (hp _)
   |exact absurd hh (tj _ _)
   |(rw[hh]at h2;exact h2)
theorem gU{ops:Array Oper}{X X':V->S->Prop}{K K':S->Prop}(hK:∀s,K s->K' s)(hX:∀v s,X v s->X' v s):∀ (l:List Oper) (l':List bB) (s:S),ju n ops l=some l'->mT P X K l' s->vP P n ops X' K' l s
 |[],l',s,h,hr=>by simp[ju]at h;subst h;exact hK _ hr
 |o::l,l',s,h,hr=>by
  simp only[ju]at h
  split at h
  ·rename_i x xs hx KY
   injection h with h;subst h
   unfold Fk at hx
   split at hx
   ·rename_i hd
    have cq:eX n o.dst:=by
     unfold Ag at hd;unfold eX
     split at hd<;>simp_all
    simp only[vP,vO]
    cases hg:o.guard with
    |none=>
     simp only[hg]at hx
     injection hx with hx;subst hx
     exact Ch rfl rfl cq (fun s hs=>gU hK hX l xs s KY hs) hX hr
    |some p=>
     obtain⟨j,want⟩:=p
     simp only[hg]at hx
     cases Li:pS ops j with
     |none=>simp[Li]at hx
     |some d=>
      simp only[Li]at hx
      injection hx with hx;subst hx
      simp only
      simp only[mT]at hr
      split at hr
      ·rename_i t ht
       simp only[Li,ht]
       split at hr
       ·rename_i e
        exact⟨fun _=>Ch rfl rfl cq (fun s hs=>gU hK hX l xs s KY hs) hX hr,fun h=>absurd e h⟩
       ·rename_i e
        exact⟨fun h=>absurd h e,fun _=>⟨cq,gU hK hX l xs _ KY hr⟩⟩
      ·rename_i ht
       simp only[Li,ht]
       exact⟨cq,gU hK hX l xs _ KY hr⟩
      ·exact hr.elim
   ·cases hx
  ·cases h
end
end
section
mutual
def V.refs:V->List Nat
 | .ptr id _=>[id]| .osl id _=>[id]| .pe id _ _ _ _=>[id]| .uc id _ _=>[id]| .mp id=>[id]| .js id=>[id]
 | .agg cs=>V.aP cs
 | .bH cs=>V.aP cs
 | .func _ a b=>V.aP a++V.aP b
 | .iface _ x=>x.refs
 |_=>[]
def V.aP:List V->List Nat
 |[]=>[]
 |v::vs=>v.refs++V.aP vs
end
mutual
theorem iu:∀ (v:V),∀id∈v.ids,id∈v.refs
 | .osl id _,j,h=>by simpa[V.ids,V.refs]using h
 | .agg cs,j,h=>by simp only[V.ids]at h;simp only[V.refs];exact jK cs j h
 | .iface _ x,j,h=>by simp only[V.ids]at h;simp only[V.refs];exact iu x j h
 | .mp _,j,h=>by simpa[V.ids,V.refs]using h
 | .d _,_,h| .aE,_,h| .bH _,_,h| .ptr _ _,_,h| .pe _ _ _ _ _,_,h| .pp _ _,_,h| .func _ _ _,_,h| .aa,_,h| .oO _,_,h| .uc _ _ _,_,h| .eg,_,h| .js _,_,h=>by simp[V.ids]at h
theorem jK:∀ (vs:List V),∀id∈V.aZ vs,id∈V.aP vs
 |[],j,h=>by simp[V.aZ]at h
 |v::vs,j,h=>by
  simp only[V.aZ,V.aP,List.mem_append]at h|-
  exact h.imp (iu v j) (jK vs j)
end
mutual
theorem cK{o o':Nat->ab}:∀ (v:V),(∀id∈v.refs,o' id=o id)->dv o' v=dv o v
 | .osl id ep,h=>by simp only[dv,h id (by simp[V.refs])]
 | .mp id,h=>by simp only[dv,h id (by simp[V.refs])]
 | .agg cs,h=>by simp only[dv,fE cs (by simpa[V.refs]using h)]
 | .iface t x,h=>by simp only[dv,cK x (by simpa[V.refs]using h)]
 | .d _,_| .aE,_| .bH _,_| .ptr _ _,_| .pe _ _ _ _ _,_| .pp _ _,_| .func _ _ _,_| .aa,_| .oO _,_| .uc _ _ _,_| .eg,_| .js _,_=>by simp only[dv]
theorem fE{o o':Nat->ab}:∀ (vs:List V),(∀id∈V.aP vs,o' id=o id)->bI o' vs=bI o vs
 |[],_=>rfl
 |v::vs,h=>by
  simp only[bI,cK v (fun id au=>h id (by simp[V.aP,au])),fE vs (fun id au=>h id (by simp[V.aP,au]))]
end
theorem fu{o o':Nat->ab}{ids:List Nat}(h:∀id∈ids,o' id=o id):bP o' ids=bP o ids:=by
 rw[jP,jP]
 exact List.map_congr_left fun id au=>by rw[h id au]
def mh(s:S)(op:Op):List Nat:=
 match op with
 | .load _ x=>(s.ev x).refs
 | .nilCheck x=>(s.ev x).refs
 | .fieldAddr _ x _=>(s.ev x).refs
 | .indexAddr _ x _=>(s.ev x).refs
 | .store _ x v=>(s.ev x).refs++(s.ev v).refs
 | .buildSlice _ _ parts=>V.aP (parts.toList.map fun p=>s.ev p.2)
 | .binOp _ _ x y _=>(s.ev x).refs++(s.ev y).refs
 | .slice _ x _ _ _=>(s.ev x).refs
 | .lookup _ m k _=>(s.ev m).refs++(s.ev k).refs
 | .mapUpdate _ m k v=>(s.ev m).refs++((s.ev k).refs++(s.ev v).refs)
 | .insert _ m k v=>(s.ev m).refs++((s.ev k).refs++(s.ev v).refs)
 | .range _ x=>(s.ev x).refs
 | .next x _=>(s.ev x).refs
 | .entry x=>(s.ev x).refs
 | .call c=>match c.callee with
   | .builtin _=>V.aP (c.args.toList.map s.ev)
   | .value f=>match s.ev f with
     | .func _ first cap=>V.aP (first++c.args.toList.map s.ev++cap)
     |_=>[]
   |_=>[]
 |_=>[]
section
variable {P:Program}{s s':S}{fr:Nat}
theorem qe{o o':Nat->ab}(v:V)(h:∀id∈v.refs,o' id=o id):nW o' v=nW o v:=by
 cases v with
 |osl id ep=>simp only[nW,h id (by simp[V.refs])]
 |d x=>cases x<;>rfl
 |_=>rfl
theorem qf{o o':Nat->ab}(v:V)(q:Nat)(h:∀id∈v.refs,o' id=o id):mC o' v q=mC o v q:=by
 cases v<;>simp only[mC]<;>rw[h _ (by simp[V.refs])]
theorem AL{o o':Nat->ab}(v:V)(h:∀id∈v.refs,o' id=o id):xH o' v=xH o v:=by
 have h1:dN o' v=dN o v:=by unfold dN;rw[cK v h]
 cases v<;>first|rfl|simp only[xH,h1]
theorem vZ{o o':Nat->ab}(v:V)(h:∀id∈v.refs,o' id=o id):o7 o' v=o7 o v:=by
 cases v with
 |mp id=>simp only[o7,h id (by simp[V.refs])]
 |d x=>cases x<;>rfl
 |_=>rfl
theorem v7{o o':Nat->ab}(v:V)(h:∀id∈v.refs,o' id=o id):o8 o' v=o8 o v:=by
 cases v with
 |ptr id off=>simp only[o8,h id (by simp[V.refs])]
 |d x=>cases x<;>rfl
 |_=>rfl
theorem kW{o o':Nat->ab}(v:V)(h:∀id∈v.refs,o' id=o id):mu o' v=mu o v:=by
 cases v with
 |mp id=>simp only[mu,h id (by simp[V.refs])]
 |d x=>cases x<;>rfl
 |_=>rfl
theorem yl{o o':Nat->ab}(v:V)(h:∀id∈v.refs,o' id=o id):nB o' v=nB o v:=by
 cases v with
 |mp id=>simp only[nB,h id (by simp[V.refs])]
 |d x=>cases x<;>rfl
 |_=>rfl
theorem ym{o o':Nat->ab}(v:V)(str:Bool)(h:∀id∈v.refs,o' id=o id):mw o' v str=mw o v str:=by
 cases v with
 |ptr id off=>cases off<;>simp only[mw,h id (by simp[V.refs])]
 |_=>rfl
theorem v8{o o':Nat->ab}(v:V)(h:∀id∈v.refs,o' id=o id):kJ o' v=kJ o v:=by
 cases v with
 |ptr id off=>cases off<;>simp only[kJ,h id (by simp[V.refs])]
 |_=>rfl
theorem wa{o o':Nat->ab}{fr:Nat}{t:TypeId}{P:Program}(v:V)(h:∀id∈v.refs,o' id=o id):kI P o' fr t v=kI P o fr t v:=by
 unfold kI
 cases v with
 |mp id=>simp only[h id (by simp[V.refs])]
 |d x=>cases x<;>rfl
 |_=>rfl
theorem wb{o o':Nat->ab}(v:V)(h:∀id∈v.refs,o' id=o id):mI o' v=mI o v:=by
 cases v with
 |ptr id off=>simp only[mI,h id (by simp[V.refs])]
 |_=>rfl
theorem wc{o o':Nat->ab}(v:V)(h:∀id∈v.refs,o' id=o id):mJ o' v=mJ o v:=by
 cases v with
 |uc id off n=>simp only[mJ,h id (by simp[V.refs])]
 |_=>rfl
theorem AM(op:Op)(hv:∀x∈op.operands,s'.ev x=s.ev x)(ho:∀id∈mh s op,s'.o id=s.o id):eR P s' fr op=eR P s fr op:=by
 cases op<;>simp only[eR]
 case move x=>rw[hv x (by simp[Op.operands])]
 case assign x=>rw[hv x (by simp[Op.operands])]
 case pick c a b=>rw[hv c (by simp[Op.operands]),hv a (by simp[Op.operands]),hv b (by simp[Op.operands])]
 case box t x=>rw[hv x (by simp[Op.operands])]
 case build t parts=>
  have:(parts.toList.map fun p=>(p.1,s'.ev p.2))=parts.toList.map fun p=>(p.1,s.ev p.2):=
   List.map_congr_left fun p hp=>by rw[hv p.2 (by simp only[Op.operands];simp;exact⟨p.1,by simpa using hp⟩)]
  rw[this]
 case buildSlice t len parts=>
  have:(parts.toList.map fun p=>(p.1,s'.ev p.2))=parts.toList.map fun p=>(p.1,s.ev p.2):=
   List.map_congr_left fun p hp=>by rw[hv p.2 (by simp only[Op.operands];simp;exact⟨p.1,by simpa using hp⟩)]
  rw[this]
  have e:(parts.toList.map fun p=>(p.1,s.ev p.2)).map (·.2)=parts.toList.map fun p=>s.ev p.2:=by simp[Function.comp_def]
  have h1:bI s'.o ((parts.toList.map fun p=>(p.1,s.ev p.2)).map (·.2))=bI s.o ((parts.toList.map fun p=>(p.1,s.ev p.2)).map (·.2)):=fE _ (by rw[e];exact ho)
  have h2:bP s'.o (V.aZ ((parts.toList.map fun p=>(p.1,s.ev p.2)).map (·.2)))=bP s.o (V.aZ ((parts.toList.map fun p=>(p.1,s.ev p.2)).map (·.2))):=
   fu fun id au=>ho id (by rw[e]at au;exact jK _ id au)
  simp only[eL,h1,h2]
 case load t x=>
  rw[hv x (by simp[Op.operands])]
  cases hx:s.ev x<;>simp only[kV]<;>rw[ho _ (by simp[mh,hx,V.refs])]
 case store t x y=>
  rw[hv x (by simp[Op.operands]),hv y (by simp[Op.operands])]
  have h1:dv s'.o (s.ev y)=dv s.o (s.ev y):=cK _ fun id au=>ho id mH
  have h2:bP s'.o (s.ev y).ids=bP s.o (s.ev y).ids:=fu fun id au=>ho id (by simp[mh,iu _ _ au])
  cases hx:s.ev x<;>simp only[pt]<;>rw[ho _ (by simp[mh,hx,V.refs])]
  simp only[h1,h2]
 case nilCheck x=>
  rw[hv x (by simp[Op.operands])]
  cases hx:s.ev x with
  |ptr id off=>simp only[gS];rw[ho _ (by simp[mh,hx,V.refs])]
  |func fn a b=>cases fn<;>rfl
  |_=>rfl
 case binOp op t x y yt=>
  rw[hv x (by simp[Op.operands]),hv y (by simp[Op.operands])]
  have h1:xH s'.o (s.ev x)=xH s.o (s.ev x):=AL _ fun id au=>ho id mH
  have h2:∀a b,th P s'.o a b (s.ev x) (s.ev y)=th P s.o a b (s.ev x) (s.ev y):=fun a b=>by
   have h3:∀id∈(s.ev x).refs,s'.o id=s.o id:=fun id au=>ho id mH
   have h4:=vZ (s.ev x) h3
   have h5:=v7 (s.ev x) h3
   unfold th
   rw[h1,h4,h5]
  unfold ed o9
  simp only[h2]
 case slice t x lo hi mx=>
  rw[hv x (by simp[Op.operands])]
  have e1:lo.map s'.ev=lo.map s.ev:=by cases lo<;>simp[hv,Op.operands]
  have e2:hi.map s'.ev=hi.map s.ev:=by cases hi<;>simp[hv,Op.operands]
  have e3:mx.map s'.ev=mx.map s.ev:=by cases mx<;>simp[hv,Op.operands]
  rw[e1,e2,e3]
  have h3:∀id∈(s.ev x).refs,s'.o id=s.o id:=fun id au=>ho id mH
  have h1:dN s'.o (s.ev x)=dN s.o (s.ev x):=by unfold dN;rw[cK _ h3]
  have h2:bP s'.o (s.ev x).ids=bP s.o (s.ev x).ids:=fu fun id au=>h3 id (iu _ _ au)
  have h4:Aj P s'.o t (s.ev x) (lo.map s.ev) (hi.map s.ev) (mx.map s.ev)=Aj P s.o t (s.ev x) (lo.map s.ev) (hi.map s.ev) (mx.map s.ev):=by
   cases hx:s.ev x with
   |osl id ep=>simp only[Aj,h3 id (by simp[hx,V.refs])]
   |_=>rfl
  unfold o6 nz
  simp only[h1,h2,h4,wb _ h3]
 case field t x f=>rw[hv x (by simp[Op.operands])]
 case typeAssert x xt t ok=>rw[hv x (by simp[Op.operands])]
 case makeMap t r=>cases r<;>rfl
 case lookup t m k ok=>
  rw[hv m (by simp[Op.operands]),hv k (by simp[Op.operands])]
  have h3:∀id∈(s.ev m).refs,s'.o id=s.o id:=fun id au=>ho id mH
  have h1:dv s'.o (s.ev k)=dv s.o (s.ev k):=cK _ fun id au=>ho id mH
  unfold gK
  simp only[h1,yl _ h3]
 case mapUpdate t m k v=>
  rw[hv m (by simp[Op.operands]),hv k (by simp[Op.operands]),hv v (by simp[Op.operands])]
  have h3:∀id∈(s.ev m).refs,s'.o id=s.o id:=fun id au=>ho id mH
  have h1:dv s'.o (s.ev k)=dv s.o (s.ev k):=cK _ fun id au=>ho id mH
  have h2:dv s'.o (s.ev v)=dv s.o (s.ev v):=cK _ fun id au=>ho id mH
  have h4:bP s'.o (s.ev v).ids=bP s.o (s.ev v).ids:=fu fun id au=>ho id (by simp[mh,iu _ _ au])
  unfold ew
  simp only[h1,h2,h4,kW _ h3]
 case insert t m k v=>
  rw[hv m (by simp[Op.operands]),hv k (by simp[Op.operands]),hv v (by simp[Op.operands])]
  have h3:∀id∈(s.ev m).refs,s'.o id=s.o id:=fun id au=>ho id mH
  have h1:dv s'.o (s.ev k)=dv s.o (s.ev k):=cK _ fun id au=>ho id mH
  have h2:dv s'.o (s.ev v)=dv s.o (s.ev v):=cK _ fun id au=>ho id mH
  have h4:bP s'.o (s.ev v).ids=bP s.o (s.ev v).ids:=fu fun id au=>ho id (by simp[mh,iu _ _ au])
  unfold ew
  simp only[h1,h2,h4,kW _ h3]
 case index t x i=>rw[hv x (by simp[Op.operands]),hv i (by simp[Op.operands])]
 case range t x=>
  rw[hv x (by simp[Op.operands])]
  exact wa _ fun id au=>ho id mH
 case next x str=>
  rw[hv x (by simp[Op.operands])]
  exact ym _ _ fun id au=>ho id mH
 case entry x=>
  rw[hv x (by simp[Op.operands])]
  exact v8 _ fun id au=>ho id mH
 case unOp op t x=>rw[hv x (by simp[Op.operands])]
 case convert u t x=>rw[hv x (by simp[Op.operands])]
 case makeInterface t x=>rw[hv x (by simp[Op.operands])]
 case makeFunc fn first cap=>
  have h1:first.toList.map s'.ev=first.toList.map s.ev:=List.map_congr_left fun x hx=>hv x (by simp only[Op.operands];exact Array.mem_append.2 (.inl (Array.mem_toList_iff.1 hx)))
  have h2:cap.toList.map s'.ev=cap.toList.map s.ev:=List.map_congr_left fun x hx=>hv x (by simp only[Op.operands];exact Array.mem_append.2 (.inr (Array.mem_toList_iff.1 hx)))
  rw[h1,h2]
 case makeSlice t l c=>rw[hv l (by simp[Op.operands]),hv c (by simp[Op.operands])]
 case fieldAddr t x f=>
  rw[hv x (by simp[Op.operands])]
  simp only[fD]
  cases bV P t f<;>simp only
  rw[qf _ _ (by simpa[mh]using ho)]
 case indexAddr t x i=>
  rw[hv x (by simp[Op.operands]),hv i (by simp[Op.operands])]
  have h1:∀q,mC s'.o (s.ev x) q=mC s.o (s.ev x) q:=fun q=>qf _ _ (by simpa[mh]using ho)
  simp only[fC,h1]
  cases hx:s.ev x with
  |osl id ep=>simp only[ho id (by simp[mh,hx,V.refs])]
  |d y=>cases y<;>rfl
  |_=>rfl
 case extract x i=>rw[hv x (by simp[Op.operands])]
 case call c=>
  obtain⟨FN,args,ts⟩:=c
  cases FN<;>simp only
  rename_i b
  unfold nZ
  have hm:∀x∈args.toList,s'.ev x=s.ev x:=fun x hx=>hv x Sb
  have hr:∀x∈args.toList,∀id∈(s.ev x).refs,s'.o id=s.o id:=by
   intro x hx id au
   refine ho id ?_
   simp only[mh]
   generalize args.toList=l at hx
   induction l with
   |nil=>cases hx
   |cons y l ih=>
    simp only[List.map_cons,V.aP,List.mem_append]
    rcases List.mem_cons.1 hx with rfl|hx
    ·exact .inl au
    ·exact .inr (ih hx)
  split
  ·rename_i x ha
   rw[ha]at hm hr
   rw[hm x (by simp)]
   have h1:∀t,AG P t s'.o (s.ev x)=AG P t s.o (s.ev x):=fun t=>by simp only[AG,qe _ (hr x (by simp))]
   simp only[h1]
  ·rename_i x y ha
   rw[ha]at hm hr
   rw[hm x (by simp),hm y (by simp)]
   simp only[nX,qe _ (hr y (by simp))]
   cases ug P fr ts (s.ev x) (s.ev y)with
   |some r=>rfl
   |none=>
   dsimp only
   cases hx:s.ev x with
   |osl id ep=>simp only[hr x (by simp) id (by simp[hx,V.refs])]
   |_=>rfl
  ·rename_i x y ha
   rw[ha]at hm
   rw[hm x (by simp),hm y (by simp)]
  ·rename_i x y ha
   rw[ha]at hm
   rw[hm x (by simp),hm y (by simp)]
  ·rename_i x y z h;rw[hm x (by rw[h];simp),hm y (by rw[h];simp),hm z (by rw[h];simp)]
  ·rename_i x y ha
   rw[ha]at hm hr
   rw[hm x (by simp),hm y (by simp)]
   have h1:dN s'.o (s.ev y)=dN s.o (s.ev y):=by unfold dN;rw[cK _ (hr y (by simp))]
   have h2:bP s'.o (s.ev y).ids=bP s.o (s.ev y).ids:=fu fun id au=>hr y aK id (iu _ _ au)
   unfold uf
   simp only[h1,h2,wc _ (hr x (by simp))]
  ·rename_i x y ha
   rw[ha]at hm hr
   rw[hm x (by simp),hm y (by simp)]
   have h1:dv s'.o (s.ev y)=dv s.o (s.ev y):=cK _ (hr y aK)
   have h2:=kW _ (hr x aK)
   simp only[lN,h1,h2]
  ·rename_i x ha
   rw[ha]at hm
   rw[hm x (by simp)]
  ·rfl
end
end
end Go.Proofs.YtlhemmpklhhgoaaGreat
