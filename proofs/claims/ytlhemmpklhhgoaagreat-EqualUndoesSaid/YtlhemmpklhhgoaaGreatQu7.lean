/-
  A PART OF THE PROOF. Conditions: none.
-/
import Derived.Test.YtlhemmpklhhgoaaGreatQu6
set_option linter.unusedSimpArgs false
set_option linter.unusedVariables false
namespace Go.Proofs.YtlhemmpklhhgoaaGreat
section
section
variable {P:Program}{M:Nat->Prop}{φ:Place}{H:Hp}{w w':World}{cL:Place}{H0:Hp}{w0:World}{n b:Nat}{s:S}{a:Act}{cx:Cx}{ro:Option Nat}{k:Nat}
theorem hU(hb:∀id,H0.us id->id<b)(tT:cx.rd=false->ro=none):∀ (c:Code) (Q:fH->S->Prop) (s:S) (φ:Place) (a:Act) (w:World),ja P n b cx.rd c Q s->cf M cL H0 w0 n cx φ s a w->c.tD P ro (F1 M cL H0 w0 n cx Q) a w:=by
 intro c
 induction c with
 |skip=>exact fun Q s φ a w h hs=>pt (k:=0) (wpIn_skip ⟨.normal,s,φ,h,hs,trivial⟩)
 |scope x ih=>exact fun Q s φ a w h hs=>xU (ih Q s φ a w h hs) (fun l a w ⟨xx,s',aF,hq,jV,hm⟩=>by cases xx<;>exact hm)
 |label l=>exact fun Q s φ a w h hs=>pt (k:=0) (wpIn_label ⟨.normal,s,φ,h,hs,trivial⟩)
 |exit id=>exact fun Q s φ a w h hs=>BP ⟨.exit id,s,φ,h,hs,rfl⟩
 |ret=>exact fun Q s φ a w h hs=>F2 ⟨.ret,s,φ,h,hs,trivial⟩
 |goto l=>exact fun Q s φ a w h hs=>h.elim
 |refuse y=>exact fun Q s φ a w h hs=>h.elim
 |rangeFunc g ps x y=>
  intro Q s φ a w h hs
  obtain⟨h1,s',hle,h2⟩:=h
  rcases hle with rfl|hle
  ·exact xX hs h1 (tT h1) h2
  ·obtain⟨aF,jV⟩:=Eb hb hs hle
   exact xX jV h1 (tT h1) h2
 |region id ops draw=>
  intro Q s φ a w h hs
  cases draw with
  |true=>exact pt (h M cL H0 w0 cx φ a w ro 0 hs)
  |false=>
   refine pt (k:=0) (wpIn_region_list (pq (K:=Q .normal) (X:=fun v s=>Q (.bJ v) s) (fun s φ a w hk hs=>⟨.normal,s,φ,hk,hs,trivial⟩) (fun v s φ a w val hx hs hd=>⟨.bJ v,s,φ,hx,hs,val,rfl,hd⟩) _ s φ a w h hs))
 |seq x y N2 N3=>
  intro Q s φ a w h hs
  refine zr (gJ (N2 _ s φ a w h hs) ?_)
  rintro e a' w' ⟨xx,s',aF,hq,jV,hm⟩
  cases e<;>cases xx<;>first|(exact hm.elim)|skip
  ·exact N3 Q s' aF a' w' hq jV
  ·subst hm;exact⟨_,s',aF,hq,jV,rfl⟩
  ·exact JS
  ·exact JW
 |cond c x y N2 N3=>
  intro Q s φ a w h hs
  simp only[ja]at h
  have hc:=mU (M:=M) (φ:=φ) (H:=s.H) (w:=w) s a hs.env c
  split at h
  ·rename_i t hv
   rw[hv]at hc
   simp only[V.den,D.den]at hc
   cases t with
   |true=>exact qv hc (N2 Q s φ a w (h.1 rfl) hs)
   |false=>exact qv hc (N3 Q s φ a w (h.2 rfl) hs)
  ·rename_i hv
   rw[hv]at hc
   obtain⟨t,hc⟩:=hc
   cases t with
   |true=>exact qv hc (N2 Q s φ a w h.1 hs)
   |false=>exact qv hc (N3 Q s φ a w h.2 hs)
  ·exact h.elim
 |block id x ih=>
  intro Q s φ a w h hs
  refine H8 (gJ (ih _ s φ a w h hs) ?_)
  rintro e a' w' ⟨xx,s',aF,hq,jV,hm⟩
  cases e<;>cases xx<;>first|(exact hm.elim)|skip
  ·exact⟨.normal,s',aF,hq,jV,trivial⟩
  ·subst hm
   simp only[Exit.inBlock]
   simp only[fC]at hq
   split
   ·rename_i he;rw[if_pos he]at hq;exact⟨.normal,s',aF,hq,jV,trivial⟩
   ·rename_i he;rw[if_neg he]at hq;exact⟨.exit _,s',aF,hq,jV,rfl⟩
  ·exact JS
  ·exact JW
 |loop x ih=>
  intro Q s φ a w h hs
  obtain⟨J,⟨m0,s1,hle,hI⟩,uV⟩:=h
  obtain⟨iP,rA⟩:=Eb hb hs hle
  refine zu (fun m a w=>∃s φ,J m s/\cf M cL H0 w0 n cx φ s a w) ?_ m0 a w ⟨s1,iP,hI,rA⟩
  rintro m a w ⟨s,φ,hI,hs⟩
  refine gJ (ih _ s φ a w (uV m s hI) hs) ?_
  rintro e a' w' ⟨xx,s',aF,hq,jV,hm⟩
  cases e<;>cases xx<;>first|(exact hm.elim)|skip
  ·obtain⟨m2,s2,ck,KI,hI2⟩:=hq
   obtain⟨H9,F7⟩:=Eb hb jV KI
   exact⟨m2,ck,s2,H9,hI2,F7⟩
  ·subst hm;exact⟨_,s',aF,hq,jV,rfl⟩
  ·exact JS
  ·exact JW
def KJ(tmps:Array Value)(r:ResultVar):Sem Value:=
 match r with
 | .tmp t=>pure (tmps.getD t undef)
 | .cell p t=>do loadVar t (<- asAddr (tmps.getD p undef))
theorem tU(qx:az M φ s.H w)(ej:∀i,V.den (ak M φ s.H) φ s.H w (s.env i) (a.tmps.getD i undef)):∀ (rs:List ResultVar) (vs:List V),lY P s rs=some vs->
 ∃vals,(rs.mapM (KJ a.tmps)).run P w= .ok vals w/\V.aC (ak M φ s.H) φ s.H w vs vals
 |[],vs,h=>by simp[lY]at h;subst h;exact⟨[],aE,rfl⟩
 | .tmp t::rs,vs,h=>by
   simp only[lY,Option.map_eq_some_iff]at h
   obtain⟨us,h1,rfl⟩:=h
   obtain⟨vals,h2,h3⟩:=tU qx ej rs us h1
   exact⟨a.tmps.getD t undef::vals,by simp only[List.mapM_cons,KJ,Sem.run_bind,Sem.run_pure,Result.andThen_ok,h2],_,_,rfl,ej t,h3⟩
 | .cell p t::rs,vs,h=>by
   simp only[lY]at h
   split at h
   ·rename_i id off hv
    split at h
    ·rename_i cs ho
     simp only[Option.bind_eq_some_iff,Option.map_eq_some_iff]at h
     obtain⟨v,h0,us,h1,rfl⟩:=h
     obtain⟨vals,h2,h3⟩:=tU qx ej rs us h1
     have hx:=ej p
     rw[hv]at hx
     obtain⟨_,hu,hp⟩:=hx
     obtain⟨k,eM,fG⟩:=hp (by show(s.o id).ct=true;rw[ho];rfl)
     have aV:=qx.ok id
     have xm:s.H.o id= .row cs:=ho
     simp only[aR,xm]at aV
     obtain⟨b',dU,ty,g1,g2,g3,g4⟩:=aV
     rw[eM]at g1;simp at g1;subst g1
     obtain⟨val,h4,h5⟩:=qf (P:=P) h0 ⟨k,0,none⟩ dU.toList g3 g4 (fun j u hj=>qg g2 j u mL) rfl
     rw[add_plain,Nat.zero_add]at h4
     have h6:(loadVar t ⟨k,off,none⟩).run P w= .ok val w:=by simpa[Instr.loadAt,Instr.sureAddr]using h4
     exact⟨val::vals,by simp only[List.mapM_cons,KJ,fG,asAddr,Sem.run_bind,Sem.run_pure,Result.andThen_ok,h6,h2],val,vals,rfl,h5,h3⟩
    ·cases h
   ·cases h
theorem ng{fn:Func}{tmps:Array Value}{vals:List Value}
 (h:(fn.results.toList.mapM (KJ tmps)).run P w= .ok vals w):
 (results fn tmps).run P w= .ok (if h:vals.toArray.size=1 then vals.toArray[0]else .tuple vals.toArray) w:=by
 have e:results fn tmps=(do let vs <- fn.results.mapM (KJ tmps);pure (if h:vs.size=1 then vs[0]else .tuple vs)):=by
  unfold results
  congr 2
 rw[e,Array.mapM_eq_mapM_toList]
 simp only[Sem.run_bind,Sem.run_map,h,Result.andThen_ok,Sem.run_pure]
theorem n6{us:Nat->Prop}(φ:Place)(hM:∀k,M k->k<w.heap.size):az M φ ⟨fun _=> .no,us⟩ w where
 ok id:=by simp[aR]
 fresh _ _:=rfl
 apart i j k hi:=by simp[ad.live]at hi
 ours k:=by rintro⟨id,h,_⟩;simp[ad.live]at h
 AR:=hM
theorem Ia{vals:Array Value}{m i:Nat}:(vals++Array.replicate m undef).getD i undef=(vals[i]?).getD undef:=by
 simp only[Array.getD_eq_getD_getElem?,Array.getElem?_append]
 split
 ·rfl
 ·rw[Array.getElem?_eq_none (xs:=vals) (by omega)]
  simp only[Array.getElem?_replicate]
  split<;>rfl
structure zw (M:Nat->Prop) (cL:Place) (H0:Hp) (w0:World) (φ:Place) (s:S) (tmps:Array Value) (w:World):Prop where
 heap:az M φ s.H w
 tr:Trans cL H0 w0 φ s.H w
 env:∀i,V.den (ak M φ s.H) φ s.H w (s.env i) (tmps.getD i undef)
theorem Ib{tmps:Array Value}(hs:zw M cL H0 w0 φ s tmps w){r:Nat}(h1:w0.heap.size<=r)(h2:w.heap[r]? =some (.deferred (some [])))(h3: ¬cG φ s.H r):
 zw M cL H0 w0 φ s tmps {w with heap:=w.heap.setIfInBounds r (.deferred none)}:=by
 have iZ:∀b,b≠r->(w.heap.setIfInBounds r (.deferred none))[b]? =w.heap[b]? :=fun b hb=>(MapKept.heap_set h2).2 b hb
 have uG:∀b,c8 w b-> ¬ak M φ s.H b->(w.heap.setIfInBounds r (.deferred none))[b]? =w.heap[b]? /\ ¬ak M φ s.H b:=by
  intro b hc hn
  refine⟨iZ b fun e=> ?_,hn⟩
  subst e
  rcases hc with⟨cs,ty,fz,hc⟩|⟨es,clock,hc⟩
  ·rw[h2]at hc;cases hc
  ·rw[h2]at hc;cases hc
 refine⟨⟨fun id=> ?_,hs.heap.fresh,hs.heap.apart,fun b hb=>⟨(hs.heap.ours b hb).1,by simpa using(hs.heap.ours b hb).2⟩,fun b hb=>by simpa using hs.heap.AR b hb⟩,⟨⟨hs.tr.cH.os,hs.tr.cH.tape,hs.tr.cH.output,by simpa using hs.tr.cH.size,fun j hj hm=> ?_⟩,hs.tr.grow,hs.tr.rel⟩,fun i=>V.kV uG (dV.refl _ _) _ _ (hs.env i)⟩
 ·exact aR.Bo uG (dV.refl _ _) rfl rfl (fun hl b hb=>iZ b fun e=>h3 ⟨id,hl,e ▸ hb⟩) (hs.heap.ok id)
 ·rw[iZ j (by omega)];exact hs.tr.cH.block j hj hm
theorem gK{fn:Func}{R:Ending->World->Prop}{u:FrameMode}(hu:u≠ .run){tmps tb:Array Value}{ds:List Deferred}(hR:∀w,zw M cL H0 w0 φ s tb w->LeavesInM (dP none) k P fn tmps R ds u w):
 ∀ (ms:List Nat) (w:World),ms.Nodup->(∀r∈ms,w0.heap.size<=r/\w.heap[r]? =some (.deferred (some []))/\ ¬cG φ s.H r)->zw M cL H0 w0 φ s tb w->LeavesInM (dP none) k P fn tmps R (ms.map mark++ds) u w
 |[],w,_,_,hs=>hR w hs
 |r::ms,w,hn,hm,hs=>by
  obtain⟨h1,h2,h3⟩:=hm r aE
  obtain⟨Nf,M7⟩:=List.nodup_cons.1 hn
  refine⟨hu, .inl ⟨r,{w with heap:=w.heap.setIfInBounds r (.deferred none)},rfl, ?_,gK hu hR ms _ M7 (fun r' HY=> ?_) (Ib hs h1 h2 h3)⟩⟩
  ·simp[Instr.takeDeferred,getObj,setObj,Sem.run,h2,Result.andThen]
  ·obtain⟨g1,g2,g3⟩:=hm r' (by simp[HY])
   exact⟨g1,((MapKept.heap_set h2).2 r' (fun e=>Nf (e ▸ HY))).trans g2,g3⟩
theorem cf.toB (hs:cf M cL H0 w0 n cx φ s a w):zw M cL H0 w0 φ s a.tmps w:=⟨hs.heap,hs.tr,hs.env⟩
def l0(P:Program)(rs:List ResultVar)(K X:V->(Nat->ad)->Nat->Prop)(e:fH)(s:S):Prop:=
 match e with
 | .normal| .ret=>match lY P s rs with
   |some [v]=>K v s.o s.nx
   |some vs=>K (.bP vs) s.o s.nx
   |none=>False
 | .bJ v=>X v s.o s.nx
 | .exit _=>False
theorem BS{P:Program}{rs:List ResultVar}{K X:V->(Nat->ad)->Nat->Prop}{s:S}(h:l0 P rs K X .ret s):∃vs,lY P s rs=some vs/\K (match vs with|[v]=>v|vs=> .bP vs) s.o s.nx:=by
 unfold l0 at h
 simp only at h
 split at h
 ·rename_i v h1;exact⟨[v],h1,h⟩
 ·rename_i vs h1 h2
  refine⟨vs,h2, ?_⟩
  split
  ·exact absurd rfl (h1 _)
  ·exact h
 ·exact h.elim
theorem BT:∀ {vs:List V} {vals:List Value},V.aC (ak M φ H) φ H w vs vals->V.den (ak M φ H) φ H w (match vs with|[v]=>v|vs=> .bP vs) (if h:vals.toArray.size=1 then vals.toArray[0]else .tuple vals.toArray)
 |[],vals,h=>by simp only[V.aC]at h;subst h;exact⟨#[],rfl,rfl⟩
 |[v],vals,h=>by obtain⟨u,us,rfl,h1,h2⟩:=h;simp only[V.aC]at h2;subst h2;exact h1
 |v::y::l,vals,h=>by
  have h':=h
  obtain⟨u,us,rfl,h1,u2,us2,rfl,h2⟩:=h
  exact⟨(u::u2::us2).toArray,aE,by simpa using h'⟩
theorem Bg{vals:Array Value}{m:Nat}{vs:List V}(hd:V.aC (ak M φ H) φ H w vs vals.toList)(i:Nat):V.den (ak M φ H) φ H w (cw vs i) ((vals++Array.replicate m undef).getD i undef):=by
 have hlen:=V.aA _ _ hd
 simp only[cw,Ia]
 cases hx:vs[i]? with
 |none=>
  have:vals[i]? =none:=by
   rw[List.getElem?_eq_none_iff]at hx
   apply Array.getElem?_eq_none
   simp at hlen;omega
  simp only[List.getD_eq_getElem?_getD,hx,this]
  exact⟨#[],rfl,rfl⟩
 |some v=>
  obtain⟨u,hu,NN⟩:=V.dp _ _ _ _ hd hx
  have A9:vals[i]? =some u:=by simpa using hu
  simp only[List.getD_eq_getElem?_getD,hx,A9,Option.getD_some]
  exact NN
theorem nh{f:FuncId}{fn:Func}{c:Code}{args:Array Value}{w:World}{R:Ending->World->Prop}(hf:P.funcs[f]? =some fn)(hb:fn.body=some c)
 (h:c.tD P none (bodyPostM (dP none) k P fn R) {tmps:=args++Array.replicate (fn.ntmps - args.size) undef,defers:=[]} w):CallsIn (dP none) k P f args w R:=by
 have ck:f<P.funcs.size:=(Array.getElem?_eq_some_iff.1 hf).1
 refine⟨trivial,fun cs hr=> ?_⟩
 let b:Frame:={(default:Frame)with fn:=f,kind:= .normal,roundOf:=none}
 have lZ:Frame.enter P f args .normal=b.atR {tmps:=args++Array.replicate (fn.ntmps - args.size) undef,defers:=[]} [.code c]:=by
  simp[Frame.enter,Frame.atR,hf,hb,b]
 obtain⟨e,a',w',hq,dn⟩:=h b [] cs rfl ck
 rw[<- lZ]at dn
 cases e with
 |normal=>
  obtain⟨e',Tx,fr',hR,hs,Jh,hl⟩:=leaves_stepsInM a'.defers .returning w' {b.atR a' []with mode:= .returning} cs rfl rfl rfl hf rfl (trivial:(dP none).fn f) hr hq
  exact⟨e',Tx,fr',hR,ComesIn.of_steps (StepsIn.trans dn (.one (fenced_calm (n:=0) (fr:=b.atR a' []) trivial gI rfl) (stepR_end rfl))) hs,Jh,hl⟩
 |ret=>
  obtain⟨todo,Qt⟩:=dn.1 rfl
  obtain⟨e',Tx,fr',hR,hs,Jh,hl⟩:=leaves_stepsInM a'.defers .returning w' {b.atR a' todo with mode:= .returning} cs rfl rfl rfl hf rfl (trivial:(dP none).fn f) hr hq
  exact Qs
 |panic chain=>
  obtain⟨todo,Qt⟩:=dn
  obtain⟨e',Tx,fr',hR,hs,Jh,hl⟩:=leaves_stepsInM a'.defers (.panicking chain) w' {b.atR a' todo with mode:= .panicking chain} cs rfl rfl rfl hf rfl (trivial:(dP none).fn f) hr hq
  exact Qs
 |exit id=>exact hq.elim
 |goto l=>exact hq.elim
 |outgrown=>exact⟨.outgrown,w',b,hq,dn.resolve_left (by simp[b]),rfl,trivial⟩
def Ed(P:Program)(l:Nat)(R:Ending->World->Prop):Exit->Act->World->Prop
 | .normal,_,w=>∃v w',(Instr.endRound l none).run P w= .ok v w'/\R (.returned v) w'
 | .ret,_,w=>∃v w',(Instr.endRound l (some .ret)).run P w= .ok v w'/\R (.returned v) w'
 | .exit id,_,w=>∃v w',(Instr.endRound l (some (.exit id))).run P w= .ok v w'/\R (.returned v) w'
 | .goto _,_,_=>False
 | .panic chain,a,w=>a.defers=[]/\R (.panicked chain) w
 | .outgrown,_,_=>False
theorem uW{l:Nat}{f:FuncId}{tmps:Array Value}{assign body:Code}{w:World}{R:Ending->World->Prop}(hf:f<P.funcs.size)
 (h:assign.tD P (some l) (Exit.then (fun oA js=>∃rU,(Instr.beginRound l).run P js= .ok () rU/\body.tD P (some l) (Ed P l R) oA rU) (fun e a w=>match e with| .panic chain=>a.defers=[]/\R (.panicked chain) w|_=>False))
  {tmps:=tmps,defers:=[]} w):
 RoundIn Fence.wide n P l f tmps assign body w R:=by
 refine⟨trivial,fun c cs hr=> ?_⟩
 let b:Frame:={(default:Frame)with fn:=f,kind:= .normal,roundOf:=some l}
 have hb0:Frame.round l f tmps assign body .normal=b.atR {tmps:=tmps,defers:=[]} [.code assign, .beginRound, .code body]:=by
  simp[Frame.round,Frame.atR,b]
 have calm:∀ (m:Machine),m.fenced P Fence.wide:=fun m=>fenced_wide P m
 have bJ:∀ {a:Act} {w:World} {todo:List Item} {chain:List PanicEntry},a.defers=[]->step P (lone {b.atR a todo with mode:= .panicking chain} (c::cs) w)= .next (lone (c.raise chain) cs w):=by
  intro a w todo chain hd
  exact step_leave_panicked (fr:={b.atR a todo with mode:= .panicking chain}) ⟨rfl,hd,P.funcs[f],by show P.funcs[f]? =_;simp[hf]⟩
 obtain⟨e,oA,js,hq,dn⟩:=h b [.beginRound, .code body] (c::cs) rfl hf
 rw[<- hb0]at dn
 cases e with
 |normal=>
  obtain⟨rU,Xa,qy⟩:=hq
  have s1:StepsIn (Machine.fenced P Fence.wide) P (lone (b.atR oA [.beginRound, .code body]) (c::cs) js) (lone (b.atR oA [.code body]) (c::cs) rU):= .one (calm _) (stepR_beginRound rfl Xa)
  obtain⟨TZ,aab,D9,qu,ko⟩:=qy b [] (c::cs) rfl hf
  have dn:StepsIn (Machine.fenced P Fence.wide) P _ _:=dn
  cases TZ with
  |normal=>
   obtain⟨v,tE,eD,hR⟩:=qu
   have ko:StepsIn (Machine.fenced P Fence.wide) P _ _:=ko
   exact⟨.returned v,tE,hR,(StepsIn.trans dn s1).trans (StepsIn.trans ko (.one (calm _) (stepR_round_end rfl rfl eD)))⟩
  |ret=>
   obtain⟨v,tE,eD,hR⟩:=qu
   obtain⟨k₁,hs⟩:=ko.2 rfl
   have hs:StepsIn (Machine.fenced P Fence.wide) P _ _:=hs
   exact⟨.returned v,tE,hR,(StepsIn.trans dn s1).trans (StepsIn.trans hs (.one (calm _) (stepR_round_ret rfl rfl eD)))⟩
  |exit id=>
   obtain⟨v,tE,eD,hR⟩:=qu
   obtain⟨k₁,hk,hs⟩:=ko.2 rfl rfl
   have hs:StepsIn (Machine.fenced P Fence.wide) P _ _:=hs
   exact⟨.returned v,tE,hR,(StepsIn.trans dn s1).trans (StepsIn.trans hs (.one (calm _) (stepR_round_exit rfl rfl hk eD)))⟩
  |goto t=>exact qu.elim
  |panic chain=>
   obtain⟨todo,hs⟩:=ko
   have hs:StepsIn (Machine.fenced P Fence.wide) P _ _:=hs
   exact⟨.panicked chain,D9,qu.2,(StepsIn.trans dn s1).trans (StepsIn.trans hs (.one (calm _) (bJ qu.1)))⟩
  |outgrown=>exact qu.elim
 |exit id=>exact hq.elim
 |goto t=>exact hq.elim
 |ret=>exact hq.elim
 |panic chain=>
  obtain⟨todo,hs⟩:=dn
  have hs:StepsIn (Machine.fenced P Fence.wide) P _ _:=hs
  exact⟨.panicked chain,js,hq.2,StepsIn.trans hs (.one (calm _) (bJ hq.1))⟩
 |outgrown=>exact hq.elim
theorem bQ.F9 {f:FuncId}{fn:Func}{c:Code}{args:List V}{o:Nat->ad}{nx:Nat}{K X:V->(Nat->ad)->Nat->Prop}(hf:P.funcs[f]? =some fn)(hn:(fn.name== "runtime.NumGoroutine")=false)(qy:fn.body=some c)(hl:args.length<=fn.ntmps)
 (h:ja P fn.ntmps nx false c (l0 P fn.results.toList K X) ⟨cw args,o,nx⟩):bQ P f args o nx K X:=by
 refine⟨⟨fn,hf,hn,by rw[qy];rfl⟩,fun M φ w vals hH hd=> ?_⟩
 have hlen:=V.aA _ _ hd
 let s0:S:=⟨cw args,o,nx⟩
 let a0:Act:={tmps:=vals++Array.replicate (fn.ntmps - vals.size) undef,defers:=[]}
 have oC:cf M φ (hp o nx) w fn.ntmps ⟨[],false⟩ φ s0 a0 w:=by
  exact ZC
 refine BK (ro:=none) (k:=0) (nh hf qy (gJ (hU (P:=P) (H0:=hp o nx) (b:=nx) (cx:=⟨[],false⟩) (ro:=none) (fun id hu=>hu) (fun _=>rfl) c _ s0 φ a0 w h oC) ?_))
 rintro e a w' ⟨x,s,aF,hq,hs,hm⟩
 obtain⟨ms,g1,g2,g3,g4⟩:=hs.defers
 rw[List.append_nil]at g1
 have done:(x= .normal\/x= .ret)->LeavesInM (dP none) 0 P fn a.tmps (mZ M φ (hp o nx) w K X) a.defers .returning w':=by
  intro hx
  have hq':l0 P fn.results.toList K X .ret s:=by rcases hx with rfl|rfl<;>exact hq
  obtain⟨vs,h1,h2⟩:=BS hq'
  rw[g1]
  have:=gK (P:=P) (k:=0) (fn:=fn) (R:=mZ M φ (hp o nx) w K X) (u:= .returning) aE (ds:=[]) (fun w2 hb=>by
   obtain⟨vals,h3,h4⟩:=tU (P:=P) (a:=a) hb.heap hb.env _ _ h1
   exact⟨_,ng h3,aF,s.o,s.nx,_,hb.heap,hb.tr,BT h4,h2⟩) ms w' g2 g4 hs.toB
  rwa [List.append_nil]at this
 cases e<;>cases x<;>first|(exact hm.elim)|skip
 ·exact done (.inl rfl)
 ·exact hq.elim
 ·exact done (.inr rfl)
 ·rename_i v
  obtain⟨val,rfl,N4⟩:=hm
  show LeavesInM (dP none) 0 P fn a.tmps (mZ M φ (hp o nx) w K X) a.defers _ w'
  rw[g1]
  have hb0:zw M φ (hp o nx) w aF ⟨fun i=>if i=0 then v else .aa,s.o,s.nx⟩ #[val] w':=⟨hs.heap,hs.tr,fun i=>by
   by_cases hi:i=0
   ·subst hi;exact N4
   ·simp only[hi,if_false];trivial⟩
  have:=gK (P:=P) (k:=0) (fn:=fn) (s:=⟨fun i=>if i=0 then v else .aa,s.o,s.nx⟩) (tmps:=a.tmps) (tb:=#[val]) (cL:=φ) (H0:=hp o nx) (w0:=w) (R:=mZ M φ (hp o nx) w K X) (u:= .panicking [{v:=val,recovered:=false}]) aE (ds:=[]) (fun w2 hb=>by
   have h0:=hb.env 0
   exact⟨aF,s.o,s.nx,v,hb.heap,hb.tr,val,rfl,h0,hq⟩) ms w' g2 g4 hb0
  rwa [List.append_nil]at this
theorem aW.kF {f:FuncId}{ds:List D}{out:R}(h:bQ P f (ds.map .d) (fun _=> .no) 0 (fun v o _=>∃vs rs,v=(match vs with|[v]=>v|vs=> .bP vs)/\cc o vs=some rs/\out= .ret rs) (fun v o _=>∃x,dN o v=some x/\out= .bJ x)):aW P f ds out:=by
 refine⟨h.1,fun M w vals hM hd=> ?_⟩
 let cL:Place:=fun _=> .nilFunc
 have uX:∀b, ¬cG cL (hp (fun _=> .no) 0) b:=by rintro b ⟨id,hl,_⟩;simp[hp,ad.live]at hl
 refine(h.2 M cL w vals (n6 cL hM) ((V.cI _ _).2 (D.aT (w:=w) (w':=w) (B:=M) (fun b _ hB=>⟨rfl,fun h=>h.elim hB (uX b)⟩) _ _ hd))).mono ?_
 rintro e w' ⟨aF,o',nx',v,k1,k2,k3⟩
 have Ga:ei (fun _=>False) w w':=⟨k2.cH.os,k2.cH.tape,k2.cH.output,k2.cH.size,fun k hk _=>k2.cH.block k hk (uX k)⟩
 have fin:∀ (vs:List V) (xs:List D) (vals:List Value),cc o' vs=some xs->V.aC (ak M aF (hp o' nx')) aF (hp o' nx') w' vs vals->D.aC M w' xs vals:=by
  intro vs xs vals h1 h2
  obtain⟨f1,f2,f3,f4,f5⟩:=cW k1 (V.ba vs) (da vs _ h2)
  have h3:=dt f1 vs xs vals f3 h1 (V.aT f2 _ _ h2)
  exact D.aT (w:=w') (w':=w') (fun k _ hB=>⟨rfl,fun hM=>hB (.inl hM)⟩) xs vals h3
 refine⟨Ga, ?_⟩
 cases e with
 |outgrown=>exact k3.elim
 |panicked ch=>
  obtain⟨val,rfl,g1,x,g2,rfl⟩:=k3
  have:=fin [v] [x] [val] (by simp[cc,g2]) ⟨val,[],rfl,g1,rfl⟩
  obtain⟨u,us,he,h2,_⟩:=this
  simp at he;obtain⟨rfl,rfl⟩:=he
  exact⟨val,rfl,h2⟩
 |returned val=>
  obtain⟨g1,vs,rs,rfl,g2,rfl⟩:=k3
  match vs,g1,g2 with
  |[],g1,g2=>
   obtain⟨arr,rfl,hv⟩:=g1
   simp only[cc,Option.some.injEq]at g2;subst g2
   exact⟨arr,rfl,hv⟩
  |[v],g1,g2=>
   have:=fin [v] rs [val] g2 ⟨val,[],rfl,g1,rfl⟩
   cases rs with
   |nil=>cases this
   |cons x l=>
    obtain⟨u,us,he,h2,h3⟩:=this
    simp at he;obtain⟨rfl,rfl⟩:=he
    cases l with
    |nil=>exact h2
    |cons y l=>obtain⟨_,_,h,_⟩:=h3;cases h
  |v::v2::l,g1,g2=>
   obtain⟨arr,rfl,h⟩:=g1
   have:=fin (v::v2::l) rs arr.toList g2 h
   have hl:=D.aA _ _ this
   have Zj:=V.aA _ _ h
   match rs,hl,this with
   |[],hl,_=>exact FB
   |[x],hl,_=>exact FB
   |x::y::l,_,this=>exact⟨arr,rfl,this⟩
theorem Ic{rs:List ResultVar}{out:R}(e:fH)(s:S)(h:zo P rs out e s):
 l0 P rs (fun v o _=>∃vs rs,v=(match vs with|[v]=>v|vs=> .bP vs)/\cc o vs=some rs/\out= .ret rs) (fun v o _=>∃x,dN o v=some x/\out= .bJ x) e s:=by
 have ret:zo P rs out .ret s->l0 P rs (fun v o _=>∃vs rs,v=(match vs with|[v]=>v|vs=> .bP vs)/\cc o vs=some rs/\out= .ret rs) (fun v o _=>∃x,dN o v=some x/\out= .bJ x) .ret s:=by
  intro h
  obtain⟨vs,xs,h1,h2,h3⟩:=Ky h
  simp only[l0,h1]
  match vs,h2 with
  |[],h2=>exact⟨[],xs,rfl,h2,h3⟩
  |[v],h2=>exact⟨[v],xs,rfl,h2,h3⟩
  |v::v2::l,h2=>exact⟨v::v2::l,xs,rfl,h2,h3⟩
 cases e with
 |normal=>exact ret h
 |ret=>exact ret h
 |exit id=>exact h.elim
 |bJ v=>exact Kz h
end
end
section
def KK{α:Type}(c:Bool)(x:α):Option α:=if c=true then some x else none
def one(v:V):Option fS:=some (v,[],[])
def BU(op:BinOp)(k:IntKind)(a b:Int):Option V:=
 match op with
 | .add=>some (.d (.int k (k.wrap (a+b))))
 | .sub=>some (.d (.int k (k.wrap (a - b))))
 | .mul=>some (.d (.int k (k.wrap (a*b))))
 | .quo=>if b=0 then none else some (.d (.int k (k.wrap (a.tdiv b))))
 | .rem=>if b=0 then none else some (.d (.int k (a.tmod b)))
 | .and=>(uA .and k a b).map fun r=> .d (.int k r)
 | .or=>(uA .or k a b).map fun r=> .d (.int k r)
 | .xor=>(uA .xor k a b).map fun r=> .d (.int k r)
 | .andNot=>(uA .andNot k a b).map fun r=> .d (.int k r)
 | .eql=>some (.d (.bool (a==b)))| .neq=>some (.d (.bool (a !=b)))| .lss=>some (.d (.bool (decide (a<b))))| .leq=>some (.d (.bool (decide (a<=b))))
 | .gtr=>some (.d (.bool (decide (b<a))))| .geq=>some (.d (.bool (decide (b<=a))))
 |_=>none
def n9(P:Program)(t:TypeId):Bool:=
 match P.underlying t with
 |some .bool=>true
 |_=>false
def zA(P:Program)(op:BinOp)(t:TypeId)(x y:V):Option V:=
 match x,y with
 | .d (.int k a), .d (.int k' b)=>if k=k' then BU op k a b else none
 | .d (.bool a), .d (.bool b)=>match op with
   | .eql=>KK (n9 P t) (.d (.bool (a==b)))
   | .neq=>KK (n9 P t) (.d (.bool (a !=b)))
   |_=>none
 | .d (.str a), .d (.str b)=>match op with
   | .eql=>some (.d (.bool (a==b)))
   | .neq=>some (.d (.bool (a !=b)))
   |_=>none
 |_,_=>none
def unF(op:UnOp)(x:V):Option V:=
 match op,x with
 | .neg, .d (.int k n)=>some (.d (.int k (k.wrap (-n))))
 | .not, .d (.bool b)=>some (.d (.bool !b))
 |_,_=>none
def qz(c a b:V):Option V:=
 match c with
 | .d (.bool true)=>some a
 | .d (.bool false)=>some b
 |_=>none
def qA(o:Nat->ad)(x:V):Option (List D×List Nat):=
 match x with
 | .d (.sl es)=>some (es,[])
 | .aq=>some ([],[])
 | .oM es=>some (es,[])
 | .osl id ep=>match o id with
   | .arr fR _ _ es=>if ep=fR then some (es,[id])else none
   | .tP fR es=>if ep=fR then some (es,[id])else none
   |_=>none
 |_=>none
def Ee(P:Program)(t:TypeId)(o:Nat->ad)(x:V):Option fS:=
 match P.underlying t with
 |some (.slice _)=>match qA o x with
  |some (es,rd)=>some (.d (.int .i64 es.length),[],rd)
  |none=>none
 |some .string=>match x with
  | .d (.str s)=>one (.d (.int .i64 s.length))
  |_=>none
 |some (.array n _)=>one (.d (.int .i64 n))
 |_=>none
def xY(P:Program)(e:TypeId)(es:List D)(i:Int)(rd:List Nat):Option fS:=
 if 0<=i then match es[i.toNat]? with
  |some y=>KK (y.cells.length==P.cellsOf e&&0<P.cellsOf e) (.pp y.cells 0,[],rd)
  |none=>none
 else none
def oW(o:Nat->ad)(x:V)(q:Nat):Option V:=
 match x with
 | .ptr id off=>KK (o id).ct (.ptr id (off+q))
 | .pp cs off=>some (.pp cs (off+q))
 | .pe id ep j sz off=>if(o id).cq=some ep then some (.pe id ep j sz (off+q))else none
 |_=>none
def hY(P:Program)(o:Nat->ad)(t:TypeId)(x ix:V):Option fS:=
 match ix with
 | .d (.int _ i)=>match b7 P t with
   |some e=>match x with
    | .d (.sl es)=>xY P e es i []
    | .oM es=>xY P e es i []
    | .osl id ep=>match o id with
      | .arr fR _ sz es=>if ep=fR/\0<=i/\i.toNat<es.length/\sz=P.cellsOf e/\0<P.cellsOf e then some (.pe id ep i.toNat sz 0,[],[id])else none
      | .tP fR es=>if ep=fR then xY P e es i [id]else none
      |_=>none
    |_=>none
   |none=>match yZ P t with
    |some (n,e)=>if 0<=i/\i<n/\(P.info? e).isSome=true then(oW o x (i.toNat*P.cellsOf e)).bind one else none
    |none=>none
 |_=>none
def hZ(P:Program)(o:Nat->ad)(t:TypeId)(x:V)(f:Nat):Option V:=
 match bU P t f with
 |some q=>oW o x q
 |none=>none
def ni(P:Program)(o:Nat->ad)(t:TypeId)(x:V):Option fS:=
 match x with
 | .ptr id off=>match o id with
   | .row cs=>match eQ P t cs off with
     |some v=>some (v,[],[id])
     |none=>none
   |_=>none
 | .pp cs off=>match eQ P t (cs.map .d) off with
   |some v=>some (v,[],[])
   |none=>none
 | .pe id ep i sz off=>match o id with
   | .arr fR _ rr es=>if ep=fR/\sz=rr then match es[i]? with
    |some e=>match eQ P t (e.cells.map .d) off with
     |some v=>some (v,[],[id])
     |none=>none
    |none=>none
     else none
   |_=>none
 |_=>none
def rV(P:Program)(o:Nat->ad)(t:TypeId)(x v:V):Option fS:=
 match x with
 | .ptr id off=>match o id with
   | .row cs=>match y0 P t cs off v with
     |some cs'=>some (.bP [],[(id, .row cs')],[id])
     |none=>none
   |_=>none
 | .pe id ep i rr off=>match o id with
   | .arr fR ty sz es=>if ep=fR/\rr=sz then match es[i]?,dN o v with
    |some e,some y=>if y.cells.length=P.cellsOf t/\0<y.cells.length/\v.ids.all (· !=id)=true then match e.put off y.cells with
     |some e'=>some (.bP [],bw o v.ids++[(id, .arr ep ty sz (es.set i e'))],id::v.ids)
     |none=>none
     else none
    |_,_=>none
     else none
   |_=>none
 |_=>none
def fZ(P:Program)(o:Nat->ad)(fr:Nat)(t:TypeId)(len:Nat)(parts:List (Nat×V)):Option fS:=
 match b7 P t with
 |some e=>if len=0/\parts.isEmpty=true/\0<P.cellsOf e then some (.osl fr 0,[(fr, .arr 0 e (P.cellsOf e) [])],[])else if parts.map (·.1)=List.range len/\(cB P e).isSome=true/\0<len/\0<P.cellsOf e/\len*P.cellsOf e<=2^24 then match cc o (parts.map (·.2))with
  |some ds=>if ds.all (fun x=>x.cells.length==P.cellsOf e)=true then some (.osl fr 0,bw o (V.ba (parts.map (·.2)))++[(fr, .arr 0 e (P.cellsOf e) ds)],V.ba (parts.map (·.2)))else none
  |none=>none
  else none
 |none=>none
def l6(P:Program)(fr:Nat)(t:TypeId)(l c:V):Option fS:=
 match b7 P t with
 |some e=>match l,c with
  | .d (.int _ n), .d (.int _ m)=>if n=m/\0<=n/\0<P.cellsOf e/\P.bytesOf e*n.toNat<=2^47/\n.toNat<=2^47 then match Bk P e with
   |some x=>some (.osl fr 0,[(fr, .arr 0 e (P.cellsOf e) (List.replicate n.toNat x))],[])
   |none=>none
    else none
  |_,_=>none
 |none=>none
def qB(P:Program)(o:Nat->ad)(fr:Nat)(ts:Array TypeId)(x y:V):Option fS:=
 match ts.toList with
 |[t,t']=>if t=t' then match b7 P t,qA o y with
    |some e,some (new,rd)=>if 0<P.cellsOf e/\(cB P e).isSome=true/\new.all (fun z=>z.cells.length==P.cellsOf e)=true then match x with
     | .aq=>if new.length<=2^47/\new.length*P.bytesOf e<=2^47 then some (.osl fr 0,[(fr, .arr 0 e (P.cellsOf e) new)],rd)else none
     | .oM es=>if es.all (fun z=>z.cells.length==P.cellsOf e)=true then(if new=[]then some (.oM es,[],rd)else if es.length+new.length<=2^40/\(es.length+new.length)*P.bytesOf e<=2^40 then some (.osl fr 0,[(fr, .arr 0 e (P.cellsOf e) (es++new))],rd)else none)else none
     | .osl id ep=>match o id with
       | .arr fR ty sz es=>if ep=fR/\ty=e/\sz=P.cellsOf e/\es.length+new.length<=2^47/\(es.length+new.length)*P.bytesOf e<=2^47 then
        some (.osl id (ep+1),[(id, .arr (ep+1) ty sz (es++new))],id::rd)else none
       |_=>none
     |_=>none
     else none
    |_,_=>none
  else none
 |_=>none
def qC(isMax:Bool)(x y:V):Option V:=
 match x,y with
 | .d (.int k a), .d (.int k' b)=>if k=k' then some (.d (.int k (if isMax then(if b>a then b else a)else(if b<a then b else a))))else none
 |_,_=>none
def l7(x:Option V):Option fS:=match x with|some v=>one v|none=>none
def qD(P:Program)(s:S)(fr:Nat)(b:Builtin)(args:List Operand)(ts:Array TypeId):Option fS:=
 match b,args with
 | .len,[x]=>match ts.toList with
   |[t]=>Ee P t s.o (s.ev x)
   |_=>none
 | .append,[x,y]=>match xD P fr ts (s.ev x) (s.ev y)with
   |some r=>some r
   |none=>qB P s.o fr ts (s.ev x) (s.ev y)
 | .max,[x,y]=>l7 (qC true (s.ev x) (s.ev y))
 | .min,[x,y]=>l7 (qC false (s.ev x) (s.ev y))
 | .max,[x,y,z]=>l7 (Ka (s.ev x) (s.ev y) (s.ev z))
 | .copy,[x,y]=>xC P s.o ts (s.ev x) (s.ev y)
 | .delete,[x,y]=>match ts.toList.head? with
   |some t=>nX P s.o t (s.ev x) (s.ev y)
   |none=>none
 | .cap,[x]=>NJ P ts (s.ev x)
 |_,_=>none
def zB(P:Program)(t:TypeId)(parts:List (Nat×V)):Option V:=
 match cB P t,cT P t with
 |some z,some pl=>match sO pl z parts with
  |some cs=>some (mq cs)
  |none=>none
 |_,_=>none
def jk(o:Nat->ad)(x:V):Option V:=
 match x with
 | .ptr id off=>KK (o id).ct (.ptr id off)
 | .pp cs off=>some (.pp cs off)
 | .func (.func f) first cap=>some (.func (.func f) first cap)
 |_=>none
def l8(P:Program)(t:TypeId):Bool:=
 match P.underlying t with
 |some (.interface _)=>false
 |some _=>true
 |none=>false
def KL(P:Program)(t:TypeId)(x:V):Option V:=
 KK (l8 P t) (match x with
  | .d y=> .d (.iface t y)
  |v=> .iface t v)
def ft(P:Program)(o:Nat->ad)(op:BinOp)(t:TypeId)(mQ:Bool)(x y:V):Option fS:=
 match zA P op t x y with
 |some v=>one v
 |none=>rN P o op t mQ x y
def Hz(op:UnOp)(x:V):Option V:=
 match op,x with
 | .not, .fw=>some .fw
 |op,x=>unF op x
def gA(P:Program)(s:S)(fr:Nat)(op:Op):Option fS:=
 match op with
 | .move x=>one (s.ev x)
 | .assign x=>one (s.ev x)
 | .pick c a b=>l7 (qz (s.ev c) (s.ev a) (s.ev b))
 | .alloc t=>match cB P t with
   |some cs=>some (.ptr fr 0,[(fr, .row cs)],[])
   |none=>none
 | .box _ x=>match(s.ev x).cells with
   |some cs=>some (.ptr fr 0,[(fr, .row cs)],[])
   |none=>none
 | .build t parts=>l7 (zB P t (parts.toList.map fun p=>(p.1,s.ev p.2)))
 | .buildSlice t len parts=>fZ P s.o fr t len (parts.toList.map fun p=>(p.1,s.ev p.2))
 | .load t x=>ni P s.o t (s.ev x)
 | .store t x v=>rV P s.o t (s.ev x) (s.ev v)
 | .nilCheck x=>l7 (jk s.o (s.ev x))
 | .binOp op t x y _=>ft P s.o op t (isConst x||isConst y) (s.ev x) (s.ev y)
 | .unOp op _ x=>l7 (Hz op (s.ev x))
 | .convert u t x=>match P.underlying u,o9 P t,s.ev x with
   |some _,some k, .d (.int _ n)=>one (.d (.int k (k.wrap n)))
   |_,_,_=>none
 | .makeInterface t x=>l7 (KL P t (s.ev x))
 | .makeFunc fn first cap=>one (.func fn (first.toList.map s.ev) (cap.toList.map s.ev))
 | .makeSlice t l c=>l6 P fr t (s.ev l) (s.ev c)
 | .fieldAddr t x f=>l7 (hZ P s.o t (s.ev x) f)
 | .indexAddr t x i=>hY P s.o t (s.ev x) (s.ev i)
 | .extract x i=>match s.ev x with
   | .bP vs=>match vs[i]? with
     |some v=>one v
     |none=>none
   |_=>none
 | .call c=>match c.callee with
   | .builtin b=>qD P s fr b c.args.toList c.argTypes
   |_=>none
 | .slice t x lo hi mx=>rK P s.o t (s.ev x) (lo.map s.ev) (hi.map s.ev) (mx.map s.ev)
 | .field t x f=>l7 (uC P t (s.ev x) f)
 | .index t x i=>l7 (uD P t (s.ev x) (s.ev i))
 | .typeAssert x _ t ok=>l7 (qb P t ok (s.ev x))
 | .makeMap t none=>mR P fr t
 | .lookup t m k ok=>jg P s.o t (s.ev m) (s.ev k) ok
 | .mapUpdate t m k v=>fN P s.o t (s.ev m) (s.ev k) (s.ev v)
 | .insert t m k v=>fN P s.o t (s.ev m) (s.ev k) (s.ev v)
 | .range t x=>mS P s.o fr t (s.ev x)
 | .next x str=>oR s.o (s.ev x) str
 | .entry x=>mT s.o (s.ev x)
 |_=>none
section
variable {P:Program}{s:S}{fr:Nat}{v:V}{Δ:List (Nat×ad)}{rd:List Nat}{o:Nat->ad}{K:V->List (Nat×ad)->List Nat->Prop}
theorem rW{α:Type}{c:Bool}{x y:α}(h:KK c x=some y):c=true/\x=y:=by
 unfold KK at h;split at h
 ·injection h with h;exact⟨by assumption,h⟩
 ·cases h
theorem kG{x:V}{r:fS}(h:one x=some r):r=(x,[],[]):=by unfold one at h;injection h with h;exact h.symm
theorem jf{x:Option V}{r:fS}(h:l7 x=some r):∃v,x=some v/\r=(v,[],[]):=by
 unfold l7 at h;split at h
 ·exact⟨_,rfl,kG h⟩
 ·cases h
theorem Eg{x:V}{es:List D}{rd:List Nat}(h:qA o x=some (es,rd)):eR o x=some es/\rd=x.ids:=by
 unfold qA at h
 split at h
 ·exact JL
 ·exact JL
 ·exact JL
 ·split at h
  ·rename_i ho
   split at h
   ·rename_i e;simp at h;obtain⟨rfl,rfl⟩:=h;exact⟨by simp[eR,dN,ho,e],rfl⟩
   ·cases h
  ·rename_i ho
   split at h
   ·rename_i e;simp at h;obtain⟨rfl,rfl⟩:=h;exact⟨by simp[eR,dN,ho,e],rfl⟩
   ·cases h
  ·cases h
 ·cases h
theorem Ie{op:BinOp}{k:IntKind}{a b:Int}{v:V}(h:BU op k a b=some v){K:V->Prop}(hK:K v):NG op k a b K:=by
 cases op<;>simp only[BU]at h<;>simp only[NG]
 case quo=>split at h
           ·cases h
           ·exact Tw
 case rem=>split at h
           ·cases h
           ·exact Tw
 case and=>simp only[Option.map_eq_some_iff]at h;obtain⟨r,h1,rfl⟩:=h;exact⟨r,h1,hK⟩
 case or=>simp only[Option.map_eq_some_iff]at h;obtain⟨r,h1,rfl⟩:=h;exact⟨r,h1,hK⟩
 case xor=>simp only[Option.map_eq_some_iff]at h;obtain⟨r,h1,rfl⟩:=h;exact⟨r,h1,hK⟩
 case andNot=>simp only[Option.map_eq_some_iff]at h;obtain⟨r,h1,rfl⟩:=h;exact⟨r,h1,hK⟩
 case shl=>cases h
 case shr=>cases h
 case eql=>injection h with h;subst h;exact⟨_,rfl,hK⟩
 case neq=>injection h with h;subst h;exact⟨_,rfl,hK⟩
 case lss=>injection h with h;subst h;exact⟨_,rfl,hK⟩
 case leq=>injection h with h;subst h;exact⟨_,rfl,hK⟩
 case gtr=>injection h with h;subst h;exact⟨_,rfl,hK⟩
 case geq=>injection h with h;subst h;exact⟨_,rfl,hK⟩
 all_goals (injection h with h;subst h;exact hK)
theorem Ig{op:BinOp}{t:TypeId}{x y v:V}(h:zA P op t x y=some v){K:V->Prop}(hK:K v):J8 P op t x y K:=by
 unfold zA at h
 unfold J8
 split at h
 ·split at h
  ·exact⟨by assumption,Ie h hK⟩
  ·cases h
 ·have hb:n9 P t=true->P.underlying t=some .bool:=by
   unfold n9;intro h;split at h
   ·assumption
   ·cases h
  split at h
  ·obtain⟨h1,rfl⟩:=rW h;exact⟨hb h1,hK⟩
  ·obtain⟨h1,rfl⟩:=rW h;exact⟨hb h1,hK⟩
  ·cases h
 ·split at h
  ·exact JI
  ·exact JI
  ·cases h
 ·cases h
theorem Eh{c a b v:V}(h:qz c a b=some v){K:V->Prop}(hK:K v):Bi c a b K:=by
 unfold qz at h
 unfold Bi
 split at h
 ·injection h with h;subst h;exact⟨fun _=>hK,(fun h=>by cases h)⟩
 ·injection h with h;subst h;exact⟨(fun h=>by cases h),fun _=>hK⟩
 ·cases h
theorem uY{x y:V}{q:Nat}(h:oW o x q=some y):(∃id off,x= .ptr id off/\(o id).ct=true/\y= .ptr id (off+q))\/(∃cs off,x= .pp cs off/\y= .pp cs (off+q))\/
 (∃id ep j sz off,x= .pe id ep j sz off/\(o id).cq=some ep/\y= .pe id ep j sz (off+q)):=by
 unfold oW at h
 split at h
 ·obtain⟨h1,rfl⟩:=rW h;exact .inl ⟨_,_,rfl,h1,rfl⟩
 ·injection h with h;exact .inr (.inl ⟨_,_,rfl,h.symm⟩)
 ·split at h
  ·injection h with h;exact .inr (.inr ⟨_,_,_,_,_,rfl,by assumption,h.symm⟩)
  ·cases h
 ·cases h
theorem uv{e:TypeId}{es:List D}{i:Int}{rd:List Nat}{r:fS}(h:xY P e es i rd=some r):
 0<=i/\∃y,es[i.toNat]? =some y/\y.cells.length=P.cellsOf e/\0<P.cellsOf e/\r=(.pp y.cells 0,[],rd):=by
 unfold xY at h
 split at h
 ·rename_i h0
  split at h
  ·rename_i y hy
   obtain⟨h1,rfl⟩:=rW h
   simp only[Bool.and_eq_true,beq_iff_eq,decide_eq_true_eq]at h1
   exact⟨h0,y,hy,h1.1,h1.2,rfl⟩
  ·cases h
 ·cases h
theorem tF{t:TypeId}{x ix:V}(h:hY P o t x ix=some (v,Δ,rd))(hK:K v Δ rd):jw P o t x ix fun v rd=>K v [] rd:=by
 unfold hY at h
 unfold jw
 split at h
 ·simp only
  split at h
  ·rename_i e ht
   simp only[ht]
   split at h
   ·exact Zt
   ·exact Zt
   ·split at h
    ·rename_i ho
     split at h
     ·rename_i hc
      simp only[Option.some.injEq,Prod.mk.injEq]at h;obtain⟨rfl,rfl,rfl⟩:=h
      simp only[ho]
      exact⟨hc.1,hc.2.1,hc.2.2.1,hc.2.2.2.1,hc.2.2.2.2,hK⟩
     ·cases h
    ·rename_i ho
     split at h
     ·rename_i hc
      obtain⟨h0,y,h1,h2,h3,h4⟩:=uv h
      simp only[Prod.mk.injEq]at h4;obtain⟨rfl,rfl,rfl⟩:=h4
      simp only[ho]
      exact⟨hc,h0,y,h1,h2,h3,hK⟩
     ·cases h
    ·cases h
   ·cases h
  ·rename_i ht
   simp only[ht]
   split at h
   ·rename_i n e ha
    simp only[ha]
    split at h
    ·rename_i hc
     simp only[Option.bind_eq_some_iff]at h
     obtain⟨y,hy,h1⟩:=h
     have h1:=kG h1
     simp only[Prod.mk.injEq]at h1;obtain⟨rfl,rfl,rfl⟩:=h1
     refine⟨hc.1,hc.2.1,hc.2.2, ?_⟩
     rcases uY hy with⟨_,_,rfl,h2,rfl⟩|⟨_,_,rfl,rfl⟩|⟨_,_,_,_,_,rfl,h2,rfl⟩
     ·exact⟨h2,hK⟩
     ·exact hK
     ·exact⟨h2,hK⟩
    ·cases h
   ·cases h
 ·cases h
theorem tG{t:TypeId}{x y:V}{f:Nat}(h:hZ P o t x f=some y){K:V->Prop}(hK:K y):jA P o t x f K:=by
 unfold hZ at h
 unfold jA
 split at h
 ·rename_i q hq
  simp only[hq]
  rcases uY h with⟨_,_,rfl,h2,rfl⟩|⟨_,_,rfl,rfl⟩|⟨_,_,_,_,_,rfl,h2,rfl⟩
  ·exact⟨h2,hK⟩
  ·exact hK
  ·exact⟨h2,hK⟩
 ·cases h
theorem Ih{t:TypeId}{x:V}(h:Ee P t o x=some (v,Δ,rd))(hK:K v Δ rd):J9 P t o x fun v rd=>K v [] rd:=by
 unfold Ee at h
 unfold J9
 split at h
 ·rename_i e hu
  simp only[hu]
  split at h
  ·rename_i es tO hl
   simp only[Option.some.injEq,Prod.mk.injEq]at h;obtain⟨rfl,rfl,rfl⟩:=h
   unfold qA at hl
   split at hl
   ·exact JN
   ·exact JN
   ·exact JN
   ·split at hl
    ·rename_i ho
     split at hl
     ·rename_i hc;simp at hl;obtain⟨rfl,rfl⟩:=hl;simp only[ho];exact⟨hc,hK⟩
     ·cases hl
    ·rename_i ho
     split at hl
     ·rename_i hc;simp at hl;obtain⟨rfl,rfl⟩:=hl;simp only[ho];exact⟨hc,hK⟩
     ·cases hl
    ·cases hl
   ·cases hl
  ·cases h
 ·rename_i hu
  simp only[hu]
  split at h
  ·have h1:=kG h;simp only[Prod.mk.injEq]at h1;obtain⟨rfl,rfl,rfl⟩:=h1;exact hK
  ·cases h
 ·rename_i hu
  simp only[hu]
  have h1:=kG h;simp only[Prod.mk.injEq]at h1;obtain⟨rfl,rfl,rfl⟩:=h1;exact hK
 ·cases h
theorem Ei{t:TypeId}{x:V}(h:ni P o t x=some (v,Δ,rd))(hK:K v Δ rd):Bj P o t x fun v rd=>K v [] rd:=by
 unfold ni at h
 unfold Bj
 split at h
 ·split at h
  ·rename_i ho
   split at h
   ·rename_i hg
    exact ZG
   ·cases h
  ·cases h
 ·split at h
  ·rename_i hg
   simp only[Option.some.injEq,Prod.mk.injEq]at h;obtain⟨rfl,rfl,rfl⟩:=h
   exact⟨_,hg,hK⟩
  ·cases h
 ·split at h
  ·rename_i ho
   split at h
   ·rename_i hc
    split at h
    ·rename_i e he
     split at h
     ·rename_i hg
      simp only[Option.some.injEq,Prod.mk.injEq]at h;obtain⟨rfl,rfl,rfl⟩:=h
      simp only[ho];exact⟨hc.1,hc.2,e,he,_,hg,hK⟩
     ·cases h
    ·cases h
   ·cases h
  ·cases h
 ·cases h
theorem BV{t:TypeId}{x y:V}(h:rV P o t x y=some (v,Δ,rd))(hK:K v Δ rd):uB P o t x y fun Δ rd=>K (.bP []) Δ rd:=by
 unfold rV at h
 unfold uB
 split at h
 ·split at h
  ·rename_i ho
   split at h
   ·rename_i hg
    exact ZG
   ·cases h
  ·cases h
 ·split at h
  ·rename_i ho
   split at h
   ·rename_i hc
    split at h
    ·rename_i e z he hz
     split at h
     ·rename_i hl
      split at h
      ·rename_i e' hp
       simp only[Option.some.injEq,Prod.mk.injEq]at h;obtain⟨rfl,rfl,rfl⟩:=h
       simp only[ho]
       exact⟨hc.1,hc.2,e,he,z,hz,hl.1,hl.2.1,hl.2.2,e',hp,hK⟩
      ·cases h
     ·cases h
    ·cases h
   ·cases h
  ·cases h
 ·cases h
theorem rX{t:TypeId}{len:Nat}{parts:List (Nat×V)}(h:fZ P o fr t len parts=some (v,Δ,rd))(hK:K v Δ rd):iD P o fr t len parts K:=by
 unfold fZ at h
 unfold iD
 split at h
 ·rename_i e ht
  simp only[ht]
  split at h
  ·rename_i hc
   simp only[Option.some.injEq,Prod.mk.injEq]at h;obtain⟨rfl,rfl,rfl⟩:=h
   exact .inl ⟨hc.1,by simpa using hc.2.1,hc.2.2,hK⟩
  split at h
  ·rename_i hc
   refine .inr ?_
   split at h
   ·rename_i ds hd
    split at h
    ·rename_i hw
     simp only[Option.some.injEq,Prod.mk.injEq]at h;obtain⟨rfl,rfl,rfl⟩:=h
     refine⟨hc.1,hc.2.1,hc.2.2.1,hc.2.2.2.1,hc.2.2.2.2,ds,hd,fun x hx=> ?_,hK⟩
     simpa using List.all_eq_true.1 hw x hx
    ·cases h
   ·cases h
  ·cases h
 ·cases h
theorem tH{t:TypeId}{l c:V}(h:l6 P fr t l c=some (v,Δ,rd))(hK:K v Δ rd):jB P fr t l c fun v Δ=>K v Δ []:=by
 unfold l6 at h
 unfold jB
 split at h
 ·rename_i e ht
  split at h
  ·split at h
   ·rename_i hc
    split at h
    ·rename_i x hx
     simp only[Option.some.injEq,Prod.mk.injEq]at h;obtain⟨rfl,rfl,rfl⟩:=h
     simp only[ht]
     exact⟨hc.1,hc.2.1,hc.2.2.1,hc.2.2.2.1,hc.2.2.2.2,x,hx,hK⟩
    ·cases h
   ·cases h
  ·cases h
 ·cases h
theorem zD{ts:Array TypeId}{x y:V}(h:qB P o fr ts x y=some (v,Δ,rd))(hK:K v Δ rd):p9 P o fr ts x y K:=by
 unfold qB at h
 unfold p9
 split at h
 ·rename_i t t' wV
  simp only[wV]
  split at h
  ·rename_i htt
   refine⟨htt, ?_⟩
   split at h
   ·rename_i e new tO ht hl
    obtain⟨rz,rfl⟩:=Eg hl
    simp only[ht]
    split at h
    ·rename_i hc
     refine⟨new,rz,hc.1,hc.2.1,fun z hz=>by simpa using List.all_eq_true.1 hc.2.2 z hz, ?_⟩
     split at h
     ·split at h
      ·rename_i uM
       simp only[Option.some.injEq,Prod.mk.injEq]at h;obtain⟨rfl,rfl,rfl⟩:=h
       exact⟨uM.1,uM.2,hK⟩
      ·cases h
     ·split at h
      ·rename_i FW
       refine⟨fun z hz=>by simpa using List.all_eq_true.1 FW z hz, ?_⟩
       split at h
       ·rename_i hn
        simp only[Option.some.injEq,Prod.mk.injEq]at h;obtain⟨rfl,rfl,rfl⟩:=h
        rw[if_pos hn];exact hK
       ·rename_i hn
        split at h
        ·rename_i uM
         simp only[Option.some.injEq,Prod.mk.injEq]at h;obtain⟨rfl,rfl,rfl⟩:=h
         rw[if_neg hn];exact⟨uM.1,uM.2,hK⟩
        ·cases h
      ·cases h
     ·split at h
      ·rename_i ho
       split at h
       ·rename_i uM
        simp only[Option.some.injEq,Prod.mk.injEq]at h;obtain⟨rfl,rfl,rfl⟩:=h
        simp only[ho]
        exact⟨uM.1,uM.2.1,uM.2.2.1,uM.2.2.2.1,uM.2.2.2.2,hK⟩
       ·cases h
      ·cases h
     ·cases h
    ·cases h
   ·cases h
  ·cases h
 ·cases h
theorem uZ{x y:V}(h:jk o x=some y){K:V->Prop}(hK:K y):kW o x K:=by
 unfold jk at h
 unfold kW
 split at h
 ·obtain⟨h2,rfl⟩:=rW h;exact⟨h2,hK⟩
 ·exact JI
 ·exact JI
 ·cases h
theorem KM{op:UnOp}{x y:V}(h:unF op x=some y){K:V->Prop}(hK:K y):ZU op x K:=by
 unfold unF at h
 unfold ZU
 split at h
 ·injection h with h;subst h;simp only;rw[Int.zero_sub];exact hK
 ·exact JI
 ·cases h
theorem yU{m:Bool}{x y v:V}(h:qC m x y=some v){K:V->Prop}(hK:K v):nW m [x,y] K:=by
 unfold qC at h
 unfold nW
 split at h
 ·split at h
  ·exact Tw
  ·cases h
 ·cases h
theorem BW{op:Op}(h:gA P s fr op=some (v,Δ,rd))(hK:K v Δ rd):QS P s fr op K:=by
 cases op<;>simp only[gA]at h<;>simp only[QS]<;>try (cases h;done)
 case move x=>have h:=kG h;simp only[Prod.mk.injEq]at h;obtain⟨rfl,rfl,rfl⟩:=h;exact hK
 case assign x=>have h:=kG h;simp only[Prod.mk.injEq]at h;obtain⟨rfl,rfl,rfl⟩:=h;exact hK
 case pick c a b=>
  obtain⟨x,h1,h⟩:=jf h;simp only[Prod.mk.injEq]at h;obtain⟨rfl,rfl,rfl⟩:=h
  exact Eh h1 hK
 case alloc t=>
  split at h
  ·rename_i cs hz;simp only[Option.some.injEq,Prod.mk.injEq]at h;obtain⟨rfl,rfl,rfl⟩:=h;exact⟨cs,hz,hK⟩
  ·cases h
 case box t x=>
  split at h
  ·rename_i cs hz;simp only[Option.some.injEq,Prod.mk.injEq]at h;obtain⟨rfl,rfl,rfl⟩:=h;exact⟨cs,hz,hK⟩
  ·cases h
 case build t parts=>
  obtain⟨x,h1,h⟩:=jf h;simp only[Prod.mk.injEq]at h;obtain⟨rfl,rfl,rfl⟩:=h
  unfold zB at h1
  split at h1
  ·rename_i z pl hz hp
   split at h1
   ·rename_i cs hc;injection h1 with h1;subst h1;exact⟨z,pl,cs,hz,hp,hc,hK⟩
   ·cases h1
  ·cases h1
 case buildSlice t len parts=>exact rX h hK
 case load t x=>exact Ei h hK
 case store t x y=>exact BV h hK
 case nilCheck x=>
  obtain⟨y,h1,h⟩:=jf h;simp only[Prod.mk.injEq]at h;obtain⟨rfl,rfl,rfl⟩:=h
  exact uZ h1 hK
 case binOp op t x y yt=>
  unfold ft at h
  split at h
  ·rename_i z h1
   have h:=kG h;simp only[Prod.mk.injEq]at h;obtain⟨rfl,rfl,rfl⟩:=h
   exact .inl (Ig h1 hK)
  ·right;simp only[h,db];exact hK
 case unOp op t x=>
  obtain⟨z,h1,h⟩:=jf h;simp only[Prod.mk.injEq]at h;obtain⟨rfl,rfl,rfl⟩:=h
  unfold Hz at h1
  split at h1
  ·rename_i hx;injection h1 with h1;subst h1;exact .inr ⟨rfl,hx,hK⟩
  ·exact .inl (KM h1 hK)
 case slice t x lo hi mx=>simp only[h,db];exact hK
 case field t x f=>
  exact TC
 case typeAssert x xt t ok=>
  exact TC
 case makeMap t r=>
  cases r with
  |none=>simp only[h,db];exact hK
  |some x=>cases h
 case lookup t m k ok=>simp only[h,db];exact hK
 case mapUpdate t m k v=>simp only[h,db];exact hK
 case insert t m k v=>simp only[h,db];exact hK
 case index t x i=>
  exact TC
 case convert u t x=>
  split at h
  ·rename_i d k k' n hu hk hx
   have h:=kG h;simp only[Prod.mk.injEq]at h;obtain⟨rfl,rfl,rfl⟩:=h
   exact⟨by rw[hu];rfl,by simp only[hk,hx];exact hK⟩
  ·cases h
 case makeInterface t x=>
  obtain⟨z,h1,h⟩:=jf h;simp only[Prod.mk.injEq]at h;obtain⟨rfl,rfl,rfl⟩:=h
  obtain⟨h2,rfl⟩:=rW h1
  refine⟨?_, ?_⟩
  ·unfold l8 at h2
   cases hd:P.underlying t with
   |none=>simp[hd]at h2
   |some d=>exact⟨d,rfl,by cases d<;>simp_all⟩
  ·split
   ·rename_i y hy;simp only[hy]at hK;exact hK
   ·rename_i hy
    split at hK
    ·rename_i y hy';exact absurd hy' (hy y)
    ·exact hK
 case makeFunc fn first cap=>have h:=kG h;simp only[Prod.mk.injEq]at h;obtain⟨rfl,rfl,rfl⟩:=h;exact hK
 case makeSlice t l c=>
  exact tH h hK
 case fieldAddr t x f=>
  obtain⟨z,h1,h⟩:=jf h;simp only[Prod.mk.injEq]at h;obtain⟨rfl,rfl,rfl⟩:=h
  exact tG h1 hK
 case indexAddr t x i=>
  exact tF h hK
 case extract x i=>
  split at h
  ·rename_i vs hv
   split at h
   ·rename_i u hu
    have h:=kG h;simp only[Prod.mk.injEq]at h;obtain⟨rfl,rfl,rfl⟩:=h
    simp only[hv];exact⟨_,hu,hK⟩
   ·cases h
  ·cases h
 case call c=>
  obtain⟨Kw,args,ts⟩:=c
  cases Kw<;>simp only at h|- <;>try (cases h;done)
  rename_i b
  unfold qD at h
  unfold uF
  split at h
  ·rename_i x ha
   simp only[ha]
   split at h
   ·rename_i t wV;exact⟨t,wV,Ih h hK⟩
   ·cases h
  ·rename_i x y ha
   simp only[ha]
   split at h
   ·rename_i r hr
    simp only[Option.some.injEq]at h
    subst h
    exact .inl (by rw[hr];exact hK)
   ·exact .inr (zD h hK)
  ·rename_i x y ha
   exact Zw
  ·rename_i x y ha
   exact Zw
  ·rename_i x y z ha
   simp only[ha]
   obtain⟨v0,h1,h⟩:=jf h;simp only[Prod.mk.injEq]at h;obtain⟨rfl,rfl,rfl⟩:=h
   exact YY
  ·rename_i x y ha
   simp only[ha,h,db];exact hK
  ·rename_i x y ha
   simp only[ha]
   split at h
   ·rename_i t ht;exact⟨t,ht,by simp only[h,db];exact hK⟩
   ·cases h
  ·rename_i x ha
   simp only[ha,h,db];exact hK
  ·cases h
 case range t x=>simp only[h,db];exact hK
 case next x str=>left;simp only[h,db];exact hK
 case entry x=>simp only[h,db];exact hK
end
end
section
def u5(P:Program)(g:FuncId)(ds:List D)(o o1 oa:Nat->ad)(K:V->(Nat->ad)->Prop)(X:V->(Nat->ad)->Prop):Prop:=
 ∃out,aW P g ds out/\((match out with| .ret rs=>K (iR rs) o1| .bJ x=>X (.d x) o1)\/(out.flat=true/\match out with| .ret rs=>K (iR rs) o| .bJ x=>X (.d x) o)\/(out.m7=true/\match out with| .ret rs=>K (iR rs) oa| .bJ x=>X (.d x) oa))
def sY(P:Program)(g:FuncId)(args:List V)(o:Nat->ad)(nx:Nat)(K:V->(Nat->ad)->Nat->Prop)(X:V->(Nat->ad)->Nat->Prop):Prop:=oK P g args o nx K X
theorem oK.mono {P:Program}{g:FuncId}{args:List V}{o:Nat->ad}{nx:Nat}{K X K' X':V->(Nat->ad)->Nat->Prop}(hK:∀v o n,K v o n->K' v o n)(hX:∀v o n,X v o n->X' v o n)(h:oK P g args o nx K X):oK P g args o nx K' X':=
 h.imp (bQ.mono hK hX) (bQ.mono hK hX)
@[congr] theorem Ra {P:Program} {g g':FuncId} {ds ds':List D} {o o1 oa:Nat->ad} {K X} (h:g=g') (h':ds=ds'):u5 P g ds o o1 oa K X=u5 P g' ds' o o1 oa K X:=by subst h;subst h';rfl
@[congr] theorem Rb {P:Program} {g g':FuncId} {cj aad:List V} {o:Nat->ad} {nx:Nat} {K X} (h:g=g') (h':cj=aad):sY P g cj o nx K X=sY P g' aad o nx K X:=by subst h;subst h';rfl
def Rc(P:Program)(g:FuncId)(args:List V)(o:Nat->ad)(nx:Nat)(K X:V->(Nat->ad)->Nat->Prop):Prop:=
 (∃ds,cc o args=some ds/\u5 P g ds o (put o (bw o (V.ba args))) (put o (rJ o (V.ba args))) (fun v o'=>K v o' (nx+1)) (fun v o'=>X v o' (nx+1)))\/bQ P g args o nx K X
def Jp(P:Program)(s:S)(o:bT)(X:V->S->Prop)(K:S->Prop):Prop:=
 match o.op with
 | .call c=>match c.callee with
   | .value f=>match s.ev f with
     | .func (.func g) first cap=>match cc s.o (first++c.args.toList.map s.ev++cap)with
       |some ds=>u5 P g ds s.o (put s.o (bw s.o (V.ba (first++c.args.toList.map s.ev++cap)))) (put s.o (rJ s.o (V.ba (first++c.args.toList.map s.ev++cap)))) (fun v o'=>K ⟨aX s.env o.dst v,o',s.nx+1⟩) (fun v o'=>X v ⟨s.env,o',s.nx+1⟩)\/
        sY P g (first++c.args.toList.map s.ev++cap) s.o s.nx (fun v o' nx'=>K ⟨aX s.env o.dst v,o',nx'⟩) (fun v o' nx'=>X v ⟨s.env,o',nx'⟩)
       |none=>sY P g (first++c.args.toList.map s.ev++cap) s.o s.nx (fun v o' nx'=>K ⟨aX s.env o.dst v,o',nx'⟩) (fun v o' nx'=>X v ⟨s.env,o',nx'⟩)
     | .j7 id=>dL P id (c.args.toList.map s.ev) s.o s.nx (fun v o' nx'=>K ⟨aX s.env o.dst v,o',nx'⟩) (fun v o' nx'=>X v ⟨s.env,o',nx'⟩)
     |_=>False
   | .invoke r m=>match uS P m (s.ev r)with
     |some (g,y)=>Rc P g (y::c.args.toList.map s.ev) s.o s.nx (fun v o' nx'=>K ⟨aX s.env o.dst v,o',nx'⟩) (fun v o' nx'=>X v ⟨s.env,o',nx'⟩)
     |none=>False
   |_=>match gA P s s.nx o.op with
    |some (v,Δ,_)=>K ⟨aX s.env o.dst v,put s.o Δ,s.nx+1⟩
    |none=>False
 | .panic x=>match s.ev x with
   | .d (.iface t y)=>X (.d (.iface t y)) s
   | .iface t y=>X (.iface t y) s
   |_=>False
 | .next x str=>match oS s.o (s.ev x)with
   |some (id,l)=>str=false/\FO id l fun v Δ _=>K ⟨aX s.env o.dst v,put s.o Δ,s.nx+1⟩
   |none=>match gA P s s.nx o.op with
    |some (v,Δ,_)=>K ⟨aX s.env o.dst v,put s.o Δ,s.nx+1⟩
    |none=>False
 |op=>match gA P s s.nx op with
  |some (v,Δ,_)=>K ⟨aX s.env o.dst v,put s.o Δ,s.nx+1⟩
  |none=>False
def pv(P:Program)(X:V->S->Prop)(K:S->Prop):List bT->S->Prop
 |[],s=>K s
 |o::l,s=>match o.gd with
  |none=>Jp P s o X (pv P X K l)
  |some (d,want)=>match s.env d with
   | .d (.bool b)=>if b=want then Jp P s o X (pv P X K l)else pv P X K l ⟨aX s.env o.dst (.bP []),s.o,s.nx+1⟩
   | .bP []=>pv P X K l ⟨aX s.env o.dst (.bP []),s.o,s.nx+1⟩
   |_=>False
def KN(b:Nat)(body:(fH->S->Prop)->S->Prop)(Q:fH->S->Prop)(s:S):Prop:=
 ∃ (J:Nat->S->Prop),(∃m s1,bI b s s1/\J m s1)/\∀m s0,J m s0->body (fun e s=>match e with| .normal=>∃m' s1,m'<m/\bI b s s1/\J m' s1|e=>Q e s) s0
@[congr] theorem Re {b:Nat} {body Q} {s s':S} (h:s=s'):KN b body Q s=KN b body Q s':=by subst h;rfl
def qE(t:Bool)(A B:Prop):Prop:=(t=true->A)/\(t=false->B)
@[congr] theorem Rf {t t':Bool} {A B:Prop} (h:t=t'):qE t A B=qE t' A B:=by subst h;rfl
@[simp] theorem u6 (A B:Prop):qE true A B=A:=by simp[qE]
@[simp] theorem sZ (A B:Prop):qE false A B=B:=by simp[qE]
section
variable {P:Program}{n b:Nat}
theorem Gb{s:S}{o:bT}{o':Oper}{X X':V->S->Prop}{K K':S->Prop}(fV:o'.op=o.op)(c7:o'.dst=o.dst)(hd:gG n o'.dst)(hK:∀s,K s->K' s)(hX:∀v s,X v s->X' v s)(h:Jp P s o X K):opW P n s o' X' K':=by
 refine⟨hd, ?_⟩
 rw[c7,fV]
 unfold Jp at h
 have hs:∀ {op:Op},(match gA P s s.nx op with|some (v,Δ,_)=>K ⟨aX s.env o.dst v,put s.o Δ,s.nx+1⟩|none=>False)->QS P s s.nx op fun v Δ _=>K' ⟨aX s.env o.dst v,put s.o Δ,s.nx+1⟩:=by
  intro op h
  split at h
  ·rename_i v Δ rd he;exact BW he (hK _ h)
  ·exact h.elim
 split at h
 ·rename_i c hc
  split at h
  ·rename_i f eZ
   simp only[hc,eZ]
   split at h
   ·rename_i g first cap hf
    unfold BJ
    simp only[hf]
    unfold uR
    split at h
    ·rename_i ds e7
     rcases h with⟨out,hP,h|⟨pR,h⟩|⟨pR,h⟩⟩|h
     ·exact Qz
     ·exact ZO
     ·exact ZJ
     ·exact Y7
    ·exact Y7
   ·rename_i id hf
    unfold BJ
    simp only[hf]
    exact dL.mono (fun v o n h=>hK _ h) (fun v o n h=>hX _ _ h) h
   ·exact h.elim
  ·rename_i r m eZ
   simp only[hc,eZ]
   split at h
   ·rename_i g y hr
    simp only[hr]
    unfold uR
    rcases h with⟨ds,e7,out,hP,h|⟨pR,h⟩|⟨pR,h⟩⟩|h
    ·exact Qz
    ·exact ZO
    ·exact ZJ
    ·exact .inr (.inr (.inr (.inl (bQ.mono (fun v o n h=>hK _ h) (fun v o n h=>hX _ _ h) h))))
   ·exact h.elim
  ·rename_i eZ hinv
   rw[hc]at h|-
   obtain⟨Kw,args,ts⟩:=c
   cases Kw with
   |value f=>exact absurd rfl (eZ f)
   |invoke r m=>exact absurd rfl (hinv r m)
   |_=>exact hs h
 ·rename_i x hx
  simp only[hx]
  split at h
  ·rename_i hv;simp only[hv];exact hX _ _ h
  ·rename_i hv;simp only[hv];exact hX _ _ h
  ·exact h.elim
 ·rename_i x str hx
  rw[hx]at h|-
  split at h
  ·rename_i id l hl
   exact .inr ⟨h.1,id,l,hl,fun e=>hK _ (h.2.1 e),fun i k x e=>hK _ (h.2.2 i k x e)⟩
  ·exact hs h
 ·rename_i hc hp tS
  have h2:=hs h
  cases hh:o.op<;>first
   |exact absurd hh (hc _)
   |exact absurd hh (hp _)
   |exact absurd hh (tS _ _)
   |(rw[hh]at h2;exact h2)
theorem jl{ops:Array Oper}{X X':V->S->Prop}{K K':S->Prop}(hK:∀s,K s->K' s)(hX:∀v s,X v s->X' v s):∀ (l:List Oper) (l':List bT) (s:S),kS n ops l=some l'->pv P X K l' s->zm P n ops X' K' l s
 |[],l',s,h,hr=>by simp[kS]at h;subst h;exact hK _ hr
 |o::l,l',s,h,hr=>by
  simp only[kS]at h
  split at h
  ·rename_i x xs hx M9
   injection h with h;subst h
   unfold J6 at hx
   split at hx
   ·rename_i hd
    have c7:gG n o.dst:=by
     unfold DN at hd;unfold gG
     split at hd<;>simp_all
    simp only[zm,zl]
    cases hg:o.guard with
    |none=>
     simp only[hg]at hx
     injection hx with hx;subst hx
     exact Gb rfl rfl c7 (fun s hs=>jl hK hX l xs s M9 hs) hX hr
    |some p=>
     obtain⟨j,want⟩:=p
     simp only[hg]at hx
     cases Rg:sN ops j with
     |none=>simp[Rg]at hx
     |some d=>
      simp only[Rg]at hx
      injection hx with hx;subst hx
      simp only
      simp only[pv]at hr
      split at hr
      ·rename_i t ht
       simp only[Rg,ht]
       split at hr
       ·rename_i e
        exact⟨fun _=>Gb rfl rfl c7 (fun s hs=>jl hK hX l xs s M9 hs) hX hr,fun h=>absurd e h⟩
       ·rename_i e
        exact⟨fun h=>absurd h e,fun _=>⟨c7,jl hK hX l xs _ M9 hr⟩⟩
      ·rename_i ht
       simp only[Rg,ht]
       exact⟨c7,jl hK hX l xs _ M9 hr⟩
      ·exact hr.elim
   ·cases hx
  ·cases h
end
end
section
mutual
def V.refs:V->List Nat
 | .ptr id _=>[id]| .osl id _=>[id]| .pe id _ _ _ _=>[id]| .xz id _ _=>[id]| .mp id=>[id]| .j7 id=>[id]
 | .agg cs=>V.aK cs
 | .bP cs=>V.aK cs
 | .func _ a b=>V.aK a++V.aK b
 | .iface _ x=>x.refs
 |_=>[]
def V.aK:List V->List Nat
 |[]=>[]
 |v::vs=>v.refs++V.aK vs
end
mutual
theorem jG:∀ (v:V),∀id∈v.ids,id∈v.refs
 | .osl id _,j,h=>by simpa[V.ids,V.refs]using h
 | .agg cs,j,h=>by simp only[V.ids]at h;simp only[V.refs];exact lO cs j h
 | .iface _ x,j,h=>by simp only[V.ids]at h;simp only[V.refs];exact jG x j h
 | .mp _,j,h=>by simpa[V.ids,V.refs]using h
 | .d _,_,h| .aq,_,h| .bP _,_,h| .ptr _ _,_,h| .pe _ _ _ _ _,_,h| .pp _ _,_,h| .func _ _ _,_,h| .aa,_,h| .oM _,_,h| .xz _ _ _,_,h| .fw,_,h| .j7 _,_,h=>by simp[V.ids]at h
theorem lO:∀ (vs:List V),∀id∈V.ba vs,id∈V.aK vs
 |[],j,h=>by simp[V.ba]at h
 |v::vs,j,h=>by
  simp only[V.ba,V.aK,List.mem_append]at h|-
  exact h.imp (jG v j) (lO vs j)
end
mutual
theorem dm{o o':Nat->ad}:∀ (v:V),(∀id∈v.refs,o' id=o id)->dN o' v=dN o v
 | .osl id ep,h=>by simp only[dN,h id (by simp[V.refs])]
 | .mp id,h=>by simp only[dN,h id (by simp[V.refs])]
 | .agg cs,h=>by simp only[dN,ig cs (by simpa[V.refs]using h)]
 | .iface t x,h=>by simp only[dN,dm x (by simpa[V.refs]using h)]
 | .d _,_| .aq,_| .bP _,_| .ptr _ _,_| .pe _ _ _ _ _,_| .pp _ _,_| .func _ _ _,_| .aa,_| .oM _,_| .xz _ _ _,_| .fw,_| .j7 _,_=>by simp only[dN]
theorem ig{o o':Nat->ad}:∀ (vs:List V),(∀id∈V.aK vs,o' id=o id)->cc o' vs=cc o vs
 |[],_=>rfl
 |v::vs,h=>by
  simp only[cc,dm v (fun id ax=>h id (by simp[V.aK,ax])),ig vs (fun id ax=>h id (by simp[V.aK,ax]))]
end
theorem gY{o o':Nat->ad}{ids:List Nat}(h:∀id∈ids,o' id=o id):bw o' ids=bw o ids:=by
 rw[lU,lU]
 exact List.map_congr_left fun id ax=>by rw[h id ax]
def oJ(s:S)(op:Op):List Nat:=
 match op with
 | .load _ x=>(s.ev x).refs
 | .nilCheck x=>(s.ev x).refs
 | .fieldAddr _ x _=>(s.ev x).refs
 | .indexAddr _ x _=>(s.ev x).refs
 | .store _ x v=>(s.ev x).refs++(s.ev v).refs
 | .buildSlice _ _ parts=>V.aK (parts.toList.map fun p=>s.ev p.2)
 | .binOp _ _ x y _=>(s.ev x).refs++(s.ev y).refs
 | .slice _ x _ _ _=>(s.ev x).refs
 | .lookup _ m k _=>(s.ev m).refs++(s.ev k).refs
 | .mapUpdate _ m k v=>(s.ev m).refs++((s.ev k).refs++(s.ev v).refs)
 | .insert _ m k v=>(s.ev m).refs++((s.ev k).refs++(s.ev v).refs)
 | .range _ x=>(s.ev x).refs
 | .next x _=>(s.ev x).refs
 | .entry x=>(s.ev x).refs
 | .call c=>match c.callee with
   | .builtin _=>V.aK (c.args.toList.map s.ev)
   | .value f=>match s.ev f with
     | .func _ first cap=>V.aK (first++c.args.toList.map s.ev++cap)
     |_=>[]
   |_=>[]
 |_=>[]
section
variable {P:Program}{s s':S}{fr:Nat}
theorem s7{o o':Nat->ad}(v:V)(h:∀id∈v.refs,o' id=o id):qA o' v=qA o v:=by
 cases v with
 |osl id ep=>simp only[qA,h id (by simp[V.refs])]
 |d x=>cases x<;>rfl
 |_=>rfl
theorem s8{o o':Nat->ad}(v:V)(q:Nat)(h:∀id∈v.refs,o' id=o id):oW o' v q=oW o v q:=by
 cases v<;>simp only[oW]<;>rw[h _ (by simp[V.refs])]
theorem Ej{o o':Nat->ad}(v:V)(h:∀id∈v.refs,o' id=o id):Bm o' v=Bm o v:=by
 have h1:eR o' v=eR o v:=by unfold eR;rw[dm v h]
 cases v<;>first|rfl|simp only[Bm,h1]
theorem zE{o o':Nat->ad}(v:V)(h:∀id∈v.refs,o' id=o id):rL o' v=rL o v:=by
 cases v with
 |mp id=>simp only[rL,h id (by simp[V.refs])]
 |d x=>cases x<;>rfl
 |_=>rfl
theorem zG{o o':Nat->ad}(v:V)(h:∀id∈v.refs,o' id=o id):rM o' v=rM o v:=by
 cases v with
 |ptr id off=>simp only[rM,h id (by simp[V.refs])]
 |d x=>cases x<;>rfl
 |_=>rfl
theorem nj{o o':Nat->ad}(v:V)(h:∀id∈v.refs,o' id=o id):oQ o' v=oQ o v:=by
 cases v with
 |mp id=>simp only[oQ,h id (by simp[V.refs])]
 |d x=>cases x<;>rfl
 |_=>rfl
theorem BX{o o':Nat->ad}(v:V)(h:∀id∈v.refs,o' id=o id):qc o' v=qc o v:=by
 cases v with
 |mp id=>simp only[qc,h id (by simp[V.refs])]
 |d x=>cases x<;>rfl
 |_=>rfl
theorem BZ{o o':Nat->ad}(v:V)(str:Bool)(h:∀id∈v.refs,o' id=o id):oR o' v str=oR o v str:=by
 cases v with
 |ptr id off=>cases off<;>simp only[oR,h id (by simp[V.refs])]
 |_=>rfl
theorem zH{o o':Nat->ad}(v:V)(h:∀id∈v.refs,o' id=o id):mT o' v=mT o v:=by
 cases v with
 |ptr id off=>cases off<;>simp only[mT,h id (by simp[V.refs])]
 |_=>rfl
theorem zI{o o':Nat->ad}{fr:Nat}{t:TypeId}{P:Program}(v:V)(h:∀id∈v.refs,o' id=o id):mS P o' fr t v=mS P o fr t v:=by
 unfold mS
 cases v with
 |mp id=>simp only[h id (by simp[V.refs])]
 |d x=>cases x<;>rfl
 |_=>rfl
theorem zJ{o o':Nat->ad}(v:V)(h:∀id∈v.refs,o' id=o id):pa o' v=pa o v:=by
 cases v with
 |ptr id off=>simp only[pa,h id (by simp[V.refs])]
 |_=>rfl
theorem zK{o o':Nat->ad}(v:V)(h:∀id∈v.refs,o' id=o id):pb o' v=pb o v:=by
 cases v with
 |xz id off n=>simp only[pb,h id (by simp[V.refs])]
 |_=>rfl
theorem Ek(op:Op)(hv:∀x∈op.operands,s'.ev x=s.ev x)(ho:∀id∈oJ s op,s'.o id=s.o id):gA P s' fr op=gA P s fr op:=by
 cases op<;>simp only[gA]
 case move x=>rw[hv x (by simp[Op.operands])]
 case assign x=>rw[hv x (by simp[Op.operands])]
 case pick c a b=>rw[hv c (by simp[Op.operands]),hv a (by simp[Op.operands]),hv b (by simp[Op.operands])]
 case box t x=>rw[hv x (by simp[Op.operands])]
 case build t parts=>
  have:(parts.toList.map fun p=>(p.1,s'.ev p.2))=parts.toList.map fun p=>(p.1,s.ev p.2):=
   List.map_congr_left fun p hp=>by rw[hv p.2 (by simp only[Op.operands];simp;exact⟨p.1,by simpa using hp⟩)]
  rw[this]
 case buildSlice t len parts=>
  have:(parts.toList.map fun p=>(p.1,s'.ev p.2))=parts.toList.map fun p=>(p.1,s.ev p.2):=
   List.map_congr_left fun p hp=>by rw[hv p.2 (by simp only[Op.operands];simp;exact⟨p.1,by simpa using hp⟩)]
  rw[this]
  have e:(parts.toList.map fun p=>(p.1,s.ev p.2)).map (·.2)=parts.toList.map fun p=>s.ev p.2:=by simp[Function.comp_def]
  have h1:cc s'.o ((parts.toList.map fun p=>(p.1,s.ev p.2)).map (·.2))=cc s.o ((parts.toList.map fun p=>(p.1,s.ev p.2)).map (·.2)):=ig _ (by rw[e];exact ho)
  have h2:bw s'.o (V.ba ((parts.toList.map fun p=>(p.1,s.ev p.2)).map (·.2)))=bw s.o (V.ba ((parts.toList.map fun p=>(p.1,s.ev p.2)).map (·.2))):=
   gY fun id ax=>ho id (by rw[e]at ax;exact lO _ id ax)
  simp only[fZ,h1,h2]
 case load t x=>
  rw[hv x (by simp[Op.operands])]
  cases hx:s.ev x<;>simp only[ni]<;>rw[ho _ (by simp[oJ,hx,V.refs])]
 case store t x y=>
  rw[hv x (by simp[Op.operands]),hv y (by simp[Op.operands])]
  have h1:dN s'.o (s.ev y)=dN s.o (s.ev y):=dm _ fun id ax=>ho id o7
  have h2:bw s'.o (s.ev y).ids=bw s.o (s.ev y).ids:=gY fun id ax=>ho id (by simp[oJ,jG _ _ ax])
  cases hx:s.ev x<;>simp only[rV]<;>rw[ho _ (by simp[oJ,hx,V.refs])]
  simp only[h1,h2]
 case nilCheck x=>
  rw[hv x (by simp[Op.operands])]
  cases hx:s.ev x with
  |ptr id off=>simp only[jk];rw[ho _ (by simp[oJ,hx,V.refs])]
  |func fn a b=>cases fn<;>rfl
  |_=>rfl
 case binOp op t x y yt=>
  rw[hv x (by simp[Op.operands]),hv y (by simp[Op.operands])]
  have h1:Bm s'.o (s.ev x)=Bm s.o (s.ev x):=Ej _ fun id ax=>ho id o7
  have h2:∀a b,rF P s'.o a b (s.ev x) (s.ev y)=rF P s.o a b (s.ev x) (s.ev y):=fun a b=>by
   have h3:∀id∈(s.ev x).refs,s'.o id=s.o id:=fun id ax=>ho id o7
   have h4:=zE (s.ev x) h3
   have h5:=zG (s.ev x) h3
   unfold rF
   rw[h1,h4,h5]
  unfold ft rN
  simp only[h2]
 case slice t x lo hi mx=>
  rw[hv x (by simp[Op.operands])]
  have e1:lo.map s'.ev=lo.map s.ev:=by cases lo<;>simp[hv,Op.operands]
  have e2:hi.map s'.ev=hi.map s.ev:=by cases hi<;>simp[hv,Op.operands]
  have e3:mx.map s'.ev=mx.map s.ev:=by cases mx<;>simp[hv,Op.operands]
  rw[e1,e2,e3]
  have h3:∀id∈(s.ev x).refs,s'.o id=s.o id:=fun id ax=>ho id o7
  have h1:eR s'.o (s.ev x)=eR s.o (s.ev x):=by unfold eR;rw[dm _ h3]
  have h2:bw s'.o (s.ev x).ids=bw s.o (s.ev x).ids:=gY fun id ax=>h3 id (jG _ _ ax)
  have h4:DT P s'.o t (s.ev x) (lo.map s.ev) (hi.map s.ev) (mx.map s.ev)=DT P s.o t (s.ev x) (lo.map s.ev) (hi.map s.ev) (mx.map s.ev):=by
   cases hx:s.ev x with
   |osl id ep=>simp only[DT,h3 id (by simp[hx,V.refs])]
   |_=>rfl
  unfold rK qa
  simp only[h1,h2,h4,zJ _ h3]
 case field t x f=>rw[hv x (by simp[Op.operands])]
 case typeAssert x xt t ok=>rw[hv x (by simp[Op.operands])]
 case makeMap t r=>cases r<;>rfl
 case lookup t m k ok=>
  rw[hv m (by simp[Op.operands]),hv k (by simp[Op.operands])]
  have h3:∀id∈(s.ev m).refs,s'.o id=s.o id:=fun id ax=>ho id o7
  have h1:dN s'.o (s.ev k)=dN s.o (s.ev k):=dm _ fun id ax=>ho id o7
  unfold jg
  simp only[h1,BX _ h3]
 case mapUpdate t m k v=>
  rw[hv m (by simp[Op.operands]),hv k (by simp[Op.operands]),hv v (by simp[Op.operands])]
  have h3:∀id∈(s.ev m).refs,s'.o id=s.o id:=fun id ax=>ho id o7
  have h1:dN s'.o (s.ev k)=dN s.o (s.ev k):=dm _ fun id ax=>ho id o7
  have h2:dN s'.o (s.ev v)=dN s.o (s.ev v):=dm _ fun id ax=>ho id o7
  have h4:bw s'.o (s.ev v).ids=bw s.o (s.ev v).ids:=gY fun id ax=>ho id (by simp[oJ,jG _ _ ax])
  unfold fN
  simp only[h1,h2,h4,nj _ h3]
 case insert t m k v=>
  rw[hv m (by simp[Op.operands]),hv k (by simp[Op.operands]),hv v (by simp[Op.operands])]
  have h3:∀id∈(s.ev m).refs,s'.o id=s.o id:=fun id ax=>ho id o7
  have h1:dN s'.o (s.ev k)=dN s.o (s.ev k):=dm _ fun id ax=>ho id o7
  have h2:dN s'.o (s.ev v)=dN s.o (s.ev v):=dm _ fun id ax=>ho id o7
  have h4:bw s'.o (s.ev v).ids=bw s.o (s.ev v).ids:=gY fun id ax=>ho id (by simp[oJ,jG _ _ ax])
  unfold fN
  simp only[h1,h2,h4,nj _ h3]
 case index t x i=>rw[hv x (by simp[Op.operands]),hv i (by simp[Op.operands])]
 case range t x=>
  rw[hv x (by simp[Op.operands])]
  exact zI _ fun id ax=>ho id o7
 case next x str=>
  rw[hv x (by simp[Op.operands])]
  exact BZ _ _ fun id ax=>ho id o7
 case entry x=>
  rw[hv x (by simp[Op.operands])]
  exact zH _ fun id ax=>ho id o7
 case unOp op t x=>rw[hv x (by simp[Op.operands])]
 case convert u t x=>rw[hv x (by simp[Op.operands])]
 case makeInterface t x=>rw[hv x (by simp[Op.operands])]
 case makeFunc fn first cap=>
  have h1:first.toList.map s'.ev=first.toList.map s.ev:=List.map_congr_left fun x hx=>hv x (by simp only[Op.operands];exact Array.mem_append.2 (.inl (Array.mem_toList_iff.1 hx)))
  have h2:cap.toList.map s'.ev=cap.toList.map s.ev:=List.map_congr_left fun x hx=>hv x (by simp only[Op.operands];exact Array.mem_append.2 (.inr (Array.mem_toList_iff.1 hx)))
  rw[h1,h2]
 case makeSlice t l c=>rw[hv l (by simp[Op.operands]),hv c (by simp[Op.operands])]
 case fieldAddr t x f=>
  rw[hv x (by simp[Op.operands])]
  simp only[hZ]
  cases bU P t f<;>simp only
  rw[s8 _ _ (by simpa[oJ]using ho)]
 case indexAddr t x i=>
  rw[hv x (by simp[Op.operands]),hv i (by simp[Op.operands])]
  have h1:∀q,oW s'.o (s.ev x) q=oW s.o (s.ev x) q:=fun q=>s8 _ _ (by simpa[oJ]using ho)
  simp only[hY,h1]
  cases hx:s.ev x with
  |osl id ep=>simp only[ho id (by simp[oJ,hx,V.refs])]
  |d y=>cases y<;>rfl
  |_=>rfl
 case extract x i=>rw[hv x (by simp[Op.operands])]
 case call c=>
  obtain⟨Kw,args,ts⟩:=c
  cases Kw<;>simp only
  rename_i b
  unfold qD
  have hm:∀x∈args.toList,s'.ev x=s.ev x:=fun x hx=>hv x YW
  have hr:∀x∈args.toList,∀id∈(s.ev x).refs,s'.o id=s.o id:=by
   intro x hx id ax
   refine ho id ?_
   simp only[oJ]
   generalize args.toList=l at hx
   induction l with
   |nil=>cases hx
   |cons y l ih=>
    simp only[List.map_cons,V.aK,List.mem_append]
    rcases List.mem_cons.1 hx with rfl|hx
    ·exact .inl ax
    ·exact .inr (ih hx)
  split
  ·rename_i x ha
   rw[ha]at hm hr
   rw[hm x (by simp)]
   have h1:∀t,Ee P t s'.o (s.ev x)=Ee P t s.o (s.ev x):=fun t=>by simp only[Ee,s7 _ (hr x (by simp))]
   simp only[h1]
  ·rename_i x y ha
   rw[ha]at hm hr
   rw[hm x (by simp),hm y (by simp)]
   simp only[qB,s7 _ (hr y (by simp))]
   cases xD P fr ts (s.ev x) (s.ev y)with
   |some r=>rfl
   |none=>
   dsimp only
   cases hx:s.ev x with
   |osl id ep=>simp only[hr x (by simp) id (by simp[hx,V.refs])]
   |_=>rfl
  ·rename_i x y ha
   rw[ha]at hm
   rw[hm x (by simp),hm y (by simp)]
  ·rename_i x y ha
   rw[ha]at hm
   rw[hm x (by simp),hm y (by simp)]
  ·rename_i x y z h;rw[hm x (by rw[h];simp),hm y (by rw[h];simp),hm z (by rw[h];simp)]
  ·rename_i x y ha
   rw[ha]at hm hr
   rw[hm x (by simp),hm y (by simp)]
   have h1:eR s'.o (s.ev y)=eR s.o (s.ev y):=by unfold eR;rw[dm _ (hr y (by simp))]
   have h2:bw s'.o (s.ev y).ids=bw s.o (s.ev y).ids:=gY fun id ax=>hr y aE id (jG _ _ ax)
   unfold xC
   simp only[h1,h2,zK _ (hr x (by simp))]
  ·rename_i x y ha
   rw[ha]at hm hr
   rw[hm x (by simp),hm y (by simp)]
   have h1:dN s'.o (s.ev y)=dN s.o (s.ev y):=dm _ (hr y aE)
   have h2:=nj _ (hr x aE)
   simp only[nX,h1,h2]
  ·rename_i x ha
   rw[ha]at hm
   rw[hm x (by simp)]
  ·rfl
end
end
end Go.Proofs.YtlhemmpklhhgoaaGreat
