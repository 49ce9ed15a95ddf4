/-
  A PART OF THE PROOF. Conditions: none.
-/
import Derived.Test.YtlhemmpklhhgoaaGreatQc6
set_option linter.unusedSimpArgs false
set_option linter.unusedVariables false
namespace Go.Proofs.YtlhemmpklhhgoaaGreat
section
section
variable {P:Program}{M:Nat->Prop}{φ:Place}{H:Hp}{w w':World}{bV:Place}{H0:Hp}{w0:World}{n b:Nat}{s:S}{a:Act}{cx:Cx}{ro:Option Nat}{k:Nat}
theorem fi(hb:∀id,H0.us id->id<b)(qs:cx.rd=false->ro=none):∀ (c:Code) (Q:eM->S->Prop) (s:S) (φ:Place) (a:Act) (w:World),gu P n b cx.rd c Q s->bE M bV H0 w0 n cx φ s a w->c.qf P ro (Bn M bV H0 w0 n cx Q) a w:=by
 intro c
 induction c with
 |skip=>exact fun Q s φ a w h hs=>mw (k:=0) (wpIn_skip ⟨.normal,s,φ,h,hs,trivial⟩)
 |scope x ih=>exact fun Q s φ a w h hs=>tP (ih Q s φ a w h hs) (fun l a w ⟨xx,s',aA,hq,iw,hm⟩=>by cases xx<;>exact hm)
 |label l=>exact fun Q s φ a w h hs=>mw (k:=0) (wpIn_label ⟨.normal,s,φ,h,hs,trivial⟩)
 |exit id=>exact fun Q s φ a w h hs=>xz ⟨.exit id,s,φ,h,hs,rfl⟩
 |ret=>exact fun Q s φ a w h hs=>Bo ⟨.ret,s,φ,h,hs,trivial⟩
 |goto l=>exact fun Q s φ a w h hs=>h.elim
 |refuse y=>exact fun Q s φ a w h hs=>h.elim
 |rangeFunc g ps x y=>
  intro Q s φ a w h hs
  obtain⟨h1,s',hle,h2⟩:=h
  rcases hle with rfl|hle
  ·exact tS hs h1 (qs h1) h2
  ·obtain⟨aA,iw⟩:=zJ hb hs hle
   exact tS iw h1 (qs h1) h2
 |region id ops draw=>
  intro Q s φ a w h hs
  cases draw with
  |true=>exact mw (h M bV H0 w0 cx φ a w ro 0 hs)
  |false=>
   refine mw (k:=0) (wpIn_region_list (mu (K:=Q .normal) (X:=fun v s=>Q (.bf v) s) (fun s φ a w hk hs=>⟨.normal,s,φ,hk,hs,trivial⟩) (fun v s φ a w val hx hs hd=>⟨.bf v,s,φ,hx,hs,val,rfl,hd⟩) _ s φ a w h hs))
 |seq x y HD HE=>
  intro Q s φ a w h hs
  refine vg (eV (HD _ s φ a w h hs) ?_)
  rintro e a' w' ⟨xx,s',aA,hq,iw,hm⟩
  cases e<;>cases xx<;>first|(exact hm.elim)|skip
  ·exact HE Q s' aA a' w' hq iw
  ·subst hm;exact⟨_,s',aA,hq,iw,rfl⟩
  ·exact Eg
  ·exact Ej
 |cond c x y HD HE=>
  intro Q s φ a w h hs
  simp only[gu]at h
  have hc:=ku (M:=M) (φ:=φ) (H:=s.H) (w:=w) s a hs.env c
  split at h
  ·rename_i t hv
   rw[hv]at hc
   simp only[V.den,D.den]at hc
   cases t with
   |true=>exact ny hc (HD Q s φ a w (h.1 rfl) hs)
   |false=>exact ny hc (HE Q s φ a w (h.2 rfl) hs)
  ·rename_i hv
   rw[hv]at hc
   obtain⟨t,hc⟩:=hc
   cases t with
   |true=>exact ny hc (HD Q s φ a w h.1 hs)
   |false=>exact ny hc (HE Q s φ a w h.2 hs)
  ·exact h.elim
 |block id x ih=>
  intro Q s φ a w h hs
  refine CO (eV (ih _ s φ a w h hs) ?_)
  rintro e a' w' ⟨xx,s',aA,hq,iw,hm⟩
  cases e<;>cases xx<;>first|(exact hm.elim)|skip
  ·exact⟨.normal,s',aA,hq,iw,trivial⟩
  ·subst hm
   simp only[Exit.inBlock]
   simp only[dW]at hq
   split
   ·rename_i he;rw[if_pos he]at hq;exact⟨.normal,s',aA,hq,iw,trivial⟩
   ·rename_i he;rw[if_neg he]at hq;exact⟨.exit _,s',aA,hq,iw,rfl⟩
  ·exact Eg
  ·exact Ej
 |loop x ih=>
  intro Q s φ a w h hs
  obtain⟨J,⟨m0,s1,hle,hI⟩,ri⟩:=h
  obtain⟨fW,rh⟩:=zJ hb hs hle
  refine vh (fun m a w=>∃s φ,J m s/\bE M bV H0 w0 n cx φ s a w) ?_ m0 a w ⟨s1,fW,hI,rh⟩
  rintro m a w ⟨s,φ,hI,hs⟩
  refine eV (ih _ s φ a w (ri m s hI) hs) ?_
  rintro e a' w' ⟨xx,s',aA,hq,iw,hm⟩
  cases e<;>cases xx<;>first|(exact hm.elim)|skip
  ·obtain⟨m2,s2,bQ,Mi,hI2⟩:=hq
   obtain⟨CP,DW⟩:=zJ hb iw Mi
   exact⟨m2,bQ,s2,CP,hI2,DW⟩
  ·subst hm;exact⟨_,s',aA,hq,iw,rfl⟩
  ·exact Eg
  ·exact Ej
def E0(tmps:Array Value)(r:ResultVar):Sem Value:=
 match r with
 | .tmp t=>pure (tmps.getD t undef)
 | .cell p t=>do loadVar t (<- asAddr (tmps.getD p undef))
theorem qt(nz:ao M φ s.H w)(dp:∀i,V.den (ai M φ s.H) φ s.H w (s.env i) (a.tmps.getD i undef)):∀ (rs:List ResultVar) (vs:List V),jG P s rs=some vs->
 ∃vals,(rs.mapM (E0 a.tmps)).run P w= .ok vals w/\V.az (ai M φ s.H) φ s.H w vs vals
 |[],vs,h=>by simp[jG]at h;subst h;exact⟨[],aK,rfl⟩
 | .tmp t::rs,vs,h=>by
   simp only[jG,Option.map_eq_some_iff]at h
   obtain⟨us,h1,rfl⟩:=h
   obtain⟨vals,h2,h3⟩:=qt nz dp rs us h1
   exact⟨a.tmps.getD t undef::vals,by simp only[List.mapM_cons,E0,Sem.run_bind,Sem.run_pure,Result.andThen_ok,h2],_,_,rfl,dp t,h3⟩
 | .cell p t::rs,vs,h=>by
   simp only[jG]at h
   split at h
   ·rename_i id off hv
    split at h
    ·rename_i cs ho
     simp only[Option.bind_eq_some_iff,Option.map_eq_some_iff]at h
     obtain⟨v,h0,us,h1,rfl⟩:=h
     obtain⟨vals,h2,h3⟩:=qt nz dp rs us h1
     have hx:=dp p
     rw[hv]at hx
     obtain⟨_,hu,hp⟩:=hx
     obtain⟨k,dT,eI⟩:=hp (by show(s.o id).bI=true;rw[ho];rfl)
     have aP:=nz.ok id
     have th:s.H.o id= .row cs:=ho
     simp only[aF,th]at aP
     obtain⟨b',da,ty,g1,g2,g3,g4⟩:=aP
     rw[dT]at g1;simp at g1;subst g1
     obtain⟨val,h4,h5⟩:=m7 (P:=P) h0 ⟨k,0,none⟩ da.toList g3 g4 (fun j u hj=>m8 g2 j u ki) rfl
     rw[add_plain,Nat.zero_add]at h4
     have h6:(loadVar t ⟨k,off,none⟩).run P w= .ok val w:=by simpa[Instr.loadAt,Instr.sureAddr]using h4
     exact⟨val::vals,by simp only[List.mapM_cons,E0,eI,asAddr,Sem.run_bind,Sem.run_pure,Result.andThen_ok,h6,h2],val,vals,rfl,h5,h3⟩
    ·cases h
   ·cases h
theorem kF{fn:Func}{tmps:Array Value}{vals:List Value}
 (h:(fn.results.toList.mapM (E0 tmps)).run P w= .ok vals w):
 (results fn tmps).run P w= .ok (if h:vals.toArray.size=1 then vals.toArray[0]else .tuple vals.toArray) w:=by
 have e:results fn tmps=(do let vs <- fn.results.mapM (E0 tmps);pure (if h:vs.size=1 then vs[0]else .tuple vs)):=by
  unfold results
  congr 2
 rw[e,Array.mapM_eq_mapM_toList]
 simp only[Sem.run_bind,Sem.run_map,h,Result.andThen_ok,Sem.run_pure]
theorem lB{us:Nat->Prop}(φ:Place)(hM:∀k,M k->k<w.heap.size):ao M φ ⟨fun _=> .no,us⟩ w where
 ok id:=by simp[aF]
 fresh _ _:=rfl
 apart i j k hi:=by simp[aa.live]at hi
 ours k:=by rintro⟨id,h,_⟩;simp[aa.live]at h
 wA:=hM
theorem CQ{vals:Array Value}{m i:Nat}:(vals++Array.replicate m undef).getD i undef=(vals[i]?).getD undef:=by
 simp only[Array.getD_eq_getD_getElem?,Array.getElem?_append]
 split
 ·rfl
 ·rw[Array.getElem?_eq_none (xs:=vals) (by omega)]
  simp only[Array.getElem?_replicate]
  split<;>rfl
structure vi (M:Nat->Prop) (bV:Place) (H0:Hp) (w0:World) (φ:Place) (s:S) (tmps:Array Value) (w:World):Prop where
 heap:ao M φ s.H w
 tr:Trans bV H0 w0 φ s.H w
 env:∀i,V.den (ai M φ s.H) φ s.H w (s.env i) (tmps.getD i undef)
theorem CS{tmps:Array Value}(hs:vi M bV H0 w0 φ s tmps w){r:Nat}(h1:w0.heap.size<=r)(h2:w.heap[r]? =some (.deferred (some [])))(h3: ¬cu φ s.H r):
 vi M bV H0 w0 φ s tmps {w with heap:=w.heap.setIfInBounds r (.deferred none)}:=by
 have j7:∀b,b≠r->(w.heap.setIfInBounds r (.deferred none))[b]? =w.heap[b]? :=fun b hb=>(MapKept.heap_set h2).2 b hb
 have qS:∀b,cg w b-> ¬ai M φ s.H b->(w.heap.setIfInBounds r (.deferred none))[b]? =w.heap[b]? /\ ¬ai M φ s.H b:=by
  intro b hc hn
  refine⟨j7 b fun e=> ?_,hn⟩
  subst e
  rcases hc with⟨cs,ty,fz,hc⟩|⟨es,clock,hc⟩
  ·rw[h2]at hc;cases hc
  ·rw[h2]at hc;cases hc
 refine⟨⟨fun id=> ?_,hs.heap.fresh,hs.heap.apart,fun b hb=>⟨(hs.heap.ours b hb).1,by simpa using(hs.heap.ours b hb).2⟩,fun b hb=>by simpa using hs.heap.wA b hb⟩,⟨⟨hs.tr.keep.os,hs.tr.keep.tape,hs.tr.keep.output,by simpa using hs.tr.keep.size,fun j hj hm=> ?_⟩,hs.tr.grow,hs.tr.rel⟩,fun i=>V.jg qS (db.refl _ _) _ _ (hs.env i)⟩
 ·exact aF.wZ qS (db.refl _ _) rfl rfl (fun hl b hb=>j7 b fun e=>h3 ⟨id,hl,e ▸ hb⟩) (hs.heap.ok id)
 ·rw[j7 j (by omega)];exact hs.tr.keep.block j hj hm
theorem eW{fn:Func}{R:Ending->World->Prop}{u:FrameMode}(hu:u≠ .run){tmps tb:Array Value}{ds:List Deferred}(hR:∀w,vi M bV H0 w0 φ s tb w->LeavesInM (cY none) k P fn tmps R ds u w):
 ∀ (ms:List Nat) (w:World),ms.Nodup->(∀r∈ms,w0.heap.size<=r/\w.heap[r]? =some (.deferred (some []))/\ ¬cu φ s.H r)->vi M bV H0 w0 φ s tb w->LeavesInM (cY none) k P fn tmps R (ms.map mark++ds) u w
 |[],w,_,_,hs=>hR w hs
 |r::ms,w,hn,hm,hs=>by
  obtain⟨h1,h2,h3⟩:=hm r aK
  obtain⟨JQ,GS⟩:=List.nodup_cons.1 hn
  refine⟨hu, .inl ⟨r,{w with heap:=w.heap.setIfInBounds r (.deferred none)},rfl, ?_,eW hu hR ms _ GS (fun r' CJ=> ?_) (CS hs h1 h2 h3)⟩⟩
  ·simp[Instr.takeDeferred,getObj,setObj,Sem.run,h2,Result.andThen]
  ·obtain⟨g1,g2,g3⟩:=hm r' (by simp[CJ])
   exact⟨g1,((MapKept.heap_set h2).2 r' (fun e=>JQ (e ▸ CJ))).trans g2,g3⟩
theorem bE.Z6 (hs:bE M bV H0 w0 n cx φ s a w):vi M bV H0 w0 φ s a.tmps w:=⟨hs.heap,hs.tr,hs.env⟩
def jI(P:Program)(rs:List ResultVar)(K X:V->(Nat->aa)->Nat->Prop)(e:eM)(s:S):Prop:=
 match e with
 | .normal| .ret=>match jG P s rs with
   |some [v]=>K v s.o s.nx
   |some vs=>K (.bC vs) s.o s.nx
   |none=>False
 | .bf v=>X v s.o s.nx
 | .exit _=>False
theorem xC{P:Program}{rs:List ResultVar}{K X:V->(Nat->aa)->Nat->Prop}{s:S}(h:jI P rs K X .ret s):∃vs,jG P s rs=some vs/\K (match vs with|[v]=>v|vs=> .bC vs) s.o s.nx:=by
 unfold jI at h
 simp only at h
 split at h
 ·rename_i v h1;exact⟨[v],h1,h⟩
 ·rename_i vs h1 h2
  refine⟨vs,h2, ?_⟩
  split
  ·exact absurd rfl (h1 _)
  ·exact h
 ·exact h.elim
theorem xD:∀ {vs:List V} {vals:List Value},V.az (ai M φ H) φ H w vs vals->V.den (ai M φ H) φ H w (match vs with|[v]=>v|vs=> .bC vs) (if h:vals.toArray.size=1 then vals.toArray[0]else .tuple vals.toArray)
 |[],vals,h=>by simp only[V.az]at h;subst h;exact⟨#[],rfl,rfl⟩
 |[v],vals,h=>by obtain⟨u,us,rfl,h1,h2⟩:=h;simp only[V.az]at h2;subst h2;exact h1
 |v::y::l,vals,h=>by
  have h':=h
  obtain⟨u,us,rfl,h1,u2,us2,rfl,h2⟩:=h
  exact⟨(u::u2::us2).toArray,aK,by simpa using h'⟩
theorem wQ{vals:Array Value}{m:Nat}{vs:List V}(hd:V.az (ai M φ H) φ H w vs vals.toList)(i:Nat):V.den (ai M φ H) φ H w (cc vs i) ((vals++Array.replicate m undef).getD i undef):=by
 have hlen:=V.au _ _ hd
 simp only[cc,CQ]
 cases hx:vs[i]? with
 |none=>
  have:vals[i]? =none:=by
   rw[List.getElem?_eq_none_iff]at hx
   apply Array.getElem?_eq_none
   simp at hlen;omega
  simp only[List.getD_eq_getElem?_getD,hx,this]
  exact⟨#[],rfl,rfl⟩
 |some v=>
  obtain⟨u,hu,Hm⟩:=V.cF _ _ _ _ hd hx
  have wK:vals[i]? =some u:=by simpa using hu
  simp only[List.getD_eq_getElem?_getD,hx,wK,Option.getD_some]
  exact Hm
theorem kG{f:FuncId}{fn:Func}{c:Code}{args:Array Value}{w:World}{R:Ending->World->Prop}(hf:P.funcs[f]? =some fn)(hb:fn.body=some c)
 (h:c.qf P none (bodyPostM (cY none) k P fn R) {tmps:=args++Array.replicate (fn.ntmps - args.size) undef,defers:=[]} w):CallsIn (cY none) k P f args w R:=by
 have bQ:f<P.funcs.size:=(Array.getElem?_eq_some_iff.1 hf).1
 refine⟨trivial,fun cs hr=> ?_⟩
 let b:Frame:={(default:Frame)with fn:=f,kind:= .normal,roundOf:=none}
 have jH:Frame.enter P f args .normal=b.atR {tmps:=args++Array.replicate (fn.ntmps - args.size) undef,defers:=[]} [.code c]:=by
  simp[Frame.enter,Frame.atR,hf,hb,b]
 obtain⟨e,a',w',hq,cE⟩:=h b [] cs rfl bQ
 rw[<- jH]at cE
 cases e with
 |normal=>
  obtain⟨e',LO,V4,hR,hs,DI,hl⟩:=leaves_stepsInM a'.defers .returning w' {b.atR a' []with mode:= .returning} cs rfl rfl rfl hf rfl (trivial:(cY none).fn f) hr hq
  exact⟨e',LO,V4,hR,ComesIn.of_steps (StepsIn.trans cE (.one (fenced_calm (n:=0) (fr:=b.atR a' []) trivial eU rfl) (stepR_end rfl))) hs,DI,hl⟩
 |ret=>
  obtain⟨todo,Jn⟩:=cE.1 rfl
  obtain⟨e',LO,V4,hR,hs,DI,hl⟩:=leaves_stepsInM a'.defers .returning w' {b.atR a' todo with mode:= .returning} cs rfl rfl rfl hf rfl (trivial:(cY none).fn f) hr hq
  exact Jm
 |panic chain=>
  obtain⟨todo,Jn⟩:=cE
  obtain⟨e',LO,V4,hR,hs,DI,hl⟩:=leaves_stepsInM a'.defers (.panicking chain) w' {b.atR a' todo with mode:= .panicking chain} cs rfl rfl rfl hf rfl (trivial:(cY none).fn f) hr hq
  exact Jm
 |exit id=>exact hq.elim
 |goto l=>exact hq.elim
 |outgrown=>exact⟨.outgrown,w',b,hq,cE.resolve_left (by simp[b]),rfl,trivial⟩
def zL(P:Program)(l:Nat)(R:Ending->World->Prop):Exit->Act->World->Prop
 | .normal,_,w=>∃v w',(Instr.endRound l none).run P w= .ok v w'/\R (.returned v) w'
 | .ret,_,w=>∃v w',(Instr.endRound l (some .ret)).run P w= .ok v w'/\R (.returned v) w'
 | .exit id,_,w=>∃v w',(Instr.endRound l (some (.exit id))).run P w= .ok v w'/\R (.returned v) w'
 | .goto _,_,_=>False
 | .panic chain,a,w=>a.defers=[]/\R (.panicked chain) w
 | .outgrown,_,_=>False
theorem rj{l:Nat}{f:FuncId}{tmps:Array Value}{assign body:Code}{w:World}{R:Ending->World->Prop}(hf:f<P.funcs.size)
 (h:assign.qf P (some l) (Exit.then (fun lJ gM=>∃oN,(Instr.beginRound l).run P gM= .ok () oN/\body.qf P (some l) (zL P l R) lJ oN) (fun e a w=>match e with| .panic chain=>a.defers=[]/\R (.panicked chain) w|_=>False))
  {tmps:=tmps,defers:=[]} w):
 RoundIn Fence.wide n P l f tmps assign body w R:=by
 refine⟨trivial,fun c cs hr=> ?_⟩
 let b:Frame:={(default:Frame)with fn:=f,kind:= .normal,roundOf:=some l}
 have Sl:Frame.round l f tmps assign body .normal=b.atR {tmps:=tmps,defers:=[]} [.code assign, .beginRound, .code body]:=by
  simp[Frame.round,Frame.atR,b]
 have calm:∀ (m:Machine),m.fenced P Fence.wide:=fun m=>fenced_wide P m
 have bf:∀ {a:Act} {w:World} {todo:List Item} {chain:List PanicEntry},a.defers=[]->step P (lone {b.atR a todo with mode:= .panicking chain} (c::cs) w)= .next (lone (c.raise chain) cs w):=by
  intro a w todo chain hd
  exact step_leave_panicked (fr:={b.atR a todo with mode:= .panicking chain}) ⟨rfl,hd,P.funcs[f],by show P.funcs[f]? =_;simp[hf]⟩
 obtain⟨e,lJ,gM,hq,cE⟩:=h b [.beginRound, .code body] (c::cs) rfl hf
 rw[<- Sl]at cE
 cases e with
 |normal=>
  obtain⟨oN,hbr,nA⟩:=hq
  have s1:StepsIn (Machine.fenced P Fence.wide) P (lone (b.atR lJ [.beginRound, .code body]) (c::cs) gM) (lone (b.atR lJ [.code body]) (c::cs) oN):= .one (calm _) (stepR_beginRound rfl hbr)
  obtain⟨Mf,Sj,zH,nw,iJ⟩:=nA b [] (c::cs) rfl hf
  have cE:StepsIn (Machine.fenced P Fence.wide) P _ _:=cE
  cases Mf with
  |normal=>
   obtain⟨v,qg,dx,hR⟩:=nw
   have iJ:StepsIn (Machine.fenced P Fence.wide) P _ _:=iJ
   exact⟨.returned v,qg,hR,(StepsIn.trans cE s1).trans (StepsIn.trans iJ (.one (calm _) (stepR_round_end rfl rfl dx)))⟩
  |ret=>
   obtain⟨v,qg,dx,hR⟩:=nw
   obtain⟨k₁,hs⟩:=iJ.2 rfl
   have hs:StepsIn (Machine.fenced P Fence.wide) P _ _:=hs
   exact⟨.returned v,qg,hR,(StepsIn.trans cE s1).trans (StepsIn.trans hs (.one (calm _) (stepR_round_ret rfl rfl dx)))⟩
  |exit id=>
   obtain⟨v,qg,dx,hR⟩:=nw
   obtain⟨k₁,hk,hs⟩:=iJ.2 rfl rfl
   have hs:StepsIn (Machine.fenced P Fence.wide) P _ _:=hs
   exact⟨.returned v,qg,hR,(StepsIn.trans cE s1).trans (StepsIn.trans hs (.one (calm _) (stepR_round_exit rfl rfl hk dx)))⟩
  |goto t=>exact nw.elim
  |panic chain=>
   obtain⟨todo,hs⟩:=iJ
   have hs:StepsIn (Machine.fenced P Fence.wide) P _ _:=hs
   exact⟨.panicked chain,zH,nw.2,(StepsIn.trans cE s1).trans (StepsIn.trans hs (.one (calm _) (bf nw.1)))⟩
  |outgrown=>exact nw.elim
 |exit id=>exact hq.elim
 |goto t=>exact hq.elim
 |ret=>exact hq.elim
 |panic chain=>
  obtain⟨todo,hs⟩:=cE
  have hs:StepsIn (Machine.fenced P Fence.wide) P _ _:=hs
  exact⟨.panicked chain,gM,hq.2,StepsIn.trans hs (.one (calm _) (bf hq.1))⟩
 |outgrown=>exact hq.elim
theorem dV.Br {f:FuncId}{fn:Func}{c:Code}{args:List V}{o:Nat->aa}{nx:Nat}{K X:V->(Nat->aa)->Nat->Prop}(hf:P.funcs[f]? =some fn)(hn:(fn.name== "runtime.NumGoroutine")=false)(nA:fn.body=some c)(hl:args.length<=fn.ntmps)
 (h:gu P fn.ntmps nx false c (jI P fn.results.toList K X) ⟨cc args,o,nx⟩):dV P f args o nx K X:=by
 refine⟨⟨fn,hf,hn,by rw[nA];rfl⟩,fun M φ w vals hH hd=> ?_⟩
 have hlen:=V.au _ _ hd
 let s0:S:=⟨cc args,o,nx⟩
 let a0:Act:={tmps:=vals++Array.replicate (fn.ntmps - vals.size) undef,defers:=[]}
 have my:bE M φ (hp o nx) w fn.ntmps ⟨[],false⟩ φ s0 a0 w:=by
  exact Rz
 refine xq (ro:=none) (k:=0) (kG hf nA (eV (fi (P:=P) (H0:=hp o nx) (b:=nx) (cx:=⟨[],false⟩) (ro:=none) (fun id hu=>hu) (fun _=>rfl) c _ s0 φ a0 w h my) ?_))
 rintro e a w' ⟨x,s,aA,hq,hs,hm⟩
 obtain⟨ms,g1,g2,g3,g4⟩:=hs.defers
 rw[List.append_nil]at g1
 have done:(x= .normal\/x= .ret)->LeavesInM (cY none) 0 P fn a.tmps (kB M φ (hp o nx) w K X) a.defers .returning w':=by
  intro hx
  have hq':jI P fn.results.toList K X .ret s:=by rcases hx with rfl|rfl<;>exact hq
  obtain⟨vs,h1,h2⟩:=xC hq'
  rw[g1]
  have:=eW (P:=P) (k:=0) (fn:=fn) (R:=kB M φ (hp o nx) w K X) (u:= .returning) aK (ds:=[]) (fun w2 hb=>by
   obtain⟨vals,h3,h4⟩:=qt (P:=P) (a:=a) hb.heap hb.env _ _ h1
   exact⟨_,kF h3,aA,s.o,s.nx,_,hb.heap,hb.tr,xD h4,h2⟩) ms w' g2 g4 hs.Z6
  rwa [List.append_nil]at this
 cases e<;>cases x<;>first|(exact hm.elim)|skip
 ·exact done (.inl rfl)
 ·exact hq.elim
 ·exact done (.inr rfl)
 ·rename_i v
  obtain⟨val,rfl,HG⟩:=hm
  show LeavesInM (cY none) 0 P fn a.tmps (kB M φ (hp o nx) w K X) a.defers _ w'
  rw[g1]
  have Sl:vi M φ (hp o nx) w aA ⟨fun i=>if i=0 then v else .ab,s.o,s.nx⟩ #[val] w':=⟨hs.heap,hs.tr,fun i=>by
   by_cases hi:i=0
   ·subst hi;exact HG
   ·simp only[hi,if_false];trivial⟩
  have:=eW (P:=P) (k:=0) (fn:=fn) (s:=⟨fun i=>if i=0 then v else .ab,s.o,s.nx⟩) (tmps:=a.tmps) (tb:=#[val]) (bV:=φ) (H0:=hp o nx) (w0:=w) (R:=kB M φ (hp o nx) w K X) (u:= .panicking [{v:=val,recovered:=false}]) aK (ds:=[]) (fun w2 hb=>by
   have h0:=hb.env 0
   exact⟨aA,s.o,s.nx,v,hb.heap,hb.tr,val,rfl,h0,hq⟩) ms w' g2 g4 Sl
  rwa [List.append_nil]at this
theorem aY.mz {f:FuncId}{ds:List D}{out:R}(h:dV P f (ds.map .d) (fun _=> .no) 0 (fun v o _=>∃vs rs,v=(match vs with|[v]=>v|vs=> .bC vs)/\bD o vs=some rs/\out= .ret rs) (fun v o _=>∃x,du o v=some x/\out= .bf x)):aY P f ds out:=by
 refine⟨h.1,fun M w vals hM hd=> ?_⟩
 let bV:Place:=fun _=> .nilFunc
 have vj:∀b, ¬cu bV (hp (fun _=> .no) 0) b:=by rintro b ⟨id,hl,_⟩;simp[hp,aa.live]at hl
 refine(h.2 M bV w vals (lB bV hM) ((V.bS _ _).2 (D.aI (w:=w) (w':=w) (B:=M) (fun b _ hB=>⟨rfl,fun h=>h.elim hB (vj b)⟩) _ _ hd))).mono ?_
 rintro e w' ⟨aA,o',nx',v,k1,k2,k3⟩
 have Sm:dy (fun _=>False) w w':=⟨k2.keep.os,k2.keep.tape,k2.keep.output,k2.keep.size,fun k hk _=>k2.keep.block k hk (vj k)⟩
 have fin:∀ (vs:List V) (xs:List D) (vals:List Value),bD o' vs=some xs->V.az (ai M aA (hp o' nx')) aA (hp o' nx') w' vs vals->D.az M w' xs vals:=by
  intro vs xs vals h1 h2
  obtain⟨f1,f2,f3,f4,f5⟩:=cI k1 (V.aV vs) (cm vs _ h2)
  have h3:=cK f1 vs xs vals f3 h1 (V.aI f2 _ _ h2)
  exact D.aI (w:=w') (w':=w') (fun k _ hB=>⟨rfl,fun hM=>hB (.inl hM)⟩) xs vals h3
 refine⟨Sm, ?_⟩
 cases e with
 |outgrown=>exact k3.elim
 |panicked ch=>
  obtain⟨val,rfl,g1,x,g2,rfl⟩:=k3
  have:=fin [v] [x] [val] (by simp[bD,g2]) ⟨val,[],rfl,g1,rfl⟩
  obtain⟨u,us,he,h2,_⟩:=this
  simp at he;obtain⟨rfl,rfl⟩:=he
  exact⟨val,rfl,h2⟩
 |returned val=>
  obtain⟨g1,vs,rs,rfl,g2,rfl⟩:=k3
  match vs,g1,g2 with
  |[],g1,g2=>
   obtain⟨arr,rfl,hv⟩:=g1
   simp only[bD,Option.some.injEq]at g2;subst g2
   exact⟨arr,rfl,hv⟩
  |[v],g1,g2=>
   have:=fin [v] rs [val] g2 ⟨val,[],rfl,g1,rfl⟩
   cases rs with
   |nil=>cases this
   |cons x l=>
    obtain⟨u,us,he,h2,h3⟩:=this
    simp at he;obtain⟨rfl,rfl⟩:=he
    cases l with
    |nil=>exact h2
    |cons y l=>obtain⟨_,_,h,_⟩:=h3;cases h
  |v::v2::l,g1,g2=>
   obtain⟨arr,rfl,h⟩:=g1
   have:=fin (v::v2::l) rs arr.toList g2 h
   have hl:=D.au _ _ this
   have ZT:=V.au _ _ h
   match rs,hl,this with
   |[],hl,_=>exact A1
   |[x],hl,_=>exact A1
   |x::y::l,_,this=>exact⟨arr,rfl,this⟩
theorem CT{rs:List ResultVar}{out:R}(e:eM)(s:S)(h:ve P rs out e s):
 jI P rs (fun v o _=>∃vs rs,v=(match vs with|[v]=>v|vs=> .bC vs)/\bD o vs=some rs/\out= .ret rs) (fun v o _=>∃x,du o v=some x/\out= .bf x) e s:=by
 have ret:ve P rs out .ret s->jI P rs (fun v o _=>∃vs rs,v=(match vs with|[v]=>v|vs=> .bC vs)/\bD o vs=some rs/\out= .ret rs) (fun v o _=>∃x,du o v=some x/\out= .bf x) .ret s:=by
  intro h
  obtain⟨vs,xs,h1,h2,h3⟩:=ET h
  simp only[jI,h1]
  match vs,h2 with
  |[],h2=>exact⟨[],xs,rfl,h2,h3⟩
  |[v],h2=>exact⟨[v],xs,rfl,h2,h3⟩
  |v::v2::l,h2=>exact⟨v::v2::l,xs,rfl,h2,h3⟩
 cases e with
 |normal=>exact ret h
 |ret=>exact ret h
 |exit id=>exact h.elim
 |bf v=>exact EU h
end
end
section
def E1{α:Type}(c:Bool)(x:α):Option α:=if c=true then some x else none
def one(v:V):Option et:=some (v,[],[])
def xE(op:BinOp)(k:IntKind)(a b:Int):Option V:=
 match op with
 | .add=>some (.d (.int k (k.wrap (a+b))))
 | .sub=>some (.d (.int k (k.wrap (a - b))))
 | .mul=>some (.d (.int k (k.wrap (a*b))))
 | .quo=>if b=0 then none else some (.d (.int k (k.wrap (a.tdiv b))))
 | .rem=>if b=0 then none else some (.d (.int k (a.tmod b)))
 | .and=>(qN .and k a b).map fun r=> .d (.int k r)
 | .or=>(qN .or k a b).map fun r=> .d (.int k r)
 | .xor=>(qN .xor k a b).map fun r=> .d (.int k r)
 | .andNot=>(qN .andNot k a b).map fun r=> .d (.int k r)
 | .eql=>some (.d (.bool (a==b)))| .neq=>some (.d (.bool (a !=b)))| .lss=>some (.d (.bool (decide (a<b))))| .leq=>some (.d (.bool (decide (a<=b))))
 | .gtr=>some (.d (.bool (decide (b<a))))| .geq=>some (.d (.bool (decide (b<=a))))
 |_=>none
def jJ(P:Program)(t:TypeId):Bool:=
 match P.underlying t with
 |some .bool=>true
 |_=>false
def vk(P:Program)(op:BinOp)(t:TypeId)(x y:V):Option V:=
 match x,y with
 | .d (.int k a), .d (.int k' b)=>if k=k' then xE op k a b else none
 | .d (.bool a), .d (.bool b)=>match op with
   | .eql=>E1 (jJ P t) (.d (.bool (a==b)))
   | .neq=>E1 (jJ P t) (.d (.bool (a !=b)))
   |_=>none
 | .d (.str a), .d (.str b)=>match op with
   | .eql=>some (.d (.bool (a==b)))
   | .neq=>some (.d (.bool (a !=b)))
   |_=>none
 |_,_=>none
def XS(op:UnOp)(x:V):Option V:=
 match op,x with
 | .neg, .d (.int k n)=>some (.d (.int k (k.wrap (-n))))
 | .not, .d (.bool b)=>some (.d (.bool !b))
 |_,_=>none
def nB(c a b:V):Option V:=
 match c with
 | .d (.bool true)=>some a
 | .d (.bool false)=>some b
 |_=>none
def nC(o:Nat->aa)(x:V):Option (List D×List Nat):=
 match x with
 | .d (.sl es)=>some (es,[])
 | .a8=>some ([],[])
 | .oj es=>some (es,[])
 | .osl id ep=>match o id with
   | .arr fK _ _ es=>if ep=fK then some (es,[id])else none
   | .qo fK es=>if ep=fK then some (es,[id])else none
   |_=>none
 |_=>none
def zM(P:Program)(t:TypeId)(o:Nat->aa)(x:V):Option et:=
 match P.underlying t with
 |some (.slice _)=>match nC o x with
  |some (es,rd)=>some (.d (.int .i64 es.length),[],rd)
  |none=>none
 |some .string=>match x with
  | .d (.str s)=>one (.d (.int .i64 s.length))
  |_=>none
 |some (.array n _)=>one (.d (.int .i64 n))
 |_=>none
def tT(P:Program)(e:TypeId)(es:List D)(i:Int)(rd:List Nat):Option et:=
 if 0<=i then match es[i.toNat]? with
  |some y=>E1 (y.cells.length==P.cellsOf e&&0<P.cellsOf e) (.pp y.cells 0,[],rd)
  |none=>none
 else none
def l7(o:Nat->aa)(x:V)(q:Nat):Option V:=
 match x with
 | .ptr id off=>E1 (o id).bI (.ptr id (off+q))
 | .pp cs off=>some (.pp cs (off+q))
 | .pe id ep j sz off=>if(o id).bL=some ep then some (.pe id ep j sz (off+q))else none
 |_=>none
def fj(P:Program)(o:Nat->aa)(t:TypeId)(x ix:V):Option et:=
 match ix with
 | .d (.int _ i)=>match bJ P t with
   |some e=>match x with
    | .d (.sl es)=>tT P e es i []
    | .oj es=>tT P e es i []
    | .osl id ep=>match o id with
      | .arr fK _ sz es=>if ep=fK/\0<=i/\i.toNat<es.length/\sz=P.cellsOf e/\0<P.cellsOf e then some (.pe id ep i.toNat sz 0,[],[id])else none
      | .qo fK es=>if ep=fK then tT P e es i [id]else none
      |_=>none
    |_=>none
   |none=>match wS P t with
    |some (n,e)=>if 0<=i/\i<n/\(P.info? e).isSome=true then(l7 o x (i.toNat*P.cellsOf e)).bind one else none
    |none=>none
 |_=>none
def fk(P:Program)(o:Nat->aa)(t:TypeId)(x:V)(f:Nat):Option V:=
 match bR P t f with
 |some q=>l7 o x q
 |none=>none
def kH(P:Program)(o:Nat->aa)(t:TypeId)(x:V):Option et:=
 match x with
 | .ptr id off=>match o id with
   | .row cs=>match dG P t cs off with
     |some v=>some (v,[],[id])
     |none=>none
   |_=>none
 | .pp cs off=>match dG P t (cs.map .d) off with
   |some v=>some (v,[],[])
   |none=>none
 | .pe id ep i sz off=>match o id with
   | .arr fK _ om es=>if ep=fK/\sz=om then match es[i]? with
    |some e=>match dG P t (e.cells.map .d) off with
     |some v=>some (v,[],[id])
     |none=>none
    |none=>none
     else none
   |_=>none
 |_=>none
def oP(P:Program)(o:Nat->aa)(t:TypeId)(x v:V):Option et:=
 match x with
 | .ptr id off=>match o id with
   | .row cs=>match uS P t cs off v with
     |some cs'=>some (.bC [],[(id, .row cs')],[id])
     |none=>none
   |_=>none
 | .pe id ep i om off=>match o id with
   | .arr fK ty sz es=>if ep=fK/\om=sz then match es[i]?,du o v with
    |some e,some y=>if y.cells.length=P.cellsOf t/\0<y.cells.length/\v.ids.all (· !=id)=true then match e.put off y.cells with
     |some e'=>some (.bC [],cq o v.ids++[(id, .arr ep ty sz (es.set i e'))],id::v.ids)
     |none=>none
     else none
    |_,_=>none
     else none
   |_=>none
 |_=>none
def eC(P:Program)(o:Nat->aa)(fr:Nat)(t:TypeId)(len:Nat)(parts:List (Nat×V)):Option et:=
 match bJ P t with
 |some e=>if len=0/\parts.isEmpty=true/\0<P.cellsOf e then some (.osl fr 0,[(fr, .arr 0 e (P.cellsOf e) [])],[])else if parts.map (·.1)=List.range len/\(cN P e).isSome=true/\0<len/\0<P.cellsOf e/\len*P.cellsOf e<=2^24 then match bD o (parts.map (·.2))with
  |some ds=>if ds.all (fun x=>x.cells.length==P.cellsOf e)=true then some (.osl fr 0,cq o (V.aV (parts.map (·.2)))++[(fr, .arr 0 e (P.cellsOf e) ds)],V.aV (parts.map (·.2)))else none
  |none=>none
  else none
 |none=>none
def jK(P:Program)(fr:Nat)(t:TypeId)(l c:V):Option et:=
 match bJ P t with
 |some e=>match l,c with
  | .d (.int _ n), .d (.int _ m)=>if n=m/\0<=n/\0<P.cellsOf e/\P.bytesOf e*n.toNat<=2^47/\n.toNat<=2^47 then match wV P e with
   |some x=>some (.osl fr 0,[(fr, .arr 0 e (P.cellsOf e) (List.replicate n.toNat x))],[])
   |none=>none
    else none
  |_,_=>none
 |none=>none
def nD(P:Program)(o:Nat->aa)(fr:Nat)(ts:Array TypeId)(x y:V):Option et:=
 match ts.toList with
 |[t,t']=>if t=t' then match bJ P t,nC o y with
    |some e,some (new,rd)=>if 0<P.cellsOf e/\(cN P e).isSome=true/\new.all (fun z=>z.cells.length==P.cellsOf e)=true then match x with
     | .a8=>if new.length<=2^47/\new.length*P.bytesOf e<=2^47 then some (.osl fr 0,[(fr, .arr 0 e (P.cellsOf e) new)],rd)else none
     | .oj es=>if es.all (fun z=>z.cells.length==P.cellsOf e)=true then(if new=[]then some (.oj es,[],rd)else if es.length+new.length<=2^40/\(es.length+new.length)*P.bytesOf e<=2^40 then some (.osl fr 0,[(fr, .arr 0 e (P.cellsOf e) (es++new))],rd)else none)else none
     | .osl id ep=>match o id with
       | .arr fK ty sz es=>if ep=fK/\ty=e/\sz=P.cellsOf e/\es.length+new.length<=2^47/\(es.length+new.length)*P.bytesOf e<=2^47 then
        some (.osl id (ep+1),[(id, .arr (ep+1) ty sz (es++new))],id::rd)else none
       |_=>none
     |_=>none
     else none
    |_,_=>none
  else none
 |_=>none
def nE(isMax:Bool)(x y:V):Option V:=
 match x,y with
 | .d (.int k a), .d (.int k' b)=>if k=k' then some (.d (.int k (if isMax then(if b>a then b else a)else(if b<a then b else a))))else none
 |_,_=>none
def jL(x:Option V):Option et:=match x with|some v=>one v|none=>none
def nF(P:Program)(s:S)(fr:Nat)(b:Builtin)(args:List Operand)(ts:Array TypeId):Option et:=
 match b,args with
 | .len,[x]=>match ts.toList with
   |[t]=>zM P t s.o (s.ev x)
   |_=>none
 | .append,[x,y]=>match tx P fr ts (s.ev x) (s.ev y)with
   |some r=>some r
   |none=>nD P s.o fr ts (s.ev x) (s.ev y)
 | .max,[x,y]=>jL (nE true (s.ev x) (s.ev y))
 | .min,[x,y]=>jL (nE false (s.ev x) (s.ev y))
 | .max,[x,y,z]=>jL (Ew (s.ev x) (s.ev y) (s.ev z))
 | .copy,[x,y]=>tw P s.o ts (s.ev x) (s.ev y)
 | .delete,[x,y]=>match ts.toList.head? with
   |some t=>ly P s.o t (s.ev x) (s.ev y)
   |none=>none
 | .cap,[x]=>Hi P ts (s.ev x)
 |_,_=>none
def vl(P:Program)(t:TypeId)(parts:List (Nat×V)):Option V:=
 match cN P t,eQ P t with
 |some z,some pl=>match py pl z parts with
  |some cs=>some (lV cs)
  |none=>none
 |_,_=>none
def gE(o:Nat->aa)(x:V):Option V:=
 match x with
 | .ptr id off=>E1 (o id).bI (.ptr id off)
 | .pp cs off=>some (.pp cs off)
 | .func (.func f) first cap=>some (.func (.func f) first cap)
 |_=>none
def rk(P:Program)(t:TypeId):Bool:=
 match P.underlying t with
 |some (.interface _)=>false
 |some _=>true
 |none=>false
def E2(P:Program)(t:TypeId)(x:V):Option V:=
 E1 (rk P t) (match x with
  | .d y=> .d (.iface t y)
  |v=> .iface t v)
def dS(P:Program)(o:Nat->aa)(op:BinOp)(t:TypeId)(mi:Bool)(x y:V):Option et:=
 match vk P op t x y with
 |some v=>one v
 |none=>oG P o op t mi x y
def Cn(op:UnOp)(x:V):Option V:=
 match op,x with
 | .not, .ek=>some .ek
 |op,x=>XS op x
def eK(P:Program)(s:S)(fr:Nat)(op:Op):Option et:=
 match op with
 | .move x=>one (s.ev x)
 | .assign x=>one (s.ev x)
 | .pick c a b=>jL (nB (s.ev c) (s.ev a) (s.ev b))
 | .alloc t=>match cN P t with
   |some cs=>some (.ptr fr 0,[(fr, .row cs)],[])
   |none=>none
 | .box _ x=>match(s.ev x).cells with
   |some cs=>some (.ptr fr 0,[(fr, .row cs)],[])
   |none=>none
 | .build t parts=>jL (vl P t (parts.toList.map fun p=>(p.1,s.ev p.2)))
 | .buildSlice t len parts=>eC P s.o fr t len (parts.toList.map fun p=>(p.1,s.ev p.2))
 | .load t x=>kH P s.o t (s.ev x)
 | .store t x v=>oP P s.o t (s.ev x) (s.ev v)
 | .nilCheck x=>jL (gE s.o (s.ev x))
 | .binOp op t x y _=>dS P s.o op t (isConst x||isConst y) (s.ev x) (s.ev y)
 | .unOp op _ x=>jL (Cn op (s.ev x))
 | .convert u t x=>match P.underlying u,uR P t,s.ev x with
   |some _,some k, .d (.int _ n)=>one (.d (.int k (k.wrap n)))
   |_,_,_=>none
 | .makeInterface t x=>jL (E2 P t (s.ev x))
 | .makeFunc fn first cap=>one (.func fn (first.toList.map s.ev) (cap.toList.map s.ev))
 | .makeSlice t l c=>jK P fr t (s.ev l) (s.ev c)
 | .fieldAddr t x f=>jL (fk P s.o t (s.ev x) f)
 | .indexAddr t x i=>fj P s.o t (s.ev x) (s.ev i)
 | .extract x i=>match s.ev x with
   | .bC vs=>match vs[i]? with
     |some v=>one v
     |none=>none
   |_=>none
 | .call c=>match c.callee with
   | .builtin b=>nF P s fr b c.args.toList c.argTypes
   |_=>none
 | .slice t x lo hi mx=>oD P s.o t (s.ev x) (lo.map s.ev) (hi.map s.ev) (mx.map s.ev)
 | .field t x f=>jL (qP P t (s.ev x) f)
 | .index t x i=>jL (qQ P t (s.ev x) (s.ev i))
 | .typeAssert x _ t ok=>jL (mZ P t ok (s.ev x))
 | .makeMap t none=>ko P fr t
 | .lookup t m k ok=>gy P s.o t (s.ev m) (s.ev k) ok
 | .mapUpdate t m k v=>eg P s.o t (s.ev m) (s.ev k) (s.ev v)
 | .insert t m k v=>eg P s.o t (s.ev m) (s.ev k) (s.ev v)
 | .range t x=>kp P s.o fr t (s.ev x)
 | .next x str=>lY s.o (s.ev x) str
 | .entry x=>kq s.o (s.ev x)
 |_=>none
section
variable {P:Program}{s:S}{fr:Nat}{v:V}{Δ:List (Nat×aa)}{rd:List Nat}{o:Nat->aa}{K:V->List (Nat×aa)->List Nat->Prop}
theorem oQ{α:Type}{c:Bool}{x y:α}(h:E1 c x=some y):c=true/\x=y:=by
 unfold E1 at h;split at h
 ·injection h with h;exact⟨by assumption,h⟩
 ·cases h
theorem iT{x:V}{r:et}(h:one x=some r):r=(x,[],[]):=by unfold one at h;injection h with h;exact h.symm
theorem gw{x:Option V}{r:et}(h:jL x=some r):∃v,x=some v/\r=(v,[],[]):=by
 unfold jL at h;split at h
 ·exact⟨_,rfl,iT h⟩
 ·cases h
theorem zN{x:V}{es:List D}{rd:List Nat}(h:nC o x=some (es,rd)):dH o x=some es/\rd=x.ids:=by
 unfold nC at h
 split at h
 ·exact LI
 ·exact LI
 ·exact LI
 ·split at h
  ·rename_i ho
   split at h
   ·rename_i e;simp at h;obtain⟨rfl,rfl⟩:=h;exact⟨by simp[dH,du,ho,e],rfl⟩
   ·cases h
  ·rename_i ho
   split at h
   ·rename_i e;simp at h;obtain⟨rfl,rfl⟩:=h;exact⟨by simp[dH,du,ho,e],rfl⟩
   ·cases h
  ·cases h
 ·cases h
theorem CU{op:BinOp}{k:IntKind}{a b:Int}{v:V}(h:xE op k a b=some v){K:V->Prop}(hK:K v):Hg op k a b K:=by
 cases op<;>simp only[xE]at h<;>simp only[Hg]
 case quo=>split at h
           ·cases h
           ·exact LH
 case rem=>split at h
           ·cases h
           ·exact LH
 case and=>simp only[Option.map_eq_some_iff]at h;obtain⟨r,h1,rfl⟩:=h;exact⟨r,h1,hK⟩
 case or=>simp only[Option.map_eq_some_iff]at h;obtain⟨r,h1,rfl⟩:=h;exact⟨r,h1,hK⟩
 case xor=>simp only[Option.map_eq_some_iff]at h;obtain⟨r,h1,rfl⟩:=h;exact⟨r,h1,hK⟩
 case andNot=>simp only[Option.map_eq_some_iff]at h;obtain⟨r,h1,rfl⟩:=h;exact⟨r,h1,hK⟩
 case shl=>cases h
 case shr=>cases h
 case eql=>injection h with h;subst h;exact⟨_,rfl,hK⟩
 case neq=>injection h with h;subst h;exact⟨_,rfl,hK⟩
 case lss=>injection h with h;subst h;exact⟨_,rfl,hK⟩
 case leq=>injection h with h;subst h;exact⟨_,rfl,hK⟩
 case gtr=>injection h with h;subst h;exact⟨_,rfl,hK⟩
 case geq=>injection h with h;subst h;exact⟨_,rfl,hK⟩
 all_goals (injection h with h;subst h;exact hK)
theorem CV{op:BinOp}{t:TypeId}{x y v:V}(h:vk P op t x y=some v){K:V->Prop}(hK:K v):Et P op t x y K:=by
 unfold vk at h
 unfold Et
 split at h
 ·split at h
  ·exact⟨by assumption,CU h hK⟩
  ·cases h
 ·have hb:jJ P t=true->P.underlying t=some .bool:=by
   unfold jJ;intro h;split at h
   ·assumption
   ·cases h
  split at h
  ·obtain⟨h1,rfl⟩:=oQ h;exact⟨hb h1,hK⟩
  ·obtain⟨h1,rfl⟩:=oQ h;exact⟨hb h1,hK⟩
  ·cases h
 ·split at h
  ·exact D8
  ·exact D8
  ·cases h
 ·cases h
theorem zO{c a b v:V}(h:nB c a b=some v){K:V->Prop}(hK:K v):wT c a b K:=by
 unfold nB at h
 unfold wT
 split at h
 ·injection h with h;subst h;exact⟨fun _=>hK,(fun h=>by cases h)⟩
 ·injection h with h;subst h;exact⟨(fun h=>by cases h),fun _=>hK⟩
 ·cases h
theorem rl{x y:V}{q:Nat}(h:l7 o x q=some y):(∃id off,x= .ptr id off/\(o id).bI=true/\y= .ptr id (off+q))\/(∃cs off,x= .pp cs off/\y= .pp cs (off+q))\/
 (∃id ep j sz off,x= .pe id ep j sz off/\(o id).bL=some ep/\y= .pe id ep j sz (off+q)):=by
 unfold l7 at h
 split at h
 ·obtain⟨h1,rfl⟩:=oQ h;exact .inl ⟨_,_,rfl,h1,rfl⟩
 ·injection h with h;exact .inr (.inl ⟨_,_,rfl,h.symm⟩)
 ·split at h
  ·injection h with h;exact .inr (.inr ⟨_,_,_,_,_,rfl,by assumption,h.symm⟩)
  ·cases h
 ·cases h
theorem qJ{e:TypeId}{es:List D}{i:Int}{rd:List Nat}{r:et}(h:tT P e es i rd=some r):
 0<=i/\∃y,es[i.toNat]? =some y/\y.cells.length=P.cellsOf e/\0<P.cellsOf e/\r=(.pp y.cells 0,[],rd):=by
 unfold tT at h
 split at h
 ·rename_i h0
  split at h
  ·rename_i y hy
   obtain⟨h1,rfl⟩:=oQ h
   simp only[Bool.and_eq_true,beq_iff_eq,decide_eq_true_eq]at h1
   exact⟨h0,y,hy,h1.1,h1.2,rfl⟩
  ·cases h
 ·cases h
theorem qh{t:TypeId}{x ix:V}(h:fj P o t x ix=some (v,Δ,rd))(hK:K v Δ rd):gP P o t x ix fun v rd=>K v [] rd:=by
 unfold fj at h
 unfold gP
 split at h
 ·simp only
  split at h
  ·rename_i e ht
   simp only[ht]
   split at h
   ·exact Rr
   ·exact Rr
   ·split at h
    ·rename_i ho
     split at h
     ·rename_i hc
      simp only[Option.some.injEq,Prod.mk.injEq]at h;obtain⟨rfl,rfl,rfl⟩:=h
      simp only[ho]
      exact⟨hc.1,hc.2.1,hc.2.2.1,hc.2.2.2.1,hc.2.2.2.2,hK⟩
     ·cases h
    ·rename_i ho
     split at h
     ·rename_i hc
      obtain⟨h0,y,h1,h2,h3,h4⟩:=qJ h
      simp only[Prod.mk.injEq]at h4;obtain⟨rfl,rfl,rfl⟩:=h4
      simp only[ho]
      exact⟨hc,h0,y,h1,h2,h3,hK⟩
     ·cases h
    ·cases h
   ·cases h
  ·rename_i ht
   simp only[ht]
   split at h
   ·rename_i n e ha
    simp only[ha]
    split at h
    ·rename_i hc
     simp only[Option.bind_eq_some_iff]at h
     obtain⟨y,hy,h1⟩:=h
     have h1:=iT h1
     simp only[Prod.mk.injEq]at h1;obtain⟨rfl,rfl,rfl⟩:=h1
     refine⟨hc.1,hc.2.1,hc.2.2, ?_⟩
     rcases rl hy with⟨_,_,rfl,h2,rfl⟩|⟨_,_,rfl,rfl⟩|⟨_,_,_,_,_,rfl,h2,rfl⟩
     ·exact⟨h2,hK⟩
     ·exact hK
     ·exact⟨h2,hK⟩
    ·cases h
   ·cases h
 ·cases h
theorem qi{t:TypeId}{x y:V}{f:Nat}(h:fk P o t x f=some y){K:V->Prop}(hK:K y):gQ P o t x f K:=by
 unfold fk at h
 unfold gQ
 split at h
 ·rename_i q hq
  simp only[hq]
  rcases rl h with⟨_,_,rfl,h2,rfl⟩|⟨_,_,rfl,rfl⟩|⟨_,_,_,_,_,rfl,h2,rfl⟩
  ·exact⟨h2,hK⟩
  ·exact hK
  ·exact⟨h2,hK⟩
 ·cases h
theorem CW{t:TypeId}{x:V}(h:zM P t o x=some (v,Δ,rd))(hK:K v Δ rd):Eu P t o x fun v rd=>K v [] rd:=by
 unfold zM at h
 unfold Eu
 split at h
 ·rename_i e hu
  simp only[hu]
  split at h
  ·rename_i es uL hl
   simp only[Option.some.injEq,Prod.mk.injEq]at h;obtain⟨rfl,rfl,rfl⟩:=h
   unfold nC at hl
   split at hl
   ·exact LK
   ·exact LK
   ·exact LK
   ·split at hl
    ·rename_i ho
     split at hl
     ·rename_i hc;simp at hl;obtain⟨rfl,rfl⟩:=hl;simp only[ho];exact⟨hc,hK⟩
     ·cases hl
    ·rename_i ho
     split at hl
     ·rename_i hc;simp at hl;obtain⟨rfl,rfl⟩:=hl;simp only[ho];exact⟨hc,hK⟩
     ·cases hl
    ·cases hl
   ·cases hl
  ·cases h
 ·rename_i hu
  simp only[hu]
  split at h
  ·have h1:=iT h;simp only[Prod.mk.injEq]at h1;obtain⟨rfl,rfl,rfl⟩:=h1;exact hK
  ·cases h
 ·rename_i hu
  simp only[hu]
  have h1:=iT h;simp only[Prod.mk.injEq]at h1;obtain⟨rfl,rfl,rfl⟩:=h1;exact hK
 ·cases h
theorem zP{t:TypeId}{x:V}(h:kH P o t x=some (v,Δ,rd))(hK:K v Δ rd):wU P o t x fun v rd=>K v [] rd:=by
 unfold kH at h
 unfold wU
 split at h
 ·split at h
  ·rename_i ho
   split at h
   ·rename_i hg
    exact RC
   ·cases h
  ·cases h
 ·split at h
  ·rename_i hg
   simp only[Option.some.injEq,Prod.mk.injEq]at h;obtain⟨rfl,rfl,rfl⟩:=h
   exact⟨_,hg,hK⟩
  ·cases h
 ·split at h
  ·rename_i ho
   split at h
   ·rename_i hc
    split at h
    ·rename_i e he
     split at h
     ·rename_i hg
      simp only[Option.some.injEq,Prod.mk.injEq]at h;obtain⟨rfl,rfl,rfl⟩:=h
      simp only[ho];exact⟨hc.1,hc.2,e,he,_,hg,hK⟩
     ·cases h
    ·cases h
   ·cases h
  ·cases h
 ·cases h
theorem xF{t:TypeId}{x y:V}(h:oP P o t x y=some (v,Δ,rd))(hK:K v Δ rd):qO P o t x y fun Δ rd=>K (.bC []) Δ rd:=by
 unfold oP at h
 unfold qO
 split at h
 ·split at h
  ·rename_i ho
   split at h
   ·rename_i hg
    exact RC
   ·cases h
  ·cases h
 ·split at h
  ·rename_i ho
   split at h
   ·rename_i hc
    split at h
    ·rename_i e z he hz
     split at h
     ·rename_i hl
      split at h
      ·rename_i e' hp
       simp only[Option.some.injEq,Prod.mk.injEq]at h;obtain⟨rfl,rfl,rfl⟩:=h
       simp only[ho]
       exact⟨hc.1,hc.2,e,he,z,hz,hl.1,hl.2.1,hl.2.2,e',hp,hK⟩
      ·cases h
     ·cases h
    ·cases h
   ·cases h
  ·cases h
 ·cases h
theorem oR{t:TypeId}{len:Nat}{parts:List (Nat×V)}(h:eC P o fr t len parts=some (v,Δ,rd))(hK:K v Δ rd):fO P o fr t len parts K:=by
 unfold eC at h
 unfold fO
 split at h
 ·rename_i e ht
  simp only[ht]
  split at h
  ·rename_i hc
   simp only[Option.some.injEq,Prod.mk.injEq]at h;obtain⟨rfl,rfl,rfl⟩:=h
   exact .inl ⟨hc.1,by simpa using hc.2.1,hc.2.2,hK⟩
  split at h
  ·rename_i hc
   refine .inr ?_
   split at h
   ·rename_i ds hd
    split at h
    ·rename_i hw
     simp only[Option.some.injEq,Prod.mk.injEq]at h;obtain⟨rfl,rfl,rfl⟩:=h
     refine⟨hc.1,hc.2.1,hc.2.2.1,hc.2.2.2.1,hc.2.2.2.2,ds,hd,fun x hx=> ?_,hK⟩
     simpa using List.all_eq_true.1 hw x hx
    ·cases h
   ·cases h
  ·cases h
 ·cases h
theorem qj{t:TypeId}{l c:V}(h:jK P fr t l c=some (v,Δ,rd))(hK:K v Δ rd):gR P fr t l c fun v Δ=>K v Δ []:=by
 unfold jK at h
 unfold gR
 split at h
 ·rename_i e ht
  split at h
  ·split at h
   ·rename_i hc
    split at h
    ·rename_i x hx
     simp only[Option.some.injEq,Prod.mk.injEq]at h;obtain⟨rfl,rfl,rfl⟩:=h
     simp only[ht]
     exact⟨hc.1,hc.2.1,hc.2.2.1,hc.2.2.2.1,hc.2.2.2.2,x,hx,hK⟩
    ·cases h
   ·cases h
  ·cases h
 ·cases h
theorem vm{ts:Array TypeId}{x y:V}(h:nD P o fr ts x y=some (v,Δ,rd))(hK:K v Δ rd):mX P o fr ts x y K:=by
 unfold nD at h
 unfold mX
 split at h
 ·rename_i t t' sY
  simp only[sY]
  split at h
  ·rename_i htt
   refine⟨htt, ?_⟩
   split at h
   ·rename_i e new uL ht hl
    obtain⟨uX,rfl⟩:=zN hl
    simp only[ht]
    split at h
    ·rename_i hc
     refine⟨new,uX,hc.1,hc.2.1,fun z hz=>by simpa using List.all_eq_true.1 hc.2.2 z hz, ?_⟩
     split at h
     ·split at h
      ·rename_i qX
       simp only[Option.some.injEq,Prod.mk.injEq]at h;obtain⟨rfl,rfl,rfl⟩:=h
       exact⟨qX.1,qX.2,hK⟩
      ·cases h
     ·split at h
      ·rename_i Bi
       refine⟨fun z hz=>by simpa using List.all_eq_true.1 Bi z hz, ?_⟩
       split at h
       ·rename_i hn
        simp only[Option.some.injEq,Prod.mk.injEq]at h;obtain⟨rfl,rfl,rfl⟩:=h
        rw[if_pos hn];exact hK
       ·rename_i hn
        split at h
        ·rename_i qX
         simp only[Option.some.injEq,Prod.mk.injEq]at h;obtain⟨rfl,rfl,rfl⟩:=h
         rw[if_neg hn];exact⟨qX.1,qX.2,hK⟩
        ·cases h
      ·cases h
     ·split at h
      ·rename_i ho
       split at h
       ·rename_i qX
        simp only[Option.some.injEq,Prod.mk.injEq]at h;obtain⟨rfl,rfl,rfl⟩:=h
        simp only[ho]
        exact⟨qX.1,qX.2.1,qX.2.2.1,qX.2.2.2.1,qX.2.2.2.2,hK⟩
       ·cases h
      ·cases h
     ·cases h
    ·cases h
   ·cases h
  ·cases h
 ·cases h
theorem rm{x y:V}(h:gE o x=some y){K:V->Prop}(hK:K y):jh o x K:=by
 unfold gE at h
 unfold jh
 split at h
 ·obtain⟨h2,rfl⟩:=oQ h;exact⟨h2,hK⟩
 ·exact D8
 ·exact D8
 ·cases h
theorem E3{op:UnOp}{x y:V}(h:XS op x=some y){K:V->Prop}(hK:K y):R1 op x K:=by
 unfold XS at h
 unfold R1
 split at h
 ·injection h with h;subst h;simp only;rw[Int.zero_sub];exact hK
 ·exact D8
 ·cases h
theorem uK{m:Bool}{x y v:V}(h:nE m x y=some v){K:V->Prop}(hK:K v):lx m [x,y] K:=by
 unfold nE at h
 unfold lx
 split at h
 ·split at h
  ·exact LH
  ·cases h
 ·cases h
theorem xG{op:Op}(h:eK P s fr op=some (v,Δ,rd))(hK:K v Δ rd):Jy P s fr op K:=by
 cases op<;>simp only[eK]at h<;>simp only[Jy]<;>try (cases h;done)
 case move x=>have h:=iT h;simp only[Prod.mk.injEq]at h;obtain⟨rfl,rfl,rfl⟩:=h;exact hK
 case assign x=>have h:=iT h;simp only[Prod.mk.injEq]at h;obtain⟨rfl,rfl,rfl⟩:=h;exact hK
 case pick c a b=>
  obtain⟨x,h1,h⟩:=gw h;simp only[Prod.mk.injEq]at h;obtain⟨rfl,rfl,rfl⟩:=h
  exact zO h1 hK
 case alloc t=>
  split at h
  ·rename_i cs hz;simp only[Option.some.injEq,Prod.mk.injEq]at h;obtain⟨rfl,rfl,rfl⟩:=h;exact⟨cs,hz,hK⟩
  ·cases h
 case box t x=>
  split at h
  ·rename_i cs hz;simp only[Option.some.injEq,Prod.mk.injEq]at h;obtain⟨rfl,rfl,rfl⟩:=h;exact⟨cs,hz,hK⟩
  ·cases h
 case build t parts=>
  obtain⟨x,h1,h⟩:=gw h;simp only[Prod.mk.injEq]at h;obtain⟨rfl,rfl,rfl⟩:=h
  unfold vl at h1
  split at h1
  ·rename_i z pl hz hp
   split at h1
   ·rename_i cs hc;injection h1 with h1;subst h1;exact⟨z,pl,cs,hz,hp,hc,hK⟩
   ·cases h1
  ·cases h1
 case buildSlice t len parts=>exact oR h hK
 case load t x=>exact zP h hK
 case store t x y=>exact xF h hK
 case nilCheck x=>
  obtain⟨y,h1,h⟩:=gw h;simp only[Prod.mk.injEq]at h;obtain⟨rfl,rfl,rfl⟩:=h
  exact rm h1 hK
 case binOp op t x y yt=>
  unfold dS at h
  split at h
  ·rename_i z h1
   have h:=iT h;simp only[Prod.mk.injEq]at h;obtain⟨rfl,rfl,rfl⟩:=h
   exact .inl (CV h1 hK)
  ·right;simp only[h,ct];exact hK
 case unOp op t x=>
  obtain⟨z,h1,h⟩:=gw h;simp only[Prod.mk.injEq]at h;obtain⟨rfl,rfl,rfl⟩:=h
  unfold Cn at h1
  split at h1
  ·rename_i hx;injection h1 with h1;subst h1;exact .inr ⟨rfl,hx,hK⟩
  ·exact .inl (E3 h1 hK)
 case slice t x lo hi mx=>simp only[h,ct];exact hK
 case field t x f=>
  exact LR
 case typeAssert x xt t ok=>
  exact LR
 case makeMap t r=>
  cases r with
  |none=>simp only[h,ct];exact hK
  |some x=>cases h
 case lookup t m k ok=>simp only[h,ct];exact hK
 case mapUpdate t m k v=>simp only[h,ct];exact hK
 case insert t m k v=>simp only[h,ct];exact hK
 case index t x i=>
  exact LR
 case convert u t x=>
  split at h
  ·rename_i d k k' n hu hk hx
   have h:=iT h;simp only[Prod.mk.injEq]at h;obtain⟨rfl,rfl,rfl⟩:=h
   exact⟨by rw[hu];rfl,by simp only[hk,hx];exact hK⟩
  ·cases h
 case makeInterface t x=>
  obtain⟨z,h1,h⟩:=gw h;simp only[Prod.mk.injEq]at h;obtain⟨rfl,rfl,rfl⟩:=h
  obtain⟨h2,rfl⟩:=oQ h1
  refine⟨?_, ?_⟩
  ·unfold rk at h2
   cases hd:P.underlying t with
   |none=>simp[hd]at h2
   |some d=>exact⟨d,rfl,by cases d<;>simp_all⟩
  ·split
   ·rename_i y hy;simp only[hy]at hK;exact hK
   ·rename_i hy
    split at hK
    ·rename_i y hy';exact absurd hy' (hy y)
    ·exact hK
 case makeFunc fn first cap=>have h:=iT h;simp only[Prod.mk.injEq]at h;obtain⟨rfl,rfl,rfl⟩:=h;exact hK
 case makeSlice t l c=>
  exact qj h hK
 case fieldAddr t x f=>
  obtain⟨z,h1,h⟩:=gw h;simp only[Prod.mk.injEq]at h;obtain⟨rfl,rfl,rfl⟩:=h
  exact qi h1 hK
 case indexAddr t x i=>
  exact qh h hK
 case extract x i=>
  split at h
  ·rename_i vs hv
   split at h
   ·rename_i u hu
    have h:=iT h;simp only[Prod.mk.injEq]at h;obtain⟨rfl,rfl,rfl⟩:=h
    simp only[hv];exact⟨_,hu,hK⟩
   ·cases h
  ·cases h
 case call c=>
  obtain⟨ER,args,ts⟩:=c
  cases ER<;>simp only at h|- <;>try (cases h;done)
  rename_i b
  unfold nF at h
  unfold qR
  split at h
  ·rename_i x ha
   simp only[ha]
   split at h
   ·rename_i t sY;exact⟨t,sY,CW h hK⟩
   ·cases h
  ·rename_i x y ha
   simp only[ha]
   split at h
   ·rename_i r hr
    simp only[Option.some.injEq]at h
    subst h
    exact .inl (by rw[hr];exact hK)
   ·exact .inr (vm h hK)
  ·rename_i x y ha
   exact Ru
  ·rename_i x y ha
   exact Ru
  ·rename_i x y z ha
   simp only[ha]
   obtain⟨v0,h1,h⟩:=gw h;simp only[Prod.mk.injEq]at h;obtain⟨rfl,rfl,rfl⟩:=h
   exact QS
  ·rename_i x y ha
   simp only[ha,h,ct];exact hK
  ·rename_i x y ha
   simp only[ha]
   split at h
   ·rename_i t ht;exact⟨t,ht,by simp only[h,ct];exact hK⟩
   ·cases h
  ·rename_i x ha
   simp only[ha,h,ct];exact hK
  ·cases h
 case range t x=>simp only[h,ct];exact hK
 case next x str=>left;simp only[h,ct];exact hK
 case entry x=>simp only[h,ct];exact hK
end
end
section
def rn(P:Program)(g:FuncId)(ds:List D)(o o1 oa:Nat->aa)(K:V->(Nat->aa)->Prop)(X:V->(Nat->aa)->Prop):Prop:=
 ∃out,aY P g ds out/\((match out with| .ret rs=>K (gY rs) o1| .bf x=>X (.d x) o1)\/(out.flat=true/\match out with| .ret rs=>K (gY rs) o| .bf x=>X (.d x) o)\/(out.kC=true/\match out with| .ret rs=>K (gY rs) oa| .bf x=>X (.d x) oa))
def pJ(P:Program)(g:FuncId)(args:List V)(o:Nat->aa)(nx:Nat)(K:V->(Nat->aa)->Nat->Prop)(X:V->(Nat->aa)->Nat->Prop):Prop:=lR P g args o nx K X
theorem lR.mono {P:Program}{g:FuncId}{args:List V}{o:Nat->aa}{nx:Nat}{K X K' X':V->(Nat->aa)->Nat->Prop}(hK:∀v o n,K v o n->K' v o n)(hX:∀v o n,X v o n->X' v o n)(h:lR P g args o nx K X):lR P g args o nx K' X':=
 h.imp (dV.mono hK hX) (dV.mono hK hX)
@[congr] theorem JR {P:Program} {g g':FuncId} {ds Sn:List D} {o o1 oa:Nat->aa} {K X} (h:g=g') (h':ds=Sn):rn P g ds o o1 oa K X=rn P g' Sn o o1 oa K X:=by subst h;subst h';rfl
@[congr] theorem JS {P:Program} {g g':FuncId} {bF Sp:List V} {o:Nat->aa} {nx:Nat} {K X} (h:g=g') (h':bF=Sp):pJ P g bF o nx K X=pJ P g' Sp o nx K X:=by subst h;subst h';rfl
def JT(P:Program)(g:FuncId)(args:List V)(o:Nat->aa)(nx:Nat)(K X:V->(Nat->aa)->Nat->Prop):Prop:=
 (∃ds,bD o args=some ds/\rn P g ds o (put o (cq o (V.aV args))) (put o (oC o (V.aV args))) (fun v o'=>K v o' (nx+1)) (fun v o'=>X v o' (nx+1)))\/dV P g args o nx K X
def DX(P:Program)(s:S)(o:bw)(X:V->S->Prop)(K:S->Prop):Prop:=
 match o.op with
 | .call c=>match c.callee with
   | .value f=>match s.ev f with
     | .func (.func g) first cap=>match bD s.o (first++c.args.toList.map s.ev++cap)with
       |some ds=>rn P g ds s.o (put s.o (cq s.o (V.aV (first++c.args.toList.map s.ev++cap)))) (put s.o (oC s.o (V.aV (first++c.args.toList.map s.ev++cap)))) (fun v o'=>K ⟨aQ s.env o.dst v,o',s.nx+1⟩) (fun v o'=>X v ⟨s.env,o',s.nx+1⟩)\/
        pJ P g (first++c.args.toList.map s.ev++cap) s.o s.nx (fun v o' nx'=>K ⟨aQ s.env o.dst v,o',nx'⟩) (fun v o' nx'=>X v ⟨s.env,o',nx'⟩)
       |none=>pJ P g (first++c.args.toList.map s.ev++cap) s.o s.nx (fun v o' nx'=>K ⟨aQ s.env o.dst v,o',nx'⟩) (fun v o' nx'=>X v ⟨s.env,o',nx'⟩)
     | .jc id=>cV P id (c.args.toList.map s.ev) s.o s.nx (fun v o' nx'=>K ⟨aQ s.env o.dst v,o',nx'⟩) (fun v o' nx'=>X v ⟨s.env,o',nx'⟩)
     |_=>False
   | .invoke r m=>match ra P m (s.ev r)with
     |some (g,y)=>JT P g (y::c.args.toList.map s.ev) s.o s.nx (fun v o' nx'=>K ⟨aQ s.env o.dst v,o',nx'⟩) (fun v o' nx'=>X v ⟨s.env,o',nx'⟩)
     |none=>False
   |_=>match eK P s s.nx o.op with
    |some (v,Δ,_)=>K ⟨aQ s.env o.dst v,put s.o Δ,s.nx+1⟩
    |none=>False
 | .panic x=>match s.ev x with
   | .d (.iface t y)=>X (.d (.iface t y)) s
   | .iface t y=>X (.iface t y) s
   |_=>False
 | .next x str=>match lZ s.o (s.ev x)with
   |some (id,l)=>str=false/\Bb id l fun v Δ _=>K ⟨aQ s.env o.dst v,put s.o Δ,s.nx+1⟩
   |none=>match eK P s s.nx o.op with
    |some (v,Δ,_)=>K ⟨aQ s.env o.dst v,put s.o Δ,s.nx+1⟩
    |none=>False
 |op=>match eK P s s.nx op with
  |some (v,Δ,_)=>K ⟨aQ s.env o.dst v,put s.o Δ,s.nx+1⟩
  |none=>False
def mA(P:Program)(X:V->S->Prop)(K:S->Prop):List bw->S->Prop
 |[],s=>K s
 |o::l,s=>match o.gd with
  |none=>DX P s o X (mA P X K l)
  |some (d,want)=>match s.env d with
   | .d (.bool b)=>if b=want then DX P s o X (mA P X K l)else mA P X K l ⟨aQ s.env o.dst (.bC []),s.o,s.nx+1⟩
   | .bC []=>mA P X K l ⟨aQ s.env o.dst (.bC []),s.o,s.nx+1⟩
   |_=>False
def E4(b:Nat)(body:(eM->S->Prop)->S->Prop)(Q:eM->S->Prop)(s:S):Prop:=
 ∃ (J:Nat->S->Prop),(∃m s1,bM b s s1/\J m s1)/\∀m s0,J m s0->body (fun e s=>match e with| .normal=>∃m' s1,m'<m/\bM b s s1/\J m' s1|e=>Q e s) s0
@[congr] theorem JU {b:Nat} {body Q} {s s':S} (h:s=s'):E4 b body Q s=E4 b body Q s':=by subst h;rfl
def nG(t:Bool)(A B:Prop):Prop:=(t=true->A)/\(t=false->B)
@[congr] theorem JV {t t':Bool} {A B:Prop} (h:t=t'):nG t A B=nG t' A B:=by subst h;rfl
@[simp] theorem rp (A B:Prop):nG true A B=A:=by simp[nG]
@[simp] theorem pK (A B:Prop):nG false A B=B:=by simp[nG]
section
variable {P:Program}{n b:Nat}
theorem Bs{s:S}{o:bw}{o':Oper}{X X':V->S->Prop}{K K':S->Prop}(e8:o'.op=o.op)(cf:o'.dst=o.dst)(hd:eS n o'.dst)(hK:∀s,K s->K' s)(hX:∀v s,X v s->X' v s)(h:DX P s o X K):XK P n s o' X' K':=by
 refine⟨hd, ?_⟩
 rw[cf,e8]
 unfold DX at h
 have hs:∀ {op:Op},(match eK P s s.nx op with|some (v,Δ,_)=>K ⟨aQ s.env o.dst v,put s.o Δ,s.nx+1⟩|none=>False)->Jy P s s.nx op fun v Δ _=>K' ⟨aQ s.env o.dst v,put s.o Δ,s.nx+1⟩:=by
  intro op h
  split at h
  ·rename_i v Δ rd he;exact xG he (hK _ h)
  ·exact h.elim
 split at h
 ·rename_i c hc
  split at h
  ·rename_i f dL
   simp only[hc,dL]
   split at h
   ·rename_i g first cap hf
    unfold xp
    simp only[hf]
    unfold q9
    split at h
    ·rename_i ds dM
     rcases h with⟨out,hP,h|⟨mP,h⟩|⟨mP,h⟩⟩|h
     ·exact RS
     ·exact RK
     ·exact RF
     ·exact QZ
    ·exact QZ
   ·rename_i id hf
    unfold xp
    simp only[hf]
    exact cV.mono (fun v o n h=>hK _ h) (fun v o n h=>hX _ _ h) h
   ·exact h.elim
  ·rename_i r m dL
   simp only[hc,dL]
   split at h
   ·rename_i g y hr
    simp only[hr]
    unfold q9
    rcases h with⟨ds,dM,out,hP,h|⟨mP,h⟩|⟨mP,h⟩⟩|h
    ·exact RS
    ·exact RK
    ·exact RF
    ·exact .inr (.inr (.inr (.inl (dV.mono (fun v o n h=>hK _ h) (fun v o n h=>hX _ _ h) h))))
   ·exact h.elim
  ·rename_i dL hinv
   rw[hc]at h|-
   obtain⟨ER,args,ts⟩:=c
   cases ER with
   |value f=>exact absurd rfl (dL f)
   |invoke r m=>exact absurd rfl (hinv r m)
   |_=>exact hs h
 ·rename_i x hx
  simp only[hx]
  split at h
  ·rename_i hv;simp only[hv];exact hX _ _ h
  ·rename_i hv;simp only[hv];exact hX _ _ h
  ·exact h.elim
 ·rename_i x str hx
  rw[hx]at h|-
  split at h
  ·rename_i id l hl
   exact .inr ⟨h.1,id,l,hl,fun e=>hK _ (h.2.1 e),fun i k x e=>hK _ (h.2.2 i k x e)⟩
  ·exact hs h
 ·rename_i hc hp sI
  have h2:=hs h
  cases hh:o.op<;>first
   |exact absurd hh (hc _)
   |exact absurd hh (hp _)
   |exact absurd hh (sI _ _)
   |(rw[hh]at h2;exact h2)
theorem gG{ops:Array Oper}{X X':V->S->Prop}{K K':S->Prop}(hK:∀s,K s->K' s)(hX:∀v s,X v s->X' v s):∀ (l:List Oper) (l':List bw) (s:S),je n ops l=some l'->mA P X K l' s->vc P n ops X' K' l s
 |[],l',s,h,hr=>by simp[je]at h;subst h;exact hK _ hr
 |o::l,l',s,h,hr=>by
  simp only[je]at h
  split at h
  ·rename_i x xs hx JD
   injection h with h;subst h
   unfold Er at hx
   split at hx
   ·rename_i hd
    have cf:eS n o.dst:=by
     unfold zh at hd;unfold eS
     split at hd<;>simp_all
    simp only[vc,u9]
    cases hg:o.guard with
    |none=>
     simp only[hg]at hx
     injection hx with hx;subst hx
     exact Bs rfl rfl cf (fun s hs=>gG hK hX l xs s JD hs) hX hr
    |some p=>
     obtain⟨j,want⟩:=p
     simp only[hg]at hx
     cases JW:px ops j with
     |none=>simp[JW]at hx
     |some d=>
      simp only[JW]at hx
      injection hx with hx;subst hx
      simp only
      simp only[mA]at hr
      split at hr
      ·rename_i t ht
       simp only[JW,ht]
       split at hr
       ·rename_i e
        exact⟨fun _=>Bs rfl rfl cf (fun s hs=>gG hK hX l xs s JD hs) hX hr,fun h=>absurd e h⟩
       ·rename_i e
        exact⟨fun h=>absurd h e,fun _=>⟨cf,gG hK hX l xs _ JD hr⟩⟩
      ·rename_i ht
       simp only[JW,ht]
       exact⟨cf,gG hK hX l xs _ JD hr⟩
      ·exact hr.elim
   ·cases hx
  ·cases h
end
end
section
mutual
def V.refs:V->List Nat
 | .ptr id _=>[id]| .osl id _=>[id]| .pe id _ _ _ _=>[id]| .tu id _ _=>[id]| .mp id=>[id]| .jc id=>[id]
 | .agg cs=>V.aO cs
 | .bC cs=>V.aO cs
 | .func _ a b=>V.aO a++V.aO b
 | .iface _ x=>x.refs
 |_=>[]
def V.aO:List V->List Nat
 |[]=>[]
 |v::vs=>v.refs++V.aO vs
end
mutual
theorem gZ:∀ (v:V),∀id∈v.ids,id∈v.refs
 | .osl id _,j,h=>by simpa[V.ids,V.refs]using h
 | .agg cs,j,h=>by simp only[V.ids]at h;simp only[V.refs];exact jt cs j h
 | .iface _ x,j,h=>by simp only[V.ids]at h;simp only[V.refs];exact gZ x j h
 | .mp _,j,h=>by simpa[V.ids,V.refs]using h
 | .d _,_,h| .a8,_,h| .bC _,_,h| .ptr _ _,_,h| .pe _ _ _ _ _,_,h| .pp _ _,_,h| .func _ _ _,_,h| .ab,_,h| .oj _,_,h| .tu _ _ _,_,h| .ek,_,h| .jc _,_,h=>by simp[V.ids]at h
theorem jt:∀ (vs:List V),∀id∈V.aV vs,id∈V.aO vs
 |[],j,h=>by simp[V.aV]at h
 |v::vs,j,h=>by
  simp only[V.aV,V.aO,List.mem_append]at h|-
  exact h.imp (gZ v j) (jt vs j)
end
mutual
theorem cD{o o':Nat->aa}:∀ (v:V),(∀id∈v.refs,o' id=o id)->du o' v=du o v
 | .osl id ep,h=>by simp only[du,h id (by simp[V.refs])]
 | .mp id,h=>by simp only[du,h id (by simp[V.refs])]
 | .agg cs,h=>by simp only[du,fm cs (by simpa[V.refs]using h)]
 | .iface t x,h=>by simp only[du,cD x (by simpa[V.refs]using h)]
 | .d _,_| .a8,_| .bC _,_| .ptr _ _,_| .pe _ _ _ _ _,_| .pp _ _,_| .func _ _ _,_| .ab,_| .oj _,_| .tu _ _ _,_| .ek,_| .jc _,_=>by simp only[du]
theorem fm{o o':Nat->aa}:∀ (vs:List V),(∀id∈V.aO vs,o' id=o id)->bD o' vs=bD o vs
 |[],_=>rfl
 |v::vs,h=>by
  simp only[bD,cD v (fun id aq=>h id (by simp[V.aO,aq])),fm vs (fun id aq=>h id (by simp[V.aO,aq]))]
end
theorem fg{o o':Nat->aa}{ids:List Nat}(h:∀id∈ids,o' id=o id):cq o' ids=cq o ids:=by
 rw[jA,jA]
 exact List.map_congr_left fun id aq=>by rw[h id aq]
def lQ(s:S)(op:Op):List Nat:=
 match op with
 | .load _ x=>(s.ev x).refs
 | .nilCheck x=>(s.ev x).refs
 | .fieldAddr _ x _=>(s.ev x).refs
 | .indexAddr _ x _=>(s.ev x).refs
 | .store _ x v=>(s.ev x).refs++(s.ev v).refs
 | .buildSlice _ _ parts=>V.aO (parts.toList.map fun p=>s.ev p.2)
 | .binOp _ _ x y _=>(s.ev x).refs++(s.ev y).refs
 | .slice _ x _ _ _=>(s.ev x).refs
 | .lookup _ m k _=>(s.ev m).refs++(s.ev k).refs
 | .mapUpdate _ m k v=>(s.ev m).refs++((s.ev k).refs++(s.ev v).refs)
 | .insert _ m k v=>(s.ev m).refs++((s.ev k).refs++(s.ev v).refs)
 | .range _ x=>(s.ev x).refs
 | .next x _=>(s.ev x).refs
 | .entry x=>(s.ev x).refs
 | .call c=>match c.callee with
   | .builtin _=>V.aO (c.args.toList.map s.ev)
   | .value f=>match s.ev f with
     | .func _ first cap=>V.aO (first++c.args.toList.map s.ev++cap)
     |_=>[]
   |_=>[]
 |_=>[]
section
variable {P:Program}{s s':S}{fr:Nat}
theorem pL{o o':Nat->aa}(v:V)(h:∀id∈v.refs,o' id=o id):nC o' v=nC o v:=by
 cases v with
 |osl id ep=>simp only[nC,h id (by simp[V.refs])]
 |d x=>cases x<;>rfl
 |_=>rfl
theorem pM{o o':Nat->aa}(v:V)(q:Nat)(h:∀id∈v.refs,o' id=o id):l7 o' v q=l7 o v q:=by
 cases v<;>simp only[l7]<;>rw[h _ (by simp[V.refs])]
theorem zQ{o o':Nat->aa}(v:V)(h:∀id∈v.refs,o' id=o id):wX o' v=wX o v:=by
 have h1:dH o' v=dH o v:=by unfold dH;rw[cD v h]
 cases v<;>first|rfl|simp only[wX,h1]
theorem vn{o o':Nat->aa}(v:V)(h:∀id∈v.refs,o' id=o id):oE o' v=oE o v:=by
 cases v with
 |mp id=>simp only[oE,h id (by simp[V.refs])]
 |d x=>cases x<;>rfl
 |_=>rfl
theorem vo{o o':Nat->aa}(v:V)(h:∀id∈v.refs,o' id=o id):oF o' v=oF o v:=by
 cases v with
 |ptr id off=>simp only[oF,h id (by simp[V.refs])]
 |d x=>cases x<;>rfl
 |_=>rfl
theorem kI{o o':Nat->aa}(v:V)(h:∀id∈v.refs,o' id=o id):lX o' v=lX o v:=by
 cases v with
 |mp id=>simp only[lX,h id (by simp[V.refs])]
 |d x=>cases x<;>rfl
 |_=>rfl
theorem xH{o o':Nat->aa}(v:V)(h:∀id∈v.refs,o' id=o id):m4 o' v=m4 o v:=by
 cases v with
 |mp id=>simp only[m4,h id (by simp[V.refs])]
 |d x=>cases x<;>rfl
 |_=>rfl
theorem xI{o o':Nat->aa}(v:V)(str:Bool)(h:∀id∈v.refs,o' id=o id):lY o' v str=lY o v str:=by
 cases v with
 |ptr id off=>cases off<;>simp only[lY,h id (by simp[V.refs])]
 |_=>rfl
theorem vq{o o':Nat->aa}(v:V)(h:∀id∈v.refs,o' id=o id):kq o' v=kq o v:=by
 cases v with
 |ptr id off=>cases off<;>simp only[kq,h id (by simp[V.refs])]
 |_=>rfl
theorem vr{o o':Nat->aa}{fr:Nat}{t:TypeId}{P:Program}(v:V)(h:∀id∈v.refs,o' id=o id):kp P o' fr t v=kp P o fr t v:=by
 unfold kp
 cases v with
 |mp id=>simp only[h id (by simp[V.refs])]
 |d x=>cases x<;>rfl
 |_=>rfl
theorem vu{o o':Nat->aa}(v:V)(h:∀id∈v.refs,o' id=o id):mg o' v=mg o v:=by
 cases v with
 |ptr id off=>simp only[mg,h id (by simp[V.refs])]
 |_=>rfl
theorem vw{o o':Nat->aa}(v:V)(h:∀id∈v.refs,o' id=o id):mh o' v=mh o v:=by
 cases v with
 |tu id off n=>simp only[mh,h id (by simp[V.refs])]
 |_=>rfl
theorem zR(op:Op)(hv:∀x∈op.operands,s'.ev x=s.ev x)(ho:∀id∈lQ s op,s'.o id=s.o id):eK P s' fr op=eK P s fr op:=by
 cases op<;>simp only[eK]
 case move x=>rw[hv x (by simp[Op.operands])]
 case assign x=>rw[hv x (by simp[Op.operands])]
 case pick c a b=>rw[hv c (by simp[Op.operands]),hv a (by simp[Op.operands]),hv b (by simp[Op.operands])]
 case box t x=>rw[hv x (by simp[Op.operands])]
 case build t parts=>
  have:(parts.toList.map fun p=>(p.1,s'.ev p.2))=parts.toList.map fun p=>(p.1,s.ev p.2):=
   List.map_congr_left fun p hp=>by rw[hv p.2 (by simp only[Op.operands];simp;exact⟨p.1,by simpa using hp⟩)]
  rw[this]
 case buildSlice t len parts=>
  have:(parts.toList.map fun p=>(p.1,s'.ev p.2))=parts.toList.map fun p=>(p.1,s.ev p.2):=
   List.map_congr_left fun p hp=>by rw[hv p.2 (by simp only[Op.operands];simp;exact⟨p.1,by simpa using hp⟩)]
  rw[this]
  have e:(parts.toList.map fun p=>(p.1,s.ev p.2)).map (·.2)=parts.toList.map fun p=>s.ev p.2:=by simp[Function.comp_def]
  have h1:bD s'.o ((parts.toList.map fun p=>(p.1,s.ev p.2)).map (·.2))=bD s.o ((parts.toList.map fun p=>(p.1,s.ev p.2)).map (·.2)):=fm _ (by rw[e];exact ho)
  have h2:cq s'.o (V.aV ((parts.toList.map fun p=>(p.1,s.ev p.2)).map (·.2)))=cq s.o (V.aV ((parts.toList.map fun p=>(p.1,s.ev p.2)).map (·.2))):=
   fg fun id aq=>ho id (by rw[e]at aq;exact jt _ id aq)
  simp only[eC,h1,h2]
 case load t x=>
  rw[hv x (by simp[Op.operands])]
  cases hx:s.ev x<;>simp only[kH]<;>rw[ho _ (by simp[lQ,hx,V.refs])]
 case store t x y=>
  rw[hv x (by simp[Op.operands]),hv y (by simp[Op.operands])]
  have h1:du s'.o (s.ev y)=du s.o (s.ev y):=cD _ fun id aq=>ho id mf
  have h2:cq s'.o (s.ev y).ids=cq s.o (s.ev y).ids:=fg fun id aq=>ho id (by simp[lQ,gZ _ _ aq])
  cases hx:s.ev x<;>simp only[oP]<;>rw[ho _ (by simp[lQ,hx,V.refs])]
  simp only[h1,h2]
 case nilCheck x=>
  rw[hv x (by simp[Op.operands])]
  cases hx:s.ev x with
  |ptr id off=>simp only[gE];rw[ho _ (by simp[lQ,hx,V.refs])]
  |func fn a b=>cases fn<;>rfl
  |_=>rfl
 case binOp op t x y yt=>
  rw[hv x (by simp[Op.operands]),hv y (by simp[Op.operands])]
  have h1:wX s'.o (s.ev x)=wX s.o (s.ev x):=zQ _ fun id aq=>ho id mf
  have h2:∀a b,DJ P s'.o a b (s.ev x) (s.ev y)=DJ P s.o a b (s.ev x) (s.ev y):=fun a b=>by
   have h3:∀id∈(s.ev x).refs,s'.o id=s.o id:=fun id aq=>ho id mf
   have h4:=vn (s.ev x) h3
   have h5:=vo (s.ev x) h3
   unfold DJ
   rw[h1,h4,h5]
  unfold dS oG
  simp only[h2]
 case slice t x lo hi mx=>
  rw[hv x (by simp[Op.operands])]
  have e1:lo.map s'.ev=lo.map s.ev:=by cases lo<;>simp[hv,Op.operands]
  have e2:hi.map s'.ev=hi.map s.ev:=by cases hi<;>simp[hv,Op.operands]
  have e3:mx.map s'.ev=mx.map s.ev:=by cases mx<;>simp[hv,Op.operands]
  rw[e1,e2,e3]
  have h3:∀id∈(s.ev x).refs,s'.o id=s.o id:=fun id aq=>ho id mf
  have h1:dH s'.o (s.ev x)=dH s.o (s.ev x):=by unfold dH;rw[cD _ h3]
  have h2:cq s'.o (s.ev x).ids=cq s.o (s.ev x).ids:=fg fun id aq=>h3 id (gZ _ _ aq)
  have h4:zk P s'.o t (s.ev x) (lo.map s.ev) (hi.map s.ev) (mx.map s.ev)=zk P s.o t (s.ev x) (lo.map s.ev) (hi.map s.ev) (mx.map s.ev):=by
   cases hx:s.ev x with
   |osl id ep=>simp only[zk,h3 id (by simp[hx,V.refs])]
   |_=>rfl
  unfold oD mY
  simp only[h1,h2,h4,vu _ h3]
 case field t x f=>rw[hv x (by simp[Op.operands])]
 case typeAssert x xt t ok=>rw[hv x (by simp[Op.operands])]
 case makeMap t r=>cases r<;>rfl
 case lookup t m k ok=>
  rw[hv m (by simp[Op.operands]),hv k (by simp[Op.operands])]
  have h3:∀id∈(s.ev m).refs,s'.o id=s.o id:=fun id aq=>ho id mf
  have h1:du s'.o (s.ev k)=du s.o (s.ev k):=cD _ fun id aq=>ho id mf
  unfold gy
  simp only[h1,xH _ h3]
 case mapUpdate t m k v=>
  rw[hv m (by simp[Op.operands]),hv k (by simp[Op.operands]),hv v (by simp[Op.operands])]
  have h3:∀id∈(s.ev m).refs,s'.o id=s.o id:=fun id aq=>ho id mf
  have h1:du s'.o (s.ev k)=du s.o (s.ev k):=cD _ fun id aq=>ho id mf
  have h2:du s'.o (s.ev v)=du s.o (s.ev v):=cD _ fun id aq=>ho id mf
  have h4:cq s'.o (s.ev v).ids=cq s.o (s.ev v).ids:=fg fun id aq=>ho id (by simp[lQ,gZ _ _ aq])
  unfold eg
  simp only[h1,h2,h4,kI _ h3]
 case insert t m k v=>
  rw[hv m (by simp[Op.operands]),hv k (by simp[Op.operands]),hv v (by simp[Op.operands])]
  have h3:∀id∈(s.ev m).refs,s'.o id=s.o id:=fun id aq=>ho id mf
  have h1:du s'.o (s.ev k)=du s.o (s.ev k):=cD _ fun id aq=>ho id mf
  have h2:du s'.o (s.ev v)=du s.o (s.ev v):=cD _ fun id aq=>ho id mf
  have h4:cq s'.o (s.ev v).ids=cq s.o (s.ev v).ids:=fg fun id aq=>ho id (by simp[lQ,gZ _ _ aq])
  unfold eg
  simp only[h1,h2,h4,kI _ h3]
 case index t x i=>rw[hv x (by simp[Op.operands]),hv i (by simp[Op.operands])]
 case range t x=>
  rw[hv x (by simp[Op.operands])]
  exact vr _ fun id aq=>ho id mf
 case next x str=>
  rw[hv x (by simp[Op.operands])]
  exact xI _ _ fun id aq=>ho id mf
 case entry x=>
  rw[hv x (by simp[Op.operands])]
  exact vq _ fun id aq=>ho id mf
 case unOp op t x=>rw[hv x (by simp[Op.operands])]
 case convert u t x=>rw[hv x (by simp[Op.operands])]
 case makeInterface t x=>rw[hv x (by simp[Op.operands])]
 case makeFunc fn first cap=>
  have h1:first.toList.map s'.ev=first.toList.map s.ev:=List.map_congr_left fun x hx=>hv x (by simp only[Op.operands];exact Array.mem_append.2 (.inl (Array.mem_toList_iff.1 hx)))
  have h2:cap.toList.map s'.ev=cap.toList.map s.ev:=List.map_congr_left fun x hx=>hv x (by simp only[Op.operands];exact Array.mem_append.2 (.inr (Array.mem_toList_iff.1 hx)))
  rw[h1,h2]
 case makeSlice t l c=>rw[hv l (by simp[Op.operands]),hv c (by simp[Op.operands])]
 case fieldAddr t x f=>
  rw[hv x (by simp[Op.operands])]
  simp only[fk]
  cases bR P t f<;>simp only
  rw[pM _ _ (by simpa[lQ]using ho)]
 case indexAddr t x i=>
  rw[hv x (by simp[Op.operands]),hv i (by simp[Op.operands])]
  have h1:∀q,l7 s'.o (s.ev x) q=l7 s.o (s.ev x) q:=fun q=>pM _ _ (by simpa[lQ]using ho)
  simp only[fj,h1]
  cases hx:s.ev x with
  |osl id ep=>simp only[ho id (by simp[lQ,hx,V.refs])]
  |d y=>cases y<;>rfl
  |_=>rfl
 case extract x i=>rw[hv x (by simp[Op.operands])]
 case call c=>
  obtain⟨ER,args,ts⟩:=c
  cases ER<;>simp only
  rename_i b
  unfold nF
  have hm:∀x∈args.toList,s'.ev x=s.ev x:=fun x hx=>hv x QQ
  have hr:∀x∈args.toList,∀id∈(s.ev x).refs,s'.o id=s.o id:=by
   intro x hx id aq
   refine ho id ?_
   simp only[lQ]
   generalize args.toList=l at hx
   induction l with
   |nil=>cases hx
   |cons y l ih=>
    simp only[List.map_cons,V.aO,List.mem_append]
    rcases List.mem_cons.1 hx with rfl|hx
    ·exact .inl aq
    ·exact .inr (ih hx)
  split
  ·rename_i x ha
   rw[ha]at hm hr
   rw[hm x (by simp)]
   have h1:∀t,zM P t s'.o (s.ev x)=zM P t s.o (s.ev x):=fun t=>by simp only[zM,pL _ (hr x (by simp))]
   simp only[h1]
  ·rename_i x y ha
   rw[ha]at hm hr
   rw[hm x (by simp),hm y (by simp)]
   simp only[nD,pL _ (hr y (by simp))]
   cases tx P fr ts (s.ev x) (s.ev y)with
   |some r=>rfl
   |none=>
   dsimp only
   cases hx:s.ev x with
   |osl id ep=>simp only[hr x (by simp) id (by simp[hx,V.refs])]
   |_=>rfl
  ·rename_i x y ha
   rw[ha]at hm
   rw[hm x (by simp),hm y (by simp)]
  ·rename_i x y ha
   rw[ha]at hm
   rw[hm x (by simp),hm y (by simp)]
  ·rename_i x y z h;rw[hm x (by rw[h];simp),hm y (by rw[h];simp),hm z (by rw[h];simp)]
  ·rename_i x y ha
   rw[ha]at hm hr
   rw[hm x (by simp),hm y (by simp)]
   have h1:dH s'.o (s.ev y)=dH s.o (s.ev y):=by unfold dH;rw[cD _ (hr y (by simp))]
   have h2:cq s'.o (s.ev y).ids=cq s.o (s.ev y).ids:=fg fun id aq=>hr y aK id (gZ _ _ aq)
   unfold tw
   simp only[h1,h2,vw _ (hr x (by simp))]
  ·rename_i x y ha
   rw[ha]at hm hr
   rw[hm x (by simp),hm y (by simp)]
   have h1:du s'.o (s.ev y)=du s.o (s.ev y):=cD _ (hr y aK)
   have h2:=kI _ (hr x aK)
   simp only[ly,h1,h2]
  ·rename_i x ha
   rw[ha]at hm
   rw[hm x (by simp)]
  ·rfl
end
end
end Go.Proofs.YtlhemmpklhhgoaaGreat
