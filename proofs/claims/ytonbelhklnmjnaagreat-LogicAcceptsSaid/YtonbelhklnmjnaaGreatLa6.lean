/-
  A PART OF THE PROOF. Conditions: none.
-/
import Derived.Test.YtonbelhklnmjnaaGreatLa5
set_option linter.unusedSimpArgs false
set_option linter.unusedVariables false
namespace Go.Proofs.YtonbelhklnmjnaaGreat
section
variable {P:Program}{M:Nat->Prop}{φ:Place}{H:Hp}{w w':World}{cZ:Place}{H0:Hp}{w0:World}{n b:Nat}{s:S}{a:Act}{cx:Cx}{ro:Option Nat}{k:Nat}
theorem jc(hb:∀id,H0.us id->id<b)(uB:cx.rd=false->ro=none):∀ (c:Code) (Q:fG->S->Prop) (s:S) (φ:Place) (a:Act) (w:World),jR P n b cx.rd c Q s->cG M cZ H0 w0 n cx φ s a w->c.ub P ro (F7 M cZ H0 w0 n cx Q) a w:=by
 intro c
 induction c with
 |skip=>exact fun Q s φ a w h hs=>pN (k:=0) (wpIn_skip ⟨.normal,s,φ,h,hs,trivial⟩)
 |scope x ih=>exact fun Q s φ a w h hs=>ym (ih Q s φ a w h hs) (fun l a w ⟨xx,s',aS,hq,iS,hm⟩=>by cases xx<;>exact hm)
 |label l=>exact fun Q s φ a w h hs=>pN (k:=0) (wpIn_label ⟨.normal,s,φ,h,hs,trivial⟩)
 |exit id=>exact fun Q s φ a w h hs=>Cn ⟨.exit id,s,φ,h,hs,rfl⟩
 |ret=>exact fun Q s φ a w h hs=>F8 ⟨.ret,s,φ,h,hs,trivial⟩
 |goto l=>exact fun Q s φ a w h hs=>h.elim
 |refuse y=>exact fun Q s φ a w h hs=>h.elim
 |rangeFunc g ps x y=>
  intro Q s φ a w h hs
  obtain⟨h1,s',hle,h2⟩:=h
  rcases hle with rfl|hle
  ·exact yr hs h1 (uB h1) h2
  ·obtain⟨aS,iS⟩:=EJ hb hs hle
   exact yr iS h1 (uB h1) h2
 |region id ops draw=>
  intro Q s φ a w h hs
  cases draw with
  |true=>exact pN (h M cZ H0 w0 cx φ a w ro 0 hs)
  |false=>
   refine pN (k:=0) (wpIn_region_list (pM (K:=Q .normal) (X:=fun v s=>Q (.cc v) s) (fun s φ a w hk hs=>⟨.normal,s,φ,hk,hs,trivial⟩) (fun v s φ a w val hx hs hd=>⟨.cc v,s,φ,hx,hs,val,rfl,hd⟩) _ s φ a w h hs))
 |seq x y OL OM=>
  intro Q s φ a w h hs
  refine Ak (iC (OL _ s φ a w h hs) ?_)
  rintro e a' w' ⟨xx,s',aS,hq,iS,hm⟩
  cases e<;>cases xx<;>first|(exact hm.elim)|skip
  ·exact OM Q s' aS a' w' hq iS
  ·subst hm;exact⟨_,s',aS,hq,iS,rfl⟩
  ·exact⟨.ret,s',aS,hq,iS,trivial⟩
  ·exact⟨.cc _,s',aS,hq,iS,hm⟩
 |cond c x y OL OM=>
  intro Q s φ a w h hs
  simp only[jR]at h
  have hc:=nv (M:=M) (φ:=φ) (H:=s.H) (w:=w) s a hs.env c
  split at h
  ·rename_i t hv
   rw[hv]at hc
   simp only[V.den,D.den]at hc
   cases t with
   |true=>exact qQ hc (OL Q s φ a w (h.1 rfl) hs)
   |false=>exact qQ hc (OM Q s φ a w (h.2 rfl) hs)
  ·rename_i hv
   rw[hv]at hc
   obtain⟨t,hc⟩:=hc
   cases t with
   |true=>exact qQ hc (OL Q s φ a w h.1 hs)
   |false=>exact qQ hc (OM Q s φ a w h.2 hs)
  ·exact h.elim
 |block id x ih=>
  intro Q s φ a w h hs
  refine H7 (iC (ih _ s φ a w h hs) ?_)
  rintro e a' w' ⟨xx,s',aS,hq,iS,hm⟩
  cases e<;>cases xx<;>first|(exact hm.elim)|skip
  ·exact⟨.normal,s',aS,hq,iS,trivial⟩
  ·subst hm
   simp only[Exit.inBlock]
   simp only[fY]at hq
   split
   ·rename_i he;rw[if_pos he]at hq;exact⟨.normal,s',aS,hq,iS,trivial⟩
   ·rename_i he;rw[if_neg he]at hq;exact⟨.exit _,s',aS,hq,iS,rfl⟩
  ·exact⟨.ret,s',aS,hq,iS,trivial⟩
  ·exact⟨.cc _,s',aS,hq,iS,hm⟩
 |loop x ih=>
  intro Q s φ a w h hs
  obtain⟨J,⟨m0,s1,hle,hI⟩,mA⟩:=h
  obtain⟨jG,yu⟩:=EJ hb hs hle
  refine Al (fun m a w=>∃s φ,J m s/\cG M cZ H0 w0 n cx φ s a w) ?_ m0 a w ⟨s1,jG,hI,yu⟩
  rintro m a w ⟨s,φ,hI,hs⟩
  refine iC (ih _ s φ a w (mA m s hI) hs) ?_
  rintro e a' w' ⟨xx,s',aS,hq,iS,hm⟩
  cases e<;>cases xx<;>first|(exact hm.elim)|skip
  ·obtain⟨m2,s2,db,ON,KQ⟩:=hq
   obtain⟨H8,NJ⟩:=EJ hb iS ON
   exact⟨m2,db,s2,H8,KQ,NJ⟩
  ·subst hm;exact⟨_,s',aS,hq,iS,rfl⟩
  ·exact⟨.ret,s',aS,hq,iS,trivial⟩
  ·exact⟨.cc _,s',aS,hq,iS,hm⟩
def KT(tmps:Array Value)(r:ResultVar):Sem Value:=
 match r with
 | .tmp t=>pure (tmps.getD t undef)
 | .cell p t=>do loadVar t (<- asAddr (tmps.getD p undef))
theorem uC(qR:aF M φ s.H w)(eP:∀i,V.den (az M φ s.H) φ s.H w (s.env i) (a.tmps.getD i undef)):∀ (rs:List ResultVar) (vs:List V),mu P s rs=some vs->
 ∃vals,(rs.mapM (KT a.tmps)).run P w= .ok vals w/\V.aP (az M φ s.H) φ s.H w vs vals
 |[],vs,h=>by simp[mu]at h;subst h;exact⟨[],au,rfl⟩
 | .tmp t::rs,vs,h=>by
   simp only[mu,Option.map_eq_some_iff]at h
   obtain⟨us,h1,rfl⟩:=h
   obtain⟨vals,h2,h3⟩:=uC qR eP rs us h1
   exact⟨a.tmps.getD t undef::vals,by simp only[List.mapM_cons,KT,Sem.run_bind,Sem.run_pure,Result.andThen_ok,h2],_,_,rfl,eP t,h3⟩
 | .cell p t::rs,vs,h=>by
   simp only[mu]at h
   split at h
   ·rename_i id off hv
    split at h
    ·rename_i cs ho
     simp only[Option.bind_eq_some_iff,Option.map_eq_some_iff]at h
     obtain⟨v,h0,us,h1,rfl⟩:=h
     obtain⟨vals,h2,h3⟩:=uC qR eP rs us h1
     have hx:=eP p
     rw[hv]at hx
     obtain⟨_,hu,hp⟩:=hx
     obtain⟨k,fj,fV⟩:=hp (by show(s.o id).cK=true;rw[ho];rfl)
     have bA:=qR.ok id
     have yw:s.H.o id= .row cs:=ho
     simp only[bn,yw]at bA
     obtain⟨b',dX,ty,g1,g2,g3,g4⟩:=bA
     rw[fj]at g1;simp at g1;subst g1
     obtain⟨val,h4,h5⟩:=qC (P:=P) h0 ⟨k,0,none⟩ dX.toList g3 g4 (fun j u hj=>qD g2 j u ly) rfl
     rw[add_plain,Nat.zero_add]at h4
     have h6:(loadVar t ⟨k,off,none⟩).run P w= .ok val w:=by simpa[Instr.loadAt,Instr.sureAddr]using h4
     exact⟨val::vals,by simp only[List.mapM_cons,KT,fV,asAddr,Sem.run_bind,Sem.run_pure,Result.andThen_ok,h6,h2],val,vals,rfl,h5,h3⟩
    ·cases h
   ·cases h
theorem nG{fn:Func}{tmps:Array Value}{vals:List Value}
 (h:(fn.results.toList.mapM (KT tmps)).run P w= .ok vals w):
 (results fn tmps).run P w= .ok (if h:vals.toArray.size=1 then vals.toArray[0]else .tuple vals.toArray) w:=by
 have e:results fn tmps=(do let vs <- fn.results.mapM (KT tmps);pure (if h:vs.size=1 then vs[0]else .tuple vs)):=by
  unfold results
  congr 2
 rw[e,Array.mapM_eq_mapM_toList]
 simp only[Sem.run_bind,Sem.run_map,h,Result.andThen_ok,Sem.run_pure]
theorem lV{us:Nat->Prop}(φ:Place)(hM:∀k,M k->k<w.heap.size):aF M φ ⟨fun _=> .no,us⟩ w where
 ok id:=by simp[bn]
 fresh _ _:=rfl
 apart i j k hi:=by simp[ae.live]at hi
 ours k:=by rintro⟨id,h,_⟩;simp[ae.live]at h
 Bu:=hM
theorem H9{vals:Array Value}{m i:Nat}:(vals++Array.replicate m undef).getD i undef=(vals[i]?).getD undef:=by
 simp only[Array.getD_eq_getD_getElem?,Array.getElem?_append]
 split
 ·rfl
 ·rw[Array.getElem?_eq_none (xs:=vals) (by omega)]
  simp only[Array.getElem?_replicate]
  split<;>rfl
structure Am (M:Nat->Prop) (cZ:Place) (H0:Hp) (w0:World) (φ:Place) (s:S) (tmps:Array Value) (w:World):Prop where
 heap:aF M φ s.H w
 tr:Trans cZ H0 w0 φ s.H w
 env:∀i,V.den (az M φ s.H) φ s.H w (s.env i) (tmps.getD i undef)
theorem Ia{tmps:Array Value}(hs:Am M cZ H0 w0 φ s tmps w){r:Nat}(h1:w0.heap.size<=r)(h2:w.heap[r]? =some (.deferred (some [])))(h3: ¬du φ s.H r):
 Am M cZ H0 w0 φ s tmps {w with heap:=w.heap.setIfInBounds r (.deferred none)}:=by
 have iQ:∀b,b≠r->(w.heap.setIfInBounds r (.deferred none))[b]? =w.heap[b]? :=fun b hb=>(MapKept.heap_set h2).2 b hb
 have x5:∀b,dG w b-> ¬az M φ s.H b->(w.heap.setIfInBounds r (.deferred none))[b]? =w.heap[b]? /\ ¬az M φ s.H b:=by
  intro b hc hn
  refine⟨iQ b fun e=> ?_,hn⟩
  subst e
  rcases hc with⟨cs,ty,fz,hc⟩|⟨es,clock,hc⟩
  ·rw[h2]at hc;cases hc
  ·rw[h2]at hc;cases hc
 refine⟨⟨fun id=> ?_,hs.heap.fresh,hs.heap.apart,fun b hb=>⟨(hs.heap.ours b hb).1,by simpa using(hs.heap.ours b hb).2⟩,fun b hb=>by simpa using hs.heap.Bu b hb⟩,⟨⟨hs.tr.cJ.os,hs.tr.cJ.tape,hs.tr.cJ.output,by simpa using hs.tr.cJ.size,fun j hj hm=> ?_⟩,hs.tr.grow,hs.tr.rel⟩,fun i=>V.lM x5 (eC.refl _ _) _ _ (hs.env i)⟩
 ·exact bn.BT x5 (eC.refl _ _) rfl rfl (fun hl b hb=>iQ b fun e=>h3 ⟨id,hl,e ▸ hb⟩) (hs.heap.ok id)
 ·rw[iQ j (by omega)];exact hs.tr.cJ.block j hj hm
theorem iD{fn:Func}{R:Ending->World->Prop}{u:FrameMode}(hu:u≠ .run){tmps tb:Array Value}{ds:List Deferred}(hR:∀w,Am M cZ H0 w0 φ s tb w->LeavesInM (ew none) k P fn tmps R ds u w):
 ∀ (ms:List Nat) (w:World),ms.Nodup->(∀r∈ms,w0.heap.size<=r/\w.heap[r]? =some (.deferred (some []))/\ ¬du φ s.H r)->Am M cZ H0 w0 φ s tb w->LeavesInM (ew none) k P fn tmps R (ms.map mark++ds) u w
 |[],w,_,_,hs=>hR w hs
 |r::ms,w,hn,hm,hs=>by
  obtain⟨h1,h2,h3⟩:=hm r au
  obtain⟨Eh,ND⟩:=List.nodup_cons.1 hn
  refine⟨hu, .inl ⟨r,{w with heap:=w.heap.setIfInBounds r (.deferred none)},rfl, ?_,iD hu hR ms _ ND (fun r' Ae=> ?_) (Ia hs h1 h2 h3)⟩⟩
  ·simp[Instr.takeDeferred,getObj,setObj,Sem.run,h2,Result.andThen]
  ·obtain⟨g1,g2,g3⟩:=hm r' (by simp[Ae])
   exact⟨g1,((MapKept.heap_set h2).2 r' (fun e=>Eh (e ▸ Ae))).trans g2,g3⟩
theorem cG.toB (hs:cG M cZ H0 w0 n cx φ s a w):Am M cZ H0 w0 φ s a.tmps w:=⟨hs.heap,hs.tr,hs.env⟩
def mB(P:Program)(rs:List ResultVar)(K X:V->(Nat->ae)->Nat->Prop)(e:fG)(s:S):Prop:=
 match e with
 | .normal| .ret=>match mu P s rs with
   |some [v]=>K v s.o s.nx
   |some vs=>K (.cA vs) s.o s.nx
   |none=>False
 | .cc v=>X v s.o s.nx
 | .exit _=>False
theorem Cq{P:Program}{rs:List ResultVar}{K X:V->(Nat->ae)->Nat->Prop}{s:S}(h:mB P rs K X .ret s):∃vs,mu P s rs=some vs/\K (match vs with|[v]=>v|vs=> .cA vs) s.o s.nx:=by
 unfold mB at h
 simp only at h
 split at h
 ·rename_i v h1;exact⟨[v],h1,h⟩
 ·rename_i vs h1 h2
  refine⟨vs,h2, ?_⟩
  split
  ·exact absurd rfl (h1 _)
  ·exact h
 ·exact h.elim
theorem Cr:∀ {vs:List V} {vals:List Value},V.aP (az M φ H) φ H w vs vals->V.den (az M φ H) φ H w (match vs with|[v]=>v|vs=> .cA vs) (if h:vals.toArray.size=1 then vals.toArray[0]else .tuple vals.toArray)
 |[],vals,h=>by simp only[V.aP]at h;subst h;exact⟨#[],rfl,rfl⟩
 |[v],vals,h=>by obtain⟨u,us,rfl,h1,h2⟩:=h;simp only[V.aP]at h2;subst h2;exact h1
 |v::y::l,vals,h=>by
  have h':=h
  obtain⟨u,us,rfl,h1,u2,us2,rfl,h2⟩:=h
  exact⟨(u::u2::us2).toArray,au,by simpa using h'⟩
theorem vu{vals:Array Value}{m:Nat}{vs:List V}(hd:V.aP (az M φ H) φ H w vs vals.toList)(i:Nat):V.den (az M φ H) φ H w (cN vs i) ((vals++Array.replicate m undef).getD i undef):=by
 have hlen:=V.aM _ _ hd
 simp only[cN,H9]
 cases hx:vs[i]? with
 |none=>
  have:vals[i]? =none:=by
   rw[List.getElem?_eq_none_iff]at hx
   apply Array.getElem?_eq_none
   simp at hlen;omega
  simp only[List.getD_eq_getElem?_getD,hx,this]
  exact⟨#[],rfl,rfl⟩
 |some v=>
  obtain⟨u,hu,Ot⟩:=V.dY _ _ _ _ hd hx
  have xE:vals[i]? =some u:=by simpa using hu
  simp only[List.getD_eq_getElem?_getD,hx,xE,Option.getD_some]
  exact Ot
theorem nH{f:FuncId}{fn:Func}{c:Code}{args:Array Value}{w:World}{R:Ending->World->Prop}(hf:P.funcs[f]? =some fn)(hb:fn.body=some c)
 (h:c.ub P none (bodyPostM (ew none) k P fn R) {tmps:=args++Array.replicate (fn.ntmps - args.size) undef,defers:=[]} w):CallsIn (ew none) k P f args w R:=by
 have db:f<P.funcs.size:=(Array.getElem?_eq_some_iff.1 hf).1
 refine⟨trivial,fun cs hr=> ?_⟩
 let b:Frame:={(default:Frame)with fn:=f,kind:= .normal,roundOf:=none}
 have mz:Frame.enter P f args .normal=b.atR {tmps:=args++Array.replicate (fn.ntmps - args.size) undef,defers:=[]} [.code c]:=by
  simp[Frame.enter,Frame.atR,hf,hb,b]
 obtain⟨e,a',w',hq,cV⟩:=h b [] cs rfl db
 rw[<- mz]at cV
 cases e with
 |normal=>
  obtain⟨e',QN,Zy,hR,hs,H6,hl⟩:=leaves_stepsInM a'.defers .returning w' {b.atR a' []with mode:= .returning} cs rfl rfl rfl hf rfl (trivial:(ew none).fn f) hr hq
  exact⟨e',QN,Zy,hR,ComesIn.of_steps (StepsIn.trans cV (.one (fenced_calm (n:=0) (fr:=b.atR a' []) trivial iB rfl) (stepR_end rfl))) hs,H6,hl⟩
 |ret=>
  obtain⟨todo,KU⟩:=cV.1 rfl
  obtain⟨e',QN,Zy,hR,hs,H6,hl⟩:=leaves_stepsInM a'.defers .returning w' {b.atR a' todo with mode:= .returning} cs rfl rfl rfl hf rfl (trivial:(ew none).fn f) hr hq
  exact⟨e',QN,Zy,hR,ComesIn.of_steps KU hs,H6,hl⟩
 |panic chain=>
  obtain⟨todo,KU⟩:=cV
  obtain⟨e',QN,Zy,hR,hs,H6,hl⟩:=leaves_stepsInM a'.defers (.panicking chain) w' {b.atR a' todo with mode:= .panicking chain} cs rfl rfl rfl hf rfl (trivial:(ew none).fn f) hr hq
  exact⟨e',QN,Zy,hR,ComesIn.of_steps KU hs,H6,hl⟩
 |exit id=>exact hq.elim
 |goto l=>exact hq.elim
 |outgrown=>exact⟨.outgrown,w',b,hq,cV.resolve_left (by simp[b]),rfl,trivial⟩
def EL(P:Program)(l:Nat)(R:Ending->World->Prop):Exit->Act->World->Prop
 | .normal,_,w=>∃v w',(Instr.endRound l none).run P w= .ok v w'/\R (.returned v) w'
 | .ret,_,w=>∃v w',(Instr.endRound l (some .ret)).run P w= .ok v w'/\R (.returned v) w'
 | .exit id,_,w=>∃v w',(Instr.endRound l (some (.exit id))).run P w= .ok v w'/\R (.returned v) w'
 | .goto _,_,_=>False
 | .panic chain,a,w=>a.defers=[]/\R (.panicked chain) w
 | .outgrown,_,_=>False
theorem vw{l:Nat}{f:FuncId}{tmps:Array Value}{assign body:Code}{w:World}{R:Ending->World->Prop}(hf:f<P.funcs.size)
 (h:assign.ub P (some l) (Exit.then (fun jV gP=>∃sy,(Instr.beginRound l).run P gP= .ok () sy/\body.ub P (some l) (EL P l R) jV sy) (fun e a w=>match e with| .panic chain=>a.defers=[]/\R (.panicked chain) w|_=>False))
  {tmps:=tmps,defers:=[]} w):
 RoundIn Fence.wide n P l f tmps assign body w R:=by
 refine⟨trivial,fun c cs hr=> ?_⟩
 let b:Frame:={(default:Frame)with fn:=f,kind:= .normal,roundOf:=some l}
 have NK:Frame.round l f tmps assign body .normal=b.atR {tmps:=tmps,defers:=[]} [.code assign, .beginRound, .code body]:=by
  simp[Frame.round,Frame.atR,b]
 have calm:∀ (m:Machine),m.fenced P Fence.wide:=fun m=>fenced_wide P m
 have cc:∀ {a:Act} {w:World} {todo:List Item} {chain:List PanicEntry},a.defers=[]->step P (lone {b.atR a todo with mode:= .panicking chain} (c::cs) w)= .next (lone (c.raise chain) cs w):=by
  intro a w todo chain hd
  exact step_leave_panicked (fr:={b.atR a todo with mode:= .panicking chain}) ⟨rfl,hd,P.funcs[f],by show P.funcs[f]? =_;simp[hf]⟩
 obtain⟨e,jV,gP,hq,cV⟩:=h b [.beginRound, .code body] (c::cs) rfl hf
 rw[<- NK]at cV
 cases e with
 |normal=>
  obtain⟨sy,hbr,qS⟩:=hq
  have s1:StepsIn (Machine.fenced P Fence.wide) P (lone (b.atR jV [.beginRound, .code body]) (c::cs) gP) (lone (b.atR jV [.code body]) (c::cs) sy):= .one (calm _) (stepR_beginRound rfl hbr)
  obtain⟨Uv,Zw,EH,qP,lb⟩:=qS b [] (c::cs) rfl hf
  have cV:StepsIn (Machine.fenced P Fence.wide) P _ _:=cV
  cases Uv with
  |normal=>
   obtain⟨v,uc,cO,hR⟩:=qP
   have lb:StepsIn (Machine.fenced P Fence.wide) P _ _:=lb
   exact⟨.returned v,uc,hR,(StepsIn.trans cV s1).trans (StepsIn.trans lb (.one (calm _) (stepR_round_end rfl rfl cO)))⟩
  |ret=>
   obtain⟨v,uc,cO,hR⟩:=qP
   obtain⟨k₁,hs⟩:=lb.2 rfl
   have hs:StepsIn (Machine.fenced P Fence.wide) P _ _:=hs
   exact⟨.returned v,uc,hR,(StepsIn.trans cV s1).trans (StepsIn.trans hs (.one (calm _) (stepR_round_ret rfl rfl cO)))⟩
  |exit id=>
   obtain⟨v,uc,cO,hR⟩:=qP
   obtain⟨k₁,hk,hs⟩:=lb.2 rfl rfl
   have hs:StepsIn (Machine.fenced P Fence.wide) P _ _:=hs
   exact⟨.returned v,uc,hR,(StepsIn.trans cV s1).trans (StepsIn.trans hs (.one (calm _) (stepR_round_exit rfl rfl hk cO)))⟩
  |goto t=>exact qP.elim
  |panic chain=>
   obtain⟨todo,hs⟩:=lb
   have hs:StepsIn (Machine.fenced P Fence.wide) P _ _:=hs
   exact⟨.panicked chain,EH,qP.2,(StepsIn.trans cV s1).trans (StepsIn.trans hs (.one (calm _) (cc qP.1)))⟩
  |outgrown=>exact qP.elim
 |exit id=>exact hq.elim
 |goto t=>exact hq.elim
 |ret=>exact hq.elim
 |panic chain=>
  obtain⟨todo,hs⟩:=cV
  have hs:StepsIn (Machine.fenced P Fence.wide) P _ _:=hs
  exact⟨.panicked chain,gP,hq.2,StepsIn.trans hs (.one (calm _) (cc hq.1))⟩
 |outgrown=>exact hq.elim
theorem cU.Gb {f:FuncId}{fn:Func}{c:Code}{args:List V}{o:Nat->ae}{nx:Nat}{K X:V->(Nat->ae)->Nat->Prop}(hf:P.funcs[f]? =some fn)(hn:(fn.name== "runtime.NumGoroutine")=false)(qS:fn.body=some c)(hl:args.length<=fn.ntmps)
 (h:jR P fn.ntmps nx false c (mB P fn.results.toList K X) ⟨cN args,o,nx⟩):cU P f args o nx K X:=by
 refine⟨⟨fn,hf,hn,by rw[qS];rfl⟩,fun M φ w vals hH hd=> ?_⟩
 have hlen:=V.aM _ _ hd
 let s0:S:=⟨cN args,o,nx⟩
 let a0:Act:={tmps:=vals++Array.replicate (fn.ntmps - vals.size) undef,defers:=[]}
 have gG:cG M φ (hp o nx) w fn.ntmps ⟨[],false⟩ φ s0 a0 w:=by
  refine⟨hH,Trans.refl _ _ _, ?_,⟨[],rfl,List.nodup_nil,fun _=>rfl,fun r hr=>by cases hr⟩,vu hd⟩
  simp only[a0,Array.size_append,Array.size_replicate];simp at hlen;omega
 refine Cj (ro:=none) (k:=0) (nH hf qS (iC (jc (P:=P) (H0:=hp o nx) (b:=nx) (cx:=⟨[],false⟩) (ro:=none) (fun id hu=>hu) (fun _=>rfl) c _ s0 φ a0 w h gG) ?_))
 rintro e a w' ⟨x,s,aS,hq,hs,hm⟩
 obtain⟨ms,g1,g2,g3,g4⟩:=hs.defers
 rw[List.append_nil]at g1
 have done:(x= .normal\/x= .ret)->LeavesInM (ew none) 0 P fn a.tmps (nB M φ (hp o nx) w K X) a.defers .returning w':=by
  intro hx
  have hq':mB P fn.results.toList K X .ret s:=by rcases hx with rfl|rfl<;>exact hq
  obtain⟨vs,h1,h2⟩:=Cq hq'
  rw[g1]
  have:=iD (P:=P) (k:=0) (fn:=fn) (R:=nB M φ (hp o nx) w K X) (u:= .returning) au (ds:=[]) (fun w2 hb=>by
   obtain⟨vals,h3,h4⟩:=uC (P:=P) (a:=a) hb.heap hb.env _ _ h1
   exact⟨_,nG h3,aS,s.o,s.nx,_,hb.heap,hb.tr,Cr h4,h2⟩) ms w' g2 g4 hs.toB
  rwa [List.append_nil]at this
 cases e<;>cases x<;>first|(exact hm.elim)|skip
 ·exact done (.inl rfl)
 ·exact hq.elim
 ·exact done (.inr rfl)
 ·rename_i v
  obtain⟨val,rfl,hd'⟩:=hm
  show LeavesInM (ew none) 0 P fn a.tmps (nB M φ (hp o nx) w K X) a.defers _ w'
  rw[g1]
  have NK:Am M φ (hp o nx) w aS ⟨fun i=>if i=0 then v else .aa,s.o,s.nx⟩ #[val] w':=⟨hs.heap,hs.tr,fun i=>by
   by_cases hi:i=0
   ·subst hi;exact hd'
   ·simp only[hi,if_false];trivial⟩
  have:=iD (P:=P) (k:=0) (fn:=fn) (s:=⟨fun i=>if i=0 then v else .aa,s.o,s.nx⟩) (tmps:=a.tmps) (tb:=#[val]) (cZ:=φ) (H0:=hp o nx) (w0:=w) (R:=nB M φ (hp o nx) w K X) (u:= .panicking [{v:=val,recovered:=false}]) au (ds:=[]) (fun w2 hb=>by
   have h0:=hb.env 0
   exact⟨aS,s.o,s.nx,v,hb.heap,hb.tr,val,rfl,h0,hq⟩) ms w' g2 g4 NK
  rwa [List.append_nil]at this
theorem aR.mC {f:FuncId}{ds:List D}{out:R}(h:cU P f (ds.map .d) (fun _=> .no) 0 (fun v o _=>∃vs rs,v=(match vs with|[v]=>v|vs=> .cA vs)/\cE o vs=some rs/\out= .ret rs) (fun v o _=>∃x,eu o v=some x/\out= .cc x)):aR P f ds out:=by
 refine⟨h.1,fun M w vals hM hd=> ?_⟩
 let cZ:Place:=fun _=> .nilFunc
 have xI:∀b, ¬du cZ (hp (fun _=> .no) 0) b:=by rintro b ⟨id,hl,_⟩;simp[hp,ae.live]at hl
 refine(h.2 M cZ w vals (lV cZ hM) ((V.cM _ _).2 (D.bg (w:=w) (w':=w) (B:=M) (fun b _ hB=>⟨rfl,fun h=>h.elim hB (xI b)⟩) _ _ hd))).mono ?_
 rintro e w' ⟨aS,o',nx',v,k1,k2,k3⟩
 have yx:eO (fun _=>False) w w':=⟨k2.cJ.os,k2.cJ.tape,k2.cJ.output,k2.cJ.size,fun k hk _=>k2.cJ.block k hk (xI k)⟩
 have fin:∀ (vs:List V) (xs:List D) (vals:List Value),cE o' vs=some xs->V.aP (az M aS (hp o' nx')) aS (hp o' nx') w' vs vals->D.aP M w' xs vals:=by
  intro vs xs vals h1 h2
  obtain⟨f1,f2,f3,f4,f5⟩:=dH k1 (V.bO vs) (dw vs _ h2)
  have h3:=dN f1 vs xs vals f3 h1 (V.bg f2 _ _ h2)
  exact D.bg (w:=w') (w':=w') (fun k _ hB=>⟨rfl,fun hM=>hB (.inl hM)⟩) xs vals h3
 refine⟨yx, ?_⟩
 cases e with
 |outgrown=>exact k3.elim
 |panicked ch=>
  obtain⟨val,rfl,g1,x,g2,rfl⟩:=k3
  have:=fin [v] [x] [val] (by simp[cE,g2]) ⟨val,[],rfl,g1,rfl⟩
  obtain⟨u,us,he,h2,_⟩:=this
  simp at he;obtain⟨rfl,rfl⟩:=he
  exact⟨val,rfl,h2⟩
 |returned val=>
  obtain⟨g1,vs,rs,rfl,g2,rfl⟩:=k3
  match vs,g1,g2 with
  |[],g1,g2=>
   obtain⟨arr,rfl,hv⟩:=g1
   simp only[cE,Option.some.injEq]at g2;subst g2
   exact⟨arr,rfl,hv⟩
  |[v],g1,g2=>
   have:=fin [v] rs [val] g2 ⟨val,[],rfl,g1,rfl⟩
   cases rs with
   |nil=>cases this
   |cons x l=>
    obtain⟨u,us,he,h2,h3⟩:=this
    simp at he;obtain⟨rfl,rfl⟩:=he
    cases l with
    |nil=>exact h2
    |cons y l=>obtain⟨_,_,h,_⟩:=h3;cases h
  |v::v2::l,g1,g2=>
   obtain⟨arr,rfl,h⟩:=g1
   have:=fin (v::v2::l) rs arr.toList g2 h
   have hl:=D.aM _ _ this
   have oT:=V.aM _ _ h
   match rs,hl,this with
   |[],hl,_=>exact Oa
   |[x],hl,_=>exact Oa
   |x::y::l,_,this=>exact⟨arr,rfl,this⟩
theorem Ib{rs:List ResultVar}{out:R}(e:fG)(s:S)(h:EG P rs out e s):
 mB P rs (fun v o _=>∃vs rs,v=(match vs with|[v]=>v|vs=> .cA vs)/\cE o vs=some rs/\out= .ret rs) (fun v o _=>∃x,eu o v=some x/\out= .cc x) e s:=by
 have ret:EG P rs out .ret s->mB P rs (fun v o _=>∃vs rs,v=(match vs with|[v]=>v|vs=> .cA vs)/\cE o vs=some rs/\out= .ret rs) (fun v o _=>∃x,eu o v=some x/\out= .cc x) .ret s:=by
  intro h
  obtain⟨vs,xs,h1,h2,h3⟩:=KI h
  simp only[mB,h1]
  match vs,h2 with
  |[],h2=>exact⟨[],xs,rfl,h2,h3⟩
  |[v],h2=>exact⟨[v],xs,rfl,h2,h3⟩
  |v::v2::l,h2=>exact⟨v::v2::l,xs,rfl,h2,h3⟩
 cases e with
 |normal=>exact ret h
 |ret=>exact ret h
 |exit id=>exact h.elim
 |cc v=>exact KJ h
end
end Go.Proofs.YtonbelhklnmjnaaGreat
namespace Go.Proofs.YtonbelhklnmjnaaGreat
def KW{α:Type}(c:Bool)(x:α):Option α:=if c=true then some x else none
def one(v:V):Option gO:=some (v,[],[])
def Cs(op:BinOp)(k:IntKind)(a b:Int):Option V:=
 match op with
 | .add=>some (.d (.int k (k.wrap (a+b))))
 | .sub=>some (.d (.int k (k.wrap (a - b))))
 | .mul=>some (.d (.int k (k.wrap (a*b))))
 | .quo=>if b=0 then none else some (.d (.int k (k.wrap (a.tdiv b))))
 | .rem=>if b=0 then none else some (.d (.int k (a.tmod b)))
 | .and=>(u1 .and k a b).map fun r=> .d (.int k r)
 | .or=>(u1 .or k a b).map fun r=> .d (.int k r)
 | .xor=>(u1 .xor k a b).map fun r=> .d (.int k r)
 | .andNot=>(u1 .andNot k a b).map fun r=> .d (.int k r)
 | .eql=>some (.d (.bool (a==b)))| .neq=>some (.d (.bool (a !=b)))| .lss=>some (.d (.bool (decide (a<b))))| .leq=>some (.d (.bool (decide (a<=b))))
 | .gtr=>some (.d (.bool (decide (b<a))))| .geq=>some (.d (.bool (decide (b<=a))))
 |_=>none
def oD(P:Program)(t:TypeId):Bool:=
 match P.underlying t with
 |some .bool=>true
 |_=>false
def An(P:Program)(op:BinOp)(t:TypeId)(x y:V):Option V:=
 match x,y with
 | .d (.int k a), .d (.int k' b)=>if k=k' then Cs op k a b else none
 | .d (.bool a), .d (.bool b)=>match op with
   | .eql=>KW (oD P t) (.d (.bool (a==b)))
   | .neq=>KW (oD P t) (.d (.bool (a !=b)))
   |_=>none
 | .d (.str a), .d (.str b)=>match op with
   | .eql=>some (.d (.bool (a==b)))
   | .neq=>some (.d (.bool (a !=b)))
   |_=>none
 |_,_=>none
def unF(op:UnOp)(x:V):Option V:=
 match op,x with
 | .neg, .d (.int k n)=>some (.d (.int k (k.wrap (-n))))
 | .not, .d (.bool b)=>some (.d (.bool !b))
 |_,_=>none
def qT(c a b:V):Option V:=
 match c with
 | .d (.bool true)=>some a
 | .d (.bool false)=>some b
 |_=>none
def qU(o:Nat->ae)(x:V):Option (List D×List Nat):=
 match x with
 | .d (.sl es)=>some (es,[])
 | .bT=>some ([],[])
 | .rP es=>some (es,[])
 | .osl id ep=>match o id with
   | .arr ju _ _ es=>if ep=ju then some (es,[id])else none
   | .tc ju es=>if ep=ju then some (es,[id])else none
   |_=>none
 |_=>none
def EM(P:Program)(t:TypeId)(o:Nat->ae)(x:V):Option gO:=
 match P.underlying t with
 |some (.slice _)=>match qU o x with
  |some (es,rd)=>some (.d (.int .i64 es.length),[],rd)
  |none=>none
 |some .string=>match x with
  | .d (.str s)=>one (.d (.int .i64 s.length))
  |_=>none
 |some (.array n _)=>one (.d (.int .i64 n))
 |_=>none
def yy(P:Program)(e:TypeId)(es:List D)(i:Int)(rd:List Nat):Option gO:=
 if 0<=i then match es[i.toNat]? with
  |some y=>KW (y.cells.length==P.cellsOf e&&0<P.cellsOf e) (.pp y.cells 0,[],rd)
  |none=>none
 else none
def pn(o:Nat->ae)(x:V)(q:Nat):Option V:=
 match x with
 | .ptr id off=>KW (o id).cK (.ptr id (off+q))
 | .pp cs off=>some (.pp cs (off+q))
 | .pe id ep j sz off=>if(o id).cH=some ep then some (.pe id ep j sz (off+q))else none
 |_=>none
def jd(P:Program)(o:Nat->ae)(t:TypeId)(x ix:V):Option gO:=
 match ix with
 | .d (.int _ i)=>match cS P t with
   |some e=>match x with
    | .d (.sl es)=>yy P e es i []
    | .rP es=>yy P e es i []
    | .osl id ep=>match o id with
      | .arr ju _ sz es=>if ep=ju/\0<=i/\i.toNat<es.length/\sz=P.cellsOf e/\0<P.cellsOf e then some (.pe id ep i.toNat sz 0,[],[id])else none
      | .tc ju es=>if ep=ju then yy P e es i [id]else none
      |_=>none
    |_=>none
   |none=>match BM P t with
    |some (n,e)=>if 0<=i/\i<n/\(P.info? e).isSome=true then(pn o x (i.toNat*P.cellsOf e)).bind one else none
    |none=>none
 |_=>none
def je(P:Program)(o:Nat->ae)(t:TypeId)(x:V)(f:Nat):Option V:=
 match cL P t f with
 |some q=>pn o x q
 |none=>none
def nI(P:Program)(o:Nat->ae)(t:TypeId)(x:V):Option gO:=
 match x with
 | .ptr id off=>match o id with
   | .row cs=>match fq P t cs off with
     |some v=>some (v,[],[id])
     |none=>none
   |_=>none
 | .pp cs off=>match fq P t (cs.map .d) off with
   |some v=>some (v,[],[])
   |none=>none
 | .pe id ep i sz off=>match o id with
   | .arr ju _ rQ es=>if ep=ju/\sz=rQ then match es[i]? with
    |some e=>match fq P t (e.cells.map .d) off with
     |some v=>some (v,[],[id])
     |none=>none
    |none=>none
     else none
   |_=>none
 |_=>none
def sA(P:Program)(o:Nat->ae)(t:TypeId)(x v:V):Option gO:=
 match x with
 | .ptr id off=>match o id with
   | .row cs=>match z6 P t cs off v with
     |some cs'=>some (.cA [],[(id, .row cs')],[id])
     |none=>none
   |_=>none
 | .pe id ep i rQ off=>match o id with
   | .arr ju ty sz es=>if ep=ju/\rQ=sz then match es[i]?,eu o v with
    |some e,some y=>if y.cells.length=P.cellsOf t/\0<y.cells.length/\v.ids.all (· !=id)=true then match e.put off y.cells with
     |some e'=>some (.cA [],dy o v.ids++[(id, .arr ep ty sz (es.set i e'))],id::v.ids)
     |none=>none
     else none
    |_,_=>none
     else none
   |_=>none
 |_=>none
def ig(P:Program)(o:Nat->ae)(fr:Nat)(t:TypeId)(len:Nat)(parts:List (Nat×V)):Option gO:=
 match cS P t with
 |some e=>if len=0/\parts.isEmpty=true/\0<P.cellsOf e then some (.osl fr 0,[(fr, .arr 0 e (P.cellsOf e) [])],[])else if parts.map (·.1)=List.range len/\(cQ P e).isSome=true/\0<len/\0<P.cellsOf e/\len*P.cellsOf e<=2^24 then match cE o (parts.map (·.2))with
  |some ds=>if ds.all (fun x=>x.cells.length==P.cellsOf e)=true then some (.osl fr 0,dy o (V.bO (parts.map (·.2)))++[(fr, .arr 0 e (P.cellsOf e) ds)],V.bO (parts.map (·.2)))else none
  |none=>none
  else none
 |none=>none
def mD(P:Program)(fr:Nat)(t:TypeId)(l c:V):Option gO:=
 match cS P t with
 |some e=>match l,c with
  | .d (.int _ n), .d (.int _ m)=>if n=m/\0<=n/\0<P.cellsOf e/\P.bytesOf e*n.toNat<=2^47/\n.toNat<=2^47 then match BP P e with
   |some x=>some (.osl fr 0,[(fr, .arr 0 e (P.cellsOf e) (List.replicate n.toNat x))],[])
   |none=>none
    else none
  |_,_=>none
 |none=>none
def qV(P:Program)(o:Nat->ae)(fr:Nat)(ts:Array TypeId)(x y:V):Option gO:=
 match ts.toList with
 |[t,t']=>if t=t' then match cS P t,qU o y with
    |some e,some (new,rd)=>if 0<P.cellsOf e/\(cQ P e).isSome=true/\new.all (fun z=>z.cells.length==P.cellsOf e)=true then match x with
     | .bT=>if new.length<=2^47/\new.length*P.bytesOf e<=2^47 then some (.osl fr 0,[(fr, .arr 0 e (P.cellsOf e) new)],rd)else none
     | .rP es=>if es.all (fun z=>z.cells.length==P.cellsOf e)=true then(if new=[]then some (.rP es,[],rd)else if es.length+new.length<=2^40/\(es.length+new.length)*P.bytesOf e<=2^40 then some (.osl fr 0,[(fr, .arr 0 e (P.cellsOf e) (es++new))],rd)else none)else none
     | .osl id ep=>match o id with
       | .arr ju ty sz es=>if ep=ju/\ty=e/\sz=P.cellsOf e/\es.length+new.length<=2^47/\(es.length+new.length)*P.bytesOf e<=2^47 then
        some (.osl id (ep+1),[(id, .arr (ep+1) ty sz (es++new))],id::rd)else none
       |_=>none
     |_=>none
     else none
    |_,_=>none
  else none
 |_=>none
def qW(isMax:Bool)(x y:V):Option V:=
 match x,y with
 | .d (.int k a), .d (.int k' b)=>if k=k' then some (.d (.int k (if isMax then(if b>a then b else a)else(if b<a then b else a))))else none
 |_,_=>none
def lW(x:Option V):Option gO:=match x with|some v=>one v|none=>none
def qX(P:Program)(s:S)(fr:Nat)(b:Builtin)(args:List Operand)(ts:Array TypeId):Option gO:=
 match b,args with
 | .len,[x]=>match ts.toList with
   |[t]=>EM P t s.o (s.ev x)
   |_=>none
 | .append,[x,y]=>match xZ P fr ts (s.ev x) (s.ev y)with
   |some r=>some r
   |none=>qV P s.o fr ts (s.ev x) (s.ev y)
 | .max,[x,y]=>lW (qW true (s.ev x) (s.ev y))
 | .min,[x,y]=>lW (qW false (s.ev x) (s.ev y))
 | .max,[x,y,z]=>lW (Ki (s.ev x) (s.ev y) (s.ev z))
 | .copy,[x,y]=>xY P s.o ts (s.ev x) (s.ev y)
 | .delete,[x,y]=>match ts.toList.head? with
   |some t=>oA P s.o t (s.ev x) (s.ev y)
   |none=>none
 | .cap,[x]=>Om P ts (s.ev x)
 |_,_=>none
def sB(P:Program)(t:TypeId)(parts:List (Nat×V)):Option V:=
 match cQ P t,gC P t with
 |some z,some pl=>match te pl z parts with
  |some cs=>some (mR cs)
  |none=>none
 |_,_=>none
def j7(o:Nat->ae)(x:V):Option V:=
 match x with
 | .ptr id off=>KW (o id).cK (.ptr id off)
 | .pp cs off=>some (.pp cs off)
 | .func (.func f) first cap=>some (.func (.func f) first cap)
 |_=>none
def jf(P:Program)(t:TypeId):Bool:=
 match P.underlying t with
 |some (.interface _)=>false
 |some _=>true
 |none=>false
def KY(P:Program)(t:TypeId)(x:V):Option V:=
 KW (jf P t) (match x with
  | .d y=> .d (.iface t y)
  |v=> .iface t v)
def eL(P:Program)(o:Nat->ae)(op:BinOp)(t:TypeId)(pD:Bool)(x y:V):Option gO:=
 match An P op t x y with
 |some v=>one v
 |none=>sj P o op t pD x y
def HB(op:UnOp)(x:V):Option V:=
 match op,x with
 | .not, .fm=>some .fm
 |op,x=>unF op x
def gQ(P:Program)(s:S)(fr:Nat)(op:Op):Option gO:=
 match op with
 | .move x=>one (s.ev x)
 | .assign x=>one (s.ev x)
 | .pick c a b=>lW (qT (s.ev c) (s.ev a) (s.ev b))
 | .alloc t=>match cQ P t with
   |some cs=>some (.ptr fr 0,[(fr, .row cs)],[])
   |none=>none
 | .box _ x=>match(s.ev x).cells with
   |some cs=>some (.ptr fr 0,[(fr, .row cs)],[])
   |none=>none
 | .build t parts=>lW (sB P t (parts.toList.map fun p=>(p.1,s.ev p.2)))
 | .buildSlice t len parts=>ig P s.o fr t len (parts.toList.map fun p=>(p.1,s.ev p.2))
 | .load t x=>nI P s.o t (s.ev x)
 | .store t x v=>sA P s.o t (s.ev x) (s.ev v)
 | .nilCheck x=>lW (j7 s.o (s.ev x))
 | .binOp op t x y _=>eL P s.o op t (isConst x||isConst y) (s.ev x) (s.ev y)
 | .unOp op _ x=>lW (HB op (s.ev x))
 | .convert u t x=>match P.underlying u,zZ P t,s.ev x with
   |some _,some k, .d (.int _ n)=>one (.d (.int k (k.wrap n)))
   |_,_,_=>none
 | .makeInterface t x=>lW (KY P t (s.ev x))
 | .makeFunc fn first cap=>one (.func fn (first.toList.map s.ev) (cap.toList.map s.ev))
 | .makeSlice t l c=>mD P fr t (s.ev l) (s.ev c)
 | .fieldAddr t x f=>lW (je P s.o t (s.ev x) f)
 | .indexAddr t x i=>jd P s.o t (s.ev x) (s.ev i)
 | .extract x i=>match s.ev x with
   | .cA vs=>match vs[i]? with
     |some v=>one v
     |none=>none
   |_=>none
 | .call c=>match c.callee with
   | .builtin b=>qX P s fr b c.args.toList c.argTypes
   |_=>none
 | .slice t x lo hi mx=>sd P s.o t (s.ev x) (lo.map s.ev) (hi.map s.ev) (mx.map s.ev)
 | .field t x f=>lW (u4 P t (s.ev x) f)
 | .index t x i=>lW (u5 P t (s.ev x) (s.ev i))
 | .typeAssert x _ t ok=>lW (qw P t ok (s.ev x))
 | .makeMap t none=>nr P fr t
 | .lookup t m k ok=>jr P s.o t (s.ev m) (s.ev k) ok
 | .mapUpdate t m k v=>gD P s.o t (s.ev m) (s.ev k) (s.ev v)
 | .insert t m k v=>gD P s.o t (s.ev m) (s.ev k) (s.ev v)
 | .range t x=>ns P s.o fr t (s.ev x)
 | .next x str=>pc s.o (s.ev x) str
 | .entry x=>nu s.o (s.ev x)
 |_=>none
section
variable {P:Program}{s:S}{fr:Nat}{v:V}{Δ:List (Nat×ae)}{rd:List Nat}{o:Nat->ae}{K:V->List (Nat×ae)->List Nat->Prop}
theorem sC{α:Type}{c:Bool}{x y:α}(h:KW c x=some y):c=true/\x=y:=by
 unfold KW at h;split at h
 ·injection h with h;exact⟨by assumption,h⟩
 ·cases h
theorem lB{x:V}{r:gO}(h:one x=some r):r=(x,[],[]):=by unfold one at h;injection h with h;exact h.symm
theorem gH{x:Option V}{r:gO}(h:lW x=some r):∃v,x=some v/\r=(v,[],[]):=by
 unfold lW at h;split at h
 ·exact⟨_,rfl,lB h⟩
 ·cases h
theorem EN{x:V}{es:List D}{rd:List Nat}(h:qU o x=some (es,rd)):ft o x=some es/\rd=x.ids:=by
 unfold qU at h
 split at h
 ·exact TS
 ·exact TS
 ·exact TS
 ·split at h
  ·rename_i ho
   split at h
   ·rename_i e;simp at h;obtain⟨rfl,rfl⟩:=h;exact⟨by simp[ft,eu,ho,e],rfl⟩
   ·cases h
  ·rename_i ho
   split at h
   ·rename_i e;simp at h;obtain⟨rfl,rfl⟩:=h;exact⟨by simp[ft,eu,ho,e],rfl⟩
   ·cases h
  ·cases h
 ·cases h
theorem Ic{op:BinOp}{k:IntKind}{a b:Int}{v:V}(h:Cs op k a b=some v){K:V->Prop}(hK:K v):Oj op k a b K:=by
 cases op<;>simp only[Cs]at h<;>simp only[Oj]
 case quo=>split at h
           ·cases h
           ·injection h with h;subst h;exact⟨by assumption,hK⟩
 case rem=>split at h
           ·cases h
           ·injection h with h;subst h;exact⟨by assumption,hK⟩
 case and=>simp only[Option.map_eq_some_iff]at h;obtain⟨r,h1,rfl⟩:=h;exact⟨r,h1,hK⟩
 case or=>simp only[Option.map_eq_some_iff]at h;obtain⟨r,h1,rfl⟩:=h;exact⟨r,h1,hK⟩
 case xor=>simp only[Option.map_eq_some_iff]at h;obtain⟨r,h1,rfl⟩:=h;exact⟨r,h1,hK⟩
 case andNot=>simp only[Option.map_eq_some_iff]at h;obtain⟨r,h1,rfl⟩:=h;exact⟨r,h1,hK⟩
 case shl=>cases h
 case shr=>cases h
 case eql=>injection h with h;subst h;exact⟨_,rfl,hK⟩
 case neq=>injection h with h;subst h;exact⟨_,rfl,hK⟩
 case lss=>injection h with h;subst h;exact⟨_,rfl,hK⟩
 case leq=>injection h with h;subst h;exact⟨_,rfl,hK⟩
 case gtr=>injection h with h;subst h;exact⟨_,rfl,hK⟩
 case geq=>injection h with h;subst h;exact⟨_,rfl,hK⟩
 all_goals (injection h with h;subst h;exact hK)
theorem Ie{op:BinOp}{t:TypeId}{x y v:V}(h:An P op t x y=some v){K:V->Prop}(hK:K v):Ke P op t x y K:=by
 unfold An at h
 unfold Ke
 split at h
 ·split at h
  ·exact⟨by assumption,Ic h hK⟩
  ·cases h
 ·have hb:oD P t=true->P.underlying t=some .bool:=by
   unfold oD;intro h;split at h
   ·assumption
   ·cases h
  split at h
  ·obtain⟨h1,rfl⟩:=sC h;exact⟨hb h1,hK⟩
  ·obtain⟨h1,rfl⟩:=sC h;exact⟨hb h1,hK⟩
  ·cases h
 ·split at h
  ·injection h with h;subst h;exact hK
  ·injection h with h;subst h;exact hK
  ·cases h
 ·cases h
theorem EO{c a b v:V}(h:qT c a b=some v){K:V->Prop}(hK:K v):BN c a b K:=by
 unfold qT at h
 unfold BN
 split at h
 ·injection h with h;subst h;exact⟨fun _=>hK,(fun h=>by cases h)⟩
 ·injection h with h;subst h;exact⟨(fun h=>by cases h),fun _=>hK⟩
 ·cases h
theorem vx{x y:V}{q:Nat}(h:pn o x q=some y):(∃id off,x= .ptr id off/\(o id).cK=true/\y= .ptr id (off+q))\/(∃cs off,x= .pp cs off/\y= .pp cs (off+q))\/
 (∃id ep j sz off,x= .pe id ep j sz off/\(o id).cH=some ep/\y= .pe id ep j sz (off+q)):=by
 unfold pn at h
 split at h
 ·obtain⟨h1,rfl⟩:=sC h;exact .inl ⟨_,_,rfl,h1,rfl⟩
 ·injection h with h;exact .inr (.inl ⟨_,_,rfl,h.symm⟩)
 ·split at h
  ·injection h with h;exact .inr (.inr ⟨_,_,_,_,_,rfl,by assumption,h.symm⟩)
  ·cases h
 ·cases h
theorem pO{e:TypeId}{es:List D}{i:Int}{rd:List Nat}{r:gO}(h:yy P e es i rd=some r):
 0<=i/\∃y,es[i.toNat]? =some y/\y.cells.length=P.cellsOf e/\0<P.cellsOf e/\r=(.pp y.cells 0,[],rd):=by
 unfold yy at h
 split at h
 ·rename_i h0
  split at h
  ·rename_i y hy
   obtain⟨h1,rfl⟩:=sC h
   simp only[Bool.and_eq_true,beq_iff_eq,decide_eq_true_eq]at h1
   exact⟨h0,y,hy,h1.1,h1.2,rfl⟩
  ·cases h
 ·cases h
theorem ud{t:TypeId}{x ix:V}(h:jd P o t x ix=some (v,Δ,rd))(hK:K v Δ rd):kn P o t x ix fun v rd=>K v [] rd:=by
 unfold jd at h
 unfold kn
 split at h
 ·simp only
  split at h
  ·rename_i e ht
   simp only[ht]
   split at h
   ·obtain⟨h0,y,h1,h2,h3,h4⟩:=pO h
    simp only[Prod.mk.injEq]at h4;obtain⟨rfl,rfl,rfl⟩:=h4
    exact⟨h0,y,h1,h2,h3,hK⟩
   ·obtain⟨h0,y,h1,h2,h3,h4⟩:=pO h
    simp only[Prod.mk.injEq]at h4;obtain⟨rfl,rfl,rfl⟩:=h4
    exact⟨h0,y,h1,h2,h3,hK⟩
   ·split at h
    ·rename_i ho
     split at h
     ·rename_i hc
      simp only[Option.some.injEq,Prod.mk.injEq]at h;obtain⟨rfl,rfl,rfl⟩:=h
      simp only[ho]
      exact⟨hc.1,hc.2.1,hc.2.2.1,hc.2.2.2.1,hc.2.2.2.2,hK⟩
     ·cases h
    ·rename_i ho
     split at h
     ·rename_i hc
      obtain⟨h0,y,h1,h2,h3,h4⟩:=pO h
      simp only[Prod.mk.injEq]at h4;obtain⟨rfl,rfl,rfl⟩:=h4
      simp only[ho]
      exact⟨hc,h0,y,h1,h2,h3,hK⟩
     ·cases h
    ·cases h
   ·cases h
  ·rename_i ht
   simp only[ht]
   split at h
   ·rename_i n e ha
    simp only[ha]
    split at h
    ·rename_i hc
     simp only[Option.bind_eq_some_iff]at h
     obtain⟨y,hy,h1⟩:=h
     have h1:=lB h1
     simp only[Prod.mk.injEq]at h1;obtain⟨rfl,rfl,rfl⟩:=h1
     refine⟨hc.1,hc.2.1,hc.2.2, ?_⟩
     rcases vx hy with⟨_,_,rfl,h2,rfl⟩|⟨_,_,rfl,rfl⟩|⟨_,_,_,_,_,rfl,h2,rfl⟩
     ·exact⟨h2,hK⟩
     ·exact hK
     ·exact⟨h2,hK⟩
    ·cases h
   ·cases h
 ·cases h
theorem ue{t:TypeId}{x y:V}{f:Nat}(h:je P o t x f=some y){K:V->Prop}(hK:K y):ko P o t x f K:=by
 unfold je at h
 unfold ko
 split at h
 ·rename_i q hq
  simp only[hq]
  rcases vx h with⟨_,_,rfl,h2,rfl⟩|⟨_,_,rfl,rfl⟩|⟨_,_,_,_,_,rfl,h2,rfl⟩
  ·exact⟨h2,hK⟩
  ·exact hK
  ·exact⟨h2,hK⟩
 ·cases h
theorem Ig{t:TypeId}{x:V}(h:EM P t o x=some (v,Δ,rd))(hK:K v Δ rd):Kg P t o x fun v rd=>K v [] rd:=by
 unfold EM at h
 unfold Kg
 split at h
 ·rename_i e hu
  simp only[hu]
  split at h
  ·rename_i es uf hl
   simp only[Option.some.injEq,Prod.mk.injEq]at h;obtain⟨rfl,rfl,rfl⟩:=h
   unfold qU at hl
   split at hl
   ·exact TV
   ·exact TV
   ·exact TV
   ·split at hl
    ·rename_i ho
     split at hl
     ·rename_i hc;simp at hl;obtain⟨rfl,rfl⟩:=hl;simp only[ho];exact⟨hc,hK⟩
     ·cases hl
    ·rename_i ho
     split at hl
     ·rename_i hc;simp at hl;obtain⟨rfl,rfl⟩:=hl;simp only[ho];exact⟨hc,hK⟩
     ·cases hl
    ·cases hl
   ·cases hl
  ·cases h
 ·rename_i hu
  simp only[hu]
  split at h
  ·have h1:=lB h;simp only[Prod.mk.injEq]at h1;obtain⟨rfl,rfl,rfl⟩:=h1;exact hK
  ·cases h
 ·rename_i hu
  simp only[hu]
  have h1:=lB h;simp only[Prod.mk.injEq]at h1;obtain⟨rfl,rfl,rfl⟩:=h1;exact hK
 ·cases h
theorem EP{t:TypeId}{x:V}(h:nI P o t x=some (v,Δ,rd))(hK:K v Δ rd):BO P o t x fun v rd=>K v [] rd:=by
 unfold nI at h
 unfold BO
 split at h
 ·split at h
  ·rename_i ho
   split at h
   ·rename_i hg
    simp only[Option.some.injEq,Prod.mk.injEq]at h;obtain⟨rfl,rfl,rfl⟩:=h
    simp only[ho];exact⟨_,hg,hK⟩
   ·cases h
  ·cases h
 ·split at h
  ·rename_i hg
   simp only[Option.some.injEq,Prod.mk.injEq]at h;obtain⟨rfl,rfl,rfl⟩:=h
   exact⟨_,hg,hK⟩
  ·cases h
 ·split at h
  ·rename_i ho
   split at h
   ·rename_i hc
    split at h
    ·rename_i e he
     split at h
     ·rename_i hg
      simp only[Option.some.injEq,Prod.mk.injEq]at h;obtain⟨rfl,rfl,rfl⟩:=h
      simp only[ho];exact⟨hc.1,hc.2,e,he,_,hg,hK⟩
     ·cases h
    ·cases h
   ·cases h
  ·cases h
 ·cases h
theorem Ct{t:TypeId}{x y:V}(h:sA P o t x y=some (v,Δ,rd))(hK:K v Δ rd):u3 P o t x y fun Δ rd=>K (.cA []) Δ rd:=by
 unfold sA at h
 unfold u3
 split at h
 ·split at h
  ·rename_i ho
   split at h
   ·rename_i hg
    simp only[Option.some.injEq,Prod.mk.injEq]at h;obtain⟨rfl,rfl,rfl⟩:=h
    simp only[ho];exact⟨_,hg,hK⟩
   ·cases h
  ·cases h
 ·split at h
  ·rename_i ho
   split at h
   ·rename_i hc
    split at h
    ·rename_i e z he hz
     split at h
     ·rename_i hl
      split at h
      ·rename_i e' hp
       simp only[Option.some.injEq,Prod.mk.injEq]at h;obtain⟨rfl,rfl,rfl⟩:=h
       simp only[ho]
       exact⟨hc.1,hc.2,e,he,z,hz,hl.1,hl.2.1,hl.2.2,e',hp,hK⟩
      ·cases h
     ·cases h
    ·cases h
   ·cases h
  ·cases h
 ·cases h
theorem sD{t:TypeId}{len:Nat}{parts:List (Nat×V)}(h:ig P o fr t len parts=some (v,Δ,rd))(hK:K v Δ rd):jv P o fr t len parts K:=by
 unfold ig at h
 unfold jv
 split at h
 ·rename_i e ht
  simp only[ht]
  split at h
  ·rename_i hc
   simp only[Option.some.injEq,Prod.mk.injEq]at h;obtain⟨rfl,rfl,rfl⟩:=h
   exact .inl ⟨hc.1,by simpa using hc.2.1,hc.2.2,hK⟩
  split at h
  ·rename_i hc
   refine .inr ?_
   split at h
   ·rename_i ds hd
    split at h
    ·rename_i hw
     simp only[Option.some.injEq,Prod.mk.injEq]at h;obtain⟨rfl,rfl,rfl⟩:=h
     refine⟨hc.1,hc.2.1,hc.2.2.1,hc.2.2.2.1,hc.2.2.2.2,ds,hd,fun x hx=> ?_,hK⟩
     simpa using List.all_eq_true.1 hw x hx
    ·cases h
   ·cases h
  ·cases h
 ·cases h
theorem ug{t:TypeId}{l c:V}(h:mD P fr t l c=some (v,Δ,rd))(hK:K v Δ rd):kp P fr t l c fun v Δ=>K v Δ []:=by
 unfold mD at h
 unfold kp
 split at h
 ·rename_i e ht
  split at h
  ·split at h
   ·rename_i hc
    split at h
    ·rename_i x hx
     simp only[Option.some.injEq,Prod.mk.injEq]at h;obtain⟨rfl,rfl,rfl⟩:=h
     simp only[ht]
     exact⟨hc.1,hc.2.1,hc.2.2.1,hc.2.2.2.1,hc.2.2.2.2,x,hx,hK⟩
    ·cases h
   ·cases h
  ·cases h
 ·cases h
theorem Ao{ts:Array TypeId}{x y:V}(h:qV P o fr ts x y=some (v,Δ,rd))(hK:K v Δ rd):qu P o fr ts x y K:=by
 unfold qV at h
 unfold qu
 split at h
 ·rename_i t t' rS
  simp only[rS]
  split at h
  ·rename_i htt
   refine⟨htt, ?_⟩
   split at h
   ·rename_i e new uf ht hl
    obtain⟨xi,rfl⟩:=EN hl
    simp only[ht]
    split at h
    ·rename_i hc
     refine⟨new,xi,hc.1,hc.2.1,fun z hz=>by simpa using List.all_eq_true.1 hc.2.2 z hz, ?_⟩
     split at h
     ·split at h
      ·rename_i vg
       simp only[Option.some.injEq,Prod.mk.injEq]at h;obtain⟨rfl,rfl,rfl⟩:=h
       exact⟨vg.1,vg.2,hK⟩
      ·cases h
     ·split at h
      ·rename_i Ec
       refine⟨fun z hz=>by simpa using List.all_eq_true.1 Ec z hz, ?_⟩
       split at h
       ·rename_i hn
        simp only[Option.some.injEq,Prod.mk.injEq]at h;obtain⟨rfl,rfl,rfl⟩:=h
        rw[if_pos hn];exact hK
       ·rename_i hn
        split at h
        ·rename_i vg
         simp only[Option.some.injEq,Prod.mk.injEq]at h;obtain⟨rfl,rfl,rfl⟩:=h
         rw[if_neg hn];exact⟨vg.1,vg.2,hK⟩
        ·cases h
      ·cases h
     ·split at h
      ·rename_i ho
       split at h
       ·rename_i vg
        simp only[Option.some.injEq,Prod.mk.injEq]at h;obtain⟨rfl,rfl,rfl⟩:=h
        simp only[ho]
        exact⟨vg.1,vg.2.1,vg.2.2.1,vg.2.2.2.1,vg.2.2.2.2,hK⟩
       ·cases h
      ·cases h
     ·cases h
    ·cases h
   ·cases h
  ·cases h
 ·cases h
theorem vy{x y:V}(h:j7 o x=some y){K:V->Prop}(hK:K y):lN o x K:=by
 unfold j7 at h
 unfold lN
 split at h
 ·obtain⟨h2,rfl⟩:=sC h;exact⟨h2,hK⟩
 ·injection h with h;subst h;exact hK
 ·injection h with h;subst h;exact hK
 ·cases h
theorem KZ{op:UnOp}{x y:V}(h:unF op x=some y){K:V->Prop}(hK:K y):Zd op x K:=by
 unfold unF at h
 unfold Zd
 split at h
 ·injection h with h;subst h;simp only;rw[Int.zero_sub];exact hK
 ·injection h with h;subst h;exact hK
 ·cases h
theorem qY{m:Bool}{x y v:V}(h:qW m x y=some v){K:V->Prop}(hK:K v):oz m [x,y] K:=by
 unfold qW at h
 unfold oz
 split at h
 ·split at h
  ·injection h with h;subst h;exact⟨by assumption,hK⟩
  ·cases h
 ·cases h
theorem Cu{op:Op}(h:gQ P s fr op=some (v,Δ,rd))(hK:K v Δ rd):QO P s fr op K:=by
 cases op<;>simp only[gQ]at h<;>simp only[QO]<;>try (cases h;done)
 case move x=>have h:=lB h;simp only[Prod.mk.injEq]at h;obtain⟨rfl,rfl,rfl⟩:=h;exact hK
 case assign x=>have h:=lB h;simp only[Prod.mk.injEq]at h;obtain⟨rfl,rfl,rfl⟩:=h;exact hK
 case pick c a b=>
  obtain⟨x,h1,h⟩:=gH h;simp only[Prod.mk.injEq]at h;obtain⟨rfl,rfl,rfl⟩:=h
  exact EO h1 hK
 case alloc t=>
  split at h
  ·rename_i cs hz;simp only[Option.some.injEq,Prod.mk.injEq]at h;obtain⟨rfl,rfl,rfl⟩:=h;exact⟨cs,hz,hK⟩
  ·cases h
 case box t x=>
  split at h
  ·rename_i cs hz;simp only[Option.some.injEq,Prod.mk.injEq]at h;obtain⟨rfl,rfl,rfl⟩:=h;exact⟨cs,hz,hK⟩
  ·cases h
 case build t parts=>
  obtain⟨x,h1,h⟩:=gH h;simp only[Prod.mk.injEq]at h;obtain⟨rfl,rfl,rfl⟩:=h
  unfold sB at h1
  split at h1
  ·rename_i z pl hz hp
   split at h1
   ·rename_i cs hc;injection h1 with h1;subst h1;exact⟨z,pl,cs,hz,hp,hc,hK⟩
   ·cases h1
  ·cases h1
 case buildSlice t len parts=>exact sD h hK
 case load t x=>exact EP h hK
 case store t x y=>exact Ct h hK
 case nilCheck x=>
  obtain⟨y,h1,h⟩:=gH h;simp only[Prod.mk.injEq]at h;obtain⟨rfl,rfl,rfl⟩:=h
  exact vy h1 hK
 case binOp op t x y yt=>
  unfold eL at h
  split at h
  ·rename_i z h1
   have h:=lB h;simp only[Prod.mk.injEq]at h;obtain⟨rfl,rfl,rfl⟩:=h
   exact .inl (Ie h1 hK)
  ·right;simp only[h,dA];exact hK
 case unOp op t x=>
  obtain⟨z,h1,h⟩:=gH h;simp only[Prod.mk.injEq]at h;obtain⟨rfl,rfl,rfl⟩:=h
  unfold HB at h1
  split at h1
  ·rename_i hx;injection h1 with h1;subst h1;exact .inr ⟨rfl,hx,hK⟩
  ·exact .inl (KZ h1 hK)
 case slice t x lo hi mx=>simp only[h,dA];exact hK
 case field t x f=>
  obtain⟨z,h1,h⟩:=gH h;simp only[Prod.mk.injEq]at h;obtain⟨rfl,rfl,rfl⟩:=h
  exact N1
 case typeAssert x xt t ok=>
  obtain⟨z,h1,h⟩:=gH h;simp only[Prod.mk.injEq]at h;obtain⟨rfl,rfl,rfl⟩:=h
  exact N1
 case makeMap t r=>
  cases r with
  |none=>simp only[h,dA];exact hK
  |some x=>cases h
 case lookup t m k ok=>simp only[h,dA];exact hK
 case mapUpdate t m k v=>simp only[h,dA];exact hK
 case insert t m k v=>simp only[h,dA];exact hK
 case index t x i=>
  obtain⟨z,h1,h⟩:=gH h;simp only[Prod.mk.injEq]at h;obtain⟨rfl,rfl,rfl⟩:=h
  exact N1
 case convert u t x=>
  split at h
  ·rename_i d k k' n hu hk hx
   have h:=lB h;simp only[Prod.mk.injEq]at h;obtain⟨rfl,rfl,rfl⟩:=h
   exact⟨by rw[hu];rfl,by simp only[hk,hx];exact hK⟩
  ·cases h
 case makeInterface t x=>
  obtain⟨z,h1,h⟩:=gH h;simp only[Prod.mk.injEq]at h;obtain⟨rfl,rfl,rfl⟩:=h
  obtain⟨h2,rfl⟩:=sC h1
  refine⟨?_, ?_⟩
  ·unfold jf at h2
   cases hd:P.underlying t with
   |none=>simp[hd]at h2
   |some d=>exact⟨d,rfl,by cases d<;>simp_all⟩
  ·split
   ·rename_i y hy;simp only[hy]at hK;exact hK
   ·rename_i hy
    split at hK
    ·rename_i y hy';exact absurd hy' (hy y)
    ·exact hK
 case makeFunc fn first cap=>have h:=lB h;simp only[Prod.mk.injEq]at h;obtain⟨rfl,rfl,rfl⟩:=h;exact hK
 case makeSlice t l c=>
  exact ug h hK
 case fieldAddr t x f=>
  obtain⟨z,h1,h⟩:=gH h;simp only[Prod.mk.injEq]at h;obtain⟨rfl,rfl,rfl⟩:=h
  exact ue h1 hK
 case indexAddr t x i=>
  exact ud h hK
 case extract x i=>
  split at h
  ·rename_i vs hv
   split at h
   ·rename_i u hu
    have h:=lB h;simp only[Prod.mk.injEq]at h;obtain⟨rfl,rfl,rfl⟩:=h
    simp only[hv];exact⟨_,hu,hK⟩
   ·cases h
  ·cases h
 case call c=>
  obtain⟨KG,args,ts⟩:=c
  cases KG<;>simp only at h|- <;>try (cases h;done)
  rename_i b
  unfold qX at h
  unfold u6
  split at h
  ·rename_i x ha
   simp only[ha]
   split at h
   ·rename_i t rS;exact⟨t,rS,Ig h hK⟩
   ·cases h
  ·rename_i x y ha
   simp only[ha]
   split at h
   ·rename_i r hr
    simp only[Option.some.injEq]at h
    subst h
    exact .inl (by rw[hr];exact hK)
   ·exact .inr (Ao h hK)
  ·rename_i x y ha
   simp only[ha]
   obtain⟨z,h1,h⟩:=gH h;simp only[Prod.mk.injEq]at h;obtain⟨rfl,rfl,rfl⟩:=h
   exact qY h1 hK
  ·rename_i x y ha
   simp only[ha]
   obtain⟨z,h1,h⟩:=gH h;simp only[Prod.mk.injEq]at h;obtain⟨rfl,rfl,rfl⟩:=h
   exact qY h1 hK
  ·rename_i x y z ha
   simp only[ha]
   obtain⟨v0,h1,h⟩:=gH h;simp only[Prod.mk.injEq]at h;obtain⟨rfl,rfl,rfl⟩:=h
   exact N1
  ·rename_i x y ha
   simp only[ha,h,dA];exact hK
  ·rename_i x y ha
   simp only[ha]
   split at h
   ·rename_i t ht;exact⟨t,ht,by simp only[h,dA];exact hK⟩
   ·cases h
  ·rename_i x ha
   simp only[ha,h,dA];exact hK
  ·cases h
 case range t x=>simp only[h,dA];exact hK
 case next x str=>left;simp only[h,dA];exact hK
 case entry x=>simp only[h,dA];exact hK
end
end Go.Proofs.YtonbelhklnmjnaaGreat
namespace Go.Proofs.YtonbelhklnmjnaaGreat
def vz(P:Program)(g:FuncId)(ds:List D)(o o1 oa:Nat->ae)(K:V->(Nat->ae)->Prop)(X:V->(Nat->ae)->Prop):Prop:=
 ∃out,aR P g ds out/\((match out with| .ret rs=>K (jT rs) o1| .cc x=>X (.d x) o1)\/(out.flat=true/\match out with| .ret rs=>K (jT rs) o| .cc x=>X (.d x) o)\/(out.nC=true/\match out with| .ret rs=>K (jT rs) oa| .cc x=>X (.d x) oa))
def tt(P:Program)(g:FuncId)(args:List V)(o:Nat->ae)(nx:Nat)(K:V->(Nat->ae)->Nat->Prop)(X:V->(Nat->ae)->Nat->Prop):Prop:=nE P g args o nx K X
theorem nE.mono {P:Program}{g:FuncId}{args:List V}{o:Nat->ae}{nx:Nat}{K X K' X':V->(Nat->ae)->Nat->Prop}(hK:∀v o n,K v o n->K' v o n)(hX:∀v o n,X v o n->X' v o n)(h:nE P g args o nx K X):nE P g args o nx K' X':=
 h.imp (cU.mono hK hX) (cU.mono hK hX)
@[congr] theorem Q4 {P:Program} {g g':FuncId} {ds Zz:List D} {o o1 oa:Nat->ae} {K X} (h:g=g') (h':ds=Zz):vz P g ds o o1 oa K X=vz P g' Zz o o1 oa K X:=by subst h;subst h';rfl
@[congr] theorem Q5 {P:Program} {g g':FuncId} {cF ZA:List V} {o:Nat->ae} {nx:Nat} {K X} (h:g=g') (h':cF=ZA):tt P g cF o nx K X=tt P g' ZA o nx K X:=by subst h;subst h';rfl
def Q6(P:Program)(g:FuncId)(args:List V)(o:Nat->ae)(nx:Nat)(K X:V->(Nat->ae)->Nat->Prop):Prop:=
 (∃ds,cE o args=some ds/\vz P g ds o (put o (dy o (V.bO args))) (put o (sc o (V.bO args))) (fun v o'=>K v o' (nx+1)) (fun v o'=>X v o' (nx+1)))\/cU P g args o nx K X
def JR(P:Program)(s:S)(o:cI)(X:V->S->Prop)(K:S->Prop):Prop:=
 match o.op with
 | .call c=>match c.callee with
   | .value f=>match s.ev f with
     | .func (.func g) first cap=>match cE s.o (first++c.args.toList.map s.ev++cap)with
       |some ds=>vz P g ds s.o (put s.o (dy s.o (V.bO (first++c.args.toList.map s.ev++cap)))) (put s.o (sc s.o (V.bO (first++c.args.toList.map s.ev++cap)))) (fun v o'=>K ⟨bF s.env o.dst v,o',s.nx+1⟩) (fun v o'=>X v ⟨s.env,o',s.nx+1⟩)\/
        tt P g (first++c.args.toList.map s.ev++cap) s.o s.nx (fun v o' nx'=>K ⟨bF s.env o.dst v,o',nx'⟩) (fun v o' nx'=>X v ⟨s.env,o',nx'⟩)
       |none=>tt P g (first++c.args.toList.map s.ev++cap) s.o s.nx (fun v o' nx'=>K ⟨bF s.env o.dst v,o',nx'⟩) (fun v o' nx'=>X v ⟨s.env,o',nx'⟩)
     | .j6 id=>eh P id (c.args.toList.map s.ev) s.o s.nx (fun v o' nx'=>K ⟨bF s.env o.dst v,o',nx'⟩) (fun v o' nx'=>X v ⟨s.env,o',nx'⟩)
     |_=>False
   | .invoke r m=>match vm P m (s.ev r)with
     |some (g,y)=>Q6 P g (y::c.args.toList.map s.ev) s.o s.nx (fun v o' nx'=>K ⟨bF s.env o.dst v,o',nx'⟩) (fun v o' nx'=>X v ⟨s.env,o',nx'⟩)
     |none=>False
   |_=>match gQ P s s.nx o.op with
    |some (v,Δ,_)=>K ⟨bF s.env o.dst v,put s.o Δ,s.nx+1⟩
    |none=>False
 | .panic x=>match s.ev x with
   | .d (.iface t y)=>X (.d (.iface t y)) s
   | .iface t y=>X (.iface t y) s
   |_=>False
 | .next x str=>match pg s.o (s.ev x)with
   |some (id,l)=>str=false/\FW id l fun v Δ _=>K ⟨bF s.env o.dst v,put s.o Δ,s.nx+1⟩
   |none=>match gQ P s s.nx o.op with
    |some (v,Δ,_)=>K ⟨bF s.env o.dst v,put s.o Δ,s.nx+1⟩
    |none=>False
 |op=>match gQ P s s.nx op with
  |some (v,Δ,_)=>K ⟨bF s.env o.dst v,put s.o Δ,s.nx+1⟩
  |none=>False
def pP(P:Program)(X:V->S->Prop)(K:S->Prop):List cI->S->Prop
 |[],s=>K s
 |o::l,s=>match o.gd with
  |none=>JR P s o X (pP P X K l)
  |some (d,want)=>match s.env d with
   | .d (.bool b)=>if b=want then JR P s o X (pP P X K l)else pP P X K l ⟨bF s.env o.dst (.cA []),s.o,s.nx+1⟩
   | .cA []=>pP P X K l ⟨bF s.env o.dst (.cA []),s.o,s.nx+1⟩
   |_=>False
def K0(b:Nat)(body:(fG->S->Prop)->S->Prop)(Q:fG->S->Prop)(s:S):Prop:=
 ∃ (J:Nat->S->Prop),(∃m s1,bE b s s1/\J m s1)/\∀m s0,J m s0->body (fun e s=>match e with| .normal=>∃m' s1,m'<m/\bE b s s1/\J m' s1|e=>Q e s) s0
@[congr] theorem Q7 {b:Nat} {body Q} {s s':S} (h:s=s'):K0 b body Q s=K0 b body Q s':=by subst h;rfl
def qZ(t:Bool)(A B:Prop):Prop:=(t=true->A)/\(t=false->B)
@[congr] theorem Q8 {t t':Bool} {A B:Prop} (h:t=t'):qZ t A B=qZ t' A B:=by subst h;rfl
@[simp] theorem vA (A B:Prop):qZ true A B=A:=by simp[qZ]
@[simp] theorem tu (A B:Prop):qZ false A B=B:=by simp[qZ]
section
variable {P:Program}{n b:Nat}
theorem Gc{s:S}{o:cI}{o':Oper}{X X':V->S->Prop}{K K':S->Prop}(ey:o'.op=o.op)(dm:o'.dst=o.dst)(hd:iz n o'.dst)(hK:∀s,K s->K' s)(hX:∀v s,X v s->X' v s)(h:JR P s o X K):opW P n s o' X' K':=by
 refine⟨hd, ?_⟩
 rw[dm,ey]
 unfold JR at h
 have hs:∀ {op:Op},(match gQ P s s.nx op with|some (v,Δ,_)=>K ⟨bF s.env o.dst v,put s.o Δ,s.nx+1⟩|none=>False)->QO P s s.nx op fun v Δ _=>K' ⟨bF s.env o.dst v,put s.o Δ,s.nx+1⟩:=by
  intro op h
  split at h
  ·rename_i v Δ rd he;exact Cu he (hK _ h)
  ·exact h.elim
 split at h
 ·rename_i c hc
  split at h
  ·rename_i f e7
   simp only[hc,e7]
   split at h
   ·rename_i g first cap hf
    unfold Ci
    simp only[hf]
    unfold vl
    split at h
    ·rename_i ds fk
     rcases h with⟨out,hP,h|⟨pF,h⟩|⟨pF,h⟩⟩|h
     ·refine .inl ⟨ds,out,fk,hP, ?_⟩
      cases out<;>first|exact hK _ h|exact hX _ _ h
     ·refine .inr (.inl ⟨ds,out,fk,hP,pF, ?_⟩)
      cases out<;>first|exact hK _ h|exact hX _ _ h
     ·refine .inr (.inr (.inl ⟨ds,out,fk,hP,pF, ?_⟩))
      cases out<;>first|exact hK _ h|exact hX _ _ h
     ·exact .inr (.inr (.inr (nE.mono (fun v o n h=>hK _ h) (fun v o n h=>hX _ _ h) h)))
    ·exact .inr (.inr (.inr (nE.mono (fun v o n h=>hK _ h) (fun v o n h=>hX _ _ h) h)))
   ·rename_i id hf
    unfold Ci
    simp only[hf]
    exact eh.mono (fun v o n h=>hK _ h) (fun v o n h=>hX _ _ h) h
   ·exact h.elim
  ·rename_i r m e7
   simp only[hc,e7]
   split at h
   ·rename_i g y hr
    simp only[hr]
    unfold vl
    rcases h with⟨ds,fk,out,hP,h|⟨pF,h⟩|⟨pF,h⟩⟩|h
    ·refine .inl ⟨ds,out,fk,hP, ?_⟩
     cases out<;>first|exact hK _ h|exact hX _ _ h
    ·refine .inr (.inl ⟨ds,out,fk,hP,pF, ?_⟩)
     cases out<;>first|exact hK _ h|exact hX _ _ h
    ·refine .inr (.inr (.inl ⟨ds,out,fk,hP,pF, ?_⟩))
     cases out<;>first|exact hK _ h|exact hX _ _ h
    ·exact .inr (.inr (.inr (.inl (cU.mono (fun v o n h=>hK _ h) (fun v o n h=>hX _ _ h) h))))
   ·exact h.elim
  ·rename_i e7 hinv
   rw[hc]at h|-
   obtain⟨KG,args,ts⟩:=c
   cases KG with
   |value f=>exact absurd rfl (e7 f)
   |invoke r m=>exact absurd rfl (hinv r m)
   |_=>exact hs h
 ·rename_i x hx
  simp only[hx]
  split at h
  ·rename_i hv;simp only[hv];exact hX _ _ h
  ·rename_i hv;simp only[hv];exact hX _ _ h
  ·exact h.elim
 ·rename_i x str hx
  rw[hx]at h|-
  split at h
  ·rename_i id l hl
   exact .inr ⟨h.1,id,l,hl,fun e=>hK _ (h.2.1 e),fun i k x e=>hK _ (h.2.2 i k x e)⟩
  ·exact hs h
 ·rename_i hc hp uA
  have h2:=hs h
  cases hh:o.op<;>first
   |exact absurd hh (hc _)
   |exact absurd hh (hp _)
   |exact absurd hh (uA _ _)
   |(rw[hh]at h2;exact h2)
theorem j8{ops:Array Oper}{X X':V->S->Prop}{K K':S->Prop}(hK:∀s,K s->K' s)(hX:∀v s,X v s->X' v s):∀ (l:List Oper) (l':List cI) (s:S),lK n ops l=some l'->pP P X K l' s->Ah P n ops X' K' l s
 |[],l',s,h,hr=>by simp[lK]at h;subst h;exact hK _ hr
 |o::l,l',s,h,hr=>by
  simp only[lK]at h
  split at h
  ·rename_i x xs hx Ea
   injection h with h;subst h
   unfold Kc at hx
   split at hx
   ·rename_i hd
    have dm:iz n o.dst:=by
     unfold En at hd;unfold iz
     split at hd<;>simp_all
    simp only[Ah,Ag]
    cases hg:o.guard with
    |none=>
     simp only[hg]at hx
     injection hx with hx;subst hx
     exact Gc rfl rfl dm (fun s hs=>j8 hK hX l xs s Ea hs) hX hr
    |some p=>
     obtain⟨j,want⟩:=p
     simp only[hg]at hx
     cases Q9:ta ops j with
     |none=>simp[Q9]at hx
     |some d=>
      simp only[Q9]at hx
      injection hx with hx;subst hx
      simp only
      simp only[pP]at hr
      split at hr
      ·rename_i t ht
       simp only[Q9,ht]
       split at hr
       ·rename_i e
        exact⟨fun _=>Gc rfl rfl dm (fun s hs=>j8 hK hX l xs s Ea hs) hX hr,fun h=>absurd e h⟩
       ·rename_i e
        exact⟨fun h=>absurd h e,fun _=>⟨dm,j8 hK hX l xs _ Ea hr⟩⟩
      ·rename_i ht
       simp only[Q9,ht]
       exact⟨dm,j8 hK hX l xs _ Ea hr⟩
      ·exact hr.elim
   ·cases hx
  ·cases h
end
end Go.Proofs.YtonbelhklnmjnaaGreat
namespace Go.Proofs.YtonbelhklnmjnaaGreat
mutual
def V.refs:V->List Nat
 | .ptr id _=>[id]| .osl id _=>[id]| .pe id _ _ _ _=>[id]| .xW id _ _=>[id]| .mp id=>[id]| .j6 id=>[id]
 | .agg cs=>V.aQ cs
 | .cA cs=>V.aQ cs
 | .func _ a b=>V.aQ a++V.aQ b
 | .iface _ x=>x.refs
 |_=>[]
def V.aQ:List V->List Nat
 |[]=>[]
 |v::vs=>v.refs++V.aQ vs
end
mutual
theorem nn:∀ (v:V),∀id∈v.ids,id∈v.refs
 | .osl id _,j,h=>by simpa[V.ids,V.refs]using h
 | .agg cs,j,h=>by simp only[V.ids]at h;simp only[V.refs];exact kA cs j h
 | .iface _ x,j,h=>by simp only[V.ids]at h;simp only[V.refs];exact nn x j h
 | .mp _,j,h=>by simpa[V.ids,V.refs]using h
 | .d _,_,h| .bT,_,h| .cA _,_,h| .ptr _ _,_,h| .pe _ _ _ _ _,_,h| .pp _ _,_,h| .func _ _ _,_,h| .aa,_,h| .rP _,_,h| .xW _ _ _,_,h| .fm,_,h| .j6 _,_,h=>by simp[V.ids]at h
theorem kA:∀ (vs:List V),∀id∈V.bO vs,id∈V.aQ vs
 |[],j,h=>by simp[V.bO]at h
 |v::vs,j,h=>by
  simp only[V.bO,V.aQ,List.mem_append]at h|-
  exact h.imp (nn v j) (kA vs j)
end
mutual
theorem dK{o o':Nat->ae}:∀ (v:V),(∀id∈v.refs,o' id=o id)->eu o' v=eu o v
 | .osl id ep,h=>by simp only[eu,h id (by simp[V.refs])]
 | .mp id,h=>by simp only[eu,h id (by simp[V.refs])]
 | .agg cs,h=>by simp only[eu,jg cs (by simpa[V.refs]using h)]
 | .iface t x,h=>by simp only[eu,dK x (by simpa[V.refs]using h)]
 | .d _,_| .bT,_| .cA _,_| .ptr _ _,_| .pe _ _ _ _ _,_| .pp _ _,_| .func _ _ _,_| .aa,_| .rP _,_| .xW _ _ _,_| .fm,_| .j6 _,_=>by simp only[eu]
theorem jg{o o':Nat->ae}:∀ (vs:List V),(∀id∈V.aQ vs,o' id=o id)->cE o' vs=cE o vs
 |[],_=>rfl
 |v::vs,h=>by
  simp only[cE,dK v (fun id aC=>h id (by simp[V.aQ,aC])),jg vs (fun id aC=>h id (by simp[V.aQ,aC]))]
end
theorem ij{o o':Nat->ae}{ids:List Nat}(h:∀id∈ids,o' id=o id):dy o' ids=dy o ids:=by
 rw[mm,mm]
 exact List.map_congr_left fun id aC=>by rw[h id aC]
def qk(s:S)(op:Op):List Nat:=
 match op with
 | .load _ x=>(s.ev x).refs
 | .nilCheck x=>(s.ev x).refs
 | .fieldAddr _ x _=>(s.ev x).refs
 | .indexAddr _ x _=>(s.ev x).refs
 | .store _ x v=>(s.ev x).refs++(s.ev v).refs
 | .buildSlice _ _ parts=>V.aQ (parts.toList.map fun p=>s.ev p.2)
 | .binOp _ _ x y _=>(s.ev x).refs++(s.ev y).refs
 | .slice _ x _ _ _=>(s.ev x).refs
 | .lookup _ m k _=>(s.ev m).refs++(s.ev k).refs
 | .mapUpdate _ m k v=>(s.ev m).refs++((s.ev k).refs++(s.ev v).refs)
 | .insert _ m k v=>(s.ev m).refs++((s.ev k).refs++(s.ev v).refs)
 | .range _ x=>(s.ev x).refs
 | .next x _=>(s.ev x).refs
 | .entry x=>(s.ev x).refs
 | .call c=>match c.callee with
   | .builtin _=>V.aQ (c.args.toList.map s.ev)
   | .value f=>match s.ev f with
     | .func _ first cap=>V.aQ (first++c.args.toList.map s.ev++cap)
     |_=>[]
   |_=>[]
 |_=>[]
section
variable {P:Program}{s s':S}{fr:Nat}
theorem tv{o o':Nat->ae}(v:V)(h:∀id∈v.refs,o' id=o id):qU o' v=qU o v:=by
 cases v with
 |osl id ep=>simp only[qU,h id (by simp[V.refs])]
 |d x=>cases x<;>rfl
 |_=>rfl
theorem tw{o o':Nat->ae}(v:V)(q:Nat)(h:∀id∈v.refs,o' id=o id):pn o' v q=pn o v q:=by
 cases v<;>simp only[pn]<;>rw[h _ (by simp[V.refs])]
theorem ER{o o':Nat->ae}(v:V)(h:∀id∈v.refs,o' id=o id):BR o' v=BR o v:=by
 have h1:ft o' v=ft o v:=by unfold ft;rw[dK v h]
 cases v<;>first|rfl|simp only[BR,h1]
theorem Ap{o o':Nat->ae}(v:V)(h:∀id∈v.refs,o' id=o id):se o' v=se o v:=by
 cases v with
 |mp id=>simp only[se,h id (by simp[V.refs])]
 |d x=>cases x<;>rfl
 |_=>rfl
theorem Aq{o o':Nat->ae}(v:V)(h:∀id∈v.refs,o' id=o id):si o' v=si o v:=by
 cases v with
 |ptr id off=>simp only[si,h id (by simp[V.refs])]
 |d x=>cases x<;>rfl
 |_=>rfl
theorem nJ{o o':Nat->ae}(v:V)(h:∀id∈v.refs,o' id=o id):o9 o' v=o9 o v:=by
 cases v with
 |mp id=>simp only[o9,h id (by simp[V.refs])]
 |d x=>cases x<;>rfl
 |_=>rfl
theorem Cv{o o':Nat->ae}(v:V)(h:∀id∈v.refs,o' id=o id):qz o' v=qz o v:=by
 cases v with
 |mp id=>simp only[qz,h id (by simp[V.refs])]
 |d x=>cases x<;>rfl
 |_=>rfl
theorem Cw{o o':Nat->ae}(v:V)(str:Bool)(h:∀id∈v.refs,o' id=o id):pc o' v str=pc o v str:=by
 cases v with
 |ptr id off=>cases off<;>simp only[pc,h id (by simp[V.refs])]
 |_=>rfl
theorem Ar{o o':Nat->ae}(v:V)(h:∀id∈v.refs,o' id=o id):nu o' v=nu o v:=by
 cases v with
 |ptr id off=>cases off<;>simp only[nu,h id (by simp[V.refs])]
 |_=>rfl
theorem As{o o':Nat->ae}{fr:Nat}{t:TypeId}{P:Program}(v:V)(h:∀id∈v.refs,o' id=o id):ns P o' fr t v=ns P o fr t v:=by
 unfold ns
 cases v with
 |mp id=>simp only[h id (by simp[V.refs])]
 |d x=>cases x<;>rfl
 |_=>rfl
theorem Au{o o':Nat->ae}(v:V)(h:∀id∈v.refs,o' id=o id):pA o' v=pA o v:=by
 cases v with
 |ptr id off=>simp only[pA,h id (by simp[V.refs])]
 |_=>rfl
theorem Av{o o':Nat->ae}(v:V)(h:∀id∈v.refs,o' id=o id):pB o' v=pB o v:=by
 cases v with
 |xW id off n=>simp only[pB,h id (by simp[V.refs])]
 |_=>rfl
theorem ES(op:Op)(hv:∀x∈op.operands,s'.ev x=s.ev x)(ho:∀id∈qk s op,s'.o id=s.o id):gQ P s' fr op=gQ P s fr op:=by
 cases op<;>simp only[gQ]
 case move x=>rw[hv x (by simp[Op.operands])]
 case assign x=>rw[hv x (by simp[Op.operands])]
 case pick c a b=>rw[hv c (by simp[Op.operands]),hv a (by simp[Op.operands]),hv b (by simp[Op.operands])]
 case box t x=>rw[hv x (by simp[Op.operands])]
 case build t parts=>
  have:(parts.toList.map fun p=>(p.1,s'.ev p.2))=parts.toList.map fun p=>(p.1,s.ev p.2):=
   List.map_congr_left fun p hp=>by rw[hv p.2 (by simp only[Op.operands];simp;exact⟨p.1,by simpa using hp⟩)]
  rw[this]
 case buildSlice t len parts=>
  have:(parts.toList.map fun p=>(p.1,s'.ev p.2))=parts.toList.map fun p=>(p.1,s.ev p.2):=
   List.map_congr_left fun p hp=>by rw[hv p.2 (by simp only[Op.operands];simp;exact⟨p.1,by simpa using hp⟩)]
  rw[this]
  have e:(parts.toList.map fun p=>(p.1,s.ev p.2)).map (·.2)=parts.toList.map fun p=>s.ev p.2:=by simp[Function.comp_def]
  have h1:cE s'.o ((parts.toList.map fun p=>(p.1,s.ev p.2)).map (·.2))=cE s.o ((parts.toList.map fun p=>(p.1,s.ev p.2)).map (·.2)):=jg _ (by rw[e];exact ho)
  have h2:dy s'.o (V.bO ((parts.toList.map fun p=>(p.1,s.ev p.2)).map (·.2)))=dy s.o (V.bO ((parts.toList.map fun p=>(p.1,s.ev p.2)).map (·.2))):=
   ij fun id aC=>ho id (by rw[e]at aC;exact kA _ id aC)
  simp only[ig,h1,h2]
 case load t x=>
  rw[hv x (by simp[Op.operands])]
  cases hx:s.ev x<;>simp only[nI]<;>rw[ho _ (by simp[qk,hx,V.refs])]
 case store t x y=>
  rw[hv x (by simp[Op.operands]),hv y (by simp[Op.operands])]
  have h1:eu s'.o (s.ev y)=eu s.o (s.ev y):=dK _ fun id aC=>ho id py
  have h2:dy s'.o (s.ev y).ids=dy s.o (s.ev y).ids:=ij fun id aC=>ho id Ub
  cases hx:s.ev x<;>simp only[sA]<;>rw[ho _ (by simp[qk,hx,V.refs])]
  simp only[h1,h2]
 case nilCheck x=>
  rw[hv x (by simp[Op.operands])]
  cases hx:s.ev x with
  |ptr id off=>simp only[j7];rw[ho _ (by simp[qk,hx,V.refs])]
  |func fn a b=>cases fn<;>rfl
  |_=>rfl
 case binOp op t x y yt=>
  rw[hv x (by simp[Op.operands]),hv y (by simp[Op.operands])]
  have h1:BR s'.o (s.ev x)=BR s.o (s.ev x):=ER _ fun id aC=>ho id py
  have h2:∀a b,qx P s'.o a b (s.ev x) (s.ev y)=qx P s.o a b (s.ev x) (s.ev y):=fun a b=>by
   have h3:∀id∈(s.ev x).refs,s'.o id=s.o id:=fun id aC=>ho id py
   have h4:=Ap (s.ev x) h3
   have h5:=Aq (s.ev x) h3
   unfold qx
   rw[h1,h4,h5]
  unfold eL sj
  simp only[h2]
 case slice t x lo hi mx=>
  rw[hv x (by simp[Op.operands])]
  have e1:lo.map s'.ev=lo.map s.ev:=by cases lo<;>simp[hv,Op.operands]
  have e2:hi.map s'.ev=hi.map s.ev:=by cases hi<;>simp[hv,Op.operands]
  have e3:mx.map s'.ev=mx.map s.ev:=by cases mx<;>simp[hv,Op.operands]
  rw[e1,e2,e3]
  have h3:∀id∈(s.ev x).refs,s'.o id=s.o id:=fun id aC=>ho id py
  have h1:ft s'.o (s.ev x)=ft s.o (s.ev x):=by unfold ft;rw[dK _ h3]
  have h2:dy s'.o (s.ev x).ids=dy s.o (s.ev x).ids:=ij fun id aC=>h3 id (nn _ _ aC)
  have h4:Er P s'.o t (s.ev x) (lo.map s.ev) (hi.map s.ev) (mx.map s.ev)=Er P s.o t (s.ev x) (lo.map s.ev) (hi.map s.ev) (mx.map s.ev):=by
   cases hx:s.ev x with
   |osl id ep=>simp only[Er,h3 id (by simp[hx,V.refs])]
   |_=>rfl
  unfold sd qv
  simp only[h1,h2,h4,Au _ h3]
 case field t x f=>rw[hv x (by simp[Op.operands])]
 case typeAssert x xt t ok=>rw[hv x (by simp[Op.operands])]
 case makeMap t r=>cases r<;>rfl
 case lookup t m k ok=>
  rw[hv m (by simp[Op.operands]),hv k (by simp[Op.operands])]
  have h3:∀id∈(s.ev m).refs,s'.o id=s.o id:=fun id aC=>ho id py
  have h1:eu s'.o (s.ev k)=eu s.o (s.ev k):=dK _ fun id aC=>ho id py
  unfold jr
  simp only[h1,Cv _ h3]
 case mapUpdate t m k v=>
  rw[hv m (by simp[Op.operands]),hv k (by simp[Op.operands]),hv v (by simp[Op.operands])]
  have h3:∀id∈(s.ev m).refs,s'.o id=s.o id:=fun id aC=>ho id py
  have h1:eu s'.o (s.ev k)=eu s.o (s.ev k):=dK _ fun id aC=>ho id py
  have h2:eu s'.o (s.ev v)=eu s.o (s.ev v):=dK _ fun id aC=>ho id py
  have h4:dy s'.o (s.ev v).ids=dy s.o (s.ev v).ids:=ij fun id aC=>ho id Ub
  unfold gD
  simp only[h1,h2,h4,nJ _ h3]
 case insert t m k v=>
  rw[hv m (by simp[Op.operands]),hv k (by simp[Op.operands]),hv v (by simp[Op.operands])]
  have h3:∀id∈(s.ev m).refs,s'.o id=s.o id:=fun id aC=>ho id py
  have h1:eu s'.o (s.ev k)=eu s.o (s.ev k):=dK _ fun id aC=>ho id py
  have h2:eu s'.o (s.ev v)=eu s.o (s.ev v):=dK _ fun id aC=>ho id py
  have h4:dy s'.o (s.ev v).ids=dy s.o (s.ev v).ids:=ij fun id aC=>ho id Ub
  unfold gD
  simp only[h1,h2,h4,nJ _ h3]
 case index t x i=>rw[hv x (by simp[Op.operands]),hv i (by simp[Op.operands])]
 case range t x=>
  rw[hv x (by simp[Op.operands])]
  exact As _ fun id aC=>ho id py
 case next x str=>
  rw[hv x (by simp[Op.operands])]
  exact Cw _ _ fun id aC=>ho id py
 case entry x=>
  rw[hv x (by simp[Op.operands])]
  exact Ar _ fun id aC=>ho id py
 case unOp op t x=>rw[hv x (by simp[Op.operands])]
 case convert u t x=>rw[hv x (by simp[Op.operands])]
 case makeInterface t x=>rw[hv x (by simp[Op.operands])]
 case makeFunc fn first cap=>
  have h1:first.toList.map s'.ev=first.toList.map s.ev:=List.map_congr_left fun x hx=>hv x (by simp only[Op.operands];exact Array.mem_append.2 (.inl (Array.mem_toList_iff.1 hx)))
  have h2:cap.toList.map s'.ev=cap.toList.map s.ev:=List.map_congr_left fun x hx=>hv x (by simp only[Op.operands];exact Array.mem_append.2 (.inr (Array.mem_toList_iff.1 hx)))
  rw[h1,h2]
 case makeSlice t l c=>rw[hv l (by simp[Op.operands]),hv c (by simp[Op.operands])]
 case fieldAddr t x f=>
  rw[hv x (by simp[Op.operands])]
  simp only[je]
  cases cL P t f<;>simp only
  rw[tw _ _ (by simpa[qk]using ho)]
 case indexAddr t x i=>
  rw[hv x (by simp[Op.operands]),hv i (by simp[Op.operands])]
  have h1:∀q,pn s'.o (s.ev x) q=pn s.o (s.ev x) q:=fun q=>tw _ _ (by simpa[qk]using ho)
  simp only[jd,h1]
  cases hx:s.ev x with
  |osl id ep=>simp only[ho id (by simp[qk,hx,V.refs])]
  |d y=>cases y<;>rfl
  |_=>rfl
 case extract x i=>rw[hv x (by simp[Op.operands])]
 case call c=>
  obtain⟨KG,args,ts⟩:=c
  cases KG<;>simp only
  rename_i b
  unfold qX
  have hm:∀x∈args.toList,s'.ev x=s.ev x:=fun x hx=>hv x (by simp only[Op.operands,Call.operands];exact Array.mem_append.2 (.inr (Array.mem_toList_iff.1 hx)))
  have hr:∀x∈args.toList,∀id∈(s.ev x).refs,s'.o id=s.o id:=by
   intro x hx id aC
   refine ho id ?_
   simp only[qk]
   generalize args.toList=l at hx
   induction l with
   |nil=>cases hx
   |cons y l ih=>
    simp only[List.map_cons,V.aQ,List.mem_append]
    rcases List.mem_cons.1 hx with rfl|hx
    ·exact .inl aC
    ·exact .inr (ih hx)
  split
  ·rename_i x ha
   rw[ha]at hm hr
   rw[hm x (by simp)]
   have h1:∀t,EM P t s'.o (s.ev x)=EM P t s.o (s.ev x):=fun t=>by simp only[EM,tv _ (hr x (by simp))]
   simp only[h1]
  ·rename_i x y ha
   rw[ha]at hm hr
   rw[hm x (by simp),hm y (by simp)]
   simp only[qV,tv _ (hr y (by simp))]
   cases xZ P fr ts (s.ev x) (s.ev y)with
   |some r=>rfl
   |none=>
   dsimp only
   cases hx:s.ev x with
   |osl id ep=>simp only[hr x (by simp) id (by simp[hx,V.refs])]
   |_=>rfl
  ·rename_i x y ha
   rw[ha]at hm
   rw[hm x (by simp),hm y (by simp)]
  ·rename_i x y ha
   rw[ha]at hm
   rw[hm x (by simp),hm y (by simp)]
  ·rename_i x y z h;rw[hm x (by rw[h];simp),hm y (by rw[h];simp),hm z (by rw[h];simp)]
  ·rename_i x y ha
   rw[ha]at hm hr
   rw[hm x (by simp),hm y (by simp)]
   have h1:ft s'.o (s.ev y)=ft s.o (s.ev y):=by unfold ft;rw[dK _ (hr y (by simp))]
   have h2:dy s'.o (s.ev y).ids=dy s.o (s.ev y).ids:=ij fun id aC=>hr y au id (nn _ _ aC)
   unfold xY
   simp only[h1,h2,Av _ (hr x (by simp))]
  ·rename_i x y ha
   rw[ha]at hm hr
   rw[hm x (by simp),hm y (by simp)]
   have h1:eu s'.o (s.ev y)=eu s.o (s.ev y):=dK _ (hr y au)
   have h2:=nJ _ (hr x au)
   simp only[oA,h1,h2]
  ·rename_i x ha
   rw[ha]at hm
   rw[hm x (by simp)]
  ·rfl
end
end Go.Proofs.YtonbelhklnmjnaaGreat
