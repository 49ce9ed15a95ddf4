/-
  A PART OF THE PROOF. Conditions: none.
-/
import Derived.Test.YtpkobkdgcanmjaaGreatLo5
set_option linter.unusedSimpArgs false
set_option linter.unusedVariables false
namespace Go.Proofs.YtpkobkdgcanmjaaGreat
section
variable {P:Program}{M:Nat->Prop}{φ:Place}{H:Hp}{w w':World}{bT:Place}{H0:Hp}{w0:World}{n b:Nat}{s:S}{a:Act}{cx:Cx}{ro:Option Nat}{k:Nat}
theorem eW(hb:∀id,H0.us id->id<b)(oC:cx.rd=false->ro=none):∀ (c:Code) (Q:fl->S->Prop) (s:S) (φ:Place) (a:Act) (w:World),fw P n b cx.rd c Q s->bC M bT H0 w0 n cx φ s a w->c.oD P ro (we M bT H0 w0 n cx Q) a w:=by
 intro c
 induction c with
 |skip=>exact fun Q s φ a w h hs=>kP (k:=0) (wpIn_skip ⟨.normal,s,φ,h,hs,trivial⟩)
 |scope x ih=>exact fun Q s φ a w h hs=>xQ (ih Q s φ a w h hs) (fun l a w ⟨xx,s',aj,hq,gM,hm⟩=>by cases xx<;>exact hm)
 |label l=>exact fun Q s φ a w h hs=>kP (k:=0) (wpIn_label ⟨.normal,s,φ,h,hs,trivial⟩)
 |exit id=>exact fun Q s φ a w h hs=>tc ⟨.exit id,s,φ,h,hs,rfl⟩
 |ret=>exact fun Q s φ a w h hs=>wg ⟨.ret,s,φ,h,hs,trivial⟩
 |goto l=>exact fun Q s φ a w h hs=>h.elim
 |refuse y=>exact fun Q s φ a w h hs=>h.elim
 |rangeFunc g ps x y=>exact fun Q s φ a w h hs=>xR hs h.1 (oC h.1) h.2
 |region id ops draw=>
  intro Q s φ a w h hs
  cases draw with
  |true=>exact kP (h M bT H0 w0 cx φ a w ro 0 hs)
  |false=>
   refine kP (k:=0) (wpIn_region_list (kO (K:=Q .normal) (X:=fun v s=>Q (.ba v) s) (fun s φ a w hk hs=>⟨.normal,s,φ,hk,hs,trivial⟩) (fun v s φ a w val hx hs hd=>⟨.ba v,s,φ,hx,hs,val,rfl,hd⟩) _ s φ a w h hs))
 |seq x y Bu Bv=>
  intro Q s φ a w h hs
  refine rm (eM (Bu _ s φ a w h hs) ?_)
  rintro e a' w' ⟨xx,s',aj,hq,gM,hm⟩
  cases e<;>cases xx<;>first|(exact hm.elim)|skip
  ·exact Bv Q s' aj a' w' hq gM
  ·subst hm;exact⟨_,s',aj,hq,gM,rfl⟩
  ·exact⟨.ret,s',aj,hq,gM,trivial⟩
  ·exact⟨.ba _,s',aj,hq,gM,hm⟩
 |cond c x y Bu Bv=>
  intro Q s φ a w h hs
  simp only[fw]at h
  have hc:=jm (M:=M) (φ:=φ) (H:=s.H) (w:=w) s a hs.env c
  split at h
  ·rename_i t hv
   rw[hv]at hc
   simp only[V.den,D.den]at hc
   cases t with
   |true=>exact lV hc (Bu Q s φ a w (h.1 rfl) hs)
   |false=>exact lV hc (Bv Q s φ a w (h.2 rfl) hs)
  ·rename_i hv
   rw[hv]at hc
   obtain⟨t,hc⟩:=hc
   cases t with
   |true=>exact lV hc (Bu Q s φ a w h.1 hs)
   |false=>exact lV hc (Bv Q s φ a w h.2 hs)
  ·exact h.elim
 |block id x ih=>
  intro Q s φ a w h hs
  refine xO (eM (ih _ s φ a w h hs) ?_)
  rintro e a' w' ⟨xx,s',aj,hq,gM,hm⟩
  cases e<;>cases xx<;>first|(exact hm.elim)|skip
  ·exact⟨.normal,s',aj,hq,gM,trivial⟩
  ·subst hm
   simp only[Exit.inBlock]
   simp only[dU]at hq
   split
   ·rename_i he;rw[if_pos he]at hq;exact⟨.normal,s',aj,hq,gM,trivial⟩
   ·rename_i he;rw[if_neg he]at hq;exact⟨.exit _,s',aj,hq,gM,rfl⟩
  ·exact⟨.ret,s',aj,hq,gM,trivial⟩
  ·exact⟨.ba _,s',aj,hq,gM,hm⟩
 |loop x ih=>
  intro Q s φ a w h hs
  obtain⟨J,⟨m0,s1,hle,hI⟩,DU⟩:=h
  obtain⟨fk,qn⟩:=zo hb hs hle
  refine rn (fun m a w=>∃s φ,J m s/\bC M bT H0 w0 n cx φ s a w) ?_ m0 a w ⟨s1,fk,hI,qn⟩
  rintro m a w ⟨s,φ,hI,hs⟩
  refine eM (ih _ s φ a w (DU m s hI) hs) ?_
  rintro e a' w' ⟨xx,s',aj,hq,gM,hm⟩
  cases e<;>cases xx<;>first|(exact hm.elim)|skip
  ·obtain⟨m2,s2,br,G7,DV⟩:=hq
   obtain⟨xS,A2⟩:=zo hb gM G7
   exact⟨m2,br,s2,xS,DV,A2⟩
  ·subst hm;exact⟨_,s',aj,hq,gM,rfl⟩
  ·exact⟨.ret,s',aj,hq,gM,trivial⟩
  ·exact⟨.ba _,s',aj,hq,gM,hm⟩
def zp(tmps:Array Value)(r:ResultVar):Sem Value:=
 match r with
 | .tmp t=>pure (tmps.getD t undef)
 | .cell p t=>do loadVar t (<- asAddr (tmps.getD p undef))
theorem nP(lW:ai M φ s.H w)(cN:∀i,V.den (ad M φ s.H) φ s.H w (s.env i) (a.tmps.getD i undef)):∀ (rs:List ResultVar) (vs:List V),iO P s rs=some vs->
 ∃vals,(rs.mapM (zp a.tmps)).run P w= .ok vals w/\V.aq (ad M φ s.H) φ s.H w vs vals
 |[],vs,h=>by simp[iO]at h;subst h;exact⟨[],by simp,rfl⟩
 | .tmp t::rs,vs,h=>by
   simp only[iO,Option.map_eq_some_iff]at h
   obtain⟨us,h1,rfl⟩:=h
   obtain⟨vals,h2,h3⟩:=nP lW cN rs us h1
   exact⟨a.tmps.getD t undef::vals,by simp only[List.mapM_cons,zp,Sem.run_bind,Sem.run_pure,Result.andThen_ok,h2],_,_,rfl,cN t,h3⟩
 | .cell p t::rs,vs,h=>by
   simp only[iO]at h
   split at h
   ·rename_i id off hv
    split at h
    ·rename_i cs ho
     simp only[Option.bind_eq_some_iff,Option.map_eq_some_iff]at h
     obtain⟨v,h0,us,h1,rfl⟩:=h
     obtain⟨vals,h2,h3⟩:=nP lW cN rs us h1
     have hx:=cN p
     rw[hv]at hx
     obtain⟨_,hu,hp⟩:=hx
     obtain⟨k,cM,du⟩:=hp (by show(s.o id).bd=true;rw[ho];rfl)
     have a8:=lW.ok id
     have tf:s.H.o id= .row cs:=ho
     simp only[aA,tf]at a8
     obtain⟨b',cd,ty,g1,g2,g3,g4⟩:=a8
     rw[cM]at g1;simp at g1;subst g1
     obtain⟨val,h4,h5⟩:=lF (P:=P) h0 ⟨k,0,none⟩ cd.toList g3 g4 (fun j u hj=>lG g2 j u (by simpa using hj)) rfl
     rw[add_plain,Nat.zero_add]at h4
     have h6:(loadVar t ⟨k,off,none⟩).run P w= .ok val w:=by simpa[Instr.loadAt,Instr.sureAddr]using h4
     exact⟨val::vals,by simp only[List.mapM_cons,zp,du,asAddr,Sem.run_bind,Sem.run_pure,Result.andThen_ok,h6,h2],val,vals,rfl,h5,h3⟩
    ·cases h
   ·cases h
theorem jw{fn:Func}{tmps:Array Value}{vals:List Value}
 (h:(fn.results.toList.mapM (zp tmps)).run P w= .ok vals w):
 (results fn tmps).run P w= .ok (if h:vals.toArray.size=1 then vals.toArray[0]else .tuple vals.toArray) w:=by
 have e:results fn tmps=(do let vs <- fn.results.mapM (zp tmps);pure (if h:vs.size=1 then vs[0]else .tuple vs)):=by
  unfold results
  congr 2
 rw[e,Array.mapM_eq_mapM_toList]
 simp only[Sem.run_bind,Sem.run_map,h,Result.andThen_ok,Sem.run_pure]
theorem jZ{us:Nat->Prop}(φ:Place)(hM:∀k,M k->k<w.heap.size):ai M φ ⟨fun _=> .no,us⟩ w where
 ok id:=by simp[aA]
 fresh _ _:=rfl
 apart i j k hi:=by simp[aa.live]at hi
 ours k:=by rintro⟨id,h,_⟩;simp[aa.live]at h
 pP:=hM
theorem xT{vals:Array Value}{m i:Nat}:(vals++Array.replicate m undef).getD i undef=(vals[i]?).getD undef:=by
 simp only[Array.getD_eq_getD_getElem?,Array.getElem?_append]
 split
 ·rfl
 ·rw[Array.getElem?_eq_none (xs:=vals) (by omega)]
  simp only[Array.getElem?_replicate]
  split<;>rfl
structure rq (M:Nat->Prop) (bT:Place) (H0:Hp) (w0:World) (φ:Place) (s:S) (tmps:Array Value) (w:World):Prop where
 heap:ai M φ s.H w
 tr:Trans bT H0 w0 φ s.H w
 env:∀i,V.den (ad M φ s.H) φ s.H w (s.env i) (tmps.getD i undef)
theorem xU{tmps:Array Value}(hs:rq M bT H0 w0 φ s tmps w){r:Nat}(h1:w0.heap.size<=r)(h2:w.heap[r]? =some (.deferred (some [])))(h3: ¬bq φ s.H r):
 rq M bT H0 w0 φ s tmps {w with heap:=w.heap.setIfInBounds r (.deferred none)}:=by
 have eV:∀b,b≠r->(w.heap.setIfInBounds r (.deferred none))[b]? =w.heap[b]? :=fun b hb=>(MapKept.heap_set h2).2 b hb
 have ss:∀b,bN w b-> ¬ad M φ s.H b->(w.heap.setIfInBounds r (.deferred none))[b]? =w.heap[b]? /\ ¬ad M φ s.H b:=by
  intro b hc hn
  refine⟨eV b fun e=> ?_,hn⟩
  subst e
  rcases hc with⟨cs,ty,fz,hc⟩|⟨es,clock,hc⟩
  ·rw[h2]at hc;cases hc
  ·rw[h2]at hc;cases hc
 refine⟨⟨fun id=> ?_,hs.heap.fresh,hs.heap.apart,fun b hb=>⟨(hs.heap.ours b hb).1,by simpa using(hs.heap.ours b hb).2⟩,fun b hb=>by simpa using hs.heap.pP b hb⟩,⟨⟨hs.tr.bO.os,hs.tr.bO.tape,hs.tr.bO.output,by simpa using hs.tr.bO.size,fun j hj hm=> ?_⟩,hs.tr.grow,hs.tr.rel⟩,fun i=>V.gZ ss (cW.refl _ _) _ _ (hs.env i)⟩
 ·exact aA.sH ss (cW.refl _ _) rfl rfl (fun hl b hb=>eV b fun e=>h3 ⟨id,hl,e ▸ hb⟩) (hs.heap.ok id)
 ·rw[eV j (by omega)];exact hs.tr.bO.block j hj hm
theorem eN{fn:Func}{R:Ending->World->Prop}{u:FrameMode}(hu:u≠ .run){tmps tb:Array Value}{ds:List Deferred}(hR:∀w,rq M bT H0 w0 φ s tb w->LeavesInM (cV none) k P fn tmps R ds u w):
 ∀ (ms:List Nat) (w:World),ms.Nodup->(∀r∈ms,w0.heap.size<=r/\w.heap[r]? =some (.deferred (some []))/\ ¬bq φ s.H r)->rq M bT H0 w0 φ s tb w->LeavesInM (cV none) k P fn tmps R (ms.map mark++ds) u w
 |[],w,_,_,hs=>hR w hs
 |r::ms,w,hn,hm,hs=>by
  obtain⟨h1,h2,h3⟩:=hm r (by simp)
  obtain⟨CO,CP⟩:=List.nodup_cons.1 hn
  refine⟨hu, .inl ⟨r,{w with heap:=w.heap.setIfInBounds r (.deferred none)},rfl, ?_,eN hu hR ms _ CP (fun r' xI=> ?_) (xU hs h1 h2 h3)⟩⟩
  ·simp[Instr.takeDeferred,getObj,setObj,Sem.run,h2,Result.andThen]
  ·obtain⟨g1,g2,g3⟩:=hm r' (by simp[xI])
   exact⟨g1,((MapKept.heap_set h2).2 r' (fun e=>CO (e ▸ xI))).trans g2,g3⟩
theorem bC.QU (hs:bC M bT H0 w0 n cx φ s a w):rq M bT H0 w0 φ s a.tmps w:=⟨hs.heap,hs.tr,hs.env⟩
def iS(P:Program)(rs:List ResultVar)(K X:V->(Nat->aa)->Nat->Prop)(e:fl)(s:S):Prop:=
 match e with
 | .normal| .ret=>match iO P s rs with
   |some [v]=>K v s.o s.nx
   |some vs=>K (.bM vs) s.o s.nx
   |none=>False
 | .ba v=>X v s.o s.nx
 | .exit _=>False
theorem tg{P:Program}{rs:List ResultVar}{K X:V->(Nat->aa)->Nat->Prop}{s:S}(h:iS P rs K X .ret s):∃vs,iO P s rs=some vs/\K (match vs with|[v]=>v|vs=> .bM vs) s.o s.nx:=by
 unfold iS at h
 simp only at h
 split at h
 ·rename_i v h1;exact⟨[v],h1,h⟩
 ·rename_i vs h1 h2
  refine⟨vs,h2, ?_⟩
  split
  ·exact absurd rfl (h1 _)
  ·exact h
 ·exact h.elim
theorem th:∀ {vs:List V} {vals:List Value},V.aq (ad M φ H) φ H w vs vals->V.den (ad M φ H) φ H w (match vs with|[v]=>v|vs=> .bM vs) (if h:vals.toArray.size=1 then vals.toArray[0]else .tuple vals.toArray)
 |[],vals,h=>by simp only[V.aq]at h;subst h;exact⟨#[],rfl,rfl⟩
 |[v],vals,h=>by obtain⟨u,us,rfl,h1,h2⟩:=h;simp only[V.aq]at h2;subst h2;exact h1
 |v::y::l,vals,h=>by
  have h':=h
  obtain⟨u,us,rfl,h1,u2,us2,rfl,h2⟩:=h
  exact⟨(u::u2::us2).toArray,by simp,by simpa using h'⟩
theorem oG{vals:Array Value}{m:Nat}{vs:List V}(hd:V.aq (ad M φ H) φ H w vs vals.toList)(i:Nat):V.den (ad M φ H) φ H w (bW vs i) ((vals++Array.replicate m undef).getD i undef):=by
 have hlen:=V.ao _ _ hd
 simp only[bW,xT]
 cases hx:vs[i]? with
 |none=>
  have:vals[i]? =none:=by
   rw[List.getElem?_eq_none_iff]at hx
   apply Array.getElem?_eq_none
   simp at hlen;omega
  simp only[List.getD_eq_getElem?_getD,hx,this]
  exact⟨#[],rfl,rfl⟩
 |some v=>
  obtain⟨u,hu,Be⟩:=V.dc _ _ _ _ hd hx
  have qY:vals[i]? =some u:=by simpa using hu
  simp only[List.getD_eq_getElem?_getD,hx,qY,Option.getD_some]
  exact Be
theorem jx{f:FuncId}{fn:Func}{c:Code}{args:Array Value}{w:World}{R:Ending->World->Prop}(hf:P.funcs[f]? =some fn)(hb:fn.body=some c)
 (h:c.oD P none (bodyPostM (cV none) k P fn R) {tmps:=args++Array.replicate (fn.ntmps - args.size) undef,defers:=[]} w):CallsIn (cV none) k P f args w R:=by
 have br:f<P.funcs.size:=(Array.getElem?_eq_some_iff.1 hf).1
 refine⟨trivial,fun cs hr=> ?_⟩
 let b:Frame:={(default:Frame)with fn:=f,kind:= .normal,roundOf:=none}
 have iR:Frame.enter P f args .normal=b.atR {tmps:=args++Array.replicate (fn.ntmps - args.size) undef,defers:=[]} [.code c]:=by
  simp[Frame.enter,Frame.atR,hf,hb,b]
 obtain⟨e,a',w',hq,bS⟩:=h b [] cs rfl br
 rw[<- iR]at bS
 cases e with
 |normal=>
  obtain⟨e',Cu,G8,hR,hs,xN,hl⟩:=leaves_stepsInM a'.defers .returning w' {b.atR a' []with mode:= .returning} cs rfl rfl rfl hf rfl (trivial:(cV none).fn f) hr hq
  exact⟨e',Cu,G8,hR,ComesIn.of_steps (StepsIn.trans bS (.one (fenced_calm (n:=0) (fr:=b.atR a' []) trivial eL rfl) (stepR_end rfl))) hs,xN,hl⟩
 |ret=>
  obtain⟨todo,zq⟩:=bS.1 rfl
  obtain⟨e',Cu,G8,hR,hs,xN,hl⟩:=leaves_stepsInM a'.defers .returning w' {b.atR a' todo with mode:= .returning} cs rfl rfl rfl hf rfl (trivial:(cV none).fn f) hr hq
  exact⟨e',Cu,G8,hR,ComesIn.of_steps zq hs,xN,hl⟩
 |panic chain=>
  obtain⟨todo,zq⟩:=bS
  obtain⟨e',Cu,G8,hR,hs,xN,hl⟩:=leaves_stepsInM a'.defers (.panicking chain) w' {b.atR a' todo with mode:= .panicking chain} cs rfl rfl rfl hf rfl (trivial:(cV none).fn f) hr hq
  exact⟨e',Cu,G8,hR,ComesIn.of_steps zq hs,xN,hl⟩
 |exit id=>exact hq.elim
 |goto l=>exact hq.elim
 |outgrown=>exact⟨.outgrown,w',b,hq,bS.resolve_left (by simp[b]),rfl,trivial⟩
def u9(P:Program)(l:Nat)(R:Ending->World->Prop):Exit->Act->World->Prop
 | .normal,_,w=>∃v w',(Instr.endRound l none).run P w= .ok v w'/\R (.returned v) w'
 | .ret,_,w=>∃v w',(Instr.endRound l (some .ret)).run P w= .ok v w'/\R (.returned v) w'
 | .exit id,_,w=>∃v w',(Instr.endRound l (some (.exit id))).run P w= .ok v w'/\R (.returned v) w'
 | .goto _,_,_=>False
 | .panic chain,a,w=>a.defers=[]/\R (.panicked chain) w
 | .outgrown,_,_=>False
theorem oH{l:Nat}{f:FuncId}{tmps:Array Value}{assign body:Code}{w:World}{R:Ending->World->Prop}(hf:f<P.funcs.size)
 (h:assign.oD P (some l) (Exit.then (fun fF ej=>∃mL,(Instr.beginRound l).run P ej= .ok () mL/\body.oD P (some l) (u9 P l R) fF mL) (fun e a w=>match e with| .panic chain=>a.defers=[]/\R (.panicked chain) w|_=>False))
  {tmps:=tmps,defers:=[]} w):
 RoundIn Fence.wide n P l f tmps assign body w R:=by
 refine⟨trivial,fun c cs hr=> ?_⟩
 let b:Frame:={(default:Frame)with fn:=f,kind:= .normal,roundOf:=some l}
 have CQ:Frame.round l f tmps assign body .normal=b.atR {tmps:=tmps,defers:=[]} [.code assign, .beginRound, .code body]:=by
  simp[Frame.round,Frame.atR,b]
 have calm:∀ (m:Machine),m.fenced P Fence.wide:=fun m=>fenced_wide P m
 have ba:∀ {a:Act} {w:World} {todo:List Item} {chain:List PanicEntry},a.defers=[]->step P (lone {b.atR a todo with mode:= .panicking chain} (c::cs) w)= .next (lone (c.raise chain) cs w):=by
  intro a w todo chain hd
  exact step_leave_panicked (fr:={b.atR a todo with mode:= .panicking chain}) ⟨rfl,hd,P.funcs[f],by show P.funcs[f]? =_;simp[hf]⟩
 obtain⟨e,fF,ej,hq,bS⟩:=h b [.beginRound, .code body] (c::cs) rfl hf
 rw[<- CQ]at bS
 cases e with
 |normal=>
  obtain⟨mL,SU,lX⟩:=hq
  have s1:StepsIn (Machine.fenced P Fence.wide) P (lone (b.atR fF [.beginRound, .code body]) (c::cs) ej) (lone (b.atR fF [.code body]) (c::cs) mL):= .one (calm _) (stepR_beginRound rfl SU)
  obtain⟨DP,G6,uZ,lU,gD⟩:=lX b [] (c::cs) rfl hf
  have bS:StepsIn (Machine.fenced P Fence.wide) P _ _:=bS
  cases DP with
  |normal=>
   obtain⟨v,nC,oF,hR⟩:=lU
   have gD:StepsIn (Machine.fenced P Fence.wide) P _ _:=gD
   exact⟨.returned v,nC,hR,(StepsIn.trans bS s1).trans (StepsIn.trans gD (.one (calm _) (stepR_round_end rfl rfl oF)))⟩
  |ret=>
   obtain⟨v,nC,oF,hR⟩:=lU
   obtain⟨k₁,hs⟩:=gD.2 rfl
   have hs:StepsIn (Machine.fenced P Fence.wide) P _ _:=hs
   exact⟨.returned v,nC,hR,(StepsIn.trans bS s1).trans (StepsIn.trans hs (.one (calm _) (stepR_round_ret rfl rfl oF)))⟩
  |exit id=>
   obtain⟨v,nC,oF,hR⟩:=lU
   obtain⟨k₁,hk,hs⟩:=gD.2 rfl rfl
   have hs:StepsIn (Machine.fenced P Fence.wide) P _ _:=hs
   exact⟨.returned v,nC,hR,(StepsIn.trans bS s1).trans (StepsIn.trans hs (.one (calm _) (stepR_round_exit rfl rfl hk oF)))⟩
  |goto t=>exact lU.elim
  |panic chain=>
   obtain⟨todo,hs⟩:=gD
   have hs:StepsIn (Machine.fenced P Fence.wide) P _ _:=hs
   exact⟨.panicked chain,uZ,lU.2,(StepsIn.trans bS s1).trans (StepsIn.trans hs (.one (calm _) (ba lU.1)))⟩
  |outgrown=>exact lU.elim
 |exit id=>exact hq.elim
 |goto t=>exact hq.elim
 |ret=>exact hq.elim
 |panic chain=>
  obtain⟨todo,hs⟩:=bS
  have hs:StepsIn (Machine.fenced P Fence.wide) P _ _:=hs
  exact⟨.panicked chain,ej,hq.2,StepsIn.trans hs (.one (calm _) (ba hq.1))⟩
 |outgrown=>exact hq.elim
theorem fm.wm {f:FuncId}{fn:Func}{c:Code}{args:List V}{o:Nat->aa}{nx:Nat}{K X:V->(Nat->aa)->Nat->Prop}(hf:P.funcs[f]? =some fn)(hn:(fn.name== "runtime.NumGoroutine")=false)(lX:fn.body=some c)(hl:args.length<=fn.ntmps)
 (h:fw P fn.ntmps nx false c (iS P fn.results.toList K X) ⟨bW args,o,nx⟩):fm P f args o nx K X:=by
 refine⟨⟨fn,hf,hn,by rw[lX];rfl⟩,fun M φ w vals hH hd=> ?_⟩
 have hlen:=V.ao _ _ hd
 let s0:S:=⟨bW args,o,nx⟩
 let a0:Act:={tmps:=vals++Array.replicate (fn.ntmps - vals.size) undef,defers:=[]}
 have rr:bC M φ (hp o nx) w fn.ntmps ⟨[],false⟩ φ s0 a0 w:=by
  refine⟨hH,Trans.refl _ _ _, ?_,⟨[],rfl,List.nodup_nil,fun _=>rfl,fun r hr=>by cases hr⟩,oG hd⟩
  simp only[a0,Array.size_append,Array.size_replicate];simp at hlen;omega
 refine s7 (ro:=none) (k:=0) (jx hf lX (eM (eW (P:=P) (H0:=hp o nx) (b:=nx) (cx:=⟨[],false⟩) (ro:=none) (fun id hu=>hu) (fun _=>rfl) c _ s0 φ a0 w h rr) ?_))
 rintro e a w' ⟨x,s,aj,hq,hs,hm⟩
 obtain⟨ms,g1,g2,g3,g4⟩:=hs.defers
 rw[List.append_nil]at g1
 have done:(x= .normal\/x= .ret)->LeavesInM (cV none) 0 P fn a.tmps (jr M φ (hp o nx) w K X) a.defers .returning w':=by
  intro hx
  have SV:iS P fn.results.toList K X .ret s:=by rcases hx with rfl|rfl<;>exact hq
  obtain⟨vs,h1,h2⟩:=tg SV
  rw[g1]
  have:=eN (P:=P) (k:=0) (fn:=fn) (R:=jr M φ (hp o nx) w K X) (u:= .returning) (by simp) (ds:=[]) (fun w2 hb=>by
   obtain⟨vals,h3,h4⟩:=nP (P:=P) (a:=a) hb.heap hb.env _ _ h1
   exact⟨_,jw h3,aj,s.o,s.nx,_,hb.heap,hb.tr,th h4,h2⟩) ms w' g2 g4 hs.QU
  rwa [List.append_nil]at this
 cases e<;>cases x<;>first|(exact hm.elim)|skip
 ·exact done (.inl rfl)
 ·exact hq.elim
 ·exact done (.inr rfl)
 ·rename_i v
  obtain⟨val,rfl,N7⟩:=hm
  show LeavesInM (cV none) 0 P fn a.tmps (jr M φ (hp o nx) w K X) a.defers _ w'
  rw[g1]
  have CQ:rq M φ (hp o nx) w aj ⟨fun i=>if i=0 then v else .aw,s.o,s.nx⟩ #[val] w':=⟨hs.heap,hs.tr,fun i=>by
   by_cases hi:i=0
   ·subst hi;exact N7
   ·simp only[hi,if_false];trivial⟩
  have:=eN (P:=P) (k:=0) (fn:=fn) (s:=⟨fun i=>if i=0 then v else .aw,s.o,s.nx⟩) (tmps:=a.tmps) (tb:=#[val]) (bT:=φ) (H0:=hp o nx) (w0:=w) (R:=jr M φ (hp o nx) w K X) (u:= .panicking [{v:=val,recovered:=false}]) (by simp) (ds:=[]) (fun w2 hb=>by
   have h0:=hb.env 0
   exact⟨aj,s.o,s.nx,v,hb.heap,hb.tr,val,rfl,h0,hq⟩) ms w' g2 g4 CQ
  rwa [List.append_nil]at this
theorem bU.kQ {f:FuncId}{ds:List D}{out:R}(h:fm P f (ds.map .d) (fun _=> .no) 0 (fun v o _=>∃vs rs,v=(match vs with|[v]=>v|vs=> .bM vs)/\bA o vs=some rs/\out= .ret rs) (fun v o _=>∃x,dn o v=some x/\out= .ba x)):bU P f ds out:=by
 refine⟨h.1,fun M w vals hM hd=> ?_⟩
 let bT:Place:=fun _=> .nilFunc
 have ru:∀b, ¬bq bT (hp (fun _=> .no) 0) b:=by rintro b ⟨id,hl,_⟩;simp[hp,aa.live]at hl
 refine(h.2 M bT w vals (jZ bT hM) ((V.bP _ _).2 (D.az (w:=w) (w':=w) (B:=M) (fun b _ hB=>⟨rfl,fun h=>h.elim hB (ru b)⟩) _ _ hd))).mono ?_
 rintro e w' ⟨aj,o',nx',v,k1,k2,k3⟩
 have G9:dJ (fun _=>False) w w':=⟨k2.bO.os,k2.bO.tape,k2.bO.output,k2.bO.size,fun k hk _=>k2.bO.block k hk (ru k)⟩
 have fin:∀ (vs:List V) (xs:List D) (vals:List Value),bA o' vs=some xs->V.aq (ad M aj (hp o' nx')) aj (hp o' nx') w' vs vals->D.aq M w' xs vals:=by
  intro vs xs vals h1 h2
  obtain⟨f1,f2,f3,f4,f5⟩:=cw k1 (V.aQ vs) (bQ vs _ h2)
  have h3:=cF f1 vs xs vals f3 h1 (V.az f2 _ _ h2)
  exact D.az (w:=w') (w':=w') (fun k _ hB=>⟨rfl,fun hM=>hB (.inl hM)⟩) xs vals h3
 refine⟨G9, ?_⟩
 cases e with
 |outgrown=>exact k3.elim
 |panicked ch=>
  obtain⟨val,rfl,g1,x,g2,rfl⟩:=k3
  have:=fin [v] [x] [val] (by simp[bA,g2]) ⟨val,[],rfl,g1,rfl⟩
  obtain⟨u,us,he,h2,_⟩:=this
  simp at he;obtain⟨rfl,rfl⟩:=he
  exact⟨val,rfl,h2⟩
 |returned val=>
  obtain⟨g1,vs,rs,rfl,g2,rfl⟩:=k3
  match vs,g1,g2 with
  |[],g1,g2=>
   obtain⟨arr,rfl,hv⟩:=g1
   simp only[bA,Option.some.injEq]at g2;subst g2
   exact⟨arr,rfl,hv⟩
  |[v],g1,g2=>
   have:=fin [v] rs [val] g2 ⟨val,[],rfl,g1,rfl⟩
   cases rs with
   |nil=>cases this
   |cons x l=>
    obtain⟨u,us,he,h2,h3⟩:=this
    simp at he;obtain⟨rfl,rfl⟩:=he
    cases l with
    |nil=>exact h2
    |cons y l=>obtain⟨_,_,h,_⟩:=h3;cases h
  |v::v2::l,g1,g2=>
   obtain⟨arr,rfl,h⟩:=g1
   have:=fin (v::v2::l) rs arr.toList g2 h
   have hl:=D.ao _ _ this
   have Ha:=V.ao _ _ h
   match rs,hl,this with
   |[],hl,_=>rw[Ha]at hl;simp at hl
   |[x],hl,_=>rw[Ha]at hl;simp at hl
   |x::y::l,_,this=>exact⟨arr,rfl,this⟩
theorem xV{rs:List ResultVar}{out:R}(e:fl)(s:S)(h:uY P rs out e s):
 iS P rs (fun v o _=>∃vs rs,v=(match vs with|[v]=>v|vs=> .bM vs)/\bA o vs=some rs/\out= .ret rs) (fun v o _=>∃x,dn o v=some x/\out= .ba x) e s:=by
 have ret:uY P rs out .ret s->iS P rs (fun v o _=>∃vs rs,v=(match vs with|[v]=>v|vs=> .bM vs)/\bA o vs=some rs/\out= .ret rs) (fun v o _=>∃x,dn o v=some x/\out= .ba x) .ret s:=by
  intro h
  obtain⟨vs,xs,h1,h2,h3⟩:=zh h
  simp only[iS,h1]
  match vs,h2 with
  |[],h2=>exact⟨[],xs,rfl,h2,h3⟩
  |[v],h2=>exact⟨[v],xs,rfl,h2,h3⟩
  |v::v2::l,h2=>exact⟨v::v2::l,xs,rfl,h2,h3⟩
 cases e with
 |normal=>exact ret h
 |ret=>exact ret h
 |exit id=>exact h.elim
 |ba v=>exact zi h
end
end Go.Proofs.YtpkobkdgcanmjaaGreat
namespace Go.Proofs.YtpkobkdgcanmjaaGreat
def zr{α:Type}(c:Bool)(x:α):Option α:=if c=true then some x else none
def one(v:V):Option eP:=some (v,[],[])
def tj(op:BinOp)(k:IntKind)(a b:Int):Option V:=
 match op with
 | .add=>some (.d (.int k (k.wrap (a+b))))
 | .sub=>some (.d (.int k (k.wrap (a - b))))
 | .mul=>some (.d (.int k (k.wrap (a*b))))
 | .quo=>if b=0 then none else some (.d (.int k (k.wrap (a.tdiv b))))
 | .rem=>if b=0 then none else some (.d (.int k (a.tmod b)))
 | .and=>(n9 .and k a b).map fun r=> .d (.int k r)
 | .or=>(n9 .or k a b).map fun r=> .d (.int k r)
 | .xor=>(n9 .xor k a b).map fun r=> .d (.int k r)
 | .andNot=>(n9 .andNot k a b).map fun r=> .d (.int k r)
 | .eql=>some (.d (.bool (a==b)))| .neq=>some (.d (.bool (a !=b)))| .lss=>some (.d (.bool (decide (a<b))))| .leq=>some (.d (.bool (decide (a<=b))))
 | .gtr=>some (.d (.bool (decide (b<a))))| .geq=>some (.d (.bool (decide (b<=a))))
 |_=>none
def aB(P:Program)(t:TypeId):Bool:=
 match P.underlying t with
 |some .bool=>true
 |_=>false
def rv(P:Program)(op:BinOp)(t:TypeId)(x y:V):Option V:=
 match x,y with
 | .d (.int k a), .d (.int k' b)=>if k=k' then tj op k a b else none
 | .d (.bool a), .d (.bool b)=>match op with
   | .eql=>zr (aB P t) (.d (.bool (a==b)))
   | .neq=>zr (aB P t) (.d (.bool (a !=b)))
   |_=>none
 | .d (.str a), .d (.str b)=>match op with
   | .eql=>some (.d (.bool (a==b)))
   | .neq=>some (.d (.bool (a !=b)))
   |_=>none
 |_,_=>none
def N8(op:UnOp)(x:V):Option V:=
 match op,x with
 | .neg, .d (.int k n)=>some (.d (.int k (k.wrap (-n))))
 | .not, .d (.bool b)=>some (.d (.bool !b))
 |_,_=>none
def lY(c a b:V):Option V:=
 match c with
 | .d (.bool true)=>some a
 | .d (.bool false)=>some b
 |_=>none
def lZ(o:Nat->aa)(x:V):Option (List D×List Nat):=
 match x with
 | .d (.sl es)=>some (es,[])
 | .aM=>some ([],[])
 | .kG es=>some (es,[])
 | .osl id ep=>match o id with
   | .arr eQ _ _ es=>if ep=eQ then some (es,[id])else none
   | .lu eQ es=>if ep=eQ then some (es,[id])else none
   |_=>none
 |_=>none
def ve(P:Program)(t:TypeId)(o:Nat->aa)(x:V):Option eP:=
 match P.underlying t with
 |some (.slice _)=>match lZ o x with
  |some (es,rd)=>some (.d (.int .i64 es.length),[],rd)
  |none=>none
 |some .string=>match x with
  | .d (.str s)=>one (.d (.int .i64 s.length))
  |_=>none
 |some (.array n _)=>one (.d (.int .i64 n))
 |_=>none
def qo(P:Program)(e:TypeId)(es:List D)(i:Int)(rd:List Nat):Option eP:=
 if 0<=i then match es[i.toNat]? with
  |some y=>zr (y.cells.length==P.cellsOf e&&0<P.cellsOf e) (.pp y.cells 0,[],rd)
  |none=>none
 else none
def kC(o:Nat->aa)(x:V)(q:Nat):Option V:=
 match x with
 | .ptr id off=>zr (o id).bd (.ptr id (off+q))
 | .pp cs off=>some (.pp cs (off+q))
 | .pe id ep j sz off=>if(o id).aO=some ep then some (.pe id ep j sz (off+q))else none
 |_=>none
def eX(P:Program)(o:Nat->aa)(t:TypeId)(x ix:V):Option eP:=
 match ix with
 | .d (.int _ i)=>match aE P t with
   |some e=>match x with
    | .d (.sl es)=>qo P e es i []
    | .kG es=>qo P e es i []
    | .osl id ep=>match o id with
      | .arr eQ _ sz es=>if ep=eQ/\0<=i/\i.toNat<es.length/\sz=P.cellsOf e/\0<P.cellsOf e then some (.pe id ep i.toNat sz 0,[],[id])else none
      | .lu eQ es=>if ep=eQ then qo P e es i [id]else none
      |_=>none
    |_=>none
   |none=>match bz P t with
    |some (n,e)=>if 0<=i/\i<n/\(P.info? e).isSome=true then(kC o x (i.toNat*P.cellsOf e)).bind one else none
    |none=>none
 |_=>none
def eY(P:Program)(o:Nat->aa)(t:TypeId)(x:V)(f:Nat):Option V:=
 match bw P t f with
 |some q=>kC o x q
 |none=>none
def jy(P:Program)(o:Nat->aa)(t:TypeId)(x:V):Option eP:=
 match x with
 | .ptr id off=>match o id with
   | .row cs=>match dE P t cs off with
     |some v=>some (v,[],[id])
     |none=>none
   |_=>none
 | .pp cs off=>match dE P t (cs.map .d) off with
   |some v=>some (v,[],[])
   |none=>none
 | .pe id ep i sz off=>match o id with
   | .arr eQ _ ki es=>if ep=eQ/\sz=ki then match es[i]? with
    |some e=>match dE P t (e.cells.map .d) off with
     |some v=>some (v,[],[id])
     |none=>none
    |none=>none
     else none
   |_=>none
 |_=>none
def mM(P:Program)(o:Nat->aa)(t:TypeId)(x v:V):Option eP:=
 match x with
 | .ptr id off=>match o id with
   | .row cs=>match qV P t cs off v with
     |some cs'=>some (.bM [],[(id, .row cs')],[id])
     |none=>none
   |_=>none
 | .pe id ep i ki off=>match o id with
   | .arr eQ ty sz es=>if ep=eQ/\ki=sz then match es[i]?,dn o v with
    |some e,some y=>if y.cells.length=P.cellsOf t/\0<y.cells.length/\v.ids.all (· !=id)=true then match e.put off y.cells with
     |some e'=>some (.bM [],cg o v.ids++[(id, .arr ep ty sz (es.set i e'))],id::v.ids)
     |none=>none
     else none
    |_,_=>none
     else none
   |_=>none
 |_=>none
def eA(P:Program)(o:Nat->aa)(fr:Nat)(t:TypeId)(len:Nat)(parts:List (Nat×V)):Option eP:=
 match aE P t with
 |some e=>if len=0/\parts.isEmpty=true/\0<P.cellsOf e then some (.osl fr 0,[(fr, .arr 0 e (P.cellsOf e) [])],[])else if parts.map (·.1)=List.range len/\(aL P e).isSome=true/\0<len/\0<P.cellsOf e/\len*P.cellsOf e<=2^24 then match bA o (parts.map (·.2))with
  |some ds=>if ds.all (fun x=>x.cells.length==P.cellsOf e)=true then some (.osl fr 0,cg o (V.aQ (parts.map (·.2)))++[(fr, .arr 0 e (P.cellsOf e) ds)],V.aQ (parts.map (·.2)))else none
  |none=>none
  else none
 |none=>none
def iT(P:Program)(fr:Nat)(t:TypeId)(l c:V):Option eP:=
 match aE P t with
 |some e=>match l,c with
  | .d (.int _ n), .d (.int _ m)=>if n=m/\0<=n/\0<P.cellsOf e/\P.bytesOf e*n.toNat<=2^47/\n.toNat<=2^47 then match aS P e with
   |some x=>some (.osl fr 0,[(fr, .arr 0 e (P.cellsOf e) (List.replicate n.toNat x))],[])
   |none=>none
    else none
  |_,_=>none
 |none=>none
def l0(P:Program)(o:Nat->aa)(fr:Nat)(ts:Array TypeId)(x y:V):Option eP:=
 match ts.toList with
 |[t,t']=>if t=t' then match aE P t,lZ o y with
    |some e,some (new,rd)=>if 0<P.cellsOf e/\(aL P e).isSome=true/\new.all (fun z=>z.cells.length==P.cellsOf e)=true then match x with
     | .aM=>if new.length<=2^47/\new.length*P.bytesOf e<=2^47 then some (.osl fr 0,[(fr, .arr 0 e (P.cellsOf e) new)],rd)else none
     | .kG es=>if es.all (fun z=>z.cells.length==P.cellsOf e)=true then(if new=[]then some (.kG es,[],rd)else if es.length+new.length<=2^40/\(es.length+new.length)*P.bytesOf e<=2^40 then some (.osl fr 0,[(fr, .arr 0 e (P.cellsOf e) (es++new))],rd)else none)else none
     | .osl id ep=>match o id with
       | .arr eQ ty sz es=>if ep=eQ/\ty=e/\sz=P.cellsOf e/\es.length+new.length<=2^47/\(es.length+new.length)*P.bytesOf e<=2^47 then
        some (.osl id (ep+1),[(id, .arr (ep+1) ty sz (es++new))],id::rd)else none
       |_=>none
     |_=>none
     else none
    |_,_=>none
  else none
 |_=>none
def l3(isMax:Bool)(x y:V):Option V:=
 match x,y with
 | .d (.int k a), .d (.int k' b)=>if k=k' then some (.d (.int k (if isMax then(if b>a then b else a)else(if b<a then b else a))))else none
 |_,_=>none
def iU(x:Option V):Option eP:=match x with|some v=>one v|none=>none
def l4(P:Program)(s:S)(fr:Nat)(b:Builtin)(args:List Operand)(ts:Array TypeId):Option eP:=
 match b,args with
 | .len,[x]=>match ts.toList with
   |[t]=>ve P t s.o (s.ev x)
   |_=>none
 | .append,[x,y]=>l0 P s.o fr ts (s.ev x) (s.ev y)
 | .max,[x,y]=>iU (l3 true (s.ev x) (s.ev y))
 | .min,[x,y]=>iU (l3 false (s.ev x) (s.ev y))
 | .max,[x,y,z]=>iU (yQ (s.ev x) (s.ev y) (s.ev z))
 | .copy,[x,y]=>p6 P s.o ts (s.ev x) (s.ev y)
 | .delete,[x,y]=>match ts.toList.head? with
   |some t=>jV P s.o t (s.ev x) (s.ev y)
   |none=>none
 |_,_=>none
def ry(P:Program)(t:TypeId)(parts:List (Nat×V)):Option V:=
 match aL P t,cu P t with
 |some z,some pl=>match m4 pl z parts with
  |some cs=>some (dD cs)
  |none=>none
 |_,_=>none
def fJ(o:Nat->aa)(x:V):Option V:=
 match x with
 | .ptr id off=>zr (o id).bd (.ptr id off)
 | .pp cs off=>some (.pp cs off)
 | .func (.func f) first cap=>some (.func (.func f) first cap)
 |_=>none
def af(P:Program)(t:TypeId):Bool:=
 match P.underlying t with
 |some (.interface _)=>false
 |some _=>true
 |none=>false
def zt(P:Program)(t:TypeId)(x:V):Option V:=
 zr (af P t) (match x with
  | .d y=> .d (.iface t y)
  |v=> .iface t v)
def cp(P:Program)(o:Nat->aa)(op:BinOp)(t:TypeId)(kJ:Bool)(x y:V):Option eP:=
 match rv P op t x y with
 |some v=>one v
 |none=>mE P o op t kJ x y
def tk(op:UnOp)(x:V):Option V:=
 match op,x with
 | .not, .dC=>some .dC
 |op,x=>N8 op x
def eF(P:Program)(s:S)(fr:Nat)(op:Op):Option eP:=
 match op with
 | .move x=>one (s.ev x)
 | .assign x=>one (s.ev x)
 | .pick c a b=>iU (lY (s.ev c) (s.ev a) (s.ev b))
 | .alloc t=>match aL P t with
   |some cs=>some (.ptr fr 0,[(fr, .row cs)],[])
   |none=>none
 | .box _ x=>match(s.ev x).cells with
   |some cs=>some (.ptr fr 0,[(fr, .row cs)],[])
   |none=>none
 | .build t parts=>iU (ry P t (parts.toList.map fun p=>(p.1,s.ev p.2)))
 | .buildSlice t len parts=>eA P s.o fr t len (parts.toList.map fun p=>(p.1,s.ev p.2))
 | .load t x=>jy P s.o t (s.ev x)
 | .store t x v=>mM P s.o t (s.ev x) (s.ev v)
 | .nilCheck x=>iU (fJ s.o (s.ev x))
 | .binOp op t x y _=>cp P s.o op t (isConst x||isConst y) (s.ev x) (s.ev y)
 | .unOp op _ x=>iU (tk op (s.ev x))
 | .convert u t x=>match P.underlying u,bF P t,s.ev x with
   |some _,some k, .d (.int _ n)=>one (.d (.int k (k.wrap n)))
   |_,_,_=>none
 | .makeInterface t x=>iU (zt P t (s.ev x))
 | .makeFunc fn first cap=>one (.func fn (first.toList.map s.ev) (cap.toList.map s.ev))
 | .makeSlice t l c=>iT P fr t (s.ev l) (s.ev c)
 | .fieldAddr t x f=>iU (eY P s.o t (s.ev x) f)
 | .indexAddr t x i=>eX P s.o t (s.ev x) (s.ev i)
 | .extract x i=>match s.ev x with
   | .bM vs=>match vs[i]? with
     |some v=>one v
     |none=>none
   |_=>none
 | .call c=>match c.callee with
   | .builtin b=>l4 P s fr b c.args.toList c.argTypes
   |_=>none
 | .slice t x lo hi mx=>mA P s.o t (s.ev x) (lo.map s.ev) (hi.map s.ev) (mx.map s.ev)
 | .field t x f=>iU (oe P t (s.ev x) f)
 | .index t x i=>iU (og P t (s.ev x) (s.ev i))
 | .typeAssert x _ t ok=>iU (lz P t ok (s.ev x))
 | .makeMap t none=>jj P fr t
 | .lookup t m k ok=>iG P s.o t (s.ev m) (s.ev k) ok
 | .mapUpdate t m k v=>fe P s.o t (s.ev m) (s.ev k) (s.ev v)
 | .insert t m k v=>fe P s.o t (s.ev m) (s.ev k) (s.ev v)
 | .range t x=>jk P s.o fr t (s.ev x)
 | .next x str=>ky s.o (s.ev x) str
 | .entry x=>jl s.o (s.ev x)
 |_=>none
section
variable {P:Program}{s:S}{fr:Nat}{v:V}{Δ:List (Nat×aa)}{rd:List Nat}{o:Nat->aa}{K:V->List (Nat×aa)->List Nat->Prop}
theorem mN{α:Type}{c:Bool}{x y:α}(h:zr c x=some y):c=true/\x=y:=by
 unfold zr at h;split at h
 ·injection h with h;exact⟨by assumption,h⟩
 ·cases h
theorem gN{x:V}{r:eP}(h:one x=some r):r=(x,[],[]):=by unfold one at h;injection h with h;exact h.symm
theorem ec{x:Option V}{r:eP}(h:iU x=some r):∃v,x=some v/\r=(v,[],[]):=by
 unfold iU at h;split at h
 ·exact⟨_,rfl,gN h⟩
 ·cases h
theorem vf{x:V}{es:List D}{rd:List Nat}(h:lZ o x=some (es,rd)):dF o x=some es/\rd=x.ids:=by
 unfold lZ at h
 split at h
 ·simp at h;obtain⟨rfl,rfl⟩:=h;exact⟨rfl,rfl⟩
 ·simp at h;obtain⟨rfl,rfl⟩:=h;exact⟨rfl,rfl⟩
 ·simp at h;obtain⟨rfl,rfl⟩:=h;exact⟨rfl,rfl⟩
 ·split at h
  ·rename_i ho
   split at h
   ·rename_i e;simp at h;obtain⟨rfl,rfl⟩:=h;exact⟨by simp[dF,dn,ho,e],rfl⟩
   ·cases h
  ·rename_i ho
   split at h
   ·rename_i e;simp at h;obtain⟨rfl,rfl⟩:=h;exact⟨by simp[dF,dn,ho,e],rfl⟩
   ·cases h
  ·cases h
 ·cases h
theorem xW{op:BinOp}{k:IntKind}{a b:Int}{v:V}(h:tj op k a b=some v){K:V->Prop}(hK:K v):A9 op k a b K:=by
 cases op<;>simp only[tj]at h<;>simp only[A9]
 case quo=>split at h
           ·cases h
           ·injection h with h;subst h;exact⟨by assumption,hK⟩
 case rem=>split at h
           ·cases h
           ·injection h with h;subst h;exact⟨by assumption,hK⟩
 case and=>simp only[Option.map_eq_some_iff]at h;obtain⟨r,h1,rfl⟩:=h;exact⟨r,h1,hK⟩
 case or=>simp only[Option.map_eq_some_iff]at h;obtain⟨r,h1,rfl⟩:=h;exact⟨r,h1,hK⟩
 case xor=>simp only[Option.map_eq_some_iff]at h;obtain⟨r,h1,rfl⟩:=h;exact⟨r,h1,hK⟩
 case andNot=>simp only[Option.map_eq_some_iff]at h;obtain⟨r,h1,rfl⟩:=h;exact⟨r,h1,hK⟩
 case shl=>cases h
 case shr=>cases h
 case eql=>injection h with h;subst h;exact⟨_,rfl,hK⟩
 case neq=>injection h with h;subst h;exact⟨_,rfl,hK⟩
 case lss=>injection h with h;subst h;exact⟨_,rfl,hK⟩
 case leq=>injection h with h;subst h;exact⟨_,rfl,hK⟩
 case gtr=>injection h with h;subst h;exact⟨_,rfl,hK⟩
 case geq=>injection h with h;subst h;exact⟨_,rfl,hK⟩
 all_goals (injection h with h;subst h;exact hK)
theorem xX{op:BinOp}{t:TypeId}{x y v:V}(h:rv P op t x y=some v){K:V->Prop}(hK:K v):yN P op t x y K:=by
 unfold rv at h
 unfold yN
 split at h
 ·split at h
  ·exact⟨by assumption,xW h hK⟩
  ·cases h
 ·have hb:aB P t=true->P.underlying t=some .bool:=by
   unfold aB;intro h;split at h
   ·assumption
   ·cases h
  split at h
  ·obtain⟨h1,rfl⟩:=mN h;exact⟨hb h1,hK⟩
  ·obtain⟨h1,rfl⟩:=mN h;exact⟨hb h1,hK⟩
  ·cases h
 ·split at h
  ·injection h with h;subst h;exact hK
  ·injection h with h;subst h;exact hK
  ·cases h
 ·cases h
theorem vg{c a b v:V}(h:lY c a b=some v){K:V->Prop}(hK:K v):sB c a b K:=by
 unfold lY at h
 unfold sB
 split at h
 ·injection h with h;subst h;exact⟨fun _=>hK,(fun h=>by cases h)⟩
 ·injection h with h;subst h;exact⟨(fun h=>by cases h),fun _=>hK⟩
 ·cases h
theorem oI{x y:V}{q:Nat}(h:kC o x q=some y):(∃id off,x= .ptr id off/\(o id).bd=true/\y= .ptr id (off+q))\/(∃cs off,x= .pp cs off/\y= .pp cs (off+q))\/
 (∃id ep j sz off,x= .pe id ep j sz off/\(o id).aO=some ep/\y= .pe id ep j sz (off+q)):=by
 unfold kC at h
 split at h
 ·obtain⟨h1,rfl⟩:=mN h;exact .inl ⟨_,_,rfl,h1,rfl⟩
 ·injection h with h;exact .inr (.inl ⟨_,_,rfl,h.symm⟩)
 ·split at h
  ·injection h with h;exact .inr (.inr ⟨_,_,_,_,_,rfl,by assumption,h.symm⟩)
  ·cases h
 ·cases h
theorem kR{e:TypeId}{es:List D}{i:Int}{rd:List Nat}{r:eP}(h:qo P e es i rd=some r):
 0<=i/\∃y,es[i.toNat]? =some y/\y.cells.length=P.cellsOf e/\0<P.cellsOf e/\r=(.pp y.cells 0,[],rd):=by
 unfold qo at h
 split at h
 ·rename_i h0
  split at h
  ·rename_i y hy
   obtain⟨h1,rfl⟩:=mN h
   simp only[Bool.and_eq_true,beq_iff_eq,decide_eq_true_eq]at h1
   exact⟨h0,y,hy,h1.1,h1.2,rfl⟩
  ·cases h
 ·cases h
theorem nD{t:TypeId}{x ix:V}(h:eX P o t x ix=some (v,Δ,rd))(hK:K v Δ rd):fP P o t x ix fun v rd=>K v [] rd:=by
 unfold eX at h
 unfold fP
 split at h
 ·simp only
  split at h
  ·rename_i e ht
   simp only[ht]
   split at h
   ·obtain⟨h0,y,h1,h2,h3,h4⟩:=kR h
    simp only[Prod.mk.injEq]at h4;obtain⟨rfl,rfl,rfl⟩:=h4
    exact⟨h0,y,h1,h2,h3,hK⟩
   ·obtain⟨h0,y,h1,h2,h3,h4⟩:=kR h
    simp only[Prod.mk.injEq]at h4;obtain⟨rfl,rfl,rfl⟩:=h4
    exact⟨h0,y,h1,h2,h3,hK⟩
   ·split at h
    ·rename_i ho
     split at h
     ·rename_i hc
      simp only[Option.some.injEq,Prod.mk.injEq]at h;obtain⟨rfl,rfl,rfl⟩:=h
      simp only[ho]
      exact⟨hc.1,hc.2.1,hc.2.2.1,hc.2.2.2.1,hc.2.2.2.2,hK⟩
     ·cases h
    ·rename_i ho
     split at h
     ·rename_i hc
      obtain⟨h0,y,h1,h2,h3,h4⟩:=kR h
      simp only[Prod.mk.injEq]at h4;obtain⟨rfl,rfl,rfl⟩:=h4
      simp only[ho]
      exact⟨hc,h0,y,h1,h2,h3,hK⟩
     ·cases h
    ·cases h
   ·cases h
  ·rename_i ht
   simp only[ht]
   split at h
   ·rename_i n e ha
    simp only[ha]
    split at h
    ·rename_i hc
     simp only[Option.bind_eq_some_iff]at h
     obtain⟨y,hy,h1⟩:=h
     have h1:=gN h1
     simp only[Prod.mk.injEq]at h1;obtain⟨rfl,rfl,rfl⟩:=h1
     refine⟨hc.1,hc.2.1,hc.2.2, ?_⟩
     rcases oI hy with⟨_,_,rfl,h2,rfl⟩|⟨_,_,rfl,rfl⟩|⟨_,_,_,_,_,rfl,h2,rfl⟩
     ·exact⟨h2,hK⟩
     ·exact hK
     ·exact⟨h2,hK⟩
    ·cases h
   ·cases h
 ·cases h
theorem nE{t:TypeId}{x y:V}{f:Nat}(h:eY P o t x f=some y){K:V->Prop}(hK:K y):fQ P o t x f K:=by
 unfold eY at h
 unfold fQ
 split at h
 ·rename_i q hq
  simp only[hq]
  rcases oI h with⟨_,_,rfl,h2,rfl⟩|⟨_,_,rfl,rfl⟩|⟨_,_,_,_,_,rfl,h2,rfl⟩
  ·exact⟨h2,hK⟩
  ·exact hK
  ·exact⟨h2,hK⟩
 ·cases h
theorem xY{t:TypeId}{x:V}(h:ve P t o x=some (v,Δ,rd))(hK:K v Δ rd):yO P t o x fun v rd=>K v [] rd:=by
 unfold ve at h
 unfold yO
 split at h
 ·rename_i e hu
  simp only[hu]
  split at h
  ·rename_i es qp hl
   simp only[Option.some.injEq,Prod.mk.injEq]at h;obtain⟨rfl,rfl,rfl⟩:=h
   unfold lZ at hl
   split at hl
   ·simp at hl;obtain⟨rfl,rfl⟩:=hl;exact hK
   ·simp at hl;obtain⟨rfl,rfl⟩:=hl;exact hK
   ·simp at hl;obtain⟨rfl,rfl⟩:=hl;exact hK
   ·split at hl
    ·rename_i ho
     split at hl
     ·rename_i hc;simp at hl;obtain⟨rfl,rfl⟩:=hl;simp only[ho];exact⟨hc,hK⟩
     ·cases hl
    ·rename_i ho
     split at hl
     ·rename_i hc;simp at hl;obtain⟨rfl,rfl⟩:=hl;simp only[ho];exact⟨hc,hK⟩
     ·cases hl
    ·cases hl
   ·cases hl
  ·cases h
 ·rename_i hu
  simp only[hu]
  split at h
  ·have h1:=gN h;simp only[Prod.mk.injEq]at h1;obtain⟨rfl,rfl,rfl⟩:=h1;exact hK
  ·cases h
 ·rename_i hu
  simp only[hu]
  have h1:=gN h;simp only[Prod.mk.injEq]at h1;obtain⟨rfl,rfl,rfl⟩:=h1;exact hK
 ·cases h
theorem vh{t:TypeId}{x:V}(h:jy P o t x=some (v,Δ,rd))(hK:K v Δ rd):sC P o t x fun v rd=>K v [] rd:=by
 unfold jy at h
 unfold sC
 split at h
 ·split at h
  ·rename_i ho
   split at h
   ·rename_i hg
    simp only[Option.some.injEq,Prod.mk.injEq]at h;obtain⟨rfl,rfl,rfl⟩:=h
    simp only[ho];exact⟨_,hg,hK⟩
   ·cases h
  ·cases h
 ·split at h
  ·rename_i hg
   simp only[Option.some.injEq,Prod.mk.injEq]at h;obtain⟨rfl,rfl,rfl⟩:=h
   exact⟨_,hg,hK⟩
  ·cases h
 ·split at h
  ·rename_i ho
   split at h
   ·rename_i hc
    split at h
    ·rename_i e he
     split at h
     ·rename_i hg
      simp only[Option.some.injEq,Prod.mk.injEq]at h;obtain⟨rfl,rfl,rfl⟩:=h
      simp only[ho];exact⟨hc.1,hc.2,e,he,_,hg,hK⟩
     ·cases h
    ·cases h
   ·cases h
  ·cases h
 ·cases h
theorem tl{t:TypeId}{x y:V}(h:mM P o t x y=some (v,Δ,rd))(hK:K v Δ rd):od P o t x y fun Δ rd=>K (.bM []) Δ rd:=by
 unfold mM at h
 unfold od
 split at h
 ·split at h
  ·rename_i ho
   split at h
   ·rename_i hg
    simp only[Option.some.injEq,Prod.mk.injEq]at h;obtain⟨rfl,rfl,rfl⟩:=h
    simp only[ho];exact⟨_,hg,hK⟩
   ·cases h
  ·cases h
 ·split at h
  ·rename_i ho
   split at h
   ·rename_i hc
    split at h
    ·rename_i e z he hz
     split at h
     ·rename_i hl
      split at h
      ·rename_i e' hp
       simp only[Option.some.injEq,Prod.mk.injEq]at h;obtain⟨rfl,rfl,rfl⟩:=h
       simp only[ho]
       exact⟨hc.1,hc.2,e,he,z,hz,hl.1,hl.2.1,hl.2.2,e',hp,hK⟩
      ·cases h
     ·cases h
    ·cases h
   ·cases h
  ·cases h
 ·cases h
theorem mO{t:TypeId}{len:Nat}{parts:List (Nat×V)}(h:eA P o fr t len parts=some (v,Δ,rd))(hK:K v Δ rd):ff P o fr t len parts K:=by
 unfold eA at h
 unfold ff
 split at h
 ·rename_i e ht
  simp only[ht]
  split at h
  ·rename_i hc
   simp only[Option.some.injEq,Prod.mk.injEq]at h;obtain⟨rfl,rfl,rfl⟩:=h
   exact .inl ⟨hc.1,by simpa using hc.2.1,hc.2.2,hK⟩
  split at h
  ·rename_i hc
   refine .inr ?_
   split at h
   ·rename_i ds hd
    split at h
    ·rename_i hw
     simp only[Option.some.injEq,Prod.mk.injEq]at h;obtain⟨rfl,rfl,rfl⟩:=h
     refine⟨hc.1,hc.2.1,hc.2.2.1,hc.2.2.2.1,hc.2.2.2.2,ds,hd,fun x hx=> ?_,hK⟩
     simpa using List.all_eq_true.1 hw x hx
    ·cases h
   ·cases h
  ·cases h
 ·cases h
theorem nF{t:TypeId}{l c:V}(h:iT P fr t l c=some (v,Δ,rd))(hK:K v Δ rd):fR P fr t l c fun v Δ=>K v Δ []:=by
 unfold iT at h
 unfold fR
 split at h
 ·rename_i e ht
  split at h
  ·split at h
   ·rename_i hc
    split at h
    ·rename_i x hx
     simp only[Option.some.injEq,Prod.mk.injEq]at h;obtain⟨rfl,rfl,rfl⟩:=h
     simp only[ht]
     exact⟨hc.1,hc.2.1,hc.2.2.1,hc.2.2.2.1,hc.2.2.2.2,x,hx,hK⟩
    ·cases h
   ·cases h
  ·cases h
 ·cases h
theorem rz{ts:Array TypeId}{x y:V}(h:l0 P o fr ts x y=some (v,Δ,rd))(hK:K v Δ rd):ly P o fr ts x y K:=by
 unfold l0 at h
 unfold ly
 split at h
 ·rename_i t t' uM
  simp only[uM]
  split at h
  ·rename_i SW
   refine⟨SW, ?_⟩
   split at h
   ·rename_i e new qp ht hl
    obtain⟨q9,rfl⟩:=vf hl
    simp only[ht]
    split at h
    ·rename_i hc
     refine⟨new,q9,hc.1,hc.2.1,fun z hz=>by simpa using List.all_eq_true.1 hc.2.2 z hz, ?_⟩
     split at h
     ·split at h
      ·rename_i q8
       simp only[Option.some.injEq,Prod.mk.injEq]at h;obtain⟨rfl,rfl,rfl⟩:=h
       exact⟨q8.1,q8.2,hK⟩
      ·cases h
     ·split at h
      ·rename_i v9
       refine⟨fun z hz=>by simpa using List.all_eq_true.1 v9 z hz, ?_⟩
       split at h
       ·rename_i hn
        simp only[Option.some.injEq,Prod.mk.injEq]at h;obtain⟨rfl,rfl,rfl⟩:=h
        rw[if_pos hn];exact hK
       ·rename_i hn
        split at h
        ·rename_i q8
         simp only[Option.some.injEq,Prod.mk.injEq]at h;obtain⟨rfl,rfl,rfl⟩:=h
         rw[if_neg hn];exact⟨q8.1,q8.2,hK⟩
        ·cases h
      ·cases h
     ·split at h
      ·rename_i ho
       split at h
       ·rename_i q8
        simp only[Option.some.injEq,Prod.mk.injEq]at h;obtain⟨rfl,rfl,rfl⟩:=h
        simp only[ho]
        exact⟨q8.1,q8.2.1,q8.2.2.1,q8.2.2.2.1,q8.2.2.2.2,hK⟩
       ·cases h
      ·cases h
     ·cases h
    ·cases h
   ·cases h
  ·cases h
 ·cases h
theorem oJ{x y:V}(h:fJ o x=some y){K:V->Prop}(hK:K y):g8 o x K:=by
 unfold fJ at h
 unfold g8
 split at h
 ·obtain⟨h2,rfl⟩:=mN h;exact⟨h2,hK⟩
 ·injection h with h;subst h;exact hK
 ·injection h with h;subst h;exact hK
 ·cases h
theorem zu{op:UnOp}{x y:V}(h:N8 op x=some y){K:V->Prop}(hK:K y):GG op x K:=by
 unfold N8 at h
 unfold GG
 split at h
 ·injection h with h;subst h;simp only;rw[Int.zero_sub];exact hK
 ·injection h with h;subst h;exact hK
 ·cases h
theorem l5{m:Bool}{x y v:V}(h:l3 m x y=some v){K:V->Prop}(hK:K v):jU m [x,y] K:=by
 unfold l3 at h
 unfold jU
 split at h
 ·split at h
  ·injection h with h;subst h;exact⟨by assumption,hK⟩
  ·cases h
 ·cases h
theorem tn{op:Op}(h:eF P s fr op=some (v,Δ,rd))(hK:K v Δ rd):Cv P s fr op K:=by
 cases op<;>simp only[eF]at h<;>simp only[Cv]<;>try (cases h;done)
 case move x=>have h:=gN h;simp only[Prod.mk.injEq]at h;obtain⟨rfl,rfl,rfl⟩:=h;exact hK
 case assign x=>have h:=gN h;simp only[Prod.mk.injEq]at h;obtain⟨rfl,rfl,rfl⟩:=h;exact hK
 case pick c a b=>
  obtain⟨x,h1,h⟩:=ec h;simp only[Prod.mk.injEq]at h;obtain⟨rfl,rfl,rfl⟩:=h
  exact vg h1 hK
 case alloc t=>
  split at h
  ·rename_i cs hz;simp only[Option.some.injEq,Prod.mk.injEq]at h;obtain⟨rfl,rfl,rfl⟩:=h;exact⟨cs,hz,hK⟩
  ·cases h
 case box t x=>
  split at h
  ·rename_i cs hz;simp only[Option.some.injEq,Prod.mk.injEq]at h;obtain⟨rfl,rfl,rfl⟩:=h;exact⟨cs,hz,hK⟩
  ·cases h
 case build t parts=>
  obtain⟨x,h1,h⟩:=ec h;simp only[Prod.mk.injEq]at h;obtain⟨rfl,rfl,rfl⟩:=h
  unfold ry at h1
  split at h1
  ·rename_i z pl hz hp
   split at h1
   ·rename_i cs hc;injection h1 with h1;subst h1;exact⟨z,pl,cs,hz,hp,hc,hK⟩
   ·cases h1
  ·cases h1
 case buildSlice t len parts=>exact mO h hK
 case load t x=>exact vh h hK
 case store t x y=>exact tl h hK
 case nilCheck x=>
  obtain⟨y,h1,h⟩:=ec h;simp only[Prod.mk.injEq]at h;obtain⟨rfl,rfl,rfl⟩:=h
  exact oJ h1 hK
 case binOp op t x y yt=>
  unfold cp at h
  split at h
  ·rename_i z h1
   have h:=gN h;simp only[Prod.mk.injEq]at h;obtain⟨rfl,rfl,rfl⟩:=h
   exact .inl (xX h1 hK)
  ·right;simp only[h,cC];exact hK
 case unOp op t x=>
  obtain⟨z,h1,h⟩:=ec h;simp only[Prod.mk.injEq]at h;obtain⟨rfl,rfl,rfl⟩:=h
  unfold tk at h1
  split at h1
  ·rename_i hx;injection h1 with h1;subst h1;exact .inr ⟨rfl,hx,hK⟩
  ·exact .inl (zu h1 hK)
 case slice t x lo hi mx=>simp only[h,cC];exact hK
 case field t x f=>
  obtain⟨z,h1,h⟩:=ec h;simp only[Prod.mk.injEq]at h;obtain⟨rfl,rfl,rfl⟩:=h
  simp only[h1,cC,Option.map_some];exact hK
 case typeAssert x xt t ok=>
  obtain⟨z,h1,h⟩:=ec h;simp only[Prod.mk.injEq]at h;obtain⟨rfl,rfl,rfl⟩:=h
  simp only[h1,cC,Option.map_some];exact hK
 case makeMap t r=>
  cases r with
  |none=>simp only[h,cC];exact hK
  |some x=>cases h
 case lookup t m k ok=>simp only[h,cC];exact hK
 case mapUpdate t m k v=>simp only[h,cC];exact hK
 case insert t m k v=>simp only[h,cC];exact hK
 case index t x i=>
  obtain⟨z,h1,h⟩:=ec h;simp only[Prod.mk.injEq]at h;obtain⟨rfl,rfl,rfl⟩:=h
  simp only[h1,cC,Option.map_some];exact hK
 case convert u t x=>
  split at h
  ·rename_i d k k' n hu hk hx
   have h:=gN h;simp only[Prod.mk.injEq]at h;obtain⟨rfl,rfl,rfl⟩:=h
   exact⟨by rw[hu];rfl,by simp only[hk,hx];exact hK⟩
  ·cases h
 case makeInterface t x=>
  obtain⟨z,h1,h⟩:=ec h;simp only[Prod.mk.injEq]at h;obtain⟨rfl,rfl,rfl⟩:=h
  obtain⟨h2,rfl⟩:=mN h1
  refine⟨?_, ?_⟩
  ·unfold af at h2
   cases hd:P.underlying t with
   |none=>simp[hd]at h2
   |some d=>exact⟨d,rfl,by cases d<;>simp_all⟩
  ·split
   ·rename_i y hy;simp only[hy]at hK;exact hK
   ·rename_i hy
    split at hK
    ·rename_i y SX;exact absurd SX (hy y)
    ·exact hK
 case makeFunc fn first cap=>have h:=gN h;simp only[Prod.mk.injEq]at h;obtain⟨rfl,rfl,rfl⟩:=h;exact hK
 case makeSlice t l c=>
  exact nF h hK
 case fieldAddr t x f=>
  obtain⟨z,h1,h⟩:=ec h;simp only[Prod.mk.injEq]at h;obtain⟨rfl,rfl,rfl⟩:=h
  exact nE h1 hK
 case indexAddr t x i=>
  exact nD h hK
 case extract x i=>
  split at h
  ·rename_i vs hv
   split at h
   ·rename_i u hu
    have h:=gN h;simp only[Prod.mk.injEq]at h;obtain⟨rfl,rfl,rfl⟩:=h
    simp only[hv];exact⟨_,hu,hK⟩
   ·cases h
  ·cases h
 case call c=>
  obtain⟨zf,args,ts⟩:=c
  cases zf<;>simp only at h|- <;>try (cases h;done)
  rename_i b
  unfold l4 at h
  unfold oh
  split at h
  ·rename_i x ha
   simp only[ha]
   split at h
   ·rename_i t uM;exact⟨t,uM,xY h hK⟩
   ·cases h
  ·rename_i x y ha
   simp only[ha]
   exact rz h hK
  ·rename_i x y ha
   simp only[ha]
   obtain⟨z,h1,h⟩:=ec h;simp only[Prod.mk.injEq]at h;obtain⟨rfl,rfl,rfl⟩:=h
   exact l5 h1 hK
  ·rename_i x y ha
   simp only[ha]
   obtain⟨z,h1,h⟩:=ec h;simp only[Prod.mk.injEq]at h;obtain⟨rfl,rfl,rfl⟩:=h
   exact l5 h1 hK
  ·rename_i x y z ha
   simp only[ha]
   obtain⟨v0,h1,h⟩:=ec h;simp only[Prod.mk.injEq]at h;obtain⟨rfl,rfl,rfl⟩:=h
   simp only[h1,cC,Option.map_some];exact hK
  ·rename_i x y ha
   simp only[ha,h,cC];exact hK
  ·rename_i x y ha
   simp only[ha]
   split at h
   ·rename_i t ht;exact⟨t,ht,by simp only[h,cC];exact hK⟩
   ·cases h
  ·cases h
 case range t x=>simp only[h,cC];exact hK
 case next x str=>left;simp only[h,cC];exact hK
 case entry x=>simp only[h,cC];exact hK
end
end Go.Proofs.YtpkobkdgcanmjaaGreat
namespace Go.Proofs.YtpkobkdgcanmjaaGreat
def oK(P:Program)(g:FuncId)(ds:List D)(o o1 oa:Nat->aa)(K:V->(Nat->aa)->Prop)(X:V->(Nat->aa)->Prop):Prop:=
 ∃out,bU P g ds out/\((match out with| .ret rs=>K (fY rs) o1| .ba x=>X (.d x) o1)\/(out.flat=true/\match out with| .ret rs=>K (fY rs) o| .ba x=>X (.d x) o)\/(out.js=true/\match out with| .ret rs=>K (fY rs) oa| .ba x=>X (.d x) oa))
def ng(P:Program)(g:FuncId)(args:List V)(o:Nat->aa)(nx:Nat)(K:V->(Nat->aa)->Nat->Prop)(X:V->(Nat->aa)->Nat->Prop):Prop:=ju P g args o nx K X
theorem ju.mono {P:Program}{g:FuncId}{args:List V}{o:Nat->aa}{nx:Nat}{K X K' X':V->(Nat->aa)->Nat->Prop}(hK:∀v o n,K v o n->K' v o n)(hX:∀v o n,X v o n->X' v o n)(h:ju P g args o nx K X):ju P g args o nx K' X':=
 h.imp (fm.mono hK hX) (fm.mono hK hX)
@[congr] theorem CS {P:Program} {g g':FuncId} {ds Hb:List D} {o o1 oa:Nat->aa} {K X} (h:g=g') (h':ds=Hb):oK P g ds o o1 oa K X=oK P g' Hb o o1 oa K X:=by subst h;subst h';rfl
@[congr] theorem CT {P:Program} {g g':FuncId} {bB Hc:List V} {o:Nat->aa} {nx:Nat} {K X} (h:g=g') (h':bB=Hc):ng P g bB o nx K X=ng P g' Hc o nx K X:=by subst h;subst h';rfl
def CU(P:Program)(g:FuncId)(args:List V)(o:Nat->aa)(nx:Nat)(K X:V->(Nat->aa)->Nat->Prop):Prop:=
 (∃ds,bA o args=some ds/\oK P g ds o (put o (cg o (V.aQ args))) (put o (mz o (V.aQ args))) (fun v o'=>K v o' (nx+1)) (fun v o'=>X v o' (nx+1)))\/fm P g args o nx K X
def yH(P:Program)(s:S)(o:bE)(X:V->S->Prop)(K:S->Prop):Prop:=
 match o.op with
 | .call c=>match c.callee with
   | .value f=>match s.ev f with
     | .func (.func g) first cap=>match bA s.o (first++c.args.toList.map s.ev++cap)with
       |some ds=>oK P g ds s.o (put s.o (cg s.o (V.aQ (first++c.args.toList.map s.ev++cap)))) (put s.o (mz s.o (V.aQ (first++c.args.toList.map s.ev++cap)))) (fun v o'=>K ⟨aN s.env o.dst v,o',s.nx+1⟩) (fun v o'=>X v ⟨s.env,o',s.nx+1⟩)\/
        ng P g (first++c.args.toList.map s.ev++cap) s.o s.nx (fun v o' nx'=>K ⟨aN s.env o.dst v,o',nx'⟩) (fun v o' nx'=>X v ⟨s.env,o',nx'⟩)
       |none=>ng P g (first++c.args.toList.map s.ev++cap) s.o s.nx (fun v o' nx'=>K ⟨aN s.env o.dst v,o',nx'⟩) (fun v o' nx'=>X v ⟨s.env,o',nx'⟩)
     | .jT id=>dT P id (c.args.toList.map s.ev) s.o s.nx (fun v o' nx'=>K ⟨aN s.env o.dst v,o',nx'⟩) (fun v o' nx'=>X v ⟨s.env,o',nx'⟩)
     |_=>False
   | .invoke r m=>match oz P m (s.ev r)with
     |some (g,y)=>CU P g (y::c.args.toList.map s.ev) s.o s.nx (fun v o' nx'=>K ⟨aN s.env o.dst v,o',nx'⟩) (fun v o' nx'=>X v ⟨s.env,o',nx'⟩)
     |none=>False
   |_=>match eF P s s.nx o.op with
    |some (v,Δ,_)=>K ⟨aN s.env o.dst v,put s.o Δ,s.nx+1⟩
    |none=>False
 | .panic x=>match s.ev x with
   | .d (.iface t y)=>X (.d (.iface t y)) s
   | .iface t y=>X (.iface t y) s
   |_=>False
 | .next x str=>match kz s.o (s.ev x)with
   |some (id,l)=>str=false/\vY id l fun v Δ _=>K ⟨aN s.env o.dst v,put s.o Δ,s.nx+1⟩
   |none=>match eF P s s.nx o.op with
    |some (v,Δ,_)=>K ⟨aN s.env o.dst v,put s.o Δ,s.nx+1⟩
    |none=>False
 |op=>match eF P s s.nx op with
  |some (v,Δ,_)=>K ⟨aN s.env o.dst v,put s.o Δ,s.nx+1⟩
  |none=>False
def kS(P:Program)(X:V->S->Prop)(K:S->Prop):List bE->S->Prop
 |[],s=>K s
 |o::l,s=>match o.gd with
  |none=>yH P s o X (kS P X K l)
  |some (d,want)=>match s.env d with
   | .d (.bool b)=>if b=want then yH P s o X (kS P X K l)else kS P X K l ⟨aN s.env o.dst (.bM []),s.o,s.nx+1⟩
   | .bM []=>kS P X K l ⟨aN s.env o.dst (.bM []),s.o,s.nx+1⟩
   |_=>False
def zw(b:Nat)(body:(fl->S->Prop)->S->Prop)(Q:fl->S->Prop)(s:S):Prop:=
 ∃ (J:Nat->S->Prop),(∃m s1,dq b s s1/\J m s1)/\∀m s0,J m s0->body (fun e s=>match e with| .normal=>∃m' s1,m'<m/\dq b s s1/\J m' s1|e=>Q e s) s0
@[congr] theorem CV {b:Nat} {body Q} {s s':S} (h:s=s'):zw b body Q s=zw b body Q s':=by subst h;rfl
def l6(t:Bool)(A B:Prop):Prop:=(t=true->A)/\(t=false->B)
@[congr] theorem CW {t t':Bool} {A B:Prop} (h:t=t'):l6 t A B=l6 t' A B:=by subst h;rfl
@[simp] theorem oL (A B:Prop):l6 true A B=A:=by simp[l6]
@[simp] theorem nh (A B:Prop):l6 false A B=B:=by simp[l6]
section
variable {P:Program}{n b:Nat}
theorem wo{s:S}{o:bE}{o':Oper}{X X':V->S->Prop}{K K':S->Prop}(cO:o'.op=o.op)(b7:o'.dst=o.dst)(hd:eJ n o'.dst)(hK:∀s,K s->K' s)(hX:∀v s,X v s->X' v s)(h:yH P s o X K):NZ P n s o' X' K':=by
 refine⟨hd, ?_⟩
 rw[b7,cO]
 unfold yH at h
 have hs:∀ {op:Op},(match eF P s s.nx op with|some (v,Δ,_)=>K ⟨aN s.env o.dst v,put s.o Δ,s.nx+1⟩|none=>False)->Cv P s s.nx op fun v Δ _=>K' ⟨aN s.env o.dst v,put s.o Δ,s.nx+1⟩:=by
  intro op h
  split at h
  ·rename_i v Δ rd he;exact tn he (hK _ h)
  ·exact h.elim
 split at h
 ·rename_i c hc
  split at h
  ·rename_i f da
   simp only[hc,da]
   split at h
   ·rename_i g first cap hf
    unfold s6
    simp only[hf]
    unfold oy
    split at h
    ·rename_i ds dB
     rcases h with⟨out,hP,h|⟨lh,h⟩|⟨lh,h⟩⟩|h
     ·refine .inl ⟨ds,out,dB,hP, ?_⟩
      cases out<;>first|exact hK _ h|exact hX _ _ h
     ·refine .inr (.inl ⟨ds,out,dB,hP,lh, ?_⟩)
      cases out<;>first|exact hK _ h|exact hX _ _ h
     ·refine .inr (.inr (.inl ⟨ds,out,dB,hP,lh, ?_⟩))
      cases out<;>first|exact hK _ h|exact hX _ _ h
     ·exact .inr (.inr (.inr (ju.mono (fun v o n h=>hK _ h) (fun v o n h=>hX _ _ h) h)))
    ·exact .inr (.inr (.inr (ju.mono (fun v o n h=>hK _ h) (fun v o n h=>hX _ _ h) h)))
   ·rename_i id hf
    unfold s6
    simp only[hf]
    exact dT.mono (fun v o n h=>hK _ h) (fun v o n h=>hX _ _ h) h
   ·exact h.elim
  ·rename_i r m da
   simp only[hc,da]
   split at h
   ·rename_i g y hr
    simp only[hr]
    unfold oy
    rcases h with⟨ds,dB,out,hP,h|⟨lh,h⟩|⟨lh,h⟩⟩|h
    ·refine .inl ⟨ds,out,dB,hP, ?_⟩
     cases out<;>first|exact hK _ h|exact hX _ _ h
    ·refine .inr (.inl ⟨ds,out,dB,hP,lh, ?_⟩)
     cases out<;>first|exact hK _ h|exact hX _ _ h
    ·refine .inr (.inr (.inl ⟨ds,out,dB,hP,lh, ?_⟩))
     cases out<;>first|exact hK _ h|exact hX _ _ h
    ·exact .inr (.inr (.inr (.inl (fm.mono (fun v o n h=>hK _ h) (fun v o n h=>hX _ _ h) h))))
   ·exact h.elim
  ·rename_i da hinv
   rw[hc]at h|-
   obtain⟨zf,args,ts⟩:=c
   cases zf with
   |value f=>exact absurd rfl (da f)
   |invoke r m=>exact absurd rfl (hinv r m)
   |_=>exact hs h
 ·rename_i x hx
  simp only[hx]
  split at h
  ·rename_i hv;simp only[hv];exact hX _ _ h
  ·rename_i hv;simp only[hv];exact hX _ _ h
  ·exact h.elim
 ·rename_i x str hx
  rw[hx]at h|-
  split at h
  ·rename_i id l hl
   exact .inr ⟨h.1,id,l,hl,fun e=>hK _ (h.2.1 e),fun i k x e=>hK _ (h.2.2 i k x e)⟩
  ·exact hs h
 ·rename_i hc hp pM
  have h2:=hs h
  cases hh:o.op<;>first
   |exact absurd hh (hc _)
   |exact absurd hh (hp _)
   |exact absurd hh (pM _ _)
   |(rw[hh]at h2;exact h2)
theorem fK{ops:Array Oper}{X X':V->S->Prop}{K K':S->Prop}(hK:∀s,K s->K' s)(hX:∀v s,X v s->X' v s):∀ (l:List Oper) (l':List bE) (s:S),gX n ops l=some l'->kS P X K l' s->rj P n ops X' K' l s
 |[],l',s,h,hr=>by simp[gX]at h;subst h;exact hK _ hr
 |o::l,l',s,h,hr=>by
  simp only[gX]at h
  split at h
  ·rename_i x xs hx Cz
   injection h with h;subst h
   unfold yK at hx
   split at hx
   ·rename_i hd
    have b7:eJ n o.dst:=by
     unfold uH at hd;unfold eJ
     split at hd<;>simp_all
    simp only[rj,ri]
    cases hg:o.guard with
    |none=>
     simp only[hg]at hx
     injection hx with hx;subst hx
     exact wo rfl rfl b7 (fun s hs=>fK hK hX l xs s Cz hs) hX hr
    |some p=>
     obtain⟨j,want⟩:=p
     simp only[hg]at hx
     cases CX:mZ ops j with
     |none=>simp[CX]at hx
     |some d=>
      simp only[CX]at hx
      injection hx with hx;subst hx
      simp only
      simp only[kS]at hr
      split at hr
      ·rename_i t ht
       simp only[CX,ht]
       split at hr
       ·rename_i e
        exact⟨fun _=>wo rfl rfl b7 (fun s hs=>fK hK hX l xs s Cz hs) hX hr,fun h=>absurd e h⟩
       ·rename_i e
        exact⟨fun h=>absurd h e,fun _=>⟨b7,fK hK hX l xs _ Cz hr⟩⟩
      ·rename_i ht
       simp only[CX,ht]
       exact⟨b7,fK hK hX l xs _ Cz hr⟩
      ·exact hr.elim
   ·cases hx
  ·cases h
end
end Go.Proofs.YtpkobkdgcanmjaaGreat
namespace Go.Proofs.YtpkobkdgcanmjaaGreat
mutual
def V.refs:V->List Nat
 | .ptr id _=>[id]| .osl id _=>[id]| .pe id _ _ _ _=>[id]| .n5 id _ _=>[id]| .mp id=>[id]| .jT id=>[id]
 | .agg cs=>V.ax cs
 | .bM cs=>V.ax cs
 | .func _ a b=>V.ax a++V.ax b
 | .iface _ x=>x.refs
 |_=>[]
def V.ax:List V->List Nat
 |[]=>[]
 |v::vs=>v.refs++V.ax vs
end
mutual
theorem fZ:∀ (v:V),∀id∈v.ids,id∈v.refs
 | .osl id _,j,h=>by simpa[V.ids,V.refs]using h
 | .agg cs,j,h=>by simp only[V.ids]at h;simp only[V.refs];exact gf cs j h
 | .iface _ x,j,h=>by simp only[V.ids]at h;simp only[V.refs];exact fZ x j h
 | .mp _,j,h=>by simpa[V.ids,V.refs]using h
 | .d _,_,h| .aM,_,h| .bM _,_,h| .ptr _ _,_,h| .pe _ _ _ _ _,_,h| .pp _ _,_,h| .func _ _ _,_,h| .aw,_,h| .kG _,_,h| .n5 _ _ _,_,h| .dC,_,h| .jT _,_,h=>by simp[V.ids]at h
theorem gf:∀ (vs:List V),∀id∈V.aQ vs,id∈V.ax vs
 |[],j,h=>by simp[V.aQ]at h
 |v::vs,j,h=>by
  simp only[V.aQ,V.ax,List.mem_append]at h|-
  exact h.imp (fZ v j) (gf vs j)
end
mutual
theorem cD{o o':Nat->aa}:∀ (v:V),(∀id∈v.refs,o' id=o id)->dn o' v=dn o v
 | .osl id ep,h=>by simp only[dn,h id (by simp[V.refs])]
 | .mp id,h=>by simp only[dn,h id (by simp[V.refs])]
 | .agg cs,h=>by simp only[dn,eZ cs (by simpa[V.refs]using h)]
 | .iface t x,h=>by simp only[dn,cD x (by simpa[V.refs]using h)]
 | .d _,_| .aM,_| .bM _,_| .ptr _ _,_| .pe _ _ _ _ _,_| .pp _ _,_| .func _ _ _,_| .aw,_| .kG _,_| .n5 _ _ _,_| .dC,_| .jT _,_=>by simp only[dn]
theorem eZ{o o':Nat->aa}:∀ (vs:List V),(∀id∈V.ax vs,o' id=o id)->bA o' vs=bA o vs
 |[],_=>rfl
 |v::vs,h=>by
  simp only[bA,cD v (fun id ag=>h id (by simp[V.ax,ag])),eZ vs (fun id ag=>h id (by simp[V.ax,ag]))]
end
theorem eB{o o':Nat->aa}{ids:List Nat}(h:∀id∈ids,o' id=o id):cg o' ids=cg o ids:=by
 rw[iJ,iJ]
 exact List.map_congr_left fun id ag=>by rw[h id ag]
def fL(s:S)(op:Op):List Nat:=
 match op with
 | .load _ x=>(s.ev x).refs
 | .nilCheck x=>(s.ev x).refs
 | .fieldAddr _ x _=>(s.ev x).refs
 | .indexAddr _ x _=>(s.ev x).refs
 | .store _ x v=>(s.ev x).refs++(s.ev v).refs
 | .buildSlice _ _ parts=>V.ax (parts.toList.map fun p=>s.ev p.2)
 | .binOp _ _ x y _=>(s.ev x).refs++(s.ev y).refs
 | .slice _ x _ _ _=>(s.ev x).refs
 | .lookup _ m k _=>(s.ev m).refs++(s.ev k).refs
 | .mapUpdate _ m k v=>(s.ev m).refs++((s.ev k).refs++(s.ev v).refs)
 | .insert _ m k v=>(s.ev m).refs++((s.ev k).refs++(s.ev v).refs)
 | .range _ x=>(s.ev x).refs
 | .next x _=>(s.ev x).refs
 | .entry x=>(s.ev x).refs
 | .call c=>match c.callee with
   | .builtin _=>V.ax (c.args.toList.map s.ev)
   | .value f=>match s.ev f with
     | .func _ first cap=>V.ax (first++c.args.toList.map s.ev++cap)
     |_=>[]
   |_=>[]
 |_=>[]
section
variable {P:Program}{s s':S}{fr:Nat}
theorem ni{o o':Nat->aa}(v:V)(h:∀id∈v.refs,o' id=o id):lZ o' v=lZ o v:=by
 cases v with
 |osl id ep=>simp only[lZ,h id (by simp[V.refs])]
 |d x=>cases x<;>rfl
 |_=>rfl
theorem nj{o o':Nat->aa}(v:V)(q:Nat)(h:∀id∈v.refs,o' id=o id):kC o' v q=kC o v q:=by
 cases v<;>simp only[kC]<;>rw[h _ (by simp[V.refs])]
theorem vi{o o':Nat->aa}(v:V)(h:∀id∈v.refs,o' id=o id):sE o' v=sE o v:=by
 have h1:dF o' v=dF o v:=by unfold dF;rw[cD v h]
 cases v<;>first|rfl|simp only[sE,h1]
theorem rA{o o':Nat->aa}(v:V)(h:∀id∈v.refs,o' id=o id):mC o' v=mC o v:=by
 cases v with
 |mp id=>simp only[mC,h id (by simp[V.refs])]
 |d x=>cases x<;>rfl
 |_=>rfl
theorem rB{o o':Nat->aa}(v:V)(h:∀id∈v.refs,o' id=o id):mD o' v=mD o v:=by
 cases v with
 |ptr id off=>simp only[mD,h id (by simp[V.refs])]
 |d x=>cases x<;>rfl
 |_=>rfl
theorem jz{o o':Nat->aa}(v:V)(h:∀id∈v.refs,o' id=o id):lB o' v=lB o v:=by
 cases v with
 |mp id=>simp only[lB,h id (by simp[V.refs])]
 |d x=>cases x<;>rfl
 |_=>rfl
theorem tp{o o':Nat->aa}(v:V)(h:∀id∈v.refs,o' id=o id):m5 o' v=m5 o v:=by
 cases v with
 |mp id=>simp only[m5,h id (by simp[V.refs])]
 |d x=>cases x<;>rfl
 |_=>rfl
theorem tq{o o':Nat->aa}(v:V)(str:Bool)(h:∀id∈v.refs,o' id=o id):ky o' v str=ky o v str:=by
 cases v with
 |ptr id off=>cases off<;>simp only[ky,h id (by simp[V.refs])]
 |_=>rfl
theorem rC{o o':Nat->aa}(v:V)(h:∀id∈v.refs,o' id=o id):jl o' v=jl o v:=by
 cases v with
 |ptr id off=>cases off<;>simp only[jl,h id (by simp[V.refs])]
 |_=>rfl
theorem rD{o o':Nat->aa}{fr:Nat}{t:TypeId}{P:Program}(v:V)(h:∀id∈v.refs,o' id=o id):jk P o' fr t v=jk P o fr t v:=by
 unfold jk
 cases v with
 |mp id=>simp only[h id (by simp[V.refs])]
 |d x=>cases x<;>rfl
 |_=>rfl
theorem rE{o o':Nat->aa}(v:V)(h:∀id∈v.refs,o' id=o id):kH o' v=kH o v:=by
 cases v with
 |ptr id off=>simp only[kH,h id (by simp[V.refs])]
 |_=>rfl
theorem rF{o o':Nat->aa}(v:V)(h:∀id∈v.refs,o' id=o id):kI o' v=kI o v:=by
 cases v with
 |n5 id off n=>simp only[kI,h id (by simp[V.refs])]
 |_=>rfl
theorem vj(op:Op)(hv:∀x∈op.operands,s'.ev x=s.ev x)(ho:∀id∈fL s op,s'.o id=s.o id):eF P s' fr op=eF P s fr op:=by
 cases op<;>simp only[eF]
 case move x=>rw[hv x (by simp[Op.operands])]
 case assign x=>rw[hv x (by simp[Op.operands])]
 case pick c a b=>rw[hv c (by simp[Op.operands]),hv a (by simp[Op.operands]),hv b (by simp[Op.operands])]
 case box t x=>rw[hv x (by simp[Op.operands])]
 case build t parts=>
  have:(parts.toList.map fun p=>(p.1,s'.ev p.2))=parts.toList.map fun p=>(p.1,s.ev p.2):=
   List.map_congr_left fun p hp=>by rw[hv p.2 (by simp only[Op.operands];simp;exact⟨p.1,by simpa using hp⟩)]
  rw[this]
 case buildSlice t len parts=>
  have:(parts.toList.map fun p=>(p.1,s'.ev p.2))=parts.toList.map fun p=>(p.1,s.ev p.2):=
   List.map_congr_left fun p hp=>by rw[hv p.2 (by simp only[Op.operands];simp;exact⟨p.1,by simpa using hp⟩)]
  rw[this]
  have e:(parts.toList.map fun p=>(p.1,s.ev p.2)).map (·.2)=parts.toList.map fun p=>s.ev p.2:=by simp[Function.comp_def]
  have h1:bA s'.o ((parts.toList.map fun p=>(p.1,s.ev p.2)).map (·.2))=bA s.o ((parts.toList.map fun p=>(p.1,s.ev p.2)).map (·.2)):=eZ _ (by rw[e];exact ho)
  have h2:cg s'.o (V.aQ ((parts.toList.map fun p=>(p.1,s.ev p.2)).map (·.2)))=cg s.o (V.aQ ((parts.toList.map fun p=>(p.1,s.ev p.2)).map (·.2))):=
   eB fun id ag=>ho id (by rw[e]at ag;exact gf _ id ag)
  simp only[eA,h1,h2]
 case load t x=>
  rw[hv x (by simp[Op.operands])]
  cases hx:s.ev x<;>simp only[jy]<;>rw[ho _ (by simp[fL,hx,V.refs])]
 case store t x y=>
  rw[hv x (by simp[Op.operands]),hv y (by simp[Op.operands])]
  have h1:dn s'.o (s.ev y)=dn s.o (s.ev y):=cD _ fun id ag=>ho id (by simp[fL,ag])
  have h2:cg s'.o (s.ev y).ids=cg s.o (s.ev y).ids:=eB fun id ag=>ho id (by simp[fL,fZ _ _ ag])
  cases hx:s.ev x<;>simp only[mM]<;>rw[ho _ (by simp[fL,hx,V.refs])]
  simp only[h1,h2]
 case nilCheck x=>
  rw[hv x (by simp[Op.operands])]
  cases hx:s.ev x with
  |ptr id off=>simp only[fJ];rw[ho _ (by simp[fL,hx,V.refs])]
  |func fn a b=>cases fn<;>rfl
  |_=>rfl
 case binOp op t x y yt=>
  rw[hv x (by simp[Op.operands]),hv y (by simp[Op.operands])]
  have h1:sE s'.o (s.ev x)=sE s.o (s.ev x):=vi _ fun id ag=>ho id (by simp[fL,ag])
  have h2:∀a b,sF P s'.o a b (s.ev x) (s.ev y)=sF P s.o a b (s.ev x) (s.ev y):=fun a b=>by
   have h3:∀id∈(s.ev x).refs,s'.o id=s.o id:=fun id ag=>ho id (by simp[fL,ag])
   have h4:=rA (s.ev x) h3
   have h5:=rB (s.ev x) h3
   unfold sF
   rw[h1,h4,h5]
  unfold cp mE
  simp only[h2]
 case slice t x lo hi mx=>
  rw[hv x (by simp[Op.operands])]
  have e1:lo.map s'.ev=lo.map s.ev:=by cases lo<;>simp[hv,Op.operands]
  have e2:hi.map s'.ev=hi.map s.ev:=by cases hi<;>simp[hv,Op.operands]
  have e3:mx.map s'.ev=mx.map s.ev:=by cases mx<;>simp[hv,Op.operands]
  rw[e1,e2,e3]
  have h3:∀id∈(s.ev x).refs,s'.o id=s.o id:=fun id ag=>ho id (by simp[fL,ag])
  have h1:dF s'.o (s.ev x)=dF s.o (s.ev x):=by unfold dF;rw[cD _ h3]
  have h2:cg s'.o (s.ev x).ids=cg s.o (s.ev x).ids:=eB fun id ag=>h3 id (fZ _ _ ag)
  unfold mA
  simp only[h1,h2,rE _ h3]
 case field t x f=>rw[hv x (by simp[Op.operands])]
 case typeAssert x xt t ok=>rw[hv x (by simp[Op.operands])]
 case makeMap t r=>cases r<;>rfl
 case lookup t m k ok=>
  rw[hv m (by simp[Op.operands]),hv k (by simp[Op.operands])]
  have h3:∀id∈(s.ev m).refs,s'.o id=s.o id:=fun id ag=>ho id (by simp[fL,ag])
  have h1:dn s'.o (s.ev k)=dn s.o (s.ev k):=cD _ fun id ag=>ho id (by simp[fL,ag])
  unfold iG
  simp only[h1,tp _ h3]
 case mapUpdate t m k v=>
  rw[hv m (by simp[Op.operands]),hv k (by simp[Op.operands]),hv v (by simp[Op.operands])]
  have h3:∀id∈(s.ev m).refs,s'.o id=s.o id:=fun id ag=>ho id (by simp[fL,ag])
  have h1:dn s'.o (s.ev k)=dn s.o (s.ev k):=cD _ fun id ag=>ho id (by simp[fL,ag])
  have h2:dn s'.o (s.ev v)=dn s.o (s.ev v):=cD _ fun id ag=>ho id (by simp[fL,ag])
  have h4:cg s'.o (s.ev v).ids=cg s.o (s.ev v).ids:=eB fun id ag=>ho id (by simp[fL,fZ _ _ ag])
  unfold fe
  simp only[h1,h2,h4,jz _ h3]
 case insert t m k v=>
  rw[hv m (by simp[Op.operands]),hv k (by simp[Op.operands]),hv v (by simp[Op.operands])]
  have h3:∀id∈(s.ev m).refs,s'.o id=s.o id:=fun id ag=>ho id (by simp[fL,ag])
  have h1:dn s'.o (s.ev k)=dn s.o (s.ev k):=cD _ fun id ag=>ho id (by simp[fL,ag])
  have h2:dn s'.o (s.ev v)=dn s.o (s.ev v):=cD _ fun id ag=>ho id (by simp[fL,ag])
  have h4:cg s'.o (s.ev v).ids=cg s.o (s.ev v).ids:=eB fun id ag=>ho id (by simp[fL,fZ _ _ ag])
  unfold fe
  simp only[h1,h2,h4,jz _ h3]
 case index t x i=>rw[hv x (by simp[Op.operands]),hv i (by simp[Op.operands])]
 case range t x=>
  rw[hv x (by simp[Op.operands])]
  exact rD _ fun id ag=>ho id (by simp[fL,ag])
 case next x str=>
  rw[hv x (by simp[Op.operands])]
  exact tq _ _ fun id ag=>ho id (by simp[fL,ag])
 case entry x=>
  rw[hv x (by simp[Op.operands])]
  exact rC _ fun id ag=>ho id (by simp[fL,ag])
 case unOp op t x=>rw[hv x (by simp[Op.operands])]
 case convert u t x=>rw[hv x (by simp[Op.operands])]
 case makeInterface t x=>rw[hv x (by simp[Op.operands])]
 case makeFunc fn first cap=>
  have h1:first.toList.map s'.ev=first.toList.map s.ev:=List.map_congr_left fun x hx=>hv x (by simp only[Op.operands];exact Array.mem_append.2 (.inl (Array.mem_toList_iff.1 hx)))
  have h2:cap.toList.map s'.ev=cap.toList.map s.ev:=List.map_congr_left fun x hx=>hv x (by simp only[Op.operands];exact Array.mem_append.2 (.inr (Array.mem_toList_iff.1 hx)))
  rw[h1,h2]
 case makeSlice t l c=>rw[hv l (by simp[Op.operands]),hv c (by simp[Op.operands])]
 case fieldAddr t x f=>
  rw[hv x (by simp[Op.operands])]
  simp only[eY]
  cases bw P t f<;>simp only
  rw[nj _ _ (by simpa[fL]using ho)]
 case indexAddr t x i=>
  rw[hv x (by simp[Op.operands]),hv i (by simp[Op.operands])]
  have h1:∀q,kC s'.o (s.ev x) q=kC s.o (s.ev x) q:=fun q=>nj _ _ (by simpa[fL]using ho)
  simp only[eX,h1]
  cases hx:s.ev x with
  |osl id ep=>simp only[ho id (by simp[fL,hx,V.refs])]
  |d y=>cases y<;>rfl
  |_=>rfl
 case extract x i=>rw[hv x (by simp[Op.operands])]
 case call c=>
  obtain⟨zf,args,ts⟩:=c
  cases zf<;>simp only
  rename_i b
  unfold l4
  have hm:∀x∈args.toList,s'.ev x=s.ev x:=fun x hx=>hv x (by simp only[Op.operands,Call.operands];exact Array.mem_append.2 (.inr (Array.mem_toList_iff.1 hx)))
  have hr:∀x∈args.toList,∀id∈(s.ev x).refs,s'.o id=s.o id:=by
   intro x hx id ag
   refine ho id ?_
   simp only[fL]
   generalize args.toList=l at hx
   induction l with
   |nil=>cases hx
   |cons y l ih=>
    simp only[List.map_cons,V.ax,List.mem_append]
    rcases List.mem_cons.1 hx with rfl|hx
    ·exact .inl ag
    ·exact .inr (ih hx)
  split
  ·rename_i x ha
   rw[ha]at hm hr
   rw[hm x (by simp)]
   have h1:∀t,ve P t s'.o (s.ev x)=ve P t s.o (s.ev x):=fun t=>by simp only[ve,ni _ (hr x (by simp))]
   simp only[h1]
  ·rename_i x y ha
   rw[ha]at hm hr
   rw[hm x (by simp),hm y (by simp)]
   simp only[l0,ni _ (hr y (by simp))]
   cases hx:s.ev x with
   |osl id ep=>simp only[hr x (by simp) id (by simp[hx,V.refs])]
   |_=>rfl
  ·rename_i x y ha
   rw[ha]at hm
   rw[hm x (by simp),hm y (by simp)]
  ·rename_i x y ha
   rw[ha]at hm
   rw[hm x (by simp),hm y (by simp)]
  ·rename_i x y z h;rw[hm x (by rw[h];simp),hm y (by rw[h];simp),hm z (by rw[h];simp)]
  ·rename_i x y ha
   rw[ha]at hm hr
   rw[hm x (by simp),hm y (by simp)]
   have h1:dF s'.o (s.ev y)=dF s.o (s.ev y):=by unfold dF;rw[cD _ (hr y (by simp))]
   have h2:cg s'.o (s.ev y).ids=cg s.o (s.ev y).ids:=eB fun id ag=>hr y (by simp) id (fZ _ _ ag)
   unfold p6
   simp only[h1,h2,rF _ (hr x (by simp))]
  ·rename_i x y ha
   rw[ha]at hm hr
   rw[hm x (by simp),hm y (by simp)]
   have h1:dn s'.o (s.ev y)=dn s.o (s.ev y):=cD _ (hr y (by simp))
   have h2:=jz _ (hr x (by simp))
   simp only[jV,h1,h2]
  ·rfl
end
end Go.Proofs.YtpkobkdgcanmjaaGreat
