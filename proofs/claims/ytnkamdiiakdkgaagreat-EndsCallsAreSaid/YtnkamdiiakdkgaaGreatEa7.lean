/-
  A PART OF THE PROOF. Conditions: none.
-/
import Derived.Test.YtnkamdiiakdkgaaGreatEa6
set_option linter.unusedSimpArgs false
set_option linter.unusedVariables false
namespace Go.Proofs.YtnkamdiiakdkgaaGreat
section
section
variable {P:Program}{M:Nat->Prop}{φ:Place}{H:Hp}{w w':World}{b7:Place}{H0:Hp}{w0:World}{n b:Nat}{s:S}{a:Act}{cx:Cx}{ro:Option Nat}{k:Nat}
theorem fY(hb:∀id,H0.us id->id<b)(rH:cx.rd=false->ro=none):∀ (c:Code) (Q:eK->S->Prop) (s:S) (φ:Place) (a:Act) (w:World),ik P n b cx.rd c Q s->bS M b7 H0 w0 n cx φ s a w->c.rk P ro (C2 M b7 H0 w0 n cx Q) a w:=by
 intro c
 induction c with
 |skip=>exact fun Q s φ a w h hs=>nA (k:=0) (wpIn_skip ⟨.normal,s,φ,h,hs,trivial⟩)
 |scope x ih=>exact fun Q s φ a w h hs=>vh (ih Q s φ a w h hs) (fun l a w ⟨xx,s',aE,hq,jl,hm⟩=>by cases xx<;>exact hm)
 |label l=>exact fun Q s φ a w h hs=>nA (k:=0) (wpIn_label ⟨.normal,s,φ,h,hs,trivial⟩)
 |exit id=>exact fun Q s φ a w h hs=>zd ⟨.exit id,s,φ,h,hs,rfl⟩
 |ret=>exact fun Q s φ a w h hs=>C3 ⟨.ret,s,φ,h,hs,trivial⟩
 |goto l=>exact fun Q s φ a w h hs=>h.elim
 |refuse y=>exact fun Q s φ a w h hs=>h.elim
 |rangeFunc g ps x y=>
  intro Q s φ a w h hs
  obtain⟨h1,s',hle,h2⟩:=h
  rcases hle with rfl|hle
  ·exact vk hs h1 (rH h1) h2
  ·obtain⟨aE,jl⟩:=BG hb hs hle
   exact vk jl h1 (rH h1) h2
 |region id ops draw=>
  intro Q s φ a w h hs
  cases draw with
  |true=>exact nA (h M b7 H0 w0 cx φ a w ro 0 hs)
  |false=>
   refine nA (k:=0) (wpIn_region_list (nz (K:=Q .normal) (X:=fun v s=>Q (.bD v) s) (fun s φ a w hk hs=>⟨.normal,s,φ,hk,hs,trivial⟩) (fun v s φ a w val hx hs hd=>⟨.bD v,s,φ,hx,hs,val,rfl,hd⟩) _ s φ a w h hs))
 |seq x y KG KH=>
  intro Q s φ a w h hs
  refine wO (fD (KG _ s φ a w h hs) ?_)
  rintro e a' w' ⟨xx,s',aE,hq,jl,hm⟩
  cases e<;>cases xx<;>first|(exact hm.elim)|skip
  ·exact KH Q s' aE a' w' hq jl
  ·subst hm;exact⟨_,s',aE,hq,jl,rfl⟩
  ·exact Gx
  ·exact GC
 |cond c x y KG KH=>
  intro Q s φ a w h hs
  simp only[ik]at h
  have hc:=lH (M:=M) (φ:=φ) (H:=s.H) (w:=w) s a hs.env c
  split at h
  ·rename_i t hv
   rw[hv]at hc
   simp only[V.den,D.den]at hc
   cases t with
   |true=>exact oB hc (KG Q s φ a w (h.1 rfl) hs)
   |false=>exact oB hc (KH Q s φ a w (h.2 rfl) hs)
  ·rename_i hv
   rw[hv]at hc
   obtain⟨t,hc⟩:=hc
   cases t with
   |true=>exact oB hc (KG Q s φ a w h.1 hs)
   |false=>exact oB hc (KH Q s φ a w h.2 hs)
  ·exact h.elim
 |block id x ih=>
  intro Q s φ a w h hs
  refine EJ (fD (ih _ s φ a w h hs) ?_)
  rintro e a' w' ⟨xx,s',aE,hq,jl,hm⟩
  cases e<;>cases xx<;>first|(exact hm.elim)|skip
  ·exact⟨.normal,s',aE,hq,jl,trivial⟩
  ·subst hm
   simp only[Exit.inBlock]
   simp only[ez]at hq
   split
   ·rename_i he;rw[if_pos he]at hq;exact⟨.normal,s',aE,hq,jl,trivial⟩
   ·rename_i he;rw[if_neg he]at hq;exact⟨.exit _,s',aE,hq,jl,rfl⟩
  ·exact Gx
  ·exact GC
 |loop x ih=>
  intro Q s φ a w h hs
  obtain⟨J,⟨m0,s1,hle,hI⟩,nC⟩:=h
  obtain⟨gU,vl⟩:=BG hb hs hle
  refine wQ (fun m a w=>∃s φ,J m s/\bS M b7 H0 w0 n cx φ s a w) ?_ m0 a w ⟨s1,gU,hI,vl⟩
  rintro m a w ⟨s,φ,hI,hs⟩
  refine fD (ih _ s φ a w (nC m s hI) hs) ?_
  rintro e a' w' ⟨xx,s',aE,hq,jl,hm⟩
  cases e<;>cases xx<;>first|(exact hm.elim)|skip
  ·obtain⟨m2,s2,cc,Qj,hI2⟩:=hq
   obtain⟨EK,JK⟩:=BG hb jl Qj
   exact⟨m2,cc,s2,EK,hI2,JK⟩
  ·subst hm;exact⟨_,s',aE,hq,jl,rfl⟩
  ·exact Gx
  ·exact GC
def Ho(tmps:Array Value)(r:ResultVar):Sem Value:=
 match r with
 | .tmp t=>pure (tmps.getD t undef)
 | .cell p t=>do loadVar t (<- asAddr (tmps.getD p undef))
theorem rI(oC:ax M φ s.H w)(dz:∀i,V.den (ak M φ s.H) φ s.H w (s.env i) (a.tmps.getD i undef)):∀ (rs:List ResultVar) (vs:List V),kH P s rs=some vs->
 ∃vals,(rs.mapM (Ho a.tmps)).run P w= .ok vals w/\V.az (ak M φ s.H) φ s.H w vs vals
 |[],vs,h=>by simp[kH]at h;subst h;exact⟨[],aK,rfl⟩
 | .tmp t::rs,vs,h=>by
   simp only[kH,Option.map_eq_some_iff]at h
   obtain⟨us,h1,rfl⟩:=h
   obtain⟨vals,h2,h3⟩:=rI oC dz rs us h1
   exact⟨a.tmps.getD t undef::vals,by simp only[List.mapM_cons,Ho,Sem.run_bind,Sem.run_pure,Result.andThen_ok,h2],_,_,rfl,dz t,h3⟩
 | .cell p t::rs,vs,h=>by
   simp only[kH]at h
   split at h
   ·rename_i id off hv
    split at h
    ·rename_i cs ho
     simp only[Option.bind_eq_some_iff,Option.map_eq_some_iff]at h
     obtain⟨v,h0,us,h1,rfl⟩:=h
     obtain⟨vals,h2,h3⟩:=rI oC dz rs us h1
     have hx:=dz p
     rw[hv]at hx
     obtain⟨_,hu,hp⟩:=hx
     obtain⟨k,dD,ef⟩:=hp (by show(s.o id).bW=true;rw[ho];rfl)
     have aU:=oC.ok id
     have uO:s.H.o id= .row cs:=ho
     simp only[aM,uO]at aU
     obtain⟨b',dt,ty,g1,g2,g3,g4⟩:=aU
     rw[dD]at g1;simp at g1;subst g1
     obtain⟨val,h4,h5⟩:=n9 (P:=P) h0 ⟨k,0,none⟩ dt.toList g3 g4 (fun j u hj=>od g2 j u lB) rfl
     rw[add_plain,Nat.zero_add]at h4
     have h6:(loadVar t ⟨k,off,none⟩).run P w= .ok val w:=by simpa[Instr.loadAt,Instr.sureAddr]using h4
     exact⟨val::vals,by simp only[List.mapM_cons,Ho,ef,asAddr,Sem.run_bind,Sem.run_pure,Result.andThen_ok,h6,h2],val,vals,rfl,h5,h3⟩
    ·cases h
   ·cases h
theorem lR{fn:Func}{tmps:Array Value}{vals:List Value}
 (h:(fn.results.toList.mapM (Ho tmps)).run P w= .ok vals w):
 (results fn tmps).run P w= .ok (if h:vals.toArray.size=1 then vals.toArray[0]else .tuple vals.toArray) w:=by
 have e:results fn tmps=(do let vs <- fn.results.mapM (Ho tmps);pure (if h:vs.size=1 then vs[0]else .tuple vs)):=by
  unfold results
  congr 2
 rw[e,Array.mapM_eq_mapM_toList]
 simp only[Sem.run_bind,Sem.run_map,h,Result.andThen_ok,Sem.run_pure]
theorem j7{us:Nat->Prop}(φ:Place)(hM:∀k,M k->k<w.heap.size):ax M φ ⟨fun _=> .no,us⟩ w where
 ok id:=by simp[aM]
 fresh _ _:=rfl
 apart i j k hi:=by simp[ab.live]at hi
 ours k:=by rintro⟨id,h,_⟩;simp[ab.live]at h
 x5:=hM
theorem EL{vals:Array Value}{m i:Nat}:(vals++Array.replicate m undef).getD i undef=(vals[i]?).getD undef:=by
 simp only[Array.getD_eq_getD_getElem?,Array.getElem?_append]
 split
 ·rfl
 ·rw[Array.getElem?_eq_none (xs:=vals) (by omega)]
  simp only[Array.getElem?_replicate]
  split<;>rfl
structure wR (M:Nat->Prop) (b7:Place) (H0:Hp) (w0:World) (φ:Place) (s:S) (tmps:Array Value) (w:World):Prop where
 heap:ax M φ s.H w
 tr:Trans b7 H0 w0 φ s.H w
 env:∀i,V.den (ak M φ s.H) φ s.H w (s.env i) (tmps.getD i undef)
theorem EM{tmps:Array Value}(hs:wR M b7 H0 w0 φ s tmps w){r:Nat}(h1:w0.heap.size<=r)(h2:w.heap[r]? =some (.deferred (some [])))(h3: ¬cp φ s.H r):
 wR M b7 H0 w0 φ s tmps {w with heap:=w.heap.setIfInBounds r (.deferred none)}:=by
 have ku:∀b,b≠r->(w.heap.setIfInBounds r (.deferred none))[b]? =w.heap[b]? :=fun b hb=>(MapKept.heap_set h2).2 b hb
 have x6:∀b,cK w b-> ¬ak M φ s.H b->(w.heap.setIfInBounds r (.deferred none))[b]? =w.heap[b]? /\ ¬ak M φ s.H b:=by
  intro b hc hn
  refine⟨ku b fun e=> ?_,hn⟩
  subst e
  rcases hc with⟨cs,ty,fz,hc⟩|⟨es,clock,hc⟩
  ·rw[h2]at hc;cases hc
  ·rw[h2]at hc;cases hc
 refine⟨⟨fun id=> ?_,hs.heap.fresh,hs.heap.apart,fun b hb=>⟨(hs.heap.ours b hb).1,by simpa using(hs.heap.ours b hb).2⟩,fun b hb=>by simpa using hs.heap.x5 b hb⟩,⟨⟨hs.tr.keep.os,hs.tr.keep.tape,hs.tr.keep.output,by simpa using hs.tr.keep.size,fun j hj hm=> ?_⟩,hs.tr.grow,hs.tr.rel⟩,fun i=>V.jU x6 (du.refl _ _) _ _ (hs.env i)⟩
 ·exact aM.yz x6 (du.refl _ _) rfl rfl (fun hl b hb=>ku b fun e=>h3 ⟨id,hl,e ▸ hb⟩) (hs.heap.ok id)
 ·rw[ku j (by omega)];exact hs.tr.keep.block j hj hm
theorem fE{fn:Func}{R:Ending->World->Prop}{u:FrameMode}(hu:u≠ .run){tmps tb:Array Value}{ds:List Deferred}(hR:∀w,wR M b7 H0 w0 φ s tb w->LeavesInM (dm none) k P fn tmps R ds u w):
 ∀ (ms:List Nat) (w:World),ms.Nodup->(∀r∈ms,w0.heap.size<=r/\w.heap[r]? =some (.deferred (some []))/\ ¬cp φ s.H r)->wR M b7 H0 w0 φ s tb w->LeavesInM (dm none) k P fn tmps R (ms.map mark++ds) u w
 |[],w,_,_,hs=>hR w hs
 |r::ms,w,hn,hm,hs=>by
  obtain⟨h1,h2,h3⟩:=hm r aK
  obtain⟨Nl,GZ⟩:=List.nodup_cons.1 hn
  refine⟨hu, .inl ⟨r,{w with heap:=w.heap.setIfInBounds r (.deferred none)},rfl, ?_,fE hu hR ms _ GZ (fun r' wI=> ?_) (EM hs h1 h2 h3)⟩⟩
  ·simp[Instr.takeDeferred,getObj,setObj,Sem.run,h2,Result.andThen]
  ·obtain⟨g1,g2,g3⟩:=hm r' (by simp[wI])
   exact⟨g1,((MapKept.heap_set h2).2 r' (fun e=>Nl (e ▸ wI))).trans g2,g3⟩
theorem bS.toB (hs:bS M b7 H0 w0 n cx φ s a w):wR M b7 H0 w0 φ s a.tmps w:=⟨hs.heap,hs.tr,hs.env⟩
def kJ(P:Program)(rs:List ResultVar)(K X:V->(Nat->ab)->Nat->Prop)(e:eK)(s:S):Prop:=
 match e with
 | .normal| .ret=>match kH P s rs with
   |some [v]=>K v s.o s.nx
   |some vs=>K (.bP vs) s.o s.nx
   |none=>False
 | .bD v=>X v s.o s.nx
 | .exit _=>False
theorem zf{P:Program}{rs:List ResultVar}{K X:V->(Nat->ab)->Nat->Prop}{s:S}(h:kJ P rs K X .ret s):∃vs,kH P s rs=some vs/\K (match vs with|[v]=>v|vs=> .bP vs) s.o s.nx:=by
 unfold kJ at h
 simp only at h
 split at h
 ·rename_i v h1;exact⟨[v],h1,h⟩
 ·rename_i vs h1 h2
  refine⟨vs,h2, ?_⟩
  split
  ·exact absurd rfl (h1 _)
  ·exact h
 ·exact h.elim
theorem zg:∀ {vs:List V} {vals:List Value},V.az (ak M φ H) φ H w vs vals->V.den (ak M φ H) φ H w (match vs with|[v]=>v|vs=> .bP vs) (if h:vals.toArray.size=1 then vals.toArray[0]else .tuple vals.toArray)
 |[],vals,h=>by simp only[V.az]at h;subst h;exact⟨#[],rfl,rfl⟩
 |[v],vals,h=>by obtain⟨u,us,rfl,h1,h2⟩:=h;simp only[V.az]at h2;subst h2;exact h1
 |v::y::l,vals,h=>by
  have h':=h
  obtain⟨u,us,rfl,h1,u2,us2,rfl,h2⟩:=h
  exact⟨(u::u2::us2).toArray,aK,by simpa using h'⟩
theorem yp{vals:Array Value}{m:Nat}{vs:List V}(hd:V.az (ak M φ H) φ H w vs vals.toList)(i:Nat):V.den (ak M φ H) φ H w (ct vs i) ((vals++Array.replicate m undef).getD i undef):=by
 have hlen:=V.ay _ _ hd
 simp only[ct,EL]
 cases hx:vs[i]? with
 |none=>
  have:vals[i]? =none:=by
   rw[List.getElem?_eq_none_iff]at hx
   apply Array.getElem?_eq_none
   simp at hlen;omega
  simp only[List.getD_eq_getElem?_getD,hx,this]
  exact⟨#[],rfl,rfl⟩
 |some v=>
  obtain⟨u,hu,Kj⟩:=V.c7 _ _ _ _ hd hx
  have yg:vals[i]? =some u:=by simpa using hu
  simp only[List.getD_eq_getElem?_getD,hx,yg,Option.getD_some]
  exact Kj
theorem lS{f:FuncId}{fn:Func}{c:Code}{args:Array Value}{w:World}{R:Ending->World->Prop}(hf:P.funcs[f]? =some fn)(hb:fn.body=some c)
 (h:c.rk P none (bodyPostM (dm none) k P fn R) {tmps:=args++Array.replicate (fn.ntmps - args.size) undef,defers:=[]} w):CallsIn (dm none) k P f args w R:=by
 have cc:f<P.funcs.size:=(Array.getElem?_eq_some_iff.1 hf).1
 refine⟨trivial,fun cs hr=> ?_⟩
 let b:Frame:={(default:Frame)with fn:=f,kind:= .normal,roundOf:=none}
 have kI:Frame.enter P f args .normal=b.atR {tmps:=args++Array.replicate (fn.ntmps - args.size) undef,defers:=[]} [.code c]:=by
  simp[Frame.enter,Frame.atR,hf,hb,b]
 obtain⟨e,a',w',hq,cM⟩:=h b [] cs rfl cc
 rw[<- kI]at cM
 cases e with
 |normal=>
  obtain⟨e',PD,Zx,hR,hs,FY,hl⟩:=leaves_stepsInM a'.defers .returning w' {b.atR a' []with mode:= .returning} cs rfl rfl rfl hf rfl (trivial:(dm none).fn f) hr hq
  exact⟨e',PD,Zx,hR,ComesIn.of_steps (StepsIn.trans cM (.one (fenced_calm (n:=0) (fr:=b.atR a' []) trivial fC rfl) (stepR_end rfl))) hs,FY,hl⟩
 |ret=>
  obtain⟨todo,Mz⟩:=cM.1 rfl
  obtain⟨e',PD,Zx,hR,hs,FY,hl⟩:=leaves_stepsInM a'.defers .returning w' {b.atR a' todo with mode:= .returning} cs rfl rfl rfl hf rfl (trivial:(dm none).fn f) hr hq
  exact My
 |panic chain=>
  obtain⟨todo,Mz⟩:=cM
  obtain⟨e',PD,Zx,hR,hs,FY,hl⟩:=leaves_stepsInM a'.defers (.panicking chain) w' {b.atR a' todo with mode:= .panicking chain} cs rfl rfl rfl hf rfl (trivial:(dm none).fn f) hr hq
  exact My
 |exit id=>exact hq.elim
 |goto l=>exact hq.elim
 |outgrown=>exact⟨.outgrown,w',b,hq,cM.resolve_left (by simp[b]),rfl,trivial⟩
def BI(P:Program)(l:Nat)(R:Ending->World->Prop):Exit->Act->World->Prop
 | .normal,_,w=>∃v w',(Instr.endRound l none).run P w= .ok v w'/\R (.returned v) w'
 | .ret,_,w=>∃v w',(Instr.endRound l (some .ret)).run P w= .ok v w'/\R (.returned v) w'
 | .exit id,_,w=>∃v w',(Instr.endRound l (some (.exit id))).run P w= .ok v w'/\R (.returned v) w'
 | .goto _,_,_=>False
 | .panic chain,a,w=>a.defers=[]/\R (.panicked chain) w
 | .outgrown,_,_=>False
theorem sA{l:Nat}{f:FuncId}{tmps:Array Value}{assign body:Code}{w:World}{R:Ending->World->Prop}(hf:f<P.funcs.size)
 (h:assign.rk P (some l) (Exit.then (fun mO iG=>∃pS,(Instr.beginRound l).run P iG= .ok () pS/\body.rk P (some l) (BI P l R) mO pS) (fun e a w=>match e with| .panic chain=>a.defers=[]/\R (.panicked chain) w|_=>False))
  {tmps:=tmps,defers:=[]} w):
 RoundIn Fence.wide n P l f tmps assign body w R:=by
 refine⟨trivial,fun c cs hr=> ?_⟩
 let b:Frame:={(default:Frame)with fn:=f,kind:= .normal,roundOf:=some l}
 have Qk:Frame.round l f tmps assign body .normal=b.atR {tmps:=tmps,defers:=[]} [.code assign, .beginRound, .code body]:=by
  simp[Frame.round,Frame.atR,b]
 have calm:∀ (m:Machine),m.fenced P Fence.wide:=fun m=>fenced_wide P m
 have bD:∀ {a:Act} {w:World} {todo:List Item} {chain:List PanicEntry},a.defers=[]->step P (lone {b.atR a todo with mode:= .panicking chain} (c::cs) w)= .next (lone (c.raise chain) cs w):=by
  intro a w todo chain hd
  exact step_leave_panicked (fr:={b.atR a todo with mode:= .panicking chain}) ⟨rfl,hd,P.funcs[f],by show P.funcs[f]? =_;simp[hf]⟩
 obtain⟨e,mO,iG,hq,cM⟩:=h b [.beginRound, .code body] (c::cs) rfl hf
 rw[<- Qk]at cM
 cases e with
 |normal=>
  obtain⟨pS,hbr,oD⟩:=hq
  have s1:StepsIn (Machine.fenced P Fence.wide) P (lone (b.atR mO [.beginRound, .code body]) (c::cs) iG) (lone (b.atR mO [.code body]) (c::cs) pS):= .one (calm _) (stepR_beginRound rfl hbr)
  obtain⟨Qg,V4,BE,oA,jy⟩:=oD b [] (c::cs) rfl hf
  have cM:StepsIn (Machine.fenced P Fence.wide) P _ _:=cM
  cases Qg with
  |normal=>
   obtain⟨v,rl,cm,hR⟩:=oA
   have jy:StepsIn (Machine.fenced P Fence.wide) P _ _:=jy
   exact⟨.returned v,rl,hR,(StepsIn.trans cM s1).trans (StepsIn.trans jy (.one (calm _) (stepR_round_end rfl rfl cm)))⟩
  |ret=>
   obtain⟨v,rl,cm,hR⟩:=oA
   obtain⟨k₁,hs⟩:=jy.2 rfl
   have hs:StepsIn (Machine.fenced P Fence.wide) P _ _:=hs
   exact⟨.returned v,rl,hR,(StepsIn.trans cM s1).trans (StepsIn.trans hs (.one (calm _) (stepR_round_ret rfl rfl cm)))⟩
  |exit id=>
   obtain⟨v,rl,cm,hR⟩:=oA
   obtain⟨k₁,hk,hs⟩:=jy.2 rfl rfl
   have hs:StepsIn (Machine.fenced P Fence.wide) P _ _:=hs
   exact⟨.returned v,rl,hR,(StepsIn.trans cM s1).trans (StepsIn.trans hs (.one (calm _) (stepR_round_exit rfl rfl hk cm)))⟩
  |goto t=>exact oA.elim
  |panic chain=>
   obtain⟨todo,hs⟩:=jy
   have hs:StepsIn (Machine.fenced P Fence.wide) P _ _:=hs
   exact⟨.panicked chain,BE,oA.2,(StepsIn.trans cM s1).trans (StepsIn.trans hs (.one (calm _) (bD oA.1)))⟩
  |outgrown=>exact oA.elim
 |exit id=>exact hq.elim
 |goto t=>exact hq.elim
 |ret=>exact hq.elim
 |panic chain=>
  obtain⟨todo,hs⟩:=cM
  have hs:StepsIn (Machine.fenced P Fence.wide) P _ _:=hs
  exact⟨.panicked chain,iG,hq.2,StepsIn.trans hs (.one (calm _) (bD hq.1))⟩
 |outgrown=>exact hq.elim
theorem cZ.C6 {f:FuncId}{fn:Func}{c:Code}{args:List V}{o:Nat->ab}{nx:Nat}{K X:V->(Nat->ab)->Nat->Prop}(hf:P.funcs[f]? =some fn)(hn:(fn.name== "runtime.NumGoroutine")=false)(oD:fn.body=some c)(hl:args.length<=fn.ntmps)
 (h:ik P fn.ntmps nx false c (kJ P fn.results.toList K X) ⟨ct args,o,nx⟩):cZ P f args o nx K X:=by
 refine⟨⟨fn,hf,hn,by rw[oD];rfl⟩,fun M φ w vals hH hd=> ?_⟩
 have hlen:=V.ay _ _ hd
 let s0:S:=⟨ct args,o,nx⟩
 let a0:Act:={tmps:=vals++Array.replicate (fn.ntmps - vals.size) undef,defers:=[]}
 have iT:bS M φ (hp o nx) w fn.ntmps ⟨[],false⟩ φ s0 a0 w:=by
  exact Vy
 refine y9 (ro:=none) (k:=0) (lS hf oD (fD (fY (P:=P) (H0:=hp o nx) (b:=nx) (cx:=⟨[],false⟩) (ro:=none) (fun id hu=>hu) (fun _=>rfl) c _ s0 φ a0 w h iT) ?_))
 rintro e a w' ⟨x,s,aE,hq,hs,hm⟩
 obtain⟨ms,g1,g2,g3,g4⟩:=hs.defers
 rw[List.append_nil]at g1
 have done:(x= .normal\/x= .ret)->LeavesInM (dm none) 0 P fn a.tmps (lN M φ (hp o nx) w K X) a.defers .returning w':=by
  intro hx
  have hq':kJ P fn.results.toList K X .ret s:=by rcases hx with rfl|rfl<;>exact hq
  obtain⟨vs,h1,h2⟩:=zf hq'
  rw[g1]
  have:=fE (P:=P) (k:=0) (fn:=fn) (R:=lN M φ (hp o nx) w K X) (u:= .returning) aK (ds:=[]) (fun w2 hb=>by
   obtain⟨vals,h3,h4⟩:=rI (P:=P) (a:=a) hb.heap hb.env _ _ h1
   exact⟨_,lR h3,aE,s.o,s.nx,_,hb.heap,hb.tr,zg h4,h2⟩) ms w' g2 g4 hs.toB
  rwa [List.append_nil]at this
 cases e<;>cases x<;>first|(exact hm.elim)|skip
 ·exact done (.inl rfl)
 ·exact hq.elim
 ·exact done (.inr rfl)
 ·rename_i v
  obtain⟨val,rfl,hd'⟩:=hm
  show LeavesInM (dm none) 0 P fn a.tmps (lN M φ (hp o nx) w K X) a.defers _ w'
  rw[g1]
  have Qk:wR M φ (hp o nx) w aE ⟨fun i=>if i=0 then v else .aa,s.o,s.nx⟩ #[val] w':=⟨hs.heap,hs.tr,fun i=>by
   by_cases hi:i=0
   ·subst hi;exact hd'
   ·simp only[hi,if_false];trivial⟩
  have:=fE (P:=P) (k:=0) (fn:=fn) (s:=⟨fun i=>if i=0 then v else .aa,s.o,s.nx⟩) (tmps:=a.tmps) (tb:=#[val]) (b7:=φ) (H0:=hp o nx) (w0:=w) (R:=lN M φ (hp o nx) w K X) (u:= .panicking [{v:=val,recovered:=false}]) aK (ds:=[]) (fun w2 hb=>by
   have h0:=hb.env 0
   exact⟨aE,s.o,s.nx,v,hb.heap,hb.tr,val,rfl,h0,hq⟩) ms w' g2 g4 Qk
  rwa [List.append_nil]at this
theorem aR.lT {f:FuncId}{ds:List D}{out:R}(h:cZ P f (ds.map .d) (fun _=> .no) 0 (fun v o _=>∃vs rs,v=(match vs with|[v]=>v|vs=> .bP vs)/\bQ o vs=some rs/\out= .ret rs) (fun v o _=>∃x,dp o v=some x/\out= .bD x)):aR P f ds out:=by
 refine⟨h.1,fun M w vals hM hd=> ?_⟩
 let b7:Place:=fun _=> .nilFunc
 have ue:∀b, ¬cp b7 (hp (fun _=> .no) 0) b:=by rintro b ⟨id,hl,_⟩;simp[hp,ab.live]at hl
 refine(h.2 M b7 w vals (j7 b7 hM) ((V.bX _ _).2 (D.aN (w:=w) (w':=w) (B:=M) (fun b _ hB=>⟨rfl,fun h=>h.elim hB (ue b)⟩) _ _ hd))).mono ?_
 rintro e w' ⟨aE,o',nx',v,k1,k2,k3⟩
 have qF:dk (fun _=>False) w w':=⟨k2.keep.os,k2.keep.tape,k2.keep.output,k2.keep.size,fun k hk _=>k2.keep.block k hk (ue k)⟩
 have fin:∀ (vs:List V) (xs:List D) (vals:List Value),bQ o' vs=some xs->V.az (ak M aE (hp o' nx')) aE (hp o' nx') w' vs vals->D.az M w' xs vals:=by
  intro vs xs vals h1 h2
  obtain⟨f1,f2,f3,f4,f5⟩:=cA k1 (V.a7 vs) (cD vs _ h2)
  have h3:=cQ f1 vs xs vals f3 h1 (V.aN f2 _ _ h2)
  exact D.aN (w:=w') (w':=w') (fun k _ hB=>⟨rfl,fun hM=>hB (.inl hM)⟩) xs vals h3
 refine⟨qF, ?_⟩
 cases e with
 |outgrown=>exact k3.elim
 |panicked ch=>
  obtain⟨val,rfl,g1,x,g2,rfl⟩:=k3
  have:=fin [v] [x] [val] (by simp[bQ,g2]) ⟨val,[],rfl,g1,rfl⟩
  obtain⟨u,us,he,h2,_⟩:=this
  simp at he;obtain⟨rfl,rfl⟩:=he
  exact⟨val,rfl,h2⟩
 |returned val=>
  obtain⟨g1,vs,rs,rfl,g2,rfl⟩:=k3
  match vs,g1,g2 with
  |[],g1,g2=>
   obtain⟨arr,rfl,hv⟩:=g1
   simp only[bQ,Option.some.injEq]at g2;subst g2
   exact⟨arr,rfl,hv⟩
  |[v],g1,g2=>
   have:=fin [v] rs [val] g2 ⟨val,[],rfl,g1,rfl⟩
   cases rs with
   |nil=>cases this
   |cons x l=>
    obtain⟨u,us,he,h2,h3⟩:=this
    simp at he;obtain⟨rfl,rfl⟩:=he
    cases l with
    |nil=>exact h2
    |cons y l=>obtain⟨_,_,h,_⟩:=h3;cases h
  |v::v2::l,g1,g2=>
   obtain⟨arr,rfl,h⟩:=g1
   have:=fin (v::v2::l) rs arr.toList g2 h
   have hl:=D.ay _ _ this
   have Vc:=V.ay _ _ h
   match rs,hl,this with
   |[],hl,_=>exact CG
   |[x],hl,_=>exact CG
   |x::y::l,_,this=>exact⟨arr,rfl,this⟩
theorem EN{rs:List ResultVar}{out:R}(e:eK)(s:S)(h:BD P rs out e s):
 kJ P rs (fun v o _=>∃vs rs,v=(match vs with|[v]=>v|vs=> .bP vs)/\bQ o vs=some rs/\out= .ret rs) (fun v o _=>∃x,dp o v=some x/\out= .bD x) e s:=by
 have ret:BD P rs out .ret s->kJ P rs (fun v o _=>∃vs rs,v=(match vs with|[v]=>v|vs=> .bP vs)/\bQ o vs=some rs/\out= .ret rs) (fun v o _=>∃x,dp o v=some x/\out= .bD x) .ret s:=by
  intro h
  obtain⟨vs,xs,h1,h2,h3⟩:=Hf h
  simp only[kJ,h1]
  match vs,h2 with
  |[],h2=>exact⟨[],xs,rfl,h2,h3⟩
  |[v],h2=>exact⟨[v],xs,rfl,h2,h3⟩
  |v::v2::l,h2=>exact⟨v::v2::l,xs,rfl,h2,h3⟩
 cases e with
 |normal=>exact ret h
 |ret=>exact ret h
 |exit id=>exact h.elim
 |bD v=>exact Hg h
end
end
section
def Hq{α:Type}(c:Bool)(x:α):Option α:=if c=true then some x else none
def one(v:V):Option eR:=some (v,[],[])
def zh(op:BinOp)(k:IntKind)(a b:Int):Option V:=
 match op with
 | .add=>some (.d (.int k (k.wrap (a+b))))
 | .sub=>some (.d (.int k (k.wrap (a - b))))
 | .mul=>some (.d (.int k (k.wrap (a*b))))
 | .quo=>if b=0 then none else some (.d (.int k (k.wrap (a.tdiv b))))
 | .rem=>if b=0 then none else some (.d (.int k (a.tmod b)))
 | .and=>(sc .and k a b).map fun r=> .d (.int k r)
 | .or=>(sc .or k a b).map fun r=> .d (.int k r)
 | .xor=>(sc .xor k a b).map fun r=> .d (.int k r)
 | .andNot=>(sc .andNot k a b).map fun r=> .d (.int k r)
 | .eql=>some (.d (.bool (a==b)))| .neq=>some (.d (.bool (a !=b)))| .lss=>some (.d (.bool (decide (a<b))))| .leq=>some (.d (.bool (decide (a<=b))))
 | .gtr=>some (.d (.bool (decide (b<a))))| .geq=>some (.d (.bool (decide (b<=a))))
 |_=>none
def kK(P:Program)(t:TypeId):Bool:=
 match P.underlying t with
 |some .bool=>true
 |_=>false
def wS(P:Program)(op:BinOp)(t:TypeId)(x y:V):Option V:=
 match x,y with
 | .d (.int k a), .d (.int k' b)=>if k=k' then zh op k a b else none
 | .d (.bool a), .d (.bool b)=>match op with
   | .eql=>Hq (kK P t) (.d (.bool (a==b)))
   | .neq=>Hq (kK P t) (.d (.bool (a !=b)))
   |_=>none
 | .d (.str a), .d (.str b)=>match op with
   | .eql=>some (.d (.bool (a==b)))
   | .neq=>some (.d (.bool (a !=b)))
   |_=>none
 |_,_=>none
def unF(op:UnOp)(x:V):Option V:=
 match op,x with
 | .neg, .d (.int k n)=>some (.d (.int k (k.wrap (-n))))
 | .not, .d (.bool b)=>some (.d (.bool !b))
 |_,_=>none
def oE(c a b:V):Option V:=
 match c with
 | .d (.bool true)=>some a
 | .d (.bool false)=>some b
 |_=>none
def oF(o:Nat->ab)(x:V):Option (List D×List Nat):=
 match x with
 | .d (.sl es)=>some (es,[])
 | .a8=>some ([],[])
 | .px es=>some (es,[])
 | .osl id ep=>match o id with
   | .arr gG _ _ es=>if ep=gG then some (es,[id])else none
   | .qu gG es=>if ep=gG then some (es,[id])else none
   |_=>none
 |_=>none
def BJ(P:Program)(t:TypeId)(o:Nat->ab)(x:V):Option eR:=
 match P.underlying t with
 |some (.slice _)=>match oF o x with
  |some (es,rd)=>some (.d (.int .i64 es.length),[],rd)
  |none=>none
 |some .string=>match x with
  | .d (.str s)=>one (.d (.int .i64 s.length))
  |_=>none
 |some (.array n _)=>one (.d (.int .i64 n))
 |_=>none
def vm(P:Program)(e:TypeId)(es:List D)(i:Int)(rd:List Nat):Option eR:=
 if 0<=i then match es[i.toNat]? with
  |some y=>Hq (y.cells.length==P.cellsOf e&&0<P.cellsOf e) (.pp y.cells 0,[],rd)
  |none=>none
 else none
def nh(o:Nat->ab)(x:V)(q:Nat):Option V:=
 match x with
 | .ptr id off=>Hq (o id).bW (.ptr id (off+q))
 | .pp cs off=>some (.pp cs (off+q))
 | .pe id ep j sz off=>if(o id).bT=some ep then some (.pe id ep j sz (off+q))else none
 |_=>none
def fZ(P:Program)(o:Nat->ab)(t:TypeId)(x ix:V):Option eR:=
 match ix with
 | .d (.int _ i)=>match bR P t with
   |some e=>match x with
    | .d (.sl es)=>vm P e es i []
    | .px es=>vm P e es i []
    | .osl id ep=>match o id with
      | .arr gG _ sz es=>if ep=gG/\0<=i/\i.toNat<es.length/\sz=P.cellsOf e/\0<P.cellsOf e then some (.pe id ep i.toNat sz 0,[],[id])else none
      | .qu gG es=>if ep=gG then vm P e es i [id]else none
      |_=>none
    |_=>none
   |none=>match uj P t with
    |some (n,e)=>if 0<=i/\i<n/\(P.info? e).isSome=true then(nh o x (i.toNat*P.cellsOf e)).bind one else none
    |none=>none
 |_=>none
def gf(P:Program)(o:Nat->ab)(t:TypeId)(x:V)(f:Nat):Option V:=
 match bM P t f with
 |some q=>nh o x q
 |none=>none
def lU(P:Program)(o:Nat->ab)(t:TypeId)(x:V):Option eR:=
 match x with
 | .ptr id off=>match o id with
   | .row cs=>match dS P t cs off with
     |some v=>some (v,[],[id])
     |none=>none
   |_=>none
 | .pp cs off=>match dS P t (cs.map .d) off with
   |some v=>some (v,[],[])
   |none=>none
 | .pe id ep i sz off=>match o id with
   | .arr gG _ py es=>if ep=gG/\sz=py then match es[i]? with
    |some e=>match dS P t (e.cells.map .d) off with
     |some v=>some (v,[],[id])
     |none=>none
    |none=>none
     else none
   |_=>none
 |_=>none
def pT(P:Program)(o:Nat->ab)(t:TypeId)(x v:V):Option eR:=
 match x with
 | .ptr id off=>match o id with
   | .row cs=>match wA P t cs off v with
     |some cs'=>some (.bP [],[(id, .row cs')],[id])
     |none=>none
   |_=>none
 | .pe id ep i py off=>match o id with
   | .arr gG ty sz es=>if ep=gG/\py=sz then match es[i]?,dp o v with
    |some e,some y=>if y.cells.length=P.cellsOf t/\0<y.cells.length/\v.ids.all (· !=id)=true then match e.put off y.cells with
     |some e'=>some (.bP [],bZ o v.ids++[(id, .arr ep ty sz (es.set i e'))],id::v.ids)
     |none=>none
     else none
    |_,_=>none
     else none
   |_=>none
 |_=>none
def fe(P:Program)(o:Nat->ab)(fr:Nat)(t:TypeId)(len:Nat)(parts:List (Nat×V)):Option eR:=
 match bR P t with
 |some e=>if len=0/\parts.isEmpty=true/\0<P.cellsOf e then some (.osl fr 0,[(fr, .arr 0 e (P.cellsOf e) [])],[])else if parts.map (·.1)=List.range len/\(cg P e).isSome=true/\0<len/\0<P.cellsOf e/\len*P.cellsOf e<=2^24 then match bQ o (parts.map (·.2))with
  |some ds=>if ds.all (fun x=>x.cells.length==P.cellsOf e)=true then some (.osl fr 0,bZ o (V.a7 (parts.map (·.2)))++[(fr, .arr 0 e (P.cellsOf e) ds)],V.a7 (parts.map (·.2)))else none
  |none=>none
  else none
 |none=>none
def kL(P:Program)(fr:Nat)(t:TypeId)(l c:V):Option eR:=
 match bR P t with
 |some e=>match l,c with
  | .d (.int _ n), .d (.int _ m)=>if n=m/\0<=n/\0<P.cellsOf e/\P.bytesOf e*n.toNat<=2^47/\n.toNat<=2^47 then match yw P e with
   |some x=>some (.osl fr 0,[(fr, .arr 0 e (P.cellsOf e) (List.replicate n.toNat x))],[])
   |none=>none
    else none
  |_,_=>none
 |none=>none
def oG(P:Program)(o:Nat->ab)(fr:Nat)(ts:Array TypeId)(x y:V):Option eR:=
 match ts.toList with
 |[t,t']=>if t=t' then match bR P t,oF o y with
    |some e,some (new,rd)=>if 0<P.cellsOf e/\(cg P e).isSome=true/\new.all (fun z=>z.cells.length==P.cellsOf e)=true then match x with
     | .a8=>if new.length<=2^47/\new.length*P.bytesOf e<=2^47 then some (.osl fr 0,[(fr, .arr 0 e (P.cellsOf e) new)],rd)else none
     | .px es=>if es.all (fun z=>z.cells.length==P.cellsOf e)=true then(if new=[]then some (.px es,[],rd)else if es.length+new.length<=2^40/\(es.length+new.length)*P.bytesOf e<=2^40 then some (.osl fr 0,[(fr, .arr 0 e (P.cellsOf e) (es++new))],rd)else none)else none
     | .osl id ep=>match o id with
       | .arr gG ty sz es=>if ep=gG/\ty=e/\sz=P.cellsOf e/\es.length+new.length<=2^47/\(es.length+new.length)*P.bytesOf e<=2^47 then
        some (.osl id (ep+1),[(id, .arr (ep+1) ty sz (es++new))],id::rd)else none
       |_=>none
     |_=>none
     else none
    |_,_=>none
  else none
 |_=>none
def oH(isMax:Bool)(x y:V):Option V:=
 match x,y with
 | .d (.int k a), .d (.int k' b)=>if k=k' then some (.d (.int k (if isMax then(if b>a then b else a)else(if b<a then b else a))))else none
 |_,_=>none
def kM(x:Option V):Option eR:=match x with|some v=>one v|none=>none
def oI(P:Program)(s:S)(fr:Nat)(b:Builtin)(args:List Operand)(ts:Array TypeId):Option eR:=
 match b,args with
 | .len,[x]=>match ts.toList with
   |[t]=>BJ P t s.o (s.ev x)
   |_=>none
 | .append,[x,y]=>match uY P fr ts (s.ev x) (s.ev y)with
   |some r=>some r
   |none=>oG P s.o fr ts (s.ev x) (s.ev y)
 | .max,[x,y]=>kM (oH true (s.ev x) (s.ev y))
 | .min,[x,y]=>kM (oH false (s.ev x) (s.ev y))
 | .max,[x,y,z]=>kM (GU (s.ev x) (s.ev y) (s.ev z))
 | .copy,[x,y]=>uX P s.o ts (s.ev x) (s.ev y)
 | .delete,[x,y]=>match ts.toList.head? with
   |some t=>mz P s.o t (s.ev x) (s.ev y)
   |none=>none
 | .cap,[x]=>Kd P ts (s.ev x)
 |_,_=>none
def wT(P:Program)(t:TypeId)(parts:List (Nat×V)):Option V:=
 match cg P t,ei P t with
 |some z,some pl=>match qv pl z parts with
  |some cs=>some (nW cs)
  |none=>none
 |_,_=>none
def iB(o:Nat->ab)(x:V):Option V:=
 match x with
 | .ptr id off=>Hq (o id).bW (.ptr id off)
 | .pp cs off=>some (.pp cs off)
 | .func (.func f) first cap=>some (.func (.func f) first cap)
 |_=>none
def sB(P:Program)(t:TypeId):Bool:=
 match P.underlying t with
 |some (.interface _)=>false
 |some _=>true
 |none=>false
def Hr(P:Program)(t:TypeId)(x:V):Option V:=
 Hq (sB P t) (match x with
  | .d y=> .d (.iface t y)
  |v=> .iface t v)
def ew(P:Program)(o:Nat->ab)(op:BinOp)(t:TypeId)(mS:Bool)(x y:V):Option eR:=
 match wS P op t x y with
 |some v=>one v
 |none=>pL P o op t mS x y
def Ei(op:UnOp)(x:V):Option V:=
 match op,x with
 | .not, .ey=>some .ey
 |op,x=>unF op x
def fm(P:Program)(s:S)(fr:Nat)(op:Op):Option eR:=
 match op with
 | .move x=>one (s.ev x)
 | .assign x=>one (s.ev x)
 | .pick c a b=>kM (oE (s.ev c) (s.ev a) (s.ev b))
 | .alloc t=>match cg P t with
   |some cs=>some (.ptr fr 0,[(fr, .row cs)],[])
   |none=>none
 | .box _ x=>match(s.ev x).cells with
   |some cs=>some (.ptr fr 0,[(fr, .row cs)],[])
   |none=>none
 | .build t parts=>kM (wT P t (parts.toList.map fun p=>(p.1,s.ev p.2)))
 | .buildSlice t len parts=>fe P s.o fr t len (parts.toList.map fun p=>(p.1,s.ev p.2))
 | .load t x=>lU P s.o t (s.ev x)
 | .store t x v=>pT P s.o t (s.ev x) (s.ev v)
 | .nilCheck x=>kM (iB s.o (s.ev x))
 | .binOp op t x y _=>ew P s.o op t (isConst x||isConst y) (s.ev x) (s.ev y)
 | .unOp op _ x=>kM (Ei op (s.ev x))
 | .convert u t x=>match P.underlying u,uk P t,s.ev x with
   |some _,some k, .d (.int _ n)=>one (.d (.int k (k.wrap n)))
   |_,_,_=>none
 | .makeInterface t x=>kM (Hr P t (s.ev x))
 | .makeFunc fn first cap=>one (.func fn (first.toList.map s.ev) (cap.toList.map s.ev))
 | .makeSlice t l c=>kL P fr t (s.ev l) (s.ev c)
 | .fieldAddr t x f=>kM (gf P s.o t (s.ev x) f)
 | .indexAddr t x i=>fZ P s.o t (s.ev x) (s.ev i)
 | .extract x i=>match s.ev x with
   | .bP vs=>match vs[i]? with
     |some v=>one v
     |none=>none
   |_=>none
 | .call c=>match c.callee with
   | .builtin b=>oI P s fr b c.args.toList c.argTypes
   |_=>none
 | .slice t x lo hi mx=>pH P s.o t (s.ev x) (lo.map s.ev) (hi.map s.ev) (mx.map s.ev)
 | .field t x f=>kM (se P t (s.ev x) f)
 | .index t x i=>kM (si P t (s.ev x) (s.ev i))
 | .typeAssert x _ t ok=>kM (nZ P t ok (s.ev x))
 | .makeMap t none=>lE P fr t
 | .lookup t m k ok=>gB P s.o t (s.ev m) (s.ev k) ok
 | .mapUpdate t m k v=>eJ P s.o t (s.ev m) (s.ev k) (s.ev v)
 | .insert t m k v=>eJ P s.o t (s.ev m) (s.ev k) (s.ev v)
 | .range t x=>lF P s.o fr t (s.ev x)
 | .next x str=>na s.o (s.ev x) str
 | .entry x=>lG s.o (s.ev x)
 |_=>none
section
variable {P:Program}{s:S}{fr:Nat}{v:V}{Δ:List (Nat×ab)}{rd:List Nat}{o:Nat->ab}{K:V->List (Nat×ab)->List Nat->Prop}
theorem pU{α:Type}{c:Bool}{x y:α}(h:Hq c x=some y):c=true/\x=y:=by
 unfold Hq at h;split at h
 ·injection h with h;exact⟨by assumption,h⟩
 ·cases h
theorem jH{x:V}{r:eR}(h:one x=some r):r=(x,[],[]):=by unfold one at h;injection h with h;exact h.symm
theorem im{x:Option V}{r:eR}(h:kM x=some r):∃v,x=some v/\r=(v,[],[]):=by
 unfold kM at h;split at h
 ·exact⟨_,rfl,jH h⟩
 ·cases h
theorem BK{x:V}{es:List D}{rd:List Nat}(h:oF o x=some (es,rd)):dT o x=some es/\rd=x.ids:=by
 unfold oF at h
 split at h
 ·exact Gm
 ·exact Gm
 ·exact Gm
 ·split at h
  ·rename_i ho
   split at h
   ·rename_i e;simp at h;obtain⟨rfl,rfl⟩:=h;exact⟨by simp[dT,dp,ho,e],rfl⟩
   ·cases h
  ·rename_i ho
   split at h
   ·rename_i e;simp at h;obtain⟨rfl,rfl⟩:=h;exact⟨by simp[dT,dp,ho,e],rfl⟩
   ·cases h
  ·cases h
 ·cases h
theorem EO{op:BinOp}{k:IntKind}{a b:Int}{v:V}(h:zh op k a b=some v){K:V->Prop}(hK:K v):Ka op k a b K:=by
 cases op<;>simp only[zh]at h<;>simp only[Ka]
 case quo=>split at h
           ·cases h
           ·exact PC
 case rem=>split at h
           ·cases h
           ·exact PC
 case and=>simp only[Option.map_eq_some_iff]at h;obtain⟨r,h1,rfl⟩:=h;exact⟨r,h1,hK⟩
 case or=>simp only[Option.map_eq_some_iff]at h;obtain⟨r,h1,rfl⟩:=h;exact⟨r,h1,hK⟩
 case xor=>simp only[Option.map_eq_some_iff]at h;obtain⟨r,h1,rfl⟩:=h;exact⟨r,h1,hK⟩
 case andNot=>simp only[Option.map_eq_some_iff]at h;obtain⟨r,h1,rfl⟩:=h;exact⟨r,h1,hK⟩
 case shl=>cases h
 case shr=>cases h
 case eql=>injection h with h;subst h;exact⟨_,rfl,hK⟩
 case neq=>injection h with h;subst h;exact⟨_,rfl,hK⟩
 case lss=>injection h with h;subst h;exact⟨_,rfl,hK⟩
 case leq=>injection h with h;subst h;exact⟨_,rfl,hK⟩
 case gtr=>injection h with h;subst h;exact⟨_,rfl,hK⟩
 case geq=>injection h with h;subst h;exact⟨_,rfl,hK⟩
 all_goals (injection h with h;subst h;exact hK)
theorem EP{op:BinOp}{t:TypeId}{x y v:V}(h:wS P op t x y=some v){K:V->Prop}(hK:K v):GR P op t x y K:=by
 unfold wS at h
 unfold GR
 split at h
 ·split at h
  ·exact⟨by assumption,EO h hK⟩
  ·cases h
 ·have hb:kK P t=true->P.underlying t=some .bool:=by
   unfold kK;intro h;split at h
   ·assumption
   ·cases h
  split at h
  ·obtain⟨h1,rfl⟩:=pU h;exact⟨hb h1,hK⟩
  ·obtain⟨h1,rfl⟩:=pU h;exact⟨hb h1,hK⟩
  ·cases h
 ·split at h
  ·exact Gk
  ·exact Gk
  ·cases h
 ·cases h
theorem BL{c a b v:V}(h:oE c a b=some v){K:V->Prop}(hK:K v):yr c a b K:=by
 unfold oE at h
 unfold yr
 split at h
 ·injection h with h;subst h;exact⟨fun _=>hK,(fun h=>by cases h)⟩
 ·injection h with h;subst h;exact⟨(fun h=>by cases h),fun _=>hK⟩
 ·cases h
theorem sC{x y:V}{q:Nat}(h:nh o x q=some y):(∃id off,x= .ptr id off/\(o id).bW=true/\y= .ptr id (off+q))\/(∃cs off,x= .pp cs off/\y= .pp cs (off+q))\/
 (∃id ep j sz off,x= .pe id ep j sz off/\(o id).bT=some ep/\y= .pe id ep j sz (off+q)):=by
 unfold nh at h
 split at h
 ·obtain⟨h1,rfl⟩:=pU h;exact .inl ⟨_,_,rfl,h1,rfl⟩
 ·injection h with h;exact .inr (.inl ⟨_,_,rfl,h.symm⟩)
 ·split at h
  ·injection h with h;exact .inr (.inr ⟨_,_,_,_,_,rfl,by assumption,h.symm⟩)
  ·cases h
 ·cases h
theorem r9{e:TypeId}{es:List D}{i:Int}{rd:List Nat}{r:eR}(h:vm P e es i rd=some r):
 0<=i/\∃y,es[i.toNat]? =some y/\y.cells.length=P.cellsOf e/\0<P.cellsOf e/\r=(.pp y.cells 0,[],rd):=by
 unfold vm at h
 split at h
 ·rename_i h0
  split at h
  ·rename_i y hy
   obtain⟨h1,rfl⟩:=pU h
   simp only[Bool.and_eq_true,beq_iff_eq,decide_eq_true_eq]at h1
   exact⟨h0,y,hy,h1.1,h1.2,rfl⟩
  ·cases h
 ·cases h
theorem rm{t:TypeId}{x ix:V}(h:fZ P o t x ix=some (v,Δ,rd))(hK:K v Δ rd):iM P o t x ix fun v rd=>K v [] rd:=by
 unfold fZ at h
 unfold iM
 split at h
 ·simp only
  split at h
  ·rename_i e ht
   simp only[ht]
   split at h
   ·exact Vq
   ·exact Vq
   ·split at h
    ·rename_i ho
     split at h
     ·rename_i hc
      simp only[Option.some.injEq,Prod.mk.injEq]at h;obtain⟨rfl,rfl,rfl⟩:=h
      simp only[ho]
      exact⟨hc.1,hc.2.1,hc.2.2.1,hc.2.2.2.1,hc.2.2.2.2,hK⟩
     ·cases h
    ·rename_i ho
     split at h
     ·rename_i hc
      obtain⟨h0,y,h1,h2,h3,h4⟩:=r9 h
      simp only[Prod.mk.injEq]at h4;obtain⟨rfl,rfl,rfl⟩:=h4
      simp only[ho]
      exact⟨hc,h0,y,h1,h2,h3,hK⟩
     ·cases h
    ·cases h
   ·cases h
  ·rename_i ht
   simp only[ht]
   split at h
   ·rename_i n e ha
    simp only[ha]
    split at h
    ·rename_i hc
     simp only[Option.bind_eq_some_iff]at h
     obtain⟨y,hy,h1⟩:=h
     have h1:=jH h1
     simp only[Prod.mk.injEq]at h1;obtain⟨rfl,rfl,rfl⟩:=h1
     refine⟨hc.1,hc.2.1,hc.2.2, ?_⟩
     rcases sC hy with⟨_,_,rfl,h2,rfl⟩|⟨_,_,rfl,rfl⟩|⟨_,_,_,_,_,rfl,h2,rfl⟩
     ·exact⟨h2,hK⟩
     ·exact hK
     ·exact⟨h2,hK⟩
    ·cases h
   ·cases h
 ·cases h
theorem rn{t:TypeId}{x y:V}{f:Nat}(h:gf P o t x f=some y){K:V->Prop}(hK:K y):iN P o t x f K:=by
 unfold gf at h
 unfold iN
 split at h
 ·rename_i q hq
  simp only[hq]
  rcases sC h with⟨_,_,rfl,h2,rfl⟩|⟨_,_,rfl,rfl⟩|⟨_,_,_,_,_,rfl,h2,rfl⟩
  ·exact⟨h2,hK⟩
  ·exact hK
  ·exact⟨h2,hK⟩
 ·cases h
theorem ER{t:TypeId}{x:V}(h:BJ P t o x=some (v,Δ,rd))(hK:K v Δ rd):GS P t o x fun v rd=>K v [] rd:=by
 unfold BJ at h
 unfold GS
 split at h
 ·rename_i e hu
  simp only[hu]
  split at h
  ·rename_i es rE hl
   simp only[Option.some.injEq,Prod.mk.injEq]at h;obtain⟨rfl,rfl,rfl⟩:=h
   unfold oF at hl
   split at hl
   ·exact Gs
   ·exact Gs
   ·exact Gs
   ·split at hl
    ·rename_i ho
     split at hl
     ·rename_i hc;simp at hl;obtain⟨rfl,rfl⟩:=hl;simp only[ho];exact⟨hc,hK⟩
     ·cases hl
    ·rename_i ho
     split at hl
     ·rename_i hc;simp at hl;obtain⟨rfl,rfl⟩:=hl;simp only[ho];exact⟨hc,hK⟩
     ·cases hl
    ·cases hl
   ·cases hl
  ·cases h
 ·rename_i hu
  simp only[hu]
  split at h
  ·have h1:=jH h;simp only[Prod.mk.injEq]at h1;obtain⟨rfl,rfl,rfl⟩:=h1;exact hK
  ·cases h
 ·rename_i hu
  simp only[hu]
  have h1:=jH h;simp only[Prod.mk.injEq]at h1;obtain⟨rfl,rfl,rfl⟩:=h1;exact hK
 ·cases h
theorem BM{t:TypeId}{x:V}(h:lU P o t x=some (v,Δ,rd))(hK:K v Δ rd):yu P o t x fun v rd=>K v [] rd:=by
 unfold lU at h
 unfold yu
 split at h
 ·split at h
  ·rename_i ho
   split at h
   ·rename_i hg
    exact VD
   ·cases h
  ·cases h
 ·split at h
  ·rename_i hg
   simp only[Option.some.injEq,Prod.mk.injEq]at h;obtain⟨rfl,rfl,rfl⟩:=h
   exact⟨_,hg,hK⟩
  ·cases h
 ·split at h
  ·rename_i ho
   split at h
   ·rename_i hc
    split at h
    ·rename_i e he
     split at h
     ·rename_i hg
      simp only[Option.some.injEq,Prod.mk.injEq]at h;obtain⟨rfl,rfl,rfl⟩:=h
      simp only[ho];exact⟨hc.1,hc.2,e,he,_,hg,hK⟩
     ·cases h
    ·cases h
   ·cases h
  ·cases h
 ·cases h
theorem zi{t:TypeId}{x y:V}(h:pT P o t x y=some (v,Δ,rd))(hK:K v Δ rd):sd P o t x y fun Δ rd=>K (.bP []) Δ rd:=by
 unfold pT at h
 unfold sd
 split at h
 ·split at h
  ·rename_i ho
   split at h
   ·rename_i hg
    exact VD
   ·cases h
  ·cases h
 ·split at h
  ·rename_i ho
   split at h
   ·rename_i hc
    split at h
    ·rename_i e z he hz
     split at h
     ·rename_i hl
      split at h
      ·rename_i e' hp
       simp only[Option.some.injEq,Prod.mk.injEq]at h;obtain⟨rfl,rfl,rfl⟩:=h
       simp only[ho]
       exact⟨hc.1,hc.2,e,he,z,hz,hl.1,hl.2.1,hl.2.2,e',hp,hK⟩
      ·cases h
     ·cases h
    ·cases h
   ·cases h
  ·cases h
 ·cases h
theorem pV{t:TypeId}{len:Nat}{parts:List (Nat×V)}(h:fe P o fr t len parts=some (v,Δ,rd))(hK:K v Δ rd):gH P o fr t len parts K:=by
 unfold fe at h
 unfold gH
 split at h
 ·rename_i e ht
  simp only[ht]
  split at h
  ·rename_i hc
   simp only[Option.some.injEq,Prod.mk.injEq]at h;obtain⟨rfl,rfl,rfl⟩:=h
   exact .inl ⟨hc.1,by simpa using hc.2.1,hc.2.2,hK⟩
  split at h
  ·rename_i hc
   refine .inr ?_
   split at h
   ·rename_i ds hd
    split at h
    ·rename_i hw
     simp only[Option.some.injEq,Prod.mk.injEq]at h;obtain⟨rfl,rfl,rfl⟩:=h
     refine⟨hc.1,hc.2.1,hc.2.2.1,hc.2.2.2.1,hc.2.2.2.2,ds,hd,fun x hx=> ?_,hK⟩
     simpa using List.all_eq_true.1 hw x hx
    ·cases h
   ·cases h
  ·cases h
 ·cases h
theorem rp{t:TypeId}{l c:V}(h:kL P fr t l c=some (v,Δ,rd))(hK:K v Δ rd):iO P fr t l c fun v Δ=>K v Δ []:=by
 unfold kL at h
 unfold iO
 split at h
 ·rename_i e ht
  split at h
  ·split at h
   ·rename_i hc
    split at h
    ·rename_i x hx
     simp only[Option.some.injEq,Prod.mk.injEq]at h;obtain⟨rfl,rfl,rfl⟩:=h
     simp only[ht]
     exact⟨hc.1,hc.2.1,hc.2.2.1,hc.2.2.2.1,hc.2.2.2.2,x,hx,hK⟩
    ·cases h
   ·cases h
  ·cases h
 ·cases h
theorem wU{ts:Array TypeId}{x y:V}(h:oG P o fr ts x y=some (v,Δ,rd))(hK:K v Δ rd):nX P o fr ts x y K:=by
 unfold oG at h
 unfold nX
 split at h
 ·rename_i t t' qy
  simp only[qy]
  split at h
  ·rename_i htt
   refine⟨htt, ?_⟩
   split at h
   ·rename_i e new rE ht hl
    obtain⟨uv,rfl⟩:=BK hl
    simp only[ht]
    split at h
    ·rename_i hc
     refine⟨new,uv,hc.1,hc.2.1,fun z hz=>by simpa using List.all_eq_true.1 hc.2.2 z hz, ?_⟩
     split at h
     ·split at h
      ·rename_i qB
       simp only[Option.some.injEq,Prod.mk.injEq]at h;obtain⟨rfl,rfl,rfl⟩:=h
       exact⟨qB.1,qB.2,hK⟩
      ·cases h
     ·split at h
      ·rename_i CX
       refine⟨fun z hz=>by simpa using List.all_eq_true.1 CX z hz, ?_⟩
       split at h
       ·rename_i hn
        simp only[Option.some.injEq,Prod.mk.injEq]at h;obtain⟨rfl,rfl,rfl⟩:=h
        rw[if_pos hn];exact hK
       ·rename_i hn
        split at h
        ·rename_i qB
         simp only[Option.some.injEq,Prod.mk.injEq]at h;obtain⟨rfl,rfl,rfl⟩:=h
         rw[if_neg hn];exact⟨qB.1,qB.2,hK⟩
        ·cases h
      ·cases h
     ·split at h
      ·rename_i ho
       split at h
       ·rename_i qB
        simp only[Option.some.injEq,Prod.mk.injEq]at h;obtain⟨rfl,rfl,rfl⟩:=h
        simp only[ho]
        exact⟨qB.1,qB.2.1,qB.2.2.1,qB.2.2.2.1,qB.2.2.2.2,hK⟩
       ·cases h
      ·cases h
     ·cases h
    ·cases h
   ·cases h
  ·cases h
 ·cases h
theorem sD{x y:V}(h:iB o x=some y){K:V->Prop}(hK:K y):jV o x K:=by
 unfold iB at h
 unfold jV
 split at h
 ·obtain⟨h2,rfl⟩:=pU h;exact⟨h2,hK⟩
 ·exact Gk
 ·exact Gk
 ·cases h
theorem Hs{op:UnOp}{x y:V}(h:unF op x=some y){K:V->Prop}(hK:K y):VM op x K:=by
 unfold unF at h
 unfold VM
 split at h
 ·injection h with h;subst h;simp only;rw[Int.zero_sub];exact hK
 ·exact Gk
 ·cases h
theorem wq{m:Bool}{x y v:V}(h:oH m x y=some v){K:V->Prop}(hK:K v):my m [x,y] K:=by
 unfold oH at h
 unfold my
 split at h
 ·split at h
  ·exact PC
  ·cases h
 ·cases h
theorem zj{op:Op}(h:fm P s fr op=some (v,Δ,rd))(hK:K v Δ rd):M4 P s fr op K:=by
 cases op<;>simp only[fm]at h<;>simp only[M4]<;>try (cases h;done)
 case move x=>have h:=jH h;simp only[Prod.mk.injEq]at h;obtain⟨rfl,rfl,rfl⟩:=h;exact hK
 case assign x=>have h:=jH h;simp only[Prod.mk.injEq]at h;obtain⟨rfl,rfl,rfl⟩:=h;exact hK
 case pick c a b=>
  obtain⟨x,h1,h⟩:=im h;simp only[Prod.mk.injEq]at h;obtain⟨rfl,rfl,rfl⟩:=h
  exact BL h1 hK
 case alloc t=>
  split at h
  ·rename_i cs hz;simp only[Option.some.injEq,Prod.mk.injEq]at h;obtain⟨rfl,rfl,rfl⟩:=h;exact⟨cs,hz,hK⟩
  ·cases h
 case box t x=>
  split at h
  ·rename_i cs hz;simp only[Option.some.injEq,Prod.mk.injEq]at h;obtain⟨rfl,rfl,rfl⟩:=h;exact⟨cs,hz,hK⟩
  ·cases h
 case build t parts=>
  obtain⟨x,h1,h⟩:=im h;simp only[Prod.mk.injEq]at h;obtain⟨rfl,rfl,rfl⟩:=h
  unfold wT at h1
  split at h1
  ·rename_i z pl hz hp
   split at h1
   ·rename_i cs hc;injection h1 with h1;subst h1;exact⟨z,pl,cs,hz,hp,hc,hK⟩
   ·cases h1
  ·cases h1
 case buildSlice t len parts=>exact pV h hK
 case load t x=>exact BM h hK
 case store t x y=>exact zi h hK
 case nilCheck x=>
  obtain⟨y,h1,h⟩:=im h;simp only[Prod.mk.injEq]at h;obtain⟨rfl,rfl,rfl⟩:=h
  exact sD h1 hK
 case binOp op t x y yt=>
  unfold ew at h
  split at h
  ·rename_i z h1
   have h:=jH h;simp only[Prod.mk.injEq]at h;obtain⟨rfl,rfl,rfl⟩:=h
   exact .inl (EP h1 hK)
  ·right;simp only[h,cG];exact hK
 case unOp op t x=>
  obtain⟨z,h1,h⟩:=im h;simp only[Prod.mk.injEq]at h;obtain⟨rfl,rfl,rfl⟩:=h
  unfold Ei at h1
  split at h1
  ·rename_i hx;injection h1 with h1;subst h1;exact .inr ⟨rfl,hx,hK⟩
  ·exact .inl (Hs h1 hK)
 case slice t x lo hi mx=>simp only[h,cG];exact hK
 case field t x f=>
  exact PJ
 case typeAssert x xt t ok=>
  exact PJ
 case makeMap t r=>
  cases r with
  |none=>simp only[h,cG];exact hK
  |some x=>cases h
 case lookup t m k ok=>simp only[h,cG];exact hK
 case mapUpdate t m k v=>simp only[h,cG];exact hK
 case insert t m k v=>simp only[h,cG];exact hK
 case index t x i=>
  exact PJ
 case convert u t x=>
  split at h
  ·rename_i d k k' n hu hk hx
   have h:=jH h;simp only[Prod.mk.injEq]at h;obtain⟨rfl,rfl,rfl⟩:=h
   exact⟨by rw[hu];rfl,by simp only[hk,hx];exact hK⟩
  ·cases h
 case makeInterface t x=>
  obtain⟨z,h1,h⟩:=im h;simp only[Prod.mk.injEq]at h;obtain⟨rfl,rfl,rfl⟩:=h
  obtain⟨h2,rfl⟩:=pU h1
  refine⟨?_, ?_⟩
  ·unfold sB at h2
   cases hd:P.underlying t with
   |none=>simp[hd]at h2
   |some d=>exact⟨d,rfl,by cases d<;>simp_all⟩
  ·split
   ·rename_i y hy;simp only[hy]at hK;exact hK
   ·rename_i hy
    split at hK
    ·rename_i y hy';exact absurd hy' (hy y)
    ·exact hK
 case makeFunc fn first cap=>have h:=jH h;simp only[Prod.mk.injEq]at h;obtain⟨rfl,rfl,rfl⟩:=h;exact hK
 case makeSlice t l c=>
  exact rp h hK
 case fieldAddr t x f=>
  obtain⟨z,h1,h⟩:=im h;simp only[Prod.mk.injEq]at h;obtain⟨rfl,rfl,rfl⟩:=h
  exact rn h1 hK
 case indexAddr t x i=>
  exact rm h hK
 case extract x i=>
  split at h
  ·rename_i vs hv
   split at h
   ·rename_i u hu
    have h:=jH h;simp only[Prod.mk.injEq]at h;obtain⟨rfl,rfl,rfl⟩:=h
    simp only[hv];exact⟨_,hu,hK⟩
   ·cases h
  ·cases h
 case call c=>
  obtain⟨Hd,args,ts⟩:=c
  cases Hd<;>simp only at h|- <;>try (cases h;done)
  rename_i b
  unfold oI at h
  unfold sj
  split at h
  ·rename_i x ha
   simp only[ha]
   split at h
   ·rename_i t qy;exact⟨t,qy,ER h hK⟩
   ·cases h
  ·rename_i x y ha
   simp only[ha]
   split at h
   ·rename_i r hr
    simp only[Option.some.injEq]at h
    subst h
    exact .inl (by rw[hr];exact hK)
   ·exact .inr (wU h hK)
  ·rename_i x y ha
   exact Vu
  ·rename_i x y ha
   exact Vu
  ·rename_i x y z ha
   simp only[ha]
   obtain⟨v0,h1,h⟩:=im h;simp only[Prod.mk.injEq]at h;obtain⟨rfl,rfl,rfl⟩:=h
   exact UT
  ·rename_i x y ha
   simp only[ha,h,cG];exact hK
  ·rename_i x y ha
   simp only[ha]
   split at h
   ·rename_i t ht;exact⟨t,ht,by simp only[h,cG];exact hK⟩
   ·cases h
  ·rename_i x ha
   simp only[ha,h,cG];exact hK
  ·cases h
 case range t x=>simp only[h,cG];exact hK
 case next x str=>left;simp only[h,cG];exact hK
 case entry x=>simp only[h,cG];exact hK
end
end
section
def sE(P:Program)(g:FuncId)(ds:List D)(o o1 oa:Nat->ab)(K:V->(Nat->ab)->Prop)(X:V->(Nat->ab)->Prop):Prop:=
 ∃out,aR P g ds out/\((match out with| .ret rs=>K (iu rs) o1| .bD x=>X (.d x) o1)\/(out.flat=true/\match out with| .ret rs=>K (iu rs) o| .bD x=>X (.d x) o)\/(out.lO=true/\match out with| .ret rs=>K (iu rs) oa| .bD x=>X (.d x) oa))
def qG(P:Program)(g:FuncId)(args:List V)(o:Nat->ab)(nx:Nat)(K:V->(Nat->ab)->Nat->Prop)(X:V->(Nat->ab)->Nat->Prop):Prop:=m6 P g args o nx K X
theorem m6.mono {P:Program}{g:FuncId}{args:List V}{o:Nat->ab}{nx:Nat}{K X K' X':V->(Nat->ab)->Nat->Prop}(hK:∀v o n,K v o n->K' v o n)(hX:∀v o n,X v o n->X' v o n)(h:m6 P g args o nx K X):m6 P g args o nx K' X':=
 h.imp (cZ.mono hK hX) (cZ.mono hK hX)
@[congr] theorem Nn {P:Program} {g g':FuncId} {ds V7:List D} {o o1 oa:Nat->ab} {K X} (h:g=g') (h':ds=V7):sE P g ds o o1 oa K X=sE P g' V7 o o1 oa K X:=by subst h;subst h';rfl
@[congr] theorem Np {P:Program} {g g':FuncId} {bU V8:List V} {o:Nat->ab} {nx:Nat} {K X} (h:g=g') (h':bU=V8):qG P g bU o nx K X=qG P g' V8 o nx K X:=by subst h;subst h';rfl
def Nq(P:Program)(g:FuncId)(args:List V)(o:Nat->ab)(nx:Nat)(K X:V->(Nat->ab)->Nat->Prop):Prop:=
 (∃ds,bQ o args=some ds/\sE P g ds o (put o (bZ o (V.a7 args))) (put o (pG o (V.a7 args))) (fun v o'=>K v o' (nx+1)) (fun v o'=>X v o' (nx+1)))\/cZ P g args o nx K X
def F4(P:Program)(s:S)(o:bI)(X:V->S->Prop)(K:S->Prop):Prop:=
 match o.op with
 | .call c=>match c.callee with
   | .value f=>match s.ev f with
     | .func (.func g) first cap=>match bQ s.o (first++c.args.toList.map s.ev++cap)with
       |some ds=>sE P g ds s.o (put s.o (bZ s.o (V.a7 (first++c.args.toList.map s.ev++cap)))) (put s.o (pG s.o (V.a7 (first++c.args.toList.map s.ev++cap)))) (fun v o'=>K ⟨aT s.env o.dst v,o',s.nx+1⟩) (fun v o'=>X v ⟨s.env,o',s.nx+1⟩)\/
        qG P g (first++c.args.toList.map s.ev++cap) s.o s.nx (fun v o' nx'=>K ⟨aT s.env o.dst v,o',nx'⟩) (fun v o' nx'=>X v ⟨s.env,o',nx'⟩)
       |none=>qG P g (first++c.args.toList.map s.ev++cap) s.o s.nx (fun v o' nx'=>K ⟨aT s.env o.dst v,o',nx'⟩) (fun v o' nx'=>X v ⟨s.env,o',nx'⟩)
     | .ir id=>dc P id (c.args.toList.map s.ev) s.o s.nx (fun v o' nx'=>K ⟨aT s.env o.dst v,o',nx'⟩) (fun v o' nx'=>X v ⟨s.env,o',nx'⟩)
     |_=>False
   | .invoke r m=>match sw P m (s.ev r)with
     |some (g,y)=>Nq P g (y::c.args.toList.map s.ev) s.o s.nx (fun v o' nx'=>K ⟨aT s.env o.dst v,o',nx'⟩) (fun v o' nx'=>X v ⟨s.env,o',nx'⟩)
     |none=>False
   |_=>match fm P s s.nx o.op with
    |some (v,Δ,_)=>K ⟨aT s.env o.dst v,put s.o Δ,s.nx+1⟩
    |none=>False
 | .panic x=>match s.ev x with
   | .d (.iface t y)=>X (.d (.iface t y)) s
   | .iface t y=>X (.iface t y) s
   |_=>False
 | .next x str=>match nb s.o (s.ev x)with
   |some (id,l)=>str=false/\CP id l fun v Δ _=>K ⟨aT s.env o.dst v,put s.o Δ,s.nx+1⟩
   |none=>match fm P s s.nx o.op with
    |some (v,Δ,_)=>K ⟨aT s.env o.dst v,put s.o Δ,s.nx+1⟩
    |none=>False
 |op=>match fm P s s.nx op with
  |some (v,Δ,_)=>K ⟨aT s.env o.dst v,put s.o Δ,s.nx+1⟩
  |none=>False
def nD(P:Program)(X:V->S->Prop)(K:S->Prop):List bI->S->Prop
 |[],s=>K s
 |o::l,s=>match o.gd with
  |none=>F4 P s o X (nD P X K l)
  |some (d,want)=>match s.env d with
   | .d (.bool b)=>if b=want then F4 P s o X (nD P X K l)else nD P X K l ⟨aT s.env o.dst (.bP []),s.o,s.nx+1⟩
   | .bP []=>nD P X K l ⟨aT s.env o.dst (.bP []),s.o,s.nx+1⟩
   |_=>False
def Ht(b:Nat)(body:(eK->S->Prop)->S->Prop)(Q:eK->S->Prop)(s:S):Prop:=
 ∃ (J:Nat->S->Prop),(∃m s1,bf b s s1/\J m s1)/\∀m s0,J m s0->body (fun e s=>match e with| .normal=>∃m' s1,m'<m/\bf b s s1/\J m' s1|e=>Q e s) s0
@[congr] theorem Nr {b:Nat} {body Q} {s s':S} (h:s=s'):Ht b body Q s=Ht b body Q s':=by subst h;rfl
def oJ(t:Bool)(A B:Prop):Prop:=(t=true->A)/\(t=false->B)
@[congr] theorem Ns {t t':Bool} {A B:Prop} (h:t=t'):oJ t A B=oJ t' A B:=by subst h;rfl
@[simp] theorem sF (A B:Prop):oJ true A B=A:=by simp[oJ]
@[simp] theorem qH (A B:Prop):oJ false A B=B:=by simp[oJ]
section
variable {P:Program}{n b:Nat}
theorem C7{s:S}{o:bI}{o':Oper}{X X':V->S->Prop}{K K':S->Prop}(fN:o'.op=o.op)(cz:o'.dst=o.dst)(hd:fy n o'.dst)(hK:∀s,K s->K' s)(hX:∀v s,X v s->X' v s)(h:F4 P s o X K):opW P n s o' X' K':=by
 refine⟨hd, ?_⟩
 rw[cz,fN]
 unfold F4 at h
 have hs:∀ {op:Op},(match fm P s s.nx op with|some (v,Δ,_)=>K ⟨aT s.env o.dst v,put s.o Δ,s.nx+1⟩|none=>False)->M4 P s s.nx op fun v Δ _=>K' ⟨aT s.env o.dst v,put s.o Δ,s.nx+1⟩:=by
  intro op h
  split at h
  ·rename_i v Δ rd he;exact zj he (hK _ h)
  ·exact h.elim
 split at h
 ·rename_i c hc
  split at h
  ·rename_i f ee
   simp only[hc,ee]
   split at h
   ·rename_i g first cap hf
    unfold y0
    simp only[hf]
    unfold sv
    split at h
    ·rename_i ds eg
     rcases h with⟨out,hP,h|⟨pw,h⟩|⟨pw,h⟩⟩|h
     ·exact MO
     ·exact ME
     ·exact VG
     ·exact UZ
    ·exact UZ
   ·rename_i id hf
    unfold y0
    simp only[hf]
    exact dc.mono (fun v o n h=>hK _ h) (fun v o n h=>hX _ _ h) h
   ·exact h.elim
  ·rename_i r m ee
   simp only[hc,ee]
   split at h
   ·rename_i g y hr
    simp only[hr]
    unfold sv
    rcases h with⟨ds,eg,out,hP,h|⟨pw,h⟩|⟨pw,h⟩⟩|h
    ·exact MO
    ·exact ME
    ·exact VG
    ·exact .inr (.inr (.inr (.inl (cZ.mono (fun v o n h=>hK _ h) (fun v o n h=>hX _ _ h) h))))
   ·exact h.elim
  ·rename_i ee hinv
   rw[hc]at h|-
   obtain⟨Hd,args,ts⟩:=c
   cases Hd with
   |value f=>exact absurd rfl (ee f)
   |invoke r m=>exact absurd rfl (hinv r m)
   |_=>exact hs h
 ·rename_i x hx
  simp only[hx]
  split at h
  ·rename_i hv;simp only[hv];exact hX _ _ h
  ·rename_i hv;simp only[hv];exact hX _ _ h
  ·exact h.elim
 ·rename_i x str hx
  rw[hx]at h|-
  split at h
  ·rename_i id l hl
   exact .inr ⟨h.1,id,l,hl,fun e=>hK _ (h.2.1 e),fun i k x e=>hK _ (h.2.2 i k x e)⟩
  ·exact hs h
 ·rename_i hc hp ud
  have h2:=hs h
  cases hh:o.op<;>first
   |exact absurd hh (hc _)
   |exact absurd hh (hp _)
   |exact absurd hh (ud _ _)
   |(rw[hh]at h2;exact h2)
theorem iC{ops:Array Oper}{X X':V->S->Prop}{K K':S->Prop}(hK:∀s,K s->K' s)(hX:∀v s,X v s->X' v s):∀ (l:List Oper) (l':List bI) (s:S),jS n ops l=some l'->nD P X K l' s->wL P n ops X' K' l s
 |[],l',s,h,hr=>by simp[jS]at h;subst h;exact hK _ hr
 |o::l,l',s,h,hr=>by
  simp only[jS]at h
  split at h
  ·rename_i x xs hx Bp
   injection h with h;subst h
   unfold GO at hx
   split at hx
   ·rename_i hd
    have cz:fy n o.dst:=by
     unfold Bi at hd;unfold fy
     split at hd<;>simp_all
    simp only[wL,wK]
    cases hg:o.guard with
    |none=>
     simp only[hg]at hx
     injection hx with hx;subst hx
     exact C7 rfl rfl cz (fun s hs=>iC hK hX l xs s Bp hs) hX hr
    |some p=>
     obtain⟨j,want⟩:=p
     simp only[hg]at hx
     cases Nt:qt ops j with
     |none=>simp[Nt]at hx
     |some d=>
      simp only[Nt]at hx
      injection hx with hx;subst hx
      simp only
      simp only[nD]at hr
      split at hr
      ·rename_i t ht
       simp only[Nt,ht]
       split at hr
       ·rename_i e
        exact⟨fun _=>C7 rfl rfl cz (fun s hs=>iC hK hX l xs s Bp hs) hX hr,fun h=>absurd e h⟩
       ·rename_i e
        exact⟨fun h=>absurd h e,fun _=>⟨cz,iC hK hX l xs _ Bp hr⟩⟩
      ·rename_i ht
       simp only[Nt,ht]
       exact⟨cz,iC hK hX l xs _ Bp hr⟩
      ·exact hr.elim
   ·cases hx
  ·cases h
end
end
section
mutual
def V.refs:V->List Nat
 | .ptr id _=>[id]| .osl id _=>[id]| .pe id _ _ _ _=>[id]| .uU id _ _=>[id]| .mp id=>[id]| .ir id=>[id]
 | .agg cs=>V.aJ cs
 | .bP cs=>V.aJ cs
 | .func _ a b=>V.aJ a++V.aJ b
 | .iface _ x=>x.refs
 |_=>[]
def V.aJ:List V->List Nat
 |[]=>[]
 |v::vs=>v.refs++V.aJ vs
end
mutual
theorem iU:∀ (v:V),∀id∈v.ids,id∈v.refs
 | .osl id _,j,h=>by simpa[V.ids,V.refs]using h
 | .agg cs,j,h=>by simp only[V.ids]at h;simp only[V.refs];exact ky cs j h
 | .iface _ x,j,h=>by simp only[V.ids]at h;simp only[V.refs];exact iU x j h
 | .mp _,j,h=>by simpa[V.ids,V.refs]using h
 | .d _,_,h| .a8,_,h| .bP _,_,h| .ptr _ _,_,h| .pe _ _ _ _ _,_,h| .pp _ _,_,h| .func _ _ _,_,h| .aa,_,h| .px _,_,h| .uU _ _ _,_,h| .ey,_,h| .ir _,_,h=>by simp[V.ids]at h
theorem ky:∀ (vs:List V),∀id∈V.a7 vs,id∈V.aJ vs
 |[],j,h=>by simp[V.a7]at h
 |v::vs,j,h=>by
  simp only[V.a7,V.aJ,List.mem_append]at h|-
  exact h.imp (iU v j) (ky vs j)
end
mutual
theorem cO{o o':Nat->ab}:∀ (v:V),(∀id∈v.refs,o' id=o id)->dp o' v=dp o v
 | .osl id ep,h=>by simp only[dp,h id (by simp[V.refs])]
 | .mp id,h=>by simp only[dp,h id (by simp[V.refs])]
 | .agg cs,h=>by simp only[dp,gh cs (by simpa[V.refs]using h)]
 | .iface t x,h=>by simp only[dp,cO x (by simpa[V.refs]using h)]
 | .d _,_| .a8,_| .bP _,_| .ptr _ _,_| .pe _ _ _ _ _,_| .pp _ _,_| .func _ _ _,_| .aa,_| .px _,_| .uU _ _ _,_| .ey,_| .ir _,_=>by simp only[dp]
theorem gh{o o':Nat->ab}:∀ (vs:List V),(∀id∈V.aJ vs,o' id=o id)->bQ o' vs=bQ o vs
 |[],_=>rfl
 |v::vs,h=>by
  simp only[bQ,cO v (fun id au=>h id (by simp[V.aJ,au])),gh vs (fun id au=>h id (by simp[V.aJ,au]))]
end
theorem fT{o o':Nat->ab}{ids:List Nat}(h:∀id∈ids,o' id=o id):bZ o' ids=bZ o ids:=by
 rw[kD,kD]
 exact List.map_congr_left fun id au=>by rw[h id au]
def m5(s:S)(op:Op):List Nat:=
 match op with
 | .load _ x=>(s.ev x).refs
 | .nilCheck x=>(s.ev x).refs
 | .fieldAddr _ x _=>(s.ev x).refs
 | .indexAddr _ x _=>(s.ev x).refs
 | .store _ x v=>(s.ev x).refs++(s.ev v).refs
 | .buildSlice _ _ parts=>V.aJ (parts.toList.map fun p=>s.ev p.2)
 | .binOp _ _ x y _=>(s.ev x).refs++(s.ev y).refs
 | .slice _ x _ _ _=>(s.ev x).refs
 | .lookup _ m k _=>(s.ev m).refs++(s.ev k).refs
 | .mapUpdate _ m k v=>(s.ev m).refs++((s.ev k).refs++(s.ev v).refs)
 | .insert _ m k v=>(s.ev m).refs++((s.ev k).refs++(s.ev v).refs)
 | .range _ x=>(s.ev x).refs
 | .next x _=>(s.ev x).refs
 | .entry x=>(s.ev x).refs
 | .call c=>match c.callee with
   | .builtin _=>V.aJ (c.args.toList.map s.ev)
   | .value f=>match s.ev f with
     | .func _ first cap=>V.aJ (first++c.args.toList.map s.ev++cap)
     |_=>[]
   |_=>[]
 |_=>[]
section
variable {P:Program}{s s':S}{fr:Nat}
theorem qI{o o':Nat->ab}(v:V)(h:∀id∈v.refs,o' id=o id):oF o' v=oF o v:=by
 cases v with
 |osl id ep=>simp only[oF,h id (by simp[V.refs])]
 |d x=>cases x<;>rfl
 |_=>rfl
theorem qJ{o o':Nat->ab}(v:V)(q:Nat)(h:∀id∈v.refs,o' id=o id):nh o' v q=nh o v q:=by
 cases v<;>simp only[nh]<;>rw[h _ (by simp[V.refs])]
theorem BN{o o':Nat->ab}(v:V)(h:∀id∈v.refs,o' id=o id):yx o' v=yx o v:=by
 have h1:dT o' v=dT o v:=by unfold dT;rw[cO v h]
 cases v<;>first|rfl|simp only[yx,h1]
theorem wV{o o':Nat->ab}(v:V)(h:∀id∈v.refs,o' id=o id):pI o' v=pI o v:=by
 cases v with
 |mp id=>simp only[pI,h id (by simp[V.refs])]
 |d x=>cases x<;>rfl
 |_=>rfl
theorem wW{o o':Nat->ab}(v:V)(h:∀id∈v.refs,o' id=o id):pK o' v=pK o v:=by
 cases v with
 |ptr id off=>simp only[pK,h id (by simp[V.refs])]
 |d x=>cases x<;>rfl
 |_=>rfl
theorem lV{o o':Nat->ab}(v:V)(h:∀id∈v.refs,o' id=o id):m9 o' v=m9 o v:=by
 cases v with
 |mp id=>simp only[m9,h id (by simp[V.refs])]
 |d x=>cases x<;>rfl
 |_=>rfl
theorem zk{o o':Nat->ab}(v:V)(h:∀id∈v.refs,o' id=o id):n6 o' v=n6 o v:=by
 cases v with
 |mp id=>simp only[n6,h id (by simp[V.refs])]
 |d x=>cases x<;>rfl
 |_=>rfl
theorem zl{o o':Nat->ab}(v:V)(str:Bool)(h:∀id∈v.refs,o' id=o id):na o' v str=na o v str:=by
 cases v with
 |ptr id off=>cases off<;>simp only[na,h id (by simp[V.refs])]
 |_=>rfl
theorem wX{o o':Nat->ab}(v:V)(h:∀id∈v.refs,o' id=o id):lG o' v=lG o v:=by
 cases v with
 |ptr id off=>cases off<;>simp only[lG,h id (by simp[V.refs])]
 |_=>rfl
theorem wY{o o':Nat->ab}{fr:Nat}{t:TypeId}{P:Program}(v:V)(h:∀id∈v.refs,o' id=o id):lF P o' fr t v=lF P o fr t v:=by
 unfold lF
 cases v with
 |mp id=>simp only[h id (by simp[V.refs])]
 |d x=>cases x<;>rfl
 |_=>rfl
theorem wZ{o o':Nat->ab}(v:V)(h:∀id∈v.refs,o' id=o id):nq o' v=nq o v:=by
 cases v with
 |ptr id off=>simp only[nq,h id (by simp[V.refs])]
 |_=>rfl
theorem w6{o o':Nat->ab}(v:V)(h:∀id∈v.refs,o' id=o id):nr o' v=nr o v:=by
 cases v with
 |uU id off n=>simp only[nr,h id (by simp[V.refs])]
 |_=>rfl
theorem BO(op:Op)(hv:∀x∈op.operands,s'.ev x=s.ev x)(ho:∀id∈m5 s op,s'.o id=s.o id):fm P s' fr op=fm P s fr op:=by
 cases op<;>simp only[fm]
 case move x=>rw[hv x (by simp[Op.operands])]
 case assign x=>rw[hv x (by simp[Op.operands])]
 case pick c a b=>rw[hv c (by simp[Op.operands]),hv a (by simp[Op.operands]),hv b (by simp[Op.operands])]
 case box t x=>rw[hv x (by simp[Op.operands])]
 case build t parts=>
  have:(parts.toList.map fun p=>(p.1,s'.ev p.2))=parts.toList.map fun p=>(p.1,s.ev p.2):=
   List.map_congr_left fun p hp=>by rw[hv p.2 (by simp only[Op.operands];simp;exact⟨p.1,by simpa using hp⟩)]
  rw[this]
 case buildSlice t len parts=>
  have:(parts.toList.map fun p=>(p.1,s'.ev p.2))=parts.toList.map fun p=>(p.1,s.ev p.2):=
   List.map_congr_left fun p hp=>by rw[hv p.2 (by simp only[Op.operands];simp;exact⟨p.1,by simpa using hp⟩)]
  rw[this]
  have e:(parts.toList.map fun p=>(p.1,s.ev p.2)).map (·.2)=parts.toList.map fun p=>s.ev p.2:=by simp[Function.comp_def]
  have h1:bQ s'.o ((parts.toList.map fun p=>(p.1,s.ev p.2)).map (·.2))=bQ s.o ((parts.toList.map fun p=>(p.1,s.ev p.2)).map (·.2)):=gh _ (by rw[e];exact ho)
  have h2:bZ s'.o (V.a7 ((parts.toList.map fun p=>(p.1,s.ev p.2)).map (·.2)))=bZ s.o (V.a7 ((parts.toList.map fun p=>(p.1,s.ev p.2)).map (·.2))):=
   fT fun id au=>ho id (by rw[e]at au;exact ky _ id au)
  simp only[fe,h1,h2]
 case load t x=>
  rw[hv x (by simp[Op.operands])]
  cases hx:s.ev x<;>simp only[lU]<;>rw[ho _ (by simp[m5,hx,V.refs])]
 case store t x y=>
  rw[hv x (by simp[Op.operands]),hv y (by simp[Op.operands])]
  have h1:dp s'.o (s.ev y)=dp s.o (s.ev y):=cO _ fun id au=>ho id nm
  have h2:bZ s'.o (s.ev y).ids=bZ s.o (s.ev y).ids:=fT fun id au=>ho id (by simp[m5,iU _ _ au])
  cases hx:s.ev x<;>simp only[pT]<;>rw[ho _ (by simp[m5,hx,V.refs])]
  simp only[h1,h2]
 case nilCheck x=>
  rw[hv x (by simp[Op.operands])]
  cases hx:s.ev x with
  |ptr id off=>simp only[iB];rw[ho _ (by simp[m5,hx,V.refs])]
  |func fn a b=>cases fn<;>rfl
  |_=>rfl
 case binOp op t x y yt=>
  rw[hv x (by simp[Op.operands]),hv y (by simp[Op.operands])]
  have h1:yx s'.o (s.ev x)=yx s.o (s.ev x):=BN _ fun id au=>ho id nm
  have h2:∀a b,ua P s'.o a b (s.ev x) (s.ev y)=ua P s.o a b (s.ev x) (s.ev y):=fun a b=>by
   have h3:∀id∈(s.ev x).refs,s'.o id=s.o id:=fun id au=>ho id nm
   have h4:=wV (s.ev x) h3
   have h5:=wW (s.ev x) h3
   unfold ua
   rw[h1,h4,h5]
  unfold ew pL
  simp only[h2]
 case slice t x lo hi mx=>
  rw[hv x (by simp[Op.operands])]
  have e1:lo.map s'.ev=lo.map s.ev:=by cases lo<;>simp[hv,Op.operands]
  have e2:hi.map s'.ev=hi.map s.ev:=by cases hi<;>simp[hv,Op.operands]
  have e3:mx.map s'.ev=mx.map s.ev:=by cases mx<;>simp[hv,Op.operands]
  rw[e1,e2,e3]
  have h3:∀id∈(s.ev x).refs,s'.o id=s.o id:=fun id au=>ho id nm
  have h1:dT s'.o (s.ev x)=dT s.o (s.ev x):=by unfold dT;rw[cO _ h3]
  have h2:bZ s'.o (s.ev x).ids=bZ s.o (s.ev x).ids:=fT fun id au=>h3 id (iU _ _ au)
  have h4:Bk P s'.o t (s.ev x) (lo.map s.ev) (hi.map s.ev) (mx.map s.ev)=Bk P s.o t (s.ev x) (lo.map s.ev) (hi.map s.ev) (mx.map s.ev):=by
   cases hx:s.ev x with
   |osl id ep=>simp only[Bk,h3 id (by simp[hx,V.refs])]
   |_=>rfl
  unfold pH nY
  simp only[h1,h2,h4,wZ _ h3]
 case field t x f=>rw[hv x (by simp[Op.operands])]
 case typeAssert x xt t ok=>rw[hv x (by simp[Op.operands])]
 case makeMap t r=>cases r<;>rfl
 case lookup t m k ok=>
  rw[hv m (by simp[Op.operands]),hv k (by simp[Op.operands])]
  have h3:∀id∈(s.ev m).refs,s'.o id=s.o id:=fun id au=>ho id nm
  have h1:dp s'.o (s.ev k)=dp s.o (s.ev k):=cO _ fun id au=>ho id nm
  unfold gB
  simp only[h1,zk _ h3]
 case mapUpdate t m k v=>
  rw[hv m (by simp[Op.operands]),hv k (by simp[Op.operands]),hv v (by simp[Op.operands])]
  have h3:∀id∈(s.ev m).refs,s'.o id=s.o id:=fun id au=>ho id nm
  have h1:dp s'.o (s.ev k)=dp s.o (s.ev k):=cO _ fun id au=>ho id nm
  have h2:dp s'.o (s.ev v)=dp s.o (s.ev v):=cO _ fun id au=>ho id nm
  have h4:bZ s'.o (s.ev v).ids=bZ s.o (s.ev v).ids:=fT fun id au=>ho id (by simp[m5,iU _ _ au])
  unfold eJ
  simp only[h1,h2,h4,lV _ h3]
 case insert t m k v=>
  rw[hv m (by simp[Op.operands]),hv k (by simp[Op.operands]),hv v (by simp[Op.operands])]
  have h3:∀id∈(s.ev m).refs,s'.o id=s.o id:=fun id au=>ho id nm
  have h1:dp s'.o (s.ev k)=dp s.o (s.ev k):=cO _ fun id au=>ho id nm
  have h2:dp s'.o (s.ev v)=dp s.o (s.ev v):=cO _ fun id au=>ho id nm
  have h4:bZ s'.o (s.ev v).ids=bZ s.o (s.ev v).ids:=fT fun id au=>ho id (by simp[m5,iU _ _ au])
  unfold eJ
  simp only[h1,h2,h4,lV _ h3]
 case index t x i=>rw[hv x (by simp[Op.operands]),hv i (by simp[Op.operands])]
 case range t x=>
  rw[hv x (by simp[Op.operands])]
  exact wY _ fun id au=>ho id nm
 case next x str=>
  rw[hv x (by simp[Op.operands])]
  exact zl _ _ fun id au=>ho id nm
 case entry x=>
  rw[hv x (by simp[Op.operands])]
  exact wX _ fun id au=>ho id nm
 case unOp op t x=>rw[hv x (by simp[Op.operands])]
 case convert u t x=>rw[hv x (by simp[Op.operands])]
 case makeInterface t x=>rw[hv x (by simp[Op.operands])]
 case makeFunc fn first cap=>
  have h1:first.toList.map s'.ev=first.toList.map s.ev:=List.map_congr_left fun x hx=>hv x (by simp only[Op.operands];exact Array.mem_append.2 (.inl (Array.mem_toList_iff.1 hx)))
  have h2:cap.toList.map s'.ev=cap.toList.map s.ev:=List.map_congr_left fun x hx=>hv x (by simp only[Op.operands];exact Array.mem_append.2 (.inr (Array.mem_toList_iff.1 hx)))
  rw[h1,h2]
 case makeSlice t l c=>rw[hv l (by simp[Op.operands]),hv c (by simp[Op.operands])]
 case fieldAddr t x f=>
  rw[hv x (by simp[Op.operands])]
  simp only[gf]
  cases bM P t f<;>simp only
  rw[qJ _ _ (by simpa[m5]using ho)]
 case indexAddr t x i=>
  rw[hv x (by simp[Op.operands]),hv i (by simp[Op.operands])]
  have h1:∀q,nh s'.o (s.ev x) q=nh s.o (s.ev x) q:=fun q=>qJ _ _ (by simpa[m5]using ho)
  simp only[fZ,h1]
  cases hx:s.ev x with
  |osl id ep=>simp only[ho id (by simp[m5,hx,V.refs])]
  |d y=>cases y<;>rfl
  |_=>rfl
 case extract x i=>rw[hv x (by simp[Op.operands])]
 case call c=>
  obtain⟨Hd,args,ts⟩:=c
  cases Hd<;>simp only
  rename_i b
  unfold oI
  have hm:∀x∈args.toList,s'.ev x=s.ev x:=fun x hx=>hv x UR
  have hr:∀x∈args.toList,∀id∈(s.ev x).refs,s'.o id=s.o id:=by
   intro x hx id au
   refine ho id ?_
   simp only[m5]
   generalize args.toList=l at hx
   induction l with
   |nil=>cases hx
   |cons y l ih=>
    simp only[List.map_cons,V.aJ,List.mem_append]
    rcases List.mem_cons.1 hx with rfl|hx
    ·exact .inl au
    ·exact .inr (ih hx)
  split
  ·rename_i x ha
   rw[ha]at hm hr
   rw[hm x (by simp)]
   have h1:∀t,BJ P t s'.o (s.ev x)=BJ P t s.o (s.ev x):=fun t=>by simp only[BJ,qI _ (hr x (by simp))]
   simp only[h1]
  ·rename_i x y ha
   rw[ha]at hm hr
   rw[hm x (by simp),hm y (by simp)]
   simp only[oG,qI _ (hr y (by simp))]
   cases uY P fr ts (s.ev x) (s.ev y)with
   |some r=>rfl
   |none=>
   dsimp only
   cases hx:s.ev x with
   |osl id ep=>simp only[hr x (by simp) id (by simp[hx,V.refs])]
   |_=>rfl
  ·rename_i x y ha
   rw[ha]at hm
   rw[hm x (by simp),hm y (by simp)]
  ·rename_i x y ha
   rw[ha]at hm
   rw[hm x (by simp),hm y (by simp)]
  ·rename_i x y z h;rw[hm x (by rw[h];simp),hm y (by rw[h];simp),hm z (by rw[h];simp)]
  ·rename_i x y ha
   rw[ha]at hm hr
   rw[hm x (by simp),hm y (by simp)]
   have h1:dT s'.o (s.ev y)=dT s.o (s.ev y):=by unfold dT;rw[cO _ (hr y (by simp))]
   have h2:bZ s'.o (s.ev y).ids=bZ s.o (s.ev y).ids:=fT fun id au=>hr y aK id (iU _ _ au)
   unfold uX
   simp only[h1,h2,w6 _ (hr x (by simp))]
  ·rename_i x y ha
   rw[ha]at hm hr
   rw[hm x (by simp),hm y (by simp)]
   have h1:dp s'.o (s.ev y)=dp s.o (s.ev y):=cO _ (hr y aK)
   have h2:=lV _ (hr x aK)
   simp only[mz,h1,h2]
  ·rename_i x ha
   rw[ha]at hm
   rw[hm x (by simp)]
  ·rfl
end
end
end Go.Proofs.YtnkamdiiakdkgaaGreat
