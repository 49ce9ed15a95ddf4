/-
  A PART OF THE PROOF. Conditions: none.
-/
import Derived.Test.YtnkamdiiakdkgaaGreatEl6
set_option linter.unusedSimpArgs false
set_option linter.unusedVariables false
namespace Go.Proofs.YtnkamdiiakdkgaaGreat
section
section
variable {P:Program}{M:Nat->Prop}{φ:Place}{H:Hp}{w w':World}{cA:Place}{H0:Hp}{w0:World}{n b:Nat}{s:S}{a:Act}{cx:Cx}{ro:Option Nat}{k:Nat}
theorem il(hb:∀id,H0.us id->id<b)(uF:cx.rd=false->ro=none):∀ (c:Code) (Q:fG->S->Prop) (s:S) (φ:Place) (a:Act) (w:World),jn P n b cx.rd c Q s->b8 M cA H0 w0 n cx φ s a w->c.ub P ro (GX M cA H0 w0 n cx Q) a w:=by
 intro c
 induction c with
 |skip=>exact fun Q s φ a w h hs=>pw (k:=0) (wpIn_skip ⟨.normal,s,φ,h,hs,trivial⟩)
 |scope x ih=>exact fun Q s φ a w h hs=>yz (ih Q s φ a w h hs) (fun l a w ⟨xx,s',aG,hq,jr,hm⟩=>by cases xx<;>exact hm)
 |label l=>exact fun Q s φ a w h hs=>pw (k:=0) (wpIn_label ⟨.normal,s,φ,h,hs,trivial⟩)
 |exit id=>exact fun Q s φ a w h hs=>Cy ⟨.exit id,s,φ,h,hs,rfl⟩
 |ret=>exact fun Q s φ a w h hs=>GY ⟨.ret,s,φ,h,hs,trivial⟩
 |goto l=>exact fun Q s φ a w h hs=>h.elim
 |refuse y=>exact fun Q s φ a w h hs=>h.elim
 |rangeFunc g ps x y=>
  intro Q s φ a w h hs
  obtain⟨h1,s',hle,h2⟩:=h
  rcases hle with rfl|hle
  ·exact yD hs h1 (uF h1) h2
  ·obtain⟨aG,jr⟩:=Fc hb hs hle
   exact yD jr h1 (uF h1) h2
 |region id ops draw=>
  intro Q s φ a w h hs
  cases draw with
  |true=>exact pw (h M cA H0 w0 cx φ a w ro 0 hs)
  |false=>
   refine pw (k:=0) (wpIn_region_list (pv (K:=Q .normal) (X:=fun v s=>Q (.bE v) s) (fun s φ a w hk hs=>⟨.normal,s,φ,hk,hs,trivial⟩) (fun v s φ a w val hx hs hd=>⟨.bE v,s,φ,hx,hs,val,rfl,hd⟩) _ s φ a w h hs))
 |seq x y Pq Pr=>
  intro Q s φ a w h hs
  refine Ae (gM (Pq _ s φ a w h hs) ?_)
  rintro e a' w' ⟨xx,s',aG,hq,jr,hm⟩
  cases e<;>cases xx<;>first|(exact hm.elim)|skip
  ·exact Pr Q s' aG a' w' hq jr
  ·subst hm;exact⟨_,s',aG,hq,jr,rfl⟩
  ·exact Le
  ·exact Lj
 |cond c x y Pq Pr=>
  intro Q s φ a w h hs
  simp only[jn]at h
  have hc:=ng (M:=M) (φ:=φ) (H:=s.H) (w:=w) s a hs.env c
  split at h
  ·rename_i t hv
   rw[hv]at hc
   simp only[V.den,D.den]at hc
   cases t with
   |true=>exact qD hc (Pq Q s φ a w (h.1 rfl) hs)
   |false=>exact qD hc (Pr Q s φ a w (h.2 rfl) hs)
  ·rename_i hv
   rw[hv]at hc
   obtain⟨t,hc⟩:=hc
   cases t with
   |true=>exact qD hc (Pq Q s φ a w h.1 hs)
   |false=>exact qD hc (Pr Q s φ a w h.2 hs)
  ·exact h.elim
 |block id x ih=>
  intro Q s φ a w h hs
  refine Jb (gM (ih _ s φ a w h hs) ?_)
  rintro e a' w' ⟨xx,s',aG,hq,jr,hm⟩
  cases e<;>cases xx<;>first|(exact hm.elim)|skip
  ·exact⟨.normal,s',aG,hq,jr,trivial⟩
  ·subst hm
   simp only[Exit.inBlock]
   simp only[fw]at hq
   split
   ·rename_i he;rw[if_pos he]at hq;exact⟨.normal,s',aG,hq,jr,trivial⟩
   ·rename_i he;rw[if_neg he]at hq;exact⟨.exit _,s',aG,hq,jr,rfl⟩
  ·exact Le
  ·exact Lj
 |loop x ih=>
  intro Q s φ a w h hs
  obtain⟨J,⟨m0,s1,hle,hI⟩,py⟩:=h
  obtain⟨iW,yE⟩:=Fc hb hs hle
  refine Ag (fun m a w=>∃s φ,J m s/\b8 M cA H0 w0 n cx φ s a w) ?_ m0 a w ⟨s1,iW,hI,yE⟩
  rintro m a w ⟨s,φ,hI,hs⟩
  refine gM (ih _ s φ a w (py m s hI) hs) ?_
  rintro e a' w' ⟨xx,s',aG,hq,jr,hm⟩
  cases e<;>cases xx<;>first|(exact hm.elim)|skip
  ·obtain⟨m2,s2,cG,afm,hI2⟩:=hq
   obtain⟨Jc,Ox⟩:=Fc hb jr afm
   exact⟨m2,cG,s2,Jc,hI2,Ox⟩
  ·subst hm;exact⟨_,s',aG,hq,jr,rfl⟩
  ·exact Le
  ·exact Lj
def L2(tmps:Array Value)(r:ResultVar):Sem Value:=
 match r with
 | .tmp t=>pure (tmps.getD t undef)
 | .cell p t=>do loadVar t (<- asAddr (tmps.getD p undef))
theorem uG(qE:ay M φ s.H w)(ef:∀i,V.den (ao M φ s.H) φ s.H w (s.env i) (a.tmps.getD i undef)):∀ (rs:List ResultVar) (vs:List V),me P s rs=some vs->
 ∃vals,(rs.mapM (L2 a.tmps)).run P w= .ok vals w/\V.aB (ao M φ s.H) φ s.H w vs vals
 |[],vs,h=>by simp[me]at h;subst h;exact⟨[],aI,rfl⟩
 | .tmp t::rs,vs,h=>by
   simp only[me,Option.map_eq_some_iff]at h
   obtain⟨us,h1,rfl⟩:=h
   obtain⟨vals,h2,h3⟩:=uG qE ef rs us h1
   exact⟨a.tmps.getD t undef::vals,by simp only[List.mapM_cons,L2,Sem.run_bind,Sem.run_pure,Result.andThen_ok,h2],_,_,rfl,ef t,h3⟩
 | .cell p t::rs,vs,h=>by
   simp only[me]at h
   split at h
   ·rename_i id off hv
    split at h
    ·rename_i cs ho
     simp only[Option.bind_eq_some_iff,Option.map_eq_some_iff]at h
     obtain⟨v,h0,us,h1,rfl⟩:=h
     obtain⟨vals,h2,h3⟩:=uG qE ef rs us h1
     have hx:=ef p
     rw[hv]at hx
     obtain⟨_,hu,hp⟩:=hx
     obtain⟨k,eu,eY⟩:=hp (by show(s.o id).cj=true;rw[ho];rfl)
     have aW:=qE.ok id
     have xZ:s.H.o id= .row cs:=ho
     simp only[aP,xZ]at aW
     obtain⟨b',dT,ty,g1,g2,g3,g4⟩:=aW
     rw[eu]at g1;simp at g1;subst g1
     obtain⟨val,h4,h5⟩:=qo (P:=P) h0 ⟨k,0,none⟩ dT.toList g3 g4 (fun j u hj=>qp g2 j u m4) rfl
     rw[add_plain,Nat.zero_add]at h4
     have h6:(loadVar t ⟨k,off,none⟩).run P w= .ok val w:=by simpa[Instr.loadAt,Instr.sureAddr]using h4
     exact⟨val::vals,by simp only[List.mapM_cons,L2,eY,asAddr,Sem.run_bind,Sem.run_pure,Result.andThen_ok,h6,h2],val,vals,rfl,h5,h3⟩
    ·cases h
   ·cases h
theorem nu{fn:Func}{tmps:Array Value}{vals:List Value}
 (h:(fn.results.toList.mapM (L2 tmps)).run P w= .ok vals w):
 (results fn tmps).run P w= .ok (if h:vals.toArray.size=1 then vals.toArray[0]else .tuple vals.toArray) w:=by
 have e:results fn tmps=(do let vs <- fn.results.mapM (L2 tmps);pure (if h:vs.size=1 then vs[0]else .tuple vs)):=by
  unfold results
  congr 2
 rw[e,Array.mapM_eq_mapM_toList]
 simp only[Sem.run_bind,Sem.run_map,h,Result.andThen_ok,Sem.run_pure]
theorem lJ{us:Nat->Prop}(φ:Place)(hM:∀k,M k->k<w.heap.size):ay M φ ⟨fun _=> .no,us⟩ w where
 ok id:=by simp[aP]
 fresh _ _:=rfl
 apart i j k hi:=by simp[ab.live]at hi
 ours k:=by rintro⟨id,h,_⟩;simp[ab.live]at h
 BB:=hM
theorem Jd{vals:Array Value}{m i:Nat}:(vals++Array.replicate m undef).getD i undef=(vals[i]?).getD undef:=by
 simp only[Array.getD_eq_getD_getElem?,Array.getElem?_append]
 split
 ·rfl
 ·rw[Array.getElem?_eq_none (xs:=vals) (by omega)]
  simp only[Array.getElem?_replicate]
  split<;>rfl
structure Ah (M:Nat->Prop) (cA:Place) (H0:Hp) (w0:World) (φ:Place) (s:S) (tmps:Array Value) (w:World):Prop where
 heap:ay M φ s.H w
 tr:Trans cA H0 w0 φ s.H w
 env:∀i,V.den (ao M φ s.H) φ s.H w (s.env i) (tmps.getD i undef)
theorem Je{tmps:Array Value}(hs:Ah M cA H0 w0 φ s tmps w){r:Nat}(h1:w0.heap.size<=r)(h2:w.heap[r]? =some (.deferred (some [])))(h3: ¬cE φ s.H r):
 Ah M cA H0 w0 φ s tmps {w with heap:=w.heap.setIfInBounds r (.deferred none)}:=by
 have ik:∀b,b≠r->(w.heap.setIfInBounds r (.deferred none))[b]? =w.heap[b]? :=fun b hb=>(MapKept.heap_set h2).2 b hb
 have yi:∀b,db w b-> ¬ao M φ s.H b->(w.heap.setIfInBounds r (.deferred none))[b]? =w.heap[b]? /\ ¬ao M φ s.H b:=by
  intro b hc hn
  refine⟨ik b fun e=> ?_,hn⟩
  subst e
  rcases hc with⟨cs,ty,fz,hc⟩|⟨es,clock,hc⟩
  ·rw[h2]at hc;cases hc
  ·rw[h2]at hc;cases hc
 refine⟨⟨fun id=> ?_,hs.heap.fresh,hs.heap.apart,fun b hb=>⟨(hs.heap.ours b hb).1,by simpa using(hs.heap.ours b hb).2⟩,fun b hb=>by simpa using hs.heap.BB b hb⟩,⟨⟨hs.tr.keep.os,hs.tr.keep.tape,hs.tr.keep.output,by simpa using hs.tr.keep.size,fun j hj hm=> ?_⟩,hs.tr.grow,hs.tr.rel⟩,fun i=>V.lC yi (dU.refl _ _) _ _ (hs.env i)⟩
 ·exact aP.B4 yi (dU.refl _ _) rfl rfl (fun hl b hb=>ik b fun e=>h3 ⟨id,hl,e ▸ hb⟩) (hs.heap.ok id)
 ·rw[ik j (by omega)];exact hs.tr.keep.block j hj hm
theorem gN{fn:Func}{R:Ending->World->Prop}{u:FrameMode}(hu:u≠ .run){tmps tb:Array Value}{ds:List Deferred}(hR:∀w,Ah M cA H0 w0 φ s tb w->LeavesInM (dN none) k P fn tmps R ds u w):
 ∀ (ms:List Nat) (w:World),ms.Nodup->(∀r∈ms,w0.heap.size<=r/\w.heap[r]? =some (.deferred (some []))/\ ¬cE φ s.H r)->Ah M cA H0 w0 φ s tb w->LeavesInM (dN none) k P fn tmps R (ms.map mark++ds) u w
 |[],w,_,_,hs=>hR w hs
 |r::ms,w,hn,hm,hs=>by
  obtain⟨h1,h2,h3⟩:=hm r aI
  obtain⟨Ff,IU⟩:=List.nodup_cons.1 hn
  refine⟨hu, .inl ⟨r,{w with heap:=w.heap.setIfInBounds r (.deferred none)},rfl, ?_,gN hu hR ms _ IU (fun r' xB=> ?_) (Je hs h1 h2 h3)⟩⟩
  ·simp[Instr.takeDeferred,getObj,setObj,Sem.run,h2,Result.andThen]
  ·obtain⟨g1,g2,g3⟩:=hm r' (by simp[xB])
   exact⟨g1,((MapKept.heap_set h2).2 r' (fun e=>Ff (e ▸ xB))).trans g2,g3⟩
theorem b8.toB (hs:b8 M cA H0 w0 n cx φ s a w):Ah M cA H0 w0 φ s a.tmps w:=⟨hs.heap,hs.tr,hs.env⟩
def mi(P:Program)(rs:List ResultVar)(K X:V->(Nat->ab)->Nat->Prop)(e:fG)(s:S):Prop:=
 match e with
 | .normal| .ret=>match me P s rs with
   |some [v]=>K v s.o s.nx
   |some vs=>K (.bW vs) s.o s.nx
   |none=>False
 | .bE v=>X v s.o s.nx
 | .exit _=>False
theorem CA{P:Program}{rs:List ResultVar}{K X:V->(Nat->ab)->Nat->Prop}{s:S}(h:mi P rs K X .ret s):∃vs,me P s rs=some vs/\K (match vs with|[v]=>v|vs=> .bW vs) s.o s.nx:=by
 unfold mi at h
 simp only at h
 split at h
 ·rename_i v h1;exact⟨[v],h1,h⟩
 ·rename_i vs h1 h2
  refine⟨vs,h2, ?_⟩
  split
  ·exact absurd rfl (h1 _)
  ·exact h
 ·exact h.elim
theorem CB:∀ {vs:List V} {vals:List Value},V.aB (ao M φ H) φ H w vs vals->V.den (ao M φ H) φ H w (match vs with|[v]=>v|vs=> .bW vs) (if h:vals.toArray.size=1 then vals.toArray[0]else .tuple vals.toArray)
 |[],vals,h=>by simp only[V.aB]at h;subst h;exact⟨#[],rfl,rfl⟩
 |[v],vals,h=>by obtain⟨u,us,rfl,h1,h2⟩:=h;simp only[V.aB]at h2;subst h2;exact h1
 |v::y::l,vals,h=>by
  have h':=h
  obtain⟨u,us,rfl,h1,u2,us2,rfl,h2⟩:=h
  exact⟨(u::u2::us2).toArray,aI,by simpa using h'⟩
theorem BV{vals:Array Value}{m:Nat}{vs:List V}(hd:V.aB (ao M φ H) φ H w vs vals.toList)(i:Nat):V.den (ao M φ H) φ H w (cp vs i) ((vals++Array.replicate m undef).getD i undef):=by
 have hlen:=V.aA _ _ hd
 simp only[cp,Jd]
 cases hx:vs[i]? with
 |none=>
  have:vals[i]? =none:=by
   rw[List.getElem?_eq_none_iff]at hx
   apply Array.getElem?_eq_none
   simp at hlen;omega
  simp only[List.getD_eq_getElem?_getD,hx,this]
  exact⟨#[],rfl,rfl⟩
 |some v=>
  obtain⟨u,hu,O3⟩:=V.dE _ _ _ _ hd hx
  have BM:vals[i]? =some u:=by simpa using hu
  simp only[List.getD_eq_getElem?_getD,hx,BM,Option.getD_some]
  exact O3
theorem nv{f:FuncId}{fn:Func}{c:Code}{args:Array Value}{w:World}{R:Ending->World->Prop}(hf:P.funcs[f]? =some fn)(hb:fn.body=some c)
 (h:c.ub P none (bodyPostM (dN none) k P fn R) {tmps:=args++Array.replicate (fn.ntmps - args.size) undef,defers:=[]} w):CallsIn (dN none) k P f args w R:=by
 have cG:f<P.funcs.size:=(Array.getElem?_eq_some_iff.1 hf).1
 refine⟨trivial,fun cs hr=> ?_⟩
 let b:Frame:={(default:Frame)with fn:=f,kind:= .normal,roundOf:=none}
 have mh:Frame.enter P f args .normal=b.atR {tmps:=args++Array.replicate (fn.ntmps - args.size) undef,defers:=[]} [.code c]:=by
  simp[Frame.enter,Frame.atR,hf,hb,b]
 obtain⟨e,a',w',hq,dg⟩:=h b [] cs rfl cG
 rw[<- mh]at dg
 cases e with
 |normal=>
  obtain⟨e',UQ,fr',hR,hs,Kz,hl⟩:=leaves_stepsInM a'.defers .returning w' {b.atR a' []with mode:= .returning} cs rfl rfl rfl hf rfl (trivial:(dN none).fn f) hr hq
  exact⟨e',UQ,fr',hR,ComesIn.of_steps (StepsIn.trans dg (.one (fenced_calm (n:=0) (fr:=b.atR a' []) trivial gL rfl) (stepR_end rfl))) hs,Kz,hl⟩
 |ret=>
  obtain⟨todo,RK⟩:=dg.1 rfl
  obtain⟨e',UQ,fr',hR,hs,Kz,hl⟩:=leaves_stepsInM a'.defers .returning w' {b.atR a' todo with mode:= .returning} cs rfl rfl rfl hf rfl (trivial:(dN none).fn f) hr hq
  exact RJ
 |panic chain=>
  obtain⟨todo,RK⟩:=dg
  obtain⟨e',UQ,fr',hR,hs,Kz,hl⟩:=leaves_stepsInM a'.defers (.panicking chain) w' {b.atR a' todo with mode:= .panicking chain} cs rfl rfl rfl hf rfl (trivial:(dN none).fn f) hr hq
  exact RJ
 |exit id=>exact hq.elim
 |goto l=>exact hq.elim
 |outgrown=>exact⟨.outgrown,w',b,hq,dg.resolve_left (by simp[b]),rfl,trivial⟩
def Fg(P:Program)(l:Nat)(R:Ending->World->Prop):Exit->Act->World->Prop
 | .normal,_,w=>∃v w',(Instr.endRound l none).run P w= .ok v w'/\R (.returned v) w'
 | .ret,_,w=>∃v w',(Instr.endRound l (some .ret)).run P w= .ok v w'/\R (.returned v) w'
 | .exit id,_,w=>∃v w',(Instr.endRound l (some (.exit id))).run P w= .ok v w'/\R (.returned v) w'
 | .goto _,_,_=>False
 | .panic chain,a,w=>a.defers=[]/\R (.panicked chain) w
 | .outgrown,_,_=>False
theorem vy{l:Nat}{f:FuncId}{tmps:Array Value}{assign body:Code}{w:World}{R:Ending->World->Prop}(hf:f<P.funcs.size)
 (h:assign.ub P (some l) (Exit.then (fun oD jH=>∃sj,(Instr.beginRound l).run P jH= .ok () sj/\body.ub P (some l) (Fg P l R) oD sj) (fun e a w=>match e with| .panic chain=>a.defers=[]/\R (.panicked chain) w|_=>False))
  {tmps:=tmps,defers:=[]} w):
 RoundIn Fence.wide n P l f tmps assign body w R:=by
 refine⟨trivial,fun c cs hr=> ?_⟩
 let b:Frame:={(default:Frame)with fn:=f,kind:= .normal,roundOf:=some l}
 have Vv:Frame.round l f tmps assign body .normal=b.atR {tmps:=tmps,defers:=[]} [.code assign, .beginRound, .code body]:=by
  simp[Frame.round,Frame.atR,b]
 have calm:∀ (m:Machine),m.fenced P Fence.wide:=fun m=>fenced_wide P m
 have bE:∀ {a:Act} {w:World} {todo:List Item} {chain:List PanicEntry},a.defers=[]->step P (lone {b.atR a todo with mode:= .panicking chain} (c::cs) w)= .next (lone (c.raise chain) cs w):=by
  intro a w todo chain hd
  exact step_leave_panicked (fr:={b.atR a todo with mode:= .panicking chain}) ⟨rfl,hd,P.funcs[f],by show P.funcs[f]? =_;simp[hf]⟩
 obtain⟨e,oD,jH,hq,dg⟩:=h b [.beginRound, .code body] (c::cs) rfl hf
 rw[<- Vv]at dg
 cases e with
 |normal=>
  obtain⟨sj,hbr,qF⟩:=hq
  have s1:StepsIn (Machine.fenced P Fence.wide) P (lone (b.atR oD [.beginRound, .code body]) (c::cs) jH) (lone (b.atR oD [.code body]) (c::cs) sj):= .one (calm _) (stepR_beginRound rfl hbr)
  obtain⟨Vs,abC,Fa,qC,kL⟩:=qF b [] (c::cs) rfl hf
  have dg:StepsIn (Machine.fenced P Fence.wide) P _ _:=dg
  cases Vs with
  |normal=>
   obtain⟨v,uc,cL,hR⟩:=qC
   have kL:StepsIn (Machine.fenced P Fence.wide) P _ _:=kL
   exact⟨.returned v,uc,hR,(StepsIn.trans dg s1).trans (StepsIn.trans kL (.one (calm _) (stepR_round_end rfl rfl cL)))⟩
  |ret=>
   obtain⟨v,uc,cL,hR⟩:=qC
   obtain⟨k₁,hs⟩:=kL.2 rfl
   have hs:StepsIn (Machine.fenced P Fence.wide) P _ _:=hs
   exact⟨.returned v,uc,hR,(StepsIn.trans dg s1).trans (StepsIn.trans hs (.one (calm _) (stepR_round_ret rfl rfl cL)))⟩
  |exit id=>
   obtain⟨v,uc,cL,hR⟩:=qC
   obtain⟨k₁,hk,hs⟩:=kL.2 rfl rfl
   have hs:StepsIn (Machine.fenced P Fence.wide) P _ _:=hs
   exact⟨.returned v,uc,hR,(StepsIn.trans dg s1).trans (StepsIn.trans hs (.one (calm _) (stepR_round_exit rfl rfl hk cL)))⟩
  |goto t=>exact qC.elim
  |panic chain=>
   obtain⟨todo,hs⟩:=kL
   have hs:StepsIn (Machine.fenced P Fence.wide) P _ _:=hs
   exact⟨.panicked chain,Fa,qC.2,(StepsIn.trans dg s1).trans (StepsIn.trans hs (.one (calm _) (bE qC.1)))⟩
  |outgrown=>exact qC.elim
 |exit id=>exact hq.elim
 |goto t=>exact hq.elim
 |ret=>exact hq.elim
 |panic chain=>
  obtain⟨todo,hs⟩:=dg
  have hs:StepsIn (Machine.fenced P Fence.wide) P _ _:=hs
  exact⟨.panicked chain,jH,hq.2,StepsIn.trans hs (.one (calm _) (bE hq.1))⟩
 |outgrown=>exact hq.elim
theorem cH.G1 {f:FuncId}{fn:Func}{c:Code}{args:List V}{o:Nat->ab}{nx:Nat}{K X:V->(Nat->ab)->Nat->Prop}(hf:P.funcs[f]? =some fn)(hn:(fn.name== "runtime.NumGoroutine")=false)(qF:fn.body=some c)(hl:args.length<=fn.ntmps)
 (h:jn P fn.ntmps nx false c (mi P fn.results.toList K X) ⟨cp args,o,nx⟩):cH P f args o nx K X:=by
 refine⟨⟨fn,hf,hn,by rw[qF];rfl⟩,fun M φ w vals hH hd=> ?_⟩
 have hlen:=V.aA _ _ hd
 let s0:S:=⟨cp args,o,nx⟩
 let a0:Act:={tmps:=vals++Array.replicate (fn.ntmps - vals.size) undef,defers:=[]}
 have iL:b8 M φ (hp o nx) w fn.ntmps ⟨[],false⟩ φ s0 a0 w:=by
  exact abg
 refine Ct (ro:=none) (k:=0) (nv hf qF (gM (il (P:=P) (H0:=hp o nx) (b:=nx) (cx:=⟨[],false⟩) (ro:=none) (fun id hu=>hu) (fun _=>rfl) c _ s0 φ a0 w h iL) ?_))
 rintro e a w' ⟨x,s,aG,hq,hs,hm⟩
 obtain⟨ms,g1,g2,g3,g4⟩:=hs.defers
 rw[List.append_nil]at g1
 have done:(x= .normal\/x= .ret)->LeavesInM (dN none) 0 P fn a.tmps (nn M φ (hp o nx) w K X) a.defers .returning w':=by
  intro hx
  have hq':mi P fn.results.toList K X .ret s:=by rcases hx with rfl|rfl<;>exact hq
  obtain⟨vs,h1,h2⟩:=CA hq'
  rw[g1]
  have:=gN (P:=P) (k:=0) (fn:=fn) (R:=nn M φ (hp o nx) w K X) (u:= .returning) aI (ds:=[]) (fun w2 hb=>by
   obtain⟨vals,h3,h4⟩:=uG (P:=P) (a:=a) hb.heap hb.env _ _ h1
   exact⟨_,nu h3,aG,s.o,s.nx,_,hb.heap,hb.tr,CB h4,h2⟩) ms w' g2 g4 hs.toB
  rwa [List.append_nil]at this
 cases e<;>cases x<;>first|(exact hm.elim)|skip
 ·exact done (.inl rfl)
 ·exact hq.elim
 ·exact done (.inr rfl)
 ·rename_i v
  obtain⟨val,rfl,hd'⟩:=hm
  show LeavesInM (dN none) 0 P fn a.tmps (nn M φ (hp o nx) w K X) a.defers _ w'
  rw[g1]
  have Vv:Ah M φ (hp o nx) w aG ⟨fun i=>if i=0 then v else .aa,s.o,s.nx⟩ #[val] w':=⟨hs.heap,hs.tr,fun i=>by
   by_cases hi:i=0
   ·subst hi;exact hd'
   ·simp only[hi,if_false];trivial⟩
  have:=gN (P:=P) (k:=0) (fn:=fn) (s:=⟨fun i=>if i=0 then v else .aa,s.o,s.nx⟩) (tmps:=a.tmps) (tb:=#[val]) (cA:=φ) (H0:=hp o nx) (w0:=w) (R:=nn M φ (hp o nx) w K X) (u:= .panicking [{v:=val,recovered:=false}]) aI (ds:=[]) (fun w2 hb=>by
   have h0:=hb.env 0
   exact⟨aG,s.o,s.nx,v,hb.heap,hb.tr,val,rfl,h0,hq⟩) ms w' g2 g4 Vv
  rwa [List.append_nil]at this
theorem aV.jd {f:FuncId}{ds:List D}{out:R}(h:cH P f (ds.map .d) (fun _=> .no) 0 (fun v o _=>∃vs rs,v=(match vs with|[v]=>v|vs=> .bW vs)/\b7 o vs=some rs/\out= .ret rs) (fun v o _=>∃x,dB o v=some x/\out= .bE x)):aV P f ds out:=by
 refine⟨h.1,fun M w vals hM hd=> ?_⟩
 let cA:Place:=fun _=> .nilFunc
 have tp:∀b, ¬cE cA (hp (fun _=> .no) 0) b:=by rintro b ⟨id,hl,_⟩;simp[hp,ab.live]at hl
 refine(h.2 M cA w vals (lJ cA hM) ((V.cn _ _).2 (D.aQ (w:=w) (w':=w) (B:=M) (fun b _ hB=>⟨rfl,fun h=>h.elim hB (tp b)⟩) _ _ hd))).mono ?_
 rintro e w' ⟨aG,o',nx',v,k1,k2,k3⟩
 have tq:dM (fun _=>False) w w':=⟨k2.keep.os,k2.keep.tape,k2.keep.output,k2.keep.size,fun k hk _=>k2.keep.block k hk (tp k)⟩
 have fin:∀ (vs:List V) (xs:List D) (vals:List Value),b7 o' vs=some xs->V.aB (ao M aG (hp o' nx')) aG (hp o' nx') w' vs vals->D.aB M w' xs vals:=by
  intro vs xs vals h1 h2
  obtain⟨f1,f2,f3,f4,f5⟩:=cO k1 (V.bg vs) (cW vs _ h2)
  have h3:=dp f1 vs xs vals f3 h1 (V.aQ f2 _ _ h2)
  exact D.aQ (w:=w') (w':=w') (fun k _ hB=>⟨rfl,fun hM=>hB (.inl hM)⟩) xs vals h3
 refine⟨tq, ?_⟩
 cases e with
 |outgrown=>exact k3.elim
 |panicked ch=>
  obtain⟨val,rfl,g1,x,g2,rfl⟩:=k3
  have:=fin [v] [x] [val] (by simp[b7,g2]) ⟨val,[],rfl,g1,rfl⟩
  obtain⟨u,us,he,h2,_⟩:=this
  simp at he;obtain⟨rfl,rfl⟩:=he
  exact⟨val,rfl,h2⟩
 |returned val=>
  obtain⟨g1,vs,rs,rfl,g2,rfl⟩:=k3
  match vs,g1,g2 with
  |[],g1,g2=>
   obtain⟨arr,rfl,hv⟩:=g1
   simp only[b7,Option.some.injEq]at g2;subst g2
   exact⟨arr,rfl,hv⟩
  |[v],g1,g2=>
   have:=fin [v] rs [val] g2 ⟨val,[],rfl,g1,rfl⟩
   cases rs with
   |nil=>cases this
   |cons x l=>
    obtain⟨u,us,he,h2,h3⟩:=this
    simp at he;obtain⟨rfl,rfl⟩:=he
    cases l with
    |nil=>exact h2
    |cons y l=>obtain⟨_,_,h,_⟩:=h3;cases h
  |v::v2::l,g1,g2=>
   obtain⟨arr,rfl,h⟩:=g1
   have:=fin (v::v2::l) rs arr.toList g2 h
   have hl:=D.aA _ _ this
   have YN:=V.aA _ _ h
   match rs,hl,this with
   |[],hl,_=>exact Gu
   |[x],hl,_=>exact Gu
   |x::y::l,_,this=>exact⟨arr,rfl,this⟩
theorem Jf{rs:List ResultVar}{out:R}(e:fG)(s:S)(h:E9 P rs out e s):
 mi P rs (fun v o _=>∃vs rs,v=(match vs with|[v]=>v|vs=> .bW vs)/\b7 o vs=some rs/\out= .ret rs) (fun v o _=>∃x,dB o v=some x/\out= .bE x) e s:=by
 have ret:E9 P rs out .ret s->mi P rs (fun v o _=>∃vs rs,v=(match vs with|[v]=>v|vs=> .bW vs)/\b7 o vs=some rs/\out= .ret rs) (fun v o _=>∃x,dB o v=some x/\out= .bE x) .ret s:=by
  intro h
  obtain⟨vs,xs,h1,h2,h3⟩:=LV h
  simp only[mi,h1]
  match vs,h2 with
  |[],h2=>exact⟨[],xs,rfl,h2,h3⟩
  |[v],h2=>exact⟨[v],xs,rfl,h2,h3⟩
  |v::v2::l,h2=>exact⟨v::v2::l,xs,rfl,h2,h3⟩
 cases e with
 |normal=>exact ret h
 |ret=>exact ret h
 |exit id=>exact h.elim
 |bE v=>exact LW h
end
end
section
def L3{α:Type}(c:Bool)(x:α):Option α:=if c=true then some x else none
def one(v:V):Option fS:=some (v,[],[])
def CC(op:BinOp)(k:IntKind)(a b:Int):Option V:=
 match op with
 | .add=>some (.d (.int k (k.wrap (a+b))))
 | .sub=>some (.d (.int k (k.wrap (a - b))))
 | .mul=>some (.d (.int k (k.wrap (a*b))))
 | .quo=>if b=0 then none else some (.d (.int k (k.wrap (a.tdiv b))))
 | .rem=>if b=0 then none else some (.d (.int k (a.tmod b)))
 | .and=>(vc .and k a b).map fun r=> .d (.int k r)
 | .or=>(vc .or k a b).map fun r=> .d (.int k r)
 | .xor=>(vc .xor k a b).map fun r=> .d (.int k r)
 | .andNot=>(vc .andNot k a b).map fun r=> .d (.int k r)
 | .eql=>some (.d (.bool (a==b)))| .neq=>some (.d (.bool (a !=b)))| .lss=>some (.d (.bool (decide (a<b))))| .leq=>some (.d (.bool (decide (a<=b))))
 | .gtr=>some (.d (.bool (decide (b<a))))| .geq=>some (.d (.bool (decide (b<=a))))
 |_=>none
def og(P:Program)(t:TypeId):Bool:=
 match P.underlying t with
 |some .bool=>true
 |_=>false
def Ai(P:Program)(op:BinOp)(t:TypeId)(x y:V):Option V:=
 match x,y with
 | .d (.int k a), .d (.int k' b)=>if k=k' then CC op k a b else none
 | .d (.bool a), .d (.bool b)=>match op with
   | .eql=>L3 (og P t) (.d (.bool (a==b)))
   | .neq=>L3 (og P t) (.d (.bool (a !=b)))
   |_=>none
 | .d (.str a), .d (.str b)=>match op with
   | .eql=>some (.d (.bool (a==b)))
   | .neq=>some (.d (.bool (a !=b)))
   |_=>none
 |_,_=>none
def unF(op:UnOp)(x:V):Option V:=
 match op,x with
 | .neg, .d (.int k n)=>some (.d (.int k (k.wrap (-n))))
 | .not, .d (.bool b)=>some (.d (.bool !b))
 |_,_=>none
def qG(c a b:V):Option V:=
 match c with
 | .d (.bool true)=>some a
 | .d (.bool false)=>some b
 |_=>none
def qH(o:Nat->ab)(x:V):Option (List D×List Nat):=
 match x with
 | .d (.sl es)=>some (es,[])
 | .aZ=>some ([],[])
 | .rK es=>some (es,[])
 | .osl id ep=>match o id with
   | .arr fF _ _ es=>if ep=fF then some (es,[id])else none
   | .rV fF es=>if ep=fF then some (es,[id])else none
   |_=>none
 |_=>none
def Fh(P:Program)(t:TypeId)(o:Nat->ab)(x:V):Option fS:=
 match P.underlying t with
 |some (.slice _)=>match qH o x with
  |some (es,rd)=>some (.d (.int .i64 es.length),[],rd)
  |none=>none
 |some .string=>match x with
  | .d (.str s)=>one (.d (.int .i64 s.length))
  |_=>none
 |some (.array n _)=>one (.d (.int .i64 n))
 |_=>none
def yF(P:Program)(e:TypeId)(es:List D)(i:Int)(rd:List Nat):Option fS:=
 if 0<=i then match es[i.toNat]? with
  |some y=>L3 (y.cells.length==P.cellsOf e&&0<P.cellsOf e) (.pp y.cells 0,[],rd)
  |none=>none
 else none
def oW(o:Nat->ab)(x:V)(q:Nat):Option V:=
 match x with
 | .ptr id off=>L3 (o id).cj (.ptr id (off+q))
 | .pp cs off=>some (.pp cs (off+q))
 | .pe id ep j sz off=>if(o id).b9=some ep then some (.pe id ep j sz (off+q))else none
 |_=>none
def im(P:Program)(o:Nat->ab)(t:TypeId)(x ix:V):Option fS:=
 match ix with
 | .d (.int _ i)=>match bV P t with
   |some e=>match x with
    | .d (.sl es)=>yF P e es i []
    | .rK es=>yF P e es i []
    | .osl id ep=>match o id with
      | .arr fF _ sz es=>if ep=fF/\0<=i/\i.toNat<es.length/\sz=P.cellsOf e/\0<P.cellsOf e then some (.pe id ep i.toNat sz 0,[],[id])else none
      | .rV fF es=>if ep=fF then yF P e es i [id]else none
      |_=>none
    |_=>none
   |none=>match xp P t with
    |some (n,e)=>if 0<=i/\i<n/\(P.info? e).isSome=true then(oW o x (i.toNat*P.cellsOf e)).bind one else none
    |none=>none
 |_=>none
def iq(P:Program)(o:Nat->ab)(t:TypeId)(x:V)(f:Nat):Option V:=
 match bB P t f with
 |some q=>oW o x q
 |none=>none
def nw(P:Program)(o:Nat->ab)(t:TypeId)(x:V):Option fS:=
 match x with
 | .ptr id off=>match o id with
   | .row cs=>match eK P t cs off with
     |some v=>some (v,[],[id])
     |none=>none
   |_=>none
 | .pp cs off=>match eK P t (cs.map .d) off with
   |some v=>some (v,[],[])
   |none=>none
 | .pe id ep i sz off=>match o id with
   | .arr fF _ rL es=>if ep=fF/\sz=rL then match es[i]? with
    |some e=>match eK P t (e.cells.map .d) off with
     |some v=>some (v,[],[id])
     |none=>none
    |none=>none
     else none
   |_=>none
 |_=>none
def sn(P:Program)(o:Nat->ab)(t:TypeId)(x v:V):Option fS:=
 match x with
 | .ptr id off=>match o id with
   | .row cs=>match zS P t cs off v with
     |some cs'=>some (.bW [],[(id, .row cs')],[id])
     |none=>none
   |_=>none
 | .pe id ep i rL off=>match o id with
   | .arr fF ty sz es=>if ep=fF/\rL=sz then match es[i]?,dB o v with
    |some e,some y=>if y.cells.length=P.cellsOf t/\0<y.cells.length/\v.ids.all (· !=id)=true then match e.put off y.cells with
     |some e'=>some (.bW [],bT o v.ids++[(id, .arr ep ty sz (es.set i e'))],id::v.ids)
     |none=>none
     else none
    |_,_=>none
     else none
   |_=>none
 |_=>none
def gu(P:Program)(o:Nat->ab)(fr:Nat)(t:TypeId)(len:Nat)(parts:List (Nat×V)):Option fS:=
 match bV P t with
 |some e=>if len=0/\parts.isEmpty=true/\0<P.cellsOf e then some (.osl fr 0,[(fr, .arr 0 e (P.cellsOf e) [])],[])else if parts.map (·.1)=List.range len/\(cl P e).isSome=true/\0<len/\0<P.cellsOf e/\len*P.cellsOf e<=2^24 then match b7 o (parts.map (·.2))with
  |some ds=>if ds.all (fun x=>x.cells.length==P.cellsOf e)=true then some (.osl fr 0,bT o (V.bg (parts.map (·.2)))++[(fr, .arr 0 e (P.cellsOf e) ds)],V.bg (parts.map (·.2)))else none
  |none=>none
  else none
 |none=>none
def mj(P:Program)(fr:Nat)(t:TypeId)(l c:V):Option fS:=
 match bV P t with
 |some e=>match l,c with
  | .d (.int _ n), .d (.int _ m)=>if n=m/\0<=n/\0<P.cellsOf e/\P.bytesOf e*n.toNat<=2^47/\n.toNat<=2^47 then match yc P e with
   |some x=>some (.osl fr 0,[(fr, .arr 0 e (P.cellsOf e) (List.replicate n.toNat x))],[])
   |none=>none
    else none
  |_,_=>none
 |none=>none
def qI(P:Program)(o:Nat->ab)(fr:Nat)(ts:Array TypeId)(x y:V):Option fS:=
 match ts.toList with
 |[t,t']=>if t=t' then match bV P t,qH o y with
    |some e,some (new,rd)=>if 0<P.cellsOf e/\(cl P e).isSome=true/\new.all (fun z=>z.cells.length==P.cellsOf e)=true then match x with
     | .aZ=>if new.length<=2^47/\new.length*P.bytesOf e<=2^47 then some (.osl fr 0,[(fr, .arr 0 e (P.cellsOf e) new)],rd)else none
     | .rK es=>if es.all (fun z=>z.cells.length==P.cellsOf e)=true then(if new=[]then some (.rK es,[],rd)else if es.length+new.length<=2^40/\(es.length+new.length)*P.bytesOf e<=2^40 then some (.osl fr 0,[(fr, .arr 0 e (P.cellsOf e) (es++new))],rd)else none)else none
     | .osl id ep=>match o id with
       | .arr fF ty sz es=>if ep=fF/\ty=e/\sz=P.cellsOf e/\es.length+new.length<=2^47/\(es.length+new.length)*P.bytesOf e<=2^47 then
        some (.osl id (ep+1),[(id, .arr (ep+1) ty sz (es++new))],id::rd)else none
       |_=>none
     |_=>none
     else none
    |_,_=>none
  else none
 |_=>none
def qJ(isMax:Bool)(x y:V):Option V:=
 match x,y with
 | .d (.int k a), .d (.int k' b)=>if k=k' then some (.d (.int k (if isMax then(if b>a then b else a)else(if b<a then b else a))))else none
 |_,_=>none
def ml(x:Option V):Option fS:=match x with|some v=>one v|none=>none
def qK(P:Program)(s:S)(fr:Nat)(b:Builtin)(args:List Operand)(ts:Array TypeId):Option fS:=
 match b,args with
 | .len,[x]=>match ts.toList with
   |[t]=>Fh P t s.o (s.ev x)
   |_=>none
 | .append,[x,y]=>match yg P fr ts (s.ev x) (s.ev y)with
   |some r=>some r
   |none=>qI P s.o fr ts (s.ev x) (s.ev y)
 | .max,[x,y]=>ml (qJ true (s.ev x) (s.ev y))
 | .min,[x,y]=>ml (qJ false (s.ev x) (s.ev y))
 | .max,[x,y,z]=>ml (GJ (s.ev x) (s.ev y) (s.ev z))
 | .copy,[x,y]=>yf P s.o ts (s.ev x) (s.ev y)
 | .delete,[x,y]=>match ts.toList.head? with
   |some t=>n9 P s.o t (s.ev x) (s.ev y)
   |none=>none
 | .cap,[x]=>O0 P ts (s.ev x)
 |_,_=>none
def Aj(P:Program)(t:TypeId)(parts:List (Nat×V)):Option V:=
 match cl P t,dc P t with
 |some z,some pl=>match ta pl z parts with
  |some cs=>some (oP cs)
  |none=>none
 |_,_=>none
def jB(o:Nat->ab)(x:V):Option V:=
 match x with
 | .ptr id off=>L3 (o id).cj (.ptr id off)
 | .pp cs off=>some (.pp cs off)
 | .func (.func f) first cap=>some (.func (.func f) first cap)
 |_=>none
def pz(P:Program)(t:TypeId):Bool:=
 match P.underlying t with
 |some (.interface _)=>false
 |some _=>true
 |none=>false
def L4(P:Program)(t:TypeId)(x:V):Option V:=
 L3 (pz P t) (match x with
  | .d y=> .d (.iface t y)
  |v=> .iface t v)
def fl(P:Program)(o:Nat->ab)(op:BinOp)(t:TypeId)(oF:Bool)(x y:V):Option fS:=
 match Ai P op t x y with
 |some v=>one v
 |none=>r8 P o op t oF x y
def IG(op:UnOp)(x:V):Option V:=
 match op,x with
 | .not, .ft=>some .ft
 |op,x=>unF op x
def gC(P:Program)(s:S)(fr:Nat)(op:Op):Option fS:=
 match op with
 | .move x=>one (s.ev x)
 | .assign x=>one (s.ev x)
 | .pick c a b=>ml (qG (s.ev c) (s.ev a) (s.ev b))
 | .alloc t=>match cl P t with
   |some cs=>some (.ptr fr 0,[(fr, .row cs)],[])
   |none=>none
 | .box _ x=>match(s.ev x).cells with
   |some cs=>some (.ptr fr 0,[(fr, .row cs)],[])
   |none=>none
 | .build t parts=>ml (Aj P t (parts.toList.map fun p=>(p.1,s.ev p.2)))
 | .buildSlice t len parts=>gu P s.o fr t len (parts.toList.map fun p=>(p.1,s.ev p.2))
 | .load t x=>nw P s.o t (s.ev x)
 | .store t x v=>sn P s.o t (s.ev x) (s.ev v)
 | .nilCheck x=>ml (jB s.o (s.ev x))
 | .binOp op t x y _=>fl P s.o op t (isConst x||isConst y) (s.ev x) (s.ev y)
 | .unOp op _ x=>ml (IG op (s.ev x))
 | .convert u t x=>match P.underlying u,qf P t,s.ev x with
   |some _,some k, .d (.int _ n)=>one (.d (.int k (k.wrap n)))
   |_,_,_=>none
 | .makeInterface t x=>ml (L4 P t (s.ev x))
 | .makeFunc fn first cap=>one (.func fn (first.toList.map s.ev) (cap.toList.map s.ev))
 | .makeSlice t l c=>mj P fr t (s.ev l) (s.ev c)
 | .fieldAddr t x f=>ml (iq P s.o t (s.ev x) f)
 | .indexAddr t x i=>im P s.o t (s.ev x) (s.ev i)
 | .extract x i=>match s.ev x with
   | .bW vs=>match vs[i]? with
     |some v=>one v
     |none=>none
   |_=>none
 | .call c=>match c.callee with
   | .builtin b=>qK P s fr b c.args.toList c.argTypes
   |_=>none
 | .slice t x lo hi mx=>rX P s.o t (s.ev x) (lo.map s.ev) (hi.map s.ev) (mx.map s.ev)
 | .field t x f=>ml (vf P t (s.ev x) f)
 | .index t x i=>ml (vg P t (s.ev x) (s.ev i))
 | .typeAssert x _ t ok=>ml (qi P t ok (s.ev x))
 | .makeMap t none=>m9 P fr t
 | .lookup t m k ok=>iE P s.o t (s.ev m) (s.ev k) ok
 | .mapUpdate t m k v=>fO P s.o t (s.ev m) (s.ev k) (s.ev v)
 | .insert t m k v=>fO P s.o t (s.ev m) (s.ev k) (s.ev v)
 | .range t x=>na P s.o fr t (s.ev x)
 | .next x str=>oR s.o (s.ev x) str
 | .entry x=>nb s.o (s.ev x)
 |_=>none
section
variable {P:Program}{s:S}{fr:Nat}{v:V}{Δ:List (Nat×ab)}{rd:List Nat}{o:Nat->ab}{K:V->List (Nat×ab)->List Nat->Prop}
theorem sq{α:Type}{c:Bool}{x y:α}(h:L3 c x=some y):c=true/\x=y:=by
 unfold L3 at h;split at h
 ·injection h with h;exact⟨by assumption,h⟩
 ·cases h
theorem kY{x:V}{r:fS}(h:one x=some r):r=(x,[],[]):=by unfold one at h;injection h with h;exact h.symm
theorem js{x:Option V}{r:fS}(h:ml x=some r):∃v,x=some v/\r=(v,[],[]):=by
 unfold ml at h;split at h
 ·exact⟨_,rfl,kY h⟩
 ·cases h
theorem Fi{x:V}{es:List D}{rd:List Nat}(h:qH o x=some (es,rd)):eL o x=some es/\rd=x.ids:=by
 unfold qH at h
 split at h
 ·exact K5
 ·exact K5
 ·exact K5
 ·split at h
  ·rename_i ho
   split at h
   ·rename_i e;simp at h;obtain⟨rfl,rfl⟩:=h;exact⟨by simp[eL,dB,ho,e],rfl⟩
   ·cases h
  ·rename_i ho
   split at h
   ·rename_i e;simp at h;obtain⟨rfl,rfl⟩:=h;exact⟨by simp[eL,dB,ho,e],rfl⟩
   ·cases h
  ·cases h
 ·cases h
theorem Jg{op:BinOp}{k:IntKind}{a b:Int}{v:V}(h:CC op k a b=some v){K:V->Prop}(hK:K v):OY op k a b K:=by
 cases op<;>simp only[CC]at h<;>simp only[OY]
 case quo=>split at h
           ·cases h
           ·exact UP
 case rem=>split at h
           ·cases h
           ·exact UP
 case and=>simp only[Option.map_eq_some_iff]at h;obtain⟨r,h1,rfl⟩:=h;exact⟨r,h1,hK⟩
 case or=>simp only[Option.map_eq_some_iff]at h;obtain⟨r,h1,rfl⟩:=h;exact⟨r,h1,hK⟩
 case xor=>simp only[Option.map_eq_some_iff]at h;obtain⟨r,h1,rfl⟩:=h;exact⟨r,h1,hK⟩
 case andNot=>simp only[Option.map_eq_some_iff]at h;obtain⟨r,h1,rfl⟩:=h;exact⟨r,h1,hK⟩
 case shl=>cases h
 case shr=>cases h
 case eql=>injection h with h;subst h;exact⟨_,rfl,hK⟩
 case neq=>injection h with h;subst h;exact⟨_,rfl,hK⟩
 case lss=>injection h with h;subst h;exact⟨_,rfl,hK⟩
 case leq=>injection h with h;subst h;exact⟨_,rfl,hK⟩
 case gtr=>injection h with h;subst h;exact⟨_,rfl,hK⟩
 case geq=>injection h with h;subst h;exact⟨_,rfl,hK⟩
 all_goals (injection h with h;subst h;exact hK)
theorem Jh{op:BinOp}{t:TypeId}{x y v:V}(h:Ai P op t x y=some v){K:V->Prop}(hK:K v):Lz P op t x y K:=by
 unfold Ai at h
 unfold Lz
 split at h
 ·split at h
  ·exact⟨by assumption,Jg h hK⟩
  ·cases h
 ·have hb:og P t=true->P.underlying t=some .bool:=by
   unfold og;intro h;split at h
   ·assumption
   ·cases h
  split at h
  ·obtain⟨h1,rfl⟩:=sq h;exact⟨hb h1,hK⟩
  ·obtain⟨h1,rfl⟩:=sq h;exact⟨hb h1,hK⟩
  ·cases h
 ·split at h
  ·exact K0
  ·exact K0
  ·cases h
 ·cases h
theorem Fj{c a b v:V}(h:qG c a b=some v){K:V->Prop}(hK:K v):BX c a b K:=by
 unfold qG at h
 unfold BX
 split at h
 ·injection h with h;subst h;exact⟨fun _=>hK,(fun h=>by cases h)⟩
 ·injection h with h;subst h;exact⟨(fun h=>by cases h),fun _=>hK⟩
 ·cases h
theorem vz{x y:V}{q:Nat}(h:oW o x q=some y):(∃id off,x= .ptr id off/\(o id).cj=true/\y= .ptr id (off+q))\/(∃cs off,x= .pp cs off/\y= .pp cs (off+q))\/
 (∃id ep j sz off,x= .pe id ep j sz off/\(o id).b9=some ep/\y= .pe id ep j sz (off+q)):=by
 unfold oW at h
 split at h
 ·obtain⟨h1,rfl⟩:=sq h;exact .inl ⟨_,_,rfl,h1,rfl⟩
 ·injection h with h;exact .inr (.inl ⟨_,_,rfl,h.symm⟩)
 ·split at h
  ·injection h with h;exact .inr (.inr ⟨_,_,_,_,_,rfl,by assumption,h.symm⟩)
  ·cases h
 ·cases h
theorem u6{e:TypeId}{es:List D}{i:Int}{rd:List Nat}{r:fS}(h:yF P e es i rd=some r):
 0<=i/\∃y,es[i.toNat]? =some y/\y.cells.length=P.cellsOf e/\0<P.cellsOf e/\r=(.pp y.cells 0,[],rd):=by
 unfold yF at h
 split at h
 ·rename_i h0
  split at h
  ·rename_i y hy
   obtain⟨h1,rfl⟩:=sq h
   simp only[Bool.and_eq_true,beq_iff_eq,decide_eq_true_eq]at h1
   exact⟨h0,y,hy,h1.1,h1.2,rfl⟩
  ·cases h
 ·cases h
theorem ud{t:TypeId}{x ix:V}(h:im P o t x ix=some (v,Δ,rd))(hK:K v Δ rd):jL P o t x ix fun v rd=>K v [] rd:=by
 unfold im at h
 unfold jL
 split at h
 ·simp only
  split at h
  ·rename_i e ht
   simp only[ht]
   split at h
   ·exact aa7
   ·exact aa7
   ·split at h
    ·rename_i ho
     split at h
     ·rename_i hc
      simp only[Option.some.injEq,Prod.mk.injEq]at h;obtain⟨rfl,rfl,rfl⟩:=h
      simp only[ho]
      exact⟨hc.1,hc.2.1,hc.2.2.1,hc.2.2.2.1,hc.2.2.2.2,hK⟩
     ·cases h
    ·rename_i ho
     split at h
     ·rename_i hc
      obtain⟨h0,y,h1,h2,h3,h4⟩:=u6 h
      simp only[Prod.mk.injEq]at h4;obtain⟨rfl,rfl,rfl⟩:=h4
      simp only[ho]
      exact⟨hc,h0,y,h1,h2,h3,hK⟩
     ·cases h
    ·cases h
   ·cases h
  ·rename_i ht
   simp only[ht]
   split at h
   ·rename_i n e ha
    simp only[ha]
    split at h
    ·rename_i hc
     simp only[Option.bind_eq_some_iff]at h
     obtain⟨y,hy,h1⟩:=h
     have h1:=kY h1
     simp only[Prod.mk.injEq]at h1;obtain⟨rfl,rfl,rfl⟩:=h1
     refine⟨hc.1,hc.2.1,hc.2.2, ?_⟩
     rcases vz hy with⟨_,_,rfl,h2,rfl⟩|⟨_,_,rfl,rfl⟩|⟨_,_,_,_,_,rfl,h2,rfl⟩
     ·exact⟨h2,hK⟩
     ·exact hK
     ·exact⟨h2,hK⟩
    ·cases h
   ·cases h
 ·cases h
theorem ue{t:TypeId}{x y:V}{f:Nat}(h:iq P o t x f=some y){K:V->Prop}(hK:K y):jM P o t x f K:=by
 unfold iq at h
 unfold jM
 split at h
 ·rename_i q hq
  simp only[hq]
  rcases vz h with⟨_,_,rfl,h2,rfl⟩|⟨_,_,rfl,rfl⟩|⟨_,_,_,_,_,rfl,h2,rfl⟩
  ·exact⟨h2,hK⟩
  ·exact hK
  ·exact⟨h2,hK⟩
 ·cases h
theorem Ji{t:TypeId}{x:V}(h:Fh P t o x=some (v,Δ,rd))(hK:K v Δ rd):LA P t o x fun v rd=>K v [] rd:=by
 unfold Fh at h
 unfold LA
 split at h
 ·rename_i e hu
  simp only[hu]
  split at h
  ·rename_i es uz hl
   simp only[Option.some.injEq,Prod.mk.injEq]at h;obtain⟨rfl,rfl,rfl⟩:=h
   unfold qH at hl
   split at hl
   ·exact La
   ·exact La
   ·exact La
   ·split at hl
    ·rename_i ho
     split at hl
     ·rename_i hc;simp at hl;obtain⟨rfl,rfl⟩:=hl;simp only[ho];exact⟨hc,hK⟩
     ·cases hl
    ·rename_i ho
     split at hl
     ·rename_i hc;simp at hl;obtain⟨rfl,rfl⟩:=hl;simp only[ho];exact⟨hc,hK⟩
     ·cases hl
    ·cases hl
   ·cases hl
  ·cases h
 ·rename_i hu
  simp only[hu]
  split at h
  ·have h1:=kY h;simp only[Prod.mk.injEq]at h1;obtain⟨rfl,rfl,rfl⟩:=h1;exact hK
  ·cases h
 ·rename_i hu
  simp only[hu]
  have h1:=kY h;simp only[Prod.mk.injEq]at h1;obtain⟨rfl,rfl,rfl⟩:=h1;exact hK
 ·cases h
theorem Fk{t:TypeId}{x:V}(h:nw P o t x=some (v,Δ,rd))(hK:K v Δ rd):BZ P o t x fun v rd=>K v [] rd:=by
 unfold nw at h
 unfold BZ
 split at h
 ·split at h
  ·rename_i ho
   split at h
   ·rename_i hg
    exact abk
   ·cases h
  ·cases h
 ·split at h
  ·rename_i hg
   simp only[Option.some.injEq,Prod.mk.injEq]at h;obtain⟨rfl,rfl,rfl⟩:=h
   exact⟨_,hg,hK⟩
  ·cases h
 ·split at h
  ·rename_i ho
   split at h
   ·rename_i hc
    split at h
    ·rename_i e he
     split at h
     ·rename_i hg
      simp only[Option.some.injEq,Prod.mk.injEq]at h;obtain⟨rfl,rfl,rfl⟩:=h
      simp only[ho];exact⟨hc.1,hc.2,e,he,_,hg,hK⟩
     ·cases h
    ·cases h
   ·cases h
  ·cases h
 ·cases h
theorem CD{t:TypeId}{x y:V}(h:sn P o t x y=some (v,Δ,rd))(hK:K v Δ rd):ve P o t x y fun Δ rd=>K (.bW []) Δ rd:=by
 unfold sn at h
 unfold ve
 split at h
 ·split at h
  ·rename_i ho
   split at h
   ·rename_i hg
    exact abk
   ·cases h
  ·cases h
 ·split at h
  ·rename_i ho
   split at h
   ·rename_i hc
    split at h
    ·rename_i e z he hz
     split at h
     ·rename_i hl
      split at h
      ·rename_i e' hp
       simp only[Option.some.injEq,Prod.mk.injEq]at h;obtain⟨rfl,rfl,rfl⟩:=h
       simp only[ho]
       exact⟨hc.1,hc.2,e,he,z,hz,hl.1,hl.2.1,hl.2.2,e',hp,hK⟩
      ·cases h
     ·cases h
    ·cases h
   ·cases h
  ·cases h
 ·cases h
theorem ss{t:TypeId}{len:Nat}{parts:List (Nat×V)}(h:gu P o fr t len parts=some (v,Δ,rd))(hK:K v Δ rd):iH P o fr t len parts K:=by
 unfold gu at h
 unfold iH
 split at h
 ·rename_i e ht
  simp only[ht]
  split at h
  ·rename_i hc
   simp only[Option.some.injEq,Prod.mk.injEq]at h;obtain⟨rfl,rfl,rfl⟩:=h
   exact .inl ⟨hc.1,by simpa using hc.2.1,hc.2.2,hK⟩
  split at h
  ·rename_i hc
   refine .inr ?_
   split at h
   ·rename_i ds hd
    split at h
    ·rename_i hw
     simp only[Option.some.injEq,Prod.mk.injEq]at h;obtain⟨rfl,rfl,rfl⟩:=h
     refine⟨hc.1,hc.2.1,hc.2.2.1,hc.2.2.2.1,hc.2.2.2.2,ds,hd,fun x hx=> ?_,hK⟩
     simpa using List.all_eq_true.1 hw x hx
    ·cases h
   ·cases h
  ·cases h
 ·cases h
theorem uf{t:TypeId}{l c:V}(h:mj P fr t l c=some (v,Δ,rd))(hK:K v Δ rd):jN P fr t l c fun v Δ=>K v Δ []:=by
 unfold mj at h
 unfold jN
 split at h
 ·rename_i e ht
  split at h
  ·split at h
   ·rename_i hc
    split at h
    ·rename_i x hx
     simp only[Option.some.injEq,Prod.mk.injEq]at h;obtain⟨rfl,rfl,rfl⟩:=h
     simp only[ht]
     exact⟨hc.1,hc.2.1,hc.2.2.1,hc.2.2.2.1,hc.2.2.2.2,x,hx,hK⟩
    ·cases h
   ·cases h
  ·cases h
 ·cases h
theorem Ak{ts:Array TypeId}{x y:V}(h:qI P o fr ts x y=some (v,Δ,rd))(hK:K v Δ rd):qg P o fr ts x y K:=by
 unfold qI at h
 unfold qg
 split at h
 ·rename_i t t' uC
  simp only[uC]
  split at h
  ·rename_i htt
   refine⟨htt, ?_⟩
   split at h
   ·rename_i e new uz ht hl
    obtain⟨vl,rfl⟩:=Fi hl
    simp only[ht]
    split at h
    ·rename_i hc
     refine⟨new,vl,hc.1,hc.2.1,fun z hz=>by simpa using List.all_eq_true.1 hc.2.2 z hz, ?_⟩
     split at h
     ·split at h
      ·rename_i th
       simp only[Option.some.injEq,Prod.mk.injEq]at h;obtain⟨rfl,rfl,rfl⟩:=h
       exact⟨th.1,th.2,hK⟩
      ·cases h
     ·split at h
      ·rename_i GQ
       refine⟨fun z hz=>by simpa using List.all_eq_true.1 GQ z hz, ?_⟩
       split at h
       ·rename_i hn
        simp only[Option.some.injEq,Prod.mk.injEq]at h;obtain⟨rfl,rfl,rfl⟩:=h
        rw[if_pos hn];exact hK
       ·rename_i hn
        split at h
        ·rename_i th
         simp only[Option.some.injEq,Prod.mk.injEq]at h;obtain⟨rfl,rfl,rfl⟩:=h
         rw[if_neg hn];exact⟨th.1,th.2,hK⟩
        ·cases h
      ·cases h
     ·split at h
      ·rename_i ho
       split at h
       ·rename_i th
        simp only[Option.some.injEq,Prod.mk.injEq]at h;obtain⟨rfl,rfl,rfl⟩:=h
        simp only[ho]
        exact⟨th.1,th.2.1,th.2.2.1,th.2.2.2.1,th.2.2.2.2,hK⟩
       ·cases h
      ·cases h
     ·cases h
    ·cases h
   ·cases h
  ·cases h
 ·cases h
theorem vA{x y:V}(h:jB o x=some y){K:V->Prop}(hK:K y):lD o x K:=by
 unfold jB at h
 unfold lD
 split at h
 ·obtain⟨h2,rfl⟩:=sq h;exact⟨h2,hK⟩
 ·exact K0
 ·exact K0
 ·cases h
theorem L5{op:UnOp}{x y:V}(h:unF op x=some y){K:V->Prop}(hK:K y):unV op x K:=by
 unfold unF at h
 unfold unV
 split at h
 ·injection h with h;subst h;simp only;rw[Int.zero_sub];exact hK
 ·exact K0
 ·cases h
theorem zN{m:Bool}{x y v:V}(h:qJ m x y=some v){K:V->Prop}(hK:K v):n8 m [x,y] K:=by
 unfold qJ at h
 unfold n8
 split at h
 ·split at h
  ·exact UP
  ·cases h
 ·cases h
theorem CE{op:Op}(h:gC P s fr op=some (v,Δ,rd))(hK:K v Δ rd):Sf P s fr op K:=by
 cases op<;>simp only[gC]at h<;>simp only[Sf]<;>try (cases h;done)
 case move x=>have h:=kY h;simp only[Prod.mk.injEq]at h;obtain⟨rfl,rfl,rfl⟩:=h;exact hK
 case assign x=>have h:=kY h;simp only[Prod.mk.injEq]at h;obtain⟨rfl,rfl,rfl⟩:=h;exact hK
 case pick c a b=>
  obtain⟨x,h1,h⟩:=js h;simp only[Prod.mk.injEq]at h;obtain⟨rfl,rfl,rfl⟩:=h
  exact Fj h1 hK
 case alloc t=>
  split at h
  ·rename_i cs hz;simp only[Option.some.injEq,Prod.mk.injEq]at h;obtain⟨rfl,rfl,rfl⟩:=h;exact⟨cs,hz,hK⟩
  ·cases h
 case box t x=>
  split at h
  ·rename_i cs hz;simp only[Option.some.injEq,Prod.mk.injEq]at h;obtain⟨rfl,rfl,rfl⟩:=h;exact⟨cs,hz,hK⟩
  ·cases h
 case build t parts=>
  obtain⟨x,h1,h⟩:=js h;simp only[Prod.mk.injEq]at h;obtain⟨rfl,rfl,rfl⟩:=h
  unfold Aj at h1
  split at h1
  ·rename_i z pl hz hp
   split at h1
   ·rename_i cs hc;injection h1 with h1;subst h1;exact⟨z,pl,cs,hz,hp,hc,hK⟩
   ·cases h1
  ·cases h1
 case buildSlice t len parts=>exact ss h hK
 case load t x=>exact Fk h hK
 case store t x y=>exact CD h hK
 case nilCheck x=>
  obtain⟨y,h1,h⟩:=js h;simp only[Prod.mk.injEq]at h;obtain⟨rfl,rfl,rfl⟩:=h
  exact vA h1 hK
 case binOp op t x y yt=>
  unfold fl at h
  split at h
  ·rename_i z h1
   have h:=kY h;simp only[Prod.mk.injEq]at h;obtain⟨rfl,rfl,rfl⟩:=h
   exact .inl (Jh h1 hK)
  ·right;simp only[h,cX];exact hK
 case unOp op t x=>
  obtain⟨z,h1,h⟩:=js h;simp only[Prod.mk.injEq]at h;obtain⟨rfl,rfl,rfl⟩:=h
  unfold IG at h1
  split at h1
  ·rename_i hx;injection h1 with h1;subst h1;exact .inr ⟨rfl,hx,hK⟩
  ·exact .inl (L5 h1 hK)
 case slice t x lo hi mx=>simp only[h,cX];exact hK
 case field t x f=>
  exact UY
 case typeAssert x xt t ok=>
  exact UY
 case makeMap t r=>
  cases r with
  |none=>simp only[h,cX];exact hK
  |some x=>cases h
 case lookup t m k ok=>simp only[h,cX];exact hK
 case mapUpdate t m k v=>simp only[h,cX];exact hK
 case insert t m k v=>simp only[h,cX];exact hK
 case index t x i=>
  exact UY
 case convert u t x=>
  split at h
  ·rename_i d k k' n hu hk hx
   have h:=kY h;simp only[Prod.mk.injEq]at h;obtain⟨rfl,rfl,rfl⟩:=h
   exact⟨by rw[hu];rfl,by simp only[hk,hx];exact hK⟩
  ·cases h
 case makeInterface t x=>
  obtain⟨z,h1,h⟩:=js h;simp only[Prod.mk.injEq]at h;obtain⟨rfl,rfl,rfl⟩:=h
  obtain⟨h2,rfl⟩:=sq h1
  refine⟨?_, ?_⟩
  ·unfold pz at h2
   cases hd:P.underlying t with
   |none=>simp[hd]at h2
   |some d=>exact⟨d,rfl,by cases d<;>simp_all⟩
  ·split
   ·rename_i y hy;simp only[hy]at hK;exact hK
   ·rename_i hy
    split at hK
    ·rename_i y hy';exact absurd hy' (hy y)
    ·exact hK
 case makeFunc fn first cap=>have h:=kY h;simp only[Prod.mk.injEq]at h;obtain⟨rfl,rfl,rfl⟩:=h;exact hK
 case makeSlice t l c=>
  exact uf h hK
 case fieldAddr t x f=>
  obtain⟨z,h1,h⟩:=js h;simp only[Prod.mk.injEq]at h;obtain⟨rfl,rfl,rfl⟩:=h
  exact ue h1 hK
 case indexAddr t x i=>
  exact ud h hK
 case extract x i=>
  split at h
  ·rename_i vs hv
   split at h
   ·rename_i u hu
    have h:=kY h;simp only[Prod.mk.injEq]at h;obtain⟨rfl,rfl,rfl⟩:=h
    simp only[hv];exact⟨_,hu,hK⟩
   ·cases h
  ·cases h
 case call c=>
  obtain⟨LS,args,ts⟩:=c
  cases LS<;>simp only at h|- <;>try (cases h;done)
  rename_i b
  unfold qK at h
  unfold vh
  split at h
  ·rename_i x ha
   simp only[ha]
   split at h
   ·rename_i t uC;exact⟨t,uC,Ji h hK⟩
   ·cases h
  ·rename_i x y ha
   simp only[ha]
   split at h
   ·rename_i r hr
    simp only[Option.some.injEq]at h
    subst h
    exact .inl (by rw[hr];exact hK)
   ·exact .inr (Ak h hK)
  ·rename_i x y ha
   exact abb
  ·rename_i x y ha
   exact abb
  ·rename_i x y z ha
   simp only[ha]
   obtain⟨v0,h1,h⟩:=js h;simp only[Prod.mk.injEq]at h;obtain⟨rfl,rfl,rfl⟩:=h
   exact aaC
  ·rename_i x y ha
   simp only[ha,h,cX];exact hK
  ·rename_i x y ha
   simp only[ha]
   split at h
   ·rename_i t ht;exact⟨t,ht,by simp only[h,cX];exact hK⟩
   ·cases h
  ·rename_i x ha
   simp only[ha,h,cX];exact hK
  ·cases h
 case range t x=>simp only[h,cX];exact hK
 case next x str=>left;simp only[h,cX];exact hK
 case entry x=>simp only[h,cX];exact hK
end
end
section
def vB(P:Program)(g:FuncId)(ds:List D)(o o1 oa:Nat->ab)(K:V->(Nat->ab)->Prop)(X:V->(Nat->ab)->Prop):Prop:=
 ∃out,aV P g ds out/\((match out with| .ret rs=>K (jv rs) o1| .bE x=>X (.d x) o1)\/(out.flat=true/\match out with| .ret rs=>K (jv rs) o| .bE x=>X (.d x) o)\/(out.np=true/\match out with| .ret rs=>K (jv rs) oa| .bE x=>X (.d x) oa))
def tt(P:Program)(g:FuncId)(args:List V)(o:Nat->ab)(nx:Nat)(K:V->(Nat->ab)->Nat->Prop)(X:V->(Nat->ab)->Nat->Prop):Prop:=oN P g args o nx K X
theorem oN.mono {P:Program}{g:FuncId}{args:List V}{o:Nat->ab}{nx:Nat}{K X K' X':V->(Nat->ab)->Nat->Prop}(hK:∀v o n,K v o n->K' v o n)(hX:∀v o n,X v o n->X' v o n)(h:oN P g args o nx K X):oN P g args o nx K' X':=
 h.imp (cH.mono hK hX) (cH.mono hK hX)
@[congr] theorem Sv {P:Program} {g g':FuncId} {ds ds':List D} {o o1 oa:Nat->ab} {K X} (h:g=g') (h':ds=ds'):vB P g ds o o1 oa K X=vB P g' ds' o o1 oa K X:=by subst h;subst h';rfl
@[congr] theorem Sw {P:Program} {g g':FuncId} {cc abE:List V} {o:Nat->ab} {nx:Nat} {K X} (h:g=g') (h':cc=abE):tt P g cc o nx K X=tt P g' abE o nx K X:=by subst h;subst h';rfl
def Sx(P:Program)(g:FuncId)(args:List V)(o:Nat->ab)(nx:Nat)(K X:V->(Nat->ab)->Nat->Prop):Prop:=
 (∃ds,b7 o args=some ds/\vB P g ds o (put o (bT o (V.bg args))) (put o (rW o (V.bg args))) (fun v o'=>K v o' (nx+1)) (fun v o'=>X v o' (nx+1)))\/cH P g args o nx K X
def KH(P:Program)(s:S)(o:bM)(X:V->S->Prop)(K:S->Prop):Prop:=
 match o.op with
 | .call c=>match c.callee with
   | .value f=>match s.ev f with
     | .func (.func g) first cap=>match b7 s.o (first++c.args.toList.map s.ev++cap)with
       |some ds=>vB P g ds s.o (put s.o (bT s.o (V.bg (first++c.args.toList.map s.ev++cap)))) (put s.o (rW s.o (V.bg (first++c.args.toList.map s.ev++cap)))) (fun v o'=>K ⟨aY s.env o.dst v,o',s.nx+1⟩) (fun v o'=>X v ⟨s.env,o',s.nx+1⟩)\/
        tt P g (first++c.args.toList.map s.ev++cap) s.o s.nx (fun v o' nx'=>K ⟨aY s.env o.dst v,o',nx'⟩) (fun v o' nx'=>X v ⟨s.env,o',nx'⟩)
       |none=>tt P g (first++c.args.toList.map s.ev++cap) s.o s.nx (fun v o' nx'=>K ⟨aY s.env o.dst v,o',nx'⟩) (fun v o' nx'=>X v ⟨s.env,o',nx'⟩)
     | .ju id=>dI P id (c.args.toList.map s.ev) s.o s.nx (fun v o' nx'=>K ⟨aY s.env o.dst v,o',nx'⟩) (fun v o' nx'=>X v ⟨s.env,o',nx'⟩)
     |_=>False
   | .invoke r m=>match vr P m (s.ev r)with
     |some (g,y)=>Sx P g (y::c.args.toList.map s.ev) s.o s.nx (fun v o' nx'=>K ⟨aY s.env o.dst v,o',nx'⟩) (fun v o' nx'=>X v ⟨s.env,o',nx'⟩)
     |none=>False
   |_=>match gC P s s.nx o.op with
    |some (v,Δ,_)=>K ⟨aY s.env o.dst v,put s.o Δ,s.nx+1⟩
    |none=>False
 | .panic x=>match s.ev x with
   | .d (.iface t y)=>X (.d (.iface t y)) s
   | .iface t y=>X (.iface t y) s
   |_=>False
 | .next x str=>match oS s.o (s.ev x)with
   |some (id,l)=>str=false/\GI id l fun v Δ _=>K ⟨aY s.env o.dst v,put s.o Δ,s.nx+1⟩
   |none=>match gC P s s.nx o.op with
    |some (v,Δ,_)=>K ⟨aY s.env o.dst v,put s.o Δ,s.nx+1⟩
    |none=>False
 |op=>match gC P s s.nx op with
  |some (v,Δ,_)=>K ⟨aY s.env o.dst v,put s.o Δ,s.nx+1⟩
  |none=>False
def pA(P:Program)(X:V->S->Prop)(K:S->Prop):List bM->S->Prop
 |[],s=>K s
 |o::l,s=>match o.gd with
  |none=>KH P s o X (pA P X K l)
  |some (d,want)=>match s.env d with
   | .d (.bool b)=>if b=want then KH P s o X (pA P X K l)else pA P X K l ⟨aY s.env o.dst (.bW []),s.o,s.nx+1⟩
   | .bW []=>pA P X K l ⟨aY s.env o.dst (.bW []),s.o,s.nx+1⟩
   |_=>False
def L6(b:Nat)(body:(fG->S->Prop)->S->Prop)(Q:fG->S->Prop)(s:S):Prop:=
 ∃ (J:Nat->S->Prop),(∃m s1,bt b s s1/\J m s1)/\∀m s0,J m s0->body (fun e s=>match e with| .normal=>∃m' s1,m'<m/\bt b s s1/\J m' s1|e=>Q e s) s0
@[congr] theorem Sy {b:Nat} {body Q} {s s':S} (h:s=s'):L6 b body Q s=L6 b body Q s':=by subst h;rfl
def qL(t:Bool)(A B:Prop):Prop:=(t=true->A)/\(t=false->B)
@[congr] theorem Sz {t t':Bool} {A B:Prop} (h:t=t'):qL t A B=qL t' A B:=by subst h;rfl
@[simp] theorem vC (A B:Prop):qL true A B=A:=by simp[qL]
@[simp] theorem tu (A B:Prop):qL false A B=B:=by simp[qL]
section
variable {P:Program}{n b:Nat}
theorem G2{s:S}{o:bM}{o':Oper}{X X':V->S->Prop}{K K':S->Prop}(gW:o'.op=o.op)(cQ:o'.dst=o.dst)(hd:gJ n o'.dst)(hK:∀s,K s->K' s)(hX:∀v s,X v s->X' v s)(h:KH P s o X K):opW P n s o' X' K':=by
 refine⟨hd, ?_⟩
 rw[cQ,gW]
 unfold KH at h
 have hs:∀ {op:Op},(match gC P s s.nx op with|some (v,Δ,_)=>K ⟨aY s.env o.dst v,put s.o Δ,s.nx+1⟩|none=>False)->Sf P s s.nx op fun v Δ _=>K' ⟨aY s.env o.dst v,put s.o Δ,s.nx+1⟩:=by
  intro op h
  split at h
  ·rename_i v Δ rd he;exact CE he (hK _ h)
  ·exact h.elim
 split at h
 ·rename_i c hc
  split at h
  ·rename_i f eX
   simp only[hc,eX]
   split at h
   ·rename_i g first cap hf
    unfold Cs
    simp only[hf]
    unfold vq
    split at h
    ·rename_i ds eZ
     rcases h with⟨out,hP,h|⟨m8,h⟩|⟨m8,h⟩⟩|h
     ·exact R2
     ·exact RU
     ·exact RQ
     ·exact aaH
    ·exact aaH
   ·rename_i id hf
    unfold Cs
    simp only[hf]
    exact dI.mono (fun v o n h=>hK _ h) (fun v o n h=>hX _ _ h) h
   ·exact h.elim
  ·rename_i r m eX
   simp only[hc,eX]
   split at h
   ·rename_i g y hr
    simp only[hr]
    unfold vq
    rcases h with⟨ds,eZ,out,hP,h|⟨m8,h⟩|⟨m8,h⟩⟩|h
    ·exact R2
    ·exact RU
    ·exact RQ
    ·exact .inr (.inr (.inr (.inl (cH.mono (fun v o n h=>hK _ h) (fun v o n h=>hX _ _ h) h))))
   ·exact h.elim
  ·rename_i eX hinv
   rw[hc]at h|-
   obtain⟨LS,args,ts⟩:=c
   cases LS with
   |value f=>exact absurd rfl (eX f)
   |invoke r m=>exact absurd rfl (hinv r m)
   |_=>exact hs h
 ·rename_i x hx
  simp only[hx]
  split at h
  ·rename_i hv;simp only[hv];exact hX _ _ h
  ·rename_i hv;simp only[hv];exact hX _ _ h
  ·exact h.elim
 ·rename_i x str hx
  rw[hx]at h|-
  split at h
  ·rename_i id l hl
   exact .inr ⟨h.1,id,l,hl,fun e=>hK _ (h.2.1 e),fun i k x e=>hK _ (h.2.2 i k x e)⟩
  ·exact hs h
 ·rename_i hc hp vw
  have h2:=hs h
  cases hh:o.op<;>first
   |exact absurd hh (hc _)
   |exact absurd hh (hp _)
   |exact absurd hh (vw _ _)
   |(rw[hh]at h2;exact h2)
theorem jC{ops:Array Oper}{X X':V->S->Prop}{K K':S->Prop}(hK:∀s,K s->K' s)(hX:∀v s,X v s->X' v s):∀ (l:List Oper) (l':List bM) (s:S),lA n ops l=some l'->pA P X K l' s->Ab P n ops X' K' l s
 |[],l',s,h,hr=>by simp[lA]at h;subst h;exact hK _ hr
 |o::l,l',s,h,hr=>by
  simp only[lA]at h
  split at h
  ·rename_i x xs hx IV
   injection h with h;subst h
   unfold Lx at hx
   split at hx
   ·rename_i hd
    have cQ:gJ n o.dst:=by
     unfold ER at hd;unfold gJ
     split at hd<;>simp_all
    simp only[Ab,Aa]
    cases hg:o.guard with
    |none=>
     simp only[hg]at hx
     injection hx with hx;subst hx
     exact G2 rfl rfl cQ (fun s hs=>jC hK hX l xs s IV hs) hX hr
    |some p=>
     obtain⟨j,want⟩:=p
     simp only[hg]at hx
     cases SA:s9 ops j with
     |none=>simp[SA]at hx
     |some d=>
      simp only[SA]at hx
      injection hx with hx;subst hx
      simp only
      simp only[pA]at hr
      split at hr
      ·rename_i t ht
       simp only[SA,ht]
       split at hr
       ·rename_i e
        exact⟨fun _=>G2 rfl rfl cQ (fun s hs=>jC hK hX l xs s IV hs) hX hr,fun h=>absurd e h⟩
       ·rename_i e
        exact⟨fun h=>absurd h e,fun _=>⟨cQ,jC hK hX l xs _ IV hr⟩⟩
      ·rename_i ht
       simp only[SA,ht]
       exact⟨cQ,jC hK hX l xs _ IV hr⟩
      ·exact hr.elim
   ·cases hx
  ·cases h
end
end
section
mutual
def V.refs:V->List Nat
 | .ptr id _=>[id]| .osl id _=>[id]| .pe id _ _ _ _=>[id]| .x9 id _ _=>[id]| .mp id=>[id]| .ju id=>[id]
 | .agg cs=>V.aE cs
 | .bW cs=>V.aE cs
 | .func _ a b=>V.aE a++V.aE b
 | .iface _ x=>x.refs
 |_=>[]
def V.aE:List V->List Nat
 |[]=>[]
 |v::vs=>v.refs++V.aE vs
end
mutual
theorem jS:∀ (v:V),∀id∈v.ids,id∈v.refs
 | .osl id _,j,h=>by simpa[V.ids,V.refs]using h
 | .agg cs,j,h=>by simp only[V.ids]at h;simp only[V.refs];exact lZ cs j h
 | .iface _ x,j,h=>by simp only[V.ids]at h;simp only[V.refs];exact jS x j h
 | .mp _,j,h=>by simpa[V.ids,V.refs]using h
 | .d _,_,h| .aZ,_,h| .bW _,_,h| .ptr _ _,_,h| .pe _ _ _ _ _,_,h| .pp _ _,_,h| .func _ _ _,_,h| .aa,_,h| .rK _,_,h| .x9 _ _ _,_,h| .ft,_,h| .ju _,_,h=>by simp[V.ids]at h
theorem lZ:∀ (vs:List V),∀id∈V.bg vs,id∈V.aE vs
 |[],j,h=>by simp[V.bg]at h
 |v::vs,j,h=>by
  simp only[V.bg,V.aE,List.mem_append]at h|-
  exact h.imp (jS v j) (lZ vs j)
end
mutual
theorem dm{o o':Nat->ab}:∀ (v:V),(∀id∈v.refs,o' id=o id)->dB o' v=dB o v
 | .osl id ep,h=>by simp only[dB,h id (by simp[V.refs])]
 | .mp id,h=>by simp only[dB,h id (by simp[V.refs])]
 | .agg cs,h=>by simp only[dB,ir cs (by simpa[V.refs]using h)]
 | .iface t x,h=>by simp only[dB,dm x (by simpa[V.refs]using h)]
 | .d _,_| .aZ,_| .bW _,_| .ptr _ _,_| .pe _ _ _ _ _,_| .pp _ _,_| .func _ _ _,_| .aa,_| .rK _,_| .x9 _ _ _,_| .ft,_| .ju _,_=>by simp only[dB]
theorem ir{o o':Nat->ab}:∀ (vs:List V),(∀id∈V.aE vs,o' id=o id)->b7 o' vs=b7 o vs
 |[],_=>rfl
 |v::vs,h=>by
  simp only[b7,dm v (fun id aq=>h id (by simp[V.aE,aq])),ir vs (fun id aq=>h id (by simp[V.aE,aq]))]
end
theorem hU{o o':Nat->ab}{ids:List Nat}(h:∀id∈ids,o' id=o id):bT o' ids=bT o ids:=by
 rw[l8,l8]
 exact List.map_congr_left fun id aq=>by rw[h id aq]
def oM(s:S)(op:Op):List Nat:=
 match op with
 | .load _ x=>(s.ev x).refs
 | .nilCheck x=>(s.ev x).refs
 | .fieldAddr _ x _=>(s.ev x).refs
 | .indexAddr _ x _=>(s.ev x).refs
 | .store _ x v=>(s.ev x).refs++(s.ev v).refs
 | .buildSlice _ _ parts=>V.aE (parts.toList.map fun p=>s.ev p.2)
 | .binOp _ _ x y _=>(s.ev x).refs++(s.ev y).refs
 | .slice _ x _ _ _=>(s.ev x).refs
 | .lookup _ m k _=>(s.ev m).refs++(s.ev k).refs
 | .mapUpdate _ m k v=>(s.ev m).refs++((s.ev k).refs++(s.ev v).refs)
 | .insert _ m k v=>(s.ev m).refs++((s.ev k).refs++(s.ev v).refs)
 | .range _ x=>(s.ev x).refs
 | .next x _=>(s.ev x).refs
 | .entry x=>(s.ev x).refs
 | .call c=>match c.callee with
   | .builtin _=>V.aE (c.args.toList.map s.ev)
   | .value f=>match s.ev f with
     | .func _ first cap=>V.aE (first++c.args.toList.map s.ev++cap)
     |_=>[]
   |_=>[]
 |_=>[]
section
variable {P:Program}{s s':S}{fr:Nat}
theorem tv{o o':Nat->ab}(v:V)(h:∀id∈v.refs,o' id=o id):qH o' v=qH o v:=by
 cases v with
 |osl id ep=>simp only[qH,h id (by simp[V.refs])]
 |d x=>cases x<;>rfl
 |_=>rfl
theorem tw{o o':Nat->ab}(v:V)(q:Nat)(h:∀id∈v.refs,o' id=o id):oW o' v q=oW o v q:=by
 cases v<;>simp only[oW]<;>rw[h _ (by simp[V.refs])]
theorem Fl{o o':Nat->ab}(v:V)(h:∀id∈v.refs,o' id=o id):B1 o' v=B1 o v:=by
 have h1:eL o' v=eL o v:=by unfold eL;rw[dm v h]
 cases v<;>first|rfl|simp only[B1,h1]
theorem Al{o o':Nat->ab}(v:V)(h:∀id∈v.refs,o' id=o id):rY o' v=rY o v:=by
 cases v with
 |mp id=>simp only[rY,h id (by simp[V.refs])]
 |d x=>cases x<;>rfl
 |_=>rfl
theorem Am{o o':Nat->ab}(v:V)(h:∀id∈v.refs,o' id=o id):rZ o' v=rZ o v:=by
 cases v with
 |ptr id off=>simp only[rZ,h id (by simp[V.refs])]
 |d x=>cases x<;>rfl
 |_=>rfl
theorem ny{o o':Nat->ab}(v:V)(h:∀id∈v.refs,o' id=o id):oQ o' v=oQ o v:=by
 cases v with
 |mp id=>simp only[oQ,h id (by simp[V.refs])]
 |d x=>cases x<;>rfl
 |_=>rfl
theorem CF{o o':Nat->ab}(v:V)(h:∀id∈v.refs,o' id=o id):qk o' v=qk o v:=by
 cases v with
 |mp id=>simp only[qk,h id (by simp[V.refs])]
 |d x=>cases x<;>rfl
 |_=>rfl
theorem CG{o o':Nat->ab}(v:V)(str:Bool)(h:∀id∈v.refs,o' id=o id):oR o' v str=oR o v str:=by
 cases v with
 |ptr id off=>cases off<;>simp only[oR,h id (by simp[V.refs])]
 |_=>rfl
theorem An{o o':Nat->ab}(v:V)(h:∀id∈v.refs,o' id=o id):nb o' v=nb o v:=by
 cases v with
 |ptr id off=>cases off<;>simp only[nb,h id (by simp[V.refs])]
 |_=>rfl
theorem Ao{o o':Nat->ab}{fr:Nat}{t:TypeId}{P:Program}(v:V)(h:∀id∈v.refs,o' id=o id):na P o' fr t v=na P o fr t v:=by
 unfold na
 cases v with
 |mp id=>simp only[h id (by simp[V.refs])]
 |d x=>cases x<;>rfl
 |_=>rfl
theorem Ap{o o':Nat->ab}(v:V)(h:∀id∈v.refs,o' id=o id):pg o' v=pg o v:=by
 cases v with
 |ptr id off=>simp only[pg,h id (by simp[V.refs])]
 |_=>rfl
theorem Aq{o o':Nat->ab}(v:V)(h:∀id∈v.refs,o' id=o id):ph o' v=ph o v:=by
 cases v with
 |x9 id off n=>simp only[ph,h id (by simp[V.refs])]
 |_=>rfl
theorem Fm(op:Op)(hv:∀x∈op.operands,s'.ev x=s.ev x)(ho:∀id∈oM s op,s'.o id=s.o id):gC P s' fr op=gC P s fr op:=by
 cases op<;>simp only[gC]
 case move x=>rw[hv x (by simp[Op.operands])]
 case assign x=>rw[hv x (by simp[Op.operands])]
 case pick c a b=>rw[hv c (by simp[Op.operands]),hv a (by simp[Op.operands]),hv b (by simp[Op.operands])]
 case box t x=>rw[hv x (by simp[Op.operands])]
 case build t parts=>
  have:(parts.toList.map fun p=>(p.1,s'.ev p.2))=parts.toList.map fun p=>(p.1,s.ev p.2):=
   List.map_congr_left fun p hp=>by rw[hv p.2 (by simp only[Op.operands];simp;exact⟨p.1,by simpa using hp⟩)]
  rw[this]
 case buildSlice t len parts=>
  have:(parts.toList.map fun p=>(p.1,s'.ev p.2))=parts.toList.map fun p=>(p.1,s.ev p.2):=
   List.map_congr_left fun p hp=>by rw[hv p.2 (by simp only[Op.operands];simp;exact⟨p.1,by simpa using hp⟩)]
  rw[this]
  have e:(parts.toList.map fun p=>(p.1,s.ev p.2)).map (·.2)=parts.toList.map fun p=>s.ev p.2:=by simp[Function.comp_def]
  have h1:b7 s'.o ((parts.toList.map fun p=>(p.1,s.ev p.2)).map (·.2))=b7 s.o ((parts.toList.map fun p=>(p.1,s.ev p.2)).map (·.2)):=ir _ (by rw[e];exact ho)
  have h2:bT s'.o (V.bg ((parts.toList.map fun p=>(p.1,s.ev p.2)).map (·.2)))=bT s.o (V.bg ((parts.toList.map fun p=>(p.1,s.ev p.2)).map (·.2))):=
   hU fun id aq=>ho id (by rw[e]at aq;exact lZ _ id aq)
  simp only[gu,h1,h2]
 case load t x=>
  rw[hv x (by simp[Op.operands])]
  cases hx:s.ev x<;>simp only[nw]<;>rw[ho _ (by simp[oM,hx,V.refs])]
 case store t x y=>
  rw[hv x (by simp[Op.operands]),hv y (by simp[Op.operands])]
  have h1:dB s'.o (s.ev y)=dB s.o (s.ev y):=dm _ fun id aq=>ho id o7
  have h2:bT s'.o (s.ev y).ids=bT s.o (s.ev y).ids:=hU fun id aq=>ho id (by simp[oM,jS _ _ aq])
  cases hx:s.ev x<;>simp only[sn]<;>rw[ho _ (by simp[oM,hx,V.refs])]
  simp only[h1,h2]
 case nilCheck x=>
  rw[hv x (by simp[Op.operands])]
  cases hx:s.ev x with
  |ptr id off=>simp only[jB];rw[ho _ (by simp[oM,hx,V.refs])]
  |func fn a b=>cases fn<;>rfl
  |_=>rfl
 case binOp op t x y yt=>
  rw[hv x (by simp[Op.operands]),hv y (by simp[Op.operands])]
  have h1:B1 s'.o (s.ev x)=B1 s.o (s.ev x):=Fl _ fun id aq=>ho id o7
  have h2:∀a b,uA P s'.o a b (s.ev x) (s.ev y)=uA P s.o a b (s.ev x) (s.ev y):=fun a b=>by
   have h3:∀id∈(s.ev x).refs,s'.o id=s.o id:=fun id aq=>ho id o7
   have h4:=Al (s.ev x) h3
   have h5:=Am (s.ev x) h3
   unfold uA
   rw[h1,h4,h5]
  unfold fl r8
  simp only[h2]
 case slice t x lo hi mx=>
  rw[hv x (by simp[Op.operands])]
  have e1:lo.map s'.ev=lo.map s.ev:=by cases lo<;>simp[hv,Op.operands]
  have e2:hi.map s'.ev=hi.map s.ev:=by cases hi<;>simp[hv,Op.operands]
  have e3:mx.map s'.ev=mx.map s.ev:=by cases mx<;>simp[hv,Op.operands]
  rw[e1,e2,e3]
  have h3:∀id∈(s.ev x).refs,s'.o id=s.o id:=fun id aq=>ho id o7
  have h1:eL s'.o (s.ev x)=eL s.o (s.ev x):=by unfold eL;rw[dm _ h3]
  have h2:bT s'.o (s.ev x).ids=bT s.o (s.ev x).ids:=hU fun id aq=>h3 id (jS _ _ aq)
  have h4:ET P s'.o t (s.ev x) (lo.map s.ev) (hi.map s.ev) (mx.map s.ev)=ET P s.o t (s.ev x) (lo.map s.ev) (hi.map s.ev) (mx.map s.ev):=by
   cases hx:s.ev x with
   |osl id ep=>simp only[ET,h3 id (by simp[hx,V.refs])]
   |_=>rfl
  unfold rX qh
  simp only[h1,h2,h4,Ap _ h3]
 case field t x f=>rw[hv x (by simp[Op.operands])]
 case typeAssert x xt t ok=>rw[hv x (by simp[Op.operands])]
 case makeMap t r=>cases r<;>rfl
 case lookup t m k ok=>
  rw[hv m (by simp[Op.operands]),hv k (by simp[Op.operands])]
  have h3:∀id∈(s.ev m).refs,s'.o id=s.o id:=fun id aq=>ho id o7
  have h1:dB s'.o (s.ev k)=dB s.o (s.ev k):=dm _ fun id aq=>ho id o7
  unfold iE
  simp only[h1,CF _ h3]
 case mapUpdate t m k v=>
  rw[hv m (by simp[Op.operands]),hv k (by simp[Op.operands]),hv v (by simp[Op.operands])]
  have h3:∀id∈(s.ev m).refs,s'.o id=s.o id:=fun id aq=>ho id o7
  have h1:dB s'.o (s.ev k)=dB s.o (s.ev k):=dm _ fun id aq=>ho id o7
  have h2:dB s'.o (s.ev v)=dB s.o (s.ev v):=dm _ fun id aq=>ho id o7
  have h4:bT s'.o (s.ev v).ids=bT s.o (s.ev v).ids:=hU fun id aq=>ho id (by simp[oM,jS _ _ aq])
  unfold fO
  simp only[h1,h2,h4,ny _ h3]
 case insert t m k v=>
  rw[hv m (by simp[Op.operands]),hv k (by simp[Op.operands]),hv v (by simp[Op.operands])]
  have h3:∀id∈(s.ev m).refs,s'.o id=s.o id:=fun id aq=>ho id o7
  have h1:dB s'.o (s.ev k)=dB s.o (s.ev k):=dm _ fun id aq=>ho id o7
  have h2:dB s'.o (s.ev v)=dB s.o (s.ev v):=dm _ fun id aq=>ho id o7
  have h4:bT s'.o (s.ev v).ids=bT s.o (s.ev v).ids:=hU fun id aq=>ho id (by simp[oM,jS _ _ aq])
  unfold fO
  simp only[h1,h2,h4,ny _ h3]
 case index t x i=>rw[hv x (by simp[Op.operands]),hv i (by simp[Op.operands])]
 case range t x=>
  rw[hv x (by simp[Op.operands])]
  exact Ao _ fun id aq=>ho id o7
 case next x str=>
  rw[hv x (by simp[Op.operands])]
  exact CG _ _ fun id aq=>ho id o7
 case entry x=>
  rw[hv x (by simp[Op.operands])]
  exact An _ fun id aq=>ho id o7
 case unOp op t x=>rw[hv x (by simp[Op.operands])]
 case convert u t x=>rw[hv x (by simp[Op.operands])]
 case makeInterface t x=>rw[hv x (by simp[Op.operands])]
 case makeFunc fn first cap=>
  have h1:first.toList.map s'.ev=first.toList.map s.ev:=List.map_congr_left fun x hx=>hv x (by simp only[Op.operands];exact Array.mem_append.2 (.inl (Array.mem_toList_iff.1 hx)))
  have h2:cap.toList.map s'.ev=cap.toList.map s.ev:=List.map_congr_left fun x hx=>hv x (by simp only[Op.operands];exact Array.mem_append.2 (.inr (Array.mem_toList_iff.1 hx)))
  rw[h1,h2]
 case makeSlice t l c=>rw[hv l (by simp[Op.operands]),hv c (by simp[Op.operands])]
 case fieldAddr t x f=>
  rw[hv x (by simp[Op.operands])]
  simp only[iq]
  cases bB P t f<;>simp only
  rw[tw _ _ (by simpa[oM]using ho)]
 case indexAddr t x i=>
  rw[hv x (by simp[Op.operands]),hv i (by simp[Op.operands])]
  have h1:∀q,oW s'.o (s.ev x) q=oW s.o (s.ev x) q:=fun q=>tw _ _ (by simpa[oM]using ho)
  simp only[im,h1]
  cases hx:s.ev x with
  |osl id ep=>simp only[ho id (by simp[oM,hx,V.refs])]
  |d y=>cases y<;>rfl
  |_=>rfl
 case extract x i=>rw[hv x (by simp[Op.operands])]
 case call c=>
  obtain⟨LS,args,ts⟩:=c
  cases LS<;>simp only
  rename_i b
  unfold qK
  have hm:∀x∈args.toList,s'.ev x=s.ev x:=fun x hx=>hv x aaA
  have hr:∀x∈args.toList,∀id∈(s.ev x).refs,s'.o id=s.o id:=by
   intro x hx id aq
   refine ho id ?_
   simp only[oM]
   generalize args.toList=l at hx
   induction l with
   |nil=>cases hx
   |cons y l ih=>
    simp only[List.map_cons,V.aE,List.mem_append]
    rcases List.mem_cons.1 hx with rfl|hx
    ·exact .inl aq
    ·exact .inr (ih hx)
  split
  ·rename_i x ha
   rw[ha]at hm hr
   rw[hm x (by simp)]
   have h1:∀t,Fh P t s'.o (s.ev x)=Fh P t s.o (s.ev x):=fun t=>by simp only[Fh,tv _ (hr x (by simp))]
   simp only[h1]
  ·rename_i x y ha
   rw[ha]at hm hr
   rw[hm x (by simp),hm y (by simp)]
   simp only[qI,tv _ (hr y (by simp))]
   cases yg P fr ts (s.ev x) (s.ev y)with
   |some r=>rfl
   |none=>
   dsimp only
   cases hx:s.ev x with
   |osl id ep=>simp only[hr x (by simp) id (by simp[hx,V.refs])]
   |_=>rfl
  ·rename_i x y ha
   rw[ha]at hm
   rw[hm x (by simp),hm y (by simp)]
  ·rename_i x y ha
   rw[ha]at hm
   rw[hm x (by simp),hm y (by simp)]
  ·rename_i x y z h;rw[hm x (by rw[h];simp),hm y (by rw[h];simp),hm z (by rw[h];simp)]
  ·rename_i x y ha
   rw[ha]at hm hr
   rw[hm x (by simp),hm y (by simp)]
   have h1:eL s'.o (s.ev y)=eL s.o (s.ev y):=by unfold eL;rw[dm _ (hr y (by simp))]
   have h2:bT s'.o (s.ev y).ids=bT s.o (s.ev y).ids:=hU fun id aq=>hr y aI id (jS _ _ aq)
   unfold yf
   simp only[h1,h2,Aq _ (hr x (by simp))]
  ·rename_i x y ha
   rw[ha]at hm hr
   rw[hm x (by simp),hm y (by simp)]
   have h1:dB s'.o (s.ev y)=dB s.o (s.ev y):=dm _ (hr y aI)
   have h2:=ny _ (hr x aI)
   simp only[n9,h1,h2]
  ·rename_i x ha
   rw[ha]at hm
   rw[hm x (by simp)]
  ·rfl
end
end
end Go.Proofs.YtnkamdiiakdkgaaGreat
