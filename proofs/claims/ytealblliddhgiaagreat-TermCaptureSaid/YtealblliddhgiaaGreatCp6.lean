/-
  A PART OF THE PROOF. Conditions: none.
-/
import Derived.Test.YtealblliddhgiaaGreatCp5
set_option linter.unusedSimpArgs false
set_option linter.unusedVariables false
namespace Go.Proofs.YtealblliddhgiaaGreat
section
variable {P:Program}{M:Nat->Prop}{φ:Place}{H:Hp}{w w':World}{cC:Place}{H0:Hp}{w0:World}{n b:Nat}{s:S}{a:Act}{cx:Cx}{ro:Option Nat}{k:Nat}
theorem gL(hb:∀id,H0.us id->id<b)(rW:cx.rd=false->ro=none):∀ (c:Code) (Q:fq->S->Prop) (s:S) (φ:Place) (a:Act) (w:World),iJ P n b cx.rd c Q s->cd M cC H0 w0 n cx φ s a w->c.rX P ro (Bu M cC H0 w0 n cx Q) a w:=by
 intro c
 induction c with
 |skip=>exact fun Q s φ a w h hs=>nM (k:=0) (wpIn_skip ⟨.normal,s,φ,h,hs,trivial⟩)
 |scope x ih=>exact fun Q s φ a w h hs=>C0 (ih Q s φ a w h hs) (fun l a w ⟨xx,s',ax,hq,iz,hm⟩=>by cases xx<;>exact hm)
 |label l=>exact fun Q s φ a w h hs=>nM (k:=0) (wpIn_label ⟨.normal,s,φ,h,hs,trivial⟩)
 |exit id=>exact fun Q s φ a w h hs=>xO ⟨.exit id,s,φ,h,hs,rfl⟩
 |ret=>exact fun Q s φ a w h hs=>Bv ⟨.ret,s,φ,h,hs,trivial⟩
 |goto l=>exact fun Q s φ a w h hs=>h.elim
 |refuse y=>exact fun Q s φ a w h hs=>h.elim
 |rangeFunc g ps x y=>exact fun Q s φ a w h hs=>C1 hs h.1 (rW h.1) h.2
 |region id ops draw=>
  intro Q s φ a w h hs
  cases draw with
  |true=>exact nM (h M cC H0 w0 cx φ a w ro 0 hs)
  |false=>
   refine nM (k:=0) (wpIn_region_list (nL (K:=Q .normal) (X:=fun v s=>Q (.bK v) s) (fun s φ a w hk hs=>⟨.normal,s,φ,hk,hs,trivial⟩) (fun v s φ a w val hx hs hd=>⟨.bK v,s,φ,hx,hs,val,rfl,hd⟩) _ s φ a w h hs))
 |seq x y Hx Hy=>
  intro Q s φ a w h hs
  refine vM (gw (Hx _ s φ a w h hs) ?_)
  rintro e a' w' ⟨xx,s',ax,hq,iz,hm⟩
  cases e<;>cases xx<;>first|(exact hm.elim)|skip
  ·exact Hy Q s' ax a' w' hq iz
  ·subst hm;exact⟨_,s',ax,hq,iz,rfl⟩
  ·exact⟨.ret,s',ax,hq,iz,trivial⟩
  ·exact⟨.bK _,s',ax,hq,iz,hm⟩
 |cond c x y Hx Hy=>
  intro Q s φ a w h hs
  simp only[iJ]at h
  have hc:=l8 (M:=M) (φ:=φ) (H:=s.H) (w:=w) s a hs.env c
  split at h
  ·rename_i t hv
   rw[hv]at hc
   simp only[V.den,D.den]at hc
   cases t with
   |true=>exact oQ hc (Hx Q s φ a w (h.1 rfl) hs)
   |false=>exact oQ hc (Hy Q s φ a w (h.2 rfl) hs)
  ·rename_i hv
   rw[hv]at hc
   obtain⟨t,hc⟩:=hc
   cases t with
   |true=>exact oQ hc (Hx Q s φ a w h.1 hs)
   |false=>exact oQ hc (Hy Q s φ a w h.2 hs)
  ·exact h.elim
 |block id x ih=>
  intro Q s φ a w h hs
  refine CZ (gw (ih _ s φ a w h hs) ?_)
  rintro e a' w' ⟨xx,s',ax,hq,iz,hm⟩
  cases e<;>cases xx<;>first|(exact hm.elim)|skip
  ·exact⟨.normal,s',ax,hq,iz,trivial⟩
  ·subst hm
   simp only[Exit.inBlock]
   simp only[fk]at hq
   split
   ·rename_i he;rw[if_pos he]at hq;exact⟨.normal,s',ax,hq,iz,trivial⟩
   ·rename_i he;rw[if_neg he]at hq;exact⟨.exit _,s',ax,hq,iz,rfl⟩
  ·exact⟨.ret,s',ax,hq,iz,trivial⟩
  ·exact⟨.bK _,s',ax,hq,iz,hm⟩
 |loop x ih=>
  intro Q s φ a w h hs
  obtain⟨J,⟨m0,s1,hle,hI⟩,Af⟩:=h
  obtain⟨iy,uw⟩:=E8 hb hs hle
  refine vO (fun m a w=>∃s φ,J m s/\cd M cC H0 w0 n cx φ s a w) ?_ m0 a w ⟨s1,iy,hI,uw⟩
  rintro m a w ⟨s,φ,hI,hs⟩
  refine gw (ih _ s φ a w (Af m s hI) hs) ?_
  rintro e a' w' ⟨xx,s',ax,hq,iz,hm⟩
  cases e<;>cases xx<;>first|(exact hm.elim)|skip
  ·obtain⟨m2,s2,bM,Tx,YO⟩:=hq
   obtain⟨C2,G8⟩:=E8 hb iz Tx
   exact⟨m2,bM,s2,C2,YO,G8⟩
  ·subst hm;exact⟨_,s',ax,hq,iz,rfl⟩
  ·exact⟨.ret,s',ax,hq,iz,trivial⟩
  ·exact⟨.bK _,s',ax,hq,iz,hm⟩
def E9(tmps:Array Value)(r:ResultVar):Sem Value:=
 match r with
 | .tmp t=>pure (tmps.getD t undef)
 | .cell p t=>do loadVar t (<- asAddr (tmps.getD p undef))
theorem rb(oR:au M φ s.H w)(dC:∀i,V.den (ai M φ s.H) φ s.H w (s.env i) (a.tmps.getD i undef)):∀ (rs:List ResultVar) (vs:List V),lj P s rs=some vs->
 ∃vals,(rs.mapM (E9 a.tmps)).run P w= .ok vals w/\V.aB (ai M φ s.H) φ s.H w vs vals
 |[],vs,h=>by simp[lj]at h;subst h;exact⟨[],by simp,rfl⟩
 | .tmp t::rs,vs,h=>by
   simp only[lj,Option.map_eq_some_iff]at h
   obtain⟨us,h1,rfl⟩:=h
   obtain⟨vals,h2,h3⟩:=rb oR dC rs us h1
   exact⟨a.tmps.getD t undef::vals,by simp only[List.mapM_cons,E9,Sem.run_bind,Sem.run_pure,Result.andThen_ok,h2],_,_,rfl,dC t,h3⟩
 | .cell p t::rs,vs,h=>by
   simp only[lj]at h
   split at h
   ·rename_i id off hv
    split at h
    ·rename_i cs ho
     simp only[Option.bind_eq_some_iff,Option.map_eq_some_iff]at h
     obtain⟨v,h0,us,h1,rfl⟩:=h
     obtain⟨vals,h2,h3⟩:=rb oR dC rs us h1
     have hx:=dC p
     rw[hv]at hx
     obtain⟨_,hu,hp⟩:=hx
     obtain⟨k,du,ec⟩:=hp (by show(s.o id).bO=true;rw[ho];rfl)
     have bz:=oR.ok id
     have xQ:s.H.o id= .row cs:=ho
     simp only[aL,xQ]at bz
     obtain⟨b',cX,ty,g1,g2,g3,g4⟩:=bz
     rw[du]at g1;simp at g1;subst g1
     obtain⟨val,h4,h5⟩:=oB (P:=P) h0 ⟨k,0,none⟩ cX.toList g3 g4 (fun j u hj=>oC g2 j u (by simpa using hj)) rfl
     rw[add_plain,Nat.zero_add]at h4
     have h6:(loadVar t ⟨k,off,none⟩).run P w= .ok val w:=by simpa[Instr.loadAt,Instr.sureAddr]using h4
     exact⟨val::vals,by simp only[List.mapM_cons,E9,ec,asAddr,Sem.run_bind,Sem.run_pure,Result.andThen_ok,h6,h2],val,vals,rfl,h5,h3⟩
    ·cases h
   ·cases h
theorem mo{fn:Func}{tmps:Array Value}{vals:List Value}
 (h:(fn.results.toList.mapM (E9 tmps)).run P w= .ok vals w):
 (results fn tmps).run P w= .ok (if h:vals.toArray.size=1 then vals.toArray[0]else .tuple vals.toArray) w:=by
 have e:results fn tmps=(do let vs <- fn.results.mapM (E9 tmps);pure (if h:vs.size=1 then vs[0]else .tuple vs)):=by
  unfold results
  congr 2
 rw[e,Array.mapM_eq_mapM_toList]
 simp only[Sem.run_bind,Sem.run_map,h,Result.andThen_ok,Sem.run_pure]
theorem kC{us:Nat->Prop}(φ:Place)(hM:∀k,M k->k<w.heap.size):au M φ ⟨fun _=> .no,us⟩ w where
 ok id:=by simp[aL]
 fresh _ _:=rfl
 apart i j k hi:=by simp[ae.live]at hi
 ours k:=by rintro⟨id,h,_⟩;simp[ae.live]at h
 tA:=hM
theorem C3{vals:Array Value}{m i:Nat}:(vals++Array.replicate m undef).getD i undef=(vals[i]?).getD undef:=by
 simp only[Array.getD_eq_getD_getElem?,Array.getElem?_append]
 split
 ·rfl
 ·rw[Array.getElem?_eq_none (xs:=vals) (by omega)]
  simp only[Array.getElem?_replicate]
  split<;>rfl
structure vQ (M:Nat->Prop) (cC:Place) (H0:Hp) (w0:World) (φ:Place) (s:S) (tmps:Array Value) (w:World):Prop where
 heap:au M φ s.H w
 tr:Trans cC H0 w0 φ s.H w
 env:∀i,V.den (ai M φ s.H) φ s.H w (s.env i) (tmps.getD i undef)
theorem C4{tmps:Array Value}(hs:vQ M cC H0 w0 φ s tmps w){r:Nat}(h1:w0.heap.size<=r)(h2:w.heap[r]? =some (.deferred (some [])))(h3: ¬bR φ s.H r):
 vQ M cC H0 w0 φ s tmps {w with heap:=w.heap.setIfInBounds r (.deferred none)}:=by
 have fK:∀b,b≠r->(w.heap.setIfInBounds r (.deferred none))[b]? =w.heap[b]? :=fun b hb=>(MapKept.heap_set h2).2 b hb
 have qi:∀b,cA w b-> ¬ai M φ s.H b->(w.heap.setIfInBounds r (.deferred none))[b]? =w.heap[b]? /\ ¬ai M φ s.H b:=by
  intro b hc hn
  refine⟨fK b fun e=> ?_,hn⟩
  subst e
  rcases hc with⟨cs,ty,fz,hc⟩|⟨es,clock,hc⟩
  ·rw[h2]at hc;cases hc
  ·rw[h2]at hc;cases hc
 refine⟨⟨fun id=> ?_,hs.heap.fresh,hs.heap.apart,fun b hb=>⟨(hs.heap.ours b hb).1,by simpa using(hs.heap.ours b hb).2⟩,fun b hb=>by simpa using hs.heap.tA b hb⟩,⟨⟨hs.tr.cg.os,hs.tr.cg.tape,hs.tr.cg.output,by simpa using hs.tr.cg.size,fun j hj hm=> ?_⟩,hs.tr.grow,hs.tr.rel⟩,fun i=>V.kp qi (dX.refl _ _) _ _ (hs.env i)⟩
 ·exact aL.xj qi (dX.refl _ _) rfl rfl (fun hl b hb=>fK b fun e=>h3 ⟨id,hl,e ▸ hb⟩) (hs.heap.ok id)
 ·rw[fK j (by omega)];exact hs.tr.cg.block j hj hm
theorem gx{fn:Func}{R:Ending->World->Prop}{u:FrameMode}(hu:u≠ .run){tmps tb:Array Value}{ds:List Deferred}(hR:∀w,vQ M cC H0 w0 φ s tb w->LeavesInM (dT none) k P fn tmps R ds u w):
 ∀ (ms:List Nat) (w:World),ms.Nodup->(∀r∈ms,w0.heap.size<=r/\w.heap[r]? =some (.deferred (some []))/\ ¬bR φ s.H r)->vQ M cC H0 w0 φ s tb w->LeavesInM (dT none) k P fn tmps R (ms.map mark++ds) u w
 |[],w,_,_,hs=>hR w hs
 |r::ms,w,hn,hm,hs=>by
  obtain⟨h1,h2,h3⟩:=hm r (by simp)
  obtain⟨G9,Ja⟩:=List.nodup_cons.1 hn
  refine⟨hu, .inl ⟨r,{w with heap:=w.heap.setIfInBounds r (.deferred none)},rfl, ?_,gx hu hR ms _ Ja (fun r' CT=> ?_) (C4 hs h1 h2 h3)⟩⟩
  ·simp[Instr.takeDeferred,getObj,setObj,Sem.run,h2,Result.andThen]
  ·obtain⟨g1,g2,g3⟩:=hm r' (by simp[CT])
   exact⟨g1,((MapKept.heap_set h2).2 r' (fun e=>G9 (e ▸ CT))).trans g2,g3⟩
theorem cd.Wv (hs:cd M cC H0 w0 n cx φ s a w):vQ M cC H0 w0 φ s a.tmps w:=⟨hs.heap,hs.tr,hs.env⟩
def lu(P:Program)(rs:List ResultVar)(K X:V->(Nat->ae)->Nat->Prop)(e:fq)(s:S):Prop:=
 match e with
 | .normal| .ret=>match lj P s rs with
   |some [v]=>K v s.o s.nx
   |some vs=>K (.bW vs) s.o s.nx
   |none=>False
 | .bK v=>X v s.o s.nx
 | .exit _=>False
theorem xR{P:Program}{rs:List ResultVar}{K X:V->(Nat->ae)->Nat->Prop}{s:S}(h:lu P rs K X .ret s):∃vs,lj P s rs=some vs/\K (match vs with|[v]=>v|vs=> .bW vs) s.o s.nx:=by
 unfold lu at h
 simp only at h
 split at h
 ·rename_i v h1;exact⟨[v],h1,h⟩
 ·rename_i vs h1 h2
  refine⟨vs,h2, ?_⟩
  split
  ·exact absurd rfl (h1 _)
  ·exact h
 ·exact h.elim
theorem xS:∀ {vs:List V} {vals:List Value},V.aB (ai M φ H) φ H w vs vals->V.den (ai M φ H) φ H w (match vs with|[v]=>v|vs=> .bW vs) (if h:vals.toArray.size=1 then vals.toArray[0]else .tuple vals.toArray)
 |[],vals,h=>by simp only[V.aB]at h;subst h;exact⟨#[],rfl,rfl⟩
 |[v],vals,h=>by obtain⟨u,us,rfl,h1,h2⟩:=h;simp only[V.aB]at h2;subst h2;exact h1
 |v::y::l,vals,h=>by
  have h':=h
  obtain⟨u,us,rfl,h1,u2,us2,rfl,h2⟩:=h
  exact⟨(u::u2::us2).toArray,by simp,by simpa using h'⟩
theorem rZ{vals:Array Value}{m:Nat}{vs:List V}(hd:V.aB (ai M φ H) φ H w vs vals.toList)(i:Nat):V.den (ai M φ H) φ H w (cN vs i) ((vals++Array.replicate m undef).getD i undef):=by
 have hlen:=V.aD _ _ hd
 simp only[cN,C3]
 cases hx:vs[i]? with
 |none=>
  have:vals[i]? =none:=by
   rw[List.getElem?_eq_none_iff]at hx
   apply Array.getElem?_eq_none
   simp at hlen;omega
  simp only[List.getD_eq_getElem?_getD,hx,this]
  exact⟨#[],rfl,rfl⟩
 |some v=>
  obtain⟨u,hu,Hi⟩:=V.eu _ _ _ _ hd hx
  have vz:vals[i]? =some u:=by simpa using hu
  simp only[List.getD_eq_getElem?_getD,hx,vz,Option.getD_some]
  exact Hi
theorem mq{f:FuncId}{fn:Func}{c:Code}{args:Array Value}{w:World}{R:Ending->World->Prop}(hf:P.funcs[f]? =some fn)(hb:fn.body=some c)
 (h:c.rX P none (bodyPostM (dT none) k P fn R) {tmps:=args++Array.replicate (fn.ntmps - args.size) undef,defers:=[]} w):CallsIn (dT none) k P f args w R:=by
 have bM:f<P.funcs.size:=(Array.getElem?_eq_some_iff.1 hf).1
 refine⟨trivial,fun cs hr=> ?_⟩
 let b:Frame:={(default:Frame)with fn:=f,kind:= .normal,roundOf:=none}
 have lr:Frame.enter P f args .normal=b.atR {tmps:=args++Array.replicate (fn.ntmps - args.size) undef,defers:=[]} [.code c]:=by
  simp[Frame.enter,Frame.atR,hf,hb,b]
 obtain⟨e,a',w',hq,cG⟩:=h b [] cs rfl bM
 rw[<- lr]at cG
 cases e with
 |normal=>
  obtain⟨e',IM,Jb,hR,hs,CY,hl⟩:=leaves_stepsInM a'.defers .returning w' {b.atR a' []with mode:= .returning} cs rfl rfl rfl hf rfl (trivial:(dT none).fn f) hr hq
  exact⟨e',IM,Jb,hR,ComesIn.of_steps (StepsIn.trans cG (.one (fenced_calm (n:=0) (fr:=b.atR a' []) trivial gv rfl) (stepR_end rfl))) hs,CY,hl⟩
 |ret=>
  obtain⟨todo,Fa⟩:=cG.1 rfl
  obtain⟨e',IM,Jb,hR,hs,CY,hl⟩:=leaves_stepsInM a'.defers .returning w' {b.atR a' todo with mode:= .returning} cs rfl rfl rfl hf rfl (trivial:(dT none).fn f) hr hq
  exact⟨e',IM,Jb,hR,ComesIn.of_steps Fa hs,CY,hl⟩
 |panic chain=>
  obtain⟨todo,Fa⟩:=cG
  obtain⟨e',IM,Jb,hR,hs,CY,hl⟩:=leaves_stepsInM a'.defers (.panicking chain) w' {b.atR a' todo with mode:= .panicking chain} cs rfl rfl rfl hf rfl (trivial:(dT none).fn f) hr hq
  exact⟨e',IM,Jb,hR,ComesIn.of_steps Fa hs,CY,hl⟩
 |exit id=>exact hq.elim
 |goto l=>exact hq.elim
 |outgrown=>exact⟨.outgrown,w',b,hq,cG.resolve_left (by simp[b]),rfl,trivial⟩
def Ag(P:Program)(l:Nat)(R:Ending->World->Prop):Exit->Act->World->Prop
 | .normal,_,w=>∃v w',(Instr.endRound l none).run P w= .ok v w'/\R (.returned v) w'
 | .ret,_,w=>∃v w',(Instr.endRound l (some .ret)).run P w= .ok v w'/\R (.returned v) w'
 | .exit id,_,w=>∃v w',(Instr.endRound l (some (.exit id))).run P w= .ok v w'/\R (.returned v) w'
 | .goto _,_,_=>False
 | .panic chain,a,w=>a.defers=[]/\R (.panicked chain) w
 | .outgrown,_,_=>False
theorem sa{l:Nat}{f:FuncId}{tmps:Array Value}{assign body:Code}{w:World}{R:Ending->World->Prop}(hf:f<P.funcs.size)
 (h:assign.rX P (some l) (Exit.then (fun iP fM=>∃pR,(Instr.beginRound l).run P fM= .ok () pR/\body.rX P (some l) (Ag P l R) iP pR) (fun e a w=>match e with| .panic chain=>a.defers=[]/\R (.panicked chain) w|_=>False))
  {tmps:=tmps,defers:=[]} w):
 RoundIn Fence.wide n P l f tmps assign body w R:=by
 refine⟨trivial,fun c cs hr=> ?_⟩
 let b:Frame:={(default:Frame)with fn:=f,kind:= .normal,roundOf:=some l}
 have Ah:Frame.round l f tmps assign body .normal=b.atR {tmps:=tmps,defers:=[]} [.code assign, .beginRound, .code body]:=by
  simp[Frame.round,Frame.atR,b]
 have calm:∀ (m:Machine),m.fenced P Fence.wide:=fun m=>fenced_wide P m
 have bK:∀ {a:Act} {w:World} {todo:List Item} {chain:List PanicEntry},a.defers=[]->step P (lone {b.atR a todo with mode:= .panicking chain} (c::cs) w)= .next (lone (c.raise chain) cs w):=by
  intro a w todo chain hd
  exact step_leave_panicked (fr:={b.atR a todo with mode:= .panicking chain}) ⟨rfl,hd,P.funcs[f],by show P.funcs[f]? =_;simp[hf]⟩
 obtain⟨e,iP,fM,hq,cG⟩:=h b [.beginRound, .code body] (c::cs) rfl hf
 rw[<- Ah]at cG
 cases e with
 |normal=>
  obtain⟨pR,KK,oS⟩:=hq
  have s1:StepsIn (Machine.fenced P Fence.wide) P (lone (b.atR iP [.beginRound, .code body]) (c::cs) fM) (lone (b.atR iP [.code body]) (c::cs) pR):= .one (calm _) (stepR_beginRound rfl KK)
  obtain⟨KH,On,Ac,oP,jO⟩:=oS b [] (c::cs) rfl hf
  have cG:StepsIn (Machine.fenced P Fence.wide) P _ _:=cG
  cases KH with
  |normal=>
   obtain⟨v,qP,gK,hR⟩:=oP
   have jO:StepsIn (Machine.fenced P Fence.wide) P _ _:=jO
   exact⟨.returned v,qP,hR,(StepsIn.trans cG s1).trans (StepsIn.trans jO (.one (calm _) (stepR_round_end rfl rfl gK)))⟩
  |ret=>
   obtain⟨v,qP,gK,hR⟩:=oP
   obtain⟨k₁,hs⟩:=jO.2 rfl
   have hs:StepsIn (Machine.fenced P Fence.wide) P _ _:=hs
   exact⟨.returned v,qP,hR,(StepsIn.trans cG s1).trans (StepsIn.trans hs (.one (calm _) (stepR_round_ret rfl rfl gK)))⟩
  |exit id=>
   obtain⟨v,qP,gK,hR⟩:=oP
   obtain⟨k₁,hk,hs⟩:=jO.2 rfl rfl
   have hs:StepsIn (Machine.fenced P Fence.wide) P _ _:=hs
   exact⟨.returned v,qP,hR,(StepsIn.trans cG s1).trans (StepsIn.trans hs (.one (calm _) (stepR_round_exit rfl rfl hk gK)))⟩
  |goto t=>exact oP.elim
  |panic chain=>
   obtain⟨todo,hs⟩:=jO
   have hs:StepsIn (Machine.fenced P Fence.wide) P _ _:=hs
   exact⟨.panicked chain,Ac,oP.2,(StepsIn.trans cG s1).trans (StepsIn.trans hs (.one (calm _) (bK oP.1)))⟩
  |outgrown=>exact oP.elim
 |exit id=>exact hq.elim
 |goto t=>exact hq.elim
 |ret=>exact hq.elim
 |panic chain=>
  obtain⟨todo,hs⟩:=cG
  have hs:StepsIn (Machine.fenced P Fence.wide) P _ _:=hs
  exact⟨.panicked chain,fM,hq.2,StepsIn.trans hs (.one (calm _) (bK hq.1))⟩
 |outgrown=>exact hq.elim
theorem eN.Bx {f:FuncId}{fn:Func}{c:Code}{args:List V}{o:Nat->ae}{nx:Nat}{K X:V->(Nat->ae)->Nat->Prop}(hf:P.funcs[f]? =some fn)(hn:(fn.name== "runtime.NumGoroutine")=false)(oS:fn.body=some c)(hl:args.length<=fn.ntmps)
 (h:iJ P fn.ntmps nx false c (lu P fn.results.toList K X) ⟨cN args,o,nx⟩):eN P f args o nx K X:=by
 refine⟨⟨fn,hf,hn,by rw[oS];rfl⟩,fun M φ w vals hH hd=> ?_⟩
 have hlen:=V.aD _ _ hd
 let s0:S:=⟨cN args,o,nx⟩
 let a0:Act:={tmps:=vals++Array.replicate (fn.ntmps - vals.size) undef,defers:=[]}
 have qq:cd M φ (hp o nx) w fn.ntmps ⟨[],false⟩ φ s0 a0 w:=by
  refine⟨hH,Trans.refl _ _ _, ?_,⟨[],rfl,List.nodup_nil,fun _=>rfl,fun r hr=>by cases hr⟩,rZ hd⟩
  simp only[a0,Array.size_append,Array.size_replicate];simp at hlen;omega
 refine xK (ro:=none) (k:=0) (mq hf oS (gw (gL (P:=P) (H0:=hp o nx) (b:=nx) (cx:=⟨[],false⟩) (ro:=none) (fun id hu=>hu) (fun _=>rfl) c _ s0 φ a0 w h qq) ?_))
 rintro e a w' ⟨x,s,ax,hq,hs,hm⟩
 obtain⟨ms,g1,g2,g3,g4⟩:=hs.defers
 rw[List.append_nil]at g1
 have done:(x= .normal\/x= .ret)->LeavesInM (dT none) 0 P fn a.tmps (mg M φ (hp o nx) w K X) a.defers .returning w':=by
  intro hx
  have YP:lu P fn.results.toList K X .ret s:=by rcases hx with rfl|rfl<;>exact hq
  obtain⟨vs,h1,h2⟩:=xR YP
  rw[g1]
  have:=gx (P:=P) (k:=0) (fn:=fn) (R:=mg M φ (hp o nx) w K X) (u:= .returning) (by simp) (ds:=[]) (fun w2 hb=>by
   obtain⟨vals,h3,h4⟩:=rb (P:=P) (a:=a) hb.heap hb.env _ _ h1
   exact⟨_,mo h3,ax,s.o,s.nx,_,hb.heap,hb.tr,xS h4,h2⟩) ms w' g2 g4 hs.Wv
  rwa [List.append_nil]at this
 cases e<;>cases x<;>first|(exact hm.elim)|skip
 ·exact done (.inl rfl)
 ·exact hq.elim
 ·exact done (.inr rfl)
 ·rename_i v
  obtain⟨val,rfl,Ty⟩:=hm
  show LeavesInM (dT none) 0 P fn a.tmps (mg M φ (hp o nx) w K X) a.defers _ w'
  rw[g1]
  have Ah:vQ M φ (hp o nx) w ax ⟨fun i=>if i=0 then v else .ab,s.o,s.nx⟩ #[val] w':=⟨hs.heap,hs.tr,fun i=>by
   by_cases hi:i=0
   ·subst hi;exact Ty
   ·simp only[hi,if_false];trivial⟩
  have:=gx (P:=P) (k:=0) (fn:=fn) (s:=⟨fun i=>if i=0 then v else .ab,s.o,s.nx⟩) (tmps:=a.tmps) (tb:=#[val]) (cC:=φ) (H0:=hp o nx) (w0:=w) (R:=mg M φ (hp o nx) w K X) (u:= .panicking [{v:=val,recovered:=false}]) (by simp) (ds:=[]) (fun w2 hb=>by
   have h0:=hb.env 0
   exact⟨ax,s.o,s.nx,v,hb.heap,hb.tr,val,rfl,h0,hq⟩) ms w' g2 g4 Ah
  rwa [List.append_nil]at this
theorem cq.lx {f:FuncId}{ds:List D}{out:R}(h:eN P f (ds.map .d) (fun _=> .no) 0 (fun v o _=>∃vs rs,v=(match vs with|[v]=>v|vs=> .bW vs)/\bZ o vs=some rs/\out= .ret rs) (fun v o _=>∃x,dG o v=some x/\out= .bK x)):cq P f ds out:=by
 refine⟨h.1,fun M w vals hM hd=> ?_⟩
 let cC:Place:=fun _=> .nilFunc
 have nN:∀b, ¬bR cC (hp (fun _=> .no) 0) b:=by rintro b ⟨id,hl,_⟩;simp[hp,ae.live]at hl
 refine(h.2 M cC w vals (kC cC hM) ((V.ck _ _).2 (D.aI (w:=w) (w':=w) (B:=M) (fun b _ hB=>⟨rfl,fun h=>h.elim hB (nN b)⟩) _ _ hd))).mono ?_
 rintro e w' ⟨ax,o',nx',v,k1,k2,k3⟩
 have ux:eM (fun _=>False) w w':=⟨k2.cg.os,k2.cg.tape,k2.cg.output,k2.cg.size,fun k hk _=>k2.cg.block k hk (nN k)⟩
 have fin:∀ (vs:List V) (xs:List D) (vals:List Value),bZ o' vs=some xs->V.aB (ai M ax (hp o' nx')) ax (hp o' nx') w' vs vals->D.aB M w' xs vals:=by
  intro vs xs vals h1 h2
  obtain⟨f1,f2,f3,f4,f5⟩:=cM k1 (V.ba vs) (cE vs _ h2)
  have h3:=dv f1 vs xs vals f3 h1 (V.aI f2 _ _ h2)
  exact D.aI (w:=w') (w':=w') (fun k _ hB=>⟨rfl,fun hM=>hB (.inl hM)⟩) xs vals h3
 refine⟨ux, ?_⟩
 cases e with
 |outgrown=>exact k3.elim
 |panicked ch=>
  obtain⟨val,rfl,g1,x,g2,rfl⟩:=k3
  have:=fin [v] [x] [val] (by simp[bZ,g2]) ⟨val,[],rfl,g1,rfl⟩
  obtain⟨u,us,he,h2,_⟩:=this
  simp at he;obtain⟨rfl,rfl⟩:=he
  exact⟨val,rfl,h2⟩
 |returned val=>
  obtain⟨g1,vs,rs,rfl,g2,rfl⟩:=k3
  match vs,g1,g2 with
  |[],g1,g2=>
   obtain⟨arr,rfl,hv⟩:=g1
   simp only[bZ,Option.some.injEq]at g2;subst g2
   exact⟨arr,rfl,hv⟩
  |[v],g1,g2=>
   have:=fin [v] rs [val] g2 ⟨val,[],rfl,g1,rfl⟩
   cases rs with
   |nil=>cases this
   |cons x l=>
    obtain⟨u,us,he,h2,h3⟩:=this
    simp at he;obtain⟨rfl,rfl⟩:=he
    cases l with
    |nil=>exact h2
    |cons y l=>obtain⟨_,_,h,_⟩:=h3;cases h
  |v::v2::l,g1,g2=>
   obtain⟨arr,rfl,h⟩:=g1
   have:=fin (v::v2::l) rs arr.toList g2 h
   have hl:=D.aD _ _ this
   have Bz:=V.aD _ _ h
   match rs,hl,this with
   |[],hl,_=>rw[Bz]at hl;simp at hl
   |[x],hl,_=>rw[Bz]at hl;simp at hl
   |x::y::l,_,this=>exact⟨arr,rfl,this⟩
theorem C5{rs:List ResultVar}{out:R}(e:fq)(s:S)(h:Ab P rs out e s):
 lu P rs (fun v o _=>∃vs rs,v=(match vs with|[v]=>v|vs=> .bW vs)/\bZ o vs=some rs/\out= .ret rs) (fun v o _=>∃x,dG o v=some x/\out= .bK x) e s:=by
 have ret:Ab P rs out .ret s->lu P rs (fun v o _=>∃vs rs,v=(match vs with|[v]=>v|vs=> .bW vs)/\bZ o vs=some rs/\out= .ret rs) (fun v o _=>∃x,dG o v=some x/\out= .bK x) .ret s:=by
  intro h
  obtain⟨vs,xs,h1,h2,h3⟩:=E1 h
  simp only[lu,h1]
  match vs,h2 with
  |[],h2=>exact⟨[],xs,rfl,h2,h3⟩
  |[v],h2=>exact⟨[v],xs,rfl,h2,h3⟩
  |v::v2::l,h2=>exact⟨v::v2::l,xs,rfl,h2,h3⟩
 cases e with
 |normal=>exact ret h
 |ret=>exact ret h
 |exit id=>exact h.elim
 |bK v=>exact E2 h
end
end Go.Proofs.YtealblliddhgiaaGreat
namespace Go.Proofs.YtealblliddhgiaaGreat
def Fb{α:Type}(c:Bool)(x:α):Option α:=if c=true then some x else none
def one(v:V):Option gq:=some (v,[],[])
def xT(op:BinOp)(k:IntKind)(a b:Int):Option V:=
 match op with
 | .add=>some (.d (.int k (k.wrap (a+b))))
 | .sub=>some (.d (.int k (k.wrap (a - b))))
 | .mul=>some (.d (.int k (k.wrap (a*b))))
 | .quo=>if b=0 then none else some (.d (.int k (k.wrap (a.tdiv b))))
 | .rem=>if b=0 then none else some (.d (.int k (a.tmod b)))
 | .and=>(rD .and k a b).map fun r=> .d (.int k r)
 | .or=>(rD .or k a b).map fun r=> .d (.int k r)
 | .xor=>(rD .xor k a b).map fun r=> .d (.int k r)
 | .andNot=>(rD .andNot k a b).map fun r=> .d (.int k r)
 | .eql=>some (.d (.bool (a==b)))| .neq=>some (.d (.bool (a !=b)))| .lss=>some (.d (.bool (decide (a<b))))| .leq=>some (.d (.bool (decide (a<=b))))
 | .gtr=>some (.d (.bool (decide (b<a))))| .geq=>some (.d (.bool (decide (b<=a))))
 |_=>none
def aR(P:Program)(t:TypeId):Bool:=
 match P.underlying t with
 |some .bool=>true
 |_=>false
def vR(P:Program)(op:BinOp)(t:TypeId)(x y:V):Option V:=
 match x,y with
 | .d (.int k a), .d (.int k' b)=>if k=k' then xT op k a b else none
 | .d (.bool a), .d (.bool b)=>match op with
   | .eql=>Fb (aR P t) (.d (.bool (a==b)))
   | .neq=>Fb (aR P t) (.d (.bool (a !=b)))
   |_=>none
 | .d (.str a), .d (.str b)=>match op with
   | .eql=>some (.d (.bool (a==b)))
   | .neq=>some (.d (.bool (a !=b)))
   |_=>none
 |_,_=>none
def Tz(op:UnOp)(x:V):Option V:=
 match op,x with
 | .neg, .d (.int k n)=>some (.d (.int k (k.wrap (-n))))
 | .not, .d (.bool b)=>some (.d (.bool !b))
 |_,_=>none
def oT(c a b:V):Option V:=
 match c with
 | .d (.bool true)=>some a
 | .d (.bool false)=>some b
 |_=>none
def oU(o:Nat->ae)(x:V):Option (List D×List Nat):=
 match x with
 | .d (.sl es)=>some (es,[])
 | .aW=>some ([],[])
 | .nC es=>some (es,[])
 | .osl id ep=>match o id with
   | .arr gG _ _ es=>if ep=gG then some (es,[id])else none
   | .oh gG es=>if ep=gG then some (es,[id])else none
   |_=>none
 |_=>none
def Ai(P:Program)(t:TypeId)(o:Nat->ae)(x:V):Option gq:=
 match P.underlying t with
 |some (.slice _)=>match oU o x with
  |some (es,rd)=>some (.d (.int .i64 es.length),[],rd)
  |none=>none
 |some .string=>match x with
  | .d (.str s)=>one (.d (.int .i64 s.length))
  |_=>none
 |some (.array n _)=>one (.d (.int .i64 n))
 |_=>none
def uy(P:Program)(e:TypeId)(es:List D)(i:Int)(rd:List Nat):Option gq:=
 if 0<=i then match es[i.toNat]? with
  |some y=>Fb (y.cells.length==P.cellsOf e&&0<P.cellsOf e) (.pp y.cells 0,[],rd)
  |none=>none
 else none
def nu(o:Nat->ae)(x:V)(q:Nat):Option V:=
 match x with
 | .ptr id off=>Fb (o id).bO (.ptr id (off+q))
 | .pp cs off=>some (.pp cs (off+q))
 | .pe id ep j sz off=>if(o id).aZ=some ep then some (.pe id ep j sz (off+q))else none
 |_=>none
def gM(P:Program)(o:Nat->ae)(t:TypeId)(x ix:V):Option gq:=
 match ix with
 | .d (.int _ i)=>match aU P t with
   |some e=>match x with
    | .d (.sl es)=>uy P e es i []
    | .nC es=>uy P e es i []
    | .osl id ep=>match o id with
      | .arr gG _ sz es=>if ep=gG/\0<=i/\i.toNat<es.length/\sz=P.cellsOf e/\0<P.cellsOf e then some (.pe id ep i.toNat sz 0,[],[id])else none
      | .oh gG es=>if ep=gG then uy P e es i [id]else none
      |_=>none
    |_=>none
   |none=>match cI P t with
    |some (n,e)=>if 0<=i/\i<n/\(P.info? e).isSome=true then(nu o x (i.toNat*P.cellsOf e)).bind one else none
    |none=>none
 |_=>none
def gN(P:Program)(o:Nat->ae)(t:TypeId)(x:V)(f:Nat):Option V:=
 match cD P t f with
 |some q=>nu o x q
 |none=>none
def mu(P:Program)(o:Nat->ae)(t:TypeId)(x:V):Option gq:=
 match x with
 | .ptr id off=>match o id with
   | .row cs=>match eO P t cs off with
     |some v=>some (v,[],[id])
     |none=>none
   |_=>none
 | .pp cs off=>match eO P t (cs.map .d) off with
   |some v=>some (v,[],[])
   |none=>none
 | .pe id ep i sz off=>match o id with
   | .arr gG _ nb es=>if ep=gG/\sz=nb then match es[i]? with
    |some e=>match eO P t (e.cells.map .d) off with
     |some v=>some (v,[],[id])
     |none=>none
    |none=>none
     else none
   |_=>none
 |_=>none
def pS(P:Program)(o:Nat->ae)(t:TypeId)(x v:V):Option gq:=
 match x with
 | .ptr id off=>match o id with
   | .row cs=>match vu P t cs off v with
     |some cs'=>some (.bW [],[(id, .row cs')],[id])
     |none=>none
   |_=>none
 | .pe id ep i nb off=>match o id with
   | .arr gG ty sz es=>if ep=gG/\nb=sz then match es[i]?,dG o v with
    |some e,some y=>if y.cells.length=P.cellsOf t/\0<y.cells.length/\v.ids.all (· !=id)=true then match e.put off y.cells with
     |some e'=>some (.bW [],cw o v.ids++[(id, .arr ep ty sz (es.set i e'))],id::v.ids)
     |none=>none
     else none
    |_,_=>none
     else none
   |_=>none
 |_=>none
def fU(P:Program)(o:Nat->ae)(fr:Nat)(t:TypeId)(len:Nat)(parts:List (Nat×V)):Option gq:=
 match aU P t with
 |some e=>if len=0/\parts.isEmpty=true/\0<P.cellsOf e then some (.osl fr 0,[(fr, .arr 0 e (P.cellsOf e) [])],[])else if parts.map (·.1)=List.range len/\(bn P e).isSome=true/\0<len/\0<P.cellsOf e/\len*P.cellsOf e<=2^24 then match bZ o (parts.map (·.2))with
  |some ds=>if ds.all (fun x=>x.cells.length==P.cellsOf e)=true then some (.osl fr 0,cw o (V.ba (parts.map (·.2)))++[(fr, .arr 0 e (P.cellsOf e) ds)],V.ba (parts.map (·.2)))else none
  |none=>none
  else none
 |none=>none
def ly(P:Program)(fr:Nat)(t:TypeId)(l c:V):Option gq:=
 match aU P t with
 |some e=>match l,c with
  | .d (.int _ n), .d (.int _ m)=>if n=m/\0<=n/\0<P.cellsOf e/\P.bytesOf e*n.toNat<=2^47/\n.toNat<=2^47 then match bJ P e with
   |some x=>some (.osl fr 0,[(fr, .arr 0 e (P.cellsOf e) (List.replicate n.toNat x))],[])
   |none=>none
    else none
  |_,_=>none
 |none=>none
def oV(P:Program)(o:Nat->ae)(fr:Nat)(ts:Array TypeId)(x y:V):Option gq:=
 match ts.toList with
 |[t,t']=>if t=t' then match aU P t,oU o y with
    |some e,some (new,rd)=>if 0<P.cellsOf e/\(bn P e).isSome=true/\new.all (fun z=>z.cells.length==P.cellsOf e)=true then match x with
     | .aW=>if new.length<=2^47/\new.length*P.bytesOf e<=2^47 then some (.osl fr 0,[(fr, .arr 0 e (P.cellsOf e) new)],rd)else none
     | .nC es=>if es.all (fun z=>z.cells.length==P.cellsOf e)=true then(if new=[]then some (.nC es,[],rd)else if es.length+new.length<=2^40/\(es.length+new.length)*P.bytesOf e<=2^40 then some (.osl fr 0,[(fr, .arr 0 e (P.cellsOf e) (es++new))],rd)else none)else none
     | .osl id ep=>match o id with
       | .arr gG ty sz es=>if ep=gG/\ty=e/\sz=P.cellsOf e/\es.length+new.length<=2^47/\(es.length+new.length)*P.bytesOf e<=2^47 then
        some (.osl id (ep+1),[(id, .arr (ep+1) ty sz (es++new))],id::rd)else none
       |_=>none
     |_=>none
     else none
    |_,_=>none
  else none
 |_=>none
def oW(isMax:Bool)(x y:V):Option V:=
 match x,y with
 | .d (.int k a), .d (.int k' b)=>if k=k' then some (.d (.int k (if isMax then(if b>a then b else a)else(if b<a then b else a))))else none
 |_,_=>none
def lz(x:Option V):Option gq:=match x with|some v=>one v|none=>none
def oX(P:Program)(s:S)(fr:Nat)(b:Builtin)(args:List Operand)(ts:Array TypeId):Option gq:=
 match b,args with
 | .len,[x]=>match ts.toList with
   |[t]=>Ai P t s.o (s.ev x)
   |_=>none
 | .append,[x,y]=>oV P s.o fr ts (s.ev x) (s.ev y)
 | .max,[x,y]=>lz (oW true (s.ev x) (s.ev y))
 | .min,[x,y]=>lz (oW false (s.ev x) (s.ev y))
 | .max,[x,y,z]=>lz (EE (s.ev x) (s.ev y) (s.ev z))
 | .copy,[x,y]=>tW P s.o ts (s.ev x) (s.ev y)
 | .delete,[x,y]=>match ts.toList.head? with
   |some t=>mT P s.o t (s.ev x) (s.ev y)
   |none=>none
 |_,_=>none
def vS(P:Program)(t:TypeId)(parts:List (Nat×V)):Option V:=
 match bn P t,dH P t with
 |some z,some pl=>match qh pl z parts with
  |some cs=>some (ft cs)
  |none=>none
 |_,_=>none
def iV(o:Nat->ae)(x:V):Option V:=
 match x with
 | .ptr id off=>Fb (o id).bO (.ptr id off)
 | .pp cs off=>some (.pp cs off)
 | .func (.func f) first cap=>some (.func (.func f) first cap)
 |_=>none
def aA(P:Program)(t:TypeId):Bool:=
 match P.underlying t with
 |some (.interface _)=>false
 |some _=>true
 |none=>false
def Fc(P:Program)(t:TypeId)(x:V):Option V:=
 Fb (aA P t) (match x with
  | .d y=> .d (.iface t y)
  |v=> .iface t v)
def dA(P:Program)(o:Nat->ae)(op:BinOp)(t:TypeId)(nF:Bool)(x y:V):Option gq:=
 match vR P op t x y with
 |some v=>one v
 |none=>pJ P o op t nF x y
def xU(op:UnOp)(x:V):Option V:=
 match op,x with
 | .not, .eY=>some .eY
 |op,x=>Tz op x
def gf(P:Program)(s:S)(fr:Nat)(op:Op):Option gq:=
 match op with
 | .move x=>one (s.ev x)
 | .assign x=>one (s.ev x)
 | .pick c a b=>lz (oT (s.ev c) (s.ev a) (s.ev b))
 | .alloc t=>match bn P t with
   |some cs=>some (.ptr fr 0,[(fr, .row cs)],[])
   |none=>none
 | .box _ x=>match(s.ev x).cells with
   |some cs=>some (.ptr fr 0,[(fr, .row cs)],[])
   |none=>none
 | .build t parts=>lz (vS P t (parts.toList.map fun p=>(p.1,s.ev p.2)))
 | .buildSlice t len parts=>fU P s.o fr t len (parts.toList.map fun p=>(p.1,s.ev p.2))
 | .load t x=>mu P s.o t (s.ev x)
 | .store t x v=>pS P s.o t (s.ev x) (s.ev v)
 | .nilCheck x=>lz (iV s.o (s.ev x))
 | .binOp op t x y _=>dA P s.o op t (isConst x||isConst y) (s.ev x) (s.ev y)
 | .unOp op _ x=>lz (xU op (s.ev x))
 | .convert u t x=>match P.underlying u,cR P t,s.ev x with
   |some _,some k, .d (.int _ n)=>one (.d (.int k (k.wrap n)))
   |_,_,_=>none
 | .makeInterface t x=>lz (Fc P t (s.ev x))
 | .makeFunc fn first cap=>one (.func fn (first.toList.map s.ev) (cap.toList.map s.ev))
 | .makeSlice t l c=>ly P fr t (s.ev l) (s.ev c)
 | .fieldAddr t x f=>lz (gN P s.o t (s.ev x) f)
 | .indexAddr t x i=>gM P s.o t (s.ev x) (s.ev i)
 | .extract x i=>match s.ev x with
   | .bW vs=>match vs[i]? with
     |some v=>one v
     |none=>none
   |_=>none
 | .call c=>match c.callee with
   | .builtin b=>oX P s fr b c.args.toList c.argTypes
   |_=>none
 | .slice t x lo hi mx=>pG P s.o t (s.ev x) (lo.map s.ev) (hi.map s.ev) (mx.map s.ev)
 | .field t x f=>lz (rF P t (s.ev x) f)
 | .index t x i=>lz (rG P t (s.ev x) (s.ev i))
 | .typeAssert x _ t ok=>lz (ou P t ok (s.ev x))
 | .makeMap t none=>lY P fr t
 | .lookup t m k ok=>gZ P s.o t (s.ev m) (s.ev k) ok
 | .mapUpdate t m k v=>fA P s.o t (s.ev m) (s.ev k) (s.ev v)
 | .insert t m k v=>fA P s.o t (s.ev m) (s.ev k) (s.ev v)
 | .range t x=>lZ P s.o fr t (s.ev x)
 | .next x str=>nn s.o (s.ev x) str
 | .entry x=>l0 s.o (s.ev x)
 |_=>none
section
variable {P:Program}{s:S}{fr:Nat}{v:V}{Δ:List (Nat×ae)}{rd:List Nat}{o:Nat->ae}{K:V->List (Nat×ae)->List Nat->Prop}
theorem pT{α:Type}{c:Bool}{x y:α}(h:Fb c x=some y):c=true/\x=y:=by
 unfold Fb at h;split at h
 ·injection h with h;exact⟨by assumption,h⟩
 ·cases h
theorem jZ{x:V}{r:gq}(h:one x=some r):r=(x,[],[]):=by unfold one at h;injection h with h;exact h.symm
theorem fC{x:Option V}{r:gq}(h:lz x=some r):∃v,x=some v/\r=(v,[],[]):=by
 unfold lz at h;split at h
 ·exact⟨_,rfl,jZ h⟩
 ·cases h
theorem Aj{x:V}{es:List D}{rd:List Nat}(h:oU o x=some (es,rd)):eP o x=some es/\rd=x.ids:=by
 unfold oU at h
 split at h
 ·simp at h;obtain⟨rfl,rfl⟩:=h;exact⟨rfl,rfl⟩
 ·simp at h;obtain⟨rfl,rfl⟩:=h;exact⟨rfl,rfl⟩
 ·simp at h;obtain⟨rfl,rfl⟩:=h;exact⟨rfl,rfl⟩
 ·split at h
  ·rename_i ho
   split at h
   ·rename_i e;simp at h;obtain⟨rfl,rfl⟩:=h;exact⟨by simp[eP,dG,ho,e],rfl⟩
   ·cases h
  ·rename_i ho
   split at h
   ·rename_i e;simp at h;obtain⟨rfl,rfl⟩:=h;exact⟨by simp[eP,dG,ho,e],rfl⟩
   ·cases h
  ·cases h
 ·cases h
theorem C6{op:BinOp}{k:IntKind}{a b:Int}{v:V}(h:xT op k a b=some v){K:V->Prop}(hK:K v):Hc op k a b K:=by
 cases op<;>simp only[xT]at h<;>simp only[Hc]
 case quo=>split at h
           ·cases h
           ·injection h with h;subst h;exact⟨by assumption,hK⟩
 case rem=>split at h
           ·cases h
           ·injection h with h;subst h;exact⟨by assumption,hK⟩
 case and=>simp only[Option.map_eq_some_iff]at h;obtain⟨r,h1,rfl⟩:=h;exact⟨r,h1,hK⟩
 case or=>simp only[Option.map_eq_some_iff]at h;obtain⟨r,h1,rfl⟩:=h;exact⟨r,h1,hK⟩
 case xor=>simp only[Option.map_eq_some_iff]at h;obtain⟨r,h1,rfl⟩:=h;exact⟨r,h1,hK⟩
 case andNot=>simp only[Option.map_eq_some_iff]at h;obtain⟨r,h1,rfl⟩:=h;exact⟨r,h1,hK⟩
 case shl=>cases h
 case shr=>cases h
 case eql=>injection h with h;subst h;exact⟨_,rfl,hK⟩
 case neq=>injection h with h;subst h;exact⟨_,rfl,hK⟩
 case lss=>injection h with h;subst h;exact⟨_,rfl,hK⟩
 case leq=>injection h with h;subst h;exact⟨_,rfl,hK⟩
 case gtr=>injection h with h;subst h;exact⟨_,rfl,hK⟩
 case geq=>injection h with h;subst h;exact⟨_,rfl,hK⟩
 all_goals (injection h with h;subst h;exact hK)
theorem C7{op:BinOp}{t:TypeId}{x y v:V}(h:vR P op t x y=some v){K:V->Prop}(hK:K v):EB P op t x y K:=by
 unfold vR at h
 unfold EB
 split at h
 ·split at h
  ·exact⟨by assumption,C6 h hK⟩
  ·cases h
 ·have hb:aR P t=true->P.underlying t=some .bool:=by
   unfold aR;intro h;split at h
   ·assumption
   ·cases h
  split at h
  ·obtain⟨h1,rfl⟩:=pT h;exact⟨hb h1,hK⟩
  ·obtain⟨h1,rfl⟩:=pT h;exact⟨hb h1,hK⟩
  ·cases h
 ·split at h
  ·injection h with h;subst h;exact hK
  ·injection h with h;subst h;exact hK
  ·cases h
 ·cases h
theorem Ak{c a b v:V}(h:oT c a b=some v){K:V->Prop}(hK:K v):xe c a b K:=by
 unfold oT at h
 unfold xe
 split at h
 ·injection h with h;subst h;exact⟨fun _=>hK,(fun h=>by cases h)⟩
 ·injection h with h;subst h;exact⟨(fun h=>by cases h),fun _=>hK⟩
 ·cases h
theorem sb{x y:V}{q:Nat}(h:nu o x q=some y):(∃id off,x= .ptr id off/\(o id).bO=true/\y= .ptr id (off+q))\/(∃cs off,x= .pp cs off/\y= .pp cs (off+q))\/
 (∃id ep j sz off,x= .pe id ep j sz off/\(o id).aZ=some ep/\y= .pe id ep j sz (off+q)):=by
 unfold nu at h
 split at h
 ·obtain⟨h1,rfl⟩:=pT h;exact .inl ⟨_,_,rfl,h1,rfl⟩
 ·injection h with h;exact .inr (.inl ⟨_,_,rfl,h.symm⟩)
 ·split at h
  ·injection h with h;exact .inr (.inr ⟨_,_,_,_,_,rfl,by assumption,h.symm⟩)
  ·cases h
 ·cases h
theorem nO{e:TypeId}{es:List D}{i:Int}{rd:List Nat}{r:gq}(h:uy P e es i rd=some r):
 0<=i/\∃y,es[i.toNat]? =some y/\y.cells.length=P.cellsOf e/\0<P.cellsOf e/\r=(.pp y.cells 0,[],rd):=by
 unfold uy at h
 split at h
 ·rename_i h0
  split at h
  ·rename_i y hy
   obtain⟨h1,rfl⟩:=pT h
   simp only[Bool.and_eq_true,beq_iff_eq,decide_eq_true_eq]at h1
   exact⟨h0,y,hy,h1.1,h1.2,rfl⟩
  ·cases h
 ·cases h
theorem qR{t:TypeId}{x ix:V}(h:gM P o t x ix=some (v,Δ,rd))(hK:K v Δ rd):jc P o t x ix fun v rd=>K v [] rd:=by
 unfold gM at h
 unfold jc
 split at h
 ·simp only
  split at h
  ·rename_i e ht
   simp only[ht]
   split at h
   ·obtain⟨h0,y,h1,h2,h3,h4⟩:=nO h
    simp only[Prod.mk.injEq]at h4;obtain⟨rfl,rfl,rfl⟩:=h4
    exact⟨h0,y,h1,h2,h3,hK⟩
   ·obtain⟨h0,y,h1,h2,h3,h4⟩:=nO h
    simp only[Prod.mk.injEq]at h4;obtain⟨rfl,rfl,rfl⟩:=h4
    exact⟨h0,y,h1,h2,h3,hK⟩
   ·split at h
    ·rename_i ho
     split at h
     ·rename_i hc
      simp only[Option.some.injEq,Prod.mk.injEq]at h;obtain⟨rfl,rfl,rfl⟩:=h
      simp only[ho]
      exact⟨hc.1,hc.2.1,hc.2.2.1,hc.2.2.2.1,hc.2.2.2.2,hK⟩
     ·cases h
    ·rename_i ho
     split at h
     ·rename_i hc
      obtain⟨h0,y,h1,h2,h3,h4⟩:=nO h
      simp only[Prod.mk.injEq]at h4;obtain⟨rfl,rfl,rfl⟩:=h4
      simp only[ho]
      exact⟨hc,h0,y,h1,h2,h3,hK⟩
     ·cases h
    ·cases h
   ·cases h
  ·rename_i ht
   simp only[ht]
   split at h
   ·rename_i n e ha
    simp only[ha]
    split at h
    ·rename_i hc
     simp only[Option.bind_eq_some_iff]at h
     obtain⟨y,hy,h1⟩:=h
     have h1:=jZ h1
     simp only[Prod.mk.injEq]at h1;obtain⟨rfl,rfl,rfl⟩:=h1
     refine⟨hc.1,hc.2.1,hc.2.2, ?_⟩
     rcases sb hy with⟨_,_,rfl,h2,rfl⟩|⟨_,_,rfl,rfl⟩|⟨_,_,_,_,_,rfl,h2,rfl⟩
     ·exact⟨h2,hK⟩
     ·exact hK
     ·exact⟨h2,hK⟩
    ·cases h
   ·cases h
 ·cases h
theorem qS{t:TypeId}{x y:V}{f:Nat}(h:gN P o t x f=some y){K:V->Prop}(hK:K y):jd P o t x f K:=by
 unfold gN at h
 unfold jd
 split at h
 ·rename_i q hq
  simp only[hq]
  rcases sb h with⟨_,_,rfl,h2,rfl⟩|⟨_,_,rfl,rfl⟩|⟨_,_,_,_,_,rfl,h2,rfl⟩
  ·exact⟨h2,hK⟩
  ·exact hK
  ·exact⟨h2,hK⟩
 ·cases h
theorem C8{t:TypeId}{x:V}(h:Ai P t o x=some (v,Δ,rd))(hK:K v Δ rd):EC P t o x fun v rd=>K v [] rd:=by
 unfold Ai at h
 unfold EC
 split at h
 ·rename_i e hu
  simp only[hu]
  split at h
  ·rename_i es uz hl
   simp only[Option.some.injEq,Prod.mk.injEq]at h;obtain⟨rfl,rfl,rfl⟩:=h
   unfold oU at hl
   split at hl
   ·simp at hl;obtain⟨rfl,rfl⟩:=hl;exact hK
   ·simp at hl;obtain⟨rfl,rfl⟩:=hl;exact hK
   ·simp at hl;obtain⟨rfl,rfl⟩:=hl;exact hK
   ·split at hl
    ·rename_i ho
     split at hl
     ·rename_i hc;simp at hl;obtain⟨rfl,rfl⟩:=hl;simp only[ho];exact⟨hc,hK⟩
     ·cases hl
    ·rename_i ho
     split at hl
     ·rename_i hc;simp at hl;obtain⟨rfl,rfl⟩:=hl;simp only[ho];exact⟨hc,hK⟩
     ·cases hl
    ·cases hl
   ·cases hl
  ·cases h
 ·rename_i hu
  simp only[hu]
  split at h
  ·have h1:=jZ h;simp only[Prod.mk.injEq]at h1;obtain⟨rfl,rfl,rfl⟩:=h1;exact hK
  ·cases h
 ·rename_i hu
  simp only[hu]
  have h1:=jZ h;simp only[Prod.mk.injEq]at h1;obtain⟨rfl,rfl,rfl⟩:=h1;exact hK
 ·cases h
theorem Am{t:TypeId}{x:V}(h:mu P o t x=some (v,Δ,rd))(hK:K v Δ rd):xf P o t x fun v rd=>K v [] rd:=by
 unfold mu at h
 unfold xf
 split at h
 ·split at h
  ·rename_i ho
   split at h
   ·rename_i hg
    simp only[Option.some.injEq,Prod.mk.injEq]at h;obtain⟨rfl,rfl,rfl⟩:=h
    simp only[ho];exact⟨_,hg,hK⟩
   ·cases h
  ·cases h
 ·split at h
  ·rename_i hg
   simp only[Option.some.injEq,Prod.mk.injEq]at h;obtain⟨rfl,rfl,rfl⟩:=h
   exact⟨_,hg,hK⟩
  ·cases h
 ·split at h
  ·rename_i ho
   split at h
   ·rename_i hc
    split at h
    ·rename_i e he
     split at h
     ·rename_i hg
      simp only[Option.some.injEq,Prod.mk.injEq]at h;obtain⟨rfl,rfl,rfl⟩:=h
      simp only[ho];exact⟨hc.1,hc.2,e,he,_,hg,hK⟩
     ·cases h
    ·cases h
   ·cases h
  ·cases h
 ·cases h
theorem xV{t:TypeId}{x y:V}(h:pS P o t x y=some (v,Δ,rd))(hK:K v Δ rd):rE P o t x y fun Δ rd=>K (.bW []) Δ rd:=by
 unfold pS at h
 unfold rE
 split at h
 ·split at h
  ·rename_i ho
   split at h
   ·rename_i hg
    simp only[Option.some.injEq,Prod.mk.injEq]at h;obtain⟨rfl,rfl,rfl⟩:=h
    simp only[ho];exact⟨_,hg,hK⟩
   ·cases h
  ·cases h
 ·split at h
  ·rename_i ho
   split at h
   ·rename_i hc
    split at h
    ·rename_i e z he hz
     split at h
     ·rename_i hl
      split at h
      ·rename_i e' hp
       simp only[Option.some.injEq,Prod.mk.injEq]at h;obtain⟨rfl,rfl,rfl⟩:=h
       simp only[ho]
       exact⟨hc.1,hc.2,e,he,z,hz,hl.1,hl.2.1,hl.2.2,e',hp,hK⟩
      ·cases h
     ·cases h
    ·cases h
   ·cases h
  ·cases h
 ·cases h
theorem pU{t:TypeId}{len:Nat}{parts:List (Nat×V)}(h:fU P o fr t len parts=some (v,Δ,rd))(hK:K v Δ rd):hY P o fr t len parts K:=by
 unfold fU at h
 unfold hY
 split at h
 ·rename_i e ht
  simp only[ht]
  split at h
  ·rename_i hc
   simp only[Option.some.injEq,Prod.mk.injEq]at h;obtain⟨rfl,rfl,rfl⟩:=h
   exact .inl ⟨hc.1,by simpa using hc.2.1,hc.2.2,hK⟩
  split at h
  ·rename_i hc
   refine .inr ?_
   split at h
   ·rename_i ds hd
    split at h
    ·rename_i hw
     simp only[Option.some.injEq,Prod.mk.injEq]at h;obtain⟨rfl,rfl,rfl⟩:=h
     refine⟨hc.1,hc.2.1,hc.2.2.1,hc.2.2.2.1,hc.2.2.2.2,ds,hd,fun x hx=> ?_,hK⟩
     simpa using List.all_eq_true.1 hw x hx
    ·cases h
   ·cases h
  ·cases h
 ·cases h
theorem qT{t:TypeId}{l c:V}(h:ly P fr t l c=some (v,Δ,rd))(hK:K v Δ rd):je P fr t l c fun v Δ=>K v Δ []:=by
 unfold ly at h
 unfold je
 split at h
 ·rename_i e ht
  split at h
  ·split at h
   ·rename_i hc
    split at h
    ·rename_i x hx
     simp only[Option.some.injEq,Prod.mk.injEq]at h;obtain⟨rfl,rfl,rfl⟩:=h
     simp only[ht]
     exact⟨hc.1,hc.2.1,hc.2.2.1,hc.2.2.2.1,hc.2.2.2.2,x,hx,hK⟩
    ·cases h
   ·cases h
  ·cases h
 ·cases h
theorem vT{ts:Array TypeId}{x y:V}(h:oV P o fr ts x y=some (v,Δ,rd))(hK:K v Δ rd):oq P o fr ts x y K:=by
 unfold oV at h
 unfold oq
 split at h
 ·rename_i t t' zQ
  simp only[zQ]
  split at h
  ·rename_i YQ
   refine⟨YQ, ?_⟩
   split at h
   ·rename_i e new uz ht hl
    obtain⟨vB,rfl⟩:=Aj hl
    simp only[ht]
    split at h
    ·rename_i hc
     refine⟨new,vB,hc.1,hc.2.1,fun z hz=>by simpa using List.all_eq_true.1 hc.2.2 z hz, ?_⟩
     split at h
     ·split at h
      ·rename_i rO
       simp only[Option.some.injEq,Prod.mk.injEq]at h;obtain⟨rfl,rfl,rfl⟩:=h
       exact⟨rO.1,rO.2,hK⟩
      ·cases h
     ·split at h
      ·rename_i Bq
       refine⟨fun z hz=>by simpa using List.all_eq_true.1 Bq z hz, ?_⟩
       split at h
       ·rename_i hn
        simp only[Option.some.injEq,Prod.mk.injEq]at h;obtain⟨rfl,rfl,rfl⟩:=h
        rw[if_pos hn];exact hK
       ·rename_i hn
        split at h
        ·rename_i rO
         simp only[Option.some.injEq,Prod.mk.injEq]at h;obtain⟨rfl,rfl,rfl⟩:=h
         rw[if_neg hn];exact⟨rO.1,rO.2,hK⟩
        ·cases h
      ·cases h
     ·split at h
      ·rename_i ho
       split at h
       ·rename_i rO
        simp only[Option.some.injEq,Prod.mk.injEq]at h;obtain⟨rfl,rfl,rfl⟩:=h
        simp only[ho]
        exact⟨rO.1,rO.2.1,rO.2.2.1,rO.2.2.2.1,rO.2.2.2.2,hK⟩
       ·cases h
      ·cases h
     ·cases h
    ·cases h
   ·cases h
  ·cases h
 ·cases h
theorem sc{x y:V}(h:iV o x=some y){K:V->Prop}(hK:K y):kq o x K:=by
 unfold iV at h
 unfold kq
 split at h
 ·obtain⟨h2,rfl⟩:=pT h;exact⟨h2,hK⟩
 ·injection h with h;subst h;exact hK
 ·injection h with h;subst h;exact hK
 ·cases h
theorem Fe{op:UnOp}{x y:V}(h:Tz op x=some y){K:V->Prop}(hK:K y):NY op x K:=by
 unfold Tz at h
 unfold NY
 split at h
 ·injection h with h;subst h;simp only;rw[Int.zero_sub];exact hK
 ·injection h with h;subst h;exact hK
 ·cases h
theorem oY{m:Bool}{x y v:V}(h:oW m x y=some v){K:V->Prop}(hK:K v):mS m [x,y] K:=by
 unfold oW at h
 unfold mS
 split at h
 ·split at h
  ·injection h with h;subst h;exact⟨by assumption,hK⟩
  ·cases h
 ·cases h
theorem xW{op:Op}(h:gf P s fr op=some (v,Δ,rd))(hK:K v Δ rd):IP P s fr op K:=by
 cases op<;>simp only[gf]at h<;>simp only[IP]<;>try (cases h;done)
 case move x=>have h:=jZ h;simp only[Prod.mk.injEq]at h;obtain⟨rfl,rfl,rfl⟩:=h;exact hK
 case assign x=>have h:=jZ h;simp only[Prod.mk.injEq]at h;obtain⟨rfl,rfl,rfl⟩:=h;exact hK
 case pick c a b=>
  obtain⟨x,h1,h⟩:=fC h;simp only[Prod.mk.injEq]at h;obtain⟨rfl,rfl,rfl⟩:=h
  exact Ak h1 hK
 case alloc t=>
  split at h
  ·rename_i cs hz;simp only[Option.some.injEq,Prod.mk.injEq]at h;obtain⟨rfl,rfl,rfl⟩:=h;exact⟨cs,hz,hK⟩
  ·cases h
 case box t x=>
  split at h
  ·rename_i cs hz;simp only[Option.some.injEq,Prod.mk.injEq]at h;obtain⟨rfl,rfl,rfl⟩:=h;exact⟨cs,hz,hK⟩
  ·cases h
 case build t parts=>
  obtain⟨x,h1,h⟩:=fC h;simp only[Prod.mk.injEq]at h;obtain⟨rfl,rfl,rfl⟩:=h
  unfold vS at h1
  split at h1
  ·rename_i z pl hz hp
   split at h1
   ·rename_i cs hc;injection h1 with h1;subst h1;exact⟨z,pl,cs,hz,hp,hc,hK⟩
   ·cases h1
  ·cases h1
 case buildSlice t len parts=>exact pU h hK
 case load t x=>exact Am h hK
 case store t x y=>exact xV h hK
 case nilCheck x=>
  obtain⟨y,h1,h⟩:=fC h;simp only[Prod.mk.injEq]at h;obtain⟨rfl,rfl,rfl⟩:=h
  exact sc h1 hK
 case binOp op t x y yt=>
  unfold dA at h
  split at h
  ·rename_i z h1
   have h:=jZ h;simp only[Prod.mk.injEq]at h;obtain⟨rfl,rfl,rfl⟩:=h
   exact .inl (C7 h1 hK)
  ·right;simp only[h,dk];exact hK
 case unOp op t x=>
  obtain⟨z,h1,h⟩:=fC h;simp only[Prod.mk.injEq]at h;obtain⟨rfl,rfl,rfl⟩:=h
  unfold xU at h1
  split at h1
  ·rename_i hx;injection h1 with h1;subst h1;exact .inr ⟨rfl,hx,hK⟩
  ·exact .inl (Fe h1 hK)
 case slice t x lo hi mx=>simp only[h,dk];exact hK
 case field t x f=>
  obtain⟨z,h1,h⟩:=fC h;simp only[Prod.mk.injEq]at h;obtain⟨rfl,rfl,rfl⟩:=h
  simp only[h1,dk,Option.map_some];exact hK
 case typeAssert x xt t ok=>
  obtain⟨z,h1,h⟩:=fC h;simp only[Prod.mk.injEq]at h;obtain⟨rfl,rfl,rfl⟩:=h
  simp only[h1,dk,Option.map_some];exact hK
 case makeMap t r=>
  cases r with
  |none=>simp only[h,dk];exact hK
  |some x=>cases h
 case lookup t m k ok=>simp only[h,dk];exact hK
 case mapUpdate t m k v=>simp only[h,dk];exact hK
 case insert t m k v=>simp only[h,dk];exact hK
 case index t x i=>
  obtain⟨z,h1,h⟩:=fC h;simp only[Prod.mk.injEq]at h;obtain⟨rfl,rfl,rfl⟩:=h
  simp only[h1,dk,Option.map_some];exact hK
 case convert u t x=>
  split at h
  ·rename_i d k k' n hu hk hx
   have h:=jZ h;simp only[Prod.mk.injEq]at h;obtain⟨rfl,rfl,rfl⟩:=h
   exact⟨by rw[hu];rfl,by simp only[hk,hx];exact hK⟩
  ·cases h
 case makeInterface t x=>
  obtain⟨z,h1,h⟩:=fC h;simp only[Prod.mk.injEq]at h;obtain⟨rfl,rfl,rfl⟩:=h
  obtain⟨h2,rfl⟩:=pT h1
  refine⟨?_, ?_⟩
  ·unfold aA at h2
   cases hd:P.underlying t with
   |none=>simp[hd]at h2
   |some d=>exact⟨d,rfl,by cases d<;>simp_all⟩
  ·split
   ·rename_i y hy;simp only[hy]at hK;exact hK
   ·rename_i hy
    split at hK
    ·rename_i y YR;exact absurd YR (hy y)
    ·exact hK
 case makeFunc fn first cap=>have h:=jZ h;simp only[Prod.mk.injEq]at h;obtain⟨rfl,rfl,rfl⟩:=h;exact hK
 case makeSlice t l c=>
  exact qT h hK
 case fieldAddr t x f=>
  obtain⟨z,h1,h⟩:=fC h;simp only[Prod.mk.injEq]at h;obtain⟨rfl,rfl,rfl⟩:=h
  exact qS h1 hK
 case indexAddr t x i=>
  exact qR h hK
 case extract x i=>
  split at h
  ·rename_i vs hv
   split at h
   ·rename_i u hu
    have h:=jZ h;simp only[Prod.mk.injEq]at h;obtain⟨rfl,rfl,rfl⟩:=h
    simp only[hv];exact⟨_,hu,hK⟩
   ·cases h
  ·cases h
 case call c=>
  obtain⟨EZ,args,ts⟩:=c
  cases EZ<;>simp only at h|- <;>try (cases h;done)
  rename_i b
  unfold oX at h
  unfold rH
  split at h
  ·rename_i x ha
   simp only[ha]
   split at h
   ·rename_i t zQ;exact⟨t,zQ,C8 h hK⟩
   ·cases h
  ·rename_i x y ha
   simp only[ha]
   exact vT h hK
  ·rename_i x y ha
   simp only[ha]
   obtain⟨z,h1,h⟩:=fC h;simp only[Prod.mk.injEq]at h;obtain⟨rfl,rfl,rfl⟩:=h
   exact oY h1 hK
  ·rename_i x y ha
   simp only[ha]
   obtain⟨z,h1,h⟩:=fC h;simp only[Prod.mk.injEq]at h;obtain⟨rfl,rfl,rfl⟩:=h
   exact oY h1 hK
  ·rename_i x y z ha
   simp only[ha]
   obtain⟨v0,h1,h⟩:=fC h;simp only[Prod.mk.injEq]at h;obtain⟨rfl,rfl,rfl⟩:=h
   simp only[h1,dk,Option.map_some];exact hK
  ·rename_i x y ha
   simp only[ha,h,dk];exact hK
  ·rename_i x y ha
   simp only[ha]
   split at h
   ·rename_i t ht;exact⟨t,ht,by simp only[h,dk];exact hK⟩
   ·cases h
  ·cases h
 case range t x=>simp only[h,dk];exact hK
 case next x str=>left;simp only[h,dk];exact hK
 case entry x=>simp only[h,dk];exact hK
end
end Go.Proofs.YtealblliddhgiaaGreat
namespace Go.Proofs.YtealblliddhgiaaGreat
def uA(P:Program)(g:FuncId)(ds:List D)(o o1 oa:Nat->ae)(K:V->(Nat->ae)->Prop)(X:V->(Nat->ae)->Prop):Prop:=
 ∃out,cq P g ds out/\((match out with| .ret rs=>K (iM rs) o1| .bK x=>X (.d x) o1)\/(out.flat=true/\match out with| .ret rs=>K (iM rs) o| .bK x=>X (.d x) o)\/(out.mh=true/\match out with| .ret rs=>K (iM rs) oa| .bK x=>X (.d x) oa))
def qs(P:Program)(g:FuncId)(args:List V)(o:Nat->ae)(nx:Nat)(K:V->(Nat->ae)->Nat->Prop)(X:V->(Nat->ae)->Nat->Prop):Prop:=mj P g args o nx K X
theorem mj.mono {P:Program}{g:FuncId}{args:List V}{o:Nat->ae}{nx:Nat}{K X K' X':V->(Nat->ae)->Nat->Prop}(hK:∀v o n,K v o n->K' v o n)(hX:∀v o n,X v o n->X' v o n)(h:mj P g args o nx K X):mj P g args o nx K' X':=
 h.imp (eN.mono hK hX) (eN.mono hK hX)
@[congr] theorem Jc {P:Program} {g g':FuncId} {ds Oo:List D} {o o1 oa:Nat->ae} {K X} (h:g=g') (h':ds=Oo):uA P g ds o o1 oa K X=uA P g' Oo o o1 oa K X:=by subst h;subst h';rfl
@[congr] theorem Jd {P:Program} {g g':FuncId} {cc Oq:List V} {o:Nat->ae} {nx:Nat} {K X} (h:g=g') (h':cc=Oq):qs P g cc o nx K X=qs P g' Oq o nx K X:=by subst h;subst h';rfl
def Je(P:Program)(g:FuncId)(args:List V)(o:Nat->ae)(nx:Nat)(K X:V->(Nat->ae)->Nat->Prop):Prop:=
 (∃ds,bZ o args=some ds/\uA P g ds o (put o (cw o (V.ba args))) (put o (qM o (V.ba args))) (fun v o'=>K v o' (nx+1)) (fun v o'=>X v o' (nx+1)))\/eN P g args o nx K X
def Eu(P:Program)(s:S)(o:cf)(X:V->S->Prop)(K:S->Prop):Prop:=
 match o.op with
 | .call c=>match c.callee with
   | .value f=>match s.ev f with
     | .func (.func g) first cap=>match bZ s.o (first++c.args.toList.map s.ev++cap)with
       |some ds=>uA P g ds s.o (put s.o (cw s.o (V.ba (first++c.args.toList.map s.ev++cap)))) (put s.o (qM s.o (V.ba (first++c.args.toList.map s.ev++cap)))) (fun v o'=>K ⟨aY s.env o.dst v,o',s.nx+1⟩) (fun v o'=>X v ⟨s.env,o',s.nx+1⟩)\/
        qs P g (first++c.args.toList.map s.ev++cap) s.o s.nx (fun v o' nx'=>K ⟨aY s.env o.dst v,o',nx'⟩) (fun v o' nx'=>X v ⟨s.env,o',nx'⟩)
       |none=>qs P g (first++c.args.toList.map s.ev++cap) s.o s.nx (fun v o' nx'=>K ⟨aY s.env o.dst v,o',nx'⟩) (fun v o' nx'=>X v ⟨s.env,o',nx'⟩)
     | .ko id=>dM P id (c.args.toList.map s.ev) s.o s.nx (fun v o' nx'=>K ⟨aY s.env o.dst v,o',nx'⟩) (fun v o' nx'=>X v ⟨s.env,o',nx'⟩)
     |_=>False
   | .invoke r m=>match xJ P m (s.ev r)with
     |some (g,y)=>Je P g (y::c.args.toList.map s.ev) s.o s.nx (fun v o' nx'=>K ⟨aY s.env o.dst v,o',nx'⟩) (fun v o' nx'=>X v ⟨s.env,o',nx'⟩)
     |none=>False
   |_=>match gf P s s.nx o.op with
    |some (v,Δ,_)=>K ⟨aY s.env o.dst v,put s.o Δ,s.nx+1⟩
    |none=>False
 | .panic x=>match s.ev x with
   | .d (.iface t y)=>X (.d (.iface t y)) s
   | .iface t y=>X (.iface t y) s
   |_=>False
 | .next x str=>match np s.o (s.ev x)with
   |some (id,l)=>str=false/\Bl id l fun v Δ _=>K ⟨aY s.env o.dst v,put s.o Δ,s.nx+1⟩
   |none=>match gf P s s.nx o.op with
    |some (v,Δ,_)=>K ⟨aY s.env o.dst v,put s.o Δ,s.nx+1⟩
    |none=>False
 |op=>match gf P s s.nx op with
  |some (v,Δ,_)=>K ⟨aY s.env o.dst v,put s.o Δ,s.nx+1⟩
  |none=>False
def nP(P:Program)(X:V->S->Prop)(K:S->Prop):List cf->S->Prop
 |[],s=>K s
 |o::l,s=>match o.gd with
  |none=>Eu P s o X (nP P X K l)
  |some (d,want)=>match s.env d with
   | .d (.bool b)=>if b=want then Eu P s o X (nP P X K l)else nP P X K l ⟨aY s.env o.dst (.bW []),s.o,s.nx+1⟩
   | .bW []=>nP P X K l ⟨aY s.env o.dst (.bW []),s.o,s.nx+1⟩
   |_=>False
def Ff(b:Nat)(body:(fq->S->Prop)->S->Prop)(Q:fq->S->Prop)(s:S):Prop:=
 ∃ (J:Nat->S->Prop),(∃m s1,bY b s s1/\J m s1)/\∀m s0,J m s0->body (fun e s=>match e with| .normal=>∃m' s1,m'<m/\bY b s s1/\J m' s1|e=>Q e s) s0
@[congr] theorem Jf {b:Nat} {body Q} {s s':S} (h:s=s'):Ff b body Q s=Ff b body Q s':=by subst h;rfl
def oZ(t:Bool)(A B:Prop):Prop:=(t=true->A)/\(t=false->B)
@[congr] theorem Jg {t t':Bool} {A B:Prop} (h:t=t'):oZ t A B=oZ t' A B:=by subst h;rfl
@[simp] theorem sd (A B:Prop):oZ true A B=A:=by simp[oZ]
@[simp] theorem qt (A B:Prop):oZ false A B=B:=by simp[oZ]
section
variable {P:Program}{n b:Nat}
theorem BA{s:S}{o:cf}{o':Oper}{X X':V->S->Prop}{K K':S->Prop}(dD:o'.op=o.op)(cP:o'.dst=o.dst)(hd:gr n o'.dst)(hK:∀s,K s->K' s)(hX:∀v s,X v s->X' v s)(h:Eu P s o X K):To P n s o' X' K':=by
 refine⟨hd, ?_⟩
 rw[cP,dD]
 unfold Eu at h
 have hs:∀ {op:Op},(match gf P s s.nx op with|some (v,Δ,_)=>K ⟨aY s.env o.dst v,put s.o Δ,s.nx+1⟩|none=>False)->IP P s s.nx op fun v Δ _=>K' ⟨aY s.env o.dst v,put s.o Δ,s.nx+1⟩:=by
  intro op h
  split at h
  ·rename_i v Δ rd he;exact xW he (hK _ h)
  ·exact h.elim
 split at h
 ·rename_i c hc
  split at h
  ·rename_i f eg
   simp only[hc,eg]
   split at h
   ·rename_i g first cap hf
    unfold xI
    simp only[hf]
    unfold rT
    split at h
    ·rename_i ds eW
     rcases h with⟨out,hP,h|⟨la,h⟩|⟨la,h⟩⟩|h
     ·refine .inl ⟨ds,out,eW,hP, ?_⟩
      cases out<;>first|exact hK _ h|exact hX _ _ h
     ·refine .inr (.inl ⟨ds,out,eW,hP,la, ?_⟩)
      cases out<;>first|exact hK _ h|exact hX _ _ h
     ·refine .inr (.inr (.inl ⟨ds,out,eW,hP,la, ?_⟩))
      cases out<;>first|exact hK _ h|exact hX _ _ h
     ·exact .inr (.inr (.inr (mj.mono (fun v o n h=>hK _ h) (fun v o n h=>hX _ _ h) h)))
    ·exact .inr (.inr (.inr (mj.mono (fun v o n h=>hK _ h) (fun v o n h=>hX _ _ h) h)))
   ·rename_i id hf
    unfold xI
    simp only[hf]
    exact dM.mono (fun v o n h=>hK _ h) (fun v o n h=>hX _ _ h) h
   ·exact h.elim
  ·rename_i r m eg
   simp only[hc,eg]
   split at h
   ·rename_i g y hr
    simp only[hr]
    unfold rT
    rcases h with⟨ds,eW,out,hP,h|⟨la,h⟩|⟨la,h⟩⟩|h
    ·refine .inl ⟨ds,out,eW,hP, ?_⟩
     cases out<;>first|exact hK _ h|exact hX _ _ h
    ·refine .inr (.inl ⟨ds,out,eW,hP,la, ?_⟩)
     cases out<;>first|exact hK _ h|exact hX _ _ h
    ·refine .inr (.inr (.inl ⟨ds,out,eW,hP,la, ?_⟩))
     cases out<;>first|exact hK _ h|exact hX _ _ h
    ·exact .inr (.inr (.inr (.inl (eN.mono (fun v o n h=>hK _ h) (fun v o n h=>hX _ _ h) h))))
   ·exact h.elim
  ·rename_i eg hinv
   rw[hc]at h|-
   obtain⟨EZ,args,ts⟩:=c
   cases EZ with
   |value f=>exact absurd rfl (eg f)
   |invoke r m=>exact absurd rfl (hinv r m)
   |_=>exact hs h
 ·rename_i x hx
  simp only[hx]
  split at h
  ·rename_i hv;simp only[hv];exact hX _ _ h
  ·rename_i hv;simp only[hv];exact hX _ _ h
  ·exact h.elim
 ·rename_i x str hx
  rw[hx]at h|-
  split at h
  ·rename_i id l hl
   exact .inr ⟨h.1,id,l,hl,fun e=>hK _ (h.2.1 e),fun i k x e=>hK _ (h.2.2 i k x e)⟩
  ·exact hs h
 ·rename_i hc hp ml
  have h2:=hs h
  cases hh:o.op<;>first
   |exact absurd hh (hc _)
   |exact absurd hh (hp _)
   |exact absurd hh (ml _ _)
   |(rw[hh]at h2;exact h2)
theorem iW{ops:Array Oper}{X X':V->S->Prop}{K K':S->Prop}(hK:∀s,K s->K' s)(hX:∀v s,X v s->X' v s):∀ (l:List Oper) (l':List cf) (s:S),kj n ops l=some l'->nP P X K l' s->vJ P n ops X' K' l s
 |[],l',s,h,hr=>by simp[kj]at h;subst h;exact hK _ hr
 |o::l,l',s,h,hr=>by
  simp only[kj]at h
  split at h
  ·rename_i x xs hx G5
   injection h with h;subst h
   unfold Ey at hx
   split at hx
   ·rename_i hd
    have cP:gr n o.dst:=by
     unfold zK at hd;unfold gr
     split at hd<;>simp_all
    simp only[vJ,vI]
    cases hg:o.guard with
    |none=>
     simp only[hg]at hx
     injection hx with hx;subst hx
     exact BA rfl rfl cP (fun s hs=>iW hK hX l xs s G5 hs) hX hr
    |some p=>
     obtain⟨j,want⟩:=p
     simp only[hg]at hx
     cases Jh:qg ops j with
     |none=>simp[Jh]at hx
     |some d=>
      simp only[Jh]at hx
      injection hx with hx;subst hx
      simp only
      simp only[nP]at hr
      split at hr
      ·rename_i t ht
       simp only[Jh,ht]
       split at hr
       ·rename_i e
        exact⟨fun _=>BA rfl rfl cP (fun s hs=>iW hK hX l xs s G5 hs) hX hr,fun h=>absurd e h⟩
       ·rename_i e
        exact⟨fun h=>absurd h e,fun _=>⟨cP,iW hK hX l xs _ G5 hr⟩⟩
      ·rename_i ht
       simp only[Jh,ht]
       exact⟨cP,iW hK hX l xs _ G5 hr⟩
      ·exact hr.elim
   ·cases hx
  ·cases h
end
end Go.Proofs.YtealblliddhgiaaGreat
namespace Go.Proofs.YtealblliddhgiaaGreat
mutual
def V.refs:V->List Nat
 | .ptr id _=>[id]| .osl id _=>[id]| .pe id _ _ _ _=>[id]| .rz id _ _=>[id]| .mp id=>[id]| .ko id=>[id]
 | .agg cs=>V.ag cs
 | .bW cs=>V.ag cs
 | .func _ a b=>V.ag a++V.ag b
 | .iface _ x=>x.refs
 |_=>[]
def V.ag:List V->List Nat
 |[]=>[]
 |v::vs=>v.refs++V.ag vs
end
mutual
theorem jl:∀ (v:V),∀id∈v.ids,id∈v.refs
 | .osl id _,j,h=>by simpa[V.ids,V.refs]using h
 | .agg cs,j,h=>by simp only[V.ids]at h;simp only[V.refs];exact jm cs j h
 | .iface _ x,j,h=>by simp only[V.ids]at h;simp only[V.refs];exact jl x j h
 | .mp _,j,h=>by simpa[V.ids,V.refs]using h
 | .d _,_,h| .aW,_,h| .bW _,_,h| .ptr _ _,_,h| .pe _ _ _ _ _,_,h| .pp _ _,_,h| .func _ _ _,_,h| .ab,_,h| .nC _,_,h| .rz _ _ _,_,h| .eY,_,h| .ko _,_,h=>by simp[V.ids]at h
theorem jm:∀ (vs:List V),∀id∈V.ba vs,id∈V.ag vs
 |[],j,h=>by simp[V.ba]at h
 |v::vs,j,h=>by
  simp only[V.ba,V.ag,List.mem_append]at h|-
  exact h.imp (jl v j) (jm vs j)
end
mutual
theorem dr{o o':Nat->ae}:∀ (v:V),(∀id∈v.refs,o' id=o id)->dG o' v=dG o v
 | .osl id ep,h=>by simp only[dG,h id (by simp[V.refs])]
 | .mp id,h=>by simp only[dG,h id (by simp[V.refs])]
 | .agg cs,h=>by simp only[dG,gO cs (by simpa[V.refs]using h)]
 | .iface t x,h=>by simp only[dG,dr x (by simpa[V.refs]using h)]
 | .d _,_| .aW,_| .bW _,_| .ptr _ _,_| .pe _ _ _ _ _,_| .pp _ _,_| .func _ _ _,_| .ab,_| .nC _,_| .rz _ _ _,_| .eY,_| .ko _,_=>by simp only[dG]
theorem gO{o o':Nat->ae}:∀ (vs:List V),(∀id∈V.ag vs,o' id=o id)->bZ o' vs=bZ o vs
 |[],_=>rfl
 |v::vs,h=>by
  simp only[bZ,dr v (fun id aj=>h id (by simp[V.ag,aj])),gO vs (fun id aj=>h id (by simp[V.ag,aj]))]
end
theorem fV{o o':Nat->ae}{ids:List Nat}(h:∀id∈ids,o' id=o id):cw o' ids=cw o ids:=by
 rw[kY,kY]
 exact List.map_congr_left fun id aj=>by rw[h id aj]
def iX(s:S)(op:Op):List Nat:=
 match op with
 | .load _ x=>(s.ev x).refs
 | .nilCheck x=>(s.ev x).refs
 | .fieldAddr _ x _=>(s.ev x).refs
 | .indexAddr _ x _=>(s.ev x).refs
 | .store _ x v=>(s.ev x).refs++(s.ev v).refs
 | .buildSlice _ _ parts=>V.ag (parts.toList.map fun p=>s.ev p.2)
 | .binOp _ _ x y _=>(s.ev x).refs++(s.ev y).refs
 | .slice _ x _ _ _=>(s.ev x).refs
 | .lookup _ m k _=>(s.ev m).refs++(s.ev k).refs
 | .mapUpdate _ m k v=>(s.ev m).refs++((s.ev k).refs++(s.ev v).refs)
 | .insert _ m k v=>(s.ev m).refs++((s.ev k).refs++(s.ev v).refs)
 | .range _ x=>(s.ev x).refs
 | .next x _=>(s.ev x).refs
 | .entry x=>(s.ev x).refs
 | .call c=>match c.callee with
   | .builtin _=>V.ag (c.args.toList.map s.ev)
   | .value f=>match s.ev f with
     | .func _ first cap=>V.ag (first++c.args.toList.map s.ev++cap)
     |_=>[]
   |_=>[]
 |_=>[]
section
variable {P:Program}{s s':S}{fr:Nat}
theorem qu{o o':Nat->ae}(v:V)(h:∀id∈v.refs,o' id=o id):oU o' v=oU o v:=by
 cases v with
 |osl id ep=>simp only[oU,h id (by simp[V.refs])]
 |d x=>cases x<;>rfl
 |_=>rfl
theorem qv{o o':Nat->ae}(v:V)(q:Nat)(h:∀id∈v.refs,o' id=o id):nu o' v q=nu o v q:=by
 cases v<;>simp only[nu]<;>rw[h _ (by simp[V.refs])]
theorem An{o o':Nat->ae}(v:V)(h:∀id∈v.refs,o' id=o id):xh o' v=xh o v:=by
 have h1:eP o' v=eP o v:=by unfold eP;rw[dr v h]
 cases v<;>first|rfl|simp only[xh,h1]
theorem vU{o o':Nat->ae}(v:V)(h:∀id∈v.refs,o' id=o id):pH o' v=pH o v:=by
 cases v with
 |mp id=>simp only[pH,h id (by simp[V.refs])]
 |d x=>cases x<;>rfl
 |_=>rfl
theorem vV{o o':Nat->ae}(v:V)(h:∀id∈v.refs,o' id=o id):pI o' v=pI o v:=by
 cases v with
 |ptr id off=>simp only[pI,h id (by simp[V.refs])]
 |d x=>cases x<;>rfl
 |_=>rfl
theorem mw{o o':Nat->ae}(v:V)(h:∀id∈v.refs,o' id=o id):nm o' v=nm o v:=by
 cases v with
 |mp id=>simp only[nm,h id (by simp[V.refs])]
 |d x=>cases x<;>rfl
 |_=>rfl
theorem xX{o o':Nat->ae}(v:V)(h:∀id∈v.refs,o' id=o id):ow o' v=ow o v:=by
 cases v with
 |mp id=>simp only[ow,h id (by simp[V.refs])]
 |d x=>cases x<;>rfl
 |_=>rfl
theorem xY{o o':Nat->ae}(v:V)(str:Bool)(h:∀id∈v.refs,o' id=o id):nn o' v str=nn o v str:=by
 cases v with
 |ptr id off=>cases off<;>simp only[nn,h id (by simp[V.refs])]
 |_=>rfl
theorem vW{o o':Nat->ae}(v:V)(h:∀id∈v.refs,o' id=o id):l0 o' v=l0 o v:=by
 cases v with
 |ptr id off=>cases off<;>simp only[l0,h id (by simp[V.refs])]
 |_=>rfl
theorem vX{o o':Nat->ae}{fr:Nat}{t:TypeId}{P:Program}(v:V)(h:∀id∈v.refs,o' id=o id):lZ P o' fr t v=lZ P o fr t v:=by
 unfold lZ
 cases v with
 |mp id=>simp only[h id (by simp[V.refs])]
 |d x=>cases x<;>rfl
 |_=>rfl
theorem vY{o o':Nat->ae}(v:V)(h:∀id∈v.refs,o' id=o id):nD o' v=nD o v:=by
 cases v with
 |ptr id off=>simp only[nD,h id (by simp[V.refs])]
 |_=>rfl
theorem vZ{o o':Nat->ae}(v:V)(h:∀id∈v.refs,o' id=o id):nE o' v=nE o v:=by
 cases v with
 |rz id off n=>simp only[nE,h id (by simp[V.refs])]
 |_=>rfl
theorem Ao(op:Op)(hv:∀x∈op.operands,s'.ev x=s.ev x)(ho:∀id∈iX s op,s'.o id=s.o id):gf P s' fr op=gf P s fr op:=by
 cases op<;>simp only[gf]
 case move x=>rw[hv x (by simp[Op.operands])]
 case assign x=>rw[hv x (by simp[Op.operands])]
 case pick c a b=>rw[hv c (by simp[Op.operands]),hv a (by simp[Op.operands]),hv b (by simp[Op.operands])]
 case box t x=>rw[hv x (by simp[Op.operands])]
 case build t parts=>
  have:(parts.toList.map fun p=>(p.1,s'.ev p.2))=parts.toList.map fun p=>(p.1,s.ev p.2):=
   List.map_congr_left fun p hp=>by rw[hv p.2 (by simp only[Op.operands];simp;exact⟨p.1,by simpa using hp⟩)]
  rw[this]
 case buildSlice t len parts=>
  have:(parts.toList.map fun p=>(p.1,s'.ev p.2))=parts.toList.map fun p=>(p.1,s.ev p.2):=
   List.map_congr_left fun p hp=>by rw[hv p.2 (by simp only[Op.operands];simp;exact⟨p.1,by simpa using hp⟩)]
  rw[this]
  have e:(parts.toList.map fun p=>(p.1,s.ev p.2)).map (·.2)=parts.toList.map fun p=>s.ev p.2:=by simp[Function.comp_def]
  have h1:bZ s'.o ((parts.toList.map fun p=>(p.1,s.ev p.2)).map (·.2))=bZ s.o ((parts.toList.map fun p=>(p.1,s.ev p.2)).map (·.2)):=gO _ (by rw[e];exact ho)
  have h2:cw s'.o (V.ba ((parts.toList.map fun p=>(p.1,s.ev p.2)).map (·.2)))=cw s.o (V.ba ((parts.toList.map fun p=>(p.1,s.ev p.2)).map (·.2))):=
   fV fun id aj=>ho id (by rw[e]at aj;exact jm _ id aj)
  simp only[fU,h1,h2]
 case load t x=>
  rw[hv x (by simp[Op.operands])]
  cases hx:s.ev x<;>simp only[mu]<;>rw[ho _ (by simp[iX,hx,V.refs])]
 case store t x y=>
  rw[hv x (by simp[Op.operands]),hv y (by simp[Op.operands])]
  have h1:dG s'.o (s.ev y)=dG s.o (s.ev y):=dr _ fun id aj=>ho id (by simp[iX,aj])
  have h2:cw s'.o (s.ev y).ids=cw s.o (s.ev y).ids:=fV fun id aj=>ho id (by simp[iX,jl _ _ aj])
  cases hx:s.ev x<;>simp only[pS]<;>rw[ho _ (by simp[iX,hx,V.refs])]
  simp only[h1,h2]
 case nilCheck x=>
  rw[hv x (by simp[Op.operands])]
  cases hx:s.ev x with
  |ptr id off=>simp only[iV];rw[ho _ (by simp[iX,hx,V.refs])]
  |func fn a b=>cases fn<;>rfl
  |_=>rfl
 case binOp op t x y yt=>
  rw[hv x (by simp[Op.operands]),hv y (by simp[Op.operands])]
  have h1:xh s'.o (s.ev x)=xh s.o (s.ev x):=An _ fun id aj=>ho id (by simp[iX,aj])
  have h2:∀a b,CC P s'.o a b (s.ev x) (s.ev y)=CC P s.o a b (s.ev x) (s.ev y):=fun a b=>by
   have h3:∀id∈(s.ev x).refs,s'.o id=s.o id:=fun id aj=>ho id (by simp[iX,aj])
   have h4:=vU (s.ev x) h3
   have h5:=vV (s.ev x) h3
   unfold CC
   rw[h1,h4,h5]
  unfold dA pJ
  simp only[h2]
 case slice t x lo hi mx=>
  rw[hv x (by simp[Op.operands])]
  have e1:lo.map s'.ev=lo.map s.ev:=by cases lo<;>simp[hv,Op.operands]
  have e2:hi.map s'.ev=hi.map s.ev:=by cases hi<;>simp[hv,Op.operands]
  have e3:mx.map s'.ev=mx.map s.ev:=by cases mx<;>simp[hv,Op.operands]
  rw[e1,e2,e3]
  have h3:∀id∈(s.ev x).refs,s'.o id=s.o id:=fun id aj=>ho id (by simp[iX,aj])
  have h1:eP s'.o (s.ev x)=eP s.o (s.ev x):=by unfold eP;rw[dr _ h3]
  have h2:cw s'.o (s.ev x).ids=cw s.o (s.ev x).ids:=fV fun id aj=>h3 id (jl _ _ aj)
  unfold pG
  simp only[h1,h2,vY _ h3]
 case field t x f=>rw[hv x (by simp[Op.operands])]
 case typeAssert x xt t ok=>rw[hv x (by simp[Op.operands])]
 case makeMap t r=>cases r<;>rfl
 case lookup t m k ok=>
  rw[hv m (by simp[Op.operands]),hv k (by simp[Op.operands])]
  have h3:∀id∈(s.ev m).refs,s'.o id=s.o id:=fun id aj=>ho id (by simp[iX,aj])
  have h1:dG s'.o (s.ev k)=dG s.o (s.ev k):=dr _ fun id aj=>ho id (by simp[iX,aj])
  unfold gZ
  simp only[h1,xX _ h3]
 case mapUpdate t m k v=>
  rw[hv m (by simp[Op.operands]),hv k (by simp[Op.operands]),hv v (by simp[Op.operands])]
  have h3:∀id∈(s.ev m).refs,s'.o id=s.o id:=fun id aj=>ho id (by simp[iX,aj])
  have h1:dG s'.o (s.ev k)=dG s.o (s.ev k):=dr _ fun id aj=>ho id (by simp[iX,aj])
  have h2:dG s'.o (s.ev v)=dG s.o (s.ev v):=dr _ fun id aj=>ho id (by simp[iX,aj])
  have h4:cw s'.o (s.ev v).ids=cw s.o (s.ev v).ids:=fV fun id aj=>ho id (by simp[iX,jl _ _ aj])
  unfold fA
  simp only[h1,h2,h4,mw _ h3]
 case insert t m k v=>
  rw[hv m (by simp[Op.operands]),hv k (by simp[Op.operands]),hv v (by simp[Op.operands])]
  have h3:∀id∈(s.ev m).refs,s'.o id=s.o id:=fun id aj=>ho id (by simp[iX,aj])
  have h1:dG s'.o (s.ev k)=dG s.o (s.ev k):=dr _ fun id aj=>ho id (by simp[iX,aj])
  have h2:dG s'.o (s.ev v)=dG s.o (s.ev v):=dr _ fun id aj=>ho id (by simp[iX,aj])
  have h4:cw s'.o (s.ev v).ids=cw s.o (s.ev v).ids:=fV fun id aj=>ho id (by simp[iX,jl _ _ aj])
  unfold fA
  simp only[h1,h2,h4,mw _ h3]
 case index t x i=>rw[hv x (by simp[Op.operands]),hv i (by simp[Op.operands])]
 case range t x=>
  rw[hv x (by simp[Op.operands])]
  exact vX _ fun id aj=>ho id (by simp[iX,aj])
 case next x str=>
  rw[hv x (by simp[Op.operands])]
  exact xY _ _ fun id aj=>ho id (by simp[iX,aj])
 case entry x=>
  rw[hv x (by simp[Op.operands])]
  exact vW _ fun id aj=>ho id (by simp[iX,aj])
 case unOp op t x=>rw[hv x (by simp[Op.operands])]
 case convert u t x=>rw[hv x (by simp[Op.operands])]
 case makeInterface t x=>rw[hv x (by simp[Op.operands])]
 case makeFunc fn first cap=>
  have h1:first.toList.map s'.ev=first.toList.map s.ev:=List.map_congr_left fun x hx=>hv x (by simp only[Op.operands];exact Array.mem_append.2 (.inl (Array.mem_toList_iff.1 hx)))
  have h2:cap.toList.map s'.ev=cap.toList.map s.ev:=List.map_congr_left fun x hx=>hv x (by simp only[Op.operands];exact Array.mem_append.2 (.inr (Array.mem_toList_iff.1 hx)))
  rw[h1,h2]
 case makeSlice t l c=>rw[hv l (by simp[Op.operands]),hv c (by simp[Op.operands])]
 case fieldAddr t x f=>
  rw[hv x (by simp[Op.operands])]
  simp only[gN]
  cases cD P t f<;>simp only
  rw[qv _ _ (by simpa[iX]using ho)]
 case indexAddr t x i=>
  rw[hv x (by simp[Op.operands]),hv i (by simp[Op.operands])]
  have h1:∀q,nu s'.o (s.ev x) q=nu s.o (s.ev x) q:=fun q=>qv _ _ (by simpa[iX]using ho)
  simp only[gM,h1]
  cases hx:s.ev x with
  |osl id ep=>simp only[ho id (by simp[iX,hx,V.refs])]
  |d y=>cases y<;>rfl
  |_=>rfl
 case extract x i=>rw[hv x (by simp[Op.operands])]
 case call c=>
  obtain⟨EZ,args,ts⟩:=c
  cases EZ<;>simp only
  rename_i b
  unfold oX
  have hm:∀x∈args.toList,s'.ev x=s.ev x:=fun x hx=>hv x (by simp only[Op.operands,Call.operands];exact Array.mem_append.2 (.inr (Array.mem_toList_iff.1 hx)))
  have hr:∀x∈args.toList,∀id∈(s.ev x).refs,s'.o id=s.o id:=by
   intro x hx id aj
   refine ho id ?_
   simp only[iX]
   generalize args.toList=l at hx
   induction l with
   |nil=>cases hx
   |cons y l ih=>
    simp only[List.map_cons,V.ag,List.mem_append]
    rcases List.mem_cons.1 hx with rfl|hx
    ·exact .inl aj
    ·exact .inr (ih hx)
  split
  ·rename_i x ha
   rw[ha]at hm hr
   rw[hm x (by simp)]
   have h1:∀t,Ai P t s'.o (s.ev x)=Ai P t s.o (s.ev x):=fun t=>by simp only[Ai,qu _ (hr x (by simp))]
   simp only[h1]
  ·rename_i x y ha
   rw[ha]at hm hr
   rw[hm x (by simp),hm y (by simp)]
   simp only[oV,qu _ (hr y (by simp))]
   cases hx:s.ev x with
   |osl id ep=>simp only[hr x (by simp) id (by simp[hx,V.refs])]
   |_=>rfl
  ·rename_i x y ha
   rw[ha]at hm
   rw[hm x (by simp),hm y (by simp)]
  ·rename_i x y ha
   rw[ha]at hm
   rw[hm x (by simp),hm y (by simp)]
  ·rename_i x y z h;rw[hm x (by rw[h];simp),hm y (by rw[h];simp),hm z (by rw[h];simp)]
  ·rename_i x y ha
   rw[ha]at hm hr
   rw[hm x (by simp),hm y (by simp)]
   have h1:eP s'.o (s.ev y)=eP s.o (s.ev y):=by unfold eP;rw[dr _ (hr y (by simp))]
   have h2:cw s'.o (s.ev y).ids=cw s.o (s.ev y).ids:=fV fun id aj=>hr y (by simp) id (jl _ _ aj)
   unfold tW
   simp only[h1,h2,vZ _ (hr x (by simp))]
  ·rename_i x y ha
   rw[ha]at hm hr
   rw[hm x (by simp),hm y (by simp)]
   have h1:dG s'.o (s.ev y)=dG s.o (s.ev y):=dr _ (hr y (by simp))
   have h2:=mw _ (hr x (by simp))
   simp only[mT,h1,h2]
  ·rfl
end
end Go.Proofs.YtealblliddhgiaaGreat
