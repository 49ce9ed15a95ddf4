/-
  A PART OF THE PROOF. Conditions: none.
-/
import Derived.Test.YtnkamdiiakdkgaaGreatEu6
set_option linter.unusedSimpArgs false
set_option linter.unusedVariables false
namespace Go.Proofs.YtnkamdiiakdkgaaGreat
section
section
variable {P:Program}{M:Nat->Prop}{φ:Place}{H:Hp}{w w':World}{cg:Place}{H0:Hp}{w0:World}{n b:Nat}{s:S}{a:Act}{cx:Cx}{ro:Option Nat}{k:Nat}
theorem gB(hb:∀id,H0.us id->id<b)(sn:cx.rd=false->ro=none):∀ (c:Code) (Q:eS->S->Prop) (s:S) (φ:Place) (a:Act) (w:World),iA P n b cx.rd c Q s->bU M cg H0 w0 n cx φ s a w->c.rQ P ro (DM M cg H0 w0 n cx Q) a w:=by
 intro c
 induction c with
 |skip=>exact fun Q s φ a w h hs=>nT (k:=0) (wpIn_skip ⟨.normal,s,φ,h,hs,trivial⟩)
 |scope x ih=>exact fun Q s φ a w h hs=>vR (ih Q s φ a w h hs) (fun l a w ⟨xx,s',aD,hq,ju,hm⟩=>by cases xx<;>exact hm)
 |label l=>exact fun Q s φ a w h hs=>nT (k:=0) (wpIn_label ⟨.normal,s,φ,h,hs,trivial⟩)
 |exit id=>exact fun Q s φ a w h hs=>zP ⟨.exit id,s,φ,h,hs,rfl⟩
 |ret=>exact fun Q s φ a w h hs=>DN ⟨.ret,s,φ,h,hs,trivial⟩
 |goto l=>exact fun Q s φ a w h hs=>h.elim
 |refuse y=>exact fun Q s φ a w h hs=>h.elim
 |rangeFunc g ps x y=>
  intro Q s φ a w h hs
  obtain⟨h1,s',hle,h2⟩:=h
  rcases hle with rfl|hle
  ·exact vU hs h1 (sn h1) h2
  ·obtain⟨aD,ju⟩:=Cm hb hs hle
   exact vU ju h1 (sn h1) h2
 |region id ops draw=>
  intro Q s φ a w h hs
  cases draw with
  |true=>exact nT (h M cg H0 w0 cx φ a w ro 0 hs)
  |false=>
   refine nT (k:=0) (wpIn_region_list (nS (K:=Q .normal) (X:=fun v s=>Q (.bF v) s) (fun s φ a w hk hs=>⟨.normal,s,φ,hk,hs,trivial⟩) (fun v s φ a w val hx hs hd=>⟨.bF v,s,φ,hx,hs,val,rfl,hd⟩) _ s φ a w h hs))
 |seq x y L3 L4=>
  intro Q s φ a w h hs
  refine xu (fU (L3 _ s φ a w h hs) ?_)
  rintro e a' w' ⟨xx,s',aD,hq,ju,hm⟩
  cases e<;>cases xx<;>first|(exact hm.elim)|skip
  ·exact L4 Q s' aD a' w' hq ju
  ·subst hm;exact⟨_,s',aD,hq,ju,rfl⟩
  ·exact Hw
  ·exact HA
 |cond c x y L3 L4=>
  intro Q s φ a w h hs
  simp only[iA]at h
  have hc:=lU (M:=M) (φ:=φ) (H:=s.H) (w:=w) s a hs.env c
  split at h
  ·rename_i t hv
   rw[hv]at hc
   simp only[V.den,D.den]at hc
   cases t with
   |true=>exact oW hc (L3 Q s φ a w (h.1 rfl) hs)
   |false=>exact oW hc (L4 Q s φ a w (h.2 rfl) hs)
  ·rename_i hv
   rw[hv]at hc
   obtain⟨t,hc⟩:=hc
   cases t with
   |true=>exact oW hc (L3 Q s φ a w h.1 hs)
   |false=>exact oW hc (L4 Q s φ a w h.2 hs)
  ·exact h.elim
 |block id x ih=>
  intro Q s φ a w h hs
  refine FI (fU (ih _ s φ a w h hs) ?_)
  rintro e a' w' ⟨xx,s',aD,hq,ju,hm⟩
  cases e<;>cases xx<;>first|(exact hm.elim)|skip
  ·exact⟨.normal,s',aD,hq,ju,trivial⟩
  ·subst hm
   simp only[Exit.inBlock]
   simp only[eO]at hq
   split
   ·rename_i he;rw[if_pos he]at hq;exact⟨.normal,s',aD,hq,ju,trivial⟩
   ·rename_i he;rw[if_neg he]at hq;exact⟨.exit _,s',aD,hq,ju,rfl⟩
  ·exact Hw
  ·exact HA
 |loop x ih=>
  intro Q s φ a w h hs
  obtain⟨J,⟨m0,s1,hle,hI⟩,nV⟩:=h
  obtain⟨il,vV⟩:=Cm hb hs hle
  refine xy (fun m a w=>∃s φ,J m s/\bU M cg H0 w0 n cx φ s a w) ?_ m0 a w ⟨s1,il,hI,vV⟩
  rintro m a w ⟨s,φ,hI,hs⟩
  refine fU (ih _ s φ a w (nV m s hI) hs) ?_
  rintro e a' w' ⟨xx,s',aD,hq,ju,hm⟩
  cases e<;>cases xx<;>first|(exact hm.elim)|skip
  ·obtain⟨m2,s2,b8,abB,hI2⟩:=hq
   obtain⟨FJ,La⟩:=Cm hb ju abB
   exact⟨m2,b8,s2,FJ,hI2,La⟩
  ·subst hm;exact⟨_,s',aD,hq,ju,rfl⟩
  ·exact Hw
  ·exact HA
def Ir(tmps:Array Value)(r:ResultVar):Sem Value:=
 match r with
 | .tmp t=>pure (tmps.getD t undef)
 | .cell p t=>do loadVar t (<- asAddr (tmps.getD p undef))
theorem sq(oX:ay M φ s.H w)(dI:∀i,V.den (ak M φ s.H) φ s.H w (s.env i) (a.tmps.getD i undef)):∀ (rs:List ResultVar) (vs:List V),kW P s rs=some vs->
 ∃vals,(rs.mapM (Ir a.tmps)).run P w= .ok vals w/\V.aC (ak M φ s.H) φ s.H w vs vals
 |[],vs,h=>by simp[kW]at h;subst h;exact⟨[],aI,rfl⟩
 | .tmp t::rs,vs,h=>by
   simp only[kW,Option.map_eq_some_iff]at h
   obtain⟨us,h1,rfl⟩:=h
   obtain⟨vals,h2,h3⟩:=sq oX dI rs us h1
   exact⟨a.tmps.getD t undef::vals,by simp only[List.mapM_cons,Ir,Sem.run_bind,Sem.run_pure,Result.andThen_ok,h2],_,_,rfl,dI t,h3⟩
 | .cell p t::rs,vs,h=>by
   simp only[kW]at h
   split at h
   ·rename_i id off hv
    split at h
    ·rename_i cs ho
     simp only[Option.bind_eq_some_iff,Option.map_eq_some_iff]at h
     obtain⟨v,h0,us,h1,rfl⟩:=h
     obtain⟨vals,h2,h3⟩:=sq oX dI rs us h1
     have hx:=dI p
     rw[hv]at hx
     obtain⟨_,hu,hp⟩:=hx
     obtain⟨k,dN,dH⟩:=hp (by show(s.o id).bZ=true;rw[ho];rfl)
     have aZ:=oX.ok id
     have vm:s.H.o id= .row cs:=ho
     simp only[aO,vm]at aZ
     obtain⟨b',dC,ty,g1,g2,g3,g4⟩:=aZ
     rw[dN]at g1;simp at g1;subst g1
     obtain⟨val,h4,h5⟩:=oJ (P:=P) h0 ⟨k,0,none⟩ dC.toList g3 g4 (fun j u hj=>oK g2 j u lO) rfl
     rw[add_plain,Nat.zero_add]at h4
     have h6:(loadVar t ⟨k,off,none⟩).run P w= .ok val w:=by simpa[Instr.loadAt,Instr.sureAddr]using h4
     exact⟨val::vals,by simp only[List.mapM_cons,Ir,dH,asAddr,Sem.run_bind,Sem.run_pure,Result.andThen_ok,h6,h2],val,vals,rfl,h5,h3⟩
    ·cases h
   ·cases h
theorem l7{fn:Func}{tmps:Array Value}{vals:List Value}
 (h:(fn.results.toList.mapM (Ir tmps)).run P w= .ok vals w):
 (results fn tmps).run P w= .ok (if h:vals.toArray.size=1 then vals.toArray[0]else .tuple vals.toArray) w:=by
 have e:results fn tmps=(do let vs <- fn.results.mapM (Ir tmps);pure (if h:vs.size=1 then vs[0]else .tuple vs)):=by
  unfold results
  congr 2
 rw[e,Array.mapM_eq_mapM_toList]
 simp only[Sem.run_bind,Sem.run_map,h,Result.andThen_ok,Sem.run_pure]
theorem kz{us:Nat->Prop}(φ:Place)(hM:∀k,M k->k<w.heap.size):ay M φ ⟨fun _=> .no,us⟩ w where
 ok id:=by simp[aO]
 fresh _ _:=rfl
 apart i j k hi:=by simp[ab.live]at hi
 ours k:=by rintro⟨id,h,_⟩;simp[ab.live]at h
 yM:=hM
theorem FK{vals:Array Value}{m i:Nat}:(vals++Array.replicate m undef).getD i undef=(vals[i]?).getD undef:=by
 simp only[Array.getD_eq_getD_getElem?,Array.getElem?_append]
 split
 ·rfl
 ·rw[Array.getElem?_eq_none (xs:=vals) (by omega)]
  simp only[Array.getElem?_replicate]
  split<;>rfl
structure xz (M:Nat->Prop) (cg:Place) (H0:Hp) (w0:World) (φ:Place) (s:S) (tmps:Array Value) (w:World):Prop where
 heap:ay M φ s.H w
 tr:Trans cg H0 w0 φ s.H w
 env:∀i,V.den (ak M φ s.H) φ s.H w (s.env i) (tmps.getD i undef)
theorem FL{tmps:Array Value}(hs:xz M cg H0 w0 φ s tmps w){r:Nat}(h1:w0.heap.size<=r)(h2:w.heap[r]? =some (.deferred (some [])))(h3: ¬cy φ s.H r):
 xz M cg H0 w0 φ s tmps {w with heap:=w.heap.setIfInBounds r (.deferred none)}:=by
 have kK:∀b,b≠r->(w.heap.setIfInBounds r (.deferred none))[b]? =w.heap[b]? :=fun b hb=>(MapKept.heap_set h2).2 b hb
 have xg:∀b,cP w b-> ¬ak M φ s.H b->(w.heap.setIfInBounds r (.deferred none))[b]? =w.heap[b]? /\ ¬ak M φ s.H b:=by
  intro b hc hn
  refine⟨kK b fun e=> ?_,hn⟩
  subst e
  rcases hc with⟨cs,ty,fz,hc⟩|⟨es,clock,hc⟩
  ·rw[h2]at hc;cases hc
  ·rw[h2]at hc;cases hc
 refine⟨⟨fun id=> ?_,hs.heap.fresh,hs.heap.apart,fun b hb=>⟨(hs.heap.ours b hb).1,by simpa using(hs.heap.ours b hb).2⟩,fun b hb=>by simpa using hs.heap.yM b hb⟩,⟨⟨hs.tr.keep.os,hs.tr.keep.tape,hs.tr.keep.output,by simpa using hs.tr.keep.size,fun j hj hm=> ?_⟩,hs.tr.grow,hs.tr.rel⟩,fun i=>V.kj xg (dD.refl _ _) _ _ (hs.env i)⟩
 ·exact aO.zj xg (dD.refl _ _) rfl rfl (fun hl b hb=>kK b fun e=>h3 ⟨id,hl,e ▸ hb⟩) (hs.heap.ok id)
 ·rw[kK j (by omega)];exact hs.tr.keep.block j hj hm
theorem fV{fn:Func}{R:Ending->World->Prop}{u:FrameMode}(hu:u≠ .run){tmps tb:Array Value}{ds:List Deferred}(hR:∀w,xz M cg H0 w0 φ s tb w->LeavesInM (dy none) k P fn tmps R ds u w):
 ∀ (ms:List Nat) (w:World),ms.Nodup->(∀r∈ms,w0.heap.size<=r/\w.heap[r]? =some (.deferred (some []))/\ ¬cy φ s.H r)->xz M cg H0 w0 φ s tb w->LeavesInM (dy none) k P fn tmps R (ms.map mark++ds) u w
 |[],w,_,_,hs=>hR w hs
 |r::ms,w,hn,hm,hs=>by
  obtain⟨h1,h2,h3⟩:=hm r aI
  obtain⟨Lb,HX⟩:=List.nodup_cons.1 hn
  refine⟨hu, .inl ⟨r,{w with heap:=w.heap.setIfInBounds r (.deferred none)},rfl, ?_,fV hu hR ms _ HX (fun r' xm=> ?_) (FL hs h1 h2 h3)⟩⟩
  ·simp[Instr.takeDeferred,getObj,setObj,Sem.run,h2,Result.andThen]
  ·obtain⟨g1,g2,g3⟩:=hm r' (by simp[xm])
   exact⟨g1,((MapKept.heap_set h2).2 r' (fun e=>Lb (e ▸ xm))).trans g2,g3⟩
theorem bU.toB (hs:bU M cg H0 w0 n cx φ s a w):xz M cg H0 w0 φ s a.tmps w:=⟨hs.heap,hs.tr,hs.env⟩
def kY(P:Program)(rs:List ResultVar)(K X:V->(Nat->ab)->Nat->Prop)(e:eS)(s:S):Prop:=
 match e with
 | .normal| .ret=>match kW P s rs with
   |some [v]=>K v s.o s.nx
   |some vs=>K (.bS vs) s.o s.nx
   |none=>False
 | .bF v=>X v s.o s.nx
 | .exit _=>False
theorem zR{P:Program}{rs:List ResultVar}{K X:V->(Nat->ab)->Nat->Prop}{s:S}(h:kY P rs K X .ret s):∃vs,kW P s rs=some vs/\K (match vs with|[v]=>v|vs=> .bS vs) s.o s.nx:=by
 unfold kY at h
 simp only at h
 split at h
 ·rename_i v h1;exact⟨[v],h1,h⟩
 ·rename_i vs h1 h2
  refine⟨vs,h2, ?_⟩
  split
  ·exact absurd rfl (h1 _)
  ·exact h
 ·exact h.elim
theorem zS:∀ {vs:List V} {vals:List Value},V.aC (ak M φ H) φ H w vs vals->V.den (ak M φ H) φ H w (match vs with|[v]=>v|vs=> .bS vs) (if h:vals.toArray.size=1 then vals.toArray[0]else .tuple vals.toArray)
 |[],vals,h=>by simp only[V.aC]at h;subst h;exact⟨#[],rfl,rfl⟩
 |[v],vals,h=>by obtain⟨u,us,rfl,h1,h2⟩:=h;simp only[V.aC]at h2;subst h2;exact h1
 |v::y::l,vals,h=>by
  have h':=h
  obtain⟨u,us,rfl,h1,u2,us2,rfl,h2⟩:=h
  exact⟨(u::u2::us2).toArray,aI,by simpa using h'⟩
theorem zb{vals:Array Value}{m:Nat}{vs:List V}(hd:V.aC (ak M φ H) φ H w vs vals.toList)(i:Nat):V.den (ak M φ H) φ H w (cp vs i) ((vals++Array.replicate m undef).getD i undef):=by
 have hlen:=V.aA _ _ hd
 simp only[cp,FK]
 cases hx:vs[i]? with
 |none=>
  have:vals[i]? =none:=by
   rw[List.getElem?_eq_none_iff]at hx
   apply Array.getElem?_eq_none
   simp at hlen;omega
  simp only[List.getD_eq_getElem?_getD,hx,this]
  exact⟨#[],rfl,rfl⟩
 |some v=>
  obtain⟨u,hu,LH⟩:=V.dk _ _ _ _ hd hx
  have yU:vals[i]? =some u:=by simpa using hu
  simp only[List.getD_eq_getElem?_getD,hx,yU,Option.getD_some]
  exact LH
theorem l8{f:FuncId}{fn:Func}{c:Code}{args:Array Value}{w:World}{R:Ending->World->Prop}(hf:P.funcs[f]? =some fn)(hb:fn.body=some c)
 (h:c.rQ P none (bodyPostM (dy none) k P fn R) {tmps:=args++Array.replicate (fn.ntmps - args.size) undef,defers:=[]} w):CallsIn (dy none) k P f args w R:=by
 have b8:f<P.funcs.size:=(Array.getElem?_eq_some_iff.1 hf).1
 refine⟨trivial,fun cs hr=> ?_⟩
 let b:Frame:={(default:Frame)with fn:=f,kind:= .normal,roundOf:=none}
 have kX:Frame.enter P f args .normal=b.atR {tmps:=args++Array.replicate (fn.ntmps - args.size) undef,defers:=[]} [.code c]:=by
  simp[Frame.enter,Frame.atR,hf,hb,b]
 obtain⟨e,a',w',hq,cR⟩:=h b [] cs rfl b8
 rw[<- kX]at cR
 cases e with
 |normal=>
  obtain⟨e',Q3,fr',hR,hs,GX,hl⟩:=leaves_stepsInM a'.defers .returning w' {b.atR a' []with mode:= .returning} cs rfl rfl rfl hf rfl (trivial:(dy none).fn f) hr hq
  exact⟨e',Q3,fr',hR,ComesIn.of_steps (StepsIn.trans cR (.one (fenced_calm (n:=0) (fr:=b.atR a' []) trivial fT rfl) (stepR_end rfl))) hs,GX,hl⟩
 |ret=>
  obtain⟨todo,NZ⟩:=cR.1 rfl
  obtain⟨e',Q3,fr',hR,hs,GX,hl⟩:=leaves_stepsInM a'.defers .returning w' {b.atR a' todo with mode:= .returning} cs rfl rfl rfl hf rfl (trivial:(dy none).fn f) hr hq
  exact NY
 |panic chain=>
  obtain⟨todo,NZ⟩:=cR
  obtain⟨e',Q3,fr',hR,hs,GX,hl⟩:=leaves_stepsInM a'.defers (.panicking chain) w' {b.atR a' todo with mode:= .panicking chain} cs rfl rfl rfl hf rfl (trivial:(dy none).fn f) hr hq
  exact NY
 |exit id=>exact hq.elim
 |goto l=>exact hq.elim
 |outgrown=>exact⟨.outgrown,w',b,hq,cR.resolve_left (by simp[b]),rfl,trivial⟩
def Cp(P:Program)(l:Nat)(R:Ending->World->Prop):Exit->Act->World->Prop
 | .normal,_,w=>∃v w',(Instr.endRound l none).run P w= .ok v w'/\R (.returned v) w'
 | .ret,_,w=>∃v w',(Instr.endRound l (some .ret)).run P w= .ok v w'/\R (.returned v) w'
 | .exit id,_,w=>∃v w',(Instr.endRound l (some (.exit id))).run P w= .ok v w'/\R (.returned v) w'
 | .goto _,_,_=>False
 | .panic chain,a,w=>a.defers=[]/\R (.panicked chain) w
 | .outgrown,_,_=>False
theorem s9{l:Nat}{f:FuncId}{tmps:Array Value}{assign body:Code}{w:World}{R:Ending->World->Prop}(hf:f<P.funcs.size)
 (h:assign.rQ P (some l) (Exit.then (fun na iP=>∃ql,(Instr.beginRound l).run P iP= .ok () ql/\body.rQ P (some l) (Cp P l R) na ql) (fun e a w=>match e with| .panic chain=>a.defers=[]/\R (.panicked chain) w|_=>False))
  {tmps:=tmps,defers:=[]} w):
 RoundIn Fence.wide n P l f tmps assign body w R:=by
 refine⟨trivial,fun c cs hr=> ?_⟩
 let b:Frame:={(default:Frame)with fn:=f,kind:= .normal,roundOf:=some l}
 have RF:Frame.round l f tmps assign body .normal=b.atR {tmps:=tmps,defers:=[]} [.code assign, .beginRound, .code body]:=by
  simp[Frame.round,Frame.atR,b]
 have calm:∀ (m:Machine),m.fenced P Fence.wide:=fun m=>fenced_wide P m
 have bF:∀ {a:Act} {w:World} {todo:List Item} {chain:List PanicEntry},a.defers=[]->step P (lone {b.atR a todo with mode:= .panicking chain} (c::cs) w)= .next (lone (c.raise chain) cs w):=by
  intro a w todo chain hd
  exact step_leave_panicked (fr:={b.atR a todo with mode:= .panicking chain}) ⟨rfl,hd,P.funcs[f],by show P.funcs[f]? =_;simp[hf]⟩
 obtain⟨e,na,iP,hq,cR⟩:=h b [.beginRound, .code body] (c::cs) rfl hf
 rw[<- RF]at cR
 cases e with
 |normal=>
  obtain⟨ql,hbr,oY⟩:=hq
  have s1:StepsIn (Machine.fenced P Fence.wide) P (lone (b.atR na [.beginRound, .code body]) (c::cs) iP) (lone (b.atR na [.code body]) (c::cs) ql):= .one (calm _) (stepR_beginRound rfl hbr)
  obtain⟨RC,XC,Cj,oV,jG⟩:=oY b [] (c::cs) rfl hf
  have cR:StepsIn (Machine.fenced P Fence.wide) P _ _:=cR
  cases RC with
  |normal=>
   obtain⟨v,rR,cw,hR⟩:=oV
   have jG:StepsIn (Machine.fenced P Fence.wide) P _ _:=jG
   exact⟨.returned v,rR,hR,(StepsIn.trans cR s1).trans (StepsIn.trans jG (.one (calm _) (stepR_round_end rfl rfl cw)))⟩
  |ret=>
   obtain⟨v,rR,cw,hR⟩:=oV
   obtain⟨k₁,hs⟩:=jG.2 rfl
   have hs:StepsIn (Machine.fenced P Fence.wide) P _ _:=hs
   exact⟨.returned v,rR,hR,(StepsIn.trans cR s1).trans (StepsIn.trans hs (.one (calm _) (stepR_round_ret rfl rfl cw)))⟩
  |exit id=>
   obtain⟨v,rR,cw,hR⟩:=oV
   obtain⟨k₁,hk,hs⟩:=jG.2 rfl rfl
   have hs:StepsIn (Machine.fenced P Fence.wide) P _ _:=hs
   exact⟨.returned v,rR,hR,(StepsIn.trans cR s1).trans (StepsIn.trans hs (.one (calm _) (stepR_round_exit rfl rfl hk cw)))⟩
  |goto t=>exact oV.elim
  |panic chain=>
   obtain⟨todo,hs⟩:=jG
   have hs:StepsIn (Machine.fenced P Fence.wide) P _ _:=hs
   exact⟨.panicked chain,Cj,oV.2,(StepsIn.trans cR s1).trans (StepsIn.trans hs (.one (calm _) (bF oV.1)))⟩
  |outgrown=>exact oV.elim
 |exit id=>exact hq.elim
 |goto t=>exact hq.elim
 |ret=>exact hq.elim
 |panic chain=>
  obtain⟨todo,hs⟩:=cR
  have hs:StepsIn (Machine.fenced P Fence.wide) P _ _:=hs
  exact⟨.panicked chain,iP,hq.2,StepsIn.trans hs (.one (calm _) (bF hq.1))⟩
 |outgrown=>exact hq.elim
theorem de.DS {f:FuncId}{fn:Func}{c:Code}{args:List V}{o:Nat->ab}{nx:Nat}{K X:V->(Nat->ab)->Nat->Prop}(hf:P.funcs[f]? =some fn)(hn:(fn.name== "runtime.NumGoroutine")=false)(oY:fn.body=some c)(hl:args.length<=fn.ntmps)
 (h:iA P fn.ntmps nx false c (kY P fn.results.toList K X) ⟨cp args,o,nx⟩):de P f args o nx K X:=by
 refine⟨⟨fn,hf,hn,by rw[oY];rfl⟩,fun M φ w vals hH hd=> ?_⟩
 have hlen:=V.aA _ _ hd
 let s0:S:=⟨cp args,o,nx⟩
 let a0:Act:={tmps:=vals++Array.replicate (fn.ntmps - vals.size) undef,defers:=[]}
 have jb:bU M φ (hp o nx) w fn.ntmps ⟨[],false⟩ φ s0 a0 w:=by
  exact W4
 refine zL (ro:=none) (k:=0) (l8 hf oY (fU (gB (P:=P) (H0:=hp o nx) (b:=nx) (cx:=⟨[],false⟩) (ro:=none) (fun id hu=>hu) (fun _=>rfl) c _ s0 φ a0 w h jb) ?_))
 rintro e a w' ⟨x,s,aD,hq,hs,hm⟩
 obtain⟨ms,g1,g2,g3,g4⟩:=hs.defers
 rw[List.append_nil]at g1
 have done:(x= .normal\/x= .ret)->LeavesInM (dy none) 0 P fn a.tmps (l0 M φ (hp o nx) w K X) a.defers .returning w':=by
  intro hx
  have hq':kY P fn.results.toList K X .ret s:=by rcases hx with rfl|rfl<;>exact hq
  obtain⟨vs,h1,h2⟩:=zR hq'
  rw[g1]
  have:=fV (P:=P) (k:=0) (fn:=fn) (R:=l0 M φ (hp o nx) w K X) (u:= .returning) aI (ds:=[]) (fun w2 hb=>by
   obtain⟨vals,h3,h4⟩:=sq (P:=P) (a:=a) hb.heap hb.env _ _ h1
   exact⟨_,l7 h3,aD,s.o,s.nx,_,hb.heap,hb.tr,zS h4,h2⟩) ms w' g2 g4 hs.toB
  rwa [List.append_nil]at this
 cases e<;>cases x<;>first|(exact hm.elim)|skip
 ·exact done (.inl rfl)
 ·exact hq.elim
 ·exact done (.inr rfl)
 ·rename_i v
  obtain⟨val,rfl,hd'⟩:=hm
  show LeavesInM (dy none) 0 P fn a.tmps (l0 M φ (hp o nx) w K X) a.defers _ w'
  rw[g1]
  have RF:xz M φ (hp o nx) w aD ⟨fun i=>if i=0 then v else .aa,s.o,s.nx⟩ #[val] w':=⟨hs.heap,hs.tr,fun i=>by
   by_cases hi:i=0
   ·subst hi;exact hd'
   ·simp only[hi,if_false];trivial⟩
  have:=fV (P:=P) (k:=0) (fn:=fn) (s:=⟨fun i=>if i=0 then v else .aa,s.o,s.nx⟩) (tmps:=a.tmps) (tb:=#[val]) (cg:=φ) (H0:=hp o nx) (w0:=w) (R:=l0 M φ (hp o nx) w K X) (u:= .panicking [{v:=val,recovered:=false}]) aI (ds:=[]) (fun w2 hb=>by
   have h0:=hb.env 0
   exact⟨aD,s.o,s.nx,v,hb.heap,hb.tr,val,rfl,h0,hq⟩) ms w' g2 g4 RF
  rwa [List.append_nil]at this
theorem aW.l9 {f:FuncId}{ds:List D}{out:R}(h:de P f (ds.map .d) (fun _=> .no) 0 (fun v o _=>∃vs rs,v=(match vs with|[v]=>v|vs=> .bS vs)/\bT o vs=some rs/\out= .ret rs) (fun v o _=>∃x,dA o v=some x/\out= .bF x)):aW P f ds out:=by
 refine⟨h.1,fun M w vals hM hd=> ?_⟩
 let cg:Place:=fun _=> .nilFunc
 have u4:∀b, ¬cy cg (hp (fun _=> .no) 0) b:=by rintro b ⟨id,hl,_⟩;simp[hp,ab.live]at hl
 refine(h.2 M cg w vals (kz cg hM) ((V.b7 _ _).2 (D.aP (w:=w) (w':=w) (B:=M) (fun b _ hB=>⟨rfl,fun h=>h.elim hB (u4 b)⟩) _ _ hd))).mono ?_
 rintro e w' ⟨aD,o',nx',v,k1,k2,k3⟩
 have re:dx (fun _=>False) w w':=⟨k2.keep.os,k2.keep.tape,k2.keep.output,k2.keep.size,fun k hk _=>k2.keep.block k hk (u4 k)⟩
 have fin:∀ (vs:List V) (xs:List D) (vals:List Value),bT o' vs=some xs->V.aC (ak M aD (hp o' nx')) aD (hp o' nx') w' vs vals->D.aC M w' xs vals:=by
  intro vs xs vals h1 h2
  obtain⟨f1,f2,f3,f4,f5⟩:=cC k1 (V.bg vs) (cH vs _ h2)
  have h3:=cX f1 vs xs vals f3 h1 (V.aP f2 _ _ h2)
  exact D.aP (w:=w') (w':=w') (fun k _ hB=>⟨rfl,fun hM=>hB (.inl hM)⟩) xs vals h3
 refine⟨re, ?_⟩
 cases e with
 |outgrown=>exact k3.elim
 |panicked ch=>
  obtain⟨val,rfl,g1,x,g2,rfl⟩:=k3
  have:=fin [v] [x] [val] (by simp[bT,g2]) ⟨val,[],rfl,g1,rfl⟩
  obtain⟨u,us,he,h2,_⟩:=this
  simp at he;obtain⟨rfl,rfl⟩:=he
  exact⟨val,rfl,h2⟩
 |returned val=>
  obtain⟨g1,vs,rs,rfl,g2,rfl⟩:=k3
  match vs,g1,g2 with
  |[],g1,g2=>
   obtain⟨arr,rfl,hv⟩:=g1
   simp only[bT,Option.some.injEq]at g2;subst g2
   exact⟨arr,rfl,hv⟩
  |[v],g1,g2=>
   have:=fin [v] rs [val] g2 ⟨val,[],rfl,g1,rfl⟩
   cases rs with
   |nil=>cases this
   |cons x l=>
    obtain⟨u,us,he,h2,h3⟩:=this
    simp at he;obtain⟨rfl,rfl⟩:=he
    cases l with
    |nil=>exact h2
    |cons y l=>obtain⟨_,_,h,_⟩:=h3;cases h
  |v::v2::l,g1,g2=>
   obtain⟨arr,rfl,h⟩:=g1
   have:=fin (v::v2::l) rs arr.toList g2 h
   have hl:=D.aA _ _ this
   have hl2:=V.aA _ _ h
   match rs,hl,this with
   |[],hl,_=>exact Dp
   |[x],hl,_=>exact Dp
   |x::y::l,_,this=>exact⟨arr,rfl,this⟩
theorem FM{rs:List ResultVar}{out:R}(e:eS)(s:S)(h:Ci P rs out e s):
 kY P rs (fun v o _=>∃vs rs,v=(match vs with|[v]=>v|vs=> .bS vs)/\bT o vs=some rs/\out= .ret rs) (fun v o _=>∃x,dA o v=some x/\out= .bF x) e s:=by
 have ret:Ci P rs out .ret s->kY P rs (fun v o _=>∃vs rs,v=(match vs with|[v]=>v|vs=> .bS vs)/\bT o vs=some rs/\out= .ret rs) (fun v o _=>∃x,dA o v=some x/\out= .bF x) .ret s:=by
  intro h
  obtain⟨vs,xs,h1,h2,h3⟩:=Ii h
  simp only[kY,h1]
  match vs,h2 with
  |[],h2=>exact⟨[],xs,rfl,h2,h3⟩
  |[v],h2=>exact⟨[v],xs,rfl,h2,h3⟩
  |v::v2::l,h2=>exact⟨v::v2::l,xs,rfl,h2,h3⟩
 cases e with
 |normal=>exact ret h
 |ret=>exact ret h
 |exit id=>exact h.elim
 |bF v=>exact Ij h
end
end
section
def Is{α:Type}(c:Bool)(x:α):Option α:=if c=true then some x else none
def one(v:V):Option ff:=some (v,[],[])
def zT(op:BinOp)(k:IntKind)(a b:Int):Option V:=
 match op with
 | .add=>some (.d (.int k (k.wrap (a+b))))
 | .sub=>some (.d (.int k (k.wrap (a - b))))
 | .mul=>some (.d (.int k (k.wrap (a*b))))
 | .quo=>if b=0 then none else some (.d (.int k (k.wrap (a.tdiv b))))
 | .rem=>if b=0 then none else some (.d (.int k (a.tmod b)))
 | .and=>(sN .and k a b).map fun r=> .d (.int k r)
 | .or=>(sN .or k a b).map fun r=> .d (.int k r)
 | .xor=>(sN .xor k a b).map fun r=> .d (.int k r)
 | .andNot=>(sN .andNot k a b).map fun r=> .d (.int k r)
 | .eql=>some (.d (.bool (a==b)))| .neq=>some (.d (.bool (a !=b)))| .lss=>some (.d (.bool (decide (a<b))))| .leq=>some (.d (.bool (decide (a<=b))))
 | .gtr=>some (.d (.bool (decide (b<a))))| .geq=>some (.d (.bool (decide (b<=a))))
 |_=>none
def mV(P:Program)(t:TypeId):Bool:=
 match P.underlying t with
 |some .bool=>true
 |_=>false
def xA(P:Program)(op:BinOp)(t:TypeId)(x y:V):Option V:=
 match x,y with
 | .d (.int k a), .d (.int k' b)=>if k=k' then zT op k a b else none
 | .d (.bool a), .d (.bool b)=>match op with
   | .eql=>Is (mV P t) (.d (.bool (a==b)))
   | .neq=>Is (mV P t) (.d (.bool (a !=b)))
   |_=>none
 | .d (.str a), .d (.str b)=>match op with
   | .eql=>some (.d (.bool (a==b)))
   | .neq=>some (.d (.bool (a !=b)))
   |_=>none
 |_,_=>none
def unF(op:UnOp)(x:V):Option V:=
 match op,x with
 | .neg, .d (.int k n)=>some (.d (.int k (k.wrap (-n))))
 | .not, .d (.bool b)=>some (.d (.bool !b))
 |_,_=>none
def oZ(c a b:V):Option V:=
 match c with
 | .d (.bool true)=>some a
 | .d (.bool false)=>some b
 |_=>none
def o6(o:Nat->ab)(x:V):Option (List D×List Nat):=
 match x with
 | .d (.sl es)=>some (es,[])
 | .bw=>some ([],[])
 | .pR es=>some (es,[])
 | .osl id ep=>match o id with
   | .arr gS _ _ es=>if ep=gS then some (es,[id])else none
   | .qT gS es=>if ep=gS then some (es,[id])else none
   |_=>none
 |_=>none
def Cq(P:Program)(t:TypeId)(o:Nat->ab)(x:V):Option ff:=
 match P.underlying t with
 |some (.slice _)=>match o6 o x with
  |some (es,rd)=>some (.d (.int .i64 es.length),[],rd)
  |none=>none
 |some .string=>match x with
  | .d (.str s)=>one (.d (.int .i64 s.length))
  |_=>none
 |some (.array n _)=>one (.d (.int .i64 n))
 |_=>none
def vW(P:Program)(e:TypeId)(es:List D)(i:Int)(rd:List Nat):Option ff:=
 if 0<=i then match es[i.toNat]? with
  |some y=>Is (y.cells.length==P.cellsOf e&&0<P.cellsOf e) (.pp y.cells 0,[],rd)
  |none=>none
 else none
def nD(o:Nat->ab)(x:V)(q:Nat):Option V:=
 match x with
 | .ptr id off=>Is (o id).bZ (.ptr id (off+q))
 | .pp cs off=>some (.pp cs (off+q))
 | .pe id ep j sz off=>if(o id).bW=some ep then some (.pe id ep j sz (off+q))else none
 |_=>none
def gC(P:Program)(o:Nat->ab)(t:TypeId)(x ix:V):Option ff:=
 match ix with
 | .d (.int _ i)=>match bQ P t with
   |some e=>match x with
    | .d (.sl es)=>vW P e es i []
    | .pR es=>vW P e es i []
    | .osl id ep=>match o id with
      | .arr gS _ sz es=>if ep=gS/\0<=i/\i.toNat<es.length/\sz=P.cellsOf e/\0<P.cellsOf e then some (.pe id ep i.toNat sz 0,[],[id])else none
      | .qT gS es=>if ep=gS then vW P e es i [id]else none
      |_=>none
    |_=>none
   |none=>match uS P t with
    |some (n,e)=>if 0<=i/\i<n/\(P.info? e).isSome=true then(nD o x (i.toNat*P.cellsOf e)).bind one else none
    |none=>none
 |_=>none
def gD(P:Program)(o:Nat->ab)(t:TypeId)(x:V)(f:Nat):Option V:=
 match bG P t f with
 |some q=>nD o x q
 |none=>none
def ma(P:Program)(o:Nat->ab)(t:TypeId)(x:V):Option ff:=
 match x with
 | .ptr id off=>match o id with
   | .row cs=>match ei P t cs off with
     |some v=>some (v,[],[id])
     |none=>none
   |_=>none
 | .pp cs off=>match ei P t (cs.map .d) off with
   |some v=>some (v,[],[])
   |none=>none
 | .pe id ep i sz off=>match o id with
   | .arr gS _ pS es=>if ep=gS/\sz=pS then match es[i]? with
    |some e=>match ei P t (e.cells.map .d) off with
     |some v=>some (v,[],[id])
     |none=>none
    |none=>none
     else none
   |_=>none
 |_=>none
def qm(P:Program)(o:Nat->ab)(t:TypeId)(x v:V):Option ff:=
 match x with
 | .ptr id off=>match o id with
   | .row cs=>match xe P t cs off v with
     |some cs'=>some (.bS [],[(id, .row cs')],[id])
     |none=>none
   |_=>none
 | .pe id ep i pS off=>match o id with
   | .arr gS ty sz es=>if ep=gS/\pS=sz then match es[i]?,dA o v with
    |some e,some y=>if y.cells.length=P.cellsOf t/\0<y.cells.length/\v.ids.all (· !=id)=true then match e.put off y.cells with
     |some e'=>some (.bS [],cc o v.ids++[(id, .arr ep ty sz (es.set i e'))],id::v.ids)
     |none=>none
     else none
    |_,_=>none
     else none
   |_=>none
 |_=>none
def fC(P:Program)(o:Nat->ab)(fr:Nat)(t:TypeId)(len:Nat)(parts:List (Nat×V)):Option ff:=
 match bQ P t with
 |some e=>if len=0/\parts.isEmpty=true/\0<P.cellsOf e then some (.osl fr 0,[(fr, .arr 0 e (P.cellsOf e) [])],[])else if parts.map (·.1)=List.range len/\(cn P e).isSome=true/\0<len/\0<P.cellsOf e/\len*P.cellsOf e<=2^24 then match bT o (parts.map (·.2))with
  |some ds=>if ds.all (fun x=>x.cells.length==P.cellsOf e)=true then some (.osl fr 0,cc o (V.bg (parts.map (·.2)))++[(fr, .arr 0 e (P.cellsOf e) ds)],V.bg (parts.map (·.2)))else none
  |none=>none
  else none
 |none=>none
def kZ(P:Program)(fr:Nat)(t:TypeId)(l c:V):Option ff:=
 match bQ P t with
 |some e=>match l,c with
  | .d (.int _ n), .d (.int _ m)=>if n=m/\0<=n/\0<P.cellsOf e/\P.bytesOf e*n.toNat<=2^47/\n.toNat<=2^47 then match zf P e with
   |some x=>some (.osl fr 0,[(fr, .arr 0 e (P.cellsOf e) (List.replicate n.toNat x))],[])
   |none=>none
    else none
  |_,_=>none
 |none=>none
def o7(P:Program)(o:Nat->ab)(fr:Nat)(ts:Array TypeId)(x y:V):Option ff:=
 match ts.toList with
 |[t,t']=>if t=t' then match bQ P t,o6 o y with
    |some e,some (new,rd)=>if 0<P.cellsOf e/\(cn P e).isSome=true/\new.all (fun z=>z.cells.length==P.cellsOf e)=true then match x with
     | .bw=>if new.length<=2^47/\new.length*P.bytesOf e<=2^47 then some (.osl fr 0,[(fr, .arr 0 e (P.cellsOf e) new)],rd)else none
     | .pR es=>if es.all (fun z=>z.cells.length==P.cellsOf e)=true then(if new=[]then some (.pR es,[],rd)else if es.length+new.length<=2^40/\(es.length+new.length)*P.bytesOf e<=2^40 then some (.osl fr 0,[(fr, .arr 0 e (P.cellsOf e) (es++new))],rd)else none)else none
     | .osl id ep=>match o id with
       | .arr gS ty sz es=>if ep=gS/\ty=e/\sz=P.cellsOf e/\es.length+new.length<=2^47/\(es.length+new.length)*P.bytesOf e<=2^47 then
        some (.osl id (ep+1),[(id, .arr (ep+1) ty sz (es++new))],id::rd)else none
       |_=>none
     |_=>none
     else none
    |_,_=>none
  else none
 |_=>none
def o8(isMax:Bool)(x y:V):Option V:=
 match x,y with
 | .d (.int k a), .d (.int k' b)=>if k=k' then some (.d (.int k (if isMax then(if b>a then b else a)else(if b<a then b else a))))else none
 |_,_=>none
def la(x:Option V):Option ff:=match x with|some v=>one v|none=>none
def o9(P:Program)(s:S)(fr:Nat)(b:Builtin)(args:List Operand)(ts:Array TypeId):Option ff:=
 match b,args with
 | .len,[x]=>match ts.toList with
   |[t]=>Cq P t s.o (s.ev x)
   |_=>none
 | .append,[x,y]=>match vz P fr ts (s.ev x) (s.ev y)with
   |some r=>some r
   |none=>o7 P s.o fr ts (s.ev x) (s.ev y)
 | .max,[x,y]=>la (o8 true (s.ev x) (s.ev y))
 | .min,[x,y]=>la (o8 false (s.ev x) (s.ev y))
 | .max,[x,y,z]=>la (HS (s.ev x) (s.ev y) (s.ev z))
 | .copy,[x,y]=>vy P s.o ts (s.ev x) (s.ev y)
 | .delete,[x,y]=>match ts.toList.head? with
   |some t=>mS P s.o t (s.ev x) (s.ev y)
   |none=>none
 | .cap,[x]=>LB P ts (s.ev x)
 |_,_=>none
def xB(P:Program)(t:TypeId)(parts:List (Nat×V)):Option V:=
 match cn P t,dW P t with
 |some z,some pl=>match qU pl z parts with
  |some cs=>some (oC cs)
  |none=>none
 |_,_=>none
def iJ(o:Nat->ab)(x:V):Option V:=
 match x with
 | .ptr id off=>Is (o id).bZ (.ptr id off)
 | .pp cs off=>some (.pp cs off)
 | .func (.func f) first cap=>some (.func (.func f) first cap)
 |_=>none
def ta(P:Program)(t:TypeId):Bool:=
 match P.underlying t with
 |some (.interface _)=>false
 |some _=>true
 |none=>false
def It(P:Program)(t:TypeId)(x:V):Option V:=
 Is (ta P t) (match x with
  | .d y=> .d (.iface t y)
  |v=> .iface t v)
def eM(P:Program)(o:Nat->ab)(op:BinOp)(t:TypeId)(nM:Bool)(x y:V):Option ff:=
 match xA P op t x y with
 |some v=>one v
 |none=>qe P o op t nM x y
def Ff(op:UnOp)(x:V):Option V:=
 match op,x with
 | .not, .eN=>some .eN
 |op,x=>unF op x
def fK(P:Program)(s:S)(fr:Nat)(op:Op):Option ff:=
 match op with
 | .move x=>one (s.ev x)
 | .assign x=>one (s.ev x)
 | .pick c a b=>la (oZ (s.ev c) (s.ev a) (s.ev b))
 | .alloc t=>match cn P t with
   |some cs=>some (.ptr fr 0,[(fr, .row cs)],[])
   |none=>none
 | .box _ x=>match(s.ev x).cells with
   |some cs=>some (.ptr fr 0,[(fr, .row cs)],[])
   |none=>none
 | .build t parts=>la (xB P t (parts.toList.map fun p=>(p.1,s.ev p.2)))
 | .buildSlice t len parts=>fC P s.o fr t len (parts.toList.map fun p=>(p.1,s.ev p.2))
 | .load t x=>ma P s.o t (s.ev x)
 | .store t x v=>qm P s.o t (s.ev x) (s.ev v)
 | .nilCheck x=>la (iJ s.o (s.ev x))
 | .binOp op t x y _=>eM P s.o op t (isConst x||isConst y) (s.ev x) (s.ev y)
 | .unOp op _ x=>la (Ff op (s.ev x))
 | .convert u t x=>match P.underlying u,rN P t,s.ev x with
   |some _,some k, .d (.int _ n)=>one (.d (.int k (k.wrap n)))
   |_,_,_=>none
 | .makeInterface t x=>la (It P t (s.ev x))
 | .makeFunc fn first cap=>one (.func fn (first.toList.map s.ev) (cap.toList.map s.ev))
 | .makeSlice t l c=>kZ P fr t (s.ev l) (s.ev c)
 | .fieldAddr t x f=>la (gD P s.o t (s.ev x) f)
 | .indexAddr t x i=>gC P s.o t (s.ev x) (s.ev i)
 | .extract x i=>match s.ev x with
   | .bS vs=>match vs[i]? with
     |some v=>one v
     |none=>none
   |_=>none
 | .call c=>match c.callee with
   | .builtin b=>o9 P s fr b c.args.toList c.argTypes
   |_=>none
 | .slice t x lo hi mx=>qb P s.o t (s.ev x) (lo.map s.ev) (hi.map s.ev) (mx.map s.ev)
 | .field t x f=>la (sP P t (s.ev x) f)
 | .index t x i=>la (sQ P t (s.ev x) (s.ev i))
 | .typeAssert x _ t ok=>la (oF P t ok (s.ev x))
 | .makeMap t none=>lR P fr t
 | .lookup t m k ok=>gQ P s.o t (s.ev m) (s.ev k) ok
 | .mapUpdate t m k v=>eW P s.o t (s.ev m) (s.ev k) (s.ev v)
 | .insert t m k v=>eW P s.o t (s.ev m) (s.ev k) (s.ev v)
 | .range t x=>lS P s.o fr t (s.ev x)
 | .next x str=>nz s.o (s.ev x) str
 | .entry x=>lT s.o (s.ev x)
 |_=>none
section
variable {P:Program}{s:S}{fr:Nat}{v:V}{Δ:List (Nat×ab)}{rd:List Nat}{o:Nat->ab}{K:V->List (Nat×ab)->List Nat->Prop}
theorem qn{α:Type}{c:Bool}{x y:α}(h:Is c x=some y):c=true/\x=y:=by
 unfold Is at h;split at h
 ·injection h with h;exact⟨by assumption,h⟩
 ·cases h
theorem jQ{x:V}{r:ff}(h:one x=some r):r=(x,[],[]):=by unfold one at h;injection h with h;exact h.symm
theorem iB{x:Option V}{r:ff}(h:la x=some r):∃v,x=some v/\r=(v,[],[]):=by
 unfold la at h;split at h
 ·exact⟨_,rfl,jQ h⟩
 ·cases h
theorem Cr{x:V}{es:List D}{rd:List Nat}(h:o6 o x=some (es,rd)):ej o x=some es/\rd=x.ids:=by
 unfold o6 at h
 split at h
 ·exact Q2
 ·exact Q2
 ·exact Q2
 ·split at h
  ·rename_i ho
   split at h
   ·rename_i e;simp at h;obtain⟨rfl,rfl⟩:=h;exact⟨by simp[ej,dA,ho,e],rfl⟩
   ·cases h
  ·rename_i ho
   split at h
   ·rename_i e;simp at h;obtain⟨rfl,rfl⟩:=h;exact⟨by simp[ej,dA,ho,e],rfl⟩
   ·cases h
  ·cases h
 ·cases h
theorem FN{op:BinOp}{k:IntKind}{a b:Int}{v:V}(h:zT op k a b=some v){K:V->Prop}(hK:K v):Lz op k a b K:=by
 cases op<;>simp only[zT]at h<;>simp only[Lz]
 case quo=>split at h
           ·cases h
           ·exact Q1
 case rem=>split at h
           ·cases h
           ·exact Q1
 case and=>simp only[Option.map_eq_some_iff]at h;obtain⟨r,h1,rfl⟩:=h;exact⟨r,h1,hK⟩
 case or=>simp only[Option.map_eq_some_iff]at h;obtain⟨r,h1,rfl⟩:=h;exact⟨r,h1,hK⟩
 case xor=>simp only[Option.map_eq_some_iff]at h;obtain⟨r,h1,rfl⟩:=h;exact⟨r,h1,hK⟩
 case andNot=>simp only[Option.map_eq_some_iff]at h;obtain⟨r,h1,rfl⟩:=h;exact⟨r,h1,hK⟩
 case shl=>cases h
 case shr=>cases h
 case eql=>injection h with h;subst h;exact⟨_,rfl,hK⟩
 case neq=>injection h with h;subst h;exact⟨_,rfl,hK⟩
 case lss=>injection h with h;subst h;exact⟨_,rfl,hK⟩
 case leq=>injection h with h;subst h;exact⟨_,rfl,hK⟩
 case gtr=>injection h with h;subst h;exact⟨_,rfl,hK⟩
 case geq=>injection h with h;subst h;exact⟨_,rfl,hK⟩
 all_goals (injection h with h;subst h;exact hK)
theorem FO{op:BinOp}{t:TypeId}{x y v:V}(h:xA P op t x y=some v){K:V->Prop}(hK:K v):HO P op t x y K:=by
 unfold xA at h
 unfold HO
 split at h
 ·split at h
  ·exact⟨by assumption,FN h hK⟩
  ·cases h
 ·have hb:mV P t=true->P.underlying t=some .bool:=by
   unfold mV;intro h;split at h
   ·assumption
   ·cases h
  split at h
  ·obtain⟨h1,rfl⟩:=qn h;exact⟨hb h1,hK⟩
  ·obtain⟨h1,rfl⟩:=qn h;exact⟨hb h1,hK⟩
  ·cases h
 ·split at h
  ·exact Hj
  ·exact Hj
  ·cases h
 ·cases h
theorem Cs{c a b v:V}(h:oZ c a b=some v){K:V->Prop}(hK:K v):zd c a b K:=by
 unfold oZ at h
 unfold zd
 split at h
 ·injection h with h;subst h;exact⟨fun _=>hK,(fun h=>by cases h)⟩
 ·injection h with h;subst h;exact⟨(fun h=>by cases h),fun _=>hK⟩
 ·cases h
theorem tc{x y:V}{q:Nat}(h:nD o x q=some y):(∃id off,x= .ptr id off/\(o id).bZ=true/\y= .ptr id (off+q))\/(∃cs off,x= .pp cs off/\y= .pp cs (off+q))\/
 (∃id ep j sz off,x= .pe id ep j sz off/\(o id).bW=some ep/\y= .pe id ep j sz (off+q)):=by
 unfold nD at h
 split at h
 ·obtain⟨h1,rfl⟩:=qn h;exact .inl ⟨_,_,rfl,h1,rfl⟩
 ·injection h with h;exact .inr (.inl ⟨_,_,rfl,h.symm⟩)
 ·split at h
  ·injection h with h;exact .inr (.inr ⟨_,_,_,_,_,rfl,by assumption,h.symm⟩)
  ·cases h
 ·cases h
theorem sK{e:TypeId}{es:List D}{i:Int}{rd:List Nat}{r:ff}(h:vW P e es i rd=some r):
 0<=i/\∃y,es[i.toNat]? =some y/\y.cells.length=P.cellsOf e/\0<P.cellsOf e/\r=(.pp y.cells 0,[],rd):=by
 unfold vW at h
 split at h
 ·rename_i h0
  split at h
  ·rename_i y hy
   obtain⟨h1,rfl⟩:=qn h
   simp only[Bool.and_eq_true,beq_iff_eq,decide_eq_true_eq]at h1
   exact⟨h0,y,hy,h1.1,h1.2,rfl⟩
  ·cases h
 ·cases h
theorem rS{t:TypeId}{x ix:V}(h:gC P o t x ix=some (v,Δ,rd))(hK:K v Δ rd):iU P o t x ix fun v rd=>K v [] rd:=by
 unfold gC at h
 unfold iU
 split at h
 ·simp only
  split at h
  ·rename_i e ht
   simp only[ht]
   split at h
   ·exact WW
   ·exact WW
   ·split at h
    ·rename_i ho
     split at h
     ·rename_i hc
      simp only[Option.some.injEq,Prod.mk.injEq]at h;obtain⟨rfl,rfl,rfl⟩:=h
      simp only[ho]
      exact⟨hc.1,hc.2.1,hc.2.2.1,hc.2.2.2.1,hc.2.2.2.2,hK⟩
     ·cases h
    ·rename_i ho
     split at h
     ·rename_i hc
      obtain⟨h0,y,h1,h2,h3,h4⟩:=sK h
      simp only[Prod.mk.injEq]at h4;obtain⟨rfl,rfl,rfl⟩:=h4
      simp only[ho]
      exact⟨hc,h0,y,h1,h2,h3,hK⟩
     ·cases h
    ·cases h
   ·cases h
  ·rename_i ht
   simp only[ht]
   split at h
   ·rename_i n e ha
    simp only[ha]
    split at h
    ·rename_i hc
     simp only[Option.bind_eq_some_iff]at h
     obtain⟨y,hy,h1⟩:=h
     have h1:=jQ h1
     simp only[Prod.mk.injEq]at h1;obtain⟨rfl,rfl,rfl⟩:=h1
     refine⟨hc.1,hc.2.1,hc.2.2, ?_⟩
     rcases tc hy with⟨_,_,rfl,h2,rfl⟩|⟨_,_,rfl,rfl⟩|⟨_,_,_,_,_,rfl,h2,rfl⟩
     ·exact⟨h2,hK⟩
     ·exact hK
     ·exact⟨h2,hK⟩
    ·cases h
   ·cases h
 ·cases h
theorem rT{t:TypeId}{x y:V}{f:Nat}(h:gD P o t x f=some y){K:V->Prop}(hK:K y):iV P o t x f K:=by
 unfold gD at h
 unfold iV
 split at h
 ·rename_i q hq
  simp only[hq]
  rcases tc h with⟨_,_,rfl,h2,rfl⟩|⟨_,_,rfl,rfl⟩|⟨_,_,_,_,_,rfl,h2,rfl⟩
  ·exact⟨h2,hK⟩
  ·exact hK
  ·exact⟨h2,hK⟩
 ·cases h
theorem FP{t:TypeId}{x:V}(h:Cq P t o x=some (v,Δ,rd))(hK:K v Δ rd):HP P t o x fun v rd=>K v [] rd:=by
 unfold Cq at h
 unfold HP
 split at h
 ·rename_i e hu
  simp only[hu]
  split at h
  ·rename_i es se hl
   simp only[Option.some.injEq,Prod.mk.injEq]at h;obtain⟨rfl,rfl,rfl⟩:=h
   unfold o6 at hl
   split at hl
   ·exact Hq
   ·exact Hq
   ·exact Hq
   ·split at hl
    ·rename_i ho
     split at hl
     ·rename_i hc;simp at hl;obtain⟨rfl,rfl⟩:=hl;simp only[ho];exact⟨hc,hK⟩
     ·cases hl
    ·rename_i ho
     split at hl
     ·rename_i hc;simp at hl;obtain⟨rfl,rfl⟩:=hl;simp only[ho];exact⟨hc,hK⟩
     ·cases hl
    ·cases hl
   ·cases hl
  ·cases h
 ·rename_i hu
  simp only[hu]
  split at h
  ·have h1:=jQ h;simp only[Prod.mk.injEq]at h1;obtain⟨rfl,rfl,rfl⟩:=h1;exact hK
  ·cases h
 ·rename_i hu
  simp only[hu]
  have h1:=jQ h;simp only[Prod.mk.injEq]at h1;obtain⟨rfl,rfl,rfl⟩:=h1;exact hK
 ·cases h
theorem Ct{t:TypeId}{x:V}(h:ma P o t x=some (v,Δ,rd))(hK:K v Δ rd):ze P o t x fun v rd=>K v [] rd:=by
 unfold ma at h
 unfold ze
 split at h
 ·split at h
  ·rename_i ho
   split at h
   ·rename_i hg
    exact W9
   ·cases h
  ·cases h
 ·split at h
  ·rename_i hg
   simp only[Option.some.injEq,Prod.mk.injEq]at h;obtain⟨rfl,rfl,rfl⟩:=h
   exact⟨_,hg,hK⟩
  ·cases h
 ·split at h
  ·rename_i ho
   split at h
   ·rename_i hc
    split at h
    ·rename_i e he
     split at h
     ·rename_i hg
      simp only[Option.some.injEq,Prod.mk.injEq]at h;obtain⟨rfl,rfl,rfl⟩:=h
      simp only[ho];exact⟨hc.1,hc.2,e,he,_,hg,hK⟩
     ·cases h
    ·cases h
   ·cases h
  ·cases h
 ·cases h
theorem zU{t:TypeId}{x y:V}(h:qm P o t x y=some (v,Δ,rd))(hK:K v Δ rd):sO P o t x y fun Δ rd=>K (.bS []) Δ rd:=by
 unfold qm at h
 unfold sO
 split at h
 ·split at h
  ·rename_i ho
   split at h
   ·rename_i hg
    exact W9
   ·cases h
  ·cases h
 ·split at h
  ·rename_i ho
   split at h
   ·rename_i hc
    split at h
    ·rename_i e z he hz
     split at h
     ·rename_i hl
      split at h
      ·rename_i e' hp
       simp only[Option.some.injEq,Prod.mk.injEq]at h;obtain⟨rfl,rfl,rfl⟩:=h
       simp only[ho]
       exact⟨hc.1,hc.2,e,he,z,hz,hl.1,hl.2.1,hl.2.2,e',hp,hK⟩
      ·cases h
     ·cases h
    ·cases h
   ·cases h
  ·cases h
 ·cases h
theorem qo{t:TypeId}{len:Nat}{parts:List (Nat×V)}(h:fC P o fr t len parts=some (v,Δ,rd))(hK:K v Δ rd):gU P o fr t len parts K:=by
 unfold fC at h
 unfold gU
 split at h
 ·rename_i e ht
  simp only[ht]
  split at h
  ·rename_i hc
   simp only[Option.some.injEq,Prod.mk.injEq]at h;obtain⟨rfl,rfl,rfl⟩:=h
   exact .inl ⟨hc.1,by simpa using hc.2.1,hc.2.2,hK⟩
  split at h
  ·rename_i hc
   refine .inr ?_
   split at h
   ·rename_i ds hd
    split at h
    ·rename_i hw
     simp only[Option.some.injEq,Prod.mk.injEq]at h;obtain⟨rfl,rfl,rfl⟩:=h
     refine⟨hc.1,hc.2.1,hc.2.2.1,hc.2.2.2.1,hc.2.2.2.2,ds,hd,fun x hx=> ?_,hK⟩
     simpa using List.all_eq_true.1 hw x hx
    ·cases h
   ·cases h
  ·cases h
 ·cases h
theorem rU{t:TypeId}{l c:V}(h:kZ P fr t l c=some (v,Δ,rd))(hK:K v Δ rd):iW P fr t l c fun v Δ=>K v Δ []:=by
 unfold kZ at h
 unfold iW
 split at h
 ·rename_i e ht
  split at h
  ·split at h
   ·rename_i hc
    split at h
    ·rename_i x hx
     simp only[Option.some.injEq,Prod.mk.injEq]at h;obtain⟨rfl,rfl,rfl⟩:=h
     simp only[ht]
     exact⟨hc.1,hc.2.1,hc.2.2.1,hc.2.2.2.1,hc.2.2.2.2,x,hx,hK⟩
    ·cases h
   ·cases h
  ·cases h
 ·cases h
theorem xC{ts:Array TypeId}{x y:V}(h:o7 P o fr ts x y=some (v,Δ,rd))(hK:K v Δ rd):oD P o fr ts x y K:=by
 unfold o7 at h
 unfold oD
 split at h
 ·rename_i t t' qX
  simp only[qX]
  split at h
  ·rename_i htt
   refine⟨htt, ?_⟩
   split at h
   ·rename_i e new se ht hl
    obtain⟨vI,rfl⟩:=Cr hl
    simp only[ht]
    split at h
    ·rename_i hc
     refine⟨new,vI,hc.1,hc.2.1,fun z hz=>by simpa using List.all_eq_true.1 hc.2.2 z hz, ?_⟩
     split at h
     ·split at h
      ·rename_i sV
       simp only[Option.some.injEq,Prod.mk.injEq]at h;obtain⟨rfl,rfl,rfl⟩:=h
       exact⟨sV.1,sV.2,hK⟩
      ·cases h
     ·split at h
      ·rename_i DG
       refine⟨fun z hz=>by simpa using List.all_eq_true.1 DG z hz, ?_⟩
       split at h
       ·rename_i hn
        simp only[Option.some.injEq,Prod.mk.injEq]at h;obtain⟨rfl,rfl,rfl⟩:=h
        rw[if_pos hn];exact hK
       ·rename_i hn
        split at h
        ·rename_i sV
         simp only[Option.some.injEq,Prod.mk.injEq]at h;obtain⟨rfl,rfl,rfl⟩:=h
         rw[if_neg hn];exact⟨sV.1,sV.2,hK⟩
        ·cases h
      ·cases h
     ·split at h
      ·rename_i ho
       split at h
       ·rename_i sV
        simp only[Option.some.injEq,Prod.mk.injEq]at h;obtain⟨rfl,rfl,rfl⟩:=h
        simp only[ho]
        exact⟨sV.1,sV.2.1,sV.2.2.1,sV.2.2.2.1,sV.2.2.2.2,hK⟩
       ·cases h
      ·cases h
     ·cases h
    ·cases h
   ·cases h
  ·cases h
 ·cases h
theorem te{x y:V}(h:iJ o x=some y){K:V->Prop}(hK:K y):kn o x K:=by
 unfold iJ at h
 unfold kn
 split at h
 ·obtain⟨h2,rfl⟩:=qn h;exact⟨h2,hK⟩
 ·exact Hj
 ·exact Hj
 ·cases h
theorem Iu{op:UnOp}{x y:V}(h:unF op x=some y){K:V->Prop}(hK:K y):Xi op x K:=by
 unfold unF at h
 unfold Xi
 split at h
 ·injection h with h;subst h;simp only;rw[Int.zero_sub];exact hK
 ·exact Hj
 ·cases h
theorem w8{m:Bool}{x y v:V}(h:o8 m x y=some v){K:V->Prop}(hK:K v):mQ m [x,y] K:=by
 unfold o8 at h
 unfold mQ
 split at h
 ·split at h
  ·exact Q1
  ·cases h
 ·cases h
theorem zV{op:Op}(h:fK P s fr op=some (v,Δ,rd))(hK:K v Δ rd):Ou P s fr op K:=by
 cases op<;>simp only[fK]at h<;>simp only[Ou]<;>try (cases h;done)
 case move x=>have h:=jQ h;simp only[Prod.mk.injEq]at h;obtain⟨rfl,rfl,rfl⟩:=h;exact hK
 case assign x=>have h:=jQ h;simp only[Prod.mk.injEq]at h;obtain⟨rfl,rfl,rfl⟩:=h;exact hK
 case pick c a b=>
  obtain⟨x,h1,h⟩:=iB h;simp only[Prod.mk.injEq]at h;obtain⟨rfl,rfl,rfl⟩:=h
  exact Cs h1 hK
 case alloc t=>
  split at h
  ·rename_i cs hz;simp only[Option.some.injEq,Prod.mk.injEq]at h;obtain⟨rfl,rfl,rfl⟩:=h;exact⟨cs,hz,hK⟩
  ·cases h
 case box t x=>
  split at h
  ·rename_i cs hz;simp only[Option.some.injEq,Prod.mk.injEq]at h;obtain⟨rfl,rfl,rfl⟩:=h;exact⟨cs,hz,hK⟩
  ·cases h
 case build t parts=>
  obtain⟨x,h1,h⟩:=iB h;simp only[Prod.mk.injEq]at h;obtain⟨rfl,rfl,rfl⟩:=h
  unfold xB at h1
  split at h1
  ·rename_i z pl hz hp
   split at h1
   ·rename_i cs hc;injection h1 with h1;subst h1;exact⟨z,pl,cs,hz,hp,hc,hK⟩
   ·cases h1
  ·cases h1
 case buildSlice t len parts=>exact qo h hK
 case load t x=>exact Ct h hK
 case store t x y=>exact zU h hK
 case nilCheck x=>
  obtain⟨y,h1,h⟩:=iB h;simp only[Prod.mk.injEq]at h;obtain⟨rfl,rfl,rfl⟩:=h
  exact te h1 hK
 case binOp op t x y yt=>
  unfold eM at h
  split at h
  ·rename_i z h1
   have h:=jQ h;simp only[Prod.mk.injEq]at h;obtain⟨rfl,rfl,rfl⟩:=h
   exact .inl (FO h1 hK)
  ·right;simp only[h,cK];exact hK
 case unOp op t x=>
  obtain⟨z,h1,h⟩:=iB h;simp only[Prod.mk.injEq]at h;obtain⟨rfl,rfl,rfl⟩:=h
  unfold Ff at h1
  split at h1
  ·rename_i hx;injection h1 with h1;subst h1;exact .inr ⟨rfl,hx,hK⟩
  ·exact .inl (Iu h1 hK)
 case slice t x lo hi mx=>simp only[h,cK];exact hK
 case field t x f=>
  exact Ra
 case typeAssert x xt t ok=>
  exact Ra
 case makeMap t r=>
  cases r with
  |none=>simp only[h,cK];exact hK
  |some x=>cases h
 case lookup t m k ok=>simp only[h,cK];exact hK
 case mapUpdate t m k v=>simp only[h,cK];exact hK
 case insert t m k v=>simp only[h,cK];exact hK
 case index t x i=>
  exact Ra
 case convert u t x=>
  split at h
  ·rename_i d k k' n hu hk hx
   have h:=jQ h;simp only[Prod.mk.injEq]at h;obtain⟨rfl,rfl,rfl⟩:=h
   exact⟨by rw[hu];rfl,by simp only[hk,hx];exact hK⟩
  ·cases h
 case makeInterface t x=>
  obtain⟨z,h1,h⟩:=iB h;simp only[Prod.mk.injEq]at h;obtain⟨rfl,rfl,rfl⟩:=h
  obtain⟨h2,rfl⟩:=qn h1
  refine⟨?_, ?_⟩
  ·unfold ta at h2
   cases hd:P.underlying t with
   |none=>simp[hd]at h2
   |some d=>exact⟨d,rfl,by cases d<;>simp_all⟩
  ·split
   ·rename_i y hy;simp only[hy]at hK;exact hK
   ·rename_i hy
    split at hK
    ·rename_i y hy';exact absurd hy' (hy y)
    ·exact hK
 case makeFunc fn first cap=>have h:=jQ h;simp only[Prod.mk.injEq]at h;obtain⟨rfl,rfl,rfl⟩:=h;exact hK
 case makeSlice t l c=>
  exact rU h hK
 case fieldAddr t x f=>
  obtain⟨z,h1,h⟩:=iB h;simp only[Prod.mk.injEq]at h;obtain⟨rfl,rfl,rfl⟩:=h
  exact rT h1 hK
 case indexAddr t x i=>
  exact rS h hK
 case extract x i=>
  split at h
  ·rename_i vs hv
   split at h
   ·rename_i u hu
    have h:=jQ h;simp only[Prod.mk.injEq]at h;obtain⟨rfl,rfl,rfl⟩:=h
    simp only[hv];exact⟨_,hu,hK⟩
   ·cases h
  ·cases h
 case call c=>
  obtain⟨Ig,args,ts⟩:=c
  cases Ig<;>simp only at h|- <;>try (cases h;done)
  rename_i b
  unfold o9 at h
  unfold sR
  split at h
  ·rename_i x ha
   simp only[ha]
   split at h
   ·rename_i t qX;exact⟨t,qX,FP h hK⟩
   ·cases h
  ·rename_i x y ha
   simp only[ha]
   split at h
   ·rename_i r hr
    simp only[Option.some.injEq]at h
    subst h
    exact .inl (by rw[hr];exact hK)
   ·exact .inr (xC h hK)
  ·rename_i x y ha
   exact W0
  ·rename_i x y ha
   exact W0
  ·rename_i x y z ha
   simp only[ha]
   obtain⟨v0,h1,h⟩:=iB h;simp only[Prod.mk.injEq]at h;obtain⟨rfl,rfl,rfl⟩:=h
   exact Wk
  ·rename_i x y ha
   simp only[ha,h,cK];exact hK
  ·rename_i x y ha
   simp only[ha]
   split at h
   ·rename_i t ht;exact⟨t,ht,by simp only[h,cK];exact hK⟩
   ·cases h
  ·rename_i x ha
   simp only[ha,h,cK];exact hK
  ·cases h
 case range t x=>simp only[h,cK];exact hK
 case next x str=>left;simp only[h,cK];exact hK
 case entry x=>simp only[h,cK];exact hK
end
end
section
def tf(P:Program)(g:FuncId)(ds:List D)(o o1 oa:Nat->ab)(K:V->(Nat->ab)->Prop)(X:V->(Nat->ab)->Prop):Prop:=
 ∃out,aW P g ds out/\((match out with| .ret rs=>K (iE rs) o1| .bF x=>X (.d x) o1)\/(out.flat=true/\match out with| .ret rs=>K (iE rs) o| .bF x=>X (.d x) o)\/(out.l4=true/\match out with| .ret rs=>K (iE rs) oa| .bF x=>X (.d x) oa))
def rh(P:Program)(g:FuncId)(args:List V)(o:Nat->ab)(nx:Nat)(K:V->(Nat->ab)->Nat->Prop)(X:V->(Nat->ab)->Nat->Prop):Prop:=nu P g args o nx K X
theorem nu.mono {P:Program}{g:FuncId}{args:List V}{o:Nat->ab}{nx:Nat}{K X K' X':V->(Nat->ab)->Nat->Prop}(hK:∀v o n,K v o n->K' v o n)(hX:∀v o n,X v o n->X' v o n)(h:nu P g args o nx K X):nu P g args o nx K' X':=
 h.imp (de.mono hK hX) (de.mono hK hX)
@[congr] theorem OL {P:Program} {g g':FuncId} {ds XF:List D} {o o1 oa:Nat->ab} {K X} (h:g=g') (h':ds=XF):tf P g ds o o1 oa K X=tf P g' XF o o1 oa K X:=by subst h;subst h';rfl
@[congr] theorem OM {P:Program} {g g':FuncId} {bX XG:List V} {o:Nat->ab} {nx:Nat} {K X} (h:g=g') (h':bX=XG):rh P g bX o nx K X=rh P g' XG o nx K X:=by subst h;subst h';rfl
def ON(P:Program)(g:FuncId)(args:List V)(o:Nat->ab)(nx:Nat)(K X:V->(Nat->ab)->Nat->Prop):Prop:=
 (∃ds,bT o args=some ds/\tf P g ds o (put o (cc o (V.bg args))) (put o (qa o (V.bg args))) (fun v o'=>K v o' (nx+1)) (fun v o'=>X v o' (nx+1)))\/de P g args o nx K X
def G3(P:Program)(s:S)(o:bL)(X:V->S->Prop)(K:S->Prop):Prop:=
 match o.op with
 | .call c=>match c.callee with
   | .value f=>match s.ev f with
     | .func (.func g) first cap=>match bT s.o (first++c.args.toList.map s.ev++cap)with
       |some ds=>tf P g ds s.o (put s.o (cc s.o (V.bg (first++c.args.toList.map s.ev++cap)))) (put s.o (qa s.o (V.bg (first++c.args.toList.map s.ev++cap)))) (fun v o'=>K ⟨aY s.env o.dst v,o',s.nx+1⟩) (fun v o'=>X v ⟨s.env,o',s.nx+1⟩)\/
        rh P g (first++c.args.toList.map s.ev++cap) s.o s.nx (fun v o' nx'=>K ⟨aY s.env o.dst v,o',nx'⟩) (fun v o' nx'=>X v ⟨s.env,o',nx'⟩)
       |none=>rh P g (first++c.args.toList.map s.ev++cap) s.o s.nx (fun v o' nx'=>K ⟨aY s.env o.dst v,o',nx'⟩) (fun v o' nx'=>X v ⟨s.env,o',nx'⟩)
     | .iD id=>dq P id (c.args.toList.map s.ev) s.o s.nx (fun v o' nx'=>K ⟨aY s.env o.dst v,o',nx'⟩) (fun v o' nx'=>X v ⟨s.env,o',nx'⟩)
     |_=>False
   | .invoke r m=>match s6 P m (s.ev r)with
     |some (g,y)=>ON P g (y::c.args.toList.map s.ev) s.o s.nx (fun v o' nx'=>K ⟨aY s.env o.dst v,o',nx'⟩) (fun v o' nx'=>X v ⟨s.env,o',nx'⟩)
     |none=>False
   |_=>match fK P s s.nx o.op with
    |some (v,Δ,_)=>K ⟨aY s.env o.dst v,put s.o Δ,s.nx+1⟩
    |none=>False
 | .panic x=>match s.ev x with
   | .d (.iface t y)=>X (.d (.iface t y)) s
   | .iface t y=>X (.iface t y) s
   |_=>False
 | .next x str=>match nA s.o (s.ev x)with
   |some (id,l)=>str=false/\Dz id l fun v Δ _=>K ⟨aY s.env o.dst v,put s.o Δ,s.nx+1⟩
   |none=>match fK P s s.nx o.op with
    |some (v,Δ,_)=>K ⟨aY s.env o.dst v,put s.o Δ,s.nx+1⟩
    |none=>False
 |op=>match fK P s s.nx op with
  |some (v,Δ,_)=>K ⟨aY s.env o.dst v,put s.o Δ,s.nx+1⟩
  |none=>False
def nW(P:Program)(X:V->S->Prop)(K:S->Prop):List bL->S->Prop
 |[],s=>K s
 |o::l,s=>match o.gd with
  |none=>G3 P s o X (nW P X K l)
  |some (d,want)=>match s.env d with
   | .d (.bool b)=>if b=want then G3 P s o X (nW P X K l)else nW P X K l ⟨aY s.env o.dst (.bS []),s.o,s.nx+1⟩
   | .bS []=>nW P X K l ⟨aY s.env o.dst (.bS []),s.o,s.nx+1⟩
   |_=>False
def Iv(b:Nat)(body:(eS->S->Prop)->S->Prop)(Q:eS->S->Prop)(s:S):Prop:=
 ∃ (J:Nat->S->Prop),(∃m s1,bC b s s1/\J m s1)/\∀m s0,J m s0->body (fun e s=>match e with| .normal=>∃m' s1,m'<m/\bC b s s1/\J m' s1|e=>Q e s) s0
@[congr] theorem OO {b:Nat} {body Q} {s s':S} (h:s=s'):Iv b body Q s=Iv b body Q s':=by subst h;rfl
def pb(t:Bool)(A B:Prop):Prop:=(t=true->A)/\(t=false->B)
@[congr] theorem OP {t t':Bool} {A B:Prop} (h:t=t'):pb t A B=pb t' A B:=by subst h;rfl
@[simp] theorem tg (A B:Prop):pb true A B=A:=by simp[pb]
@[simp] theorem ri (A B:Prop):pb false A B=B:=by simp[pb]
section
variable {P:Program}{n b:Nat}
theorem DT{s:S}{o:bL}{o':Oper}{X X':V->S->Prop}{K K':S->Prop}(gr:o'.op=o.op)(cB:o'.dst=o.dst)(hd:fR n o'.dst)(hK:∀s,K s->K' s)(hX:∀v s,X v s->X' v s)(h:G3 P s o X K):opW P n s o' X' K':=by
 refine⟨hd, ?_⟩
 rw[cB,gr]
 unfold G3 at h
 have hs:∀ {op:Op},(match fK P s s.nx op with|some (v,Δ,_)=>K ⟨aY s.env o.dst v,put s.o Δ,s.nx+1⟩|none=>False)->Ou P s s.nx op fun v Δ _=>K' ⟨aY s.env o.dst v,put s.o Δ,s.nx+1⟩:=by
  intro op h
  split at h
  ·rename_i v Δ rd he;exact zV he (hK _ h)
  ·exact h.elim
 split at h
 ·rename_i c hc
  split at h
  ·rename_i f eB
   simp only[hc,eB]
   split at h
   ·rename_i g first cap hf
    unfold zK
    simp only[hf]
    unfold s5
    split at h
    ·rename_i ds eD
     rcases h with⟨out,hP,h|⟨kJ,h⟩|⟨kJ,h⟩⟩|h
     ·exact Od
     ·exact N4
     ·exact Xc
     ·exact Wp
    ·exact Wp
   ·rename_i id hf
    unfold zK
    simp only[hf]
    exact dq.mono (fun v o n h=>hK _ h) (fun v o n h=>hX _ _ h) h
   ·exact h.elim
  ·rename_i r m eB
   simp only[hc,eB]
   split at h
   ·rename_i g y hr
    simp only[hr]
    unfold s5
    rcases h with⟨ds,eD,out,hP,h|⟨kJ,h⟩|⟨kJ,h⟩⟩|h
    ·exact Od
    ·exact N4
    ·exact Xc
    ·exact .inr (.inr (.inr (.inl (de.mono (fun v o n h=>hK _ h) (fun v o n h=>hX _ _ h) h))))
   ·exact h.elim
  ·rename_i eB hinv
   rw[hc]at h|-
   obtain⟨Ig,args,ts⟩:=c
   cases Ig with
   |value f=>exact absurd rfl (eB f)
   |invoke r m=>exact absurd rfl (hinv r m)
   |_=>exact hs h
 ·rename_i x hx
  simp only[hx]
  split at h
  ·rename_i hv;simp only[hv];exact hX _ _ h
  ·rename_i hv;simp only[hv];exact hX _ _ h
  ·exact h.elim
 ·rename_i x str hx
  rw[hx]at h|-
  split at h
  ·rename_i id l hl
   exact .inr ⟨h.1,id,l,hl,fun e=>hK _ (h.2.1 e),fun i k x e=>hK _ (h.2.2 i k x e)⟩
  ·exact hs h
 ·rename_i hc hp uM
  have h2:=hs h
  cases hh:o.op<;>first
   |exact absurd hh (hc _)
   |exact absurd hh (hp _)
   |exact absurd hh (uM _ _)
   |(rw[hh]at h2;exact h2)
theorem iK{ops:Array Oper}{X X':V->S->Prop}{K K':S->Prop}(hK:∀s,K s->K' s)(hX:∀v s,X v s->X' v s):∀ (l:List Oper) (l':List bL) (s:S),ke n ops l=some l'->nW P X K l' s->xp P n ops X' K' l s
 |[],l',s,h,hr=>by simp[ke]at h;subst h;exact hK _ hr
 |o::l,l',s,h,hr=>by
  simp only[ke]at h
  split at h
  ·rename_i x xs hx DE
   injection h with h;subst h
   unfold HM at hx
   split at hx
   ·rename_i hd
    have cB:fR n o.dst:=by
     unfold BZ at hd;unfold fR
     split at hd<;>simp_all
    simp only[xp,xo]
    cases hg:o.guard with
    |none=>
     simp only[hg]at hx
     injection hx with hx;subst hx
     exact DT rfl rfl cB (fun s hs=>iK hK hX l xs s DE hs) hX hr
    |some p=>
     obtain⟨j,want⟩:=p
     simp only[hg]at hx
     cases OQ:qS ops j with
     |none=>simp[OQ]at hx
     |some d=>
      simp only[OQ]at hx
      injection hx with hx;subst hx
      simp only
      simp only[nW]at hr
      split at hr
      ·rename_i t ht
       simp only[OQ,ht]
       split at hr
       ·rename_i e
        exact⟨fun _=>DT rfl rfl cB (fun s hs=>iK hK hX l xs s DE hs) hX hr,fun h=>absurd e h⟩
       ·rename_i e
        exact⟨fun h=>absurd h e,fun _=>⟨cB,iK hK hX l xs _ DE hr⟩⟩
      ·rename_i ht
       simp only[OQ,ht]
       exact⟨cB,iK hK hX l xs _ DE hr⟩
      ·exact hr.elim
   ·cases hx
  ·cases h
end
end
section
mutual
def V.refs:V->List Nat
 | .ptr id _=>[id]| .osl id _=>[id]| .pe id _ _ _ _=>[id]| .vw id _ _=>[id]| .mp id=>[id]| .iD id=>[id]
 | .agg cs=>V.aL cs
 | .bS cs=>V.aL cs
 | .func _ a b=>V.aL a++V.aL b
 | .iface _ x=>x.refs
 |_=>[]
def V.aL:List V->List Nat
 |[]=>[]
 |v::vs=>v.refs++V.aL vs
end
mutual
theorem jc:∀ (v:V),∀id∈v.ids,id∈v.refs
 | .osl id _,j,h=>by simpa[V.ids,V.refs]using h
 | .agg cs,j,h=>by simp only[V.ids]at h;simp only[V.refs];exact kM cs j h
 | .iface _ x,j,h=>by simp only[V.ids]at h;simp only[V.refs];exact jc x j h
 | .mp _,j,h=>by simpa[V.ids,V.refs]using h
 | .d _,_,h| .bw,_,h| .bS _,_,h| .ptr _ _,_,h| .pe _ _ _ _ _,_,h| .pp _ _,_,h| .func _ _ _,_,h| .aa,_,h| .pR _,_,h| .vw _ _ _,_,h| .eN,_,h| .iD _,_,h=>by simp[V.ids]at h
theorem kM:∀ (vs:List V),∀id∈V.bg vs,id∈V.aL vs
 |[],j,h=>by simp[V.bg]at h
 |v::vs,j,h=>by
  simp only[V.bg,V.aL,List.mem_append]at h|-
  exact h.imp (jc v j) (kM vs j)
end
mutual
theorem cV{o o':Nat->ab}:∀ (v:V),(∀id∈v.refs,o' id=o id)->dA o' v=dA o v
 | .osl id ep,h=>by simp only[dA,h id (by simp[V.refs])]
 | .mp id,h=>by simp only[dA,h id (by simp[V.refs])]
 | .agg cs,h=>by simp only[dA,gE cs (by simpa[V.refs]using h)]
 | .iface t x,h=>by simp only[dA,cV x (by simpa[V.refs]using h)]
 | .d _,_| .bw,_| .bS _,_| .ptr _ _,_| .pe _ _ _ _ _,_| .pp _ _,_| .func _ _ _,_| .aa,_| .pR _,_| .vw _ _ _,_| .eN,_| .iD _,_=>by simp only[dA]
theorem gE{o o':Nat->ab}:∀ (vs:List V),(∀id∈V.aL vs,o' id=o id)->bT o' vs=bT o vs
 |[],_=>rfl
 |v::vs,h=>by
  simp only[bT,cV v (fun id au=>h id (by simp[V.aL,au])),gE vs (fun id au=>h id (by simp[V.aL,au]))]
end
theorem gx{o o':Nat->ab}{ids:List Nat}(h:∀id∈ids,o' id=o id):cc o' ids=cc o ids:=by
 rw[kS,kS]
 exact List.map_congr_left fun id au=>by rw[h id au]
def nr(s:S)(op:Op):List Nat:=
 match op with
 | .load _ x=>(s.ev x).refs
 | .nilCheck x=>(s.ev x).refs
 | .fieldAddr _ x _=>(s.ev x).refs
 | .indexAddr _ x _=>(s.ev x).refs
 | .store _ x v=>(s.ev x).refs++(s.ev v).refs
 | .buildSlice _ _ parts=>V.aL (parts.toList.map fun p=>s.ev p.2)
 | .binOp _ _ x y _=>(s.ev x).refs++(s.ev y).refs
 | .slice _ x _ _ _=>(s.ev x).refs
 | .lookup _ m k _=>(s.ev m).refs++(s.ev k).refs
 | .mapUpdate _ m k v=>(s.ev m).refs++((s.ev k).refs++(s.ev v).refs)
 | .insert _ m k v=>(s.ev m).refs++((s.ev k).refs++(s.ev v).refs)
 | .range _ x=>(s.ev x).refs
 | .next x _=>(s.ev x).refs
 | .entry x=>(s.ev x).refs
 | .call c=>match c.callee with
   | .builtin _=>V.aL (c.args.toList.map s.ev)
   | .value f=>match s.ev f with
     | .func _ first cap=>V.aL (first++c.args.toList.map s.ev++cap)
     |_=>[]
   |_=>[]
 |_=>[]
section
variable {P:Program}{s s':S}{fr:Nat}
theorem rj{o o':Nat->ab}(v:V)(h:∀id∈v.refs,o' id=o id):o6 o' v=o6 o v:=by
 cases v with
 |osl id ep=>simp only[o6,h id (by simp[V.refs])]
 |d x=>cases x<;>rfl
 |_=>rfl
theorem rk{o o':Nat->ab}(v:V)(q:Nat)(h:∀id∈v.refs,o' id=o id):nD o' v q=nD o v q:=by
 cases v<;>simp only[nD]<;>rw[h _ (by simp[V.refs])]
theorem Cu{o o':Nat->ab}(v:V)(h:∀id∈v.refs,o' id=o id):zh o' v=zh o v:=by
 have h1:ej o' v=ej o v:=by unfold ej;rw[cV v h]
 cases v<;>first|rfl|simp only[zh,h1]
theorem xD{o o':Nat->ab}(v:V)(h:∀id∈v.refs,o' id=o id):qc o' v=qc o v:=by
 cases v with
 |mp id=>simp only[qc,h id (by simp[V.refs])]
 |d x=>cases x<;>rfl
 |_=>rfl
theorem xE{o o':Nat->ab}(v:V)(h:∀id∈v.refs,o' id=o id):qd o' v=qd o v:=by
 cases v with
 |ptr id off=>simp only[qd,h id (by simp[V.refs])]
 |d x=>cases x<;>rfl
 |_=>rfl
theorem mb{o o':Nat->ab}(v:V)(h:∀id∈v.refs,o' id=o id):ny o' v=ny o v:=by
 cases v with
 |mp id=>simp only[ny,h id (by simp[V.refs])]
 |d x=>cases x<;>rfl
 |_=>rfl
theorem zW{o o':Nat->ab}(v:V)(h:∀id∈v.refs,o' id=o id):oG o' v=oG o v:=by
 cases v with
 |mp id=>simp only[oG,h id (by simp[V.refs])]
 |d x=>cases x<;>rfl
 |_=>rfl
theorem zX{o o':Nat->ab}(v:V)(str:Bool)(h:∀id∈v.refs,o' id=o id):nz o' v str=nz o v str:=by
 cases v with
 |ptr id off=>cases off<;>simp only[nz,h id (by simp[V.refs])]
 |_=>rfl
theorem xF{o o':Nat->ab}(v:V)(h:∀id∈v.refs,o' id=o id):lT o' v=lT o v:=by
 cases v with
 |ptr id off=>cases off<;>simp only[lT,h id (by simp[V.refs])]
 |_=>rfl
theorem xG{o o':Nat->ab}{fr:Nat}{t:TypeId}{P:Program}(v:V)(h:∀id∈v.refs,o' id=o id):lS P o' fr t v=lS P o fr t v:=by
 unfold lS
 cases v with
 |mp id=>simp only[h id (by simp[V.refs])]
 |d x=>cases x<;>rfl
 |_=>rfl
theorem xH{o o':Nat->ab}(v:V)(h:∀id∈v.refs,o' id=o id):nK o' v=nK o v:=by
 cases v with
 |ptr id off=>simp only[nK,h id (by simp[V.refs])]
 |_=>rfl
theorem xI{o o':Nat->ab}(v:V)(h:∀id∈v.refs,o' id=o id):nL o' v=nL o v:=by
 cases v with
 |vw id off n=>simp only[nL,h id (by simp[V.refs])]
 |_=>rfl
theorem Cv(op:Op)(hv:∀x∈op.operands,s'.ev x=s.ev x)(ho:∀id∈nr s op,s'.o id=s.o id):fK P s' fr op=fK P s fr op:=by
 cases op<;>simp only[fK]
 case move x=>rw[hv x (by simp[Op.operands])]
 case assign x=>rw[hv x (by simp[Op.operands])]
 case pick c a b=>rw[hv c (by simp[Op.operands]),hv a (by simp[Op.operands]),hv b (by simp[Op.operands])]
 case box t x=>rw[hv x (by simp[Op.operands])]
 case build t parts=>
  have:(parts.toList.map fun p=>(p.1,s'.ev p.2))=parts.toList.map fun p=>(p.1,s.ev p.2):=
   List.map_congr_left fun p hp=>by rw[hv p.2 (by simp only[Op.operands];simp;exact⟨p.1,by simpa using hp⟩)]
  rw[this]
 case buildSlice t len parts=>
  have:(parts.toList.map fun p=>(p.1,s'.ev p.2))=parts.toList.map fun p=>(p.1,s.ev p.2):=
   List.map_congr_left fun p hp=>by rw[hv p.2 (by simp only[Op.operands];simp;exact⟨p.1,by simpa using hp⟩)]
  rw[this]
  have e:(parts.toList.map fun p=>(p.1,s.ev p.2)).map (·.2)=parts.toList.map fun p=>s.ev p.2:=by simp[Function.comp_def]
  have h1:bT s'.o ((parts.toList.map fun p=>(p.1,s.ev p.2)).map (·.2))=bT s.o ((parts.toList.map fun p=>(p.1,s.ev p.2)).map (·.2)):=gE _ (by rw[e];exact ho)
  have h2:cc s'.o (V.bg ((parts.toList.map fun p=>(p.1,s.ev p.2)).map (·.2)))=cc s.o (V.bg ((parts.toList.map fun p=>(p.1,s.ev p.2)).map (·.2))):=
   gx fun id au=>ho id (by rw[e]at au;exact kM _ id au)
  simp only[fC,h1,h2]
 case load t x=>
  rw[hv x (by simp[Op.operands])]
  cases hx:s.ev x<;>simp only[ma]<;>rw[ho _ (by simp[nr,hx,V.refs])]
 case store t x y=>
  rw[hv x (by simp[Op.operands]),hv y (by simp[Op.operands])]
  have h1:dA s'.o (s.ev y)=dA s.o (s.ev y):=cV _ fun id au=>ho id nG
  have h2:cc s'.o (s.ev y).ids=cc s.o (s.ev y).ids:=gx fun id au=>ho id (by simp[nr,jc _ _ au])
  cases hx:s.ev x<;>simp only[qm]<;>rw[ho _ (by simp[nr,hx,V.refs])]
  simp only[h1,h2]
 case nilCheck x=>
  rw[hv x (by simp[Op.operands])]
  cases hx:s.ev x with
  |ptr id off=>simp only[iJ];rw[ho _ (by simp[nr,hx,V.refs])]
  |func fn a b=>cases fn<;>rfl
  |_=>rfl
 case binOp op t x y yt=>
  rw[hv x (by simp[Op.operands]),hv y (by simp[Op.operands])]
  have h1:zh s'.o (s.ev x)=zh s.o (s.ev x):=Cu _ fun id au=>ho id nG
  have h2:∀a b,vu P s'.o a b (s.ev x) (s.ev y)=vu P s.o a b (s.ev x) (s.ev y):=fun a b=>by
   have h3:∀id∈(s.ev x).refs,s'.o id=s.o id:=fun id au=>ho id nG
   have h4:=xD (s.ev x) h3
   have h5:=xE (s.ev x) h3
   unfold vu
   rw[h1,h4,h5]
  unfold eM qe
  simp only[h2]
 case slice t x lo hi mx=>
  rw[hv x (by simp[Op.operands])]
  have e1:lo.map s'.ev=lo.map s.ev:=by cases lo<;>simp[hv,Op.operands]
  have e2:hi.map s'.ev=hi.map s.ev:=by cases hi<;>simp[hv,Op.operands]
  have e3:mx.map s'.ev=mx.map s.ev:=by cases mx<;>simp[hv,Op.operands]
  rw[e1,e2,e3]
  have h3:∀id∈(s.ev x).refs,s'.o id=s.o id:=fun id au=>ho id nG
  have h1:ej s'.o (s.ev x)=ej s.o (s.ev x):=by unfold ej;rw[cV _ h3]
  have h2:cc s'.o (s.ev x).ids=cc s.o (s.ev x).ids:=gx fun id au=>h3 id (jc _ _ au)
  have h4:B1 P s'.o t (s.ev x) (lo.map s.ev) (hi.map s.ev) (mx.map s.ev)=B1 P s.o t (s.ev x) (lo.map s.ev) (hi.map s.ev) (mx.map s.ev):=by
   cases hx:s.ev x with
   |osl id ep=>simp only[B1,h3 id (by simp[hx,V.refs])]
   |_=>rfl
  unfold qb oE
  simp only[h1,h2,h4,xH _ h3]
 case field t x f=>rw[hv x (by simp[Op.operands])]
 case typeAssert x xt t ok=>rw[hv x (by simp[Op.operands])]
 case makeMap t r=>cases r<;>rfl
 case lookup t m k ok=>
  rw[hv m (by simp[Op.operands]),hv k (by simp[Op.operands])]
  have h3:∀id∈(s.ev m).refs,s'.o id=s.o id:=fun id au=>ho id nG
  have h1:dA s'.o (s.ev k)=dA s.o (s.ev k):=cV _ fun id au=>ho id nG
  unfold gQ
  simp only[h1,zW _ h3]
 case mapUpdate t m k v=>
  rw[hv m (by simp[Op.operands]),hv k (by simp[Op.operands]),hv v (by simp[Op.operands])]
  have h3:∀id∈(s.ev m).refs,s'.o id=s.o id:=fun id au=>ho id nG
  have h1:dA s'.o (s.ev k)=dA s.o (s.ev k):=cV _ fun id au=>ho id nG
  have h2:dA s'.o (s.ev v)=dA s.o (s.ev v):=cV _ fun id au=>ho id nG
  have h4:cc s'.o (s.ev v).ids=cc s.o (s.ev v).ids:=gx fun id au=>ho id (by simp[nr,jc _ _ au])
  unfold eW
  simp only[h1,h2,h4,mb _ h3]
 case insert t m k v=>
  rw[hv m (by simp[Op.operands]),hv k (by simp[Op.operands]),hv v (by simp[Op.operands])]
  have h3:∀id∈(s.ev m).refs,s'.o id=s.o id:=fun id au=>ho id nG
  have h1:dA s'.o (s.ev k)=dA s.o (s.ev k):=cV _ fun id au=>ho id nG
  have h2:dA s'.o (s.ev v)=dA s.o (s.ev v):=cV _ fun id au=>ho id nG
  have h4:cc s'.o (s.ev v).ids=cc s.o (s.ev v).ids:=gx fun id au=>ho id (by simp[nr,jc _ _ au])
  unfold eW
  simp only[h1,h2,h4,mb _ h3]
 case index t x i=>rw[hv x (by simp[Op.operands]),hv i (by simp[Op.operands])]
 case range t x=>
  rw[hv x (by simp[Op.operands])]
  exact xG _ fun id au=>ho id nG
 case next x str=>
  rw[hv x (by simp[Op.operands])]
  exact zX _ _ fun id au=>ho id nG
 case entry x=>
  rw[hv x (by simp[Op.operands])]
  exact xF _ fun id au=>ho id nG
 case unOp op t x=>rw[hv x (by simp[Op.operands])]
 case convert u t x=>rw[hv x (by simp[Op.operands])]
 case makeInterface t x=>rw[hv x (by simp[Op.operands])]
 case makeFunc fn first cap=>
  have h1:first.toList.map s'.ev=first.toList.map s.ev:=List.map_congr_left fun x hx=>hv x (by simp only[Op.operands];exact Array.mem_append.2 (.inl (Array.mem_toList_iff.1 hx)))
  have h2:cap.toList.map s'.ev=cap.toList.map s.ev:=List.map_congr_left fun x hx=>hv x (by simp only[Op.operands];exact Array.mem_append.2 (.inr (Array.mem_toList_iff.1 hx)))
  rw[h1,h2]
 case makeSlice t l c=>rw[hv l (by simp[Op.operands]),hv c (by simp[Op.operands])]
 case fieldAddr t x f=>
  rw[hv x (by simp[Op.operands])]
  simp only[gD]
  cases bG P t f<;>simp only
  rw[rk _ _ (by simpa[nr]using ho)]
 case indexAddr t x i=>
  rw[hv x (by simp[Op.operands]),hv i (by simp[Op.operands])]
  have h1:∀q,nD s'.o (s.ev x) q=nD s.o (s.ev x) q:=fun q=>rk _ _ (by simpa[nr]using ho)
  simp only[gC,h1]
  cases hx:s.ev x with
  |osl id ep=>simp only[ho id (by simp[nr,hx,V.refs])]
  |d y=>cases y<;>rfl
  |_=>rfl
 case extract x i=>rw[hv x (by simp[Op.operands])]
 case call c=>
  obtain⟨Ig,args,ts⟩:=c
  cases Ig<;>simp only
  rename_i b
  unfold o9
  have hm:∀x∈args.toList,s'.ev x=s.ev x:=fun x hx=>hv x Wi
  have hr:∀x∈args.toList,∀id∈(s.ev x).refs,s'.o id=s.o id:=by
   intro x hx id au
   refine ho id ?_
   simp only[nr]
   generalize args.toList=l at hx
   induction l with
   |nil=>cases hx
   |cons y l ih=>
    simp only[List.map_cons,V.aL,List.mem_append]
    rcases List.mem_cons.1 hx with rfl|hx
    ·exact .inl au
    ·exact .inr (ih hx)
  split
  ·rename_i x ha
   rw[ha]at hm hr
   rw[hm x (by simp)]
   have h1:∀t,Cq P t s'.o (s.ev x)=Cq P t s.o (s.ev x):=fun t=>by simp only[Cq,rj _ (hr x (by simp))]
   simp only[h1]
  ·rename_i x y ha
   rw[ha]at hm hr
   rw[hm x (by simp),hm y (by simp)]
   simp only[o7,rj _ (hr y (by simp))]
   cases vz P fr ts (s.ev x) (s.ev y)with
   |some r=>rfl
   |none=>
   dsimp only
   cases hx:s.ev x with
   |osl id ep=>simp only[hr x (by simp) id (by simp[hx,V.refs])]
   |_=>rfl
  ·rename_i x y ha
   rw[ha]at hm
   rw[hm x (by simp),hm y (by simp)]
  ·rename_i x y ha
   rw[ha]at hm
   rw[hm x (by simp),hm y (by simp)]
  ·rename_i x y z h;rw[hm x (by rw[h];simp),hm y (by rw[h];simp),hm z (by rw[h];simp)]
  ·rename_i x y ha
   rw[ha]at hm hr
   rw[hm x (by simp),hm y (by simp)]
   have h1:ej s'.o (s.ev y)=ej s.o (s.ev y):=by unfold ej;rw[cV _ (hr y (by simp))]
   have h2:cc s'.o (s.ev y).ids=cc s.o (s.ev y).ids:=gx fun id au=>hr y aI id (jc _ _ au)
   unfold vy
   simp only[h1,h2,xI _ (hr x (by simp))]
  ·rename_i x y ha
   rw[ha]at hm hr
   rw[hm x (by simp),hm y (by simp)]
   have h1:dA s'.o (s.ev y)=dA s.o (s.ev y):=cV _ (hr y aI)
   have h2:=mb _ (hr x aI)
   simp only[mS,h1,h2]
  ·rename_i x ha
   rw[ha]at hm
   rw[hm x (by simp)]
  ·rfl
end
end
end Go.Proofs.YtnkamdiiakdkgaaGreat
