/-
  A PART OF THE PROOF. Conditions: none.
-/
import Derived.Test.YtonbelhklnmjnaaGreatLp6
set_option linter.unusedSimpArgs false
set_option linter.unusedVariables false
namespace Go.Proofs.YtonbelhklnmjnaaGreat
section
section
variable {P:Program}{M:Nat->Prop}{φ:Place}{H:Hp}{w w':World}{cN:Place}{H0:Hp}{w0:World}{n b:Nat}{s:S}{a:Act}{cx:Cx}{ro:Option Nat}{k:Nat}
theorem iZ(hb:∀id,H0.us id->id<b)(uk:cx.rd=false->ro=none):∀ (c:Code) (Q:fX->S->Prop) (s:S) (φ:Place) (a:Act) (w:World),jO P n b cx.rd c Q s->cu M cN H0 w0 n cx φ s a w->c.tN P ro (Gt M cN H0 w0 n cx Q) a w:=by
 intro c
 induction c with
 |skip=>exact fun Q s φ a w h hs=>pF (k:=0) (wpIn_skip ⟨.normal,s,φ,h,hs,trivial⟩)
 |scope x ih=>exact fun Q s φ a w h hs=>yj (ih Q s φ a w h hs) (fun l a w ⟨xx,s',aN,hq,jv,hm⟩=>by cases xx<;>exact hm)
 |label l=>exact fun Q s φ a w h hs=>pF (k:=0) (wpIn_label ⟨.normal,s,φ,h,hs,trivial⟩)
 |exit id=>exact fun Q s φ a w h hs=>Cq ⟨.exit id,s,φ,h,hs,rfl⟩
 |ret=>exact fun Q s φ a w h hs=>Gu ⟨.ret,s,φ,h,hs,trivial⟩
 |goto l=>exact fun Q s φ a w h hs=>h.elim
 |refuse y=>exact fun Q s φ a w h hs=>h.elim
 |rangeFunc g ps x y=>
  intro Q s φ a w h hs
  obtain⟨h1,s',hle,h2⟩:=h
  rcases hle with rfl|hle
  ·exact ym hs h1 (uk h1) h2
  ·obtain⟨aN,jv⟩:=EN hb hs hle
   exact ym jv h1 (uk h1) h2
 |region id ops draw=>
  intro Q s φ a w h hs
  cases draw with
  |true=>exact pF (h M cN H0 w0 cx φ a w ro 0 hs)
  |false=>
   refine pF (k:=0) (wpIn_region_list (pE (K:=Q .normal) (X:=fun v s=>Q (.bP v) s) (fun s φ a w hk hs=>⟨.normal,s,φ,hk,hs,trivial⟩) (fun v s φ a w val hx hs hd=>⟨.bP v,s,φ,hx,hs,val,rfl,hd⟩) _ s φ a w h hs))
 |seq x y PH PI=>
  intro Q s φ a w h hs
  refine Ag (iC (PH _ s φ a w h hs) ?_)
  rintro e a' w' ⟨xx,s',aN,hq,jv,hm⟩
  cases e<;>cases xx<;>first|(exact hm.elim)|skip
  ·exact PI Q s' aN a' w' hq jv
  ·subst hm;exact⟨_,s',aN,hq,jv,rfl⟩
  ·exact KL
  ·exact KQ
 |cond c x y PH PI=>
  intro Q s φ a w h hs
  simp only[jO]at h
  have hc:=nm (M:=M) (φ:=φ) (H:=s.H) (w:=w) s a hs.env c
  split at h
  ·rename_i t hv
   rw[hv]at hc
   simp only[V.den,D.den]at hc
   cases t with
   |true=>exact qC hc (PH Q s φ a w (h.1 rfl) hs)
   |false=>exact qC hc (PI Q s φ a w (h.2 rfl) hs)
  ·rename_i hv
   rw[hv]at hc
   obtain⟨t,hc⟩:=hc
   cases t with
   |true=>exact qC hc (PH Q s φ a w h.1 hs)
   |false=>exact qC hc (PI Q s φ a w h.2 hs)
  ·exact h.elim
 |block id x ih=>
  intro Q s φ a w h hs
  refine Iu (iC (ih _ s φ a w h hs) ?_)
  rintro e a' w' ⟨xx,s',aN,hq,jv,hm⟩
  cases e<;>cases xx<;>first|(exact hm.elim)|skip
  ·exact⟨.normal,s',aN,hq,jv,trivial⟩
  ·subst hm
   simp only[Exit.inBlock]
   simp only[fY]at hq
   split
   ·rename_i he;rw[if_pos he]at hq;exact⟨.normal,s',aN,hq,jv,trivial⟩
   ·rename_i he;rw[if_neg he]at hq;exact⟨.exit _,s',aN,hq,jv,rfl⟩
  ·exact KL
  ·exact KQ
 |loop x ih=>
  intro Q s φ a w h hs
  obtain⟨J,⟨m0,s1,hle,hI⟩,mw⟩:=h
  obtain⟨jG,yn⟩:=EN hb hs hle
  refine Ah (fun m a w=>∃s φ,J m s/\cu M cN H0 w0 n cx φ s a w) ?_ m0 a w ⟨s1,jG,hI,yn⟩
  rintro m a w ⟨s,φ,hI,hs⟩
  refine iC (ih _ s φ a w (mw m s hI) hs) ?_
  rintro e a' w' ⟨xx,s',aN,hq,jv,hm⟩
  cases e<;>cases xx<;>first|(exact hm.elim)|skip
  ·obtain⟨m2,s2,cM,ab5,LX⟩:=hq
   obtain⟨Iv,OL⟩:=EN hb jv ab5
   exact⟨m2,cM,s2,Iv,LX,OL⟩
  ·subst hm;exact⟨_,s',aN,hq,jv,rfl⟩
  ·exact KL
  ·exact KQ
def LY(tmps:Array Value)(r:ResultVar):Sem Value:=
 match r with
 | .tmp t=>pure (tmps.getD t undef)
 | .cell p t=>do loadVar t (<- asAddr (tmps.getD p undef))
theorem um(qD:aE M φ s.H w)(eU:∀i,V.den (ay M φ s.H) φ s.H w (s.env i) (a.tmps.getD i undef)):∀ (rs:List ResultVar) (vs:List V),mq P s rs=some vs->
 ∃vals,(rs.mapM (LY a.tmps)).run P w= .ok vals w/\V.aM (ay M φ s.H) φ s.H w vs vals
 |[],vs,h=>by simp[mq]at h;subst h;exact⟨[],ao,rfl⟩
 | .tmp t::rs,vs,h=>by
   simp only[mq,Option.map_eq_some_iff]at h
   obtain⟨us,h1,rfl⟩:=h
   obtain⟨vals,h2,h3⟩:=um qD eU rs us h1
   exact⟨a.tmps.getD t undef::vals,by simp only[List.mapM_cons,LY,Sem.run_bind,Sem.run_pure,Result.andThen_ok,h2],_,_,rfl,eU t,h3⟩
 | .cell p t::rs,vs,h=>by
   simp only[mq]at h
   split at h
   ·rename_i id off hv
    split at h
    ·rename_i cs ho
     simp only[Option.bind_eq_some_iff,Option.map_eq_some_iff]at h
     obtain⟨v,h0,us,h1,rfl⟩:=h
     obtain⟨vals,h2,h3⟩:=um qD eU rs us h1
     have hx:=eU p
     rw[hv]at hx
     obtain⟨_,hu,hp⟩:=hx
     obtain⟨k,fk,gu⟩:=hp (by show(s.o id).cB=true;rw[ho];rfl)
     have bn:=qD.ok id
     have BB:s.H.o id= .row cs:=ho
     simp only[aX,BB]at bn
     obtain⟨b',eE,ty,g1,g2,g3,g4⟩:=bn
     rw[fk]at g1;simp at g1;subst g1
     obtain⟨val,h4,h5⟩:=qo (P:=P) h0 ⟨k,0,none⟩ eE.toList g3 g4 (fun j u hj=>qp g2 j u na) rfl
     rw[add_plain,Nat.zero_add]at h4
     have h6:(loadVar t ⟨k,off,none⟩).run P w= .ok val w:=by simpa[Instr.loadAt,Instr.sureAddr]using h4
     exact⟨val::vals,by simp only[List.mapM_cons,LY,gu,asAddr,Sem.run_bind,Sem.run_pure,Result.andThen_ok,h6,h2],val,vals,rfl,h5,h3⟩
    ·cases h
   ·cases h
theorem nz{fn:Func}{tmps:Array Value}{vals:List Value}
 (h:(fn.results.toList.mapM (LY tmps)).run P w= .ok vals w):
 (results fn tmps).run P w= .ok (if h:vals.toArray.size=1 then vals.toArray[0]else .tuple vals.toArray) w:=by
 have e:results fn tmps=(do let vs <- fn.results.mapM (LY tmps);pure (if h:vs.size=1 then vs[0]else .tuple vs)):=by
  unfold results
  congr 2
 rw[e,Array.mapM_eq_mapM_toList]
 simp only[Sem.run_bind,Sem.run_map,h,Result.andThen_ok,Sem.run_pure]
theorem lV{us:Nat->Prop}(φ:Place)(hM:∀k,M k->k<w.heap.size):aE M φ ⟨fun _=> .no,us⟩ w where
 ok id:=by simp[aX]
 fresh _ _:=rfl
 apart i j k hi:=by simp[ab.live]at hi
 ours k:=by rintro⟨id,h,_⟩;simp[ab.live]at h
 Br:=hM
theorem Iw{vals:Array Value}{m i:Nat}:(vals++Array.replicate m undef).getD i undef=(vals[i]?).getD undef:=by
 simp only[Array.getD_eq_getD_getElem?,Array.getElem?_append]
 split
 ·rfl
 ·rw[Array.getElem?_eq_none (xs:=vals) (by omega)]
  simp only[Array.getElem?_replicate]
  split<;>rfl
structure Ai (M:Nat->Prop) (cN:Place) (H0:Hp) (w0:World) (φ:Place) (s:S) (tmps:Array Value) (w:World):Prop where
 heap:aE M φ s.H w
 tr:Trans cN H0 w0 φ s.H w
 env:∀i,V.den (ay M φ s.H) φ s.H w (s.env i) (tmps.getD i undef)
theorem Ix{tmps:Array Value}(hs:Ai M cN H0 w0 φ s tmps w){r:Nat}(h1:w0.heap.size<=r)(h2:w.heap[r]? =some (.deferred (some [])))(h3: ¬df φ s.H r):
 Ai M cN H0 w0 φ s tmps {w with heap:=w.heap.setIfInBounds r (.deferred none)}:=by
 have ik:∀b,b≠r->(w.heap.setIfInBounds r (.deferred none))[b]? =w.heap[b]? :=fun b hb=>(MapKept.heap_set h2).2 b hb
 have xW:∀b,dw w b-> ¬ay M φ s.H b->(w.heap.setIfInBounds r (.deferred none))[b]? =w.heap[b]? /\ ¬ay M φ s.H b:=by
  intro b hc hn
  refine⟨ik b fun e=> ?_,hn⟩
  subst e
  rcases hc with⟨cs,ty,fz,hc⟩|⟨es,clock,hc⟩
  ·rw[h2]at hc;cases hc
  ·rw[h2]at hc;cases hc
 refine⟨⟨fun id=> ?_,hs.heap.fresh,hs.heap.apart,fun b hb=>⟨(hs.heap.ours b hb).1,by simpa using(hs.heap.ours b hb).2⟩,fun b hb=>by simpa using hs.heap.Br b hb⟩,⟨⟨hs.tr.keep.os,hs.tr.keep.tape,hs.tr.keep.output,by simpa using hs.tr.keep.size,fun j hj hm=> ?_⟩,hs.tr.grow,hs.tr.rel⟩,fun i=>V.lN xW (eF.refl _ _) _ _ (hs.env i)⟩
 ·exact aX.BZ xW (eF.refl _ _) rfl rfl (fun hl b hb=>ik b fun e=>h3 ⟨id,hl,e ▸ hb⟩) (hs.heap.ok id)
 ·rw[ik j (by omega)];exact hs.tr.keep.block j hj hm
theorem iD{fn:Func}{R:Ending->World->Prop}{u:FrameMode}(hu:u≠ .run){tmps tb:Array Value}{ds:List Deferred}(hR:∀w,Ai M cN H0 w0 φ s tb w->LeavesInM (ey none) k P fn tmps R ds u w):
 ∀ (ms:List Nat) (w:World),ms.Nodup->(∀r∈ms,w0.heap.size<=r/\w.heap[r]? =some (.deferred (some []))/\ ¬df φ s.H r)->Ai M cN H0 w0 φ s tb w->LeavesInM (ey none) k P fn tmps R (ms.map mark++ds) u w
 |[],w,_,_,hs=>hR w hs
 |r::ms,w,hn,hm,hs=>by
  obtain⟨h1,h2,h3⟩:=hm r ao
  obtain⟨Iy,OG⟩:=List.nodup_cons.1 hn
  refine⟨hu, .inl ⟨r,{w with heap:=w.heap.setIfInBounds r (.deferred none)},rfl, ?_,iD hu hR ms _ OG (fun r' z7=> ?_) (Ix hs h1 h2 h3)⟩⟩
  ·simp[Instr.takeDeferred,getObj,setObj,Sem.run,h2,Result.andThen]
  ·obtain⟨g1,g2,g3⟩:=hm r' (by simp[z7])
   exact⟨g1,((MapKept.heap_set h2).2 r' (fun e=>Iy (e ▸ z7))).trans g2,g3⟩
theorem cu.toB (hs:cu M cN H0 w0 n cx φ s a w):Ai M cN H0 w0 φ s a.tmps w:=⟨hs.heap,hs.tr,hs.env⟩
def my(P:Program)(rs:List ResultVar)(K X:V->(Nat->ab)->Nat->Prop)(e:fX)(s:S):Prop:=
 match e with
 | .normal| .ret=>match mq P s rs with
   |some [v]=>K v s.o s.nx
   |some vs=>K (.cg vs) s.o s.nx
   |none=>False
 | .bP v=>X v s.o s.nx
 | .exit _=>False
theorem Ct{P:Program}{rs:List ResultVar}{K X:V->(Nat->ab)->Nat->Prop}{s:S}(h:my P rs K X .ret s):∃vs,mq P s rs=some vs/\K (match vs with|[v]=>v|vs=> .cg vs) s.o s.nx:=by
 unfold my at h
 simp only at h
 split at h
 ·rename_i v h1;exact⟨[v],h1,h⟩
 ·rename_i vs h1 h2
  refine⟨vs,h2, ?_⟩
  split
  ·exact absurd rfl (h1 _)
  ·exact h
 ·exact h.elim
theorem Cu:∀ {vs:List V} {vals:List Value},V.aM (ay M φ H) φ H w vs vals->V.den (ay M φ H) φ H w (match vs with|[v]=>v|vs=> .cg vs) (if h:vals.toArray.size=1 then vals.toArray[0]else .tuple vals.toArray)
 |[],vals,h=>by simp only[V.aM]at h;subst h;exact⟨#[],rfl,rfl⟩
 |[v],vals,h=>by obtain⟨u,us,rfl,h1,h2⟩:=h;simp only[V.aM]at h2;subst h2;exact h1
 |v::y::l,vals,h=>by
  have h':=h
  obtain⟨u,us,rfl,h1,u2,us2,rfl,h2⟩:=h
  exact⟨(u::u2::us2).toArray,ao,by simpa using h'⟩
theorem BO{vals:Array Value}{m:Nat}{vs:List V}(hd:V.aM (ay M φ H) φ H w vs vals.toList)(i:Nat):V.den (ay M φ H) φ H w (cE vs i) ((vals++Array.replicate m undef).getD i undef):=by
 have hlen:=V.aJ _ _ hd
 simp only[cE,Iw]
 cases hx:vs[i]? with
 |none=>
  have:vals[i]? =none:=by
   rw[List.getElem?_eq_none_iff]at hx
   apply Array.getElem?_eq_none
   simp at hlen;omega
  simp only[List.getD_eq_getElem?_getD,hx,this]
  exact⟨#[],rfl,rfl⟩
 |some v=>
  obtain⟨u,hu,Ps⟩:=V.ec _ _ _ _ hd hx
  have BD:vals[i]? =some u:=by simpa using hu
  simp only[List.getD_eq_getElem?_getD,hx,BD,Option.getD_some]
  exact Ps
theorem nA{f:FuncId}{fn:Func}{c:Code}{args:Array Value}{w:World}{R:Ending->World->Prop}(hf:P.funcs[f]? =some fn)(hb:fn.body=some c)
 (h:c.tN P none (bodyPostM (ey none) k P fn R) {tmps:=args++Array.replicate (fn.ntmps - args.size) undef,defers:=[]} w):CallsIn (ey none) k P f args w R:=by
 have cM:f<P.funcs.size:=(Array.getElem?_eq_some_iff.1 hf).1
 refine⟨trivial,fun cs hr=> ?_⟩
 let b:Frame:={(default:Frame)with fn:=f,kind:= .normal,roundOf:=none}
 have mu:Frame.enter P f args .normal=b.atR {tmps:=args++Array.replicate (fn.ntmps - args.size) undef,defers:=[]} [.code c]:=by
  simp[Frame.enter,Frame.atR,hf,hb,b]
 obtain⟨e,a',w',hq,dC⟩:=h b [] cs rfl cM
 rw[<- mu]at dC
 cases e with
 |normal=>
  obtain⟨e',V6,fr',hR,hs,JZ,hl⟩:=leaves_stepsInM a'.defers .returning w' {b.atR a' []with mode:= .returning} cs rfl rfl rfl hf rfl (trivial:(ey none).fn f) hr hq
  exact⟨e',V6,fr',hR,ComesIn.of_steps (StepsIn.trans dC (.one (fenced_calm (n:=0) (fr:=b.atR a' []) trivial iB rfl) (stepR_end rfl))) hs,JZ,hl⟩
 |ret=>
  obtain⟨todo,RK⟩:=dC.1 rfl
  obtain⟨e',V6,fr',hR,hs,JZ,hl⟩:=leaves_stepsInM a'.defers .returning w' {b.atR a' todo with mode:= .returning} cs rfl rfl rfl hf rfl (trivial:(ey none).fn f) hr hq
  exact RJ
 |panic chain=>
  obtain⟨todo,RK⟩:=dC
  obtain⟨e',V6,fr',hR,hs,JZ,hl⟩:=leaves_stepsInM a'.defers (.panicking chain) w' {b.atR a' todo with mode:= .panicking chain} cs rfl rfl rfl hf rfl (trivial:(ey none).fn f) hr hq
  exact RJ
 |exit id=>exact hq.elim
 |goto l=>exact hq.elim
 |outgrown=>exact⟨.outgrown,w',b,hq,dC.resolve_left (by simp[b]),rfl,trivial⟩
def EP(P:Program)(l:Nat)(R:Ending->World->Prop):Exit->Act->World->Prop
 | .normal,_,w=>∃v w',(Instr.endRound l none).run P w= .ok v w'/\R (.returned v) w'
 | .ret,_,w=>∃v w',(Instr.endRound l (some .ret)).run P w= .ok v w'/\R (.returned v) w'
 | .exit id,_,w=>∃v w',(Instr.endRound l (some (.exit id))).run P w= .ok v w'/\R (.returned v) w'
 | .goto _,_,_=>False
 | .panic chain,a,w=>a.defers=[]/\R (.panicked chain) w
 | .outgrown,_,_=>False
theorem u9{l:Nat}{f:FuncId}{tmps:Array Value}{assign body:Code}{w:World}{R:Ending->World->Prop}(hf:f<P.funcs.size)
 (h:assign.tN P (some l) (Exit.then (fun oM j7=>∃sc,(Instr.beginRound l).run P j7= .ok () sc/\body.tN P (some l) (EP P l R) oM sc) (fun e a w=>match e with| .panic chain=>a.defers=[]/\R (.panicked chain) w|_=>False))
  {tmps:=tmps,defers:=[]} w):
 RoundIn Fence.wide n P l f tmps assign body w R:=by
 refine⟨trivial,fun c cs hr=> ?_⟩
 let b:Frame:={(default:Frame)with fn:=f,kind:= .normal,roundOf:=some l}
 have OM:Frame.round l f tmps assign body .normal=b.atR {tmps:=tmps,defers:=[]} [.code assign, .beginRound, .code body]:=by
  simp[Frame.round,Frame.atR,b]
 have calm:∀ (m:Machine),m.fenced P Fence.wide:=fun m=>fenced_wide P m
 have bP:∀ {a:Act} {w:World} {todo:List Item} {chain:List PanicEntry},a.defers=[]->step P (lone {b.atR a todo with mode:= .panicking chain} (c::cs) w)= .next (lone (c.raise chain) cs w):=by
  intro a w todo chain hd
  exact step_leave_panicked (fr:={b.atR a todo with mode:= .panicking chain}) ⟨rfl,hd,P.funcs[f],by show P.funcs[f]? =_;simp[hf]⟩
 obtain⟨e,oM,j7,hq,dC⟩:=h b [.beginRound, .code body] (c::cs) rfl hf
 rw[<- OM]at dC
 cases e with
 |normal=>
  obtain⟨sc,hbr,qE⟩:=hq
  have s1:StepsIn (Machine.fenced P Fence.wide) P (lone (b.atR oM [.beginRound, .code body]) (c::cs) j7) (lone (b.atR oM [.code body]) (c::cs) sc):= .one (calm _) (stepR_beginRound rfl hbr)
  obtain⟨WJ,ab3,EL,qB,lb⟩:=qE b [] (c::cs) rfl hf
  have dC:StepsIn (Machine.fenced P Fence.wide) P _ _:=dC
  cases WJ with
  |normal=>
   obtain⟨v,tO,cR,hR⟩:=qB
   have lb:StepsIn (Machine.fenced P Fence.wide) P _ _:=lb
   exact⟨.returned v,tO,hR,(StepsIn.trans dC s1).trans (StepsIn.trans lb (.one (calm _) (stepR_round_end rfl rfl cR)))⟩
  |ret=>
   obtain⟨v,tO,cR,hR⟩:=qB
   obtain⟨k₁,hs⟩:=lb.2 rfl
   have hs:StepsIn (Machine.fenced P Fence.wide) P _ _:=hs
   exact⟨.returned v,tO,hR,(StepsIn.trans dC s1).trans (StepsIn.trans hs (.one (calm _) (stepR_round_ret rfl rfl cR)))⟩
  |exit id=>
   obtain⟨v,tO,cR,hR⟩:=qB
   obtain⟨k₁,hk,hs⟩:=lb.2 rfl rfl
   have hs:StepsIn (Machine.fenced P Fence.wide) P _ _:=hs
   exact⟨.returned v,tO,hR,(StepsIn.trans dC s1).trans (StepsIn.trans hs (.one (calm _) (stepR_round_exit rfl rfl hk cR)))⟩
  |goto t=>exact qB.elim
  |panic chain=>
   obtain⟨todo,hs⟩:=lb
   have hs:StepsIn (Machine.fenced P Fence.wide) P _ _:=hs
   exact⟨.panicked chain,EL,qB.2,(StepsIn.trans dC s1).trans (StepsIn.trans hs (.one (calm _) (bP qB.1)))⟩
  |outgrown=>exact qB.elim
 |exit id=>exact hq.elim
 |goto t=>exact hq.elim
 |ret=>exact hq.elim
 |panic chain=>
  obtain⟨todo,hs⟩:=dC
  have hs:StepsIn (Machine.fenced P Fence.wide) P _ _:=hs
  exact⟨.panicked chain,j7,hq.2,StepsIn.trans hs (.one (calm _) (bP hq.1))⟩
 |outgrown=>exact hq.elim
theorem cK.Gx {f:FuncId}{fn:Func}{c:Code}{args:List V}{o:Nat->ab}{nx:Nat}{K X:V->(Nat->ab)->Nat->Prop}(hf:P.funcs[f]? =some fn)(hn:(fn.name== "runtime.NumGoroutine")=false)(qE:fn.body=some c)(hl:args.length<=fn.ntmps)
 (h:jO P fn.ntmps nx false c (my P fn.results.toList K X) ⟨cE args,o,nx⟩):cK P f args o nx K X:=by
 refine⟨⟨fn,hf,hn,by rw[qE];rfl⟩,fun M φ w vals hH hd=> ?_⟩
 have hlen:=V.aJ _ _ hd
 let s0:S:=⟨cE args,o,nx⟩
 let a0:Act:={tmps:=vals++Array.replicate (fn.ntmps - vals.size) undef,defers:=[]}
 have gH:cu M φ (hp o nx) w fn.ntmps ⟨[],false⟩ φ s0 a0 w:=by
  exact R7
 refine Cm (ro:=none) (k:=0) (nA hf qE (iC (iZ (P:=P) (H0:=hp o nx) (b:=nx) (cx:=⟨[],false⟩) (ro:=none) (fun id hu=>hu) (fun _=>rfl) c _ s0 φ a0 w h gH) ?_))
 rintro e a w' ⟨x,s,aN,hq,hs,hm⟩
 obtain⟨ms,g1,g2,g3,g4⟩:=hs.defers
 rw[List.append_nil]at g1
 have done:(x= .normal\/x= .ret)->LeavesInM (ey none) 0 P fn a.tmps (ns M φ (hp o nx) w K X) a.defers .returning w':=by
  intro hx
  have hq':my P fn.results.toList K X .ret s:=by rcases hx with rfl|rfl<;>exact hq
  obtain⟨vs,h1,h2⟩:=Ct hq'
  rw[g1]
  have:=iD (P:=P) (k:=0) (fn:=fn) (R:=ns M φ (hp o nx) w K X) (u:= .returning) ao (ds:=[]) (fun w2 hb=>by
   obtain⟨vals,h3,h4⟩:=um (P:=P) (a:=a) hb.heap hb.env _ _ h1
   exact⟨_,nz h3,aN,s.o,s.nx,_,hb.heap,hb.tr,Cu h4,h2⟩) ms w' g2 g4 hs.toB
  rwa [List.append_nil]at this
 cases e<;>cases x<;>first|(exact hm.elim)|skip
 ·exact done (.inl rfl)
 ·exact hq.elim
 ·exact done (.inr rfl)
 ·rename_i v
  obtain⟨val,rfl,hd'⟩:=hm
  show LeavesInM (ey none) 0 P fn a.tmps (ns M φ (hp o nx) w K X) a.defers _ w'
  rw[g1]
  have OM:Ai M φ (hp o nx) w aN ⟨fun i=>if i=0 then v else .aa,s.o,s.nx⟩ #[val] w':=⟨hs.heap,hs.tr,fun i=>by
   by_cases hi:i=0
   ·subst hi;exact hd'
   ·simp only[hi,if_false];trivial⟩
  have:=iD (P:=P) (k:=0) (fn:=fn) (s:=⟨fun i=>if i=0 then v else .aa,s.o,s.nx⟩) (tmps:=a.tmps) (tb:=#[val]) (cN:=φ) (H0:=hp o nx) (w0:=w) (R:=ns M φ (hp o nx) w K X) (u:= .panicking [{v:=val,recovered:=false}]) ao (ds:=[]) (fun w2 hb=>by
   have h0:=hb.env 0
   exact⟨aN,s.o,s.nx,v,hb.heap,hb.tr,val,rfl,h0,hq⟩) ms w' g2 g4 OM
  rwa [List.append_nil]at this
theorem aR.mz {f:FuncId}{ds:List D}{out:R}(h:cK P f (ds.map .d) (fun _=> .no) 0 (fun v o _=>∃vs rs,v=(match vs with|[v]=>v|vs=> .cg vs)/\ct o vs=some rs/\out= .ret rs) (fun v o _=>∃x,ew o v=some x/\out= .bP x)):aR P f ds out:=by
 refine⟨h.1,fun M w vals hM hd=> ?_⟩
 let cN:Place:=fun _=> .nilFunc
 have xh:∀b, ¬df cN (hp (fun _=> .no) 0) b:=by rintro b ⟨id,hl,_⟩;simp[hp,ab.live]at hl
 refine(h.2 M cN w vals (lV cN hM) ((V.cD _ _).2 (D.aY (w:=w) (w':=w) (B:=M) (fun b _ hB=>⟨rfl,fun h=>h.elim hB (xh b)⟩) _ _ hd))).mono ?_
 rintro e w' ⟨aN,o',nx',v,k1,k2,k3⟩
 have yo:eT (fun _=>False) w w':=⟨k2.keep.os,k2.keep.tape,k2.keep.output,k2.keep.size,fun k hk _=>k2.keep.block k hk (xh k)⟩
 have fin:∀ (vs:List V) (xs:List D) (vals:List Value),ct o' vs=some xs->V.aM (ay M aN (hp o' nx')) aN (hp o' nx') w' vs vals->D.aM M w' xs vals:=by
  intro vs xs vals h1 h2
  obtain⟨f1,f2,f3,f4,f5⟩:=dx k1 (V.bD vs) (dh vs _ h2)
  have h3:=dJ f1 vs xs vals f3 h1 (V.aY f2 _ _ h2)
  exact D.aY (w:=w') (w':=w') (fun k _ hB=>⟨rfl,fun hM=>hB (.inl hM)⟩) xs vals h3
 refine⟨yo, ?_⟩
 cases e with
 |outgrown=>exact k3.elim
 |panicked ch=>
  obtain⟨val,rfl,g1,x,g2,rfl⟩:=k3
  have:=fin [v] [x] [val] (by simp[ct,g2]) ⟨val,[],rfl,g1,rfl⟩
  obtain⟨u,us,he,h2,_⟩:=this
  simp at he;obtain⟨rfl,rfl⟩:=he
  exact⟨val,rfl,h2⟩
 |returned val=>
  obtain⟨g1,vs,rs,rfl,g2,rfl⟩:=k3
  match vs,g1,g2 with
  |[],g1,g2=>
   obtain⟨arr,rfl,hv⟩:=g1
   simp only[ct,Option.some.injEq]at g2;subst g2
   exact⟨arr,rfl,hv⟩
  |[v],g1,g2=>
   have:=fin [v] rs [val] g2 ⟨val,[],rfl,g1,rfl⟩
   cases rs with
   |nil=>cases this
   |cons x l=>
    obtain⟨u,us,he,h2,h3⟩:=this
    simp at he;obtain⟨rfl,rfl⟩:=he
    cases l with
    |nil=>exact h2
    |cons y l=>obtain⟨_,_,h,_⟩:=h3;cases h
  |v::v2::l,g1,g2=>
   obtain⟨arr,rfl,h⟩:=g1
   have:=fin (v::v2::l) rs arr.toList g2 h
   have hl:=D.aJ _ _ this
   have BI:=V.aJ _ _ h
   match rs,hl,this with
   |[],hl,_=>exact F4
   |[x],hl,_=>exact F4
   |x::y::l,_,this=>exact⟨arr,rfl,this⟩
theorem Iz{rs:List ResultVar}{out:R}(e:fX)(s:S)(h:EK P rs out e s):
 my P rs (fun v o _=>∃vs rs,v=(match vs with|[v]=>v|vs=> .cg vs)/\ct o vs=some rs/\out= .ret rs) (fun v o _=>∃x,ew o v=some x/\out= .bP x) e s:=by
 have ret:EK P rs out .ret s->my P rs (fun v o _=>∃vs rs,v=(match vs with|[v]=>v|vs=> .cg vs)/\ct o vs=some rs/\out= .ret rs) (fun v o _=>∃x,ew o v=some x/\out= .bP x) .ret s:=by
  intro h
  obtain⟨vs,xs,h1,h2,h3⟩:=LP h
  simp only[my,h1]
  match vs,h2 with
  |[],h2=>exact⟨[],xs,rfl,h2,h3⟩
  |[v],h2=>exact⟨[v],xs,rfl,h2,h3⟩
  |v::v2::l,h2=>exact⟨v::v2::l,xs,rfl,h2,h3⟩
 cases e with
 |normal=>exact ret h
 |ret=>exact ret h
 |exit id=>exact h.elim
 |bP v=>exact LQ h
end
end
section
def LZ{α:Type}(c:Bool)(x:α):Option α:=if c=true then some x else none
def one(v:V):Option gN:=some (v,[],[])
def Cv(op:BinOp)(k:IntKind)(a b:Int):Option V:=
 match op with
 | .add=>some (.d (.int k (k.wrap (a+b))))
 | .sub=>some (.d (.int k (k.wrap (a - b))))
 | .mul=>some (.d (.int k (k.wrap (a*b))))
 | .quo=>if b=0 then none else some (.d (.int k (k.wrap (a.tdiv b))))
 | .rem=>if b=0 then none else some (.d (.int k (a.tmod b)))
 | .and=>(uP .and k a b).map fun r=> .d (.int k r)
 | .or=>(uP .or k a b).map fun r=> .d (.int k r)
 | .xor=>(uP .xor k a b).map fun r=> .d (.int k r)
 | .andNot=>(uP .andNot k a b).map fun r=> .d (.int k r)
 | .eql=>some (.d (.bool (a==b)))| .neq=>some (.d (.bool (a !=b)))| .lss=>some (.d (.bool (decide (a<b))))| .leq=>some (.d (.bool (decide (a<=b))))
 | .gtr=>some (.d (.bool (decide (b<a))))| .geq=>some (.d (.bool (decide (b<=a))))
 |_=>none
def oA(P:Program)(t:TypeId):Bool:=
 match P.underlying t with
 |some .bool=>true
 |_=>false
def Aj(P:Program)(op:BinOp)(t:TypeId)(x y:V):Option V:=
 match x,y with
 | .d (.int k a), .d (.int k' b)=>if k=k' then Cv op k a b else none
 | .d (.bool a), .d (.bool b)=>match op with
   | .eql=>LZ (oA P t) (.d (.bool (a==b)))
   | .neq=>LZ (oA P t) (.d (.bool (a !=b)))
   |_=>none
 | .d (.str a), .d (.str b)=>match op with
   | .eql=>some (.d (.bool (a==b)))
   | .neq=>some (.d (.bool (a !=b)))
   |_=>none
 |_,_=>none
def unF(op:UnOp)(x:V):Option V:=
 match op,x with
 | .neg, .d (.int k n)=>some (.d (.int k (k.wrap (-n))))
 | .not, .d (.bool b)=>some (.d (.bool !b))
 |_,_=>none
def qF(c a b:V):Option V:=
 match c with
 | .d (.bool true)=>some a
 | .d (.bool false)=>some b
 |_=>none
def qG(o:Nat->ab)(x:V):Option (List D×List Nat):=
 match x with
 | .d (.sl es)=>some (es,[])
 | .br=>some ([],[])
 | .rF es=>some (es,[])
 | .osl id ep=>match o id with
   | .arr jx _ _ es=>if ep=jx then some (es,[id])else none
   | .qg jx es=>if ep=jx then some (es,[id])else none
   |_=>none
 |_=>none
def ER(P:Program)(t:TypeId)(o:Nat->ab)(x:V):Option gN:=
 match P.underlying t with
 |some (.slice _)=>match qG o x with
  |some (es,rd)=>some (.d (.int .i64 es.length),[],rd)
  |none=>none
 |some .string=>match x with
  | .d (.str s)=>one (.d (.int .i64 s.length))
  |_=>none
 |some (.array n _)=>one (.d (.int .i64 n))
 |_=>none
def yp(P:Program)(e:TypeId)(es:List D)(i:Int)(rd:List Nat):Option gN:=
 if 0<=i then match es[i.toNat]? with
  |some y=>LZ (y.cells.length==P.cellsOf e&&0<P.cellsOf e) (.pp y.cells 0,[],rd)
  |none=>none
 else none
def o8(o:Nat->ab)(x:V)(q:Nat):Option V:=
 match x with
 | .ptr id off=>LZ (o id).cB (.ptr id (off+q))
 | .pp cs off=>some (.pp cs (off+q))
 | .pe id ep j sz off=>if(o id).cA=some ep then some (.pe id ep j sz (off+q))else none
 |_=>none
def ja(P:Program)(o:Nat->ab)(t:TypeId)(x ix:V):Option gN:=
 match ix with
 | .d (.int _ i)=>match cC P t with
   |some e=>match x with
    | .d (.sl es)=>yp P e es i []
    | .rF es=>yp P e es i []
    | .osl id ep=>match o id with
      | .arr jx _ sz es=>if ep=jx/\0<=i/\i.toNat<es.length/\sz=P.cellsOf e/\0<P.cellsOf e then some (.pe id ep i.toNat sz 0,[],[id])else none
      | .qg jx es=>if ep=jx then yp P e es i [id]else none
      |_=>none
    |_=>none
   |none=>match BR P t with
    |some (n,e)=>if 0<=i/\i<n/\(P.info? e).isSome=true then(o8 o x (i.toNat*P.cellsOf e)).bind one else none
    |none=>none
 |_=>none
def jb(P:Program)(o:Nat->ab)(t:TypeId)(x:V)(f:Nat):Option V:=
 match cl P t f with
 |some q=>o8 o x q
 |none=>none
def nB(P:Program)(o:Nat->ab)(t:TypeId)(x:V):Option gN:=
 match x with
 | .ptr id off=>match o id with
   | .row cs=>match ft P t cs off with
     |some v=>some (v,[],[id])
     |none=>none
   |_=>none
 | .pp cs off=>match ft P t (cs.map .d) off with
   |some v=>some (v,[],[])
   |none=>none
 | .pe id ep i sz off=>match o id with
   | .arr jx _ rG es=>if ep=jx/\sz=rG then match es[i]? with
    |some e=>match ft P t (e.cells.map .d) off with
     |some v=>some (v,[],[id])
     |none=>none
    |none=>none
     else none
   |_=>none
 |_=>none
def sd(P:Program)(o:Nat->ab)(t:TypeId)(x v:V):Option gN:=
 match x with
 | .ptr id off=>match o id with
   | .row cs=>match zU P t cs off v with
     |some cs'=>some (.cg [],[(id, .row cs')],[id])
     |none=>none
   |_=>none
 | .pe id ep i rG off=>match o id with
   | .arr jx ty sz es=>if ep=jx/\rG=sz then match es[i]?,ew o v with
    |some e,some y=>if y.cells.length=P.cellsOf t/\0<y.cells.length/\v.ids.all (· !=id)=true then match e.put off y.cells with
     |some e'=>some (.cg [],dk o v.ids++[(id, .arr ep ty sz (es.set i e'))],id::v.ids)
     |none=>none
     else none
    |_,_=>none
     else none
   |_=>none
 |_=>none
def hU(P:Program)(o:Nat->ab)(fr:Nat)(t:TypeId)(len:Nat)(parts:List (Nat×V)):Option gN:=
 match cC P t with
 |some e=>if len=0/\parts.isEmpty=true/\0<P.cellsOf e then some (.osl fr 0,[(fr, .arr 0 e (P.cellsOf e) [])],[])else if parts.map (·.1)=List.range len/\(cG P e).isSome=true/\0<len/\0<P.cellsOf e/\len*P.cellsOf e<=2^24 then match ct o (parts.map (·.2))with
  |some ds=>if ds.all (fun x=>x.cells.length==P.cellsOf e)=true then some (.osl fr 0,dk o (V.bD (parts.map (·.2)))++[(fr, .arr 0 e (P.cellsOf e) ds)],V.bD (parts.map (·.2)))else none
  |none=>none
  else none
 |none=>none
def mA(P:Program)(fr:Nat)(t:TypeId)(l c:V):Option gN:=
 match cC P t with
 |some e=>match l,c with
  | .d (.int _ n), .d (.int _ m)=>if n=m/\0<=n/\0<P.cellsOf e/\P.bytesOf e*n.toNat<=2^47/\n.toNat<=2^47 then match BU P e with
   |some x=>some (.osl fr 0,[(fr, .arr 0 e (P.cellsOf e) (List.replicate n.toNat x))],[])
   |none=>none
    else none
  |_,_=>none
 |none=>none
def qH(P:Program)(o:Nat->ab)(fr:Nat)(ts:Array TypeId)(x y:V):Option gN:=
 match ts.toList with
 |[t,t']=>if t=t' then match cC P t,qG o y with
    |some e,some (new,rd)=>if 0<P.cellsOf e/\(cG P e).isSome=true/\new.all (fun z=>z.cells.length==P.cellsOf e)=true then match x with
     | .br=>if new.length<=2^47/\new.length*P.bytesOf e<=2^47 then some (.osl fr 0,[(fr, .arr 0 e (P.cellsOf e) new)],rd)else none
     | .rF es=>if es.all (fun z=>z.cells.length==P.cellsOf e)=true then(if new=[]then some (.rF es,[],rd)else if es.length+new.length<=2^40/\(es.length+new.length)*P.bytesOf e<=2^40 then some (.osl fr 0,[(fr, .arr 0 e (P.cellsOf e) (es++new))],rd)else none)else none
     | .osl id ep=>match o id with
       | .arr jx ty sz es=>if ep=jx/\ty=e/\sz=P.cellsOf e/\es.length+new.length<=2^47/\(es.length+new.length)*P.bytesOf e<=2^47 then
        some (.osl id (ep+1),[(id, .arr (ep+1) ty sz (es++new))],id::rd)else none
       |_=>none
     |_=>none
     else none
    |_,_=>none
  else none
 |_=>none
def qI(isMax:Bool)(x y:V):Option V:=
 match x,y with
 | .d (.int k a), .d (.int k' b)=>if k=k' then some (.d (.int k (if isMax then(if b>a then b else a)else(if b<a then b else a))))else none
 |_,_=>none
def lW(x:Option V):Option gN:=match x with|some v=>one v|none=>none
def qJ(P:Program)(s:S)(fr:Nat)(b:Builtin)(args:List Operand)(ts:Array TypeId):Option gN:=
 match b,args with
 | .len,[x]=>match ts.toList with
   |[t]=>ER P t s.o (s.ev x)
   |_=>none
 | .append,[x,y]=>match xU P fr ts (s.ev x) (s.ev y)with
   |some r=>some r
   |none=>qH P s.o fr ts (s.ev x) (s.ev y)
 | .max,[x,y]=>lW (qI true (s.ev x) (s.ev y))
 | .min,[x,y]=>lW (qI false (s.ev x) (s.ev y))
 | .max,[x,y,z]=>lW (Lu (s.ev x) (s.ev y) (s.ev z))
 | .copy,[x,y]=>xT P s.o ts (s.ev x) (s.ev y)
 | .delete,[x,y]=>match ts.toList.head? with
   |some t=>ow P s.o t (s.ev x) (s.ev y)
   |none=>none
 | .cap,[x]=>Po P ts (s.ev x)
 |_,_=>none
def se(P:Program)(t:TypeId)(parts:List (Nat×V)):Option V:=
 match cG P t,fK P t with
 |some z,some pl=>match sX pl z parts with
  |some cs=>some (lO cs)
  |none=>none
 |_,_=>none
def jX(o:Nat->ab)(x:V):Option V:=
 match x with
 | .ptr id off=>LZ (o id).cB (.ptr id off)
 | .pp cs off=>some (.pp cs off)
 | .func (.func f) first cap=>some (.func (.func f) first cap)
 |_=>none
def jc(P:Program)(t:TypeId):Bool:=
 match P.underlying t with
 |some (.interface _)=>false
 |some _=>true
 |none=>false
def L0(P:Program)(t:TypeId)(x:V):Option V:=
 LZ (jc P t) (match x with
  | .d y=> .d (.iface t y)
  |v=> .iface t v)
def eP(P:Program)(o:Nat->ab)(op:BinOp)(t:TypeId)(pw:Bool)(x y:V):Option gN:=
 match Aj P op t x y with
 |some v=>one v
 |none=>rU P o op t pw x y
def HY(op:UnOp)(x:V):Option V:=
 match op,x with
 | .not, .fq=>some .fq
 |op,x=>unF op x
def gQ(P:Program)(s:S)(fr:Nat)(op:Op):Option gN:=
 match op with
 | .move x=>one (s.ev x)
 | .assign x=>one (s.ev x)
 | .pick c a b=>lW (qF (s.ev c) (s.ev a) (s.ev b))
 | .alloc t=>match cG P t with
   |some cs=>some (.ptr fr 0,[(fr, .row cs)],[])
   |none=>none
 | .box _ x=>match(s.ev x).cells with
   |some cs=>some (.ptr fr 0,[(fr, .row cs)],[])
   |none=>none
 | .build t parts=>lW (se P t (parts.toList.map fun p=>(p.1,s.ev p.2)))
 | .buildSlice t len parts=>hU P s.o fr t len (parts.toList.map fun p=>(p.1,s.ev p.2))
 | .load t x=>nB P s.o t (s.ev x)
 | .store t x v=>sd P s.o t (s.ev x) (s.ev v)
 | .nilCheck x=>lW (jX s.o (s.ev x))
 | .binOp op t x y _=>eP P s.o op t (isConst x||isConst y) (s.ev x) (s.ev y)
 | .unOp op _ x=>lW (HY op (s.ev x))
 | .convert u t x=>match P.underlying u,w8 P t,s.ev x with
   |some _,some k, .d (.int _ n)=>one (.d (.int k (k.wrap n)))
   |_,_,_=>none
 | .makeInterface t x=>lW (L0 P t (s.ev x))
 | .makeFunc fn first cap=>one (.func fn (first.toList.map s.ev) (cap.toList.map s.ev))
 | .makeSlice t l c=>mA P fr t (s.ev l) (s.ev c)
 | .fieldAddr t x f=>lW (jb P s.o t (s.ev x) f)
 | .indexAddr t x i=>ja P s.o t (s.ev x) (s.ev i)
 | .extract x i=>match s.ev x with
   | .cg vs=>match vs[i]? with
     |some v=>one v
     |none=>none
   |_=>none
 | .call c=>match c.callee with
   | .builtin b=>qJ P s fr b c.args.toList c.argTypes
   |_=>none
 | .slice t x lo hi mx=>rR P s.o t (s.ev x) (lo.map s.ev) (hi.map s.ev) (mx.map s.ev)
 | .field t x f=>lW (uR P t (s.ev x) f)
 | .index t x i=>lW (uS P t (s.ev x) (s.ev i))
 | .typeAssert x _ t ok=>lW (qk P t ok (s.ev x))
 | .makeMap t none=>ni P fr t
 | .lookup t m k ok=>iy P s.o t (s.ev m) (s.ev k) ok
 | .mapUpdate t m k v=>gE P s.o t (s.ev m) (s.ev k) (s.ev v)
 | .insert t m k v=>gE P s.o t (s.ev m) (s.ev k) (s.ev v)
 | .range t x=>nj P s.o fr t (s.ev x)
 | .next x str=>oY s.o (s.ev x) str
 | .entry x=>nk s.o (s.ev x)
 |_=>none
section
variable {P:Program}{s:S}{fr:Nat}{v:V}{Δ:List (Nat×ab)}{rd:List Nat}{o:Nat->ab}{K:V->List (Nat×ab)->List Nat->Prop}
theorem si{α:Type}{c:Bool}{x y:α}(h:LZ c x=some y):c=true/\x=y:=by
 unfold LZ at h;split at h
 ·injection h with h;exact⟨by assumption,h⟩
 ·cases h
theorem lA{x:V}{r:gN}(h:one x=some r):r=(x,[],[]):=by unfold one at h;injection h with h;exact h.symm
theorem jP{x:Option V}{r:gN}(h:lW x=some r):∃v,x=some v/\r=(v,[],[]):=by
 unfold lW at h;split at h
 ·exact⟨_,rfl,lA h⟩
 ·cases h
theorem ES{x:V}{es:List D}{rd:List Nat}(h:qG o x=some (es,rd)):fu o x=some es/\rd=x.ids:=by
 unfold qG at h
 split at h
 ·exact Ky
 ·exact Ky
 ·exact Ky
 ·split at h
  ·rename_i ho
   split at h
   ·rename_i e;simp at h;obtain⟨rfl,rfl⟩:=h;exact⟨by simp[fu,ew,ho,e],rfl⟩
   ·cases h
  ·rename_i ho
   split at h
   ·rename_i e;simp at h;obtain⟨rfl,rfl⟩:=h;exact⟨by simp[fu,ew,ho,e],rfl⟩
   ·cases h
  ·cases h
 ·cases h
theorem IA{op:BinOp}{k:IntKind}{a b:Int}{v:V}(h:Cv op k a b=some v){K:V->Prop}(hK:K v):Pl op k a b K:=by
 cases op<;>simp only[Cv]at h<;>simp only[Pl]
 case quo=>split at h
           ·cases h
           ·exact V3
 case rem=>split at h
           ·cases h
           ·exact V3
 case and=>simp only[Option.map_eq_some_iff]at h;obtain⟨r,h1,rfl⟩:=h;exact⟨r,h1,hK⟩
 case or=>simp only[Option.map_eq_some_iff]at h;obtain⟨r,h1,rfl⟩:=h;exact⟨r,h1,hK⟩
 case xor=>simp only[Option.map_eq_some_iff]at h;obtain⟨r,h1,rfl⟩:=h;exact⟨r,h1,hK⟩
 case andNot=>simp only[Option.map_eq_some_iff]at h;obtain⟨r,h1,rfl⟩:=h;exact⟨r,h1,hK⟩
 case shl=>cases h
 case shr=>cases h
 case eql=>injection h with h;subst h;exact⟨_,rfl,hK⟩
 case neq=>injection h with h;subst h;exact⟨_,rfl,hK⟩
 case lss=>injection h with h;subst h;exact⟨_,rfl,hK⟩
 case leq=>injection h with h;subst h;exact⟨_,rfl,hK⟩
 case gtr=>injection h with h;subst h;exact⟨_,rfl,hK⟩
 case geq=>injection h with h;subst h;exact⟨_,rfl,hK⟩
 all_goals (injection h with h;subst h;exact hK)
theorem IB{op:BinOp}{t:TypeId}{x y v:V}(h:Aj P op t x y=some v){K:V->Prop}(hK:K v):Lr P op t x y K:=by
 unfold Aj at h
 unfold Lr
 split at h
 ·split at h
  ·exact⟨by assumption,IA h hK⟩
  ·cases h
 ·have hb:oA P t=true->P.underlying t=some .bool:=by
   unfold oA;intro h;split at h
   ·assumption
   ·cases h
  split at h
  ·obtain⟨h1,rfl⟩:=si h;exact⟨hb h1,hK⟩
  ·obtain⟨h1,rfl⟩:=si h;exact⟨hb h1,hK⟩
  ·cases h
 ·split at h
  ·exact Kw
  ·exact Kw
  ·cases h
 ·cases h
theorem ET{c a b v:V}(h:qF c a b=some v){K:V->Prop}(hK:K v):BS c a b K:=by
 unfold qF at h
 unfold BS
 split at h
 ·injection h with h;subst h;exact⟨fun _=>hK,(fun h=>by cases h)⟩
 ·injection h with h;subst h;exact⟨(fun h=>by cases h),fun _=>hK⟩
 ·cases h
theorem va{x y:V}{q:Nat}(h:o8 o x q=some y):(∃id off,x= .ptr id off/\(o id).cB=true/\y= .ptr id (off+q))\/(∃cs off,x= .pp cs off/\y= .pp cs (off+q))\/
 (∃id ep j sz off,x= .pe id ep j sz off/\(o id).cA=some ep/\y= .pe id ep j sz (off+q)):=by
 unfold o8 at h
 split at h
 ·obtain⟨h1,rfl⟩:=si h;exact .inl ⟨_,_,rfl,h1,rfl⟩
 ·injection h with h;exact .inr (.inl ⟨_,_,rfl,h.symm⟩)
 ·split at h
  ·injection h with h;exact .inr (.inr ⟨_,_,_,_,_,rfl,by assumption,h.symm⟩)
  ·cases h
 ·cases h
theorem uM{e:TypeId}{es:List D}{i:Int}{rd:List Nat}{r:gN}(h:yp P e es i rd=some r):
 0<=i/\∃y,es[i.toNat]? =some y/\y.cells.length=P.cellsOf e/\0<P.cellsOf e/\r=(.pp y.cells 0,[],rd):=by
 unfold yp at h
 split at h
 ·rename_i h0
  split at h
  ·rename_i y hy
   obtain⟨h1,rfl⟩:=si h
   simp only[Bool.and_eq_true,beq_iff_eq,decide_eq_true_eq]at h1
   exact⟨h0,y,hy,h1.1,h1.2,rfl⟩
  ·cases h
 ·cases h
theorem tP{t:TypeId}{x ix:V}(h:ja P o t x ix=some (v,Δ,rd))(hK:K v Δ rd):ke P o t x ix fun v rd=>K v [] rd:=by
 unfold ja at h
 unfold ke
 split at h
 ·simp only
  split at h
  ·rename_i e ht
   simp only[ht]
   split at h
   ·exact RV
   ·exact RV
   ·split at h
    ·rename_i ho
     split at h
     ·rename_i hc
      simp only[Option.some.injEq,Prod.mk.injEq]at h;obtain⟨rfl,rfl,rfl⟩:=h
      simp only[ho]
      exact⟨hc.1,hc.2.1,hc.2.2.1,hc.2.2.2.1,hc.2.2.2.2,hK⟩
     ·cases h
    ·rename_i ho
     split at h
     ·rename_i hc
      obtain⟨h0,y,h1,h2,h3,h4⟩:=uM h
      simp only[Prod.mk.injEq]at h4;obtain⟨rfl,rfl,rfl⟩:=h4
      simp only[ho]
      exact⟨hc,h0,y,h1,h2,h3,hK⟩
     ·cases h
    ·cases h
   ·cases h
  ·rename_i ht
   simp only[ht]
   split at h
   ·rename_i n e ha
    simp only[ha]
    split at h
    ·rename_i hc
     simp only[Option.bind_eq_some_iff]at h
     obtain⟨y,hy,h1⟩:=h
     have h1:=lA h1
     simp only[Prod.mk.injEq]at h1;obtain⟨rfl,rfl,rfl⟩:=h1
     refine⟨hc.1,hc.2.1,hc.2.2, ?_⟩
     rcases va hy with⟨_,_,rfl,h2,rfl⟩|⟨_,_,rfl,rfl⟩|⟨_,_,_,_,_,rfl,h2,rfl⟩
     ·exact⟨h2,hK⟩
     ·exact hK
     ·exact⟨h2,hK⟩
    ·cases h
   ·cases h
 ·cases h
theorem tQ{t:TypeId}{x y:V}{f:Nat}(h:jb P o t x f=some y){K:V->Prop}(hK:K y):ki P o t x f K:=by
 unfold jb at h
 unfold ki
 split at h
 ·rename_i q hq
  simp only[hq]
  rcases va h with⟨_,_,rfl,h2,rfl⟩|⟨_,_,rfl,rfl⟩|⟨_,_,_,_,_,rfl,h2,rfl⟩
  ·exact⟨h2,hK⟩
  ·exact hK
  ·exact⟨h2,hK⟩
 ·cases h
theorem ID{t:TypeId}{x:V}(h:ER P t o x=some (v,Δ,rd))(hK:K v Δ rd):Ls P t o x fun v rd=>K v [] rd:=by
 unfold ER at h
 unfold Ls
 split at h
 ·rename_i e hu
  simp only[hu]
  split at h
  ·rename_i es uf hl
   simp only[Option.some.injEq,Prod.mk.injEq]at h;obtain⟨rfl,rfl,rfl⟩:=h
   unfold qG at hl
   split at hl
   ·exact KF
   ·exact KF
   ·exact KF
   ·split at hl
    ·rename_i ho
     split at hl
     ·rename_i hc;simp at hl;obtain⟨rfl,rfl⟩:=hl;simp only[ho];exact⟨hc,hK⟩
     ·cases hl
    ·rename_i ho
     split at hl
     ·rename_i hc;simp at hl;obtain⟨rfl,rfl⟩:=hl;simp only[ho];exact⟨hc,hK⟩
     ·cases hl
    ·cases hl
   ·cases hl
  ·cases h
 ·rename_i hu
  simp only[hu]
  split at h
  ·have h1:=lA h;simp only[Prod.mk.injEq]at h1;obtain⟨rfl,rfl,rfl⟩:=h1;exact hK
  ·cases h
 ·rename_i hu
  simp only[hu]
  have h1:=lA h;simp only[Prod.mk.injEq]at h1;obtain⟨rfl,rfl,rfl⟩:=h1;exact hK
 ·cases h
theorem EU{t:TypeId}{x:V}(h:nB P o t x=some (v,Δ,rd))(hK:K v Δ rd):BT P o t x fun v rd=>K v [] rd:=by
 unfold nB at h
 unfold BT
 split at h
 ·split at h
  ·rename_i ho
   split at h
   ·rename_i hg
    exact Se
   ·cases h
  ·cases h
 ·split at h
  ·rename_i hg
   simp only[Option.some.injEq,Prod.mk.injEq]at h;obtain⟨rfl,rfl,rfl⟩:=h
   exact⟨_,hg,hK⟩
  ·cases h
 ·split at h
  ·rename_i ho
   split at h
   ·rename_i hc
    split at h
    ·rename_i e he
     split at h
     ·rename_i hg
      simp only[Option.some.injEq,Prod.mk.injEq]at h;obtain⟨rfl,rfl,rfl⟩:=h
      simp only[ho];exact⟨hc.1,hc.2,e,he,_,hg,hK⟩
     ·cases h
    ·cases h
   ·cases h
  ·cases h
 ·cases h
theorem Cw{t:TypeId}{x y:V}(h:sd P o t x y=some (v,Δ,rd))(hK:K v Δ rd):uQ P o t x y fun Δ rd=>K (.cg []) Δ rd:=by
 unfold sd at h
 unfold uQ
 split at h
 ·split at h
  ·rename_i ho
   split at h
   ·rename_i hg
    exact Se
   ·cases h
  ·cases h
 ·split at h
  ·rename_i ho
   split at h
   ·rename_i hc
    split at h
    ·rename_i e z he hz
     split at h
     ·rename_i hl
      split at h
      ·rename_i e' hp
       simp only[Option.some.injEq,Prod.mk.injEq]at h;obtain⟨rfl,rfl,rfl⟩:=h
       simp only[ho]
       exact⟨hc.1,hc.2,e,he,z,hz,hl.1,hl.2.1,hl.2.2,e',hp,hK⟩
      ·cases h
     ·cases h
    ·cases h
   ·cases h
  ·cases h
 ·cases h
theorem sj{t:TypeId}{len:Nat}{parts:List (Nat×V)}(h:hU P o fr t len parts=some (v,Δ,rd))(hK:K v Δ rd):jy P o fr t len parts K:=by
 unfold hU at h
 unfold jy
 split at h
 ·rename_i e ht
  simp only[ht]
  split at h
  ·rename_i hc
   simp only[Option.some.injEq,Prod.mk.injEq]at h;obtain⟨rfl,rfl,rfl⟩:=h
   exact .inl ⟨hc.1,by simpa using hc.2.1,hc.2.2,hK⟩
  split at h
  ·rename_i hc
   refine .inr ?_
   split at h
   ·rename_i ds hd
    split at h
    ·rename_i hw
     simp only[Option.some.injEq,Prod.mk.injEq]at h;obtain⟨rfl,rfl,rfl⟩:=h
     refine⟨hc.1,hc.2.1,hc.2.2.1,hc.2.2.2.1,hc.2.2.2.2,ds,hd,fun x hx=> ?_,hK⟩
     simpa using List.all_eq_true.1 hw x hx
    ·cases h
   ·cases h
  ·cases h
 ·cases h
theorem tR{t:TypeId}{l c:V}(h:mA P fr t l c=some (v,Δ,rd))(hK:K v Δ rd):kj P fr t l c fun v Δ=>K v Δ []:=by
 unfold mA at h
 unfold kj
 split at h
 ·rename_i e ht
  split at h
  ·split at h
   ·rename_i hc
    split at h
    ·rename_i x hx
     simp only[Option.some.injEq,Prod.mk.injEq]at h;obtain⟨rfl,rfl,rfl⟩:=h
     simp only[ht]
     exact⟨hc.1,hc.2.1,hc.2.2.1,hc.2.2.2.1,hc.2.2.2.2,x,hx,hK⟩
    ·cases h
   ·cases h
  ·cases h
 ·cases h
theorem Ak{ts:Array TypeId}{x y:V}(h:qH P o fr ts x y=some (v,Δ,rd))(hK:K v Δ rd):qi P o fr ts x y K:=by
 unfold qH at h
 unfold qi
 split at h
 ·rename_i t t' s5
  simp only[s5]
  split at h
  ·rename_i htt
   refine⟨htt, ?_⟩
   split at h
   ·rename_i e new uf ht hl
    obtain⟨x8,rfl⟩:=ES hl
    simp only[ht]
    split at h
    ·rename_i hc
     refine⟨new,x8,hc.1,hc.2.1,fun z hz=>by simpa using List.all_eq_true.1 hc.2.2 z hz, ?_⟩
     split at h
     ·split at h
      ·rename_i uZ
       simp only[Option.some.injEq,Prod.mk.injEq]at h;obtain⟨rfl,rfl,rfl⟩:=h
       exact⟨uZ.1,uZ.2,hK⟩
      ·cases h
     ·split at h
      ·rename_i Eb
       refine⟨fun z hz=>by simpa using List.all_eq_true.1 Eb z hz, ?_⟩
       split at h
       ·rename_i hn
        simp only[Option.some.injEq,Prod.mk.injEq]at h;obtain⟨rfl,rfl,rfl⟩:=h
        rw[if_pos hn];exact hK
       ·rename_i hn
        split at h
        ·rename_i uZ
         simp only[Option.some.injEq,Prod.mk.injEq]at h;obtain⟨rfl,rfl,rfl⟩:=h
         rw[if_neg hn];exact⟨uZ.1,uZ.2,hK⟩
        ·cases h
      ·cases h
     ·split at h
      ·rename_i ho
       split at h
       ·rename_i uZ
        simp only[Option.some.injEq,Prod.mk.injEq]at h;obtain⟨rfl,rfl,rfl⟩:=h
        simp only[ho]
        exact⟨uZ.1,uZ.2.1,uZ.2.2.1,uZ.2.2.2.1,uZ.2.2.2.2,hK⟩
       ·cases h
      ·cases h
     ·cases h
    ·cases h
   ·cases h
  ·cases h
 ·cases h
theorem vc{x y:V}(h:jX o x=some y){K:V->Prop}(hK:K y):lP o x K:=by
 unfold jX at h
 unfold lP
 split at h
 ·obtain⟨h2,rfl⟩:=si h;exact⟨h2,hK⟩
 ·exact Kw
 ·exact Kw
 ·cases h
theorem L1{op:UnOp}{x y:V}(h:unF op x=some y){K:V->Prop}(hK:K y):unV op x K:=by
 unfold unF at h
 unfold unV
 split at h
 ·injection h with h;subst h;simp only;rw[Int.zero_sub];exact hK
 ·exact Kw
 ·cases h
theorem zP{m:Bool}{x y v:V}(h:qI m x y=some v){K:V->Prop}(hK:K v):ou m [x,y] K:=by
 unfold qI at h
 unfold ou
 split at h
 ·split at h
  ·exact V3
  ·cases h
 ·cases h
theorem Cy{op:Op}(h:gQ P s fr op=some (v,Δ,rd))(hK:K v Δ rd):SW P s fr op K:=by
 cases op<;>simp only[gQ]at h<;>simp only[SW]<;>try (cases h;done)
 case move x=>have h:=lA h;simp only[Prod.mk.injEq]at h;obtain⟨rfl,rfl,rfl⟩:=h;exact hK
 case assign x=>have h:=lA h;simp only[Prod.mk.injEq]at h;obtain⟨rfl,rfl,rfl⟩:=h;exact hK
 case pick c a b=>
  obtain⟨x,h1,h⟩:=jP h;simp only[Prod.mk.injEq]at h;obtain⟨rfl,rfl,rfl⟩:=h
  exact ET h1 hK
 case alloc t=>
  split at h
  ·rename_i cs hz;simp only[Option.some.injEq,Prod.mk.injEq]at h;obtain⟨rfl,rfl,rfl⟩:=h;exact⟨cs,hz,hK⟩
  ·cases h
 case box t x=>
  split at h
  ·rename_i cs hz;simp only[Option.some.injEq,Prod.mk.injEq]at h;obtain⟨rfl,rfl,rfl⟩:=h;exact⟨cs,hz,hK⟩
  ·cases h
 case build t parts=>
  obtain⟨x,h1,h⟩:=jP h;simp only[Prod.mk.injEq]at h;obtain⟨rfl,rfl,rfl⟩:=h
  unfold se at h1
  split at h1
  ·rename_i z pl hz hp
   split at h1
   ·rename_i cs hc;injection h1 with h1;subst h1;exact⟨z,pl,cs,hz,hp,hc,hK⟩
   ·cases h1
  ·cases h1
 case buildSlice t len parts=>exact sj h hK
 case load t x=>exact EU h hK
 case store t x y=>exact Cw h hK
 case nilCheck x=>
  obtain⟨y,h1,h⟩:=jP h;simp only[Prod.mk.injEq]at h;obtain⟨rfl,rfl,rfl⟩:=h
  exact vc h1 hK
 case binOp op t x y yt=>
  unfold eP at h
  split at h
  ·rename_i z h1
   have h:=lA h;simp only[Prod.mk.injEq]at h;obtain⟨rfl,rfl,rfl⟩:=h
   exact .inl (IB h1 hK)
  ·right;simp only[h,dn];exact hK
 case unOp op t x=>
  obtain⟨z,h1,h⟩:=jP h;simp only[Prod.mk.injEq]at h;obtain⟨rfl,rfl,rfl⟩:=h
  unfold HY at h1
  split at h1
  ·rename_i hx;injection h1 with h1;subst h1;exact .inr ⟨rfl,hx,hK⟩
  ·exact .inl (L1 h1 hK)
 case slice t x lo hi mx=>simp only[h,dn];exact hK
 case field t x f=>
  exact Wn
 case typeAssert x xt t ok=>
  exact Wn
 case makeMap t r=>
  cases r with
  |none=>simp only[h,dn];exact hK
  |some x=>cases h
 case lookup t m k ok=>simp only[h,dn];exact hK
 case mapUpdate t m k v=>simp only[h,dn];exact hK
 case insert t m k v=>simp only[h,dn];exact hK
 case index t x i=>
  exact Wn
 case convert u t x=>
  split at h
  ·rename_i d k k' n hu hk hx
   have h:=lA h;simp only[Prod.mk.injEq]at h;obtain⟨rfl,rfl,rfl⟩:=h
   exact⟨by rw[hu];rfl,by simp only[hk,hx];exact hK⟩
  ·cases h
 case makeInterface t x=>
  obtain⟨z,h1,h⟩:=jP h;simp only[Prod.mk.injEq]at h;obtain⟨rfl,rfl,rfl⟩:=h
  obtain⟨h2,rfl⟩:=si h1
  refine⟨?_, ?_⟩
  ·unfold jc at h2
   cases hd:P.underlying t with
   |none=>simp[hd]at h2
   |some d=>exact⟨d,rfl,by cases d<;>simp_all⟩
  ·split
   ·rename_i y hy;simp only[hy]at hK;exact hK
   ·rename_i hy
    split at hK
    ·rename_i y hy';exact absurd hy' (hy y)
    ·exact hK
 case makeFunc fn first cap=>have h:=lA h;simp only[Prod.mk.injEq]at h;obtain⟨rfl,rfl,rfl⟩:=h;exact hK
 case makeSlice t l c=>
  exact tR h hK
 case fieldAddr t x f=>
  obtain⟨z,h1,h⟩:=jP h;simp only[Prod.mk.injEq]at h;obtain⟨rfl,rfl,rfl⟩:=h
  exact tQ h1 hK
 case indexAddr t x i=>
  exact tP h hK
 case extract x i=>
  split at h
  ·rename_i vs hv
   split at h
   ·rename_i u hu
    have h:=lA h;simp only[Prod.mk.injEq]at h;obtain⟨rfl,rfl,rfl⟩:=h
    simp only[hv];exact⟨_,hu,hK⟩
   ·cases h
  ·cases h
 case call c=>
  obtain⟨LN,args,ts⟩:=c
  cases LN<;>simp only at h|- <;>try (cases h;done)
  rename_i b
  unfold qJ at h
  unfold uT
  split at h
  ·rename_i x ha
   simp only[ha]
   split at h
   ·rename_i t s5;exact⟨t,s5,ID h hK⟩
   ·cases h
  ·rename_i x y ha
   simp only[ha]
   split at h
   ·rename_i r hr
    simp only[Option.some.injEq]at h
    subst h
    exact .inl (by rw[hr];exact hK)
   ·exact .inr (Ak h hK)
  ·rename_i x y ha
   exact R2
  ·rename_i x y ha
   exact R2
  ·rename_i x y z ha
   simp only[ha]
   obtain⟨v0,h1,h⟩:=jP h;simp only[Prod.mk.injEq]at h;obtain⟨rfl,rfl,rfl⟩:=h
   exact abi
  ·rename_i x y ha
   simp only[ha,h,dn];exact hK
  ·rename_i x y ha
   simp only[ha]
   split at h
   ·rename_i t ht;exact⟨t,ht,by simp only[h,dn];exact hK⟩
   ·cases h
  ·rename_i x ha
   simp only[ha,h,dn];exact hK
  ·cases h
 case range t x=>simp only[h,dn];exact hK
 case next x str=>left;simp only[h,dn];exact hK
 case entry x=>simp only[h,dn];exact hK
end
end
section
def ve(P:Program)(g:FuncId)(ds:List D)(o o1 oa:Nat->ab)(K:V->(Nat->ab)->Prop)(X:V->(Nat->ab)->Prop):Prop:=
 ∃out,aR P g ds out/\((match out with| .ret rs=>K (jR rs) o1| .bP x=>X (.d x) o1)\/(out.flat=true/\match out with| .ret rs=>K (jR rs) o| .bP x=>X (.d x) o)\/(out.nu=true/\match out with| .ret rs=>K (jR rs) oa| .bP x=>X (.d x) oa))
def tc(P:Program)(g:FuncId)(args:List V)(o:Nat->ab)(nx:Nat)(K:V->(Nat->ab)->Nat->Prop)(X:V->(Nat->ab)->Nat->Prop):Prop:=oU P g args o nx K X
theorem oU.mono {P:Program}{g:FuncId}{args:List V}{o:Nat->ab}{nx:Nat}{K X K' X':V->(Nat->ab)->Nat->Prop}(hK:∀v o n,K v o n->K' v o n)(hX:∀v o n,X v o n->X' v o n)(h:oU P g args o nx K X):oU P g args o nx K' X':=
 h.imp (cK.mono hK hX) (cK.mono hK hX)
@[congr] theorem S9 {P:Program} {g g':FuncId} {ds ds':List D} {o o1 oa:Nat->ab} {K X} (h:g=g') (h':ds=ds'):ve P g ds o o1 oa K X=ve P g' ds' o o1 oa K X:=by subst h;subst h';rfl
@[congr] theorem Ta {P:Program} {g g':FuncId} {cw ab6:List V} {o:Nat->ab} {nx:Nat} {K X} (h:g=g') (h':cw=ab6):tc P g cw o nx K X=tc P g' ab6 o nx K X:=by subst h;subst h';rfl
def Tb(P:Program)(g:FuncId)(args:List V)(o:Nat->ab)(nx:Nat)(K X:V->(Nat->ab)->Nat->Prop):Prop:=
 (∃ds,ct o args=some ds/\ve P g ds o (put o (dk o (V.bD args))) (put o (rQ o (V.bD args))) (fun v o'=>K v o' (nx+1)) (fun v o'=>X v o' (nx+1)))\/cK P g args o nx K X
def J9(P:Program)(s:S)(o:ck)(X:V->S->Prop)(K:S->Prop):Prop:=
 match o.op with
 | .call c=>match c.callee with
   | .value f=>match s.ev f with
     | .func (.func g) first cap=>match ct s.o (first++c.args.toList.map s.ev++cap)with
       |some ds=>ve P g ds s.o (put s.o (dk s.o (V.bD (first++c.args.toList.map s.ev++cap)))) (put s.o (rQ s.o (V.bD (first++c.args.toList.map s.ev++cap)))) (fun v o'=>K ⟨bt s.env o.dst v,o',s.nx+1⟩) (fun v o'=>X v ⟨s.env,o',s.nx+1⟩)\/
        tc P g (first++c.args.toList.map s.ev++cap) s.o s.nx (fun v o' nx'=>K ⟨bt s.env o.dst v,o',nx'⟩) (fun v o' nx'=>X v ⟨s.env,o',nx'⟩)
       |none=>tc P g (first++c.args.toList.map s.ev++cap) s.o s.nx (fun v o' nx'=>K ⟨bt s.env o.dst v,o',nx'⟩) (fun v o' nx'=>X v ⟨s.env,o',nx'⟩)
     | .jW id=>eh P id (c.args.toList.map s.ev) s.o s.nx (fun v o' nx'=>K ⟨bt s.env o.dst v,o',nx'⟩) (fun v o' nx'=>X v ⟨s.env,o',nx'⟩)
     |_=>False
   | .invoke r m=>match u5 P m (s.ev r)with
     |some (g,y)=>Tb P g (y::c.args.toList.map s.ev) s.o s.nx (fun v o' nx'=>K ⟨bt s.env o.dst v,o',nx'⟩) (fun v o' nx'=>X v ⟨s.env,o',nx'⟩)
     |none=>False
   |_=>match gQ P s s.nx o.op with
    |some (v,Δ,_)=>K ⟨bt s.env o.dst v,put s.o Δ,s.nx+1⟩
    |none=>False
 | .panic x=>match s.ev x with
   | .d (.iface t y)=>X (.d (.iface t y)) s
   | .iface t y=>X (.iface t y) s
   |_=>False
 | .next x str=>match oZ s.o (s.ev x)with
   |some (id,l)=>str=false/\Gi id l fun v Δ _=>K ⟨bt s.env o.dst v,put s.o Δ,s.nx+1⟩
   |none=>match gQ P s s.nx o.op with
    |some (v,Δ,_)=>K ⟨bt s.env o.dst v,put s.o Δ,s.nx+1⟩
    |none=>False
 |op=>match gQ P s s.nx op with
  |some (v,Δ,_)=>K ⟨bt s.env o.dst v,put s.o Δ,s.nx+1⟩
  |none=>False
def pH(P:Program)(X:V->S->Prop)(K:S->Prop):List ck->S->Prop
 |[],s=>K s
 |o::l,s=>match o.gd with
  |none=>J9 P s o X (pH P X K l)
  |some (d,want)=>match s.env d with
   | .d (.bool b)=>if b=want then J9 P s o X (pH P X K l)else pH P X K l ⟨bt s.env o.dst (.cg []),s.o,s.nx+1⟩
   | .cg []=>pH P X K l ⟨bt s.env o.dst (.cg []),s.o,s.nx+1⟩
   |_=>False
def L2(b:Nat)(body:(fX->S->Prop)->S->Prop)(Q:fX->S->Prop)(s:S):Prop:=
 ∃ (J:Nat->S->Prop),(∃m s1,bJ b s s1/\J m s1)/\∀m s0,J m s0->body (fun e s=>match e with| .normal=>∃m' s1,m'<m/\bJ b s s1/\J m' s1|e=>Q e s) s0
@[congr] theorem Tc {b:Nat} {body Q} {s s':S} (h:s=s'):L2 b body Q s=L2 b body Q s':=by subst h;rfl
def qK(t:Bool)(A B:Prop):Prop:=(t=true->A)/\(t=false->B)
@[congr] theorem Td {t t':Bool} {A B:Prop} (h:t=t'):qK t A B=qK t' A B:=by subst h;rfl
@[simp] theorem vg (A B:Prop):qK true A B=A:=by simp[qK]
@[simp] theorem te (A B:Prop):qK false A B=B:=by simp[qK]
section
variable {P:Program}{n b:Nat}
theorem Gy{s:S}{o:ck}{o':Oper}{X X':V->S->Prop}{K K':S->Prop}(fl:o'.op=o.op)(de:o'.dst=o.dst)(hd:iz n o'.dst)(hK:∀s,K s->K' s)(hX:∀v s,X v s->X' v s)(h:J9 P s o X K):opW P n s o' X' K':=by
 refine⟨hd, ?_⟩
 rw[de,fl]
 unfold J9 at h
 have hs:∀ {op:Op},(match gQ P s s.nx op with|some (v,Δ,_)=>K ⟨bt s.env o.dst v,put s.o Δ,s.nx+1⟩|none=>False)->SW P s s.nx op fun v Δ _=>K' ⟨bt s.env o.dst v,put s.o Δ,s.nx+1⟩:=by
  intro op h
  split at h
  ·rename_i v Δ rd he;exact Cy he (hK _ h)
  ·exact h.elim
 split at h
 ·rename_i c hc
  split at h
  ·rename_i f fF
   simp only[hc,fF]
   split at h
   ·rename_i g first cap hf
    unfold Cl
    simp only[hf]
    unfold u4
    split at h
    ·rename_i ds fG
     rcases h with⟨out,hP,h|⟨rD,h⟩|⟨rD,h⟩⟩|h
     ·exact SB
     ·exact Sr
     ·exact Sk
     ·exact abn
    ·exact abn
   ·rename_i id hf
    unfold Cl
    simp only[hf]
    exact eh.mono (fun v o n h=>hK _ h) (fun v o n h=>hX _ _ h) h
   ·exact h.elim
  ·rename_i r m fF
   simp only[hc,fF]
   split at h
   ·rename_i g y hr
    simp only[hr]
    unfold u4
    rcases h with⟨ds,fG,out,hP,h|⟨rD,h⟩|⟨rD,h⟩⟩|h
    ·exact SB
    ·exact Sr
    ·exact Sk
    ·exact .inr (.inr (.inr (.inl (cK.mono (fun v o n h=>hK _ h) (fun v o n h=>hX _ _ h) h))))
   ·exact h.elim
  ·rename_i fF hinv
   rw[hc]at h|-
   obtain⟨LN,args,ts⟩:=c
   cases LN with
   |value f=>exact absurd rfl (fF f)
   |invoke r m=>exact absurd rfl (hinv r m)
   |_=>exact hs h
 ·rename_i x hx
  simp only[hx]
  split at h
  ·rename_i hv;simp only[hv];exact hX _ _ h
  ·rename_i hv;simp only[hv];exact hX _ _ h
  ·exact h.elim
 ·rename_i x str hx
  rw[hx]at h|-
  split at h
  ·rename_i id l hl
   exact .inr ⟨h.1,id,l,hl,fun e=>hK _ (h.2.1 e),fun i k x e=>hK _ (h.2.2 i k x e)⟩
  ·exact hs h
 ·rename_i hc hp uj
  have h2:=hs h
  cases hh:o.op<;>first
   |exact absurd hh (hc _)
   |exact absurd hh (hp _)
   |exact absurd hh (uj _ _)
   |(rw[hh]at h2;exact h2)
theorem jY{ops:Array Oper}{X X':V->S->Prop}{K K':S->Prop}(hK:∀s,K s->K' s)(hX:∀v s,X v s->X' v s):∀ (l:List Oper) (l':List ck) (s:S),lL n ops l=some l'->pH P X K l' s->Ac P n ops X' K' l s
 |[],l',s,h,hr=>by simp[lL]at h;subst h;exact hK _ hr
 |o::l,l',s,h,hr=>by
  simp only[lL]at h
  split at h
  ·rename_i x xs hx Ea
   injection h with h;subst h
   unfold Lp at hx
   split at hx
   ·rename_i hd
    have de:iz n o.dst:=by
     unfold Es at hd;unfold iz
     split at hd<;>simp_all
    simp only[Ac,Ab]
    cases hg:o.guard with
    |none=>
     simp only[hg]at hx
     injection hx with hx;subst hx
     exact Gy rfl rfl de (fun s hs=>jY hK hX l xs s Ea hs) hX hr
    |some p=>
     obtain⟨j,want⟩:=p
     simp only[hg]at hx
     cases Te:sW ops j with
     |none=>simp[Te]at hx
     |some d=>
      simp only[Te]at hx
      injection hx with hx;subst hx
      simp only
      simp only[pH]at hr
      split at hr
      ·rename_i t ht
       simp only[Te,ht]
       split at hr
       ·rename_i e
        exact⟨fun _=>Gy rfl rfl de (fun s hs=>jY hK hX l xs s Ea hs) hX hr,fun h=>absurd e h⟩
       ·rename_i e
        exact⟨fun h=>absurd h e,fun _=>⟨de,jY hK hX l xs _ Ea hr⟩⟩
      ·rename_i ht
       simp only[Te,ht]
       exact⟨de,jY hK hX l xs _ Ea hr⟩
      ·exact hr.elim
   ·cases hx
  ·cases h
end
end
section
mutual
def V.refs:V->List Nat
 | .ptr id _=>[id]| .osl id _=>[id]| .pe id _ _ _ _=>[id]| .xR id _ _=>[id]| .mp id=>[id]| .jW id=>[id]
 | .agg cs=>V.aL cs
 | .cg cs=>V.aL cs
 | .func _ a b=>V.aL a++V.aL b
 | .iface _ x=>x.refs
 |_=>[]
def V.aL:List V->List Nat
 |[]=>[]
 |v::vs=>v.refs++V.aL vs
end
mutual
theorem kx:∀ (v:V),∀id∈v.ids,id∈v.refs
 | .osl id _,j,h=>by simpa[V.ids,V.refs]using h
 | .agg cs,j,h=>by simp only[V.ids]at h;simp only[V.refs];exact mf cs j h
 | .iface _ x,j,h=>by simp only[V.ids]at h;simp only[V.refs];exact kx x j h
 | .mp _,j,h=>by simpa[V.ids,V.refs]using h
 | .d _,_,h| .br,_,h| .cg _,_,h| .ptr _ _,_,h| .pe _ _ _ _ _,_,h| .pp _ _,_,h| .func _ _ _,_,h| .aa,_,h| .rF _,_,h| .xR _ _ _,_,h| .fq,_,h| .jW _,_,h=>by simp[V.ids]at h
theorem mf:∀ (vs:List V),∀id∈V.bD vs,id∈V.aL vs
 |[],j,h=>by simp[V.bD]at h
 |v::vs,j,h=>by
  simp only[V.bD,V.aL,List.mem_append]at h|-
  exact h.imp (kx v j) (mf vs j)
end
mutual
theorem dF{o o':Nat->ab}:∀ (v:V),(∀id∈v.refs,o' id=o id)->ew o' v=ew o v
 | .osl id ep,h=>by simp only[ew,h id (by simp[V.refs])]
 | .mp id,h=>by simp only[ew,h id (by simp[V.refs])]
 | .agg cs,h=>by simp only[ew,jd cs (by simpa[V.refs]using h)]
 | .iface t x,h=>by simp only[ew,dF x (by simpa[V.refs]using h)]
 | .d _,_| .br,_| .cg _,_| .ptr _ _,_| .pe _ _ _ _ _,_| .pp _ _,_| .func _ _ _,_| .aa,_| .rF _,_| .xR _ _ _,_| .fq,_| .jW _,_=>by simp only[ew]
theorem jd{o o':Nat->ab}:∀ (vs:List V),(∀id∈V.aL vs,o' id=o id)->ct o' vs=ct o vs
 |[],_=>rfl
 |v::vs,h=>by
  simp only[ct,dF v (fun id aC=>h id (by simp[V.aL,aC])),jd vs (fun id aC=>h id (by simp[V.aL,aC]))]
end
theorem iT{o o':Nat->ab}{ids:List Nat}(h:∀id∈ids,o' id=o id):dk o' ids=dk o ids:=by
 rw[ml,ml]
 exact List.map_congr_left fun id aC=>by rw[h id aC]
def oS(s:S)(op:Op):List Nat:=
 match op with
 | .load _ x=>(s.ev x).refs
 | .nilCheck x=>(s.ev x).refs
 | .fieldAddr _ x _=>(s.ev x).refs
 | .indexAddr _ x _=>(s.ev x).refs
 | .store _ x v=>(s.ev x).refs++(s.ev v).refs
 | .buildSlice _ _ parts=>V.aL (parts.toList.map fun p=>s.ev p.2)
 | .binOp _ _ x y _=>(s.ev x).refs++(s.ev y).refs
 | .slice _ x _ _ _=>(s.ev x).refs
 | .lookup _ m k _=>(s.ev m).refs++(s.ev k).refs
 | .mapUpdate _ m k v=>(s.ev m).refs++((s.ev k).refs++(s.ev v).refs)
 | .insert _ m k v=>(s.ev m).refs++((s.ev k).refs++(s.ev v).refs)
 | .range _ x=>(s.ev x).refs
 | .next x _=>(s.ev x).refs
 | .entry x=>(s.ev x).refs
 | .call c=>match c.callee with
   | .builtin _=>V.aL (c.args.toList.map s.ev)
   | .value f=>match s.ev f with
     | .func _ first cap=>V.aL (first++c.args.toList.map s.ev++cap)
     |_=>[]
   |_=>[]
 |_=>[]
section
variable {P:Program}{s s':S}{fr:Nat}
theorem tf{o o':Nat->ab}(v:V)(h:∀id∈v.refs,o' id=o id):qG o' v=qG o v:=by
 cases v with
 |osl id ep=>simp only[qG,h id (by simp[V.refs])]
 |d x=>cases x<;>rfl
 |_=>rfl
theorem tg{o o':Nat->ab}(v:V)(q:Nat)(h:∀id∈v.refs,o' id=o id):o8 o' v q=o8 o v q:=by
 cases v<;>simp only[o8]<;>rw[h _ (by simp[V.refs])]
theorem EV{o o':Nat->ab}(v:V)(h:∀id∈v.refs,o' id=o id):BW o' v=BW o v:=by
 have h1:fu o' v=fu o v:=by unfold fu;rw[dF v h]
 cases v<;>first|rfl|simp only[BW,h1]
theorem Al{o o':Nat->ab}(v:V)(h:∀id∈v.refs,o' id=o id):rS o' v=rS o v:=by
 cases v with
 |mp id=>simp only[rS,h id (by simp[V.refs])]
 |d x=>cases x<;>rfl
 |_=>rfl
theorem Am{o o':Nat->ab}(v:V)(h:∀id∈v.refs,o' id=o id):rT o' v=rT o v:=by
 cases v with
 |ptr id off=>simp only[rT,h id (by simp[V.refs])]
 |d x=>cases x<;>rfl
 |_=>rfl
theorem nC{o o':Nat->ab}(v:V)(h:∀id∈v.refs,o' id=o id):oX o' v=oX o v:=by
 cases v with
 |mp id=>simp only[oX,h id (by simp[V.refs])]
 |d x=>cases x<;>rfl
 |_=>rfl
theorem Cz{o o':Nat->ab}(v:V)(h:∀id∈v.refs,o' id=o id):ql o' v=ql o v:=by
 cases v with
 |mp id=>simp only[ql,h id (by simp[V.refs])]
 |d x=>cases x<;>rfl
 |_=>rfl
theorem CA{o o':Nat->ab}(v:V)(str:Bool)(h:∀id∈v.refs,o' id=o id):oY o' v str=oY o v str:=by
 cases v with
 |ptr id off=>cases off<;>simp only[oY,h id (by simp[V.refs])]
 |_=>rfl
theorem An{o o':Nat->ab}(v:V)(h:∀id∈v.refs,o' id=o id):nk o' v=nk o v:=by
 cases v with
 |ptr id off=>cases off<;>simp only[nk,h id (by simp[V.refs])]
 |_=>rfl
theorem Ao{o o':Nat->ab}{fr:Nat}{t:TypeId}{P:Program}(v:V)(h:∀id∈v.refs,o' id=o id):nj P o' fr t v=nj P o fr t v:=by
 unfold nj
 cases v with
 |mp id=>simp only[h id (by simp[V.refs])]
 |d x=>cases x<;>rfl
 |_=>rfl
theorem Ap{o o':Nat->ab}(v:V)(h:∀id∈v.refs,o' id=o id):pq o' v=pq o v:=by
 cases v with
 |ptr id off=>simp only[pq,h id (by simp[V.refs])]
 |_=>rfl
theorem Aq{o o':Nat->ab}(v:V)(h:∀id∈v.refs,o' id=o id):pt o' v=pt o v:=by
 cases v with
 |xR id off n=>simp only[pt,h id (by simp[V.refs])]
 |_=>rfl
theorem EW(op:Op)(hv:∀x∈op.operands,s'.ev x=s.ev x)(ho:∀id∈oS s op,s'.o id=s.o id):gQ P s' fr op=gQ P s fr op:=by
 cases op<;>simp only[gQ]
 case move x=>rw[hv x (by simp[Op.operands])]
 case assign x=>rw[hv x (by simp[Op.operands])]
 case pick c a b=>rw[hv c (by simp[Op.operands]),hv a (by simp[Op.operands]),hv b (by simp[Op.operands])]
 case box t x=>rw[hv x (by simp[Op.operands])]
 case build t parts=>
  have:(parts.toList.map fun p=>(p.1,s'.ev p.2))=parts.toList.map fun p=>(p.1,s.ev p.2):=
   List.map_congr_left fun p hp=>by rw[hv p.2 (by simp only[Op.operands];simp;exact⟨p.1,by simpa using hp⟩)]
  rw[this]
 case buildSlice t len parts=>
  have:(parts.toList.map fun p=>(p.1,s'.ev p.2))=parts.toList.map fun p=>(p.1,s.ev p.2):=
   List.map_congr_left fun p hp=>by rw[hv p.2 (by simp only[Op.operands];simp;exact⟨p.1,by simpa using hp⟩)]
  rw[this]
  have e:(parts.toList.map fun p=>(p.1,s.ev p.2)).map (·.2)=parts.toList.map fun p=>s.ev p.2:=by simp[Function.comp_def]
  have h1:ct s'.o ((parts.toList.map fun p=>(p.1,s.ev p.2)).map (·.2))=ct s.o ((parts.toList.map fun p=>(p.1,s.ev p.2)).map (·.2)):=jd _ (by rw[e];exact ho)
  have h2:dk s'.o (V.bD ((parts.toList.map fun p=>(p.1,s.ev p.2)).map (·.2)))=dk s.o (V.bD ((parts.toList.map fun p=>(p.1,s.ev p.2)).map (·.2))):=
   iT fun id aC=>ho id (by rw[e]at aC;exact mf _ id aC)
  simp only[hU,h1,h2]
 case load t x=>
  rw[hv x (by simp[Op.operands])]
  cases hx:s.ev x<;>simp only[nB]<;>rw[ho _ (by simp[oS,hx,V.refs])]
 case store t x y=>
  rw[hv x (by simp[Op.operands]),hv y (by simp[Op.operands])]
  have h1:ew s'.o (s.ev y)=ew s.o (s.ev y):=dF _ fun id aC=>ho id pk
  have h2:dk s'.o (s.ev y).ids=dk s.o (s.ev y).ids:=iT fun id aC=>ho id (by simp[oS,kx _ _ aC])
  cases hx:s.ev x<;>simp only[sd]<;>rw[ho _ (by simp[oS,hx,V.refs])]
  simp only[h1,h2]
 case nilCheck x=>
  rw[hv x (by simp[Op.operands])]
  cases hx:s.ev x with
  |ptr id off=>simp only[jX];rw[ho _ (by simp[oS,hx,V.refs])]
  |func fn a b=>cases fn<;>rfl
  |_=>rfl
 case binOp op t x y yt=>
  rw[hv x (by simp[Op.operands]),hv y (by simp[Op.operands])]
  have h1:BW s'.o (s.ev x)=BW s.o (s.ev x):=EV _ fun id aC=>ho id pk
  have h2:∀a b,rE P s'.o a b (s.ev x) (s.ev y)=rE P s.o a b (s.ev x) (s.ev y):=fun a b=>by
   have h3:∀id∈(s.ev x).refs,s'.o id=s.o id:=fun id aC=>ho id pk
   have h4:=Al (s.ev x) h3
   have h5:=Am (s.ev x) h3
   unfold rE
   rw[h1,h4,h5]
  unfold eP rU
  simp only[h2]
 case slice t x lo hi mx=>
  rw[hv x (by simp[Op.operands])]
  have e1:lo.map s'.ev=lo.map s.ev:=by cases lo<;>simp[hv,Op.operands]
  have e2:hi.map s'.ev=hi.map s.ev:=by cases hi<;>simp[hv,Op.operands]
  have e3:mx.map s'.ev=mx.map s.ev:=by cases mx<;>simp[hv,Op.operands]
  rw[e1,e2,e3]
  have h3:∀id∈(s.ev x).refs,s'.o id=s.o id:=fun id aC=>ho id pk
  have h1:fu s'.o (s.ev x)=fu s.o (s.ev x):=by unfold fu;rw[dF _ h3]
  have h2:dk s'.o (s.ev x).ids=dk s.o (s.ev x).ids:=iT fun id aC=>h3 id (kx _ _ aC)
  have h4:Ev P s'.o t (s.ev x) (lo.map s.ev) (hi.map s.ev) (mx.map s.ev)=Ev P s.o t (s.ev x) (lo.map s.ev) (hi.map s.ev) (mx.map s.ev):=by
   cases hx:s.ev x with
   |osl id ep=>simp only[Ev,h3 id (by simp[hx,V.refs])]
   |_=>rfl
  unfold rR qj
  simp only[h1,h2,h4,Ap _ h3]
 case field t x f=>rw[hv x (by simp[Op.operands])]
 case typeAssert x xt t ok=>rw[hv x (by simp[Op.operands])]
 case makeMap t r=>cases r<;>rfl
 case lookup t m k ok=>
  rw[hv m (by simp[Op.operands]),hv k (by simp[Op.operands])]
  have h3:∀id∈(s.ev m).refs,s'.o id=s.o id:=fun id aC=>ho id pk
  have h1:ew s'.o (s.ev k)=ew s.o (s.ev k):=dF _ fun id aC=>ho id pk
  unfold iy
  simp only[h1,Cz _ h3]
 case mapUpdate t m k v=>
  rw[hv m (by simp[Op.operands]),hv k (by simp[Op.operands]),hv v (by simp[Op.operands])]
  have h3:∀id∈(s.ev m).refs,s'.o id=s.o id:=fun id aC=>ho id pk
  have h1:ew s'.o (s.ev k)=ew s.o (s.ev k):=dF _ fun id aC=>ho id pk
  have h2:ew s'.o (s.ev v)=ew s.o (s.ev v):=dF _ fun id aC=>ho id pk
  have h4:dk s'.o (s.ev v).ids=dk s.o (s.ev v).ids:=iT fun id aC=>ho id (by simp[oS,kx _ _ aC])
  unfold gE
  simp only[h1,h2,h4,nC _ h3]
 case insert t m k v=>
  rw[hv m (by simp[Op.operands]),hv k (by simp[Op.operands]),hv v (by simp[Op.operands])]
  have h3:∀id∈(s.ev m).refs,s'.o id=s.o id:=fun id aC=>ho id pk
  have h1:ew s'.o (s.ev k)=ew s.o (s.ev k):=dF _ fun id aC=>ho id pk
  have h2:ew s'.o (s.ev v)=ew s.o (s.ev v):=dF _ fun id aC=>ho id pk
  have h4:dk s'.o (s.ev v).ids=dk s.o (s.ev v).ids:=iT fun id aC=>ho id (by simp[oS,kx _ _ aC])
  unfold gE
  simp only[h1,h2,h4,nC _ h3]
 case index t x i=>rw[hv x (by simp[Op.operands]),hv i (by simp[Op.operands])]
 case range t x=>
  rw[hv x (by simp[Op.operands])]
  exact Ao _ fun id aC=>ho id pk
 case next x str=>
  rw[hv x (by simp[Op.operands])]
  exact CA _ _ fun id aC=>ho id pk
 case entry x=>
  rw[hv x (by simp[Op.operands])]
  exact An _ fun id aC=>ho id pk
 case unOp op t x=>rw[hv x (by simp[Op.operands])]
 case convert u t x=>rw[hv x (by simp[Op.operands])]
 case makeInterface t x=>rw[hv x (by simp[Op.operands])]
 case makeFunc fn first cap=>
  have h1:first.toList.map s'.ev=first.toList.map s.ev:=List.map_congr_left fun x hx=>hv x (by simp only[Op.operands];exact Array.mem_append.2 (.inl (Array.mem_toList_iff.1 hx)))
  have h2:cap.toList.map s'.ev=cap.toList.map s.ev:=List.map_congr_left fun x hx=>hv x (by simp only[Op.operands];exact Array.mem_append.2 (.inr (Array.mem_toList_iff.1 hx)))
  rw[h1,h2]
 case makeSlice t l c=>rw[hv l (by simp[Op.operands]),hv c (by simp[Op.operands])]
 case fieldAddr t x f=>
  rw[hv x (by simp[Op.operands])]
  simp only[jb]
  cases cl P t f<;>simp only
  rw[tg _ _ (by simpa[oS]using ho)]
 case indexAddr t x i=>
  rw[hv x (by simp[Op.operands]),hv i (by simp[Op.operands])]
  have h1:∀q,o8 s'.o (s.ev x) q=o8 s.o (s.ev x) q:=fun q=>tg _ _ (by simpa[oS]using ho)
  simp only[ja,h1]
  cases hx:s.ev x with
  |osl id ep=>simp only[ho id (by simp[oS,hx,V.refs])]
  |d y=>cases y<;>rfl
  |_=>rfl
 case extract x i=>rw[hv x (by simp[Op.operands])]
 case call c=>
  obtain⟨LN,args,ts⟩:=c
  cases LN<;>simp only
  rename_i b
  unfold qJ
  have hm:∀x∈args.toList,s'.ev x=s.ev x:=fun x hx=>hv x abh
  have hr:∀x∈args.toList,∀id∈(s.ev x).refs,s'.o id=s.o id:=by
   intro x hx id aC
   refine ho id ?_
   simp only[oS]
   generalize args.toList=l at hx
   induction l with
   |nil=>cases hx
   |cons y l ih=>
    simp only[List.map_cons,V.aL,List.mem_append]
    rcases List.mem_cons.1 hx with rfl|hx
    ·exact .inl aC
    ·exact .inr (ih hx)
  split
  ·rename_i x ha
   rw[ha]at hm hr
   rw[hm x (by simp)]
   have h1:∀t,ER P t s'.o (s.ev x)=ER P t s.o (s.ev x):=fun t=>by simp only[ER,tf _ (hr x (by simp))]
   simp only[h1]
  ·rename_i x y ha
   rw[ha]at hm hr
   rw[hm x (by simp),hm y (by simp)]
   simp only[qH,tf _ (hr y (by simp))]
   cases xU P fr ts (s.ev x) (s.ev y)with
   |some r=>rfl
   |none=>
   dsimp only
   cases hx:s.ev x with
   |osl id ep=>simp only[hr x (by simp) id (by simp[hx,V.refs])]
   |_=>rfl
  ·rename_i x y ha
   rw[ha]at hm
   rw[hm x (by simp),hm y (by simp)]
  ·rename_i x y ha
   rw[ha]at hm
   rw[hm x (by simp),hm y (by simp)]
  ·rename_i x y z h;rw[hm x (by rw[h];simp),hm y (by rw[h];simp),hm z (by rw[h];simp)]
  ·rename_i x y ha
   rw[ha]at hm hr
   rw[hm x (by simp),hm y (by simp)]
   have h1:fu s'.o (s.ev y)=fu s.o (s.ev y):=by unfold fu;rw[dF _ (hr y (by simp))]
   have h2:dk s'.o (s.ev y).ids=dk s.o (s.ev y).ids:=iT fun id aC=>hr y ao id (kx _ _ aC)
   unfold xT
   simp only[h1,h2,Aq _ (hr x (by simp))]
  ·rename_i x y ha
   rw[ha]at hm hr
   rw[hm x (by simp),hm y (by simp)]
   have h1:ew s'.o (s.ev y)=ew s.o (s.ev y):=dF _ (hr y ao)
   have h2:=nC _ (hr x ao)
   simp only[ow,h1,h2]
  ·rename_i x ha
   rw[ha]at hm
   rw[hm x (by simp)]
  ·rfl
end
end
end Go.Proofs.YtonbelhklnmjnaaGreat
