/-
  A PART OF THE PROOF. Conditions: none.
-/
import Derived.Test.YtonbelhklnmjnaaGreatLt5
set_option linter.unusedSimpArgs false
set_option linter.unusedVariables false
namespace Go.Proofs.YtonbelhklnmjnaaGreat
section
variable {P:Program}{M:Nat->Prop}{φ:Place}{H:Hp}{w w':World}{cT:Place}{H0:Hp}{w0:World}{n b:Nat}{s:S}{a:Act}{cx:Cx}{ro:Option Nat}{k:Nat}
theorem iT(hb:∀id,H0.us id->id<b)(tN:cx.rd=false->ro=none):∀ (c:Code) (Q:fS->S->Prop) (s:S) (φ:Place) (a:Act) (w:World),jL P n b cx.rd c Q s->cw M cT H0 w0 n cx φ s a w->c.tn P ro (Fj M cT H0 w0 n cx Q) a w:=by
 intro c
 induction c with
 |skip=>exact fun Q s φ a w h hs=>pg (k:=0) (wpIn_skip ⟨.normal,s,φ,h,hs,trivial⟩)
 |scope x ih=>exact fun Q s φ a w h hs=>xF (ih Q s φ a w h hs) (fun l a w ⟨xx,s',aQ,hq,iK,hm⟩=>by cases xx<;>exact hm)
 |label l=>exact fun Q s φ a w h hs=>pg (k:=0) (wpIn_label ⟨.normal,s,φ,h,hs,trivial⟩)
 |exit id=>exact fun Q s φ a w h hs=>BC ⟨.exit id,s,φ,h,hs,rfl⟩
 |ret=>exact fun Q s φ a w h hs=>Fk ⟨.ret,s,φ,h,hs,trivial⟩
 |goto l=>exact fun Q s φ a w h hs=>h.elim
 |refuse y=>exact fun Q s φ a w h hs=>h.elim
 |rangeFunc g ps x y=>
  intro Q s φ a w h hs
  obtain⟨h1,s',hle,h2⟩:=h
  rcases hle with rfl|hle
  ·exact xI hs h1 (tN h1) h2
  ·obtain⟨aQ,iK⟩:=DY hb hs hle
   exact xI iK h1 (tN h1) h2
 |region id ops draw=>
  intro Q s φ a w h hs
  cases draw with
  |true=>exact pg (h M cT H0 w0 cx φ a w ro 0 hs)
  |false=>
   refine pg (k:=0) (wpIn_region_list (pc (K:=Q .normal) (X:=fun v s=>Q (.bU v) s) (fun s φ a w hk hs=>⟨.normal,s,φ,hk,hs,trivial⟩) (fun v s φ a w val hx hs hd=>⟨.bU v,s,φ,hx,hs,val,rfl,hd⟩) _ s φ a w h hs))
 |seq x y NL NM=>
  intro Q s φ a w h hs
  refine zy (iB (NL _ s φ a w h hs) ?_)
  rintro e a' w' ⟨xx,s',aQ,hq,iK,hm⟩
  cases e<;>cases xx<;>first|(exact hm.elim)|skip
  ·exact NM Q s' aQ a' w' hq iK
  ·subst hm;exact⟨_,s',aQ,hq,iK,rfl⟩
  ·exact⟨.ret,s',aQ,hq,iK,trivial⟩
  ·exact⟨.bU _,s',aQ,hq,iK,hm⟩
 |cond c x y NL NM=>
  intro Q s φ a w h hs
  simp only[jL]at h
  have hc:=m8 (M:=M) (φ:=φ) (H:=s.H) (w:=w) s a hs.env c
  split at h
  ·rename_i t hv
   rw[hv]at hc
   simp only[V.den,D.den]at hc
   cases t with
   |true=>exact qj hc (NL Q s φ a w (h.1 rfl) hs)
   |false=>exact qj hc (NM Q s φ a w (h.2 rfl) hs)
  ·rename_i hv
   rw[hv]at hc
   obtain⟨t,hc⟩:=hc
   cases t with
   |true=>exact qj hc (NL Q s φ a w h.1 hs)
   |false=>exact qj hc (NM Q s φ a w h.2 hs)
  ·exact h.elim
 |block id x ih=>
  intro Q s φ a w h hs
  refine Hj (iB (ih _ s φ a w h hs) ?_)
  rintro e a' w' ⟨xx,s',aQ,hq,iK,hm⟩
  cases e<;>cases xx<;>first|(exact hm.elim)|skip
  ·exact⟨.normal,s',aQ,hq,iK,trivial⟩
  ·subst hm
   simp only[Exit.inBlock]
   simp only[fT]at hq
   split
   ·rename_i he;rw[if_pos he]at hq;exact⟨.normal,s',aQ,hq,iK,trivial⟩
   ·rename_i he;rw[if_neg he]at hq;exact⟨.exit _,s',aQ,hq,iK,rfl⟩
  ·exact⟨.ret,s',aQ,hq,iK,trivial⟩
  ·exact⟨.bU _,s',aQ,hq,iK,hm⟩
 |loop x ih=>
  intro Q s φ a w h hs
  obtain⟨J,⟨m0,s1,hle,hI⟩,mh⟩:=h
  obtain⟨jC,xJ⟩:=DY hb hs hle
  refine zA (fun m a w=>∃s φ,J m s/\cw M cT H0 w0 n cx φ s a w) ?_ m0 a w ⟨s1,jC,hI,xJ⟩
  rintro m a w ⟨s,φ,hI,hs⟩
  refine iB (ih _ s φ a w (mh m s hI) hs) ?_
  rintro e a' w' ⟨xx,s',aQ,hq,iK,hm⟩
  cases e<;>cases xx<;>first|(exact hm.elim)|skip
  ·obtain⟨m2,s2,cJ,Yw,JZ⟩:=hq
   obtain⟨Hk,ML⟩:=DY hb iK Yw
   exact⟨m2,cJ,s2,Hk,JZ,ML⟩
  ·subst hm;exact⟨_,s',aQ,hq,iK,rfl⟩
  ·exact⟨.ret,s',aQ,hq,iK,trivial⟩
  ·exact⟨.bU _,s',aQ,hq,iK,hm⟩
def J0(tmps:Array Value)(r:ResultVar):Sem Value:=
 match r with
 | .tmp t=>pure (tmps.getD t undef)
 | .cell p t=>do loadVar t (<- asAddr (tmps.getD p undef))
theorem tO(qk:aD M φ s.H w)(eL:∀i,V.den (ay M φ s.H) φ s.H w (s.env i) (a.tmps.getD i undef)):∀ (rs:List ResultVar) (vs:List V),mc P s rs=some vs->
 ∃vals,(rs.mapM (J0 a.tmps)).run P w= .ok vals w/\V.aN (ay M φ s.H) φ s.H w vs vals
 |[],vs,h=>by simp[mc]at h;subst h;exact⟨[],aj,rfl⟩
 | .tmp t::rs,vs,h=>by
   simp only[mc,Option.map_eq_some_iff]at h
   obtain⟨us,h1,rfl⟩:=h
   obtain⟨vals,h2,h3⟩:=tO qk eL rs us h1
   exact⟨a.tmps.getD t undef::vals,by simp only[List.mapM_cons,J0,Sem.run_bind,Sem.run_pure,Result.andThen_ok,h2],_,_,rfl,eL t,h3⟩
 | .cell p t::rs,vs,h=>by
   simp only[mc]at h
   split at h
   ·rename_i id off hv
    split at h
    ·rename_i cs ho
     simp only[Option.bind_eq_some_iff,Option.map_eq_some_iff]at h
     obtain⟨v,h0,us,h1,rfl⟩:=h
     obtain⟨vals,h2,h3⟩:=tO qk eL rs us h1
     have hx:=eL p
     rw[hv]at hx
     obtain⟨_,hu,hp⟩:=hx
     obtain⟨k,fb,fO⟩:=hp (by show(s.o id).cC=true;rw[ho];rfl)
     have bp:=qk.ok id
     have xK:s.H.o id= .row cs:=ho
     simp only[bc,xK]at bp
     obtain⟨b',dU,ty,g1,g2,g3,g4⟩:=bp
     rw[fb]at g1;simp at g1;subst g1
     obtain⟨val,h4,h5⟩:=pZ (P:=P) h0 ⟨k,0,none⟩ dU.toList g3 g4 (fun j u hj=>p6 g2 j u la) rfl
     rw[add_plain,Nat.zero_add]at h4
     have h6:(loadVar t ⟨k,off,none⟩).run P w= .ok val w:=by simpa[Instr.loadAt,Instr.sureAddr]using h4
     exact⟨val::vals,by simp only[List.mapM_cons,J0,fO,asAddr,Sem.run_bind,Sem.run_pure,Result.andThen_ok,h6,h2],val,vals,rfl,h5,h3⟩
    ·cases h
   ·cases h
theorem nn{fn:Func}{tmps:Array Value}{vals:List Value}
 (h:(fn.results.toList.mapM (J0 tmps)).run P w= .ok vals w):
 (results fn tmps).run P w= .ok (if h:vals.toArray.size=1 then vals.toArray[0]else .tuple vals.toArray) w:=by
 have e:results fn tmps=(do let vs <- fn.results.mapM (J0 tmps);pure (if h:vs.size=1 then vs[0]else .tuple vs)):=by
  unfold results
  congr 2
 rw[e,Array.mapM_eq_mapM_toList]
 simp only[Sem.run_bind,Sem.run_map,h,Result.andThen_ok,Sem.run_pure]
theorem lM{us:Nat->Prop}(φ:Place)(hM:∀k,M k->k<w.heap.size):aD M φ ⟨fun _=> .no,us⟩ w where
 ok id:=by simp[bc]
 fresh _ _:=rfl
 apart i j k hi:=by simp[ab.live]at hi
 ours k:=by rintro⟨id,h,_⟩;simp[ab.live]at h
 AL:=hM
theorem Hl{vals:Array Value}{m i:Nat}:(vals++Array.replicate m undef).getD i undef=(vals[i]?).getD undef:=by
 simp only[Array.getD_eq_getD_getElem?,Array.getElem?_append]
 split
 ·rfl
 ·rw[Array.getElem?_eq_none (xs:=vals) (by omega)]
  simp only[Array.getElem?_replicate]
  split<;>rfl
structure zB (M:Nat->Prop) (cT:Place) (H0:Hp) (w0:World) (φ:Place) (s:S) (tmps:Array Value) (w:World):Prop where
 heap:aD M φ s.H w
 tr:Trans cT H0 w0 φ s.H w
 env:∀i,V.den (ay M φ s.H) φ s.H w (s.env i) (tmps.getD i undef)
theorem Hn{tmps:Array Value}(hs:zB M cT H0 w0 φ s tmps w){r:Nat}(h1:w0.heap.size<=r)(h2:w.heap[r]? =some (.deferred (some [])))(h3: ¬df φ s.H r):
 zB M cT H0 w0 φ s tmps {w with heap:=w.heap.setIfInBounds r (.deferred none)}:=by
 have iJ:∀b,b≠r->(w.heap.setIfInBounds r (.deferred none))[b]? =w.heap[b]? :=fun b hb=>(MapKept.heap_set h2).2 b hb
 have ze:∀b,dw w b-> ¬ay M φ s.H b->(w.heap.setIfInBounds r (.deferred none))[b]? =w.heap[b]? /\ ¬ay M φ s.H b:=by
  intro b hc hn
  refine⟨iJ b fun e=> ?_,hn⟩
  subst e
  rcases hc with⟨cs,ty,fz,hc⟩|⟨es,clock,hc⟩
  ·rw[h2]at hc;cases hc
  ·rw[h2]at hc;cases hc
 refine⟨⟨fun id=> ?_,hs.heap.fresh,hs.heap.apart,fun b hb=>⟨(hs.heap.ours b hb).1,by simpa using(hs.heap.ours b hb).2⟩,fun b hb=>by simpa using hs.heap.AL b hb⟩,⟨⟨hs.tr.cA.os,hs.tr.cA.tape,hs.tr.cA.output,by simpa using hs.tr.cA.size,fun j hj hm=> ?_⟩,hs.tr.grow,hs.tr.rel⟩,fun i=>V.lD ze (ew.refl _ _) _ _ (hs.env i)⟩
 ·exact bc.A9 ze (ew.refl _ _) rfl rfl (fun hl b hb=>iJ b fun e=>h3 ⟨id,hl,e ▸ hb⟩) (hs.heap.ok id)
 ·rw[iJ j (by omega)];exact hs.tr.cA.block j hj hm
theorem iC{fn:Func}{R:Ending->World->Prop}{u:FrameMode}(hu:u≠ .run){tmps tb:Array Value}{ds:List Deferred}(hR:∀w,zB M cT H0 w0 φ s tb w->LeavesInM (ej none) k P fn tmps R ds u w):
 ∀ (ms:List Nat) (w:World),ms.Nodup->(∀r∈ms,w0.heap.size<=r/\w.heap[r]? =some (.deferred (some []))/\ ¬df φ s.H r)->zB M cT H0 w0 φ s tb w->LeavesInM (ej none) k P fn tmps R (ms.map mark++ds) u w
 |[],w,_,_,hs=>hR w hs
 |r::ms,w,hn,hm,hs=>by
  obtain⟨h1,h2,h3⟩:=hm r aj
  obtain⟨Ho,MG⟩:=List.nodup_cons.1 hn
  refine⟨hu, .inl ⟨r,{w with heap:=w.heap.setIfInBounds r (.deferred none)},rfl, ?_,iC hu hR ms _ MG (fun r' zl=> ?_) (Hn hs h1 h2 h3)⟩⟩
  ·simp[Instr.takeDeferred,getObj,setObj,Sem.run,h2,Result.andThen]
  ·obtain⟨g1,g2,g3⟩:=hm r' (by simp[zl])
   exact⟨g1,((MapKept.heap_set h2).2 r' (fun e=>Ho (e ▸ zl))).trans g2,g3⟩
theorem cw.toB (hs:cw M cT H0 w0 n cx φ s a w):zB M cT H0 w0 φ s a.tmps w:=⟨hs.heap,hs.tr,hs.env⟩
def mi(P:Program)(rs:List ResultVar)(K X:V->(Nat->ab)->Nat->Prop)(e:fS)(s:S):Prop:=
 match e with
 | .normal| .ret=>match mc P s rs with
   |some [v]=>K v s.o s.nx
   |some vs=>K (.cp vs) s.o s.nx
   |none=>False
 | .bU v=>X v s.o s.nx
 | .exit _=>False
theorem BF{P:Program}{rs:List ResultVar}{K X:V->(Nat->ab)->Nat->Prop}{s:S}(h:mi P rs K X .ret s):∃vs,mc P s rs=some vs/\K (match vs with|[v]=>v|vs=> .cp vs) s.o s.nx:=by
 unfold mi at h
 simp only at h
 split at h
 ·rename_i v h1;exact⟨[v],h1,h⟩
 ·rename_i vs h1 h2
  refine⟨vs,h2, ?_⟩
  split
  ·exact absurd rfl (h1 _)
  ·exact h
 ·exact h.elim
theorem BG:∀ {vs:List V} {vals:List Value},V.aN (ay M φ H) φ H w vs vals->V.den (ay M φ H) φ H w (match vs with|[v]=>v|vs=> .cp vs) (if h:vals.toArray.size=1 then vals.toArray[0]else .tuple vals.toArray)
 |[],vals,h=>by simp only[V.aN]at h;subst h;exact⟨#[],rfl,rfl⟩
 |[v],vals,h=>by obtain⟨u,us,rfl,h1,h2⟩:=h;simp only[V.aN]at h2;subst h2;exact h1
 |v::y::l,vals,h=>by
  have h':=h
  obtain⟨u,us,rfl,h1,u2,us2,rfl,h2⟩:=h
  exact⟨(u::u2::us2).toArray,aj,by simpa using h'⟩
theorem uG{vals:Array Value}{m:Nat}{vs:List V}(hd:V.aN (ay M φ H) φ H w vs vals.toList)(i:Nat):V.den (ay M φ H) φ H w (cF vs i) ((vals++Array.replicate m undef).getD i undef):=by
 have hlen:=V.aH _ _ hd
 simp only[cF,Hl]
 cases hx:vs[i]? with
 |none=>
  have:vals[i]? =none:=by
   rw[List.getElem?_eq_none_iff]at hx
   apply Array.getElem?_eq_none
   simp at hlen;omega
  simp only[List.getD_eq_getElem?_getD,hx,this]
  exact⟨#[],rfl,rfl⟩
 |some v=>
  obtain⟨u,hu,Nu⟩:=V.dV _ _ _ _ hd hx
  have wK:vals[i]? =some u:=by simpa using hu
  simp only[List.getD_eq_getElem?_getD,hx,wK,Option.getD_some]
  exact Nu
theorem np{f:FuncId}{fn:Func}{c:Code}{args:Array Value}{w:World}{R:Ending->World->Prop}(hf:P.funcs[f]? =some fn)(hb:fn.body=some c)
 (h:c.tn P none (bodyPostM (ej none) k P fn R) {tmps:=args++Array.replicate (fn.ntmps - args.size) undef,defers:=[]} w):CallsIn (ej none) k P f args w R:=by
 have cJ:f<P.funcs.size:=(Array.getElem?_eq_some_iff.1 hf).1
 refine⟨trivial,fun cs hr=> ?_⟩
 let b:Frame:={(default:Frame)with fn:=f,kind:= .normal,roundOf:=none}
 have mg:Frame.enter P f args .normal=b.atR {tmps:=args++Array.replicate (fn.ntmps - args.size) undef,defers:=[]} [.code c]:=by
  simp[Frame.enter,Frame.atR,hf,hb,b]
 obtain⟨e,a',w',hq,cP⟩:=h b [] cs rfl cJ
 rw[<- mg]at cP
 cases e with
 |normal=>
  obtain⟨e',PF,Yx,hR,hs,Hi,hl⟩:=leaves_stepsInM a'.defers .returning w' {b.atR a' []with mode:= .returning} cs rfl rfl rfl hf rfl (trivial:(ej none).fn f) hr hq
  exact⟨e',PF,Yx,hR,ComesIn.of_steps (StepsIn.trans cP (.one (fenced_calm (n:=0) (fr:=b.atR a' []) trivial iA rfl) (stepR_end rfl))) hs,Hi,hl⟩
 |ret=>
  obtain⟨todo,J1⟩:=cP.1 rfl
  obtain⟨e',PF,Yx,hR,hs,Hi,hl⟩:=leaves_stepsInM a'.defers .returning w' {b.atR a' todo with mode:= .returning} cs rfl rfl rfl hf rfl (trivial:(ej none).fn f) hr hq
  exact⟨e',PF,Yx,hR,ComesIn.of_steps J1 hs,Hi,hl⟩
 |panic chain=>
  obtain⟨todo,J1⟩:=cP
  obtain⟨e',PF,Yx,hR,hs,Hi,hl⟩:=leaves_stepsInM a'.defers (.panicking chain) w' {b.atR a' todo with mode:= .panicking chain} cs rfl rfl rfl hf rfl (trivial:(ej none).fn f) hr hq
  exact⟨e',PF,Yx,hR,ComesIn.of_steps J1 hs,Hi,hl⟩
 |exit id=>exact hq.elim
 |goto l=>exact hq.elim
 |outgrown=>exact⟨.outgrown,w',b,hq,cP.resolve_left (by simp[b]),rfl,trivial⟩
def D0(P:Program)(l:Nat)(R:Ending->World->Prop):Exit->Act->World->Prop
 | .normal,_,w=>∃v w',(Instr.endRound l none).run P w= .ok v w'/\R (.returned v) w'
 | .ret,_,w=>∃v w',(Instr.endRound l (some .ret)).run P w= .ok v w'/\R (.returned v) w'
 | .exit id,_,w=>∃v w',(Instr.endRound l (some (.exit id))).run P w= .ok v w'/\R (.returned v) w'
 | .goto _,_,_=>False
 | .panic chain,a,w=>a.defers=[]/\R (.panicked chain) w
 | .outgrown,_,_=>False
theorem uH{l:Nat}{f:FuncId}{tmps:Array Value}{assign body:Code}{w:World}{R:Ending->World->Prop}(hf:f<P.funcs.size)
 (h:assign.tn P (some l) (Exit.then (fun jQ gM=>∃rH,(Instr.beginRound l).run P gM= .ok () rH/\body.tn P (some l) (D0 P l R) jQ rH) (fun e a w=>match e with| .panic chain=>a.defers=[]/\R (.panicked chain) w|_=>False))
  {tmps:=tmps,defers:=[]} w):
 RoundIn Fence.wide n P l f tmps assign body w R:=by
 refine⟨trivial,fun c cs hr=> ?_⟩
 let b:Frame:={(default:Frame)with fn:=f,kind:= .normal,roundOf:=some l}
 have MM:Frame.round l f tmps assign body .normal=b.atR {tmps:=tmps,defers:=[]} [.code assign, .beginRound, .code body]:=by
  simp[Frame.round,Frame.atR,b]
 have calm:∀ (m:Machine),m.fenced P Fence.wide:=fun m=>fenced_wide P m
 have bU:∀ {a:Act} {w:World} {todo:List Item} {chain:List PanicEntry},a.defers=[]->step P (lone {b.atR a todo with mode:= .panicking chain} (c::cs) w)= .next (lone (c.raise chain) cs w):=by
  intro a w todo chain hd
  exact step_leave_panicked (fr:={b.atR a todo with mode:= .panicking chain}) ⟨rfl,hd,P.funcs[f],by show P.funcs[f]? =_;simp[hf]⟩
 obtain⟨e,jQ,gM,hq,cP⟩:=h b [.beginRound, .code body] (c::cs) rfl hf
 rw[<- MM]at cP
 cases e with
 |normal=>
  obtain⟨rH,hbr,ql⟩:=hq
  have s1:StepsIn (Machine.fenced P Fence.wide) P (lone (b.atR jQ [.beginRound, .code body]) (c::cs) gM) (lone (b.atR jQ [.code body]) (c::cs) rH):= .one (calm _) (stepR_beginRound rfl hbr)
  obtain⟨Tt,Yu,DW,qi,kT⟩:=ql b [] (c::cs) rfl hf
  have cP:StepsIn (Machine.fenced P Fence.wide) P _ _:=cP
  cases Tt with
  |normal=>
   obtain⟨v,tp,cQ,hR⟩:=qi
   have kT:StepsIn (Machine.fenced P Fence.wide) P _ _:=kT
   exact⟨.returned v,tp,hR,(StepsIn.trans cP s1).trans (StepsIn.trans kT (.one (calm _) (stepR_round_end rfl rfl cQ)))⟩
  |ret=>
   obtain⟨v,tp,cQ,hR⟩:=qi
   obtain⟨k₁,hs⟩:=kT.2 rfl
   have hs:StepsIn (Machine.fenced P Fence.wide) P _ _:=hs
   exact⟨.returned v,tp,hR,(StepsIn.trans cP s1).trans (StepsIn.trans hs (.one (calm _) (stepR_round_ret rfl rfl cQ)))⟩
  |exit id=>
   obtain⟨v,tp,cQ,hR⟩:=qi
   obtain⟨k₁,hk,hs⟩:=kT.2 rfl rfl
   have hs:StepsIn (Machine.fenced P Fence.wide) P _ _:=hs
   exact⟨.returned v,tp,hR,(StepsIn.trans cP s1).trans (StepsIn.trans hs (.one (calm _) (stepR_round_exit rfl rfl hk cQ)))⟩
  |goto t=>exact qi.elim
  |panic chain=>
   obtain⟨todo,hs⟩:=kT
   have hs:StepsIn (Machine.fenced P Fence.wide) P _ _:=hs
   exact⟨.panicked chain,DW,qi.2,(StepsIn.trans cP s1).trans (StepsIn.trans hs (.one (calm _) (bU qi.1)))⟩
  |outgrown=>exact qi.elim
 |exit id=>exact hq.elim
 |goto t=>exact hq.elim
 |ret=>exact hq.elim
 |panic chain=>
  obtain⟨todo,hs⟩:=cP
  have hs:StepsIn (Machine.fenced P Fence.wide) P _ _:=hs
  exact⟨.panicked chain,gM,hq.2,StepsIn.trans hs (.one (calm _) (bU hq.1))⟩
 |outgrown=>exact hq.elim
theorem cO.Fo {f:FuncId}{fn:Func}{c:Code}{args:List V}{o:Nat->ab}{nx:Nat}{K X:V->(Nat->ab)->Nat->Prop}(hf:P.funcs[f]? =some fn)(hn:(fn.name== "runtime.NumGoroutine")=false)(ql:fn.body=some c)(hl:args.length<=fn.ntmps)
 (h:jL P fn.ntmps nx false c (mi P fn.results.toList K X) ⟨cF args,o,nx⟩):cO P f args o nx K X:=by
 refine⟨⟨fn,hf,hn,by rw[ql];rfl⟩,fun M φ w vals hH hd=> ?_⟩
 have hlen:=V.aH _ _ hd
 let s0:S:=⟨cF args,o,nx⟩
 let a0:Act:={tmps:=vals++Array.replicate (fn.ntmps - vals.size) undef,defers:=[]}
 have gB:cw M φ (hp o nx) w fn.ntmps ⟨[],false⟩ φ s0 a0 w:=by
  refine⟨hH,Trans.refl _ _ _, ?_,⟨[],rfl,List.nodup_nil,fun _=>rfl,fun r hr=>by cases hr⟩,uG hd⟩
  simp only[a0,Array.size_append,Array.size_replicate];simp at hlen;omega
 refine Bx (ro:=none) (k:=0) (np hf ql (iB (iT (P:=P) (H0:=hp o nx) (b:=nx) (cx:=⟨[],false⟩) (ro:=none) (fun id hu=>hu) (fun _=>rfl) c _ s0 φ a0 w h gB) ?_))
 rintro e a w' ⟨x,s,aQ,hq,hs,hm⟩
 obtain⟨ms,g1,g2,g3,g4⟩:=hs.defers
 rw[List.append_nil]at g1
 have done:(x= .normal\/x= .ret)->LeavesInM (ej none) 0 P fn a.tmps (nh M φ (hp o nx) w K X) a.defers .returning w':=by
  intro hx
  have hq':mi P fn.results.toList K X .ret s:=by rcases hx with rfl|rfl<;>exact hq
  obtain⟨vs,h1,h2⟩:=BF hq'
  rw[g1]
  have:=iC (P:=P) (k:=0) (fn:=fn) (R:=nh M φ (hp o nx) w K X) (u:= .returning) aj (ds:=[]) (fun w2 hb=>by
   obtain⟨vals,h3,h4⟩:=tO (P:=P) (a:=a) hb.heap hb.env _ _ h1
   exact⟨_,nn h3,aQ,s.o,s.nx,_,hb.heap,hb.tr,BG h4,h2⟩) ms w' g2 g4 hs.toB
  rwa [List.append_nil]at this
 cases e<;>cases x<;>first|(exact hm.elim)|skip
 ·exact done (.inl rfl)
 ·exact hq.elim
 ·exact done (.inr rfl)
 ·rename_i v
  obtain⟨val,rfl,hd'⟩:=hm
  show LeavesInM (ej none) 0 P fn a.tmps (nh M φ (hp o nx) w K X) a.defers _ w'
  rw[g1]
  have MM:zB M φ (hp o nx) w aQ ⟨fun i=>if i=0 then v else .aa,s.o,s.nx⟩ #[val] w':=⟨hs.heap,hs.tr,fun i=>by
   by_cases hi:i=0
   ·subst hi;exact hd'
   ·simp only[hi,if_false];trivial⟩
  have:=iC (P:=P) (k:=0) (fn:=fn) (s:=⟨fun i=>if i=0 then v else .aa,s.o,s.nx⟩) (tmps:=a.tmps) (tb:=#[val]) (cT:=φ) (H0:=hp o nx) (w0:=w) (R:=nh M φ (hp o nx) w K X) (u:= .panicking [{v:=val,recovered:=false}]) aj (ds:=[]) (fun w2 hb=>by
   have h0:=hb.env 0
   exact⟨aQ,s.o,s.nx,v,hb.heap,hb.tr,val,rfl,h0,hq⟩) ms w' g2 g4 MM
  rwa [List.append_nil]at this
theorem a8.mj {f:FuncId}{ds:List D}{out:R}(h:cO P f (ds.map .d) (fun _=> .no) 0 (fun v o _=>∃vs rs,v=(match vs with|[v]=>v|vs=> .cp vs)/\ct o vs=some rs/\out= .ret rs) (fun v o _=>∃x,eg o v=some x/\out= .bU x)):a8 P f ds out:=by
 refine⟨h.1,fun M w vals hM hd=> ?_⟩
 let cT:Place:=fun _=> .nilFunc
 have wO:∀b, ¬df cT (hp (fun _=> .no) 0) b:=by rintro b ⟨id,hl,_⟩;simp[hp,ab.live]at hl
 refine(h.2 M cT w vals (lM cT hM) ((V.cE _ _).2 (D.ba (w:=w) (w':=w) (B:=M) (fun b _ hB=>⟨rfl,fun h=>h.elim hB (wO b)⟩) _ _ hd))).mono ?_
 rintro e w' ⟨aQ,o',nx',v,k1,k2,k3⟩
 have xL:eK (fun _=>False) w w':=⟨k2.cA.os,k2.cA.tape,k2.cA.output,k2.cA.size,fun k hk _=>k2.cA.block k hk (wO k)⟩
 have fin:∀ (vs:List V) (xs:List D) (vals:List Value),ct o' vs=some xs->V.aN (ay M aQ (hp o' nx')) aQ (hp o' nx') w' vs vals->D.aN M w' xs vals:=by
  intro vs xs vals h1 h2
  obtain⟨f1,f2,f3,f4,f5⟩:=dx k1 (V.bF vs) (dm vs _ h2)
  have h3:=dH f1 vs xs vals f3 h1 (V.ba f2 _ _ h2)
  exact D.ba (w:=w') (w':=w') (fun k _ hB=>⟨rfl,fun hM=>hB (.inl hM)⟩) xs vals h3
 refine⟨xL, ?_⟩
 cases e with
 |outgrown=>exact k3.elim
 |panicked ch=>
  obtain⟨val,rfl,g1,x,g2,rfl⟩:=k3
  have:=fin [v] [x] [val] (by simp[ct,g2]) ⟨val,[],rfl,g1,rfl⟩
  obtain⟨u,us,he,h2,_⟩:=this
  simp at he;obtain⟨rfl,rfl⟩:=he
  exact⟨val,rfl,h2⟩
 |returned val=>
  obtain⟨g1,vs,rs,rfl,g2,rfl⟩:=k3
  match vs,g1,g2 with
  |[],g1,g2=>
   obtain⟨arr,rfl,hv⟩:=g1
   simp only[ct,Option.some.injEq]at g2;subst g2
   exact⟨arr,rfl,hv⟩
  |[v],g1,g2=>
   have:=fin [v] rs [val] g2 ⟨val,[],rfl,g1,rfl⟩
   cases rs with
   |nil=>cases this
   |cons x l=>
    obtain⟨u,us,he,h2,h3⟩:=this
    simp at he;obtain⟨rfl,rfl⟩:=he
    cases l with
    |nil=>exact h2
    |cons y l=>obtain⟨_,_,h,_⟩:=h3;cases h
  |v::v2::l,g1,g2=>
   obtain⟨arr,rfl,h⟩:=g1
   have:=fin (v::v2::l) rs arr.toList g2 h
   have hl:=D.aH _ _ this
   have Jm:=V.aH _ _ h
   match rs,hl,this with
   |[],hl,_=>exact Nd
   |[x],hl,_=>exact Nd
   |x::y::l,_,this=>exact⟨arr,rfl,this⟩
theorem Hq{rs:List ResultVar}{out:R}(e:fS)(s:S)(h:DV P rs out e s):
 mi P rs (fun v o _=>∃vs rs,v=(match vs with|[v]=>v|vs=> .cp vs)/\ct o vs=some rs/\out= .ret rs) (fun v o _=>∃x,eg o v=some x/\out= .bU x) e s:=by
 have ret:DV P rs out .ret s->mi P rs (fun v o _=>∃vs rs,v=(match vs with|[v]=>v|vs=> .cp vs)/\ct o vs=some rs/\out= .ret rs) (fun v o _=>∃x,eg o v=some x/\out= .bU x) .ret s:=by
  intro h
  obtain⟨vs,xs,h1,h2,h3⟩:=JS h
  simp only[mi,h1]
  match vs,h2 with
  |[],h2=>exact⟨[],xs,rfl,h2,h3⟩
  |[v],h2=>exact⟨[v],xs,rfl,h2,h3⟩
  |v::v2::l,h2=>exact⟨v::v2::l,xs,rfl,h2,h3⟩
 cases e with
 |normal=>exact ret h
 |ret=>exact ret h
 |exit id=>exact h.elim
 |bU v=>exact JT h
end
end Go.Proofs.YtonbelhklnmjnaaGreat
namespace Go.Proofs.YtonbelhklnmjnaaGreat
def J2{α:Type}(c:Bool)(x:α):Option α:=if c=true then some x else none
def one(v:V):Option gL:=some (v,[],[])
def BH(op:BinOp)(k:IntKind)(a b:Int):Option V:=
 match op with
 | .add=>some (.d (.int k (k.wrap (a+b))))
 | .sub=>some (.d (.int k (k.wrap (a - b))))
 | .mul=>some (.d (.int k (k.wrap (a*b))))
 | .quo=>if b=0 then none else some (.d (.int k (k.wrap (a.tdiv b))))
 | .rem=>if b=0 then none else some (.d (.int k (a.tmod b)))
 | .and=>(uk .and k a b).map fun r=> .d (.int k r)
 | .or=>(uk .or k a b).map fun r=> .d (.int k r)
 | .xor=>(uk .xor k a b).map fun r=> .d (.int k r)
 | .andNot=>(uk .andNot k a b).map fun r=> .d (.int k r)
 | .eql=>some (.d (.bool (a==b)))| .neq=>some (.d (.bool (a !=b)))| .lss=>some (.d (.bool (decide (a<b))))| .leq=>some (.d (.bool (decide (a<=b))))
 | .gtr=>some (.d (.bool (decide (b<a))))| .geq=>some (.d (.bool (decide (b<=a))))
 |_=>none
def nZ(P:Program)(t:TypeId):Bool:=
 match P.underlying t with
 |some .bool=>true
 |_=>false
def zC(P:Program)(op:BinOp)(t:TypeId)(x y:V):Option V:=
 match x,y with
 | .d (.int k a), .d (.int k' b)=>if k=k' then BH op k a b else none
 | .d (.bool a), .d (.bool b)=>match op with
   | .eql=>J2 (nZ P t) (.d (.bool (a==b)))
   | .neq=>J2 (nZ P t) (.d (.bool (a !=b)))
   |_=>none
 | .d (.str a), .d (.str b)=>match op with
   | .eql=>some (.d (.bool (a==b)))
   | .neq=>some (.d (.bool (a !=b)))
   |_=>none
 |_,_=>none
def unF(op:UnOp)(x:V):Option V:=
 match op,x with
 | .neg, .d (.int k n)=>some (.d (.int k (k.wrap (-n))))
 | .not, .d (.bool b)=>some (.d (.bool !b))
 |_,_=>none
def qm(c a b:V):Option V:=
 match c with
 | .d (.bool true)=>some a
 | .d (.bool false)=>some b
 |_=>none
def qn(o:Nat->ab)(x:V):Option (List D×List Nat):=
 match x with
 | .d (.sl es)=>some (es,[])
 | .bO=>some ([],[])
 | .qZ es=>some (es,[])
 | .osl id ep=>match o id with
   | .arr jr _ _ es=>if ep=jr then some (es,[id])else none
   | .sv jr es=>if ep=jr then some (es,[id])else none
   |_=>none
 |_=>none
def D1(P:Program)(t:TypeId)(o:Nat->ab)(x:V):Option gL:=
 match P.underlying t with
 |some (.slice _)=>match qn o x with
  |some (es,rd)=>some (.d (.int .i64 es.length),[],rd)
  |none=>none
 |some .string=>match x with
  | .d (.str s)=>one (.d (.int .i64 s.length))
  |_=>none
 |some (.array n _)=>one (.d (.int .i64 n))
 |_=>none
def xM(P:Program)(e:TypeId)(es:List D)(i:Int)(rd:List Nat):Option gL:=
 if 0<=i then match es[i.toNat]? with
  |some y=>J2 (y.cells.length==P.cellsOf e&&0<P.cellsOf e) (.pp y.cells 0,[],rd)
  |none=>none
 else none
def oL(o:Nat->ab)(x:V)(q:Nat):Option V:=
 match x with
 | .ptr id off=>J2 (o id).cC (.ptr id (off+q))
 | .pp cs off=>some (.pp cs (off+q))
 | .pe id ep j sz off=>if(o id).cy=some ep then some (.pe id ep j sz (off+q))else none
 |_=>none
def iU(P:Program)(o:Nat->ab)(t:TypeId)(x ix:V):Option gL:=
 match ix with
 | .d (.int _ i)=>match cK P t with
   |some e=>match x with
    | .d (.sl es)=>xM P e es i []
    | .qZ es=>xM P e es i []
    | .osl id ep=>match o id with
      | .arr jr _ sz es=>if ep=jr/\0<=i/\i.toNat<es.length/\sz=P.cellsOf e/\0<P.cellsOf e then some (.pe id ep i.toNat sz 0,[],[id])else none
      | .sv jr es=>if ep=jr then xM P e es i [id]else none
      |_=>none
    |_=>none
   |none=>match A2 P t with
    |some (n,e)=>if 0<=i/\i<n/\(P.info? e).isSome=true then(oL o x (i.toNat*P.cellsOf e)).bind one else none
    |none=>none
 |_=>none
def iV(P:Program)(o:Nat->ab)(t:TypeId)(x:V)(f:Nat):Option V:=
 match cD P t f with
 |some q=>oL o x q
 |none=>none
def nq(P:Program)(o:Nat->ab)(t:TypeId)(x:V):Option gL:=
 match x with
 | .ptr id off=>match o id with
   | .row cs=>match fi P t cs off with
     |some v=>some (v,[],[id])
     |none=>none
   |_=>none
 | .pp cs off=>match fi P t (cs.map .d) off with
   |some v=>some (v,[],[])
   |none=>none
 | .pe id ep i sz off=>match o id with
   | .arr jr _ ra es=>if ep=jr/\sz=ra then match es[i]? with
    |some e=>match fi P t (e.cells.map .d) off with
     |some v=>some (v,[],[id])
     |none=>none
    |none=>none
     else none
   |_=>none
 |_=>none
def rI(P:Program)(o:Nat->ab)(t:TypeId)(x v:V):Option gL:=
 match x with
 | .ptr id off=>match o id with
   | .row cs=>match zc P t cs off v with
     |some cs'=>some (.cp [],[(id, .row cs')],[id])
     |none=>none
   |_=>none
 | .pe id ep i ra off=>match o id with
   | .arr jr ty sz es=>if ep=jr/\ra=sz then match es[i]?,eg o v with
    |some e,some y=>if y.cells.length=P.cellsOf t/\0<y.cells.length/\v.ids.all (· !=id)=true then match e.put off y.cells with
     |some e'=>some (.cp [],dn o v.ids++[(id, .arr ep ty sz (es.set i e'))],id::v.ids)
     |none=>none
     else none
    |_,_=>none
     else none
   |_=>none
 |_=>none
def hY(P:Program)(o:Nat->ab)(fr:Nat)(t:TypeId)(len:Nat)(parts:List (Nat×V)):Option gL:=
 match cK P t with
 |some e=>if len=0/\parts.isEmpty=true/\0<P.cellsOf e then some (.osl fr 0,[(fr, .arr 0 e (P.cellsOf e) [])],[])else if parts.map (·.1)=List.range len/\(cN P e).isSome=true/\0<len/\0<P.cellsOf e/\len*P.cellsOf e<=2^24 then match ct o (parts.map (·.2))with
  |some ds=>if ds.all (fun x=>x.cells.length==P.cellsOf e)=true then some (.osl fr 0,dn o (V.bF (parts.map (·.2)))++[(fr, .arr 0 e (P.cellsOf e) ds)],V.bF (parts.map (·.2)))else none
  |none=>none
  else none
 |none=>none
def ml(P:Program)(fr:Nat)(t:TypeId)(l c:V):Option gL:=
 match cK P t with
 |some e=>match l,c with
  | .d (.int _ n), .d (.int _ m)=>if n=m/\0<=n/\0<P.cellsOf e/\P.bytesOf e*n.toNat<=2^47/\n.toNat<=2^47 then match A5 P e with
   |some x=>some (.osl fr 0,[(fr, .arr 0 e (P.cellsOf e) (List.replicate n.toNat x))],[])
   |none=>none
    else none
  |_,_=>none
 |none=>none
def qo(P:Program)(o:Nat->ab)(fr:Nat)(ts:Array TypeId)(x y:V):Option gL:=
 match ts.toList with
 |[t,t']=>if t=t' then match cK P t,qn o y with
    |some e,some (new,rd)=>if 0<P.cellsOf e/\(cN P e).isSome=true/\new.all (fun z=>z.cells.length==P.cellsOf e)=true then match x with
     | .bO=>if new.length<=2^47/\new.length*P.bytesOf e<=2^47 then some (.osl fr 0,[(fr, .arr 0 e (P.cellsOf e) new)],rd)else none
     | .qZ es=>if es.all (fun z=>z.cells.length==P.cellsOf e)=true then(if new=[]then some (.qZ es,[],rd)else if es.length+new.length<=2^40/\(es.length+new.length)*P.bytesOf e<=2^40 then some (.osl fr 0,[(fr, .arr 0 e (P.cellsOf e) (es++new))],rd)else none)else none
     | .osl id ep=>match o id with
       | .arr jr ty sz es=>if ep=jr/\ty=e/\sz=P.cellsOf e/\es.length+new.length<=2^47/\(es.length+new.length)*P.bytesOf e<=2^47 then
        some (.osl id (ep+1),[(id, .arr (ep+1) ty sz (es++new))],id::rd)else none
       |_=>none
     |_=>none
     else none
    |_,_=>none
  else none
 |_=>none
def qp(isMax:Bool)(x y:V):Option V:=
 match x,y with
 | .d (.int k a), .d (.int k' b)=>if k=k' then some (.d (.int k (if isMax then(if b>a then b else a)else(if b<a then b else a))))else none
 |_,_=>none
def lN(x:Option V):Option gL:=match x with|some v=>one v|none=>none
def qq(P:Program)(s:S)(fr:Nat)(b:Builtin)(args:List Operand)(ts:Array TypeId):Option gL:=
 match b,args with
 | .len,[x]=>match ts.toList with
   |[t]=>D1 P t s.o (s.ev x)
   |_=>none
 | .append,[x,y]=>match xg P fr ts (s.ev x) (s.ev y)with
   |some r=>some r
   |none=>qo P s.o fr ts (s.ev x) (s.ev y)
 | .max,[x,y]=>lN (qp true (s.ev x) (s.ev y))
 | .min,[x,y]=>lN (qp false (s.ev x) (s.ev y))
 | .max,[x,y,z]=>lN (Jv (s.ev x) (s.ev y) (s.ev z))
 | .copy,[x,y]=>xf P s.o ts (s.ev x) (s.ev y)
 | .delete,[x,y]=>match ts.toList.head? with
   |some t=>nW P s.o t (s.ev x) (s.ev y)
   |none=>none
 | .cap,[x]=>Nq P ts (s.ev x)
 |_,_=>none
def rJ(P:Program)(t:TypeId)(parts:List (Nat×V)):Option V:=
 match cN P t,gy P t with
 |some z,some pl=>match sw pl z parts with
  |some cs=>some (mD cs)
  |none=>none
 |_,_=>none
def jV(o:Nat->ab)(x:V):Option V:=
 match x with
 | .ptr id off=>J2 (o id).cC (.ptr id off)
 | .pp cs off=>some (.pp cs off)
 | .func (.func f) first cap=>some (.func (.func f) first cap)
 |_=>none
def iW(P:Program)(t:TypeId):Bool:=
 match P.underlying t with
 |some (.interface _)=>false
 |some _=>true
 |none=>false
def J3(P:Program)(t:TypeId)(x:V):Option V:=
 J2 (iW P t) (match x with
  | .d y=> .d (.iface t y)
  |v=> .iface t v)
def eH(P:Program)(o:Nat->ab)(op:BinOp)(t:TypeId)(oY:Bool)(x y:V):Option gL:=
 match zC P op t x y with
 |some v=>one v
 |none=>ry P o op t oY x y
def GP(op:UnOp)(x:V):Option V:=
 match op,x with
 | .not, .fh=>some .fh
 |op,x=>unF op x
def gN(P:Program)(s:S)(fr:Nat)(op:Op):Option gL:=
 match op with
 | .move x=>one (s.ev x)
 | .assign x=>one (s.ev x)
 | .pick c a b=>lN (qm (s.ev c) (s.ev a) (s.ev b))
 | .alloc t=>match cN P t with
   |some cs=>some (.ptr fr 0,[(fr, .row cs)],[])
   |none=>none
 | .box _ x=>match(s.ev x).cells with
   |some cs=>some (.ptr fr 0,[(fr, .row cs)],[])
   |none=>none
 | .build t parts=>lN (rJ P t (parts.toList.map fun p=>(p.1,s.ev p.2)))
 | .buildSlice t len parts=>hY P s.o fr t len (parts.toList.map fun p=>(p.1,s.ev p.2))
 | .load t x=>nq P s.o t (s.ev x)
 | .store t x v=>rI P s.o t (s.ev x) (s.ev v)
 | .nilCheck x=>lN (jV s.o (s.ev x))
 | .binOp op t x y _=>eH P s.o op t (isConst x||isConst y) (s.ev x) (s.ev y)
 | .unOp op _ x=>lN (GP op (s.ev x))
 | .convert u t x=>match P.underlying u,uj P t,s.ev x with
   |some _,some k, .d (.int _ n)=>one (.d (.int k (k.wrap n)))
   |_,_,_=>none
 | .makeInterface t x=>lN (J3 P t (s.ev x))
 | .makeFunc fn first cap=>one (.func fn (first.toList.map s.ev) (cap.toList.map s.ev))
 | .makeSlice t l c=>ml P fr t (s.ev l) (s.ev c)
 | .fieldAddr t x f=>lN (iV P s.o t (s.ev x) f)
 | .indexAddr t x i=>iU P s.o t (s.ev x) (s.ev i)
 | .extract x i=>match s.ev x with
   | .cp vs=>match vs[i]? with
     |some v=>one v
     |none=>none
   |_=>none
 | .call c=>match c.callee with
   | .builtin b=>qq P s fr b c.args.toList c.argTypes
   |_=>none
 | .slice t x lo hi mx=>rq P s.o t (s.ev x) (lo.map s.ev) (hi.map s.ev) (mx.map s.ev)
 | .field t x f=>lN (uo P t (s.ev x) f)
 | .index t x i=>lN (uq P t (s.ev x) (s.ev i))
 | .typeAssert x _ t ok=>lN (pT P t ok (s.ev x))
 | .makeMap t none=>mX P fr t
 | .lookup t m k ok=>jl P s.o t (s.ev m) (s.ev k) ok
 | .mapUpdate t m k v=>gz P s.o t (s.ev m) (s.ev k) (s.ev v)
 | .insert t m k v=>gz P s.o t (s.ev m) (s.ev k) (s.ev v)
 | .range t x=>mY P s.o fr t (s.ev x)
 | .next x str=>oG s.o (s.ev x) str
 | .entry x=>mZ s.o (s.ev x)
 |_=>none
section
variable {P:Program}{s:S}{fr:Nat}{v:V}{Δ:List (Nat×ab)}{rd:List Nat}{o:Nat->ab}{K:V->List (Nat×ab)->List Nat->Prop}
theorem rK{α:Type}{c:Bool}{x y:α}(h:J2 c x=some y):c=true/\x=y:=by
 unfold J2 at h;split at h
 ·injection h with h;exact⟨by assumption,h⟩
 ·cases h
theorem lh{x:V}{r:gL}(h:one x=some r):r=(x,[],[]):=by unfold one at h;injection h with h;exact h.symm
theorem gC{x:Option V}{r:gL}(h:lN x=some r):∃v,x=some v/\r=(v,[],[]):=by
 unfold lN at h;split at h
 ·exact⟨_,rfl,lh h⟩
 ·cases h
theorem D2{x:V}{es:List D}{rd:List Nat}(h:qn o x=some (es,rd)):fj o x=some es/\rd=x.ids:=by
 unfold qn at h
 split at h
 ·exact SM
 ·exact SM
 ·exact SM
 ·split at h
  ·rename_i ho
   split at h
   ·rename_i e;simp at h;obtain⟨rfl,rfl⟩:=h;exact⟨by simp[fj,eg,ho,e],rfl⟩
   ·cases h
  ·rename_i ho
   split at h
   ·rename_i e;simp at h;obtain⟨rfl,rfl⟩:=h;exact⟨by simp[fj,eg,ho,e],rfl⟩
   ·cases h
  ·cases h
 ·cases h
theorem Hr{op:BinOp}{k:IntKind}{a b:Int}{v:V}(h:BH op k a b=some v){K:V->Prop}(hK:K v):Nn op k a b K:=by
 cases op<;>simp only[BH]at h<;>simp only[Nn]
 case quo=>split at h
           ·cases h
           ·injection h with h;subst h;exact⟨by assumption,hK⟩
 case rem=>split at h
           ·cases h
           ·injection h with h;subst h;exact⟨by assumption,hK⟩
 case and=>simp only[Option.map_eq_some_iff]at h;obtain⟨r,h1,rfl⟩:=h;exact⟨r,h1,hK⟩
 case or=>simp only[Option.map_eq_some_iff]at h;obtain⟨r,h1,rfl⟩:=h;exact⟨r,h1,hK⟩
 case xor=>simp only[Option.map_eq_some_iff]at h;obtain⟨r,h1,rfl⟩:=h;exact⟨r,h1,hK⟩
 case andNot=>simp only[Option.map_eq_some_iff]at h;obtain⟨r,h1,rfl⟩:=h;exact⟨r,h1,hK⟩
 case shl=>cases h
 case shr=>cases h
 case eql=>injection h with h;subst h;exact⟨_,rfl,hK⟩
 case neq=>injection h with h;subst h;exact⟨_,rfl,hK⟩
 case lss=>injection h with h;subst h;exact⟨_,rfl,hK⟩
 case leq=>injection h with h;subst h;exact⟨_,rfl,hK⟩
 case gtr=>injection h with h;subst h;exact⟨_,rfl,hK⟩
 case geq=>injection h with h;subst h;exact⟨_,rfl,hK⟩
 all_goals (injection h with h;subst h;exact hK)
theorem Hs{op:BinOp}{t:TypeId}{x y v:V}(h:zC P op t x y=some v){K:V->Prop}(hK:K v):Js P op t x y K:=by
 unfold zC at h
 unfold Js
 split at h
 ·split at h
  ·exact⟨by assumption,Hr h hK⟩
  ·cases h
 ·have hb:nZ P t=true->P.underlying t=some .bool:=by
   unfold nZ;intro h;split at h
   ·assumption
   ·cases h
  split at h
  ·obtain⟨h1,rfl⟩:=rK h;exact⟨hb h1,hK⟩
  ·obtain⟨h1,rfl⟩:=rK h;exact⟨hb h1,hK⟩
  ·cases h
 ·split at h
  ·injection h with h;subst h;exact hK
  ·injection h with h;subst h;exact hK
  ·cases h
 ·cases h
theorem D3{c a b v:V}(h:qm c a b=some v){K:V->Prop}(hK:K v):A3 c a b K:=by
 unfold qm at h
 unfold A3
 split at h
 ·injection h with h;subst h;exact⟨fun _=>hK,(fun h=>by cases h)⟩
 ·injection h with h;subst h;exact⟨(fun h=>by cases h),fun _=>hK⟩
 ·cases h
theorem uI{x y:V}{q:Nat}(h:oL o x q=some y):(∃id off,x= .ptr id off/\(o id).cC=true/\y= .ptr id (off+q))\/(∃cs off,x= .pp cs off/\y= .pp cs (off+q))\/
 (∃id ep j sz off,x= .pe id ep j sz off/\(o id).cy=some ep/\y= .pe id ep j sz (off+q)):=by
 unfold oL at h
 split at h
 ·obtain⟨h1,rfl⟩:=rK h;exact .inl ⟨_,_,rfl,h1,rfl⟩
 ·injection h with h;exact .inr (.inl ⟨_,_,rfl,h.symm⟩)
 ·split at h
  ·injection h with h;exact .inr (.inr ⟨_,_,_,_,_,rfl,by assumption,h.symm⟩)
  ·cases h
 ·cases h
theorem pj{e:TypeId}{es:List D}{i:Int}{rd:List Nat}{r:gL}(h:xM P e es i rd=some r):
 0<=i/\∃y,es[i.toNat]? =some y/\y.cells.length=P.cellsOf e/\0<P.cellsOf e/\r=(.pp y.cells 0,[],rd):=by
 unfold xM at h
 split at h
 ·rename_i h0
  split at h
  ·rename_i y hy
   obtain⟨h1,rfl⟩:=rK h
   simp only[Bool.and_eq_true,beq_iff_eq,decide_eq_true_eq]at h1
   exact⟨h0,y,hy,h1.1,h1.2,rfl⟩
  ·cases h
 ·cases h
theorem tq{t:TypeId}{x ix:V}(h:iU P o t x ix=some (v,Δ,rd))(hK:K v Δ rd):j7 P o t x ix fun v rd=>K v [] rd:=by
 unfold iU at h
 unfold j7
 split at h
 ·simp only
  split at h
  ·rename_i e ht
   simp only[ht]
   split at h
   ·obtain⟨h0,y,h1,h2,h3,h4⟩:=pj h
    simp only[Prod.mk.injEq]at h4;obtain⟨rfl,rfl,rfl⟩:=h4
    exact⟨h0,y,h1,h2,h3,hK⟩
   ·obtain⟨h0,y,h1,h2,h3,h4⟩:=pj h
    simp only[Prod.mk.injEq]at h4;obtain⟨rfl,rfl,rfl⟩:=h4
    exact⟨h0,y,h1,h2,h3,hK⟩
   ·split at h
    ·rename_i ho
     split at h
     ·rename_i hc
      simp only[Option.some.injEq,Prod.mk.injEq]at h;obtain⟨rfl,rfl,rfl⟩:=h
      simp only[ho]
      exact⟨hc.1,hc.2.1,hc.2.2.1,hc.2.2.2.1,hc.2.2.2.2,hK⟩
     ·cases h
    ·rename_i ho
     split at h
     ·rename_i hc
      obtain⟨h0,y,h1,h2,h3,h4⟩:=pj h
      simp only[Prod.mk.injEq]at h4;obtain⟨rfl,rfl,rfl⟩:=h4
      simp only[ho]
      exact⟨hc,h0,y,h1,h2,h3,hK⟩
     ·cases h
    ·cases h
   ·cases h
  ·rename_i ht
   simp only[ht]
   split at h
   ·rename_i n e ha
    simp only[ha]
    split at h
    ·rename_i hc
     simp only[Option.bind_eq_some_iff]at h
     obtain⟨y,hy,h1⟩:=h
     have h1:=lh h1
     simp only[Prod.mk.injEq]at h1;obtain⟨rfl,rfl,rfl⟩:=h1
     refine⟨hc.1,hc.2.1,hc.2.2, ?_⟩
     rcases uI hy with⟨_,_,rfl,h2,rfl⟩|⟨_,_,rfl,rfl⟩|⟨_,_,_,_,_,rfl,h2,rfl⟩
     ·exact⟨h2,hK⟩
     ·exact hK
     ·exact⟨h2,hK⟩
    ·cases h
   ·cases h
 ·cases h
theorem tt{t:TypeId}{x y:V}{f:Nat}(h:iV P o t x f=some y){K:V->Prop}(hK:K y):j8 P o t x f K:=by
 unfold iV at h
 unfold j8
 split at h
 ·rename_i q hq
  simp only[hq]
  rcases uI h with⟨_,_,rfl,h2,rfl⟩|⟨_,_,rfl,rfl⟩|⟨_,_,_,_,_,rfl,h2,rfl⟩
  ·exact⟨h2,hK⟩
  ·exact hK
  ·exact⟨h2,hK⟩
 ·cases h
theorem Ht{t:TypeId}{x:V}(h:D1 P t o x=some (v,Δ,rd))(hK:K v Δ rd):Jt P t o x fun v rd=>K v [] rd:=by
 unfold D1 at h
 unfold Jt
 split at h
 ·rename_i e hu
  simp only[hu]
  split at h
  ·rename_i es tu hl
   simp only[Option.some.injEq,Prod.mk.injEq]at h;obtain⟨rfl,rfl,rfl⟩:=h
   unfold qn at hl
   split at hl
   ·exact SQ
   ·exact SQ
   ·exact SQ
   ·split at hl
    ·rename_i ho
     split at hl
     ·rename_i hc;simp at hl;obtain⟨rfl,rfl⟩:=hl;simp only[ho];exact⟨hc,hK⟩
     ·cases hl
    ·rename_i ho
     split at hl
     ·rename_i hc;simp at hl;obtain⟨rfl,rfl⟩:=hl;simp only[ho];exact⟨hc,hK⟩
     ·cases hl
    ·cases hl
   ·cases hl
  ·cases h
 ·rename_i hu
  simp only[hu]
  split at h
  ·have h1:=lh h;simp only[Prod.mk.injEq]at h1;obtain⟨rfl,rfl,rfl⟩:=h1;exact hK
  ·cases h
 ·rename_i hu
  simp only[hu]
  have h1:=lh h;simp only[Prod.mk.injEq]at h1;obtain⟨rfl,rfl,rfl⟩:=h1;exact hK
 ·cases h
theorem D4{t:TypeId}{x:V}(h:nq P o t x=some (v,Δ,rd))(hK:K v Δ rd):A4 P o t x fun v rd=>K v [] rd:=by
 unfold nq at h
 unfold A4
 split at h
 ·split at h
  ·rename_i ho
   split at h
   ·rename_i hg
    simp only[Option.some.injEq,Prod.mk.injEq]at h;obtain⟨rfl,rfl,rfl⟩:=h
    simp only[ho];exact⟨_,hg,hK⟩
   ·cases h
  ·cases h
 ·split at h
  ·rename_i hg
   simp only[Option.some.injEq,Prod.mk.injEq]at h;obtain⟨rfl,rfl,rfl⟩:=h
   exact⟨_,hg,hK⟩
  ·cases h
 ·split at h
  ·rename_i ho
   split at h
   ·rename_i hc
    split at h
    ·rename_i e he
     split at h
     ·rename_i hg
      simp only[Option.some.injEq,Prod.mk.injEq]at h;obtain⟨rfl,rfl,rfl⟩:=h
      simp only[ho];exact⟨hc.1,hc.2,e,he,_,hg,hK⟩
     ·cases h
    ·cases h
   ·cases h
  ·cases h
 ·cases h
theorem BI{t:TypeId}{x y:V}(h:rI P o t x y=some (v,Δ,rd))(hK:K v Δ rd):um P o t x y fun Δ rd=>K (.cp []) Δ rd:=by
 unfold rI at h
 unfold um
 split at h
 ·split at h
  ·rename_i ho
   split at h
   ·rename_i hg
    simp only[Option.some.injEq,Prod.mk.injEq]at h;obtain⟨rfl,rfl,rfl⟩:=h
    simp only[ho];exact⟨_,hg,hK⟩
   ·cases h
  ·cases h
 ·split at h
  ·rename_i ho
   split at h
   ·rename_i hc
    split at h
    ·rename_i e z he hz
     split at h
     ·rename_i hl
      split at h
      ·rename_i e' hp
       simp only[Option.some.injEq,Prod.mk.injEq]at h;obtain⟨rfl,rfl,rfl⟩:=h
       simp only[ho]
       exact⟨hc.1,hc.2,e,he,z,hz,hl.1,hl.2.1,hl.2.2,e',hp,hK⟩
      ·cases h
     ·cases h
    ·cases h
   ·cases h
  ·cases h
 ·cases h
theorem rL{t:TypeId}{len:Nat}{parts:List (Nat×V)}(h:hY P o fr t len parts=some (v,Δ,rd))(hK:K v Δ rd):js P o fr t len parts K:=by
 unfold hY at h
 unfold js
 split at h
 ·rename_i e ht
  simp only[ht]
  split at h
  ·rename_i hc
   simp only[Option.some.injEq,Prod.mk.injEq]at h;obtain⟨rfl,rfl,rfl⟩:=h
   exact .inl ⟨hc.1,by simpa using hc.2.1,hc.2.2,hK⟩
  split at h
  ·rename_i hc
   refine .inr ?_
   split at h
   ·rename_i ds hd
    split at h
    ·rename_i hw
     simp only[Option.some.injEq,Prod.mk.injEq]at h;obtain⟨rfl,rfl,rfl⟩:=h
     refine⟨hc.1,hc.2.1,hc.2.2.1,hc.2.2.2.1,hc.2.2.2.2,ds,hd,fun x hx=> ?_,hK⟩
     simpa using List.all_eq_true.1 hw x hx
    ·cases h
   ·cases h
  ·cases h
 ·cases h
theorem tv{t:TypeId}{l c:V}(h:ml P fr t l c=some (v,Δ,rd))(hK:K v Δ rd):j9 P fr t l c fun v Δ=>K v Δ []:=by
 unfold ml at h
 unfold j9
 split at h
 ·rename_i e ht
  split at h
  ·split at h
   ·rename_i hc
    split at h
    ·rename_i x hx
     simp only[Option.some.injEq,Prod.mk.injEq]at h;obtain⟨rfl,rfl,rfl⟩:=h
     simp only[ht]
     exact⟨hc.1,hc.2.1,hc.2.2.1,hc.2.2.2.1,hc.2.2.2.2,x,hx,hK⟩
    ·cases h
   ·cases h
  ·cases h
 ·cases h
theorem zD{ts:Array TypeId}{x y:V}(h:qo P o fr ts x y=some (v,Δ,rd))(hK:K v Δ rd):pR P o fr ts x y K:=by
 unfold qo at h
 unfold pR
 split at h
 ·rename_i t t' tj
  simp only[tj]
  split at h
  ·rename_i htt
   refine⟨htt, ?_⟩
   split at h
   ·rename_i e new tu ht hl
    obtain⟨xq,rfl⟩:=D2 hl
    simp only[ht]
    split at h
    ·rename_i hc
     refine⟨new,xq,hc.1,hc.2.1,fun z hz=>by simpa using List.all_eq_true.1 hc.2.2 z hz, ?_⟩
     split at h
     ·split at h
      ·rename_i tl
       simp only[Option.some.injEq,Prod.mk.injEq]at h;obtain⟨rfl,rfl,rfl⟩:=h
       exact⟨tl.1,tl.2,hK⟩
      ·cases h
     ·split at h
      ·rename_i Dm
       refine⟨fun z hz=>by simpa using List.all_eq_true.1 Dm z hz, ?_⟩
       split at h
       ·rename_i hn
        simp only[Option.some.injEq,Prod.mk.injEq]at h;obtain⟨rfl,rfl,rfl⟩:=h
        rw[if_pos hn];exact hK
       ·rename_i hn
        split at h
        ·rename_i tl
         simp only[Option.some.injEq,Prod.mk.injEq]at h;obtain⟨rfl,rfl,rfl⟩:=h
         rw[if_neg hn];exact⟨tl.1,tl.2,hK⟩
        ·cases h
      ·cases h
     ·split at h
      ·rename_i ho
       split at h
       ·rename_i tl
        simp only[Option.some.injEq,Prod.mk.injEq]at h;obtain⟨rfl,rfl,rfl⟩:=h
        simp only[ho]
        exact⟨tl.1,tl.2.1,tl.2.2.1,tl.2.2.2.1,tl.2.2.2.2,hK⟩
       ·cases h
      ·cases h
     ·cases h
    ·cases h
   ·cases h
  ·cases h
 ·cases h
theorem uJ{x y:V}(h:jV o x=some y){K:V->Prop}(hK:K y):lE o x K:=by
 unfold jV at h
 unfold lE
 split at h
 ·obtain⟨h2,rfl⟩:=rK h;exact⟨h2,hK⟩
 ·injection h with h;subst h;exact hK
 ·injection h with h;subst h;exact hK
 ·cases h
theorem J4{op:UnOp}{x y:V}(h:unF op x=some y){K:V->Prop}(hK:K y):Ya op x K:=by
 unfold unF at h
 unfold Ya
 split at h
 ·injection h with h;subst h;simp only;rw[Int.zero_sub];exact hK
 ·injection h with h;subst h;exact hK
 ·cases h
theorem qs{m:Bool}{x y v:V}(h:qp m x y=some v){K:V->Prop}(hK:K v):nV m [x,y] K:=by
 unfold qp at h
 unfold nV
 split at h
 ·split at h
  ·injection h with h;subst h;exact⟨by assumption,hK⟩
  ·cases h
 ·cases h
theorem BJ{op:Op}(h:gN P s fr op=some (v,Δ,rd))(hK:K v Δ rd):PG P s fr op K:=by
 cases op<;>simp only[gN]at h<;>simp only[PG]<;>try (cases h;done)
 case move x=>have h:=lh h;simp only[Prod.mk.injEq]at h;obtain⟨rfl,rfl,rfl⟩:=h;exact hK
 case assign x=>have h:=lh h;simp only[Prod.mk.injEq]at h;obtain⟨rfl,rfl,rfl⟩:=h;exact hK
 case pick c a b=>
  obtain⟨x,h1,h⟩:=gC h;simp only[Prod.mk.injEq]at h;obtain⟨rfl,rfl,rfl⟩:=h
  exact D3 h1 hK
 case alloc t=>
  split at h
  ·rename_i cs hz;simp only[Option.some.injEq,Prod.mk.injEq]at h;obtain⟨rfl,rfl,rfl⟩:=h;exact⟨cs,hz,hK⟩
  ·cases h
 case box t x=>
  split at h
  ·rename_i cs hz;simp only[Option.some.injEq,Prod.mk.injEq]at h;obtain⟨rfl,rfl,rfl⟩:=h;exact⟨cs,hz,hK⟩
  ·cases h
 case build t parts=>
  obtain⟨x,h1,h⟩:=gC h;simp only[Prod.mk.injEq]at h;obtain⟨rfl,rfl,rfl⟩:=h
  unfold rJ at h1
  split at h1
  ·rename_i z pl hz hp
   split at h1
   ·rename_i cs hc;injection h1 with h1;subst h1;exact⟨z,pl,cs,hz,hp,hc,hK⟩
   ·cases h1
  ·cases h1
 case buildSlice t len parts=>exact rL h hK
 case load t x=>exact D4 h hK
 case store t x y=>exact BI h hK
 case nilCheck x=>
  obtain⟨y,h1,h⟩:=gC h;simp only[Prod.mk.injEq]at h;obtain⟨rfl,rfl,rfl⟩:=h
  exact uJ h1 hK
 case binOp op t x y yt=>
  unfold eH at h
  split at h
  ·rename_i z h1
   have h:=lh h;simp only[Prod.mk.injEq]at h;obtain⟨rfl,rfl,rfl⟩:=h
   exact .inl (Hs h1 hK)
  ·right;simp only[h,dp];exact hK
 case unOp op t x=>
  obtain⟨z,h1,h⟩:=gC h;simp only[Prod.mk.injEq]at h;obtain⟨rfl,rfl,rfl⟩:=h
  unfold GP at h1
  split at h1
  ·rename_i hx;injection h1 with h1;subst h1;exact .inr ⟨rfl,hx,hK⟩
  ·exact .inl (J4 h1 hK)
 case slice t x lo hi mx=>simp only[h,dp];exact hK
 case field t x f=>
  obtain⟨z,h1,h⟩:=gC h;simp only[Prod.mk.injEq]at h;obtain⟨rfl,rfl,rfl⟩:=h
  exact M5
 case typeAssert x xt t ok=>
  obtain⟨z,h1,h⟩:=gC h;simp only[Prod.mk.injEq]at h;obtain⟨rfl,rfl,rfl⟩:=h
  exact M5
 case makeMap t r=>
  cases r with
  |none=>simp only[h,dp];exact hK
  |some x=>cases h
 case lookup t m k ok=>simp only[h,dp];exact hK
 case mapUpdate t m k v=>simp only[h,dp];exact hK
 case insert t m k v=>simp only[h,dp];exact hK
 case index t x i=>
  obtain⟨z,h1,h⟩:=gC h;simp only[Prod.mk.injEq]at h;obtain⟨rfl,rfl,rfl⟩:=h
  exact M5
 case convert u t x=>
  split at h
  ·rename_i d k k' n hu hk hx
   have h:=lh h;simp only[Prod.mk.injEq]at h;obtain⟨rfl,rfl,rfl⟩:=h
   exact⟨by rw[hu];rfl,by simp only[hk,hx];exact hK⟩
  ·cases h
 case makeInterface t x=>
  obtain⟨z,h1,h⟩:=gC h;simp only[Prod.mk.injEq]at h;obtain⟨rfl,rfl,rfl⟩:=h
  obtain⟨h2,rfl⟩:=rK h1
  refine⟨?_, ?_⟩
  ·unfold iW at h2
   cases hd:P.underlying t with
   |none=>simp[hd]at h2
   |some d=>exact⟨d,rfl,by cases d<;>simp_all⟩
  ·split
   ·rename_i y hy;simp only[hy]at hK;exact hK
   ·rename_i hy
    split at hK
    ·rename_i y hy';exact absurd hy' (hy y)
    ·exact hK
 case makeFunc fn first cap=>have h:=lh h;simp only[Prod.mk.injEq]at h;obtain⟨rfl,rfl,rfl⟩:=h;exact hK
 case makeSlice t l c=>
  exact tv h hK
 case fieldAddr t x f=>
  obtain⟨z,h1,h⟩:=gC h;simp only[Prod.mk.injEq]at h;obtain⟨rfl,rfl,rfl⟩:=h
  exact tt h1 hK
 case indexAddr t x i=>
  exact tq h hK
 case extract x i=>
  split at h
  ·rename_i vs hv
   split at h
   ·rename_i u hu
    have h:=lh h;simp only[Prod.mk.injEq]at h;obtain⟨rfl,rfl,rfl⟩:=h
    simp only[hv];exact⟨_,hu,hK⟩
   ·cases h
  ·cases h
 case call c=>
  obtain⟨JQ,args,ts⟩:=c
  cases JQ<;>simp only at h|- <;>try (cases h;done)
  rename_i b
  unfold qq at h
  unfold ur
  split at h
  ·rename_i x ha
   simp only[ha]
   split at h
   ·rename_i t tj;exact⟨t,tj,Ht h hK⟩
   ·cases h
  ·rename_i x y ha
   simp only[ha]
   split at h
   ·rename_i r hr
    simp only[Option.some.injEq]at h
    subst h
    exact .inl (by rw[hr];exact hK)
   ·exact .inr (zD h hK)
  ·rename_i x y ha
   simp only[ha]
   obtain⟨z,h1,h⟩:=gC h;simp only[Prod.mk.injEq]at h;obtain⟨rfl,rfl,rfl⟩:=h
   exact qs h1 hK
  ·rename_i x y ha
   simp only[ha]
   obtain⟨z,h1,h⟩:=gC h;simp only[Prod.mk.injEq]at h;obtain⟨rfl,rfl,rfl⟩:=h
   exact qs h1 hK
  ·rename_i x y z ha
   simp only[ha]
   obtain⟨v0,h1,h⟩:=gC h;simp only[Prod.mk.injEq]at h;obtain⟨rfl,rfl,rfl⟩:=h
   exact M5
  ·rename_i x y ha
   simp only[ha,h,dp];exact hK
  ·rename_i x y ha
   simp only[ha]
   split at h
   ·rename_i t ht;exact⟨t,ht,by simp only[h,dp];exact hK⟩
   ·cases h
  ·rename_i x ha
   simp only[ha,h,dp];exact hK
  ·cases h
 case range t x=>simp only[h,dp];exact hK
 case next x str=>left;simp only[h,dp];exact hK
 case entry x=>simp only[h,dp];exact hK
end
end Go.Proofs.YtonbelhklnmjnaaGreat
namespace Go.Proofs.YtonbelhklnmjnaaGreat
def uK(P:Program)(g:FuncId)(ds:List D)(o o1 oa:Nat->ab)(K:V->(Nat->ab)->Prop)(X:V->(Nat->ab)->Prop):Prop:=
 ∃out,a8 P g ds out/\((match out with| .ret rs=>K (jO rs) o1| .bU x=>X (.d x) o1)\/(out.flat=true/\match out with| .ret rs=>K (jO rs) o| .bU x=>X (.d x) o)\/(out.ni=true/\match out with| .ret rs=>K (jO rs) oa| .bU x=>X (.d x) oa))
def sG(P:Program)(g:FuncId)(args:List V)(o:Nat->ab)(nx:Nat)(K:V->(Nat->ab)->Nat->Prop)(X:V->(Nat->ab)->Nat->Prop):Prop:=nk P g args o nx K X
theorem nk.mono {P:Program}{g:FuncId}{args:List V}{o:Nat->ab}{nx:Nat}{K X K' X':V->(Nat->ab)->Nat->Prop}(hK:∀v o n,K v o n->K' v o n)(hX:∀v o n,X v o n->X' v o n)(h:nk P g args o nx K X):nk P g args o nx K' X':=
 h.imp (cO.mono hK hX) (cO.mono hK hX)
@[congr] theorem PY {P:Program} {g g':FuncId} {ds Yy:List D} {o o1 oa:Nat->ab} {K X} (h:g=g') (h':ds=Yy):uK P g ds o o1 oa K X=uK P g' Yy o o1 oa K X:=by subst h;subst h';rfl
@[congr] theorem PZ {P:Program} {g g':FuncId} {cu Yz:List V} {o:Nat->ab} {nx:Nat} {K X} (h:g=g') (h':cu=Yz):sG P g cu o nx K X=sG P g' Yz o nx K X:=by subst h;subst h';rfl
def P6(P:Program)(g:FuncId)(args:List V)(o:Nat->ab)(nx:Nat)(K X:V->(Nat->ab)->Nat->Prop):Prop:=
 (∃ds,ct o args=some ds/\uK P g ds o (put o (dn o (V.bF args))) (put o (rp o (V.bF args))) (fun v o'=>K v o' (nx+1)) (fun v o'=>X v o' (nx+1)))\/cO P g args o nx K X
def I4(P:Program)(s:S)(o:cz)(X:V->S->Prop)(K:S->Prop):Prop:=
 match o.op with
 | .call c=>match c.callee with
   | .value f=>match s.ev f with
     | .func (.func g) first cap=>match ct s.o (first++c.args.toList.map s.ev++cap)with
       |some ds=>uK P g ds s.o (put s.o (dn s.o (V.bF (first++c.args.toList.map s.ev++cap)))) (put s.o (rp s.o (V.bF (first++c.args.toList.map s.ev++cap)))) (fun v o'=>K ⟨bu s.env o.dst v,o',s.nx+1⟩) (fun v o'=>X v ⟨s.env,o',s.nx+1⟩)\/
        sG P g (first++c.args.toList.map s.ev++cap) s.o s.nx (fun v o' nx'=>K ⟨bu s.env o.dst v,o',nx'⟩) (fun v o' nx'=>X v ⟨s.env,o',nx'⟩)
       |none=>sG P g (first++c.args.toList.map s.ev++cap) s.o s.nx (fun v o' nx'=>K ⟨bu s.env o.dst v,o',nx'⟩) (fun v o' nx'=>X v ⟨s.env,o',nx'⟩)
     | .jU id=>ec P id (c.args.toList.map s.ev) s.o s.nx (fun v o' nx'=>K ⟨bu s.env o.dst v,o',nx'⟩) (fun v o' nx'=>X v ⟨s.env,o',nx'⟩)
     |_=>False
   | .invoke r m=>match uD P m (s.ev r)with
     |some (g,y)=>P6 P g (y::c.args.toList.map s.ev) s.o s.nx (fun v o' nx'=>K ⟨bu s.env o.dst v,o',nx'⟩) (fun v o' nx'=>X v ⟨s.env,o',nx'⟩)
     |none=>False
   |_=>match gN P s s.nx o.op with
    |some (v,Δ,_)=>K ⟨bu s.env o.dst v,put s.o Δ,s.nx+1⟩
    |none=>False
 | .panic x=>match s.ev x with
   | .d (.iface t y)=>X (.d (.iface t y)) s
   | .iface t y=>X (.iface t y) s
   |_=>False
 | .next x str=>match oH s.o (s.ev x)with
   |some (id,l)=>str=false/\E9 id l fun v Δ _=>K ⟨bu s.env o.dst v,put s.o Δ,s.nx+1⟩
   |none=>match gN P s s.nx o.op with
    |some (v,Δ,_)=>K ⟨bu s.env o.dst v,put s.o Δ,s.nx+1⟩
    |none=>False
 |op=>match gN P s s.nx op with
  |some (v,Δ,_)=>K ⟨bu s.env o.dst v,put s.o Δ,s.nx+1⟩
  |none=>False
def pk(P:Program)(X:V->S->Prop)(K:S->Prop):List cz->S->Prop
 |[],s=>K s
 |o::l,s=>match o.gd with
  |none=>I4 P s o X (pk P X K l)
  |some (d,want)=>match s.env d with
   | .d (.bool b)=>if b=want then I4 P s o X (pk P X K l)else pk P X K l ⟨bu s.env o.dst (.cp []),s.o,s.nx+1⟩
   | .cp []=>pk P X K l ⟨bu s.env o.dst (.cp []),s.o,s.nx+1⟩
   |_=>False
def J5(b:Nat)(body:(fS->S->Prop)->S->Prop)(Q:fS->S->Prop)(s:S):Prop:=
 ∃ (J:Nat->S->Prop),(∃m s1,bM b s s1/\J m s1)/\∀m s0,J m s0->body (fun e s=>match e with| .normal=>∃m' s1,m'<m/\bM b s s1/\J m' s1|e=>Q e s) s0
@[congr] theorem P7 {b:Nat} {body Q} {s s':S} (h:s=s'):J5 b body Q s=J5 b body Q s':=by subst h;rfl
def qt(t:Bool)(A B:Prop):Prop:=(t=true->A)/\(t=false->B)
@[congr] theorem P8 {t t':Bool} {A B:Prop} (h:t=t'):qt t A B=qt t' A B:=by subst h;rfl
@[simp] theorem uL (A B:Prop):qt true A B=A:=by simp[qt]
@[simp] theorem sH (A B:Prop):qt false A B=B:=by simp[qt]
section
variable {P:Program}{n b:Nat}
theorem Fq{s:S}{o:cz}{o':Oper}{X X':V->S->Prop}{K K':S->Prop}(fA:o'.op=o.op)(db:o'.dst=o.dst)(hd:iy n o'.dst)(hK:∀s,K s->K' s)(hX:∀v s,X v s->X' v s)(h:I4 P s o X K):opW P n s o' X' K':=by
 refine⟨hd, ?_⟩
 rw[db,fA]
 unfold I4 at h
 have hs:∀ {op:Op},(match gN P s s.nx op with|some (v,Δ,_)=>K ⟨bu s.env o.dst v,put s.o Δ,s.nx+1⟩|none=>False)->PG P s s.nx op fun v Δ _=>K' ⟨bu s.env o.dst v,put s.o Δ,s.nx+1⟩:=by
  intro op h
  split at h
  ·rename_i v Δ rd he;exact BJ he (hK _ h)
  ·exact h.elim
 split at h
 ·rename_i c hc
  split at h
  ·rename_i f eV
   simp only[hc,eV]
   split at h
   ·rename_i g first cap hf
    unfold Bw
    simp only[hf]
    unfold uC
    split at h
    ·rename_i ds fe
     rcases h with⟨out,hP,h|⟨pK,h⟩|⟨pK,h⟩⟩|h
     ·refine .inl ⟨ds,out,fe,hP, ?_⟩
      cases out<;>first|exact hK _ h|exact hX _ _ h
     ·refine .inr (.inl ⟨ds,out,fe,hP,pK, ?_⟩)
      cases out<;>first|exact hK _ h|exact hX _ _ h
     ·refine .inr (.inr (.inl ⟨ds,out,fe,hP,pK, ?_⟩))
      cases out<;>first|exact hK _ h|exact hX _ _ h
     ·exact .inr (.inr (.inr (nk.mono (fun v o n h=>hK _ h) (fun v o n h=>hX _ _ h) h)))
    ·exact .inr (.inr (.inr (nk.mono (fun v o n h=>hK _ h) (fun v o n h=>hX _ _ h) h)))
   ·rename_i id hf
    unfold Bw
    simp only[hf]
    exact ec.mono (fun v o n h=>hK _ h) (fun v o n h=>hX _ _ h) h
   ·exact h.elim
  ·rename_i r m eV
   simp only[hc,eV]
   split at h
   ·rename_i g y hr
    simp only[hr]
    unfold uC
    rcases h with⟨ds,fe,out,hP,h|⟨pK,h⟩|⟨pK,h⟩⟩|h
    ·refine .inl ⟨ds,out,fe,hP, ?_⟩
     cases out<;>first|exact hK _ h|exact hX _ _ h
    ·refine .inr (.inl ⟨ds,out,fe,hP,pK, ?_⟩)
     cases out<;>first|exact hK _ h|exact hX _ _ h
    ·refine .inr (.inr (.inl ⟨ds,out,fe,hP,pK, ?_⟩))
     cases out<;>first|exact hK _ h|exact hX _ _ h
    ·exact .inr (.inr (.inr (.inl (cO.mono (fun v o n h=>hK _ h) (fun v o n h=>hX _ _ h) h))))
   ·exact h.elim
  ·rename_i eV hinv
   rw[hc]at h|-
   obtain⟨JQ,args,ts⟩:=c
   cases JQ with
   |value f=>exact absurd rfl (eV f)
   |invoke r m=>exact absurd rfl (hinv r m)
   |_=>exact hs h
 ·rename_i x hx
  simp only[hx]
  split at h
  ·rename_i hv;simp only[hv];exact hX _ _ h
  ·rename_i hv;simp only[hv];exact hX _ _ h
  ·exact h.elim
 ·rename_i x str hx
  rw[hx]at h|-
  split at h
  ·rename_i id l hl
   exact .inr ⟨h.1,id,l,hl,fun e=>hK _ (h.2.1 e),fun i k x e=>hK _ (h.2.2 i k x e)⟩
  ·exact hs h
 ·rename_i hc hp tM
  have h2:=hs h
  cases hh:o.op<;>first
   |exact absurd hh (hc _)
   |exact absurd hh (hp _)
   |exact absurd hh (tM _ _)
   |(rw[hh]at h2;exact h2)
theorem jW{ops:Array Oper}{X X':V->S->Prop}{K K':S->Prop}(hK:∀s,K s->K' s)(hX:∀v s,X v s->X' v s):∀ (l:List Oper) (l':List cz) (s:S),lB n ops l=some l'->pk P X K l' s->zr P n ops X' K' l s
 |[],l',s,h,hr=>by simp[lB]at h;subst h;exact hK _ hr
 |o::l,l',s,h,hr=>by
  simp only[lB]at h
  split at h
  ·rename_i x xs hx DH
   injection h with h;subst h
   unfold Jq at hx
   split at hx
   ·rename_i hd
    have db:iy n o.dst:=by
     unfold DA at hd;unfold iy
     split at hd<;>simp_all
    simp only[zr,zq]
    cases hg:o.guard with
    |none=>
     simp only[hg]at hx
     injection hx with hx;subst hx
     exact Fq rfl rfl db (fun s hs=>jW hK hX l xs s DH hs) hX hr
    |some p=>
     obtain⟨j,want⟩:=p
     simp only[hg]at hx
     cases P9:su ops j with
     |none=>simp[P9]at hx
     |some d=>
      simp only[P9]at hx
      injection hx with hx;subst hx
      simp only
      simp only[pk]at hr
      split at hr
      ·rename_i t ht
       simp only[P9,ht]
       split at hr
       ·rename_i e
        exact⟨fun _=>Fq rfl rfl db (fun s hs=>jW hK hX l xs s DH hs) hX hr,fun h=>absurd e h⟩
       ·rename_i e
        exact⟨fun h=>absurd h e,fun _=>⟨db,jW hK hX l xs _ DH hr⟩⟩
      ·rename_i ht
       simp only[P9,ht]
       exact⟨db,jW hK hX l xs _ DH hr⟩
      ·exact hr.elim
   ·cases hx
  ·cases h
end
end Go.Proofs.YtonbelhklnmjnaaGreat
namespace Go.Proofs.YtonbelhklnmjnaaGreat
mutual
def V.refs:V->List Nat
 | .ptr id _=>[id]| .osl id _=>[id]| .pe id _ _ _ _=>[id]| .xd id _ _=>[id]| .mp id=>[id]| .jU id=>[id]
 | .agg cs=>V.aO cs
 | .cp cs=>V.aO cs
 | .func _ a b=>V.aO a++V.aO b
 | .iface _ x=>x.refs
 |_=>[]
def V.aO:List V->List Nat
 |[]=>[]
 |v::vs=>v.refs++V.aO vs
end
mutual
theorem mU:∀ (v:V),∀id∈v.ids,id∈v.refs
 | .osl id _,j,h=>by simpa[V.ids,V.refs]using h
 | .agg cs,j,h=>by simp only[V.ids]at h;simp only[V.refs];exact kp cs j h
 | .iface _ x,j,h=>by simp only[V.ids]at h;simp only[V.refs];exact mU x j h
 | .mp _,j,h=>by simpa[V.ids,V.refs]using h
 | .d _,_,h| .bO,_,h| .cp _,_,h| .ptr _ _,_,h| .pe _ _ _ _ _,_,h| .pp _ _,_,h| .func _ _ _,_,h| .aa,_,h| .qZ _,_,h| .xd _ _ _,_,h| .fh,_,h| .jU _,_,h=>by simp[V.ids]at h
theorem kp:∀ (vs:List V),∀id∈V.bF vs,id∈V.aO vs
 |[],j,h=>by simp[V.bF]at h
 |v::vs,j,h=>by
  simp only[V.bF,V.aO,List.mem_append]at h|-
  exact h.imp (mU v j) (kp vs j)
end
mutual
theorem dE{o o':Nat->ab}:∀ (v:V),(∀id∈v.refs,o' id=o id)->eg o' v=eg o v
 | .osl id ep,h=>by simp only[eg,h id (by simp[V.refs])]
 | .mp id,h=>by simp only[eg,h id (by simp[V.refs])]
 | .agg cs,h=>by simp only[eg,iX cs (by simpa[V.refs]using h)]
 | .iface t x,h=>by simp only[eg,dE x (by simpa[V.refs]using h)]
 | .d _,_| .bO,_| .cp _,_| .ptr _ _,_| .pe _ _ _ _ _,_| .pp _ _,_| .func _ _ _,_| .aa,_| .qZ _,_| .xd _ _ _,_| .fh,_| .jU _,_=>by simp only[eg]
theorem iX{o o':Nat->ab}:∀ (vs:List V),(∀id∈V.aO vs,o' id=o id)->ct o' vs=ct o vs
 |[],_=>rfl
 |v::vs,h=>by
  simp only[ct,dE v (fun id aC=>h id (by simp[V.aO,aC])),iX vs (fun id aC=>h id (by simp[V.aO,aC]))]
end
theorem hZ{o o':Nat->ab}{ids:List Nat}(h:∀id∈ids,o' id=o id):dn o' ids=dn o ids:=by
 rw[l7,l7]
 exact List.map_congr_left fun id aC=>by rw[h id aC]
def pI(s:S)(op:Op):List Nat:=
 match op with
 | .load _ x=>(s.ev x).refs
 | .nilCheck x=>(s.ev x).refs
 | .fieldAddr _ x _=>(s.ev x).refs
 | .indexAddr _ x _=>(s.ev x).refs
 | .store _ x v=>(s.ev x).refs++(s.ev v).refs
 | .buildSlice _ _ parts=>V.aO (parts.toList.map fun p=>s.ev p.2)
 | .binOp _ _ x y _=>(s.ev x).refs++(s.ev y).refs
 | .slice _ x _ _ _=>(s.ev x).refs
 | .lookup _ m k _=>(s.ev m).refs++(s.ev k).refs
 | .mapUpdate _ m k v=>(s.ev m).refs++((s.ev k).refs++(s.ev v).refs)
 | .insert _ m k v=>(s.ev m).refs++((s.ev k).refs++(s.ev v).refs)
 | .range _ x=>(s.ev x).refs
 | .next x _=>(s.ev x).refs
 | .entry x=>(s.ev x).refs
 | .call c=>match c.callee with
   | .builtin _=>V.aO (c.args.toList.map s.ev)
   | .value f=>match s.ev f with
     | .func _ first cap=>V.aO (first++c.args.toList.map s.ev++cap)
     |_=>[]
   |_=>[]
 |_=>[]
section
variable {P:Program}{s s':S}{fr:Nat}
theorem sI{o o':Nat->ab}(v:V)(h:∀id∈v.refs,o' id=o id):qn o' v=qn o v:=by
 cases v with
 |osl id ep=>simp only[qn,h id (by simp[V.refs])]
 |d x=>cases x<;>rfl
 |_=>rfl
theorem sJ{o o':Nat->ab}(v:V)(q:Nat)(h:∀id∈v.refs,o' id=o id):oL o' v q=oL o v q:=by
 cases v<;>simp only[oL]<;>rw[h _ (by simp[V.refs])]
theorem D5{o o':Nat->ab}(v:V)(h:∀id∈v.refs,o' id=o id):A7 o' v=A7 o v:=by
 have h1:fj o' v=fj o v:=by unfold fj;rw[dE v h]
 cases v<;>first|rfl|simp only[A7,h1]
theorem zE{o o':Nat->ab}(v:V)(h:∀id∈v.refs,o' id=o id):rr o' v=rr o v:=by
 cases v with
 |mp id=>simp only[rr,h id (by simp[V.refs])]
 |d x=>cases x<;>rfl
 |_=>rfl
theorem zF{o o':Nat->ab}(v:V)(h:∀id∈v.refs,o' id=o id):rv o' v=rv o v:=by
 cases v with
 |ptr id off=>simp only[rv,h id (by simp[V.refs])]
 |d x=>cases x<;>rfl
 |_=>rfl
theorem nr{o o':Nat->ab}(v:V)(h:∀id∈v.refs,o' id=o id):oF o' v=oF o v:=by
 cases v with
 |mp id=>simp only[oF,h id (by simp[V.refs])]
 |d x=>cases x<;>rfl
 |_=>rfl
theorem BK{o o':Nat->ab}(v:V)(h:∀id∈v.refs,o' id=o id):pW o' v=pW o v:=by
 cases v with
 |mp id=>simp only[pW,h id (by simp[V.refs])]
 |d x=>cases x<;>rfl
 |_=>rfl
theorem BL{o o':Nat->ab}(v:V)(str:Bool)(h:∀id∈v.refs,o' id=o id):oG o' v str=oG o v str:=by
 cases v with
 |ptr id off=>cases off<;>simp only[oG,h id (by simp[V.refs])]
 |_=>rfl
theorem zG{o o':Nat->ab}(v:V)(h:∀id∈v.refs,o' id=o id):mZ o' v=mZ o v:=by
 cases v with
 |ptr id off=>cases off<;>simp only[mZ,h id (by simp[V.refs])]
 |_=>rfl
theorem zH{o o':Nat->ab}{fr:Nat}{t:TypeId}{P:Program}(v:V)(h:∀id∈v.refs,o' id=o id):mY P o' fr t v=mY P o fr t v:=by
 unfold mY
 cases v with
 |mp id=>simp only[h id (by simp[V.refs])]
 |d x=>cases x<;>rfl
 |_=>rfl
theorem zI{o o':Nat->ab}(v:V)(h:∀id∈v.refs,o' id=o id):oV o' v=oV o v:=by
 cases v with
 |ptr id off=>simp only[oV,h id (by simp[V.refs])]
 |_=>rfl
theorem zJ{o o':Nat->ab}(v:V)(h:∀id∈v.refs,o' id=o id):oW o' v=oW o v:=by
 cases v with
 |xd id off n=>simp only[oW,h id (by simp[V.refs])]
 |_=>rfl
theorem D6(op:Op)(hv:∀x∈op.operands,s'.ev x=s.ev x)(ho:∀id∈pI s op,s'.o id=s.o id):gN P s' fr op=gN P s fr op:=by
 cases op<;>simp only[gN]
 case move x=>rw[hv x (by simp[Op.operands])]
 case assign x=>rw[hv x (by simp[Op.operands])]
 case pick c a b=>rw[hv c (by simp[Op.operands]),hv a (by simp[Op.operands]),hv b (by simp[Op.operands])]
 case box t x=>rw[hv x (by simp[Op.operands])]
 case build t parts=>
  have:(parts.toList.map fun p=>(p.1,s'.ev p.2))=parts.toList.map fun p=>(p.1,s.ev p.2):=
   List.map_congr_left fun p hp=>by rw[hv p.2 (by simp only[Op.operands];simp;exact⟨p.1,by simpa using hp⟩)]
  rw[this]
 case buildSlice t len parts=>
  have:(parts.toList.map fun p=>(p.1,s'.ev p.2))=parts.toList.map fun p=>(p.1,s.ev p.2):=
   List.map_congr_left fun p hp=>by rw[hv p.2 (by simp only[Op.operands];simp;exact⟨p.1,by simpa using hp⟩)]
  rw[this]
  have e:(parts.toList.map fun p=>(p.1,s.ev p.2)).map (·.2)=parts.toList.map fun p=>s.ev p.2:=by simp[Function.comp_def]
  have h1:ct s'.o ((parts.toList.map fun p=>(p.1,s.ev p.2)).map (·.2))=ct s.o ((parts.toList.map fun p=>(p.1,s.ev p.2)).map (·.2)):=iX _ (by rw[e];exact ho)
  have h2:dn s'.o (V.bF ((parts.toList.map fun p=>(p.1,s.ev p.2)).map (·.2)))=dn s.o (V.bF ((parts.toList.map fun p=>(p.1,s.ev p.2)).map (·.2))):=
   hZ fun id aC=>ho id (by rw[e]at aC;exact kp _ id aC)
  simp only[hY,h1,h2]
 case load t x=>
  rw[hv x (by simp[Op.operands])]
  cases hx:s.ev x<;>simp only[nq]<;>rw[ho _ (by simp[pI,hx,V.refs])]
 case store t x y=>
  rw[hv x (by simp[Op.operands]),hv y (by simp[Op.operands])]
  have h1:eg s'.o (s.ev y)=eg s.o (s.ev y):=dE _ fun id aC=>ho id oT
  have h2:dn s'.o (s.ev y).ids=dn s.o (s.ev y).ids:=hZ fun id aC=>ho id S8
  cases hx:s.ev x<;>simp only[rI]<;>rw[ho _ (by simp[pI,hx,V.refs])]
  simp only[h1,h2]
 case nilCheck x=>
  rw[hv x (by simp[Op.operands])]
  cases hx:s.ev x with
  |ptr id off=>simp only[jV];rw[ho _ (by simp[pI,hx,V.refs])]
  |func fn a b=>cases fn<;>rfl
  |_=>rfl
 case binOp op t x y yt=>
  rw[hv x (by simp[Op.operands]),hv y (by simp[Op.operands])]
  have h1:A7 s'.o (s.ev x)=A7 s.o (s.ev x):=D5 _ fun id aC=>ho id oT
  have h2:∀a b,pU P s'.o a b (s.ev x) (s.ev y)=pU P s.o a b (s.ev x) (s.ev y):=fun a b=>by
   have h3:∀id∈(s.ev x).refs,s'.o id=s.o id:=fun id aC=>ho id oT
   have h4:=zE (s.ev x) h3
   have h5:=zF (s.ev x) h3
   unfold pU
   rw[h1,h4,h5]
  unfold eH ry
  simp only[h2]
 case slice t x lo hi mx=>
  rw[hv x (by simp[Op.operands])]
  have e1:lo.map s'.ev=lo.map s.ev:=by cases lo<;>simp[hv,Op.operands]
  have e2:hi.map s'.ev=hi.map s.ev:=by cases hi<;>simp[hv,Op.operands]
  have e3:mx.map s'.ev=mx.map s.ev:=by cases mx<;>simp[hv,Op.operands]
  rw[e1,e2,e3]
  have h3:∀id∈(s.ev x).refs,s'.o id=s.o id:=fun id aC=>ho id oT
  have h1:fj s'.o (s.ev x)=fj s.o (s.ev x):=by unfold fj;rw[dE _ h3]
  have h2:dn s'.o (s.ev x).ids=dn s.o (s.ev x).ids:=hZ fun id aC=>h3 id (mU _ _ aC)
  have h4:DD P s'.o t (s.ev x) (lo.map s.ev) (hi.map s.ev) (mx.map s.ev)=DD P s.o t (s.ev x) (lo.map s.ev) (hi.map s.ev) (mx.map s.ev):=by
   cases hx:s.ev x with
   |osl id ep=>simp only[DD,h3 id (by simp[hx,V.refs])]
   |_=>rfl
  unfold rq pS
  simp only[h1,h2,h4,zI _ h3]
 case field t x f=>rw[hv x (by simp[Op.operands])]
 case typeAssert x xt t ok=>rw[hv x (by simp[Op.operands])]
 case makeMap t r=>cases r<;>rfl
 case lookup t m k ok=>
  rw[hv m (by simp[Op.operands]),hv k (by simp[Op.operands])]
  have h3:∀id∈(s.ev m).refs,s'.o id=s.o id:=fun id aC=>ho id oT
  have h1:eg s'.o (s.ev k)=eg s.o (s.ev k):=dE _ fun id aC=>ho id oT
  unfold jl
  simp only[h1,BK _ h3]
 case mapUpdate t m k v=>
  rw[hv m (by simp[Op.operands]),hv k (by simp[Op.operands]),hv v (by simp[Op.operands])]
  have h3:∀id∈(s.ev m).refs,s'.o id=s.o id:=fun id aC=>ho id oT
  have h1:eg s'.o (s.ev k)=eg s.o (s.ev k):=dE _ fun id aC=>ho id oT
  have h2:eg s'.o (s.ev v)=eg s.o (s.ev v):=dE _ fun id aC=>ho id oT
  have h4:dn s'.o (s.ev v).ids=dn s.o (s.ev v).ids:=hZ fun id aC=>ho id S8
  unfold gz
  simp only[h1,h2,h4,nr _ h3]
 case insert t m k v=>
  rw[hv m (by simp[Op.operands]),hv k (by simp[Op.operands]),hv v (by simp[Op.operands])]
  have h3:∀id∈(s.ev m).refs,s'.o id=s.o id:=fun id aC=>ho id oT
  have h1:eg s'.o (s.ev k)=eg s.o (s.ev k):=dE _ fun id aC=>ho id oT
  have h2:eg s'.o (s.ev v)=eg s.o (s.ev v):=dE _ fun id aC=>ho id oT
  have h4:dn s'.o (s.ev v).ids=dn s.o (s.ev v).ids:=hZ fun id aC=>ho id S8
  unfold gz
  simp only[h1,h2,h4,nr _ h3]
 case index t x i=>rw[hv x (by simp[Op.operands]),hv i (by simp[Op.operands])]
 case range t x=>
  rw[hv x (by simp[Op.operands])]
  exact zH _ fun id aC=>ho id oT
 case next x str=>
  rw[hv x (by simp[Op.operands])]
  exact BL _ _ fun id aC=>ho id oT
 case entry x=>
  rw[hv x (by simp[Op.operands])]
  exact zG _ fun id aC=>ho id oT
 case unOp op t x=>rw[hv x (by simp[Op.operands])]
 case convert u t x=>rw[hv x (by simp[Op.operands])]
 case makeInterface t x=>rw[hv x (by simp[Op.operands])]
 case makeFunc fn first cap=>
  have h1:first.toList.map s'.ev=first.toList.map s.ev:=List.map_congr_left fun x hx=>hv x (by simp only[Op.operands];exact Array.mem_append.2 (.inl (Array.mem_toList_iff.1 hx)))
  have h2:cap.toList.map s'.ev=cap.toList.map s.ev:=List.map_congr_left fun x hx=>hv x (by simp only[Op.operands];exact Array.mem_append.2 (.inr (Array.mem_toList_iff.1 hx)))
  rw[h1,h2]
 case makeSlice t l c=>rw[hv l (by simp[Op.operands]),hv c (by simp[Op.operands])]
 case fieldAddr t x f=>
  rw[hv x (by simp[Op.operands])]
  simp only[iV]
  cases cD P t f<;>simp only
  rw[sJ _ _ (by simpa[pI]using ho)]
 case indexAddr t x i=>
  rw[hv x (by simp[Op.operands]),hv i (by simp[Op.operands])]
  have h1:∀q,oL s'.o (s.ev x) q=oL s.o (s.ev x) q:=fun q=>sJ _ _ (by simpa[pI]using ho)
  simp only[iU,h1]
  cases hx:s.ev x with
  |osl id ep=>simp only[ho id (by simp[pI,hx,V.refs])]
  |d y=>cases y<;>rfl
  |_=>rfl
 case extract x i=>rw[hv x (by simp[Op.operands])]
 case call c=>
  obtain⟨JQ,args,ts⟩:=c
  cases JQ<;>simp only
  rename_i b
  unfold qq
  have hm:∀x∈args.toList,s'.ev x=s.ev x:=fun x hx=>hv x (by simp only[Op.operands,Call.operands];exact Array.mem_append.2 (.inr (Array.mem_toList_iff.1 hx)))
  have hr:∀x∈args.toList,∀id∈(s.ev x).refs,s'.o id=s.o id:=by
   intro x hx id aC
   refine ho id ?_
   simp only[pI]
   generalize args.toList=l at hx
   induction l with
   |nil=>cases hx
   |cons y l ih=>
    simp only[List.map_cons,V.aO,List.mem_append]
    rcases List.mem_cons.1 hx with rfl|hx
    ·exact .inl aC
    ·exact .inr (ih hx)
  split
  ·rename_i x ha
   rw[ha]at hm hr
   rw[hm x (by simp)]
   have h1:∀t,D1 P t s'.o (s.ev x)=D1 P t s.o (s.ev x):=fun t=>by simp only[D1,sI _ (hr x (by simp))]
   simp only[h1]
  ·rename_i x y ha
   rw[ha]at hm hr
   rw[hm x (by simp),hm y (by simp)]
   simp only[qo,sI _ (hr y (by simp))]
   cases xg P fr ts (s.ev x) (s.ev y)with
   |some r=>rfl
   |none=>
   dsimp only
   cases hx:s.ev x with
   |osl id ep=>simp only[hr x (by simp) id (by simp[hx,V.refs])]
   |_=>rfl
  ·rename_i x y ha
   rw[ha]at hm
   rw[hm x (by simp),hm y (by simp)]
  ·rename_i x y ha
   rw[ha]at hm
   rw[hm x (by simp),hm y (by simp)]
  ·rename_i x y z h;rw[hm x (by rw[h];simp),hm y (by rw[h];simp),hm z (by rw[h];simp)]
  ·rename_i x y ha
   rw[ha]at hm hr
   rw[hm x (by simp),hm y (by simp)]
   have h1:fj s'.o (s.ev y)=fj s.o (s.ev y):=by unfold fj;rw[dE _ (hr y (by simp))]
   have h2:dn s'.o (s.ev y).ids=dn s.o (s.ev y).ids:=hZ fun id aC=>hr y aj id (mU _ _ aC)
   unfold xf
   simp only[h1,h2,zJ _ (hr x (by simp))]
  ·rename_i x y ha
   rw[ha]at hm hr
   rw[hm x (by simp),hm y (by simp)]
   have h1:eg s'.o (s.ev y)=eg s.o (s.ev y):=dE _ (hr y aj)
   have h2:=nr _ (hr x aj)
   simp only[nW,h1,h2]
  ·rename_i x ha
   rw[ha]at hm
   rw[hm x (by simp)]
  ·rfl
end
end Go.Proofs.YtonbelhklnmjnaaGreat
