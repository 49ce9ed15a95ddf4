/-
  A PART OF THE PROOF. Conditions: none.
-/
import Derived.Test.YtlhemmpklhhgoaaGreatQs6
set_option linter.unusedSimpArgs false
set_option linter.unusedVariables false
namespace Go.Proofs.YtlhemmpklhhgoaaGreat
section
section
variable {P:Program}{M:Nat->Prop}{φ:Place}{H:Hp}{w w':World}{cA:Place}{H0:Hp}{w0:World}{n b:Nat}{s:S}{a:Act}{cx:Cx}{ro:Option Nat}{k:Nat}
theorem gV(hb:∀id,H0.us id->id<b)(tW:cx.rd=false->ro=none):∀ (c:Code) (Q:fk->S->Prop) (s:S) (φ:Place) (a:Act) (w:World),iY P n b cx.rd c Q s->b7 M cA H0 w0 n cx φ s a w->c.tF P ro (Fo M cA H0 w0 n cx Q) a w:=by
 intro c
 induction c with
 |skip=>exact fun Q s φ a w h hs=>pf (k:=0) (wpIn_skip ⟨.normal,s,φ,h,hs,trivial⟩)
 |scope x ih=>exact fun Q s φ a w h hs=>xM (ih Q s φ a w h hs) (fun l a w ⟨xx,s',aE,hq,jT,hm⟩=>by cases xx<;>exact hm)
 |label l=>exact fun Q s φ a w h hs=>pf (k:=0) (wpIn_label ⟨.normal,s,φ,h,hs,trivial⟩)
 |exit id=>exact fun Q s φ a w h hs=>Bj ⟨.exit id,s,φ,h,hs,rfl⟩
 |ret=>exact fun Q s φ a w h hs=>Fq ⟨.ret,s,φ,h,hs,trivial⟩
 |goto l=>exact fun Q s φ a w h hs=>h.elim
 |refuse y=>exact fun Q s φ a w h hs=>h.elim
 |rangeFunc g ps x y=>
  intro Q s φ a w h hs
  obtain⟨h1,s',hle,h2⟩:=h
  rcases hle with rfl|hle
  ·exact xP hs h1 (tW h1) h2
  ·obtain⟨aE,jT⟩:=DA hb hs hle
   exact xP jT h1 (tW h1) h2
 |region id ops draw=>
  intro Q s φ a w h hs
  cases draw with
  |true=>exact pf (h M cA H0 w0 cx φ a w ro 0 hs)
  |false=>
   refine pf (k:=0) (wpIn_region_list (pc (K:=Q .normal) (X:=fun v s=>Q (.bF v) s) (fun s φ a w hk hs=>⟨.normal,s,φ,hk,hs,trivial⟩) (fun v s φ a w val hx hs hd=>⟨.bF v,s,φ,hx,hs,val,rfl,hd⟩) _ s φ a w h hs))
 |seq x y MY MZ=>
  intro Q s φ a w h hs
  refine yZ (gD (MY _ s φ a w h hs) ?_)
  rintro e a' w' ⟨xx,s',aE,hq,jT,hm⟩
  cases e<;>cases xx<;>first|(exact hm.elim)|skip
  ·exact MZ Q s' aE a' w' hq jT
  ·subst hm;exact⟨_,s',aE,hq,jT,rfl⟩
  ·exact I9
  ·exact Jd
 |cond c x y MY MZ=>
  intro Q s φ a w h hs
  simp only[iY]at h
  have hc:=mP (M:=M) (φ:=φ) (H:=s.H) (w:=w) s a hs.env c
  split at h
  ·rename_i t hv
   rw[hv]at hc
   simp only[V.den,D.den]at hc
   cases t with
   |true=>exact qo hc (MY Q s φ a w (h.1 rfl) hs)
   |false=>exact qo hc (MZ Q s φ a w (h.2 rfl) hs)
  ·rename_i hv
   rw[hv]at hc
   obtain⟨t,hc⟩:=hc
   cases t with
   |true=>exact qo hc (MY Q s φ a w h.1 hs)
   |false=>exact qo hc (MZ Q s φ a w h.2 hs)
  ·exact h.elim
 |block id x ih=>
  intro Q s φ a w h hs
  refine Hg (gD (ih _ s φ a w h hs) ?_)
  rintro e a' w' ⟨xx,s',aE,hq,jT,hm⟩
  cases e<;>cases xx<;>first|(exact hm.elim)|skip
  ·exact⟨.normal,s',aE,hq,jT,trivial⟩
  ·subst hm
   simp only[Exit.inBlock]
   simp only[ff]at hq
   split
   ·rename_i he;rw[if_pos he]at hq;exact⟨.normal,s',aE,hq,jT,trivial⟩
   ·rename_i he;rw[if_neg he]at hq;exact⟨.exit _,s',aE,hq,jT,rfl⟩
  ·exact I9
  ·exact Jd
 |loop x ih=>
  intro Q s φ a w h hs
  obtain⟨J,⟨m0,s1,hle,hI⟩,uU⟩:=h
  obtain⟨iM,nU⟩:=DA hb hs hle
  refine y0 (fun m a w=>∃s φ,J m s/\b7 M cA H0 w0 n cx φ s a w) ?_ m0 a w ⟨s1,iM,hI,nU⟩
  rintro m a w ⟨s,φ,hI,hs⟩
  refine gD (ih _ s φ a w (uU m s hI) hs) ?_
  rintro e a' w' ⟨xx,s',aE,hq,jT,hm⟩
  cases e<;>cases xx<;>first|(exact hm.elim)|skip
  ·obtain⟨m2,s2,b8,JQ,hI2⟩:=hq
   obtain⟨Hh,Ft⟩:=DA hb jT JQ
   exact⟨m2,b8,s2,Hh,hI2,Ft⟩
  ·subst hm;exact⟨_,s',aE,hq,jT,rfl⟩
  ·exact I9
  ·exact Jd
def JR(tmps:Array Value)(r:ResultVar):Sem Value:=
 match r with
 | .tmp t=>pure (tmps.getD t undef)
 | .cell p t=>do loadVar t (<- asAddr (tmps.getD p undef))
theorem tX(qq:ax M φ s.H w)(dW:∀i,V.den (ao M φ s.H) φ s.H w (s.env i) (a.tmps.getD i undef)):∀ (rs:List ResultVar) (vs:List V),lV P s rs=some vs->
 ∃vals,(rs.mapM (JR a.tmps)).run P w= .ok vals w/\V.aC (ao M φ s.H) φ s.H w vs vals
 |[],vs,h=>by simp[lV]at h;subst h;exact⟨[],aF,rfl⟩
 | .tmp t::rs,vs,h=>by
   simp only[lV,Option.map_eq_some_iff]at h
   obtain⟨us,h1,rfl⟩:=h
   obtain⟨vals,h2,h3⟩:=tX qq dW rs us h1
   exact⟨a.tmps.getD t undef::vals,by simp only[List.mapM_cons,JR,Sem.run_bind,Sem.run_pure,Result.andThen_ok,h2],_,_,rfl,dW t,h3⟩
 | .cell p t::rs,vs,h=>by
   simp only[lV]at h
   split at h
   ·rename_i id off hv
    split at h
    ·rename_i cs ho
     simp only[Option.bind_eq_some_iff,Option.map_eq_some_iff]at h
     obtain⟨v,h0,us,h1,rfl⟩:=h
     obtain⟨vals,h2,h3⟩:=tX qq dW rs us h1
     have hx:=dW p
     rw[hv]at hx
     obtain⟨_,hu,hp⟩:=hx
     obtain⟨k,eB,fi⟩:=hp (by show(s.o id).cg=true;rw[ho];rfl)
     have aW:=qq.ok id
     have xe:s.H.o id= .row cs:=ho
     simp only[aO,xe]at aW
     obtain⟨b',dM,ty,g1,g2,g3,g4⟩:=aW
     rw[eB]at g1;simp at g1;subst g1
     obtain⟨val,h4,h5⟩:=qa (P:=P) h0 ⟨k,0,none⟩ dM.toList g3 g4 (fun j u hj=>qb g2 j u mF) rfl
     rw[add_plain,Nat.zero_add]at h4
     have h6:(loadVar t ⟨k,off,none⟩).run P w= .ok val w:=by simpa[Instr.loadAt,Instr.sureAddr]using h4
     exact⟨val::vals,by simp only[List.mapM_cons,JR,fi,asAddr,Sem.run_bind,Sem.run_pure,Result.andThen_ok,h6,h2],val,vals,rfl,h5,h3⟩
    ·cases h
   ·cases h
theorem mY{fn:Func}{tmps:Array Value}{vals:List Value}
 (h:(fn.results.toList.mapM (JR tmps)).run P w= .ok vals w):
 (results fn tmps).run P w= .ok (if h:vals.toArray.size=1 then vals.toArray[0]else .tuple vals.toArray) w:=by
 have e:results fn tmps=(do let vs <- fn.results.mapM (JR tmps);pure (if h:vs.size=1 then vs[0]else .tuple vs)):=by
  unfold results
  congr 2
 rw[e,Array.mapM_eq_mapM_toList]
 simp only[Sem.run_bind,Sem.run_map,h,Result.andThen_ok,Sem.run_pure]
theorem nV{us:Nat->Prop}(φ:Place)(hM:∀k,M k->k<w.heap.size):ax M φ ⟨fun _=> .no,us⟩ w where
 ok id:=by simp[aO]
 fresh _ _:=rfl
 apart i j k hi:=by simp[ad.live]at hi
 ours k:=by rintro⟨id,h,_⟩;simp[ad.live]at h
 Ak:=hM
theorem Hi{vals:Array Value}{m i:Nat}:(vals++Array.replicate m undef).getD i undef=(vals[i]?).getD undef:=by
 simp only[Array.getD_eq_getD_getElem?,Array.getElem?_append]
 split
 ·rfl
 ·rw[Array.getElem?_eq_none (xs:=vals) (by omega)]
  simp only[Array.getElem?_replicate]
  split<;>rfl
structure y9 (M:Nat->Prop) (cA:Place) (H0:Hp) (w0:World) (φ:Place) (s:S) (tmps:Array Value) (w:World):Prop where
 heap:ax M φ s.H w
 tr:Trans cA H0 w0 φ s.H w
 env:∀i,V.den (ao M φ s.H) φ s.H w (s.env i) (tmps.getD i undef)
theorem Hj{tmps:Array Value}(hs:y9 M cA H0 w0 φ s tmps w){r:Nat}(h1:w0.heap.size<=r)(h2:w.heap[r]? =some (.deferred (some [])))(h3: ¬cD φ s.H r):
 y9 M cA H0 w0 φ s tmps {w with heap:=w.heap.setIfInBounds r (.deferred none)}:=by
 have fG:∀b,b≠r->(w.heap.setIfInBounds r (.deferred none))[b]? =w.heap[b]? :=fun b hb=>(MapKept.heap_set h2).2 b hb
 have tA:∀b,cP w b-> ¬ao M φ s.H b->(w.heap.setIfInBounds r (.deferred none))[b]? =w.heap[b]? /\ ¬ao M φ s.H b:=by
  intro b hc hn
  refine⟨fG b fun e=> ?_,hn⟩
  subst e
  rcases hc with⟨cs,ty,fz,hc⟩|⟨es,clock,hc⟩
  ·rw[h2]at hc;cases hc
  ·rw[h2]at hc;cases hc
 refine⟨⟨fun id=> ?_,hs.heap.fresh,hs.heap.apart,fun b hb=>⟨(hs.heap.ours b hb).1,by simpa using(hs.heap.ours b hb).2⟩,fun b hb=>by simpa using hs.heap.Ak b hb⟩,⟨⟨hs.tr.cu.os,hs.tr.cu.tape,hs.tr.cu.output,by simpa using hs.tr.cu.size,fun j hj hm=> ?_⟩,hs.tr.grow,hs.tr.rel⟩,fun i=>V.kZ tA (dN.refl _ _) _ _ (hs.env i)⟩
 ·exact aO.AR tA (dN.refl _ _) rfl rfl (fun hl b hb=>fG b fun e=>h3 ⟨id,hl,e ▸ hb⟩) (hs.heap.ok id)
 ·rw[fG j (by omega)];exact hs.tr.cu.block j hj hm
theorem gE{fn:Func}{R:Ending->World->Prop}{u:FrameMode}(hu:u≠ .run){tmps tb:Array Value}{ds:List Deferred}(hR:∀w,y9 M cA H0 w0 φ s tb w->LeavesInM (dG none) k P fn tmps R ds u w):
 ∀ (ms:List Nat) (w:World),ms.Nodup->(∀r∈ms,w0.heap.size<=r/\w.heap[r]? =some (.deferred (some []))/\ ¬cD φ s.H r)->y9 M cA H0 w0 φ s tb w->LeavesInM (dG none) k P fn tmps R (ms.map mark++ds) u w
 |[],w,_,_,hs=>hR w hs
 |r::ms,w,hn,hm,hs=>by
  obtain⟨h1,h2,h3⟩:=hm r aF
  obtain⟨IE,Iv⟩:=List.nodup_cons.1 hn
  refine⟨hu, .inl ⟨r,{w with heap:=w.heap.setIfInBounds r (.deferred none)},rfl, ?_,gE hu hR ms _ Iv (fun r' Hb=> ?_) (Hj hs h1 h2 h3)⟩⟩
  ·simp[Instr.takeDeferred,getObj,setObj,Sem.run,h2,Result.andThen]
  ·obtain⟨g1,g2,g3⟩:=hm r' (by simp[Hb])
   exact⟨g1,((MapKept.heap_set h2).2 r' (fun e=>IE (e ▸ Hb))).trans g2,g3⟩
theorem b7.toB (hs:b7 M cA H0 w0 n cx φ s a w):y9 M cA H0 w0 φ s a.tmps w:=⟨hs.heap,hs.tr,hs.env⟩
def lX(P:Program)(rs:List ResultVar)(K X:V->(Nat->ad)->Nat->Prop)(e:fk)(s:S):Prop:=
 match e with
 | .normal| .ret=>match lV P s rs with
   |some [v]=>K v s.o s.nx
   |some vs=>K (.bT vs) s.o s.nx
   |none=>False
 | .bF v=>X v s.o s.nx
 | .exit _=>False
theorem Bm{P:Program}{rs:List ResultVar}{K X:V->(Nat->ad)->Nat->Prop}{s:S}(h:lX P rs K X .ret s):∃vs,lV P s rs=some vs/\K (match vs with|[v]=>v|vs=> .bT vs) s.o s.nx:=by
 unfold lX at h
 simp only at h
 split at h
 ·rename_i v h1;exact⟨[v],h1,h⟩
 ·rename_i vs h1 h2
  refine⟨vs,h2, ?_⟩
  split
  ·exact absurd rfl (h1 _)
  ·exact h
 ·exact h.elim
theorem Bn:∀ {vs:List V} {vals:List Value},V.aC (ao M φ H) φ H w vs vals->V.den (ao M φ H) φ H w (match vs with|[v]=>v|vs=> .bT vs) (if h:vals.toArray.size=1 then vals.toArray[0]else .tuple vals.toArray)
 |[],vals,h=>by simp only[V.aC]at h;subst h;exact⟨#[],rfl,rfl⟩
 |[v],vals,h=>by obtain⟨u,us,rfl,h1,h2⟩:=h;simp only[V.aC]at h2;subst h2;exact h1
 |v::y::l,vals,h=>by
  have h':=h
  obtain⟨u,us,rfl,h1,u2,us2,rfl,h2⟩:=h
  exact⟨(u::u2::us2).toArray,aF,by simpa using h'⟩
theorem AH{vals:Array Value}{m:Nat}{vs:List V}(hd:V.aC (ao M φ H) φ H w vs vals.toList)(i:Nat):V.den (ao M φ H) φ H w (cj vs i) ((vals++Array.replicate m undef).getD i undef):=by
 have hlen:=V.aA _ _ hd
 simp only[cj,Hi]
 cases hx:vs[i]? with
 |none=>
  have:vals[i]? =none:=by
   rw[List.getElem?_eq_none_iff]at hx
   apply Array.getElem?_eq_none
   simp at hlen;omega
  simp only[List.getD_eq_getElem?_getD,hx,this]
  exact⟨#[],rfl,rfl⟩
 |some v=>
  obtain⟨u,hu,MI⟩:=V.dc _ _ _ _ hd hx
  have Ay:vals[i]? =some u:=by simpa using hu
  simp only[List.getD_eq_getElem?_getD,hx,Ay,Option.getD_some]
  exact MI
theorem mZ{f:FuncId}{fn:Func}{c:Code}{args:Array Value}{w:World}{R:Ending->World->Prop}(hf:P.funcs[f]? =some fn)(hb:fn.body=some c)
 (h:c.tF P none (bodyPostM (dG none) k P fn R) {tmps:=args++Array.replicate (fn.ntmps - args.size) undef,defers:=[]} w):CallsIn (dG none) k P f args w R:=by
 have b8:f<P.funcs.size:=(Array.getElem?_eq_some_iff.1 hf).1
 refine⟨trivial,fun cs hr=> ?_⟩
 let b:Frame:={(default:Frame)with fn:=f,kind:= .normal,roundOf:=none}
 have lW:Frame.enter P f args .normal=b.atR {tmps:=args++Array.replicate (fn.ntmps - args.size) undef,defers:=[]} [.code c]:=by
  simp[Frame.enter,Frame.atR,hf,hb,b]
 obtain⟨e,a',w',hq,c7⟩:=h b [] cs rfl b8
 rw[<- lW]at c7
 cases e with
 |normal=>
  obtain⟨e',Sb,fr',hR,hs,AD,hl⟩:=leaves_stepsInM a'.defers .returning w' {b.atR a' []with mode:= .returning} cs rfl rfl rfl hf rfl (trivial:(dG none).fn f) hr hq
  exact⟨e',Sb,fr',hR,ComesIn.of_steps (StepsIn.trans c7 (.one (fenced_calm (n:=0) (fr:=b.atR a' []) trivial gC rfl) (stepR_end rfl))) hs,AD,hl⟩
 |ret=>
  obtain⟨todo,O2⟩:=c7.1 rfl
  obtain⟨e',Sb,fr',hR,hs,AD,hl⟩:=leaves_stepsInM a'.defers .returning w' {b.atR a' todo with mode:= .returning} cs rfl rfl rfl hf rfl (trivial:(dG none).fn f) hr hq
  exact O0
 |panic chain=>
  obtain⟨todo,O2⟩:=c7
  obtain⟨e',Sb,fr',hR,hs,AD,hl⟩:=leaves_stepsInM a'.defers (.panicking chain) w' {b.atR a' todo with mode:= .panicking chain} cs rfl rfl rfl hf rfl (trivial:(dG none).fn f) hr hq
  exact O0
 |exit id=>exact hq.elim
 |goto l=>exact hq.elim
 |outgrown=>exact⟨.outgrown,w',b,hq,c7.resolve_left (by simp[b]),rfl,trivial⟩
def DC(P:Program)(l:Nat)(R:Ending->World->Prop):Exit->Act->World->Prop
 | .normal,_,w=>∃v w',(Instr.endRound l none).run P w= .ok v w'/\R (.returned v) w'
 | .ret,_,w=>∃v w',(Instr.endRound l (some .ret)).run P w= .ok v w'/\R (.returned v) w'
 | .exit id,_,w=>∃v w',(Instr.endRound l (some (.exit id))).run P w= .ok v w'/\R (.returned v) w'
 | .goto _,_,_=>False
 | .panic chain,a,w=>a.defers=[]/\R (.panicked chain) w
 | .outgrown,_,_=>False
theorem uV{l:Nat}{f:FuncId}{tmps:Array Value}{assign body:Code}{w:World}{R:Ending->World->Prop}(hf:f<P.funcs.size)
 (h:assign.tF P (some l) (Exit.then (fun oq jn=>∃rJ,(Instr.beginRound l).run P jn= .ok () rJ/\body.tF P (some l) (DC P l R) oq rJ) (fun e a w=>match e with| .panic chain=>a.defers=[]/\R (.panicked chain) w|_=>False))
  {tmps:=tmps,defers:=[]} w):
 RoundIn Fence.wide n P l f tmps assign body w R:=by
 refine⟨trivial,fun c cs hr=> ?_⟩
 let b:Frame:={(default:Frame)with fn:=f,kind:= .normal,roundOf:=some l}
 have Y4:Frame.round l f tmps assign body .normal=b.atR {tmps:=tmps,defers:=[]} [.code assign, .beginRound, .code body]:=by
  simp[Frame.round,Frame.atR,b]
 have calm:∀ (m:Machine),m.fenced P Fence.wide:=fun m=>fenced_wide P m
 have bF:∀ {a:Act} {w:World} {todo:List Item} {chain:List PanicEntry},a.defers=[]->step P (lone {b.atR a todo with mode:= .panicking chain} (c::cs) w)= .next (lone (c.raise chain) cs w):=by
  intro a w todo chain hd
  exact step_leave_panicked (fr:={b.atR a todo with mode:= .panicking chain}) ⟨rfl,hd,P.funcs[f],by show P.funcs[f]? =_;simp[hf]⟩
 obtain⟨e,oq,jn,hq,c7⟩:=h b [.beginRound, .code body] (c::cs) rfl hf
 rw[<- Y4]at c7
 cases e with
 |normal=>
  obtain⟨rJ,hbr,qs⟩:=hq
  have s1:StepsIn (Machine.fenced P Fence.wide) P (lone (b.atR oq [.beginRound, .code body]) (c::cs) jn) (lone (b.atR oq [.code body]) (c::cs) rJ):= .one (calm _) (stepR_beginRound rfl hbr)
  obtain⟨SJ,Y2,Dy,qn,ko⟩:=qs b [] (c::cs) rfl hf
  have c7:StepsIn (Machine.fenced P Fence.wide) P _ _:=c7
  cases SJ with
  |normal=>
   obtain⟨v,tG,ef,hR⟩:=qn
   have ko:StepsIn (Machine.fenced P Fence.wide) P _ _:=ko
   exact⟨.returned v,tG,hR,(StepsIn.trans c7 s1).trans (StepsIn.trans ko (.one (calm _) (stepR_round_end rfl rfl ef)))⟩
  |ret=>
   obtain⟨v,tG,ef,hR⟩:=qn
   obtain⟨k₁,hs⟩:=ko.2 rfl
   have hs:StepsIn (Machine.fenced P Fence.wide) P _ _:=hs
   exact⟨.returned v,tG,hR,(StepsIn.trans c7 s1).trans (StepsIn.trans hs (.one (calm _) (stepR_round_ret rfl rfl ef)))⟩
  |exit id=>
   obtain⟨v,tG,ef,hR⟩:=qn
   obtain⟨k₁,hk,hs⟩:=ko.2 rfl rfl
   have hs:StepsIn (Machine.fenced P Fence.wide) P _ _:=hs
   exact⟨.returned v,tG,hR,(StepsIn.trans c7 s1).trans (StepsIn.trans hs (.one (calm _) (stepR_round_exit rfl rfl hk ef)))⟩
  |goto t=>exact qn.elim
  |panic chain=>
   obtain⟨todo,hs⟩:=ko
   have hs:StepsIn (Machine.fenced P Fence.wide) P _ _:=hs
   exact⟨.panicked chain,Dy,qn.2,(StepsIn.trans c7 s1).trans (StepsIn.trans hs (.one (calm _) (bF qn.1)))⟩
  |outgrown=>exact qn.elim
 |exit id=>exact hq.elim
 |goto t=>exact hq.elim
 |ret=>exact hq.elim
 |panic chain=>
  obtain⟨todo,hs⟩:=c7
  have hs:StepsIn (Machine.fenced P Fence.wide) P _ _:=hs
  exact⟨.panicked chain,jn,hq.2,StepsIn.trans hs (.one (calm _) (bF hq.1))⟩
 |outgrown=>exact hq.elim
theorem cI.Fv {f:FuncId}{fn:Func}{c:Code}{args:List V}{o:Nat->ad}{nx:Nat}{K X:V->(Nat->ad)->Nat->Prop}(hf:P.funcs[f]? =some fn)(hn:(fn.name== "runtime.NumGoroutine")=false)(qs:fn.body=some c)(hl:args.length<=fn.ntmps)
 (h:iY P fn.ntmps nx false c (lX P fn.results.toList K X) ⟨cj args,o,nx⟩):cI P f args o nx K X:=by
 refine⟨⟨fn,hf,hn,by rw[qs];rfl⟩,fun M φ w vals hH hd=> ?_⟩
 have hlen:=V.aA _ _ hd
 let s0:S:=⟨cj args,o,nx⟩
 let a0:Act:={tmps:=vals++Array.replicate (fn.ntmps - vals.size) undef,defers:=[]}
 have pg:b7 M φ (hp o nx) w fn.ntmps ⟨[],false⟩ φ s0 a0 w:=by
  exact Yt
 refine Bf (ro:=none) (k:=0) (mZ hf qs (gD (gV (P:=P) (H0:=hp o nx) (b:=nx) (cx:=⟨[],false⟩) (ro:=none) (fun id hu=>hu) (fun _=>rfl) c _ s0 φ a0 w h pg) ?_))
 rintro e a w' ⟨x,s,aE,hq,hs,hm⟩
 obtain⟨ms,g1,g2,g3,g4⟩:=hs.defers
 rw[List.append_nil]at g1
 have done:(x= .normal\/x= .ret)->LeavesInM (dG none) 0 P fn a.tmps (mU M φ (hp o nx) w K X) a.defers .returning w':=by
  intro hx
  have hq':lX P fn.results.toList K X .ret s:=by rcases hx with rfl|rfl<;>exact hq
  obtain⟨vs,h1,h2⟩:=Bm hq'
  rw[g1]
  have:=gE (P:=P) (k:=0) (fn:=fn) (R:=mU M φ (hp o nx) w K X) (u:= .returning) aF (ds:=[]) (fun w2 hb=>by
   obtain⟨vals,h3,h4⟩:=tX (P:=P) (a:=a) hb.heap hb.env _ _ h1
   exact⟨_,mY h3,aE,s.o,s.nx,_,hb.heap,hb.tr,Bn h4,h2⟩) ms w' g2 g4 hs.toB
  rwa [List.append_nil]at this
 cases e<;>cases x<;>first|(exact hm.elim)|skip
 ·exact done (.inl rfl)
 ·exact hq.elim
 ·exact done (.inr rfl)
 ·rename_i v
  obtain⟨val,rfl,M0⟩:=hm
  show LeavesInM (dG none) 0 P fn a.tmps (mU M φ (hp o nx) w K X) a.defers _ w'
  rw[g1]
  have Y4:y9 M φ (hp o nx) w aE ⟨fun i=>if i=0 then v else .aa,s.o,s.nx⟩ #[val] w':=⟨hs.heap,hs.tr,fun i=>by
   by_cases hi:i=0
   ·subst hi;exact M0
   ·simp only[hi,if_false];trivial⟩
  have:=gE (P:=P) (k:=0) (fn:=fn) (s:=⟨fun i=>if i=0 then v else .aa,s.o,s.nx⟩) (tmps:=a.tmps) (tb:=#[val]) (cA:=φ) (H0:=hp o nx) (w0:=w) (R:=mU M φ (hp o nx) w K X) (u:= .panicking [{v:=val,recovered:=false}]) aF (ds:=[]) (fun w2 hb=>by
   have h0:=hb.env 0
   exact⟨aE,s.o,s.nx,v,hb.heap,hb.tr,val,rfl,h0,hq⟩) ms w' g2 g4 Y4
  rwa [List.append_nil]at this
theorem a8.m7 {f:FuncId}{ds:List D}{out:R}(h:cI P f (ds.map .d) (fun _=> .no) 0 (fun v o _=>∃vs rs,v=(match vs with|[v]=>v|vs=> .bT vs)/\bZ o vs=some rs/\out= .ret rs) (fun v o _=>∃x,dU o v=some x/\out= .bF x)):a8 P f ds out:=by
 refine⟨h.1,fun M w vals hM hd=> ?_⟩
 let cA:Place:=fun _=> .nilFunc
 have wA:∀b, ¬cD cA (hp (fun _=> .no) 0) b:=by rintro b ⟨id,hl,_⟩;simp[hp,ad.live]at hl
 refine(h.2 M cA w vals (nV cA hM) ((V.cw _ _).2 (D.aT (w:=w) (w':=w) (B:=M) (fun b _ hB=>⟨rfl,fun h=>h.elim hB (wA b)⟩) _ _ hd))).mono ?_
 rintro e w' ⟨aE,o',nx',v,k1,k2,k3⟩
 have Fw:dV (fun _=>False) w w':=⟨k2.cu.os,k2.cu.tape,k2.cu.output,k2.cu.size,fun k hk _=>k2.cu.block k hk (wA k)⟩
 have fin:∀ (vs:List V) (xs:List D) (vals:List Value),bZ o' vs=some xs->V.aC (ao M aE (hp o' nx')) aE (hp o' nx') w' vs vals->D.aC M w' xs vals:=by
  intro vs xs vals h1 h2
  obtain⟨f1,f2,f3,f4,f5⟩:=cQ k1 (V.br vs) (cS vs _ h2)
  have h3:=df f1 vs xs vals f3 h1 (V.aT f2 _ _ h2)
  exact D.aT (w:=w') (w':=w') (fun k _ hB=>⟨rfl,fun hM=>hB (.inl hM)⟩) xs vals h3
 refine⟨Fw, ?_⟩
 cases e with
 |outgrown=>exact k3.elim
 |panicked ch=>
  obtain⟨val,rfl,g1,x,g2,rfl⟩:=k3
  have:=fin [v] [x] [val] (by simp[bZ,g2]) ⟨val,[],rfl,g1,rfl⟩
  obtain⟨u,us,he,h2,_⟩:=this
  simp at he;obtain⟨rfl,rfl⟩:=he
  exact⟨val,rfl,h2⟩
 |returned val=>
  obtain⟨g1,vs,rs,rfl,g2,rfl⟩:=k3
  match vs,g1,g2 with
  |[],g1,g2=>
   obtain⟨arr,rfl,hv⟩:=g1
   simp only[bZ,Option.some.injEq]at g2;subst g2
   exact⟨arr,rfl,hv⟩
  |[v],g1,g2=>
   have:=fin [v] rs [val] g2 ⟨val,[],rfl,g1,rfl⟩
   cases rs with
   |nil=>cases this
   |cons x l=>
    obtain⟨u,us,he,h2,h3⟩:=this
    simp at he;obtain⟨rfl,rfl⟩:=he
    cases l with
    |nil=>exact h2
    |cons y l=>obtain⟨_,_,h,_⟩:=h3;cases h
  |v::v2::l,g1,g2=>
   obtain⟨arr,rfl,h⟩:=g1
   have:=fin (v::v2::l) rs arr.toList g2 h
   have hl:=D.aA _ _ this
   have Ya:=V.aA _ _ h
   match rs,hl,this with
   |[],hl,_=>exact EZ
   |[x],hl,_=>exact EZ
   |x::y::l,_,this=>exact⟨arr,rfl,this⟩
theorem Hk{rs:List ResultVar}{out:R}(e:fk)(s:S)(h:yX P rs out e s):
 lX P rs (fun v o _=>∃vs rs,v=(match vs with|[v]=>v|vs=> .bT vs)/\bZ o vs=some rs/\out= .ret rs) (fun v o _=>∃x,dU o v=some x/\out= .bF x) e s:=by
 have ret:yX P rs out .ret s->lX P rs (fun v o _=>∃vs rs,v=(match vs with|[v]=>v|vs=> .bT vs)/\bZ o vs=some rs/\out= .ret rs) (fun v o _=>∃x,dU o v=some x/\out= .bF x) .ret s:=by
  intro h
  obtain⟨vs,xs,h1,h2,h3⟩:=JJ h
  simp only[lX,h1]
  match vs,h2 with
  |[],h2=>exact⟨[],xs,rfl,h2,h3⟩
  |[v],h2=>exact⟨[v],xs,rfl,h2,h3⟩
  |v::v2::l,h2=>exact⟨v::v2::l,xs,rfl,h2,h3⟩
 cases e with
 |normal=>exact ret h
 |ret=>exact ret h
 |exit id=>exact h.elim
 |bF v=>exact JK h
end
end
section
def JS{α:Type}(c:Bool)(x:α):Option α:=if c=true then some x else none
def one(v:V):Option fK:=some (v,[],[])
def Bo(op:BinOp)(k:IntKind)(a b:Int):Option V:=
 match op with
 | .add=>some (.d (.int k (k.wrap (a+b))))
 | .sub=>some (.d (.int k (k.wrap (a - b))))
 | .mul=>some (.d (.int k (k.wrap (a*b))))
 | .quo=>if b=0 then none else some (.d (.int k (k.wrap (a.tdiv b))))
 | .rem=>if b=0 then none else some (.d (.int k (a.tmod b)))
 | .and=>(uB .and k a b).map fun r=> .d (.int k r)
 | .or=>(uB .or k a b).map fun r=> .d (.int k r)
 | .xor=>(uB .xor k a b).map fun r=> .d (.int k r)
 | .andNot=>(uB .andNot k a b).map fun r=> .d (.int k r)
 | .eql=>some (.d (.bool (a==b)))| .neq=>some (.d (.bool (a !=b)))| .lss=>some (.d (.bool (decide (a<b))))| .leq=>some (.d (.bool (decide (a<=b))))
 | .gtr=>some (.d (.bool (decide (b<a))))| .geq=>some (.d (.bool (decide (b<=a))))
 |_=>none
def nW(P:Program)(t:TypeId):Bool:=
 match P.underlying t with
 |some .bool=>true
 |_=>false
def zc(P:Program)(op:BinOp)(t:TypeId)(x y:V):Option V:=
 match x,y with
 | .d (.int k a), .d (.int k' b)=>if k=k' then Bo op k a b else none
 | .d (.bool a), .d (.bool b)=>match op with
   | .eql=>JS (nW P t) (.d (.bool (a==b)))
   | .neq=>JS (nW P t) (.d (.bool (a !=b)))
   |_=>none
 | .d (.str a), .d (.str b)=>match op with
   | .eql=>some (.d (.bool (a==b)))
   | .neq=>some (.d (.bool (a !=b)))
   |_=>none
 |_,_=>none
def unF(op:UnOp)(x:V):Option V:=
 match op,x with
 | .neg, .d (.int k n)=>some (.d (.int k (k.wrap (-n))))
 | .not, .d (.bool b)=>some (.d (.bool !b))
 |_,_=>none
def qu(c a b:V):Option V:=
 match c with
 | .d (.bool true)=>some a
 | .d (.bool false)=>some b
 |_=>none
def qv(o:Nat->ad)(x:V):Option (List D×List Nat):=
 match x with
 | .d (.sl es)=>some (es,[])
 | .aJ=>some ([],[])
 | .q9 es=>some (es,[])
 | .osl id ep=>match o id with
   | .arr e7 _ _ es=>if ep=e7 then some (es,[id])else none
   | .tw e7 es=>if ep=e7 then some (es,[id])else none
   |_=>none
 |_=>none
def DD(P:Program)(t:TypeId)(o:Nat->ad)(x:V):Option fK:=
 match P.underlying t with
 |some (.slice _)=>match qv o x with
  |some (es,rd)=>some (.d (.int .i64 es.length),[],rd)
  |none=>none
 |some .string=>match x with
  | .d (.str s)=>one (.d (.int .i64 s.length))
  |_=>none
 |some (.array n _)=>one (.d (.int .i64 n))
 |_=>none
def xQ(P:Program)(e:TypeId)(es:List D)(i:Int)(rd:List Nat):Option fK:=
 if 0<=i then match es[i.toNat]? with
  |some y=>JS (y.cells.length==P.cellsOf e&&0<P.cellsOf e) (.pp y.cells 0,[],rd)
  |none=>none
 else none
def oP(o:Nat->ad)(x:V)(q:Nat):Option V:=
 match x with
 | .ptr id off=>JS (o id).cg (.ptr id (off+q))
 | .pp cs off=>some (.pp cs (off+q))
 | .pe id ep j sz off=>if(o id).cf=some ep then some (.pe id ep j sz (off+q))else none
 |_=>none
def gW(P:Program)(o:Nat->ad)(t:TypeId)(x ix:V):Option fK:=
 match ix with
 | .d (.int _ i)=>match bS P t with
   |some e=>match x with
    | .d (.sl es)=>xQ P e es i []
    | .q9 es=>xQ P e es i []
    | .osl id ep=>match o id with
      | .arr e7 _ sz es=>if ep=e7/\0<=i/\i.toNat<es.length/\sz=P.cellsOf e/\0<P.cellsOf e then some (.pe id ep i.toNat sz 0,[],[id])else none
      | .tw e7 es=>if ep=e7 then xQ P e es i [id]else none
      |_=>none
    |_=>none
   |none=>match yK P t with
    |some (n,e)=>if 0<=i/\i<n/\(P.info? e).isSome=true then(oP o x (i.toNat*P.cellsOf e)).bind one else none
    |none=>none
 |_=>none
def gX(P:Program)(o:Nat->ad)(t:TypeId)(x:V)(f:Nat):Option V:=
 match bR P t f with
 |some q=>oP o x q
 |none=>none
def m8(P:Program)(o:Nat->ad)(t:TypeId)(x:V):Option fK:=
 match x with
 | .ptr id off=>match o id with
   | .row cs=>match eG P t cs off with
     |some v=>some (v,[],[id])
     |none=>none
   |_=>none
 | .pp cs off=>match eG P t (cs.map .d) off with
   |some v=>some (v,[],[])
   |none=>none
 | .pe id ep i sz off=>match o id with
   | .arr e7 _ rb es=>if ep=e7/\sz=rb then match es[i]? with
    |some e=>match eG P t (e.cells.map .d) off with
     |some v=>some (v,[],[id])
     |none=>none
    |none=>none
     else none
   |_=>none
 |_=>none
def rK(P:Program)(o:Nat->ad)(t:TypeId)(x v:V):Option fK:=
 match x with
 | .ptr id off=>match o id with
   | .row cs=>match yL P t cs off v with
     |some cs'=>some (.bT [],[(id, .row cs')],[id])
     |none=>none
   |_=>none
 | .pe id ep i rb off=>match o id with
   | .arr e7 ty sz es=>if ep=e7/\rb=sz then match es[i]?,dU o v with
    |some e,some y=>if y.cells.length=P.cellsOf t/\0<y.cells.length/\v.ids.all (· !=id)=true then match e.put off y.cells with
     |some e'=>some (.bT [],bL o v.ids++[(id, .arr ep ty sz (es.set i e'))],id::v.ids)
     |none=>none
     else none
    |_,_=>none
     else none
   |_=>none
 |_=>none
def fT(P:Program)(o:Nat->ad)(fr:Nat)(t:TypeId)(len:Nat)(parts:List (Nat×V)):Option fK:=
 match bS P t with
 |some e=>if len=0/\parts.isEmpty=true/\0<P.cellsOf e then some (.osl fr 0,[(fr, .arr 0 e (P.cellsOf e) [])],[])else if parts.map (·.1)=List.range len/\(cq P e).isSome=true/\0<len/\0<P.cellsOf e/\len*P.cellsOf e<=2^24 then match bZ o (parts.map (·.2))with
  |some ds=>if ds.all (fun x=>x.cells.length==P.cellsOf e)=true then some (.osl fr 0,bL o (V.br (parts.map (·.2)))++[(fr, .arr 0 e (P.cellsOf e) ds)],V.br (parts.map (·.2)))else none
  |none=>none
  else none
 |none=>none
def lY(P:Program)(fr:Nat)(t:TypeId)(l c:V):Option fK:=
 match bS P t with
 |some e=>match l,c with
  | .d (.int _ n), .d (.int _ m)=>if n=m/\0<=n/\0<P.cellsOf e/\P.bytesOf e*n.toNat<=2^47/\n.toNat<=2^47 then match AM P e with
   |some x=>some (.osl fr 0,[(fr, .arr 0 e (P.cellsOf e) (List.replicate n.toNat x))],[])
   |none=>none
    else none
  |_,_=>none
 |none=>none
def qw(P:Program)(o:Nat->ad)(fr:Nat)(ts:Array TypeId)(x y:V):Option fK:=
 match ts.toList with
 |[t,t']=>if t=t' then match bS P t,qv o y with
    |some e,some (new,rd)=>if 0<P.cellsOf e/\(cq P e).isSome=true/\new.all (fun z=>z.cells.length==P.cellsOf e)=true then match x with
     | .aJ=>if new.length<=2^47/\new.length*P.bytesOf e<=2^47 then some (.osl fr 0,[(fr, .arr 0 e (P.cellsOf e) new)],rd)else none
     | .q9 es=>if es.all (fun z=>z.cells.length==P.cellsOf e)=true then(if new=[]then some (.q9 es,[],rd)else if es.length+new.length<=2^40/\(es.length+new.length)*P.bytesOf e<=2^40 then some (.osl fr 0,[(fr, .arr 0 e (P.cellsOf e) (es++new))],rd)else none)else none
     | .osl id ep=>match o id with
       | .arr e7 ty sz es=>if ep=e7/\ty=e/\sz=P.cellsOf e/\es.length+new.length<=2^47/\(es.length+new.length)*P.bytesOf e<=2^47 then
        some (.osl id (ep+1),[(id, .arr (ep+1) ty sz (es++new))],id::rd)else none
       |_=>none
     |_=>none
     else none
    |_,_=>none
  else none
 |_=>none
def qx(isMax:Bool)(x y:V):Option V:=
 match x,y with
 | .d (.int k a), .d (.int k' b)=>if k=k' then some (.d (.int k (if isMax then(if b>a then b else a)else(if b<a then b else a))))else none
 |_,_=>none
def lZ(x:Option V):Option fK:=match x with|some v=>one v|none=>none
def qy(P:Program)(s:S)(fr:Nat)(b:Builtin)(args:List Operand)(ts:Array TypeId):Option fK:=
 match b,args with
 | .len,[x]=>match ts.toList with
   |[t]=>DD P t s.o (s.ev x)
   |_=>none
 | .append,[x,y]=>match xr P fr ts (s.ev x) (s.ev y)with
   |some r=>some r
   |none=>qw P s.o fr ts (s.ev x) (s.ev y)
 | .max,[x,y]=>lZ (qx true (s.ev x) (s.ev y))
 | .min,[x,y]=>lZ (qx false (s.ev x) (s.ev y))
 | .max,[x,y,z]=>lZ (Jr (s.ev x) (s.ev y) (s.ev z))
 | .copy,[x,y]=>xq P s.o ts (s.ev x) (s.ev y)
 | .delete,[x,y]=>match ts.toList.head? with
   |some t=>nR P s.o t (s.ev x) (s.ev y)
   |none=>none
 | .cap,[x]=>ME P ts (s.ev x)
 |_,_=>none
def zd(P:Program)(t:TypeId)(parts:List (Nat×V)):Option V:=
 match cq P t,cY P t with
 |some z,some pl=>match sM pl z parts with
  |some cs=>some (mn cs)
  |none=>none
 |_,_=>none
def je(o:Nat->ad)(x:V):Option V:=
 match x with
 | .ptr id off=>JS (o id).cg (.ptr id off)
 | .pp cs off=>some (.pp cs off)
 | .func (.func f) first cap=>some (.func (.func f) first cap)
 |_=>none
def l6(P:Program)(t:TypeId):Bool:=
 match P.underlying t with
 |some (.interface _)=>false
 |some _=>true
 |none=>false
def JT(P:Program)(t:TypeId)(x:V):Option V:=
 JS (l6 P t) (match x with
  | .d y=> .d (.iface t y)
  |v=> .iface t v)
def eZ(P:Program)(o:Nat->ad)(op:BinOp)(t:TypeId)(mL:Bool)(x y:V):Option fK:=
 match zc P op t x y with
 |some v=>one v
 |none=>rC P o op t mL x y
def GP(op:UnOp)(x:V):Option V:=
 match op,x with
 | .not, .fH=>some .fH
 |op,x=>unF op x
def gr(P:Program)(s:S)(fr:Nat)(op:Op):Option fK:=
 match op with
 | .move x=>one (s.ev x)
 | .assign x=>one (s.ev x)
 | .pick c a b=>lZ (qu (s.ev c) (s.ev a) (s.ev b))
 | .alloc t=>match cq P t with
   |some cs=>some (.ptr fr 0,[(fr, .row cs)],[])
   |none=>none
 | .box _ x=>match(s.ev x).cells with
   |some cs=>some (.ptr fr 0,[(fr, .row cs)],[])
   |none=>none
 | .build t parts=>lZ (zd P t (parts.toList.map fun p=>(p.1,s.ev p.2)))
 | .buildSlice t len parts=>fT P s.o fr t len (parts.toList.map fun p=>(p.1,s.ev p.2))
 | .load t x=>m8 P s.o t (s.ev x)
 | .store t x v=>rK P s.o t (s.ev x) (s.ev v)
 | .nilCheck x=>lZ (je s.o (s.ev x))
 | .binOp op t x y _=>eZ P s.o op t (isConst x||isConst y) (s.ev x) (s.ev y)
 | .unOp op _ x=>lZ (GP op (s.ev x))
 | .convert u t x=>match P.underlying u,tz P t,s.ev x with
   |some _,some k, .d (.int _ n)=>one (.d (.int k (k.wrap n)))
   |_,_,_=>none
 | .makeInterface t x=>lZ (JT P t (s.ev x))
 | .makeFunc fn first cap=>one (.func fn (first.toList.map s.ev) (cap.toList.map s.ev))
 | .makeSlice t l c=>lY P fr t (s.ev l) (s.ev c)
 | .fieldAddr t x f=>lZ (gX P s.o t (s.ev x) f)
 | .indexAddr t x i=>gW P s.o t (s.ev x) (s.ev i)
 | .extract x i=>match s.ev x with
   | .bT vs=>match vs[i]? with
     |some v=>one v
     |none=>none
   |_=>none
 | .call c=>match c.callee with
   | .builtin b=>qy P s fr b c.args.toList c.argTypes
   |_=>none
 | .slice t x lo hi mx=>rz P s.o t (s.ev x) (lo.map s.ev) (hi.map s.ev) (mx.map s.ev)
 | .field t x f=>lZ (uD P t (s.ev x) f)
 | .index t x i=>lZ (uE P t (s.ev x) (s.ev i))
 | .typeAssert x _ t ok=>lZ (pX P t ok (s.ev x))
 | .makeMap t none=>mM P fr t
 | .lookup t m k ok=>ja P s.o t (s.ev m) (s.ev k) ok
 | .mapUpdate t m k v=>fC P s.o t (s.ev m) (s.ev k) (s.ev v)
 | .insert t m k v=>fC P s.o t (s.ev m) (s.ev k) (s.ev v)
 | .range t x=>mN P s.o fr t (s.ev x)
 | .next x str=>oK s.o (s.ev x) str
 | .entry x=>mO s.o (s.ev x)
 |_=>none
section
variable {P:Program}{s:S}{fr:Nat}{v:V}{Δ:List (Nat×ad)}{rd:List Nat}{o:Nat->ad}{K:V->List (Nat×ad)->List Nat->Prop}
theorem rL{α:Type}{c:Bool}{x y:α}(h:JS c x=some y):c=true/\x=y:=by
 unfold JS at h;split at h
 ·injection h with h;exact⟨by assumption,h⟩
 ·cases h
theorem kH{x:V}{r:fK}(h:one x=some r):r=(x,[],[]):=by unfold one at h;injection h with h;exact h.symm
theorem iZ{x:Option V}{r:fK}(h:lZ x=some r):∃v,x=some v/\r=(v,[],[]):=by
 unfold lZ at h;split at h
 ·exact⟨_,rfl,kH h⟩
 ·cases h
theorem DE{x:V}{es:List D}{rd:List Nat}(h:qv o x=some (es,rd)):eH o x=some es/\rd=x.ids:=by
 unfold qv at h
 split at h
 ·exact I2
 ·exact I2
 ·exact I2
 ·split at h
  ·rename_i ho
   split at h
   ·rename_i e;simp at h;obtain⟨rfl,rfl⟩:=h;exact⟨by simp[eH,dU,ho,e],rfl⟩
   ·cases h
  ·rename_i ho
   split at h
   ·rename_i e;simp at h;obtain⟨rfl,rfl⟩:=h;exact⟨by simp[eH,dU,ho,e],rfl⟩
   ·cases h
  ·cases h
 ·cases h
theorem Hl{op:BinOp}{k:IntKind}{a b:Int}{v:V}(h:Bo op k a b=some v){K:V->Prop}(hK:K v):MB op k a b K:=by
 cases op<;>simp only[Bo]at h<;>simp only[MB]
 case quo=>split at h
           ·cases h
           ·exact Sa
 case rem=>split at h
           ·cases h
           ·exact Sa
 case and=>simp only[Option.map_eq_some_iff]at h;obtain⟨r,h1,rfl⟩:=h;exact⟨r,h1,hK⟩
 case or=>simp only[Option.map_eq_some_iff]at h;obtain⟨r,h1,rfl⟩:=h;exact⟨r,h1,hK⟩
 case xor=>simp only[Option.map_eq_some_iff]at h;obtain⟨r,h1,rfl⟩:=h;exact⟨r,h1,hK⟩
 case andNot=>simp only[Option.map_eq_some_iff]at h;obtain⟨r,h1,rfl⟩:=h;exact⟨r,h1,hK⟩
 case shl=>cases h
 case shr=>cases h
 case eql=>injection h with h;subst h;exact⟨_,rfl,hK⟩
 case neq=>injection h with h;subst h;exact⟨_,rfl,hK⟩
 case lss=>injection h with h;subst h;exact⟨_,rfl,hK⟩
 case leq=>injection h with h;subst h;exact⟨_,rfl,hK⟩
 case gtr=>injection h with h;subst h;exact⟨_,rfl,hK⟩
 case geq=>injection h with h;subst h;exact⟨_,rfl,hK⟩
 all_goals (injection h with h;subst h;exact hK)
theorem Hm{op:BinOp}{t:TypeId}{x y v:V}(h:zc P op t x y=some v){K:V->Prop}(hK:K v):Jp P op t x y K:=by
 unfold zc at h
 unfold Jp
 split at h
 ·split at h
  ·exact⟨by assumption,Hl h hK⟩
  ·cases h
 ·have hb:nW P t=true->P.underlying t=some .bool:=by
   unfold nW;intro h;split at h
   ·assumption
   ·cases h
  split at h
  ·obtain⟨h1,rfl⟩:=rL h;exact⟨hb h1,hK⟩
  ·obtain⟨h1,rfl⟩:=rL h;exact⟨hb h1,hK⟩
  ·cases h
 ·split at h
  ·exact IZ
  ·exact IZ
  ·cases h
 ·cases h
theorem DF{c a b v:V}(h:qu c a b=some v){K:V->Prop}(hK:K v):AK c a b K:=by
 unfold qu at h
 unfold AK
 split at h
 ·injection h with h;subst h;exact⟨fun _=>hK,(fun h=>by cases h)⟩
 ·injection h with h;subst h;exact⟨(fun h=>by cases h),fun _=>hK⟩
 ·cases h
theorem uW{x y:V}{q:Nat}(h:oP o x q=some y):(∃id off,x= .ptr id off/\(o id).cg=true/\y= .ptr id (off+q))\/(∃cs off,x= .pp cs off/\y= .pp cs (off+q))\/
 (∃id ep j sz off,x= .pe id ep j sz off/\(o id).cf=some ep/\y= .pe id ep j sz (off+q)):=by
 unfold oP at h
 split at h
 ·obtain⟨h1,rfl⟩:=rL h;exact .inl ⟨_,_,rfl,h1,rfl⟩
 ·injection h with h;exact .inr (.inl ⟨_,_,rfl,h.symm⟩)
 ·split at h
  ·injection h with h;exact .inr (.inr ⟨_,_,_,_,_,rfl,by assumption,h.symm⟩)
  ·cases h
 ·cases h
theorem ux{e:TypeId}{es:List D}{i:Int}{rd:List Nat}{r:fK}(h:xQ P e es i rd=some r):
 0<=i/\∃y,es[i.toNat]? =some y/\y.cells.length=P.cellsOf e/\0<P.cellsOf e/\r=(.pp y.cells 0,[],rd):=by
 unfold xQ at h
 split at h
 ·rename_i h0
  split at h
  ·rename_i y hy
   obtain⟨h1,rfl⟩:=rL h
   simp only[Bool.and_eq_true,beq_iff_eq,decide_eq_true_eq]at h1
   exact⟨h0,y,hy,h1.1,h1.2,rfl⟩
  ·cases h
 ·cases h
theorem tH{t:TypeId}{x ix:V}(h:gW P o t x ix=some (v,Δ,rd))(hK:K v Δ rd):js P o t x ix fun v rd=>K v [] rd:=by
 unfold gW at h
 unfold js
 split at h
 ·simp only
  split at h
  ·rename_i e ht
   simp only[ht]
   split at h
   ·exact Yj
   ·exact Yj
   ·split at h
    ·rename_i ho
     split at h
     ·rename_i hc
      simp only[Option.some.injEq,Prod.mk.injEq]at h;obtain⟨rfl,rfl,rfl⟩:=h
      simp only[ho]
      exact⟨hc.1,hc.2.1,hc.2.2.1,hc.2.2.2.1,hc.2.2.2.2,hK⟩
     ·cases h
    ·rename_i ho
     split at h
     ·rename_i hc
      obtain⟨h0,y,h1,h2,h3,h4⟩:=ux h
      simp only[Prod.mk.injEq]at h4;obtain⟨rfl,rfl,rfl⟩:=h4
      simp only[ho]
      exact⟨hc,h0,y,h1,h2,h3,hK⟩
     ·cases h
    ·cases h
   ·cases h
  ·rename_i ht
   simp only[ht]
   split at h
   ·rename_i n e ha
    simp only[ha]
    split at h
    ·rename_i hc
     simp only[Option.bind_eq_some_iff]at h
     obtain⟨y,hy,h1⟩:=h
     have h1:=kH h1
     simp only[Prod.mk.injEq]at h1;obtain⟨rfl,rfl,rfl⟩:=h1
     refine⟨hc.1,hc.2.1,hc.2.2, ?_⟩
     rcases uW hy with⟨_,_,rfl,h2,rfl⟩|⟨_,_,rfl,rfl⟩|⟨_,_,_,_,_,rfl,h2,rfl⟩
     ·exact⟨h2,hK⟩
     ·exact hK
     ·exact⟨h2,hK⟩
    ·cases h
   ·cases h
 ·cases h
theorem tI{t:TypeId}{x y:V}{f:Nat}(h:gX P o t x f=some y){K:V->Prop}(hK:K y):jt P o t x f K:=by
 unfold gX at h
 unfold jt
 split at h
 ·rename_i q hq
  simp only[hq]
  rcases uW h with⟨_,_,rfl,h2,rfl⟩|⟨_,_,rfl,rfl⟩|⟨_,_,_,_,_,rfl,h2,rfl⟩
  ·exact⟨h2,hK⟩
  ·exact hK
  ·exact⟨h2,hK⟩
 ·cases h
theorem Hn{t:TypeId}{x:V}(h:DD P t o x=some (v,Δ,rd))(hK:K v Δ rd):Jq P t o x fun v rd=>K v [] rd:=by
 unfold DD at h
 unfold Jq
 split at h
 ·rename_i e hu
  simp only[hu]
  split at h
  ·rename_i es yE hl
   simp only[Option.some.injEq,Prod.mk.injEq]at h;obtain⟨rfl,rfl,rfl⟩:=h
   unfold qv at hl
   split at hl
   ·exact I4
   ·exact I4
   ·exact I4
   ·split at hl
    ·rename_i ho
     split at hl
     ·rename_i hc;simp at hl;obtain⟨rfl,rfl⟩:=hl;simp only[ho];exact⟨hc,hK⟩
     ·cases hl
    ·rename_i ho
     split at hl
     ·rename_i hc;simp at hl;obtain⟨rfl,rfl⟩:=hl;simp only[ho];exact⟨hc,hK⟩
     ·cases hl
    ·cases hl
   ·cases hl
  ·cases h
 ·rename_i hu
  simp only[hu]
  split at h
  ·have h1:=kH h;simp only[Prod.mk.injEq]at h1;obtain⟨rfl,rfl,rfl⟩:=h1;exact hK
  ·cases h
 ·rename_i hu
  simp only[hu]
  have h1:=kH h;simp only[Prod.mk.injEq]at h1;obtain⟨rfl,rfl,rfl⟩:=h1;exact hK
 ·cases h
theorem DG{t:TypeId}{x:V}(h:m8 P o t x=some (v,Δ,rd))(hK:K v Δ rd):AL P o t x fun v rd=>K v [] rd:=by
 unfold m8 at h
 unfold AL
 split at h
 ·split at h
  ·rename_i ho
   split at h
   ·rename_i hg
    exact Yx
   ·cases h
  ·cases h
 ·split at h
  ·rename_i hg
   simp only[Option.some.injEq,Prod.mk.injEq]at h;obtain⟨rfl,rfl,rfl⟩:=h
   exact⟨_,hg,hK⟩
  ·cases h
 ·split at h
  ·rename_i ho
   split at h
   ·rename_i hc
    split at h
    ·rename_i e he
     split at h
     ·rename_i hg
      simp only[Option.some.injEq,Prod.mk.injEq]at h;obtain⟨rfl,rfl,rfl⟩:=h
      simp only[ho];exact⟨hc.1,hc.2,e,he,_,hg,hK⟩
     ·cases h
    ·cases h
   ·cases h
  ·cases h
 ·cases h
theorem Bp{t:TypeId}{x y:V}(h:rK P o t x y=some (v,Δ,rd))(hK:K v Δ rd):uC P o t x y fun Δ rd=>K (.bT []) Δ rd:=by
 unfold rK at h
 unfold uC
 split at h
 ·split at h
  ·rename_i ho
   split at h
   ·rename_i hg
    exact Yx
   ·cases h
  ·cases h
 ·split at h
  ·rename_i ho
   split at h
   ·rename_i hc
    split at h
    ·rename_i e z he hz
     split at h
     ·rename_i hl
      split at h
      ·rename_i e' hp
       simp only[Option.some.injEq,Prod.mk.injEq]at h;obtain⟨rfl,rfl,rfl⟩:=h
       simp only[ho]
       exact⟨hc.1,hc.2,e,he,z,hz,hl.1,hl.2.1,hl.2.2,e',hp,hK⟩
      ·cases h
     ·cases h
    ·cases h
   ·cases h
  ·cases h
 ·cases h
theorem rM{t:TypeId}{len:Nat}{parts:List (Nat×V)}(h:fT P o fr t len parts=some (v,Δ,rd))(hK:K v Δ rd):iB P o fr t len parts K:=by
 unfold fT at h
 unfold iB
 split at h
 ·rename_i e ht
  simp only[ht]
  split at h
  ·rename_i hc
   simp only[Option.some.injEq,Prod.mk.injEq]at h;obtain⟨rfl,rfl,rfl⟩:=h
   exact .inl ⟨hc.1,by simpa using hc.2.1,hc.2.2,hK⟩
  split at h
  ·rename_i hc
   refine .inr ?_
   split at h
   ·rename_i ds hd
    split at h
    ·rename_i hw
     simp only[Option.some.injEq,Prod.mk.injEq]at h;obtain⟨rfl,rfl,rfl⟩:=h
     refine⟨hc.1,hc.2.1,hc.2.2.1,hc.2.2.2.1,hc.2.2.2.2,ds,hd,fun x hx=> ?_,hK⟩
     simpa using List.all_eq_true.1 hw x hx
    ·cases h
   ·cases h
  ·cases h
 ·cases h
theorem tJ{t:TypeId}{l c:V}(h:lY P fr t l c=some (v,Δ,rd))(hK:K v Δ rd):ju P fr t l c fun v Δ=>K v Δ []:=by
 unfold lY at h
 unfold ju
 split at h
 ·rename_i e ht
  split at h
  ·split at h
   ·rename_i hc
    split at h
    ·rename_i x hx
     simp only[Option.some.injEq,Prod.mk.injEq]at h;obtain⟨rfl,rfl,rfl⟩:=h
     simp only[ht]
     exact⟨hc.1,hc.2.1,hc.2.2.1,hc.2.2.2.1,hc.2.2.2.2,x,hx,hK⟩
    ·cases h
   ·cases h
  ·cases h
 ·cases h
theorem ze{ts:Array TypeId}{x y:V}(h:qw P o fr ts x y=some (v,Δ,rd))(hK:K v Δ rd):pV P o fr ts x y K:=by
 unfold qw at h
 unfold pV
 split at h
 ·rename_i t t' wO
  simp only[wO]
  split at h
  ·rename_i htt
   refine⟨htt, ?_⟩
   split at h
   ·rename_i e new yE ht hl
    obtain⟨pO,rfl⟩:=DE hl
    simp only[ht]
    split at h
    ·rename_i hc
     refine⟨new,pO,hc.1,hc.2.1,fun z hz=>by simpa using List.all_eq_true.1 hc.2.2 z hz, ?_⟩
     split at h
     ·split at h
      ·rename_i uM
       simp only[Option.some.injEq,Prod.mk.injEq]at h;obtain⟨rfl,rfl,rfl⟩:=h
       exact⟨uM.1,uM.2,hK⟩
      ·cases h
     ·split at h
      ·rename_i Fg
       refine⟨fun z hz=>by simpa using List.all_eq_true.1 Fg z hz, ?_⟩
       split at h
       ·rename_i hn
        simp only[Option.some.injEq,Prod.mk.injEq]at h;obtain⟨rfl,rfl,rfl⟩:=h
        rw[if_pos hn];exact hK
       ·rename_i hn
        split at h
        ·rename_i uM
         simp only[Option.some.injEq,Prod.mk.injEq]at h;obtain⟨rfl,rfl,rfl⟩:=h
         rw[if_neg hn];exact⟨uM.1,uM.2,hK⟩
        ·cases h
      ·cases h
     ·split at h
      ·rename_i ho
       split at h
       ·rename_i uM
        simp only[Option.some.injEq,Prod.mk.injEq]at h;obtain⟨rfl,rfl,rfl⟩:=h
        simp only[ho]
        exact⟨uM.1,uM.2.1,uM.2.2.1,uM.2.2.2.1,uM.2.2.2.2,hK⟩
       ·cases h
      ·cases h
     ·cases h
    ·cases h
   ·cases h
  ·cases h
 ·cases h
theorem uX{x y:V}(h:je o x=some y){K:V->Prop}(hK:K y):la o x K:=by
 unfold je at h
 unfold la
 split at h
 ·obtain⟨h2,rfl⟩:=rL h;exact⟨h2,hK⟩
 ·exact IZ
 ·exact IZ
 ·cases h
theorem JU{op:UnOp}{x y:V}(h:unF op x=some y){K:V->Prop}(hK:K y):YJ op x K:=by
 unfold unF at h
 unfold YJ
 split at h
 ·injection h with h;subst h;simp only;rw[Int.zero_sub];exact hK
 ·exact IZ
 ·cases h
theorem yD{m:Bool}{x y v:V}(h:qx m x y=some v){K:V->Prop}(hK:K v):nQ m [x,y] K:=by
 unfold qx at h
 unfold nQ
 split at h
 ·split at h
  ·exact Sa
  ·cases h
 ·cases h
theorem Bq{op:Op}(h:gr P s fr op=some (v,Δ,rd))(hK:K v Δ rd):Pw P s fr op K:=by
 cases op<;>simp only[gr]at h<;>simp only[Pw]<;>try (cases h;done)
 case move x=>have h:=kH h;simp only[Prod.mk.injEq]at h;obtain⟨rfl,rfl,rfl⟩:=h;exact hK
 case assign x=>have h:=kH h;simp only[Prod.mk.injEq]at h;obtain⟨rfl,rfl,rfl⟩:=h;exact hK
 case pick c a b=>
  obtain⟨x,h1,h⟩:=iZ h;simp only[Prod.mk.injEq]at h;obtain⟨rfl,rfl,rfl⟩:=h
  exact DF h1 hK
 case alloc t=>
  split at h
  ·rename_i cs hz;simp only[Option.some.injEq,Prod.mk.injEq]at h;obtain⟨rfl,rfl,rfl⟩:=h;exact⟨cs,hz,hK⟩
  ·cases h
 case box t x=>
  split at h
  ·rename_i cs hz;simp only[Option.some.injEq,Prod.mk.injEq]at h;obtain⟨rfl,rfl,rfl⟩:=h;exact⟨cs,hz,hK⟩
  ·cases h
 case build t parts=>
  obtain⟨x,h1,h⟩:=iZ h;simp only[Prod.mk.injEq]at h;obtain⟨rfl,rfl,rfl⟩:=h
  unfold zd at h1
  split at h1
  ·rename_i z pl hz hp
   split at h1
   ·rename_i cs hc;injection h1 with h1;subst h1;exact⟨z,pl,cs,hz,hp,hc,hK⟩
   ·cases h1
  ·cases h1
 case buildSlice t len parts=>exact rM h hK
 case load t x=>exact DG h hK
 case store t x y=>exact Bp h hK
 case nilCheck x=>
  obtain⟨y,h1,h⟩:=iZ h;simp only[Prod.mk.injEq]at h;obtain⟨rfl,rfl,rfl⟩:=h
  exact uX h1 hK
 case binOp op t x y yt=>
  unfold eZ at h
  split at h
  ·rename_i z h1
   have h:=kH h;simp only[Prod.mk.injEq]at h;obtain⟨rfl,rfl,rfl⟩:=h
   exact .inl (Hm h1 hK)
  ·right;simp only[h,cU];exact hK
 case unOp op t x=>
  obtain⟨z,h1,h⟩:=iZ h;simp only[Prod.mk.injEq]at h;obtain⟨rfl,rfl,rfl⟩:=h
  unfold GP at h1
  split at h1
  ·rename_i hx;injection h1 with h1;subst h1;exact .inr ⟨rfl,hx,hK⟩
  ·exact .inl (JU h1 hK)
 case slice t x lo hi mx=>simp only[h,cU];exact hK
 case field t x f=>
  exact Si
 case typeAssert x xt t ok=>
  exact Si
 case makeMap t r=>
  cases r with
  |none=>simp only[h,cU];exact hK
  |some x=>cases h
 case lookup t m k ok=>simp only[h,cU];exact hK
 case mapUpdate t m k v=>simp only[h,cU];exact hK
 case insert t m k v=>simp only[h,cU];exact hK
 case index t x i=>
  exact Si
 case convert u t x=>
  split at h
  ·rename_i d k k' n hu hk hx
   have h:=kH h;simp only[Prod.mk.injEq]at h;obtain⟨rfl,rfl,rfl⟩:=h
   exact⟨by rw[hu];rfl,by simp only[hk,hx];exact hK⟩
  ·cases h
 case makeInterface t x=>
  obtain⟨z,h1,h⟩:=iZ h;simp only[Prod.mk.injEq]at h;obtain⟨rfl,rfl,rfl⟩:=h
  obtain⟨h2,rfl⟩:=rL h1
  refine⟨?_, ?_⟩
  ·unfold l6 at h2
   cases hd:P.underlying t with
   |none=>simp[hd]at h2
   |some d=>exact⟨d,rfl,by cases d<;>simp_all⟩
  ·split
   ·rename_i y hy;simp only[hy]at hK;exact hK
   ·rename_i hy
    split at hK
    ·rename_i y hy';exact absurd hy' (hy y)
    ·exact hK
 case makeFunc fn first cap=>have h:=kH h;simp only[Prod.mk.injEq]at h;obtain⟨rfl,rfl,rfl⟩:=h;exact hK
 case makeSlice t l c=>
  exact tJ h hK
 case fieldAddr t x f=>
  obtain⟨z,h1,h⟩:=iZ h;simp only[Prod.mk.injEq]at h;obtain⟨rfl,rfl,rfl⟩:=h
  exact tI h1 hK
 case indexAddr t x i=>
  exact tH h hK
 case extract x i=>
  split at h
  ·rename_i vs hv
   split at h
   ·rename_i u hu
    have h:=kH h;simp only[Prod.mk.injEq]at h;obtain⟨rfl,rfl,rfl⟩:=h
    simp only[hv];exact⟨_,hu,hK⟩
   ·cases h
  ·cases h
 case call c=>
  obtain⟨JH,args,ts⟩:=c
  cases JH<;>simp only at h|- <;>try (cases h;done)
  rename_i b
  unfold qy at h
  unfold uG
  split at h
  ·rename_i x ha
   simp only[ha]
   split at h
   ·rename_i t wO;exact⟨t,wO,Hn h hK⟩
   ·cases h
  ·rename_i x y ha
   simp only[ha]
   split at h
   ·rename_i r hr
    simp only[Option.some.injEq]at h
    subst h
    exact .inl (by rw[hr];exact hK)
   ·exact .inr (ze h hK)
  ·rename_i x y ha
   exact Ym
  ·rename_i x y ha
   exact Ym
  ·rename_i x y z ha
   simp only[ha]
   obtain⟨v0,h1,h⟩:=iZ h;simp only[Prod.mk.injEq]at h;obtain⟨rfl,rfl,rfl⟩:=h
   exact XH
  ·rename_i x y ha
   simp only[ha,h,cU];exact hK
  ·rename_i x y ha
   simp only[ha]
   split at h
   ·rename_i t ht;exact⟨t,ht,by simp only[h,cU];exact hK⟩
   ·cases h
  ·rename_i x ha
   simp only[ha,h,cU];exact hK
  ·cases h
 case range t x=>simp only[h,cU];exact hK
 case next x str=>left;simp only[h,cU];exact hK
 case entry x=>simp only[h,cU];exact hK
end
end
section
def uY(P:Program)(g:FuncId)(ds:List D)(o o1 oa:Nat->ad)(K:V->(Nat->ad)->Prop)(X:V->(Nat->ad)->Prop):Prop:=
 ∃out,a8 P g ds out/\((match out with| .ret rs=>K (iP rs) o1| .bF x=>X (.d x) o1)\/(out.flat=true/\match out with| .ret rs=>K (iP rs) o| .bF x=>X (.d x) o)\/(out.mV=true/\match out with| .ret rs=>K (iP rs) oa| .bF x=>X (.d x) oa))
def sV(P:Program)(g:FuncId)(args:List V)(o:Nat->ad)(nx:Nat)(K:V->(Nat->ad)->Nat->Prop)(X:V->(Nat->ad)->Nat->Prop):Prop:=oF P g args o nx K X
theorem oF.mono {P:Program}{g:FuncId}{args:List V}{o:Nat->ad}{nx:Nat}{K X K' X':V->(Nat->ad)->Nat->Prop}(hK:∀v o n,K v o n->K' v o n)(hX:∀v o n,X v o n->X' v o n)(h:oF P g args o nx K X):oF P g args o nx K' X':=
 h.imp (cI.mono hK hX) (cI.mono hK hX)
@[congr] theorem PO {P:Program} {g g':FuncId} {ds Y5:List D} {o o1 oa:Nat->ad} {K X} (h:g=g') (h':ds=Y5):uY P g ds o o1 oa K X=uY P g' Y5 o o1 oa K X:=by subst h;subst h';rfl
@[congr] theorem PQ {P:Program} {g g':FuncId} {b9 Y6:List V} {o:Nat->ad} {nx:Nat} {K X} (h:g=g') (h':b9=Y6):sV P g b9 o nx K X=sV P g' Y6 o nx K X:=by subst h;subst h';rfl
def PR(P:Program)(g:FuncId)(args:List V)(o:Nat->ad)(nx:Nat)(K X:V->(Nat->ad)->Nat->Prop):Prop:=
 (∃ds,bZ o args=some ds/\uY P g ds o (put o (bL o (V.br args))) (put o (rv o (V.br args))) (fun v o'=>K v o' (nx+1)) (fun v o'=>X v o' (nx+1)))\/cI P g args o nx K X
def IF(P:Program)(s:S)(o:bP)(X:V->S->Prop)(K:S->Prop):Prop:=
 match o.op with
 | .call c=>match c.callee with
   | .value f=>match s.ev f with
     | .func (.func g) first cap=>match bZ s.o (first++c.args.toList.map s.ev++cap)with
       |some ds=>uY P g ds s.o (put s.o (bL s.o (V.br (first++c.args.toList.map s.ev++cap)))) (put s.o (rv s.o (V.br (first++c.args.toList.map s.ev++cap)))) (fun v o'=>K ⟨ba s.env o.dst v,o',s.nx+1⟩) (fun v o'=>X v ⟨s.env,o',s.nx+1⟩)\/
        sV P g (first++c.args.toList.map s.ev++cap) s.o s.nx (fun v o' nx'=>K ⟨ba s.env o.dst v,o',nx'⟩) (fun v o' nx'=>X v ⟨s.env,o',nx'⟩)
       |none=>sV P g (first++c.args.toList.map s.ev++cap) s.o s.nx (fun v o' nx'=>K ⟨ba s.env o.dst v,o',nx'⟩) (fun v o' nx'=>X v ⟨s.env,o',nx'⟩)
     | .j7 id=>dB P id (c.args.toList.map s.ev) s.o s.nx (fun v o' nx'=>K ⟨ba s.env o.dst v,o',nx'⟩) (fun v o' nx'=>X v ⟨s.env,o',nx'⟩)
     |_=>False
   | .invoke r m=>match uR P m (s.ev r)with
     |some (g,y)=>PR P g (y::c.args.toList.map s.ev) s.o s.nx (fun v o' nx'=>K ⟨ba s.env o.dst v,o',nx'⟩) (fun v o' nx'=>X v ⟨s.env,o',nx'⟩)
     |none=>False
   |_=>match gr P s s.nx o.op with
    |some (v,Δ,_)=>K ⟨ba s.env o.dst v,put s.o Δ,s.nx+1⟩
    |none=>False
 | .panic x=>match s.ev x with
   | .d (.iface t y)=>X (.d (.iface t y)) s
   | .iface t y=>X (.iface t y) s
   |_=>False
 | .next x str=>match oL s.o (s.ev x)with
   |some (id,l)=>str=false/\E9 id l fun v Δ _=>K ⟨ba s.env o.dst v,put s.o Δ,s.nx+1⟩
   |none=>match gr P s s.nx o.op with
    |some (v,Δ,_)=>K ⟨ba s.env o.dst v,put s.o Δ,s.nx+1⟩
    |none=>False
 |op=>match gr P s s.nx op with
  |some (v,Δ,_)=>K ⟨ba s.env o.dst v,put s.o Δ,s.nx+1⟩
  |none=>False
def pk(P:Program)(X:V->S->Prop)(K:S->Prop):List bP->S->Prop
 |[],s=>K s
 |o::l,s=>match o.gd with
  |none=>IF P s o X (pk P X K l)
  |some (d,want)=>match s.env d with
   | .d (.bool b)=>if b=want then IF P s o X (pk P X K l)else pk P X K l ⟨ba s.env o.dst (.bT []),s.o,s.nx+1⟩
   | .bT []=>pk P X K l ⟨ba s.env o.dst (.bT []),s.o,s.nx+1⟩
   |_=>False
def JV(b:Nat)(body:(fk->S->Prop)->S->Prop)(Q:fk->S->Prop)(s:S):Prop:=
 ∃ (J:Nat->S->Prop),(∃m s1,bA b s s1/\J m s1)/\∀m s0,J m s0->body (fun e s=>match e with| .normal=>∃m' s1,m'<m/\bA b s s1/\J m' s1|e=>Q e s) s0
@[congr] theorem PS {b:Nat} {body Q} {s s':S} (h:s=s'):JV b body Q s=JV b body Q s':=by subst h;rfl
def qz(t:Bool)(A B:Prop):Prop:=(t=true->A)/\(t=false->B)
@[congr] theorem PT {t t':Bool} {A B:Prop} (h:t=t'):qz t A B=qz t' A B:=by subst h;rfl
@[simp] theorem uZ (A B:Prop):qz true A B=A:=by simp[qz]
@[simp] theorem sW (A B:Prop):qz false A B=B:=by simp[qz]
section
variable {P:Program}{n b:Nat}
theorem Fx{s:S}{o:bP}{o':Oper}{X X':V->S->Prop}{K K':S->Prop}(fP:o'.op=o.op)(cO:o'.dst=o.dst)(hd:gA n o'.dst)(hK:∀s,K s->K' s)(hX:∀v s,X v s->X' v s)(h:IF P s o X K):opW P n s o' X' K':=by
 refine⟨hd, ?_⟩
 rw[cO,fP]
 unfold IF at h
 have hs:∀ {op:Op},(match gr P s s.nx op with|some (v,Δ,_)=>K ⟨ba s.env o.dst v,put s.o Δ,s.nx+1⟩|none=>False)->Pw P s s.nx op fun v Δ _=>K' ⟨ba s.env o.dst v,put s.o Δ,s.nx+1⟩:=by
  intro op h
  split at h
  ·rename_i v Δ rd he;exact Bq he (hK _ h)
  ·exact h.elim
 split at h
 ·rename_i c hc
  split at h
  ·rename_i f eN
   simp only[hc,eN]
   split at h
   ·rename_i g first cap hf
    unfold Be
    simp only[hf]
    unfold uQ
    split at h
    ·rename_i ds eP
     rcases h with⟨out,hP,h|⟨mJ,h⟩|⟨mJ,h⟩⟩|h
     ·exact Pb
     ·exact YF
     ·exact YA
     ·exact XQ
    ·exact XQ
   ·rename_i id hf
    unfold Be
    simp only[hf]
    exact dB.mono (fun v o n h=>hK _ h) (fun v o n h=>hX _ _ h) h
   ·exact h.elim
  ·rename_i r m eN
   simp only[hc,eN]
   split at h
   ·rename_i g y hr
    simp only[hr]
    unfold uQ
    rcases h with⟨ds,eP,out,hP,h|⟨mJ,h⟩|⟨mJ,h⟩⟩|h
    ·exact Pb
    ·exact YF
    ·exact YA
    ·exact .inr (.inr (.inr (.inl (cI.mono (fun v o n h=>hK _ h) (fun v o n h=>hX _ _ h) h))))
   ·exact h.elim
  ·rename_i eN hinv
   rw[hc]at h|-
   obtain⟨JH,args,ts⟩:=c
   cases JH with
   |value f=>exact absurd rfl (eN f)
   |invoke r m=>exact absurd rfl (hinv r m)
   |_=>exact hs h
 ·rename_i x hx
  simp only[hx]
  split at h
  ·rename_i hv;simp only[hv];exact hX _ _ h
  ·rename_i hv;simp only[hv];exact hX _ _ h
  ·exact h.elim
 ·rename_i x str hx
  rw[hx]at h|-
  split at h
  ·rename_i id l hl
   exact .inr ⟨h.1,id,l,hl,fun e=>hK _ (h.2.1 e),fun i k x e=>hK _ (h.2.2 i k x e)⟩
  ·exact hs h
 ·rename_i hc hp tS
  have h2:=hs h
  cases hh:o.op<;>first
   |exact absurd hh (hc _)
   |exact absurd hh (hp _)
   |exact absurd hh (tS _ _)
   |(rw[hh]at h2;exact h2)
theorem jf{ops:Array Oper}{X X':V->S->Prop}{K K':S->Prop}(hK:∀s,K s->K' s)(hX:∀v s,X v s->X' v s):∀ (l:List Oper) (l':List bP) (s:S),kX n ops l=some l'->pk P X K l' s->yW P n ops X' K' l s
 |[],l',s,h,hr=>by simp[kX]at h;subst h;exact hK _ hr
 |o::l,l',s,h,hr=>by
  simp only[kX]at h
  split at h
  ·rename_i x xs hx Me
   injection h with h;subst h
   unfold Jn at hx
   split at hx
   ·rename_i hd
    have cO:gA n o.dst:=by
     unfold Df at hd;unfold gA
     split at hd<;>simp_all
    simp only[yW,yV]
    cases hg:o.guard with
    |none=>
     simp only[hg]at hx
     injection hx with hx;subst hx
     exact Fx rfl rfl cO (fun s hs=>jf hK hX l xs s Me hs) hX hr
    |some p=>
     obtain⟨j,want⟩:=p
     simp only[hg]at hx
     cases PU:sL ops j with
     |none=>simp[PU]at hx
     |some d=>
      simp only[PU]at hx
      injection hx with hx;subst hx
      simp only
      simp only[pk]at hr
      split at hr
      ·rename_i t ht
       simp only[PU,ht]
       split at hr
       ·rename_i e
        exact⟨fun _=>Fx rfl rfl cO (fun s hs=>jf hK hX l xs s Me hs) hX hr,fun h=>absurd e h⟩
       ·rename_i e
        exact⟨fun h=>absurd h e,fun _=>⟨cO,jf hK hX l xs _ Me hr⟩⟩
      ·rename_i ht
       simp only[PU,ht]
       exact⟨cO,jf hK hX l xs _ Me hr⟩
      ·exact hr.elim
   ·cases hx
  ·cases h
end
end
section
mutual
def V.refs:V->List Nat
 | .ptr id _=>[id]| .osl id _=>[id]| .pe id _ _ _ _=>[id]| .xn id _ _=>[id]| .mp id=>[id]| .j7 id=>[id]
 | .agg cs=>V.aQ cs
 | .bT cs=>V.aQ cs
 | .func _ a b=>V.aQ a++V.aQ b
 | .iface _ x=>x.refs
 |_=>[]
def V.aQ:List V->List Nat
 |[]=>[]
 |v::vs=>v.refs++V.aQ vs
end
mutual
theorem jC:∀ (v:V),∀id∈v.ids,id∈v.refs
 | .osl id _,j,h=>by simpa[V.ids,V.refs]using h
 | .agg cs,j,h=>by simp only[V.ids]at h;simp only[V.refs];exact lL cs j h
 | .iface _ x,j,h=>by simp only[V.ids]at h;simp only[V.refs];exact jC x j h
 | .mp _,j,h=>by simpa[V.ids,V.refs]using h
 | .d _,_,h| .aJ,_,h| .bT _,_,h| .ptr _ _,_,h| .pe _ _ _ _ _,_,h| .pp _ _,_,h| .func _ _ _,_,h| .aa,_,h| .q9 _,_,h| .xn _ _ _,_,h| .fH,_,h| .j7 _,_,h=>by simp[V.ids]at h
theorem lL:∀ (vs:List V),∀id∈V.br vs,id∈V.aQ vs
 |[],j,h=>by simp[V.br]at h
 |v::vs,j,h=>by
  simp only[V.br,V.aQ,List.mem_append]at h|-
  exact h.imp (jC v j) (lL vs j)
end
mutual
theorem db{o o':Nat->ad}:∀ (v:V),(∀id∈v.refs,o' id=o id)->dU o' v=dU o v
 | .osl id ep,h=>by simp only[dU,h id (by simp[V.refs])]
 | .mp id,h=>by simp only[dU,h id (by simp[V.refs])]
 | .agg cs,h=>by simp only[dU,gY cs (by simpa[V.refs]using h)]
 | .iface t x,h=>by simp only[dU,db x (by simpa[V.refs]using h)]
 | .d _,_| .aJ,_| .bT _,_| .ptr _ _,_| .pe _ _ _ _ _,_| .pp _ _,_| .func _ _ _,_| .aa,_| .q9 _,_| .xn _ _ _,_| .fH,_| .j7 _,_=>by simp only[dU]
theorem gY{o o':Nat->ad}:∀ (vs:List V),(∀id∈V.aQ vs,o' id=o id)->bZ o' vs=bZ o vs
 |[],_=>rfl
 |v::vs,h=>by
  simp only[bZ,db v (fun id au=>h id (by simp[V.aQ,au])),gY vs (fun id au=>h id (by simp[V.aQ,au]))]
end
theorem gR{o o':Nat->ad}{ids:List Nat}(h:∀id∈ids,o' id=o id):bL o' ids=bL o ids:=by
 rw[lR,lR]
 exact List.map_congr_left fun id au=>by rw[h id au]
def oE(s:S)(op:Op):List Nat:=
 match op with
 | .load _ x=>(s.ev x).refs
 | .nilCheck x=>(s.ev x).refs
 | .fieldAddr _ x _=>(s.ev x).refs
 | .indexAddr _ x _=>(s.ev x).refs
 | .store _ x v=>(s.ev x).refs++(s.ev v).refs
 | .buildSlice _ _ parts=>V.aQ (parts.toList.map fun p=>s.ev p.2)
 | .binOp _ _ x y _=>(s.ev x).refs++(s.ev y).refs
 | .slice _ x _ _ _=>(s.ev x).refs
 | .lookup _ m k _=>(s.ev m).refs++(s.ev k).refs
 | .mapUpdate _ m k v=>(s.ev m).refs++((s.ev k).refs++(s.ev v).refs)
 | .insert _ m k v=>(s.ev m).refs++((s.ev k).refs++(s.ev v).refs)
 | .range _ x=>(s.ev x).refs
 | .next x _=>(s.ev x).refs
 | .entry x=>(s.ev x).refs
 | .call c=>match c.callee with
   | .builtin _=>V.aQ (c.args.toList.map s.ev)
   | .value f=>match s.ev f with
     | .func _ first cap=>V.aQ (first++c.args.toList.map s.ev++cap)
     |_=>[]
   |_=>[]
 |_=>[]
section
variable {P:Program}{s s':S}{fr:Nat}
theorem sX{o o':Nat->ad}(v:V)(h:∀id∈v.refs,o' id=o id):qv o' v=qv o v:=by
 cases v with
 |osl id ep=>simp only[qv,h id (by simp[V.refs])]
 |d x=>cases x<;>rfl
 |_=>rfl
theorem sY{o o':Nat->ad}(v:V)(q:Nat)(h:∀id∈v.refs,o' id=o id):oP o' v q=oP o v q:=by
 cases v<;>simp only[oP]<;>rw[h _ (by simp[V.refs])]
theorem DH{o o':Nat->ad}(v:V)(h:∀id∈v.refs,o' id=o id):AP o' v=AP o v:=by
 have h1:eH o' v=eH o v:=by unfold eH;rw[db v h]
 cases v<;>first|rfl|simp only[AP,h1]
theorem zf{o o':Nat->ad}(v:V)(h:∀id∈v.refs,o' id=o id):rA o' v=rA o v:=by
 cases v with
 |mp id=>simp only[rA,h id (by simp[V.refs])]
 |d x=>cases x<;>rfl
 |_=>rfl
theorem zg{o o':Nat->ad}(v:V)(h:∀id∈v.refs,o' id=o id):rB o' v=rB o v:=by
 cases v with
 |ptr id off=>simp only[rB,h id (by simp[V.refs])]
 |d x=>cases x<;>rfl
 |_=>rfl
theorem m9{o o':Nat->ad}(v:V)(h:∀id∈v.refs,o' id=o id):oJ o' v=oJ o v:=by
 cases v with
 |mp id=>simp only[oJ,h id (by simp[V.refs])]
 |d x=>cases x<;>rfl
 |_=>rfl
theorem Br{o o':Nat->ad}(v:V)(h:∀id∈v.refs,o' id=o id):pY o' v=pY o v:=by
 cases v with
 |mp id=>simp only[pY,h id (by simp[V.refs])]
 |d x=>cases x<;>rfl
 |_=>rfl
theorem Bs{o o':Nat->ad}(v:V)(str:Bool)(h:∀id∈v.refs,o' id=o id):oK o' v str=oK o v str:=by
 cases v with
 |ptr id off=>cases off<;>simp only[oK,h id (by simp[V.refs])]
 |_=>rfl
theorem zh{o o':Nat->ad}(v:V)(h:∀id∈v.refs,o' id=o id):mO o' v=mO o v:=by
 cases v with
 |ptr id off=>cases off<;>simp only[mO,h id (by simp[V.refs])]
 |_=>rfl
theorem zi{o o':Nat->ad}{fr:Nat}{t:TypeId}{P:Program}(v:V)(h:∀id∈v.refs,o' id=o id):mN P o' fr t v=mN P o fr t v:=by
 unfold mN
 cases v with
 |mp id=>simp only[h id (by simp[V.refs])]
 |d x=>cases x<;>rfl
 |_=>rfl
theorem zj{o o':Nat->ad}(v:V)(h:∀id∈v.refs,o' id=o id):oZ o' v=oZ o v:=by
 cases v with
 |ptr id off=>simp only[oZ,h id (by simp[V.refs])]
 |_=>rfl
theorem zk{o o':Nat->ad}(v:V)(h:∀id∈v.refs,o' id=o id):o6 o' v=o6 o v:=by
 cases v with
 |xn id off n=>simp only[o6,h id (by simp[V.refs])]
 |_=>rfl
theorem DI(op:Op)(hv:∀x∈op.operands,s'.ev x=s.ev x)(ho:∀id∈oE s op,s'.o id=s.o id):gr P s' fr op=gr P s fr op:=by
 cases op<;>simp only[gr]
 case move x=>rw[hv x (by simp[Op.operands])]
 case assign x=>rw[hv x (by simp[Op.operands])]
 case pick c a b=>rw[hv c (by simp[Op.operands]),hv a (by simp[Op.operands]),hv b (by simp[Op.operands])]
 case box t x=>rw[hv x (by simp[Op.operands])]
 case build t parts=>
  have:(parts.toList.map fun p=>(p.1,s'.ev p.2))=parts.toList.map fun p=>(p.1,s.ev p.2):=
   List.map_congr_left fun p hp=>by rw[hv p.2 (by simp only[Op.operands];simp;exact⟨p.1,by simpa using hp⟩)]
  rw[this]
 case buildSlice t len parts=>
  have:(parts.toList.map fun p=>(p.1,s'.ev p.2))=parts.toList.map fun p=>(p.1,s.ev p.2):=
   List.map_congr_left fun p hp=>by rw[hv p.2 (by simp only[Op.operands];simp;exact⟨p.1,by simpa using hp⟩)]
  rw[this]
  have e:(parts.toList.map fun p=>(p.1,s.ev p.2)).map (·.2)=parts.toList.map fun p=>s.ev p.2:=by simp[Function.comp_def]
  have h1:bZ s'.o ((parts.toList.map fun p=>(p.1,s.ev p.2)).map (·.2))=bZ s.o ((parts.toList.map fun p=>(p.1,s.ev p.2)).map (·.2)):=gY _ (by rw[e];exact ho)
  have h2:bL s'.o (V.br ((parts.toList.map fun p=>(p.1,s.ev p.2)).map (·.2)))=bL s.o (V.br ((parts.toList.map fun p=>(p.1,s.ev p.2)).map (·.2))):=
   gR fun id au=>ho id (by rw[e]at au;exact lL _ id au)
  simp only[fT,h1,h2]
 case load t x=>
  rw[hv x (by simp[Op.operands])]
  cases hx:s.ev x<;>simp only[m8]<;>rw[ho _ (by simp[oE,hx,V.refs])]
 case store t x y=>
  rw[hv x (by simp[Op.operands]),hv y (by simp[Op.operands])]
  have h1:dU s'.o (s.ev y)=dU s.o (s.ev y):=db _ fun id au=>ho id oX
  have h2:bL s'.o (s.ev y).ids=bL s.o (s.ev y).ids:=gR fun id au=>ho id (by simp[oE,jC _ _ au])
  cases hx:s.ev x<;>simp only[rK]<;>rw[ho _ (by simp[oE,hx,V.refs])]
  simp only[h1,h2]
 case nilCheck x=>
  rw[hv x (by simp[Op.operands])]
  cases hx:s.ev x with
  |ptr id off=>simp only[je];rw[ho _ (by simp[oE,hx,V.refs])]
  |func fn a b=>cases fn<;>rfl
  |_=>rfl
 case binOp op t x y yt=>
  rw[hv x (by simp[Op.operands]),hv y (by simp[Op.operands])]
  have h1:AP s'.o (s.ev x)=AP s.o (s.ev x):=DH _ fun id au=>ho id oX
  have h2:∀a b,yF P s'.o a b (s.ev x) (s.ev y)=yF P s.o a b (s.ev x) (s.ev y):=fun a b=>by
   have h3:∀id∈(s.ev x).refs,s'.o id=s.o id:=fun id au=>ho id oX
   have h4:=zf (s.ev x) h3
   have h5:=zg (s.ev x) h3
   unfold yF
   rw[h1,h4,h5]
  unfold eZ rC
  simp only[h2]
 case slice t x lo hi mx=>
  rw[hv x (by simp[Op.operands])]
  have e1:lo.map s'.ev=lo.map s.ev:=by cases lo<;>simp[hv,Op.operands]
  have e2:hi.map s'.ev=hi.map s.ev:=by cases hi<;>simp[hv,Op.operands]
  have e3:mx.map s'.ev=mx.map s.ev:=by cases mx<;>simp[hv,Op.operands]
  rw[e1,e2,e3]
  have h3:∀id∈(s.ev x).refs,s'.o id=s.o id:=fun id au=>ho id oX
  have h1:eH s'.o (s.ev x)=eH s.o (s.ev x):=by unfold eH;rw[db _ h3]
  have h2:bL s'.o (s.ev x).ids=bL s.o (s.ev x).ids:=gR fun id au=>h3 id (jC _ _ au)
  have h4:Dj P s'.o t (s.ev x) (lo.map s.ev) (hi.map s.ev) (mx.map s.ev)=Dj P s.o t (s.ev x) (lo.map s.ev) (hi.map s.ev) (mx.map s.ev):=by
   cases hx:s.ev x with
   |osl id ep=>simp only[Dj,h3 id (by simp[hx,V.refs])]
   |_=>rfl
  unfold rz pW
  simp only[h1,h2,h4,zj _ h3]
 case field t x f=>rw[hv x (by simp[Op.operands])]
 case typeAssert x xt t ok=>rw[hv x (by simp[Op.operands])]
 case makeMap t r=>cases r<;>rfl
 case lookup t m k ok=>
  rw[hv m (by simp[Op.operands]),hv k (by simp[Op.operands])]
  have h3:∀id∈(s.ev m).refs,s'.o id=s.o id:=fun id au=>ho id oX
  have h1:dU s'.o (s.ev k)=dU s.o (s.ev k):=db _ fun id au=>ho id oX
  unfold ja
  simp only[h1,Br _ h3]
 case mapUpdate t m k v=>
  rw[hv m (by simp[Op.operands]),hv k (by simp[Op.operands]),hv v (by simp[Op.operands])]
  have h3:∀id∈(s.ev m).refs,s'.o id=s.o id:=fun id au=>ho id oX
  have h1:dU s'.o (s.ev k)=dU s.o (s.ev k):=db _ fun id au=>ho id oX
  have h2:dU s'.o (s.ev v)=dU s.o (s.ev v):=db _ fun id au=>ho id oX
  have h4:bL s'.o (s.ev v).ids=bL s.o (s.ev v).ids:=gR fun id au=>ho id (by simp[oE,jC _ _ au])
  unfold fC
  simp only[h1,h2,h4,m9 _ h3]
 case insert t m k v=>
  rw[hv m (by simp[Op.operands]),hv k (by simp[Op.operands]),hv v (by simp[Op.operands])]
  have h3:∀id∈(s.ev m).refs,s'.o id=s.o id:=fun id au=>ho id oX
  have h1:dU s'.o (s.ev k)=dU s.o (s.ev k):=db _ fun id au=>ho id oX
  have h2:dU s'.o (s.ev v)=dU s.o (s.ev v):=db _ fun id au=>ho id oX
  have h4:bL s'.o (s.ev v).ids=bL s.o (s.ev v).ids:=gR fun id au=>ho id (by simp[oE,jC _ _ au])
  unfold fC
  simp only[h1,h2,h4,m9 _ h3]
 case index t x i=>rw[hv x (by simp[Op.operands]),hv i (by simp[Op.operands])]
 case range t x=>
  rw[hv x (by simp[Op.operands])]
  exact zi _ fun id au=>ho id oX
 case next x str=>
  rw[hv x (by simp[Op.operands])]
  exact Bs _ _ fun id au=>ho id oX
 case entry x=>
  rw[hv x (by simp[Op.operands])]
  exact zh _ fun id au=>ho id oX
 case unOp op t x=>rw[hv x (by simp[Op.operands])]
 case convert u t x=>rw[hv x (by simp[Op.operands])]
 case makeInterface t x=>rw[hv x (by simp[Op.operands])]
 case makeFunc fn first cap=>
  have h1:first.toList.map s'.ev=first.toList.map s.ev:=List.map_congr_left fun x hx=>hv x (by simp only[Op.operands];exact Array.mem_append.2 (.inl (Array.mem_toList_iff.1 hx)))
  have h2:cap.toList.map s'.ev=cap.toList.map s.ev:=List.map_congr_left fun x hx=>hv x (by simp only[Op.operands];exact Array.mem_append.2 (.inr (Array.mem_toList_iff.1 hx)))
  rw[h1,h2]
 case makeSlice t l c=>rw[hv l (by simp[Op.operands]),hv c (by simp[Op.operands])]
 case fieldAddr t x f=>
  rw[hv x (by simp[Op.operands])]
  simp only[gX]
  cases bR P t f<;>simp only
  rw[sY _ _ (by simpa[oE]using ho)]
 case indexAddr t x i=>
  rw[hv x (by simp[Op.operands]),hv i (by simp[Op.operands])]
  have h1:∀q,oP s'.o (s.ev x) q=oP s.o (s.ev x) q:=fun q=>sY _ _ (by simpa[oE]using ho)
  simp only[gW,h1]
  cases hx:s.ev x with
  |osl id ep=>simp only[ho id (by simp[oE,hx,V.refs])]
  |d y=>cases y<;>rfl
  |_=>rfl
 case extract x i=>rw[hv x (by simp[Op.operands])]
 case call c=>
  obtain⟨JH,args,ts⟩:=c
  cases JH<;>simp only
  rename_i b
  unfold qy
  have hm:∀x∈args.toList,s'.ev x=s.ev x:=fun x hx=>hv x XE
  have hr:∀x∈args.toList,∀id∈(s.ev x).refs,s'.o id=s.o id:=by
   intro x hx id au
   refine ho id ?_
   simp only[oE]
   generalize args.toList=l at hx
   induction l with
   |nil=>cases hx
   |cons y l ih=>
    simp only[List.map_cons,V.aQ,List.mem_append]
    rcases List.mem_cons.1 hx with rfl|hx
    ·exact .inl au
    ·exact .inr (ih hx)
  split
  ·rename_i x ha
   rw[ha]at hm hr
   rw[hm x (by simp)]
   have h1:∀t,DD P t s'.o (s.ev x)=DD P t s.o (s.ev x):=fun t=>by simp only[DD,sX _ (hr x (by simp))]
   simp only[h1]
  ·rename_i x y ha
   rw[ha]at hm hr
   rw[hm x (by simp),hm y (by simp)]
   simp only[qw,sX _ (hr y (by simp))]
   cases xr P fr ts (s.ev x) (s.ev y)with
   |some r=>rfl
   |none=>
   dsimp only
   cases hx:s.ev x with
   |osl id ep=>simp only[hr x (by simp) id (by simp[hx,V.refs])]
   |_=>rfl
  ·rename_i x y ha
   rw[ha]at hm
   rw[hm x (by simp),hm y (by simp)]
  ·rename_i x y ha
   rw[ha]at hm
   rw[hm x (by simp),hm y (by simp)]
  ·rename_i x y z h;rw[hm x (by rw[h];simp),hm y (by rw[h];simp),hm z (by rw[h];simp)]
  ·rename_i x y ha
   rw[ha]at hm hr
   rw[hm x (by simp),hm y (by simp)]
   have h1:eH s'.o (s.ev y)=eH s.o (s.ev y):=by unfold eH;rw[db _ (hr y (by simp))]
   have h2:bL s'.o (s.ev y).ids=bL s.o (s.ev y).ids:=gR fun id au=>hr y aF id (jC _ _ au)
   unfold xq
   simp only[h1,h2,zk _ (hr x (by simp))]
  ·rename_i x y ha
   rw[ha]at hm hr
   rw[hm x (by simp),hm y (by simp)]
   have h1:dU s'.o (s.ev y)=dU s.o (s.ev y):=db _ (hr y aF)
   have h2:=m9 _ (hr x aF)
   simp only[nR,h1,h2]
  ·rename_i x ha
   rw[ha]at hm
   rw[hm x (by simp)]
  ·rfl
end
end
end Go.Proofs.YtlhemmpklhhgoaaGreat
