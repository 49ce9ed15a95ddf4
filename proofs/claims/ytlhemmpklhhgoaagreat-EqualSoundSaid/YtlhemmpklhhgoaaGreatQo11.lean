/-
  A PART OF THE PROOF. Conditions: none.
-/
import Derived.Test.YtlhemmpklhhgoaaGreatQo10
set_option linter.unusedSimpArgs false
set_option linter.unusedVariables false
namespace Go.Proofs.YtlhemmpklhhgoaaGreat
section
def WZ(ops:Array Oper)(t t1:Nat):Prop:=
 (∃o1 o2,ops=#[o1,o2]/\o1.op= .call ⟨.builtin .recover,#[],#[]⟩/\o1.dst=some t/\o1.guard=none/\o2.op= .assign (.tmp t)/\o2.dst=some t1/\o2.guard=none)\/
 (∃o1,ops=#[o1]/\t1=t/\o1.op= .call ⟨.builtin .recover,#[],#[]⟩/\o1.dst=some t/\o1.guard=none)
structure Df (P:Program) (g:FuncId) (n t t1:Nat) (ic:IC):Prop where
 get:∃fn id ops c,P.funcs[g]? =some fn/\(fn.name== "runtime.NumGoroutine")=false/\fn.ntmps=n/\fn.results=#[]/\fn.body=some (.seq (.region id ops false) c)/\
  WZ ops t t1/\t<n/\t1<n/\low n c=ic
structure Hm (P:Program) (f:FuncId) (n:Nat) (jS fq:IC) (g:FuncId) (t:Nat) (bR:List Operand) (rs:List ResultVar):Prop where
 get:∃fn id o1 o2 a b d,P.funcs[f]? =some fn/\(fn.name== "runtime.NumGoroutine")=false/\fn.ntmps=n/\fn.results.toList=rs/\fn.body=some (.seq a d)/\(d= .seq (.region id #[o1,o2] false) b\/d= .scope (.seq (.region id #[o1,o2] false) b))/\
  o1.op= .makeFunc (.func g) #[] bR.toArray/\o1.dst=some t/\o1.guard=none/\o2.op= .defer ⟨.value (.tmp t),#[],#[]⟩/\o2.dst=none/\o2.guard=none/\t<n/\low n a=jS/\low n b=fq
def JN(K:(Nat->ad)->Nat->Prop)(e:fK)(s:S):Prop:=match e with| .normal| .ret=>K s.o s.nx|_=>False
def Fu(P:Program)(n t t1:Nat)(ic:IC)(bR:List V)(u:V)(o:Nat->ad)(nx:Nat)(K:(Nat->ad)->Nat->Prop):Prop:=
 bR.length<=n/\uP P n nx true ic (JN K) ⟨ay (ay (cC bR) t u) t1 u,o,nx⟩
def AU(P:Program)(n t t1:Nat)(ic:IC)(bR:List V)(rs:List ResultVar)(K X:V->(Nat->ad)->Nat->Prop)(e:fK)(s:S):Prop:=
 match e with
 | .normal| .ret=>Fu P n t t1 ic bR (.d .eW) s.o s.nx fun o nx=>mo P rs K X .ret ⟨s.env,o,nx⟩
 | .bN v=>Fu P n t t1 ic bR v s.o s.nx fun o nx=>mo P rs K X .ret ⟨s.env,o,nx⟩
 | .exit _=>False
def Dg(P:Program)(n t:Nat)(fq:IC)(fE:List Operand)(g:FuncId)(D:List V->fK->S->Prop)(e:fK)(s:S):Prop:=
 match e with
 | .normal=>uP P n s.nx false fq (D (fE.map s.ev)) ⟨ay s.env t (.func (.func g) [] (fE.map s.ev)),s.o,s.nx⟩
 |_=>False
section
variable {P:Program}{M:Nat->Prop}{φ cP:Place}{H H0:Hp}{w w0:World}{n:Nat}{s:S}{a:Act}{cx:Cx}{k:Nat}
theorem JO(bf:P.follows .mixedOrders=true){g:FuncId}{t t1:Nat}{ic:IC}(hg:Df P g n t t1 ic){bR:List V}{u:V}{o:Nat->ad}{nx:Nat}{K:(Nat->ad)->Nat->Prop}(h:Fu P n t t1 ic bR u o nx K)
 {vals:Array Value} {val:Value} {m:FrameMode} (hH:aA M φ (hp o nx) w) (hd:V.aF (ao M φ (hp o nx)) φ (hp o nx) w bR vals.toList) (hv:V.den (ao M φ (hp o nx)) φ (hp o nx) w u val)
 (hm:(m= .returning/\val= .nilIface)\/m= .panicking [{v:=val,recovered:=false}]):
 CallsDIn (dW none) k P g vals m w fun e u' w'=>∃v aH o' nx',e= .returned v/\settle u'= .returning/\aA M aH (hp o' nx') w'/\Trans φ (hp o nx) w aH (hp o' nx') w'/\K o' nx':=by
 obtain⟨fn,id,ops,c,hf,T4,hnt,CF,qU,LJ,ht,Ev,sL⟩:=hg.get
 have cq:g<P.funcs.size:=(Array.getElem?_eq_some_iff.1 hf).1
 obtain⟨rZ,h⟩:=h
 have hlen:=V.aC _ _ hd
 refine⟨trivial,fun pV cs ME Tn=> ?_⟩
 let b:Frame:={(default:Frame)with fn:=g,kind:= .deferred,roundOf:=none}
 let uS:Array Value:=vals++Array.replicate (fn.ntmps - vals.size) undef
 have agb:uS.size=n:=by simp only[uS,Array.size_append,Array.size_replicate];simp at hlen;omega
 have mn:Frame.enter P g vals .deferred=b.atR {tmps:=uS,defers:=[]} [.code (.seq (.region id ops false) c)]:=by
  simp[Frame.enter,Frame.atR,hf,qU,b,uS]
 obtain⟨m',hm',bI⟩:∃m',settle m'= .returning/\((recoverD (pV::cs)=none/\m'=m/\val= .nilIface)\/recoverD (pV::cs)=some (val,{pV with mode:=m'}::cs)):=by
  rcases hm with⟨rfl,rfl⟩|rfl
  ·exact⟨.returning,rfl, .inl ⟨by simp[recoverD,ME],rfl,rfl⟩⟩
  ·exact⟨.panicking [{v:=val,recovered:=true}],rfl, .inr (by simp[recoverD,ME])⟩
 have hc0:({pV with mode:=m}:Frame)=pV:=by subst ME;rfl
 let a1:Act:={tmps:=(uS.setIfInBounds t val).setIfInBounds t1 val,defers:=[]}
 have Qh:(Code.region id ops false).wpSIn (dW none) k P (fun e a' cs' w'=>e= .normal/\a'=a1/\cs'={pV with mode:=m'}::cs/\w'=w) {tmps:=uS,defers:=[]} (pV::cs) w:=by
  rcases LJ with⟨o1,o2,rfl,e1,e2,e3,e4,e5,e6⟩|⟨o1,rfl,rfl,e1,e2,e3⟩
  ·refine wpSIn_region ?_
   have hr:List.range (#[o1,o2]:Array Oper).size=[0,1]:=rfl
   have g0:(#[o1,o2]:Array Oper)[0]? =some o1:=rfl
   have g1:(#[o1,o2]:Array Oper)[1]? =some o2:=rfl
   rw[hr]
   have x1:∀ (ρ:Operand->Value) (w:World),(execOp ρ o1).run P w= .ok .recover w:=by
    intro ρ w
    simp[execOp,e1,resolve,invoke,builtin]
   have x2:∀ (ρ:Operand->Value) (w:World),(execOp ρ o2).run P w= .ok (.value (ρ (.tmp t))) w:=by
    intro ρ w
    simp[execOp,e4]
   have last:∀cs',cs'={pV with mode:=m'}::cs->wpOpsSIn (dW none) k P #[o1,o2] (fun e a' cs' w'=>e= .normal/\a'=a1/\cs'={pV with mode:=m'}::cs/\w'=w) [1] (({tmps:=uS,defers:=[]}:Act).put (some t) val) cs' w:=by
    rintro cs' rfl
    have hw:Region.wanted o2 (yielded #[o1,o2] (({tmps:=uS,defers:=[]}:Act).put (some t) val).tmps)=true:=by simp[Region.wanted,e6]
    have dv:(({tmps:=uS,defers:=[]}:Act).put (some t) val).eval (.tmp t)=val:=by
     have:t<uS.size:=af
     simp[Act.put,Act.eval,Array.getD,this]
    simp only[wpOpsSIn,g1,hw,if_true,x2,dv,e5]
    refine⟨fun _ _=>trivial, ?_⟩
    simp[a1,Act.put]
   have hw:Region.wanted o1 (yielded #[o1,o2] uS)=true:=by simp[Region.wanted,e3]
   rw[wpOpsSIn,g0]
   refine⟨fun _ _=>trivial, ?_⟩
   simp only[hw,if_true,x1,e2]
   rcases bI with⟨hr,rfl,rfl⟩|hr
   ·simp only[hr]
    exact last _ (by rw[hc0])
   ·simp only[hr]
    exact last _ rfl
  ·refine wpSIn_region ?_
   have hr:List.range (#[o1]:Array Oper).size=[0]:=rfl
   have g0:(#[o1]:Array Oper)[0]? =some o1:=rfl
   rw[hr]
   have x1:∀ (ρ:Operand->Value) (w:World),(execOp ρ o1).run P w= .ok .recover w:=by
    intro ρ w
    simp[execOp,e1,resolve,invoke,builtin]
   have same:a1=({tmps:=uS,defers:=[]}:Act).put (some t1) val:=by
    simp only[a1,Act.put]
    congr 1
    apply Array.ext_getElem?
    intro j
    simp only[Array.getElem?_setIfInBounds]
    by_cases hj:t1=j
    ·subst hj;simp
    ·simp[hj]
   have last:∀cs',cs'={pV with mode:=m'}::cs->wpOpsSIn (dW none) k P #[o1] (fun e a' cs' w'=>e= .normal/\a'=a1/\cs'={pV with mode:=m'}::cs/\w'=w) [] (({tmps:=uS,defers:=[]}:Act).put (some t1) val) cs' w:=by
    rintro cs' rfl
    simp only[wpOpsSIn]
    exact⟨trivial,same.symm,trivial,trivial⟩
   have hw:Region.wanted o1 (yielded #[o1] uS)=true:=by simp[Region.wanted,e3]
   rw[wpOpsSIn,g0]
   refine⟨fun _ _=>trivial, ?_⟩
   simp only[hw,if_true,x1,e2]
   rcases bI with⟨hr,rfl,rfl⟩|hr
   ·simp only[hr]
    exact last _ (by rw[hc0])
   ·simp only[hr]
    exact last _ rfl
 obtain⟨er,ar,csr,wr,hl,⟨rfl,rfl,rfl,hwr⟩,dx⟩:=Qh b [.code c] rfl rfl trivial (fun d hd=>by simp[dW]at hd)
 rw[hwr]at dx
 let s0:S:=⟨ay (ay (cC bR) t u) t1 u,o,nx⟩
 have oY:cn M φ (hp o nx) w n ⟨[],true⟩ φ s0 a1 w:=by
  refine⟨hH,Trans.refl _ _ _,by simp[a1,agb],⟨[],rfl,List.nodup_nil,fun _=>rfl,fun r hr=>by cases hr⟩,fun i=> ?_⟩
  have eD:=B4 (m:=fn.ntmps - vals.size) hd i
  simp only[s0,a1,aN]
  have ht0:t<uS.size:=af
  have agc:t1<uS.size:=af
  by_cases h1:i=t1
  ·subst h1
   simp only[if_true]
   have:((uS.setIfInBounds t val).setIfInBounds i val).getD i undef=val:=by simp[Array.getD,agc]
   rw[this];exact hv
  ·simp only[h1,if_false]
   have e1:((uS.setIfInBounds t val).setIfInBounds t1 val).getD i undef=(uS.setIfInBounds t val).getD i undef:=by
    exact SV
   rw[e1]
   by_cases h2:i=t
   ·subst h2
    simp only[if_true]
    have:(uS.setIfInBounds i val).getD i undef=val:=by simp[Array.getD,ht0]
    rw[this];exact hv
   ·simp only[h2,if_false]
    have e1:(uS.setIfInBounds t val).getD i undef=uS.getD i undef:=by
     simp only[Array.getD_eq_getD_getElem?]
     rw[Array.getElem?_setIfInBounds_ne (Ne.symm h2)]
    rw[e1];exact eD
 have hcw:=iK (P:=P) (n:=n) (b:=nx) (rd:=true) bf c _ _ s0 (fun _ _ h=>h) (by rw[sL];exact h)
 obtain⟨e,a',w',⟨x,s',aH,hq,jR,hx⟩,G5⟩:=iF (P:=P) (H0:=hp o nx) (b:=nx) (cx:=⟨[],true⟩) (ro:=none) (fun id hu=>hu) (fun h=>by cases h) c _ s0 φ a1 w hcw oY b [] ({pV with mode:=m'}::cs) rfl cq
 have i0:(lone (b.atR {tmps:=uS,defers:=[]} [.code (.seq (.region id ops false) c)]) (pV::cs) w).fenced P (dW none):=fenced_calm (n:=0) trivial gV rfl
 have T5:StepsIn (Machine.fenced P (dW none)) P (lone (b.atR {tmps:=uS,defers:=[]} [.code (.seq (.region id ops false) c)]) (pV::cs) w) (lone (b.atR a1 [.code c]) ({pV with mode:=m'}::cs) w):= .head i0 stepR_seq dx
 have wo:a'.defers=[]:=by
  obtain⟨ms,g1,_,g3,_⟩:=jR.defers
  rw[g3 rfl]at g1;exact g1
 have acK:∀tm:Array Value,∃v,(results fn tm).run P w'= .ok v w':=by
  intro tm
  refine⟨_,nA (vals:=[]) ?_⟩
  rw[CF];rfl
 rw[mn]
 obtain⟨v,qm⟩:=acK a'.tmps
 cases e<;>cases x<;>first|(exact hx.elim)|(exact hq.elim)|skip
 ·exact⟨.returned v,m',w',_,⟨v,aH,s'.o,s'.nx,rfl,hm',jR.heap,jR.tr,hq⟩,StepsIn.trans T5 (StepsIn.trans G5 (.one (fenced_calm (n:=0) (fr:=b.atR a' []) trivial gV rfl) (stepR_end rfl))),rfl,rfl,rfl,wo,fn,hf,qm⟩
 ·obtain⟨todo,hs⟩:=G5.1 rfl
  exact⟨.returned v,m',w',_,⟨v,aH,s'.o,s'.nx,rfl,hm',jR.heap,jR.tr,hq⟩,StepsIn.trans T5 hs,rfl,rfl,rfl,wo,fn,hf,qm⟩
theorem Dh{d c:Code}{ro:Option Nat}{Q:Exit->Act->World->Prop}{a:Act}{w:World}(h:d=c\/d= .scope c)(hg:∀l a w, ¬Q (.goto l) a w)(hc:c.uu P ro Q a w):d.uu P ro Q a w:=by
 rcases h with rfl|rfl
 ·exact hc
 ·exact yO hc hg
theorem bP.Di (bf:P.follows .mixedOrders=true){f g:FuncId}{jS fq zf:IC}{t m r r1:Nat}{fE:List Operand}{rs:List ResultVar}(hf:Hm P f n jS fq g t fE rs)(hg:Df P g m r r1 zf)
 {args:List V} {o:Nat->ad} {nx:Nat} {K X:V->(Nat->ad)->Nat->Prop} (hl:args.length<=n)
 (h:uP P n nx true jS (Dg P n t fq fE g fun bR=>AU P m r r1 zf bR rs K X) ⟨cC args,o,nx⟩):bP P f args o nx K X:=by
 obtain⟨fn,id,o1,o2,ca,cb,cd,Kx,T4,hnt,CF,qU,hsc,e1,e2,e3,e4,e5,e6,ht,hla,LY⟩:=hf.get
 obtain⟨gn,_,_,gc,sT,W0,_,_,W1,_⟩:=hg.get
 refine⟨⟨fn,Kx,T4,by rw[qU];rfl⟩,fun M φ w vals hH hd=> ?_⟩
 have hlen:=V.aC _ _ hd
 let s0:S:=⟨cC args,o,nx⟩
 let a0:Act:={tmps:=vals++Array.replicate (fn.ntmps - vals.size) undef,defers:=[]}
 have oY:cn M φ (hp o nx) w n ⟨[],true⟩ φ s0 a0 w:=by
  exact abA
 have ha:=iK (P:=P) (n:=n) (b:=nx) (rd:=true) bf ca _ _ s0 (fun _ _ h=>h) (by rw[hla];exact h)
 refine CA (ro:=none) (k:=0) (nB Kx qU (Au (gW (iF (P:=P) (H0:=hp o nx) (b:=nx) (cx:=⟨[],true⟩) (ro:=none) (fun id hu=>hu) (fun h=>by cases h) ca _ s0 φ a0 w ha oY) ?_)))
 rintro e a1 w1 ⟨x,s1,jd,hq,r9,hm⟩
 cases e<;>cases x<;>first|(exact hm.elim)|(exact hq.elim)|skip
 have wo:a1.defers=[]:=by
  obtain⟨ms,g1,_,g3,_⟩:=r9.defers
  rw[g3 rfl]at g1;exact g1
 let cv:Array Value:=(fE.map a1.eval).toArray
 let fv:Value:= .func (.func g) #[] cv
 let dd:Deferred:={target:= .fn (.func g) cv,args:=#[]}
 let a2:Act:={tmps:=a1.tmps.setIfInBounds t fv,defers:=[dd]}
 have T6:V.aF (ao M jd s1.H) jd s1.H w1 (fE.map s1.ev) cv.toList:=by
  simpa[cv]using kJ (M:=M) (φ:=jd) (H:=s1.H) (w:=w1) s1 a1 r9.env fE
 refine Dh hsc (fun l a w h=> ?_) ?_
 ·exact h.elim
 refine Au (gW (Q:=fun e a w=>e= .normal/\a=a2/\w=w1) (pP (k:=0) (wpIn_region_list ?_)) ?_)
 ·have y1:Region.wanted o1 (yielded #[o1,o2] a1.tmps)=true:=by simp[Region.wanted,e3]
  have y2:∀tm,Region.wanted o2 (yielded #[o1,o2] tm)=true:=by intro tm;simp[Region.wanted,e6]
  have dv:(a1.put (some t) fv).eval (.tmp t)=fv:=by
   have:t<a1.tmps.size:=by rw[r9.size];exact ht
   simp[Act.put,Act.eval,Array.getD,this]
  show wpListIn (dW none) 0 P #[o1,o2] _ [o1,o2] a1 w1
  unfold wpListIn
  rw[if_pos y1]
  have x1:(execOp a1.eval o1).run P w1= .ok (.value fv) w1:=by simp[execOp,e1,fv,cv,Instr.makeFunc]
  refine kN (fun c hc=>by rw[e1]at hc;cases hc) ?_
  rw[x1]
  show wpListIn (dW none) 0 P #[o1,o2] _ [o2] (a1.put o1.dst fv) w1
  rw[e2]
  unfold wpListIn
  rw[if_pos (y2 _)]
  have x2:(execOp (a1.put (some t) fv).eval o2).run P w1= .ok (.defer dd) w1:=by
   simp[execOp,e4,resolve,dv,Deferred.ofValue,fv,dd]
  refine⟨fun _ _=>trivial, ?_⟩
  have:(o2.semAt (dW none).round (a1.put (some t) fv).eval)=execOp (a1.put (some t) fv).eval o2:=rfl
  rw[this,x2]
  unfold Oper.uponIn
  simp only[e5,wpListIn,Act.put,wo,a2,and_self]
 rintro e a w2 ⟨rfl,rfl,rfl⟩
 have Ev:t<a1.tmps.size:=by rw[r9.size];exact ht
 let s2:S:=⟨ay s1.env t (.func (.func g) [] (fE.map s1.ev)),s1.o,s1.nx⟩
 have G6:cn M jd s1.H w2 n ⟨[dd],false⟩ jd s2 a2 w2:=by
  refine⟨r9.heap,Trans.refl _ _ _,by simp[a2,r9.size],⟨[],rfl,List.nodup_nil,fun _=>rfl,fun r hr=>by cases hr⟩,fun i=> ?_⟩
  simp only[s2,a2,aN]
  by_cases h1:i=t
  ·subst h1
   have:(a1.tmps.setIfInBounds i fv).getD i undef=fv:=by simp[Array.getD,Ev]
   simp only[if_true];rw[this]
   exact⟨#[],cv,rfl,rfl,T6⟩
  ·have:(a1.tmps.setIfInBounds t fv).getD i undef=a1.tmps.getD i undef:=by
    exact SV
   simp only[h1,if_false];rw[this]
   exact r9.env i
 have hb:=iK (P:=P) (n:=n) (b:=s1.nx) (rd:=false) bf cb _ _ s2 (fun _ _ h=>h) (by rw[LY];exact hq)
 refine gW (iF (P:=P) (H0:=s1.H) (b:=s1.nx) (cx:=⟨[dd],false⟩) (ro:=none) (fun id hu=>hu) (fun _=>rfl) cb _ s2 jd a2 w2 hb G6) ?_
 rintro e a3 w3 ⟨x,s3,φ3,hq3,G7,BF⟩
 obtain⟨ms,g1,g2,_,g4⟩:=G7.defers
 have hinv:(invoke dd.target dd.args).run P=fun w=> .ok (.enter g cv) w:=by
  funext w
  have:=lO (w:=w) ⟨gn,sT,W0,by rw[W1];rfl⟩ cv
  simpa[dd,invoke]using this
 have last:∀ {w4:World} {tm:Array Value} {u:V} {val:Value} {m0:FrameMode},m0≠ .run->Aw M jd s1.H w2 φ3 s3 a3.tmps w4->V.den (ao M φ3 s3.H) φ3 s3.H w4 u val->
  ((m0= .returning/\val= .nilIface)\/m0= .panicking [{v:=val,recovered:=false}])->
  (Fu P m r r1 zf (fE.map s1.ev) u s3.o s3.nx fun o nx=>mo P rs K X .ret ⟨s3.env,o,nx⟩)->
  LeavesInM (dW none) 0 P fn a3.tmps (nu M φ (hp o nx) w K X) [dd] m0 w4:=by
  intro w4 tm u val m0 fw hB LV hm0 bI
  have W2:=V.aV hB.tr _ _ T6
  refine⟨fw, .inr ⟨fun h=>by simp[dW]at h, .func g,cv,g,cv,rfl,by rw[hinv],fun _ _=>trivial,CallsDIn.mono (JO (k:=0 - 1) bf hg bI (m:=m0) hB.heap W2 LV hm0) ?_⟩⟩
  rintro e u' w5 ⟨v,φ5,o5,nx5,rfl,agd,k1,k2,k3⟩
  show LeavesInM (dW none) 0 P fn a3.tmps (nu M φ (hp o nx) w K X) [] (settle u') w5
  rw[agd]
  obtain⟨vs,h1,h2⟩:=CH k3
  rw[<- CF]at h1
  have acL:∀i,V.den (ao M φ5 (hp o5 nx5)) φ5 (hp o5 nx5) w5 (s3.env i) (a3.tmps.getD i undef):=fun i=>V.aU k2 _ _ (hB.env i)
  obtain⟨ahp,h3,h4⟩:=uN (P:=P) (s:=⟨s3.env,o5,nx5⟩) (a:=a3) k1 acL _ _ h1
  exact⟨_,nA h3,φ5,o5,nx5,_,k1,r9.tr.trans (hB.tr.trans k2),CI h4,h2⟩
 have done:Fu P m r r1 zf (fE.map s1.ev) (.d .eW) s3.o s3.nx (fun o nx=>mo P rs K X .ret ⟨s3.env,o,nx⟩)->LeavesInM (dW none) 0 P fn a3.tmps (nu M φ (hp o nx) w K X) a3.defers .returning w3:=by
  intro bI
  rw[g1]
  exact gX (P:=P) (k:=0) (fn:=fn) (R:=nu M φ (hp o nx) w K X) (u:= .returning) aE (ds:=[dd]) (fun w4 hB=>last (tm:=a3.tmps) aE hB (u:= .d .eW) (val:= .nilIface) (by simp[V.den,D.den]) (.inl ⟨rfl,rfl⟩) bI) ms w3 g2 g4 G7.toB
 cases e<;>cases x<;>first|(exact BF.elim)|skip
 ·exact done hq3
 ·exact hq3.elim
 ·exact done hq3
 ·rename_i v
  obtain⟨val,rfl,Qc⟩:=BF
  show LeavesInM (dW none) 0 P fn a3.tmps (nu M φ (hp o nx) w K X) a3.defers _ w3
  rw[g1]
  let acM:Nat->V:=fun i=>match i with|0=>v|i+1=>s3.env i
  have acN:(#[val]++a3.tmps).getD 0 undef=val:=by simp[Array.getD]
  have acO:∀i,(#[val]++a3.tmps).getD (i+1) undef=a3.tmps.getD i undef:=by
   intro i
   simp only[Array.getD_eq_getD_getElem?]
   rw[Array.getElem?_append_right (by simp)]
   simp
  have hb0:Aw M jd s1.H w2 φ3 ⟨acM,s3.o,s3.nx⟩ (#[val]++a3.tmps) w3:=⟨G7.heap,G7.tr,fun i=>by
   cases i with
   |zero=>rw[acN];exact Qc
   |succ i=>rw[acO];exact G7.env i⟩
  have acP:∀w4,Aw M jd s1.H w2 φ3 ⟨acM,s3.o,s3.nx⟩ (#[val]++a3.tmps) w4->LeavesInM (dW none) 0 P fn a3.tmps (nu M φ (hp o nx) w K X) [dd] (.panicking [{v:=val,recovered:=false}]) w4:=by
   intro w4 hB
   have hv4:=hB.env 0
   rw[acN]at hv4
   refine last (tm:=a3.tmps) aE ⟨hB.heap,hB.tr,fun i=> ?_⟩ hv4 (.inr rfl) hq3
   have hs:=hB.env (i+1)
   rw[acO]at hs
   exact hs
  exact gX (P:=P) (k:=0) (fn:=fn) (R:=nu M φ (hp o nx) w K X) (u:= .panicking [{v:=val,recovered:=false}]) aE (ds:=[dd]) acP ms w3 g2 g4 hb0
end
end
theorem BJ.MF {P:Program}{g:FuncId}{ds:List D}{o:Nat->ad}{fr:Nat}{ty:TypeId}{sz:Nat}{es:List D}
 (h:bP P g (ds.map .d) (fun _=> .no) 0 (fun v o1 _=>(∃j ep,v= .osl j ep/\o1 j= .arr ep ty sz es)\/(v= .ax/\es=[]/\0<sz)) (fun _ _ _=>False)):
 BJ P g (ds.map .d) [] o fr (.osl fr 0) [(fr, .arr 0 ty sz es)]:=by
 refine⟨h.1,fun o' us M φ w vals _ c7 hH hd=> ?_⟩
 let cP:Place:=fun _=> .nilFunc
 have uO:∀b, ¬cI cP (hp (fun _=> .no) 0) b:=by rintro b ⟨id,hl,_⟩;simp[hp,ad.live]at hl
 have hM:∀b,ao M φ ⟨o',us⟩ b->b<w.heap.size:=fun b hb=>hb.elim (hH.BD b) fun hl=>(hH.ours b hl).2
 have yA:=(V.cM _ _).1 hd
 refine(h.2 (ao M φ ⟨o',us⟩) cP w vals (oD cP hM) ((V.cM _ _).2 (D.aV (w:=w) (w':=w) (B:=ao M φ ⟨o',us⟩) (fun b _ hB=>⟨rfl,fun h=>h.elim hB (uO b)⟩) _ _ yA))).mono ?_
 rintro e w' ⟨jd,o1,n1,v,k1,k2,k3⟩
 have hk:eC (fun _=>False) w w':=⟨k2.cL.os,k2.cL.tape,k2.cL.output,k2.cL.size,fun k hk _=>k2.cL.block k hk (uO k)⟩
 have vq:(⟨o',us⟩:Hp).put [(fr, .arr 0 ty sz es)]=⟨put o' [(fr, .arr 0 ty sz es)],fun id=>us id\/id=fr⟩:=by
  simp only[Hp.put]
  congr 1
  funext id
  simp
 have fin:∀ (val:Value) (xs:List Value),(∀b,eB val=some b->w.heap.size<=b/\b<w'.heap.size)->0<sz->w'.ownsRow 0 ty sz val es.length xs->
  (eK (ao M (ay φ fr val) ((⟨o',us⟩:Hp).put [(fr, .arr 0 ty sz es)])) w' sz es xs)->
  val.oneCell'=true->
  ∃aH,aA M aH ⟨put o' [(fr, .arr 0 ty sz es)],fun id=>us id\/id=fr⟩ w'/\Trans φ ⟨o',us⟩ w aH ⟨put o' [(fr, .arr 0 ty sz es)],fun id=>us id\/id=fr⟩ w'/\
   ∃MG,Ending.returned val= .returned MG/\V.den (ao M aH ⟨put o' [(fr, .arr 0 ty sz es)],fun id=>us id\/id=fr⟩) aH ⟨put o' [(fr, .arr 0 ty sz es)],fun id=>us id\/id=fr⟩ w' (.osl fr 0) MG:=by
  intro val xs jW eA dG c8 MH
  have qT:=iT hH hk c7 (.arr 0 ty sz es) val jW (by
   unfold aS
   rw[show((⟨o',us⟩:Hp).put [(fr, .arr 0 ty sz es)]).o fr= .arr 0 ty sz es by simp]
   refine⟨eA,xs, ?_,c8⟩
   rw[show ay φ fr val fr=val by simp]
   exact dG)
  have T7:=dO (φ:=φ) (H:=⟨o',us⟩) hk c7 (.arr 0 ty sz es) val (fun b hb=>(jW b hb).1)
  rw[vq]at qT T7
  refine⟨ay φ fr val,qT,T7,val,rfl,MH, .inr rfl,fun e he=> ?_⟩
  have ql:0=e:=by
   have:(put o' [(fr,ad.arr 0 ty sz es)] fr).cz=some 0:=by simp[put,ad.cz]
   exact abk
  exact⟨af,fun _=>aE⟩
 cases e with
 |outgrown=>exact k3.elim
 |panicked ch=>obtain⟨_,_,_,h⟩:=k3;exact h.elim
 |returned val=>
  obtain⟨g1,⟨j,ep,rfl,hj⟩|⟨rfl,rfl,eA⟩⟩:=k3
  ·obtain⟨v0,v1,v2⟩:=g1
   have fS:val=jd j:=(v2 ep (by show(o1 j).cz=some ep;rw[hj];rfl)).2 rfl
   have cX:∀b,eB val=some b->cI jd (hp o1 n1) b:=fun b hb=>⟨j,by show(o1 j).live=true;rw[hj];rfl,by rw[<- fS];exact hb⟩
   have jW:∀b,eB val=some b->w.heap.size<=b/\b<w'.heap.size:=fun b hb=>⟨(k2.grow b (cX b hb)).resolve_left (uO b),(k1.ours b (cX b hb)).2⟩
   have MI:=k1.ok j
   unfold aS at MI
   rw[show(hp o1 n1).o j= .arr ep ty sz es from hj]at MI
   obtain⟨eA,xs,dG,c8⟩:=MI
   have hBs:∀b,ao M (ay φ fr val) ((⟨o',us⟩:Hp).put [(fr, .arr 0 ty sz es)]) b->ao (ao M φ ⟨o',us⟩) jd (hp o1 n1) b:=by
    rintro b (hb|⟨id,hl,hb⟩)
    ·exact .inl (.inl hb)
    ·by_cases e:id=fr
     ·subst e
      simp at hb
      exact .inr (cX b hb)
     ·simp[e]at hl hb
      exact .inl (.inr ⟨id,hl,hb⟩)
   exact fin val xs jW eA (by rw[fS];exact dG) (c8.mono (w:=w') (w':=w') (fun b _ hB=>⟨rfl,fun h=>hB (hBs b h)⟩)) v0
  ·have g1:val= .slice none 0 0:=g1
   subst g1
   exact aaQ
theorem BJ.Qx {P:Program}{g:FuncId}{args:List V}{ds:List D}{o:Nat->ad}{fr:Nat}{ty:TypeId}{sz:Nat}{es:List D}
 (fj:cm o args=some ds) (oV:D.jZ es=true) (h:bP P g (ds.map .d) (fun _=> .no) 0 (fun v o1 _=>(∃j ep,v= .osl j ep/\o1 j= .arr ep ty sz es)\/(v= .ax/\es=[]/\0<sz)) (fun _ _ _=>False)):
 BJ P g args (V.bc args) o fr (.osl fr 0) [(fr, .arr 0 ty sz es)]:=by
 refine⟨h.1,fun o' us M φ w vals hag c7 hH hd=> ?_⟩
 obtain⟨f1,f2,f3,f4,f5⟩:=cY hH (V.bc args) (fun id aw=>(hag id aw).2)
 generalize hHF:(⟨o',us⟩:Hp).put (bG (⟨o',us⟩:Hp).o (V.bc args))=HF at f1 f2 f3
 let cP:Place:=fun _=> .nilFunc
 have uO:∀b, ¬cI cP (hp (fun _=> .no) 0) b:=by rintro b ⟨id,hl,_⟩;simp[hp,ad.live]at hl
 have hM:∀b,ao M φ HF b->b<w.heap.size:=fun b hb=>hb.elim (f1.BD b) fun hl=>(f1.ours b hl).2
 have yA:D.aF (ao M φ HF) w ds vals.toList:=dA f1 args ds _ (fun id aw=>by rw[f3 id aw];show(o' id).fz=(o id).fz;rw[(hag id aw).1]) fj (V.aV f2 _ _ hd)
 refine(h.2 (ao M φ HF) cP w vals (oD cP hM) ((V.cM _ _).2 (D.aV (w:=w) (w':=w) (B:=ao M φ HF) (fun b _ hB=>⟨rfl,fun h=>h.elim hB (uO b)⟩) _ _ yA))).mono ?_
 rintro e w' ⟨jd,o1,n1,v,k1,k2,k3⟩
 have hk:eC (fun _=>False) w w':=⟨k2.cL.os,k2.cL.tape,k2.cL.output,k2.cL.size,fun k hk _=>k2.cL.block k hk (uO k)⟩
 have vq:(⟨o',us⟩:Hp).put [(fr, .arr 0 ty sz es)]=⟨put o' [(fr, .arr 0 ty sz es)],fun id=>us id\/id=fr⟩:=by
  simp only[Hp.put]
  congr 1
  funext id
  simp
 have fin:∀ (val:Value) (xs:List Value),(∀b,eB val=some b->w.heap.size<=b/\b<w'.heap.size)->0<sz->w'.ownsRow 0 ty sz val es.length xs->
  (eK (ao M (ay φ fr val) ((⟨o',us⟩:Hp).put [(fr, .arr 0 ty sz es)])) w' sz es xs)->
  val.oneCell'=true->
  ∃aH,aA M aH ⟨put o' [(fr, .arr 0 ty sz es)],fun id=>us id\/id=fr⟩ w'/\Trans φ ⟨o',us⟩ w aH ⟨put o' [(fr, .arr 0 ty sz es)],fun id=>us id\/id=fr⟩ w'/\
   ∃MG,Ending.returned val= .returned MG/\V.den (ao M aH ⟨put o' [(fr, .arr 0 ty sz es)],fun id=>us id\/id=fr⟩) aH ⟨put o' [(fr, .arr 0 ty sz es)],fun id=>us id\/id=fr⟩ w' (.osl fr 0) MG:=by
  intro val xs jW eA dG c8 MH
  have qT:=iT hH hk c7 (.arr 0 ty sz es) val jW (by
   unfold aS
   rw[show((⟨o',us⟩:Hp).put [(fr, .arr 0 ty sz es)]).o fr= .arr 0 ty sz es by simp]
   refine⟨eA,xs, ?_,c8⟩
   rw[show ay φ fr val fr=val by simp]
   exact dG)
  have T7:=dO (φ:=φ) (H:=⟨o',us⟩) hk c7 (.arr 0 ty sz es) val (fun b hb=>(jW b hb).1)
  rw[vq]at qT T7
  refine⟨ay φ fr val,qT,T7,val,rfl,MH, .inr rfl,fun e he=> ?_⟩
  have ql:0=e:=by
   have:(put o' [(fr,ad.arr 0 ty sz es)] fr).cz=some 0:=by simp[put,ad.cz]
   exact abk
  exact⟨af,fun _=>aE⟩
 cases e with
 |outgrown=>exact k3.elim
 |panicked ch=>obtain⟨_,_,_,h⟩:=k3;exact h.elim
 |returned val=>
  obtain⟨g1,⟨j,ep,rfl,hj⟩|⟨rfl,rfl,eA⟩⟩:=k3
  ·obtain⟨v0,v1,v2⟩:=g1
   have fS:val=jd j:=(v2 ep (by show(o1 j).cz=some ep;rw[hj];rfl)).2 rfl
   have cX:∀b,eB val=some b->cI jd (hp o1 n1) b:=fun b hb=>⟨j,by show(o1 j).live=true;rw[hj];rfl,by rw[<- fS];exact hb⟩
   have jW:∀b,eB val=some b->w.heap.size<=b/\b<w'.heap.size:=fun b hb=>⟨(k2.grow b (cX b hb)).resolve_left (uO b),(k1.ours b (cX b hb)).2⟩
   have MI:=k1.ok j
   unfold aS at MI
   rw[show(hp o1 n1).o j= .arr ep ty sz es from hj]at MI
   obtain⟨eA,xs,dG,c8⟩:=MI
   obtain⟨evs,e1,e2,e3⟩:=c8
   exact fin val xs jW eA (by rw[fS];exact dG) ⟨evs,e1,e2,D.mi _ _ oV e3⟩ v0
  ·have g1:val= .slice none 0 0:=g1
   subst g1
   exact aaQ
theorem BJ.Qy {P:Program}{g:FuncId}{args:List V}{ds:List D}{o0 o:Nat->ad}{rd:List Nat}{fr:Nat}{v:V}{Δ:List (Nat×ad)}(aw:V.bc args=[])(fj:cm o0 args=some ds)
 (h:BJ P g (ds.map .d) rd o fr v Δ):BJ P g args rd o fr v Δ:=
 ⟨h.1,fun o' us M φ w vals h1 h2 hH hd=>h.2 o' us M φ w vals h1 h2 hH ((V.cM _ _).2 (dA hH args ds _ (by rw[aw];intro id h;cases h) fj hd))⟩
def Hn(P:Program)(f:FuncId):Prop:=
 Enters P f/\∀ (w:World) (b:Nat) (es:Array MapEntry) (clock:Nat),w.heap[b]? =some (.map es clock)->
  Calls P f #[.map (some b)] w fun e w'=>e= .returned (.map (some w.heap.size))/\w'=w.alloc (.map es clock)
theorem bP.W3 {P:Program}{f:FuncId}(h:Hn P f){o:Nat->ad}{nx id:Nat}{kt vt:TypeId}{l:List (D×D)}(ho:o id= .map kt vt l){K X:V->(Nat->ad)->Nat->Prop}
 (hK:K (.mp nx) (ay o nx (.map kt vt l)) (nx+1)):bP P f [.mp id] o nx K X:=by
 refine⟨h.1,fun M φ w vals hH hd=> ?_⟩
 have hlen:=V.aC _ _ hd
 obtain⟨v,rfl⟩:∃v,vals=#[v]:=by
  match vals,hlen with
  |⟨[v]⟩,_=>exact⟨v,rfl⟩
 obtain⟨v',qm,LV⟩:=V.dy _ _ 0 (.mp id) hd rfl
 simp only[List.getElem?_cons_zero,Option.some.injEq]at qm
 subst qm
 have aY:=hH.ok id
 have yc:(hp o nx).o id= .map kt vt l:=ho
 simp only[aS,yc]at aY
 obtain⟨b,es,clock,e1,e2,e3,e4⟩:=aY
 have hv:v=φ id:=LV.2.2 (by rw[yc];rfl)
 rw[hv,e1]
 refine(h.2 w b es clock e2).mono fun e w' ⟨he,hw⟩=> ?_
 subst he;subst hw
 have c7: ¬ (hp o nx).us nx:=fun h=>Nat.lt_irrefl _ h
 have vq:(hp o nx).put [(nx, .map kt vt l)]=hp (ay o nx (.map kt vt l)) (nx+1):=by
  simp only[Hp.put,hp]
  congr 1
  funext j
  simp only[List.map_cons,List.map_nil,List.mem_singleton,eq_iff_iff]
  omega
 have Ze:∀c,eB (.map (some w.heap.size))=some c->w.heap.size<=c/\c<(w.alloc (.map es clock)).heap.size:=by
  intro c hc;simp[eB]at hc;subst hc;simp
 have ht:=dO (φ:=φ) (H:=hp o nx) (cy w (.map es clock)) c7 (.map kt vt l) (.map (some w.heap.size)) fun c hc=>(Ze c hc).1
 refine⟨ay φ nx (.map (some w.heap.size)),ay o nx (.map kt vt l),nx+1, .mp nx, ?_, ?_, ?_,hK⟩
 ·exact abx
 ·rw[<- vq];exact ht
 ·rw[<- vq];exact⟨rfl,aE,fun _=>aE⟩
theorem bP.Ho {P:Program}{f:FuncId}(h:Hn P f){o:Nat->ad}{nx id:Nat}{kt vt:TypeId}{l:List (D×D)}(ho:o id= .cc l){K X:V->(Nat->ad)->Nat->Prop}
 (hK:K (.mp nx) (ay o nx (.map kt vt l)) (nx+1)):bP P f [.mp id] o nx K X:=by
 refine⟨h.1,fun M φ w vals hH hd=> ?_⟩
 have hlen:=V.aC _ _ hd
 obtain⟨v,rfl⟩:∃v,vals=#[v]:=by
  match vals,hlen with
  |⟨[v]⟩,_=>exact⟨v,rfl⟩
 obtain⟨v',qm,LV⟩:=V.dy _ _ 0 (.mp id) hd rfl
 simp only[List.getElem?_cons_zero,Option.some.injEq]at qm
 subst qm
 have aY:=hH.ok id
 have yc:(hp o nx).o id= .cc l:=ho
 simp only[aS,yc]at aY
 obtain⟨b,es,clock,e1,e2,_,e3,e4⟩:=aY
 have hv:v=φ id:=LV.2.2 (by rw[yc];rfl)
 rw[hv,e1]
 refine(h.2 w b es clock e2).mono fun e w' ⟨he,hw⟩=> ?_
 subst he;subst hw
 have c7: ¬ (hp o nx).us nx:=fun h=>Nat.lt_irrefl _ h
 have vq:(hp o nx).put [(nx, .map kt vt l)]=hp (ay o nx (.map kt vt l)) (nx+1):=by
  simp only[Hp.put,hp]
  congr 1
  funext j
  simp only[List.map_cons,List.map_nil,List.mem_singleton,eq_iff_iff]
  omega
 have Ze:∀c,eB (.map (some w.heap.size))=some c->w.heap.size<=c/\c<(w.alloc (.map es clock)).heap.size:=by
  intro c hc;simp[eB]at hc;subst hc;simp
 have ht:=dO (φ:=φ) (H:=hp o nx) (cy w (.map es clock)) c7 (.map kt vt l) (.map (some w.heap.size)) fun c hc=>(Ze c hc).1
 refine⟨ay φ nx (.map (some w.heap.size)),ay o nx (.map kt vt l),nx+1, .mp nx, ?_, ?_, ?_,hK⟩
 ·exact abx
 ·rw[<- vq];exact ht
 ·rw[<- vq];exact⟨rfl,aE,fun _=>aE⟩
section
inductive Tr (α:Type) where
 |e (f:Nat->α)
 |n (x:α) (l r:Tr α)
noncomputable def Tr.get {α:Type}(t:Tr α):Nat->α:=
 Tr.rec (motive:=fun _=>Nat->α) (fun f=>f) (fun x _ _ l r k=>Bool.rec (Bool.rec (r (Nat.sub (Nat.div k 2) 1)) (l (Nat.div k 2)) (Nat.beq (Nat.mod k 2) 1)) x (Nat.beq k 0)) t
theorem Tr.Hq {α:Type}(f:Nat->α):(Tr.e f).get=f:=rfl
noncomputable def Tr.wq {α:Type}(x:α):Nat->Tr α->Nat->Tr α
 |0,t,k=> .e (ay t.get k x)
 |d+1, .e f,k=>match Nat.beq k 0 with
  |true=> .n x (.e fun i=>f (2*i+1)) (.e fun i=>f (2*i+2))
  |false=>match Nat.beq (k%2) 1 with
   |true=> .n (f 0) (Tr.wq x d (.e fun i=>f (2*i+1)) (k/2)) (.e fun i=>f (2*i+2))
   |false=> .n (f 0) (.e fun i=>f (2*i+1)) (Tr.wq x d (.e fun i=>f (2*i+2)) (k/2 - 1))
 |d+1, .n y l r,k=>match Nat.beq k 0 with
  |true=> .n x l r
  |false=>match Nat.beq (k%2) 1 with
   |true=> .n y (Tr.wq x d l (k/2)) r
   |false=> .n y l (Tr.wq x d r (k/2 - 1))
noncomputable def Tr.set {α:Type}(t:Tr α)(k:Nat)(x:α):Tr α:=Tr.wq x 24 t k
theorem Tr.wu {α:Type}{x:α}{l r:Tr α}{k:Nat}:(Tr.n x l r).get k=if k=0 then x else if k%2=1 then l.get (k/2)else r.get (k/2 - 1):=by
 show @Bool.rec (fun _=>α) (@Bool.rec (fun _=>α) (r.get (k/2 - 1)) (l.get (k/2)) (Nat.beq (k%2) 1)) x (Nat.beq k 0)=_
 by_cases h:k=0
 ·subst h;rfl
 ·have:Nat.beq k 0=false:=by cases k with|zero=>exact absurd rfl h|succ k=>rfl
  simp only[this,h,if_false]
  by_cases h2:k%2=1
  ·simp[h2]
  ·have:Nat.beq (k%2) 1=false:=by
    cases hb:Nat.beq (k%2) 1 with
    |false=>rfl
    |true=>exact absurd (Nat.eq_of_beq_eq_true hb) h2
   simp[h2,this]
theorem Tr.nK {α:Type}(x:α):∀ (d:Nat) (t:Tr α) (k:Nat),(Tr.wq x d t k).get=ay t.get k x
 |0,t,k=>rfl
 |d+1, .e f,k=>by
  funext i
  simp only[Tr.wq]
  have hb:∀a b:Nat,Nat.beq a b=decide (a=b):=fun a b=>by
   cases h:Nat.beq a b with
   |true=>simp[Nat.eq_of_beq_eq_true h]
   |false=>simp[Nat.ne_of_beq_eq_false h]
  rw[hb,hb]
  by_cases h:k=0
  ·subst h
   simp only[decide_true,Tr.wu,aN]
   by_cases hi:i=0
   ·simp[hi]
   ·simp only[hi,if_false]
    by_cases h2:i%2=1
    ·simp only[h2,if_true,Tr.Hq];congr 1;omega
    ·simp only[h2,if_false,Tr.Hq];congr 1;omega
  ·simp only[h,decide_false]
   by_cases hk:k%2=1
   ·simp only[hk,decide_true,Tr.wu,Tr.nK x d,aN,Tr.Hq]
    by_cases hi:i=0
    ·exact GC
    ·simp only[hi,if_false]
     by_cases h2:i%2=1
     ·simp only[h2,if_true]
      have e1:2*(i/2)+1=i:=af
      rw[e1]
      by_cases e:i=k
      ·simp[e]
      ·exact Gu
     ·simp only[h2,if_false]
      rw[if_neg (by intro e;subst e;exact h2 hk)]
      congr 1;omega
   ·simp only[hk,decide_false,Tr.wu,Tr.nK x d,aN,Tr.Hq]
    by_cases hi:i=0
    ·exact GC
    ·simp only[hi,if_false]
     by_cases h2:i%2=1
     ·simp only[h2,if_true]
      rw[if_neg (by intro e;subst e;exact hk h2)]
      congr 1;omega
     ·simp only[h2,if_false]
      have e1:2*(i/2 - 1)+2=i:=af
      rw[e1]
      by_cases e:i=k
      ·simp[e]
      ·exact Gu
 |d+1, .n y l r,k=>by
  funext i
  simp only[Tr.wq]
  have hb:∀a b:Nat,Nat.beq a b=decide (a=b):=fun a b=>by
   cases h:Nat.beq a b with
   |true=>simp[Nat.eq_of_beq_eq_true h]
   |false=>simp[Nat.ne_of_beq_eq_false h]
  rw[hb,hb]
  by_cases h:k=0
  ·subst h
   simp only[decide_true,Tr.wu,aN]
   by_cases hi:i=0
   ·simp[hi]
   ·simp[hi]
  ·simp only[h,decide_false]
   by_cases hk:k%2=1
   ·simp only[hk,decide_true,Tr.wu,Tr.nK x d,aN]
    by_cases hi:i=0
    ·exact GC
    ·simp only[hi,if_false]
     by_cases h2:i%2=1
     ·simp only[h2,if_true]
      by_cases e:i=k
      ·simp[e]
      ·exact Gu
     ·simp only[h2,if_false]
      rw[if_neg (by intro e;subst e;exact h2 hk)]
   ·simp only[hk,decide_false,Tr.wu,Tr.nK x d,aN]
    by_cases hi:i=0
    ·exact GC
    ·simp only[hi,if_false]
     by_cases h2:i%2=1
     ·simp only[h2,if_true]
      rw[if_neg (by intro e;subst e;exact hk h2)]
     ·simp only[h2,if_false]
      by_cases e:i=k
      ·simp[e]
      ·exact Gu
theorem Tr.gZ {α:Type}(t:Tr α)(k:Nat)(x:α):(t.set k x).get=ay t.get k x:=Tr.nK x 24 t k
noncomputable def Nat.fc {β:Type}(n:Nat)(c:Nat->β):β:=Nat.rec (motive:=fun _=>β) (c 0) (fun m _=>c (Nat.succ m)) n
theorem Nat.de {β:Type}(n:Nat)(c:Nat->β):Nat.fc n c=c n:=by cases n<;>rfl
noncomputable def Int.fc {β:Type}(n:Int)(c:Int->β):β:=Int.rec (motive:=fun _=>β) (fun m=>Nat.fc m fun m=>c (.ofNat m)) (fun m=>Nat.fc m fun m=>c (.negSucc m)) n
theorem Int.de {β:Type}(n:Int)(c:Int->β):Int.fc n c=c n:=by cases n<;>simp only[Int.fc,Nat.de]
mutual
noncomputable def D.fc {β:Type}:D->(D->β)->β
 | .int k n,c=>Int.fc n fun n=>c (.int k n)
 | .bool b,c=>match b with|true=>c (.bool true)|false=>c (.bool false)
 | .agg l,c=>D.wv l fun l=>c (.agg l)
 | .sl l,c=>D.wv l fun l=>c (.sl l)
 | .iface t x,c=>D.fc x fun x=>c (.iface t x)
 | .str s,c=>c (.str s)
 | .eW,c=>c .eW
 | .lG,c=>c .lG
 | .cF,c=>c .cF
 | .dL,c=>c .dL
 | .mp ks vs,c=>D.wv ks fun ks=>D.wv vs fun vs=>c (.mp ks vs)
noncomputable def D.wv {β:Type}:List D->(List D->β)->β
 |[],c=>c []
 |x::xs,c=>D.fc x fun x=>D.wv xs fun xs=>c (x::xs)
end
mutual
theorem D.de {β:Type}:∀ (x:D) (c:D->β),D.fc x c=c x
 | .int k n,c=>by simp only[D.fc,Int.de]
 | .bool b,c=>by cases b<;>rfl
 | .agg l,c=>by simp only[D.fc,D.fM l]
 | .sl l,c=>by simp only[D.fc,D.fM l]
 | .iface t x,c=>by simp only[D.fc,D.de x]
 | .mp ks vs,c=>by simp only[D.fc,D.fM ks,D.fM vs]
 | .str _,_| .eW,_| .lG,_| .cF,_| .dL,_=>by simp only[D.fc]
theorem D.fM {β:Type}:∀ (x:List D) (c:List D->β),D.wv x c=c x
 |[],c=>by simp only[D.wv]
 |x::xs,c=>by simp only[D.wv,D.de x,D.fM xs]
end
mutual
noncomputable def V.fc {β:Type}:V->(V->β)->β
 | .d x,c=>D.fc x fun x=>c (.d x)
 | .agg l,c=>V.wv l fun l=>c (.agg l)
 | .bY l,c=>V.wv l fun l=>c (.bY l)
 | .ptr i o,c=>Nat.fc i fun i=>Nat.fc o fun o=>c (.ptr i o)
 | .osl i o,c=>Nat.fc i fun i=>Nat.fc o fun o=>c (.osl i o)
 | .pe a b i j k,c=>Nat.fc a fun a=>Nat.fc b fun b=>Nat.fc i fun i=>Nat.fc j fun j=>Nat.fc k fun k=>c (.pe a b i j k)
 | .pp l o,c=>D.wv l fun l=>Nat.fc o fun o=>c (.pp l o)
 | .func f a b,c=>V.wv a fun a=>V.wv b fun b=>c (.func f a b)
 | .iface t x,c=>V.fc x fun x=>c (.iface t x)
 | .pb l,c=>D.wv l fun l=>c (.pb l)
 | .yq i j k,c=>Nat.fc i fun i=>Nat.fc j fun j=>Nat.fc k fun k=>c (.yq i j k)
 | .mp i,c=>Nat.fc i fun i=>c (.mp i)
 | .kH i,c=>Nat.fc i fun i=>c (.kH i)
 | .ax,c=>c .ax
 | .ab,c=>c .ab
 | .fH,c=>c .fH
noncomputable def V.wv {β:Type}:List V->(List V->β)->β
 |[],c=>c []
 |x::xs,c=>V.fc x fun x=>V.wv xs fun xs=>c (x::xs)
end
mutual
theorem V.de {β:Type}:∀ (x:V) (c:V->β),V.fc x c=c x
 | .d x,c=>by simp only[V.fc,D.de]
 | .agg l,c=>by simp only[V.fc,V.fM l]
 | .bY l,c=>by simp only[V.fc,V.fM l]
 | .pp l o,c=>by simp only[V.fc,D.fM,Nat.de]
 | .func f a b,c=>by simp only[V.fc,V.fM a,V.fM b]
 | .iface t x,c=>by simp only[V.fc,V.de x]
 | .pb l,c=>by simp only[V.fc,D.fM]
 | .ptr _ _,_| .osl _ _,_| .pe _ _ _ _ _,_| .yq _ _ _,_| .mp _,_| .kH _,_| .ax,_| .ab,_| .fH,_=>by simp only[V.fc,Nat.de]
theorem V.fM {β:Type}:∀ (x:List V) (c:List V->β),V.wv x c=c x
 |[],c=>by simp only[V.wv]
 |x::xs,c=>by simp only[V.wv,V.de x,V.fM xs]
end
section
variable {β:Type}
noncomputable def acQ(k:IntKind)(n:Int)(c:V->β):β:=Int.fc n fun n=>c (.d (.int k n))
noncomputable def acR(b:Bool)(c:V->β):β:= @Bool.rec (fun _=>β) (c (.d (.bool false))) (c (.d (.bool true))) b
noncomputable def W4(x:D)(c:V->β):β:=D.fc x fun x=>c (.d x)
noncomputable def vD(x:D):(V->β)->β:=match x with| .int k n=>acQ k n| .bool b=>acR b|x=>W4 x
noncomputable def acS(i o:Nat)(c:V->β):β:=Nat.fc i fun i=>Nat.fc o fun o=>c (.ptr i o)
noncomputable def acT(i o:Nat)(c:V->β):β:=Nat.fc i fun i=>Nat.fc o fun o=>c (.osl i o)
noncomputable def vPe(a b i j k:Nat)(c:V->β):β:=Nat.fc a fun a=>Nat.fc b fun b=>Nat.fc i fun i=>Nat.fc j fun j=>Nat.fc k fun k=>c (.pe a b i j k)
noncomputable def V.Z6 (v:V):(V->β)->β:=match v with| .d x=>vD x| .ptr i o=>acS i o| .osl i o=>acT i o| .pe a b i j k=>vPe a b i j k|v=>V.fc v
theorem V.W5 (v:V)(c:V->β):V.Z6 v c=c v:=by
 cases v
 case d x=>
  cases x
  case int k n=>simp only[V.Z6,vD,acQ,Int.de]
  case bool b=>cases b<;>rfl
  all_goals exact D.de _ _
 case ptr i o=>simp only[V.Z6,acS,Nat.de]
 case osl i o=>simp only[V.Z6,acT,Nat.de]
 case pe a b i j k=>simp only[V.Z6,vPe,Nat.de]
 all_goals exact V.de _ _
end
noncomputable def Z7{β:Type}:List (D×D)->(List (D×D)->β)->β
 |[],c=>c []
 |(a,b)::l,c=>D.fc a fun a=>D.fc b fun b=>Z7 l fun l=>c ((a,b)::l)
theorem MJ{β:Type}:∀ (x:List (D×D)) (c:List (D×D)->β),Z7 x c=c x
 |[],c=>rfl
 |(a,b)::l,c=>by simp only[Z7,D.de,MJ l]
noncomputable def ad.fc {β:Type}(x:ad)(c:ad->β):β:=
 match x with
 | .row cs=>V.wv cs fun cs=>c (.row cs)
 | .arr e t s es=>Nat.fc e fun e=>Nat.fc s fun s=>D.wv es fun es=>c (.arr e t s es)
 | .uI e es=>Nat.fc e fun e=>D.wv es fun es=>c (.uI e es)
 | .map kt vt l=>Z7 l fun l=>c (.map kt vt l)
 | .cc l=>Z7 l fun l=>c (.cc l)
 | .rW l last=>Z7 l fun l=>c (.rW l last)
 | .z7 l pos=>Nat.fc pos fun pos=>c (.z7 l pos)
 |x=>c x
theorem ad.de {β:Type}(x:ad)(c:ad->β):ad.fc x c=c x:=by cases x<;>simp only[ad.fc,V.fM,D.fM,Nat.de,MJ]
noncomputable def Tr.zg {α β:Type}(x:α)(d:Nat):Tr α->Nat->(Tr α->β)->β:=
 Nat.rec (motive:=fun _=>Tr α->Nat->(Tr α->β)->β) (fun t k c=>c (.e (ay t.get k x)))
  (fun _ ih t k c=>Tr.rec (motive:=fun _=>β) (fun f=>
   Bool.rec (Bool.rec (ih (.e fun i=>f (2*i+2)) (Nat.sub (Nat.div k 2) 1) fun r=>c (.n (f 0) (.e fun i=>f (2*i+1)) r)) (ih (.e fun i=>f (2*i+1)) (Nat.div k 2) fun l=>c (.n (f 0) l (.e fun i=>f (2*i+2)))) (Nat.beq (Nat.mod k 2) 1))
    (c (.n x (.e fun i=>f (2*i+1)) (.e fun i=>f (2*i+2)))) (Nat.beq k 0))
   (fun y l r _ _=>Bool.rec (Bool.rec (ih r (Nat.sub (Nat.div k 2) 1) fun r=>c (.n y l r)) (ih l (Nat.div k 2) fun l=>c (.n y l r)) (Nat.beq (Nat.mod k 2) 1)) (c (.n x l r)) (Nat.beq k 0)) t) d
theorem Tr.wx {α β:Type}(x:α):∀ (d:Nat) (t:Tr α) (k:Nat) (c:Tr α->β),Tr.zg x d t k c=c (Tr.wq x d t k)
 |0,t,k,c=>rfl
 |d+1, .e f,k,c=>by
  show @Bool.rec (fun _=>β) (@Bool.rec (fun _=>β) (Tr.zg x d (.e fun i=>f (2*i+2)) (k/2 - 1) fun r=>c (.n (f 0) (.e fun i=>f (2*i+1)) r)) (Tr.zg x d (.e fun i=>f (2*i+1)) (k/2) fun l=>c (.n (f 0) l (.e fun i=>f (2*i+2)))) (Nat.beq (k%2) 1)) (c (.n x (.e fun i=>f (2*i+1)) (.e fun i=>f (2*i+2)))) (Nat.beq k 0)=_
  simp only[Tr.wq,Tr.wx x d]
  cases Nat.beq k 0
  ·cases Nat.beq (k%2) 1<;>rfl
  ·rfl
 |d+1, .n y l r,k,c=>by
  show @Bool.rec (fun _=>β) (@Bool.rec (fun _=>β) (Tr.zg x d r (k/2 - 1) fun r=>c (.n y l r)) (Tr.zg x d l (k/2) fun l=>c (.n y l r)) (Nat.beq (k%2) 1)) (c (.n x l r)) (Nat.beq k 0)=_
  simp only[Tr.wq,Tr.wx x d]
  cases Nat.beq k 0
  ·cases Nat.beq (k%2) 1<;>rfl
  ·rfl
noncomputable def Tr.W6 {α β:Type}(t:Tr α)(k:Nat)(x:α)(c:Tr α->β):β:=Tr.zg x 24 t k c
theorem Tr.Hr {α β:Type}(t:Tr α)(k:Nat)(x:α)(c:Tr α->β):t.W6 k x c=c (t.set k x):=Tr.wx x 24 t k c
structure St where
 env:Tr V
 o:Tr ad
 nx:Nat
noncomputable def St.S (st:St):S:=⟨st.env.get,st.o.get,st.nx⟩
noncomputable def JP(o:Tr ad)(Δ:List (Nat×ad)):Tr ad:=Δ.foldl (fun f x=>f.set x.1 x.2) o
noncomputable def tS(env:Tr V)(dst:Option Tmp)(v:V):Tr V:=match dst with|some d=>env.set d v|none=>env
noncomputable def wy{β:Type}(o:Tr ad):List (Nat×ad)->(Tr ad->β)->β
 |[],c=>c o
 |(i,x)::Δ,c=>ad.fc x fun x=>o.W6 i x fun o=>wy o Δ c
theorem nL{β:Type}:∀ (Δ:List (Nat×ad)) (o:Tr ad) (c:Tr ad->β),wy o Δ c=c (JP o Δ)
 |[],o,c=>rfl
 |(i,x)::Δ,o,c=>by simp only[wy,ad.de,Tr.Hr,nL Δ];rfl
noncomputable def mC{β:Type}(env:Tr V)(dst:Option Tmp)(v:V)(c:Tr V->β):β:=match dst with|some d=>V.Z6 v fun v=>env.W6 d v c|none=>c env
theorem jE{β:Type}(env:Tr V)(dst:Option Tmp)(v:V)(c:Tr V->β):mC env dst v c=c (tS env dst v):=by
 cases dst<;>simp only[mC,tS,V.W5,Tr.Hr]
theorem j9:∀ (Δ:List (Nat×ad)) (o:Tr ad),(JP o Δ).get=put o.get Δ
 |[],_=>rfl
 |x::Δ,o=>by
  simp only[JP,put,List.foldl_cons]
  have:=j9 Δ (o.set x.1 x.2)
  simp only[JP,put]at this
  rw[this,Tr.gZ]
theorem jw(env:Tr V)(dst:Option Tmp)(v:V):(tS env dst v).get=a8 env.get dst v:=by
 cases dst<;>simp[tS,a8,Tr.gZ]
section W7
def T8(x:Operand)(_:Program)(s:S)(_:Nat):Option gr:=one (s.ev x)
def acU(c a b:Operand)(_:Program)(s:S)(_:Nat):Option gr:=mw (qV (s.ev c) (s.ev a) (s.ev b))
def W8(t:TypeId)(parts:Array (Nat×Operand))(P:Program)(s:S)(_:Nat):Option gr:=mw (Ay P t (parts.toList.map fun p=>(p.1,s.ev p.2)))
def Dj(t:TypeId)(len:Nat)(parts:Array (Nat×Operand))(P:Program)(s:S)(fr:Nat):Option gr:=gC P s.o fr t len (parts.toList.map fun p=>(p.1,s.ev p.2))
def acV(t:TypeId)(x:Operand)(P:Program)(s:S)(_:Nat):Option gr:=nC P s.o t (s.ev x)
def W9(t:TypeId)(x v:Operand)(P:Program)(s:S)(_:Nat):Option gr:=sI P s.o t (s.ev x) (s.ev v)
def age(x:Operand)(_:Program)(s:S)(_:Nat):Option gr:=mw (jA s.o (s.ev x))
noncomputable def acW(op:BinOp):IntKind->Int->Int->Option V:=
 match op with
 | .add=>fun k a b=>some (.d (.int k (k.wrap (Int.add a b))))
 | .sub=>fun k a b=>some (.d (.int k (k.wrap (Int.sub a b))))
 | .mul=>fun k a b=>some (.d (.int k (k.wrap (Int.mul a b))))
 |op=>CJ op
theorem Qz(op:BinOp):acW op=CJ op:=by cases op<;>rfl
def asInt(x:V):Option (IntKind×Int):=match x with| .d (.int k a)=>some (k,a)|_=>none
def MK(op:BinOp)(t:TypeId)(c:Bool)(x y:V)(P:Program)(o:Nat->ad):Option gr:=fF P o op t c x y
noncomputable def acX(op:BinOp)(t:TypeId)(x y:Operand)(P:Program)(s:S)(_:Nat):Option gr:=
 match asInt (s.ev x)with
 |some (k,a)=>match asInt (s.ev y)with
  |some (k',b)=>if k=k' then match acW op k a b with
   |some v=>some (v,[],[])
   |none=>MK op t (isConst x||isConst y) (s.ev x) (s.ev y) P s.o
   else none
  |none=>MK op t (isConst x||isConst y) (s.ev x) (s.ev y) P s.o
 |none=>MK op t (isConst x||isConst y) (s.ev x) (s.ev y) P s.o
theorem Dk{x:V}{k:IntKind}{a:Int}(h:asInt x=some (k,a)):x= .d (.int k a):=by
 unfold asInt at h;split at h
 ·injection h with h;cases h;rfl
 ·cases h
def Fv(t:TypeId)(x:Operand)(f:Nat)(P:Program)(s:S)(_:Nat):Option gr:=mw (iH P s.o t (s.ev x) f)
def Fw(t:TypeId)(x i:Operand)(P:Program)(s:S)(_:Nat):Option gr:=iG P s.o t (s.ev x) (s.ev i)
def Xa(op:Op)(P:Program)(s:S)(fr:Nat):Option gr:=gM P s fr op
noncomputable def QA(op:Op):Program->S->Nat->Option gr:=
 match op with
 | .move x=>T8 x
 | .assign x=>T8 x
 | .pick c a b=>acU c a b
 | .build t parts=>W8 t parts
 | .buildSlice t len parts=>Dj t len parts
 | .load t x=>acV t x
 | .store t x v=>W9 t x v
 | .nilCheck x=>age x
 | .binOp op t x y _=>acX op t x y
 | .fieldAddr t x f=>Fv t x f
 | .indexAddr t x i=>Fw t x i
 |op=>Xa op
theorem Hs{op:Op}{P:Program}{s:S}{fr:Nat}{r:gr}(h:QA op P s fr=some r):gM P s fr op=some r:=by
 cases op
 case binOp op t x y yt=>
  simp only[QA,acX,Qz]at h
  have e:gM P s fr (.binOp op t x y yt)=fF P s.o op t (isConst x||isConst y) (s.ev x) (s.ev y):=rfl
  rw[e]
  split at h
  ·rename_i k a hx
   split at h
   ·rename_i k' b hy
    split at h
    ·rename_i hk
     split at h
     ·rename_i v hv
      unfold fF Ax
      simp only[Dk hx,Dk hy,if_pos hk,hv]
      exact h
     ·exact h
    ·cases h
   ·exact h
  ·exact h
 all_goals exact h
end W7
inductive FD where
 |fn (n:Nat) (ic:IC) (rs:List ResultVar)
 |dfr (n:Nat) (jS fq:IC) (g t:Nat) (fE:List Operand) (rs:List ResultVar) (m r r1:Nat) (zf:IC)
 |mpc
 |no
def FD.Ok (P:Program)(f:Nat):FD->Prop
 | .fn n ic rs=>aO P f n ic rs
 | .dfr n jS fq g t fE rs m r r1 zf=>Hm P f n jS fq g t fE rs/\Df P g m r r1 zf
 | .mpc=>Hn P f
 | .no=>True
inductive CR where
 |ret (v:V) (o:Tr ad) (nx:Nat)|bN (v:V) (o:Tr ad) (nx:Nat)
def CR.to (K X:V->(Nat->ad)->Nat->Prop):CR->Prop
 | .ret v o nx=>K v o.get nx
 | .bN v o nx=>X v o.get nx
inductive RO where
 |ok (st:St)|bN (v:V) (st:St)
def RO.to (K:S->Prop)(X:V->S->Prop):RO->Prop
 | .ok st=>K st.S
 | .bN v st=>X v st.S
inductive eE where
 |r (x:R)|c (x:CR)
abbrev Kt:=fK->St->Option eE
abbrev dH:=Nat->Bool->Nat->IC->St->Kt->Option eE
noncomputable def JQ(P:Program)(rs:List ResultVar)(st:St)(kc:CR->Option eE):Option eE:=
 match mm P st.S rs with
 |some [v]=>kc (.ret v st.o st.nx)
 |some vs=>kc (.ret (.bY vs) st.o st.nx)
 |none=>none
noncomputable def T9(P:Program)(rs:List ResultVar)(kc:CR->Option eE):Kt:=fun e st=>
 match e with
 | .normal=>JQ P rs st kc
 | .ret=>JQ P rs st kc
 | .bN v=>kc (.bN v st.o st.nx)
 | .exit _=>none
noncomputable def ML(P:Program)(rs:List ResultVar)(kc:CR->Option eE)(env:Tr V):Kt:=fun e s4=>
 match e with
 | .normal=>JQ P rs ⟨env,s4.o,s4.nx⟩ kc
 | .ret=>JQ P rs ⟨env,s4.o,s4.nx⟩ kc
 |_=>none
def acY:fK->Option V
 | .normal=>some (.d .eW)
 | .ret=>some (.d .eW)
 | .bN v=>some v
 | .exit _=>none
noncomputable def MM(P:Program)(rec:dH)(rs:List ResultVar)(bR:List V)(m r r1:Nat)(zf:IC)(kc:CR->Option eE):Kt:=fun e s3=>
 match acY e with
 |some u=>if bR.length<=m then rec s3.nx true m zf ⟨.e (ay (ay (cC bR) r u) r1 u),s3.o,s3.nx⟩ (ML P rs kc s3.env)else none
 |none=>none
noncomputable def Ht(P:Program)(rec:dH)(n t:Nat)(fq:IC)(g:Nat)(fE:List Operand)(rs:List ResultVar)(m r r1:Nat)(zf:IC)(kc:CR->Option eE):Kt:=fun e s1=>
 match e with
 | .normal=>rec s1.nx false n fq ⟨s1.env.set t (.func (.func g) [] (fE.map s1.S.ev)),s1.o,s1.nx⟩ (MM P rec rs (fE.map s1.S.ev) m r r1 zf kc)
 |_=>none
noncomputable def MN(P:Program)(tab:Nat->FD)(rec:dH)(g:Nat)(args:List V)(o:Tr ad)(nx:Nat)(kc:CR->Option eE):Option eE:=
 match tab g with
 | .fn n ic rs=>if args.length<=n then rec nx false n ic ⟨.e (cC args),o,nx⟩ (T9 P rs kc)else none
 | .dfr n jS fq g t fE rs m r r1 zf=>if args.length<=n then rec nx true n jS ⟨.e (cC args),o,nx⟩ (Ht P rec n t fq g fE rs m r r1 zf kc)else none
 | .mpc=>match args with
   |[.mp id]=>match o.get id with
    | .map kt vt l=>kc (.ret (.mp nx) (o.set nx (.map kt vt l)) (nx+1))
    | .cc l=>kc (.ret (.mp nx) (o.set nx (.map 0 0 l)) (nx+1))
    |_=>none
   |_=>none
 | .no=>none
def wz:V->List V
 | .bY vs=>vs
 |v=>[v]
noncomputable def Hu(r:CR):Option R:=
 match r with
 | .ret v o _=>match v with
   | .bY [_]=>none
   |v=>match cm o.get (wz v)with
    |some rs=>some (.ret rs)
    |none=>none
 | .bN v o _=>match dM o.get v with
   |some x=>some (.bN x)
   |none=>none
noncomputable def rfc{β:Type}(x:R)(c:R->β):β:=match x with| .ret l=>D.wv l fun l=>c (.ret l)| .bN d=>D.fc d fun d=>c (.bN d)
theorem Fx{β:Type}(x:R)(c:R->β):rfc x c=c x:=by cases x<;>simp only[rfc,D.fM,D.de]
noncomputable def Dl(r:CR):Option eE:=match Hu r with|some x=>rfc x fun x=>some (.r x)|none=>none
theorem MO{r:CR}{a:eE}(h:Dl r=some a):∃x,Hu r=some x/\a= .r x:=by
 unfold Dl at h
 split at h
 ·rename_i x hx;rw[Fx]at h;injection h with h;exact⟨x,hx,h.symm⟩
 ·cases h
def MP(out:R)(o:Tr ad)(nx:Nat):CR:=
 match out with
 | .ret rs=> .ret (jf rs) o nx
 | .bN x=> .bN (.d x) o nx
structure rb (P:Program) where
 dat:Nat->Bool
 fx:Nat->List D->Option R
 ok:∀g ds out,fx g ds=some out->aW P g ds out
def MQ(l:List (Nat×List D×R))(g:Nat)(ds:List D):Option R:=
 match l with
 |[]=>none
 |x::l=>match Nat.beq x.1 g with
  |true=>match D.gz x.2.1 ds with
   |true=>some x.2.2
   |false=>MQ l g ds
  |false=>MQ l g ds
theorem AV{P:Program}:∀ {l:List (Nat×List D×R)},(∀x∈l,aW P x.1 x.2.1 x.2.2)->∀g ds out,MQ l g ds=some out->aW P g ds out
 |[],_,_,_,_,h=>by cases h
 |x::l,hl,g,ds,out,h=>by
  simp only[MQ]at h
  split at h
  ·rename_i hg
   split at h
   ·rename_i hd
    injection h with h
    have:=hl x aE
    rw[Nat.eq_of_beq_eq_true hg,D.dK _ _ hd,h]at this
    exact this
   ·exact AV (fun y hy=>hl y lD) g ds out h
  ·exact AV (fun y hy=>hl y lD) g ds out h
def rb.of {P:Program}(dat:Nat->Bool)(l:List (Nat×List D×R))(h:∀x∈l,aW P x.1 x.2.1 x.2.2):rb P:=⟨dat,MQ l,AV h⟩
noncomputable def QB(P:Program)(tab:Nat->FD)(md:rb P)(rec:dH)(g:Nat)(ds:List D):Option R:=
 match md.fx g ds with
 |some out=>some out
 |none=>match MN P tab rec g (ds.map .d) (.e fun _=> .no) 0 Dl with
  |some (.r x)=>some x
  |_=>none
noncomputable def Ua(out:R)(o:Tr ad)(nx:Nat)(args:List V)(kc:CR->Option eE):Option eE:=
 match out.flat with
 |true=>kc (MP out o (nx+1))
 |false=>match out.nv with
  |true=>kc (MP out (JP o (ss o.get (V.bc args))) (nx+1))
  |false=>kc (MP out (JP o (bG o.get (V.bc args))) (nx+1))
noncomputable def Hv(P:Program)(tab:Nat->FD)(md:rb P)(rec:dH)(g:Nat)(args:List V)(o:Tr ad)(nx:Nat)(kc:CR->Option eE):Option eE:=
 match md.dat g,cm o.get args with
 |true,some ds=>match QB P tab md rec g ds with
  |some out=>Ua out o nx args kc
  |none=>none
 |_,_=>MN P tab rec g args o nx kc
noncomputable def MR(id:Nat)(kc:CR->Option eE):Kt:=fun e s2=>
 match e with
 | .bN v=>kc (.bN v s2.o s2.nx)
 |e=>match s2.o.get id with
  | .loop nf m en p c d _ _=>match e with
    | .normal=>kc (.ret (.d (.bool true)) (s2.o.set id (.loop nf m en p c d .ready none)) s2.nx)
    | .ret=>kc (.ret (.d (.bool false)) (s2.o.set id (.loop nf m en p c d .done (some .ret))) s2.nx)
    | .exit j=>kc (.ret (.d (.bool false)) (s2.o.set id (.loop nf m en p c d .done (some (.exit j)))) s2.nx)
    | .bN _=>none
  |_=>none
noncomputable def Hw(rec:dH)(id nx n:Nat)(fq:IC)(kc:CR->Option eE):Kt:=fun e s1=>
 match e with
 | .normal=>match s1.o.get id with
   | .loop nf m en p c d .ready pd=>rec nx true n fq ⟨s1.env,s1.o.set id (.loop nf m en p c d .busy pd),s1.nx⟩ (MR id kc)
   |_=>none
 | .bN v=>kc (.bN v s1.o s1.nx)
 |_=>none
noncomputable def Xb(P:Program)(rec:dH)(id:Nat)(args:List V)(o:Tr ad)(nx:Nat)(kc:CR->Option eE):Option eE:=
 match o.get id with
 | .loop nf n env ps jS fq _ _=>if nf=P.funcs.size/\id<nx/\ps.all (fun t=>decide (t<n))=true/\args.length=ps.length then
  rec nx true n jS ⟨.e (pS (aX env) ps args),o,nx⟩ (Hw rec id nx n fq kc)
   else none
 |_=>none
noncomputable def zh(P:Program)(st:St)(o:b7)(kr:RO->Option eE):Option eE:=
 match QA o.op P st.S st.nx with
 |some (v,Δ,_)=>mC st.env o.dst v fun e=>wy st.o Δ fun ob=>Nat.fc (st.nx+1) fun n=>kr (.ok ⟨e,ob,n⟩)
 |none=>none
noncomputable def crX(st:St)(dst:Option Nat)(kr:RO->Option eE)(c:CR):Option eE:=
 match c with
 | .ret v o nx=>mC st.env dst v fun e=>Nat.fc nx fun nx=>kr (.ok ⟨e,o,nx⟩)
 | .bN v o nx=>kr (.bN v ⟨st.env,o,nx⟩)
noncomputable def MT(c:Call)(P:Program)(tab:Nat->FD)(md:rb P)(rec:dH)(st:St)(o:b7)(kr:RO->Option eE):Option eE:=
 match c.callee with
 | .value f=>match st.S.ev f with
   | .func (.func g) first cap=>Hv P tab md rec g (first++c.args.toList.map st.S.ev++cap) st.o st.nx (crX st o.dst kr)
   | .kH id=>Xb P rec id (c.args.toList.map st.S.ev) st.o st.nx (crX st o.dst kr)
   |_=>none
 | .invoke r m=>match vO P m (st.S.ev r)with
   |some (g,y)=>Hv P tab md rec g (y::c.args.toList.map st.S.ev) st.o st.nx (crX st o.dst kr)
   |none=>none
 |_=>zh P st o kr
noncomputable def Xc(x:Operand)(P:Program)(_:Nat->FD)(_:rb P)(_:dH)(st:St)(_:b7)(kr:RO->Option eE):Option eE:=
 match st.S.ev x with
 | .d (.iface t y)=>kr (.bN (.d (.iface t y)) st)
 | .iface t y=>kr (.bN (.iface t y) st)
 |_=>none
noncomputable def acZ(P:Program)(_:Nat->FD)(_:rb P)(_:dH)(st:St)(o:b7)(kr:RO->Option eE):Option eE:=zh P st o kr
def R.same:R->R->Bool
 | .ret a, .ret b=>D.gz a b
 | .bN a, .bN b=>a.same b
 |_,_=>false
theorem R.ei {x y:R}(h:x.same y=true):x=y:=by
 cases x<;>cases y<;>simp only[R.same,Bool.false_eq_true]at h
 ·rw[D.dK _ _ h]
 ·rw[D.ei _ _ h]
noncomputable def brX(f:Nat->Option eE):Nat->Option eE
 |0=>none
 |n+1=>match n with
  |0=>f 0
  |n=>match brX f n with
   |some (.r a)=>match f n with
    |some (.r b)=>match R.same a b with
     |true=>some (.r a)
     |false=>none
    |_=>none
   |_=>none
theorem MU{f:Nat->Option eE}{a:eE}:∀ {n:Nat},brX f n=some a->∀i,i<n->f i=some a
 |0,h,_,_=>by cases h
 |1,h,i,hi=>by obtain rfl:i=0:=af
               exact h
 |n+2,h,i,hi=>by
  simp only[brX]at h
  split at h
  ·rename_i x hx
   split at h
   ·rename_i y hy
    split at h
    ·rename_i he
     have e:=R.ei he
     subst e
     rw[<- h]
     by_cases e:i=n+1
     ·subst e;exact hy
     ·exact MU hx i af
    ·cases h
   ·cases h
  ·cases h
noncomputable def QC(st:St)(dst:Option Nat)(kr:RO->Option eE)(v:V)(Δ:List (Nat×ad)):Option eE:=
 mC st.env dst v fun e=>wy st.o Δ fun ob=>Nat.fc (st.nx+1) fun n=>kr (.ok ⟨e,ob,n⟩)
noncomputable def MV(x:Operand)(str:Bool)(P:Program)(_:Nat->FD)(_:rb P)(_:dH)(st:St)(o:b7)(kr:RO->Option eE):Option eE:=
 match pq st.o.get (st.S.ev x)with
 |some (id,l)=>match str with
  |true=>none
  |false=>match l with
   |[]=>QC st o.dst kr (.bY [.d (.bool false)]) []
   |_=>brX (fun i=>match l[i]? with
    |some (k,x)=>QC st o.dst kr (.bY [.d (.bool true), .d k, .d x]) [(id, .rW (l.eraseIdx i) (some (k,x)))]
    |none=>none) l.length
 |none=>zh P st o kr
noncomputable def opK(op:Op):(P:Program)->(Nat->FD)->rb P->dH->St->b7->(RO->Option eE)->Option eE:=
 match op with
 | .call c=>MT c
 | .panic x=>Xc x
 | .next x str=>MV x str
 |_=>acZ
noncomputable def opX(P:Program)(tab:Nat->FD)(md:rb P)(rec:dH)(st:St)(o:b7)(kr:RO->Option eE):Option eE:=opK o.op P tab md rec st o kr
noncomputable def roK(next:St->Option eE)(kr:RO->Option eE):RO->Option eE:=fun r=>match r with| .ok st=>next st| .bN v st=>kr (.bN v st)
noncomputable def AW(P:Program)(tab:Nat->FD)(md:rb P)(rec:dH)(kr:RO->Option eE):List b7->St->Option eE
 |[],st=>kr (.ok st)
 |o::l,st=>match(match o.gd with
   |none=>some true
   |some (d,want)=>match st.env.get d with
    | .d (.bool b)=>some (b==want)
    | .bY []=>some false
    |_=>none)with
  |some true=>opX P tab md rec st o (roK (AW P tab md rec kr l) kr)
  |some false=>mC st.env o.dst (.bY []) fun e=>Nat.fc (st.nx+1) fun n=>AW P tab md rec kr l ⟨e,st.o,n⟩
  |none=>none
section
variable {P:Program}{tab:Nat->FD}{md:rb P}
noncomputable def eL(P:Program)(rec:dH):Prop:=∀b rd n ic st k a,rec b rd n ic st k=some a->∀Q:fK->S->Prop,(∀e st',k e st'=some a->Q e st'.S)->uP P n b rd ic Q st.S
theorem uT{rs:List ResultVar}{st:St}{kc:CR->Option eE}{a:eE}(h:JQ P rs st kc=some a){K X:V->(Nat->ad)->Nat->Prop}(hr:∀r,kc r=some a->r.to K X):mo P rs K X .ret st.S:=by
 unfold JQ at h
 unfold mo
 split at h
 ·rename_i v hv;simp only[hv];exact hr _ h
 ·rename_i vs hv hn
  simp only[hn]
  exact hr _ h
 ·cases h
theorem nM(bf:P.follows .mixedOrders=true)(cN:∀g,(tab g).Ok P g){rec:dH}(bI:eL P rec){g:Nat}{args:List V}{o:Tr ad}{nx:Nat}{kc:CR->Option eE}{a:eE}(h:MN P tab rec g args o nx kc=some a){K X:V->(Nat->ad)->Nat->Prop}(hr:∀r,kc r=some a->r.to K X):
 bP P g args o.get nx K X:=by
 have aY:=cN g
 unfold MN at h
 split at h
 ·rename_i n ic rs ht
  rw[ht]at aY
  split at h
  ·rename_i hl
   refine bP.we bf aY hl ?_
   refine bI _ _ _ _ _ _ _ h _ fun e st he=> ?_
   unfold T9 at he
   cases e with
   |normal=>exact uT he hr
   |ret=>exact uT he hr
   |bN v=>exact hr _ he
   |exit j=>cases he
  ·cases h
 ·rename_i n jS fq g' t fE rs m r0 r1 zf ht
  rw[ht]at aY
  split at h
  ·rename_i hl
   refine bP.Di bf aY.1 aY.2 hl (bI _ _ _ _ _ _ _ h _ fun e s1 he=> ?_)
   unfold Ht at he
   cases e with
   |normal=>
    have hb:uP P n s1.nx false fq (AU P m r0 r1 zf (fE.map s1.S.ev) rs K X) ⟨ay s1.env.get t (.func (.func g') [] (fE.map s1.S.ev)),s1.o.get,s1.nx⟩:=by
     have:=bI _ _ _ _ _ _ _ he (AU P m r0 r1 zf (fE.map s1.S.ev) rs K X) (fun e s3 Z8=>by
      unfold MM at Z8
      split at Z8
      ·rename_i u hu
       split at Z8
       ·rename_i rZ
        have hrw:Fu P m r0 r1 zf (fE.map s1.S.ev) u s3.o.get s3.nx fun o nx=>mo P rs K X .ret ⟨s3.env.get,o,nx⟩:=by
         refine⟨rZ,bI _ _ _ _ _ _ _ Z8 _ fun e4 s4 he4=> ?_⟩
         unfold ML at he4
         cases e4 with
         |normal=>exact uT (st:=⟨s3.env,s4.o,s4.nx⟩) he4 hr
         |ret=>exact uT (st:=⟨s3.env,s4.o,s4.nx⟩) he4 hr
         |_=>cases he4
        cases e<;>simp only[acY,Option.some.injEq,reduceCtorEq]at hu<;>subst hu<;>exact hrw
       ·cases Z8
      ·cases Z8)
     simp only[St.S,Tr.gZ]at this
     exact this
    exact hb
   |_=>cases he
  ·cases h
 ·rename_i ht
  rw[ht]at aY
  split at h
  ·split at h
   ·rename_i kt vt l ho
    have h2:=hr _ h
    simp only[CR.to,Tr.gZ]at h2
    exact bP.W3 aY ho h2
   ·rename_i l ho
    have h2:=hr _ h
    simp only[CR.to,Tr.gZ]at h2
    exact bP.Ho aY ho h2
   ·cases h
  ·cases h
 ·cases h
theorem MW{r:CR}{out:R}(ho:Hu r=some out):r.to (fun v o _=>∃vs rs,v=(match vs with|[v]=>v|vs=> .bY vs)/\cm o vs=some rs/\out= .ret rs) (fun v o _=>∃x,dM o v=some x/\out= .bN x):=by
 unfold Hu at ho
 split at ho
 ·rename_i v o nx
  split at ho
  ·cases ho
  ·rename_i hv
   split at ho
   ·rename_i rs hrs
    injection ho with ho;subst ho
    refine⟨wz v,rs, ?_,hrs,rfl⟩
    cases v with
    |bY vs=>
     match vs,hv with
     |[],_=>rfl
     |[x],hv=>exact absurd rfl (hv x)
     |_::_::_,_=>rfl
    |_=>rfl
   ·cases ho
 ·split at ho
  ·rename_i x hx
   injection ho with ho;subst ho
   exact⟨x,hx,rfl⟩
  ·cases ho
theorem Dm(bf:P.follows .mixedOrders=true)(cN:∀g,(tab g).Ok P g){rec:dH}(bI:eL P rec){g:Nat}{ds:List D}{out:R}(h:MN P tab rec g (ds.map .d) (.e fun _=> .no) 0 Dl=some (.r out)):aW P g ds out:=by
 refine aW.la (nM bf cN bI h fun r hr=> ?_)
 obtain⟨x,hx,he⟩:=MO hr
 injection he with he;subst he
 exact MW hx
theorem AX(bf:P.follows .mixedOrders=true)(cN:∀g,(tab g).Ok P g){rec:dH}(bI:eL P rec){g:Nat}{ds:List D}{out:R}(h:QB P tab md rec g ds=some out):aW P g ds out:=by
 unfold QB at h
 split at h
 ·rename_i ahw ho
  injection h with h;subst h
  exact md.ok _ _ _ ho
 ·split at h
  ·rename_i x hr;injection h with h;subst h;exact Dm bf cN bI hr
  ·cases h
theorem Dn(bf:P.follows .mixedOrders=true)(cN:∀g,(tab g).Ok P g){rec:dH}(bI:eL P rec){g:Nat}{args:List V}{o:Tr ad}{nx:Nat}{kc:CR->Option eE}{a:eE}(h:Hv P tab md rec g args o nx kc=some a){K X:V->(Nat->ad)->Nat->Prop}(hr:∀r,kc r=some a->r.to K X):
 TD P g args o.get nx K X:=by
 unfold Hv at h
 split at h
 ·rename_i ds hmd fj
  split at h
  ·rename_i out C9
   have hP:=AX bf cN bI C9
   refine .inl ⟨ds,fj,out,hP, ?_⟩
   unfold Ua at h
   split at h
   ·rename_i hf
    refine .inr (.inl ⟨hf, ?_⟩)
    cases out<;>exact hr _ h
   ·split at h
    ·rename_i hf
     refine .inr (.inr ⟨hf, ?_⟩)
     rw[<- j9]
     cases out<;>exact hr _ h
    ·refine .inl ?_
     rw[<- j9]
     cases out<;>exact hr _ h
  ·cases h
 ·exact .inr (nM bf cN bI h hr)
theorem QD(bf:P.follows .mixedOrders=true){rec:dH}(bI:eL P rec){id:Nat}{args:List V}{o:Tr ad}{nx:Nat}{kc:CR->Option eE}{a:eE}(h:Xb P rec id args o nx kc=some a){K X:V->(Nat->ad)->Nat->Prop}(hr:∀r,kc r=some a->r.to K X):
 dQ P id args o.get nx K X:=by
 unfold Xb at h
 split at h
 ·rename_i nf n env ps jS fq st pd ho
  split at h
  ·rename_i hc
   obtain⟨rfl,cq,Ft,hl⟩:=hc
   refine dQ.we bf ho cq Ft hl ?_
   refine bI _ _ _ _ _ _ _ h _ fun e s1 he=> ?_
   unfold Hw at he
   cases e with
   |normal=>
    simp only at he
    split at he
    ·rename_i nf m en p c d pd qn
     refine⟨nf,m,en,p,c,d,pd,qn, ?_⟩
     have:=bI _ _ _ _ _ _ _ he (lB id K X) (fun e s2 h2=>by
      unfold MR at h2
      split at h2
      ·exact hr _ h2
      ·rename_i Tw
       split at h2
       ·rename_i nf' m' en' p' c' d' st' pd' Xd
        cases e with
        |bN v=>cases h2
        |normal=>have h3:=hr _ h2;simp only[CR.to,Tr.gZ]at h3;exact⟨nf',m',en',p',c',d',st',pd',Xd,h3⟩
        |ret=>have h3:=hr _ h2;simp only[CR.to,Tr.gZ]at h3;exact⟨nf',m',en',p',c',d',st',pd',Xd,h3⟩
        |exit j=>have h3:=hr _ h2;simp only[CR.to,Tr.gZ]at h3;exact⟨nf',m',en',p',c',d',st',pd',Xd,h3⟩
       ·cases h2)
     simp only[St.S,Tr.gZ]at this
     exact this
    ·cases he
   |bN v=>exact hr _ he
   |_=>cases he
  ·cases h
 ·cases h
theorem wA{st:St}{o:b7}{kr:RO->Option eE}{a:eE}(h:zh P st o kr=some a){K:S->Prop}{X:V->S->Prop}(hr:∀r,kr r=some a->r.to K X):match gM P st.S st.S.nx o.op with
 |some (v,Δ,_)=>K ⟨a8 st.S.env o.dst v,put st.S.o Δ,st.S.nx+1⟩
 |none=>False:=by
 unfold zh at h
 split at h
 ·rename_i v Δ rd he
  have he:=Hs he
  simp only[jE,nL,Nat.de]at h
  have hr:=hr _ h
  simp only[RO.to,St.S,jw,j9]at hr
  have ql:gM P st.S st.S.nx o.op=some (v,Δ,rd):=he
  simp only[ql]
  exact hr
 ·cases h
theorem Hy{st:St}{dst:Option Nat}{kr:RO->Option eE}{v:V}{Δ:List (Nat×ad)}{a:eE}(h:QC st dst kr v Δ=some a){K:S->Prop}{X:V->S->Prop}(hr:∀r,kr r=some a->r.to K X):K ⟨a8 st.S.env dst v,put st.S.o Δ,st.S.nx+1⟩:=by
 unfold QC at h
 simp only[jE,nL,Nat.de]at h
 have hr:=hr _ h
 simp only[RO.to,St.S,jw,j9]at hr
 exact hr
theorem Xe(bf:P.follows .mixedOrders=true)(cN:∀g,(tab g).Ok P g){rec:dH}(bI:eL P rec){st:St}{o:b7}{kr:RO->Option eE}{a:eE}(h:opX P tab md rec st o kr=some a){K:S->Prop}{X:V->S->Prop}(hr:∀r,kr r=some a->r.to K X):KL P st.S o X K:=by
 have cr:∀r,crX st o.dst kr r=some a->r.to (fun v o' nx'=>K ⟨a8 st.S.env o.dst v,o',nx'⟩) (fun v o' nx'=>X v ⟨st.S.env,o',nx'⟩):=by
  intro r hx
  unfold crX at hx
  split at hx
  ·simp only[jE,Nat.de]at hx
   have hr:=hr _ hx
   simp only[RO.to,St.S,jw]at hr
   exact hr
  ·exact hr _ hx
 unfold opX at h
 unfold KL
 cases gy:o.op
 case call c=>
  rw[gy]at h
  have h:MT c P tab md rec st o kr=some a:=h
  unfold MT at h
  cases hf:c.callee
  case value f=>
   simp only[hf]at h|-
   split at h
   ·rename_i g first cap hv
    simp only[hv]
    have:=Dn bf cN bI h cr
    rcases this with⟨ds,fj,hP⟩|hC
    ·have Xf:cm st.S.o (first++List.map st.S.ev c.args.toList++cap)=some ds:=fj
     simp only[Xf]
     exact .inl hP
    ·split
     ·exact .inr (.inl hC)
     ·exact .inl hC
   ·rename_i id hv
    simp only[hv]
    exact QD bf bI h cr
   ·cases h
  case invoke r m=>
   simp only[hf]at h|-
   split at h
   ·rename_i g y hv
    simp only[hv]
    exact Dn bf cN bI h cr
   ·cases h
  all_goals
   simp only[hf]at h|-
   have:=wA h hr
   rw[gy]at this
   exact this
 case panic x=>
  rw[gy]at h
  have h:Xc x P tab md rec st o kr=some a:=h
  unfold Xc at h
  split at h
  ·rename_i hv;simp only[hv];exact hr _ h
  ·rename_i hv;simp only[hv];exact hr _ h
  ·cases h
 case next x str=>
  rw[gy]at h
  have h:MV x str P tab md rec st o kr=some a:=h
  unfold MV at h
  have hl:pq st.S.o (st.S.ev x)=pq st.o.get (st.S.ev x):=rfl
  simp only[hl]
  split at h
  ·rename_i id l aw
   simp only[aw]
   cases str with
   |true=>cases h
   |false=>
    refine⟨rfl,fun e=> ?_,fun i k y e=> ?_⟩
    ·subst e
     exact Hy h hr
    ·cases l with
     |nil=>simp at e
     |cons p l=>
      have:=MU h i (List.getElem?_eq_some_iff.1 e).1
      rw[e]at this
      exact Hy this hr
  ·rename_i aw
   simp only[aw]
   have:=wA h hr
   rw[gy]at this
   exact this
 all_goals
  have h2:zh P st o kr=some a:=by rw[gy]at h;exact h
  have:=wA h2 hr
  rw[gy]at this
  exact this
theorem uU(bf:P.follows .mixedOrders=true)(cN:∀g,(tab g).Ok P g){rec:dH}(bI:eL P rec){kr:RO->Option eE}{a:eE}{K:S->Prop}{X:V->S->Prop}(hr:∀r,kr r=some a->r.to K X):∀ (l:List b7) (st:St),AW P tab md rec kr l st=some a->pQ P X K l st.S
 |[],st,h=>hr (.ok st) h
 |o::l,st,h=>by
  simp only[AW,jE,Nat.de]at h
  simp only[pQ]
  have op:opX P tab md rec st o (roK (AW P tab md rec kr l) kr)=some a->KL P st.S o X (pQ P X K l):=by
   intro h
   refine Xe bf cN bI h fun r hrr=> ?_
   cases r with
   |ok Xg=>exact uU bf cN bI hr l Xg hrr
   |bN v Xg=>exact hr (.bN v Xg) hrr
  have sk:AW P tab md rec kr l ⟨tS st.env o.dst (.bY []),st.o,st.nx+1⟩=some a->pQ P X K l ⟨a8 st.S.env o.dst (.bY []),st.S.o,st.S.nx+1⟩:=by
   intro h
   have:=uU bf cN bI hr l _ h
   exact LI
  cases hg:o.gd with
  |none=>simp only[hg]at h;exact op h
  |some p=>
   obtain⟨d,want⟩:=p
   simp only[hg]at h
   have he:st.S.env d=st.env.get d:=rfl
   simp only[he]
   cases hv:st.env.get d with
   |d x=>
    cases x with
    |bool b=>
     simp only[hv]at h|-
     by_cases e:b=want
     ·subst e
      simp only[beq_self_eq_true]at h
      rw[if_pos rfl];exact op h
     ·have:(b==want)=false:=by simpa using e
      rw[this]at h
      rw[if_neg e];exact sk h
    |_=>simp[hv]at h
   |bY vs=>
    cases vs with
    |nil=>simp only[hv]at h|-;exact sk h
    |cons a ct=>simp[hv]at h
   |_=>simp[hv]at h
end
end
end Go.Proofs.YtlhemmpklhhgoaaGreat
