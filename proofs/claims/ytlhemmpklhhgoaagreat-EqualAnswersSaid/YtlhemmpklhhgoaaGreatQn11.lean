/-
  A PART OF THE PROOF. Conditions: none.
-/
import Derived.Test.YtlhemmpklhhgoaaGreatQn10
set_option linter.unusedSimpArgs false
set_option linter.unusedVariables false
namespace Go.Proofs.YtlhemmpklhhgoaaGreat
section
def WZ(ops:Array Oper)(t t1:Nat):Prop:=
 (∃o1 o2,ops=#[o1,o2]/\o1.op= .call ⟨.builtin .recover,#[],#[]⟩/\o1.dst=some t/\o1.guard=none/\o2.op= .assign (.tmp t)/\o2.dst=some t1/\o2.guard=none)\/
 (∃o1,ops=#[o1]/\t1=t/\o1.op= .call ⟨.builtin .recover,#[],#[]⟩/\o1.dst=some t/\o1.guard=none)
structure Dj (P:Program) (g:FuncId) (n t t1:Nat) (ic:IC):Prop where
 get:∃fn id ops c,P.funcs[g]? =some fn/\(fn.name== "runtime.NumGoroutine")=false/\fn.ntmps=n/\fn.results=#[]/\fn.body=some (.seq (.region id ops false) c)/\
  WZ ops t t1/\t<n/\t1<n/\low n c=ic
structure Hz (P:Program) (f:FuncId) (n:Nat) (jV fG:IC) (g:FuncId) (t:Nat) (bR:List Operand) (rs:List ResultVar):Prop where
 get:∃fn id o1 o2 a b d,P.funcs[f]? =some fn/\(fn.name== "runtime.NumGoroutine")=false/\fn.ntmps=n/\fn.results.toList=rs/\fn.body=some (.seq a d)/\(d= .seq (.region id #[o1,o2] false) b\/d= .scope (.seq (.region id #[o1,o2] false) b))/\
  o1.op= .makeFunc (.func g) #[] bR.toArray/\o1.dst=some t/\o1.guard=none/\o2.op= .defer ⟨.value (.tmp t),#[],#[]⟩/\o2.dst=none/\o2.guard=none/\t<n/\low n a=jV/\low n b=fG
def JY(K:(Nat->ab)->Nat->Prop)(e:fS)(s:S):Prop:=match e with| .normal| .ret=>K s.o s.nx|_=>False
def FH(P:Program)(n t t1:Nat)(ic:IC)(bR:List V)(u:V)(o:Nat->ab)(nx:Nat)(K:(Nat->ab)->Nat->Prop):Prop:=
 bR.length<=n/\uU P n nx true ic (JY K) ⟨ay (ay (cB bR) t u) t1 u,o,nx⟩
def A6(P:Program)(n t t1:Nat)(ic:IC)(bR:List V)(rs:List ResultVar)(K X:V->(Nat->ab)->Nat->Prop)(e:fS)(s:S):Prop:=
 match e with
 | .normal| .ret=>FH P n t t1 ic bR (.d .fg) s.o s.nx fun o nx=>mF P rs K X .ret ⟨s.env,o,nx⟩
 | .bN v=>FH P n t t1 ic bR v s.o s.nx fun o nx=>mF P rs K X .ret ⟨s.env,o,nx⟩
 | .exit _=>False
def Dk(P:Program)(n t:Nat)(fG:IC)(fM:List Operand)(g:FuncId)(D:List V->fS->S->Prop)(e:fS)(s:S):Prop:=
 match e with
 | .normal=>uU P n s.nx false fG (D (fM.map s.ev)) ⟨ay s.env t (.func (.func g) [] (fM.map s.ev)),s.o,s.nx⟩
 |_=>False
section
variable {P:Program}{M:Nat->Prop}{φ cS:Place}{H H0:Hp}{w w0:World}{n:Nat}{s:S}{a:Act}{cx:Cx}{k:Nat}
theorem JZ(bn:P.follows .mixedOrders=true){g:FuncId}{t t1:Nat}{ic:IC}(hg:Dj P g n t t1 ic){bR:List V}{u:V}{o:Nat->ab}{nx:Nat}{K:(Nat->ab)->Nat->Prop}(h:FH P n t t1 ic bR u o nx K)
 {vals:Array Value} {val:Value} {m:FrameMode} (hH:az M φ (hp o nx) w) (hd:V.aF (aq M φ (hp o nx)) φ (hp o nx) w bR vals.toList) (hv:V.den (aq M φ (hp o nx)) φ (hp o nx) w u val)
 (hm:(m= .returning/\val= .nilIface)\/m= .panicking [{v:=val,recovered:=false}]):
 CallsDIn (dT none) k P g vals m w fun e u' w'=>∃v aJ o' nx',e= .returned v/\settle u'= .returning/\az M aJ (hp o' nx') w'/\Trans φ (hp o nx) w aJ (hp o' nx') w'/\K o' nx':=by
 obtain⟨fn,id,ops,c,hf,T0,hnt,CJ,rm,LP,ht,EF,sV⟩:=hg.get
 have cu:g<P.funcs.size:=(Array.getElem?_eq_some_iff.1 hf).1
 obtain⟨su,h⟩:=h
 have hlen:=V.aC _ _ hd
 refine⟨trivial,fun qn cs MJ Ti=> ?_⟩
 let b:Frame:={(default:Frame)with fn:=g,kind:= .deferred,roundOf:=none}
 let uX:Array Value:=vals++Array.replicate (fn.ntmps - vals.size) undef
 have agd:uX.size=n:=by simp only[uX,Array.size_append,Array.size_replicate];simp at hlen;omega
 have mE:Frame.enter P g vals .deferred=b.atR {tmps:=uX,defers:=[]} [.code (.seq (.region id ops false) c)]:=by
  simp[Frame.enter,Frame.atR,hf,rm,b,uX]
 obtain⟨m',hm',bJ⟩:∃m',settle m'= .returning/\((recoverD (qn::cs)=none/\m'=m/\val= .nilIface)\/recoverD (qn::cs)=some (val,{qn with mode:=m'}::cs)):=by
  rcases hm with⟨rfl,rfl⟩|rfl
  ·exact⟨.returning,rfl, .inl ⟨by simp[recoverD,MJ],rfl,rfl⟩⟩
  ·exact⟨.panicking [{v:=val,recovered:=true}],rfl, .inr (by simp[recoverD,MJ])⟩
 have hc0:({qn with mode:=m}:Frame)=qn:=by subst MJ;rfl
 let a1:Act:={tmps:=(uX.setIfInBounds t val).setIfInBounds t1 val,defers:=[]}
 have Qd:(Code.region id ops false).wpSIn (dT none) k P (fun e a' cs' w'=>e= .normal/\a'=a1/\cs'={qn with mode:=m'}::cs/\w'=w) {tmps:=uX,defers:=[]} (qn::cs) w:=by
  rcases LP with⟨o1,o2,rfl,e1,e2,e3,e4,e5,e6⟩|⟨o1,rfl,rfl,e1,e2,e3⟩
  ·refine wpSIn_region ?_
   have hr:List.range (#[o1,o2]:Array Oper).size=[0,1]:=rfl
   have g0:(#[o1,o2]:Array Oper)[0]? =some o1:=rfl
   have g1:(#[o1,o2]:Array Oper)[1]? =some o2:=rfl
   rw[hr]
   have x1:∀ (ρ:Operand->Value) (w:World),(execOp ρ o1).run P w= .ok .recover w:=by
    intro ρ w
    simp[execOp,e1,resolve,invoke,builtin]
   have x2:∀ (ρ:Operand->Value) (w:World),(execOp ρ o2).run P w= .ok (.value (ρ (.tmp t))) w:=by
    intro ρ w
    simp[execOp,e4]
   have last:∀cs',cs'={qn with mode:=m'}::cs->wpOpsSIn (dT none) k P #[o1,o2] (fun e a' cs' w'=>e= .normal/\a'=a1/\cs'={qn with mode:=m'}::cs/\w'=w) [1] (({tmps:=uX,defers:=[]}:Act).put (some t) val) cs' w:=by
    rintro cs' rfl
    have hw:Region.wanted o2 (yielded #[o1,o2] (({tmps:=uX,defers:=[]}:Act).put (some t) val).tmps)=true:=by simp[Region.wanted,e6]
    have dw:(({tmps:=uX,defers:=[]}:Act).put (some t) val).eval (.tmp t)=val:=by
     have:t<uX.size:=af
     simp[Act.put,Act.eval,Array.getD,this]
    simp only[wpOpsSIn,g1,hw,if_true,x2,dw,e5]
    refine⟨fun _ _=>trivial, ?_⟩
    simp[a1,Act.put]
   have hw:Region.wanted o1 (yielded #[o1,o2] uX)=true:=by simp[Region.wanted,e3]
   rw[wpOpsSIn,g0]
   refine⟨fun _ _=>trivial, ?_⟩
   simp only[hw,if_true,x1,e2]
   rcases bJ with⟨hr,rfl,rfl⟩|hr
   ·simp only[hr]
    exact last _ (by rw[hc0])
   ·simp only[hr]
    exact last _ rfl
  ·refine wpSIn_region ?_
   have hr:List.range (#[o1]:Array Oper).size=[0]:=rfl
   have g0:(#[o1]:Array Oper)[0]? =some o1:=rfl
   rw[hr]
   have x1:∀ (ρ:Operand->Value) (w:World),(execOp ρ o1).run P w= .ok .recover w:=by
    intro ρ w
    simp[execOp,e1,resolve,invoke,builtin]
   have same:a1=({tmps:=uX,defers:=[]}:Act).put (some t1) val:=by
    simp only[a1,Act.put]
    congr 1
    apply Array.ext_getElem?
    intro j
    simp only[Array.getElem?_setIfInBounds]
    by_cases hj:t1=j
    ·subst hj;simp
    ·simp[hj]
   have last:∀cs',cs'={qn with mode:=m'}::cs->wpOpsSIn (dT none) k P #[o1] (fun e a' cs' w'=>e= .normal/\a'=a1/\cs'={qn with mode:=m'}::cs/\w'=w) [] (({tmps:=uX,defers:=[]}:Act).put (some t1) val) cs' w:=by
    rintro cs' rfl
    simp only[wpOpsSIn]
    exact⟨trivial,same.symm,trivial,trivial⟩
   have hw:Region.wanted o1 (yielded #[o1] uX)=true:=by simp[Region.wanted,e3]
   rw[wpOpsSIn,g0]
   refine⟨fun _ _=>trivial, ?_⟩
   simp only[hw,if_true,x1,e2]
   rcases bJ with⟨hr,rfl,rfl⟩|hr
   ·simp only[hr]
    exact last _ (by rw[hc0])
   ·simp only[hr]
    exact last _ rfl
 obtain⟨er,ar,csr,wr,hl,⟨rfl,rfl,rfl,hwr⟩,dy⟩:=Qd b [.code c] rfl rfl trivial (fun d hd=>by simp[dT]at hd)
 rw[hwr]at dy
 let s0:S:=⟨ay (ay (cB bR) t u) t1 u,o,nx⟩
 have nm:cq M φ (hp o nx) w n ⟨[],true⟩ φ s0 a1 w:=by
  refine⟨hH,Trans.refl _ _ _,by simp[a1,agd],⟨[],rfl,List.nodup_nil,fun _=>rfl,fun r hr=>by cases hr⟩,fun i=> ?_⟩
  have eD:=B8 (m:=fn.ntmps - vals.size) hd i
  simp only[s0,a1,aN]
  have ht0:t<uX.size:=af
  have age:t1<uX.size:=af
  by_cases h1:i=t1
  ·subst h1
   simp only[if_true]
   have:((uX.setIfInBounds t val).setIfInBounds i val).getD i undef=val:=by simp[Array.getD,age]
   rw[this];exact hv
  ·simp only[h1,if_false]
   have e1:((uX.setIfInBounds t val).setIfInBounds t1 val).getD i undef=(uX.setIfInBounds t val).getD i undef:=by
    exact SR
   rw[e1]
   by_cases h2:i=t
   ·subst h2
    simp only[if_true]
    have:(uX.setIfInBounds i val).getD i undef=val:=by simp[Array.getD,ht0]
    rw[this];exact hv
   ·simp only[h2,if_false]
    have e1:(uX.setIfInBounds t val).getD i undef=uX.getD i undef:=by
     simp only[Array.getD_eq_getD_getElem?]
     rw[Array.getElem?_setIfInBounds_ne (Ne.symm h2)]
    rw[e1];exact eD
 have hcw:=iQ (P:=P) (n:=n) (b:=nx) (rd:=true) bn c _ _ s0 (fun _ _ h=>h) (by rw[sV];exact h)
 obtain⟨e,a',w',⟨x,s',aJ,hq,jU,hx⟩,Hh⟩:=iL (P:=P) (H0:=hp o nx) (b:=nx) (cx:=⟨[],true⟩) (ro:=none) (fun id hu=>hu) (fun h=>by cases h) c _ s0 φ a1 w hcw nm b [] ({qn with mode:=m'}::cs) rfl cu
 have i0:(lone (b.atR {tmps:=uX,defers:=[]} [.code (.seq (.region id ops false) c)]) (qn::cs) w).fenced P (dT none):=fenced_calm (n:=0) trivial gZ rfl
 have T1:StepsIn (Machine.fenced P (dT none)) P (lone (b.atR {tmps:=uX,defers:=[]} [.code (.seq (.region id ops false) c)]) (qn::cs) w) (lone (b.atR a1 [.code c]) ({qn with mode:=m'}::cs) w):= .head i0 stepR_seq dy
 have wu:a'.defers=[]:=by
  obtain⟨ms,g1,_,g3,_⟩:=jU.defers
  rw[g3 rfl]at g1;exact g1
 have acK:∀tm:Array Value,∃v,(results fn tm).run P w'= .ok v w':=by
  intro tm
  refine⟨_,nJ (vals:=[]) ?_⟩
  rw[CJ];rfl
 rw[mE]
 obtain⟨v,qH⟩:=acK a'.tmps
 cases e<;>cases x<;>first|(exact hx.elim)|(exact hq.elim)|skip
 ·exact⟨.returned v,m',w',_,⟨v,aJ,s'.o,s'.nx,rfl,hm',jU.heap,jU.tr,hq⟩,StepsIn.trans T1 (StepsIn.trans Hh (.one (fenced_calm (n:=0) (fr:=b.atR a' []) trivial gZ rfl) (stepR_end rfl))),rfl,rfl,rfl,wu,fn,hf,qH⟩
 ·obtain⟨todo,hs⟩:=Hh.1 rfl
  exact⟨.returned v,m',w',_,⟨v,aJ,s'.o,s'.nx,rfl,hm',jU.heap,jU.tr,hq⟩,StepsIn.trans T1 hs,rfl,rfl,rfl,wu,fn,hf,qH⟩
theorem Dl{d c:Code}{ro:Option Nat}{Q:Exit->Act->World->Prop}{a:Act}{w:World}(h:d=c\/d= .scope c)(hg:∀l a w, ¬Q (.goto l) a w)(hc:c.uB P ro Q a w):d.uB P ro Q a w:=by
 rcases h with rfl|rfl
 ·exact hc
 ·exact yY hc hg
theorem bQ.Dm (bn:P.follows .mixedOrders=true){f g:FuncId}{jV fG zu:IC}{t m r r1:Nat}{fM:List Operand}{rs:List ResultVar}(hf:Hz P f n jV fG g t fM rs)(hg:Dj P g m r r1 zu)
 {args:List V} {o:Nat->ab} {nx:Nat} {K X:V->(Nat->ab)->Nat->Prop} (hl:args.length<=n)
 (h:uU P n nx true jV (Dk P n t fG fM g fun bR=>A6 P m r r1 zu bR rs K X) ⟨cB args,o,nx⟩):bQ P f args o nx K X:=by
 obtain⟨fn,id,o1,o2,ca,cb,cd,KH,T0,hnt,CJ,rm,hsc,e1,e2,e3,e4,e5,e6,ht,hla,L4⟩:=hf.get
 obtain⟨gn,_,_,gc,ta,W0,_,_,W1,_⟩:=hg.get
 refine⟨⟨fn,KH,T0,by rw[rm];rfl⟩,fun M φ w vals hH hd=> ?_⟩
 have hlen:=V.aC _ _ hd
 let s0:S:=⟨cB args,o,nx⟩
 let a0:Act:={tmps:=vals++Array.replicate (fn.ntmps - vals.size) undef,defers:=[]}
 have nm:cq M φ (hp o nx) w n ⟨[],true⟩ φ s0 a0 w:=by
  exact abC
 have ha:=iQ (P:=P) (n:=n) (b:=nx) (rd:=true) bn ca _ _ s0 (fun _ _ h=>h) (by rw[hla];exact h)
 refine CE (ro:=none) (k:=0) (nK KH rm (AH (hO (iL (P:=P) (H0:=hp o nx) (b:=nx) (cx:=⟨[],true⟩) (ro:=none) (fun id hu=>hu) (fun h=>by cases h) ca _ s0 φ a0 w ha nm) ?_)))
 rintro e a1 w1 ⟨x,s1,jn,hq,sw,hm⟩
 cases e<;>cases x<;>first|(exact hm.elim)|(exact hq.elim)|skip
 have wu:a1.defers=[]:=by
  obtain⟨ms,g1,_,g3,_⟩:=sw.defers
  rw[g3 rfl]at g1;exact g1
 let cv:Array Value:=(fM.map a1.eval).toArray
 let fv:Value:= .func (.func g) #[] cv
 let dd:Deferred:={target:= .fn (.func g) cv,args:=#[]}
 let a2:Act:={tmps:=a1.tmps.setIfInBounds t fv,defers:=[dd]}
 have T2:V.aF (aq M jn s1.H) jn s1.H w1 (fM.map s1.ev) cv.toList:=by
  simpa[cv]using kO (M:=M) (φ:=jn) (H:=s1.H) (w:=w1) s1 a1 sw.env fM
 refine Dl hsc (fun l a w h=> ?_) ?_
 ·exact h.elim
 refine AH (hO (Q:=fun e a w=>e= .normal/\a=a2/\w=w1) (qh (k:=0) (wpIn_region_list ?_)) ?_)
 ·have y1:Region.wanted o1 (yielded #[o1,o2] a1.tmps)=true:=by simp[Region.wanted,e3]
  have y2:∀tm,Region.wanted o2 (yielded #[o1,o2] tm)=true:=by intro tm;simp[Region.wanted,e6]
  have dw:(a1.put (some t) fv).eval (.tmp t)=fv:=by
   have:t<a1.tmps.size:=by rw[sw.size];exact ht
   simp[Act.put,Act.eval,Array.getD,this]
  show wpListIn (dT none) 0 P #[o1,o2] _ [o1,o2] a1 w1
  unfold wpListIn
  rw[if_pos y1]
  have x1:(execOp a1.eval o1).run P w1= .ok (.value fv) w1:=by simp[execOp,e1,fv,cv,Instr.makeFunc]
  refine kS (fun c hc=>by rw[e1]at hc;cases hc) ?_
  rw[x1]
  show wpListIn (dT none) 0 P #[o1,o2] _ [o2] (a1.put o1.dst fv) w1
  rw[e2]
  unfold wpListIn
  rw[if_pos (y2 _)]
  have x2:(execOp (a1.put (some t) fv).eval o2).run P w1= .ok (.defer dd) w1:=by
   simp[execOp,e4,resolve,dw,Deferred.ofValue,fv,dd]
  refine⟨fun _ _=>trivial, ?_⟩
  have:(o2.semAt (dT none).round (a1.put (some t) fv).eval)=execOp (a1.put (some t) fv).eval o2:=rfl
  rw[this,x2]
  unfold Oper.uponIn
  simp only[e5,wpListIn,Act.put,wu,a2,and_self]
 rintro e a w2 ⟨rfl,rfl,rfl⟩
 have EF:t<a1.tmps.size:=by rw[sw.size];exact ht
 let s2:S:=⟨ay s1.env t (.func (.func g) [] (fM.map s1.ev)),s1.o,s1.nx⟩
 have Hi:cq M jn s1.H w2 n ⟨[dd],false⟩ jn s2 a2 w2:=by
  refine⟨sw.heap,Trans.refl _ _ _,by simp[a2,sw.size],⟨[],rfl,List.nodup_nil,fun _=>rfl,fun r hr=>by cases hr⟩,fun i=> ?_⟩
  simp only[s2,a2,aN]
  by_cases h1:i=t
  ·subst h1
   have:(a1.tmps.setIfInBounds i fv).getD i undef=fv:=by simp[Array.getD,EF]
   simp only[if_true];rw[this]
   exact⟨#[],cv,rfl,rfl,T2⟩
  ·have:(a1.tmps.setIfInBounds t fv).getD i undef=a1.tmps.getD i undef:=by
    exact SR
   simp only[h1,if_false];rw[this]
   exact sw.env i
 have hb:=iQ (P:=P) (n:=n) (b:=s1.nx) (rd:=false) bn cb _ _ s2 (fun _ _ h=>h) (by rw[L4];exact hq)
 refine hO (iL (P:=P) (H0:=s1.H) (b:=s1.nx) (cx:=⟨[dd],false⟩) (ro:=none) (fun id hu=>hu) (fun _=>rfl) cb _ s2 jn a2 w2 hb Hi) ?_
 rintro e a3 w3 ⟨x,s3,φ3,hq3,Hj,BN⟩
 obtain⟨ms,g1,g2,_,g4⟩:=Hj.defers
 have hinv:(invoke dd.target dd.args).run P=fun w=> .ok (.enter g cv) w:=by
  funext w
  have:=lX (w:=w) ⟨gn,ta,W0,by rw[W1];rfl⟩ cv
  simpa[dd,invoke]using this
 have last:∀ {w4:World} {tm:Array Value} {u:V} {val:Value} {m0:FrameMode},m0≠ .run->AK M jn s1.H w2 φ3 s3 a3.tmps w4->V.den (aq M φ3 s3.H) φ3 s3.H w4 u val->
  ((m0= .returning/\val= .nilIface)\/m0= .panicking [{v:=val,recovered:=false}])->
  (FH P m r r1 zu (fM.map s1.ev) u s3.o s3.nx fun o nx=>mF P rs K X .ret ⟨s3.env,o,nx⟩)->
  LeavesInM (dT none) 0 P fn a3.tmps (nF M φ (hp o nx) w K X) [dd] m0 w4:=by
  intro w4 tm u val m0 fI hB L1 hm0 bJ
  have W2:=V.aW hB.tr _ _ T2
  refine⟨fI, .inr ⟨fun h=>by simp[dT]at h, .func g,cv,g,cv,rfl,by rw[hinv],fun _ _=>trivial,CallsDIn.mono (JZ (k:=0 - 1) bn hg bJ (m:=m0) hB.heap W2 L1 hm0) ?_⟩⟩
  rintro e u' w5 ⟨v,φ5,o5,nx5,rfl,agf,k1,k2,k3⟩
  show LeavesInM (dT none) 0 P fn a3.tmps (nF M φ (hp o nx) w K X) [] (settle u') w5
  rw[agf]
  obtain⟨vs,h1,h2⟩:=CL k3
  rw[<- CJ]at h1
  have acL:∀i,V.den (aq M φ5 (hp o5 nx5)) φ5 (hp o5 nx5) w5 (s3.env i) (a3.tmps.getD i undef):=fun i=>V.aT k2 _ _ (hB.env i)
  obtain⟨ahq,h3,h4⟩:=uT (P:=P) (s:=⟨s3.env,o5,nx5⟩) (a:=a3) k1 acL _ _ h1
  exact⟨_,nJ h3,φ5,o5,nx5,_,k1,sw.tr.trans (hB.tr.trans k2),CM h4,h2⟩
 have done:FH P m r r1 zu (fM.map s1.ev) (.d .fg) s3.o s3.nx (fun o nx=>mF P rs K X .ret ⟨s3.env,o,nx⟩)->LeavesInM (dT none) 0 P fn a3.tmps (nF M φ (hp o nx) w K X) a3.defers .returning w3:=by
  intro bJ
  rw[g1]
  exact hU (P:=P) (k:=0) (fn:=fn) (R:=nF M φ (hp o nx) w K X) (u:= .returning) aE (ds:=[dd]) (fun w4 hB=>last (tm:=a3.tmps) aE hB (u:= .d .fg) (val:= .nilIface) (by simp[V.den,D.den]) (.inl ⟨rfl,rfl⟩) bJ) ms w3 g2 g4 Hj.toB
 cases e<;>cases x<;>first|(exact BN.elim)|skip
 ·exact done hq3
 ·exact hq3.elim
 ·exact done hq3
 ·rename_i v
  obtain⟨val,rfl,PZ⟩:=BN
  show LeavesInM (dT none) 0 P fn a3.tmps (nF M φ (hp o nx) w K X) a3.defers _ w3
  rw[g1]
  let acM:Nat->V:=fun i=>match i with|0=>v|i+1=>s3.env i
  have acN:(#[val]++a3.tmps).getD 0 undef=val:=by simp[Array.getD]
  have acO:∀i,(#[val]++a3.tmps).getD (i+1) undef=a3.tmps.getD i undef:=by
   intro i
   simp only[Array.getD_eq_getD_getElem?]
   rw[Array.getElem?_append_right (by simp)]
   simp
  have hb0:AK M jn s1.H w2 φ3 ⟨acM,s3.o,s3.nx⟩ (#[val]++a3.tmps) w3:=⟨Hj.heap,Hj.tr,fun i=>by
   cases i with
   |zero=>rw[acN];exact PZ
   |succ i=>rw[acO];exact Hj.env i⟩
  have acP:∀w4,AK M jn s1.H w2 φ3 ⟨acM,s3.o,s3.nx⟩ (#[val]++a3.tmps) w4->LeavesInM (dT none) 0 P fn a3.tmps (nF M φ (hp o nx) w K X) [dd] (.panicking [{v:=val,recovered:=false}]) w4:=by
   intro w4 hB
   have hv4:=hB.env 0
   rw[acN]at hv4
   refine last (tm:=a3.tmps) aE ⟨hB.heap,hB.tr,fun i=> ?_⟩ hv4 (.inr rfl) hq3
   have hs:=hB.env (i+1)
   rw[acO]at hs
   exact hs
  exact hU (P:=P) (k:=0) (fn:=fn) (R:=nF M φ (hp o nx) w K X) (u:= .panicking [{v:=val,recovered:=false}]) aE (ds:=[dd]) acP ms w3 g2 g4 hb0
end
end
theorem zd.FI {P:Program}{g:FuncId}{ds:List D}{o:Nat->ab}{fr:Nat}{ty:TypeId}{sz:Nat}{es:List D}
 (h:bQ P g (ds.map .d) (fun _=> .no) 0 (fun v o1 _=>(∃j ep,v= .osl j ep/\o1 j= .arr ep ty sz es)\/(v= .aw/\es=[]/\0<sz)) (fun _ _ _=>False)):
 zd P g (ds.map .d) [] o fr (.osl fr 0) [(fr, .arr 0 ty sz es)]:=by
 refine⟨h.1,fun o' us M φ w vals _ c9 hH hd=> ?_⟩
 let cS:Place:=fun _=> .nilFunc
 have uD:∀b, ¬cL cS (hp (fun _=> .no) 0) b:=by rintro b ⟨id,hl,_⟩;simp[hp,ab.live]at hl
 have hM:∀b,aq M φ ⟨o',us⟩ b->b<w.heap.size:=fun b hb=>hb.elim (hH.BM b) fun hl=>(hH.ours b hl).2
 have yI:=(V.cO _ _).1 hd
 refine(h.2 (aq M φ ⟨o',us⟩) cS w vals (oM cS hM) ((V.cO _ _).2 (D.aW (w:=w) (w':=w) (B:=aq M φ ⟨o',us⟩) (fun b _ hB=>⟨rfl,fun h=>h.elim hB (uD b)⟩) _ _ yI))).mono ?_
 rintro e w' ⟨jn,o1,n1,v,k1,k2,k3⟩
 have hk:eC (fun _=>False) w w':=⟨k2.cN.os,k2.cN.tape,k2.cN.output,k2.cN.size,fun k hk _=>k2.cN.block k hk (uD k)⟩
 have vr:(⟨o',us⟩:Hp).put [(fr, .arr 0 ty sz es)]=⟨put o' [(fr, .arr 0 ty sz es)],fun id=>us id\/id=fr⟩:=by
  simp only[Hp.put]
  congr 1
  funext id
  simp
 have fin:∀ (val:Value) (xs:List Value),(∀b,eA val=some b->w.heap.size<=b/\b<w'.heap.size)->0<sz->w'.ownsRow 0 ty sz val es.length xs->
  (eM (aq M (ay φ fr val) ((⟨o',us⟩:Hp).put [(fr, .arr 0 ty sz es)])) w' sz es xs)->
  val.oneCell'=true->
  ∃aJ,az M aJ ⟨put o' [(fr, .arr 0 ty sz es)],fun id=>us id\/id=fr⟩ w'/\Trans φ ⟨o',us⟩ w aJ ⟨put o' [(fr, .arr 0 ty sz es)],fun id=>us id\/id=fr⟩ w'/\
   ∃MK,Ending.returned val= .returned MK/\V.den (aq M aJ ⟨put o' [(fr, .arr 0 ty sz es)],fun id=>us id\/id=fr⟩) aJ ⟨put o' [(fr, .arr 0 ty sz es)],fun id=>us id\/id=fr⟩ w' (.osl fr 0) MK:=by
  intro val xs jZ eB dI da FJ
  have rl:=ja hH hk c9 (.arr 0 ty sz es) val jZ (by
   unfold aR
   rw[show((⟨o',us⟩:Hp).put [(fr, .arr 0 ty sz es)]).o fr= .arr 0 ty sz es by simp]
   refine⟨eB,xs, ?_,da⟩
   rw[show ay φ fr val fr=val by simp]
   exact dI)
  have T3:=dO (φ:=φ) (H:=⟨o',us⟩) hk c9 (.arr 0 ty sz es) val (fun b hb=>(jZ b hb).1)
  rw[vr]at rl T3
  refine⟨ay φ fr val,rl,T3,val,rfl,FJ, .inr rfl,fun e he=> ?_⟩
  have qF:0=e:=by
   have:(put o' [(fr,ab.arr 0 ty sz es)] fr).cz=some 0:=by simp[put,ab.cz]
   exact abm
  exact⟨af,fun _=>aE⟩
 cases e with
 |outgrown=>exact k3.elim
 |panicked ch=>obtain⟨_,_,_,h⟩:=k3;exact h.elim
 |returned val=>
  obtain⟨g1,⟨j,ep,rfl,hj⟩|⟨rfl,rfl,eB⟩⟩:=k3
  ·obtain⟨v0,v1,v2⟩:=g1
   have e9:val=jn j:=(v2 ep (by show(o1 j).cz=some ep;rw[hj];rfl)).2 rfl
   have cY:∀b,eA val=some b->cL jn (hp o1 n1) b:=fun b hb=>⟨j,by show(o1 j).live=true;rw[hj];rfl,by rw[<- e9];exact hb⟩
   have jZ:∀b,eA val=some b->w.heap.size<=b/\b<w'.heap.size:=fun b hb=>⟨(k2.grow b (cY b hb)).resolve_left (uD b),(k1.ours b (cY b hb)).2⟩
   have ML:=k1.ok j
   unfold aR at ML
   rw[show(hp o1 n1).o j= .arr ep ty sz es from hj]at ML
   obtain⟨eB,xs,dI,da⟩:=ML
   have hBs:∀b,aq M (ay φ fr val) ((⟨o',us⟩:Hp).put [(fr, .arr 0 ty sz es)]) b->aq (aq M φ ⟨o',us⟩) jn (hp o1 n1) b:=by
    rintro b (hb|⟨id,hl,hb⟩)
    ·exact .inl (.inl hb)
    ·by_cases e:id=fr
     ·subst e
      simp at hb
      exact .inr (cY b hb)
     ·simp[e]at hl hb
      exact .inl (.inr ⟨id,hl,hb⟩)
   exact fin val xs jZ eB (by rw[e9];exact dI) (da.mono (w:=w') (w':=w') (fun b _ hB=>⟨rfl,fun h=>hB (hBs b h)⟩)) v0
  ·have g1:val= .slice none 0 0:=g1
   subst g1
   exact aaS
theorem zd.Qs {P:Program}{g:FuncId}{args:List V}{ds:List D}{o:Nat->ab}{fr:Nat}{ty:TypeId}{sz:Nat}{es:List D}
 (fD:cn o args=some ds) (qG:D.j7 es=true) (h:bQ P g (ds.map .d) (fun _=> .no) 0 (fun v o1 _=>(∃j ep,v= .osl j ep/\o1 j= .arr ep ty sz es)\/(v= .aw/\es=[]/\0<sz)) (fun _ _ _=>False)):
 zd P g args (V.bg args) o fr (.osl fr 0) [(fr, .arr 0 ty sz es)]:=by
 refine⟨h.1,fun o' us M φ w vals hag c9 hH hd=> ?_⟩
 obtain⟨f1,f2,f3,f4,f5⟩:=cZ hH (V.bg args) (fun id ax=>(hag id ax).2)
 generalize hHF:(⟨o',us⟩:Hp).put (bG (⟨o',us⟩:Hp).o (V.bg args))=HF at f1 f2 f3
 let cS:Place:=fun _=> .nilFunc
 have uD:∀b, ¬cL cS (hp (fun _=> .no) 0) b:=by rintro b ⟨id,hl,_⟩;simp[hp,ab.live]at hl
 have hM:∀b,aq M φ HF b->b<w.heap.size:=fun b hb=>hb.elim (f1.BM b) fun hl=>(f1.ours b hl).2
 have yI:D.aF (aq M φ HF) w ds vals.toList:=dB f1 args ds _ (fun id ax=>by rw[f3 id ax];show(o' id).fz=(o id).fz;rw[(hag id ax).1]) fD (V.aW f2 _ _ hd)
 refine(h.2 (aq M φ HF) cS w vals (oM cS hM) ((V.cO _ _).2 (D.aW (w:=w) (w':=w) (B:=aq M φ HF) (fun b _ hB=>⟨rfl,fun h=>h.elim hB (uD b)⟩) _ _ yI))).mono ?_
 rintro e w' ⟨jn,o1,n1,v,k1,k2,k3⟩
 have hk:eC (fun _=>False) w w':=⟨k2.cN.os,k2.cN.tape,k2.cN.output,k2.cN.size,fun k hk _=>k2.cN.block k hk (uD k)⟩
 have vr:(⟨o',us⟩:Hp).put [(fr, .arr 0 ty sz es)]=⟨put o' [(fr, .arr 0 ty sz es)],fun id=>us id\/id=fr⟩:=by
  simp only[Hp.put]
  congr 1
  funext id
  simp
 have fin:∀ (val:Value) (xs:List Value),(∀b,eA val=some b->w.heap.size<=b/\b<w'.heap.size)->0<sz->w'.ownsRow 0 ty sz val es.length xs->
  (eM (aq M (ay φ fr val) ((⟨o',us⟩:Hp).put [(fr, .arr 0 ty sz es)])) w' sz es xs)->
  val.oneCell'=true->
  ∃aJ,az M aJ ⟨put o' [(fr, .arr 0 ty sz es)],fun id=>us id\/id=fr⟩ w'/\Trans φ ⟨o',us⟩ w aJ ⟨put o' [(fr, .arr 0 ty sz es)],fun id=>us id\/id=fr⟩ w'/\
   ∃MK,Ending.returned val= .returned MK/\V.den (aq M aJ ⟨put o' [(fr, .arr 0 ty sz es)],fun id=>us id\/id=fr⟩) aJ ⟨put o' [(fr, .arr 0 ty sz es)],fun id=>us id\/id=fr⟩ w' (.osl fr 0) MK:=by
  intro val xs jZ eB dI da FJ
  have rl:=ja hH hk c9 (.arr 0 ty sz es) val jZ (by
   unfold aR
   rw[show((⟨o',us⟩:Hp).put [(fr, .arr 0 ty sz es)]).o fr= .arr 0 ty sz es by simp]
   refine⟨eB,xs, ?_,da⟩
   rw[show ay φ fr val fr=val by simp]
   exact dI)
  have T3:=dO (φ:=φ) (H:=⟨o',us⟩) hk c9 (.arr 0 ty sz es) val (fun b hb=>(jZ b hb).1)
  rw[vr]at rl T3
  refine⟨ay φ fr val,rl,T3,val,rfl,FJ, .inr rfl,fun e he=> ?_⟩
  have qF:0=e:=by
   have:(put o' [(fr,ab.arr 0 ty sz es)] fr).cz=some 0:=by simp[put,ab.cz]
   exact abm
  exact⟨af,fun _=>aE⟩
 cases e with
 |outgrown=>exact k3.elim
 |panicked ch=>obtain⟨_,_,_,h⟩:=k3;exact h.elim
 |returned val=>
  obtain⟨g1,⟨j,ep,rfl,hj⟩|⟨rfl,rfl,eB⟩⟩:=k3
  ·obtain⟨v0,v1,v2⟩:=g1
   have e9:val=jn j:=(v2 ep (by show(o1 j).cz=some ep;rw[hj];rfl)).2 rfl
   have cY:∀b,eA val=some b->cL jn (hp o1 n1) b:=fun b hb=>⟨j,by show(o1 j).live=true;rw[hj];rfl,by rw[<- e9];exact hb⟩
   have jZ:∀b,eA val=some b->w.heap.size<=b/\b<w'.heap.size:=fun b hb=>⟨(k2.grow b (cY b hb)).resolve_left (uD b),(k1.ours b (cY b hb)).2⟩
   have ML:=k1.ok j
   unfold aR at ML
   rw[show(hp o1 n1).o j= .arr ep ty sz es from hj]at ML
   obtain⟨eB,xs,dI,da⟩:=ML
   obtain⟨evs,e1,e2,e3⟩:=da
   exact fin val xs jZ eB (by rw[e9];exact dI) ⟨evs,e1,e2,D.mA _ _ qG e3⟩ v0
  ·have g1:val= .slice none 0 0:=g1
   subst g1
   exact aaS
theorem zd.Qt {P:Program}{g:FuncId}{args:List V}{ds:List D}{o0 o:Nat->ab}{rd:List Nat}{fr:Nat}{v:V}{Δ:List (Nat×ab)}(ax:V.bg args=[])(fD:cn o0 args=some ds)
 (h:zd P g (ds.map .d) rd o fr v Δ):zd P g args rd o fr v Δ:=
 ⟨h.1,fun o' us M φ w vals h1 h2 hH hd=>h.2 o' us M φ w vals h1 h2 hH ((V.cO _ _).2 (dB hH args ds _ (by rw[ax];intro id h;cases h) fD hd))⟩
def HA(P:Program)(f:FuncId):Prop:=
 Enters P f/\∀ (w:World) (b:Nat) (es:Array MapEntry) (clock:Nat),w.heap[b]? =some (.map es clock)->
  Calls P f #[.map (some b)] w fun e w'=>e= .returned (.map (some w.heap.size))/\w'=w.alloc (.map es clock)
theorem bQ.W3 {P:Program}{f:FuncId}(h:HA P f){o:Nat->ab}{nx id:Nat}{kt vt:TypeId}{l:List (D×D)}(ho:o id= .map kt vt l){K X:V->(Nat->ab)->Nat->Prop}
 (hK:K (.mp nx) (ay o nx (.map kt vt l)) (nx+1)):bQ P f [.mp id] o nx K X:=by
 refine⟨h.1,fun M φ w vals hH hd=> ?_⟩
 have hlen:=V.aC _ _ hd
 obtain⟨v,rfl⟩:∃v,vals=#[v]:=by
  match vals,hlen with
  |⟨[v]⟩,_=>exact⟨v,rfl⟩
 obtain⟨v',qH,L1⟩:=V.dz _ _ 0 (.mp id) hd rfl
 simp only[List.getElem?_cons_zero,Option.some.injEq]at qH
 subst qH
 have aY:=hH.ok id
 have yj:(hp o nx).o id= .map kt vt l:=ho
 simp only[aR,yj]at aY
 obtain⟨b,es,clock,e1,e2,e3,e4⟩:=aY
 have hv:v=φ id:=L1.2.2 (by rw[yj];rfl)
 rw[hv,e1]
 refine(h.2 w b es clock e2).mono fun e w' ⟨he,hw⟩=> ?_
 subst he;subst hw
 have c9: ¬ (hp o nx).us nx:=fun h=>Nat.lt_irrefl _ h
 have vr:(hp o nx).put [(nx, .map kt vt l)]=hp (ay o nx (.map kt vt l)) (nx+1):=by
  simp only[Hp.put,hp]
  congr 1
  funext j
  simp only[List.map_cons,List.map_nil,List.mem_singleton,eq_iff_iff]
  omega
 have Zh:∀c,eA (.map (some w.heap.size))=some c->w.heap.size<=c/\c<(w.alloc (.map es clock)).heap.size:=by
  intro c hc;simp[eA]at hc;subst hc;simp
 have ht:=dO (φ:=φ) (H:=hp o nx) (cy w (.map es clock)) c9 (.map kt vt l) (.map (some w.heap.size)) fun c hc=>(Zh c hc).1
 refine⟨ay φ nx (.map (some w.heap.size)),ay o nx (.map kt vt l),nx+1, .mp nx, ?_, ?_, ?_,hK⟩
 ·exact aby
 ·rw[<- vr];exact ht
 ·rw[<- vr];exact⟨rfl,aE,fun _=>aE⟩
theorem bQ.HB {P:Program}{f:FuncId}(h:HA P f){o:Nat->ab}{nx id:Nat}{kt vt:TypeId}{l:List (D×D)}(ho:o id= .cj l){K X:V->(Nat->ab)->Nat->Prop}
 (hK:K (.mp nx) (ay o nx (.map kt vt l)) (nx+1)):bQ P f [.mp id] o nx K X:=by
 refine⟨h.1,fun M φ w vals hH hd=> ?_⟩
 have hlen:=V.aC _ _ hd
 obtain⟨v,rfl⟩:∃v,vals=#[v]:=by
  match vals,hlen with
  |⟨[v]⟩,_=>exact⟨v,rfl⟩
 obtain⟨v',qH,L1⟩:=V.dz _ _ 0 (.mp id) hd rfl
 simp only[List.getElem?_cons_zero,Option.some.injEq]at qH
 subst qH
 have aY:=hH.ok id
 have yj:(hp o nx).o id= .cj l:=ho
 simp only[aR,yj]at aY
 obtain⟨b,es,clock,e1,e2,_,e3,e4⟩:=aY
 have hv:v=φ id:=L1.2.2 (by rw[yj];rfl)
 rw[hv,e1]
 refine(h.2 w b es clock e2).mono fun e w' ⟨he,hw⟩=> ?_
 subst he;subst hw
 have c9: ¬ (hp o nx).us nx:=fun h=>Nat.lt_irrefl _ h
 have vr:(hp o nx).put [(nx, .map kt vt l)]=hp (ay o nx (.map kt vt l)) (nx+1):=by
  simp only[Hp.put,hp]
  congr 1
  funext j
  simp only[List.map_cons,List.map_nil,List.mem_singleton,eq_iff_iff]
  omega
 have Zh:∀c,eA (.map (some w.heap.size))=some c->w.heap.size<=c/\c<(w.alloc (.map es clock)).heap.size:=by
  intro c hc;simp[eA]at hc;subst hc;simp
 have ht:=dO (φ:=φ) (H:=hp o nx) (cy w (.map es clock)) c9 (.map kt vt l) (.map (some w.heap.size)) fun c hc=>(Zh c hc).1
 refine⟨ay φ nx (.map (some w.heap.size)),ay o nx (.map kt vt l),nx+1, .mp nx, ?_, ?_, ?_,hK⟩
 ·exact aby
 ·rw[<- vr];exact ht
 ·rw[<- vr];exact⟨rfl,aE,fun _=>aE⟩
section
inductive Tr (α:Type) where
 |e (f:Nat->α)
 |n (x:α) (l r:Tr α)
noncomputable def Tr.get {α:Type}(t:Tr α):Nat->α:=
 Tr.rec (motive:=fun _=>Nat->α) (fun f=>f) (fun x _ _ l r k=>Bool.rec (Bool.rec (r (Nat.sub (Nat.div k 2) 1)) (l (Nat.div k 2)) (Nat.beq (Nat.mod k 2) 1)) x (Nat.beq k 0)) t
theorem Tr.HC {α:Type}(f:Nat->α):(Tr.e f).get=f:=rfl
noncomputable def Tr.wv {α:Type}(x:α):Nat->Tr α->Nat->Tr α
 |0,t,k=> .e (ay t.get k x)
 |d+1, .e f,k=>match Nat.beq k 0 with
  |true=> .n x (.e fun i=>f (2*i+1)) (.e fun i=>f (2*i+2))
  |false=>match Nat.beq (k%2) 1 with
   |true=> .n (f 0) (Tr.wv x d (.e fun i=>f (2*i+1)) (k/2)) (.e fun i=>f (2*i+2))
   |false=> .n (f 0) (.e fun i=>f (2*i+1)) (Tr.wv x d (.e fun i=>f (2*i+2)) (k/2 - 1))
 |d+1, .n y l r,k=>match Nat.beq k 0 with
  |true=> .n x l r
  |false=>match Nat.beq (k%2) 1 with
   |true=> .n y (Tr.wv x d l (k/2)) r
   |false=> .n y l (Tr.wv x d r (k/2 - 1))
noncomputable def Tr.set {α:Type}(t:Tr α)(k:Nat)(x:α):Tr α:=Tr.wv x 24 t k
theorem Tr.wx {α:Type}{x:α}{l r:Tr α}{k:Nat}:(Tr.n x l r).get k=if k=0 then x else if k%2=1 then l.get (k/2)else r.get (k/2 - 1):=by
 show @Bool.rec (fun _=>α) (@Bool.rec (fun _=>α) (r.get (k/2 - 1)) (l.get (k/2)) (Nat.beq (k%2) 1)) x (Nat.beq k 0)=_
 by_cases h:k=0
 ·subst h;rfl
 ·have:Nat.beq k 0=false:=by cases k with|zero=>exact absurd rfl h|succ k=>rfl
  simp only[this,h,if_false]
  by_cases h2:k%2=1
  ·simp[h2]
  ·have:Nat.beq (k%2) 1=false:=by
    cases hb:Nat.beq (k%2) 1 with
    |false=>rfl
    |true=>exact absurd (Nat.eq_of_beq_eq_true hb) h2
   simp[h2,this]
theorem Tr.nT {α:Type}(x:α):∀ (d:Nat) (t:Tr α) (k:Nat),(Tr.wv x d t k).get=ay t.get k x
 |0,t,k=>rfl
 |d+1, .e f,k=>by
  funext i
  simp only[Tr.wv]
  have hb:∀a b:Nat,Nat.beq a b=decide (a=b):=fun a b=>by
   cases h:Nat.beq a b with
   |true=>simp[Nat.eq_of_beq_eq_true h]
   |false=>simp[Nat.ne_of_beq_eq_false h]
  rw[hb,hb]
  by_cases h:k=0
  ·subst h
   simp only[decide_true,Tr.wx,aN]
   by_cases hi:i=0
   ·simp[hi]
   ·simp only[hi,if_false]
    by_cases h2:i%2=1
    ·simp only[h2,if_true,Tr.HC];congr 1;omega
    ·simp only[h2,if_false,Tr.HC];congr 1;omega
  ·simp only[h,decide_false]
   by_cases hk:k%2=1
   ·simp only[hk,decide_true,Tr.wx,Tr.nT x d,aN,Tr.HC]
    by_cases hi:i=0
    ·exact GP
    ·simp only[hi,if_false]
     by_cases h2:i%2=1
     ·simp only[h2,if_true]
      have e1:2*(i/2)+1=i:=af
      rw[e1]
      by_cases e:i=k
      ·simp[e]
      ·exact GH
     ·simp only[h2,if_false]
      rw[if_neg (by intro e;subst e;exact h2 hk)]
      congr 1;omega
   ·simp only[hk,decide_false,Tr.wx,Tr.nT x d,aN,Tr.HC]
    by_cases hi:i=0
    ·exact GP
    ·simp only[hi,if_false]
     by_cases h2:i%2=1
     ·simp only[h2,if_true]
      rw[if_neg (by intro e;subst e;exact hk h2)]
      congr 1;omega
     ·simp only[h2,if_false]
      have e1:2*(i/2 - 1)+2=i:=af
      rw[e1]
      by_cases e:i=k
      ·simp[e]
      ·exact GH
 |d+1, .n y l r,k=>by
  funext i
  simp only[Tr.wv]
  have hb:∀a b:Nat,Nat.beq a b=decide (a=b):=fun a b=>by
   cases h:Nat.beq a b with
   |true=>simp[Nat.eq_of_beq_eq_true h]
   |false=>simp[Nat.ne_of_beq_eq_false h]
  rw[hb,hb]
  by_cases h:k=0
  ·subst h
   simp only[decide_true,Tr.wx,aN]
   by_cases hi:i=0
   ·simp[hi]
   ·simp[hi]
  ·simp only[h,decide_false]
   by_cases hk:k%2=1
   ·simp only[hk,decide_true,Tr.wx,Tr.nT x d,aN]
    by_cases hi:i=0
    ·exact GP
    ·simp only[hi,if_false]
     by_cases h2:i%2=1
     ·simp only[h2,if_true]
      by_cases e:i=k
      ·simp[e]
      ·exact GH
     ·simp only[h2,if_false]
      rw[if_neg (by intro e;subst e;exact h2 hk)]
   ·simp only[hk,decide_false,Tr.wx,Tr.nT x d,aN]
    by_cases hi:i=0
    ·exact GP
    ·simp only[hi,if_false]
     by_cases h2:i%2=1
     ·simp only[h2,if_true]
      rw[if_neg (by intro e;subst e;exact hk h2)]
     ·simp only[h2,if_false]
      by_cases e:i=k
      ·simp[e]
      ·exact GH
theorem Tr.hZ {α:Type}(t:Tr α)(k:Nat)(x:α):(t.set k x).get=ay t.get k x:=Tr.nT x 24 t k
noncomputable def Nat.fc {β:Type}(n:Nat)(c:Nat->β):β:=Nat.rec (motive:=fun _=>β) (c 0) (fun m _=>c (Nat.succ m)) n
theorem Nat.dh {β:Type}(n:Nat)(c:Nat->β):Nat.fc n c=c n:=by cases n<;>rfl
noncomputable def Int.fc {β:Type}(n:Int)(c:Int->β):β:=Int.rec (motive:=fun _=>β) (fun m=>Nat.fc m fun m=>c (.ofNat m)) (fun m=>Nat.fc m fun m=>c (.negSucc m)) n
theorem Int.dh {β:Type}(n:Int)(c:Int->β):Int.fc n c=c n:=by cases n<;>simp only[Int.fc,Nat.dh]
mutual
noncomputable def D.fc {β:Type}:D->(D->β)->β
 | .int k n,c=>Int.fc n fun n=>c (.int k n)
 | .bool b,c=>match b with|true=>c (.bool true)|false=>c (.bool false)
 | .agg l,c=>D.wy l fun l=>c (.agg l)
 | .sl l,c=>D.wy l fun l=>c (.sl l)
 | .iface t x,c=>D.fc x fun x=>c (.iface t x)
 | .str s,c=>c (.str s)
 | .fg,c=>c .fg
 | .lP,c=>c .lP
 | .cF,c=>c .cF
 | .dL,c=>c .dL
 | .mp ks vs,c=>D.wy ks fun ks=>D.wy vs fun vs=>c (.mp ks vs)
noncomputable def D.wy {β:Type}:List D->(List D->β)->β
 |[],c=>c []
 |x::xs,c=>D.fc x fun x=>D.wy xs fun xs=>c (x::xs)
end
mutual
theorem D.dh {β:Type}:∀ (x:D) (c:D->β),D.fc x c=c x
 | .int k n,c=>by simp only[D.fc,Int.dh]
 | .bool b,c=>by cases b<;>rfl
 | .agg l,c=>by simp only[D.fc,D.fV l]
 | .sl l,c=>by simp only[D.fc,D.fV l]
 | .iface t x,c=>by simp only[D.fc,D.dh x]
 | .mp ks vs,c=>by simp only[D.fc,D.fV ks,D.fV vs]
 | .str _,_| .fg,_| .lP,_| .cF,_| .dL,_=>by simp only[D.fc]
theorem D.fV {β:Type}:∀ (x:List D) (c:List D->β),D.wy x c=c x
 |[],c=>by simp only[D.wy]
 |x::xs,c=>by simp only[D.wy,D.dh x,D.fV xs]
end
mutual
noncomputable def V.fc {β:Type}:V->(V->β)->β
 | .d x,c=>D.fc x fun x=>c (.d x)
 | .agg l,c=>V.wy l fun l=>c (.agg l)
 | .bW l,c=>V.wy l fun l=>c (.bW l)
 | .ptr i o,c=>Nat.fc i fun i=>Nat.fc o fun o=>c (.ptr i o)
 | .osl i o,c=>Nat.fc i fun i=>Nat.fc o fun o=>c (.osl i o)
 | .pe a b i j k,c=>Nat.fc a fun a=>Nat.fc b fun b=>Nat.fc i fun i=>Nat.fc j fun j=>Nat.fc k fun k=>c (.pe a b i j k)
 | .pp l o,c=>D.wy l fun l=>Nat.fc o fun o=>c (.pp l o)
 | .func f a b,c=>V.wy a fun a=>V.wy b fun b=>c (.func f a b)
 | .iface t x,c=>V.fc x fun x=>c (.iface t x)
 | .pF l,c=>D.wy l fun l=>c (.pF l)
 | .yA i j k,c=>Nat.fc i fun i=>Nat.fc j fun j=>Nat.fc k fun k=>c (.yA i j k)
 | .mp i,c=>Nat.fc i fun i=>c (.mp i)
 | .kM i,c=>Nat.fc i fun i=>c (.kM i)
 | .aw,c=>c .aw
 | .ad,c=>c .ad
 | .fF,c=>c .fF
noncomputable def V.wy {β:Type}:List V->(List V->β)->β
 |[],c=>c []
 |x::xs,c=>V.fc x fun x=>V.wy xs fun xs=>c (x::xs)
end
mutual
theorem V.dh {β:Type}:∀ (x:V) (c:V->β),V.fc x c=c x
 | .d x,c=>by simp only[V.fc,D.dh]
 | .agg l,c=>by simp only[V.fc,V.fV l]
 | .bW l,c=>by simp only[V.fc,V.fV l]
 | .pp l o,c=>by simp only[V.fc,D.fV,Nat.dh]
 | .func f a b,c=>by simp only[V.fc,V.fV a,V.fV b]
 | .iface t x,c=>by simp only[V.fc,V.dh x]
 | .pF l,c=>by simp only[V.fc,D.fV]
 | .ptr _ _,_| .osl _ _,_| .pe _ _ _ _ _,_| .yA _ _ _,_| .mp _,_| .kM _,_| .aw,_| .ad,_| .fF,_=>by simp only[V.fc,Nat.dh]
theorem V.fV {β:Type}:∀ (x:List V) (c:List V->β),V.wy x c=c x
 |[],c=>by simp only[V.wy]
 |x::xs,c=>by simp only[V.wy,V.dh x,V.fV xs]
end
section
variable {β:Type}
noncomputable def acQ(k:IntKind)(n:Int)(c:V->β):β:=Int.fc n fun n=>c (.d (.int k n))
noncomputable def acR(b:Bool)(c:V->β):β:= @Bool.rec (fun _=>β) (c (.d (.bool false))) (c (.d (.bool true))) b
noncomputable def W4(x:D)(c:V->β):β:=D.fc x fun x=>c (.d x)
noncomputable def vD(x:D):(V->β)->β:=match x with| .int k n=>acQ k n| .bool b=>acR b|x=>W4 x
noncomputable def acS(i o:Nat)(c:V->β):β:=Nat.fc i fun i=>Nat.fc o fun o=>c (.ptr i o)
noncomputable def acT(i o:Nat)(c:V->β):β:=Nat.fc i fun i=>Nat.fc o fun o=>c (.osl i o)
noncomputable def vPe(a b i j k:Nat)(c:V->β):β:=Nat.fc a fun a=>Nat.fc b fun b=>Nat.fc i fun i=>Nat.fc j fun j=>Nat.fc k fun k=>c (.pe a b i j k)
noncomputable def V.Z8 (v:V):(V->β)->β:=match v with| .d x=>vD x| .ptr i o=>acS i o| .osl i o=>acT i o| .pe a b i j k=>vPe a b i j k|v=>V.fc v
theorem V.W5 (v:V)(c:V->β):V.Z8 v c=c v:=by
 cases v
 case d x=>
  cases x
  case int k n=>simp only[V.Z8,vD,acQ,Int.dh]
  case bool b=>cases b<;>rfl
  all_goals exact D.dh _ _
 case ptr i o=>simp only[V.Z8,acS,Nat.dh]
 case osl i o=>simp only[V.Z8,acT,Nat.dh]
 case pe a b i j k=>simp only[V.Z8,vPe,Nat.dh]
 all_goals exact V.dh _ _
end
noncomputable def Z9{β:Type}:List (D×D)->(List (D×D)->β)->β
 |[],c=>c []
 |(a,b)::l,c=>D.fc a fun a=>D.fc b fun b=>Z9 l fun l=>c ((a,b)::l)
theorem MM{β:Type}:∀ (x:List (D×D)) (c:List (D×D)->β),Z9 x c=c x
 |[],c=>rfl
 |(a,b)::l,c=>by simp only[Z9,D.dh,MM l]
noncomputable def ab.fc {β:Type}(x:ab)(c:ab->β):β:=
 match x with
 | .row cs=>V.wy cs fun cs=>c (.row cs)
 | .arr e t s es=>Nat.fc e fun e=>Nat.fc s fun s=>D.wy es fun es=>c (.arr e t s es)
 | .uO e es=>Nat.fc e fun e=>D.wy es fun es=>c (.uO e es)
 | .map kt vt l=>Z9 l fun l=>c (.map kt vt l)
 | .cj l=>Z9 l fun l=>c (.cj l)
 | .sn l last=>Z9 l fun l=>c (.sn l last)
 | .Am l pos=>Nat.fc pos fun pos=>c (.Am l pos)
 |x=>c x
theorem ab.dh {β:Type}(x:ab)(c:ab->β):ab.fc x c=c x:=by cases x<;>simp only[ab.fc,V.fV,D.fV,Nat.dh,MM]
noncomputable def Tr.zw {α β:Type}(x:α)(d:Nat):Tr α->Nat->(Tr α->β)->β:=
 Nat.rec (motive:=fun _=>Tr α->Nat->(Tr α->β)->β) (fun t k c=>c (.e (ay t.get k x)))
  (fun _ ih t k c=>Tr.rec (motive:=fun _=>β) (fun f=>
   Bool.rec (Bool.rec (ih (.e fun i=>f (2*i+2)) (Nat.sub (Nat.div k 2) 1) fun r=>c (.n (f 0) (.e fun i=>f (2*i+1)) r)) (ih (.e fun i=>f (2*i+1)) (Nat.div k 2) fun l=>c (.n (f 0) l (.e fun i=>f (2*i+2)))) (Nat.beq (Nat.mod k 2) 1))
    (c (.n x (.e fun i=>f (2*i+1)) (.e fun i=>f (2*i+2)))) (Nat.beq k 0))
   (fun y l r _ _=>Bool.rec (Bool.rec (ih r (Nat.sub (Nat.div k 2) 1) fun r=>c (.n y l r)) (ih l (Nat.div k 2) fun l=>c (.n y l r)) (Nat.beq (Nat.mod k 2) 1)) (c (.n x l r)) (Nat.beq k 0)) t) d
theorem Tr.wz {α β:Type}(x:α):∀ (d:Nat) (t:Tr α) (k:Nat) (c:Tr α->β),Tr.zw x d t k c=c (Tr.wv x d t k)
 |0,t,k,c=>rfl
 |d+1, .e f,k,c=>by
  show @Bool.rec (fun _=>β) (@Bool.rec (fun _=>β) (Tr.zw x d (.e fun i=>f (2*i+2)) (k/2 - 1) fun r=>c (.n (f 0) (.e fun i=>f (2*i+1)) r)) (Tr.zw x d (.e fun i=>f (2*i+1)) (k/2) fun l=>c (.n (f 0) l (.e fun i=>f (2*i+2)))) (Nat.beq (k%2) 1)) (c (.n x (.e fun i=>f (2*i+1)) (.e fun i=>f (2*i+2)))) (Nat.beq k 0)=_
  simp only[Tr.wv,Tr.wz x d]
  cases Nat.beq k 0
  ·cases Nat.beq (k%2) 1<;>rfl
  ·rfl
 |d+1, .n y l r,k,c=>by
  show @Bool.rec (fun _=>β) (@Bool.rec (fun _=>β) (Tr.zw x d r (k/2 - 1) fun r=>c (.n y l r)) (Tr.zw x d l (k/2) fun l=>c (.n y l r)) (Nat.beq (k%2) 1)) (c (.n x l r)) (Nat.beq k 0)=_
  simp only[Tr.wv,Tr.wz x d]
  cases Nat.beq k 0
  ·cases Nat.beq (k%2) 1<;>rfl
  ·rfl
noncomputable def Tr.W6 {α β:Type}(t:Tr α)(k:Nat)(x:α)(c:Tr α->β):β:=Tr.zw x 24 t k c
theorem Tr.HD {α β:Type}(t:Tr α)(k:Nat)(x:α)(c:Tr α->β):t.W6 k x c=c (t.set k x):=Tr.wz x 24 t k c
structure St where
 env:Tr V
 o:Tr ab
 nx:Nat
noncomputable def St.S (st:St):S:=⟨st.env.get,st.o.get,st.nx⟩
noncomputable def J0(o:Tr ab)(Δ:List (Nat×ab)):Tr ab:=Δ.foldl (fun f x=>f.set x.1 x.2) o
noncomputable def tZ(env:Tr V)(dst:Option Tmp)(v:V):Tr V:=match dst with|some d=>env.set d v|none=>env
noncomputable def wA{β:Type}(o:Tr ab):List (Nat×ab)->(Tr ab->β)->β
 |[],c=>c o
 |(i,x)::Δ,c=>ab.fc x fun x=>o.W6 i x fun o=>wA o Δ c
theorem nU{β:Type}:∀ (Δ:List (Nat×ab)) (o:Tr ab) (c:Tr ab->β),wA o Δ c=c (J0 o Δ)
 |[],o,c=>rfl
 |(i,x)::Δ,o,c=>by simp only[wA,ab.dh,Tr.HD,nU Δ];rfl
noncomputable def mL{β:Type}(env:Tr V)(dst:Option Tmp)(v:V)(c:Tr V->β):β:=match dst with|some d=>V.Z8 v fun v=>env.W6 d v c|none=>c env
theorem jM{β:Type}(env:Tr V)(dst:Option Tmp)(v:V)(c:Tr V->β):mL env dst v c=c (tZ env dst v):=by
 cases dst<;>simp only[mL,tZ,V.W5,Tr.HD]
theorem kj:∀ (Δ:List (Nat×ab)) (o:Tr ab),(J0 o Δ).get=put o.get Δ
 |[],_=>rfl
 |x::Δ,o=>by
  simp only[J0,put,List.foldl_cons]
  have:=kj Δ (o.set x.1 x.2)
  simp only[J0,put]at this
  rw[this,Tr.hZ]
theorem jH(env:Tr V)(dst:Option Tmp)(v:V):(tZ env dst v).get=ba env.get dst v:=by
 cases dst<;>simp[tZ,ba,Tr.hZ]
section W7
def T4(x:Operand)(_:Program)(s:S)(_:Nat):Option gz:=one (s.ev x)
def acU(c a b:Operand)(_:Program)(s:S)(_:Nat):Option gz:=mH (rn (s.ev c) (s.ev a) (s.ev b))
def W8(t:TypeId)(parts:Array (Nat×Operand))(P:Program)(s:S)(_:Nat):Option gz:=mH (AM P t (parts.toList.map fun p=>(p.1,s.ev p.2)))
def Dn(t:TypeId)(len:Nat)(parts:Array (Nat×Operand))(P:Program)(s:S)(fr:Nat):Option gz:=gH P s.o fr t len (parts.toList.map fun p=>(p.1,s.ev p.2))
def acV(t:TypeId)(x:Operand)(P:Program)(s:S)(_:Nat):Option gz:=nL P s.o t (s.ev x)
def W9(t:TypeId)(x v:Operand)(P:Program)(s:S)(_:Nat):Option gz:=sS P s.o t (s.ev x) (s.ev v)
def agh(x:Operand)(_:Program)(s:S)(_:Nat):Option gz:=mH (jI s.o (s.ev x))
noncomputable def acW(op:BinOp):IntKind->Int->Int->Option V:=
 match op with
 | .add=>fun k a b=>some (.d (.int k (k.wrap (Int.add a b))))
 | .sub=>fun k a b=>some (.d (.int k (k.wrap (Int.sub a b))))
 | .mul=>fun k a b=>some (.d (.int k (k.wrap (Int.mul a b))))
 |op=>CN op
theorem Qu(op:BinOp):acW op=CN op:=by cases op<;>rfl
def asInt(x:V):Option (IntKind×Int):=match x with| .d (.int k a)=>some (k,a)|_=>none
def MN(op:BinOp)(t:TypeId)(c:Bool)(x y:V)(P:Program)(o:Nat->ab):Option gz:=fO P o op t c x y
noncomputable def acX(op:BinOp)(t:TypeId)(x y:Operand)(P:Program)(s:S)(_:Nat):Option gz:=
 match asInt (s.ev x)with
 |some (k,a)=>match asInt (s.ev y)with
  |some (k',b)=>if k=k' then match acW op k a b with
   |some v=>some (v,[],[])
   |none=>MN op t (isConst x||isConst y) (s.ev x) (s.ev y) P s.o
   else none
  |none=>MN op t (isConst x||isConst y) (s.ev x) (s.ev y) P s.o
 |none=>MN op t (isConst x||isConst y) (s.ev x) (s.ev y) P s.o
theorem Dp{x:V}{k:IntKind}{a:Int}(h:asInt x=some (k,a)):x= .d (.int k a):=by
 unfold asInt at h;split at h
 ·injection h with h;cases h;rfl
 ·cases h
def FK(t:TypeId)(x:Operand)(f:Nat)(P:Program)(s:S)(_:Nat):Option gz:=mH (iN P s.o t (s.ev x) f)
def FL(t:TypeId)(x i:Operand)(P:Program)(s:S)(_:Nat):Option gz:=iM P s.o t (s.ev x) (s.ev i)
def Xa(op:Op)(P:Program)(s:S)(fr:Nat):Option gz:=gQ P s fr op
noncomputable def Qv(op:Op):Program->S->Nat->Option gz:=
 match op with
 | .move x=>T4 x
 | .assign x=>T4 x
 | .pick c a b=>acU c a b
 | .build t parts=>W8 t parts
 | .buildSlice t len parts=>Dn t len parts
 | .load t x=>acV t x
 | .store t x v=>W9 t x v
 | .nilCheck x=>agh x
 | .binOp op t x y _=>acX op t x y
 | .fieldAddr t x f=>FK t x f
 | .indexAddr t x i=>FL t x i
 |op=>Xa op
theorem HE{op:Op}{P:Program}{s:S}{fr:Nat}{r:gz}(h:Qv op P s fr=some r):gQ P s fr op=some r:=by
 cases op
 case binOp op t x y yt=>
  simp only[Qv,acX,Qu]at h
  have e:gQ P s fr (.binOp op t x y yt)=fO P s.o op t (isConst x||isConst y) (s.ev x) (s.ev y):=rfl
  rw[e]
  split at h
  ·rename_i k a hx
   split at h
   ·rename_i k' b hy
    split at h
    ·rename_i hk
     split at h
     ·rename_i v hv
      unfold fO AL
      simp only[Dp hx,Dp hy,if_pos hk,hv]
      exact h
     ·exact h
    ·cases h
   ·exact h
  ·exact h
 all_goals exact h
end W7
inductive FD where
 |fn (n:Nat) (ic:IC) (rs:List ResultVar)
 |dfr (n:Nat) (jV fG:IC) (g t:Nat) (fM:List Operand) (rs:List ResultVar) (m r r1:Nat) (zu:IC)
 |mpc
 |no
def FD.Ok (P:Program)(f:Nat):FD->Prop
 | .fn n ic rs=>aO P f n ic rs
 | .dfr n jV fG g t fM rs m r r1 zu=>Hz P f n jV fG g t fM rs/\Dj P g m r r1 zu
 | .mpc=>HA P f
 | .no=>True
inductive CR where
 |ret (v:V) (o:Tr ab) (nx:Nat)|bN (v:V) (o:Tr ab) (nx:Nat)
def CR.to (K X:V->(Nat->ab)->Nat->Prop):CR->Prop
 | .ret v o nx=>K v o.get nx
 | .bN v o nx=>X v o.get nx
inductive RO where
 |ok (st:St)|bN (v:V) (st:St)
def RO.to (K:S->Prop)(X:V->S->Prop):RO->Prop
 | .ok st=>K st.S
 | .bN v st=>X v st.S
inductive eF where
 |r (x:R)|c (x:CR)
abbrev Kt:=fS->St->Option eF
abbrev dJ:=Nat->Bool->Nat->IC->St->Kt->Option eF
noncomputable def J1(P:Program)(rs:List ResultVar)(st:St)(kc:CR->Option eF):Option eF:=
 match mD P st.S rs with
 |some [v]=>kc (.ret v st.o st.nx)
 |some vs=>kc (.ret (.bW vs) st.o st.nx)
 |none=>none
noncomputable def T5(P:Program)(rs:List ResultVar)(kc:CR->Option eF):Kt:=fun e st=>
 match e with
 | .normal=>J1 P rs st kc
 | .ret=>J1 P rs st kc
 | .bN v=>kc (.bN v st.o st.nx)
 | .exit _=>none
noncomputable def MO(P:Program)(rs:List ResultVar)(kc:CR->Option eF)(env:Tr V):Kt:=fun e s4=>
 match e with
 | .normal=>J1 P rs ⟨env,s4.o,s4.nx⟩ kc
 | .ret=>J1 P rs ⟨env,s4.o,s4.nx⟩ kc
 |_=>none
def acY:fS->Option V
 | .normal=>some (.d .fg)
 | .ret=>some (.d .fg)
 | .bN v=>some v
 | .exit _=>none
noncomputable def MP(P:Program)(rec:dJ)(rs:List ResultVar)(bR:List V)(m r r1:Nat)(zu:IC)(kc:CR->Option eF):Kt:=fun e s3=>
 match acY e with
 |some u=>if bR.length<=m then rec s3.nx true m zu ⟨.e (ay (ay (cB bR) r u) r1 u),s3.o,s3.nx⟩ (MO P rs kc s3.env)else none
 |none=>none
noncomputable def HG(P:Program)(rec:dJ)(n t:Nat)(fG:IC)(g:Nat)(fM:List Operand)(rs:List ResultVar)(m r r1:Nat)(zu:IC)(kc:CR->Option eF):Kt:=fun e s1=>
 match e with
 | .normal=>rec s1.nx false n fG ⟨s1.env.set t (.func (.func g) [] (fM.map s1.S.ev)),s1.o,s1.nx⟩ (MP P rec rs (fM.map s1.S.ev) m r r1 zu kc)
 |_=>none
noncomputable def MQ(P:Program)(bX:Nat->FD)(rec:dJ)(g:Nat)(args:List V)(o:Tr ab)(nx:Nat)(kc:CR->Option eF):Option eF:=
 match bX g with
 | .fn n ic rs=>if args.length<=n then rec nx false n ic ⟨.e (cB args),o,nx⟩ (T5 P rs kc)else none
 | .dfr n jV fG g t fM rs m r r1 zu=>if args.length<=n then rec nx true n jV ⟨.e (cB args),o,nx⟩ (HG P rec n t fG g fM rs m r r1 zu kc)else none
 | .mpc=>match args with
   |[.mp id]=>match o.get id with
    | .map kt vt l=>kc (.ret (.mp nx) (o.set nx (.map kt vt l)) (nx+1))
    | .cj l=>kc (.ret (.mp nx) (o.set nx (.map 0 0 l)) (nx+1))
    |_=>none
   |_=>none
 | .no=>none
def wB:V->List V
 | .bW vs=>vs
 |v=>[v]
noncomputable def HH(r:CR):Option R:=
 match r with
 | .ret v o _=>match v with
   | .bW [_]=>none
   |v=>match cn o.get (wB v)with
    |some rs=>some (.ret rs)
    |none=>none
 | .bN v o _=>match dM o.get v with
   |some x=>some (.bN x)
   |none=>none
noncomputable def rfc{β:Type}(x:R)(c:R->β):β:=match x with| .ret l=>D.wy l fun l=>c (.ret l)| .bN d=>D.fc d fun d=>c (.bN d)
theorem FM{β:Type}(x:R)(c:R->β):rfc x c=c x:=by cases x<;>simp only[rfc,D.fV,D.dh]
noncomputable def Dq(r:CR):Option eF:=match HH r with|some x=>rfc x fun x=>some (.r x)|none=>none
theorem MR{r:CR}{a:eF}(h:Dq r=some a):∃x,HH r=some x/\a= .r x:=by
 unfold Dq at h
 split at h
 ·rename_i x hx;rw[FM]at h;injection h with h;exact⟨x,hx,h.symm⟩
 ·cases h
def MT(out:R)(o:Tr ab)(nx:Nat):CR:=
 match out with
 | .ret rs=> .ret (jq rs) o nx
 | .bN x=> .bN (.d x) o nx
structure rC (P:Program) where
 dat:Nat->Bool
 fx:Nat->List D->Option R
 ok:∀g ds out,fx g ds=some out->aX P g ds out
def MU(l:List (Nat×List D×R))(g:Nat)(ds:List D):Option R:=
 match l with
 |[]=>none
 |x::l=>match Nat.beq x.1 g with
  |true=>match D.gD x.2.1 ds with
   |true=>some x.2.2
   |false=>MU l g ds
  |false=>MU l g ds
theorem A7{P:Program}:∀ {l:List (Nat×List D×R)},(∀x∈l,aX P x.1 x.2.1 x.2.2)->∀g ds out,MU l g ds=some out->aX P g ds out
 |[],_,_,_,_,h=>by cases h
 |x::l,hl,g,ds,out,h=>by
  simp only[MU]at h
  split at h
  ·rename_i hg
   split at h
   ·rename_i hd
    injection h with h
    have:=hl x aE
    rw[Nat.eq_of_beq_eq_true hg,D.dK _ _ hd,h]at this
    exact this
   ·exact A7 (fun y hy=>hl y lh) g ds out h
  ·exact A7 (fun y hy=>hl y lh) g ds out h
def rC.of {P:Program}(dat:Nat->Bool)(l:List (Nat×List D×R))(h:∀x∈l,aX P x.1 x.2.1 x.2.2):rC P:=⟨dat,MU l,A7 h⟩
noncomputable def Qw(P:Program)(bX:Nat->FD)(md:rC P)(rec:dJ)(g:Nat)(ds:List D):Option R:=
 match md.fx g ds with
 |some out=>some out
 |none=>match MQ P bX rec g (ds.map .d) (.e fun _=> .no) 0 Dq with
  |some (.r x)=>some x
  |_=>none
noncomputable def T6(out:R)(o:Tr ab)(nx:Nat)(args:List V)(kc:CR->Option eF):Option eF:=
 match out.flat with
 |true=>kc (MT out o (nx+1))
 |false=>match out.nG with
  |true=>kc (MT out (J0 o (sF o.get (V.bg args))) (nx+1))
  |false=>kc (MT out (J0 o (bG o.get (V.bg args))) (nx+1))
noncomputable def HI(P:Program)(bX:Nat->FD)(md:rC P)(rec:dJ)(g:Nat)(args:List V)(o:Tr ab)(nx:Nat)(kc:CR->Option eF):Option eF:=
 match md.dat g,cn o.get args with
 |true,some ds=>match Qw P bX md rec g ds with
  |some out=>T6 out o nx args kc
  |none=>none
 |_,_=>MQ P bX rec g args o nx kc
noncomputable def MV(id:Nat)(kc:CR->Option eF):Kt:=fun e s2=>
 match e with
 | .bN v=>kc (.bN v s2.o s2.nx)
 |e=>match s2.o.get id with
  | .loop nf m en p c d _ _=>match e with
    | .normal=>kc (.ret (.d (.bool true)) (s2.o.set id (.loop nf m en p c d .ready none)) s2.nx)
    | .ret=>kc (.ret (.d (.bool false)) (s2.o.set id (.loop nf m en p c d .done (some .ret))) s2.nx)
    | .exit j=>kc (.ret (.d (.bool false)) (s2.o.set id (.loop nf m en p c d .done (some (.exit j)))) s2.nx)
    | .bN _=>none
  |_=>none
noncomputable def HJ(rec:dJ)(id nx n:Nat)(fG:IC)(kc:CR->Option eF):Kt:=fun e s1=>
 match e with
 | .normal=>match s1.o.get id with
   | .loop nf m en p c d .ready pd=>rec nx true n fG ⟨s1.env,s1.o.set id (.loop nf m en p c d .busy pd),s1.nx⟩ (MV id kc)
   |_=>none
 | .bN v=>kc (.bN v s1.o s1.nx)
 |_=>none
noncomputable def Xb(P:Program)(rec:dJ)(id:Nat)(args:List V)(o:Tr ab)(nx:Nat)(kc:CR->Option eF):Option eF:=
 match o.get id with
 | .loop nf n env ps jV fG _ _=>if nf=P.funcs.size/\id<nx/\ps.all (fun t=>decide (t<n))=true/\args.length=ps.length then
  rec nx true n jV ⟨.e (qk (aZ env) ps args),o,nx⟩ (HJ rec id nx n fG kc)
   else none
 |_=>none
noncomputable def zA(P:Program)(st:St)(o:bZ)(kr:RO->Option eF):Option eF:=
 match Qv o.op P st.S st.nx with
 |some (v,Δ,_)=>mL st.env o.dst v fun e=>wA st.o Δ fun ob=>Nat.fc (st.nx+1) fun n=>kr (.ok ⟨e,ob,n⟩)
 |none=>none
noncomputable def crX(st:St)(dst:Option Nat)(kr:RO->Option eF)(c:CR):Option eF:=
 match c with
 | .ret v o nx=>mL st.env dst v fun e=>Nat.fc nx fun nx=>kr (.ok ⟨e,o,nx⟩)
 | .bN v o nx=>kr (.bN v ⟨st.env,o,nx⟩)
noncomputable def MW(c:Call)(P:Program)(bX:Nat->FD)(md:rC P)(rec:dJ)(st:St)(o:bZ)(kr:RO->Option eF):Option eF:=
 match c.callee with
 | .value f=>match st.S.ev f with
   | .func (.func g) first cap=>HI P bX md rec g (first++c.args.toList.map st.S.ev++cap) st.o st.nx (crX st o.dst kr)
   | .kM id=>Xb P rec id (c.args.toList.map st.S.ev) st.o st.nx (crX st o.dst kr)
   |_=>none
 | .invoke r m=>match vP P m (st.S.ev r)with
   |some (g,y)=>HI P bX md rec g (y::c.args.toList.map st.S.ev) st.o st.nx (crX st o.dst kr)
   |none=>none
 |_=>zA P st o kr
noncomputable def Xc(x:Operand)(P:Program)(_:Nat->FD)(_:rC P)(_:dJ)(st:St)(_:bZ)(kr:RO->Option eF):Option eF:=
 match st.S.ev x with
 | .d (.iface t y)=>kr (.bN (.d (.iface t y)) st)
 | .iface t y=>kr (.bN (.iface t y) st)
 |_=>none
noncomputable def acZ(P:Program)(_:Nat->FD)(_:rC P)(_:dJ)(st:St)(o:bZ)(kr:RO->Option eF):Option eF:=zA P st o kr
def R.same:R->R->Bool
 | .ret a, .ret b=>D.gD a b
 | .bN a, .bN b=>a.same b
 |_,_=>false
theorem R.eg {x y:R}(h:x.same y=true):x=y:=by
 cases x<;>cases y<;>simp only[R.same,Bool.false_eq_true]at h
 ·rw[D.dK _ _ h]
 ·rw[D.eg _ _ h]
noncomputable def brX(f:Nat->Option eF):Nat->Option eF
 |0=>none
 |n+1=>match n with
  |0=>f 0
  |n=>match brX f n with
   |some (.r a)=>match f n with
    |some (.r b)=>match R.same a b with
     |true=>some (.r a)
     |false=>none
    |_=>none
   |_=>none
theorem MX{f:Nat->Option eF}{a:eF}:∀ {n:Nat},brX f n=some a->∀i,i<n->f i=some a
 |0,h,_,_=>by cases h
 |1,h,i,hi=>by obtain rfl:i=0:=af
               exact h
 |n+2,h,i,hi=>by
  simp only[brX]at h
  split at h
  ·rename_i x hx
   split at h
   ·rename_i y hy
    split at h
    ·rename_i he
     have e:=R.eg he
     subst e
     rw[<- h]
     by_cases e:i=n+1
     ·subst e;exact hy
     ·exact MX hx i af
    ·cases h
   ·cases h
  ·cases h
noncomputable def Qx(st:St)(dst:Option Nat)(kr:RO->Option eF)(v:V)(Δ:List (Nat×ab)):Option eF:=
 mL st.env dst v fun e=>wA st.o Δ fun ob=>Nat.fc (st.nx+1) fun n=>kr (.ok ⟨e,ob,n⟩)
noncomputable def MY(x:Operand)(str:Bool)(P:Program)(_:Nat->FD)(_:rC P)(_:dJ)(st:St)(o:bZ)(kr:RO->Option eF):Option eF:=
 match pL st.o.get (st.S.ev x)with
 |some (id,l)=>match str with
  |true=>none
  |false=>match l with
   |[]=>Qx st o.dst kr (.bW [.d (.bool false)]) []
   |_=>brX (fun i=>match l[i]? with
    |some (k,x)=>Qx st o.dst kr (.bW [.d (.bool true), .d k, .d x]) [(id, .sn (l.eraseIdx i) (some (k,x)))]
    |none=>none) l.length
 |none=>zA P st o kr
noncomputable def opK(op:Op):(P:Program)->(Nat->FD)->rC P->dJ->St->bZ->(RO->Option eF)->Option eF:=
 match op with
 | .call c=>MW c
 | .panic x=>Xc x
 | .next x str=>MY x str
 |_=>acZ
noncomputable def opX(P:Program)(bX:Nat->FD)(md:rC P)(rec:dJ)(st:St)(o:bZ)(kr:RO->Option eF):Option eF:=opK o.op P bX md rec st o kr
noncomputable def roK(next:St->Option eF)(kr:RO->Option eF):RO->Option eF:=fun r=>match r with| .ok st=>next st| .bN v st=>kr (.bN v st)
noncomputable def A8(P:Program)(bX:Nat->FD)(md:rC P)(rec:dJ)(kr:RO->Option eF):List bZ->St->Option eF
 |[],st=>kr (.ok st)
 |o::l,st=>match(match o.gd with
   |none=>some true
   |some (d,want)=>match st.env.get d with
    | .d (.bool b)=>some (b==want)
    | .bW []=>some false
    |_=>none)with
  |some true=>opX P bX md rec st o (roK (A8 P bX md rec kr l) kr)
  |some false=>mL st.env o.dst (.bW []) fun e=>Nat.fc (st.nx+1) fun n=>A8 P bX md rec kr l ⟨e,st.o,n⟩
  |none=>none
section
variable {P:Program}{bX:Nat->FD}{md:rC P}
noncomputable def eO(P:Program)(rec:dJ):Prop:=∀b rd n ic st k a,rec b rd n ic st k=some a->∀Q:fS->S->Prop,(∀e st',k e st'=some a->Q e st'.S)->uU P n b rd ic Q st.S
theorem uY{rs:List ResultVar}{st:St}{kc:CR->Option eF}{a:eF}(h:J1 P rs st kc=some a){K X:V->(Nat->ab)->Nat->Prop}(hr:∀r,kc r=some a->r.to K X):mF P rs K X .ret st.S:=by
 unfold J1 at h
 unfold mF
 split at h
 ·rename_i v hv;simp only[hv];exact hr _ h
 ·rename_i vs hv hn
  simp only[hn]
  exact hr _ h
 ·cases h
theorem nV(bn:P.follows .mixedOrders=true)(cP:∀g,(bX g).Ok P g){rec:dJ}(bJ:eO P rec){g:Nat}{args:List V}{o:Tr ab}{nx:Nat}{kc:CR->Option eF}{a:eF}(h:MQ P bX rec g args o nx kc=some a){K X:V->(Nat->ab)->Nat->Prop}(hr:∀r,kc r=some a->r.to K X):
 bQ P g args o.get nx K X:=by
 have aY:=cP g
 unfold MQ at h
 split at h
 ·rename_i n ic rs ht
  rw[ht]at aY
  split at h
  ·rename_i hl
   refine bQ.wh bn aY hl ?_
   refine bJ _ _ _ _ _ _ _ h _ fun e st he=> ?_
   unfold T5 at he
   cases e with
   |normal=>exact uY he hr
   |ret=>exact uY he hr
   |bN v=>exact hr _ he
   |exit j=>cases he
  ·cases h
 ·rename_i n jV fG g' t fM rs m r0 r1 zu ht
  rw[ht]at aY
  split at h
  ·rename_i hl
   refine bQ.Dm bn aY.1 aY.2 hl (bJ _ _ _ _ _ _ _ h _ fun e s1 he=> ?_)
   unfold HG at he
   cases e with
   |normal=>
    have hb:uU P n s1.nx false fG (A6 P m r0 r1 zu (fM.map s1.S.ev) rs K X) ⟨ay s1.env.get t (.func (.func g') [] (fM.map s1.S.ev)),s1.o.get,s1.nx⟩:=by
     have:=bJ _ _ _ _ _ _ _ he (A6 P m r0 r1 zu (fM.map s1.S.ev) rs K X) (fun e s3 he3=>by
      unfold MP at he3
      split at he3
      ·rename_i u hu
       split at he3
       ·rename_i su
        have hrw:FH P m r0 r1 zu (fM.map s1.S.ev) u s3.o.get s3.nx fun o nx=>mF P rs K X .ret ⟨s3.env.get,o,nx⟩:=by
         refine⟨su,bJ _ _ _ _ _ _ _ he3 _ fun e4 s4 he4=> ?_⟩
         unfold MO at he4
         cases e4 with
         |normal=>exact uY (st:=⟨s3.env,s4.o,s4.nx⟩) he4 hr
         |ret=>exact uY (st:=⟨s3.env,s4.o,s4.nx⟩) he4 hr
         |_=>cases he4
        cases e<;>simp only[acY,Option.some.injEq,reduceCtorEq]at hu<;>subst hu<;>exact hrw
       ·cases he3
      ·cases he3)
     simp only[St.S,Tr.hZ]at this
     exact this
    exact hb
   |_=>cases he
  ·cases h
 ·rename_i ht
  rw[ht]at aY
  split at h
  ·split at h
   ·rename_i kt vt l ho
    have h2:=hr _ h
    simp only[CR.to,Tr.hZ]at h2
    exact bQ.W3 aY ho h2
   ·rename_i l ho
    have h2:=hr _ h
    simp only[CR.to,Tr.hZ]at h2
    exact bQ.HB aY ho h2
   ·cases h
  ·cases h
 ·cases h
theorem MZ{r:CR}{out:R}(ho:HH r=some out):r.to (fun v o _=>∃vs rs,v=(match vs with|[v]=>v|vs=> .bW vs)/\cn o vs=some rs/\out= .ret rs) (fun v o _=>∃x,dM o v=some x/\out= .bN x):=by
 unfold HH at ho
 split at ho
 ·rename_i v o nx
  split at ho
  ·cases ho
  ·rename_i hv
   split at ho
   ·rename_i rs hrs
    injection ho with ho;subst ho
    refine⟨wB v,rs, ?_,hrs,rfl⟩
    cases v with
    |bW vs=>
     match vs,hv with
     |[],_=>rfl
     |[x],hv=>exact absurd rfl (hv x)
     |_::_::_,_=>rfl
    |_=>rfl
   ·cases ho
 ·split at ho
  ·rename_i x hx
   injection ho with ho;subst ho
   exact⟨x,hx,rfl⟩
  ·cases ho
theorem Dr(bn:P.follows .mixedOrders=true)(cP:∀g,(bX g).Ok P g){rec:dJ}(bJ:eO P rec){g:Nat}{ds:List D}{out:R}(h:MQ P bX rec g (ds.map .d) (.e fun _=> .no) 0 Dq=some (.r out)):aX P g ds out:=by
 refine aX.lA (nV bn cP bJ h fun r hr=> ?_)
 obtain⟨x,hx,he⟩:=MR hr
 injection he with he;subst he
 exact MZ hx
theorem A9(bn:P.follows .mixedOrders=true)(cP:∀g,(bX g).Ok P g){rec:dJ}(bJ:eO P rec){g:Nat}{ds:List D}{out:R}(h:Qw P bX md rec g ds=some out):aX P g ds out:=by
 unfold Qw at h
 split at h
 ·rename_i ahx ho
  injection h with h;subst h
  exact md.ok _ _ _ ho
 ·split at h
  ·rename_i x hr;injection h with h;subst h;exact Dr bn cP bJ hr
  ·cases h
theorem Ds(bn:P.follows .mixedOrders=true)(cP:∀g,(bX g).Ok P g){rec:dJ}(bJ:eO P rec){g:Nat}{args:List V}{o:Tr ab}{nx:Nat}{kc:CR->Option eF}{a:eF}(h:HI P bX md rec g args o nx kc=some a){K X:V->(Nat->ab)->Nat->Prop}(hr:∀r,kc r=some a->r.to K X):
 Ty P g args o.get nx K X:=by
 unfold HI at h
 split at h
 ·rename_i ds hmd fD
  split at h
  ·rename_i out Dd
   have hP:=A9 bn cP bJ Dd
   refine .inl ⟨ds,fD,out,hP, ?_⟩
   unfold T6 at h
   split at h
   ·rename_i hf
    refine .inr (.inl ⟨hf, ?_⟩)
    cases out<;>exact hr _ h
   ·split at h
    ·rename_i hf
     refine .inr (.inr ⟨hf, ?_⟩)
     rw[<- kj]
     cases out<;>exact hr _ h
    ·refine .inl ?_
     rw[<- kj]
     cases out<;>exact hr _ h
  ·cases h
 ·exact .inr (nV bn cP bJ h hr)
theorem Qy(bn:P.follows .mixedOrders=true){rec:dJ}(bJ:eO P rec){id:Nat}{args:List V}{o:Tr ab}{nx:Nat}{kc:CR->Option eF}{a:eF}(h:Xb P rec id args o nx kc=some a){K X:V->(Nat->ab)->Nat->Prop}(hr:∀r,kc r=some a->r.to K X):
 dQ P id args o.get nx K X:=by
 unfold Xb at h
 split at h
 ·rename_i nf n env ps jV fG st pd ho
  split at h
  ·rename_i hc
   obtain⟨rfl,cu,FG,hl⟩:=hc
   refine dQ.wh bn ho cu FG hl ?_
   refine bJ _ _ _ _ _ _ _ h _ fun e s1 he=> ?_
   unfold HJ at he
   cases e with
   |normal=>
    simp only at he
    split at he
    ·rename_i nf m en p c d pd qI
     refine⟨nf,m,en,p,c,d,pd,qI, ?_⟩
     have:=bJ _ _ _ _ _ _ _ he (lH id K X) (fun e s2 h2=>by
      unfold MV at h2
      split at h2
      ·exact hr _ h2
      ·rename_i Tq
       split at h2
       ·rename_i nf' m' en' p' c' d' st' pd' Xd
        cases e with
        |bN v=>cases h2
        |normal=>have h3:=hr _ h2;simp only[CR.to,Tr.hZ]at h3;exact⟨nf',m',en',p',c',d',st',pd',Xd,h3⟩
        |ret=>have h3:=hr _ h2;simp only[CR.to,Tr.hZ]at h3;exact⟨nf',m',en',p',c',d',st',pd',Xd,h3⟩
        |exit j=>have h3:=hr _ h2;simp only[CR.to,Tr.hZ]at h3;exact⟨nf',m',en',p',c',d',st',pd',Xd,h3⟩
       ·cases h2)
     simp only[St.S,Tr.hZ]at this
     exact this
    ·cases he
   |bN v=>exact hr _ he
   |_=>cases he
  ·cases h
 ·cases h
theorem wC{st:St}{o:bZ}{kr:RO->Option eF}{a:eF}(h:zA P st o kr=some a){K:S->Prop}{X:V->S->Prop}(hr:∀r,kr r=some a->r.to K X):match gQ P st.S st.S.nx o.op with
 |some (v,Δ,_)=>K ⟨ba st.S.env o.dst v,put st.S.o Δ,st.S.nx+1⟩
 |none=>False:=by
 unfold zA at h
 split at h
 ·rename_i v Δ rd he
  have he:=HE he
  simp only[jM,nU,Nat.dh]at h
  have hr:=hr _ h
  simp only[RO.to,St.S,jH,kj]at hr
  have qF:gQ P st.S st.S.nx o.op=some (v,Δ,rd):=he
  simp only[qF]
  exact hr
 ·cases h
theorem HK{st:St}{dst:Option Nat}{kr:RO->Option eF}{v:V}{Δ:List (Nat×ab)}{a:eF}(h:Qx st dst kr v Δ=some a){K:S->Prop}{X:V->S->Prop}(hr:∀r,kr r=some a->r.to K X):K ⟨ba st.S.env dst v,put st.S.o Δ,st.S.nx+1⟩:=by
 unfold Qx at h
 simp only[jM,nU,Nat.dh]at h
 have hr:=hr _ h
 simp only[RO.to,St.S,jH,kj]at hr
 exact hr
theorem Xe(bn:P.follows .mixedOrders=true)(cP:∀g,(bX g).Ok P g){rec:dJ}(bJ:eO P rec){st:St}{o:bZ}{kr:RO->Option eF}{a:eF}(h:opX P bX md rec st o kr=some a){K:S->Prop}{X:V->S->Prop}(hr:∀r,kr r=some a->r.to K X):KZ P st.S o X K:=by
 have cr:∀r,crX st o.dst kr r=some a->r.to (fun v o' nx'=>K ⟨ba st.S.env o.dst v,o',nx'⟩) (fun v o' nx'=>X v ⟨st.S.env,o',nx'⟩):=by
  intro r hx
  unfold crX at hx
  split at hx
  ·simp only[jM,Nat.dh]at hx
   have hr:=hr _ hx
   simp only[RO.to,St.S,jH]at hr
   exact hr
  ·exact hr _ hx
 unfold opX at h
 unfold KZ
 cases gC:o.op
 case call c=>
  rw[gC]at h
  have h:MW c P bX md rec st o kr=some a:=h
  unfold MW at h
  cases hf:c.callee
  case value f=>
   simp only[hf]at h|-
   split at h
   ·rename_i g first cap hv
    simp only[hv]
    have:=Ds bn cP bJ h cr
    rcases this with⟨ds,fD,hP⟩|hC
    ·have Xf:cn st.S.o (first++List.map st.S.ev c.args.toList++cap)=some ds:=fD
     simp only[Xf]
     exact .inl hP
    ·split
     ·exact .inr (.inl hC)
     ·exact .inl hC
   ·rename_i id hv
    simp only[hv]
    exact Qy bn bJ h cr
   ·cases h
  case invoke r m=>
   simp only[hf]at h|-
   split at h
   ·rename_i g y hv
    simp only[hv]
    exact Ds bn cP bJ h cr
   ·cases h
  all_goals
   simp only[hf]at h|-
   have:=wC h hr
   rw[gC]at this
   exact this
 case panic x=>
  rw[gC]at h
  have h:Xc x P bX md rec st o kr=some a:=h
  unfold Xc at h
  split at h
  ·rename_i hv;simp only[hv];exact hr _ h
  ·rename_i hv;simp only[hv];exact hr _ h
  ·cases h
 case next x str=>
  rw[gC]at h
  have h:MY x str P bX md rec st o kr=some a:=h
  unfold MY at h
  have hl:pL st.S.o (st.S.ev x)=pL st.o.get (st.S.ev x):=rfl
  simp only[hl]
  split at h
  ·rename_i id l ax
   simp only[ax]
   cases str with
   |true=>cases h
   |false=>
    refine⟨rfl,fun e=> ?_,fun i k y e=> ?_⟩
    ·subst e
     exact HK h hr
    ·cases l with
     |nil=>simp at e
     |cons p l=>
      have:=MX h i (List.getElem?_eq_some_iff.1 e).1
      rw[e]at this
      exact HK this hr
  ·rename_i ax
   simp only[ax]
   have:=wC h hr
   rw[gC]at this
   exact this
 all_goals
  have h2:zA P st o kr=some a:=by rw[gC]at h;exact h
  have:=wC h2 hr
  rw[gC]at this
  exact this
theorem uZ(bn:P.follows .mixedOrders=true)(cP:∀g,(bX g).Ok P g){rec:dJ}(bJ:eO P rec){kr:RO->Option eF}{a:eF}{K:S->Prop}{X:V->S->Prop}(hr:∀r,kr r=some a->r.to K X):∀ (l:List bZ) (st:St),A8 P bX md rec kr l st=some a->qi P X K l st.S
 |[],st,h=>hr (.ok st) h
 |o::l,st,h=>by
  simp only[A8,jM,Nat.dh]at h
  simp only[qi]
  have op:opX P bX md rec st o (roK (A8 P bX md rec kr l) kr)=some a->KZ P st.S o X (qi P X K l):=by
   intro h
   refine Xe bn cP bJ h fun r hrr=> ?_
   cases r with
   |ok Xg=>exact uZ bn cP bJ hr l Xg hrr
   |bN v Xg=>exact hr (.bN v Xg) hrr
  have sk:A8 P bX md rec kr l ⟨tZ st.env o.dst (.bW []),st.o,st.nx+1⟩=some a->qi P X K l ⟨ba st.S.env o.dst (.bW []),st.S.o,st.S.nx+1⟩:=by
   intro h
   have:=uZ bn cP bJ hr l _ h
   exact LO
  cases hg:o.gd with
  |none=>simp only[hg]at h;exact op h
  |some p=>
   obtain⟨d,want⟩:=p
   simp only[hg]at h
   have he:st.S.env d=st.env.get d:=rfl
   simp only[he]
   cases hv:st.env.get d with
   |d x=>
    cases x with
    |bool b=>
     simp only[hv]at h|-
     by_cases e:b=want
     ·subst e
      simp only[beq_self_eq_true]at h
      rw[if_pos rfl];exact op h
     ·have:(b==want)=false:=by simpa using e
      rw[this]at h
      rw[if_neg e];exact sk h
    |_=>simp[hv]at h
   |bW vs=>
    cases vs with
    |nil=>simp only[hv]at h|-;exact sk h
    |cons a ct=>simp[hv]at h
   |_=>simp[hv]at h
end
end
end Go.Proofs.YtlhemmpklhhgoaaGreat
