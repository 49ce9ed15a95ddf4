/-
  A PART. Conditions: none.
-/
import Derived.Test.YtlhemmpklhhgoaaGreatQf10
set_option linter.unusedSimpArgs false
set_option linter.unusedVariables false
set_option maxHeartbeats 8000000
namespace Go.Proofs.YtlhemmpklhhgoaaGreat
section
def Yo(ops:Array Oper)(t t1:Nat):Prop:=
 (∃o1 o2,ops=#[o1,o2]/\o1.op= .call ⟨.builtin .recover,#[],#[]⟩/\o1.dst=some t/\o1.guard=none/\o2.op= .assign (.tmp t)/\o2.dst=some t1/\o2.guard=none)\/
 (∃o1,ops=#[o1]/\t1=t/\o1.op= .call ⟨.builtin .recover,#[],#[]⟩/\o1.dst=some t/\o1.guard=none)
structure D7 (P:Program) (g:FuncId) (n t t1:Nat) (ic:IC):Prop where
 get:∃fn id ops c,P.funcs[g]? =some fn/\(fn.name== "runtime.NumGoroutine")=false/\fn.ntmps=n/\fn.results=#[]/\fn.body=some (.seq (.region id ops false) c)/\
  Yo ops t t1/\t<n/\t1<n/\low n c=ic
structure IE (P:Program) (f:FuncId) (n:Nat) (kG fV:IC) (g:FuncId) (t:Nat) (bW:List Operand) (rs:List ResultVar):Prop where
 get:∃fn id o1 o2 a b d,P.funcs[f]? =some fn/\(fn.name== "runtime.NumGoroutine")=false/\fn.ntmps=n/\fn.results.toList=rs/\fn.body=some (.seq a d)/\(d= .seq (.region id #[o1,o2] false) b\/d= .scope (.seq (.region id #[o1,o2] false) b))/\
  o1.op= .makeFunc (.func g) #[] bW.toArray/\o1.dst=some t/\o1.guard=none/\o2.op= .defer ⟨.value (.tmp t),#[],#[]⟩/\o2.dst=none/\o2.guard=none/\t<n/\low n a=kG/\low n b=fV
def Lb(K:(Nat->aa)->Nat->Prop)(e:gr)(s:S):Prop:=match e with| .normal| .ret=>K s.o s.nx|_=>False
def Gz(P:Program)(n t t1:Nat)(ic:IC)(bW:List V)(u:V)(o:Nat->aa)(nx:Nat)(K:(Nat->aa)->Nat->Prop):Prop:=
 bW.length<=n/\vN P n nx true ic (Lb K) ⟨aw (aw (cG bW) t u) t1 u,o,nx⟩
def BI(P:Program)(n t t1:Nat)(ic:IC)(bW:List V)(rs:List ResultVar)(K X:V->(Nat->aa)->Nat->Prop)(e:gr)(s:S):Prop:=
 match e with
 | .normal| .ret=>Gz P n t t1 ic bW (.d .fE) s.o s.nx fun o nx=>nk P rs K X .ret ⟨s.env,o,nx⟩
 | .bU v=>Gz P n t t1 ic bW v s.o s.nx fun o nx=>nk P rs K X .ret ⟨s.env,o,nx⟩
 | .exit _=>False
def D8(P:Program)(n t:Nat)(fV:IC)(fY:List Operand)(g:FuncId)(D:List V->gr->S->Prop)(e:gr)(s:S):Prop:=
 match e with
 | .normal=>vN P n s.nx false fV (D (fY.map s.ev)) ⟨aw s.env t (.func (.func g) [] (fY.map s.ev)),s.o,s.nx⟩
 |_=>False
section
variable {P:Program}{M:Nat->Prop}{φ cY:Place}{H H0:Hp}{w w0:World}{n:Nat}{s:S}{a:Act}{cx:Cx}{k:Nat}
theorem Lc(bz:P.follows .mixedOrders=true){g:FuncId}{t t1:Nat}{ic:IC}(hg:D7 P g n t t1 ic){bW:List V}{u:V}{o:Nat->aa}{nx:Nat}{K:(Nat->aa)->Nat->Prop}(h:Gz P n t t1 ic bW u o nx K)
 {vals:Array Value} {val:Value} {m:FrameMode} (hH:aB M φ (hp o nx) w) (hd:V.aG (aq M φ (hp o nx)) φ (hp o nx) w bW vals.toList) (hv:V.den (aq M φ (hp o nx)) φ (hp o nx) w u val)
 (hm:(m= .returning/\val= .nilIface)\/m= .panicking [{v:=val,recovered:=false}]):
 CallsDIn (eB none) k P g vals m w fun e u' w'=>∃v aI o' nx',e= .returned v/\settle u'= .returning/\aB M aI (hp o' nx') w'/\Trans φ (hp o nx) w aI (hp o' nx') w'/\K o' nx':=by
 obtain⟨fn,id,ops,c,hf,Vk,RB,Dw,rU,MJ,ht,Fs,tK⟩:=hg.get
 have cD:g<P.funcs.size:=(Array.getElem?_eq_some_iff.1 hf).1
 obtain⟨pg,h⟩:=h
 have hlen:=V.aE _ _ hd
 refine⟨trivial,fun qK cs NM qe=> ?_⟩
 let b:Frame:={(default:Frame)with fn:=g,kind:= .deferred,roundOf:=none}
 let vR:Array Value:=vals++Array.replicate (fn.ntmps - vals.size) undef
 have agP:vR.size=n:=by simp only[vR,Array.size_append,Array.size_replicate];simp at hlen;omega
 have nj:Frame.enter P g vals .deferred=b.atR {tmps:=vR,defers:=[]} [.code (.seq (.region id ops false) c)]:=by
  simp[Frame.enter,Frame.atR,hf,rU,b,vR]
 obtain⟨m',hm',bP⟩:∃m',settle m'= .returning/\((recoverD (qK::cs)=none/\m'=m/\val= .nilIface)\/recoverD (qK::cs)=some (val,{qK with mode:=m'}::cs)):=by
  rcases hm with⟨rfl,rfl⟩|rfl
  ·exact⟨.returning,rfl, .inl ⟨by simp[recoverD,NM],rfl,rfl⟩⟩
  ·exact⟨.panicking [{v:=val,recovered:=true}],rfl, .inr (by simp[recoverD,NM])⟩
 have hc0:({qK with mode:=m}:Frame)=qK:=by subst NM;rfl
 let a1:Act:={tmps:=(vR.setIfInBounds t val).setIfInBounds t1 val,defers:=[]}
 have Rh:(Code.region id ops false).wpSIn (eB none) k P (fun e a' cs' w'=>e= .normal/\a'=a1/\cs'={qK with mode:=m'}::cs/\w'=w) {tmps:=vR,defers:=[]} (qK::cs) w:=by
  rcases MJ with⟨o1,o2,rfl,e1,e2,e3,e4,e5,e6⟩|⟨o1,rfl,rfl,e1,e2,e3⟩
  ·refine wpSIn_region ?_
   have hr:List.range (#[o1,o2]:Array Oper).size=[0,1]:=rfl
   have g0:(#[o1,o2]:Array Oper)[0]? =some o1:=rfl
   have g1:(#[o1,o2]:Array Oper)[1]? =some o2:=rfl
   rw[hr]
   have x1:∀ (ρ:Operand->Value) (w:World),(execOp ρ o1).run P w= .ok .recover w:=by
    intro ρ w
    simp[execOp,e1,resolve,invoke,builtin]
   have x2:∀ (ρ:Operand->Value) (w:World),(execOp ρ o2).run P w= .ok (.value (ρ (.tmp t))) w:=by
    intro ρ w
    simp[execOp,e4]
   have last:∀cs',cs'={qK with mode:=m'}::cs->wpOpsSIn (eB none) k P #[o1,o2] (fun e a' cs' w'=>e= .normal/\a'=a1/\cs'={qK with mode:=m'}::cs/\w'=w) [1] (({tmps:=vR,defers:=[]}:Act).put (some t) val) cs' w:=by
    rintro cs' rfl
    have hw:Region.wanted o2 (yielded #[o1,o2] (({tmps:=vR,defers:=[]}:Act).put (some t) val).tmps)=true:=by simp[Region.wanted,e6]
    have dH:(({tmps:=vR,defers:=[]}:Act).put (some t) val).eval (.tmp t)=val:=by
     have:t<vR.size:=ad
     simp[Act.put,Act.eval,Array.getD,this]
    simp only[wpOpsSIn,g1,hw,if_true,x2,dH,e5]
    refine⟨fun _ _=>trivial, ?_⟩
    simp[a1,Act.put]
   have hw:Region.wanted o1 (yielded #[o1,o2] vR)=true:=by simp[Region.wanted,e3]
   rw[wpOpsSIn,g0]
   refine⟨fun _ _=>trivial, ?_⟩
   simp only[hw,if_true,x1,e2]
   rcases bP with⟨hr,rfl,rfl⟩|hr
   ·simp only[hr]
    exact last _ (by rw[hc0])
   ·simp only[hr]
    exact last _ rfl
  ·refine wpSIn_region ?_
   have hr:List.range (#[o1]:Array Oper).size=[0]:=rfl
   have g0:(#[o1]:Array Oper)[0]? =some o1:=rfl
   rw[hr]
   have x1:∀ (ρ:Operand->Value) (w:World),(execOp ρ o1).run P w= .ok .recover w:=by
    intro ρ w
    simp[execOp,e1,resolve,invoke,builtin]
   have same:a1=({tmps:=vR,defers:=[]}:Act).put (some t1) val:=by
    simp only[a1,Act.put]
    congr 1
    apply Array.ext_getElem?
    intro j
    simp only[Array.getElem?_setIfInBounds]
    by_cases hj:t1=j
    ·subst hj;simp
    ·simp[hj]
   have last:∀cs',cs'={qK with mode:=m'}::cs->wpOpsSIn (eB none) k P #[o1] (fun e a' cs' w'=>e= .normal/\a'=a1/\cs'={qK with mode:=m'}::cs/\w'=w) [] (({tmps:=vR,defers:=[]}:Act).put (some t1) val) cs' w:=by
    rintro cs' rfl
    simp only[wpOpsSIn]
    exact⟨trivial,same.symm,trivial,trivial⟩
   have hw:Region.wanted o1 (yielded #[o1] vR)=true:=by simp[Region.wanted,e3]
   rw[wpOpsSIn,g0]
   refine⟨fun _ _=>trivial, ?_⟩
   simp only[hw,if_true,x1,e2]
   rcases bP with⟨hr,rfl,rfl⟩|hr
   ·simp only[hr]
    exact last _ (by rw[hc0])
   ·simp only[hr]
    exact last _ rfl
 obtain⟨er,ar,csr,wr,hl,⟨rfl,rfl,rfl,hwr⟩,dF⟩:=Rh b [.code c] rfl rfl trivial (fun d hd=>by simp[eB]at hd)
 rw[hwr]at dF
 let s0:S:=⟨aw (aw (cG bW) t u) t1 u,o,nx⟩
 have pQ:cB M φ (hp o nx) w n ⟨[],true⟩ φ s0 a1 w:=by
  refine⟨hH,Trans.refl _ _ _,by simp[a1,agP],⟨[],rfl,List.nodup_nil,fun _=>rfl,fun r hr=>by cases hr⟩,fun i=> ?_⟩
  have eR:=CU (m:=fn.ntmps - vals.size) hd i
  simp only[s0,a1,aQ]
  have ht0:t<vR.size:=ad
  have agQ:t1<vR.size:=ad
  by_cases h1:i=t1
  ·subst h1
   simp only[if_true]
   have:((vR.setIfInBounds t val).setIfInBounds i val).getD i undef=val:=by simp[Array.getD,agQ]
   rw[this];exact hv
  ·simp only[h1,if_false]
   have e1:((vR.setIfInBounds t val).setIfInBounds t1 val).getD i undef=(vR.setIfInBounds t val).getD i undef:=by
    exact T9
   rw[e1]
   by_cases h2:i=t
   ·subst h2
    simp only[if_true]
    have:(vR.setIfInBounds i val).getD i undef=val:=by simp[Array.getD,ht0]
    rw[this];exact hv
   ·simp only[h2,if_false]
    have e1:(vR.setIfInBounds t val).getD i undef=vR.getD i undef:=by
     simp only[Array.getD_eq_getD_getElem?]
     rw[Array.getElem?_setIfInBounds_ne (Ne.symm h2)]
    rw[e1];exact eR
 have hcw:=jj (P:=P) (n:=n) (b:=nx) (rd:=true) bz c _ _ s0 (fun _ _ h=>h) (by rw[tK];exact h)
 obtain⟨e,a',w',⟨x,s',aI,hq,kE,hx⟩,Il⟩:=je (P:=P) (H0:=hp o nx) (b:=nx) (cx:=⟨[],true⟩) (ro:=none) (fun id hu=>hu) (fun h=>by cases h) c _ s0 φ a1 w hcw pQ b [] ({qK with mode:=m'}::cs) rfl cD
 have i0:(lone (b.atR {tmps:=vR,defers:=[]} [.code (.seq (.region id ops false) c)]) (qK::cs) w).fenced P (eB none):=fenced_calm (n:=0) trivial iE rfl
 have Vl:StepsIn (Machine.fenced P (eB none)) P (lone (b.atR {tmps:=vR,defers:=[]} [.code (.seq (.region id ops false) c)]) (qK::cs) w) (lone (b.atR a1 [.code c]) ({qK with mode:=m'}::cs) w):= .head i0 stepR_seq dF
 have xk:a'.defers=[]:=by
  obtain⟨ms,g1,_,g3,_⟩:=kE.defers
  rw[g3 rfl]at g1;exact g1
 have adJ:∀tm:Array Value,∃v,(results fn tm).run P w'= .ok v w':=by
  intro tm
  refine⟨_,ow (vals:=[]) ?_⟩
  rw[Dw];rfl
 rw[nj]
 obtain⟨v,oe⟩:=adJ a'.tmps
 cases e<;>cases x<;>first|(exact hx.elim)|(exact hq.elim)|skip
 ·exact⟨.returned v,m',w',_,⟨v,aI,s'.o,s'.nx,rfl,hm',kE.heap,kE.tr,hq⟩,StepsIn.trans Vl (StepsIn.trans Il (.one (fenced_calm (n:=0) (fr:=b.atR a' []) trivial iE rfl) (stepR_end rfl))),rfl,rfl,rfl,xk,fn,hf,oe⟩
 ·obtain⟨todo,hs⟩:=Il.1 rfl
  exact⟨.returned v,m',w',_,⟨v,aI,s'.o,s'.nx,rfl,hm',kE.heap,kE.tr,hq⟩,StepsIn.trans Vl hs,rfl,rfl,rfl,xk,fn,hf,oe⟩
theorem D9{d c:Code}{ro:Option Nat}{Q:Exit->Act->World->Prop}{a:Act}{w:World}(h:d=c\/d= .scope c)(hg:∀l a w, ¬Q (.goto l) a w)(hc:c.vn P ro Q a w):d.vn P ro Q a w:=by
 rcases h with rfl|rfl
 ·exact hc
 ·exact zV hc hg
theorem bJ.Ea (bz:P.follows .mixedOrders=true){f g:FuncId}{kG fV Ak:IC}{t m r r1:Nat}{fY:List Operand}{rs:List ResultVar}(hf:IE P f n kG fV g t fY rs)(hg:D7 P g m r r1 Ak)
 {args:List V} {o:Nat->aa} {nx:Nat} {K X:V->(Nat->aa)->Nat->Prop} (hl:args.length<=n)
 (h:vN P n nx true kG (D8 P n t fV fY g fun bW=>BI P m r r1 Ak bW rs K X) ⟨cG args,o,nx⟩):bJ P f args o nx K X:=by
 obtain⟨fn,id,o1,o2,ca,cb,cd,FH,Vk,RB,Dw,rU,hsc,e1,e2,e3,e4,e5,e6,ht,hla,M0⟩:=hf.get
 obtain⟨gn,_,_,gc,tT,Yp,_,_,Yq,_⟩:=hg.get
 refine⟨⟨fn,FH,Vk,by rw[rU];rfl⟩,fun M φ w vals hH hd=> ?_⟩
 have hlen:=V.aE _ _ hd
 let s0:S:=⟨cG args,o,nx⟩
 let a0:Act:={tmps:=vals++Array.replicate (fn.ntmps - vals.size) undef,defers:=[]}
 have pQ:cB M φ (hp o nx) w n ⟨[],true⟩ φ s0 a0 w:=by
  exact acD
 have ha:=jj (P:=P) (n:=n) (b:=nx) (rd:=true) bz ca _ _ s0 (fun _ _ h=>h) (by rw[hla];exact h)
 refine Dr (ro:=none) (k:=0) (ox FH rU (Bl (iF (je (P:=P) (H0:=hp o nx) (b:=nx) (cx:=⟨[],true⟩) (ro:=none) (fun id hu=>hu) (fun h=>by cases h) ca _ s0 φ a0 w ha pQ) ?_)))
 rintro e a1 w1 ⟨x,s1,jI,hq,ta,hm⟩
 cases e<;>cases x<;>first|(exact hm.elim)|(exact hq.elim)|skip
 have xk:a1.defers=[]:=by
  obtain⟨ms,g1,_,g3,_⟩:=ta.defers
  rw[g3 rfl]at g1;exact g1
 let cv:Array Value:=(fY.map a1.eval).toArray
 let fv:Value:= .func (.func g) #[] cv
 let dd:Deferred:={target:= .fn (.func g) cv,args:=#[]}
 let a2:Act:={tmps:=a1.tmps.setIfInBounds t fv,defers:=[dd]}
 have Vm:V.aG (aq M jI s1.H) jI s1.H w1 (fY.map s1.ev) cv.toList:=by
  simpa[cv]using lE (M:=M) (φ:=jI) (H:=s1.H) (w:=w1) s1 a1 ta.env fY
 refine D9 hsc (fun l a w h=> ?_) ?_
 ·exact h.elim
 refine Bl (iF (Q:=fun e a w=>e= .normal/\a=a2/\w=w1) (qE (k:=0) (wpIn_region_list ?_)) ?_)
 ·have y1:Region.wanted o1 (yielded #[o1,o2] a1.tmps)=true:=by simp[Region.wanted,e3]
  have y2:∀tm,Region.wanted o2 (yielded #[o1,o2] tm)=true:=by intro tm;simp[Region.wanted,e6]
  have dH:(a1.put (some t) fv).eval (.tmp t)=fv:=by
   have:t<a1.tmps.size:=by rw[ta.size];exact ht
   simp[Act.put,Act.eval,Array.getD,this]
  show wpListIn (eB none) 0 P #[o1,o2] _ [o1,o2] a1 w1
  unfold wpListIn
  rw[if_pos y1]
  have x1:(execOp a1.eval o1).run P w1= .ok (.value fv) w1:=by simp[execOp,e1,fv,cv,Instr.makeFunc]
  refine lH (fun c hc=>by rw[e1]at hc;cases hc) ?_
  rw[x1]
  show wpListIn (eB none) 0 P #[o1,o2] _ [o2] (a1.put o1.dst fv) w1
  rw[e2]
  unfold wpListIn
  rw[if_pos (y2 _)]
  have x2:(execOp (a1.put (some t) fv).eval o2).run P w1= .ok (.defer dd) w1:=by
   simp[execOp,e4,resolve,dH,Deferred.ofValue,fv,dd]
  refine⟨fun _ _=>trivial, ?_⟩
  have:(o2.semAt (eB none).round (a1.put (some t) fv).eval)=execOp (a1.put (some t) fv).eval o2:=rfl
  rw[this,x2]
  unfold Oper.uponIn
  simp only[e5,wpListIn,Act.put,xk,a2,and_self]
 rintro e a w2 ⟨rfl,rfl,rfl⟩
 have Fs:t<a1.tmps.size:=by rw[ta.size];exact ht
 let s2:S:=⟨aw s1.env t (.func (.func g) [] (fY.map s1.ev)),s1.o,s1.nx⟩
 have Im:cB M jI s1.H w2 n ⟨[dd],false⟩ jI s2 a2 w2:=by
  refine⟨ta.heap,Trans.refl _ _ _,by simp[a2,ta.size],⟨[],rfl,List.nodup_nil,fun _=>rfl,fun r hr=>by cases hr⟩,fun i=> ?_⟩
  simp only[s2,a2,aQ]
  by_cases h1:i=t
  ·subst h1
   have:(a1.tmps.setIfInBounds i fv).getD i undef=fv:=by simp[Array.getD,Fs]
   simp only[if_true];rw[this]
   exact⟨#[],cv,rfl,rfl,Vm⟩
  ·have:(a1.tmps.setIfInBounds t fv).getD i undef=a1.tmps.getD i undef:=by
    exact T9
   simp only[h1,if_false];rw[this]
   exact ta.env i
 have hb:=jj (P:=P) (n:=n) (b:=s1.nx) (rd:=false) bz cb _ _ s2 (fun _ _ h=>h) (by rw[M0];exact hq)
 refine iF (je (P:=P) (H0:=s1.H) (b:=s1.nx) (cx:=⟨[dd],false⟩) (ro:=none) (fun id hu=>hu) (fun _=>rfl) cb _ s2 jI a2 w2 hb Im) ?_
 rintro e a3 w3 ⟨x,s3,φ3,hq3,Io,CA⟩
 obtain⟨ms,g1,g2,_,g4⟩:=Io.defers
 have hinv:(invoke dd.target dd.args).run P=fun w=> .ok (.enter g cv) w:=by
  funext w
  have:=mF (w:=w) ⟨gn,tT,Yp,by rw[Yq];rfl⟩ cv
  simpa[dd,invoke]using this
 have last:∀ {w4:World} {tm:Array Value} {u:V} {val:Value} {m0:FrameMode},m0≠ .run->Bn M jI s1.H w2 φ3 s3 a3.tmps w4->V.den (aq M φ3 s3.H) φ3 s3.H w4 u val->
  ((m0= .returning/\val= .nilIface)\/m0= .panicking [{v:=val,recovered:=false}])->
  (Gz P m r r1 Ak (fY.map s1.ev) u s3.o s3.nx fun o nx=>nk P rs K X .ret ⟨s3.env,o,nx⟩)->
  LeavesInM (eB none) 0 P fn a3.tmps (oj M φ (hp o nx) w K X) [dd] m0 w4:=by
  intro w4 tm u val m0 fW hB Kp hm0 bP
  have Yr:=V.aW hB.tr _ _ Vm
  refine⟨fW, .inr ⟨fun h=>by simp[eB]at h, .func g,cv,g,cv,rfl,by rw[hinv],fun _ _=>trivial,CallsDIn.mono (Lc (k:=0 - 1) bz hg bP (m:=m0) hB.heap Yr Kp hm0) ?_⟩⟩
  rintro e u' w5 ⟨v,φ5,o5,nx5,rfl,agR,k1,k2,k3⟩
  show LeavesInM (eB none) 0 P fn a3.tmps (oj M φ (hp o nx) w K X) [] (settle u') w5
  rw[agR]
  obtain⟨vs,h1,h2⟩:=Dz k3
  rw[<- Dw]at h1
  have adK:∀i,V.den (aq M φ5 (hp o5 nx5)) φ5 (hp o5 nx5) w5 (s3.env i) (a3.tmps.getD i undef):=fun i=>V.aV k2 _ _ (hB.env i)
  obtain⟨aim,h3,h4⟩:=vM (P:=P) (s:=⟨s3.env,o5,nx5⟩) (a:=a3) k1 adK _ _ h1
  exact⟨_,ow h3,φ5,o5,nx5,_,k1,ta.tr.trans (hB.tr.trans k2),DA h4,h2⟩
 have done:Gz P m r r1 Ak (fY.map s1.ev) (.d .fE) s3.o s3.nx (fun o nx=>nk P rs K X .ret ⟨s3.env,o,nx⟩)->LeavesInM (eB none) 0 P fn a3.tmps (oj M φ (hp o nx) w K X) a3.defers .returning w3:=by
  intro bP
  rw[g1]
  exact iG (P:=P) (k:=0) (fn:=fn) (R:=oj M φ (hp o nx) w K X) (u:= .returning) aF (ds:=[dd]) (fun w4 hB=>last (tm:=a3.tmps) aF hB (u:= .d .fE) (val:= .nilIface) (by simp[V.den,D.den]) (.inl ⟨rfl,rfl⟩) bP) ms w3 g2 g4 Io.toB
 cases e<;>cases x<;>first|(exact CA.elim)|skip
 ·exact done hq3
 ·exact hq3.elim
 ·exact done hq3
 ·rename_i v
  obtain⟨val,rfl,Rc⟩:=CA
  show LeavesInM (eB none) 0 P fn a3.tmps (oj M φ (hp o nx) w K X) a3.defers _ w3
  rw[g1]
  let adL:Nat->V:=fun i=>match i with|0=>v|i+1=>s3.env i
  have adM:(#[val]++a3.tmps).getD 0 undef=val:=by simp[Array.getD]
  have adN:∀i,(#[val]++a3.tmps).getD (i+1) undef=a3.tmps.getD i undef:=by
   intro i
   simp only[Array.getD_eq_getD_getElem?]
   rw[Array.getElem?_append_right (by simp)]
   simp
  have hb0:Bn M jI s1.H w2 φ3 ⟨adL,s3.o,s3.nx⟩ (#[val]++a3.tmps) w3:=⟨Io.heap,Io.tr,fun i=>by
   cases i with
   |zero=>rw[adM];exact Rc
   |succ i=>rw[adN];exact Io.env i⟩
  have adO:∀w4,Bn M jI s1.H w2 φ3 ⟨adL,s3.o,s3.nx⟩ (#[val]++a3.tmps) w4->LeavesInM (eB none) 0 P fn a3.tmps (oj M φ (hp o nx) w K X) [dd] (.panicking [{v:=val,recovered:=false}]) w4:=by
   intro w4 hB
   have hv4:=hB.env 0
   rw[adM]at hv4
   refine last (tm:=a3.tmps) aF ⟨hB.heap,hB.tr,fun i=> ?_⟩ hv4 (.inr rfl) hq3
   have hs:=hB.env (i+1)
   rw[adN]at hs
   exact hs
  exact iG (P:=P) (k:=0) (fn:=fn) (R:=oj M φ (hp o nx) w K X) (u:= .panicking [{v:=val,recovered:=false}]) aF (ds:=[dd]) adO ms w3 g2 g4 hb0
end
end
theorem CD.NN {P:Program}{g:FuncId}{ds:List D}{o:Nat->aa}{fr:Nat}{ty:TypeId}{sz:Nat}{es:List D}
 (h:bJ P g (ds.map .d) (fun _=> .no) 0 (fun v o1 _=>(∃j ep,v= .osl j ep/\o1 j= .arr ep ty sz es)\/(v= .ao/\es=[]/\0<sz)) (fun _ _ _=>False)):
 CD P g (ds.map .d) [] o fr (.osl fr 0) [(fr, .arr 0 ty sz es)]:=by
 refine⟨h.1,fun o' us M φ w vals _ dn hH hd=> ?_⟩
 let cY:Place:=fun _=> .nilFunc
 have uL:∀b, ¬cO cY (hp (fun _=> .no) 0) b:=by rintro b ⟨id,hl,_⟩;simp[hp,aa.live]at hl
 have hM:∀b,aq M φ ⟨o',us⟩ b->b<w.heap.size:=fun b hb=>hb.elim (hH.Cy b) fun hl=>(hH.ours b hl).2
 have zI:=(V.cT _ _).1 hd
 refine(h.2 (aq M φ ⟨o',us⟩) cY w vals (pk cY hM) ((V.cT _ _).2 (D.aW (w:=w) (w':=w) (B:=aq M φ ⟨o',us⟩) (fun b _ hB=>⟨rfl,fun h=>h.elim hB (uL b)⟩) _ _ zI))).mono ?_
 rintro e w' ⟨jI,o1,n1,v,k1,k2,k3⟩
 have hk:dZ (fun _=>False) w w':=⟨k2.cP.os,k2.cP.tape,k2.cP.output,k2.cP.size,fun k hk _=>k2.cP.block k hk (uL k)⟩
 have wx:(⟨o',us⟩:Hp).put [(fr, .arr 0 ty sz es)]=⟨put o' [(fr, .arr 0 ty sz es)],fun id=>us id\/id=fr⟩:=by
  simp only[Hp.put]
  congr 1
  funext id
  simp
 have fin:∀ (val:Value) (xs:List Value),(∀b,dY val=some b->w.heap.size<=b/\b<w'.heap.size)->0<sz->w'.ownsRow 0 ty sz val es.length xs->
  (dG (aq M (aw φ fr val) ((⟨o',us⟩:Hp).put [(fr, .arr 0 ty sz es)])) w' sz es xs)->
  val.oneCell'=true->
  ∃aI,aB M aI ⟨put o' [(fr, .arr 0 ty sz es)],fun id=>us id\/id=fr⟩ w'/\Trans φ ⟨o',us⟩ w aI ⟨put o' [(fr, .arr 0 ty sz es)],fun id=>us id\/id=fr⟩ w'/\
   ∃nv,Ending.returned val= .returned nv/\V.den (aq M aI ⟨put o' [(fr, .arr 0 ty sz es)],fun id=>us id\/id=fr⟩) aI ⟨put o' [(fr, .arr 0 ty sz es)],fun id=>us id\/id=fr⟩ w' (.osl fr 0) nv:=by
  intro val xs kK eD cn cL RC
  have rT:=jv hH hk dn (.arr 0 ty sz es) val kK (by
   unfold aU
   rw[show((⟨o',us⟩:Hp).put [(fr, .arr 0 ty sz es)]).o fr= .arr 0 ty sz es by simp]
   refine⟨eD,xs, ?_,cL⟩
   rw[show aw φ fr val fr=val by simp]
   exact cn)
  have Vn:=eh (φ:=φ) (H:=⟨o',us⟩) hk dn (.arr 0 ty sz es) val (fun b hb=>(kK b hb).1)
  rw[wx]at rT Vn
  refine⟨aw φ fr val,rT,Vn,val,rfl,RC, .inr rfl,fun e he=> ?_⟩
  have rb:0=e:=by
   have:(put o' [(fr,aa.arr 0 ty sz es)] fr).cu=some 0:=by simp[put,aa.cu]
   exact acq
  exact⟨ad,fun _=>aF⟩
 cases e with
 |outgrown=>exact k3.elim
 |panicked ch=>obtain⟨_,_,_,h⟩:=k3;exact h.elim
 |returned val=>
  obtain⟨g1,⟨j,ep,rfl,hj⟩|⟨rfl,rfl,eD⟩⟩:=k3
  ·obtain⟨v0,v1,v2⟩:=g1
   have fR:val=jI j:=(v2 ep (by show(o1 j).cu=some ep;rw[hj];rfl)).2 rfl
   have dg:∀b,dY val=some b->cO jI (hp o1 n1) b:=fun b hb=>⟨j,by show(o1 j).live=true;rw[hj];rfl,by rw[<- fR];exact hb⟩
   have kK:∀b,dY val=some b->w.heap.size<=b/\b<w'.heap.size:=fun b hb=>⟨(k2.grow b (dg b hb)).resolve_left (uL b),(k1.ours b (dg b hb)).2⟩
   have GA:=k1.ok j
   unfold aU at GA
   rw[show(hp o1 n1).o j= .arr ep ty sz es from hj]at GA
   obtain⟨eD,xs,cn,cL⟩:=GA
   have hBs:∀b,aq M (aw φ fr val) ((⟨o',us⟩:Hp).put [(fr, .arr 0 ty sz es)]) b->aq (aq M φ ⟨o',us⟩) jI (hp o1 n1) b:=by
    rintro b (hb|⟨id,hl,hb⟩)
    ·exact .inl (.inl hb)
    ·by_cases e:id=fr
     ·subst e
      simp at hb
      exact .inr (dg b hb)
     ·simp[e]at hl hb
      exact .inl (.inr ⟨id,hl,hb⟩)
   exact fin val xs kK eD (by rw[fR];exact cn) (cL.mono (w:=w') (w':=w') (fun b _ hB=>⟨rfl,fun h=>hB (hBs b h)⟩)) v0
  ·have g1:val= .slice none 0 0:=g1
   subst g1
   exact abX
theorem CD.RD {P:Program}{g:FuncId}{args:List V}{ds:List D}{o:Nat->aa}{fr:Nat}{ty:TypeId}{sz:Nat}{es:List D}
 (fT:cA o args=some ds) (re:D.kN es=true) (h:bJ P g (ds.map .d) (fun _=> .no) 0 (fun v o1 _=>(∃j ep,v= .osl j ep/\o1 j= .arr ep ty sz es)\/(v= .ao/\es=[]/\0<sz)) (fun _ _ _=>False)):
 CD P g args (V.bw args) o fr (.osl fr 0) [(fr, .arr 0 ty sz es)]:=by
 refine⟨h.1,fun o' us M φ w vals hag dn hH hd=> ?_⟩
 obtain⟨f1,f2,f3,f4,f5⟩:=dh hH (V.bw args) (fun id ay=>(hag id ay).2)
 generalize hHF:(⟨o',us⟩:Hp).put (bK (⟨o',us⟩:Hp).o (V.bw args))=HF at f1 f2 f3
 let cY:Place:=fun _=> .nilFunc
 have uL:∀b, ¬cO cY (hp (fun _=> .no) 0) b:=by rintro b ⟨id,hl,_⟩;simp[hp,aa.live]at hl
 have hM:∀b,aq M φ HF b->b<w.heap.size:=fun b hb=>hb.elim (f1.Cy b) fun hl=>(f1.ours b hl).2
 have zI:D.aG (aq M φ HF) w ds vals.toList:=dN f1 args ds _ (fun id ay=>by rw[f3 id ay];show(o' id).fz=(o id).fz;rw[(hag id ay).1]) fT (V.aW f2 _ _ hd)
 refine(h.2 (aq M φ HF) cY w vals (pk cY hM) ((V.cT _ _).2 (D.aW (w:=w) (w':=w) (B:=aq M φ HF) (fun b _ hB=>⟨rfl,fun h=>h.elim hB (uL b)⟩) _ _ zI))).mono ?_
 rintro e w' ⟨jI,o1,n1,v,k1,k2,k3⟩
 have hk:dZ (fun _=>False) w w':=⟨k2.cP.os,k2.cP.tape,k2.cP.output,k2.cP.size,fun k hk _=>k2.cP.block k hk (uL k)⟩
 have wx:(⟨o',us⟩:Hp).put [(fr, .arr 0 ty sz es)]=⟨put o' [(fr, .arr 0 ty sz es)],fun id=>us id\/id=fr⟩:=by
  simp only[Hp.put]
  congr 1
  funext id
  simp
 have fin:∀ (val:Value) (xs:List Value),(∀b,dY val=some b->w.heap.size<=b/\b<w'.heap.size)->0<sz->w'.ownsRow 0 ty sz val es.length xs->
  (dG (aq M (aw φ fr val) ((⟨o',us⟩:Hp).put [(fr, .arr 0 ty sz es)])) w' sz es xs)->
  val.oneCell'=true->
  ∃aI,aB M aI ⟨put o' [(fr, .arr 0 ty sz es)],fun id=>us id\/id=fr⟩ w'/\Trans φ ⟨o',us⟩ w aI ⟨put o' [(fr, .arr 0 ty sz es)],fun id=>us id\/id=fr⟩ w'/\
   ∃nv,Ending.returned val= .returned nv/\V.den (aq M aI ⟨put o' [(fr, .arr 0 ty sz es)],fun id=>us id\/id=fr⟩) aI ⟨put o' [(fr, .arr 0 ty sz es)],fun id=>us id\/id=fr⟩ w' (.osl fr 0) nv:=by
  intro val xs kK eD cn cL RC
  have rT:=jv hH hk dn (.arr 0 ty sz es) val kK (by
   unfold aU
   rw[show((⟨o',us⟩:Hp).put [(fr, .arr 0 ty sz es)]).o fr= .arr 0 ty sz es by simp]
   refine⟨eD,xs, ?_,cL⟩
   rw[show aw φ fr val fr=val by simp]
   exact cn)
  have Vn:=eh (φ:=φ) (H:=⟨o',us⟩) hk dn (.arr 0 ty sz es) val (fun b hb=>(kK b hb).1)
  rw[wx]at rT Vn
  refine⟨aw φ fr val,rT,Vn,val,rfl,RC, .inr rfl,fun e he=> ?_⟩
  have rb:0=e:=by
   have:(put o' [(fr,aa.arr 0 ty sz es)] fr).cu=some 0:=by simp[put,aa.cu]
   exact acq
  exact⟨ad,fun _=>aF⟩
 cases e with
 |outgrown=>exact k3.elim
 |panicked ch=>obtain⟨_,_,_,h⟩:=k3;exact h.elim
 |returned val=>
  obtain⟨g1,⟨j,ep,rfl,hj⟩|⟨rfl,rfl,eD⟩⟩:=k3
  ·obtain⟨v0,v1,v2⟩:=g1
   have fR:val=jI j:=(v2 ep (by show(o1 j).cu=some ep;rw[hj];rfl)).2 rfl
   have dg:∀b,dY val=some b->cO jI (hp o1 n1) b:=fun b hb=>⟨j,by show(o1 j).live=true;rw[hj];rfl,by rw[<- fR];exact hb⟩
   have kK:∀b,dY val=some b->w.heap.size<=b/\b<w'.heap.size:=fun b hb=>⟨(k2.grow b (dg b hb)).resolve_left (uL b),(k1.ours b (dg b hb)).2⟩
   have GA:=k1.ok j
   unfold aU at GA
   rw[show(hp o1 n1).o j= .arr ep ty sz es from hj]at GA
   obtain⟨eD,xs,cn,cL⟩:=GA
   obtain⟨evs,e1,e2,e3⟩:=cL
   exact fin val xs kK eD (by rw[fR];exact cn) ⟨evs,e1,e2,D.ng _ _ re e3⟩ v0
  ·have g1:val= .slice none 0 0:=g1
   subst g1
   exact abX
theorem CD.RE {P:Program}{g:FuncId}{args:List V}{ds:List D}{o0 o:Nat->aa}{rd:List Nat}{fr:Nat}{v:V}{Δ:List (Nat×aa)}(ay:V.bw args=[])(fT:cA o0 args=some ds)
 (h:CD P g (ds.map .d) rd o fr v Δ):CD P g args rd o fr v Δ:=
 ⟨h.1,fun o' us M φ w vals h1 h2 hH hd=>h.2 o' us M φ w vals h1 h2 hH ((V.cT _ _).2 (dN hH args ds _ (by rw[ay];intro id h;cases h) fT hd))⟩
def IF(P:Program)(f:FuncId):Prop:=
 Enters P f/\∀ (w:World) (b:Nat) (es:Array MapEntry) (clock:Nat),w.heap[b]? =some (.map es clock)->
  Calls P f #[.map (some b)] w fun e w'=>e= .returned (.map (some w.heap.size))/\w'=w.alloc (.map es clock)
theorem bJ.Ys {P:Program}{f:FuncId}(h:IF P f){o:Nat->aa}{nx id:Nat}{kt vt:TypeId}{l:List (D×D)}(ho:o id= .map kt vt l){K X:V->(Nat->aa)->Nat->Prop}
 (hK:K (.mp nx) (aw o nx (.map kt vt l)) (nx+1)):bJ P f [.mp id] o nx K X:=by
 refine⟨h.1,fun M φ w vals hH hd=> ?_⟩
 have hlen:=V.aE _ _ hd
 obtain⟨v,rfl⟩:∃v,vals=#[v]:=by
  match vals,hlen with
  |⟨[v]⟩,_=>exact⟨v,rfl⟩
 obtain⟨v',oe,Kp⟩:=V.dA _ _ 0 (.mp id) hd rfl
 simp only[List.getElem?_cons_zero,Option.some.injEq]at oe
 subst oe
 have a8:=hH.ok id
 have zk:(hp o nx).o id= .map kt vt l:=ho
 simp only[aU,zk]at a8
 obtain⟨b,es,clock,e1,e2,e3,e4⟩:=a8
 have hv:v=φ id:=Kp.2.2 (by rw[zk];rfl)
 rw[hv,e1]
 refine(h.2 w b es clock e2).mono fun e w' ⟨he,hw⟩=> ?_
 subst he;subst hw
 have dn: ¬ (hp o nx).us nx:=fun h=>Nat.lt_irrefl _ h
 have wx:(hp o nx).put [(nx, .map kt vt l)]=hp (aw o nx (.map kt vt l)) (nx+1):=by
  simp only[Hp.put,hp]
  congr 1
  funext j
  simp only[List.map_cons,List.map_nil,List.mem_singleton,eq_iff_iff]
  omega
 have MK:∀c,dY (.map (some w.heap.size))=some c->w.heap.size<=c/\c<(w.alloc (.map es clock)).heap.size:=by
  intro c hc;simp[dY]at hc;subst hc;simp
 have ht:=eh (φ:=φ) (H:=hp o nx) (cE w (.map es clock)) dn (.map kt vt l) (.map (some w.heap.size)) fun c hc=>(MK c hc).1
 refine⟨aw φ nx (.map (some w.heap.size)),aw o nx (.map kt vt l),nx+1, .mp nx, ?_, ?_, ?_,hK⟩
 ·exact acB
 ·rw[<- wx];exact ht
 ·rw[<- wx];exact⟨rfl,aF,fun _=>aF⟩
theorem bJ.IG {P:Program}{f:FuncId}(h:IF P f){o:Nat->aa}{nx id:Nat}{kt vt:TypeId}{l:List (D×D)}(ho:o id= .bZ l){K X:V->(Nat->aa)->Nat->Prop}
 (hK:K (.mp nx) (aw o nx (.map kt vt l)) (nx+1)):bJ P f [.mp id] o nx K X:=by
 refine⟨h.1,fun M φ w vals hH hd=> ?_⟩
 have hlen:=V.aE _ _ hd
 obtain⟨v,rfl⟩:∃v,vals=#[v]:=by
  match vals,hlen with
  |⟨[v]⟩,_=>exact⟨v,rfl⟩
 obtain⟨v',oe,Kp⟩:=V.dA _ _ 0 (.mp id) hd rfl
 simp only[List.getElem?_cons_zero,Option.some.injEq]at oe
 subst oe
 have a8:=hH.ok id
 have zk:(hp o nx).o id= .bZ l:=ho
 simp only[aU,zk]at a8
 obtain⟨b,es,clock,e1,e2,_,e3,e4⟩:=a8
 have hv:v=φ id:=Kp.2.2 (by rw[zk];rfl)
 rw[hv,e1]
 refine(h.2 w b es clock e2).mono fun e w' ⟨he,hw⟩=> ?_
 subst he;subst hw
 have dn: ¬ (hp o nx).us nx:=fun h=>Nat.lt_irrefl _ h
 have wx:(hp o nx).put [(nx, .map kt vt l)]=hp (aw o nx (.map kt vt l)) (nx+1):=by
  simp only[Hp.put,hp]
  congr 1
  funext j
  simp only[List.map_cons,List.map_nil,List.mem_singleton,eq_iff_iff]
  omega
 have MK:∀c,dY (.map (some w.heap.size))=some c->w.heap.size<=c/\c<(w.alloc (.map es clock)).heap.size:=by
  intro c hc;simp[dY]at hc;subst hc;simp
 have ht:=eh (φ:=φ) (H:=hp o nx) (cE w (.map es clock)) dn (.map kt vt l) (.map (some w.heap.size)) fun c hc=>(MK c hc).1
 refine⟨aw φ nx (.map (some w.heap.size)),aw o nx (.map kt vt l),nx+1, .mp nx, ?_, ?_, ?_,hK⟩
 ·exact acB
 ·rw[<- wx];exact ht
 ·rw[<- wx];exact⟨rfl,aF,fun _=>aF⟩
section
inductive Tr (α:Type) where
 |e (f:Nat->α)
 |n (x:α) (l r:Tr α)
noncomputable def Tr.get {α:Type}(t:Tr α):Nat->α:=
 Tr.rec (motive:=fun _=>Nat->α) (fun f=>f) (fun x _ _ l r k=>Bool.rec (Bool.rec (r (Nat.sub (Nat.div k 2) 1)) (l (Nat.div k 2)) (Nat.beq (Nat.mod k 2) 1)) x (Nat.beq k 0)) t
theorem Tr.II {α:Type}(f:Nat->α):(Tr.e f).get=f:=rfl
noncomputable def Tr.xm {α:Type}(x:α):Nat->Tr α->Nat->Tr α
 |0,t,k=> .e (aw t.get k x)
 |d+1, .e f,k=>match Nat.beq k 0 with
  |true=> .n x (.e fun i=>f (2*i+1)) (.e fun i=>f (2*i+2))
  |false=>match Nat.beq (k%2) 1 with
   |true=> .n (f 0) (Tr.xm x d (.e fun i=>f (2*i+1)) (k/2)) (.e fun i=>f (2*i+2))
   |false=> .n (f 0) (.e fun i=>f (2*i+1)) (Tr.xm x d (.e fun i=>f (2*i+2)) (k/2 - 1))
 |d+1, .n y l r,k=>match Nat.beq k 0 with
  |true=> .n x l r
  |false=>match Nat.beq (k%2) 1 with
   |true=> .n y (Tr.xm x d l (k/2)) r
   |false=> .n y l (Tr.xm x d r (k/2 - 1))
noncomputable def Tr.set {α:Type}(t:Tr α)(k:Nat)(x:α):Tr α:=Tr.xm x 24 t k
theorem Tr.xn {α:Type}{x:α}{l r:Tr α}{k:Nat}:(Tr.n x l r).get k=if k=0 then x else if k%2=1 then l.get (k/2)else r.get (k/2 - 1):=by
 show @Bool.rec (fun _=>α) (@Bool.rec (fun _=>α) (r.get (k/2 - 1)) (l.get (k/2)) (Nat.beq (k%2) 1)) x (Nat.beq k 0)=_
 by_cases h:k=0
 ·subst h;rfl
 ·have:Nat.beq k 0=false:=by cases k with|zero=>exact absurd rfl h|succ k=>rfl
  simp only[this,h,if_false]
  by_cases h2:k%2=1
  ·simp[h2]
  ·have:Nat.beq (k%2) 1=false:=by
    cases hb:Nat.beq (k%2) 1 with
    |false=>rfl
    |true=>exact absurd (Nat.eq_of_beq_eq_true hb) h2
   simp[h2,this]
theorem Tr.oH {α:Type}(x:α):∀ (d:Nat) (t:Tr α) (k:Nat),(Tr.xm x d t k).get=aw t.get k x
 |0,t,k=>rfl
 |d+1, .e f,k=>by
  funext i
  simp only[Tr.xm]
  have hb:∀a b:Nat,Nat.beq a b=decide (a=b):=fun a b=>by
   cases h:Nat.beq a b with
   |true=>simp[Nat.eq_of_beq_eq_true h]
   |false=>simp[Nat.ne_of_beq_eq_false h]
  rw[hb,hb]
  by_cases h:k=0
  ·subst h
   simp only[decide_true,Tr.xn,aQ]
   by_cases hi:i=0
   ·simp[hi]
   ·simp only[hi,if_false]
    by_cases h2:i%2=1
    ·simp only[h2,if_true,Tr.II];congr 1;omega
    ·simp only[h2,if_false,Tr.II];congr 1;omega
  ·simp only[h,decide_false]
   by_cases hk:k%2=1
   ·simp only[hk,decide_true,Tr.xn,Tr.oH x d,aQ,Tr.II]
    by_cases hi:i=0
    ·exact HK
    ·simp only[hi,if_false]
     by_cases h2:i%2=1
     ·simp only[h2,if_true]
      have e1:2*(i/2)+1=i:=ad
      rw[e1]
      by_cases e:i=k
      ·simp[e]
      ·exact HC
     ·simp only[h2,if_false]
      rw[if_neg (by intro e;subst e;exact h2 hk)]
      congr 1;omega
   ·simp only[hk,decide_false,Tr.xn,Tr.oH x d,aQ,Tr.II]
    by_cases hi:i=0
    ·exact HK
    ·simp only[hi,if_false]
     by_cases h2:i%2=1
     ·simp only[h2,if_true]
      rw[if_neg (by intro e;subst e;exact hk h2)]
      congr 1;omega
     ·simp only[h2,if_false]
      have e1:2*(i/2 - 1)+2=i:=ad
      rw[e1]
      by_cases e:i=k
      ·simp[e]
      ·exact HC
 |d+1, .n y l r,k=>by
  funext i
  simp only[Tr.xm]
  have hb:∀a b:Nat,Nat.beq a b=decide (a=b):=fun a b=>by
   cases h:Nat.beq a b with
   |true=>simp[Nat.eq_of_beq_eq_true h]
   |false=>simp[Nat.ne_of_beq_eq_false h]
  rw[hb,hb]
  by_cases h:k=0
  ·subst h
   simp only[decide_true,Tr.xn,aQ]
   by_cases hi:i=0
   ·simp[hi]
   ·simp[hi]
  ·simp only[h,decide_false]
   by_cases hk:k%2=1
   ·simp only[hk,decide_true,Tr.xn,Tr.oH x d,aQ]
    by_cases hi:i=0
    ·exact HK
    ·simp only[hi,if_false]
     by_cases h2:i%2=1
     ·simp only[h2,if_true]
      by_cases e:i=k
      ·simp[e]
      ·exact HC
     ·simp only[h2,if_false]
      rw[if_neg (by intro e;subst e;exact h2 hk)]
   ·simp only[hk,decide_false,Tr.xn,Tr.oH x d,aQ]
    by_cases hi:i=0
    ·exact HK
    ·simp only[hi,if_false]
     by_cases h2:i%2=1
     ·simp only[h2,if_true]
      rw[if_neg (by intro e;subst e;exact hk h2)]
     ·simp only[h2,if_false]
      by_cases e:i=k
      ·simp[e]
      ·exact HC
theorem Tr.iI {α:Type}(t:Tr α)(k:Nat)(x:α):(t.set k x).get=aw t.get k x:=Tr.oH x 24 t k
noncomputable def Nat.fc {β:Type}(n:Nat)(c:Nat->β):β:=Nat.rec (motive:=fun _=>β) (c 0) (fun m _=>c (Nat.succ m)) n
theorem Nat.dv {β:Type}(n:Nat)(c:Nat->β):Nat.fc n c=c n:=by cases n<;>rfl
noncomputable def Int.fc {β:Type}(n:Int)(c:Int->β):β:=Int.rec (motive:=fun _=>β) (fun m=>Nat.fc m fun m=>c (.ofNat m)) (fun m=>Nat.fc m fun m=>c (.negSucc m)) n
theorem Int.dv {β:Type}(n:Int)(c:Int->β):Int.fc n c=c n:=by cases n<;>simp only[Int.fc,Nat.dv]
mutual
noncomputable def D.fc {β:Type}:D->(D->β)->β
 | .int k n,c=>Int.fc n fun n=>c (.int k n)
 | .bool b,c=>match b with|true=>c (.bool true)|false=>c (.bool false)
 | .agg l,c=>D.xo l fun l=>c (.agg l)
 | .sl l,c=>D.xo l fun l=>c (.sl l)
 | .iface t x,c=>D.fc x fun x=>c (.iface t x)
 | .str s,c=>c (.str s)
 | .fE,c=>c .fE
 | .mu,c=>c .mu
 | .cJ,c=>c .cJ
 | .dX,c=>c .dX
 | .mp ks vs,c=>D.xo ks fun ks=>D.xo vs fun vs=>c (.mp ks vs)
noncomputable def D.xo {β:Type}:List D->(List D->β)->β
 |[],c=>c []
 |x::xs,c=>D.fc x fun x=>D.xo xs fun xs=>c (x::xs)
end
mutual
theorem D.dv {β:Type}:∀ (x:D) (c:D->β),D.fc x c=c x
 | .int k n,c=>by simp only[D.fc,Int.dv]
 | .bool b,c=>by cases b<;>rfl
 | .agg l,c=>by simp only[D.fc,D.gv l]
 | .sl l,c=>by simp only[D.fc,D.gv l]
 | .iface t x,c=>by simp only[D.fc,D.dv x]
 | .mp ks vs,c=>by simp only[D.fc,D.gv ks,D.gv vs]
 | .str _,_| .fE,_| .mu,_| .cJ,_| .dX,_=>by simp only[D.fc]
theorem D.gv {β:Type}:∀ (x:List D) (c:List D->β),D.xo x c=c x
 |[],c=>by simp only[D.xo]
 |x::xs,c=>by simp only[D.xo,D.dv x,D.gv xs]
end
mutual
noncomputable def V.fc {β:Type}:V->(V->β)->β
 | .d x,c=>D.fc x fun x=>c (.d x)
 | .agg l,c=>V.xo l fun l=>c (.agg l)
 | .cf l,c=>V.xo l fun l=>c (.cf l)
 | .ptr i o,c=>Nat.fc i fun i=>Nat.fc o fun o=>c (.ptr i o)
 | .osl i o,c=>Nat.fc i fun i=>Nat.fc o fun o=>c (.osl i o)
 | .pe a b i j k,c=>Nat.fc a fun a=>Nat.fc b fun b=>Nat.fc i fun i=>Nat.fc j fun j=>Nat.fc k fun k=>c (.pe a b i j k)
 | .pp l o,c=>D.xo l fun l=>Nat.fc o fun o=>c (.pp l o)
 | .func f a b,c=>V.xo a fun a=>V.xo b fun b=>c (.func f a b)
 | .iface t x,c=>V.fc x fun x=>c (.iface t x)
 | .pY l,c=>D.xo l fun l=>c (.pY l)
 | .zA i j k,c=>Nat.fc i fun i=>Nat.fc j fun j=>Nat.fc k fun k=>c (.zA i j k)
 | .mp i,c=>Nat.fc i fun i=>c (.mp i)
 | .lC i,c=>Nat.fc i fun i=>c (.lC i)
 | .ao,c=>c .ao
 | .ai,c=>c .ai
 | .gh,c=>c .gh
noncomputable def V.xo {β:Type}:List V->(List V->β)->β
 |[],c=>c []
 |x::xs,c=>V.fc x fun x=>V.xo xs fun xs=>c (x::xs)
end
mutual
theorem V.dv {β:Type}:∀ (x:V) (c:V->β),V.fc x c=c x
 | .d x,c=>by simp only[V.fc,D.dv]
 | .agg l,c=>by simp only[V.fc,V.gv l]
 | .cf l,c=>by simp only[V.fc,V.gv l]
 | .pp l o,c=>by simp only[V.fc,D.gv,Nat.dv]
 | .func f a b,c=>by simp only[V.fc,V.gv a,V.gv b]
 | .iface t x,c=>by simp only[V.fc,V.dv x]
 | .pY l,c=>by simp only[V.fc,D.gv]
 | .ptr _ _,_| .osl _ _,_| .pe _ _ _ _ _,_| .zA _ _ _,_| .mp _,_| .lC _,_| .ao,_| .ai,_| .gh,_=>by simp only[V.fc,Nat.dv]
theorem V.gv {β:Type}:∀ (x:List V) (c:List V->β),V.xo x c=c x
 |[],c=>by simp only[V.xo]
 |x::xs,c=>by simp only[V.xo,V.dv x,V.gv xs]
end
section
variable {β:Type}
noncomputable def adP(k:IntKind)(n:Int)(c:V->β):β:=Int.fc n fun n=>c (.d (.int k n))
noncomputable def adQ(b:Bool)(c:V->β):β:= @Bool.rec (fun _=>β) (c (.d (.bool false))) (c (.d (.bool true))) b
noncomputable def Yt(x:D)(c:V->β):β:=D.fc x fun x=>c (.d x)
noncomputable def vD(x:D):(V->β)->β:=match x with| .int k n=>adP k n| .bool b=>adQ b|x=>Yt x
noncomputable def adR(i o:Nat)(c:V->β):β:=Nat.fc i fun i=>Nat.fc o fun o=>c (.ptr i o)
noncomputable def adS(i o:Nat)(c:V->β):β:=Nat.fc i fun i=>Nat.fc o fun o=>c (.osl i o)
noncomputable def vPe(a b i j k:Nat)(c:V->β):β:=Nat.fc a fun a=>Nat.fc b fun b=>Nat.fc i fun i=>Nat.fc j fun j=>Nat.fc k fun k=>c (.pe a b i j k)
noncomputable def V.fck (v:V):(V->β)->β:=match v with| .d x=>vD x| .ptr i o=>adR i o| .osl i o=>adS i o| .pe a b i j k=>vPe a b i j k|v=>V.fc v
theorem V.Yu (v:V)(c:V->β):V.fck v c=c v:=by
 cases v
 case d x=>
  cases x
  case int k n=>simp only[V.fck,vD,adP,Int.dv]
  case bool b=>cases b<;>rfl
  all_goals exact D.dv _ _
 case ptr i o=>simp only[V.fck,adR,Nat.dv]
 case osl i o=>simp only[V.fck,adS,Nat.dv]
 case pe a b i j k=>simp only[V.fck,vPe,Nat.dv]
 all_goals exact V.dv _ _
end
noncomputable def pfc{β:Type}:List (D×D)->(List (D×D)->β)->β
 |[],c=>c []
 |(a,b)::l,c=>D.fc a fun a=>D.fc b fun b=>pfc l fun l=>c ((a,b)::l)
theorem NO{β:Type}:∀ (x:List (D×D)) (c:List (D×D)->β),pfc x c=c x
 |[],c=>rfl
 |(a,b)::l,c=>by simp only[pfc,D.dv,NO l]
noncomputable def aa.fc {β:Type}(x:aa)(c:aa->β):β:=
 match x with
 | .row cs=>V.xo cs fun cs=>c (.row cs)
 | .arr e t s es=>Nat.fc e fun e=>Nat.fc s fun s=>D.xo es fun es=>c (.arr e t s es)
 | .vg e es=>Nat.fc e fun e=>D.xo es fun es=>c (.vg e es)
 | .map kt vt l=>pfc l fun l=>c (.map kt vt l)
 | .bZ l=>pfc l fun l=>c (.bZ l)
 | .s8 l last=>pfc l fun l=>c (.s8 l last)
 | .A4 l pos=>Nat.fc pos fun pos=>c (.A4 l pos)
 |x=>c x
theorem aa.dv {β:Type}(x:aa)(c:aa->β):aa.fc x c=c x:=by cases x<;>simp only[aa.fc,V.gv,D.gv,Nat.dv,NO]
noncomputable def Tr.Am {α β:Type}(x:α)(d:Nat):Tr α->Nat->(Tr α->β)->β:=
 Nat.rec (motive:=fun _=>Tr α->Nat->(Tr α->β)->β) (fun t k c=>c (.e (aw t.get k x)))
  (fun _ ih t k c=>Tr.rec (motive:=fun _=>β) (fun f=>
   Bool.rec (Bool.rec (ih (.e fun i=>f (2*i+2)) (Nat.sub (Nat.div k 2) 1) fun r=>c (.n (f 0) (.e fun i=>f (2*i+1)) r)) (ih (.e fun i=>f (2*i+1)) (Nat.div k 2) fun l=>c (.n (f 0) l (.e fun i=>f (2*i+2)))) (Nat.beq (Nat.mod k 2) 1))
    (c (.n x (.e fun i=>f (2*i+1)) (.e fun i=>f (2*i+2)))) (Nat.beq k 0))
   (fun y l r _ _=>Bool.rec (Bool.rec (ih r (Nat.sub (Nat.div k 2) 1) fun r=>c (.n y l r)) (ih l (Nat.div k 2) fun l=>c (.n y l r)) (Nat.beq (Nat.mod k 2) 1)) (c (.n x l r)) (Nat.beq k 0)) t) d
theorem Tr.xp {α β:Type}(x:α):∀ (d:Nat) (t:Tr α) (k:Nat) (c:Tr α->β),Tr.Am x d t k c=c (Tr.xm x d t k)
 |0,t,k,c=>rfl
 |d+1, .e f,k,c=>by
  show @Bool.rec (fun _=>β) (@Bool.rec (fun _=>β) (Tr.Am x d (.e fun i=>f (2*i+2)) (k/2 - 1) fun r=>c (.n (f 0) (.e fun i=>f (2*i+1)) r)) (Tr.Am x d (.e fun i=>f (2*i+1)) (k/2) fun l=>c (.n (f 0) l (.e fun i=>f (2*i+2)))) (Nat.beq (k%2) 1)) (c (.n x (.e fun i=>f (2*i+1)) (.e fun i=>f (2*i+2)))) (Nat.beq k 0)=_
  simp only[Tr.xm,Tr.xp x d]
  cases Nat.beq k 0
  ·cases Nat.beq (k%2) 1<;>rfl
  ·rfl
 |d+1, .n y l r,k,c=>by
  show @Bool.rec (fun _=>β) (@Bool.rec (fun _=>β) (Tr.Am x d r (k/2 - 1) fun r=>c (.n y l r)) (Tr.Am x d l (k/2) fun l=>c (.n y l r)) (Nat.beq (k%2) 1)) (c (.n x l r)) (Nat.beq k 0)=_
  simp only[Tr.xm,Tr.xp x d]
  cases Nat.beq k 0
  ·cases Nat.beq (k%2) 1<;>rfl
  ·rfl
noncomputable def Tr.Yv {α β:Type}(t:Tr α)(k:Nat)(x:α)(c:Tr α->β):β:=Tr.Am x 24 t k c
theorem Tr.IJ {α β:Type}(t:Tr α)(k:Nat)(x:α)(c:Tr α->β):t.Yv k x c=c (t.set k x):=Tr.xp x 24 t k c
structure St where
 env:Tr V
 o:Tr aa
 nx:Nat
noncomputable def St.S (st:St):S:=⟨st.env.get,st.o.get,st.nx⟩
noncomputable def Ld(o:Tr aa)(Δ:List (Nat×aa)):Tr aa:=Δ.foldl (fun f x=>f.set x.1 x.2) o
noncomputable def uT(env:Tr V)(dst:Option Tmp)(v:V):Tr V:=match dst with|some d=>env.set d v|none=>env
noncomputable def xq{β:Type}(o:Tr aa):List (Nat×aa)->(Tr aa->β)->β
 |[],c=>c o
 |(i,x)::Δ,c=>aa.fc x fun x=>o.Yv i x fun o=>xq o Δ c
theorem oI{β:Type}:∀ (Δ:List (Nat×aa)) (o:Tr aa) (c:Tr aa->β),xq o Δ c=c (Ld o Δ)
 |[],o,c=>rfl
 |(i,x)::Δ,o,c=>by simp only[xq,aa.dv,Tr.IJ,oI Δ];rfl
noncomputable def ny{β:Type}(env:Tr V)(dst:Option Tmp)(v:V)(c:Tr V->β):β:=match dst with|some d=>V.fck v fun v=>env.Yv d v c|none=>c env
theorem kn{β:Type}(env:Tr V)(dst:Option Tmp)(v:V)(c:Tr V->β):ny env dst v c=c (uT env dst v):=by
 cases dst<;>simp only[ny,uT,V.Yu,Tr.IJ]
theorem kT:∀ (Δ:List (Nat×aa)) (o:Tr aa),(Ld o Δ).get=put o.get Δ
 |[],_=>rfl
 |x::Δ,o=>by
  simp only[Ld,put,List.foldl_cons]
  have:=kT Δ (o.set x.1 x.2)
  simp only[Ld,put]at this
  rw[this,Tr.iI]
theorem j8(env:Tr V)(dst:Option Tmp)(v:V):(uT env dst v).get=ba env.get dst v:=by
 cases dst<;>simp[uT,ba,Tr.iI]
section Yw
def Vo(x:Operand)(_:Program)(s:S)(_:Nat):Option gS:=one (s.ev x)
def adT(c a b:Operand)(_:Program)(s:S)(_:Nat):Option gS:=nq (rV (s.ev c) (s.ev a) (s.ev b))
def Yx(t:TypeId)(parts:Array (Nat×Operand))(P:Program)(s:S)(_:Nat):Option gS:=nq (Bp P t (parts.toList.map fun p=>(p.1,s.ev p.2)))
def Eb(t:TypeId)(len:Nat)(parts:Array (Nat×Operand))(P:Program)(s:S)(fr:Nat):Option gS:=hY P s.o fr t len (parts.toList.map fun p=>(p.1,s.ev p.2))
def adU(t:TypeId)(x:Operand)(P:Program)(s:S)(_:Nat):Option gS:=oz P s.o t (s.ev x)
def Yy(t:TypeId)(x v:Operand)(P:Program)(s:S)(_:Nat):Option gS:=tH P s.o t (s.ev x) (s.ev v)
def agS(x:Operand)(_:Program)(s:S)(_:Nat):Option gS:=nq (j9 s.o (s.ev x))
noncomputable def adV(op:BinOp):IntKind->Int->Int->Option V:=
 match op with
 | .add=>fun k a b=>some (.d (.int k (k.wrap (Int.add a b))))
 | .sub=>fun k a b=>some (.d (.int k (k.wrap (Int.sub a b))))
 | .mul=>fun k a b=>some (.d (.int k (k.wrap (Int.mul a b))))
 |op=>DB op
theorem RF(op:BinOp):adV op=DB op:=by cases op<;>rfl
def asInt(x:V):Option (IntKind×Int):=match x with| .d (.int k a)=>some (k,a)|_=>none
def NP(op:BinOp)(t:TypeId)(c:Bool)(x y:V)(P:Program)(o:Nat->aa):Option gS:=fZ P o op t c x y
noncomputable def adW(op:BinOp)(t:TypeId)(x y:Operand)(P:Program)(s:S)(_:Nat):Option gS:=
 match asInt (s.ev x)with
 |some (k,a)=>match asInt (s.ev y)with
  |some (k',b)=>if k=k' then match adV op k a b with
   |some v=>some (v,[],[])
   |none=>NP op t (isConst x||isConst y) (s.ev x) (s.ev y) P s.o
   else none
  |none=>NP op t (isConst x||isConst y) (s.ev x) (s.ev y) P s.o
 |none=>NP op t (isConst x||isConst y) (s.ev x) (s.ev y) P s.o
theorem Ec{x:V}{k:IntKind}{a:Int}(h:asInt x=some (k,a)):x= .d (.int k a):=by
 unfold asInt at h;split at h
 ·injection h with h;cases h;rfl
 ·cases h
def GC(t:TypeId)(x:Operand)(f:Nat)(P:Program)(s:S)(_:Nat):Option gS:=nq (jg P s.o t (s.ev x) f)
def GD(t:TypeId)(x i:Operand)(P:Program)(s:S)(_:Nat):Option gS:=jf P s.o t (s.ev x) (s.ev i)
def Yz(op:Op)(P:Program)(s:S)(fr:Nat):Option gS:=iu P s fr op
noncomputable def RG(op:Op):Program->S->Nat->Option gS:=
 match op with
 | .move x=>Vo x
 | .assign x=>Vo x
 | .pick c a b=>adT c a b
 | .build t parts=>Yx t parts
 | .buildSlice t len parts=>Eb t len parts
 | .load t x=>adU t x
 | .store t x v=>Yy t x v
 | .nilCheck x=>agS x
 | .binOp op t x y _=>adW op t x y
 | .fieldAddr t x f=>GC t x f
 | .indexAddr t x i=>GD t x i
 |op=>Yz op
theorem IK{op:Op}{P:Program}{s:S}{fr:Nat}{r:gS}(h:RG op P s fr=some r):iu P s fr op=some r:=by
 cases op
 case binOp op t x y yt=>
  simp only[RG,adW,RF]at h
  have e:iu P s fr (.binOp op t x y yt)=fZ P s.o op t (isConst x||isConst y) (s.ev x) (s.ev y):=rfl
  rw[e]
  split at h
  ·rename_i k a hx
   split at h
   ·rename_i k' b hy
    split at h
    ·rename_i hk
     split at h
     ·rename_i v hv
      unfold fZ Bo
      simp only[Ec hx,Ec hy,if_pos hk,hv]
      exact h
     ·exact h
    ·cases h
   ·exact h
  ·exact h
 all_goals exact h
end Yw
inductive FD where
 |fn (n:Nat) (ic:IC) (rs:List ResultVar)
 |dfr (n:Nat) (kG fV:IC) (g t:Nat) (fY:List Operand) (rs:List ResultVar) (m r r1:Nat) (Ak:IC)
 |mpc
 |no
def FD.Ok (P:Program)(f:Nat):FD->Prop
 | .fn n ic rs=>aS P f n ic rs
 | .dfr n kG fV g t fY rs m r r1 Ak=>IE P f n kG fV g t fY rs/\D7 P g m r r1 Ak
 | .mpc=>IF P f
 | .no=>True
inductive CR where
 |ret (v:V) (o:Tr aa) (nx:Nat)|bU (v:V) (o:Tr aa) (nx:Nat)
def CR.to (K X:V->(Nat->aa)->Nat->Prop):CR->Prop
 | .ret v o nx=>K v o.get nx
 | .bU v o nx=>X v o.get nx
inductive RO where
 |ok (st:St)|bU (v:V) (st:St)
def RO.to (K:S->Prop)(X:V->S->Prop):RO->Prop
 | .ok st=>K st.S
 | .bU v st=>X v st.S
inductive eT where
 |r (x:R)|c (x:CR)
abbrev Kt:=gr->St->Option eT
abbrev ec:=Nat->Bool->Nat->IC->St->Kt->Option eT
noncomputable def Le(P:Program)(rs:List ResultVar)(st:St)(kc:CR->Option eT):Option eT:=
 match ni P st.S rs with
 |some [v]=>kc (.ret v st.o st.nx)
 |some vs=>kc (.ret (.cf vs) st.o st.nx)
 |none=>none
noncomputable def Vp(P:Program)(rs:List ResultVar)(kc:CR->Option eT):Kt:=fun e st=>
 match e with
 | .normal=>Le P rs st kc
 | .ret=>Le P rs st kc
 | .bU v=>kc (.bU v st.o st.nx)
 | .exit _=>none
noncomputable def NQ(P:Program)(rs:List ResultVar)(kc:CR->Option eT)(env:Tr V):Kt:=fun e s4=>
 match e with
 | .normal=>Le P rs ⟨env,s4.o,s4.nx⟩ kc
 | .ret=>Le P rs ⟨env,s4.o,s4.nx⟩ kc
 |_=>none
def adX:gr->Option V
 | .normal=>some (.d .fE)
 | .ret=>some (.d .fE)
 | .bU v=>some v
 | .exit _=>none
noncomputable def NR(P:Program)(rec:ec)(rs:List ResultVar)(bW:List V)(m r r1:Nat)(Ak:IC)(kc:CR->Option eT):Kt:=fun e s3=>
 match adX e with
 |some u=>if bW.length<=m then rec s3.nx true m Ak ⟨.e (aw (aw (cG bW) r u) r1 u),s3.o,s3.nx⟩ (NQ P rs kc s3.env)else none
 |none=>none
noncomputable def IL(P:Program)(rec:ec)(n t:Nat)(fV:IC)(g:Nat)(fY:List Operand)(rs:List ResultVar)(m r r1:Nat)(Ak:IC)(kc:CR->Option eT):Kt:=fun e s1=>
 match e with
 | .normal=>rec s1.nx false n fV ⟨s1.env.set t (.func (.func g) [] (fY.map s1.S.ev)),s1.o,s1.nx⟩ (NR P rec rs (fY.map s1.S.ev) m r r1 Ak kc)
 |_=>none
noncomputable def NT(P:Program)(tab:Nat->FD)(rec:ec)(g:Nat)(args:List V)(o:Tr aa)(nx:Nat)(kc:CR->Option eT):Option eT:=
 match tab g with
 | .fn n ic rs=>if args.length<=n then rec nx false n ic ⟨.e (cG args),o,nx⟩ (Vp P rs kc)else none
 | .dfr n kG fV g t fY rs m r r1 Ak=>if args.length<=n then rec nx true n kG ⟨.e (cG args),o,nx⟩ (IL P rec n t fV g fY rs m r r1 Ak kc)else none
 | .mpc=>match args with
   |[.mp id]=>match o.get id with
    | .map kt vt l=>kc (.ret (.mp nx) (o.set nx (.map kt vt l)) (nx+1))
    | .bZ l=>kc (.ret (.mp nx) (o.set nx (.map 0 0 l)) (nx+1))
    |_=>none
   |_=>none
 | .no=>none
def xr:V->List V
 | .cf vs=>vs
 |v=>[v]
noncomputable def IM(r:CR):Option R:=
 match r with
 | .ret v o _=>match v with
   | .cf [_]=>none
   |v=>match cA o.get (xr v)with
    |some rs=>some (.ret rs)
    |none=>none
 | .bU v o _=>match ef o.get v with
   |some x=>some (.bU x)
   |none=>none
noncomputable def rfc{β:Type}(x:R)(c:R->β):β:=match x with| .ret l=>D.xo l fun l=>c (.ret l)| .bU d=>D.fc d fun d=>c (.bU d)
theorem GF{β:Type}(x:R)(c:R->β):rfc x c=c x:=by cases x<;>simp only[rfc,D.gv,D.dv]
noncomputable def Ed(r:CR):Option eT:=match IM r with|some x=>rfc x fun x=>some (.r x)|none=>none
theorem NU{r:CR}{a:eT}(h:Ed r=some a):∃x,IM r=some x/\a= .r x:=by
 unfold Ed at h
 split at h
 ·rename_i x hx;rw[GF]at h;injection h with h;exact⟨x,hx,h.symm⟩
 ·cases h
def NV(out:R)(o:Tr aa)(nx:Nat):CR:=
 match out with
 | .ret rs=> .ret (jM rs) o nx
 | .bU x=> .bU (.d x) o nx
structure sa (P:Program) where
 dat:Nat->Bool
 fx:Nat->List D->Option R
 ok:∀g ds out,fx g ds=some out->a7 P g ds out
def NW(l:List (Nat×List D×R))(g:Nat)(ds:List D):Option R:=
 match l with
 |[]=>none
 |x::l=>match Nat.beq x.1 g with
  |true=>match D.gY x.2.1 ds with
   |true=>some x.2.2
   |false=>NW l g ds
  |false=>NW l g ds
theorem BJ{P:Program}:∀ {l:List (Nat×List D×R)},(∀x∈l,a7 P x.1 x.2.1 x.2.2)->∀g ds out,NW l g ds=some out->a7 P g ds out
 |[],_,_,_,_,h=>by cases h
 |x::l,hl,g,ds,out,h=>by
  simp only[NW]at h
  split at h
  ·rename_i hg
   split at h
   ·rename_i hd
    injection h with h
    have:=hl x aF
    rw[Nat.eq_of_beq_eq_true hg,D.ed _ _ hd,h]at this
    exact this
   ·exact BJ (fun y hy=>hl y jX) g ds out h
  ·exact BJ (fun y hy=>hl y jX) g ds out h
def sa.of {P:Program}(dat:Nat->Bool)(l:List (Nat×List D×R))(h:∀x∈l,a7 P x.1 x.2.1 x.2.2):sa P:=⟨dat,NW l,BJ h⟩
noncomputable def RH(P:Program)(tab:Nat->FD)(md:sa P)(rec:ec)(g:Nat)(ds:List D):Option R:=
 match md.fx g ds with
 |some out=>some out
 |none=>match NT P tab rec g (ds.map .d) (.e fun _=> .no) 0 Ed with
  |some (.r x)=>some x
  |_=>none
noncomputable def Vq(out:R)(o:Tr aa)(nx:Nat)(args:List V)(kc:CR->Option eT):Option eT:=
 match out.flat with
 |true=>kc (NV out o (nx+1))
 |false=>match out.oo with
  |true=>kc (NV out (Ld o (tp o.get (V.bw args))) (nx+1))
  |false=>kc (NV out (Ld o (bK o.get (V.bw args))) (nx+1))
noncomputable def IP(P:Program)(tab:Nat->FD)(md:sa P)(rec:ec)(g:Nat)(args:List V)(o:Tr aa)(nx:Nat)(kc:CR->Option eT):Option eT:=
 match md.dat g,cA o.get args with
 |true,some ds=>match RH P tab md rec g ds with
  |some out=>Vq out o nx args kc
  |none=>none
 |_,_=>NT P tab rec g args o nx kc
noncomputable def NX(id:Nat)(kc:CR->Option eT):Kt:=fun e s2=>
 match e with
 | .bU v=>kc (.bU v s2.o s2.nx)
 |e=>match s2.o.get id with
  | .loop nf m en p c d _ _=>match e with
    | .normal=>kc (.ret (.d (.bool true)) (s2.o.set id (.loop nf m en p c d .ready none)) s2.nx)
    | .ret=>kc (.ret (.d (.bool false)) (s2.o.set id (.loop nf m en p c d .done (some .ret))) s2.nx)
    | .exit j=>kc (.ret (.d (.bool false)) (s2.o.set id (.loop nf m en p c d .done (some (.exit j)))) s2.nx)
    | .bU _=>none
  |_=>none
noncomputable def IQ(rec:ec)(id nx n:Nat)(fV:IC)(kc:CR->Option eT):Kt:=fun e s1=>
 match e with
 | .normal=>match s1.o.get id with
   | .loop nf m en p c d .ready pd=>rec nx true n fV ⟨s1.env,s1.o.set id (.loop nf m en p c d .busy pd),s1.nx⟩ (NX id kc)
   |_=>none
 | .bU v=>kc (.bU v s1.o s1.nx)
 |_=>none
noncomputable def YA(P:Program)(rec:ec)(id:Nat)(args:List V)(o:Tr aa)(nx:Nat)(kc:CR->Option eT):Option eT:=
 match o.get id with
 | .loop nf n env ps kG fV _ _=>if nf=P.funcs.size/\id<nx/\ps.all (fun t=>decide (t<n))=true/\args.length=ps.length then
  rec nx true n kG ⟨.e (qH (aY env) ps args),o,nx⟩ (IQ rec id nx n fV kc)
   else none
 |_=>none
noncomputable def An(P:Program)(st:St)(o:cg)(kr:RO->Option eT):Option eT:=
 match RG o.op P st.S st.nx with
 |some (v,Δ,_)=>ny st.env o.dst v fun e=>xq st.o Δ fun ob=>Nat.fc (st.nx+1) fun n=>kr (.ok ⟨e,ob,n⟩)
 |none=>none
noncomputable def crX(st:St)(dst:Option Nat)(kr:RO->Option eT)(c:CR):Option eT:=
 match c with
 | .ret v o nx=>ny st.env dst v fun e=>Nat.fc nx fun nx=>kr (.ok ⟨e,o,nx⟩)
 | .bU v o nx=>kr (.bU v ⟨st.env,o,nx⟩)
noncomputable def NY(c:Call)(P:Program)(tab:Nat->FD)(md:sa P)(rec:ec)(st:St)(o:cg)(kr:RO->Option eT):Option eT:=
 match c.callee with
 | .value f=>match st.S.ev f with
   | .func (.func g) first cap=>IP P tab md rec g (first++c.args.toList.map st.S.ev++cap) st.o st.nx (crX st o.dst kr)
   | .lC id=>YA P rec id (c.args.toList.map st.S.ev) st.o st.nx (crX st o.dst kr)
   |_=>none
 | .invoke r m=>match wR P m (st.S.ev r)with
   |some (g,y)=>IP P tab md rec g (y::c.args.toList.map st.S.ev) st.o st.nx (crX st o.dst kr)
   |none=>none
 |_=>An P st o kr
noncomputable def YB(x:Operand)(P:Program)(_:Nat->FD)(_:sa P)(_:ec)(st:St)(_:cg)(kr:RO->Option eT):Option eT:=
 match st.S.ev x with
 | .d (.iface t y)=>kr (.bU (.d (.iface t y)) st)
 | .iface t y=>kr (.bU (.iface t y) st)
 |_=>none
noncomputable def adY(P:Program)(_:Nat->FD)(_:sa P)(_:ec)(st:St)(o:cg)(kr:RO->Option eT):Option eT:=An P st o kr
def R.same:R->R->Bool
 | .ret a, .ret b=>D.gY a b
 | .bU a, .bU b=>a.same b
 |_,_=>false
theorem R.eK {x y:R}(h:x.same y=true):x=y:=by
 cases x<;>cases y<;>simp only[R.same,Bool.false_eq_true]at h
 ·rw[D.ed _ _ h]
 ·rw[D.eK _ _ h]
noncomputable def brX(f:Nat->Option eT):Nat->Option eT
 |0=>none
 |n+1=>match n with
  |0=>f 0
  |n=>match brX f n with
   |some (.r a)=>match f n with
    |some (.r b)=>match R.same a b with
     |true=>some (.r a)
     |false=>none
    |_=>none
   |_=>none
theorem NZ{f:Nat->Option eT}{a:eT}:∀ {n:Nat},brX f n=some a->∀i,i<n->f i=some a
 |0,h,_,_=>by cases h
 |1,h,i,hi=>by obtain rfl:i=0:=ad
               exact h
 |n+2,h,i,hi=>by
  simp only[brX]at h
  split at h
  ·rename_i x hx
   split at h
   ·rename_i y hy
    split at h
    ·rename_i he
     have e:=R.eK he
     subst e
     rw[<- h]
     by_cases e:i=n+1
     ·subst e;exact hy
     ·exact NZ hx i ad
    ·cases h
   ·cases h
  ·cases h
noncomputable def RI(st:St)(dst:Option Nat)(kr:RO->Option eT)(v:V)(Δ:List (Nat×aa)):Option eT:=
 ny st.env dst v fun e=>xq st.o Δ fun ob=>Nat.fc (st.nx+1) fun n=>kr (.ok ⟨e,ob,n⟩)
noncomputable def N0(x:Operand)(str:Bool)(P:Program)(_:Nat->FD)(_:sa P)(_:ec)(st:St)(o:cg)(kr:RO->Option eT):Option eT:=
 match qb st.o.get (st.S.ev x)with
 |some (id,l)=>match str with
  |true=>none
  |false=>match l with
   |[]=>RI st o.dst kr (.cf [.d (.bool false)]) []
   |_=>brX (fun i=>match l[i]? with
    |some (k,x)=>RI st o.dst kr (.cf [.d (.bool true), .d k, .d x]) [(id, .s8 (l.eraseIdx i) (some (k,x)))]
    |none=>none) l.length
 |none=>An P st o kr
noncomputable def opK(op:Op):(P:Program)->(Nat->FD)->sa P->ec->St->cg->(RO->Option eT)->Option eT:=
 match op with
 | .call c=>NY c
 | .panic x=>YB x
 | .next x str=>N0 x str
 |_=>adY
noncomputable def opX(P:Program)(tab:Nat->FD)(md:sa P)(rec:ec)(st:St)(o:cg)(kr:RO->Option eT):Option eT:=opK o.op P tab md rec st o kr
noncomputable def roK(next:St->Option eT)(kr:RO->Option eT):RO->Option eT:=fun r=>match r with| .ok st=>next st| .bU v st=>kr (.bU v st)
noncomputable def BK(P:Program)(tab:Nat->FD)(md:sa P)(rec:ec)(kr:RO->Option eT):List cg->St->Option eT
 |[],st=>kr (.ok st)
 |o::l,st=>match(match o.gd with
   |none=>some true
   |some (d,want)=>match st.env.get d with
    | .d (.bool b)=>some (b==want)
    | .cf []=>some false
    |_=>none)with
  |some true=>opX P tab md rec st o (roK (BK P tab md rec kr l) kr)
  |some false=>ny st.env o.dst (.cf []) fun e=>Nat.fc (st.nx+1) fun n=>BK P tab md rec kr l ⟨e,st.o,n⟩
  |none=>none
section
variable {P:Program}{tab:Nat->FD}{md:sa P}
noncomputable def e9(P:Program)(rec:ec):Prop:=∀b rd n ic st k a,rec b rd n ic st k=some a->∀Q:gr->S->Prop,(∀e st',k e st'=some a->Q e st'.S)->vN P n b rd ic Q st.S
theorem vS{rs:List ResultVar}{st:St}{kc:CR->Option eT}{a:eT}(h:Le P rs st kc=some a){K X:V->(Nat->aa)->Nat->Prop}(hr:∀r,kc r=some a->r.to K X):nk P rs K X .ret st.S:=by
 unfold Le at h
 unfold nk
 split at h
 ·rename_i v hv;simp only[hv];exact hr _ h
 ·rename_i vs hv hn
  simp only[hn]
  exact hr _ h
 ·cases h
theorem oJ(bz:P.follows .mixedOrders=true)(cU:∀g,(tab g).Ok P g){rec:ec}(bP:e9 P rec){g:Nat}{args:List V}{o:Tr aa}{nx:Nat}{kc:CR->Option eT}{a:eT}(h:NT P tab rec g args o nx kc=some a){K X:V->(Nat->aa)->Nat->Prop}(hr:∀r,kc r=some a->r.to K X):
 bJ P g args o.get nx K X:=by
 have a8:=cU g
 unfold NT at h
 split at h
 ·rename_i n ic rs ht
  rw[ht]at a8
  split at h
  ·rename_i hl
   refine bJ.xe bz a8 hl ?_
   refine bP _ _ _ _ _ _ _ h _ fun e st he=> ?_
   unfold Vp at he
   cases e with
   |normal=>exact vS he hr
   |ret=>exact vS he hr
   |bU v=>exact hr _ he
   |exit j=>cases he
  ·cases h
 ·rename_i n kG fV g' t fY rs m r0 r1 Ak ht
  rw[ht]at a8
  split at h
  ·rename_i hl
   refine bJ.Ea bz a8.1 a8.2 hl (bP _ _ _ _ _ _ _ h _ fun e s1 he=> ?_)
   unfold IL at he
   cases e with
   |normal=>
    have hb:vN P n s1.nx false fV (BI P m r0 r1 Ak (fY.map s1.S.ev) rs K X) ⟨aw s1.env.get t (.func (.func g') [] (fY.map s1.S.ev)),s1.o.get,s1.nx⟩:=by
     have:=bP _ _ _ _ _ _ _ he (BI P m r0 r1 Ak (fY.map s1.S.ev) rs K X) (fun e s3 he3=>by
      unfold NR at he3
      split at he3
      ·rename_i u hu
       split at he3
       ·rename_i pg
        have hrw:Gz P m r0 r1 Ak (fY.map s1.S.ev) u s3.o.get s3.nx fun o nx=>nk P rs K X .ret ⟨s3.env.get,o,nx⟩:=by
         refine⟨pg,bP _ _ _ _ _ _ _ he3 _ fun e4 s4 he4=> ?_⟩
         unfold NQ at he4
         cases e4 with
         |normal=>exact vS (st:=⟨s3.env,s4.o,s4.nx⟩) he4 hr
         |ret=>exact vS (st:=⟨s3.env,s4.o,s4.nx⟩) he4 hr
         |_=>cases he4
        cases e<;>simp only[adX,Option.some.injEq,reduceCtorEq]at hu<;>subst hu<;>exact hrw
       ·cases he3
      ·cases he3)
     simp only[St.S,Tr.iI]at this
     exact this
    exact hb
   |_=>cases he
  ·cases h
 ·rename_i ht
  rw[ht]at a8
  split at h
  ·split at h
   ·rename_i kt vt l ho
    have h2:=hr _ h
    simp only[CR.to,Tr.iI]at h2
    exact bJ.Ys a8 ho h2
   ·rename_i l ho
    have h2:=hr _ h
    simp only[CR.to,Tr.iI]at h2
    exact bJ.IG a8 ho h2
   ·cases h
  ·cases h
 ·cases h
theorem N1{r:CR}{out:R}(ho:IM r=some out):r.to (fun v o _=>∃vs rs,v=(match vs with|[v]=>v|vs=> .cf vs)/\cA o vs=some rs/\out= .ret rs) (fun v o _=>∃x,ef o v=some x/\out= .bU x):=by
 unfold IM at ho
 split at ho
 ·rename_i v o nx
  split at ho
  ·cases ho
  ·rename_i hv
   split at ho
   ·rename_i rs hrs
    injection ho with ho;subst ho
    refine⟨xr v,rs, ?_,hrs,rfl⟩
    cases v with
    |cf vs=>
     match vs,hv with
     |[],_=>rfl
     |[x],hv=>exact absurd rfl (hv x)
     |_::_::_,_=>rfl
    |_=>rfl
   ·cases ho
 ·split at ho
  ·rename_i x hx
   injection ho with ho;subst ho
   exact⟨x,hx,rfl⟩
  ·cases ho
theorem Ee(bz:P.follows .mixedOrders=true)(cU:∀g,(tab g).Ok P g){rec:ec}(bP:e9 P rec){g:Nat}{ds:List D}{out:R}(h:NT P tab rec g (ds.map .d) (.e fun _=> .no) 0 Ed=some (.r out)):a7 P g ds out:=by
 refine a7.l8 (oJ bz cU bP h fun r hr=> ?_)
 obtain⟨x,hx,he⟩:=NU hr
 injection he with he;subst he
 exact N1 hx
theorem BM(bz:P.follows .mixedOrders=true)(cU:∀g,(tab g).Ok P g){rec:ec}(bP:e9 P rec){g:Nat}{ds:List D}{out:R}(h:RH P tab md rec g ds=some out):a7 P g ds out:=by
 unfold RH at h
 split at h
 ·rename_i ait ho
  injection h with h;subst h
  exact md.ok _ _ _ ho
 ·split at h
  ·rename_i x hr;injection h with h;subst h;exact Ee bz cU bP hr
  ·cases h
theorem Eg(bz:P.follows .mixedOrders=true)(cU:∀g,(tab g).Ok P g){rec:ec}(bP:e9 P rec){g:Nat}{args:List V}{o:Tr aa}{nx:Nat}{kc:CR->Option eT}{a:eT}(h:IP P tab md rec g args o nx kc=some a){K X:V->(Nat->aa)->Nat->Prop}(hr:∀r,kc r=some a->r.to K X):
 US P g args o.get nx K X:=by
 unfold IP at h
 split at h
 ·rename_i ds hmd fT
  split at h
  ·rename_i out D2
   have hP:=BM bz cU bP D2
   refine .inl ⟨ds,fT,out,hP, ?_⟩
   unfold Vq at h
   split at h
   ·rename_i hf
    refine .inr (.inl ⟨hf, ?_⟩)
    cases out<;>exact hr _ h
   ·split at h
    ·rename_i hf
     refine .inr (.inr ⟨hf, ?_⟩)
     rw[<- kT]
     cases out<;>exact hr _ h
    ·refine .inl ?_
     rw[<- kT]
     cases out<;>exact hr _ h
  ·cases h
 ·exact .inr (oJ bz cU bP h hr)
theorem RJ(bz:P.follows .mixedOrders=true){rec:ec}(bP:e9 P rec){id:Nat}{args:List V}{o:Tr aa}{nx:Nat}{kc:CR->Option eT}{a:eT}(h:YA P rec id args o nx kc=some a){K X:V->(Nat->aa)->Nat->Prop}(hr:∀r,kc r=some a->r.to K X):
 ej P id args o.get nx K X:=by
 unfold YA at h
 split at h
 ·rename_i nf n env ps kG fV st pd ho
  split at h
  ·rename_i hc
   obtain⟨rfl,cD,Gy,hl⟩:=hc
   refine ej.xe bz ho cD Gy hl ?_
   refine bP _ _ _ _ _ _ _ h _ fun e s1 he=> ?_
   unfold IQ at he
   cases e with
   |normal=>
    simp only at he
    split at he
    ·rename_i nf m en p c d pd ri
     refine⟨nf,m,en,p,c,d,pd,ri, ?_⟩
     have:=bP _ _ _ _ _ _ _ he (mi id K X) (fun e s2 h2=>by
      unfold NX at h2
      split at h2
      ·exact hr _ h2
      ·rename_i UM
       split at h2
       ·rename_i nf' m' en' p' c' d' st' pd' YC
        cases e with
        |bU v=>cases h2
        |normal=>have h3:=hr _ h2;simp only[CR.to,Tr.iI]at h3;exact⟨nf',m',en',p',c',d',st',pd',YC,h3⟩
        |ret=>have h3:=hr _ h2;simp only[CR.to,Tr.iI]at h3;exact⟨nf',m',en',p',c',d',st',pd',YC,h3⟩
        |exit j=>have h3:=hr _ h2;simp only[CR.to,Tr.iI]at h3;exact⟨nf',m',en',p',c',d',st',pd',YC,h3⟩
       ·cases h2)
     simp only[St.S,Tr.iI]at this
     exact this
    ·cases he
   |bU v=>exact hr _ he
   |_=>cases he
  ·cases h
 ·cases h
theorem xw{st:St}{o:cg}{kr:RO->Option eT}{a:eT}(h:An P st o kr=some a){K:S->Prop}{X:V->S->Prop}(hr:∀r,kr r=some a->r.to K X):match iu P st.S st.S.nx o.op with
 |some (v,Δ,_)=>K ⟨ba st.S.env o.dst v,put st.S.o Δ,st.S.nx+1⟩
 |none=>False:=by
 unfold An at h
 split at h
 ·rename_i v Δ rd he
  have he:=IK he
  simp only[kn,oI,Nat.dv]at h
  have hr:=hr _ h
  simp only[RO.to,St.S,j8,kT]at hr
  have rb:iu P st.S st.S.nx o.op=some (v,Δ,rd):=he
  simp only[rb]
  exact hr
 ·cases h
theorem IU{st:St}{dst:Option Nat}{kr:RO->Option eT}{v:V}{Δ:List (Nat×aa)}{a:eT}(h:RI st dst kr v Δ=some a){K:S->Prop}{X:V->S->Prop}(hr:∀r,kr r=some a->r.to K X):K ⟨ba st.S.env dst v,put st.S.o Δ,st.S.nx+1⟩:=by
 unfold RI at h
 simp only[kn,oI,Nat.dv]at h
 have hr:=hr _ h
 simp only[RO.to,St.S,j8,kT]at hr
 exact hr
theorem YD(bz:P.follows .mixedOrders=true)(cU:∀g,(tab g).Ok P g){rec:ec}(bP:e9 P rec){st:St}{o:cg}{kr:RO->Option eT}{a:eT}(h:opX P tab md rec st o kr=some a){K:S->Prop}{X:V->S->Prop}(hr:∀r,kr r=some a->r.to K X):LZ P st.S o X K:=by
 have cr:∀r,crX st o.dst kr r=some a->r.to (fun v o' nx'=>K ⟨ba st.S.env o.dst v,o',nx'⟩) (fun v o' nx'=>X v ⟨st.S.env,o',nx'⟩):=by
  intro r hx
  unfold crX at hx
  split at hx
  ·simp only[kn,Nat.dv]at hx
   have hr:=hr _ hx
   simp only[RO.to,St.S,j8]at hr
   exact hr
  ·exact hr _ hx
 unfold opX at h
 unfold LZ
 cases gX:o.op
 case call c=>
  rw[gX]at h
  have h:NY c P tab md rec st o kr=some a:=h
  unfold NY at h
  cases hf:c.callee
  case value f=>
   simp only[hf]at h|-
   split at h
   ·rename_i g first cap hv
    simp only[hv]
    have:=Eg bz cU bP h cr
    rcases this with⟨ds,fT,hP⟩|hC
    ·have YE:cA st.S.o (first++List.map st.S.ev c.args.toList++cap)=some ds:=fT
     simp only[YE]
     exact .inl hP
    ·split
     ·exact .inr (.inl hC)
     ·exact .inl hC
   ·rename_i id hv
    simp only[hv]
    exact RJ bz bP h cr
   ·cases h
  case invoke r m=>
   simp only[hf]at h|-
   split at h
   ·rename_i g y hv
    simp only[hv]
    exact Eg bz cU bP h cr
   ·cases h
  all_goals
   simp only[hf]at h|-
   have:=xw h hr
   rw[gX]at this
   exact this
 case panic x=>
  rw[gX]at h
  have h:YB x P tab md rec st o kr=some a:=h
  unfold YB at h
  split at h
  ·rename_i hv;simp only[hv];exact hr _ h
  ·rename_i hv;simp only[hv];exact hr _ h
  ·cases h
 case next x str=>
  rw[gX]at h
  have h:N0 x str P tab md rec st o kr=some a:=h
  unfold N0 at h
  have hl:qb st.S.o (st.S.ev x)=qb st.o.get (st.S.ev x):=rfl
  simp only[hl]
  split at h
  ·rename_i id l ay
   simp only[ay]
   cases str with
   |true=>cases h
   |false=>
    refine⟨rfl,fun e=> ?_,fun i k y e=> ?_⟩
    ·subst e
     exact IU h hr
    ·cases l with
     |nil=>simp at e
     |cons p l=>
      have:=NZ h i (List.getElem?_eq_some_iff.1 e).1
      rw[e]at this
      exact IU this hr
  ·rename_i ay
   simp only[ay]
   have:=xw h hr
   rw[gX]at this
   exact this
 all_goals
  have h2:An P st o kr=some a:=by rw[gX]at h;exact h
  have:=xw h2 hr
  rw[gX]at this
  exact this
theorem vT(bz:P.follows .mixedOrders=true)(cU:∀g,(tab g).Ok P g){rec:ec}(bP:e9 P rec){kr:RO->Option eT}{a:eT}{K:S->Prop}{X:V->S->Prop}(hr:∀r,kr r=some a->r.to K X):∀ (l:List cg) (st:St),BK P tab md rec kr l st=some a->qF P X K l st.S
 |[],st,h=>hr (.ok st) h
 |o::l,st,h=>by
  simp only[BK,kn,Nat.dv]at h
  simp only[qF]
  have op:opX P tab md rec st o (roK (BK P tab md rec kr l) kr)=some a->LZ P st.S o X (qF P X K l):=by
   intro h
   refine YD bz cU bP h fun r hrr=> ?_
   cases r with
   |ok YF=>exact vT bz cU bP hr l YF hrr
   |bU v YF=>exact hr (.bU v YF) hrr
  have sk:BK P tab md rec kr l ⟨uT st.env o.dst (.cf []),st.o,st.nx+1⟩=some a->qF P X K l ⟨ba st.S.env o.dst (.cf []),st.S.o,st.S.nx+1⟩:=by
   intro h
   have:=vT bz cU bP hr l _ h
   exact MI
  cases hg:o.gd with
  |none=>simp only[hg]at h;exact op h
  |some p=>
   obtain⟨d,want⟩:=p
   simp only[hg]at h
   have he:st.S.env d=st.env.get d:=rfl
   simp only[he]
   cases hv:st.env.get d with
   |d x=>
    cases x with
    |bool b=>
     simp only[hv]at h|-
     by_cases e:b=want
     ·subst e
      simp only[beq_self_eq_true]at h
      rw[if_pos rfl];exact op h
     ·have:(b==want)=false:=by simpa using e
      rw[this]at h
      rw[if_neg e];exact sk h
    |_=>simp[hv]at h
   |cf vs=>
    cases vs with
    |nil=>simp only[hv]at h|-;exact sk h
    |cons a cC=>simp[hv]at h
   |_=>simp[hv]at h
end
end
end Go.Proofs.YtlhemmpklhhgoaaGreat
