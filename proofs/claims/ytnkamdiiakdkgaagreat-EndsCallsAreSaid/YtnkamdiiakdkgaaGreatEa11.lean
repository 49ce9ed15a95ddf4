/-
  A PART OF THE PROOF. Conditions: none.
-/
import Derived.Test.YtnkamdiiakdkgaaGreatEa10
set_option linter.unusedSimpArgs false
set_option linter.unusedVariables false
namespace Go.Proofs.YtnkamdiiakdkgaaGreat
section
def Q1(ops:Array Oper)(t t1:Nat):Prop:=
 (∃o1 o2,ops=#[o1,o2]/\o1.op= .call ⟨.builtin .recover,#[],#[]⟩/\o1.dst=some t/\o1.guard=none/\o2.op= .assign (.tmp t)/\o2.dst=some t1/\o2.guard=none)\/
 (∃o1,ops=#[o1]/\t1=t/\o1.op= .call ⟨.builtin .recover,#[],#[]⟩/\o1.dst=some t/\o1.guard=none)
structure Dk (P:Program) (g:FuncId) (n t t1:Nat) (ic:IC):Prop where
 get:∃fn id ops c,P.funcs[g]? =some fn/\(fn.name== "runtime.NumGoroutine")=false/\fn.ntmps=n/\fn.results=#[]/\fn.body=some (.seq (.region id ops false) c)/\
  Q1 ops t t1/\t<n/\t1<n/\low n c=ic
structure HM (P:Program) (f:FuncId) (n:Nat) (iL eI:IC) (g:FuncId) (t:Nat) (aV:List Operand) (rs:List ResultVar):Prop where
 get:∃fn id o1 o2 a b d,P.funcs[f]? =some fn/\(fn.name== "runtime.NumGoroutine")=false/\fn.ntmps=n/\fn.results.toList=rs/\fn.body=some (.seq a d)/\(d= .seq (.region id #[o1,o2] false) b\/d= .scope (.seq (.region id #[o1,o2] false) b))/\
  o1.op= .makeFunc (.func g) #[] aV.toArray/\o1.dst=some t/\o1.guard=none/\o2.op= .defer ⟨.value (.tmp t),#[],#[]⟩/\o2.dst=none/\o2.guard=none/\t<n/\low n a=iL/\low n b=eI
def aaS(K:(Nat->ab)->Nat->Prop)(e:eK)(s:S):Prop:=match e with| .normal| .ret=>K s.o s.nx|_=>False
def E3(P:Program)(n t t1:Nat)(ic:IC)(aV:List V)(u:V)(o:Nat->ab)(nx:Nat)(K:(Nat->ab)->Nat->Prop):Prop:=
 aV.length<=n/\rJ P n nx true ic (aaS K) ⟨aA (aA (ct aV) t u) t1 u,o,nx⟩
def B3(P:Program)(n t t1:Nat)(ic:IC)(aV:List V)(rs:List ResultVar)(K X:V->(Nat->ab)->Nat->Prop)(e:eK)(s:S):Prop:=
 match e with
 | .normal| .ret=>E3 P n t t1 ic aV (.d .fP) s.o s.nx fun o nx=>kJ P rs K X .ret ⟨s.env,o,nx⟩
 | .bD v=>E3 P n t t1 ic aV v s.o s.nx fun o nx=>kJ P rs K X .ret ⟨s.env,o,nx⟩
 | .exit _=>False
def HN(P:Program)(n t:Nat)(eI:IC)(iy:List Operand)(g:FuncId)(D:List V->eK->S->Prop)(e:eK)(s:S):Prop:=
 match e with
 | .normal=>rJ P n s.nx false eI (D (iy.map s.ev)) ⟨aA s.env t (.func (.func g) [] (iy.map s.ev)),s.o,s.nx⟩
 |_=>False
section
variable {P:Program}{M:Nat->Prop}{φ b7:Place}{H H0:Hp}{w w0:World}{n:Nat}{s:S}{a:Act}{cx:Cx}{k:Nat}
theorem E4(aZ:P.follows .mixedOrders=true){g:FuncId}{t t1:Nat}{ic:IC}(hg:Dk P g n t t1 ic){aV:List V}{u:V}{o:Nat->ab}{nx:Nat}{K:(Nat->ab)->Nat->Prop}(h:E3 P n t t1 ic aV u o nx K)
 {vals:Array Value} {val:Value} {m:FrameMode} (hH:ax M φ (hp o nx) w) (hd:V.az (ak M φ (hp o nx)) φ (hp o nx) w aV vals.toList) (hv:V.den (ak M φ (hp o nx)) φ (hp o nx) w u val)
 (hm:(m= .returning/\val= .nilIface)\/m= .panicking [{v:=val,recovered:=false}]):
 CallsDIn (dm none) k P g vals m w fun e u' w'=>∃v aE o' nx',e= .returned v/\settle u'= .returning/\ax M aE (hp o' nx') w'/\Trans φ (hp o nx) w aE (hp o' nx') w'/\K o' nx':=by
 obtain⟨fn,id,ops,c,hf,NR,hnt,wP,oD,GN,ht,A5,pW⟩:=hg.get
 have cc:g<P.funcs.size:=(Array.getElem?_eq_some_iff.1 hf).1
 obtain⟨mC,h⟩:=h
 have hlen:=V.ay _ _ hd
 refine⟨trivial,fun nG cs HO M7=> ?_⟩
 let b:Frame:={(default:Frame)with fn:=g,kind:= .deferred,roundOf:=none}
 let rL:Array Value:=vals++Array.replicate (fn.ntmps - vals.size) undef
 have aaT:rL.size=n:=by simp only[rL,Array.size_append,Array.size_replicate];simp at hlen;omega
 have kI:Frame.enter P g vals .deferred=b.atR {tmps:=rL,defers:=[]} [.code (.seq (.region id ops false) c)]:=by
  simp[Frame.enter,Frame.atR,hf,oD,b,rL]
 obtain⟨m',hm',bt⟩:∃m',settle m'= .returning/\((recoverD (nG::cs)=none/\m'=m/\val= .nilIface)\/recoverD (nG::cs)=some (val,{nG with mode:=m'}::cs)):=by
  rcases hm with⟨rfl,rfl⟩|rfl
  ·exact⟨.returning,rfl, .inl ⟨by simp[recoverD,HO],rfl,rfl⟩⟩
  ·exact⟨.panicking [{v:=val,recovered:=true}],rfl, .inr (by simp[recoverD,HO])⟩
 have ZC:({nG with mode:=m}:Frame)=nG:=by subst HO;rfl
 let a1:Act:={tmps:=(rL.setIfInBounds t val).setIfInBounds t1 val,defers:=[]}
 have KN:(Code.region id ops false).wpSIn (dm none) k P (fun e a' cs' w'=>e= .normal/\a'=a1/\cs'={nG with mode:=m'}::cs/\w'=w) {tmps:=rL,defers:=[]} (nG::cs) w:=by
  rcases GN with⟨o1,o2,rfl,e1,e2,e3,e4,e5,e6⟩|⟨o1,rfl,rfl,e1,e2,e3⟩
  ·refine wpSIn_region ?_
   have hr:List.range (#[o1,o2]:Array Oper).size=[0,1]:=rfl
   have g0:(#[o1,o2]:Array Oper)[0]? =some o1:=rfl
   have g1:(#[o1,o2]:Array Oper)[1]? =some o2:=rfl
   rw[hr]
   have x1:∀ (ρ:Operand->Value) (w:World),(execOp ρ o1).run P w= .ok .recover w:=by
    intro ρ w
    simp[execOp,e1,resolve,invoke,builtin]
   have x2:∀ (ρ:Operand->Value) (w:World),(execOp ρ o2).run P w= .ok (.value (ρ (.tmp t))) w:=by
    intro ρ w
    simp[execOp,e4]
   have last:∀cs',cs'={nG with mode:=m'}::cs->wpOpsSIn (dm none) k P #[o1,o2] (fun e a' cs' w'=>e= .normal/\a'=a1/\cs'={nG with mode:=m'}::cs/\w'=w) [1] (({tmps:=rL,defers:=[]}:Act).put (some t) val) cs' w:=by
    rintro cs' rfl
    have hw:Region.wanted o2 (yielded #[o1,o2] (({tmps:=rL,defers:=[]}:Act).put (some t) val).tmps)=true:=by simp[Region.wanted,e6]
    have cV:(({tmps:=rL,defers:=[]}:Act).put (some t) val).eval (.tmp t)=val:=by
     have:t<rL.size:=ag
     simp[Act.put,Act.eval,Array.getD,this]
    simp only[wpOpsSIn,g1,hw,if_true,x2,cV,e5]
    refine⟨fun _ _=>trivial, ?_⟩
    simp[a1,Act.put]
   have hw:Region.wanted o1 (yielded #[o1,o2] rL)=true:=by simp[Region.wanted,e3]
   rw[wpOpsSIn,g0]
   refine⟨fun _ _=>trivial, ?_⟩
   simp only[hw,if_true,x1,e2]
   rcases bt with⟨hr,rfl,rfl⟩|hr
   ·simp only[hr]
    exact last _ (by rw[ZC])
   ·simp only[hr]
    exact last _ rfl
  ·refine wpSIn_region ?_
   have hr:List.range (#[o1]:Array Oper).size=[0]:=rfl
   have g0:(#[o1]:Array Oper)[0]? =some o1:=rfl
   rw[hr]
   have x1:∀ (ρ:Operand->Value) (w:World),(execOp ρ o1).run P w= .ok .recover w:=by
    intro ρ w
    simp[execOp,e1,resolve,invoke,builtin]
   have same:a1=({tmps:=rL,defers:=[]}:Act).put (some t1) val:=by
    simp only[a1,Act.put]
    congr 1
    apply Array.ext_getElem?
    intro j
    simp only[Array.getElem?_setIfInBounds]
    by_cases hj:t1=j
    ·subst hj;simp
    ·simp[hj]
   have last:∀cs',cs'={nG with mode:=m'}::cs->wpOpsSIn (dm none) k P #[o1] (fun e a' cs' w'=>e= .normal/\a'=a1/\cs'={nG with mode:=m'}::cs/\w'=w) [] (({tmps:=rL,defers:=[]}:Act).put (some t1) val) cs' w:=by
    rintro cs' rfl
    simp only[wpOpsSIn]
    exact⟨trivial,same.symm,trivial,trivial⟩
   have hw:Region.wanted o1 (yielded #[o1] rL)=true:=by simp[Region.wanted,e3]
   rw[wpOpsSIn,g0]
   refine⟨fun _ _=>trivial, ?_⟩
   simp only[hw,if_true,x1,e2]
   rcases bt with⟨hr,rfl,rfl⟩|hr
   ·simp only[hr]
    exact last _ (by rw[ZC])
   ·simp only[hr]
    exact last _ rfl
 obtain⟨er,ar,csr,wr,hl,⟨rfl,rfl,rfl,hwr⟩,cM⟩:=KN b [.code c] rfl rfl trivial (fun d hd=>by simp[dm]at hd)
 rw[hwr]at cM
 let s0:S:=⟨aA (aA (ct aV) t u) t1 u,o,nx⟩
 have iT:bS M φ (hp o nx) w n ⟨[],true⟩ φ s0 a1 w:=by
  refine⟨hH,Trans.refl _ _ _,by simp[a1,aaT],⟨[],rfl,List.nodup_nil,fun _=>rfl,fun r hr=>by cases hr⟩,fun i=> ?_⟩
  have dz:=yp (m:=fn.ntmps - vals.size) hd i
  simp only[s0,a1,aH]
  have ZF:t<rL.size:=ag
  have aaU:t1<rL.size:=ag
  by_cases h1:i=t1
  ·subst h1
   simp only[if_true]
   have:((rL.setIfInBounds t val).setIfInBounds i val).getD i undef=val:=by simp[Array.getD,aaU]
   rw[this];exact hv
  ·simp only[h1,if_false]
   have e1:((rL.setIfInBounds t val).setIfInBounds t1 val).getD i undef=(rL.setIfInBounds t val).getD i undef:=by
    exact MJ
   rw[e1]
   by_cases h2:i=t
   ·subst h2
    simp only[if_true]
    have:(rL.setIfInBounds i val).getD i undef=val:=by simp[Array.getD,ZF]
    rw[this];exact hv
   ·simp only[h2,if_false]
    have e1:(rL.setIfInBounds t val).getD i undef=rL.getD i undef:=by
     simp only[Array.getD_eq_getD_getElem?]
     rw[Array.getElem?_setIfInBounds_ne (Ne.symm h2)]
    rw[e1];exact dz
 have hcw:=gr (P:=P) (n:=n) (b:=nx) (rd:=true) aZ c _ _ s0 (fun _ _ h=>h) (by rw[pW];exact h)
 obtain⟨e,a',w',⟨x,s',aE,hq,jl,hx⟩,C4⟩:=fY (P:=P) (H0:=hp o nx) (b:=nx) (cx:=⟨[],true⟩) (ro:=none) (fun id hu=>hu) (fun h=>by cases h) c _ s0 φ a1 w hcw iT b [] ({nG with mode:=m'}::cs) rfl cc
 have i0:(lone (b.atR {tmps:=rL,defers:=[]} [.code (.seq (.region id ops false) c)]) (nG::cs) w).fenced P (dm none):=fenced_calm (n:=0) trivial fC rfl
 have NS:StepsIn (Machine.fenced P (dm none)) P (lone (b.atR {tmps:=rL,defers:=[]} [.code (.seq (.region id ops false) c)]) (nG::cs) w) (lone (b.atR a1 [.code c]) ({nG with mode:=m'}::cs) w):= .head i0 stepR_seq cM
 have sU:a'.defers=[]:=by
  obtain⟨ms,g1,_,g3,_⟩:=jl.defers
  rw[g3 rfl]at g1;exact g1
 have WO:∀tm:Array Value,∃v,(results fn tm).run P w'= .ok v w':=by
  intro tm
  refine⟨_,lR (vals:=[]) ?_⟩
  rw[wP];rfl
 rw[kI]
 obtain⟨v,rh⟩:=WO a'.tmps
 cases e<;>cases x<;>first|(exact hx.elim)|(exact hq.elim)|skip
 ·exact⟨.returned v,m',w',_,⟨v,aE,s'.o,s'.nx,rfl,hm',jl.heap,jl.tr,hq⟩,StepsIn.trans NS (StepsIn.trans C4 (.one (fenced_calm (n:=0) (fr:=b.atR a' []) trivial fC rfl) (stepR_end rfl))),rfl,rfl,rfl,sU,fn,hf,rh⟩
 ·obtain⟨todo,hs⟩:=C4.1 rfl
  exact⟨.returned v,m',w',_,⟨v,aE,s'.o,s'.nx,rfl,hm',jl.heap,jl.tr,hq⟩,StepsIn.trans NS hs,rfl,rfl,rfl,sU,fn,hf,rh⟩
theorem zQ{d c:Code}{ro:Option Nat}{Q:Exit->Act->World->Prop}{a:Act}{w:World}(h:d=c\/d= .scope c)(hg:∀l a w, ¬Q (.goto l) a w)(hc:c.rk P ro Q a w):d.rk P ro Q a w:=by
 rcases h with rfl|rfl
 ·exact hc
 ·exact vh hc hg
theorem cZ.HP (aZ:P.follows .mixedOrders=true){f g:FuncId}{iL eI zR:IC}{t m r r1:Nat}{iy:List Operand}{rs:List ResultVar}(hf:HM P f n iL eI g t iy rs)(hg:Dk P g m r r1 zR)
 {args:List V} {o:Nat->ab} {nx:Nat} {K X:V->(Nat->ab)->Nat->Prop} (hl:args.length<=n)
 (h:rJ P n nx true iL (HN P n t eI iy g fun aV=>B3 P m r r1 zR aV rs K X) ⟨ct args,o,nx⟩):cZ P f args o nx K X:=by
 obtain⟨fn,id,o1,o2,ca,cb,cd,FY,NR,hnt,wP,oD,hsc,e1,e2,e3,e4,e5,e6,ht,hla,Td⟩:=hf.get
 obtain⟨gn,_,_,gc,hgn,Q2,_,_,Q3,_⟩:=hg.get
 refine⟨⟨fn,FY,NR,by rw[oD];rfl⟩,fun M φ w vals hH hd=> ?_⟩
 have hlen:=V.ay _ _ hd
 let s0:S:=⟨ct args,o,nx⟩
 let a0:Act:={tmps:=vals++Array.replicate (fn.ntmps - vals.size) undef,defers:=[]}
 have iT:bS M φ (hp o nx) w n ⟨[],true⟩ φ s0 a0 w:=by
  exact Vy
 have ha:=gr (P:=P) (n:=n) (b:=nx) (rd:=true) aZ ca _ _ s0 (fun _ _ h=>h) (by rw[hla];exact h)
 refine y9 (ro:=none) (k:=0) (lS FY oD (wO (fD (fY (P:=P) (H0:=hp o nx) (b:=nx) (cx:=⟨[],true⟩) (ro:=none) (fun id hu=>hu) (fun h=>by cases h) ca _ s0 φ a0 w ha iT) ?_)))
 rintro e a1 w1 ⟨x,s1,gU,hq,vl,hm⟩
 cases e<;>cases x<;>first|(exact hm.elim)|(exact hq.elim)|skip
 have sU:a1.defers=[]:=by
  obtain⟨ms,g1,_,g3,_⟩:=vl.defers
  rw[g3 rfl]at g1;exact g1
 let cv:Array Value:=(iy.map a1.eval).toArray
 let fv:Value:= .func (.func g) #[] cv
 let dd:Deferred:={target:= .fn (.func g) cv,args:=#[]}
 let a2:Act:={tmps:=a1.tmps.setIfInBounds t fv,defers:=[dd]}
 have NT:V.az (ak M gU s1.H) gU s1.H w1 (iy.map s1.ev) cv.toList:=by
  simpa[cv]using jt (M:=M) (φ:=gU) (H:=s1.H) (w:=w1) s1 a1 vl.env iy
 refine zQ hsc (fun l a w h=> ?_) ?_
 ·exact h.elim
 refine wO (fD (Q:=fun e a w=>e= .normal/\a=a2/\w=w1) (nA (k:=0) (wpIn_region_list ?_)) ?_)
 ·have y1:Region.wanted o1 (yielded #[o1,o2] a1.tmps)=true:=by simp[Region.wanted,e3]
  have y2:∀tm,Region.wanted o2 (yielded #[o1,o2] tm)=true:=by intro tm;simp[Region.wanted,e6]
  have cV:(a1.put (some t) fv).eval (.tmp t)=fv:=by
   have:t<a1.tmps.size:=by rw[vl.size];exact ht
   simp[Act.put,Act.eval,Array.getD,this]
  show wpListIn (dm none) 0 P #[o1,o2] _ [o1,o2] a1 w1
  unfold wpListIn
  rw[if_pos y1]
  have x1:(execOp a1.eval o1).run P w1= .ok (.value fv) w1:=by simp[execOp,e1,fv,cv,Instr.makeFunc]
  refine jx (fun c hc=>by rw[e1]at hc;cases hc) ?_
  rw[x1]
  show wpListIn (dm none) 0 P #[o1,o2] _ [o2] (a1.put o1.dst fv) w1
  rw[e2]
  unfold wpListIn
  rw[if_pos (y2 _)]
  have x2:(execOp (a1.put (some t) fv).eval o2).run P w1= .ok (.defer dd) w1:=by
   simp[execOp,e4,resolve,cV,Deferred.ofValue,fv,dd]
  refine⟨fun _ _=>trivial, ?_⟩
  have:(o2.semAt (dm none).round (a1.put (some t) fv).eval)=execOp (a1.put (some t) fv).eval o2:=rfl
  rw[this,x2]
  unfold Oper.uponIn
  simp only[e5,wpListIn,Act.put,sU,a2,and_self]
 rintro e a w2 ⟨rfl,rfl,rfl⟩
 have A5:t<a1.tmps.size:=by rw[vl.size];exact ht
 let s2:S:=⟨aA s1.env t (.func (.func g) [] (iy.map s1.ev)),s1.o,s1.nx⟩
 have JK:bS M gU s1.H w2 n ⟨[dd],false⟩ gU s2 a2 w2:=by
  refine⟨vl.heap,Trans.refl _ _ _,by simp[a2,vl.size],⟨[],rfl,List.nodup_nil,fun _=>rfl,fun r hr=>by cases hr⟩,fun i=> ?_⟩
  simp only[s2,a2,aH]
  by_cases h1:i=t
  ·subst h1
   have:(a1.tmps.setIfInBounds i fv).getD i undef=fv:=by simp[Array.getD,A5]
   simp only[if_true];rw[this]
   exact⟨#[],cv,rfl,rfl,NT⟩
  ·have:(a1.tmps.setIfInBounds t fv).getD i undef=a1.tmps.getD i undef:=by
    exact MJ
   simp only[h1,if_false];rw[this]
   exact vl.env i
 have hb:=gr (P:=P) (n:=n) (b:=s1.nx) (rd:=false) aZ cb _ _ s2 (fun _ _ h=>h) (by rw[Td];exact hq)
 refine fD (fY (P:=P) (H0:=s1.H) (b:=s1.nx) (cx:=⟨[dd],false⟩) (ro:=none) (fun id hu=>hu) (fun _=>rfl) cb _ s2 gU a2 w2 hb JK) ?_
 rintro e a3 w3 ⟨x,s3,WQ,ZS,C5,uw⟩
 obtain⟨ms,g1,g2,_,g4⟩:=C5.defers
 have hinv:(invoke dd.target dd.args).run P=fun w=> .ok (.enter g cv) w:=by
  funext w
  have:=j6 (w:=w) ⟨gn,hgn,Q2,by rw[Q3];rfl⟩ cv
  simpa[dd,invoke]using this
 have last:∀ {w4:World} {tm:Array Value} {u:V} {val:Value} {m0:FrameMode},m0≠ .run->wR M gU s1.H w2 WQ s3 a3.tmps w4->V.den (ak M WQ s3.H) WQ s3.H w4 u val->
  ((m0= .returning/\val= .nilIface)\/m0= .panicking [{v:=val,recovered:=false}])->
  (E3 P m r r1 zR (iy.map s1.ev) u s3.o s3.nx fun o nx=>kJ P rs K X .ret ⟨s3.env,o,nx⟩)->
  LeavesInM (dm none) 0 P fn a3.tmps (lN M φ (hp o nx) w K X) [dd] m0 w4:=by
  intro w4 tm u val m0 et hB Kp hm0 bt
  have Q4:=V.aN hB.tr _ _ NT
  refine⟨et, .inr ⟨fun h=>by simp[dm]at h, .func g,cv,g,cv,rfl,by rw[hinv],fun _ _=>trivial,CallsDIn.mono (E4 (k:=0 - 1) aZ hg bt (m:=m0) hB.heap Q4 Kp hm0) ?_⟩⟩
  rintro e u' w5 ⟨v,φ5,o5,ZT,rfl,aaV,k1,k2,k3⟩
  show LeavesInM (dm none) 0 P fn a3.tmps (lN M φ (hp o nx) w K X) [] (settle u') w5
  rw[aaV]
  obtain⟨vs,h1,h2⟩:=zf k3
  rw[<- wP]at h1
  have WR:∀i,V.den (ak M φ5 (hp o5 ZT)) φ5 (hp o5 ZT) w5 (s3.env i) (a3.tmps.getD i undef):=fun i=>V.aL k2 _ _ (hB.env i)
  obtain⟨acd,h3,h4⟩:=rI (P:=P) (s:=⟨s3.env,o5,ZT⟩) (a:=a3) k1 WR _ _ h1
  exact⟨_,lR h3,φ5,o5,ZT,_,k1,vl.tr.trans (hB.tr.trans k2),zg h4,h2⟩
 have done:E3 P m r r1 zR (iy.map s1.ev) (.d .fP) s3.o s3.nx (fun o nx=>kJ P rs K X .ret ⟨s3.env,o,nx⟩)->LeavesInM (dm none) 0 P fn a3.tmps (lN M φ (hp o nx) w K X) a3.defers .returning w3:=by
  intro bt
  rw[g1]
  exact fE (P:=P) (k:=0) (fn:=fn) (R:=lN M φ (hp o nx) w K X) (u:= .returning) aK (ds:=[dd]) (fun w4 hB=>last (tm:=a3.tmps) aK hB (u:= .d .fP) (val:= .nilIface) (by simp[V.den,D.den]) (.inl ⟨rfl,rfl⟩) bt) ms w3 g2 g4 C5.toB
 cases e<;>cases x<;>first|(exact uw.elim)|skip
 ·exact done ZS
 ·exact ZS.elim
 ·exact done ZS
 ·rename_i v
  obtain⟨val,rfl,hd'⟩:=uw
  show LeavesInM (dm none) 0 P fn a3.tmps (lN M φ (hp o nx) w K X) a3.defers _ w3
  rw[g1]
  let WS:Nat->V:=fun i=>match i with|0=>v|i+1=>s3.env i
  have WT:(#[val]++a3.tmps).getD 0 undef=val:=by simp[Array.getD]
  have WU:∀i,(#[val]++a3.tmps).getD (i+1) undef=a3.tmps.getD i undef:=by
   intro i
   simp only[Array.getD_eq_getD_getElem?]
   rw[Array.getElem?_append_right (by simp)]
   simp
  have Qk:wR M gU s1.H w2 WQ ⟨WS,s3.o,s3.nx⟩ (#[val]++a3.tmps) w3:=⟨C5.heap,C5.tr,fun i=>by
   cases i with
   |zero=>rw[WT];exact hd'
   |succ i=>rw[WU];exact C5.env i⟩
  have WV:∀w4,wR M gU s1.H w2 WQ ⟨WS,s3.o,s3.nx⟩ (#[val]++a3.tmps) w4->LeavesInM (dm none) 0 P fn a3.tmps (lN M φ (hp o nx) w K X) [dd] (.panicking [{v:=val,recovered:=false}]) w4:=by
   intro w4 hB
   have hv4:=hB.env 0
   rw[WT]at hv4
   refine last (tm:=a3.tmps) aK ⟨hB.heap,hB.tr,fun i=> ?_⟩ hv4 (.inr rfl) ZS
   have hs:=hB.env (i+1)
   rw[WU]at hs
   exact hs
  exact fE (P:=P) (k:=0) (fn:=fn) (R:=lN M φ (hp o nx) w K X) (u:= .panicking [{v:=val,recovered:=false}]) aK (ds:=[dd]) WV ms w3 g2 g4 Qk
end
end
theorem w7.HQ {P:Program}{g:FuncId}{ds:List D}{o:Nat->ab}{fr:Nat}{ty:TypeId}{sz:Nat}{es:List D}
 (h:cZ P g (ds.map .d) (fun _=> .no) 0 (fun v o1 _=>(∃j ep,v= .osl j ep/\o1 j= .arr ep ty sz es)\/(v= .a8/\es=[]/\0<sz)) (fun _ _ _=>False)):
 w7 P g (ds.map .d) [] o fr (.osl fr 0) [(fr, .arr 0 ty sz es)]:=by
 refine⟨h.1,fun o' us M φ w vals _ cJ hH hd=> ?_⟩
 let b7:Place:=fun _=> .nilFunc
 have ue:∀b, ¬cp b7 (hp (fun _=> .no) 0) b:=by rintro b ⟨id,hl,_⟩;simp[hp,ab.live]at hl
 have hM:∀b,ak M φ ⟨o',us⟩ b->b<w.heap.size:=fun b hb=>hb.elim (hH.x5 b) fun hl=>(hH.ours b hl).2
 have u1:=(V.bX _ _).1 hd
 refine(h.2 (ak M φ ⟨o',us⟩) b7 w vals (j7 b7 hM) ((V.bX _ _).2 (D.aN (w:=w) (w':=w) (B:=ak M φ ⟨o',us⟩) (fun b _ hB=>⟨rfl,fun h=>h.elim hB (ue b)⟩) _ _ u1))).mono ?_
 rintro e w' ⟨gU,o1,n1,v,k1,k2,k3⟩
 have hk:dk (fun _=>False) w w':=⟨k2.keep.os,k2.keep.tape,k2.keep.output,k2.keep.size,fun k hk _=>k2.keep.block k hk (ue k)⟩
 have Ko:(⟨o',us⟩:Hp).put [(fr, .arr 0 ty sz es)]=⟨put o' [(fr, .arr 0 ty sz es)],fun id=>us id\/id=fr⟩:=by
  simp only[Hp.put]
  congr 1
  funext id
  simp
 have fin:∀ (val:Value) (xs:List Value),(∀b,cX val=some b->w.heap.size<=b/\b<w'.heap.size)->0<sz->w'.ownsRow 0 ty sz val es.length xs->
  (eP (ak M (aA φ fr val) ((⟨o',us⟩:Hp).put [(fr, .arr 0 ty sz es)])) w' sz es xs)->
  val.oneCell'=true->
  ∃aE,ax M aE ⟨put o' [(fr, .arr 0 ty sz es)],fun id=>us id\/id=fr⟩ w'/\Trans φ ⟨o',us⟩ w aE ⟨put o' [(fr, .arr 0 ty sz es)],fun id=>us id\/id=fr⟩ w'/\
   ∃HS,Ending.returned val= .returned HS/\V.den (ak M aE ⟨put o' [(fr, .arr 0 ty sz es)],fun id=>us id\/id=fr⟩) aE ⟨put o' [(fr, .arr 0 ty sz es)],fun id=>us id\/id=fr⟩ w' (.osl fr 0) HS:=by
  intro val xs iP dh cY bG NU
  have oC:=gI hH hk cJ (.arr 0 ty sz es) val iP (by
   unfold aM
   rw[show((⟨o',us⟩:Hp).put [(fr, .arr 0 ty sz es)]).o fr= .arr 0 ty sz es by simp]
   refine⟨dh,xs, ?_,bG⟩
   rw[show aA φ fr val fr=val by simp]
   exact cY)
  have NV:=dE (φ:=φ) (H:=⟨o',us⟩) hk cJ (.arr 0 ty sz es) val (fun b hb=>(iP b hb).1)
  rw[Ko]at oC NV
  refine⟨aA φ fr val,oC,NV,val,rfl,NU, .inr rfl,fun e he=> ?_⟩
  have nM:0=e:=by
   have:(put o' [(fr,ab.arr 0 ty sz es)] fr).bT=some 0:=by simp[put,ab.bT]
   exact Vo
  exact⟨ag,fun _=>aK⟩
 cases e with
 |outgrown=>exact k3.elim
 |panicked ch=>obtain⟨_,_,_,h⟩:=k3;exact h.elim
 |returned val=>
  obtain⟨g1,⟨j,ep,rfl,hj⟩|⟨rfl,rfl,dh⟩⟩:=k3
  ·obtain⟨v0,v1,v2⟩:=g1
   have ef:val=gU j:=(v2 ep (by show(o1 j).bT=some ep;rw[hj];rfl)).2 rfl
   have cq:∀b,cX val=some b->cp gU (hp o1 n1) b:=fun b hb=>⟨j,by show(o1 j).live=true;rw[hj];rfl,by rw[<- ef];exact hb⟩
   have iP:∀b,cX val=some b->w.heap.size<=b/\b<w'.heap.size:=fun b hb=>⟨(k2.grow b (cq b hb)).resolve_left (ue b),(k1.ours b (cq b hb)).2⟩
   have B4:=k1.ok j
   unfold aM at B4
   rw[show(hp o1 n1).o j= .arr ep ty sz es from hj]at B4
   obtain⟨dh,xs,cY,bG⟩:=B4
   have hBs:∀b,ak M (aA φ fr val) ((⟨o',us⟩:Hp).put [(fr, .arr 0 ty sz es)]) b->ak (ak M φ ⟨o',us⟩) gU (hp o1 n1) b:=by
    rintro b (hb|⟨id,hl,hb⟩)
    ·exact .inl (.inl hb)
    ·by_cases e:id=fr
     ·subst e
      simp at hb
      exact .inr (cq b hb)
     ·simp[e]at hl hb
      exact .inl (.inr ⟨id,hl,hb⟩)
   exact fin val xs iP dh (by rw[ef];exact cY) (bG.mono (w:=w') (w':=w') (fun b _ hB=>⟨rfl,fun h=>hB (hBs b h)⟩)) v0
  ·have g1:val= .slice none 0 0:=g1
   subst g1
   exact UP
theorem w7.K8 {P:Program}{g:FuncId}{args:List V}{ds:List D}{o:Nat->ab}{fr:Nat}{ty:TypeId}{sz:Nat}{es:List D}
 (eg:bQ o args=some ds) (pw:D.iS es=true) (h:cZ P g (ds.map .d) (fun _=> .no) 0 (fun v o1 _=>(∃j ep,v= .osl j ep/\o1 j= .arr ep ty sz es)\/(v= .a8/\es=[]/\0<sz)) (fun _ _ _=>False)):
 w7 P g args (V.a7 args) o fr (.osl fr 0) [(fr, .arr 0 ty sz es)]:=by
 refine⟨h.1,fun o' us M φ w vals ZU cJ hH hd=> ?_⟩
 obtain⟨f1,f2,f3,f4,f5⟩:=cA hH (V.a7 args) (fun id au=>(ZU id au).2)
 generalize hHF:(⟨o',us⟩:Hp).put (bZ (⟨o',us⟩:Hp).o (V.a7 args))=HF at f1 f2 f3
 let b7:Place:=fun _=> .nilFunc
 have ue:∀b, ¬cp b7 (hp (fun _=> .no) 0) b:=by rintro b ⟨id,hl,_⟩;simp[hp,ab.live]at hl
 have hM:∀b,ak M φ HF b->b<w.heap.size:=fun b hb=>hb.elim (f1.x5 b) fun hl=>(f1.ours b hl).2
 have u1:D.az (ak M φ HF) w ds vals.toList:=cQ f1 args ds _ (fun id au=>by rw[f3 id au];show(o' id).fz=(o id).fz;rw[(ZU id au).1]) eg (V.aN f2 _ _ hd)
 refine(h.2 (ak M φ HF) b7 w vals (j7 b7 hM) ((V.bX _ _).2 (D.aN (w:=w) (w':=w) (B:=ak M φ HF) (fun b _ hB=>⟨rfl,fun h=>h.elim hB (ue b)⟩) _ _ u1))).mono ?_
 rintro e w' ⟨gU,o1,n1,v,k1,k2,k3⟩
 have hk:dk (fun _=>False) w w':=⟨k2.keep.os,k2.keep.tape,k2.keep.output,k2.keep.size,fun k hk _=>k2.keep.block k hk (ue k)⟩
 have Ko:(⟨o',us⟩:Hp).put [(fr, .arr 0 ty sz es)]=⟨put o' [(fr, .arr 0 ty sz es)],fun id=>us id\/id=fr⟩:=by
  simp only[Hp.put]
  congr 1
  funext id
  simp
 have fin:∀ (val:Value) (xs:List Value),(∀b,cX val=some b->w.heap.size<=b/\b<w'.heap.size)->0<sz->w'.ownsRow 0 ty sz val es.length xs->
  (eP (ak M (aA φ fr val) ((⟨o',us⟩:Hp).put [(fr, .arr 0 ty sz es)])) w' sz es xs)->
  val.oneCell'=true->
  ∃aE,ax M aE ⟨put o' [(fr, .arr 0 ty sz es)],fun id=>us id\/id=fr⟩ w'/\Trans φ ⟨o',us⟩ w aE ⟨put o' [(fr, .arr 0 ty sz es)],fun id=>us id\/id=fr⟩ w'/\
   ∃HS,Ending.returned val= .returned HS/\V.den (ak M aE ⟨put o' [(fr, .arr 0 ty sz es)],fun id=>us id\/id=fr⟩) aE ⟨put o' [(fr, .arr 0 ty sz es)],fun id=>us id\/id=fr⟩ w' (.osl fr 0) HS:=by
  intro val xs iP dh cY bG NU
  have oC:=gI hH hk cJ (.arr 0 ty sz es) val iP (by
   unfold aM
   rw[show((⟨o',us⟩:Hp).put [(fr, .arr 0 ty sz es)]).o fr= .arr 0 ty sz es by simp]
   refine⟨dh,xs, ?_,bG⟩
   rw[show aA φ fr val fr=val by simp]
   exact cY)
  have NV:=dE (φ:=φ) (H:=⟨o',us⟩) hk cJ (.arr 0 ty sz es) val (fun b hb=>(iP b hb).1)
  rw[Ko]at oC NV
  refine⟨aA φ fr val,oC,NV,val,rfl,NU, .inr rfl,fun e he=> ?_⟩
  have nM:0=e:=by
   have:(put o' [(fr,ab.arr 0 ty sz es)] fr).bT=some 0:=by simp[put,ab.bT]
   exact Vo
  exact⟨ag,fun _=>aK⟩
 cases e with
 |outgrown=>exact k3.elim
 |panicked ch=>obtain⟨_,_,_,h⟩:=k3;exact h.elim
 |returned val=>
  obtain⟨g1,⟨j,ep,rfl,hj⟩|⟨rfl,rfl,dh⟩⟩:=k3
  ·obtain⟨v0,v1,v2⟩:=g1
   have ef:val=gU j:=(v2 ep (by show(o1 j).bT=some ep;rw[hj];rfl)).2 rfl
   have cq:∀b,cX val=some b->cp gU (hp o1 n1) b:=fun b hb=>⟨j,by show(o1 j).live=true;rw[hj];rfl,by rw[<- ef];exact hb⟩
   have iP:∀b,cX val=some b->w.heap.size<=b/\b<w'.heap.size:=fun b hb=>⟨(k2.grow b (cq b hb)).resolve_left (ue b),(k1.ours b (cq b hb)).2⟩
   have B4:=k1.ok j
   unfold aM at B4
   rw[show(hp o1 n1).o j= .arr ep ty sz es from hj]at B4
   obtain⟨dh,xs,cY,bG⟩:=B4
   obtain⟨evs,e1,e2,e3⟩:=bG
   exact fin val xs iP dh (by rw[ef];exact cY) ⟨evs,e1,e2,D.kF _ _ pw e3⟩ v0
  ·have g1:val= .slice none 0 0:=g1
   subst g1
   exact UP
theorem w7.K9 {P:Program}{g:FuncId}{args:List V}{ds:List D}{o0 o:Nat->ab}{rd:List Nat}{fr:Nat}{v:V}{Δ:List (Nat×ab)}(au:V.a7 args=[])(eg:bQ o0 args=some ds)
 (h:w7 P g (ds.map .d) rd o fr v Δ):w7 P g args rd o fr v Δ:=
 ⟨h.1,fun o' us M φ w vals h1 h2 hH hd=>h.2 o' us M φ w vals h1 h2 hH ((V.bX _ _).2 (cQ hH args ds _ (by rw[au];intro id h;cases h) eg hd))⟩
def NW(P:Program)(f:FuncId):Prop:=
 Enters P f/\∀ (w:World) (b:Nat) (es:Array MapEntry) (clock:Nat),w.heap[b]? =some (.map es clock)->
  Calls P f #[.map (some b)] w fun e w'=>e= .returned (.map (some w.heap.size))/\w'=w.alloc (.map es clock)
theorem cZ.Q5 {P:Program}{f:FuncId}(h:NW P f){o:Nat->ab}{nx id:Nat}{kt vt:TypeId}{l:List (D×D)}(ho:o id= .map kt vt l){K X:V->(Nat->ab)->Nat->Prop}
 (hK:K (.mp nx) (aA o nx (.map kt vt l)) (nx+1)):cZ P f [.mp id] o nx K X:=by
 refine⟨h.1,fun M φ w vals hH hd=> ?_⟩
 have hlen:=V.ay _ _ hd
 obtain⟨v,rfl⟩:∃v,vals=#[v]:=by
  match vals,hlen with
  |⟨[v]⟩,_=>exact⟨v,rfl⟩
 obtain⟨v',rh,Kp⟩:=V.c7 _ _ 0 (.mp id) hd rfl
 simp only[List.getElem?_cons_zero,Option.some.injEq]at rh
 subst rh
 have aU:=hH.ok id
 have uO:(hp o nx).o id= .map kt vt l:=ho
 simp only[aM,uO]at aU
 obtain⟨b,es,clock,e1,e2,e3,e4⟩:=aU
 have hv:v=φ id:=Kp.2.2 (by rw[uO];rfl)
 rw[hv,e1]
 refine(h.2 w b es clock e2).mono fun e w' ⟨he,hw⟩=> ?_
 subst he;subst hw
 have cJ: ¬ (hp o nx).us nx:=fun h=>Nat.lt_irrefl _ h
 have Ko:(hp o nx).put [(nx, .map kt vt l)]=hp (aA o nx (.map kt vt l)) (nx+1):=by
  simp only[Hp.put,hp]
  congr 1
  funext j
  simp only[List.map_cons,List.map_nil,List.mem_singleton,eq_iff_iff]
  omega
 have hvb:∀c,cX (.map (some w.heap.size))=some c->w.heap.size<=c/\c<(w.alloc (.map es clock)).heap.size:=by
  intro c hc;simp[cX]at hc;subst hc;simp
 have ht:=dE (φ:=φ) (H:=hp o nx) (b8 w (.map es clock)) cJ (.map kt vt l) (.map (some w.heap.size)) fun c hc=>(hvb c hc).1
 refine⟨aA φ nx (.map (some w.heap.size)),aA o nx (.map kt vt l),nx+1, .mp nx, ?_, ?_, ?_,hK⟩
 ·rw[<- Ko]
  refine gI hH (b8 w _) cJ _ _ hvb ?_
  unfold aM
  simp only[bA,aH,if_true]
  exact⟨w.heap.size,es,clock,rfl,heap_alloc_new w _,e3,aI.mono (ht.blocks (M:=M)) l _ e4⟩
 ·rw[<- Ko];exact ht
 ·rw[<- Ko];exact⟨rfl,aK,fun _=>aK⟩
section
inductive Tr (α:Type) where
 |e (f:Nat->α)
 |n (x:α) (l r:Tr α)
noncomputable def Tr.get {α:Type}(t:Tr α):Nat->α:=
 Tr.rec (motive:=fun _=>Nat->α) (fun f=>f) (fun x _ _ l r k=>Bool.rec (Bool.rec (r (Nat.sub (Nat.div k 2) 1)) (l (Nat.div k 2)) (Nat.beq (Nat.mod k 2) 1)) x (Nat.beq k 0)) t
theorem Tr.Dl {α:Type}(f:Nat->α):(Tr.e f).get=f:=rfl
noncomputable def Tr.sV {α:Type}(x:α):Nat->Tr α->Nat->Tr α
 |0,t,k=> .e (aA t.get k x)
 |d+1, .e f,k=>match Nat.beq k 0 with
  |true=> .n x (.e fun i=>f (2*i+1)) (.e fun i=>f (2*i+2))
  |false=>match Nat.beq (k%2) 1 with
   |true=> .n (f 0) (Tr.sV x d (.e fun i=>f (2*i+1)) (k/2)) (.e fun i=>f (2*i+2))
   |false=> .n (f 0) (.e fun i=>f (2*i+1)) (Tr.sV x d (.e fun i=>f (2*i+2)) (k/2 - 1))
 |d+1, .n y l r,k=>match Nat.beq k 0 with
  |true=> .n x l r
  |false=>match Nat.beq (k%2) 1 with
   |true=> .n y (Tr.sV x d l (k/2)) r
   |false=> .n y l (Tr.sV x d r (k/2 - 1))
noncomputable def Tr.set {α:Type}(t:Tr α)(k:Nat)(x:α):Tr α:=Tr.sV x 24 t k
theorem Tr.sW {α:Type}{x:α}{l r:Tr α}{k:Nat}:(Tr.n x l r).get k=if k=0 then x else if k%2=1 then l.get (k/2)else r.get (k/2 - 1):=by
 show @Bool.rec (fun _=>α) (@Bool.rec (fun _=>α) (r.get (k/2 - 1)) (l.get (k/2)) (Nat.beq (k%2) 1)) x (Nat.beq k 0)=_
 by_cases h:k=0
 ·subst h;rfl
 ·have:Nat.beq k 0=false:=by cases k with|zero=>exact absurd rfl h|succ k=>rfl
  simp only[this,h,if_false]
  by_cases h2:k%2=1
  ·simp[h2]
  ·have:Nat.beq (k%2) 1=false:=by
    cases hb:Nat.beq (k%2) 1 with
    |false=>rfl
    |true=>exact absurd (Nat.eq_of_beq_eq_true hb) h2
   simp[h2,this]
theorem Tr.l6 {α:Type}(x:α):∀ (d:Nat) (t:Tr α) (k:Nat),(Tr.sV x d t k).get=aA t.get k x
 |0,t,k=>rfl
 |d+1, .e f,k=>by
  funext i
  simp only[Tr.sV]
  have hb:∀a b:Nat,Nat.beq a b=decide (a=b):=fun a b=>by
   cases h:Nat.beq a b with
   |true=>simp[Nat.eq_of_beq_eq_true h]
   |false=>simp[Nat.ne_of_beq_eq_false h]
  rw[hb,hb]
  by_cases h:k=0
  ·subst h
   simp only[decide_true,Tr.sW,aH]
   by_cases hi:i=0
   ·simp[hi]
   ·simp only[hi,if_false]
    by_cases h2:i%2=1
    ·simp only[h2,if_true,Tr.Dl];congr 1;omega
    ·simp only[h2,if_false,Tr.Dl];congr 1;omega
  ·simp only[h,decide_false]
   by_cases hk:k%2=1
   ·simp only[hk,decide_true,Tr.sW,Tr.l6 x d,aH,Tr.Dl]
    by_cases hi:i=0
    ·exact CH
    ·simp only[hi,if_false]
     by_cases h2:i%2=1
     ·simp only[h2,if_true]
      have e1:2*(i/2)+1=i:=ag
      rw[e1]
      by_cases e:i=k
      ·simp[e]
      ·exact CD
     ·simp only[h2,if_false]
      rw[if_neg (by intro e;subst e;exact h2 hk)]
      congr 1;omega
   ·simp only[hk,decide_false,Tr.sW,Tr.l6 x d,aH,Tr.Dl]
    by_cases hi:i=0
    ·exact CH
    ·simp only[hi,if_false]
     by_cases h2:i%2=1
     ·simp only[h2,if_true]
      rw[if_neg (by intro e;subst e;exact hk h2)]
      congr 1;omega
     ·simp only[h2,if_false]
      have e1:2*(i/2 - 1)+2=i:=ag
      rw[e1]
      by_cases e:i=k
      ·simp[e]
      ·exact CD
 |d+1, .n y l r,k=>by
  funext i
  simp only[Tr.sV]
  have hb:∀a b:Nat,Nat.beq a b=decide (a=b):=fun a b=>by
   cases h:Nat.beq a b with
   |true=>simp[Nat.eq_of_beq_eq_true h]
   |false=>simp[Nat.ne_of_beq_eq_false h]
  rw[hb,hb]
  by_cases h:k=0
  ·subst h
   simp only[decide_true,Tr.sW,aH]
   by_cases hi:i=0
   ·simp[hi]
   ·simp[hi]
  ·simp only[h,decide_false]
   by_cases hk:k%2=1
   ·simp only[hk,decide_true,Tr.sW,Tr.l6 x d,aH]
    by_cases hi:i=0
    ·exact CH
    ·simp only[hi,if_false]
     by_cases h2:i%2=1
     ·simp only[h2,if_true]
      by_cases e:i=k
      ·simp[e]
      ·exact CD
     ·simp only[h2,if_false]
      rw[if_neg (by intro e;subst e;exact h2 hk)]
   ·simp only[hk,decide_false,Tr.sW,Tr.l6 x d,aH]
    by_cases hi:i=0
    ·exact CH
    ·simp only[hi,if_false]
     by_cases h2:i%2=1
     ·simp only[h2,if_true]
      rw[if_neg (by intro e;subst e;exact hk h2)]
     ·simp only[h2,if_false]
      by_cases e:i=k
      ·simp[e]
      ·exact CD
theorem Tr.gC {α:Type}(t:Tr α)(k:Nat)(x:α):(t.set k x).get=aA t.get k x:=Tr.l6 x 24 t k
noncomputable def Nat.fc {β:Type}(n:Nat)(c:Nat->β):β:=Nat.rec (motive:=fun _=>β) (c 0) (fun m _=>c (Nat.succ m)) n
theorem Nat.cC {β:Type}(n:Nat)(c:Nat->β):Nat.fc n c=c n:=by cases n<;>rfl
noncomputable def Int.fc {β:Type}(n:Int)(c:Int->β):β:=Int.rec (motive:=fun _=>β) (fun m=>Nat.fc m fun m=>c (.ofNat m)) (fun m=>Nat.fc m fun m=>c (.negSucc m)) n
theorem Int.cC {β:Type}(n:Int)(c:Int->β):Int.fc n c=c n:=by cases n<;>simp only[Int.fc,Nat.cC]
mutual
noncomputable def D.fc {β:Type}:D->(D->β)->β
 | .int k n,c=>Int.fc n fun n=>c (.int k n)
 | .bool b,c=>match b with|true=>c (.bool true)|false=>c (.bool false)
 | .agg l,c=>D.sX l fun l=>c (.agg l)
 | .sl l,c=>D.sX l fun l=>c (.sl l)
 | .iface t x,c=>D.fc x fun x=>c (.iface t x)
 | .str s,c=>c (.str s)
 | .fP,c=>c .fP
 | .lp,c=>c .lp
 | .bV,c=>c .bV
 | .gE,c=>c .gE
 | .mp ks vs,c=>D.sX ks fun ks=>D.sX vs fun vs=>c (.mp ks vs)
noncomputable def D.sX {β:Type}:List D->(List D->β)->β
 |[],c=>c []
 |x::xs,c=>D.fc x fun x=>D.sX xs fun xs=>c (x::xs)
end
mutual
theorem D.cC {β:Type}:∀ (x:D) (c:D->β),D.fc x c=c x
 | .int k n,c=>by simp only[D.fc,Int.cC]
 | .bool b,c=>by cases b<;>rfl
 | .agg l,c=>by simp only[D.fc,D.eA l]
 | .sl l,c=>by simp only[D.fc,D.eA l]
 | .iface t x,c=>by simp only[D.fc,D.cC x]
 | .mp ks vs,c=>by simp only[D.fc,D.eA ks,D.eA vs]
 | .str _,_| .fP,_| .lp,_| .bV,_| .gE,_=>by simp only[D.fc]
theorem D.eA {β:Type}:∀ (x:List D) (c:List D->β),D.sX x c=c x
 |[],c=>by simp only[D.sX]
 |x::xs,c=>by simp only[D.sX,D.cC x,D.eA xs]
end
mutual
noncomputable def V.fc {β:Type}:V->(V->β)->β
 | .d x,c=>D.fc x fun x=>c (.d x)
 | .agg l,c=>V.sX l fun l=>c (.agg l)
 | .bP l,c=>V.sX l fun l=>c (.bP l)
 | .ptr i o,c=>Nat.fc i fun i=>Nat.fc o fun o=>c (.ptr i o)
 | .osl i o,c=>Nat.fc i fun i=>Nat.fc o fun o=>c (.osl i o)
 | .pe a b i j k,c=>Nat.fc a fun a=>Nat.fc b fun b=>Nat.fc i fun i=>Nat.fc j fun j=>Nat.fc k fun k=>c (.pe a b i j k)
 | .pp l o,c=>D.sX l fun l=>Nat.fc o fun o=>c (.pp l o)
 | .func f a b,c=>V.sX a fun a=>V.sX b fun b=>c (.func f a b)
 | .iface t x,c=>V.fc x fun x=>c (.iface t x)
 | .px l,c=>D.sX l fun l=>c (.px l)
 | .uU i j k,c=>Nat.fc i fun i=>Nat.fc j fun j=>Nat.fc k fun k=>c (.uU i j k)
 | .mp i,c=>Nat.fc i fun i=>c (.mp i)
 | .ir i,c=>Nat.fc i fun i=>c (.ir i)
 | .a8,c=>c .a8
 | .aa,c=>c .aa
 | .ey,c=>c .ey
noncomputable def V.sX {β:Type}:List V->(List V->β)->β
 |[],c=>c []
 |x::xs,c=>V.fc x fun x=>V.sX xs fun xs=>c (x::xs)
end
mutual
theorem V.cC {β:Type}:∀ (x:V) (c:V->β),V.fc x c=c x
 | .d x,c=>by simp only[V.fc,D.cC]
 | .agg l,c=>by simp only[V.fc,V.eA l]
 | .bP l,c=>by simp only[V.fc,V.eA l]
 | .pp l o,c=>by simp only[V.fc,D.eA,Nat.cC]
 | .func f a b,c=>by simp only[V.fc,V.eA a,V.eA b]
 | .iface t x,c=>by simp only[V.fc,V.cC x]
 | .px l,c=>by simp only[V.fc,D.eA]
 | .ptr _ _,_| .osl _ _,_| .pe _ _ _ _ _,_| .uU _ _ _,_| .mp _,_| .ir _,_| .a8,_| .aa,_| .ey,_=>by simp only[V.fc,Nat.cC]
theorem V.eA {β:Type}:∀ (x:List V) (c:List V->β),V.sX x c=c x
 |[],c=>by simp only[V.sX]
 |x::xs,c=>by simp only[V.sX,V.cC x,V.eA xs]
end
section
variable {β:Type}
noncomputable def WW(k:IntKind)(n:Int)(c:V->β):β:=Int.fc n fun n=>c (.d (.int k n))
noncomputable def WX(b:Bool)(c:V->β):β:= @Bool.rec (fun _=>β) (c (.d (.bool false))) (c (.d (.bool true))) b
noncomputable def Q6(x:D)(c:V->β):β:=D.fc x fun x=>c (.d x)
noncomputable def vD(x:D):(V->β)->β:=match x with| .int k n=>WW k n| .bool b=>WX b|x=>Q6 x
noncomputable def WY(i o:Nat)(c:V->β):β:=Nat.fc i fun i=>Nat.fc o fun o=>c (.ptr i o)
noncomputable def WZ(i o:Nat)(c:V->β):β:=Nat.fc i fun i=>Nat.fc o fun o=>c (.osl i o)
noncomputable def vPe(a b i j k:Nat)(c:V->β):β:=Nat.fc a fun a=>Nat.fc b fun b=>Nat.fc i fun i=>Nat.fc j fun j=>Nat.fc k fun k=>c (.pe a b i j k)
noncomputable def V.T5 (v:V):(V->β)->β:=match v with| .d x=>vD x| .ptr i o=>WY i o| .osl i o=>WZ i o| .pe a b i j k=>vPe a b i j k|v=>V.fc v
theorem V.Q7 (v:V)(c:V->β):V.T5 v c=c v:=by
 cases v
 case d x=>
  cases x
  case int k n=>simp only[V.T5,vD,WW,Int.cC]
  case bool b=>cases b<;>rfl
  all_goals exact D.cC _ _
 case ptr i o=>simp only[V.T5,WY,Nat.cC]
 case osl i o=>simp only[V.T5,WZ,Nat.cC]
 case pe a b i j k=>simp only[V.T5,vPe,Nat.cC]
 all_goals exact V.cC _ _
end
noncomputable def T6{β:Type}:List (D×D)->(List (D×D)->β)->β
 |[],c=>c []
 |(a,b)::l,c=>D.fc a fun a=>D.fc b fun b=>T6 l fun l=>c ((a,b)::l)
theorem HT{β:Type}:∀ (x:List (D×D)) (c:List (D×D)->β),T6 x c=c x
 |[],c=>rfl
 |(a,b)::l,c=>by simp only[T6,D.cC,HT l]
noncomputable def ab.fc {β:Type}(x:ab)(c:ab->β):β:=
 match x with
 | .row cs=>V.sX cs fun cs=>c (.row cs)
 | .arr e t s es=>Nat.fc e fun e=>Nat.fc s fun s=>D.sX es fun es=>c (.arr e t s es)
 | .qu e es=>Nat.fc e fun e=>D.sX es fun es=>c (.qu e es)
 | .map kt vt l=>T6 l fun l=>c (.map kt vt l)
 | .fU l=>T6 l fun l=>c (.fU l)
 | .np l last=>T6 l fun l=>c (.np l last)
 | .wx l pos=>Nat.fc pos fun pos=>c (.wx l pos)
 |x=>c x
theorem ab.cC {β:Type}(x:ab)(c:ab->β):ab.fc x c=c x:=by cases x<;>simp only[ab.fc,V.eA,D.eA,Nat.cC,HT]
noncomputable def Tr.vC {α β:Type}(x:α)(d:Nat):Tr α->Nat->(Tr α->β)->β:=
 Nat.rec (motive:=fun _=>Tr α->Nat->(Tr α->β)->β) (fun t k c=>c (.e (aA t.get k x)))
  (fun _ ih t k c=>Tr.rec (motive:=fun _=>β) (fun f=>
   Bool.rec (Bool.rec (ih (.e fun i=>f (2*i+2)) (Nat.sub (Nat.div k 2) 1) fun r=>c (.n (f 0) (.e fun i=>f (2*i+1)) r)) (ih (.e fun i=>f (2*i+1)) (Nat.div k 2) fun l=>c (.n (f 0) l (.e fun i=>f (2*i+2)))) (Nat.beq (Nat.mod k 2) 1))
    (c (.n x (.e fun i=>f (2*i+1)) (.e fun i=>f (2*i+2)))) (Nat.beq k 0))
   (fun y l r _ _=>Bool.rec (Bool.rec (ih r (Nat.sub (Nat.div k 2) 1) fun r=>c (.n y l r)) (ih l (Nat.div k 2) fun l=>c (.n y l r)) (Nat.beq (Nat.mod k 2) 1)) (c (.n x l r)) (Nat.beq k 0)) t) d
theorem Tr.sY {α β:Type}(x:α):∀ (d:Nat) (t:Tr α) (k:Nat) (c:Tr α->β),Tr.vC x d t k c=c (Tr.sV x d t k)
 |0,t,k,c=>rfl
 |d+1, .e f,k,c=>by
  show @Bool.rec (fun _=>β) (@Bool.rec (fun _=>β) (Tr.vC x d (.e fun i=>f (2*i+2)) (k/2 - 1) fun r=>c (.n (f 0) (.e fun i=>f (2*i+1)) r)) (Tr.vC x d (.e fun i=>f (2*i+1)) (k/2) fun l=>c (.n (f 0) l (.e fun i=>f (2*i+2)))) (Nat.beq (k%2) 1)) (c (.n x (.e fun i=>f (2*i+1)) (.e fun i=>f (2*i+2)))) (Nat.beq k 0)=_
  simp only[Tr.sV,Tr.sY x d]
  cases Nat.beq k 0
  ·cases Nat.beq (k%2) 1<;>rfl
  ·rfl
 |d+1, .n y l r,k,c=>by
  show @Bool.rec (fun _=>β) (@Bool.rec (fun _=>β) (Tr.vC x d r (k/2 - 1) fun r=>c (.n y l r)) (Tr.vC x d l (k/2) fun l=>c (.n y l r)) (Nat.beq (k%2) 1)) (c (.n x l r)) (Nat.beq k 0)=_
  simp only[Tr.sV,Tr.sY x d]
  cases Nat.beq k 0
  ·cases Nat.beq (k%2) 1<;>rfl
  ·rfl
noncomputable def Tr.Q8 {α β:Type}(t:Tr α)(k:Nat)(x:α)(c:Tr α->β):β:=Tr.vC x 24 t k c
theorem Tr.Dm {α β:Type}(t:Tr α)(k:Nat)(x:α)(c:Tr α->β):t.Q8 k x c=c (t.set k x):=Tr.sY x 24 t k c
structure St where
 env:Tr V
 o:Tr ab
 nx:Nat
noncomputable def St.S (st:St):S:=⟨st.env.get,st.o.get,st.nx⟩
noncomputable def E5(o:Tr ab)(Δ:List (Nat×ab)):Tr ab:=Δ.foldl (fun f x=>f.set x.1 x.2) o
noncomputable def qN(env:Tr V)(dst:Option Tmp)(v:V):Tr V:=match dst with|some d=>env.set d v|none=>env
noncomputable def sZ{β:Type}(o:Tr ab):List (Nat×ab)->(Tr ab->β)->β
 |[],c=>c o
 |(i,x)::Δ,c=>ab.fc x fun x=>o.Q8 i x fun o=>sZ o Δ c
theorem l7{β:Type}:∀ (Δ:List (Nat×ab)) (o:Tr ab) (c:Tr ab->β),sZ o Δ c=c (E5 o Δ)
 |[],o,c=>rfl
 |(i,x)::Δ,o,c=>by simp only[sZ,ab.cC,Tr.Dm,l7 Δ];rfl
noncomputable def kP{β:Type}(env:Tr V)(dst:Option Tmp)(v:V)(c:Tr V->β):β:=match dst with|some d=>V.T5 v fun v=>env.Q8 d v c|none=>c env
theorem iF{β:Type}(env:Tr V)(dst:Option Tmp)(v:V)(c:Tr V->β):kP env dst v c=c (qN env dst v):=by
 cases dst<;>simp only[kP,qN,V.Q7,Tr.Dm]
theorem jb:∀ (Δ:List (Nat×ab)) (o:Tr ab),(E5 o Δ).get=put o.get Δ
 |[],_=>rfl
 |x::Δ,o=>by
  simp only[E5,put,List.foldl_cons]
  have:=jb Δ (o.set x.1 x.2)
  simp only[E5,put]at this
  rw[this,Tr.gC]
theorem iA(env:Tr V)(dst:Option Tmp)(v:V):(qN env dst v).get=aT env.get dst v:=by
 cases dst<;>simp[qN,aT,Tr.gC]
section Q9
def NX(x:Operand)(_:Program)(s:S)(_:Nat):Option eR:=one (s.ev x)
def W0(c a b:Operand)(_:Program)(s:S)(_:Nat):Option eR:=kM (oE (s.ev c) (s.ev a) (s.ev b))
def Ra(t:TypeId)(parts:Array (Nat×Operand))(P:Program)(s:S)(_:Nat):Option eR:=kM (wT P t (parts.toList.map fun p=>(p.1,s.ev p.2)))
def zS(t:TypeId)(len:Nat)(parts:Array (Nat×Operand))(P:Program)(s:S)(fr:Nat):Option eR:=fe P s.o fr t len (parts.toList.map fun p=>(p.1,s.ev p.2))
def W1(t:TypeId)(x:Operand)(P:Program)(s:S)(_:Nat):Option eR:=lU P s.o t (s.ev x)
def Rb(t:TypeId)(x v:Operand)(P:Program)(s:S)(_:Nat):Option eR:=pT P s.o t (s.ev x) (s.ev v)
def aaW(x:Operand)(_:Program)(s:S)(_:Nat):Option eR:=kM (iB s.o (s.ev x))
noncomputable def W2(op:BinOp):IntKind->Int->Int->Option V:=
 match op with
 | .add=>fun k a b=>some (.d (.int k (k.wrap (Int.add a b))))
 | .sub=>fun k a b=>some (.d (.int k (k.wrap (Int.sub a b))))
 | .mul=>fun k a b=>some (.d (.int k (k.wrap (Int.mul a b))))
 |op=>zh op
theorem La(op:BinOp):W2 op=zh op:=by cases op<;>rfl
def asInt(x:V):Option (IntKind×Int):=match x with| .d (.int k a)=>some (k,a)|_=>none
def HU(op:BinOp)(t:TypeId)(c:Bool)(x y:V)(P:Program)(o:Nat->ab):Option eR:=ew P o op t c x y
noncomputable def W3(op:BinOp)(t:TypeId)(x y:Operand)(P:Program)(s:S)(_:Nat):Option eR:=
 match asInt (s.ev x)with
 |some (k,a)=>match asInt (s.ev y)with
  |some (k',b)=>if k=k' then match W2 op k a b with
   |some v=>some (v,[],[])
   |none=>HU op t (isConst x||isConst y) (s.ev x) (s.ev y) P s.o
   else none
  |none=>HU op t (isConst x||isConst y) (s.ev x) (s.ev y) P s.o
 |none=>HU op t (isConst x||isConst y) (s.ev x) (s.ev y) P s.o
theorem zT{x:V}{k:IntKind}{a:Int}(h:asInt x=some (k,a)):x= .d (.int k a):=by
 unfold asInt at h;split at h
 ·injection h with h;cases h;rfl
 ·cases h
def B5(t:TypeId)(x:Operand)(f:Nat)(P:Program)(s:S)(_:Nat):Option eR:=kM (gf P s.o t (s.ev x) f)
def B6(t:TypeId)(x i:Operand)(P:Program)(s:S)(_:Nat):Option eR:=fZ P s.o t (s.ev x) (s.ev i)
def Rc(op:Op)(P:Program)(s:S)(fr:Nat):Option eR:=fm P s fr op
noncomputable def Lb(op:Op):Program->S->Nat->Option eR:=
 match op with
 | .move x=>NX x
 | .assign x=>NX x
 | .pick c a b=>W0 c a b
 | .build t parts=>Ra t parts
 | .buildSlice t len parts=>zS t len parts
 | .load t x=>W1 t x
 | .store t x v=>Rb t x v
 | .nilCheck x=>aaW x
 | .binOp op t x y _=>W3 op t x y
 | .fieldAddr t x f=>B5 t x f
 | .indexAddr t x i=>B6 t x i
 |op=>Rc op
theorem Dn{op:Op}{P:Program}{s:S}{fr:Nat}{r:eR}(h:Lb op P s fr=some r):fm P s fr op=some r:=by
 cases op
 case binOp op t x y yt=>
  simp only[Lb,W3,La]at h
  have e:fm P s fr (.binOp op t x y yt)=ew P s.o op t (isConst x||isConst y) (s.ev x) (s.ev y):=rfl
  rw[e]
  split at h
  ·rename_i k a hx
   split at h
   ·rename_i k' b hy
    split at h
    ·rename_i hk
     split at h
     ·rename_i v hv
      unfold ew wS
      simp only[zT hx,zT hy,if_pos hk,hv]
      exact h
     ·exact h
    ·cases h
   ·exact h
  ·exact h
 all_goals exact h
end Q9
inductive FD where
 |fn (n:Nat) (ic:IC) (rs:List ResultVar)
 |dfr (n:Nat) (iL eI:IC) (g t:Nat) (iy:List Operand) (rs:List ResultVar) (m r r1:Nat) (zR:IC)
 |mpc
 |no
def FD.Ok (P:Program)(f:Nat):FD->Prop
 | .fn n ic rs=>aF P f n ic rs
 | .dfr n iL eI g t iy rs m r r1 zR=>HM P f n iL eI g t iy rs/\Dk P g m r r1 zR
 | .mpc=>NW P f
 | .no=>True
inductive CR where
 |ret (v:V) (o:Tr ab) (nx:Nat)|bD (v:V) (o:Tr ab) (nx:Nat)
def CR.to (K X:V->(Nat->ab)->Nat->Prop):CR->Prop
 | .ret v o nx=>K v o.get nx
 | .bD v o nx=>X v o.get nx
inductive RO where
 |ok (st:St)|bD (v:V) (st:St)
def RO.to (K:S->Prop)(X:V->S->Prop):RO->Prop
 | .ok st=>K st.S
 | .bD v st=>X v st.S
inductive dA where
 |r (x:R)|c (x:CR)
abbrev Kt:=eK->St->Option dA
abbrev c0:=Nat->Bool->Nat->IC->St->Kt->Option dA
noncomputable def E6(P:Program)(rs:List ResultVar)(st:St)(kc:CR->Option dA):Option dA:=
 match kH P st.S rs with
 |some [v]=>kc (.ret v st.o st.nx)
 |some vs=>kc (.ret (.bP vs) st.o st.nx)
 |none=>none
noncomputable def NY(P:Program)(rs:List ResultVar)(kc:CR->Option dA):Kt:=fun e st=>
 match e with
 | .normal=>E6 P rs st kc
 | .ret=>E6 P rs st kc
 | .bD v=>kc (.bD v st.o st.nx)
 | .exit _=>none
noncomputable def HV(P:Program)(rs:List ResultVar)(kc:CR->Option dA)(env:Tr V):Kt:=fun e s4=>
 match e with
 | .normal=>E6 P rs ⟨env,s4.o,s4.nx⟩ kc
 | .ret=>E6 P rs ⟨env,s4.o,s4.nx⟩ kc
 |_=>none
def W4:eK->Option V
 | .normal=>some (.d .fP)
 | .ret=>some (.d .fP)
 | .bD v=>some v
 | .exit _=>none
noncomputable def HW(P:Program)(rec:c0)(rs:List ResultVar)(aV:List V)(m r r1:Nat)(zR:IC)(kc:CR->Option dA):Kt:=fun e s3=>
 match W4 e with
 |some u=>if aV.length<=m then rec s3.nx true m zR ⟨.e (aA (aA (ct aV) r u) r1 u),s3.o,s3.nx⟩ (HV P rs kc s3.env)else none
 |none=>none
noncomputable def Dp(P:Program)(rec:c0)(n t:Nat)(eI:IC)(g:Nat)(iy:List Operand)(rs:List ResultVar)(m r r1:Nat)(zR:IC)(kc:CR->Option dA):Kt:=fun e s1=>
 match e with
 | .normal=>rec s1.nx false n eI ⟨s1.env.set t (.func (.func g) [] (iy.map s1.S.ev)),s1.o,s1.nx⟩ (HW P rec rs (iy.map s1.S.ev) m r r1 zR kc)
 |_=>none
noncomputable def HX(P:Program)(bJ:Nat->FD)(rec:c0)(g:Nat)(args:List V)(o:Tr ab)(nx:Nat)(kc:CR->Option dA):Option dA:=
 match bJ g with
 | .fn n ic rs=>if args.length<=n then rec nx false n ic ⟨.e (ct args),o,nx⟩ (NY P rs kc)else none
 | .dfr n iL eI g t iy rs m r r1 zR=>if args.length<=n then rec nx true n iL ⟨.e (ct args),o,nx⟩ (Dp P rec n t eI g iy rs m r r1 zR kc)else none
 | .mpc=>match args with
   |[.mp id]=>match o.get id with
    | .map kt vt l=>kc (.ret (.mp nx) (o.set nx (.map kt vt l)) (nx+1))
    |_=>none
   |_=>none
 | .no=>none
def s5:V->List V
 | .bP vs=>vs
 |v=>[v]
noncomputable def Dq(r:CR):Option R:=
 match r with
 | .ret v o _=>match v with
   | .bP [_]=>none
   |v=>match bQ o.get (s5 v)with
    |some rs=>some (.ret rs)
    |none=>none
 | .bD v o _=>match dp o.get v with
   |some x=>some (.bD x)
   |none=>none
noncomputable def W5{β:Type}(x:R)(c:R->β):β:=match x with| .ret l=>D.sX l fun l=>c (.ret l)| .bD d=>D.fc d fun d=>c (.bD d)
theorem B7{β:Type}(x:R)(c:R->β):W5 x c=c x:=by cases x<;>simp only[W5,D.eA,D.cC]
noncomputable def zU(r:CR):Option dA:=match Dq r with|some x=>W5 x fun x=>some (.r x)|none=>none
theorem HY{r:CR}{a:dA}(h:zU r=some a):∃x,Dq r=some x/\a= .r x:=by
 unfold zU at h
 split at h
 ·rename_i x hx;rw[B7]at h;injection h with h;exact⟨x,hx,h.symm⟩
 ·cases h
def HZ(out:R)(o:Tr ab)(nx:Nat):CR:=
 match out with
 | .ret rs=> .ret (iu rs) o nx
 | .bD x=> .bD (.d x) o nx
structure oN (P:Program) where
 W6:Nat->Bool
 fx:Nat->List D->Option R
 ok:∀g ds out,fx g ds=some out->aR P g ds out
def H3(l:List (Nat×List D×R))(g:Nat)(ds:List D):Option R:=
 match l with
 |[]=>none
 |x::l=>match Nat.beq x.1 g with
  |true=>match D.eY x.2.1 ds with
   |true=>some x.2.2
   |false=>H3 l g ds
  |false=>H3 l g ds
theorem xl{P:Program}:∀ {l:List (Nat×List D×R)},(∀x∈l,aR P x.1 x.2.1 x.2.2)->∀g ds out,H3 l g ds=some out->aR P g ds out
 |[],_,_,_,_,h=>by cases h
 |x::l,hl,g,ds,out,h=>by
  simp only[H3]at h
  split at h
  ·rename_i hg
   split at h
   ·rename_i hd
    injection h with h
    have:=hl x aK
    rw[Nat.eq_of_beq_eq_true hg,D.c6 _ _ hd,h]at this
    exact this
   ·exact xl (fun y hy=>hl y rY) g ds out h
  ·exact xl (fun y hy=>hl y rY) g ds out h
def oN.of {P:Program}(W6:Nat->Bool)(l:List (Nat×List D×R))(h:∀x∈l,aR P x.1 x.2.1 x.2.2):oN P:=⟨W6,H3 l,xl h⟩
noncomputable def Lc(P:Program)(bJ:Nat->FD)(md:oN P)(rec:c0)(g:Nat)(ds:List D):Option R:=
 match md.fx g ds with
 |some out=>some out
 |none=>match HX P bJ rec g (ds.map .d) (.e fun _=> .no) 0 zU with
  |some (.r x)=>some x
  |_=>none
noncomputable def NZ(out:R)(o:Tr ab)(nx:Nat)(args:List V)(kc:CR->Option dA):Option dA:=
 match out.flat with
 |true=>kc (HZ out o (nx+1))
 |false=>match out.lO with
  |true=>kc (HZ out (E5 o (pG o.get (V.a7 args))) (nx+1))
  |false=>kc (HZ out (E5 o (bZ o.get (V.a7 args))) (nx+1))
noncomputable def Dr(P:Program)(bJ:Nat->FD)(md:oN P)(rec:c0)(g:Nat)(args:List V)(o:Tr ab)(nx:Nat)(kc:CR->Option dA):Option dA:=
 match md.W6 g,bQ o.get args with
 |true,some ds=>match Lc P bJ md rec g ds with
  |some out=>NZ out o nx args kc
  |none=>none
 |_,_=>HX P bJ rec g args o nx kc
noncomputable def H4(id:Nat)(kc:CR->Option dA):Kt:=fun e s2=>
 match e with
 | .bD v=>kc (.bD v s2.o s2.nx)
 |e=>match s2.o.get id with
  | .loop nf m en p c d _ _=>match e with
    | .normal=>kc (.ret (.d (.bool true)) (s2.o.set id (.loop nf m en p c d .ready none)) s2.nx)
    | .ret=>kc (.ret (.d (.bool false)) (s2.o.set id (.loop nf m en p c d .done (some .ret))) s2.nx)
    | .exit j=>kc (.ret (.d (.bool false)) (s2.o.set id (.loop nf m en p c d .done (some (.exit j)))) s2.nx)
    | .bD _=>none
  |_=>none
noncomputable def Ds(rec:c0)(id nx n:Nat)(eI:IC)(kc:CR->Option dA):Kt:=fun e s1=>
 match e with
 | .normal=>match s1.o.get id with
   | .loop nf m en p c d .ready pd=>rec nx true n eI ⟨s1.env,s1.o.set id (.loop nf m en p c d .busy pd),s1.nx⟩ (H4 id kc)
   |_=>none
 | .bD v=>kc (.bD v s1.o s1.nx)
 |_=>none
noncomputable def Re(P:Program)(rec:c0)(id:Nat)(args:List V)(o:Tr ab)(nx:Nat)(kc:CR->Option dA):Option dA:=
 match o.get id with
 | .loop nf n env ps iL eI _ _=>if nf=P.funcs.size/\id<nx/\ps.all (fun t=>decide (t<n))=true/\args.length=ps.length then
  rec nx true n iL ⟨.e (lZ (aW env) ps args),o,nx⟩ (Ds rec id nx n eI kc)
   else none
 |_=>none
noncomputable def vE(P:Program)(st:St)(o:bI)(kr:RO->Option dA):Option dA:=
 match Lb o.op P st.S st.nx with
 |some (v,Δ,_)=>kP st.env o.dst v fun e=>sZ st.o Δ fun ob=>Nat.fc (st.nx+1) fun n=>kr (.ok ⟨e,ob,n⟩)
 |none=>none
noncomputable def W7(st:St)(dst:Option Nat)(kr:RO->Option dA)(c:CR):Option dA:=
 match c with
 | .ret v o nx=>kP st.env dst v fun e=>Nat.fc nx fun nx=>kr (.ok ⟨e,o,nx⟩)
 | .bD v o nx=>kr (.bD v ⟨st.env,o,nx⟩)
noncomputable def H5(c:Call)(P:Program)(bJ:Nat->FD)(md:oN P)(rec:c0)(st:St)(o:bI)(kr:RO->Option dA):Option dA:=
 match c.callee with
 | .value f=>match st.S.ev f with
   | .func (.func g) first cap=>Dr P bJ md rec g (first++c.args.toList.map st.S.ev++cap) st.o st.nx (W7 st o.dst kr)
   | .ir id=>Re P rec id (c.args.toList.map st.S.ev) st.o st.nx (W7 st o.dst kr)
   |_=>none
 | .invoke r m=>match sw P m (st.S.ev r)with
   |some (g,y)=>Dr P bJ md rec g (y::c.args.toList.map st.S.ev) st.o st.nx (W7 st o.dst kr)
   |none=>none
 |_=>vE P st o kr
noncomputable def Rf(x:Operand)(P:Program)(_:Nat->FD)(_:oN P)(_:c0)(st:St)(_:bI)(kr:RO->Option dA):Option dA:=
 match st.S.ev x with
 | .d (.iface t y)=>kr (.bD (.d (.iface t y)) st)
 | .iface t y=>kr (.bD (.iface t y) st)
 |_=>none
noncomputable def W8(P:Program)(_:Nat->FD)(_:oN P)(_:c0)(st:St)(o:bI)(kr:RO->Option dA):Option dA:=vE P st o kr
def R.same:R->R->Bool
 | .ret a, .ret b=>D.eY a b
 | .bD a, .bD b=>a.same b
 |_,_=>false
theorem R.dx {x y:R}(h:x.same y=true):x=y:=by
 cases x<;>cases y<;>simp only[R.same,Bool.false_eq_true]at h
 ·rw[D.c6 _ _ h]
 ·rw[D.dx _ _ h]
noncomputable def ZV(f:Nat->Option dA):Nat->Option dA
 |0=>none
 |n+1=>match n with
  |0=>f 0
  |n=>match ZV f n with
   |some (.r a)=>match f n with
    |some (.r b)=>match R.same a b with
     |true=>some (.r a)
     |false=>none
    |_=>none
   |_=>none
theorem H6{f:Nat->Option dA}{a:dA}:∀ {n:Nat},ZV f n=some a->∀i,i<n->f i=some a
 |0,h,_,_=>by cases h
 |1,h,i,hi=>by obtain rfl:i=0:=ag
               exact h
 |n+2,h,i,hi=>by
  simp only[ZV]at h
  split at h
  ·rename_i x hx
   split at h
   ·rename_i y hy
    split at h
    ·rename_i he
     have e:=R.dx he
     subst e
     rw[<- h]
     by_cases e:i=n+1
     ·subst e;exact hy
     ·exact H6 hx i ag
    ·cases h
   ·cases h
  ·cases h
noncomputable def Ld(st:St)(dst:Option Nat)(kr:RO->Option dA)(v:V)(Δ:List (Nat×ab)):Option dA:=
 kP st.env dst v fun e=>sZ st.o Δ fun ob=>Nat.fc (st.nx+1) fun n=>kr (.ok ⟨e,ob,n⟩)
noncomputable def H7(x:Operand)(str:Bool)(P:Program)(_:Nat->FD)(_:oN P)(_:c0)(st:St)(o:bI)(kr:RO->Option dA):Option dA:=
 match nb st.o.get (st.S.ev x)with
 |some (id,l)=>match str with
  |true=>none
  |false=>match l with
   |[]=>Ld st o.dst kr (.bP [.d (.bool false)]) []
   |_=>ZV (fun i=>match l[i]? with
    |some (k,x)=>Ld st o.dst kr (.bP [.d (.bool true), .d k, .d x]) [(id, .np (l.eraseIdx i) (some (k,x)))]
    |none=>none) l.length
 |none=>vE P st o kr
noncomputable def opK(op:Op):(P:Program)->(Nat->FD)->oN P->c0->St->bI->(RO->Option dA)->Option dA:=
 match op with
 | .call c=>H5 c
 | .panic x=>Rf x
 | .next x str=>H7 x str
 |_=>W8
noncomputable def ZW(P:Program)(bJ:Nat->FD)(md:oN P)(rec:c0)(st:St)(o:bI)(kr:RO->Option dA):Option dA:=opK o.op P bJ md rec st o kr
noncomputable def roK(next:St->Option dA)(kr:RO->Option dA):RO->Option dA:=fun r=>match r with| .ok st=>next st| .bD v st=>kr (.bD v st)
noncomputable def xm(P:Program)(bJ:Nat->FD)(md:oN P)(rec:c0)(kr:RO->Option dA):List bI->St->Option dA
 |[],st=>kr (.ok st)
 |o::l,st=>match(match o.gd with
   |none=>some true
   |some (d,want)=>match st.env.get d with
    | .d (.bool b)=>some (b==want)
    | .bP []=>some false
    |_=>none)with
  |some true=>ZW P bJ md rec st o (roK (xm P bJ md rec kr l) kr)
  |some false=>kP st.env o.dst (.bP []) fun e=>Nat.fc (st.nx+1) fun n=>xm P bJ md rec kr l ⟨e,st.o,n⟩
  |none=>none
section
variable {P:Program}{bJ:Nat->FD}{md:oN P}
noncomputable def dI(P:Program)(rec:c0):Prop:=∀b rd n ic st k a,rec b rd n ic st k=some a->∀Q:eK->S->Prop,(∀e st',k e st'=some a->Q e st'.S)->rJ P n b rd ic Q st.S
theorem rM{rs:List ResultVar}{st:St}{kc:CR->Option dA}{a:dA}(h:E6 P rs st kc=some a){K X:V->(Nat->ab)->Nat->Prop}(hr:∀r,kc r=some a->r.to K X):kJ P rs K X .ret st.S:=by
 unfold E6 at h
 unfold kJ
 split at h
 ·rename_i v hv;simp only[hv];exact hr _ h
 ·rename_i vs hv hn
  simp only[hn]
  exact hr _ h
 ·cases h
theorem l8(aZ:P.follows .mixedOrders=true)(b9:∀g,(bJ g).Ok P g){rec:c0}(bt:dI P rec){g:Nat}{args:List V}{o:Tr ab}{nx:Nat}{kc:CR->Option dA}{a:dA}(h:HX P bJ rec g args o nx kc=some a){K X:V->(Nat->ab)->Nat->Prop}(hr:∀r,kc r=some a->r.to K X):
 cZ P g args o.get nx K X:=by
 have aU:=b9 g
 unfold HX at h
 split at h
 ·rename_i n ic rs ht
  rw[ht]at aU
  split at h
  ·rename_i hl
   refine cZ.sN aZ aU hl ?_
   refine bt _ _ _ _ _ _ _ h _ fun e st he=> ?_
   unfold NY at he
   cases e with
   |normal=>exact rM he hr
   |ret=>exact rM he hr
   |bD v=>exact hr _ he
   |exit j=>cases he
  ·cases h
 ·rename_i n iL eI g' t iy rs m r0 r1 zR ht
  rw[ht]at aU
  split at h
  ·rename_i hl
   refine cZ.HP aZ aU.1 aU.2 hl (bt _ _ _ _ _ _ _ h _ fun e s1 he=> ?_)
   unfold Dp at he
   cases e with
   |normal=>
    have hb:rJ P n s1.nx false eI (B3 P m r0 r1 zR (iy.map s1.S.ev) rs K X) ⟨aA s1.env.get t (.func (.func g') [] (iy.map s1.S.ev)),s1.o.get,s1.nx⟩:=by
     have:=bt _ _ _ _ _ _ _ he (B3 P m r0 r1 zR (iy.map s1.S.ev) rs K X) (fun e s3 T7=>by
      unfold HW at T7
      split at T7
      ·rename_i u hu
       split at T7
       ·rename_i mC
        have hrw:E3 P m r0 r1 zR (iy.map s1.S.ev) u s3.o.get s3.nx fun o nx=>kJ P rs K X .ret ⟨s3.env.get,o,nx⟩:=by
         refine⟨mC,bt _ _ _ _ _ _ _ T7 _ fun e4 s4 ZX=> ?_⟩
         unfold HV at ZX
         cases e4 with
         |normal=>exact rM (st:=⟨s3.env,s4.o,s4.nx⟩) ZX hr
         |ret=>exact rM (st:=⟨s3.env,s4.o,s4.nx⟩) ZX hr
         |_=>cases ZX
        cases e<;>simp only[W4,Option.some.injEq,reduceCtorEq]at hu<;>subst hu<;>exact hrw
       ·cases T7
      ·cases T7)
     simp only[St.S,Tr.gC]at this
     exact this
    exact hb
   |_=>cases he
  ·cases h
 ·rename_i ht
  rw[ht]at aU
  split at h
  ·split at h
   ·rename_i kt vt l ho
    have h2:=hr _ h
    simp only[CR.to,Tr.gC]at h2
    exact cZ.Q5 aU ho h2
   ·cases h
  ·cases h
 ·cases h
theorem H8{r:CR}{out:R}(ho:Dq r=some out):r.to (fun v o _=>∃vs rs,v=(match vs with|[v]=>v|vs=> .bP vs)/\bQ o vs=some rs/\out= .ret rs) (fun v o _=>∃x,dp o v=some x/\out= .bD x):=by
 unfold Dq at ho
 split at ho
 ·rename_i v o nx
  split at ho
  ·cases ho
  ·rename_i hv
   split at ho
   ·rename_i rs VT
    injection ho with ho;subst ho
    refine⟨s5 v,rs, ?_,VT,rfl⟩
    cases v with
    |bP vs=>
     match vs,hv with
     |[],_=>rfl
     |[x],hv=>exact absurd rfl (hv x)
     |_::_::_,_=>rfl
    |_=>rfl
   ·cases ho
 ·split at ho
  ·rename_i x hx
   injection ho with ho;subst ho
   exact⟨x,hx,rfl⟩
  ·cases ho
theorem zV(aZ:P.follows .mixedOrders=true)(b9:∀g,(bJ g).Ok P g){rec:c0}(bt:dI P rec){g:Nat}{ds:List D}{out:R}(h:HX P bJ rec g (ds.map .d) (.e fun _=> .no) 0 zU=some (.r out)):aR P g ds out:=by
 refine aR.lT (l8 aZ b9 bt h fun r hr=> ?_)
 obtain⟨x,hx,he⟩:=HY hr
 injection he with he;subst he
 exact H8 hx
theorem xn(aZ:P.follows .mixedOrders=true)(b9:∀g,(bJ g).Ok P g){rec:c0}(bt:dI P rec){g:Nat}{ds:List D}{out:R}(h:Lc P bJ md rec g ds=some out):aR P g ds out:=by
 unfold Lc at h
 split at h
 ·rename_i acn ho
  injection h with h;subst h
  exact md.ok _ _ _ ho
 ·split at h
  ·rename_i x hr;injection h with h;subst h;exact zV aZ b9 bt hr
  ·cases h
theorem zW(aZ:P.follows .mixedOrders=true)(b9:∀g,(bJ g).Ok P g){rec:c0}(bt:dI P rec){g:Nat}{args:List V}{o:Tr ab}{nx:Nat}{kc:CR->Option dA}{a:dA}(h:Dr P bJ md rec g args o nx kc=some a){K X:V->(Nat->ab)->Nat->Prop}(hr:∀r,kc r=some a->r.to K X):
 Nq P g args o.get nx K X:=by
 unfold Dr at h
 split at h
 ·rename_i ds hmd eg
  split at h
  ·rename_i out H9
   have hP:=xn aZ b9 bt H9
   refine .inl ⟨ds,eg,out,hP, ?_⟩
   unfold NZ at h
   split at h
   ·rename_i hf
    refine .inr (.inl ⟨hf, ?_⟩)
    cases out<;>exact hr _ h
   ·split at h
    ·rename_i hf
     refine .inr (.inr ⟨hf, ?_⟩)
     rw[<- jb]
     cases out<;>exact hr _ h
    ·refine .inl ?_
     rw[<- jb]
     cases out<;>exact hr _ h
  ·cases h
 ·exact .inr (l8 aZ b9 bt h hr)
theorem Le(aZ:P.follows .mixedOrders=true){rec:c0}(bt:dI P rec){id:Nat}{args:List V}{o:Tr ab}{nx:Nat}{kc:CR->Option dA}{a:dA}(h:Re P rec id args o nx kc=some a){K X:V->(Nat->ab)->Nat->Prop}(hr:∀r,kc r=some a->r.to K X):
 dc P id args o.get nx K X:=by
 unfold Re at h
 split at h
 ·rename_i nf n env ps iL eI st pd ho
  split at h
  ·rename_i hc
   obtain⟨rfl,cc,mH,hl⟩:=hc
   refine dc.sN aZ ho cc mH hl ?_
   refine bt _ _ _ _ _ _ _ h _ fun e s1 he=> ?_
   unfold Ds at he
   cases e with
   |normal=>
    simp only at he
    split at he
    ·rename_i nf m en p c d pd nO
     refine⟨nf,m,en,p,c,d,pd,nO, ?_⟩
     have:=bt _ _ _ _ _ _ _ he (ja id K X) (fun e s2 h2=>by
      unfold H4 at h2
      split at h2
      ·exact hr _ h2
      ·rename_i Nh
       split at h2
       ·rename_i nf' m' en' p' c' d' st' pd' Rg
        cases e with
        |bD v=>cases h2
        |normal=>have h3:=hr _ h2;simp only[CR.to,Tr.gC]at h3;exact⟨nf',m',en',p',c',d',st',pd',Rg,h3⟩
        |ret=>have h3:=hr _ h2;simp only[CR.to,Tr.gC]at h3;exact⟨nf',m',en',p',c',d',st',pd',Rg,h3⟩
        |exit j=>have h3:=hr _ h2;simp only[CR.to,Tr.gC]at h3;exact⟨nf',m',en',p',c',d',st',pd',Rg,h3⟩
       ·cases h2)
     simp only[St.S,Tr.gC]at this
     exact this
    ·cases he
   |bD v=>exact hr _ he
   |_=>cases he
  ·cases h
 ·cases h
theorem s6{st:St}{o:bI}{kr:RO->Option dA}{a:dA}(h:vE P st o kr=some a){K:S->Prop}{X:V->S->Prop}(hr:∀r,kr r=some a->r.to K X):match fm P st.S st.S.nx o.op with
 |some (v,Δ,_)=>K ⟨aT st.S.env o.dst v,put st.S.o Δ,st.S.nx+1⟩
 |none=>False:=by
 unfold vE at h
 split at h
 ·rename_i v Δ rd he
  have he:=Dn he
  simp only[iF,l7,Nat.cC]at h
  have hr:=hr _ h
  simp only[RO.to,St.S,iA,jb]at hr
  have nM:fm P st.S st.S.nx o.op=some (v,Δ,rd):=he
  simp only[nM]
  exact hr
 ·cases h
theorem Dt{st:St}{dst:Option Nat}{kr:RO->Option dA}{v:V}{Δ:List (Nat×ab)}{a:dA}(h:Ld st dst kr v Δ=some a){K:S->Prop}{X:V->S->Prop}(hr:∀r,kr r=some a->r.to K X):K ⟨aT st.S.env dst v,put st.S.o Δ,st.S.nx+1⟩:=by
 unfold Ld at h
 simp only[iF,l7,Nat.cC]at h
 have hr:=hr _ h
 simp only[RO.to,St.S,iA,jb]at hr
 exact hr
theorem Rh(aZ:P.follows .mixedOrders=true)(b9:∀g,(bJ g).Ok P g){rec:c0}(bt:dI P rec){st:St}{o:bI}{kr:RO->Option dA}{a:dA}(h:ZW P bJ md rec st o kr=some a){K:S->Prop}{X:V->S->Prop}(hr:∀r,kr r=some a->r.to K X):F4 P st.S o X K:=by
 have cr:∀r,W7 st o.dst kr r=some a->r.to (fun v o' nx'=>K ⟨aT st.S.env o.dst v,o',nx'⟩) (fun v o' nx'=>X v ⟨st.S.env,o',nx'⟩):=by
  intro r hx
  unfold W7 at hx
  split at hx
  ·simp only[iF,Nat.cC]at hx
   have hr:=hr _ hx
   simp only[RO.to,St.S,iA]at hr
   exact hr
  ·exact hr _ hx
 unfold ZW at h
 unfold F4
 cases fN:o.op
 case call c=>
  rw[fN]at h
  have h:H5 c P bJ md rec st o kr=some a:=h
  unfold H5 at h
  cases hf:c.callee
  case value f=>
   simp only[hf]at h|-
   split at h
   ·rename_i g first cap hv
    simp only[hv]
    have:=zW aZ b9 bt h cr
    rcases this with⟨ds,eg,hP⟩|hC
    ·have Ri:bQ st.S.o (first++List.map st.S.ev c.args.toList++cap)=some ds:=eg
     simp only[Ri]
     exact .inl hP
    ·split
     ·exact .inr (.inl hC)
     ·exact .inl hC
   ·rename_i id hv
    simp only[hv]
    exact Le aZ bt h cr
   ·cases h
  case invoke r m=>
   simp only[hf]at h|-
   split at h
   ·rename_i g y hv
    simp only[hv]
    exact zW aZ b9 bt h cr
   ·cases h
  all_goals
   simp only[hf]at h|-
   have:=s6 h hr
   rw[fN]at this
   exact this
 case panic x=>
  rw[fN]at h
  have h:Rf x P bJ md rec st o kr=some a:=h
  unfold Rf at h
  split at h
  ·rename_i hv;simp only[hv];exact hr _ h
  ·rename_i hv;simp only[hv];exact hr _ h
  ·cases h
 case next x str=>
  rw[fN]at h
  have h:H7 x str P bJ md rec st o kr=some a:=h
  unfold H7 at h
  have hl:nb st.S.o (st.S.ev x)=nb st.o.get (st.S.ev x):=rfl
  simp only[hl]
  split at h
  ·rename_i id l au
   simp only[au]
   cases str with
   |true=>cases h
   |false=>
    refine⟨rfl,fun e=> ?_,fun i k y e=> ?_⟩
    ·subst e
     exact Dt h hr
    ·cases l with
     |nil=>simp at e
     |cons p l=>
      have:=H6 h i (List.getElem?_eq_some_iff.1 e).1
      rw[e]at this
      exact Dt this hr
  ·rename_i au
   simp only[au]
   have:=s6 h hr
   rw[fN]at this
   exact this
 all_goals
  have h2:vE P st o kr=some a:=by rw[fN]at h;exact h
  have:=s6 h2 hr
  rw[fN]at this
  exact this
theorem rN(aZ:P.follows .mixedOrders=true)(b9:∀g,(bJ g).Ok P g){rec:c0}(bt:dI P rec){kr:RO->Option dA}{a:dA}{K:S->Prop}{X:V->S->Prop}(hr:∀r,kr r=some a->r.to K X):∀ (l:List bI) (st:St),xm P bJ md rec kr l st=some a->nD P X K l st.S
 |[],st,h=>hr (.ok st) h
 |o::l,st,h=>by
  simp only[xm,iF,Nat.cC]at h
  simp only[nD]
  have op:ZW P bJ md rec st o (roK (xm P bJ md rec kr l) kr)=some a->F4 P st.S o X (nD P X K l):=by
   intro h
   refine Rh aZ b9 bt h fun r hrr=> ?_
   cases r with
   |ok Rj=>exact rN aZ b9 bt hr l Rj hrr
   |bD v Rj=>exact hr (.bD v Rj) hrr
  have sk:xm P bJ md rec kr l ⟨qN st.env o.dst (.bP []),st.o,st.nx+1⟩=some a->nD P X K l ⟨aT st.S.env o.dst (.bP []),st.S.o,st.S.nx+1⟩:=by
   intro h
   have:=rN aZ b9 bt hr l _ h
   exact GM
  cases hg:o.gd with
  |none=>simp only[hg]at h;exact op h
  |some p=>
   obtain⟨d,want⟩:=p
   simp only[hg]at h
   have he:st.S.env d=st.env.get d:=rfl
   simp only[he]
   cases hv:st.env.get d with
   |d x=>
    cases x with
    |bool b=>
     simp only[hv]at h|-
     by_cases e:b=want
     ·subst e
      simp only[beq_self_eq_true]at h
      rw[if_pos rfl];exact op h
     ·have:(b==want)=false:=by simpa using e
      rw[this]at h
      rw[if_neg e];exact sk h
    |_=>simp[hv]at h
   |bP vs=>
    cases vs with
    |nil=>simp only[hv]at h|-;exact sk h
    |cons a bU=>simp[hv]at h
   |_=>simp[hv]at h
end
end
end Go.Proofs.YtnkamdiiakdkgaaGreat
