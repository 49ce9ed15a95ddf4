/-
  A PART OF THE PROOF. Conditions: none.
-/
import Derived.Test.YtnkamdiiakdkgaaGreatEu10
set_option linter.unusedSimpArgs false
set_option linter.unusedVariables false
namespace Go.Proofs.YtnkamdiiakdkgaaGreat
section
def Sl(ops:Array Oper)(t t1:Nat):Prop:=
 (∃o1 o2,ops=#[o1,o2]/\o1.op= .call ⟨.builtin .recover,#[],#[]⟩/\o1.dst=some t/\o1.guard=none/\o2.op= .assign (.tmp t)/\o2.dst=some t1/\o2.guard=none)\/
 (∃o1,ops=#[o1]/\t1=t/\o1.op= .call ⟨.builtin .recover,#[],#[]⟩/\o1.dst=some t/\o1.guard=none)
structure D6 (P:Program) (g:FuncId) (n t t1:Nat) (ic:IC):Prop where
 get:∃fn id ops c,P.funcs[g]? =some fn/\(fn.name== "runtime.NumGoroutine")=false/\fn.ntmps=n/\fn.results=#[]/\fn.body=some (.seq (.region id ops false) c)/\
  Sl ops t t1/\t<n/\t1<n/\low n c=ic
structure IQ (P:Program) (f:FuncId) (n:Nat) (iT eF:IC) (g:FuncId) (t:Nat) (aV:List Operand) (rs:List ResultVar):Prop where
 get:∃fn id o1 o2 a b d,P.funcs[f]? =some fn/\(fn.name== "runtime.NumGoroutine")=false/\fn.ntmps=n/\fn.results.toList=rs/\fn.body=some (.seq a d)/\(d= .seq (.region id #[o1,o2] false) b\/d= .scope (.seq (.region id #[o1,o2] false) b))/\
  o1.op= .makeFunc (.func g) #[] aV.toArray/\o1.dst=some t/\o1.guard=none/\o2.op= .defer ⟨.value (.tmp t),#[],#[]⟩/\o2.dst=none/\o2.guard=none/\t<n/\low n a=iT/\low n b=eF
def IU(K:(Nat->ab)->Nat->Prop)(e:eS)(s:S):Prop:=match e with| .normal| .ret=>K s.o s.nx|_=>False
def CK(P:Program)(n t t1:Nat)(ic:IC)(aV:List V)(u:V)(o:Nat->ab)(nx:Nat)(K:(Nat->ab)->Nat->Prop):Prop:=
 aV.length<=n/\sr P n nx true ic (IU K) ⟨aF (aF (cp aV) t u) t1 u,o,nx⟩
def CL(P:Program)(n t t1:Nat)(ic:IC)(aV:List V)(rs:List ResultVar)(K X:V->(Nat->ab)->Nat->Prop)(e:eS)(s:S):Prop:=
 match e with
 | .normal| .ret=>CK P n t t1 ic aV (.d .eZ) s.o s.nx fun o nx=>kY P rs K X .ret ⟨s.env,o,nx⟩
 | .bF v=>CK P n t t1 ic aV v s.o s.nx fun o nx=>kY P rs K X .ret ⟨s.env,o,nx⟩
 | .exit _=>False
def IV(P:Program)(n t:Nat)(eF:IC)(fk:List Operand)(g:FuncId)(D:List V->eS->S->Prop)(e:eS)(s:S):Prop:=
 match e with
 | .normal=>sr P n s.nx false eF (D (fk.map s.ev)) ⟨aF s.env t (.func (.func g) [] (fk.map s.ev)),s.o,s.nx⟩
 |_=>False
section
variable {P:Program}{M:Nat->Prop}{φ cg:Place}{H H0:Hp}{w w0:World}{n:Nat}{s:S}{a:Act}{cx:Cx}{k:Nat}
theorem F3(bf:P.follows .mixedOrders=true){g:FuncId}{t t1:Nat}{ic:IC}(hg:D6 P g n t t1 ic){aV:List V}{u:V}{o:Nat->ab}{nx:Nat}{K:(Nat->ab)->Nat->Prop}(h:CK P n t t1 ic aV u o nx K)
 {vals:Array Value} {val:Value} {m:FrameMode} (hH:ay M φ (hp o nx) w) (hd:V.aC (ak M φ (hp o nx)) φ (hp o nx) w aV vals.toList) (hv:V.den (ak M φ (hp o nx)) φ (hp o nx) w u val)
 (hm:(m= .returning/\val= .nilIface)\/m= .panicking [{v:=val,recovered:=false}]):
 CallsDIn (dy none) k P g vals m w fun e u' w'=>∃v aD o' nx',e= .returned v/\settle u'= .returning/\ay M aD (hp o' nx') w'/\Trans φ (hp o nx) w aD (hp o' nx') w'/\K o' nx':=by
 obtain⟨fn,id,ops,c,hf,Pf,hnt,xw,oY,HL,ht,BJ,qp⟩:=hg.get
 have b8:g<P.funcs.size:=(Array.getElem?_eq_some_iff.1 hf).1
 obtain⟨ni,h⟩:=h
 have hlen:=V.aA _ _ hd
 refine⟨trivial,fun nZ cs IW Ox=> ?_⟩
 let b:Frame:={(default:Frame)with fn:=g,kind:= .deferred,roundOf:=none}
 let sv:Array Value:=vals++Array.replicate (fn.ntmps - vals.size) undef
 have abM:sv.size=n:=by simp only[sv,Array.size_append,Array.size_replicate];simp at hlen;omega
 have kX:Frame.enter P g vals .deferred=b.atR {tmps:=sv,defers:=[]} [.code (.seq (.region id ops false) c)]:=by
  simp[Frame.enter,Frame.atR,hf,oY,b,sv]
 obtain⟨m',hm',bp⟩:∃m',settle m'= .returning/\((recoverD (nZ::cs)=none/\m'=m/\val= .nilIface)\/recoverD (nZ::cs)=some (val,{nZ with mode:=m'}::cs)):=by
  rcases hm with⟨rfl,rfl⟩|rfl
  ·exact⟨.returning,rfl, .inl ⟨by simp[recoverD,IW],rfl,rfl⟩⟩
  ·exact⟨.panicking [{v:=val,recovered:=true}],rfl, .inr (by simp[recoverD,IW])⟩
 have hc0:({nZ with mode:=m}:Frame)=nZ:=by subst IW;rfl
 let a1:Act:={tmps:=(sv.setIfInBounds t val).setIfInBounds t1 val,defers:=[]}
 have Ma:(Code.region id ops false).wpSIn (dy none) k P (fun e a' cs' w'=>e= .normal/\a'=a1/\cs'={nZ with mode:=m'}::cs/\w'=w) {tmps:=sv,defers:=[]} (nZ::cs) w:=by
  rcases HL with⟨o1,o2,rfl,e1,e2,e3,e4,e5,e6⟩|⟨o1,rfl,rfl,e1,e2,e3⟩
  ·refine wpSIn_region ?_
   have hr:List.range (#[o1,o2]:Array Oper).size=[0,1]:=rfl
   have g0:(#[o1,o2]:Array Oper)[0]? =some o1:=rfl
   have g1:(#[o1,o2]:Array Oper)[1]? =some o2:=rfl
   rw[hr]
   have x1:∀ (ρ:Operand->Value) (w:World),(execOp ρ o1).run P w= .ok .recover w:=by
    intro ρ w
    simp[execOp,e1,resolve,invoke,builtin]
   have x2:∀ (ρ:Operand->Value) (w:World),(execOp ρ o2).run P w= .ok (.value (ρ (.tmp t))) w:=by
    intro ρ w
    simp[execOp,e4]
   have last:∀cs',cs'={nZ with mode:=m'}::cs->wpOpsSIn (dy none) k P #[o1,o2] (fun e a' cs' w'=>e= .normal/\a'=a1/\cs'={nZ with mode:=m'}::cs/\w'=w) [1] (({tmps:=sv,defers:=[]}:Act).put (some t) val) cs' w:=by
    rintro cs' rfl
    have hw:Region.wanted o2 (yielded #[o1,o2] (({tmps:=sv,defers:=[]}:Act).put (some t) val).tmps)=true:=by simp[Region.wanted,e6]
    have c0:(({tmps:=sv,defers:=[]}:Act).put (some t) val).eval (.tmp t)=val:=by
     have:t<sv.size:=ah
     simp[Act.put,Act.eval,Array.getD,this]
    simp only[wpOpsSIn,g1,hw,if_true,x2,c0,e5]
    refine⟨fun _ _=>trivial, ?_⟩
    simp[a1,Act.put]
   have hw:Region.wanted o1 (yielded #[o1,o2] sv)=true:=by simp[Region.wanted,e3]
   rw[wpOpsSIn,g0]
   refine⟨fun _ _=>trivial, ?_⟩
   simp only[hw,if_true,x1,e2]
   rcases bp with⟨hr,rfl,rfl⟩|hr
   ·simp only[hr]
    exact last _ (by rw[hc0])
   ·simp only[hr]
    exact last _ rfl
  ·refine wpSIn_region ?_
   have hr:List.range (#[o1]:Array Oper).size=[0]:=rfl
   have g0:(#[o1]:Array Oper)[0]? =some o1:=rfl
   rw[hr]
   have x1:∀ (ρ:Operand->Value) (w:World),(execOp ρ o1).run P w= .ok .recover w:=by
    intro ρ w
    simp[execOp,e1,resolve,invoke,builtin]
   have same:a1=({tmps:=sv,defers:=[]}:Act).put (some t1) val:=by
    simp only[a1,Act.put]
    congr 1
    apply Array.ext_getElem?
    intro j
    simp only[Array.getElem?_setIfInBounds]
    by_cases hj:t1=j
    ·subst hj;simp
    ·simp[hj]
   have last:∀cs',cs'={nZ with mode:=m'}::cs->wpOpsSIn (dy none) k P #[o1] (fun e a' cs' w'=>e= .normal/\a'=a1/\cs'={nZ with mode:=m'}::cs/\w'=w) [] (({tmps:=sv,defers:=[]}:Act).put (some t1) val) cs' w:=by
    rintro cs' rfl
    simp only[wpOpsSIn]
    exact⟨trivial,same.symm,trivial,trivial⟩
   have hw:Region.wanted o1 (yielded #[o1] sv)=true:=by simp[Region.wanted,e3]
   rw[wpOpsSIn,g0]
   refine⟨fun _ _=>trivial, ?_⟩
   simp only[hw,if_true,x1,e2]
   rcases bp with⟨hr,rfl,rfl⟩|hr
   ·simp only[hr]
    exact last _ (by rw[hc0])
   ·simp only[hr]
    exact last _ rfl
 obtain⟨er,ar,csr,wr,hl,⟨rfl,rfl,rfl,hwr⟩,cR⟩:=Ma b [.code c] rfl rfl trivial (fun d hd=>by simp[dy]at hd)
 rw[hwr]at cR
 let s0:S:=⟨aF (aF (cp aV) t u) t1 u,o,nx⟩
 have jb:bU M φ (hp o nx) w n ⟨[],true⟩ φ s0 a1 w:=by
  refine⟨hH,Trans.refl _ _ _,by simp[a1,abM],⟨[],rfl,List.nodup_nil,fun _=>rfl,fun r hr=>by cases hr⟩,fun i=> ?_⟩
  have dI:=zb (m:=fn.ntmps - vals.size) hd i
  simp only[s0,a1,aJ]
  have ht0:t<sv.size:=ah
  have abN:t1<sv.size:=ah
  by_cases h1:i=t1
  ·subst h1
   simp only[if_true]
   have:((sv.setIfInBounds t val).setIfInBounds i val).getD i undef=val:=by simp[Array.getD,abN]
   rw[this];exact hv
  ·simp only[h1,if_false]
   have e1:((sv.setIfInBounds t val).setIfInBounds t1 val).getD i undef=(sv.setIfInBounds t val).getD i undef:=by
    exact N9
   rw[e1]
   by_cases h2:i=t
   ·subst h2
    simp only[if_true]
    have:(sv.setIfInBounds i val).getD i undef=val:=by simp[Array.getD,ht0]
    rw[this];exact hv
   ·simp only[h2,if_false]
    have e1:(sv.setIfInBounds t val).getD i undef=sv.getD i undef:=by
     simp only[Array.getD_eq_getD_getElem?]
     rw[Array.getElem?_setIfInBounds_ne (Ne.symm h2)]
    rw[e1];exact dI
 have hcw:=gH (P:=P) (n:=n) (b:=nx) (rd:=true) bf c _ _ s0 (fun _ _ h=>h) (by rw[qp];exact h)
 obtain⟨e,a',w',⟨x,s',aD,hq,ju,hx⟩,DO⟩:=gB (P:=P) (H0:=hp o nx) (b:=nx) (cx:=⟨[],true⟩) (ro:=none) (fun id hu=>hu) (fun h=>by cases h) c _ s0 φ a1 w hcw jb b [] ({nZ with mode:=m'}::cs) rfl b8
 have i0:(lone (b.atR {tmps:=sv,defers:=[]} [.code (.seq (.region id ops false) c)]) (nZ::cs) w).fenced P (dy none):=fenced_calm (n:=0) trivial fT rfl
 have Ph:StepsIn (Machine.fenced P (dy none)) P (lone (b.atR {tmps:=sv,defers:=[]} [.code (.seq (.region id ops false) c)]) (nZ::cs) w) (lone (b.atR a1 [.code c]) ({nZ with mode:=m'}::cs) w):= .head i0 stepR_seq cR
 have tC:a'.defers=[]:=by
  obtain⟨ms,g1,_,g3,_⟩:=ju.defers
  rw[g3 rfl]at g1;exact g1
 have Yp:∀tm:Array Value,∃v,(results fn tm).run P w'= .ok v w':=by
  intro tm
  refine⟨_,l7 (vals:=[]) ?_⟩
  rw[xw];rfl
 rw[kX]
 obtain⟨v,om⟩:=Yp a'.tmps
 cases e<;>cases x<;>first|(exact hx.elim)|(exact hq.elim)|skip
 ·exact⟨.returned v,m',w',_,⟨v,aD,s'.o,s'.nx,rfl,hm',ju.heap,ju.tr,hq⟩,StepsIn.trans Ph (StepsIn.trans DO (.one (fenced_calm (n:=0) (fr:=b.atR a' []) trivial fT rfl) (stepR_end rfl))),rfl,rfl,rfl,tC,fn,hf,om⟩
 ·obtain⟨todo,hs⟩:=DO.1 rfl
  exact⟨.returned v,m',w',_,⟨v,aD,s'.o,s'.nx,rfl,hm',ju.heap,ju.tr,hq⟩,StepsIn.trans Ph hs,rfl,rfl,rfl,tC,fn,hf,om⟩
theorem Ay{d c:Code}{ro:Option Nat}{Q:Exit->Act->World->Prop}{a:Act}{w:World}(h:d=c\/d= .scope c)(hg:∀l a w, ¬Q (.goto l) a w)(hc:c.rQ P ro Q a w):d.rQ P ro Q a w:=by
 rcases h with rfl|rfl
 ·exact hc
 ·exact vR hc hg
theorem de.IX (bf:P.follows .mixedOrders=true){f g:FuncId}{iT eF Az:IC}{t m r r1:Nat}{fk:List Operand}{rs:List ResultVar}(hf:IQ P f n iT eF g t fk rs)(hg:D6 P g m r r1 Az)
 {args:List V} {o:Nat->ab} {nx:Nat} {K X:V->(Nat->ab)->Nat->Prop} (hl:args.length<=n)
 (h:sr P n nx true iT (IV P n t eF fk g fun aV=>CL P m r r1 Az aV rs K X) ⟨cp args,o,nx⟩):de P f args o nx K X:=by
 obtain⟨fn,id,o1,o2,ca,cb,cd,GX,Pf,hnt,xw,oY,hsc,e1,e2,e3,e4,e5,e6,ht,hla,UH⟩:=hf.get
 obtain⟨gn,_,_,gc,hgn,Sm,_,_,Sn,_⟩:=hg.get
 refine⟨⟨fn,GX,Pf,by rw[oY];rfl⟩,fun M φ w vals hH hd=> ?_⟩
 have hlen:=V.aA _ _ hd
 let s0:S:=⟨cp args,o,nx⟩
 let a0:Act:={tmps:=vals++Array.replicate (fn.ntmps - vals.size) undef,defers:=[]}
 have jb:bU M φ (hp o nx) w n ⟨[],true⟩ φ s0 a0 w:=by
  exact W4
 have ha:=gH (P:=P) (n:=n) (b:=nx) (rd:=true) bf ca _ _ s0 (fun _ _ h=>h) (by rw[hla];exact h)
 refine zL (ro:=none) (k:=0) (l8 GX oY (xu (fU (gB (P:=P) (H0:=hp o nx) (b:=nx) (cx:=⟨[],true⟩) (ro:=none) (fun id hu=>hu) (fun h=>by cases h) ca _ s0 φ a0 w ha jb) ?_)))
 rintro e a1 w1 ⟨x,s1,il,hq,vV,hm⟩
 cases e<;>cases x<;>first|(exact hm.elim)|(exact hq.elim)|skip
 have tC:a1.defers=[]:=by
  obtain⟨ms,g1,_,g3,_⟩:=vV.defers
  rw[g3 rfl]at g1;exact g1
 let cv:Array Value:=(fk.map a1.eval).toArray
 let fv:Value:= .func (.func g) #[] cv
 let dd:Deferred:={target:= .fn (.func g) cv,args:=#[]}
 let a2:Act:={tmps:=a1.tmps.setIfInBounds t fv,defers:=[dd]}
 have Pj:V.aC (ak M il s1.H) il s1.H w1 (fk.map s1.ev) cv.toList:=by
  simpa[cv]using jB (M:=M) (φ:=il) (H:=s1.H) (w:=w1) s1 a1 vV.env fk
 refine Ay hsc (fun l a w h=> ?_) ?_
 ·exact h.elim
 refine xu (fU (Q:=fun e a w=>e= .normal/\a=a2/\w=w1) (nT (k:=0) (wpIn_region_list ?_)) ?_)
 ·have y1:Region.wanted o1 (yielded #[o1,o2] a1.tmps)=true:=by simp[Region.wanted,e3]
  have y2:∀tm,Region.wanted o2 (yielded #[o1,o2] tm)=true:=by intro tm;simp[Region.wanted,e6]
  have c0:(a1.put (some t) fv).eval (.tmp t)=fv:=by
   have:t<a1.tmps.size:=by rw[vV.size];exact ht
   simp[Act.put,Act.eval,Array.getD,this]
  show wpListIn (dy none) 0 P #[o1,o2] _ [o1,o2] a1 w1
  unfold wpListIn
  rw[if_pos y1]
  have x1:(execOp a1.eval o1).run P w1= .ok (.value fv) w1:=by simp[execOp,e1,fv,cv,Instr.makeFunc]
  refine jF (fun c hc=>by rw[e1]at hc;cases hc) ?_
  rw[x1]
  show wpListIn (dy none) 0 P #[o1,o2] _ [o2] (a1.put o1.dst fv) w1
  rw[e2]
  unfold wpListIn
  rw[if_pos (y2 _)]
  have x2:(execOp (a1.put (some t) fv).eval o2).run P w1= .ok (.defer dd) w1:=by
   simp[execOp,e4,resolve,c0,Deferred.ofValue,fv,dd]
  refine⟨fun _ _=>trivial, ?_⟩
  have:(o2.semAt (dy none).round (a1.put (some t) fv).eval)=execOp (a1.put (some t) fv).eval o2:=rfl
  rw[this,x2]
  unfold Oper.uponIn
  simp only[e5,wpListIn,Act.put,tC,a2,and_self]
 rintro e a w2 ⟨rfl,rfl,rfl⟩
 have BJ:t<a1.tmps.size:=by rw[vV.size];exact ht
 let s2:S:=⟨aF s1.env t (.func (.func g) [] (fk.map s1.ev)),s1.o,s1.nx⟩
 have La:bU M il s1.H w2 n ⟨[dd],false⟩ il s2 a2 w2:=by
  refine⟨vV.heap,Trans.refl _ _ _,by simp[a2,vV.size],⟨[],rfl,List.nodup_nil,fun _=>rfl,fun r hr=>by cases hr⟩,fun i=> ?_⟩
  simp only[s2,a2,aJ]
  by_cases h1:i=t
  ·subst h1
   have:(a1.tmps.setIfInBounds i fv).getD i undef=fv:=by simp[Array.getD,BJ]
   simp only[if_true];rw[this]
   exact⟨#[],cv,rfl,rfl,Pj⟩
  ·have:(a1.tmps.setIfInBounds t fv).getD i undef=a1.tmps.getD i undef:=by
    exact N9
   simp only[h1,if_false];rw[this]
   exact vV.env i
 have hb:=gH (P:=P) (n:=n) (b:=s1.nx) (rd:=false) bf cb _ _ s2 (fun _ _ h=>h) (by rw[UH];exact hq)
 refine fU (gB (P:=P) (H0:=s1.H) (b:=s1.nx) (cx:=⟨[dd],false⟩) (ro:=none) (fun id hu=>hu) (fun _=>rfl) cb _ s2 il a2 w2 hb La) ?_
 rintro e a3 w3 ⟨x,s3,Yq,hq3,DP,u0⟩
 obtain⟨ms,g1,g2,_,g4⟩:=DP.defers
 have hinv:(invoke dd.target dd.args).run P=fun w=> .ok (.enter g cv) w:=by
  funext w
  have:=ky (w:=w) ⟨gn,hgn,Sm,by rw[Sn];rfl⟩ cv
  simpa[dd,invoke]using this
 have last:∀ {w4:World} {tm:Array Value} {u:V} {val:Value} {m0:FrameMode},m0≠ .run->xz M il s1.H w2 Yq s3 a3.tmps w4->V.den (ak M Yq s3.H) Yq s3.H w4 u val->
  ((m0= .returning/\val= .nilIface)\/m0= .panicking [{v:=val,recovered:=false}])->
  (CK P m r r1 Az (fk.map s1.ev) u s3.o s3.nx fun o nx=>kY P rs K X .ret ⟨s3.env,o,nx⟩)->
  LeavesInM (dy none) 0 P fn a3.tmps (l0 M φ (hp o nx) w K X) [dd] m0 w4:=by
  intro w4 tm u val m0 eI hB LN hm0 bp
  have Sq:=V.aP hB.tr _ _ Pj
  refine⟨eI, .inr ⟨fun h=>by simp[dy]at h, .func g,cv,g,cv,rfl,by rw[hinv],fun _ _=>trivial,CallsDIn.mono (F3 (k:=0 - 1) bf hg bp (m:=m0) hB.heap Sq LN hm0) ?_⟩⟩
  rintro e u' w5 ⟨v,φ5,o5,nx5,rfl,abO,k1,k2,k3⟩
  show LeavesInM (dy none) 0 P fn a3.tmps (l0 M φ (hp o nx) w K X) [] (settle u') w5
  rw[abO]
  obtain⟨vs,h1,h2⟩:=zR k3
  rw[<- xw]at h1
  have Yr:∀i,V.den (ak M φ5 (hp o5 nx5)) φ5 (hp o5 nx5) w5 (s3.env i) (a3.tmps.getD i undef):=fun i=>V.aM k2 _ _ (hB.env i)
  obtain⟨adr,h3,h4⟩:=sq (P:=P) (s:=⟨s3.env,o5,nx5⟩) (a:=a3) k1 Yr _ _ h1
  exact⟨_,l7 h3,φ5,o5,nx5,_,k1,vV.tr.trans (hB.tr.trans k2),zS h4,h2⟩
 have done:CK P m r r1 Az (fk.map s1.ev) (.d .eZ) s3.o s3.nx (fun o nx=>kY P rs K X .ret ⟨s3.env,o,nx⟩)->LeavesInM (dy none) 0 P fn a3.tmps (l0 M φ (hp o nx) w K X) a3.defers .returning w3:=by
  intro bp
  rw[g1]
  exact fV (P:=P) (k:=0) (fn:=fn) (R:=l0 M φ (hp o nx) w K X) (u:= .returning) aI (ds:=[dd]) (fun w4 hB=>last (tm:=a3.tmps) aI hB (u:= .d .eZ) (val:= .nilIface) (by simp[V.den,D.den]) (.inl ⟨rfl,rfl⟩) bp) ms w3 g2 g4 DP.toB
 cases e<;>cases x<;>first|(exact u0.elim)|skip
 ·exact done hq3
 ·exact hq3.elim
 ·exact done hq3
 ·rename_i v
  obtain⟨val,rfl,hd'⟩:=u0
  show LeavesInM (dy none) 0 P fn a3.tmps (l0 M φ (hp o nx) w K X) a3.defers _ w3
  rw[g1]
  let Ys:Nat->V:=fun i=>match i with|0=>v|i+1=>s3.env i
  have Yt:(#[val]++a3.tmps).getD 0 undef=val:=by simp[Array.getD]
  have Yu:∀i,(#[val]++a3.tmps).getD (i+1) undef=a3.tmps.getD i undef:=by
   intro i
   simp only[Array.getD_eq_getD_getElem?]
   rw[Array.getElem?_append_right (by simp)]
   simp
  have RF:xz M il s1.H w2 Yq ⟨Ys,s3.o,s3.nx⟩ (#[val]++a3.tmps) w3:=⟨DP.heap,DP.tr,fun i=>by
   cases i with
   |zero=>rw[Yt];exact hd'
   |succ i=>rw[Yu];exact DP.env i⟩
  have Yv:∀w4,xz M il s1.H w2 Yq ⟨Ys,s3.o,s3.nx⟩ (#[val]++a3.tmps) w4->LeavesInM (dy none) 0 P fn a3.tmps (l0 M φ (hp o nx) w K X) [dd] (.panicking [{v:=val,recovered:=false}]) w4:=by
   intro w4 hB
   have hv4:=hB.env 0
   rw[Yt]at hv4
   refine last (tm:=a3.tmps) aI ⟨hB.heap,hB.tr,fun i=> ?_⟩ hv4 (.inr rfl) hq3
   have hs:=hB.env (i+1)
   rw[Yu]at hs
   exact hs
  exact fV (P:=P) (k:=0) (fn:=fn) (R:=l0 M φ (hp o nx) w K X) (u:= .panicking [{v:=val,recovered:=false}]) aI (ds:=[dd]) Yv ms w3 g2 g4 RF
end
end
theorem xJ.IY {P:Program}{g:FuncId}{ds:List D}{o:Nat->ab}{fr:Nat}{ty:TypeId}{sz:Nat}{es:List D}
 (h:de P g (ds.map .d) (fun _=> .no) 0 (fun v o1 _=>(∃j ep,v= .osl j ep/\o1 j= .arr ep ty sz es)\/(v= .bw/\es=[]/\0<sz)) (fun _ _ _=>False)):
 xJ P g (ds.map .d) [] o fr (.osl fr 0) [(fr, .arr 0 ty sz es)]:=by
 refine⟨h.1,fun o' us M φ w vals _ cO hH hd=> ?_⟩
 let cg:Place:=fun _=> .nilFunc
 have u4:∀b, ¬cy cg (hp (fun _=> .no) 0) b:=by rintro b ⟨id,hl,_⟩;simp[hp,ab.live]at hl
 have hM:∀b,ak M φ ⟨o',us⟩ b->b<w.heap.size:=fun b hb=>hb.elim (hH.yM b) fun hl=>(hH.ours b hl).2
 have vC:=(V.b7 _ _).1 hd
 refine(h.2 (ak M φ ⟨o',us⟩) cg w vals (kz cg hM) ((V.b7 _ _).2 (D.aP (w:=w) (w':=w) (B:=ak M φ ⟨o',us⟩) (fun b _ hB=>⟨rfl,fun h=>h.elim hB (u4 b)⟩) _ _ vC))).mono ?_
 rintro e w' ⟨il,o1,n1,v,k1,k2,k3⟩
 have hk:dx (fun _=>False) w w':=⟨k2.keep.os,k2.keep.tape,k2.keep.output,k2.keep.size,fun k hk _=>k2.keep.block k hk (u4 k)⟩
 have LM:(⟨o',us⟩:Hp).put [(fr, .arr 0 ty sz es)]=⟨put o' [(fr, .arr 0 ty sz es)],fun id=>us id\/id=fr⟩:=by
  simp only[Hp.put]
  congr 1
  funext id
  simp
 have fin:∀ (val:Value) (xs:List Value),(∀b,c8 val=some b->w.heap.size<=b/\b<w'.heap.size)->0<sz->w'.ownsRow 0 ty sz val es.length xs->
  (fb (ak M (aF φ fr val) ((⟨o',us⟩:Hp).put [(fr, .arr 0 ty sz es)])) w' sz es xs)->
  val.oneCell'=true->
  ∃aD,ay M aD ⟨put o' [(fr, .arr 0 ty sz es)],fun id=>us id\/id=fr⟩ w'/\Trans φ ⟨o',us⟩ w aD ⟨put o' [(fr, .arr 0 ty sz es)],fun id=>us id\/id=fr⟩ w'/\
   ∃IZ,Ending.returned val= .returned IZ/\V.den (ak M aD ⟨put o' [(fr, .arr 0 ty sz es)],fun id=>us id\/id=fr⟩) aD ⟨put o' [(fr, .arr 0 ty sz es)],fun id=>us id\/id=fr⟩ w' (.osl fr 0) IZ:=by
  intro val xs iX dw dc bJ Sr
  have oX:=gW hH hk cO (.arr 0 ty sz es) val iX (by
   unfold aO
   rw[show((⟨o',us⟩:Hp).put [(fr, .arr 0 ty sz es)]).o fr= .arr 0 ty sz es by simp]
   refine⟨dw,xs, ?_,bJ⟩
   rw[show aF φ fr val fr=val by simp]
   exact dc)
  have Pk:=dO (φ:=φ) (H:=⟨o',us⟩) hk cO (.arr 0 ty sz es) val (fun b hb=>(iX b hb).1)
  rw[LM]at oX Pk
  refine⟨aF φ fr val,oX,Pk,val,rfl,Sr, .inr rfl,fun e he=> ?_⟩
  have oj:0=e:=by
   have:(put o' [(fr,ab.arr 0 ty sz es)] fr).bW=some 0:=by simp[put,ab.bW]
   exact WU
  exact⟨ah,fun _=>aI⟩
 cases e with
 |outgrown=>exact k3.elim
 |panicked ch=>obtain⟨_,_,_,h⟩:=k3;exact h.elim
 |returned val=>
  obtain⟨g1,⟨j,ep,rfl,hj⟩|⟨rfl,rfl,dw⟩⟩:=k3
  ·obtain⟨v0,v1,v2⟩:=g1
   have dH:val=il j:=(v2 ep (by show(o1 j).bW=some ep;rw[hj];rfl)).2 rfl
   have cz:∀b,c8 val=some b->cy il (hp o1 n1) b:=fun b hb=>⟨j,by show(o1 j).live=true;rw[hj];rfl,by rw[<- dH];exact hb⟩
   have iX:∀b,c8 val=some b->w.heap.size<=b/\b<w'.heap.size:=fun b hb=>⟨(k2.grow b (cz b hb)).resolve_left (u4 b),(k1.ours b (cz b hb)).2⟩
   have CM:=k1.ok j
   unfold aO at CM
   rw[show(hp o1 n1).o j= .arr ep ty sz es from hj]at CM
   obtain⟨dw,xs,dc,bJ⟩:=CM
   have hBs:∀b,ak M (aF φ fr val) ((⟨o',us⟩:Hp).put [(fr, .arr 0 ty sz es)]) b->ak (ak M φ ⟨o',us⟩) il (hp o1 n1) b:=by
    rintro b (hb|⟨id,hl,hb⟩)
    ·exact .inl (.inl hb)
    ·by_cases e:id=fr
     ·subst e
      simp at hb
      exact .inr (cz b hb)
     ·simp[e]at hl hb
      exact .inl (.inr ⟨id,hl,hb⟩)
   exact fin val xs iX dw (by rw[dH];exact dc) (bJ.mono (w:=w') (w':=w') (fun b _ hB=>⟨rfl,fun h=>hB (hBs b h)⟩)) v0
  ·have g1:val= .slice none 0 0:=g1
   subst g1
   exact Wg
theorem xJ.Mp {P:Program}{g:FuncId}{args:List V}{ds:List D}{o:Nat->ab}{fr:Nat}{ty:TypeId}{sz:Nat}{es:List D}
 (eD:bT o args=some ds) (kJ:D.ja es=true) (h:de P g (ds.map .d) (fun _=> .no) 0 (fun v o1 _=>(∃j ep,v= .osl j ep/\o1 j= .arr ep ty sz es)\/(v= .bw/\es=[]/\0<sz)) (fun _ _ _=>False)):
 xJ P g args (V.bg args) o fr (.osl fr 0) [(fr, .arr 0 ty sz es)]:=by
 refine⟨h.1,fun o' us M φ w vals hag cO hH hd=> ?_⟩
 obtain⟨f1,f2,f3,f4,f5⟩:=cC hH (V.bg args) (fun id au=>(hag id au).2)
 generalize hHF:(⟨o',us⟩:Hp).put (cc (⟨o',us⟩:Hp).o (V.bg args))=HF at f1 f2 f3
 let cg:Place:=fun _=> .nilFunc
 have u4:∀b, ¬cy cg (hp (fun _=> .no) 0) b:=by rintro b ⟨id,hl,_⟩;simp[hp,ab.live]at hl
 have hM:∀b,ak M φ HF b->b<w.heap.size:=fun b hb=>hb.elim (f1.yM b) fun hl=>(f1.ours b hl).2
 have vC:D.aC (ak M φ HF) w ds vals.toList:=cX f1 args ds _ (fun id au=>by rw[f3 id au];show(o' id).fz=(o id).fz;rw[(hag id au).1]) eD (V.aP f2 _ _ hd)
 refine(h.2 (ak M φ HF) cg w vals (kz cg hM) ((V.b7 _ _).2 (D.aP (w:=w) (w':=w) (B:=ak M φ HF) (fun b _ hB=>⟨rfl,fun h=>h.elim hB (u4 b)⟩) _ _ vC))).mono ?_
 rintro e w' ⟨il,o1,n1,v,k1,k2,k3⟩
 have hk:dx (fun _=>False) w w':=⟨k2.keep.os,k2.keep.tape,k2.keep.output,k2.keep.size,fun k hk _=>k2.keep.block k hk (u4 k)⟩
 have LM:(⟨o',us⟩:Hp).put [(fr, .arr 0 ty sz es)]=⟨put o' [(fr, .arr 0 ty sz es)],fun id=>us id\/id=fr⟩:=by
  simp only[Hp.put]
  congr 1
  funext id
  simp
 have fin:∀ (val:Value) (xs:List Value),(∀b,c8 val=some b->w.heap.size<=b/\b<w'.heap.size)->0<sz->w'.ownsRow 0 ty sz val es.length xs->
  (fb (ak M (aF φ fr val) ((⟨o',us⟩:Hp).put [(fr, .arr 0 ty sz es)])) w' sz es xs)->
  val.oneCell'=true->
  ∃aD,ay M aD ⟨put o' [(fr, .arr 0 ty sz es)],fun id=>us id\/id=fr⟩ w'/\Trans φ ⟨o',us⟩ w aD ⟨put o' [(fr, .arr 0 ty sz es)],fun id=>us id\/id=fr⟩ w'/\
   ∃IZ,Ending.returned val= .returned IZ/\V.den (ak M aD ⟨put o' [(fr, .arr 0 ty sz es)],fun id=>us id\/id=fr⟩) aD ⟨put o' [(fr, .arr 0 ty sz es)],fun id=>us id\/id=fr⟩ w' (.osl fr 0) IZ:=by
  intro val xs iX dw dc bJ Sr
  have oX:=gW hH hk cO (.arr 0 ty sz es) val iX (by
   unfold aO
   rw[show((⟨o',us⟩:Hp).put [(fr, .arr 0 ty sz es)]).o fr= .arr 0 ty sz es by simp]
   refine⟨dw,xs, ?_,bJ⟩
   rw[show aF φ fr val fr=val by simp]
   exact dc)
  have Pk:=dO (φ:=φ) (H:=⟨o',us⟩) hk cO (.arr 0 ty sz es) val (fun b hb=>(iX b hb).1)
  rw[LM]at oX Pk
  refine⟨aF φ fr val,oX,Pk,val,rfl,Sr, .inr rfl,fun e he=> ?_⟩
  have oj:0=e:=by
   have:(put o' [(fr,ab.arr 0 ty sz es)] fr).bW=some 0:=by simp[put,ab.bW]
   exact WU
  exact⟨ah,fun _=>aI⟩
 cases e with
 |outgrown=>exact k3.elim
 |panicked ch=>obtain⟨_,_,_,h⟩:=k3;exact h.elim
 |returned val=>
  obtain⟨g1,⟨j,ep,rfl,hj⟩|⟨rfl,rfl,dw⟩⟩:=k3
  ·obtain⟨v0,v1,v2⟩:=g1
   have dH:val=il j:=(v2 ep (by show(o1 j).bW=some ep;rw[hj];rfl)).2 rfl
   have cz:∀b,c8 val=some b->cy il (hp o1 n1) b:=fun b hb=>⟨j,by show(o1 j).live=true;rw[hj];rfl,by rw[<- dH];exact hb⟩
   have iX:∀b,c8 val=some b->w.heap.size<=b/\b<w'.heap.size:=fun b hb=>⟨(k2.grow b (cz b hb)).resolve_left (u4 b),(k1.ours b (cz b hb)).2⟩
   have CM:=k1.ok j
   unfold aO at CM
   rw[show(hp o1 n1).o j= .arr ep ty sz es from hj]at CM
   obtain⟨dw,xs,dc,bJ⟩:=CM
   obtain⟨evs,e1,e2,e3⟩:=bJ
   exact fin val xs iX dw (by rw[dH];exact dc) ⟨evs,e1,e2,D.kU _ _ kJ e3⟩ v0
  ·have g1:val= .slice none 0 0:=g1
   subst g1
   exact Wg
theorem xJ.Mq {P:Program}{g:FuncId}{args:List V}{ds:List D}{o0 o:Nat->ab}{rd:List Nat}{fr:Nat}{v:V}{Δ:List (Nat×ab)}(au:V.bg args=[])(eD:bT o0 args=some ds)
 (h:xJ P g (ds.map .d) rd o fr v Δ):xJ P g args rd o fr v Δ:=
 ⟨h.1,fun o' us M φ w vals h1 h2 hH hd=>h.2 o' us M φ w vals h1 h2 hH ((V.b7 _ _).2 (cX hH args ds _ (by rw[au];intro id h;cases h) eD hd))⟩
def Pl(P:Program)(f:FuncId):Prop:=
 Enters P f/\∀ (w:World) (b:Nat) (es:Array MapEntry) (clock:Nat),w.heap[b]? =some (.map es clock)->
  Calls P f #[.map (some b)] w fun e w'=>e= .returned (.map (some w.heap.size))/\w'=w.alloc (.map es clock)
theorem de.Ss {P:Program}{f:FuncId}(h:Pl P f){o:Nat->ab}{nx id:Nat}{kt vt:TypeId}{l:List (D×D)}(ho:o id= .map kt vt l){K X:V->(Nat->ab)->Nat->Prop}
 (hK:K (.mp nx) (aF o nx (.map kt vt l)) (nx+1)):de P f [.mp id] o nx K X:=by
 refine⟨h.1,fun M φ w vals hH hd=> ?_⟩
 have hlen:=V.aA _ _ hd
 obtain⟨v,rfl⟩:∃v,vals=#[v]:=by
  match vals,hlen with
  |⟨[v]⟩,_=>exact⟨v,rfl⟩
 obtain⟨v',om,LN⟩:=V.dk _ _ 0 (.mp id) hd rfl
 simp only[List.getElem?_cons_zero,Option.some.injEq]at om
 subst om
 have aZ:=hH.ok id
 have vm:(hp o nx).o id= .map kt vt l:=ho
 simp only[aO,vm]at aZ
 obtain⟨b,es,clock,e1,e2,e3,e4⟩:=aZ
 have hv:v=φ id:=LN.2.2 (by rw[vm];rfl)
 rw[hv,e1]
 refine(h.2 w b es clock e2).mono fun e w' ⟨he,hw⟩=> ?_
 subst he;subst hw
 have cO: ¬ (hp o nx).us nx:=fun h=>Nat.lt_irrefl _ h
 have LM:(hp o nx).put [(nx, .map kt vt l)]=hp (aF o nx (.map kt vt l)) (nx+1):=by
  simp only[Hp.put,hp]
  congr 1
  funext j
  simp only[List.map_cons,List.map_nil,List.mem_singleton,eq_iff_iff]
  omega
 have hvb:∀c,c8 (.map (some w.heap.size))=some c->w.heap.size<=c/\c<(w.alloc (.map es clock)).heap.size:=by
  intro c hc;simp[c8]at hc;subst hc;simp
 have ht:=dO (φ:=φ) (H:=hp o nx) (ck w (.map es clock)) cO (.map kt vt l) (.map (some w.heap.size)) fun c hc=>(hvb c hc).1
 refine⟨aF φ nx (.map (some w.heap.size)),aF o nx (.map kt vt l),nx+1, .mp nx, ?_, ?_, ?_,hK⟩
 ·rw[<- LM]
  refine gW hH (ck w _) cO _ _ hvb ?_
  unfold aO
  simp only[bE,aJ,if_true]
  exact⟨w.heap.size,es,clock,rfl,heap_alloc_new w _,e3,aK.mono (ht.blocks (M:=M)) l _ e4⟩
 ·rw[<- LM];exact ht
 ·rw[<- LM];exact⟨rfl,aI,fun _=>aI⟩
section
inductive Tr (α:Type) where
 |e (f:Nat->α)
 |n (x:α) (l r:Tr α)
noncomputable def Tr.get {α:Type}(t:Tr α):Nat->α:=
 Tr.rec (motive:=fun _=>Nat->α) (fun f=>f) (fun x _ _ l r k=>Bool.rec (Bool.rec (r (Nat.sub (Nat.div k 2) 1)) (l (Nat.div k 2)) (Nat.beq (Nat.mod k 2) 1)) x (Nat.beq k 0)) t
theorem Tr.D7 {α:Type}(f:Nat->α):(Tr.e f).get=f:=rfl
noncomputable def Tr.tD {α:Type}(x:α):Nat->Tr α->Nat->Tr α
 |0,t,k=> .e (aF t.get k x)
 |d+1, .e f,k=>match Nat.beq k 0 with
  |true=> .n x (.e fun i=>f (2*i+1)) (.e fun i=>f (2*i+2))
  |false=>match Nat.beq (k%2) 1 with
   |true=> .n (f 0) (Tr.tD x d (.e fun i=>f (2*i+1)) (k/2)) (.e fun i=>f (2*i+2))
   |false=> .n (f 0) (.e fun i=>f (2*i+1)) (Tr.tD x d (.e fun i=>f (2*i+2)) (k/2 - 1))
 |d+1, .n y l r,k=>match Nat.beq k 0 with
  |true=> .n x l r
  |false=>match Nat.beq (k%2) 1 with
   |true=> .n y (Tr.tD x d l (k/2)) r
   |false=> .n y l (Tr.tD x d r (k/2 - 1))
noncomputable def Tr.set {α:Type}(t:Tr α)(k:Nat)(x:α):Tr α:=Tr.tD x 24 t k
theorem Tr.tE {α:Type}{x:α}{l r:Tr α}{k:Nat}:(Tr.n x l r).get k=if k=0 then x else if k%2=1 then l.get (k/2)else r.get (k/2 - 1):=by
 show @Bool.rec (fun _=>α) (@Bool.rec (fun _=>α) (r.get (k/2 - 1)) (l.get (k/2)) (Nat.beq (k%2) 1)) x (Nat.beq k 0)=_
 by_cases h:k=0
 ·subst h;rfl
 ·have:Nat.beq k 0=false:=by cases k with|zero=>exact absurd rfl h|succ k=>rfl
  simp only[this,h,if_false]
  by_cases h2:k%2=1
  ·simp[h2]
  ·have:Nat.beq (k%2) 1=false:=by
    cases hb:Nat.beq (k%2) 1 with
    |false=>rfl
    |true=>exact absurd (Nat.eq_of_beq_eq_true hb) h2
   simp[h2,this]
theorem Tr.mn {α:Type}(x:α):∀ (d:Nat) (t:Tr α) (k:Nat),(Tr.tD x d t k).get=aF t.get k x
 |0,t,k=>rfl
 |d+1, .e f,k=>by
  funext i
  simp only[Tr.tD]
  have hb:∀a b:Nat,Nat.beq a b=decide (a=b):=fun a b=>by
   cases h:Nat.beq a b with
   |true=>simp[Nat.eq_of_beq_eq_true h]
   |false=>simp[Nat.ne_of_beq_eq_false h]
  rw[hb,hb]
  by_cases h:k=0
  ·subst h
   simp only[decide_true,Tr.tE,aJ]
   by_cases hi:i=0
   ·simp[hi]
   ·simp only[hi,if_false]
    by_cases h2:i%2=1
    ·simp only[h2,if_true,Tr.D7];congr 1;omega
    ·simp only[h2,if_false,Tr.D7];congr 1;omega
  ·simp only[h,decide_false]
   by_cases hk:k%2=1
   ·simp only[hk,decide_true,Tr.tE,Tr.mn x d,aJ,Tr.D7]
    by_cases hi:i=0
    ·exact Dq
    ·simp only[hi,if_false]
     by_cases h2:i%2=1
     ·simp only[h2,if_true]
      have e1:2*(i/2)+1=i:=ah
      rw[e1]
      by_cases e:i=k
      ·simp[e]
      ·exact Dl
     ·simp only[h2,if_false]
      rw[if_neg (by intro e;subst e;exact h2 hk)]
      congr 1;omega
   ·simp only[hk,decide_false,Tr.tE,Tr.mn x d,aJ,Tr.D7]
    by_cases hi:i=0
    ·exact Dq
    ·simp only[hi,if_false]
     by_cases h2:i%2=1
     ·simp only[h2,if_true]
      rw[if_neg (by intro e;subst e;exact hk h2)]
      congr 1;omega
     ·simp only[h2,if_false]
      have e1:2*(i/2 - 1)+2=i:=ah
      rw[e1]
      by_cases e:i=k
      ·simp[e]
      ·exact Dl
 |d+1, .n y l r,k=>by
  funext i
  simp only[Tr.tD]
  have hb:∀a b:Nat,Nat.beq a b=decide (a=b):=fun a b=>by
   cases h:Nat.beq a b with
   |true=>simp[Nat.eq_of_beq_eq_true h]
   |false=>simp[Nat.ne_of_beq_eq_false h]
  rw[hb,hb]
  by_cases h:k=0
  ·subst h
   simp only[decide_true,Tr.tE,aJ]
   by_cases hi:i=0
   ·simp[hi]
   ·simp[hi]
  ·simp only[h,decide_false]
   by_cases hk:k%2=1
   ·simp only[hk,decide_true,Tr.tE,Tr.mn x d,aJ]
    by_cases hi:i=0
    ·exact Dq
    ·simp only[hi,if_false]
     by_cases h2:i%2=1
     ·simp only[h2,if_true]
      by_cases e:i=k
      ·simp[e]
      ·exact Dl
     ·simp only[h2,if_false]
      rw[if_neg (by intro e;subst e;exact h2 hk)]
   ·simp only[hk,decide_false,Tr.tE,Tr.mn x d,aJ]
    by_cases hi:i=0
    ·exact Dq
    ·simp only[hi,if_false]
     by_cases h2:i%2=1
     ·simp only[h2,if_true]
      rw[if_neg (by intro e;subst e;exact hk h2)]
     ·simp only[h2,if_false]
      by_cases e:i=k
      ·simp[e]
      ·exact Dl
theorem Tr.gR {α:Type}(t:Tr α)(k:Nat)(x:α):(t.set k x).get=aF t.get k x:=Tr.mn x 24 t k
noncomputable def Nat.fc {β:Type}(n:Nat)(c:Nat->β):β:=Nat.rec (motive:=fun _=>β) (c 0) (fun m _=>c (Nat.succ m)) n
theorem Nat.cF {β:Type}(n:Nat)(c:Nat->β):Nat.fc n c=c n:=by cases n<;>rfl
noncomputable def Int.fc {β:Type}(n:Int)(c:Int->β):β:=Int.rec (motive:=fun _=>β) (fun m=>Nat.fc m fun m=>c (.ofNat m)) (fun m=>Nat.fc m fun m=>c (.negSucc m)) n
theorem Int.cF {β:Type}(n:Int)(c:Int->β):Int.fc n c=c n:=by cases n<;>simp only[Int.fc,Nat.cF]
mutual
noncomputable def D.fc {β:Type}:D->(D->β)->β
 | .int k n,c=>Int.fc n fun n=>c (.int k n)
 | .bool b,c=>match b with|true=>c (.bool true)|false=>c (.bool false)
 | .agg l,c=>D.tF l fun l=>c (.agg l)
 | .sl l,c=>D.tF l fun l=>c (.sl l)
 | .iface t x,c=>D.fc x fun x=>c (.iface t x)
 | .str s,c=>c (.str s)
 | .eZ,c=>c .eZ
 | .lE,c=>c .lE
 | .bY,c=>c .bY
 | .gy,c=>c .gy
 | .mp ks vs,c=>D.tF ks fun ks=>D.tF vs fun vs=>c (.mp ks vs)
noncomputable def D.tF {β:Type}:List D->(List D->β)->β
 |[],c=>c []
 |x::xs,c=>D.fc x fun x=>D.tF xs fun xs=>c (x::xs)
end
mutual
theorem D.cF {β:Type}:∀ (x:D) (c:D->β),D.fc x c=c x
 | .int k n,c=>by simp only[D.fc,Int.cF]
 | .bool b,c=>by cases b<;>rfl
 | .agg l,c=>by simp only[D.fc,D.eP l]
 | .sl l,c=>by simp only[D.fc,D.eP l]
 | .iface t x,c=>by simp only[D.fc,D.cF x]
 | .mp ks vs,c=>by simp only[D.fc,D.eP ks,D.eP vs]
 | .str _,_| .eZ,_| .lE,_| .bY,_| .gy,_=>by simp only[D.fc]
theorem D.eP {β:Type}:∀ (x:List D) (c:List D->β),D.tF x c=c x
 |[],c=>by simp only[D.tF]
 |x::xs,c=>by simp only[D.tF,D.cF x,D.eP xs]
end
mutual
noncomputable def V.fc {β:Type}:V->(V->β)->β
 | .d x,c=>D.fc x fun x=>c (.d x)
 | .agg l,c=>V.tF l fun l=>c (.agg l)
 | .bS l,c=>V.tF l fun l=>c (.bS l)
 | .ptr i o,c=>Nat.fc i fun i=>Nat.fc o fun o=>c (.ptr i o)
 | .osl i o,c=>Nat.fc i fun i=>Nat.fc o fun o=>c (.osl i o)
 | .pe a b i j k,c=>Nat.fc a fun a=>Nat.fc b fun b=>Nat.fc i fun i=>Nat.fc j fun j=>Nat.fc k fun k=>c (.pe a b i j k)
 | .pp l o,c=>D.tF l fun l=>Nat.fc o fun o=>c (.pp l o)
 | .func f a b,c=>V.tF a fun a=>V.tF b fun b=>c (.func f a b)
 | .iface t x,c=>V.fc x fun x=>c (.iface t x)
 | .pR l,c=>D.tF l fun l=>c (.pR l)
 | .vw i j k,c=>Nat.fc i fun i=>Nat.fc j fun j=>Nat.fc k fun k=>c (.vw i j k)
 | .mp i,c=>Nat.fc i fun i=>c (.mp i)
 | .iD i,c=>Nat.fc i fun i=>c (.iD i)
 | .bw,c=>c .bw
 | .aa,c=>c .aa
 | .eN,c=>c .eN
noncomputable def V.tF {β:Type}:List V->(List V->β)->β
 |[],c=>c []
 |x::xs,c=>V.fc x fun x=>V.tF xs fun xs=>c (x::xs)
end
mutual
theorem V.cF {β:Type}:∀ (x:V) (c:V->β),V.fc x c=c x
 | .d x,c=>by simp only[V.fc,D.cF]
 | .agg l,c=>by simp only[V.fc,V.eP l]
 | .bS l,c=>by simp only[V.fc,V.eP l]
 | .pp l o,c=>by simp only[V.fc,D.eP,Nat.cF]
 | .func f a b,c=>by simp only[V.fc,V.eP a,V.eP b]
 | .iface t x,c=>by simp only[V.fc,V.cF x]
 | .pR l,c=>by simp only[V.fc,D.eP]
 | .ptr _ _,_| .osl _ _,_| .pe _ _ _ _ _,_| .vw _ _ _,_| .mp _,_| .iD _,_| .bw,_| .aa,_| .eN,_=>by simp only[V.fc,Nat.cF]
theorem V.eP {β:Type}:∀ (x:List V) (c:List V->β),V.tF x c=c x
 |[],c=>by simp only[V.tF]
 |x::xs,c=>by simp only[V.tF,V.cF x,V.eP xs]
end
section
variable {β:Type}
noncomputable def Yw(k:IntKind)(n:Int)(c:V->β):β:=Int.fc n fun n=>c (.d (.int k n))
noncomputable def Yx(b:Bool)(c:V->β):β:= @Bool.rec (fun _=>β) (c (.d (.bool false))) (c (.d (.bool true))) b
noncomputable def Su(x:D)(c:V->β):β:=D.fc x fun x=>c (.d x)
noncomputable def vD(x:D):(V->β)->β:=match x with| .int k n=>Yw k n| .bool b=>Yx b|x=>Su x
noncomputable def Yy(i o:Nat)(c:V->β):β:=Nat.fc i fun i=>Nat.fc o fun o=>c (.ptr i o)
noncomputable def Yz(i o:Nat)(c:V->β):β:=Nat.fc i fun i=>Nat.fc o fun o=>c (.osl i o)
noncomputable def vPe(a b i j k:Nat)(c:V->β):β:=Nat.fc a fun a=>Nat.fc b fun b=>Nat.fc i fun i=>Nat.fc j fun j=>Nat.fc k fun k=>c (.pe a b i j k)
noncomputable def V.Vy (v:V):(V->β)->β:=match v with| .d x=>vD x| .ptr i o=>Yy i o| .osl i o=>Yz i o| .pe a b i j k=>vPe a b i j k|v=>V.fc v
theorem V.Sv (v:V)(c:V->β):V.Vy v c=c v:=by
 cases v
 case d x=>
  cases x
  case int k n=>simp only[V.Vy,vD,Yw,Int.cF]
  case bool b=>cases b<;>rfl
  all_goals exact D.cF _ _
 case ptr i o=>simp only[V.Vy,Yy,Nat.cF]
 case osl i o=>simp only[V.Vy,Yz,Nat.cF]
 case pe a b i j k=>simp only[V.Vy,vPe,Nat.cF]
 all_goals exact V.cF _ _
end
noncomputable def Vz{β:Type}:List (D×D)->(List (D×D)->β)->β
 |[],c=>c []
 |(a,b)::l,c=>D.fc a fun a=>D.fc b fun b=>Vz l fun l=>c ((a,b)::l)
theorem I0{β:Type}:∀ (x:List (D×D)) (c:List (D×D)->β),Vz x c=c x
 |[],c=>rfl
 |(a,b)::l,c=>by simp only[Vz,D.cF,I0 l]
noncomputable def ab.fc {β:Type}(x:ab)(c:ab->β):β:=
 match x with
 | .row cs=>V.tF cs fun cs=>c (.row cs)
 | .arr e t s es=>Nat.fc e fun e=>Nat.fc s fun s=>D.tF es fun es=>c (.arr e t s es)
 | .qT e es=>Nat.fc e fun e=>D.tF es fun es=>c (.qT e es)
 | .map kt vt l=>Vz l fun l=>c (.map kt vt l)
 | .gu l=>Vz l fun l=>c (.gu l)
 | .nI l last=>Vz l fun l=>c (.nI l last)
 | .xb l pos=>Nat.fc pos fun pos=>c (.xb l pos)
 |x=>c x
theorem ab.cF {β:Type}(x:ab)(c:ab->β):ab.fc x c=c x:=by cases x<;>simp only[ab.fc,V.eP,D.eP,Nat.cF,I0]
noncomputable def Tr.wk {α β:Type}(x:α)(d:Nat):Tr α->Nat->(Tr α->β)->β:=
 Nat.rec (motive:=fun _=>Tr α->Nat->(Tr α->β)->β) (fun t k c=>c (.e (aF t.get k x)))
  (fun _ ih t k c=>Tr.rec (motive:=fun _=>β) (fun f=>
   Bool.rec (Bool.rec (ih (.e fun i=>f (2*i+2)) (Nat.sub (Nat.div k 2) 1) fun r=>c (.n (f 0) (.e fun i=>f (2*i+1)) r)) (ih (.e fun i=>f (2*i+1)) (Nat.div k 2) fun l=>c (.n (f 0) l (.e fun i=>f (2*i+2)))) (Nat.beq (Nat.mod k 2) 1))
    (c (.n x (.e fun i=>f (2*i+1)) (.e fun i=>f (2*i+2)))) (Nat.beq k 0))
   (fun y l r _ _=>Bool.rec (Bool.rec (ih r (Nat.sub (Nat.div k 2) 1) fun r=>c (.n y l r)) (ih l (Nat.div k 2) fun l=>c (.n y l r)) (Nat.beq (Nat.mod k 2) 1)) (c (.n x l r)) (Nat.beq k 0)) t) d
theorem Tr.tG {α β:Type}(x:α):∀ (d:Nat) (t:Tr α) (k:Nat) (c:Tr α->β),Tr.wk x d t k c=c (Tr.tD x d t k)
 |0,t,k,c=>rfl
 |d+1, .e f,k,c=>by
  show @Bool.rec (fun _=>β) (@Bool.rec (fun _=>β) (Tr.wk x d (.e fun i=>f (2*i+2)) (k/2 - 1) fun r=>c (.n (f 0) (.e fun i=>f (2*i+1)) r)) (Tr.wk x d (.e fun i=>f (2*i+1)) (k/2) fun l=>c (.n (f 0) l (.e fun i=>f (2*i+2)))) (Nat.beq (k%2) 1)) (c (.n x (.e fun i=>f (2*i+1)) (.e fun i=>f (2*i+2)))) (Nat.beq k 0)=_
  simp only[Tr.tD,Tr.tG x d]
  cases Nat.beq k 0
  ·cases Nat.beq (k%2) 1<;>rfl
  ·rfl
 |d+1, .n y l r,k,c=>by
  show @Bool.rec (fun _=>β) (@Bool.rec (fun _=>β) (Tr.wk x d r (k/2 - 1) fun r=>c (.n y l r)) (Tr.wk x d l (k/2) fun l=>c (.n y l r)) (Nat.beq (k%2) 1)) (c (.n x l r)) (Nat.beq k 0)=_
  simp only[Tr.tD,Tr.tG x d]
  cases Nat.beq k 0
  ·cases Nat.beq (k%2) 1<;>rfl
  ·rfl
noncomputable def Tr.Sw {α β:Type}(t:Tr α)(k:Nat)(x:α)(c:Tr α->β):β:=Tr.wk x 24 t k c
theorem Tr.D8 {α β:Type}(t:Tr α)(k:Nat)(x:α)(c:Tr α->β):t.Sw k x c=c (t.set k x):=Tr.tG x 24 t k c
structure St where
 env:Tr V
 o:Tr ab
 nx:Nat
noncomputable def St.S (st:St):S:=⟨st.env.get,st.o.get,st.nx⟩
noncomputable def F4(o:Tr ab)(Δ:List (Nat×ab)):Tr ab:=Δ.foldl (fun f x=>f.set x.1 x.2) o
noncomputable def rp(env:Tr V)(dst:Option Tmp)(v:V):Tr V:=match dst with|some d=>env.set d v|none=>env
noncomputable def tH{β:Type}(o:Tr ab):List (Nat×ab)->(Tr ab->β)->β
 |[],c=>c o
 |(i,x)::Δ,c=>ab.fc x fun x=>o.Sw i x fun o=>tH o Δ c
theorem mo{β:Type}:∀ (Δ:List (Nat×ab)) (o:Tr ab) (c:Tr ab->β),tH o Δ c=c (F4 o Δ)
 |[],o,c=>rfl
 |(i,x)::Δ,o,c=>by simp only[tH,ab.cF,Tr.D8,mo Δ];rfl
noncomputable def lg{β:Type}(env:Tr V)(dst:Option Tmp)(v:V)(c:Tr V->β):β:=match dst with|some d=>V.Vy v fun v=>env.Sw d v c|none=>c env
theorem iN{β:Type}(env:Tr V)(dst:Option Tmp)(v:V)(c:Tr V->β):lg env dst v c=c (rp env dst v):=by
 cases dst<;>simp only[lg,rp,V.Sv,Tr.D8]
theorem ji:∀ (Δ:List (Nat×ab)) (o:Tr ab),(F4 o Δ).get=put o.get Δ
 |[],_=>rfl
 |x::Δ,o=>by
  simp only[F4,put,List.foldl_cons]
  have:=ji Δ (o.set x.1 x.2)
  simp only[F4,put]at this
  rw[this,Tr.gR]
theorem iI(env:Tr V)(dst:Option Tmp)(v:V):(rp env dst v).get=aY env.get dst v:=by
 cases dst<;>simp[rp,aY,Tr.gR]
section Sx
def Pm(x:Operand)(_:Program)(s:S)(_:Nat):Option ff:=one (s.ev x)
def YA(c a b:Operand)(_:Program)(s:S)(_:Nat):Option ff:=la (oZ (s.ev c) (s.ev a) (s.ev b))
def Sy(t:TypeId)(parts:Array (Nat×Operand))(P:Program)(s:S)(_:Nat):Option ff:=la (xB P t (parts.toList.map fun p=>(p.1,s.ev p.2)))
def AA(t:TypeId)(len:Nat)(parts:Array (Nat×Operand))(P:Program)(s:S)(fr:Nat):Option ff:=fC P s.o fr t len (parts.toList.map fun p=>(p.1,s.ev p.2))
def YB(t:TypeId)(x:Operand)(P:Program)(s:S)(_:Nat):Option ff:=ma P s.o t (s.ev x)
def Sz(t:TypeId)(x v:Operand)(P:Program)(s:S)(_:Nat):Option ff:=qm P s.o t (s.ev x) (s.ev v)
def abP(x:Operand)(_:Program)(s:S)(_:Nat):Option ff:=la (iJ s.o (s.ev x))
noncomputable def YC(op:BinOp):IntKind->Int->Int->Option V:=
 match op with
 | .add=>fun k a b=>some (.d (.int k (k.wrap (Int.add a b))))
 | .sub=>fun k a b=>some (.d (.int k (k.wrap (Int.sub a b))))
 | .mul=>fun k a b=>some (.d (.int k (k.wrap (Int.mul a b))))
 |op=>zT op
theorem Mr(op:BinOp):YC op=zT op:=by cases op<;>rfl
def asInt(x:V):Option (IntKind×Int):=match x with| .d (.int k a)=>some (k,a)|_=>none
def I1(op:BinOp)(t:TypeId)(c:Bool)(x y:V)(P:Program)(o:Nat->ab):Option ff:=eM P o op t c x y
noncomputable def YD(op:BinOp)(t:TypeId)(x y:Operand)(P:Program)(s:S)(_:Nat):Option ff:=
 match asInt (s.ev x)with
 |some (k,a)=>match asInt (s.ev y)with
  |some (k',b)=>if k=k' then match YC op k a b with
   |some v=>some (v,[],[])
   |none=>I1 op t (isConst x||isConst y) (s.ev x) (s.ev y) P s.o
   else none
  |none=>I1 op t (isConst x||isConst y) (s.ev x) (s.ev y) P s.o
 |none=>I1 op t (isConst x||isConst y) (s.ev x) (s.ev y) P s.o
theorem AB{x:V}{k:IntKind}{a:Int}(h:asInt x=some (k,a)):x= .d (.int k a):=by
 unfold asInt at h;split at h
 ·injection h with h;cases h;rfl
 ·cases h
def CN(t:TypeId)(x:Operand)(f:Nat)(P:Program)(s:S)(_:Nat):Option ff:=la (gD P s.o t (s.ev x) f)
def CO(t:TypeId)(x i:Operand)(P:Program)(s:S)(_:Nat):Option ff:=gC P s.o t (s.ev x) (s.ev i)
def SA(op:Op)(P:Program)(s:S)(fr:Nat):Option ff:=fK P s fr op
noncomputable def Ms(op:Op):Program->S->Nat->Option ff:=
 match op with
 | .move x=>Pm x
 | .assign x=>Pm x
 | .pick c a b=>YA c a b
 | .build t parts=>Sy t parts
 | .buildSlice t len parts=>AA t len parts
 | .load t x=>YB t x
 | .store t x v=>Sz t x v
 | .nilCheck x=>abP x
 | .binOp op t x y _=>YD op t x y
 | .fieldAddr t x f=>CN t x f
 | .indexAddr t x i=>CO t x i
 |op=>SA op
theorem D9{op:Op}{P:Program}{s:S}{fr:Nat}{r:ff}(h:Ms op P s fr=some r):fK P s fr op=some r:=by
 cases op
 case binOp op t x y yt=>
  simp only[Ms,YD,Mr]at h
  have e:fK P s fr (.binOp op t x y yt)=eM P s.o op t (isConst x||isConst y) (s.ev x) (s.ev y):=rfl
  rw[e]
  split at h
  ·rename_i k a hx
   split at h
   ·rename_i k' b hy
    split at h
    ·rename_i hk
     split at h
     ·rename_i v hv
      unfold eM xA
      simp only[AB hx,AB hy,if_pos hk,hv]
      exact h
     ·exact h
    ·cases h
   ·exact h
  ·exact h
 all_goals exact h
end Sx
inductive FD where
 |fn (n:Nat) (ic:IC) (rs:List ResultVar)
 |dfr (n:Nat) (iT eF:IC) (g t:Nat) (fk:List Operand) (rs:List ResultVar) (m r r1:Nat) (Az:IC)
 |mpc
 |no
def FD.Ok (P:Program)(f:Nat):FD->Prop
 | .fn n ic rs=>aG P f n ic rs
 | .dfr n iT eF g t fk rs m r r1 Az=>IQ P f n iT eF g t fk rs/\D6 P g m r r1 Az
 | .mpc=>Pl P f
 | .no=>True
inductive CR where
 |ret (v:V) (o:Tr ab) (nx:Nat)|bF (v:V) (o:Tr ab) (nx:Nat)
def CR.to (K X:V->(Nat->ab)->Nat->Prop):CR->Prop
 | .ret v o nx=>K v o.get nx
 | .bF v o nx=>X v o.get nx
inductive RO where
 |ok (st:St)|bF (v:V) (st:St)
def RO.to (K:S->Prop)(X:V->S->Prop):RO->Prop
 | .ok st=>K st.S
 | .bF v st=>X v st.S
inductive dJ where
 |r (x:R)|c (x:CR)
abbrev Kt:=eS->St->Option dJ
abbrev df:=Nat->Bool->Nat->IC->St->Kt->Option dJ
noncomputable def F5(P:Program)(rs:List ResultVar)(st:St)(kc:CR->Option dJ):Option dJ:=
 match kW P st.S rs with
 |some [v]=>kc (.ret v st.o st.nx)
 |some vs=>kc (.ret (.bS vs) st.o st.nx)
 |none=>none
noncomputable def Po(P:Program)(rs:List ResultVar)(kc:CR->Option dJ):Kt:=fun e st=>
 match e with
 | .normal=>F5 P rs st kc
 | .ret=>F5 P rs st kc
 | .bF v=>kc (.bF v st.o st.nx)
 | .exit _=>none
noncomputable def I2(P:Program)(rs:List ResultVar)(kc:CR->Option dJ)(env:Tr V):Kt:=fun e s4=>
 match e with
 | .normal=>F5 P rs ⟨env,s4.o,s4.nx⟩ kc
 | .ret=>F5 P rs ⟨env,s4.o,s4.nx⟩ kc
 |_=>none
def YE:eS->Option V
 | .normal=>some (.d .eZ)
 | .ret=>some (.d .eZ)
 | .bF v=>some v
 | .exit _=>none
noncomputable def I3(P:Program)(rec:df)(rs:List ResultVar)(aV:List V)(m r r1:Nat)(Az:IC)(kc:CR->Option dJ):Kt:=fun e s3=>
 match YE e with
 |some u=>if aV.length<=m then rec s3.nx true m Az ⟨.e (aF (aF (cp aV) r u) r1 u),s3.o,s3.nx⟩ (I2 P rs kc s3.env)else none
 |none=>none
noncomputable def Ea(P:Program)(rec:df)(n t:Nat)(eF:IC)(g:Nat)(fk:List Operand)(rs:List ResultVar)(m r r1:Nat)(Az:IC)(kc:CR->Option dJ):Kt:=fun e s1=>
 match e with
 | .normal=>rec s1.nx false n eF ⟨s1.env.set t (.func (.func g) [] (fk.map s1.S.ev)),s1.o,s1.nx⟩ (I3 P rec rs (fk.map s1.S.ev) m r r1 Az kc)
 |_=>none
noncomputable def I4(P:Program)(bM:Nat->FD)(rec:df)(g:Nat)(args:List V)(o:Tr ab)(nx:Nat)(kc:CR->Option dJ):Option dJ:=
 match bM g with
 | .fn n ic rs=>if args.length<=n then rec nx false n ic ⟨.e (cp args),o,nx⟩ (Po P rs kc)else none
 | .dfr n iT eF g t fk rs m r r1 Az=>if args.length<=n then rec nx true n iT ⟨.e (cp args),o,nx⟩ (Ea P rec n t eF g fk rs m r r1 Az kc)else none
 | .mpc=>match args with
   |[.mp id]=>match o.get id with
    | .map kt vt l=>kc (.ret (.mp nx) (o.set nx (.map kt vt l)) (nx+1))
    |_=>none
   |_=>none
 | .no=>none
def tI:V->List V
 | .bS vs=>vs
 |v=>[v]
noncomputable def Eb(r:CR):Option R:=
 match r with
 | .ret v o _=>match v with
   | .bS [_]=>none
   |v=>match bT o.get (tI v)with
    |some rs=>some (.ret rs)
    |none=>none
 | .bF v o _=>match dA o.get v with
   |some x=>some (.bF x)
   |none=>none
noncomputable def YF{β:Type}(x:R)(c:R->β):β:=match x with| .ret l=>D.tF l fun l=>c (.ret l)| .bF d=>D.fc d fun d=>c (.bF d)
theorem CP{β:Type}(x:R)(c:R->β):YF x c=c x:=by cases x<;>simp only[YF,D.eP,D.cF]
noncomputable def AD(r:CR):Option dJ:=match Eb r with|some x=>YF x fun x=>some (.r x)|none=>none
theorem I5{r:CR}{a:dJ}(h:AD r=some a):∃x,Eb r=some x/\a= .r x:=by
 unfold AD at h
 split at h
 ·rename_i x hx;rw[CP]at h;injection h with h;exact⟨x,hx,h.symm⟩
 ·cases h
def I6(out:R)(o:Tr ab)(nx:Nat):CR:=
 match out with
 | .ret rs=> .ret (iE rs) o nx
 | .bF x=> .bF (.d x) o nx
structure pj (P:Program) where
 YG:Nat->Bool
 fx:Nat->List D->Option R
 ok:∀g ds out,fx g ds=some out->aW P g ds out
def I7(l:List (Nat×List D×R))(g:Nat)(ds:List D):Option R:=
 match l with
 |[]=>none
 |x::l=>match Nat.beq x.1 g with
  |true=>match D.fw x.2.1 ds with
   |true=>some x.2.2
   |false=>I7 l g ds
  |false=>I7 l g ds
theorem xX{P:Program}:∀ {l:List (Nat×List D×R)},(∀x∈l,aW P x.1 x.2.1 x.2.2)->∀g ds out,I7 l g ds=some out->aW P g ds out
 |[],_,_,_,_,h=>by cases h
 |x::l,hl,g,ds,out,h=>by
  simp only[I7]at h
  split at h
  ·rename_i hg
   split at h
   ·rename_i hd
    injection h with h
    have:=hl x aI
    rw[Nat.eq_of_beq_eq_true hg,D.dh _ _ hd,h]at this
    exact this
   ·exact xX (fun y hy=>hl y nH) g ds out h
  ·exact xX (fun y hy=>hl y nH) g ds out h
def pj.of {P:Program}(YG:Nat->Bool)(l:List (Nat×List D×R))(h:∀x∈l,aW P x.1 x.2.1 x.2.2):pj P:=⟨YG,I7 l,xX h⟩
noncomputable def Mt(P:Program)(bM:Nat->FD)(md:pj P)(rec:df)(g:Nat)(ds:List D):Option R:=
 match md.fx g ds with
 |some out=>some out
 |none=>match I4 P bM rec g (ds.map .d) (.e fun _=> .no) 0 AD with
  |some (.r x)=>some x
  |_=>none
noncomputable def Pp(out:R)(o:Tr ab)(nx:Nat)(args:List V)(kc:CR->Option dJ):Option dJ:=
 match out.flat with
 |true=>kc (I6 out o (nx+1))
 |false=>match out.l4 with
  |true=>kc (I6 out (F4 o (qa o.get (V.bg args))) (nx+1))
  |false=>kc (I6 out (F4 o (cc o.get (V.bg args))) (nx+1))
noncomputable def Ec(P:Program)(bM:Nat->FD)(md:pj P)(rec:df)(g:Nat)(args:List V)(o:Tr ab)(nx:Nat)(kc:CR->Option dJ):Option dJ:=
 match md.YG g,bT o.get args with
 |true,some ds=>match Mt P bM md rec g ds with
  |some out=>Pp out o nx args kc
  |none=>none
 |_,_=>I4 P bM rec g args o nx kc
noncomputable def I8(id:Nat)(kc:CR->Option dJ):Kt:=fun e s2=>
 match e with
 | .bF v=>kc (.bF v s2.o s2.nx)
 |e=>match s2.o.get id with
  | .loop nf m en p c d _ _=>match e with
    | .normal=>kc (.ret (.d (.bool true)) (s2.o.set id (.loop nf m en p c d .ready none)) s2.nx)
    | .ret=>kc (.ret (.d (.bool false)) (s2.o.set id (.loop nf m en p c d .done (some .ret))) s2.nx)
    | .exit j=>kc (.ret (.d (.bool false)) (s2.o.set id (.loop nf m en p c d .done (some (.exit j)))) s2.nx)
    | .bF _=>none
  |_=>none
noncomputable def Ed(rec:df)(id nx n:Nat)(eF:IC)(kc:CR->Option dJ):Kt:=fun e s1=>
 match e with
 | .normal=>match s1.o.get id with
   | .loop nf m en p c d .ready pd=>rec nx true n eF ⟨s1.env,s1.o.set id (.loop nf m en p c d .busy pd),s1.nx⟩ (I8 id kc)
   |_=>none
 | .bF v=>kc (.bF v s1.o s1.nx)
 |_=>none
noncomputable def SB(P:Program)(rec:df)(id:Nat)(args:List V)(o:Tr ab)(nx:Nat)(kc:CR->Option dJ):Option dJ:=
 match o.get id with
 | .loop nf n env ps iT eF _ _=>if nf=P.funcs.size/\id<nx/\ps.all (fun t=>decide (t<n))=true/\args.length=ps.length then
  rec nx true n iT ⟨.e (mh (ba env) ps args),o,nx⟩ (Ed rec id nx n eF kc)
   else none
 |_=>none
noncomputable def wm(P:Program)(st:St)(o:bL)(kr:RO->Option dJ):Option dJ:=
 match Ms o.op P st.S st.nx with
 |some (v,Δ,_)=>lg st.env o.dst v fun e=>tH st.o Δ fun ob=>Nat.fc (st.nx+1) fun n=>kr (.ok ⟨e,ob,n⟩)
 |none=>none
noncomputable def YH(st:St)(dst:Option Nat)(kr:RO->Option dJ)(c:CR):Option dJ:=
 match c with
 | .ret v o nx=>lg st.env dst v fun e=>Nat.fc nx fun nx=>kr (.ok ⟨e,o,nx⟩)
 | .bF v o nx=>kr (.bF v ⟨st.env,o,nx⟩)
noncomputable def I9(c:Call)(P:Program)(bM:Nat->FD)(md:pj P)(rec:df)(st:St)(o:bL)(kr:RO->Option dJ):Option dJ:=
 match c.callee with
 | .value f=>match st.S.ev f with
   | .func (.func g) first cap=>Ec P bM md rec g (first++c.args.toList.map st.S.ev++cap) st.o st.nx (YH st o.dst kr)
   | .iD id=>SB P rec id (c.args.toList.map st.S.ev) st.o st.nx (YH st o.dst kr)
   |_=>none
 | .invoke r m=>match s6 P m (st.S.ev r)with
   |some (g,y)=>Ec P bM md rec g (y::c.args.toList.map st.S.ev) st.o st.nx (YH st o.dst kr)
   |none=>none
 |_=>wm P st o kr
noncomputable def SC(x:Operand)(P:Program)(_:Nat->FD)(_:pj P)(_:df)(st:St)(_:bL)(kr:RO->Option dJ):Option dJ:=
 match st.S.ev x with
 | .d (.iface t y)=>kr (.bF (.d (.iface t y)) st)
 | .iface t y=>kr (.bF (.iface t y) st)
 |_=>none
noncomputable def YI(P:Program)(_:Nat->FD)(_:pj P)(_:df)(st:St)(o:bL)(kr:RO->Option dJ):Option dJ:=wm P st o kr
def R.same:R->R->Bool
 | .ret a, .ret b=>D.fw a b
 | .bF a, .bF b=>a.same b
 |_,_=>false
theorem R.dG {x y:R}(h:x.same y=true):x=y:=by
 cases x<;>cases y<;>simp only[R.same,Bool.false_eq_true]at h
 ·rw[D.dh _ _ h]
 ·rw[D.dG _ _ h]
noncomputable def brX(f:Nat->Option dJ):Nat->Option dJ
 |0=>none
 |n+1=>match n with
  |0=>f 0
  |n=>match brX f n with
   |some (.r a)=>match f n with
    |some (.r b)=>match R.same a b with
     |true=>some (.r a)
     |false=>none
    |_=>none
   |_=>none
theorem Ja{f:Nat->Option dJ}{a:dJ}:∀ {n:Nat},brX f n=some a->∀i,i<n->f i=some a
 |0,h,_,_=>by cases h
 |1,h,i,hi=>by obtain rfl:i=0:=ah
               exact h
 |n+2,h,i,hi=>by
  simp only[brX]at h
  split at h
  ·rename_i x hx
   split at h
   ·rename_i y hy
    split at h
    ·rename_i he
     have e:=R.dG he
     subst e
     rw[<- h]
     by_cases e:i=n+1
     ·subst e;exact hy
     ·exact Ja hx i ah
    ·cases h
   ·cases h
  ·cases h
noncomputable def Mu(st:St)(dst:Option Nat)(kr:RO->Option dJ)(v:V)(Δ:List (Nat×ab)):Option dJ:=
 lg st.env dst v fun e=>tH st.o Δ fun ob=>Nat.fc (st.nx+1) fun n=>kr (.ok ⟨e,ob,n⟩)
noncomputable def Jb(x:Operand)(str:Bool)(P:Program)(_:Nat->FD)(_:pj P)(_:df)(st:St)(o:bL)(kr:RO->Option dJ):Option dJ:=
 match nA st.o.get (st.S.ev x)with
 |some (id,l)=>match str with
  |true=>none
  |false=>match l with
   |[]=>Mu st o.dst kr (.bS [.d (.bool false)]) []
   |_=>brX (fun i=>match l[i]? with
    |some (k,x)=>Mu st o.dst kr (.bS [.d (.bool true), .d k, .d x]) [(id, .nI (l.eraseIdx i) (some (k,x)))]
    |none=>none) l.length
 |none=>wm P st o kr
noncomputable def opK(op:Op):(P:Program)->(Nat->FD)->pj P->df->St->bL->(RO->Option dJ)->Option dJ:=
 match op with
 | .call c=>I9 c
 | .panic x=>SC x
 | .next x str=>Jb x str
 |_=>YI
noncomputable def opX(P:Program)(bM:Nat->FD)(md:pj P)(rec:df)(st:St)(o:bL)(kr:RO->Option dJ):Option dJ:=opK o.op P bM md rec st o kr
noncomputable def roK(next:St->Option dJ)(kr:RO->Option dJ):RO->Option dJ:=fun r=>match r with| .ok st=>next st| .bF v st=>kr (.bF v st)
noncomputable def xY(P:Program)(bM:Nat->FD)(md:pj P)(rec:df)(kr:RO->Option dJ):List bL->St->Option dJ
 |[],st=>kr (.ok st)
 |o::l,st=>match(match o.gd with
   |none=>some true
   |some (d,want)=>match st.env.get d with
    | .d (.bool b)=>some (b==want)
    | .bS []=>some false
    |_=>none)with
  |some true=>opX P bM md rec st o (roK (xY P bM md rec kr l) kr)
  |some false=>lg st.env o.dst (.bS []) fun e=>Nat.fc (st.nx+1) fun n=>xY P bM md rec kr l ⟨e,st.o,n⟩
  |none=>none
section
variable {P:Program}{bM:Nat->FD}{md:pj P}
noncomputable def dS(P:Program)(rec:df):Prop:=∀b rd n ic st k a,rec b rd n ic st k=some a->∀Q:eS->S->Prop,(∀e st',k e st'=some a->Q e st'.S)->sr P n b rd ic Q st.S
theorem sw{rs:List ResultVar}{st:St}{kc:CR->Option dJ}{a:dJ}(h:F5 P rs st kc=some a){K X:V->(Nat->ab)->Nat->Prop}(hr:∀r,kc r=some a->r.to K X):kY P rs K X .ret st.S:=by
 unfold F5 at h
 unfold kY
 split at h
 ·rename_i v hv;simp only[hv];exact hr _ h
 ·rename_i vs hv hn
  simp only[hn]
  exact hr _ h
 ·cases h
theorem mq(bf:P.follows .mixedOrders=true)(cm:∀g,(bM g).Ok P g){rec:df}(bp:dS P rec){g:Nat}{args:List V}{o:Tr ab}{nx:Nat}{kc:CR->Option dJ}{a:dJ}(h:I4 P bM rec g args o nx kc=some a){K X:V->(Nat->ab)->Nat->Prop}(hr:∀r,kc r=some a->r.to K X):
 de P g args o.get nx K X:=by
 have aZ:=cm g
 unfold I4 at h
 split at h
 ·rename_i n ic rs ht
  rw[ht]at aZ
  split at h
  ·rename_i hl
   refine de.tu bf aZ hl ?_
   refine bp _ _ _ _ _ _ _ h _ fun e st he=> ?_
   unfold Po at he
   cases e with
   |normal=>exact sw he hr
   |ret=>exact sw he hr
   |bF v=>exact hr _ he
   |exit j=>cases he
  ·cases h
 ·rename_i n iT eF g' t fk rs m r0 r1 Az ht
  rw[ht]at aZ
  split at h
  ·rename_i hl
   refine de.IX bf aZ.1 aZ.2 hl (bp _ _ _ _ _ _ _ h _ fun e s1 he=> ?_)
   unfold Ea at he
   cases e with
   |normal=>
    have hb:sr P n s1.nx false eF (CL P m r0 r1 Az (fk.map s1.S.ev) rs K X) ⟨aF s1.env.get t (.func (.func g') [] (fk.map s1.S.ev)),s1.o.get,s1.nx⟩:=by
     have:=bp _ _ _ _ _ _ _ he (CL P m r0 r1 Az (fk.map s1.S.ev) rs K X) (fun e s3 VA=>by
      unfold I3 at VA
      split at VA
      ·rename_i u hu
       split at VA
       ·rename_i ni
        have hrw:CK P m r0 r1 Az (fk.map s1.S.ev) u s3.o.get s3.nx fun o nx=>kY P rs K X .ret ⟨s3.env.get,o,nx⟩:=by
         refine⟨ni,bp _ _ _ _ _ _ _ VA _ fun e4 s4 he4=> ?_⟩
         unfold I2 at he4
         cases e4 with
         |normal=>exact sw (st:=⟨s3.env,s4.o,s4.nx⟩) he4 hr
         |ret=>exact sw (st:=⟨s3.env,s4.o,s4.nx⟩) he4 hr
         |_=>cases he4
        cases e<;>simp only[YE,Option.some.injEq,reduceCtorEq]at hu<;>subst hu<;>exact hrw
       ·cases VA
      ·cases VA)
     simp only[St.S,Tr.gR]at this
     exact this
    exact hb
   |_=>cases he
  ·cases h
 ·rename_i ht
  rw[ht]at aZ
  split at h
  ·split at h
   ·rename_i kt vt l ho
    have h2:=hr _ h
    simp only[CR.to,Tr.gR]at h2
    exact de.Ss aZ ho h2
   ·cases h
  ·cases h
 ·cases h
theorem Jc{r:CR}{out:R}(ho:Eb r=some out):r.to (fun v o _=>∃vs rs,v=(match vs with|[v]=>v|vs=> .bS vs)/\bT o vs=some rs/\out= .ret rs) (fun v o _=>∃x,dA o v=some x/\out= .bF x):=by
 unfold Eb at ho
 split at ho
 ·rename_i v o nx
  split at ho
  ·cases ho
  ·rename_i hv
   split at ho
   ·rename_i rs Xp
    injection ho with ho;subst ho
    refine⟨tI v,rs, ?_,Xp,rfl⟩
    cases v with
    |bS vs=>
     match vs,hv with
     |[],_=>rfl
     |[x],hv=>exact absurd rfl (hv x)
     |_::_::_,_=>rfl
    |_=>rfl
   ·cases ho
 ·split at ho
  ·rename_i x hx
   injection ho with ho;subst ho
   exact⟨x,hx,rfl⟩
  ·cases ho
theorem AE(bf:P.follows .mixedOrders=true)(cm:∀g,(bM g).Ok P g){rec:df}(bp:dS P rec){g:Nat}{ds:List D}{out:R}(h:I4 P bM rec g (ds.map .d) (.e fun _=> .no) 0 AD=some (.r out)):aW P g ds out:=by
 refine aW.l9 (mq bf cm bp h fun r hr=> ?_)
 obtain⟨x,hx,he⟩:=I5 hr
 injection he with he;subst he
 exact Jc hx
theorem xZ(bf:P.follows .mixedOrders=true)(cm:∀g,(bM g).Ok P g){rec:df}(bp:dS P rec){g:Nat}{ds:List D}{out:R}(h:Mt P bM md rec g ds=some out):aW P g ds out:=by
 unfold Mt at h
 split at h
 ·rename_i adA ho
  injection h with h;subst h
  exact md.ok _ _ _ ho
 ·split at h
  ·rename_i x hr;injection h with h;subst h;exact AE bf cm bp hr
  ·cases h
theorem AF(bf:P.follows .mixedOrders=true)(cm:∀g,(bM g).Ok P g){rec:df}(bp:dS P rec){g:Nat}{args:List V}{o:Tr ab}{nx:Nat}{kc:CR->Option dJ}{a:dJ}(h:Ec P bM md rec g args o nx kc=some a){K X:V->(Nat->ab)->Nat->Prop}(hr:∀r,kc r=some a->r.to K X):
 ON P g args o.get nx K X:=by
 unfold Ec at h
 split at h
 ·rename_i ds hmd eD
  split at h
  ·rename_i out Jd
   have hP:=xZ bf cm bp Jd
   refine .inl ⟨ds,eD,out,hP, ?_⟩
   unfold Pp at h
   split at h
   ·rename_i hf
    refine .inr (.inl ⟨hf, ?_⟩)
    cases out<;>exact hr _ h
   ·split at h
    ·rename_i hf
     refine .inr (.inr ⟨hf, ?_⟩)
     rw[<- ji]
     cases out<;>exact hr _ h
    ·refine .inl ?_
     rw[<- ji]
     cases out<;>exact hr _ h
  ·cases h
 ·exact .inr (mq bf cm bp h hr)
theorem Mv(bf:P.follows .mixedOrders=true){rec:df}(bp:dS P rec){id:Nat}{args:List V}{o:Tr ab}{nx:Nat}{kc:CR->Option dJ}{a:dJ}(h:SB P rec id args o nx kc=some a){K X:V->(Nat->ab)->Nat->Prop}(hr:∀r,kc r=some a->r.to K X):
 dq P id args o.get nx K X:=by
 unfold SB at h
 split at h
 ·rename_i nf n env ps iT eF st pd ho
  split at h
  ·rename_i hc
   obtain⟨rfl,b8,uO,hl⟩:=hc
   refine dq.tu bf ho b8 uO hl ?_
   refine bp _ _ _ _ _ _ _ h _ fun e s1 he=> ?_
   unfold Ed at he
   cases e with
   |normal=>
    simp only at he
    split at he
    ·rename_i nf m en p c d pd oo
     refine⟨nf,m,en,p,c,d,pd,oo, ?_⟩
     have:=bp _ _ _ _ _ _ _ he (jh id K X) (fun e s2 h2=>by
      unfold I8 at h2
      split at h2
      ·exact hr _ h2
      ·rename_i OH
       split at h2
       ·rename_i nf' m' en' p' c' d' st' pd' SD
        cases e with
        |bF v=>cases h2
        |normal=>have h3:=hr _ h2;simp only[CR.to,Tr.gR]at h3;exact⟨nf',m',en',p',c',d',st',pd',SD,h3⟩
        |ret=>have h3:=hr _ h2;simp only[CR.to,Tr.gR]at h3;exact⟨nf',m',en',p',c',d',st',pd',SD,h3⟩
        |exit j=>have h3:=hr _ h2;simp only[CR.to,Tr.gR]at h3;exact⟨nf',m',en',p',c',d',st',pd',SD,h3⟩
       ·cases h2)
     simp only[St.S,Tr.gR]at this
     exact this
    ·cases he
   |bF v=>exact hr _ he
   |_=>cases he
  ·cases h
 ·cases h
theorem tJ{st:St}{o:bL}{kr:RO->Option dJ}{a:dJ}(h:wm P st o kr=some a){K:S->Prop}{X:V->S->Prop}(hr:∀r,kr r=some a->r.to K X):match fK P st.S st.S.nx o.op with
 |some (v,Δ,_)=>K ⟨aY st.S.env o.dst v,put st.S.o Δ,st.S.nx+1⟩
 |none=>False:=by
 unfold wm at h
 split at h
 ·rename_i v Δ rd he
  have he:=D9 he
  simp only[iN,mo,Nat.cF]at h
  have hr:=hr _ h
  simp only[RO.to,St.S,iI,ji]at hr
  have oj:fK P st.S st.S.nx o.op=some (v,Δ,rd):=he
  simp only[oj]
  exact hr
 ·cases h
theorem Ee{st:St}{dst:Option Nat}{kr:RO->Option dJ}{v:V}{Δ:List (Nat×ab)}{a:dJ}(h:Mu st dst kr v Δ=some a){K:S->Prop}{X:V->S->Prop}(hr:∀r,kr r=some a->r.to K X):K ⟨aY st.S.env dst v,put st.S.o Δ,st.S.nx+1⟩:=by
 unfold Mu at h
 simp only[iN,mo,Nat.cF]at h
 have hr:=hr _ h
 simp only[RO.to,St.S,iI,ji]at hr
 exact hr
theorem SE(bf:P.follows .mixedOrders=true)(cm:∀g,(bM g).Ok P g){rec:df}(bp:dS P rec){st:St}{o:bL}{kr:RO->Option dJ}{a:dJ}(h:opX P bM md rec st o kr=some a){K:S->Prop}{X:V->S->Prop}(hr:∀r,kr r=some a->r.to K X):G3 P st.S o X K:=by
 have cr:∀r,YH st o.dst kr r=some a->r.to (fun v o' nx'=>K ⟨aY st.S.env o.dst v,o',nx'⟩) (fun v o' nx'=>X v ⟨st.S.env,o',nx'⟩):=by
  intro r hx
  unfold YH at hx
  split at hx
  ·simp only[iN,Nat.cF]at hx
   have hr:=hr _ hx
   simp only[RO.to,St.S,iI]at hr
   exact hr
  ·exact hr _ hx
 unfold opX at h
 unfold G3
 cases gr:o.op
 case call c=>
  rw[gr]at h
  have h:I9 c P bM md rec st o kr=some a:=h
  unfold I9 at h
  cases hf:c.callee
  case value f=>
   simp only[hf]at h|-
   split at h
   ·rename_i g first cap hv
    simp only[hv]
    have:=AF bf cm bp h cr
    rcases this with⟨ds,eD,hP⟩|hC
    ·have SF:bT st.S.o (first++List.map st.S.ev c.args.toList++cap)=some ds:=eD
     simp only[SF]
     exact .inl hP
    ·split
     ·exact .inr (.inl hC)
     ·exact .inl hC
   ·rename_i id hv
    simp only[hv]
    exact Mv bf bp h cr
   ·cases h
  case invoke r m=>
   simp only[hf]at h|-
   split at h
   ·rename_i g y hv
    simp only[hv]
    exact AF bf cm bp h cr
   ·cases h
  all_goals
   simp only[hf]at h|-
   have:=tJ h hr
   rw[gr]at this
   exact this
 case panic x=>
  rw[gr]at h
  have h:SC x P bM md rec st o kr=some a:=h
  unfold SC at h
  split at h
  ·rename_i hv;simp only[hv];exact hr _ h
  ·rename_i hv;simp only[hv];exact hr _ h
  ·cases h
 case next x str=>
  rw[gr]at h
  have h:Jb x str P bM md rec st o kr=some a:=h
  unfold Jb at h
  have hl:nA st.S.o (st.S.ev x)=nA st.o.get (st.S.ev x):=rfl
  simp only[hl]
  split at h
  ·rename_i id l au
   simp only[au]
   cases str with
   |true=>cases h
   |false=>
    refine⟨rfl,fun e=> ?_,fun i k y e=> ?_⟩
    ·subst e
     exact Ee h hr
    ·cases l with
     |nil=>simp at e
     |cons p l=>
      have:=Ja h i (List.getElem?_eq_some_iff.1 e).1
      rw[e]at this
      exact Ee this hr
  ·rename_i au
   simp only[au]
   have:=tJ h hr
   rw[gr]at this
   exact this
 all_goals
  have h2:wm P st o kr=some a:=by rw[gr]at h;exact h
  have:=tJ h2 hr
  rw[gr]at this
  exact this
theorem sx(bf:P.follows .mixedOrders=true)(cm:∀g,(bM g).Ok P g){rec:df}(bp:dS P rec){kr:RO->Option dJ}{a:dJ}{K:S->Prop}{X:V->S->Prop}(hr:∀r,kr r=some a->r.to K X):∀ (l:List bL) (st:St),xY P bM md rec kr l st=some a->nW P X K l st.S
 |[],st,h=>hr (.ok st) h
 |o::l,st,h=>by
  simp only[xY,iN,Nat.cF]at h
  simp only[nW]
  have op:opX P bM md rec st o (roK (xY P bM md rec kr l) kr)=some a->G3 P st.S o X (nW P X K l):=by
   intro h
   refine SE bf cm bp h fun r hrr=> ?_
   cases r with
   |ok SG=>exact sx bf cm bp hr l SG hrr
   |bF v SG=>exact hr (.bF v SG) hrr
  have sk:xY P bM md rec kr l ⟨rp st.env o.dst (.bS []),st.o,st.nx+1⟩=some a->nW P X K l ⟨aY st.S.env o.dst (.bS []),st.S.o,st.S.nx+1⟩:=by
   intro h
   have:=sx bf cm bp hr l _ h
   exact HK
  cases hg:o.gd with
  |none=>simp only[hg]at h;exact op h
  |some p=>
   obtain⟨d,want⟩:=p
   simp only[hg]at h
   have he:st.S.env d=st.env.get d:=rfl
   simp only[he]
   cases hv:st.env.get d with
   |d x=>
    cases x with
    |bool b=>
     simp only[hv]at h|-
     by_cases e:b=want
     ·subst e
      simp only[beq_self_eq_true]at h
      rw[if_pos rfl];exact op h
     ·have:(b==want)=false:=by simpa using e
      rw[this]at h
      rw[if_neg e];exact sk h
    |_=>simp[hv]at h
   |bS vs=>
    cases vs with
    |nil=>simp only[hv]at h|-;exact sk h
    |cons a bX=>simp[hv]at h
   |_=>simp[hv]at h
end
end
end Go.Proofs.YtnkamdiiakdkgaaGreat
