/-
  A PART OF THE PROOF. Conditions: none.
-/
import Derived.Test.YtlhemmpklhhgoaaGreatQt6
set_option linter.unusedSimpArgs false
set_option linter.unusedVariables false
namespace Go.Proofs.YtlhemmpklhhgoaaGreat
section
section
variable {P:Program}{M:Nat->Prop}{φ:Place}{H:Hp}{w w':World}{cL:Place}{H0:Hp}{w0:World}{n b:Nat}{s:S}{a:Act}{cx:Cx}{ro:Option Nat}{k:Nat}
theorem ij(hb:∀id,H0.us id->id<b)(uv:cx.rd=false->ro=none):∀ (c:Code) (Q:fL->S->Prop) (s:S) (φ:Place) (a:Act) (w:World),jd P n b cx.rd c Q s->cj M cL H0 w0 n cx φ s a w->c.tW P ro (Ge M cL H0 w0 n cx Q) a w:=by
 intro c
 induction c with
 |skip=>exact fun Q s φ a w h hs=>pD (k:=0) (wpIn_skip ⟨.normal,s,φ,h,hs,trivial⟩)
 |scope x ih=>exact fun Q s φ a w h hs=>yr (ih Q s φ a w h hs) (fun l a w ⟨xx,s',aI,hq,j7,hm⟩=>by cases xx<;>exact hm)
 |label l=>exact fun Q s φ a w h hs=>pD (k:=0) (wpIn_label ⟨.normal,s,φ,h,hs,trivial⟩)
 |exit id=>exact fun Q s φ a w h hs=>Cd ⟨.exit id,s,φ,h,hs,rfl⟩
 |ret=>exact fun Q s φ a w h hs=>Gf ⟨.ret,s,φ,h,hs,trivial⟩
 |goto l=>exact fun Q s φ a w h hs=>h.elim
 |refuse y=>exact fun Q s φ a w h hs=>h.elim
 |rangeFunc g ps x y=>
  intro Q s φ a w h hs
  obtain⟨h1,s',hle,h2⟩:=h
  rcases hle with rfl|hle
  ·exact yx hs h1 (uv h1) h2
  ·obtain⟨aI,j7⟩:=Et hb hs hle
   exact yx j7 h1 (uv h1) h2
 |region id ops draw=>
  intro Q s φ a w h hs
  cases draw with
  |true=>exact pD (h M cL H0 w0 cx φ a w ro 0 hs)
  |false=>
   refine pD (k:=0) (wpIn_region_list (pC (K:=Q .normal) (X:=fun v s=>Q (.bL v) s) (fun s φ a w hk hs=>⟨.normal,s,φ,hk,hs,trivial⟩) (fun v s φ a w val hx hs hd=>⟨.bL v,s,φ,hx,hs,val,rfl,hd⟩) _ s φ a w h hs))
 |seq x y N0 N1=>
  intro Q s φ a w h hs
  refine z8 (gP (N0 _ s φ a w h hs) ?_)
  rintro e a' w' ⟨xx,s',aI,hq,j7,hm⟩
  cases e<;>cases xx<;>first|(exact hm.elim)|skip
  ·exact N1 Q s' aI a' w' hq j7
  ·subst hm;exact⟨_,s',aI,hq,j7,rfl⟩
  ·exact JQ
  ·exact JV
 |cond c x y N0 N1=>
  intro Q s φ a w h hs
  simp only[jd]at h
  have hc:=m7 (M:=M) (φ:=φ) (H:=s.H) (w:=w) s a hs.env c
  split at h
  ·rename_i t hv
   rw[hv]at hc
   simp only[V.den,D.den]at hc
   cases t with
   |true=>exact qE hc (N0 Q s φ a w (h.1 rfl) hs)
   |false=>exact qE hc (N1 Q s φ a w (h.2 rfl) hs)
  ·rename_i hv
   rw[hv]at hc
   obtain⟨t,hc⟩:=hc
   cases t with
   |true=>exact qE hc (N0 Q s φ a w h.1 hs)
   |false=>exact qE hc (N1 Q s φ a w h.2 hs)
  ·exact h.elim
 |block id x ih=>
  intro Q s φ a w h hs
  refine H5 (gP (ih _ s φ a w h hs) ?_)
  rintro e a' w' ⟨xx,s',aI,hq,j7,hm⟩
  cases e<;>cases xx<;>first|(exact hm.elim)|skip
  ·exact⟨.normal,s',aI,hq,j7,trivial⟩
  ·subst hm
   simp only[Exit.inBlock]
   simp only[fF]at hq
   split
   ·rename_i he;rw[if_pos he]at hq;exact⟨.normal,s',aI,hq,j7,trivial⟩
   ·rename_i he;rw[if_neg he]at hq;exact⟨.exit _,s',aI,hq,j7,rfl⟩
  ·exact JQ
  ·exact JV
 |loop x ih=>
  intro Q s φ a w h hs
  obtain⟨J,⟨m0,s1,hle,hI⟩,vw⟩:=h
  obtain⟨iT,oJ⟩:=Et hb hs hle
  refine Aa (fun m a w=>∃s φ,J m s/\cj M cL H0 w0 n cx φ s a w) ?_ m0 a w ⟨s1,iT,hI,oJ⟩
  rintro m a w ⟨s,φ,hI,hs⟩
  refine gP (ih _ s φ a w (vw m s hI) hs) ?_
  rintro e a' w' ⟨xx,s',aI,hq,j7,hm⟩
  cases e<;>cases xx<;>first|(exact hm.elim)|skip
  ·obtain⟨m2,s2,ck,KG,hI2⟩:=hq
   obtain⟨H6,DV⟩:=Et hb j7 KG
   exact⟨m2,ck,s2,H6,hI2,DV⟩
  ·subst hm;exact⟨_,s',aI,hq,j7,rfl⟩
  ·exact JQ
  ·exact JV
def KH(tmps:Array Value)(r:ResultVar):Sem Value:=
 match r with
 | .tmp t=>pure (tmps.getD t undef)
 | .cell p t=>do loadVar t (<- asAddr (tmps.getD p undef))
theorem uw(qG:az M φ s.H w)(ew:∀i,V.den (aq M φ s.H) φ s.H w (s.env i) (a.tmps.getD i undef)):∀ (rs:List ResultVar) (vs:List V),mc P s rs=some vs->
 ∃vals,(rs.mapM (KH a.tmps)).run P w= .ok vals w/\V.aD (aq M φ s.H) φ s.H w vs vals
 |[],vs,h=>by simp[mc]at h;subst h;exact⟨[],aH,rfl⟩
 | .tmp t::rs,vs,h=>by
   simp only[mc,Option.map_eq_some_iff]at h
   obtain⟨us,h1,rfl⟩:=h
   obtain⟨vals,h2,h3⟩:=uw qG ew rs us h1
   exact⟨a.tmps.getD t undef::vals,by simp only[List.mapM_cons,KH,Sem.run_bind,Sem.run_pure,Result.andThen_ok,h2],_,_,rfl,ew t,h3⟩
 | .cell p t::rs,vs,h=>by
   simp only[mc]at h
   split at h
   ·rename_i id off hv
    split at h
    ·rename_i cs ho
     simp only[Option.bind_eq_some_iff,Option.map_eq_some_iff]at h
     obtain⟨v,h0,us,h1,rfl⟩:=h
     obtain⟨vals,h2,h3⟩:=uw qG ew rs us h1
     have hx:=ew p
     rw[hv]at hx
     obtain⟨_,hu,hp⟩:=hx
     obtain⟨k,eQ,fK⟩:=hp (by show(s.o id).cu=true;rw[ho];rfl)
     have aW:=qG.ok id
     have xS:s.H.o id= .row cs:=ho
     simp only[aR,xS]at aW
     obtain⟨b',dV,ty,g1,g2,g3,g4⟩:=aW
     rw[eQ]at g1;simp at g1;subst g1
     obtain⟨val,h4,h5⟩:=qm (P:=P) h0 ⟨k,0,none⟩ dV.toList g3 g4 (fun j u hj=>qn g2 j u mP) rfl
     rw[add_plain,Nat.zero_add]at h4
     have h6:(loadVar t ⟨k,off,none⟩).run P w= .ok val w:=by simpa[Instr.loadAt,Instr.sureAddr]using h4
     exact⟨val::vals,by simp only[List.mapM_cons,KH,fK,asAddr,Sem.run_bind,Sem.run_pure,Result.andThen_ok,h6,h2],val,vals,rfl,h5,h3⟩
    ·cases h
   ·cases h
theorem np{fn:Func}{tmps:Array Value}{vals:List Value}
 (h:(fn.results.toList.mapM (KH tmps)).run P w= .ok vals w):
 (results fn tmps).run P w= .ok (if h:vals.toArray.size=1 then vals.toArray[0]else .tuple vals.toArray) w:=by
 have e:results fn tmps=(do let vs <- fn.results.mapM (KH tmps);pure (if h:vs.size=1 then vs[0]else .tuple vs)):=by
  unfold results
  congr 2
 rw[e,Array.mapM_eq_mapM_toList]
 simp only[Sem.run_bind,Sem.run_map,h,Result.andThen_ok,Sem.run_pure]
theorem oh{us:Nat->Prop}(φ:Place)(hM:∀k,M k->k<w.heap.size):az M φ ⟨fun _=> .no,us⟩ w where
 ok id:=by simp[aR]
 fresh _ _:=rfl
 apart i j k hi:=by simp[ab.live]at hi
 ours k:=by rintro⟨id,h,_⟩;simp[ab.live]at h
 Bi:=hM
theorem H7{vals:Array Value}{m i:Nat}:(vals++Array.replicate m undef).getD i undef=(vals[i]?).getD undef:=by
 simp only[Array.getD_eq_getD_getElem?,Array.getElem?_append]
 split
 ·rfl
 ·rw[Array.getElem?_eq_none (xs:=vals) (by omega)]
  simp only[Array.getElem?_replicate]
  split<;>rfl
structure Ab (M:Nat->Prop) (cL:Place) (H0:Hp) (w0:World) (φ:Place) (s:S) (tmps:Array Value) (w:World):Prop where
 heap:az M φ s.H w
 tr:Trans cL H0 w0 φ s.H w
 env:∀i,V.den (aq M φ s.H) φ s.H w (s.env i) (tmps.getD i undef)
theorem H8{tmps:Array Value}(hs:Ab M cL H0 w0 φ s tmps w){r:Nat}(h1:w0.heap.size<=r)(h2:w.heap[r]? =some (.deferred (some [])))(h3: ¬cD φ s.H r):
 Ab M cL H0 w0 φ s tmps {w with heap:=w.heap.setIfInBounds r (.deferred none)}:=by
 have jo:∀b,b≠r->(w.heap.setIfInBounds r (.deferred none))[b]? =w.heap[b]? :=fun b hb=>(MapKept.heap_set h2).2 b hb
 have u7:∀b,cY w b-> ¬aq M φ s.H b->(w.heap.setIfInBounds r (.deferred none))[b]? =w.heap[b]? /\ ¬aq M φ s.H b:=by
  intro b hc hn
  refine⟨jo b fun e=> ?_,hn⟩
  subst e
  rcases hc with⟨cs,ty,fz,hc⟩|⟨es,clock,hc⟩
  ·rw[h2]at hc;cases hc
  ·rw[h2]at hc;cases hc
 refine⟨⟨fun id=> ?_,hs.heap.fresh,hs.heap.apart,fun b hb=>⟨(hs.heap.ours b hb).1,by simpa using(hs.heap.ours b hb).2⟩,fun b hb=>by simpa using hs.heap.Bi b hb⟩,⟨⟨hs.tr.cG.os,hs.tr.cG.tape,hs.tr.cG.output,by simpa using hs.tr.cG.size,fun j hj hm=> ?_⟩,hs.tr.grow,hs.tr.rel⟩,fun i=>V.lz u7 (dW.refl _ _) _ _ (hs.env i)⟩
 ·exact aR.BM u7 (dW.refl _ _) rfl rfl (fun hl b hb=>jo b fun e=>h3 ⟨id,hl,e ▸ hb⟩) (hs.heap.ok id)
 ·rw[jo j (by omega)];exact hs.tr.cG.block j hj hm
theorem gQ{fn:Func}{R:Ending->World->Prop}{u:FrameMode}(hu:u≠ .run){tmps tb:Array Value}{ds:List Deferred}(hR:∀w,Ab M cL H0 w0 φ s tb w->LeavesInM (dR none) k P fn tmps R ds u w):
 ∀ (ms:List Nat) (w:World),ms.Nodup->(∀r∈ms,w0.heap.size<=r/\w.heap[r]? =some (.deferred (some []))/\ ¬cD φ s.H r)->Ab M cL H0 w0 φ s tb w->LeavesInM (dR none) k P fn tmps R (ms.map mark++ds) u w
 |[],w,_,_,hs=>hR w hs
 |r::ms,w,hn,hm,hs=>by
  obtain⟨h1,h2,h3⟩:=hm r aH
  obtain⟨Rb,M6⟩:=List.nodup_cons.1 hn
  refine⟨hu, .inl ⟨r,{w with heap:=w.heap.setIfInBounds r (.deferred none)},rfl, ?_,gQ hu hR ms _ M6 (fun r' HX=> ?_) (H8 hs h1 h2 h3)⟩⟩
  ·simp[Instr.takeDeferred,getObj,setObj,Sem.run,h2,Result.andThen]
  ·obtain⟨g1,g2,g3⟩:=hm r' (by simp[HX])
   exact⟨g1,((MapKept.heap_set h2).2 r' (fun e=>Rb (e ▸ HX))).trans g2,g3⟩
theorem cj.toB (hs:cj M cL H0 w0 n cx φ s a w):Ab M cL H0 w0 φ s a.tmps w:=⟨hs.heap,hs.tr,hs.env⟩
def mf(P:Program)(rs:List ResultVar)(K X:V->(Nat->ab)->Nat->Prop)(e:fL)(s:S):Prop:=
 match e with
 | .normal| .ret=>match mc P s rs with
   |some [v]=>K v s.o s.nx
   |some vs=>K (.bS vs) s.o s.nx
   |none=>False
 | .bL v=>X v s.o s.nx
 | .exit _=>False
theorem Cg{P:Program}{rs:List ResultVar}{K X:V->(Nat->ab)->Nat->Prop}{s:S}(h:mf P rs K X .ret s):∃vs,mc P s rs=some vs/\K (match vs with|[v]=>v|vs=> .bS vs) s.o s.nx:=by
 unfold mf at h
 simp only at h
 split at h
 ·rename_i v h1;exact⟨[v],h1,h⟩
 ·rename_i vs h1 h2
  refine⟨vs,h2, ?_⟩
  split
  ·exact absurd rfl (h1 _)
  ·exact h
 ·exact h.elim
theorem Ch:∀ {vs:List V} {vals:List Value},V.aD (aq M φ H) φ H w vs vals->V.den (aq M φ H) φ H w (match vs with|[v]=>v|vs=> .bS vs) (if h:vals.toArray.size=1 then vals.toArray[0]else .tuple vals.toArray)
 |[],vals,h=>by simp only[V.aD]at h;subst h;exact⟨#[],rfl,rfl⟩
 |[v],vals,h=>by obtain⟨u,us,rfl,h1,h2⟩:=h;simp only[V.aD]at h2;subst h2;exact h1
 |v::y::l,vals,h=>by
  have h':=h
  obtain⟨u,us,rfl,h1,u2,us2,rfl,h2⟩:=h
  exact⟨(u::u2::us2).toArray,aH,by simpa using h'⟩
theorem BD{vals:Array Value}{m:Nat}{vs:List V}(hd:V.aD (aq M φ H) φ H w vs vals.toList)(i:Nat):V.den (aq M φ H) φ H w (cw vs i) ((vals++Array.replicate m undef).getD i undef):=by
 have hlen:=V.aB _ _ hd
 simp only[cw,H7]
 cases hx:vs[i]? with
 |none=>
  have:vals[i]? =none:=by
   rw[List.getElem?_eq_none_iff]at hx
   apply Array.getElem?_eq_none
   simp at hlen;omega
  simp only[List.getD_eq_getElem?_getD,hx,this]
  exact⟨#[],rfl,rfl⟩
 |some v=>
  obtain⟨u,hu,NJ⟩:=V.dp _ _ _ _ hd hx
  have Bw:vals[i]? =some u:=by simpa using hu
  simp only[List.getD_eq_getElem?_getD,hx,Bw,Option.getD_some]
  exact NJ
theorem nq{f:FuncId}{fn:Func}{c:Code}{args:Array Value}{w:World}{R:Ending->World->Prop}(hf:P.funcs[f]? =some fn)(hb:fn.body=some c)
 (h:c.tW P none (bodyPostM (dR none) k P fn R) {tmps:=args++Array.replicate (fn.ntmps - args.size) undef,defers:=[]} w):CallsIn (dR none) k P f args w R:=by
 have ck:f<P.funcs.size:=(Array.getElem?_eq_some_iff.1 hf).1
 refine⟨trivial,fun cs hr=> ?_⟩
 let b:Frame:={(default:Frame)with fn:=f,kind:= .normal,roundOf:=none}
 have me:Frame.enter P f args .normal=b.atR {tmps:=args++Array.replicate (fn.ntmps - args.size) undef,defers:=[]} [.code c]:=by
  simp[Frame.enter,Frame.atR,hf,hb,b]
 obtain⟨e,a',w',hq,dn⟩:=h b [] cs rfl ck
 rw[<- me]at dn
 cases e with
 |normal=>
  obtain⟨e',Tx,fr',hR,hs,Jh,hl⟩:=leaves_stepsInM a'.defers .returning w' {b.atR a' []with mode:= .returning} cs rfl rfl rfl hf rfl (trivial:(dR none).fn f) hr hq
  exact⟨e',Tx,fr',hR,ComesIn.of_steps (StepsIn.trans dn (.one (fenced_calm (n:=0) (fr:=b.atR a' []) trivial gO rfl) (stepR_end rfl))) hs,Jh,hl⟩
 |ret=>
  obtain⟨todo,Qs⟩:=dn.1 rfl
  obtain⟨e',Tx,fr',hR,hs,Jh,hl⟩:=leaves_stepsInM a'.defers .returning w' {b.atR a' todo with mode:= .returning} cs rfl rfl rfl hf rfl (trivial:(dR none).fn f) hr hq
  exact Qr
 |panic chain=>
  obtain⟨todo,Qs⟩:=dn
  obtain⟨e',Tx,fr',hR,hs,Jh,hl⟩:=leaves_stepsInM a'.defers (.panicking chain) w' {b.atR a' todo with mode:= .panicking chain} cs rfl rfl rfl hf rfl (trivial:(dR none).fn f) hr hq
  exact Qr
 |exit id=>exact hq.elim
 |goto l=>exact hq.elim
 |outgrown=>exact⟨.outgrown,w',b,hq,dn.resolve_left (by simp[b]),rfl,trivial⟩
def Ev(P:Program)(l:Nat)(R:Ending->World->Prop):Exit->Act->World->Prop
 | .normal,_,w=>∃v w',(Instr.endRound l none).run P w= .ok v w'/\R (.returned v) w'
 | .ret,_,w=>∃v w',(Instr.endRound l (some .ret)).run P w= .ok v w'/\R (.returned v) w'
 | .exit id,_,w=>∃v w',(Instr.endRound l (some (.exit id))).run P w= .ok v w'/\R (.returned v) w'
 | .goto _,_,_=>False
 | .panic chain,a,w=>a.defers=[]/\R (.panicked chain) w
 | .outgrown,_,_=>False
theorem vz{l:Nat}{f:FuncId}{tmps:Array Value}{assign body:Code}{w:World}{R:Ending->World->Prop}(hf:f<P.funcs.size)
 (h:assign.tW P (some l) (Exit.then (fun oG jB=>∃sj,(Instr.beginRound l).run P jB= .ok () sj/\body.tW P (some l) (Ev P l R) oG sj) (fun e a w=>match e with| .panic chain=>a.defers=[]/\R (.panicked chain) w|_=>False))
  {tmps:=tmps,defers:=[]} w):
 RoundIn Fence.wide n P l f tmps assign body w R:=by
 refine⟨trivial,fun c cs hr=> ?_⟩
 let b:Frame:={(default:Frame)with fn:=f,kind:= .normal,roundOf:=some l}
 have Z3:Frame.round l f tmps assign body .normal=b.atR {tmps:=tmps,defers:=[]} [.code assign, .beginRound, .code body]:=by
  simp[Frame.round,Frame.atR,b]
 have calm:∀ (m:Machine),m.fenced P Fence.wide:=fun m=>fenced_wide P m
 have bL:∀ {a:Act} {w:World} {todo:List Item} {chain:List PanicEntry},a.defers=[]->step P (lone {b.atR a todo with mode:= .panicking chain} (c::cs) w)= .next (lone (c.raise chain) cs w):=by
  intro a w todo chain hd
  exact step_leave_panicked (fr:={b.atR a todo with mode:= .panicking chain}) ⟨rfl,hd,P.funcs[f],by show P.funcs[f]? =_;simp[hf]⟩
 obtain⟨e,oG,jB,hq,dn⟩:=h b [.beginRound, .code body] (c::cs) rfl hf
 rw[<- Z3]at dn
 cases e with
 |normal=>
  obtain⟨sj,W2,qH⟩:=hq
  have s1:StepsIn (Machine.fenced P Fence.wide) P (lone (b.atR oG [.beginRound, .code body]) (c::cs) jB) (lone (b.atR oG [.code body]) (c::cs) sj):= .one (calm _) (stepR_beginRound rfl W2)
  obtain⟨TX,Z1,Er,qD,kz⟩:=qH b [] (c::cs) rfl hf
  have dn:StepsIn (Machine.fenced P Fence.wide) P _ _:=dn
  cases TX with
  |normal=>
   obtain⟨v,tX,eG,hR⟩:=qD
   have kz:StepsIn (Machine.fenced P Fence.wide) P _ _:=kz
   exact⟨.returned v,tX,hR,(StepsIn.trans dn s1).trans (StepsIn.trans kz (.one (calm _) (stepR_round_end rfl rfl eG)))⟩
  |ret=>
   obtain⟨v,tX,eG,hR⟩:=qD
   obtain⟨k₁,hs⟩:=kz.2 rfl
   have hs:StepsIn (Machine.fenced P Fence.wide) P _ _:=hs
   exact⟨.returned v,tX,hR,(StepsIn.trans dn s1).trans (StepsIn.trans hs (.one (calm _) (stepR_round_ret rfl rfl eG)))⟩
  |exit id=>
   obtain⟨v,tX,eG,hR⟩:=qD
   obtain⟨k₁,hk,hs⟩:=kz.2 rfl rfl
   have hs:StepsIn (Machine.fenced P Fence.wide) P _ _:=hs
   exact⟨.returned v,tX,hR,(StepsIn.trans dn s1).trans (StepsIn.trans hs (.one (calm _) (stepR_round_exit rfl rfl hk eG)))⟩
  |goto t=>exact qD.elim
  |panic chain=>
   obtain⟨todo,hs⟩:=kz
   have hs:StepsIn (Machine.fenced P Fence.wide) P _ _:=hs
   exact⟨.panicked chain,Er,qD.2,(StepsIn.trans dn s1).trans (StepsIn.trans hs (.one (calm _) (bL qD.1)))⟩
  |outgrown=>exact qD.elim
 |exit id=>exact hq.elim
 |goto t=>exact hq.elim
 |ret=>exact hq.elim
 |panic chain=>
  obtain⟨todo,hs⟩:=dn
  have hs:StepsIn (Machine.fenced P Fence.wide) P _ _:=hs
  exact⟨.panicked chain,jB,hq.2,StepsIn.trans hs (.one (calm _) (bL hq.1))⟩
 |outgrown=>exact hq.elim
theorem bZ.Gh {f:FuncId}{fn:Func}{c:Code}{args:List V}{o:Nat->ab}{nx:Nat}{K X:V->(Nat->ab)->Nat->Prop}(hf:P.funcs[f]? =some fn)(hn:(fn.name== "runtime.NumGoroutine")=false)(qH:fn.body=some c)(hl:args.length<=fn.ntmps)
 (h:jd P fn.ntmps nx false c (mf P fn.results.toList K X) ⟨cw args,o,nx⟩):bZ P f args o nx K X:=by
 refine⟨⟨fn,hf,hn,by rw[qH];rfl⟩,fun M φ w vals hH hd=> ?_⟩
 have hlen:=V.aB _ _ hd
 let s0:S:=⟨cw args,o,nx⟩
 let a0:Act:={tmps:=vals++Array.replicate (fn.ntmps - vals.size) undef,defers:=[]}
 have pE:cj M φ (hp o nx) w fn.ntmps ⟨[],false⟩ φ s0 a0 w:=by
  exact Zt
 refine B9 (ro:=none) (k:=0) (nq hf qH (gP (ij (P:=P) (H0:=hp o nx) (b:=nx) (cx:=⟨[],false⟩) (ro:=none) (fun id hu=>hu) (fun _=>rfl) c _ s0 φ a0 w h pE) ?_))
 rintro e a w' ⟨x,s,aI,hq,hs,hm⟩
 obtain⟨ms,g1,g2,g3,g4⟩:=hs.defers
 rw[List.append_nil]at g1
 have done:(x= .normal\/x= .ret)->LeavesInM (dR none) 0 P fn a.tmps (ni M φ (hp o nx) w K X) a.defers .returning w':=by
  intro hx
  have hq':mf P fn.results.toList K X .ret s:=by rcases hx with rfl|rfl<;>exact hq
  obtain⟨vs,h1,h2⟩:=Cg hq'
  rw[g1]
  have:=gQ (P:=P) (k:=0) (fn:=fn) (R:=ni M φ (hp o nx) w K X) (u:= .returning) aH (ds:=[]) (fun w2 hb=>by
   obtain⟨vals,h3,h4⟩:=uw (P:=P) (a:=a) hb.heap hb.env _ _ h1
   exact⟨_,np h3,aI,s.o,s.nx,_,hb.heap,hb.tr,Ch h4,h2⟩) ms w' g2 g4 hs.toB
  rwa [List.append_nil]at this
 cases e<;>cases x<;>first|(exact hm.elim)|skip
 ·exact done (.inl rfl)
 ·exact hq.elim
 ·exact done (.inr rfl)
 ·rename_i v
  obtain⟨val,rfl,N2⟩:=hm
  show LeavesInM (dR none) 0 P fn a.tmps (ni M φ (hp o nx) w K X) a.defers _ w'
  rw[g1]
  have Z3:Ab M φ (hp o nx) w aI ⟨fun i=>if i=0 then v else .ad,s.o,s.nx⟩ #[val] w':=⟨hs.heap,hs.tr,fun i=>by
   by_cases hi:i=0
   ·subst hi;exact N2
   ·simp only[hi,if_false];trivial⟩
  have:=gQ (P:=P) (k:=0) (fn:=fn) (s:=⟨fun i=>if i=0 then v else .ad,s.o,s.nx⟩) (tmps:=a.tmps) (tb:=#[val]) (cL:=φ) (H0:=hp o nx) (w0:=w) (R:=ni M φ (hp o nx) w K X) (u:= .panicking [{v:=val,recovered:=false}]) aH (ds:=[]) (fun w2 hb=>by
   have h0:=hb.env 0
   exact⟨aI,s.o,s.nx,v,hb.heap,hb.tr,val,rfl,h0,hq⟩) ms w' g2 g4 Z3
  rwa [List.append_nil]at this
theorem aV.kM {f:FuncId}{ds:List D}{out:R}(h:bZ P f (ds.map .d) (fun _=> .no) 0 (fun v o _=>∃vs rs,v=(match vs with|[v]=>v|vs=> .bS vs)/\cf o vs=some rs/\out= .ret rs) (fun v o _=>∃x,dQ o v=some x/\out= .bL x)):aV P f ds out:=by
 refine⟨h.1,fun M w vals hM hd=> ?_⟩
 let cL:Place:=fun _=> .nilFunc
 have tY:∀b, ¬cD cL (hp (fun _=> .no) 0) b:=by rintro b ⟨id,hl,_⟩;simp[hp,ab.live]at hl
 refine(h.2 M cL w vals (oh cL hM) ((V.cH _ _).2 (D.aU (w:=w) (w':=w) (B:=M) (fun b _ hB=>⟨rfl,fun h=>h.elim hB (tY b)⟩) _ _ hd))).mono ?_
 rintro e w' ⟨aI,o',nx',v,k1,k2,k3⟩
 have Gi:eo (fun _=>False) w w':=⟨k2.cG.os,k2.cG.tape,k2.cG.output,k2.cG.size,fun k hk _=>k2.cG.block k hk (tY k)⟩
 have fin:∀ (vs:List V) (xs:List D) (vals:List Value),cf o' vs=some xs->V.aD (aq M aI (hp o' nx')) aI (hp o' nx') w' vs vals->D.aD M w' xs vals:=by
  intro vs xs vals h1 h2
  obtain⟨f1,f2,f3,f4,f5⟩:=cU k1 (V.bp vs) (c7 vs _ h2)
  have h3:=dt f1 vs xs vals f3 h1 (V.aU f2 _ _ h2)
  exact D.aU (w:=w') (w':=w') (fun k _ hB=>⟨rfl,fun hM=>hB (.inl hM)⟩) xs vals h3
 refine⟨Gi, ?_⟩
 cases e with
 |outgrown=>exact k3.elim
 |panicked ch=>
  obtain⟨val,rfl,g1,x,g2,rfl⟩:=k3
  have:=fin [v] [x] [val] (by simp[cf,g2]) ⟨val,[],rfl,g1,rfl⟩
  obtain⟨u,us,he,h2,_⟩:=this
  simp at he;obtain⟨rfl,rfl⟩:=he
  exact⟨val,rfl,h2⟩
 |returned val=>
  obtain⟨g1,vs,rs,rfl,g2,rfl⟩:=k3
  match vs,g1,g2 with
  |[],g1,g2=>
   obtain⟨arr,rfl,hv⟩:=g1
   simp only[cf,Option.some.injEq]at g2;subst g2
   exact⟨arr,rfl,hv⟩
  |[v],g1,g2=>
   have:=fin [v] rs [val] g2 ⟨val,[],rfl,g1,rfl⟩
   cases rs with
   |nil=>cases this
   |cons x l=>
    obtain⟨u,us,he,h2,h3⟩:=this
    simp at he;obtain⟨rfl,rfl⟩:=he
    cases l with
    |nil=>exact h2
    |cons y l=>obtain⟨_,_,h,_⟩:=h3;cases h
  |v::v2::l,g1,g2=>
   obtain⟨arr,rfl,h⟩:=g1
   have:=fin (v::v2::l) rs arr.toList g2 h
   have hl:=D.aB _ _ this
   have Y8:=V.aB _ _ h
   match rs,hl,this with
   |[],hl,_=>exact FL
   |[x],hl,_=>exact FL
   |x::y::l,_,this=>exact⟨arr,rfl,this⟩
theorem H9{rs:List ResultVar}{out:R}(e:fL)(s:S)(h:zY P rs out e s):
 mf P rs (fun v o _=>∃vs rs,v=(match vs with|[v]=>v|vs=> .bS vs)/\cf o vs=some rs/\out= .ret rs) (fun v o _=>∃x,dQ o v=some x/\out= .bL x) e s:=by
 have ret:zY P rs out .ret s->mf P rs (fun v o _=>∃vs rs,v=(match vs with|[v]=>v|vs=> .bS vs)/\cf o vs=some rs/\out= .ret rs) (fun v o _=>∃x,dQ o v=some x/\out= .bL x) .ret s:=by
  intro h
  obtain⟨vs,xs,h1,h2,h3⟩:=Kw h
  simp only[mf,h1]
  match vs,h2 with
  |[],h2=>exact⟨[],xs,rfl,h2,h3⟩
  |[v],h2=>exact⟨[v],xs,rfl,h2,h3⟩
  |v::v2::l,h2=>exact⟨v::v2::l,xs,rfl,h2,h3⟩
 cases e with
 |normal=>exact ret h
 |ret=>exact ret h
 |exit id=>exact h.elim
 |bL v=>exact Kx h
end
end
section
def KI{α:Type}(c:Bool)(x:α):Option α:=if c=true then some x else none
def one(v:V):Option fX:=some (v,[],[])
def Ci(op:BinOp)(k:IntKind)(a b:Int):Option V:=
 match op with
 | .add=>some (.d (.int k (k.wrap (a+b))))
 | .sub=>some (.d (.int k (k.wrap (a - b))))
 | .mul=>some (.d (.int k (k.wrap (a*b))))
 | .quo=>if b=0 then none else some (.d (.int k (k.wrap (a.tdiv b))))
 | .rem=>if b=0 then none else some (.d (.int k (a.tmod b)))
 | .and=>(uX .and k a b).map fun r=> .d (.int k r)
 | .or=>(uX .or k a b).map fun r=> .d (.int k r)
 | .xor=>(uX .xor k a b).map fun r=> .d (.int k r)
 | .andNot=>(uX .andNot k a b).map fun r=> .d (.int k r)
 | .eql=>some (.d (.bool (a==b)))| .neq=>some (.d (.bool (a !=b)))| .lss=>some (.d (.bool (decide (a<b))))| .leq=>some (.d (.bool (decide (a<=b))))
 | .gtr=>some (.d (.bool (decide (b<a))))| .geq=>some (.d (.bool (decide (b<=a))))
 |_=>none
def oi(P:Program)(t:TypeId):Bool:=
 match P.underlying t with
 |some .bool=>true
 |_=>false
def Ac(P:Program)(op:BinOp)(t:TypeId)(x y:V):Option V:=
 match x,y with
 | .d (.int k a), .d (.int k' b)=>if k=k' then Ci op k a b else none
 | .d (.bool a), .d (.bool b)=>match op with
   | .eql=>KI (oi P t) (.d (.bool (a==b)))
   | .neq=>KI (oi P t) (.d (.bool (a !=b)))
   |_=>none
 | .d (.str a), .d (.str b)=>match op with
   | .eql=>some (.d (.bool (a==b)))
   | .neq=>some (.d (.bool (a !=b)))
   |_=>none
 |_,_=>none
def unF(op:UnOp)(x:V):Option V:=
 match op,x with
 | .neg, .d (.int k n)=>some (.d (.int k (k.wrap (-n))))
 | .not, .d (.bool b)=>some (.d (.bool !b))
 |_,_=>none
def qI(c a b:V):Option V:=
 match c with
 | .d (.bool true)=>some a
 | .d (.bool false)=>some b
 |_=>none
def qJ(o:Nat->ab)(x:V):Option (List D×List Nat):=
 match x with
 | .d (.sl es)=>some (es,[])
 | .ax=>some ([],[])
 | .oV es=>some (es,[])
 | .osl id ep=>match o id with
   | .arr fW _ _ es=>if ep=fW then some (es,[id])else none
   | .uo fW es=>if ep=fW then some (es,[id])else none
   |_=>none
 |_=>none
def Ew(P:Program)(t:TypeId)(o:Nat->ab)(x:V):Option fX:=
 match P.underlying t with
 |some (.slice _)=>match qJ o x with
  |some (es,rd)=>some (.d (.int .i64 es.length),[],rd)
  |none=>none
 |some .string=>match x with
  | .d (.str s)=>one (.d (.int .i64 s.length))
  |_=>none
 |some (.array n _)=>one (.d (.int .i64 n))
 |_=>none
def yy(P:Program)(e:TypeId)(es:List D)(i:Int)(rd:List Nat):Option fX:=
 if 0<=i then match es[i.toNat]? with
  |some y=>KI (y.cells.length==P.cellsOf e&&0<P.cellsOf e) (.pp y.cells 0,[],rd)
  |none=>none
 else none
def pb(o:Nat->ab)(x:V)(q:Nat):Option V:=
 match x with
 | .ptr id off=>KI (o id).cu (.ptr id (off+q))
 | .pp cs off=>some (.pp cs (off+q))
 | .pe id ep j sz off=>if(o id).ct=some ep then some (.pe id ep j sz (off+q))else none
 |_=>none
def ik(P:Program)(o:Nat->ab)(t:TypeId)(x ix:V):Option fX:=
 match ix with
 | .d (.int _ i)=>match b8 P t with
   |some e=>match x with
    | .d (.sl es)=>yy P e es i []
    | .oV es=>yy P e es i []
    | .osl id ep=>match o id with
      | .arr fW _ sz es=>if ep=fW/\0<=i/\i.toNat<es.length/\sz=P.cellsOf e/\0<P.cellsOf e then some (.pe id ep i.toNat sz 0,[],[id])else none
      | .uo fW es=>if ep=fW then yy P e es i [id]else none
      |_=>none
    |_=>none
   |none=>match zJ P t with
    |some (n,e)=>if 0<=i/\i<n/\(P.info? e).isSome=true then(pb o x (i.toNat*P.cellsOf e)).bind one else none
    |none=>none
 |_=>none
def il(P:Program)(o:Nat->ab)(t:TypeId)(x:V)(f:Nat):Option V:=
 match cg P t f with
 |some q=>pb o x q
 |none=>none
def nr(P:Program)(o:Nat->ab)(t:TypeId)(x:V):Option fX:=
 match x with
 | .ptr id off=>match o id with
   | .row cs=>match eU P t cs off with
     |some v=>some (v,[],[id])
     |none=>none
   |_=>none
 | .pp cs off=>match eU P t (cs.map .d) off with
   |some v=>some (v,[],[])
   |none=>none
 | .pe id ep i sz off=>match o id with
   | .arr fW _ rH es=>if ep=fW/\sz=rH then match es[i]? with
    |some e=>match eU P t (e.cells.map .d) off with
     |some v=>some (v,[],[id])
     |none=>none
    |none=>none
     else none
   |_=>none
 |_=>none
def sn(P:Program)(o:Nat->ab)(t:TypeId)(x v:V):Option fX:=
 match x with
 | .ptr id off=>match o id with
   | .row cs=>match zK P t cs off v with
     |some cs'=>some (.bS [],[(id, .row cs')],[id])
     |none=>none
   |_=>none
 | .pe id ep i rH off=>match o id with
   | .arr fW ty sz es=>if ep=fW/\rH=sz then match es[i]?,dQ o v with
    |some e,some y=>if y.cells.length=P.cellsOf t/\0<y.cells.length/\v.ids.all (· !=id)=true then match e.put off y.cells with
     |some e'=>some (.bS [],bE o v.ids++[(id, .arr ep ty sz (es.set i e'))],id::v.ids)
     |none=>none
     else none
    |_,_=>none
     else none
   |_=>none
 |_=>none
def gu(P:Program)(o:Nat->ab)(fr:Nat)(t:TypeId)(len:Nat)(parts:List (Nat×V)):Option fX:=
 match b8 P t with
 |some e=>if len=0/\parts.isEmpty=true/\0<P.cellsOf e then some (.osl fr 0,[(fr, .arr 0 e (P.cellsOf e) [])],[])else if parts.map (·.1)=List.range len/\(cE P e).isSome=true/\0<len/\0<P.cellsOf e/\len*P.cellsOf e<=2^24 then match cf o (parts.map (·.2))with
  |some ds=>if ds.all (fun x=>x.cells.length==P.cellsOf e)=true then some (.osl fr 0,bE o (V.bp (parts.map (·.2)))++[(fr, .arr 0 e (P.cellsOf e) ds)],V.bp (parts.map (·.2)))else none
  |none=>none
  else none
 |none=>none
def mg(P:Program)(fr:Nat)(t:TypeId)(l c:V):Option fX:=
 match b8 P t with
 |some e=>match l,c with
  | .d (.int _ n), .d (.int _ m)=>if n=m/\0<=n/\0<P.cellsOf e/\P.bytesOf e*n.toNat<=2^47/\n.toNat<=2^47 then match BH P e with
   |some x=>some (.osl fr 0,[(fr, .arr 0 e (P.cellsOf e) (List.replicate n.toNat x))],[])
   |none=>none
    else none
  |_,_=>none
 |none=>none
def qK(P:Program)(o:Nat->ab)(fr:Nat)(ts:Array TypeId)(x y:V):Option fX:=
 match ts.toList with
 |[t,t']=>if t=t' then match b8 P t,qJ o y with
    |some e,some (new,rd)=>if 0<P.cellsOf e/\(cE P e).isSome=true/\new.all (fun z=>z.cells.length==P.cellsOf e)=true then match x with
     | .ax=>if new.length<=2^47/\new.length*P.bytesOf e<=2^47 then some (.osl fr 0,[(fr, .arr 0 e (P.cellsOf e) new)],rd)else none
     | .oV es=>if es.all (fun z=>z.cells.length==P.cellsOf e)=true then(if new=[]then some (.oV es,[],rd)else if es.length+new.length<=2^40/\(es.length+new.length)*P.bytesOf e<=2^40 then some (.osl fr 0,[(fr, .arr 0 e (P.cellsOf e) (es++new))],rd)else none)else none
     | .osl id ep=>match o id with
       | .arr fW ty sz es=>if ep=fW/\ty=e/\sz=P.cellsOf e/\es.length+new.length<=2^47/\(es.length+new.length)*P.bytesOf e<=2^47 then
        some (.osl id (ep+1),[(id, .arr (ep+1) ty sz (es++new))],id::rd)else none
       |_=>none
     |_=>none
     else none
    |_,_=>none
  else none
 |_=>none
def qL(isMax:Bool)(x y:V):Option V:=
 match x,y with
 | .d (.int k a), .d (.int k' b)=>if k=k' then some (.d (.int k (if isMax then(if b>a then b else a)else(if b<a then b else a))))else none
 |_,_=>none
def mh(x:Option V):Option fX:=match x with|some v=>one v|none=>none
def qM(P:Program)(s:S)(fr:Nat)(b:Builtin)(args:List Operand)(ts:Array TypeId):Option fX:=
 match b,args with
 | .len,[x]=>match ts.toList with
   |[t]=>Ew P t s.o (s.ev x)
   |_=>none
 | .append,[x,y]=>match x8 P fr ts (s.ev x) (s.ev y)with
   |some r=>some r
   |none=>qK P s.o fr ts (s.ev x) (s.ev y)
 | .max,[x,y]=>mh (qL true (s.ev x) (s.ev y))
 | .min,[x,y]=>mh (qL false (s.ev x) (s.ev y))
 | .max,[x,y,z]=>mh (J9 (s.ev x) (s.ev y) (s.ev z))
 | .copy,[x,y]=>x7 P s.o ts (s.ev x) (s.ev y)
 | .delete,[x,y]=>match ts.toList.head? with
   |some t=>od P s.o t (s.ev x) (s.ev y)
   |none=>none
 | .cap,[x]=>NF P ts (s.ev x)
 |_,_=>none
def Ad(P:Program)(t:TypeId)(parts:List (Nat×V)):Option V:=
 match cE P t,cR P t with
 |some z,some pl=>match tf pl z parts with
  |some cs=>some (mD cs)
  |none=>none
 |_,_=>none
def jq(o:Nat->ab)(x:V):Option V:=
 match x with
 | .ptr id off=>KI (o id).cu (.ptr id off)
 | .pp cs off=>some (.pp cs off)
 | .func (.func f) first cap=>some (.func (.func f) first cap)
 |_=>none
def mi(P:Program)(t:TypeId):Bool:=
 match P.underlying t with
 |some (.interface _)=>false
 |some _=>true
 |none=>false
def KJ(P:Program)(t:TypeId)(x:V):Option V:=
 KI (mi P t) (match x with
  | .d y=> .d (.iface t y)
  |v=> .iface t v)
def fw(P:Program)(o:Nat->ab)(op:BinOp)(t:TypeId)(mW:Bool)(x y:V):Option fX:=
 match Ac P op t x y with
 |some v=>one v
 |none=>rZ P o op t mW x y
def Hy(op:UnOp)(x:V):Option V:=
 match op,x with
 | .not, .fC=>some .fC
 |op,x=>unF op x
def gG(P:Program)(s:S)(fr:Nat)(op:Op):Option fX:=
 match op with
 | .move x=>one (s.ev x)
 | .assign x=>one (s.ev x)
 | .pick c a b=>mh (qI (s.ev c) (s.ev a) (s.ev b))
 | .alloc t=>match cE P t with
   |some cs=>some (.ptr fr 0,[(fr, .row cs)],[])
   |none=>none
 | .box _ x=>match(s.ev x).cells with
   |some cs=>some (.ptr fr 0,[(fr, .row cs)],[])
   |none=>none
 | .build t parts=>mh (Ad P t (parts.toList.map fun p=>(p.1,s.ev p.2)))
 | .buildSlice t len parts=>gu P s.o fr t len (parts.toList.map fun p=>(p.1,s.ev p.2))
 | .load t x=>nr P s.o t (s.ev x)
 | .store t x v=>sn P s.o t (s.ev x) (s.ev v)
 | .nilCheck x=>mh (jq s.o (s.ev x))
 | .binOp op t x y _=>fw P s.o op t (isConst x||isConst y) (s.ev x) (s.ev y)
 | .unOp op _ x=>mh (Hy op (s.ev x))
 | .convert u t x=>match P.underlying u,qf P t,s.ev x with
   |some _,some k, .d (.int _ n)=>one (.d (.int k (k.wrap n)))
   |_,_,_=>none
 | .makeInterface t x=>mh (KJ P t (s.ev x))
 | .makeFunc fn first cap=>one (.func fn (first.toList.map s.ev) (cap.toList.map s.ev))
 | .makeSlice t l c=>mg P fr t (s.ev l) (s.ev c)
 | .fieldAddr t x f=>mh (il P s.o t (s.ev x) f)
 | .indexAddr t x i=>ik P s.o t (s.ev x) (s.ev i)
 | .extract x i=>match s.ev x with
   | .bS vs=>match vs[i]? with
     |some v=>one v
     |none=>none
   |_=>none
 | .call c=>match c.callee with
   | .builtin b=>qM P s fr b c.args.toList c.argTypes
   |_=>none
 | .slice t x lo hi mx=>rW P s.o t (s.ev x) (lo.map s.ev) (hi.map s.ev) (mx.map s.ev)
 | .field t x f=>mh (uZ P t (s.ev x) f)
 | .index t x i=>mh (u0 P t (s.ev x) (s.ev i))
 | .typeAssert x _ t ok=>mh (qi P t ok (s.ev x))
 | .makeMap t none=>mX P fr t
 | .lookup t m k ok=>jk P s.o t (s.ev m) (s.ev k) ok
 | .mapUpdate t m k v=>fQ P s.o t (s.ev m) (s.ev k) (s.ev v)
 | .insert t m k v=>fQ P s.o t (s.ev m) (s.ev k) (s.ev v)
 | .range t x=>mY P s.o fr t (s.ev x)
 | .next x str=>o6 s.o (s.ev x) str
 | .entry x=>mZ s.o (s.ev x)
 |_=>none
section
variable {P:Program}{s:S}{fr:Nat}{v:V}{Δ:List (Nat×ab)}{rd:List Nat}{o:Nat->ab}{K:V->List (Nat×ab)->List Nat->Prop}
theorem sq{α:Type}{c:Bool}{x y:α}(h:KI c x=some y):c=true/\x=y:=by
 unfold KI at h;split at h
 ·injection h with h;exact⟨by assumption,h⟩
 ·cases h
theorem kN{x:V}{r:fX}(h:one x=some r):r=(x,[],[]):=by unfold one at h;injection h with h;exact h.symm
theorem jj{x:Option V}{r:fX}(h:mh x=some r):∃v,x=some v/\r=(v,[],[]):=by
 unfold mh at h;split at h
 ·exact⟨_,rfl,kN h⟩
 ·cases h
theorem Ex{x:V}{es:List D}{rd:List Nat}(h:qJ o x=some (es,rd)):eV o x=some es/\rd=x.ids:=by
 unfold qJ at h
 split at h
 ·exact JJ
 ·exact JJ
 ·exact JJ
 ·split at h
  ·rename_i ho
   split at h
   ·rename_i e;simp at h;obtain⟨rfl,rfl⟩:=h;exact⟨by simp[eV,dQ,ho,e],rfl⟩
   ·cases h
  ·rename_i ho
   split at h
   ·rename_i e;simp at h;obtain⟨rfl,rfl⟩:=h;exact⟨by simp[eV,dQ,ho,e],rfl⟩
   ·cases h
  ·cases h
 ·cases h
theorem Ia{op:BinOp}{k:IntKind}{a b:Int}{v:V}(h:Ci op k a b=some v){K:V->Prop}(hK:K v):NB op k a b K:=by
 cases op<;>simp only[Ci]at h<;>simp only[NB]
 case quo=>split at h
           ·cases h
           ·exact Tw
 case rem=>split at h
           ·cases h
           ·exact Tw
 case and=>simp only[Option.map_eq_some_iff]at h;obtain⟨r,h1,rfl⟩:=h;exact⟨r,h1,hK⟩
 case or=>simp only[Option.map_eq_some_iff]at h;obtain⟨r,h1,rfl⟩:=h;exact⟨r,h1,hK⟩
 case xor=>simp only[Option.map_eq_some_iff]at h;obtain⟨r,h1,rfl⟩:=h;exact⟨r,h1,hK⟩
 case andNot=>simp only[Option.map_eq_some_iff]at h;obtain⟨r,h1,rfl⟩:=h;exact⟨r,h1,hK⟩
 case shl=>cases h
 case shr=>cases h
 case eql=>injection h with h;subst h;exact⟨_,rfl,hK⟩
 case neq=>injection h with h;subst h;exact⟨_,rfl,hK⟩
 case lss=>injection h with h;subst h;exact⟨_,rfl,hK⟩
 case leq=>injection h with h;subst h;exact⟨_,rfl,hK⟩
 case gtr=>injection h with h;subst h;exact⟨_,rfl,hK⟩
 case geq=>injection h with h;subst h;exact⟨_,rfl,hK⟩
 all_goals (injection h with h;subst h;exact hK)
theorem Ib{op:BinOp}{t:TypeId}{x y v:V}(h:Ac P op t x y=some v){K:V->Prop}(hK:K v):J7 P op t x y K:=by
 unfold Ac at h
 unfold J7
 split at h
 ·split at h
  ·exact⟨by assumption,Ia h hK⟩
  ·cases h
 ·have hb:oi P t=true->P.underlying t=some .bool:=by
   unfold oi;intro h;split at h
   ·assumption
   ·cases h
  split at h
  ·obtain⟨h1,rfl⟩:=sq h;exact⟨hb h1,hK⟩
  ·obtain⟨h1,rfl⟩:=sq h;exact⟨hb h1,hK⟩
  ·cases h
 ·split at h
  ·exact JH
  ·exact JH
  ·cases h
 ·cases h
theorem Ey{c a b v:V}(h:qI c a b=some v){K:V->Prop}(hK:K v):BF c a b K:=by
 unfold qI at h
 unfold BF
 split at h
 ·injection h with h;subst h;exact⟨fun _=>hK,(fun h=>by cases h)⟩
 ·injection h with h;subst h;exact⟨(fun h=>by cases h),fun _=>hK⟩
 ·cases h
theorem vA{x y:V}{q:Nat}(h:pb o x q=some y):(∃id off,x= .ptr id off/\(o id).cu=true/\y= .ptr id (off+q))\/(∃cs off,x= .pp cs off/\y= .pp cs (off+q))\/
 (∃id ep j sz off,x= .pe id ep j sz off/\(o id).ct=some ep/\y= .pe id ep j sz (off+q)):=by
 unfold pb at h
 split at h
 ·obtain⟨h1,rfl⟩:=sq h;exact .inl ⟨_,_,rfl,h1,rfl⟩
 ·injection h with h;exact .inr (.inl ⟨_,_,rfl,h.symm⟩)
 ·split at h
  ·injection h with h;exact .inr (.inr ⟨_,_,_,_,_,rfl,by assumption,h.symm⟩)
  ·cases h
 ·cases h
theorem uT{e:TypeId}{es:List D}{i:Int}{rd:List Nat}{r:fX}(h:yy P e es i rd=some r):
 0<=i/\∃y,es[i.toNat]? =some y/\y.cells.length=P.cellsOf e/\0<P.cellsOf e/\r=(.pp y.cells 0,[],rd):=by
 unfold yy at h
 split at h
 ·rename_i h0
  split at h
  ·rename_i y hy
   obtain⟨h1,rfl⟩:=sq h
   simp only[Bool.and_eq_true,beq_iff_eq,decide_eq_true_eq]at h1
   exact⟨h0,y,hy,h1.1,h1.2,rfl⟩
  ·cases h
 ·cases h
theorem tZ{t:TypeId}{x ix:V}(h:ik P o t x ix=some (v,Δ,rd))(hK:K v Δ rd):jF P o t x ix fun v rd=>K v [] rd:=by
 unfold ik at h
 unfold jF
 split at h
 ·simp only
  split at h
  ·rename_i e ht
   simp only[ht]
   split at h
   ·exact Zk
   ·exact Zk
   ·split at h
    ·rename_i ho
     split at h
     ·rename_i hc
      simp only[Option.some.injEq,Prod.mk.injEq]at h;obtain⟨rfl,rfl,rfl⟩:=h
      simp only[ho]
      exact⟨hc.1,hc.2.1,hc.2.2.1,hc.2.2.2.1,hc.2.2.2.2,hK⟩
     ·cases h
    ·rename_i ho
     split at h
     ·rename_i hc
      obtain⟨h0,y,h1,h2,h3,h4⟩:=uT h
      simp only[Prod.mk.injEq]at h4;obtain⟨rfl,rfl,rfl⟩:=h4
      simp only[ho]
      exact⟨hc,h0,y,h1,h2,h3,hK⟩
     ·cases h
    ·cases h
   ·cases h
  ·rename_i ht
   simp only[ht]
   split at h
   ·rename_i n e ha
    simp only[ha]
    split at h
    ·rename_i hc
     simp only[Option.bind_eq_some_iff]at h
     obtain⟨y,hy,h1⟩:=h
     have h1:=kN h1
     simp only[Prod.mk.injEq]at h1;obtain⟨rfl,rfl,rfl⟩:=h1
     refine⟨hc.1,hc.2.1,hc.2.2, ?_⟩
     rcases vA hy with⟨_,_,rfl,h2,rfl⟩|⟨_,_,rfl,rfl⟩|⟨_,_,_,_,_,rfl,h2,rfl⟩
     ·exact⟨h2,hK⟩
     ·exact hK
     ·exact⟨h2,hK⟩
    ·cases h
   ·cases h
 ·cases h
theorem uc{t:TypeId}{x y:V}{f:Nat}(h:il P o t x f=some y){K:V->Prop}(hK:K y):jG P o t x f K:=by
 unfold il at h
 unfold jG
 split at h
 ·rename_i q hq
  simp only[hq]
  rcases vA h with⟨_,_,rfl,h2,rfl⟩|⟨_,_,rfl,rfl⟩|⟨_,_,_,_,_,rfl,h2,rfl⟩
  ·exact⟨h2,hK⟩
  ·exact hK
  ·exact⟨h2,hK⟩
 ·cases h
theorem Ic{t:TypeId}{x:V}(h:Ew P t o x=some (v,Δ,rd))(hK:K v Δ rd):J8 P t o x fun v rd=>K v [] rd:=by
 unfold Ew at h
 unfold J8
 split at h
 ·rename_i e hu
  simp only[hu]
  split at h
  ·rename_i es um hl
   simp only[Option.some.injEq,Prod.mk.injEq]at h;obtain⟨rfl,rfl,rfl⟩:=h
   unfold qJ at hl
   split at hl
   ·exact JL
   ·exact JL
   ·exact JL
   ·split at hl
    ·rename_i ho
     split at hl
     ·rename_i hc;simp at hl;obtain⟨rfl,rfl⟩:=hl;simp only[ho];exact⟨hc,hK⟩
     ·cases hl
    ·rename_i ho
     split at hl
     ·rename_i hc;simp at hl;obtain⟨rfl,rfl⟩:=hl;simp only[ho];exact⟨hc,hK⟩
     ·cases hl
    ·cases hl
   ·cases hl
  ·cases h
 ·rename_i hu
  simp only[hu]
  split at h
  ·have h1:=kN h;simp only[Prod.mk.injEq]at h1;obtain⟨rfl,rfl,rfl⟩:=h1;exact hK
  ·cases h
 ·rename_i hu
  simp only[hu]
  have h1:=kN h;simp only[Prod.mk.injEq]at h1;obtain⟨rfl,rfl,rfl⟩:=h1;exact hK
 ·cases h
theorem Ez{t:TypeId}{x:V}(h:nr P o t x=some (v,Δ,rd))(hK:K v Δ rd):BG P o t x fun v rd=>K v [] rd:=by
 unfold nr at h
 unfold BG
 split at h
 ·split at h
  ·rename_i ho
   split at h
   ·rename_i hg
    exact Zx
   ·cases h
  ·cases h
 ·split at h
  ·rename_i hg
   simp only[Option.some.injEq,Prod.mk.injEq]at h;obtain⟨rfl,rfl,rfl⟩:=h
   exact⟨_,hg,hK⟩
  ·cases h
 ·split at h
  ·rename_i ho
   split at h
   ·rename_i hc
    split at h
    ·rename_i e he
     split at h
     ·rename_i hg
      simp only[Option.some.injEq,Prod.mk.injEq]at h;obtain⟨rfl,rfl,rfl⟩:=h
      simp only[ho];exact⟨hc.1,hc.2,e,he,_,hg,hK⟩
     ·cases h
    ·cases h
   ·cases h
  ·cases h
 ·cases h
theorem Cj{t:TypeId}{x y:V}(h:sn P o t x y=some (v,Δ,rd))(hK:K v Δ rd):uY P o t x y fun Δ rd=>K (.bS []) Δ rd:=by
 unfold sn at h
 unfold uY
 split at h
 ·split at h
  ·rename_i ho
   split at h
   ·rename_i hg
    exact Zx
   ·cases h
  ·cases h
 ·split at h
  ·rename_i ho
   split at h
   ·rename_i hc
    split at h
    ·rename_i e z he hz
     split at h
     ·rename_i hl
      split at h
      ·rename_i e' hp
       simp only[Option.some.injEq,Prod.mk.injEq]at h;obtain⟨rfl,rfl,rfl⟩:=h
       simp only[ho]
       exact⟨hc.1,hc.2,e,he,z,hz,hl.1,hl.2.1,hl.2.2,e',hp,hK⟩
      ·cases h
     ·cases h
    ·cases h
   ·cases h
  ·cases h
 ·cases h
theorem ss{t:TypeId}{len:Nat}{parts:List (Nat×V)}(h:gu P o fr t len parts=some (v,Δ,rd))(hK:K v Δ rd):iI P o fr t len parts K:=by
 unfold gu at h
 unfold iI
 split at h
 ·rename_i e ht
  simp only[ht]
  split at h
  ·rename_i hc
   simp only[Option.some.injEq,Prod.mk.injEq]at h;obtain⟨rfl,rfl,rfl⟩:=h
   exact .inl ⟨hc.1,by simpa using hc.2.1,hc.2.2,hK⟩
  split at h
  ·rename_i hc
   refine .inr ?_
   split at h
   ·rename_i ds hd
    split at h
    ·rename_i hw
     simp only[Option.some.injEq,Prod.mk.injEq]at h;obtain⟨rfl,rfl,rfl⟩:=h
     refine⟨hc.1,hc.2.1,hc.2.2.1,hc.2.2.2.1,hc.2.2.2.2,ds,hd,fun x hx=> ?_,hK⟩
     simpa using List.all_eq_true.1 hw x hx
    ·cases h
   ·cases h
  ·cases h
 ·cases h
theorem ud{t:TypeId}{l c:V}(h:mg P fr t l c=some (v,Δ,rd))(hK:K v Δ rd):jH P fr t l c fun v Δ=>K v Δ []:=by
 unfold mg at h
 unfold jH
 split at h
 ·rename_i e ht
  split at h
  ·split at h
   ·rename_i hc
    split at h
    ·rename_i x hx
     simp only[Option.some.injEq,Prod.mk.injEq]at h;obtain⟨rfl,rfl,rfl⟩:=h
     simp only[ht]
     exact⟨hc.1,hc.2.1,hc.2.2.1,hc.2.2.2.1,hc.2.2.2.2,x,hx,hK⟩
    ·cases h
   ·cases h
  ·cases h
 ·cases h
theorem Ae{ts:Array TypeId}{x y:V}(h:qK P o fr ts x y=some (v,Δ,rd))(hK:K v Δ rd):qg P o fr ts x y K:=by
 unfold qK at h
 unfold qg
 split at h
 ·rename_i t t' xE
  simp only[xE]
  split at h
  ·rename_i htt
   refine⟨htt, ?_⟩
   split at h
   ·rename_i e new um ht hl
    obtain⟨rJ,rfl⟩:=Ex hl
    simp only[ht]
    split at h
    ·rename_i hc
     refine⟨new,rJ,hc.1,hc.2.1,fun z hz=>by simpa using List.all_eq_true.1 hc.2.2 z hz, ?_⟩
     split at h
     ·split at h
      ·rename_i vi
       simp only[Option.some.injEq,Prod.mk.injEq]at h;obtain⟨rfl,rfl,rfl⟩:=h
       exact⟨vi.1,vi.2,hK⟩
      ·cases h
     ·split at h
      ·rename_i F7
       refine⟨fun z hz=>by simpa using List.all_eq_true.1 F7 z hz, ?_⟩
       split at h
       ·rename_i hn
        simp only[Option.some.injEq,Prod.mk.injEq]at h;obtain⟨rfl,rfl,rfl⟩:=h
        rw[if_pos hn];exact hK
       ·rename_i hn
        split at h
        ·rename_i vi
         simp only[Option.some.injEq,Prod.mk.injEq]at h;obtain⟨rfl,rfl,rfl⟩:=h
         rw[if_neg hn];exact⟨vi.1,vi.2,hK⟩
        ·cases h
      ·cases h
     ·split at h
      ·rename_i ho
       split at h
       ·rename_i vi
        simp only[Option.some.injEq,Prod.mk.injEq]at h;obtain⟨rfl,rfl,rfl⟩:=h
        simp only[ho]
        exact⟨vi.1,vi.2.1,vi.2.2.1,vi.2.2.2.1,vi.2.2.2.2,hK⟩
       ·cases h
      ·cases h
     ·cases h
    ·cases h
   ·cases h
  ·cases h
 ·cases h
theorem vB{x y:V}(h:jq o x=some y){K:V->Prop}(hK:K y):lA o x K:=by
 unfold jq at h
 unfold lA
 split at h
 ·obtain⟨h2,rfl⟩:=sq h;exact⟨h2,hK⟩
 ·exact JH
 ·exact JH
 ·cases h
theorem KK{op:UnOp}{x y:V}(h:unF op x=some y){K:V->Prop}(hK:K y):ZK op x K:=by
 unfold unF at h
 unfold ZK
 split at h
 ·injection h with h;subst h;simp only;rw[Int.zero_sub];exact hK
 ·exact JH
 ·cases h
theorem zB{m:Bool}{x y v:V}(h:qL m x y=some v){K:V->Prop}(hK:K v):n9 m [x,y] K:=by
 unfold qL at h
 unfold n9
 split at h
 ·split at h
  ·exact Tw
  ·cases h
 ·cases h
theorem Ck{op:Op}(h:gG P s fr op=some (v,Δ,rd))(hK:K v Δ rd):QU P s fr op K:=by
 cases op<;>simp only[gG]at h<;>simp only[QU]<;>try (cases h;done)
 case move x=>have h:=kN h;simp only[Prod.mk.injEq]at h;obtain⟨rfl,rfl,rfl⟩:=h;exact hK
 case assign x=>have h:=kN h;simp only[Prod.mk.injEq]at h;obtain⟨rfl,rfl,rfl⟩:=h;exact hK
 case pick c a b=>
  obtain⟨x,h1,h⟩:=jj h;simp only[Prod.mk.injEq]at h;obtain⟨rfl,rfl,rfl⟩:=h
  exact Ey h1 hK
 case alloc t=>
  split at h
  ·rename_i cs hz;simp only[Option.some.injEq,Prod.mk.injEq]at h;obtain⟨rfl,rfl,rfl⟩:=h;exact⟨cs,hz,hK⟩
  ·cases h
 case box t x=>
  split at h
  ·rename_i cs hz;simp only[Option.some.injEq,Prod.mk.injEq]at h;obtain⟨rfl,rfl,rfl⟩:=h;exact⟨cs,hz,hK⟩
  ·cases h
 case build t parts=>
  obtain⟨x,h1,h⟩:=jj h;simp only[Prod.mk.injEq]at h;obtain⟨rfl,rfl,rfl⟩:=h
  unfold Ad at h1
  split at h1
  ·rename_i z pl hz hp
   split at h1
   ·rename_i cs hc;injection h1 with h1;subst h1;exact⟨z,pl,cs,hz,hp,hc,hK⟩
   ·cases h1
  ·cases h1
 case buildSlice t len parts=>exact ss h hK
 case load t x=>exact Ez h hK
 case store t x y=>exact Cj h hK
 case nilCheck x=>
  obtain⟨y,h1,h⟩:=jj h;simp only[Prod.mk.injEq]at h;obtain⟨rfl,rfl,rfl⟩:=h
  exact vB h1 hK
 case binOp op t x y yt=>
  unfold fw at h
  split at h
  ·rename_i z h1
   have h:=kN h;simp only[Prod.mk.injEq]at h;obtain⟨rfl,rfl,rfl⟩:=h
   exact .inl (Ib h1 hK)
  ·right;simp only[h,c8];exact hK
 case unOp op t x=>
  obtain⟨z,h1,h⟩:=jj h;simp only[Prod.mk.injEq]at h;obtain⟨rfl,rfl,rfl⟩:=h
  unfold Hy at h1
  split at h1
  ·rename_i hx;injection h1 with h1;subst h1;exact .inr ⟨rfl,hx,hK⟩
  ·exact .inl (KK h1 hK)
 case slice t x lo hi mx=>simp only[h,c8];exact hK
 case field t x f=>
  exact TC
 case typeAssert x xt t ok=>
  exact TC
 case makeMap t r=>
  cases r with
  |none=>simp only[h,c8];exact hK
  |some x=>cases h
 case lookup t m k ok=>simp only[h,c8];exact hK
 case mapUpdate t m k v=>simp only[h,c8];exact hK
 case insert t m k v=>simp only[h,c8];exact hK
 case index t x i=>
  exact TC
 case convert u t x=>
  split at h
  ·rename_i d k k' n hu hk hx
   have h:=kN h;simp only[Prod.mk.injEq]at h;obtain⟨rfl,rfl,rfl⟩:=h
   exact⟨by rw[hu];rfl,by simp only[hk,hx];exact hK⟩
  ·cases h
 case makeInterface t x=>
  obtain⟨z,h1,h⟩:=jj h;simp only[Prod.mk.injEq]at h;obtain⟨rfl,rfl,rfl⟩:=h
  obtain⟨h2,rfl⟩:=sq h1
  refine⟨?_, ?_⟩
  ·unfold mi at h2
   cases hd:P.underlying t with
   |none=>simp[hd]at h2
   |some d=>exact⟨d,rfl,by cases d<;>simp_all⟩
  ·split
   ·rename_i y hy;simp only[hy]at hK;exact hK
   ·rename_i hy
    split at hK
    ·rename_i y hy';exact absurd hy' (hy y)
    ·exact hK
 case makeFunc fn first cap=>have h:=kN h;simp only[Prod.mk.injEq]at h;obtain⟨rfl,rfl,rfl⟩:=h;exact hK
 case makeSlice t l c=>
  exact ud h hK
 case fieldAddr t x f=>
  obtain⟨z,h1,h⟩:=jj h;simp only[Prod.mk.injEq]at h;obtain⟨rfl,rfl,rfl⟩:=h
  exact uc h1 hK
 case indexAddr t x i=>
  exact tZ h hK
 case extract x i=>
  split at h
  ·rename_i vs hv
   split at h
   ·rename_i u hu
    have h:=kN h;simp only[Prod.mk.injEq]at h;obtain⟨rfl,rfl,rfl⟩:=h
    simp only[hv];exact⟨_,hu,hK⟩
   ·cases h
  ·cases h
 case call c=>
  obtain⟨Ku,args,ts⟩:=c
  cases Ku<;>simp only at h|- <;>try (cases h;done)
  rename_i b
  unfold qM at h
  unfold u6
  split at h
  ·rename_i x ha
   simp only[ha]
   split at h
   ·rename_i t xE;exact⟨t,xE,Ic h hK⟩
   ·cases h
  ·rename_i x y ha
   simp only[ha]
   split at h
   ·rename_i r hr
    simp only[Option.some.injEq]at h
    subst h
    exact .inl (by rw[hr];exact hK)
   ·exact .inr (Ae h hK)
  ·rename_i x y ha
   exact Zn
  ·rename_i x y ha
   exact Zn
  ·rename_i x y z ha
   simp only[ha]
   obtain⟨v0,h1,h⟩:=jj h;simp only[Prod.mk.injEq]at h;obtain⟨rfl,rfl,rfl⟩:=h
   exact YK
  ·rename_i x y ha
   simp only[ha,h,c8];exact hK
  ·rename_i x y ha
   simp only[ha]
   split at h
   ·rename_i t ht;exact⟨t,ht,by simp only[h,c8];exact hK⟩
   ·cases h
  ·rename_i x ha
   simp only[ha,h,c8];exact hK
  ·cases h
 case range t x=>simp only[h,c8];exact hK
 case next x str=>left;simp only[h,c8];exact hK
 case entry x=>simp only[h,c8];exact hK
end
end
section
def vC(P:Program)(g:FuncId)(ds:List D)(o o1 oa:Nat->ab)(K:V->(Nat->ab)->Prop)(X:V->(Nat->ab)->Prop):Prop:=
 ∃out,aV P g ds out/\((match out with| .ret rs=>K (iV rs) o1| .bL x=>X (.d x) o1)\/(out.flat=true/\match out with| .ret rs=>K (iV rs) o| .bL x=>X (.d x) o)\/(out.nj=true/\match out with| .ret rs=>K (iV rs) oa| .bL x=>X (.d x) oa))
def tu(P:Program)(g:FuncId)(args:List V)(o:Nat->ab)(nx:Nat)(K:V->(Nat->ab)->Nat->Prop)(X:V->(Nat->ab)->Nat->Prop):Prop:=oS P g args o nx K X
theorem oS.mono {P:Program}{g:FuncId}{args:List V}{o:Nat->ab}{nx:Nat}{K X K' X':V->(Nat->ab)->Nat->Prop}(hK:∀v o n,K v o n->K' v o n)(hX:∀v o n,X v o n->X' v o n)(h:oS P g args o nx K X):oS P g args o nx K' X':=
 h.imp (bZ.mono hK hX) (bZ.mono hK hX)
@[congr] theorem Rc {P:Program} {g g':FuncId} {ds Z4:List D} {o o1 oa:Nat->ab} {K X} (h:g=g') (h':ds=Z4):vC P g ds o o1 oa K X=vC P g' Z4 o o1 oa K X:=by subst h;subst h';rfl
@[congr] theorem Re {P:Program} {g g':FuncId} {cm Z5:List V} {o:Nat->ab} {nx:Nat} {K X} (h:g=g') (h':cm=Z5):tu P g cm o nx K X=tu P g' Z5 o nx K X:=by subst h;subst h';rfl
def Rf(P:Program)(g:FuncId)(args:List V)(o:Nat->ab)(nx:Nat)(K X:V->(Nat->ab)->Nat->Prop):Prop:=
 (∃ds,cf o args=some ds/\vC P g ds o (put o (bE o (V.bp args))) (put o (rV o (V.bp args))) (fun v o'=>K v o' (nx+1)) (fun v o'=>X v o' (nx+1)))\/bZ P g args o nx K X
def Jq(P:Program)(s:S)(o:bV)(X:V->S->Prop)(K:S->Prop):Prop:=
 match o.op with
 | .call c=>match c.callee with
   | .value f=>match s.ev f with
     | .func (.func g) first cap=>match cf s.o (first++c.args.toList.map s.ev++cap)with
       |some ds=>vC P g ds s.o (put s.o (bE s.o (V.bp (first++c.args.toList.map s.ev++cap)))) (put s.o (rV s.o (V.bp (first++c.args.toList.map s.ev++cap)))) (fun v o'=>K ⟨a8 s.env o.dst v,o',s.nx+1⟩) (fun v o'=>X v ⟨s.env,o',s.nx+1⟩)\/
        tu P g (first++c.args.toList.map s.ev++cap) s.o s.nx (fun v o' nx'=>K ⟨a8 s.env o.dst v,o',nx'⟩) (fun v o' nx'=>X v ⟨s.env,o',nx'⟩)
       |none=>tu P g (first++c.args.toList.map s.ev++cap) s.o s.nx (fun v o' nx'=>K ⟨a8 s.env o.dst v,o',nx'⟩) (fun v o' nx'=>X v ⟨s.env,o',nx'⟩)
     | .kn id=>dO P id (c.args.toList.map s.ev) s.o s.nx (fun v o' nx'=>K ⟨a8 s.env o.dst v,o',nx'⟩) (fun v o' nx'=>X v ⟨s.env,o',nx'⟩)
     |_=>False
   | .invoke r m=>match vo P m (s.ev r)with
     |some (g,y)=>Rf P g (y::c.args.toList.map s.ev) s.o s.nx (fun v o' nx'=>K ⟨a8 s.env o.dst v,o',nx'⟩) (fun v o' nx'=>X v ⟨s.env,o',nx'⟩)
     |none=>False
   |_=>match gG P s s.nx o.op with
    |some (v,Δ,_)=>K ⟨a8 s.env o.dst v,put s.o Δ,s.nx+1⟩
    |none=>False
 | .panic x=>match s.ev x with
   | .d (.iface t y)=>X (.d (.iface t y)) s
   | .iface t y=>X (.iface t y) s
   |_=>False
 | .next x str=>match o7 s.o (s.ev x)with
   |some (id,l)=>str=false/\FY id l fun v Δ _=>K ⟨a8 s.env o.dst v,put s.o Δ,s.nx+1⟩
   |none=>match gG P s s.nx o.op with
    |some (v,Δ,_)=>K ⟨a8 s.env o.dst v,put s.o Δ,s.nx+1⟩
    |none=>False
 |op=>match gG P s s.nx op with
  |some (v,Δ,_)=>K ⟨a8 s.env o.dst v,put s.o Δ,s.nx+1⟩
  |none=>False
def pF(P:Program)(X:V->S->Prop)(K:S->Prop):List bV->S->Prop
 |[],s=>K s
 |o::l,s=>match o.gd with
  |none=>Jq P s o X (pF P X K l)
  |some (d,want)=>match s.env d with
   | .d (.bool b)=>if b=want then Jq P s o X (pF P X K l)else pF P X K l ⟨a8 s.env o.dst (.bS []),s.o,s.nx+1⟩
   | .bS []=>pF P X K l ⟨a8 s.env o.dst (.bS []),s.o,s.nx+1⟩
   |_=>False
def KL(b:Nat)(body:(fL->S->Prop)->S->Prop)(Q:fL->S->Prop)(s:S):Prop:=
 ∃ (J:Nat->S->Prop),(∃m s1,bH b s s1/\J m s1)/\∀m s0,J m s0->body (fun e s=>match e with| .normal=>∃m' s1,m'<m/\bH b s s1/\J m' s1|e=>Q e s) s0
@[congr] theorem Rg {b:Nat} {body Q} {s s':S} (h:s=s'):KL b body Q s=KL b body Q s':=by subst h;rfl
def qN(t:Bool)(A B:Prop):Prop:=(t=true->A)/\(t=false->B)
@[congr] theorem Rh {t t':Bool} {A B:Prop} (h:t=t'):qN t A B=qN t' A B:=by subst h;rfl
@[simp] theorem vE (A B:Prop):qN true A B=A:=by simp[qN]
@[simp] theorem tv (A B:Prop):qN false A B=B:=by simp[qN]
section
variable {P:Program}{n b:Nat}
theorem Gj{s:S}{o:bV}{o':Oper}{X X':V->S->Prop}{K K':S->Prop}(gf:o'.op=o.op)(cX:o'.dst=o.dst)(hd:gM n o'.dst)(hK:∀s,K s->K' s)(hX:∀v s,X v s->X' v s)(h:Jq P s o X K):opW P n s o' X' K':=by
 refine⟨hd, ?_⟩
 rw[cX,gf]
 unfold Jq at h
 have hs:∀ {op:Op},(match gG P s s.nx op with|some (v,Δ,_)=>K ⟨a8 s.env o.dst v,put s.o Δ,s.nx+1⟩|none=>False)->QU P s s.nx op fun v Δ _=>K' ⟨a8 s.env o.dst v,put s.o Δ,s.nx+1⟩:=by
  intro op h
  split at h
  ·rename_i v Δ rd he;exact Ck he (hK _ h)
  ·exact h.elim
 split at h
 ·rename_i c hc
  split at h
  ·rename_i f fe
   simp only[hc,fe]
   split at h
   ·rename_i g first cap hf
    unfold B8
    simp only[hf]
    unfold vn
    split at h
    ·rename_i ds ff
     rcases h with⟨out,hP,h|⟨mV,h⟩|⟨mV,h⟩⟩|h
     ·exact Qy
     ·exact ZF
     ·exact ZA
     ·exact YT
    ·exact YT
   ·rename_i id hf
    unfold B8
    simp only[hf]
    exact dO.mono (fun v o n h=>hK _ h) (fun v o n h=>hX _ _ h) h
   ·exact h.elim
  ·rename_i r m fe
   simp only[hc,fe]
   split at h
   ·rename_i g y hr
    simp only[hr]
    unfold vn
    rcases h with⟨ds,ff,out,hP,h|⟨mV,h⟩|⟨mV,h⟩⟩|h
    ·exact Qy
    ·exact ZF
    ·exact ZA
    ·exact .inr (.inr (.inr (.inl (bZ.mono (fun v o n h=>hK _ h) (fun v o n h=>hX _ _ h) h))))
   ·exact h.elim
  ·rename_i fe hinv
   rw[hc]at h|-
   obtain⟨Ku,args,ts⟩:=c
   cases Ku with
   |value f=>exact absurd rfl (fe f)
   |invoke r m=>exact absurd rfl (hinv r m)
   |_=>exact hs h
 ·rename_i x hx
  simp only[hx]
  split at h
  ·rename_i hv;simp only[hv];exact hX _ _ h
  ·rename_i hv;simp only[hv];exact hX _ _ h
  ·exact h.elim
 ·rename_i x str hx
  rw[hx]at h|-
  split at h
  ·rename_i id l hl
   exact .inr ⟨h.1,id,l,hl,fun e=>hK _ (h.2.1 e),fun i k x e=>hK _ (h.2.2 i k x e)⟩
  ·exact hs h
 ·rename_i hc hp uu
  have h2:=hs h
  cases hh:o.op<;>first
   |exact absurd hh (hc _)
   |exact absurd hh (hp _)
   |exact absurd hh (uu _ _)
   |(rw[hh]at h2;exact h2)
theorem jr{ops:Array Oper}{X X':V->S->Prop}{K K':S->Prop}(hK:∀s,K s->K' s)(hX:∀v s,X v s->X' v s):∀ (l:List Oper) (l':List bV) (s:S),lj n ops l=some l'->pF P X K l' s->zX P n ops X' K' l s
 |[],l',s,h,hr=>by simp[lj]at h;subst h;exact hK _ hr
 |o::l,l',s,h,hr=>by
  simp only[lj]at h
  split at h
  ·rename_i x xs hx M8
   injection h with h;subst h
   unfold J5 at hx
   split at hx
   ·rename_i hd
    have cX:gM n o.dst:=by
     unfold D7 at hd;unfold gM
     split at hd<;>simp_all
    simp only[zX,zW]
    cases hg:o.guard with
    |none=>
     simp only[hg]at hx
     injection hx with hx;subst hx
     exact Gj rfl rfl cX (fun s hs=>jr hK hX l xs s M8 hs) hX hr
    |some p=>
     obtain⟨j,want⟩:=p
     simp only[hg]at hx
     cases Ri:te ops j with
     |none=>simp[Ri]at hx
     |some d=>
      simp only[Ri]at hx
      injection hx with hx;subst hx
      simp only
      simp only[pF]at hr
      split at hr
      ·rename_i t ht
       simp only[Ri,ht]
       split at hr
       ·rename_i e
        exact⟨fun _=>Gj rfl rfl cX (fun s hs=>jr hK hX l xs s M8 hs) hX hr,fun h=>absurd e h⟩
       ·rename_i e
        exact⟨fun h=>absurd h e,fun _=>⟨cX,jr hK hX l xs _ M8 hr⟩⟩
      ·rename_i ht
       simp only[Ri,ht]
       exact⟨cX,jr hK hX l xs _ M8 hr⟩
      ·exact hr.elim
   ·cases hx
  ·cases h
end
end
section
mutual
def V.refs:V->List Nat
 | .ptr id _=>[id]| .osl id _=>[id]| .pe id _ _ _ _=>[id]| .x4 id _ _=>[id]| .mp id=>[id]| .kn id=>[id]
 | .agg cs=>V.aO cs
 | .bS cs=>V.aO cs
 | .func _ a b=>V.aO a++V.aO b
 | .iface _ x=>x.refs
 |_=>[]
def V.aO:List V->List Nat
 |[]=>[]
 |v::vs=>v.refs++V.aO vs
end
mutual
theorem jM:∀ (v:V),∀id∈v.ids,id∈v.refs
 | .osl id _,j,h=>by simpa[V.ids,V.refs]using h
 | .agg cs,j,h=>by simp only[V.ids]at h;simp only[V.refs];exact lX cs j h
 | .iface _ x,j,h=>by simp only[V.ids]at h;simp only[V.refs];exact jM x j h
 | .mp _,j,h=>by simpa[V.ids,V.refs]using h
 | .d _,_,h| .ax,_,h| .bS _,_,h| .ptr _ _,_,h| .pe _ _ _ _ _,_,h| .pp _ _,_,h| .func _ _ _,_,h| .ad,_,h| .oV _,_,h| .x4 _ _ _,_,h| .fC,_,h| .kn _,_,h=>by simp[V.ids]at h
theorem lX:∀ (vs:List V),∀id∈V.bp vs,id∈V.aO vs
 |[],j,h=>by simp[V.bp]at h
 |v::vs,j,h=>by
  simp only[V.bp,V.aO,List.mem_append]at h|-
  exact h.imp (jM v j) (lX vs j)
end
mutual
theorem dk{o o':Nat->ab}:∀ (v:V),(∀id∈v.refs,o' id=o id)->dQ o' v=dQ o v
 | .osl id ep,h=>by simp only[dQ,h id (by simp[V.refs])]
 | .mp id,h=>by simp only[dQ,h id (by simp[V.refs])]
 | .agg cs,h=>by simp only[dQ,im cs (by simpa[V.refs]using h)]
 | .iface t x,h=>by simp only[dQ,dk x (by simpa[V.refs]using h)]
 | .d _,_| .ax,_| .bS _,_| .ptr _ _,_| .pe _ _ _ _ _,_| .pp _ _,_| .func _ _ _,_| .ad,_| .oV _,_| .x4 _ _ _,_| .fC,_| .kn _,_=>by simp only[dQ]
theorem im{o o':Nat->ab}:∀ (vs:List V),(∀id∈V.aO vs,o' id=o id)->cf o' vs=cf o vs
 |[],_=>rfl
 |v::vs,h=>by
  simp only[cf,dk v (fun id aw=>h id (by simp[V.aO,aw])),im vs (fun id aw=>h id (by simp[V.aO,aw]))]
end
theorem hY{o o':Nat->ab}{ids:List Nat}(h:∀id∈ids,o' id=o id):bE o' ids=bE o ids:=by
 rw[l7,l7]
 exact List.map_congr_left fun id aw=>by rw[h id aw]
def oR(s:S)(op:Op):List Nat:=
 match op with
 | .load _ x=>(s.ev x).refs
 | .nilCheck x=>(s.ev x).refs
 | .fieldAddr _ x _=>(s.ev x).refs
 | .indexAddr _ x _=>(s.ev x).refs
 | .store _ x v=>(s.ev x).refs++(s.ev v).refs
 | .buildSlice _ _ parts=>V.aO (parts.toList.map fun p=>s.ev p.2)
 | .binOp _ _ x y _=>(s.ev x).refs++(s.ev y).refs
 | .slice _ x _ _ _=>(s.ev x).refs
 | .lookup _ m k _=>(s.ev m).refs++(s.ev k).refs
 | .mapUpdate _ m k v=>(s.ev m).refs++((s.ev k).refs++(s.ev v).refs)
 | .insert _ m k v=>(s.ev m).refs++((s.ev k).refs++(s.ev v).refs)
 | .range _ x=>(s.ev x).refs
 | .next x _=>(s.ev x).refs
 | .entry x=>(s.ev x).refs
 | .call c=>match c.callee with
   | .builtin _=>V.aO (c.args.toList.map s.ev)
   | .value f=>match s.ev f with
     | .func _ first cap=>V.aO (first++c.args.toList.map s.ev++cap)
     |_=>[]
   |_=>[]
 |_=>[]
section
variable {P:Program}{s s':S}{fr:Nat}
theorem tw{o o':Nat->ab}(v:V)(h:∀id∈v.refs,o' id=o id):qJ o' v=qJ o v:=by
 cases v with
 |osl id ep=>simp only[qJ,h id (by simp[V.refs])]
 |d x=>cases x<;>rfl
 |_=>rfl
theorem tx{o o':Nat->ab}(v:V)(q:Nat)(h:∀id∈v.refs,o' id=o id):pb o' v q=pb o v q:=by
 cases v<;>simp only[pb]<;>rw[h _ (by simp[V.refs])]
theorem EA{o o':Nat->ab}(v:V)(h:∀id∈v.refs,o' id=o id):BJ o' v=BJ o v:=by
 have h1:eV o' v=eV o v:=by unfold eV;rw[dk v h]
 cases v<;>first|rfl|simp only[BJ,h1]
theorem Af{o o':Nat->ab}(v:V)(h:∀id∈v.refs,o' id=o id):rX o' v=rX o v:=by
 cases v with
 |mp id=>simp only[rX,h id (by simp[V.refs])]
 |d x=>cases x<;>rfl
 |_=>rfl
theorem Ag{o o':Nat->ab}(v:V)(h:∀id∈v.refs,o' id=o id):rY o' v=rY o v:=by
 cases v with
 |ptr id off=>simp only[rY,h id (by simp[V.refs])]
 |d x=>cases x<;>rfl
 |_=>rfl
theorem nu{o o':Nat->ab}(v:V)(h:∀id∈v.refs,o' id=o id):oZ o' v=oZ o v:=by
 cases v with
 |mp id=>simp only[oZ,h id (by simp[V.refs])]
 |d x=>cases x<;>rfl
 |_=>rfl
theorem Cl{o o':Nat->ab}(v:V)(h:∀id∈v.refs,o' id=o id):qj o' v=qj o v:=by
 cases v with
 |mp id=>simp only[qj,h id (by simp[V.refs])]
 |d x=>cases x<;>rfl
 |_=>rfl
theorem Cm{o o':Nat->ab}(v:V)(str:Bool)(h:∀id∈v.refs,o' id=o id):o6 o' v str=o6 o v str:=by
 cases v with
 |ptr id off=>cases off<;>simp only[o6,h id (by simp[V.refs])]
 |_=>rfl
theorem Ah{o o':Nat->ab}(v:V)(h:∀id∈v.refs,o' id=o id):mZ o' v=mZ o v:=by
 cases v with
 |ptr id off=>cases off<;>simp only[mZ,h id (by simp[V.refs])]
 |_=>rfl
theorem Ai{o o':Nat->ab}{fr:Nat}{t:TypeId}{P:Program}(v:V)(h:∀id∈v.refs,o' id=o id):mY P o' fr t v=mY P o fr t v:=by
 unfold mY
 cases v with
 |mp id=>simp only[h id (by simp[V.refs])]
 |d x=>cases x<;>rfl
 |_=>rfl
theorem Aj{o o':Nat->ab}(v:V)(h:∀id∈v.refs,o' id=o id):pv o' v=pv o v:=by
 cases v with
 |ptr id off=>simp only[pv,h id (by simp[V.refs])]
 |_=>rfl
theorem Ak{o o':Nat->ab}(v:V)(h:∀id∈v.refs,o' id=o id):pw o' v=pw o v:=by
 cases v with
 |x4 id off n=>simp only[pw,h id (by simp[V.refs])]
 |_=>rfl
theorem EB(op:Op)(hv:∀x∈op.operands,s'.ev x=s.ev x)(ho:∀id∈oR s op,s'.o id=s.o id):gG P s' fr op=gG P s fr op:=by
 cases op<;>simp only[gG]
 case move x=>rw[hv x (by simp[Op.operands])]
 case assign x=>rw[hv x (by simp[Op.operands])]
 case pick c a b=>rw[hv c (by simp[Op.operands]),hv a (by simp[Op.operands]),hv b (by simp[Op.operands])]
 case box t x=>rw[hv x (by simp[Op.operands])]
 case build t parts=>
  have:(parts.toList.map fun p=>(p.1,s'.ev p.2))=parts.toList.map fun p=>(p.1,s.ev p.2):=
   List.map_congr_left fun p hp=>by rw[hv p.2 (by simp only[Op.operands];simp;exact⟨p.1,by simpa using hp⟩)]
  rw[this]
 case buildSlice t len parts=>
  have:(parts.toList.map fun p=>(p.1,s'.ev p.2))=parts.toList.map fun p=>(p.1,s.ev p.2):=
   List.map_congr_left fun p hp=>by rw[hv p.2 (by simp only[Op.operands];simp;exact⟨p.1,by simpa using hp⟩)]
  rw[this]
  have e:(parts.toList.map fun p=>(p.1,s.ev p.2)).map (·.2)=parts.toList.map fun p=>s.ev p.2:=by simp[Function.comp_def]
  have h1:cf s'.o ((parts.toList.map fun p=>(p.1,s.ev p.2)).map (·.2))=cf s.o ((parts.toList.map fun p=>(p.1,s.ev p.2)).map (·.2)):=im _ (by rw[e];exact ho)
  have h2:bE s'.o (V.bp ((parts.toList.map fun p=>(p.1,s.ev p.2)).map (·.2)))=bE s.o (V.bp ((parts.toList.map fun p=>(p.1,s.ev p.2)).map (·.2))):=
   hY fun id aw=>ho id (by rw[e]at aw;exact lX _ id aw)
  simp only[gu,h1,h2]
 case load t x=>
  rw[hv x (by simp[Op.operands])]
  cases hx:s.ev x<;>simp only[nr]<;>rw[ho _ (by simp[oR,hx,V.refs])]
 case store t x y=>
  rw[hv x (by simp[Op.operands]),hv y (by simp[Op.operands])]
  have h1:dQ s'.o (s.ev y)=dQ s.o (s.ev y):=dk _ fun id aw=>ho id pq
  have h2:bE s'.o (s.ev y).ids=bE s.o (s.ev y).ids:=hY fun id aw=>ho id (by simp[oR,jM _ _ aw])
  cases hx:s.ev x<;>simp only[sn]<;>rw[ho _ (by simp[oR,hx,V.refs])]
  simp only[h1,h2]
 case nilCheck x=>
  rw[hv x (by simp[Op.operands])]
  cases hx:s.ev x with
  |ptr id off=>simp only[jq];rw[ho _ (by simp[oR,hx,V.refs])]
  |func fn a b=>cases fn<;>rfl
  |_=>rfl
 case binOp op t x y yt=>
  rw[hv x (by simp[Op.operands]),hv y (by simp[Op.operands])]
  have h1:BJ s'.o (s.ev x)=BJ s.o (s.ev x):=EA _ fun id aw=>ho id pq
  have h2:∀a b,rR P s'.o a b (s.ev x) (s.ev y)=rR P s.o a b (s.ev x) (s.ev y):=fun a b=>by
   have h3:∀id∈(s.ev x).refs,s'.o id=s.o id:=fun id aw=>ho id pq
   have h4:=Af (s.ev x) h3
   have h5:=Ag (s.ev x) h3
   unfold rR
   rw[h1,h4,h5]
  unfold fw rZ
  simp only[h2]
 case slice t x lo hi mx=>
  rw[hv x (by simp[Op.operands])]
  have e1:lo.map s'.ev=lo.map s.ev:=by cases lo<;>simp[hv,Op.operands]
  have e2:hi.map s'.ev=hi.map s.ev:=by cases hi<;>simp[hv,Op.operands]
  have e3:mx.map s'.ev=mx.map s.ev:=by cases mx<;>simp[hv,Op.operands]
  rw[e1,e2,e3]
  have h3:∀id∈(s.ev x).refs,s'.o id=s.o id:=fun id aw=>ho id pq
  have h1:eV s'.o (s.ev x)=eV s.o (s.ev x):=by unfold eV;rw[dk _ h3]
  have h2:bE s'.o (s.ev x).ids=bE s.o (s.ev x).ids:=hY fun id aw=>h3 id (jM _ _ aw)
  have h4:Eb P s'.o t (s.ev x) (lo.map s.ev) (hi.map s.ev) (mx.map s.ev)=Eb P s.o t (s.ev x) (lo.map s.ev) (hi.map s.ev) (mx.map s.ev):=by
   cases hx:s.ev x with
   |osl id ep=>simp only[Eb,h3 id (by simp[hx,V.refs])]
   |_=>rfl
  unfold rW qh
  simp only[h1,h2,h4,Aj _ h3]
 case field t x f=>rw[hv x (by simp[Op.operands])]
 case typeAssert x xt t ok=>rw[hv x (by simp[Op.operands])]
 case makeMap t r=>cases r<;>rfl
 case lookup t m k ok=>
  rw[hv m (by simp[Op.operands]),hv k (by simp[Op.operands])]
  have h3:∀id∈(s.ev m).refs,s'.o id=s.o id:=fun id aw=>ho id pq
  have h1:dQ s'.o (s.ev k)=dQ s.o (s.ev k):=dk _ fun id aw=>ho id pq
  unfold jk
  simp only[h1,Cl _ h3]
 case mapUpdate t m k v=>
  rw[hv m (by simp[Op.operands]),hv k (by simp[Op.operands]),hv v (by simp[Op.operands])]
  have h3:∀id∈(s.ev m).refs,s'.o id=s.o id:=fun id aw=>ho id pq
  have h1:dQ s'.o (s.ev k)=dQ s.o (s.ev k):=dk _ fun id aw=>ho id pq
  have h2:dQ s'.o (s.ev v)=dQ s.o (s.ev v):=dk _ fun id aw=>ho id pq
  have h4:bE s'.o (s.ev v).ids=bE s.o (s.ev v).ids:=hY fun id aw=>ho id (by simp[oR,jM _ _ aw])
  unfold fQ
  simp only[h1,h2,h4,nu _ h3]
 case insert t m k v=>
  rw[hv m (by simp[Op.operands]),hv k (by simp[Op.operands]),hv v (by simp[Op.operands])]
  have h3:∀id∈(s.ev m).refs,s'.o id=s.o id:=fun id aw=>ho id pq
  have h1:dQ s'.o (s.ev k)=dQ s.o (s.ev k):=dk _ fun id aw=>ho id pq
  have h2:dQ s'.o (s.ev v)=dQ s.o (s.ev v):=dk _ fun id aw=>ho id pq
  have h4:bE s'.o (s.ev v).ids=bE s.o (s.ev v).ids:=hY fun id aw=>ho id (by simp[oR,jM _ _ aw])
  unfold fQ
  simp only[h1,h2,h4,nu _ h3]
 case index t x i=>rw[hv x (by simp[Op.operands]),hv i (by simp[Op.operands])]
 case range t x=>
  rw[hv x (by simp[Op.operands])]
  exact Ai _ fun id aw=>ho id pq
 case next x str=>
  rw[hv x (by simp[Op.operands])]
  exact Cm _ _ fun id aw=>ho id pq
 case entry x=>
  rw[hv x (by simp[Op.operands])]
  exact Ah _ fun id aw=>ho id pq
 case unOp op t x=>rw[hv x (by simp[Op.operands])]
 case convert u t x=>rw[hv x (by simp[Op.operands])]
 case makeInterface t x=>rw[hv x (by simp[Op.operands])]
 case makeFunc fn first cap=>
  have h1:first.toList.map s'.ev=first.toList.map s.ev:=List.map_congr_left fun x hx=>hv x (by simp only[Op.operands];exact Array.mem_append.2 (.inl (Array.mem_toList_iff.1 hx)))
  have h2:cap.toList.map s'.ev=cap.toList.map s.ev:=List.map_congr_left fun x hx=>hv x (by simp only[Op.operands];exact Array.mem_append.2 (.inr (Array.mem_toList_iff.1 hx)))
  rw[h1,h2]
 case makeSlice t l c=>rw[hv l (by simp[Op.operands]),hv c (by simp[Op.operands])]
 case fieldAddr t x f=>
  rw[hv x (by simp[Op.operands])]
  simp only[il]
  cases cg P t f<;>simp only
  rw[tx _ _ (by simpa[oR]using ho)]
 case indexAddr t x i=>
  rw[hv x (by simp[Op.operands]),hv i (by simp[Op.operands])]
  have h1:∀q,pb s'.o (s.ev x) q=pb s.o (s.ev x) q:=fun q=>tx _ _ (by simpa[oR]using ho)
  simp only[ik,h1]
  cases hx:s.ev x with
  |osl id ep=>simp only[ho id (by simp[oR,hx,V.refs])]
  |d y=>cases y<;>rfl
  |_=>rfl
 case extract x i=>rw[hv x (by simp[Op.operands])]
 case call c=>
  obtain⟨Ku,args,ts⟩:=c
  cases Ku<;>simp only
  rename_i b
  unfold qM
  have hm:∀x∈args.toList,s'.ev x=s.ev x:=fun x hx=>hv x YI
  have hr:∀x∈args.toList,∀id∈(s.ev x).refs,s'.o id=s.o id:=by
   intro x hx id aw
   refine ho id ?_
   simp only[oR]
   generalize args.toList=l at hx
   induction l with
   |nil=>cases hx
   |cons y l ih=>
    simp only[List.map_cons,V.aO,List.mem_append]
    rcases List.mem_cons.1 hx with rfl|hx
    ·exact .inl aw
    ·exact .inr (ih hx)
  split
  ·rename_i x ha
   rw[ha]at hm hr
   rw[hm x (by simp)]
   have h1:∀t,Ew P t s'.o (s.ev x)=Ew P t s.o (s.ev x):=fun t=>by simp only[Ew,tw _ (hr x (by simp))]
   simp only[h1]
  ·rename_i x y ha
   rw[ha]at hm hr
   rw[hm x (by simp),hm y (by simp)]
   simp only[qK,tw _ (hr y (by simp))]
   cases x8 P fr ts (s.ev x) (s.ev y)with
   |some r=>rfl
   |none=>
   dsimp only
   cases hx:s.ev x with
   |osl id ep=>simp only[hr x (by simp) id (by simp[hx,V.refs])]
   |_=>rfl
  ·rename_i x y ha
   rw[ha]at hm
   rw[hm x (by simp),hm y (by simp)]
  ·rename_i x y ha
   rw[ha]at hm
   rw[hm x (by simp),hm y (by simp)]
  ·rename_i x y z h;rw[hm x (by rw[h];simp),hm y (by rw[h];simp),hm z (by rw[h];simp)]
  ·rename_i x y ha
   rw[ha]at hm hr
   rw[hm x (by simp),hm y (by simp)]
   have h1:eV s'.o (s.ev y)=eV s.o (s.ev y):=by unfold eV;rw[dk _ (hr y (by simp))]
   have h2:bE s'.o (s.ev y).ids=bE s.o (s.ev y).ids:=hY fun id aw=>hr y aH id (jM _ _ aw)
   unfold x7
   simp only[h1,h2,Ak _ (hr x (by simp))]
  ·rename_i x y ha
   rw[ha]at hm hr
   rw[hm x (by simp),hm y (by simp)]
   have h1:dQ s'.o (s.ev y)=dQ s.o (s.ev y):=dk _ (hr y aH)
   have h2:=nu _ (hr x aH)
   simp only[od,h1,h2]
  ·rename_i x ha
   rw[ha]at hm
   rw[hm x (by simp)]
  ·rfl
end
end
end Go.Proofs.YtlhemmpklhhgoaaGreat
