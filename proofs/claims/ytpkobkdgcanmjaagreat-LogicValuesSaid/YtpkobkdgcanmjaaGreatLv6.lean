/-
  A PART OF THE PROOF. Conditions: none.
-/
import Derived.Test.YtpkobkdgcanmjaaGreatLv5
set_option linter.unusedSimpArgs false
set_option linter.unusedVariables false
namespace Go.Proofs.YtpkobkdgcanmjaaGreat
section
variable {P:Program}{M:Nat->Prop}{φ:Place}{H:Hp}{w w':World}{b7:Place}{H0:Hp}{w0:World}{n b:Nat}{s:S}{a:Act}{cx:Cx}{ro:Option Nat}{k:Nat}
theorem eX(hb:∀id,H0.us id->id<b)(oO:cx.rd=false->ro=none):∀ (c:Code) (Q:fq->S->Prop) (s:S) (φ:Place) (a:Act) (w:World),fA P n b cx.rd c Q s->bI M b7 H0 w0 n cx φ s a w->c.oP P ro (wv M b7 H0 w0 n cx Q) a w:=by
 intro c
 induction c with
 |skip=>exact fun Q s φ a w h hs=>kZ (k:=0) (wpIn_skip ⟨.normal,s,φ,h,hs,trivial⟩)
 |scope x ih=>exact fun Q s φ a w h hs=>xT (ih Q s φ a w h hs) (fun l a w ⟨xx,s',aj,hq,gR,hm⟩=>by cases xx<;>exact hm)
 |label l=>exact fun Q s φ a w h hs=>kZ (k:=0) (wpIn_label ⟨.normal,s,φ,h,hs,trivial⟩)
 |exit id=>exact fun Q s φ a w h hs=>tC ⟨.exit id,s,φ,h,hs,rfl⟩
 |ret=>exact fun Q s φ a w h hs=>wx ⟨.ret,s,φ,h,hs,trivial⟩
 |goto l=>exact fun Q s φ a w h hs=>h.elim
 |refuse y=>exact fun Q s φ a w h hs=>h.elim
 |rangeFunc g ps x y=>exact fun Q s φ a w h hs=>xU hs h.1 (oO h.1) h.2
 |region id ops draw=>
  intro Q s φ a w h hs
  cases draw with
  |true=>exact kZ (h M b7 H0 w0 cx φ a w ro 0 hs)
  |false=>
   refine kZ (k:=0) (wpIn_region_list (kY (K:=Q .normal) (X:=fun v s=>Q (.bf v) s) (fun s φ a w hk hs=>⟨.normal,s,φ,hk,hs,trivial⟩) (fun v s φ a w val hx hs hd=>⟨.bf v,s,φ,hx,hs,val,rfl,hd⟩) _ s φ a w h hs))
 |seq x y Bv Bw=>
  intro Q s φ a w h hs
  refine rF (eN (Bv _ s φ a w h hs) ?_)
  rintro e a' w' ⟨xx,s',aj,hq,gR,hm⟩
  cases e<;>cases xx<;>first|(exact hm.elim)|skip
  ·exact Bw Q s' aj a' w' hq gR
  ·subst hm;exact⟨_,s',aj,hq,gR,rfl⟩
  ·exact⟨.ret,s',aj,hq,gR,trivial⟩
  ·exact⟨.bf _,s',aj,hq,gR,hm⟩
 |cond c x y Bv Bw=>
  intro Q s φ a w h hs
  simp only[fA]at h
  have hc:=ju (M:=M) (φ:=φ) (H:=s.H) (w:=w) s a hs.env c
  split at h
  ·rename_i t hv
   rw[hv]at hc
   simp only[V.den,D.den]at hc
   cases t with
   |true=>exact l6 hc (Bv Q s φ a w (h.1 rfl) hs)
   |false=>exact l6 hc (Bw Q s φ a w (h.2 rfl) hs)
  ·rename_i hv
   rw[hv]at hc
   obtain⟨t,hc⟩:=hc
   cases t with
   |true=>exact l6 hc (Bv Q s φ a w h.1 hs)
   |false=>exact l6 hc (Bw Q s φ a w h.2 hs)
  ·exact h.elim
 |block id x ih=>
  intro Q s φ a w h hs
  refine xS (eN (ih _ s φ a w h hs) ?_)
  rintro e a' w' ⟨xx,s',aj,hq,gR,hm⟩
  cases e<;>cases xx<;>first|(exact hm.elim)|skip
  ·exact⟨.normal,s',aj,hq,gR,trivial⟩
  ·subst hm
   simp only[Exit.inBlock]
   simp only[dT]at hq
   split
   ·rename_i he;rw[if_pos he]at hq;exact⟨.normal,s',aj,hq,gR,trivial⟩
   ·rename_i he;rw[if_neg he]at hq;exact⟨.exit _,s',aj,hq,gR,rfl⟩
  ·exact⟨.ret,s',aj,hq,gR,trivial⟩
  ·exact⟨.bf _,s',aj,hq,gR,hm⟩
 |loop x ih=>
  intro Q s φ a w h hs
  obtain⟨J,⟨m0,s1,hle,hI⟩,DY⟩:=h
  obtain⟨fm,qD⟩:=zt hb hs hle
  refine rG (fun m a w=>∃s φ,J m s/\bI M b7 H0 w0 n cx φ s a w) ?_ m0 a w ⟨s1,fm,hI,qD⟩
  rintro m a w ⟨s,φ,hI,hs⟩
  refine eN (ih _ s φ a w (DY m s hI) hs) ?_
  rintro e a' w' ⟨xx,s',aj,hq,gR,hm⟩
  cases e<;>cases xx<;>first|(exact hm.elim)|skip
  ·obtain⟨m2,s2,bz,Hb,DZ⟩:=hq
   obtain⟨xV,A5⟩:=zt hb gR Hb
   exact⟨m2,bz,s2,xV,DZ,A5⟩
  ·subst hm;exact⟨_,s',aj,hq,gR,rfl⟩
  ·exact⟨.ret,s',aj,hq,gR,trivial⟩
  ·exact⟨.bf _,s',aj,hq,gR,hm⟩
def zu(tmps:Array Value)(r:ResultVar):Sem Value:=
 match r with
 | .tmp t=>pure (tmps.getD t undef)
 | .cell p t=>do loadVar t (<- asAddr (tmps.getD p undef))
theorem nZ(l7:ai M φ s.H w)(cO:∀i,V.den (ad M φ s.H) φ s.H w (s.env i) (a.tmps.getD i undef)):∀ (rs:List ResultVar) (vs:List V),iT P s rs=some vs->
 ∃vals,(rs.mapM (zu a.tmps)).run P w= .ok vals w/\V.au (ad M φ s.H) φ s.H w vs vals
 |[],vs,h=>by simp[iT]at h;subst h;exact⟨[],by simp,rfl⟩
 | .tmp t::rs,vs,h=>by
   simp only[iT,Option.map_eq_some_iff]at h
   obtain⟨us,h1,rfl⟩:=h
   obtain⟨vals,h2,h3⟩:=nZ l7 cO rs us h1
   exact⟨a.tmps.getD t undef::vals,by simp only[List.mapM_cons,zu,Sem.run_bind,Sem.run_pure,Result.andThen_ok,h2],_,_,rfl,cO t,h3⟩
 | .cell p t::rs,vs,h=>by
   simp only[iT]at h
   split at h
   ·rename_i id off hv
    split at h
    ·rename_i cs ho
     simp only[Option.bind_eq_some_iff,Option.map_eq_some_iff]at h
     obtain⟨v,h0,us,h1,rfl⟩:=h
     obtain⟨vals,h2,h3⟩:=nZ l7 cO rs us h1
     have hx:=cO p
     rw[hv]at hx
     obtain⟨_,hu,hp⟩:=hx
     obtain⟨k,cN,dt⟩:=hp (by show(s.o id).bp=true;rw[ho];rfl)
     have ba:=l7.ok id
     have tE:s.H.o id= .row cs:=ho
     simp only[aC,tE]at ba
     obtain⟨b',cl,ty,g1,g2,g3,g4⟩:=ba
     rw[cN]at g1;simp at g1;subst g1
     obtain⟨val,h4,h5⟩:=lP (P:=P) h0 ⟨k,0,none⟩ cl.toList g3 g4 (fun j u hj=>lQ g2 j u (by simpa using hj)) rfl
     rw[add_plain,Nat.zero_add]at h4
     have h6:(loadVar t ⟨k,off,none⟩).run P w= .ok val w:=by simpa[Instr.loadAt,Instr.sureAddr]using h4
     exact⟨val::vals,by simp only[List.mapM_cons,zu,dt,asAddr,Sem.run_bind,Sem.run_pure,Result.andThen_ok,h6,h2],val,vals,rfl,h5,h3⟩
    ·cases h
   ·cases h
theorem jD{fn:Func}{tmps:Array Value}{vals:List Value}
 (h:(fn.results.toList.mapM (zu tmps)).run P w= .ok vals w):
 (results fn tmps).run P w= .ok (if h:vals.toArray.size=1 then vals.toArray[0]else .tuple vals.toArray) w:=by
 have e:results fn tmps=(do let vs <- fn.results.mapM (zu tmps);pure (if h:vs.size=1 then vs[0]else .tuple vs)):=by
  unfold results
  congr 2
 rw[e,Array.mapM_eq_mapM_toList]
 simp only[Sem.run_bind,Sem.run_map,h,Result.andThen_ok,Sem.run_pure]
theorem kj{us:Nat->Prop}(φ:Place)(hM:∀k,M k->k<w.heap.size):ai M φ ⟨fun _=> .no,us⟩ w where
 ok id:=by simp[aC]
 fresh _ _:=rfl
 apart i j k hi:=by simp[aa.live]at hi
 ours k:=by rintro⟨id,h,_⟩;simp[aa.live]at h
 p7:=hM
theorem xW{vals:Array Value}{m i:Nat}:(vals++Array.replicate m undef).getD i undef=(vals[i]?).getD undef:=by
 simp only[Array.getD_eq_getD_getElem?,Array.getElem?_append]
 split
 ·rfl
 ·rw[Array.getElem?_eq_none (xs:=vals) (by omega)]
  simp only[Array.getElem?_replicate]
  split<;>rfl
structure rI (M:Nat->Prop) (b7:Place) (H0:Hp) (w0:World) (φ:Place) (s:S) (tmps:Array Value) (w:World):Prop where
 heap:ai M φ s.H w
 tr:Trans b7 H0 w0 φ s.H w
 env:∀i,V.den (ad M φ s.H) φ s.H w (s.env i) (tmps.getD i undef)
theorem xX{tmps:Array Value}(hs:rI M b7 H0 w0 φ s tmps w){r:Nat}(h1:w0.heap.size<=r)(h2:w.heap[r]? =some (.deferred (some [])))(h3: ¬bw φ s.H r):
 rI M b7 H0 w0 φ s tmps {w with heap:=w.heap.setIfInBounds r (.deferred none)}:=by
 have eW:∀b,b≠r->(w.heap.setIfInBounds r (.deferred none))[b]? =w.heap[b]? :=fun b hb=>(MapKept.heap_set h2).2 b hb
 have nV:∀b,bR w b-> ¬ad M φ s.H b->(w.heap.setIfInBounds r (.deferred none))[b]? =w.heap[b]? /\ ¬ad M φ s.H b:=by
  intro b hc hn
  refine⟨eW b fun e=> ?_,hn⟩
  subst e
  rcases hc with⟨cs,ty,fz,hc⟩|⟨es,clock,hc⟩
  ·rw[h2]at hc;cases hc
  ·rw[h2]at hc;cases hc
 refine⟨⟨fun id=> ?_,hs.heap.fresh,hs.heap.apart,fun b hb=>⟨(hs.heap.ours b hb).1,by simpa using(hs.heap.ours b hb).2⟩,fun b hb=>by simpa using hs.heap.p7 b hb⟩,⟨⟨hs.tr.bU.os,hs.tr.bU.tape,hs.tr.bU.output,by simpa using hs.tr.bU.size,fun j hj hm=> ?_⟩,hs.tr.grow,hs.tr.rel⟩,fun i=>V.ig nV (cX.refl _ _) _ _ (hs.env i)⟩
 ·exact aC.sV nV (cX.refl _ _) rfl rfl (fun hl b hb=>eW b fun e=>h3 ⟨id,hl,e ▸ hb⟩) (hs.heap.ok id)
 ·rw[eW j (by omega)];exact hs.tr.bU.block j hj hm
theorem eO{fn:Func}{R:Ending->World->Prop}{u:FrameMode}(hu:u≠ .run){tmps tb:Array Value}{ds:List Deferred}(hR:∀w,rI M b7 H0 w0 φ s tb w->LeavesInM (cV none) k P fn tmps R ds u w):
 ∀ (ms:List Nat) (w:World),ms.Nodup->(∀r∈ms,w0.heap.size<=r/\w.heap[r]? =some (.deferred (some []))/\ ¬bw φ s.H r)->rI M b7 H0 w0 φ s tb w->LeavesInM (cV none) k P fn tmps R (ms.map mark++ds) u w
 |[],w,_,_,hs=>hR w hs
 |r::ms,w,hn,hm,hs=>by
  obtain⟨h1,h2,h3⟩:=hm r (by simp)
  obtain⟨CT,CU⟩:=List.nodup_cons.1 hn
  refine⟨hu, .inl ⟨r,{w with heap:=w.heap.setIfInBounds r (.deferred none)},rfl, ?_,eO hu hR ms _ CU (fun r' xL=> ?_) (xX hs h1 h2 h3)⟩⟩
  ·simp[Instr.takeDeferred,getObj,setObj,Sem.run,h2,Result.andThen]
  ·obtain⟨g1,g2,g3⟩:=hm r' (by simp[xL])
   exact⟨g1,((MapKept.heap_set h2).2 r' (fun e=>CT (e ▸ xL))).trans g2,g3⟩
theorem bI.Q6 (hs:bI M b7 H0 w0 n cx φ s a w):rI M b7 H0 w0 φ s a.tmps w:=⟨hs.heap,hs.tr,hs.env⟩
def iX(P:Program)(rs:List ResultVar)(K X:V->(Nat->aa)->Nat->Prop)(e:fq)(s:S):Prop:=
 match e with
 | .normal| .ret=>match iT P s rs with
   |some [v]=>K v s.o s.nx
   |some vs=>K (.bQ vs) s.o s.nx
   |none=>False
 | .bf v=>X v s.o s.nx
 | .exit _=>False
theorem tF{P:Program}{rs:List ResultVar}{K X:V->(Nat->aa)->Nat->Prop}{s:S}(h:iX P rs K X .ret s):∃vs,iT P s rs=some vs/\K (match vs with|[v]=>v|vs=> .bQ vs) s.o s.nx:=by
 unfold iX at h
 simp only at h
 split at h
 ·rename_i v h1;exact⟨[v],h1,h⟩
 ·rename_i vs h1 h2
  refine⟨vs,h2, ?_⟩
  split
  ·exact absurd rfl (h1 _)
  ·exact h
 ·exact h.elim
theorem tG:∀ {vs:List V} {vals:List Value},V.au (ad M φ H) φ H w vs vals->V.den (ad M φ H) φ H w (match vs with|[v]=>v|vs=> .bQ vs) (if h:vals.toArray.size=1 then vals.toArray[0]else .tuple vals.toArray)
 |[],vals,h=>by simp only[V.au]at h;subst h;exact⟨#[],rfl,rfl⟩
 |[v],vals,h=>by obtain⟨u,us,rfl,h1,h2⟩:=h;simp only[V.au]at h2;subst h2;exact h1
 |v::y::l,vals,h=>by
  have h':=h
  obtain⟨u,us,rfl,h1,u2,us2,rfl,h2⟩:=h
  exact⟨(u::u2::us2).toArray,by simp,by simpa using h'⟩
theorem oS{vals:Array Value}{m:Nat}{vs:List V}(hd:V.au (ad M φ H) φ H w vs vals.toList)(i:Nat):V.den (ad M φ H) φ H w (b9 vs i) ((vals++Array.replicate m undef).getD i undef):=by
 have hlen:=V.aq _ _ hd
 simp only[b9,xW]
 cases hx:vs[i]? with
 |none=>
  have:vals[i]? =none:=by
   rw[List.getElem?_eq_none_iff]at hx
   apply Array.getElem?_eq_none
   simp at hlen;omega
  simp only[List.getD_eq_getElem?_getD,hx,this]
  exact⟨#[],rfl,rfl⟩
 |some v=>
  obtain⟨u,hu,Bf⟩:=V.de _ _ _ _ hd hx
  have rn:vals[i]? =some u:=by simpa using hu
  simp only[List.getD_eq_getElem?_getD,hx,rn,Option.getD_some]
  exact Bf
theorem jF{f:FuncId}{fn:Func}{c:Code}{args:Array Value}{w:World}{R:Ending->World->Prop}(hf:P.funcs[f]? =some fn)(hb:fn.body=some c)
 (h:c.oP P none (bodyPostM (cV none) k P fn R) {tmps:=args++Array.replicate (fn.ntmps - args.size) undef,defers:=[]} w):CallsIn (cV none) k P f args w R:=by
 have bz:f<P.funcs.size:=(Array.getElem?_eq_some_iff.1 hf).1
 refine⟨trivial,fun cs hr=> ?_⟩
 let b:Frame:={(default:Frame)with fn:=f,kind:= .normal,roundOf:=none}
 have iW:Frame.enter P f args .normal=b.atR {tmps:=args++Array.replicate (fn.ntmps - args.size) undef,defers:=[]} [.code c]:=by
  simp[Frame.enter,Frame.atR,hf,hb,b]
 obtain⟨e,a',w',hq,bZ⟩:=h b [] cs rfl bz
 rw[<- iW]at bZ
 cases e with
 |normal=>
  obtain⟨e',CA,Hc,hR,hs,xR,hl⟩:=leaves_stepsInM a'.defers .returning w' {b.atR a' []with mode:= .returning} cs rfl rfl rfl hf rfl (trivial:(cV none).fn f) hr hq
  exact⟨e',CA,Hc,hR,ComesIn.of_steps (StepsIn.trans bZ (.one (fenced_calm (n:=0) (fr:=b.atR a' []) trivial eM rfl) (stepR_end rfl))) hs,xR,hl⟩
 |ret=>
  obtain⟨todo,zw⟩:=bZ.1 rfl
  obtain⟨e',CA,Hc,hR,hs,xR,hl⟩:=leaves_stepsInM a'.defers .returning w' {b.atR a' todo with mode:= .returning} cs rfl rfl rfl hf rfl (trivial:(cV none).fn f) hr hq
  exact⟨e',CA,Hc,hR,ComesIn.of_steps zw hs,xR,hl⟩
 |panic chain=>
  obtain⟨todo,zw⟩:=bZ
  obtain⟨e',CA,Hc,hR,hs,xR,hl⟩:=leaves_stepsInM a'.defers (.panicking chain) w' {b.atR a' todo with mode:= .panicking chain} cs rfl rfl rfl hf rfl (trivial:(cV none).fn f) hr hq
  exact⟨e',CA,Hc,hR,ComesIn.of_steps zw hs,xR,hl⟩
 |exit id=>exact hq.elim
 |goto l=>exact hq.elim
 |outgrown=>exact⟨.outgrown,w',b,hq,bZ.resolve_left (by simp[b]),rfl,trivial⟩
def vq(P:Program)(l:Nat)(R:Ending->World->Prop):Exit->Act->World->Prop
 | .normal,_,w=>∃v w',(Instr.endRound l none).run P w= .ok v w'/\R (.returned v) w'
 | .ret,_,w=>∃v w',(Instr.endRound l (some .ret)).run P w= .ok v w'/\R (.returned v) w'
 | .exit id,_,w=>∃v w',(Instr.endRound l (some (.exit id))).run P w= .ok v w'/\R (.returned v) w'
 | .goto _,_,_=>False
 | .panic chain,a,w=>a.defers=[]/\R (.panicked chain) w
 | .outgrown,_,_=>False
theorem oT{l:Nat}{f:FuncId}{tmps:Array Value}{assign body:Code}{w:World}{R:Ending->World->Prop}(hf:f<P.funcs.size)
 (h:assign.oP P (some l) (Exit.then (fun fH ei=>∃mW,(Instr.beginRound l).run P ei= .ok () mW/\body.oP P (some l) (vq P l R) fH mW) (fun e a w=>match e with| .panic chain=>a.defers=[]/\R (.panicked chain) w|_=>False))
  {tmps:=tmps,defers:=[]} w):
 RoundIn Fence.wide n P l f tmps assign body w R:=by
 refine⟨trivial,fun c cs hr=> ?_⟩
 let b:Frame:={(default:Frame)with fn:=f,kind:= .normal,roundOf:=some l}
 have CV:Frame.round l f tmps assign body .normal=b.atR {tmps:=tmps,defers:=[]} [.code assign, .beginRound, .code body]:=by
  simp[Frame.round,Frame.atR,b]
 have calm:∀ (m:Machine),m.fenced P Fence.wide:=fun m=>fenced_wide P m
 have bf:∀ {a:Act} {w:World} {todo:List Item} {chain:List PanicEntry},a.defers=[]->step P (lone {b.atR a todo with mode:= .panicking chain} (c::cs) w)= .next (lone (c.raise chain) cs w):=by
  intro a w todo chain hd
  exact step_leave_panicked (fr:={b.atR a todo with mode:= .panicking chain}) ⟨rfl,hd,P.funcs[f],by show P.funcs[f]? =_;simp[hf]⟩
 obtain⟨e,fH,ei,hq,bZ⟩:=h b [.beginRound, .code body] (c::cs) rfl hf
 rw[<- CV]at bZ
 cases e with
 |normal=>
  obtain⟨mW,SZ,l8⟩:=hq
  have s1:StepsIn (Machine.fenced P Fence.wide) P (lone (b.atR fH [.beginRound, .code body]) (c::cs) ei) (lone (b.atR fH [.code body]) (c::cs) mW):= .one (calm _) (stepR_beginRound rfl SZ)
  obtain⟨DV,Ha,vl,l5,gK⟩:=l8 b [] (c::cs) rfl hf
  have bZ:StepsIn (Machine.fenced P Fence.wide) P _ _:=bZ
  cases DV with
  |normal=>
   obtain⟨v,nL,oR,hR⟩:=l5
   have gK:StepsIn (Machine.fenced P Fence.wide) P _ _:=gK
   exact⟨.returned v,nL,hR,(StepsIn.trans bZ s1).trans (StepsIn.trans gK (.one (calm _) (stepR_round_end rfl rfl oR)))⟩
  |ret=>
   obtain⟨v,nL,oR,hR⟩:=l5
   obtain⟨k₁,hs⟩:=gK.2 rfl
   have hs:StepsIn (Machine.fenced P Fence.wide) P _ _:=hs
   exact⟨.returned v,nL,hR,(StepsIn.trans bZ s1).trans (StepsIn.trans hs (.one (calm _) (stepR_round_ret rfl rfl oR)))⟩
  |exit id=>
   obtain⟨v,nL,oR,hR⟩:=l5
   obtain⟨k₁,hk,hs⟩:=gK.2 rfl rfl
   have hs:StepsIn (Machine.fenced P Fence.wide) P _ _:=hs
   exact⟨.returned v,nL,hR,(StepsIn.trans bZ s1).trans (StepsIn.trans hs (.one (calm _) (stepR_round_exit rfl rfl hk oR)))⟩
  |goto t=>exact l5.elim
  |panic chain=>
   obtain⟨todo,hs⟩:=gK
   have hs:StepsIn (Machine.fenced P Fence.wide) P _ _:=hs
   exact⟨.panicked chain,vl,l5.2,(StepsIn.trans bZ s1).trans (StepsIn.trans hs (.one (calm _) (bf l5.1)))⟩
  |outgrown=>exact l5.elim
 |exit id=>exact hq.elim
 |goto t=>exact hq.elim
 |ret=>exact hq.elim
 |panic chain=>
  obtain⟨todo,hs⟩:=bZ
  have hs:StepsIn (Machine.fenced P Fence.wide) P _ _:=hs
  exact⟨.panicked chain,ei,hq.2,StepsIn.trans hs (.one (calm _) (bf hq.1))⟩
 |outgrown=>exact hq.elim
theorem ft.wA {f:FuncId}{fn:Func}{c:Code}{args:List V}{o:Nat->aa}{nx:Nat}{K X:V->(Nat->aa)->Nat->Prop}(hf:P.funcs[f]? =some fn)(hn:(fn.name== "runtime.NumGoroutine")=false)(l8:fn.body=some c)(hl:args.length<=fn.ntmps)
 (h:fA P fn.ntmps nx false c (iX P fn.results.toList K X) ⟨b9 args,o,nx⟩):ft P f args o nx K X:=by
 refine⟨⟨fn,hf,hn,by rw[l8];rfl⟩,fun M φ w vals hH hd=> ?_⟩
 have hlen:=V.aq _ _ hd
 let s0:S:=⟨b9 args,o,nx⟩
 let a0:Act:={tmps:=vals++Array.replicate (fn.ntmps - vals.size) undef,defers:=[]}
 have rJ:bI M φ (hp o nx) w fn.ntmps ⟨[],false⟩ φ s0 a0 w:=by
  refine⟨hH,Trans.refl _ _ _, ?_,⟨[],rfl,List.nodup_nil,fun _=>rfl,fun r hr=>by cases hr⟩,oS hd⟩
  simp only[a0,Array.size_append,Array.size_replicate];simp at hlen;omega
 refine tw (ro:=none) (k:=0) (jF hf l8 (eN (eX (P:=P) (H0:=hp o nx) (b:=nx) (cx:=⟨[],false⟩) (ro:=none) (fun id hu=>hu) (fun _=>rfl) c _ s0 φ a0 w h rJ) ?_))
 rintro e a w' ⟨x,s,aj,hq,hs,hm⟩
 obtain⟨ms,g1,g2,g3,g4⟩:=hs.defers
 rw[List.append_nil]at g1
 have done:(x= .normal\/x= .ret)->LeavesInM (cV none) 0 P fn a.tmps (jy M φ (hp o nx) w K X) a.defers .returning w':=by
  intro hx
  have S0:iX P fn.results.toList K X .ret s:=by rcases hx with rfl|rfl<;>exact hq
  obtain⟨vs,h1,h2⟩:=tF S0
  rw[g1]
  have:=eO (P:=P) (k:=0) (fn:=fn) (R:=jy M φ (hp o nx) w K X) (u:= .returning) (by simp) (ds:=[]) (fun w2 hb=>by
   obtain⟨vals,h3,h4⟩:=nZ (P:=P) (a:=a) hb.heap hb.env _ _ h1
   exact⟨_,jD h3,aj,s.o,s.nx,_,hb.heap,hb.tr,tG h4,h2⟩) ms w' g2 g4 hs.Q6
  rwa [List.append_nil]at this
 cases e<;>cases x<;>first|(exact hm.elim)|skip
 ·exact done (.inl rfl)
 ·exact hq.elim
 ·exact done (.inr rfl)
 ·rename_i v
  obtain⟨val,rfl,Oi⟩:=hm
  show LeavesInM (cV none) 0 P fn a.tmps (jy M φ (hp o nx) w K X) a.defers _ w'
  rw[g1]
  have CV:rI M φ (hp o nx) w aj ⟨fun i=>if i=0 then v else .ak,s.o,s.nx⟩ #[val] w':=⟨hs.heap,hs.tr,fun i=>by
   by_cases hi:i=0
   ·subst hi;exact Oi
   ·simp only[hi,if_false];trivial⟩
  have:=eO (P:=P) (k:=0) (fn:=fn) (s:=⟨fun i=>if i=0 then v else .ak,s.o,s.nx⟩) (tmps:=a.tmps) (tb:=#[val]) (b7:=φ) (H0:=hp o nx) (w0:=w) (R:=jy M φ (hp o nx) w K X) (u:= .panicking [{v:=val,recovered:=false}]) (by simp) (ds:=[]) (fun w2 hb=>by
   have h0:=hb.env 0
   exact⟨aj,s.o,s.nx,v,hb.heap,hb.tr,val,rfl,h0,hq⟩) ms w' g2 g4 CV
  rwa [List.append_nil]at this
theorem bJ.la {f:FuncId}{ds:List D}{out:R}(h:ft P f (ds.map .d) (fun _=> .no) 0 (fun v o _=>∃vs rs,v=(match vs with|[v]=>v|vs=> .bQ vs)/\bG o vs=some rs/\out= .ret rs) (fun v o _=>∃x,dn o v=some x/\out= .bf x)):bJ P f ds out:=by
 refine⟨h.1,fun M w vals hM hd=> ?_⟩
 let b7:Place:=fun _=> .nilFunc
 have rK:∀b, ¬bw b7 (hp (fun _=> .no) 0) b:=by rintro b ⟨id,hl,_⟩;simp[hp,aa.live]at hl
 refine(h.2 M b7 w vals (kj b7 hM) ((V.bV _ _).2 (D.aB (w:=w) (w':=w) (B:=M) (fun b _ hB=>⟨rfl,fun h=>h.elim hB (rK b)⟩) _ _ hd))).mono ?_
 rintro e w' ⟨aj,o',nx',v,k1,k2,k3⟩
 have Hd:dJ (fun _=>False) w w':=⟨k2.bU.os,k2.bU.tape,k2.bU.output,k2.bU.size,fun k hk _=>k2.bU.block k hk (rK k)⟩
 have fin:∀ (vs:List V) (xs:List D) (vals:List Value),bG o' vs=some xs->V.au (ad M aj (hp o' nx')) aj (hp o' nx') w' vs vals->D.au M w' xs vals:=by
  intro vs xs vals h1 h2
  obtain⟨f1,f2,f3,f4,f5⟩:=cB k1 (V.aR vs) (bW vs _ h2)
  have h3:=cI f1 vs xs vals f3 h1 (V.aB f2 _ _ h2)
  exact D.aB (w:=w') (w':=w') (fun k _ hB=>⟨rfl,fun hM=>hB (.inl hM)⟩) xs vals h3
 refine⟨Hd, ?_⟩
 cases e with
 |outgrown=>exact k3.elim
 |panicked ch=>
  obtain⟨val,rfl,g1,x,g2,rfl⟩:=k3
  have:=fin [v] [x] [val] (by simp[bG,g2]) ⟨val,[],rfl,g1,rfl⟩
  obtain⟨u,us,he,h2,_⟩:=this
  simp at he;obtain⟨rfl,rfl⟩:=he
  exact⟨val,rfl,h2⟩
 |returned val=>
  obtain⟨g1,vs,rs,rfl,g2,rfl⟩:=k3
  match vs,g1,g2 with
  |[],g1,g2=>
   obtain⟨arr,rfl,hv⟩:=g1
   simp only[bG,Option.some.injEq]at g2;subst g2
   exact⟨arr,rfl,hv⟩
  |[v],g1,g2=>
   have:=fin [v] rs [val] g2 ⟨val,[],rfl,g1,rfl⟩
   cases rs with
   |nil=>cases this
   |cons x l=>
    obtain⟨u,us,he,h2,h3⟩:=this
    simp at he;obtain⟨rfl,rfl⟩:=he
    cases l with
    |nil=>exact h2
    |cons y l=>obtain⟨_,_,h,_⟩:=h3;cases h
  |v::v2::l,g1,g2=>
   obtain⟨arr,rfl,h⟩:=g1
   have:=fin (v::v2::l) rs arr.toList g2 h
   have hl:=D.aq _ _ this
   have He:=V.aq _ _ h
   match rs,hl,this with
   |[],hl,_=>rw[He]at hl;simp at hl
   |[x],hl,_=>rw[He]at hl;simp at hl
   |x::y::l,_,this=>exact⟨arr,rfl,this⟩
theorem xY{rs:List ResultVar}{out:R}(e:fq)(s:S)(h:vk P rs out e s):
 iX P rs (fun v o _=>∃vs rs,v=(match vs with|[v]=>v|vs=> .bQ vs)/\bG o vs=some rs/\out= .ret rs) (fun v o _=>∃x,dn o v=some x/\out= .bf x) e s:=by
 have ret:vk P rs out .ret s->iX P rs (fun v o _=>∃vs rs,v=(match vs with|[v]=>v|vs=> .bQ vs)/\bG o vs=some rs/\out= .ret rs) (fun v o _=>∃x,dn o v=some x/\out= .bf x) .ret s:=by
  intro h
  obtain⟨vs,xs,h1,h2,h3⟩:=zl h
  simp only[iX,h1]
  match vs,h2 with
  |[],h2=>exact⟨[],xs,rfl,h2,h3⟩
  |[v],h2=>exact⟨[v],xs,rfl,h2,h3⟩
  |v::v2::l,h2=>exact⟨v::v2::l,xs,rfl,h2,h3⟩
 cases e with
 |normal=>exact ret h
 |ret=>exact ret h
 |exit id=>exact h.elim
 |bf v=>exact zm h
end
end Go.Proofs.YtpkobkdgcanmjaaGreat
namespace Go.Proofs.YtpkobkdgcanmjaaGreat
def zx{α:Type}(c:Bool)(x:α):Option α:=if c=true then some x else none
def one(v:V):Option eQ:=some (v,[],[])
def tH(op:BinOp)(k:IntKind)(a b:Int):Option V:=
 match op with
 | .add=>some (.d (.int k (k.wrap (a+b))))
 | .sub=>some (.d (.int k (k.wrap (a - b))))
 | .mul=>some (.d (.int k (k.wrap (a*b))))
 | .quo=>if b=0 then none else some (.d (.int k (k.wrap (a.tdiv b))))
 | .rem=>if b=0 then none else some (.d (.int k (a.tmod b)))
 | .and=>(ov .and k a b).map fun r=> .d (.int k r)
 | .or=>(ov .or k a b).map fun r=> .d (.int k r)
 | .xor=>(ov .xor k a b).map fun r=> .d (.int k r)
 | .andNot=>(ov .andNot k a b).map fun r=> .d (.int k r)
 | .eql=>some (.d (.bool (a==b)))| .neq=>some (.d (.bool (a !=b)))| .lss=>some (.d (.bool (decide (a<b))))| .leq=>some (.d (.bool (decide (a<=b))))
 | .gtr=>some (.d (.bool (decide (b<a))))| .geq=>some (.d (.bool (decide (b<=a))))
 |_=>none
def aD(P:Program)(t:TypeId):Bool:=
 match P.underlying t with
 |some .bool=>true
 |_=>false
def rL(P:Program)(op:BinOp)(t:TypeId)(x y:V):Option V:=
 match x,y with
 | .d (.int k a), .d (.int k' b)=>if k=k' then tH op k a b else none
 | .d (.bool a), .d (.bool b)=>match op with
   | .eql=>zx (aD P t) (.d (.bool (a==b)))
   | .neq=>zx (aD P t) (.d (.bool (a !=b)))
   |_=>none
 | .d (.str a), .d (.str b)=>match op with
   | .eql=>some (.d (.bool (a==b)))
   | .neq=>some (.d (.bool (a !=b)))
   |_=>none
 |_,_=>none
def Oj(op:UnOp)(x:V):Option V:=
 match op,x with
 | .neg, .d (.int k n)=>some (.d (.int k (k.wrap (-n))))
 | .not, .d (.bool b)=>some (.d (.bool !b))
 |_,_=>none
def l9(c a b:V):Option V:=
 match c with
 | .d (.bool true)=>some a
 | .d (.bool false)=>some b
 |_=>none
def ma(o:Nat->aa)(x:V):Option (List D×List Nat):=
 match x with
 | .d (.sl es)=>some (es,[])
 | .aM=>some ([],[])
 | .kQ es=>some (es,[])
 | .osl id ep=>match o id with
   | .arr eR _ _ es=>if ep=eR then some (es,[id])else none
   | .lG eR es=>if ep=eR then some (es,[id])else none
   |_=>none
 |_=>none
def vr(P:Program)(t:TypeId)(o:Nat->aa)(x:V):Option eQ:=
 match P.underlying t with
 |some (.slice _)=>match ma o x with
  |some (es,rd)=>some (.d (.int .i64 es.length),[],rd)
  |none=>none
 |some .string=>match x with
  | .d (.str s)=>one (.d (.int .i64 s.length))
  |_=>none
 |some (.array n _)=>one (.d (.int .i64 n))
 |_=>none
def qE(P:Program)(e:TypeId)(es:List D)(i:Int)(rd:List Nat):Option eQ:=
 if 0<=i then match es[i.toNat]? with
  |some y=>zx (y.cells.length==P.cellsOf e&&0<P.cellsOf e) (.pp y.cells 0,[],rd)
  |none=>none
 else none
def kM(o:Nat->aa)(x:V)(q:Nat):Option V:=
 match x with
 | .ptr id off=>zx (o id).bp (.ptr id (off+q))
 | .pp cs off=>some (.pp cs (off+q))
 | .pe id ep j sz off=>if(o id).aP=some ep then some (.pe id ep j sz (off+q))else none
 |_=>none
def eY(P:Program)(o:Nat->aa)(t:TypeId)(x ix:V):Option eQ:=
 match ix with
 | .d (.int _ i)=>match aI P t with
   |some e=>match x with
    | .d (.sl es)=>qE P e es i []
    | .kQ es=>qE P e es i []
    | .osl id ep=>match o id with
      | .arr eR _ sz es=>if ep=eR/\0<=i/\i.toNat<es.length/\sz=P.cellsOf e/\0<P.cellsOf e then some (.pe id ep i.toNat sz 0,[],[id])else none
      | .lG eR es=>if ep=eR then qE P e es i [id]else none
      |_=>none
    |_=>none
   |none=>match bE P t with
    |some (n,e)=>if 0<=i/\i<n/\(P.info? e).isSome=true then(kM o x (i.toNat*P.cellsOf e)).bind one else none
    |none=>none
 |_=>none
def eZ(P:Program)(o:Nat->aa)(t:TypeId)(x:V)(f:Nat):Option V:=
 match bC P t f with
 |some q=>kM o x q
 |none=>none
def jG(P:Program)(o:Nat->aa)(t:TypeId)(x:V):Option eQ:=
 match x with
 | .ptr id off=>match o id with
   | .row cs=>match dD P t cs off with
     |some v=>some (v,[],[id])
     |none=>none
   |_=>none
 | .pp cs off=>match dD P t (cs.map .d) off with
   |some v=>some (v,[],[])
   |none=>none
 | .pe id ep i sz off=>match o id with
   | .arr eR _ kB es=>if ep=eR/\sz=kB then match es[i]? with
    |some e=>match dD P t (e.cells.map .d) off with
     |some v=>some (v,[],[id])
     |none=>none
    |none=>none
     else none
   |_=>none
 |_=>none
def mX(P:Program)(o:Nat->aa)(t:TypeId)(x v:V):Option eQ:=
 match x with
 | .ptr id off=>match o id with
   | .row cs=>match rk P t cs off v with
     |some cs'=>some (.bQ [],[(id, .row cs')],[id])
     |none=>none
   |_=>none
 | .pe id ep i kB off=>match o id with
   | .arr eR ty sz es=>if ep=eR/\kB=sz then match es[i]?,dn o v with
    |some e,some y=>if y.cells.length=P.cellsOf t/\0<y.cells.length/\v.ids.all (· !=id)=true then match e.put off y.cells with
     |some e'=>some (.bQ [],cn o v.ids++[(id, .arr ep ty sz (es.set i e'))],id::v.ids)
     |none=>none
     else none
    |_,_=>none
     else none
   |_=>none
 |_=>none
def eA(P:Program)(o:Nat->aa)(fr:Nat)(t:TypeId)(len:Nat)(parts:List (Nat×V)):Option eQ:=
 match aI P t with
 |some e=>if len=0/\parts.isEmpty=true/\0<P.cellsOf e then some (.osl fr 0,[(fr, .arr 0 e (P.cellsOf e) [])],[])else if parts.map (·.1)=List.range len/\(aN P e).isSome=true/\0<len/\0<P.cellsOf e/\len*P.cellsOf e<=2^24 then match bG o (parts.map (·.2))with
  |some ds=>if ds.all (fun x=>x.cells.length==P.cellsOf e)=true then some (.osl fr 0,cn o (V.aR (parts.map (·.2)))++[(fr, .arr 0 e (P.cellsOf e) ds)],V.aR (parts.map (·.2)))else none
  |none=>none
  else none
 |none=>none
def iY(P:Program)(fr:Nat)(t:TypeId)(l c:V):Option eQ:=
 match aI P t with
 |some e=>match l,c with
  | .d (.int _ n), .d (.int _ m)=>if n=m/\0<=n/\0<P.cellsOf e/\P.bytesOf e*n.toNat<=2^47/\n.toNat<=2^47 then match aT P e with
   |some x=>some (.osl fr 0,[(fr, .arr 0 e (P.cellsOf e) (List.replicate n.toNat x))],[])
   |none=>none
    else none
  |_,_=>none
 |none=>none
def mb(P:Program)(o:Nat->aa)(fr:Nat)(ts:Array TypeId)(x y:V):Option eQ:=
 match ts.toList with
 |[t,t']=>if t=t' then match aI P t,ma o y with
    |some e,some (new,rd)=>if 0<P.cellsOf e/\(aN P e).isSome=true/\new.all (fun z=>z.cells.length==P.cellsOf e)=true then match x with
     | .aM=>if new.length<=2^47/\new.length*P.bytesOf e<=2^47 then some (.osl fr 0,[(fr, .arr 0 e (P.cellsOf e) new)],rd)else none
     | .kQ es=>if es.all (fun z=>z.cells.length==P.cellsOf e)=true then(if new=[]then some (.kQ es,[],rd)else if es.length+new.length<=2^40/\(es.length+new.length)*P.bytesOf e<=2^40 then some (.osl fr 0,[(fr, .arr 0 e (P.cellsOf e) (es++new))],rd)else none)else none
     | .osl id ep=>match o id with
       | .arr eR ty sz es=>if ep=eR/\ty=e/\sz=P.cellsOf e/\es.length+new.length<=2^47/\(es.length+new.length)*P.bytesOf e<=2^47 then
        some (.osl id (ep+1),[(id, .arr (ep+1) ty sz (es++new))],id::rd)else none
       |_=>none
     |_=>none
     else none
    |_,_=>none
  else none
 |_=>none
def mc(isMax:Bool)(x y:V):Option V:=
 match x,y with
 | .d (.int k a), .d (.int k' b)=>if k=k' then some (.d (.int k (if isMax then(if b>a then b else a)else(if b<a then b else a))))else none
 |_,_=>none
def iZ(x:Option V):Option eQ:=match x with|some v=>one v|none=>none
def me(P:Program)(s:S)(fr:Nat)(b:Builtin)(args:List Operand)(ts:Array TypeId):Option eQ:=
 match b,args with
 | .len,[x]=>match ts.toList with
   |[t]=>vr P t s.o (s.ev x)
   |_=>none
 | .append,[x,y]=>mb P s.o fr ts (s.ev x) (s.ev y)
 | .max,[x,y]=>iZ (mc true (s.ev x) (s.ev y))
 | .min,[x,y]=>iZ (mc false (s.ev x) (s.ev y))
 | .max,[x,y,z]=>iZ (yV (s.ev x) (s.ev y) (s.ev z))
 | .copy,[x,y]=>ql P s.o ts (s.ev x) (s.ev y)
 | .delete,[x,y]=>match ts.toList.head? with
   |some t=>j9 P s.o t (s.ev x) (s.ev y)
   |none=>none
 |_,_=>none
def rM(P:Program)(t:TypeId)(parts:List (Nat×V)):Option V:=
 match aN P t,cA P t with
 |some z,some pl=>match ng pl z parts with
  |some cs=>some (dC cs)
  |none=>none
 |_,_=>none
def fM(o:Nat->aa)(x:V):Option V:=
 match x with
 | .ptr id off=>zx (o id).bp (.ptr id off)
 | .pp cs off=>some (.pp cs off)
 | .func (.func f) first cap=>some (.func (.func f) first cap)
 |_=>none
def ag(P:Program)(t:TypeId):Bool:=
 match P.underlying t with
 |some (.interface _)=>false
 |some _=>true
 |none=>false
def zy(P:Program)(t:TypeId)(x:V):Option V:=
 zx (ag P t) (match x with
  | .d y=> .d (.iface t y)
  |v=> .iface t v)
def cz(P:Program)(o:Nat->aa)(op:BinOp)(t:TypeId)(kT:Bool)(x y:V):Option eQ:=
 match rL P op t x y with
 |some v=>one v
 |none=>mP P o op t kT x y
def tI(op:UnOp)(x:V):Option V:=
 match op,x with
 | .not, .dB=>some .dB
 |op,x=>Oj op x
def eG(P:Program)(s:S)(fr:Nat)(op:Op):Option eQ:=
 match op with
 | .move x=>one (s.ev x)
 | .assign x=>one (s.ev x)
 | .pick c a b=>iZ (l9 (s.ev c) (s.ev a) (s.ev b))
 | .alloc t=>match aN P t with
   |some cs=>some (.ptr fr 0,[(fr, .row cs)],[])
   |none=>none
 | .box _ x=>match(s.ev x).cells with
   |some cs=>some (.ptr fr 0,[(fr, .row cs)],[])
   |none=>none
 | .build t parts=>iZ (rM P t (parts.toList.map fun p=>(p.1,s.ev p.2)))
 | .buildSlice t len parts=>eA P s.o fr t len (parts.toList.map fun p=>(p.1,s.ev p.2))
 | .load t x=>jG P s.o t (s.ev x)
 | .store t x v=>mX P s.o t (s.ev x) (s.ev v)
 | .nilCheck x=>iZ (fM s.o (s.ev x))
 | .binOp op t x y _=>cz P s.o op t (isConst x||isConst y) (s.ev x) (s.ev y)
 | .unOp op _ x=>iZ (tI op (s.ev x))
 | .convert u t x=>match P.underlying u,bL P t,s.ev x with
   |some _,some k, .d (.int _ n)=>one (.d (.int k (k.wrap n)))
   |_,_,_=>none
 | .makeInterface t x=>iZ (zy P t (s.ev x))
 | .makeFunc fn first cap=>one (.func fn (first.toList.map s.ev) (cap.toList.map s.ev))
 | .makeSlice t l c=>iY P fr t (s.ev l) (s.ev c)
 | .fieldAddr t x f=>iZ (eZ P s.o t (s.ev x) f)
 | .indexAddr t x i=>eY P s.o t (s.ev x) (s.ev i)
 | .extract x i=>match s.ev x with
   | .bQ vs=>match vs[i]? with
     |some v=>one v
     |none=>none
   |_=>none
 | .call c=>match c.callee with
   | .builtin b=>me P s fr b c.args.toList c.argTypes
   |_=>none
 | .slice t x lo hi mx=>mL P s.o t (s.ev x) (lo.map s.ev) (hi.map s.ev) (mx.map s.ev)
 | .field t x f=>iZ (ox P t (s.ev x) f)
 | .index t x i=>iZ (oy P t (s.ev x) (s.ev i))
 | .typeAssert x _ t ok=>iZ (lJ P t ok (s.ev x))
 | .makeMap t none=>jr P fr t
 | .lookup t m k ok=>iL P s.o t (s.ev m) (s.ev k) ok
 | .mapUpdate t m k v=>ff P s.o t (s.ev m) (s.ev k) (s.ev v)
 | .insert t m k v=>ff P s.o t (s.ev m) (s.ev k) (s.ev v)
 | .range t x=>js P s.o fr t (s.ev x)
 | .next x str=>kI s.o (s.ev x) str
 | .entry x=>jt s.o (s.ev x)
 |_=>none
section
variable {P:Program}{s:S}{fr:Nat}{v:V}{Δ:List (Nat×aa)}{rd:List Nat}{o:Nat->aa}{K:V->List (Nat×aa)->List Nat->Prop}
theorem mY{α:Type}{c:Bool}{x y:α}(h:zx c x=some y):c=true/\x=y:=by
 unfold zx at h;split at h
 ·injection h with h;exact⟨by assumption,h⟩
 ·cases h
theorem gS{x:V}{r:eQ}(h:one x=some r):r=(x,[],[]):=by unfold one at h;injection h with h;exact h.symm
theorem dZ{x:Option V}{r:eQ}(h:iZ x=some r):∃v,x=some v/\r=(v,[],[]):=by
 unfold iZ at h;split at h
 ·exact⟨_,rfl,gS h⟩
 ·cases h
theorem vu{x:V}{es:List D}{rd:List Nat}(h:ma o x=some (es,rd)):dE o x=some es/\rd=x.ids:=by
 unfold ma at h
 split at h
 ·simp at h;obtain⟨rfl,rfl⟩:=h;exact⟨rfl,rfl⟩
 ·simp at h;obtain⟨rfl,rfl⟩:=h;exact⟨rfl,rfl⟩
 ·simp at h;obtain⟨rfl,rfl⟩:=h;exact⟨rfl,rfl⟩
 ·split at h
  ·rename_i ho
   split at h
   ·rename_i e;simp at h;obtain⟨rfl,rfl⟩:=h;exact⟨by simp[dE,dn,ho,e],rfl⟩
   ·cases h
  ·rename_i ho
   split at h
   ·rename_i e;simp at h;obtain⟨rfl,rfl⟩:=h;exact⟨by simp[dE,dn,ho,e],rfl⟩
   ·cases h
  ·cases h
 ·cases h
theorem xZ{op:BinOp}{k:IntKind}{a b:Int}{v:V}(h:tH op k a b=some v){K:V->Prop}(hK:K v):Ba op k a b K:=by
 cases op<;>simp only[tH]at h<;>simp only[Ba]
 case quo=>split at h
           ·cases h
           ·injection h with h;subst h;exact⟨by assumption,hK⟩
 case rem=>split at h
           ·cases h
           ·injection h with h;subst h;exact⟨by assumption,hK⟩
 case and=>simp only[Option.map_eq_some_iff]at h;obtain⟨r,h1,rfl⟩:=h;exact⟨r,h1,hK⟩
 case or=>simp only[Option.map_eq_some_iff]at h;obtain⟨r,h1,rfl⟩:=h;exact⟨r,h1,hK⟩
 case xor=>simp only[Option.map_eq_some_iff]at h;obtain⟨r,h1,rfl⟩:=h;exact⟨r,h1,hK⟩
 case andNot=>simp only[Option.map_eq_some_iff]at h;obtain⟨r,h1,rfl⟩:=h;exact⟨r,h1,hK⟩
 case shl=>cases h
 case shr=>cases h
 case eql=>injection h with h;subst h;exact⟨_,rfl,hK⟩
 case neq=>injection h with h;subst h;exact⟨_,rfl,hK⟩
 case lss=>injection h with h;subst h;exact⟨_,rfl,hK⟩
 case leq=>injection h with h;subst h;exact⟨_,rfl,hK⟩
 case gtr=>injection h with h;subst h;exact⟨_,rfl,hK⟩
 case geq=>injection h with h;subst h;exact⟨_,rfl,hK⟩
 all_goals (injection h with h;subst h;exact hK)
theorem x3{op:BinOp}{t:TypeId}{x y v:V}(h:rL P op t x y=some v){K:V->Prop}(hK:K v):yS P op t x y K:=by
 unfold rL at h
 unfold yS
 split at h
 ·split at h
  ·exact⟨by assumption,xZ h hK⟩
  ·cases h
 ·have hb:aD P t=true->P.underlying t=some .bool:=by
   unfold aD;intro h;split at h
   ·assumption
   ·cases h
  split at h
  ·obtain⟨h1,rfl⟩:=mY h;exact⟨hb h1,hK⟩
  ·obtain⟨h1,rfl⟩:=mY h;exact⟨hb h1,hK⟩
  ·cases h
 ·split at h
  ·injection h with h;subst h;exact hK
  ·injection h with h;subst h;exact hK
  ·cases h
 ·cases h
theorem vw{c a b v:V}(h:l9 c a b=some v){K:V->Prop}(hK:K v):sP c a b K:=by
 unfold l9 at h
 unfold sP
 split at h
 ·injection h with h;subst h;exact⟨fun _=>hK,(fun h=>by cases h)⟩
 ·injection h with h;subst h;exact⟨(fun h=>by cases h),fun _=>hK⟩
 ·cases h
theorem oU{x y:V}{q:Nat}(h:kM o x q=some y):(∃id off,x= .ptr id off/\(o id).bp=true/\y= .ptr id (off+q))\/(∃cs off,x= .pp cs off/\y= .pp cs (off+q))\/
 (∃id ep j sz off,x= .pe id ep j sz off/\(o id).aP=some ep/\y= .pe id ep j sz (off+q)):=by
 unfold kM at h
 split at h
 ·obtain⟨h1,rfl⟩:=mY h;exact .inl ⟨_,_,rfl,h1,rfl⟩
 ·injection h with h;exact .inr (.inl ⟨_,_,rfl,h.symm⟩)
 ·split at h
  ·injection h with h;exact .inr (.inr ⟨_,_,_,_,_,rfl,by assumption,h.symm⟩)
  ·cases h
 ·cases h
theorem lb{e:TypeId}{es:List D}{i:Int}{rd:List Nat}{r:eQ}(h:qE P e es i rd=some r):
 0<=i/\∃y,es[i.toNat]? =some y/\y.cells.length=P.cellsOf e/\0<P.cellsOf e/\r=(.pp y.cells 0,[],rd):=by
 unfold qE at h
 split at h
 ·rename_i h0
  split at h
  ·rename_i y hy
   obtain⟨h1,rfl⟩:=mY h
   simp only[Bool.and_eq_true,beq_iff_eq,decide_eq_true_eq]at h1
   exact⟨h0,y,hy,h1.1,h1.2,rfl⟩
  ·cases h
 ·cases h
theorem nM{t:TypeId}{x ix:V}(h:eY P o t x ix=some (v,Δ,rd))(hK:K v Δ rd):fS P o t x ix fun v rd=>K v [] rd:=by
 unfold eY at h
 unfold fS
 split at h
 ·simp only
  split at h
  ·rename_i e ht
   simp only[ht]
   split at h
   ·obtain⟨h0,y,h1,h2,h3,h4⟩:=lb h
    simp only[Prod.mk.injEq]at h4;obtain⟨rfl,rfl,rfl⟩:=h4
    exact⟨h0,y,h1,h2,h3,hK⟩
   ·obtain⟨h0,y,h1,h2,h3,h4⟩:=lb h
    simp only[Prod.mk.injEq]at h4;obtain⟨rfl,rfl,rfl⟩:=h4
    exact⟨h0,y,h1,h2,h3,hK⟩
   ·split at h
    ·rename_i ho
     split at h
     ·rename_i hc
      simp only[Option.some.injEq,Prod.mk.injEq]at h;obtain⟨rfl,rfl,rfl⟩:=h
      simp only[ho]
      exact⟨hc.1,hc.2.1,hc.2.2.1,hc.2.2.2.1,hc.2.2.2.2,hK⟩
     ·cases h
    ·rename_i ho
     split at h
     ·rename_i hc
      obtain⟨h0,y,h1,h2,h3,h4⟩:=lb h
      simp only[Prod.mk.injEq]at h4;obtain⟨rfl,rfl,rfl⟩:=h4
      simp only[ho]
      exact⟨hc,h0,y,h1,h2,h3,hK⟩
     ·cases h
    ·cases h
   ·cases h
  ·rename_i ht
   simp only[ht]
   split at h
   ·rename_i n e ha
    simp only[ha]
    split at h
    ·rename_i hc
     simp only[Option.bind_eq_some_iff]at h
     obtain⟨y,hy,h1⟩:=h
     have h1:=gS h1
     simp only[Prod.mk.injEq]at h1;obtain⟨rfl,rfl,rfl⟩:=h1
     refine⟨hc.1,hc.2.1,hc.2.2, ?_⟩
     rcases oU hy with⟨_,_,rfl,h2,rfl⟩|⟨_,_,rfl,rfl⟩|⟨_,_,_,_,_,rfl,h2,rfl⟩
     ·exact⟨h2,hK⟩
     ·exact hK
     ·exact⟨h2,hK⟩
    ·cases h
   ·cases h
 ·cases h
theorem nN{t:TypeId}{x y:V}{f:Nat}(h:eZ P o t x f=some y){K:V->Prop}(hK:K y):fT P o t x f K:=by
 unfold eZ at h
 unfold fT
 split at h
 ·rename_i q hq
  simp only[hq]
  rcases oU h with⟨_,_,rfl,h2,rfl⟩|⟨_,_,rfl,rfl⟩|⟨_,_,_,_,_,rfl,h2,rfl⟩
  ·exact⟨h2,hK⟩
  ·exact hK
  ·exact⟨h2,hK⟩
 ·cases h
theorem x4{t:TypeId}{x:V}(h:vr P t o x=some (v,Δ,rd))(hK:K v Δ rd):yT P t o x fun v rd=>K v [] rd:=by
 unfold vr at h
 unfold yT
 split at h
 ·rename_i e hu
  simp only[hu]
  split at h
  ·rename_i es qF hl
   simp only[Option.some.injEq,Prod.mk.injEq]at h;obtain⟨rfl,rfl,rfl⟩:=h
   unfold ma at hl
   split at hl
   ·simp at hl;obtain⟨rfl,rfl⟩:=hl;exact hK
   ·simp at hl;obtain⟨rfl,rfl⟩:=hl;exact hK
   ·simp at hl;obtain⟨rfl,rfl⟩:=hl;exact hK
   ·split at hl
    ·rename_i ho
     split at hl
     ·rename_i hc;simp at hl;obtain⟨rfl,rfl⟩:=hl;simp only[ho];exact⟨hc,hK⟩
     ·cases hl
    ·rename_i ho
     split at hl
     ·rename_i hc;simp at hl;obtain⟨rfl,rfl⟩:=hl;simp only[ho];exact⟨hc,hK⟩
     ·cases hl
    ·cases hl
   ·cases hl
  ·cases h
 ·rename_i hu
  simp only[hu]
  split at h
  ·have h1:=gS h;simp only[Prod.mk.injEq]at h1;obtain⟨rfl,rfl,rfl⟩:=h1;exact hK
  ·cases h
 ·rename_i hu
  simp only[hu]
  have h1:=gS h;simp only[Prod.mk.injEq]at h1;obtain⟨rfl,rfl,rfl⟩:=h1;exact hK
 ·cases h
theorem vx{t:TypeId}{x:V}(h:jG P o t x=some (v,Δ,rd))(hK:K v Δ rd):sQ P o t x fun v rd=>K v [] rd:=by
 unfold jG at h
 unfold sQ
 split at h
 ·split at h
  ·rename_i ho
   split at h
   ·rename_i hg
    simp only[Option.some.injEq,Prod.mk.injEq]at h;obtain⟨rfl,rfl,rfl⟩:=h
    simp only[ho];exact⟨_,hg,hK⟩
   ·cases h
  ·cases h
 ·split at h
  ·rename_i hg
   simp only[Option.some.injEq,Prod.mk.injEq]at h;obtain⟨rfl,rfl,rfl⟩:=h
   exact⟨_,hg,hK⟩
  ·cases h
 ·split at h
  ·rename_i ho
   split at h
   ·rename_i hc
    split at h
    ·rename_i e he
     split at h
     ·rename_i hg
      simp only[Option.some.injEq,Prod.mk.injEq]at h;obtain⟨rfl,rfl,rfl⟩:=h
      simp only[ho];exact⟨hc.1,hc.2,e,he,_,hg,hK⟩
     ·cases h
    ·cases h
   ·cases h
  ·cases h
 ·cases h
theorem tJ{t:TypeId}{x y:V}(h:mX P o t x y=some (v,Δ,rd))(hK:K v Δ rd):ow P o t x y fun Δ rd=>K (.bQ []) Δ rd:=by
 unfold mX at h
 unfold ow
 split at h
 ·split at h
  ·rename_i ho
   split at h
   ·rename_i hg
    simp only[Option.some.injEq,Prod.mk.injEq]at h;obtain⟨rfl,rfl,rfl⟩:=h
    simp only[ho];exact⟨_,hg,hK⟩
   ·cases h
  ·cases h
 ·split at h
  ·rename_i ho
   split at h
   ·rename_i hc
    split at h
    ·rename_i e z he hz
     split at h
     ·rename_i hl
      split at h
      ·rename_i e' hp
       simp only[Option.some.injEq,Prod.mk.injEq]at h;obtain⟨rfl,rfl,rfl⟩:=h
       simp only[ho]
       exact⟨hc.1,hc.2,e,he,z,hz,hl.1,hl.2.1,hl.2.2,e',hp,hK⟩
      ·cases h
     ·cases h
    ·cases h
   ·cases h
  ·cases h
 ·cases h
theorem mZ{t:TypeId}{len:Nat}{parts:List (Nat×V)}(h:eA P o fr t len parts=some (v,Δ,rd))(hK:K v Δ rd):fg P o fr t len parts K:=by
 unfold eA at h
 unfold fg
 split at h
 ·rename_i e ht
  simp only[ht]
  split at h
  ·rename_i hc
   simp only[Option.some.injEq,Prod.mk.injEq]at h;obtain⟨rfl,rfl,rfl⟩:=h
   exact .inl ⟨hc.1,by simpa using hc.2.1,hc.2.2,hK⟩
  split at h
  ·rename_i hc
   refine .inr ?_
   split at h
   ·rename_i ds hd
    split at h
    ·rename_i hw
     simp only[Option.some.injEq,Prod.mk.injEq]at h;obtain⟨rfl,rfl,rfl⟩:=h
     refine⟨hc.1,hc.2.1,hc.2.2.1,hc.2.2.2.1,hc.2.2.2.2,ds,hd,fun x hx=> ?_,hK⟩
     simpa using List.all_eq_true.1 hw x hx
    ·cases h
   ·cases h
  ·cases h
 ·cases h
theorem nO{t:TypeId}{l c:V}(h:iY P fr t l c=some (v,Δ,rd))(hK:K v Δ rd):fU P fr t l c fun v Δ=>K v Δ []:=by
 unfold iY at h
 unfold fU
 split at h
 ·rename_i e ht
  split at h
  ·split at h
   ·rename_i hc
    split at h
    ·rename_i x hx
     simp only[Option.some.injEq,Prod.mk.injEq]at h;obtain⟨rfl,rfl,rfl⟩:=h
     simp only[ht]
     exact⟨hc.1,hc.2.1,hc.2.2.1,hc.2.2.2.1,hc.2.2.2.2,x,hx,hK⟩
    ·cases h
   ·cases h
  ·cases h
 ·cases h
theorem rN{ts:Array TypeId}{x y:V}(h:mb P o fr ts x y=some (v,Δ,rd))(hK:K v Δ rd):lI P o fr ts x y K:=by
 unfold mb at h
 unfold lI
 split at h
 ·rename_i t t' u7
  simp only[u7]
  split at h
  ·rename_i S1
   refine⟨S1, ?_⟩
   split at h
   ·rename_i e new qF ht hl
    obtain⟨rr,rfl⟩:=vu hl
    simp only[ht]
    split at h
    ·rename_i hc
     refine⟨new,rr,hc.1,hc.2.1,fun z hz=>by simpa using List.all_eq_true.1 hc.2.2 z hz, ?_⟩
     split at h
     ·split at h
      ·rename_i rq
       simp only[Option.some.injEq,Prod.mk.injEq]at h;obtain⟨rfl,rfl,rfl⟩:=h
       exact⟨rq.1,rq.2,hK⟩
      ·cases h
     ·split at h
      ·rename_i wm
       refine⟨fun z hz=>by simpa using List.all_eq_true.1 wm z hz, ?_⟩
       split at h
       ·rename_i hn
        simp only[Option.some.injEq,Prod.mk.injEq]at h;obtain⟨rfl,rfl,rfl⟩:=h
        rw[if_pos hn];exact hK
       ·rename_i hn
        split at h
        ·rename_i rq
         simp only[Option.some.injEq,Prod.mk.injEq]at h;obtain⟨rfl,rfl,rfl⟩:=h
         rw[if_neg hn];exact⟨rq.1,rq.2,hK⟩
        ·cases h
      ·cases h
     ·split at h
      ·rename_i ho
       split at h
       ·rename_i rq
        simp only[Option.some.injEq,Prod.mk.injEq]at h;obtain⟨rfl,rfl,rfl⟩:=h
        simp only[ho]
        exact⟨rq.1,rq.2.1,rq.2.2.1,rq.2.2.2.1,rq.2.2.2.2,hK⟩
       ·cases h
      ·cases h
     ·cases h
    ·cases h
   ·cases h
  ·cases h
 ·cases h
theorem oV{x y:V}(h:fM o x=some y){K:V->Prop}(hK:K y):ij o x K:=by
 unfold fM at h
 unfold ij
 split at h
 ·obtain⟨h2,rfl⟩:=mY h;exact⟨h2,hK⟩
 ·injection h with h;subst h;exact hK
 ·injection h with h;subst h;exact hK
 ·cases h
theorem zA{op:UnOp}{x y:V}(h:Oj op x=some y){K:V->Prop}(hK:K y):GK op x K:=by
 unfold Oj at h
 unfold GK
 split at h
 ·injection h with h;subst h;simp only;rw[Int.zero_sub];exact hK
 ·injection h with h;subst h;exact hK
 ·cases h
theorem mf{m:Bool}{x y v:V}(h:mc m x y=some v){K:V->Prop}(hK:K v):j8 m [x,y] K:=by
 unfold mc at h
 unfold j8
 split at h
 ·split at h
  ·injection h with h;subst h;exact⟨by assumption,hK⟩
  ·cases h
 ·cases h
theorem tK{op:Op}(h:eG P s fr op=some (v,Δ,rd))(hK:K v Δ rd):CB P s fr op K:=by
 cases op<;>simp only[eG]at h<;>simp only[CB]<;>try (cases h;done)
 case move x=>have h:=gS h;simp only[Prod.mk.injEq]at h;obtain⟨rfl,rfl,rfl⟩:=h;exact hK
 case assign x=>have h:=gS h;simp only[Prod.mk.injEq]at h;obtain⟨rfl,rfl,rfl⟩:=h;exact hK
 case pick c a b=>
  obtain⟨x,h1,h⟩:=dZ h;simp only[Prod.mk.injEq]at h;obtain⟨rfl,rfl,rfl⟩:=h
  exact vw h1 hK
 case alloc t=>
  split at h
  ·rename_i cs hz;simp only[Option.some.injEq,Prod.mk.injEq]at h;obtain⟨rfl,rfl,rfl⟩:=h;exact⟨cs,hz,hK⟩
  ·cases h
 case box t x=>
  split at h
  ·rename_i cs hz;simp only[Option.some.injEq,Prod.mk.injEq]at h;obtain⟨rfl,rfl,rfl⟩:=h;exact⟨cs,hz,hK⟩
  ·cases h
 case build t parts=>
  obtain⟨x,h1,h⟩:=dZ h;simp only[Prod.mk.injEq]at h;obtain⟨rfl,rfl,rfl⟩:=h
  unfold rM at h1
  split at h1
  ·rename_i z pl hz hp
   split at h1
   ·rename_i cs hc;injection h1 with h1;subst h1;exact⟨z,pl,cs,hz,hp,hc,hK⟩
   ·cases h1
  ·cases h1
 case buildSlice t len parts=>exact mZ h hK
 case load t x=>exact vx h hK
 case store t x y=>exact tJ h hK
 case nilCheck x=>
  obtain⟨y,h1,h⟩:=dZ h;simp only[Prod.mk.injEq]at h;obtain⟨rfl,rfl,rfl⟩:=h
  exact oV h1 hK
 case binOp op t x y yt=>
  unfold cz at h
  split at h
  ·rename_i z h1
   have h:=gS h;simp only[Prod.mk.injEq]at h;obtain⟨rfl,rfl,rfl⟩:=h
   exact .inl (x3 h1 hK)
  ·right;simp only[h,cF];exact hK
 case unOp op t x=>
  obtain⟨z,h1,h⟩:=dZ h;simp only[Prod.mk.injEq]at h;obtain⟨rfl,rfl,rfl⟩:=h
  unfold tI at h1
  split at h1
  ·rename_i hx;injection h1 with h1;subst h1;exact .inr ⟨rfl,hx,hK⟩
  ·exact .inl (zA h1 hK)
 case slice t x lo hi mx=>simp only[h,cF];exact hK
 case field t x f=>
  obtain⟨z,h1,h⟩:=dZ h;simp only[Prod.mk.injEq]at h;obtain⟨rfl,rfl,rfl⟩:=h
  simp only[h1,cF,Option.map_some];exact hK
 case typeAssert x xt t ok=>
  obtain⟨z,h1,h⟩:=dZ h;simp only[Prod.mk.injEq]at h;obtain⟨rfl,rfl,rfl⟩:=h
  simp only[h1,cF,Option.map_some];exact hK
 case makeMap t r=>
  cases r with
  |none=>simp only[h,cF];exact hK
  |some x=>cases h
 case lookup t m k ok=>simp only[h,cF];exact hK
 case mapUpdate t m k v=>simp only[h,cF];exact hK
 case insert t m k v=>simp only[h,cF];exact hK
 case index t x i=>
  obtain⟨z,h1,h⟩:=dZ h;simp only[Prod.mk.injEq]at h;obtain⟨rfl,rfl,rfl⟩:=h
  simp only[h1,cF,Option.map_some];exact hK
 case convert u t x=>
  split at h
  ·rename_i d k k' n hu hk hx
   have h:=gS h;simp only[Prod.mk.injEq]at h;obtain⟨rfl,rfl,rfl⟩:=h
   exact⟨by rw[hu];rfl,by simp only[hk,hx];exact hK⟩
  ·cases h
 case makeInterface t x=>
  obtain⟨z,h1,h⟩:=dZ h;simp only[Prod.mk.injEq]at h;obtain⟨rfl,rfl,rfl⟩:=h
  obtain⟨h2,rfl⟩:=mY h1
  refine⟨?_, ?_⟩
  ·unfold ag at h2
   cases hd:P.underlying t with
   |none=>simp[hd]at h2
   |some d=>exact⟨d,rfl,by cases d<;>simp_all⟩
  ·split
   ·rename_i y hy;simp only[hy]at hK;exact hK
   ·rename_i hy
    split at hK
    ·rename_i y S2;exact absurd S2 (hy y)
    ·exact hK
 case makeFunc fn first cap=>have h:=gS h;simp only[Prod.mk.injEq]at h;obtain⟨rfl,rfl,rfl⟩:=h;exact hK
 case makeSlice t l c=>
  exact nO h hK
 case fieldAddr t x f=>
  obtain⟨z,h1,h⟩:=dZ h;simp only[Prod.mk.injEq]at h;obtain⟨rfl,rfl,rfl⟩:=h
  exact nN h1 hK
 case indexAddr t x i=>
  exact nM h hK
 case extract x i=>
  split at h
  ·rename_i vs hv
   split at h
   ·rename_i u hu
    have h:=gS h;simp only[Prod.mk.injEq]at h;obtain⟨rfl,rfl,rfl⟩:=h
    simp only[hv];exact⟨_,hu,hK⟩
   ·cases h
  ·cases h
 case call c=>
  obtain⟨zj,args,ts⟩:=c
  cases zj<;>simp only at h|- <;>try (cases h;done)
  rename_i b
  unfold me at h
  unfold oz
  split at h
  ·rename_i x ha
   simp only[ha]
   split at h
   ·rename_i t u7;exact⟨t,u7,x4 h hK⟩
   ·cases h
  ·rename_i x y ha
   simp only[ha]
   exact rN h hK
  ·rename_i x y ha
   simp only[ha]
   obtain⟨z,h1,h⟩:=dZ h;simp only[Prod.mk.injEq]at h;obtain⟨rfl,rfl,rfl⟩:=h
   exact mf h1 hK
  ·rename_i x y ha
   simp only[ha]
   obtain⟨z,h1,h⟩:=dZ h;simp only[Prod.mk.injEq]at h;obtain⟨rfl,rfl,rfl⟩:=h
   exact mf h1 hK
  ·rename_i x y z ha
   simp only[ha]
   obtain⟨v0,h1,h⟩:=dZ h;simp only[Prod.mk.injEq]at h;obtain⟨rfl,rfl,rfl⟩:=h
   simp only[h1,cF,Option.map_some];exact hK
  ·rename_i x y ha
   simp only[ha,h,cF];exact hK
  ·rename_i x y ha
   simp only[ha]
   split at h
   ·rename_i t ht;exact⟨t,ht,by simp only[h,cF];exact hK⟩
   ·cases h
  ·cases h
 case range t x=>simp only[h,cF];exact hK
 case next x str=>left;simp only[h,cF];exact hK
 case entry x=>simp only[h,cF];exact hK
end
end Go.Proofs.YtpkobkdgcanmjaaGreat
namespace Go.Proofs.YtpkobkdgcanmjaaGreat
def oW(P:Program)(g:FuncId)(ds:List D)(o o1 oa:Nat->aa)(K:V->(Nat->aa)->Prop)(X:V->(Nat->aa)->Prop):Prop:=
 ∃out,bJ P g ds out/\((match out with| .ret rs=>K (gh rs) o1| .bf x=>X (.d x) o1)\/(out.flat=true/\match out with| .ret rs=>K (gh rs) o| .bf x=>X (.d x) o)\/(out.jz=true/\match out with| .ret rs=>K (gh rs) oa| .bf x=>X (.d x) oa))
def nr(P:Program)(g:FuncId)(args:List V)(o:Nat->aa)(nx:Nat)(K:V->(Nat->aa)->Nat->Prop)(X:V->(Nat->aa)->Nat->Prop):Prop:=jB P g args o nx K X
theorem jB.mono {P:Program}{g:FuncId}{args:List V}{o:Nat->aa}{nx:Nat}{K X K' X':V->(Nat->aa)->Nat->Prop}(hK:∀v o n,K v o n->K' v o n)(hX:∀v o n,X v o n->X' v o n)(h:jB P g args o nx K X):jB P g args o nx K' X':=
 h.imp (ft.mono hK hX) (ft.mono hK hX)
@[congr] theorem CW {P:Program} {g g':FuncId} {ds Hf:List D} {o o1 oa:Nat->aa} {K X} (h:g=g') (h':ds=Hf):oW P g ds o o1 oa K X=oW P g' Hf o o1 oa K X:=by subst h;subst h';rfl
@[congr] theorem CX {P:Program} {g g':FuncId} {bH Hg:List V} {o:Nat->aa} {nx:Nat} {K X} (h:g=g') (h':bH=Hg):nr P g bH o nx K X=nr P g' Hg o nx K X:=by subst h;subst h';rfl
def CY(P:Program)(g:FuncId)(args:List V)(o:Nat->aa)(nx:Nat)(K X:V->(Nat->aa)->Nat->Prop):Prop:=
 (∃ds,bG o args=some ds/\oW P g ds o (put o (cn o (V.aR args))) (put o (mK o (V.aR args))) (fun v o'=>K v o' (nx+1)) (fun v o'=>X v o' (nx+1)))\/ft P g args o nx K X
def yL(P:Program)(s:S)(o:bK)(X:V->S->Prop)(K:S->Prop):Prop:=
 match o.op with
 | .call c=>match c.callee with
   | .value f=>match s.ev f with
     | .func (.func g) first cap=>match bG s.o (first++c.args.toList.map s.ev++cap)with
       |some ds=>oW P g ds s.o (put s.o (cn s.o (V.aR (first++c.args.toList.map s.ev++cap)))) (put s.o (mK s.o (V.aR (first++c.args.toList.map s.ev++cap)))) (fun v o'=>K ⟨aO s.env o.dst v,o',s.nx+1⟩) (fun v o'=>X v ⟨s.env,o',s.nx+1⟩)\/
        nr P g (first++c.args.toList.map s.ev++cap) s.o s.nx (fun v o' nx'=>K ⟨aO s.env o.dst v,o',nx'⟩) (fun v o' nx'=>X v ⟨s.env,o',nx'⟩)
       |none=>nr P g (first++c.args.toList.map s.ev++cap) s.o s.nx (fun v o' nx'=>K ⟨aO s.env o.dst v,o',nx'⟩) (fun v o' nx'=>X v ⟨s.env,o',nx'⟩)
     | .j7 id=>dS P id (c.args.toList.map s.ev) s.o s.nx (fun v o' nx'=>K ⟨aO s.env o.dst v,o',nx'⟩) (fun v o' nx'=>X v ⟨s.env,o',nx'⟩)
     |_=>False
   | .invoke r m=>match oL P m (s.ev r)with
     |some (g,y)=>CY P g (y::c.args.toList.map s.ev) s.o s.nx (fun v o' nx'=>K ⟨aO s.env o.dst v,o',nx'⟩) (fun v o' nx'=>X v ⟨s.env,o',nx'⟩)
     |none=>False
   |_=>match eG P s s.nx o.op with
    |some (v,Δ,_)=>K ⟨aO s.env o.dst v,put s.o Δ,s.nx+1⟩
    |none=>False
 | .panic x=>match s.ev x with
   | .d (.iface t y)=>X (.d (.iface t y)) s
   | .iface t y=>X (.iface t y) s
   |_=>False
 | .next x str=>match kJ s.o (s.ev x)with
   |some (id,l)=>str=false/\wb id l fun v Δ _=>K ⟨aO s.env o.dst v,put s.o Δ,s.nx+1⟩
   |none=>match eG P s s.nx o.op with
    |some (v,Δ,_)=>K ⟨aO s.env o.dst v,put s.o Δ,s.nx+1⟩
    |none=>False
 |op=>match eG P s s.nx op with
  |some (v,Δ,_)=>K ⟨aO s.env o.dst v,put s.o Δ,s.nx+1⟩
  |none=>False
def lg(P:Program)(X:V->S->Prop)(K:S->Prop):List bK->S->Prop
 |[],s=>K s
 |o::l,s=>match o.gd with
  |none=>yL P s o X (lg P X K l)
  |some (d,want)=>match s.env d with
   | .d (.bool b)=>if b=want then yL P s o X (lg P X K l)else lg P X K l ⟨aO s.env o.dst (.bQ []),s.o,s.nx+1⟩
   | .bQ []=>lg P X K l ⟨aO s.env o.dst (.bQ []),s.o,s.nx+1⟩
   |_=>False
def zB(b:Nat)(body:(fq->S->Prop)->S->Prop)(Q:fq->S->Prop)(s:S):Prop:=
 ∃ (J:Nat->S->Prop),(∃m s1,cR b s s1/\J m s1)/\∀m s0,J m s0->body (fun e s=>match e with| .normal=>∃m' s1,m'<m/\cR b s s1/\J m' s1|e=>Q e s) s0
@[congr] theorem CZ {b:Nat} {body Q} {s s':S} (h:s=s'):zB b body Q s=zB b body Q s':=by subst h;rfl
def mg(t:Bool)(A B:Prop):Prop:=(t=true->A)/\(t=false->B)
@[congr] theorem C0 {t t':Bool} {A B:Prop} (h:t=t'):mg t A B=mg t' A B:=by subst h;rfl
@[simp] theorem oX (A B:Prop):mg true A B=A:=by simp[mg]
@[simp] theorem ns (A B:Prop):mg false A B=B:=by simp[mg]
section
variable {P:Program}{n b:Nat}
theorem wB{s:S}{o:bK}{o':Oper}{X X':V->S->Prop}{K K':S->Prop}(cP:o'.op=o.op)(cf:o'.dst=o.dst)(hd:eK n o'.dst)(hK:∀s,K s->K' s)(hX:∀v s,X v s->X' v s)(h:yL P s o X K):Oa P n s o' X' K':=by
 refine⟨hd, ?_⟩
 rw[cf,cP]
 unfold yL at h
 have hs:∀ {op:Op},(match eG P s s.nx op with|some (v,Δ,_)=>K ⟨aO s.env o.dst v,put s.o Δ,s.nx+1⟩|none=>False)->CB P s s.nx op fun v Δ _=>K' ⟨aO s.env o.dst v,put s.o Δ,s.nx+1⟩:=by
  intro op h
  split at h
  ·rename_i v Δ rd he;exact tK he (hK _ h)
  ·exact h.elim
 split at h
 ·rename_i c hc
  split at h
  ·rename_i f db
   simp only[hc,db]
   split at h
   ·rename_i g first cap hf
    unfold tv
    simp only[hf]
    unfold oK
    split at h
    ·rename_i ds dA
     rcases h with⟨out,hP,h|⟨lA,h⟩|⟨lA,h⟩⟩|h
     ·refine .inl ⟨ds,out,dA,hP, ?_⟩
      cases out<;>first|exact hK _ h|exact hX _ _ h
     ·refine .inr (.inl ⟨ds,out,dA,hP,lA, ?_⟩)
      cases out<;>first|exact hK _ h|exact hX _ _ h
     ·refine .inr (.inr (.inl ⟨ds,out,dA,hP,lA, ?_⟩))
      cases out<;>first|exact hK _ h|exact hX _ _ h
     ·exact .inr (.inr (.inr (jB.mono (fun v o n h=>hK _ h) (fun v o n h=>hX _ _ h) h)))
    ·exact .inr (.inr (.inr (jB.mono (fun v o n h=>hK _ h) (fun v o n h=>hX _ _ h) h)))
   ·rename_i id hf
    unfold tv
    simp only[hf]
    exact dS.mono (fun v o n h=>hK _ h) (fun v o n h=>hX _ _ h) h
   ·exact h.elim
  ·rename_i r m db
   simp only[hc,db]
   split at h
   ·rename_i g y hr
    simp only[hr]
    unfold oK
    rcases h with⟨ds,dA,out,hP,h|⟨lA,h⟩|⟨lA,h⟩⟩|h
    ·refine .inl ⟨ds,out,dA,hP, ?_⟩
     cases out<;>first|exact hK _ h|exact hX _ _ h
    ·refine .inr (.inl ⟨ds,out,dA,hP,lA, ?_⟩)
     cases out<;>first|exact hK _ h|exact hX _ _ h
    ·refine .inr (.inr (.inl ⟨ds,out,dA,hP,lA, ?_⟩))
     cases out<;>first|exact hK _ h|exact hX _ _ h
    ·exact .inr (.inr (.inr (.inl (ft.mono (fun v o n h=>hK _ h) (fun v o n h=>hX _ _ h) h))))
   ·exact h.elim
  ·rename_i db hinv
   rw[hc]at h|-
   obtain⟨zj,args,ts⟩:=c
   cases zj with
   |value f=>exact absurd rfl (db f)
   |invoke r m=>exact absurd rfl (hinv r m)
   |_=>exact hs h
 ·rename_i x hx
  simp only[hx]
  split at h
  ·rename_i hv;simp only[hv];exact hX _ _ h
  ·rename_i hv;simp only[hv];exact hX _ _ h
  ·exact h.elim
 ·rename_i x str hx
  rw[hx]at h|-
  split at h
  ·rename_i id l hl
   exact .inr ⟨h.1,id,l,hl,fun e=>hK _ (h.2.1 e),fun i k x e=>hK _ (h.2.2 i k x e)⟩
  ·exact hs h
 ·rename_i hc hp p4
  have h2:=hs h
  cases hh:o.op<;>first
   |exact absurd hh (hc _)
   |exact absurd hh (hp _)
   |exact absurd hh (p4 _ _)
   |(rw[hh]at h2;exact h2)
theorem fN{ops:Array Oper}{X X':V->S->Prop}{K K':S->Prop}(hK:∀s,K s->K' s)(hX:∀v s,X v s->X' v s):∀ (l:List Oper) (l':List bK) (s:S),hY n ops l=some l'->lg P X K l' s->rC P n ops X' K' l s
 |[],l',s,h,hr=>by simp[hY]at h;subst h;exact hK _ hr
 |o::l,l',s,h,hr=>by
  simp only[hY]at h
  split at h
  ·rename_i x xs hx CE
   injection h with h;subst h
   unfold yP at hx
   split at hx
   ·rename_i hd
    have cf:eK n o.dst:=by
     unfold u1 at hd;unfold eK
     split at hd<;>simp_all
    simp only[rC,rB]
    cases hg:o.guard with
    |none=>
     simp only[hg]at hx
     injection hx with hx;subst hx
     exact wB rfl rfl cf (fun s hs=>fN hK hX l xs s CE hs) hX hr
    |some p=>
     obtain⟨j,want⟩:=p
     simp only[hg]at hx
     cases C1:nd ops j with
     |none=>simp[C1]at hx
     |some d=>
      simp only[C1]at hx
      injection hx with hx;subst hx
      simp only
      simp only[lg]at hr
      split at hr
      ·rename_i t ht
       simp only[C1,ht]
       split at hr
       ·rename_i e
        exact⟨fun _=>wB rfl rfl cf (fun s hs=>fN hK hX l xs s CE hs) hX hr,fun h=>absurd e h⟩
       ·rename_i e
        exact⟨fun h=>absurd h e,fun _=>⟨cf,fN hK hX l xs _ CE hr⟩⟩
      ·rename_i ht
       simp only[C1,ht]
       exact⟨cf,fN hK hX l xs _ CE hr⟩
      ·exact hr.elim
   ·cases hx
  ·cases h
end
end Go.Proofs.YtpkobkdgcanmjaaGreat
namespace Go.Proofs.YtpkobkdgcanmjaaGreat
mutual
def V.refs:V->List Nat
 | .ptr id _=>[id]| .osl id _=>[id]| .pe id _ _ _ _=>[id]| .oo id _ _=>[id]| .mp id=>[id]| .j7 id=>[id]
 | .agg cs=>V.aw cs
 | .bQ cs=>V.aw cs
 | .func _ a b=>V.aw a++V.aw b
 | .iface _ x=>x.refs
 |_=>[]
def V.aw:List V->List Nat
 |[]=>[]
 |v::vs=>v.refs++V.aw vs
end
mutual
theorem gk:∀ (v:V),∀id∈v.ids,id∈v.refs
 | .osl id _,j,h=>by simpa[V.ids,V.refs]using h
 | .agg cs,j,h=>by simp only[V.ids]at h;simp only[V.refs];exact gm cs j h
 | .iface _ x,j,h=>by simp only[V.ids]at h;simp only[V.refs];exact gk x j h
 | .mp _,j,h=>by simpa[V.ids,V.refs]using h
 | .d _,_,h| .aM,_,h| .bQ _,_,h| .ptr _ _,_,h| .pe _ _ _ _ _,_,h| .pp _ _,_,h| .func _ _ _,_,h| .ak,_,h| .kQ _,_,h| .oo _ _ _,_,h| .dB,_,h| .j7 _,_,h=>by simp[V.ids]at h
theorem gm:∀ (vs:List V),∀id∈V.aR vs,id∈V.aw vs
 |[],j,h=>by simp[V.aR]at h
 |v::vs,j,h=>by
  simp only[V.aR,V.aw,List.mem_append]at h|-
  exact h.imp (gk v j) (gm vs j)
end
mutual
theorem cG{o o':Nat->aa}:∀ (v:V),(∀id∈v.refs,o' id=o id)->dn o' v=dn o v
 | .osl id ep,h=>by simp only[dn,h id (by simp[V.refs])]
 | .mp id,h=>by simp only[dn,h id (by simp[V.refs])]
 | .agg cs,h=>by simp only[dn,e7 cs (by simpa[V.refs]using h)]
 | .iface t x,h=>by simp only[dn,cG x (by simpa[V.refs]using h)]
 | .d _,_| .aM,_| .bQ _,_| .ptr _ _,_| .pe _ _ _ _ _,_| .pp _ _,_| .func _ _ _,_| .ak,_| .kQ _,_| .oo _ _ _,_| .dB,_| .j7 _,_=>by simp only[dn]
theorem e7{o o':Nat->aa}:∀ (vs:List V),(∀id∈V.aw vs,o' id=o id)->bG o' vs=bG o vs
 |[],_=>rfl
 |v::vs,h=>by
  simp only[bG,cG v (fun id ah=>h id (by simp[V.aw,ah])),e7 vs (fun id ah=>h id (by simp[V.aw,ah]))]
end
theorem eB{o o':Nat->aa}{ids:List Nat}(h:∀id∈ids,o' id=o id):cn o' ids=cn o ids:=by
 rw[iO,iO]
 exact List.map_congr_left fun id ah=>by rw[h id ah]
def fO(s:S)(op:Op):List Nat:=
 match op with
 | .load _ x=>(s.ev x).refs
 | .nilCheck x=>(s.ev x).refs
 | .fieldAddr _ x _=>(s.ev x).refs
 | .indexAddr _ x _=>(s.ev x).refs
 | .store _ x v=>(s.ev x).refs++(s.ev v).refs
 | .buildSlice _ _ parts=>V.aw (parts.toList.map fun p=>s.ev p.2)
 | .binOp _ _ x y _=>(s.ev x).refs++(s.ev y).refs
 | .slice _ x _ _ _=>(s.ev x).refs
 | .lookup _ m k _=>(s.ev m).refs++(s.ev k).refs
 | .mapUpdate _ m k v=>(s.ev m).refs++((s.ev k).refs++(s.ev v).refs)
 | .insert _ m k v=>(s.ev m).refs++((s.ev k).refs++(s.ev v).refs)
 | .range _ x=>(s.ev x).refs
 | .next x _=>(s.ev x).refs
 | .entry x=>(s.ev x).refs
 | .call c=>match c.callee with
   | .builtin _=>V.aw (c.args.toList.map s.ev)
   | .value f=>match s.ev f with
     | .func _ first cap=>V.aw (first++c.args.toList.map s.ev++cap)
     |_=>[]
   |_=>[]
 |_=>[]
section
variable {P:Program}{s s':S}{fr:Nat}
theorem nu{o o':Nat->aa}(v:V)(h:∀id∈v.refs,o' id=o id):ma o' v=ma o v:=by
 cases v with
 |osl id ep=>simp only[ma,h id (by simp[V.refs])]
 |d x=>cases x<;>rfl
 |_=>rfl
theorem nv{o o':Nat->aa}(v:V)(q:Nat)(h:∀id∈v.refs,o' id=o id):kM o' v q=kM o v q:=by
 cases v<;>simp only[kM]<;>rw[h _ (by simp[V.refs])]
theorem vy{o o':Nat->aa}(v:V)(h:∀id∈v.refs,o' id=o id):sS o' v=sS o v:=by
 have h1:dE o' v=dE o v:=by unfold dE;rw[cG v h]
 cases v<;>first|rfl|simp only[sS,h1]
theorem rO{o o':Nat->aa}(v:V)(h:∀id∈v.refs,o' id=o id):mN o' v=mN o v:=by
 cases v with
 |mp id=>simp only[mN,h id (by simp[V.refs])]
 |d x=>cases x<;>rfl
 |_=>rfl
theorem rP{o o':Nat->aa}(v:V)(h:∀id∈v.refs,o' id=o id):mO o' v=mO o v:=by
 cases v with
 |ptr id off=>simp only[mO,h id (by simp[V.refs])]
 |d x=>cases x<;>rfl
 |_=>rfl
theorem jH{o o':Nat->aa}(v:V)(h:∀id∈v.refs,o' id=o id):lL o' v=lL o v:=by
 cases v with
 |mp id=>simp only[lL,h id (by simp[V.refs])]
 |d x=>cases x<;>rfl
 |_=>rfl
theorem tL{o o':Nat->aa}(v:V)(h:∀id∈v.refs,o' id=o id):nh o' v=nh o v:=by
 cases v with
 |mp id=>simp only[nh,h id (by simp[V.refs])]
 |d x=>cases x<;>rfl
 |_=>rfl
theorem tM{o o':Nat->aa}(v:V)(str:Bool)(h:∀id∈v.refs,o' id=o id):kI o' v str=kI o v str:=by
 cases v with
 |ptr id off=>cases off<;>simp only[kI,h id (by simp[V.refs])]
 |_=>rfl
theorem rQ{o o':Nat->aa}(v:V)(h:∀id∈v.refs,o' id=o id):jt o' v=jt o v:=by
 cases v with
 |ptr id off=>cases off<;>simp only[jt,h id (by simp[V.refs])]
 |_=>rfl
theorem rR{o o':Nat->aa}{fr:Nat}{t:TypeId}{P:Program}(v:V)(h:∀id∈v.refs,o' id=o id):js P o' fr t v=js P o fr t v:=by
 unfold js
 cases v with
 |mp id=>simp only[h id (by simp[V.refs])]
 |d x=>cases x<;>rfl
 |_=>rfl
theorem rS{o o':Nat->aa}(v:V)(h:∀id∈v.refs,o' id=o id):kR o' v=kR o v:=by
 cases v with
 |ptr id off=>simp only[kR,h id (by simp[V.refs])]
 |_=>rfl
theorem rT{o o':Nat->aa}(v:V)(h:∀id∈v.refs,o' id=o id):kS o' v=kS o v:=by
 cases v with
 |oo id off n=>simp only[kS,h id (by simp[V.refs])]
 |_=>rfl
theorem vz(op:Op)(hv:∀x∈op.operands,s'.ev x=s.ev x)(ho:∀id∈fO s op,s'.o id=s.o id):eG P s' fr op=eG P s fr op:=by
 cases op<;>simp only[eG]
 case move x=>rw[hv x (by simp[Op.operands])]
 case assign x=>rw[hv x (by simp[Op.operands])]
 case pick c a b=>rw[hv c (by simp[Op.operands]),hv a (by simp[Op.operands]),hv b (by simp[Op.operands])]
 case box t x=>rw[hv x (by simp[Op.operands])]
 case build t parts=>
  have:(parts.toList.map fun p=>(p.1,s'.ev p.2))=parts.toList.map fun p=>(p.1,s.ev p.2):=
   List.map_congr_left fun p hp=>by rw[hv p.2 (by simp only[Op.operands];simp;exact⟨p.1,by simpa using hp⟩)]
  rw[this]
 case buildSlice t len parts=>
  have:(parts.toList.map fun p=>(p.1,s'.ev p.2))=parts.toList.map fun p=>(p.1,s.ev p.2):=
   List.map_congr_left fun p hp=>by rw[hv p.2 (by simp only[Op.operands];simp;exact⟨p.1,by simpa using hp⟩)]
  rw[this]
  have e:(parts.toList.map fun p=>(p.1,s.ev p.2)).map (·.2)=parts.toList.map fun p=>s.ev p.2:=by simp[Function.comp_def]
  have h1:bG s'.o ((parts.toList.map fun p=>(p.1,s.ev p.2)).map (·.2))=bG s.o ((parts.toList.map fun p=>(p.1,s.ev p.2)).map (·.2)):=e7 _ (by rw[e];exact ho)
  have h2:cn s'.o (V.aR ((parts.toList.map fun p=>(p.1,s.ev p.2)).map (·.2)))=cn s.o (V.aR ((parts.toList.map fun p=>(p.1,s.ev p.2)).map (·.2))):=
   eB fun id ah=>ho id (by rw[e]at ah;exact gm _ id ah)
  simp only[eA,h1,h2]
 case load t x=>
  rw[hv x (by simp[Op.operands])]
  cases hx:s.ev x<;>simp only[jG]<;>rw[ho _ (by simp[fO,hx,V.refs])]
 case store t x y=>
  rw[hv x (by simp[Op.operands]),hv y (by simp[Op.operands])]
  have h1:dn s'.o (s.ev y)=dn s.o (s.ev y):=cG _ fun id ah=>ho id (by simp[fO,ah])
  have h2:cn s'.o (s.ev y).ids=cn s.o (s.ev y).ids:=eB fun id ah=>ho id (by simp[fO,gk _ _ ah])
  cases hx:s.ev x<;>simp only[mX]<;>rw[ho _ (by simp[fO,hx,V.refs])]
  simp only[h1,h2]
 case nilCheck x=>
  rw[hv x (by simp[Op.operands])]
  cases hx:s.ev x with
  |ptr id off=>simp only[fM];rw[ho _ (by simp[fO,hx,V.refs])]
  |func fn a b=>cases fn<;>rfl
  |_=>rfl
 case binOp op t x y yt=>
  rw[hv x (by simp[Op.operands]),hv y (by simp[Op.operands])]
  have h1:sS s'.o (s.ev x)=sS s.o (s.ev x):=vy _ fun id ah=>ho id (by simp[fO,ah])
  have h2:∀a b,sT P s'.o a b (s.ev x) (s.ev y)=sT P s.o a b (s.ev x) (s.ev y):=fun a b=>by
   have h3:∀id∈(s.ev x).refs,s'.o id=s.o id:=fun id ah=>ho id (by simp[fO,ah])
   have h4:=rO (s.ev x) h3
   have h5:=rP (s.ev x) h3
   unfold sT
   rw[h1,h4,h5]
  unfold cz mP
  simp only[h2]
 case slice t x lo hi mx=>
  rw[hv x (by simp[Op.operands])]
  have e1:lo.map s'.ev=lo.map s.ev:=by cases lo<;>simp[hv,Op.operands]
  have e2:hi.map s'.ev=hi.map s.ev:=by cases hi<;>simp[hv,Op.operands]
  have e3:mx.map s'.ev=mx.map s.ev:=by cases mx<;>simp[hv,Op.operands]
  rw[e1,e2,e3]
  have h3:∀id∈(s.ev x).refs,s'.o id=s.o id:=fun id ah=>ho id (by simp[fO,ah])
  have h1:dE s'.o (s.ev x)=dE s.o (s.ev x):=by unfold dE;rw[cG _ h3]
  have h2:cn s'.o (s.ev x).ids=cn s.o (s.ev x).ids:=eB fun id ah=>h3 id (gk _ _ ah)
  unfold mL
  simp only[h1,h2,rS _ h3]
 case field t x f=>rw[hv x (by simp[Op.operands])]
 case typeAssert x xt t ok=>rw[hv x (by simp[Op.operands])]
 case makeMap t r=>cases r<;>rfl
 case lookup t m k ok=>
  rw[hv m (by simp[Op.operands]),hv k (by simp[Op.operands])]
  have h3:∀id∈(s.ev m).refs,s'.o id=s.o id:=fun id ah=>ho id (by simp[fO,ah])
  have h1:dn s'.o (s.ev k)=dn s.o (s.ev k):=cG _ fun id ah=>ho id (by simp[fO,ah])
  unfold iL
  simp only[h1,tL _ h3]
 case mapUpdate t m k v=>
  rw[hv m (by simp[Op.operands]),hv k (by simp[Op.operands]),hv v (by simp[Op.operands])]
  have h3:∀id∈(s.ev m).refs,s'.o id=s.o id:=fun id ah=>ho id (by simp[fO,ah])
  have h1:dn s'.o (s.ev k)=dn s.o (s.ev k):=cG _ fun id ah=>ho id (by simp[fO,ah])
  have h2:dn s'.o (s.ev v)=dn s.o (s.ev v):=cG _ fun id ah=>ho id (by simp[fO,ah])
  have h4:cn s'.o (s.ev v).ids=cn s.o (s.ev v).ids:=eB fun id ah=>ho id (by simp[fO,gk _ _ ah])
  unfold ff
  simp only[h1,h2,h4,jH _ h3]
 case insert t m k v=>
  rw[hv m (by simp[Op.operands]),hv k (by simp[Op.operands]),hv v (by simp[Op.operands])]
  have h3:∀id∈(s.ev m).refs,s'.o id=s.o id:=fun id ah=>ho id (by simp[fO,ah])
  have h1:dn s'.o (s.ev k)=dn s.o (s.ev k):=cG _ fun id ah=>ho id (by simp[fO,ah])
  have h2:dn s'.o (s.ev v)=dn s.o (s.ev v):=cG _ fun id ah=>ho id (by simp[fO,ah])
  have h4:cn s'.o (s.ev v).ids=cn s.o (s.ev v).ids:=eB fun id ah=>ho id (by simp[fO,gk _ _ ah])
  unfold ff
  simp only[h1,h2,h4,jH _ h3]
 case index t x i=>rw[hv x (by simp[Op.operands]),hv i (by simp[Op.operands])]
 case range t x=>
  rw[hv x (by simp[Op.operands])]
  exact rR _ fun id ah=>ho id (by simp[fO,ah])
 case next x str=>
  rw[hv x (by simp[Op.operands])]
  exact tM _ _ fun id ah=>ho id (by simp[fO,ah])
 case entry x=>
  rw[hv x (by simp[Op.operands])]
  exact rQ _ fun id ah=>ho id (by simp[fO,ah])
 case unOp op t x=>rw[hv x (by simp[Op.operands])]
 case convert u t x=>rw[hv x (by simp[Op.operands])]
 case makeInterface t x=>rw[hv x (by simp[Op.operands])]
 case makeFunc fn first cap=>
  have h1:first.toList.map s'.ev=first.toList.map s.ev:=List.map_congr_left fun x hx=>hv x (by simp only[Op.operands];exact Array.mem_append.2 (.inl (Array.mem_toList_iff.1 hx)))
  have h2:cap.toList.map s'.ev=cap.toList.map s.ev:=List.map_congr_left fun x hx=>hv x (by simp only[Op.operands];exact Array.mem_append.2 (.inr (Array.mem_toList_iff.1 hx)))
  rw[h1,h2]
 case makeSlice t l c=>rw[hv l (by simp[Op.operands]),hv c (by simp[Op.operands])]
 case fieldAddr t x f=>
  rw[hv x (by simp[Op.operands])]
  simp only[eZ]
  cases bC P t f<;>simp only
  rw[nv _ _ (by simpa[fO]using ho)]
 case indexAddr t x i=>
  rw[hv x (by simp[Op.operands]),hv i (by simp[Op.operands])]
  have h1:∀q,kM s'.o (s.ev x) q=kM s.o (s.ev x) q:=fun q=>nv _ _ (by simpa[fO]using ho)
  simp only[eY,h1]
  cases hx:s.ev x with
  |osl id ep=>simp only[ho id (by simp[fO,hx,V.refs])]
  |d y=>cases y<;>rfl
  |_=>rfl
 case extract x i=>rw[hv x (by simp[Op.operands])]
 case call c=>
  obtain⟨zj,args,ts⟩:=c
  cases zj<;>simp only
  rename_i b
  unfold me
  have hm:∀x∈args.toList,s'.ev x=s.ev x:=fun x hx=>hv x (by simp only[Op.operands,Call.operands];exact Array.mem_append.2 (.inr (Array.mem_toList_iff.1 hx)))
  have hr:∀x∈args.toList,∀id∈(s.ev x).refs,s'.o id=s.o id:=by
   intro x hx id ah
   refine ho id ?_
   simp only[fO]
   generalize args.toList=l at hx
   induction l with
   |nil=>cases hx
   |cons y l ih=>
    simp only[List.map_cons,V.aw,List.mem_append]
    rcases List.mem_cons.1 hx with rfl|hx
    ·exact .inl ah
    ·exact .inr (ih hx)
  split
  ·rename_i x ha
   rw[ha]at hm hr
   rw[hm x (by simp)]
   have h1:∀t,vr P t s'.o (s.ev x)=vr P t s.o (s.ev x):=fun t=>by simp only[vr,nu _ (hr x (by simp))]
   simp only[h1]
  ·rename_i x y ha
   rw[ha]at hm hr
   rw[hm x (by simp),hm y (by simp)]
   simp only[mb,nu _ (hr y (by simp))]
   cases hx:s.ev x with
   |osl id ep=>simp only[hr x (by simp) id (by simp[hx,V.refs])]
   |_=>rfl
  ·rename_i x y ha
   rw[ha]at hm
   rw[hm x (by simp),hm y (by simp)]
  ·rename_i x y ha
   rw[ha]at hm
   rw[hm x (by simp),hm y (by simp)]
  ·rename_i x y z h;rw[hm x (by rw[h];simp),hm y (by rw[h];simp),hm z (by rw[h];simp)]
  ·rename_i x y ha
   rw[ha]at hm hr
   rw[hm x (by simp),hm y (by simp)]
   have h1:dE s'.o (s.ev y)=dE s.o (s.ev y):=by unfold dE;rw[cG _ (hr y (by simp))]
   have h2:cn s'.o (s.ev y).ids=cn s.o (s.ev y).ids:=eB fun id ah=>hr y (by simp) id (gk _ _ ah)
   unfold ql
   simp only[h1,h2,rT _ (hr x (by simp))]
  ·rename_i x y ha
   rw[ha]at hm hr
   rw[hm x (by simp),hm y (by simp)]
   have h1:dn s'.o (s.ev y)=dn s.o (s.ev y):=cG _ (hr y (by simp))
   have h2:=jH _ (hr x (by simp))
   simp only[j9,h1,h2]
  ·rfl
end
end Go.Proofs.YtpkobkdgcanmjaaGreat
