/-
  A PART OF THE PROOF. Conditions: none.
-/
import Derived.Test.YtealblliddhgiaaGreatMt5
set_option linter.unusedSimpArgs false
set_option linter.unusedVariables false
namespace Go.Proofs.YtealblliddhgiaaGreat
section
variable {P:Program}{M:Nat->Prop}{φ:Place}{H:Hp}{w w':World}{cu:Place}{H0:Hp}{w0:World}{n b:Nat}{s:S}{a:Act}{cx:Cx}{ro:Option Nat}{k:Nat}
theorem gA(hb:∀id,H0.us id->id<b)(sA:cx.rd=false->ro=none):∀ (c:Code) (Q:fO->S->Prop) (s:S) (φ:Place) (a:Act) (w:World),iF P n b cx.rd c Q s->bY M cu H0 w0 n cx φ s a w->c.sB P ro (BV M cu H0 w0 n cx Q) a w:=by
 intro c
 induction c with
 |skip=>exact fun Q s φ a w h hs=>nN (k:=0) (wpIn_skip ⟨.normal,s,φ,h,hs,trivial⟩)
 |scope x ih=>exact fun Q s φ a w h hs=>Dy (ih Q s φ a w h hs) (fun l a w ⟨xx,s',aB,hq,jA,hm⟩=>by cases xx<;>exact hm)
 |label l=>exact fun Q s φ a w h hs=>nN (k:=0) (wpIn_label ⟨.normal,s,φ,h,hs,trivial⟩)
 |exit id=>exact fun Q s φ a w h hs=>yp ⟨.exit id,s,φ,h,hs,rfl⟩
 |ret=>exact fun Q s φ a w h hs=>BW ⟨.ret,s,φ,h,hs,trivial⟩
 |goto l=>exact fun Q s φ a w h hs=>h.elim
 |refuse y=>exact fun Q s φ a w h hs=>h.elim
 |rangeFunc g ps x y=>exact fun Q s φ a w h hs=>Dz hs h.1 (sA h.1) h.2
 |region id ops draw=>
  intro Q s φ a w h hs
  cases draw with
  |true=>exact nN (h M cu H0 w0 cx φ a w ro 0 hs)
  |false=>
   refine nN (k:=0) (wpIn_region_list (nM (K:=Q .normal) (X:=fun v s=>Q (.bJ v) s) (fun s φ a w hk hs=>⟨.normal,s,φ,hk,hs,trivial⟩) (fun v s φ a w val hx hs hd=>⟨.bJ v,s,φ,hx,hs,val,rfl,hd⟩) _ s φ a w h hs))
 |seq x y H4 H5=>
  intro Q s φ a w h hs
  refine vZ (fW (H4 _ s φ a w h hs) ?_)
  rintro e a' w' ⟨xx,s',aB,hq,jA,hm⟩
  cases e<;>cases xx<;>first|(exact hm.elim)|skip
  ·exact H5 Q s' aB a' w' hq jA
  ·subst hm;exact⟨_,s',aB,hq,jA,rfl⟩
  ·exact⟨.ret,s',aB,hq,jA,trivial⟩
  ·exact⟨.bJ _,s',aB,hq,jA,hm⟩
 |cond c x y H4 H5=>
  intro Q s φ a w h hs
  simp only[iF]at h
  have hc:=lZ (M:=M) (φ:=φ) (H:=s.H) (w:=w) s a hs.env c
  split at h
  ·rename_i t hv
   rw[hv]at hc
   simp only[V.den,D.den]at hc
   cases t with
   |true=>exact oT hc (H4 Q s φ a w (h.1 rfl) hs)
   |false=>exact oT hc (H5 Q s φ a w (h.2 rfl) hs)
  ·rename_i hv
   rw[hv]at hc
   obtain⟨t,hc⟩:=hc
   cases t with
   |true=>exact oT hc (H4 Q s φ a w h.1 hs)
   |false=>exact oT hc (H5 Q s φ a w h.2 hs)
  ·exact h.elim
 |block id x ih=>
  intro Q s φ a w h hs
  refine Dx (fW (ih _ s φ a w h hs) ?_)
  rintro e a' w' ⟨xx,s',aB,hq,jA,hm⟩
  cases e<;>cases xx<;>first|(exact hm.elim)|skip
  ·exact⟨.normal,s',aB,hq,jA,trivial⟩
  ·subst hm
   simp only[Exit.inBlock]
   simp only[eZ]at hq
   split
   ·rename_i he;rw[if_pos he]at hq;exact⟨.normal,s',aB,hq,jA,trivial⟩
   ·rename_i he;rw[if_neg he]at hq;exact⟨.exit _,s',aB,hq,jA,rfl⟩
  ·exact⟨.ret,s',aB,hq,jA,trivial⟩
  ·exact⟨.bJ _,s',aB,hq,jA,hm⟩
 |loop x ih=>
  intro Q s φ a w h hs
  obtain⟨J,⟨m0,s1,hle,hI⟩,AL⟩:=h
  obtain⟨iu,pI⟩:=Fl hb hs hle
  refine wc (fun m a w=>∃s φ,J m s/\bY M cu H0 w0 n cx φ s a w) ?_ m0 a w ⟨s1,iu,hI,pI⟩
  rintro m a w ⟨s,φ,hI,hs⟩
  refine fW (ih _ s φ a w (AL m s hI) hs) ?_
  rintro e a' w' ⟨xx,s',aB,hq,jA,hm⟩
  cases e<;>cases xx<;>first|(exact hm.elim)|skip
  ·obtain⟨m2,s2,bI,Uj,Zg⟩:=hq
   obtain⟨DA,ED⟩:=Fl hb jA Uj
   exact⟨m2,bI,s2,DA,Zg,ED⟩
  ·subst hm;exact⟨_,s',aB,hq,jA,rfl⟩
  ·exact⟨.ret,s',aB,hq,jA,trivial⟩
  ·exact⟨.bJ _,s',aB,hq,jA,hm⟩
def Fm(tmps:Array Value)(r:ResultVar):Sem Value:=
 match r with
 | .tmp t=>pure (tmps.getD t undef)
 | .cell p t=>do loadVar t (<- asAddr (tmps.getD p undef))
theorem rC(oU:az M φ s.H w)(dq:∀i,V.den (aj M φ s.H) φ s.H w (s.env i) (a.tmps.getD i undef)):∀ (rs:List ResultVar) (vs:List V),lj P s rs=some vs->
 ∃vals,(rs.mapM (Fm a.tmps)).run P w= .ok vals w/\V.aF (aj M φ s.H) φ s.H w vs vals
 |[],vs,h=>by simp[lj]at h;subst h;exact⟨[],by simp,rfl⟩
 | .tmp t::rs,vs,h=>by
   simp only[lj,Option.map_eq_some_iff]at h
   obtain⟨us,h1,rfl⟩:=h
   obtain⟨vals,h2,h3⟩:=rC oU dq rs us h1
   exact⟨a.tmps.getD t undef::vals,by simp only[List.mapM_cons,Fm,Sem.run_bind,Sem.run_pure,Result.andThen_ok,h2],_,_,rfl,dq t,h3⟩
 | .cell p t::rs,vs,h=>by
   simp only[lj]at h
   split at h
   ·rename_i id off hv
    split at h
    ·rename_i cs ho
     simp only[Option.bind_eq_some_iff,Option.map_eq_some_iff]at h
     obtain⟨v,h0,us,h1,rfl⟩:=h
     obtain⟨vals,h2,h3⟩:=rC oU dq rs us h1
     have hx:=dq p
     rw[hv]at hx
     obtain⟨_,hu,hp⟩:=hx
     obtain⟨k,dp,ei⟩:=hp (by show(s.o id).bN=true;rw[ho];rfl)
     have bB:=oU.ok id
     have yu:s.H.o id= .row cs:=ho
     simp only[aL,yu]at bB
     obtain⟨b',cI,ty,g1,g2,g3,g4⟩:=bB
     rw[dp]at g1;simp at g1;subst g1
     obtain⟨val,h4,h5⟩:=oE (P:=P) h0 ⟨k,0,none⟩ cI.toList g3 g4 (fun j u hj=>oF g2 j u (by simpa using hj)) rfl
     rw[add_plain,Nat.zero_add]at h4
     have h6:(loadVar t ⟨k,off,none⟩).run P w= .ok val w:=by simpa[Instr.loadAt,Instr.sureAddr]using h4
     exact⟨val::vals,by simp only[List.mapM_cons,Fm,ei,asAddr,Sem.run_bind,Sem.run_pure,Result.andThen_ok,h6,h2],val,vals,rfl,h5,h3⟩
    ·cases h
   ·cases h
theorem mc{fn:Func}{tmps:Array Value}{vals:List Value}
 (h:(fn.results.toList.mapM (Fm tmps)).run P w= .ok vals w):
 (results fn tmps).run P w= .ok (if h:vals.toArray.size=1 then vals.toArray[0]else .tuple vals.toArray) w:=by
 have e:results fn tmps=(do let vs <- fn.results.mapM (Fm tmps);pure (if h:vs.size=1 then vs[0]else .tuple vs)):=by
  unfold results
  congr 2
 rw[e,Array.mapM_eq_mapM_toList]
 simp only[Sem.run_bind,Sem.run_map,h,Result.andThen_ok,Sem.run_pure]
theorem mT{us:Nat->Prop}(φ:Place)(hM:∀k,M k->k<w.heap.size):az M φ ⟨fun _=> .no,us⟩ w where
 ok id:=by simp[aL]
 fresh _ _:=rfl
 apart i j k hi:=by simp[ab.live]at hi
 ours k:=by rintro⟨id,h,_⟩;simp[ab.live]at h
 tX:=hM
theorem DB{vals:Array Value}{m i:Nat}:(vals++Array.replicate m undef).getD i undef=(vals[i]?).getD undef:=by
 simp only[Array.getD_eq_getD_getElem?,Array.getElem?_append]
 split
 ·rfl
 ·rw[Array.getElem?_eq_none (xs:=vals) (by omega)]
  simp only[Array.getElem?_replicate]
  split<;>rfl
structure wg (M:Nat->Prop) (cu:Place) (H0:Hp) (w0:World) (φ:Place) (s:S) (tmps:Array Value) (w:World):Prop where
 heap:az M φ s.H w
 tr:Trans cu H0 w0 φ s.H w
 env:∀i,V.den (aj M φ s.H) φ s.H w (s.env i) (tmps.getD i undef)
theorem DC{tmps:Array Value}(hs:wg M cu H0 w0 φ s tmps w){r:Nat}(h1:w0.heap.size<=r)(h2:w.heap[r]? =some (.deferred (some [])))(h3: ¬bS φ s.H r):
 wg M cu H0 w0 φ s tmps {w with heap:=w.heap.setIfInBounds r (.deferred none)}:=by
 have gX:∀b,b≠r->(w.heap.setIfInBounds r (.deferred none))[b]? =w.heap[b]? :=fun b hb=>(MapKept.heap_set h2).2 b hb
 have xE:∀b,cg w b-> ¬aj M φ s.H b->(w.heap.setIfInBounds r (.deferred none))[b]? =w.heap[b]? /\ ¬aj M φ s.H b:=by
  intro b hc hn
  refine⟨gX b fun e=> ?_,hn⟩
  subst e
  rcases hc with⟨cs,ty,fz,hc⟩|⟨es,clock,hc⟩
  ·rw[h2]at hc;cases hc
  ·rw[h2]at hc;cases hc
 refine⟨⟨fun id=> ?_,hs.heap.fresh,hs.heap.apart,fun b hb=>⟨(hs.heap.ours b hb).1,by simpa using(hs.heap.ours b hb).2⟩,fun b hb=>by simpa using hs.heap.tX b hb⟩,⟨⟨hs.tr.ck.os,hs.tr.ck.tape,hs.tr.ck.output,by simpa using hs.tr.ck.size,fun j hj hm=> ?_⟩,hs.tr.grow,hs.tr.rel⟩,fun i=>V.ko xE (dH.refl _ _) _ _ (hs.env i)⟩
 ·exact aL.xS xE (dH.refl _ _) rfl rfl (fun hl b hb=>gX b fun e=>h3 ⟨id,hl,e ▸ hb⟩) (hs.heap.ok id)
 ·rw[gX j (by omega)];exact hs.tr.ck.block j hj hm
theorem fY{fn:Func}{R:Ending->World->Prop}{u:FrameMode}(hu:u≠ .run){tmps tb:Array Value}{ds:List Deferred}(hR:∀w,wg M cu H0 w0 φ s tb w->LeavesInM (dD none) k P fn tmps R ds u w):
 ∀ (ms:List Nat) (w:World),ms.Nodup->(∀r∈ms,w0.heap.size<=r/\w.heap[r]? =some (.deferred (some []))/\ ¬bS φ s.H r)->wg M cu H0 w0 φ s tb w->LeavesInM (dD none) k P fn tmps R (ms.map mark++ds) u w
 |[],w,_,_,hs=>hR w hs
 |r::ms,w,hn,hm,hs=>by
  obtain⟨h1,h2,h3⟩:=hm r (by simp)
  obtain⟨JO,JP⟩:=List.nodup_cons.1 hn
  refine⟨hu, .inl ⟨r,{w with heap:=w.heap.setIfInBounds r (.deferred none)},rfl, ?_,fY hu hR ms _ JP (fun r' Ds=> ?_) (DC hs h1 h2 h3)⟩⟩
  ·simp[Instr.takeDeferred,getObj,setObj,Sem.run,h2,Result.andThen]
  ·obtain⟨g1,g2,g3⟩:=hm r' (by simp[Ds])
   exact⟨g1,((MapKept.heap_set h2).2 r' (fun e=>JO (e ▸ Ds))).trans g2,g3⟩
theorem bY.Xm (hs:bY M cu H0 w0 n cx φ s a w):wg M cu H0 w0 φ s a.tmps w:=⟨hs.heap,hs.tr,hs.env⟩
def lu(P:Program)(rs:List ResultVar)(K X:V->(Nat->ab)->Nat->Prop)(e:fO)(s:S):Prop:=
 match e with
 | .normal| .ret=>match lj P s rs with
   |some [v]=>K v s.o s.nx
   |some vs=>K (.bU vs) s.o s.nx
   |none=>False
 | .bJ v=>X v s.o s.nx
 | .exit _=>False
theorem yw{P:Program}{rs:List ResultVar}{K X:V->(Nat->ab)->Nat->Prop}{s:S}(h:lu P rs K X .ret s):∃vs,lj P s rs=some vs/\K (match vs with|[v]=>v|vs=> .bU vs) s.o s.nx:=by
 unfold lu at h
 simp only at h
 split at h
 ·rename_i v h1;exact⟨[v],h1,h⟩
 ·rename_i vs h1 h2
  refine⟨vs,h2, ?_⟩
  split
  ·exact absurd rfl (h1 _)
  ·exact h
 ·exact h.elim
theorem yx:∀ {vs:List V} {vals:List Value},V.aF (aj M φ H) φ H w vs vals->V.den (aj M φ H) φ H w (match vs with|[v]=>v|vs=> .bU vs) (if h:vals.toArray.size=1 then vals.toArray[0]else .tuple vals.toArray)
 |[],vals,h=>by simp only[V.aF]at h;subst h;exact⟨#[],rfl,rfl⟩
 |[v],vals,h=>by obtain⟨u,us,rfl,h1,h2⟩:=h;simp only[V.aF]at h2;subst h2;exact h1
 |v::y::l,vals,h=>by
  have h':=h
  obtain⟨u,us,rfl,h1,u2,us2,rfl,h2⟩:=h
  exact⟨(u::u2::us2).toArray,by simp,by simpa using h'⟩
theorem sD{vals:Array Value}{m:Nat}{vs:List V}(hd:V.aF (aj M φ H) φ H w vs vals.toList)(i:Nat):V.den (aj M φ H) φ H w (b9 vs i) ((vals++Array.replicate m undef).getD i undef):=by
 have hlen:=V.aE _ _ hd
 simp only[b9,DB]
 cases hx:vs[i]? with
 |none=>
  have:vals[i]? =none:=by
   rw[List.getElem?_eq_none_iff]at hx
   apply Array.getElem?_eq_none
   simp at hlen;omega
  simp only[List.getD_eq_getElem?_getD,hx,this]
  exact⟨#[],rfl,rfl⟩
 |some v=>
  obtain⟨u,hu,HD⟩:=V.dS _ _ _ _ hd hx
  have vQ:vals[i]? =some u:=by simpa using hu
  simp only[List.getD_eq_getElem?_getD,hx,vQ,Option.getD_some]
  exact HD
theorem me{f:FuncId}{fn:Func}{c:Code}{args:Array Value}{w:World}{R:Ending->World->Prop}(hf:P.funcs[f]? =some fn)(hb:fn.body=some c)
 (h:c.sB P none (bodyPostM (dD none) k P fn R) {tmps:=args++Array.replicate (fn.ntmps - args.size) undef,defers:=[]} w):CallsIn (dD none) k P f args w R:=by
 have bI:f<P.funcs.size:=(Array.getElem?_eq_some_iff.1 hf).1
 refine⟨trivial,fun cs hr=> ?_⟩
 let b:Frame:={(default:Frame)with fn:=f,kind:= .normal,roundOf:=none}
 have lr:Frame.enter P f args .normal=b.atR {tmps:=args++Array.replicate (fn.ntmps - args.size) undef,defers:=[]} [.code c]:=by
  simp[Frame.enter,Frame.atR,hf,hb,b]
 obtain⟨e,a',w',hq,ct⟩:=h b [] cs rfl bI
 rw[<- lr]at ct
 cases e with
 |normal=>
  obtain⟨e',Jv,Pb,hR,hs,Dw,hl⟩:=leaves_stepsInM a'.defers .returning w' {b.atR a' []with mode:= .returning} cs rfl rfl rfl hf rfl (trivial:(dD none).fn f) hr hq
  exact⟨e',Jv,Pb,hR,ComesIn.of_steps (StepsIn.trans ct (.one (fenced_calm (n:=0) (fr:=b.atR a' []) trivial fV rfl) (stepR_end rfl))) hs,Dw,hl⟩
 |ret=>
  obtain⟨todo,Fo⟩:=ct.1 rfl
  obtain⟨e',Jv,Pb,hR,hs,Dw,hl⟩:=leaves_stepsInM a'.defers .returning w' {b.atR a' todo with mode:= .returning} cs rfl rfl rfl hf rfl (trivial:(dD none).fn f) hr hq
  exact⟨e',Jv,Pb,hR,ComesIn.of_steps Fo hs,Dw,hl⟩
 |panic chain=>
  obtain⟨todo,Fo⟩:=ct
  obtain⟨e',Jv,Pb,hR,hs,Dw,hl⟩:=leaves_stepsInM a'.defers (.panicking chain) w' {b.atR a' todo with mode:= .panicking chain} cs rfl rfl rfl hf rfl (trivial:(dD none).fn f) hr hq
  exact⟨e',Jv,Pb,hR,ComesIn.of_steps Fo hs,Dw,hl⟩
 |exit id=>exact hq.elim
 |goto l=>exact hq.elim
 |outgrown=>exact⟨.outgrown,w',b,hq,ct.resolve_left (by simp[b]),rfl,trivial⟩
def AM(P:Program)(l:Nat)(R:Ending->World->Prop):Exit->Act->World->Prop
 | .normal,_,w=>∃v w',(Instr.endRound l none).run P w= .ok v w'/\R (.returned v) w'
 | .ret,_,w=>∃v w',(Instr.endRound l (some .ret)).run P w= .ok v w'/\R (.returned v) w'
 | .exit id,_,w=>∃v w',(Instr.endRound l (some (.exit id))).run P w= .ok v w'/\R (.returned v) w'
 | .goto _,_,_=>False
 | .panic chain,a,w=>a.defers=[]/\R (.panicked chain) w
 | .outgrown,_,_=>False
theorem sE{l:Nat}{f:FuncId}{tmps:Array Value}{assign body:Code}{w:World}{R:Ending->World->Prop}(hf:f<P.funcs.size)
 (h:assign.sB P (some l) (Exit.then (fun iL fC=>∃pX,(Instr.beginRound l).run P fC= .ok () pX/\body.sB P (some l) (AM P l R) iL pX) (fun e a w=>match e with| .panic chain=>a.defers=[]/\R (.panicked chain) w|_=>False))
  {tmps:=tmps,defers:=[]} w):
 RoundIn Fence.wide n P l f tmps assign body w R:=by
 refine⟨trivial,fun c cs hr=> ?_⟩
 let b:Frame:={(default:Frame)with fn:=f,kind:= .normal,roundOf:=some l}
 have Pc:Frame.round l f tmps assign body .normal=b.atR {tmps:=tmps,defers:=[]} [.code assign, .beginRound, .code body]:=by
  simp[Frame.round,Frame.atR,b]
 have calm:∀ (m:Machine),m.fenced P Fence.wide:=fun m=>fenced_wide P m
 have bJ:∀ {a:Act} {w:World} {todo:List Item} {chain:List PanicEntry},a.defers=[]->step P (lone {b.atR a todo with mode:= .panicking chain} (c::cs) w)= .next (lone (c.raise chain) cs w):=by
  intro a w todo chain hd
  exact step_leave_panicked (fr:={b.atR a todo with mode:= .panicking chain}) ⟨rfl,hd,P.funcs[f],by show P.funcs[f]? =_;simp[hf]⟩
 obtain⟨e,iL,fC,hq,ct⟩:=h b [.beginRound, .code body] (c::cs) rfl hf
 rw[<- Pc]at ct
 cases e with
 |normal=>
  obtain⟨pX,Zh,oV⟩:=hq
  have s1:StepsIn (Machine.fenced P Fence.wide) P (lone (b.atR iL [.beginRound, .code body]) (c::cs) fC) (lone (b.atR iL [.code body]) (c::cs) pX):= .one (calm _) (stepR_beginRound rfl Zh)
  obtain⟨Lp,Pa,AG,oS,jK⟩:=oV b [] (c::cs) rfl hf
  have ct:StepsIn (Machine.fenced P Fence.wide) P _ _:=ct
  cases Lp with
  |normal=>
   obtain⟨v,rh,fX,hR⟩:=oS
   have jK:StepsIn (Machine.fenced P Fence.wide) P _ _:=jK
   exact⟨.returned v,rh,hR,(StepsIn.trans ct s1).trans (StepsIn.trans jK (.one (calm _) (stepR_round_end rfl rfl fX)))⟩
  |ret=>
   obtain⟨v,rh,fX,hR⟩:=oS
   obtain⟨k₁,hs⟩:=jK.2 rfl
   have hs:StepsIn (Machine.fenced P Fence.wide) P _ _:=hs
   exact⟨.returned v,rh,hR,(StepsIn.trans ct s1).trans (StepsIn.trans hs (.one (calm _) (stepR_round_ret rfl rfl fX)))⟩
  |exit id=>
   obtain⟨v,rh,fX,hR⟩:=oS
   obtain⟨k₁,hk,hs⟩:=jK.2 rfl rfl
   have hs:StepsIn (Machine.fenced P Fence.wide) P _ _:=hs
   exact⟨.returned v,rh,hR,(StepsIn.trans ct s1).trans (StepsIn.trans hs (.one (calm _) (stepR_round_exit rfl rfl hk fX)))⟩
  |goto t=>exact oS.elim
  |panic chain=>
   obtain⟨todo,hs⟩:=jK
   have hs:StepsIn (Machine.fenced P Fence.wide) P _ _:=hs
   exact⟨.panicked chain,AG,oS.2,(StepsIn.trans ct s1).trans (StepsIn.trans hs (.one (calm _) (bJ oS.1)))⟩
  |outgrown=>exact oS.elim
 |exit id=>exact hq.elim
 |goto t=>exact hq.elim
 |ret=>exact hq.elim
 |panic chain=>
  obtain⟨todo,hs⟩:=ct
  have hs:StepsIn (Machine.fenced P Fence.wide) P _ _:=hs
  exact⟨.panicked chain,fC,hq.2,StepsIn.trans hs (.one (calm _) (bJ hq.1))⟩
 |outgrown=>exact hq.elim
theorem eR.B0 {f:FuncId}{fn:Func}{c:Code}{args:List V}{o:Nat->ab}{nx:Nat}{K X:V->(Nat->ab)->Nat->Prop}(hf:P.funcs[f]? =some fn)(hn:(fn.name== "runtime.NumGoroutine")=false)(oV:fn.body=some c)(hl:args.length<=fn.ntmps)
 (h:iF P fn.ntmps nx false c (lu P fn.results.toList K X) ⟨b9 args,o,nx⟩):eR P f args o nx K X:=by
 refine⟨⟨fn,hf,hn,by rw[oV];rfl⟩,fun M φ w vals hH hd=> ?_⟩
 have hlen:=V.aE _ _ hd
 let s0:S:=⟨b9 args,o,nx⟩
 let a0:Act:={tmps:=vals++Array.replicate (fn.ntmps - vals.size) undef,defers:=[]}
 have ua:bY M φ (hp o nx) w fn.ntmps ⟨[],false⟩ φ s0 a0 w:=by
  refine⟨hH,Trans.refl _ _ _, ?_,⟨[],rfl,List.nodup_nil,fun _=>rfl,fun r hr=>by cases hr⟩,sD hd⟩
  simp only[a0,Array.size_append,Array.size_replicate];simp at hlen;omega
 refine yj (ro:=none) (k:=0) (me hf oV (fW (gA (P:=P) (H0:=hp o nx) (b:=nx) (cx:=⟨[],false⟩) (ro:=none) (fun id hu=>hu) (fun _=>rfl) c _ s0 φ a0 w h ua) ?_))
 rintro e a w' ⟨x,s,aB,hq,hs,hm⟩
 obtain⟨ms,g1,g2,g3,g4⟩:=hs.defers
 rw[List.append_nil]at g1
 have done:(x= .normal\/x= .ret)->LeavesInM (dD none) 0 P fn a.tmps (l7 M φ (hp o nx) w K X) a.defers .returning w':=by
  intro hx
  have Zi:lu P fn.results.toList K X .ret s:=by rcases hx with rfl|rfl<;>exact hq
  obtain⟨vs,h1,h2⟩:=yw Zi
  rw[g1]
  have:=fY (P:=P) (k:=0) (fn:=fn) (R:=l7 M φ (hp o nx) w K X) (u:= .returning) (by simp) (ds:=[]) (fun w2 hb=>by
   obtain⟨vals,h3,h4⟩:=rC (P:=P) (a:=a) hb.heap hb.env _ _ h1
   exact⟨_,mc h3,aB,s.o,s.nx,_,hb.heap,hb.tr,yx h4,h2⟩) ms w' g2 g4 hs.Xm
  rwa [List.append_nil]at this
 cases e<;>cases x<;>first|(exact hm.elim)|skip
 ·exact done (.inl rfl)
 ·exact hq.elim
 ·exact done (.inr rfl)
 ·rename_i v
  obtain⟨val,rfl,Uk⟩:=hm
  show LeavesInM (dD none) 0 P fn a.tmps (l7 M φ (hp o nx) w K X) a.defers _ w'
  rw[g1]
  have Pc:wg M φ (hp o nx) w aB ⟨fun i=>if i=0 then v else .af,s.o,s.nx⟩ #[val] w':=⟨hs.heap,hs.tr,fun i=>by
   by_cases hi:i=0
   ·subst hi;exact Uk
   ·simp only[hi,if_false];trivial⟩
  have:=fY (P:=P) (k:=0) (fn:=fn) (s:=⟨fun i=>if i=0 then v else .af,s.o,s.nx⟩) (tmps:=a.tmps) (tb:=#[val]) (cu:=φ) (H0:=hp o nx) (w0:=w) (R:=l7 M φ (hp o nx) w K X) (u:= .panicking [{v:=val,recovered:=false}]) (by simp) (ds:=[]) (fun w2 hb=>by
   have h0:=hb.env 0
   exact⟨aB,s.o,s.nx,v,hb.heap,hb.tr,val,rfl,h0,hq⟩) ms w' g2 g4 Pc
  rwa [List.append_nil]at this
theorem bC.jT {f:FuncId}{ds:List D}{out:R}(h:eR P f (ds.map .d) (fun _=> .no) 0 (fun v o _=>∃vs rs,v=(match vs with|[v]=>v|vs=> .bU vs)/\bW o vs=some rs/\out= .ret rs) (fun v o _=>∃x,dI o v=some x/\out= .bJ x)):bC P f ds out:=by
 refine⟨h.1,fun M w vals hM hd=> ?_⟩
 let cu:Place:=fun _=> .nilFunc
 have wh:∀b, ¬bS cu (hp (fun _=> .no) 0) b:=by rintro b ⟨id,hl,_⟩;simp[hp,ab.live]at hl
 refine(h.2 M cu w vals (mT cu hM) ((V.cm _ _).2 (D.aJ (w:=w) (w':=w) (B:=M) (fun b _ hB=>⟨rfl,fun h=>h.elim hB (wh b)⟩) _ _ hd))).mono ?_
 rintro e w' ⟨aB,o',nx',v,k1,k2,k3⟩
 have Pf:eL (fun _=>False) w w':=⟨k2.ck.os,k2.ck.tape,k2.ck.output,k2.ck.size,fun k hk _=>k2.ck.block k hk (wh k)⟩
 have fin:∀ (vs:List V) (xs:List D) (vals:List Value),bW o' vs=some xs->V.aF (aj M aB (hp o' nx')) aB (hp o' nx') w' vs vals->D.aF M w' xs vals:=by
  intro vs xs vals h1 h2
  obtain⟨f1,f2,f3,f4,f5⟩:=cR k1 (V.bg vs) (cn vs _ h2)
  have h3:=db f1 vs xs vals f3 h1 (V.aJ f2 _ _ h2)
  exact D.aJ (w:=w') (w':=w') (fun k _ hB=>⟨rfl,fun hM=>hB (.inl hM)⟩) xs vals h3
 refine⟨Pf, ?_⟩
 cases e with
 |outgrown=>exact k3.elim
 |panicked ch=>
  obtain⟨val,rfl,g1,x,g2,rfl⟩:=k3
  have:=fin [v] [x] [val] (by simp[bW,g2]) ⟨val,[],rfl,g1,rfl⟩
  obtain⟨u,us,he,h2,_⟩:=this
  simp at he;obtain⟨rfl,rfl⟩:=he
  exact⟨val,rfl,h2⟩
 |returned val=>
  obtain⟨g1,vs,rs,rfl,g2,rfl⟩:=k3
  match vs,g1,g2 with
  |[],g1,g2=>
   obtain⟨arr,rfl,hv⟩:=g1
   simp only[bW,Option.some.injEq]at g2;subst g2
   exact⟨arr,rfl,hv⟩
  |[v],g1,g2=>
   have:=fin [v] rs [val] g2 ⟨val,[],rfl,g1,rfl⟩
   cases rs with
   |nil=>cases this
   |cons x l=>
    obtain⟨u,us,he,h2,h3⟩:=this
    simp at he;obtain⟨rfl,rfl⟩:=he
    cases l with
    |nil=>exact h2
    |cons y l=>obtain⟨_,_,h,_⟩:=h3;cases h
  |v::v2::l,g1,g2=>
   obtain⟨arr,rfl,h⟩:=g1
   have:=fin (v::v2::l) rs arr.toList g2 h
   have hl:=D.aE _ _ this
   have Pg:=V.aE _ _ h
   match rs,hl,this with
   |[],hl,_=>rw[Pg]at hl;simp at hl
   |[x],hl,_=>rw[Pg]at hl;simp at hl
   |x::y::l,_,this=>exact⟨arr,rfl,this⟩
theorem DD{rs:List ResultVar}{out:R}(e:fO)(s:S)(h:AF P rs out e s):
 lu P rs (fun v o _=>∃vs rs,v=(match vs with|[v]=>v|vs=> .bU vs)/\bW o vs=some rs/\out= .ret rs) (fun v o _=>∃x,dI o v=some x/\out= .bJ x) e s:=by
 have ret:AF P rs out .ret s->lu P rs (fun v o _=>∃vs rs,v=(match vs with|[v]=>v|vs=> .bU vs)/\bW o vs=some rs/\out= .ret rs) (fun v o _=>∃x,dI o v=some x/\out= .bJ x) .ret s:=by
  intro h
  obtain⟨vs,xs,h1,h2,h3⟩:=Fe h
  simp only[lu,h1]
  match vs,h2 with
  |[],h2=>exact⟨[],xs,rfl,h2,h3⟩
  |[v],h2=>exact⟨[v],xs,rfl,h2,h3⟩
  |v::v2::l,h2=>exact⟨v::v2::l,xs,rfl,h2,h3⟩
 cases e with
 |normal=>exact ret h
 |ret=>exact ret h
 |exit id=>exact h.elim
 |bJ v=>exact Ff h
end
end Go.Proofs.YtealblliddhgiaaGreat
namespace Go.Proofs.YtealblliddhgiaaGreat
def Fq{α:Type}(c:Bool)(x:α):Option α:=if c=true then some x else none
def one(v:V):Option fS:=some (v,[],[])
def yy(op:BinOp)(k:IntKind)(a b:Int):Option V:=
 match op with
 | .add=>some (.d (.int k (k.wrap (a+b))))
 | .sub=>some (.d (.int k (k.wrap (a - b))))
 | .mul=>some (.d (.int k (k.wrap (a*b))))
 | .quo=>if b=0 then none else some (.d (.int k (k.wrap (a.tdiv b))))
 | .rem=>if b=0 then none else some (.d (.int k (a.tmod b)))
 | .and=>(rX .and k a b).map fun r=> .d (.int k r)
 | .or=>(rX .or k a b).map fun r=> .d (.int k r)
 | .xor=>(rX .xor k a b).map fun r=> .d (.int k r)
 | .andNot=>(rX .andNot k a b).map fun r=> .d (.int k r)
 | .eql=>some (.d (.bool (a==b)))| .neq=>some (.d (.bool (a !=b)))| .lss=>some (.d (.bool (decide (a<b))))| .leq=>some (.d (.bool (decide (a<=b))))
 | .gtr=>some (.d (.bool (decide (b<a))))| .geq=>some (.d (.bool (decide (b<=a))))
 |_=>none
def aS(P:Program)(t:TypeId):Bool:=
 match P.underlying t with
 |some .bool=>true
 |_=>false
def wk(P:Program)(op:BinOp)(t:TypeId)(x y:V):Option V:=
 match x,y with
 | .d (.int k a), .d (.int k' b)=>if k=k' then yy op k a b else none
 | .d (.bool a), .d (.bool b)=>match op with
   | .eql=>Fq (aS P t) (.d (.bool (a==b)))
   | .neq=>Fq (aS P t) (.d (.bool (a !=b)))
   |_=>none
 | .d (.str a), .d (.str b)=>match op with
   | .eql=>some (.d (.bool (a==b)))
   | .neq=>some (.d (.bool (a !=b)))
   |_=>none
 |_,_=>none
def Ul(op:UnOp)(x:V):Option V:=
 match op,x with
 | .neg, .d (.int k n)=>some (.d (.int k (k.wrap (-n))))
 | .not, .d (.bool b)=>some (.d (.bool !b))
 |_,_=>none
def oW(c a b:V):Option V:=
 match c with
 | .d (.bool true)=>some a
 | .d (.bool false)=>some b
 |_=>none
def oX(o:Nat->ab)(x:V):Option (List D×List Nat):=
 match x with
 | .d (.sl es)=>some (es,[])
 | .br=>some ([],[])
 | .nC es=>some (es,[])
 | .osl id ep=>match o id with
   | .arr gw _ _ es=>if ep=gw then some (es,[id])else none
   | .ou gw es=>if ep=gw then some (es,[id])else none
   |_=>none
 |_=>none
def AO(P:Program)(t:TypeId)(o:Nat->ab)(x:V):Option fS:=
 match P.underlying t with
 |some (.slice _)=>match oX o x with
  |some (es,rd)=>some (.d (.int .i64 es.length),[],rd)
  |none=>none
 |some .string=>match x with
  | .d (.str s)=>one (.d (.int .i64 s.length))
  |_=>none
 |some (.array n _)=>one (.d (.int .i64 n))
 |_=>none
def uP(P:Program)(e:TypeId)(es:List D)(i:Int)(rd:List Nat):Option fS:=
 if 0<=i then match es[i.toNat]? with
  |some y=>Fq (y.cells.length==P.cellsOf e&&0<P.cellsOf e) (.pp y.cells 0,[],rd)
  |none=>none
 else none
def nu(o:Nat->ab)(x:V)(q:Nat):Option V:=
 match x with
 | .ptr id off=>Fq (o id).bN (.ptr id (off+q))
 | .pp cs off=>some (.pp cs (off+q))
 | .pe id ep j sz off=>if(o id).ba=some ep then some (.pe id ep j sz (off+q))else none
 |_=>none
def gB(P:Program)(o:Nat->ab)(t:TypeId)(x ix:V):Option fS:=
 match ix with
 | .d (.int _ i)=>match aX P t with
   |some e=>match x with
    | .d (.sl es)=>uP P e es i []
    | .nC es=>uP P e es i []
    | .osl id ep=>match o id with
      | .arr gw _ sz es=>if ep=gw/\0<=i/\i.toNat<es.length/\sz=P.cellsOf e/\0<P.cellsOf e then some (.pe id ep i.toNat sz 0,[],[id])else none
      | .ou gw es=>if ep=gw then uP P e es i [id]else none
      |_=>none
    |_=>none
   |none=>match cy P t with
    |some (n,e)=>if 0<=i/\i<n/\(P.info? e).isSome=true then(nu o x (i.toNat*P.cellsOf e)).bind one else none
    |none=>none
 |_=>none
def gC(P:Program)(o:Nat->ab)(t:TypeId)(x:V)(f:Nat):Option V:=
 match cl P t f with
 |some q=>nu o x q
 |none=>none
def mf(P:Program)(o:Nat->ab)(t:TypeId)(x:V):Option fS:=
 match x with
 | .ptr id off=>match o id with
   | .row cs=>match eD P t cs off with
     |some v=>some (v,[],[id])
     |none=>none
   |_=>none
 | .pp cs off=>match eD P t (cs.map .d) off with
   |some v=>some (v,[],[])
   |none=>none
 | .pe id ep i sz off=>match o id with
   | .arr gw _ m8 es=>if ep=gw/\sz=m8 then match es[i]? with
    |some e=>match eD P t (e.cells.map .d) off with
     |some v=>some (v,[],[id])
     |none=>none
    |none=>none
     else none
   |_=>none
 |_=>none
def pY(P:Program)(o:Nat->ab)(t:TypeId)(x v:V):Option fS:=
 match x with
 | .ptr id off=>match o id with
   | .row cs=>match vL P t cs off v with
     |some cs'=>some (.bU [],[(id, .row cs')],[id])
     |none=>none
   |_=>none
 | .pe id ep i m8 off=>match o id with
   | .arr gw ty sz es=>if ep=gw/\m8=sz then match es[i]?,dI o v with
    |some e,some y=>if y.cells.length=P.cellsOf t/\0<y.cells.length/\v.ids.all (· !=id)=true then match e.put off y.cells with
     |some e'=>some (.bU [],cH o v.ids++[(id, .arr ep ty sz (es.set i e'))],id::v.ids)
     |none=>none
     else none
    |_,_=>none
     else none
   |_=>none
 |_=>none
def fL(P:Program)(o:Nat->ab)(fr:Nat)(t:TypeId)(len:Nat)(parts:List (Nat×V)):Option fS:=
 match aX P t with
 |some e=>if len=0/\parts.isEmpty=true/\0<P.cellsOf e then some (.osl fr 0,[(fr, .arr 0 e (P.cellsOf e) [])],[])else if parts.map (·.1)=List.range len/\(bt P e).isSome=true/\0<len/\0<P.cellsOf e/\len*P.cellsOf e<=2^24 then match bW o (parts.map (·.2))with
  |some ds=>if ds.all (fun x=>x.cells.length==P.cellsOf e)=true then some (.osl fr 0,cH o (V.bg (parts.map (·.2)))++[(fr, .arr 0 e (P.cellsOf e) ds)],V.bg (parts.map (·.2)))else none
  |none=>none
  else none
 |none=>none
def lx(P:Program)(fr:Nat)(t:TypeId)(l c:V):Option fS:=
 match aX P t with
 |some e=>match l,c with
  | .d (.int _ n), .d (.int _ m)=>if n=m/\0<=n/\0<P.cellsOf e/\P.bytesOf e*n.toNat<=2^47/\n.toNat<=2^47 then match bM P e with
   |some x=>some (.osl fr 0,[(fr, .arr 0 e (P.cellsOf e) (List.replicate n.toNat x))],[])
   |none=>none
    else none
  |_,_=>none
 |none=>none
def oY(P:Program)(o:Nat->ab)(fr:Nat)(ts:Array TypeId)(x y:V):Option fS:=
 match ts.toList with
 |[t,t']=>if t=t' then match aX P t,oX o y with
    |some e,some (new,rd)=>if 0<P.cellsOf e/\(bt P e).isSome=true/\new.all (fun z=>z.cells.length==P.cellsOf e)=true then match x with
     | .br=>if new.length<=2^47/\new.length*P.bytesOf e<=2^47 then some (.osl fr 0,[(fr, .arr 0 e (P.cellsOf e) new)],rd)else none
     | .nC es=>if es.all (fun z=>z.cells.length==P.cellsOf e)=true then(if new=[]then some (.nC es,[],rd)else if es.length+new.length<=2^40/\(es.length+new.length)*P.bytesOf e<=2^40 then some (.osl fr 0,[(fr, .arr 0 e (P.cellsOf e) (es++new))],rd)else none)else none
     | .osl id ep=>match o id with
       | .arr gw ty sz es=>if ep=gw/\ty=e/\sz=P.cellsOf e/\es.length+new.length<=2^47/\(es.length+new.length)*P.bytesOf e<=2^47 then
        some (.osl id (ep+1),[(id, .arr (ep+1) ty sz (es++new))],id::rd)else none
       |_=>none
     |_=>none
     else none
    |_,_=>none
  else none
 |_=>none
def oZ(isMax:Bool)(x y:V):Option V:=
 match x,y with
 | .d (.int k a), .d (.int k' b)=>if k=k' then some (.d (.int k (if isMax then(if b>a then b else a)else(if b<a then b else a))))else none
 |_,_=>none
def ly(x:Option V):Option fS:=match x with|some v=>one v|none=>none
def o6(P:Program)(s:S)(fr:Nat)(b:Builtin)(args:List Operand)(ts:Array TypeId):Option fS:=
 match b,args with
 | .len,[x]=>match ts.toList with
   |[t]=>AO P t s.o (s.ev x)
   |_=>none
 | .append,[x,y]=>oY P s.o fr ts (s.ev x) (s.ev y)
 | .max,[x,y]=>ly (oZ true (s.ev x) (s.ev y))
 | .min,[x,y]=>ly (oZ false (s.ev x) (s.ev y))
 | .max,[x,y,z]=>ly (ET (s.ev x) (s.ev y) (s.ev z))
 | .copy,[x,y]=>ux P s.o ts (s.ev x) (s.ev y)
 | .delete,[x,y]=>match ts.toList.head? with
   |some t=>mP P s.o t (s.ev x) (s.ev y)
   |none=>none
 |_,_=>none
def wm(P:Program)(t:TypeId)(parts:List (Nat×V)):Option V:=
 match bt P t,dv P t with
 |some z,some pl=>match qu pl z parts with
  |some cs=>some (ff cs)
  |none=>none
 |_,_=>none
def iP(o:Nat->ab)(x:V):Option V:=
 match x with
 | .ptr id off=>Fq (o id).bN (.ptr id off)
 | .pp cs off=>some (.pp cs off)
 | .func (.func f) first cap=>some (.func (.func f) first cap)
 |_=>none
def aC(P:Program)(t:TypeId):Bool:=
 match P.underlying t with
 |some (.interface _)=>false
 |some _=>true
 |none=>false
def Fs(P:Program)(t:TypeId)(x:V):Option V:=
 Fq (aC P t) (match x with
  | .d y=> .d (.iface t y)
  |v=> .iface t v)
def dn(P:Program)(o:Nat->ab)(op:BinOp)(t:TypeId)(nG:Bool)(x y:V):Option fS:=
 match wk P op t x y with
 |some v=>one v
 |none=>pR P o op t nG x y
def yz(op:UnOp)(x:V):Option V:=
 match op,x with
 | .not, .eK=>some .eK
 |op,x=>Ul op x
def fP(P:Program)(s:S)(fr:Nat)(op:Op):Option fS:=
 match op with
 | .move x=>one (s.ev x)
 | .assign x=>one (s.ev x)
 | .pick c a b=>ly (oW (s.ev c) (s.ev a) (s.ev b))
 | .alloc t=>match bt P t with
   |some cs=>some (.ptr fr 0,[(fr, .row cs)],[])
   |none=>none
 | .box _ x=>match(s.ev x).cells with
   |some cs=>some (.ptr fr 0,[(fr, .row cs)],[])
   |none=>none
 | .build t parts=>ly (wm P t (parts.toList.map fun p=>(p.1,s.ev p.2)))
 | .buildSlice t len parts=>fL P s.o fr t len (parts.toList.map fun p=>(p.1,s.ev p.2))
 | .load t x=>mf P s.o t (s.ev x)
 | .store t x v=>pY P s.o t (s.ev x) (s.ev v)
 | .nilCheck x=>ly (iP s.o (s.ev x))
 | .binOp op t x y _=>dn P s.o op t (isConst x||isConst y) (s.ev x) (s.ev y)
 | .unOp op _ x=>ly (yz op (s.ev x))
 | .convert u t x=>match P.underlying u,cD P t,s.ev x with
   |some _,some k, .d (.int _ n)=>one (.d (.int k (k.wrap n)))
   |_,_,_=>none
 | .makeInterface t x=>ly (Fs P t (s.ev x))
 | .makeFunc fn first cap=>one (.func fn (first.toList.map s.ev) (cap.toList.map s.ev))
 | .makeSlice t l c=>lx P fr t (s.ev l) (s.ev c)
 | .fieldAddr t x f=>ly (gC P s.o t (s.ev x) f)
 | .indexAddr t x i=>gB P s.o t (s.ev x) (s.ev i)
 | .extract x i=>match s.ev x with
   | .bU vs=>match vs[i]? with
     |some v=>one v
     |none=>none
   |_=>none
 | .call c=>match c.callee with
   | .builtin b=>o6 P s fr b c.args.toList c.argTypes
   |_=>none
 | .slice t x lo hi mx=>pN P s.o t (s.ev x) (lo.map s.ev) (hi.map s.ev) (mx.map s.ev)
 | .field t x f=>ly (rZ P t (s.ev x) f)
 | .index t x i=>ly (r8 P t (s.ev x) (s.ev i))
 | .typeAssert x _ t ok=>ly (oz P t ok (s.ev x))
 | .makeMap t none=>lW P fr t
 | .lookup t m k ok=>gQ P s.o t (s.ev m) (s.ev k) ok
 | .mapUpdate t m k v=>fk P s.o t (s.ev m) (s.ev k) (s.ev v)
 | .insert t m k v=>fk P s.o t (s.ev m) (s.ev k) (s.ev v)
 | .range t x=>lX P s.o fr t (s.ev x)
 | .next x str=>nn s.o (s.ev x) str
 | .entry x=>lY s.o (s.ev x)
 |_=>none
section
variable {P:Program}{s:S}{fr:Nat}{v:V}{Δ:List (Nat×ab)}{rd:List Nat}{o:Nat->ab}{K:V->List (Nat×ab)->List Nat->Prop}
theorem pZ{α:Type}{c:Bool}{x y:α}(h:Fq c x=some y):c=true/\x=y:=by
 unfold Fq at h;split at h
 ·injection h with h;exact⟨by assumption,h⟩
 ·cases h
theorem jU{x:V}{r:fS}(h:one x=some r):r=(x,[],[]):=by unfold one at h;injection h with h;exact h.symm
theorem fl{x:Option V}{r:fS}(h:ly x=some r):∃v,x=some v/\r=(v,[],[]):=by
 unfold ly at h;split at h
 ·exact⟨_,rfl,jU h⟩
 ·cases h
theorem AP{x:V}{es:List D}{rd:List Nat}(h:oX o x=some (es,rd)):eE o x=some es/\rd=x.ids:=by
 unfold oX at h
 split at h
 ·simp at h;obtain⟨rfl,rfl⟩:=h;exact⟨rfl,rfl⟩
 ·simp at h;obtain⟨rfl,rfl⟩:=h;exact⟨rfl,rfl⟩
 ·simp at h;obtain⟨rfl,rfl⟩:=h;exact⟨rfl,rfl⟩
 ·split at h
  ·rename_i ho
   split at h
   ·rename_i e;simp at h;obtain⟨rfl,rfl⟩:=h;exact⟨by simp[eE,dI,ho,e],rfl⟩
   ·cases h
  ·rename_i ho
   split at h
   ·rename_i e;simp at h;obtain⟨rfl,rfl⟩:=h;exact⟨by simp[eE,dI,ho,e],rfl⟩
   ·cases h
  ·cases h
 ·cases h
theorem DE{op:BinOp}{k:IntKind}{a b:Int}{v:V}(h:yy op k a b=some v){K:V->Prop}(hK:K v):Hy op k a b K:=by
 cases op<;>simp only[yy]at h<;>simp only[Hy]
 case quo=>split at h
           ·cases h
           ·injection h with h;subst h;exact⟨by assumption,hK⟩
 case rem=>split at h
           ·cases h
           ·injection h with h;subst h;exact⟨by assumption,hK⟩
 case and=>simp only[Option.map_eq_some_iff]at h;obtain⟨r,h1,rfl⟩:=h;exact⟨r,h1,hK⟩
 case or=>simp only[Option.map_eq_some_iff]at h;obtain⟨r,h1,rfl⟩:=h;exact⟨r,h1,hK⟩
 case xor=>simp only[Option.map_eq_some_iff]at h;obtain⟨r,h1,rfl⟩:=h;exact⟨r,h1,hK⟩
 case andNot=>simp only[Option.map_eq_some_iff]at h;obtain⟨r,h1,rfl⟩:=h;exact⟨r,h1,hK⟩
 case shl=>cases h
 case shr=>cases h
 case eql=>injection h with h;subst h;exact⟨_,rfl,hK⟩
 case neq=>injection h with h;subst h;exact⟨_,rfl,hK⟩
 case lss=>injection h with h;subst h;exact⟨_,rfl,hK⟩
 case leq=>injection h with h;subst h;exact⟨_,rfl,hK⟩
 case gtr=>injection h with h;subst h;exact⟨_,rfl,hK⟩
 case geq=>injection h with h;subst h;exact⟨_,rfl,hK⟩
 all_goals (injection h with h;subst h;exact hK)
theorem DF{op:BinOp}{t:TypeId}{x y v:V}(h:wk P op t x y=some v){K:V->Prop}(hK:K v):EP P op t x y K:=by
 unfold wk at h
 unfold EP
 split at h
 ·split at h
  ·exact⟨by assumption,DE h hK⟩
  ·cases h
 ·have hb:aS P t=true->P.underlying t=some .bool:=by
   unfold aS;intro h;split at h
   ·assumption
   ·cases h
  split at h
  ·obtain⟨h1,rfl⟩:=pZ h;exact⟨hb h1,hK⟩
  ·obtain⟨h1,rfl⟩:=pZ h;exact⟨hb h1,hK⟩
  ·cases h
 ·split at h
  ·injection h with h;subst h;exact hK
  ·injection h with h;subst h;exact hK
  ·cases h
 ·cases h
theorem AQ{c a b v:V}(h:oW c a b=some v){K:V->Prop}(hK:K v):xN c a b K:=by
 unfold oW at h
 unfold xN
 split at h
 ·injection h with h;subst h;exact⟨fun _=>hK,(fun h=>by cases h)⟩
 ·injection h with h;subst h;exact⟨(fun h=>by cases h),fun _=>hK⟩
 ·cases h
theorem sF{x y:V}{q:Nat}(h:nu o x q=some y):(∃id off,x= .ptr id off/\(o id).bN=true/\y= .ptr id (off+q))\/(∃cs off,x= .pp cs off/\y= .pp cs (off+q))\/
 (∃id ep j sz off,x= .pe id ep j sz off/\(o id).ba=some ep/\y= .pe id ep j sz (off+q)):=by
 unfold nu at h
 split at h
 ·obtain⟨h1,rfl⟩:=pZ h;exact .inl ⟨_,_,rfl,h1,rfl⟩
 ·injection h with h;exact .inr (.inl ⟨_,_,rfl,h.symm⟩)
 ·split at h
  ·injection h with h;exact .inr (.inr ⟨_,_,_,_,_,rfl,by assumption,h.symm⟩)
  ·cases h
 ·cases h
theorem nO{e:TypeId}{es:List D}{i:Int}{rd:List Nat}{r:fS}(h:uP P e es i rd=some r):
 0<=i/\∃y,es[i.toNat]? =some y/\y.cells.length=P.cellsOf e/\0<P.cellsOf e/\r=(.pp y.cells 0,[],rd):=by
 unfold uP at h
 split at h
 ·rename_i h0
  split at h
  ·rename_i y hy
   obtain⟨h1,rfl⟩:=pZ h
   simp only[Bool.and_eq_true,beq_iff_eq,decide_eq_true_eq]at h1
   exact⟨h0,y,hy,h1.1,h1.2,rfl⟩
  ·cases h
 ·cases h
theorem ri{t:TypeId}{x ix:V}(h:gB P o t x ix=some (v,Δ,rd))(hK:K v Δ rd):iW P o t x ix fun v rd=>K v [] rd:=by
 unfold gB at h
 unfold iW
 split at h
 ·simp only
  split at h
  ·rename_i e ht
   simp only[ht]
   split at h
   ·obtain⟨h0,y,h1,h2,h3,h4⟩:=nO h
    simp only[Prod.mk.injEq]at h4;obtain⟨rfl,rfl,rfl⟩:=h4
    exact⟨h0,y,h1,h2,h3,hK⟩
   ·obtain⟨h0,y,h1,h2,h3,h4⟩:=nO h
    simp only[Prod.mk.injEq]at h4;obtain⟨rfl,rfl,rfl⟩:=h4
    exact⟨h0,y,h1,h2,h3,hK⟩
   ·split at h
    ·rename_i ho
     split at h
     ·rename_i hc
      simp only[Option.some.injEq,Prod.mk.injEq]at h;obtain⟨rfl,rfl,rfl⟩:=h
      simp only[ho]
      exact⟨hc.1,hc.2.1,hc.2.2.1,hc.2.2.2.1,hc.2.2.2.2,hK⟩
     ·cases h
    ·rename_i ho
     split at h
     ·rename_i hc
      obtain⟨h0,y,h1,h2,h3,h4⟩:=nO h
      simp only[Prod.mk.injEq]at h4;obtain⟨rfl,rfl,rfl⟩:=h4
      simp only[ho]
      exact⟨hc,h0,y,h1,h2,h3,hK⟩
     ·cases h
    ·cases h
   ·cases h
  ·rename_i ht
   simp only[ht]
   split at h
   ·rename_i n e ha
    simp only[ha]
    split at h
    ·rename_i hc
     simp only[Option.bind_eq_some_iff]at h
     obtain⟨y,hy,h1⟩:=h
     have h1:=jU h1
     simp only[Prod.mk.injEq]at h1;obtain⟨rfl,rfl,rfl⟩:=h1
     refine⟨hc.1,hc.2.1,hc.2.2, ?_⟩
     rcases sF hy with⟨_,_,rfl,h2,rfl⟩|⟨_,_,rfl,rfl⟩|⟨_,_,_,_,_,rfl,h2,rfl⟩
     ·exact⟨h2,hK⟩
     ·exact hK
     ·exact⟨h2,hK⟩
    ·cases h
   ·cases h
 ·cases h
theorem rj{t:TypeId}{x y:V}{f:Nat}(h:gC P o t x f=some y){K:V->Prop}(hK:K y):iX P o t x f K:=by
 unfold gC at h
 unfold iX
 split at h
 ·rename_i q hq
  simp only[hq]
  rcases sF h with⟨_,_,rfl,h2,rfl⟩|⟨_,_,rfl,rfl⟩|⟨_,_,_,_,_,rfl,h2,rfl⟩
  ·exact⟨h2,hK⟩
  ·exact hK
  ·exact⟨h2,hK⟩
 ·cases h
theorem DG{t:TypeId}{x:V}(h:AO P t o x=some (v,Δ,rd))(hK:K v Δ rd):ER P t o x fun v rd=>K v [] rd:=by
 unfold AO at h
 unfold ER
 split at h
 ·rename_i e hu
  simp only[hu]
  split at h
  ·rename_i es uQ hl
   simp only[Option.some.injEq,Prod.mk.injEq]at h;obtain⟨rfl,rfl,rfl⟩:=h
   unfold oX at hl
   split at hl
   ·simp at hl;obtain⟨rfl,rfl⟩:=hl;exact hK
   ·simp at hl;obtain⟨rfl,rfl⟩:=hl;exact hK
   ·simp at hl;obtain⟨rfl,rfl⟩:=hl;exact hK
   ·split at hl
    ·rename_i ho
     split at hl
     ·rename_i hc;simp at hl;obtain⟨rfl,rfl⟩:=hl;simp only[ho];exact⟨hc,hK⟩
     ·cases hl
    ·rename_i ho
     split at hl
     ·rename_i hc;simp at hl;obtain⟨rfl,rfl⟩:=hl;simp only[ho];exact⟨hc,hK⟩
     ·cases hl
    ·cases hl
   ·cases hl
  ·cases h
 ·rename_i hu
  simp only[hu]
  split at h
  ·have h1:=jU h;simp only[Prod.mk.injEq]at h1;obtain⟨rfl,rfl,rfl⟩:=h1;exact hK
  ·cases h
 ·rename_i hu
  simp only[hu]
  have h1:=jU h;simp only[Prod.mk.injEq]at h1;obtain⟨rfl,rfl,rfl⟩:=h1;exact hK
 ·cases h
theorem AR{t:TypeId}{x:V}(h:mf P o t x=some (v,Δ,rd))(hK:K v Δ rd):xO P o t x fun v rd=>K v [] rd:=by
 unfold mf at h
 unfold xO
 split at h
 ·split at h
  ·rename_i ho
   split at h
   ·rename_i hg
    simp only[Option.some.injEq,Prod.mk.injEq]at h;obtain⟨rfl,rfl,rfl⟩:=h
    simp only[ho];exact⟨_,hg,hK⟩
   ·cases h
  ·cases h
 ·split at h
  ·rename_i hg
   simp only[Option.some.injEq,Prod.mk.injEq]at h;obtain⟨rfl,rfl,rfl⟩:=h
   exact⟨_,hg,hK⟩
  ·cases h
 ·split at h
  ·rename_i ho
   split at h
   ·rename_i hc
    split at h
    ·rename_i e he
     split at h
     ·rename_i hg
      simp only[Option.some.injEq,Prod.mk.injEq]at h;obtain⟨rfl,rfl,rfl⟩:=h
      simp only[ho];exact⟨hc.1,hc.2,e,he,_,hg,hK⟩
     ·cases h
    ·cases h
   ·cases h
  ·cases h
 ·cases h
theorem yA{t:TypeId}{x y:V}(h:pY P o t x y=some (v,Δ,rd))(hK:K v Δ rd):rY P o t x y fun Δ rd=>K (.bU []) Δ rd:=by
 unfold pY at h
 unfold rY
 split at h
 ·split at h
  ·rename_i ho
   split at h
   ·rename_i hg
    simp only[Option.some.injEq,Prod.mk.injEq]at h;obtain⟨rfl,rfl,rfl⟩:=h
    simp only[ho];exact⟨_,hg,hK⟩
   ·cases h
  ·cases h
 ·split at h
  ·rename_i ho
   split at h
   ·rename_i hc
    split at h
    ·rename_i e z he hz
     split at h
     ·rename_i hl
      split at h
      ·rename_i e' hp
       simp only[Option.some.injEq,Prod.mk.injEq]at h;obtain⟨rfl,rfl,rfl⟩:=h
       simp only[ho]
       exact⟨hc.1,hc.2,e,he,z,hz,hl.1,hl.2.1,hl.2.2,e',hp,hK⟩
      ·cases h
     ·cases h
    ·cases h
   ·cases h
  ·cases h
 ·cases h
theorem p6{t:TypeId}{len:Nat}{parts:List (Nat×V)}(h:fL P o fr t len parts=some (v,Δ,rd))(hK:K v Δ rd):gW P o fr t len parts K:=by
 unfold fL at h
 unfold gW
 split at h
 ·rename_i e ht
  simp only[ht]
  split at h
  ·rename_i hc
   simp only[Option.some.injEq,Prod.mk.injEq]at h;obtain⟨rfl,rfl,rfl⟩:=h
   exact .inl ⟨hc.1,by simpa using hc.2.1,hc.2.2,hK⟩
  split at h
  ·rename_i hc
   refine .inr ?_
   split at h
   ·rename_i ds hd
    split at h
    ·rename_i hw
     simp only[Option.some.injEq,Prod.mk.injEq]at h;obtain⟨rfl,rfl,rfl⟩:=h
     refine⟨hc.1,hc.2.1,hc.2.2.1,hc.2.2.2.1,hc.2.2.2.2,ds,hd,fun x hx=> ?_,hK⟩
     simpa using List.all_eq_true.1 hw x hx
    ·cases h
   ·cases h
  ·cases h
 ·cases h
theorem rl{t:TypeId}{l c:V}(h:lx P fr t l c=some (v,Δ,rd))(hK:K v Δ rd):iY P fr t l c fun v Δ=>K v Δ []:=by
 unfold lx at h
 unfold iY
 split at h
 ·rename_i e ht
  split at h
  ·split at h
   ·rename_i hc
    split at h
    ·rename_i x hx
     simp only[Option.some.injEq,Prod.mk.injEq]at h;obtain⟨rfl,rfl,rfl⟩:=h
     simp only[ht]
     exact⟨hc.1,hc.2.1,hc.2.2.1,hc.2.2.2.1,hc.2.2.2.2,x,hx,hK⟩
    ·cases h
   ·cases h
  ·cases h
 ·cases h
theorem wo{ts:Array TypeId}{x y:V}(h:oY P o fr ts x y=some (v,Δ,rd))(hK:K v Δ rd):ox P o fr ts x y K:=by
 unfold oY at h
 unfold ox
 split at h
 ·rename_i t t' x4
  simp only[x4]
  split at h
  ·rename_i Zj
   refine⟨Zj, ?_⟩
   split at h
   ·rename_i e new uQ ht hl
    obtain⟨pH,rfl⟩:=AP hl
    simp only[ht]
    split at h
    ·rename_i hc
     refine⟨new,pH,hc.1,hc.2.1,fun z hz=>by simpa using List.all_eq_true.1 hc.2.2 z hz, ?_⟩
     split at h
     ·split at h
      ·rename_i sn
       simp only[Option.some.injEq,Prod.mk.injEq]at h;obtain⟨rfl,rfl,rfl⟩:=h
       exact⟨sn.1,sn.2,hK⟩
      ·cases h
     ·split at h
      ·rename_i BR
       refine⟨fun z hz=>by simpa using List.all_eq_true.1 BR z hz, ?_⟩
       split at h
       ·rename_i hn
        simp only[Option.some.injEq,Prod.mk.injEq]at h;obtain⟨rfl,rfl,rfl⟩:=h
        rw[if_pos hn];exact hK
       ·rename_i hn
        split at h
        ·rename_i sn
         simp only[Option.some.injEq,Prod.mk.injEq]at h;obtain⟨rfl,rfl,rfl⟩:=h
         rw[if_neg hn];exact⟨sn.1,sn.2,hK⟩
        ·cases h
      ·cases h
     ·split at h
      ·rename_i ho
       split at h
       ·rename_i sn
        simp only[Option.some.injEq,Prod.mk.injEq]at h;obtain⟨rfl,rfl,rfl⟩:=h
        simp only[ho]
        exact⟨sn.1,sn.2.1,sn.2.2.1,sn.2.2.2.1,sn.2.2.2.2,hK⟩
       ·cases h
      ·cases h
     ·cases h
    ·cases h
   ·cases h
  ·cases h
 ·cases h
theorem sG{x y:V}(h:iP o x=some y){K:V->Prop}(hK:K y):kp o x K:=by
 unfold iP at h
 unfold kp
 split at h
 ·obtain⟨h2,rfl⟩:=pZ h;exact⟨h2,hK⟩
 ·injection h with h;subst h;exact hK
 ·injection h with h;subst h;exact hK
 ·cases h
theorem Ft{op:UnOp}{x y:V}(h:Ul op x=some y){K:V->Prop}(hK:K y):OQ op x K:=by
 unfold Ul at h
 unfold OQ
 split at h
 ·injection h with h;subst h;simp only;rw[Int.zero_sub];exact hK
 ·injection h with h;subst h;exact hK
 ·cases h
theorem o7{m:Bool}{x y v:V}(h:oZ m x y=some v){K:V->Prop}(hK:K v):mO m [x,y] K:=by
 unfold oZ at h
 unfold mO
 split at h
 ·split at h
  ·injection h with h;subst h;exact⟨by assumption,hK⟩
  ·cases h
 ·cases h
theorem yB{op:Op}(h:fP P s fr op=some (v,Δ,rd))(hK:K v Δ rd):Jw P s fr op K:=by
 cases op<;>simp only[fP]at h<;>simp only[Jw]<;>try (cases h;done)
 case move x=>have h:=jU h;simp only[Prod.mk.injEq]at h;obtain⟨rfl,rfl,rfl⟩:=h;exact hK
 case assign x=>have h:=jU h;simp only[Prod.mk.injEq]at h;obtain⟨rfl,rfl,rfl⟩:=h;exact hK
 case pick c a b=>
  obtain⟨x,h1,h⟩:=fl h;simp only[Prod.mk.injEq]at h;obtain⟨rfl,rfl,rfl⟩:=h
  exact AQ h1 hK
 case alloc t=>
  split at h
  ·rename_i cs hz;simp only[Option.some.injEq,Prod.mk.injEq]at h;obtain⟨rfl,rfl,rfl⟩:=h;exact⟨cs,hz,hK⟩
  ·cases h
 case box t x=>
  split at h
  ·rename_i cs hz;simp only[Option.some.injEq,Prod.mk.injEq]at h;obtain⟨rfl,rfl,rfl⟩:=h;exact⟨cs,hz,hK⟩
  ·cases h
 case build t parts=>
  obtain⟨x,h1,h⟩:=fl h;simp only[Prod.mk.injEq]at h;obtain⟨rfl,rfl,rfl⟩:=h
  unfold wm at h1
  split at h1
  ·rename_i z pl hz hp
   split at h1
   ·rename_i cs hc;injection h1 with h1;subst h1;exact⟨z,pl,cs,hz,hp,hc,hK⟩
   ·cases h1
  ·cases h1
 case buildSlice t len parts=>exact p6 h hK
 case load t x=>exact AR h hK
 case store t x y=>exact yA h hK
 case nilCheck x=>
  obtain⟨y,h1,h⟩:=fl h;simp only[Prod.mk.injEq]at h;obtain⟨rfl,rfl,rfl⟩:=h
  exact sG h1 hK
 case binOp op t x y yt=>
  unfold dn at h
  split at h
  ·rename_i z h1
   have h:=jU h;simp only[Prod.mk.injEq]at h;obtain⟨rfl,rfl,rfl⟩:=h
   exact .inl (DF h1 hK)
  ·right;simp only[h,cV];exact hK
 case unOp op t x=>
  obtain⟨z,h1,h⟩:=fl h;simp only[Prod.mk.injEq]at h;obtain⟨rfl,rfl,rfl⟩:=h
  unfold yz at h1
  split at h1
  ·rename_i hx;injection h1 with h1;subst h1;exact .inr ⟨rfl,hx,hK⟩
  ·exact .inl (Ft h1 hK)
 case slice t x lo hi mx=>simp only[h,cV];exact hK
 case field t x f=>
  obtain⟨z,h1,h⟩:=fl h;simp only[Prod.mk.injEq]at h;obtain⟨rfl,rfl,rfl⟩:=h
  simp only[h1,cV,Option.map_some];exact hK
 case typeAssert x xt t ok=>
  obtain⟨z,h1,h⟩:=fl h;simp only[Prod.mk.injEq]at h;obtain⟨rfl,rfl,rfl⟩:=h
  simp only[h1,cV,Option.map_some];exact hK
 case makeMap t r=>
  cases r with
  |none=>simp only[h,cV];exact hK
  |some x=>cases h
 case lookup t m k ok=>simp only[h,cV];exact hK
 case mapUpdate t m k v=>simp only[h,cV];exact hK
 case insert t m k v=>simp only[h,cV];exact hK
 case index t x i=>
  obtain⟨z,h1,h⟩:=fl h;simp only[Prod.mk.injEq]at h;obtain⟨rfl,rfl,rfl⟩:=h
  simp only[h1,cV,Option.map_some];exact hK
 case convert u t x=>
  split at h
  ·rename_i d k k' n hu hk hx
   have h:=jU h;simp only[Prod.mk.injEq]at h;obtain⟨rfl,rfl,rfl⟩:=h
   exact⟨by rw[hu];rfl,by simp only[hk,hx];exact hK⟩
  ·cases h
 case makeInterface t x=>
  obtain⟨z,h1,h⟩:=fl h;simp only[Prod.mk.injEq]at h;obtain⟨rfl,rfl,rfl⟩:=h
  obtain⟨h2,rfl⟩:=pZ h1
  refine⟨?_, ?_⟩
  ·unfold aC at h2
   cases hd:P.underlying t with
   |none=>simp[hd]at h2
   |some d=>exact⟨d,rfl,by cases d<;>simp_all⟩
  ·split
   ·rename_i y hy;simp only[hy]at hK;exact hK
   ·rename_i hy
    split at hK
    ·rename_i y Xn;exact absurd Xn (hy y)
    ·exact hK
 case makeFunc fn first cap=>have h:=jU h;simp only[Prod.mk.injEq]at h;obtain⟨rfl,rfl,rfl⟩:=h;exact hK
 case makeSlice t l c=>
  exact rl h hK
 case fieldAddr t x f=>
  obtain⟨z,h1,h⟩:=fl h;simp only[Prod.mk.injEq]at h;obtain⟨rfl,rfl,rfl⟩:=h
  exact rj h1 hK
 case indexAddr t x i=>
  exact ri h hK
 case extract x i=>
  split at h
  ·rename_i vs hv
   split at h
   ·rename_i u hu
    have h:=jU h;simp only[Prod.mk.injEq]at h;obtain⟨rfl,rfl,rfl⟩:=h
    simp only[hv];exact⟨_,hu,hK⟩
   ·cases h
  ·cases h
 case call c=>
  obtain⟨Fb,args,ts⟩:=c
  cases Fb<;>simp only at h|- <;>try (cases h;done)
  rename_i b
  unfold o6 at h
  unfold r9
  split at h
  ·rename_i x ha
   simp only[ha]
   split at h
   ·rename_i t x4;exact⟨t,x4,DG h hK⟩
   ·cases h
  ·rename_i x y ha
   simp only[ha]
   exact wo h hK
  ·rename_i x y ha
   simp only[ha]
   obtain⟨z,h1,h⟩:=fl h;simp only[Prod.mk.injEq]at h;obtain⟨rfl,rfl,rfl⟩:=h
   exact o7 h1 hK
  ·rename_i x y ha
   simp only[ha]
   obtain⟨z,h1,h⟩:=fl h;simp only[Prod.mk.injEq]at h;obtain⟨rfl,rfl,rfl⟩:=h
   exact o7 h1 hK
  ·rename_i x y z ha
   simp only[ha]
   obtain⟨v0,h1,h⟩:=fl h;simp only[Prod.mk.injEq]at h;obtain⟨rfl,rfl,rfl⟩:=h
   simp only[h1,cV,Option.map_some];exact hK
  ·rename_i x y ha
   simp only[ha,h,cV];exact hK
  ·rename_i x y ha
   simp only[ha]
   split at h
   ·rename_i t ht;exact⟨t,ht,by simp only[h,cV];exact hK⟩
   ·cases h
  ·cases h
 case range t x=>simp only[h,cV];exact hK
 case next x str=>left;simp only[h,cV];exact hK
 case entry x=>simp only[h,cV];exact hK
end
end Go.Proofs.YtealblliddhgiaaGreat
namespace Go.Proofs.YtealblliddhgiaaGreat
def sH(P:Program)(g:FuncId)(ds:List D)(o o1 oa:Nat->ab)(K:V->(Nat->ab)->Prop)(X:V->(Nat->ab)->Prop):Prop:=
 ∃out,bC P g ds out/\((match out with| .ret rs=>K (gr rs) o1| .bJ x=>X (.d x) o1)\/(out.flat=true/\match out with| .ret rs=>K (gr rs) o| .bJ x=>X (.d x) o)\/(out.l8=true/\match out with| .ret rs=>K (gr rs) oa| .bJ x=>X (.d x) oa))
def qE(P:Program)(g:FuncId)(args:List V)(o:Nat->ab)(nx:Nat)(K:V->(Nat->ab)->Nat->Prop)(X:V->(Nat->ab)->Nat->Prop):Prop:=ma P g args o nx K X
theorem ma.mono {P:Program}{g:FuncId}{args:List V}{o:Nat->ab}{nx:Nat}{K X K' X':V->(Nat->ab)->Nat->Prop}(hK:∀v o n,K v o n->K' v o n)(hX:∀v o n,X v o n->X' v o n)(h:ma P g args o nx K X):ma P g args o nx K' X':=
 h.imp (eR.mono hK hX) (eR.mono hK hX)
@[congr] theorem JQ {P:Program} {g g':FuncId} {ds Ph:List D} {o o1 oa:Nat->ab} {K X} (h:g=g') (h':ds=Ph):sH P g ds o o1 oa K X=sH P g' Ph o o1 oa K X:=by subst h;subst h';rfl
@[congr] theorem JR {P:Program} {g g':FuncId} {bX Pj:List V} {o:Nat->ab} {nx:Nat} {K X} (h:g=g') (h':bX=Pj):qE P g bX o nx K X=qE P g' Pj o nx K X:=by subst h;subst h';rfl
def JS(P:Program)(g:FuncId)(args:List V)(o:Nat->ab)(nx:Nat)(K X:V->(Nat->ab)->Nat->Prop):Prop:=
 (∃ds,bW o args=some ds/\sH P g ds o (put o (cH o (V.bg args))) (put o (pM o (V.bg args))) (fun v o'=>K v o' (nx+1)) (fun v o'=>X v o' (nx+1)))\/eR P g args o nx K X
def EE(P:Program)(s:S)(o:bZ)(X:V->S->Prop)(K:S->Prop):Prop:=
 match o.op with
 | .call c=>match c.callee with
   | .value f=>match s.ev f with
     | .func (.func g) first cap=>match bW s.o (first++c.args.toList.map s.ev++cap)with
       |some ds=>sH P g ds s.o (put s.o (cH s.o (V.bg (first++c.args.toList.map s.ev++cap)))) (put s.o (pM s.o (V.bg (first++c.args.toList.map s.ev++cap)))) (fun v o'=>K ⟨a8 s.env o.dst v,o',s.nx+1⟩) (fun v o'=>X v ⟨s.env,o',s.nx+1⟩)\/
        qE P g (first++c.args.toList.map s.ev++cap) s.o s.nx (fun v o' nx'=>K ⟨a8 s.env o.dst v,o',nx'⟩) (fun v o' nx'=>X v ⟨s.env,o',nx'⟩)
       |none=>qE P g (first++c.args.toList.map s.ev++cap) s.o s.nx (fun v o' nx'=>K ⟨a8 s.env o.dst v,o',nx'⟩) (fun v o' nx'=>X v ⟨s.env,o',nx'⟩)
     | .ki id=>dy P id (c.args.toList.map s.ev) s.o s.nx (fun v o' nx'=>K ⟨a8 s.env o.dst v,o',nx'⟩) (fun v o' nx'=>X v ⟨s.env,o',nx'⟩)
     |_=>False
   | .invoke r m=>match qD P m (s.ev r)with
     |some (g,y)=>JS P g (y::c.args.toList.map s.ev) s.o s.nx (fun v o' nx'=>K ⟨a8 s.env o.dst v,o',nx'⟩) (fun v o' nx'=>X v ⟨s.env,o',nx'⟩)
     |none=>False
   |_=>match fP P s s.nx o.op with
    |some (v,Δ,_)=>K ⟨a8 s.env o.dst v,put s.o Δ,s.nx+1⟩
    |none=>False
 | .panic x=>match s.ev x with
   | .d (.iface t y)=>X (.d (.iface t y)) s
   | .iface t y=>X (.iface t y) s
   |_=>False
 | .next x str=>match np s.o (s.ev x)with
   |some (id,l)=>str=false/\BI id l fun v Δ _=>K ⟨a8 s.env o.dst v,put s.o Δ,s.nx+1⟩
   |none=>match fP P s s.nx o.op with
    |some (v,Δ,_)=>K ⟨a8 s.env o.dst v,put s.o Δ,s.nx+1⟩
    |none=>False
 |op=>match fP P s s.nx op with
  |some (v,Δ,_)=>K ⟨a8 s.env o.dst v,put s.o Δ,s.nx+1⟩
  |none=>False
def nP(P:Program)(X:V->S->Prop)(K:S->Prop):List bZ->S->Prop
 |[],s=>K s
 |o::l,s=>match o.gd with
  |none=>EE P s o X (nP P X K l)
  |some (d,want)=>match s.env d with
   | .d (.bool b)=>if b=want then EE P s o X (nP P X K l)else nP P X K l ⟨a8 s.env o.dst (.bU []),s.o,s.nx+1⟩
   | .bU []=>nP P X K l ⟨a8 s.env o.dst (.bU []),s.o,s.nx+1⟩
   |_=>False
def Fu(b:Nat)(body:(fO->S->Prop)->S->Prop)(Q:fO->S->Prop)(s:S):Prop:=
 ∃ (J:Nat->S->Prop),(∃m s1,bP b s s1/\J m s1)/\∀m s0,J m s0->body (fun e s=>match e with| .normal=>∃m' s1,m'<m/\bP b s s1/\J m' s1|e=>Q e s) s0
@[congr] theorem JT {b:Nat} {body Q} {s s':S} (h:s=s'):Fu b body Q s=Fu b body Q s':=by subst h;rfl
def o8(t:Bool)(A B:Prop):Prop:=(t=true->A)/\(t=false->B)
@[congr] theorem JU {t t':Bool} {A B:Prop} (h:t=t'):o8 t A B=o8 t' A B:=by subst h;rfl
@[simp] theorem sI (A B:Prop):o8 true A B=A:=by simp[o8]
@[simp] theorem qF (A B:Prop):o8 false A B=B:=by simp[o8]
section
variable {P:Program}{n b:Nat}
theorem B1{s:S}{o:bZ}{o':Oper}{X X':V->S->Prop}{K K':S->Prop}(dt:o'.op=o.op)(cC:o'.dst=o.dst)(hd:fT n o'.dst)(hK:∀s,K s->K' s)(hX:∀v s,X v s->X' v s)(h:EE P s o X K):Ua P n s o' X' K':=by
 refine⟨hd, ?_⟩
 rw[cC,dt]
 unfold EE at h
 have hs:∀ {op:Op},(match fP P s s.nx op with|some (v,Δ,_)=>K ⟨a8 s.env o.dst v,put s.o Δ,s.nx+1⟩|none=>False)->Jw P s s.nx op fun v Δ _=>K' ⟨a8 s.env o.dst v,put s.o Δ,s.nx+1⟩:=by
  intro op h
  split at h
  ·rename_i v Δ rd he;exact yB he (hK _ h)
  ·exact h.elim
 split at h
 ·rename_i c hc
  split at h
  ·rename_i f dN
   simp only[hc,dN]
   split at h
   ·rename_i g first cap hf
    unfold yi
    simp only[hf]
    unfold sw
    split at h
    ·rename_i ds eC
     rcases h with⟨out,hP,h|⟨la,h⟩|⟨la,h⟩⟩|h
     ·refine .inl ⟨ds,out,eC,hP, ?_⟩
      cases out<;>first|exact hK _ h|exact hX _ _ h
     ·refine .inr (.inl ⟨ds,out,eC,hP,la, ?_⟩)
      cases out<;>first|exact hK _ h|exact hX _ _ h
     ·refine .inr (.inr (.inl ⟨ds,out,eC,hP,la, ?_⟩))
      cases out<;>first|exact hK _ h|exact hX _ _ h
     ·exact .inr (.inr (.inr (ma.mono (fun v o n h=>hK _ h) (fun v o n h=>hX _ _ h) h)))
    ·exact .inr (.inr (.inr (ma.mono (fun v o n h=>hK _ h) (fun v o n h=>hX _ _ h) h)))
   ·rename_i id hf
    unfold yi
    simp only[hf]
    exact dy.mono (fun v o n h=>hK _ h) (fun v o n h=>hX _ _ h) h
   ·exact h.elim
  ·rename_i r m dN
   simp only[hc,dN]
   split at h
   ·rename_i g y hr
    simp only[hr]
    unfold sw
    rcases h with⟨ds,eC,out,hP,h|⟨la,h⟩|⟨la,h⟩⟩|h
    ·refine .inl ⟨ds,out,eC,hP, ?_⟩
     cases out<;>first|exact hK _ h|exact hX _ _ h
    ·refine .inr (.inl ⟨ds,out,eC,hP,la, ?_⟩)
     cases out<;>first|exact hK _ h|exact hX _ _ h
    ·refine .inr (.inr (.inl ⟨ds,out,eC,hP,la, ?_⟩))
     cases out<;>first|exact hK _ h|exact hX _ _ h
    ·exact .inr (.inr (.inr (.inl (eR.mono (fun v o n h=>hK _ h) (fun v o n h=>hX _ _ h) h))))
   ·exact h.elim
  ·rename_i dN hinv
   rw[hc]at h|-
   obtain⟨Fb,args,ts⟩:=c
   cases Fb with
   |value f=>exact absurd rfl (dN f)
   |invoke r m=>exact absurd rfl (hinv r m)
   |_=>exact hs h
 ·rename_i x hx
  simp only[hx]
  split at h
  ·rename_i hv;simp only[hv];exact hX _ _ h
  ·rename_i hv;simp only[hv];exact hX _ _ h
  ·exact h.elim
 ·rename_i x str hx
  rw[hx]at h|-
  split at h
  ·rename_i id l hl
   exact .inr ⟨h.1,id,l,hl,fun e=>hK _ (h.2.1 e),fun i k x e=>hK _ (h.2.2 i k x e)⟩
  ·exact hs h
 ·rename_i hc hp tZ
  have h2:=hs h
  cases hh:o.op<;>first
   |exact absurd hh (hc _)
   |exact absurd hh (hp _)
   |exact absurd hh (tZ _ _)
   |(rw[hh]at h2;exact h2)
theorem iQ{ops:Array Oper}{X X':V->S->Prop}{K K':S->Prop}(hK:∀s,K s->K' s)(hX:∀v s,X v s->X' v s):∀ (l:List Oper) (l':List bZ) (s:S),kg n ops l=some l'->nP P X K l' s->vX P n ops X' K' l s
 |[],l',s,h,hr=>by simp[kg]at h;subst h;exact hK _ hr
 |o::l,l',s,h,hr=>by
  simp only[kg]at h
  split at h
  ·rename_i x xs hx HL
   injection h with h;subst h
   unfold EM at hx
   split at hx
   ·rename_i hd
    have cC:fT n o.dst:=by
     unfold Ai at hd;unfold fT
     split at hd<;>simp_all
    simp only[vX,vW]
    cases hg:o.guard with
    |none=>
     simp only[hg]at hx
     injection hx with hx;subst hx
     exact B1 rfl rfl cC (fun s hs=>iQ hK hX l xs s HL hs) hX hr
    |some p=>
     obtain⟨j,want⟩:=p
     simp only[hg]at hx
     cases JV:qt ops j with
     |none=>simp[JV]at hx
     |some d=>
      simp only[JV]at hx
      injection hx with hx;subst hx
      simp only
      simp only[nP]at hr
      split at hr
      ·rename_i t ht
       simp only[JV,ht]
       split at hr
       ·rename_i e
        exact⟨fun _=>B1 rfl rfl cC (fun s hs=>iQ hK hX l xs s HL hs) hX hr,fun h=>absurd e h⟩
       ·rename_i e
        exact⟨fun h=>absurd h e,fun _=>⟨cC,iQ hK hX l xs _ HL hr⟩⟩
      ·rename_i ht
       simp only[JV,ht]
       exact⟨cC,iQ hK hX l xs _ HL hr⟩
      ·exact hr.elim
   ·cases hx
  ·cases h
end
end Go.Proofs.YtealblliddhgiaaGreat
namespace Go.Proofs.YtealblliddhgiaaGreat
mutual
def V.refs:V->List Nat
 | .ptr id _=>[id]| .osl id _=>[id]| .pe id _ _ _ _=>[id]| .rT id _ _=>[id]| .mp id=>[id]| .ki id=>[id]
 | .agg cs=>V.ah cs
 | .bU cs=>V.ah cs
 | .func _ a b=>V.ah a++V.ah b
 | .iface _ x=>x.refs
 |_=>[]
def V.ah:List V->List Nat
 |[]=>[]
 |v::vs=>v.refs++V.ah vs
end
mutual
theorem jg:∀ (v:V),∀id∈v.ids,id∈v.refs
 | .osl id _,j,h=>by simpa[V.ids,V.refs]using h
 | .agg cs,j,h=>by simp only[V.ids]at h;simp only[V.refs];exact jh cs j h
 | .iface _ x,j,h=>by simp only[V.ids]at h;simp only[V.refs];exact jg x j h
 | .mp _,j,h=>by simpa[V.ids,V.refs]using h
 | .d _,_,h| .br,_,h| .bU _,_,h| .ptr _ _,_,h| .pe _ _ _ _ _,_,h| .pp _ _,_,h| .func _ _ _,_,h| .af,_,h| .nC _,_,h| .rT _ _ _,_,h| .eK,_,h| .ki _,_,h=>by simp[V.ids]at h
theorem jh:∀ (vs:List V),∀id∈V.bg vs,id∈V.ah vs
 |[],j,h=>by simp[V.bg]at h
 |v::vs,j,h=>by
  simp only[V.bg,V.ah,List.mem_append]at h|-
  exact h.imp (jg v j) (jh vs j)
end
mutual
theorem cY{o o':Nat->ab}:∀ (v:V),(∀id∈v.refs,o' id=o id)->dI o' v=dI o v
 | .osl id ep,h=>by simp only[dI,h id (by simp[V.refs])]
 | .mp id,h=>by simp only[dI,h id (by simp[V.refs])]
 | .agg cs,h=>by simp only[dI,gD cs (by simpa[V.refs]using h)]
 | .iface t x,h=>by simp only[dI,cY x (by simpa[V.refs]using h)]
 | .d _,_| .br,_| .bU _,_| .ptr _ _,_| .pe _ _ _ _ _,_| .pp _ _,_| .func _ _ _,_| .af,_| .nC _,_| .rT _ _ _,_| .eK,_| .ki _,_=>by simp only[dI]
theorem gD{o o':Nat->ab}:∀ (vs:List V),(∀id∈V.ah vs,o' id=o id)->bW o' vs=bW o vs
 |[],_=>rfl
 |v::vs,h=>by
  simp only[bW,cY v (fun id aw=>h id (by simp[V.ah,aw])),gD vs (fun id aw=>h id (by simp[V.ah,aw]))]
end
theorem fM{o o':Nat->ab}{ids:List Nat}(h:∀id∈ids,o' id=o id):cH o' ids=cH o ids:=by
 rw[kY,kY]
 exact List.map_congr_left fun id aw=>by rw[h id aw]
def iR(s:S)(op:Op):List Nat:=
 match op with
 | .load _ x=>(s.ev x).refs
 | .nilCheck x=>(s.ev x).refs
 | .fieldAddr _ x _=>(s.ev x).refs
 | .indexAddr _ x _=>(s.ev x).refs
 | .store _ x v=>(s.ev x).refs++(s.ev v).refs
 | .buildSlice _ _ parts=>V.ah (parts.toList.map fun p=>s.ev p.2)
 | .binOp _ _ x y _=>(s.ev x).refs++(s.ev y).refs
 | .slice _ x _ _ _=>(s.ev x).refs
 | .lookup _ m k _=>(s.ev m).refs++(s.ev k).refs
 | .mapUpdate _ m k v=>(s.ev m).refs++((s.ev k).refs++(s.ev v).refs)
 | .insert _ m k v=>(s.ev m).refs++((s.ev k).refs++(s.ev v).refs)
 | .range _ x=>(s.ev x).refs
 | .next x _=>(s.ev x).refs
 | .entry x=>(s.ev x).refs
 | .call c=>match c.callee with
   | .builtin _=>V.ah (c.args.toList.map s.ev)
   | .value f=>match s.ev f with
     | .func _ first cap=>V.ah (first++c.args.toList.map s.ev++cap)
     |_=>[]
   |_=>[]
 |_=>[]
section
variable {P:Program}{s s':S}{fr:Nat}
theorem qG{o o':Nat->ab}(v:V)(h:∀id∈v.refs,o' id=o id):oX o' v=oX o v:=by
 cases v with
 |osl id ep=>simp only[oX,h id (by simp[V.refs])]
 |d x=>cases x<;>rfl
 |_=>rfl
theorem qH{o o':Nat->ab}(v:V)(q:Nat)(h:∀id∈v.refs,o' id=o id):nu o' v q=nu o v q:=by
 cases v<;>simp only[nu]<;>rw[h _ (by simp[V.refs])]
theorem AS{o o':Nat->ab}(v:V)(h:∀id∈v.refs,o' id=o id):xQ o' v=xQ o v:=by
 have h1:eE o' v=eE o v:=by unfold eE;rw[cY v h]
 cases v<;>first|rfl|simp only[xQ,h1]
theorem wq{o o':Nat->ab}(v:V)(h:∀id∈v.refs,o' id=o id):pP o' v=pP o v:=by
 cases v with
 |mp id=>simp only[pP,h id (by simp[V.refs])]
 |d x=>cases x<;>rfl
 |_=>rfl
theorem wu{o o':Nat->ab}(v:V)(h:∀id∈v.refs,o' id=o id):pQ o' v=pQ o v:=by
 cases v with
 |ptr id off=>simp only[pQ,h id (by simp[V.refs])]
 |d x=>cases x<;>rfl
 |_=>rfl
theorem mg{o o':Nat->ab}(v:V)(h:∀id∈v.refs,o' id=o id):nm o' v=nm o v:=by
 cases v with
 |mp id=>simp only[nm,h id (by simp[V.refs])]
 |d x=>cases x<;>rfl
 |_=>rfl
theorem yC{o o':Nat->ab}(v:V)(h:∀id∈v.refs,o' id=o id):oA o' v=oA o v:=by
 cases v with
 |mp id=>simp only[oA,h id (by simp[V.refs])]
 |d x=>cases x<;>rfl
 |_=>rfl
theorem yD{o o':Nat->ab}(v:V)(str:Bool)(h:∀id∈v.refs,o' id=o id):nn o' v str=nn o v str:=by
 cases v with
 |ptr id off=>cases off<;>simp only[nn,h id (by simp[V.refs])]
 |_=>rfl
theorem wv{o o':Nat->ab}(v:V)(h:∀id∈v.refs,o' id=o id):lY o' v=lY o v:=by
 cases v with
 |ptr id off=>cases off<;>simp only[lY,h id (by simp[V.refs])]
 |_=>rfl
theorem wx{o o':Nat->ab}{fr:Nat}{t:TypeId}{P:Program}(v:V)(h:∀id∈v.refs,o' id=o id):lX P o' fr t v=lX P o fr t v:=by
 unfold lX
 cases v with
 |mp id=>simp only[h id (by simp[V.refs])]
 |d x=>cases x<;>rfl
 |_=>rfl
theorem wy{o o':Nat->ab}(v:V)(h:∀id∈v.refs,o' id=o id):nE o' v=nE o v:=by
 cases v with
 |ptr id off=>simp only[nE,h id (by simp[V.refs])]
 |_=>rfl
theorem wz{o o':Nat->ab}(v:V)(h:∀id∈v.refs,o' id=o id):nF o' v=nF o v:=by
 cases v with
 |rT id off n=>simp only[nF,h id (by simp[V.refs])]
 |_=>rfl
theorem AU(op:Op)(hv:∀x∈op.operands,s'.ev x=s.ev x)(ho:∀id∈iR s op,s'.o id=s.o id):fP P s' fr op=fP P s fr op:=by
 cases op<;>simp only[fP]
 case move x=>rw[hv x (by simp[Op.operands])]
 case assign x=>rw[hv x (by simp[Op.operands])]
 case pick c a b=>rw[hv c (by simp[Op.operands]),hv a (by simp[Op.operands]),hv b (by simp[Op.operands])]
 case box t x=>rw[hv x (by simp[Op.operands])]
 case build t parts=>
  have:(parts.toList.map fun p=>(p.1,s'.ev p.2))=parts.toList.map fun p=>(p.1,s.ev p.2):=
   List.map_congr_left fun p hp=>by rw[hv p.2 (by simp only[Op.operands];simp;exact⟨p.1,by simpa using hp⟩)]
  rw[this]
 case buildSlice t len parts=>
  have:(parts.toList.map fun p=>(p.1,s'.ev p.2))=parts.toList.map fun p=>(p.1,s.ev p.2):=
   List.map_congr_left fun p hp=>by rw[hv p.2 (by simp only[Op.operands];simp;exact⟨p.1,by simpa using hp⟩)]
  rw[this]
  have e:(parts.toList.map fun p=>(p.1,s.ev p.2)).map (·.2)=parts.toList.map fun p=>s.ev p.2:=by simp[Function.comp_def]
  have h1:bW s'.o ((parts.toList.map fun p=>(p.1,s.ev p.2)).map (·.2))=bW s.o ((parts.toList.map fun p=>(p.1,s.ev p.2)).map (·.2)):=gD _ (by rw[e];exact ho)
  have h2:cH s'.o (V.bg ((parts.toList.map fun p=>(p.1,s.ev p.2)).map (·.2)))=cH s.o (V.bg ((parts.toList.map fun p=>(p.1,s.ev p.2)).map (·.2))):=
   fM fun id aw=>ho id (by rw[e]at aw;exact jh _ id aw)
  simp only[fL,h1,h2]
 case load t x=>
  rw[hv x (by simp[Op.operands])]
  cases hx:s.ev x<;>simp only[mf]<;>rw[ho _ (by simp[iR,hx,V.refs])]
 case store t x y=>
  rw[hv x (by simp[Op.operands]),hv y (by simp[Op.operands])]
  have h1:dI s'.o (s.ev y)=dI s.o (s.ev y):=cY _ fun id aw=>ho id (by simp[iR,aw])
  have h2:cH s'.o (s.ev y).ids=cH s.o (s.ev y).ids:=fM fun id aw=>ho id (by simp[iR,jg _ _ aw])
  cases hx:s.ev x<;>simp only[pY]<;>rw[ho _ (by simp[iR,hx,V.refs])]
  simp only[h1,h2]
 case nilCheck x=>
  rw[hv x (by simp[Op.operands])]
  cases hx:s.ev x with
  |ptr id off=>simp only[iP];rw[ho _ (by simp[iR,hx,V.refs])]
  |func fn a b=>cases fn<;>rfl
  |_=>rfl
 case binOp op t x y yt=>
  rw[hv x (by simp[Op.operands]),hv y (by simp[Op.operands])]
  have h1:xQ s'.o (s.ev x)=xQ s.o (s.ev x):=AS _ fun id aw=>ho id (by simp[iR,aw])
  have h2:∀a b,Ak P s'.o a b (s.ev x) (s.ev y)=Ak P s.o a b (s.ev x) (s.ev y):=fun a b=>by
   have h3:∀id∈(s.ev x).refs,s'.o id=s.o id:=fun id aw=>ho id (by simp[iR,aw])
   have h4:=wq (s.ev x) h3
   have h5:=wu (s.ev x) h3
   unfold Ak
   rw[h1,h4,h5]
  unfold dn pR
  simp only[h2]
 case slice t x lo hi mx=>
  rw[hv x (by simp[Op.operands])]
  have e1:lo.map s'.ev=lo.map s.ev:=by cases lo<;>simp[hv,Op.operands]
  have e2:hi.map s'.ev=hi.map s.ev:=by cases hi<;>simp[hv,Op.operands]
  have e3:mx.map s'.ev=mx.map s.ev:=by cases mx<;>simp[hv,Op.operands]
  rw[e1,e2,e3]
  have h3:∀id∈(s.ev x).refs,s'.o id=s.o id:=fun id aw=>ho id (by simp[iR,aw])
  have h1:eE s'.o (s.ev x)=eE s.o (s.ev x):=by unfold eE;rw[cY _ h3]
  have h2:cH s'.o (s.ev x).ids=cH s.o (s.ev x).ids:=fM fun id aw=>h3 id (jg _ _ aw)
  unfold pN
  simp only[h1,h2,wy _ h3]
 case field t x f=>rw[hv x (by simp[Op.operands])]
 case typeAssert x xt t ok=>rw[hv x (by simp[Op.operands])]
 case makeMap t r=>cases r<;>rfl
 case lookup t m k ok=>
  rw[hv m (by simp[Op.operands]),hv k (by simp[Op.operands])]
  have h3:∀id∈(s.ev m).refs,s'.o id=s.o id:=fun id aw=>ho id (by simp[iR,aw])
  have h1:dI s'.o (s.ev k)=dI s.o (s.ev k):=cY _ fun id aw=>ho id (by simp[iR,aw])
  unfold gQ
  simp only[h1,yC _ h3]
 case mapUpdate t m k v=>
  rw[hv m (by simp[Op.operands]),hv k (by simp[Op.operands]),hv v (by simp[Op.operands])]
  have h3:∀id∈(s.ev m).refs,s'.o id=s.o id:=fun id aw=>ho id (by simp[iR,aw])
  have h1:dI s'.o (s.ev k)=dI s.o (s.ev k):=cY _ fun id aw=>ho id (by simp[iR,aw])
  have h2:dI s'.o (s.ev v)=dI s.o (s.ev v):=cY _ fun id aw=>ho id (by simp[iR,aw])
  have h4:cH s'.o (s.ev v).ids=cH s.o (s.ev v).ids:=fM fun id aw=>ho id (by simp[iR,jg _ _ aw])
  unfold fk
  simp only[h1,h2,h4,mg _ h3]
 case insert t m k v=>
  rw[hv m (by simp[Op.operands]),hv k (by simp[Op.operands]),hv v (by simp[Op.operands])]
  have h3:∀id∈(s.ev m).refs,s'.o id=s.o id:=fun id aw=>ho id (by simp[iR,aw])
  have h1:dI s'.o (s.ev k)=dI s.o (s.ev k):=cY _ fun id aw=>ho id (by simp[iR,aw])
  have h2:dI s'.o (s.ev v)=dI s.o (s.ev v):=cY _ fun id aw=>ho id (by simp[iR,aw])
  have h4:cH s'.o (s.ev v).ids=cH s.o (s.ev v).ids:=fM fun id aw=>ho id (by simp[iR,jg _ _ aw])
  unfold fk
  simp only[h1,h2,h4,mg _ h3]
 case index t x i=>rw[hv x (by simp[Op.operands]),hv i (by simp[Op.operands])]
 case range t x=>
  rw[hv x (by simp[Op.operands])]
  exact wx _ fun id aw=>ho id (by simp[iR,aw])
 case next x str=>
  rw[hv x (by simp[Op.operands])]
  exact yD _ _ fun id aw=>ho id (by simp[iR,aw])
 case entry x=>
  rw[hv x (by simp[Op.operands])]
  exact wv _ fun id aw=>ho id (by simp[iR,aw])
 case unOp op t x=>rw[hv x (by simp[Op.operands])]
 case convert u t x=>rw[hv x (by simp[Op.operands])]
 case makeInterface t x=>rw[hv x (by simp[Op.operands])]
 case makeFunc fn first cap=>
  have h1:first.toList.map s'.ev=first.toList.map s.ev:=List.map_congr_left fun x hx=>hv x (by simp only[Op.operands];exact Array.mem_append.2 (.inl (Array.mem_toList_iff.1 hx)))
  have h2:cap.toList.map s'.ev=cap.toList.map s.ev:=List.map_congr_left fun x hx=>hv x (by simp only[Op.operands];exact Array.mem_append.2 (.inr (Array.mem_toList_iff.1 hx)))
  rw[h1,h2]
 case makeSlice t l c=>rw[hv l (by simp[Op.operands]),hv c (by simp[Op.operands])]
 case fieldAddr t x f=>
  rw[hv x (by simp[Op.operands])]
  simp only[gC]
  cases cl P t f<;>simp only
  rw[qH _ _ (by simpa[iR]using ho)]
 case indexAddr t x i=>
  rw[hv x (by simp[Op.operands]),hv i (by simp[Op.operands])]
  have h1:∀q,nu s'.o (s.ev x) q=nu s.o (s.ev x) q:=fun q=>qH _ _ (by simpa[iR]using ho)
  simp only[gB,h1]
  cases hx:s.ev x with
  |osl id ep=>simp only[ho id (by simp[iR,hx,V.refs])]
  |d y=>cases y<;>rfl
  |_=>rfl
 case extract x i=>rw[hv x (by simp[Op.operands])]
 case call c=>
  obtain⟨Fb,args,ts⟩:=c
  cases Fb<;>simp only
  rename_i b
  unfold o6
  have hm:∀x∈args.toList,s'.ev x=s.ev x:=fun x hx=>hv x (by simp only[Op.operands,Call.operands];exact Array.mem_append.2 (.inr (Array.mem_toList_iff.1 hx)))
  have hr:∀x∈args.toList,∀id∈(s.ev x).refs,s'.o id=s.o id:=by
   intro x hx id aw
   refine ho id ?_
   simp only[iR]
   generalize args.toList=l at hx
   induction l with
   |nil=>cases hx
   |cons y l ih=>
    simp only[List.map_cons,V.ah,List.mem_append]
    rcases List.mem_cons.1 hx with rfl|hx
    ·exact .inl aw
    ·exact .inr (ih hx)
  split
  ·rename_i x ha
   rw[ha]at hm hr
   rw[hm x (by simp)]
   have h1:∀t,AO P t s'.o (s.ev x)=AO P t s.o (s.ev x):=fun t=>by simp only[AO,qG _ (hr x (by simp))]
   simp only[h1]
  ·rename_i x y ha
   rw[ha]at hm hr
   rw[hm x (by simp),hm y (by simp)]
   simp only[oY,qG _ (hr y (by simp))]
   cases hx:s.ev x with
   |osl id ep=>simp only[hr x (by simp) id (by simp[hx,V.refs])]
   |_=>rfl
  ·rename_i x y ha
   rw[ha]at hm
   rw[hm x (by simp),hm y (by simp)]
  ·rename_i x y ha
   rw[ha]at hm
   rw[hm x (by simp),hm y (by simp)]
  ·rename_i x y z h;rw[hm x (by rw[h];simp),hm y (by rw[h];simp),hm z (by rw[h];simp)]
  ·rename_i x y ha
   rw[ha]at hm hr
   rw[hm x (by simp),hm y (by simp)]
   have h1:eE s'.o (s.ev y)=eE s.o (s.ev y):=by unfold eE;rw[cY _ (hr y (by simp))]
   have h2:cH s'.o (s.ev y).ids=cH s.o (s.ev y).ids:=fM fun id aw=>hr y (by simp) id (jg _ _ aw)
   unfold ux
   simp only[h1,h2,wz _ (hr x (by simp))]
  ·rename_i x y ha
   rw[ha]at hm hr
   rw[hm x (by simp),hm y (by simp)]
   have h1:dI s'.o (s.ev y)=dI s.o (s.ev y):=cY _ (hr y (by simp))
   have h2:=mg _ (hr x (by simp))
   simp only[mP,h1,h2]
  ·rfl
end
end Go.Proofs.YtealblliddhgiaaGreat
