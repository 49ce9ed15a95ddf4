/-
  A PART OF THE PROOF. Conditions: none.
-/
import Derived.Test.YtealblliddhgiaaGreatGn5
set_option linter.unusedSimpArgs false
set_option linter.unusedVariables false
namespace Go.Proofs.YtealblliddhgiaaGreat
section
variable {P:Program}{M:Nat->Prop}{φ:Place}{H:Hp}{w w':World}{cA:Place}{H0:Hp}{w0:World}{n b:Nat}{s:S}{a:Act}{cx:Cx}{ro:Option Nat}{k:Nat}
theorem hU(hb:∀id,H0.us id->id<b)(tz:cx.rd=false->ro=none):∀ (c:Code) (Q:fy->S->Prop) (s:S) (φ:Place) (a:Act) (w:World),jb P n b cx.rd c Q s->cf M cA H0 w0 n cx φ s a w->c.tA P ro (Ds M cA H0 w0 n cx Q) a w:=by
 intro c
 induction c with
 |skip=>exact fun Q s φ a w h hs=>oI (k:=0) (wpIn_skip ⟨.normal,s,φ,h,hs,trivial⟩)
 |scope x ih=>exact fun Q s φ a w h hs=>E4 (ih Q s φ a w h hs) (fun l a w ⟨xx,s',aC,hq,iW,hm⟩=>by cases xx<;>exact hm)
 |label l=>exact fun Q s φ a w h hs=>oI (k:=0) (wpIn_label ⟨.normal,s,φ,h,hs,trivial⟩)
 |exit id=>exact fun Q s φ a w h hs=>zL ⟨.exit id,s,φ,h,hs,rfl⟩
 |ret=>exact fun Q s φ a w h hs=>Dt ⟨.ret,s,φ,h,hs,trivial⟩
 |goto l=>exact fun Q s φ a w h hs=>h.elim
 |refuse y=>exact fun Q s φ a w h hs=>h.elim
 |rangeFunc g ps x y=>exact fun Q s φ a w h hs=>E5 hs h.1 (tz h.1) h.2
 |region id ops draw=>
  intro Q s φ a w h hs
  cases draw with
  |true=>exact oI (h M cA H0 w0 cx φ a w ro 0 hs)
  |false=>
   refine oI (k:=0) (wpIn_region_list (oH (K:=Q .normal) (X:=fun v s=>Q (.bG v) s) (fun s φ a w hk hs=>⟨.normal,s,φ,hk,hs,trivial⟩) (fun v s φ a w val hx hs hd=>⟨.bG v,s,φ,hx,hs,val,rfl,hd⟩) _ s φ a w h hs))
 |seq x y JB JC=>
  intro Q s φ a w h hs
  refine xC (gD (JB _ s φ a w h hs) ?_)
  rintro e a' w' ⟨xx,s',aC,hq,iW,hm⟩
  cases e<;>cases xx<;>first|(exact hm.elim)|skip
  ·exact JC Q s' aC a' w' hq iW
  ·subst hm;exact⟨_,s',aC,hq,iW,rfl⟩
  ·exact⟨.ret,s',aC,hq,iW,trivial⟩
  ·exact⟨.bG _,s',aC,hq,iW,hm⟩
 |cond c x y JB JC=>
  intro Q s φ a w h hs
  simp only[jb]at h
  have hc:=mJ (M:=M) (φ:=φ) (H:=s.H) (w:=w) s a hs.env c
  split at h
  ·rename_i t hv
   rw[hv]at hc
   simp only[V.den,D.den]at hc
   cases t with
   |true=>exact pM hc (JB Q s φ a w (h.1 rfl) hs)
   |false=>exact pM hc (JC Q s φ a w (h.2 rfl) hs)
  ·rename_i hv
   rw[hv]at hc
   obtain⟨t,hc⟩:=hc
   cases t with
   |true=>exact pM hc (JB Q s φ a w h.1 hs)
   |false=>exact pM hc (JC Q s φ a w h.2 hs)
  ·exact h.elim
 |block id x ih=>
  intro Q s φ a w h hs
  refine E3 (gD (ih _ s φ a w h hs) ?_)
  rintro e a' w' ⟨xx,s',aC,hq,iW,hm⟩
  cases e<;>cases xx<;>first|(exact hm.elim)|skip
  ·exact⟨.normal,s',aC,hq,iW,trivial⟩
  ·subst hm
   simp only[Exit.inBlock]
   simp only[ft]at hq
   split
   ·rename_i he;rw[if_pos he]at hq;exact⟨.normal,s',aC,hq,iW,trivial⟩
   ·rename_i he;rw[if_neg he]at hq;exact⟨.exit _,s',aC,hq,iW,rfl⟩
  ·exact⟨.ret,s',aC,hq,iW,trivial⟩
  ·exact⟨.bG _,s',aC,hq,iW,hm⟩
 |loop x ih=>
  intro Q s φ a w h hs
  obtain⟨J,⟨m0,s1,hle,hI⟩,Ce⟩:=h
  obtain⟨iV,sc⟩:=GX hb hs hle
  refine xD (fun m a w=>∃s φ,J m s/\cf M cA H0 w0 n cx φ s a w) ?_ m0 a w ⟨s1,iV,hI,sc⟩
  rintro m a w ⟨s,φ,hI,hs⟩
  refine gD (ih _ s φ a w (Ce m s hI) hs) ?_
  rintro e a' w' ⟨xx,s',aC,hq,iW,hm⟩
  cases e<;>cases xx<;>first|(exact hm.elim)|skip
  ·obtain⟨m2,s2,bC,WE,hI2⟩:=hq
   obtain⟨E6,Gb⟩:=GX hb iW WE
   exact⟨m2,bC,s2,E6,hI2,Gb⟩
  ·subst hm;exact⟨_,s',aC,hq,iW,rfl⟩
  ·exact⟨.ret,s',aC,hq,iW,trivial⟩
  ·exact⟨.bG _,s',aC,hq,iW,hm⟩
def GY(tmps:Array Value)(r:ResultVar):Sem Value:=
 match r with
 | .tmp t=>pure (tmps.getD t undef)
 | .cell p t=>do loadVar t (<- asAddr (tmps.getD p undef))
theorem sF(pN:az M φ s.H w)(dC:∀i,V.den (ao M φ s.H) φ s.H w (s.env i) (a.tmps.getD i undef)):∀ (rs:List ResultVar) (vs:List V),lY P s rs=some vs->
 ∃vals,(rs.mapM (GY a.tmps)).run P w= .ok vals w/\V.aE (ao M φ s.H) φ s.H w vs vals
 |[],vs,h=>by simp[lY]at h;subst h;exact⟨[],by simp,rfl⟩
 | .tmp t::rs,vs,h=>by
   simp only[lY,Option.map_eq_some_iff]at h
   obtain⟨us,h1,rfl⟩:=h
   obtain⟨vals,h2,h3⟩:=sF pN dC rs us h1
   exact⟨a.tmps.getD t undef::vals,by simp only[List.mapM_cons,GY,Sem.run_bind,Sem.run_pure,Result.andThen_ok,h2],_,_,rfl,dC t,h3⟩
 | .cell p t::rs,vs,h=>by
   simp only[lY]at h
   split at h
   ·rename_i id off hv
    split at h
    ·rename_i cs ho
     simp only[Option.bind_eq_some_iff,Option.map_eq_some_iff]at h
     obtain⟨v,h0,us,h1,rfl⟩:=h
     obtain⟨vals,h2,h3⟩:=sF pN dC rs us h1
     have hx:=dC p
     rw[hv]at hx
     obtain⟨_,hu,hp⟩:=hx
     obtain⟨k,dq,dx⟩:=hp (by show(s.o id).bM=true;rw[ho];rfl)
     have bA:=pN.ok id
     have zN:s.H.o id= .row cs:=ho
     simp only[aK,zN]at bA
     obtain⟨b',cR,ty,g1,g2,g3,g4⟩:=bA
     rw[dq]at g1;simp at g1;subst g1
     obtain⟨val,h4,h5⟩:=px (P:=P) h0 ⟨k,0,none⟩ cR.toList g3 g4 (fun j u hj=>py g2 j u (by simpa using hj)) rfl
     rw[add_plain,Nat.zero_add]at h4
     have h6:(loadVar t ⟨k,off,none⟩).run P w= .ok val w:=by simpa[Instr.loadAt,Instr.sureAddr]using h4
     exact⟨val::vals,by simp only[List.mapM_cons,GY,dx,asAddr,Sem.run_bind,Sem.run_pure,Result.andThen_ok,h6,h2],val,vals,rfl,h5,h3⟩
    ·cases h
   ·cases h
theorem mS{fn:Func}{tmps:Array Value}{vals:List Value}
 (h:(fn.results.toList.mapM (GY tmps)).run P w= .ok vals w):
 (results fn tmps).run P w= .ok (if h:vals.toArray.size=1 then vals.toArray[0]else .tuple vals.toArray) w:=by
 have e:results fn tmps=(do let vs <- fn.results.mapM (GY tmps);pure (if h:vs.size=1 then vs[0]else .tuple vs)):=by
  unfold results
  congr 2
 rw[e,Array.mapM_eq_mapM_toList]
 simp only[Sem.run_bind,Sem.run_map,h,Result.andThen_ok,Sem.run_pure]
theorem ll{us:Nat->Prop}(φ:Place)(hM:∀k,M k->k<w.heap.size):az M φ ⟨fun _=> .no,us⟩ w where
 ok id:=by simp[aK]
 fresh _ _:=rfl
 apart i j k hi:=by simp[ae.live]at hi
 ours k:=by rintro⟨id,h,_⟩;simp[ae.live]at h
 u5:=hM
theorem E7{vals:Array Value}{m i:Nat}:(vals++Array.replicate m undef).getD i undef=(vals[i]?).getD undef:=by
 simp only[Array.getD_eq_getD_getElem?,Array.getElem?_append]
 split
 ·rfl
 ·rw[Array.getElem?_eq_none (xs:=vals) (by omega)]
  simp only[Array.getElem?_replicate]
  split<;>rfl
structure xF (M:Nat->Prop) (cA:Place) (H0:Hp) (w0:World) (φ:Place) (s:S) (tmps:Array Value) (w:World):Prop where
 heap:az M φ s.H w
 tr:Trans cA H0 w0 φ s.H w
 env:∀i,V.den (ao M φ s.H) φ s.H w (s.env i) (tmps.getD i undef)
theorem E8{tmps:Array Value}(hs:xF M cA H0 w0 φ s tmps w){r:Nat}(h1:w0.heap.size<=r)(h2:w.heap[r]? =some (.deferred (some [])))(h3: ¬bT φ s.H r):
 xF M cA H0 w0 φ s tmps {w with heap:=w.heap.setIfInBounds r (.deferred none)}:=by
 have gv:∀b,b≠r->(w.heap.setIfInBounds r (.deferred none))[b]? =w.heap[b]? :=fun b hb=>(MapKept.heap_set h2).2 b hb
 have xk:∀b,cy w b-> ¬ao M φ s.H b->(w.heap.setIfInBounds r (.deferred none))[b]? =w.heap[b]? /\ ¬ao M φ s.H b:=by
  intro b hc hn
  refine⟨gv b fun e=> ?_,hn⟩
  subst e
  rcases hc with⟨cs,ty,fz,hc⟩|⟨es,clock,hc⟩
  ·rw[h2]at hc;cases hc
  ·rw[h2]at hc;cases hc
 refine⟨⟨fun id=> ?_,hs.heap.fresh,hs.heap.apart,fun b hb=>⟨(hs.heap.ours b hb).1,by simpa using(hs.heap.ours b hb).2⟩,fun b hb=>by simpa using hs.heap.u5 b hb⟩,⟨⟨hs.tr.bY.os,hs.tr.bY.tape,hs.tr.bY.output,by simpa using hs.tr.bY.size,fun j hj hm=> ?_⟩,hs.tr.grow,hs.tr.rel⟩,fun i=>V.kY xk (dT.refl _ _) _ _ (hs.env i)⟩
 ·exact aK.zg xk (dT.refl _ _) rfl rfl (fun hl b hb=>gv b fun e=>h3 ⟨id,hl,e ▸ hb⟩) (hs.heap.ok id)
 ·rw[gv j (by omega)];exact hs.tr.bY.block j hj hm
theorem gE{fn:Func}{R:Ending->World->Prop}{u:FrameMode}(hu:u≠ .run){tmps tb:Array Value}{ds:List Deferred}(hR:∀w,xF M cA H0 w0 φ s tb w->LeavesInM (dP none) k P fn tmps R ds u w):
 ∀ (ms:List Nat) (w:World),ms.Nodup->(∀r∈ms,w0.heap.size<=r/\w.heap[r]? =some (.deferred (some []))/\ ¬bT φ s.H r)->xF M cA H0 w0 φ s tb w->LeavesInM (dP none) k P fn tmps R (ms.map mark++ds) u w
 |[],w,_,_,hs=>hR w hs
 |r::ms,w,hn,hm,hs=>by
  obtain⟨h1,h2,h3⟩:=hm r (by simp)
  obtain⟨LL,LM⟩:=List.nodup_cons.1 hn
  refine⟨hu, .inl ⟨r,{w with heap:=w.heap.setIfInBounds r (.deferred none)},rfl, ?_,gE hu hR ms _ LM (fun r' EY=> ?_) (E8 hs h1 h2 h3)⟩⟩
  ·simp[Instr.takeDeferred,getObj,setObj,Sem.run,h2,Result.andThen]
  ·obtain⟨g1,g2,g3⟩:=hm r' (by simp[EY])
   exact⟨g1,((MapKept.heap_set h2).2 r' (fun e=>LL (e ▸ EY))).trans g2,g3⟩
theorem cf.ZK (hs:cf M cA H0 w0 n cx φ s a w):xF M cA H0 w0 φ s a.tmps w:=⟨hs.heap,hs.tr,hs.env⟩
def l5(P:Program)(rs:List ResultVar)(K X:V->(Nat->ae)->Nat->Prop)(e:fy)(s:S):Prop:=
 match e with
 | .normal| .ret=>match lY P s rs with
   |some [v]=>K v s.o s.nx
   |some vs=>K (.bS vs) s.o s.nx
   |none=>False
 | .bG v=>X v s.o s.nx
 | .exit _=>False
theorem zO{P:Program}{rs:List ResultVar}{K X:V->(Nat->ae)->Nat->Prop}{s:S}(h:l5 P rs K X .ret s):∃vs,lY P s rs=some vs/\K (match vs with|[v]=>v|vs=> .bS vs) s.o s.nx:=by
 unfold l5 at h
 simp only at h
 split at h
 ·rename_i v h1;exact⟨[v],h1,h⟩
 ·rename_i vs h1 h2
  refine⟨vs,h2, ?_⟩
  split
  ·exact absurd rfl (h1 _)
  ·exact h
 ·exact h.elim
theorem zP:∀ {vs:List V} {vals:List Value},V.aE (ao M φ H) φ H w vs vals->V.den (ao M φ H) φ H w (match vs with|[v]=>v|vs=> .bS vs) (if h:vals.toArray.size=1 then vals.toArray[0]else .tuple vals.toArray)
 |[],vals,h=>by simp only[V.aE]at h;subst h;exact⟨#[],rfl,rfl⟩
 |[v],vals,h=>by obtain⟨u,us,rfl,h1,h2⟩:=h;simp only[V.aE]at h2;subst h2;exact h1
 |v::y::l,vals,h=>by
  have h':=h
  obtain⟨u,us,rfl,h1,u2,us2,rfl,h2⟩:=h
  exact⟨(u::u2::us2).toArray,by simp,by simpa using h'⟩
theorem tD{vals:Array Value}{m:Nat}{vs:List V}(hd:V.aE (ao M φ H) φ H w vs vals.toList)(i:Nat):V.den (ao M φ H) φ H w (cq vs i) ((vals++Array.replicate m undef).getD i undef):=by
 have hlen:=V.aG _ _ hd
 simp only[cq,E7]
 cases hx:vs[i]? with
 |none=>
  have:vals[i]? =none:=by
   rw[List.getElem?_eq_none_iff]at hx
   apply Array.getElem?_eq_none
   simp at hlen;omega
  simp only[List.getD_eq_getElem?_getD,hx,this]
  exact⟨#[],rfl,rfl⟩
 |some v=>
  obtain⟨u,hu,Jo⟩:=V.ef _ _ _ _ hd hx
  have xn:vals[i]? =some u:=by simpa using hu
  simp only[List.getD_eq_getElem?_getD,hx,xn,Option.getD_some]
  exact Jo
theorem mT{f:FuncId}{fn:Func}{c:Code}{args:Array Value}{w:World}{R:Ending->World->Prop}(hf:P.funcs[f]? =some fn)(hb:fn.body=some c)
 (h:c.tA P none (bodyPostM (dP none) k P fn R) {tmps:=args++Array.replicate (fn.ntmps - args.size) undef,defers:=[]} w):CallsIn (dP none) k P f args w R:=by
 have bC:f<P.funcs.size:=(Array.getElem?_eq_some_iff.1 hf).1
 refine⟨trivial,fun cs hr=> ?_⟩
 let b:Frame:={(default:Frame)with fn:=f,kind:= .normal,roundOf:=none}
 have l4:Frame.enter P f args .normal=b.atR {tmps:=args++Array.replicate (fn.ntmps - args.size) undef,defers:=[]} [.code c]:=by
  simp[Frame.enter,Frame.atR,hf,hb,b]
 obtain⟨e,a',w',hq,cF⟩:=h b [] cs rfl bC
 rw[<- l4]at cF
 cases e with
 |normal=>
  obtain⟨e',Lr,Ro,hR,hs,E2,hl⟩:=leaves_stepsInM a'.defers .returning w' {b.atR a' []with mode:= .returning} cs rfl rfl rfl hf rfl (trivial:(dP none).fn f) hr hq
  exact⟨e',Lr,Ro,hR,ComesIn.of_steps (StepsIn.trans cF (.one (fenced_calm (n:=0) (fr:=b.atR a' []) trivial gC rfl) (stepR_end rfl))) hs,E2,hl⟩
 |ret=>
  obtain⟨todo,GZ⟩:=cF.1 rfl
  obtain⟨e',Lr,Ro,hR,hs,E2,hl⟩:=leaves_stepsInM a'.defers .returning w' {b.atR a' todo with mode:= .returning} cs rfl rfl rfl hf rfl (trivial:(dP none).fn f) hr hq
  exact⟨e',Lr,Ro,hR,ComesIn.of_steps GZ hs,E2,hl⟩
 |panic chain=>
  obtain⟨todo,GZ⟩:=cF
  obtain⟨e',Lr,Ro,hR,hs,E2,hl⟩:=leaves_stepsInM a'.defers (.panicking chain) w' {b.atR a' todo with mode:= .panicking chain} cs rfl rfl rfl hf rfl (trivial:(dP none).fn f) hr hq
  exact⟨e',Lr,Ro,hR,ComesIn.of_steps GZ hs,E2,hl⟩
 |exit id=>exact hq.elim
 |goto l=>exact hq.elim
 |outgrown=>exact⟨.outgrown,w',b,hq,cF.resolve_left (by simp[b]),rfl,trivial⟩
def Cf(P:Program)(l:Nat)(R:Ending->World->Prop):Exit->Act->World->Prop
 | .normal,_,w=>∃v w',(Instr.endRound l none).run P w= .ok v w'/\R (.returned v) w'
 | .ret,_,w=>∃v w',(Instr.endRound l (some .ret)).run P w= .ok v w'/\R (.returned v) w'
 | .exit id,_,w=>∃v w',(Instr.endRound l (some (.exit id))).run P w= .ok v w'/\R (.returned v) w'
 | .goto _,_,_=>False
 | .panic chain,a,w=>a.defers=[]/\R (.panicked chain) w
 | .outgrown,_,_=>False
theorem tE{l:Nat}{f:FuncId}{tmps:Array Value}{assign body:Code}{w:World}{R:Ending->World->Prop}(hf:f<P.funcs.size)
 (h:assign.tA P (some l) (Exit.then (fun jg fR=>∃qF,(Instr.beginRound l).run P fR= .ok () qF/\body.tA P (some l) (Cf P l R) jg qF) (fun e a w=>match e with| .panic chain=>a.defers=[]/\R (.panicked chain) w|_=>False))
  {tmps:=tmps,defers:=[]} w):
 RoundIn Fence.wide n P l f tmps assign body w R:=by
 refine⟨trivial,fun c cs hr=> ?_⟩
 let b:Frame:={(default:Frame)with fn:=f,kind:= .normal,roundOf:=some l}
 have Nx:Frame.round l f tmps assign body .normal=b.atR {tmps:=tmps,defers:=[]} [.code assign, .beginRound, .code body]:=by
  simp[Frame.round,Frame.atR,b]
 have calm:∀ (m:Machine),m.fenced P Fence.wide:=fun m=>fenced_wide P m
 have bG:∀ {a:Act} {w:World} {todo:List Item} {chain:List PanicEntry},a.defers=[]->step P (lone {b.atR a todo with mode:= .panicking chain} (c::cs) w)= .next (lone (c.raise chain) cs w):=by
  intro a w todo chain hd
  exact step_leave_panicked (fr:={b.atR a todo with mode:= .panicking chain}) ⟨rfl,hd,P.funcs[f],by show P.funcs[f]? =_;simp[hf]⟩
 obtain⟨e,jg,fR,hq,cF⟩:=h b [.beginRound, .code body] (c::cs) rfl hf
 rw[<- Nx]at cF
 cases e with
 |normal=>
  obtain⟨qF,hbr,pO⟩:=hq
  have s1:StepsIn (Machine.fenced P Fence.wide) P (lone (b.atR jg [.beginRound, .code body]) (c::cs) fR) (lone (b.atR jg [.code body]) (c::cs) qF):= .one (calm _) (stepR_beginRound rfl hbr)
  obtain⟨Nu,Rn,Ca,pL,kn⟩:=pO b [] (c::cs) rfl hf
  have cF:StepsIn (Machine.fenced P Fence.wide) P _ _:=cF
  cases Nu with
  |normal=>
   obtain⟨v,rZ,fD,hR⟩:=pL
   have kn:StepsIn (Machine.fenced P Fence.wide) P _ _:=kn
   exact⟨.returned v,rZ,hR,(StepsIn.trans cF s1).trans (StepsIn.trans kn (.one (calm _) (stepR_round_end rfl rfl fD)))⟩
  |ret=>
   obtain⟨v,rZ,fD,hR⟩:=pL
   obtain⟨k₁,hs⟩:=kn.2 rfl
   have hs:StepsIn (Machine.fenced P Fence.wide) P _ _:=hs
   exact⟨.returned v,rZ,hR,(StepsIn.trans cF s1).trans (StepsIn.trans hs (.one (calm _) (stepR_round_ret rfl rfl fD)))⟩
  |exit id=>
   obtain⟨v,rZ,fD,hR⟩:=pL
   obtain⟨k₁,hk,hs⟩:=kn.2 rfl rfl
   have hs:StepsIn (Machine.fenced P Fence.wide) P _ _:=hs
   exact⟨.returned v,rZ,hR,(StepsIn.trans cF s1).trans (StepsIn.trans hs (.one (calm _) (stepR_round_exit rfl rfl hk fD)))⟩
  |goto t=>exact pL.elim
  |panic chain=>
   obtain⟨todo,hs⟩:=kn
   have hs:StepsIn (Machine.fenced P Fence.wide) P _ _:=hs
   exact⟨.panicked chain,Ca,pL.2,(StepsIn.trans cF s1).trans (StepsIn.trans hs (.one (calm _) (bG pL.1)))⟩
  |outgrown=>exact pL.elim
 |exit id=>exact hq.elim
 |goto t=>exact hq.elim
 |ret=>exact hq.elim
 |panic chain=>
  obtain⟨todo,hs⟩:=cF
  have hs:StepsIn (Machine.fenced P Fence.wide) P _ _:=hs
  exact⟨.panicked chain,fR,hq.2,StepsIn.trans hs (.one (calm _) (bG hq.1))⟩
 |outgrown=>exact hq.elim
theorem dX.Dv {f:FuncId}{fn:Func}{c:Code}{args:List V}{o:Nat->ae}{nx:Nat}{K X:V->(Nat->ae)->Nat->Prop}(hf:P.funcs[f]? =some fn)(hn:(fn.name== "runtime.NumGoroutine")=false)(pO:fn.body=some c)(hl:args.length<=fn.ntmps)
 (h:jb P fn.ntmps nx false c (l5 P fn.results.toList K X) ⟨cq args,o,nx⟩):dX P f args o nx K X:=by
 refine⟨⟨fn,hf,hn,by rw[pO];rfl⟩,fun M φ w vals hH hd=> ?_⟩
 have hlen:=V.aG _ _ hd
 let s0:S:=⟨cq args,o,nx⟩
 let a0:Act:={tmps:=vals++Array.replicate (fn.ntmps - vals.size) undef,defers:=[]}
 have rD:cf M φ (hp o nx) w fn.ntmps ⟨[],false⟩ φ s0 a0 w:=by
  refine⟨hH,Trans.refl _ _ _, ?_,⟨[],rfl,List.nodup_nil,fun _=>rfl,fun r hr=>by cases hr⟩,tD hd⟩
  simp only[a0,Array.size_append,Array.size_replicate];simp at hlen;omega
 refine zG (ro:=none) (k:=0) (mT hf pO (gD (hU (P:=P) (H0:=hp o nx) (b:=nx) (cx:=⟨[],false⟩) (ro:=none) (fun id hu=>hu) (fun _=>rfl) c _ s0 φ a0 w h rD) ?_))
 rintro e a w' ⟨x,s,aC,hq,hs,hm⟩
 obtain⟨ms,g1,g2,g3,g4⟩:=hs.defers
 rw[List.append_nil]at g1
 have done:(x= .normal\/x= .ret)->LeavesInM (dP none) 0 P fn a.tmps (mN M φ (hp o nx) w K X) a.defers .returning w':=by
  intro hx
  have hq':l5 P fn.results.toList K X .ret s:=by rcases hx with rfl|rfl<;>exact hq
  obtain⟨vs,h1,h2⟩:=zO hq'
  rw[g1]
  have:=gE (P:=P) (k:=0) (fn:=fn) (R:=mN M φ (hp o nx) w K X) (u:= .returning) (by simp) (ds:=[]) (fun w2 hb=>by
   obtain⟨vals,h3,h4⟩:=sF (P:=P) (a:=a) hb.heap hb.env _ _ h1
   exact⟨_,mS h3,aC,s.o,s.nx,_,hb.heap,hb.tr,zP h4,h2⟩) ms w' g2 g4 hs.ZK
  rwa [List.append_nil]at this
 cases e<;>cases x<;>first|(exact hm.elim)|skip
 ·exact done (.inl rfl)
 ·exact hq.elim
 ·exact done (.inr rfl)
 ·rename_i v
  obtain⟨val,rfl,WG⟩:=hm
  show LeavesInM (dP none) 0 P fn a.tmps (mN M φ (hp o nx) w K X) a.defers _ w'
  rw[g1]
  have Nx:xF M φ (hp o nx) w aC ⟨fun i=>if i=0 then v else .ab,s.o,s.nx⟩ #[val] w':=⟨hs.heap,hs.tr,fun i=>by
   by_cases hi:i=0
   ·subst hi;exact WG
   ·simp only[hi,if_false];trivial⟩
  have:=gE (P:=P) (k:=0) (fn:=fn) (s:=⟨fun i=>if i=0 then v else .ab,s.o,s.nx⟩) (tmps:=a.tmps) (tb:=#[val]) (cA:=φ) (H0:=hp o nx) (w0:=w) (R:=mN M φ (hp o nx) w K X) (u:= .panicking [{v:=val,recovered:=false}]) (by simp) (ds:=[]) (fun w2 hb=>by
   have h0:=hb.env 0
   exact⟨aC,s.o,s.nx,v,hb.heap,hb.tr,val,rfl,h0,hq⟩) ms w' g2 g4 Nx
  rwa [List.append_nil]at this
theorem bJ.kG {f:FuncId}{ds:List D}{out:R}(h:dX P f (ds.map .d) (fun _=> .no) 0 (fun v o _=>∃vs rs,v=(match vs with|[v]=>v|vs=> .bS vs)/\cc o vs=some rs/\out= .ret rs) (fun v o _=>∃x,dO o v=some x/\out= .bG x)):bJ P f ds out:=by
 refine⟨h.1,fun M w vals hM hd=> ?_⟩
 let cA:Place:=fun _=> .nilFunc
 have ve:∀b, ¬bT cA (hp (fun _=> .no) 0) b:=by rintro b ⟨id,hl,_⟩;simp[hp,ae.live]at hl
 refine(h.2 M cA w vals (ll cA hM) ((V.cm _ _).2 (D.aI (w:=w) (w':=w) (B:=M) (fun b _ hB=>⟨rfl,fun h=>h.elim hB (ve b)⟩) _ _ hd))).mono ?_
 rintro e w' ⟨aC,o',nx',v,k1,k2,k3⟩
 have wh:eM (fun _=>False) w w':=⟨k2.bY.os,k2.bY.tape,k2.bY.output,k2.bY.size,fun k hk _=>k2.bY.block k hk (ve k)⟩
 have fin:∀ (vs:List V) (xs:List D) (vals:List Value),cc o' vs=some xs->V.aE (ao M aC (hp o' nx')) aC (hp o' nx') w' vs vals->D.aE M w' xs vals:=by
  intro vs xs vals h1 h2
  obtain⟨f1,f2,f3,f4,f5⟩:=cT k1 (V.bf vs) (cC vs _ h2)
  have h3:=dr f1 vs xs vals f3 h1 (V.aI f2 _ _ h2)
  exact D.aI (w:=w') (w':=w') (fun k _ hB=>⟨rfl,fun hM=>hB (.inl hM)⟩) xs vals h3
 refine⟨wh, ?_⟩
 cases e with
 |outgrown=>exact k3.elim
 |panicked ch=>
  obtain⟨val,rfl,g1,x,g2,rfl⟩:=k3
  have:=fin [v] [x] [val] (by simp[cc,g2]) ⟨val,[],rfl,g1,rfl⟩
  obtain⟨u,us,he,h2,_⟩:=this
  simp at he;obtain⟨rfl,rfl⟩:=he
  exact⟨val,rfl,h2⟩
 |returned val=>
  obtain⟨g1,vs,rs,rfl,g2,rfl⟩:=k3
  match vs,g1,g2 with
  |[],g1,g2=>
   obtain⟨arr,rfl,hv⟩:=g1
   simp only[cc,Option.some.injEq]at g2;subst g2
   exact⟨arr,rfl,hv⟩
  |[v],g1,g2=>
   have:=fin [v] rs [val] g2 ⟨val,[],rfl,g1,rfl⟩
   cases rs with
   |nil=>cases this
   |cons x l=>
    obtain⟨u,us,he,h2,h3⟩:=this
    simp at he;obtain⟨rfl,rfl⟩:=he
    cases l with
    |nil=>exact h2
    |cons y l=>obtain⟨_,_,h,_⟩:=h3;cases h
  |v::v2::l,g1,g2=>
   obtain⟨arr,rfl,h⟩:=g1
   have:=fin (v::v2::l) rs arr.toList g2 h
   have hl:=D.aG _ _ this
   have Rp:=V.aG _ _ h
   match rs,hl,this with
   |[],hl,_=>rw[Rp]at hl;simp at hl
   |[x],hl,_=>rw[Rp]at hl;simp at hl
   |x::y::l,_,this=>exact⟨arr,rfl,this⟩
theorem E9{rs:List ResultVar}{out:R}(e:fy)(s:S)(h:B9 P rs out e s):
 l5 P rs (fun v o _=>∃vs rs,v=(match vs with|[v]=>v|vs=> .bS vs)/\cc o vs=some rs/\out= .ret rs) (fun v o _=>∃x,dO o v=some x/\out= .bG x) e s:=by
 have ret:B9 P rs out .ret s->l5 P rs (fun v o _=>∃vs rs,v=(match vs with|[v]=>v|vs=> .bS vs)/\cc o vs=some rs/\out= .ret rs) (fun v o _=>∃x,dO o v=some x/\out= .bG x) .ret s:=by
  intro h
  obtain⟨vs,xs,h1,h2,h3⟩:=GO h
  simp only[l5,h1]
  match vs,h2 with
  |[],h2=>exact⟨[],xs,rfl,h2,h3⟩
  |[v],h2=>exact⟨[v],xs,rfl,h2,h3⟩
  |v::v2::l,h2=>exact⟨v::v2::l,xs,rfl,h2,h3⟩
 cases e with
 |normal=>exact ret h
 |ret=>exact ret h
 |exit id=>exact h.elim
 |bG v=>exact GP h
end
end Go.Proofs.YtealblliddhgiaaGreat
namespace Go.Proofs.YtealblliddhgiaaGreat
def G0{α:Type}(c:Bool)(x:α):Option α:=if c=true then some x else none
def one(v:V):Option gz:=some (v,[],[])
def zQ(op:BinOp)(k:IntKind)(a b:Int):Option V:=
 match op with
 | .add=>some (.d (.int k (k.wrap (a+b))))
 | .sub=>some (.d (.int k (k.wrap (a - b))))
 | .mul=>some (.d (.int k (k.wrap (a*b))))
 | .quo=>if b=0 then none else some (.d (.int k (k.wrap (a.tdiv b))))
 | .rem=>if b=0 then none else some (.d (.int k (a.tmod b)))
 | .and=>(s6 .and k a b).map fun r=> .d (.int k r)
 | .or=>(s6 .or k a b).map fun r=> .d (.int k r)
 | .xor=>(s6 .xor k a b).map fun r=> .d (.int k r)
 | .andNot=>(s6 .andNot k a b).map fun r=> .d (.int k r)
 | .eql=>some (.d (.bool (a==b)))| .neq=>some (.d (.bool (a !=b)))| .lss=>some (.d (.bool (decide (a<b))))| .leq=>some (.d (.bool (decide (a<=b))))
 | .gtr=>some (.d (.bool (decide (b<a))))| .geq=>some (.d (.bool (decide (b<=a))))
 |_=>none
def aS(P:Program)(t:TypeId):Bool:=
 match P.underlying t with
 |some .bool=>true
 |_=>false
def xG(P:Program)(op:BinOp)(t:TypeId)(x y:V):Option V:=
 match x,y with
 | .d (.int k a), .d (.int k' b)=>if k=k' then zQ op k a b else none
 | .d (.bool a), .d (.bool b)=>match op with
   | .eql=>G0 (aS P t) (.d (.bool (a==b)))
   | .neq=>G0 (aS P t) (.d (.bool (a !=b)))
   |_=>none
 | .d (.str a), .d (.str b)=>match op with
   | .eql=>some (.d (.bool (a==b)))
   | .neq=>some (.d (.bool (a !=b)))
   |_=>none
 |_,_=>none
def WH(op:UnOp)(x:V):Option V:=
 match op,x with
 | .neg, .d (.int k n)=>some (.d (.int k (k.wrap (-n))))
 | .not, .d (.bool b)=>some (.d (.bool !b))
 |_,_=>none
def pP(c a b:V):Option V:=
 match c with
 | .d (.bool true)=>some a
 | .d (.bool false)=>some b
 |_=>none
def pQ(o:Nat->ae)(x:V):Option (List D×List Nat):=
 match x with
 | .d (.sl es)=>some (es,[])
 | .bn=>some ([],[])
 | .ox es=>some (es,[])
 | .osl id ep=>match o id with
   | .arr gU _ _ es=>if ep=gU then some (es,[id])else none
   | .ph gU es=>if ep=gU then some (es,[id])else none
   |_=>none
 |_=>none
def Cg(P:Program)(t:TypeId)(o:Nat->ae)(x:V):Option gz:=
 match P.underlying t with
 |some (.slice _)=>match pQ o x with
  |some (es,rd)=>some (.d (.int .i64 es.length),[],rd)
  |none=>none
 |some .string=>match x with
  | .d (.str s)=>one (.d (.int .i64 s.length))
  |_=>none
 |some (.array n _)=>one (.d (.int .i64 n))
 |_=>none
def wk(P:Program)(e:TypeId)(es:List D)(i:Int)(rd:List Nat):Option gz:=
 if 0<=i then match es[i.toNat]? with
  |some y=>G0 (y.cells.length==P.cellsOf e&&0<P.cellsOf e) (.pp y.cells 0,[],rd)
  |none=>none
 else none
def n9(o:Nat->ae)(x:V)(q:Nat):Option V:=
 match x with
 | .ptr id off=>G0 (o id).bM (.ptr id (off+q))
 | .pp cs off=>some (.pp cs (off+q))
 | .pe id ep j sz off=>if(o id).ba=some ep then some (.pe id ep j sz (off+q))else none
 |_=>none
def hY(P:Program)(o:Nat->ae)(t:TypeId)(x ix:V):Option gz:=
 match ix with
 | .d (.int _ i)=>match aV P t with
   |some e=>match x with
    | .d (.sl es)=>wk P e es i []
    | .ox es=>wk P e es i []
    | .osl id ep=>match o id with
      | .arr gU _ sz es=>if ep=gU/\0<=i/\i.toNat<es.length/\sz=P.cellsOf e/\0<P.cellsOf e then some (.pe id ep i.toNat sz 0,[],[id])else none
      | .ph gU es=>if ep=gU then wk P e es i [id]else none
      |_=>none
    |_=>none
   |none=>match cH P t with
    |some (n,e)=>if 0<=i/\i<n/\(P.info? e).isSome=true then(n9 o x (i.toNat*P.cellsOf e)).bind one else none
    |none=>none
 |_=>none
def hZ(P:Program)(o:Nat->ae)(t:TypeId)(x:V)(f:Nat):Option V:=
 match cB P t f with
 |some q=>n9 o x q
 |none=>none
def mU(P:Program)(o:Nat->ae)(t:TypeId)(x:V):Option gz:=
 match x with
 | .ptr id off=>match o id with
   | .row cs=>match eQ P t cs off with
     |some v=>some (v,[],[id])
     |none=>none
   |_=>none
 | .pp cs off=>match eQ P t (cs.map .d) off with
   |some v=>some (v,[],[])
   |none=>none
 | .pe id ep i sz off=>match o id with
   | .arr gU _ nP es=>if ep=gU/\sz=nP then match es[i]? with
    |some e=>match eQ P t (e.cells.map .d) off with
     |some v=>some (v,[],[id])
     |none=>none
    |none=>none
     else none
   |_=>none
 |_=>none
def qG(P:Program)(o:Nat->ae)(t:TypeId)(x v:V):Option gz:=
 match x with
 | .ptr id off=>match o id with
   | .row cs=>match xi P t cs off v with
     |some cs'=>some (.bS [],[(id, .row cs')],[id])
     |none=>none
   |_=>none
 | .pe id ep i nP off=>match o id with
   | .arr gU ty sz es=>if ep=gU/\nP=sz then match es[i]?,dO o v with
    |some e,some y=>if y.cells.length=P.cellsOf t/\0<y.cells.length/\v.ids.all (· !=id)=true then match e.put off y.cells with
     |some e'=>some (.bS [],cQ o v.ids++[(id, .arr ep ty sz (es.set i e'))],id::v.ids)
     |none=>none
     else none
    |_,_=>none
     else none
   |_=>none
 |_=>none
def fZ(P:Program)(o:Nat->ae)(fr:Nat)(t:TypeId)(len:Nat)(parts:List (Nat×V)):Option gz:=
 match aV P t with
 |some e=>if len=0/\parts.isEmpty=true/\0<P.cellsOf e then some (.osl fr 0,[(fr, .arr 0 e (P.cellsOf e) [])],[])else if parts.map (·.1)=List.range len/\(bp P e).isSome=true/\0<len/\0<P.cellsOf e/\len*P.cellsOf e<=2^24 then match cc o (parts.map (·.2))with
  |some ds=>if ds.all (fun x=>x.cells.length==P.cellsOf e)=true then some (.osl fr 0,cQ o (V.bf (parts.map (·.2)))++[(fr, .arr 0 e (P.cellsOf e) ds)],V.bf (parts.map (·.2)))else none
  |none=>none
  else none
 |none=>none
def l6(P:Program)(fr:Nat)(t:TypeId)(l c:V):Option gz:=
 match aV P t with
 |some e=>match l,c with
  | .d (.int _ n), .d (.int _ m)=>if n=m/\0<=n/\0<P.cellsOf e/\P.bytesOf e*n.toNat<=2^47/\n.toNat<=2^47 then match bI P e with
   |some x=>some (.osl fr 0,[(fr, .arr 0 e (P.cellsOf e) (List.replicate n.toNat x))],[])
   |none=>none
    else none
  |_,_=>none
 |none=>none
def pR(P:Program)(o:Nat->ae)(fr:Nat)(ts:Array TypeId)(x y:V):Option gz:=
 match ts.toList with
 |[t,t']=>if t=t' then match aV P t,pQ o y with
    |some e,some (new,rd)=>if 0<P.cellsOf e/\(bp P e).isSome=true/\new.all (fun z=>z.cells.length==P.cellsOf e)=true then match x with
     | .bn=>if new.length<=2^47/\new.length*P.bytesOf e<=2^47 then some (.osl fr 0,[(fr, .arr 0 e (P.cellsOf e) new)],rd)else none
     | .ox es=>if es.all (fun z=>z.cells.length==P.cellsOf e)=true then(if new=[]then some (.ox es,[],rd)else if es.length+new.length<=2^40/\(es.length+new.length)*P.bytesOf e<=2^40 then some (.osl fr 0,[(fr, .arr 0 e (P.cellsOf e) (es++new))],rd)else none)else none
     | .osl id ep=>match o id with
       | .arr gU ty sz es=>if ep=gU/\ty=e/\sz=P.cellsOf e/\es.length+new.length<=2^47/\(es.length+new.length)*P.bytesOf e<=2^47 then
        some (.osl id (ep+1),[(id, .arr (ep+1) ty sz (es++new))],id::rd)else none
       |_=>none
     |_=>none
     else none
    |_,_=>none
  else none
 |_=>none
def pS(isMax:Bool)(x y:V):Option V:=
 match x,y with
 | .d (.int k a), .d (.int k' b)=>if k=k' then some (.d (.int k (if isMax then(if b>a then b else a)else(if b<a then b else a))))else none
 |_,_=>none
def l7(x:Option V):Option gz:=match x with|some v=>one v|none=>none
def pT(P:Program)(s:S)(fr:Nat)(b:Builtin)(args:List Operand)(ts:Array TypeId):Option gz:=
 match b,args with
 | .len,[x]=>match ts.toList with
   |[t]=>Cg P t s.o (s.ev x)
   |_=>none
 | .append,[x,y]=>pR P s.o fr ts (s.ev x) (s.ev y)
 | .max,[x,y]=>l7 (pS true (s.ev x) (s.ev y))
 | .min,[x,y]=>l7 (pS false (s.ev x) (s.ev y))
 | .max,[x,y,z]=>l7 (Gn (s.ev x) (s.ev y) (s.ev z))
 | .copy,[x,y]=>vI P s.o ts (s.ev x) (s.ev y)
 | .delete,[x,y]=>match ts.toList.head? with
   |some t=>nF P s.o t (s.ev x) (s.ev y)
   |none=>none
 |_,_=>none
def xH(P:Program)(t:TypeId)(parts:List (Nat×V)):Option V:=
 match bp P t,dF P t with
 |some z,some pl=>match rp pl z parts with
  |some cs=>some (fC cs)
  |none=>none
 |_,_=>none
def jo(o:Nat->ae)(x:V):Option V:=
 match x with
 | .ptr id off=>G0 (o id).bM (.ptr id off)
 | .pp cs off=>some (.pp cs off)
 | .func (.func f) first cap=>some (.func (.func f) first cap)
 |_=>none
def aD(P:Program)(t:TypeId):Bool:=
 match P.underlying t with
 |some (.interface _)=>false
 |some _=>true
 |none=>false
def G1(P:Program)(t:TypeId)(x:V):Option V:=
 G0 (aD P t) (match x with
  | .d y=> .d (.iface t y)
  |v=> .iface t v)
def dB(P:Program)(o:Nat->ae)(op:BinOp)(t:TypeId)(oB:Bool)(x y:V):Option gz:=
 match xG P op t x y with
 |some v=>one v
 |none=>qx P o op t oB x y
def zR(op:UnOp)(x:V):Option V:=
 match op,x with
 | .not, .eZ=>some .eZ
 |op,x=>WH op x
def gr(P:Program)(s:S)(fr:Nat)(op:Op):Option gz:=
 match op with
 | .move x=>one (s.ev x)
 | .assign x=>one (s.ev x)
 | .pick c a b=>l7 (pP (s.ev c) (s.ev a) (s.ev b))
 | .alloc t=>match bp P t with
   |some cs=>some (.ptr fr 0,[(fr, .row cs)],[])
   |none=>none
 | .box _ x=>match(s.ev x).cells with
   |some cs=>some (.ptr fr 0,[(fr, .row cs)],[])
   |none=>none
 | .build t parts=>l7 (xH P t (parts.toList.map fun p=>(p.1,s.ev p.2)))
 | .buildSlice t len parts=>fZ P s.o fr t len (parts.toList.map fun p=>(p.1,s.ev p.2))
 | .load t x=>mU P s.o t (s.ev x)
 | .store t x v=>qG P s.o t (s.ev x) (s.ev v)
 | .nilCheck x=>l7 (jo s.o (s.ev x))
 | .binOp op t x y _=>dB P s.o op t (isConst x||isConst y) (s.ev x) (s.ev y)
 | .unOp op _ x=>l7 (zR op (s.ev x))
 | .convert u t x=>match P.underlying u,cM P t,s.ev x with
   |some _,some k, .d (.int _ n)=>one (.d (.int k (k.wrap n)))
   |_,_,_=>none
 | .makeInterface t x=>l7 (G1 P t (s.ev x))
 | .makeFunc fn first cap=>one (.func fn (first.toList.map s.ev) (cap.toList.map s.ev))
 | .makeSlice t l c=>l6 P fr t (s.ev l) (s.ev c)
 | .fieldAddr t x f=>l7 (hZ P s.o t (s.ev x) f)
 | .indexAddr t x i=>hY P s.o t (s.ev x) (s.ev i)
 | .extract x i=>match s.ev x with
   | .bS vs=>match vs[i]? with
     |some v=>one v
     |none=>none
   |_=>none
 | .call c=>match c.callee with
   | .builtin b=>pT P s fr b c.args.toList c.argTypes
   |_=>none
 | .slice t x lo hi mx=>qt P s.o t (s.ev x) (lo.map s.ev) (hi.map s.ev) (mx.map s.ev)
 | .field t x f=>l7 (s8 P t (s.ev x) f)
 | .index t x i=>l7 (s9 P t (s.ev x) (s.ev i))
 | .typeAssert x _ t ok=>l7 (pn P t ok (s.ev x))
 | .makeMap t none=>mG P fr t
 | .lookup t m k ok=>iE P s.o t (s.ev m) (s.ev k) ok
 | .mapUpdate t m k v=>fI P s.o t (s.ev m) (s.ev k) (s.ev v)
 | .insert t m k v=>fI P s.o t (s.ev m) (s.ev k) (s.ev v)
 | .range t x=>mH P s.o fr t (s.ev x)
 | .next x str=>nY s.o (s.ev x) str
 | .entry x=>mI s.o (s.ev x)
 |_=>none
section
variable {P:Program}{s:S}{fr:Nat}{v:V}{Δ:List (Nat×ae)}{rd:List Nat}{o:Nat->ae}{K:V->List (Nat×ae)->List Nat->Prop}
theorem qH{α:Type}{c:Bool}{x y:α}(h:G0 c x=some y):c=true/\x=y:=by
 unfold G0 at h;split at h
 ·injection h with h;exact⟨by assumption,h⟩
 ·cases h
theorem kH{x:V}{r:gz}(h:one x=some r):r=(x,[],[]):=by unfold one at h;injection h with h;exact h.symm
theorem fK{x:Option V}{r:gz}(h:l7 x=some r):∃v,x=some v/\r=(v,[],[]):=by
 unfold l7 at h;split at h
 ·exact⟨_,rfl,kH h⟩
 ·cases h
theorem Ch{x:V}{es:List D}{rd:List Nat}(h:pQ o x=some (es,rd)):eR o x=some es/\rd=x.ids:=by
 unfold pQ at h
 split at h
 ·simp at h;obtain⟨rfl,rfl⟩:=h;exact⟨rfl,rfl⟩
 ·simp at h;obtain⟨rfl,rfl⟩:=h;exact⟨rfl,rfl⟩
 ·simp at h;obtain⟨rfl,rfl⟩:=h;exact⟨rfl,rfl⟩
 ·split at h
  ·rename_i ho
   split at h
   ·rename_i e;simp at h;obtain⟨rfl,rfl⟩:=h;exact⟨by simp[eR,dO,ho,e],rfl⟩
   ·cases h
  ·rename_i ho
   split at h
   ·rename_i e;simp at h;obtain⟨rfl,rfl⟩:=h;exact⟨by simp[eR,dO,ho,e],rfl⟩
   ·cases h
  ·cases h
 ·cases h
theorem Fa{op:BinOp}{k:IntKind}{a b:Int}{v:V}(h:zQ op k a b=some v){K:V->Prop}(hK:K v):Jj op k a b K:=by
 cases op<;>simp only[zQ]at h<;>simp only[Jj]
 case quo=>split at h
           ·cases h
           ·injection h with h;subst h;exact⟨by assumption,hK⟩
 case rem=>split at h
           ·cases h
           ·injection h with h;subst h;exact⟨by assumption,hK⟩
 case and=>simp only[Option.map_eq_some_iff]at h;obtain⟨r,h1,rfl⟩:=h;exact⟨r,h1,hK⟩
 case or=>simp only[Option.map_eq_some_iff]at h;obtain⟨r,h1,rfl⟩:=h;exact⟨r,h1,hK⟩
 case xor=>simp only[Option.map_eq_some_iff]at h;obtain⟨r,h1,rfl⟩:=h;exact⟨r,h1,hK⟩
 case andNot=>simp only[Option.map_eq_some_iff]at h;obtain⟨r,h1,rfl⟩:=h;exact⟨r,h1,hK⟩
 case shl=>cases h
 case shr=>cases h
 case eql=>injection h with h;subst h;exact⟨_,rfl,hK⟩
 case neq=>injection h with h;subst h;exact⟨_,rfl,hK⟩
 case lss=>injection h with h;subst h;exact⟨_,rfl,hK⟩
 case leq=>injection h with h;subst h;exact⟨_,rfl,hK⟩
 case gtr=>injection h with h;subst h;exact⟨_,rfl,hK⟩
 case geq=>injection h with h;subst h;exact⟨_,rfl,hK⟩
 all_goals (injection h with h;subst h;exact hK)
theorem Fb{op:BinOp}{t:TypeId}{x y v:V}(h:xG P op t x y=some v){K:V->Prop}(hK:K v):Gk P op t x y K:=by
 unfold xG at h
 unfold Gk
 split at h
 ·split at h
  ·exact⟨by assumption,Fa h hK⟩
  ·cases h
 ·have hb:aS P t=true->P.underlying t=some .bool:=by
   unfold aS;intro h;split at h
   ·assumption
   ·cases h
  split at h
  ·obtain⟨h1,rfl⟩:=qH h;exact⟨hb h1,hK⟩
  ·obtain⟨h1,rfl⟩:=qH h;exact⟨hb h1,hK⟩
  ·cases h
 ·split at h
  ·injection h with h;subst h;exact hK
  ·injection h with h;subst h;exact hK
  ·cases h
 ·cases h
theorem Ci{c a b v:V}(h:pP c a b=some v){K:V->Prop}(hK:K v):y9 c a b K:=by
 unfold pP at h
 unfold y9
 split at h
 ·injection h with h;subst h;exact⟨fun _=>hK,(fun h=>by cases h)⟩
 ·injection h with h;subst h;exact⟨(fun h=>by cases h),fun _=>hK⟩
 ·cases h
theorem tF{x y:V}{q:Nat}(h:n9 o x q=some y):(∃id off,x= .ptr id off/\(o id).bM=true/\y= .ptr id (off+q))\/(∃cs off,x= .pp cs off/\y= .pp cs (off+q))\/
 (∃id ep j sz off,x= .pe id ep j sz off/\(o id).ba=some ep/\y= .pe id ep j sz (off+q)):=by
 unfold n9 at h
 split at h
 ·obtain⟨h1,rfl⟩:=qH h;exact .inl ⟨_,_,rfl,h1,rfl⟩
 ·injection h with h;exact .inr (.inl ⟨_,_,rfl,h.symm⟩)
 ·split at h
  ·injection h with h;exact .inr (.inr ⟨_,_,_,_,_,rfl,by assumption,h.symm⟩)
  ·cases h
 ·cases h
theorem oJ{e:TypeId}{es:List D}{i:Int}{rd:List Nat}{r:gz}(h:wk P e es i rd=some r):
 0<=i/\∃y,es[i.toNat]? =some y/\y.cells.length=P.cellsOf e/\0<P.cellsOf e/\r=(.pp y.cells 0,[],rd):=by
 unfold wk at h
 split at h
 ·rename_i h0
  split at h
  ·rename_i y hy
   obtain⟨h1,rfl⟩:=qH h
   simp only[Bool.and_eq_true,beq_iff_eq,decide_eq_true_eq]at h1
   exact⟨h0,y,hy,h1.1,h1.2,rfl⟩
  ·cases h
 ·cases h
theorem sd{t:TypeId}{x ix:V}(h:hY P o t x ix=some (v,Δ,rd))(hK:K v Δ rd):jw P o t x ix fun v rd=>K v [] rd:=by
 unfold hY at h
 unfold jw
 split at h
 ·simp only
  split at h
  ·rename_i e ht
   simp only[ht]
   split at h
   ·obtain⟨h0,y,h1,h2,h3,h4⟩:=oJ h
    simp only[Prod.mk.injEq]at h4;obtain⟨rfl,rfl,rfl⟩:=h4
    exact⟨h0,y,h1,h2,h3,hK⟩
   ·obtain⟨h0,y,h1,h2,h3,h4⟩:=oJ h
    simp only[Prod.mk.injEq]at h4;obtain⟨rfl,rfl,rfl⟩:=h4
    exact⟨h0,y,h1,h2,h3,hK⟩
   ·split at h
    ·rename_i ho
     split at h
     ·rename_i hc
      simp only[Option.some.injEq,Prod.mk.injEq]at h;obtain⟨rfl,rfl,rfl⟩:=h
      simp only[ho]
      exact⟨hc.1,hc.2.1,hc.2.2.1,hc.2.2.2.1,hc.2.2.2.2,hK⟩
     ·cases h
    ·rename_i ho
     split at h
     ·rename_i hc
      obtain⟨h0,y,h1,h2,h3,h4⟩:=oJ h
      simp only[Prod.mk.injEq]at h4;obtain⟨rfl,rfl,rfl⟩:=h4
      simp only[ho]
      exact⟨hc,h0,y,h1,h2,h3,hK⟩
     ·cases h
    ·cases h
   ·cases h
  ·rename_i ht
   simp only[ht]
   split at h
   ·rename_i n e ha
    simp only[ha]
    split at h
    ·rename_i hc
     simp only[Option.bind_eq_some_iff]at h
     obtain⟨y,hy,h1⟩:=h
     have h1:=kH h1
     simp only[Prod.mk.injEq]at h1;obtain⟨rfl,rfl,rfl⟩:=h1
     refine⟨hc.1,hc.2.1,hc.2.2, ?_⟩
     rcases tF hy with⟨_,_,rfl,h2,rfl⟩|⟨_,_,rfl,rfl⟩|⟨_,_,_,_,_,rfl,h2,rfl⟩
     ·exact⟨h2,hK⟩
     ·exact hK
     ·exact⟨h2,hK⟩
    ·cases h
   ·cases h
 ·cases h
theorem se{t:TypeId}{x y:V}{f:Nat}(h:hZ P o t x f=some y){K:V->Prop}(hK:K y):jx P o t x f K:=by
 unfold hZ at h
 unfold jx
 split at h
 ·rename_i q hq
  simp only[hq]
  rcases tF h with⟨_,_,rfl,h2,rfl⟩|⟨_,_,rfl,rfl⟩|⟨_,_,_,_,_,rfl,h2,rfl⟩
  ·exact⟨h2,hK⟩
  ·exact hK
  ·exact⟨h2,hK⟩
 ·cases h
theorem Fc{t:TypeId}{x:V}(h:Cg P t o x=some (v,Δ,rd))(hK:K v Δ rd):Gl P t o x fun v rd=>K v [] rd:=by
 unfold Cg at h
 unfold Gl
 split at h
 ·rename_i e hu
  simp only[hu]
  split at h
  ·rename_i es wm hl
   simp only[Option.some.injEq,Prod.mk.injEq]at h;obtain⟨rfl,rfl,rfl⟩:=h
   unfold pQ at hl
   split at hl
   ·simp at hl;obtain⟨rfl,rfl⟩:=hl;exact hK
   ·simp at hl;obtain⟨rfl,rfl⟩:=hl;exact hK
   ·simp at hl;obtain⟨rfl,rfl⟩:=hl;exact hK
   ·split at hl
    ·rename_i ho
     split at hl
     ·rename_i hc;simp at hl;obtain⟨rfl,rfl⟩:=hl;simp only[ho];exact⟨hc,hK⟩
     ·cases hl
    ·rename_i ho
     split at hl
     ·rename_i hc;simp at hl;obtain⟨rfl,rfl⟩:=hl;simp only[ho];exact⟨hc,hK⟩
     ·cases hl
    ·cases hl
   ·cases hl
  ·cases h
 ·rename_i hu
  simp only[hu]
  split at h
  ·have h1:=kH h;simp only[Prod.mk.injEq]at h1;obtain⟨rfl,rfl,rfl⟩:=h1;exact hK
  ·cases h
 ·rename_i hu
  simp only[hu]
  have h1:=kH h;simp only[Prod.mk.injEq]at h1;obtain⟨rfl,rfl,rfl⟩:=h1;exact hK
 ·cases h
theorem Cj{t:TypeId}{x:V}(h:mU P o t x=some (v,Δ,rd))(hK:K v Δ rd):zc P o t x fun v rd=>K v [] rd:=by
 unfold mU at h
 unfold zc
 split at h
 ·split at h
  ·rename_i ho
   split at h
   ·rename_i hg
    simp only[Option.some.injEq,Prod.mk.injEq]at h;obtain⟨rfl,rfl,rfl⟩:=h
    simp only[ho];exact⟨_,hg,hK⟩
   ·cases h
  ·cases h
 ·split at h
  ·rename_i hg
   simp only[Option.some.injEq,Prod.mk.injEq]at h;obtain⟨rfl,rfl,rfl⟩:=h
   exact⟨_,hg,hK⟩
  ·cases h
 ·split at h
  ·rename_i ho
   split at h
   ·rename_i hc
    split at h
    ·rename_i e he
     split at h
     ·rename_i hg
      simp only[Option.some.injEq,Prod.mk.injEq]at h;obtain⟨rfl,rfl,rfl⟩:=h
      simp only[ho];exact⟨hc.1,hc.2,e,he,_,hg,hK⟩
     ·cases h
    ·cases h
   ·cases h
  ·cases h
 ·cases h
theorem zS{t:TypeId}{x y:V}(h:qG P o t x y=some (v,Δ,rd))(hK:K v Δ rd):s7 P o t x y fun Δ rd=>K (.bS []) Δ rd:=by
 unfold qG at h
 unfold s7
 split at h
 ·split at h
  ·rename_i ho
   split at h
   ·rename_i hg
    simp only[Option.some.injEq,Prod.mk.injEq]at h;obtain⟨rfl,rfl,rfl⟩:=h
    simp only[ho];exact⟨_,hg,hK⟩
   ·cases h
  ·cases h
 ·split at h
  ·rename_i ho
   split at h
   ·rename_i hc
    split at h
    ·rename_i e z he hz
     split at h
     ·rename_i hl
      split at h
      ·rename_i e' hp
       simp only[Option.some.injEq,Prod.mk.injEq]at h;obtain⟨rfl,rfl,rfl⟩:=h
       simp only[ho]
       exact⟨hc.1,hc.2,e,he,z,hz,hl.1,hl.2.1,hl.2.2,e',hp,hK⟩
      ·cases h
     ·cases h
    ·cases h
   ·cases h
  ·cases h
 ·cases h
theorem qI{t:TypeId}{len:Nat}{parts:List (Nat×V)}(h:fZ P o fr t len parts=some (v,Δ,rd))(hK:K v Δ rd):iG P o fr t len parts K:=by
 unfold fZ at h
 unfold iG
 split at h
 ·rename_i e ht
  simp only[ht]
  split at h
  ·rename_i hc
   simp only[Option.some.injEq,Prod.mk.injEq]at h;obtain⟨rfl,rfl,rfl⟩:=h
   exact .inl ⟨hc.1,by simpa using hc.2.1,hc.2.2,hK⟩
  split at h
  ·rename_i hc
   refine .inr ?_
   split at h
   ·rename_i ds hd
    split at h
    ·rename_i hw
     simp only[Option.some.injEq,Prod.mk.injEq]at h;obtain⟨rfl,rfl,rfl⟩:=h
     refine⟨hc.1,hc.2.1,hc.2.2.1,hc.2.2.2.1,hc.2.2.2.2,ds,hd,fun x hx=> ?_,hK⟩
     simpa using List.all_eq_true.1 hw x hx
    ·cases h
   ·cases h
  ·cases h
 ·cases h
theorem si{t:TypeId}{l c:V}(h:l6 P fr t l c=some (v,Δ,rd))(hK:K v Δ rd):jy P fr t l c fun v Δ=>K v Δ []:=by
 unfold l6 at h
 unfold jy
 split at h
 ·rename_i e ht
  split at h
  ·split at h
   ·rename_i hc
    split at h
    ·rename_i x hx
     simp only[Option.some.injEq,Prod.mk.injEq]at h;obtain⟨rfl,rfl,rfl⟩:=h
     simp only[ht]
     exact⟨hc.1,hc.2.1,hc.2.2.1,hc.2.2.2.1,hc.2.2.2.2,x,hx,hK⟩
    ·cases h
   ·cases h
  ·cases h
 ·cases h
theorem xI{ts:Array TypeId}{x y:V}(h:pR P o fr ts x y=some (v,Δ,rd))(hK:K v Δ rd):pk P o fr ts x y K:=by
 unfold pR at h
 unfold pk
 split at h
 ·rename_i t t' BW
  simp only[BW]
  split at h
  ·rename_i htt
   refine⟨htt, ?_⟩
   split at h
   ·rename_i e new wm ht hl
    obtain⟨qn,rfl⟩:=Ch hl
    simp only[ht]
    split at h
    ·rename_i hc
     refine⟨new,qn,hc.1,hc.2.1,fun z hz=>by simpa using List.all_eq_true.1 hc.2.2 z hz, ?_⟩
     split at h
     ·split at h
      ·rename_i tk
       simp only[Option.some.injEq,Prod.mk.injEq]at h;obtain⟨rfl,rfl,rfl⟩:=h
       exact⟨tk.1,tk.2,hK⟩
      ·cases h
     ·split at h
      ·rename_i Dm
       refine⟨fun z hz=>by simpa using List.all_eq_true.1 Dm z hz, ?_⟩
       split at h
       ·rename_i hn
        simp only[Option.some.injEq,Prod.mk.injEq]at h;obtain⟨rfl,rfl,rfl⟩:=h
        rw[if_pos hn];exact hK
       ·rename_i hn
        split at h
        ·rename_i tk
         simp only[Option.some.injEq,Prod.mk.injEq]at h;obtain⟨rfl,rfl,rfl⟩:=h
         rw[if_neg hn];exact⟨tk.1,tk.2,hK⟩
        ·cases h
      ·cases h
     ·split at h
      ·rename_i ho
       split at h
       ·rename_i tk
        simp only[Option.some.injEq,Prod.mk.injEq]at h;obtain⟨rfl,rfl,rfl⟩:=h
        simp only[ho]
        exact⟨tk.1,tk.2.1,tk.2.2.1,tk.2.2.2.1,tk.2.2.2.2,hK⟩
       ·cases h
      ·cases h
     ·cases h
    ·cases h
   ·cases h
  ·cases h
 ·cases h
theorem tG{x y:V}(h:jo o x=some y){K:V->Prop}(hK:K y):kZ o x K:=by
 unfold jo at h
 unfold kZ
 split at h
 ·obtain⟨h2,rfl⟩:=qH h;exact⟨h2,hK⟩
 ·injection h with h;subst h;exact hK
 ·injection h with h;subst h;exact hK
 ·cases h
theorem G2{op:UnOp}{x y:V}(h:WH op x=some y){K:V->Prop}(hK:K y):Q3 op x K:=by
 unfold WH at h
 unfold Q3
 split at h
 ·injection h with h;subst h;simp only;rw[Int.zero_sub];exact hK
 ·injection h with h;subst h;exact hK
 ·cases h
theorem pU{m:Bool}{x y v:V}(h:pS m x y=some v){K:V->Prop}(hK:K v):nE m [x,y] K:=by
 unfold pS at h
 unfold nE
 split at h
 ·split at h
  ·injection h with h;subst h;exact⟨by assumption,hK⟩
  ·cases h
 ·cases h
theorem zT{op:Op}(h:gr P s fr op=some (v,Δ,rd))(hK:K v Δ rd):Ls P s fr op K:=by
 cases op<;>simp only[gr]at h<;>simp only[Ls]<;>try (cases h;done)
 case move x=>have h:=kH h;simp only[Prod.mk.injEq]at h;obtain⟨rfl,rfl,rfl⟩:=h;exact hK
 case assign x=>have h:=kH h;simp only[Prod.mk.injEq]at h;obtain⟨rfl,rfl,rfl⟩:=h;exact hK
 case pick c a b=>
  obtain⟨x,h1,h⟩:=fK h;simp only[Prod.mk.injEq]at h;obtain⟨rfl,rfl,rfl⟩:=h
  exact Ci h1 hK
 case alloc t=>
  split at h
  ·rename_i cs hz;simp only[Option.some.injEq,Prod.mk.injEq]at h;obtain⟨rfl,rfl,rfl⟩:=h;exact⟨cs,hz,hK⟩
  ·cases h
 case box t x=>
  split at h
  ·rename_i cs hz;simp only[Option.some.injEq,Prod.mk.injEq]at h;obtain⟨rfl,rfl,rfl⟩:=h;exact⟨cs,hz,hK⟩
  ·cases h
 case build t parts=>
  obtain⟨x,h1,h⟩:=fK h;simp only[Prod.mk.injEq]at h;obtain⟨rfl,rfl,rfl⟩:=h
  unfold xH at h1
  split at h1
  ·rename_i z pl hz hp
   split at h1
   ·rename_i cs hc;injection h1 with h1;subst h1;exact⟨z,pl,cs,hz,hp,hc,hK⟩
   ·cases h1
  ·cases h1
 case buildSlice t len parts=>exact qI h hK
 case load t x=>exact Cj h hK
 case store t x y=>exact zS h hK
 case nilCheck x=>
  obtain⟨y,h1,h⟩:=fK h;simp only[Prod.mk.injEq]at h;obtain⟨rfl,rfl,rfl⟩:=h
  exact tG h1 hK
 case binOp op t x y yt=>
  unfold dB at h
  split at h
  ·rename_i z h1
   have h:=kH h;simp only[Prod.mk.injEq]at h;obtain⟨rfl,rfl,rfl⟩:=h
   exact .inl (Fb h1 hK)
  ·right;simp only[h,dm];exact hK
 case unOp op t x=>
  obtain⟨z,h1,h⟩:=fK h;simp only[Prod.mk.injEq]at h;obtain⟨rfl,rfl,rfl⟩:=h
  unfold zR at h1
  split at h1
  ·rename_i hx;injection h1 with h1;subst h1;exact .inr ⟨rfl,hx,hK⟩
  ·exact .inl (G2 h1 hK)
 case slice t x lo hi mx=>simp only[h,dm];exact hK
 case field t x f=>
  obtain⟨z,h1,h⟩:=fK h;simp only[Prod.mk.injEq]at h;obtain⟨rfl,rfl,rfl⟩:=h
  simp only[h1,dm,Option.map_some];exact hK
 case typeAssert x xt t ok=>
  obtain⟨z,h1,h⟩:=fK h;simp only[Prod.mk.injEq]at h;obtain⟨rfl,rfl,rfl⟩:=h
  simp only[h1,dm,Option.map_some];exact hK
 case makeMap t r=>
  cases r with
  |none=>simp only[h,dm];exact hK
  |some x=>cases h
 case lookup t m k ok=>simp only[h,dm];exact hK
 case mapUpdate t m k v=>simp only[h,dm];exact hK
 case insert t m k v=>simp only[h,dm];exact hK
 case index t x i=>
  obtain⟨z,h1,h⟩:=fK h;simp only[Prod.mk.injEq]at h;obtain⟨rfl,rfl,rfl⟩:=h
  simp only[h1,dm,Option.map_some];exact hK
 case convert u t x=>
  split at h
  ·rename_i d k k' n hu hk hx
   have h:=kH h;simp only[Prod.mk.injEq]at h;obtain⟨rfl,rfl,rfl⟩:=h
   exact⟨by rw[hu];rfl,by simp only[hk,hx];exact hK⟩
  ·cases h
 case makeInterface t x=>
  obtain⟨z,h1,h⟩:=fK h;simp only[Prod.mk.injEq]at h;obtain⟨rfl,rfl,rfl⟩:=h
  obtain⟨h2,rfl⟩:=qH h1
  refine⟨?_, ?_⟩
  ·unfold aD at h2
   cases hd:P.underlying t with
   |none=>simp[hd]at h2
   |some d=>exact⟨d,rfl,by cases d<;>simp_all⟩
  ·split
   ·rename_i y hy;simp only[hy]at hK;exact hK
   ·rename_i hy
    split at hK
    ·rename_i y ZL;exact absurd ZL (hy y)
    ·exact hK
 case makeFunc fn first cap=>have h:=kH h;simp only[Prod.mk.injEq]at h;obtain⟨rfl,rfl,rfl⟩:=h;exact hK
 case makeSlice t l c=>
  exact si h hK
 case fieldAddr t x f=>
  obtain⟨z,h1,h⟩:=fK h;simp only[Prod.mk.injEq]at h;obtain⟨rfl,rfl,rfl⟩:=h
  exact se h1 hK
 case indexAddr t x i=>
  exact sd h hK
 case extract x i=>
  split at h
  ·rename_i vs hv
   split at h
   ·rename_i u hu
    have h:=kH h;simp only[Prod.mk.injEq]at h;obtain⟨rfl,rfl,rfl⟩:=h
    simp only[hv];exact⟨_,hu,hK⟩
   ·cases h
  ·cases h
 case call c=>
  obtain⟨GM,args,ts⟩:=c
  cases GM<;>simp only at h|- <;>try (cases h;done)
  rename_i b
  unfold pT at h
  unfold tc
  split at h
  ·rename_i x ha
   simp only[ha]
   split at h
   ·rename_i t BW;exact⟨t,BW,Fc h hK⟩
   ·cases h
  ·rename_i x y ha
   simp only[ha]
   exact xI h hK
  ·rename_i x y ha
   simp only[ha]
   obtain⟨z,h1,h⟩:=fK h;simp only[Prod.mk.injEq]at h;obtain⟨rfl,rfl,rfl⟩:=h
   exact pU h1 hK
  ·rename_i x y ha
   simp only[ha]
   obtain⟨z,h1,h⟩:=fK h;simp only[Prod.mk.injEq]at h;obtain⟨rfl,rfl,rfl⟩:=h
   exact pU h1 hK
  ·rename_i x y z ha
   simp only[ha]
   obtain⟨v0,h1,h⟩:=fK h;simp only[Prod.mk.injEq]at h;obtain⟨rfl,rfl,rfl⟩:=h
   simp only[h1,dm,Option.map_some];exact hK
  ·rename_i x y ha
   simp only[ha,h,dm];exact hK
  ·rename_i x y ha
   simp only[ha]
   split at h
   ·rename_i t ht;exact⟨t,ht,by simp only[h,dm];exact hK⟩
   ·cases h
  ·cases h
 case range t x=>simp only[h,dm];exact hK
 case next x str=>left;simp only[h,dm];exact hK
 case entry x=>simp only[h,dm];exact hK
end
end Go.Proofs.YtealblliddhgiaaGreat
namespace Go.Proofs.YtealblliddhgiaaGreat
def tH(P:Program)(g:FuncId)(ds:List D)(o o1 oa:Nat->ae)(K:V->(Nat->ae)->Prop)(X:V->(Nat->ae)->Prop):Prop:=
 ∃out,bJ P g ds out/\((match out with| .ret rs=>K (gS rs) o1| .bG x=>X (.d x) o1)\/(out.flat=true/\match out with| .ret rs=>K (gS rs) o| .bG x=>X (.d x) o)\/(out.mO=true/\match out with| .ret rs=>K (gS rs) oa| .bG x=>X (.d x) oa))
def rE(P:Program)(g:FuncId)(args:List V)(o:Nat->ae)(nx:Nat)(K:V->(Nat->ae)->Nat->Prop)(X:V->(Nat->ae)->Nat->Prop):Prop:=mQ P g args o nx K X
theorem mQ.mono {P:Program}{g:FuncId}{args:List V}{o:Nat->ae}{nx:Nat}{K X K' X':V->(Nat->ae)->Nat->Prop}(hK:∀v o n,K v o n->K' v o n)(hX:∀v o n,X v o n->X' v o n)(h:mQ P g args o nx K X):mQ P g args o nx K' X':=
 h.imp (dX.mono hK hX) (dX.mono hK hX)
@[congr] theorem LN {P:Program} {g g':FuncId} {ds Rq:List D} {o o1 oa:Nat->ae} {K X} (h:g=g') (h':ds=Rq):tH P g ds o o1 oa K X=tH P g' Rq o o1 oa K X:=by subst h;subst h';rfl
@[congr] theorem LO {P:Program} {g g':FuncId} {cd Rr:List V} {o:Nat->ae} {nx:Nat} {K X} (h:g=g') (h':cd=Rr):rE P g cd o nx K X=rE P g' Rr o nx K X:=by subst h;subst h';rfl
def LP(P:Program)(g:FuncId)(args:List V)(o:Nat->ae)(nx:Nat)(K X:V->(Nat->ae)->Nat->Prop):Prop:=
 (∃ds,cc o args=some ds/\tH P g ds o (put o (cQ o (V.bf args))) (put o (qs o (V.bf args))) (fun v o'=>K v o' (nx+1)) (fun v o'=>X v o' (nx+1)))\/dX P g args o nx K X
def Gc(P:Program)(s:S)(o:cg)(X:V->S->Prop)(K:S->Prop):Prop:=
 match o.op with
 | .call c=>match c.callee with
   | .value f=>match s.ev f with
     | .func (.func g) first cap=>match cc s.o (first++c.args.toList.map s.ev++cap)with
       |some ds=>tH P g ds s.o (put s.o (cQ s.o (V.bf (first++c.args.toList.map s.ev++cap)))) (put s.o (qs s.o (V.bf (first++c.args.toList.map s.ev++cap)))) (fun v o'=>K ⟨a8 s.env o.dst v,o',s.nx+1⟩) (fun v o'=>X v ⟨s.env,o',s.nx+1⟩)\/
        rE P g (first++c.args.toList.map s.ev++cap) s.o s.nx (fun v o' nx'=>K ⟨a8 s.env o.dst v,o',nx'⟩) (fun v o' nx'=>X v ⟨s.env,o',nx'⟩)
       |none=>rE P g (first++c.args.toList.map s.ev++cap) s.o s.nx (fun v o' nx'=>K ⟨a8 s.env o.dst v,o',nx'⟩) (fun v o' nx'=>X v ⟨s.env,o',nx'⟩)
     | .kV id=>dJ P id (c.args.toList.map s.ev) s.o s.nx (fun v o' nx'=>K ⟨a8 s.env o.dst v,o',nx'⟩) (fun v o' nx'=>X v ⟨s.env,o',nx'⟩)
     |_=>False
   | .invoke r m=>match rC P m (s.ev r)with
     |some (g,y)=>LP P g (y::c.args.toList.map s.ev) s.o s.nx (fun v o' nx'=>K ⟨a8 s.env o.dst v,o',nx'⟩) (fun v o' nx'=>X v ⟨s.env,o',nx'⟩)
     |none=>False
   |_=>match gr P s s.nx o.op with
    |some (v,Δ,_)=>K ⟨a8 s.env o.dst v,put s.o Δ,s.nx+1⟩
    |none=>False
 | .panic x=>match s.ev x with
   | .d (.iface t y)=>X (.d (.iface t y)) s
   | .iface t y=>X (.iface t y) s
   |_=>False
 | .next x str=>match nZ s.o (s.ev x)with
   |some (id,l)=>str=false/\Df id l fun v Δ _=>K ⟨a8 s.env o.dst v,put s.o Δ,s.nx+1⟩
   |none=>match gr P s s.nx o.op with
    |some (v,Δ,_)=>K ⟨a8 s.env o.dst v,put s.o Δ,s.nx+1⟩
    |none=>False
 |op=>match gr P s s.nx op with
  |some (v,Δ,_)=>K ⟨a8 s.env o.dst v,put s.o Δ,s.nx+1⟩
  |none=>False
def oK(P:Program)(X:V->S->Prop)(K:S->Prop):List cg->S->Prop
 |[],s=>K s
 |o::l,s=>match o.gd with
  |none=>Gc P s o X (oK P X K l)
  |some (d,want)=>match s.env d with
   | .d (.bool b)=>if b=want then Gc P s o X (oK P X K l)else oK P X K l ⟨a8 s.env o.dst (.bS []),s.o,s.nx+1⟩
   | .bS []=>oK P X K l ⟨a8 s.env o.dst (.bS []),s.o,s.nx+1⟩
   |_=>False
def G3(b:Nat)(body:(fy->S->Prop)->S->Prop)(Q:fy->S->Prop)(s:S):Prop:=
 ∃ (J:Nat->S->Prop),(∃m s1,bW b s s1/\J m s1)/\∀m s0,J m s0->body (fun e s=>match e with| .normal=>∃m' s1,m'<m/\bW b s s1/\J m' s1|e=>Q e s) s0
@[congr] theorem LQ {b:Nat} {body Q} {s s':S} (h:s=s'):G3 b body Q s=G3 b body Q s':=by subst h;rfl
def pV(t:Bool)(A B:Prop):Prop:=(t=true->A)/\(t=false->B)
@[congr] theorem LR {t t':Bool} {A B:Prop} (h:t=t'):pV t A B=pV t' A B:=by subst h;rfl
@[simp] theorem tI (A B:Prop):pV true A B=A:=by simp[pV]
@[simp] theorem rF (A B:Prop):pV false A B=B:=by simp[pV]
section
variable {P:Program}{n b:Nat}
theorem Dw{s:S}{o:cg}{o':Oper}{X X':V->S->Prop}{K K':S->Prop}(dD:o'.op=o.op)(cK:o'.dst=o.dst)(hd:gA n o'.dst)(hK:∀s,K s->K' s)(hX:∀v s,X v s->X' v s)(h:Gc P s o X K):Ww P n s o' X' K':=by
 refine⟨hd, ?_⟩
 rw[cK,dD]
 unfold Gc at h
 have hs:∀ {op:Op},(match gr P s s.nx op with|some (v,Δ,_)=>K ⟨a8 s.env o.dst v,put s.o Δ,s.nx+1⟩|none=>False)->Ls P s s.nx op fun v Δ _=>K' ⟨a8 s.env o.dst v,put s.o Δ,s.nx+1⟩:=by
  intro op h
  split at h
  ·rename_i v Δ rd he;exact zT he (hK _ h)
  ·exact h.elim
 split at h
 ·rename_i c hc
  split at h
  ·rename_i f dY
   simp only[hc,dY]
   split at h
   ·rename_i g first cap hf
    unfold zF
    simp only[hf]
    unfold tt
    split at h
    ·rename_i ds eP
     rcases h with⟨out,hP,h|⟨o9,h⟩|⟨o9,h⟩⟩|h
     ·refine .inl ⟨ds,out,eP,hP, ?_⟩
      cases out<;>first|exact hK _ h|exact hX _ _ h
     ·refine .inr (.inl ⟨ds,out,eP,hP,o9, ?_⟩)
      cases out<;>first|exact hK _ h|exact hX _ _ h
     ·refine .inr (.inr (.inl ⟨ds,out,eP,hP,o9, ?_⟩))
      cases out<;>first|exact hK _ h|exact hX _ _ h
     ·exact .inr (.inr (.inr (mQ.mono (fun v o n h=>hK _ h) (fun v o n h=>hX _ _ h) h)))
    ·exact .inr (.inr (.inr (mQ.mono (fun v o n h=>hK _ h) (fun v o n h=>hX _ _ h) h)))
   ·rename_i id hf
    unfold zF
    simp only[hf]
    exact dJ.mono (fun v o n h=>hK _ h) (fun v o n h=>hX _ _ h) h
   ·exact h.elim
  ·rename_i r m dY
   simp only[hc,dY]
   split at h
   ·rename_i g y hr
    simp only[hr]
    unfold tt
    rcases h with⟨ds,eP,out,hP,h|⟨o9,h⟩|⟨o9,h⟩⟩|h
    ·refine .inl ⟨ds,out,eP,hP, ?_⟩
     cases out<;>first|exact hK _ h|exact hX _ _ h
    ·refine .inr (.inl ⟨ds,out,eP,hP,o9, ?_⟩)
     cases out<;>first|exact hK _ h|exact hX _ _ h
    ·refine .inr (.inr (.inl ⟨ds,out,eP,hP,o9, ?_⟩))
     cases out<;>first|exact hK _ h|exact hX _ _ h
    ·exact .inr (.inr (.inr (.inl (dX.mono (fun v o n h=>hK _ h) (fun v o n h=>hX _ _ h) h))))
   ·exact h.elim
  ·rename_i dY hinv
   rw[hc]at h|-
   obtain⟨GM,args,ts⟩:=c
   cases GM with
   |value f=>exact absurd rfl (dY f)
   |invoke r m=>exact absurd rfl (hinv r m)
   |_=>exact hs h
 ·rename_i x hx
  simp only[hx]
  split at h
  ·rename_i hv;simp only[hv];exact hX _ _ h
  ·rename_i hv;simp only[hv];exact hX _ _ h
  ·exact h.elim
 ·rename_i x str hx
  rw[hx]at h|-
  split at h
  ·rename_i id l hl
   exact .inr ⟨h.1,id,l,hl,fun e=>hK _ (h.2.1 e),fun i k x e=>hK _ (h.2.2 i k x e)⟩
  ·exact hs h
 ·rename_i hc hp qE
  have h2:=hs h
  cases hh:o.op<;>first
   |exact absurd hh (hc _)
   |exact absurd hh (hp _)
   |exact absurd hh (qE _ _)
   |(rw[hh]at h2;exact h2)
theorem jq{ops:Array Oper}{X X':V->S->Prop}{K K':S->Prop}(hK:∀s,K s->K' s)(hX:∀v s,X v s->X' v s):∀ (l:List Oper) (l':List cg) (s:S),kU n ops l=some l'->oK P X K l' s->xA P n ops X' K' l s
 |[],l',s,h,hr=>by simp[kU]at h;subst h;exact hK _ hr
 |o::l,l',s,h,hr=>by
  simp only[kU]at h
  split at h
  ·rename_i x xs hx Je
   injection h with h;subst h
   unfold Gh at hx
   split at hx
   ·rename_i hd
    have cK:gA n o.dst:=by
     unfold BO at hd;unfold gA
     split at hd<;>simp_all
    simp only[xA,xz]
    cases hg:o.guard with
    |none=>
     simp only[hg]at hx
     injection hx with hx;subst hx
     exact Dw rfl rfl cK (fun s hs=>jq hK hX l xs s Je hs) hX hr
    |some p=>
     obtain⟨j,want⟩:=p
     simp only[hg]at hx
     cases LS:rn ops j with
     |none=>simp[LS]at hx
     |some d=>
      simp only[LS]at hx
      injection hx with hx;subst hx
      simp only
      simp only[oK]at hr
      split at hr
      ·rename_i t ht
       simp only[LS,ht]
       split at hr
       ·rename_i e
        exact⟨fun _=>Dw rfl rfl cK (fun s hs=>jq hK hX l xs s Je hs) hX hr,fun h=>absurd e h⟩
       ·rename_i e
        exact⟨fun h=>absurd h e,fun _=>⟨cK,jq hK hX l xs _ Je hr⟩⟩
      ·rename_i ht
       simp only[LS,ht]
       exact⟨cK,jq hK hX l xs _ Je hr⟩
      ·exact hr.elim
   ·cases hx
  ·cases h
end
end Go.Proofs.YtealblliddhgiaaGreat
namespace Go.Proofs.YtealblliddhgiaaGreat
mutual
def V.refs:V->List Nat
 | .ptr id _=>[id]| .osl id _=>[id]| .pe id _ _ _ _=>[id]| .sX id _ _=>[id]| .mp id=>[id]| .kV id=>[id]
 | .agg cs=>V.ag cs
 | .bS cs=>V.ag cs
 | .func _ a b=>V.ag a++V.ag b
 | .iface _ x=>x.refs
 |_=>[]
def V.ag:List V->List Nat
 |[]=>[]
 |v::vs=>v.refs++V.ag vs
end
mutual
theorem jG:∀ (v:V),∀id∈v.ids,id∈v.refs
 | .osl id _,j,h=>by simpa[V.ids,V.refs]using h
 | .agg cs,j,h=>by simp only[V.ids]at h;simp only[V.refs];exact jH cs j h
 | .iface _ x,j,h=>by simp only[V.ids]at h;simp only[V.refs];exact jG x j h
 | .mp _,j,h=>by simpa[V.ids,V.refs]using h
 | .d _,_,h| .bn,_,h| .bS _,_,h| .ptr _ _,_,h| .pe _ _ _ _ _,_,h| .pp _ _,_,h| .func _ _ _,_,h| .ab,_,h| .ox _,_,h| .sX _ _ _,_,h| .eZ,_,h| .kV _,_,h=>by simp[V.ids]at h
theorem jH:∀ (vs:List V),∀id∈V.bf vs,id∈V.ag vs
 |[],j,h=>by simp[V.bf]at h
 |v::vs,j,h=>by
  simp only[V.bf,V.ag,List.mem_append]at h|-
  exact h.imp (jG v j) (jH vs j)
end
mutual
theorem dn{o o':Nat->ae}:∀ (v:V),(∀id∈v.refs,o' id=o id)->dO o' v=dO o v
 | .osl id ep,h=>by simp only[dO,h id (by simp[V.refs])]
 | .mp id,h=>by simp only[dO,h id (by simp[V.refs])]
 | .agg cs,h=>by simp only[dO,ig cs (by simpa[V.refs]using h)]
 | .iface t x,h=>by simp only[dO,dn x (by simpa[V.refs]using h)]
 | .d _,_| .bn,_| .bS _,_| .ptr _ _,_| .pe _ _ _ _ _,_| .pp _ _,_| .func _ _ _,_| .ab,_| .ox _,_| .sX _ _ _,_| .eZ,_| .kV _,_=>by simp only[dO]
theorem ig{o o':Nat->ae}:∀ (vs:List V),(∀id∈V.ag vs,o' id=o id)->cc o' vs=cc o vs
 |[],_=>rfl
 |v::vs,h=>by
  simp only[cc,dn v (fun id ax=>h id (by simp[V.ag,ax])),ig vs (fun id ax=>h id (by simp[V.ag,ax]))]
end
theorem gf{o o':Nat->ae}{ids:List Nat}(h:∀id∈ids,o' id=o id):cQ o' ids=cQ o ids:=by
 rw[lT,lT]
 exact List.map_congr_left fun id ax=>by rw[h id ax]
def jr(s:S)(op:Op):List Nat:=
 match op with
 | .load _ x=>(s.ev x).refs
 | .nilCheck x=>(s.ev x).refs
 | .fieldAddr _ x _=>(s.ev x).refs
 | .indexAddr _ x _=>(s.ev x).refs
 | .store _ x v=>(s.ev x).refs++(s.ev v).refs
 | .buildSlice _ _ parts=>V.ag (parts.toList.map fun p=>s.ev p.2)
 | .binOp _ _ x y _=>(s.ev x).refs++(s.ev y).refs
 | .slice _ x _ _ _=>(s.ev x).refs
 | .lookup _ m k _=>(s.ev m).refs++(s.ev k).refs
 | .mapUpdate _ m k v=>(s.ev m).refs++((s.ev k).refs++(s.ev v).refs)
 | .insert _ m k v=>(s.ev m).refs++((s.ev k).refs++(s.ev v).refs)
 | .range _ x=>(s.ev x).refs
 | .next x _=>(s.ev x).refs
 | .entry x=>(s.ev x).refs
 | .call c=>match c.callee with
   | .builtin _=>V.ag (c.args.toList.map s.ev)
   | .value f=>match s.ev f with
     | .func _ first cap=>V.ag (first++c.args.toList.map s.ev++cap)
     |_=>[]
   |_=>[]
 |_=>[]
section
variable {P:Program}{s s':S}{fr:Nat}
theorem rG{o o':Nat->ae}(v:V)(h:∀id∈v.refs,o' id=o id):pQ o' v=pQ o v:=by
 cases v with
 |osl id ep=>simp only[pQ,h id (by simp[V.refs])]
 |d x=>cases x<;>rfl
 |_=>rfl
theorem rH{o o':Nat->ae}(v:V)(q:Nat)(h:∀id∈v.refs,o' id=o id):n9 o' v q=n9 o v q:=by
 cases v<;>simp only[n9]<;>rw[h _ (by simp[V.refs])]
theorem Ck{o o':Nat->ae}(v:V)(h:∀id∈v.refs,o' id=o id):ze o' v=ze o v:=by
 have h1:eR o' v=eR o v:=by unfold eR;rw[dn v h]
 cases v<;>first|rfl|simp only[ze,h1]
theorem xJ{o o':Nat->ae}(v:V)(h:∀id∈v.refs,o' id=o id):qv o' v=qv o v:=by
 cases v with
 |mp id=>simp only[qv,h id (by simp[V.refs])]
 |d x=>cases x<;>rfl
 |_=>rfl
theorem xK{o o':Nat->ae}(v:V)(h:∀id∈v.refs,o' id=o id):qw o' v=qw o v:=by
 cases v with
 |ptr id off=>simp only[qw,h id (by simp[V.refs])]
 |d x=>cases x<;>rfl
 |_=>rfl
theorem mV{o o':Nat->ae}(v:V)(h:∀id∈v.refs,o' id=o id):nX o' v=nX o v:=by
 cases v with
 |mp id=>simp only[nX,h id (by simp[V.refs])]
 |d x=>cases x<;>rfl
 |_=>rfl
theorem zU{o o':Nat->ae}(v:V)(h:∀id∈v.refs,o' id=o id):pq o' v=pq o v:=by
 cases v with
 |mp id=>simp only[pq,h id (by simp[V.refs])]
 |d x=>cases x<;>rfl
 |_=>rfl
theorem zV{o o':Nat->ae}(v:V)(str:Bool)(h:∀id∈v.refs,o' id=o id):nY o' v str=nY o v str:=by
 cases v with
 |ptr id off=>cases off<;>simp only[nY,h id (by simp[V.refs])]
 |_=>rfl
theorem xL{o o':Nat->ae}(v:V)(h:∀id∈v.refs,o' id=o id):mI o' v=mI o v:=by
 cases v with
 |ptr id off=>cases off<;>simp only[mI,h id (by simp[V.refs])]
 |_=>rfl
theorem xM{o o':Nat->ae}{fr:Nat}{t:TypeId}{P:Program}(v:V)(h:∀id∈v.refs,o' id=o id):mH P o' fr t v=mH P o fr t v:=by
 unfold mH
 cases v with
 |mp id=>simp only[h id (by simp[V.refs])]
 |d x=>cases x<;>rfl
 |_=>rfl
theorem xN{o o':Nat->ae}(v:V)(h:∀id∈v.refs,o' id=o id):oz o' v=oz o v:=by
 cases v with
 |ptr id off=>simp only[oz,h id (by simp[V.refs])]
 |_=>rfl
theorem xO{o o':Nat->ae}(v:V)(h:∀id∈v.refs,o' id=o id):oA o' v=oA o v:=by
 cases v with
 |sX id off n=>simp only[oA,h id (by simp[V.refs])]
 |_=>rfl
theorem Cl(op:Op)(hv:∀x∈op.operands,s'.ev x=s.ev x)(ho:∀id∈jr s op,s'.o id=s.o id):gr P s' fr op=gr P s fr op:=by
 cases op<;>simp only[gr]
 case move x=>rw[hv x (by simp[Op.operands])]
 case assign x=>rw[hv x (by simp[Op.operands])]
 case pick c a b=>rw[hv c (by simp[Op.operands]),hv a (by simp[Op.operands]),hv b (by simp[Op.operands])]
 case box t x=>rw[hv x (by simp[Op.operands])]
 case build t parts=>
  have:(parts.toList.map fun p=>(p.1,s'.ev p.2))=parts.toList.map fun p=>(p.1,s.ev p.2):=
   List.map_congr_left fun p hp=>by rw[hv p.2 (by simp only[Op.operands];simp;exact⟨p.1,by simpa using hp⟩)]
  rw[this]
 case buildSlice t len parts=>
  have:(parts.toList.map fun p=>(p.1,s'.ev p.2))=parts.toList.map fun p=>(p.1,s.ev p.2):=
   List.map_congr_left fun p hp=>by rw[hv p.2 (by simp only[Op.operands];simp;exact⟨p.1,by simpa using hp⟩)]
  rw[this]
  have e:(parts.toList.map fun p=>(p.1,s.ev p.2)).map (·.2)=parts.toList.map fun p=>s.ev p.2:=by simp[Function.comp_def]
  have h1:cc s'.o ((parts.toList.map fun p=>(p.1,s.ev p.2)).map (·.2))=cc s.o ((parts.toList.map fun p=>(p.1,s.ev p.2)).map (·.2)):=ig _ (by rw[e];exact ho)
  have h2:cQ s'.o (V.bf ((parts.toList.map fun p=>(p.1,s.ev p.2)).map (·.2)))=cQ s.o (V.bf ((parts.toList.map fun p=>(p.1,s.ev p.2)).map (·.2))):=
   gf fun id ax=>ho id (by rw[e]at ax;exact jH _ id ax)
  simp only[fZ,h1,h2]
 case load t x=>
  rw[hv x (by simp[Op.operands])]
  cases hx:s.ev x<;>simp only[mU]<;>rw[ho _ (by simp[jr,hx,V.refs])]
 case store t x y=>
  rw[hv x (by simp[Op.operands]),hv y (by simp[Op.operands])]
  have h1:dO s'.o (s.ev y)=dO s.o (s.ev y):=dn _ fun id ax=>ho id (by simp[jr,ax])
  have h2:cQ s'.o (s.ev y).ids=cQ s.o (s.ev y).ids:=gf fun id ax=>ho id (by simp[jr,jG _ _ ax])
  cases hx:s.ev x<;>simp only[qG]<;>rw[ho _ (by simp[jr,hx,V.refs])]
  simp only[h1,h2]
 case nilCheck x=>
  rw[hv x (by simp[Op.operands])]
  cases hx:s.ev x with
  |ptr id off=>simp only[jo];rw[ho _ (by simp[jr,hx,V.refs])]
  |func fn a b=>cases fn<;>rfl
  |_=>rfl
 case binOp op t x y yt=>
  rw[hv x (by simp[Op.operands]),hv y (by simp[Op.operands])]
  have h1:ze s'.o (s.ev x)=ze s.o (s.ev x):=Ck _ fun id ax=>ho id (by simp[jr,ax])
  have h2:∀a b,BQ P s'.o a b (s.ev x) (s.ev y)=BQ P s.o a b (s.ev x) (s.ev y):=fun a b=>by
   have h3:∀id∈(s.ev x).refs,s'.o id=s.o id:=fun id ax=>ho id (by simp[jr,ax])
   have h4:=xJ (s.ev x) h3
   have h5:=xK (s.ev x) h3
   unfold BQ
   rw[h1,h4,h5]
  unfold dB qx
  simp only[h2]
 case slice t x lo hi mx=>
  rw[hv x (by simp[Op.operands])]
  have e1:lo.map s'.ev=lo.map s.ev:=by cases lo<;>simp[hv,Op.operands]
  have e2:hi.map s'.ev=hi.map s.ev:=by cases hi<;>simp[hv,Op.operands]
  have e3:mx.map s'.ev=mx.map s.ev:=by cases mx<;>simp[hv,Op.operands]
  rw[e1,e2,e3]
  have h3:∀id∈(s.ev x).refs,s'.o id=s.o id:=fun id ax=>ho id (by simp[jr,ax])
  have h1:eR s'.o (s.ev x)=eR s.o (s.ev x):=by unfold eR;rw[dn _ h3]
  have h2:cQ s'.o (s.ev x).ids=cQ s.o (s.ev x).ids:=gf fun id ax=>h3 id (jG _ _ ax)
  unfold qt
  simp only[h1,h2,xN _ h3]
 case field t x f=>rw[hv x (by simp[Op.operands])]
 case typeAssert x xt t ok=>rw[hv x (by simp[Op.operands])]
 case makeMap t r=>cases r<;>rfl
 case lookup t m k ok=>
  rw[hv m (by simp[Op.operands]),hv k (by simp[Op.operands])]
  have h3:∀id∈(s.ev m).refs,s'.o id=s.o id:=fun id ax=>ho id (by simp[jr,ax])
  have h1:dO s'.o (s.ev k)=dO s.o (s.ev k):=dn _ fun id ax=>ho id (by simp[jr,ax])
  unfold iE
  simp only[h1,zU _ h3]
 case mapUpdate t m k v=>
  rw[hv m (by simp[Op.operands]),hv k (by simp[Op.operands]),hv v (by simp[Op.operands])]
  have h3:∀id∈(s.ev m).refs,s'.o id=s.o id:=fun id ax=>ho id (by simp[jr,ax])
  have h1:dO s'.o (s.ev k)=dO s.o (s.ev k):=dn _ fun id ax=>ho id (by simp[jr,ax])
  have h2:dO s'.o (s.ev v)=dO s.o (s.ev v):=dn _ fun id ax=>ho id (by simp[jr,ax])
  have h4:cQ s'.o (s.ev v).ids=cQ s.o (s.ev v).ids:=gf fun id ax=>ho id (by simp[jr,jG _ _ ax])
  unfold fI
  simp only[h1,h2,h4,mV _ h3]
 case insert t m k v=>
  rw[hv m (by simp[Op.operands]),hv k (by simp[Op.operands]),hv v (by simp[Op.operands])]
  have h3:∀id∈(s.ev m).refs,s'.o id=s.o id:=fun id ax=>ho id (by simp[jr,ax])
  have h1:dO s'.o (s.ev k)=dO s.o (s.ev k):=dn _ fun id ax=>ho id (by simp[jr,ax])
  have h2:dO s'.o (s.ev v)=dO s.o (s.ev v):=dn _ fun id ax=>ho id (by simp[jr,ax])
  have h4:cQ s'.o (s.ev v).ids=cQ s.o (s.ev v).ids:=gf fun id ax=>ho id (by simp[jr,jG _ _ ax])
  unfold fI
  simp only[h1,h2,h4,mV _ h3]
 case index t x i=>rw[hv x (by simp[Op.operands]),hv i (by simp[Op.operands])]
 case range t x=>
  rw[hv x (by simp[Op.operands])]
  exact xM _ fun id ax=>ho id (by simp[jr,ax])
 case next x str=>
  rw[hv x (by simp[Op.operands])]
  exact zV _ _ fun id ax=>ho id (by simp[jr,ax])
 case entry x=>
  rw[hv x (by simp[Op.operands])]
  exact xL _ fun id ax=>ho id (by simp[jr,ax])
 case unOp op t x=>rw[hv x (by simp[Op.operands])]
 case convert u t x=>rw[hv x (by simp[Op.operands])]
 case makeInterface t x=>rw[hv x (by simp[Op.operands])]
 case makeFunc fn first cap=>
  have h1:first.toList.map s'.ev=first.toList.map s.ev:=List.map_congr_left fun x hx=>hv x (by simp only[Op.operands];exact Array.mem_append.2 (.inl (Array.mem_toList_iff.1 hx)))
  have h2:cap.toList.map s'.ev=cap.toList.map s.ev:=List.map_congr_left fun x hx=>hv x (by simp only[Op.operands];exact Array.mem_append.2 (.inr (Array.mem_toList_iff.1 hx)))
  rw[h1,h2]
 case makeSlice t l c=>rw[hv l (by simp[Op.operands]),hv c (by simp[Op.operands])]
 case fieldAddr t x f=>
  rw[hv x (by simp[Op.operands])]
  simp only[hZ]
  cases cB P t f<;>simp only
  rw[rH _ _ (by simpa[jr]using ho)]
 case indexAddr t x i=>
  rw[hv x (by simp[Op.operands]),hv i (by simp[Op.operands])]
  have h1:∀q,n9 s'.o (s.ev x) q=n9 s.o (s.ev x) q:=fun q=>rH _ _ (by simpa[jr]using ho)
  simp only[hY,h1]
  cases hx:s.ev x with
  |osl id ep=>simp only[ho id (by simp[jr,hx,V.refs])]
  |d y=>cases y<;>rfl
  |_=>rfl
 case extract x i=>rw[hv x (by simp[Op.operands])]
 case call c=>
  obtain⟨GM,args,ts⟩:=c
  cases GM<;>simp only
  rename_i b
  unfold pT
  have hm:∀x∈args.toList,s'.ev x=s.ev x:=fun x hx=>hv x (by simp only[Op.operands,Call.operands];exact Array.mem_append.2 (.inr (Array.mem_toList_iff.1 hx)))
  have hr:∀x∈args.toList,∀id∈(s.ev x).refs,s'.o id=s.o id:=by
   intro x hx id ax
   refine ho id ?_
   simp only[jr]
   generalize args.toList=l at hx
   induction l with
   |nil=>cases hx
   |cons y l ih=>
    simp only[List.map_cons,V.ag,List.mem_append]
    rcases List.mem_cons.1 hx with rfl|hx
    ·exact .inl ax
    ·exact .inr (ih hx)
  split
  ·rename_i x ha
   rw[ha]at hm hr
   rw[hm x (by simp)]
   have h1:∀t,Cg P t s'.o (s.ev x)=Cg P t s.o (s.ev x):=fun t=>by simp only[Cg,rG _ (hr x (by simp))]
   simp only[h1]
  ·rename_i x y ha
   rw[ha]at hm hr
   rw[hm x (by simp),hm y (by simp)]
   simp only[pR,rG _ (hr y (by simp))]
   cases hx:s.ev x with
   |osl id ep=>simp only[hr x (by simp) id (by simp[hx,V.refs])]
   |_=>rfl
  ·rename_i x y ha
   rw[ha]at hm
   rw[hm x (by simp),hm y (by simp)]
  ·rename_i x y ha
   rw[ha]at hm
   rw[hm x (by simp),hm y (by simp)]
  ·rename_i x y z h;rw[hm x (by rw[h];simp),hm y (by rw[h];simp),hm z (by rw[h];simp)]
  ·rename_i x y ha
   rw[ha]at hm hr
   rw[hm x (by simp),hm y (by simp)]
   have h1:eR s'.o (s.ev y)=eR s.o (s.ev y):=by unfold eR;rw[dn _ (hr y (by simp))]
   have h2:cQ s'.o (s.ev y).ids=cQ s.o (s.ev y).ids:=gf fun id ax=>hr y (by simp) id (jG _ _ ax)
   unfold vI
   simp only[h1,h2,xO _ (hr x (by simp))]
  ·rename_i x y ha
   rw[ha]at hm hr
   rw[hm x (by simp),hm y (by simp)]
   have h1:dO s'.o (s.ev y)=dO s.o (s.ev y):=dn _ (hr y (by simp))
   have h2:=mV _ (hr x (by simp))
   simp only[nF,h1,h2]
  ·rfl
end
end Go.Proofs.YtealblliddhgiaaGreat
