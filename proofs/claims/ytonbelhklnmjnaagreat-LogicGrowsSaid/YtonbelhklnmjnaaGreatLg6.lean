/-
  A PART OF THE PROOF. Conditions: none.
-/
import Derived.Test.YtonbelhklnmjnaaGreatLg5
set_option linter.unusedSimpArgs false
set_option linter.unusedVariables false
namespace Go.Proofs.YtonbelhklnmjnaaGreat
section
variable {P:Program}{M:Nat->Prop}{φ:Place}{H:Hp}{w w':World}{cQ:Place}{H0:Hp}{w0:World}{n b:Nat}{s:S}{a:Act}{cx:Cx}{ro:Option Nat}{k:Nat}
theorem iN(hb:∀id,H0.us id->id<b)(tM:cx.rd=false->ro=none):∀ (c:Code) (Q:fN->S->Prop) (s:S) (φ:Place) (a:Act) (w:World),jG P n b cx.rd c Q s->cq M cQ H0 w0 n cx φ s a w->c.tl P ro (E4 M cQ H0 w0 n cx Q) a w:=by
 intro c
 induction c with
 |skip=>exact fun Q s φ a w h hs=>oW (k:=0) (wpIn_skip ⟨.normal,s,φ,h,hs,trivial⟩)
 |scope x ih=>exact fun Q s φ a w h hs=>xu (ih Q s φ a w h hs) (fun l a w ⟨xx,s',aO,hq,iE,hm⟩=>by cases xx<;>exact hm)
 |label l=>exact fun Q s φ a w h hs=>oW (k:=0) (wpIn_label ⟨.normal,s,φ,h,hs,trivial⟩)
 |exit id=>exact fun Q s φ a w h hs=>Bw ⟨.exit id,s,φ,h,hs,rfl⟩
 |ret=>exact fun Q s φ a w h hs=>E5 ⟨.ret,s,φ,h,hs,trivial⟩
 |goto l=>exact fun Q s φ a w h hs=>h.elim
 |refuse y=>exact fun Q s φ a w h hs=>h.elim
 |rangeFunc g ps x y=>
  intro Q s φ a w h hs
  obtain⟨h1,s',hle,h2⟩:=h
  rcases hle with rfl|hle
  ·exact xz hs h1 (tM h1) h2
  ·obtain⟨aO,iE⟩:=DJ hb hs hle
   exact xz iE h1 (tM h1) h2
 |region id ops draw=>
  intro Q s φ a w h hs
  cases draw with
  |true=>exact oW (h M cQ H0 w0 cx φ a w ro 0 hs)
  |false=>
   refine oW (k:=0) (wpIn_region_list (oV (K:=Q .normal) (X:=fun v s=>Q (.bR v) s) (fun s φ a w hk hs=>⟨.normal,s,φ,hk,hs,trivial⟩) (fun v s φ a w val hx hs hd=>⟨.bR v,s,φ,hx,hs,val,rfl,hd⟩) _ s φ a w h hs))
 |seq x y Nl Nn=>
  intro Q s φ a w h hs
  refine zj (im (Nl _ s φ a w h hs) ?_)
  rintro e a' w' ⟨xx,s',aO,hq,iE,hm⟩
  cases e<;>cases xx<;>first|(exact hm.elim)|skip
  ·exact Nn Q s' aO a' w' hq iE
  ·subst hm;exact⟨_,s',aO,hq,iE,rfl⟩
  ·exact⟨.ret,s',aO,hq,iE,trivial⟩
  ·exact⟨.bR _,s',aO,hq,iE,hm⟩
 |cond c x y Nl Nn=>
  intro Q s φ a w h hs
  simp only[jG]at h
  have hc:=mT (M:=M) (φ:=φ) (H:=s.H) (w:=w) s a hs.env c
  split at h
  ·rename_i t hv
   rw[hv]at hc
   simp only[V.den,D.den]at hc
   cases t with
   |true=>exact qe hc (Nl Q s φ a w (h.1 rfl) hs)
   |false=>exact qe hc (Nn Q s φ a w (h.2 rfl) hs)
  ·rename_i hv
   rw[hv]at hc
   obtain⟨t,hc⟩:=hc
   cases t with
   |true=>exact qe hc (Nl Q s φ a w h.1 hs)
   |false=>exact qe hc (Nn Q s φ a w h.2 hs)
  ·exact h.elim
 |block id x ih=>
  intro Q s φ a w h hs
  refine GZ (im (ih _ s φ a w h hs) ?_)
  rintro e a' w' ⟨xx,s',aO,hq,iE,hm⟩
  cases e<;>cases xx<;>first|(exact hm.elim)|skip
  ·exact⟨.normal,s',aO,hq,iE,trivial⟩
  ·subst hm
   simp only[Exit.inBlock]
   simp only[fO]at hq
   split
   ·rename_i he;rw[if_pos he]at hq;exact⟨.normal,s',aO,hq,iE,trivial⟩
   ·rename_i he;rw[if_neg he]at hq;exact⟨.exit _,s',aO,hq,iE,rfl⟩
  ·exact⟨.ret,s',aO,hq,iE,trivial⟩
  ·exact⟨.bR _,s',aO,hq,iE,hm⟩
 |loop x ih=>
  intro Q s φ a w h hs
  obtain⟨J,⟨m0,s1,hle,hI⟩,mc⟩:=h
  obtain⟨jv,xA⟩:=DJ hb hs hle
  refine zl (fun m a w=>∃s φ,J m s/\cq M cQ H0 w0 n cx φ s a w) ?_ m0 a w ⟨s1,jv,hI,xA⟩
  rintro m a w ⟨s,φ,hI,hs⟩
  refine im (ih _ s φ a w (mc m s hI) hs) ?_
  rintro e a' w' ⟨xx,s',aO,hq,iE,hm⟩
  cases e<;>cases xx<;>first|(exact hm.elim)|skip
  ·obtain⟨m2,s2,cU,X5,JA⟩:=hq
   obtain⟨G0,Mo⟩:=DJ hb iE X5
   exact⟨m2,cU,s2,G0,JA,Mo⟩
  ·subst hm;exact⟨_,s',aO,hq,iE,rfl⟩
  ·exact⟨.ret,s',aO,hq,iE,trivial⟩
  ·exact⟨.bR _,s',aO,hq,iE,hm⟩
def JB(tmps:Array Value)(r:ResultVar):Sem Value:=
 match r with
 | .tmp t=>pure (tmps.getD t undef)
 | .cell p t=>do loadVar t (<- asAddr (tmps.getD p undef))
theorem tN(qf:aC M φ s.H w)(eG:∀i,V.den (ax M φ s.H) φ s.H w (s.env i) (a.tmps.getD i undef)):∀ (rs:List ResultVar) (vs:List V),l8 P s rs=some vs->
 ∃vals,(rs.mapM (JB a.tmps)).run P w= .ok vals w/\V.aM (ax M φ s.H) φ s.H w vs vals
 |[],vs,h=>by simp[l8]at h;subst h;exact⟨[],aj,rfl⟩
 | .tmp t::rs,vs,h=>by
   simp only[l8,Option.map_eq_some_iff]at h
   obtain⟨us,h1,rfl⟩:=h
   obtain⟨vals,h2,h3⟩:=tN qf eG rs us h1
   exact⟨a.tmps.getD t undef::vals,by simp only[List.mapM_cons,JB,Sem.run_bind,Sem.run_pure,Result.andThen_ok,h2],_,_,rfl,eG t,h3⟩
 | .cell p t::rs,vs,h=>by
   simp only[l8]at h
   split at h
   ·rename_i id off hv
    split at h
    ·rename_i cs ho
     simp only[Option.bind_eq_some_iff,Option.map_eq_some_iff]at h
     obtain⟨v,h0,us,h1,rfl⟩:=h
     obtain⟨vals,h2,h3⟩:=tN qf eG rs us h1
     have hx:=eG p
     rw[hv]at hx
     obtain⟨_,hu,hp⟩:=hx
     obtain⟨k,eW,fK⟩:=hp (by show(s.o id).cy=true;rw[ho];rfl)
     have bn:=qf.ok id
     have xB:s.H.o id= .row cs:=ho
     simp only[ba,xB]at bn
     obtain⟨b',dO,ty,g1,g2,g3,g4⟩:=bn
     rw[eW]at g1;simp at g1;subst g1
     obtain⟨val,h4,h5⟩:=pU (P:=P) h0 ⟨k,0,none⟩ dO.toList g3 g4 (fun j u hj=>pV g2 j u kW) rfl
     rw[add_plain,Nat.zero_add]at h4
     have h6:(loadVar t ⟨k,off,none⟩).run P w= .ok val w:=by simpa[Instr.loadAt,Instr.sureAddr]using h4
     exact⟨val::vals,by simp only[List.mapM_cons,JB,fK,asAddr,Sem.run_bind,Sem.run_pure,Result.andThen_ok,h6,h2],val,vals,rfl,h5,h3⟩
    ·cases h
   ·cases h
theorem nb{fn:Func}{tmps:Array Value}{vals:List Value}
 (h:(fn.results.toList.mapM (JB tmps)).run P w= .ok vals w):
 (results fn tmps).run P w= .ok (if h:vals.toArray.size=1 then vals.toArray[0]else .tuple vals.toArray) w:=by
 have e:results fn tmps=(do let vs <- fn.results.mapM (JB tmps);pure (if h:vs.size=1 then vs[0]else .tuple vs)):=by
  unfold results
  congr 2
 rw[e,Array.mapM_eq_mapM_toList]
 simp only[Sem.run_bind,Sem.run_map,h,Result.andThen_ok,Sem.run_pure]
theorem lI{us:Nat->Prop}(φ:Place)(hM:∀k,M k->k<w.heap.size):aC M φ ⟨fun _=> .no,us⟩ w where
 ok id:=by simp[ba]
 fresh _ _:=rfl
 apart i j k hi:=by simp[ab.live]at hi
 ours k:=by rintro⟨id,h,_⟩;simp[ab.live]at h
 AD:=hM
theorem G1{vals:Array Value}{m i:Nat}:(vals++Array.replicate m undef).getD i undef=(vals[i]?).getD undef:=by
 simp only[Array.getD_eq_getD_getElem?,Array.getElem?_append]
 split
 ·rfl
 ·rw[Array.getElem?_eq_none (xs:=vals) (by omega)]
  simp only[Array.getElem?_replicate]
  split<;>rfl
structure zm (M:Nat->Prop) (cQ:Place) (H0:Hp) (w0:World) (φ:Place) (s:S) (tmps:Array Value) (w:World):Prop where
 heap:aC M φ s.H w
 tr:Trans cQ H0 w0 φ s.H w
 env:∀i,V.den (ax M φ s.H) φ s.H w (s.env i) (tmps.getD i undef)
theorem G2{tmps:Array Value}(hs:zm M cQ H0 w0 φ s tmps w){r:Nat}(h1:w0.heap.size<=r)(h2:w.heap[r]? =some (.deferred (some [])))(h3: ¬de φ s.H r):
 zm M cQ H0 w0 φ s tmps {w with heap:=w.heap.setIfInBounds r (.deferred none)}:=by
 have iD:∀b,b≠r->(w.heap.setIfInBounds r (.deferred none))[b]? =w.heap[b]? :=fun b hb=>(MapKept.heap_set h2).2 b hb
 have yW:∀b,dt w b-> ¬ax M φ s.H b->(w.heap.setIfInBounds r (.deferred none))[b]? =w.heap[b]? /\ ¬ax M φ s.H b:=by
  intro b hc hn
  refine⟨iD b fun e=> ?_,hn⟩
  subst e
  rcases hc with⟨cs,ty,fz,hc⟩|⟨es,clock,hc⟩
  ·rw[h2]at hc;cases hc
  ·rw[h2]at hc;cases hc
 refine⟨⟨fun id=> ?_,hs.heap.fresh,hs.heap.apart,fun b hb=>⟨(hs.heap.ours b hb).1,by simpa using(hs.heap.ours b hb).2⟩,fun b hb=>by simpa using hs.heap.AD b hb⟩,⟨⟨hs.tr.cw.os,hs.tr.cw.tape,hs.tr.cw.output,by simpa using hs.tr.cw.size,fun j hj hm=> ?_⟩,hs.tr.grow,hs.tr.rel⟩,fun i=>V.lz yW (ej.refl _ _) _ _ (hs.env i)⟩
 ·exact ba.A4 yW (ej.refl _ _) rfl rfl (fun hl b hb=>iD b fun e=>h3 ⟨id,hl,e ▸ hb⟩) (hs.heap.ok id)
 ·rw[iD j (by omega)];exact hs.tr.cw.block j hj hm
theorem iq{fn:Func}{R:Ending->World->Prop}{u:FrameMode}(hu:u≠ .run){tmps tb:Array Value}{ds:List Deferred}(hR:∀w,zm M cQ H0 w0 φ s tb w->LeavesInM (ed none) k P fn tmps R ds u w):
 ∀ (ms:List Nat) (w:World),ms.Nodup->(∀r∈ms,w0.heap.size<=r/\w.heap[r]? =some (.deferred (some []))/\ ¬de φ s.H r)->zm M cQ H0 w0 φ s tb w->LeavesInM (ed none) k P fn tmps R (ms.map mark++ds) u w
 |[],w,_,_,hs=>hR w hs
 |r::ms,w,hn,hm,hs=>by
  obtain⟨h1,h2,h3⟩:=hm r aj
  obtain⟨G3,Mj⟩:=List.nodup_cons.1 hn
  refine⟨hu, .inl ⟨r,{w with heap:=w.heap.setIfInBounds r (.deferred none)},rfl, ?_,iq hu hR ms _ Mj (fun r' zb=> ?_) (G2 hs h1 h2 h3)⟩⟩
  ·simp[Instr.takeDeferred,getObj,setObj,Sem.run,h2,Result.andThen]
  ·obtain⟨g1,g2,g3⟩:=hm r' (by simp[zb])
   exact⟨g1,((MapKept.heap_set h2).2 r' (fun e=>G3 (e ▸ zb))).trans g2,g3⟩
theorem cq.toB (hs:cq M cQ H0 w0 n cx φ s a w):zm M cQ H0 w0 φ s a.tmps w:=⟨hs.heap,hs.tr,hs.env⟩
def me(P:Program)(rs:List ResultVar)(K X:V->(Nat->ab)->Nat->Prop)(e:fN)(s:S):Prop:=
 match e with
 | .normal| .ret=>match l8 P s rs with
   |some [v]=>K v s.o s.nx
   |some vs=>K (.ck vs) s.o s.nx
   |none=>False
 | .bR v=>X v s.o s.nx
 | .exit _=>False
theorem BA{P:Program}{rs:List ResultVar}{K X:V->(Nat->ab)->Nat->Prop}{s:S}(h:me P rs K X .ret s):∃vs,l8 P s rs=some vs/\K (match vs with|[v]=>v|vs=> .ck vs) s.o s.nx:=by
 unfold me at h
 simp only at h
 split at h
 ·rename_i v h1;exact⟨[v],h1,h⟩
 ·rename_i vs h1 h2
  refine⟨vs,h2, ?_⟩
  split
  ·exact absurd rfl (h1 _)
  ·exact h
 ·exact h.elim
theorem BB:∀ {vs:List V} {vals:List Value},V.aM (ax M φ H) φ H w vs vals->V.den (ax M φ H) φ H w (match vs with|[v]=>v|vs=> .ck vs) (if h:vals.toArray.size=1 then vals.toArray[0]else .tuple vals.toArray)
 |[],vals,h=>by simp only[V.aM]at h;subst h;exact⟨#[],rfl,rfl⟩
 |[v],vals,h=>by obtain⟨u,us,rfl,h1,h2⟩:=h;simp only[V.aM]at h2;subst h2;exact h1
 |v::y::l,vals,h=>by
  have h':=h
  obtain⟨u,us,rfl,h1,u2,us2,rfl,h2⟩:=h
  exact⟨(u::u2::us2).toArray,aj,by simpa using h'⟩
theorem uD{vals:Array Value}{m:Nat}{vs:List V}(hd:V.aM (ax M φ H) φ H w vs vals.toList)(i:Nat):V.den (ax M φ H) φ H w (cB vs i) ((vals++Array.replicate m undef).getD i undef):=by
 have hlen:=V.aH _ _ hd
 simp only[cB,G1]
 cases hx:vs[i]? with
 |none=>
  have:vals[i]? =none:=by
   rw[List.getElem?_eq_none_iff]at hx
   apply Array.getElem?_eq_none
   simp at hlen;omega
  simp only[List.getD_eq_getElem?_getD,hx,this]
  exact⟨#[],rfl,rfl⟩
 |some v=>
  obtain⟨u,hu,M4⟩:=V.dP _ _ _ _ hd hx
  have wD:vals[i]? =some u:=by simpa using hu
  simp only[List.getD_eq_getElem?_getD,hx,wD,Option.getD_some]
  exact M4
theorem ng{f:FuncId}{fn:Func}{c:Code}{args:Array Value}{w:World}{R:Ending->World->Prop}(hf:P.funcs[f]? =some fn)(hb:fn.body=some c)
 (h:c.tl P none (bodyPostM (ed none) k P fn R) {tmps:=args++Array.replicate (fn.ntmps - args.size) undef,defers:=[]} w):CallsIn (ed none) k P f args w R:=by
 have cU:f<P.funcs.size:=(Array.getElem?_eq_some_iff.1 hf).1
 refine⟨trivial,fun cs hr=> ?_⟩
 let b:Frame:={(default:Frame)with fn:=f,kind:= .normal,roundOf:=none}
 have mb:Frame.enter P f args .normal=b.atR {tmps:=args++Array.replicate (fn.ntmps - args.size) undef,defers:=[]} [.code c]:=by
  simp[Frame.enter,Frame.atR,hf,hb,b]
 obtain⟨e,a',w',hq,cM⟩:=h b [] cs rfl cU
 rw[<- mb]at cM
 cases e with
 |normal=>
  obtain⟨e',Ph,X6,hR,hs,GY,hl⟩:=leaves_stepsInM a'.defers .returning w' {b.atR a' []with mode:= .returning} cs rfl rfl rfl hf rfl (trivial:(ed none).fn f) hr hq
  exact⟨e',Ph,X6,hR,ComesIn.of_steps (StepsIn.trans cM (.one (fenced_calm (n:=0) (fr:=b.atR a' []) trivial il rfl) (stepR_end rfl))) hs,GY,hl⟩
 |ret=>
  obtain⟨todo,JC⟩:=cM.1 rfl
  obtain⟨e',Ph,X6,hR,hs,GY,hl⟩:=leaves_stepsInM a'.defers .returning w' {b.atR a' todo with mode:= .returning} cs rfl rfl rfl hf rfl (trivial:(ed none).fn f) hr hq
  exact⟨e',Ph,X6,hR,ComesIn.of_steps JC hs,GY,hl⟩
 |panic chain=>
  obtain⟨todo,JC⟩:=cM
  obtain⟨e',Ph,X6,hR,hs,GY,hl⟩:=leaves_stepsInM a'.defers (.panicking chain) w' {b.atR a' todo with mode:= .panicking chain} cs rfl rfl rfl hf rfl (trivial:(ed none).fn f) hr hq
  exact⟨e',Ph,X6,hR,ComesIn.of_steps JC hs,GY,hl⟩
 |exit id=>exact hq.elim
 |goto l=>exact hq.elim
 |outgrown=>exact⟨.outgrown,w',b,hq,cM.resolve_left (by simp[b]),rfl,trivial⟩
def DL(P:Program)(l:Nat)(R:Ending->World->Prop):Exit->Act->World->Prop
 | .normal,_,w=>∃v w',(Instr.endRound l none).run P w= .ok v w'/\R (.returned v) w'
 | .ret,_,w=>∃v w',(Instr.endRound l (some .ret)).run P w= .ok v w'/\R (.returned v) w'
 | .exit id,_,w=>∃v w',(Instr.endRound l (some (.exit id))).run P w= .ok v w'/\R (.returned v) w'
 | .goto _,_,_=>False
 | .panic chain,a,w=>a.defers=[]/\R (.panicked chain) w
 | .outgrown,_,_=>False
theorem uE{l:Nat}{f:FuncId}{tmps:Array Value}{assign body:Code}{w:World}{R:Ending->World->Prop}(hf:f<P.funcs.size)
 (h:assign.tl P (some l) (Exit.then (fun jL gC=>∃rC,(Instr.beginRound l).run P gC= .ok () rC/\body.tl P (some l) (DL P l R) jL rC) (fun e a w=>match e with| .panic chain=>a.defers=[]/\R (.panicked chain) w|_=>False))
  {tmps:=tmps,defers:=[]} w):
 RoundIn Fence.wide n P l f tmps assign body w R:=by
 refine⟨trivial,fun c cs hr=> ?_⟩
 let b:Frame:={(default:Frame)with fn:=f,kind:= .normal,roundOf:=some l}
 have Mp:Frame.round l f tmps assign body .normal=b.atR {tmps:=tmps,defers:=[]} [.code assign, .beginRound, .code body]:=by
  simp[Frame.round,Frame.atR,b]
 have calm:∀ (m:Machine),m.fenced P Fence.wide:=fun m=>fenced_wide P m
 have bR:∀ {a:Act} {w:World} {todo:List Item} {chain:List PanicEntry},a.defers=[]->step P (lone {b.atR a todo with mode:= .panicking chain} (c::cs) w)= .next (lone (c.raise chain) cs w):=by
  intro a w todo chain hd
  exact step_leave_panicked (fr:={b.atR a todo with mode:= .panicking chain}) ⟨rfl,hd,P.funcs[f],by show P.funcs[f]? =_;simp[hf]⟩
 obtain⟨e,jL,gC,hq,cM⟩:=h b [.beginRound, .code body] (c::cs) rfl hf
 rw[<- Mp]at cM
 cases e with
 |normal=>
  obtain⟨rC,hbr,qg⟩:=hq
  have s1:StepsIn (Machine.fenced P Fence.wide) P (lone (b.atR jL [.beginRound, .code body]) (c::cs) gC) (lone (b.atR jL [.code body]) (c::cs) rC):= .one (calm _) (stepR_beginRound rfl hbr)
  obtain⟨S4,X1,DH,qd,kO⟩:=qg b [] (c::cs) rfl hf
  have cM:StepsIn (Machine.fenced P Fence.wide) P _ _:=cM
  cases S4 with
  |normal=>
   obtain⟨v,tn,cN,hR⟩:=qd
   have kO:StepsIn (Machine.fenced P Fence.wide) P _ _:=kO
   exact⟨.returned v,tn,hR,(StepsIn.trans cM s1).trans (StepsIn.trans kO (.one (calm _) (stepR_round_end rfl rfl cN)))⟩
  |ret=>
   obtain⟨v,tn,cN,hR⟩:=qd
   obtain⟨k₁,hs⟩:=kO.2 rfl
   have hs:StepsIn (Machine.fenced P Fence.wide) P _ _:=hs
   exact⟨.returned v,tn,hR,(StepsIn.trans cM s1).trans (StepsIn.trans hs (.one (calm _) (stepR_round_ret rfl rfl cN)))⟩
  |exit id=>
   obtain⟨v,tn,cN,hR⟩:=qd
   obtain⟨k₁,hk,hs⟩:=kO.2 rfl rfl
   have hs:StepsIn (Machine.fenced P Fence.wide) P _ _:=hs
   exact⟨.returned v,tn,hR,(StepsIn.trans cM s1).trans (StepsIn.trans hs (.one (calm _) (stepR_round_exit rfl rfl hk cN)))⟩
  |goto t=>exact qd.elim
  |panic chain=>
   obtain⟨todo,hs⟩:=kO
   have hs:StepsIn (Machine.fenced P Fence.wide) P _ _:=hs
   exact⟨.panicked chain,DH,qd.2,(StepsIn.trans cM s1).trans (StepsIn.trans hs (.one (calm _) (bR qd.1)))⟩
  |outgrown=>exact qd.elim
 |exit id=>exact hq.elim
 |goto t=>exact hq.elim
 |ret=>exact hq.elim
 |panic chain=>
  obtain⟨todo,hs⟩:=cM
  have hs:StepsIn (Machine.fenced P Fence.wide) P _ _:=hs
  exact⟨.panicked chain,gC,hq.2,StepsIn.trans hs (.one (calm _) (bR hq.1))⟩
 |outgrown=>exact hq.elim
theorem cK.E8 {f:FuncId}{fn:Func}{c:Code}{args:List V}{o:Nat->ab}{nx:Nat}{K X:V->(Nat->ab)->Nat->Prop}(hf:P.funcs[f]? =some fn)(hn:(fn.name== "runtime.NumGoroutine")=false)(qg:fn.body=some c)(hl:args.length<=fn.ntmps)
 (h:jG P fn.ntmps nx false c (me P fn.results.toList K X) ⟨cB args,o,nx⟩):cK P f args o nx K X:=by
 refine⟨⟨fn,hf,hn,by rw[qg];rfl⟩,fun M φ w vals hH hd=> ?_⟩
 have hlen:=V.aH _ _ hd
 let s0:S:=⟨cB args,o,nx⟩
 let a0:Act:={tmps:=vals++Array.replicate (fn.ntmps - vals.size) undef,defers:=[]}
 have gu:cq M φ (hp o nx) w fn.ntmps ⟨[],false⟩ φ s0 a0 w:=by
  refine⟨hH,Trans.refl _ _ _, ?_,⟨[],rfl,List.nodup_nil,fun _=>rfl,fun r hr=>by cases hr⟩,uD hd⟩
  simp only[a0,Array.size_append,Array.size_replicate];simp at hlen;omega
 refine Bs (ro:=none) (k:=0) (ng hf qg (im (iN (P:=P) (H0:=hp o nx) (b:=nx) (cx:=⟨[],false⟩) (ro:=none) (fun id hu=>hu) (fun _=>rfl) c _ s0 φ a0 w h gu) ?_))
 rintro e a w' ⟨x,s,aO,hq,hs,hm⟩
 obtain⟨ms,g1,g2,g3,g4⟩:=hs.defers
 rw[List.append_nil]at g1
 have done:(x= .normal\/x= .ret)->LeavesInM (ed none) 0 P fn a.tmps (mY M φ (hp o nx) w K X) a.defers .returning w':=by
  intro hx
  have hq':me P fn.results.toList K X .ret s:=by rcases hx with rfl|rfl<;>exact hq
  obtain⟨vs,h1,h2⟩:=BA hq'
  rw[g1]
  have:=iq (P:=P) (k:=0) (fn:=fn) (R:=mY M φ (hp o nx) w K X) (u:= .returning) aj (ds:=[]) (fun w2 hb=>by
   obtain⟨vals,h3,h4⟩:=tN (P:=P) (a:=a) hb.heap hb.env _ _ h1
   exact⟨_,nb h3,aO,s.o,s.nx,_,hb.heap,hb.tr,BB h4,h2⟩) ms w' g2 g4 hs.toB
  rwa [List.append_nil]at this
 cases e<;>cases x<;>first|(exact hm.elim)|skip
 ·exact done (.inl rfl)
 ·exact hq.elim
 ·exact done (.inr rfl)
 ·rename_i v
  obtain⟨val,rfl,hd'⟩:=hm
  show LeavesInM (ed none) 0 P fn a.tmps (mY M φ (hp o nx) w K X) a.defers _ w'
  rw[g1]
  have Mp:zm M φ (hp o nx) w aO ⟨fun i=>if i=0 then v else .aa,s.o,s.nx⟩ #[val] w':=⟨hs.heap,hs.tr,fun i=>by
   by_cases hi:i=0
   ·subst hi;exact hd'
   ·simp only[hi,if_false];trivial⟩
  have:=iq (P:=P) (k:=0) (fn:=fn) (s:=⟨fun i=>if i=0 then v else .aa,s.o,s.nx⟩) (tmps:=a.tmps) (tb:=#[val]) (cQ:=φ) (H0:=hp o nx) (w0:=w) (R:=mY M φ (hp o nx) w K X) (u:= .panicking [{v:=val,recovered:=false}]) aj (ds:=[]) (fun w2 hb=>by
   have h0:=hb.env 0
   exact⟨aO,s.o,s.nx,v,hb.heap,hb.tr,val,rfl,h0,hq⟩) ms w' g2 g4 Mp
  rwa [List.append_nil]at this
theorem a7.mf {f:FuncId}{ds:List D}{out:R}(h:cK P f (ds.map .d) (fun _=> .no) 0 (fun v o _=>∃vs rs,v=(match vs with|[v]=>v|vs=> .ck vs)/\cn o vs=some rs/\out= .ret rs) (fun v o _=>∃x,dZ o v=some x/\out= .bR x)):a7 P f ds out:=by
 refine⟨h.1,fun M w vals hM hd=> ?_⟩
 let cQ:Place:=fun _=> .nilFunc
 have wH:∀b, ¬de cQ (hp (fun _=> .no) 0) b:=by rintro b ⟨id,hl,_⟩;simp[hp,ab.live]at hl
 refine(h.2 M cQ w vals (lI cQ hM) ((V.cA _ _).2 (D.a8 (w:=w) (w':=w) (B:=M) (fun b _ hB=>⟨rfl,fun h=>h.elim hB (wH b)⟩) _ _ hd))).mono ?_
 rintro e w' ⟨aO,o',nx',v,k1,k2,k3⟩
 have xC:eF (fun _=>False) w w':=⟨k2.cw.os,k2.cw.tape,k2.cw.output,k2.cw.size,fun k hk _=>k2.cw.block k hk (wH k)⟩
 have fin:∀ (vs:List V) (xs:List D) (vals:List Value),cn o' vs=some xs->V.aM (ax M aO (hp o' nx')) aO (hp o' nx') w' vs vals->D.aM M w' xs vals:=by
  intro vs xs vals h1 h2
  obtain⟨f1,f2,f3,f4,f5⟩:=du k1 (V.bF vs) (dh vs _ h2)
  have h3:=dE f1 vs xs vals f3 h1 (V.a8 f2 _ _ h2)
  exact D.a8 (w:=w') (w':=w') (fun k _ hB=>⟨rfl,fun hM=>hB (.inl hM)⟩) xs vals h3
 refine⟨xC, ?_⟩
 cases e with
 |outgrown=>exact k3.elim
 |panicked ch=>
  obtain⟨val,rfl,g1,x,g2,rfl⟩:=k3
  have:=fin [v] [x] [val] (by simp[cn,g2]) ⟨val,[],rfl,g1,rfl⟩
  obtain⟨u,us,he,h2,_⟩:=this
  simp at he;obtain⟨rfl,rfl⟩:=he
  exact⟨val,rfl,h2⟩
 |returned val=>
  obtain⟨g1,vs,rs,rfl,g2,rfl⟩:=k3
  match vs,g1,g2 with
  |[],g1,g2=>
   obtain⟨arr,rfl,hv⟩:=g1
   simp only[cn,Option.some.injEq]at g2;subst g2
   exact⟨arr,rfl,hv⟩
  |[v],g1,g2=>
   have:=fin [v] rs [val] g2 ⟨val,[],rfl,g1,rfl⟩
   cases rs with
   |nil=>cases this
   |cons x l=>
    obtain⟨u,us,he,h2,h3⟩:=this
    simp at he;obtain⟨rfl,rfl⟩:=he
    cases l with
    |nil=>exact h2
    |cons y l=>obtain⟨_,_,h,_⟩:=h3;cases h
  |v::v2::l,g1,g2=>
   obtain⟨arr,rfl,h⟩:=g1
   have:=fin (v::v2::l) rs arr.toList g2 h
   have hl:=D.aH _ _ this
   have yO:=V.aH _ _ h
   match rs,hl,this with
   |[],hl,_=>exact MO
   |[x],hl,_=>exact MO
   |x::y::l,_,this=>exact⟨arr,rfl,this⟩
theorem G4{rs:List ResultVar}{out:R}(e:fN)(s:S)(h:DG P rs out e s):
 me P rs (fun v o _=>∃vs rs,v=(match vs with|[v]=>v|vs=> .ck vs)/\cn o vs=some rs/\out= .ret rs) (fun v o _=>∃x,dZ o v=some x/\out= .bR x) e s:=by
 have ret:DG P rs out .ret s->me P rs (fun v o _=>∃vs rs,v=(match vs with|[v]=>v|vs=> .ck vs)/\cn o vs=some rs/\out= .ret rs) (fun v o _=>∃x,dZ o v=some x/\out= .bR x) .ret s:=by
  intro h
  obtain⟨vs,xs,h1,h2,h3⟩:=Jt h
  simp only[me,h1]
  match vs,h2 with
  |[],h2=>exact⟨[],xs,rfl,h2,h3⟩
  |[v],h2=>exact⟨[v],xs,rfl,h2,h3⟩
  |v::v2::l,h2=>exact⟨v::v2::l,xs,rfl,h2,h3⟩
 cases e with
 |normal=>exact ret h
 |ret=>exact ret h
 |exit id=>exact h.elim
 |bR v=>exact Ju h
end
end Go.Proofs.YtonbelhklnmjnaaGreat
namespace Go.Proofs.YtonbelhklnmjnaaGreat
def JD{α:Type}(c:Bool)(x:α):Option α:=if c=true then some x else none
def one(v:V):Option gB:=some (v,[],[])
def BC(op:BinOp)(k:IntKind)(a b:Int):Option V:=
 match op with
 | .add=>some (.d (.int k (k.wrap (a+b))))
 | .sub=>some (.d (.int k (k.wrap (a - b))))
 | .mul=>some (.d (.int k (k.wrap (a*b))))
 | .quo=>if b=0 then none else some (.d (.int k (k.wrap (a.tdiv b))))
 | .rem=>if b=0 then none else some (.d (.int k (a.tmod b)))
 | .and=>(ui .and k a b).map fun r=> .d (.int k r)
 | .or=>(ui .or k a b).map fun r=> .d (.int k r)
 | .xor=>(ui .xor k a b).map fun r=> .d (.int k r)
 | .andNot=>(ui .andNot k a b).map fun r=> .d (.int k r)
 | .eql=>some (.d (.bool (a==b)))| .neq=>some (.d (.bool (a !=b)))| .lss=>some (.d (.bool (decide (a<b))))| .leq=>some (.d (.bool (decide (a<=b))))
 | .gtr=>some (.d (.bool (decide (b<a))))| .geq=>some (.d (.bool (decide (b<=a))))
 |_=>none
def mg(P:Program)(t:TypeId):Bool:=
 match P.underlying t with
 |some .bool=>true
 |_=>false
def zp(P:Program)(op:BinOp)(t:TypeId)(x y:V):Option V:=
 match x,y with
 | .d (.int k a), .d (.int k' b)=>if k=k' then BC op k a b else none
 | .d (.bool a), .d (.bool b)=>match op with
   | .eql=>JD (mg P t) (.d (.bool (a==b)))
   | .neq=>JD (mg P t) (.d (.bool (a !=b)))
   |_=>none
 | .d (.str a), .d (.str b)=>match op with
   | .eql=>some (.d (.bool (a==b)))
   | .neq=>some (.d (.bool (a !=b)))
   |_=>none
 |_,_=>none
def unF(op:UnOp)(x:V):Option V:=
 match op,x with
 | .neg, .d (.int k n)=>some (.d (.int k (k.wrap (-n))))
 | .not, .d (.bool b)=>some (.d (.bool !b))
 |_,_=>none
def qh(c a b:V):Option V:=
 match c with
 | .d (.bool true)=>some a
 | .d (.bool false)=>some b
 |_=>none
def qi(o:Nat->ab)(x:V):Option (List D×List Nat):=
 match x with
 | .d (.sl es)=>some (es,[])
 | .bW=>some ([],[])
 | .qT es=>some (es,[])
 | .osl id ep=>match o id with
   | .arr jj _ _ es=>if ep=jj then some (es,[id])else none
   | .su jj es=>if ep=jj then some (es,[id])else none
   |_=>none
 |_=>none
def DM(P:Program)(t:TypeId)(o:Nat->ab)(x:V):Option gB:=
 match P.underlying t with
 |some (.slice _)=>match qi o x with
  |some (es,rd)=>some (.d (.int .i64 es.length),[],rd)
  |none=>none
 |some .string=>match x with
  | .d (.str s)=>one (.d (.int .i64 s.length))
  |_=>none
 |some (.array n _)=>one (.d (.int .i64 n))
 |_=>none
def xD(P:Program)(e:TypeId)(es:List D)(i:Int)(rd:List Nat):Option gB:=
 if 0<=i then match es[i.toNat]? with
  |some y=>JD (y.cells.length==P.cellsOf e&&0<P.cellsOf e) (.pp y.cells 0,[],rd)
  |none=>none
 else none
def oE(o:Nat->ab)(x:V)(q:Nat):Option V:=
 match x with
 | .ptr id off=>JD (o id).cy (.ptr id (off+q))
 | .pp cs off=>some (.pp cs (off+q))
 | .pe id ep j sz off=>if(o id).ct=some ep then some (.pe id ep j sz (off+q))else none
 |_=>none
def iO(P:Program)(o:Nat->ab)(t:TypeId)(x ix:V):Option gB:=
 match ix with
 | .d (.int _ i)=>match cI P t with
   |some e=>match x with
    | .d (.sl es)=>xD P e es i []
    | .qT es=>xD P e es i []
    | .osl id ep=>match o id with
      | .arr jj _ sz es=>if ep=jj/\0<=i/\i.toNat<es.length/\sz=P.cellsOf e/\0<P.cellsOf e then some (.pe id ep i.toNat sz 0,[],[id])else none
      | .su jj es=>if ep=jj then xD P e es i [id]else none
      |_=>none
    |_=>none
   |none=>match AX P t with
    |some (n,e)=>if 0<=i/\i<n/\(P.info? e).isSome=true then(oE o x (i.toNat*P.cellsOf e)).bind one else none
    |none=>none
 |_=>none
def iP(P:Program)(o:Nat->ab)(t:TypeId)(x:V)(f:Nat):Option V:=
 match cz P t f with
 |some q=>oE o x q
 |none=>none
def nh(P:Program)(o:Nat->ab)(t:TypeId)(x:V):Option gB:=
 match x with
 | .ptr id off=>match o id with
   | .row cs=>match e7 P t cs off with
     |some v=>some (v,[],[id])
     |none=>none
   |_=>none
 | .pp cs off=>match e7 P t (cs.map .d) off with
   |some v=>some (v,[],[])
   |none=>none
 | .pe id ep i sz off=>match o id with
   | .arr jj _ qU es=>if ep=jj/\sz=qU then match es[i]? with
    |some e=>match e7 P t (e.cells.map .d) off with
     |some v=>some (v,[],[id])
     |none=>none
    |none=>none
     else none
   |_=>none
 |_=>none
def rD(P:Program)(o:Nat->ab)(t:TypeId)(x v:V):Option gB:=
 match x with
 | .ptr id off=>match o id with
   | .row cs=>match yU P t cs off v with
     |some cs'=>some (.ck [],[(id, .row cs')],[id])
     |none=>none
   |_=>none
 | .pe id ep i qU off=>match o id with
   | .arr jj ty sz es=>if ep=jj/\qU=sz then match es[i]?,dZ o v with
    |some e,some y=>if y.cells.length=P.cellsOf t/\0<y.cells.length/\v.ids.all (· !=id)=true then match e.put off y.cells with
     |some e'=>some (.ck [],dk o v.ids++[(id, .arr ep ty sz (es.set i e'))],id::v.ids)
     |none=>none
     else none
    |_,_=>none
     else none
   |_=>none
 |_=>none
def gQ(P:Program)(o:Nat->ab)(fr:Nat)(t:TypeId)(len:Nat)(parts:List (Nat×V)):Option gB:=
 match cI P t with
 |some e=>if len=0/\parts.isEmpty=true/\0<P.cellsOf e then some (.osl fr 0,[(fr, .arr 0 e (P.cellsOf e) [])],[])else if parts.map (·.1)=List.range len/\(cL P e).isSome=true/\0<len/\0<P.cellsOf e/\len*P.cellsOf e<=2^24 then match cn o (parts.map (·.2))with
  |some ds=>if ds.all (fun x=>x.cells.length==P.cellsOf e)=true then some (.osl fr 0,dk o (V.bF (parts.map (·.2)))++[(fr, .arr 0 e (P.cellsOf e) ds)],V.bF (parts.map (·.2)))else none
  |none=>none
  else none
 |none=>none
def mh(P:Program)(fr:Nat)(t:TypeId)(l c:V):Option gB:=
 match cI P t with
 |some e=>match l,c with
  | .d (.int _ n), .d (.int _ m)=>if n=m/\0<=n/\0<P.cellsOf e/\P.bytesOf e*n.toNat<=2^47/\n.toNat<=2^47 then match A0 P e with
   |some x=>some (.osl fr 0,[(fr, .arr 0 e (P.cellsOf e) (List.replicate n.toNat x))],[])
   |none=>none
    else none
  |_,_=>none
 |none=>none
def qj(P:Program)(o:Nat->ab)(fr:Nat)(ts:Array TypeId)(x y:V):Option gB:=
 match ts.toList with
 |[t,t']=>if t=t' then match cI P t,qi o y with
    |some e,some (new,rd)=>if 0<P.cellsOf e/\(cL P e).isSome=true/\new.all (fun z=>z.cells.length==P.cellsOf e)=true then match x with
     | .bW=>if new.length<=2^47/\new.length*P.bytesOf e<=2^47 then some (.osl fr 0,[(fr, .arr 0 e (P.cellsOf e) new)],rd)else none
     | .qT es=>if es.all (fun z=>z.cells.length==P.cellsOf e)=true then(if new=[]then some (.qT es,[],rd)else if es.length+new.length<=2^40/\(es.length+new.length)*P.bytesOf e<=2^40 then some (.osl fr 0,[(fr, .arr 0 e (P.cellsOf e) (es++new))],rd)else none)else none
     | .osl id ep=>match o id with
       | .arr jj ty sz es=>if ep=jj/\ty=e/\sz=P.cellsOf e/\es.length+new.length<=2^47/\(es.length+new.length)*P.bytesOf e<=2^47 then
        some (.osl id (ep+1),[(id, .arr (ep+1) ty sz (es++new))],id::rd)else none
       |_=>none
     |_=>none
     else none
    |_,_=>none
  else none
 |_=>none
def qk(isMax:Bool)(x y:V):Option V:=
 match x,y with
 | .d (.int k a), .d (.int k' b)=>if k=k' then some (.d (.int k (if isMax then(if b>a then b else a)else(if b<a then b else a))))else none
 |_,_=>none
def lJ(x:Option V):Option gB:=match x with|some v=>one v|none=>none
def ql(P:Program)(s:S)(fr:Nat)(b:Builtin)(args:List Operand)(ts:Array TypeId):Option gB:=
 match b,args with
 | .len,[x]=>match ts.toList with
   |[t]=>DM P t s.o (s.ev x)
   |_=>none
 | .append,[x,y]=>match w8 P fr ts (s.ev x) (s.ev y)with
   |some r=>some r
   |none=>qj P s.o fr ts (s.ev x) (s.ev y)
 | .max,[x,y]=>lJ (qk true (s.ev x) (s.ev y))
 | .min,[x,y]=>lJ (qk false (s.ev x) (s.ev y))
 | .max,[x,y,z]=>lJ (I7 (s.ev x) (s.ev y) (s.ev z))
 | .copy,[x,y]=>w7 P s.o ts (s.ev x) (s.ev y)
 | .delete,[x,y]=>match ts.toList.head? with
   |some t=>nQ P s.o t (s.ev x) (s.ev y)
   |none=>none
 | .cap,[x]=>MY P ts (s.ev x)
 |_,_=>none
def rE(P:Program)(t:TypeId)(parts:List (Nat×V)):Option V:=
 match cL P t,gh P t with
 |some z,some pl=>match sv pl z parts with
  |some cs=>some (my cs)
  |none=>none
 |_,_=>none
def jP(o:Nat->ab)(x:V):Option V:=
 match x with
 | .ptr id off=>JD (o id).cy (.ptr id off)
 | .pp cs off=>some (.pp cs off)
 | .func (.func f) first cap=>some (.func (.func f) first cap)
 |_=>none
def iQ(P:Program)(t:TypeId):Bool:=
 match P.underlying t with
 |some (.interface _)=>false
 |some _=>true
 |none=>false
def JE(P:Program)(t:TypeId)(x:V):Option V:=
 JD (iQ P t) (match x with
  | .d y=> .d (.iface t y)
  |v=> .iface t v)
def eC(P:Program)(o:Nat->ab)(op:BinOp)(t:TypeId)(oP:Bool)(x y:V):Option gB:=
 match zp P op t x y with
 |some v=>one v
 |none=>rn P o op t oP x y
def Gu(op:UnOp)(x:V):Option V:=
 match op,x with
 | .not, .eZ=>some .eZ
 |op,x=>unF op x
def gD(P:Program)(s:S)(fr:Nat)(op:Op):Option gB:=
 match op with
 | .move x=>one (s.ev x)
 | .assign x=>one (s.ev x)
 | .pick c a b=>lJ (qh (s.ev c) (s.ev a) (s.ev b))
 | .alloc t=>match cL P t with
   |some cs=>some (.ptr fr 0,[(fr, .row cs)],[])
   |none=>none
 | .box _ x=>match(s.ev x).cells with
   |some cs=>some (.ptr fr 0,[(fr, .row cs)],[])
   |none=>none
 | .build t parts=>lJ (rE P t (parts.toList.map fun p=>(p.1,s.ev p.2)))
 | .buildSlice t len parts=>gQ P s.o fr t len (parts.toList.map fun p=>(p.1,s.ev p.2))
 | .load t x=>nh P s.o t (s.ev x)
 | .store t x v=>rD P s.o t (s.ev x) (s.ev v)
 | .nilCheck x=>lJ (jP s.o (s.ev x))
 | .binOp op t x y _=>eC P s.o op t (isConst x||isConst y) (s.ev x) (s.ev y)
 | .unOp op _ x=>lJ (Gu op (s.ev x))
 | .convert u t x=>match P.underlying u,yT P t,s.ev x with
   |some _,some k, .d (.int _ n)=>one (.d (.int k (k.wrap n)))
   |_,_,_=>none
 | .makeInterface t x=>lJ (JE P t (s.ev x))
 | .makeFunc fn first cap=>one (.func fn (first.toList.map s.ev) (cap.toList.map s.ev))
 | .makeSlice t l c=>mh P fr t (s.ev l) (s.ev c)
 | .fieldAddr t x f=>lJ (iP P s.o t (s.ev x) f)
 | .indexAddr t x i=>iO P s.o t (s.ev x) (s.ev i)
 | .extract x i=>match s.ev x with
   | .ck vs=>match vs[i]? with
     |some v=>one v
     |none=>none
   |_=>none
 | .call c=>match c.callee with
   | .builtin b=>ql P s fr b c.args.toList c.argTypes
   |_=>none
 | .slice t x lo hi mx=>rj P s.o t (s.ev x) (lo.map s.ev) (hi.map s.ev) (mx.map s.ev)
 | .field t x f=>lJ (uk P t (s.ev x) f)
 | .index t x i=>lJ (um P t (s.ev x) (s.ev i))
 | .typeAssert x _ t ok=>lJ (pO P t ok (s.ev x))
 | .makeMap t none=>mQ P fr t
 | .lookup t m k ok=>jf P s.o t (s.ev m) (s.ev k) ok
 | .mapUpdate t m k v=>gk P s.o t (s.ev m) (s.ev k) (s.ev v)
 | .insert t m k v=>gk P s.o t (s.ev m) (s.ev k) (s.ev v)
 | .range t x=>mR P s.o fr t (s.ev x)
 | .next x str=>oz s.o (s.ev x) str
 | .entry x=>mS s.o (s.ev x)
 |_=>none
section
variable {P:Program}{s:S}{fr:Nat}{v:V}{Δ:List (Nat×ab)}{rd:List Nat}{o:Nat->ab}{K:V->List (Nat×ab)->List Nat->Prop}
theorem rF{α:Type}{c:Bool}{x y:α}(h:JD c x=some y):c=true/\x=y:=by
 unfold JD at h;split at h
 ·injection h with h;exact⟨by assumption,h⟩
 ·cases h
theorem kZ{x:V}{r:gB}(h:one x=some r):r=(x,[],[]):=by unfold one at h;injection h with h;exact h.symm
theorem gv{x:Option V}{r:gB}(h:lJ x=some r):∃v,x=some v/\r=(v,[],[]):=by
 unfold lJ at h;split at h
 ·exact⟨_,rfl,kZ h⟩
 ·cases h
theorem DN{x:V}{es:List D}{rd:List Nat}(h:qi o x=some (es,rd)):e8 o x=some es/\rd=x.ids:=by
 unfold qi at h
 split at h
 ·exact Sp
 ·exact Sp
 ·exact Sp
 ·split at h
  ·rename_i ho
   split at h
   ·rename_i e;simp at h;obtain⟨rfl,rfl⟩:=h;exact⟨by simp[e8,dZ,ho,e],rfl⟩
   ·cases h
  ·rename_i ho
   split at h
   ·rename_i e;simp at h;obtain⟨rfl,rfl⟩:=h;exact⟨by simp[e8,dZ,ho,e],rfl⟩
   ·cases h
  ·cases h
 ·cases h
theorem G5{op:BinOp}{k:IntKind}{a b:Int}{v:V}(h:BC op k a b=some v){K:V->Prop}(hK:K v):MW op k a b K:=by
 cases op<;>simp only[BC]at h<;>simp only[MW]
 case quo=>split at h
           ·cases h
           ·injection h with h;subst h;exact⟨by assumption,hK⟩
 case rem=>split at h
           ·cases h
           ·injection h with h;subst h;exact⟨by assumption,hK⟩
 case and=>simp only[Option.map_eq_some_iff]at h;obtain⟨r,h1,rfl⟩:=h;exact⟨r,h1,hK⟩
 case or=>simp only[Option.map_eq_some_iff]at h;obtain⟨r,h1,rfl⟩:=h;exact⟨r,h1,hK⟩
 case xor=>simp only[Option.map_eq_some_iff]at h;obtain⟨r,h1,rfl⟩:=h;exact⟨r,h1,hK⟩
 case andNot=>simp only[Option.map_eq_some_iff]at h;obtain⟨r,h1,rfl⟩:=h;exact⟨r,h1,hK⟩
 case shl=>cases h
 case shr=>cases h
 case eql=>injection h with h;subst h;exact⟨_,rfl,hK⟩
 case neq=>injection h with h;subst h;exact⟨_,rfl,hK⟩
 case lss=>injection h with h;subst h;exact⟨_,rfl,hK⟩
 case leq=>injection h with h;subst h;exact⟨_,rfl,hK⟩
 case gtr=>injection h with h;subst h;exact⟨_,rfl,hK⟩
 case geq=>injection h with h;subst h;exact⟨_,rfl,hK⟩
 all_goals (injection h with h;subst h;exact hK)
theorem G6{op:BinOp}{t:TypeId}{x y v:V}(h:zp P op t x y=some v){K:V->Prop}(hK:K v):I4 P op t x y K:=by
 unfold zp at h
 unfold I4
 split at h
 ·split at h
  ·exact⟨by assumption,G5 h hK⟩
  ·cases h
 ·have hb:mg P t=true->P.underlying t=some .bool:=by
   unfold mg;intro h;split at h
   ·assumption
   ·cases h
  split at h
  ·obtain⟨h1,rfl⟩:=rF h;exact⟨hb h1,hK⟩
  ·obtain⟨h1,rfl⟩:=rF h;exact⟨hb h1,hK⟩
  ·cases h
 ·split at h
  ·injection h with h;subst h;exact hK
  ·injection h with h;subst h;exact hK
  ·cases h
 ·cases h
theorem DO{c a b v:V}(h:qh c a b=some v){K:V->Prop}(hK:K v):AY c a b K:=by
 unfold qh at h
 unfold AY
 split at h
 ·injection h with h;subst h;exact⟨fun _=>hK,(fun h=>by cases h)⟩
 ·injection h with h;subst h;exact⟨(fun h=>by cases h),fun _=>hK⟩
 ·cases h
theorem uF{x y:V}{q:Nat}(h:oE o x q=some y):(∃id off,x= .ptr id off/\(o id).cy=true/\y= .ptr id (off+q))\/(∃cs off,x= .pp cs off/\y= .pp cs (off+q))\/
 (∃id ep j sz off,x= .pe id ep j sz off/\(o id).ct=some ep/\y= .pe id ep j sz (off+q)):=by
 unfold oE at h
 split at h
 ·obtain⟨h1,rfl⟩:=rF h;exact .inl ⟨_,_,rfl,h1,rfl⟩
 ·injection h with h;exact .inr (.inl ⟨_,_,rfl,h.symm⟩)
 ·split at h
  ·injection h with h;exact .inr (.inr ⟨_,_,_,_,_,rfl,by assumption,h.symm⟩)
  ·cases h
 ·cases h
theorem oY{e:TypeId}{es:List D}{i:Int}{rd:List Nat}{r:gB}(h:xD P e es i rd=some r):
 0<=i/\∃y,es[i.toNat]? =some y/\y.cells.length=P.cellsOf e/\0<P.cellsOf e/\r=(.pp y.cells 0,[],rd):=by
 unfold xD at h
 split at h
 ·rename_i h0
  split at h
  ·rename_i y hy
   obtain⟨h1,rfl⟩:=rF h
   simp only[Bool.and_eq_true,beq_iff_eq,decide_eq_true_eq]at h1
   exact⟨h0,y,hy,h1.1,h1.2,rfl⟩
  ·cases h
 ·cases h
theorem tp{t:TypeId}{x ix:V}(h:iO P o t x ix=some (v,Δ,rd))(hK:K v Δ rd):jW P o t x ix fun v rd=>K v [] rd:=by
 unfold iO at h
 unfold jW
 split at h
 ·simp only
  split at h
  ·rename_i e ht
   simp only[ht]
   split at h
   ·obtain⟨h0,y,h1,h2,h3,h4⟩:=oY h
    simp only[Prod.mk.injEq]at h4;obtain⟨rfl,rfl,rfl⟩:=h4
    exact⟨h0,y,h1,h2,h3,hK⟩
   ·obtain⟨h0,y,h1,h2,h3,h4⟩:=oY h
    simp only[Prod.mk.injEq]at h4;obtain⟨rfl,rfl,rfl⟩:=h4
    exact⟨h0,y,h1,h2,h3,hK⟩
   ·split at h
    ·rename_i ho
     split at h
     ·rename_i hc
      simp only[Option.some.injEq,Prod.mk.injEq]at h;obtain⟨rfl,rfl,rfl⟩:=h
      simp only[ho]
      exact⟨hc.1,hc.2.1,hc.2.2.1,hc.2.2.2.1,hc.2.2.2.2,hK⟩
     ·cases h
    ·rename_i ho
     split at h
     ·rename_i hc
      obtain⟨h0,y,h1,h2,h3,h4⟩:=oY h
      simp only[Prod.mk.injEq]at h4;obtain⟨rfl,rfl,rfl⟩:=h4
      simp only[ho]
      exact⟨hc,h0,y,h1,h2,h3,hK⟩
     ·cases h
    ·cases h
   ·cases h
  ·rename_i ht
   simp only[ht]
   split at h
   ·rename_i n e ha
    simp only[ha]
    split at h
    ·rename_i hc
     simp only[Option.bind_eq_some_iff]at h
     obtain⟨y,hy,h1⟩:=h
     have h1:=kZ h1
     simp only[Prod.mk.injEq]at h1;obtain⟨rfl,rfl,rfl⟩:=h1
     refine⟨hc.1,hc.2.1,hc.2.2, ?_⟩
     rcases uF hy with⟨_,_,rfl,h2,rfl⟩|⟨_,_,rfl,rfl⟩|⟨_,_,_,_,_,rfl,h2,rfl⟩
     ·exact⟨h2,hK⟩
     ·exact hK
     ·exact⟨h2,hK⟩
    ·cases h
   ·cases h
 ·cases h
theorem tq{t:TypeId}{x y:V}{f:Nat}(h:iP P o t x f=some y){K:V->Prop}(hK:K y):jX P o t x f K:=by
 unfold iP at h
 unfold jX
 split at h
 ·rename_i q hq
  simp only[hq]
  rcases uF h with⟨_,_,rfl,h2,rfl⟩|⟨_,_,rfl,rfl⟩|⟨_,_,_,_,_,rfl,h2,rfl⟩
  ·exact⟨h2,hK⟩
  ·exact hK
  ·exact⟨h2,hK⟩
 ·cases h
theorem G7{t:TypeId}{x:V}(h:DM P t o x=some (v,Δ,rd))(hK:K v Δ rd):I5 P t o x fun v rd=>K v [] rd:=by
 unfold DM at h
 unfold I5
 split at h
 ·rename_i e hu
  simp only[hu]
  split at h
  ·rename_i es tt hl
   simp only[Option.some.injEq,Prod.mk.injEq]at h;obtain⟨rfl,rfl,rfl⟩:=h
   unfold qi at hl
   split at hl
   ·exact Sv
   ·exact Sv
   ·exact Sv
   ·split at hl
    ·rename_i ho
     split at hl
     ·rename_i hc;simp at hl;obtain⟨rfl,rfl⟩:=hl;simp only[ho];exact⟨hc,hK⟩
     ·cases hl
    ·rename_i ho
     split at hl
     ·rename_i hc;simp at hl;obtain⟨rfl,rfl⟩:=hl;simp only[ho];exact⟨hc,hK⟩
     ·cases hl
    ·cases hl
   ·cases hl
  ·cases h
 ·rename_i hu
  simp only[hu]
  split at h
  ·have h1:=kZ h;simp only[Prod.mk.injEq]at h1;obtain⟨rfl,rfl,rfl⟩:=h1;exact hK
  ·cases h
 ·rename_i hu
  simp only[hu]
  have h1:=kZ h;simp only[Prod.mk.injEq]at h1;obtain⟨rfl,rfl,rfl⟩:=h1;exact hK
 ·cases h
theorem DP{t:TypeId}{x:V}(h:nh P o t x=some (v,Δ,rd))(hK:K v Δ rd):AZ P o t x fun v rd=>K v [] rd:=by
 unfold nh at h
 unfold AZ
 split at h
 ·split at h
  ·rename_i ho
   split at h
   ·rename_i hg
    simp only[Option.some.injEq,Prod.mk.injEq]at h;obtain⟨rfl,rfl,rfl⟩:=h
    simp only[ho];exact⟨_,hg,hK⟩
   ·cases h
  ·cases h
 ·split at h
  ·rename_i hg
   simp only[Option.some.injEq,Prod.mk.injEq]at h;obtain⟨rfl,rfl,rfl⟩:=h
   exact⟨_,hg,hK⟩
  ·cases h
 ·split at h
  ·rename_i ho
   split at h
   ·rename_i hc
    split at h
    ·rename_i e he
     split at h
     ·rename_i hg
      simp only[Option.some.injEq,Prod.mk.injEq]at h;obtain⟨rfl,rfl,rfl⟩:=h
      simp only[ho];exact⟨hc.1,hc.2,e,he,_,hg,hK⟩
     ·cases h
    ·cases h
   ·cases h
  ·cases h
 ·cases h
theorem BD{t:TypeId}{x y:V}(h:rD P o t x y=some (v,Δ,rd))(hK:K v Δ rd):uj P o t x y fun Δ rd=>K (.ck []) Δ rd:=by
 unfold rD at h
 unfold uj
 split at h
 ·split at h
  ·rename_i ho
   split at h
   ·rename_i hg
    simp only[Option.some.injEq,Prod.mk.injEq]at h;obtain⟨rfl,rfl,rfl⟩:=h
    simp only[ho];exact⟨_,hg,hK⟩
   ·cases h
  ·cases h
 ·split at h
  ·rename_i ho
   split at h
   ·rename_i hc
    split at h
    ·rename_i e z he hz
     split at h
     ·rename_i hl
      split at h
      ·rename_i e' hp
       simp only[Option.some.injEq,Prod.mk.injEq]at h;obtain⟨rfl,rfl,rfl⟩:=h
       simp only[ho]
       exact⟨hc.1,hc.2,e,he,z,hz,hl.1,hl.2.1,hl.2.2,e',hp,hK⟩
      ·cases h
     ·cases h
    ·cases h
   ·cases h
  ·cases h
 ·cases h
theorem rG{t:TypeId}{len:Nat}{parts:List (Nat×V)}(h:gQ P o fr t len parts=some (v,Δ,rd))(hK:K v Δ rd):jk P o fr t len parts K:=by
 unfold gQ at h
 unfold jk
 split at h
 ·rename_i e ht
  simp only[ht]
  split at h
  ·rename_i hc
   simp only[Option.some.injEq,Prod.mk.injEq]at h;obtain⟨rfl,rfl,rfl⟩:=h
   exact .inl ⟨hc.1,by simpa using hc.2.1,hc.2.2,hK⟩
  split at h
  ·rename_i hc
   refine .inr ?_
   split at h
   ·rename_i ds hd
    split at h
    ·rename_i hw
     simp only[Option.some.injEq,Prod.mk.injEq]at h;obtain⟨rfl,rfl,rfl⟩:=h
     refine⟨hc.1,hc.2.1,hc.2.2.1,hc.2.2.2.1,hc.2.2.2.2,ds,hd,fun x hx=> ?_,hK⟩
     simpa using List.all_eq_true.1 hw x hx
    ·cases h
   ·cases h
  ·cases h
 ·cases h
theorem tu{t:TypeId}{l c:V}(h:mh P fr t l c=some (v,Δ,rd))(hK:K v Δ rd):jY P fr t l c fun v Δ=>K v Δ []:=by
 unfold mh at h
 unfold jY
 split at h
 ·rename_i e ht
  split at h
  ·split at h
   ·rename_i hc
    split at h
    ·rename_i x hx
     simp only[Option.some.injEq,Prod.mk.injEq]at h;obtain⟨rfl,rfl,rfl⟩:=h
     simp only[ht]
     exact⟨hc.1,hc.2.1,hc.2.2.1,hc.2.2.2.1,hc.2.2.2.2,x,hx,hK⟩
    ·cases h
   ·cases h
  ·cases h
 ·cases h
theorem zq{ts:Array TypeId}{x y:V}(h:qj P o fr ts x y=some (v,Δ,rd))(hK:K v Δ rd):pM P o fr ts x y K:=by
 unfold qj at h
 unfold pM
 split at h
 ·rename_i t t' th
  simp only[th]
  split at h
  ·rename_i htt
   refine⟨htt, ?_⟩
   split at h
   ·rename_i e new tt ht hl
    obtain⟨xf,rfl⟩:=DN hl
    simp only[ht]
    split at h
    ·rename_i hc
     refine⟨new,xf,hc.1,hc.2.1,fun z hz=>by simpa using List.all_eq_true.1 hc.2.2 z hz, ?_⟩
     split at h
     ·split at h
      ·rename_i tj
       simp only[Option.some.injEq,Prod.mk.injEq]at h;obtain⟨rfl,rfl,rfl⟩:=h
       exact⟨tj.1,tj.2,hK⟩
      ·cases h
     ·split at h
      ·rename_i Da
       refine⟨fun z hz=>by simpa using List.all_eq_true.1 Da z hz, ?_⟩
       split at h
       ·rename_i hn
        simp only[Option.some.injEq,Prod.mk.injEq]at h;obtain⟨rfl,rfl,rfl⟩:=h
        rw[if_pos hn];exact hK
       ·rename_i hn
        split at h
        ·rename_i tj
         simp only[Option.some.injEq,Prod.mk.injEq]at h;obtain⟨rfl,rfl,rfl⟩:=h
         rw[if_neg hn];exact⟨tj.1,tj.2,hK⟩
        ·cases h
      ·cases h
     ·split at h
      ·rename_i ho
       split at h
       ·rename_i tj
        simp only[Option.some.injEq,Prod.mk.injEq]at h;obtain⟨rfl,rfl,rfl⟩:=h
        simp only[ho]
        exact⟨tj.1,tj.2.1,tj.2.2.1,tj.2.2.2.1,tj.2.2.2.2,hK⟩
       ·cases h
      ·cases h
     ·cases h
    ·cases h
   ·cases h
  ·cases h
 ·cases h
theorem uG{x y:V}(h:jP o x=some y){K:V->Prop}(hK:K y):lA o x K:=by
 unfold jP at h
 unfold lA
 split at h
 ·obtain⟨h2,rfl⟩:=rF h;exact⟨h2,hK⟩
 ·injection h with h;subst h;exact hK
 ·injection h with h;subst h;exact hK
 ·cases h
theorem JF{op:UnOp}{x y:V}(h:unF op x=some y){K:V->Prop}(hK:K y):XG op x K:=by
 unfold unF at h
 unfold XG
 split at h
 ·injection h with h;subst h;simp only;rw[Int.zero_sub];exact hK
 ·injection h with h;subst h;exact hK
 ·cases h
theorem qm{m:Bool}{x y v:V}(h:qk m x y=some v){K:V->Prop}(hK:K v):nP m [x,y] K:=by
 unfold qk at h
 unfold nP
 split at h
 ·split at h
  ·injection h with h;subst h;exact⟨by assumption,hK⟩
  ·cases h
 ·cases h
theorem BE{op:Op}(h:gD P s fr op=some (v,Δ,rd))(hK:K v Δ rd):Pj P s fr op K:=by
 cases op<;>simp only[gD]at h<;>simp only[Pj]<;>try (cases h;done)
 case move x=>have h:=kZ h;simp only[Prod.mk.injEq]at h;obtain⟨rfl,rfl,rfl⟩:=h;exact hK
 case assign x=>have h:=kZ h;simp only[Prod.mk.injEq]at h;obtain⟨rfl,rfl,rfl⟩:=h;exact hK
 case pick c a b=>
  obtain⟨x,h1,h⟩:=gv h;simp only[Prod.mk.injEq]at h;obtain⟨rfl,rfl,rfl⟩:=h
  exact DO h1 hK
 case alloc t=>
  split at h
  ·rename_i cs hz;simp only[Option.some.injEq,Prod.mk.injEq]at h;obtain⟨rfl,rfl,rfl⟩:=h;exact⟨cs,hz,hK⟩
  ·cases h
 case box t x=>
  split at h
  ·rename_i cs hz;simp only[Option.some.injEq,Prod.mk.injEq]at h;obtain⟨rfl,rfl,rfl⟩:=h;exact⟨cs,hz,hK⟩
  ·cases h
 case build t parts=>
  obtain⟨x,h1,h⟩:=gv h;simp only[Prod.mk.injEq]at h;obtain⟨rfl,rfl,rfl⟩:=h
  unfold rE at h1
  split at h1
  ·rename_i z pl hz hp
   split at h1
   ·rename_i cs hc;injection h1 with h1;subst h1;exact⟨z,pl,cs,hz,hp,hc,hK⟩
   ·cases h1
  ·cases h1
 case buildSlice t len parts=>exact rG h hK
 case load t x=>exact DP h hK
 case store t x y=>exact BD h hK
 case nilCheck x=>
  obtain⟨y,h1,h⟩:=gv h;simp only[Prod.mk.injEq]at h;obtain⟨rfl,rfl,rfl⟩:=h
  exact uG h1 hK
 case binOp op t x y yt=>
  unfold eC at h
  split at h
  ·rename_i z h1
   have h:=kZ h;simp only[Prod.mk.injEq]at h;obtain⟨rfl,rfl,rfl⟩:=h
   exact .inl (G6 h1 hK)
  ·right;simp only[h,dm];exact hK
 case unOp op t x=>
  obtain⟨z,h1,h⟩:=gv h;simp only[Prod.mk.injEq]at h;obtain⟨rfl,rfl,rfl⟩:=h
  unfold Gu at h1
  split at h1
  ·rename_i hx;injection h1 with h1;subst h1;exact .inr ⟨rfl,hx,hK⟩
  ·exact .inl (JF h1 hK)
 case slice t x lo hi mx=>simp only[h,dm];exact hK
 case field t x f=>
  obtain⟨z,h1,h⟩:=gv h;simp only[Prod.mk.injEq]at h;obtain⟨rfl,rfl,rfl⟩:=h
  exact MG
 case typeAssert x xt t ok=>
  obtain⟨z,h1,h⟩:=gv h;simp only[Prod.mk.injEq]at h;obtain⟨rfl,rfl,rfl⟩:=h
  exact MG
 case makeMap t r=>
  cases r with
  |none=>simp only[h,dm];exact hK
  |some x=>cases h
 case lookup t m k ok=>simp only[h,dm];exact hK
 case mapUpdate t m k v=>simp only[h,dm];exact hK
 case insert t m k v=>simp only[h,dm];exact hK
 case index t x i=>
  obtain⟨z,h1,h⟩:=gv h;simp only[Prod.mk.injEq]at h;obtain⟨rfl,rfl,rfl⟩:=h
  exact MG
 case convert u t x=>
  split at h
  ·rename_i d k k' n hu hk hx
   have h:=kZ h;simp only[Prod.mk.injEq]at h;obtain⟨rfl,rfl,rfl⟩:=h
   exact⟨by rw[hu];rfl,by simp only[hk,hx];exact hK⟩
  ·cases h
 case makeInterface t x=>
  obtain⟨z,h1,h⟩:=gv h;simp only[Prod.mk.injEq]at h;obtain⟨rfl,rfl,rfl⟩:=h
  obtain⟨h2,rfl⟩:=rF h1
  refine⟨?_, ?_⟩
  ·unfold iQ at h2
   cases hd:P.underlying t with
   |none=>simp[hd]at h2
   |some d=>exact⟨d,rfl,by cases d<;>simp_all⟩
  ·split
   ·rename_i y hy;simp only[hy]at hK;exact hK
   ·rename_i hy
    split at hK
    ·rename_i y S7;exact absurd S7 (hy y)
    ·exact hK
 case makeFunc fn first cap=>have h:=kZ h;simp only[Prod.mk.injEq]at h;obtain⟨rfl,rfl,rfl⟩:=h;exact hK
 case makeSlice t l c=>
  exact tu h hK
 case fieldAddr t x f=>
  obtain⟨z,h1,h⟩:=gv h;simp only[Prod.mk.injEq]at h;obtain⟨rfl,rfl,rfl⟩:=h
  exact tq h1 hK
 case indexAddr t x i=>
  exact tp h hK
 case extract x i=>
  split at h
  ·rename_i vs hv
   split at h
   ·rename_i u hu
    have h:=kZ h;simp only[Prod.mk.injEq]at h;obtain⟨rfl,rfl,rfl⟩:=h
    simp only[hv];exact⟨_,hu,hK⟩
   ·cases h
  ·cases h
 case call c=>
  obtain⟨Jr,args,ts⟩:=c
  cases Jr<;>simp only at h|- <;>try (cases h;done)
  rename_i b
  unfold ql at h
  unfold uo
  split at h
  ·rename_i x ha
   simp only[ha]
   split at h
   ·rename_i t th;exact⟨t,th,G7 h hK⟩
   ·cases h
  ·rename_i x y ha
   simp only[ha]
   split at h
   ·rename_i r hr
    simp only[Option.some.injEq]at h
    subst h
    exact .inl (by rw[hr];exact hK)
   ·exact .inr (zq h hK)
  ·rename_i x y ha
   simp only[ha]
   obtain⟨z,h1,h⟩:=gv h;simp only[Prod.mk.injEq]at h;obtain⟨rfl,rfl,rfl⟩:=h
   exact qm h1 hK
  ·rename_i x y ha
   simp only[ha]
   obtain⟨z,h1,h⟩:=gv h;simp only[Prod.mk.injEq]at h;obtain⟨rfl,rfl,rfl⟩:=h
   exact qm h1 hK
  ·rename_i x y z ha
   simp only[ha]
   obtain⟨v0,h1,h⟩:=gv h;simp only[Prod.mk.injEq]at h;obtain⟨rfl,rfl,rfl⟩:=h
   exact MG
  ·rename_i x y ha
   simp only[ha,h,dm];exact hK
  ·rename_i x y ha
   simp only[ha]
   split at h
   ·rename_i t ht;exact⟨t,ht,by simp only[h,dm];exact hK⟩
   ·cases h
  ·rename_i x ha
   simp only[ha,h,dm];exact hK
  ·cases h
 case range t x=>simp only[h,dm];exact hK
 case next x str=>left;simp only[h,dm];exact hK
 case entry x=>simp only[h,dm];exact hK
end
end Go.Proofs.YtonbelhklnmjnaaGreat
namespace Go.Proofs.YtonbelhklnmjnaaGreat
def uH(P:Program)(g:FuncId)(ds:List D)(o o1 oa:Nat->ab)(K:V->(Nat->ab)->Prop)(X:V->(Nat->ab)->Prop):Prop:=
 ∃out,a7 P g ds out/\((match out with| .ret rs=>K (jJ rs) o1| .bR x=>X (.d x) o1)\/(out.flat=true/\match out with| .ret rs=>K (jJ rs) o| .bR x=>X (.d x) o)\/(out.mZ=true/\match out with| .ret rs=>K (jJ rs) oa| .bR x=>X (.d x) oa))
def sE(P:Program)(g:FuncId)(args:List V)(o:Nat->ab)(nx:Nat)(K:V->(Nat->ab)->Nat->Prop)(X:V->(Nat->ab)->Nat->Prop):Prop:=m9 P g args o nx K X
theorem m9.mono {P:Program}{g:FuncId}{args:List V}{o:Nat->ab}{nx:Nat}{K X K' X':V->(Nat->ab)->Nat->Prop}(hK:∀v o n,K v o n->K' v o n)(hX:∀v o n,X v o n->X' v o n)(h:m9 P g args o nx K X):m9 P g args o nx K' X':=
 h.imp (cK.mono hK hX) (cK.mono hK hX)
@[congr] theorem PB {P:Program} {g g':FuncId} {ds X7:List D} {o o1 oa:Nat->ab} {K X} (h:g=g') (h':ds=X7):uH P g ds o o1 oa K X=uH P g' X7 o o1 oa K X:=by subst h;subst h';rfl
@[congr] theorem PC {P:Program} {g g':FuncId} {cp X8:List V} {o:Nat->ab} {nx:Nat} {K X} (h:g=g') (h':cp=X8):sE P g cp o nx K X=sE P g' X8 o nx K X:=by subst h;subst h';rfl
def PD(P:Program)(g:FuncId)(args:List V)(o:Nat->ab)(nx:Nat)(K X:V->(Nat->ab)->Nat->Prop):Prop:=
 (∃ds,cn o args=some ds/\uH P g ds o (put o (dk o (V.bF args))) (put o (ri o (V.bF args))) (fun v o'=>K v o' (nx+1)) (fun v o'=>X v o' (nx+1)))\/cK P g args o nx K X
def IB(P:Program)(s:S)(o:cu)(X:V->S->Prop)(K:S->Prop):Prop:=
 match o.op with
 | .call c=>match c.callee with
   | .value f=>match s.ev f with
     | .func (.func g) first cap=>match cn s.o (first++c.args.toList.map s.ev++cap)with
       |some ds=>uH P g ds s.o (put s.o (dk s.o (V.bF (first++c.args.toList.map s.ev++cap)))) (put s.o (ri s.o (V.bF (first++c.args.toList.map s.ev++cap)))) (fun v o'=>K ⟨bu s.env o.dst v,o',s.nx+1⟩) (fun v o'=>X v ⟨s.env,o',s.nx+1⟩)\/
        sE P g (first++c.args.toList.map s.ev++cap) s.o s.nx (fun v o' nx'=>K ⟨bu s.env o.dst v,o',nx'⟩) (fun v o' nx'=>X v ⟨s.env,o',nx'⟩)
       |none=>sE P g (first++c.args.toList.map s.ev++cap) s.o s.nx (fun v o' nx'=>K ⟨bu s.env o.dst v,o',nx'⟩) (fun v o' nx'=>X v ⟨s.env,o',nx'⟩)
     | .jO id=>dU P id (c.args.toList.map s.ev) s.o s.nx (fun v o' nx'=>K ⟨bu s.env o.dst v,o',nx'⟩) (fun v o' nx'=>X v ⟨s.env,o',nx'⟩)
     |_=>False
   | .invoke r m=>match uA P m (s.ev r)with
     |some (g,y)=>PD P g (y::c.args.toList.map s.ev) s.o s.nx (fun v o' nx'=>K ⟨bu s.env o.dst v,o',nx'⟩) (fun v o' nx'=>X v ⟨s.env,o',nx'⟩)
     |none=>False
   |_=>match gD P s s.nx o.op with
    |some (v,Δ,_)=>K ⟨bu s.env o.dst v,put s.o Δ,s.nx+1⟩
    |none=>False
 | .panic x=>match s.ev x with
   | .d (.iface t y)=>X (.d (.iface t y)) s
   | .iface t y=>X (.iface t y) s
   |_=>False
 | .next x str=>match oA s.o (s.ev x)with
   |some (id,l)=>str=false/\EU id l fun v Δ _=>K ⟨bu s.env o.dst v,put s.o Δ,s.nx+1⟩
   |none=>match gD P s s.nx o.op with
    |some (v,Δ,_)=>K ⟨bu s.env o.dst v,put s.o Δ,s.nx+1⟩
    |none=>False
 |op=>match gD P s s.nx op with
  |some (v,Δ,_)=>K ⟨bu s.env o.dst v,put s.o Δ,s.nx+1⟩
  |none=>False
def oZ(P:Program)(X:V->S->Prop)(K:S->Prop):List cu->S->Prop
 |[],s=>K s
 |o::l,s=>match o.gd with
  |none=>IB P s o X (oZ P X K l)
  |some (d,want)=>match s.env d with
   | .d (.bool b)=>if b=want then IB P s o X (oZ P X K l)else oZ P X K l ⟨bu s.env o.dst (.ck []),s.o,s.nx+1⟩
   | .ck []=>oZ P X K l ⟨bu s.env o.dst (.ck []),s.o,s.nx+1⟩
   |_=>False
def JG(b:Nat)(body:(fN->S->Prop)->S->Prop)(Q:fN->S->Prop)(s:S):Prop:=
 ∃ (J:Nat->S->Prop),(∃m s1,bL b s s1/\J m s1)/\∀m s0,J m s0->body (fun e s=>match e with| .normal=>∃m' s1,m'<m/\bL b s s1/\J m' s1|e=>Q e s) s0
@[congr] theorem PE {b:Nat} {body Q} {s s':S} (h:s=s'):JG b body Q s=JG b body Q s':=by subst h;rfl
def qn(t:Bool)(A B:Prop):Prop:=(t=true->A)/\(t=false->B)
@[congr] theorem PF {t t':Bool} {A B:Prop} (h:t=t'):qn t A B=qn t' A B:=by subst h;rfl
@[simp] theorem uI (A B:Prop):qn true A B=A:=by simp[qn]
@[simp] theorem sF (A B:Prop):qn false A B=B:=by simp[qn]
section
variable {P:Program}{n b:Nat}
theorem E9{s:S}{o:cu}{o':Oper}{X X':V->S->Prop}{K K':S->Prop}(fl:o'.op=o.op)(da:o'.dst=o.dst)(hd:ij n o'.dst)(hK:∀s,K s->K' s)(hX:∀v s,X v s->X' v s)(h:IB P s o X K):opW P n s o' X' K':=by
 refine⟨hd, ?_⟩
 rw[da,fl]
 unfold IB at h
 have hs:∀ {op:Op},(match gD P s s.nx op with|some (v,Δ,_)=>K ⟨bu s.env o.dst v,put s.o Δ,s.nx+1⟩|none=>False)->Pj P s s.nx op fun v Δ _=>K' ⟨bu s.env o.dst v,put s.o Δ,s.nx+1⟩:=by
  intro op h
  split at h
  ·rename_i v Δ rd he;exact BE he (hK _ h)
  ·exact h.elim
 split at h
 ·rename_i c hc
  split at h
  ·rename_i f eP
   simp only[hc,eP]
   split at h
   ·rename_i g first cap hf
    unfold Br
    simp only[hf]
    unfold uz
    split at h
    ·rename_i ds eX
     rcases h with⟨out,hP,h|⟨pD,h⟩|⟨pD,h⟩⟩|h
     ·refine .inl ⟨ds,out,eX,hP, ?_⟩
      cases out<;>first|exact hK _ h|exact hX _ _ h
     ·refine .inr (.inl ⟨ds,out,eX,hP,pD, ?_⟩)
      cases out<;>first|exact hK _ h|exact hX _ _ h
     ·refine .inr (.inr (.inl ⟨ds,out,eX,hP,pD, ?_⟩))
      cases out<;>first|exact hK _ h|exact hX _ _ h
     ·exact .inr (.inr (.inr (m9.mono (fun v o n h=>hK _ h) (fun v o n h=>hX _ _ h) h)))
    ·exact .inr (.inr (.inr (m9.mono (fun v o n h=>hK _ h) (fun v o n h=>hX _ _ h) h)))
   ·rename_i id hf
    unfold Br
    simp only[hf]
    exact dU.mono (fun v o n h=>hK _ h) (fun v o n h=>hX _ _ h) h
   ·exact h.elim
  ·rename_i r m eP
   simp only[hc,eP]
   split at h
   ·rename_i g y hr
    simp only[hr]
    unfold uz
    rcases h with⟨ds,eX,out,hP,h|⟨pD,h⟩|⟨pD,h⟩⟩|h
    ·refine .inl ⟨ds,out,eX,hP, ?_⟩
     cases out<;>first|exact hK _ h|exact hX _ _ h
    ·refine .inr (.inl ⟨ds,out,eX,hP,pD, ?_⟩)
     cases out<;>first|exact hK _ h|exact hX _ _ h
    ·refine .inr (.inr (.inl ⟨ds,out,eX,hP,pD, ?_⟩))
     cases out<;>first|exact hK _ h|exact hX _ _ h
    ·exact .inr (.inr (.inr (.inl (cK.mono (fun v o n h=>hK _ h) (fun v o n h=>hX _ _ h) h))))
   ·exact h.elim
  ·rename_i eP hinv
   rw[hc]at h|-
   obtain⟨Jr,args,ts⟩:=c
   cases Jr with
   |value f=>exact absurd rfl (eP f)
   |invoke r m=>exact absurd rfl (hinv r m)
   |_=>exact hs h
 ·rename_i x hx
  simp only[hx]
  split at h
  ·rename_i hv;simp only[hv];exact hX _ _ h
  ·rename_i hv;simp only[hv];exact hX _ _ h
  ·exact h.elim
 ·rename_i x str hx
  rw[hx]at h|-
  split at h
  ·rename_i id l hl
   exact .inr ⟨h.1,id,l,hl,fun e=>hK _ (h.2.1 e),fun i k x e=>hK _ (h.2.2 i k x e)⟩
  ·exact hs h
 ·rename_i hc hp tL
  have h2:=hs h
  cases hh:o.op<;>first
   |exact absurd hh (hc _)
   |exact absurd hh (hp _)
   |exact absurd hh (tL _ _)
   |(rw[hh]at h2;exact h2)
theorem jQ{ops:Array Oper}{X X':V->S->Prop}{K K':S->Prop}(hK:∀s,K s->K' s)(hX:∀v s,X v s->X' v s):∀ (l:List Oper) (l':List cu) (s:S),lx n ops l=some l'->oZ P X K l' s->zf P n ops X' K' l s
 |[],l',s,h,hr=>by simp[lx]at h;subst h;exact hK _ hr
 |o::l,l',s,h,hr=>by
  simp only[lx]at h
  split at h
  ·rename_i x xs hx Iy
   injection h with h;subst h
   unfold I2 at hx
   split at hx
   ·rename_i hd
    have da:ij n o.dst:=by
     unfold Dm at hd;unfold ij
     split at hd<;>simp_all
    simp only[zf,ze]
    cases hg:o.guard with
    |none=>
     simp only[hg]at hx
     injection hx with hx;subst hx
     exact E9 rfl rfl da (fun s hs=>jQ hK hX l xs s Iy hs) hX hr
    |some p=>
     obtain⟨j,want⟩:=p
     simp only[hg]at hx
     cases PG:ss ops j with
     |none=>simp[PG]at hx
     |some d=>
      simp only[PG]at hx
      injection hx with hx;subst hx
      simp only
      simp only[oZ]at hr
      split at hr
      ·rename_i t ht
       simp only[PG,ht]
       split at hr
       ·rename_i e
        exact⟨fun _=>E9 rfl rfl da (fun s hs=>jQ hK hX l xs s Iy hs) hX hr,fun h=>absurd e h⟩
       ·rename_i e
        exact⟨fun h=>absurd h e,fun _=>⟨da,jQ hK hX l xs _ Iy hr⟩⟩
      ·rename_i ht
       simp only[PG,ht]
       exact⟨da,jQ hK hX l xs _ Iy hr⟩
      ·exact hr.elim
   ·cases hx
  ·cases h
end
end Go.Proofs.YtonbelhklnmjnaaGreat
namespace Go.Proofs.YtonbelhklnmjnaaGreat
mutual
def V.refs:V->List Nat
 | .ptr id _=>[id]| .osl id _=>[id]| .pe id _ _ _ _=>[id]| .wY id _ _=>[id]| .mp id=>[id]| .jO id=>[id]
 | .agg cs=>V.aN cs
 | .ck cs=>V.aN cs
 | .func _ a b=>V.aN a++V.aN b
 | .iface _ x=>x.refs
 |_=>[]
def V.aN:List V->List Nat
 |[]=>[]
 |v::vs=>v.refs++V.aN vs
end
mutual
theorem mN:∀ (v:V),∀id∈v.ids,id∈v.refs
 | .osl id _,j,h=>by simpa[V.ids,V.refs]using h
 | .agg cs,j,h=>by simp only[V.ids]at h;simp only[V.refs];exact ke cs j h
 | .iface _ x,j,h=>by simp only[V.ids]at h;simp only[V.refs];exact mN x j h
 | .mp _,j,h=>by simpa[V.ids,V.refs]using h
 | .d _,_,h| .bW,_,h| .ck _,_,h| .ptr _ _,_,h| .pe _ _ _ _ _,_,h| .pp _ _,_,h| .func _ _ _,_,h| .aa,_,h| .qT _,_,h| .wY _ _ _,_,h| .eZ,_,h| .jO _,_,h=>by simp[V.ids]at h
theorem ke:∀ (vs:List V),∀id∈V.bF vs,id∈V.aN vs
 |[],j,h=>by simp[V.bF]at h
 |v::vs,j,h=>by
  simp only[V.bF,V.aN,List.mem_append]at h|-
  exact h.imp (mN v j) (ke vs j)
end
mutual
theorem dB{o o':Nat->ab}:∀ (v:V),(∀id∈v.refs,o' id=o id)->dZ o' v=dZ o v
 | .osl id ep,h=>by simp only[dZ,h id (by simp[V.refs])]
 | .mp id,h=>by simp only[dZ,h id (by simp[V.refs])]
 | .agg cs,h=>by simp only[dZ,iR cs (by simpa[V.refs]using h)]
 | .iface t x,h=>by simp only[dZ,dB x (by simpa[V.refs]using h)]
 | .d _,_| .bW,_| .ck _,_| .ptr _ _,_| .pe _ _ _ _ _,_| .pp _ _,_| .func _ _ _,_| .aa,_| .qT _,_| .wY _ _ _,_| .eZ,_| .jO _,_=>by simp only[dZ]
theorem iR{o o':Nat->ab}:∀ (vs:List V),(∀id∈V.aN vs,o' id=o id)->cn o' vs=cn o vs
 |[],_=>rfl
 |v::vs,h=>by
  simp only[cn,dB v (fun id aB=>h id (by simp[V.aN,aB])),iR vs (fun id aB=>h id (by simp[V.aN,aB]))]
end
theorem gR{o o':Nat->ab}{ids:List Nat}(h:∀id∈ids,o' id=o id):dk o' ids=dk o ids:=by
 rw[l4,l4]
 exact List.map_congr_left fun id aB=>by rw[h id aB]
def pC(s:S)(op:Op):List Nat:=
 match op with
 | .load _ x=>(s.ev x).refs
 | .nilCheck x=>(s.ev x).refs
 | .fieldAddr _ x _=>(s.ev x).refs
 | .indexAddr _ x _=>(s.ev x).refs
 | .store _ x v=>(s.ev x).refs++(s.ev v).refs
 | .buildSlice _ _ parts=>V.aN (parts.toList.map fun p=>s.ev p.2)
 | .binOp _ _ x y _=>(s.ev x).refs++(s.ev y).refs
 | .slice _ x _ _ _=>(s.ev x).refs
 | .lookup _ m k _=>(s.ev m).refs++(s.ev k).refs
 | .mapUpdate _ m k v=>(s.ev m).refs++((s.ev k).refs++(s.ev v).refs)
 | .insert _ m k v=>(s.ev m).refs++((s.ev k).refs++(s.ev v).refs)
 | .range _ x=>(s.ev x).refs
 | .next x _=>(s.ev x).refs
 | .entry x=>(s.ev x).refs
 | .call c=>match c.callee with
   | .builtin _=>V.aN (c.args.toList.map s.ev)
   | .value f=>match s.ev f with
     | .func _ first cap=>V.aN (first++c.args.toList.map s.ev++cap)
     |_=>[]
   |_=>[]
 |_=>[]
section
variable {P:Program}{s s':S}{fr:Nat}
theorem sG{o o':Nat->ab}(v:V)(h:∀id∈v.refs,o' id=o id):qi o' v=qi o v:=by
 cases v with
 |osl id ep=>simp only[qi,h id (by simp[V.refs])]
 |d x=>cases x<;>rfl
 |_=>rfl
theorem sH{o o':Nat->ab}(v:V)(q:Nat)(h:∀id∈v.refs,o' id=o id):oE o' v q=oE o v q:=by
 cases v<;>simp only[oE]<;>rw[h _ (by simp[V.refs])]
theorem DS{o o':Nat->ab}(v:V)(h:∀id∈v.refs,o' id=o id):A2 o' v=A2 o v:=by
 have h1:e8 o' v=e8 o v:=by unfold e8;rw[dB v h]
 cases v<;>first|rfl|simp only[A2,h1]
theorem zr{o o':Nat->ab}(v:V)(h:∀id∈v.refs,o' id=o id):rk o' v=rk o v:=by
 cases v with
 |mp id=>simp only[rk,h id (by simp[V.refs])]
 |d x=>cases x<;>rfl
 |_=>rfl
theorem zu{o o':Nat->ab}(v:V)(h:∀id∈v.refs,o' id=o id):rm o' v=rm o v:=by
 cases v with
 |ptr id off=>simp only[rm,h id (by simp[V.refs])]
 |d x=>cases x<;>rfl
 |_=>rfl
theorem ni{o o':Nat->ab}(v:V)(h:∀id∈v.refs,o' id=o id):ox o' v=ox o v:=by
 cases v with
 |mp id=>simp only[ox,h id (by simp[V.refs])]
 |d x=>cases x<;>rfl
 |_=>rfl
theorem BF{o o':Nat->ab}(v:V)(h:∀id∈v.refs,o' id=o id):pR o' v=pR o v:=by
 cases v with
 |mp id=>simp only[pR,h id (by simp[V.refs])]
 |d x=>cases x<;>rfl
 |_=>rfl
theorem BG{o o':Nat->ab}(v:V)(str:Bool)(h:∀id∈v.refs,o' id=o id):oz o' v str=oz o v str:=by
 cases v with
 |ptr id off=>cases off<;>simp only[oz,h id (by simp[V.refs])]
 |_=>rfl
theorem zw{o o':Nat->ab}(v:V)(h:∀id∈v.refs,o' id=o id):mS o' v=mS o v:=by
 cases v with
 |ptr id off=>cases off<;>simp only[mS,h id (by simp[V.refs])]
 |_=>rfl
theorem zx{o o':Nat->ab}{fr:Nat}{t:TypeId}{P:Program}(v:V)(h:∀id∈v.refs,o' id=o id):mR P o' fr t v=mR P o fr t v:=by
 unfold mR
 cases v with
 |mp id=>simp only[h id (by simp[V.refs])]
 |d x=>cases x<;>rfl
 |_=>rfl
theorem zy{o o':Nat->ab}(v:V)(h:∀id∈v.refs,o' id=o id):oM o' v=oM o v:=by
 cases v with
 |ptr id off=>simp only[oM,h id (by simp[V.refs])]
 |_=>rfl
theorem zA{o o':Nat->ab}(v:V)(h:∀id∈v.refs,o' id=o id):oN o' v=oN o v:=by
 cases v with
 |wY id off n=>simp only[oN,h id (by simp[V.refs])]
 |_=>rfl
theorem DT(op:Op)(hv:∀x∈op.operands,s'.ev x=s.ev x)(ho:∀id∈pC s op,s'.o id=s.o id):gD P s' fr op=gD P s fr op:=by
 cases op<;>simp only[gD]
 case move x=>rw[hv x (by simp[Op.operands])]
 case assign x=>rw[hv x (by simp[Op.operands])]
 case pick c a b=>rw[hv c (by simp[Op.operands]),hv a (by simp[Op.operands]),hv b (by simp[Op.operands])]
 case box t x=>rw[hv x (by simp[Op.operands])]
 case build t parts=>
  have:(parts.toList.map fun p=>(p.1,s'.ev p.2))=parts.toList.map fun p=>(p.1,s.ev p.2):=
   List.map_congr_left fun p hp=>by rw[hv p.2 (by simp only[Op.operands];simp;exact⟨p.1,by simpa using hp⟩)]
  rw[this]
 case buildSlice t len parts=>
  have:(parts.toList.map fun p=>(p.1,s'.ev p.2))=parts.toList.map fun p=>(p.1,s.ev p.2):=
   List.map_congr_left fun p hp=>by rw[hv p.2 (by simp only[Op.operands];simp;exact⟨p.1,by simpa using hp⟩)]
  rw[this]
  have e:(parts.toList.map fun p=>(p.1,s.ev p.2)).map (·.2)=parts.toList.map fun p=>s.ev p.2:=by simp[Function.comp_def]
  have h1:cn s'.o ((parts.toList.map fun p=>(p.1,s.ev p.2)).map (·.2))=cn s.o ((parts.toList.map fun p=>(p.1,s.ev p.2)).map (·.2)):=iR _ (by rw[e];exact ho)
  have h2:dk s'.o (V.bF ((parts.toList.map fun p=>(p.1,s.ev p.2)).map (·.2)))=dk s.o (V.bF ((parts.toList.map fun p=>(p.1,s.ev p.2)).map (·.2))):=
   gR fun id aB=>ho id (by rw[e]at aB;exact ke _ id aB)
  simp only[gQ,h1,h2]
 case load t x=>
  rw[hv x (by simp[Op.operands])]
  cases hx:s.ev x<;>simp only[nh]<;>rw[ho _ (by simp[pC,hx,V.refs])]
 case store t x y=>
  rw[hv x (by simp[Op.operands]),hv y (by simp[Op.operands])]
  have h1:dZ s'.o (s.ev y)=dZ s.o (s.ev y):=dB _ fun id aB=>ho id oK
  have h2:dk s'.o (s.ev y).ids=dk s.o (s.ev y).ids:=gR fun id aB=>ho id SL
  cases hx:s.ev x<;>simp only[rD]<;>rw[ho _ (by simp[pC,hx,V.refs])]
  simp only[h1,h2]
 case nilCheck x=>
  rw[hv x (by simp[Op.operands])]
  cases hx:s.ev x with
  |ptr id off=>simp only[jP];rw[ho _ (by simp[pC,hx,V.refs])]
  |func fn a b=>cases fn<;>rfl
  |_=>rfl
 case binOp op t x y yt=>
  rw[hv x (by simp[Op.operands]),hv y (by simp[Op.operands])]
  have h1:A2 s'.o (s.ev x)=A2 s.o (s.ev x):=DS _ fun id aB=>ho id oK
  have h2:∀a b,pP P s'.o a b (s.ev x) (s.ev y)=pP P s.o a b (s.ev x) (s.ev y):=fun a b=>by
   have h3:∀id∈(s.ev x).refs,s'.o id=s.o id:=fun id aB=>ho id oK
   have h4:=zr (s.ev x) h3
   have h5:=zu (s.ev x) h3
   unfold pP
   rw[h1,h4,h5]
  unfold eC rn
  simp only[h2]
 case slice t x lo hi mx=>
  rw[hv x (by simp[Op.operands])]
  have e1:lo.map s'.ev=lo.map s.ev:=by cases lo<;>simp[hv,Op.operands]
  have e2:hi.map s'.ev=hi.map s.ev:=by cases hi<;>simp[hv,Op.operands]
  have e3:mx.map s'.ev=mx.map s.ev:=by cases mx<;>simp[hv,Op.operands]
  rw[e1,e2,e3]
  have h3:∀id∈(s.ev x).refs,s'.o id=s.o id:=fun id aB=>ho id oK
  have h1:e8 s'.o (s.ev x)=e8 s.o (s.ev x):=by unfold e8;rw[dB _ h3]
  have h2:dk s'.o (s.ev x).ids=dk s.o (s.ev x).ids:=gR fun id aB=>h3 id (mN _ _ aB)
  have h4:Dq P s'.o t (s.ev x) (lo.map s.ev) (hi.map s.ev) (mx.map s.ev)=Dq P s.o t (s.ev x) (lo.map s.ev) (hi.map s.ev) (mx.map s.ev):=by
   cases hx:s.ev x with
   |osl id ep=>simp only[Dq,h3 id (by simp[hx,V.refs])]
   |_=>rfl
  unfold rj pN
  simp only[h1,h2,h4,zy _ h3]
 case field t x f=>rw[hv x (by simp[Op.operands])]
 case typeAssert x xt t ok=>rw[hv x (by simp[Op.operands])]
 case makeMap t r=>cases r<;>rfl
 case lookup t m k ok=>
  rw[hv m (by simp[Op.operands]),hv k (by simp[Op.operands])]
  have h3:∀id∈(s.ev m).refs,s'.o id=s.o id:=fun id aB=>ho id oK
  have h1:dZ s'.o (s.ev k)=dZ s.o (s.ev k):=dB _ fun id aB=>ho id oK
  unfold jf
  simp only[h1,BF _ h3]
 case mapUpdate t m k v=>
  rw[hv m (by simp[Op.operands]),hv k (by simp[Op.operands]),hv v (by simp[Op.operands])]
  have h3:∀id∈(s.ev m).refs,s'.o id=s.o id:=fun id aB=>ho id oK
  have h1:dZ s'.o (s.ev k)=dZ s.o (s.ev k):=dB _ fun id aB=>ho id oK
  have h2:dZ s'.o (s.ev v)=dZ s.o (s.ev v):=dB _ fun id aB=>ho id oK
  have h4:dk s'.o (s.ev v).ids=dk s.o (s.ev v).ids:=gR fun id aB=>ho id SL
  unfold gk
  simp only[h1,h2,h4,ni _ h3]
 case insert t m k v=>
  rw[hv m (by simp[Op.operands]),hv k (by simp[Op.operands]),hv v (by simp[Op.operands])]
  have h3:∀id∈(s.ev m).refs,s'.o id=s.o id:=fun id aB=>ho id oK
  have h1:dZ s'.o (s.ev k)=dZ s.o (s.ev k):=dB _ fun id aB=>ho id oK
  have h2:dZ s'.o (s.ev v)=dZ s.o (s.ev v):=dB _ fun id aB=>ho id oK
  have h4:dk s'.o (s.ev v).ids=dk s.o (s.ev v).ids:=gR fun id aB=>ho id SL
  unfold gk
  simp only[h1,h2,h4,ni _ h3]
 case index t x i=>rw[hv x (by simp[Op.operands]),hv i (by simp[Op.operands])]
 case range t x=>
  rw[hv x (by simp[Op.operands])]
  exact zx _ fun id aB=>ho id oK
 case next x str=>
  rw[hv x (by simp[Op.operands])]
  exact BG _ _ fun id aB=>ho id oK
 case entry x=>
  rw[hv x (by simp[Op.operands])]
  exact zw _ fun id aB=>ho id oK
 case unOp op t x=>rw[hv x (by simp[Op.operands])]
 case convert u t x=>rw[hv x (by simp[Op.operands])]
 case makeInterface t x=>rw[hv x (by simp[Op.operands])]
 case makeFunc fn first cap=>
  have h1:first.toList.map s'.ev=first.toList.map s.ev:=List.map_congr_left fun x hx=>hv x (by simp only[Op.operands];exact Array.mem_append.2 (.inl (Array.mem_toList_iff.1 hx)))
  have h2:cap.toList.map s'.ev=cap.toList.map s.ev:=List.map_congr_left fun x hx=>hv x (by simp only[Op.operands];exact Array.mem_append.2 (.inr (Array.mem_toList_iff.1 hx)))
  rw[h1,h2]
 case makeSlice t l c=>rw[hv l (by simp[Op.operands]),hv c (by simp[Op.operands])]
 case fieldAddr t x f=>
  rw[hv x (by simp[Op.operands])]
  simp only[iP]
  cases cz P t f<;>simp only
  rw[sH _ _ (by simpa[pC]using ho)]
 case indexAddr t x i=>
  rw[hv x (by simp[Op.operands]),hv i (by simp[Op.operands])]
  have h1:∀q,oE s'.o (s.ev x) q=oE s.o (s.ev x) q:=fun q=>sH _ _ (by simpa[pC]using ho)
  simp only[iO,h1]
  cases hx:s.ev x with
  |osl id ep=>simp only[ho id (by simp[pC,hx,V.refs])]
  |d y=>cases y<;>rfl
  |_=>rfl
 case extract x i=>rw[hv x (by simp[Op.operands])]
 case call c=>
  obtain⟨Jr,args,ts⟩:=c
  cases Jr<;>simp only
  rename_i b
  unfold ql
  have hm:∀x∈args.toList,s'.ev x=s.ev x:=fun x hx=>hv x (by simp only[Op.operands,Call.operands];exact Array.mem_append.2 (.inr (Array.mem_toList_iff.1 hx)))
  have hr:∀x∈args.toList,∀id∈(s.ev x).refs,s'.o id=s.o id:=by
   intro x hx id aB
   refine ho id ?_
   simp only[pC]
   generalize args.toList=l at hx
   induction l with
   |nil=>cases hx
   |cons y l ih=>
    simp only[List.map_cons,V.aN,List.mem_append]
    rcases List.mem_cons.1 hx with rfl|hx
    ·exact .inl aB
    ·exact .inr (ih hx)
  split
  ·rename_i x ha
   rw[ha]at hm hr
   rw[hm x (by simp)]
   have h1:∀t,DM P t s'.o (s.ev x)=DM P t s.o (s.ev x):=fun t=>by simp only[DM,sG _ (hr x (by simp))]
   simp only[h1]
  ·rename_i x y ha
   rw[ha]at hm hr
   rw[hm x (by simp),hm y (by simp)]
   simp only[qj,sG _ (hr y (by simp))]
   cases w8 P fr ts (s.ev x) (s.ev y)with
   |some r=>rfl
   |none=>
   dsimp only
   cases hx:s.ev x with
   |osl id ep=>simp only[hr x (by simp) id (by simp[hx,V.refs])]
   |_=>rfl
  ·rename_i x y ha
   rw[ha]at hm
   rw[hm x (by simp),hm y (by simp)]
  ·rename_i x y ha
   rw[ha]at hm
   rw[hm x (by simp),hm y (by simp)]
  ·rename_i x y z h;rw[hm x (by rw[h];simp),hm y (by rw[h];simp),hm z (by rw[h];simp)]
  ·rename_i x y ha
   rw[ha]at hm hr
   rw[hm x (by simp),hm y (by simp)]
   have h1:e8 s'.o (s.ev y)=e8 s.o (s.ev y):=by unfold e8;rw[dB _ (hr y (by simp))]
   have h2:dk s'.o (s.ev y).ids=dk s.o (s.ev y).ids:=gR fun id aB=>hr y aj id (mN _ _ aB)
   unfold w7
   simp only[h1,h2,zA _ (hr x (by simp))]
  ·rename_i x y ha
   rw[ha]at hm hr
   rw[hm x (by simp),hm y (by simp)]
   have h1:dZ s'.o (s.ev y)=dZ s.o (s.ev y):=dB _ (hr y aj)
   have h2:=ni _ (hr x aj)
   simp only[nQ,h1,h2]
  ·rename_i x ha
   rw[ha]at hm
   rw[hm x (by simp)]
  ·rfl
end
end Go.Proofs.YtonbelhklnmjnaaGreat
