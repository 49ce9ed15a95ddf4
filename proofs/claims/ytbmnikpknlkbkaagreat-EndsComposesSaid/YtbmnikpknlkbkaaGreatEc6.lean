/-
  A PART OF THE PROOF. Conditions: none.
-/
import Derived.Test.YtbmnikpknlkbkaaGreatEc5
set_option linter.unusedSimpArgs false
set_option linter.unusedVariables false
namespace Go.Proofs.YtbmnikpknlkbkaaGreat
section
variable {P:Program}{M:Nat->Prop}{φ:Place}{H:Hp}{w w':World}{bN:Place}{H0:Hp}{w0:World}{n b:Nat}{s:S}{a:Act}{cx:Cx}{ro:Option Nat}{k:Nat}
theorem eJ(hb:∀id,H0.us id->id<b)(nK:cx.rd=false->ro=none):∀ (c:Code) (Q:eY->S->Prop) (s:S) (φ:Place) (a:Act) (w:World),fb P n b cx.rd c Q s->bw M bN H0 w0 n cx φ s a w->c.mP P ro (uC M bN H0 w0 n cx Q) a w:=by
 intro c
 induction c with
 |skip=>exact fun Q s φ a w h hs=>ka (k:=0) (wpIn_skip ⟨.normal,s,φ,h,hs,trivial⟩)
 |scope x ih=>exact fun Q s φ a w h hs=>pq (ih Q s φ a w h hs) (fun l a w ⟨xx,s',ai,hq,gy,hm⟩=>by cases xx<;>exact hm)
 |label l=>exact fun Q s φ a w h hs=>ka (k:=0) (wpIn_label ⟨.normal,s,φ,h,hs,trivial⟩)
 |exit id=>exact fun Q s φ a w h hs=>rW ⟨.exit id,s,φ,h,hs,rfl⟩
 |ret=>exact fun Q s φ a w h hs=>uD ⟨.ret,s,φ,h,hs,trivial⟩
 |goto l=>exact fun Q s φ a w h hs=>h.elim
 |refuse y=>exact fun Q s φ a w h hs=>h.elim
 |rangeFunc g ps x y=>exact fun Q s φ a w h hs=>vQ hs h.1 (nK h.1) h.2
 |region id ops draw=>
  intro Q s φ a w h hs
  cases draw with
  |true=>exact ka (h M bN H0 w0 cx φ a w ro 0 hs)
  |false=>
   refine ka (k:=0) (wpIn_region_list (j9 (K:=Q .normal) (X:=fun v s=>Q (.ba v) s) (fun s φ a w hk hs=>⟨.normal,s,φ,hk,hs,trivial⟩) (fun v s φ a w val hx hs hd=>⟨.ba v,s,φ,hx,hs,val,rfl,hd⟩) _ s φ a w h hs))
 |seq x y zA zB=>
  intro Q s φ a w h hs
  refine qh (eA (zA _ s φ a w h hs) ?_)
  rintro e a' w' ⟨xx,s',ai,hq,gy,hm⟩
  cases e<;>cases xx<;>first|(exact hm.elim)|skip
  ·exact zB Q s' ai a' w' hq gy
  ·subst hm;exact⟨_,s',ai,hq,gy,rfl⟩
  ·exact⟨.ret,s',ai,hq,gy,trivial⟩
  ·exact⟨.ba _,s',ai,hq,gy,hm⟩
 |cond c x y zA zB=>
  intro Q s φ a w h hs
  simp only[fb]at h
  have hc:=iQ (M:=M) (φ:=φ) (H:=s.H) (w:=w) s a hs.env c
  split at h
  ·rename_i t hv
   rw[hv]at hc
   simp only[V.den,D.den]at hc
   cases t with
   |true=>exact lg hc (zA Q s φ a w (h.1 rfl) hs)
   |false=>exact lg hc (zB Q s φ a w (h.2 rfl) hs)
  ·rename_i hv
   rw[hv]at hc
   obtain⟨t,hc⟩:=hc
   cases t with
   |true=>exact lg hc (zA Q s φ a w h.1 hs)
   |false=>exact lg hc (zB Q s φ a w h.2 hs)
  ·exact h.elim
 |block id x ih=>
  intro Q s φ a w h hs
  refine vP (eA (ih _ s φ a w h hs) ?_)
  rintro e a' w' ⟨xx,s',ai,hq,gy,hm⟩
  cases e<;>cases xx<;>first|(exact hm.elim)|skip
  ·exact⟨.normal,s',ai,hq,gy,trivial⟩
  ·subst hm
   simp only[Exit.inBlock]
   simp only[dG]at hq
   split
   ·rename_i he;rw[if_pos he]at hq;exact⟨.normal,s',ai,hq,gy,trivial⟩
   ·rename_i he;rw[if_neg he]at hq;exact⟨.exit _,s',ai,hq,gy,rfl⟩
  ·exact⟨.ret,s',ai,hq,gy,trivial⟩
  ·exact⟨.ba _,s',ai,hq,gy,hm⟩
 |loop x ih=>
  intro Q s φ a w h hs
  obtain⟨J,⟨m0,s1,hle,hI⟩,B6⟩:=h
  obtain⟨eX,pw⟩:=xo hb hs hle
  refine qi (fun m a w=>∃s φ,J m s/\bw M bN H0 w0 n cx φ s a w) ?_ m0 a w ⟨s1,eX,hI,pw⟩
  rintro m a w ⟨s,φ,hI,hs⟩
  refine eA (ih _ s φ a w (B6 m s hI) hs) ?_
  rintro e a' w' ⟨xx,s',ai,hq,gy,hm⟩
  cases e<;>cases xx<;>first|(exact hm.elim)|skip
  ·obtain⟨m2,s2,br,I0,Ov⟩:=hq
   obtain⟨vR,y0⟩:=xo hb gy I0
   exact⟨m2,br,s2,vR,Ov,y0⟩
  ·subst hm;exact⟨_,s',ai,hq,gy,rfl⟩
  ·exact⟨.ret,s',ai,hq,gy,trivial⟩
  ·exact⟨.ba _,s',ai,hq,gy,hm⟩
def xp(tmps:Array Value)(r:ResultVar):Sem Value:=
 match r with
 | .tmp t=>pure (tmps.getD t undef)
 | .cell p t=>do loadVar t (<- asAddr (tmps.getD p undef))
theorem m8(lh:af M φ s.H w)(cA:∀i,V.den (ad M φ s.H) φ s.H w (s.env i) (a.tmps.getD i undef)):∀ (rs:List ResultVar) (vs:List V),iw P s rs=some vs->
 ∃vals,(rs.mapM (xp a.tmps)).run P w= .ok vals w/\V.ak (ad M φ s.H) φ s.H w vs vals
 |[],vs,h=>by simp[iw]at h;subst h;exact⟨[],by simp,rfl⟩
 | .tmp t::rs,vs,h=>by
   simp only[iw,Option.map_eq_some_iff]at h
   obtain⟨us,h1,rfl⟩:=h
   obtain⟨vals,h2,h3⟩:=m8 lh cA rs us h1
   exact⟨a.tmps.getD t undef::vals,by simp only[List.mapM_cons,xp,Sem.run_bind,Sem.run_pure,Result.andThen_ok,h2],_,_,rfl,cA t,h3⟩
 | .cell p t::rs,vs,h=>by
   simp only[iw]at h
   split at h
   ·rename_i id off hv
    split at h
    ·rename_i cs ho
     simp only[Option.bind_eq_some_iff,Option.map_eq_some_iff]at h
     obtain⟨v,h0,us,h1,rfl⟩:=h
     obtain⟨vals,h2,h3⟩:=m8 lh cA rs us h1
     have hx:=cA p
     rw[hv]at hx
     obtain⟨_,hu,hp⟩:=hx
     obtain⟨k,cz,da⟩:=hp (by show(s.o id).bc=true;rw[ho];rfl)
     have a8:=lh.ok id
     have px:s.H.o id= .row cs:=ho
     simp only[aq,px]at a8
     obtain⟨b',bY,ty,g1,g2,g3,g4⟩:=a8
     rw[cz]at g1;simp at g1;subst g1
     obtain⟨val,h4,h5⟩:=kL (P:=P) h0 ⟨k,0,none⟩ bY.toList g3 g4 (fun j u hj=>kM g2 j u (by simpa using hj)) rfl
     rw[add_plain,Nat.zero_add]at h4
     have h6:(loadVar t ⟨k,off,none⟩).run P w= .ok val w:=by simpa[Instr.loadAt,Instr.sureAddr]using h4
     exact⟨val::vals,by simp only[List.mapM_cons,xp,da,asAddr,Sem.run_bind,Sem.run_pure,Result.andThen_ok,h6,h2],val,vals,rfl,h5,h3⟩
    ·cases h
   ·cases h
theorem ja{fn:Func}{tmps:Array Value}{vals:List Value}
 (h:(fn.results.toList.mapM (xp tmps)).run P w= .ok vals w):
 (results fn tmps).run P w= .ok (if h:vals.toArray.size=1 then vals.toArray[0]else .tuple vals.toArray) w:=by
 have e:results fn tmps=(do let vs <- fn.results.mapM (xp tmps);pure (if h:vs.size=1 then vs[0]else .tuple vs)):=by
  unfold results
  congr 2
 rw[e,Array.mapM_eq_mapM_toList]
 simp only[Sem.run_bind,Sem.run_map,h,Result.andThen_ok,Sem.run_pure]
theorem jz{us:Nat->Prop}(φ:Place)(hM:∀k,M k->k<w.heap.size):af M φ ⟨fun _=> .no,us⟩ w where
 ok id:=by simp[aq]
 fresh _ _:=rfl
 apart i j k hi:=by simp[aa.live]at hi
 ours k:=by rintro⟨id,h,_⟩;simp[aa.live]at h
 oE:=hM
theorem vS{vals:Array Value}{m i:Nat}:(vals++Array.replicate m undef).getD i undef=(vals[i]?).getD undef:=by
 simp only[Array.getD_eq_getD_getElem?,Array.getElem?_append]
 split
 ·rfl
 ·rw[Array.getElem?_eq_none (xs:=vals) (by omega)]
  simp only[Array.getElem?_replicate]
  split<;>rfl
structure qk (M:Nat->Prop) (bN:Place) (H0:Hp) (w0:World) (φ:Place) (s:S) (tmps:Array Value) (w:World):Prop where
 heap:af M φ s.H w
 tr:Trans bN H0 w0 φ s.H w
 env:∀i,V.den (ad M φ s.H) φ s.H w (s.env i) (tmps.getD i undef)
theorem vT{tmps:Array Value}(hs:qk M bN H0 w0 φ s tmps w){r:Nat}(h1:w0.heap.size<=r)(h2:w.heap[r]? =some (.deferred (some [])))(h3: ¬bp φ s.H r):
 qk M bN H0 w0 φ s tmps {w with heap:=w.heap.setIfInBounds r (.deferred none)}:=by
 have e9:∀b,b≠r->(w.heap.setIfInBounds r (.deferred none))[b]? =w.heap[b]? :=fun b hb=>(MapKept.heap_set h2).2 b hb
 have q9:∀b,bC w b-> ¬ad M φ s.H b->(w.heap.setIfInBounds r (.deferred none))[b]? =w.heap[b]? /\ ¬ad M φ s.H b:=by
  intro b hc hn
  refine⟨e9 b fun e=> ?_,hn⟩
  subst e
  rcases hc with⟨cs,ty,fz,hc⟩|⟨es,clock,hc⟩
  ·rw[h2]at hc;cases hc
  ·rw[h2]at hc;cases hc
 refine⟨⟨fun id=> ?_,hs.heap.fresh,hs.heap.apart,fun b hb=>⟨(hs.heap.ours b hb).1,by simpa using(hs.heap.ours b hb).2⟩,fun b hb=>by simpa using hs.heap.oE b hb⟩,⟨⟨hs.tr.bD.os,hs.tr.bD.tape,hs.tr.bD.output,by simpa using hs.tr.bD.size,fun j hj hm=> ?_⟩,hs.tr.grow,hs.tr.rel⟩,fun i=>V.gL q9 (cM.refl _ _) _ _ (hs.env i)⟩
 ·exact aq.rr q9 (cM.refl _ _) rfl rfl (fun hl b hb=>e9 b fun e=>h3 ⟨id,hl,e ▸ hb⟩) (hs.heap.ok id)
 ·rw[e9 j (by omega)];exact hs.tr.bD.block j hj hm
theorem eB{fn:Func}{R:Ending->World->Prop}{u:FrameMode}(hu:u≠ .run){tmps tb:Array Value}{ds:List Deferred}(hR:∀w,qk M bN H0 w0 φ s tb w->LeavesInM (cL none) k P fn tmps R ds u w):
 ∀ (ms:List Nat) (w:World),ms.Nodup->(∀r∈ms,w0.heap.size<=r/\w.heap[r]? =some (.deferred (some []))/\ ¬bp φ s.H r)->qk M bN H0 w0 φ s tb w->LeavesInM (cL none) k P fn tmps R (ms.map mark++ds) u w
 |[],w,_,_,hs=>hR w hs
 |r::ms,w,hn,hm,hs=>by
  obtain⟨h1,h2,h3⟩:=hm r (by simp)
  obtain⟨Ow,Ih⟩:=List.nodup_cons.1 hn
  refine⟨hu, .inl ⟨r,{w with heap:=w.heap.setIfInBounds r (.deferred none)},rfl, ?_,eB hu hR ms _ Ih (fun r' vK=> ?_) (vT hs h1 h2 h3)⟩⟩
  ·simp[Instr.takeDeferred,getObj,setObj,Sem.run,h2,Result.andThen]
  ·obtain⟨g1,g2,g3⟩:=hm r' (by simp[vK])
   exact⟨g1,((MapKept.heap_set h2).2 r' (fun e=>Ow (e ▸ vK))).trans g2,g3⟩
theorem bw.LO (hs:bw M bN H0 w0 n cx φ s a w):qk M bN H0 w0 φ s a.tmps w:=⟨hs.heap,hs.tr,hs.env⟩
def iB(P:Program)(rs:List ResultVar)(K X:V->(Nat->aa)->Nat->Prop)(e:eY)(s:S):Prop:=
 match e with
 | .normal| .ret=>match iw P s rs with
   |some [v]=>K v s.o s.nx
   |some vs=>K (.bJ vs) s.o s.nx
   |none=>False
 | .ba v=>X v s.o s.nx
 | .exit _=>False
theorem rY{P:Program}{rs:List ResultVar}{K X:V->(Nat->aa)->Nat->Prop}{s:S}(h:iB P rs K X .ret s):∃vs,iw P s rs=some vs/\K (match vs with|[v]=>v|vs=> .bJ vs) s.o s.nx:=by
 unfold iB at h
 simp only at h
 split at h
 ·rename_i v h1;exact⟨[v],h1,h⟩
 ·rename_i vs h1 h2
  refine⟨vs,h2, ?_⟩
  split
  ·exact absurd rfl (h1 _)
  ·exact h
 ·exact h.elim
theorem rZ:∀ {vs:List V} {vals:List Value},V.ak (ad M φ H) φ H w vs vals->V.den (ad M φ H) φ H w (match vs with|[v]=>v|vs=> .bJ vs) (if h:vals.toArray.size=1 then vals.toArray[0]else .tuple vals.toArray)
 |[],vals,h=>by simp only[V.ak]at h;subst h;exact⟨#[],rfl,rfl⟩
 |[v],vals,h=>by obtain⟨u,us,rfl,h1,h2⟩:=h;simp only[V.ak]at h2;subst h2;exact h1
 |v::y::l,vals,h=>by
  have h':=h
  obtain⟨u,us,rfl,h1,u2,us2,rfl,h2⟩:=h
  exact⟨(u::u2::us2).toArray,by simp,by simpa using h'⟩
theorem nN{vals:Array Value}{m:Nat}{vs:List V}(hd:V.ak (ad M φ H) φ H w vs vals.toList)(i:Nat):V.den (ad M φ H) φ H w (bT vs i) ((vals++Array.replicate m undef).getD i undef):=by
 have hlen:=V.aj _ _ hd
 simp only[bT,vS]
 cases hx:vs[i]? with
 |none=>
  have:vals[i]? =none:=by
   rw[List.getElem?_eq_none_iff]at hx
   apply Array.getElem?_eq_none
   simp at hlen;omega
  simp only[List.getD_eq_getElem?_getD,hx,this]
  exact⟨#[],rfl,rfl⟩
 |some v=>
  obtain⟨u,hu,zf⟩:=V.cD _ _ _ _ hd hx
  have oM:vals[i]? =some u:=by simpa using hu
  simp only[List.getD_eq_getElem?_getD,hx,oM,Option.getD_some]
  exact zf
theorem jb{f:FuncId}{fn:Func}{c:Code}{args:Array Value}{w:World}{R:Ending->World->Prop}(hf:P.funcs[f]? =some fn)(hb:fn.body=some c)
 (h:c.mP P none (bodyPostM (cL none) k P fn R) {tmps:=args++Array.replicate (fn.ntmps - args.size) undef,defers:=[]} w):CallsIn (cL none) k P f args w R:=by
 have br:f<P.funcs.size:=(Array.getElem?_eq_some_iff.1 hf).1
 refine⟨trivial,fun cs hr=> ?_⟩
 let b:Frame:={(default:Frame)with fn:=f,kind:= .normal,roundOf:=none}
 have iA:Frame.enter P f args .normal=b.atR {tmps:=args++Array.replicate (fn.ntmps - args.size) undef,defers:=[]} [.code c]:=by
  simp[Frame.enter,Frame.atR,hf,hb,b]
 obtain⟨e,a',w',hq,bL⟩:=h b [] cs rfl br
 rw[<- iA]at bL
 cases e with
 |normal=>
  obtain⟨e',AG,E5,hR,hs,vO,hl⟩:=leaves_stepsInM a'.defers .returning w' {b.atR a' []with mode:= .returning} cs rfl rfl rfl hf rfl (trivial:(cL none).fn f) hr hq
  exact⟨e',AG,E5,hR,ComesIn.of_steps (StepsIn.trans bL (.one (fenced_calm (n:=0) (fr:=b.atR a' []) trivial ez rfl) (stepR_end rfl))) hs,vO,hl⟩
 |ret=>
  obtain⟨todo,xq⟩:=bL.1 rfl
  obtain⟨e',AG,E5,hR,hs,vO,hl⟩:=leaves_stepsInM a'.defers .returning w' {b.atR a' todo with mode:= .returning} cs rfl rfl rfl hf rfl (trivial:(cL none).fn f) hr hq
  exact⟨e',AG,E5,hR,ComesIn.of_steps xq hs,vO,hl⟩
 |panic chain=>
  obtain⟨todo,xq⟩:=bL
  obtain⟨e',AG,E5,hR,hs,vO,hl⟩:=leaves_stepsInM a'.defers (.panicking chain) w' {b.atR a' todo with mode:= .panicking chain} cs rfl rfl rfl hf rfl (trivial:(cL none).fn f) hr hq
  exact⟨e',AG,E5,hR,ComesIn.of_steps xq hs,vO,hl⟩
 |exit id=>exact hq.elim
 |goto l=>exact hq.elim
 |outgrown=>exact⟨.outgrown,w',b,hq,bL.resolve_left (by simp[b]),rfl,trivial⟩
def tH(P:Program)(l:Nat)(R:Ending->World->Prop):Exit->Act->World->Prop
 | .normal,_,w=>∃v w',(Instr.endRound l none).run P w= .ok v w'/\R (.returned v) w'
 | .ret,_,w=>∃v w',(Instr.endRound l (some .ret)).run P w= .ok v w'/\R (.returned v) w'
 | .exit id,_,w=>∃v w',(Instr.endRound l (some (.exit id))).run P w= .ok v w'/\R (.returned v) w'
 | .goto _,_,_=>False
 | .panic chain,a,w=>a.defers=[]/\R (.panicked chain) w
 | .outgrown,_,_=>False
theorem nO{l:Nat}{f:FuncId}{tmps:Array Value}{assign body:Code}{w:World}{R:Ending->World->Prop}(hf:f<P.funcs.size)
 (h:assign.mP P (some l) (Exit.then (fun fj dX=>∃l5,(Instr.beginRound l).run P dX= .ok () l5/\body.mP P (some l) (tH P l R) fj l5) (fun e a w=>match e with| .panic chain=>a.defers=[]/\R (.panicked chain) w|_=>False))
  {tmps:=tmps,defers:=[]} w):
 RoundIn Fence.wide n P l f tmps assign body w R:=by
 refine⟨trivial,fun c cs hr=> ?_⟩
 let b:Frame:={(default:Frame)with fn:=f,kind:= .normal,roundOf:=some l}
 have E6:Frame.round l f tmps assign body .normal=b.atR {tmps:=tmps,defers:=[]} [.code assign, .beginRound, .code body]:=by
  simp[Frame.round,Frame.atR,b]
 have calm:∀ (m:Machine),m.fenced P Fence.wide:=fun m=>fenced_wide P m
 have ba:∀ {a:Act} {w:World} {todo:List Item} {chain:List PanicEntry},a.defers=[]->step P (lone {b.atR a todo with mode:= .panicking chain} (c::cs) w)= .next (lone (c.raise chain) cs w):=by
  intro a w todo chain hd
  exact step_leave_panicked (fr:={b.atR a todo with mode:= .panicking chain}) ⟨rfl,hd,P.funcs[f],by show P.funcs[f]? =_;simp[hf]⟩
 obtain⟨e,fj,dX,hq,bL⟩:=h b [.beginRound, .code body] (c::cs) rfl hf
 rw[<- E6]at bL
 cases e with
 |normal=>
  obtain⟨l5,Ox,lj⟩:=hq
  have s1:StepsIn (Machine.fenced P Fence.wide) P (lone (b.atR fj [.beginRound, .code body]) (c::cs) dX) (lone (b.atR fj [.code body]) (c::cs) l5):= .one (calm _) (stepR_beginRound rfl Ox)
  obtain⟨B3,E4,tD,kZ,gu⟩:=lj b [] (c::cs) rfl hf
  have bL:StepsIn (Machine.fenced P Fence.wide) P _ _:=bL
  cases B3 with
  |normal=>
   obtain⟨v,mQ,nM,hR⟩:=kZ
   have gu:StepsIn (Machine.fenced P Fence.wide) P _ _:=gu
   exact⟨.returned v,mQ,hR,(StepsIn.trans bL s1).trans (StepsIn.trans gu (.one (calm _) (stepR_round_end rfl rfl nM)))⟩
  |ret=>
   obtain⟨v,mQ,nM,hR⟩:=kZ
   obtain⟨k₁,hs⟩:=gu.2 rfl
   have hs:StepsIn (Machine.fenced P Fence.wide) P _ _:=hs
   exact⟨.returned v,mQ,hR,(StepsIn.trans bL s1).trans (StepsIn.trans hs (.one (calm _) (stepR_round_ret rfl rfl nM)))⟩
  |exit id=>
   obtain⟨v,mQ,nM,hR⟩:=kZ
   obtain⟨k₁,hk,hs⟩:=gu.2 rfl rfl
   have hs:StepsIn (Machine.fenced P Fence.wide) P _ _:=hs
   exact⟨.returned v,mQ,hR,(StepsIn.trans bL s1).trans (StepsIn.trans hs (.one (calm _) (stepR_round_exit rfl rfl hk nM)))⟩
  |goto t=>exact kZ.elim
  |panic chain=>
   obtain⟨todo,hs⟩:=gu
   have hs:StepsIn (Machine.fenced P Fence.wide) P _ _:=hs
   exact⟨.panicked chain,tD,kZ.2,(StepsIn.trans bL s1).trans (StepsIn.trans hs (.one (calm _) (ba kZ.1)))⟩
  |outgrown=>exact kZ.elim
 |exit id=>exact hq.elim
 |goto t=>exact hq.elim
 |ret=>exact hq.elim
 |panic chain=>
  obtain⟨todo,hs⟩:=bL
  have hs:StepsIn (Machine.fenced P Fence.wide) P _ _:=hs
  exact⟨.panicked chain,dX,hq.2,StepsIn.trans hs (.one (calm _) (ba hq.1))⟩
 |outgrown=>exact hq.elim
theorem jx.uG {f:FuncId}{fn:Func}{c:Code}{args:List V}{o:Nat->aa}{nx:Nat}{K X:V->(Nat->aa)->Nat->Prop}(hf:P.funcs[f]? =some fn)(hn:(fn.name== "runtime.NumGoroutine")=false)(lj:fn.body=some c)(hl:args.length<=fn.ntmps)
 (h:fb P fn.ntmps nx false c (iB P fn.results.toList K X) ⟨bT args,o,nx⟩):jx P f args o nx K X:=by
 refine⟨⟨fn,hf,hn,by rw[lj];rfl⟩,fun M φ w vals hH hd=> ?_⟩
 have hlen:=V.aj _ _ hd
 let s0:S:=⟨bT args,o,nx⟩
 let a0:Act:={tmps:=vals++Array.replicate (fn.ntmps - vals.size) undef,defers:=[]}
 have zC:bw M φ (hp o nx) w fn.ntmps ⟨[],false⟩ φ s0 a0 w:=by
  refine⟨hH,Trans.refl _ _ _, ?_,⟨[],rfl,List.nodup_nil,fun _=>rfl,fun r hr=>by cases hr⟩,nN hd⟩
  simp only[a0,Array.size_append,Array.size_replicate];simp at hlen;omega
 refine rR (ro:=none) (k:=0) (jb hf lj (eA (eJ (P:=P) (H0:=hp o nx) (b:=nx) (cx:=⟨[],false⟩) (ro:=none) (fun id hu=>hu) (fun _=>rfl) c _ s0 φ a0 w h zC) ?_))
 rintro e a w' ⟨x,s,ai,hq,hs,hm⟩
 obtain⟨ms,g1,g2,g3,g4⟩:=hs.defers
 rw[List.append_nil]at g1
 have done:(x= .normal\/x= .ret)->LeavesInM (cL none) 0 P fn a.tmps (iV M φ (hp o nx) w K X) a.defers .returning w':=by
  intro hx
  have Oy:iB P fn.results.toList K X .ret s:=by rcases hx with rfl|rfl<;>exact hq
  obtain⟨vs,h1,h2⟩:=rY Oy
  rw[g1]
  have:=eB (P:=P) (k:=0) (fn:=fn) (R:=iV M φ (hp o nx) w K X) (u:= .returning) (by simp) (ds:=[]) (fun w2 hb=>by
   obtain⟨vals,h3,h4⟩:=m8 (P:=P) (a:=a) hb.heap hb.env _ _ h1
   exact⟨_,ja h3,ai,s.o,s.nx,_,hb.heap,hb.tr,rZ h4,h2⟩) ms w' g2 g4 hs.LO
  rwa [List.append_nil]at this
 cases e<;>cases x<;>first|(exact hm.elim)|skip
 ·exact done (.inl rfl)
 ·exact hq.elim
 ·exact done (.inr rfl)
 ·rename_i v
  obtain⟨val,rfl,I1⟩:=hm
  show LeavesInM (cL none) 0 P fn a.tmps (iV M φ (hp o nx) w K X) a.defers _ w'
  rw[g1]
  have E6:qk M φ (hp o nx) w ai ⟨fun i=>if i=0 then v else .aE,s.o,s.nx⟩ #[val] w':=⟨hs.heap,hs.tr,fun i=>by
   by_cases hi:i=0
   ·subst hi;exact I1
   ·simp only[hi,if_false];trivial⟩
  have:=eB (P:=P) (k:=0) (fn:=fn) (s:=⟨fun i=>if i=0 then v else .aE,s.o,s.nx⟩) (tmps:=a.tmps) (tb:=#[val]) (bN:=φ) (H0:=hp o nx) (w0:=w) (R:=iV M φ (hp o nx) w K X) (u:= .panicking [{v:=val,recovered:=false}]) (by simp) (ds:=[]) (fun w2 hb=>by
   have h0:=hb.env 0
   exact⟨ai,s.o,s.nx,v,hb.heap,hb.tr,val,rfl,h0,hq⟩) ms w' g2 g4 E6
  rwa [List.append_nil]at this
theorem cR.kb {f:FuncId}{ds:List D}{out:R}(h:jx P f (ds.map .d) (fun _=> .no) 0 (fun v o _=>∃vs rs,v=(match vs with|[v]=>v|vs=> .bJ vs)/\bt o vs=some rs/\out= .ret rs) (fun v o _=>∃x,dk o v=some x/\out= .ba x)):cR P f ds out:=by
 refine⟨h.1,fun M w vals hM hd=> ?_⟩
 let bN:Place:=fun _=> .nilFunc
 have ql:∀b, ¬bp bN (hp (fun _=> .no) 0) b:=by rintro b ⟨id,hl,_⟩;simp[hp,aa.live]at hl
 refine(h.2 M bN w vals (jz bN hM) ((V.bE _ _).2 (D.aw (w:=w) (w':=w) (B:=M) (fun b _ hB=>⟨rfl,fun h=>h.elim hB (ql b)⟩) _ _ hd))).mono ?_
 rintro e w' ⟨ai,o',nx',v,k1,k2,k3⟩
 have E7:dh (fun _=>False) w w':=⟨k2.bD.os,k2.bD.tape,k2.bD.output,k2.bD.size,fun k hk _=>k2.bD.block k hk (ql k)⟩
 have fin:∀ (vs:List V) (xs:List D) (vals:List Value),bt o' vs=some xs->V.ak (ad M ai (hp o' nx')) ai (hp o' nx') w' vs vals->D.ak M w' xs vals:=by
  intro vs xs vals h1 h2
  obtain⟨f1,f2,f3,f4,f5⟩:=cj k1 (V.aP vs) (bG vs _ h2)
  have h3:=cp f1 vs xs vals f3 h1 (V.aw f2 _ _ h2)
  exact D.aw (w:=w') (w':=w') (fun k _ hB=>⟨rfl,fun hM=>hB (.inl hM)⟩) xs vals h3
 refine⟨E7, ?_⟩
 cases e with
 |outgrown=>exact k3.elim
 |panicked ch=>
  obtain⟨val,rfl,g1,x,g2,rfl⟩:=k3
  have:=fin [v] [x] [val] (by simp[bt,g2]) ⟨val,[],rfl,g1,rfl⟩
  obtain⟨u,us,he,h2,_⟩:=this
  simp at he;obtain⟨rfl,rfl⟩:=he
  exact⟨val,rfl,h2⟩
 |returned val=>
  obtain⟨g1,vs,rs,rfl,g2,rfl⟩:=k3
  match vs,g1,g2 with
  |[],g1,g2=>
   obtain⟨arr,rfl,hv⟩:=g1
   simp only[bt,Option.some.injEq]at g2;subst g2
   exact⟨arr,rfl,hv⟩
  |[v],g1,g2=>
   have:=fin [v] rs [val] g2 ⟨val,[],rfl,g1,rfl⟩
   cases rs with
   |nil=>cases this
   |cons x l=>
    obtain⟨u,us,he,h2,h3⟩:=this
    simp at he;obtain⟨rfl,rfl⟩:=he
    cases l with
    |nil=>exact h2
    |cons y l=>obtain⟨_,_,h,_⟩:=h3;cases h
  |v::v2::l,g1,g2=>
   obtain⟨arr,rfl,h⟩:=g1
   have:=fin (v::v2::l) rs arr.toList g2 h
   have hl:=D.aj _ _ this
   have B7:=V.aj _ _ h
   match rs,hl,this with
   |[],hl,_=>rw[B7]at hl;simp at hl
   |[x],hl,_=>rw[B7]at hl;simp at hl
   |x::y::l,_,this=>exact⟨arr,rfl,this⟩
theorem vU{rs:List ResultVar}{out:R}(e:eY)(s:S)(h:tC P rs out e s):
 iB P rs (fun v o _=>∃vs rs,v=(match vs with|[v]=>v|vs=> .bJ vs)/\bt o vs=some rs/\out= .ret rs) (fun v o _=>∃x,dk o v=some x/\out= .ba x) e s:=by
 have ret:tC P rs out .ret s->iB P rs (fun v o _=>∃vs rs,v=(match vs with|[v]=>v|vs=> .bJ vs)/\bt o vs=some rs/\out= .ret rs) (fun v o _=>∃x,dk o v=some x/\out= .ba x) .ret s:=by
  intro h
  obtain⟨vs,xs,h1,h2,h3⟩:=xh h
  simp only[iB,h1]
  match vs,h2 with
  |[],h2=>exact⟨[],xs,rfl,h2,h3⟩
  |[v],h2=>exact⟨[v],xs,rfl,h2,h3⟩
  |v::v2::l,h2=>exact⟨v::v2::l,xs,rfl,h2,h3⟩
 cases e with
 |normal=>exact ret h
 |ret=>exact ret h
 |exit id=>exact h.elim
 |ba v=>exact xi h
end
end Go.Proofs.YtbmnikpknlkbkaaGreat
namespace Go.Proofs.YtbmnikpknlkbkaaGreat
def xr{α:Type}(c:Bool)(x:α):Option α:=if c=true then some x else none
def one(v:V):Option eu:=some (v,[],[])
def r8(op:BinOp)(k:IntKind)(a b:Int):Option V:=
 match op with
 | .add=>some (.d (.int k (k.wrap (a+b))))
 | .sub=>some (.d (.int k (k.wrap (a - b))))
 | .mul=>some (.d (.int k (k.wrap (a*b))))
 | .quo=>if b=0 then none else some (.d (.int k (k.wrap (a.tdiv b))))
 | .rem=>if b=0 then none else some (.d (.int k (a.tmod b)))
 | .and=>(nq .and k a b).map fun r=> .d (.int k r)
 | .or=>(nq .or k a b).map fun r=> .d (.int k r)
 | .xor=>(nq .xor k a b).map fun r=> .d (.int k r)
 | .andNot=>(nq .andNot k a b).map fun r=> .d (.int k r)
 | .eql=>some (.d (.bool (a==b)))| .neq=>some (.d (.bool (a !=b)))| .lss=>some (.d (.bool (decide (a<b))))| .leq=>some (.d (.bool (decide (a<=b))))
 | .gtr=>some (.d (.bool (decide (b<a))))| .geq=>some (.d (.bool (decide (b<=a))))
 |_=>none
def aA(P:Program)(t:TypeId):Bool:=
 match P.underlying t with
 |some .bool=>true
 |_=>false
def qm(P:Program)(op:BinOp)(t:TypeId)(x y:V):Option V:=
 match x,y with
 | .d (.int k a), .d (.int k' b)=>if k=k' then r8 op k a b else none
 | .d (.bool a), .d (.bool b)=>match op with
   | .eql=>xr (aA P t) (.d (.bool (a==b)))
   | .neq=>xr (aA P t) (.d (.bool (a !=b)))
   |_=>none
 | .d (.str a), .d (.str b)=>match op with
   | .eql=>some (.d (.bool (a==b)))
   | .neq=>some (.d (.bool (a !=b)))
   |_=>none
 |_,_=>none
def I2(op:UnOp)(x:V):Option V:=
 match op,x with
 | .neg, .d (.int k n)=>some (.d (.int k (k.wrap (-n))))
 | .not, .d (.bool b)=>some (.d (.bool !b))
 |_,_=>none
def ll(c a b:V):Option V:=
 match c with
 | .d (.bool true)=>some a
 | .d (.bool false)=>some b
 |_=>none
def lp(o:Nat->aa)(x:V):Option (List D×List Nat):=
 match x with
 | .d (.sl es)=>some (es,[])
 | .aI=>some ([],[])
 | .jU es=>some (es,[])
 | .osl id ep=>match o id with
   | .arr eF _ _ es=>if ep=eF then some (es,[id])else none
   | .ky eF es=>if ep=eF then some (es,[id])else none
   |_=>none
 |_=>none
def tI(P:Program)(t:TypeId)(o:Nat->aa)(x:V):Option eu:=
 match P.underlying t with
 |some (.slice _)=>match lp o x with
  |some (es,rd)=>some (.d (.int .i64 es.length),[],rd)
  |none=>none
 |some .string=>match x with
  | .d (.str s)=>one (.d (.int .i64 s.length))
  |_=>none
 |some (.array n _)=>one (.d (.int .i64 n))
 |_=>none
def py(P:Program)(e:TypeId)(es:List D)(i:Int)(rd:List Nat):Option eu:=
 if 0<=i then match es[i.toNat]? with
  |some y=>xr (y.cells.length==P.cellsOf e&&0<P.cellsOf e) (.pp y.cells 0,[],rd)
  |none=>none
 else none
def jQ(o:Nat->aa)(x:V)(q:Nat):Option V:=
 match x with
 | .ptr id off=>xr (o id).bc (.ptr id (off+q))
 | .pp cs off=>some (.pp cs (off+q))
 | .pe id ep j sz off=>if(o id).aL=some ep then some (.pe id ep j sz (off+q))else none
 |_=>none
def eK(P:Program)(o:Nat->aa)(t:TypeId)(x ix:V):Option eu:=
 match ix with
 | .d (.int _ i)=>match aB P t with
   |some e=>match x with
    | .d (.sl es)=>py P e es i []
    | .jU es=>py P e es i []
    | .osl id ep=>match o id with
      | .arr eF _ sz es=>if ep=eF/\0<=i/\i.toNat<es.length/\sz=P.cellsOf e/\0<P.cellsOf e then some (.pe id ep i.toNat sz 0,[],[id])else none
      | .ky eF es=>if ep=eF then py P e es i [id]else none
      |_=>none
    |_=>none
   |none=>match bA P t with
    |some (n,e)=>if 0<=i/\i<n/\(P.info? e).isSome=true then(jQ o x (i.toNat*P.cellsOf e)).bind one else none
    |none=>none
 |_=>none
def eL(P:Program)(o:Nat->aa)(t:TypeId)(x:V)(f:Nat):Option V:=
 match aW P t f with
 |some q=>jQ o x q
 |none=>none
def jc(P:Program)(o:Nat->aa)(t:TypeId)(x:V):Option eu:=
 match x with
 | .ptr id off=>match o id with
   | .row cs=>match dq P t cs off with
     |some v=>some (v,[],[id])
     |none=>none
   |_=>none
 | .pp cs off=>match dq P t (cs.map .d) off with
   |some v=>some (v,[],[])
   |none=>none
 | .pe id ep i sz off=>match o id with
   | .arr eF _ jF es=>if ep=eF/\sz=jF then match es[i]? with
    |some e=>match dq P t (e.cells.map .d) off with
     |some v=>some (v,[],[id])
     |none=>none
    |none=>none
     else none
   |_=>none
 |_=>none
def l6(P:Program)(o:Nat->aa)(t:TypeId)(x v:V):Option eu:=
 match x with
 | .ptr id off=>match o id with
   | .row cs=>match p5 P t cs off v with
     |some cs'=>some (.bJ [],[(id, .row cs')],[id])
     |none=>none
   |_=>none
 | .pe id ep i jF off=>match o id with
   | .arr eF ty sz es=>if ep=eF/\jF=sz then match es[i]?,dk o v with
    |some e,some y=>if y.cells.length=P.cellsOf t/\0<y.cells.length/\v.ids.all (· !=id)=true then match e.put off y.cells with
     |some e'=>some (.bJ [],b8 o v.ids++[(id, .arr ep ty sz (es.set i e'))],id::v.ids)
     |none=>none
     else none
    |_,_=>none
     else none
   |_=>none
 |_=>none
def ef(P:Program)(o:Nat->aa)(fr:Nat)(t:TypeId)(len:Nat)(parts:List (Nat×V)):Option eu:=
 match aB P t with
 |some e=>if len=0/\parts.isEmpty=true/\0<P.cellsOf e then some (.osl fr 0,[(fr, .arr 0 e (P.cellsOf e) [])],[])else if parts.map (·.1)=List.range len/\(aK P e).isSome=true/\0<len/\0<P.cellsOf e/\len*P.cellsOf e<=2^24 then match bt o (parts.map (·.2))with
  |some ds=>if ds.all (fun x=>x.cells.length==P.cellsOf e)=true then some (.osl fr 0,b8 o (V.aP (parts.map (·.2)))++[(fr, .arr 0 e (P.cellsOf e) ds)],V.aP (parts.map (·.2)))else none
  |none=>none
  else none
 |none=>none
def iC(P:Program)(fr:Nat)(t:TypeId)(l c:V):Option eu:=
 match aB P t with
 |some e=>match l,c with
  | .d (.int _ n), .d (.int _ m)=>if n=m/\0<=n/\0<P.cellsOf e/\P.bytesOf e*n.toNat<=2^47/\n.toNat<=2^47 then match aR P e with
   |some x=>some (.osl fr 0,[(fr, .arr 0 e (P.cellsOf e) (List.replicate n.toNat x))],[])
   |none=>none
    else none
  |_,_=>none
 |none=>none
def lq(P:Program)(o:Nat->aa)(fr:Nat)(ts:Array TypeId)(x y:V):Option eu:=
 match ts.toList with
 |[t,t']=>if t=t' then match aB P t,lp o y with
    |some e,some (new,rd)=>if 0<P.cellsOf e/\(aK P e).isSome=true/\new.all (fun z=>z.cells.length==P.cellsOf e)=true then match x with
     | .aI=>if new.length<=2^47/\new.length*P.bytesOf e<=2^47 then some (.osl fr 0,[(fr, .arr 0 e (P.cellsOf e) new)],rd)else none
     | .jU es=>if es.all (fun z=>z.cells.length==P.cellsOf e)=true then(if new=[]then some (.jU es,[],rd)else if es.length+new.length<=2^40/\(es.length+new.length)*P.bytesOf e<=2^40 then some (.osl fr 0,[(fr, .arr 0 e (P.cellsOf e) (es++new))],rd)else none)else none
     | .osl id ep=>match o id with
       | .arr eF ty sz es=>if ep=eF/\ty=e/\sz=P.cellsOf e/\es.length+new.length<=2^47/\(es.length+new.length)*P.bytesOf e<=2^47 then
        some (.osl id (ep+1),[(id, .arr (ep+1) ty sz (es++new))],id::rd)else none
       |_=>none
     |_=>none
     else none
    |_,_=>none
  else none
 |_=>none
def lr(isMax:Bool)(x y:V):Option V:=
 match x,y with
 | .d (.int k a), .d (.int k' b)=>if k=k' then some (.d (.int k (if isMax then(if b>a then b else a)else(if b<a then b else a))))else none
 |_,_=>none
def iD(x:Option V):Option eu:=match x with|some v=>one v|none=>none
def lu(P:Program)(s:S)(fr:Nat)(b:Builtin)(args:List Operand)(ts:Array TypeId):Option eu:=
 match b,args with
 | .len,[x]=>match ts.toList with
   |[t]=>tI P t s.o (s.ev x)
   |_=>none
 | .append,[x,y]=>match oY P fr ts (s.ev x) (s.ev y)with
   |some r=>some r
   |none=>lq P s.o fr ts (s.ev x) (s.ev y)
 | .max,[x,y]=>iD (lr true (s.ev x) (s.ev y))
 | .min,[x,y]=>iD (lr false (s.ev x) (s.ev y))
 | .max,[x,y,z]=>iD (uu (s.ev x) (s.ev y) (s.ev z))
 | .copy,[x,y]=>oW P s.o ts (s.ev x) (s.ev y)
 | .delete,[x,y]=>match ts.toList.head? with
   |some t=>kI P s.o t (s.ev x) (s.ev y)
   |none=>none
 | .cap,[x]=>y9 P ts (s.ev x)
 |_,_=>none
def qn(P:Program)(t:TypeId)(parts:List (Nat×V)):Option V:=
 match aK P t,bS P t with
 |some z,some pl=>match mf pl z parts with
  |some cs=>some (cS cs)
  |none=>none
 |_,_=>none
def fm(o:Nat->aa)(x:V):Option V:=
 match x with
 | .ptr id off=>xr (o id).bc (.ptr id off)
 | .pp cs off=>some (.pp cs off)
 | .func (.func f) first cap=>some (.func (.func f) first cap)
 |_=>none
def ah(P:Program)(t:TypeId):Bool:=
 match P.underlying t with
 |some (.interface _)=>false
 |some _=>true
 |none=>false
def xu(P:Program)(t:TypeId)(x:V):Option V:=
 xr (ah P t) (match x with
  | .d y=> .d (.iface t y)
  |v=> .iface t v)
def cy(P:Program)(o:Nat->aa)(op:BinOp)(t:TypeId)(kD:Bool)(x y:V):Option eu:=
 match qm P op t x y with
 |some v=>one v
 |none=>lX P o op t kD x y
def r9(op:UnOp)(x:V):Option V:=
 match op,x with
 | .not, .dy=>some .dy
 |op,x=>I2 op x
def ei(P:Program)(s:S)(fr:Nat)(op:Op):Option eu:=
 match op with
 | .move x=>one (s.ev x)
 | .assign x=>one (s.ev x)
 | .pick c a b=>iD (ll (s.ev c) (s.ev a) (s.ev b))
 | .alloc t=>match aK P t with
   |some cs=>some (.ptr fr 0,[(fr, .row cs)],[])
   |none=>none
 | .box _ x=>match(s.ev x).cells with
   |some cs=>some (.ptr fr 0,[(fr, .row cs)],[])
   |none=>none
 | .build t parts=>iD (qn P t (parts.toList.map fun p=>(p.1,s.ev p.2)))
 | .buildSlice t len parts=>ef P s.o fr t len (parts.toList.map fun p=>(p.1,s.ev p.2))
 | .load t x=>jc P s.o t (s.ev x)
 | .store t x v=>l6 P s.o t (s.ev x) (s.ev v)
 | .nilCheck x=>iD (fm s.o (s.ev x))
 | .binOp op t x y _=>cy P s.o op t (isConst x||isConst y) (s.ev x) (s.ev y)
 | .unOp op _ x=>iD (r9 op (s.ev x))
 | .convert u t x=>match P.underlying u,bB P t,s.ev x with
   |some _,some k, .d (.int _ n)=>one (.d (.int k (k.wrap n)))
   |_,_,_=>none
 | .makeInterface t x=>iD (xu P t (s.ev x))
 | .makeFunc fn first cap=>one (.func fn (first.toList.map s.ev) (cap.toList.map s.ev))
 | .makeSlice t l c=>iC P fr t (s.ev l) (s.ev c)
 | .fieldAddr t x f=>iD (eL P s.o t (s.ev x) f)
 | .indexAddr t x i=>eK P s.o t (s.ev x) (s.ev i)
 | .extract x i=>match s.ev x with
   | .bJ vs=>match vs[i]? with
     |some v=>one v
     |none=>none
   |_=>none
 | .call c=>match c.callee with
   | .builtin b=>lu P s fr b c.args.toList c.argTypes
   |_=>none
 | .slice t x lo hi mx=>lU P s.o t (s.ev x) (lo.map s.ev) (hi.map s.ev) (mx.map s.ev)
 | .field t x f=>iD (ns P t (s.ev x) f)
 | .index t x i=>iD (nu P t (s.ev x) (s.ev i))
 | .typeAssert x _ t ok=>iD (kC P t ok (s.ev x))
 | .makeMap t none=>kF P fr t
 | .lookup t m k ok=>kE P s.o t (s.ev m) (s.ev k) ok
 | .mapUpdate t m k v=>fX P s.o t (s.ev m) (s.ev k) (s.ev v)
 | .insert t m k v=>fX P s.o t (s.ev m) (s.ev k) (s.ev v)
 | .range t x=>jX P s.o fr t (s.ev x)
 | .next x str=>kG s.o (s.ev x) str
 | .entry x=>jY s.o (s.ev x)
 |_=>none
section
variable {P:Program}{s:S}{fr:Nat}{v:V}{Δ:List (Nat×aa)}{rd:List Nat}{o:Nat->aa}{K:V->List (Nat×aa)->List Nat->Prop}
theorem l7{α:Type}{c:Bool}{x y:α}(h:xr c x=some y):c=true/\x=y:=by
 unfold xr at h;split at h
 ·injection h with h;exact⟨by assumption,h⟩
 ·cases h
theorem gz{x:V}{r:eu}(h:one x=some r):r=(x,[],[]):=by unfold one at h;injection h with h;exact h.symm
theorem dO{x:Option V}{r:eu}(h:iD x=some r):∃v,x=some v/\r=(v,[],[]):=by
 unfold iD at h;split at h
 ·exact⟨_,rfl,gz h⟩
 ·cases h
theorem tJ{x:V}{es:List D}{rd:List Nat}(h:lp o x=some (es,rd)):dr o x=some es/\rd=x.ids:=by
 unfold lp at h
 split at h
 ·simp at h;obtain⟨rfl,rfl⟩:=h;exact⟨rfl,rfl⟩
 ·simp at h;obtain⟨rfl,rfl⟩:=h;exact⟨rfl,rfl⟩
 ·simp at h;obtain⟨rfl,rfl⟩:=h;exact⟨rfl,rfl⟩
 ·split at h
  ·rename_i ho
   split at h
   ·rename_i e;simp at h;obtain⟨rfl,rfl⟩:=h;exact⟨by simp[dr,dk,ho,e],rfl⟩
   ·cases h
  ·rename_i ho
   split at h
   ·rename_i e;simp at h;obtain⟨rfl,rfl⟩:=h;exact⟨by simp[dr,dk,ho,e],rfl⟩
   ·cases h
  ·cases h
 ·cases h
theorem vV{op:BinOp}{k:IntKind}{a b:Int}{v:V}(h:r8 op k a b=some v){K:V->Prop}(hK:K v):y7 op k a b K:=by
 cases op<;>simp only[r8]at h<;>simp only[y7]
 case quo=>split at h
           ·cases h
           ·injection h with h;subst h;exact⟨by assumption,hK⟩
 case rem=>split at h
           ·cases h
           ·injection h with h;subst h;exact⟨by assumption,hK⟩
 case and=>simp only[Option.map_eq_some_iff]at h;obtain⟨r,h1,rfl⟩:=h;exact⟨r,h1,hK⟩
 case or=>simp only[Option.map_eq_some_iff]at h;obtain⟨r,h1,rfl⟩:=h;exact⟨r,h1,hK⟩
 case xor=>simp only[Option.map_eq_some_iff]at h;obtain⟨r,h1,rfl⟩:=h;exact⟨r,h1,hK⟩
 case andNot=>simp only[Option.map_eq_some_iff]at h;obtain⟨r,h1,rfl⟩:=h;exact⟨r,h1,hK⟩
 case shl=>cases h
 case shr=>cases h
 case eql=>injection h with h;subst h;exact⟨_,rfl,hK⟩
 case neq=>injection h with h;subst h;exact⟨_,rfl,hK⟩
 case lss=>injection h with h;subst h;exact⟨_,rfl,hK⟩
 case leq=>injection h with h;subst h;exact⟨_,rfl,hK⟩
 case gtr=>injection h with h;subst h;exact⟨_,rfl,hK⟩
 case geq=>injection h with h;subst h;exact⟨_,rfl,hK⟩
 all_goals (injection h with h;subst h;exact hK)
theorem vW{op:BinOp}{t:TypeId}{x y v:V}(h:qm P op t x y=some v){K:V->Prop}(hK:K v):wK P op t x y K:=by
 unfold qm at h
 unfold wK
 split at h
 ·split at h
  ·exact⟨by assumption,vV h hK⟩
  ·cases h
 ·have hb:aA P t=true->P.underlying t=some .bool:=by
   unfold aA;intro h;split at h
   ·assumption
   ·cases h
  split at h
  ·obtain⟨h1,rfl⟩:=l7 h;exact⟨hb h1,hK⟩
  ·obtain⟨h1,rfl⟩:=l7 h;exact⟨hb h1,hK⟩
  ·cases h
 ·split at h
  ·injection h with h;subst h;exact hK
  ·injection h with h;subst h;exact hK
  ·cases h
 ·cases h
theorem tK{c a b v:V}(h:ll c a b=some v){K:V->Prop}(hK:K v):rm c a b K:=by
 unfold ll at h
 unfold rm
 split at h
 ·injection h with h;subst h;exact⟨fun _=>hK,(fun h=>by cases h)⟩
 ·injection h with h;subst h;exact⟨(fun h=>by cases h),fun _=>hK⟩
 ·cases h
theorem nP{x y:V}{q:Nat}(h:jQ o x q=some y):(∃id off,x= .ptr id off/\(o id).bc=true/\y= .ptr id (off+q))\/(∃cs off,x= .pp cs off/\y= .pp cs (off+q))\/
 (∃id ep j sz off,x= .pe id ep j sz off/\(o id).aL=some ep/\y= .pe id ep j sz (off+q)):=by
 unfold jQ at h
 split at h
 ·obtain⟨h1,rfl⟩:=l7 h;exact .inl ⟨_,_,rfl,h1,rfl⟩
 ·injection h with h;exact .inr (.inl ⟨_,_,rfl,h.symm⟩)
 ·split at h
  ·injection h with h;exact .inr (.inr ⟨_,_,_,_,_,rfl,by assumption,h.symm⟩)
  ·cases h
 ·cases h
theorem ke{e:TypeId}{es:List D}{i:Int}{rd:List Nat}{r:eu}(h:py P e es i rd=some r):
 0<=i/\∃y,es[i.toNat]? =some y/\y.cells.length=P.cellsOf e/\0<P.cellsOf e/\r=(.pp y.cells 0,[],rd):=by
 unfold py at h
 split at h
 ·rename_i h0
  split at h
  ·rename_i y hy
   obtain⟨h1,rfl⟩:=l7 h
   simp only[Bool.and_eq_true,beq_iff_eq,decide_eq_true_eq]at h1
   exact⟨h0,y,hy,h1.1,h1.2,rfl⟩
  ·cases h
 ·cases h
theorem mS{t:TypeId}{x ix:V}(h:eK P o t x ix=some (v,Δ,rd))(hK:K v Δ rd):fD P o t x ix fun v rd=>K v [] rd:=by
 unfold eK at h
 unfold fD
 split at h
 ·simp only
  split at h
  ·rename_i e ht
   simp only[ht]
   split at h
   ·obtain⟨h0,y,h1,h2,h3,h4⟩:=ke h
    simp only[Prod.mk.injEq]at h4;obtain⟨rfl,rfl,rfl⟩:=h4
    exact⟨h0,y,h1,h2,h3,hK⟩
   ·obtain⟨h0,y,h1,h2,h3,h4⟩:=ke h
    simp only[Prod.mk.injEq]at h4;obtain⟨rfl,rfl,rfl⟩:=h4
    exact⟨h0,y,h1,h2,h3,hK⟩
   ·split at h
    ·rename_i ho
     split at h
     ·rename_i hc
      simp only[Option.some.injEq,Prod.mk.injEq]at h;obtain⟨rfl,rfl,rfl⟩:=h
      simp only[ho]
      exact⟨hc.1,hc.2.1,hc.2.2.1,hc.2.2.2.1,hc.2.2.2.2,hK⟩
     ·cases h
    ·rename_i ho
     split at h
     ·rename_i hc
      obtain⟨h0,y,h1,h2,h3,h4⟩:=ke h
      simp only[Prod.mk.injEq]at h4;obtain⟨rfl,rfl,rfl⟩:=h4
      simp only[ho]
      exact⟨hc,h0,y,h1,h2,h3,hK⟩
     ·cases h
    ·cases h
   ·cases h
  ·rename_i ht
   simp only[ht]
   split at h
   ·rename_i n e ha
    simp only[ha]
    split at h
    ·rename_i hc
     simp only[Option.bind_eq_some_iff]at h
     obtain⟨y,hy,h1⟩:=h
     have h1:=gz h1
     simp only[Prod.mk.injEq]at h1;obtain⟨rfl,rfl,rfl⟩:=h1
     refine⟨hc.1,hc.2.1,hc.2.2, ?_⟩
     rcases nP hy with⟨_,_,rfl,h2,rfl⟩|⟨_,_,rfl,rfl⟩|⟨_,_,_,_,_,rfl,h2,rfl⟩
     ·exact⟨h2,hK⟩
     ·exact hK
     ·exact⟨h2,hK⟩
    ·cases h
   ·cases h
 ·cases h
theorem mT{t:TypeId}{x y:V}{f:Nat}(h:eL P o t x f=some y){K:V->Prop}(hK:K y):fE P o t x f K:=by
 unfold eL at h
 unfold fE
 split at h
 ·rename_i q hq
  simp only[hq]
  rcases nP h with⟨_,_,rfl,h2,rfl⟩|⟨_,_,rfl,rfl⟩|⟨_,_,_,_,_,rfl,h2,rfl⟩
  ·exact⟨h2,hK⟩
  ·exact hK
  ·exact⟨h2,hK⟩
 ·cases h
theorem vX{t:TypeId}{x:V}(h:tI P t o x=some (v,Δ,rd))(hK:K v Δ rd):wL P t o x fun v rd=>K v [] rd:=by
 unfold tI at h
 unfold wL
 split at h
 ·rename_i e hu
  simp only[hu]
  split at h
  ·rename_i es pz hl
   simp only[Option.some.injEq,Prod.mk.injEq]at h;obtain⟨rfl,rfl,rfl⟩:=h
   unfold lp at hl
   split at hl
   ·simp at hl;obtain⟨rfl,rfl⟩:=hl;exact hK
   ·simp at hl;obtain⟨rfl,rfl⟩:=hl;exact hK
   ·simp at hl;obtain⟨rfl,rfl⟩:=hl;exact hK
   ·split at hl
    ·rename_i ho
     split at hl
     ·rename_i hc;simp at hl;obtain⟨rfl,rfl⟩:=hl;simp only[ho];exact⟨hc,hK⟩
     ·cases hl
    ·rename_i ho
     split at hl
     ·rename_i hc;simp at hl;obtain⟨rfl,rfl⟩:=hl;simp only[ho];exact⟨hc,hK⟩
     ·cases hl
    ·cases hl
   ·cases hl
  ·cases h
 ·rename_i hu
  simp only[hu]
  split at h
  ·have h1:=gz h;simp only[Prod.mk.injEq]at h1;obtain⟨rfl,rfl,rfl⟩:=h1;exact hK
  ·cases h
 ·rename_i hu
  simp only[hu]
  have h1:=gz h;simp only[Prod.mk.injEq]at h1;obtain⟨rfl,rfl,rfl⟩:=h1;exact hK
 ·cases h
theorem tL{t:TypeId}{x:V}(h:jc P o t x=some (v,Δ,rd))(hK:K v Δ rd):rn P o t x fun v rd=>K v [] rd:=by
 unfold jc at h
 unfold rn
 split at h
 ·split at h
  ·rename_i ho
   split at h
   ·rename_i hg
    simp only[Option.some.injEq,Prod.mk.injEq]at h;obtain⟨rfl,rfl,rfl⟩:=h
    simp only[ho];exact⟨_,hg,hK⟩
   ·cases h
  ·cases h
 ·split at h
  ·rename_i hg
   simp only[Option.some.injEq,Prod.mk.injEq]at h;obtain⟨rfl,rfl,rfl⟩:=h
   exact⟨_,hg,hK⟩
  ·cases h
 ·split at h
  ·rename_i ho
   split at h
   ·rename_i hc
    split at h
    ·rename_i e he
     split at h
     ·rename_i hg
      simp only[Option.some.injEq,Prod.mk.injEq]at h;obtain⟨rfl,rfl,rfl⟩:=h
      simp only[ho];exact⟨hc.1,hc.2,e,he,_,hg,hK⟩
     ·cases h
    ·cases h
   ·cases h
  ·cases h
 ·cases h
theorem sa{t:TypeId}{x y:V}(h:l6 P o t x y=some (v,Δ,rd))(hK:K v Δ rd):nr P o t x y fun Δ rd=>K (.bJ []) Δ rd:=by
 unfold l6 at h
 unfold nr
 split at h
 ·split at h
  ·rename_i ho
   split at h
   ·rename_i hg
    simp only[Option.some.injEq,Prod.mk.injEq]at h;obtain⟨rfl,rfl,rfl⟩:=h
    simp only[ho];exact⟨_,hg,hK⟩
   ·cases h
  ·cases h
 ·split at h
  ·rename_i ho
   split at h
   ·rename_i hc
    split at h
    ·rename_i e z he hz
     split at h
     ·rename_i hl
      split at h
      ·rename_i e' hp
       simp only[Option.some.injEq,Prod.mk.injEq]at h;obtain⟨rfl,rfl,rfl⟩:=h
       simp only[ho]
       exact⟨hc.1,hc.2,e,he,z,hz,hl.1,hl.2.1,hl.2.2,e',hp,hK⟩
      ·cases h
     ·cases h
    ·cases h
   ·cases h
  ·cases h
 ·cases h
theorem l8{t:TypeId}{len:Nat}{parts:List (Nat×V)}(h:ef P o fr t len parts=some (v,Δ,rd))(hK:K v Δ rd):eR P o fr t len parts K:=by
 unfold ef at h
 unfold eR
 split at h
 ·rename_i e ht
  simp only[ht]
  split at h
  ·rename_i hc
   simp only[Option.some.injEq,Prod.mk.injEq]at h;obtain⟨rfl,rfl,rfl⟩:=h
   exact .inl ⟨hc.1,by simpa using hc.2.1,hc.2.2,hK⟩
  split at h
  ·rename_i hc
   refine .inr ?_
   split at h
   ·rename_i ds hd
    split at h
    ·rename_i hw
     simp only[Option.some.injEq,Prod.mk.injEq]at h;obtain⟨rfl,rfl,rfl⟩:=h
     refine⟨hc.1,hc.2.1,hc.2.2.1,hc.2.2.2.1,hc.2.2.2.2,ds,hd,fun x hx=> ?_,hK⟩
     simpa using List.all_eq_true.1 hw x hx
    ·cases h
   ·cases h
  ·cases h
 ·cases h
theorem mU{t:TypeId}{l c:V}(h:iC P fr t l c=some (v,Δ,rd))(hK:K v Δ rd):fF P fr t l c fun v Δ=>K v Δ []:=by
 unfold iC at h
 unfold fF
 split at h
 ·rename_i e ht
  split at h
  ·split at h
   ·rename_i hc
    split at h
    ·rename_i x hx
     simp only[Option.some.injEq,Prod.mk.injEq]at h;obtain⟨rfl,rfl,rfl⟩:=h
     simp only[ht]
     exact⟨hc.1,hc.2.1,hc.2.2.1,hc.2.2.2.1,hc.2.2.2.2,x,hx,hK⟩
    ·cases h
   ·cases h
  ·cases h
 ·cases h
theorem qo{ts:Array TypeId}{x y:V}(h:lq P o fr ts x y=some (v,Δ,rd))(hK:K v Δ rd):kA P o fr ts x y K:=by
 unfold lq at h
 unfold kA
 split at h
 ·rename_i t t' oL
  simp only[oL]
  split at h
  ·rename_i Oz
   refine⟨Oz, ?_⟩
   split at h
   ·rename_i e new pz ht hl
    obtain⟨oO,rfl⟩:=tJ hl
    simp only[ht]
    split at h
    ·rename_i hc
     refine⟨new,oO,hc.1,hc.2.1,fun z hz=>by simpa using List.all_eq_true.1 hc.2.2 z hz, ?_⟩
     split at h
     ·split at h
      ·rename_i ta
       simp only[Option.some.injEq,Prod.mk.injEq]at h;obtain⟨rfl,rfl,rfl⟩:=h
       exact⟨ta.1,ta.2,hK⟩
      ·cases h
     ·split at h
      ·rename_i wC
       refine⟨fun z hz=>by simpa using List.all_eq_true.1 wC z hz, ?_⟩
       split at h
       ·rename_i hn
        simp only[Option.some.injEq,Prod.mk.injEq]at h;obtain⟨rfl,rfl,rfl⟩:=h
        rw[if_pos hn];exact hK
       ·rename_i hn
        split at h
        ·rename_i ta
         simp only[Option.some.injEq,Prod.mk.injEq]at h;obtain⟨rfl,rfl,rfl⟩:=h
         rw[if_neg hn];exact⟨ta.1,ta.2,hK⟩
        ·cases h
      ·cases h
     ·split at h
      ·rename_i ho
       split at h
       ·rename_i ta
        simp only[Option.some.injEq,Prod.mk.injEq]at h;obtain⟨rfl,rfl,rfl⟩:=h
        simp only[ho]
        exact⟨ta.1,ta.2.1,ta.2.2.1,ta.2.2.2.1,ta.2.2.2.2,hK⟩
       ·cases h
      ·cases h
     ·cases h
    ·cases h
   ·cases h
  ·cases h
 ·cases h
theorem nQ{x y:V}(h:fm o x=some y){K:V->Prop}(hK:K y):gM o x K:=by
 unfold fm at h
 unfold gM
 split at h
 ·obtain⟨h2,rfl⟩:=l7 h;exact⟨h2,hK⟩
 ·injection h with h;subst h;exact hK
 ·injection h with h;subst h;exact hK
 ·cases h
theorem xw{op:UnOp}{x y:V}(h:I2 op x=some y){K:V->Prop}(hK:K y):EL op x K:=by
 unfold I2 at h
 unfold EL
 split at h
 ·injection h with h;subst h;simp only;rw[Int.zero_sub];exact hK
 ·injection h with h;subst h;exact hK
 ·cases h
theorem lx{m:Bool}{x y v:V}(h:lr m x y=some v){K:V->Prop}(hK:K v):jt m [x,y] K:=by
 unfold lr at h
 unfold jt
 split at h
 ·split at h
  ·injection h with h;subst h;exact⟨by assumption,hK⟩
  ·cases h
 ·cases h
theorem sb{op:Op}(h:ei P s fr op=some (v,Δ,rd))(hK:K v Δ rd):AJ P s fr op K:=by
 cases op<;>simp only[ei]at h<;>simp only[AJ]<;>try (cases h;done)
 case move x=>have h:=gz h;simp only[Prod.mk.injEq]at h;obtain⟨rfl,rfl,rfl⟩:=h;exact hK
 case assign x=>have h:=gz h;simp only[Prod.mk.injEq]at h;obtain⟨rfl,rfl,rfl⟩:=h;exact hK
 case pick c a b=>
  obtain⟨x,h1,h⟩:=dO h;simp only[Prod.mk.injEq]at h;obtain⟨rfl,rfl,rfl⟩:=h
  exact tK h1 hK
 case alloc t=>
  split at h
  ·rename_i cs hz;simp only[Option.some.injEq,Prod.mk.injEq]at h;obtain⟨rfl,rfl,rfl⟩:=h;exact⟨cs,hz,hK⟩
  ·cases h
 case box t x=>
  split at h
  ·rename_i cs hz;simp only[Option.some.injEq,Prod.mk.injEq]at h;obtain⟨rfl,rfl,rfl⟩:=h;exact⟨cs,hz,hK⟩
  ·cases h
 case build t parts=>
  obtain⟨x,h1,h⟩:=dO h;simp only[Prod.mk.injEq]at h;obtain⟨rfl,rfl,rfl⟩:=h
  unfold qn at h1
  split at h1
  ·rename_i z pl hz hp
   split at h1
   ·rename_i cs hc;injection h1 with h1;subst h1;exact⟨z,pl,cs,hz,hp,hc,hK⟩
   ·cases h1
  ·cases h1
 case buildSlice t len parts=>exact l8 h hK
 case load t x=>exact tL h hK
 case store t x y=>exact sa h hK
 case nilCheck x=>
  obtain⟨y,h1,h⟩:=dO h;simp only[Prod.mk.injEq]at h;obtain⟨rfl,rfl,rfl⟩:=h
  exact nQ h1 hK
 case binOp op t x y yt=>
  unfold cy at h
  split at h
  ·rename_i z h1
   have h:=gz h;simp only[Prod.mk.injEq]at h;obtain⟨rfl,rfl,rfl⟩:=h
   exact .inl (vW h1 hK)
  ·right;simp only[h,bW];exact hK
 case unOp op t x=>
  obtain⟨z,h1,h⟩:=dO h;simp only[Prod.mk.injEq]at h;obtain⟨rfl,rfl,rfl⟩:=h
  unfold r9 at h1
  split at h1
  ·rename_i hx;injection h1 with h1;subst h1;exact .inr ⟨rfl,hx,hK⟩
  ·exact .inl (xw h1 hK)
 case slice t x lo hi mx=>simp only[h,bW];exact hK
 case field t x f=>
  obtain⟨z,h1,h⟩:=dO h;simp only[Prod.mk.injEq]at h;obtain⟨rfl,rfl,rfl⟩:=h
  simp only[h1,bW,Option.map_some];exact hK
 case typeAssert x xt t ok=>
  obtain⟨z,h1,h⟩:=dO h;simp only[Prod.mk.injEq]at h;obtain⟨rfl,rfl,rfl⟩:=h
  simp only[h1,bW,Option.map_some];exact hK
 case makeMap t r=>
  cases r with
  |none=>simp only[h,bW];exact hK
  |some x=>cases h
 case lookup t m k ok=>simp only[h,bW];exact hK
 case mapUpdate t m k v=>simp only[h,bW];exact hK
 case insert t m k v=>simp only[h,bW];exact hK
 case index t x i=>
  obtain⟨z,h1,h⟩:=dO h;simp only[Prod.mk.injEq]at h;obtain⟨rfl,rfl,rfl⟩:=h
  simp only[h1,bW,Option.map_some];exact hK
 case convert u t x=>
  split at h
  ·rename_i d k k' n hu hk hx
   have h:=gz h;simp only[Prod.mk.injEq]at h;obtain⟨rfl,rfl,rfl⟩:=h
   exact⟨by rw[hu];rfl,by simp only[hk,hx];exact hK⟩
  ·cases h
 case makeInterface t x=>
  obtain⟨z,h1,h⟩:=dO h;simp only[Prod.mk.injEq]at h;obtain⟨rfl,rfl,rfl⟩:=h
  obtain⟨h2,rfl⟩:=l7 h1
  refine⟨?_, ?_⟩
  ·unfold ah at h2
   cases hd:P.underlying t with
   |none=>simp[hd]at h2
   |some d=>exact⟨d,rfl,by cases d<;>simp_all⟩
  ·split
   ·rename_i y hy;simp only[hy]at hK;exact hK
   ·rename_i hy
    split at hK
    ·rename_i y vY;exact absurd vY (hy y)
    ·exact hK
 case makeFunc fn first cap=>have h:=gz h;simp only[Prod.mk.injEq]at h;obtain⟨rfl,rfl,rfl⟩:=h;exact hK
 case makeSlice t l c=>
  exact mU h hK
 case fieldAddr t x f=>
  obtain⟨z,h1,h⟩:=dO h;simp only[Prod.mk.injEq]at h;obtain⟨rfl,rfl,rfl⟩:=h
  exact mT h1 hK
 case indexAddr t x i=>
  exact mS h hK
 case extract x i=>
  split at h
  ·rename_i vs hv
   split at h
   ·rename_i u hu
    have h:=gz h;simp only[Prod.mk.injEq]at h;obtain⟨rfl,rfl,rfl⟩:=h
    simp only[hv];exact⟨_,hu,hK⟩
   ·cases h
  ·cases h
 case call c=>
  obtain⟨xf,args,ts⟩:=c
  cases xf<;>simp only at h|- <;>try (cases h;done)
  rename_i b
  unfold lu at h
  unfold nw
  split at h
  ·rename_i x ha
   simp only[ha]
   split at h
   ·rename_i t oL;exact⟨t,oL,vX h hK⟩
   ·cases h
  ·rename_i x y ha
   simp only[ha]
   split at h
   ·rename_i r hr
    simp only[Option.some.injEq]at h
    subst h
    exact .inl (by rw[hr];exact hK)
   ·exact .inr (qo h hK)
  ·rename_i x y ha
   simp only[ha]
   obtain⟨z,h1,h⟩:=dO h;simp only[Prod.mk.injEq]at h;obtain⟨rfl,rfl,rfl⟩:=h
   exact lx h1 hK
  ·rename_i x y ha
   simp only[ha]
   obtain⟨z,h1,h⟩:=dO h;simp only[Prod.mk.injEq]at h;obtain⟨rfl,rfl,rfl⟩:=h
   exact lx h1 hK
  ·rename_i x y z ha
   simp only[ha]
   obtain⟨v0,h1,h⟩:=dO h;simp only[Prod.mk.injEq]at h;obtain⟨rfl,rfl,rfl⟩:=h
   simp only[h1,bW,Option.map_some];exact hK
  ·rename_i x y ha
   simp only[ha,h,bW];exact hK
  ·rename_i x y ha
   simp only[ha]
   split at h
   ·rename_i t ht;exact⟨t,ht,by simp only[h,bW];exact hK⟩
   ·cases h
  ·rename_i x ha
   simp only[ha,h,bW];exact hK
  ·cases h
 case range t x=>simp only[h,bW];exact hK
 case next x str=>left;simp only[h,bW];exact hK
 case entry x=>simp only[h,bW];exact hK
end
end Go.Proofs.YtbmnikpknlkbkaaGreat
namespace Go.Proofs.YtbmnikpknlkbkaaGreat
def nR(P:Program)(g:FuncId)(ds:List D)(o o1 oa:Nat->aa)(K:V->(Nat->aa)->Prop)(X:V->(Nat->aa)->Prop):Prop:=
 ∃out,cR P g ds out/\((match out with| .ret rs=>K (gQ rs) o1| .ba x=>X (.d x) o1)\/(out.flat=true/\match out with| .ret rs=>K (gQ rs) o| .ba x=>X (.d x) o)\/(out.iW=true/\match out with| .ret rs=>K (gQ rs) oa| .ba x=>X (.d x) oa))
def mq(P:Program)(g:FuncId)(args:List V)(o:Nat->aa)(nx:Nat)(K:V->(Nat->aa)->Nat->Prop)(X:V->(Nat->aa)->Nat->Prop):Prop:=iY P g args o nx K X
theorem iY.mono {P:Program}{g:FuncId}{args:List V}{o:Nat->aa}{nx:Nat}{K X K' X':V->(Nat->aa)->Nat->Prop}(hK:∀v o n,K v o n->K' v o n)(hX:∀v o n,X v o n->X' v o n)(h:iY P g args o nx K X):iY P g args o nx K' X':=
 h.imp (jx.mono hK hX) (jx.mono hK hX)
@[congr] theorem A3 {P:Program} {g g':FuncId} {ds E8:List D} {o o1 oa:Nat->aa} {K X} (h:g=g') (h':ds=E8):nR P g ds o o1 oa K X=nR P g' E8 o o1 oa K X:=by subst h;subst h';rfl
@[congr] theorem A4 {P:Program} {g g':FuncId} {bu E9:List V} {o:Nat->aa} {nx:Nat} {K X} (h:g=g') (h':bu=E9):mq P g bu o nx K X=mq P g' E9 o nx K X:=by subst h;subst h';rfl
def A5(P:Program)(g:FuncId)(args:List V)(o:Nat->aa)(nx:Nat)(K X:V->(Nat->aa)->Nat->Prop):Prop:=
 (∃ds,bt o args=some ds/\nR P g ds o (put o (b8 o (V.aP args))) (put o (lT o (V.aP args))) (fun v o'=>K v o' (nx+1)) (fun v o'=>X v o' (nx+1)))\/jx P g args o nx K X
def wE(P:Program)(s:S)(o:bz)(X:V->S->Prop)(K:S->Prop):Prop:=
 match o.op with
 | .call c=>match c.callee with
   | .value f=>match s.ev f with
     | .func (.func g) first cap=>match bt s.o (first++c.args.toList.map s.ev++cap)with
       |some ds=>nR P g ds s.o (put s.o (b8 s.o (V.aP (first++c.args.toList.map s.ev++cap)))) (put s.o (lT s.o (V.aP (first++c.args.toList.map s.ev++cap)))) (fun v o'=>K ⟨aJ s.env o.dst v,o',s.nx+1⟩) (fun v o'=>X v ⟨s.env,o',s.nx+1⟩)\/
        mq P g (first++c.args.toList.map s.ev++cap) s.o s.nx (fun v o' nx'=>K ⟨aJ s.env o.dst v,o',nx'⟩) (fun v o' nx'=>X v ⟨s.env,o',nx'⟩)
       |none=>mq P g (first++c.args.toList.map s.ev++cap) s.o s.nx (fun v o' nx'=>K ⟨aJ s.env o.dst v,o',nx'⟩) (fun v o' nx'=>X v ⟨s.env,o',nx'⟩)
     | .js id=>dF P id (c.args.toList.map s.ev) s.o s.nx (fun v o' nx'=>K ⟨aJ s.env o.dst v,o',nx'⟩) (fun v o' nx'=>X v ⟨s.env,o',nx'⟩)
     |_=>False
   | .invoke r m=>match nH P m (s.ev r)with
     |some (g,y)=>A5 P g (y::c.args.toList.map s.ev) s.o s.nx (fun v o' nx'=>K ⟨aJ s.env o.dst v,o',nx'⟩) (fun v o' nx'=>X v ⟨s.env,o',nx'⟩)
     |none=>False
   |_=>match ei P s s.nx o.op with
    |some (v,Δ,_)=>K ⟨aJ s.env o.dst v,put s.o Δ,s.nx+1⟩
    |none=>False
 | .panic x=>match s.ev x with
   | .d (.iface t y)=>X (.d (.iface t y)) s
   | .iface t y=>X (.iface t y) s
   |_=>False
 | .next x str=>match kH s.o (s.ev x)with
   |some (id,l)=>str=false/\ur id l fun v Δ _=>K ⟨aJ s.env o.dst v,put s.o Δ,s.nx+1⟩
   |none=>match ei P s s.nx o.op with
    |some (v,Δ,_)=>K ⟨aJ s.env o.dst v,put s.o Δ,s.nx+1⟩
    |none=>False
 |op=>match ei P s s.nx op with
  |some (v,Δ,_)=>K ⟨aJ s.env o.dst v,put s.o Δ,s.nx+1⟩
  |none=>False
def kf(P:Program)(X:V->S->Prop)(K:S->Prop):List bz->S->Prop
 |[],s=>K s
 |o::l,s=>match o.gd with
  |none=>wE P s o X (kf P X K l)
  |some (d,want)=>match s.env d with
   | .d (.bool b)=>if b=want then wE P s o X (kf P X K l)else kf P X K l ⟨aJ s.env o.dst (.bJ []),s.o,s.nx+1⟩
   | .bJ []=>kf P X K l ⟨aJ s.env o.dst (.bJ []),s.o,s.nx+1⟩
   |_=>False
def xy(b:Nat)(body:(eY->S->Prop)->S->Prop)(Q:eY->S->Prop)(s:S):Prop:=
 ∃ (J:Nat->S->Prop),(∃m s1,dv b s s1/\J m s1)/\∀m s0,J m s0->body (fun e s=>match e with| .normal=>∃m' s1,m'<m/\dv b s s1/\J m' s1|e=>Q e s) s0
@[congr] theorem A6 {b:Nat} {body Q} {s s':S} (h:s=s'):xy b body Q s=xy b body Q s':=by subst h;rfl
def ly(t:Bool)(A B:Prop):Prop:=(t=true->A)/\(t=false->B)
@[congr] theorem A7 {t t':Bool} {A B:Prop} (h:t=t'):ly t A B=ly t' A B:=by subst h;rfl
@[simp] theorem nS (A B:Prop):ly true A B=A:=by simp[ly]
@[simp] theorem mu (A B:Prop):ly false A B=B:=by simp[ly]
section
variable {P:Program}{n b:Nat}
theorem uH{s:S}{o:bz}{o':Oper}{X X':V->S->Prop}{K K':S->Prop}(cw:o'.op=o.op)(bV:o'.dst=o.dst)(hd:ew n o'.dst)(hK:∀s,K s->K' s)(hX:∀v s,X v s->X' v s)(h:wE P s o X K):IP P n s o' X' K':=by
 refine⟨hd, ?_⟩
 rw[bV,cw]
 unfold wE at h
 have hs:∀ {op:Op},(match ei P s s.nx op with|some (v,Δ,_)=>K ⟨aJ s.env o.dst v,put s.o Δ,s.nx+1⟩|none=>False)->AJ P s s.nx op fun v Δ _=>K' ⟨aJ s.env o.dst v,put s.o Δ,s.nx+1⟩:=by
  intro op h
  split at h
  ·rename_i v Δ rd he;exact sb he (hK _ h)
  ·exact h.elim
 split at h
 ·rename_i c hc
  split at h
  ·rename_i f cQ
   simp only[hc,cQ]
   split at h
   ·rename_i g first cap hf
    unfold rQ
    simp only[hf]
    unfold nG
    split at h
    ·rename_i ds dp
     rcases h with⟨out,hP,h|⟨ku,h⟩|⟨ku,h⟩⟩|h
     ·refine .inl ⟨ds,out,dp,hP, ?_⟩
      cases out<;>first|exact hK _ h|exact hX _ _ h
     ·refine .inr (.inl ⟨ds,out,dp,hP,ku, ?_⟩)
      cases out<;>first|exact hK _ h|exact hX _ _ h
     ·refine .inr (.inr (.inl ⟨ds,out,dp,hP,ku, ?_⟩))
      cases out<;>first|exact hK _ h|exact hX _ _ h
     ·exact .inr (.inr (.inr (iY.mono (fun v o n h=>hK _ h) (fun v o n h=>hX _ _ h) h)))
    ·exact .inr (.inr (.inr (iY.mono (fun v o n h=>hK _ h) (fun v o n h=>hX _ _ h) h)))
   ·rename_i id hf
    unfold rQ
    simp only[hf]
    exact dF.mono (fun v o n h=>hK _ h) (fun v o n h=>hX _ _ h) h
   ·exact h.elim
  ·rename_i r m cQ
   simp only[hc,cQ]
   split at h
   ·rename_i g y hr
    simp only[hr]
    unfold nG
    rcases h with⟨ds,dp,out,hP,h|⟨ku,h⟩|⟨ku,h⟩⟩|h
    ·refine .inl ⟨ds,out,dp,hP, ?_⟩
     cases out<;>first|exact hK _ h|exact hX _ _ h
    ·refine .inr (.inl ⟨ds,out,dp,hP,ku, ?_⟩)
     cases out<;>first|exact hK _ h|exact hX _ _ h
    ·refine .inr (.inr (.inl ⟨ds,out,dp,hP,ku, ?_⟩))
     cases out<;>first|exact hK _ h|exact hX _ _ h
    ·exact .inr (.inr (.inr (.inl (jx.mono (fun v o n h=>hK _ h) (fun v o n h=>hX _ _ h) h))))
   ·exact h.elim
  ·rename_i cQ hinv
   rw[hc]at h|-
   obtain⟨xf,args,ts⟩:=c
   cases xf with
   |value f=>exact absurd rfl (cQ f)
   |invoke r m=>exact absurd rfl (hinv r m)
   |_=>exact hs h
 ·rename_i x hx
  simp only[hx]
  split at h
  ·rename_i hv;simp only[hv];exact hX _ _ h
  ·rename_i hv;simp only[hv];exact hX _ _ h
  ·exact h.elim
 ·rename_i x str hx
  rw[hx]at h|-
  split at h
  ·rename_i id l hl
   exact .inr ⟨h.1,id,l,hl,fun e=>hK _ (h.2.1 e),fun i k x e=>hK _ (h.2.2 i k x e)⟩
  ·exact hs h
 ·rename_i hc hp oC
  have h2:=hs h
  cases hh:o.op<;>first
   |exact absurd hh (hc _)
   |exact absurd hh (hp _)
   |exact absurd hh (oC _ _)
   |(rw[hh]at h2;exact h2)
theorem fq{ops:Array Oper}{X X':V->S->Prop}{K K':S->Prop}(hK:∀s,K s->K' s)(hX:∀v s,X v s->X' v s):∀ (l:List Oper) (l':List bz) (s:S),gJ n ops l=some l'->kf P X K l' s->qe P n ops X' K' l s
 |[],l',s,h,hr=>by simp[gJ]at h;subst h;exact hK _ hr
 |o::l,l',s,h,hr=>by
  simp only[gJ]at h
  split at h
  ·rename_i x xs hx AO
   injection h with h;subst h
   unfold wH at hx
   split at hx
   ·rename_i hd
    have bV:ew n o.dst:=by
     unfold tf at hd;unfold ew
     split at hd<;>simp_all
    simp only[qe,qd]
    cases hg:o.guard with
    |none=>
     simp only[hg]at hx
     injection hx with hx;subst hx
     exact uH rfl rfl bV (fun s hs=>fq hK hX l xs s AO hs) hX hr
    |some p=>
     obtain⟨j,want⟩:=p
     simp only[hg]at hx
     cases A8:me ops j with
     |none=>simp[A8]at hx
     |some d=>
      simp only[A8]at hx
      injection hx with hx;subst hx
      simp only
      simp only[kf]at hr
      split at hr
      ·rename_i t ht
       simp only[A8,ht]
       split at hr
       ·rename_i e
        exact⟨fun _=>uH rfl rfl bV (fun s hs=>fq hK hX l xs s AO hs) hX hr,fun h=>absurd e h⟩
       ·rename_i e
        exact⟨fun h=>absurd h e,fun _=>⟨bV,fq hK hX l xs _ AO hr⟩⟩
      ·rename_i ht
       simp only[A8,ht]
       exact⟨bV,fq hK hX l xs _ AO hr⟩
      ·exact hr.elim
   ·cases hx
  ·cases h
end
end Go.Proofs.YtbmnikpknlkbkaaGreat
namespace Go.Proofs.YtbmnikpknlkbkaaGreat
mutual
def V.refs:V->List Nat
 | .ptr id _=>[id]| .osl id _=>[id]| .pe id _ _ _ _=>[id]| .nm id _ _=>[id]| .mp id=>[id]| .js id=>[id]
 | .agg cs=>V.az cs
 | .bJ cs=>V.az cs
 | .func _ a b=>V.az a++V.az b
 | .iface _ x=>x.refs
 |_=>[]
def V.az:List V->List Nat
 |[]=>[]
 |v::vs=>v.refs++V.az vs
end
mutual
theorem fK:∀ (v:V),∀id∈v.ids,id∈v.refs
 | .osl id _,j,h=>by simpa[V.ids,V.refs]using h
 | .agg cs,j,h=>by simp only[V.ids]at h;simp only[V.refs];exact fL cs j h
 | .iface _ x,j,h=>by simp only[V.ids]at h;simp only[V.refs];exact fK x j h
 | .mp _,j,h=>by simpa[V.ids,V.refs]using h
 | .d _,_,h| .aI,_,h| .bJ _,_,h| .ptr _ _,_,h| .pe _ _ _ _ _,_,h| .pp _ _,_,h| .func _ _ _,_,h| .aE,_,h| .jU _,_,h| .nm _ _ _,_,h| .dy,_,h| .js _,_,h=>by simp[V.ids]at h
theorem fL:∀ (vs:List V),∀id∈V.aP vs,id∈V.az vs
 |[],j,h=>by simp[V.aP]at h
 |v::vs,j,h=>by
  simp only[V.aP,V.az,List.mem_append]at h|-
  exact h.imp (fK v j) (fL vs j)
end
mutual
theorem cm{o o':Nat->aa}:∀ (v:V),(∀id∈v.refs,o' id=o id)->dk o' v=dk o v
 | .osl id ep,h=>by simp only[dk,h id (by simp[V.refs])]
 | .mp id,h=>by simp only[dk,h id (by simp[V.refs])]
 | .agg cs,h=>by simp only[dk,eM cs (by simpa[V.refs]using h)]
 | .iface t x,h=>by simp only[dk,cm x (by simpa[V.refs]using h)]
 | .d _,_| .aI,_| .bJ _,_| .ptr _ _,_| .pe _ _ _ _ _,_| .pp _ _,_| .func _ _ _,_| .aE,_| .jU _,_| .nm _ _ _,_| .dy,_| .js _,_=>by simp only[dk]
theorem eM{o o':Nat->aa}:∀ (vs:List V),(∀id∈V.az vs,o' id=o id)->bt o' vs=bt o vs
 |[],_=>rfl
 |v::vs,h=>by
  simp only[bt,cm v (fun id ag=>h id (by simp[V.az,ag])),eM vs (fun id ag=>h id (by simp[V.az,ag]))]
end
theorem eg{o o':Nat->aa}{ids:List Nat}(h:∀id∈ids,o' id=o id):b8 o' ids=b8 o ids:=by
 rw[il,il]
 exact List.map_congr_left fun id ag=>by rw[h id ag]
def ft(s:S)(op:Op):List Nat:=
 match op with
 | .load _ x=>(s.ev x).refs
 | .nilCheck x=>(s.ev x).refs
 | .fieldAddr _ x _=>(s.ev x).refs
 | .indexAddr _ x _=>(s.ev x).refs
 | .store _ x v=>(s.ev x).refs++(s.ev v).refs
 | .buildSlice _ _ parts=>V.az (parts.toList.map fun p=>s.ev p.2)
 | .binOp _ _ x y _=>(s.ev x).refs++(s.ev y).refs
 | .slice _ x _ _ _=>(s.ev x).refs
 | .lookup _ m k _=>(s.ev m).refs++(s.ev k).refs
 | .mapUpdate _ m k v=>(s.ev m).refs++((s.ev k).refs++(s.ev v).refs)
 | .insert _ m k v=>(s.ev m).refs++((s.ev k).refs++(s.ev v).refs)
 | .range _ x=>(s.ev x).refs
 | .next x _=>(s.ev x).refs
 | .entry x=>(s.ev x).refs
 | .call c=>match c.callee with
   | .builtin _=>V.az (c.args.toList.map s.ev)
   | .value f=>match s.ev f with
     | .func _ first cap=>V.az (first++c.args.toList.map s.ev++cap)
     |_=>[]
   |_=>[]
 |_=>[]
section
variable {P:Program}{s s':S}{fr:Nat}
theorem mw{o o':Nat->aa}(v:V)(h:∀id∈v.refs,o' id=o id):lp o' v=lp o v:=by
 cases v with
 |osl id ep=>simp only[lp,h id (by simp[V.refs])]
 |d x=>cases x<;>rfl
 |_=>rfl
theorem my{o o':Nat->aa}(v:V)(q:Nat)(h:∀id∈v.refs,o' id=o id):jQ o' v q=jQ o v q:=by
 cases v<;>simp only[jQ]<;>rw[h _ (by simp[V.refs])]
theorem tM{o o':Nat->aa}(v:V)(h:∀id∈v.refs,o' id=o id):rp o' v=rp o v:=by
 have h1:dr o' v=dr o v:=by unfold dr;rw[cm v h]
 cases v<;>first|rfl|simp only[rp,h1]
theorem qp{o o':Nat->aa}(v:V)(h:∀id∈v.refs,o' id=o id):lV o' v=lV o v:=by
 cases v with
 |mp id=>simp only[lV,h id (by simp[V.refs])]
 |d x=>cases x<;>rfl
 |_=>rfl
theorem qq{o o':Nat->aa}(v:V)(h:∀id∈v.refs,o' id=o id):lW o' v=lW o v:=by
 cases v with
 |ptr id off=>simp only[lW,h id (by simp[V.refs])]
 |d x=>cases x<;>rfl
 |_=>rfl
theorem jd{o o':Nat->aa}(v:V)(h:∀id∈v.refs,o' id=o id):nv o' v=nv o v:=by
 cases v with
 |mp id=>simp only[nv,h id (by simp[V.refs])]
 |d x=>cases x<;>rfl
 |_=>rfl
theorem sc{o o':Nat->aa}(v:V)(h:∀id∈v.refs,o' id=o id):oX o' v=oX o v:=by
 cases v with
 |mp id=>simp only[oX,h id (by simp[V.refs])]
 |d x=>cases x<;>rfl
 |_=>rfl
theorem sd{o o':Nat->aa}(v:V)(str:Bool)(h:∀id∈v.refs,o' id=o id):kG o' v str=kG o v str:=by
 cases v with
 |ptr id off=>cases off<;>simp only[kG,h id (by simp[V.refs])]
 |_=>rfl
theorem qs{o o':Nat->aa}(v:V)(h:∀id∈v.refs,o' id=o id):jY o' v=jY o v:=by
 cases v with
 |ptr id off=>cases off<;>simp only[jY,h id (by simp[V.refs])]
 |_=>rfl
theorem qt{o o':Nat->aa}{fr:Nat}{t:TypeId}{P:Program}(v:V)(h:∀id∈v.refs,o' id=o id):jX P o' fr t v=jX P o fr t v:=by
 unfold jX
 cases v with
 |mp id=>simp only[h id (by simp[V.refs])]
 |d x=>cases x<;>rfl
 |_=>rfl
theorem qu{o o':Nat->aa}(v:V)(h:∀id∈v.refs,o' id=o id):jV o' v=jV o v:=by
 cases v with
 |ptr id off=>simp only[jV,h id (by simp[V.refs])]
 |_=>rfl
theorem qv{o o':Nat->aa}(v:V)(h:∀id∈v.refs,o' id=o id):jW o' v=jW o v:=by
 cases v with
 |nm id off n=>simp only[jW,h id (by simp[V.refs])]
 |_=>rfl
theorem tN(op:Op)(hv:∀x∈op.operands,s'.ev x=s.ev x)(ho:∀id∈ft s op,s'.o id=s.o id):ei P s' fr op=ei P s fr op:=by
 cases op<;>simp only[ei]
 case move x=>rw[hv x (by simp[Op.operands])]
 case assign x=>rw[hv x (by simp[Op.operands])]
 case pick c a b=>rw[hv c (by simp[Op.operands]),hv a (by simp[Op.operands]),hv b (by simp[Op.operands])]
 case box t x=>rw[hv x (by simp[Op.operands])]
 case build t parts=>
  have:(parts.toList.map fun p=>(p.1,s'.ev p.2))=parts.toList.map fun p=>(p.1,s.ev p.2):=
   List.map_congr_left fun p hp=>by rw[hv p.2 (by simp only[Op.operands];simp;exact⟨p.1,by simpa using hp⟩)]
  rw[this]
 case buildSlice t len parts=>
  have:(parts.toList.map fun p=>(p.1,s'.ev p.2))=parts.toList.map fun p=>(p.1,s.ev p.2):=
   List.map_congr_left fun p hp=>by rw[hv p.2 (by simp only[Op.operands];simp;exact⟨p.1,by simpa using hp⟩)]
  rw[this]
  have e:(parts.toList.map fun p=>(p.1,s.ev p.2)).map (·.2)=parts.toList.map fun p=>s.ev p.2:=by simp[Function.comp_def]
  have h1:bt s'.o ((parts.toList.map fun p=>(p.1,s.ev p.2)).map (·.2))=bt s.o ((parts.toList.map fun p=>(p.1,s.ev p.2)).map (·.2)):=eM _ (by rw[e];exact ho)
  have h2:b8 s'.o (V.aP ((parts.toList.map fun p=>(p.1,s.ev p.2)).map (·.2)))=b8 s.o (V.aP ((parts.toList.map fun p=>(p.1,s.ev p.2)).map (·.2))):=
   eg fun id ag=>ho id (by rw[e]at ag;exact fL _ id ag)
  simp only[ef,h1,h2]
 case load t x=>
  rw[hv x (by simp[Op.operands])]
  cases hx:s.ev x<;>simp only[jc]<;>rw[ho _ (by simp[ft,hx,V.refs])]
 case store t x y=>
  rw[hv x (by simp[Op.operands]),hv y (by simp[Op.operands])]
  have h1:dk s'.o (s.ev y)=dk s.o (s.ev y):=cm _ fun id ag=>ho id (by simp[ft,ag])
  have h2:b8 s'.o (s.ev y).ids=b8 s.o (s.ev y).ids:=eg fun id ag=>ho id (by simp[ft,fK _ _ ag])
  cases hx:s.ev x<;>simp only[l6]<;>rw[ho _ (by simp[ft,hx,V.refs])]
  simp only[h1,h2]
 case nilCheck x=>
  rw[hv x (by simp[Op.operands])]
  cases hx:s.ev x with
  |ptr id off=>simp only[fm];rw[ho _ (by simp[ft,hx,V.refs])]
  |func fn a b=>cases fn<;>rfl
  |_=>rfl
 case binOp op t x y yt=>
  rw[hv x (by simp[Op.operands]),hv y (by simp[Op.operands])]
  have h1:rp s'.o (s.ev x)=rp s.o (s.ev x):=tM _ fun id ag=>ho id (by simp[ft,ag])
  have h2:∀a b,wM P s'.o a b (s.ev x) (s.ev y)=wM P s.o a b (s.ev x) (s.ev y):=fun a b=>by
   have h3:∀id∈(s.ev x).refs,s'.o id=s.o id:=fun id ag=>ho id (by simp[ft,ag])
   have h4:=qp (s.ev x) h3
   have h5:=qq (s.ev x) h3
   unfold wM
   rw[h1,h4,h5]
  unfold cy lX
  simp only[h2]
 case slice t x lo hi mx=>
  rw[hv x (by simp[Op.operands])]
  have e1:lo.map s'.ev=lo.map s.ev:=by cases lo<;>simp[hv,Op.operands]
  have e2:hi.map s'.ev=hi.map s.ev:=by cases hi<;>simp[hv,Op.operands]
  have e3:mx.map s'.ev=mx.map s.ev:=by cases mx<;>simp[hv,Op.operands]
  rw[e1,e2,e3]
  have h3:∀id∈(s.ev x).refs,s'.o id=s.o id:=fun id ag=>ho id (by simp[ft,ag])
  have h1:dr s'.o (s.ev x)=dr s.o (s.ev x):=by unfold dr;rw[cm _ h3]
  have h2:b8 s'.o (s.ev x).ids=b8 s.o (s.ev x).ids:=eg fun id ag=>h3 id (fK _ _ ag)
  have h4:tg P s'.o t (s.ev x) (lo.map s.ev) (hi.map s.ev) (mx.map s.ev)=tg P s.o t (s.ev x) (lo.map s.ev) (hi.map s.ev) (mx.map s.ev):=by
   cases hx:s.ev x with
   |osl id ep=>simp only[tg,h3 id (by simp[hx,V.refs])]
   |_=>rfl
  unfold lU kB
  simp only[h1,h2,h4,qu _ h3]
 case field t x f=>rw[hv x (by simp[Op.operands])]
 case typeAssert x xt t ok=>rw[hv x (by simp[Op.operands])]
 case makeMap t r=>cases r<;>rfl
 case lookup t m k ok=>
  rw[hv m (by simp[Op.operands]),hv k (by simp[Op.operands])]
  have h3:∀id∈(s.ev m).refs,s'.o id=s.o id:=fun id ag=>ho id (by simp[ft,ag])
  have h1:dk s'.o (s.ev k)=dk s.o (s.ev k):=cm _ fun id ag=>ho id (by simp[ft,ag])
  unfold kE
  simp only[h1,sc _ h3]
 case mapUpdate t m k v=>
  rw[hv m (by simp[Op.operands]),hv k (by simp[Op.operands]),hv v (by simp[Op.operands])]
  have h3:∀id∈(s.ev m).refs,s'.o id=s.o id:=fun id ag=>ho id (by simp[ft,ag])
  have h1:dk s'.o (s.ev k)=dk s.o (s.ev k):=cm _ fun id ag=>ho id (by simp[ft,ag])
  have h2:dk s'.o (s.ev v)=dk s.o (s.ev v):=cm _ fun id ag=>ho id (by simp[ft,ag])
  have h4:b8 s'.o (s.ev v).ids=b8 s.o (s.ev v).ids:=eg fun id ag=>ho id (by simp[ft,fK _ _ ag])
  unfold fX
  simp only[h1,h2,h4,jd _ h3]
 case insert t m k v=>
  rw[hv m (by simp[Op.operands]),hv k (by simp[Op.operands]),hv v (by simp[Op.operands])]
  have h3:∀id∈(s.ev m).refs,s'.o id=s.o id:=fun id ag=>ho id (by simp[ft,ag])
  have h1:dk s'.o (s.ev k)=dk s.o (s.ev k):=cm _ fun id ag=>ho id (by simp[ft,ag])
  have h2:dk s'.o (s.ev v)=dk s.o (s.ev v):=cm _ fun id ag=>ho id (by simp[ft,ag])
  have h4:b8 s'.o (s.ev v).ids=b8 s.o (s.ev v).ids:=eg fun id ag=>ho id (by simp[ft,fK _ _ ag])
  unfold fX
  simp only[h1,h2,h4,jd _ h3]
 case index t x i=>rw[hv x (by simp[Op.operands]),hv i (by simp[Op.operands])]
 case range t x=>
  rw[hv x (by simp[Op.operands])]
  exact qt _ fun id ag=>ho id (by simp[ft,ag])
 case next x str=>
  rw[hv x (by simp[Op.operands])]
  exact sd _ _ fun id ag=>ho id (by simp[ft,ag])
 case entry x=>
  rw[hv x (by simp[Op.operands])]
  exact qs _ fun id ag=>ho id (by simp[ft,ag])
 case unOp op t x=>rw[hv x (by simp[Op.operands])]
 case convert u t x=>rw[hv x (by simp[Op.operands])]
 case makeInterface t x=>rw[hv x (by simp[Op.operands])]
 case makeFunc fn first cap=>
  have h1:first.toList.map s'.ev=first.toList.map s.ev:=List.map_congr_left fun x hx=>hv x (by simp only[Op.operands];exact Array.mem_append.2 (.inl (Array.mem_toList_iff.1 hx)))
  have h2:cap.toList.map s'.ev=cap.toList.map s.ev:=List.map_congr_left fun x hx=>hv x (by simp only[Op.operands];exact Array.mem_append.2 (.inr (Array.mem_toList_iff.1 hx)))
  rw[h1,h2]
 case makeSlice t l c=>rw[hv l (by simp[Op.operands]),hv c (by simp[Op.operands])]
 case fieldAddr t x f=>
  rw[hv x (by simp[Op.operands])]
  simp only[eL]
  cases aW P t f<;>simp only
  rw[my _ _ (by simpa[ft]using ho)]
 case indexAddr t x i=>
  rw[hv x (by simp[Op.operands]),hv i (by simp[Op.operands])]
  have h1:∀q,jQ s'.o (s.ev x) q=jQ s.o (s.ev x) q:=fun q=>my _ _ (by simpa[ft]using ho)
  simp only[eK,h1]
  cases hx:s.ev x with
  |osl id ep=>simp only[ho id (by simp[ft,hx,V.refs])]
  |d y=>cases y<;>rfl
  |_=>rfl
 case extract x i=>rw[hv x (by simp[Op.operands])]
 case call c=>
  obtain⟨xf,args,ts⟩:=c
  cases xf<;>simp only
  rename_i b
  unfold lu
  have hm:∀x∈args.toList,s'.ev x=s.ev x:=fun x hx=>hv x (by simp only[Op.operands,Call.operands];exact Array.mem_append.2 (.inr (Array.mem_toList_iff.1 hx)))
  have hr:∀x∈args.toList,∀id∈(s.ev x).refs,s'.o id=s.o id:=by
   intro x hx id ag
   refine ho id ?_
   simp only[ft]
   generalize args.toList=l at hx
   induction l with
   |nil=>cases hx
   |cons y l ih=>
    simp only[List.map_cons,V.az,List.mem_append]
    rcases List.mem_cons.1 hx with rfl|hx
    ·exact .inl ag
    ·exact .inr (ih hx)
  split
  ·rename_i x ha
   rw[ha]at hm hr
   rw[hm x (by simp)]
   have h1:∀t,tI P t s'.o (s.ev x)=tI P t s.o (s.ev x):=fun t=>by simp only[tI,mw _ (hr x (by simp))]
   simp only[h1]
  ·rename_i x y ha
   rw[ha]at hm hr
   rw[hm x (by simp),hm y (by simp)]
   simp only[lq,mw _ (hr y (by simp))]
   cases oY P fr ts (s.ev x) (s.ev y)with
   |some r=>rfl
   |none=>
   dsimp only
   cases hx:s.ev x with
   |osl id ep=>simp only[hr x (by simp) id (by simp[hx,V.refs])]
   |_=>rfl
  ·rename_i x y ha
   rw[ha]at hm
   rw[hm x (by simp),hm y (by simp)]
  ·rename_i x y ha
   rw[ha]at hm
   rw[hm x (by simp),hm y (by simp)]
  ·rename_i x y z h;rw[hm x (by rw[h];simp),hm y (by rw[h];simp),hm z (by rw[h];simp)]
  ·rename_i x y ha
   rw[ha]at hm hr
   rw[hm x (by simp),hm y (by simp)]
   have h1:dr s'.o (s.ev y)=dr s.o (s.ev y):=by unfold dr;rw[cm _ (hr y (by simp))]
   have h2:b8 s'.o (s.ev y).ids=b8 s.o (s.ev y).ids:=eg fun id ag=>hr y (by simp) id (fK _ _ ag)
   unfold oW
   simp only[h1,h2,qv _ (hr x (by simp))]
  ·rename_i x y ha
   rw[ha]at hm hr
   rw[hm x (by simp),hm y (by simp)]
   have h1:dk s'.o (s.ev y)=dk s.o (s.ev y):=cm _ (hr y (by simp))
   have h2:=jd _ (hr x (by simp))
   simp only[kI,h1,h2]
  ·rename_i x ha
   rw[ha]at hm
   rw[hm x (by simp)]
  ·rfl
end
end Go.Proofs.YtbmnikpknlkbkaaGreat
