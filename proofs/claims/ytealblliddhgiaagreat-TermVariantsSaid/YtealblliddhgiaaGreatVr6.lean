/-
  A PART OF THE PROOF. Conditions: none.
-/
import Derived.Test.YtealblliddhgiaaGreatVr5
set_option linter.unusedSimpArgs false
set_option linter.unusedVariables false
namespace Go.Proofs.YtealblliddhgiaaGreat
section
variable {P:Program}{M:Nat->Prop}{φ:Place}{H:Hp}{w w':World}{ct:Place}{H0:Hp}{w0:World}{n b:Nat}{s:S}{a:Act}{cx:Cx}{ro:Option Nat}{k:Nat}
theorem gD(hb:∀id,H0.us id->id<b)(rM:cx.rd=false->ro=none):∀ (c:Code) (Q:e9->S->Prop) (s:S) (φ:Place) (a:Act) (w:World),iy P n b cx.rd c Q s->bZ M ct H0 w0 n cx φ s a w->c.rN P ro (A8 M ct H0 w0 n cx Q) a w:=by
 intro c
 induction c with
 |skip=>exact fun Q s φ a w h hs=>nD (k:=0) (wpIn_skip ⟨.normal,s,φ,h,hs,trivial⟩)
 |scope x ih=>exact fun Q s φ a w h hs=>Cv (ih Q s φ a w h hs) (fun l a w ⟨xx,s',ay,hq,ij,hm⟩=>by cases xx<;>exact hm)
 |label l=>exact fun Q s φ a w h hs=>nD (k:=0) (wpIn_label ⟨.normal,s,φ,h,hs,trivial⟩)
 |exit id=>exact fun Q s φ a w h hs=>xw ⟨.exit id,s,φ,h,hs,rfl⟩
 |ret=>exact fun Q s φ a w h hs=>A9 ⟨.ret,s,φ,h,hs,trivial⟩
 |goto l=>exact fun Q s φ a w h hs=>h.elim
 |refuse y=>exact fun Q s φ a w h hs=>h.elim
 |rangeFunc g ps x y=>exact fun Q s φ a w h hs=>Cw hs h.1 (rM h.1) h.2
 |region id ops draw=>
  intro Q s φ a w h hs
  cases draw with
  |true=>exact nD (h M ct H0 w0 cx φ a w ro 0 hs)
  |false=>
   refine nD (k:=0) (wpIn_region_list (nC (K:=Q .normal) (X:=fun v s=>Q (.bK v) s) (fun s φ a w hk hs=>⟨.normal,s,φ,hk,hs,trivial⟩) (fun v s φ a w val hx hs hd=>⟨.bK v,s,φ,hx,hs,val,rfl,hd⟩) _ s φ a w h hs))
 |seq x y GU GV=>
  intro Q s φ a w h hs
  refine vz (gf (GU _ s φ a w h hs) ?_)
  rintro e a' w' ⟨xx,s',ay,hq,ij,hm⟩
  cases e<;>cases xx<;>first|(exact hm.elim)|skip
  ·exact GV Q s' ay a' w' hq ij
  ·subst hm;exact⟨_,s',ay,hq,ij,rfl⟩
  ·exact⟨.ret,s',ay,hq,ij,trivial⟩
  ·exact⟨.bK _,s',ay,hq,ij,hm⟩
 |cond c x y GU GV=>
  intro Q s φ a w h hs
  simp only[iy]at h
  have hc:=lV (M:=M) (φ:=φ) (H:=s.H) (w:=w) s a hs.env c
  split at h
  ·rename_i t hv
   rw[hv]at hc
   simp only[V.den,D.den]at hc
   cases t with
   |true=>exact oF hc (GU Q s φ a w (h.1 rfl) hs)
   |false=>exact oF hc (GV Q s φ a w (h.2 rfl) hs)
  ·rename_i hv
   rw[hv]at hc
   obtain⟨t,hc⟩:=hc
   cases t with
   |true=>exact oF hc (GU Q s φ a w h.1 hs)
   |false=>exact oF hc (GV Q s φ a w h.2 hs)
  ·exact h.elim
 |block id x ih=>
  intro Q s φ a w h hs
  refine Cu (gf (ih _ s φ a w h hs) ?_)
  rintro e a' w' ⟨xx,s',ay,hq,ij,hm⟩
  cases e<;>cases xx<;>first|(exact hm.elim)|skip
  ·exact⟨.normal,s',ay,hq,ij,trivial⟩
  ·subst hm
   simp only[Exit.inBlock]
   simp only[eW]at hq
   split
   ·rename_i he;rw[if_pos he]at hq;exact⟨.normal,s',ay,hq,ij,trivial⟩
   ·rename_i he;rw[if_neg he]at hq;exact⟨.exit _,s',ay,hq,ij,rfl⟩
  ·exact⟨.ret,s',ay,hq,ij,trivial⟩
  ·exact⟨.bK _,s',ay,hq,ij,hm⟩
 |loop x ih=>
  intro Q s φ a w h hs
  obtain⟨J,⟨m0,s1,hle,hI⟩,zL⟩:=h
  obtain⟨hZ,uq⟩:=Ey hb hs hle
  refine vB (fun m a w=>∃s φ,J m s/\bZ M ct H0 w0 n cx φ s a w) ?_ m0 a w ⟨s1,hZ,hI,uq⟩
  rintro m a w ⟨s,φ,hI,hs⟩
  refine gf (ih _ s φ a w (zL m s hI) hs) ?_
  rintro e a' w' ⟨xx,s',ay,hq,ij,hm⟩
  cases e<;>cases xx<;>first|(exact hm.elim)|skip
  ·obtain⟨m2,s2,bL,SJ,XQ⟩:=hq
   obtain⟨Cy,Gt⟩:=Ey hb ij SJ
   exact⟨m2,bL,s2,Cy,XQ,Gt⟩
  ·subst hm;exact⟨_,s',ay,hq,ij,rfl⟩
  ·exact⟨.ret,s',ay,hq,ij,trivial⟩
  ·exact⟨.bK _,s',ay,hq,ij,hm⟩
def Ez(tmps:Array Value)(r:ResultVar):Sem Value:=
 match r with
 | .tmp t=>pure (tmps.getD t undef)
 | .cell p t=>do loadVar t (<- asAddr (tmps.getD p undef))
theorem qS(oG:au M φ s.H w)(dv:∀i,V.den (ai M φ s.H) φ s.H w (s.env i) (a.tmps.getD i undef)):∀ (rs:List ResultVar) (vs:List V),kX P s rs=some vs->
 ∃vals,(rs.mapM (Ez a.tmps)).run P w= .ok vals w/\V.aC (ai M φ s.H) φ s.H w vs vals
 |[],vs,h=>by simp[kX]at h;subst h;exact⟨[],by simp,rfl⟩
 | .tmp t::rs,vs,h=>by
   simp only[kX,Option.map_eq_some_iff]at h
   obtain⟨us,h1,rfl⟩:=h
   obtain⟨vals,h2,h3⟩:=qS oG dv rs us h1
   exact⟨a.tmps.getD t undef::vals,by simp only[List.mapM_cons,Ez,Sem.run_bind,Sem.run_pure,Result.andThen_ok,h2],_,_,rfl,dv t,h3⟩
 | .cell p t::rs,vs,h=>by
   simp only[kX]at h
   split at h
   ·rename_i id off hv
    split at h
    ·rename_i cs ho
     simp only[Option.bind_eq_some_iff,Option.map_eq_some_iff]at h
     obtain⟨v,h0,us,h1,rfl⟩:=h
     obtain⟨vals,h2,h3⟩:=qS oG dv rs us h1
     have hx:=dv p
     rw[hv]at hx
     obtain⟨_,hu,hp⟩:=hx
     obtain⟨k,du,dP⟩:=hp (by show(s.o id).bN=true;rw[ho];rfl)
     have bz:=oG.ok id
     have xz:s.H.o id= .row cs:=ho
     simp only[aK,xz]at bz
     obtain⟨b',cP,ty,g1,g2,g3,g4⟩:=bz
     rw[du]at g1;simp at g1;subst g1
     obtain⟨val,h4,h5⟩:=od (P:=P) h0 ⟨k,0,none⟩ cP.toList g3 g4 (fun j u hj=>oe g2 j u (by simpa using hj)) rfl
     rw[add_plain,Nat.zero_add]at h4
     have h6:(loadVar t ⟨k,off,none⟩).run P w= .ok val w:=by simpa[Instr.loadAt,Instr.sureAddr]using h4
     exact⟨val::vals,by simp only[List.mapM_cons,Ez,dP,asAddr,Sem.run_bind,Sem.run_pure,Result.andThen_ok,h6,h2],val,vals,rfl,h5,h3⟩
    ·cases h
   ·cases h
theorem mc{fn:Func}{tmps:Array Value}{vals:List Value}
 (h:(fn.results.toList.mapM (Ez tmps)).run P w= .ok vals w):
 (results fn tmps).run P w= .ok (if h:vals.toArray.size=1 then vals.toArray[0]else .tuple vals.toArray) w:=by
 have e:results fn tmps=(do let vs <- fn.results.mapM (Ez tmps);pure (if h:vs.size=1 then vs[0]else .tuple vs)):=by
  unfold results
  congr 2
 rw[e,Array.mapM_eq_mapM_toList]
 simp only[Sem.run_bind,Sem.run_map,h,Result.andThen_ok,Sem.run_pure]
theorem kz{us:Nat->Prop}(φ:Place)(hM:∀k,M k->k<w.heap.size):au M φ ⟨fun _=> .no,us⟩ w where
 ok id:=by simp[aK]
 fresh _ _:=rfl
 apart i j k hi:=by simp[ae.live]at hi
 ours k:=by rintro⟨id,h,_⟩;simp[ae.live]at h
 tv:=hM
theorem Cz{vals:Array Value}{m i:Nat}:(vals++Array.replicate m undef).getD i undef=(vals[i]?).getD undef:=by
 simp only[Array.getD_eq_getD_getElem?,Array.getElem?_append]
 split
 ·rfl
 ·rw[Array.getElem?_eq_none (xs:=vals) (by omega)]
  simp only[Array.getElem?_replicate]
  split<;>rfl
structure vE (M:Nat->Prop) (ct:Place) (H0:Hp) (w0:World) (φ:Place) (s:S) (tmps:Array Value) (w:World):Prop where
 heap:au M φ s.H w
 tr:Trans ct H0 w0 φ s.H w
 env:∀i,V.den (ai M φ s.H) φ s.H w (s.env i) (tmps.getD i undef)
theorem CA{tmps:Array Value}(hs:vE M ct H0 w0 φ s tmps w){r:Nat}(h1:w0.heap.size<=r)(h2:w.heap[r]? =some (.deferred (some [])))(h3: ¬bO φ s.H r):
 vE M ct H0 w0 φ s tmps {w with heap:=w.heap.setIfInBounds r (.deferred none)}:=by
 have fS:∀b,b≠r->(w.heap.setIfInBounds r (.deferred none))[b]? =w.heap[b]? :=fun b hb=>(MapKept.heap_set h2).2 b hb
 have p9:∀b,cn w b-> ¬ai M φ s.H b->(w.heap.setIfInBounds r (.deferred none))[b]? =w.heap[b]? /\ ¬ai M φ s.H b:=by
  intro b hc hn
  refine⟨fS b fun e=> ?_,hn⟩
  subst e
  rcases hc with⟨cs,ty,fz,hc⟩|⟨es,clock,hc⟩
  ·rw[h2]at hc;cases hc
  ·rw[h2]at hc;cases hc
 refine⟨⟨fun id=> ?_,hs.heap.fresh,hs.heap.apart,fun b hb=>⟨(hs.heap.ours b hb).1,by simpa using(hs.heap.ours b hb).2⟩,fun b hb=>by simpa using hs.heap.tv b hb⟩,⟨⟨hs.tr.b8.os,hs.tr.b8.tape,hs.tr.b8.output,by simpa using hs.tr.b8.size,fun j hj hm=> ?_⟩,hs.tr.grow,hs.tr.rel⟩,fun i=>V.kj p9 (dM.refl _ _) _ _ (hs.env i)⟩
 ·exact aK.wV p9 (dM.refl _ _) rfl rfl (fun hl b hb=>fS b fun e=>h3 ⟨id,hl,e ▸ hb⟩) (hs.heap.ok id)
 ·rw[fS j (by omega)];exact hs.tr.b8.block j hj hm
theorem gh{fn:Func}{R:Ending->World->Prop}{u:FrameMode}(hu:u≠ .run){tmps tb:Array Value}{ds:List Deferred}(hR:∀w,vE M ct H0 w0 φ s tb w->LeavesInM (dJ none) k P fn tmps R ds u w):
 ∀ (ms:List Nat) (w:World),ms.Nodup->(∀r∈ms,w0.heap.size<=r/\w.heap[r]? =some (.deferred (some []))/\ ¬bO φ s.H r)->vE M ct H0 w0 φ s tb w->LeavesInM (dJ none) k P fn tmps R (ms.map mark++ds) u w
 |[],w,_,_,hs=>hR w hs
 |r::ms,w,hn,hm,hs=>by
  obtain⟨h1,h2,h3⟩:=hm r (by simp)
  obtain⟨Gu,Iv⟩:=List.nodup_cons.1 hn
  refine⟨hu, .inl ⟨r,{w with heap:=w.heap.setIfInBounds r (.deferred none)},rfl, ?_,gh hu hR ms _ Iv (fun r' Co=> ?_) (CA hs h1 h2 h3)⟩⟩
  ·simp[Instr.takeDeferred,getObj,setObj,Sem.run,h2,Result.andThen]
  ·obtain⟨g1,g2,g3⟩:=hm r' (by simp[Co])
   exact⟨g1,((MapKept.heap_set h2).2 r' (fun e=>Gu (e ▸ Co))).trans g2,g3⟩
theorem bZ.VF (hs:bZ M ct H0 w0 n cx φ s a w):vE M ct H0 w0 φ s a.tmps w:=⟨hs.heap,hs.tr,hs.env⟩
def lb(P:Program)(rs:List ResultVar)(K X:V->(Nat->ae)->Nat->Prop)(e:e9)(s:S):Prop:=
 match e with
 | .normal| .ret=>match kX P s rs with
   |some [v]=>K v s.o s.nx
   |some vs=>K (.bT vs) s.o s.nx
   |none=>False
 | .bK v=>X v s.o s.nx
 | .exit _=>False
theorem xA{P:Program}{rs:List ResultVar}{K X:V->(Nat->ae)->Nat->Prop}{s:S}(h:lb P rs K X .ret s):∃vs,kX P s rs=some vs/\K (match vs with|[v]=>v|vs=> .bT vs) s.o s.nx:=by
 unfold lb at h
 simp only at h
 split at h
 ·rename_i v h1;exact⟨[v],h1,h⟩
 ·rename_i vs h1 h2
  refine⟨vs,h2, ?_⟩
  split
  ·exact absurd rfl (h1 _)
  ·exact h
 ·exact h.elim
theorem xB:∀ {vs:List V} {vals:List Value},V.aC (ai M φ H) φ H w vs vals->V.den (ai M φ H) φ H w (match vs with|[v]=>v|vs=> .bT vs) (if h:vals.toArray.size=1 then vals.toArray[0]else .tuple vals.toArray)
 |[],vals,h=>by simp only[V.aC]at h;subst h;exact⟨#[],rfl,rfl⟩
 |[v],vals,h=>by obtain⟨u,us,rfl,h1,h2⟩:=h;simp only[V.aC]at h2;subst h2;exact h1
 |v::y::l,vals,h=>by
  have h':=h
  obtain⟨u,us,rfl,h1,u2,us2,rfl,h2⟩:=h
  exact⟨(u::u2::us2).toArray,by simp,by simpa using h'⟩
theorem rP{vals:Array Value}{m:Nat}{vs:List V}(hd:V.aC (ai M φ H) φ H w vs vals.toList)(i:Nat):V.den (ai M φ H) φ H w (cH vs i) ((vals++Array.replicate m undef).getD i undef):=by
 have hlen:=V.aB _ _ hd
 simp only[cH,Cz]
 cases hx:vs[i]? with
 |none=>
  have:vals[i]? =none:=by
   rw[List.getElem?_eq_none_iff]at hx
   apply Array.getElem?_eq_none
   simp at hlen;omega
  simp only[List.getD_eq_getElem?_getD,hx,this]
  exact⟨#[],rfl,rfl⟩
 |some v=>
  obtain⟨u,hu,GC⟩:=V.ec _ _ _ _ hd hx
  have vk:vals[i]? =some u:=by simpa using hu
  simp only[List.getD_eq_getElem?_getD,hx,vk,Option.getD_some]
  exact GC
theorem me{f:FuncId}{fn:Func}{c:Code}{args:Array Value}{w:World}{R:Ending->World->Prop}(hf:P.funcs[f]? =some fn)(hb:fn.body=some c)
 (h:c.rN P none (bodyPostM (dJ none) k P fn R) {tmps:=args++Array.replicate (fn.ntmps - args.size) undef,defers:=[]} w):CallsIn (dJ none) k P f args w R:=by
 have bL:f<P.funcs.size:=(Array.getElem?_eq_some_iff.1 hf).1
 refine⟨trivial,fun cs hr=> ?_⟩
 let b:Frame:={(default:Frame)with fn:=f,kind:= .normal,roundOf:=none}
 have la:Frame.enter P f args .normal=b.atR {tmps:=args++Array.replicate (fn.ntmps - args.size) undef,defers:=[]} [.code c]:=by
  simp[Frame.enter,Frame.atR,hf,hb,b]
 obtain⟨e,a',w',hq,cz⟩:=h b [] cs rfl bL
 rw[<- la]at cz
 cases e with
 |normal=>
  obtain⟨e',H8,nS,hR,hs,Ct,hl⟩:=leaves_stepsInM a'.defers .returning w' {b.atR a' []with mode:= .returning} cs rfl rfl rfl hf rfl (trivial:(dJ none).fn f) hr hq
  exact⟨e',H8,nS,hR,ComesIn.of_steps (StepsIn.trans cz (.one (fenced_calm (n:=0) (fr:=b.atR a' []) trivial fZ rfl) (stepR_end rfl))) hs,Ct,hl⟩
 |ret=>
  obtain⟨todo,EA⟩:=cz.1 rfl
  obtain⟨e',H8,nS,hR,hs,Ct,hl⟩:=leaves_stepsInM a'.defers .returning w' {b.atR a' todo with mode:= .returning} cs rfl rfl rfl hf rfl (trivial:(dJ none).fn f) hr hq
  exact⟨e',H8,nS,hR,ComesIn.of_steps EA hs,Ct,hl⟩
 |panic chain=>
  obtain⟨todo,EA⟩:=cz
  obtain⟨e',H8,nS,hR,hs,Ct,hl⟩:=leaves_stepsInM a'.defers (.panicking chain) w' {b.atR a' todo with mode:= .panicking chain} cs rfl rfl rfl hf rfl (trivial:(dJ none).fn f) hr hq
  exact⟨e',H8,nS,hR,ComesIn.of_steps EA hs,Ct,hl⟩
 |exit id=>exact hq.elim
 |goto l=>exact hq.elim
 |outgrown=>exact⟨.outgrown,w',b,hq,cz.resolve_left (by simp[b]),rfl,trivial⟩
def zM(P:Program)(l:Nat)(R:Ending->World->Prop):Exit->Act->World->Prop
 | .normal,_,w=>∃v w',(Instr.endRound l none).run P w= .ok v w'/\R (.returned v) w'
 | .ret,_,w=>∃v w',(Instr.endRound l (some .ret)).run P w= .ok v w'/\R (.returned v) w'
 | .exit id,_,w=>∃v w',(Instr.endRound l (some (.exit id))).run P w= .ok v w'/\R (.returned v) w'
 | .goto _,_,_=>False
 | .panic chain,a,w=>a.defers=[]/\R (.panicked chain) w
 | .outgrown,_,_=>False
theorem rQ{l:Nat}{f:FuncId}{tmps:Array Value}{assign body:Code}{w:World}{R:Ending->World->Prop}(hf:f<P.funcs.size)
 (h:assign.rN P (some l) (Exit.then (fun iG fA=>∃pG,(Instr.beginRound l).run P fA= .ok () pG/\body.rN P (some l) (zM P l R) iG pG) (fun e a w=>match e with| .panic chain=>a.defers=[]/\R (.panicked chain) w|_=>False))
  {tmps:=tmps,defers:=[]} w):
 RoundIn Fence.wide n P l f tmps assign body w R:=by
 refine⟨trivial,fun c cs hr=> ?_⟩
 let b:Frame:={(default:Frame)with fn:=f,kind:= .normal,roundOf:=some l}
 have JW:Frame.round l f tmps assign body .normal=b.atR {tmps:=tmps,defers:=[]} [.code assign, .beginRound, .code body]:=by
  simp[Frame.round,Frame.atR,b]
 have calm:∀ (m:Machine),m.fenced P Fence.wide:=fun m=>fenced_wide P m
 have bK:∀ {a:Act} {w:World} {todo:List Item} {chain:List PanicEntry},a.defers=[]->step P (lone {b.atR a todo with mode:= .panicking chain} (c::cs) w)= .next (lone (c.raise chain) cs w):=by
  intro a w todo chain hd
  exact step_leave_panicked (fr:={b.atR a todo with mode:= .panicking chain}) ⟨rfl,hd,P.funcs[f],by show P.funcs[f]? =_;simp[hf]⟩
 obtain⟨e,iG,fA,hq,cz⟩:=h b [.beginRound, .code body] (c::cs) rfl hf
 rw[<- JW]at cz
 cases e with
 |normal=>
  obtain⟨pG,JX,oH⟩:=hq
  have s1:StepsIn (Machine.fenced P Fence.wide) P (lone (b.atR iG [.beginRound, .code body]) (c::cs) fA) (lone (b.atR iG [.code body]) (c::cs) pG):= .one (calm _) (stepR_beginRound rfl JX)
  obtain⟨JT,NA,zI,oE,jF⟩:=oH b [] (c::cs) rfl hf
  have cz:StepsIn (Machine.fenced P Fence.wide) P _ _:=cz
  cases JT with
  |normal=>
   obtain⟨v,qG,gC,hR⟩:=oE
   have jF:StepsIn (Machine.fenced P Fence.wide) P _ _:=jF
   exact⟨.returned v,qG,hR,(StepsIn.trans cz s1).trans (StepsIn.trans jF (.one (calm _) (stepR_round_end rfl rfl gC)))⟩
  |ret=>
   obtain⟨v,qG,gC,hR⟩:=oE
   obtain⟨k₁,hs⟩:=jF.2 rfl
   have hs:StepsIn (Machine.fenced P Fence.wide) P _ _:=hs
   exact⟨.returned v,qG,hR,(StepsIn.trans cz s1).trans (StepsIn.trans hs (.one (calm _) (stepR_round_ret rfl rfl gC)))⟩
  |exit id=>
   obtain⟨v,qG,gC,hR⟩:=oE
   obtain⟨k₁,hk,hs⟩:=jF.2 rfl rfl
   have hs:StepsIn (Machine.fenced P Fence.wide) P _ _:=hs
   exact⟨.returned v,qG,hR,(StepsIn.trans cz s1).trans (StepsIn.trans hs (.one (calm _) (stepR_round_exit rfl rfl hk gC)))⟩
  |goto t=>exact oE.elim
  |panic chain=>
   obtain⟨todo,hs⟩:=jF
   have hs:StepsIn (Machine.fenced P Fence.wide) P _ _:=hs
   exact⟨.panicked chain,zI,oE.2,(StepsIn.trans cz s1).trans (StepsIn.trans hs (.one (calm _) (bK oE.1)))⟩
  |outgrown=>exact oE.elim
 |exit id=>exact hq.elim
 |goto t=>exact hq.elim
 |ret=>exact hq.elim
 |panic chain=>
  obtain⟨todo,hs⟩:=cz
  have hs:StepsIn (Machine.fenced P Fence.wide) P _ _:=hs
  exact⟨.panicked chain,fA,hq.2,StepsIn.trans hs (.one (calm _) (bK hq.1))⟩
 |outgrown=>exact hq.elim
theorem eI.Bb {f:FuncId}{fn:Func}{c:Code}{args:List V}{o:Nat->ae}{nx:Nat}{K X:V->(Nat->ae)->Nat->Prop}(hf:P.funcs[f]? =some fn)(hn:(fn.name== "runtime.NumGoroutine")=false)(oH:fn.body=some c)(hl:args.length<=fn.ntmps)
 (h:iy P fn.ntmps nx false c (lb P fn.results.toList K X) ⟨cH args,o,nx⟩):eI P f args o nx K X:=by
 refine⟨⟨fn,hf,hn,by rw[oH];rfl⟩,fun M φ w vals hH hd=> ?_⟩
 have hlen:=V.aB _ _ hd
 let s0:S:=⟨cH args,o,nx⟩
 let a0:Act:={tmps:=vals++Array.replicate (fn.ntmps - vals.size) undef,defers:=[]}
 have qh:bZ M φ (hp o nx) w fn.ntmps ⟨[],false⟩ φ s0 a0 w:=by
  refine⟨hH,Trans.refl _ _ _, ?_,⟨[],rfl,List.nodup_nil,fun _=>rfl,fun r hr=>by cases hr⟩,rP hd⟩
  simp only[a0,Array.size_append,Array.size_replicate];simp at hlen;omega
 refine xp (ro:=none) (k:=0) (me hf oH (gf (gD (P:=P) (H0:=hp o nx) (b:=nx) (cx:=⟨[],false⟩) (ro:=none) (fun id hu=>hu) (fun _=>rfl) c _ s0 φ a0 w h qh) ?_))
 rintro e a w' ⟨x,s,ay,hq,hs,hm⟩
 obtain⟨ms,g1,g2,g3,g4⟩:=hs.defers
 rw[List.append_nil]at g1
 have done:(x= .normal\/x= .ret)->LeavesInM (dJ none) 0 P fn a.tmps (l0 M φ (hp o nx) w K X) a.defers .returning w':=by
  intro hx
  have XR:lb P fn.results.toList K X .ret s:=by rcases hx with rfl|rfl<;>exact hq
  obtain⟨vs,h1,h2⟩:=xA XR
  rw[g1]
  have:=gh (P:=P) (k:=0) (fn:=fn) (R:=l0 M φ (hp o nx) w K X) (u:= .returning) (by simp) (ds:=[]) (fun w2 hb=>by
   obtain⟨vals,h3,h4⟩:=qS (P:=P) (a:=a) hb.heap hb.env _ _ h1
   exact⟨_,mc h3,ay,s.o,s.nx,_,hb.heap,hb.tr,xB h4,h2⟩) ms w' g2 g4 hs.VF
  rwa [List.append_nil]at this
 cases e<;>cases x<;>first|(exact hm.elim)|skip
 ·exact done (.inl rfl)
 ·exact hq.elim
 ·exact done (.inr rfl)
 ·rename_i v
  obtain⟨val,rfl,SK⟩:=hm
  show LeavesInM (dJ none) 0 P fn a.tmps (l0 M φ (hp o nx) w K X) a.defers _ w'
  rw[g1]
  have JW:vE M φ (hp o nx) w ay ⟨fun i=>if i=0 then v else .aa,s.o,s.nx⟩ #[val] w':=⟨hs.heap,hs.tr,fun i=>by
   by_cases hi:i=0
   ·subst hi;exact SK
   ·simp only[hi,if_false];trivial⟩
  have:=gh (P:=P) (k:=0) (fn:=fn) (s:=⟨fun i=>if i=0 then v else .aa,s.o,s.nx⟩) (tmps:=a.tmps) (tb:=#[val]) (ct:=φ) (H0:=hp o nx) (w0:=w) (R:=l0 M φ (hp o nx) w K X) (u:= .panicking [{v:=val,recovered:=false}]) (by simp) (ds:=[]) (fun w2 hb=>by
   have h0:=hb.env 0
   exact⟨ay,s.o,s.nx,v,hb.heap,hb.tr,val,rfl,h0,hq⟩) ms w' g2 g4 JW
  rwa [List.append_nil]at this
theorem cj.lg {f:FuncId}{ds:List D}{out:R}(h:eI P f (ds.map .d) (fun _=> .no) 0 (fun v o _=>∃vs rs,v=(match vs with|[v]=>v|vs=> .bT vs)/\bU o vs=some rs/\out= .ret rs) (fun v o _=>∃x,dz o v=some x/\out= .bK x)):cj P f ds out:=by
 refine⟨h.1,fun M w vals hM hd=> ?_⟩
 let ct:Place:=fun _=> .nilFunc
 have nE:∀b, ¬bO ct (hp (fun _=> .no) 0) b:=by rintro b ⟨id,hl,_⟩;simp[hp,ae.live]at hl
 refine(h.2 M ct w vals (kz ct hM) ((V.cd _ _).2 (D.aI (w:=w) (w':=w) (B:=M) (fun b _ hB=>⟨rfl,fun h=>h.elim hB (nE b)⟩) _ _ hd))).mono ?_
 rintro e w' ⟨ay,o',nx',v,k1,k2,k3⟩
 have EB:eF (fun _=>False) w w':=⟨k2.b8.os,k2.b8.tape,k2.b8.output,k2.b8.size,fun k hk _=>k2.b8.block k hk (nE k)⟩
 have fin:∀ (vs:List V) (xs:List D) (vals:List Value),bU o' vs=some xs->V.aC (ai M ay (hp o' nx')) ay (hp o' nx') w' vs vals->D.aC M w' xs vals:=by
  intro vs xs vals h1 h2
  obtain⟨f1,f2,f3,f4,f5⟩:=cG k1 (V.a8 vs) (cw vs _ h2)
  have h3:=dn f1 vs xs vals f3 h1 (V.aI f2 _ _ h2)
  exact D.aI (w:=w') (w':=w') (fun k _ hB=>⟨rfl,fun hM=>hB (.inl hM)⟩) xs vals h3
 refine⟨EB, ?_⟩
 cases e with
 |outgrown=>exact k3.elim
 |panicked ch=>
  obtain⟨val,rfl,g1,x,g2,rfl⟩:=k3
  have:=fin [v] [x] [val] (by simp[bU,g2]) ⟨val,[],rfl,g1,rfl⟩
  obtain⟨u,us,he,h2,_⟩:=this
  simp at he;obtain⟨rfl,rfl⟩:=he
  exact⟨val,rfl,h2⟩
 |returned val=>
  obtain⟨g1,vs,rs,rfl,g2,rfl⟩:=k3
  match vs,g1,g2 with
  |[],g1,g2=>
   obtain⟨arr,rfl,hv⟩:=g1
   simp only[bU,Option.some.injEq]at g2;subst g2
   exact⟨arr,rfl,hv⟩
  |[v],g1,g2=>
   have:=fin [v] rs [val] g2 ⟨val,[],rfl,g1,rfl⟩
   cases rs with
   |nil=>cases this
   |cons x l=>
    obtain⟨u,us,he,h2,h3⟩:=this
    simp at he;obtain⟨rfl,rfl⟩:=he
    cases l with
    |nil=>exact h2
    |cons y l=>obtain⟨_,_,h,_⟩:=h3;cases h
  |v::v2::l,g1,g2=>
   obtain⟨arr,rfl,h⟩:=g1
   have:=fin (v::v2::l) rs arr.toList g2 h
   have hl:=D.aB _ _ this
   have DT:=V.aB _ _ h
   match rs,hl,this with
   |[],hl,_=>rw[DT]at hl;simp at hl
   |[x],hl,_=>rw[DT]at hl;simp at hl
   |x::y::l,_,this=>exact⟨arr,rfl,this⟩
theorem CB{rs:List ResultVar}{out:R}(e:e9)(s:S)(h:zH P rs out e s):
 lb P rs (fun v o _=>∃vs rs,v=(match vs with|[v]=>v|vs=> .bT vs)/\bU o vs=some rs/\out= .ret rs) (fun v o _=>∃x,dz o v=some x/\out= .bK x) e s:=by
 have ret:zH P rs out .ret s->lb P rs (fun v o _=>∃vs rs,v=(match vs with|[v]=>v|vs=> .bT vs)/\bU o vs=some rs/\out= .ret rs) (fun v o _=>∃x,dz o v=some x/\out= .bK x) .ret s:=by
  intro h
  obtain⟨vs,xs,h1,h2,h3⟩:=Er h
  simp only[lb,h1]
  match vs,h2 with
  |[],h2=>exact⟨[],xs,rfl,h2,h3⟩
  |[v],h2=>exact⟨[v],xs,rfl,h2,h3⟩
  |v::v2::l,h2=>exact⟨v::v2::l,xs,rfl,h2,h3⟩
 cases e with
 |normal=>exact ret h
 |ret=>exact ret h
 |exit id=>exact h.elim
 |bK v=>exact Es h
end
end Go.Proofs.YtealblliddhgiaaGreat
namespace Go.Proofs.YtealblliddhgiaaGreat
def EC{α:Type}(c:Bool)(x:α):Option α:=if c=true then some x else none
def one(v:V):Option fW:=some (v,[],[])
def xC(op:BinOp)(k:IntKind)(a b:Int):Option V:=
 match op with
 | .add=>some (.d (.int k (k.wrap (a+b))))
 | .sub=>some (.d (.int k (k.wrap (a - b))))
 | .mul=>some (.d (.int k (k.wrap (a*b))))
 | .quo=>if b=0 then none else some (.d (.int k (k.wrap (a.tdiv b))))
 | .rem=>if b=0 then none else some (.d (.int k (a.tmod b)))
 | .and=>(rp .and k a b).map fun r=> .d (.int k r)
 | .or=>(rp .or k a b).map fun r=> .d (.int k r)
 | .xor=>(rp .xor k a b).map fun r=> .d (.int k r)
 | .andNot=>(rp .andNot k a b).map fun r=> .d (.int k r)
 | .eql=>some (.d (.bool (a==b)))| .neq=>some (.d (.bool (a !=b)))| .lss=>some (.d (.bool (decide (a<b))))| .leq=>some (.d (.bool (decide (a<=b))))
 | .gtr=>some (.d (.bool (decide (b<a))))| .geq=>some (.d (.bool (decide (b<=a))))
 |_=>none
def aR(P:Program)(t:TypeId):Bool:=
 match P.underlying t with
 |some .bool=>true
 |_=>false
def vF(P:Program)(op:BinOp)(t:TypeId)(x y:V):Option V:=
 match x,y with
 | .d (.int k a), .d (.int k' b)=>if k=k' then xC op k a b else none
 | .d (.bool a), .d (.bool b)=>match op with
   | .eql=>EC (aR P t) (.d (.bool (a==b)))
   | .neq=>EC (aR P t) (.d (.bool (a !=b)))
   |_=>none
 | .d (.str a), .d (.str b)=>match op with
   | .eql=>some (.d (.bool (a==b)))
   | .neq=>some (.d (.bool (a !=b)))
   |_=>none
 |_,_=>none
def SL(op:UnOp)(x:V):Option V:=
 match op,x with
 | .neg, .d (.int k n)=>some (.d (.int k (k.wrap (-n))))
 | .not, .d (.bool b)=>some (.d (.bool !b))
 |_,_=>none
def oI(c a b:V):Option V:=
 match c with
 | .d (.bool true)=>some a
 | .d (.bool false)=>some b
 |_=>none
def oJ(o:Nat->ae)(x:V):Option (List D×List Nat):=
 match x with
 | .d (.sl es)=>some (es,[])
 | .aX=>some ([],[])
 | .nr es=>some (es,[])
 | .osl id ep=>match o id with
   | .arr gz _ _ es=>if ep=gz then some (es,[id])else none
   | .nW gz es=>if ep=gz then some (es,[id])else none
   |_=>none
 |_=>none
def zN(P:Program)(t:TypeId)(o:Nat->ae)(x:V):Option fW:=
 match P.underlying t with
 |some (.slice _)=>match oJ o x with
  |some (es,rd)=>some (.d (.int .i64 es.length),[],rd)
  |none=>none
 |some .string=>match x with
  | .d (.str s)=>one (.d (.int .i64 s.length))
  |_=>none
 |some (.array n _)=>one (.d (.int .i64 n))
 |_=>none
def ur(P:Program)(e:TypeId)(es:List D)(i:Int)(rd:List Nat):Option fW:=
 if 0<=i then match es[i.toNat]? with
  |some y=>EC (y.cells.length==P.cellsOf e&&0<P.cellsOf e) (.pp y.cells 0,[],rd)
  |none=>none
 else none
def nj(o:Nat->ae)(x:V)(q:Nat):Option V:=
 match x with
 | .ptr id off=>EC (o id).bN (.ptr id (off+q))
 | .pp cs off=>some (.pp cs (off+q))
 | .pe id ep j sz off=>if(o id).aZ=some ep then some (.pe id ep j sz (off+q))else none
 |_=>none
def gE(P:Program)(o:Nat->ae)(t:TypeId)(x ix:V):Option fW:=
 match ix with
 | .d (.int _ i)=>match aT P t with
   |some e=>match x with
    | .d (.sl es)=>ur P e es i []
    | .nr es=>ur P e es i []
    | .osl id ep=>match o id with
      | .arr gz _ sz es=>if ep=gz/\0<=i/\i.toNat<es.length/\sz=P.cellsOf e/\0<P.cellsOf e then some (.pe id ep i.toNat sz 0,[],[id])else none
      | .nW gz es=>if ep=gz then ur P e es i [id]else none
      |_=>none
    |_=>none
   |none=>match cB P t with
    |some (n,e)=>if 0<=i/\i<n/\(P.info? e).isSome=true then(nj o x (i.toNat*P.cellsOf e)).bind one else none
    |none=>none
 |_=>none
def gG(P:Program)(o:Nat->ae)(t:TypeId)(x:V)(f:Nat):Option V:=
 match cu P t f with
 |some q=>nj o x q
 |none=>none
def mf(P:Program)(o:Nat->ae)(t:TypeId)(x:V):Option fW:=
 match x with
 | .ptr id off=>match o id with
   | .row cs=>match eG P t cs off with
     |some v=>some (v,[],[id])
     |none=>none
   |_=>none
 | .pp cs off=>match eG P t (cs.map .d) off with
   |some v=>some (v,[],[])
   |none=>none
 | .pe id ep i sz off=>match o id with
   | .arr gz _ mV es=>if ep=gz/\sz=mV then match es[i]? with
    |some e=>match eG P t (e.cells.map .d) off with
     |some v=>some (v,[],[id])
     |none=>none
    |none=>none
     else none
   |_=>none
 |_=>none
def pH(P:Program)(o:Nat->ae)(t:TypeId)(x v:V):Option fW:=
 match x with
 | .ptr id off=>match o id with
   | .row cs=>match vg P t cs off v with
     |some cs'=>some (.bT [],[(id, .row cs')],[id])
     |none=>none
   |_=>none
 | .pe id ep i mV off=>match o id with
   | .arr gz ty sz es=>if ep=gz/\mV=sz then match es[i]?,dz o v with
    |some e,some y=>if y.cells.length=P.cellsOf t/\0<y.cells.length/\v.ids.all (· !=id)=true then match e.put off y.cells with
     |some e'=>some (.bT [],ck o v.ids++[(id, .arr ep ty sz (es.set i e'))],id::v.ids)
     |none=>none
     else none
    |_,_=>none
     else none
   |_=>none
 |_=>none
def fL(P:Program)(o:Nat->ae)(fr:Nat)(t:TypeId)(len:Nat)(parts:List (Nat×V)):Option fW:=
 match aT P t with
 |some e=>if len=0/\parts.isEmpty=true/\0<P.cellsOf e then some (.osl fr 0,[(fr, .arr 0 e (P.cellsOf e) [])],[])else if parts.map (·.1)=List.range len/\(bf P e).isSome=true/\0<len/\0<P.cellsOf e/\len*P.cellsOf e<=2^24 then match bU o (parts.map (·.2))with
  |some ds=>if ds.all (fun x=>x.cells.length==P.cellsOf e)=true then some (.osl fr 0,ck o (V.a8 (parts.map (·.2)))++[(fr, .arr 0 e (P.cellsOf e) ds)],V.a8 (parts.map (·.2)))else none
  |none=>none
  else none
 |none=>none
def lh(P:Program)(fr:Nat)(t:TypeId)(l c:V):Option fW:=
 match aT P t with
 |some e=>match l,c with
  | .d (.int _ n), .d (.int _ m)=>if n=m/\0<=n/\0<P.cellsOf e/\P.bytesOf e*n.toNat<=2^47/\n.toNat<=2^47 then match bJ P e with
   |some x=>some (.osl fr 0,[(fr, .arr 0 e (P.cellsOf e) (List.replicate n.toNat x))],[])
   |none=>none
    else none
  |_,_=>none
 |none=>none
def oK(P:Program)(o:Nat->ae)(fr:Nat)(ts:Array TypeId)(x y:V):Option fW:=
 match ts.toList with
 |[t,t']=>if t=t' then match aT P t,oJ o y with
    |some e,some (new,rd)=>if 0<P.cellsOf e/\(bf P e).isSome=true/\new.all (fun z=>z.cells.length==P.cellsOf e)=true then match x with
     | .aX=>if new.length<=2^47/\new.length*P.bytesOf e<=2^47 then some (.osl fr 0,[(fr, .arr 0 e (P.cellsOf e) new)],rd)else none
     | .nr es=>if es.all (fun z=>z.cells.length==P.cellsOf e)=true then(if new=[]then some (.nr es,[],rd)else if es.length+new.length<=2^40/\(es.length+new.length)*P.bytesOf e<=2^40 then some (.osl fr 0,[(fr, .arr 0 e (P.cellsOf e) (es++new))],rd)else none)else none
     | .osl id ep=>match o id with
       | .arr gz ty sz es=>if ep=gz/\ty=e/\sz=P.cellsOf e/\es.length+new.length<=2^47/\(es.length+new.length)*P.bytesOf e<=2^47 then
        some (.osl id (ep+1),[(id, .arr (ep+1) ty sz (es++new))],id::rd)else none
       |_=>none
     |_=>none
     else none
    |_,_=>none
  else none
 |_=>none
def oL(isMax:Bool)(x y:V):Option V:=
 match x,y with
 | .d (.int k a), .d (.int k' b)=>if k=k' then some (.d (.int k (if isMax then(if b>a then b else a)else(if b<a then b else a))))else none
 |_,_=>none
def lj(x:Option V):Option fW:=match x with|some v=>one v|none=>none
def oM(P:Program)(s:S)(fr:Nat)(b:Builtin)(args:List Operand)(ts:Array TypeId):Option fW:=
 match b,args with
 | .len,[x]=>match ts.toList with
   |[t]=>zN P t s.o (s.ev x)
   |_=>none
 | .append,[x,y]=>oK P s.o fr ts (s.ev x) (s.ev y)
 | .max,[x,y]=>lj (oL true (s.ev x) (s.ev y))
 | .min,[x,y]=>lj (oL false (s.ev x) (s.ev y))
 | .max,[x,y,z]=>lj (D3 (s.ev x) (s.ev y) (s.ev z))
 | .copy,[x,y]=>tS P s.o ts (s.ev x) (s.ev y)
 | .delete,[x,y]=>match ts.toList.head? with
   |some t=>mJ P s.o t (s.ev x) (s.ev y)
   |none=>none
 |_,_=>none
def vG(P:Program)(t:TypeId)(parts:List (Nat×V)):Option V:=
 match bf P t,dA P t with
 |some z,some pl=>match p8 pl z parts with
  |some cs=>some (fb cs)
  |none=>none
 |_,_=>none
def iP(o:Nat->ae)(x:V):Option V:=
 match x with
 | .ptr id off=>EC (o id).bN (.ptr id off)
 | .pp cs off=>some (.pp cs off)
 | .func (.func f) first cap=>some (.func (.func f) first cap)
 |_=>none
def az(P:Program)(t:TypeId):Bool:=
 match P.underlying t with
 |some (.interface _)=>false
 |some _=>true
 |none=>false
def ED(P:Program)(t:TypeId)(x:V):Option V:=
 EC (az P t) (match x with
  | .d y=> .d (.iface t y)
  |v=> .iface t v)
def dt(P:Program)(o:Nat->ae)(op:BinOp)(t:TypeId)(nv:Bool)(x y:V):Option fW:=
 match vF P op t x y with
 |some v=>one v
 |none=>pz P o op t nv x y
def xD(op:UnOp)(x:V):Option V:=
 match op,x with
 | .not, .eO=>some .eO
 |op,x=>SL op x
def fT(P:Program)(s:S)(fr:Nat)(op:Op):Option fW:=
 match op with
 | .move x=>one (s.ev x)
 | .assign x=>one (s.ev x)
 | .pick c a b=>lj (oI (s.ev c) (s.ev a) (s.ev b))
 | .alloc t=>match bf P t with
   |some cs=>some (.ptr fr 0,[(fr, .row cs)],[])
   |none=>none
 | .box _ x=>match(s.ev x).cells with
   |some cs=>some (.ptr fr 0,[(fr, .row cs)],[])
   |none=>none
 | .build t parts=>lj (vG P t (parts.toList.map fun p=>(p.1,s.ev p.2)))
 | .buildSlice t len parts=>fL P s.o fr t len (parts.toList.map fun p=>(p.1,s.ev p.2))
 | .load t x=>mf P s.o t (s.ev x)
 | .store t x v=>pH P s.o t (s.ev x) (s.ev v)
 | .nilCheck x=>lj (iP s.o (s.ev x))
 | .binOp op t x y _=>dt P s.o op t (isConst x||isConst y) (s.ev x) (s.ev y)
 | .unOp op _ x=>lj (xD op (s.ev x))
 | .convert u t x=>match P.underlying u,cL P t,s.ev x with
   |some _,some k, .d (.int _ n)=>one (.d (.int k (k.wrap n)))
   |_,_,_=>none
 | .makeInterface t x=>lj (ED P t (s.ev x))
 | .makeFunc fn first cap=>one (.func fn (first.toList.map s.ev) (cap.toList.map s.ev))
 | .makeSlice t l c=>lh P fr t (s.ev l) (s.ev c)
 | .fieldAddr t x f=>lj (gG P s.o t (s.ev x) f)
 | .indexAddr t x i=>gE P s.o t (s.ev x) (s.ev i)
 | .extract x i=>match s.ev x with
   | .bT vs=>match vs[i]? with
     |some v=>one v
     |none=>none
   |_=>none
 | .call c=>match c.callee with
   | .builtin b=>oM P s fr b c.args.toList c.argTypes
   |_=>none
 | .slice t x lo hi mx=>pw P s.o t (s.ev x) (lo.map s.ev) (hi.map s.ev) (mx.map s.ev)
 | .field t x f=>lj (ru P t (s.ev x) f)
 | .index t x i=>lj (rv P t (s.ev x) (s.ev i))
 | .typeAssert x _ t ok=>lj (nZ P t ok (s.ev x))
 | .makeMap t none=>lS P fr t
 | .lookup t m k ok=>gV P s.o t (s.ev m) (s.ev k) ok
 | .mapUpdate t m k v=>fi P s.o t (s.ev m) (s.ev k) (s.ev v)
 | .insert t m k v=>fi P s.o t (s.ev m) (s.ev k) (s.ev v)
 | .range t x=>lT P s.o fr t (s.ev x)
 | .next x str=>nb s.o (s.ev x) str
 | .entry x=>lU s.o (s.ev x)
 |_=>none
section
variable {P:Program}{s:S}{fr:Nat}{v:V}{Δ:List (Nat×ae)}{rd:List Nat}{o:Nat->ae}{K:V->List (Nat×ae)->List Nat->Prop}
theorem pI{α:Type}{c:Bool}{x y:α}(h:EC c x=some y):c=true/\x=y:=by
 unfold EC at h;split at h
 ·injection h with h;exact⟨by assumption,h⟩
 ·cases h
theorem jT{x:V}{r:fW}(h:one x=some r):r=(x,[],[]):=by unfold one at h;injection h with h;exact h.symm
theorem fj{x:Option V}{r:fW}(h:lj x=some r):∃v,x=some v/\r=(v,[],[]):=by
 unfold lj at h;split at h
 ·exact⟨_,rfl,jT h⟩
 ·cases h
theorem zO{x:V}{es:List D}{rd:List Nat}(h:oJ o x=some (es,rd)):eH o x=some es/\rd=x.ids:=by
 unfold oJ at h
 split at h
 ·simp at h;obtain⟨rfl,rfl⟩:=h;exact⟨rfl,rfl⟩
 ·simp at h;obtain⟨rfl,rfl⟩:=h;exact⟨rfl,rfl⟩
 ·simp at h;obtain⟨rfl,rfl⟩:=h;exact⟨rfl,rfl⟩
 ·split at h
  ·rename_i ho
   split at h
   ·rename_i e;simp at h;obtain⟨rfl,rfl⟩:=h;exact⟨by simp[eH,dz,ho,e],rfl⟩
   ·cases h
  ·rename_i ho
   split at h
   ·rename_i e;simp at h;obtain⟨rfl,rfl⟩:=h;exact⟨by simp[eH,dz,ho,e],rfl⟩
   ·cases h
  ·cases h
 ·cases h
theorem CC{op:BinOp}{k:IntKind}{a b:Int}{v:V}(h:xC op k a b=some v){K:V->Prop}(hK:K v):Gx op k a b K:=by
 cases op<;>simp only[xC]at h<;>simp only[Gx]
 case quo=>split at h
           ·cases h
           ·injection h with h;subst h;exact⟨by assumption,hK⟩
 case rem=>split at h
           ·cases h
           ·injection h with h;subst h;exact⟨by assumption,hK⟩
 case and=>simp only[Option.map_eq_some_iff]at h;obtain⟨r,h1,rfl⟩:=h;exact⟨r,h1,hK⟩
 case or=>simp only[Option.map_eq_some_iff]at h;obtain⟨r,h1,rfl⟩:=h;exact⟨r,h1,hK⟩
 case xor=>simp only[Option.map_eq_some_iff]at h;obtain⟨r,h1,rfl⟩:=h;exact⟨r,h1,hK⟩
 case andNot=>simp only[Option.map_eq_some_iff]at h;obtain⟨r,h1,rfl⟩:=h;exact⟨r,h1,hK⟩
 case shl=>cases h
 case shr=>cases h
 case eql=>injection h with h;subst h;exact⟨_,rfl,hK⟩
 case neq=>injection h with h;subst h;exact⟨_,rfl,hK⟩
 case lss=>injection h with h;subst h;exact⟨_,rfl,hK⟩
 case leq=>injection h with h;subst h;exact⟨_,rfl,hK⟩
 case gtr=>injection h with h;subst h;exact⟨_,rfl,hK⟩
 case geq=>injection h with h;subst h;exact⟨_,rfl,hK⟩
 all_goals (injection h with h;subst h;exact hK)
theorem CD{op:BinOp}{t:TypeId}{x y v:V}(h:vF P op t x y=some v){K:V->Prop}(hK:K v):D0 P op t x y K:=by
 unfold vF at h
 unfold D0
 split at h
 ·split at h
  ·exact⟨by assumption,CC h hK⟩
  ·cases h
 ·have hb:aR P t=true->P.underlying t=some .bool:=by
   unfold aR;intro h;split at h
   ·assumption
   ·cases h
  split at h
  ·obtain⟨h1,rfl⟩:=pI h;exact⟨hb h1,hK⟩
  ·obtain⟨h1,rfl⟩:=pI h;exact⟨hb h1,hK⟩
  ·cases h
 ·split at h
  ·injection h with h;subst h;exact hK
  ·injection h with h;subst h;exact hK
  ·cases h
 ·cases h
theorem zP{c a b v:V}(h:oI c a b=some v){K:V->Prop}(hK:K v):wQ c a b K:=by
 unfold oI at h
 unfold wQ
 split at h
 ·injection h with h;subst h;exact⟨fun _=>hK,(fun h=>by cases h)⟩
 ·injection h with h;subst h;exact⟨(fun h=>by cases h),fun _=>hK⟩
 ·cases h
theorem rR{x y:V}{q:Nat}(h:nj o x q=some y):(∃id off,x= .ptr id off/\(o id).bN=true/\y= .ptr id (off+q))\/(∃cs off,x= .pp cs off/\y= .pp cs (off+q))\/
 (∃id ep j sz off,x= .pe id ep j sz off/\(o id).aZ=some ep/\y= .pe id ep j sz (off+q)):=by
 unfold nj at h
 split at h
 ·obtain⟨h1,rfl⟩:=pI h;exact .inl ⟨_,_,rfl,h1,rfl⟩
 ·injection h with h;exact .inr (.inl ⟨_,_,rfl,h.symm⟩)
 ·split at h
  ·injection h with h;exact .inr (.inr ⟨_,_,_,_,_,rfl,by assumption,h.symm⟩)
  ·cases h
 ·cases h
theorem nF{e:TypeId}{es:List D}{i:Int}{rd:List Nat}{r:fW}(h:ur P e es i rd=some r):
 0<=i/\∃y,es[i.toNat]? =some y/\y.cells.length=P.cellsOf e/\0<P.cellsOf e/\r=(.pp y.cells 0,[],rd):=by
 unfold ur at h
 split at h
 ·rename_i h0
  split at h
  ·rename_i y hy
   obtain⟨h1,rfl⟩:=pI h
   simp only[Bool.and_eq_true,beq_iff_eq,decide_eq_true_eq]at h1
   exact⟨h0,y,hy,h1.1,h1.2,rfl⟩
  ·cases h
 ·cases h
theorem qI{t:TypeId}{x ix:V}(h:gE P o t x ix=some (v,Δ,rd))(hK:K v Δ rd):iY P o t x ix fun v rd=>K v [] rd:=by
 unfold gE at h
 unfold iY
 split at h
 ·simp only
  split at h
  ·rename_i e ht
   simp only[ht]
   split at h
   ·obtain⟨h0,y,h1,h2,h3,h4⟩:=nF h
    simp only[Prod.mk.injEq]at h4;obtain⟨rfl,rfl,rfl⟩:=h4
    exact⟨h0,y,h1,h2,h3,hK⟩
   ·obtain⟨h0,y,h1,h2,h3,h4⟩:=nF h
    simp only[Prod.mk.injEq]at h4;obtain⟨rfl,rfl,rfl⟩:=h4
    exact⟨h0,y,h1,h2,h3,hK⟩
   ·split at h
    ·rename_i ho
     split at h
     ·rename_i hc
      simp only[Option.some.injEq,Prod.mk.injEq]at h;obtain⟨rfl,rfl,rfl⟩:=h
      simp only[ho]
      exact⟨hc.1,hc.2.1,hc.2.2.1,hc.2.2.2.1,hc.2.2.2.2,hK⟩
     ·cases h
    ·rename_i ho
     split at h
     ·rename_i hc
      obtain⟨h0,y,h1,h2,h3,h4⟩:=nF h
      simp only[Prod.mk.injEq]at h4;obtain⟨rfl,rfl,rfl⟩:=h4
      simp only[ho]
      exact⟨hc,h0,y,h1,h2,h3,hK⟩
     ·cases h
    ·cases h
   ·cases h
  ·rename_i ht
   simp only[ht]
   split at h
   ·rename_i n e ha
    simp only[ha]
    split at h
    ·rename_i hc
     simp only[Option.bind_eq_some_iff]at h
     obtain⟨y,hy,h1⟩:=h
     have h1:=jT h1
     simp only[Prod.mk.injEq]at h1;obtain⟨rfl,rfl,rfl⟩:=h1
     refine⟨hc.1,hc.2.1,hc.2.2, ?_⟩
     rcases rR hy with⟨_,_,rfl,h2,rfl⟩|⟨_,_,rfl,rfl⟩|⟨_,_,_,_,_,rfl,h2,rfl⟩
     ·exact⟨h2,hK⟩
     ·exact hK
     ·exact⟨h2,hK⟩
    ·cases h
   ·cases h
 ·cases h
theorem qJ{t:TypeId}{x y:V}{f:Nat}(h:gG P o t x f=some y){K:V->Prop}(hK:K y):iZ P o t x f K:=by
 unfold gG at h
 unfold iZ
 split at h
 ·rename_i q hq
  simp only[hq]
  rcases rR h with⟨_,_,rfl,h2,rfl⟩|⟨_,_,rfl,rfl⟩|⟨_,_,_,_,_,rfl,h2,rfl⟩
  ·exact⟨h2,hK⟩
  ·exact hK
  ·exact⟨h2,hK⟩
 ·cases h
theorem CE{t:TypeId}{x:V}(h:zN P t o x=some (v,Δ,rd))(hK:K v Δ rd):D1 P t o x fun v rd=>K v [] rd:=by
 unfold zN at h
 unfold D1
 split at h
 ·rename_i e hu
  simp only[hu]
  split at h
  ·rename_i es uu hl
   simp only[Option.some.injEq,Prod.mk.injEq]at h;obtain⟨rfl,rfl,rfl⟩:=h
   unfold oJ at hl
   split at hl
   ·simp at hl;obtain⟨rfl,rfl⟩:=hl;exact hK
   ·simp at hl;obtain⟨rfl,rfl⟩:=hl;exact hK
   ·simp at hl;obtain⟨rfl,rfl⟩:=hl;exact hK
   ·split at hl
    ·rename_i ho
     split at hl
     ·rename_i hc;simp at hl;obtain⟨rfl,rfl⟩:=hl;simp only[ho];exact⟨hc,hK⟩
     ·cases hl
    ·rename_i ho
     split at hl
     ·rename_i hc;simp at hl;obtain⟨rfl,rfl⟩:=hl;simp only[ho];exact⟨hc,hK⟩
     ·cases hl
    ·cases hl
   ·cases hl
  ·cases h
 ·rename_i hu
  simp only[hu]
  split at h
  ·have h1:=jT h;simp only[Prod.mk.injEq]at h1;obtain⟨rfl,rfl,rfl⟩:=h1;exact hK
  ·cases h
 ·rename_i hu
  simp only[hu]
  have h1:=jT h;simp only[Prod.mk.injEq]at h1;obtain⟨rfl,rfl,rfl⟩:=h1;exact hK
 ·cases h
theorem zQ{t:TypeId}{x:V}(h:mf P o t x=some (v,Δ,rd))(hK:K v Δ rd):wR P o t x fun v rd=>K v [] rd:=by
 unfold mf at h
 unfold wR
 split at h
 ·split at h
  ·rename_i ho
   split at h
   ·rename_i hg
    simp only[Option.some.injEq,Prod.mk.injEq]at h;obtain⟨rfl,rfl,rfl⟩:=h
    simp only[ho];exact⟨_,hg,hK⟩
   ·cases h
  ·cases h
 ·split at h
  ·rename_i hg
   simp only[Option.some.injEq,Prod.mk.injEq]at h;obtain⟨rfl,rfl,rfl⟩:=h
   exact⟨_,hg,hK⟩
  ·cases h
 ·split at h
  ·rename_i ho
   split at h
   ·rename_i hc
    split at h
    ·rename_i e he
     split at h
     ·rename_i hg
      simp only[Option.some.injEq,Prod.mk.injEq]at h;obtain⟨rfl,rfl,rfl⟩:=h
      simp only[ho];exact⟨hc.1,hc.2,e,he,_,hg,hK⟩
     ·cases h
    ·cases h
   ·cases h
  ·cases h
 ·cases h
theorem xE{t:TypeId}{x y:V}(h:pH P o t x y=some (v,Δ,rd))(hK:K v Δ rd):rq P o t x y fun Δ rd=>K (.bT []) Δ rd:=by
 unfold pH at h
 unfold rq
 split at h
 ·split at h
  ·rename_i ho
   split at h
   ·rename_i hg
    simp only[Option.some.injEq,Prod.mk.injEq]at h;obtain⟨rfl,rfl,rfl⟩:=h
    simp only[ho];exact⟨_,hg,hK⟩
   ·cases h
  ·cases h
 ·split at h
  ·rename_i ho
   split at h
   ·rename_i hc
    split at h
    ·rename_i e z he hz
     split at h
     ·rename_i hl
      split at h
      ·rename_i e' hp
       simp only[Option.some.injEq,Prod.mk.injEq]at h;obtain⟨rfl,rfl,rfl⟩:=h
       simp only[ho]
       exact⟨hc.1,hc.2,e,he,z,hz,hl.1,hl.2.1,hl.2.2,e',hp,hK⟩
      ·cases h
     ·cases h
    ·cases h
   ·cases h
  ·cases h
 ·cases h
theorem pJ{t:TypeId}{len:Nat}{parts:List (Nat×V)}(h:fL P o fr t len parts=some (v,Δ,rd))(hK:K v Δ rd):gW P o fr t len parts K:=by
 unfold fL at h
 unfold gW
 split at h
 ·rename_i e ht
  simp only[ht]
  split at h
  ·rename_i hc
   simp only[Option.some.injEq,Prod.mk.injEq]at h;obtain⟨rfl,rfl,rfl⟩:=h
   exact .inl ⟨hc.1,by simpa using hc.2.1,hc.2.2,hK⟩
  split at h
  ·rename_i hc
   refine .inr ?_
   split at h
   ·rename_i ds hd
    split at h
    ·rename_i hw
     simp only[Option.some.injEq,Prod.mk.injEq]at h;obtain⟨rfl,rfl,rfl⟩:=h
     refine⟨hc.1,hc.2.1,hc.2.2.1,hc.2.2.2.1,hc.2.2.2.2,ds,hd,fun x hx=> ?_,hK⟩
     simpa using List.all_eq_true.1 hw x hx
    ·cases h
   ·cases h
  ·cases h
 ·cases h
theorem qK{t:TypeId}{l c:V}(h:lh P fr t l c=some (v,Δ,rd))(hK:K v Δ rd):ja P fr t l c fun v Δ=>K v Δ []:=by
 unfold lh at h
 unfold ja
 split at h
 ·rename_i e ht
  split at h
  ·split at h
   ·rename_i hc
    split at h
    ·rename_i x hx
     simp only[Option.some.injEq,Prod.mk.injEq]at h;obtain⟨rfl,rfl,rfl⟩:=h
     simp only[ht]
     exact⟨hc.1,hc.2.1,hc.2.2.1,hc.2.2.2.1,hc.2.2.2.2,x,hx,hK⟩
    ·cases h
   ·cases h
  ·cases h
 ·cases h
theorem vH{ts:Array TypeId}{x y:V}(h:oK P o fr ts x y=some (v,Δ,rd))(hK:K v Δ rd):nY P o fr ts x y K:=by
 unfold oK at h
 unfold nY
 split at h
 ·rename_i t t' zr
  simp only[zr]
  split at h
  ·rename_i XS
   refine⟨XS, ?_⟩
   split at h
   ·rename_i e new uu ht hl
    obtain⟨vm,rfl⟩:=zO hl
    simp only[ht]
    split at h
    ·rename_i hc
     refine⟨new,vm,hc.1,hc.2.1,fun z hz=>by simpa using List.all_eq_true.1 hc.2.2 z hz, ?_⟩
     split at h
     ·split at h
      ·rename_i rF
       simp only[Option.some.injEq,Prod.mk.injEq]at h;obtain⟨rfl,rfl,rfl⟩:=h
       exact⟨rF.1,rF.2,hK⟩
      ·cases h
     ·split at h
      ·rename_i zg
       refine⟨fun z hz=>by simpa using List.all_eq_true.1 zg z hz, ?_⟩
       split at h
       ·rename_i hn
        simp only[Option.some.injEq,Prod.mk.injEq]at h;obtain⟨rfl,rfl,rfl⟩:=h
        rw[if_pos hn];exact hK
       ·rename_i hn
        split at h
        ·rename_i rF
         simp only[Option.some.injEq,Prod.mk.injEq]at h;obtain⟨rfl,rfl,rfl⟩:=h
         rw[if_neg hn];exact⟨rF.1,rF.2,hK⟩
        ·cases h
      ·cases h
     ·split at h
      ·rename_i ho
       split at h
       ·rename_i rF
        simp only[Option.some.injEq,Prod.mk.injEq]at h;obtain⟨rfl,rfl,rfl⟩:=h
        simp only[ho]
        exact⟨rF.1,rF.2.1,rF.2.2.1,rF.2.2.2.1,rF.2.2.2.2,hK⟩
       ·cases h
      ·cases h
     ·cases h
    ·cases h
   ·cases h
  ·cases h
 ·cases h
theorem rS{x y:V}(h:iP o x=some y){K:V->Prop}(hK:K y):kn o x K:=by
 unfold iP at h
 unfold kn
 split at h
 ·obtain⟨h2,rfl⟩:=pI h;exact⟨h2,hK⟩
 ·injection h with h;subst h;exact hK
 ·injection h with h;subst h;exact hK
 ·cases h
theorem EE{op:UnOp}{x y:V}(h:SL op x=some y){K:V->Prop}(hK:K y):Na op x K:=by
 unfold SL at h
 unfold Na
 split at h
 ·injection h with h;subst h;simp only;rw[Int.zero_sub];exact hK
 ·injection h with h;subst h;exact hK
 ·cases h
theorem oN{m:Bool}{x y v:V}(h:oL m x y=some v){K:V->Prop}(hK:K v):mH m [x,y] K:=by
 unfold oL at h
 unfold mH
 split at h
 ·split at h
  ·injection h with h;subst h;exact⟨by assumption,hK⟩
  ·cases h
 ·cases h
theorem xF{op:Op}(h:fT P s fr op=some (v,Δ,rd))(hK:K v Δ rd):H9 P s fr op K:=by
 cases op<;>simp only[fT]at h<;>simp only[H9]<;>try (cases h;done)
 case move x=>have h:=jT h;simp only[Prod.mk.injEq]at h;obtain⟨rfl,rfl,rfl⟩:=h;exact hK
 case assign x=>have h:=jT h;simp only[Prod.mk.injEq]at h;obtain⟨rfl,rfl,rfl⟩:=h;exact hK
 case pick c a b=>
  obtain⟨x,h1,h⟩:=fj h;simp only[Prod.mk.injEq]at h;obtain⟨rfl,rfl,rfl⟩:=h
  exact zP h1 hK
 case alloc t=>
  split at h
  ·rename_i cs hz;simp only[Option.some.injEq,Prod.mk.injEq]at h;obtain⟨rfl,rfl,rfl⟩:=h;exact⟨cs,hz,hK⟩
  ·cases h
 case box t x=>
  split at h
  ·rename_i cs hz;simp only[Option.some.injEq,Prod.mk.injEq]at h;obtain⟨rfl,rfl,rfl⟩:=h;exact⟨cs,hz,hK⟩
  ·cases h
 case build t parts=>
  obtain⟨x,h1,h⟩:=fj h;simp only[Prod.mk.injEq]at h;obtain⟨rfl,rfl,rfl⟩:=h
  unfold vG at h1
  split at h1
  ·rename_i z pl hz hp
   split at h1
   ·rename_i cs hc;injection h1 with h1;subst h1;exact⟨z,pl,cs,hz,hp,hc,hK⟩
   ·cases h1
  ·cases h1
 case buildSlice t len parts=>exact pJ h hK
 case load t x=>exact zQ h hK
 case store t x y=>exact xE h hK
 case nilCheck x=>
  obtain⟨y,h1,h⟩:=fj h;simp only[Prod.mk.injEq]at h;obtain⟨rfl,rfl,rfl⟩:=h
  exact rS h1 hK
 case binOp op t x y yt=>
  unfold dt at h
  split at h
  ·rename_i z h1
   have h:=jT h;simp only[Prod.mk.injEq]at h;obtain⟨rfl,rfl,rfl⟩:=h
   exact .inl (CD h1 hK)
  ·right;simp only[h,df];exact hK
 case unOp op t x=>
  obtain⟨z,h1,h⟩:=fj h;simp only[Prod.mk.injEq]at h;obtain⟨rfl,rfl,rfl⟩:=h
  unfold xD at h1
  split at h1
  ·rename_i hx;injection h1 with h1;subst h1;exact .inr ⟨rfl,hx,hK⟩
  ·exact .inl (EE h1 hK)
 case slice t x lo hi mx=>simp only[h,df];exact hK
 case field t x f=>
  obtain⟨z,h1,h⟩:=fj h;simp only[Prod.mk.injEq]at h;obtain⟨rfl,rfl,rfl⟩:=h
  simp only[h1,df,Option.map_some];exact hK
 case typeAssert x xt t ok=>
  obtain⟨z,h1,h⟩:=fj h;simp only[Prod.mk.injEq]at h;obtain⟨rfl,rfl,rfl⟩:=h
  simp only[h1,df,Option.map_some];exact hK
 case makeMap t r=>
  cases r with
  |none=>simp only[h,df];exact hK
  |some x=>cases h
 case lookup t m k ok=>simp only[h,df];exact hK
 case mapUpdate t m k v=>simp only[h,df];exact hK
 case insert t m k v=>simp only[h,df];exact hK
 case index t x i=>
  obtain⟨z,h1,h⟩:=fj h;simp only[Prod.mk.injEq]at h;obtain⟨rfl,rfl,rfl⟩:=h
  simp only[h1,df,Option.map_some];exact hK
 case convert u t x=>
  split at h
  ·rename_i d k k' n hu hk hx
   have h:=jT h;simp only[Prod.mk.injEq]at h;obtain⟨rfl,rfl,rfl⟩:=h
   exact⟨by rw[hu];rfl,by simp only[hk,hx];exact hK⟩
  ·cases h
 case makeInterface t x=>
  obtain⟨z,h1,h⟩:=fj h;simp only[Prod.mk.injEq]at h;obtain⟨rfl,rfl,rfl⟩:=h
  obtain⟨h2,rfl⟩:=pI h1
  refine⟨?_, ?_⟩
  ·unfold az at h2
   cases hd:P.underlying t with
   |none=>simp[hd]at h2
   |some d=>exact⟨d,rfl,by cases d<;>simp_all⟩
  ·split
   ·rename_i y hy;simp only[hy]at hK;exact hK
   ·rename_i hy
    split at hK
    ·rename_i y XT;exact absurd XT (hy y)
    ·exact hK
 case makeFunc fn first cap=>have h:=jT h;simp only[Prod.mk.injEq]at h;obtain⟨rfl,rfl,rfl⟩:=h;exact hK
 case makeSlice t l c=>
  exact qK h hK
 case fieldAddr t x f=>
  obtain⟨z,h1,h⟩:=fj h;simp only[Prod.mk.injEq]at h;obtain⟨rfl,rfl,rfl⟩:=h
  exact qJ h1 hK
 case indexAddr t x i=>
  exact qI h hK
 case extract x i=>
  split at h
  ·rename_i vs hv
   split at h
   ·rename_i u hu
    have h:=jT h;simp only[Prod.mk.injEq]at h;obtain⟨rfl,rfl,rfl⟩:=h
    simp only[hv];exact⟨_,hu,hK⟩
   ·cases h
  ·cases h
 case call c=>
  obtain⟨Eo,args,ts⟩:=c
  cases Eo<;>simp only at h|- <;>try (cases h;done)
  rename_i b
  unfold oM at h
  unfold ry
  split at h
  ·rename_i x ha
   simp only[ha]
   split at h
   ·rename_i t zr;exact⟨t,zr,CE h hK⟩
   ·cases h
  ·rename_i x y ha
   simp only[ha]
   exact vH h hK
  ·rename_i x y ha
   simp only[ha]
   obtain⟨z,h1,h⟩:=fj h;simp only[Prod.mk.injEq]at h;obtain⟨rfl,rfl,rfl⟩:=h
   exact oN h1 hK
  ·rename_i x y ha
   simp only[ha]
   obtain⟨z,h1,h⟩:=fj h;simp only[Prod.mk.injEq]at h;obtain⟨rfl,rfl,rfl⟩:=h
   exact oN h1 hK
  ·rename_i x y z ha
   simp only[ha]
   obtain⟨v0,h1,h⟩:=fj h;simp only[Prod.mk.injEq]at h;obtain⟨rfl,rfl,rfl⟩:=h
   simp only[h1,df,Option.map_some];exact hK
  ·rename_i x y ha
   simp only[ha,h,df];exact hK
  ·rename_i x y ha
   simp only[ha]
   split at h
   ·rename_i t ht;exact⟨t,ht,by simp only[h,df];exact hK⟩
   ·cases h
  ·cases h
 case range t x=>simp only[h,df];exact hK
 case next x str=>left;simp only[h,df];exact hK
 case entry x=>simp only[h,df];exact hK
end
end Go.Proofs.YtealblliddhgiaaGreat
namespace Go.Proofs.YtealblliddhgiaaGreat
def uv(P:Program)(g:FuncId)(ds:List D)(o o1 oa:Nat->ae)(K:V->(Nat->ae)->Prop)(X:V->(Nat->ae)->Prop):Prop:=
 ∃out,cj P g ds out/\((match out with| .ret rs=>K (iD rs) o1| .bK x=>X (.d x) o1)\/(out.flat=true/\match out with| .ret rs=>K (iD rs) o| .bK x=>X (.d x) o)\/(out.l8=true/\match out with| .ret rs=>K (iD rs) oa| .bK x=>X (.d x) oa))
def qi(P:Program)(g:FuncId)(args:List V)(o:Nat->ae)(nx:Nat)(K:V->(Nat->ae)->Nat->Prop)(X:V->(Nat->ae)->Nat->Prop):Prop:=ma P g args o nx K X
theorem ma.mono {P:Program}{g:FuncId}{args:List V}{o:Nat->ae}{nx:Nat}{K X K' X':V->(Nat->ae)->Nat->Prop}(hK:∀v o n,K v o n->K' v o n)(hX:∀v o n,X v o n->X' v o n)(h:ma P g args o nx K X):ma P g args o nx K' X':=
 h.imp (eI.mono hK hX) (eI.mono hK hX)
@[congr] theorem Iw {P:Program} {g g':FuncId} {ds NB:List D} {o o1 oa:Nat->ae} {K X} (h:g=g') (h':ds=NB):uv P g ds o o1 oa K X=uv P g' NB o o1 oa K X:=by subst h;subst h';rfl
@[congr] theorem Ix {P:Program} {g g':FuncId} {bY NC:List V} {o:Nat->ae} {nx:Nat} {K X} (h:g=g') (h':bY=NC):qi P g bY o nx K X=qi P g' NC o nx K X:=by subst h;subst h';rfl
def Iy(P:Program)(g:FuncId)(args:List V)(o:Nat->ae)(nx:Nat)(K X:V->(Nat->ae)->Nat->Prop):Prop:=
 (∃ds,bU o args=some ds/\uv P g ds o (put o (ck o (V.a8 args))) (put o (qC o (V.a8 args))) (fun v o'=>K v o' (nx+1)) (fun v o'=>X v o' (nx+1)))\/eI P g args o nx K X
def DU(P:Program)(s:S)(o:b7)(X:V->S->Prop)(K:S->Prop):Prop:=
 match o.op with
 | .call c=>match c.callee with
   | .value f=>match s.ev f with
     | .func (.func g) first cap=>match bU s.o (first++c.args.toList.map s.ev++cap)with
       |some ds=>uv P g ds s.o (put s.o (ck s.o (V.a8 (first++c.args.toList.map s.ev++cap)))) (put s.o (qC s.o (V.a8 (first++c.args.toList.map s.ev++cap)))) (fun v o'=>K ⟨aY s.env o.dst v,o',s.nx+1⟩) (fun v o'=>X v ⟨s.env,o',s.nx+1⟩)\/
        qi P g (first++c.args.toList.map s.ev++cap) s.o s.nx (fun v o' nx'=>K ⟨aY s.env o.dst v,o',nx'⟩) (fun v o' nx'=>X v ⟨s.env,o',nx'⟩)
       |none=>qi P g (first++c.args.toList.map s.ev++cap) s.o s.nx (fun v o' nx'=>K ⟨aY s.env o.dst v,o',nx'⟩) (fun v o' nx'=>X v ⟨s.env,o',nx'⟩)
     | .ke id=>dD P id (c.args.toList.map s.ev) s.o s.nx (fun v o' nx'=>K ⟨aY s.env o.dst v,o',nx'⟩) (fun v o' nx'=>X v ⟨s.env,o',nx'⟩)
     |_=>False
   | .invoke r m=>match xo P m (s.ev r)with
     |some (g,y)=>Iy P g (y::c.args.toList.map s.ev) s.o s.nx (fun v o' nx'=>K ⟨aY s.env o.dst v,o',nx'⟩) (fun v o' nx'=>X v ⟨s.env,o',nx'⟩)
     |none=>False
   |_=>match fT P s s.nx o.op with
    |some (v,Δ,_)=>K ⟨aY s.env o.dst v,put s.o Δ,s.nx+1⟩
    |none=>False
 | .panic x=>match s.ev x with
   | .d (.iface t y)=>X (.d (.iface t y)) s
   | .iface t y=>X (.iface t y) s
   |_=>False
 | .next x str=>match nd s.o (s.ev x)with
   |some (id,l)=>str=false/\AZ id l fun v Δ _=>K ⟨aY s.env o.dst v,put s.o Δ,s.nx+1⟩
   |none=>match fT P s s.nx o.op with
    |some (v,Δ,_)=>K ⟨aY s.env o.dst v,put s.o Δ,s.nx+1⟩
    |none=>False
 |op=>match fT P s s.nx op with
  |some (v,Δ,_)=>K ⟨aY s.env o.dst v,put s.o Δ,s.nx+1⟩
  |none=>False
def nG(P:Program)(X:V->S->Prop)(K:S->Prop):List b7->S->Prop
 |[],s=>K s
 |o::l,s=>match o.gd with
  |none=>DU P s o X (nG P X K l)
  |some (d,want)=>match s.env d with
   | .d (.bool b)=>if b=want then DU P s o X (nG P X K l)else nG P X K l ⟨aY s.env o.dst (.bT []),s.o,s.nx+1⟩
   | .bT []=>nG P X K l ⟨aY s.env o.dst (.bT []),s.o,s.nx+1⟩
   |_=>False
def EF(b:Nat)(body:(e9->S->Prop)->S->Prop)(Q:e9->S->Prop)(s:S):Prop:=
 ∃ (J:Nat->S->Prop),(∃m s1,cq b s s1/\J m s1)/\∀m s0,J m s0->body (fun e s=>match e with| .normal=>∃m' s1,m'<m/\cq b s s1/\J m' s1|e=>Q e s) s0
@[congr] theorem Iz {b:Nat} {body Q} {s s':S} (h:s=s'):EF b body Q s=EF b body Q s':=by subst h;rfl
def oO(t:Bool)(A B:Prop):Prop:=(t=true->A)/\(t=false->B)
@[congr] theorem IA {t t':Bool} {A B:Prop} (h:t=t'):oO t A B=oO t' A B:=by subst h;rfl
@[simp] theorem rT (A B:Prop):oO true A B=A:=by simp[oO]
@[simp] theorem qj (A B:Prop):oO false A B=B:=by simp[oO]
section
variable {P:Program}{n b:Nat}
theorem Bc{s:S}{o:b7}{o':Oper}{X X':V->S->Prop}{K K':S->Prop}(dw:o'.op=o.op)(cJ:o'.dst=o.dst)(hd:fX n o'.dst)(hK:∀s,K s->K' s)(hX:∀v s,X v s->X' v s)(h:DU P s o X K):SB P n s o' X' K':=by
 refine⟨hd, ?_⟩
 rw[cJ,dw]
 unfold DU at h
 have hs:∀ {op:Op},(match fT P s s.nx op with|some (v,Δ,_)=>K ⟨aY s.env o.dst v,put s.o Δ,s.nx+1⟩|none=>False)->H9 P s s.nx op fun v Δ _=>K' ⟨aY s.env o.dst v,put s.o Δ,s.nx+1⟩:=by
  intro op h
  split at h
  ·rename_i v Δ rd he;exact xF he (hK _ h)
  ·exact h.elim
 split at h
 ·rename_i c hc
  split at h
  ·rename_i f dU
   simp only[hc,dU]
   split at h
   ·rename_i g first cap hf
    unfold xn
    simp only[hf]
    unfold rJ
    split at h
    ·rename_i ds eM
     rcases h with⟨out,hP,h|⟨kS,h⟩|⟨kS,h⟩⟩|h
     ·refine .inl ⟨ds,out,eM,hP, ?_⟩
      cases out<;>first|exact hK _ h|exact hX _ _ h
     ·refine .inr (.inl ⟨ds,out,eM,hP,kS, ?_⟩)
      cases out<;>first|exact hK _ h|exact hX _ _ h
     ·refine .inr (.inr (.inl ⟨ds,out,eM,hP,kS, ?_⟩))
      cases out<;>first|exact hK _ h|exact hX _ _ h
     ·exact .inr (.inr (.inr (ma.mono (fun v o n h=>hK _ h) (fun v o n h=>hX _ _ h) h)))
    ·exact .inr (.inr (.inr (ma.mono (fun v o n h=>hK _ h) (fun v o n h=>hX _ _ h) h)))
   ·rename_i id hf
    unfold xn
    simp only[hf]
    exact dD.mono (fun v o n h=>hK _ h) (fun v o n h=>hX _ _ h) h
   ·exact h.elim
  ·rename_i r m dU
   simp only[hc,dU]
   split at h
   ·rename_i g y hr
    simp only[hr]
    unfold rJ
    rcases h with⟨ds,eM,out,hP,h|⟨kS,h⟩|⟨kS,h⟩⟩|h
    ·refine .inl ⟨ds,out,eM,hP, ?_⟩
     cases out<;>first|exact hK _ h|exact hX _ _ h
    ·refine .inr (.inl ⟨ds,out,eM,hP,kS, ?_⟩)
     cases out<;>first|exact hK _ h|exact hX _ _ h
    ·refine .inr (.inr (.inl ⟨ds,out,eM,hP,kS, ?_⟩))
     cases out<;>first|exact hK _ h|exact hX _ _ h
    ·exact .inr (.inr (.inr (.inl (eI.mono (fun v o n h=>hK _ h) (fun v o n h=>hX _ _ h) h))))
   ·exact h.elim
  ·rename_i dU hinv
   rw[hc]at h|-
   obtain⟨Eo,args,ts⟩:=c
   cases Eo with
   |value f=>exact absurd rfl (dU f)
   |invoke r m=>exact absurd rfl (hinv r m)
   |_=>exact hs h
 ·rename_i x hx
  simp only[hx]
  split at h
  ·rename_i hv;simp only[hv];exact hX _ _ h
  ·rename_i hv;simp only[hv];exact hX _ _ h
  ·exact h.elim
 ·rename_i x str hx
  rw[hx]at h|-
  split at h
  ·rename_i id l hl
   exact .inr ⟨h.1,id,l,hl,fun e=>hK _ (h.2.1 e),fun i k x e=>hK _ (h.2.2 i k x e)⟩
  ·exact hs h
 ·rename_i hc hp ni
  have h2:=hs h
  cases hh:o.op<;>first
   |exact absurd hh (hc _)
   |exact absurd hh (hp _)
   |exact absurd hh (ni _ _)
   |(rw[hh]at h2;exact h2)
theorem iQ{ops:Array Oper}{X X':V->S->Prop}{K K':S->Prop}(hK:∀s,K s->K' s)(hX:∀v s,X v s->X' v s):∀ (l:List Oper) (l':List b7) (s:S),j9 n ops l=some l'->nG P X K l' s->vw P n ops X' K' l s
 |[],l',s,h,hr=>by simp[j9]at h;subst h;exact hK _ hr
 |o::l,l',s,h,hr=>by
  simp only[j9]at h
  split at h
  ·rename_i x xs hx Ic
   injection h with h;subst h
   unfold DX at hx
   split at hx
   ·rename_i hd
    have cJ:fX n o.dst:=by
     unfold zl at hd;unfold fX
     split at hd<;>simp_all
    simp only[vw,vu]
    cases hg:o.guard with
    |none=>
     simp only[hg]at hx
     injection hx with hx;subst hx
     exact Bc rfl rfl cJ (fun s hs=>iQ hK hX l xs s Ic hs) hX hr
    |some p=>
     obtain⟨j,want⟩:=p
     simp only[hg]at hx
     cases IB:p7 ops j with
     |none=>simp[IB]at hx
     |some d=>
      simp only[IB]at hx
      injection hx with hx;subst hx
      simp only
      simp only[nG]at hr
      split at hr
      ·rename_i t ht
       simp only[IB,ht]
       split at hr
       ·rename_i e
        exact⟨fun _=>Bc rfl rfl cJ (fun s hs=>iQ hK hX l xs s Ic hs) hX hr,fun h=>absurd e h⟩
       ·rename_i e
        exact⟨fun h=>absurd h e,fun _=>⟨cJ,iQ hK hX l xs _ Ic hr⟩⟩
      ·rename_i ht
       simp only[IB,ht]
       exact⟨cJ,iQ hK hX l xs _ Ic hr⟩
      ·exact hr.elim
   ·cases hx
  ·cases h
end
end Go.Proofs.YtealblliddhgiaaGreat
namespace Go.Proofs.YtealblliddhgiaaGreat
mutual
def V.refs:V->List Nat
 | .ptr id _=>[id]| .osl id _=>[id]| .pe id _ _ _ _=>[id]| .rk id _ _=>[id]| .mp id=>[id]| .ke id=>[id]
 | .agg cs=>V.ag cs
 | .bT cs=>V.ag cs
 | .func _ a b=>V.ag a++V.ag b
 | .iface _ x=>x.refs
 |_=>[]
def V.ag:List V->List Nat
 |[]=>[]
 |v::vs=>v.refs++V.ag vs
end
mutual
theorem jh:∀ (v:V),∀id∈v.ids,id∈v.refs
 | .osl id _,j,h=>by simpa[V.ids,V.refs]using h
 | .agg cs,j,h=>by simp only[V.ids]at h;simp only[V.refs];exact ji cs j h
 | .iface _ x,j,h=>by simp only[V.ids]at h;simp only[V.refs];exact jh x j h
 | .mp _,j,h=>by simpa[V.ids,V.refs]using h
 | .d _,_,h| .aX,_,h| .bT _,_,h| .ptr _ _,_,h| .pe _ _ _ _ _,_,h| .pp _ _,_,h| .func _ _ _,_,h| .aa,_,h| .nr _,_,h| .rk _ _ _,_,h| .eO,_,h| .ke _,_,h=>by simp[V.ids]at h
theorem ji:∀ (vs:List V),∀id∈V.a8 vs,id∈V.ag vs
 |[],j,h=>by simp[V.a8]at h
 |v::vs,j,h=>by
  simp only[V.a8,V.ag,List.mem_append]at h|-
  exact h.imp (jh v j) (ji vs j)
end
mutual
theorem dh{o o':Nat->ae}:∀ (v:V),(∀id∈v.refs,o' id=o id)->dz o' v=dz o v
 | .osl id ep,h=>by simp only[dz,h id (by simp[V.refs])]
 | .mp id,h=>by simp only[dz,h id (by simp[V.refs])]
 | .agg cs,h=>by simp only[dz,gH cs (by simpa[V.refs]using h)]
 | .iface t x,h=>by simp only[dz,dh x (by simpa[V.refs]using h)]
 | .d _,_| .aX,_| .bT _,_| .ptr _ _,_| .pe _ _ _ _ _,_| .pp _ _,_| .func _ _ _,_| .aa,_| .nr _,_| .rk _ _ _,_| .eO,_| .ke _,_=>by simp only[dz]
theorem gH{o o':Nat->ae}:∀ (vs:List V),(∀id∈V.ag vs,o' id=o id)->bU o' vs=bU o vs
 |[],_=>rfl
 |v::vs,h=>by
  simp only[bU,dh v (fun id aj=>h id (by simp[V.ag,aj])),gH vs (fun id aj=>h id (by simp[V.ag,aj]))]
end
theorem fM{o o':Nat->ae}{ids:List Nat}(h:∀id∈ids,o' id=o id):ck o' ids=ck o ids:=by
 rw[kQ,kQ]
 exact List.map_congr_left fun id aj=>by rw[h id aj]
def iR(s:S)(op:Op):List Nat:=
 match op with
 | .load _ x=>(s.ev x).refs
 | .nilCheck x=>(s.ev x).refs
 | .fieldAddr _ x _=>(s.ev x).refs
 | .indexAddr _ x _=>(s.ev x).refs
 | .store _ x v=>(s.ev x).refs++(s.ev v).refs
 | .buildSlice _ _ parts=>V.ag (parts.toList.map fun p=>s.ev p.2)
 | .binOp _ _ x y _=>(s.ev x).refs++(s.ev y).refs
 | .slice _ x _ _ _=>(s.ev x).refs
 | .lookup _ m k _=>(s.ev m).refs++(s.ev k).refs
 | .mapUpdate _ m k v=>(s.ev m).refs++((s.ev k).refs++(s.ev v).refs)
 | .insert _ m k v=>(s.ev m).refs++((s.ev k).refs++(s.ev v).refs)
 | .range _ x=>(s.ev x).refs
 | .next x _=>(s.ev x).refs
 | .entry x=>(s.ev x).refs
 | .call c=>match c.callee with
   | .builtin _=>V.ag (c.args.toList.map s.ev)
   | .value f=>match s.ev f with
     | .func _ first cap=>V.ag (first++c.args.toList.map s.ev++cap)
     |_=>[]
   |_=>[]
 |_=>[]
section
variable {P:Program}{s s':S}{fr:Nat}
theorem qk{o o':Nat->ae}(v:V)(h:∀id∈v.refs,o' id=o id):oJ o' v=oJ o v:=by
 cases v with
 |osl id ep=>simp only[oJ,h id (by simp[V.refs])]
 |d x=>cases x<;>rfl
 |_=>rfl
theorem ql{o o':Nat->ae}(v:V)(q:Nat)(h:∀id∈v.refs,o' id=o id):nj o' v q=nj o v q:=by
 cases v<;>simp only[nj]<;>rw[h _ (by simp[V.refs])]
theorem zR{o o':Nat->ae}(v:V)(h:∀id∈v.refs,o' id=o id):wT o' v=wT o v:=by
 have h1:eH o' v=eH o v:=by unfold eH;rw[dh v h]
 cases v<;>first|rfl|simp only[wT,h1]
theorem vI{o o':Nat->ae}(v:V)(h:∀id∈v.refs,o' id=o id):px o' v=px o v:=by
 cases v with
 |mp id=>simp only[px,h id (by simp[V.refs])]
 |d x=>cases x<;>rfl
 |_=>rfl
theorem vJ{o o':Nat->ae}(v:V)(h:∀id∈v.refs,o' id=o id):py o' v=py o v:=by
 cases v with
 |ptr id off=>simp only[py,h id (by simp[V.refs])]
 |d x=>cases x<;>rfl
 |_=>rfl
theorem mg{o o':Nat->ae}(v:V)(h:∀id∈v.refs,o' id=o id):na o' v=na o v:=by
 cases v with
 |mp id=>simp only[na,h id (by simp[V.refs])]
 |d x=>cases x<;>rfl
 |_=>rfl
theorem xG{o o':Nat->ae}(v:V)(h:∀id∈v.refs,o' id=o id):n6 o' v=n6 o v:=by
 cases v with
 |mp id=>simp only[n6,h id (by simp[V.refs])]
 |d x=>cases x<;>rfl
 |_=>rfl
theorem xH{o o':Nat->ae}(v:V)(str:Bool)(h:∀id∈v.refs,o' id=o id):nb o' v str=nb o v str:=by
 cases v with
 |ptr id off=>cases off<;>simp only[nb,h id (by simp[V.refs])]
 |_=>rfl
theorem vK{o o':Nat->ae}(v:V)(h:∀id∈v.refs,o' id=o id):lU o' v=lU o v:=by
 cases v with
 |ptr id off=>cases off<;>simp only[lU,h id (by simp[V.refs])]
 |_=>rfl
theorem vL{o o':Nat->ae}{fr:Nat}{t:TypeId}{P:Program}(v:V)(h:∀id∈v.refs,o' id=o id):lT P o' fr t v=lT P o fr t v:=by
 unfold lT
 cases v with
 |mp id=>simp only[h id (by simp[V.refs])]
 |d x=>cases x<;>rfl
 |_=>rfl
theorem vM{o o':Nat->ae}(v:V)(h:∀id∈v.refs,o' id=o id):ns o' v=ns o v:=by
 cases v with
 |ptr id off=>simp only[ns,h id (by simp[V.refs])]
 |_=>rfl
theorem vN{o o':Nat->ae}(v:V)(h:∀id∈v.refs,o' id=o id):nu o' v=nu o v:=by
 cases v with
 |rk id off n=>simp only[nu,h id (by simp[V.refs])]
 |_=>rfl
theorem zS(op:Op)(hv:∀x∈op.operands,s'.ev x=s.ev x)(ho:∀id∈iR s op,s'.o id=s.o id):fT P s' fr op=fT P s fr op:=by
 cases op<;>simp only[fT]
 case move x=>rw[hv x (by simp[Op.operands])]
 case assign x=>rw[hv x (by simp[Op.operands])]
 case pick c a b=>rw[hv c (by simp[Op.operands]),hv a (by simp[Op.operands]),hv b (by simp[Op.operands])]
 case box t x=>rw[hv x (by simp[Op.operands])]
 case build t parts=>
  have:(parts.toList.map fun p=>(p.1,s'.ev p.2))=parts.toList.map fun p=>(p.1,s.ev p.2):=
   List.map_congr_left fun p hp=>by rw[hv p.2 (by simp only[Op.operands];simp;exact⟨p.1,by simpa using hp⟩)]
  rw[this]
 case buildSlice t len parts=>
  have:(parts.toList.map fun p=>(p.1,s'.ev p.2))=parts.toList.map fun p=>(p.1,s.ev p.2):=
   List.map_congr_left fun p hp=>by rw[hv p.2 (by simp only[Op.operands];simp;exact⟨p.1,by simpa using hp⟩)]
  rw[this]
  have e:(parts.toList.map fun p=>(p.1,s.ev p.2)).map (·.2)=parts.toList.map fun p=>s.ev p.2:=by simp[Function.comp_def]
  have h1:bU s'.o ((parts.toList.map fun p=>(p.1,s.ev p.2)).map (·.2))=bU s.o ((parts.toList.map fun p=>(p.1,s.ev p.2)).map (·.2)):=gH _ (by rw[e];exact ho)
  have h2:ck s'.o (V.a8 ((parts.toList.map fun p=>(p.1,s.ev p.2)).map (·.2)))=ck s.o (V.a8 ((parts.toList.map fun p=>(p.1,s.ev p.2)).map (·.2))):=
   fM fun id aj=>ho id (by rw[e]at aj;exact ji _ id aj)
  simp only[fL,h1,h2]
 case load t x=>
  rw[hv x (by simp[Op.operands])]
  cases hx:s.ev x<;>simp only[mf]<;>rw[ho _ (by simp[iR,hx,V.refs])]
 case store t x y=>
  rw[hv x (by simp[Op.operands]),hv y (by simp[Op.operands])]
  have h1:dz s'.o (s.ev y)=dz s.o (s.ev y):=dh _ fun id aj=>ho id (by simp[iR,aj])
  have h2:ck s'.o (s.ev y).ids=ck s.o (s.ev y).ids:=fM fun id aj=>ho id (by simp[iR,jh _ _ aj])
  cases hx:s.ev x<;>simp only[pH]<;>rw[ho _ (by simp[iR,hx,V.refs])]
  simp only[h1,h2]
 case nilCheck x=>
  rw[hv x (by simp[Op.operands])]
  cases hx:s.ev x with
  |ptr id off=>simp only[iP];rw[ho _ (by simp[iR,hx,V.refs])]
  |func fn a b=>cases fn<;>rfl
  |_=>rfl
 case binOp op t x y yt=>
  rw[hv x (by simp[Op.operands]),hv y (by simp[Op.operands])]
  have h1:wT s'.o (s.ev x)=wT s.o (s.ev x):=zR _ fun id aj=>ho id (by simp[iR,aj])
  have h2:∀a b,B7 P s'.o a b (s.ev x) (s.ev y)=B7 P s.o a b (s.ev x) (s.ev y):=fun a b=>by
   have h3:∀id∈(s.ev x).refs,s'.o id=s.o id:=fun id aj=>ho id (by simp[iR,aj])
   have h4:=vI (s.ev x) h3
   have h5:=vJ (s.ev x) h3
   unfold B7
   rw[h1,h4,h5]
  unfold dt pz
  simp only[h2]
 case slice t x lo hi mx=>
  rw[hv x (by simp[Op.operands])]
  have e1:lo.map s'.ev=lo.map s.ev:=by cases lo<;>simp[hv,Op.operands]
  have e2:hi.map s'.ev=hi.map s.ev:=by cases hi<;>simp[hv,Op.operands]
  have e3:mx.map s'.ev=mx.map s.ev:=by cases mx<;>simp[hv,Op.operands]
  rw[e1,e2,e3]
  have h3:∀id∈(s.ev x).refs,s'.o id=s.o id:=fun id aj=>ho id (by simp[iR,aj])
  have h1:eH s'.o (s.ev x)=eH s.o (s.ev x):=by unfold eH;rw[dh _ h3]
  have h2:ck s'.o (s.ev x).ids=ck s.o (s.ev x).ids:=fM fun id aj=>h3 id (jh _ _ aj)
  unfold pw
  simp only[h1,h2,vM _ h3]
 case field t x f=>rw[hv x (by simp[Op.operands])]
 case typeAssert x xt t ok=>rw[hv x (by simp[Op.operands])]
 case makeMap t r=>cases r<;>rfl
 case lookup t m k ok=>
  rw[hv m (by simp[Op.operands]),hv k (by simp[Op.operands])]
  have h3:∀id∈(s.ev m).refs,s'.o id=s.o id:=fun id aj=>ho id (by simp[iR,aj])
  have h1:dz s'.o (s.ev k)=dz s.o (s.ev k):=dh _ fun id aj=>ho id (by simp[iR,aj])
  unfold gV
  simp only[h1,xG _ h3]
 case mapUpdate t m k v=>
  rw[hv m (by simp[Op.operands]),hv k (by simp[Op.operands]),hv v (by simp[Op.operands])]
  have h3:∀id∈(s.ev m).refs,s'.o id=s.o id:=fun id aj=>ho id (by simp[iR,aj])
  have h1:dz s'.o (s.ev k)=dz s.o (s.ev k):=dh _ fun id aj=>ho id (by simp[iR,aj])
  have h2:dz s'.o (s.ev v)=dz s.o (s.ev v):=dh _ fun id aj=>ho id (by simp[iR,aj])
  have h4:ck s'.o (s.ev v).ids=ck s.o (s.ev v).ids:=fM fun id aj=>ho id (by simp[iR,jh _ _ aj])
  unfold fi
  simp only[h1,h2,h4,mg _ h3]
 case insert t m k v=>
  rw[hv m (by simp[Op.operands]),hv k (by simp[Op.operands]),hv v (by simp[Op.operands])]
  have h3:∀id∈(s.ev m).refs,s'.o id=s.o id:=fun id aj=>ho id (by simp[iR,aj])
  have h1:dz s'.o (s.ev k)=dz s.o (s.ev k):=dh _ fun id aj=>ho id (by simp[iR,aj])
  have h2:dz s'.o (s.ev v)=dz s.o (s.ev v):=dh _ fun id aj=>ho id (by simp[iR,aj])
  have h4:ck s'.o (s.ev v).ids=ck s.o (s.ev v).ids:=fM fun id aj=>ho id (by simp[iR,jh _ _ aj])
  unfold fi
  simp only[h1,h2,h4,mg _ h3]
 case index t x i=>rw[hv x (by simp[Op.operands]),hv i (by simp[Op.operands])]
 case range t x=>
  rw[hv x (by simp[Op.operands])]
  exact vL _ fun id aj=>ho id (by simp[iR,aj])
 case next x str=>
  rw[hv x (by simp[Op.operands])]
  exact xH _ _ fun id aj=>ho id (by simp[iR,aj])
 case entry x=>
  rw[hv x (by simp[Op.operands])]
  exact vK _ fun id aj=>ho id (by simp[iR,aj])
 case unOp op t x=>rw[hv x (by simp[Op.operands])]
 case convert u t x=>rw[hv x (by simp[Op.operands])]
 case makeInterface t x=>rw[hv x (by simp[Op.operands])]
 case makeFunc fn first cap=>
  have h1:first.toList.map s'.ev=first.toList.map s.ev:=List.map_congr_left fun x hx=>hv x (by simp only[Op.operands];exact Array.mem_append.2 (.inl (Array.mem_toList_iff.1 hx)))
  have h2:cap.toList.map s'.ev=cap.toList.map s.ev:=List.map_congr_left fun x hx=>hv x (by simp only[Op.operands];exact Array.mem_append.2 (.inr (Array.mem_toList_iff.1 hx)))
  rw[h1,h2]
 case makeSlice t l c=>rw[hv l (by simp[Op.operands]),hv c (by simp[Op.operands])]
 case fieldAddr t x f=>
  rw[hv x (by simp[Op.operands])]
  simp only[gG]
  cases cu P t f<;>simp only
  rw[ql _ _ (by simpa[iR]using ho)]
 case indexAddr t x i=>
  rw[hv x (by simp[Op.operands]),hv i (by simp[Op.operands])]
  have h1:∀q,nj s'.o (s.ev x) q=nj s.o (s.ev x) q:=fun q=>ql _ _ (by simpa[iR]using ho)
  simp only[gE,h1]
  cases hx:s.ev x with
  |osl id ep=>simp only[ho id (by simp[iR,hx,V.refs])]
  |d y=>cases y<;>rfl
  |_=>rfl
 case extract x i=>rw[hv x (by simp[Op.operands])]
 case call c=>
  obtain⟨Eo,args,ts⟩:=c
  cases Eo<;>simp only
  rename_i b
  unfold oM
  have hm:∀x∈args.toList,s'.ev x=s.ev x:=fun x hx=>hv x (by simp only[Op.operands,Call.operands];exact Array.mem_append.2 (.inr (Array.mem_toList_iff.1 hx)))
  have hr:∀x∈args.toList,∀id∈(s.ev x).refs,s'.o id=s.o id:=by
   intro x hx id aj
   refine ho id ?_
   simp only[iR]
   generalize args.toList=l at hx
   induction l with
   |nil=>cases hx
   |cons y l ih=>
    simp only[List.map_cons,V.ag,List.mem_append]
    rcases List.mem_cons.1 hx with rfl|hx
    ·exact .inl aj
    ·exact .inr (ih hx)
  split
  ·rename_i x ha
   rw[ha]at hm hr
   rw[hm x (by simp)]
   have h1:∀t,zN P t s'.o (s.ev x)=zN P t s.o (s.ev x):=fun t=>by simp only[zN,qk _ (hr x (by simp))]
   simp only[h1]
  ·rename_i x y ha
   rw[ha]at hm hr
   rw[hm x (by simp),hm y (by simp)]
   simp only[oK,qk _ (hr y (by simp))]
   cases hx:s.ev x with
   |osl id ep=>simp only[hr x (by simp) id (by simp[hx,V.refs])]
   |_=>rfl
  ·rename_i x y ha
   rw[ha]at hm
   rw[hm x (by simp),hm y (by simp)]
  ·rename_i x y ha
   rw[ha]at hm
   rw[hm x (by simp),hm y (by simp)]
  ·rename_i x y z h;rw[hm x (by rw[h];simp),hm y (by rw[h];simp),hm z (by rw[h];simp)]
  ·rename_i x y ha
   rw[ha]at hm hr
   rw[hm x (by simp),hm y (by simp)]
   have h1:eH s'.o (s.ev y)=eH s.o (s.ev y):=by unfold eH;rw[dh _ (hr y (by simp))]
   have h2:ck s'.o (s.ev y).ids=ck s.o (s.ev y).ids:=fM fun id aj=>hr y (by simp) id (jh _ _ aj)
   unfold tS
   simp only[h1,h2,vN _ (hr x (by simp))]
  ·rename_i x y ha
   rw[ha]at hm hr
   rw[hm x (by simp),hm y (by simp)]
   have h1:dz s'.o (s.ev y)=dz s.o (s.ev y):=dh _ (hr y (by simp))
   have h2:=mg _ (hr x (by simp))
   simp only[mJ,h1,h2]
  ·rfl
end
end Go.Proofs.YtealblliddhgiaaGreat
