/-
  A PART OF THE PROOF. Conditions: none.
-/
import Derived.Test.YtbmnikpknlkbkaaGreatEk5
set_option linter.unusedSimpArgs false
set_option linter.unusedVariables false
namespace Go
def Code.kB (P:Program)(ro:Option Nat)(c:Code)(Q:Exit->Act->World->Prop)(a:Act)(w:World):Prop:=
 ∀ (b:Frame) (k:List Item) (cs:List Frame),b.roundOf=ro->b.fn<P.funcs.size->
   ∃e a' w',Q e a' w'/\ArrivesIn (Machine.fenced P (Proofs.YtbmnikpknlkbkaaGreat.bT ro)) P (lone (b.atR a (.code c::k)) cs w) b k cs e a' w'
end Go
namespace Go.Proofs.YtbmnikpknlkbkaaGreat
instance:LawfulMonad Sem:=LawfulMonad.mk' Sem (id_map:=fun x=>Sem.bind_pure' x) (pure_bind:=fun _ _=>rfl) (bind_assoc:=fun x f g=>Sem.bind_assoc' x f g)
section
variable {P:Program}{M:Nat->Prop}{φ:Place}{H:Hp}{w w':World}{a6:Place}{H0:Hp}{w0:World}{n b:Nat}{s:S}{a:Act}{cx:Cx}{ro:Option Nat}{k:Nat}
theorem jg(hs:aP M a6 H0 w0 n cx φ s a w){ops:Array Oper}{o:Oper}{A B:Prop}(h:nG s ops o.guard A B):
 (Region.wanted o (yielded ops a.tmps)=true->A)/\(Region.wanted o (yielded ops a.tmps)=false->B):=by
 unfold nG at h
 unfold Region.wanted
 split at h
 ·rename_i hg;simp only[hg];exact⟨fun _=>h,fun h=>by cases h⟩
 ·rename_i j want hg
  simp only[hg]
  unfold jS at h
  unfold yielded
  split at h
  ·rename_i d hd
   simp only[hd,Option.bind_some]
   have bH:=hs.env d
   split at h
   ·rename_i c hv
    rw[hv]at bH
    simp only[V.den,D.den]at bH
    have:a.tmps[d]? =some (.bool c):=by
     rw[Array.getD_eq_getD_getElem?]at bH
     cases hx:a.tmps[d]? with
     |none=>rw[hx]at bH;simp[undef]at bH
     |some x=>rw[hx]at bH;simp at bH;rw[bH]
    simp only[this]
    by_cases hc:c=want
    ·subst hc;exact⟨fun _=>h.1 rfl,fun h=>by simp at h⟩
    ·exact⟨fun h'=>absurd (by simpa using h') hc,fun _=>h.2 hc⟩
   ·rename_i hv
    rw[hv]at bH
    obtain⟨arr,aZ,hn⟩:=bH
    simp only[V.aj]at hn
    have:∀c,a.tmps[d]? ≠some (.bool c):=by
     intro c hx
     rw[Array.getD_eq_getD_getElem?,hx]at aZ
     simp at aZ
    cases hx:a.tmps[d]? with
    |none=>exact⟨fun h=>by simp at h,fun _=>h⟩
    |some x=>cases x<;>first|(exact absurd hx (this _))|(exact⟨fun h=>by simp at h,fun _=>h⟩)
   ·exact h.elim
  ·rename_i hd
   simp only[hd,Option.bind_none]
   exact⟨fun h=>by simp at h,fun _=>h⟩
theorem pb(hs:aP M a6 H0 w0 n cx φ s a w){dst:Option Tmp}(a9:dq n dst):aP M a6 H0 w0 n cx φ ⟨ay s.env dst (.a8 []),s.o,s.nx+1⟩ (a.put dst undef) w:=
 fD (v:= .a8 []) (val:=undef) hs hs.heap (Trans.refl _ _ _) ⟨#[],rfl,rfl⟩ a9 rfl fun _ hu=>Nat.lt_succ_of_lt hu
theorem ik{ops:Array Oper}{X:V->S->Prop}{K:S->Prop}{Q:Exit->Act->World->Prop}
 (hK:∀s φ a w,K s->aP M a6 H0 w0 n cx φ s a w->Q .normal a w)
 (hQ:∀v s' ai a w' val,X v s'->aP M a6 H0 w0 n cx ai s' a w'->V.den (ad M ai s'.H) ai s'.H w' v val->Q (.panic [{v:=val,recovered:=false}]) a w'):
 ∀ (l:List Oper) (s:S) (φ:Place) (a:Act) (w:World),nH P n ops X K l s->aP M a6 H0 w0 n cx φ s a w->wpListIn (bT ro) k P ops Q l a w
 |[],s,φ,a,w,h,hs=>hK s φ a w h hs
 |o::l,s,φ,a,w,h,hs=>by
  obtain⟨h1,h2⟩:=jg hs h
  unfold wpListIn
  split
  ·rename_i hw
   exact mV hs (h1 hw) (fun s' ai a' w' hk eQ=>ik hK hQ l s' ai a' w' hk eQ) (fun v s' ai w' val hx eQ hd=>hQ v s' ai a w' val hx eQ hd)
  ·rename_i hw
   obtain⟨a9,h3⟩:=h2 (by simpa using hw)
   exact⟨fun _ _=>trivial,ik hK hQ l _ _ _ _ h3 (pb hs a9)⟩
def rj(M:Nat->Prop)(a6:Place)(H0:Hp)(w0:World)(n:Nat)(cx:Cx)(Q:et->S->Prop)(e:Exit)(a:Act)(w:World):Prop:=
 ∃x s φ,Q x s/\aP M a6 H0 w0 n cx φ s a w/\match e,x with
  | .normal, .normal=>True
  | .exit i, .exit j=>i=j
  | .ret, .ret=>True
  | .panic ch, .aH v=>∃val,ch=[{v:=val,recovered:=false}]/\V.den (ad M φ s.H) φ s.H w v val
  |_,_=>False
section
variable {Q:Exit->Act->World->Prop}
theorem dt{m:Nat}:(bT ro).room m:=fun d hd=>by simp[bT]at hd
theorem il{c:Code}(h:c.wpIn (bT ro) k P Q a w):c.kB P ro Q a w:=fun b k cs lD _=>h b k cs lD trivial dt
theorem du{c:Code}{Q':Exit->Act->World->Prop}(h:c.kB P ro Q a w)(hq:∀e a w,Q e a w->Q' e a w):c.kB P ro Q' a w:=
 fun b k cs lD hb=>let⟨e,a',w',q,r⟩:=h b k cs lD hb;⟨e,a',w',hq _ _ _ q,r⟩
theorem rk(h:Q .ret a w):Code.ret.kB P ro Q a w:=il (k:=0) (wpIn_ret h)
theorem pc{id:Nat}(h:Q (.exit id) a w):(Code.exit id).kB P ro Q a w:=il (k:=0) (wpIn_exit h)
theorem nM{x y:Code}(h:x.kB P ro (Exit.then (y.kB P ro Q) Q) a w):(Code.seq x y).kB P ro Q a w:=by
 intro b k cs lD hb
 have h0:(lone (b.atR a (.code (.seq x y)::k)) cs w).fenced P (bT ro):=fenced_calm (n:=0) trivial dt rfl
 obtain⟨e,dW,cW,hq,aZ⟩:=h b (.code y::k) cs lD hb
 cases e with
 |normal=>
  obtain⟨yn,Bp,jK,jh,eL⟩:=hq b k cs lD hb
  exact⟨yn,Bp,jK,jh, .of_steps (.head h0 stepR_seq aZ) eL⟩
 |exit id=>exact⟨_,dW,cW,hq, .of_steps (.one h0 stepR_seq) (.pass (x:= .code y) rfl (fun _ _=> .inl (by simp)) aZ)⟩
 |goto l=>exact⟨_,dW,cW,hq, .of_steps (.one h0 stepR_seq) (.pass (x:= .code y) rfl (fun _ _=> .inl (by simp)) aZ)⟩
 |ret=>exact⟨_,dW,cW,hq, .of_steps (.one h0 stepR_seq) (.pass (x:= .code y) rfl (fun _ _=> .inl (by simp)) aZ)⟩
 |panic ch=>exact⟨_,dW,cW,hq, .of_steps (.one h0 stepR_seq) (.pass (x:= .code y) rfl (fun _ _=> .inl (by simp)) aZ)⟩
 |outgrown=>exact⟨_,dW,cW,hq, .of_steps (.one h0 stepR_seq) (.pass (x:= .code y) rfl (fun _ _=> .inl (by simp)) aZ)⟩
theorem ji{c:Operand}{x y:Code}{t:Bool}(hc:a.eval c= .bool t)(h:(if t then x else y).kB P ro Q a w):(Code.cond c x y).kB P ro Q a w:=
 fun b k cs lD hb=>let⟨e,a',w',q,r⟩:=h b k cs lD hb;⟨e,a',w',q, .of_steps (.one (fenced_calm (n:=0) trivial dt rfl) (stepR_cond hc)) r⟩
theorem sv{id:Nat}{c:Code}(h:c.kB P ro (Exit.inBlock id Q) a w):(Code.block id c).kB P ro Q a w:=by
 intro b k cs lD hb
 have h0:(lone (b.atR a (.code (.block id c)::k)) cs w).fenced P (bT ro):=fenced_calm (n:=0) trivial dt rfl
 obtain⟨e,dW,cW,hq,aZ⟩:=h b (.inBlock id::k) cs lD hb
 cases e with
 |normal=>exact⟨.normal,dW,cW,hq, .head h0 stepR_block (StepsIn.trans aZ (.one (fenced_calm (n:=0) trivial dt rfl) stepR_inBlock))⟩
 |exit bt=>
  by_cases ah:bt=id
  ·simp only[Exit.inBlock,ah,if_true]at hq
   exact⟨.normal,dW,cW,hq, .head h0 stepR_block (aZ.1 k (by simp[exitTo,ah]))⟩
  ·simp only[Exit.inBlock,ah,if_false]at hq
   have this:(id==bt)=false:=by simp;exact fun h=>ah h.symm
   have hx:exitTo bt (.inBlock id::k)=exitTo bt k:=by simp[exitTo,this]
   exact⟨.exit bt,dW,cW,hq,fun k' hk=> .head h0 stepR_block (aZ.1 k' (by rw[hx];exact hk)),
    fun tC hk=>let⟨k₁,h1,h2⟩:=aZ.2 tC (by rw[hx];exact hk);⟨k₁,h1, .head h0 stepR_block h2⟩⟩
 |goto l=>
  have hx:gotoIn l (.inBlock id::k)=gotoIn l k:=by simp[gotoIn]
  exact⟨_,dW,cW,hq,fun k' hk=> .head h0 stepR_block (aZ.1 k' (by rw[hx];exact hk)),
   fun tC hk=>let⟨k₁,h1,h2⟩:=aZ.2 tC (by rw[hx];exact hk);⟨k₁,h1, .head h0 stepR_block h2⟩⟩
 |ret=>exact⟨_,dW,cW,hq, .of_steps (.one h0 stepR_block) aZ⟩
 |panic ch=>exact⟨_,dW,cW,hq, .of_steps (.one h0 stepR_block) aZ⟩
 |outgrown=>exact⟨_,dW,cW,hq, .of_steps (.one h0 stepR_block) aZ⟩
theorem db{b:Frame}{k:List Item}{cs:List Frame}{c:Code}:step P (lone (b.atR a (.code (.scope c)::k)) cs w)= .next (lone (b.atR a (.code c:: .inScope c::k)) cs w):=
 step_lone_go (by simp[stepG,stepG.exec,Frame.atR])
theorem mu{b:Frame}{k:List Item}{cs:List Frame}{c:Code}:step P (lone (b.atR a (.inScope c::k)) cs w)= .next (lone (b.atR a k) cs w):=
 step_lone_go (by simp[stepG,stepG.exec,Frame.atR])
theorem mW{c:Code}(h:c.kB P ro Q a w)(hg:∀l a w, ¬Q (.goto l) a w):(Code.scope c).kB P ro Q a w:=by
 intro b k cs lD hb
 have h0:(lone (b.atR a (.code (.scope c)::k)) cs w).fenced P (bT ro):=fenced_calm (n:=0) trivial dt rfl
 obtain⟨e,dW,cW,hq,aZ⟩:=h b (.inScope c::k) cs lD hb
 cases e with
 |normal=>exact⟨.normal,dW,cW,hq, .head h0 db (StepsIn.trans aZ (.one (fenced_calm (n:=0) trivial dt rfl) mu))⟩
 |exit bt=>
  have hx:exitTo bt (.inScope c::k)=exitTo bt k:=by simp[exitTo]
  exact⟨.exit bt,dW,cW,hq,fun k' hk=> .head h0 db (aZ.1 k' (by rw[hx];exact hk)),
   fun tC hk=>let⟨k₁,h1,h2⟩:=aZ.2 tC (by rw[hx];exact hk);⟨k₁,h1, .head h0 db h2⟩⟩
 |goto l=>exact(hg _ _ _ hq).elim
 |ret=>exact⟨_,dW,cW,hq, .of_steps (.one h0 db) aZ⟩
 |panic ch=>exact⟨_,dW,cW,hq, .of_steps (.one h0 db) aZ⟩
 |outgrown=>exact⟨_,dW,cW,hq, .of_steps (.one h0 db) aZ⟩
def lE(P:Program)(l:Nat)(Q:Exit->Act->World->Prop)(a':Act):Ending->World->Prop
 | .returned _,qp=>∃jump kC,(Instr.endLoop l).run P qp= .ok jump kC/\(match jump with|none=>Q .normal a' kC|some c=>c.kB P none Q a' kC)
 | .panicked chain,qp=>Q (.panic chain) a' qp
 | .outgrown,_=>LetsOut Q
theorem mw{g:Operand}{ps:Array Tmp}{assign body:Code}
 (h:∀fn,fn<P.funcs.size->∃ (l:Nat) (mark:List Deferred) (cW:World) (d:Deferred) (mX:World) (f:FuncId) (args:Array Value) (jK:World),
  (Instr.enterLoop fn a.tmps ps assign body (bT none).round).run P w= .ok (l,mark) cW/\(resolve a.eval (rangeCall g l) 0).run P cW= .ok d mX/\
  (invoke d.target d.args).run P mX= .ok (.enter f args) jK/\CallsIn (bT none) 0 P f args jK (lE P l Q {a with defers:=mark++a.defers})):
 (Code.rangeFunc g ps assign body).kB P none Q a w:=by
 intro b k cs lD hb
 obtain⟨l,mark,cW,d,mX,f,args,jK,he,o7,hinv,hF,cB⟩:=h b.fn hb
 rw[show(bT none).round=b.roundOf from lD.symm]at he
 have calm:∀ (m:Machine),m.fenced P (bT none)↔m.fenced P Fence.wide:=fun m=>Iff.rfl
 have h0:(lone (b.atR a (.code (.rangeFunc g ps assign body)::k)) cs w).fenced P (bT none):=(calm _).2 (fenced_wide P _)
 have fF:=stepR_rangeFunc (P:=P) (b:=b) (a:=a) (k:=k) (cs:=cs) (w:=w) he o7 hinv
 obtain⟨e,qp,fr,hR,qq,su,tS⟩:=cB (b.atR {a with defers:=mark++a.defers} (.inRangeFunc l::k)::cs) dt
 cases e with
 |outgrown=>
  obtain⟨EI,EJ,hq⟩:=hR
  exact⟨.outgrown,EI,EJ,hq, .inr (Outgrown.of_steps (.one fF) qq)⟩
 |returned v=>
  obtain⟨jump,kC,lF,hj⟩:=hR
  have xl:StepsIn (Machine.fenced P (bT none)) P (lone (b.atR a (.code (.rangeFunc g ps assign body)::k)) cs w) (lone (b.atR {a with defers:=mark++a.defers} ((jump.map Item.code).toList++k)) cs kC):=by
   refine .head h0 fF (StepsIn.trans qq (.head ((calm _).2 (fenced_wide P _)) ?_ (.one ((calm _).2 (fenced_wide P _)) (stepR_endRangeFunc lF))))
   rw[<- finish_atR_inRangeFunc l v];exact step_leave_returned tS
  cases jump with
  |none=>exact⟨.normal,_,kC,hj,xl⟩
  |some c=>
   obtain⟨e',Kh,EK,hq,aZ⟩:=hj b k cs lD hb
   exact⟨e',Kh,EK,hq, .of_steps xl aZ⟩
 |panicked chain=>
  refine⟨.panic chain,_,qp,hR, .inRangeFunc l::k, .head h0 fF (StepsIn.trans qq (.one ((calm _).2 (fenced_wide P _)) ?_))⟩
  rw[<- Frame.raise_atR];exact step_leave_panicked tS
end
theorem mY(hH:af M φ H w){id l:Nat}(b5:H.us id){nf m:Nat}{env:List V}{ps:List Nat}{iB fL:IC}{st st':LoopState}{pd pd':Option kn}(ho:H.o id= .loop nf m env ps iB fL st pd)(bG:φ id= .pointer (some ⟨l,0,none⟩)):
 ∃r,w.heap[l]? =some (.loop r)/\r.state=st/\r.pending=pd.map kn.code/\
  af M φ (H.put [(id, .loop nf m env ps iB fL st' pd')]) {w with heap:=w.heap.setIfInBounds l (.loop {r with state:=st',pending:=pd'.map kn.code})}/\
  Trans φ H w φ (H.put [(id, .loop nf m env ps iB fL st' pd')]) {w with heap:=w.heap.setIfInBounds l (.loop {r with state:=st',pending:=pd'.map kn.code})}:=by
 have aG:=hH.ok id
 simp only[au,ho]at aG
 obtain⟨b,r,h1,h2,h0,h3,h4,h5,h6,h7,h8,h9⟩:=aG
 rw[bG]at h1;simp at h1;subst h1
 refine⟨r,h2,h3,h4, ?_⟩
 have tA:cp (· =l) w {w with heap:=w.heap.setIfInBounds l (.loop {r with state:=st',pending:=pd'.map kn.code})}:=
  ⟨rfl,rfl,rfl,by simp,fun j _ hj=>(MapKept.heap_set h2).2 j hj⟩
 have nA:(H.o id).live=true:=by rw[ho];rfl
 have tB:cI (φ id)=some l:=by rw[bG];rfl
 have ht:=cT (w:=w) (w':={w with heap:=w.heap.setIfInBounds l (.loop {r with state:=st',pending:=pd'.map kn.code})}) b5 nA tB tA (.loop nf m env ps iB fL st' pd') (by rw[ho];rfl) (by rw[ho];rfl)
 refine⟨dZ hH b5 nA tB tA _ (by rw[ho];rfl) (by rw[ho];rfl) ?_,ht⟩
 unfold au
 simp only[aE,ak,if_true]
 exact⟨l,_,bG,(MapKept.heap_set h2).1,h0,rfl,rfl,h5,h6,h7,h8,fun i=>V.aq ht _ _ (h9 i)⟩
theorem dQ{l:Nat}{r:Loop}(o:Obj)(hb:w.heap[l]? =some (.loop r)):(setObj l o).run P w= .ok () {w with heap:=w.heap.setIfInBounds l o}:=by
 simp[setObj,Sem.run,hb]
theorem eM{l:Nat}{r:Loop}(hb:w.heap[l]? =some (.loop r)):(Instr.getLoop l).run P w= .ok r w:=by
 simp[Instr.getLoop,getObj,Sem.run,hb,Result.andThen]
end
def yo(Q:et->S->Prop)(pd:Option kn)(s:S):Prop:=
 match pd with
 |none=>Q .normal s
 |some .ret=>Q .ret s
 |some (.exit id)=>Q (.exit id) s
def qs(P:Program)(n:Nat)(g:V)(ps:List Nat)(iB fL:IC)(Q:et->S->Prop)(s:S):Prop:=
 ∃env,(∀i,eX env i= .bL\/eX env i=s.env i)/\
  match g with
  | .func (.func f) first cap=>jd P f (first++[.g8 s.nx]++cap) (cN s.o s.nx (.loop P.funcs.size n env ps iB fL .ready none)) (s.nx+1)
    (fun _ o' nx'=>∃nf m e p c d st pd,o' s.nx= .loop nf m e p c d st pd/\st≠ .busy/\yo Q pd ⟨s.env,cN o' s.nx (.loop nf m e p c d .exhausted pd),nx'⟩)
    (fun v o' nx'=>Q (.aH v) ⟨s.env,o',nx'⟩)
  |_=>False
def dS(P:Program)(n b:Nat)(rd:Bool):Code->(et->S->Prop)->S->Prop
 | .skip,Q,s=>Q .normal s
 | .label _,Q,s=>Q .normal s
 | .scope x,Q,s=>dS P n b rd x Q s
 | .region _ ops false,Q,s=>nH P n ops (fun v s=>Q (.aH v) s) (Q .normal) ops.toList s
 | .region id ops true,Q,s=>∀M a6 H0 w0 cx φ a w ro k,aP M a6 H0 w0 n cx φ s a w->(Code.region id ops true).wpIn (bT ro) k P (rj M a6 H0 w0 n cx Q) a w
 | .seq x y,Q,s=>dS P n b rd x (j7 (dS P n b rd y Q) Q) s
 | .cond c x y,Q,s=>match s.ev c with
   | .d (.bool t)=>(t=true->dS P n b rd x Q s)/\(t=false->dS P n b rd y Q s)
   | .cM=>dS P n b rd x Q s/\dS P n b rd y Q s
   |_=>False
 | .block id x,Q,s=>dS P n b rd x (cV id Q) s
 | .loop x,Q,s=>∃ (J:Nat->S->Prop),(∃m s1,p4 b s s1/\J m s1)/\∀m s0,J m s0->dS P n b rd x (fun e s=>match e with| .normal=>∃m' s1,m'<m/\p4 b s s1/\J m' s1|e=>Q e s) s0
 | .exit id,Q,s=>Q (.exit id) s
 | .ret,Q,s=>Q .ret s
 | .rangeFunc g ps x y,Q,s=>rd=false/\qs P n (s.ev g) ps.toList (low n x) (low n y) Q s
 |_,_,_=>False
section
variable {P:Program}{M:Nat->Prop}{φ:Place}{H:Hp}{w w':World}{a6:Place}{H0:Hp}{w0:World}{n b:Nat}{s:S}{a:Act}{cx:Cx}{ro:Option Nat}{k:Nat}
theorem tT(hb:∀id,H0.us id->id<b)(hs:aP M a6 H0 w0 n cx φ s a w){s':S}(h:p4 b s s'):∃ai,aP M a6 H0 w0 n cx ai s' a w:=by
 obtain⟨ai,h1,h2,h3,h4,h5,h6⟩:=h M φ w (fun i=>a.tmps.getD i undef) hs.heap hs.env
 refine⟨ai,h1,⟨hs.tr.aU,fun k hk=>hs.tr.grow k (h3 k hk),⟨fun id hu=>Nat.lt_of_lt_of_le (hb id hu) h4,fun id hu hr=> ?_,fun id e' hu he=> ?_⟩⟩,hs.size, ?_,h2⟩
 ·obtain⟨g1,g2⟩:=h5 id (hb id hu) hr
  obtain⟨g3,g4⟩:=hs.tr.rel.row id hu g1
  exact⟨g3,g2.trans g4⟩
 ·obtain⟨e,g1,g2,g3⟩:=h6 id e' (hb id hu) he
  obtain⟨e0,k1,k2,k3⟩:=hs.tr.rel.ep id e hu g1
  refine⟨e0,k1,Nat.le_trans k2 g2,fun heq=> ?_⟩
  have a1:e0=e:=by omega
  have a2:e=e':=by omega
  exact(g3 a2).trans (k3 a1)
 ·obtain⟨ms,g1,g2,g3,g4⟩:=hs.defers
  exact⟨ms,g1,g2,g3,fun r hr=>⟨(g4 r hr).1,(g4 r hr).2.1,fun hl=>(g4 r hr).2.2 (h3 r hl)⟩⟩
theorem nN{c:Code}{Q:Exit->Act->World->Prop}(J:Nat->Act->World->Prop)(round:∀m a w,J m a w->c.kB P ro (Exit.then (fun a' w'=>∃m',m'<m/\J m' a' w') Q) a w):
 ∀m a w,J m a w->(Code.loop c).kB P ro Q a w:=by
 intro m a w h0 fr kk cs lD hb
 have hr:(bT ro).room (cs.length+1+0):=fun d hd=>by simp[bT]at hd
 have key:∀m a w,J m a w->∃e a' w',Q e a' w'/\ArrivesIn (Machine.fenced P (bT ro)) P (lone (fr.atR a (.code c:: .inLoop c::kk)) cs w) fr kk cs e a' w':=by
  intro m
  induction m using Nat.strongRecOn with
  |_ m ih=>
   intro a w hJ
   obtain⟨e,a1,w1,hq,aZ⟩:=round m a w hJ fr (.inLoop c::kk) cs lD hb
   cases e with
   |normal=>
    obtain⟨m',cu,Ki⟩:=hq
    obtain⟨e2,a2,w2,z8,rl⟩:=ih m' cu a1 w1 Ki
    exact⟨e2,a2,w2,z8, .of_steps (StepsIn.trans aZ (.one (fenced_calm trivial hr rfl) stepR_inLoop)) rl⟩
   |_=>exact⟨_,a1,w1,hq, .pass (x:= .inLoop c) rfl (fun _ _=> .inl (by simp)) aZ⟩
 obtain⟨e,a',w',hq,aZ⟩:=key m a w h0
 exact⟨e,a',w',hq, .of_steps (.one (fenced_calm trivial hr rfl) stepR_loop) aZ⟩
theorem sw(hs:aP M a6 H0 w0 n cx φ s a w)(gM:cx.rd=false)(lD:ro=none){g:Operand}{ps:Array Tmp}{x y:Code}{Q:et->S->Prop}(h:qs P n (s.ev g) ps.toList (low n x) (low n y) Q s):
 (Code.rangeFunc g ps x y).kB P ro (rj M a6 H0 w0 n cx Q) a w:=by
 subst lD
 obtain⟨env,bH,h⟩:=h
 refine mw fun fn su=> ?_
 let qt:Loop:={state:= .ready,pending:=none,fn:=fn,tmps:=a.tmps,params:=ps,assign:=x,body:=y,defers:=w.heap.size}
 let w1:World:=(w.alloc (.deferred (some []))).alloc (.loop qt)
 let l:Nat:=w.heap.size+1
 have fF:(Instr.enterLoop fn a.tmps ps x y (bT none).round).run P w= .ok (l,[mark w.heap.size]) w1:=by
  simp[Instr.enterLoop,bT,mark,w1,l,qt]
 have HC:cp (fun _=>False) w w1:=by
  have k1:=bd w (.deferred (some []))
  have k2:=bd (w.alloc (.deferred (some []))) (.loop qt)
  exact⟨k2.os.trans k1.os,k2.tape.trans k1.tape,k2.output.trans k1.output,Nat.le_trans k1.size k2.size,fun j hj hm=>(k2.block j (Nat.lt_of_lt_of_le hj k1.size) hm).trans (k1.block j hj hm)⟩
 let dO:=cN φ s.nx (.pointer (some ⟨l,0,none⟩))
 let s1:S:=⟨s.env,cN s.o s.nx (.loop P.funcs.size n env ps.toList (low n x) (low n y) .ready none),s.nx+1⟩
 have cz: ¬s.H.us s.nx:=by simp[S.H]
 have dP:∀b,cI (.pointer (some ⟨l,0,none⟩))=some b->w.heap.size<=b/\b<w1.heap.size:=by
  intro b hb;simp[cI]at hb;subst hb;simp[l,w1]
 have p0:=cF (φ:=φ) (H:=s.H) HC cz (.loop P.funcs.size n env ps.toList (low n x) (low n y) .ready none) (.pointer (some ⟨l,0,none⟩)) fun b hb=>(dP b hb).1
 have vK:(w.alloc (.deferred (some []))).heap.size=w.heap.size+1:=by simp
 have nA:w1.heap[l]? =some (.loop qt):=by
  have:=heap_alloc_new (w.alloc (.deferred (some []))) (.loop qt)
  rwa [vK]at this
 have Kj:=ei hs.heap HC cz (.loop P.funcs.size n env ps.toList (low n x) (low n y) .ready none) (.pointer (some ⟨l,0,none⟩)) dP (by
  unfold au
  simp only[aE,ak,if_true]
  refine⟨l,qt,rfl,nA,su,rfl,rfl,rfl,hs.size,rfl,rfl,fun i=> ?_⟩
  rcases bH i with e|e
  ·rw[e];trivial
  ·rw[e];exact V.aq p0 _ _ (hs.env i))
 have mZ:aP M a6 H0 w0 n cx dO s1 {a with defers:=mark w.heap.size::a.defers} w1:=by
  have base:=b8 hs Kj p0 (o':=cN s.o s.nx (.loop P.funcs.size n env ps.toList (low n x) (low n y) .ready none)) (nx':=s.nx+1) rfl (tN fun id ah=>by simp at ah;exact .inr ah)
  refine⟨base.heap,base.tr,base.size, ?_,base.env⟩
  obtain⟨ms,g1,g2,g3,g4⟩:=base.defers
  obtain⟨EL,q1,q2,q3,q4⟩:=hs.defers
  have Kk:ms.map mark=EL.map mark:=by
   have:ms.map mark++cx.base=EL.map mark++cx.base:=g1.symm.trans q1
   exact List.append_cancel_right this
  have qu:ms=EL:=by
   have hm:∀a b,mark a=mark b->a=b:=fun a b h=>by simpa[mark]using h
   exact List.map_inj_right hm |>.1 Kk
  refine⟨w.heap.size::ms,by rw[g1];rfl,List.nodup_cons.2 ⟨fun hm=> ?_,g2⟩,(fun h=>by rw[gM]at h;cases h),fun r hr=> ?_⟩
  ·have:=(q4 w.heap.size (qu ▸ hm)).2.1
   rw[Array.getElem?_eq_none (Nat.le_refl _)]at this;cases this
  ·rcases List.mem_cons.1 hr with rfl|hr
   ·refine⟨hs.tr.aU.size,(RowKit.Below.heap_alloc (w.alloc (.deferred (some []))) (.loop qt) w.heap.size (by rw[vK];omega)).trans (heap_alloc_new w _), ?_⟩
    rintro⟨id,i1,i2⟩
    by_cases e:id=s.nx
    ·subst e;simp[dO,cI,l]at i2
    ·have Kl:(s.H.o id).live=true:=by simpa[s1,S.H,e]using i1
     have Km:cI (φ id)=some w.heap.size:=by simpa[dO,e]using i2
     have:=(hs.heap.ours _ ⟨id,Kl,Km⟩).2
     omega
   ·exact g4 r hr
 have EM:V.den (ad M dO s1.H) dO s1.H w1 (.g8 s.nx) (.func (.yield l) #[] #[]):=
  ⟨rfl,by simp[s1,S.H],fun _=>⟨l,by simp[dO],rfl⟩⟩
 have hg:=fU (M:=M) (φ:=dO) (H:=s1.H) (w:=w1) s1 {a with defers:=mark w.heap.size::a.defers} mZ.env g
 have EN:s1.ev g=s.ev g:=by cases g<;>rfl
 rw[EN]at hg
 have Kn:({a with defers:=mark w.heap.size::a.defers}:Act).eval g=a.eval g:=rfl
 rw[Kn]at hg
 split at h
 ·rename_i f first cap Ko
  rw[Ko]at hg
  obtain⟨fa,ca,ym,qd,Bo⟩:=hg
  have fin:∀ (all:List V) (o2:Nat->aa) (s2:S),s2=⟨s.env,o2,s.nx+1⟩->aP M a6 H0 w0 n cx dO s2 {a with defers:=mark w.heap.size::a.defers} w1->V.aj (ad M dO s2.H) dO s2.H w1 all (fa++#[Value.func (.yield l) #[] #[]]++ca).toList->(o2 s.nx).aM=true->
   jJ P f all o2 (s.nx+1) (fun _ o' nx'=>∃nf m e p c d st pd,o' s.nx= .loop nf m e p c d st pd/\st≠ .busy/\yo Q pd ⟨s.env,cN o' s.nx (.loop nf m e p c d .exhausted pd),nx'⟩) (fun v o' nx'=>Q (.aH v) ⟨s.env,o',nx'⟩)->
   ∃ (l:Nat) (mark:List Deferred) (cW:World) (d:Deferred) (mX:World) (f:FuncId) (args:Array Value) (jK:World),
     (Instr.enterLoop fn a.tmps ps x y (bT none).round).run P w= .ok (l,mark) cW/\(resolve a.eval (rangeCall g l) 0).run P cW= .ok d mX/\
     (invoke d.target d.args).run P mX= .ok (.enter f args) jK/\CallsIn (bT none) 0 P f args jK (lE P l (rj M a6 H0 w0 n cx Q) {a with defers:=mark++a.defers}):=by
   intro all o2 s2 EO vm aR aL hC
   subst EO
   have cB:=hC.2 M dO w1 _ vm.heap aR
   refine⟨l,[mark w.heap.size],w1,{target:= .fn (.func f) ca,args:=fa++#[Value.func (.yield l) #[] #[]]},w1,f,fa++#[Value.func (.yield l) #[] #[]]++ca,w1,fF, ?_, ?_,bg (cB.mono fun e w' ⟨ai,o',nx',v,k1,k2,k3⟩=> ?_)⟩
   ·simp only[resolve,ym,Deferred.ofValue,List.map_toArray,List.map_cons,List.map_nil,Sem.run_pure]
    rfl
   ·simp[invoke,fh hC.1]
   ·cases e with
    |returned val=>
     obtain⟨k4,nf,m,e,p,c,d,st,pd,k5,k6,k7⟩:=k3
     have rm:aP M a6 H0 w0 n cx ai ⟨s.env,o',nx'⟩ {a with defers:=mark w.heap.size::a.defers} w':=b8 vm k1 k2 rfl fun id hu=>hu
     have yp:ai s.nx= .pointer (some ⟨l,0,none⟩):=by
      have:=(k2.rel.row s.nx (show s.nx<s.nx+1 by omega) (by show(o' s.nx).aM=true;rw[k5];rfl)).2
      rw[this];simp[dO]
     have cu:s.nx<nx':=k2.rel.us s.nx (show s.nx<s.nx+1 by omega)
     obtain⟨r,r1,r2,r3,r4,r5⟩:=mY (st':= .exhausted) (pd':=pd) k1 cu (show(hp o' nx').o s.nx=_ from k5) yp
     have lF:(Instr.endLoop l).run P w'= .ok (pd.map kn.code) {w' with heap:=w'.heap.setIfInBounds l (.loop {r with state:= .exhausted,pending:=pd.map kn.code})}:=by
      have e1:({r with state:= .exhausted}:Loop)={r with state:= .exhausted,pending:=pd.map kn.code}:=by rw[<- r3]
      have Kp:(r.state==LoopState.busy)=false:=by rw[r2];cases st<;>first|rfl|exact absurd rfl k6
      simp only[Instr.endLoop,Sem.run_bind,eM r1,Result.andThen_ok,Kp,Bool.false_eq_true,if_false,Sem.run_pure]
      rw[dQ _ r1,e1]
      simp[r3]
     have z9:=b8 rm r4 r5 (o':=cN o' s.nx (.loop nf m e p c d .exhausted pd)) (nx':=nx') rfl fun id hu=>by
      simp only[bW]at hu
      rcases hu with hu|hu
      ·exact hu
      ·subst hu;exact cu
     refine⟨pd.map kn.code,_,lF, ?_⟩
     cases pd with
     |none=>exact⟨.normal,_,_,k7,z9,trivial⟩
     |some j=>
      cases j with
      |ret=>exact rk ⟨.ret,_,_,k7,z9,trivial⟩
      |exit id=>exact pc ⟨.exit id,_,_,k7,z9,rfl⟩
    |panicked ch=>
     obtain⟨val,rfl,k4,k5⟩:=k3
     have rm:aP M a6 H0 w0 n cx ai ⟨s.env,o',nx'⟩ {a with defers:=mark w.heap.size::a.defers} w':=b8 vm k1 k2 rfl fun id hu=>hu
     exact⟨.aH v,_,_,k5,rm,val,rfl,k4⟩
    |outgrown=>exact k3.elim
  have gh:V.aj (ad M dO s1.H) dO s1.H w1 (first++[V.g8 s.nx]++cap) (fa++#[Value.func (.yield l) #[] #[]]++ca).toList:=by
   rw[Array.toList_append,Array.toList_append]
   exact V.fE qd ⟨_,[],rfl,EM,rfl⟩ Bo
  rcases h with hC|hC
  ·exact fin _ _ s1 rfl mZ gh (by simp;rfl) hC
  ·have kP:s1.o=cN s.o s.nx (.loop P.funcs.size n env ps.toList (low n x) (low n y) .ready none):=rfl
   obtain⟨f1,f2,f3,f4,f5⟩:=bK mZ.heap (bp s1.o (first++[V.g8 s.nx]++cap)) (dr _ _ s1.o gh)
   have fy:s1.H.put (bD s1.H.o (bp s1.o (first++[V.g8 s.nx]++cap)))=hp (put s1.o (bD s1.o (bp s1.o (first++[V.g8 s.nx]++cap)))) s1.nx:=fg (by rw[gN];exact dr _ _ s1.o gh)
   have xm:=tQ f1 _ _ f3 (V.aw f2 _ _ gh)
   have xn:((s1.H.put (bD s1.H.o (bp s1.o (first++[V.g8 s.nx]++cap)))).o s.nx).aM=true:=by
    by_cases hm:s.nx∈bp s1.o (first++[V.g8 s.nx]++cap)
    ·rw[f3 _ hm];simp[s1,S.H,aa.fz,aa.aM]
    ·rw[f4 _ hm];simp[s1,S.H,aa.aM]
   rw[fy]at f1 f2 xm xn
   exact fin _ (put s1.o (bD s1.o (bp s1.o (first++[V.g8 s.nx]++cap)))) ⟨s.env,_,s.nx+1⟩ rfl (b8 mZ f1 f2 rfl fun id hu=>hu) xm xn hC
 ·exact h.elim
end
end Go.Proofs.YtbmnikpknlkbkaaGreat
namespace Go.Proofs.YtbmnikpknlkbkaaGreat
section
variable {P:Program}{M:Nat->Prop}{φ:Place}{H:Hp}{w w':World}{a6:Place}{H0:Hp}{w0:World}{n b:Nat}{s:S}{a:Act}{cx:Cx}{ro:Option Nat}{k:Nat}
theorem dD(hb:∀id,H0.us id->id<b)(lD:cx.rd=false->ro=none):∀ (c:Code) (Q:et->S->Prop) (s:S) (φ:Place) (a:Act) (w:World),dS P n b cx.rd c Q s->aP M a6 H0 w0 n cx φ s a w->c.kB P ro (rj M a6 H0 w0 n cx Q) a w:=by
 intro c
 induction c with
 |skip=>exact fun Q s φ a w h hs=>il (k:=0) (wpIn_skip ⟨.normal,s,φ,h,hs,trivial⟩)
 |scope x ih=>exact fun Q s φ a w h hs=>mW (ih Q s φ a w h hs) (fun l a w ⟨xx,s',ai,hq,eQ,hm⟩=>by cases xx<;>exact hm)
 |label l=>exact fun Q s φ a w h hs=>il (k:=0) (wpIn_label ⟨.normal,s,φ,h,hs,trivial⟩)
 |exit id=>exact fun Q s φ a w h hs=>pc ⟨.exit id,s,φ,h,hs,rfl⟩
 |ret=>exact fun Q s φ a w h hs=>rk ⟨.ret,s,φ,h,hs,trivial⟩
 |goto l=>exact fun Q s φ a w h hs=>h.elim
 |refuse y=>exact fun Q s φ a w h hs=>h.elim
 |rangeFunc g ps x y=>exact fun Q s φ a w h hs=>sw hs h.1 (lD h.1) h.2
 |region id ops draw=>
  intro Q s φ a w h hs
  cases draw with
  |true=>exact il (h M a6 H0 w0 cx φ a w ro 0 hs)
  |false=>
   refine il (k:=0) (wpIn_region_list (ik (K:=Q .normal) (X:=fun v s=>Q (.aH v) s) (fun s φ a w hk hs=>⟨.normal,s,φ,hk,hs,trivial⟩) (fun v s φ a w val hx hs hd=>⟨.aH v,s,φ,hx,hs,val,rfl,hd⟩) _ s φ a w h hs))
 |seq x y vR vS=>
  intro Q s φ a w h hs
  refine nM (du (vR _ s φ a w h hs) ?_)
  rintro e a' w' ⟨xx,s',ai,hq,eQ,hm⟩
  cases e<;>cases xx<;>first|(exact hm.elim)|skip
  ·exact vS Q s' ai a' w' hq eQ
  ·subst hm;exact⟨_,s',ai,hq,eQ,rfl⟩
  ·exact⟨.ret,s',ai,hq,eQ,trivial⟩
  ·exact⟨.aH _,s',ai,hq,eQ,hm⟩
 |cond c x y vR vS=>
  intro Q s φ a w h hs
  simp only[dS]at h
  have hc:=fU (M:=M) (φ:=φ) (H:=s.H) (w:=w) s a hs.env c
  split at h
  ·rename_i t hv
   rw[hv]at hc
   simp only[V.den,D.den]at hc
   cases t with
   |true=>exact ji hc (vR Q s φ a w (h.1 rfl) hs)
   |false=>exact ji hc (vS Q s φ a w (h.2 rfl) hs)
  ·rename_i hv
   rw[hv]at hc
   obtain⟨t,hc⟩:=hc
   cases t with
   |true=>exact ji hc (vR Q s φ a w h.1 hs)
   |false=>exact ji hc (vS Q s φ a w h.2 hs)
  ·exact h.elim
 |block id x ih=>
  intro Q s φ a w h hs
  refine sv (du (ih _ s φ a w h hs) ?_)
  rintro e a' w' ⟨xx,s',ai,hq,eQ,hm⟩
  cases e<;>cases xx<;>first|(exact hm.elim)|skip
  ·exact⟨.normal,s',ai,hq,eQ,trivial⟩
  ·subst hm
   simp only[Exit.inBlock]
   simp only[cV]at hq
   split
   ·rename_i he;rw[if_pos he]at hq;exact⟨.normal,s',ai,hq,eQ,trivial⟩
   ·rename_i he;rw[if_neg he]at hq;exact⟨.exit _,s',ai,hq,eQ,rfl⟩
  ·exact⟨.ret,s',ai,hq,eQ,trivial⟩
  ·exact⟨.aH _,s',ai,hq,eQ,hm⟩
 |loop x ih=>
  intro Q s φ a w h hs
  obtain⟨J,⟨m0,s1,hle,hI⟩,yq⟩:=h
  obtain⟨dO,mZ⟩:=tT hb hs hle
  refine nN (fun m a w=>∃s φ,J m s/\aP M a6 H0 w0 n cx φ s a w) ?_ m0 a w ⟨s1,dO,hI,mZ⟩
  rintro m a w ⟨s,φ,hI,hs⟩
  refine du (ih _ s φ a w (yq m s hI) hs) ?_
  rintro e a' w' ⟨xx,s',ai,hq,eQ,hm⟩
  cases e<;>cases xx<;>first|(exact hm.elim)|skip
  ·obtain⟨m2,s2,cu,EP,Kq⟩:=hq
   obtain⟨sx,vm⟩:=tT hb eQ EP
   exact⟨m2,cu,s2,sx,Kq,vm⟩
  ·subst hm;exact⟨_,s',ai,hq,eQ,rfl⟩
  ·exact⟨.ret,s',ai,hq,eQ,trivial⟩
  ·exact⟨.aH _,s',ai,hq,eQ,hm⟩
def tU(tmps:Array Value)(r:ResultVar):Sem Value:=
 match r with
 | .tmp t=>pure (tmps.getD t undef)
 | .cell p t=>do loadVar t (<- asAddr (tmps.getD p undef))
theorem kR(jj:af M φ s.H w)(bH:∀i,V.den (ad M φ s.H) φ s.H w (s.env i) (a.tmps.getD i undef)):∀ (rs:List ResultVar) (vs:List V),fC P s rs=some vs->
 ∃vals,(rs.mapM (tU a.tmps)).run P w= .ok vals w/\V.aj (ad M φ s.H) φ s.H w vs vals
 |[],vs,h=>by simp[fC]at h;subst h;exact⟨[],by simp,rfl⟩
 | .tmp t::rs,vs,h=>by
   simp only[fC,Option.map_eq_some_iff]at h
   obtain⟨us,h1,rfl⟩:=h
   obtain⟨vals,h2,h3⟩:=kR jj bH rs us h1
   exact⟨a.tmps.getD t undef::vals,by simp only[List.mapM_cons,tU,Sem.run_bind,Sem.run_pure,Result.andThen_ok,h2],_,_,rfl,bH t,h3⟩
 | .cell p t::rs,vs,h=>by
   simp only[fC]at h
   split at h
   ·rename_i id off hv
    split at h
    ·rename_i cs ho
     simp only[Option.bind_eq_some_iff,Option.map_eq_some_iff]at h
     obtain⟨v,h0,us,h1,rfl⟩:=h
     obtain⟨vals,h2,h3⟩:=kR jj bH rs us h1
     have hx:=bH p
     rw[hv]at hx
     obtain⟨_,hu,hp⟩:=hx
     obtain⟨k,bG,dP⟩:=hp (by show(s.o id).aM=true;rw[ho];rfl)
     have aG:=jj.ok id
     have pf:s.H.o id= .row cs:=ho
     simp only[au,pf]at aG
     obtain⟨b',cg,ty,g1,g2,g3,g4⟩:=aG
     rw[bG]at g1;simp at g1;subst g1
     obtain⟨val,h4,h5⟩:=iP (P:=P) h0 ⟨k,0,none⟩ cg.toList g3 g4 (fun j u hj=>iQ g2 j u (by simpa using hj)) rfl
     rw[add_plain,Nat.zero_add]at h4
     have h6:(loadVar t ⟨k,off,none⟩).run P w= .ok val w:=by simpa[Instr.loadAt,Instr.sureAddr]using h4
     exact⟨val::vals,by simp only[List.mapM_cons,tU,dP,asAddr,Sem.run_bind,Sem.run_pure,Result.andThen_ok,h6,h2],val,vals,rfl,h5,h3⟩
    ·cases h
   ·cases h
theorem gk{fn:Func}{tmps:Array Value}{vals:List Value}
 (h:(fn.results.toList.mapM (tU tmps)).run P w= .ok vals w):
 (results fn tmps).run P w= .ok (if h:vals.toArray.size=1 then vals.toArray[0]else .tuple vals.toArray) w:=by
 have e:results fn tmps=(do let vs <- fn.results.mapM (tU tmps);pure (if h:vs.size=1 then vs[0]else .tuple vs)):=by
  unfold results
  congr 2
 rw[e,Array.mapM_eq_mapM_toList]
 simp only[Sem.run_bind,Sem.run_map,h,Result.andThen_ok,Sem.run_pure]
theorem gO{us:Nat->Prop}(φ:Place)(hM:∀k,M k->k<w.heap.size):af M φ ⟨fun _=> .no,us⟩ w where
 ok id:=by simp[au]
 fresh _ _:=rfl
 apart i j k hi:=by simp[aa.live]at hi
 ours k:=by rintro⟨id,h,_⟩;simp[aa.live]at h
 oy:=hM
theorem sy{vals:Array Value}{m i:Nat}:(vals++Array.replicate m undef).getD i undef=(vals[i]?).getD undef:=by
 simp only[Array.getD_eq_getD_getElem?,Array.getElem?_append]
 split
 ·rfl
 ·rw[Array.getElem?_eq_none (xs:=vals) (by omega)]
  simp only[Array.getElem?_replicate]
  split<;>rfl
structure nO (M:Nat->Prop) (a6:Place) (H0:Hp) (w0:World) (φ:Place) (s:S) (tmps:Array Value) (w:World):Prop where
 heap:af M φ s.H w
 tr:Trans a6 H0 w0 φ s.H w
 env:∀i,V.den (ad M φ s.H) φ s.H w (s.env i) (tmps.getD i undef)
theorem sA{tmps:Array Value}(hs:nO M a6 H0 w0 φ s tmps w){r:Nat}(h1:w0.heap.size<=r)(h2:w.heap[r]? =some (.deferred (some [])))(h3: ¬bc φ s.H r):
 nO M a6 H0 w0 φ s tmps {w with heap:=w.heap.setIfInBounds r (.deferred none)}:=by
 have iT:∀b,b≠r->(w.heap.setIfInBounds r (.deferred none))[b]? =w.heap[b]? :=fun b hb=>(MapKept.heap_set h2).2 b hb
 have ou:∀b,aS w b-> ¬ad M φ s.H b->(w.heap.setIfInBounds r (.deferred none))[b]? =w.heap[b]? /\ ¬ad M φ s.H b:=by
  intro b hc hn
  refine⟨iT b fun e=> ?_,hn⟩
  subst e
  rcases hc with⟨cs,ty,fz,hc⟩|⟨es,clock,hc⟩
  ·rw[h2]at hc;cases hc
  ·rw[h2]at hc;cases hc
 refine⟨⟨fun id=> ?_,hs.heap.fresh,hs.heap.apart,fun b hb=>⟨(hs.heap.ours b hb).1,by simpa using(hs.heap.ours b hb).2⟩,fun b hb=>by simpa using hs.heap.oy b hb⟩,⟨⟨hs.tr.aU.os,hs.tr.aU.tape,hs.tr.aU.output,by simpa using hs.tr.aU.size,fun j hj hm=> ?_⟩,hs.tr.grow,hs.tr.rel⟩,fun i=>V.eZ ou (bU.refl _ _) _ _ (hs.env i)⟩
 ·exact au.oE ou (bU.refl _ _) rfl rfl (fun hl b hb=>iT b fun e=>h3 ⟨id,hl,e ▸ hb⟩) (hs.heap.ok id)
 ·rw[iT j (by omega)];exact hs.tr.aU.block j hj hm
theorem dv{fn:Func}{R:Ending->World->Prop}{u:FrameMode}(hu:u≠ .run){tmps tb:Array Value}{ds:List Deferred}(hR:∀w,nO M a6 H0 w0 φ s tb w->LeavesInM (bT none) k P fn tmps R ds u w):
 ∀ (ms:List Nat) (w:World),ms.Nodup->(∀r∈ms,w0.heap.size<=r/\w.heap[r]? =some (.deferred (some []))/\ ¬bc φ s.H r)->nO M a6 H0 w0 φ s tb w->LeavesInM (bT none) k P fn tmps R (ms.map mark++ds) u w
 |[],w,_,_,hs=>hR w hs
 |r::ms,w,hn,hm,hs=>by
  obtain⟨h1,h2,h3⟩:=hm r (by simp)
  obtain⟨Kr,Ea⟩:=List.nodup_cons.1 hn
  refine⟨hu, .inl ⟨r,{w with heap:=w.heap.setIfInBounds r (.deferred none)},rfl, ?_,dv hu hR ms _ Ea (fun r' tC=> ?_) (sA hs h1 h2 h3)⟩⟩
  ·simp[Instr.takeDeferred,getObj,setObj,Sem.run,h2,Result.andThen]
  ·obtain⟨g1,g2,g3⟩:=hm r' (by simp[tC])
   exact⟨g1,((MapKept.heap_set h2).2 r' (fun e=>Kr (e ▸ tC))).trans g2,g3⟩
theorem aP.HD (hs:aP M a6 H0 w0 n cx φ s a w):nO M a6 H0 w0 φ s a.tmps w:=⟨hs.heap,hs.tr,hs.env⟩
def fG(P:Program)(rs:List ResultVar)(K X:V->(Nat->aa)->Nat->Prop)(e:et)(s:S):Prop:=
 match e with
 | .normal| .ret=>match fC P s rs with
   |some [v]=>K v s.o s.nx
   |some vs=>K (.a8 vs) s.o s.nx
   |none=>False
 | .aH v=>X v s.o s.nx
 | .exit _=>False
theorem pg{P:Program}{rs:List ResultVar}{K X:V->(Nat->aa)->Nat->Prop}{s:S}(h:fG P rs K X .ret s):∃vs,fC P s rs=some vs/\K (match vs with|[v]=>v|vs=> .a8 vs) s.o s.nx:=by
 unfold fG at h
 simp only at h
 split at h
 ·rename_i v h1;exact⟨[v],h1,h⟩
 ·rename_i vs h1 h2
  refine⟨vs,h2, ?_⟩
  split
  ·exact absurd rfl (h1 _)
  ·exact h
 ·exact h.elim
theorem ph:∀ {vs:List V} {vals:List Value},V.aj (ad M φ H) φ H w vs vals->V.den (ad M φ H) φ H w (match vs with|[v]=>v|vs=> .a8 vs) (if h:vals.toArray.size=1 then vals.toArray[0]else .tuple vals.toArray)
 |[],vals,h=>by simp only[V.aj]at h;subst h;exact⟨#[],rfl,rfl⟩
 |[v],vals,h=>by obtain⟨u,us,rfl,h1,h2⟩:=h;simp only[V.aj]at h2;subst h2;exact h1
 |v::y::l,vals,h=>by
  have h':=h
  obtain⟨u,us,rfl,h1,u2,us2,rfl,h2⟩:=h
  exact⟨(u::u2::us2).toArray,by simp,by simpa using h'⟩
theorem lG{vals:Array Value}{m:Nat}{vs:List V}(hd:V.aj (ad M φ H) φ H w vs vals.toList)(i:Nat):V.den (ad M φ H) φ H w (bq vs i) ((vals++Array.replicate m undef).getD i undef):=by
 have hlen:=V.ag _ _ hd
 simp only[bq,sy]
 cases hx:vs[i]? with
 |none=>
  have:vals[i]? =none:=by
   rw[List.getElem?_eq_none_iff]at hx
   apply Array.getElem?_eq_none
   simp at hlen;omega
  simp only[List.getD_eq_getElem?_getD,hx,this]
  exact⟨#[],rfl,rfl⟩
 |some v=>
  obtain⟨u,hu,vz⟩:=V.b7 _ _ _ _ hd hx
  have mq:vals[i]? =some u:=by simpa using hu
  simp only[List.getD_eq_getElem?_getD,hx,mq,Option.getD_some]
  exact vz
theorem gm{f:FuncId}{fn:Func}{c:Code}{args:Array Value}{w:World}{R:Ending->World->Prop}(hf:P.funcs[f]? =some fn)(hb:fn.body=some c)
 (h:c.kB P none (bodyPostM (bT none) k P fn R) {tmps:=args++Array.replicate (fn.ntmps - args.size) undef,defers:=[]} w):CallsIn (bT none) k P f args w R:=by
 have cu:f<P.funcs.size:=(Array.getElem?_eq_some_iff.1 hf).1
 refine⟨trivial,fun cs hr=> ?_⟩
 let b:Frame:={(default:Frame)with fn:=f,kind:= .normal,roundOf:=none}
 have fF:Frame.enter P f args .normal=b.atR {tmps:=args++Array.replicate (fn.ntmps - args.size) undef,defers:=[]} [.code c]:=by
  simp[Frame.enter,Frame.atR,hf,hb,b]
 obtain⟨e,a',w',hq,aZ⟩:=h b [] cs rfl cu
 rw[<- fF]at aZ
 cases e with
 |normal=>
  obtain⟨e',wW,Bq,hR,hs,su,hl⟩:=leaves_stepsInM a'.defers .returning w' {b.atR a' []with mode:= .returning} cs rfl rfl rfl hf rfl (trivial:(bT none).fn f) hr hq
  exact⟨e',wW,Bq,hR,ComesIn.of_steps (StepsIn.trans aZ (.one (fenced_calm (n:=0) (fr:=b.atR a' []) trivial dt rfl) (stepR_end rfl))) hs,su,hl⟩
 |ret=>
  obtain⟨todo,tV⟩:=aZ.1 rfl
  obtain⟨e',wW,Bq,hR,hs,su,hl⟩:=leaves_stepsInM a'.defers .returning w' {b.atR a' todo with mode:= .returning} cs rfl rfl rfl hf rfl (trivial:(bT none).fn f) hr hq
  exact⟨e',wW,Bq,hR,ComesIn.of_steps tV hs,su,hl⟩
 |panic chain=>
  obtain⟨todo,tV⟩:=aZ
  obtain⟨e',wW,Bq,hR,hs,su,hl⟩:=leaves_stepsInM a'.defers (.panicking chain) w' {b.atR a' todo with mode:= .panicking chain} cs rfl rfl rfl hf rfl (trivial:(bT none).fn f) hr hq
  exact⟨e',wW,Bq,hR,ComesIn.of_steps tV hs,su,hl⟩
 |exit id=>exact hq.elim
 |goto l=>exact hq.elim
 |outgrown=>exact⟨.outgrown,w',b,hq,aZ.resolve_left (by simp[b]),rfl,trivial⟩
def qv(P:Program)(l:Nat)(R:Ending->World->Prop):Exit->Act->World->Prop
 | .normal,_,w=>∃v w',(Instr.endRound l none).run P w= .ok v w'/\R (.returned v) w'
 | .ret,_,w=>∃v w',(Instr.endRound l (some .ret)).run P w= .ok v w'/\R (.returned v) w'
 | .exit id,_,w=>∃v w',(Instr.endRound l (some (.exit id))).run P w= .ok v w'/\R (.returned v) w'
 | .goto _,_,_=>False
 | .panic chain,a,w=>a.defers=[]/\R (.panicked chain) w
 | .outgrown,_,_=>False
theorem lH{l:Nat}{f:FuncId}{tmps:Array Value}{assign body:Code}{w:World}{R:Ending->World->Prop}(hf:f<P.funcs.size)
 (h:assign.kB P (some l) (Exit.then (fun dW cW=>∃jK,(Instr.beginRound l).run P cW= .ok () jK/\body.kB P (some l) (qv P l R) dW jK) (fun e a w=>match e with| .panic chain=>a.defers=[]/\R (.panicked chain) w|_=>False))
  {tmps:=tmps,defers:=[]} w):
 RoundIn Fence.wide n P l f tmps assign body w R:=by
 refine⟨trivial,fun c cs hr=> ?_⟩
 let b:Frame:={(default:Frame)with fn:=f,kind:= .normal,roundOf:=some l}
 have Br:Frame.round l f tmps assign body .normal=b.atR {tmps:=tmps,defers:=[]} [.code assign, .beginRound, .code body]:=by
  simp[Frame.round,Frame.atR,b]
 have calm:∀ (m:Machine),m.fenced P Fence.wide:=fun m=>fenced_wide P m
 have aH:∀ {a:Act} {w:World} {todo:List Item} {chain:List PanicEntry},a.defers=[]->step P (lone {b.atR a todo with mode:= .panicking chain} (c::cs) w)= .next (lone (c.raise chain) cs w):=by
  intro a w todo chain hd
  exact step_leave_panicked (fr:={b.atR a todo with mode:= .panicking chain}) ⟨rfl,hd,P.funcs[f],by show P.funcs[f]? =_;simp[hf]⟩
 obtain⟨e,dW,cW,hq,aZ⟩:=h b [.beginRound, .code body] (c::cs) rfl hf
 rw[<- Br]at aZ
 cases e with
 |normal=>
  obtain⟨jK,Ks,jk⟩:=hq
  have s1:StepsIn (Machine.fenced P Fence.wide) P (lone (b.atR dW [.beginRound, .code body]) (c::cs) cW) (lone (b.atR dW [.code body]) (c::cs) jK):= .one (calm _) (stepR_beginRound rfl Ks)
  obtain⟨yn,Bp,qp,jh,eL⟩:=jk b [] (c::cs) rfl hf
  have aZ:StepsIn (Machine.fenced P Fence.wide) P _ _:=aZ
  cases yn with
  |normal=>
   obtain⟨v,kC,lF,hR⟩:=jh
   have eL:StepsIn (Machine.fenced P Fence.wide) P _ _:=eL
   exact⟨.returned v,kC,hR,(StepsIn.trans aZ s1).trans (StepsIn.trans eL (.one (calm _) (stepR_round_end rfl rfl lF)))⟩
  |ret=>
   obtain⟨v,kC,lF,hR⟩:=jh
   obtain⟨k₁,hs⟩:=eL.2 rfl
   have hs:StepsIn (Machine.fenced P Fence.wide) P _ _:=hs
   exact⟨.returned v,kC,hR,(StepsIn.trans aZ s1).trans (StepsIn.trans hs (.one (calm _) (stepR_round_ret rfl rfl lF)))⟩
  |exit id=>
   obtain⟨v,kC,lF,hR⟩:=jh
   obtain⟨k₁,hk,hs⟩:=eL.2 rfl rfl
   have hs:StepsIn (Machine.fenced P Fence.wide) P _ _:=hs
   exact⟨.returned v,kC,hR,(StepsIn.trans aZ s1).trans (StepsIn.trans hs (.one (calm _) (stepR_round_exit rfl rfl hk lF)))⟩
  |goto t=>exact jh.elim
  |panic chain=>
   obtain⟨todo,hs⟩:=eL
   have hs:StepsIn (Machine.fenced P Fence.wide) P _ _:=hs
   exact⟨.panicked chain,qp,jh.2,(StepsIn.trans aZ s1).trans (StepsIn.trans hs (.one (calm _) (aH jh.1)))⟩
  |outgrown=>exact jh.elim
 |exit id=>exact hq.elim
 |goto t=>exact hq.elim
 |ret=>exact hq.elim
 |panic chain=>
  obtain⟨todo,hs⟩:=aZ
  have hs:StepsIn (Machine.fenced P Fence.wide) P _ _:=hs
  exact⟨.panicked chain,cW,hq.2,StepsIn.trans hs (.one (calm _) (aH hq.1))⟩
 |outgrown=>exact hq.elim
theorem jJ.rn {f:FuncId}{fn:Func}{c:Code}{args:List V}{o:Nat->aa}{nx:Nat}{K X:V->(Nat->aa)->Nat->Prop}(hf:P.funcs[f]? =some fn)(hn:(fn.name== "runtime.NumGoroutine")=false)(jk:fn.body=some c)(hl:args.length<=fn.ntmps)
 (h:dS P fn.ntmps nx false c (fG P fn.results.toList K X) ⟨bq args,o,nx⟩):jJ P f args o nx K X:=by
 refine⟨⟨fn,hf,hn,by rw[jk];rfl⟩,fun M φ w vals hH hd=> ?_⟩
 have hlen:=V.ag _ _ hd
 let s0:S:=⟨bq args,o,nx⟩
 let a0:Act:={tmps:=vals++Array.replicate (fn.ntmps - vals.size) undef,defers:=[]}
 have vT:aP M φ (hp o nx) w fn.ntmps ⟨[],false⟩ φ s0 a0 w:=by
  refine⟨hH,Trans.refl _ _ _, ?_,⟨[],rfl,List.nodup_nil,fun _=>rfl,fun r hr=>by cases hr⟩,lG hd⟩
  simp only[a0,Array.size_append,Array.size_replicate];simp at hlen;omega
 refine o8 (ro:=none) (k:=0) (gm hf jk (du (dD (P:=P) (H0:=hp o nx) (b:=nx) (cx:=⟨[],false⟩) (ro:=none) (fun id hu=>hu) (fun _=>rfl) c _ s0 φ a0 w h vT) ?_))
 rintro e a w' ⟨x,s,ai,hq,hs,hm⟩
 obtain⟨ms,g1,g2,g3,g4⟩:=hs.defers
 rw[List.append_nil]at g1
 have done:(x= .normal\/x= .ret)->LeavesInM (bT none) 0 P fn a.tmps (fZ M φ (hp o nx) w K X) a.defers .returning w':=by
  intro hx
  have Ku:fG P fn.results.toList K X .ret s:=by rcases hx with rfl|rfl<;>exact hq
  obtain⟨vs,h1,h2⟩:=pg Ku
  rw[g1]
  have:=dv (P:=P) (k:=0) (fn:=fn) (R:=fZ M φ (hp o nx) w K X) (u:= .returning) (by simp) (ds:=[]) (fun w2 hb=>by
   obtain⟨vals,h3,h4⟩:=kR (P:=P) (a:=a) hb.heap hb.env _ _ h1
   exact⟨_,gk h3,ai,s.o,s.nx,_,hb.heap,hb.tr,ph h4,h2⟩) ms w' g2 g4 hs.HD
  rwa [List.append_nil]at this
 cases e<;>cases x<;>first|(exact hm.elim)|skip
 ·exact done (.inl rfl)
 ·exact hq.elim
 ·exact done (.inr rfl)
 ·rename_i v
  obtain⟨val,rfl,ER⟩:=hm
  show LeavesInM (bT none) 0 P fn a.tmps (fZ M φ (hp o nx) w K X) a.defers _ w'
  rw[g1]
  have Br:nO M φ (hp o nx) w ai ⟨fun i=>if i=0 then v else .bL,s.o,s.nx⟩ #[val] w':=⟨hs.heap,hs.tr,fun i=>by
   by_cases hi:i=0
   ·subst hi;exact ER
   ·simp only[hi,if_false];trivial⟩
  have:=dv (P:=P) (k:=0) (fn:=fn) (s:=⟨fun i=>if i=0 then v else .bL,s.o,s.nx⟩) (tmps:=a.tmps) (tb:=#[val]) (a6:=φ) (H0:=hp o nx) (w0:=w) (R:=fZ M φ (hp o nx) w K X) (u:= .panicking [{v:=val,recovered:=false}]) (by simp) (ds:=[]) (fun w2 hb=>by
   have h0:=hb.env 0
   exact⟨ai,s.o,s.nx,v,hb.heap,hb.tr,val,rfl,h0,hq⟩) ms w' g2 g4 Br
  rwa [List.append_nil]at this
theorem c0.im {f:FuncId}{ds:List D}{out:R}(h:jJ P f (ds.map .d) (fun _=> .no) 0 (fun v o _=>∃vs rs,v=(match vs with|[v]=>v|vs=> .a8 vs)/\aQ o vs=some rs/\out= .ret rs) (fun v o _=>∃x,cJ o v=some x/\out= .aH x)):c0 P f ds out:=by
 refine⟨h.1,fun M w vals hM hd=> ?_⟩
 let a6:Place:=fun _=> .nilFunc
 have nP:∀b, ¬bc a6 (hp (fun _=> .no) 0) b:=by rintro b ⟨id,hl,_⟩;simp[hp,aa.live]at hl
 refine(h.2 M a6 w vals (gO a6 hM) ((V.aV _ _).2 (D.aw (w:=w) (w':=w) (B:=M) (fun b _ hB=>⟨rfl,fun h=>h.elim hB (nP b)⟩) _ _ hd))).mono ?_
 rintro e w' ⟨ai,o',nx',v,k1,k2,k3⟩
 have Bs:cp (fun _=>False) w w':=⟨k2.aU.os,k2.aU.tape,k2.aU.output,k2.aU.size,fun k hk _=>k2.aU.block k hk (nP k)⟩
 have fin:∀ (vs:List V) (xs:List D) (vals:List Value),aQ o' vs=some xs->V.aj (ad M ai (hp o' nx')) ai (hp o' nx') w' vs vals->D.aj M w' xs vals:=by
  intro vs xs vals h1 h2
  obtain⟨f1,f2,f3,f4,f5⟩:=bK k1 (V.aB vs) (aW vs _ h2)
  have h3:=bz f1 vs xs vals f3 h1 (V.aw f2 _ _ h2)
  exact D.aw (w:=w') (w':=w') (fun k _ hB=>⟨rfl,fun hM=>hB (.inl hM)⟩) xs vals h3
 refine⟨Bs, ?_⟩
 cases e with
 |outgrown=>exact k3.elim
 |panicked ch=>
  obtain⟨val,rfl,g1,x,g2,rfl⟩:=k3
  have:=fin [v] [x] [val] (by simp[aQ,g2]) ⟨val,[],rfl,g1,rfl⟩
  obtain⟨u,us,he,h2,_⟩:=this
  simp at he;obtain⟨rfl,rfl⟩:=he
  exact⟨val,rfl,h2⟩
 |returned val=>
  obtain⟨g1,vs,rs,rfl,g2,rfl⟩:=k3
  match vs,g1,g2 with
  |[],g1,g2=>
   obtain⟨arr,rfl,hv⟩:=g1
   simp only[aQ,Option.some.injEq]at g2;subst g2
   exact⟨arr,rfl,hv⟩
  |[v],g1,g2=>
   have:=fin [v] rs [val] g2 ⟨val,[],rfl,g1,rfl⟩
   cases rs with
   |nil=>cases this
   |cons x l=>
    obtain⟨u,us,he,h2,h3⟩:=this
    simp at he;obtain⟨rfl,rfl⟩:=he
    cases l with
    |nil=>exact h2
    |cons y l=>obtain⟨_,_,h,_⟩:=h3;cases h
  |v::v2::l,g1,g2=>
   obtain⟨arr,rfl,h⟩:=g1
   have:=fin (v::v2::l) rs arr.toList g2 h
   have hl:=D.ag _ _ this
   have Bt:=V.ag _ _ h
   match rs,hl,this with
   |[],hl,_=>rw[Bt]at hl;simp at hl
   |[x],hl,_=>rw[Bt]at hl;simp at hl
   |x::y::l,_,this=>exact⟨arr,rfl,this⟩
theorem sB{rs:List ResultVar}{out:R}(e:et)(s:S)(h:sr P rs out e s):
 fG P rs (fun v o _=>∃vs rs,v=(match vs with|[v]=>v|vs=> .a8 vs)/\aQ o vs=some rs/\out= .ret rs) (fun v o _=>∃x,cJ o v=some x/\out= .aH x) e s:=by
 have ret:sr P rs out .ret s->fG P rs (fun v o _=>∃vs rs,v=(match vs with|[v]=>v|vs=> .a8 vs)/\aQ o vs=some rs/\out= .ret rs) (fun v o _=>∃x,cJ o v=some x/\out= .aH x) .ret s:=by
  intro h
  obtain⟨vs,xs,h1,h2,h3⟩:=tH h
  simp only[fG,h1]
  match vs,h2 with
  |[],h2=>exact⟨[],xs,rfl,h2,h3⟩
  |[v],h2=>exact⟨[v],xs,rfl,h2,h3⟩
  |v::v2::l,h2=>exact⟨v::v2::l,xs,rfl,h2,h3⟩
 cases e with
 |normal=>exact ret h
 |ret=>exact ret h
 |exit id=>exact h.elim
 |aH v=>exact tI h
end
end Go.Proofs.YtbmnikpknlkbkaaGreat
namespace Go.Proofs.YtbmnikpknlkbkaaGreat
def tW{α:Type}(c:Bool)(x:α):Option α:=if c=true then some x else none
def one(v:V):Option dy:=some (v,[],[])
def pj(op:BinOp)(k:IntKind)(a b:Int):Option V:=
 match op with
 | .add=>some (.d (.int k (k.wrap (a+b))))
 | .sub=>some (.d (.int k (k.wrap (a - b))))
 | .mul=>some (.d (.int k (k.wrap (a*b))))
 | .quo=>if b=0 then none else some (.d (.int k (k.wrap (a.tdiv b))))
 | .rem=>if b=0 then none else some (.d (.int k (a.tmod b)))
 | .and=>(la .and k a b).map fun r=> .d (.int k r)
 | .or=>(la .or k a b).map fun r=> .d (.int k r)
 | .xor=>(la .xor k a b).map fun r=> .d (.int k r)
 | .andNot=>(la .andNot k a b).map fun r=> .d (.int k r)
 | .eql=>some (.d (.bool (a==b)))| .neq=>some (.d (.bool (a !=b)))| .lss=>some (.d (.bool (decide (a<b))))| .leq=>some (.d (.bool (decide (a<=b))))
 | .gtr=>some (.d (.bool (decide (b<a))))| .geq=>some (.d (.bool (decide (b<=a))))
 |_=>none
def gP(P:Program)(t:TypeId):Bool:=
 match P.underlying t with
 |some .bool=>true
 |_=>false
def nQ(P:Program)(op:BinOp)(t:TypeId)(x y:V):Option V:=
 match x,y with
 | .d (.int k a), .d (.int k' b)=>if k=k' then pj op k a b else none
 | .d (.bool a), .d (.bool b)=>match op with
   | .eql=>tW (gP P t) (.d (.bool (a==b)))
   | .neq=>tW (gP P t) (.d (.bool (a !=b)))
   |_=>none
 | .d (.str a), .d (.str b)=>match op with
   | .eql=>some (.d (.bool (a==b)))
   | .neq=>some (.d (.bool (a !=b)))
   |_=>none
 |_,_=>none
def ES(op:UnOp)(x:V):Option V:=
 match op,x with
 | .neg, .d (.int k n)=>some (.d (.int k (k.wrap (-n))))
 | .not, .d (.bool b)=>some (.d (.bool !b))
 |_,_=>none
def jl(c a b:V):Option V:=
 match c with
 | .d (.bool true)=>some a
 | .d (.bool false)=>some b
 |_=>none
def jm(o:Nat->aa)(x:V):Option (List D×List Nat):=
 match x with
 | .d (.sl es)=>some (es,[])
 | .b6=>some ([],[])
 | .iA es=>some (es,[])
 | .osl id ep=>match o id with
   | .arr dB _ _ es=>if ep=dB then some (es,[id])else none
   | .ko dB es=>if ep=dB then some (es,[id])else none
   |_=>none
 |_=>none
def qw(P:Program)(t:TypeId)(o:Nat->aa)(x:V):Option dy:=
 match P.underlying t with
 |some (.slice _)=>match jm o x with
  |some (es,rd)=>some (.d (.int .i64 es.length),[],rd)
  |none=>none
 |some .string=>match x with
  | .d (.str s)=>one (.d (.int .i64 s.length))
  |_=>none
 |some (.array n _)=>one (.d (.int .i64 n))
 |_=>none
def m4(P:Program)(e:TypeId)(es:List D)(i:Int)(rd:List Nat):Option dy:=
 if 0<=i then match es[i.toNat]? with
  |some y=>tW (y.cells.length==P.cellsOf e&&0<P.cellsOf e) (.pp y.cells 0,[],rd)
  |none=>none
 else none
def gY(o:Nat->aa)(x:V)(q:Nat):Option V:=
 match x with
 | .ptr id off=>tW (o id).aM (.ptr id (off+q))
 | .pp cs off=>some (.pp cs (off+q))
 | .pe id ep j sz off=>if(o id).aN=some ep then some (.pe id ep j sz (off+q))else none
 |_=>none
def dE(P:Program)(o:Nat->aa)(t:TypeId)(x ix:V):Option dy:=
 match ix with
 | .d (.int _ i)=>match bM P t with
   |some e=>match x with
    | .d (.sl es)=>m4 P e es i []
    | .iA es=>m4 P e es i []
    | .osl id ep=>match o id with
      | .arr dB _ sz es=>if ep=dB/\0<=i/\i.toNat<es.length/\sz=P.cellsOf e/\0<P.cellsOf e then some (.pe id ep i.toNat sz 0,[],[id])else none
      | .ko dB es=>if ep=dB then m4 P e es i [id]else none
      |_=>none
    |_=>none
   |none=>match p7 P t with
    |some (n,e)=>if 0<=i/\i<n/\(P.info? e).isSome=true then(gY o x (i.toNat*P.cellsOf e)).bind one else none
    |none=>none
 |_=>none
def dF(P:Program)(o:Nat->aa)(t:TypeId)(x:V)(f:Nat):Option V:=
 match g9 P t f with
 |some q=>gY o x q
 |none=>none
def gq(P:Program)(o:Nat->aa)(t:TypeId)(x:V):Option dy:=
 match x with
 | .ptr id off=>match o id with
   | .row cs=>match cw P t cs off with
     |some v=>some (v,[],[id])
     |none=>none
   |_=>none
 | .pp cs off=>match cw P t (cs.map .d) off with
   |some v=>some (v,[],[])
   |none=>none
 | .pe id ep i sz off=>match o id with
   | .arr dB _ gR es=>if ep=dB/\sz=gR then match es[i]? with
    |some e=>match cw P t (e.cells.map .d) off with
     |some v=>some (v,[],[id])
     |none=>none
    |none=>none
     else none
   |_=>none
 |_=>none
def jL(P:Program)(o:Nat->aa)(t:TypeId)(x v:V):Option dy:=
 match x with
 | .ptr id off=>match o id with
   | .row cs=>match nv P t cs off v with
     |some cs'=>some (.a8 [],[(id, .row cs')],[id])
     |none=>none
   |_=>none
 | .pe id ep i gR off=>match o id with
   | .arr dB ty sz es=>if ep=dB/\gR=sz then match es[i]?,cJ o v with
    |some e,some y=>if y.cells.length=P.cellsOf t/\0<y.cells.length/\v.ids.all (· !=id)=true then match e.put off y.cells with
     |some e'=>some (.a8 [],bD o v.ids++[(id, .arr ep ty sz (es.set i e'))],id::v.ids)
     |none=>none
     else none
    |_,_=>none
     else none
   |_=>none
 |_=>none
def dc(P:Program)(o:Nat->aa)(fr:Nat)(t:TypeId)(len:Nat)(parts:List (Nat×V)):Option dy:=
 match bM P t with
 |some e=>if len=0/\parts.isEmpty=true/\0<P.cellsOf e then some (.osl fr 0,[(fr, .arr 0 e (P.cellsOf e) [])],[])else if parts.map (·.1)=List.range len/\(e7 P e).isSome=true/\0<len/\0<P.cellsOf e/\len*P.cellsOf e<=2^24 then match aQ o (parts.map (·.2))with
  |some ds=>if ds.all (fun x=>x.cells.length==P.cellsOf e)=true then some (.osl fr 0,bD o (V.aB (parts.map (·.2)))++[(fr, .arr 0 e (P.cellsOf e) ds)],V.aB (parts.map (·.2)))else none
  |none=>none
  else none
 |none=>none
def fH(P:Program)(fr:Nat)(t:TypeId)(l c:V):Option dy:=
 match bM P t with
 |some e=>match l,c with
  | .d (.int _ n), .d (.int _ m)=>if n=m/\0<=n/\0<P.cellsOf e/\P.bytesOf e*n.toNat<=2^47/\n.toNat<=2^47 then match oB P e with
   |some x=>some (.osl fr 0,[(fr, .arr 0 e (P.cellsOf e) (List.replicate n.toNat x))],[])
   |none=>none
    else none
  |_,_=>none
 |none=>none
def jn(P:Program)(o:Nat->aa)(fr:Nat)(ts:Array TypeId)(x y:V):Option dy:=
 match ts.toList with
 |[t,t']=>if t=t' then match bM P t,jm o y with
    |some e,some (new,rd)=>if 0<P.cellsOf e/\(e7 P e).isSome=true/\new.all (fun z=>z.cells.length==P.cellsOf e)=true then match x with
     | .b6=>if new.length<=2^47/\new.length*P.bytesOf e<=2^47 then some (.osl fr 0,[(fr, .arr 0 e (P.cellsOf e) new)],rd)else none
     | .iA es=>if es.all (fun z=>z.cells.length==P.cellsOf e)=true then(if new=[]then some (.iA es,[],rd)else if es.length+new.length<=2^40/\(es.length+new.length)*P.bytesOf e<=2^40 then some (.osl fr 0,[(fr, .arr 0 e (P.cellsOf e) (es++new))],rd)else none)else none
     | .osl id ep=>match o id with
       | .arr dB ty sz es=>if ep=dB/\ty=e/\sz=P.cellsOf e/\es.length+new.length<=2^47/\(es.length+new.length)*P.bytesOf e<=2^47 then
        some (.osl id (ep+1),[(id, .arr (ep+1) ty sz (es++new))],id::rd)else none
       |_=>none
     |_=>none
     else none
    |_,_=>none
  else none
 |_=>none
def jo(isMax:Bool)(x y:V):Option V:=
 match x,y with
 | .d (.int k a), .d (.int k' b)=>if k=k' then some (.d (.int k (if isMax then(if b>a then b else a)else(if b<a then b else a))))else none
 |_,_=>none
def fI(x:Option V):Option dy:=match x with|some v=>one v|none=>none
def jq(P:Program)(s:S)(fr:Nat)(b:Builtin)(args:List Operand)(ts:Array TypeId):Option dy:=
 match b,args with
 | .len,[x]=>match ts.toList with
   |[t]=>qw P t s.o (s.ev x)
   |_=>none
 | .append,[x,y]=>match mE P fr ts (s.ev x) (s.ev y)with
   |some r=>some r
   |none=>jn P s.o fr ts (s.ev x) (s.ev y)
 | .max,[x,y]=>fI (jo true (s.ev x) (s.ev y))
 | .min,[x,y]=>fI (jo false (s.ev x) (s.ev y))
 | .max,[x,y,z]=>fI (tc (s.ev x) (s.ev y) (s.ev z))
 | .copy,[x,y]=>mC P s.o ts (s.ev x) (s.ev y)
 | .delete,[x,y]=>match ts.toList.head? with
   |some t=>iM P s.o t (s.ev x) (s.ev y)
   |none=>none
 | .cap,[x]=>vu P ts (s.ev x)
 |_,_=>none
def nR(P:Program)(t:TypeId)(parts:List (Nat×V)):Option V:=
 match e7 P t,iE P t with
 |some z,some pl=>match jT pl z parts with
  |some cs=>some (iD cs)
  |none=>none
 |_,_=>none
def ea(o:Nat->aa)(x:V):Option V:=
 match x with
 | .ptr id off=>tW (o id).aM (.ptr id off)
 | .pp cs off=>some (.pp cs off)
 | .func (.func f) first cap=>some (.func (.func f) first cap)
 |_=>none
def lI(P:Program)(t:TypeId):Bool:=
 match P.underlying t with
 |some (.interface _)=>false
 |some _=>true
 |none=>false
def tX(P:Program)(t:TypeId)(x:V):Option V:=
 tW (lI P t) (match x with
  | .d y=> .d (.iface t y)
  |v=> .iface t v)
def bF(P:Program)(o:Nat->aa)(op:BinOp)(t:TypeId)(kx:Bool)(x y:V):Option dy:=
 match nQ P op t x y with
 |some v=>one v
 |none=>jD P o op t kx x y
def pk(op:UnOp)(x:V):Option V:=
 match op,x with
 | .not, .cM=>some .cM
 |op,x=>ES op x
def dG(P:Program)(s:S)(fr:Nat)(op:Op):Option dy:=
 match op with
 | .move x=>one (s.ev x)
 | .assign x=>one (s.ev x)
 | .pick c a b=>fI (jl (s.ev c) (s.ev a) (s.ev b))
 | .alloc t=>match e7 P t with
   |some cs=>some (.ptr fr 0,[(fr, .row cs)],[])
   |none=>none
 | .box _ x=>match(s.ev x).cells with
   |some cs=>some (.ptr fr 0,[(fr, .row cs)],[])
   |none=>none
 | .build t parts=>fI (nR P t (parts.toList.map fun p=>(p.1,s.ev p.2)))
 | .buildSlice t len parts=>dc P s.o fr t len (parts.toList.map fun p=>(p.1,s.ev p.2))
 | .load t x=>gq P s.o t (s.ev x)
 | .store t x v=>jL P s.o t (s.ev x) (s.ev v)
 | .nilCheck x=>fI (ea s.o (s.ev x))
 | .binOp op t x y _=>bF P s.o op t (isConst x||isConst y) (s.ev x) (s.ev y)
 | .unOp op _ x=>fI (pk op (s.ev x))
 | .convert u t x=>match P.underlying u,rU P t,s.ev x with
   |some _,some k, .d (.int _ n)=>one (.d (.int k (k.wrap n)))
   |_,_,_=>none
 | .makeInterface t x=>fI (tX P t (s.ev x))
 | .makeFunc fn first cap=>one (.func fn (first.toList.map s.ev) (cap.toList.map s.ev))
 | .makeSlice t l c=>fH P fr t (s.ev l) (s.ev c)
 | .fieldAddr t x f=>fI (dF P s.o t (s.ev x) f)
 | .indexAddr t x i=>dE P s.o t (s.ev x) (s.ev i)
 | .extract x i=>match s.ev x with
   | .a8 vs=>match vs[i]? with
     |some v=>one v
     |none=>none
   |_=>none
 | .call c=>match c.callee with
   | .builtin b=>jq P s fr b c.args.toList c.argTypes
   |_=>none
 | .slice t x lo hi mx=>jA P s.o t (s.ev x) (lo.map s.ev) (hi.map s.ev) (mx.map s.ev)
 | .field t x f=>fI (lf P t (s.ev x) f)
 | .index t x i=>fI (lg P t (s.ev x) (s.ev i))
 | .typeAssert x _ t ok=>fI (iH P t ok (s.ev x))
 | .makeMap t none=>iJ P fr t
 | .lookup t m k ok=>iI P s.o t (s.ev m) (s.ev k) ok
 | .mapUpdate t m k v=>eD P s.o t (s.ev m) (s.ev k) (s.ev v)
 | .insert t m k v=>eD P s.o t (s.ev m) (s.ev k) (s.ev v)
 | .range t x=>hS P s.o fr t (s.ev x)
 | .next x str=>iK s.o (s.ev x) str
 | .entry x=>hU s.o (s.ev x)
 |_=>none
section
variable {P:Program}{s:S}{fr:Nat}{v:V}{Δ:List (Nat×aa)}{rd:List Nat}{o:Nat->aa}{K:V->List (Nat×aa)->List Nat->Prop}
theorem jM{α:Type}{c:Bool}{x y:α}(h:tW c x=some y):c=true/\x=y:=by
 unfold tW at h;split at h
 ·injection h with h;exact⟨by assumption,h⟩
 ·cases h
theorem eR{x:V}{r:dy}(h:one x=some r):r=(x,[],[]):=by unfold one at h;injection h with h;exact h.symm
theorem cQ{x:Option V}{r:dy}(h:fI x=some r):∃v,x=some v/\r=(v,[],[]):=by
 unfold fI at h;split at h
 ·exact⟨_,rfl,eR h⟩
 ·cases h
theorem qx{x:V}{es:List D}{rd:List Nat}(h:jm o x=some (es,rd)):cy o x=some es/\rd=x.ids:=by
 unfold jm at h
 split at h
 ·simp at h;obtain⟨rfl,rfl⟩:=h;exact⟨rfl,rfl⟩
 ·simp at h;obtain⟨rfl,rfl⟩:=h;exact⟨rfl,rfl⟩
 ·simp at h;obtain⟨rfl,rfl⟩:=h;exact⟨rfl,rfl⟩
 ·split at h
  ·rename_i ho
   split at h
   ·rename_i e;simp at h;obtain⟨rfl,rfl⟩:=h;exact⟨by simp[cy,cJ,ho,e],rfl⟩
   ·cases h
  ·rename_i ho
   split at h
   ·rename_i e;simp at h;obtain⟨rfl,rfl⟩:=h;exact⟨by simp[cy,cJ,ho,e],rfl⟩
   ·cases h
  ·cases h
 ·cases h
theorem sC{op:BinOp}{k:IntKind}{a b:Int}{v:V}(h:pj op k a b=some v){K:V->Prop}(hK:K v):vo op k a b K:=by
 cases op<;>simp only[pj]at h<;>simp only[vo]
 case quo=>split at h
           ·cases h
           ·injection h with h;subst h;exact⟨by assumption,hK⟩
 case rem=>split at h
           ·cases h
           ·injection h with h;subst h;exact⟨by assumption,hK⟩
 case and=>simp only[Option.map_eq_some_iff]at h;obtain⟨r,h1,rfl⟩:=h;exact⟨r,h1,hK⟩
 case or=>simp only[Option.map_eq_some_iff]at h;obtain⟨r,h1,rfl⟩:=h;exact⟨r,h1,hK⟩
 case xor=>simp only[Option.map_eq_some_iff]at h;obtain⟨r,h1,rfl⟩:=h;exact⟨r,h1,hK⟩
 case andNot=>simp only[Option.map_eq_some_iff]at h;obtain⟨r,h1,rfl⟩:=h;exact⟨r,h1,hK⟩
 case shl=>cases h
 case shr=>cases h
 case eql=>injection h with h;subst h;exact⟨_,rfl,hK⟩
 case neq=>injection h with h;subst h;exact⟨_,rfl,hK⟩
 case lss=>injection h with h;subst h;exact⟨_,rfl,hK⟩
 case leq=>injection h with h;subst h;exact⟨_,rfl,hK⟩
 case gtr=>injection h with h;subst h;exact⟨_,rfl,hK⟩
 case geq=>injection h with h;subst h;exact⟨_,rfl,hK⟩
 all_goals (injection h with h;subst h;exact hK)
theorem sD{op:BinOp}{t:TypeId}{x y v:V}(h:nQ P op t x y=some v){K:V->Prop}(hK:K v):s9 P op t x y K:=by
 unfold nQ at h
 unfold s9
 split at h
 ·split at h
  ·exact⟨by assumption,sC h hK⟩
  ·cases h
 ·have hb:gP P t=true->P.underlying t=some .bool:=by
   unfold gP;intro h;split at h
   ·assumption
   ·cases h
  split at h
  ·obtain⟨h1,rfl⟩:=jM h;exact⟨hb h1,hK⟩
  ·obtain⟨h1,rfl⟩:=jM h;exact⟨hb h1,hK⟩
  ·cases h
 ·split at h
  ·injection h with h;subst h;exact hK
  ·injection h with h;subst h;exact hK
  ·cases h
 ·cases h
theorem qy{c a b v:V}(h:jl c a b=some v){K:V->Prop}(hK:K v):oz c a b K:=by
 unfold jl at h
 unfold oz
 split at h
 ·injection h with h;subst h;exact⟨fun _=>hK,(fun h=>by cases h)⟩
 ·injection h with h;subst h;exact⟨(fun h=>by cases h),fun _=>hK⟩
 ·cases h
theorem lJ{x y:V}{q:Nat}(h:gY o x q=some y):(∃id off,x= .ptr id off/\(o id).aM=true/\y= .ptr id (off+q))\/(∃cs off,x= .pp cs off/\y= .pp cs (off+q))\/
 (∃id ep j sz off,x= .pe id ep j sz off/\(o id).aN=some ep/\y= .pe id ep j sz (off+q)):=by
 unfold gY at h
 split at h
 ·obtain⟨h1,rfl⟩:=jM h;exact .inl ⟨_,_,rfl,h1,rfl⟩
 ·injection h with h;exact .inr (.inl ⟨_,_,rfl,h.symm⟩)
 ·split at h
  ·injection h with h;exact .inr (.inr ⟨_,_,_,_,_,rfl,by assumption,h.symm⟩)
  ·cases h
 ·cases h
theorem iq{e:TypeId}{es:List D}{i:Int}{rd:List Nat}{r:dy}(h:m4 P e es i rd=some r):
 0<=i/\∃y,es[i.toNat]? =some y/\y.cells.length=P.cellsOf e/\0<P.cellsOf e/\r=(.pp y.cells 0,[],rd):=by
 unfold m4 at h
 split at h
 ·rename_i h0
  split at h
  ·rename_i y hy
   obtain⟨h1,rfl⟩:=jM h
   simp only[Bool.and_eq_true,beq_iff_eq,decide_eq_true_eq]at h1
   exact⟨h0,y,hy,h1.1,h1.2,rfl⟩
  ·cases h
 ·cases h
theorem kD{t:TypeId}{x ix:V}(h:dE P o t x ix=some (v,Δ,rd))(hK:K v Δ rd):ee P o t x ix fun v rd=>K v [] rd:=by
 unfold dE at h
 unfold ee
 split at h
 ·simp only
  split at h
  ·rename_i e ht
   simp only[ht]
   split at h
   ·obtain⟨h0,y,h1,h2,h3,h4⟩:=iq h
    simp only[Prod.mk.injEq]at h4;obtain⟨rfl,rfl,rfl⟩:=h4
    exact⟨h0,y,h1,h2,h3,hK⟩
   ·obtain⟨h0,y,h1,h2,h3,h4⟩:=iq h
    simp only[Prod.mk.injEq]at h4;obtain⟨rfl,rfl,rfl⟩:=h4
    exact⟨h0,y,h1,h2,h3,hK⟩
   ·split at h
    ·rename_i ho
     split at h
     ·rename_i hc
      simp only[Option.some.injEq,Prod.mk.injEq]at h;obtain⟨rfl,rfl,rfl⟩:=h
      simp only[ho]
      exact⟨hc.1,hc.2.1,hc.2.2.1,hc.2.2.2.1,hc.2.2.2.2,hK⟩
     ·cases h
    ·rename_i ho
     split at h
     ·rename_i hc
      obtain⟨h0,y,h1,h2,h3,h4⟩:=iq h
      simp only[Prod.mk.injEq]at h4;obtain⟨rfl,rfl,rfl⟩:=h4
      simp only[ho]
      exact⟨hc,h0,y,h1,h2,h3,hK⟩
     ·cases h
    ·cases h
   ·cases h
  ·rename_i ht
   simp only[ht]
   split at h
   ·rename_i n e ha
    simp only[ha]
    split at h
    ·rename_i hc
     simp only[Option.bind_eq_some_iff]at h
     obtain⟨y,hy,h1⟩:=h
     have h1:=eR h1
     simp only[Prod.mk.injEq]at h1;obtain⟨rfl,rfl,rfl⟩:=h1
     refine⟨hc.1,hc.2.1,hc.2.2, ?_⟩
     rcases lJ hy with⟨_,_,rfl,h2,rfl⟩|⟨_,_,rfl,rfl⟩|⟨_,_,_,_,_,rfl,h2,rfl⟩
     ·exact⟨h2,hK⟩
     ·exact hK
     ·exact⟨h2,hK⟩
    ·cases h
   ·cases h
 ·cases h
theorem kE{t:TypeId}{x y:V}{f:Nat}(h:dF P o t x f=some y){K:V->Prop}(hK:K y):ef P o t x f K:=by
 unfold dF at h
 unfold ef
 split at h
 ·rename_i q hq
  simp only[hq]
  rcases lJ h with⟨_,_,rfl,h2,rfl⟩|⟨_,_,rfl,rfl⟩|⟨_,_,_,_,_,rfl,h2,rfl⟩
  ·exact⟨h2,hK⟩
  ·exact hK
  ·exact⟨h2,hK⟩
 ·cases h
theorem sE{t:TypeId}{x:V}(h:qw P t o x=some (v,Δ,rd))(hK:K v Δ rd):ta P t o x fun v rd=>K v [] rd:=by
 unfold qw at h
 unfold ta
 split at h
 ·rename_i e hu
  simp only[hu]
  split at h
  ·rename_i es nS hl
   simp only[Option.some.injEq,Prod.mk.injEq]at h;obtain⟨rfl,rfl,rfl⟩:=h
   unfold jm at hl
   split at hl
   ·simp at hl;obtain⟨rfl,rfl⟩:=hl;exact hK
   ·simp at hl;obtain⟨rfl,rfl⟩:=hl;exact hK
   ·simp at hl;obtain⟨rfl,rfl⟩:=hl;exact hK
   ·split at hl
    ·rename_i ho
     split at hl
     ·rename_i hc;simp at hl;obtain⟨rfl,rfl⟩:=hl;simp only[ho];exact⟨hc,hK⟩
     ·cases hl
    ·rename_i ho
     split at hl
     ·rename_i hc;simp at hl;obtain⟨rfl,rfl⟩:=hl;simp only[ho];exact⟨hc,hK⟩
     ·cases hl
    ·cases hl
   ·cases hl
  ·cases h
 ·rename_i hu
  simp only[hu]
  split at h
  ·have h1:=eR h;simp only[Prod.mk.injEq]at h1;obtain⟨rfl,rfl,rfl⟩:=h1;exact hK
  ·cases h
 ·rename_i hu
  simp only[hu]
  have h1:=eR h;simp only[Prod.mk.injEq]at h1;obtain⟨rfl,rfl,rfl⟩:=h1;exact hK
 ·cases h
theorem qz{t:TypeId}{x:V}(h:gq P o t x=some (v,Δ,rd))(hK:K v Δ rd):oA P o t x fun v rd=>K v [] rd:=by
 unfold gq at h
 unfold oA
 split at h
 ·split at h
  ·rename_i ho
   split at h
   ·rename_i hg
    simp only[Option.some.injEq,Prod.mk.injEq]at h;obtain⟨rfl,rfl,rfl⟩:=h
    simp only[ho];exact⟨_,hg,hK⟩
   ·cases h
  ·cases h
 ·split at h
  ·rename_i hg
   simp only[Option.some.injEq,Prod.mk.injEq]at h;obtain⟨rfl,rfl,rfl⟩:=h
   exact⟨_,hg,hK⟩
  ·cases h
 ·split at h
  ·rename_i ho
   split at h
   ·rename_i hc
    split at h
    ·rename_i e he
     split at h
     ·rename_i hg
      simp only[Option.some.injEq,Prod.mk.injEq]at h;obtain⟨rfl,rfl,rfl⟩:=h
      simp only[ho];exact⟨hc.1,hc.2,e,he,_,hg,hK⟩
     ·cases h
    ·cases h
   ·cases h
  ·cases h
 ·cases h
theorem pn{t:TypeId}{x y:V}(h:jL P o t x y=some (v,Δ,rd))(hK:K v Δ rd):lb P o t x y fun Δ rd=>K (.a8 []) Δ rd:=by
 unfold jL at h
 unfold lb
 split at h
 ·split at h
  ·rename_i ho
   split at h
   ·rename_i hg
    simp only[Option.some.injEq,Prod.mk.injEq]at h;obtain⟨rfl,rfl,rfl⟩:=h
    simp only[ho];exact⟨_,hg,hK⟩
   ·cases h
  ·cases h
 ·split at h
  ·rename_i ho
   split at h
   ·rename_i hc
    split at h
    ·rename_i e z he hz
     split at h
     ·rename_i hl
      split at h
      ·rename_i e' hp
       simp only[Option.some.injEq,Prod.mk.injEq]at h;obtain⟨rfl,rfl,rfl⟩:=h
       simp only[ho]
       exact⟨hc.1,hc.2,e,he,z,hz,hl.1,hl.2.1,hl.2.2,e',hp,hK⟩
      ·cases h
     ·cases h
    ·cases h
   ·cases h
  ·cases h
 ·cases h
theorem jN{t:TypeId}{len:Nat}{parts:List (Nat×V)}(h:dc P o fr t len parts=some (v,Δ,rd))(hK:K v Δ rd):dK P o fr t len parts K:=by
 unfold dc at h
 unfold dK
 split at h
 ·rename_i e ht
  simp only[ht]
  split at h
  ·rename_i hc
   simp only[Option.some.injEq,Prod.mk.injEq]at h;obtain⟨rfl,rfl,rfl⟩:=h
   exact .inl ⟨hc.1,by simpa using hc.2.1,hc.2.2,hK⟩
  split at h
  ·rename_i hc
   refine .inr ?_
   split at h
   ·rename_i ds hd
    split at h
    ·rename_i hw
     simp only[Option.some.injEq,Prod.mk.injEq]at h;obtain⟨rfl,rfl,rfl⟩:=h
     refine⟨hc.1,hc.2.1,hc.2.2.1,hc.2.2.2.1,hc.2.2.2.2,ds,hd,fun x hx=> ?_,hK⟩
     simpa using List.all_eq_true.1 hw x hx
    ·cases h
   ·cases h
  ·cases h
 ·cases h
theorem kF{t:TypeId}{l c:V}(h:fH P fr t l c=some (v,Δ,rd))(hK:K v Δ rd):eg P fr t l c fun v Δ=>K v Δ []:=by
 unfold fH at h
 unfold eg
 split at h
 ·rename_i e ht
  split at h
  ·split at h
   ·rename_i hc
    split at h
    ·rename_i x hx
     simp only[Option.some.injEq,Prod.mk.injEq]at h;obtain⟨rfl,rfl,rfl⟩:=h
     simp only[ht]
     exact⟨hc.1,hc.2.1,hc.2.2.1,hc.2.2.2.1,hc.2.2.2.2,x,hx,hK⟩
    ·cases h
   ·cases h
  ·cases h
 ·cases h
theorem nT{ts:Array TypeId}{x y:V}(h:jn P o fr ts x y=some (v,Δ,rd))(hK:K v Δ rd):iF P o fr ts x y K:=by
 unfold jn at h
 unfold iF
 split at h
 ·rename_i t t' mo
  simp only[mo]
  split at h
  ·rename_i Kv
   refine⟨Kv, ?_⟩
   split at h
   ·rename_i e new nS ht hl
    obtain⟨nA,rfl⟩:=qx hl
    simp only[ht]
    split at h
    ·rename_i hc
     refine⟨new,nA,hc.1,hc.2.1,fun z hz=>by simpa using List.all_eq_true.1 hc.2.2 z hz, ?_⟩
     split at h
     ·split at h
      ·rename_i pZ
       simp only[Option.some.injEq,Prod.mk.injEq]at h;obtain⟨rfl,rfl,rfl⟩:=h
       exact⟨pZ.1,pZ.2,hK⟩
      ·cases h
     ·split at h
      ·rename_i sX
       refine⟨fun z hz=>by simpa using List.all_eq_true.1 sX z hz, ?_⟩
       split at h
       ·rename_i hn
        simp only[Option.some.injEq,Prod.mk.injEq]at h;obtain⟨rfl,rfl,rfl⟩:=h
        rw[if_pos hn];exact hK
       ·rename_i hn
        split at h
        ·rename_i pZ
         simp only[Option.some.injEq,Prod.mk.injEq]at h;obtain⟨rfl,rfl,rfl⟩:=h
         rw[if_neg hn];exact⟨pZ.1,pZ.2,hK⟩
        ·cases h
      ·cases h
     ·split at h
      ·rename_i ho
       split at h
       ·rename_i pZ
        simp only[Option.some.injEq,Prod.mk.injEq]at h;obtain⟨rfl,rfl,rfl⟩:=h
        simp only[ho]
        exact⟨pZ.1,pZ.2.1,pZ.2.2.1,pZ.2.2.2.1,pZ.2.2.2.2,hK⟩
       ·cases h
      ·cases h
     ·cases h
    ·cases h
   ·cases h
  ·cases h
 ·cases h
theorem lK{x y:V}(h:ea o x=some y){K:V->Prop}(hK:K y):e8 o x K:=by
 unfold ea at h
 unfold e8
 split at h
 ·obtain⟨h2,rfl⟩:=jM h;exact⟨h2,hK⟩
 ·injection h with h;subst h;exact hK
 ·injection h with h;subst h;exact hK
 ·cases h
theorem tY{op:UnOp}{x y:V}(h:ES op x=some y){K:V->Prop}(hK:K y):A3 op x K:=by
 unfold ES at h
 unfold A3
 split at h
 ·injection h with h;subst h;simp only;rw[Int.zero_sub];exact hK
 ·injection h with h;subst h;exact hK
 ·cases h
theorem jr{m:Bool}{x y v:V}(h:jo m x y=some v){K:V->Prop}(hK:K v):gJ m [x,y] K:=by
 unfold jo at h
 unfold gJ
 split at h
 ·split at h
  ·injection h with h;subst h;exact⟨by assumption,hK⟩
  ·cases h
 ·cases h
theorem pq{op:Op}(h:dG P s fr op=some (v,Δ,rd))(hK:K v Δ rd):wX P s fr op K:=by
 cases op<;>simp only[dG]at h<;>simp only[wX]<;>try (cases h;done)
 case move x=>have h:=eR h;simp only[Prod.mk.injEq]at h;obtain⟨rfl,rfl,rfl⟩:=h;exact hK
 case assign x=>have h:=eR h;simp only[Prod.mk.injEq]at h;obtain⟨rfl,rfl,rfl⟩:=h;exact hK
 case pick c a b=>
  obtain⟨x,h1,h⟩:=cQ h;simp only[Prod.mk.injEq]at h;obtain⟨rfl,rfl,rfl⟩:=h
  exact qy h1 hK
 case alloc t=>
  split at h
  ·rename_i cs hz;simp only[Option.some.injEq,Prod.mk.injEq]at h;obtain⟨rfl,rfl,rfl⟩:=h;exact⟨cs,hz,hK⟩
  ·cases h
 case box t x=>
  split at h
  ·rename_i cs hz;simp only[Option.some.injEq,Prod.mk.injEq]at h;obtain⟨rfl,rfl,rfl⟩:=h;exact⟨cs,hz,hK⟩
  ·cases h
 case build t parts=>
  obtain⟨x,h1,h⟩:=cQ h;simp only[Prod.mk.injEq]at h;obtain⟨rfl,rfl,rfl⟩:=h
  unfold nR at h1
  split at h1
  ·rename_i z pl hz hp
   split at h1
   ·rename_i cs hc;injection h1 with h1;subst h1;exact⟨z,pl,cs,hz,hp,hc,hK⟩
   ·cases h1
  ·cases h1
 case buildSlice t len parts=>exact jN h hK
 case load t x=>exact qz h hK
 case store t x y=>exact pn h hK
 case nilCheck x=>
  obtain⟨y,h1,h⟩:=cQ h;simp only[Prod.mk.injEq]at h;obtain⟨rfl,rfl,rfl⟩:=h
  exact lK h1 hK
 case binOp op t x y yt=>
  unfold bF at h
  split at h
  ·rename_i z h1
   have h:=eR h;simp only[Prod.mk.injEq]at h;obtain⟨rfl,rfl,rfl⟩:=h
   exact .inl (sD h1 hK)
  ·right;simp only[h,ba];exact hK
 case unOp op t x=>
  obtain⟨z,h1,h⟩:=cQ h;simp only[Prod.mk.injEq]at h;obtain⟨rfl,rfl,rfl⟩:=h
  unfold pk at h1
  split at h1
  ·rename_i hx;injection h1 with h1;subst h1;exact .inr ⟨rfl,hx,hK⟩
  ·exact .inl (tY h1 hK)
 case slice t x lo hi mx=>simp only[h,ba];exact hK
 case field t x f=>
  obtain⟨z,h1,h⟩:=cQ h;simp only[Prod.mk.injEq]at h;obtain⟨rfl,rfl,rfl⟩:=h
  simp only[h1,ba,Option.map_some];exact hK
 case typeAssert x xt t ok=>
  obtain⟨z,h1,h⟩:=cQ h;simp only[Prod.mk.injEq]at h;obtain⟨rfl,rfl,rfl⟩:=h
  simp only[h1,ba,Option.map_some];exact hK
 case makeMap t r=>
  cases r with
  |none=>simp only[h,ba];exact hK
  |some x=>cases h
 case lookup t m k ok=>simp only[h,ba];exact hK
 case mapUpdate t m k v=>simp only[h,ba];exact hK
 case insert t m k v=>simp only[h,ba];exact hK
 case index t x i=>
  obtain⟨z,h1,h⟩:=cQ h;simp only[Prod.mk.injEq]at h;obtain⟨rfl,rfl,rfl⟩:=h
  simp only[h1,ba,Option.map_some];exact hK
 case convert u t x=>
  split at h
  ·rename_i d k k' n hu hk hx
   have h:=eR h;simp only[Prod.mk.injEq]at h;obtain⟨rfl,rfl,rfl⟩:=h
   exact⟨by rw[hu];rfl,by simp only[hk,hx];exact hK⟩
  ·cases h
 case makeInterface t x=>
  obtain⟨z,h1,h⟩:=cQ h;simp only[Prod.mk.injEq]at h;obtain⟨rfl,rfl,rfl⟩:=h
  obtain⟨h2,rfl⟩:=jM h1
  refine⟨?_, ?_⟩
  ·unfold lI at h2
   cases hd:P.underlying t with
   |none=>simp[hd]at h2
   |some d=>exact⟨d,rfl,by cases d<;>simp_all⟩
  ·split
   ·rename_i y hy;simp only[hy]at hK;exact hK
   ·rename_i hy
    split at hK
    ·rename_i y Kw;exact absurd Kw (hy y)
    ·exact hK
 case makeFunc fn first cap=>have h:=eR h;simp only[Prod.mk.injEq]at h;obtain⟨rfl,rfl,rfl⟩:=h;exact hK
 case makeSlice t l c=>
  exact kF h hK
 case fieldAddr t x f=>
  obtain⟨z,h1,h⟩:=cQ h;simp only[Prod.mk.injEq]at h;obtain⟨rfl,rfl,rfl⟩:=h
  exact kE h1 hK
 case indexAddr t x i=>
  exact kD h hK
 case extract x i=>
  split at h
  ·rename_i vs hv
   split at h
   ·rename_i u hu
    have h:=eR h;simp only[Prod.mk.injEq]at h;obtain⟨rfl,rfl,rfl⟩:=h
    simp only[hv];exact⟨_,hu,hK⟩
   ·cases h
  ·cases h
 case call c=>
  obtain⟨vO,args,ts⟩:=c
  cases vO<;>simp only at h|- <;>try (cases h;done)
  rename_i b
  unfold jq at h
  unfold lj
  split at h
  ·rename_i x ha
   simp only[ha]
   split at h
   ·rename_i t mo;exact⟨t,mo,sE h hK⟩
   ·cases h
  ·rename_i x y ha
   simp only[ha]
   split at h
   ·rename_i r hr
    simp only[Option.some.injEq]at h
    subst h
    exact .inl (by rw[hr];exact hK)
   ·exact .inr (nT h hK)
  ·rename_i x y ha
   simp only[ha]
   obtain⟨z,h1,h⟩:=cQ h;simp only[Prod.mk.injEq]at h;obtain⟨rfl,rfl,rfl⟩:=h
   exact jr h1 hK
  ·rename_i x y ha
   simp only[ha]
   obtain⟨z,h1,h⟩:=cQ h;simp only[Prod.mk.injEq]at h;obtain⟨rfl,rfl,rfl⟩:=h
   exact jr h1 hK
  ·rename_i x y z ha
   simp only[ha]
   obtain⟨v0,h1,h⟩:=cQ h;simp only[Prod.mk.injEq]at h;obtain⟨rfl,rfl,rfl⟩:=h
   simp only[h1,ba,Option.map_some];exact hK
  ·rename_i x y ha
   simp only[ha,h,ba];exact hK
  ·rename_i x y ha
   simp only[ha]
   split at h
   ·rename_i t ht;exact⟨t,ht,by simp only[h,ba];exact hK⟩
   ·cases h
  ·rename_i x ha
   simp only[ha,h,ba];exact hK
  ·cases h
 case range t x=>simp only[h,ba];exact hK
 case next x str=>left;simp only[h,ba];exact hK
 case entry x=>simp only[h,ba];exact hK
end
end Go.Proofs.YtbmnikpknlkbkaaGreat
