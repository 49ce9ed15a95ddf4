/-
  A PART OF THE PROOF. Conditions: none.
-/
import Derived.Test.YtpkobkdgcanmjaaGreatLk5
set_option linter.unusedSimpArgs false
set_option linter.unusedVariables false
namespace Go
def Code.ly (P:Program)(ro:Option Nat)(c:Code)(Q:Exit->Act->World->Prop)(a:Act)(w:World):Prop:=
 ∀ (b:Frame) (k:List Item) (cs:List Frame),b.roundOf=ro->b.fn<P.funcs.size->
   ∃e a' w',Q e a' w'/\ArrivesIn (Machine.fenced P (Proofs.YtpkobkdgcanmjaaGreat.bU ro)) P (lone (b.atR a (.code c::k)) cs w) b k cs e a' w'
end Go
namespace Go.Proofs.YtpkobkdgcanmjaaGreat
instance:LawfulMonad Sem:=LawfulMonad.mk' Sem (id_map:=fun x=>Sem.bind_pure' x) (pure_bind:=fun _ _=>rfl) (bind_assoc:=fun x f g=>Sem.bind_assoc' x f g)
section
variable {P:Program}{M:Nat->Prop}{φ:Place}{H:Hp}{w w':World}{a7:Place}{H0:Hp}{w0:World}{n b:Nat}{s:S}{a:Act}{cx:Cx}{ro:Option Nat}{k:Nat}
theorem ja(hs:aQ M a7 H0 w0 n cx φ s a w){ops:Array Oper}{o:Oper}{A B:Prop}(h:nw s ops o.guard A B):
 (Region.wanted o (yielded ops a.tmps)=true->A)/\(Region.wanted o (yielded ops a.tmps)=false->B):=by
 unfold nw at h
 unfold Region.wanted
 split at h
 ·rename_i hg;simp only[hg];exact⟨fun _=>h,fun h=>by cases h⟩
 ·rename_i j want hg
  simp only[hg]
  unfold jN at h
  unfold yielded
  split at h
  ·rename_i d hd
   simp only[hd,Option.bind_some]
   have bK:=hs.env d
   split at h
   ·rename_i c hv
    rw[hv]at bK
    simp only[V.den,D.den]at bK
    have:a.tmps[d]? =some (.bool c):=by
     rw[Array.getD_eq_getD_getElem?]at bK
     cases hx:a.tmps[d]? with
     |none=>rw[hx]at bK;simp[undef]at bK
     |some x=>rw[hx]at bK;simp at bK;rw[bK]
    simp only[this]
    by_cases hc:c=want
    ·subst hc;exact⟨fun _=>h.1 rfl,fun h=>by simp at h⟩
    ·exact⟨fun h'=>absurd (by simpa using h') hc,fun _=>h.2 hc⟩
   ·rename_i hv
    rw[hv]at bK
    obtain⟨arr,a6,hn⟩:=bK
    simp only[V.ak]at hn
    have:∀c,a.tmps[d]? ≠some (.bool c):=by
     intro c hx
     rw[Array.getD_eq_getD_getElem?,hx]at a6
     simp at a6
    cases hx:a.tmps[d]? with
    |none=>exact⟨fun h=>by simp at h,fun _=>h⟩
    |some x=>cases x<;>first|(exact absurd hx (this _))|(exact⟨fun h=>by simp at h,fun _=>h⟩)
   ·exact h.elim
  ·rename_i hd
   simp only[hd,Option.bind_none]
   exact⟨fun h=>by simp at h,fun _=>h⟩
theorem oY(hs:aQ M a7 H0 w0 n cx φ s a w){dst:Option Tmp}(ba:dk n dst):aQ M a7 H0 w0 n cx φ ⟨ay s.env dst (.a8 []),s.o,s.nx+1⟩ (a.put dst undef) w:=
 fA (v:= .a8 []) (val:=undef) hs hs.heap (Trans.refl _ _ _) ⟨#[],rfl,rfl⟩ ba rfl fun _ hu=>Nat.lt_succ_of_lt hu
theorem hY{ops:Array Oper}{X:V->S->Prop}{K:S->Prop}{Q:Exit->Act->World->Prop}
 (hK:∀s φ a w,K s->aQ M a7 H0 w0 n cx φ s a w->Q .normal a w)
 (hQ:∀v s' aj a w' val,X v s'->aQ M a7 H0 w0 n cx aj s' a w'->V.den (ad M aj s'.H) aj s'.H w' v val->Q (.panic [{v:=val,recovered:=false}]) a w'):
 ∀ (l:List Oper) (s:S) (φ:Place) (a:Act) (w:World),ny P n ops X K l s->aQ M a7 H0 w0 n cx φ s a w->wpListIn (bU ro) k P ops Q l a w
 |[],s,φ,a,w,h,hs=>hK s φ a w h hs
 |o::l,s,φ,a,w,h,hs=>by
  obtain⟨h1,h2⟩:=ja hs h
  unfold wpListIn
  split
  ·rename_i hw
   exact mN hs (h1 hw) (fun s' aj a' w' hk eP=>hY hK hQ l s' aj a' w' hk eP) (fun v s' aj w' val hx eP hd=>hQ v s' aj a w' val hx eP hd)
  ·rename_i hw
   obtain⟨ba,h3⟩:=h2 (by simpa using hw)
   exact⟨fun _ _=>trivial,hY hK hQ l _ _ _ _ h3 (oY hs ba)⟩
def qW(M:Nat->Prop)(a7:Place)(H0:Hp)(w0:World)(n:Nat)(cx:Cx)(Q:eo->S->Prop)(e:Exit)(a:Act)(w:World):Prop:=
 ∃x s φ,Q x s/\aQ M a7 H0 w0 n cx φ s a w/\match e,x with
  | .normal, .normal=>True
  | .exit i, .exit j=>i=j
  | .ret, .ret=>True
  | .panic ch, .aJ v=>∃val,ch=[{v:=val,recovered:=false}]/\V.den (ad M φ s.H) φ s.H w v val
  |_,_=>False
section
variable {Q:Exit->Act->World->Prop}
theorem dn{m:Nat}:(bU ro).room m:=fun d hd=>by simp[bU]at hd
theorem hZ{c:Code}(h:c.wpIn (bU ro) k P Q a w):c.ly P ro Q a w:=fun b k cs lx _=>h b k cs lx trivial dn
theorem dp{c:Code}{Q':Exit->Act->World->Prop}(h:c.ly P ro Q a w)(hq:∀e a w,Q e a w->Q' e a w):c.ly P ro Q' a w:=
 fun b k cs lx hb=>let⟨e,a',w',q,r⟩:=h b k cs lx hb;⟨e,a',w',hq _ _ _ q,r⟩
theorem qX(h:Q .ret a w):Code.ret.ly P ro Q a w:=hZ (k:=0) (wpIn_ret h)
theorem oZ{id:Nat}(h:Q (.exit id) a w):(Code.exit id).ly P ro Q a w:=hZ (k:=0) (wpIn_exit h)
theorem nD{x y:Code}(h:x.ly P ro (Exit.then (y.ly P ro Q) Q) a w):(Code.seq x y).ly P ro Q a w:=by
 intro b k cs lx hb
 have h0:(lone (b.atR a (.code (.seq x y)::k)) cs w).fenced P (bU ro):=fenced_calm (n:=0) trivial dn rfl
 obtain⟨e,dV,cS,hq,a6⟩:=h b (.code y::k) cs lx hb
 cases e with
 |normal=>
  obtain⟨xY,A1,jF,jb,eK⟩:=hq b k cs lx hb
  exact⟨xY,A1,jF,jb, .of_steps (.head h0 stepR_seq a6) eK⟩
 |exit id=>exact⟨_,dV,cS,hq, .of_steps (.one h0 stepR_seq) (.pass (x:= .code y) rfl (fun _ _=> .inl (by simp)) a6)⟩
 |goto l=>exact⟨_,dV,cS,hq, .of_steps (.one h0 stepR_seq) (.pass (x:= .code y) rfl (fun _ _=> .inl (by simp)) a6)⟩
 |ret=>exact⟨_,dV,cS,hq, .of_steps (.one h0 stepR_seq) (.pass (x:= .code y) rfl (fun _ _=> .inl (by simp)) a6)⟩
 |panic ch=>exact⟨_,dV,cS,hq, .of_steps (.one h0 stepR_seq) (.pass (x:= .code y) rfl (fun _ _=> .inl (by simp)) a6)⟩
 |outgrown=>exact⟨_,dV,cS,hq, .of_steps (.one h0 stepR_seq) (.pass (x:= .code y) rfl (fun _ _=> .inl (by simp)) a6)⟩
theorem jc{c:Operand}{x y:Code}{t:Bool}(hc:a.eval c= .bool t)(h:(if t then x else y).ly P ro Q a w):(Code.cond c x y).ly P ro Q a w:=
 fun b k cs lx hb=>let⟨e,a',w',q,r⟩:=h b k cs lx hb;⟨e,a',w',q, .of_steps (.one (fenced_calm (n:=0) trivial dn rfl) (stepR_cond hc)) r⟩
theorem sa{id:Nat}{c:Code}(h:c.ly P ro (Exit.inBlock id Q) a w):(Code.block id c).ly P ro Q a w:=by
 intro b k cs lx hb
 have h0:(lone (b.atR a (.code (.block id c)::k)) cs w).fenced P (bU ro):=fenced_calm (n:=0) trivial dn rfl
 obtain⟨e,dV,cS,hq,a6⟩:=h b (.inBlock id::k) cs lx hb
 cases e with
 |normal=>exact⟨.normal,dV,cS,hq, .head h0 stepR_block (StepsIn.trans a6 (.one (fenced_calm (n:=0) trivial dn rfl) stepR_inBlock))⟩
 |exit bA=>
  by_cases ai:bA=id
  ·simp only[Exit.inBlock,ai,if_true]at hq
   exact⟨.normal,dV,cS,hq, .head h0 stepR_block (a6.1 k (by simp[exitTo,ai]))⟩
  ·simp only[Exit.inBlock,ai,if_false]at hq
   have this:(id==bA)=false:=by simp;exact fun h=>ai h.symm
   have hx:exitTo bA (.inBlock id::k)=exitTo bA k:=by simp[exitTo,this]
   exact⟨.exit bA,dV,cS,hq,fun k' hk=> .head h0 stepR_block (a6.1 k' (by rw[hx];exact hk)),
    fun tl hk=>let⟨k₁,h1,h2⟩:=a6.2 tl (by rw[hx];exact hk);⟨k₁,h1, .head h0 stepR_block h2⟩⟩
 |goto l=>
  have hx:gotoIn l (.inBlock id::k)=gotoIn l k:=by simp[gotoIn]
  exact⟨_,dV,cS,hq,fun k' hk=> .head h0 stepR_block (a6.1 k' (by rw[hx];exact hk)),
   fun tl hk=>let⟨k₁,h1,h2⟩:=a6.2 tl (by rw[hx];exact hk);⟨k₁,h1, .head h0 stepR_block h2⟩⟩
 |ret=>exact⟨_,dV,cS,hq, .of_steps (.one h0 stepR_block) a6⟩
 |panic ch=>exact⟨_,dV,cS,hq, .of_steps (.one h0 stepR_block) a6⟩
 |outgrown=>exact⟨_,dV,cS,hq, .of_steps (.one h0 stepR_block) a6⟩
theorem cY{b:Frame}{k:List Item}{cs:List Frame}{c:Code}:step P (lone (b.atR a (.code (.scope c)::k)) cs w)= .next (lone (b.atR a (.code c:: .inScope c::k)) cs w):=
 step_lone_go (by simp[stepG,stepG.exec,Frame.atR])
theorem mj{b:Frame}{k:List Item}{cs:List Frame}{c:Code}:step P (lone (b.atR a (.inScope c::k)) cs w)= .next (lone (b.atR a k) cs w):=
 step_lone_go (by simp[stepG,stepG.exec,Frame.atR])
theorem sb{c:Code}(h:c.ly P ro Q a w)(hg:∀l a w, ¬Q (.goto l) a w):(Code.scope c).ly P ro Q a w:=by
 intro b k cs lx hb
 have h0:(lone (b.atR a (.code (.scope c)::k)) cs w).fenced P (bU ro):=fenced_calm (n:=0) trivial dn rfl
 obtain⟨e,dV,cS,hq,a6⟩:=h b (.inScope c::k) cs lx hb
 cases e with
 |normal=>exact⟨.normal,dV,cS,hq, .head h0 cY (StepsIn.trans a6 (.one (fenced_calm (n:=0) trivial dn rfl) mj))⟩
 |exit bA=>
  have hx:exitTo bA (.inScope c::k)=exitTo bA k:=by simp[exitTo]
  exact⟨.exit bA,dV,cS,hq,fun k' hk=> .head h0 cY (a6.1 k' (by rw[hx];exact hk)),
   fun tl hk=>let⟨k₁,h1,h2⟩:=a6.2 tl (by rw[hx];exact hk);⟨k₁,h1, .head h0 cY h2⟩⟩
 |goto l=>exact(hg _ _ _ hq).elim
 |ret=>exact⟨_,dV,cS,hq, .of_steps (.one h0 cY) a6⟩
 |panic ch=>exact⟨_,dV,cS,hq, .of_steps (.one h0 cY) a6⟩
 |outgrown=>exact⟨_,dV,cS,hq, .of_steps (.one h0 cY) a6⟩
def lz(P:Program)(l:Nat)(Q:Exit->Act->World->Prop)(a':Act):Ending->World->Prop
 | .returned _,qb=>∃jump ku,(Instr.endLoop l).run P qb= .ok jump ku/\(match jump with|none=>Q .normal a' ku|some c=>c.ly P none Q a' ku)
 | .panicked chain,qb=>Q (.panic chain) a' qb
 | .outgrown,_=>LetsOut Q
theorem ml{g:Operand}{ps:Array Tmp}{assign body:Code}
 (h:∀fn,fn<P.funcs.size->∃ (l:Nat) (mark:List Deferred) (cS:World) (d:Deferred) (mO:World) (f:FuncId) (args:Array Value) (jF:World),
  (Instr.enterLoop fn a.tmps ps assign body (bU none).round).run P w= .ok (l,mark) cS/\(resolve a.eval (rangeCall g l) 0).run P cS= .ok d mO/\
  (invoke d.target d.args).run P mO= .ok (.enter f args) jF/\CallsIn (bU none) 0 P f args jF (lz P l Q {a with defers:=mark++a.defers})):
 (Code.rangeFunc g ps assign body).ly P none Q a w:=by
 intro b k cs lx hb
 obtain⟨l,mark,cS,d,mO,f,args,jF,he,oU,hinv,hF,cq⟩:=h b.fn hb
 rw[show(bU none).round=b.roundOf from lx.symm]at he
 have calm:∀ (m:Machine),m.fenced P (bU none)↔m.fenced P Fence.wide:=fun m=>Iff.rfl
 have h0:(lone (b.atR a (.code (.rangeFunc g ps assign body)::k)) cs w).fenced P (bU none):=(calm _).2 (fenced_wide P _)
 have fC:=stepR_rangeFunc (P:=P) (b:=b) (a:=a) (k:=k) (cs:=cs) (w:=w) he oU hinv
 obtain⟨e,qb,fr,hR,qc,r9,tG⟩:=cq (b.atR {a with defers:=mark++a.defers} (.inRangeFunc l::k)::cs) dn
 cases e with
 |outgrown=>
  obtain⟨GU,GV,hq⟩:=hR
  exact⟨.outgrown,GU,GV,hq, .inr (Outgrown.of_steps (.one fC) qc)⟩
 |returned v=>
  obtain⟨jump,ku,lA,hj⟩:=hR
  have wU:StepsIn (Machine.fenced P (bU none)) P (lone (b.atR a (.code (.rangeFunc g ps assign body)::k)) cs w) (lone (b.atR {a with defers:=mark++a.defers} ((jump.map Item.code).toList++k)) cs ku):=by
   refine .head h0 fC (StepsIn.trans qc (.head ((calm _).2 (fenced_wide P _)) ?_ (.one ((calm _).2 (fenced_wide P _)) (stepR_endRangeFunc lA))))
   rw[<- finish_atR_inRangeFunc l v];exact step_leave_returned tG
  cases jump with
  |none=>exact⟨.normal,_,ku,hj,wU⟩
  |some c=>
   obtain⟨e',Mn,GW,hq,a6⟩:=hj b k cs lx hb
   exact⟨e',Mn,GW,hq, .of_steps wU a6⟩
 |panicked chain=>
  refine⟨.panic chain,_,qb,hR, .inRangeFunc l::k, .head h0 fC (StepsIn.trans qc (.one ((calm _).2 (fenced_wide P _)) ?_))⟩
  rw[<- Frame.raise_atR];exact step_leave_panicked tG
end
theorem mP(hH:af M φ H w){id l:Nat}(cl:H.us id){nf m:Nat}{env:List V}{ps:List Nat}{iu fI:IC}{st st':LoopState}{pd pd':Option ke}(ho:H.o id= .loop nf m env ps iu fI st pd)(bJ:φ id= .pointer (some ⟨l,0,none⟩)):
 ∃r,w.heap[l]? =some (.loop r)/\r.state=st/\r.pending=pd.map ke.code/\
  af M φ (H.put [(id, .loop nf m env ps iu fI st' pd')]) {w with heap:=w.heap.setIfInBounds l (.loop {r with state:=st',pending:=pd'.map ke.code})}/\
  Trans φ H w φ (H.put [(id, .loop nf m env ps iu fI st' pd')]) {w with heap:=w.heap.setIfInBounds l (.loop {r with state:=st',pending:=pd'.map ke.code})}:=by
 have aI:=hH.ok id
 simp only[aw,ho]at aI
 obtain⟨b,r,h1,h2,h0,h3,h4,h5,h6,h7,h8,h9⟩:=aI
 rw[bJ]at h1;simp at h1;subst h1
 refine⟨r,h2,h3,h4, ?_⟩
 have tj:cw (· =l) w {w with heap:=w.heap.setIfInBounds l (.loop {r with state:=st',pending:=pd'.map ke.code})}:=
  ⟨rfl,rfl,rfl,by simp,fun j _ hj=>(MapKept.heap_set h2).2 j hj⟩
 have np:(H.o id).live=true:=by rw[ho];rfl
 have tk:cF (φ id)=some l:=by rw[bJ];rfl
 have ht:=cQ (w:=w) (w':={w with heap:=w.heap.setIfInBounds l (.loop {r with state:=st',pending:=pd'.map ke.code})}) cl np tk tj (.loop nf m env ps iu fI st' pd') (by rw[ho];rfl) (by rw[ho];rfl)
 refine⟨dY hH cl np tk tj _ (by rw[ho];rfl) (by rw[ho];rfl) ?_,ht⟩
 unfold aw
 simp only[aE,ao,if_true]
 exact⟨l,_,bJ,(MapKept.heap_set h2).1,h0,rfl,rfl,h5,h6,h7,h8,fun i=>V.au ht _ _ (h9 i)⟩
theorem dP{l:Nat}{r:Loop}(o:Obj)(hb:w.heap[l]? =some (.loop r)):(setObj l o).run P w= .ok () {w with heap:=w.heap.setIfInBounds l o}:=by
 simp[setObj,Sem.run,hb]
theorem eL{l:Nat}{r:Loop}(hb:w.heap[l]? =some (.loop r)):(Instr.getLoop l).run P w= .ok r w:=by
 simp[Instr.getLoop,getObj,Sem.run,hb,Result.andThen]
end
def xZ(Q:eo->S->Prop)(pd:Option ke)(s:S):Prop:=
 match pd with
 |none=>Q .normal s
 |some .ret=>Q .ret s
 |some (.exit id)=>Q (.exit id) s
def qd(P:Program)(n:Nat)(g:V)(ps:List Nat)(iu fI:IC)(Q:eo->S->Prop)(s:S):Prop:=
 ∃env,(∀i,eV env i= .bO\/eV env i=s.env i)/\
  match g with
  | .func (.func f) first cap=>iX P f (first++[.gW s.nx]++cap) (cK s.o s.nx (.loop P.funcs.size n env ps iu fI .ready none)) (s.nx+1)
    (fun _ o' nx'=>∃nf m e p c d st pd,o' s.nx= .loop nf m e p c d st pd/\st≠ .busy/\xZ Q pd ⟨s.env,cK o' s.nx (.loop nf m e p c d .exhausted pd),nx'⟩)
    (fun v o' nx'=>Q (.aJ v) ⟨s.env,o',nx'⟩)
  |_=>False
def dR(P:Program)(n b:Nat)(rd:Bool):Code->(eo->S->Prop)->S->Prop
 | .skip,Q,s=>Q .normal s
 | .label _,Q,s=>Q .normal s
 | .scope x,Q,s=>dR P n b rd x Q s
 | .region _ ops false,Q,s=>ny P n ops (fun v s=>Q (.aJ v) s) (Q .normal) ops.toList s
 | .region id ops true,Q,s=>∀M a7 H0 w0 cx φ a w ro k,aQ M a7 H0 w0 n cx φ s a w->(Code.region id ops true).wpIn (bU ro) k P (qW M a7 H0 w0 n cx Q) a w
 | .seq x y,Q,s=>dR P n b rd x (jX (dR P n b rd y Q) Q) s
 | .cond c x y,Q,s=>match s.ev c with
   | .d (.bool t)=>(t=true->dR P n b rd x Q s)/\(t=false->dR P n b rd y Q s)
   | .cJ=>dR P n b rd x Q s/\dR P n b rd y Q s
   |_=>False
 | .block id x,Q,s=>dR P n b rd x (cR id Q) s
 | .loop x,Q,s=>∃ (J:Nat->S->Prop),(∃m s1,pP b s s1/\J m s1)/\∀m s0,J m s0->dR P n b rd x (fun e s=>match e with| .normal=>∃m' s1,m'<m/\pP b s s1/\J m' s1|e=>Q e s) s0
 | .exit id,Q,s=>Q (.exit id) s
 | .ret,Q,s=>Q .ret s
 | .rangeFunc g ps x y,Q,s=>rd=false/\qd P n (s.ev g) ps.toList (low n x) (low n y) Q s
 |_,_,_=>False
section
variable {P:Program}{M:Nat->Prop}{φ:Place}{H:Hp}{w w':World}{a7:Place}{H0:Hp}{w0:World}{n b:Nat}{s:S}{a:Act}{cx:Cx}{ro:Option Nat}{k:Nat}
theorem tH(hb:∀id,H0.us id->id<b)(hs:aQ M a7 H0 w0 n cx φ s a w){s':S}(h:pP b s s'):∃aj,aQ M a7 H0 w0 n cx aj s' a w:=by
 obtain⟨aj,h1,h2,h3,h4,h5,h6⟩:=h M φ w (fun i=>a.tmps.getD i undef) hs.heap hs.env
 refine⟨aj,h1,⟨hs.tr.aW,fun k hk=>hs.tr.grow k (h3 k hk),⟨fun id hu=>Nat.lt_of_lt_of_le (hb id hu) h4,fun id hu hr=> ?_,fun id e' hu he=> ?_⟩⟩,hs.size, ?_,h2⟩
 ·obtain⟨g1,g2⟩:=h5 id (hb id hu) hr
  obtain⟨g3,g4⟩:=hs.tr.rel.row id hu g1
  exact⟨g3,g2.trans g4⟩
 ·obtain⟨e,g1,g2,g3⟩:=h6 id e' (hb id hu) he
  obtain⟨e0,k1,k2,k3⟩:=hs.tr.rel.ep id e hu g1
  refine⟨e0,k1,Nat.le_trans k2 g2,fun heq=> ?_⟩
  have a1:e0=e:=by omega
  have a2:e=e':=by omega
  exact(g3 a2).trans (k3 a1)
 ·obtain⟨ms,g1,g2,g3,g4⟩:=hs.defers
  exact⟨ms,g1,g2,g3,fun r hr=>⟨(g4 r hr).1,(g4 r hr).2.1,fun hl=>(g4 r hr).2.2 (h3 r hl)⟩⟩
theorem nE{c:Code}{Q:Exit->Act->World->Prop}(J:Nat->Act->World->Prop)(round:∀m a w,J m a w->c.ly P ro (Exit.then (fun a' w'=>∃m',m'<m/\J m' a' w') Q) a w):
 ∀m a w,J m a w->(Code.loop c).ly P ro Q a w:=by
 intro m a w h0 fr kk cs lx hb
 have hr:(bU ro).room (cs.length+1+0):=fun d hd=>by simp[bU]at hd
 have key:∀m a w,J m a w->∃e a' w',Q e a' w'/\ArrivesIn (Machine.fenced P (bU ro)) P (lone (fr.atR a (.code c:: .inLoop c::kk)) cs w) fr kk cs e a' w':=by
  intro m
  induction m using Nat.strongRecOn with
  |_ m ih=>
   intro a w hJ
   obtain⟨e,a1,w1,hq,a6⟩:=round m a w hJ fr (.inLoop c::kk) cs lx hb
   cases e with
   |normal=>
    obtain⟨m',cm,Mo⟩:=hq
    obtain⟨e2,a2,w2,zD,qY⟩:=ih m' cm a1 w1 Mo
    exact⟨e2,a2,w2,zD, .of_steps (StepsIn.trans a6 (.one (fenced_calm trivial hr rfl) stepR_inLoop)) qY⟩
   |_=>exact⟨_,a1,w1,hq, .pass (x:= .inLoop c) rfl (fun _ _=> .inl (by simp)) a6⟩
 obtain⟨e,a',w',hq,a6⟩:=key m a w h0
 exact⟨e,a',w',hq, .of_steps (.one (fenced_calm trivial hr rfl) stepR_loop) a6⟩
theorem sc(hs:aQ M a7 H0 w0 n cx φ s a w)(gM:cx.rd=false)(lx:ro=none){g:Operand}{ps:Array Tmp}{x y:Code}{Q:eo->S->Prop}(h:qd P n (s.ev g) ps.toList (low n x) (low n y) Q s):
 (Code.rangeFunc g ps x y).ly P ro (qW M a7 H0 w0 n cx Q) a w:=by
 subst lx
 obtain⟨env,bK,h⟩:=h
 refine ml fun fn r9=> ?_
 let qe:Loop:={state:= .ready,pending:=none,fn:=fn,tmps:=a.tmps,params:=ps,assign:=x,body:=y,defers:=w.heap.size}
 let w1:World:=(w.alloc (.deferred (some []))).alloc (.loop qe)
 let l:Nat:=w.heap.size+1
 have fC:(Instr.enterLoop fn a.tmps ps x y (bU none).round).run P w= .ok (l,[mark w.heap.size]) w1:=by
  simp[Instr.enterLoop,bU,mark,w1,l,qe]
 have JQ:cw (fun _=>False) w w1:=by
  have k1:=bg w (.deferred (some []))
  have k2:=bg (w.alloc (.deferred (some []))) (.loop qe)
  exact⟨k2.os.trans k1.os,k2.tape.trans k1.tape,k2.output.trans k1.output,Nat.le_trans k1.size k2.size,fun j hj hm=>(k2.block j (Nat.lt_of_lt_of_le hj k1.size) hm).trans (k1.block j hj hm)⟩
 let dM:=cK φ s.nx (.pointer (some ⟨l,0,none⟩))
 let s1:S:=⟨s.env,cK s.o s.nx (.loop P.funcs.size n env ps.toList (low n x) (low n y) .ready none),s.nx+1⟩
 have cE: ¬s.H.us s.nx:=by simp[S.H]
 have dO:∀b,cF (.pointer (some ⟨l,0,none⟩))=some b->w.heap.size<=b/\b<w1.heap.size:=by
  intro b hb;simp[cF]at hb;subst hb;simp[l,w1]
 have pO:=cz (φ:=φ) (H:=s.H) JQ cE (.loop P.funcs.size n env ps.toList (low n x) (low n y) .ready none) (.pointer (some ⟨l,0,none⟩)) fun b hb=>(dO b hb).1
 have vl:(w.alloc (.deferred (some []))).heap.size=w.heap.size+1:=by simp
 have np:w1.heap[l]? =some (.loop qe):=by
  have:=heap_alloc_new (w.alloc (.deferred (some []))) (.loop qe)
  rwa [vl]at this
 have Mp:=eh hs.heap JQ cE (.loop P.funcs.size n env ps.toList (low n x) (low n y) .ready none) (.pointer (some ⟨l,0,none⟩)) dO (by
  unfold aw
  simp only[aE,ao,if_true]
  refine⟨l,qe,rfl,np,r9,rfl,rfl,rfl,hs.size,rfl,rfl,fun i=> ?_⟩
  rcases bK i with e|e
  ·rw[e];trivial
  ·rw[e];exact V.au pO _ _ (hs.env i))
 have mQ:aQ M a7 H0 w0 n cx dM s1 {a with defers:=mark w.heap.size::a.defers} w1:=by
  have base:=b7 hs Mp pO (o':=cK s.o s.nx (.loop P.funcs.size n env ps.toList (low n x) (low n y) .ready none)) (nx':=s.nx+1) rfl (tB fun id ai=>by simp at ai;exact .inr ai)
  refine⟨base.heap,base.tr,base.size, ?_,base.env⟩
  obtain⟨ms,g1,g2,g3,g4⟩:=base.defers
  obtain⟨GX,q1,q2,q3,q4⟩:=hs.defers
  have Mq:ms.map mark=GX.map mark:=by
   have:ms.map mark++cx.base=GX.map mark++cx.base:=g1.symm.trans q1
   exact List.append_cancel_right this
  have qf:ms=GX:=by
   have hm:∀a b,mark a=mark b->a=b:=fun a b h=>by simpa[mark]using h
   exact List.map_inj_right hm |>.1 Mq
  refine⟨w.heap.size::ms,by rw[g1];rfl,List.nodup_cons.2 ⟨fun hm=> ?_,g2⟩,(fun h=>by rw[gM]at h;cases h),fun r hr=> ?_⟩
  ·have:=(q4 w.heap.size (qf ▸ hm)).2.1
   rw[Array.getElem?_eq_none (Nat.le_refl _)]at this;cases this
  ·rcases List.mem_cons.1 hr with rfl|hr
   ·refine⟨hs.tr.aW.size,(RowKit.Below.heap_alloc (w.alloc (.deferred (some []))) (.loop qe) w.heap.size (by rw[vl];omega)).trans (heap_alloc_new w _), ?_⟩
    rintro⟨id,i1,i2⟩
    by_cases e:id=s.nx
    ·subst e;simp[dM,cF,l]at i2
    ·have Mr:(s.H.o id).live=true:=by simpa[s1,S.H,e]using i1
     have Ms:cF (φ id)=some w.heap.size:=by simpa[dM,e]using i2
     have:=(hs.heap.ours _ ⟨id,Mr,Ms⟩).2
     omega
   ·exact g4 r hr
 have GY:V.den (ad M dM s1.H) dM s1.H w1 (.gW s.nx) (.func (.yield l) #[] #[]):=
  ⟨rfl,by simp[s1,S.H],fun _=>⟨l,by simp[dM],rfl⟩⟩
 have hg:=fQ (M:=M) (φ:=dM) (H:=s1.H) (w:=w1) s1 {a with defers:=mark w.heap.size::a.defers} mQ.env g
 have GZ:s1.ev g=s.ev g:=by cases g<;>rfl
 rw[GZ]at hg
 have Mt:({a with defers:=mark w.heap.size::a.defers}:Act).eval g=a.eval g:=rfl
 rw[Mt]at hg
 split at h
 ·rename_i f first cap Mu
  rw[Mu]at hg
  obtain⟨fa,ca,xX,pY,A0⟩:=hg
  have fin:∀ (all:List V) (o2:Nat->ab) (s2:S),s2=⟨s.env,o2,s.nx+1⟩->aQ M a7 H0 w0 n cx dM s2 {a with defers:=mark w.heap.size::a.defers} w1->V.ak (ad M dM s2.H) dM s2.H w1 all (fa++#[Value.func (.yield l) #[] #[]]++ca).toList->(o2 s.nx).aN=true->
   jE P f all o2 (s.nx+1) (fun _ o' nx'=>∃nf m e p c d st pd,o' s.nx= .loop nf m e p c d st pd/\st≠ .busy/\xZ Q pd ⟨s.env,cK o' s.nx (.loop nf m e p c d .exhausted pd),nx'⟩) (fun v o' nx'=>Q (.aJ v) ⟨s.env,o',nx'⟩)->
   ∃ (l:Nat) (mark:List Deferred) (cS:World) (d:Deferred) (mO:World) (f:FuncId) (args:Array Value) (jF:World),
     (Instr.enterLoop fn a.tmps ps x y (bU none).round).run P w= .ok (l,mark) cS/\(resolve a.eval (rangeCall g l) 0).run P cS= .ok d mO/\
     (invoke d.target d.args).run P mO= .ok (.enter f args) jF/\CallsIn (bU none) 0 P f args jF (lz P l (qW M a7 H0 w0 n cx Q) {a with defers:=mark++a.defers}):=by
   intro all o2 s2 G0 u0 aT aM hC
   subst G0
   have cq:=hC.2 M dM w1 _ u0.heap aT
   refine⟨l,[mark w.heap.size],w1,{target:= .fn (.func f) ca,args:=fa++#[Value.func (.yield l) #[] #[]]},w1,f,fa++#[Value.func (.yield l) #[] #[]]++ca,w1,fC, ?_, ?_,bp (cq.mono fun e w' ⟨aj,o',nx',v,k1,k2,k3⟩=> ?_)⟩
   ·simp only[resolve,xX,Deferred.ofValue,List.map_toArray,List.map_cons,List.map_nil,Sem.run_pure]
    rfl
   ·simp[invoke,ff hC.1]
   ·cases e with
    |returned val=>
     obtain⟨k4,nf,m,e,p,c,d,st,pd,k5,k6,k7⟩:=k3
     have qZ:aQ M a7 H0 w0 n cx aj ⟨s.env,o',nx'⟩ {a with defers:=mark w.heap.size::a.defers} w':=b7 u0 k1 k2 rfl fun id hu=>hu
     have x3:aj s.nx= .pointer (some ⟨l,0,none⟩):=by
      have:=(k2.rel.row s.nx (show s.nx<s.nx+1 by omega) (by show(o' s.nx).aN=true;rw[k5];rfl)).2
      rw[this];simp[dM]
     have cm:s.nx<nx':=k2.rel.us s.nx (show s.nx<s.nx+1 by omega)
     obtain⟨r,r1,r2,r3,r4,r5⟩:=mP (st':= .exhausted) (pd':=pd) k1 cm (show(hp o' nx').o s.nx=_ from k5) x3
     have lA:(Instr.endLoop l).run P w'= .ok (pd.map ke.code) {w' with heap:=w'.heap.setIfInBounds l (.loop {r with state:= .exhausted,pending:=pd.map ke.code})}:=by
      have e1:({r with state:= .exhausted}:Loop)={r with state:= .exhausted,pending:=pd.map ke.code}:=by rw[<- r3]
      have Mv:(r.state==LoopState.busy)=false:=by rw[r2];cases st<;>first|rfl|exact absurd rfl k6
      simp only[Instr.endLoop,Sem.run_bind,eL r1,Result.andThen_ok,Mv,Bool.false_eq_true,if_false,Sem.run_pure]
      rw[dP _ r1,e1]
      simp[r3]
     have zE:=b7 qZ r4 r5 (o':=cK o' s.nx (.loop nf m e p c d .exhausted pd)) (nx':=nx') rfl fun id hu=>by
      simp only[bX]at hu
      rcases hu with hu|hu
      ·exact hu
      ·subst hu;exact cm
     refine⟨pd.map ke.code,_,lA, ?_⟩
     cases pd with
     |none=>exact⟨.normal,_,_,k7,zE,trivial⟩
     |some j=>
      cases j with
      |ret=>exact qX ⟨.ret,_,_,k7,zE,trivial⟩
      |exit id=>exact oZ ⟨.exit id,_,_,k7,zE,rfl⟩
    |panicked ch=>
     obtain⟨val,rfl,k4,k5⟩:=k3
     have qZ:aQ M a7 H0 w0 n cx aj ⟨s.env,o',nx'⟩ {a with defers:=mark w.heap.size::a.defers} w':=b7 u0 k1 k2 rfl fun id hu=>hu
     exact⟨.aJ v,_,_,k5,qZ,val,rfl,k4⟩
    |outgrown=>exact k3.elim
  have fY:V.ak (ad M dM s1.H) dM s1.H w1 (first++[V.gW s.nx]++cap) (fa++#[Value.func (.yield l) #[] #[]]++ca).toList:=by
   rw[Array.toList_append,Array.toList_append]
   exact V.fB pY ⟨_,[],rfl,GY,rfl⟩ A0
  rcases h with hC|hC
  ·exact fin _ _ s1 rfl mQ fY (by simp;rfl) hC
  ·have kI:s1.o=cK s.o s.nx (.loop P.funcs.size n env ps.toList (low n x) (low n y) .ready none):=rfl
   obtain⟨f1,f2,f3,f4,f5⟩:=bN mQ.heap (br s1.o (first++[V.gW s.nx]++cap)) (dm _ _ s1.o fY)
   have ft:s1.H.put (bH s1.H.o (br s1.o (first++[V.gW s.nx]++cap)))=hp (put s1.o (bH s1.o (br s1.o (first++[V.gW s.nx]++cap)))) s1.nx:=fe (by rw[gH];exact dm _ _ s1.o fY)
   have wV:=tE f1 _ _ f3 (V.ax f2 _ _ fY)
   have wW:((s1.H.put (bH s1.H.o (br s1.o (first++[V.gW s.nx]++cap)))).o s.nx).aN=true:=by
    by_cases hm:s.nx∈br s1.o (first++[V.gW s.nx]++cap)
    ·rw[f3 _ hm];simp[s1,S.H,ab.fz,ab.aN]
    ·rw[f4 _ hm];simp[s1,S.H,ab.aN]
   rw[ft]at f1 f2 wV wW
   exact fin _ (put s1.o (bH s1.o (br s1.o (first++[V.gW s.nx]++cap)))) ⟨s.env,_,s.nx+1⟩ rfl (b7 mQ f1 f2 rfl fun id hu=>hu) wV wW hC
 ·exact h.elim
end
end Go.Proofs.YtpkobkdgcanmjaaGreat
namespace Go.Proofs.YtpkobkdgcanmjaaGreat
section
variable {P:Program}{M:Nat->Prop}{φ:Place}{H:Hp}{w w':World}{a7:Place}{H0:Hp}{w0:World}{n b:Nat}{s:S}{a:Act}{cx:Cx}{ro:Option Nat}{k:Nat}
theorem dz(hb:∀id,H0.us id->id<b)(lx:cx.rd=false->ro=none):∀ (c:Code) (Q:eo->S->Prop) (s:S) (φ:Place) (a:Act) (w:World),dR P n b cx.rd c Q s->aQ M a7 H0 w0 n cx φ s a w->c.ly P ro (qW M a7 H0 w0 n cx Q) a w:=by
 intro c
 induction c with
 |skip=>exact fun Q s φ a w h hs=>hZ (k:=0) (wpIn_skip ⟨.normal,s,φ,h,hs,trivial⟩)
 |scope x ih=>exact fun Q s φ a w h hs=>sb (ih Q s φ a w h hs) (fun l a w ⟨xx,s',aj,hq,eP,hm⟩=>by cases xx<;>exact hm)
 |label l=>exact fun Q s φ a w h hs=>hZ (k:=0) (wpIn_label ⟨.normal,s,φ,h,hs,trivial⟩)
 |exit id=>exact fun Q s φ a w h hs=>oZ ⟨.exit id,s,φ,h,hs,rfl⟩
 |ret=>exact fun Q s φ a w h hs=>qX ⟨.ret,s,φ,h,hs,trivial⟩
 |goto l=>exact fun Q s φ a w h hs=>h.elim
 |refuse y=>exact fun Q s φ a w h hs=>h.elim
 |rangeFunc g ps x y=>exact fun Q s φ a w h hs=>sc hs h.1 (lx h.1) h.2
 |region id ops draw=>
  intro Q s φ a w h hs
  cases draw with
  |true=>exact hZ (h M a7 H0 w0 cx φ a w ro 0 hs)
  |false=>
   refine hZ (k:=0) (wpIn_region_list (hY (K:=Q .normal) (X:=fun v s=>Q (.aJ v) s) (fun s φ a w hk hs=>⟨.normal,s,φ,hk,hs,trivial⟩) (fun v s φ a w val hx hs hd=>⟨.aJ v,s,φ,hx,hs,val,rfl,hd⟩) _ s φ a w h hs))
 |seq x y vw vx=>
  intro Q s φ a w h hs
  refine nD (dp (vw _ s φ a w h hs) ?_)
  rintro e a' w' ⟨xx,s',aj,hq,eP,hm⟩
  cases e<;>cases xx<;>first|(exact hm.elim)|skip
  ·exact vx Q s' aj a' w' hq eP
  ·subst hm;exact⟨_,s',aj,hq,eP,rfl⟩
  ·exact⟨.ret,s',aj,hq,eP,trivial⟩
  ·exact⟨.aJ _,s',aj,hq,eP,hm⟩
 |cond c x y vw vx=>
  intro Q s φ a w h hs
  simp only[dR]at h
  have hc:=fQ (M:=M) (φ:=φ) (H:=s.H) (w:=w) s a hs.env c
  split at h
  ·rename_i t hv
   rw[hv]at hc
   simp only[V.den,D.den]at hc
   cases t with
   |true=>exact jc hc (vw Q s φ a w (h.1 rfl) hs)
   |false=>exact jc hc (vx Q s φ a w (h.2 rfl) hs)
  ·rename_i hv
   rw[hv]at hc
   obtain⟨t,hc⟩:=hc
   cases t with
   |true=>exact jc hc (vw Q s φ a w h.1 hs)
   |false=>exact jc hc (vx Q s φ a w h.2 hs)
  ·exact h.elim
 |block id x ih=>
  intro Q s φ a w h hs
  refine sa (dp (ih _ s φ a w h hs) ?_)
  rintro e a' w' ⟨xx,s',aj,hq,eP,hm⟩
  cases e<;>cases xx<;>first|(exact hm.elim)|skip
  ·exact⟨.normal,s',aj,hq,eP,trivial⟩
  ·subst hm
   simp only[Exit.inBlock]
   simp only[cR]at hq
   split
   ·rename_i he;rw[if_pos he]at hq;exact⟨.normal,s',aj,hq,eP,trivial⟩
   ·rename_i he;rw[if_neg he]at hq;exact⟨.exit _,s',aj,hq,eP,rfl⟩
  ·exact⟨.ret,s',aj,hq,eP,trivial⟩
  ·exact⟨.aJ _,s',aj,hq,eP,hm⟩
 |loop x ih=>
  intro Q s φ a w h hs
  obtain⟨J,⟨m0,s1,hle,hI⟩,x4⟩:=h
  obtain⟨dM,mQ⟩:=tH hb hs hle
  refine nE (fun m a w=>∃s φ,J m s/\aQ M a7 H0 w0 n cx φ s a w) ?_ m0 a w ⟨s1,dM,hI,mQ⟩
  rintro m a w ⟨s,φ,hI,hs⟩
  refine dp (ih _ s φ a w (x4 m s hI) hs) ?_
  rintro e a' w' ⟨xx,s',aj,hq,eP,hm⟩
  cases e<;>cases xx<;>first|(exact hm.elim)|skip
  ·obtain⟨m2,s2,cm,G1,Mw⟩:=hq
   obtain⟨sd,u0⟩:=tH hb eP G1
   exact⟨m2,cm,s2,sd,Mw,u0⟩
  ·subst hm;exact⟨_,s',aj,hq,eP,rfl⟩
  ·exact⟨.ret,s',aj,hq,eP,trivial⟩
  ·exact⟨.aJ _,s',aj,hq,eP,hm⟩
def tI(tmps:Array Value)(r:ResultVar):Sem Value:=
 match r with
 | .tmp t=>pure (tmps.getD t undef)
 | .cell p t=>do loadVar t (<- asAddr (tmps.getD p undef))
theorem kK(jd:af M φ s.H w)(bK:∀i,V.den (ad M φ s.H) φ s.H w (s.env i) (a.tmps.getD i undef)):∀ (rs:List ResultVar) (vs:List V),fy P s rs=some vs->
 ∃vals,(rs.mapM (tI a.tmps)).run P w= .ok vals w/\V.ak (ad M φ s.H) φ s.H w vs vals
 |[],vs,h=>by simp[fy]at h;subst h;exact⟨[],by simp,rfl⟩
 | .tmp t::rs,vs,h=>by
   simp only[fy,Option.map_eq_some_iff]at h
   obtain⟨us,h1,rfl⟩:=h
   obtain⟨vals,h2,h3⟩:=kK jd bK rs us h1
   exact⟨a.tmps.getD t undef::vals,by simp only[List.mapM_cons,tI,Sem.run_bind,Sem.run_pure,Result.andThen_ok,h2],_,_,rfl,bK t,h3⟩
 | .cell p t::rs,vs,h=>by
   simp only[fy]at h
   split at h
   ·rename_i id off hv
    split at h
    ·rename_i cs ho
     simp only[Option.bind_eq_some_iff,Option.map_eq_some_iff]at h
     obtain⟨v,h0,us,h1,rfl⟩:=h
     obtain⟨vals,h2,h3⟩:=kK jd bK rs us h1
     have hx:=bK p
     rw[hv]at hx
     obtain⟨_,hu,hp⟩:=hx
     obtain⟨k,bJ,dO⟩:=hp (by show(s.o id).aN=true;rw[ho];rfl)
     have aI:=jd.ok id
     have o3:s.H.o id= .row cs:=ho
     simp only[aw,o3]at aI
     obtain⟨b',cd,ty,g1,g2,g3,g4⟩:=aI
     rw[bJ]at g1;simp at g1;subst g1
     obtain⟨val,h4,h5⟩:=iK (P:=P) h0 ⟨k,0,none⟩ cd.toList g3 g4 (fun j u hj=>iL g2 j u (by simpa using hj)) rfl
     rw[add_plain,Nat.zero_add]at h4
     have h6:(loadVar t ⟨k,off,none⟩).run P w= .ok val w:=by simpa[Instr.loadAt,Instr.sureAddr]using h4
     exact⟨val::vals,by simp only[List.mapM_cons,tI,dO,asAddr,Sem.run_bind,Sem.run_pure,Result.andThen_ok,h6,h2],val,vals,rfl,h5,h3⟩
    ·cases h
   ·cases h
theorem fZ{fn:Func}{tmps:Array Value}{vals:List Value}
 (h:(fn.results.toList.mapM (tI tmps)).run P w= .ok vals w):
 (results fn tmps).run P w= .ok (if h:vals.toArray.size=1 then vals.toArray[0]else .tuple vals.toArray) w:=by
 have e:results fn tmps=(do let vs <- fn.results.mapM (tI tmps);pure (if h:vs.size=1 then vs[0]else .tuple vs)):=by
  unfold results
  congr 2
 rw[e,Array.mapM_eq_mapM_toList]
 simp only[Sem.run_bind,Sem.run_map,h,Result.andThen_ok,Sem.run_pure]
theorem gI{us:Nat->Prop}(φ:Place)(hM:∀k,M k->k<w.heap.size):af M φ ⟨fun _=> .no,us⟩ w where
 ok id:=by simp[aw]
 fresh _ _:=rfl
 apart i j k hi:=by simp[ab.live]at hi
 ours k:=by rintro⟨id,h,_⟩;simp[ab.live]at h
 om:=hM
theorem se{vals:Array Value}{m i:Nat}:(vals++Array.replicate m undef).getD i undef=(vals[i]?).getD undef:=by
 simp only[Array.getD_eq_getD_getElem?,Array.getElem?_append]
 split
 ·rfl
 ·rw[Array.getElem?_eq_none (xs:=vals) (by omega)]
  simp only[Array.getElem?_replicate]
  split<;>rfl
structure nF (M:Nat->Prop) (a7:Place) (H0:Hp) (w0:World) (φ:Place) (s:S) (tmps:Array Value) (w:World):Prop where
 heap:af M φ s.H w
 tr:Trans a7 H0 w0 φ s.H w
 env:∀i,V.den (ad M φ s.H) φ s.H w (s.env i) (tmps.getD i undef)
theorem sf{tmps:Array Value}(hs:nF M a7 H0 w0 φ s tmps w){r:Nat}(h1:w0.heap.size<=r)(h2:w.heap[r]? =some (.deferred (some [])))(h3: ¬bf φ s.H r):
 nF M a7 H0 w0 φ s tmps {w with heap:=w.heap.setIfInBounds r (.deferred none)}:=by
 have iO:∀b,b≠r->(w.heap.setIfInBounds r (.deferred none))[b]? =w.heap[b]? :=fun b hb=>(MapKept.heap_set h2).2 b hb
 have og:∀b,aU w b-> ¬ad M φ s.H b->(w.heap.setIfInBounds r (.deferred none))[b]? =w.heap[b]? /\ ¬ad M φ s.H b:=by
  intro b hc hn
  refine⟨iO b fun e=> ?_,hn⟩
  subst e
  rcases hc with⟨cs,ty,fz,hc⟩|⟨es,clock,hc⟩
  ·rw[h2]at hc;cases hc
  ·rw[h2]at hc;cases hc
 refine⟨⟨fun id=> ?_,hs.heap.fresh,hs.heap.apart,fun b hb=>⟨(hs.heap.ours b hb).1,by simpa using(hs.heap.ours b hb).2⟩,fun b hb=>by simpa using hs.heap.om b hb⟩,⟨⟨hs.tr.aW.os,hs.tr.aW.tape,hs.tr.aW.output,by simpa using hs.tr.aW.size,fun j hj hm=> ?_⟩,hs.tr.grow,hs.tr.rel⟩,fun i=>V.eX og (bV.refl _ _) _ _ (hs.env i)⟩
 ·exact aw.ov og (bV.refl _ _) rfl rfl (fun hl b hb=>iO b fun e=>h3 ⟨id,hl,e ▸ hb⟩) (hs.heap.ok id)
 ·rw[iO j (by omega)];exact hs.tr.aW.block j hj hm
theorem dq{fn:Func}{R:Ending->World->Prop}{u:FrameMode}(hu:u≠ .run){tmps tb:Array Value}{ds:List Deferred}(hR:∀w,nF M a7 H0 w0 φ s tb w->LeavesInM (bU none) k P fn tmps R ds u w):
 ∀ (ms:List Nat) (w:World),ms.Nodup->(∀r∈ms,w0.heap.size<=r/\w.heap[r]? =some (.deferred (some []))/\ ¬bf φ s.H r)->nF M a7 H0 w0 φ s tb w->LeavesInM (bU none) k P fn tmps R (ms.map mark++ds) u w
 |[],w,_,_,hs=>hR w hs
 |r::ms,w,hn,hm,hs=>by
  obtain⟨h1,h2,h3⟩:=hm r (by simp)
  obtain⟨Mx,My⟩:=List.nodup_cons.1 hn
  refine⟨hu, .inl ⟨r,{w with heap:=w.heap.setIfInBounds r (.deferred none)},rfl, ?_,dq hu hR ms _ My (fun r' tl=> ?_) (sf hs h1 h2 h3)⟩⟩
  ·simp[Instr.takeDeferred,getObj,setObj,Sem.run,h2,Result.andThen]
  ·obtain⟨g1,g2,g3⟩:=hm r' (by simp[tl])
   exact⟨g1,((MapKept.heap_set h2).2 r' (fun e=>Mx (e ▸ tl))).trans g2,g3⟩
theorem aQ.JR (hs:aQ M a7 H0 w0 n cx φ s a w):nF M a7 H0 w0 φ s a.tmps w:=⟨hs.heap,hs.tr,hs.env⟩
def fD(P:Program)(rs:List ResultVar)(K X:V->(Nat->ab)->Nat->Prop)(e:eo)(s:S):Prop:=
 match e with
 | .normal| .ret=>match fy P s rs with
   |some [v]=>K v s.o s.nx
   |some vs=>K (.a8 vs) s.o s.nx
   |none=>False
 | .aJ v=>X v s.o s.nx
 | .exit _=>False
theorem o4{P:Program}{rs:List ResultVar}{K X:V->(Nat->ab)->Nat->Prop}{s:S}(h:fD P rs K X .ret s):∃vs,fy P s rs=some vs/\K (match vs with|[v]=>v|vs=> .a8 vs) s.o s.nx:=by
 unfold fD at h
 simp only at h
 split at h
 ·rename_i v h1;exact⟨[v],h1,h⟩
 ·rename_i vs h1 h2
  refine⟨vs,h2, ?_⟩
  split
  ·exact absurd rfl (h1 _)
  ·exact h
 ·exact h.elim
theorem o6:∀ {vs:List V} {vals:List Value},V.ak (ad M φ H) φ H w vs vals->V.den (ad M φ H) φ H w (match vs with|[v]=>v|vs=> .a8 vs) (if h:vals.toArray.size=1 then vals.toArray[0]else .tuple vals.toArray)
 |[],vals,h=>by simp only[V.ak]at h;subst h;exact⟨#[],rfl,rfl⟩
 |[v],vals,h=>by obtain⟨u,us,rfl,h1,h2⟩:=h;simp only[V.ak]at h2;subst h2;exact h1
 |v::y::l,vals,h=>by
  have h':=h
  obtain⟨u,us,rfl,h1,u2,us2,rfl,h2⟩:=h
  exact⟨(u::u2::us2).toArray,by simp,by simpa using h'⟩
theorem lB{vals:Array Value}{m:Nat}{vs:List V}(hd:V.ak (ad M φ H) φ H w vs vals.toList)(i:Nat):V.den (ad M φ H) φ H w (bt vs i) ((vals++Array.replicate m undef).getD i undef):=by
 have hlen:=V.ah _ _ hd
 simp only[bt,se]
 cases hx:vs[i]? with
 |none=>
  have:vals[i]? =none:=by
   rw[List.getElem?_eq_none_iff]at hx
   apply Array.getElem?_eq_none
   simp at hlen;omega
  simp only[List.getD_eq_getElem?_getD,hx,this]
  exact⟨#[],rfl,rfl⟩
 |some v=>
  obtain⟨u,hu,vb⟩:=V.b4 _ _ _ _ hd hx
  have nn:vals[i]? =some u:=by simpa using hu
  simp only[List.getD_eq_getElem?_getD,hx,nn,Option.getD_some]
  exact vb
theorem ga{f:FuncId}{fn:Func}{c:Code}{args:Array Value}{w:World}{R:Ending->World->Prop}(hf:P.funcs[f]? =some fn)(hb:fn.body=some c)
 (h:c.ly P none (bodyPostM (bU none) k P fn R) {tmps:=args++Array.replicate (fn.ntmps - args.size) undef,defers:=[]} w):CallsIn (bU none) k P f args w R:=by
 have cm:f<P.funcs.size:=(Array.getElem?_eq_some_iff.1 hf).1
 refine⟨trivial,fun cs hr=> ?_⟩
 let b:Frame:={(default:Frame)with fn:=f,kind:= .normal,roundOf:=none}
 have fC:Frame.enter P f args .normal=b.atR {tmps:=args++Array.replicate (fn.ntmps - args.size) undef,defers:=[]} [.code c]:=by
  simp[Frame.enter,Frame.atR,hf,hb,b]
 obtain⟨e,a',w',hq,a6⟩:=h b [] cs rfl cm
 rw[<- fC]at a6
 cases e with
 |normal=>
  obtain⟨e',wB,A2,hR,hs,r9,hl⟩:=leaves_stepsInM a'.defers .returning w' {b.atR a' []with mode:= .returning} cs rfl rfl rfl hf rfl (trivial:(bU none).fn f) hr hq
  exact⟨e',wB,A2,hR,ComesIn.of_steps (StepsIn.trans a6 (.one (fenced_calm (n:=0) (fr:=b.atR a' []) trivial dn rfl) (stepR_end rfl))) hs,r9,hl⟩
 |ret=>
  obtain⟨todo,tJ⟩:=a6.1 rfl
  obtain⟨e',wB,A2,hR,hs,r9,hl⟩:=leaves_stepsInM a'.defers .returning w' {b.atR a' todo with mode:= .returning} cs rfl rfl rfl hf rfl (trivial:(bU none).fn f) hr hq
  exact⟨e',wB,A2,hR,ComesIn.of_steps tJ hs,r9,hl⟩
 |panic chain=>
  obtain⟨todo,tJ⟩:=a6
  obtain⟨e',wB,A2,hR,hs,r9,hl⟩:=leaves_stepsInM a'.defers (.panicking chain) w' {b.atR a' todo with mode:= .panicking chain} cs rfl rfl rfl hf rfl (trivial:(bU none).fn f) hr hq
  exact⟨e',wB,A2,hR,ComesIn.of_steps tJ hs,r9,hl⟩
 |exit id=>exact hq.elim
 |goto l=>exact hq.elim
 |outgrown=>exact⟨.outgrown,w',b,hq,a6.resolve_left (by simp[b]),rfl,trivial⟩
def qg(P:Program)(l:Nat)(R:Ending->World->Prop):Exit->Act->World->Prop
 | .normal,_,w=>∃v w',(Instr.endRound l none).run P w= .ok v w'/\R (.returned v) w'
 | .ret,_,w=>∃v w',(Instr.endRound l (some .ret)).run P w= .ok v w'/\R (.returned v) w'
 | .exit id,_,w=>∃v w',(Instr.endRound l (some (.exit id))).run P w= .ok v w'/\R (.returned v) w'
 | .goto _,_,_=>False
 | .panic chain,a,w=>a.defers=[]/\R (.panicked chain) w
 | .outgrown,_,_=>False
theorem lC{l:Nat}{f:FuncId}{tmps:Array Value}{assign body:Code}{w:World}{R:Ending->World->Prop}(hf:f<P.funcs.size)
 (h:assign.ly P (some l) (Exit.then (fun dV cS=>∃jF,(Instr.beginRound l).run P cS= .ok () jF/\body.ly P (some l) (qg P l R) dV jF) (fun e a w=>match e with| .panic chain=>a.defers=[]/\R (.panicked chain) w|_=>False))
  {tmps:=tmps,defers:=[]} w):
 RoundIn Fence.wide n P l f tmps assign body w R:=by
 refine⟨trivial,fun c cs hr=> ?_⟩
 let b:Frame:={(default:Frame)with fn:=f,kind:= .normal,roundOf:=some l}
 have A3:Frame.round l f tmps assign body .normal=b.atR {tmps:=tmps,defers:=[]} [.code assign, .beginRound, .code body]:=by
  simp[Frame.round,Frame.atR,b]
 have calm:∀ (m:Machine),m.fenced P Fence.wide:=fun m=>fenced_wide P m
 have aJ:∀ {a:Act} {w:World} {todo:List Item} {chain:List PanicEntry},a.defers=[]->step P (lone {b.atR a todo with mode:= .panicking chain} (c::cs) w)= .next (lone (c.raise chain) cs w):=by
  intro a w todo chain hd
  exact step_leave_panicked (fr:={b.atR a todo with mode:= .panicking chain}) ⟨rfl,hd,P.funcs[f],by show P.funcs[f]? =_;simp[hf]⟩
 obtain⟨e,dV,cS,hq,a6⟩:=h b [.beginRound, .code body] (c::cs) rfl hf
 rw[<- A3]at a6
 cases e with
 |normal=>
  obtain⟨jF,Mz,je⟩:=hq
  have s1:StepsIn (Machine.fenced P Fence.wide) P (lone (b.atR dV [.beginRound, .code body]) (c::cs) cS) (lone (b.atR dV [.code body]) (c::cs) jF):= .one (calm _) (stepR_beginRound rfl Mz)
  obtain⟨xY,A1,qb,jb,eK⟩:=je b [] (c::cs) rfl hf
  have a6:StepsIn (Machine.fenced P Fence.wide) P _ _:=a6
  cases xY with
  |normal=>
   obtain⟨v,ku,lA,hR⟩:=jb
   have eK:StepsIn (Machine.fenced P Fence.wide) P _ _:=eK
   exact⟨.returned v,ku,hR,(StepsIn.trans a6 s1).trans (StepsIn.trans eK (.one (calm _) (stepR_round_end rfl rfl lA)))⟩
  |ret=>
   obtain⟨v,ku,lA,hR⟩:=jb
   obtain⟨k₁,hs⟩:=eK.2 rfl
   have hs:StepsIn (Machine.fenced P Fence.wide) P _ _:=hs
   exact⟨.returned v,ku,hR,(StepsIn.trans a6 s1).trans (StepsIn.trans hs (.one (calm _) (stepR_round_ret rfl rfl lA)))⟩
  |exit id=>
   obtain⟨v,ku,lA,hR⟩:=jb
   obtain⟨k₁,hk,hs⟩:=eK.2 rfl rfl
   have hs:StepsIn (Machine.fenced P Fence.wide) P _ _:=hs
   exact⟨.returned v,ku,hR,(StepsIn.trans a6 s1).trans (StepsIn.trans hs (.one (calm _) (stepR_round_exit rfl rfl hk lA)))⟩
  |goto t=>exact jb.elim
  |panic chain=>
   obtain⟨todo,hs⟩:=eK
   have hs:StepsIn (Machine.fenced P Fence.wide) P _ _:=hs
   exact⟨.panicked chain,qb,jb.2,(StepsIn.trans a6 s1).trans (StepsIn.trans hs (.one (calm _) (aJ jb.1)))⟩
  |outgrown=>exact jb.elim
 |exit id=>exact hq.elim
 |goto t=>exact hq.elim
 |ret=>exact hq.elim
 |panic chain=>
  obtain⟨todo,hs⟩:=a6
  have hs:StepsIn (Machine.fenced P Fence.wide) P _ _:=hs
  exact⟨.panicked chain,cS,hq.2,StepsIn.trans hs (.one (calm _) (aJ hq.1))⟩
 |outgrown=>exact hq.elim
theorem jE.q0 {f:FuncId}{fn:Func}{c:Code}{args:List V}{o:Nat->ab}{nx:Nat}{K X:V->(Nat->ab)->Nat->Prop}(hf:P.funcs[f]? =some fn)(hn:(fn.name== "runtime.NumGoroutine")=false)(je:fn.body=some c)(hl:args.length<=fn.ntmps)
 (h:dR P fn.ntmps nx false c (fD P fn.results.toList K X) ⟨bt args,o,nx⟩):jE P f args o nx K X:=by
 refine⟨⟨fn,hf,hn,by rw[je];rfl⟩,fun M φ w vals hH hd=> ?_⟩
 have hlen:=V.ah _ _ hd
 let s0:S:=⟨bt args,o,nx⟩
 let a0:Act:={tmps:=vals++Array.replicate (fn.ntmps - vals.size) undef,defers:=[]}
 have vy:aQ M φ (hp o nx) w fn.ntmps ⟨[],false⟩ φ s0 a0 w:=by
  refine⟨hH,Trans.refl _ _ _, ?_,⟨[],rfl,List.nodup_nil,fun _=>rfl,fun r hr=>by cases hr⟩,lB hd⟩
  simp only[a0,Array.size_append,Array.size_replicate];simp at hlen;omega
 refine oV (ro:=none) (k:=0) (ga hf je (dp (dz (P:=P) (H0:=hp o nx) (b:=nx) (cx:=⟨[],false⟩) (ro:=none) (fun id hu=>hu) (fun _=>rfl) c _ s0 φ a0 w h vy) ?_))
 rintro e a w' ⟨x,s,aj,hq,hs,hm⟩
 obtain⟨ms,g1,g2,g3,g4⟩:=hs.defers
 rw[List.append_nil]at g1
 have done:(x= .normal\/x= .ret)->LeavesInM (bU none) 0 P fn a.tmps (fU M φ (hp o nx) w K X) a.defers .returning w':=by
  intro hx
  have MA:fD P fn.results.toList K X .ret s:=by rcases hx with rfl|rfl<;>exact hq
  obtain⟨vs,h1,h2⟩:=o4 MA
  rw[g1]
  have:=dq (P:=P) (k:=0) (fn:=fn) (R:=fU M φ (hp o nx) w K X) (u:= .returning) (by simp) (ds:=[]) (fun w2 hb=>by
   obtain⟨vals,h3,h4⟩:=kK (P:=P) (a:=a) hb.heap hb.env _ _ h1
   exact⟨_,fZ h3,aj,s.o,s.nx,_,hb.heap,hb.tr,o6 h4,h2⟩) ms w' g2 g4 hs.JR
  rwa [List.append_nil]at this
 cases e<;>cases x<;>first|(exact hm.elim)|skip
 ·exact done (.inl rfl)
 ·exact hq.elim
 ·exact done (.inr rfl)
 ·rename_i v
  obtain⟨val,rfl,G2⟩:=hm
  show LeavesInM (bU none) 0 P fn a.tmps (fU M φ (hp o nx) w K X) a.defers _ w'
  rw[g1]
  have A3:nF M φ (hp o nx) w aj ⟨fun i=>if i=0 then v else .bO,s.o,s.nx⟩ #[val] w':=⟨hs.heap,hs.tr,fun i=>by
   by_cases hi:i=0
   ·subst hi;exact G2
   ·simp only[hi,if_false];trivial⟩
  have:=dq (P:=P) (k:=0) (fn:=fn) (s:=⟨fun i=>if i=0 then v else .bO,s.o,s.nx⟩) (tmps:=a.tmps) (tb:=#[val]) (a7:=φ) (H0:=hp o nx) (w0:=w) (R:=fU M φ (hp o nx) w K X) (u:= .panicking [{v:=val,recovered:=false}]) (by simp) (ds:=[]) (fun w2 hb=>by
   have h0:=hb.env 0
   exact⟨aj,s.o,s.nx,v,hb.heap,hb.tr,val,rfl,h0,hq⟩) ms w' g2 g4 A3
  rwa [List.append_nil]at this
theorem dN.ib {f:FuncId}{ds:List D}{out:R}(h:jE P f (ds.map .d) (fun _=> .no) 0 (fun v o _=>∃vs rs,v=(match vs with|[v]=>v|vs=> .a8 vs)/\aR o vs=some rs/\out= .ret rs) (fun v o _=>∃x,cD o v=some x/\out= .aJ x)):dN P f ds out:=by
 refine⟨h.1,fun M w vals hM hd=> ?_⟩
 let a7:Place:=fun _=> .nilFunc
 have nG:∀b, ¬bf a7 (hp (fun _=> .no) 0) b:=by rintro b ⟨id,hl,_⟩;simp[hp,ab.live]at hl
 refine(h.2 M a7 w vals (gI a7 hM) ((V.aX _ _).2 (D.ax (w:=w) (w':=w) (B:=M) (fun b _ hB=>⟨rfl,fun h=>h.elim hB (nG b)⟩) _ _ hd))).mono ?_
 rintro e w' ⟨aj,o',nx',v,k1,k2,k3⟩
 have A4:cw (fun _=>False) w w':=⟨k2.aW.os,k2.aW.tape,k2.aW.output,k2.aW.size,fun k hk _=>k2.aW.block k hk (nG k)⟩
 have fin:∀ (vs:List V) (xs:List D) (vals:List Value),aR o' vs=some xs->V.ak (ad M aj (hp o' nx')) aj (hp o' nx') w' vs vals->D.ak M w' xs vals:=by
  intro vs xs vals h1 h2
  obtain⟨f1,f2,f3,f4,f5⟩:=bN k1 (V.aA vs) (aY vs _ h2)
  have h3:=bD f1 vs xs vals f3 h1 (V.ax f2 _ _ h2)
  exact D.ax (w:=w') (w':=w') (fun k _ hB=>⟨rfl,fun hM=>hB (.inl hM)⟩) xs vals h3
 refine⟨A4, ?_⟩
 cases e with
 |outgrown=>exact k3.elim
 |panicked ch=>
  obtain⟨val,rfl,g1,x,g2,rfl⟩:=k3
  have:=fin [v] [x] [val] (by simp[aR,g2]) ⟨val,[],rfl,g1,rfl⟩
  obtain⟨u,us,he,h2,_⟩:=this
  simp at he;obtain⟨rfl,rfl⟩:=he
  exact⟨val,rfl,h2⟩
 |returned val=>
  obtain⟨g1,vs,rs,rfl,g2,rfl⟩:=k3
  match vs,g1,g2 with
  |[],g1,g2=>
   obtain⟨arr,rfl,hv⟩:=g1
   simp only[aR,Option.some.injEq]at g2;subst g2
   exact⟨arr,rfl,hv⟩
  |[v],g1,g2=>
   have:=fin [v] rs [val] g2 ⟨val,[],rfl,g1,rfl⟩
   cases rs with
   |nil=>cases this
   |cons x l=>
    obtain⟨u,us,he,h2,h3⟩:=this
    simp at he;obtain⟨rfl,rfl⟩:=he
    cases l with
    |nil=>exact h2
    |cons y l=>obtain⟨_,_,h,_⟩:=h3;cases h
  |v::v2::l,g1,g2=>
   obtain⟨arr,rfl,h⟩:=g1
   have:=fin (v::v2::l) rs arr.toList g2 h
   have hl:=D.ah _ _ this
   have A5:=V.ah _ _ h
   match rs,hl,this with
   |[],hl,_=>rw[A5]at hl;simp at hl
   |[x],hl,_=>rw[A5]at hl;simp at hl
   |x::y::l,_,this=>exact⟨arr,rfl,this⟩
theorem si{rs:List ResultVar}{out:R}(e:eo)(s:S)(h:rZ P rs out e s):
 fD P rs (fun v o _=>∃vs rs,v=(match vs with|[v]=>v|vs=> .a8 vs)/\aR o vs=some rs/\out= .ret rs) (fun v o _=>∃x,cD o v=some x/\out= .aJ x) e s:=by
 have ret:rZ P rs out .ret s->fD P rs (fun v o _=>∃vs rs,v=(match vs with|[v]=>v|vs=> .a8 vs)/\aR o vs=some rs/\out= .ret rs) (fun v o _=>∃x,cD o v=some x/\out= .aJ x) .ret s:=by
  intro h
  obtain⟨vs,xs,h1,h2,h3⟩:=tu h
  simp only[fD,h1]
  match vs,h2 with
  |[],h2=>exact⟨[],xs,rfl,h2,h3⟩
  |[v],h2=>exact⟨[v],xs,rfl,h2,h3⟩
  |v::v2::l,h2=>exact⟨v::v2::l,xs,rfl,h2,h3⟩
 cases e with
 |normal=>exact ret h
 |ret=>exact ret h
 |exit id=>exact h.elim
 |aJ v=>exact tv h
end
end Go.Proofs.YtpkobkdgcanmjaaGreat
namespace Go.Proofs.YtpkobkdgcanmjaaGreat
def tK{α:Type}(c:Bool)(x:α):Option α:=if c=true then some x else none
def one(v:V):Option dH:=some (v,[],[])
def o7(op:BinOp)(k:IntKind)(a b:Int):Option V:=
 match op with
 | .add=>some (.d (.int k (k.wrap (a+b))))
 | .sub=>some (.d (.int k (k.wrap (a - b))))
 | .mul=>some (.d (.int k (k.wrap (a*b))))
 | .quo=>if b=0 then none else some (.d (.int k (k.wrap (a.tdiv b))))
 | .rem=>if b=0 then none else some (.d (.int k (a.tmod b)))
 | .and=>(kT .and k a b).map fun r=> .d (.int k r)
 | .or=>(kT .or k a b).map fun r=> .d (.int k r)
 | .xor=>(kT .xor k a b).map fun r=> .d (.int k r)
 | .andNot=>(kT .andNot k a b).map fun r=> .d (.int k r)
 | .eql=>some (.d (.bool (a==b)))| .neq=>some (.d (.bool (a !=b)))| .lss=>some (.d (.bool (decide (a<b))))| .leq=>some (.d (.bool (decide (a<=b))))
 | .gtr=>some (.d (.bool (decide (b<a))))| .geq=>some (.d (.bool (decide (b<=a))))
 |_=>none
def gJ(P:Program)(t:TypeId):Bool:=
 match P.underlying t with
 |some .bool=>true
 |_=>false
def nH(P:Program)(op:BinOp)(t:TypeId)(x y:V):Option V:=
 match x,y with
 | .d (.int k a), .d (.int k' b)=>if k=k' then o7 op k a b else none
 | .d (.bool a), .d (.bool b)=>match op with
   | .eql=>tK (gJ P t) (.d (.bool (a==b)))
   | .neq=>tK (gJ P t) (.d (.bool (a !=b)))
   |_=>none
 | .d (.str a), .d (.str b)=>match op with
   | .eql=>some (.d (.bool (a==b)))
   | .neq=>some (.d (.bool (a !=b)))
   |_=>none
 |_,_=>none
def G3(op:UnOp)(x:V):Option V:=
 match op,x with
 | .neg, .d (.int k n)=>some (.d (.int k (k.wrap (-n))))
 | .not, .d (.bool b)=>some (.d (.bool !b))
 |_,_=>none
def jf(c a b:V):Option V:=
 match c with
 | .d (.bool true)=>some a
 | .d (.bool false)=>some b
 |_=>none
def jg(o:Nat->ab)(x:V):Option (List D×List Nat):=
 match x with
 | .d (.sl es)=>some (es,[])
 | .cu=>some ([],[])
 | .ir es=>some (es,[])
 | .osl id ep=>match o id with
   | .arr dL _ _ es=>if ep=dL then some (es,[id])else none
   | .kf dL es=>if ep=dL then some (es,[id])else none
   |_=>none
 |_=>none
def qh(P:Program)(t:TypeId)(o:Nat->ab)(x:V):Option dH:=
 match P.underlying t with
 |some (.slice _)=>match jg o x with
  |some (es,rd)=>some (.d (.int .i64 es.length),[],rd)
  |none=>none
 |some .string=>match x with
  | .d (.str s)=>one (.d (.int .i64 s.length))
  |_=>none
 |some (.array n _)=>one (.d (.int .i64 n))
 |_=>none
def mR(P:Program)(e:TypeId)(es:List D)(i:Int)(rd:List Nat):Option dH:=
 if 0<=i then match es[i.toNat]? with
  |some y=>tK (y.cells.length==P.cellsOf e&&0<P.cellsOf e) (.pp y.cells 0,[],rd)
  |none=>none
 else none
def gU(o:Nat->ab)(x:V)(q:Nat):Option V:=
 match x with
 | .ptr id off=>tK (o id).aN (.ptr id (off+q))
 | .pp cs off=>some (.pp cs (off+q))
 | .pe id ep j sz off=>if(o id).aO=some ep then some (.pe id ep j sz (off+q))else none
 |_=>none
def dA(P:Program)(o:Nat->ab)(t:TypeId)(x ix:V):Option dH:=
 match ix with
 | .d (.int _ i)=>match cP P t with
   |some e=>match x with
    | .d (.sl es)=>mR P e es i []
    | .ir es=>mR P e es i []
    | .osl id ep=>match o id with
      | .arr dL _ sz es=>if ep=dL/\0<=i/\i.toNat<es.length/\sz=P.cellsOf e/\0<P.cellsOf e then some (.pe id ep i.toNat sz 0,[],[id])else none
      | .kf dL es=>if ep=dL then mR P e es i [id]else none
      |_=>none
    |_=>none
   |none=>match pS P t with
    |some (n,e)=>if 0<=i/\i<n/\(P.info? e).isSome=true then(gU o x (i.toNat*P.cellsOf e)).bind one else none
    |none=>none
 |_=>none
def dB(P:Program)(o:Nat->ab)(t:TypeId)(x:V)(f:Nat):Option V:=
 match gX P t f with
 |some q=>gU o x q
 |none=>none
def gb(P:Program)(o:Nat->ab)(t:TypeId)(x:V):Option dH:=
 match x with
 | .ptr id off=>match o id with
   | .row cs=>match cn P t cs off with
     |some v=>some (v,[],[id])
     |none=>none
   |_=>none
 | .pp cs off=>match cn P t (cs.map .d) off with
   |some v=>some (v,[],[])
   |none=>none
 | .pe id ep i sz off=>match o id with
   | .arr dL _ gL es=>if ep=dL/\sz=gL then match es[i]? with
    |some e=>match cn P t (e.cells.map .d) off with
     |some v=>some (v,[],[id])
     |none=>none
    |none=>none
     else none
   |_=>none
 |_=>none
def jG(P:Program)(o:Nat->ab)(t:TypeId)(x v:V):Option dH:=
 match x with
 | .ptr id off=>match o id with
   | .row cs=>match nj P t cs off v with
     |some cs'=>some (.a8 [],[(id, .row cs')],[id])
     |none=>none
   |_=>none
 | .pe id ep i gL off=>match o id with
   | .arr dL ty sz es=>if ep=dL/\gL=sz then match es[i]?,cD o v with
    |some e,some y=>if y.cells.length=P.cellsOf t/\0<y.cells.length/\v.ids.all (· !=id)=true then match e.put off y.cells with
     |some e'=>some (.a8 [],bH o v.ids++[(id, .arr ep ty sz (es.set i e'))],id::v.ids)
     |none=>none
     else none
    |_,_=>none
     else none
   |_=>none
 |_=>none
def cZ(P:Program)(o:Nat->ab)(fr:Nat)(t:TypeId)(len:Nat)(parts:List (Nat×V)):Option dH:=
 match cP P t with
 |some e=>if len=0/\parts.isEmpty=true/\0<P.cellsOf e then some (.osl fr 0,[(fr, .arr 0 e (P.cellsOf e) [])],[])else if parts.map (·.1)=List.range len/\(eY P e).isSome=true/\0<len/\0<P.cellsOf e/\len*P.cellsOf e<=2^24 then match aR o (parts.map (·.2))with
  |some ds=>if ds.all (fun x=>x.cells.length==P.cellsOf e)=true then some (.osl fr 0,bH o (V.aA (parts.map (·.2)))++[(fr, .arr 0 e (P.cellsOf e) ds)],V.aA (parts.map (·.2)))else none
  |none=>none
  else none
 |none=>none
def fE(P:Program)(fr:Nat)(t:TypeId)(l c:V):Option dH:=
 match cP P t with
 |some e=>match l,c with
  | .d (.int _ n), .d (.int _ m)=>if n=m/\0<=n/\0<P.cellsOf e/\P.bytesOf e*n.toNat<=2^47/\n.toNat<=2^47 then match qJ P e with
   |some x=>some (.osl fr 0,[(fr, .arr 0 e (P.cellsOf e) (List.replicate n.toNat x))],[])
   |none=>none
    else none
  |_,_=>none
 |none=>none
def jh(P:Program)(o:Nat->ab)(fr:Nat)(ts:Array TypeId)(x y:V):Option dH:=
 match ts.toList with
 |[t,t']=>if t=t' then match cP P t,jg o y with
    |some e,some (new,rd)=>if 0<P.cellsOf e/\(eY P e).isSome=true/\new.all (fun z=>z.cells.length==P.cellsOf e)=true then match x with
     | .cu=>if new.length<=2^47/\new.length*P.bytesOf e<=2^47 then some (.osl fr 0,[(fr, .arr 0 e (P.cellsOf e) new)],rd)else none
     | .ir es=>if es.all (fun z=>z.cells.length==P.cellsOf e)=true then(if new=[]then some (.ir es,[],rd)else if es.length+new.length<=2^40/\(es.length+new.length)*P.bytesOf e<=2^40 then some (.osl fr 0,[(fr, .arr 0 e (P.cellsOf e) (es++new))],rd)else none)else none
     | .osl id ep=>match o id with
       | .arr dL ty sz es=>if ep=dL/\ty=e/\sz=P.cellsOf e/\es.length+new.length<=2^47/\(es.length+new.length)*P.bytesOf e<=2^47 then
        some (.osl id (ep+1),[(id, .arr (ep+1) ty sz (es++new))],id::rd)else none
       |_=>none
     |_=>none
     else none
    |_,_=>none
  else none
 |_=>none
def ji(isMax:Bool)(x y:V):Option V:=
 match x,y with
 | .d (.int k a), .d (.int k' b)=>if k=k' then some (.d (.int k (if isMax then(if b>a then b else a)else(if b<a then b else a))))else none
 |_,_=>none
def fF(x:Option V):Option dH:=match x with|some v=>one v|none=>none
def jj(P:Program)(s:S)(fr:Nat)(b:Builtin)(args:List Operand)(ts:Array TypeId):Option dH:=
 match b,args with
 | .len,[x]=>match ts.toList with
   |[t]=>qh P t s.o (s.ev x)
   |_=>none
 | .append,[x,y]=>jh P s.o fr ts (s.ev x) (s.ev y)
 | .max,[x,y]=>fF (ji true (s.ev x) (s.ev y))
 | .min,[x,y]=>fF (ji false (s.ev x) (s.ev y))
 | .max,[x,y,z]=>fF (sV (s.ev x) (s.ev y) (s.ev z))
 | .copy,[x,y]=>mu P s.o ts (s.ev x) (s.ev y)
 | .delete,[x,y]=>match ts.toList.head? with
   |some t=>iG P s.o t (s.ev x) (s.ev y)
   |none=>none
 |_,_=>none
def nI(P:Program)(t:TypeId)(parts:List (Nat×V)):Option V:=
 match eY P t,iz P t with
 |some z,some pl=>match jO pl z parts with
  |some cs=>some (iy cs)
  |none=>none
 |_,_=>none
def dZ(o:Nat->ab)(x:V):Option V:=
 match x with
 | .ptr id off=>tK (o id).aN (.ptr id off)
 | .pp cs off=>some (.pp cs off)
 | .func (.func f) first cap=>some (.func (.func f) first cap)
 |_=>none
def lD(P:Program)(t:TypeId):Bool:=
 match P.underlying t with
 |some (.interface _)=>false
 |some _=>true
 |none=>false
def tL(P:Program)(t:TypeId)(x:V):Option V:=
 tK (lD P t) (match x with
  | .d y=> .d (.iface t y)
  |v=> .iface t v)
def bI(P:Program)(o:Nat->ab)(op:BinOp)(t:TypeId)(kn:Bool)(x y:V):Option dH:=
 match nH P op t x y with
 |some v=>one v
 |none=>jy P o op t kn x y
def o8(op:UnOp)(x:V):Option V:=
 match op,x with
 | .not, .cJ=>some .cJ
 |op,x=>G3 op x
def dC(P:Program)(s:S)(fr:Nat)(op:Op):Option dH:=
 match op with
 | .move x=>one (s.ev x)
 | .assign x=>one (s.ev x)
 | .pick c a b=>fF (jf (s.ev c) (s.ev a) (s.ev b))
 | .alloc t=>match eY P t with
   |some cs=>some (.ptr fr 0,[(fr, .row cs)],[])
   |none=>none
 | .box _ x=>match(s.ev x).cells with
   |some cs=>some (.ptr fr 0,[(fr, .row cs)],[])
   |none=>none
 | .build t parts=>fF (nI P t (parts.toList.map fun p=>(p.1,s.ev p.2)))
 | .buildSlice t len parts=>cZ P s.o fr t len (parts.toList.map fun p=>(p.1,s.ev p.2))
 | .load t x=>gb P s.o t (s.ev x)
 | .store t x v=>jG P s.o t (s.ev x) (s.ev v)
 | .nilCheck x=>fF (dZ s.o (s.ev x))
 | .binOp op t x y _=>bI P s.o op t (isConst x||isConst y) (s.ev x) (s.ev y)
 | .unOp op _ x=>fF (o8 op (s.ev x))
 | .convert u t x=>match P.underlying u,u3 P t,s.ev x with
   |some _,some k, .d (.int _ n)=>one (.d (.int k (k.wrap n)))
   |_,_,_=>none
 | .makeInterface t x=>fF (tL P t (s.ev x))
 | .makeFunc fn first cap=>one (.func fn (first.toList.map s.ev) (cap.toList.map s.ev))
 | .makeSlice t l c=>fE P fr t (s.ev l) (s.ev c)
 | .fieldAddr t x f=>fF (dB P s.o t (s.ev x) f)
 | .indexAddr t x i=>dA P s.o t (s.ev x) (s.ev i)
 | .extract x i=>match s.ev x with
   | .a8 vs=>match vs[i]? with
     |some v=>one v
     |none=>none
   |_=>none
 | .call c=>match c.callee with
   | .builtin b=>jj P s fr b c.args.toList c.argTypes
   |_=>none
 | .slice t x lo hi mx=>jv P s.o t (s.ev x) (lo.map s.ev) (hi.map s.ev) (mx.map s.ev)
 | .field t x f=>fF (kV P t (s.ev x) f)
 | .index t x i=>fF (kW P t (s.ev x) (s.ev i))
 | .typeAssert x _ t ok=>fF (iB P t ok (s.ev x))
 | .makeMap t none=>iD P fr t
 | .lookup t m k ok=>iC P s.o t (s.ev m) (s.ev k) ok
 | .mapUpdate t m k v=>eC P s.o t (s.ev m) (s.ev k) (s.ev v)
 | .insert t m k v=>eC P s.o t (s.ev m) (s.ev k) (s.ev v)
 | .range t x=>g8 P s.o fr t (s.ev x)
 | .next x str=>iE s.o (s.ev x) str
 | .entry x=>g9 s.o (s.ev x)
 |_=>none
section
variable {P:Program}{s:S}{fr:Nat}{v:V}{Δ:List (Nat×ab)}{rd:List Nat}{o:Nat->ab}{K:V->List (Nat×ab)->List Nat->Prop}
theorem jH{α:Type}{c:Bool}{x y:α}(h:tK c x=some y):c=true/\x=y:=by
 unfold tK at h;split at h
 ·injection h with h;exact⟨by assumption,h⟩
 ·cases h
theorem eQ{x:V}{r:dH}(h:one x=some r):r=(x,[],[]):=by unfold one at h;injection h with h;exact h.symm
theorem cN{x:Option V}{r:dH}(h:fF x=some r):∃v,x=some v/\r=(v,[],[]):=by
 unfold fF at h;split at h
 ·exact⟨_,rfl,eQ h⟩
 ·cases h
theorem qi{x:V}{es:List D}{rd:List Nat}(h:jg o x=some (es,rd)):cp o x=some es/\rd=x.ids:=by
 unfold jg at h
 split at h
 ·simp at h;obtain⟨rfl,rfl⟩:=h;exact⟨rfl,rfl⟩
 ·simp at h;obtain⟨rfl,rfl⟩:=h;exact⟨rfl,rfl⟩
 ·simp at h;obtain⟨rfl,rfl⟩:=h;exact⟨rfl,rfl⟩
 ·split at h
  ·rename_i ho
   split at h
   ·rename_i e;simp at h;obtain⟨rfl,rfl⟩:=h;exact⟨by simp[cp,cD,ho,e],rfl⟩
   ·cases h
  ·rename_i ho
   split at h
   ·rename_i e;simp at h;obtain⟨rfl,rfl⟩:=h;exact⟨by simp[cp,cD,ho,e],rfl⟩
   ·cases h
  ·cases h
 ·cases h
theorem sj{op:BinOp}{k:IntKind}{a b:Int}{v:V}(h:o7 op k a b=some v){K:V->Prop}(hK:K v):u4 op k a b K:=by
 cases op<;>simp only[o7]at h<;>simp only[u4]
 case quo=>split at h
           ·cases h
           ·injection h with h;subst h;exact⟨by assumption,hK⟩
 case rem=>split at h
           ·cases h
           ·injection h with h;subst h;exact⟨by assumption,hK⟩
 case and=>simp only[Option.map_eq_some_iff]at h;obtain⟨r,h1,rfl⟩:=h;exact⟨r,h1,hK⟩
 case or=>simp only[Option.map_eq_some_iff]at h;obtain⟨r,h1,rfl⟩:=h;exact⟨r,h1,hK⟩
 case xor=>simp only[Option.map_eq_some_iff]at h;obtain⟨r,h1,rfl⟩:=h;exact⟨r,h1,hK⟩
 case andNot=>simp only[Option.map_eq_some_iff]at h;obtain⟨r,h1,rfl⟩:=h;exact⟨r,h1,hK⟩
 case shl=>cases h
 case shr=>cases h
 case eql=>injection h with h;subst h;exact⟨_,rfl,hK⟩
 case neq=>injection h with h;subst h;exact⟨_,rfl,hK⟩
 case lss=>injection h with h;subst h;exact⟨_,rfl,hK⟩
 case leq=>injection h with h;subst h;exact⟨_,rfl,hK⟩
 case gtr=>injection h with h;subst h;exact⟨_,rfl,hK⟩
 case geq=>injection h with h;subst h;exact⟨_,rfl,hK⟩
 all_goals (injection h with h;subst h;exact hK)
theorem sm{op:BinOp}{t:TypeId}{x y v:V}(h:nH P op t x y=some v){K:V->Prop}(hK:K v):sT P op t x y K:=by
 unfold nH at h
 unfold sT
 split at h
 ·split at h
  ·exact⟨by assumption,sj h hK⟩
  ·cases h
 ·have hb:gJ P t=true->P.underlying t=some .bool:=by
   unfold gJ;intro h;split at h
   ·assumption
   ·cases h
  split at h
  ·obtain⟨h1,rfl⟩:=jH h;exact⟨hb h1,hK⟩
  ·obtain⟨h1,rfl⟩:=jH h;exact⟨hb h1,hK⟩
  ·cases h
 ·split at h
  ·injection h with h;subst h;exact hK
  ·injection h with h;subst h;exact hK
  ·cases h
 ·cases h
theorem qj{c a b v:V}(h:jf c a b=some v){K:V->Prop}(hK:K v):oo c a b K:=by
 unfold jf at h
 unfold oo
 split at h
 ·injection h with h;subst h;exact⟨fun _=>hK,(fun h=>by cases h)⟩
 ·injection h with h;subst h;exact⟨(fun h=>by cases h),fun _=>hK⟩
 ·cases h
theorem lE{x y:V}{q:Nat}(h:gU o x q=some y):(∃id off,x= .ptr id off/\(o id).aN=true/\y= .ptr id (off+q))\/(∃cs off,x= .pp cs off/\y= .pp cs (off+q))\/
 (∃id ep j sz off,x= .pe id ep j sz off/\(o id).aO=some ep/\y= .pe id ep j sz (off+q)):=by
 unfold gU at h
 split at h
 ·obtain⟨h1,rfl⟩:=jH h;exact .inl ⟨_,_,rfl,h1,rfl⟩
 ·injection h with h;exact .inr (.inl ⟨_,_,rfl,h.symm⟩)
 ·split at h
  ·injection h with h;exact .inr (.inr ⟨_,_,_,_,_,rfl,by assumption,h.symm⟩)
  ·cases h
 ·cases h
theorem ig{e:TypeId}{es:List D}{i:Int}{rd:List Nat}{r:dH}(h:mR P e es i rd=some r):
 0<=i/\∃y,es[i.toNat]? =some y/\y.cells.length=P.cellsOf e/\0<P.cellsOf e/\r=(.pp y.cells 0,[],rd):=by
 unfold mR at h
 split at h
 ·rename_i h0
  split at h
  ·rename_i y hy
   obtain⟨h1,rfl⟩:=jH h
   simp only[Bool.and_eq_true,beq_iff_eq,decide_eq_true_eq]at h1
   exact⟨h0,y,hy,h1.1,h1.2,rfl⟩
  ·cases h
 ·cases h
theorem kx{t:TypeId}{x ix:V}(h:dA P o t x ix=some (v,Δ,rd))(hK:K v Δ rd):ed P o t x ix fun v rd=>K v [] rd:=by
 unfold dA at h
 unfold ed
 split at h
 ·simp only
  split at h
  ·rename_i e ht
   simp only[ht]
   split at h
   ·obtain⟨h0,y,h1,h2,h3,h4⟩:=ig h
    simp only[Prod.mk.injEq]at h4;obtain⟨rfl,rfl,rfl⟩:=h4
    exact⟨h0,y,h1,h2,h3,hK⟩
   ·obtain⟨h0,y,h1,h2,h3,h4⟩:=ig h
    simp only[Prod.mk.injEq]at h4;obtain⟨rfl,rfl,rfl⟩:=h4
    exact⟨h0,y,h1,h2,h3,hK⟩
   ·split at h
    ·rename_i ho
     split at h
     ·rename_i hc
      simp only[Option.some.injEq,Prod.mk.injEq]at h;obtain⟨rfl,rfl,rfl⟩:=h
      simp only[ho]
      exact⟨hc.1,hc.2.1,hc.2.2.1,hc.2.2.2.1,hc.2.2.2.2,hK⟩
     ·cases h
    ·rename_i ho
     split at h
     ·rename_i hc
      obtain⟨h0,y,h1,h2,h3,h4⟩:=ig h
      simp only[Prod.mk.injEq]at h4;obtain⟨rfl,rfl,rfl⟩:=h4
      simp only[ho]
      exact⟨hc,h0,y,h1,h2,h3,hK⟩
     ·cases h
    ·cases h
   ·cases h
  ·rename_i ht
   simp only[ht]
   split at h
   ·rename_i n e ha
    simp only[ha]
    split at h
    ·rename_i hc
     simp only[Option.bind_eq_some_iff]at h
     obtain⟨y,hy,h1⟩:=h
     have h1:=eQ h1
     simp only[Prod.mk.injEq]at h1;obtain⟨rfl,rfl,rfl⟩:=h1
     refine⟨hc.1,hc.2.1,hc.2.2, ?_⟩
     rcases lE hy with⟨_,_,rfl,h2,rfl⟩|⟨_,_,rfl,rfl⟩|⟨_,_,_,_,_,rfl,h2,rfl⟩
     ·exact⟨h2,hK⟩
     ·exact hK
     ·exact⟨h2,hK⟩
    ·cases h
   ·cases h
 ·cases h
theorem ky{t:TypeId}{x y:V}{f:Nat}(h:dB P o t x f=some y){K:V->Prop}(hK:K y):ee P o t x f K:=by
 unfold dB at h
 unfold ee
 split at h
 ·rename_i q hq
  simp only[hq]
  rcases lE h with⟨_,_,rfl,h2,rfl⟩|⟨_,_,rfl,rfl⟩|⟨_,_,_,_,_,rfl,h2,rfl⟩
  ·exact⟨h2,hK⟩
  ·exact hK
  ·exact⟨h2,hK⟩
 ·cases h
theorem sn{t:TypeId}{x:V}(h:qh P t o x=some (v,Δ,rd))(hK:K v Δ rd):sU P t o x fun v rd=>K v [] rd:=by
 unfold qh at h
 unfold sU
 split at h
 ·rename_i e hu
  simp only[hu]
  split at h
  ·rename_i es nJ hl
   simp only[Option.some.injEq,Prod.mk.injEq]at h;obtain⟨rfl,rfl,rfl⟩:=h
   unfold jg at hl
   split at hl
   ·simp at hl;obtain⟨rfl,rfl⟩:=hl;exact hK
   ·simp at hl;obtain⟨rfl,rfl⟩:=hl;exact hK
   ·simp at hl;obtain⟨rfl,rfl⟩:=hl;exact hK
   ·split at hl
    ·rename_i ho
     split at hl
     ·rename_i hc;simp at hl;obtain⟨rfl,rfl⟩:=hl;simp only[ho];exact⟨hc,hK⟩
     ·cases hl
    ·rename_i ho
     split at hl
     ·rename_i hc;simp at hl;obtain⟨rfl,rfl⟩:=hl;simp only[ho];exact⟨hc,hK⟩
     ·cases hl
    ·cases hl
   ·cases hl
  ·cases h
 ·rename_i hu
  simp only[hu]
  split at h
  ·have h1:=eQ h;simp only[Prod.mk.injEq]at h1;obtain⟨rfl,rfl,rfl⟩:=h1;exact hK
  ·cases h
 ·rename_i hu
  simp only[hu]
  have h1:=eQ h;simp only[Prod.mk.injEq]at h1;obtain⟨rfl,rfl,rfl⟩:=h1;exact hK
 ·cases h
theorem qk{t:TypeId}{x:V}(h:gb P o t x=some (v,Δ,rd))(hK:K v Δ rd):oq P o t x fun v rd=>K v [] rd:=by
 unfold gb at h
 unfold oq
 split at h
 ·split at h
  ·rename_i ho
   split at h
   ·rename_i hg
    simp only[Option.some.injEq,Prod.mk.injEq]at h;obtain⟨rfl,rfl,rfl⟩:=h
    simp only[ho];exact⟨_,hg,hK⟩
   ·cases h
  ·cases h
 ·split at h
  ·rename_i hg
   simp only[Option.some.injEq,Prod.mk.injEq]at h;obtain⟨rfl,rfl,rfl⟩:=h
   exact⟨_,hg,hK⟩
  ·cases h
 ·split at h
  ·rename_i ho
   split at h
   ·rename_i hc
    split at h
    ·rename_i e he
     split at h
     ·rename_i hg
      simp only[Option.some.injEq,Prod.mk.injEq]at h;obtain⟨rfl,rfl,rfl⟩:=h
      simp only[ho];exact⟨hc.1,hc.2,e,he,_,hg,hK⟩
     ·cases h
    ·cases h
   ·cases h
  ·cases h
 ·cases h
theorem o9{t:TypeId}{x y:V}(h:jG P o t x y=some (v,Δ,rd))(hK:K v Δ rd):kU P o t x y fun Δ rd=>K (.a8 []) Δ rd:=by
 unfold jG at h
 unfold kU
 split at h
 ·split at h
  ·rename_i ho
   split at h
   ·rename_i hg
    simp only[Option.some.injEq,Prod.mk.injEq]at h;obtain⟨rfl,rfl,rfl⟩:=h
    simp only[ho];exact⟨_,hg,hK⟩
   ·cases h
  ·cases h
 ·split at h
  ·rename_i ho
   split at h
   ·rename_i hc
    split at h
    ·rename_i e z he hz
     split at h
     ·rename_i hl
      split at h
      ·rename_i e' hp
       simp only[Option.some.injEq,Prod.mk.injEq]at h;obtain⟨rfl,rfl,rfl⟩:=h
       simp only[ho]
       exact⟨hc.1,hc.2,e,he,z,hz,hl.1,hl.2.1,hl.2.2,e',hp,hK⟩
      ·cases h
     ·cases h
    ·cases h
   ·cases h
  ·cases h
 ·cases h
theorem jI{t:TypeId}{len:Nat}{parts:List (Nat×V)}(h:cZ P o fr t len parts=some (v,Δ,rd))(hK:K v Δ rd):dG P o fr t len parts K:=by
 unfold cZ at h
 unfold dG
 split at h
 ·rename_i e ht
  simp only[ht]
  split at h
  ·rename_i hc
   simp only[Option.some.injEq,Prod.mk.injEq]at h;obtain⟨rfl,rfl,rfl⟩:=h
   exact .inl ⟨hc.1,by simpa using hc.2.1,hc.2.2,hK⟩
  split at h
  ·rename_i hc
   refine .inr ?_
   split at h
   ·rename_i ds hd
    split at h
    ·rename_i hw
     simp only[Option.some.injEq,Prod.mk.injEq]at h;obtain⟨rfl,rfl,rfl⟩:=h
     refine⟨hc.1,hc.2.1,hc.2.2.1,hc.2.2.2.1,hc.2.2.2.2,ds,hd,fun x hx=> ?_,hK⟩
     simpa using List.all_eq_true.1 hw x hx
    ·cases h
   ·cases h
  ·cases h
 ·cases h
theorem kz{t:TypeId}{l c:V}(h:fE P fr t l c=some (v,Δ,rd))(hK:K v Δ rd):ef P fr t l c fun v Δ=>K v Δ []:=by
 unfold fE at h
 unfold ef
 split at h
 ·rename_i e ht
  split at h
  ·split at h
   ·rename_i hc
    split at h
    ·rename_i x hx
     simp only[Option.some.injEq,Prod.mk.injEq]at h;obtain⟨rfl,rfl,rfl⟩:=h
     simp only[ht]
     exact⟨hc.1,hc.2.1,hc.2.2.1,hc.2.2.2.1,hc.2.2.2.2,x,hx,hK⟩
    ·cases h
   ·cases h
  ·cases h
 ·cases h
theorem nK{ts:Array TypeId}{x y:V}(h:jh P o fr ts x y=some (v,Δ,rd))(hK:K v Δ rd):iA P o fr ts x y K:=by
 unfold jh at h
 unfold iA
 split at h
 ·rename_i t t' pX
  simp only[pX]
  split at h
  ·rename_i MB
   refine⟨MB, ?_⟩
   split at h
   ·rename_i e new nJ ht hl
    obtain⟨np,rfl⟩:=qi hl
    simp only[ht]
    split at h
    ·rename_i hc
     refine⟨new,np,hc.1,hc.2.1,fun z hz=>by simpa using List.all_eq_true.1 hc.2.2 z hz, ?_⟩
     split at h
     ·split at h
      ·rename_i pN
       simp only[Option.some.injEq,Prod.mk.injEq]at h;obtain⟨rfl,rfl,rfl⟩:=h
       exact⟨pN.1,pN.2,hK⟩
      ·cases h
     ·split at h
      ·rename_i sK
       refine⟨fun z hz=>by simpa using List.all_eq_true.1 sK z hz, ?_⟩
       split at h
       ·rename_i hn
        simp only[Option.some.injEq,Prod.mk.injEq]at h;obtain⟨rfl,rfl,rfl⟩:=h
        rw[if_pos hn];exact hK
       ·rename_i hn
        split at h
        ·rename_i pN
         simp only[Option.some.injEq,Prod.mk.injEq]at h;obtain⟨rfl,rfl,rfl⟩:=h
         rw[if_neg hn];exact⟨pN.1,pN.2,hK⟩
        ·cases h
      ·cases h
     ·split at h
      ·rename_i ho
       split at h
       ·rename_i pN
        simp only[Option.some.injEq,Prod.mk.injEq]at h;obtain⟨rfl,rfl,rfl⟩:=h
        simp only[ho]
        exact⟨pN.1,pN.2.1,pN.2.2.1,pN.2.2.2.1,pN.2.2.2.2,hK⟩
       ·cases h
      ·cases h
     ·cases h
    ·cases h
   ·cases h
  ·cases h
 ·cases h
theorem lF{x y:V}(h:dZ o x=some y){K:V->Prop}(hK:K y):eZ o x K:=by
 unfold dZ at h
 unfold eZ
 split at h
 ·obtain⟨h2,rfl⟩:=jH h;exact⟨h2,hK⟩
 ·injection h with h;subst h;exact hK
 ·injection h with h;subst h;exact hK
 ·cases h
theorem tM{op:UnOp}{x y:V}(h:G3 op x=some y){K:V->Prop}(hK:K y):Ax op x K:=by
 unfold G3 at h
 unfold Ax
 split at h
 ·injection h with h;subst h;simp only;rw[Int.zero_sub];exact hK
 ·injection h with h;subst h;exact hK
 ·cases h
theorem jk{m:Bool}{x y v:V}(h:ji m x y=some v){K:V->Prop}(hK:K v):gD m [x,y] K:=by
 unfold ji at h
 unfold gD
 split at h
 ·split at h
  ·injection h with h;subst h;exact⟨by assumption,hK⟩
  ·cases h
 ·cases h
theorem pa{op:Op}(h:dC P s fr op=some (v,Δ,rd))(hK:K v Δ rd):wC P s fr op K:=by
 cases op<;>simp only[dC]at h<;>simp only[wC]<;>try (cases h;done)
 case move x=>have h:=eQ h;simp only[Prod.mk.injEq]at h;obtain⟨rfl,rfl,rfl⟩:=h;exact hK
 case assign x=>have h:=eQ h;simp only[Prod.mk.injEq]at h;obtain⟨rfl,rfl,rfl⟩:=h;exact hK
 case pick c a b=>
  obtain⟨x,h1,h⟩:=cN h;simp only[Prod.mk.injEq]at h;obtain⟨rfl,rfl,rfl⟩:=h
  exact qj h1 hK
 case alloc t=>
  split at h
  ·rename_i cs hz;simp only[Option.some.injEq,Prod.mk.injEq]at h;obtain⟨rfl,rfl,rfl⟩:=h;exact⟨cs,hz,hK⟩
  ·cases h
 case box t x=>
  split at h
  ·rename_i cs hz;simp only[Option.some.injEq,Prod.mk.injEq]at h;obtain⟨rfl,rfl,rfl⟩:=h;exact⟨cs,hz,hK⟩
  ·cases h
 case build t parts=>
  obtain⟨x,h1,h⟩:=cN h;simp only[Prod.mk.injEq]at h;obtain⟨rfl,rfl,rfl⟩:=h
  unfold nI at h1
  split at h1
  ·rename_i z pl hz hp
   split at h1
   ·rename_i cs hc;injection h1 with h1;subst h1;exact⟨z,pl,cs,hz,hp,hc,hK⟩
   ·cases h1
  ·cases h1
 case buildSlice t len parts=>exact jI h hK
 case load t x=>exact qk h hK
 case store t x y=>exact o9 h hK
 case nilCheck x=>
  obtain⟨y,h1,h⟩:=cN h;simp only[Prod.mk.injEq]at h;obtain⟨rfl,rfl,rfl⟩:=h
  exact lF h1 hK
 case binOp op t x y yt=>
  unfold bI at h
  split at h
  ·rename_i z h1
   have h:=eQ h;simp only[Prod.mk.injEq]at h;obtain⟨rfl,rfl,rfl⟩:=h
   exact .inl (sm h1 hK)
  ·right;simp only[h,bz];exact hK
 case unOp op t x=>
  obtain⟨z,h1,h⟩:=cN h;simp only[Prod.mk.injEq]at h;obtain⟨rfl,rfl,rfl⟩:=h
  unfold o8 at h1
  split at h1
  ·rename_i hx;injection h1 with h1;subst h1;exact .inr ⟨rfl,hx,hK⟩
  ·exact .inl (tM h1 hK)
 case slice t x lo hi mx=>simp only[h,bz];exact hK
 case field t x f=>
  obtain⟨z,h1,h⟩:=cN h;simp only[Prod.mk.injEq]at h;obtain⟨rfl,rfl,rfl⟩:=h
  simp only[h1,bz,Option.map_some];exact hK
 case typeAssert x xt t ok=>
  obtain⟨z,h1,h⟩:=cN h;simp only[Prod.mk.injEq]at h;obtain⟨rfl,rfl,rfl⟩:=h
  simp only[h1,bz,Option.map_some];exact hK
 case makeMap t r=>
  cases r with
  |none=>simp only[h,bz];exact hK
  |some x=>cases h
 case lookup t m k ok=>simp only[h,bz];exact hK
 case mapUpdate t m k v=>simp only[h,bz];exact hK
 case insert t m k v=>simp only[h,bz];exact hK
 case index t x i=>
  obtain⟨z,h1,h⟩:=cN h;simp only[Prod.mk.injEq]at h;obtain⟨rfl,rfl,rfl⟩:=h
  simp only[h1,bz,Option.map_some];exact hK
 case convert u t x=>
  split at h
  ·rename_i d k k' n hu hk hx
   have h:=eQ h;simp only[Prod.mk.injEq]at h;obtain⟨rfl,rfl,rfl⟩:=h
   exact⟨by rw[hu];rfl,by simp only[hk,hx];exact hK⟩
  ·cases h
 case makeInterface t x=>
  obtain⟨z,h1,h⟩:=cN h;simp only[Prod.mk.injEq]at h;obtain⟨rfl,rfl,rfl⟩:=h
  obtain⟨h2,rfl⟩:=jH h1
  refine⟨?_, ?_⟩
  ·unfold lD at h2
   cases hd:P.underlying t with
   |none=>simp[hd]at h2
   |some d=>exact⟨d,rfl,by cases d<;>simp_all⟩
  ·split
   ·rename_i y hy;simp only[hy]at hK;exact hK
   ·rename_i hy
    split at hK
    ·rename_i y MC;exact absurd MC (hy y)
    ·exact hK
 case makeFunc fn first cap=>have h:=eQ h;simp only[Prod.mk.injEq]at h;obtain⟨rfl,rfl,rfl⟩:=h;exact hK
 case makeSlice t l c=>
  exact kz h hK
 case fieldAddr t x f=>
  obtain⟨z,h1,h⟩:=cN h;simp only[Prod.mk.injEq]at h;obtain⟨rfl,rfl,rfl⟩:=h
  exact ky h1 hK
 case indexAddr t x i=>
  exact kx h hK
 case extract x i=>
  split at h
  ·rename_i vs hv
   split at h
   ·rename_i u hu
    have h:=eQ h;simp only[Prod.mk.injEq]at h;obtain⟨rfl,rfl,rfl⟩:=h
    simp only[hv];exact⟨_,hu,hK⟩
   ·cases h
  ·cases h
 case call c=>
  obtain⟨vq,args,ts⟩:=c
  cases vq<;>simp only at h|- <;>try (cases h;done)
  rename_i b
  unfold jj at h
  unfold kY
  split at h
  ·rename_i x ha
   simp only[ha]
   split at h
   ·rename_i t pX;exact⟨t,pX,sn h hK⟩
   ·cases h
  ·rename_i x y ha
   simp only[ha]
   exact nK h hK
  ·rename_i x y ha
   simp only[ha]
   obtain⟨z,h1,h⟩:=cN h;simp only[Prod.mk.injEq]at h;obtain⟨rfl,rfl,rfl⟩:=h
   exact jk h1 hK
  ·rename_i x y ha
   simp only[ha]
   obtain⟨z,h1,h⟩:=cN h;simp only[Prod.mk.injEq]at h;obtain⟨rfl,rfl,rfl⟩:=h
   exact jk h1 hK
  ·rename_i x y z ha
   simp only[ha]
   obtain⟨v0,h1,h⟩:=cN h;simp only[Prod.mk.injEq]at h;obtain⟨rfl,rfl,rfl⟩:=h
   simp only[h1,bz,Option.map_some];exact hK
  ·rename_i x y ha
   simp only[ha,h,bz];exact hK
  ·rename_i x y ha
   simp only[ha]
   split at h
   ·rename_i t ht;exact⟨t,ht,by simp only[h,bz];exact hK⟩
   ·cases h
  ·cases h
 case range t x=>simp only[h,bz];exact hK
 case next x str=>left;simp only[h,bz];exact hK
 case entry x=>simp only[h,bz];exact hK
end
end Go.Proofs.YtpkobkdgcanmjaaGreat
