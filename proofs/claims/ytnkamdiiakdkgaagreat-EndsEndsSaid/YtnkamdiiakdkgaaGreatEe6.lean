/-
  A PART. Conditions: none.
-/
import Derived.RangeFuncLeaves
import Derived.TacticsIn
import Derived.RecoverIn
import Derived.Test.YtnkamdiiakdkgaaGreatEe5
set_option linter.unusedSimpArgs false
set_option linter.unusedVariables false
set_option maxHeartbeats 8000000
namespace Go.Proofs.YtnkamdiiakdkgaaGreat
inductive R where
 |ret (ds:List D)|bU (d:D)
def R.is (B:Nat->Prop)(w:World):R->Ending->Prop
 | .ret [x], .returned v=>D.den B w x v
 | .ret ds, .returned v=>∃a,v= .tuple a/\D.aG B w ds a.toList
 | .bU d, .panicked chain=>∃v,chain=[{v:=v,recovered:=false}]/\D.den B w d v
 |_,_=>False
def Enters(P:Program)(f:FuncId):Prop:=∃fn,P.funcs[f]? =some fn/\(fn.name== "runtime.NumGoroutine")=false/\fn.body.isNone=false
def aW(P:Program)(f:FuncId)(ds:List D)(out:R):Prop:=
 Enters P f/\∀ (M:Nat->Prop) (w:World) (vals:Array Value),(∀b,M b->b<w.heap.size)->D.aG M w ds vals.toList->
  Calls P f vals w fun e w'=>ed (fun _=>False) w w'/\out.is M w' e
def hp(o:Nat->aa)(nx:Nat):Hp:=⟨o,fun id=>id<nx⟩
def oE(M:Nat->Prop)(φ:Place)(H:Hp)(w:World)(K X:V->(Nat->aa)->Nat->Prop)(e:Ending)(w':World):Prop:=
 ∃aH o' nx' v,ay M aH (hp o' nx') w'/\Trans φ H w aH (hp o' nx') w'/\match e with
  | .returned val=>V.den (ao M aH (hp o' nx')) aH (hp o' nx') w' v val/\K v o' nx'
  | .panicked ch=>∃val,ch=[{v:=val,recovered:=false}]/\V.den (ao M aH (hp o' nx')) aH (hp o' nx') w' v val/\X v o' nx'
  | .outgrown=>False
def cX(P:Program)(f:FuncId)(args:List V)(o:Nat->aa)(nx:Nat)(K X:V->(Nat->aa)->Nat->Prop):Prop:=
 Enters P f/\∀ (M:Nat->Prop) (φ:Place) (w:World) (vals:Array Value),ay M φ (hp o nx) w->V.aG (ao M φ (hp o nx)) φ (hp o nx) w args vals.toList->
  Calls P f vals w (oE M φ (hp o nx) w K X)
def eu(P:Program)(id:Nat)(args:List V)(o:Nat->aa)(nx:Nat)(K X:V->(Nat->aa)->Nat->Prop):Prop:=
 (o id).bF=true/\∀ (M:Nat->Prop) (φ:Place) (w:World) (vals:Array Value) (b:Nat),ay M φ (hp o nx) w->V.aG (ao M φ (hp o nx)) φ (hp o nx) w args vals.toList->φ id= .pointer (some ⟨b,0,none⟩)->
  ∃f tmps assign body,(Instr.yield b vals).run P w= .ok (.round b f tmps assign body) w/\∀n,RoundIn Fence.wide n P b f tmps assign body w (oE M φ (hp o nx) w K X)
theorem oE.mono {M:Nat->Prop}{φ:Place}{H:Hp}{w:World}{K X K' X':V->(Nat->aa)->Nat->Prop}(hK:∀v o n,K v o n->K' v o n)(hX:∀v o n,X v o n->X' v o n){e:Ending}{w':World}(h:oE M φ H w K X e w'):oE M φ H w K' X' e w':=by
 obtain⟨aH,o',nx',v,h1,h2,h3⟩:=h
 refine⟨aH,o',nx',v,h1,h2, ?_⟩
 cases e with
 |returned val=>exact⟨h3.1,hK _ _ _ h3.2⟩
 |panicked ch=>obtain⟨val,a,b,c⟩:=h3;exact⟨val,a,b,hX _ _ _ c⟩
 |outgrown=>exact h3
theorem cX.mono {P:Program}{f:FuncId}{args:List V}{o:Nat->aa}{nx:Nat}{K X K' X':V->(Nat->aa)->Nat->Prop}(hK:∀v o n,K v o n->K' v o n)(hX:∀v o n,X v o n->X' v o n)(h:cX P f args o nx K X):cX P f args o nx K' X':=
 ⟨h.1,fun M φ w vals h1 h2=>(h.2 M φ w vals h1 h2).mono fun _ _ h=>h.mono hK hX⟩
theorem eu.mono {P:Program}{id:Nat}{args:List V}{o:Nat->aa}{nx:Nat}{K X K' X':V->(Nat->aa)->Nat->Prop}(hK:∀v o n,K v o n->K' v o n)(hX:∀v o n,X v o n->X' v o n)(h:eu P id args o nx K X):eu P id args o nx K' X':=
 ⟨h.1,fun M φ w vals b h1 h2 h3=>let⟨f,t,a,c,h4,h5⟩:=h.2 M φ w vals b h1 h2 h3;⟨f,t,a,c,h4,fun n=>(h5 n).mono fun _ _ h=>h.mono hK hX⟩⟩
mutual
def D.flat:D->Bool
 | .sl _| .mp _ _=>false
 | .agg cs=>D.kN cs
 | .iface _ x=>x.flat
 |_=>true
def D.kN:List D->Bool
 |[]=>true
 |x::xs=>x.flat&&D.kN xs
end
mutual
theorem D.rI {B B':Nat->Prop}{w w':World}:∀ (x:D) (v:Value),x.flat=true->D.den B w x v->D.den B' w' x v
 | .int _ _,_,_,h| .bool _,_,_,h| .str _,_,_,h| .fN,_,_,h| .nR,_,_,h| .cK,_,_,h| .iY,_,_,h=>h
 | .agg cs,_,hf,h=>by obtain⟨a,rfl,h,h2⟩:=h;exact⟨a,rfl,D.ng cs _ hf h,h2⟩
 | .sl es,_,hf,h=>by simp[D.flat]at hf
 | .mp _ _,_,hf,h=>by simp[D.flat]at hf
 | .iface t x,_,hf,h=>by obtain⟨u,rfl,h⟩:=h;exact⟨u,rfl,D.rI x u hf h⟩
theorem D.ng {B B':Nat->Prop}{w w':World}:∀ (xs:List D) (vs:List Value),D.kN xs=true->D.aG B w xs vs->D.aG B' w' xs vs
 |[],_,_,h=>h
 |x::xs,_,hf,h=>by
  obtain⟨u,us,rfl,h1,h2⟩:=h
  simp only[D.kN,Bool.and_eq_true]at hf
  exact⟨u,us,rfl,D.rI x u hf.1 h1,D.ng xs us hf.2 h2⟩
end
mutual
def D.oF:D->Bool
 | .mp _ _=>false
 | .agg cs=>D.nh cs
 | .sl es=>D.nh es
 | .iface _ x=>x.oF
 |_=>true
def D.nh:List D->Bool
 |[]=>true
 |x::xs=>x.oF&&D.nh xs
end
theorem iD.Du {B B':Nat->Prop}{w w':World}{a:Addr}{cs:Array Value}
 (hb:∀b,rk w b-> ¬B b->w'.heap[b]? =w.heap[b]? /\ ¬B' b) (h:iD B w a cs):iD B' w' a cs:=by
 intro j u hj
 obtain⟨h1,h2⟩:=h j u hj
 have cS:rk w a.block:=by simpa using qh h1
 exact adm
mutual
theorem D.mw {B B':Nat->Prop}{w w':World}(hb:∀b,rk w b-> ¬B b->w'.heap[b]? =w.heap[b]? /\ ¬B' b):
 ∀ (x:D) (v:Value),x.oF=true->D.den B w x v->D.den B' w' x v
 | .int _ _,_,_,h| .bool _,_,_,h| .str _,_,_,h| .fN,_,_,h| .nR,_,_,h| .cK,_,_,h| .iY,_,_,h=>by simpa[D.den]using h
 | .agg cs,_,hn,h=>by
   obtain⟨a,rfl,h,hf⟩:=h
   exact⟨a,rfl,D.oG hb cs _ hn h,hf⟩
 | .sl es,_,hn,h=>by
   obtain⟨base,len,cap,rfl,h1,h2,h3,sz,h4⟩:=h
   exact⟨base,len,cap,rfl,h1,h2,h3,sz,fun a ha=>⟨(h4 a ha).1,D.rJ hb sz a es 0 hn (h4 a ha).2⟩⟩
 | .iface t d,_,hn,h=>by
   obtain⟨u,rfl,h⟩:=h
   exact⟨u,rfl,D.mw hb d u hn h⟩
 | .mp _ _,_,hn,_=>by simp[D.oF]at hn
theorem D.oG {B B':Nat->Prop}{w w':World}(hb:∀b,rk w b-> ¬B b->w'.heap[b]? =w.heap[b]? /\ ¬B' b):
 ∀ (ds:List D) (vs:List Value),D.nh ds=true->D.aG B w ds vs->D.aG B' w' ds vs
 |[],_,_,h=>h
 |d::ds,_,hn,h=>by
  obtain⟨u,us,rfl,h1,h2⟩:=h
  simp only[D.nh,Bool.and_eq_true]at hn
  exact⟨u,us,rfl,D.mw hb d u hn.1 h1,D.oG hb ds us hn.2 h2⟩
theorem D.rJ {B B':Nat->Prop}{w w':World}(hb:∀b,rk w b-> ¬B b->w'.heap[b]? =w.heap[b]? /\ ¬B' b)(sz:Nat)(a:Addr):
 ∀ (es:List D) (i:Nat),D.nh es=true->D.elems B w sz a i es->D.elems B' w' sz a i es
 |[],_,_,_=>trivial
 |e::es,i,hn,h=>by
  obtain⟨⟨ev,h1,h2,h3⟩,h4⟩:=h
  simp only[D.nh,Bool.and_eq_true]at hn
  exact⟨⟨ev,h1,h2.Du hb,D.mw hb e ev hn.1 h3⟩,D.rJ hb sz a es (i+1) hn.2 h4⟩
end
def R.oF:R->Bool
 | .ret ds=>D.nh ds
 | .bU d=>d.oF
def R.flat:R->Bool
 | .ret ds=>D.kN ds
 | .bU d=>d.flat
def kb:List D->V
 |[x]=> .d x
 |ds=> .cc (ds.map .d)
inductive fW where
 |normal|exit (id:Nat)|ret|bU (v:V)
def bf(env:Nat->V)(dst:Option Tmp)(v:V):Nat->V:=
 match dst with
 |some d=>au env d v
 |none=>env
def N5(o:Nat->aa)(v:V):V:=match dS o v with|some x=> .d x|none=>v
def dD(o:Nat->aa):List V->List Nat
 |[]=>[]
 |v::vs=>(match dS o v with|some _=>v.ids|none=>[])++dD o vs
def qf(P:Program)(g:FuncId)(args:List V)(o:Nat->aa)(nx:Nat)(K X:V->(Nat->aa)->Nat->Prop):Prop:=
 cX P g args o nx K X\/cX P g (args.map (N5 o)) (put o (bY o (dD o args))) nx K X
def wY(P:Program)(s:S)(g:FuncId)(all:List V)(K:V->(Nat->aa)->Nat->Prop)(X:V->(Nat->aa)->Nat->Prop):Prop:=
    (∃ds out,cF s.o all=some ds/\aW P g ds out/\(match out with
     | .ret rs=>K (kb rs) (put s.o (bY s.o (V.bC all))) (s.nx+1)
     | .bU x=>X (.d x) (put s.o (bY s.o (V.bC all))) (s.nx+1)))\/
    (∃ds out,cF s.o all=some ds/\aW P g ds out/\out.flat=true/\(match out with
     | .ret rs=>K (kb rs) s.o (s.nx+1)
     | .bU x=>X (.d x) s.o (s.nx+1)))\/
    (∃ds out,cF s.o all=some ds/\aW P g ds out/\out.oF=true/\(match out with
     | .ret rs=>K (kb rs) (put s.o (tq s.o (V.bC all))) (s.nx+1)
     | .bU x=>X (.d x) (put s.o (tq s.o (V.bC all))) (s.nx+1)))\/
    qf P g all s.o s.nx K X
def DO(P:Program)(s:S)(f:V)(args:List V)(K:V->(Nat->aa)->Nat->Prop)(X:V->(Nat->aa)->Nat->Prop):Prop:=
 match f with
 | .func (.func g) first cap=>wY P s g (first++args++cap) K X
 | .jI id=>eu P id args s.o s.nx K X
 |_=>False
def Vr(P:Program)(t:TypeId):Bool:=
 match P.underlying t with
 |some (.pointer _)=>false
 |some _=>true
 |none=>false
def wZ(P:Program)(m:String)(x:V):Option (FuncId×V):=
 match x with
 | .d (.iface t y)=>match P.info? t with
   |some ti=>match ti.methods.find? (·.name==m)with
    |some r=>match r.func with
     |some (f,false)=>if r.path.isEmpty=true/\Vr P t=true then some (f, .d y)else none
     |_=>none
    |none=>none
   |none=>none
 |_=>none
def iF(n:Nat):Option Tmp->Prop
 |some d=>d<n
 |none=>True
def opW(P:Program)(n:Nat)(s:S)(o:Oper)(X:V->S->Prop)(K:S->Prop):Prop:=
 iF n o.dst/\match o.op with
 | .call c=>match c.callee with
   | .value f=>DO P s (s.ev f) (c.args.toList.map s.ev) (fun v o' nx'=>K ⟨bf s.env o.dst v,o',nx'⟩) (fun v o' nx'=>X v ⟨s.env,o',nx'⟩)
   | .invoke r m=>match wZ P m (s.ev r)with
     |some (g,y)=>wY P s g (y::c.args.toList.map s.ev) (fun v o' nx'=>K ⟨bf s.env o.dst v,o',nx'⟩) (fun v o' nx'=>X v ⟨s.env,o',nx'⟩)
     |none=>False
   |_=>Q3 P s s.nx o.op fun v Δ _=>K ⟨bf s.env o.dst v,put s.o Δ,s.nx+1⟩
 | .panic x=>match s.ev x with
   | .d (.iface t y)=>X (.d (.iface t y)) s
   | .iface t y=>X (.iface t y) s
   |_=>False
 |op=>Q3 P s s.nx op fun v Δ _=>K ⟨bf s.env o.dst v,put s.o Δ,s.nx+1⟩
def Bw(s:S)(ops:Array Oper)(g:Option (Nat×Bool))(A B:Prop):Prop:=
 match g with
 |none=>A
 |some (j,want)=>match uy ops j with
  |some d=>match s.env d with
   | .d (.bool b)=>(b=want->A)/\(b≠want->B)
   | .cc []=>B
   |_=>False
  |none=>B
def Bx(P:Program)(n:Nat)(ops:Array Oper)(X:V->S->Prop)(K:S->Prop):List Oper->S->Prop
 |[],s=>K s
 |o::l,s=>Bw s ops o.guard (opW P n s o X (Bx P n ops X K l)) (iF n o.dst/\Bx P n ops X K l ⟨bf s.env o.dst (.cc []),s.o,s.nx+1⟩)
def aZ(b:Nat)(s s':S):Prop:=
 ∀ (M:Nat->Prop) (φ:Place) (w:World) (tm:Nat->Value),ay M φ s.H w->(∀i,V.den (ao M φ s.H) φ s.H w (s.env i) (tm i))->
   ∃aH,ay M aH s'.H w/\(∀i,V.den (ao M aH s'.H) aH s'.H w (s'.env i) (tm i))/\(∀k,cw aH s'.H k->cw φ s.H k)/\b<=s'.nx/\
    (∀id,id<b->(s'.o id).bF=true->(s.o id).bF=true/\aH id=φ id)/\
    (∀id e',id<b->(s'.o id).bV=some e'->∃e,(s.o id).bV=some e/\e<=e'/\(e=e'->aH id=φ id))
def rK(K:S->Prop)(Q:fW->S->Prop)(e:fW)(s:S):Prop:=match e with| .normal=>K s|e=>Q e s
def fZ(id:Nat)(Q:fW->S->Prop)(e:fW)(s:S):Prop:=match e with| .exit j=>if j=id then Q .normal s else Q (.exit j) s|e=>Q e s
def ni(P:Program)(s:S):List ResultVar->Option (List V)
 |[]=>some []
 | .tmp t::rs=>(ni P s rs).map (s.env t::·)
 | .cell a t::rs=>match s.env a with
   | .ptr id off=>match s.o id with
     | .row cs=>(fw P t cs off).bind fun v=>(ni P s rs).map (v::·)
     |_=>none
   |_=>none
def cR(vs:List V):Nat->V:=fun i=>vs.getD i (.cc [])
def GN(P:Program)(rs:List ResultVar)(out:R)(e:fW)(s:S):Prop:=
 match e with
 | .normal| .ret=>match ni P s rs with
   |some vs=>match cF s.o vs with
    |some ds=>out= .ret ds
    |none=>False
   |none=>False
 | .bU v=>match dS s.o v with
   |some x=>out= .bU x
   |none=>False
 | .exit _=>False
theorem N6{P:Program}{rs:List ResultVar}{out:R}{s:S}(h:match ni P s rs with
 |some vs=>match cF s.o vs with
  |some ds=>out= .ret ds
  |none=>False
 |none=>False):∃vs ds,ni P s rs=some vs/\cF s.o vs=some ds/\out= .ret ds:=by
 split at h
 ·rename_i vs h1
  split at h
  ·rename_i xs h2;exact⟨vs,xs,h1,h2,h⟩
  ·exact h.elim
 ·exact h.elim
theorem N7{out:R}{s:S}{v:V}(h:match dS s.o v with
 |some x=>out= .bU x
 |none=>False):∃x,dS s.o v=some x/\out= .bU x:=by
 split at h
 ·rename_i x h1;exact⟨x,h1,h⟩
 ·exact h.elim
section
section
variable {P:Program}{M:Nat->Prop}{φ:Place}{H:Hp}{w w':World}
def aa.my:aa->Bool
 | .arr .. =>true
 |_=>false
theorem R1(o:Nat->aa)(ids:List Nat):tq o ids=bY o (ids.filter fun id=>(o id).my):=by
 induction ids with
 |nil=>rfl
 |cons id ids ih=>
  unfold tq at ih|-
  simp only[List.filterMap_cons,List.filter_cons]
  cases hx:o id with
  |arr ep ty sz es=>
   have e:(aa.arr ep ty sz es).my=true:=rfl
   rw[e,if_pos rfl,ih]
   simp only[bY,List.map_cons,hx]
  |_=>exact ih
theorem j9(hH:ay M φ H w){us':Nat->Prop}(h:∀id,H.us id->us' id):ay M φ ⟨H.o,us'⟩ w/\Trans φ H w φ ⟨H.o,us'⟩ w:=by
 have ht:Trans φ H w φ ⟨H.o,us'⟩ w:=⟨ed.refl _ _,fun b hb=> .inl hb,⟨h,fun id _ hr=>⟨hr,rfl⟩,fun id e' _ he=>⟨e',he,Nat.le_refl _,fun _=>rfl⟩⟩⟩
 exact⟨hH.of ht (fun _=>False) (fun _ h=>h.elim) (fun id _=>⟨rfl,rfl,fun _ _ _=>rfl⟩) (fun id hn=>hH.fresh id fun hu=>hn (h id hu)) hH.apart (fun b hb=>(hH.ours b hb).2),ht⟩
theorem mz{Δ:List (Nat×aa)}(h:∀id∈Δ.map (·.1),H.us id):H.put Δ=⟨put H.o Δ,H.us⟩:=by
 unfold Hp.put
 congr 1
 funext id
 simp only[eq_iff_iff]
 exact⟨fun h'=>h'.elim (fun h=>h) (h id), .inl⟩
theorem vH(o:Nat->aa)(ids:List Nat):(bY o ids).map (·.1)=ids:=by
 rw[kK];simp[Function.comp_def]
structure Cx where
 base:List Deferred
 rd:Bool
def eB(ro:Option Nat):Fence:={fn:=fun _=>True,depth:=none,alive:=false,round:=ro}
def mark(r:Nat):Deferred:={target:= .collected r,args:=#[]}
def w7(cx:Cx)(w0:World)(φ:Place)(H:Hp)(w:World)(ds:List Deferred):Prop:=
 ∃ms:List Nat,ds=ms.map mark++cx.base/\ms.Nodup/\(cx.rd=true->ms=[])/\∀r∈ms,w0.heap.size<=r/\w.heap[r]? =some (.deferred (some []))/\ ¬cw φ H r
theorem w7.mono {cx:Cx}{w0:World}{φ aH:Place}{H H':Hp}{w w':World}{ds:List Deferred}(ht:Trans φ H w aH H' w')(h:w7 cx w0 φ H w ds):w7 cx w0 aH H' w' ds:=by
 obtain⟨ms,h1,h2,h3,h4⟩:=h
 refine⟨ms,h1,h2,h3,fun r hr=> ?_⟩
 obtain⟨g1,g2,g3⟩:=h4 r hr
 have cS:r<w.heap.size:=by
  rcases Nat.lt_or_ge r w.heap.size with hl|hl
  ·exact hl
  ·rw[Array.getElem?_eq_none hl]at g2;cases g2
 refine⟨g1,(ht.keep.block r cS g3).trans g2,fun hl=> ?_⟩
 rcases ht.grow r hl with h|h
 ·exact g3 h
 ·omega
structure cG (M:Nat->Prop) (cY:Place) (H0:Hp) (w0:World) (n:Nat) (cx:Cx) (φ:Place) (s:S) (a:Act) (w:World):Prop where
 heap:ay M φ s.H w
 tr:Trans cY H0 w0 φ s.H w
 size:a.tmps.size=n
 defers:w7 cx w0 φ s.H w a.defers
 env:∀i,V.den (ao M φ s.H) φ s.H w (s.env i) (a.tmps.getD i undef)
variable {cY:Place}{H0:Hp}{w0:World}{n:Nat}{s:S}{a:Act}{cx:Cx}{ro:Option Nat}{k:Nat}
theorem dB{f:FuncId}{args:Array Value}{R:Ending->World->Prop}(h:Calls P f args w R):CallsIn (eB ro) k P f args w R:=
 ⟨trivial,fun cs _=>let⟨e,w',fr,r,s,x⟩:=h cs;⟨e,w',fr,r,comesIn_wide.2 s,x⟩⟩
theorem DP{f:FuncId}{args:Array Value}{R:Ending->World->Prop}(h:CallsIn (eB ro) k P f args w R):Calls P f args w R:=
 fun cs=>let⟨e,w',fr,r,s,x⟩:=h.2 cs (fun _ h=>by simp[eB]at h);⟨e,w',fr,r,comesIn_wide.1 s,x⟩
theorem lR{o:Oper}{next:Act->World->Prop}{Q:Exit->Act->World->Prop}(ML:∀c,o.op≠ .defer c)(h:o.uponIn (eB ro) k P a next Q ((execOp a.eval o).run P w)):o.wpIn (eB ro) k P a w next Q:=
 ⟨fun _ _=>trivial,by rw[Oper.semAt_eq _ _ _ ML];exact h⟩
theorem pB(hs:cG M cY H0 w0 n cx φ s a w){aH:Place}{H':Hp}(hH:ay M aH H' w')(ht:Trans φ s.H w aH H' w'){v:V}{val:Value}(hd:V.den (ao M aH H') aH H' w' v val){dst:Option Tmp}(dh:iF n dst)
 {o':Nat->aa} {nx':Nat} (ho:H'.o=o') (hu:∀id,H'.us id->id<nx'):cG M cY H0 w0 n cx aH ⟨bf s.env dst v,o',nx'⟩ (a.put dst val) w':=by
 obtain⟨k1,k2⟩:=j9 hH hu
 subst ho
 refine⟨k1,hs.tr.trans (ht.trans k2), ?_, ?_,fun i=> ?_⟩
 ·cases dst<;>simp[Act.put,hs.size]
 ·have:=hs.defers.mono (ht.trans k2);cases dst<;>exact this
 ·cases dst with
  |none=>exact RC
  |some d=>
   simp only[iF]at dh
   simp only[bf,aR,Act.put]
   by_cases hi:i=d
   ·subst hi
    have h1:(a.tmps.setIfInBounds i val).getD i undef=val:=by simp[Array.getD,hs.size,dh]
    rw[if_pos rfl,h1]
    exact V.aS k2 _ _ hd
   ·have h1:(a.tmps.setIfInBounds d val).getD i undef=a.tmps.getD i undef:=by
     exact X4
    rw[if_neg hi,h1]
    exact RC
theorem fu(hs:cG M cY H0 w0 n cx φ s a w){aH:Place}{H':Hp}(hH:ay M aH H' w')(ht:Trans φ s.H w aH H' w'){o':Nat->aa}{nx':Nat}(ho:H'.o=o')(hu:∀id,H'.us id->id<nx'):
 cG M cY H0 w0 n cx aH ⟨s.env,o',nx'⟩ a w':=by
 obtain⟨k1,k2⟩:=j9 hH hu
 subst ho
 exact⟨k1,hs.tr.trans (ht.trans k2),hs.size,hs.defers.mono (ht.trans k2),fun i=>V.aS (ht.trans k2) _ _ (hs.env i)⟩
theorem N8{Δ:List (Nat×aa)}(h:∀id∈Δ.map (·.1),s.H.us id\/id=s.nx)(id:Nat)(hu:(s.H.put Δ).us id):id<s.nx+1:=by
 rcases hu with hu|hu
 ·exact Nat.lt_succ_of_lt hu
 ·rcases h id hu with h|h
  ·exact Nat.lt_succ_of_lt h
  ·omega
variable {next:Act->World->Prop}{Q:Exit->Act->World->Prop}{X:V->S->Prop}{K:S->Prop}
theorem N9(hs:cG M cY H0 w0 n cx φ s a w){o:Oper}{op:Op}(iS:o.op=op)(dh:iF n o.dst)(h:Q3 P s s.nx op fun v Δ _=>K ⟨bf s.env o.dst v,put s.o Δ,s.nx+1⟩)
 (hN:∀s' aH a' w',K s'->cG M cY H0 w0 n cx aH s' a' w'->next a' w'):o.wpIn (eB ro) k P a w next Q:=by
 obtain⟨nx,val,w',aH,v,Δ,rd,hK,hr,w8,g1,g2,g3,g4⟩:=zY hs.heap (s:=s) rfl hs.env (fr:=s.nx) (by simp[S.H]) iS h
 have Bz:=pB hs g1 g2 g3 dh (o':=put s.o Δ) (nx':=s.nx+1) rfl (N8 g4)
 refine lR (fun c hc=>by rw[iS]at hc;subst hc;exact h) ?_
 rw[hr]
 rcases w8 with rfl|⟨rfl,rfl⟩
 ·exact hN _ _ _ _ hK Bz
 ·exact hN _ _ _ _ hK Bz
theorem V.ri {B:Nat->Prop}{cI bs cs:List V}{u v x:List Value}(h1:V.aG B φ H w cI u)(h2:V.aG B φ H w bs v)(h3:V.aG B φ H w cs x):V.aG B φ H w (cI++bs++cs) (u++v++x):=
 V.bc _ _ _ _ (V.bc _ _ _ _ h1 h2) h3
theorem mA{f:FuncId}(h:Enters P f)(args:Array Value):(callFunc f args).run P w= .ok (.enter f args) w:=by
 obtain⟨fn,h1,h2,h3⟩:=h
 have tF:fn.name≠ "runtime.NumGoroutine" :=by simpa using h2
 have qF:fn.body≠none:=fun h=>by rw[h]at h3;cases h3
 simp[callFunc,h1,tF,qF]
theorem oi:∀ {rs:List D} {val:Value},R.is (ao M φ H) w (.ret rs) (.returned val)->V.den (ao M φ H) φ H w (kb rs) val
 |[],_,h=>by obtain⟨arr,rfl,h⟩:=h;exact⟨arr,rfl,h⟩
 |[x],_,h=>h
 |x::y::l,_,h=>by obtain⟨arr,rfl,h⟩:=h;exact⟨arr,rfl,(V.cA (x::y::l) _).2 h⟩
theorem R.BA {B B':Nat->Prop}:∀ {out:R} {e:Ending},out.flat=true->out.is B w e->out.is B' w e
 | .ret [], .returned _,_,h=>by obtain⟨arr,rfl,h⟩:=h;exact⟨arr,rfl,h⟩
 | .ret [x], .returned _,hf,h=>by
   simp only[R.flat,D.kN,Bool.and_true]at hf
   exact D.rI x _ hf h
 | .ret (x::y::l), .returned _,hf,h=>by obtain⟨arr,rfl,h⟩:=h;exact⟨arr,rfl,D.ng (x::y::l) _ hf h⟩
 | .bU d, .panicked _,hf,h=>by obtain⟨v,rfl,h⟩:=h;exact⟨v,rfl,D.rI d v hf h⟩
 | .ret [], .panicked _,_,h| .ret [_], .panicked _,_,h| .ret (_::_::_), .panicked _,_,h| .ret [], .outgrown,_,h| .ret [_], .outgrown,_,h| .ret (_::_::_), .outgrown,_,h| .bU _, .returned _,_,h| .bU _, .outgrown,_,h=>h.elim
theorem R.Oa {B B':Nat->Prop}{w':World}(hb:∀b,rk w' b-> ¬B b-> ¬B' b):∀ {out:R} {e:Ending},out.oF=true->out.is B w' e->out.is B' w' e
 | .ret [], .returned _,_,h=>by obtain⟨arr,rfl,h⟩:=h;exact⟨arr,rfl,h⟩
 | .ret [x], .returned _,hf,h=>by
   simp only[R.oF,D.nh,Bool.and_true]at hf
   exact D.mw (fun b hc hn=>⟨rfl,hb b hc hn⟩) x _ hf h
 | .ret (x::y::l), .returned _,hf,h=>by obtain⟨arr,rfl,h⟩:=h;exact⟨arr,rfl,D.oG (fun b hc hn=>⟨rfl,hb b hc hn⟩) (x::y::l) _ hf h⟩
 | .bU d, .panicked _,hf,h=>by obtain⟨v,rfl,h⟩:=h;exact⟨v,rfl,D.mw (fun b hc hn=>⟨rfl,hb b hc hn⟩) d v hf h⟩
 | .ret [], .panicked _,_,h| .ret [_], .panicked _,_,h| .ret (_::_::_), .panicked _,_,h| .ret [], .outgrown,_,h| .ret [_], .outgrown,_,h| .ret (_::_::_), .outgrown,_,h| .bU _, .returned _,_,h| .bU _, .outgrown,_,h=>h.elim
theorem Ob(hH:ay M φ H w){o:Nat->aa}:∀ (vs:List V) (vals:List Value),(∀id∈dD o vs,H.o id=(o id).fz)->V.aG (ao M φ H) φ H w vs vals->V.aG (ao M φ H) φ H w (vs.map (N5 o)) vals
 |[],_,_,h=>h
 |v::vs,_,ho,h=>by
  obtain⟨u,us,rfl,h1,h2⟩:=h
  refine⟨u,us,rfl, ?_,Ob hH vs us (fun id aq=>ho id (by simp[dD,aq])) h2⟩
  unfold N5
  split
  ·rename_i x hx
   exact eG hH v x u (fun id aq=>ho id (by simp[dD,hx,aq])) hx h1
  ·exact h1
theorem iG:∀ (vs:List V) (vals:List Value) (o:Nat->aa),V.aG (ao M φ H) φ H w vs vals->∀id∈dD o vs,H.us id
 |[],_,_,_,j,hj=>by simp[dD]at hj
 |v::vs,_,o,h,j,hj=>by
  obtain⟨u,us,rfl,h1,h2⟩:=h
  simp only[dD,List.mem_append]at hj
  rcases hj with hj|hj
  ·cases hx:dS o v with
   |none=>simp[hx]at hj
   |some x=>simp only[hx]at hj;exact b9 v u h1 j hj
  ·exact iG vs us o h2 j hj
theorem zZ(hs:cG M cY H0 w0 n cx φ s a w){o:Oper}{g:FuncId}{all:List V}{vals:Array Value}(dh:iF n o.dst)(fO:Enters P g->(execOp a.eval o).run P w= .ok (.enter g vals) w)(bu:V.aG (ao M φ s.H) φ s.H w all vals.toList)
 (h:cX P g all s.o s.nx (fun v o' nx'=>K ⟨bf s.env o.dst v,o',nx'⟩) (fun v o' nx'=>X v ⟨s.env,o',nx'⟩))
 (hN:∀s' aH a' w',K s'->cG M cY H0 w0 n cx aH s' a' w'->next a' w')
 (hQ:∀v s' aH w' val,X v s'->cG M cY H0 w0 n cx aH s' a w'->V.den (ao M aH s'.H) aH s'.H w' v val->Q (.panic [{v:=val,recovered:=false}]) a w'):o.uponIn (eB ro) k P a next Q ((execOp a.eval o).run P w):=by
 have fC:=h.2 M φ w vals hs.heap bu
 rw[fO h.1]
 refine⟨fun hd=>by simp[eB]at hd,dB (fC.mono fun e w' ⟨aH,o',nx',v,k1,k2,k3⟩=> ?_)⟩
 cases e with
 |returned val=>exact UB
 |panicked ch=>
  obtain⟨val,rfl,k4,k5⟩:=k3
  exact acV
 |outgrown=>exact k3.elim
theorem DS(hs:cG M cY H0 w0 n cx φ s a w){o:Oper}{g:FuncId}{all:List V}{vals:Array Value}(dh:iF n o.dst)(fO:Enters P g->(execOp a.eval o).run P w= .ok (.enter g vals) w)(bu:V.aG (ao M φ s.H) φ s.H w all vals.toList)
 (h:wY P s g all (fun v o' nx'=>K ⟨bf s.env o.dst v,o',nx'⟩) (fun v o' nx'=>X v ⟨s.env,o',nx'⟩))
 (hN:∀s' aH a' w',K s'->cG M cY H0 w0 n cx aH s' a' w'->next a' w')
 (hQ:∀v s' aH w' val,X v s'->cG M cY H0 w0 n cx aH s' a w'->V.den (ao M aH s'.H) aH s'.H w' v val->Q (.panic [{v:=val,recovered:=false}]) a w'):o.uponIn (eB ro) k P a next Q ((execOp a.eval o).run P w):=by
 unfold wY at h
 obtain⟨f1,f2,f3,f4,f5⟩:=cW hs.heap (V.bC all) (du all _ bu)
 have gS:s.H.put (bY s.H.o (V.bC all))=⟨put s.o (bY s.o (V.bC all)),s.H.us⟩:=mz Nj
 have oH:=V.aQ f2 _ _ bu
 rcases h with⟨ds,out,fL,hP,hK⟩|⟨ds,out,fL,hP,nX,hK⟩|⟨ds,out,fL,hP,hnm,hK⟩|hC|hC
 ·have zN:=dN f1 all ds _ f3 fL oH
  have hM:∀b,ao M φ (s.H.put (bY s.H.o (V.bC all))) b->b<w.heap.size:=fun b hb=>hb.elim (f1.Bh b) fun hl=>(f1.ours b hl).2
  have fC:=hP.2 _ w vals hM zN
  rw[fO hP.1]
  refine⟨fun hd=>by simp[eB]at hd,dB (fC.mono fun e w' ⟨hk,ho⟩=> ?_)⟩
  obtain⟨k1,k2⟩:=eT f1 hk
  cases out with
  |ret rs=>
   cases e with
   |returned val=>
    refine hN _ _ _ _ hK (pB hs k1 (f2.trans k2) (oi ho) dh (by rw[gS]) ?_)
    intro id hu;rw[gS]at hu;exact Nat.lt_succ_of_lt hu
   |panicked ch=>exact yV
   |outgrown=>exact yV
  |bU x=>
   cases e with
   |returned val=>exact ho.elim
   |panicked ch=>
    obtain⟨val,rfl,hd⟩:=ho
    have Bz:=fu hs k1 (f2.trans k2) (o':=put s.o (bY s.o (V.bC all))) (nx':=s.nx+1) (by rw[gS]) (fun id hu=>by rw[gS]at hu;exact Nat.lt_succ_of_lt hu)
    refine hQ _ _ _ _ val hK Bz ?_
    have e1:ao M φ (S.H ⟨s.env,put s.o (bY s.o (V.bC all)),s.nx+1⟩)=ao M φ (s.H.put (bY s.H.o (V.bC all))):=by rw[gS];rfl
    simp only[V.den]
    rw[e1];exact hd
   |outgrown=>exact ho.elim
 ·have zN:=dN f1 all ds _ f3 fL oH
  have hM:∀b,ao M φ (s.H.put (bY s.H.o (V.bC all))) b->b<w.heap.size:=fun b hb=>hb.elim (f1.Bh b) fun hl=>(f1.ours b hl).2
  have fC:=hP.2 _ w vals hM zN
  rw[fO hP.1]
  refine⟨fun hd=>by simp[eB]at hd,dB (fC.mono fun e w' ⟨hk,ho⟩=> ?_)⟩
  obtain⟨k1,k2⟩:=eT hs.heap hk
  have ho:=R.BA (B':=ao M φ s.H) nX ho
  cases out with
  |ret rs=>
   cases e with
   |returned val=>
    exact hN _ _ _ _ hK (pB hs k1 k2 (oi ho) dh rfl fun id hu=>Nat.lt_succ_of_lt hu)
   |panicked ch=>exact yV
   |outgrown=>exact yV
  |bU x=>
   cases e with
   |returned val=>exact ho.elim
   |panicked ch=>
    obtain⟨val,rfl,hd⟩:=ho
    exact hQ _ _ _ _ val hK (fu hs k1 k2 (o':=s.o) (nx':=s.nx+1) rfl fun id hu=>Nat.lt_succ_of_lt hu) hd
   |outgrown=>exact ho.elim
 ·obtain⟨a1,a2,a3,a4,a5⟩:=cW hs.heap ((V.bC all).filter fun id=>(s.o id).my) (fun id aq=>du all _ bu id (List.mem_filter.1 aq).1)
  have DT:s.H.put (bY s.H.o ((V.bC all).filter fun id=>(s.o id).my))=⟨put s.o (tq s.o (V.bC all)),s.H.us⟩:=by
   rw[R1]
   exact mz (by rw[vH];exact fun id aq=>du all _ bu id (List.mem_filter.1 aq).1)
  have zN:=dN f1 all ds _ f3 fL oH
  have hM:∀b,ao M φ (s.H.put (bY s.H.o (V.bC all))) b->b<w.heap.size:=fun b hb=>hb.elim (f1.Bh b) fun hl=>(f1.ours b hl).2
  have fC:=hP.2 _ w vals hM zN
  rw[fO hP.1]
  refine⟨fun hd=>by simp[eB]at hd,dB (fC.mono fun e w' ⟨hk,ho⟩=> ?_)⟩
  obtain⟨k1,k2⟩:=eT a1 hk
  have dH:∀b,rk w' b-> ¬ao M φ (s.H.put (bY s.H.o (V.bC all))) b-> ¬ao M φ (s.H.put (bY s.H.o ((V.bC all).filter fun id=>(s.o id).my))) b:=by
   intro b hc hn hm
   rcases hm with hM|⟨id,hl,hb⟩
   ·exact hn (.inl hM)
   ·by_cases aq:id∈V.bC all
    ·cases hx:s.H.o id with
     |arr ep ty sz es=>
      rw[a3 id (List.mem_filter.2 ⟨aq,by show(s.H.o id).my=true;rw[hx];rfl⟩),hx]at hl
      cases hl
     |map kt vt l=>
      have me:id∉(V.bC all).filter fun id=>(s.o id).my:=fun h=>by
       have h2:(s.H.o id).my=true:=(List.mem_filter.1 h).2
       rw[hx]at h2;cases h2
      have bp:=k1.ok id
      unfold aO at bp
      rw[a4 id me,hx]at bp
      obtain⟨b',es,clock,g1,g2,_⟩:=bp
      rw[g1]at hb
      injection hb with hb
      subst hb
      obtain⟨cs,ty,fz,hc⟩:=hc
      rw[g2]at hc
      cases hc
     |_=>
      have me:id∉(V.bC all).filter fun id=>(s.o id).my:=fun h=>by
       have h2:(s.H.o id).my=true:=(List.mem_filter.1 h).2
       rw[hx]at h2;cases h2
      refine hn (.inr ⟨id, ?_,hb⟩)
      rw[a4 id me,hx]at hl
      rw[f3 id aq,hx]
      exact hl
    ·have me:id∉(V.bC all).filter fun id=>(s.o id).my:=fun h=>aq (List.mem_filter.1 h).1
     refine hn (.inr ⟨id, ?_,hb⟩)
     rw[a4 id me]at hl
     rw[f4 id aq]
     exact hl
  have ho:=R.Oa (w':=w') (B':=ao M φ (s.H.put (bY s.H.o ((V.bC all).filter fun id=>(s.o id).my)))) dH hnm ho
  cases out with
  |ret rs=>
   cases e with
   |returned val=>
    refine hN _ _ _ _ hK (pB hs k1 (a2.trans k2) (oi ho) dh (by rw[DT]) ?_)
    intro id hu;rw[DT]at hu;exact Nat.lt_succ_of_lt hu
   |panicked ch=>exact yV
   |outgrown=>exact yV
  |bU x=>
   cases e with
   |returned val=>exact ho.elim
   |panicked ch=>
    obtain⟨val,rfl,hd⟩:=ho
    have Bz:=fu hs k1 (a2.trans k2) (o':=put s.o (tq s.o (V.bC all))) (nx':=s.nx+1) (by rw[DT]) (fun id hu=>by rw[DT]at hu;exact Nat.lt_succ_of_lt hu)
    refine hQ _ _ _ _ val hK Bz ?_
    have e1:ao M φ (S.H ⟨s.env,put s.o (tq s.o (V.bC all)),s.nx+1⟩)=ao M φ (s.H.put (bY s.H.o ((V.bC all).filter fun id=>(s.o id).my))):=by rw[DT];rfl
    simp only[V.den]
    rw[e1];exact hd
   |outgrown=>exact ho.elim
 ·exact zZ hs dh fO bu hC hN hQ
 ·obtain⟨f1,f2,f3,f4,f5⟩:=cW hs.heap (dD s.o all) (iG all _ s.o bu)
  have gS:s.H.put (bY s.H.o (dD s.o all))=hp (put s.o (bY s.o (dD s.o all))) s.nx:=mz (by rw[vH];exact iG all _ s.o bu)
  have oH:=Ob f1 all _ f3 (V.aQ f2 _ _ bu)
  rw[gS]at f1 f2 oH
  exact zZ (s:=⟨s.env,put s.o (bY s.o (dD s.o all)),s.nx⟩) (fu hs f1 f2 rfl fun id hu=>hu) dh fO oH hC hN hQ
theorem R2(hs:cG M cY H0 w0 n cx φ s a w){o:Oper}{c:Call}{f:Operand}(iS:o.op= .call c)(hc:c.callee= .value f)(dh:iF n o.dst)
 (h:DO P s (s.ev f) (c.args.toList.map s.ev) (fun v o' nx'=>K ⟨bf s.env o.dst v,o',nx'⟩) (fun v o' nx'=>X v ⟨s.env,o',nx'⟩))
 (hN:∀s' aH a' w',K s'->cG M cY H0 w0 n cx aH s' a' w'->next a' w')
 (hQ:∀v s' aH w' val,X v s'->cG M cY H0 w0 n cx aH s' a w'->V.den (ao M aH s'.H) aH s'.H w' v val->Q (.panic [{v:=val,recovered:=false}]) a w'):o.wpIn (eB ro) k P a w next Q:=by
 refine lR (fun c' uw=>by rw[iS]at uw;cases uw) ?_
 have hf:=ox (M:=M) (φ:=φ) (H:=s.H) (w:=w) s a hs.env f
 have eC:=lM (M:=M) (φ:=φ) (H:=s.H) (w:=w) s a hs.env c.args.toList
 unfold DO at h
 split at h
 ·rename_i g first cap yX
  rw[yX]at hf
  obtain⟨fa,ca,Ys,ID,hca⟩:=hf
  have bu:V.aG (ao M φ s.H) φ s.H w (first++c.args.toList.map s.ev++cap) (fa++c.args.map a.eval++ca).toList:=by
   exact UU
  generalize first++c.args.toList.map s.ev++cap=all at h bu
  generalize kD:fa++c.args.map a.eval++ca=vals at bu
  have fO:Enters P g->(execOp a.eval o).run P w= .ok (.enter g vals) w:=by
   intro he
   have:=mA (w:=w) he (fa++c.args.map a.eval++ca)
   rw[kD]at this
   simp[execOp,iS,resolve,hc,Ys,Deferred.ofValue,invoke,this,kD]
  exact DS hs dh fO bu h hN hQ
 ·rename_i id yX
  rw[yX]at hf
  obtain⟨_,dg,Vs⟩:=hf
  obtain⟨bD,hR⟩:=h
  obtain⟨b,dz,Ys⟩:=Vs bD
  obtain⟨fn,tmps,assign,body,h1,h2⟩:=hR M φ w (c.args.map a.eval) b hs.heap (by rw[Array.toList_map];exact eC) dz
  have fO:(execOp a.eval o).run P w= .ok (.round b fn tmps assign body) w:=by
   simp[execOp,iS,resolve,hc,Ys,Deferred.ofValue,invoke,h1]
  rw[fO]
  refine⟨fun hd=>by simp[eB]at hd,RoundIn.mono (h2 (k - 1)) fun e w' ⟨aH,o',nx',v,k1,k2,k3⟩=> ?_⟩
  cases e with
  |returned val=>exact UB
  |panicked ch=>
   obtain⟨val,rfl,k4,k5⟩:=k3
   exact acV
  |outgrown=>exact k3.elim
 ·exact h.elim
theorem K8(hs:cG M cY H0 w0 n cx φ s a w){o:Oper}{c:Call}{r:Operand}{m:String}{g:FuncId}{y:V}(iS:o.op= .call c)(hc:c.callee= .invoke r m)(dh:iF n o.dst)(hr:wZ P m (s.ev r)=some (g,y))
 (h:wY P s g (y::c.args.toList.map s.ev) (fun v o' nx'=>K ⟨bf s.env o.dst v,o',nx'⟩) (fun v o' nx'=>X v ⟨s.env,o',nx'⟩))
 (hN:∀s' aH a' w',K s'->cG M cY H0 w0 n cx aH s' a' w'->next a' w')
 (hQ:∀v s' aH w' val,X v s'->cG M cY H0 w0 n cx aH s' a w'->V.den (ao M aH s'.H) aH s'.H w' v val->Q (.panic [{v:=val,recovered:=false}]) a w'):o.wpIn (eB ro) k P a w next Q:=by
 refine lR (fun c' uw=>by rw[iS]at uw;cases uw) ?_
 have hf:=ox (M:=M) (φ:=φ) (H:=s.H) (w:=w) s a hs.env r
 have eC:=lM (M:=M) (φ:=φ) (H:=s.H) (w:=w) s a hs.env c.args.toList
 unfold wZ at hr
 split at hr
 ·rename_i t d hx
  rw[hx]at hf
  obtain⟨val,hv,hd⟩:=hf
  split at hr
  ·rename_i ti hti
   split at hr
   ·rename_i mr vO
    split at hr
    ·rename_i f MH
     split at hr
     ·rename_i Vt
      injection hr with hr
      injection hr with h1 h2
      subst h1;subst h2
      refine DS (vals:=#[val]++c.args.map a.eval) hs dh ?_ ?_ h hN hQ
      ·intro he
       have fO:=mA (w:=w) he (#[val]++c.args.map a.eval)
       have Q7:mr.path=#[]:=Array.isEmpty_iff.1 Vt.1
       have hu:∃u,P.underlying t=some u/\∀e,u≠ .pointer e:=by
        have:=Vt.2
        unfold Vr at this
        split at this
        ·cases this
        ·rename_i u iz hu;exact⟨u,hu,fun e he=>iz e he⟩
        ·cases this
       obtain⟨u,hu,Vu⟩:=hu
       have hm:(method (P.types.size+Made.depth) t val m).run P w= .ok (f,val) w:=by
        have:P.types.size+Made.depth=(P.types.size+Made.depth - 1)+1:=by simp[Made.depth]
        rw[this]
        cases u<;>first|exact absurd rfl (Vu _)|simp[method,typeInfo,hti,vO,Q7,MH,follow,receiverAt,run_underlying hu,_root_.Go.Place.get]
       have h0:(#[Value.iface t val]++Array.map a.eval c.args)[0]? =some (.iface t val):=by
        rw[Array.getElem?_append_left (by simp)];rfl
       have h1:(Array.map a.eval c.args).extract 0 c.args.size=Array.map a.eval c.args:=by
        rw[show c.args.size=(Array.map a.eval c.args).size from by simp,Array.extract_size]
       simp[execOp,iS,resolve,hc,invoke,callMethod,hv,h0,h1,hm,fO]
      ·simp only[Array.toList_append,Array.toList_map]
       exact⟨val,_,rfl,hd,eC⟩
     ·cases hr
    ·cases hr
   ·cases hr
  ·cases hr
 ·cases hr
theorem z7(hs:cG M cY H0 w0 n cx φ s a w){o:Oper}(h:opW P n s o X K)
 (hN:∀s' aH a' w',K s'->cG M cY H0 w0 n cx aH s' a' w'->next a' w')
 (hQ:∀v s' aH w' val,X v s'->cG M cY H0 w0 n cx aH s' a w'->V.den (ao M aH s'.H) aH s'.H w' v val->Q (.panic [{v:=val,recovered:=false}]) a w'):o.wpIn (eB ro) k P a w next Q:=by
 obtain⟨dh,h⟩:=h
 split at h
 ·rename_i c iS
  split at h
  ·rename_i f hc
   exact R2 hs iS hc dh h hN hQ
  ·rename_i r m hc
   split at h
   ·rename_i g y hr;exact K8 hs iS hc dh hr h hN hQ
   ·exact h.elim
  ·exact N9 hs rfl dh h hN
 ·rename_i x iS
  have hx:=ox (M:=M) (φ:=φ) (H:=s.H) (w:=w) s a hs.env x
  have bU:∀ (t:TypeId) (u:Value),a.eval x= .iface t u->Q (.panic [{v:= .iface t u,recovered:=false}]) a w->o.wpIn (eB ro) k P a w next Q:=by
   intro t u hu hq
   refine lR (fun c hc=>by rw[iS]at hc;cases hc) ?_
   have hr:(execOp a.eval o).run P w= .halt (.panic (.iface t u)) w:=by simp[execOp,iS,hu,Instr.panic]
   rw[hr];exact hq
  split at h
  ·rename_i t y hv
   rw[hv]at hx
   obtain⟨u,hu,hd⟩:=hx
   exact UD
  ·rename_i t y hv
   rw[hv]at hx
   obtain⟨u,hu,hd⟩:=hx
   exact UD
  ·exact h.elim
 ·exact N9 hs rfl dh h hN
end
end
end Go.Proofs.YtnkamdiiakdkgaaGreat
namespace Go
def Code.vl (P:Program)(ro:Option Nat)(c:Code)(Q:Exit->Act->World->Prop)(a:Act)(w:World):Prop:=
 ∀ (b:Frame) (k:List Item) (cs:List Frame),b.roundOf=ro->b.fn<P.funcs.size->
   ∃e a' w',Q e a' w'/\ArrivesIn (Machine.fenced P (Proofs.YtnkamdiiakdkgaaGreat.eB ro)) P (lone (b.atR a (.code c::k)) cs w) b k cs e a' w'
end Go
namespace Go.Proofs.YtnkamdiiakdkgaaGreat
instance:LawfulMonad Sem:=LawfulMonad.mk' Sem (id_map:=fun x=>Sem.bind_pure' x) (pure_bind:=fun _ _=>rfl) (bind_assoc:=fun x f g=>Sem.bind_assoc' x f g)
section
variable {P:Program}{M:Nat->Prop}{φ:Place}{H:Hp}{w w':World}{cY:Place}{H0:Hp}{w0:World}{n b:Nat}{s:S}{a:Act}{cx:Cx}{ro:Option Nat}{k:Nat}
theorem rL(hs:cG M cY H0 w0 n cx φ s a w){ops:Array Oper}{o:Oper}{A B:Prop}(h:Bw s ops o.guard A B):
 (Region.wanted o (yielded ops a.tmps)=true->A)/\(Region.wanted o (yielded ops a.tmps)=false->B):=by
 unfold Bw at h
 unfold Region.wanted
 split at h
 ·rename_i hg;simp only[hg];exact⟨fun _=>h,fun h=>by cases h⟩
 ·rename_i j want hg
  simp only[hg]
  unfold uy at h
  unfold yielded
  split at h
  ·rename_i d hd
   simp only[hd,Option.bind_some]
   have eA:=hs.env d
   split at h
   ·rename_i c hv
    rw[hv]at eA
    simp only[V.den,D.den]at eA
    have:a.tmps[d]? =some (.bool c):=by
     rw[Array.getD_eq_getD_getElem?]at eA
     cases hx:a.tmps[d]? with
     |none=>rw[hx]at eA;simp[undef]at eA
     |some x=>rw[hx]at eA;simp at eA;rw[eA]
    simp only[this]
    by_cases hc:c=want
    ·subst hc;exact⟨fun _=>h.1 rfl,fun h=>by simp at h⟩
    ·exact⟨fun h'=>absurd (by simpa using h') hc,fun _=>h.2 hc⟩
   ·rename_i hv
    rw[hv]at eA
    obtain⟨arr,dE,hn⟩:=eA
    simp only[V.aG]at hn
    have:∀c,a.tmps[d]? ≠some (.bool c):=by
     exact Vj
    cases hx:a.tmps[d]? with
    |none=>exact⟨fun h=>by simp at h,fun _=>h⟩
    |some x=>cases x<;>first|(exact absurd hx (this _))|(exact⟨fun h=>by simp at h,fun _=>h⟩)
   ·exact h.elim
  ·rename_i hd
   simp only[hd,Option.bind_none]
   exact⟨fun h=>by simp at h,fun _=>h⟩
theorem DU(hs:cG M cY H0 w0 n cx φ s a w){dst:Option Tmp}(dh:iF n dst):cG M cY H0 w0 n cx φ ⟨bf s.env dst (.cc []),s.o,s.nx+1⟩ (a.put dst undef) w:=
 pB (v:= .cc []) (val:=undef) hs hs.heap (Trans.refl _ _ _) ⟨#[],rfl,rfl⟩ dh rfl fun _ hu=>Nat.lt_succ_of_lt hu
theorem qG{ops:Array Oper}{X:V->S->Prop}{K:S->Prop}{Q:Exit->Act->World->Prop}
 (hK:∀s φ a w,K s->cG M cY H0 w0 n cx φ s a w->Q .normal a w)
 (hQ:∀v s' aH a w' val,X v s'->cG M cY H0 w0 n cx aH s' a w'->V.den (ao M aH s'.H) aH s'.H w' v val->Q (.panic [{v:=val,recovered:=false}]) a w'):
 ∀ (l:List Oper) (s:S) (φ:Place) (a:Act) (w:World),Bx P n ops X K l s->cG M cY H0 w0 n cx φ s a w->wpListIn (eB ro) k P ops Q l a w
 |[],s,φ,a,w,h,hs=>hK s φ a w h hs
 |o::l,s,φ,a,w,h,hs=>by
  obtain⟨h1,h2⟩:=rL hs h
  unfold wpListIn
  split
  ·rename_i hw
   exact z7 hs (h1 hw) (fun s' aH a' w' hk j7=>qG hK hQ l s' aH a' w' hk j7) (fun v s' aH w' val hx j7 hd=>hQ v s' aH a w' val hx j7 hd)
  ·rename_i hw
   obtain⟨dh,h3⟩:=h2 (by simpa using hw)
   exact⟨fun _ _=>trivial,qG hK hQ l _ _ _ _ h3 (DU hs dh)⟩
def I1(M:Nat->Prop)(cY:Place)(H0:Hp)(w0:World)(n:Nat)(cx:Cx)(Q:fW->S->Prop)(e:Exit)(a:Act)(w:World):Prop:=
 ∃x s φ,Q x s/\cG M cY H0 w0 n cx φ s a w/\match e,x with
  | .normal, .normal=>True
  | .exit i, .exit j=>i=j
  | .ret, .ret=>True
  | .panic ch, .bU v=>∃val,ch=[{v:=val,recovered:=false}]/\V.den (ao M φ s.H) φ s.H w v val
  |_,_=>False
section
variable {Q:Exit->Act->World->Prop}
theorem iH{m:Nat}:(eB ro).room m:=fun d hd=>by simp[eB]at hd
theorem qH{c:Code}(h:c.wpIn (eB ro) k P Q a w):c.vl P ro Q a w:=fun b k cs vO _=>h b k cs vO trivial iH
theorem iI{c:Code}{Q':Exit->Act->World->Prop}(h:c.vl P ro Q a w)(hq:∀e a w,Q e a w->Q' e a w):c.vl P ro Q' a w:=
 fun b k cs vO hb=>let⟨e,a',w',q,r⟩:=h b k cs vO hb;⟨e,a',w',hq _ _ _ q,r⟩
theorem I2(h:Q .ret a w):Code.ret.vl P ro Q a w:=qH (k:=0) (wpIn_ret h)
theorem DV{id:Nat}(h:Q (.exit id) a w):(Code.exit id).vl P ro Q a w:=qH (k:=0) (wpIn_exit h)
theorem BB{x y:Code}(h:x.vl P ro (Exit.then (y.vl P ro Q) Q) a w):(Code.seq x y).vl P ro Q a w:=by
 intro b k cs vO hb
 have h0:(lone (b.atR a (.code (.seq x y)::k)) cs w).fenced P (eB ro):=fenced_calm (n:=0) trivial iH rfl
 obtain⟨e,pU,ky,hq,dE⟩:=h b (.code y::k) cs vO hb
 cases e with
 |normal=>
  obtain⟨Yt,adQ,tI,rM,lS⟩:=hq b k cs vO hb
  exact⟨Yt,adQ,tI,rM, .of_steps (.head h0 stepR_seq dE) lS⟩
 |exit id=>exact MX
 |goto l=>exact MX
 |ret=>exact MX
 |panic ch=>exact MX
 |outgrown=>exact MX
theorem rN{c:Operand}{x y:Code}{t:Bool}(hc:a.eval c= .bool t)(h:(if t then x else y).vl P ro Q a w):(Code.cond c x y).vl P ro Q a w:=
 fun b k cs vO hb=>let⟨e,a',w',q,r⟩:=h b k cs vO hb;⟨e,a',w',q, .of_steps (.one (fenced_calm (n:=0) trivial iH rfl) (stepR_cond hc)) r⟩
theorem K9{id:Nat}{c:Code}(h:c.vl P ro (Exit.inBlock id Q) a w):(Code.block id c).vl P ro Q a w:=by
 intro b k cs vO hb
 have h0:(lone (b.atR a (.code (.block id c)::k)) cs w).fenced P (eB ro):=fenced_calm (n:=0) trivial iH rfl
 obtain⟨e,pU,ky,hq,dE⟩:=h b (.inBlock id::k) cs vO hb
 cases e with
 |normal=>exact⟨.normal,pU,ky,hq, .head h0 stepR_block (StepsIn.trans dE (.one (fenced_calm (n:=0) trivial iH rfl) stepR_inBlock))⟩
 |exit dw=>
  by_cases aq:dw=id
  ·simp only[Exit.inBlock,aq,if_true]at hq
   exact⟨.normal,pU,ky,hq, .head h0 stepR_block (dE.1 k (by simp[exitTo,aq]))⟩
  ·simp only[Exit.inBlock,aq,if_false]at hq
   have this:(id==dw)=false:=by simp;exact fun h=>aq h.symm
   have hx:exitTo dw (.inBlock id::k)=exitTo dw k:=by simp[exitTo,this]
   exact⟨.exit dw,pU,ky,hq,fun k' hk=> .head h0 stepR_block (dE.1 k' zD),
    fun zd hk=>let⟨k₁,h1,h2⟩:=dE.2 zd zD;⟨k₁,h1, .head h0 stepR_block h2⟩⟩
 |goto l=>
  have hx:gotoIn l (.inBlock id::k)=gotoIn l k:=by simp[gotoIn]
  exact⟨_,pU,ky,hq,fun k' hk=> .head h0 stepR_block (dE.1 k' zD),
   fun zd hk=>let⟨k₁,h1,h2⟩:=dE.2 zd zD;⟨k₁,h1, .head h0 stepR_block h2⟩⟩
 |ret=>exact XN
 |panic ch=>exact XN
 |outgrown=>exact XN
theorem lJ{b:Frame}{k:List Item}{cs:List Frame}{c:Code}:step P (lone (b.atR a (.code (.scope c)::k)) cs w)= .next (lone (b.atR a (.code c:: .inScope c::k)) cs w):=
 step_lone_go (by simp[stepG,stepG.exec,Frame.atR])
theorem ze{b:Frame}{k:List Item}{cs:List Frame}{c:Code}:step P (lone (b.atR a (.inScope c::k)) cs w)= .next (lone (b.atR a k) cs w):=
 step_lone_go (by simp[stepG,stepG.exec,Frame.atR])
theorem z8{c:Code}(h:c.vl P ro Q a w)(hg:∀l a w, ¬Q (.goto l) a w):(Code.scope c).vl P ro Q a w:=by
 intro b k cs vO hb
 have h0:(lone (b.atR a (.code (.scope c)::k)) cs w).fenced P (eB ro):=fenced_calm (n:=0) trivial iH rfl
 obtain⟨e,pU,ky,hq,dE⟩:=h b (.inScope c::k) cs vO hb
 cases e with
 |normal=>exact⟨.normal,pU,ky,hq, .head h0 lJ (StepsIn.trans dE (.one (fenced_calm (n:=0) trivial iH rfl) ze))⟩
 |exit dw=>
  have hx:exitTo dw (.inScope c::k)=exitTo dw k:=by simp[exitTo]
  exact⟨.exit dw,pU,ky,hq,fun k' hk=> .head h0 lJ (dE.1 k' zD),
   fun zd hk=>let⟨k₁,h1,h2⟩:=dE.2 zd zD;⟨k₁,h1, .head h0 lJ h2⟩⟩
 |goto l=>exact(hg _ _ _ hq).elim
 |ret=>exact XO
 |panic ch=>exact XO
 |outgrown=>exact XO
def w9(P:Program)(l:Nat)(Q:Exit->Act->World->Prop)(a':Act):Ending->World->Prop
 | .returned _,GO=>∃jump vm,(Instr.endLoop l).run P GO= .ok jump vm/\(match jump with|none=>Q .normal a' vm|some c=>c.vl P none Q a' vm)
 | .panicked chain,GO=>Q (.panic chain) a' GO
 | .outgrown,_=>LetsOut Q
theorem zf{g:Operand}{ps:Array Tmp}{assign body:Code}
 (h:∀fn,fn<P.funcs.size->∃ (l:Nat) (mark:List Deferred) (ky:World) (d:Deferred) (Aa:World) (f:FuncId) (args:Array Value) (tI:World),
  (Instr.enterLoop fn a.tmps ps assign body (eB none).round).run P w= .ok (l,mark) ky/\(resolve a.eval (rangeCall g l) 0).run P ky= .ok d Aa/\
  (invoke d.target d.args).run P Aa= .ok (.enter f args) tI/\CallsIn (eB none) 0 P f args tI (w9 P l Q {a with defers:=mark++a.defers})):
 (Code.rangeFunc g ps assign body).vl P none Q a w:=by
 intro b k cs vO hb
 obtain⟨l,mark,ky,d,Aa,f,args,tI,he,BC,hinv,hF,fC⟩:=h b.fn hb
 rw[show(eB none).round=b.roundOf from vO.symm]at he
 have calm:∀ (m:Machine),m.fenced P (eB none)↔m.fenced P Fence.wide:=fun m=>Iff.rfl
 have h0:(lone (b.atR a (.code (.rangeFunc g ps assign body)::k)) cs w).fenced P (eB none):=(calm _).2 (fenced_wide P _)
 have nj:=stepR_rangeFunc (P:=P) (b:=b) (a:=a) (k:=k) (cs:=cs) (w:=w) he BC hinv
 obtain⟨e,GO,fr,hR,GP,MH,Oc⟩:=fC (b.atR {a with defers:=mark++a.defers} (.inRangeFunc l::k)::cs) iH
 cases e with
 |outgrown=>
  obtain⟨ahx,ahy,hq⟩:=hR
  exact⟨.outgrown,ahx,ahy,hq, .inr (Outgrown.of_steps (.one nj) GP)⟩
 |returned v=>
  obtain⟨jump,vm,de,hj⟩:=hR
  have Vv:StepsIn (Machine.fenced P (eB none)) P (lone (b.atR a (.code (.rangeFunc g ps assign body)::k)) cs w) (lone (b.atR {a with defers:=mark++a.defers} ((jump.map Item.code).toList++k)) cs vm):=by
   refine .head h0 nj (StepsIn.trans GP (.head ((calm _).2 (fenced_wide P _)) ?_ (.one ((calm _).2 (fenced_wide P _)) (stepR_endRangeFunc de))))
   rw[<- finish_atR_inRangeFunc l v];exact step_leave_returned Oc
  cases jump with
  |none=>exact⟨.normal,_,vm,hj,Vv⟩
  |some c=>
   obtain⟨e',a'',ahz,hq,dE⟩:=hj b k cs vO hb
   exact⟨e',a'',ahz,hq, .of_steps Vv dE⟩
 |panicked chain=>
  refine⟨.panic chain,_,GO,hR, .inRangeFunc l::k, .head h0 nj (StepsIn.trans GP (.one ((calm _).2 (fenced_wide P _)) ?_))⟩
  rw[<- Frame.raise_atR];exact step_leave_panicked Oc
end
theorem Ab(hH:ay M φ H w){id l:Nat}(dg:H.us id){nf m:Nat}{env:List V}{ps:List Nat}{jM fm:IC}{st st':LoopState}{pd pd':Option lC}(ho:H.o id= .loop nf m env ps jM fm st pd)(dz:φ id= .pointer (some ⟨l,0,none⟩)):
 ∃r,w.heap[l]? =some (.loop r)/\r.state=st/\r.pending=pd.map lC.code/\
  ay M φ (H.put [(id, .loop nf m env ps jM fm st' pd')]) {w with heap:=w.heap.setIfInBounds l (.loop {r with state:=st',pending:=pd'.map lC.code})}/\
  Trans φ H w φ (H.put [(id, .loop nf m env ps jM fm st' pd')]) {w with heap:=w.heap.setIfInBounds l (.loop {r with state:=st',pending:=pd'.map lC.code})}:=by
 have bp:=hH.ok id
 simp only[aO,ho]at bp
 obtain⟨b,r,h1,h2,h0,h3,h4,h5,h6,h7,h8,h9⟩:=bp
 rw[dz]at h1;simp at h1;subst h1
 refine⟨r,h2,h3,h4, ?_⟩
 have N2:ed (· =l) w {w with heap:=w.heap.setIfInBounds l (.loop {r with state:=st',pending:=pd'.map lC.code})}:=
  ⟨rfl,rfl,rfl,aJ,fun j _ hj=>(MapKept.heap_set h2).2 j hj⟩
 have wS:(H.o id).live=true:=by rw[ho];rfl
 have GJ:dG (φ id)=some l:=by rw[dz];rfl
 have ht:=fy (w:=w) (w':={w with heap:=w.heap.setIfInBounds l (.loop {r with state:=st',pending:=pd'.map lC.code})}) dg wS GJ N2 (.loop nf m env ps jM fm st' pd') eL eL
 refine⟨iZ hH dg wS GJ N2 _ eL eL ?_,ht⟩
 unfold aO
 simp only[bT,aR,if_true]
 exact⟨l,_,dz,(MapKept.heap_set h2).1,h0,rfl,rfl,h5,h6,h7,h8,fun i=>V.aS ht _ _ (h9 i)⟩
theorem jO{l:Nat}{r:Loop}(o:Obj)(hb:w.heap[l]? =some (.loop r)):(setObj l o).run P w= .ok () {w with heap:=w.heap.setIfInBounds l o}:=by
 simp[setObj,Sem.run,hb]
theorem lT{l:Nat}{r:Loop}(hb:w.heap[l]? =some (.loop r)):(Instr.getLoop l).run P w= .ok r w:=by
 simp[Instr.getLoop,getObj,Sem.run,hb,Result.andThen]
end
def qI(Q:fW->S->Prop)(pd:Option lC)(s:S):Prop:=
 match pd with
 |none=>Q .normal s
 |some .ret=>Q .ret s
 |some (.exit id)=>Q (.exit id) s
def DW(P:Program)(n:Nat)(g:V)(ps:List Nat)(jM fm:IC)(Q:fW->S->Prop)(s:S):Prop:=
 ∃env,(∀i,aT env i= .ag\/aT env i=s.env i)/\
  match g with
  | .func (.func f) first cap=>qf P f (first++[.jI s.nx]++cap) (au s.o s.nx (.loop P.funcs.size n env ps jM fm .ready none)) (s.nx+1)
    (fun _ o' nx'=>∃nf m e p c d st pd,o' s.nx= .loop nf m e p c d st pd/\st≠ .busy/\qI Q pd ⟨s.env,au o' s.nx (.loop nf m e p c d .exhausted pd),nx'⟩)
    (fun v o' nx'=>Q (.bU v) ⟨s.env,o',nx'⟩)
  |_=>False
def adR(P:Program)(n b:Nat)(g:Operand)(ps:List Nat)(jM fm:IC)(Q:fW->S->Prop)(s:S):Prop:=∃s',(s'=s\/aZ b s s')/\DW P n (s'.ev g) ps jM fm Q s'
def jW(P:Program)(n b:Nat)(rd:Bool):Code->(fW->S->Prop)->S->Prop
 | .skip,Q,s=>Q .normal s
 | .label _,Q,s=>Q .normal s
 | .scope x,Q,s=>jW P n b rd x Q s
 | .region _ ops false,Q,s=>Bx P n ops (fun v s=>Q (.bU v) s) (Q .normal) ops.toList s
 | .region id ops true,Q,s=>∀M cY H0 w0 cx φ a w ro k,cG M cY H0 w0 n cx φ s a w->(Code.region id ops true).wpIn (eB ro) k P (I1 M cY H0 w0 n cx Q) a w
 | .seq x y,Q,s=>jW P n b rd x (rK (jW P n b rd y Q) Q) s
 | .cond c x y,Q,s=>match s.ev c with
   | .d (.bool t)=>(t=true->jW P n b rd x Q s)/\(t=false->jW P n b rd y Q s)
   | .fl=>jW P n b rd x Q s/\jW P n b rd y Q s
   |_=>False
 | .block id x,Q,s=>jW P n b rd x (fZ id Q) s
 | .loop x,Q,s=>∃ (J:Nat->S->Prop),(∃m s1,aZ b s s1/\J m s1)/\∀m s0,J m s0->jW P n b rd x (fun e s=>match e with| .normal=>∃m' s1,m'<m/\aZ b s s1/\J m' s1|e=>Q e s) s0
 | .exit id,Q,s=>Q (.exit id) s
 | .ret,Q,s=>Q .ret s
 | .rangeFunc g ps x y,Q,s=>rd=false/\adR P n b g ps.toList (low n x) (low n y) Q s
 |_,_,_=>False
section
variable {P:Program}{M:Nat->Prop}{φ:Place}{H:Hp}{w w':World}{cY:Place}{H0:Hp}{w0:World}{n b:Nat}{s:S}{a:Act}{cx:Cx}{ro:Option Nat}{k:Nat}
theorem GQ(hb:∀id,H0.us id->id<b)(hs:cG M cY H0 w0 n cx φ s a w){s':S}(h:aZ b s s'):∃aH,cG M cY H0 w0 n cx aH s' a w:=by
 obtain⟨aH,h1,h2,h3,h4,h5,h6⟩:=h M φ w (fun i=>a.tmps.getD i undef) hs.heap hs.env
 refine⟨aH,h1,⟨hs.tr.keep,fun k hk=>hs.tr.grow k (h3 k hk),⟨fun id hu=>Nat.lt_of_lt_of_le (hb id hu) h4,fun id hu hr=> ?_,fun id e' hu he=> ?_⟩⟩,hs.size, ?_,h2⟩
 ·obtain⟨g1,g2⟩:=h5 id (hb id hu) hr
  obtain⟨g3,g4⟩:=hs.tr.rel.row id hu g1
  exact⟨g3,g2.trans g4⟩
 ·obtain⟨e,g1,g2,g3⟩:=h6 id e' (hb id hu) he
  obtain⟨e0,k1,k2,k3⟩:=hs.tr.rel.ep id e hu g1
  refine⟨e0,k1,Nat.le_trans k2 g2,fun heq=> ?_⟩
  have a1:e0=e:=ae
  have a2:e=e':=ae
  exact(g3 a2).trans (k3 a1)
 ·obtain⟨ms,g1,g2,g3,g4⟩:=hs.defers
  exact⟨ms,g1,g2,g3,fun r hr=>⟨(g4 r hr).1,(g4 r hr).2.1,fun hl=>(g4 r hr).2.2 (h3 r hl)⟩⟩
theorem BD{c:Code}{Q:Exit->Act->World->Prop}(J:Nat->Act->World->Prop)(round:∀m a w,J m a w->c.vl P ro (Exit.then (fun a' w'=>∃m',m'<m/\J m' a' w') Q) a w):
 ∀m a w,J m a w->(Code.loop c).vl P ro Q a w:=by
 intro m a w h0 fr kk cs vO hb
 have hr:(eB ro).room (cs.length+1+0):=fun d hd=>by simp[eB]at hd
 have key:∀m a w,J m a w->∃e a' w',Q e a' w'/\ArrivesIn (Machine.fenced P (eB ro)) P (lone (fr.atR a (.code c:: .inLoop c::kk)) cs w) fr kk cs e a' w':=by
  intro m
  induction m using Nat.strongRecOn with
  |_ m ih=>
   intro a w hJ
   obtain⟨e,a1,w1,hq,dE⟩:=round m a w hJ fr (.inLoop c::kk) cs vO hb
   cases e with
   |normal=>
    obtain⟨m',cS,hJ'⟩:=hq
    obtain⟨e2,a2,w2,hq2,I3⟩:=ih m' cS a1 w1 hJ'
    exact⟨e2,a2,w2,hq2, .of_steps (StepsIn.trans dE (.one (fenced_calm trivial hr rfl) stepR_inLoop)) I3⟩
   |_=>exact⟨_,a1,w1,hq, .pass (x:= .inLoop c) rfl (fun _ _=> .inl aJ) dE⟩
 obtain⟨e,a',w',hq,dE⟩:=key m a w h0
 exact⟨e,a',w',hq, .of_steps (.one (fenced_calm trivial hr rfl) stepR_loop) dE⟩
theorem Ac(hs:cG M cY H0 w0 n cx φ s a w)(nP:cx.rd=false)(vO:ro=none){g:Operand}{ps:Array Tmp}{x y:Code}{Q:fW->S->Prop}(h:DW P n (s.ev g) ps.toList (low n x) (low n y) Q s):
 (Code.rangeFunc g ps x y).vl P ro (I1 M cY H0 w0 n cx Q) a w:=by
 subst vO
 obtain⟨env,eA,h⟩:=h
 refine zf fun fn MH=> ?_
 let GR:Loop:={state:= .ready,pending:=none,fn:=fn,tmps:=a.tmps,params:=ps,assign:=x,body:=y,defers:=w.heap.size}
 let w1:World:=(w.alloc (.deferred (some []))).alloc (.loop GR)
 let l:Nat:=w.heap.size+1
 have nj:(Instr.enterLoop fn a.tmps ps x y (eB none).round).run P w= .ok (l,[mark w.heap.size]) w1:=by
  simp[Instr.enterLoop,eB,mark,w1,l,GR]
 have hk1:ed (fun _=>False) w w1:=by
  have k1:=cO w (.deferred (some []))
  have k2:=cO (w.alloc (.deferred (some []))) (.loop GR)
  exact⟨k2.os.trans k1.os,k2.tape.trans k1.tape,k2.output.trans k1.output,Nat.le_trans k1.size k2.size,fun j hj hm=>(k2.block j (Nat.lt_of_lt_of_le hj k1.size) hm).trans (k1.block j hj hm)⟩
 let jJ:=au φ s.nx (.pointer (some ⟨l,0,none⟩))
 let s1:S:=⟨s.env,au s.o s.nx (.loop P.funcs.size n env ps.toList (low n x) (low n y) .ready none),s.nx+1⟩
 have c8: ¬s.H.us s.nx:=by simp[S.H]
 have fK:∀b,dG (.pointer (some ⟨l,0,none⟩))=some b->w.heap.size<=b/\b<w1.heap.size:=by
  intro b hb;simp[dG]at hb;subst hb;simp[l,w1]
 have zS:=eg (φ:=φ) (H:=s.H) hk1 c8 (.loop P.funcs.size n env ps.toList (low n x) (low n y) .ready none) (.pointer (some ⟨l,0,none⟩)) fun b hb=>(fK b hb).1
 have RU:(w.alloc (.deferred (some []))).heap.size=w.heap.size+1:=aJ
 have wS:w1.heap[l]? =some (.loop GR):=by
  have:=heap_alloc_new (w.alloc (.deferred (some []))) (.loop GR)
  rwa [RU]at this
 have Kz:=js hs.heap hk1 c8 (.loop P.funcs.size n env ps.toList (low n x) (low n y) .ready none) (.pointer (some ⟨l,0,none⟩)) fK (by
  unfold aO
  simp only[bT,aR,if_true]
  refine⟨l,GR,rfl,wS,MH,rfl,rfl,rfl,hs.size,rfl,rfl,fun i=> ?_⟩
  rcases eA i with e|e
  ·rw[e];trivial
  ·rw[e];exact V.aS zS _ _ (hs.env i))
 have Ad:cG M cY H0 w0 n cx jJ s1 {a with defers:=mark w.heap.size::a.defers} w1:=by
  have base:=fu hs Kz zS (o':=au s.o s.nx (.loop P.funcs.size n env ps.toList (low n x) (low n y) .ready none)) (nx':=s.nx+1) rfl (N8 fun id aq=>by simp at aq;exact .inr aq)
  refine⟨base.heap,base.tr,base.size, ?_,base.env⟩
  obtain⟨ms,g1,g2,g3,g4⟩:=base.defers
  obtain⟨ms',q1,q2,q3,q4⟩:=hs.defers
  have hmm:ms.map mark=ms'.map mark:=by
   have:ms.map mark++cx.base=ms'.map mark++cx.base:=g1.symm.trans q1
   exact List.append_cancel_right this
  have GU:ms=ms':=by
   have hm:∀a b,mark a=mark b->a=b:=fun a b h=>by simpa[mark]using h
   exact List.map_inj_right hm |>.1 hmm
  refine⟨w.heap.size::ms,by rw[g1];rfl,List.nodup_cons.2 ⟨fun hm=> ?_,g2⟩,(fun h=>by rw[nP]at h;cases h),fun r hr=> ?_⟩
  ·have:=(q4 w.heap.size (GU ▸ hm)).2.1
   rw[Array.getElem?_eq_none (Nat.le_refl _)]at this;cases this
  ·rcases List.mem_cons.1 hr with rfl|hr
   ·refine⟨hs.tr.keep.size,(RowKit.Below.heap_alloc (w.alloc (.deferred (some []))) (.loop GR) w.heap.size (by rw[RU];omega)).trans (heap_alloc_new w _), ?_⟩
    rintro⟨id,i1,i2⟩
    by_cases e:id=s.nx
    ·subst e;simp[jJ,dG,l]at i2
    ·have i1':(s.H.o id).live=true:=by simpa[s1,S.H,e]using i1
     have i2':dG (φ id)=some w.heap.size:=by simpa[jJ,e]using i2
     have:=(hs.heap.ours _ ⟨id,i1',i2'⟩).2
     omega
   ·exact g4 r hr
 have ahA:V.den (ao M jJ s1.H) jJ s1.H w1 (.jI s.nx) (.func (.yield l) #[] #[]):=
  ⟨rfl,by simp[s1,S.H],fun _=>⟨l,by simp[jJ],rfl⟩⟩
 have hg:=ox (M:=M) (φ:=jJ) (H:=s1.H) (w:=w1) s1 {a with defers:=mark w.heap.size::a.defers} Ad.env g
 have ahB:s1.ev g=s.ev g:=by cases g<;>rfl
 rw[ahB]at hg
 have hae:({a with defers:=mark w.heap.size::a.defers}:Act).eval g=a.eval g:=rfl
 rw[hae]at hg
 split at h
 ·rename_i f first cap hgv
  rw[hgv]at hg
  obtain⟨fa,ca,Ys,ID,hca⟩:=hg
  have fin:∀ (all:List V) (o2:Nat->aa) (s2:S),s2=⟨s.env,o2,s.nx+1⟩->cG M cY H0 w0 n cx jJ s2 {a with defers:=mark w.heap.size::a.defers} w1->V.aG (ao M jJ s2.H) jJ s2.H w1 all (fa++#[Value.func (.yield l) #[] #[]]++ca).toList->(o2 s.nx).bF=true->
   cX P f all o2 (s.nx+1) (fun _ o' nx'=>∃nf m e p c d st pd,o' s.nx= .loop nf m e p c d st pd/\st≠ .busy/\qI Q pd ⟨s.env,au o' s.nx (.loop nf m e p c d .exhausted pd),nx'⟩) (fun v o' nx'=>Q (.bU v) ⟨s.env,o',nx'⟩)->
   ∃ (l:Nat) (mark:List Deferred) (ky:World) (d:Deferred) (Aa:World) (f:FuncId) (args:Array Value) (tI:World),
     (Instr.enterLoop fn a.tmps ps x y (eB none).round).run P w= .ok (l,mark) ky/\(resolve a.eval (rangeCall g l) 0).run P ky= .ok d Aa/\
     (invoke d.target d.args).run P Aa= .ok (.enter f args) tI/\CallsIn (eB none) 0 P f args tI (w9 P l (I1 M cY H0 w0 n cx Q) {a with defers:=mark++a.defers}):=by
   intro all o2 s2 ahC La bu bD hC
   subst ahC
   have fC:=hC.2 M jJ w1 _ La.heap bu
   refine⟨l,[mark w.heap.size],w1,{target:= .fn (.func f) ca,args:=fa++#[Value.func (.yield l) #[] #[]]},w1,f,fa++#[Value.func (.yield l) #[] #[]]++ca,w1,nj, ?_, ?_,dB (fC.mono fun e w' ⟨aH,o',nx',v,k1,k2,k3⟩=> ?_)⟩
   ·simp only[resolve,Ys,Deferred.ofValue,List.map_toArray,List.map_cons,List.map_nil,Sem.run_pure]
    rfl
   ·simp[invoke,mA hC.1]
   ·cases e with
    |returned val=>
     obtain⟨k4,nf,m,e,p,c,d,st,pd,k5,k6,k7⟩:=k3
     have I4:cG M cY H0 w0 n cx aH ⟨s.env,o',nx'⟩ {a with defers:=mark w.heap.size::a.defers} w':=fu La k1 k2 rfl fun id hu=>hu
     have Yu:aH s.nx= .pointer (some ⟨l,0,none⟩):=by
      have:=(k2.rel.row s.nx (show s.nx<s.nx+1 from ae) (by show(o' s.nx).bF=true;rw[k5];rfl)).2
      rw[this];simp[jJ]
     have cS:s.nx<nx':=k2.rel.us s.nx (show s.nx<s.nx+1 from ae)
     obtain⟨r,r1,r2,r3,r4,r5⟩:=Ab (st':= .exhausted) (pd':=pd) k1 cS (show(hp o' nx').o s.nx=_ from k5) Yu
     have de:(Instr.endLoop l).run P w'= .ok (pd.map lC.code) {w' with heap:=w'.heap.setIfInBounds l (.loop {r with state:= .exhausted,pending:=pd.map lC.code})}:=by
      have e1:({r with state:= .exhausted}:Loop)={r with state:= .exhausted,pending:=pd.map lC.code}:=by rw[<- r3]
      have hnb:(r.state==LoopState.busy)=false:=by rw[r2];cases st<;>first|rfl|exact absurd rfl k6
      simp only[Instr.endLoop,Sem.run_bind,lT r1,Result.andThen_ok,hnb,Bool.false_eq_true,if_false,Sem.run_pure]
      rw[jO _ r1,e1]
      simp[r3]
     have hs4:=fu I4 r4 r5 (o':=au o' s.nx (.loop nf m e p c d .exhausted pd)) (nx':=nx') rfl fun id hu=>by
      simp only[eF]at hu
      rcases hu with hu|hu
      ·exact hu
      ·subst hu;exact cS
     refine⟨pd.map lC.code,_,de, ?_⟩
     cases pd with
     |none=>exact⟨.normal,_,_,k7,hs4,trivial⟩
     |some j=>
      cases j with
      |ret=>exact I2 ⟨.ret,_,_,k7,hs4,trivial⟩
      |exit id=>exact DV ⟨.exit id,_,_,k7,hs4,rfl⟩
    |panicked ch=>
     obtain⟨val,rfl,k4,k5⟩:=k3
     have I4:cG M cY H0 w0 n cx aH ⟨s.env,o',nx'⟩ {a with defers:=mark w.heap.size::a.defers} w':=fu La k1 k2 rfl fun id hu=>hu
     exact⟨.bU v,_,_,k5,I4,val,rfl,k4⟩
    |outgrown=>exact k3.elim
  have oH:V.aG (ao M jJ s1.H) jJ s1.H w1 (first++[V.jI s.nx]++cap) (fa++#[Value.func (.yield l) #[] #[]]++ca).toList:=by
   rw[Array.toList_append,Array.toList_append]
   exact V.ri ID ⟨_,[],rfl,ahA,rfl⟩ hca
  rcases h with hC|hC
  ·exact fin _ _ s1 rfl Ad oH (by simp;rfl) hC
  ·have qZ:s1.o=au s.o s.nx (.loop P.funcs.size n env ps.toList (low n x) (low n y) .ready none):=rfl
   obtain⟨f1,f2,f3,f4,f5⟩:=cW Ad.heap (dD s1.o (first++[V.jI s.nx]++cap)) (iG _ _ s1.o oH)
   have gS:s1.H.put (bY s1.H.o (dD s1.o (first++[V.jI s.nx]++cap)))=hp (put s1.o (bY s1.o (dD s1.o (first++[V.jI s.nx]++cap)))) s1.nx:=mz (by rw[vH];exact iG _ _ s1.o oH)
   have Vw:=Ob f1 _ _ f3 (V.aQ f2 _ _ oH)
   have Vx:((s1.H.put (bY s1.H.o (dD s1.o (first++[V.jI s.nx]++cap)))).o s.nx).bF=true:=by
    by_cases hm:s.nx∈dD s1.o (first++[V.jI s.nx]++cap)
    ·rw[f3 _ hm];simp[s1,S.H,aa.fz,aa.bF]
    ·rw[f4 _ hm];simp[s1,S.H,aa.bF]
   rw[gS]at f1 f2 Vw Vx
   exact fin _ (put s1.o (bY s1.o (dD s1.o (first++[V.jI s.nx]++cap)))) ⟨s.env,_,s.nx+1⟩ rfl (fu Ad f1 f2 rfl fun id hu=>hu) Vw Vx hC
 ·exact h.elim
end
end Go.Proofs.YtnkamdiiakdkgaaGreat
