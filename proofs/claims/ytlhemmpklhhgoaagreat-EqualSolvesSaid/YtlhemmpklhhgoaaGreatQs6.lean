/-
  A PART OF THE PROOF. Conditions: none.
-/
import Derived.RangeFuncLeaves
import Derived.TacticsIn
import Derived.RecoverIn
import Derived.Test.YtlhemmpklhhgoaaGreatQs5
set_option linter.unusedSimpArgs false
set_option linter.unusedVariables false
namespace Go.Proofs.YtlhemmpklhhgoaaGreat
inductive R where
 |ret (ds:List D)|bF (d:D)
def R.is (B:Nat->Prop)(w:World):R->Ending->Prop
 | .ret [x], .returned v=>D.den B w x v
 | .ret ds, .returned v=>∃a,v= .tuple a/\D.aC B w ds a.toList
 | .bF d, .panicked chain=>∃v,chain=[{v:=v,recovered:=false}]/\D.den B w d v
 |_,_=>False
def Enters(P:Program)(f:FuncId):Prop:=∃fn,P.funcs[f]? =some fn/\(fn.name== "runtime.NumGoroutine")=false/\fn.body.isNone=false
def a8(P:Program)(f:FuncId)(ds:List D)(out:R):Prop:=
 Enters P f/\∀ (M:Nat->Prop) (w:World) (vals:Array Value),(∀b,M b->b<w.heap.size)->D.aC M w ds vals.toList->
  Calls P f vals w fun e w'=>dV (fun _=>False) w w'/\out.is M w' e
def hp(o:Nat->ad)(nx:Nat):Hp:=⟨o,fun id=>id<nx⟩
def mU(M:Nat->Prop)(φ:Place)(H:Hp)(w:World)(K X:V->(Nat->ad)->Nat->Prop)(e:Ending)(w':World):Prop:=
 ∃aE o' nx' v,ax M aE (hp o' nx') w'/\Trans φ H w aE (hp o' nx') w'/\match e with
  | .returned val=>V.den (ao M aE (hp o' nx')) aE (hp o' nx') w' v val/\K v o' nx'
  | .panicked ch=>∃val,ch=[{v:=val,recovered:=false}]/\V.den (ao M aE (hp o' nx')) aE (hp o' nx') w' v val/\X v o' nx'
  | .outgrown=>False
def cI(P:Program)(f:FuncId)(args:List V)(o:Nat->ad)(nx:Nat)(K X:V->(Nat->ad)->Nat->Prop):Prop:=
 Enters P f/\∀ (M:Nat->Prop) (φ:Place) (w:World) (vals:Array Value),ax M φ (hp o nx) w->V.aC (ao M φ (hp o nx)) φ (hp o nx) w args vals.toList->
  Calls P f vals w (mU M φ (hp o nx) w K X)
def dB(P:Program)(id:Nat)(args:List V)(o:Nat->ad)(nx:Nat)(K X:V->(Nat->ad)->Nat->Prop):Prop:=
 (o id).cg=true/\∀ (M:Nat->Prop) (φ:Place) (w:World) (vals:Array Value) (b:Nat),ax M φ (hp o nx) w->V.aC (ao M φ (hp o nx)) φ (hp o nx) w args vals.toList->φ id= .pointer (some ⟨b,0,none⟩)->
  ∃f tmps assign body,(Instr.yield b vals).run P w= .ok (.round b f tmps assign body) w/\∀n,RoundIn Fence.wide n P b f tmps assign body w (mU M φ (hp o nx) w K X)
theorem mU.mono {M:Nat->Prop}{φ:Place}{H:Hp}{w:World}{K X K' X':V->(Nat->ad)->Nat->Prop}(hK:∀v o n,K v o n->K' v o n)(hX:∀v o n,X v o n->X' v o n){e:Ending}{w':World}(h:mU M φ H w K X e w'):mU M φ H w K' X' e w':=by
 obtain⟨aE,o',nx',v,h1,h2,h3⟩:=h
 refine⟨aE,o',nx',v,h1,h2, ?_⟩
 cases e with
 |returned val=>exact⟨h3.1,hK _ _ _ h3.2⟩
 |panicked ch=>obtain⟨val,a,b,c⟩:=h3;exact⟨val,a,b,hX _ _ _ c⟩
 |outgrown=>exact h3
theorem cI.mono {P:Program}{f:FuncId}{args:List V}{o:Nat->ad}{nx:Nat}{K X K' X':V->(Nat->ad)->Nat->Prop}(hK:∀v o n,K v o n->K' v o n)(hX:∀v o n,X v o n->X' v o n)(h:cI P f args o nx K X):cI P f args o nx K' X':=
 ⟨h.1,fun M φ w vals h1 h2=>(h.2 M φ w vals h1 h2).mono fun _ _ h=>h.mono hK hX⟩
theorem dB.mono {P:Program}{id:Nat}{args:List V}{o:Nat->ad}{nx:Nat}{K X K' X':V->(Nat->ad)->Nat->Prop}(hK:∀v o n,K v o n->K' v o n)(hX:∀v o n,X v o n->X' v o n)(h:dB P id args o nx K X):dB P id args o nx K' X':=
 ⟨h.1,fun M φ w vals b h1 h2 h3=>let⟨f,t,a,c,h4,h5⟩:=h.2 M φ w vals b h1 h2 h3;⟨f,t,a,c,h4,fun n=>(h5 n).mono fun _ _ h=>h.mono hK hX⟩⟩
mutual
def D.flat:D->Bool
 | .sl _| .mp _ _=>false
 | .agg cs=>D.jB cs
 | .iface _ x=>x.flat
 |_=>true
def D.jB:List D->Bool
 |[]=>true
 |x::xs=>x.flat&&D.jB xs
end
mutual
theorem D.qj {B B':Nat->Prop}{w w':World}:∀ (x:D) (v:Value),x.flat=true->D.den B w x v->D.den B' w' x v
 | .int _ _,_,_,h| .bool _,_,_,h| .str _,_,_,h| .eF,_,_,h| .lN,_,_,h| .ck,_,_,h| .fj,_,_,h=>h
 | .agg cs,_,hf,h=>by obtain⟨a,rfl,h,h2⟩:=h;exact⟨a,rfl,D.lT cs _ hf h,h2⟩
 | .sl es,_,hf,h=>by simp[D.flat]at hf
 | .mp _ _,_,hf,h=>by simp[D.flat]at hf
 | .iface t x,_,hf,h=>by obtain⟨u,rfl,h⟩:=h;exact⟨u,rfl,D.qj x u hf h⟩
theorem D.lT {B B':Nat->Prop}{w w':World}:∀ (xs:List D) (vs:List Value),D.jB xs=true->D.aC B w xs vs->D.aC B' w' xs vs
 |[],_,_,h=>h
 |x::xs,_,hf,h=>by
  obtain⟨u,us,rfl,h1,h2⟩:=h
  simp only[D.jB,Bool.and_eq_true]at hf
  exact⟨u,us,rfl,D.qj x u hf.1 h1,D.lT xs us hf.2 h2⟩
end
mutual
def D.mV:D->Bool
 | .mp _ _=>false
 | .agg cs=>D.lU cs
 | .sl es=>D.lU es
 | .iface _ x=>x.mV
 |_=>true
def D.lU:List D->Bool
 |[]=>true
 |x::xs=>x.mV&&D.lU xs
end
theorem gz.AR {B B':Nat->Prop}{w w':World}{a:Addr}{cs:Array Value}
 (hb:∀b,pU w b-> ¬B b->w'.heap[b]? =w.heap[b]? /\ ¬B' b) (h:gz B w a cs):gz B' w' a cs:=by
 intro j u hj
 obtain⟨h1,h2⟩:=h j u hj
 have b8:pU w a.block:=by simpa using oG h1
 exact Yl
mutual
theorem D.lh {B B':Nat->Prop}{w w':World}(hb:∀b,pU w b-> ¬B b->w'.heap[b]? =w.heap[b]? /\ ¬B' b):
 ∀ (x:D) (v:Value),x.mV=true->D.den B w x v->D.den B' w' x v
 | .int _ _,_,_,h| .bool _,_,_,h| .str _,_,_,h| .eF,_,_,h| .lN,_,_,h| .ck,_,_,h| .fj,_,_,h=>by simpa[D.den]using h
 | .agg cs,_,hn,h=>by
   obtain⟨a,rfl,h,hf⟩:=h
   exact⟨a,rfl,D.mW hb cs _ hn h,hf⟩
 | .sl es,_,hn,h=>by
   obtain⟨base,len,cap,rfl,h1,h2,h3,sz,h4⟩:=h
   exact⟨base,len,cap,rfl,h1,h2,h3,sz,fun a ha=>⟨(h4 a ha).1,D.qk hb sz a es 0 hn (h4 a ha).2⟩⟩
 | .iface t d,_,hn,h=>by
   obtain⟨u,rfl,h⟩:=h
   exact⟨u,rfl,D.lh hb d u hn h⟩
 | .mp _ _,_,hn,_=>by simp[D.mV]at hn
theorem D.mW {B B':Nat->Prop}{w w':World}(hb:∀b,pU w b-> ¬B b->w'.heap[b]? =w.heap[b]? /\ ¬B' b):
 ∀ (ds:List D) (vs:List Value),D.lU ds=true->D.aC B w ds vs->D.aC B' w' ds vs
 |[],_,_,h=>h
 |d::ds,_,hn,h=>by
  obtain⟨u,us,rfl,h1,h2⟩:=h
  simp only[D.lU,Bool.and_eq_true]at hn
  exact⟨u,us,rfl,D.lh hb d u hn.1 h1,D.mW hb ds us hn.2 h2⟩
theorem D.qk {B B':Nat->Prop}{w w':World}(hb:∀b,pU w b-> ¬B b->w'.heap[b]? =w.heap[b]? /\ ¬B' b)(sz:Nat)(a:Addr):
 ∀ (es:List D) (i:Nat),D.lU es=true->D.elems B w sz a i es->D.elems B' w' sz a i es
 |[],_,_,_=>trivial
 |e::es,i,hn,h=>by
  obtain⟨⟨ev,h1,h2,h3⟩,h4⟩:=h
  simp only[D.lU,Bool.and_eq_true]at hn
  exact⟨⟨ev,h1,h2.AR hb,D.lh hb e ev hn.1 h3⟩,D.qk hb sz a es (i+1) hn.2 h4⟩
end
def R.mV:R->Bool
 | .ret ds=>D.lU ds
 | .bF d=>d.mV
def R.flat:R->Bool
 | .ret ds=>D.jB ds
 | .bF d=>d.flat
def iP:List D->V
 |[x]=> .d x
 |ds=> .bT (ds.map .d)
inductive fk where
 |normal|exit (id:Nat)|ret|bF (v:V)
def ba(env:Nat->V)(dst:Option Tmp)(v:V):Nat->V:=
 match dst with
 |some d=>az env d v
 |none=>env
def JI(o:Nat->ad)(v:V):V:=match dU o v with|some x=> .d x|none=>v
def cZ(o:Nat->ad):List V->List Nat
 |[]=>[]
 |v::vs=>(match dU o v with|some _=>v.ids|none=>[])++cZ o vs
def oF(P:Program)(g:FuncId)(args:List V)(o:Nat->ad)(nx:Nat)(K X:V->(Nat->ad)->Nat->Prop):Prop:=
 cI P g args o nx K X\/cI P g (args.map (JI o)) (put o (bL o (cZ o args))) nx K X
def uQ(P:Program)(s:S)(g:FuncId)(all:List V)(K:V->(Nat->ad)->Nat->Prop)(X:V->(Nat->ad)->Nat->Prop):Prop:=
    (∃ds out,bZ s.o all=some ds/\a8 P g ds out/\(match out with
     | .ret rs=>K (iP rs) (put s.o (bL s.o (V.br all))) (s.nx+1)
     | .bF x=>X (.d x) (put s.o (bL s.o (V.br all))) (s.nx+1)))\/
    (∃ds out,bZ s.o all=some ds/\a8 P g ds out/\out.flat=true/\(match out with
     | .ret rs=>K (iP rs) s.o (s.nx+1)
     | .bF x=>X (.d x) s.o (s.nx+1)))\/
    (∃ds out,bZ s.o all=some ds/\a8 P g ds out/\out.mV=true/\(match out with
     | .ret rs=>K (iP rs) (put s.o (rv s.o (V.br all))) (s.nx+1)
     | .bF x=>X (.d x) (put s.o (rv s.o (V.br all))) (s.nx+1)))\/
    oF P g all s.o s.nx K X
def Be(P:Program)(s:S)(f:V)(args:List V)(K:V->(Nat->ad)->Nat->Prop)(X:V->(Nat->ad)->Nat->Prop):Prop:=
 match f with
 | .func (.func g) first cap=>uQ P s g (first++args++cap) K X
 | .j7 id=>dB P id args s.o s.nx K X
 |_=>False
def PH(P:Program)(t:TypeId):Bool:=
 match P.underlying t with
 |some (.pointer _)=>false
 |some _=>true
 |none=>false
def uR(P:Program)(m:String)(x:V):Option (FuncId×V):=
 match x with
 | .d (.iface t y)=>match P.info? t with
   |some ti=>match ti.methods.find? (·.name==m)with
    |some r=>match r.func with
     |some (f,false)=>if r.path.isEmpty=true/\PH P t=true then some (f, .d y)else none
     |_=>none
    |none=>none
   |none=>none
 |_=>none
def gA(n:Nat):Option Tmp->Prop
 |some d=>d<n
 |none=>True
def opW(P:Program)(n:Nat)(s:S)(o:Oper)(X:V->S->Prop)(K:S->Prop):Prop:=
 gA n o.dst/\match o.op with
 | .call c=>match c.callee with
   | .value f=>Be P s (s.ev f) (c.args.toList.map s.ev) (fun v o' nx'=>K ⟨ba s.env o.dst v,o',nx'⟩) (fun v o' nx'=>X v ⟨s.env,o',nx'⟩)
   | .invoke r m=>match uR P m (s.ev r)with
     |some (g,y)=>uQ P s g (y::c.args.toList.map s.ev) (fun v o' nx'=>K ⟨ba s.env o.dst v,o',nx'⟩) (fun v o' nx'=>X v ⟨s.env,o',nx'⟩)
     |none=>False
   |_=>Pw P s s.nx o.op fun v Δ _=>K ⟨ba s.env o.dst v,put s.o Δ,s.nx+1⟩
 | .panic x=>match s.ev x with
   | .d (.iface t y)=>X (.d (.iface t y)) s
   | .iface t y=>X (.iface t y) s
   |_=>False
 |op=>Pw P s s.nx op fun v Δ _=>K ⟨ba s.env o.dst v,put s.o Δ,s.nx+1⟩
def yV(s:S)(ops:Array Oper)(g:Option (Nat×Bool))(A B:Prop):Prop:=
 match g with
 |none=>A
 |some (j,want)=>match sL ops j with
  |some d=>match s.env d with
   | .d (.bool b)=>(b=want->A)/\(b≠want->B)
   | .bT []=>B
   |_=>False
  |none=>B
def yW(P:Program)(n:Nat)(ops:Array Oper)(X:V->S->Prop)(K:S->Prop):List Oper->S->Prop
 |[],s=>K s
 |o::l,s=>yV s ops o.guard (opW P n s o X (yW P n ops X K l)) (gA n o.dst/\yW P n ops X K l ⟨ba s.env o.dst (.bT []),s.o,s.nx+1⟩)
def bA(b:Nat)(s s':S):Prop:=
 ∀ (M:Nat->Prop) (φ:Place) (w:World) (tm:Nat->Value),ax M φ s.H w->(∀i,V.den (ao M φ s.H) φ s.H w (s.env i) (tm i))->
   ∃aE,ax M aE s'.H w/\(∀i,V.den (ao M aE s'.H) aE s'.H w (s'.env i) (tm i))/\(∀k,cD aE s'.H k->cD φ s.H k)/\b<=s'.nx/\
    (∀id,id<b->(s'.o id).cg=true->(s.o id).cg=true/\aE id=φ id)/\
    (∀id e',id<b->(s'.o id).cf=some e'->∃e,(s.o id).cf=some e/\e<=e'/\(e=e'->aE id=φ id))
def ql(K:S->Prop)(Q:fk->S->Prop)(e:fk)(s:S):Prop:=match e with| .normal=>K s|e=>Q e s
def ff(id:Nat)(Q:fk->S->Prop)(e:fk)(s:S):Prop:=match e with| .exit j=>if j=id then Q .normal s else Q (.exit j) s|e=>Q e s
def lV(P:Program)(s:S):List ResultVar->Option (List V)
 |[]=>some []
 | .tmp t::rs=>(lV P s rs).map (s.env t::·)
 | .cell a t::rs=>match s.env a with
   | .ptr id off=>match s.o id with
     | .row cs=>(eG P t cs off).bind fun v=>(lV P s rs).map (v::·)
     |_=>none
   |_=>none
def cj(vs:List V):Nat->V:=fun i=>vs.getD i (.bT [])
def yX(P:Program)(rs:List ResultVar)(out:R)(e:fk)(s:S):Prop:=
 match e with
 | .normal| .ret=>match lV P s rs with
   |some vs=>match bZ s.o vs with
    |some ds=>out= .ret ds
    |none=>False
   |none=>False
 | .bF v=>match dU s.o v with
   |some x=>out= .bF x
   |none=>False
 | .exit _=>False
theorem JJ{P:Program}{rs:List ResultVar}{out:R}{s:S}(h:match lV P s rs with
 |some vs=>match bZ s.o vs with
  |some ds=>out= .ret ds
  |none=>False
 |none=>False):∃vs ds,lV P s rs=some vs/\bZ s.o vs=some ds/\out= .ret ds:=by
 split at h
 ·rename_i vs h1
  split at h
  ·rename_i xs h2;exact⟨vs,xs,h1,h2,h⟩
  ·exact h.elim
 ·exact h.elim
theorem JK{out:R}{s:S}{v:V}(h:match dU s.o v with
 |some x=>out= .bF x
 |none=>False):∃x,dU s.o v=some x/\out= .bF x:=by
 split at h
 ·rename_i x h1;exact⟨x,h1,h⟩
 ·exact h.elim
section
section
variable {P:Program}{M:Nat->Prop}{φ:Place}{H:Hp}{w w':World}
def ad.lj:ad->Bool
 | .arr .. =>true
 |_=>false
theorem MW(o:Nat->ad)(ids:List Nat):rv o ids=bL o (ids.filter fun id=>(o id).lj):=by
 induction ids with
 |nil=>rfl
 |cons id ids ih=>
  unfold rv at ih|-
  simp only[List.filterMap_cons,List.filter_cons]
  cases hx:o id with
  |arr ep ty sz es=>
   have e:(ad.arr ep ty sz es).lj=true:=rfl
   rw[e,if_pos rfl,ih]
   simp only[bL,List.map_cons,hx]
  |_=>exact ih
theorem j6(hH:ax M φ H w){us':Nat->Prop}(h:∀id,H.us id->us' id):ax M φ ⟨H.o,us'⟩ w/\Trans φ H w φ ⟨H.o,us'⟩ w:=by
 have ht:Trans φ H w φ ⟨H.o,us'⟩ w:=⟨dV.refl _ _,fun b hb=> .inl hb,⟨h,fun id _ hr=>⟨hr,rfl⟩,fun id e' _ he=>⟨e',he,Nat.le_refl _,fun _=>rfl⟩⟩⟩
 exact⟨hH.of ht (fun _=>False) (fun _ h=>h.elim) (fun id _=>⟨rfl,rfl,fun _ _ _=>rfl⟩) (fun id hn=>hH.fresh id fun hu=>hn (h id hu)) hH.apart (fun b hb=>(hH.ours b hb).2),ht⟩
theorem fS(hH:ax M φ H w)(hk:dV (fun _=>False) w w'):ax M φ H w'/\Trans φ H w φ H w':=by
 have ht:Trans φ H w φ H w':=⟨⟨hk.os,hk.tape,hk.output,hk.size,fun k h _=>hk.block k h fun h=>h⟩,fun b hb=> .inl hb,dN.refl _ _⟩
 exact⟨hH.of ht (fun _=>False) (fun _ h=>h.elim) (fun id _=>⟨rfl,rfl,fun hl b hb=>hk.block b (hH.ours b ⟨id,hl,hb⟩).2 fun h=>h⟩) hH.fresh hH.apart (fun b hb=>Nat.lt_of_lt_of_le (hH.ours b hb).2 hk.size),ht⟩
theorem lp{Δ:List (Nat×ad)}(h:∀id∈Δ.map (·.1),H.us id):H.put Δ=⟨put H.o Δ,H.us⟩:=by
 unfold Hp.put
 congr 1
 funext id
 simp only[eq_iff_iff]
 exact⟨fun h'=>h'.elim (fun h=>h) (h id), .inl⟩
theorem tN(o:Nat->ad)(ids:List Nat):(bL o ids).map (·.1)=ids:=by
 rw[lR];simp[Function.comp_def]
structure Cx where
 base:List Deferred
 rd:Bool
def dG(ro:Option Nat):Fence:={fn:=fun _=>True,depth:=none,alive:=false,round:=ro}
def mark(r:Nat):Deferred:={target:= .collected r,args:=#[]}
def uS(cx:Cx)(w0:World)(φ:Place)(H:Hp)(w:World)(ds:List Deferred):Prop:=
 ∃ms:List Nat,ds=ms.map mark++cx.base/\ms.Nodup/\(cx.rd=true->ms=[])/\∀r∈ms,w0.heap.size<=r/\w.heap[r]? =some (.deferred (some []))/\ ¬cD φ H r
theorem uS.mono {cx:Cx}{w0:World}{φ aE:Place}{H H':Hp}{w w':World}{ds:List Deferred}(ht:Trans φ H w aE H' w')(h:uS cx w0 φ H w ds):uS cx w0 aE H' w' ds:=by
 obtain⟨ms,h1,h2,h3,h4⟩:=h
 refine⟨ms,h1,h2,h3,fun r hr=> ?_⟩
 obtain⟨g1,g2,g3⟩:=h4 r hr
 have b8:r<w.heap.size:=by
  rcases Nat.lt_or_ge r w.heap.size with hl|hl
  ·exact hl
  ·rw[Array.getElem?_eq_none hl]at g2;cases g2
 refine⟨g1,(ht.cu.block r b8 g3).trans g2,fun hl=> ?_⟩
 rcases ht.grow r hl with h|h
 ·exact g3 h
 ·omega
structure b7 (M:Nat->Prop) (cA:Place) (H0:Hp) (w0:World) (n:Nat) (cx:Cx) (φ:Place) (s:S) (a:Act) (w:World):Prop where
 heap:ax M φ s.H w
 tr:Trans cA H0 w0 φ s.H w
 size:a.tmps.size=n
 defers:uS cx w0 φ s.H w a.defers
 env:∀i,V.den (ao M φ s.H) φ s.H w (s.env i) (a.tmps.getD i undef)
variable {cA:Place}{H0:Hp}{w0:World}{n:Nat}{s:S}{a:Act}{cx:Cx}{ro:Option Nat}{k:Nat}
theorem cW{f:FuncId}{args:Array Value}{R:Ending->World->Prop}(h:Calls P f args w R):CallsIn (dG ro) k P f args w R:=
 ⟨trivial,fun cs _=>let⟨e,w',fr,r,s,x⟩:=h cs;⟨e,w',fr,r,comesIn_wide.2 s,x⟩⟩
theorem Bf{f:FuncId}{args:Array Value}{R:Ending->World->Prop}(h:CallsIn (dG ro) k P f args w R):Calls P f args w R:=
 fun cs=>let⟨e,w',fr,r,s,x⟩:=h.2 cs (fun _ h=>by simp[dG]at h);⟨e,w',fr,r,comesIn_wide.1 s,x⟩
theorem kn{o:Oper}{next:Act->World->Prop}{Q:Exit->Act->World->Prop}(wQ:∀c,o.op≠ .defer c)(h:o.uponIn (dG ro) k P a next Q ((execOp a.eval o).run P w)):o.wpIn (dG ro) k P a w next Q:=
 ⟨fun _ _=>trivial,by rw[Oper.semAt_eq _ _ _ wQ];exact h⟩
theorem nP(hs:b7 M cA H0 w0 n cx φ s a w){aE:Place}{H':Hp}(hH:ax M aE H' w')(ht:Trans φ s.H w aE H' w'){v:V}{val:Value}(hd:V.den (ao M aE H') aE H' w' v val){dst:Option Tmp}(cO:gA n dst)
 {o':Nat->ad} {nx':Nat} (ho:H'.o=o') (hu:∀id,H'.us id->id<nx'):b7 M cA H0 w0 n cx aE ⟨ba s.env dst v,o',nx'⟩ (a.put dst val) w':=by
 obtain⟨k1,k2⟩:=j6 hH hu
 subst ho
 refine⟨k1,hs.tr.trans (ht.trans k2), ?_, ?_,fun i=> ?_⟩
 ·cases dst<;>simp[Act.put,hs.size]
 ·have:=hs.defers.mono (ht.trans k2);cases dst<;>exact this
 ·cases dst with
  |none=>exact Mx
  |some d=>
   simp only[gA]at cO
   simp only[ba,aH,Act.put]
   by_cases hi:i=d
   ·subst hi
    have h1:(a.tmps.setIfInBounds i val).getD i undef=val:=by simp[Array.getD,hs.size,cO]
    rw[if_pos rfl,h1]
    exact V.aS k2 _ _ hd
   ·have h1:(a.tmps.setIfInBounds d val).getD i undef=a.tmps.getD i undef:=by
     exact Sk
    rw[if_neg hi,h1]
    exact Mx
theorem eD(hs:b7 M cA H0 w0 n cx φ s a w){aE:Place}{H':Hp}(hH:ax M aE H' w')(ht:Trans φ s.H w aE H' w'){o':Nat->ad}{nx':Nat}(ho:H'.o=o')(hu:∀id,H'.us id->id<nx'):
 b7 M cA H0 w0 n cx aE ⟨s.env,o',nx'⟩ a w':=by
 obtain⟨k1,k2⟩:=j6 hH hu
 subst ho
 exact⟨k1,hs.tr.trans (ht.trans k2),hs.size,hs.defers.mono (ht.trans k2),fun i=>V.aS (ht.trans k2) _ _ (hs.env i)⟩
theorem JL{Δ:List (Nat×ad)}(h:∀id∈Δ.map (·.1),s.H.us id\/id=s.nx)(id:Nat)(hu:(s.H.put Δ).us id):id<s.nx+1:=by
 rcases hu with hu|hu
 ·exact Nat.lt_succ_of_lt hu
 ·rcases h id hu with h|h
  ·exact Nat.lt_succ_of_lt h
  ·omega
variable {next:Act->World->Prop}{Q:Exit->Act->World->Prop}{X:V->S->Prop}{K:S->Prop}
theorem JM(hs:b7 M cA H0 w0 n cx φ s a w){o:Oper}{op:Op}(fP:o.op=op)(cO:gA n o.dst)(h:Pw P s s.nx op fun v Δ _=>K ⟨ba s.env o.dst v,put s.o Δ,s.nx+1⟩)
 (hN:∀s' aE a' w',K s'->b7 M cA H0 w0 n cx aE s' a' w'->next a' w'):o.wpIn (dG ro) k P a w next Q:=by
 obtain⟨nx,val,w',aE,v,Δ,rd,hK,hr,tS,g1,g2,g3,g4⟩:=xJ hs.heap (s:=s) rfl hs.env (fr:=s.nx) (by simp[S.H]) fP h
 have tE:=nP hs g1 g2 g3 cO (o':=put s.o Δ) (nx':=s.nx+1) rfl (JL g4)
 refine kn (fun c hc=>by rw[fP]at hc;subst hc;exact h) ?_
 rw[hr]
 rcases tS with rfl|⟨rfl,rfl⟩
 ·exact hN _ _ _ _ hK tE
 ·exact hN _ _ _ _ hK tE
theorem V.pS {B:Nat->Prop}{b9 bs cs:List V}{u v x:List Value}(h1:V.aC B φ H w b9 u)(h2:V.aC B φ H w bs v)(h3:V.aC B φ H w cs x):V.aC B φ H w (b9++bs++cs) (u++v++x):=
 V.bu _ _ _ _ (V.bu _ _ _ _ h1 h2) h3
theorem lq{f:FuncId}(h:Enters P f)(args:Array Value):(callFunc f args).run P w= .ok (.enter f args) w:=by
 obtain⟨fn,h1,h2,h3⟩:=h
 have iy:fn.name≠ "runtime.NumGoroutine" :=by simpa using h2
 have kW:fn.body≠none:=fun h=>by rw[h]at h3;cases h3
 simp[callFunc,h1,iy,kW]
theorem mH:∀ {rs:List D} {val:Value},R.is (ao M φ H) w (.ret rs) (.returned val)->V.den (ao M φ H) φ H w (iP rs) val
 |[],_,h=>by obtain⟨arr,rfl,h⟩:=h;exact⟨arr,rfl,h⟩
 |[x],_,h=>h
 |x::y::l,_,h=>by obtain⟨arr,rfl,h⟩:=h;exact⟨arr,rfl,(V.cw (x::y::l) _).2 h⟩
theorem R.yY {B B':Nat->Prop}:∀ {out:R} {e:Ending},out.flat=true->out.is B w e->out.is B' w e
 | .ret [], .returned _,_,h=>by obtain⟨arr,rfl,h⟩:=h;exact⟨arr,rfl,h⟩
 | .ret [x], .returned _,hf,h=>by
   simp only[R.flat,D.jB,Bool.and_true]at hf
   exact D.qj x _ hf h
 | .ret (x::y::l), .returned _,hf,h=>by obtain⟨arr,rfl,h⟩:=h;exact⟨arr,rfl,D.lT (x::y::l) _ hf h⟩
 | .bF d, .panicked _,hf,h=>by obtain⟨v,rfl,h⟩:=h;exact⟨v,rfl,D.qj d v hf h⟩
 | .ret [], .panicked _,_,h| .ret [_], .panicked _,_,h| .ret (_::_::_), .panicked _,_,h| .ret [], .outgrown,_,h| .ret [_], .outgrown,_,h| .ret (_::_::_), .outgrown,_,h| .bF _, .returned _,_,h| .bF _, .outgrown,_,h=>h.elim
theorem R.JN {B B':Nat->Prop}{w':World}(hb:∀b,pU w' b-> ¬B b-> ¬B' b):∀ {out:R} {e:Ending},out.mV=true->out.is B w' e->out.is B' w' e
 | .ret [], .returned _,_,h=>by obtain⟨arr,rfl,h⟩:=h;exact⟨arr,rfl,h⟩
 | .ret [x], .returned _,hf,h=>by
   simp only[R.mV,D.lU,Bool.and_true]at hf
   exact D.lh (fun b hc hn=>⟨rfl,hb b hc hn⟩) x _ hf h
 | .ret (x::y::l), .returned _,hf,h=>by obtain⟨arr,rfl,h⟩:=h;exact⟨arr,rfl,D.mW (fun b hc hn=>⟨rfl,hb b hc hn⟩) (x::y::l) _ hf h⟩
 | .bF d, .panicked _,hf,h=>by obtain⟨v,rfl,h⟩:=h;exact⟨v,rfl,D.lh (fun b hc hn=>⟨rfl,hb b hc hn⟩) d v hf h⟩
 | .ret [], .panicked _,_,h| .ret [_], .panicked _,_,h| .ret (_::_::_), .panicked _,_,h| .ret [], .outgrown,_,h| .ret [_], .outgrown,_,h| .ret (_::_::_), .outgrown,_,h| .bF _, .returned _,_,h| .bF _, .outgrown,_,h=>h.elim
theorem JO(hH:ax M φ H w){o:Nat->ad}:∀ (vs:List V) (vals:List Value),(∀id∈cZ o vs,H.o id=(o id).fz)->V.aC (ao M φ H) φ H w vs vals->V.aC (ao M φ H) φ H w (vs.map (JI o)) vals
 |[],_,_,h=>h
 |v::vs,_,ho,h=>by
  obtain⟨u,us,rfl,h1,h2⟩:=h
  refine⟨u,us,rfl, ?_,JO hH vs us (fun id au=>ho id (by simp[cZ,au])) h2⟩
  unfold JI
  split
  ·rename_i x hx
   exact eT hH v x u (fun id au=>ho id (by simp[cZ,hx,au])) hx h1
  ·exact h1
theorem gB:∀ (vs:List V) (vals:List Value) (o:Nat->ad),V.aC (ao M φ H) φ H w vs vals->∀id∈cZ o vs,H.us id
 |[],_,_,_,j,hj=>by simp[cZ]at hj
 |v::vs,_,o,h,j,hj=>by
  obtain⟨u,us,rfl,h1,h2⟩:=h
  simp only[cZ,List.mem_append]at hj
  rcases hj with hj|hj
  ·cases hx:dU o v with
   |none=>simp[hx]at hj
   |some x=>simp only[hx]at hj;exact cK v u h1 j hj
  ·exact gB vs us o h2 j hj
theorem xK(hs:b7 M cA H0 w0 n cx φ s a w){o:Oper}{g:FuncId}{all:List V}{vals:Array Value}(cO:gA n o.dst)(eU:Enters P g->(execOp a.eval o).run P w= .ok (.enter g vals) w)(bf:V.aC (ao M φ s.H) φ s.H w all vals.toList)
 (h:cI P g all s.o s.nx (fun v o' nx'=>K ⟨ba s.env o.dst v,o',nx'⟩) (fun v o' nx'=>X v ⟨s.env,o',nx'⟩))
 (hN:∀s' aE a' w',K s'->b7 M cA H0 w0 n cx aE s' a' w'->next a' w')
 (hQ:∀v s' aE w' val,X v s'->b7 M cA H0 w0 n cx aE s' a w'->V.den (ao M aE s'.H) aE s'.H w' v val->Q (.panic [{v:=val,recovered:=false}]) a w'):o.uponIn (dG ro) k P a next Q ((execOp a.eval o).run P w):=by
 have dC:=h.2 M φ w vals hs.heap bf
 rw[eU h.1]
 refine⟨fun hd=>by simp[dG]at hd,cW (dC.mono fun e w' ⟨aE,o',nx',v,k1,k2,k3⟩=> ?_)⟩
 cases e with
 |returned val=>exact OS
 |panicked ch=>
  obtain⟨val,rfl,k4,k5⟩:=k3
  exact XP
 |outgrown=>exact k3.elim
theorem Bg(hs:b7 M cA H0 w0 n cx φ s a w){o:Oper}{g:FuncId}{all:List V}{vals:Array Value}(cO:gA n o.dst)(eU:Enters P g->(execOp a.eval o).run P w= .ok (.enter g vals) w)(bf:V.aC (ao M φ s.H) φ s.H w all vals.toList)
 (h:uQ P s g all (fun v o' nx'=>K ⟨ba s.env o.dst v,o',nx'⟩) (fun v o' nx'=>X v ⟨s.env,o',nx'⟩))
 (hN:∀s' aE a' w',K s'->b7 M cA H0 w0 n cx aE s' a' w'->next a' w')
 (hQ:∀v s' aE w' val,X v s'->b7 M cA H0 w0 n cx aE s' a w'->V.den (ao M aE s'.H) aE s'.H w' v val->Q (.panic [{v:=val,recovered:=false}]) a w'):o.uponIn (dG ro) k P a next Q ((execOp a.eval o).run P w):=by
 unfold uQ at h
 obtain⟨f1,f2,f3,f4,f5⟩:=cQ hs.heap (V.br all) (cS all _ bf)
 have gk:s.H.put (bL s.H.o (V.br all))=⟨put s.o (bL s.o (V.br all)),s.H.us⟩:=lp I7
 have mX:=V.aT f2 _ _ bf
 rcases h with⟨ds,out,eP,hP,hK⟩|⟨ds,out,eP,hP,mJ,hK⟩|⟨ds,out,eP,hP,tU,hK⟩|hC|hC
 ·have xz:=df f1 all ds _ f3 eP mX
  have hM:∀b,ao M φ (s.H.put (bL s.H.o (V.br all))) b->b<w.heap.size:=fun b hb=>hb.elim (f1.Ak b) fun hl=>(f1.ours b hl).2
  have dC:=hP.2 _ w vals hM xz
  rw[eU hP.1]
  refine⟨fun hd=>by simp[dG]at hd,cW (dC.mono fun e w' ⟨hk,ho⟩=> ?_)⟩
  obtain⟨k1,k2⟩:=fS f1 hk
  cases out with
  |ret rs=>
   cases e with
   |returned val=>
    refine hN _ _ _ _ hK (nP hs k1 (f2.trans k2) (mH ho) cO (by rw[gk]) ?_)
    intro id hu;rw[gk]at hu;exact Nat.lt_succ_of_lt hu
   |panicked ch=>exact wG
   |outgrown=>exact wG
  |bF x=>
   cases e with
   |returned val=>exact ho.elim
   |panicked ch=>
    obtain⟨val,rfl,hd⟩:=ho
    have tE:=eD hs k1 (f2.trans k2) (o':=put s.o (bL s.o (V.br all))) (nx':=s.nx+1) (by rw[gk]) (fun id hu=>by rw[gk]at hu;exact Nat.lt_succ_of_lt hu)
    refine hQ _ _ _ _ val hK tE ?_
    have e1:ao M φ (S.H ⟨s.env,put s.o (bL s.o (V.br all)),s.nx+1⟩)=ao M φ (s.H.put (bL s.H.o (V.br all))):=by rw[gk];rfl
    simp only[V.den]
    rw[e1];exact hd
   |outgrown=>exact ho.elim
 ·have xz:=df f1 all ds _ f3 eP mX
  have hM:∀b,ao M φ (s.H.put (bL s.H.o (V.br all))) b->b<w.heap.size:=fun b hb=>hb.elim (f1.Ak b) fun hl=>(f1.ours b hl).2
  have dC:=hP.2 _ w vals hM xz
  rw[eU hP.1]
  refine⟨fun hd=>by simp[dG]at hd,cW (dC.mono fun e w' ⟨hk,ho⟩=> ?_)⟩
  obtain⟨k1,k2⟩:=fS hs.heap hk
  have ho:=R.yY (B':=ao M φ s.H) mJ ho
  cases out with
  |ret rs=>
   cases e with
   |returned val=>
    exact hN _ _ _ _ hK (nP hs k1 k2 (mH ho) cO rfl fun id hu=>Nat.lt_succ_of_lt hu)
   |panicked ch=>exact wG
   |outgrown=>exact wG
  |bF x=>
   cases e with
   |returned val=>exact ho.elim
   |panicked ch=>
    obtain⟨val,rfl,hd⟩:=ho
    exact hQ _ _ _ _ val hK (eD hs k1 k2 (o':=s.o) (nx':=s.nx+1) rfl fun id hu=>Nat.lt_succ_of_lt hu) hd
   |outgrown=>exact ho.elim
 ·obtain⟨a1,a2,a3,a4,a5⟩:=cQ hs.heap ((V.br all).filter fun id=>(s.o id).lj) (fun id au=>cS all _ bf id (List.mem_filter.1 au).1)
  have Bh:s.H.put (bL s.H.o ((V.br all).filter fun id=>(s.o id).lj))=⟨put s.o (rv s.o (V.br all)),s.H.us⟩:=by
   rw[MW]
   exact lp (by rw[tN];exact fun id au=>cS all _ bf id (List.mem_filter.1 au).1)
  have xz:=df f1 all ds _ f3 eP mX
  have hM:∀b,ao M φ (s.H.put (bL s.H.o (V.br all))) b->b<w.heap.size:=fun b hb=>hb.elim (f1.Ak b) fun hl=>(f1.ours b hl).2
  have dC:=hP.2 _ w vals hM xz
  rw[eU hP.1]
  refine⟨fun hd=>by simp[dG]at hd,cW (dC.mono fun e w' ⟨hk,ho⟩=> ?_)⟩
  obtain⟨k1,k2⟩:=fS a1 hk
  have tv:∀b,pU w' b-> ¬ao M φ (s.H.put (bL s.H.o (V.br all))) b-> ¬ao M φ (s.H.put (bL s.H.o ((V.br all).filter fun id=>(s.o id).lj))) b:=by
   intro b hc hn hm
   rcases hm with hM|⟨id,hl,hb⟩
   ·exact hn (.inl hM)
   ·by_cases au:id∈V.br all
    ·cases hx:s.H.o id with
     |arr ep ty sz es=>
      rw[a3 id (List.mem_filter.2 ⟨au,by show(s.H.o id).lj=true;rw[hx];rfl⟩),hx]at hl
      cases hl
     |map kt vt l=>
      have lI:id∉(V.br all).filter fun id=>(s.o id).lj:=fun h=>by
       have h2:(s.H.o id).lj=true:=(List.mem_filter.1 h).2
       rw[hx]at h2;cases h2
      have aW:=k1.ok id
      unfold aO at aW
      rw[a4 id lI,hx]at aW
      obtain⟨b',es,clock,g1,g2,_⟩:=aW
      rw[g1]at hb
      injection hb with hb
      subst hb
      obtain⟨cs,ty,fz,hc⟩:=hc
      rw[g2]at hc
      cases hc
     |_=>
      have lI:id∉(V.br all).filter fun id=>(s.o id).lj:=fun h=>by
       have h2:(s.H.o id).lj=true:=(List.mem_filter.1 h).2
       rw[hx]at h2;cases h2
      refine hn (.inr ⟨id, ?_,hb⟩)
      rw[a4 id lI,hx]at hl
      rw[f3 id au,hx]
      exact hl
    ·have lI:id∉(V.br all).filter fun id=>(s.o id).lj:=fun h=>au (List.mem_filter.1 h).1
     refine hn (.inr ⟨id, ?_,hb⟩)
     rw[a4 id lI]at hl
     rw[f4 id au]
     exact hl
  have ho:=R.JN (w':=w') (B':=ao M φ (s.H.put (bL s.H.o ((V.br all).filter fun id=>(s.o id).lj)))) tv tU ho
  cases out with
  |ret rs=>
   cases e with
   |returned val=>
    refine hN _ _ _ _ hK (nP hs k1 (a2.trans k2) (mH ho) cO (by rw[Bh]) ?_)
    intro id hu;rw[Bh]at hu;exact Nat.lt_succ_of_lt hu
   |panicked ch=>exact wG
   |outgrown=>exact wG
  |bF x=>
   cases e with
   |returned val=>exact ho.elim
   |panicked ch=>
    obtain⟨val,rfl,hd⟩:=ho
    have tE:=eD hs k1 (a2.trans k2) (o':=put s.o (rv s.o (V.br all))) (nx':=s.nx+1) (by rw[Bh]) (fun id hu=>by rw[Bh]at hu;exact Nat.lt_succ_of_lt hu)
    refine hQ _ _ _ _ val hK tE ?_
    have e1:ao M φ (S.H ⟨s.env,put s.o (rv s.o (V.br all)),s.nx+1⟩)=ao M φ (s.H.put (bL s.H.o ((V.br all).filter fun id=>(s.o id).lj))):=by rw[Bh];rfl
    simp only[V.den]
    rw[e1];exact hd
   |outgrown=>exact ho.elim
 ·exact xK hs cO eU bf hC hN hQ
 ·obtain⟨f1,f2,f3,f4,f5⟩:=cQ hs.heap (cZ s.o all) (gB all _ s.o bf)
  have gk:s.H.put (bL s.H.o (cZ s.o all))=hp (put s.o (bL s.o (cZ s.o all))) s.nx:=lp (by rw[tN];exact gB all _ s.o bf)
  have mX:=JO f1 all _ f3 (V.aT f2 _ _ bf)
  rw[gk]at f1 f2 mX
  exact xK (s:=⟨s.env,put s.o (bL s.o (cZ s.o all)),s.nx⟩) (eD hs f1 f2 rfl fun id hu=>hu) cO eU mX hC hN hQ
theorem MX(hs:b7 M cA H0 w0 n cx φ s a w){o:Oper}{c:Call}{f:Operand}(fP:o.op= .call c)(hc:c.callee= .value f)(cO:gA n o.dst)
 (h:Be P s (s.ev f) (c.args.toList.map s.ev) (fun v o' nx'=>K ⟨ba s.env o.dst v,o',nx'⟩) (fun v o' nx'=>X v ⟨s.env,o',nx'⟩))
 (hN:∀s' aE a' w',K s'->b7 M cA H0 w0 n cx aE s' a' w'->next a' w')
 (hQ:∀v s' aE w' val,X v s'->b7 M cA H0 w0 n cx aE s' a w'->V.den (ao M aE s'.H) aE s'.H w' v val->Q (.panic [{v:=val,recovered:=false}]) a w'):o.wpIn (dG ro) k P a w next Q:=by
 refine kn (fun c' Ap=>by rw[fP]at Ap;cases Ap) ?_
 have hf:=mP (M:=M) (φ:=φ) (H:=s.H) (w:=w) s a hs.env f
 have dq:=j9 (M:=M) (φ:=φ) (H:=s.H) (w:=w) s a hs.env c.args.toList
 unfold Be at h
 split at h
 ·rename_i g first cap wI
  rw[wI]at hf
  obtain⟨fa,ca,SI,E5,hca⟩:=hf
  have bf:V.aC (ao M φ s.H) φ s.H w (first++c.args.toList.map s.ev++cap) (fa++c.args.map a.eval++ca).toList:=by
   exact YE
  generalize first++c.args.toList.map s.ev++cap=all at h bf
  generalize mK:fa++c.args.map a.eval++ca=vals at bf
  have eU:Enters P g->(execOp a.eval o).run P w= .ok (.enter g vals) w:=by
   intro he
   have:=lq (w:=w) he (fa++c.args.map a.eval++ca)
   rw[mK]at this
   simp[execOp,fP,resolve,hc,SI,Deferred.ofValue,invoke,this,mK]
  exact Bg hs cO eU bf h hN hQ
 ·rename_i id wI
  rw[wI]at hf
  obtain⟨_,dY,hp'⟩:=hf
  obtain⟨cz,hR⟩:=h
  obtain⟨b,eB,SI⟩:=hp' cz
  obtain⟨fn,tmps,assign,body,h1,h2⟩:=hR M φ w (c.args.map a.eval) b hs.heap (by rw[Array.toList_map];exact dq) eB
  have eU:(execOp a.eval o).run P w= .ok (.round b fn tmps assign body) w:=by
   simp[execOp,fP,resolve,hc,SI,Deferred.ofValue,invoke,h1]
  rw[eU]
  refine⟨fun hd=>by simp[dG]at hd,RoundIn.mono (h2 (k - 1)) fun e w' ⟨aE,o',nx',v,k1,k2,k3⟩=> ?_⟩
  cases e with
  |returned val=>exact OS
  |panicked ch=>
   obtain⟨val,rfl,k4,k5⟩:=k3
   exact XP
  |outgrown=>exact k3.elim
 ·exact h.elim
theorem Hf(hs:b7 M cA H0 w0 n cx φ s a w){o:Oper}{c:Call}{r:Operand}{m:String}{g:FuncId}{y:V}(fP:o.op= .call c)(hc:c.callee= .invoke r m)(cO:gA n o.dst)(hr:uR P m (s.ev r)=some (g,y))
 (h:uQ P s g (y::c.args.toList.map s.ev) (fun v o' nx'=>K ⟨ba s.env o.dst v,o',nx'⟩) (fun v o' nx'=>X v ⟨s.env,o',nx'⟩))
 (hN:∀s' aE a' w',K s'->b7 M cA H0 w0 n cx aE s' a' w'->next a' w')
 (hQ:∀v s' aE w' val,X v s'->b7 M cA H0 w0 n cx aE s' a w'->V.den (ao M aE s'.H) aE s'.H w' v val->Q (.panic [{v:=val,recovered:=false}]) a w'):o.wpIn (dG ro) k P a w next Q:=by
 refine kn (fun c' Ap=>by rw[fP]at Ap;cases Ap) ?_
 have hf:=mP (M:=M) (φ:=φ) (H:=s.H) (w:=w) s a hs.env r
 have dq:=j9 (M:=M) (φ:=φ) (H:=s.H) (w:=w) s a hs.env c.args.toList
 unfold uR at hr
 split at hr
 ·rename_i t d hx
  rw[hx]at hf
  obtain⟨val,hv,hd⟩:=hf
  split at hr
  ·rename_i ti hti
   split at hr
   ·rename_i mr tW
    split at hr
    ·rename_i f AD
     split at hr
     ·rename_i PI
      injection hr with hr
      injection hr with h1 h2
      subst h1;subst h2
      refine Bg (vals:=#[val]++c.args.map a.eval) hs cO ?_ ?_ h hN hQ
      ·intro he
       have eU:=lq (w:=w) he (#[val]++c.args.map a.eval)
       have hpa:mr.path=#[]:=Array.isEmpty_iff.1 PI.1
       have hu:∃u,P.underlying t=some u/\∀e,u≠ .pointer e:=by
        have:=PI.2
        unfold PH at this
        split at this
        ·cases this
        ·rename_i u fG hu;exact⟨u,hu,fun e he=>fG e he⟩
        ·cases this
       obtain⟨u,hu,PJ⟩:=hu
       have hm:(method (P.types.size+Made.depth) t val m).run P w= .ok (f,val) w:=by
        have:P.types.size+Made.depth=(P.types.size+Made.depth - 1)+1:=by simp[Made.depth]
        rw[this]
        cases u<;>first|exact absurd rfl (PJ _)|simp[method,typeInfo,hti,tW,hpa,AD,follow,receiverAt,run_underlying hu,_root_.Go.Place.get]
       have h0:(#[Value.iface t val]++Array.map a.eval c.args)[0]? =some (.iface t val):=by
        rw[Array.getElem?_append_left (by simp)];rfl
       have h1:(Array.map a.eval c.args).extract 0 c.args.size=Array.map a.eval c.args:=by
        rw[show c.args.size=(Array.map a.eval c.args).size from by simp,Array.extract_size]
       simp[execOp,fP,resolve,hc,invoke,callMethod,hv,h0,h1,hm,eU]
      ·simp only[Array.toList_append,Array.toList_map]
       exact⟨val,_,rfl,hd,dq⟩
     ·cases hr
    ·cases hr
   ·cases hr
  ·cases hr
 ·cases hr
theorem xL(hs:b7 M cA H0 w0 n cx φ s a w){o:Oper}(h:opW P n s o X K)
 (hN:∀s' aE a' w',K s'->b7 M cA H0 w0 n cx aE s' a' w'->next a' w')
 (hQ:∀v s' aE w' val,X v s'->b7 M cA H0 w0 n cx aE s' a w'->V.den (ao M aE s'.H) aE s'.H w' v val->Q (.panic [{v:=val,recovered:=false}]) a w'):o.wpIn (dG ro) k P a w next Q:=by
 obtain⟨cO,h⟩:=h
 split at h
 ·rename_i c fP
  split at h
  ·rename_i f hc
   exact MX hs fP hc cO h hN hQ
  ·rename_i r m hc
   split at h
   ·rename_i g y hr;exact Hf hs fP hc cO hr h hN hQ
   ·exact h.elim
  ·exact JM hs rfl cO h hN
 ·rename_i x fP
  have hx:=mP (M:=M) (φ:=φ) (H:=s.H) (w:=w) s a hs.env x
  have bF:∀ (t:TypeId) (u:Value),a.eval x= .iface t u->Q (.panic [{v:= .iface t u,recovered:=false}]) a w->o.wpIn (dG ro) k P a w next Q:=by
   intro t u hu hq
   refine kn (fun c hc=>by rw[fP]at hc;cases hc) ?_
   have hr:(execOp a.eval o).run P w= .halt (.panic (.iface t u)) w:=by simp[execOp,fP,hu,Instr.panic]
   rw[hr];exact hq
  split at h
  ·rename_i t y hv
   rw[hv]at hx
   obtain⟨u,hu,hd⟩:=hx
   exact OZ
  ·rename_i t y hv
   rw[hv]at hx
   obtain⟨u,hu,hd⟩:=hx
   exact OZ
  ·exact h.elim
 ·exact JM hs rfl cO h hN
end
end
end Go.Proofs.YtlhemmpklhhgoaaGreat
namespace Go
def Code.tF (P:Program)(ro:Option Nat)(c:Code)(Q:Exit->Act->World->Prop)(a:Act)(w:World):Prop:=
 ∀ (b:Frame) (k:List Item) (cs:List Frame),b.roundOf=ro->b.fn<P.funcs.size->
   ∃e a' w',Q e a' w'/\ArrivesIn (Machine.fenced P (Proofs.YtlhemmpklhhgoaaGreat.dG ro)) P (lone (b.atR a (.code c::k)) cs w) b k cs e a' w'
end Go
namespace Go.Proofs.YtlhemmpklhhgoaaGreat
instance:LawfulMonad Sem:=LawfulMonad.mk' Sem (id_map:=fun x=>Sem.bind_pure' x) (pure_bind:=fun _ _=>rfl) (bind_assoc:=fun x f g=>Sem.bind_assoc' x f g)
section
variable {P:Program}{M:Nat->Prop}{φ:Place}{H:Hp}{w w':World}{cA:Place}{H0:Hp}{w0:World}{n b:Nat}{s:S}{a:Act}{cx:Cx}{ro:Option Nat}{k:Nat}
theorem qm(hs:b7 M cA H0 w0 n cx φ s a w){ops:Array Oper}{o:Oper}{A B:Prop}(h:yV s ops o.guard A B):
 (Region.wanted o (yielded ops a.tmps)=true->A)/\(Region.wanted o (yielded ops a.tmps)=false->B):=by
 unfold yV at h
 unfold Region.wanted
 split at h
 ·rename_i hg;simp only[hg];exact⟨fun _=>h,fun h=>by cases h⟩
 ·rename_i j want hg
  simp only[hg]
  unfold sL at h
  unfold yielded
  split at h
  ·rename_i d hd
   simp only[hd,Option.bind_some]
   have dW:=hs.env d
   split at h
   ·rename_i c hv
    rw[hv]at dW
    simp only[V.den,D.den]at dW
    have:a.tmps[d]? =some (.bool c):=by
     rw[Array.getD_eq_getD_getElem?]at dW
     cases hx:a.tmps[d]? with
     |none=>rw[hx]at dW;simp[undef]at dW
     |some x=>rw[hx]at dW;simp at dW;rw[dW]
    simp only[this]
    by_cases hc:c=want
    ·subst hc;exact⟨fun _=>h.1 rfl,fun h=>by simp at h⟩
    ·exact⟨fun h'=>absurd (by simpa using h') hc,fun _=>h.2 hc⟩
   ·rename_i hv
    rw[hv]at dW
    obtain⟨arr,c7,hn⟩:=dW
    simp only[V.aC]at hn
    have:∀c,a.tmps[d]? ≠some (.bool c):=by
     exact Pt
    cases hx:a.tmps[d]? with
    |none=>exact⟨fun h=>by simp at h,fun _=>h⟩
    |some x=>cases x<;>first|(exact absurd hx (this _))|(exact⟨fun h=>by simp at h,fun _=>h⟩)
   ·exact h.elim
  ·rename_i hd
   simp only[hd,Option.bind_none]
   exact⟨fun h=>by simp at h,fun _=>h⟩
theorem Bi(hs:b7 M cA H0 w0 n cx φ s a w){dst:Option Tmp}(cO:gA n dst):b7 M cA H0 w0 n cx φ ⟨ba s.env dst (.bT []),s.o,s.nx+1⟩ (a.put dst undef) w:=
 nP (v:= .bT []) (val:=undef) hs hs.heap (Trans.refl _ _ _) ⟨#[],rfl,rfl⟩ cO rfl fun _ hu=>Nat.lt_succ_of_lt hu
theorem pc{ops:Array Oper}{X:V->S->Prop}{K:S->Prop}{Q:Exit->Act->World->Prop}
 (hK:∀s φ a w,K s->b7 M cA H0 w0 n cx φ s a w->Q .normal a w)
 (hQ:∀v s' aE a w' val,X v s'->b7 M cA H0 w0 n cx aE s' a w'->V.den (ao M aE s'.H) aE s'.H w' v val->Q (.panic [{v:=val,recovered:=false}]) a w'):
 ∀ (l:List Oper) (s:S) (φ:Place) (a:Act) (w:World),yW P n ops X K l s->b7 M cA H0 w0 n cx φ s a w->wpListIn (dG ro) k P ops Q l a w
 |[],s,φ,a,w,h,hs=>hK s φ a w h hs
 |o::l,s,φ,a,w,h,hs=>by
  obtain⟨h1,h2⟩:=qm hs h
  unfold wpListIn
  split
  ·rename_i hw
   exact xL hs (h1 hw) (fun s' aE a' w' hk jT=>pc hK hQ l s' aE a' w' hk jT) (fun v s' aE w' val hx jT hd=>hQ v s' aE a w' val hx jT hd)
  ·rename_i hw
   obtain⟨cO,h3⟩:=h2 (by simpa using hw)
   exact⟨fun _ _=>trivial,pc hK hQ l _ _ _ _ h3 (Bi hs cO)⟩
def Fo(M:Nat->Prop)(cA:Place)(H0:Hp)(w0:World)(n:Nat)(cx:Cx)(Q:fk->S->Prop)(e:Exit)(a:Act)(w:World):Prop:=
 ∃x s φ,Q x s/\b7 M cA H0 w0 n cx φ s a w/\match e,x with
  | .normal, .normal=>True
  | .exit i, .exit j=>i=j
  | .ret, .ret=>True
  | .panic ch, .bF v=>∃val,ch=[{v:=val,recovered:=false}]/\V.den (ao M φ s.H) φ s.H w v val
  |_,_=>False
section
variable {Q:Exit->Act->World->Prop}
theorem gC{m:Nat}:(dG ro).room m:=fun d hd=>by simp[dG]at hd
theorem pf{c:Code}(h:c.wpIn (dG ro) k P Q a w):c.tF P ro Q a w:=fun b k cs tW _=>h b k cs tW trivial gC
theorem gD{c:Code}{Q':Exit->Act->World->Prop}(h:c.tF P ro Q a w)(hq:∀e a w,Q e a w->Q' e a w):c.tF P ro Q' a w:=
 fun b k cs tW hb=>let⟨e,a',w',q,r⟩:=h b k cs tW hb;⟨e,a',w',hq _ _ _ q,r⟩
theorem Fq(h:Q .ret a w):Code.ret.tF P ro Q a w:=pf (k:=0) (wpIn_ret h)
theorem Bj{id:Nat}(h:Q (.exit id) a w):(Code.exit id).tF P ro Q a w:=pf (k:=0) (wpIn_exit h)
theorem yZ{x y:Code}(h:x.tF P ro (Exit.then (y.tF P ro Q) Q) a w):(Code.seq x y).tF P ro Q a w:=by
 intro b k cs tW hb
 have h0:(lone (b.atR a (.code (.seq x y)::k)) cs w).fenced P (dG ro):=fenced_calm (n:=0) trivial gC rfl
 obtain⟨e,oq,jn,hq,c7⟩:=h b (.code y::k) cs tW hb
 cases e with
 |normal=>
  obtain⟨SJ,Y2,rJ,qn,ko⟩:=hq b k cs tW hb
  exact⟨SJ,Y2,rJ,qn, .of_steps (.head h0 stepR_seq c7) ko⟩
 |exit id=>exact IV
 |goto l=>exact IV
 |ret=>exact IV
 |panic ch=>exact IV
 |outgrown=>exact IV
theorem qo{c:Operand}{x y:Code}{t:Bool}(hc:a.eval c= .bool t)(h:(if t then x else y).tF P ro Q a w):(Code.cond c x y).tF P ro Q a w:=
 fun b k cs tW hb=>let⟨e,a',w',q,r⟩:=h b k cs tW hb;⟨e,a',w',q, .of_steps (.one (fenced_calm (n:=0) trivial gC rfl) (stepR_cond hc)) r⟩
theorem Hg{id:Nat}{c:Code}(h:c.tF P ro (Exit.inBlock id Q) a w):(Code.block id c).tF P ro Q a w:=by
 intro b k cs tW hb
 have h0:(lone (b.atR a (.code (.block id c)::k)) cs w).fenced P (dG ro):=fenced_calm (n:=0) trivial gC rfl
 obtain⟨e,oq,jn,hq,c7⟩:=h b (.inBlock id::k) cs tW hb
 cases e with
 |normal=>exact⟨.normal,oq,jn,hq, .head h0 stepR_block (StepsIn.trans c7 (.one (fenced_calm (n:=0) trivial gC rfl) stepR_inBlock))⟩
 |exit Ao=>
  by_cases au:Ao=id
  ·simp only[Exit.inBlock,au,if_true]at hq
   exact⟨.normal,oq,jn,hq, .head h0 stepR_block (c7.1 k (by simp[exitTo,au]))⟩
  ·simp only[Exit.inBlock,au,if_false]at hq
   have this:(id==Ao)=false:=by simp;exact fun h=>au h.symm
   have hx:exitTo Ao (.inBlock id::k)=exitTo Ao k:=by simp[exitTo,this]
   exact⟨.exit Ao,oq,jn,hq,fun k' hk=> .head h0 stepR_block (c7.1 k' xh),
    fun Hb hk=>let⟨k₁,h1,h2⟩:=c7.2 Hb xh;⟨k₁,h1, .head h0 stepR_block h2⟩⟩
 |goto l=>
  have hx:gotoIn l (.inBlock id::k)=gotoIn l k:=by simp[gotoIn]
  exact⟨_,oq,jn,hq,fun k' hk=> .head h0 stepR_block (c7.1 k' xh),
   fun Hb hk=>let⟨k₁,h1,h2⟩:=c7.2 Hb xh;⟨k₁,h1, .head h0 stepR_block h2⟩⟩
 |ret=>exact R8
 |panic ch=>exact R8
 |outgrown=>exact R8
theorem j5{b:Frame}{k:List Item}{cs:List Frame}{c:Code}:step P (lone (b.atR a (.code (.scope c)::k)) cs w)= .next (lone (b.atR a (.code c:: .inScope c::k)) cs w):=
 step_lone_go (by simp[stepG,stepG.exec,Frame.atR])
theorem wR{b:Frame}{k:List Item}{cs:List Frame}{c:Code}:step P (lone (b.atR a (.inScope c::k)) cs w)= .next (lone (b.atR a k) cs w):=
 step_lone_go (by simp[stepG,stepG.exec,Frame.atR])
theorem xM{c:Code}(h:c.tF P ro Q a w)(hg:∀l a w, ¬Q (.goto l) a w):(Code.scope c).tF P ro Q a w:=by
 intro b k cs tW hb
 have h0:(lone (b.atR a (.code (.scope c)::k)) cs w).fenced P (dG ro):=fenced_calm (n:=0) trivial gC rfl
 obtain⟨e,oq,jn,hq,c7⟩:=h b (.inScope c::k) cs tW hb
 cases e with
 |normal=>exact⟨.normal,oq,jn,hq, .head h0 j5 (StepsIn.trans c7 (.one (fenced_calm (n:=0) trivial gC rfl) wR))⟩
 |exit Ao=>
  have hx:exitTo Ao (.inScope c::k)=exitTo Ao k:=by simp[exitTo]
  exact⟨.exit Ao,oq,jn,hq,fun k' hk=> .head h0 j5 (c7.1 k' xh),
   fun Hb hk=>let⟨k₁,h1,h2⟩:=c7.2 Hb xh;⟨k₁,h1, .head h0 j5 h2⟩⟩
 |goto l=>exact(hg _ _ _ hq).elim
 |ret=>exact R9
 |panic ch=>exact R9
 |outgrown=>exact R9
def uT(P:Program)(l:Nat)(Q:Exit->Act->World->Prop)(a':Act):Ending->World->Prop
 | .returned _,Dy=>∃jump tG,(Instr.endLoop l).run P Dy= .ok jump tG/\(match jump with|none=>Q .normal a' tG|some c=>c.tF P none Q a' tG)
 | .panicked chain,Dy=>Q (.panic chain) a' Dy
 | .outgrown,_=>LetsOut Q
theorem wS{g:Operand}{ps:Array Tmp}{assign body:Code}
 (h:∀fn,fn<P.funcs.size->∃ (l:Nat) (mark:List Deferred) (jn:World) (d:Deferred) (xN:World) (f:FuncId) (args:Array Value) (rJ:World),
  (Instr.enterLoop fn a.tmps ps assign body (dG none).round).run P w= .ok (l,mark) jn/\(resolve a.eval (rangeCall g l) 0).run P jn= .ok d xN/\
  (invoke d.target d.args).run P xN= .ok (.enter f args) rJ/\CallsIn (dG none) 0 P f args rJ (uT P l Q {a with defers:=mark++a.defers})):
 (Code.rangeFunc g ps assign body).tF P none Q a w:=by
 intro b k cs tW hb
 obtain⟨l,mark,jn,d,xN,f,args,rJ,he,Bk,hinv,hF,dC⟩:=h b.fn hb
 rw[show(dG none).round=b.roundOf from tW.symm]at he
 have calm:∀ (m:Machine),m.fenced P (dG none)↔m.fenced P Fence.wide:=fun m=>Iff.rfl
 have h0:(lone (b.atR a (.code (.rangeFunc g ps assign body)::k)) cs w).fenced P (dG none):=(calm _).2 (fenced_wide P _)
 have lW:=stepR_rangeFunc (P:=P) (b:=b) (a:=a) (k:=k) (cs:=cs) (w:=w) he Bk hinv
 obtain⟨e,Dy,fr,hR,Dz,AD,JP⟩:=dC (b.atR {a with defers:=mark++a.defers} (.inRangeFunc l::k)::cs) gC
 cases e with
 |outgrown=>
  obtain⟨adi,adj,hq⟩:=hR
  exact⟨.outgrown,adi,adj,hq, .inr (Outgrown.of_steps (.one lW) Dz)⟩
 |returned v=>
  obtain⟨jump,tG,ef,hj⟩:=hR
  have PK:StepsIn (Machine.fenced P (dG none)) P (lone (b.atR a (.code (.rangeFunc g ps assign body)::k)) cs w) (lone (b.atR {a with defers:=mark++a.defers} ((jump.map Item.code).toList++k)) cs tG):=by
   refine .head h0 lW (StepsIn.trans Dz (.head ((calm _).2 (fenced_wide P _)) ?_ (.one ((calm _).2 (fenced_wide P _)) (stepR_endRangeFunc ef))))
   rw[<- finish_atR_inRangeFunc l v];exact step_leave_returned JP
  cases jump with
  |none=>exact⟨.normal,_,tG,hj,PK⟩
  |some c=>
   obtain⟨e',a'',adk,hq,c7⟩:=hj b k cs tW hb
   exact⟨e',a'',adk,hq, .of_steps PK c7⟩
 |panicked chain=>
  refine⟨.panic chain,_,Dy,hR, .inRangeFunc l::k, .head h0 lW (StepsIn.trans Dz (.one ((calm _).2 (fenced_wide P _)) ?_))⟩
  rw[<- Frame.raise_atR];exact step_leave_panicked JP
end
theorem xO(hH:ax M φ H w){id l:Nat}(dY:H.us id){nf m:Nat}{env:List V}{ps:List Nat}{jr eR:IC}{st st':LoopState}{pd pd':Option jR}(ho:H.o id= .loop nf m env ps jr eR st pd)(eB:φ id= .pointer (some ⟨l,0,none⟩)):
 ∃r,w.heap[l]? =some (.loop r)/\r.state=st/\r.pending=pd.map jR.code/\
  ax M φ (H.put [(id, .loop nf m env ps jr eR st' pd')]) {w with heap:=w.heap.setIfInBounds l (.loop {r with state:=st',pending:=pd'.map jR.code})}/\
  Trans φ H w φ (H.put [(id, .loop nf m env ps jr eR st' pd')]) {w with heap:=w.heap.setIfInBounds l (.loop {r with state:=st',pending:=pd'.map jR.code})}:=by
 have aW:=hH.ok id
 simp only[aO,ho]at aW
 obtain⟨b,r,h1,h2,h0,h3,h4,h5,h6,h7,h8,h9⟩:=aW
 rw[eB]at h1;simp at h1;subst h1
 refine⟨r,h2,h3,h4, ?_⟩
 have JF:dV (· =l) w {w with heap:=w.heap.setIfInBounds l (.loop {r with state:=st',pending:=pd'.map jR.code})}:=
  ⟨rfl,rfl,rfl,aF,fun j _ hj=>(MapKept.heap_set h2).2 j hj⟩
 have pO:(H.o id).live=true:=by rw[ho];rfl
 have Fi:dT (φ id)=some l:=by rw[eB];rfl
 have ht:=eI (w:=w) (w':={w with heap:=w.heap.setIfInBounds l (.loop {r with state:=st',pending:=pd'.map jR.code})}) dY pO Fi JF (.loop nf m env ps jr eR st' pd') ed ed
 refine⟨gS hH dY pO Fi JF _ ed ed ?_,ht⟩
 unfold aO
 simp only[bC,aH,if_true]
 exact⟨l,_,eB,(MapKept.heap_set h2).1,h0,rfl,rfl,h5,h6,h7,h8,fun i=>V.aS ht _ _ (h9 i)⟩
theorem iQ{l:Nat}{r:Loop}(o:Obj)(hb:w.heap[l]? =some (.loop r)):(setObj l o).run P w= .ok () {w with heap:=w.heap.setIfInBounds l o}:=by
 simp[setObj,Sem.run,hb]
theorem kp{l:Nat}{r:Loop}(hb:w.heap[l]? =some (.loop r)):(Instr.getLoop l).run P w= .ok r w:=by
 simp[Instr.getLoop,getObj,Sem.run,hb,Result.andThen]
end
def qp(Q:fk->S->Prop)(pd:Option jR)(s:S):Prop:=
 match pd with
 |none=>Q .normal s
 |some .ret=>Q .ret s
 |some (.exit id)=>Q (.exit id) s
def Bl(P:Program)(n:Nat)(g:V)(ps:List Nat)(jr eR:IC)(Q:fk->S->Prop)(s:S):Prop:=
 ∃env,(∀i,aX env i= .aa\/aX env i=s.env i)/\
  match g with
  | .func (.func f) first cap=>oF P f (first++[.j7 s.nx]++cap) (az s.o s.nx (.loop P.funcs.size n env ps jr eR .ready none)) (s.nx+1)
    (fun _ o' nx'=>∃nf m e p c d st pd,o' s.nx= .loop nf m e p c d st pd/\st≠ .busy/\qp Q pd ⟨s.env,az o' s.nx (.loop nf m e p c d .exhausted pd),nx'⟩)
    (fun v o' nx'=>Q (.bF v) ⟨s.env,o',nx'⟩)
  |_=>False
def Y3(P:Program)(n b:Nat)(g:Operand)(ps:List Nat)(jr eR:IC)(Q:fk->S->Prop)(s:S):Prop:=∃s',(s'=s\/bA b s s')/\Bl P n (s'.ev g) ps jr eR Q s'
def iY(P:Program)(n b:Nat)(rd:Bool):Code->(fk->S->Prop)->S->Prop
 | .skip,Q,s=>Q .normal s
 | .label _,Q,s=>Q .normal s
 | .scope x,Q,s=>iY P n b rd x Q s
 | .region _ ops false,Q,s=>yW P n ops (fun v s=>Q (.bF v) s) (Q .normal) ops.toList s
 | .region id ops true,Q,s=>∀M cA H0 w0 cx φ a w ro k,b7 M cA H0 w0 n cx φ s a w->(Code.region id ops true).wpIn (dG ro) k P (Fo M cA H0 w0 n cx Q) a w
 | .seq x y,Q,s=>iY P n b rd x (ql (iY P n b rd y Q) Q) s
 | .cond c x y,Q,s=>match s.ev c with
   | .d (.bool t)=>(t=true->iY P n b rd x Q s)/\(t=false->iY P n b rd y Q s)
   | .fH=>iY P n b rd x Q s/\iY P n b rd y Q s
   |_=>False
 | .block id x,Q,s=>iY P n b rd x (ff id Q) s
 | .loop x,Q,s=>∃ (J:Nat->S->Prop),(∃m s1,bA b s s1/\J m s1)/\∀m s0,J m s0->iY P n b rd x (fun e s=>match e with| .normal=>∃m' s1,m'<m/\bA b s s1/\J m' s1|e=>Q e s) s0
 | .exit id,Q,s=>Q (.exit id) s
 | .ret,Q,s=>Q .ret s
 | .rangeFunc g ps x y,Q,s=>rd=false/\Y3 P n b g ps.toList (low n x) (low n y) Q s
 |_,_,_=>False
section
variable {P:Program}{M:Nat->Prop}{φ:Place}{H:Hp}{w w':World}{cA:Place}{H0:Hp}{w0:World}{n b:Nat}{s:S}{a:Act}{cx:Cx}{ro:Option Nat}{k:Nat}
theorem DA(hb:∀id,H0.us id->id<b)(hs:b7 M cA H0 w0 n cx φ s a w){s':S}(h:bA b s s'):∃aE,b7 M cA H0 w0 n cx aE s' a w:=by
 obtain⟨aE,h1,h2,h3,h4,h5,h6⟩:=h M φ w (fun i=>a.tmps.getD i undef) hs.heap hs.env
 refine⟨aE,h1,⟨hs.tr.cu,fun k hk=>hs.tr.grow k (h3 k hk),⟨fun id hu=>Nat.lt_of_lt_of_le (hb id hu) h4,fun id hu hr=> ?_,fun id e' hu he=> ?_⟩⟩,hs.size, ?_,h2⟩
 ·obtain⟨g1,g2⟩:=h5 id (hb id hu) hr
  obtain⟨g3,g4⟩:=hs.tr.rel.row id hu g1
  exact⟨g3,g2.trans g4⟩
 ·obtain⟨e,g1,g2,g3⟩:=h6 id e' (hb id hu) he
  obtain⟨e0,k1,k2,k3⟩:=hs.tr.rel.ep id e hu g1
  refine⟨e0,k1,Nat.le_trans k2 g2,fun heq=> ?_⟩
  have a1:e0=e:=af
  have a2:e=e':=af
  exact(g3 a2).trans (k3 a1)
 ·obtain⟨ms,g1,g2,g3,g4⟩:=hs.defers
  exact⟨ms,g1,g2,g3,fun r hr=>⟨(g4 r hr).1,(g4 r hr).2.1,fun hl=>(g4 r hr).2.2 (h3 r hl)⟩⟩
theorem y0{c:Code}{Q:Exit->Act->World->Prop}(J:Nat->Act->World->Prop)(round:∀m a w,J m a w->c.tF P ro (Exit.then (fun a' w'=>∃m',m'<m/\J m' a' w') Q) a w):
 ∀m a w,J m a w->(Code.loop c).tF P ro Q a w:=by
 intro m a w h0 fr kk cs tW hb
 have hr:(dG ro).room (cs.length+1+0):=fun d hd=>by simp[dG]at hd
 have key:∀m a w,J m a w->∃e a' w',Q e a' w'/\ArrivesIn (Machine.fenced P (dG ro)) P (lone (fr.atR a (.code c:: .inLoop c::kk)) cs w) fr kk cs e a' w':=by
  intro m
  induction m using Nat.strongRecOn with
  |_ m ih=>
   intro a w hJ
   obtain⟨e,a1,w1,hq,c7⟩:=round m a w hJ fr (.inLoop c::kk) cs tW hb
   cases e with
   |normal=>
    obtain⟨m',b8,hJ'⟩:=hq
    obtain⟨e2,a2,w2,VS,Fs⟩:=ih m' b8 a1 w1 hJ'
    exact⟨e2,a2,w2,VS, .of_steps (StepsIn.trans c7 (.one (fenced_calm trivial hr rfl) stepR_inLoop)) Fs⟩
   |_=>exact⟨_,a1,w1,hq, .pass (x:= .inLoop c) rfl (fun _ _=> .inl aF) c7⟩
 obtain⟨e,a',w',hq,c7⟩:=key m a w h0
 exact⟨e,a',w',hq, .of_steps (.one (fenced_calm trivial hr rfl) stepR_loop) c7⟩
theorem xP(hs:b7 M cA H0 w0 n cx φ s a w)(mG:cx.rd=false)(tW:ro=none){g:Operand}{ps:Array Tmp}{x y:Code}{Q:fk->S->Prop}(h:Bl P n (s.ev g) ps.toList (low n x) (low n y) Q s):
 (Code.rangeFunc g ps x y).tF P ro (Fo M cA H0 w0 n cx Q) a w:=by
 subst tW
 obtain⟨env,dW,h⟩:=h
 refine wS fun fn AD=> ?_
 let DB:Loop:={state:= .ready,pending:=none,fn:=fn,tmps:=a.tmps,params:=ps,assign:=x,body:=y,defers:=w.heap.size}
 let w1:World:=(w.alloc (.deferred (some []))).alloc (.loop DB)
 let l:Nat:=w.heap.size+1
 have lW:(Instr.enterLoop fn a.tmps ps x y (dG none).round).run P w= .ok (l,[mark w.heap.size]) w1:=by
  simp[Instr.enterLoop,dG,mark,w1,l,DB]
 have PL:dV (fun _=>False) w w1:=by
  have k1:=cc w (.deferred (some []))
  have k2:=cc (w.alloc (.deferred (some []))) (.loop DB)
  exact⟨k2.os.trans k1.os,k2.tape.trans k1.tape,k2.output.trans k1.output,Nat.le_trans k1.size k2.size,fun j hj hm=>(k2.block j (Nat.lt_of_lt_of_le hj k1.size) hm).trans (k1.block j hj hm)⟩
 let iM:=az φ s.nx (.pointer (some ⟨l,0,none⟩))
 let s1:S:=⟨s.env,az s.o s.nx (.loop P.funcs.size n env ps.toList (low n x) (low n y) .ready none),s.nx+1⟩
 have c8: ¬s.H.us s.nx:=by simp[S.H]
 have fi:∀b,dT (.pointer (some ⟨l,0,none⟩))=some b->w.heap.size<=b/\b<w1.heap.size:=by
  intro b hb;simp[dT]at hb;subst hb;simp[l,w1]
 have C6:=dz (φ:=φ) (H:=s.H) PL c8 (.loop P.funcs.size n env ps.toList (low n x) (low n y) .ready none) (.pointer (some ⟨l,0,none⟩)) fun b hb=>(fi b hb).1
 have MR:(w.alloc (.deferred (some []))).heap.size=w.heap.size+1:=aF
 have pO:w1.heap[l]? =some (.loop DB):=by
  have:=heap_alloc_new (w.alloc (.deferred (some []))) (.loop DB)
  rwa [MR]at this
 have rn:=iz hs.heap PL c8 (.loop P.funcs.size n env ps.toList (low n x) (low n y) .ready none) (.pointer (some ⟨l,0,none⟩)) fi (by
  unfold aO
  simp only[bC,aH,if_true]
  refine⟨l,DB,rfl,pO,AD,rfl,rfl,rfl,hs.size,rfl,rfl,fun i=> ?_⟩
  rcases dW i with e|e
  ·rw[e];trivial
  ·rw[e];exact V.aS C6 _ _ (hs.env i))
 have nU:b7 M cA H0 w0 n cx iM s1 {a with defers:=mark w.heap.size::a.defers} w1:=by
  have base:=eD hs rn C6 (o':=az s.o s.nx (.loop P.funcs.size n env ps.toList (low n x) (low n y) .ready none)) (nx':=s.nx+1) rfl (JL fun id au=>by simp at au;exact .inr au)
  refine⟨base.heap,base.tr,base.size, ?_,base.env⟩
  obtain⟨ms,g1,g2,g3,g4⟩:=base.defers
  obtain⟨ms',q1,q2,q3,q4⟩:=hs.defers
  have hmm:ms.map mark=ms'.map mark:=by
   have:ms.map mark++cx.base=ms'.map mark++cx.base:=g1.symm.trans q1
   exact List.append_cancel_right this
  have SK:ms=ms':=by
   have hm:∀a b,mark a=mark b->a=b:=fun a b h=>by simpa[mark]using h
   exact List.map_inj_right hm |>.1 hmm
  refine⟨w.heap.size::ms,by rw[g1];rfl,List.nodup_cons.2 ⟨fun hm=> ?_,g2⟩,(fun h=>by rw[mG]at h;cases h),fun r hr=> ?_⟩
  ·have:=(q4 w.heap.size (SK ▸ hm)).2.1
   rw[Array.getElem?_eq_none (Nat.le_refl _)]at this;cases this
  ·rcases List.mem_cons.1 hr with rfl|hr
   ·refine⟨hs.tr.cu.size,(RowKit.Below.heap_alloc (w.alloc (.deferred (some []))) (.loop DB) w.heap.size (by rw[MR];omega)).trans (heap_alloc_new w _), ?_⟩
    rintro⟨id,i1,i2⟩
    by_cases e:id=s.nx
    ·subst e;simp[iM,dT,l]at i2
    ·have i1':(s.H.o id).live=true:=by simpa[s1,S.H,e]using i1
     have i2':dT (φ id)=some w.heap.size:=by simpa[iM,e]using i2
     have:=(hs.heap.ours _ ⟨id,i1',i2'⟩).2
     omega
   ·exact g4 r hr
 have adl:V.den (ao M iM s1.H) iM s1.H w1 (.j7 s.nx) (.func (.yield l) #[] #[]):=
  ⟨rfl,by simp[s1,S.H],fun _=>⟨l,by simp[iM],rfl⟩⟩
 have hg:=mP (M:=M) (φ:=iM) (H:=s1.H) (w:=w1) s1 {a with defers:=mark w.heap.size::a.defers} nU.env g
 have adm:s1.ev g=s.ev g:=by cases g<;>rfl
 rw[adm]at hg
 have hae:({a with defers:=mark w.heap.size::a.defers}:Act).eval g=a.eval g:=rfl
 rw[hae]at hg
 split at h
 ·rename_i f first cap hgv
  rw[hgv]at hg
  obtain⟨fa,ca,SI,E5,hca⟩:=hg
  have fin:∀ (all:List V) (o2:Nat->ad) (s2:S),s2=⟨s.env,o2,s.nx+1⟩->b7 M cA H0 w0 n cx iM s2 {a with defers:=mark w.heap.size::a.defers} w1->V.aC (ao M iM s2.H) iM s2.H w1 all (fa++#[Value.func (.yield l) #[] #[]]++ca).toList->(o2 s.nx).cg=true->
   cI P f all o2 (s.nx+1) (fun _ o' nx'=>∃nf m e p c d st pd,o' s.nx= .loop nf m e p c d st pd/\st≠ .busy/\qp Q pd ⟨s.env,az o' s.nx (.loop nf m e p c d .exhausted pd),nx'⟩) (fun v o' nx'=>Q (.bF v) ⟨s.env,o',nx'⟩)->
   ∃ (l:Nat) (mark:List Deferred) (jn:World) (d:Deferred) (xN:World) (f:FuncId) (args:Array Value) (rJ:World),
     (Instr.enterLoop fn a.tmps ps x y (dG none).round).run P w= .ok (l,mark) jn/\(resolve a.eval (rangeCall g l) 0).run P jn= .ok d xN/\
     (invoke d.target d.args).run P xN= .ok (.enter f args) rJ/\CallsIn (dG none) 0 P f args rJ (uT P l (Fo M cA H0 w0 n cx Q) {a with defers:=mark++a.defers}):=by
   intro all o2 s2 adn Ft bf cz hC
   subst adn
   have dC:=hC.2 M iM w1 _ Ft.heap bf
   refine⟨l,[mark w.heap.size],w1,{target:= .fn (.func f) ca,args:=fa++#[Value.func (.yield l) #[] #[]]},w1,f,fa++#[Value.func (.yield l) #[] #[]]++ca,w1,lW, ?_, ?_,cW (dC.mono fun e w' ⟨aE,o',nx',v,k1,k2,k3⟩=> ?_)⟩
   ·simp only[resolve,SI,Deferred.ofValue,List.map_toArray,List.map_cons,List.map_nil,Sem.run_pure]
    rfl
   ·simp[invoke,lq hC.1]
   ·cases e with
    |returned val=>
     obtain⟨k4,nf,m,e,p,c,d,st,pd,k5,k6,k7⟩:=k3
     have Fu:b7 M cA H0 w0 n cx aE ⟨s.env,o',nx'⟩ {a with defers:=mark w.heap.size::a.defers} w':=eD Ft k1 k2 rfl fun id hu=>hu
     have SL:aE s.nx= .pointer (some ⟨l,0,none⟩):=by
      have:=(k2.rel.row s.nx (show s.nx<s.nx+1 from af) (by show(o' s.nx).cg=true;rw[k5];rfl)).2
      rw[this];simp[iM]
     have b8:s.nx<nx':=k2.rel.us s.nx (show s.nx<s.nx+1 from af)
     obtain⟨r,r1,r2,r3,r4,r5⟩:=xO (st':= .exhausted) (pd':=pd) k1 b8 (show(hp o' nx').o s.nx=_ from k5) SL
     have ef:(Instr.endLoop l).run P w'= .ok (pd.map jR.code) {w' with heap:=w'.heap.setIfInBounds l (.loop {r with state:= .exhausted,pending:=pd.map jR.code})}:=by
      have e1:({r with state:= .exhausted}:Loop)={r with state:= .exhausted,pending:=pd.map jR.code}:=by rw[<- r3]
      have hnb:(r.state==LoopState.busy)=false:=by rw[r2];cases st<;>first|rfl|exact absurd rfl k6
      simp only[Instr.endLoop,Sem.run_bind,kp r1,Result.andThen_ok,hnb,Bool.false_eq_true,if_false,Sem.run_pure]
      rw[iQ _ r1,e1]
      simp[r3]
     have VT:=eD Fu r4 r5 (o':=az o' s.nx (.loop nf m e p c d .exhausted pd)) (nx':=nx') rfl fun id hu=>by
      simp only[dP]at hu
      rcases hu with hu|hu
      ·exact hu
      ·subst hu;exact b8
     refine⟨pd.map jR.code,_,ef, ?_⟩
     cases pd with
     |none=>exact⟨.normal,_,_,k7,VT,trivial⟩
     |some j=>
      cases j with
      |ret=>exact Fq ⟨.ret,_,_,k7,VT,trivial⟩
      |exit id=>exact Bj ⟨.exit id,_,_,k7,VT,rfl⟩
    |panicked ch=>
     obtain⟨val,rfl,k4,k5⟩:=k3
     have Fu:b7 M cA H0 w0 n cx aE ⟨s.env,o',nx'⟩ {a with defers:=mark w.heap.size::a.defers} w':=eD Ft k1 k2 rfl fun id hu=>hu
     exact⟨.bF v,_,_,k5,Fu,val,rfl,k4⟩
    |outgrown=>exact k3.elim
  have mX:V.aC (ao M iM s1.H) iM s1.H w1 (first++[V.j7 s.nx]++cap) (fa++#[Value.func (.yield l) #[] #[]]++ca).toList:=by
   rw[Array.toList_append,Array.toList_append]
   exact V.pS E5 ⟨_,[],rfl,adl,rfl⟩ hca
  rcases h with hC|hC
  ·exact fin _ _ s1 rfl nU mX (by simp;rfl) hC
  ·have mo:s1.o=az s.o s.nx (.loop P.funcs.size n env ps.toList (low n x) (low n y) .ready none):=rfl
   obtain⟨f1,f2,f3,f4,f5⟩:=cQ nU.heap (cZ s1.o (first++[V.j7 s.nx]++cap)) (gB _ _ s1.o mX)
   have gk:s1.H.put (bL s1.H.o (cZ s1.o (first++[V.j7 s.nx]++cap)))=hp (put s1.o (bL s1.o (cZ s1.o (first++[V.j7 s.nx]++cap)))) s1.nx:=lp (by rw[tN];exact gB _ _ s1.o mX)
   have PM:=JO f1 _ _ f3 (V.aT f2 _ _ mX)
   have PN:((s1.H.put (bL s1.H.o (cZ s1.o (first++[V.j7 s.nx]++cap)))).o s.nx).cg=true:=by
    by_cases hm:s.nx∈cZ s1.o (first++[V.j7 s.nx]++cap)
    ·rw[f3 _ hm];simp[s1,S.H,ad.fz,ad.cg]
    ·rw[f4 _ hm];simp[s1,S.H,ad.cg]
   rw[gk]at f1 f2 PM PN
   exact fin _ (put s1.o (bL s1.o (cZ s1.o (first++[V.j7 s.nx]++cap)))) ⟨s.env,_,s.nx+1⟩ rfl (eD nU f1 f2 rfl fun id hu=>hu) PM PN hC
 ·exact h.elim
end
end Go.Proofs.YtlhemmpklhhgoaaGreat
