/-
  A PART OF THE PROOF. Conditions: none.
-/
import Derived.RangeFuncLeaves
import Derived.TacticsIn
import Derived.RecoverIn
import Derived.Test.YtpkobkdgcanmjaaGreatLo4
set_option linter.unusedSimpArgs false
set_option linter.unusedVariables false
namespace Go.Proofs.YtpkobkdgcanmjaaGreat
inductive R where
 |ret (ds:List D)|ba (d:D)
def R.is (B:Nat->Prop)(w:World):R->Ending->Prop
 | .ret [x], .returned v=>D.den B w x v
 | .ret ds, .returned v=>∃a,v= .tuple a/\D.aq B w ds a.toList
 | .ba d, .panicked chain=>∃v,chain=[{v:=v,recovered:=false}]/\D.den B w d v
 |_,_=>False
def gL(P:Program)(f:FuncId):Prop:=∃fn,P.funcs[f]? =some fn/\(fn.name== "runtime.NumGoroutine")=false/\fn.body.isNone=false
def bU(P:Program)(f:FuncId)(ds:List D)(out:R):Prop:=
 gL P f/\∀ (M:Nat->Prop) (w:World) (vals:Array Value),(∀b,M b->b<w.heap.size)->D.aq M w ds vals.toList->
  Calls P f vals w fun e w'=>dJ (fun _=>False) w w'/\out.is M w' e
def hp(o:Nat->aa)(nx:Nat):Hp:=⟨o,fun id=>id<nx⟩
def jr(M:Nat->Prop)(φ:Place)(H:Hp)(w:World)(K X:V->(Nat->aa)->Nat->Prop)(e:Ending)(w':World):Prop:=
 ∃aj o' nx' v,ai M aj (hp o' nx') w'/\Trans φ H w aj (hp o' nx') w'/\match e with
  | .returned val=>V.den (ad M aj (hp o' nx')) aj (hp o' nx') w' v val/\K v o' nx'
  | .panicked ch=>∃val,ch=[{v:=val,recovered:=false}]/\V.den (ad M aj (hp o' nx')) aj (hp o' nx') w' v val/\X v o' nx'
  | .outgrown=>False
def fm(P:Program)(f:FuncId)(args:List V)(o:Nat->aa)(nx:Nat)(K X:V->(Nat->aa)->Nat->Prop):Prop:=
 gL P f/\∀ (M:Nat->Prop) (φ:Place) (w:World) (vals:Array Value),ai M φ (hp o nx) w->V.aq (ad M φ (hp o nx)) φ (hp o nx) w args vals.toList->
  Calls P f vals w (jr M φ (hp o nx) w K X)
def dT(P:Program)(id:Nat)(args:List V)(o:Nat->aa)(nx:Nat)(K X:V->(Nat->aa)->Nat->Prop):Prop:=
 (o id).bd=true/\∀ (M:Nat->Prop) (φ:Place) (w:World) (vals:Array Value) (b:Nat),ai M φ (hp o nx) w->V.aq (ad M φ (hp o nx)) φ (hp o nx) w args vals.toList->φ id= .pointer (some ⟨b,0,none⟩)->
  ∃f tmps assign body,(Instr.yield b vals).run P w= .ok (.round b f tmps assign body) w/\∀n,RoundIn Fence.wide n P b f tmps assign body w (jr M φ (hp o nx) w K X)
theorem jr.mono {M:Nat->Prop}{φ:Place}{H:Hp}{w:World}{K X K' X':V->(Nat->aa)->Nat->Prop}(hK:∀v o n,K v o n->K' v o n)(hX:∀v o n,X v o n->X' v o n){e:Ending}{w':World}(h:jr M φ H w K X e w'):jr M φ H w K' X' e w':=by
 obtain⟨aj,o',nx',v,h1,h2,h3⟩:=h
 refine⟨aj,o',nx',v,h1,h2, ?_⟩
 cases e with
 |returned val=>exact⟨h3.1,hK _ _ _ h3.2⟩
 |panicked ch=>obtain⟨val,a,b,c⟩:=h3;exact⟨val,a,b,hX _ _ _ c⟩
 |outgrown=>exact h3
theorem fm.mono {P:Program}{f:FuncId}{args:List V}{o:Nat->aa}{nx:Nat}{K X K' X':V->(Nat->aa)->Nat->Prop}(hK:∀v o n,K v o n->K' v o n)(hX:∀v o n,X v o n->X' v o n)(h:fm P f args o nx K X):fm P f args o nx K' X':=
 ⟨h.1,fun M φ w vals h1 h2=>(h.2 M φ w vals h1 h2).mono fun _ _ h=>h.mono hK hX⟩
theorem dT.mono {P:Program}{id:Nat}{args:List V}{o:Nat->aa}{nx:Nat}{K X K' X':V->(Nat->aa)->Nat->Prop}(hK:∀v o n,K v o n->K' v o n)(hX:∀v o n,X v o n->X' v o n)(h:dT P id args o nx K X):dT P id args o nx K' X':=
 ⟨h.1,fun M φ w vals b h1 h2 h3=>let⟨f,t,a,c,h4,h5⟩:=h.2 M φ w vals b h1 h2 h3;⟨f,t,a,c,h4,fun n=>(h5 n).mono fun _ _ h=>h.mono hK hX⟩⟩
mutual
def D.flat:D->Bool
 | .sl _| .mp _ _=>false
 | .agg cs=>D.fX cs
 | .iface _ x=>x.flat
 |_=>true
def D.fX:List D->Bool
 |[]=>true
 |x::xs=>x.flat&&D.fX xs
end
mutual
theorem D.lQ {B B':Nat->Prop}{w w':World}:∀ (x:D) (v:Value),x.flat=true->D.den B w x v->D.den B' w' x v
 | .int _ _,_,_,h| .bool _,_,_,h| .str _,_,_,h| .dI,_,_,h| .gJ,_,_,h| .aD,_,_,h| .dt,_,_,h=>h
 | .agg cs,_,hf,h=>by obtain⟨a,rfl,h,h2⟩:=h;exact⟨a,rfl,D.iM cs _ hf h,h2⟩
 | .sl es,_,hf,h=>by simp[D.flat]at hf
 | .mp _ _,_,hf,h=>by simp[D.flat]at hf
 | .iface t x,_,hf,h=>by obtain⟨u,rfl,h⟩:=h;exact⟨u,rfl,D.lQ x u hf h⟩
theorem D.iM {B B':Nat->Prop}{w w':World}:∀ (xs:List D) (vs:List Value),D.fX xs=true->D.aq B w xs vs->D.aq B' w' xs vs
 |[],_,_,h=>h
 |x::xs,_,hf,h=>by
  obtain⟨u,us,rfl,h1,h2⟩:=h
  simp only[D.fX,Bool.and_eq_true]at hf
  exact⟨u,us,rfl,D.lQ x u hf.1 h1,D.iM xs us hf.2 h2⟩
end
mutual
def D.js:D->Bool
 | .mp _ _=>false
 | .agg cs=>D.iN cs
 | .sl es=>D.iN es
 | .iface _ x=>x.js
 |_=>true
def D.iN:List D->Bool
 |[]=>true
 |x::xs=>x.js&&D.iN xs
end
theorem eI.sH {B B':Nat->Prop}{w w':World}{a:Addr}{cs:Array Value}
 (hb:∀b,lx w b-> ¬B b->w'.heap[b]? =w.heap[b]? /\ ¬B' b) (h:eI B w a cs):eI B' w' a cs:=by
 intro j u hj
 obtain⟨h1,h2⟩:=h j u hj
 have br:lx w a.block:=by simpa using kx h1
 obtain⟨h3,h4⟩:=hb _ br h2
 exact⟨by rw[World.cell?_of_block (w:=w) (w':=w') (a:=a.add j) (by simpa using h3)];exact h1,h4⟩
mutual
theorem D.hU {B B':Nat->Prop}{w w':World}(hb:∀b,lx w b-> ¬B b->w'.heap[b]? =w.heap[b]? /\ ¬B' b):
 ∀ (x:D) (v:Value),x.js=true->D.den B w x v->D.den B' w' x v
 | .int _ _,_,_,h| .bool _,_,_,h| .str _,_,_,h| .dI,_,_,h| .gJ,_,_,h| .aD,_,_,h| .dt,_,_,h=>by simpa[D.den]using h
 | .agg cs,_,hn,h=>by
   obtain⟨a,rfl,h,hf⟩:=h
   exact⟨a,rfl,D.jt hb cs _ hn h,hf⟩
 | .sl es,_,hn,h=>by
   obtain⟨base,len,cap,rfl,h1,h2,h3,sz,h4⟩:=h
   exact⟨base,len,cap,rfl,h1,h2,h3,sz,fun a ha=>⟨(h4 a ha).1,D.lR hb sz a es 0 hn (h4 a ha).2⟩⟩
 | .iface t d,_,hn,h=>by
   obtain⟨u,rfl,h⟩:=h
   exact⟨u,rfl,D.hU hb d u hn h⟩
 | .mp _ _,_,hn,_=>by simp[D.js]at hn
theorem D.jt {B B':Nat->Prop}{w w':World}(hb:∀b,lx w b-> ¬B b->w'.heap[b]? =w.heap[b]? /\ ¬B' b):
 ∀ (ds:List D) (vs:List Value),D.iN ds=true->D.aq B w ds vs->D.aq B' w' ds vs
 |[],_,_,h=>h
 |d::ds,_,hn,h=>by
  obtain⟨u,us,rfl,h1,h2⟩:=h
  simp only[D.iN,Bool.and_eq_true]at hn
  exact⟨u,us,rfl,D.hU hb d u hn.1 h1,D.jt hb ds us hn.2 h2⟩
theorem D.lR {B B':Nat->Prop}{w w':World}(hb:∀b,lx w b-> ¬B b->w'.heap[b]? =w.heap[b]? /\ ¬B' b)(sz:Nat)(a:Addr):
 ∀ (es:List D) (i:Nat),D.iN es=true->D.elems B w sz a i es->D.elems B' w' sz a i es
 |[],_,_,_=>trivial
 |e::es,i,hn,h=>by
  obtain⟨⟨ev,h1,h2,h3⟩,h4⟩:=h
  simp only[D.iN,Bool.and_eq_true]at hn
  exact⟨⟨ev,h1,h2.sH hb,D.hU hb e ev hn.1 h3⟩,D.lR hb sz a es (i+1) hn.2 h4⟩
end
def R.js:R->Bool
 | .ret ds=>D.iN ds
 | .ba d=>d.js
def R.flat:R->Bool
 | .ret ds=>D.fX ds
 | .ba d=>d.flat
def fY:List D->V
 |[x]=> .d x
 |ds=> .bM (ds.map .d)
inductive fl where
 |normal|exit (id:Nat)|ret|ba (v:V)
def aN(env:Nat->V)(dst:Option Tmp)(v:V):Nat->V:=
 match dst with
 |some d=>aV env d v
 |none=>env
def zg(o:Nat->aa)(v:V):V:=match dn o v with|some x=> .d x|none=>v
def cy(o:Nat->aa):List V->List Nat
 |[]=>[]
 |v::vs=>(match dn o v with|some _=>v.ids|none=>[])++cy o vs
def ju(P:Program)(g:FuncId)(args:List V)(o:Nat->aa)(nx:Nat)(K X:V->(Nat->aa)->Nat->Prop):Prop:=
 fm P g args o nx K X\/fm P g (args.map (zg o)) (put o (cg o (cy o args))) nx K X
def oy(P:Program)(s:S)(g:FuncId)(all:List V)(K:V->(Nat->aa)->Nat->Prop)(X:V->(Nat->aa)->Nat->Prop):Prop:=
    (∃ds out,bA s.o all=some ds/\bU P g ds out/\(match out with
     | .ret rs=>K (fY rs) (put s.o (cg s.o (V.aQ all))) (s.nx+1)
     | .ba x=>X (.d x) (put s.o (cg s.o (V.aQ all))) (s.nx+1)))\/
    (∃ds out,bA s.o all=some ds/\bU P g ds out/\out.flat=true/\(match out with
     | .ret rs=>K (fY rs) s.o (s.nx+1)
     | .ba x=>X (.d x) s.o (s.nx+1)))\/
    (∃ds out,bA s.o all=some ds/\bU P g ds out/\out.js=true/\(match out with
     | .ret rs=>K (fY rs) (put s.o (mz s.o (V.aQ all))) (s.nx+1)
     | .ba x=>X (.d x) (put s.o (mz s.o (V.aQ all))) (s.nx+1)))\/
    ju P g all s.o s.nx K X
def s6(P:Program)(s:S)(f:V)(args:List V)(K:V->(Nat->aa)->Nat->Prop)(X:V->(Nat->aa)->Nat->Prop):Prop:=
 match f with
 | .func (.func g) first cap=>oy P s g (first++args++cap) K X
 | .jT id=>dT P id args s.o s.nx K X
 |_=>False
def CI(P:Program)(t:TypeId):Bool:=
 match P.underlying t with
 |some (.pointer _)=>false
 |some _=>true
 |none=>false
def oz(P:Program)(m:String)(x:V):Option (FuncId×V):=
 match x with
 | .d (.iface t y)=>match P.info? t with
   |some ti=>match ti.methods.find? (·.name==m)with
    |some r=>match r.func with
     |some (f,false)=>if r.path.isEmpty=true/\CI P t=true then some (f, .d y)else none
     |_=>none
    |none=>none
   |none=>none
 |_=>none
def eJ(n:Nat):Option Tmp->Prop
 |some d=>d<n
 |none=>True
def NZ(P:Program)(n:Nat)(s:S)(o:Oper)(X:V->S->Prop)(K:S->Prop):Prop:=
 eJ n o.dst/\match o.op with
 | .call c=>match c.callee with
   | .value f=>s6 P s (s.ev f) (c.args.toList.map s.ev) (fun v o' nx'=>K ⟨aN s.env o.dst v,o',nx'⟩) (fun v o' nx'=>X v ⟨s.env,o',nx'⟩)
   | .invoke r m=>match oz P m (s.ev r)with
     |some (g,y)=>oy P s g (y::c.args.toList.map s.ev) (fun v o' nx'=>K ⟨aN s.env o.dst v,o',nx'⟩) (fun v o' nx'=>X v ⟨s.env,o',nx'⟩)
     |none=>False
   |_=>Cv P s s.nx o.op fun v Δ _=>K ⟨aN s.env o.dst v,put s.o Δ,s.nx+1⟩
 | .panic x=>match s.ev x with
   | .d (.iface t y)=>X (.d (.iface t y)) s
   | .iface t y=>X (.iface t y) s
   |_=>False
 |op=>Cv P s s.nx op fun v Δ _=>K ⟨aN s.env o.dst v,put s.o Δ,s.nx+1⟩
def ri(s:S)(ops:Array Oper)(g:Option (Nat×Bool))(A B:Prop):Prop:=
 match g with
 |none=>A
 |some (j,want)=>match mZ ops j with
  |some d=>match s.env d with
   | .d (.bool b)=>(b=want->A)/\(b≠want->B)
   | .bM []=>B
   |_=>False
  |none=>B
def rj(P:Program)(n:Nat)(ops:Array Oper)(X:V->S->Prop)(K:S->Prop):List Oper->S->Prop
 |[],s=>K s
 |o::l,s=>ri s ops o.guard (NZ P n s o X (rj P n ops X K l)) (eJ n o.dst/\rj P n ops X K l ⟨aN s.env o.dst (.bM []),s.o,s.nx+1⟩)
def dq(b:Nat)(s s':S):Prop:=
 ∀ (M:Nat->Prop) (φ:Place) (w:World) (tm:Nat->Value),ai M φ s.H w->(∀i,V.den (ad M φ s.H) φ s.H w (s.env i) (tm i))->
   ∃aj,ai M aj s'.H w/\(∀i,V.den (ad M aj s'.H) aj s'.H w (s'.env i) (tm i))/\(∀k,bq aj s'.H k->bq φ s.H k)/\b<=s'.nx/\
    (∀id,id<b->(s'.o id).bd=true->(s.o id).bd=true/\aj id=φ id)/\
    (∀id e',id<b->(s'.o id).aO=some e'->∃e,(s.o id).aO=some e/\e<=e'/\(e=e'->aj id=φ id))
def lS(K:S->Prop)(Q:fl->S->Prop)(e:fl)(s:S):Prop:=match e with| .normal=>K s|e=>Q e s
def dU(id:Nat)(Q:fl->S->Prop)(e:fl)(s:S):Prop:=match e with| .exit j=>if j=id then Q .normal s else Q (.exit j) s|e=>Q e s
def iO(P:Program)(s:S):List ResultVar->Option (List V)
 |[]=>some []
 | .tmp t::rs=>(iO P s rs).map (s.env t::·)
 | .cell a t::rs=>match s.env a with
   | .ptr id off=>match s.o id with
     | .row cs=>(dE P t cs off).bind fun v=>(iO P s rs).map (v::·)
     |_=>none
   |_=>none
def bW(vs:List V):Nat->V:=fun i=>vs.getD i (.bM [])
def uY(P:Program)(rs:List ResultVar)(out:R)(e:fl)(s:S):Prop:=
 match e with
 | .normal| .ret=>match iO P s rs with
   |some vs=>match bA s.o vs with
    |some ds=>out= .ret ds
    |none=>False
   |none=>False
 | .ba v=>match dn s.o v with
   |some x=>out= .ba x
   |none=>False
 | .exit _=>False
theorem zh{P:Program}{rs:List ResultVar}{out:R}{s:S}(h:match iO P s rs with
 |some vs=>match bA s.o vs with
  |some ds=>out= .ret ds
  |none=>False
 |none=>False):∃vs ds,iO P s rs=some vs/\bA s.o vs=some ds/\out= .ret ds:=by
 split at h
 ·rename_i vs h1
  split at h
  ·rename_i xs h2;exact⟨vs,xs,h1,h2,h⟩
  ·exact h.elim
 ·exact h.elim
theorem zi{out:R}{s:S}{v:V}(h:match dn s.o v with
 |some x=>out= .ba x
 |none=>False):∃x,dn s.o v=some x/\out= .ba x:=by
 split at h
 ·rename_i x h1;exact⟨x,h1,h⟩
 ·exact h.elim
end Go.Proofs.YtpkobkdgcanmjaaGreat
namespace Go.Proofs.YtpkobkdgcanmjaaGreat
section
variable {P:Program}{M:Nat->Prop}{φ:Place}{H:Hp}{w w':World}
def aa.hY:aa->Bool
 | .arr .. =>true
 |_=>false
theorem Bs(o:Nat->aa)(ids:List Nat):mz o ids=cg o (ids.filter fun id=>(o id).hY):=by
 induction ids with
 |nil=>rfl
 |cons id ids ih=>
  unfold mz at ih|-
  simp only[List.filterMap_cons,List.filter_cons]
  cases hx:o id with
  |arr ep ty sz es=>
   have e:(aa.arr ep ty sz es).hY=true:=rfl
   rw[e,if_pos rfl,ih]
   simp only[cg,List.map_cons,hx]
  |_=>exact ih
theorem fD(hH:ai M φ H w){us':Nat->Prop}(h:∀id,H.us id->us' id):ai M φ ⟨H.o,us'⟩ w/\Trans φ H w φ ⟨H.o,us'⟩ w:=by
 have ht:Trans φ H w φ ⟨H.o,us'⟩ w:=⟨dJ.refl _ _,fun b hb=> .inl hb,⟨h,fun id _ hr=>⟨hr,rfl⟩,fun id e' _ he=>⟨e',he,Nat.le_refl _,fun _=>rfl⟩⟩⟩
 exact⟨hH.of ht (fun _=>False) (fun _ h=>h.elim) (fun id _=>⟨rfl,rfl,fun _ _ _=>rfl⟩) (fun id hn=>hH.fresh id fun hu=>hn (h id hu)) hH.apart (fun b hb=>(hH.ours b hb).2),ht⟩
theorem ew(hH:ai M φ H w)(hk:dJ (fun _=>False) w w'):ai M φ H w'/\Trans φ H w φ H w':=by
 have ht:Trans φ H w φ H w':=⟨⟨hk.os,hk.tape,hk.output,hk.size,fun k h _=>hk.block k h fun h=>h⟩,fun b hb=> .inl hb,cW.refl _ _⟩
 exact⟨hH.of ht (fun _=>False) (fun _ h=>h.elim) (fun id _=>⟨rfl,rfl,fun hl b hb=>hk.block b (hH.ours b ⟨id,hl,hb⟩).2 fun h=>h⟩) hH.fresh hH.apart (fun b hb=>Nat.lt_of_lt_of_le (hH.ours b hb).2 hk.size),ht⟩
theorem hZ{Δ:List (Nat×aa)}(h:∀id∈Δ.map (·.1),H.us id):H.put Δ=⟨put H.o Δ,H.us⟩:=by
 unfold Hp.put
 congr 1
 funext id
 simp only[eq_iff_iff]
 exact⟨fun h'=>h'.elim (fun h=>h) (h id), .inl⟩
theorem jY(o:Nat->aa)(ids:List Nat):(cg o ids).map (·.1)=ids:=by
 rw[iJ];simp[Function.comp_def]
structure Cx where
 base:List Deferred
 rd:Bool
def cV(ro:Option Nat):Fence:={fn:=fun _=>True,depth:=none,alive:=false,round:=ro}
def mark(r:Nat):Deferred:={target:= .collected r,args:=#[]}
def oA(cx:Cx)(w0:World)(φ:Place)(H:Hp)(w:World)(ds:List Deferred):Prop:=
 ∃ms:List Nat,ds=ms.map mark++cx.base/\ms.Nodup/\(cx.rd=true->ms=[])/\∀r∈ms,w0.heap.size<=r/\w.heap[r]? =some (.deferred (some []))/\ ¬bq φ H r
theorem oA.mono {cx:Cx}{w0:World}{φ aj:Place}{H H':Hp}{w w':World}{ds:List Deferred}(ht:Trans φ H w aj H' w')(h:oA cx w0 φ H w ds):oA cx w0 aj H' w' ds:=by
 obtain⟨ms,h1,h2,h3,h4⟩:=h
 refine⟨ms,h1,h2,h3,fun r hr=> ?_⟩
 obtain⟨g1,g2,g3⟩:=h4 r hr
 have br:r<w.heap.size:=by
  rcases Nat.lt_or_ge r w.heap.size with hl|hl
  ·exact hl
  ·rw[Array.getElem?_eq_none hl]at g2;cases g2
 refine⟨g1,(ht.bO.block r br g3).trans g2,fun hl=> ?_⟩
 rcases ht.grow r hl with h|h
 ·exact g3 h
 ·omega
structure bC (M:Nat->Prop) (bT:Place) (H0:Hp) (w0:World) (n:Nat) (cx:Cx) (φ:Place) (s:S) (a:Act) (w:World):Prop where
 heap:ai M φ s.H w
 tr:Trans bT H0 w0 φ s.H w
 size:a.tmps.size=n
 defers:oA cx w0 φ s.H w a.defers
 env:∀i,V.den (ad M φ s.H) φ s.H w (s.env i) (a.tmps.getD i undef)
variable {bT:Place}{H0:Hp}{w0:World}{n:Nat}{s:S}{a:Act}{cx:Cx}{ro:Option Nat}{k:Nat}
theorem cn{f:FuncId}{args:Array Value}{R:Ending->World->Prop}(h:Calls P f args w R):CallsIn (cV ro) k P f args w R:=
 ⟨trivial,fun cs _=>let⟨e,w',fr,r,s,x⟩:=h cs;⟨e,w',fr,r,comesIn_wide.2 s,x⟩⟩
theorem s7{f:FuncId}{args:Array Value}{R:Ending->World->Prop}(h:CallsIn (cV ro) k P f args w R):Calls P f args w R:=
 fun cs=>let⟨e,w',fr,r,s,x⟩:=h.2 cs (fun _ h=>by simp[cV]at h);⟨e,w',fr,r,comesIn_wide.1 s,x⟩
theorem gC{o:Oper}{next:Act->World->Prop}{Q:Exit->Act->World->Prop}(QS:∀c,o.op≠ .defer c)(h:o.uponIn (cV ro) k P a next Q ((execOp a.eval o).run P w)):o.wpIn (cV ro) k P a w next Q:=
 ⟨fun _ _=>trivial,by rw[Oper.semAt_eq _ _ _ QS];exact h⟩
theorem iP(hs:bC M bT H0 w0 n cx φ s a w){aj:Place}{H':Hp}(hH:ai M aj H' w')(ht:Trans φ s.H w aj H' w'){v:V}{val:Value}(hd:V.den (ad M aj H') aj H' w' v val){dst:Option Tmp}(b7:eJ n dst)
 {o':Nat->aa} {nx':Nat} (ho:H'.o=o') (hu:∀id,H'.us id->id<nx'):bC M bT H0 w0 n cx aj ⟨aN s.env dst v,o',nx'⟩ (a.put dst val) w':=by
 obtain⟨k1,k2⟩:=fD hH hu
 subst ho
 refine⟨k1,hs.tr.trans (ht.trans k2), ?_, ?_,fun i=> ?_⟩
 ·cases dst<;>simp[Act.put,hs.size]
 ·have:=hs.defers.mono (ht.trans k2);cases dst<;>exact this
 ·cases dst with
  |none=>exact V.au (ht.trans k2) _ _ (hs.env i)
  |some d=>
   simp only[eJ]at b7
   simp only[aN,aC,Act.put]
   by_cases hi:i=d
   ·subst hi
    have h1:(a.tmps.setIfInBounds i val).getD i undef=val:=by simp[Array.getD,hs.size,b7]
    rw[if_pos rfl,h1]
    exact V.au k2 _ _ hd
   ·have h1:(a.tmps.setIfInBounds d val).getD i undef=a.tmps.getD i undef:=by
     simp only[Array.getD_eq_getD_getElem?]
     rw[Array.getElem?_setIfInBounds_ne (Ne.symm hi)]
    rw[if_neg hi,h1]
    exact V.au (ht.trans k2) _ _ (hs.env i)
theorem dh(hs:bC M bT H0 w0 n cx φ s a w){aj:Place}{H':Hp}(hH:ai M aj H' w')(ht:Trans φ s.H w aj H' w'){o':Nat->aa}{nx':Nat}(ho:H'.o=o')(hu:∀id,H'.us id->id<nx'):
 bC M bT H0 w0 n cx aj ⟨s.env,o',nx'⟩ a w':=by
 obtain⟨k1,k2⟩:=fD hH hu
 subst ho
 exact⟨k1,hs.tr.trans (ht.trans k2),hs.size,hs.defers.mono (ht.trans k2),fun i=>V.au (ht.trans k2) _ _ (hs.env i)⟩
theorem zj{Δ:List (Nat×aa)}(h:∀id∈Δ.map (·.1),s.H.us id\/id=s.nx)(id:Nat)(hu:(s.H.put Δ).us id):id<s.nx+1:=by
 rcases hu with hu|hu
 ·exact Nat.lt_succ_of_lt hu
 ·rcases h id hu with h|h
  ·exact Nat.lt_succ_of_lt h
  ·omega
variable {next:Act->World->Prop}{Q:Exit->Act->World->Prop}{X:V->S->Prop}{K:S->Prop}
theorem zk(hs:bC M bT H0 w0 n cx φ s a w){o:Oper}{op:Op}(cO:o.op=op)(b7:eJ n o.dst)(h:Cv P s s.nx op fun v Δ _=>K ⟨aN s.env o.dst v,put s.o Δ,s.nx+1⟩)
 (hN:∀s' aj a' w',K s'->bC M bT H0 w0 n cx aj s' a' w'->next a' w'):o.wpIn (cV ro) k P a w next Q:=by
 obtain⟨nx,val,w',aj,v,Δ,rd,hK,hr,pM,g1,g2,g3,g4⟩:=qi hs.heap (s:=s) rfl hs.env (fr:=s.nx) (by simp[S.H]) cO h
 have rk:=iP hs g1 g2 g3 b7 (o':=put s.o Δ) (nx':=s.nx+1) rfl (zj g4)
 refine gC (fun c hc=>by rw[cO]at hc;subst hc;exact h) ?_
 rw[hr]
 rcases pM with rfl|⟨rfl,rfl⟩
 ·exact hN _ _ _ _ hK rk
 ·exact hN _ _ _ _ hK rk
theorem V.iQ {B:Nat->Prop}{bB bs cs:List V}{u v x:List Value}(h1:V.aq B φ H w bB u)(h2:V.aq B φ H w bs v)(h3:V.aq B φ H w cs x):V.aq B φ H w (bB++bs++cs) (u++v++x):=
 V.aT _ _ _ _ (V.aT _ _ _ _ h1 h2) h3
theorem ig{f:FuncId}(h:gL P f)(args:Array Value):(callFunc f args).run P w= .ok (.enter f args) w:=by
 obtain⟨fn,h1,h2,h3⟩:=h
 have xF:fn.name≠ "runtime.NumGoroutine" :=by simpa using h2
 have G4:fn.body≠none:=fun h=>by rw[h]at h3;cases h3
 simp[callFunc,h1,xF,G4]
theorem ij:∀ {rs:List D} {val:Value},R.is (ad M φ H) w (.ret rs) (.returned val)->V.den (ad M φ H) φ H w (fY rs) val
 |[],_,h=>by obtain⟨arr,rfl,h⟩:=h;exact⟨arr,rfl,h⟩
 |[x],_,h=>h
 |x::y::l,_,h=>by obtain⟨arr,rfl,h⟩:=h;exact⟨arr,rfl,(V.bP (x::y::l) _).2 h⟩
theorem R.rl {B B':Nat->Prop}:∀ {out:R} {e:Ending},out.flat=true->out.is B w e->out.is B' w e
 | .ret [], .returned _,_,h=>by obtain⟨arr,rfl,h⟩:=h;exact⟨arr,rfl,h⟩
 | .ret [x], .returned _,hf,h=>by
   simp only[R.flat,D.fX,Bool.and_true]at hf
   exact D.lQ x _ hf h
 | .ret (x::y::l), .returned _,hf,h=>by obtain⟨arr,rfl,h⟩:=h;exact⟨arr,rfl,D.iM (x::y::l) _ hf h⟩
 | .ba d, .panicked _,hf,h=>by obtain⟨v,rfl,h⟩:=h;exact⟨v,rfl,D.lQ d v hf h⟩
 | .ret [], .panicked _,_,h| .ret [_], .panicked _,_,h| .ret (_::_::_), .panicked _,_,h| .ret [], .outgrown,_,h| .ret [_], .outgrown,_,h| .ret (_::_::_), .outgrown,_,h| .ba _, .returned _,_,h| .ba _, .outgrown,_,h=>h.elim
theorem R.zl {B B':Nat->Prop}{w':World}(hb:∀b,lx w' b-> ¬B b-> ¬B' b):∀ {out:R} {e:Ending},out.js=true->out.is B w' e->out.is B' w' e
 | .ret [], .returned _,_,h=>by obtain⟨arr,rfl,h⟩:=h;exact⟨arr,rfl,h⟩
 | .ret [x], .returned _,hf,h=>by
   simp only[R.js,D.iN,Bool.and_true]at hf
   exact D.hU (fun b hc hn=>⟨rfl,hb b hc hn⟩) x _ hf h
 | .ret (x::y::l), .returned _,hf,h=>by obtain⟨arr,rfl,h⟩:=h;exact⟨arr,rfl,D.jt (fun b hc hn=>⟨rfl,hb b hc hn⟩) (x::y::l) _ hf h⟩
 | .ba d, .panicked _,hf,h=>by obtain⟨v,rfl,h⟩:=h;exact⟨v,rfl,D.hU (fun b hc hn=>⟨rfl,hb b hc hn⟩) d v hf h⟩
 | .ret [], .panicked _,_,h| .ret [_], .panicked _,_,h| .ret (_::_::_), .panicked _,_,h| .ret [], .outgrown,_,h| .ret [_], .outgrown,_,h| .ret (_::_::_), .outgrown,_,h| .ba _, .returned _,_,h| .ba _, .outgrown,_,h=>h.elim
theorem zm(hH:ai M φ H w){o:Nat->aa}:∀ (vs:List V) (vals:List Value),(∀id∈cy o vs,H.o id=(o id).fz)->V.aq (ad M φ H) φ H w vs vals->V.aq (ad M φ H) φ H w (vs.map (zg o)) vals
 |[],_,_,h=>h
 |v::vs,_,ho,h=>by
  obtain⟨u,us,rfl,h1,h2⟩:=h
  refine⟨u,us,rfl, ?_,zm hH vs us (fun id ag=>ho id (by simp[cy,ag])) h2⟩
  unfold zg
  split
  ·rename_i x hx
   exact dM hH v x u (fun id ag=>ho id (by simp[cy,hx,ag])) hx h1
  ·exact h1
theorem eK:∀ (vs:List V) (vals:List Value) (o:Nat->aa),V.aq (ad M φ H) φ H w vs vals->∀id∈cy o vs,H.us id
 |[],_,_,_,j,hj=>by simp[cy]at hj
 |v::vs,_,o,h,j,hj=>by
  obtain⟨u,us,rfl,h1,h2⟩:=h
  simp only[cy,List.mem_append]at hj
  rcases hj with hj|hj
  ·cases hx:dn o v with
   |none=>simp[hx]at hj
   |some x=>simp only[hx]at hj;exact cl v u h1 j hj
  ·exact eK vs us o h2 j hj
theorem qj(hs:bC M bT H0 w0 n cx φ s a w){o:Oper}{g:FuncId}{all:List V}{vals:Array Value}(b7:eJ n o.dst)(dO:gL P g->(execOp a.eval o).run P w= .ok (.enter g vals) w)(aF:V.aq (ad M φ s.H) φ s.H w all vals.toList)
 (h:fm P g all s.o s.nx (fun v o' nx'=>K ⟨aN s.env o.dst v,o',nx'⟩) (fun v o' nx'=>X v ⟨s.env,o',nx'⟩))
 (hN:∀s' aj a' w',K s'->bC M bT H0 w0 n cx aj s' a' w'->next a' w')
 (hQ:∀v s' aj w' val,X v s'->bC M bT H0 w0 n cx aj s' a w'->V.den (ad M aj s'.H) aj s'.H w' v val->Q (.panic [{v:=val,recovered:=false}]) a w'):o.uponIn (cV ro) k P a next Q ((execOp a.eval o).run P w):=by
 have dG:=h.2 M φ w vals hs.heap aF
 rw[dO h.1]
 refine⟨fun hd=>by simp[cV]at hd,cn (dG.mono fun e w' ⟨aj,o',nx',v,k1,k2,k3⟩=> ?_)⟩
 cases e with
 |returned val=>exact hN _ _ _ _ k3.2 (iP hs k1 k2 k3.1 b7 rfl fun id hu=>hu)
 |panicked ch=>
  obtain⟨val,rfl,k4,k5⟩:=k3
  exact hQ _ _ _ _ val k5 (dh hs k1 k2 (o':=o') (nx':=nx') rfl fun id hu=>hu) k4
 |outgrown=>exact k3.elim
theorem s8(hs:bC M bT H0 w0 n cx φ s a w){o:Oper}{g:FuncId}{all:List V}{vals:Array Value}(b7:eJ n o.dst)(dO:gL P g->(execOp a.eval o).run P w= .ok (.enter g vals) w)(aF:V.aq (ad M φ s.H) φ s.H w all vals.toList)
 (h:oy P s g all (fun v o' nx'=>K ⟨aN s.env o.dst v,o',nx'⟩) (fun v o' nx'=>X v ⟨s.env,o',nx'⟩))
 (hN:∀s' aj a' w',K s'->bC M bT H0 w0 n cx aj s' a' w'->next a' w')
 (hQ:∀v s' aj w' val,X v s'->bC M bT H0 w0 n cx aj s' a w'->V.den (ad M aj s'.H) aj s'.H w' v val->Q (.panic [{v:=val,recovered:=false}]) a w'):o.uponIn (cV ro) k P a next Q ((execOp a.eval o).run P w):=by
 unfold oy at h
 obtain⟨f1,f2,f3,f4,f5⟩:=cw hs.heap (V.aQ all) (bQ all _ aF)
 have iL:s.H.put (cg s.H.o (V.aQ all))=⟨put s.o (cg s.o (V.aQ all)),s.H.us⟩:=hZ (by rw[jY];exact bQ all _ aF)
 have jv:=V.az f2 _ _ aF
 rcases h with⟨ds,out,dB,hP,hK⟩|⟨ds,out,dB,hP,lh,hK⟩|⟨ds,out,dB,hP,MX,hK⟩|hC|hC
 ·have p9:=cF f1 all ds _ f3 dB jv
  have hM:∀b,ad M φ (s.H.put (cg s.H.o (V.aQ all))) b->b<w.heap.size:=fun b hb=>hb.elim (f1.pP b) fun hl=>(f1.ours b hl).2
  have dG:=hP.2 _ w vals hM p9
  rw[dO hP.1]
  refine⟨fun hd=>by simp[cV]at hd,cn (dG.mono fun e w' ⟨hk,ho⟩=> ?_)⟩
  obtain⟨k1,k2⟩:=ew f1 hk
  cases out with
  |ret rs=>
   cases e with
   |returned val=>
    refine hN _ _ _ _ hK (iP hs k1 (f2.trans k2) (ij ho) b7 (by rw[iL]) ?_)
    intro id hu;rw[iL]at hu;exact Nat.lt_succ_of_lt hu
   |panicked ch=>cases rs with|nil=>exact ho.elim|cons x l=>cases l<;>exact ho.elim
   |outgrown=>cases rs with|nil=>exact ho.elim|cons x l=>cases l<;>exact ho.elim
  |ba x=>
   cases e with
   |returned val=>exact ho.elim
   |panicked ch=>
    obtain⟨val,rfl,hd⟩:=ho
    have rk:=dh hs k1 (f2.trans k2) (o':=put s.o (cg s.o (V.aQ all))) (nx':=s.nx+1) (by rw[iL]) (fun id hu=>by rw[iL]at hu;exact Nat.lt_succ_of_lt hu)
    refine hQ _ _ _ _ val hK rk ?_
    have e1:ad M φ (S.H ⟨s.env,put s.o (cg s.o (V.aQ all)),s.nx+1⟩)=ad M φ (s.H.put (cg s.H.o (V.aQ all))):=by rw[iL];rfl
    simp only[V.den]
    rw[e1];exact hd
   |outgrown=>exact ho.elim
 ·have p9:=cF f1 all ds _ f3 dB jv
  have hM:∀b,ad M φ (s.H.put (cg s.H.o (V.aQ all))) b->b<w.heap.size:=fun b hb=>hb.elim (f1.pP b) fun hl=>(f1.ours b hl).2
  have dG:=hP.2 _ w vals hM p9
  rw[dO hP.1]
  refine⟨fun hd=>by simp[cV]at hd,cn (dG.mono fun e w' ⟨hk,ho⟩=> ?_)⟩
  obtain⟨k1,k2⟩:=ew hs.heap hk
  have ho:=R.rl (B':=ad M φ s.H) lh ho
  cases out with
  |ret rs=>
   cases e with
   |returned val=>
    exact hN _ _ _ _ hK (iP hs k1 k2 (ij ho) b7 rfl fun id hu=>Nat.lt_succ_of_lt hu)
   |panicked ch=>cases rs with|nil=>exact ho.elim|cons x l=>cases l<;>exact ho.elim
   |outgrown=>cases rs with|nil=>exact ho.elim|cons x l=>cases l<;>exact ho.elim
  |ba x=>
   cases e with
   |returned val=>exact ho.elim
   |panicked ch=>
    obtain⟨val,rfl,hd⟩:=ho
    exact hQ _ _ _ _ val hK (dh hs k1 k2 (o':=s.o) (nx':=s.nx+1) rfl fun id hu=>Nat.lt_succ_of_lt hu) hd
   |outgrown=>exact ho.elim
 ·obtain⟨a1,a2,a3,a4,a5⟩:=cw hs.heap ((V.aQ all).filter fun id=>(s.o id).hY) (fun id ag=>bQ all _ aF id (List.mem_filter.1 ag).1)
  have s9:s.H.put (cg s.H.o ((V.aQ all).filter fun id=>(s.o id).hY))=⟨put s.o (mz s.o (V.aQ all)),s.H.us⟩:=by
   rw[Bs]
   exact hZ (by rw[jY];exact fun id ag=>bQ all _ aF id (List.mem_filter.1 ag).1)
  have p9:=cF f1 all ds _ f3 dB jv
  have hM:∀b,ad M φ (s.H.put (cg s.H.o (V.aQ all))) b->b<w.heap.size:=fun b hb=>hb.elim (f1.pP b) fun hl=>(f1.ours b hl).2
  have dG:=hP.2 _ w vals hM p9
  rw[dO hP.1]
  refine⟨fun hd=>by simp[cV]at hd,cn (dG.mono fun e w' ⟨hk,ho⟩=> ?_)⟩
  obtain⟨k1,k2⟩:=ew a1 hk
  have fE:∀b,lx w' b-> ¬ad M φ (s.H.put (cg s.H.o (V.aQ all))) b-> ¬ad M φ (s.H.put (cg s.H.o ((V.aQ all).filter fun id=>(s.o id).hY))) b:=by
   intro b hc hn hm
   rcases hm with hM|⟨id,hl,hb⟩
   ·exact hn (.inl hM)
   ·by_cases ag:id∈V.aQ all
    ·cases hx:s.H.o id with
     |arr ep ty sz es=>
      rw[a3 id (List.mem_filter.2 ⟨ag,by show(s.H.o id).hY=true;rw[hx];rfl⟩),hx]at hl
      cases hl
     |map kt vt l=>
      have ji:id∉(V.aQ all).filter fun id=>(s.o id).hY:=fun h=>by
       have h2:(s.H.o id).hY=true:=(List.mem_filter.1 h).2
       rw[hx]at h2;cases h2
      have a8:=k1.ok id
      unfold aA at a8
      rw[a4 id ji,hx]at a8
      obtain⟨b',es,clock,g1,g2,_⟩:=a8
      rw[g1]at hb
      injection hb with hb
      subst hb
      obtain⟨cs,ty,fz,hc⟩:=hc
      rw[g2]at hc
      cases hc
     |_=>
      have ji:id∉(V.aQ all).filter fun id=>(s.o id).hY:=fun h=>by
       have h2:(s.H.o id).hY=true:=(List.mem_filter.1 h).2
       rw[hx]at h2;cases h2
      refine hn (.inr ⟨id, ?_,hb⟩)
      rw[a4 id ji,hx]at hl
      rw[f3 id ag,hx]
      exact hl
    ·have ji:id∉(V.aQ all).filter fun id=>(s.o id).hY:=fun h=>ag (List.mem_filter.1 h).1
     refine hn (.inr ⟨id, ?_,hb⟩)
     rw[a4 id ji]at hl
     rw[f4 id ag]
     exact hl
  have ho:=R.zl (w':=w') (B':=ad M φ (s.H.put (cg s.H.o ((V.aQ all).filter fun id=>(s.o id).hY)))) fE MX ho
  cases out with
  |ret rs=>
   cases e with
   |returned val=>
    refine hN _ _ _ _ hK (iP hs k1 (a2.trans k2) (ij ho) b7 (by rw[s9]) ?_)
    intro id hu;rw[s9]at hu;exact Nat.lt_succ_of_lt hu
   |panicked ch=>cases rs with|nil=>exact ho.elim|cons x l=>cases l<;>exact ho.elim
   |outgrown=>cases rs with|nil=>exact ho.elim|cons x l=>cases l<;>exact ho.elim
  |ba x=>
   cases e with
   |returned val=>exact ho.elim
   |panicked ch=>
    obtain⟨val,rfl,hd⟩:=ho
    have rk:=dh hs k1 (a2.trans k2) (o':=put s.o (mz s.o (V.aQ all))) (nx':=s.nx+1) (by rw[s9]) (fun id hu=>by rw[s9]at hu;exact Nat.lt_succ_of_lt hu)
    refine hQ _ _ _ _ val hK rk ?_
    have e1:ad M φ (S.H ⟨s.env,put s.o (mz s.o (V.aQ all)),s.nx+1⟩)=ad M φ (s.H.put (cg s.H.o ((V.aQ all).filter fun id=>(s.o id).hY))):=by rw[s9];rfl
    simp only[V.den]
    rw[e1];exact hd
   |outgrown=>exact ho.elim
 ·exact qj hs b7 dO aF hC hN hQ
 ·obtain⟨f1,f2,f3,f4,f5⟩:=cw hs.heap (cy s.o all) (eK all _ s.o aF)
  have iL:s.H.put (cg s.H.o (cy s.o all))=hp (put s.o (cg s.o (cy s.o all))) s.nx:=hZ (by rw[jY];exact eK all _ s.o aF)
  have jv:=zm f1 all _ f3 (V.az f2 _ _ aF)
  rw[iL]at f1 f2 jv
  exact qj (s:=⟨s.env,put s.o (cg s.o (cy s.o all)),s.nx⟩) (dh hs f1 f2 rfl fun id hu=>hu) b7 dO jv hC hN hQ
theorem Bt(hs:bC M bT H0 w0 n cx φ s a w){o:Oper}{c:Call}{f:Operand}(cO:o.op= .call c)(hc:c.callee= .value f)(b7:eJ n o.dst)
 (h:s6 P s (s.ev f) (c.args.toList.map s.ev) (fun v o' nx'=>K ⟨aN s.env o.dst v,o',nx'⟩) (fun v o' nx'=>X v ⟨s.env,o',nx'⟩))
 (hN:∀s' aj a' w',K s'->bC M bT H0 w0 n cx aj s' a' w'->next a' w')
 (hQ:∀v s' aj w' val,X v s'->bC M bT H0 w0 n cx aj s' a w'->V.den (ad M aj s'.H) aj s'.H w' v val->Q (.panic [{v:=val,recovered:=false}]) a w'):o.wpIn (cV ro) k P a w next Q:=by
 refine gC (fun c' xL=>by rw[cO]at xL;cases xL) ?_
 have hf:=jm (M:=M) (φ:=φ) (H:=s.H) (w:=w) s a hs.env f
 have dg:=gx (M:=M) (φ:=φ) (H:=s.H) (w:=w) s a hs.env c.args.toList
 unfold s6 at h
 split at h
 ·rename_i g first cap oB
  rw[oB]at hf
  obtain⟨fa,ca,DO,uO,G5⟩:=hf
  have aF:V.aq (ad M φ s.H) φ s.H w (first++c.args.toList.map s.ev++cap) (fa++c.args.map a.eval++ca).toList:=by
   rw[Array.toList_append,Array.toList_append,Array.toList_map]
   exact V.iQ uO dg G5
  generalize first++c.args.toList.map s.ev++cap=all at h aF
  generalize jb:fa++c.args.map a.eval++ca=vals at aF
  have dO:gL P g->(execOp a.eval o).run P w= .ok (.enter g vals) w:=by
   intro he
   have:=ig (w:=w) he (fa++c.args.map a.eval++ca)
   rw[jb]at this
   simp[execOp,cO,resolve,hc,DO,Deferred.ofValue,invoke,this,jb]
  exact s8 hs b7 dO aF h hN hQ
 ·rename_i id oB
  rw[oB]at hf
  obtain⟨_,de,SH⟩:=hf
  obtain⟨aZ,hR⟩:=h
  obtain⟨b,cM,DO⟩:=SH aZ
  obtain⟨fn,tmps,assign,body,h1,h2⟩:=hR M φ w (c.args.map a.eval) b hs.heap (by rw[Array.toList_map];exact dg) cM
  have dO:(execOp a.eval o).run P w= .ok (.round b fn tmps assign body) w:=by
   simp[execOp,cO,resolve,hc,DO,Deferred.ofValue,invoke,h1]
  rw[dO]
  refine⟨fun hd=>by simp[cV]at hd,RoundIn.mono (h2 (k - 1)) fun e w' ⟨aj,o',nx',v,k1,k2,k3⟩=> ?_⟩
  cases e with
  |returned val=>exact hN _ _ _ _ k3.2 (iP hs k1 k2 k3.1 b7 rfl fun id hu=>hu)
  |panicked ch=>
   obtain⟨val,rfl,k4,k5⟩:=k3
   exact hQ _ _ _ _ val k5 (dh hs k1 k2 (o':=o') (nx':=nx') rfl fun id hu=>hu) k4
  |outgrown=>exact k3.elim
 ·exact h.elim
theorem xM(hs:bC M bT H0 w0 n cx φ s a w){o:Oper}{c:Call}{r:Operand}{m:String}{g:FuncId}{y:V}(cO:o.op= .call c)(hc:c.callee= .invoke r m)(b7:eJ n o.dst)(hr:oz P m (s.ev r)=some (g,y))
 (h:oy P s g (y::c.args.toList.map s.ev) (fun v o' nx'=>K ⟨aN s.env o.dst v,o',nx'⟩) (fun v o' nx'=>X v ⟨s.env,o',nx'⟩))
 (hN:∀s' aj a' w',K s'->bC M bT H0 w0 n cx aj s' a' w'->next a' w')
 (hQ:∀v s' aj w' val,X v s'->bC M bT H0 w0 n cx aj s' a w'->V.den (ad M aj s'.H) aj s'.H w' v val->Q (.panic [{v:=val,recovered:=false}]) a w'):o.wpIn (cV ro) k P a w next Q:=by
 refine gC (fun c' xL=>by rw[cO]at xL;cases xL) ?_
 have hf:=jm (M:=M) (φ:=φ) (H:=s.H) (w:=w) s a hs.env r
 have dg:=gx (M:=M) (φ:=φ) (H:=s.H) (w:=w) s a hs.env c.args.toList
 unfold oz at hr
 split at hr
 ·rename_i t d hx
  rw[hx]at hf
  obtain⟨val,hv,hd⟩:=hf
  split at hr
  ·rename_i ti SI
   split at hr
   ·rename_i mr oC
    split at hr
    ·rename_i f xN
     split at hr
     ·rename_i CJ
      injection hr with hr
      injection hr with h1 h2
      subst h1;subst h2
      refine s8 (vals:=#[val]++c.args.map a.eval) hs b7 ?_ ?_ h hN hQ
      ·intro he
       have dO:=ig (w:=w) he (#[val]++c.args.map a.eval)
       have SJ:mr.path=#[]:=Array.isEmpty_iff.1 CJ.1
       have hu:∃u,P.underlying t=some u/\∀e,u≠ .pointer e:=by
        have:=CJ.2
        unfold CI at this
        split at this
        ·cases this
        ·rename_i u eV hu;exact⟨u,hu,fun e he=>eV e he⟩
        ·cases this
       obtain⟨u,hu,CK⟩:=hu
       have hm:(method (P.types.size+Made.depth) t val m).run P w= .ok (f,val) w:=by
        have:P.types.size+Made.depth=(P.types.size+Made.depth - 1)+1:=by simp[Made.depth]
        rw[this]
        cases u<;>first|exact absurd rfl (CK _)|simp[method,typeInfo,SI,oC,SJ,xN,follow,receiverAt,run_underlying hu,_root_.Go.Place.get]
       have h0:(#[Value.iface t val]++Array.map a.eval c.args)[0]? =some (.iface t val):=by
        rw[Array.getElem?_append_left (by simp)];rfl
       have h1:(Array.map a.eval c.args).extract 0 c.args.size=Array.map a.eval c.args:=by
        rw[show c.args.size=(Array.map a.eval c.args).size from by simp,Array.extract_size]
       simp[execOp,cO,resolve,hc,invoke,callMethod,hv,h0,h1,hm,dO]
      ·simp only[Array.toList_append,Array.toList_map]
       exact⟨val,_,rfl,hd,dg⟩
     ·cases hr
    ·cases hr
   ·cases hr
  ·cases hr
 ·cases hr
theorem qk(hs:bC M bT H0 w0 n cx φ s a w){o:Oper}(h:NZ P n s o X K)
 (hN:∀s' aj a' w',K s'->bC M bT H0 w0 n cx aj s' a' w'->next a' w')
 (hQ:∀v s' aj w' val,X v s'->bC M bT H0 w0 n cx aj s' a w'->V.den (ad M aj s'.H) aj s'.H w' v val->Q (.panic [{v:=val,recovered:=false}]) a w'):o.wpIn (cV ro) k P a w next Q:=by
 obtain⟨b7,h⟩:=h
 split at h
 ·rename_i c cO
  split at h
  ·rename_i f hc
   exact Bt hs cO hc b7 h hN hQ
  ·rename_i r m hc
   split at h
   ·rename_i g y hr;exact xM hs cO hc b7 hr h hN hQ
   ·exact h.elim
  ·exact zk hs rfl b7 h hN
 ·rename_i x cO
  have hx:=jm (M:=M) (φ:=φ) (H:=s.H) (w:=w) s a hs.env x
  have ba:∀ (t:TypeId) (u:Value),a.eval x= .iface t u->Q (.panic [{v:= .iface t u,recovered:=false}]) a w->o.wpIn (cV ro) k P a w next Q:=by
   intro t u hu hq
   refine gC (fun c hc=>by rw[cO]at hc;cases hc) ?_
   have hr:(execOp a.eval o).run P w= .halt (.panic (.iface t u)) w:=by simp[execOp,cO,hu,Instr.panic]
   rw[hr];exact hq
  split at h
  ·rename_i t y hv
   rw[hv]at hx
   obtain⟨u,hu,hd⟩:=hx
   exact ba t u hu (hQ _ s φ w (.iface t u) h hs ⟨u,rfl,hd⟩)
  ·rename_i t y hv
   rw[hv]at hx
   obtain⟨u,hu,hd⟩:=hx
   exact ba t u hu (hQ _ s φ w (.iface t u) h hs ⟨u,rfl,hd⟩)
  ·exact h.elim
 ·exact zk hs rfl b7 h hN
end
end Go.Proofs.YtpkobkdgcanmjaaGreat
namespace Go
def Code.oD (P:Program)(ro:Option Nat)(c:Code)(Q:Exit->Act->World->Prop)(a:Act)(w:World):Prop:=
 ∀ (b:Frame) (k:List Item) (cs:List Frame),b.roundOf=ro->b.fn<P.funcs.size->
   ∃e a' w',Q e a' w'/\ArrivesIn (Machine.fenced P (Proofs.YtpkobkdgcanmjaaGreat.cV ro)) P (lone (b.atR a (.code c::k)) cs w) b k cs e a' w'
end Go
namespace Go.Proofs.YtpkobkdgcanmjaaGreat
instance:LawfulMonad Sem:=LawfulMonad.mk' Sem (id_map:=fun x=>Sem.bind_pure' x) (pure_bind:=fun _ _=>rfl) (bind_assoc:=fun x f g=>Sem.bind_assoc' x f g)
section
variable {P:Program}{M:Nat->Prop}{φ:Place}{H:Hp}{w w':World}{bT:Place}{H0:Hp}{w0:World}{n b:Nat}{s:S}{a:Act}{cx:Cx}{ro:Option Nat}{k:Nat}
theorem lT(hs:bC M bT H0 w0 n cx φ s a w){ops:Array Oper}{o:Oper}{A B:Prop}(h:ri s ops o.guard A B):
 (Region.wanted o (yielded ops a.tmps)=true->A)/\(Region.wanted o (yielded ops a.tmps)=false->B):=by
 unfold ri at h
 unfold Region.wanted
 split at h
 ·rename_i hg;simp only[hg];exact⟨fun _=>h,fun h=>by cases h⟩
 ·rename_i j want hg
  simp only[hg]
  unfold mZ at h
  unfold yielded
  split at h
  ·rename_i d hd
   simp only[hd,Option.bind_some]
   have cN:=hs.env d
   split at h
   ·rename_i c hv
    rw[hv]at cN
    simp only[V.den,D.den]at cN
    have:a.tmps[d]? =some (.bool c):=by
     rw[Array.getD_eq_getD_getElem?]at cN
     cases hx:a.tmps[d]? with
     |none=>rw[hx]at cN;simp[undef]at cN
     |some x=>rw[hx]at cN;simp at cN;rw[cN]
    simp only[this]
    by_cases hc:c=want
    ·subst hc;exact⟨fun _=>h.1 rfl,fun h=>by simp at h⟩
    ·exact⟨fun h'=>absurd (by simpa using h') hc,fun _=>h.2 hc⟩
   ·rename_i hv
    rw[hv]at cN
    obtain⟨arr,bS,hn⟩:=cN
    simp only[V.aq]at hn
    have:∀c,a.tmps[d]? ≠some (.bool c):=by
     intro c hx
     rw[Array.getD_eq_getD_getElem?,hx]at bS
     simp at bS
    cases hx:a.tmps[d]? with
    |none=>exact⟨fun h=>by simp at h,fun _=>h⟩
    |some x=>cases x<;>first|(exact absurd hx (this _))|(exact⟨fun h=>by simp at h,fun _=>h⟩)
   ·exact h.elim
  ·rename_i hd
   simp only[hd,Option.bind_none]
   exact⟨fun h=>by simp at h,fun _=>h⟩
theorem ta(hs:bC M bT H0 w0 n cx φ s a w){dst:Option Tmp}(b7:eJ n dst):bC M bT H0 w0 n cx φ ⟨aN s.env dst (.bM []),s.o,s.nx+1⟩ (a.put dst undef) w:=
 iP (v:= .bM []) (val:=undef) hs hs.heap (Trans.refl _ _ _) ⟨#[],rfl,rfl⟩ b7 rfl fun _ hu=>Nat.lt_succ_of_lt hu
theorem kO{ops:Array Oper}{X:V->S->Prop}{K:S->Prop}{Q:Exit->Act->World->Prop}
 (hK:∀s φ a w,K s->bC M bT H0 w0 n cx φ s a w->Q .normal a w)
 (hQ:∀v s' aj a w' val,X v s'->bC M bT H0 w0 n cx aj s' a w'->V.den (ad M aj s'.H) aj s'.H w' v val->Q (.panic [{v:=val,recovered:=false}]) a w'):
 ∀ (l:List Oper) (s:S) (φ:Place) (a:Act) (w:World),rj P n ops X K l s->bC M bT H0 w0 n cx φ s a w->wpListIn (cV ro) k P ops Q l a w
 |[],s,φ,a,w,h,hs=>hK s φ a w h hs
 |o::l,s,φ,a,w,h,hs=>by
  obtain⟨h1,h2⟩:=lT hs h
  unfold wpListIn
  split
  ·rename_i hw
   exact qk hs (h1 hw) (fun s' aj a' w' hk gM=>kO hK hQ l s' aj a' w' hk gM) (fun v s' aj w' val hx gM hd=>hQ v s' aj a w' val hx gM hd)
  ·rename_i hw
   obtain⟨b7,h3⟩:=h2 (by simpa using hw)
   exact⟨fun _ _=>trivial,kO hK hQ l _ _ _ _ h3 (ta hs b7)⟩
def we(M:Nat->Prop)(bT:Place)(H0:Hp)(w0:World)(n:Nat)(cx:Cx)(Q:fl->S->Prop)(e:Exit)(a:Act)(w:World):Prop:=
 ∃x s φ,Q x s/\bC M bT H0 w0 n cx φ s a w/\match e,x with
  | .normal, .normal=>True
  | .exit i, .exit j=>i=j
  | .ret, .ret=>True
  | .panic ch, .ba v=>∃val,ch=[{v:=val,recovered:=false}]/\V.den (ad M φ s.H) φ s.H w v val
  |_,_=>False
section
variable {Q:Exit->Act->World->Prop}
theorem eL{m:Nat}:(cV ro).room m:=fun d hd=>by simp[cV]at hd
theorem kP{c:Code}(h:c.wpIn (cV ro) k P Q a w):c.oD P ro Q a w:=fun b k cs oC _=>h b k cs oC trivial eL
theorem eM{c:Code}{Q':Exit->Act->World->Prop}(h:c.oD P ro Q a w)(hq:∀e a w,Q e a w->Q' e a w):c.oD P ro Q' a w:=
 fun b k cs oC hb=>let⟨e,a',w',q,r⟩:=h b k cs oC hb;⟨e,a',w',hq _ _ _ q,r⟩
theorem wg(h:Q .ret a w):Code.ret.oD P ro Q a w:=kP (k:=0) (wpIn_ret h)
theorem tc{id:Nat}(h:Q (.exit id) a w):(Code.exit id).oD P ro Q a w:=kP (k:=0) (wpIn_exit h)
theorem rm{x y:Code}(h:x.oD P ro (Exit.then (y.oD P ro Q) Q) a w):(Code.seq x y).oD P ro Q a w:=by
 intro b k cs oC hb
 have h0:(lone (b.atR a (.code (.seq x y)::k)) cs w).fenced P (cV ro):=fenced_calm (n:=0) trivial eL rfl
 obtain⟨e,fF,ej,hq,bS⟩:=h b (.code y::k) cs oC hb
 cases e with
 |normal=>
  obtain⟨DP,G6,mL,lU,gD⟩:=hq b k cs oC hb
  exact⟨DP,G6,mL,lU, .of_steps (.head h0 stepR_seq bS) gD⟩
 |exit id=>exact⟨_,fF,ej,hq, .of_steps (.one h0 stepR_seq) (.pass (x:= .code y) rfl (fun _ _=> .inl (by simp)) bS)⟩
 |goto l=>exact⟨_,fF,ej,hq, .of_steps (.one h0 stepR_seq) (.pass (x:= .code y) rfl (fun _ _=> .inl (by simp)) bS)⟩
 |ret=>exact⟨_,fF,ej,hq, .of_steps (.one h0 stepR_seq) (.pass (x:= .code y) rfl (fun _ _=> .inl (by simp)) bS)⟩
 |panic ch=>exact⟨_,fF,ej,hq, .of_steps (.one h0 stepR_seq) (.pass (x:= .code y) rfl (fun _ _=> .inl (by simp)) bS)⟩
 |outgrown=>exact⟨_,fF,ej,hq, .of_steps (.one h0 stepR_seq) (.pass (x:= .code y) rfl (fun _ _=> .inl (by simp)) bS)⟩
theorem lV{c:Operand}{x y:Code}{t:Bool}(hc:a.eval c= .bool t)(h:(if t then x else y).oD P ro Q a w):(Code.cond c x y).oD P ro Q a w:=
 fun b k cs oC hb=>let⟨e,a',w',q,r⟩:=h b k cs oC hb;⟨e,a',w',q, .of_steps (.one (fenced_calm (n:=0) trivial eL rfl) (stepR_cond hc)) r⟩
theorem xO{id:Nat}{c:Code}(h:c.oD P ro (Exit.inBlock id Q) a w):(Code.block id c).oD P ro Q a w:=by
 intro b k cs oC hb
 have h0:(lone (b.atR a (.code (.block id c)::k)) cs w).fenced P (cV ro):=fenced_calm (n:=0) trivial eL rfl
 obtain⟨e,fF,ej,hq,bS⟩:=h b (.inBlock id::k) cs oC hb
 cases e with
 |normal=>exact⟨.normal,fF,ej,hq, .head h0 stepR_block (StepsIn.trans bS (.one (fenced_calm (n:=0) trivial eL rfl) stepR_inBlock))⟩
 |exit b8=>
  by_cases ag:b8=id
  ·simp only[Exit.inBlock,ag,if_true]at hq
   exact⟨.normal,fF,ej,hq, .head h0 stepR_block (bS.1 k (by simp[exitTo,ag]))⟩
  ·simp only[Exit.inBlock,ag,if_false]at hq
   have this:(id==b8)=false:=by simp;exact fun h=>ag h.symm
   have hx:exitTo b8 (.inBlock id::k)=exitTo b8 k:=by simp[exitTo,this]
   exact⟨.exit b8,fF,ej,hq,fun k' hk=> .head h0 stepR_block (bS.1 k' (by rw[hx];exact hk)),
    fun xI hk=>let⟨k₁,h1,h2⟩:=bS.2 xI (by rw[hx];exact hk);⟨k₁,h1, .head h0 stepR_block h2⟩⟩
 |goto l=>
  have hx:gotoIn l (.inBlock id::k)=gotoIn l k:=by simp[gotoIn]
  exact⟨_,fF,ej,hq,fun k' hk=> .head h0 stepR_block (bS.1 k' (by rw[hx];exact hk)),
   fun xI hk=>let⟨k₁,h1,h2⟩:=bS.2 xI (by rw[hx];exact hk);⟨k₁,h1, .head h0 stepR_block h2⟩⟩
 |ret=>exact⟨_,fF,ej,hq, .of_steps (.one h0 stepR_block) bS⟩
 |panic ch=>exact⟨_,fF,ej,hq, .of_steps (.one h0 stepR_block) bS⟩
 |outgrown=>exact⟨_,fF,ej,hq, .of_steps (.one h0 stepR_block) bS⟩
theorem ey{b:Frame}{k:List Item}{cs:List Frame}{c:Code}:step P (lone (b.atR a (.code (.scope c)::k)) cs w)= .next (lone (b.atR a (.code c:: .inScope c::k)) cs w):=
 step_lone_go (by simp[stepG,stepG.exec,Frame.atR])
theorem pV{b:Frame}{k:List Item}{cs:List Frame}{c:Code}:step P (lone (b.atR a (.inScope c::k)) cs w)= .next (lone (b.atR a k) cs w):=
 step_lone_go (by simp[stepG,stepG.exec,Frame.atR])
theorem xQ{c:Code}(h:c.oD P ro Q a w)(hg:∀l a w, ¬Q (.goto l) a w):(Code.scope c).oD P ro Q a w:=by
 intro b k cs oC hb
 have h0:(lone (b.atR a (.code (.scope c)::k)) cs w).fenced P (cV ro):=fenced_calm (n:=0) trivial eL rfl
 obtain⟨e,fF,ej,hq,bS⟩:=h b (.inScope c::k) cs oC hb
 cases e with
 |normal=>exact⟨.normal,fF,ej,hq, .head h0 ey (StepsIn.trans bS (.one (fenced_calm (n:=0) trivial eL rfl) pV))⟩
 |exit b8=>
  have hx:exitTo b8 (.inScope c::k)=exitTo b8 k:=by simp[exitTo]
  exact⟨.exit b8,fF,ej,hq,fun k' hk=> .head h0 ey (bS.1 k' (by rw[hx];exact hk)),
   fun xI hk=>let⟨k₁,h1,h2⟩:=bS.2 xI (by rw[hx];exact hk);⟨k₁,h1, .head h0 ey h2⟩⟩
 |goto l=>exact(hg _ _ _ hq).elim
 |ret=>exact⟨_,fF,ej,hq, .of_steps (.one h0 ey) bS⟩
 |panic ch=>exact⟨_,fF,ej,hq, .of_steps (.one h0 ey) bS⟩
 |outgrown=>exact⟨_,fF,ej,hq, .of_steps (.one h0 ey) bS⟩
def oE(P:Program)(l:Nat)(Q:Exit->Act->World->Prop)(a':Act):Ending->World->Prop
 | .returned _,uZ=>∃jump nC,(Instr.endLoop l).run P uZ= .ok jump nC/\(match jump with|none=>Q .normal a' nC|some c=>c.oD P none Q a' nC)
 | .panicked chain,uZ=>Q (.panic chain) a' uZ
 | .outgrown,_=>LetsOut Q
theorem pW{g:Operand}{ps:Array Tmp}{assign body:Code}
 (h:∀fn,fn<P.funcs.size->∃ (l:Nat) (mark:List Deferred) (ej:World) (d:Deferred) (ql:World) (f:FuncId) (args:Array Value) (mL:World),
  (Instr.enterLoop fn a.tmps ps assign body (cV none).round).run P w= .ok (l,mark) ej/\(resolve a.eval (rangeCall g l) 0).run P ej= .ok d ql/\
  (invoke d.target d.args).run P ql= .ok (.enter f args) mL/\CallsIn (cV none) 0 P f args mL (oE P l Q {a with defers:=mark++a.defers})):
 (Code.rangeFunc g ps assign body).oD P none Q a w:=by
 intro b k cs oC hb
 obtain⟨l,mark,ej,d,ql,f,args,mL,he,te,hinv,hF,dG⟩:=h b.fn hb
 rw[show(cV none).round=b.roundOf from oC.symm]at he
 have calm:∀ (m:Machine),m.fenced P (cV none)↔m.fenced P Fence.wide:=fun m=>Iff.rfl
 have h0:(lone (b.atR a (.code (.rangeFunc g ps assign body)::k)) cs w).fenced P (cV none):=(calm _).2 (fenced_wide P _)
 have iR:=stepR_rangeFunc (P:=P) (b:=b) (a:=a) (k:=k) (cs:=cs) (w:=w) he te hinv
 obtain⟨e,uZ,fr,hR,u0,xN,zn⟩:=dG (b.atR {a with defers:=mark++a.defers} (.inRangeFunc l::k)::cs) eL
 cases e with
 |outgrown=>
  obtain⟨N0,N1,hq⟩:=hR
  exact⟨.outgrown,N0,N1,hq, .inr (Outgrown.of_steps (.one iR) u0)⟩
 |returned v=>
  obtain⟨jump,nC,oF,hj⟩:=hR
  have CL:StepsIn (Machine.fenced P (cV none)) P (lone (b.atR a (.code (.rangeFunc g ps assign body)::k)) cs w) (lone (b.atR {a with defers:=mark++a.defers} ((jump.map Item.code).toList++k)) cs nC):=by
   refine .head h0 iR (StepsIn.trans u0 (.head ((calm _).2 (fenced_wide P _)) ?_ (.one ((calm _).2 (fenced_wide P _)) (stepR_endRangeFunc oF))))
   rw[<- finish_atR_inRangeFunc l v];exact step_leave_returned zn
  cases jump with
  |none=>exact⟨.normal,_,nC,hj,CL⟩
  |some c=>
   obtain⟨e',SK,N2,hq,bS⟩:=hj b k cs oC hb
   exact⟨e',SK,N2,hq, .of_steps CL bS⟩
 |panicked chain=>
  refine⟨.panic chain,_,uZ,hR, .inRangeFunc l::k, .head h0 iR (StepsIn.trans u0 (.one ((calm _).2 (fenced_wide P _)) ?_))⟩
  rw[<- Frame.raise_atR];exact step_leave_panicked zn
end
theorem qm(hH:ai M φ H w){id l:Nat}(de:H.us id){nf m:Nat}{env:List V}{ps:List Nat}{kg gv:IC}{st st':LoopState}{pd pd':Option lg}(ho:H.o id= .loop nf m env ps kg gv st pd)(cM:φ id= .pointer (some ⟨l,0,none⟩)):
 ∃r,w.heap[l]? =some (.loop r)/\r.state=st/\r.pending=pd.map lg.code/\
  ai M φ (H.put [(id, .loop nf m env ps kg gv st' pd')]) {w with heap:=w.heap.setIfInBounds l (.loop {r with state:=st',pending:=pd'.map lg.code})}/\
  Trans φ H w φ (H.put [(id, .loop nf m env ps kg gv st' pd')]) {w with heap:=w.heap.setIfInBounds l (.loop {r with state:=st',pending:=pd'.map lg.code})}:=by
 have a8:=hH.ok id
 simp only[aA,ho]at a8
 obtain⟨b,r,h1,h2,h0,h3,h4,h5,h6,h7,h8,h9⟩:=a8
 rw[cM]at h1;simp at h1;subst h1
 refine⟨r,h2,h3,h4, ?_⟩
 have y8:dJ (· =l) w {w with heap:=w.heap.setIfInBounds l (.loop {r with state:=st',pending:=pd'.map lg.code})}:=
  ⟨rfl,rfl,rfl,by simp,fun j _ hj=>(MapKept.heap_set h2).2 j hj⟩
 have q9:(H.o id).live=true:=by rw[ho];rfl
 have uF:dA (φ id)=some l:=by rw[cM];rfl
 have ht:=ei (w:=w) (w':={w with heap:=w.heap.setIfInBounds l (.loop {r with state:=st',pending:=pd'.map lg.code})}) de q9 uF y8 (.loop nf m env ps kg gv st' pd') (by rw[ho];rfl) (by rw[ho];rfl)
 refine⟨fI hH de q9 uF y8 _ (by rw[ho];rfl) (by rw[ho];rfl) ?_,ht⟩
 unfold aA
 simp only[aY,aC,if_true]
 exact⟨l,_,cM,(MapKept.heap_set h2).1,h0,rfl,rfl,h5,h6,h7,h8,fun i=>V.au ht _ _ (h9 i)⟩
theorem fq{l:Nat}{r:Loop}(o:Obj)(hb:w.heap[l]? =some (.loop r)):(setObj l o).run P w= .ok () {w with heap:=w.heap.setIfInBounds l o}:=by
 simp[setObj,Sem.run,hb]
theorem gE{l:Nat}{r:Loop}(hb:w.heap[l]? =some (.loop r)):(Instr.getLoop l).run P w= .ok r w:=by
 simp[Instr.getLoop,getObj,Sem.run,hb,Result.andThen]
end
def DS(Q:fl->S->Prop)(pd:Option lg)(s:S):Prop:=
 match pd with
 |none=>Q .normal s
 |some .ret=>Q .ret s
 |some (.exit id)=>Q (.exit id) s
def u6(P:Program)(n:Nat)(g:V)(ps:List Nat)(kg gv:IC)(Q:fl->S->Prop)(s:S):Prop:=
 ∃env,(∀i,bI env i= .aw\/bI env i=s.env i)/\
  match g with
  | .func (.func f) first cap=>ju P f (first++[.jT s.nx]++cap) (aV s.o s.nx (.loop P.funcs.size n env ps kg gv .ready none)) (s.nx+1)
    (fun _ o' nx'=>∃nf m e p c d st pd,o' s.nx= .loop nf m e p c d st pd/\st≠ .busy/\DS Q pd ⟨s.env,aV o' s.nx (.loop nf m e p c d .exhausted pd),nx'⟩)
    (fun v o' nx'=>Q (.ba v) ⟨s.env,o',nx'⟩)
  |_=>False
def fw(P:Program)(n b:Nat)(rd:Bool):Code->(fl->S->Prop)->S->Prop
 | .skip,Q,s=>Q .normal s
 | .label _,Q,s=>Q .normal s
 | .scope x,Q,s=>fw P n b rd x Q s
 | .region _ ops false,Q,s=>rj P n ops (fun v s=>Q (.ba v) s) (Q .normal) ops.toList s
 | .region id ops true,Q,s=>∀M bT H0 w0 cx φ a w ro k,bC M bT H0 w0 n cx φ s a w->(Code.region id ops true).wpIn (cV ro) k P (we M bT H0 w0 n cx Q) a w
 | .seq x y,Q,s=>fw P n b rd x (lS (fw P n b rd y Q) Q) s
 | .cond c x y,Q,s=>match s.ev c with
   | .d (.bool t)=>(t=true->fw P n b rd x Q s)/\(t=false->fw P n b rd y Q s)
   | .dC=>fw P n b rd x Q s/\fw P n b rd y Q s
   |_=>False
 | .block id x,Q,s=>fw P n b rd x (dU id Q) s
 | .loop x,Q,s=>∃ (J:Nat->S->Prop),(∃m s1,dq b s s1/\J m s1)/\∀m s0,J m s0->fw P n b rd x (fun e s=>match e with| .normal=>∃m' s1,m'<m/\dq b s s1/\J m' s1|e=>Q e s) s0
 | .exit id,Q,s=>Q (.exit id) s
 | .ret,Q,s=>Q .ret s
 | .rangeFunc g ps x y,Q,s=>rd=false/\u6 P n (s.ev g) ps.toList (low n x) (low n y) Q s
 |_,_,_=>False
section
variable {P:Program}{M:Nat->Prop}{φ:Place}{H:Hp}{w w':World}{bT:Place}{H0:Hp}{w0:World}{n b:Nat}{s:S}{a:Act}{cx:Cx}{ro:Option Nat}{k:Nat}
theorem zo(hb:∀id,H0.us id->id<b)(hs:bC M bT H0 w0 n cx φ s a w){s':S}(h:dq b s s'):∃aj,bC M bT H0 w0 n cx aj s' a w:=by
 obtain⟨aj,h1,h2,h3,h4,h5,h6⟩:=h M φ w (fun i=>a.tmps.getD i undef) hs.heap hs.env
 refine⟨aj,h1,⟨hs.tr.bO,fun k hk=>hs.tr.grow k (h3 k hk),⟨fun id hu=>Nat.lt_of_lt_of_le (hb id hu) h4,fun id hu hr=> ?_,fun id e' hu he=> ?_⟩⟩,hs.size, ?_,h2⟩
 ·obtain⟨g1,g2⟩:=h5 id (hb id hu) hr
  obtain⟨g3,g4⟩:=hs.tr.rel.row id hu g1
  exact⟨g3,g2.trans g4⟩
 ·obtain⟨e,g1,g2,g3⟩:=h6 id e' (hb id hu) he
  obtain⟨e0,k1,k2,k3⟩:=hs.tr.rel.ep id e hu g1
  refine⟨e0,k1,Nat.le_trans k2 g2,fun heq=> ?_⟩
  have a1:e0=e:=by omega
  have a2:e=e':=by omega
  exact(g3 a2).trans (k3 a1)
 ·obtain⟨ms,g1,g2,g3,g4⟩:=hs.defers
  exact⟨ms,g1,g2,g3,fun r hr=>⟨(g4 r hr).1,(g4 r hr).2.1,fun hl=>(g4 r hr).2.2 (h3 r hl)⟩⟩
theorem rn{c:Code}{Q:Exit->Act->World->Prop}(J:Nat->Act->World->Prop)(round:∀m a w,J m a w->c.oD P ro (Exit.then (fun a' w'=>∃m',m'<m/\J m' a' w') Q) a w):
 ∀m a w,J m a w->(Code.loop c).oD P ro Q a w:=by
 intro m a w h0 fr kk cs oC hb
 have hr:(cV ro).room (cs.length+1+0):=fun d hd=>by simp[cV]at hd
 have key:∀m a w,J m a w->∃e a' w',Q e a' w'/\ArrivesIn (Machine.fenced P (cV ro)) P (lone (fr.atR a (.code c:: .inLoop c::kk)) cs w) fr kk cs e a' w':=by
  intro m
  induction m using Nat.strongRecOn with
  |_ m ih=>
   intro a w hJ
   obtain⟨e,a1,w1,hq,bS⟩:=round m a w hJ fr (.inLoop c::kk) cs oC hb
   cases e with
   |normal=>
    obtain⟨m',br,SL⟩:=hq
    obtain⟨e2,a2,w2,FE,wh⟩:=ih m' br a1 w1 SL
    exact⟨e2,a2,w2,FE, .of_steps (StepsIn.trans bS (.one (fenced_calm trivial hr rfl) stepR_inLoop)) wh⟩
   |_=>exact⟨_,a1,w1,hq, .pass (x:= .inLoop c) rfl (fun _ _=> .inl (by simp)) bS⟩
 obtain⟨e,a',w',hq,bS⟩:=key m a w h0
 exact⟨e,a',w',hq, .of_steps (.one (fenced_calm trivial hr rfl) stepR_loop) bS⟩
theorem xR(hs:bC M bT H0 w0 n cx φ s a w)(kn:cx.rd=false)(oC:ro=none){g:Operand}{ps:Array Tmp}{x y:Code}{Q:fl->S->Prop}(h:u6 P n (s.ev g) ps.toList (low n x) (low n y) Q s):
 (Code.rangeFunc g ps x y).oD P ro (we M bT H0 w0 n cx Q) a w:=by
 subst oC
 obtain⟨env,cN,h⟩:=h
 refine pW fun fn xN=> ?_
 let u7:Loop:={state:= .ready,pending:=none,fn:=fn,tmps:=a.tmps,params:=ps,assign:=x,body:=y,defers:=w.heap.size}
 let w1:World:=(w.alloc (.deferred (some []))).alloc (.loop u7)
 let l:Nat:=w.heap.size+1
 have iR:(Instr.enterLoop fn a.tmps ps x y (cV none).round).run P w= .ok (l,[mark w.heap.size]) w1:=by
  simp[Instr.enterLoop,cV,mark,w1,l,u7]
 have QT:dJ (fun _=>False) w w1:=by
  have k1:=ck w (.deferred (some []))
  have k2:=ck (w.alloc (.deferred (some []))) (.loop u7)
  exact⟨k2.os.trans k1.os,k2.tape.trans k1.tape,k2.output.trans k1.output,Nat.le_trans k1.size k2.size,fun j hj hm=>(k2.block j (Nat.lt_of_lt_of_le hj k1.size) hm).trans (k1.block j hj hm)⟩
 let fk:=aV φ s.nx (.pointer (some ⟨l,0,none⟩))
 let s1:S:=⟨s.env,aV s.o s.nx (.loop P.funcs.size n env ps.toList (low n x) (low n y) .ready none),s.nx+1⟩
 have cZ: ¬s.H.us s.nx:=by simp[S.H]
 have du:∀b,dA (.pointer (some ⟨l,0,none⟩))=some b->w.heap.size<=b/\b<w1.heap.size:=by
  intro b hb;simp[dA]at hb;subst hb;simp[l,w1]
 have su:=dL (φ:=φ) (H:=s.H) QT cZ (.loop P.funcs.size n env ps.toList (low n x) (low n y) .ready none) (.pointer (some ⟨l,0,none⟩)) fun b hb=>(du b hb).1
 have Bn:(w.alloc (.deferred (some []))).heap.size=w.heap.size+1:=by simp
 have q9:w1.heap[l]? =some (.loop u7):=by
  have:=heap_alloc_new (w.alloc (.deferred (some []))) (.loop u7)
  rwa [Bn]at this
 have SM:=fU hs.heap QT cZ (.loop P.funcs.size n env ps.toList (low n x) (low n y) .ready none) (.pointer (some ⟨l,0,none⟩)) du (by
  unfold aA
  simp only[aY,aC,if_true]
  refine⟨l,u7,rfl,q9,xN,rfl,rfl,rfl,hs.size,rfl,rfl,fun i=> ?_⟩
  rcases cN i with e|e
  ·rw[e];trivial
  ·rw[e];exact V.au su _ _ (hs.env i))
 have qn:bC M bT H0 w0 n cx fk s1 {a with defers:=mark w.heap.size::a.defers} w1:=by
  have base:=dh hs SM su (o':=aV s.o s.nx (.loop P.funcs.size n env ps.toList (low n x) (low n y) .ready none)) (nx':=s.nx+1) rfl (zj fun id ag=>by simp at ag;exact .inr ag)
  refine⟨base.heap,base.tr,base.size, ?_,base.env⟩
  obtain⟨ms,g1,g2,g3,g4⟩:=base.defers
  obtain⟨N3,q1,q2,q3,q4⟩:=hs.defers
  have SN:ms.map mark=N3.map mark:=by
   have:ms.map mark++cx.base=N3.map mark++cx.base:=g1.symm.trans q1
   exact List.append_cancel_right this
  have rp:ms=N3:=by
   have hm:∀a b,mark a=mark b->a=b:=fun a b h=>by simpa[mark]using h
   exact List.map_inj_right hm |>.1 SN
  refine⟨w.heap.size::ms,by rw[g1];rfl,List.nodup_cons.2 ⟨fun hm=> ?_,g2⟩,(fun h=>by rw[kn]at h;cases h),fun r hr=> ?_⟩
  ·have:=(q4 w.heap.size (rp ▸ hm)).2.1
   rw[Array.getElem?_eq_none (Nat.le_refl _)]at this;cases this
  ·rcases List.mem_cons.1 hr with rfl|hr
   ·refine⟨hs.tr.bO.size,(RowKit.Below.heap_alloc (w.alloc (.deferred (some []))) (.loop u7) w.heap.size (by rw[Bn];omega)).trans (heap_alloc_new w _), ?_⟩
    rintro⟨id,i1,i2⟩
    by_cases e:id=s.nx
    ·subst e;simp[fk,dA,l]at i2
    ·have SO:(s.H.o id).live=true:=by simpa[s1,S.H,e]using i1
     have SP:dA (φ id)=some w.heap.size:=by simpa[fk,e]using i2
     have:=(hs.heap.ours _ ⟨id,SO,SP⟩).2
     omega
   ·exact g4 r hr
 have N4:V.den (ad M fk s1.H) fk s1.H w1 (.jT s.nx) (.func (.yield l) #[] #[]):=
  ⟨rfl,by simp[s1,S.H],fun _=>⟨l,by simp[fk],rfl⟩⟩
 have hg:=jm (M:=M) (φ:=fk) (H:=s1.H) (w:=w1) s1 {a with defers:=mark w.heap.size::a.defers} qn.env g
 have N5:s1.ev g=s.ev g:=by cases g<;>rfl
 rw[N5]at hg
 have SQ:({a with defers:=mark w.heap.size::a.defers}:Act).eval g=a.eval g:=rfl
 rw[SQ]at hg
 split at h
 ·rename_i f first cap SR
  rw[SR]at hg
  obtain⟨fa,ca,DO,uO,G5⟩:=hg
  have fin:∀ (all:List V) (o2:Nat->aa) (s2:S),s2=⟨s.env,o2,s.nx+1⟩->bC M bT H0 w0 n cx fk s2 {a with defers:=mark w.heap.size::a.defers} w1->V.aq (ad M fk s2.H) fk s2.H w1 all (fa++#[Value.func (.yield l) #[] #[]]++ca).toList->(o2 s.nx).bd=true->
   fm P f all o2 (s.nx+1) (fun _ o' nx'=>∃nf m e p c d st pd,o' s.nx= .loop nf m e p c d st pd/\st≠ .busy/\DS Q pd ⟨s.env,aV o' s.nx (.loop nf m e p c d .exhausted pd),nx'⟩) (fun v o' nx'=>Q (.ba v) ⟨s.env,o',nx'⟩)->
   ∃ (l:Nat) (mark:List Deferred) (ej:World) (d:Deferred) (ql:World) (f:FuncId) (args:Array Value) (mL:World),
     (Instr.enterLoop fn a.tmps ps x y (cV none).round).run P w= .ok (l,mark) ej/\(resolve a.eval (rangeCall g l) 0).run P ej= .ok d ql/\
     (invoke d.target d.args).run P ql= .ok (.enter f args) mL/\CallsIn (cV none) 0 P f args mL (oE P l (we M bT H0 w0 n cx Q) {a with defers:=mark++a.defers}):=by
   intro all o2 s2 N6 A2 aF aZ hC
   subst N6
   have dG:=hC.2 M fk w1 _ A2.heap aF
   refine⟨l,[mark w.heap.size],w1,{target:= .fn (.func f) ca,args:=fa++#[Value.func (.yield l) #[] #[]]},w1,f,fa++#[Value.func (.yield l) #[] #[]]++ca,w1,iR, ?_, ?_,cn (dG.mono fun e w' ⟨aj,o',nx',v,k1,k2,k3⟩=> ?_)⟩
   ·simp only[resolve,DO,Deferred.ofValue,List.map_toArray,List.map_cons,List.map_nil,Sem.run_pure]
    rfl
   ·simp[invoke,ig hC.1]
   ·cases e with
    |returned val=>
     obtain⟨k4,nf,m,e,p,c,d,st,pd,k5,k6,k7⟩:=k3
     have wk:bC M bT H0 w0 n cx aj ⟨s.env,o',nx'⟩ {a with defers:=mark w.heap.size::a.defers} w':=dh A2 k1 k2 rfl fun id hu=>hu
     have DT:aj s.nx= .pointer (some ⟨l,0,none⟩):=by
      have:=(k2.rel.row s.nx (show s.nx<s.nx+1 by omega) (by show(o' s.nx).bd=true;rw[k5];rfl)).2
      rw[this];simp[fk]
     have br:s.nx<nx':=k2.rel.us s.nx (show s.nx<s.nx+1 by omega)
     obtain⟨r,r1,r2,r3,r4,r5⟩:=qm (st':= .exhausted) (pd':=pd) k1 br (show(hp o' nx').o s.nx=_ from k5) DT
     have oF:(Instr.endLoop l).run P w'= .ok (pd.map lg.code) {w' with heap:=w'.heap.setIfInBounds l (.loop {r with state:= .exhausted,pending:=pd.map lg.code})}:=by
      have e1:({r with state:= .exhausted}:Loop)={r with state:= .exhausted,pending:=pd.map lg.code}:=by rw[<- r3]
      have SS:(r.state==LoopState.busy)=false:=by rw[r2];cases st<;>first|rfl|exact absurd rfl k6
      simp only[Instr.endLoop,Sem.run_bind,gE r1,Result.andThen_ok,SS,Bool.false_eq_true,if_false,Sem.run_pure]
      rw[fq _ r1,e1]
      simp[r3]
     have FF:=dh wk r4 r5 (o':=aV o' s.nx (.loop nf m e p c d .exhausted pd)) (nx':=nx') rfl fun id hu=>by
      simp only[cY]at hu
      rcases hu with hu|hu
      ·exact hu
      ·subst hu;exact br
     refine⟨pd.map lg.code,_,oF, ?_⟩
     cases pd with
     |none=>exact⟨.normal,_,_,k7,FF,trivial⟩
     |some j=>
      cases j with
      |ret=>exact wg ⟨.ret,_,_,k7,FF,trivial⟩
      |exit id=>exact tc ⟨.exit id,_,_,k7,FF,rfl⟩
    |panicked ch=>
     obtain⟨val,rfl,k4,k5⟩:=k3
     have wk:bC M bT H0 w0 n cx aj ⟨s.env,o',nx'⟩ {a with defers:=mark w.heap.size::a.defers} w':=dh A2 k1 k2 rfl fun id hu=>hu
     exact⟨.ba v,_,_,k5,wk,val,rfl,k4⟩
    |outgrown=>exact k3.elim
  have jv:V.aq (ad M fk s1.H) fk s1.H w1 (first++[V.jT s.nx]++cap) (fa++#[Value.func (.yield l) #[] #[]]++ca).toList:=by
   rw[Array.toList_append,Array.toList_append]
   exact V.iQ uO ⟨_,[],rfl,N4,rfl⟩ G5
  rcases h with hC|hC
  ·exact fin _ _ s1 rfl qn jv (by simp;rfl) hC
  ·have gW:s1.o=aV s.o s.nx (.loop P.funcs.size n env ps.toList (low n x) (low n y) .ready none):=rfl
   obtain⟨f1,f2,f3,f4,f5⟩:=cw qn.heap (cy s1.o (first++[V.jT s.nx]++cap)) (eK _ _ s1.o jv)
   have iL:s1.H.put (cg s1.H.o (cy s1.o (first++[V.jT s.nx]++cap)))=hp (put s1.o (cg s1.o (cy s1.o (first++[V.jT s.nx]++cap)))) s1.nx:=hZ (by rw[jY];exact eK _ _ s1.o jv)
   have CM:=zm f1 _ _ f3 (V.az f2 _ _ jv)
   have CN:((s1.H.put (cg s1.H.o (cy s1.o (first++[V.jT s.nx]++cap)))).o s.nx).bd=true:=by
    by_cases hm:s.nx∈cy s1.o (first++[V.jT s.nx]++cap)
    ·rw[f3 _ hm];simp[s1,S.H,aa.fz,aa.bd]
    ·rw[f4 _ hm];simp[s1,S.H,aa.bd]
   rw[iL]at f1 f2 CM CN
   exact fin _ (put s1.o (cg s1.o (cy s1.o (first++[V.jT s.nx]++cap)))) ⟨s.env,_,s.nx+1⟩ rfl (dh qn f1 f2 rfl fun id hu=>hu) CM CN hC
 ·exact h.elim
end
end Go.Proofs.YtpkobkdgcanmjaaGreat
