/-
  A PART OF THE PROOF. Conditions: none.
-/
import Derived.RangeFuncLeaves
import Derived.TacticsIn
import Derived.RecoverIn
import Derived.Test.YtlhemmpklhhgoaaGreatQo5
set_option linter.unusedSimpArgs false
set_option linter.unusedVariables false
namespace Go.Proofs.YtlhemmpklhhgoaaGreat
inductive R where
 |ret (ds:List D)|bN (d:D)
def R.is (B:Nat->Prop)(w:World):R->Ending->Prop
 | .ret [x], .returned v=>D.den B w x v
 | .ret ds, .returned v=>∃a,v= .tuple a/\D.aF B w ds a.toList
 | .bN d, .panicked chain=>∃v,chain=[{v:=v,recovered:=false}]/\D.den B w d v
 |_,_=>False
def Enters(P:Program)(f:FuncId):Prop:=∃fn,P.funcs[f]? =some fn/\(fn.name== "runtime.NumGoroutine")=false/\fn.body.isNone=false
def aW(P:Program)(f:FuncId)(ds:List D)(out:R):Prop:=
 Enters P f/\∀ (M:Nat->Prop) (w:World) (vals:Array Value),(∀b,M b->b<w.heap.size)->D.aF M w ds vals.toList->
  Calls P f vals w fun e w'=>eC (fun _=>False) w w'/\out.is M w' e
def hp(o:Nat->ad)(nx:Nat):Hp:=⟨o,fun id=>id<nx⟩
def nu(M:Nat->Prop)(φ:Place)(H:Hp)(w:World)(K X:V->(Nat->ad)->Nat->Prop)(e:Ending)(w':World):Prop:=
 ∃aH o' nx' v,aA M aH (hp o' nx') w'/\Trans φ H w aH (hp o' nx') w'/\match e with
  | .returned val=>V.den (ao M aH (hp o' nx')) aH (hp o' nx') w' v val/\K v o' nx'
  | .panicked ch=>∃val,ch=[{v:=val,recovered:=false}]/\V.den (ao M aH (hp o' nx')) aH (hp o' nx') w' v val/\X v o' nx'
  | .outgrown=>False
def bP(P:Program)(f:FuncId)(args:List V)(o:Nat->ad)(nx:Nat)(K X:V->(Nat->ad)->Nat->Prop):Prop:=
 Enters P f/\∀ (M:Nat->Prop) (φ:Place) (w:World) (vals:Array Value),aA M φ (hp o nx) w->V.aF (ao M φ (hp o nx)) φ (hp o nx) w args vals.toList->
  Calls P f vals w (nu M φ (hp o nx) w K X)
def dQ(P:Program)(id:Nat)(args:List V)(o:Nat->ad)(nx:Nat)(K X:V->(Nat->ad)->Nat->Prop):Prop:=
 (o id).cA=true/\∀ (M:Nat->Prop) (φ:Place) (w:World) (vals:Array Value) (b:Nat),aA M φ (hp o nx) w->V.aF (ao M φ (hp o nx)) φ (hp o nx) w args vals.toList->φ id= .pointer (some ⟨b,0,none⟩)->
  ∃f tmps assign body,(Instr.yield b vals).run P w= .ok (.round b f tmps assign body) w/\∀n,RoundIn Fence.wide n P b f tmps assign body w (nu M φ (hp o nx) w K X)
theorem nu.mono {M:Nat->Prop}{φ:Place}{H:Hp}{w:World}{K X K' X':V->(Nat->ad)->Nat->Prop}(hK:∀v o n,K v o n->K' v o n)(hX:∀v o n,X v o n->X' v o n){e:Ending}{w':World}(h:nu M φ H w K X e w'):nu M φ H w K' X' e w':=by
 obtain⟨aH,o',nx',v,h1,h2,h3⟩:=h
 refine⟨aH,o',nx',v,h1,h2, ?_⟩
 cases e with
 |returned val=>exact⟨h3.1,hK _ _ _ h3.2⟩
 |panicked ch=>obtain⟨val,a,b,c⟩:=h3;exact⟨val,a,b,hX _ _ _ c⟩
 |outgrown=>exact h3
theorem bP.mono {P:Program}{f:FuncId}{args:List V}{o:Nat->ad}{nx:Nat}{K X K' X':V->(Nat->ad)->Nat->Prop}(hK:∀v o n,K v o n->K' v o n)(hX:∀v o n,X v o n->X' v o n)(h:bP P f args o nx K X):bP P f args o nx K' X':=
 ⟨h.1,fun M φ w vals h1 h2=>(h.2 M φ w vals h1 h2).mono fun _ _ h=>h.mono hK hX⟩
theorem dQ.mono {P:Program}{id:Nat}{args:List V}{o:Nat->ad}{nx:Nat}{K X K' X':V->(Nat->ad)->Nat->Prop}(hK:∀v o n,K v o n->K' v o n)(hX:∀v o n,X v o n->X' v o n)(h:dQ P id args o nx K X):dQ P id args o nx K' X':=
 ⟨h.1,fun M φ w vals b h1 h2 h3=>let⟨f,t,a,c,h4,h5⟩:=h.2 M φ w vals b h1 h2 h3;⟨f,t,a,c,h4,fun n=>(h5 n).mono fun _ _ h=>h.mono hK hX⟩⟩
mutual
def D.flat:D->Bool
 | .sl _| .mp _ _=>false
 | .agg cs=>D.jZ cs
 | .iface _ x=>x.flat
 |_=>true
def D.jZ:List D->Bool
 |[]=>true
 |x::xs=>x.flat&&D.jZ xs
end
mutual
theorem D.qM {B B':Nat->Prop}{w w':World}:∀ (x:D) (v:Value),x.flat=true->D.den B w x v->D.den B' w' x v
 | .int _ _,_,_,h| .bool _,_,_,h| .str _,_,_,h| .eW,_,_,h| .lG,_,_,h| .cF,_,_,h| .dL,_,_,h=>h
 | .agg cs,_,hf,h=>by obtain⟨a,rfl,h,h2⟩:=h;exact⟨a,rfl,D.mi cs _ hf h,h2⟩
 | .sl es,_,hf,h=>by simp[D.flat]at hf
 | .mp _ _,_,hf,h=>by simp[D.flat]at hf
 | .iface t x,_,hf,h=>by obtain⟨u,rfl,h⟩:=h;exact⟨u,rfl,D.qM x u hf h⟩
theorem D.mi {B B':Nat->Prop}{w w':World}:∀ (xs:List D) (vs:List Value),D.jZ xs=true->D.aF B w xs vs->D.aF B' w' xs vs
 |[],_,_,h=>h
 |x::xs,_,hf,h=>by
  obtain⟨u,us,rfl,h1,h2⟩:=h
  simp only[D.jZ,Bool.and_eq_true]at hf
  exact⟨u,us,rfl,D.qM x u hf.1 h1,D.mi xs us hf.2 h2⟩
end
mutual
def D.nv:D->Bool
 | .mp _ _=>false
 | .agg cs=>D.mj cs
 | .sl es=>D.mj es
 | .iface _ x=>x.nv
 |_=>true
def D.mj:List D->Bool
 |[]=>true
 |x::xs=>x.nv&&D.mj xs
end
theorem gR.Cc {B B':Nat->Prop}{w w':World}{a:Addr}{cs:Array Value}
 (hb:∀b,qw w b-> ¬B b->w'.heap[b]? =w.heap[b]? /\ ¬B' b) (h:gR B w a cs):gR B' w' a cs:=by
 intro j u hj
 obtain⟨h1,h2⟩:=h j u hj
 have cq:qw w a.block:=by simpa using pc h1
 exact abr
mutual
theorem D.lL {B B':Nat->Prop}{w w':World}(hb:∀b,qw w b-> ¬B b->w'.heap[b]? =w.heap[b]? /\ ¬B' b):
 ∀ (x:D) (v:Value),x.nv=true->D.den B w x v->D.den B' w' x v
 | .int _ _,_,_,h| .bool _,_,_,h| .str _,_,_,h| .eW,_,_,h| .lG,_,_,h| .cF,_,_,h| .dL,_,_,h=>by simpa[D.den]using h
 | .agg cs,_,hn,h=>by
   obtain⟨a,rfl,h,hf⟩:=h
   exact⟨a,rfl,D.ny hb cs _ hn h,hf⟩
 | .sl es,_,hn,h=>by
   obtain⟨base,len,cap,rfl,h1,h2,h3,sz,h4⟩:=h
   exact⟨base,len,cap,rfl,h1,h2,h3,sz,fun a ha=>⟨(h4 a ha).1,D.qN hb sz a es 0 hn (h4 a ha).2⟩⟩
 | .iface t d,_,hn,h=>by
   obtain⟨u,rfl,h⟩:=h
   exact⟨u,rfl,D.lL hb d u hn h⟩
 | .mp _ _,_,hn,_=>by simp[D.nv]at hn
theorem D.ny {B B':Nat->Prop}{w w':World}(hb:∀b,qw w b-> ¬B b->w'.heap[b]? =w.heap[b]? /\ ¬B' b):
 ∀ (ds:List D) (vs:List Value),D.mj ds=true->D.aF B w ds vs->D.aF B' w' ds vs
 |[],_,_,h=>h
 |d::ds,_,hn,h=>by
  obtain⟨u,us,rfl,h1,h2⟩:=h
  simp only[D.mj,Bool.and_eq_true]at hn
  exact⟨u,us,rfl,D.lL hb d u hn.1 h1,D.ny hb ds us hn.2 h2⟩
theorem D.qN {B B':Nat->Prop}{w w':World}(hb:∀b,qw w b-> ¬B b->w'.heap[b]? =w.heap[b]? /\ ¬B' b)(sz:Nat)(a:Addr):
 ∀ (es:List D) (i:Nat),D.mj es=true->D.elems B w sz a i es->D.elems B' w' sz a i es
 |[],_,_,_=>trivial
 |e::es,i,hn,h=>by
  obtain⟨⟨ev,h1,h2,h3⟩,h4⟩:=h
  simp only[D.mj,Bool.and_eq_true]at hn
  exact⟨⟨ev,h1,h2.Cc hb,D.lL hb e ev hn.1 h3⟩,D.qN hb sz a es (i+1) hn.2 h4⟩
end
def R.nv:R->Bool
 | .ret ds=>D.mj ds
 | .bN d=>d.nv
def R.flat:R->Bool
 | .ret ds=>D.jZ ds
 | .bN d=>d.flat
def jf:List D->V
 |[x]=> .d x
 |ds=> .bY (ds.map .d)
inductive fK where
 |normal|exit (id:Nat)|ret|bN (v:V)
def a8(env:Nat->V)(dst:Option Tmp)(v:V):Nat->V:=
 match dst with
 |some d=>ay env d v
 |none=>env
def Ma(o:Nat->ad)(v:V):V:=match dM o v with|some x=> .d x|none=>v
def dp(o:Nat->ad):List V->List Nat
 |[]=>[]
 |v::vs=>(match dM o v with|some _=>v.ids|none=>[])++dp o vs
def pa(P:Program)(g:FuncId)(args:List V)(o:Nat->ad)(nx:Nat)(K X:V->(Nat->ad)->Nat->Prop):Prop:=
 bP P g args o nx K X\/bP P g (args.map (Ma o)) (put o (bG o (dp o args))) nx K X
def vN(P:Program)(s:S)(g:FuncId)(all:List V)(K:V->(Nat->ad)->Nat->Prop)(X:V->(Nat->ad)->Nat->Prop):Prop:=
    (∃ds out,cm s.o all=some ds/\aW P g ds out/\(match out with
     | .ret rs=>K (jf rs) (put s.o (bG s.o (V.bc all))) (s.nx+1)
     | .bN x=>X (.d x) (put s.o (bG s.o (V.bc all))) (s.nx+1)))\/
    (∃ds out,cm s.o all=some ds/\aW P g ds out/\out.flat=true/\(match out with
     | .ret rs=>K (jf rs) s.o (s.nx+1)
     | .bN x=>X (.d x) s.o (s.nx+1)))\/
    (∃ds out,cm s.o all=some ds/\aW P g ds out/\out.nv=true/\(match out with
     | .ret rs=>K (jf rs) (put s.o (ss s.o (V.bc all))) (s.nx+1)
     | .bN x=>X (.d x) (put s.o (ss s.o (V.bc all))) (s.nx+1)))\/
    pa P g all s.o s.nx K X
def Cz(P:Program)(s:S)(f:V)(args:List V)(K:V->(Nat->ad)->Nat->Prop)(X:V->(Nat->ad)->Nat->Prop):Prop:=
 match f with
 | .func (.func g) first cap=>vN P s g (first++args++cap) K X
 | .kH id=>dQ P id args s.o s.nx K X
 |_=>False
def Tu(P:Program)(t:TypeId):Bool:=
 match P.underlying t with
 |some (.pointer _)=>false
 |some _=>true
 |none=>false
def vO(P:Program)(m:String)(x:V):Option (FuncId×V):=
 match x with
 | .d (.iface t y)=>match P.info? t with
   |some ti=>match ti.methods.find? (·.name==m)with
    |some r=>match r.func with
     |some (f,false)=>if r.path.isEmpty=true/\Tu P t=true then some (f, .d y)else none
     |_=>none
    |none=>none
   |none=>none
 |_=>none
def gS(n:Nat):Option Tmp->Prop
 |some d=>d<n
 |none=>True
def opW(P:Program)(n:Nat)(s:S)(o:Oper)(X:V->S->Prop)(K:S->Prop):Prop:=
 gS n o.dst/\match o.op with
 | .call c=>match c.callee with
   | .value f=>Cz P s (s.ev f) (c.args.toList.map s.ev) (fun v o' nx'=>K ⟨a8 s.env o.dst v,o',nx'⟩) (fun v o' nx'=>X v ⟨s.env,o',nx'⟩)
   | .invoke r m=>match vO P m (s.ev r)with
     |some (g,y)=>vN P s g (y::c.args.toList.map s.ev) (fun v o' nx'=>K ⟨a8 s.env o.dst v,o',nx'⟩) (fun v o' nx'=>X v ⟨s.env,o',nx'⟩)
     |none=>False
   |_=>Th P s s.nx o.op fun v Δ _=>K ⟨a8 s.env o.dst v,put s.o Δ,s.nx+1⟩
 | .panic x=>match s.ev x with
   | .d (.iface t y)=>X (.d (.iface t y)) s
   | .iface t y=>X (.iface t y) s
   |_=>False
 |op=>Th P s s.nx op fun v Δ _=>K ⟨a8 s.env o.dst v,put s.o Δ,s.nx+1⟩
def Ao(s:S)(ops:Array Oper)(g:Option (Nat×Bool))(A B:Prop):Prop:=
 match g with
 |none=>A
 |some (j,want)=>match tz ops j with
  |some d=>match s.env d with
   | .d (.bool b)=>(b=want->A)/\(b≠want->B)
   | .bY []=>B
   |_=>False
  |none=>B
def Ap(P:Program)(n:Nat)(ops:Array Oper)(X:V->S->Prop)(K:S->Prop):List Oper->S->Prop
 |[],s=>K s
 |o::l,s=>Ao s ops o.guard (opW P n s o X (Ap P n ops X K l)) (gS n o.dst/\Ap P n ops X K l ⟨a8 s.env o.dst (.bY []),s.o,s.nx+1⟩)
def bL(b:Nat)(s s':S):Prop:=
 ∀ (M:Nat->Prop) (φ:Place) (w:World) (tm:Nat->Value),aA M φ s.H w->(∀i,V.den (ao M φ s.H) φ s.H w (s.env i) (tm i))->
   ∃aH,aA M aH s'.H w/\(∀i,V.den (ao M aH s'.H) aH s'.H w (s'.env i) (tm i))/\(∀k,cI aH s'.H k->cI φ s.H k)/\b<=s'.nx/\
    (∀id,id<b->(s'.o id).cA=true->(s.o id).cA=true/\aH id=φ id)/\
    (∀id e',id<b->(s'.o id).cz=some e'->∃e,(s.o id).cz=some e/\e<=e'/\(e=e'->aH id=φ id))
def qO(K:S->Prop)(Q:fK->S->Prop)(e:fK)(s:S):Prop:=match e with| .normal=>K s|e=>Q e s
def fL(id:Nat)(Q:fK->S->Prop)(e:fK)(s:S):Prop:=match e with| .exit j=>if j=id then Q .normal s else Q (.exit j) s|e=>Q e s
def mm(P:Program)(s:S):List ResultVar->Option (List V)
 |[]=>some []
 | .tmp t::rs=>(mm P s rs).map (s.env t::·)
 | .cell a t::rs=>match s.env a with
   | .ptr id off=>match s.o id with
     | .row cs=>(eX P t cs off).bind fun v=>(mm P s rs).map (v::·)
     |_=>none
   |_=>none
def cC(vs:List V):Nat->V:=fun i=>vs.getD i (.bY [])
def Aq(P:Program)(rs:List ResultVar)(out:R)(e:fK)(s:S):Prop:=
 match e with
 | .normal| .ret=>match mm P s rs with
   |some vs=>match cm s.o vs with
    |some ds=>out= .ret ds
    |none=>False
   |none=>False
 | .bN v=>match dM s.o v with
   |some x=>out= .bN x
   |none=>False
 | .exit _=>False
theorem Mb{P:Program}{rs:List ResultVar}{out:R}{s:S}(h:match mm P s rs with
 |some vs=>match cm s.o vs with
  |some ds=>out= .ret ds
  |none=>False
 |none=>False):∃vs ds,mm P s rs=some vs/\cm s.o vs=some ds/\out= .ret ds:=by
 split at h
 ·rename_i vs h1
  split at h
  ·rename_i xs h2;exact⟨vs,xs,h1,h2,h⟩
  ·exact h.elim
 ·exact h.elim
theorem Mc{out:R}{s:S}{v:V}(h:match dM s.o v with
 |some x=>out= .bN x
 |none=>False):∃x,dM s.o v=some x/\out= .bN x:=by
 split at h
 ·rename_i x h1;exact⟨x,h1,h⟩
 ·exact h.elim
section
section
variable {P:Program}{M:Nat->Prop}{φ:Place}{H:Hp}{w w':World}
def ad.lM:ad->Bool
 | .arr .. =>true
 |_=>false
theorem PZ(o:Nat->ad)(ids:List Nat):ss o ids=bG o (ids.filter fun id=>(o id).lM):=by
 induction ids with
 |nil=>rfl
 |cons id ids ih=>
  unfold ss at ih|-
  simp only[List.filterMap_cons,List.filter_cons]
  cases hx:o id with
  |arr ep ty sz es=>
   have e:(ad.arr ep ty sz es).lM=true:=rfl
   rw[e,if_pos rfl,ih]
   simp only[bG,List.map_cons,hx]
  |_=>exact ih
theorem kG(hH:aA M φ H w){us':Nat->Prop}(h:∀id,H.us id->us' id):aA M φ ⟨H.o,us'⟩ w/\Trans φ H w φ ⟨H.o,us'⟩ w:=by
 have ht:Trans φ H w φ ⟨H.o,us'⟩ w:=⟨eC.refl _ _,fun b hb=> .inl hb,⟨h,fun id _ hr=>⟨hr,rfl⟩,fun id e' _ he=>⟨e',he,Nat.le_refl _,fun _=>rfl⟩⟩⟩
 exact⟨hH.of ht (fun _=>False) (fun _ h=>h.elim) (fun id _=>⟨rfl,rfl,fun _ _ _=>rfl⟩) (fun id hn=>hH.fresh id fun hu=>hn (h id hu)) hH.apart (fun b hb=>(hH.ours b hb).2),ht⟩
theorem gB(hH:aA M φ H w)(hk:eC (fun _=>False) w w'):aA M φ H w'/\Trans φ H w φ H w':=by
 have ht:Trans φ H w φ H w':=⟨⟨hk.os,hk.tape,hk.output,hk.size,fun k h _=>hk.block k h fun h=>h⟩,fun b hb=> .inl hb,ef.refl _ _⟩
 exact⟨hH.of ht (fun _=>False) (fun _ h=>h.elim) (fun id _=>⟨rfl,rfl,fun hl b hb=>hk.block b (hH.ours b ⟨id,hl,hb⟩).2 fun h=>h⟩) hH.fresh hH.apart (fun b hb=>Nat.lt_of_lt_of_le (hH.ours b hb).2 hk.size),ht⟩
theorem lN{Δ:List (Nat×ad)}(h:∀id∈Δ.map (·.1),H.us id):H.put Δ=⟨put H.o Δ,H.us⟩:=by
 unfold Hp.put
 congr 1
 funext id
 simp only[eq_iff_iff]
 exact⟨fun h'=>h'.elim (fun h=>h) (h id), .inl⟩
theorem uG(o:Nat->ad)(ids:List Nat):(bG o ids).map (·.1)=ids:=by
 rw[mg];simp[Function.comp_def]
structure Cx where
 base:List Deferred
 rd:Bool
def dW(ro:Option Nat):Fence:={fn:=fun _=>True,depth:=none,alive:=false,round:=ro}
def mark(r:Nat):Deferred:={target:= .collected r,args:=#[]}
def vP(cx:Cx)(w0:World)(φ:Place)(H:Hp)(w:World)(ds:List Deferred):Prop:=
 ∃ms:List Nat,ds=ms.map mark++cx.base/\ms.Nodup/\(cx.rd=true->ms=[])/\∀r∈ms,w0.heap.size<=r/\w.heap[r]? =some (.deferred (some []))/\ ¬cI φ H r
theorem vP.mono {cx:Cx}{w0:World}{φ aH:Place}{H H':Hp}{w w':World}{ds:List Deferred}(ht:Trans φ H w aH H' w')(h:vP cx w0 φ H w ds):vP cx w0 aH H' w' ds:=by
 obtain⟨ms,h1,h2,h3,h4⟩:=h
 refine⟨ms,h1,h2,h3,fun r hr=> ?_⟩
 obtain⟨g1,g2,g3⟩:=h4 r hr
 have cq:r<w.heap.size:=by
  rcases Nat.lt_or_ge r w.heap.size with hl|hl
  ·exact hl
  ·rw[Array.getElem?_eq_none hl]at g2;cases g2
 refine⟨g1,(ht.cL.block r cq g3).trans g2,fun hl=> ?_⟩
 rcases ht.grow r hl with h|h
 ·exact g3 h
 ·omega
structure cn (M:Nat->Prop) (cP:Place) (H0:Hp) (w0:World) (n:Nat) (cx:Cx) (φ:Place) (s:S) (a:Act) (w:World):Prop where
 heap:aA M φ s.H w
 tr:Trans cP H0 w0 φ s.H w
 size:a.tmps.size=n
 defers:vP cx w0 φ s.H w a.defers
 env:∀i,V.den (ao M φ s.H) φ s.H w (s.env i) (a.tmps.getD i undef)
variable {cP:Place}{H0:Hp}{w0:World}{n:Nat}{s:S}{a:Act}{cx:Cx}{ro:Option Nat}{k:Nat}
theorem dn{f:FuncId}{args:Array Value}{R:Ending->World->Prop}(h:Calls P f args w R):CallsIn (dW ro) k P f args w R:=
 ⟨trivial,fun cs _=>let⟨e,w',fr,r,s,x⟩:=h cs;⟨e,w',fr,r,comesIn_wide.2 s,x⟩⟩
theorem CA{f:FuncId}{args:Array Value}{R:Ending->World->Prop}(h:CallsIn (dW ro) k P f args w R):Calls P f args w R:=
 fun cs=>let⟨e,w',fr,r,s,x⟩:=h.2 cs (fun _ h=>by simp[dW]at h);⟨e,w',fr,r,comesIn_wide.1 s,x⟩
theorem kN{o:Oper}{next:Act->World->Prop}{Q:Exit->Act->World->Prop}(Ar:∀c,o.op≠ .defer c)(h:o.uponIn (dW ro) k P a next Q ((execOp a.eval o).run P w)):o.wpIn (dW ro) k P a w next Q:=
 ⟨fun _ _=>trivial,by rw[Oper.semAt_eq _ _ _ Ar];exact h⟩
theorem ox(hs:cn M cP H0 w0 n cx φ s a w){aH:Place}{H':Hp}(hH:aA M aH H' w')(ht:Trans φ s.H w aH H' w'){v:V}{val:Value}(hd:V.den (ao M aH H') aH H' w' v val){dst:Option Tmp}(db:gS n dst)
 {o':Nat->ad} {nx':Nat} (ho:H'.o=o') (hu:∀id,H'.us id->id<nx'):cn M cP H0 w0 n cx aH ⟨a8 s.env dst v,o',nx'⟩ (a.put dst val) w':=by
 obtain⟨k1,k2⟩:=kG hH hu
 subst ho
 refine⟨k1,hs.tr.trans (ht.trans k2), ?_, ?_,fun i=> ?_⟩
 ·cases dst<;>simp[Act.put,hs.size]
 ·have:=hs.defers.mono (ht.trans k2);cases dst<;>exact this
 ·cases dst with
  |none=>exact PC
  |some d=>
   simp only[gS]at db
   simp only[a8,aN,Act.put]
   by_cases hi:i=d
   ·subst hi
    have h1:(a.tmps.setIfInBounds i val).getD i undef=val:=by simp[Array.getD,hs.size,db]
    rw[if_pos rfl,h1]
    exact V.aU k2 _ _ hd
   ·have h1:(a.tmps.setIfInBounds d val).getD i undef=a.tmps.getD i undef:=by
     exact VW
    rw[if_neg hi,h1]
    exact PC
theorem eU(hs:cn M cP H0 w0 n cx φ s a w){aH:Place}{H':Hp}(hH:aA M aH H' w')(ht:Trans φ s.H w aH H' w'){o':Nat->ad}{nx':Nat}(ho:H'.o=o')(hu:∀id,H'.us id->id<nx'):
 cn M cP H0 w0 n cx aH ⟨s.env,o',nx'⟩ a w':=by
 obtain⟨k1,k2⟩:=kG hH hu
 subst ho
 exact⟨k1,hs.tr.trans (ht.trans k2),hs.size,hs.defers.mono (ht.trans k2),fun i=>V.aU (ht.trans k2) _ _ (hs.env i)⟩
theorem Md{Δ:List (Nat×ad)}(h:∀id∈Δ.map (·.1),s.H.us id\/id=s.nx)(id:Nat)(hu:(s.H.put Δ).us id):id<s.nx+1:=by
 rcases hu with hu|hu
 ·exact Nat.lt_succ_of_lt hu
 ·rcases h id hu with h|h
  ·exact Nat.lt_succ_of_lt h
  ·omega
variable {next:Act->World->Prop}{Q:Exit->Act->World->Prop}{X:V->S->Prop}{K:S->Prop}
theorem Me(hs:cn M cP H0 w0 n cx φ s a w){o:Oper}{op:Op}(gy:o.op=op)(db:gS n o.dst)(h:Th P s s.nx op fun v Δ _=>K ⟨a8 s.env o.dst v,put s.o Δ,s.nx+1⟩)
 (hN:∀s' aH a' w',K s'->cn M cP H0 w0 n cx aH s' a' w'->next a' w'):o.wpIn (dW ro) k P a w next Q:=by
 obtain⟨nx,val,w',aH,v,Δ,rd,hK,hr,uq,g1,g2,g3,g4⟩:=yK hs.heap (s:=s) rfl hs.env (fr:=s.nx) (by simp[S.H]) gy h
 have ur:=ox hs g1 g2 g3 db (o':=put s.o Δ) (nx':=s.nx+1) rfl (Md g4)
 refine kN (fun c hc=>by rw[gy]at hc;subst hc;exact h) ?_
 rw[hr]
 rcases uq with rfl|⟨rfl,rfl⟩
 ·exact hN _ _ _ _ hK ur
 ·exact hN _ _ _ _ hK ur
theorem V.qs {B:Nat->Prop}{ct bs cs:List V}{u v x:List Value}(h1:V.aF B φ H w ct u)(h2:V.aF B φ H w bs v)(h3:V.aF B φ H w cs x):V.aF B φ H w (ct++bs++cs) (u++v++x):=
 V.bu _ _ _ _ (V.bu _ _ _ _ h1 h2) h3
theorem lO{f:FuncId}(h:Enters P f)(args:Array Value):(callFunc f args).run P w= .ok (.enter f args) w:=by
 obtain⟨fn,h1,h2,h3⟩:=h
 have mR:fn.name≠ "runtime.NumGoroutine" :=by simpa using h2
 have kF:fn.body≠none:=fun h=>by rw[h]at h3;cases h3
 simp[callFunc,h1,mR,kF]
theorem m9:∀ {rs:List D} {val:Value},R.is (ao M φ H) w (.ret rs) (.returned val)->V.den (ao M φ H) φ H w (jf rs) val
 |[],_,h=>by obtain⟨arr,rfl,h⟩:=h;exact⟨arr,rfl,h⟩
 |[x],_,h=>h
 |x::y::l,_,h=>by obtain⟨arr,rfl,h⟩:=h;exact⟨arr,rfl,(V.cM (x::y::l) _).2 h⟩
theorem R.As {B B':Nat->Prop}:∀ {out:R} {e:Ending},out.flat=true->out.is B w e->out.is B' w e
 | .ret [], .returned _,_,h=>by obtain⟨arr,rfl,h⟩:=h;exact⟨arr,rfl,h⟩
 | .ret [x], .returned _,hf,h=>by
   simp only[R.flat,D.jZ,Bool.and_true]at hf
   exact D.qM x _ hf h
 | .ret (x::y::l), .returned _,hf,h=>by obtain⟨arr,rfl,h⟩:=h;exact⟨arr,rfl,D.mi (x::y::l) _ hf h⟩
 | .bN d, .panicked _,hf,h=>by obtain⟨v,rfl,h⟩:=h;exact⟨v,rfl,D.qM d v hf h⟩
 | .ret [], .panicked _,_,h| .ret [_], .panicked _,_,h| .ret (_::_::_), .panicked _,_,h| .ret [], .outgrown,_,h| .ret [_], .outgrown,_,h| .ret (_::_::_), .outgrown,_,h| .bN _, .returned _,_,h| .bN _, .outgrown,_,h=>h.elim
theorem R.Mf {B B':Nat->Prop}{w':World}(hb:∀b,qw w' b-> ¬B b-> ¬B' b):∀ {out:R} {e:Ending},out.nv=true->out.is B w' e->out.is B' w' e
 | .ret [], .returned _,_,h=>by obtain⟨arr,rfl,h⟩:=h;exact⟨arr,rfl,h⟩
 | .ret [x], .returned _,hf,h=>by
   simp only[R.nv,D.mj,Bool.and_true]at hf
   exact D.lL (fun b hc hn=>⟨rfl,hb b hc hn⟩) x _ hf h
 | .ret (x::y::l), .returned _,hf,h=>by obtain⟨arr,rfl,h⟩:=h;exact⟨arr,rfl,D.ny (fun b hc hn=>⟨rfl,hb b hc hn⟩) (x::y::l) _ hf h⟩
 | .bN d, .panicked _,hf,h=>by obtain⟨v,rfl,h⟩:=h;exact⟨v,rfl,D.lL (fun b hc hn=>⟨rfl,hb b hc hn⟩) d v hf h⟩
 | .ret [], .panicked _,_,h| .ret [_], .panicked _,_,h| .ret (_::_::_), .panicked _,_,h| .ret [], .outgrown,_,h| .ret [_], .outgrown,_,h| .ret (_::_::_), .outgrown,_,h| .bN _, .returned _,_,h| .bN _, .outgrown,_,h=>h.elim
theorem Mg(hH:aA M φ H w){o:Nat->ad}:∀ (vs:List V) (vals:List Value),(∀id∈dp o vs,H.o id=(o id).fz)->V.aF (ao M φ H) φ H w vs vals->V.aF (ao M φ H) φ H w (vs.map (Ma o)) vals
 |[],_,_,h=>h
 |v::vs,_,ho,h=>by
  obtain⟨u,us,rfl,h1,h2⟩:=h
  refine⟨u,us,rfl, ?_,Mg hH vs us (fun id aw=>ho id (by simp[dp,aw])) h2⟩
  unfold Ma
  split
  ·rename_i x hx
   exact eN hH v x u (fun id aw=>ho id (by simp[dp,hx,aw])) hx h1
  ·exact h1
theorem gU:∀ (vs:List V) (vals:List Value) (o:Nat->ad),V.aF (ao M φ H) φ H w vs vals->∀id∈dp o vs,H.us id
 |[],_,_,_,j,hj=>by simp[dp]at hj
 |v::vs,_,o,h,j,hj=>by
  obtain⟨u,us,rfl,h1,h2⟩:=h
  simp only[dp,List.mem_append]at hj
  rcases hj with hj|hj
  ·cases hx:dM o v with
   |none=>simp[hx]at hj
   |some x=>simp only[hx]at hj;exact cS v u h1 j hj
  ·exact gU vs us o h2 j hj
theorem yL(hs:cn M cP H0 w0 n cx φ s a w){o:Oper}{g:FuncId}{all:List V}{vals:Array Value}(db:gS n o.dst)(fw:Enters P g->(execOp a.eval o).run P w= .ok (.enter g vals) w)(ba:V.aF (ao M φ s.H) φ s.H w all vals.toList)
 (h:bP P g all s.o s.nx (fun v o' nx'=>K ⟨a8 s.env o.dst v,o',nx'⟩) (fun v o' nx'=>X v ⟨s.env,o',nx'⟩))
 (hN:∀s' aH a' w',K s'->cn M cP H0 w0 n cx aH s' a' w'->next a' w')
 (hQ:∀v s' aH w' val,X v s'->cn M cP H0 w0 n cx aH s' a w'->V.den (ao M aH s'.H) aH s'.H w' v val->Q (.panic [{v:=val,recovered:=false}]) a w'):o.uponIn (dW ro) k P a next Q ((execOp a.eval o).run P w):=by
 have fe:=h.2 M φ w vals hs.heap ba
 rw[fw h.1]
 refine⟨fun hd=>by simp[dW]at hd,dn (fe.mono fun e w' ⟨aH,o',nx',v,k1,k2,k3⟩=> ?_)⟩
 cases e with
 |returned val=>exact Sz
 |panicked ch=>
  obtain⟨val,rfl,k4,k5⟩:=k3
  exact aa2
 |outgrown=>exact k3.elim
theorem CB(hs:cn M cP H0 w0 n cx φ s a w){o:Oper}{g:FuncId}{all:List V}{vals:Array Value}(db:gS n o.dst)(fw:Enters P g->(execOp a.eval o).run P w= .ok (.enter g vals) w)(ba:V.aF (ao M φ s.H) φ s.H w all vals.toList)
 (h:vN P s g all (fun v o' nx'=>K ⟨a8 s.env o.dst v,o',nx'⟩) (fun v o' nx'=>X v ⟨s.env,o',nx'⟩))
 (hN:∀s' aH a' w',K s'->cn M cP H0 w0 n cx aH s' a' w'->next a' w')
 (hQ:∀v s' aH w' val,X v s'->cn M cP H0 w0 n cx aH s' a w'->V.den (ao M aH s'.H) aH s'.H w' v val->Q (.panic [{v:=val,recovered:=false}]) a w'):o.uponIn (dW ro) k P a next Q ((execOp a.eval o).run P w):=by
 unfold vN at h
 obtain⟨f1,f2,f3,f4,f5⟩:=cY hs.heap (V.bc all) (df all _ ba)
 have fA:s.H.put (bG s.H.o (V.bc all))=⟨put s.o (bG s.o (V.bc all)),s.H.us⟩:=lN Lp
 have nz:=V.aV f2 _ _ ba
 rcases h with⟨ds,out,fj,hP,hK⟩|⟨ds,out,fj,hP,oV,hK⟩|⟨ds,out,fj,hP,BH,hK⟩|hC|hC
 ·have yA:=dA f1 all ds _ f3 fj nz
  have hM:∀b,ao M φ (s.H.put (bG s.H.o (V.bc all))) b->b<w.heap.size:=fun b hb=>hb.elim (f1.BD b) fun hl=>(f1.ours b hl).2
  have fe:=hP.2 _ w vals hM yA
  rw[fw hP.1]
  refine⟨fun hd=>by simp[dW]at hd,dn (fe.mono fun e w' ⟨hk,ho⟩=> ?_)⟩
  obtain⟨k1,k2⟩:=gB f1 hk
  cases out with
  |ret rs=>
   cases e with
   |returned val=>
    refine hN _ _ _ _ hK (ox hs k1 (f2.trans k2) (m9 ho) db (by rw[fA]) ?_)
    intro id hu;rw[fA]at hu;exact Nat.lt_succ_of_lt hu
   |panicked ch=>exact xE
   |outgrown=>exact xE
  |bN x=>
   cases e with
   |returned val=>exact ho.elim
   |panicked ch=>
    obtain⟨val,rfl,hd⟩:=ho
    have ur:=eU hs k1 (f2.trans k2) (o':=put s.o (bG s.o (V.bc all))) (nx':=s.nx+1) (by rw[fA]) (fun id hu=>by rw[fA]at hu;exact Nat.lt_succ_of_lt hu)
    refine hQ _ _ _ _ val hK ur ?_
    have e1:ao M φ (S.H ⟨s.env,put s.o (bG s.o (V.bc all)),s.nx+1⟩)=ao M φ (s.H.put (bG s.H.o (V.bc all))):=by rw[fA];rfl
    simp only[V.den]
    rw[e1];exact hd
   |outgrown=>exact ho.elim
 ·have yA:=dA f1 all ds _ f3 fj nz
  have hM:∀b,ao M φ (s.H.put (bG s.H.o (V.bc all))) b->b<w.heap.size:=fun b hb=>hb.elim (f1.BD b) fun hl=>(f1.ours b hl).2
  have fe:=hP.2 _ w vals hM yA
  rw[fw hP.1]
  refine⟨fun hd=>by simp[dW]at hd,dn (fe.mono fun e w' ⟨hk,ho⟩=> ?_)⟩
  obtain⟨k1,k2⟩:=gB hs.heap hk
  have ho:=R.As (B':=ao M φ s.H) oV ho
  cases out with
  |ret rs=>
   cases e with
   |returned val=>
    exact hN _ _ _ _ hK (ox hs k1 k2 (m9 ho) db rfl fun id hu=>Nat.lt_succ_of_lt hu)
   |panicked ch=>exact xE
   |outgrown=>exact xE
  |bN x=>
   cases e with
   |returned val=>exact ho.elim
   |panicked ch=>
    obtain⟨val,rfl,hd⟩:=ho
    exact hQ _ _ _ _ val hK (eU hs k1 k2 (o':=s.o) (nx':=s.nx+1) rfl fun id hu=>Nat.lt_succ_of_lt hu) hd
   |outgrown=>exact ho.elim
 ·obtain⟨a1,a2,a3,a4,a5⟩:=cY hs.heap ((V.bc all).filter fun id=>(s.o id).lM) (fun id aw=>df all _ ba id (List.mem_filter.1 aw).1)
  have CC:s.H.put (bG s.H.o ((V.bc all).filter fun id=>(s.o id).lM))=⟨put s.o (ss s.o (V.bc all)),s.H.us⟩:=by
   rw[PZ]
   exact lN (by rw[uG];exact fun id aw=>df all _ ba id (List.mem_filter.1 aw).1)
  have yA:=dA f1 all ds _ f3 fj nz
  have hM:∀b,ao M φ (s.H.put (bG s.H.o (V.bc all))) b->b<w.heap.size:=fun b hb=>hb.elim (f1.BD b) fun hl=>(f1.ours b hl).2
  have fe:=hP.2 _ w vals hM yA
  rw[fw hP.1]
  refine⟨fun hd=>by simp[dW]at hd,dn (fe.mono fun e w' ⟨hk,ho⟩=> ?_)⟩
  obtain⟨k1,k2⟩:=gB a1 hk
  have ug:∀b,qw w' b-> ¬ao M φ (s.H.put (bG s.H.o (V.bc all))) b-> ¬ao M φ (s.H.put (bG s.H.o ((V.bc all).filter fun id=>(s.o id).lM))) b:=by
   intro b hc hn hm
   rcases hm with hM|⟨id,hl,hb⟩
   ·exact hn (.inl hM)
   ·by_cases aw:id∈V.bc all
    ·cases hx:s.H.o id with
     |arr ep ty sz es=>
      rw[a3 id (List.mem_filter.2 ⟨aw,by show(s.H.o id).lM=true;rw[hx];rfl⟩),hx]at hl
      cases hl
     |map kt vt l=>
      have kx:id∉(V.bc all).filter fun id=>(s.o id).lM:=fun h=>by
       have h2:(s.H.o id).lM=true:=(List.mem_filter.1 h).2
       rw[hx]at h2;cases h2
      have aY:=k1.ok id
      unfold aS at aY
      rw[a4 id kx,hx]at aY
      obtain⟨b',es,clock,g1,g2,_⟩:=aY
      rw[g1]at hb
      injection hb with hb
      subst hb
      obtain⟨cs,ty,fz,hc⟩:=hc
      rw[g2]at hc
      cases hc
     |_=>
      have kx:id∉(V.bc all).filter fun id=>(s.o id).lM:=fun h=>by
       have h2:(s.H.o id).lM=true:=(List.mem_filter.1 h).2
       rw[hx]at h2;cases h2
      refine hn (.inr ⟨id, ?_,hb⟩)
      rw[a4 id kx,hx]at hl
      rw[f3 id aw,hx]
      exact hl
    ·have kx:id∉(V.bc all).filter fun id=>(s.o id).lM:=fun h=>aw (List.mem_filter.1 h).1
     refine hn (.inr ⟨id, ?_,hb⟩)
     rw[a4 id kx]at hl
     rw[f4 id aw]
     exact hl
  have ho:=R.Mf (w':=w') (B':=ao M φ (s.H.put (bG s.H.o ((V.bc all).filter fun id=>(s.o id).lM)))) ug BH ho
  cases out with
  |ret rs=>
   cases e with
   |returned val=>
    refine hN _ _ _ _ hK (ox hs k1 (a2.trans k2) (m9 ho) db (by rw[CC]) ?_)
    intro id hu;rw[CC]at hu;exact Nat.lt_succ_of_lt hu
   |panicked ch=>exact xE
   |outgrown=>exact xE
  |bN x=>
   cases e with
   |returned val=>exact ho.elim
   |panicked ch=>
    obtain⟨val,rfl,hd⟩:=ho
    have ur:=eU hs k1 (a2.trans k2) (o':=put s.o (ss s.o (V.bc all))) (nx':=s.nx+1) (by rw[CC]) (fun id hu=>by rw[CC]at hu;exact Nat.lt_succ_of_lt hu)
    refine hQ _ _ _ _ val hK ur ?_
    have e1:ao M φ (S.H ⟨s.env,put s.o (ss s.o (V.bc all)),s.nx+1⟩)=ao M φ (s.H.put (bG s.H.o ((V.bc all).filter fun id=>(s.o id).lM))):=by rw[CC];rfl
    simp only[V.den]
    rw[e1];exact hd
   |outgrown=>exact ho.elim
 ·exact yL hs db fw ba hC hN hQ
 ·obtain⟨f1,f2,f3,f4,f5⟩:=cY hs.heap (dp s.o all) (gU all _ s.o ba)
  have fA:s.H.put (bG s.H.o (dp s.o all))=hp (put s.o (bG s.o (dp s.o all))) s.nx:=lN (by rw[uG];exact gU all _ s.o ba)
  have nz:=Mg f1 all _ f3 (V.aV f2 _ _ ba)
  rw[fA]at f1 f2 nz
  exact yL (s:=⟨s.env,put s.o (bG s.o (dp s.o all)),s.nx⟩) (eU hs f1 f2 rfl fun id hu=>hu) db fw nz hC hN hQ
theorem P9(hs:cn M cP H0 w0 n cx φ s a w){o:Oper}{c:Call}{f:Operand}(gy:o.op= .call c)(hc:c.callee= .value f)(db:gS n o.dst)
 (h:Cz P s (s.ev f) (c.args.toList.map s.ev) (fun v o' nx'=>K ⟨a8 s.env o.dst v,o',nx'⟩) (fun v o' nx'=>X v ⟨s.env,o',nx'⟩))
 (hN:∀s' aH a' w',K s'->cn M cP H0 w0 n cx aH s' a' w'->next a' w')
 (hQ:∀v s' aH w' val,X v s'->cn M cP H0 w0 n cx aH s' a w'->V.den (ao M aH s'.H) aH s'.H w' v val->Q (.panic [{v:=val,recovered:=false}]) a w'):o.wpIn (dW ro) k P a w next Q:=by
 refine kN (fun c' yM=>by rw[gy]at yM;cases yM) ?_
 have hf:=nk (M:=M) (φ:=φ) (H:=s.H) (w:=w) s a hs.env f
 have dE:=kJ (M:=M) (φ:=φ) (H:=s.H) (w:=w) s a hs.env c.args.toList
 unfold Cz at h
 split at h
 ·rename_i g first cap xG
  rw[xG]at hf
  obtain⟨fa,ca,Wc,GK,hca⟩:=hf
  have ba:V.aF (ao M φ s.H) φ s.H w (first++c.args.toList.map s.ev++cap) (fa++c.args.map a.eval++ca).toList:=by
   exact SO
  generalize first++c.args.toList.map s.ev++cap=all at h ba
  generalize lE:fa++c.args.map a.eval++ca=vals at ba
  have fw:Enters P g->(execOp a.eval o).run P w= .ok (.enter g vals) w:=by
   intro he
   have:=lO (w:=w) he (fa++c.args.map a.eval++ca)
   rw[lE]at this
   simp[execOp,gy,resolve,hc,Wc,Deferred.ofValue,invoke,this,lE]
  exact CB hs db fw ba h hN hQ
 ·rename_i id xG
  rw[xG]at hf
  obtain⟨_,ec,hp'⟩:=hf
  obtain⟨c8,hR⟩:=h
  obtain⟨b,eT,Wc⟩:=hp' c8
  obtain⟨fn,tmps,assign,body,h1,h2⟩:=hR M φ w (c.args.map a.eval) b hs.heap (by rw[Array.toList_map];exact dE) eT
  have fw:(execOp a.eval o).run P w= .ok (.round b fn tmps assign body) w:=by
   simp[execOp,gy,resolve,hc,Wc,Deferred.ofValue,invoke,h1]
  rw[fw]
  refine⟨fun hd=>by simp[dW]at hd,RoundIn.mono (h2 (k - 1)) fun e w' ⟨aH,o',nx',v,k1,k2,k3⟩=> ?_⟩
  cases e with
  |returned val=>exact Sz
  |panicked ch=>
   obtain⟨val,rfl,k4,k5⟩:=k3
   exact aa2
  |outgrown=>exact k3.elim
 ·exact h.elim
theorem Jr(hs:cn M cP H0 w0 n cx φ s a w){o:Oper}{c:Call}{r:Operand}{m:String}{g:FuncId}{y:V}(gy:o.op= .call c)(hc:c.callee= .invoke r m)(db:gS n o.dst)(hr:vO P m (s.ev r)=some (g,y))
 (h:vN P s g (y::c.args.toList.map s.ev) (fun v o' nx'=>K ⟨a8 s.env o.dst v,o',nx'⟩) (fun v o' nx'=>X v ⟨s.env,o',nx'⟩))
 (hN:∀s' aH a' w',K s'->cn M cP H0 w0 n cx aH s' a' w'->next a' w')
 (hQ:∀v s' aH w' val,X v s'->cn M cP H0 w0 n cx aH s' a w'->V.den (ao M aH s'.H) aH s'.H w' v val->Q (.panic [{v:=val,recovered:=false}]) a w'):o.wpIn (dW ro) k P a w next Q:=by
 refine kN (fun c' yM=>by rw[gy]at yM;cases yM) ?_
 have hf:=nk (M:=M) (φ:=φ) (H:=s.H) (w:=w) s a hs.env r
 have dE:=kJ (M:=M) (φ:=φ) (H:=s.H) (w:=w) s a hs.env c.args.toList
 unfold vO at hr
 split at hr
 ·rename_i t d hx
  rw[hx]at hf
  obtain⟨val,hv,hd⟩:=hf
  split at hr
  ·rename_i ti hti
   split at hr
   ·rename_i mr uM
    split at hr
    ·rename_i f Kx
     split at hr
     ·rename_i Tv
      injection hr with hr
      injection hr with h1 h2
      subst h1;subst h2
      refine CB (vals:=#[val]++c.args.map a.eval) hs db ?_ ?_ h hN hQ
      ·intro he
       have fw:=lO (w:=w) he (#[val]++c.args.map a.eval)
       have hpa:mr.path=#[]:=Array.isEmpty_iff.1 Tv.1
       have hu:∃u,P.underlying t=some u/\∀e,u≠ .pointer e:=by
        have:=Tv.2
        unfold Tu at this
        split at this
        ·cases this
        ·rename_i u iu hu;exact⟨u,hu,fun e he=>iu e he⟩
        ·cases this
       obtain⟨u,hu,Tw⟩:=hu
       have hm:(method (P.types.size+Made.depth) t val m).run P w= .ok (f,val) w:=by
        have:P.types.size+Made.depth=(P.types.size+Made.depth - 1)+1:=by simp[Made.depth]
        rw[this]
        cases u<;>first|exact absurd rfl (Tw _)|simp[method,typeInfo,hti,uM,hpa,Kx,follow,receiverAt,run_underlying hu,_root_.Go.Place.get]
       have h0:(#[Value.iface t val]++Array.map a.eval c.args)[0]? =some (.iface t val):=by
        rw[Array.getElem?_append_left (by simp)];rfl
       have h1:(Array.map a.eval c.args).extract 0 c.args.size=Array.map a.eval c.args:=by
        rw[show c.args.size=(Array.map a.eval c.args).size from by simp,Array.extract_size]
       simp[execOp,gy,resolve,hc,invoke,callMethod,hv,h0,h1,hm,fw]
      ·simp only[Array.toList_append,Array.toList_map]
       exact⟨val,_,rfl,hd,dE⟩
     ·cases hr
    ·cases hr
   ·cases hr
  ·cases hr
 ·cases hr
theorem yN(hs:cn M cP H0 w0 n cx φ s a w){o:Oper}(h:opW P n s o X K)
 (hN:∀s' aH a' w',K s'->cn M cP H0 w0 n cx aH s' a' w'->next a' w')
 (hQ:∀v s' aH w' val,X v s'->cn M cP H0 w0 n cx aH s' a w'->V.den (ao M aH s'.H) aH s'.H w' v val->Q (.panic [{v:=val,recovered:=false}]) a w'):o.wpIn (dW ro) k P a w next Q:=by
 obtain⟨db,h⟩:=h
 split at h
 ·rename_i c gy
  split at h
  ·rename_i f hc
   exact P9 hs gy hc db h hN hQ
  ·rename_i r m hc
   split at h
   ·rename_i g y hr;exact Jr hs gy hc db hr h hN hQ
   ·exact h.elim
  ·exact Me hs rfl db h hN
 ·rename_i x gy
  have hx:=nk (M:=M) (φ:=φ) (H:=s.H) (w:=w) s a hs.env x
  have bN:∀ (t:TypeId) (u:Value),a.eval x= .iface t u->Q (.panic [{v:= .iface t u,recovered:=false}]) a w->o.wpIn (dW ro) k P a w next Q:=by
   intro t u hu hq
   refine kN (fun c hc=>by rw[gy]at hc;cases hc) ?_
   have hr:(execOp a.eval o).run P w= .halt (.panic (.iface t u)) w:=by simp[execOp,gy,hu,Instr.panic]
   rw[hr];exact hq
  split at h
  ·rename_i t y hv
   rw[hv]at hx
   obtain⟨u,hu,hd⟩:=hx
   exact SH
  ·rename_i t y hv
   rw[hv]at hx
   obtain⟨u,hu,hd⟩:=hx
   exact SH
  ·exact h.elim
 ·exact Me hs rfl db h hN
end
end
end Go.Proofs.YtlhemmpklhhgoaaGreat
namespace Go
def Code.uu (P:Program)(ro:Option Nat)(c:Code)(Q:Exit->Act->World->Prop)(a:Act)(w:World):Prop:=
 ∀ (b:Frame) (k:List Item) (cs:List Frame),b.roundOf=ro->b.fn<P.funcs.size->
   ∃e a' w',Q e a' w'/\ArrivesIn (Machine.fenced P (Proofs.YtlhemmpklhhgoaaGreat.dW ro)) P (lone (b.atR a (.code c::k)) cs w) b k cs e a' w'
end Go
namespace Go.Proofs.YtlhemmpklhhgoaaGreat
instance:LawfulMonad Sem:=LawfulMonad.mk' Sem (id_map:=fun x=>Sem.bind_pure' x) (pure_bind:=fun _ _=>rfl) (bind_assoc:=fun x f g=>Sem.bind_assoc' x f g)
section
variable {P:Program}{M:Nat->Prop}{φ:Place}{H:Hp}{w w':World}{cP:Place}{H0:Hp}{w0:World}{n b:Nat}{s:S}{a:Act}{cx:Cx}{ro:Option Nat}{k:Nat}
theorem qP(hs:cn M cP H0 w0 n cx φ s a w){ops:Array Oper}{o:Oper}{A B:Prop}(h:Ao s ops o.guard A B):
 (Region.wanted o (yielded ops a.tmps)=true->A)/\(Region.wanted o (yielded ops a.tmps)=false->B):=by
 unfold Ao at h
 unfold Region.wanted
 split at h
 ·rename_i hg;simp only[hg];exact⟨fun _=>h,fun h=>by cases h⟩
 ·rename_i j want hg
  simp only[hg]
  unfold tz at h
  unfold yielded
  split at h
  ·rename_i d hd
   simp only[hd,Option.bind_some]
   have eD:=hs.env d
   split at h
   ·rename_i c hv
    rw[hv]at eD
    simp only[V.den,D.den]at eD
    have:a.tmps[d]? =some (.bool c):=by
     rw[Array.getD_eq_getD_getElem?]at eD
     cases hx:a.tmps[d]? with
     |none=>rw[hx]at eD;simp[undef]at eD
     |some x=>rw[hx]at eD;simp at eD;rw[eD]
    simp only[this]
    by_cases hc:c=want
    ·subst hc;exact⟨fun _=>h.1 rfl,fun h=>by simp at h⟩
    ·exact⟨fun h'=>absurd (by simpa using h') hc,fun _=>h.2 hc⟩
   ·rename_i hv
    rw[hv]at eD
    obtain⟨arr,dx,hn⟩:=eD
    simp only[V.aF]at hn
    have:∀c,a.tmps[d]? ≠some (.bool c):=by
     exact Te
    cases hx:a.tmps[d]? with
    |none=>exact⟨fun h=>by simp at h,fun _=>h⟩
    |some x=>cases x<;>first|(exact absurd hx (this _))|(exact⟨fun h=>by simp at h,fun _=>h⟩)
   ·exact h.elim
  ·rename_i hd
   simp only[hd,Option.bind_none]
   exact⟨fun h=>by simp at h,fun _=>h⟩
theorem CD(hs:cn M cP H0 w0 n cx φ s a w){dst:Option Tmp}(db:gS n dst):cn M cP H0 w0 n cx φ ⟨a8 s.env dst (.bY []),s.o,s.nx+1⟩ (a.put dst undef) w:=
 ox (v:= .bY []) (val:=undef) hs hs.heap (Trans.refl _ _ _) ⟨#[],rfl,rfl⟩ db rfl fun _ hu=>Nat.lt_succ_of_lt hu
theorem pO{ops:Array Oper}{X:V->S->Prop}{K:S->Prop}{Q:Exit->Act->World->Prop}
 (hK:∀s φ a w,K s->cn M cP H0 w0 n cx φ s a w->Q .normal a w)
 (hQ:∀v s' aH a w' val,X v s'->cn M cP H0 w0 n cx aH s' a w'->V.den (ao M aH s'.H) aH s'.H w' v val->Q (.panic [{v:=val,recovered:=false}]) a w'):
 ∀ (l:List Oper) (s:S) (φ:Place) (a:Act) (w:World),Ap P n ops X K l s->cn M cP H0 w0 n cx φ s a w->wpListIn (dW ro) k P ops Q l a w
 |[],s,φ,a,w,h,hs=>hK s φ a w h hs
 |o::l,s,φ,a,w,h,hs=>by
  obtain⟨h1,h2⟩:=qP hs h
  unfold wpListIn
  split
  ·rename_i hw
   exact yN hs (h1 hw) (fun s' aH a' w' hk jR=>pO hK hQ l s' aH a' w' hk jR) (fun v s' aH w' val hx jR hd=>hQ v s' aH a w' val hx jR hd)
  ·rename_i hw
   obtain⟨db,h3⟩:=h2 (by simpa using hw)
   exact⟨fun _ _=>trivial,pO hK hQ l _ _ _ _ h3 (CD hs db)⟩
def G3(M:Nat->Prop)(cP:Place)(H0:Hp)(w0:World)(n:Nat)(cx:Cx)(Q:fK->S->Prop)(e:Exit)(a:Act)(w:World):Prop:=
 ∃x s φ,Q x s/\cn M cP H0 w0 n cx φ s a w/\match e,x with
  | .normal, .normal=>True
  | .exit i, .exit j=>i=j
  | .ret, .ret=>True
  | .panic ch, .bN v=>∃val,ch=[{v:=val,recovered:=false}]/\V.den (ao M φ s.H) φ s.H w v val
  |_,_=>False
section
variable {Q:Exit->Act->World->Prop}
theorem gV{m:Nat}:(dW ro).room m:=fun d hd=>by simp[dW]at hd
theorem pP{c:Code}(h:c.wpIn (dW ro) k P Q a w):c.uu P ro Q a w:=fun b k cs uM _=>h b k cs uM trivial gV
theorem gW{c:Code}{Q':Exit->Act->World->Prop}(h:c.uu P ro Q a w)(hq:∀e a w,Q e a w->Q' e a w):c.uu P ro Q' a w:=
 fun b k cs uM hb=>let⟨e,a',w',q,r⟩:=h b k cs uM hb;⟨e,a',w',hq _ _ _ q,r⟩
theorem G4(h:Q .ret a w):Code.ret.uu P ro Q a w:=pP (k:=0) (wpIn_ret h)
theorem CE{id:Nat}(h:Q (.exit id) a w):(Code.exit id).uu P ro Q a w:=pP (k:=0) (wpIn_exit h)
theorem Au{x y:Code}(h:x.uu P ro (Exit.then (y.uu P ro Q) Q) a w):(Code.seq x y).uu P ro Q a w:=by
 intro b k cs uM hb
 have h0:(lone (b.atR a (.code (.seq x y)::k)) cs w).fenced P (dW ro):=fenced_calm (n:=0) trivial gV rfl
 obtain⟨e,oT,jK,hq,dx⟩:=h b (.code y::k) cs uM hb
 cases e with
 |normal=>
  obtain⟨Wd,ab0,sH,qQ,kO⟩:=hq b k cs uM hb
  exact⟨Wd,ab0,sH,qQ, .of_steps (.head h0 stepR_seq dx) kO⟩
 |exit id=>exact K9
 |goto l=>exact K9
 |ret=>exact K9
 |panic ch=>exact K9
 |outgrown=>exact K9
theorem qR{c:Operand}{x y:Code}{t:Bool}(hc:a.eval c= .bool t)(h:(if t then x else y).uu P ro Q a w):(Code.cond c x y).uu P ro Q a w:=
 fun b k cs uM hb=>let⟨e,a',w',q,r⟩:=h b k cs uM hb;⟨e,a',w',q, .of_steps (.one (fenced_calm (n:=0) trivial gV rfl) (stepR_cond hc)) r⟩
theorem Js{id:Nat}{c:Code}(h:c.uu P ro (Exit.inBlock id Q) a w):(Code.block id c).uu P ro Q a w:=by
 intro b k cs uM hb
 have h0:(lone (b.atR a (.code (.block id c)::k)) cs w).fenced P (dW ro):=fenced_calm (n:=0) trivial gV rfl
 obtain⟨e,oT,jK,hq,dx⟩:=h b (.inBlock id::k) cs uM hb
 cases e with
 |normal=>exact⟨.normal,oT,jK,hq, .head h0 stepR_block (StepsIn.trans dx (.one (fenced_calm (n:=0) trivial gV rfl) stepR_inBlock))⟩
 |exit BG=>
  by_cases aw:BG=id
  ·simp only[Exit.inBlock,aw,if_true]at hq
   exact⟨.normal,oT,jK,hq, .head h0 stepR_block (dx.1 k (by simp[exitTo,aw]))⟩
  ·simp only[Exit.inBlock,aw,if_false]at hq
   have this:(id==BG)=false:=by simp;exact fun h=>aw h.symm
   have hx:exitTo BG (.inBlock id::k)=exitTo BG k:=by simp[exitTo,this]
   exact⟨.exit BG,oT,jK,hq,fun k' hk=> .head h0 stepR_block (dx.1 k' yh),
    fun Jn hk=>let⟨k₁,h1,h2⟩:=dx.2 Jn yh;⟨k₁,h1, .head h0 stepR_block h2⟩⟩
 |goto l=>
  have hx:gotoIn l (.inBlock id::k)=gotoIn l k:=by simp[gotoIn]
  exact⟨_,oT,jK,hq,fun k' hk=> .head h0 stepR_block (dx.1 k' yh),
   fun Jn hk=>let⟨k₁,h1,h2⟩:=dx.2 Jn yh;⟨k₁,h1, .head h0 stepR_block h2⟩⟩
 |ret=>exact Lg
 |panic ch=>exact Lg
 |outgrown=>exact Lg
theorem kD{b:Frame}{k:List Item}{cs:List Frame}{c:Code}:step P (lone (b.atR a (.code (.scope c)::k)) cs w)= .next (lone (b.atR a (.code c:: .inScope c::k)) cs w):=
 step_lone_go (by simp[stepG,stepG.exec,Frame.atR])
theorem xQ{b:Frame}{k:List Item}{cs:List Frame}{c:Code}:step P (lone (b.atR a (.inScope c::k)) cs w)= .next (lone (b.atR a k) cs w):=
 step_lone_go (by simp[stepG,stepG.exec,Frame.atR])
theorem yO{c:Code}(h:c.uu P ro Q a w)(hg:∀l a w, ¬Q (.goto l) a w):(Code.scope c).uu P ro Q a w:=by
 intro b k cs uM hb
 have h0:(lone (b.atR a (.code (.scope c)::k)) cs w).fenced P (dW ro):=fenced_calm (n:=0) trivial gV rfl
 obtain⟨e,oT,jK,hq,dx⟩:=h b (.inScope c::k) cs uM hb
 cases e with
 |normal=>exact⟨.normal,oT,jK,hq, .head h0 kD (StepsIn.trans dx (.one (fenced_calm (n:=0) trivial gV rfl) xQ))⟩
 |exit BG=>
  have hx:exitTo BG (.inScope c::k)=exitTo BG k:=by simp[exitTo]
  exact⟨.exit BG,oT,jK,hq,fun k' hk=> .head h0 kD (dx.1 k' yh),
   fun Jn hk=>let⟨k₁,h1,h2⟩:=dx.2 Jn yh;⟨k₁,h1, .head h0 kD h2⟩⟩
 |goto l=>exact(hg _ _ _ hq).elim
 |ret=>exact Lh
 |panic ch=>exact Lh
 |outgrown=>exact Lh
def vQ(P:Program)(l:Nat)(Q:Exit->Act->World->Prop)(a':Act):Ending->World->Prop
 | .returned _,E1=>∃jump uv,(Instr.endLoop l).run P E1= .ok jump uv/\(match jump with|none=>Q .normal a' uv|some c=>c.uu P none Q a' uv)
 | .panicked chain,E1=>Q (.panic chain) a' E1
 | .outgrown,_=>LetsOut Q
theorem xR{g:Operand}{ps:Array Tmp}{assign body:Code}
 (h:∀fn,fn<P.funcs.size->∃ (l:Nat) (mark:List Deferred) (jK:World) (d:Deferred) (yP:World) (f:FuncId) (args:Array Value) (sH:World),
  (Instr.enterLoop fn a.tmps ps assign body (dW none).round).run P w= .ok (l,mark) jK/\(resolve a.eval (rangeCall g l) 0).run P jK= .ok d yP/\
  (invoke d.target d.args).run P yP= .ok (.enter f args) sH/\CallsIn (dW none) 0 P f args sH (vQ P l Q {a with defers:=mark++a.defers})):
 (Code.rangeFunc g ps assign body).uu P none Q a w:=by
 intro b k cs uM hb
 obtain⟨l,mark,jK,d,yP,f,args,sH,he,CF,hinv,hF,fe⟩:=h b.fn hb
 rw[show(dW none).round=b.roundOf from uM.symm]at he
 have calm:∀ (m:Machine),m.fenced P (dW none)↔m.fenced P Fence.wide:=fun m=>Iff.rfl
 have h0:(lone (b.atR a (.code (.rangeFunc g ps assign body)::k)) cs w).fenced P (dW none):=(calm _).2 (fenced_wide P _)
 have mn:=stepR_rangeFunc (P:=P) (b:=b) (a:=a) (k:=k) (cs:=cs) (w:=w) he CF hinv
 obtain⟨e,E1,fr,hR,E2,Kx,Mh⟩:=fe (b.atR {a with defers:=mark++a.defers} (.inRangeFunc l::k)::cs) gV
 cases e with
 |outgrown=>
  obtain⟨afV,afW,hq⟩:=hR
  exact⟨.outgrown,afV,afW,hq, .inr (Outgrown.of_steps (.one mn) E2)⟩
 |returned v=>
  obtain⟨jump,uv,eJ,hj⟩:=hR
  have Tx:StepsIn (Machine.fenced P (dW none)) P (lone (b.atR a (.code (.rangeFunc g ps assign body)::k)) cs w) (lone (b.atR {a with defers:=mark++a.defers} ((jump.map Item.code).toList++k)) cs uv):=by
   refine .head h0 mn (StepsIn.trans E2 (.head ((calm _).2 (fenced_wide P _)) ?_ (.one ((calm _).2 (fenced_wide P _)) (stepR_endRangeFunc eJ))))
   rw[<- finish_atR_inRangeFunc l v];exact step_leave_returned Mh
  cases jump with
  |none=>exact⟨.normal,_,uv,hj,Tx⟩
  |some c=>
   obtain⟨e',a'',afX,hq,dx⟩:=hj b k cs uM hb
   exact⟨e',a'',afX,hq, .of_steps Tx dx⟩
 |panicked chain=>
  refine⟨.panic chain,_,E1,hR, .inRangeFunc l::k, .head h0 mn (StepsIn.trans E2 (.one ((calm _).2 (fenced_wide P _)) ?_))⟩
  rw[<- Frame.raise_atR];exact step_leave_panicked Mh
end
theorem yQ(hH:aA M φ H w){id l:Nat}(ec:H.us id){nf m:Nat}{env:List V}{ps:List Nat}{jS fq:IC}{st st':LoopState}{pd pd':Option ku}(ho:H.o id= .loop nf m env ps jS fq st pd)(eT:φ id= .pointer (some ⟨l,0,none⟩)):
 ∃r,w.heap[l]? =some (.loop r)/\r.state=st/\r.pending=pd.map ku.code/\
  aA M φ (H.put [(id, .loop nf m env ps jS fq st' pd')]) {w with heap:=w.heap.setIfInBounds l (.loop {r with state:=st',pending:=pd'.map ku.code})}/\
  Trans φ H w φ (H.put [(id, .loop nf m env ps jS fq st' pd')]) {w with heap:=w.heap.setIfInBounds l (.loop {r with state:=st',pending:=pd'.map ku.code})}:=by
 have aY:=hH.ok id
 simp only[aS,ho]at aY
 obtain⟨b,r,h1,h2,h0,h3,h4,h5,h6,h7,h8,h9⟩:=aY
 rw[eT]at h1;simp at h1;subst h1
 refine⟨r,h2,h3,h4, ?_⟩
 have L5:eC (· =l) w {w with heap:=w.heap.setIfInBounds l (.loop {r with state:=st',pending:=pd'.map ku.code})}:=
  ⟨rfl,rfl,rfl,aE,fun j _ hj=>(MapKept.heap_set h2).2 j hj⟩
 have r8:(H.o id).live=true:=by rw[ho];rfl
 have KI:eB (φ id)=some l:=by rw[eT];rfl
 have ht:=eZ (w:=w) (w':={w with heap:=w.heap.setIfInBounds l (.loop {r with state:=st',pending:=pd'.map ku.code})}) ec r8 KI L5 (.loop nf m env ps jS fq st' pd') eI eI
 refine⟨iD hH ec r8 KI L5 _ eI eI ?_,ht⟩
 unfold aS
 simp only[bM,aN,if_true]
 exact⟨l,_,eT,(MapKept.heap_set h2).1,h0,rfl,rfl,h5,h6,h7,h8,fun i=>V.aU ht _ _ (h9 i)⟩
theorem jg{l:Nat}{r:Loop}(o:Obj)(hb:w.heap[l]? =some (.loop r)):(setObj l o).run P w= .ok () {w with heap:=w.heap.setIfInBounds l o}:=by
 simp[setObj,Sem.run,hb]
theorem kP{l:Nat}{r:Loop}(hb:w.heap[l]? =some (.loop r)):(Instr.getLoop l).run P w= .ok r w:=by
 simp[Instr.getLoop,getObj,Sem.run,hb,Result.andThen]
end
def qS(Q:fK->S->Prop)(pd:Option ku)(s:S):Prop:=
 match pd with
 |none=>Q .normal s
 |some .ret=>Q .ret s
 |some (.exit id)=>Q (.exit id) s
def CG(P:Program)(n:Nat)(g:V)(ps:List Nat)(jS fq:IC)(Q:fK->S->Prop)(s:S):Prop:=
 ∃env,(∀i,aX env i= .ab\/aX env i=s.env i)/\
  match g with
  | .func (.func f) first cap=>pa P f (first++[.kH s.nx]++cap) (ay s.o s.nx (.loop P.funcs.size n env ps jS fq .ready none)) (s.nx+1)
    (fun _ o' nx'=>∃nf m e p c d st pd,o' s.nx= .loop nf m e p c d st pd/\st≠ .busy/\qS Q pd ⟨s.env,ay o' s.nx (.loop nf m e p c d .exhausted pd),nx'⟩)
    (fun v o' nx'=>Q (.bN v) ⟨s.env,o',nx'⟩)
  |_=>False
def ab1(P:Program)(n b:Nat)(g:Operand)(ps:List Nat)(jS fq:IC)(Q:fK->S->Prop)(s:S):Prop:=∃s',(s'=s\/bL b s s')/\CG P n (s'.ev g) ps jS fq Q s'
def jo(P:Program)(n b:Nat)(rd:Bool):Code->(fK->S->Prop)->S->Prop
 | .skip,Q,s=>Q .normal s
 | .label _,Q,s=>Q .normal s
 | .scope x,Q,s=>jo P n b rd x Q s
 | .region _ ops false,Q,s=>Ap P n ops (fun v s=>Q (.bN v) s) (Q .normal) ops.toList s
 | .region id ops true,Q,s=>∀M cP H0 w0 cx φ a w ro k,cn M cP H0 w0 n cx φ s a w->(Code.region id ops true).wpIn (dW ro) k P (G3 M cP H0 w0 n cx Q) a w
 | .seq x y,Q,s=>jo P n b rd x (qO (jo P n b rd y Q) Q) s
 | .cond c x y,Q,s=>match s.ev c with
   | .d (.bool t)=>(t=true->jo P n b rd x Q s)/\(t=false->jo P n b rd y Q s)
   | .fH=>jo P n b rd x Q s/\jo P n b rd y Q s
   |_=>False
 | .block id x,Q,s=>jo P n b rd x (fL id Q) s
 | .loop x,Q,s=>∃ (J:Nat->S->Prop),(∃m s1,bL b s s1/\J m s1)/\∀m s0,J m s0->jo P n b rd x (fun e s=>match e with| .normal=>∃m' s1,m'<m/\bL b s s1/\J m' s1|e=>Q e s) s0
 | .exit id,Q,s=>Q (.exit id) s
 | .ret,Q,s=>Q .ret s
 | .rangeFunc g ps x y,Q,s=>rd=false/\ab1 P n b g ps.toList (low n x) (low n y) Q s
 |_,_,_=>False
section
variable {P:Program}{M:Nat->Prop}{φ:Place}{H:Hp}{w w':World}{cP:Place}{H0:Hp}{w0:World}{n b:Nat}{s:S}{a:Act}{cx:Cx}{ro:Option Nat}{k:Nat}
theorem E3(hb:∀id,H0.us id->id<b)(hs:cn M cP H0 w0 n cx φ s a w){s':S}(h:bL b s s'):∃aH,cn M cP H0 w0 n cx aH s' a w:=by
 obtain⟨aH,h1,h2,h3,h4,h5,h6⟩:=h M φ w (fun i=>a.tmps.getD i undef) hs.heap hs.env
 refine⟨aH,h1,⟨hs.tr.cL,fun k hk=>hs.tr.grow k (h3 k hk),⟨fun id hu=>Nat.lt_of_lt_of_le (hb id hu) h4,fun id hu hr=> ?_,fun id e' hu he=> ?_⟩⟩,hs.size, ?_,h2⟩
 ·obtain⟨g1,g2⟩:=h5 id (hb id hu) hr
  obtain⟨g3,g4⟩:=hs.tr.rel.row id hu g1
  exact⟨g3,g2.trans g4⟩
 ·obtain⟨e,g1,g2,g3⟩:=h6 id e' (hb id hu) he
  obtain⟨e0,k1,k2,k3⟩:=hs.tr.rel.ep id e hu g1
  refine⟨e0,k1,Nat.le_trans k2 g2,fun heq=> ?_⟩
  have a1:e0=e:=af
  have a2:e=e':=af
  exact(g3 a2).trans (k3 a1)
 ·obtain⟨ms,g1,g2,g3,g4⟩:=hs.defers
  exact⟨ms,g1,g2,g3,fun r hr=>⟨(g4 r hr).1,(g4 r hr).2.1,fun hl=>(g4 r hr).2.2 (h3 r hl)⟩⟩
theorem Av{c:Code}{Q:Exit->Act->World->Prop}(J:Nat->Act->World->Prop)(round:∀m a w,J m a w->c.uu P ro (Exit.then (fun a' w'=>∃m',m'<m/\J m' a' w') Q) a w):
 ∀m a w,J m a w->(Code.loop c).uu P ro Q a w:=by
 intro m a w h0 fr kk cs uM hb
 have hr:(dW ro).room (cs.length+1+0):=fun d hd=>by simp[dW]at hd
 have key:∀m a w,J m a w->∃e a' w',Q e a' w'/\ArrivesIn (Machine.fenced P (dW ro)) P (lone (fr.atR a (.code c:: .inLoop c::kk)) cs w) fr kk cs e a' w':=by
  intro m
  induction m using Nat.strongRecOn with
  |_ m ih=>
   intro a w hJ
   obtain⟨e,a1,w1,hq,dx⟩:=round m a w hJ fr (.inLoop c::kk) cs uM hb
   cases e with
   |normal=>
    obtain⟨m',cq,hJ'⟩:=hq
    obtain⟨e2,a2,w2,Zk,G5⟩:=ih m' cq a1 w1 hJ'
    exact⟨e2,a2,w2,Zk, .of_steps (StepsIn.trans dx (.one (fenced_calm trivial hr rfl) stepR_inLoop)) G5⟩
   |_=>exact⟨_,a1,w1,hq, .pass (x:= .inLoop c) rfl (fun _ _=> .inl aE) dx⟩
 obtain⟨e,a',w',hq,dx⟩:=key m a w h0
 exact⟨e,a',w',hq, .of_steps (.one (fenced_calm trivial hr rfl) stepR_loop) dx⟩
theorem yR(hs:cn M cP H0 w0 n cx φ s a w)(mV:cx.rd=false)(uM:ro=none){g:Operand}{ps:Array Tmp}{x y:Code}{Q:fK->S->Prop}(h:CG P n (s.ev g) ps.toList (low n x) (low n y) Q s):
 (Code.rangeFunc g ps x y).uu P ro (G3 M cP H0 w0 n cx Q) a w:=by
 subst uM
 obtain⟨env,eD,h⟩:=h
 refine xR fun fn Kx=> ?_
 let E4:Loop:={state:= .ready,pending:=none,fn:=fn,tmps:=a.tmps,params:=ps,assign:=x,body:=y,defers:=w.heap.size}
 let w1:World:=(w.alloc (.deferred (some []))).alloc (.loop E4)
 let l:Nat:=w.heap.size+1
 have mn:(Instr.enterLoop fn a.tmps ps x y (dW none).round).run P w= .ok (l,[mark w.heap.size]) w1:=by
  simp[Instr.enterLoop,dW,mark,w1,l,E4]
 have Mi:eC (fun _=>False) w w1:=by
  have k1:=cy w (.deferred (some []))
  have k2:=cy (w.alloc (.deferred (some []))) (.loop E4)
  exact⟨k2.os.trans k1.os,k2.tape.trans k1.tape,k2.output.trans k1.output,Nat.le_trans k1.size k2.size,fun j hj hm=>(k2.block j (Nat.lt_of_lt_of_le hj k1.size) hm).trans (k1.block j hj hm)⟩
 let jd:=ay φ s.nx (.pointer (some ⟨l,0,none⟩))
 let s1:S:=⟨s.env,ay s.o s.nx (.loop P.funcs.size n env ps.toList (low n x) (low n y) .ready none),s.nx+1⟩
 have c7: ¬s.H.us s.nx:=by simp[S.H]
 have fS:∀b,eB (.pointer (some ⟨l,0,none⟩))=some b->w.heap.size<=b/\b<w1.heap.size:=by
  intro b hb;simp[eB]at hb;subst hb;simp[l,w1]
 have Ev:=dO (φ:=φ) (H:=s.H) Mi c7 (.loop P.funcs.size n env ps.toList (low n x) (low n y) .ready none) (.pointer (some ⟨l,0,none⟩)) fun b hb=>(fS b hb).1
 have PW:(w.alloc (.deferred (some []))).heap.size=w.heap.size+1:=aE
 have r8:w1.heap[l]? =some (.loop E4):=by
  have:=heap_alloc_new (w.alloc (.deferred (some []))) (.loop E4)
  rwa [PW]at this
 have si:=iT hs.heap Mi c7 (.loop P.funcs.size n env ps.toList (low n x) (low n y) .ready none) (.pointer (some ⟨l,0,none⟩)) fS (by
  unfold aS
  simp only[bM,aN,if_true]
  refine⟨l,E4,rfl,r8,Kx,rfl,rfl,rfl,hs.size,rfl,rfl,fun i=> ?_⟩
  rcases eD i with e|e
  ·rw[e];trivial
  ·rw[e];exact V.aU Ev _ _ (hs.env i))
 have r9:cn M cP H0 w0 n cx jd s1 {a with defers:=mark w.heap.size::a.defers} w1:=by
  have base:=eU hs si Ev (o':=ay s.o s.nx (.loop P.funcs.size n env ps.toList (low n x) (low n y) .ready none)) (nx':=s.nx+1) rfl (Md fun id aw=>by simp at aw;exact .inr aw)
  refine⟨base.heap,base.tr,base.size, ?_,base.env⟩
  obtain⟨ms,g1,g2,g3,g4⟩:=base.defers
  obtain⟨ms',q1,q2,q3,q4⟩:=hs.defers
  have hmm:ms.map mark=ms'.map mark:=by
   have:ms.map mark++cx.base=ms'.map mark++cx.base:=g1.symm.trans q1
   exact List.append_cancel_right this
  have We:ms=ms':=by
   have hm:∀a b,mark a=mark b->a=b:=fun a b h=>by simpa[mark]using h
   exact List.map_inj_right hm |>.1 hmm
  refine⟨w.heap.size::ms,by rw[g1];rfl,List.nodup_cons.2 ⟨fun hm=> ?_,g2⟩,(fun h=>by rw[mV]at h;cases h),fun r hr=> ?_⟩
  ·have:=(q4 w.heap.size (We ▸ hm)).2.1
   rw[Array.getElem?_eq_none (Nat.le_refl _)]at this;cases this
  ·rcases List.mem_cons.1 hr with rfl|hr
   ·refine⟨hs.tr.cL.size,(RowKit.Below.heap_alloc (w.alloc (.deferred (some []))) (.loop E4) w.heap.size (by rw[PW];omega)).trans (heap_alloc_new w _), ?_⟩
    rintro⟨id,i1,i2⟩
    by_cases e:id=s.nx
    ·subst e;simp[jd,eB,l]at i2
    ·have i1':(s.H.o id).live=true:=by simpa[s1,S.H,e]using i1
     have i2':eB (φ id)=some w.heap.size:=by simpa[jd,e]using i2
     have:=(hs.heap.ours _ ⟨id,i1',i2'⟩).2
     omega
   ·exact g4 r hr
 have afY:V.den (ao M jd s1.H) jd s1.H w1 (.kH s.nx) (.func (.yield l) #[] #[]):=
  ⟨rfl,by simp[s1,S.H],fun _=>⟨l,by simp[jd],rfl⟩⟩
 have hg:=nk (M:=M) (φ:=jd) (H:=s1.H) (w:=w1) s1 {a with defers:=mark w.heap.size::a.defers} r9.env g
 have afZ:s1.ev g=s.ev g:=by cases g<;>rfl
 rw[afZ]at hg
 have hae:({a with defers:=mark w.heap.size::a.defers}:Act).eval g=a.eval g:=rfl
 rw[hae]at hg
 split at h
 ·rename_i f first cap hgv
  rw[hgv]at hg
  obtain⟨fa,ca,Wc,GK,hca⟩:=hg
  have fin:∀ (all:List V) (o2:Nat->ad) (s2:S),s2=⟨s.env,o2,s.nx+1⟩->cn M cP H0 w0 n cx jd s2 {a with defers:=mark w.heap.size::a.defers} w1->V.aF (ao M jd s2.H) jd s2.H w1 all (fa++#[Value.func (.yield l) #[] #[]]++ca).toList->(o2 s.nx).cA=true->
   bP P f all o2 (s.nx+1) (fun _ o' nx'=>∃nf m e p c d st pd,o' s.nx= .loop nf m e p c d st pd/\st≠ .busy/\qS Q pd ⟨s.env,ay o' s.nx (.loop nf m e p c d .exhausted pd),nx'⟩) (fun v o' nx'=>Q (.bN v) ⟨s.env,o',nx'⟩)->
   ∃ (l:Nat) (mark:List Deferred) (jK:World) (d:Deferred) (yP:World) (f:FuncId) (args:Array Value) (sH:World),
     (Instr.enterLoop fn a.tmps ps x y (dW none).round).run P w= .ok (l,mark) jK/\(resolve a.eval (rangeCall g l) 0).run P jK= .ok d yP/\
     (invoke d.target d.args).run P yP= .ok (.enter f args) sH/\CallsIn (dW none) 0 P f args sH (vQ P l (G3 M cP H0 w0 n cx Q) {a with defers:=mark++a.defers}):=by
   intro all o2 s2 af0 G6 ba c8 hC
   subst af0
   have fe:=hC.2 M jd w1 _ G6.heap ba
   refine⟨l,[mark w.heap.size],w1,{target:= .fn (.func f) ca,args:=fa++#[Value.func (.yield l) #[] #[]]},w1,f,fa++#[Value.func (.yield l) #[] #[]]++ca,w1,mn, ?_, ?_,dn (fe.mono fun e w' ⟨aH,o',nx',v,k1,k2,k3⟩=> ?_)⟩
   ·simp only[resolve,Wc,Deferred.ofValue,List.map_toArray,List.map_cons,List.map_nil,Sem.run_pure]
    rfl
   ·simp[invoke,lO hC.1]
   ·cases e with
    |returned val=>
     obtain⟨k4,nf,m,e,p,c,d,st,pd,k5,k6,k7⟩:=k3
     have G7:cn M cP H0 w0 n cx aH ⟨s.env,o',nx'⟩ {a with defers:=mark w.heap.size::a.defers} w':=eU G6 k1 k2 rfl fun id hu=>hu
     have Wf:aH s.nx= .pointer (some ⟨l,0,none⟩):=by
      have:=(k2.rel.row s.nx (show s.nx<s.nx+1 from af) (by show(o' s.nx).cA=true;rw[k5];rfl)).2
      rw[this];simp[jd]
     have cq:s.nx<nx':=k2.rel.us s.nx (show s.nx<s.nx+1 from af)
     obtain⟨r,r1,r2,r3,r4,r5⟩:=yQ (st':= .exhausted) (pd':=pd) k1 cq (show(hp o' nx').o s.nx=_ from k5) Wf
     have eJ:(Instr.endLoop l).run P w'= .ok (pd.map ku.code) {w' with heap:=w'.heap.setIfInBounds l (.loop {r with state:= .exhausted,pending:=pd.map ku.code})}:=by
      have e1:({r with state:= .exhausted}:Loop)={r with state:= .exhausted,pending:=pd.map ku.code}:=by rw[<- r3]
      have hnb:(r.state==LoopState.busy)=false:=by rw[r2];cases st<;>first|rfl|exact absurd rfl k6
      simp only[Instr.endLoop,Sem.run_bind,kP r1,Result.andThen_ok,hnb,Bool.false_eq_true,if_false,Sem.run_pure]
      rw[jg _ r1,e1]
      simp[r3]
     have Zl:=eU G7 r4 r5 (o':=ay o' s.nx (.loop nf m e p c d .exhausted pd)) (nx':=nx') rfl fun id hu=>by
      simp only[eh]at hu
      rcases hu with hu|hu
      ·exact hu
      ·subst hu;exact cq
     refine⟨pd.map ku.code,_,eJ, ?_⟩
     cases pd with
     |none=>exact⟨.normal,_,_,k7,Zl,trivial⟩
     |some j=>
      cases j with
      |ret=>exact G4 ⟨.ret,_,_,k7,Zl,trivial⟩
      |exit id=>exact CE ⟨.exit id,_,_,k7,Zl,rfl⟩
    |panicked ch=>
     obtain⟨val,rfl,k4,k5⟩:=k3
     have G7:cn M cP H0 w0 n cx aH ⟨s.env,o',nx'⟩ {a with defers:=mark w.heap.size::a.defers} w':=eU G6 k1 k2 rfl fun id hu=>hu
     exact⟨.bN v,_,_,k5,G7,val,rfl,k4⟩
    |outgrown=>exact k3.elim
  have nz:V.aF (ao M jd s1.H) jd s1.H w1 (first++[V.kH s.nx]++cap) (fa++#[Value.func (.yield l) #[] #[]]++ca).toList:=by
   rw[Array.toList_append,Array.toList_append]
   exact V.qs GK ⟨_,[],rfl,afY,rfl⟩ hca
  rcases h with hC|hC
  ·exact fin _ _ s1 rfl r9 nz (by simp;rfl) hC
  ·have qn:s1.o=ay s.o s.nx (.loop P.funcs.size n env ps.toList (low n x) (low n y) .ready none):=rfl
   obtain⟨f1,f2,f3,f4,f5⟩:=cY r9.heap (dp s1.o (first++[V.kH s.nx]++cap)) (gU _ _ s1.o nz)
   have fA:s1.H.put (bG s1.H.o (dp s1.o (first++[V.kH s.nx]++cap)))=hp (put s1.o (bG s1.o (dp s1.o (first++[V.kH s.nx]++cap)))) s1.nx:=lN (by rw[uG];exact gU _ _ s1.o nz)
   have Ty:=Mg f1 _ _ f3 (V.aV f2 _ _ nz)
   have Tz:((s1.H.put (bG s1.H.o (dp s1.o (first++[V.kH s.nx]++cap)))).o s.nx).cA=true:=by
    by_cases hm:s.nx∈dp s1.o (first++[V.kH s.nx]++cap)
    ·rw[f3 _ hm];simp[s1,S.H,ad.fz,ad.cA]
    ·rw[f4 _ hm];simp[s1,S.H,ad.cA]
   rw[fA]at f1 f2 Ty Tz
   exact fin _ (put s1.o (bG s1.o (dp s1.o (first++[V.kH s.nx]++cap)))) ⟨s.env,_,s.nx+1⟩ rfl (eU r9 f1 f2 rfl fun id hu=>hu) Ty Tz hC
 ·exact h.elim
end
end Go.Proofs.YtlhemmpklhhgoaaGreat
