/-
  A PART. Conditions: none.
-/
import Derived.RangeFuncLeaves
import Derived.TacticsIn
import Derived.RecoverIn
import Derived.Test.YtlhemmpklhhgoaaGreatQf5
set_option linter.unusedSimpArgs false
set_option linter.unusedVariables false
set_option maxHeartbeats 8000000
namespace Go.Proofs.YtlhemmpklhhgoaaGreat
inductive R where
 |ret (ds:List D)|bU (d:D)
def R.is (B:Nat->Prop)(w:World):R->Ending->Prop
 | .ret [x], .returned v=>D.den B w x v
 | .ret ds, .returned v=>∃a,v= .tuple a/\D.aG B w ds a.toList
 | .bU d, .panicked chain=>∃v,chain=[{v:=v,recovered:=false}]/\D.den B w d v
 |_,_=>False
def Enters(P:Program)(f:FuncId):Prop:=∃fn,P.funcs[f]? =some fn/\(fn.name== "runtime.NumGoroutine")=false/\fn.body.isNone=false
def a7(P:Program)(f:FuncId)(ds:List D)(out:R):Prop:=
 Enters P f/\∀ (M:Nat->Prop) (w:World) (vals:Array Value),(∀b,M b->b<w.heap.size)->D.aG M w ds vals.toList->
  Calls P f vals w fun e w'=>dZ (fun _=>False) w w'/\out.is M w' e
def hp(o:Nat->aa)(nx:Nat):Hp:=⟨o,fun id=>id<nx⟩
def oj(M:Nat->Prop)(φ:Place)(H:Hp)(w:World)(K X:V->(Nat->aa)->Nat->Prop)(e:Ending)(w':World):Prop:=
 ∃aI o' nx' v,aB M aI (hp o' nx') w'/\Trans φ H w aI (hp o' nx') w'/\match e with
  | .returned val=>V.den (aq M aI (hp o' nx')) aI (hp o' nx') w' v val/\K v o' nx'
  | .panicked ch=>∃val,ch=[{v:=val,recovered:=false}]/\V.den (aq M aI (hp o' nx')) aI (hp o' nx') w' v val/\X v o' nx'
  | .outgrown=>False
def bJ(P:Program)(f:FuncId)(args:List V)(o:Nat->aa)(nx:Nat)(K X:V->(Nat->aa)->Nat->Prop):Prop:=
 Enters P f/\∀ (M:Nat->Prop) (φ:Place) (w:World) (vals:Array Value),aB M φ (hp o nx) w->V.aG (aq M φ (hp o nx)) φ (hp o nx) w args vals.toList->
  Calls P f vals w (oj M φ (hp o nx) w K X)
def ej(P:Program)(id:Nat)(args:List V)(o:Nat->aa)(nx:Nat)(K X:V->(Nat->aa)->Nat->Prop):Prop:=
 (o id).cF=true/\∀ (M:Nat->Prop) (φ:Place) (w:World) (vals:Array Value) (b:Nat),aB M φ (hp o nx) w->V.aG (aq M φ (hp o nx)) φ (hp o nx) w args vals.toList->φ id= .pointer (some ⟨b,0,none⟩)->
  ∃f tmps assign body,(Instr.yield b vals).run P w= .ok (.round b f tmps assign body) w/\∀n,RoundIn Fence.wide n P b f tmps assign body w (oj M φ (hp o nx) w K X)
theorem oj.mono {M:Nat->Prop}{φ:Place}{H:Hp}{w:World}{K X K' X':V->(Nat->aa)->Nat->Prop}(hK:∀v o n,K v o n->K' v o n)(hX:∀v o n,X v o n->X' v o n){e:Ending}{w':World}(h:oj M φ H w K X e w'):oj M φ H w K' X' e w':=by
 obtain⟨aI,o',nx',v,h1,h2,h3⟩:=h
 refine⟨aI,o',nx',v,h1,h2, ?_⟩
 cases e with
 |returned val=>exact⟨h3.1,hK _ _ _ h3.2⟩
 |panicked ch=>obtain⟨val,a,b,c⟩:=h3;exact⟨val,a,b,hX _ _ _ c⟩
 |outgrown=>exact h3
theorem bJ.mono {P:Program}{f:FuncId}{args:List V}{o:Nat->aa}{nx:Nat}{K X K' X':V->(Nat->aa)->Nat->Prop}(hK:∀v o n,K v o n->K' v o n)(hX:∀v o n,X v o n->X' v o n)(h:bJ P f args o nx K X):bJ P f args o nx K' X':=
 ⟨h.1,fun M φ w vals h1 h2=>(h.2 M φ w vals h1 h2).mono fun _ _ h=>h.mono hK hX⟩
theorem ej.mono {P:Program}{id:Nat}{args:List V}{o:Nat->aa}{nx:Nat}{K X K' X':V->(Nat->aa)->Nat->Prop}(hK:∀v o n,K v o n->K' v o n)(hX:∀v o n,X v o n->X' v o n)(h:ej P id args o nx K X):ej P id args o nx K' X':=
 ⟨h.1,fun M φ w vals b h1 h2 h3=>let⟨f,t,a,c,h4,h5⟩:=h.2 M φ w vals b h1 h2 h3;⟨f,t,a,c,h4,fun n=>(h5 n).mono fun _ _ h=>h.mono hK hX⟩⟩
mutual
def D.flat:D->Bool
 | .sl _| .mp _ _=>false
 | .agg cs=>D.kN cs
 | .iface _ x=>x.flat
 |_=>true
def D.kN:List D->Bool
 |[]=>true
 |x::xs=>x.flat&&D.kN xs
end
mutual
theorem D.rM {B B':Nat->Prop}{w w':World}:∀ (x:D) (v:Value),x.flat=true->D.den B w x v->D.den B' w' x v
 | .int _ _,_,_,h| .bool _,_,_,h| .str _,_,_,h| .fE,_,_,h| .mu,_,_,h| .cJ,_,_,h| .dX,_,_,h=>h
 | .agg cs,_,hf,h=>by obtain⟨a,rfl,h,h2⟩:=h;exact⟨a,rfl,D.ng cs _ hf h,h2⟩
 | .sl es,_,hf,h=>by simp[D.flat]at hf
 | .mp _ _,_,hf,h=>by simp[D.flat]at hf
 | .iface t x,_,hf,h=>by obtain⟨u,rfl,h⟩:=h;exact⟨u,rfl,D.rM x u hf h⟩
theorem D.ng {B B':Nat->Prop}{w w':World}:∀ (xs:List D) (vs:List Value),D.kN xs=true->D.aG B w xs vs->D.aG B' w' xs vs
 |[],_,_,h=>h
 |x::xs,_,hf,h=>by
  obtain⟨u,us,rfl,h1,h2⟩:=h
  simp only[D.kN,Bool.and_eq_true]at hf
  exact⟨u,us,rfl,D.rM x u hf.1 h1,D.ng xs us hf.2 h2⟩
end
mutual
def D.oo:D->Bool
 | .mp _ _=>false
 | .agg cs=>D.nh cs
 | .sl es=>D.nh es
 | .iface _ x=>x.oo
 |_=>true
def D.nh:List D->Bool
 |[]=>true
 |x::xs=>x.oo&&D.nh xs
end
theorem iB.C3 {B B':Nat->Prop}{w w':World}{a:Addr}{cs:Array Value}
 (hb:∀b,rp w b-> ¬B b->w'.heap[b]? =w.heap[b]? /\ ¬B' b) (h:iB B w a cs):iB B' w' a cs:=by
 intro j u hj
 obtain⟨h1,h2⟩:=h j u hj
 have cD:rp w a.block:=by simpa using pZ h1
 exact acw
mutual
theorem D.mC {B B':Nat->Prop}{w w':World}(hb:∀b,rp w b-> ¬B b->w'.heap[b]? =w.heap[b]? /\ ¬B' b):
 ∀ (x:D) (v:Value),x.oo=true->D.den B w x v->D.den B' w' x v
 | .int _ _,_,_,h| .bool _,_,_,h| .str _,_,_,h| .fE,_,_,h| .mu,_,_,h| .cJ,_,_,h| .dX,_,_,h=>by simpa[D.den]using h
 | .agg cs,_,hn,h=>by
   obtain⟨a,rfl,h,hf⟩:=h
   exact⟨a,rfl,D.oq hb cs _ hn h,hf⟩
 | .sl es,_,hn,h=>by
   obtain⟨base,len,cap,rfl,h1,h2,h3,sz,h4⟩:=h
   exact⟨base,len,cap,rfl,h1,h2,h3,sz,fun a ha=>⟨(h4 a ha).1,D.rN hb sz a es 0 hn (h4 a ha).2⟩⟩
 | .iface t d,_,hn,h=>by
   obtain⟨u,rfl,h⟩:=h
   exact⟨u,rfl,D.mC hb d u hn h⟩
 | .mp _ _,_,hn,_=>by simp[D.oo]at hn
theorem D.oq {B B':Nat->Prop}{w w':World}(hb:∀b,rp w b-> ¬B b->w'.heap[b]? =w.heap[b]? /\ ¬B' b):
 ∀ (ds:List D) (vs:List Value),D.nh ds=true->D.aG B w ds vs->D.aG B' w' ds vs
 |[],_,_,h=>h
 |d::ds,_,hn,h=>by
  obtain⟨u,us,rfl,h1,h2⟩:=h
  simp only[D.nh,Bool.and_eq_true]at hn
  exact⟨u,us,rfl,D.mC hb d u hn.1 h1,D.oq hb ds us hn.2 h2⟩
theorem D.rN {B B':Nat->Prop}{w w':World}(hb:∀b,rp w b-> ¬B b->w'.heap[b]? =w.heap[b]? /\ ¬B' b)(sz:Nat)(a:Addr):
 ∀ (es:List D) (i:Nat),D.nh es=true->D.elems B w sz a i es->D.elems B' w' sz a i es
 |[],_,_,_=>trivial
 |e::es,i,hn,h=>by
  obtain⟨⟨ev,h1,h2,h3⟩,h4⟩:=h
  simp only[D.nh,Bool.and_eq_true]at hn
  exact⟨⟨ev,h1,h2.C3 hb,D.mC hb e ev hn.1 h3⟩,D.rN hb sz a es (i+1) hn.2 h4⟩
end
def R.oo:R->Bool
 | .ret ds=>D.nh ds
 | .bU d=>d.oo
def R.flat:R->Bool
 | .ret ds=>D.kN ds
 | .bU d=>d.flat
def jM:List D->V
 |[x]=> .d x
 |ds=> .cf (ds.map .d)
inductive gr where
 |normal|exit (id:Nat)|ret|bU (v:V)
def ba(env:Nat->V)(dst:Option Tmp)(v:V):Nat->V:=
 match dst with
 |some d=>aw env d v
 |none=>env
def Nf(o:Nat->aa)(v:V):V:=match ef o v with|some x=> .d x|none=>v
def dD(o:Nat->aa):List V->List Nat
 |[]=>[]
 |v::vs=>(match ef o v with|some _=>v.ids|none=>[])++dD o vs
def pW(P:Program)(g:FuncId)(args:List V)(o:Nat->aa)(nx:Nat)(K X:V->(Nat->aa)->Nat->Prop):Prop:=
 bJ P g args o nx K X\/bJ P g (args.map (Nf o)) (put o (bK o (dD o args))) nx K X
def wQ(P:Program)(s:S)(g:FuncId)(all:List V)(K:V->(Nat->aa)->Nat->Prop)(X:V->(Nat->aa)->Nat->Prop):Prop:=
    (∃ds out,cA s.o all=some ds/\a7 P g ds out/\(match out with
     | .ret rs=>K (jM rs) (put s.o (bK s.o (V.bw all))) (s.nx+1)
     | .bU x=>X (.d x) (put s.o (bK s.o (V.bw all))) (s.nx+1)))\/
    (∃ds out,cA s.o all=some ds/\a7 P g ds out/\out.flat=true/\(match out with
     | .ret rs=>K (jM rs) s.o (s.nx+1)
     | .bU x=>X (.d x) s.o (s.nx+1)))\/
    (∃ds out,cA s.o all=some ds/\a7 P g ds out/\out.oo=true/\(match out with
     | .ret rs=>K (jM rs) (put s.o (tp s.o (V.bw all))) (s.nx+1)
     | .bU x=>X (.d x) (put s.o (tp s.o (V.bw all))) (s.nx+1)))\/
    pW P g all s.o s.nx K X
def Dq(P:Program)(s:S)(f:V)(args:List V)(K:V->(Nat->aa)->Nat->Prop)(X:V->(Nat->aa)->Nat->Prop):Prop:=
 match f with
 | .func (.func g) first cap=>wQ P s g (first++args++cap) K X
 | .lC id=>ej P id args s.o s.nx K X
 |_=>False
def UK(P:Program)(t:TypeId):Bool:=
 match P.underlying t with
 |some (.pointer _)=>false
 |some _=>true
 |none=>false
def wR(P:Program)(m:String)(x:V):Option (FuncId×V):=
 match x with
 | .d (.iface t y)=>match P.info? t with
   |some ti=>match ti.methods.find? (·.name==m)with
    |some r=>match r.func with
     |some (f,false)=>if r.path.isEmpty=true/\UK P t=true then some (f, .d y)else none
     |_=>none
    |none=>none
   |none=>none
 |_=>none
def iC(n:Nat):Option Tmp->Prop
 |some d=>d<n
 |none=>True
def opW(P:Program)(n:Nat)(s:S)(o:Oper)(X:V->S->Prop)(K:S->Prop):Prop:=
 iC n o.dst/\match o.op with
 | .call c=>match c.callee with
   | .value f=>Dq P s (s.ev f) (c.args.toList.map s.ev) (fun v o' nx'=>K ⟨ba s.env o.dst v,o',nx'⟩) (fun v o' nx'=>X v ⟨s.env,o',nx'⟩)
   | .invoke r m=>match wR P m (s.ev r)with
     |some (g,y)=>wQ P s g (y::c.args.toList.map s.ev) (fun v o' nx'=>K ⟨ba s.env o.dst v,o',nx'⟩) (fun v o' nx'=>X v ⟨s.env,o',nx'⟩)
     |none=>False
   |_=>UB P s s.nx o.op fun v Δ _=>K ⟨ba s.env o.dst v,put s.o Δ,s.nx+1⟩
 | .panic x=>match s.ev x with
   | .d (.iface t y)=>X (.d (.iface t y)) s
   | .iface t y=>X (.iface t y) s
   |_=>False
 |op=>UB P s s.nx op fun v Δ _=>K ⟨ba s.env o.dst v,put s.o Δ,s.nx+1⟩
def Bh(s:S)(ops:Array Oper)(g:Option (Nat×Bool))(A B:Prop):Prop:=
 match g with
 |none=>A
 |some (j,want)=>match uz ops j with
  |some d=>match s.env d with
   | .d (.bool b)=>(b=want->A)/\(b≠want->B)
   | .cf []=>B
   |_=>False
  |none=>B
def Bi(P:Program)(n:Nat)(ops:Array Oper)(X:V->S->Prop)(K:S->Prop):List Oper->S->Prop
 |[],s=>K s
 |o::l,s=>Bh s ops o.guard (opW P n s o X (Bi P n ops X K l)) (iC n o.dst/\Bi P n ops X K l ⟨ba s.env o.dst (.cf []),s.o,s.nx+1⟩)
def bM(b:Nat)(s s':S):Prop:=
 ∀ (M:Nat->Prop) (φ:Place) (w:World) (tm:Nat->Value),aB M φ s.H w->(∀i,V.den (aq M φ s.H) φ s.H w (s.env i) (tm i))->
   ∃aI,aB M aI s'.H w/\(∀i,V.den (aq M aI s'.H) aI s'.H w (s'.env i) (tm i))/\(∀k,cO aI s'.H k->cO φ s.H k)/\b<=s'.nx/\
    (∀id,id<b->(s'.o id).cF=true->(s.o id).cF=true/\aI id=φ id)/\
    (∀id e',id<b->(s'.o id).cu=some e'->∃e,(s.o id).cu=some e/\e<=e'/\(e=e'->aI id=φ id))
def rO(K:S->Prop)(Q:gr->S->Prop)(e:gr)(s:S):Prop:=match e with| .normal=>K s|e=>Q e s
def gu(id:Nat)(Q:gr->S->Prop)(e:gr)(s:S):Prop:=match e with| .exit j=>if j=id then Q .normal s else Q (.exit j) s|e=>Q e s
def ni(P:Program)(s:S):List ResultVar->Option (List V)
 |[]=>some []
 | .tmp t::rs=>(ni P s rs).map (s.env t::·)
 | .cell a t::rs=>match s.env a with
   | .ptr id off=>match s.o id with
     | .row cs=>(fF P t cs off).bind fun v=>(ni P s rs).map (v::·)
     |_=>none
   |_=>none
def cG(vs:List V):Nat->V:=fun i=>vs.getD i (.cf [])
def Bj(P:Program)(rs:List ResultVar)(out:R)(e:gr)(s:S):Prop:=
 match e with
 | .normal| .ret=>match ni P s rs with
   |some vs=>match cA s.o vs with
    |some ds=>out= .ret ds
    |none=>False
   |none=>False
 | .bU v=>match ef s.o v with
   |some x=>out= .bU x
   |none=>False
 | .exit _=>False
theorem Ng{P:Program}{rs:List ResultVar}{out:R}{s:S}(h:match ni P s rs with
 |some vs=>match cA s.o vs with
  |some ds=>out= .ret ds
  |none=>False
 |none=>False):∃vs ds,ni P s rs=some vs/\cA s.o vs=some ds/\out= .ret ds:=by
 split at h
 ·rename_i vs h1
  split at h
  ·rename_i xs h2;exact⟨vs,xs,h1,h2,h⟩
  ·exact h.elim
 ·exact h.elim
theorem Nh{out:R}{s:S}{v:V}(h:match ef s.o v with
 |some x=>out= .bU x
 |none=>False):∃x,ef s.o v=some x/\out= .bU x:=by
 split at h
 ·rename_i x h1;exact⟨x,h1,h⟩
 ·exact h.elim
section
section
variable {P:Program}{M:Nat->Prop}{φ:Place}{H:Hp}{w w':World}
def aa.mD:aa->Bool
 | .arr .. =>true
 |_=>false
theorem Q7(o:Nat->aa)(ids:List Nat):tp o ids=bK o (ids.filter fun id=>(o id).mD):=by
 induction ids with
 |nil=>rfl
 |cons id ids ih=>
  unfold tp at ih|-
  simp only[List.filterMap_cons,List.filter_cons]
  cases hx:o id with
  |arr ep ty sz es=>
   have e:(aa.arr ep ty sz es).mD=true:=rfl
   rw[e,if_pos rfl,ih]
   simp only[bK,List.map_cons,hx]
  |_=>exact ih
theorem lB(hH:aB M φ H w){us':Nat->Prop}(h:∀id,H.us id->us' id):aB M φ ⟨H.o,us'⟩ w/\Trans φ H w φ ⟨H.o,us'⟩ w:=by
 have ht:Trans φ H w φ ⟨H.o,us'⟩ w:=⟨dZ.refl _ _,fun b hb=> .inl hb,⟨h,fun id _ hr=>⟨hr,rfl⟩,fun id e' _ he=>⟨e',he,Nat.le_refl _,fun _=>rfl⟩⟩⟩
 exact⟨hH.of ht (fun _=>False) (fun _ h=>h.elim) (fun id _=>⟨rfl,rfl,fun _ _ _=>rfl⟩) (fun id hn=>hH.fresh id fun hu=>hn (h id hu)) hH.apart (fun b hb=>(hH.ours b hb).2),ht⟩
theorem hU(hH:aB M φ H w)(hk:dZ (fun _=>False) w w'):aB M φ H w'/\Trans φ H w φ H w':=by
 have ht:Trans φ H w φ H w':=⟨⟨hk.os,hk.tape,hk.output,hk.size,fun k h _=>hk.block k h fun h=>h⟩,fun b hb=> .inl hb,eH.refl _ _⟩
 exact⟨hH.of ht (fun _=>False) (fun _ h=>h.elim) (fun id _=>⟨rfl,rfl,fun hl b hb=>hk.block b (hH.ours b ⟨id,hl,hb⟩).2 fun h=>h⟩) hH.fresh hH.apart (fun b hb=>Nat.lt_of_lt_of_le (hH.ours b hb).2 hk.size),ht⟩
theorem mE{Δ:List (Nat×aa)}(h:∀id∈Δ.map (·.1),H.us id):H.put Δ=⟨put H.o Δ,H.us⟩:=by
 unfold Hp.put
 congr 1
 funext id
 simp only[eq_iff_iff]
 exact⟨fun h'=>h'.elim (fun h=>h) (h id), .inl⟩
theorem vE(o:Nat->aa)(ids:List Nat):(bK o ids).map (·.1)=ids:=by
 rw[m7];simp[Function.comp_def]
structure Cx where
 base:List Deferred
 rd:Bool
def eB(ro:Option Nat):Fence:={fn:=fun _=>True,depth:=none,alive:=false,round:=ro}
def mark(r:Nat):Deferred:={target:= .collected r,args:=#[]}
def wS(cx:Cx)(w0:World)(φ:Place)(H:Hp)(w:World)(ds:List Deferred):Prop:=
 ∃ms:List Nat,ds=ms.map mark++cx.base/\ms.Nodup/\(cx.rd=true->ms=[])/\∀r∈ms,w0.heap.size<=r/\w.heap[r]? =some (.deferred (some []))/\ ¬cO φ H r
theorem wS.mono {cx:Cx}{w0:World}{φ aI:Place}{H H':Hp}{w w':World}{ds:List Deferred}(ht:Trans φ H w aI H' w')(h:wS cx w0 φ H w ds):wS cx w0 aI H' w' ds:=by
 obtain⟨ms,h1,h2,h3,h4⟩:=h
 refine⟨ms,h1,h2,h3,fun r hr=> ?_⟩
 obtain⟨g1,g2,g3⟩:=h4 r hr
 have cD:r<w.heap.size:=by
  rcases Nat.lt_or_ge r w.heap.size with hl|hl
  ·exact hl
  ·rw[Array.getElem?_eq_none hl]at g2;cases g2
 refine⟨g1,(ht.cP.block r cD g3).trans g2,fun hl=> ?_⟩
 rcases ht.grow r hl with h|h
 ·exact g3 h
 ·omega
structure cB (M:Nat->Prop) (cY:Place) (H0:Hp) (w0:World) (n:Nat) (cx:Cx) (φ:Place) (s:S) (a:Act) (w:World):Prop where
 heap:aB M φ s.H w
 tr:Trans cY H0 w0 φ s.H w
 size:a.tmps.size=n
 defers:wS cx w0 φ s.H w a.defers
 env:∀i,V.den (aq M φ s.H) φ s.H w (s.env i) (a.tmps.getD i undef)
variable {cY:Place}{H0:Hp}{w0:World}{n:Nat}{s:S}{a:Act}{cx:Cx}{ro:Option Nat}{k:Nat}
theorem dC{f:FuncId}{args:Array Value}{R:Ending->World->Prop}(h:Calls P f args w R):CallsIn (eB ro) k P f args w R:=
 ⟨trivial,fun cs _=>let⟨e,w',fr,r,s,x⟩:=h cs;⟨e,w',fr,r,comesIn_wide.2 s,x⟩⟩
theorem Dr{f:FuncId}{args:Array Value}{R:Ending->World->Prop}(h:CallsIn (eB ro) k P f args w R):Calls P f args w R:=
 fun cs=>let⟨e,w',fr,r,s,x⟩:=h.2 cs (fun _ h=>by simp[eB]at h);⟨e,w',fr,r,comesIn_wide.1 s,x⟩
theorem lH{o:Oper}{next:Act->World->Prop}{Q:Exit->Act->World->Prop}(yR:∀c,o.op≠ .defer c)(h:o.uponIn (eB ro) k P a next Q ((execOp a.eval o).run P w)):o.wpIn (eB ro) k P a w next Q:=
 ⟨fun _ _=>trivial,by rw[Oper.semAt_eq _ _ _ yR];exact h⟩
theorem o9(hs:cB M cY H0 w0 n cx φ s a w){aI:Place}{H':Hp}(hH:aB M aI H' w')(ht:Trans φ s.H w aI H' w'){v:V}{val:Value}(hd:V.den (aq M aI H') aI H' w' v val){dst:Option Tmp}(dq:iC n dst)
 {o':Nat->aa} {nx':Nat} (ho:H'.o=o') (hu:∀id,H'.us id->id<nx'):cB M cY H0 w0 n cx aI ⟨ba s.env dst v,o',nx'⟩ (a.put dst val) w':=by
 obtain⟨k1,k2⟩:=lB hH hu
 subst ho
 refine⟨k1,hs.tr.trans (ht.trans k2), ?_, ?_,fun i=> ?_⟩
 ·cases dst<;>simp[Act.put,hs.size]
 ·have:=hs.defers.mono (ht.trans k2);cases dst<;>exact this
 ·cases dst with
  |none=>exact QF
  |some d=>
   simp only[iC]at dq
   simp only[ba,aQ,Act.put]
   by_cases hi:i=d
   ·subst hi
    have h1:(a.tmps.setIfInBounds i val).getD i undef=val:=by simp[Array.getD,hs.size,dq]
    rw[if_pos rfl,h1]
    exact V.aV k2 _ _ hd
   ·have h1:(a.tmps.setIfInBounds d val).getD i undef=a.tmps.getD i undef:=by
     exact Xh
    rw[if_neg hi,h1]
    exact QF
theorem fC(hs:cB M cY H0 w0 n cx φ s a w){aI:Place}{H':Hp}(hH:aB M aI H' w')(ht:Trans φ s.H w aI H' w'){o':Nat->aa}{nx':Nat}(ho:H'.o=o')(hu:∀id,H'.us id->id<nx'):
 cB M cY H0 w0 n cx aI ⟨s.env,o',nx'⟩ a w':=by
 obtain⟨k1,k2⟩:=lB hH hu
 subst ho
 exact⟨k1,hs.tr.trans (ht.trans k2),hs.size,hs.defers.mono (ht.trans k2),fun i=>V.aV (ht.trans k2) _ _ (hs.env i)⟩
theorem Ni{Δ:List (Nat×aa)}(h:∀id∈Δ.map (·.1),s.H.us id\/id=s.nx)(id:Nat)(hu:(s.H.put Δ).us id):id<s.nx+1:=by
 rcases hu with hu|hu
 ·exact Nat.lt_succ_of_lt hu
 ·rcases h id hu with h|h
  ·exact Nat.lt_succ_of_lt h
  ·omega
variable {next:Act->World->Prop}{Q:Exit->Act->World->Prop}{X:V->S->Prop}{K:S->Prop}
theorem Nj(hs:cB M cY H0 w0 n cx φ s a w){o:Oper}{op:Op}(gX:o.op=op)(dq:iC n o.dst)(h:UB P s s.nx op fun v Δ _=>K ⟨ba s.env o.dst v,put s.o Δ,s.nx+1⟩)
 (hN:∀s' aI a' w',K s'->cB M cY H0 w0 n cx aI s' a' w'->next a' w'):o.wpIn (eB ro) k P a w next Q:=by
 obtain⟨nx,val,w',aI,v,Δ,rd,hK,hr,vl,g1,g2,g3,g4⟩:=zR hs.heap (s:=s) rfl hs.env (fr:=s.nx) (by simp[S.H]) gX h
 have vm:=o9 hs g1 g2 g3 dq (o':=put s.o Δ) (nx':=s.nx+1) rfl (Ni g4)
 refine lH (fun c hc=>by rw[gX]at hc;subst hc;exact h) ?_
 rw[hr]
 rcases vl with rfl|⟨rfl,rfl⟩
 ·exact hN _ _ _ _ hK vm
 ·exact hN _ _ _ _ hK vm
theorem V.rm {B:Nat->Prop}{cC bs cs:List V}{u v x:List Value}(h1:V.aG B φ H w cC u)(h2:V.aG B φ H w bs v)(h3:V.aG B φ H w cs x):V.aG B φ H w (cC++bs++cs) (u++v++x):=
 V.bg _ _ _ _ (V.bg _ _ _ _ h1 h2) h3
theorem mF{f:FuncId}(h:Enters P f)(args:Array Value):(callFunc f args).run P w= .ok (.enter f args) w:=by
 obtain⟨fn,h1,h2,h3⟩:=h
 have l7:fn.name≠ "runtime.NumGoroutine" :=by simpa using h2
 have j7:fn.body≠none:=fun h=>by rw[h]at h3;cases h3
 simp[callFunc,h1,l7,j7]
theorem nV:∀ {rs:List D} {val:Value},R.is (aq M φ H) w (.ret rs) (.returned val)->V.den (aq M φ H) φ H w (jM rs) val
 |[],_,h=>by obtain⟨arr,rfl,h⟩:=h;exact⟨arr,rfl,h⟩
 |[x],_,h=>h
 |x::y::l,_,h=>by obtain⟨arr,rfl,h⟩:=h;exact⟨arr,rfl,(V.cT (x::y::l) _).2 h⟩
theorem R.Bk {B B':Nat->Prop}:∀ {out:R} {e:Ending},out.flat=true->out.is B w e->out.is B' w e
 | .ret [], .returned _,_,h=>by obtain⟨arr,rfl,h⟩:=h;exact⟨arr,rfl,h⟩
 | .ret [x], .returned _,hf,h=>by
   simp only[R.flat,D.kN,Bool.and_true]at hf
   exact D.rM x _ hf h
 | .ret (x::y::l), .returned _,hf,h=>by obtain⟨arr,rfl,h⟩:=h;exact⟨arr,rfl,D.ng (x::y::l) _ hf h⟩
 | .bU d, .panicked _,hf,h=>by obtain⟨v,rfl,h⟩:=h;exact⟨v,rfl,D.rM d v hf h⟩
 | .ret [], .panicked _,_,h| .ret [_], .panicked _,_,h| .ret (_::_::_), .panicked _,_,h| .ret [], .outgrown,_,h| .ret [_], .outgrown,_,h| .ret (_::_::_), .outgrown,_,h| .bU _, .returned _,_,h| .bU _, .outgrown,_,h=>h.elim
theorem R.Nk {B B':Nat->Prop}{w':World}(hb:∀b,rp w' b-> ¬B b-> ¬B' b):∀ {out:R} {e:Ending},out.oo=true->out.is B w' e->out.is B' w' e
 | .ret [], .returned _,_,h=>by obtain⟨arr,rfl,h⟩:=h;exact⟨arr,rfl,h⟩
 | .ret [x], .returned _,hf,h=>by
   simp only[R.oo,D.nh,Bool.and_true]at hf
   exact D.mC (fun b hc hn=>⟨rfl,hb b hc hn⟩) x _ hf h
 | .ret (x::y::l), .returned _,hf,h=>by obtain⟨arr,rfl,h⟩:=h;exact⟨arr,rfl,D.oq (fun b hc hn=>⟨rfl,hb b hc hn⟩) (x::y::l) _ hf h⟩
 | .bU d, .panicked _,hf,h=>by obtain⟨v,rfl,h⟩:=h;exact⟨v,rfl,D.mC (fun b hc hn=>⟨rfl,hb b hc hn⟩) d v hf h⟩
 | .ret [], .panicked _,_,h| .ret [_], .panicked _,_,h| .ret (_::_::_), .panicked _,_,h| .ret [], .outgrown,_,h| .ret [_], .outgrown,_,h| .ret (_::_::_), .outgrown,_,h| .bU _, .returned _,_,h| .bU _, .outgrown,_,h=>h.elim
theorem Nl(hH:aB M φ H w){o:Nat->aa}:∀ (vs:List V) (vals:List Value),(∀id∈dD o vs,H.o id=(o id).fz)->V.aG (aq M φ H) φ H w vs vals->V.aG (aq M φ H) φ H w (vs.map (Nf o)) vals
 |[],_,_,h=>h
 |v::vs,_,ho,h=>by
  obtain⟨u,us,rfl,h1,h2⟩:=h
  refine⟨u,us,rfl, ?_,Nl hH vs us (fun id ay=>ho id (by simp[dD,ay])) h2⟩
  unfold Nf
  split
  ·rename_i x hx
   exact fg hH v x u (fun id ay=>ho id (by simp[dD,hx,ay])) hx h1
  ·exact h1
theorem iD:∀ (vs:List V) (vals:List Value) (o:Nat->aa),V.aG (aq M φ H) φ H w vs vals->∀id∈dD o vs,H.us id
 |[],_,_,_,j,hj=>by simp[dD]at hj
 |v::vs,_,o,h,j,hj=>by
  obtain⟨u,us,rfl,h1,h2⟩:=h
  simp only[dD,List.mem_append]at hj
  rcases hj with hj|hj
  ·cases hx:ef o v with
   |none=>simp[hx]at hj
   |some x=>simp only[hx]at hj;exact c6 v u h1 j hj
  ·exact iD vs us o h2 j hj
theorem zS(hs:cB M cY H0 w0 n cx φ s a w){o:Oper}{g:FuncId}{all:List V}{vals:Array Value}(dq:iC n o.dst)(fW:Enters P g->(execOp a.eval o).run P w= .ok (.enter g vals) w)(bu:V.aG (aq M φ s.H) φ s.H w all vals.toList)
 (h:bJ P g all s.o s.nx (fun v o' nx'=>K ⟨ba s.env o.dst v,o',nx'⟩) (fun v o' nx'=>X v ⟨s.env,o',nx'⟩))
 (hN:∀s' aI a' w',K s'->cB M cY H0 w0 n cx aI s' a' w'->next a' w')
 (hQ:∀v s' aI w' val,X v s'->cB M cY H0 w0 n cx aI s' a w'->V.den (aq M aI s'.H) aI s'.H w' v val->Q (.panic [{v:=val,recovered:=false}]) a w'):o.uponIn (eB ro) k P a next Q ((execOp a.eval o).run P w):=by
 have fK:=h.2 M φ w vals hs.heap bu
 rw[fW h.1]
 refine⟨fun hd=>by simp[eB]at hd,dC (fK.mono fun e w' ⟨aI,o',nx',v,k1,k2,k3⟩=> ?_)⟩
 cases e with
 |returned val=>exact TN
 |panicked ch=>
  obtain⟨val,rfl,k4,k5⟩:=k3
  exact Tp
 |outgrown=>exact k3.elim
theorem Ds(hs:cB M cY H0 w0 n cx φ s a w){o:Oper}{g:FuncId}{all:List V}{vals:Array Value}(dq:iC n o.dst)(fW:Enters P g->(execOp a.eval o).run P w= .ok (.enter g vals) w)(bu:V.aG (aq M φ s.H) φ s.H w all vals.toList)
 (h:wQ P s g all (fun v o' nx'=>K ⟨ba s.env o.dst v,o',nx'⟩) (fun v o' nx'=>X v ⟨s.env,o',nx'⟩))
 (hN:∀s' aI a' w',K s'->cB M cY H0 w0 n cx aI s' a' w'->next a' w')
 (hQ:∀v s' aI w' val,X v s'->cB M cY H0 w0 n cx aI s' a w'->V.den (aq M aI s'.H) aI s'.H w' v val->Q (.panic [{v:=val,recovered:=false}]) a w'):o.uponIn (eB ro) k P a next Q ((execOp a.eval o).run P w):=by
 unfold wQ at h
 obtain⟨f1,f2,f3,f4,f5⟩:=dh hs.heap (V.bw all) (dw all _ bu)
 have ft:s.H.put (bK s.H.o (V.bw all))=⟨put s.o (bK s.o (V.bw all)),s.H.us⟩:=mE Ms
 have ou:=V.aW f2 _ _ bu
 rcases h with⟨ds,out,fT,hP,hK⟩|⟨ds,out,fT,hP,re,hK⟩|⟨ds,out,fT,hP,yS,hK⟩|hC|hC
 ·have zI:=dN f1 all ds _ f3 fT ou
  have hM:∀b,aq M φ (s.H.put (bK s.H.o (V.bw all))) b->b<w.heap.size:=fun b hb=>hb.elim (f1.Cy b) fun hl=>(f1.ours b hl).2
  have fK:=hP.2 _ w vals hM zI
  rw[fW hP.1]
  refine⟨fun hd=>by simp[eB]at hd,dC (fK.mono fun e w' ⟨hk,ho⟩=> ?_)⟩
  obtain⟨k1,k2⟩:=hU f1 hk
  cases out with
  |ret rs=>
   cases e with
   |returned val=>
    refine hN _ _ _ _ hK (o9 hs k1 (f2.trans k2) (nV ho) dq (by rw[ft]) ?_)
    intro id hu;rw[ft]at hu;exact Nat.lt_succ_of_lt hu
   |panicked ch=>exact yE
   |outgrown=>exact yE
  |bU x=>
   cases e with
   |returned val=>exact ho.elim
   |panicked ch=>
    obtain⟨val,rfl,hd⟩:=ho
    have vm:=fC hs k1 (f2.trans k2) (o':=put s.o (bK s.o (V.bw all))) (nx':=s.nx+1) (by rw[ft]) (fun id hu=>by rw[ft]at hu;exact Nat.lt_succ_of_lt hu)
    refine hQ _ _ _ _ val hK vm ?_
    have e1:aq M φ (S.H ⟨s.env,put s.o (bK s.o (V.bw all)),s.nx+1⟩)=aq M φ (s.H.put (bK s.H.o (V.bw all))):=by rw[ft];rfl
    simp only[V.den]
    rw[e1];exact hd
   |outgrown=>exact ho.elim
 ·have zI:=dN f1 all ds _ f3 fT ou
  have hM:∀b,aq M φ (s.H.put (bK s.H.o (V.bw all))) b->b<w.heap.size:=fun b hb=>hb.elim (f1.Cy b) fun hl=>(f1.ours b hl).2
  have fK:=hP.2 _ w vals hM zI
  rw[fW hP.1]
  refine⟨fun hd=>by simp[eB]at hd,dC (fK.mono fun e w' ⟨hk,ho⟩=> ?_)⟩
  obtain⟨k1,k2⟩:=hU hs.heap hk
  have ho:=R.Bk (B':=aq M φ s.H) re ho
  cases out with
  |ret rs=>
   cases e with
   |returned val=>
    exact hN _ _ _ _ hK (o9 hs k1 k2 (nV ho) dq rfl fun id hu=>Nat.lt_succ_of_lt hu)
   |panicked ch=>exact yE
   |outgrown=>exact yE
  |bU x=>
   cases e with
   |returned val=>exact ho.elim
   |panicked ch=>
    obtain⟨val,rfl,hd⟩:=ho
    exact hQ _ _ _ _ val hK (fC hs k1 k2 (o':=s.o) (nx':=s.nx+1) rfl fun id hu=>Nat.lt_succ_of_lt hu) hd
   |outgrown=>exact ho.elim
 ·obtain⟨a1,a2,a3,a4,a5⟩:=dh hs.heap ((V.bw all).filter fun id=>(s.o id).mD) (fun id ay=>dw all _ bu id (List.mem_filter.1 ay).1)
  have Dt:s.H.put (bK s.H.o ((V.bw all).filter fun id=>(s.o id).mD))=⟨put s.o (tp s.o (V.bw all)),s.H.us⟩:=by
   rw[Q7]
   exact mE (by rw[vE];exact fun id ay=>dw all _ bu id (List.mem_filter.1 ay).1)
  have zI:=dN f1 all ds _ f3 fT ou
  have hM:∀b,aq M φ (s.H.put (bK s.H.o (V.bw all))) b->b<w.heap.size:=fun b hb=>hb.elim (f1.Cy b) fun hl=>(f1.ours b hl).2
  have fK:=hP.2 _ w vals hM zI
  rw[fW hP.1]
  refine⟨fun hd=>by simp[eB]at hd,dC (fK.mono fun e w' ⟨hk,ho⟩=> ?_)⟩
  obtain⟨k1,k2⟩:=hU a1 hk
  have vf:∀b,rp w' b-> ¬aq M φ (s.H.put (bK s.H.o (V.bw all))) b-> ¬aq M φ (s.H.put (bK s.H.o ((V.bw all).filter fun id=>(s.o id).mD))) b:=by
   intro b hc hn hm
   rcases hm with hM|⟨id,hl,hb⟩
   ·exact hn (.inl hM)
   ·by_cases ay:id∈V.bw all
    ·cases hx:s.H.o id with
     |arr ep ty sz es=>
      rw[a3 id (List.mem_filter.2 ⟨ay,by show(s.H.o id).mD=true;rw[hx];rfl⟩),hx]at hl
      cases hl
     |map kt vt l=>
      have kZ:id∉(V.bw all).filter fun id=>(s.o id).mD:=fun h=>by
       have h2:(s.H.o id).mD=true:=(List.mem_filter.1 h).2
       rw[hx]at h2;cases h2
      have a8:=k1.ok id
      unfold aU at a8
      rw[a4 id kZ,hx]at a8
      obtain⟨b',es,clock,g1,g2,_⟩:=a8
      rw[g1]at hb
      injection hb with hb
      subst hb
      obtain⟨cs,ty,fz,hc⟩:=hc
      rw[g2]at hc
      cases hc
     |_=>
      have kZ:id∉(V.bw all).filter fun id=>(s.o id).mD:=fun h=>by
       have h2:(s.H.o id).mD=true:=(List.mem_filter.1 h).2
       rw[hx]at h2;cases h2
      refine hn (.inr ⟨id, ?_,hb⟩)
      rw[a4 id kZ,hx]at hl
      rw[f3 id ay,hx]
      exact hl
    ·have kZ:id∉(V.bw all).filter fun id=>(s.o id).mD:=fun h=>ay (List.mem_filter.1 h).1
     refine hn (.inr ⟨id, ?_,hb⟩)
     rw[a4 id kZ]at hl
     rw[f4 id ay]
     exact hl
  have ho:=R.Nk (w':=w') (B':=aq M φ (s.H.put (bK s.H.o ((V.bw all).filter fun id=>(s.o id).mD)))) vf yS ho
  cases out with
  |ret rs=>
   cases e with
   |returned val=>
    refine hN _ _ _ _ hK (o9 hs k1 (a2.trans k2) (nV ho) dq (by rw[Dt]) ?_)
    intro id hu;rw[Dt]at hu;exact Nat.lt_succ_of_lt hu
   |panicked ch=>exact yE
   |outgrown=>exact yE
  |bU x=>
   cases e with
   |returned val=>exact ho.elim
   |panicked ch=>
    obtain⟨val,rfl,hd⟩:=ho
    have vm:=fC hs k1 (a2.trans k2) (o':=put s.o (tp s.o (V.bw all))) (nx':=s.nx+1) (by rw[Dt]) (fun id hu=>by rw[Dt]at hu;exact Nat.lt_succ_of_lt hu)
    refine hQ _ _ _ _ val hK vm ?_
    have e1:aq M φ (S.H ⟨s.env,put s.o (tp s.o (V.bw all)),s.nx+1⟩)=aq M φ (s.H.put (bK s.H.o ((V.bw all).filter fun id=>(s.o id).mD))):=by rw[Dt];rfl
    simp only[V.den]
    rw[e1];exact hd
   |outgrown=>exact ho.elim
 ·exact zS hs dq fW bu hC hN hQ
 ·obtain⟨f1,f2,f3,f4,f5⟩:=dh hs.heap (dD s.o all) (iD all _ s.o bu)
  have ft:s.H.put (bK s.H.o (dD s.o all))=hp (put s.o (bK s.o (dD s.o all))) s.nx:=mE (by rw[vE];exact iD all _ s.o bu)
  have ou:=Nl f1 all _ f3 (V.aW f2 _ _ bu)
  rw[ft]at f1 f2 ou
  exact zS (s:=⟨s.env,put s.o (bK s.o (dD s.o all)),s.nx⟩) (fC hs f1 f2 rfl fun id hu=>hu) dq fW ou hC hN hQ
theorem Q8(hs:cB M cY H0 w0 n cx φ s a w){o:Oper}{c:Call}{f:Operand}(gX:o.op= .call c)(hc:c.callee= .value f)(dq:iC n o.dst)
 (h:Dq P s (s.ev f) (c.args.toList.map s.ev) (fun v o' nx'=>K ⟨ba s.env o.dst v,o',nx'⟩) (fun v o' nx'=>X v ⟨s.env,o',nx'⟩))
 (hN:∀s' aI a' w',K s'->cB M cY H0 w0 n cx aI s' a' w'->next a' w')
 (hQ:∀v s' aI w' val,X v s'->cB M cY H0 w0 n cx aI s' a w'->V.den (aq M aI s'.H) aI s'.H w' v val->Q (.panic [{v:=val,recovered:=false}]) a w'):o.wpIn (eB ro) k P a w next Q:=by
 refine lH (fun c' zT=>by rw[gX]at zT;cases zT) ?_
 have hf:=n6 (M:=M) (φ:=φ) (H:=s.H) (w:=w) s a hs.env f
 have dV:=lE (M:=M) (φ:=φ) (H:=s.H) (w:=w) s a hs.env c.args.toList
 unfold Dq at h
 split at h
 ·rename_i g first cap yG
  rw[yG]at hf
  obtain⟨fa,ca,Q9,Fo,hca⟩:=hf
  have bu:V.aG (aq M φ s.H) φ s.H w (first++c.args.toList.map s.ev++cap) (fa++c.args.map a.eval++ca).toList:=by
   exact T3
  generalize first++c.args.toList.map s.ev++cap=all at h bu
  generalize kF:fa++c.args.map a.eval++ca=vals at bu
  have fW:Enters P g->(execOp a.eval o).run P w= .ok (.enter g vals) w:=by
   intro he
   have:=mF (w:=w) he (fa++c.args.map a.eval++ca)
   rw[kF]at this
   simp[execOp,gX,resolve,hc,Q9,Deferred.ofValue,invoke,this,kF]
  exact Ds hs dq fW bu h hN hQ
 ·rename_i id yG
  rw[yG]at hf
  obtain⟨_,eE,hp'⟩:=hf
  obtain⟨cL,hR⟩:=h
  obtain⟨b,fA,Q9⟩:=hp' cL
  obtain⟨fn,tmps,assign,body,h1,h2⟩:=hR M φ w (c.args.map a.eval) b hs.heap (by rw[Array.toList_map];exact dV) fA
  have fW:(execOp a.eval o).run P w= .ok (.round b fn tmps assign body) w:=by
   simp[execOp,gX,resolve,hc,Q9,Deferred.ofValue,invoke,h1]
  rw[fW]
  refine⟨fun hd=>by simp[eB]at hd,RoundIn.mono (h2 (k - 1)) fun e w' ⟨aI,o',nx',v,k1,k2,k3⟩=> ?_⟩
  cases e with
  |returned val=>exact TN
  |panicked ch=>
   obtain⟨val,rfl,k4,k5⟩:=k3
   exact Tp
  |outgrown=>exact k3.elim
 ·exact h.elim
theorem KJ(hs:cB M cY H0 w0 n cx φ s a w){o:Oper}{c:Call}{r:Operand}{m:String}{g:FuncId}{y:V}(gX:o.op= .call c)(hc:c.callee= .invoke r m)(dq:iC n o.dst)(hr:wR P m (s.ev r)=some (g,y))
 (h:wQ P s g (y::c.args.toList.map s.ev) (fun v o' nx'=>K ⟨ba s.env o.dst v,o',nx'⟩) (fun v o' nx'=>X v ⟨s.env,o',nx'⟩))
 (hN:∀s' aI a' w',K s'->cB M cY H0 w0 n cx aI s' a' w'->next a' w')
 (hQ:∀v s' aI w' val,X v s'->cB M cY H0 w0 n cx aI s' a w'->V.den (aq M aI s'.H) aI s'.H w' v val->Q (.panic [{v:=val,recovered:=false}]) a w'):o.wpIn (eB ro) k P a w next Q:=by
 refine lH (fun c' zT=>by rw[gX]at zT;cases zT) ?_
 have hf:=n6 (M:=M) (φ:=φ) (H:=s.H) (w:=w) s a hs.env r
 have dV:=lE (M:=M) (φ:=φ) (H:=s.H) (w:=w) s a hs.env c.args.toList
 unfold wR at hr
 split at hr
 ·rename_i t d hx
  rw[hx]at hf
  obtain⟨val,hv,hd⟩:=hf
  split at hr
  ·rename_i ti hti
   split at hr
   ·rename_i mr vL
    split at hr
    ·rename_i f FH
     split at hr
     ·rename_i UL
      injection hr with hr
      injection hr with h1 h2
      subst h1;subst h2
      refine Ds (vals:=#[val]++c.args.map a.eval) hs dq ?_ ?_ h hN hQ
      ·intro he
       have fW:=mF (w:=w) he (#[val]++c.args.map a.eval)
       have hpa:mr.path=#[]:=Array.isEmpty_iff.1 UL.1
       have hu:∃u,P.underlying t=some u/\∀e,u≠ .pointer e:=by
        have:=UL.2
        unfold UK at this
        split at this
        ·cases this
        ·rename_i u fS hu;exact⟨u,hu,fun e he=>fS e he⟩
        ·cases this
       obtain⟨u,hu,UM⟩:=hu
       have hm:(method (P.types.size+Made.depth) t val m).run P w= .ok (f,val) w:=by
        have:P.types.size+Made.depth=(P.types.size+Made.depth - 1)+1:=by simp[Made.depth]
        rw[this]
        cases u<;>first|exact absurd rfl (UM _)|simp[method,typeInfo,hti,vL,hpa,FH,follow,receiverAt,run_underlying hu,_root_.Go.Place.get]
       have h0:(#[Value.iface t val]++Array.map a.eval c.args)[0]? =some (.iface t val):=by
        rw[Array.getElem?_append_left (by simp)];rfl
       have h1:(Array.map a.eval c.args).extract 0 c.args.size=Array.map a.eval c.args:=by
        rw[show c.args.size=(Array.map a.eval c.args).size from by simp,Array.extract_size]
       simp[execOp,gX,resolve,hc,invoke,callMethod,hv,h0,h1,hm,fW]
      ·simp only[Array.toList_append,Array.toList_map]
       exact⟨val,_,rfl,hd,dV⟩
     ·cases hr
    ·cases hr
   ·cases hr
  ·cases hr
 ·cases hr
theorem zU(hs:cB M cY H0 w0 n cx φ s a w){o:Oper}(h:opW P n s o X K)
 (hN:∀s' aI a' w',K s'->cB M cY H0 w0 n cx aI s' a' w'->next a' w')
 (hQ:∀v s' aI w' val,X v s'->cB M cY H0 w0 n cx aI s' a w'->V.den (aq M aI s'.H) aI s'.H w' v val->Q (.panic [{v:=val,recovered:=false}]) a w'):o.wpIn (eB ro) k P a w next Q:=by
 obtain⟨dq,h⟩:=h
 split at h
 ·rename_i c gX
  split at h
  ·rename_i f hc
   exact Q8 hs gX hc dq h hN hQ
  ·rename_i r m hc
   split at h
   ·rename_i g y hr;exact KJ hs gX hc dq hr h hN hQ
   ·exact h.elim
  ·exact Nj hs rfl dq h hN
 ·rename_i x gX
  have hx:=n6 (M:=M) (φ:=φ) (H:=s.H) (w:=w) s a hs.env x
  have bU:∀ (t:TypeId) (u:Value),a.eval x= .iface t u->Q (.panic [{v:= .iface t u,recovered:=false}]) a w->o.wpIn (eB ro) k P a w next Q:=by
   intro t u hu hq
   refine lH (fun c hc=>by rw[gX]at hc;cases hc) ?_
   have hr:(execOp a.eval o).run P w= .halt (.panic (.iface t u)) w:=by simp[execOp,gX,hu,Instr.panic]
   rw[hr];exact hq
  split at h
  ·rename_i t y hv
   rw[hv]at hx
   obtain⟨u,hu,hd⟩:=hx
   exact TV
  ·rename_i t y hv
   rw[hv]at hx
   obtain⟨u,hu,hd⟩:=hx
   exact TV
  ·exact h.elim
 ·exact Nj hs rfl dq h hN
end
end
end Go.Proofs.YtlhemmpklhhgoaaGreat
namespace Go
def Code.vn (P:Program)(ro:Option Nat)(c:Code)(Q:Exit->Act->World->Prop)(a:Act)(w:World):Prop:=
 ∀ (b:Frame) (k:List Item) (cs:List Frame),b.roundOf=ro->b.fn<P.funcs.size->
   ∃e a' w',Q e a' w'/\ArrivesIn (Machine.fenced P (Proofs.YtlhemmpklhhgoaaGreat.eB ro)) P (lone (b.atR a (.code c::k)) cs w) b k cs e a' w'
end Go
namespace Go.Proofs.YtlhemmpklhhgoaaGreat
instance:LawfulMonad Sem:=LawfulMonad.mk' Sem (id_map:=fun x=>Sem.bind_pure' x) (pure_bind:=fun _ _=>rfl) (bind_assoc:=fun x f g=>Sem.bind_assoc' x f g)
section
variable {P:Program}{M:Nat->Prop}{φ:Place}{H:Hp}{w w':World}{cY:Place}{H0:Hp}{w0:World}{n b:Nat}{s:S}{a:Act}{cx:Cx}{ro:Option Nat}{k:Nat}
theorem rP(hs:cB M cY H0 w0 n cx φ s a w){ops:Array Oper}{o:Oper}{A B:Prop}(h:Bh s ops o.guard A B):
 (Region.wanted o (yielded ops a.tmps)=true->A)/\(Region.wanted o (yielded ops a.tmps)=false->B):=by
 unfold Bh at h
 unfold Region.wanted
 split at h
 ·rename_i hg;simp only[hg];exact⟨fun _=>h,fun h=>by cases h⟩
 ·rename_i j want hg
  simp only[hg]
  unfold uz at h
  unfold yielded
  split at h
  ·rename_i d hd
   simp only[hd,Option.bind_some]
   have eR:=hs.env d
   split at h
   ·rename_i c hv
    rw[hv]at eR
    simp only[V.den,D.den]at eR
    have:a.tmps[d]? =some (.bool c):=by
     rw[Array.getD_eq_getD_getElem?]at eR
     cases hx:a.tmps[d]? with
     |none=>rw[hx]at eR;simp[undef]at eR
     |some x=>rw[hx]at eR;simp at eR;rw[eR]
    simp only[this]
    by_cases hc:c=want
    ·subst hc;exact⟨fun _=>h.1 rfl,fun h=>by simp at h⟩
    ·exact⟨fun h'=>absurd (by simpa using h') hc,fun _=>h.2 hc⟩
   ·rename_i hv
    rw[hv]at eR
    obtain⟨arr,dF,hn⟩:=eR
    simp only[V.aG]at hn
    have:∀c,a.tmps[d]? ≠some (.bool c):=by
     exact Ux
    cases hx:a.tmps[d]? with
    |none=>exact⟨fun h=>by simp at h,fun _=>h⟩
    |some x=>cases x<;>first|(exact absurd hx (this _))|(exact⟨fun h=>by simp at h,fun _=>h⟩)
   ·exact h.elim
  ·rename_i hd
   simp only[hd,Option.bind_none]
   exact⟨fun h=>by simp at h,fun _=>h⟩
theorem Du(hs:cB M cY H0 w0 n cx φ s a w){dst:Option Tmp}(dq:iC n dst):cB M cY H0 w0 n cx φ ⟨ba s.env dst (.cf []),s.o,s.nx+1⟩ (a.put dst undef) w:=
 o9 (v:= .cf []) (val:=undef) hs hs.heap (Trans.refl _ _ _) ⟨#[],rfl,rfl⟩ dq rfl fun _ hu=>Nat.lt_succ_of_lt hu
theorem qD{ops:Array Oper}{X:V->S->Prop}{K:S->Prop}{Q:Exit->Act->World->Prop}
 (hK:∀s φ a w,K s->cB M cY H0 w0 n cx φ s a w->Q .normal a w)
 (hQ:∀v s' aI a w' val,X v s'->cB M cY H0 w0 n cx aI s' a w'->V.den (aq M aI s'.H) aI s'.H w' v val->Q (.panic [{v:=val,recovered:=false}]) a w'):
 ∀ (l:List Oper) (s:S) (φ:Place) (a:Act) (w:World),Bi P n ops X K l s->cB M cY H0 w0 n cx φ s a w->wpListIn (eB ro) k P ops Q l a w
 |[],s,φ,a,w,h,hs=>hK s φ a w h hs
 |o::l,s,φ,a,w,h,hs=>by
  obtain⟨h1,h2⟩:=rP hs h
  unfold wpListIn
  split
  ·rename_i hw
   exact zU hs (h1 hw) (fun s' aI a' w' hk kE=>qD hK hQ l s' aI a' w' hk kE) (fun v s' aI w' val hx kE hd=>hQ v s' aI a w' val hx kE hd)
  ·rename_i hw
   obtain⟨dq,h3⟩:=h2 (by simpa using hw)
   exact⟨fun _ _=>trivial,qD hK hQ l _ _ _ _ h3 (Du hs dq)⟩
def Ij(M:Nat->Prop)(cY:Place)(H0:Hp)(w0:World)(n:Nat)(cx:Cx)(Q:gr->S->Prop)(e:Exit)(a:Act)(w:World):Prop:=
 ∃x s φ,Q x s/\cB M cY H0 w0 n cx φ s a w/\match e,x with
  | .normal, .normal=>True
  | .exit i, .exit j=>i=j
  | .ret, .ret=>True
  | .panic ch, .bU v=>∃val,ch=[{v:=val,recovered:=false}]/\V.den (aq M φ s.H) φ s.H w v val
  |_,_=>False
section
variable {Q:Exit->Act->World->Prop}
theorem iE{m:Nat}:(eB ro).room m:=fun d hd=>by simp[eB]at hd
theorem qE{c:Code}(h:c.wpIn (eB ro) k P Q a w):c.vn P ro Q a w:=fun b k cs vL _=>h b k cs vL trivial iE
theorem iF{c:Code}{Q':Exit->Act->World->Prop}(h:c.vn P ro Q a w)(hq:∀e a w,Q e a w->Q' e a w):c.vn P ro Q' a w:=
 fun b k cs vL hb=>let⟨e,a',w',q,r⟩:=h b k cs vL hb;⟨e,a',w',hq _ _ _ q,r⟩
theorem Ik(h:Q .ret a w):Code.ret.vn P ro Q a w:=qE (k:=0) (wpIn_ret h)
theorem Dv{id:Nat}(h:Q (.exit id) a w):(Code.exit id).vn P ro Q a w:=qE (k:=0) (wpIn_exit h)
theorem Bl{x y:Code}(h:x.vn P ro (Exit.then (y.vn P ro Q) Q) a w):(Code.seq x y).vn P ro Q a w:=by
 intro b k cs vL hb
 have h0:(lone (b.atR a (.code (.seq x y)::k)) cs w).fenced P (eB ro):=fenced_calm (n:=0) trivial iE rfl
 obtain⟨e,pL,ky,hq,dF⟩:=h b (.code y::k) cs vL hb
 cases e with
 |normal=>
  obtain⟨XB,ac2,tG,rQ,lI⟩:=hq b k cs vL hb
  exact⟨XB,ac2,tG,rQ, .of_steps (.head h0 stepR_seq dF) lI⟩
 |exit id=>exact Md
 |goto l=>exact Md
 |ret=>exact Md
 |panic ch=>exact Md
 |outgrown=>exact Md
theorem rR{c:Operand}{x y:Code}{t:Bool}(hc:a.eval c= .bool t)(h:(if t then x else y).vn P ro Q a w):(Code.cond c x y).vn P ro Q a w:=
 fun b k cs vL hb=>let⟨e,a',w',q,r⟩:=h b k cs vL hb;⟨e,a',w',q, .of_steps (.one (fenced_calm (n:=0) trivial iE rfl) (stepR_cond hc)) r⟩
theorem KK{id:Nat}{c:Code}(h:c.vn P ro (Exit.inBlock id Q) a w):(Code.block id c).vn P ro Q a w:=by
 intro b k cs vL hb
 have h0:(lone (b.atR a (.code (.block id c)::k)) cs w).fenced P (eB ro):=fenced_calm (n:=0) trivial iE rfl
 obtain⟨e,pL,ky,hq,dF⟩:=h b (.inBlock id::k) cs vL hb
 cases e with
 |normal=>exact⟨.normal,pL,ky,hq, .head h0 stepR_block (StepsIn.trans dF (.one (fenced_calm (n:=0) trivial iE rfl) stepR_inBlock))⟩
 |exit CB=>
  by_cases ay:CB=id
  ·simp only[Exit.inBlock,ay,if_true]at hq
   exact⟨.normal,pL,ky,hq, .head h0 stepR_block (dF.1 k (by simp[exitTo,ay]))⟩
  ·simp only[Exit.inBlock,ay,if_false]at hq
   have this:(id==CB)=false:=by simp;exact fun h=>ay h.symm
   have hx:exitTo CB (.inBlock id::k)=exitTo CB k:=by simp[exitTo,this]
   exact⟨.exit CB,pL,ky,hq,fun k' hk=> .head h0 stepR_block (dF.1 k' zp),
    fun KF hk=>let⟨k₁,h1,h2⟩:=dF.2 KF zp;⟨k₁,h1, .head h0 stepR_block h2⟩⟩
 |goto l=>
  have hx:gotoIn l (.inBlock id::k)=gotoIn l k:=by simp[gotoIn]
  exact⟨_,pL,ky,hq,fun k' hk=> .head h0 stepR_block (dF.1 k' zp),
   fun KF hk=>let⟨k₁,h1,h2⟩:=dF.2 KF zp;⟨k₁,h1, .head h0 stepR_block h2⟩⟩
 |ret=>exact Mj
 |panic ch=>exact Mj
 |outgrown=>exact Mj
theorem lz{b:Frame}{k:List Item}{cs:List Frame}{c:Code}:step P (lone (b.atR a (.code (.scope c)::k)) cs w)= .next (lone (b.atR a (.code c:: .inScope c::k)) cs w):=
 step_lone_go (by simp[stepG,stepG.exec,Frame.atR])
theorem yT{b:Frame}{k:List Item}{cs:List Frame}{c:Code}:step P (lone (b.atR a (.inScope c::k)) cs w)= .next (lone (b.atR a k) cs w):=
 step_lone_go (by simp[stepG,stepG.exec,Frame.atR])
theorem zV{c:Code}(h:c.vn P ro Q a w)(hg:∀l a w, ¬Q (.goto l) a w):(Code.scope c).vn P ro Q a w:=by
 intro b k cs vL hb
 have h0:(lone (b.atR a (.code (.scope c)::k)) cs w).fenced P (eB ro):=fenced_calm (n:=0) trivial iE rfl
 obtain⟨e,pL,ky,hq,dF⟩:=h b (.inScope c::k) cs vL hb
 cases e with
 |normal=>exact⟨.normal,pL,ky,hq, .head h0 lz (StepsIn.trans dF (.one (fenced_calm (n:=0) trivial iE rfl) yT))⟩
 |exit CB=>
  have hx:exitTo CB (.inScope c::k)=exitTo CB k:=by simp[exitTo]
  exact⟨.exit CB,pL,ky,hq,fun k' hk=> .head h0 lz (dF.1 k' zp),
   fun KF hk=>let⟨k₁,h1,h2⟩:=dF.2 KF zp;⟨k₁,h1, .head h0 lz h2⟩⟩
 |goto l=>exact(hg _ _ _ hq).elim
 |ret=>exact Mk
 |panic ch=>exact Mk
 |outgrown=>exact Mk
def wT(P:Program)(l:Nat)(Q:Exit->Act->World->Prop)(a':Act):Ending->World->Prop
 | .returned _,F7=>∃jump vo,(Instr.endLoop l).run P F7= .ok jump vo/\(match jump with|none=>Q .normal a' vo|some c=>c.vn P none Q a' vo)
 | .panicked chain,F7=>Q (.panic chain) a' F7
 | .outgrown,_=>LetsOut Q
theorem yU{g:Operand}{ps:Array Tmp}{assign body:Code}
 (h:∀fn,fn<P.funcs.size->∃ (l:Nat) (mark:List Deferred) (ky:World) (d:Deferred) (zW:World) (f:FuncId) (args:Array Value) (tG:World),
  (Instr.enterLoop fn a.tmps ps assign body (eB none).round).run P w= .ok (l,mark) ky/\(resolve a.eval (rangeCall g l) 0).run P ky= .ok d zW/\
  (invoke d.target d.args).run P zW= .ok (.enter f args) tG/\CallsIn (eB none) 0 P f args tG (wT P l Q {a with defers:=mark++a.defers})):
 (Code.rangeFunc g ps assign body).vn P none Q a w:=by
 intro b k cs vL hb
 obtain⟨l,mark,ky,d,zW,f,args,tG,he,Dw,hinv,hF,fK⟩:=h b.fn hb
 rw[show(eB none).round=b.roundOf from vL.symm]at he
 have calm:∀ (m:Machine),m.fenced P (eB none)↔m.fenced P Fence.wide:=fun m=>Iff.rfl
 have h0:(lone (b.atR a (.code (.rangeFunc g ps assign body)::k)) cs w).fenced P (eB none):=(calm _).2 (fenced_wide P _)
 have nj:=stepR_rangeFunc (P:=P) (b:=b) (a:=a) (k:=k) (cs:=cs) (w:=w) he Dw hinv
 obtain⟨e,F7,fr,hR,F8,FH,Nn⟩:=fK (b.atR {a with defers:=mark++a.defers} (.inRangeFunc l::k)::cs) iE
 cases e with
 |outgrown=>
  obtain⟨agz,agA,hq⟩:=hR
  exact⟨.outgrown,agz,agA,hq, .inr (Outgrown.of_steps (.one nj) F8)⟩
 |returned v=>
  obtain⟨jump,vo,eZ,hj⟩:=hR
  have UN:StepsIn (Machine.fenced P (eB none)) P (lone (b.atR a (.code (.rangeFunc g ps assign body)::k)) cs w) (lone (b.atR {a with defers:=mark++a.defers} ((jump.map Item.code).toList++k)) cs vo):=by
   refine .head h0 nj (StepsIn.trans F8 (.head ((calm _).2 (fenced_wide P _)) ?_ (.one ((calm _).2 (fenced_wide P _)) (stepR_endRangeFunc eZ))))
   rw[<- finish_atR_inRangeFunc l v];exact step_leave_returned Nn
  cases jump with
  |none=>exact⟨.normal,_,vo,hj,UN⟩
  |some c=>
   obtain⟨e',a'',agB,hq,dF⟩:=hj b k cs vL hb
   exact⟨e',a'',agB,hq, .of_steps UN dF⟩
 |panicked chain=>
  refine⟨.panic chain,_,F7,hR, .inRangeFunc l::k, .head h0 nj (StepsIn.trans F8 (.one ((calm _).2 (fenced_wide P _)) ?_))⟩
  rw[<- Frame.raise_atR];exact step_leave_panicked Nn
end
theorem zX(hH:aB M φ H w){id l:Nat}(eE:H.us id){nf m:Nat}{env:List V}{ps:List Nat}{kG fV:IC}{st st':LoopState}{pd pd':Option lh}(ho:H.o id= .loop nf m env ps kG fV st pd)(fA:φ id= .pointer (some ⟨l,0,none⟩)):
 ∃r,w.heap[l]? =some (.loop r)/\r.state=st/\r.pending=pd.map lh.code/\
  aB M φ (H.put [(id, .loop nf m env ps kG fV st' pd')]) {w with heap:=w.heap.setIfInBounds l (.loop {r with state:=st',pending:=pd'.map lh.code})}/\
  Trans φ H w φ (H.put [(id, .loop nf m env ps kG fV st' pd')]) {w with heap:=w.heap.setIfInBounds l (.loop {r with state:=st',pending:=pd'.map lh.code})}:=by
 have a8:=hH.ok id
 simp only[aU,ho]at a8
 obtain⟨b,r,h1,h2,h0,h3,h4,h5,h6,h7,h8,h9⟩:=a8
 rw[fA]at h1;simp at h1;subst h1
 refine⟨r,h2,h3,h4, ?_⟩
 have M9:dZ (· =l) w {w with heap:=w.heap.setIfInBounds l (.loop {r with state:=st',pending:=pd'.map lh.code})}:=
  ⟨rfl,rfl,rfl,aF,fun j _ hj=>(MapKept.heap_set h2).2 j hj⟩
 have qf:(H.o id).live=true:=by rw[ho];rfl
 have Ic:dY (φ id)=some l:=by rw[fA];rfl
 have ht:=fH (w:=w) (w':={w with heap:=w.heap.setIfInBounds l (.loop {r with state:=st',pending:=pd'.map lh.code})}) eE qf Ic M9 (.loop nf m env ps kG fV st' pd') eY eY
 refine⟨jb hH eE qf Ic M9 _ eY eY ?_,ht⟩
 unfold aU
 simp only[bS,aQ,if_true]
 exact⟨l,_,fA,(MapKept.heap_set h2).1,h0,rfl,rfl,h5,h6,h7,h8,fun i=>V.aV ht _ _ (h9 i)⟩
theorem jN{l:Nat}{r:Loop}(o:Obj)(hb:w.heap[l]? =some (.loop r)):(setObj l o).run P w= .ok () {w with heap:=w.heap.setIfInBounds l o}:=by
 simp[setObj,Sem.run,hb]
theorem lJ{l:Nat}{r:Loop}(hb:w.heap[l]? =some (.loop r)):(Instr.getLoop l).run P w= .ok r w:=by
 simp[Instr.getLoop,getObj,Sem.run,hb,Result.andThen]
end
def rS(Q:gr->S->Prop)(pd:Option lh)(s:S):Prop:=
 match pd with
 |none=>Q .normal s
 |some .ret=>Q .ret s
 |some (.exit id)=>Q (.exit id) s
def Dx(P:Program)(n:Nat)(g:V)(ps:List Nat)(kG fV:IC)(Q:gr->S->Prop)(s:S):Prop:=
 ∃env,(∀i,aY env i= .ai\/aY env i=s.env i)/\
  match g with
  | .func (.func f) first cap=>pW P f (first++[.lC s.nx]++cap) (aw s.o s.nx (.loop P.funcs.size n env ps kG fV .ready none)) (s.nx+1)
    (fun _ o' nx'=>∃nf m e p c d st pd,o' s.nx= .loop nf m e p c d st pd/\st≠ .busy/\rS Q pd ⟨s.env,aw o' s.nx (.loop nf m e p c d .exhausted pd),nx'⟩)
    (fun v o' nx'=>Q (.bU v) ⟨s.env,o',nx'⟩)
  |_=>False
def ac3(P:Program)(n b:Nat)(g:Operand)(ps:List Nat)(kG fV:IC)(Q:gr->S->Prop)(s:S):Prop:=∃s',(s'=s\/bM b s s')/\Dx P n (s'.ev g) ps kG fV Q s'
def jV(P:Program)(n b:Nat)(rd:Bool):Code->(gr->S->Prop)->S->Prop
 | .skip,Q,s=>Q .normal s
 | .label _,Q,s=>Q .normal s
 | .scope x,Q,s=>jV P n b rd x Q s
 | .region _ ops false,Q,s=>Bi P n ops (fun v s=>Q (.bU v) s) (Q .normal) ops.toList s
 | .region id ops true,Q,s=>∀M cY H0 w0 cx φ a w ro k,cB M cY H0 w0 n cx φ s a w->(Code.region id ops true).wpIn (eB ro) k P (Ij M cY H0 w0 n cx Q) a w
 | .seq x y,Q,s=>jV P n b rd x (rO (jV P n b rd y Q) Q) s
 | .cond c x y,Q,s=>match s.ev c with
   | .d (.bool t)=>(t=true->jV P n b rd x Q s)/\(t=false->jV P n b rd y Q s)
   | .gh=>jV P n b rd x Q s/\jV P n b rd y Q s
   |_=>False
 | .block id x,Q,s=>jV P n b rd x (gu id Q) s
 | .loop x,Q,s=>∃ (J:Nat->S->Prop),(∃m s1,bM b s s1/\J m s1)/\∀m s0,J m s0->jV P n b rd x (fun e s=>match e with| .normal=>∃m' s1,m'<m/\bM b s s1/\J m' s1|e=>Q e s) s0
 | .exit id,Q,s=>Q (.exit id) s
 | .ret,Q,s=>Q .ret s
 | .rangeFunc g ps x y,Q,s=>rd=false/\ac3 P n b g ps.toList (low n x) (low n y) Q s
 |_,_,_=>False
section
variable {P:Program}{M:Nat->Prop}{φ:Place}{H:Hp}{w w':World}{cY:Place}{H0:Hp}{w0:World}{n b:Nat}{s:S}{a:Act}{cx:Cx}{ro:Option Nat}{k:Nat}
theorem F9(hb:∀id,H0.us id->id<b)(hs:cB M cY H0 w0 n cx φ s a w){s':S}(h:bM b s s'):∃aI,cB M cY H0 w0 n cx aI s' a w:=by
 obtain⟨aI,h1,h2,h3,h4,h5,h6⟩:=h M φ w (fun i=>a.tmps.getD i undef) hs.heap hs.env
 refine⟨aI,h1,⟨hs.tr.cP,fun k hk=>hs.tr.grow k (h3 k hk),⟨fun id hu=>Nat.lt_of_lt_of_le (hb id hu) h4,fun id hu hr=> ?_,fun id e' hu he=> ?_⟩⟩,hs.size, ?_,h2⟩
 ·obtain⟨g1,g2⟩:=h5 id (hb id hu) hr
  obtain⟨g3,g4⟩:=hs.tr.rel.row id hu g1
  exact⟨g3,g2.trans g4⟩
 ·obtain⟨e,g1,g2,g3⟩:=h6 id e' (hb id hu) he
  obtain⟨e0,k1,k2,k3⟩:=hs.tr.rel.ep id e hu g1
  refine⟨e0,k1,Nat.le_trans k2 g2,fun heq=> ?_⟩
  have a1:e0=e:=ad
  have a2:e=e':=ad
  exact(g3 a2).trans (k3 a1)
 ·obtain⟨ms,g1,g2,g3,g4⟩:=hs.defers
  exact⟨ms,g1,g2,g3,fun r hr=>⟨(g4 r hr).1,(g4 r hr).2.1,fun hl=>(g4 r hr).2.2 (h3 r hl)⟩⟩
theorem Bm{c:Code}{Q:Exit->Act->World->Prop}(J:Nat->Act->World->Prop)(round:∀m a w,J m a w->c.vn P ro (Exit.then (fun a' w'=>∃m',m'<m/\J m' a' w') Q) a w):
 ∀m a w,J m a w->(Code.loop c).vn P ro Q a w:=by
 intro m a w h0 fr kk cs vL hb
 have hr:(eB ro).room (cs.length+1+0):=fun d hd=>by simp[eB]at hd
 have key:∀m a w,J m a w->∃e a' w',Q e a' w'/\ArrivesIn (Machine.fenced P (eB ro)) P (lone (fr.atR a (.code c:: .inLoop c::kk)) cs w) fr kk cs e a' w':=by
  intro m
  induction m using Nat.strongRecOn with
  |_ m ih=>
   intro a w hJ
   obtain⟨e,a1,w1,hq,dF⟩:=round m a w hJ fr (.inLoop c::kk) cs vL hb
   cases e with
   |normal=>
    obtain⟨m',cD,hJ'⟩:=hq
    obtain⟨e2,a2,w2,hq2,Il⟩:=ih m' cD a1 w1 hJ'
    exact⟨e2,a2,w2,hq2, .of_steps (StepsIn.trans dF (.one (fenced_calm trivial hr rfl) stepR_inLoop)) Il⟩
   |_=>exact⟨_,a1,w1,hq, .pass (x:= .inLoop c) rfl (fun _ _=> .inl aF) dF⟩
 obtain⟨e,a',w',hq,dF⟩:=key m a w h0
 exact⟨e,a',w',hq, .of_steps (.one (fenced_calm trivial hr rfl) stepR_loop) dF⟩
theorem zY(hs:cB M cY H0 w0 n cx φ s a w)(nR:cx.rd=false)(vL:ro=none){g:Operand}{ps:Array Tmp}{x y:Code}{Q:gr->S->Prop}(h:Dx P n (s.ev g) ps.toList (low n x) (low n y) Q s):
 (Code.rangeFunc g ps x y).vn P ro (Ij M cY H0 w0 n cx Q) a w:=by
 subst vL
 obtain⟨env,eR,h⟩:=h
 refine yU fun fn FH=> ?_
 let Ga:Loop:={state:= .ready,pending:=none,fn:=fn,tmps:=a.tmps,params:=ps,assign:=x,body:=y,defers:=w.heap.size}
 let w1:World:=(w.alloc (.deferred (some []))).alloc (.loop Ga)
 let l:Nat:=w.heap.size+1
 have nj:(Instr.enterLoop fn a.tmps ps x y (eB none).round).run P w= .ok (l,[mark w.heap.size]) w1:=by
  simp[Instr.enterLoop,eB,mark,w1,l,Ga]
 have Qj:dZ (fun _=>False) w w1:=by
  have k1:=cE w (.deferred (some []))
  have k2:=cE (w.alloc (.deferred (some []))) (.loop Ga)
  exact⟨k2.os.trans k1.os,k2.tape.trans k1.tape,k2.output.trans k1.output,Nat.le_trans k1.size k2.size,fun j hj hm=>(k2.block j (Nat.lt_of_lt_of_le hj k1.size) hm).trans (k1.block j hj hm)⟩
 let jI:=aw φ s.nx (.pointer (some ⟨l,0,none⟩))
 let s1:S:=⟨s.env,aw s.o s.nx (.loop P.funcs.size n env ps.toList (low n x) (low n y) .ready none),s.nx+1⟩
 have dn: ¬s.H.us s.nx:=by simp[S.H]
 have fR:∀b,dY (.pointer (some ⟨l,0,none⟩))=some b->w.heap.size<=b/\b<w1.heap.size:=by
  intro b hb;simp[dY]at hb;subst hb;simp[l,w1]
 have Fs:=eh (φ:=φ) (H:=s.H) Qj dn (.loop P.funcs.size n env ps.toList (low n x) (low n y) .ready none) (.pointer (some ⟨l,0,none⟩)) fun b hb=>(fR b hb).1
 have Q4:(w.alloc (.deferred (some []))).heap.size=w.heap.size+1:=aF
 have qf:w1.heap[l]? =some (.loop Ga):=by
  have:=heap_alloc_new (w.alloc (.deferred (some []))) (.loop Ga)
  rwa [Q4]at this
 have tg:=jv hs.heap Qj dn (.loop P.funcs.size n env ps.toList (low n x) (low n y) .ready none) (.pointer (some ⟨l,0,none⟩)) fR (by
  unfold aU
  simp only[bS,aQ,if_true]
  refine⟨l,Ga,rfl,qf,FH,rfl,rfl,rfl,hs.size,rfl,rfl,fun i=> ?_⟩
  rcases eR i with e|e
  ·rw[e];trivial
  ·rw[e];exact V.aV Fs _ _ (hs.env i))
 have ta:cB M cY H0 w0 n cx jI s1 {a with defers:=mark w.heap.size::a.defers} w1:=by
  have base:=fC hs tg Fs (o':=aw s.o s.nx (.loop P.funcs.size n env ps.toList (low n x) (low n y) .ready none)) (nx':=s.nx+1) rfl (Ni fun id ay=>by simp at ay;exact .inr ay)
  refine⟨base.heap,base.tr,base.size, ?_,base.env⟩
  obtain⟨ms,g1,g2,g3,g4⟩:=base.defers
  obtain⟨ms',q1,q2,q3,q4⟩:=hs.defers
  have hmm:ms.map mark=ms'.map mark:=by
   have:ms.map mark++cx.base=ms'.map mark++cx.base:=g1.symm.trans q1
   exact List.append_cancel_right this
  have XC:ms=ms':=by
   have hm:∀a b,mark a=mark b->a=b:=fun a b h=>by simpa[mark]using h
   exact List.map_inj_right hm |>.1 hmm
  refine⟨w.heap.size::ms,by rw[g1];rfl,List.nodup_cons.2 ⟨fun hm=> ?_,g2⟩,(fun h=>by rw[nR]at h;cases h),fun r hr=> ?_⟩
  ·have:=(q4 w.heap.size (XC ▸ hm)).2.1
   rw[Array.getElem?_eq_none (Nat.le_refl _)]at this;cases this
  ·rcases List.mem_cons.1 hr with rfl|hr
   ·refine⟨hs.tr.cP.size,(RowKit.Below.heap_alloc (w.alloc (.deferred (some []))) (.loop Ga) w.heap.size (by rw[Q4];omega)).trans (heap_alloc_new w _), ?_⟩
    rintro⟨id,i1,i2⟩
    by_cases e:id=s.nx
    ·subst e;simp[jI,dY,l]at i2
    ·have i1':(s.H.o id).live=true:=by simpa[s1,S.H,e]using i1
     have i2':dY (φ id)=some w.heap.size:=by simpa[jI,e]using i2
     have:=(hs.heap.ours _ ⟨id,i1',i2'⟩).2
     omega
   ·exact g4 r hr
 have agC:V.den (aq M jI s1.H) jI s1.H w1 (.lC s.nx) (.func (.yield l) #[] #[]):=
  ⟨rfl,by simp[s1,S.H],fun _=>⟨l,by simp[jI],rfl⟩⟩
 have hg:=n6 (M:=M) (φ:=jI) (H:=s1.H) (w:=w1) s1 {a with defers:=mark w.heap.size::a.defers} ta.env g
 have agD:s1.ev g=s.ev g:=by cases g<;>rfl
 rw[agD]at hg
 have hae:({a with defers:=mark w.heap.size::a.defers}:Act).eval g=a.eval g:=rfl
 rw[hae]at hg
 split at h
 ·rename_i f first cap hgv
  rw[hgv]at hg
  obtain⟨fa,ca,Q9,Fo,hca⟩:=hg
  have fin:∀ (all:List V) (o2:Nat->aa) (s2:S),s2=⟨s.env,o2,s.nx+1⟩->cB M cY H0 w0 n cx jI s2 {a with defers:=mark w.heap.size::a.defers} w1->V.aG (aq M jI s2.H) jI s2.H w1 all (fa++#[Value.func (.yield l) #[] #[]]++ca).toList->(o2 s.nx).cF=true->
   bJ P f all o2 (s.nx+1) (fun _ o' nx'=>∃nf m e p c d st pd,o' s.nx= .loop nf m e p c d st pd/\st≠ .busy/\rS Q pd ⟨s.env,aw o' s.nx (.loop nf m e p c d .exhausted pd),nx'⟩) (fun v o' nx'=>Q (.bU v) ⟨s.env,o',nx'⟩)->
   ∃ (l:Nat) (mark:List Deferred) (ky:World) (d:Deferred) (zW:World) (f:FuncId) (args:Array Value) (tG:World),
     (Instr.enterLoop fn a.tmps ps x y (eB none).round).run P w= .ok (l,mark) ky/\(resolve a.eval (rangeCall g l) 0).run P ky= .ok d zW/\
     (invoke d.target d.args).run P zW= .ok (.enter f args) tG/\CallsIn (eB none) 0 P f args tG (wT P l (Ij M cY H0 w0 n cx Q) {a with defers:=mark++a.defers}):=by
   intro all o2 s2 agE Im bu cL hC
   subst agE
   have fK:=hC.2 M jI w1 _ Im.heap bu
   refine⟨l,[mark w.heap.size],w1,{target:= .fn (.func f) ca,args:=fa++#[Value.func (.yield l) #[] #[]]},w1,f,fa++#[Value.func (.yield l) #[] #[]]++ca,w1,nj, ?_, ?_,dC (fK.mono fun e w' ⟨aI,o',nx',v,k1,k2,k3⟩=> ?_)⟩
   ·simp only[resolve,Q9,Deferred.ofValue,List.map_toArray,List.map_cons,List.map_nil,Sem.run_pure]
    rfl
   ·simp[invoke,mF hC.1]
   ·cases e with
    |returned val=>
     obtain⟨k4,nf,m,e,p,c,d,st,pd,k5,k6,k7⟩:=k3
     have Io:cB M cY H0 w0 n cx aI ⟨s.env,o',nx'⟩ {a with defers:=mark w.heap.size::a.defers} w':=fC Im k1 k2 rfl fun id hu=>hu
     have XE:aI s.nx= .pointer (some ⟨l,0,none⟩):=by
      have:=(k2.rel.row s.nx (show s.nx<s.nx+1 from ad) (by show(o' s.nx).cF=true;rw[k5];rfl)).2
      rw[this];simp[jI]
     have cD:s.nx<nx':=k2.rel.us s.nx (show s.nx<s.nx+1 from ad)
     obtain⟨r,r1,r2,r3,r4,r5⟩:=zX (st':= .exhausted) (pd':=pd) k1 cD (show(hp o' nx').o s.nx=_ from k5) XE
     have eZ:(Instr.endLoop l).run P w'= .ok (pd.map lh.code) {w' with heap:=w'.heap.setIfInBounds l (.loop {r with state:= .exhausted,pending:=pd.map lh.code})}:=by
      have e1:({r with state:= .exhausted}:Loop)={r with state:= .exhausted,pending:=pd.map lh.code}:=by rw[<- r3]
      have hnb:(r.state==LoopState.busy)=false:=by rw[r2];cases st<;>first|rfl|exact absurd rfl k6
      simp only[Instr.endLoop,Sem.run_bind,lJ r1,Result.andThen_ok,hnb,Bool.false_eq_true,if_false,Sem.run_pure]
      rw[jN _ r1,e1]
      simp[r3]
     have hs4:=fC Io r4 r5 (o':=aw o' s.nx (.loop nf m e p c d .exhausted pd)) (nx':=nx') rfl fun id hu=>by
      simp only[eJ]at hu
      rcases hu with hu|hu
      ·exact hu
      ·subst hu;exact cD
     refine⟨pd.map lh.code,_,eZ, ?_⟩
     cases pd with
     |none=>exact⟨.normal,_,_,k7,hs4,trivial⟩
     |some j=>
      cases j with
      |ret=>exact Ik ⟨.ret,_,_,k7,hs4,trivial⟩
      |exit id=>exact Dv ⟨.exit id,_,_,k7,hs4,rfl⟩
    |panicked ch=>
     obtain⟨val,rfl,k4,k5⟩:=k3
     have Io:cB M cY H0 w0 n cx aI ⟨s.env,o',nx'⟩ {a with defers:=mark w.heap.size::a.defers} w':=fC Im k1 k2 rfl fun id hu=>hu
     exact⟨.bU v,_,_,k5,Io,val,rfl,k4⟩
    |outgrown=>exact k3.elim
  have ou:V.aG (aq M jI s1.H) jI s1.H w1 (first++[V.lC s.nx]++cap) (fa++#[Value.func (.yield l) #[] #[]]++ca).toList:=by
   rw[Array.toList_append,Array.toList_append]
   exact V.rm Fo ⟨_,[],rfl,agC,rfl⟩ hca
  rcases h with hC|hC
  ·exact fin _ _ s1 rfl ta ou (by simp;rfl) hC
  ·have ri:s1.o=aw s.o s.nx (.loop P.funcs.size n env ps.toList (low n x) (low n y) .ready none):=rfl
   obtain⟨f1,f2,f3,f4,f5⟩:=dh ta.heap (dD s1.o (first++[V.lC s.nx]++cap)) (iD _ _ s1.o ou)
   have ft:s1.H.put (bK s1.H.o (dD s1.o (first++[V.lC s.nx]++cap)))=hp (put s1.o (bK s1.o (dD s1.o (first++[V.lC s.nx]++cap)))) s1.nx:=mE (by rw[vE];exact iD _ _ s1.o ou)
   have UO:=Nl f1 _ _ f3 (V.aW f2 _ _ ou)
   have Dy:((s1.H.put (bK s1.H.o (dD s1.o (first++[V.lC s.nx]++cap)))).o s.nx).cF=true:=by
    by_cases hm:s.nx∈dD s1.o (first++[V.lC s.nx]++cap)
    ·rw[f3 _ hm];simp[s1,S.H,aa.fz,aa.cF]
    ·rw[f4 _ hm];simp[s1,S.H,aa.cF]
   rw[ft]at f1 f2 UO Dy
   exact fin _ (put s1.o (bK s1.o (dD s1.o (first++[V.lC s.nx]++cap)))) ⟨s.env,_,s.nx+1⟩ rfl (fC ta f1 f2 rfl fun id hu=>hu) UO Dy hC
 ·exact h.elim
end
end Go.Proofs.YtlhemmpklhhgoaaGreat
