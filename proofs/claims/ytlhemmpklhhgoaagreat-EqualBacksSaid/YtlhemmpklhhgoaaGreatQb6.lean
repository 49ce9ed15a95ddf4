/-
  A PART OF THE PROOF. Conditions: none.
-/
import Derived.RangeFuncLeaves
import Derived.TacticsIn
import Derived.RecoverIn
import Derived.Test.YtlhemmpklhhgoaaGreatQb5
set_option linter.unusedSimpArgs false
set_option linter.unusedVariables false
namespace Go.Proofs.YtlhemmpklhhgoaaGreat
inductive R where
 |ret (ds:List D)|bu (d:D)
def R.is (B:Nat->Prop)(w:World):R->Ending->Prop
 | .ret [x], .returned v=>D.den B w x v
 | .ret ds, .returned v=>∃a,v= .tuple a/\D.az B w ds a.toList
 | .bu d, .panicked chain=>∃v,chain=[{v:=v,recovered:=false}]/\D.den B w d v
 |_,_=>False
def Enters(P:Program)(f:FuncId):Prop:=∃fn,P.funcs[f]? =some fn/\(fn.name== "runtime.NumGoroutine")=false/\fn.body.isNone=false
def aX(P:Program)(f:FuncId)(ds:List D)(out:R):Prop:=
 Enters P f/\∀ (M:Nat->Prop) (w:World) (vals:Array Value),(∀b,M b->b<w.heap.size)->D.az M w ds vals.toList->
  Calls P f vals w fun e w'=>dD (fun _=>False) w w'/\out.is M w' e
def hp(o:Nat->ab)(nx:Nat):Hp:=⟨o,fun id=>id<nx⟩
def kP(M:Nat->Prop)(φ:Place)(H:Hp)(w:World)(K X:V->(Nat->ab)->Nat->Prop)(e:Ending)(w':World):Prop:=
 ∃aA o' nx' v,aq M aA (hp o' nx') w'/\Trans φ H w aA (hp o' nx') w'/\match e with
  | .returned val=>V.den (ai M aA (hp o' nx')) aA (hp o' nx') w' v val/\K v o' nx'
  | .panicked ch=>∃val,ch=[{v:=val,recovered:=false}]/\V.den (ai M aA (hp o' nx')) aA (hp o' nx') w' v val/\X v o' nx'
  | .outgrown=>False
def dA(P:Program)(f:FuncId)(args:List V)(o:Nat->ab)(nx:Nat)(K X:V->(Nat->ab)->Nat->Prop):Prop:=
 Enters P f/\∀ (M:Nat->Prop) (φ:Place) (w:World) (vals:Array Value),aq M φ (hp o nx) w->V.az (ai M φ (hp o nx)) φ (hp o nx) w args vals.toList->
  Calls P f vals w (kP M φ (hp o nx) w K X)
def c6(P:Program)(id:Nat)(args:List V)(o:Nat->ab)(nx:Nat)(K X:V->(Nat->ab)->Nat->Prop):Prop:=
 (o id).bM=true/\∀ (M:Nat->Prop) (φ:Place) (w:World) (vals:Array Value) (b:Nat),aq M φ (hp o nx) w->V.az (ai M φ (hp o nx)) φ (hp o nx) w args vals.toList->φ id= .pointer (some ⟨b,0,none⟩)->
  ∃f tmps assign body,(Instr.yield b vals).run P w= .ok (.round b f tmps assign body) w/\∀n,RoundIn Fence.wide n P b f tmps assign body w (kP M φ (hp o nx) w K X)
theorem kP.mono {M:Nat->Prop}{φ:Place}{H:Hp}{w:World}{K X K' X':V->(Nat->ab)->Nat->Prop}(hK:∀v o n,K v o n->K' v o n)(hX:∀v o n,X v o n->X' v o n){e:Ending}{w':World}(h:kP M φ H w K X e w'):kP M φ H w K' X' e w':=by
 obtain⟨aA,o',nx',v,h1,h2,h3⟩:=h
 refine⟨aA,o',nx',v,h1,h2, ?_⟩
 cases e with
 |returned val=>exact⟨h3.1,hK _ _ _ h3.2⟩
 |panicked ch=>obtain⟨val,a,b,c⟩:=h3;exact⟨val,a,b,hX _ _ _ c⟩
 |outgrown=>exact h3
theorem dA.mono {P:Program}{f:FuncId}{args:List V}{o:Nat->ab}{nx:Nat}{K X K' X':V->(Nat->ab)->Nat->Prop}(hK:∀v o n,K v o n->K' v o n)(hX:∀v o n,X v o n->X' v o n)(h:dA P f args o nx K X):dA P f args o nx K' X':=
 ⟨h.1,fun M φ w vals h1 h2=>(h.2 M φ w vals h1 h2).mono fun _ _ h=>h.mono hK hX⟩
theorem c6.mono {P:Program}{id:Nat}{args:List V}{o:Nat->ab}{nx:Nat}{K X K' X':V->(Nat->ab)->Nat->Prop}(hK:∀v o n,K v o n->K' v o n)(hX:∀v o n,X v o n->X' v o n)(h:c6 P id args o nx K X):c6 P id args o nx K' X':=
 ⟨h.1,fun M φ w vals b h1 h2 h3=>let⟨f,t,a,c,h4,h5⟩:=h.2 M φ w vals b h1 h2 h3;⟨f,t,a,c,h4,fun n=>(h5 n).mono fun _ _ h=>h.mono hK hX⟩⟩
mutual
def D.flat:D->Bool
 | .sl _| .mp _ _=>false
 | .agg cs=>D.iq cs
 | .iface _ x=>x.flat
 |_=>true
def D.iq:List D->Bool
 |[]=>true
 |x::xs=>x.flat&&D.iq xs
end
mutual
theorem D.nN {B B':Nat->Prop}{w w':World}:∀ (x:D) (v:Value),x.flat=true->D.den B w x v->D.den B' w' x v
 | .int _ _,_,_,h| .bool _,_,_,h| .str _,_,_,h| .fi,_,_,h| .kz,_,_,h| .bO,_,_,h| .eQ,_,_,h=>h
 | .agg cs,_,hf,h=>by obtain⟨a,rfl,h,h2⟩:=h;exact⟨a,rfl,D.jS cs _ hf h,h2⟩
 | .sl es,_,hf,h=>by simp[D.flat]at hf
 | .mp _ _,_,hf,h=>by simp[D.flat]at hf
 | .iface t x,_,hf,h=>by obtain⟨u,rfl,h⟩:=h;exact⟨u,rfl,D.nN x u hf h⟩
theorem D.jS {B B':Nat->Prop}{w w':World}:∀ (xs:List D) (vs:List Value),D.iq xs=true->D.az B w xs vs->D.az B' w' xs vs
 |[],_,_,h=>h
 |x::xs,_,hf,h=>by
  obtain⟨u,us,rfl,h1,h2⟩:=h
  simp only[D.iq,Bool.and_eq_true]at hf
  exact⟨u,us,rfl,D.nN x u hf.1 h1,D.jS xs us hf.2 h2⟩
end
mutual
def D.kQ:D->Bool
 | .mp _ _=>false
 | .agg cs=>D.jT cs
 | .sl es=>D.jT es
 | .iface _ x=>x.kQ
 |_=>true
def D.jT:List D->Bool
 |[]=>true
 |x::xs=>x.kQ&&D.jT xs
end
theorem eW.xJ {B B':Nat->Prop}{w w':World}{a:Addr}{cs:Array Value}
 (hb:∀b,nw w b-> ¬B b->w'.heap[b]? =w.heap[b]? /\ ¬B' b) (h:eW B w a cs):eW B' w' a cs:=by
 intro j u hj
 obtain⟨h1,h2⟩:=h j u hj
 have bR:nw w a.block:=by simpa using mn h1
 exact SS
mutual
theorem D.jC {B B':Nat->Prop}{w w':World}(hb:∀b,nw w b-> ¬B b->w'.heap[b]? =w.heap[b]? /\ ¬B' b):
 ∀ (x:D) (v:Value),x.kQ=true->D.den B w x v->D.den B' w' x v
 | .int _ _,_,_,h| .bool _,_,_,h| .str _,_,_,h| .fi,_,_,h| .kz,_,_,h| .bO,_,_,h| .eQ,_,_,h=>by simpa[D.den]using h
 | .agg cs,_,hn,h=>by
   obtain⟨a,rfl,h,hf⟩:=h
   exact⟨a,rfl,D.kR hb cs _ hn h,hf⟩
 | .sl es,_,hn,h=>by
   obtain⟨base,len,cap,rfl,h1,h2,h3,sz,h4⟩:=h
   exact⟨base,len,cap,rfl,h1,h2,h3,sz,fun a ha=>⟨(h4 a ha).1,D.nO hb sz a es 0 hn (h4 a ha).2⟩⟩
 | .iface t d,_,hn,h=>by
   obtain⟨u,rfl,h⟩:=h
   exact⟨u,rfl,D.jC hb d u hn h⟩
 | .mp _ _,_,hn,_=>by simp[D.kQ]at hn
theorem D.kR {B B':Nat->Prop}{w w':World}(hb:∀b,nw w b-> ¬B b->w'.heap[b]? =w.heap[b]? /\ ¬B' b):
 ∀ (ds:List D) (vs:List Value),D.jT ds=true->D.az B w ds vs->D.az B' w' ds vs
 |[],_,_,h=>h
 |d::ds,_,hn,h=>by
  obtain⟨u,us,rfl,h1,h2⟩:=h
  simp only[D.jT,Bool.and_eq_true]at hn
  exact⟨u,us,rfl,D.jC hb d u hn.1 h1,D.kR hb ds us hn.2 h2⟩
theorem D.nO {B B':Nat->Prop}{w w':World}(hb:∀b,nw w b-> ¬B b->w'.heap[b]? =w.heap[b]? /\ ¬B' b)(sz:Nat)(a:Addr):
 ∀ (es:List D) (i:Nat),D.jT es=true->D.elems B w sz a i es->D.elems B' w' sz a i es
 |[],_,_,_=>trivial
 |e::es,i,hn,h=>by
  obtain⟨⟨ev,h1,h2,h3⟩,h4⟩:=h
  simp only[D.jT,Bool.and_eq_true]at hn
  exact⟨⟨ev,h1,h2.xJ hb,D.jC hb e ev hn.1 h3⟩,D.nO hb sz a es (i+1) hn.2 h4⟩
end
def R.kQ:R->Bool
 | .ret ds=>D.jT ds
 | .bu d=>d.kQ
def R.flat:R->Bool
 | .ret ds=>D.iq ds
 | .bu d=>d.flat
def ir:List D->V
 |[x]=> .d x
 |ds=> .bH (ds.map .d)
inductive eT where
 |normal|exit (id:Nat)|ret|bu (v:V)
def aS(env:Nat->V)(dst:Option Tmp)(v:V):Nat->V:=
 match dst with
 |some d=>aI env d v
 |none=>env
def FO(o:Nat->ab)(v:V):V:=match dv o v with|some x=> .d x|none=>v
def cH(o:Nat->ab):List V->List Nat
 |[]=>[]
 |v::vs=>(match dv o v with|some _=>v.ids|none=>[])++cH o vs
def mi(P:Program)(g:FuncId)(args:List V)(o:Nat->ab)(nx:Nat)(K X:V->(Nat->ab)->Nat->Prop):Prop:=
 dA P g args o nx K X\/dA P g (args.map (FO o)) (put o (bP o (cH o args))) nx K X
def rG(P:Program)(s:S)(g:FuncId)(all:List V)(K:V->(Nat->ab)->Nat->Prop)(X:V->(Nat->ab)->Nat->Prop):Prop:=
    (∃ds out,bI s.o all=some ds/\aX P g ds out/\(match out with
     | .ret rs=>K (ir rs) (put s.o (bP s.o (V.aZ all))) (s.nx+1)
     | .bu x=>X (.d x) (put s.o (bP s.o (V.aZ all))) (s.nx+1)))\/
    (∃ds out,bI s.o all=some ds/\aX P g ds out/\out.flat=true/\(match out with
     | .ret rs=>K (ir rs) s.o (s.nx+1)
     | .bu x=>X (.d x) s.o (s.nx+1)))\/
    (∃ds out,bI s.o all=some ds/\aX P g ds out/\out.kQ=true/\(match out with
     | .ret rs=>K (ir rs) (put s.o (oY s.o (V.aZ all))) (s.nx+1)
     | .bu x=>X (.d x) (put s.o (oY s.o (V.aZ all))) (s.nx+1)))\/
    mi P g all s.o s.nx K X
def x6(P:Program)(s:S)(f:V)(args:List V)(K:V->(Nat->ab)->Nat->Prop)(X:V->(Nat->ab)->Nat->Prop):Prop:=
 match f with
 | .func (.func g) first cap=>rG P s g (first++args++cap) K X
 | .js id=>c6 P id args s.o s.nx K X
 |_=>False
def K5(P:Program)(t:TypeId):Bool:=
 match P.underlying t with
 |some (.pointer _)=>false
 |some _=>true
 |none=>false
def rH(P:Program)(m:String)(x:V):Option (FuncId×V):=
 match x with
 | .d (.iface t y)=>match P.info? t with
   |some ti=>match ti.methods.find? (·.name==m)with
    |some r=>match r.func with
     |some (f,false)=>if r.path.isEmpty=true/\K5 P t=true then some (f, .d y)else none
     |_=>none
    |none=>none
   |none=>none
 |_=>none
def eX(n:Nat):Option Tmp->Prop
 |some d=>d<n
 |none=>True
def YZ(P:Program)(n:Nat)(s:S)(o:Oper)(X:V->S->Prop)(K:S->Prop):Prop:=
 eX n o.dst/\match o.op with
 | .call c=>match c.callee with
   | .value f=>x6 P s (s.ev f) (c.args.toList.map s.ev) (fun v o' nx'=>K ⟨aS s.env o.dst v,o',nx'⟩) (fun v o' nx'=>X v ⟨s.env,o',nx'⟩)
   | .invoke r m=>match rH P m (s.ev r)with
     |some (g,y)=>rG P s g (y::c.args.toList.map s.ev) (fun v o' nx'=>K ⟨aS s.env o.dst v,o',nx'⟩) (fun v o' nx'=>X v ⟨s.env,o',nx'⟩)
     |none=>False
   |_=>KQ P s s.nx o.op fun v Δ _=>K ⟨aS s.env o.dst v,put s.o Δ,s.nx+1⟩
 | .panic x=>match s.ev x with
   | .d (.iface t y)=>X (.d (.iface t y)) s
   | .iface t y=>X (.iface t y) s
   |_=>False
 |op=>KQ P s s.nx op fun v Δ _=>K ⟨aS s.env o.dst v,put s.o Δ,s.nx+1⟩
def vO(s:S)(ops:Array Oper)(g:Option (Nat×Bool))(A B:Prop):Prop:=
 match g with
 |none=>A
 |some (j,want)=>match pS ops j with
  |some d=>match s.env d with
   | .d (.bool b)=>(b=want->A)/\(b≠want->B)
   | .bH []=>B
   |_=>False
  |none=>B
def vP(P:Program)(n:Nat)(ops:Array Oper)(X:V->S->Prop)(K:S->Prop):List Oper->S->Prop
 |[],s=>K s
 |o::l,s=>vO s ops o.guard (YZ P n s o X (vP P n ops X K l)) (eX n o.dst/\vP P n ops X K l ⟨aS s.env o.dst (.bH []),s.o,s.nx+1⟩)
def bG(b:Nat)(s s':S):Prop:=
 ∀ (M:Nat->Prop) (φ:Place) (w:World) (tm:Nat->Value),aq M φ s.H w->(∀i,V.den (ai M φ s.H) φ s.H w (s.env i) (tm i))->
   ∃aA,aq M aA s'.H w/\(∀i,V.den (ai M aA s'.H) aA s'.H w (s'.env i) (tm i))/\(∀k,cn aA s'.H k->cn φ s.H k)/\b<=s'.nx/\
    (∀id,id<b->(s'.o id).bM=true->(s.o id).bM=true/\aA id=φ id)/\
    (∀id e',id<b->(s'.o id).bQ=some e'->∃e,(s.o id).bQ=some e/\e<=e'/\(e=e'->aA id=φ id))
def nP(K:S->Prop)(Q:eT->S->Prop)(e:eT)(s:S):Prop:=match e with| .normal=>K s|e=>Q e s
def eh(id:Nat)(Q:eT->S->Prop)(e:eT)(s:S):Prop:=match e with| .exit j=>if j=id then Q .normal s else Q (.exit j) s|e=>Q e s
def jU(P:Program)(s:S):List ResultVar->Option (List V)
 |[]=>some []
 | .tmp t::rs=>(jU P s rs).map (s.env t::·)
 | .cell a t::rs=>match s.env a with
   | .ptr id off=>match s.o id with
     | .row cs=>(dM P t cs off).bind fun v=>(jU P s rs).map (v::·)
     |_=>none
   |_=>none
def cj(vs:List V):Nat->V:=fun i=>vs.getD i (.bH [])
def vQ(P:Program)(rs:List ResultVar)(out:R)(e:eT)(s:S):Prop:=
 match e with
 | .normal| .ret=>match jU P s rs with
   |some vs=>match bI s.o vs with
    |some ds=>out= .ret ds
    |none=>False
   |none=>False
 | .bu v=>match dv s.o v with
   |some x=>out= .bu x
   |none=>False
 | .exit _=>False
theorem FP{P:Program}{rs:List ResultVar}{out:R}{s:S}(h:match jU P s rs with
 |some vs=>match bI s.o vs with
  |some ds=>out= .ret ds
  |none=>False
 |none=>False):∃vs ds,jU P s rs=some vs/\bI s.o vs=some ds/\out= .ret ds:=by
 split at h
 ·rename_i vs h1
  split at h
  ·rename_i xs h2;exact⟨vs,xs,h1,h2,h⟩
  ·exact h.elim
 ·exact h.elim
theorem FQ{out:R}{s:S}{v:V}(h:match dv s.o v with
 |some x=>out= .bu x
 |none=>False):∃x,dv s.o v=some x/\out= .bu x:=by
 split at h
 ·rename_i x h1;exact⟨x,h1,h⟩
 ·exact h.elim
section
section
variable {P:Program}{M:Nat->Prop}{φ:Place}{H:Hp}{w w':World}
def ab.jD:ab->Bool
 | .arr .. =>true
 |_=>false
theorem IJ(o:Nat->ab)(ids:List Nat):oY o ids=bP o (ids.filter fun id=>(o id).jD):=by
 induction ids with
 |nil=>rfl
 |cons id ids ih=>
  unfold oY at ih|-
  simp only[List.filterMap_cons,List.filter_cons]
  cases hx:o id with
  |arr ep ty sz es=>
   have e:(ab.arr ep ty sz es).jD=true:=rfl
   rw[e,if_pos rfl,ih]
   simp only[bP,List.map_cons,hx]
  |_=>exact ih
theorem iM(hH:aq M φ H w){us':Nat->Prop}(h:∀id,H.us id->us' id):aq M φ ⟨H.o,us'⟩ w/\Trans φ H w φ ⟨H.o,us'⟩ w:=by
 have ht:Trans φ H w φ ⟨H.o,us'⟩ w:=⟨dD.refl _ _,fun b hb=> .inl hb,⟨h,fun id _ hr=>⟨hr,rfl⟩,fun id e' _ he=>⟨e',he,Nat.le_refl _,fun _=>rfl⟩⟩⟩
 exact⟨hH.of ht (fun _=>False) (fun _ h=>h.elim) (fun id _=>⟨rfl,rfl,fun _ _ _=>rfl⟩) (fun id hn=>hH.fresh id fun hu=>hn (h id hu)) hH.apart (fun b hb=>(hH.ours b hb).2),ht⟩
theorem eK(hH:aq M φ H w)(hk:dD (fun _=>False) w w'):aq M φ H w'/\Trans φ H w φ H w':=by
 have ht:Trans φ H w φ H w':=⟨⟨hk.os,hk.tape,hk.output,hk.size,fun k h _=>hk.block k h fun h=>h⟩,fun b hb=> .inl hb,dg.refl _ _⟩
 exact⟨hH.of ht (fun _=>False) (fun _ h=>h.elim) (fun id _=>⟨rfl,rfl,fun hl b hb=>hk.block b (hH.ours b ⟨id,hl,hb⟩).2 fun h=>h⟩) hH.fresh hH.apart (fun b hb=>Nat.lt_of_lt_of_le (hH.ours b hb).2 hk.size),ht⟩
theorem jE{Δ:List (Nat×ab)}(h:∀id∈Δ.map (·.1),H.us id):H.put Δ=⟨put H.o Δ,H.us⟩:=by
 unfold Hp.put
 congr 1
 funext id
 simp only[eq_iff_iff]
 exact⟨fun h'=>h'.elim (fun h=>h) (h id), .inl⟩
theorem qL(o:Nat->ab)(ids:List Nat):(bP o ids).map (·.1)=ids:=by
 rw[jP];simp[Function.comp_def]
structure Cx where
 base:List Deferred
 rd:Bool
def c8(ro:Option Nat):Fence:={fn:=fun _=>True,depth:=none,alive:=false,round:=ro}
def mark(r:Nat):Deferred:={target:= .collected r,args:=#[]}
def rI(cx:Cx)(w0:World)(φ:Place)(H:Hp)(w:World)(ds:List Deferred):Prop:=
 ∃ms:List Nat,ds=ms.map mark++cx.base/\ms.Nodup/\(cx.rd=true->ms=[])/\∀r∈ms,w0.heap.size<=r/\w.heap[r]? =some (.deferred (some []))/\ ¬cn φ H r
theorem rI.mono {cx:Cx}{w0:World}{φ aA:Place}{H H':Hp}{w w':World}{ds:List Deferred}(ht:Trans φ H w aA H' w')(h:rI cx w0 φ H w ds):rI cx w0 aA H' w' ds:=by
 obtain⟨ms,h1,h2,h3,h4⟩:=h
 refine⟨ms,h1,h2,h3,fun r hr=> ?_⟩
 obtain⟨g1,g2,g3⟩:=h4 r hr
 have bR:r<w.heap.size:=by
  rcases Nat.lt_or_ge r w.heap.size with hl|hl
  ·exact hl
  ·rw[Array.getElem?_eq_none hl]at g2;cases g2
 refine⟨g1,(ht.keep.block r bR g3).trans g2,fun hl=> ?_⟩
 rcases ht.grow r hl with h|h
 ·exact g3 h
 ·omega
structure bJ (M:Nat->Prop) (b7:Place) (H0:Hp) (w0:World) (n:Nat) (cx:Cx) (φ:Place) (s:S) (a:Act) (w:World):Prop where
 heap:aq M φ s.H w
 tr:Trans b7 H0 w0 φ s.H w
 size:a.tmps.size=n
 defers:rI cx w0 φ s.H w a.defers
 env:∀i,V.den (ai M φ s.H) φ s.H w (s.env i) (a.tmps.getD i undef)
variable {b7:Place}{H0:Hp}{w0:World}{n:Nat}{s:S}{a:Act}{cx:Cx}{ro:Option Nat}{k:Nat}
theorem cF{f:FuncId}{args:Array Value}{R:Ending->World->Prop}(h:Calls P f args w R):CallsIn (c8 ro) k P f args w R:=
 ⟨trivial,fun cs _=>let⟨e,w',fr,r,s,x⟩:=h cs;⟨e,w',fr,r,comesIn_wide.2 s,x⟩⟩
theorem x7{f:FuncId}{args:Array Value}{R:Ending->World->Prop}(h:CallsIn (c8 ro) k P f args w R):Calls P f args w R:=
 fun cs=>let⟨e,w',fr,r,s,x⟩:=h.2 cs (fun _ h=>by simp[c8]at h);⟨e,w',fr,r,comesIn_wide.1 s,x⟩
theorem iS{o:Oper}{next:Act->World->Prop}{Q:Exit->Act->World->Prop}(x8:∀c,o.op≠ .defer c)(h:o.uponIn (c8 ro) k P a next Q ((execOp a.eval o).run P w)):o.wpIn (c8 ro) k P a w next Q:=
 ⟨fun _ _=>trivial,by rw[Oper.semAt_eq _ _ _ x8];exact h⟩
theorem lL(hs:bJ M b7 H0 w0 n cx φ s a w){aA:Place}{H':Hp}(hH:aq M aA H' w')(ht:Trans φ s.H w aA H' w'){v:V}{val:Value}(hd:V.den (ai M aA H') aA H' w' v val){dst:Option Tmp}(cq:eX n dst)
 {o':Nat->ab} {nx':Nat} (ho:H'.o=o') (hu:∀id,H'.us id->id<nx'):bJ M b7 H0 w0 n cx aA ⟨aS s.env dst v,o',nx'⟩ (a.put dst val) w':=by
 obtain⟨k1,k2⟩:=iM hH hu
 subst ho
 refine⟨k1,hs.tr.trans (ht.trans k2), ?_, ?_,fun i=> ?_⟩
 ·cases dst<;>simp[Act.put,hs.size]
 ·have:=hs.defers.mono (ht.trans k2);cases dst<;>exact this
 ·cases dst with
  |none=>exact Ij
  |some d=>
   simp only[eX]at cq
   simp only[aS,aC,Act.put]
   by_cases hi:i=d
   ·subst hi
    have h1:(a.tmps.setIfInBounds i val).getD i undef=val:=by simp[Array.getD,hs.size,cq]
    rw[if_pos rfl,h1]
    exact V.aL k2 _ _ hd
   ·have h1:(a.tmps.setIfInBounds d val).getD i undef=a.tmps.getD i undef:=by
     exact Ng
    rw[if_neg hi,h1]
    exact Ij
theorem dJ(hs:bJ M b7 H0 w0 n cx φ s a w){aA:Place}{H':Hp}(hH:aq M aA H' w')(ht:Trans φ s.H w aA H' w'){o':Nat->ab}{nx':Nat}(ho:H'.o=o')(hu:∀id,H'.us id->id<nx'):
 bJ M b7 H0 w0 n cx aA ⟨s.env,o',nx'⟩ a w':=by
 obtain⟨k1,k2⟩:=iM hH hu
 subst ho
 exact⟨k1,hs.tr.trans (ht.trans k2),hs.size,hs.defers.mono (ht.trans k2),fun i=>V.aL (ht.trans k2) _ _ (hs.env i)⟩
theorem FR{Δ:List (Nat×ab)}(h:∀id∈Δ.map (·.1),s.H.us id\/id=s.nx)(id:Nat)(hu:(s.H.put Δ).us id):id<s.nx+1:=by
 rcases hu with hu|hu
 ·exact Nat.lt_succ_of_lt hu
 ·rcases h id hu with h|h
  ·exact Nat.lt_succ_of_lt h
  ·omega
variable {next:Act->World->Prop}{Q:Exit->Act->World->Prop}{X:V->S->Prop}{K:S->Prop}
theorem FT(hs:bJ M b7 H0 w0 n cx φ s a w){o:Oper}{op:Op}(fh:o.op=op)(cq:eX n o.dst)(h:KQ P s s.nx op fun v Δ _=>K ⟨aS s.env o.dst v,put s.o Δ,s.nx+1⟩)
 (hN:∀s' aA a' w',K s'->bJ M b7 H0 w0 n cx aA s' a' w'->next a' w'):o.wpIn (c8 ro) k P a w next Q:=by
 obtain⟨nx,val,w',aA,v,Δ,rd,hK,hr,tj,g1,g2,g3,g4⟩:=uy hs.heap (s:=s) rfl hs.env (fr:=s.nx) (by simp[S.H]) fh h
 have qB:=lL hs g1 g2 g3 cq (o':=put s.o Δ) (nx':=s.nx+1) rfl (FR g4)
 refine iS (fun c hc=>by rw[fh]at hc;subst hc;exact h) ?_
 rw[hr]
 rcases tj with rfl|⟨rfl,rfl⟩
 ·exact hN _ _ _ _ hK qB
 ·exact hN _ _ _ _ hK qB
theorem V.nr {B:Nat->Prop}{bK bs cs:List V}{u v x:List Value}(h1:V.az B φ H w bK u)(h2:V.az B φ H w bs v)(h3:V.az B φ H w cs x):V.az B φ H w (bK++bs++cs) (u++v++x):=
 V.a7 _ _ _ _ (V.a7 _ _ _ _ h1 h2) h3
theorem jF{f:FuncId}(h:Enters P f)(args:Array Value):(callFunc f args).run P w= .ok (.enter f args) w:=by
 obtain⟨fn,h1,h2,h3⟩:=h
 have qa:fn.name≠ "runtime.NumGoroutine" :=by simpa using h2
 have qb:fn.body≠none:=fun h=>by rw[h]at h3;cases h3
 simp[callFunc,h1,qa,qb]
theorem kG:∀ {rs:List D} {val:Value},R.is (ai M φ H) w (.ret rs) (.returned val)->V.den (ai M φ H) φ H w (ir rs) val
 |[],_,h=>by obtain⟨arr,rfl,h⟩:=h;exact⟨arr,rfl,h⟩
 |[x],_,h=>h
 |x::y::l,_,h=>by obtain⟨arr,rfl,h⟩:=h;exact⟨arr,rfl,(V.bW (x::y::l) _).2 h⟩
theorem R.vR {B B':Nat->Prop}:∀ {out:R} {e:Ending},out.flat=true->out.is B w e->out.is B' w e
 | .ret [], .returned _,_,h=>by obtain⟨arr,rfl,h⟩:=h;exact⟨arr,rfl,h⟩
 | .ret [x], .returned _,hf,h=>by
   simp only[R.flat,D.iq,Bool.and_true]at hf
   exact D.nN x _ hf h
 | .ret (x::y::l), .returned _,hf,h=>by obtain⟨arr,rfl,h⟩:=h;exact⟨arr,rfl,D.jS (x::y::l) _ hf h⟩
 | .bu d, .panicked _,hf,h=>by obtain⟨v,rfl,h⟩:=h;exact⟨v,rfl,D.nN d v hf h⟩
 | .ret [], .panicked _,_,h| .ret [_], .panicked _,_,h| .ret (_::_::_), .panicked _,_,h| .ret [], .outgrown,_,h| .ret [_], .outgrown,_,h| .ret (_::_::_), .outgrown,_,h| .bu _, .returned _,_,h| .bu _, .outgrown,_,h=>h.elim
theorem R.FU {B B':Nat->Prop}{w':World}(hb:∀b,nw w' b-> ¬B b-> ¬B' b):∀ {out:R} {e:Ending},out.kQ=true->out.is B w' e->out.is B' w' e
 | .ret [], .returned _,_,h=>by obtain⟨arr,rfl,h⟩:=h;exact⟨arr,rfl,h⟩
 | .ret [x], .returned _,hf,h=>by
   simp only[R.kQ,D.jT,Bool.and_true]at hf
   exact D.jC (fun b hc hn=>⟨rfl,hb b hc hn⟩) x _ hf h
 | .ret (x::y::l), .returned _,hf,h=>by obtain⟨arr,rfl,h⟩:=h;exact⟨arr,rfl,D.kR (fun b hc hn=>⟨rfl,hb b hc hn⟩) (x::y::l) _ hf h⟩
 | .bu d, .panicked _,hf,h=>by obtain⟨v,rfl,h⟩:=h;exact⟨v,rfl,D.jC (fun b hc hn=>⟨rfl,hb b hc hn⟩) d v hf h⟩
 | .ret [], .panicked _,_,h| .ret [_], .panicked _,_,h| .ret (_::_::_), .panicked _,_,h| .ret [], .outgrown,_,h| .ret [_], .outgrown,_,h| .ret (_::_::_), .outgrown,_,h| .bu _, .returned _,_,h| .bu _, .outgrown,_,h=>h.elim
theorem FV(hH:aq M φ H w){o:Nat->ab}:∀ (vs:List V) (vals:List Value),(∀id∈cH o vs,H.o id=(o id).fz)->V.az (ai M φ H) φ H w vs vals->V.az (ai M φ H) φ H w (vs.map (FO o)) vals
 |[],_,_,h=>h
 |v::vs,_,ho,h=>by
  obtain⟨u,us,rfl,h1,h2⟩:=h
  refine⟨u,us,rfl, ?_,FV hH vs us (fun id au=>ho id (by simp[cH,au])) h2⟩
  unfold FO
  split
  ·rename_i x hx
   exact ey hH v x u (fun id au=>ho id (by simp[cH,hx,au])) hx h1
  ·exact h1
theorem eY:∀ (vs:List V) (vals:List Value) (o:Nat->ab),V.az (ai M φ H) φ H w vs vals->∀id∈cH o vs,H.us id
 |[],_,_,_,j,hj=>by simp[cH]at hj
 |v::vs,_,o,h,j,hj=>by
  obtain⟨u,us,rfl,h1,h2⟩:=h
  simp only[cH,List.mem_append]at hj
  rcases hj with hj|hj
  ·cases hx:dv o v with
   |none=>simp[hx]at hj
   |some x=>simp only[hx]at hj;exact cD v u h1 j hj
  ·exact eY vs us o h2 j hj
theorem uz(hs:bJ M b7 H0 w0 n cx φ s a w){o:Oper}{g:FuncId}{all:List V}{vals:Array Value}(cq:eX n o.dst)(dW:Enters P g->(execOp a.eval o).run P w= .ok (.enter g vals) w)(aT:V.az (ai M φ s.H) φ s.H w all vals.toList)
 (h:dA P g all s.o s.nx (fun v o' nx'=>K ⟨aS s.env o.dst v,o',nx'⟩) (fun v o' nx'=>X v ⟨s.env,o',nx'⟩))
 (hN:∀s' aA a' w',K s'->bJ M b7 H0 w0 n cx aA s' a' w'->next a' w')
 (hQ:∀v s' aA w' val,X v s'->bJ M b7 H0 w0 n cx aA s' a w'->V.den (ai M aA s'.H) aA s'.H w' v val->Q (.panic [{v:=val,recovered:=false}]) a w'):o.uponIn (c8 ro) k P a next Q ((execOp a.eval o).run P w):=by
 have dP:=h.2 M φ w vals hs.heap aT
 rw[dW h.1]
 refine⟨fun hd=>by simp[c8]at hd,cF (dP.mono fun e w' ⟨aA,o',nx',v,k1,k2,k3⟩=> ?_)⟩
 cases e with
 |returned val=>exact SG
 |panicked ch=>
  obtain⟨val,rfl,k4,k5⟩:=k3
  exact Sj
 |outgrown=>exact k3.elim
theorem x9(hs:bJ M b7 H0 w0 n cx φ s a w){o:Oper}{g:FuncId}{all:List V}{vals:Array Value}(cq:eX n o.dst)(dW:Enters P g->(execOp a.eval o).run P w= .ok (.enter g vals) w)(aT:V.az (ai M φ s.H) φ s.H w all vals.toList)
 (h:rG P s g all (fun v o' nx'=>K ⟨aS s.env o.dst v,o',nx'⟩) (fun v o' nx'=>X v ⟨s.env,o',nx'⟩))
 (hN:∀s' aA a' w',K s'->bJ M b7 H0 w0 n cx aA s' a' w'->next a' w')
 (hQ:∀v s' aA w' val,X v s'->bJ M b7 H0 w0 n cx aA s' a w'->V.den (ai M aA s'.H) aA s'.H w' v val->Q (.panic [{v:=val,recovered:=false}]) a w'):o.uponIn (c8 ro) k P a next Q ((execOp a.eval o).run P w):=by
 unfold rG at h
 obtain⟨f1,f2,f3,f4,f5⟩:=cG hs.heap (V.aZ all) (cw all _ aT)
 have im:s.H.put (bP s.H.o (V.aZ all))=⟨put s.o (bP s.o (V.aZ all)),s.H.us⟩:=jE E7
 have kS:=V.aO f2 _ _ aT
 rcases h with⟨ds,out,dT,hP,hK⟩|⟨ds,out,dT,hP,nj,hK⟩|⟨ds,out,dT,hP,xk,hK⟩|hC|hC
 ·have uj:=cQ f1 all ds _ f3 dT kS
  have hM:∀b,ai M φ (s.H.put (bP s.H.o (V.aZ all))) b->b<w.heap.size:=fun b hb=>hb.elim (f1.xg b) fun hl=>(f1.ours b hl).2
  have dP:=hP.2 _ w vals hM uj
  rw[dW hP.1]
  refine⟨fun hd=>by simp[c8]at hd,cF (dP.mono fun e w' ⟨hk,ho⟩=> ?_)⟩
  obtain⟨k1,k2⟩:=eK f1 hk
  cases out with
  |ret rs=>
   cases e with
   |returned val=>
    refine hN _ _ _ _ hK (lL hs k1 (f2.trans k2) (kG ho) cq (by rw[im]) ?_)
    intro id hu;rw[im]at hu;exact Nat.lt_succ_of_lt hu
   |panicked ch=>exact tw
   |outgrown=>exact tw
  |bu x=>
   cases e with
   |returned val=>exact ho.elim
   |panicked ch=>
    obtain⟨val,rfl,hd⟩:=ho
    have qB:=dJ hs k1 (f2.trans k2) (o':=put s.o (bP s.o (V.aZ all))) (nx':=s.nx+1) (by rw[im]) (fun id hu=>by rw[im]at hu;exact Nat.lt_succ_of_lt hu)
    refine hQ _ _ _ _ val hK qB ?_
    have e1:ai M φ (S.H ⟨s.env,put s.o (bP s.o (V.aZ all)),s.nx+1⟩)=ai M φ (s.H.put (bP s.H.o (V.aZ all))):=by rw[im];rfl
    simp only[V.den]
    rw[e1];exact hd
   |outgrown=>exact ho.elim
 ·have uj:=cQ f1 all ds _ f3 dT kS
  have hM:∀b,ai M φ (s.H.put (bP s.H.o (V.aZ all))) b->b<w.heap.size:=fun b hb=>hb.elim (f1.xg b) fun hl=>(f1.ours b hl).2
  have dP:=hP.2 _ w vals hM uj
  rw[dW hP.1]
  refine⟨fun hd=>by simp[c8]at hd,cF (dP.mono fun e w' ⟨hk,ho⟩=> ?_)⟩
  obtain⟨k1,k2⟩:=eK hs.heap hk
  have ho:=R.vR (B':=ai M φ s.H) nj ho
  cases out with
  |ret rs=>
   cases e with
   |returned val=>
    exact hN _ _ _ _ hK (lL hs k1 k2 (kG ho) cq rfl fun id hu=>Nat.lt_succ_of_lt hu)
   |panicked ch=>exact tw
   |outgrown=>exact tw
  |bu x=>
   cases e with
   |returned val=>exact ho.elim
   |panicked ch=>
    obtain⟨val,rfl,hd⟩:=ho
    exact hQ _ _ _ _ val hK (dJ hs k1 k2 (o':=s.o) (nx':=s.nx+1) rfl fun id hu=>Nat.lt_succ_of_lt hu) hd
   |outgrown=>exact ho.elim
 ·obtain⟨a1,a2,a3,a4,a5⟩:=cG hs.heap ((V.aZ all).filter fun id=>(s.o id).jD) (fun id au=>cw all _ aT id (List.mem_filter.1 au).1)
  have ya:s.H.put (bP s.H.o ((V.aZ all).filter fun id=>(s.o id).jD))=⟨put s.o (oY s.o (V.aZ all)),s.H.us⟩:=by
   rw[IJ]
   exact jE (by rw[qL];exact fun id au=>cw all _ aT id (List.mem_filter.1 au).1)
  have uj:=cQ f1 all ds _ f3 dT kS
  have hM:∀b,ai M φ (s.H.put (bP s.H.o (V.aZ all))) b->b<w.heap.size:=fun b hb=>hb.elim (f1.xg b) fun hl=>(f1.ours b hl).2
  have dP:=hP.2 _ w vals hM uj
  rw[dW hP.1]
  refine⟨fun hd=>by simp[c8]at hd,cF (dP.mono fun e w' ⟨hk,ho⟩=> ?_)⟩
  obtain⟨k1,k2⟩:=eK a1 hk
  have tz:∀b,nw w' b-> ¬ai M φ (s.H.put (bP s.H.o (V.aZ all))) b-> ¬ai M φ (s.H.put (bP s.H.o ((V.aZ all).filter fun id=>(s.o id).jD))) b:=by
   intro b hc hn hm
   rcases hm with hM|⟨id,hl,hb⟩
   ·exact hn (.inl hM)
   ·by_cases au:id∈V.aZ all
    ·cases hx:s.H.o id with
     |arr ep ty sz es=>
      rw[a3 id (List.mem_filter.2 ⟨au,by show(s.H.o id).jD=true;rw[hx];rfl⟩),hx]at hl
      cases hl
     |map kt vt l=>
      have kC:id∉(V.aZ all).filter fun id=>(s.o id).jD:=fun h=>by
       have h2:(s.H.o id).jD=true:=(List.mem_filter.1 h).2
       rw[hx]at h2;cases h2
      have aQ:=k1.ok id
      unfold aJ at aQ
      rw[a4 id kC,hx]at aQ
      obtain⟨b',es,clock,g1,g2,_⟩:=aQ
      rw[g1]at hb
      injection hb with hb
      subst hb
      obtain⟨cs,ty,fz,hc⟩:=hc
      rw[g2]at hc
      cases hc
     |_=>
      have kC:id∉(V.aZ all).filter fun id=>(s.o id).jD:=fun h=>by
       have h2:(s.H.o id).jD=true:=(List.mem_filter.1 h).2
       rw[hx]at h2;cases h2
      refine hn (.inr ⟨id, ?_,hb⟩)
      rw[a4 id kC,hx]at hl
      rw[f3 id au,hx]
      exact hl
    ·have kC:id∉(V.aZ all).filter fun id=>(s.o id).jD:=fun h=>au (List.mem_filter.1 h).1
     refine hn (.inr ⟨id, ?_,hb⟩)
     rw[a4 id kC]at hl
     rw[f4 id au]
     exact hl
  have ho:=R.FU (w':=w') (B':=ai M φ (s.H.put (bP s.H.o ((V.aZ all).filter fun id=>(s.o id).jD)))) tz xk ho
  cases out with
  |ret rs=>
   cases e with
   |returned val=>
    refine hN _ _ _ _ hK (lL hs k1 (a2.trans k2) (kG ho) cq (by rw[ya]) ?_)
    intro id hu;rw[ya]at hu;exact Nat.lt_succ_of_lt hu
   |panicked ch=>exact tw
   |outgrown=>exact tw
  |bu x=>
   cases e with
   |returned val=>exact ho.elim
   |panicked ch=>
    obtain⟨val,rfl,hd⟩:=ho
    have qB:=dJ hs k1 (a2.trans k2) (o':=put s.o (oY s.o (V.aZ all))) (nx':=s.nx+1) (by rw[ya]) (fun id hu=>by rw[ya]at hu;exact Nat.lt_succ_of_lt hu)
    refine hQ _ _ _ _ val hK qB ?_
    have e1:ai M φ (S.H ⟨s.env,put s.o (oY s.o (V.aZ all)),s.nx+1⟩)=ai M φ (s.H.put (bP s.H.o ((V.aZ all).filter fun id=>(s.o id).jD))):=by rw[ya];rfl
    simp only[V.den]
    rw[e1];exact hd
   |outgrown=>exact ho.elim
 ·exact uz hs cq dW aT hC hN hQ
 ·obtain⟨f1,f2,f3,f4,f5⟩:=cG hs.heap (cH s.o all) (eY all _ s.o aT)
  have im:s.H.put (bP s.H.o (cH s.o all))=hp (put s.o (bP s.o (cH s.o all))) s.nx:=jE (by rw[qL];exact eY all _ s.o aT)
  have kS:=FV f1 all _ f3 (V.aO f2 _ _ aT)
  rw[im]at f1 f2 kS
  exact uz (s:=⟨s.env,put s.o (bP s.o (cH s.o all)),s.nx⟩) (dJ hs f1 f2 rfl fun id hu=>hu) cq dW kS hC hN hQ
theorem IK(hs:bJ M b7 H0 w0 n cx φ s a w){o:Oper}{c:Call}{f:Operand}(fh:o.op= .call c)(hc:c.callee= .value f)(cq:eX n o.dst)
 (h:x6 P s (s.ev f) (c.args.toList.map s.ev) (fun v o' nx'=>K ⟨aS s.env o.dst v,o',nx'⟩) (fun v o' nx'=>X v ⟨s.env,o',nx'⟩))
 (hN:∀s' aA a' w',K s'->bJ M b7 H0 w0 n cx aA s' a' w'->next a' w')
 (hQ:∀v s' aA w' val,X v s'->bJ M b7 H0 w0 n cx aA s' a w'->V.den (ai M aA s'.H) aA s'.H w' v val->Q (.panic [{v:=val,recovered:=false}]) a w'):o.wpIn (c8 ro) k P a w next Q:=by
 refine iS (fun c' xl=>by rw[fh]at xl;cases xl) ?_
 have hf:=kK (M:=M) (φ:=φ) (H:=s.H) (w:=w) s a hs.env f
 have db:=iO (M:=M) (φ:=φ) (H:=s.H) (w:=w) s a hs.env c.args.toList
 unfold x6 at h
 split at h
 ·rename_i g first cap tA
  rw[tA]at hf
  obtain⟨fa,ca,NB,BU,Xn⟩:=hf
  have aT:V.az (ai M φ s.H) φ s.H w (first++c.args.toList.map s.ev++cap) (fa++c.args.map a.eval++ca).toList:=by
   exact Tb
  generalize first++c.args.toList.map s.ev++cap=all at h aT
  generalize nu:fa++c.args.map a.eval++ca=vals at aT
  have dW:Enters P g->(execOp a.eval o).run P w= .ok (.enter g vals) w:=by
   intro he
   have:=jF (w:=w) he (fa++c.args.map a.eval++ca)
   rw[nu]at this
   simp[execOp,fh,resolve,hc,NB,Deferred.ofValue,invoke,this,nu]
  exact x9 hs cq dW aT h hN hQ
 ·rename_i id tA
  rw[tA]at hf
  obtain⟨_,ee,hp'⟩:=hf
  obtain⟨cy,hR⟩:=h
  obtain⟨b,ef,NB⟩:=hp' cy
  obtain⟨fn,tmps,assign,body,h1,h2⟩:=hR M φ w (c.args.map a.eval) b hs.heap (by rw[Array.toList_map];exact db) ef
  have dW:(execOp a.eval o).run P w= .ok (.round b fn tmps assign body) w:=by
   simp[execOp,fh,resolve,hc,NB,Deferred.ofValue,invoke,h1]
  rw[dW]
  refine⟨fun hd=>by simp[c8]at hd,RoundIn.mono (h2 (k - 1)) fun e w' ⟨aA,o',nx',v,k1,k2,k3⟩=> ?_⟩
  cases e with
  |returned val=>exact SG
  |panicked ch=>
   obtain⟨val,rfl,k4,k5⟩:=k3
   exact Sj
  |outgrown=>exact k3.elim
 ·exact h.elim
theorem DH(hs:bJ M b7 H0 w0 n cx φ s a w){o:Oper}{c:Call}{r:Operand}{m:String}{g:FuncId}{y:V}(fh:o.op= .call c)(hc:c.callee= .invoke r m)(cq:eX n o.dst)(hr:rH P m (s.ev r)=some (g,y))
 (h:rG P s g (y::c.args.toList.map s.ev) (fun v o' nx'=>K ⟨aS s.env o.dst v,o',nx'⟩) (fun v o' nx'=>X v ⟨s.env,o',nx'⟩))
 (hN:∀s' aA a' w',K s'->bJ M b7 H0 w0 n cx aA s' a' w'->next a' w')
 (hQ:∀v s' aA w' val,X v s'->bJ M b7 H0 w0 n cx aA s' a w'->V.den (ai M aA s'.H) aA s'.H w' v val->Q (.panic [{v:=val,recovered:=false}]) a w'):o.wpIn (c8 ro) k P a w next Q:=by
 refine iS (fun c' xl=>by rw[fh]at xl;cases xl) ?_
 have hf:=kK (M:=M) (φ:=φ) (H:=s.H) (w:=w) s a hs.env r
 have db:=iO (M:=M) (φ:=φ) (H:=s.H) (w:=w) s a hs.env c.args.toList
 unfold rH at hr
 split at hr
 ·rename_i t d hx
  rw[hx]at hf
  obtain⟨val,hv,hd⟩:=hf
  split at hr
  ·rename_i ti hti
   split at hr
   ·rename_i mr qQ
    split at hr
    ·rename_i f EF
     split at hr
     ·rename_i K6
      injection hr with hr
      injection hr with h1 h2
      subst h1;subst h2
      refine x9 (vals:=#[val]++c.args.map a.eval) hs cq ?_ ?_ h hN hQ
      ·intro he
       have dW:=jF (w:=w) he (#[val]++c.args.map a.eval)
       have hpa:mr.path=#[]:=Array.isEmpty_iff.1 K6.1
       have hu:∃u,P.underlying t=some u/\∀e,u≠ .pointer e:=by
        have:=K6.2
        unfold K5 at this
        split at this
        ·cases this
        ·rename_i u kA hu;exact⟨u,hu,fun e he=>kA e he⟩
        ·cases this
       obtain⟨u,hu,K7⟩:=hu
       have hm:(method (P.types.size+Made.depth) t val m).run P w= .ok (f,val) w:=by
        have:P.types.size+Made.depth=(P.types.size+Made.depth - 1)+1:=by simp[Made.depth]
        rw[this]
        cases u<;>first|exact absurd rfl (K7 _)|simp[method,typeInfo,hti,qQ,hpa,EF,follow,receiverAt,run_underlying hu,_root_.Go.Place.get]
       have h0:(#[Value.iface t val]++Array.map a.eval c.args)[0]? =some (.iface t val):=by
        rw[Array.getElem?_append_left (by simp)];rfl
       have h1:(Array.map a.eval c.args).extract 0 c.args.size=Array.map a.eval c.args:=by
        rw[show c.args.size=(Array.map a.eval c.args).size from by simp,Array.extract_size]
       simp[execOp,fh,resolve,hc,invoke,callMethod,hv,h0,h1,hm,dW]
      ·simp only[Array.toList_append,Array.toList_map]
       exact⟨val,_,rfl,hd,db⟩
     ·cases hr
    ·cases hr
   ·cases hr
  ·cases hr
 ·cases hr
theorem uA(hs:bJ M b7 H0 w0 n cx φ s a w){o:Oper}(h:YZ P n s o X K)
 (hN:∀s' aA a' w',K s'->bJ M b7 H0 w0 n cx aA s' a' w'->next a' w')
 (hQ:∀v s' aA w' val,X v s'->bJ M b7 H0 w0 n cx aA s' a w'->V.den (ai M aA s'.H) aA s'.H w' v val->Q (.panic [{v:=val,recovered:=false}]) a w'):o.wpIn (c8 ro) k P a w next Q:=by
 obtain⟨cq,h⟩:=h
 split at h
 ·rename_i c fh
  split at h
  ·rename_i f hc
   exact IK hs fh hc cq h hN hQ
  ·rename_i r m hc
   split at h
   ·rename_i g y hr;exact DH hs fh hc cq hr h hN hQ
   ·exact h.elim
  ·exact FT hs rfl cq h hN
 ·rename_i x fh
  have hx:=kK (M:=M) (φ:=φ) (H:=s.H) (w:=w) s a hs.env x
  have bu:∀ (t:TypeId) (u:Value),a.eval x= .iface t u->Q (.panic [{v:= .iface t u,recovered:=false}]) a w->o.wpIn (c8 ro) k P a w next Q:=by
   intro t u hu hq
   refine iS (fun c hc=>by rw[fh]at hc;cases hc) ?_
   have hr:(execOp a.eval o).run P w= .halt (.panic (.iface t u)) w:=by simp[execOp,fh,hu,Instr.panic]
   rw[hr];exact hq
  split at h
  ·rename_i t y hv
   rw[hv]at hx
   obtain⟨u,hu,hd⟩:=hx
   exact Kp
  ·rename_i t y hv
   rw[hv]at hx
   obtain⟨u,hu,hd⟩:=hx
   exact Kp
  ·exact h.elim
 ·exact FT hs rfl cq h hN
end
end
end Go.Proofs.YtlhemmpklhhgoaaGreat
namespace Go
def Code.qC (P:Program)(ro:Option Nat)(c:Code)(Q:Exit->Act->World->Prop)(a:Act)(w:World):Prop:=
 ∀ (b:Frame) (k:List Item) (cs:List Frame),b.roundOf=ro->b.fn<P.funcs.size->
   ∃e a' w',Q e a' w'/\ArrivesIn (Machine.fenced P (Proofs.YtlhemmpklhhgoaaGreat.c8 ro)) P (lone (b.atR a (.code c::k)) cs w) b k cs e a' w'
end Go
namespace Go.Proofs.YtlhemmpklhhgoaaGreat
instance:LawfulMonad Sem:=LawfulMonad.mk' Sem (id_map:=fun x=>Sem.bind_pure' x) (pure_bind:=fun _ _=>rfl) (bind_assoc:=fun x f g=>Sem.bind_assoc' x f g)
section
variable {P:Program}{M:Nat->Prop}{φ:Place}{H:Hp}{w w':World}{b7:Place}{H0:Hp}{w0:World}{n b:Nat}{s:S}{a:Act}{cx:Cx}{ro:Option Nat}{k:Nat}
theorem nQ(hs:bJ M b7 H0 w0 n cx φ s a w){ops:Array Oper}{o:Oper}{A B:Prop}(h:vO s ops o.guard A B):
 (Region.wanted o (yielded ops a.tmps)=true->A)/\(Region.wanted o (yielded ops a.tmps)=false->B):=by
 unfold vO at h
 unfold Region.wanted
 split at h
 ·rename_i hg;simp only[hg];exact⟨fun _=>h,fun h=>by cases h⟩
 ·rename_i j want hg
  simp only[hg]
  unfold pS at h
  unfold yielded
  split at h
  ·rename_i d hd
   simp only[hd,Option.bind_some]
   have dw:=hs.env d
   split at h
   ·rename_i c hv
    rw[hv]at dw
    simp only[V.den,D.den]at dw
    have:a.tmps[d]? =some (.bool c):=by
     rw[Array.getD_eq_getD_getElem?]at dw
     cases hx:a.tmps[d]? with
     |none=>rw[hx]at dw;simp[undef]at dw
     |some x=>rw[hx]at dw;simp at dw;rw[dw]
    simp only[this]
    by_cases hc:c=want
    ·subst hc;exact⟨fun _=>h.1 rfl,fun h=>by simp at h⟩
    ·exact⟨fun h'=>absurd (by simpa using h') hc,fun _=>h.2 hc⟩
   ·rename_i hv
    rw[hv]at dw
    obtain⟨arr,cL,hn⟩:=dw
    simp only[V.az]at hn
    have:∀c,a.tmps[d]? ≠some (.bool c):=by
     exact KJ
    cases hx:a.tmps[d]? with
    |none=>exact⟨fun h=>by simp at h,fun _=>h⟩
    |some x=>cases x<;>first|(exact absurd hx (this _))|(exact⟨fun h=>by simp at h,fun _=>h⟩)
   ·exact h.elim
  ·rename_i hd
   simp only[hd,Option.bind_none]
   exact⟨fun h=>by simp at h,fun _=>h⟩
theorem yc(hs:bJ M b7 H0 w0 n cx φ s a w){dst:Option Tmp}(cq:eX n dst):bJ M b7 H0 w0 n cx φ ⟨aS s.env dst (.bH []),s.o,s.nx+1⟩ (a.put dst undef) w:=
 lL (v:= .bH []) (val:=undef) hs hs.heap (Trans.refl _ _ _) ⟨#[],rfl,rfl⟩ cq rfl fun _ hu=>Nat.lt_succ_of_lt hu
theorem mP{ops:Array Oper}{X:V->S->Prop}{K:S->Prop}{Q:Exit->Act->World->Prop}
 (hK:∀s φ a w,K s->bJ M b7 H0 w0 n cx φ s a w->Q .normal a w)
 (hQ:∀v s' aA a w' val,X v s'->bJ M b7 H0 w0 n cx aA s' a w'->V.den (ai M aA s'.H) aA s'.H w' v val->Q (.panic [{v:=val,recovered:=false}]) a w'):
 ∀ (l:List Oper) (s:S) (φ:Place) (a:Act) (w:World),vP P n ops X K l s->bJ M b7 H0 w0 n cx φ s a w->wpListIn (c8 ro) k P ops Q l a w
 |[],s,φ,a,w,h,hs=>hK s φ a w h hs
 |o::l,s,φ,a,w,h,hs=>by
  obtain⟨h1,h2⟩:=nQ hs h
  unfold wpListIn
  split
  ·rename_i hw
   exact uA hs (h1 hw) (fun s' aA a' w' hk iI=>mP hK hQ l s' aA a' w' hk iI) (fun v s' aA w' val hx iI hd=>hQ v s' aA a w' val hx iI hd)
  ·rename_i hw
   obtain⟨cq,h3⟩:=h2 (by simpa using hw)
   exact⟨fun _ _=>trivial,mP hK hQ l _ _ _ _ h3 (yc hs cq)⟩
def Cc(M:Nat->Prop)(b7:Place)(H0:Hp)(w0:World)(n:Nat)(cx:Cx)(Q:eT->S->Prop)(e:Exit)(a:Act)(w:World):Prop:=
 ∃x s φ,Q x s/\bJ M b7 H0 w0 n cx φ s a w/\match e,x with
  | .normal, .normal=>True
  | .exit i, .exit j=>i=j
  | .ret, .ret=>True
  | .panic ch, .bu v=>∃val,ch=[{v:=val,recovered:=false}]/\V.den (ai M φ s.H) φ s.H w v val
  |_,_=>False
section
variable {Q:Exit->Act->World->Prop}
theorem eZ{m:Nat}:(c8 ro).room m:=fun d hd=>by simp[c8]at hd
theorem mQ{c:Code}(h:c.wpIn (c8 ro) k P Q a w):c.qC P ro Q a w:=fun b k cs qQ _=>h b k cs qQ trivial eZ
theorem e7{c:Code}{Q':Exit->Act->World->Prop}(h:c.qC P ro Q a w)(hq:∀e a w,Q e a w->Q' e a w):c.qC P ro Q' a w:=
 fun b k cs qQ hb=>let⟨e,a',w',q,r⟩:=h b k cs qQ hb;⟨e,a',w',hq _ _ _ q,r⟩
theorem Cd(h:Q .ret a w):Code.ret.qC P ro Q a w:=mQ (k:=0) (wpIn_ret h)
theorem yd{id:Nat}(h:Q (.exit id) a w):(Code.exit id).qC P ro Q a w:=mQ (k:=0) (wpIn_exit h)
theorem vS{x y:Code}(h:x.qC P ro (Exit.then (y.qC P ro Q) Q) a w):(Code.seq x y).qC P ro Q a w:=by
 intro b k cs qQ hb
 have h0:(lone (b.atR a (.code (.seq x y)::k)) cs w).fenced P (c8 ro):=fenced_calm (n:=0) trivial eZ rfl
 obtain⟨e,l0,gZ,hq,cL⟩:=h b (.code y::k) cs qQ hb
 cases e with
 |normal=>
  obtain⟨NC,TF,pn,nR,iT⟩:=hq b k cs qQ hb
  exact⟨NC,TF,pn,nR, .of_steps (.head h0 stepR_seq cL) iT⟩
 |exit id=>exact E2
 |goto l=>exact E2
 |ret=>exact E2
 |panic ch=>exact E2
 |outgrown=>exact E2
theorem nS{c:Operand}{x y:Code}{t:Bool}(hc:a.eval c= .bool t)(h:(if t then x else y).qC P ro Q a w):(Code.cond c x y).qC P ro Q a w:=
 fun b k cs qQ hb=>let⟨e,a',w',q,r⟩:=h b k cs qQ hb;⟨e,a',w',q, .of_steps (.one (fenced_calm (n:=0) trivial eZ rfl) (stepR_cond hc)) r⟩
theorem DI{id:Nat}{c:Code}(h:c.qC P ro (Exit.inBlock id Q) a w):(Code.block id c).qC P ro Q a w:=by
 intro b k cs qQ hb
 have h0:(lone (b.atR a (.code (.block id c)::k)) cs w).fenced P (c8 ro):=fenced_calm (n:=0) trivial eZ rfl
 obtain⟨e,l0,gZ,hq,cL⟩:=h b (.inBlock id::k) cs qQ hb
 cases e with
 |normal=>exact⟨.normal,l0,gZ,hq, .head h0 stepR_block (StepsIn.trans cL (.one (fenced_calm (n:=0) trivial eZ rfl) stepR_inBlock))⟩
 |exit Aa=>
  by_cases au:Aa=id
  ·simp only[Exit.inBlock,au,if_true]at hq
   exact⟨.normal,l0,gZ,hq, .head h0 stepR_block (cL.1 k (by simp[exitTo,au]))⟩
  ·simp only[Exit.inBlock,au,if_false]at hq
   have this:(id==Aa)=false:=by simp;exact fun h=>au h.symm
   have hx:exitTo Aa (.inBlock id::k)=exitTo Aa k:=by simp[exitTo,this]
   exact⟨.exit Aa,l0,gZ,hq,fun k' hk=> .head h0 stepR_block (cL.1 k' tU),
    fun DD hk=>let⟨k₁,h1,h2⟩:=cL.2 DD tU;⟨k₁,h1, .head h0 stepR_block h2⟩⟩
 |goto l=>
  have hx:gotoIn l (.inBlock id::k)=gotoIn l k:=by simp[gotoIn]
  exact⟨_,l0,gZ,hq,fun k' hk=> .head h0 stepR_block (cL.1 k' tU),
   fun DD hk=>let⟨k₁,h1,h2⟩:=cL.2 DD tU;⟨k₁,h1, .head h0 stepR_block h2⟩⟩
 |ret=>exact M3
 |panic ch=>exact M3
 |outgrown=>exact M3
theorem iL{b:Frame}{k:List Item}{cs:List Frame}{c:Code}:step P (lone (b.atR a (.code (.scope c)::k)) cs w)= .next (lone (b.atR a (.code c:: .inScope c::k)) cs w):=
 step_lone_go (by simp[stepG,stepG.exec,Frame.atR])
theorem tJ{b:Frame}{k:List Item}{cs:List Frame}{c:Code}:step P (lone (b.atR a (.inScope c::k)) cs w)= .next (lone (b.atR a k) cs w):=
 step_lone_go (by simp[stepG,stepG.exec,Frame.atR])
theorem uB{c:Code}(h:c.qC P ro Q a w)(hg:∀l a w, ¬Q (.goto l) a w):(Code.scope c).qC P ro Q a w:=by
 intro b k cs qQ hb
 have h0:(lone (b.atR a (.code (.scope c)::k)) cs w).fenced P (c8 ro):=fenced_calm (n:=0) trivial eZ rfl
 obtain⟨e,l0,gZ,hq,cL⟩:=h b (.inScope c::k) cs qQ hb
 cases e with
 |normal=>exact⟨.normal,l0,gZ,hq, .head h0 iL (StepsIn.trans cL (.one (fenced_calm (n:=0) trivial eZ rfl) tJ))⟩
 |exit Aa=>
  have hx:exitTo Aa (.inScope c::k)=exitTo Aa k:=by simp[exitTo]
  exact⟨.exit Aa,l0,gZ,hq,fun k' hk=> .head h0 iL (cL.1 k' tU),
   fun DD hk=>let⟨k₁,h1,h2⟩:=cL.2 DD tU;⟨k₁,h1, .head h0 iL h2⟩⟩
 |goto l=>exact(hg _ _ _ hq).elim
 |ret=>exact M4
 |panic ch=>exact M4
 |outgrown=>exact M4
def rJ(P:Program)(l:Nat)(Q:Exit->Act->World->Prop)(a':Act):Ending->World->Prop
 | .returned _,AA=>∃jump qD,(Instr.endLoop l).run P AA= .ok jump qD/\(match jump with|none=>Q .normal a' qD|some c=>c.qC P none Q a' qD)
 | .panicked chain,AA=>Q (.panic chain) a' AA
 | .outgrown,_=>LetsOut Q
theorem tK{g:Operand}{ps:Array Tmp}{assign body:Code}
 (h:∀fn,fn<P.funcs.size->∃ (l:Nat) (mark:List Deferred) (gZ:World) (d:Deferred) (uC:World) (f:FuncId) (args:Array Value) (pn:World),
  (Instr.enterLoop fn a.tmps ps assign body (c8 none).round).run P w= .ok (l,mark) gZ/\(resolve a.eval (rangeCall g l) 0).run P gZ= .ok d uC/\
  (invoke d.target d.args).run P uC= .ok (.enter f args) pn/\CallsIn (c8 none) 0 P f args pn (rJ P l Q {a with defers:=mark++a.defers})):
 (Code.rangeFunc g ps assign body).qC P none Q a w:=by
 intro b k cs qQ hb
 obtain⟨l,mark,gZ,d,uC,f,args,pn,he,ye,hinv,hF,dP⟩:=h b.fn hb
 rw[show(c8 none).round=b.roundOf from qQ.symm]at he
 have calm:∀ (m:Machine),m.fenced P (c8 none)↔m.fenced P Fence.wide:=fun m=>Iff.rfl
 have h0:(lone (b.atR a (.code (.rangeFunc g ps assign body)::k)) cs w).fenced P (c8 none):=(calm _).2 (fenced_wide P _)
 have jV:=stepR_rangeFunc (P:=P) (b:=b) (a:=a) (k:=k) (cs:=cs) (w:=w) he ye hinv
 obtain⟨e,AA,fr,hR,AB,EF,FW⟩:=dP (b.atR {a with defers:=mark++a.defers} (.inRangeFunc l::k)::cs) eZ
 cases e with
 |outgrown=>
  obtain⟨Y0,Y1,hq⟩:=hR
  exact⟨.outgrown,Y0,Y1,hq, .inr (Outgrown.of_steps (.one jV) AB)⟩
 |returned v=>
  obtain⟨jump,qD,dC,hj⟩:=hR
  have K8:StepsIn (Machine.fenced P (c8 none)) P (lone (b.atR a (.code (.rangeFunc g ps assign body)::k)) cs w) (lone (b.atR {a with defers:=mark++a.defers} ((jump.map Item.code).toList++k)) cs qD):=by
   refine .head h0 jV (StepsIn.trans AB (.head ((calm _).2 (fenced_wide P _)) ?_ (.one ((calm _).2 (fenced_wide P _)) (stepR_endRangeFunc dC))))
   rw[<- finish_atR_inRangeFunc l v];exact step_leave_returned FW
  cases jump with
  |none=>exact⟨.normal,_,qD,hj,K8⟩
  |some c=>
   obtain⟨e',a'',Y2,hq,cL⟩:=hj b k cs qQ hb
   exact⟨e',a'',Y2,hq, .of_steps K8 cL⟩
 |panicked chain=>
  refine⟨.panic chain,_,AA,hR, .inRangeFunc l::k, .head h0 jV (StepsIn.trans AB (.one ((calm _).2 (fenced_wide P _)) ?_))⟩
  rw[<- Frame.raise_atR];exact step_leave_panicked FW
end
theorem uD(hH:aq M φ H w){id l:Nat}(ee:H.us id){nf m:Nat}{env:List V}{ps:List Nat}{jg eS:IC}{st st':LoopState}{pd pd':Option iH}(ho:H.o id= .loop nf m env ps jg eS st pd)(ef:φ id= .pointer (some ⟨l,0,none⟩)):
 ∃r,w.heap[l]? =some (.loop r)/\r.state=st/\r.pending=pd.map iH.code/\
  aq M φ (H.put [(id, .loop nf m env ps jg eS st' pd')]) {w with heap:=w.heap.setIfInBounds l (.loop {r with state:=st',pending:=pd'.map iH.code})}/\
  Trans φ H w φ (H.put [(id, .loop nf m env ps jg eS st' pd')]) {w with heap:=w.heap.setIfInBounds l (.loop {r with state:=st',pending:=pd'.map iH.code})}:=by
 have aQ:=hH.ok id
 simp only[aJ,ho]at aQ
 obtain⟨b,r,h1,h2,h0,h3,h4,h5,h6,h7,h8,h9⟩:=aQ
 rw[ef]at h1;simp at h1;subst h1
 refine⟨r,h2,h3,h4, ?_⟩
 have FJ:dD (· =l) w {w with heap:=w.heap.setIfInBounds l (.loop {r with state:=st',pending:=pd'.map iH.code})}:=
  ⟨rfl,rfl,rfl,aK,fun j _ hj=>(MapKept.heap_set h2).2 j hj⟩
 have vG:(H.o id).live=true:=by rw[ho];rfl
 have DB:dR (φ id)=some l:=by rw[ef];rfl
 have ht:=eE (w:=w) (w':={w with heap:=w.heap.setIfInBounds l (.loop {r with state:=st',pending:=pd'.map iH.code})}) ee vG DB FJ (.loop nf m env ps jg eS st' pd') dB dB
 refine⟨gR hH ee vG DB FJ _ dB dB ?_,ht⟩
 unfold aJ
 simp only[bn,aC,if_true]
 exact⟨l,_,ef,(MapKept.heap_set h2).1,h0,rfl,rfl,h5,h6,h7,h8,fun i=>V.aL ht _ _ (h9 i)⟩
theorem gA{l:Nat}{r:Loop}(o:Obj)(hb:w.heap[l]? =some (.loop r)):(setObj l o).run P w= .ok () {w with heap:=w.heap.setIfInBounds l o}:=by
 simp[setObj,Sem.run,hb]
theorem iU{l:Nat}{r:Loop}(hb:w.heap[l]? =some (.loop r)):(Instr.getLoop l).run P w= .ok r w:=by
 simp[Instr.getLoop,getObj,Sem.run,hb,Result.andThen]
end
def pq(Q:eT->S->Prop)(pd:Option iH)(s:S):Prop:=
 match pd with
 |none=>Q .normal s
 |some .ret=>Q .ret s
 |some (.exit id)=>Q (.exit id) s
def yf(P:Program)(n:Nat)(g:V)(ps:List Nat)(jg eS:IC)(Q:eT->S->Prop)(s:S):Prop:=
 ∃env,(∀i,ba env i= .aa\/ba env i=s.env i)/\
  match g with
  | .func (.func f) first cap=>mi P f (first++[.js s.nx]++cap) (aI s.o s.nx (.loop P.funcs.size n env ps jg eS .ready none)) (s.nx+1)
    (fun _ o' nx'=>∃nf m e p c d st pd,o' s.nx= .loop nf m e p c d st pd/\st≠ .busy/\pq Q pd ⟨s.env,aI o' s.nx (.loop nf m e p c d .exhausted pd),nx'⟩)
    (fun v o' nx'=>Q (.bu v) ⟨s.env,o',nx'⟩)
  |_=>False
def TG(P:Program)(n b:Nat)(g:Operand)(ps:List Nat)(jg eS:IC)(Q:eT->S->Prop)(s:S):Prop:=∃s',(s'=s\/bG b s s')/\yf P n (s'.ev g) ps jg eS Q s'
def gH(P:Program)(n b:Nat)(rd:Bool):Code->(eT->S->Prop)->S->Prop
 | .skip,Q,s=>Q .normal s
 | .label _,Q,s=>Q .normal s
 | .scope x,Q,s=>gH P n b rd x Q s
 | .region _ ops false,Q,s=>vP P n ops (fun v s=>Q (.bu v) s) (Q .normal) ops.toList s
 | .region id ops true,Q,s=>∀M b7 H0 w0 cx φ a w ro k,bJ M b7 H0 w0 n cx φ s a w->(Code.region id ops true).wpIn (c8 ro) k P (Cc M b7 H0 w0 n cx Q) a w
 | .seq x y,Q,s=>gH P n b rd x (nP (gH P n b rd y Q) Q) s
 | .cond c x y,Q,s=>match s.ev c with
   | .d (.bool t)=>(t=true->gH P n b rd x Q s)/\(t=false->gH P n b rd y Q s)
   | .eg=>gH P n b rd x Q s/\gH P n b rd y Q s
   |_=>False
 | .block id x,Q,s=>gH P n b rd x (eh id Q) s
 | .loop x,Q,s=>∃ (J:Nat->S->Prop),(∃m s1,bG b s s1/\J m s1)/\∀m s0,J m s0->gH P n b rd x (fun e s=>match e with| .normal=>∃m' s1,m'<m/\bG b s s1/\J m' s1|e=>Q e s) s0
 | .exit id,Q,s=>Q (.exit id) s
 | .ret,Q,s=>Q .ret s
 | .rangeFunc g ps x y,Q,s=>rd=false/\TG P n b g ps.toList (low n x) (low n y) Q s
 |_,_,_=>False
section
variable {P:Program}{M:Nat->Prop}{φ:Place}{H:Hp}{w w':World}{b7:Place}{H0:Hp}{w0:World}{n b:Nat}{s:S}{a:Act}{cx:Cx}{ro:Option Nat}{k:Nat}
theorem AD(hb:∀id,H0.us id->id<b)(hs:bJ M b7 H0 w0 n cx φ s a w){s':S}(h:bG b s s'):∃aA,bJ M b7 H0 w0 n cx aA s' a w:=by
 obtain⟨aA,h1,h2,h3,h4,h5,h6⟩:=h M φ w (fun i=>a.tmps.getD i undef) hs.heap hs.env
 refine⟨aA,h1,⟨hs.tr.keep,fun k hk=>hs.tr.grow k (h3 k hk),⟨fun id hu=>Nat.lt_of_lt_of_le (hb id hu) h4,fun id hu hr=> ?_,fun id e' hu he=> ?_⟩⟩,hs.size, ?_,h2⟩
 ·obtain⟨g1,g2⟩:=h5 id (hb id hu) hr
  obtain⟨g3,g4⟩:=hs.tr.rel.row id hu g1
  exact⟨g3,g2.trans g4⟩
 ·obtain⟨e,g1,g2,g3⟩:=h6 id e' (hb id hu) he
  obtain⟨e0,k1,k2,k3⟩:=hs.tr.rel.ep id e hu g1
  refine⟨e0,k1,Nat.le_trans k2 g2,fun heq=> ?_⟩
  have a1:e0=e:=af
  have a2:e=e':=af
  exact(g3 a2).trans (k3 a1)
 ·obtain⟨ms,g1,g2,g3,g4⟩:=hs.defers
  exact⟨ms,g1,g2,g3,fun r hr=>⟨(g4 r hr).1,(g4 r hr).2.1,fun hl=>(g4 r hr).2.2 (h3 r hl)⟩⟩
theorem vT{c:Code}{Q:Exit->Act->World->Prop}(J:Nat->Act->World->Prop)(round:∀m a w,J m a w->c.qC P ro (Exit.then (fun a' w'=>∃m',m'<m/\J m' a' w') Q) a w):
 ∀m a w,J m a w->(Code.loop c).qC P ro Q a w:=by
 intro m a w h0 fr kk cs qQ hb
 have hr:(c8 ro).room (cs.length+1+0):=fun d hd=>by simp[c8]at hd
 have key:∀m a w,J m a w->∃e a' w',Q e a' w'/\ArrivesIn (Machine.fenced P (c8 ro)) P (lone (fr.atR a (.code c:: .inLoop c::kk)) cs w) fr kk cs e a' w':=by
  intro m
  induction m using Nat.strongRecOn with
  |_ m ih=>
   intro a w hJ
   obtain⟨e,a1,w1,hq,cL⟩:=round m a w hJ fr (.inLoop c::kk) cs qQ hb
   cases e with
   |normal=>
    obtain⟨m',bR,hJ'⟩:=hq
    obtain⟨e2,a2,w2,QH,Ce⟩:=ih m' bR a1 w1 hJ'
    exact⟨e2,a2,w2,QH, .of_steps (StepsIn.trans cL (.one (fenced_calm trivial hr rfl) stepR_inLoop)) Ce⟩
   |_=>exact⟨_,a1,w1,hq, .pass (x:= .inLoop c) rfl (fun _ _=> .inl aK) cL⟩
 obtain⟨e,a',w',hq,cL⟩:=key m a w h0
 exact⟨e,a',w',hq, .of_steps (.one (fenced_calm trivial hr rfl) stepR_loop) cL⟩
theorem uE(hs:bJ M b7 H0 w0 n cx φ s a w)(l6:cx.rd=false)(qQ:ro=none){g:Operand}{ps:Array Tmp}{x y:Code}{Q:eT->S->Prop}(h:yf P n (s.ev g) ps.toList (low n x) (low n y) Q s):
 (Code.rangeFunc g ps x y).qC P ro (Cc M b7 H0 w0 n cx Q) a w:=by
 subst qQ
 obtain⟨env,dw,h⟩:=h
 refine tK fun fn EF=> ?_
 let AE:Loop:={state:= .ready,pending:=none,fn:=fn,tmps:=a.tmps,params:=ps,assign:=x,body:=y,defers:=w.heap.size}
 let w1:World:=(w.alloc (.deferred (some []))).alloc (.loop AE)
 let l:Nat:=w.heap.size+1
 have jV:(Instr.enterLoop fn a.tmps ps x y (c8 none).round).run P w= .ok (l,[mark w.heap.size]) w1:=by
  simp[Instr.enterLoop,c8,mark,w1,l,AE]
 have K9:dD (fun _=>False) w w1:=by
  have k1:=bL w (.deferred (some []))
  have k2:=bL (w.alloc (.deferred (some []))) (.loop AE)
  exact⟨k2.os.trans k1.os,k2.tape.trans k1.tape,k2.output.trans k1.output,Nat.le_trans k1.size k2.size,fun j hj hm=>(k2.block j (Nat.lt_of_lt_of_le hj k1.size) hm).trans (k1.block j hj hm)⟩
 let gy:=aI φ s.nx (.pointer (some ⟨l,0,none⟩))
 let s1:S:=⟨s.env,aI s.o s.nx (.loop P.funcs.size n env ps.toList (low n x) (low n y) .ready none),s.nx+1⟩
 have cI: ¬s.H.us s.nx:=by simp[S.H]
 have eP:∀b,dR (.pointer (some ⟨l,0,none⟩))=some b->w.heap.size<=b/\b<w1.heap.size:=by
  intro b hb;simp[dR]at hb;subst hb;simp[l,w1]
 have z8:=cZ (φ:=φ) (H:=s.H) K9 cI (.loop P.funcs.size n env ps.toList (low n x) (low n y) .ready none) (.pointer (some ⟨l,0,none⟩)) fun b hb=>(eP b hb).1
 have IE:(w.alloc (.deferred (some []))).heap.size=w.heap.size+1:=aK
 have vG:w1.heap[l]? =some (.loop AE):=by
  have:=heap_alloc_new (w.alloc (.deferred (some []))) (.loop AE)
  rwa [IE]at this
 have EE:=fW hs.heap K9 cI (.loop P.funcs.size n env ps.toList (low n x) (low n y) .ready none) (.pointer (some ⟨l,0,none⟩)) eP (by
  unfold aJ
  simp only[bn,aC,if_true]
  refine⟨l,AE,rfl,vG,EF,rfl,rfl,rfl,hs.size,rfl,rfl,fun i=> ?_⟩
  rcases dw i with e|e
  ·rw[e];trivial
  ·rw[e];exact V.aL z8 _ _ (hs.env i))
 have rK:bJ M b7 H0 w0 n cx gy s1 {a with defers:=mark w.heap.size::a.defers} w1:=by
  have base:=dJ hs EE z8 (o':=aI s.o s.nx (.loop P.funcs.size n env ps.toList (low n x) (low n y) .ready none)) (nx':=s.nx+1) rfl (FR fun id au=>by simp at au;exact .inr au)
  refine⟨base.heap,base.tr,base.size, ?_,base.env⟩
  obtain⟨ms,g1,g2,g3,g4⟩:=base.defers
  obtain⟨Y3,q1,q2,q3,q4⟩:=hs.defers
  have hmm:ms.map mark=Y3.map mark:=by
   have:ms.map mark++cx.base=Y3.map mark++cx.base:=g1.symm.trans q1
   exact List.append_cancel_right this
  have ND:ms=Y3:=by
   have hm:∀a b,mark a=mark b->a=b:=fun a b h=>by simpa[mark]using h
   exact List.map_inj_right hm |>.1 hmm
  refine⟨w.heap.size::ms,by rw[g1];rfl,List.nodup_cons.2 ⟨fun hm=> ?_,g2⟩,(fun h=>by rw[l6]at h;cases h),fun r hr=> ?_⟩
  ·have:=(q4 w.heap.size (ND ▸ hm)).2.1
   rw[Array.getElem?_eq_none (Nat.le_refl _)]at this;cases this
  ·rcases List.mem_cons.1 hr with rfl|hr
   ·refine⟨hs.tr.keep.size,(RowKit.Below.heap_alloc (w.alloc (.deferred (some []))) (.loop AE) w.heap.size (by rw[IE];omega)).trans (heap_alloc_new w _), ?_⟩
    rintro⟨id,i1,i2⟩
    by_cases e:id=s.nx
    ·subst e;simp[gy,dR,l]at i2
    ·have i1':(s.H.o id).live=true:=by simpa[s1,S.H,e]using i1
     have i2':dR (φ id)=some w.heap.size:=by simpa[gy,e]using i2
     have:=(hs.heap.ours _ ⟨id,i1',i2'⟩).2
     omega
   ·exact g4 r hr
 have Y4:V.den (ai M gy s1.H) gy s1.H w1 (.js s.nx) (.func (.yield l) #[] #[]):=
  ⟨rfl,by simp[s1,S.H],fun _=>⟨l,by simp[gy],rfl⟩⟩
 have hg:=kK (M:=M) (φ:=gy) (H:=s1.H) (w:=w1) s1 {a with defers:=mark w.heap.size::a.defers} rK.env g
 have Y5:s1.ev g=s.ev g:=by cases g<;>rfl
 rw[Y5]at hg
 have hae:({a with defers:=mark w.heap.size::a.defers}:Act).eval g=a.eval g:=rfl
 rw[hae]at hg
 split at h
 ·rename_i f first cap hgv
  rw[hgv]at hg
  obtain⟨fa,ca,NB,BU,Xn⟩:=hg
  have fin:∀ (all:List V) (o2:Nat->ab) (s2:S),s2=⟨s.env,o2,s.nx+1⟩->bJ M b7 H0 w0 n cx gy s2 {a with defers:=mark w.heap.size::a.defers} w1->V.az (ai M gy s2.H) gy s2.H w1 all (fa++#[Value.func (.yield l) #[] #[]]++ca).toList->(o2 s.nx).bM=true->
   dA P f all o2 (s.nx+1) (fun _ o' nx'=>∃nf m e p c d st pd,o' s.nx= .loop nf m e p c d st pd/\st≠ .busy/\pq Q pd ⟨s.env,aI o' s.nx (.loop nf m e p c d .exhausted pd),nx'⟩) (fun v o' nx'=>Q (.bu v) ⟨s.env,o',nx'⟩)->
   ∃ (l:Nat) (mark:List Deferred) (gZ:World) (d:Deferred) (uC:World) (f:FuncId) (args:Array Value) (pn:World),
     (Instr.enterLoop fn a.tmps ps x y (c8 none).round).run P w= .ok (l,mark) gZ/\(resolve a.eval (rangeCall g l) 0).run P gZ= .ok d uC/\
     (invoke d.target d.args).run P uC= .ok (.enter f args) pn/\CallsIn (c8 none) 0 P f args pn (rJ P l (Cc M b7 H0 w0 n cx Q) {a with defers:=mark++a.defers}):=by
   intro all o2 s2 Y6 ER aT cy hC
   subst Y6
   have dP:=hC.2 M gy w1 _ ER.heap aT
   refine⟨l,[mark w.heap.size],w1,{target:= .fn (.func f) ca,args:=fa++#[Value.func (.yield l) #[] #[]]},w1,f,fa++#[Value.func (.yield l) #[] #[]]++ca,w1,jV, ?_, ?_,cF (dP.mono fun e w' ⟨aA,o',nx',v,k1,k2,k3⟩=> ?_)⟩
   ·simp only[resolve,NB,Deferred.ofValue,List.map_toArray,List.map_cons,List.map_nil,Sem.run_pure]
    rfl
   ·simp[invoke,jF hC.1]
   ·cases e with
    |returned val=>
     obtain⟨k4,nf,m,e,p,c,d,st,pd,k5,k6,k7⟩:=k3
     have Cf:bJ M b7 H0 w0 n cx aA ⟨s.env,o',nx'⟩ {a with defers:=mark w.heap.size::a.defers} w':=dJ ER k1 k2 rfl fun id hu=>hu
     have NF:aA s.nx= .pointer (some ⟨l,0,none⟩):=by
      have:=(k2.rel.row s.nx (show s.nx<s.nx+1 from af) (by show(o' s.nx).bM=true;rw[k5];rfl)).2
      rw[this];simp[gy]
     have bR:s.nx<nx':=k2.rel.us s.nx (show s.nx<s.nx+1 from af)
     obtain⟨r,r1,r2,r3,r4,r5⟩:=uD (st':= .exhausted) (pd':=pd) k1 bR (show(hp o' nx').o s.nx=_ from k5) NF
     have dC:(Instr.endLoop l).run P w'= .ok (pd.map iH.code) {w' with heap:=w'.heap.setIfInBounds l (.loop {r with state:= .exhausted,pending:=pd.map iH.code})}:=by
      have e1:({r with state:= .exhausted}:Loop)={r with state:= .exhausted,pending:=pd.map iH.code}:=by rw[<- r3]
      have hnb:(r.state==LoopState.busy)=false:=by rw[r2];cases st<;>first|rfl|exact absurd rfl k6
      simp only[Instr.endLoop,Sem.run_bind,iU r1,Result.andThen_ok,hnb,Bool.false_eq_true,if_false,Sem.run_pure]
      rw[gA _ r1,e1]
      simp[r3]
     have QI:=dJ Cf r4 r5 (o':=aI o' s.nx (.loop nf m e p c d .exhausted pd)) (nx':=nx') rfl fun id hu=>by
      simp only[dm]at hu
      rcases hu with hu|hu
      ·exact hu
      ·subst hu;exact bR
     refine⟨pd.map iH.code,_,dC, ?_⟩
     cases pd with
     |none=>exact⟨.normal,_,_,k7,QI,trivial⟩
     |some j=>
      cases j with
      |ret=>exact Cd ⟨.ret,_,_,k7,QI,trivial⟩
      |exit id=>exact yd ⟨.exit id,_,_,k7,QI,rfl⟩
    |panicked ch=>
     obtain⟨val,rfl,k4,k5⟩:=k3
     have Cf:bJ M b7 H0 w0 n cx aA ⟨s.env,o',nx'⟩ {a with defers:=mark w.heap.size::a.defers} w':=dJ ER k1 k2 rfl fun id hu=>hu
     exact⟨.bu v,_,_,k5,Cf,val,rfl,k4⟩
    |outgrown=>exact k3.elim
  have kS:V.az (ai M gy s1.H) gy s1.H w1 (first++[V.js s.nx]++cap) (fa++#[Value.func (.yield l) #[] #[]]++ca).toList:=by
   rw[Array.toList_append,Array.toList_append]
   exact V.nr BU ⟨_,[],rfl,Y4,rfl⟩ Xn
  rcases h with hC|hC
  ·exact fin _ _ s1 rfl rK kS (by simp;rfl) hC
  ·have np:s1.o=aI s.o s.nx (.loop P.funcs.size n env ps.toList (low n x) (low n y) .ready none):=rfl
   obtain⟨f1,f2,f3,f4,f5⟩:=cG rK.heap (cH s1.o (first++[V.js s.nx]++cap)) (eY _ _ s1.o kS)
   have im:s1.H.put (bP s1.H.o (cH s1.o (first++[V.js s.nx]++cap)))=hp (put s1.o (bP s1.o (cH s1.o (first++[V.js s.nx]++cap)))) s1.nx:=jE (by rw[qL];exact eY _ _ s1.o kS)
   have La:=FV f1 _ _ f3 (V.aO f2 _ _ kS)
   have Lb:((s1.H.put (bP s1.H.o (cH s1.o (first++[V.js s.nx]++cap)))).o s.nx).bM=true:=by
    by_cases hm:s.nx∈cH s1.o (first++[V.js s.nx]++cap)
    ·rw[f3 _ hm];simp[s1,S.H,ab.fz,ab.bM]
    ·rw[f4 _ hm];simp[s1,S.H,ab.bM]
   rw[im]at f1 f2 La Lb
   exact fin _ (put s1.o (bP s1.o (cH s1.o (first++[V.js s.nx]++cap)))) ⟨s.env,_,s.nx+1⟩ rfl (dJ rK f1 f2 rfl fun id hu=>hu) La Lb hC
 ·exact h.elim
end
end Go.Proofs.YtlhemmpklhhgoaaGreat
