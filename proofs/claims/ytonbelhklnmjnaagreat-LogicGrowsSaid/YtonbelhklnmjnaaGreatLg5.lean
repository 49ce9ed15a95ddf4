/-
  A PART OF THE PROOF. Conditions: none.
-/
import Derived.RangeFuncLeaves
import Derived.TacticsIn
import Derived.RecoverIn
import Derived.Test.YtonbelhklnmjnaaGreatLg4
set_option linter.unusedSimpArgs false
set_option linter.unusedVariables false
namespace Go.Proofs.YtonbelhklnmjnaaGreat
inductive R where
 |ret (ds:List D)|bR (d:D)
def R.is (B:Nat->Prop)(w:World):R->Ending->Prop
 | .ret [x], .returned v=>D.den B w x v
 | .ret ds, .returned v=>∃a,v= .tuple a/\D.aM B w ds a.toList
 | .bR d, .panicked chain=>∃v,chain=[{v:=v,recovered:=false}]/\D.den B w d v
 |_,_=>False
def Enters(P:Program)(f:FuncId):Prop:=∃fn,P.funcs[f]? =some fn/\(fn.name== "runtime.NumGoroutine")=false/\fn.body.isNone=false
def a7(P:Program)(f:FuncId)(ds:List D)(out:R):Prop:=
 Enters P f/\∀ (M:Nat->Prop) (w:World) (vals:Array Value),(∀b,M b->b<w.heap.size)->D.aM M w ds vals.toList->
  Calls P f vals w fun e w'=>eF (fun _=>False) w w'/\out.is M w' e
def hp(o:Nat->ab)(nx:Nat):Hp:=⟨o,fun id=>id<nx⟩
def mY(M:Nat->Prop)(φ:Place)(H:Hp)(w:World)(K X:V->(Nat->ab)->Nat->Prop)(e:Ending)(w':World):Prop:=
 ∃aO o' nx' v,aC M aO (hp o' nx') w'/\Trans φ H w aO (hp o' nx') w'/\match e with
  | .returned val=>V.den (ax M aO (hp o' nx')) aO (hp o' nx') w' v val/\K v o' nx'
  | .panicked ch=>∃val,ch=[{v:=val,recovered:=false}]/\V.den (ax M aO (hp o' nx')) aO (hp o' nx') w' v val/\X v o' nx'
  | .outgrown=>False
def cK(P:Program)(f:FuncId)(args:List V)(o:Nat->ab)(nx:Nat)(K X:V->(Nat->ab)->Nat->Prop):Prop:=
 Enters P f/\∀ (M:Nat->Prop) (φ:Place) (w:World) (vals:Array Value),aC M φ (hp o nx) w->V.aM (ax M φ (hp o nx)) φ (hp o nx) w args vals.toList->
  Calls P f vals w (mY M φ (hp o nx) w K X)
def dU(P:Program)(id:Nat)(args:List V)(o:Nat->ab)(nx:Nat)(K X:V->(Nat->ab)->Nat->Prop):Prop:=
 (o id).cy=true/\∀ (M:Nat->Prop) (φ:Place) (w:World) (vals:Array Value) (b:Nat),aC M φ (hp o nx) w->V.aM (ax M φ (hp o nx)) φ (hp o nx) w args vals.toList->φ id= .pointer (some ⟨b,0,none⟩)->
  ∃f tmps assign body,(Instr.yield b vals).run P w= .ok (.round b f tmps assign body) w/\∀n,RoundIn Fence.wide n P b f tmps assign body w (mY M φ (hp o nx) w K X)
theorem mY.mono {M:Nat->Prop}{φ:Place}{H:Hp}{w:World}{K X K' X':V->(Nat->ab)->Nat->Prop}(hK:∀v o n,K v o n->K' v o n)(hX:∀v o n,X v o n->X' v o n){e:Ending}{w':World}(h:mY M φ H w K X e w'):mY M φ H w K' X' e w':=by
 obtain⟨aO,o',nx',v,h1,h2,h3⟩:=h
 refine⟨aO,o',nx',v,h1,h2, ?_⟩
 cases e with
 |returned val=>exact⟨h3.1,hK _ _ _ h3.2⟩
 |panicked ch=>obtain⟨val,a,b,c⟩:=h3;exact⟨val,a,b,hX _ _ _ c⟩
 |outgrown=>exact h3
theorem cK.mono {P:Program}{f:FuncId}{args:List V}{o:Nat->ab}{nx:Nat}{K X K' X':V->(Nat->ab)->Nat->Prop}(hK:∀v o n,K v o n->K' v o n)(hX:∀v o n,X v o n->X' v o n)(h:cK P f args o nx K X):cK P f args o nx K' X':=
 ⟨h.1,fun M φ w vals h1 h2=>(h.2 M φ w vals h1 h2).mono fun _ _ h=>h.mono hK hX⟩
theorem dU.mono {P:Program}{id:Nat}{args:List V}{o:Nat->ab}{nx:Nat}{K X K' X':V->(Nat->ab)->Nat->Prop}(hK:∀v o n,K v o n->K' v o n)(hX:∀v o n,X v o n->X' v o n)(h:dU P id args o nx K X):dU P id args o nx K' X':=
 ⟨h.1,fun M φ w vals b h1 h2 h3=>let⟨f,t,a,c,h4,h5⟩:=h.2 M φ w vals b h1 h2 h3;⟨f,t,a,c,h4,fun n=>(h5 n).mono fun _ _ h=>h.mono hK hX⟩⟩
mutual
def D.flat:D->Bool
 | .sl _| .mp _ _=>false
 | .agg cs=>D.j9 cs
 | .iface _ x=>x.flat
 |_=>true
def D.j9:List D->Bool
 |[]=>true
 |x::xs=>x.flat&&D.j9 xs
end
mutual
theorem D.p9 {B B':Nat->Prop}{w w':World}:∀ (x:D) (v:Value),x.flat=true->D.den B w x v->D.den B' w' x v
 | .int _ _,_,_,h| .bool _,_,_,h| .str _,_,_,h| .fq,_,_,h| .mH,_,_,h| .bT,_,_,h| .ji,_,_,h=>h
 | .agg cs,_,hf,h=>by obtain⟨a,rfl,h,h2⟩:=h;exact⟨a,rfl,D.l6 cs _ hf h,h2⟩
 | .sl es,_,hf,h=>by simp[D.flat]at hf
 | .mp _ _,_,hf,h=>by simp[D.flat]at hf
 | .iface t x,_,hf,h=>by obtain⟨u,rfl,h⟩:=h;exact⟨u,rfl,D.p9 x u hf h⟩
theorem D.l6 {B B':Nat->Prop}{w w':World}:∀ (xs:List D) (vs:List Value),D.j9 xs=true->D.aM B w xs vs->D.aM B' w' xs vs
 |[],_,_,h=>h
 |x::xs,_,hf,h=>by
  obtain⟨u,us,rfl,h1,h2⟩:=h
  simp only[D.j9,Bool.and_eq_true]at hf
  exact⟨u,us,rfl,D.p9 x u hf.1 h1,D.l6 xs us hf.2 h2⟩
end
mutual
def D.mZ:D->Bool
 | .mp _ _=>false
 | .agg cs=>D.l7 cs
 | .sl es=>D.l7 es
 | .iface _ x=>x.mZ
 |_=>true
def D.l7:List D->Bool
 |[]=>true
 |x::xs=>x.mZ&&D.l7 xs
end
theorem ig.A4 {B B':Nat->Prop}{w w':World}{a:Addr}{cs:Array Value}
 (hb:∀b,pL w b-> ¬B b->w'.heap[b]? =w.heap[b]? /\ ¬B' b) (h:ig B w a cs):ig B' w' a cs:=by
 intro j u hj
 obtain⟨h1,h2⟩:=h j u hj
 have cU:pL w a.block:=by simpa using oq h1
 obtain⟨h3,h4⟩:=hb _ cU h2
 exact⟨by rw[World.cell?_of_block (w:=w) (w':=w') (a:=a.add j) (by simpa using h3)];exact h1,h4⟩
mutual
theorem D.lC {B B':Nat->Prop}{w w':World}(hb:∀b,pL w b-> ¬B b->w'.heap[b]? =w.heap[b]? /\ ¬B' b):
 ∀ (x:D) (v:Value),x.mZ=true->D.den B w x v->D.den B' w' x v
 | .int _ _,_,_,h| .bool _,_,_,h| .str _,_,_,h| .fq,_,_,h| .mH,_,_,h| .bT,_,_,h| .ji,_,_,h=>by simpa[D.den]using h
 | .agg cs,_,hn,h=>by
   obtain⟨a,rfl,h,hf⟩:=h
   exact⟨a,rfl,D.m8 hb cs _ hn h,hf⟩
 | .sl es,_,hn,h=>by
   obtain⟨base,len,cap,rfl,h1,h2,h3,sz,h4⟩:=h
   exact⟨base,len,cap,rfl,h1,h2,h3,sz,fun a ha=>⟨(h4 a ha).1,D.qa hb sz a es 0 hn (h4 a ha).2⟩⟩
 | .iface t d,_,hn,h=>by
   obtain⟨u,rfl,h⟩:=h
   exact⟨u,rfl,D.lC hb d u hn h⟩
 | .mp _ _,_,hn,_=>by simp[D.mZ]at hn
theorem D.m8 {B B':Nat->Prop}{w w':World}(hb:∀b,pL w b-> ¬B b->w'.heap[b]? =w.heap[b]? /\ ¬B' b):
 ∀ (ds:List D) (vs:List Value),D.l7 ds=true->D.aM B w ds vs->D.aM B' w' ds vs
 |[],_,_,h=>h
 |d::ds,_,hn,h=>by
  obtain⟨u,us,rfl,h1,h2⟩:=h
  simp only[D.l7,Bool.and_eq_true]at hn
  exact⟨u,us,rfl,D.lC hb d u hn.1 h1,D.m8 hb ds us hn.2 h2⟩
theorem D.qa {B B':Nat->Prop}{w w':World}(hb:∀b,pL w b-> ¬B b->w'.heap[b]? =w.heap[b]? /\ ¬B' b)(sz:Nat)(a:Addr):
 ∀ (es:List D) (i:Nat),D.l7 es=true->D.elems B w sz a i es->D.elems B' w' sz a i es
 |[],_,_,_=>trivial
 |e::es,i,hn,h=>by
  obtain⟨⟨ev,h1,h2,h3⟩,h4⟩:=h
  simp only[D.l7,Bool.and_eq_true]at hn
  exact⟨⟨ev,h1,h2.A4 hb,D.lC hb e ev hn.1 h3⟩,D.qa hb sz a es (i+1) hn.2 h4⟩
end
def R.mZ:R->Bool
 | .ret ds=>D.l7 ds
 | .bR d=>d.mZ
def R.flat:R->Bool
 | .ret ds=>D.j9 ds
 | .bR d=>d.flat
def jJ:List D->V
 |[x]=> .d x
 |ds=> .ck (ds.map .d)
inductive fN where
 |normal|exit (id:Nat)|ret|bR (v:V)
def bu(env:Nat->V)(dst:Option Tmp)(v:V):Nat->V:=
 match dst with
 |some d=>aL env d v
 |none=>env
def Js(o:Nat->ab)(v:V):V:=match dZ o v with|some x=> .d x|none=>v
def dv(o:Nat->ab):List V->List Nat
 |[]=>[]
 |v::vs=>(match dZ o v with|some _=>v.ids|none=>[])++dv o vs
def m9(P:Program)(g:FuncId)(args:List V)(o:Nat->ab)(nx:Nat)(K X:V->(Nat->ab)->Nat->Prop):Prop:=
 cK P g args o nx K X\/cK P g (args.map (Js o)) (put o (dk o (dv o args))) nx K X
def uz(P:Program)(s:S)(g:FuncId)(all:List V)(K:V->(Nat->ab)->Nat->Prop)(X:V->(Nat->ab)->Nat->Prop):Prop:=
    (∃ds out,cn s.o all=some ds/\a7 P g ds out/\(match out with
     | .ret rs=>K (jJ rs) (put s.o (dk s.o (V.bF all))) (s.nx+1)
     | .bR x=>X (.d x) (put s.o (dk s.o (V.bF all))) (s.nx+1)))\/
    (∃ds out,cn s.o all=some ds/\a7 P g ds out/\out.flat=true/\(match out with
     | .ret rs=>K (jJ rs) s.o (s.nx+1)
     | .bR x=>X (.d x) s.o (s.nx+1)))\/
    (∃ds out,cn s.o all=some ds/\a7 P g ds out/\out.mZ=true/\(match out with
     | .ret rs=>K (jJ rs) (put s.o (ri s.o (V.bF all))) (s.nx+1)
     | .bR x=>X (.d x) (put s.o (ri s.o (V.bF all))) (s.nx+1)))\/
    m9 P g all s.o s.nx K X
def Br(P:Program)(s:S)(f:V)(args:List V)(K:V->(Nat->ab)->Nat->Prop)(X:V->(Nat->ab)->Nat->Prop):Prop:=
 match f with
 | .func (.func g) first cap=>uz P s g (first++args++cap) K X
 | .jO id=>dU P id args s.o s.nx K X
 |_=>False
def Pv(P:Program)(t:TypeId):Bool:=
 match P.underlying t with
 |some (.pointer _)=>false
 |some _=>true
 |none=>false
def uA(P:Program)(m:String)(x:V):Option (FuncId×V):=
 match x with
 | .d (.iface t y)=>match P.info? t with
   |some ti=>match ti.methods.find? (·.name==m)with
    |some r=>match r.func with
     |some (f,false)=>if r.path.isEmpty=true/\Pv P t=true then some (f, .d y)else none
     |_=>none
    |none=>none
   |none=>none
 |_=>none
def ij(n:Nat):Option Tmp->Prop
 |some d=>d<n
 |none=>True
def opW(P:Program)(n:Nat)(s:S)(o:Oper)(X:V->S->Prop)(K:S->Prop):Prop:=
 ij n o.dst/\match o.op with
 | .call c=>match c.callee with
   | .value f=>Br P s (s.ev f) (c.args.toList.map s.ev) (fun v o' nx'=>K ⟨bu s.env o.dst v,o',nx'⟩) (fun v o' nx'=>X v ⟨s.env,o',nx'⟩)
   | .invoke r m=>match uA P m (s.ev r)with
     |some (g,y)=>uz P s g (y::c.args.toList.map s.ev) (fun v o' nx'=>K ⟨bu s.env o.dst v,o',nx'⟩) (fun v o' nx'=>X v ⟨s.env,o',nx'⟩)
     |none=>False
   |_=>Pj P s s.nx o.op fun v Δ _=>K ⟨bu s.env o.dst v,put s.o Δ,s.nx+1⟩
 | .panic x=>match s.ev x with
   | .d (.iface t y)=>X (.d (.iface t y)) s
   | .iface t y=>X (.iface t y) s
   |_=>False
 |op=>Pj P s s.nx op fun v Δ _=>K ⟨bu s.env o.dst v,put s.o Δ,s.nx+1⟩
def ze(s:S)(ops:Array Oper)(g:Option (Nat×Bool))(A B:Prop):Prop:=
 match g with
 |none=>A
 |some (j,want)=>match ss ops j with
  |some d=>match s.env d with
   | .d (.bool b)=>(b=want->A)/\(b≠want->B)
   | .ck []=>B
   |_=>False
  |none=>B
def zf(P:Program)(n:Nat)(ops:Array Oper)(X:V->S->Prop)(K:S->Prop):List Oper->S->Prop
 |[],s=>K s
 |o::l,s=>ze s ops o.guard (opW P n s o X (zf P n ops X K l)) (ij n o.dst/\zf P n ops X K l ⟨bu s.env o.dst (.ck []),s.o,s.nx+1⟩)
def bL(b:Nat)(s s':S):Prop:=
 ∀ (M:Nat->Prop) (φ:Place) (w:World) (tm:Nat->Value),aC M φ s.H w->(∀i,V.den (ax M φ s.H) φ s.H w (s.env i) (tm i))->
   ∃aO,aC M aO s'.H w/\(∀i,V.den (ax M aO s'.H) aO s'.H w (s'.env i) (tm i))/\(∀k,de aO s'.H k->de φ s.H k)/\b<=s'.nx/\
    (∀id,id<b->(s'.o id).cy=true->(s.o id).cy=true/\aO id=φ id)/\
    (∀id e',id<b->(s'.o id).ct=some e'->∃e,(s.o id).ct=some e/\e<=e'/\(e=e'->aO id=φ id))
def qb(K:S->Prop)(Q:fN->S->Prop)(e:fN)(s:S):Prop:=match e with| .normal=>K s|e=>Q e s
def fO(id:Nat)(Q:fN->S->Prop)(e:fN)(s:S):Prop:=match e with| .exit j=>if j=id then Q .normal s else Q (.exit j) s|e=>Q e s
def l8(P:Program)(s:S):List ResultVar->Option (List V)
 |[]=>some []
 | .tmp t::rs=>(l8 P s rs).map (s.env t::·)
 | .cell a t::rs=>match s.env a with
   | .ptr id off=>match s.o id with
     | .row cs=>(e7 P t cs off).bind fun v=>(l8 P s rs).map (v::·)
     |_=>none
   |_=>none
def cB(vs:List V):Nat->V:=fun i=>vs.getD i (.ck [])
def DG(P:Program)(rs:List ResultVar)(out:R)(e:fN)(s:S):Prop:=
 match e with
 | .normal| .ret=>match l8 P s rs with
   |some vs=>match cn s.o vs with
    |some ds=>out= .ret ds
    |none=>False
   |none=>False
 | .bR v=>match dZ s.o v with
   |some x=>out= .bR x
   |none=>False
 | .exit _=>False
theorem Jt{P:Program}{rs:List ResultVar}{out:R}{s:S}(h:match l8 P s rs with
 |some vs=>match cn s.o vs with
  |some ds=>out= .ret ds
  |none=>False
 |none=>False):∃vs ds,l8 P s rs=some vs/\cn s.o vs=some ds/\out= .ret ds:=by
 split at h
 ·rename_i vs h1
  split at h
  ·rename_i xs h2;exact⟨vs,xs,h1,h2,h⟩
  ·exact h.elim
 ·exact h.elim
theorem Ju{out:R}{s:S}{v:V}(h:match dZ s.o v with
 |some x=>out= .bR x
 |none=>False):∃x,dZ s.o v=some x/\out= .bR x:=by
 split at h
 ·rename_i x h1;exact⟨x,h1,h⟩
 ·exact h.elim
end Go.Proofs.YtonbelhklnmjnaaGreat
namespace Go.Proofs.YtonbelhklnmjnaaGreat
section
variable {P:Program}{M:Nat->Prop}{φ:Place}{H:Hp}{w w':World}
def ab.lD:ab->Bool
 | .arr .. =>true
 |_=>false
theorem Nj(o:Nat->ab)(ids:List Nat):ri o ids=dk o (ids.filter fun id=>(o id).lD):=by
 induction ids with
 |nil=>rfl
 |cons id ids ih=>
  unfold ri at ih|-
  simp only[List.filterMap_cons,List.filter_cons]
  cases hx:o id with
  |arr ep ty sz es=>
   have e:(ab.arr ep ty sz es).lD=true:=rfl
   rw[e,if_pos rfl,ih]
   simp only[dk,List.map_cons,hx]
  |_=>exact ih
theorem jK(hH:aC M φ H w){us':Nat->Prop}(h:∀id,H.us id->us' id):aC M φ ⟨H.o,us'⟩ w/\Trans φ H w φ ⟨H.o,us'⟩ w:=by
 have ht:Trans φ H w φ ⟨H.o,us'⟩ w:=⟨eF.refl _ _,fun b hb=> .inl hb,⟨h,fun id _ hr=>⟨hr,rfl⟩,fun id e' _ he=>⟨e',he,Nat.le_refl _,fun _=>rfl⟩⟩⟩
 exact⟨hH.of ht (fun _=>False) (fun _ h=>h.elim) (fun id _=>⟨rfl,rfl,fun _ _ _=>rfl⟩) (fun id hn=>hH.fresh id fun hu=>hn (h id hu)) hH.apart (fun b hb=>(hH.ours b hb).2),ht⟩
theorem gO(hH:aC M φ H w)(hk:eF (fun _=>False) w w'):aC M φ H w'/\Trans φ H w φ H w':=by
 have ht:Trans φ H w φ H w':=⟨⟨hk.os,hk.tape,hk.output,hk.size,fun k h _=>hk.block k h fun h=>h⟩,fun b hb=> .inl hb,ej.refl _ _⟩
 exact⟨hH.of ht (fun _=>False) (fun _ h=>h.elim) (fun id _=>⟨rfl,rfl,fun hl b hb=>hk.block b (hH.ours b ⟨id,hl,hb⟩).2 fun h=>h⟩) hH.fresh hH.apart (fun b hb=>Nat.lt_of_lt_of_le (hH.ours b hb).2 hk.size),ht⟩
theorem lE{Δ:List (Nat×ab)}(h:∀id∈Δ.map (·.1),H.us id):H.put Δ=⟨put H.o Δ,H.us⟩:=by
 unfold Hp.put
 congr 1
 funext id
 simp only[eq_iff_iff]
 exact⟨fun h'=>h'.elim (fun h=>h) (h id), .inl⟩
theorem tH(o:Nat->ab)(ids:List Nat):(dk o ids).map (·.1)=ids:=by
 rw[l4];simp[Function.comp_def]
structure Cx where
 base:List Deferred
 rd:Bool
def ed(ro:Option Nat):Fence:={fn:=fun _=>True,depth:=none,alive:=false,round:=ro}
def mark(r:Nat):Deferred:={target:= .collected r,args:=#[]}
def uB(cx:Cx)(w0:World)(φ:Place)(H:Hp)(w:World)(ds:List Deferred):Prop:=
 ∃ms:List Nat,ds=ms.map mark++cx.base/\ms.Nodup/\(cx.rd=true->ms=[])/\∀r∈ms,w0.heap.size<=r/\w.heap[r]? =some (.deferred (some []))/\ ¬de φ H r
theorem uB.mono {cx:Cx}{w0:World}{φ aO:Place}{H H':Hp}{w w':World}{ds:List Deferred}(ht:Trans φ H w aO H' w')(h:uB cx w0 φ H w ds):uB cx w0 aO H' w' ds:=by
 obtain⟨ms,h1,h2,h3,h4⟩:=h
 refine⟨ms,h1,h2,h3,fun r hr=> ?_⟩
 obtain⟨g1,g2,g3⟩:=h4 r hr
 have cU:r<w.heap.size:=by
  rcases Nat.lt_or_ge r w.heap.size with hl|hl
  ·exact hl
  ·rw[Array.getElem?_eq_none hl]at g2;cases g2
 refine⟨g1,(ht.cw.block r cU g3).trans g2,fun hl=> ?_⟩
 rcases ht.grow r hl with h|h
 ·exact g3 h
 ·omega
structure cq (M:Nat->Prop) (cQ:Place) (H0:Hp) (w0:World) (n:Nat) (cx:Cx) (φ:Place) (s:S) (a:Act) (w:World):Prop where
 heap:aC M φ s.H w
 tr:Trans cQ H0 w0 φ s.H w
 size:a.tmps.size=n
 defers:uB cx w0 φ s.H w a.defers
 env:∀i,V.den (ax M φ s.H) φ s.H w (s.env i) (a.tmps.getD i undef)
variable {cQ:Place}{H0:Hp}{w0:World}{n:Nat}{s:S}{a:Act}{cx:Cx}{ro:Option Nat}{k:Nat}
theorem dq{f:FuncId}{args:Array Value}{R:Ending->World->Prop}(h:Calls P f args w R):CallsIn (ed ro) k P f args w R:=
 ⟨trivial,fun cs _=>let⟨e,w',fr,r,s,x⟩:=h cs;⟨e,w',fr,r,comesIn_wide.2 s,x⟩⟩
theorem Bs{f:FuncId}{args:Array Value}{R:Ending->World->Prop}(h:CallsIn (ed ro) k P f args w R):Calls P f args w R:=
 fun cs=>let⟨e,w',fr,r,s,x⟩:=h.2 cs (fun _ h=>by simp[ed]at h);⟨e,w',fr,r,comesIn_wide.1 s,x⟩
theorem kN{o:Oper}{next:Act->World->Prop}{Q:Exit->Act->World->Prop}(hnd:∀c,o.op≠ .defer c)(h:o.uponIn (ed ro) k P a next Q ((execOp a.eval o).run P w)):o.wpIn (ed ro) k P a w next Q:=
 ⟨fun _ _=>trivial,by rw[Oper.semAt_eq _ _ _ hnd];exact h⟩
theorem l9(hs:cq M cQ H0 w0 n cx φ s a w){aO:Place}{H':Hp}(hH:aC M aO H' w')(ht:Trans φ s.H w aO H' w'){v:V}{val:Value}(hd:V.den (ax M aO H') aO H' w' v val){dst:Option Tmp}(da:ij n dst)
 {o':Nat->ab} {nx':Nat} (ho:H'.o=o') (hu:∀id,H'.us id->id<nx'):cq M cQ H0 w0 n cx aO ⟨bu s.env dst v,o',nx'⟩ (a.put dst val) w':=by
 obtain⟨k1,k2⟩:=jK hH hu
 subst ho
 refine⟨k1,hs.tr.trans (ht.trans k2), ?_, ?_,fun i=> ?_⟩
 ·cases dst<;>simp[Act.put,hs.size]
 ·have:=hs.defers.mono (ht.trans k2);cases dst<;>exact this
 ·cases dst with
  |none=>exact V.aS (ht.trans k2) _ _ (hs.env i)
  |some d=>
   simp only[ij]at da
   simp only[bu,aR,Act.put]
   by_cases hi:i=d
   ·subst hi
    have h1:(a.tmps.setIfInBounds i val).getD i undef=val:=by simp[Array.getD,hs.size,da]
    rw[if_pos rfl,h1]
    exact V.aS k2 _ _ hd
   ·have h1:(a.tmps.setIfInBounds d val).getD i undef=a.tmps.getD i undef:=by
     simp only[Array.getD_eq_getD_getElem?]
     rw[Array.getElem?_setIfInBounds_ne (Ne.symm hi)]
    rw[if_neg hi,h1]
    exact V.aS (ht.trans k2) _ _ (hs.env i)
theorem eH(hs:cq M cQ H0 w0 n cx φ s a w){aO:Place}{H':Hp}(hH:aC M aO H' w')(ht:Trans φ s.H w aO H' w'){o':Nat->ab}{nx':Nat}(ho:H'.o=o')(hu:∀id,H'.us id->id<nx'):
 cq M cQ H0 w0 n cx aO ⟨s.env,o',nx'⟩ a w':=by
 obtain⟨k1,k2⟩:=jK hH hu
 subst ho
 exact⟨k1,hs.tr.trans (ht.trans k2),hs.size,hs.defers.mono (ht.trans k2),fun i=>V.aS (ht.trans k2) _ _ (hs.env i)⟩
theorem Jv{Δ:List (Nat×ab)}(h:∀id∈Δ.map (·.1),s.H.us id\/id=s.nx)(id:Nat)(hu:(s.H.put Δ).us id):id<s.nx+1:=by
 rcases hu with hu|hu
 ·exact Nat.lt_succ_of_lt hu
 ·rcases h id hu with h|h
  ·exact Nat.lt_succ_of_lt h
  ·omega
variable {next:Act->World->Prop}{Q:Exit->Act->World->Prop}{X:V->S->Prop}{K:S->Prop}
theorem Jw(hs:cq M cQ H0 w0 n cx φ s a w){o:Oper}{op:Op}(fl:o.op=op)(da:ij n o.dst)(h:Pj P s s.nx op fun v Δ _=>K ⟨bu s.env o.dst v,put s.o Δ,s.nx+1⟩)
 (hN:∀s' aO a' w',K s'->cq M cQ H0 w0 n cx aO s' a' w'->next a' w'):o.wpIn (ed ro) k P a w next Q:=by
 obtain⟨nx,val,w',aO,v,Δ,rd,hK,hr,tL,g1,g2,g3,g4⟩:=xp hs.heap (s:=s) rfl hs.env (fr:=s.nx) (by simp[S.H]) fl h
 have zg:=l9 hs g1 g2 g3 da (o':=put s.o Δ) (nx':=s.nx+1) rfl (Jv g4)
 refine kN (fun c hc=>by rw[fl]at hc;subst hc;exact h) ?_
 rw[hr]
 rcases tL with rfl|⟨rfl,rfl⟩
 ·exact hN _ _ _ _ hK zg
 ·exact hN _ _ _ _ hK zg
theorem V.ma {B:Nat->Prop}{cp bs cs:List V}{u v x:List Value}(h1:V.aM B φ H w cp u)(h2:V.aM B φ H w bs v)(h3:V.aM B φ H w cs x):V.aM B φ H w (cp++bs++cs) (u++v++x):=
 V.bI _ _ _ _ (V.bI _ _ _ _ h1 h2) h3
theorem lF{f:FuncId}(h:Enters P f)(args:Array Value):(callFunc f args).run P w= .ok (.enter f args) w:=by
 obtain⟨fn,h1,h2,h3⟩:=h
 have j8:fn.name≠ "runtime.NumGoroutine" :=by simpa using h2
 have rB:fn.body≠none:=fun h=>by rw[h]at h3;cases h3
 simp[callFunc,h1,j8,rB]
theorem lG:∀ {rs:List D} {val:Value},R.is (ax M φ H) w (.ret rs) (.returned val)->V.den (ax M φ H) φ H w (jJ rs) val
 |[],_,h=>by obtain⟨arr,rfl,h⟩:=h;exact⟨arr,rfl,h⟩
 |[x],_,h=>h
 |x::y::l,_,h=>by obtain⟨arr,rfl,h⟩:=h;exact⟨arr,rfl,(V.cA (x::y::l) _).2 h⟩
theorem R.zh {B B':Nat->Prop}:∀ {out:R} {e:Ending},out.flat=true->out.is B w e->out.is B' w e
 | .ret [], .returned _,_,h=>by obtain⟨arr,rfl,h⟩:=h;exact⟨arr,rfl,h⟩
 | .ret [x], .returned _,hf,h=>by
   simp only[R.flat,D.j9,Bool.and_true]at hf
   exact D.p9 x _ hf h
 | .ret (x::y::l), .returned _,hf,h=>by obtain⟨arr,rfl,h⟩:=h;exact⟨arr,rfl,D.l6 (x::y::l) _ hf h⟩
 | .bR d, .panicked _,hf,h=>by obtain⟨v,rfl,h⟩:=h;exact⟨v,rfl,D.p9 d v hf h⟩
 | .ret [], .panicked _,_,h| .ret [_], .panicked _,_,h| .ret (_::_::_), .panicked _,_,h| .ret [], .outgrown,_,h| .ret [_], .outgrown,_,h| .ret (_::_::_), .outgrown,_,h| .bR _, .returned _,_,h| .bR _, .outgrown,_,h=>h.elim
theorem R.Jx {B B':Nat->Prop}{w':World}(hb:∀b,pL w' b-> ¬B b-> ¬B' b):∀ {out:R} {e:Ending},out.mZ=true->out.is B w' e->out.is B' w' e
 | .ret [], .returned _,_,h=>by obtain⟨arr,rfl,h⟩:=h;exact⟨arr,rfl,h⟩
 | .ret [x], .returned _,hf,h=>by
   simp only[R.mZ,D.l7,Bool.and_true]at hf
   exact D.lC (fun b hc hn=>⟨rfl,hb b hc hn⟩) x _ hf h
 | .ret (x::y::l), .returned _,hf,h=>by obtain⟨arr,rfl,h⟩:=h;exact⟨arr,rfl,D.m8 (fun b hc hn=>⟨rfl,hb b hc hn⟩) (x::y::l) _ hf h⟩
 | .bR d, .panicked _,hf,h=>by obtain⟨v,rfl,h⟩:=h;exact⟨v,rfl,D.lC (fun b hc hn=>⟨rfl,hb b hc hn⟩) d v hf h⟩
 | .ret [], .panicked _,_,h| .ret [_], .panicked _,_,h| .ret (_::_::_), .panicked _,_,h| .ret [], .outgrown,_,h| .ret [_], .outgrown,_,h| .ret (_::_::_), .outgrown,_,h| .bR _, .returned _,_,h| .bR _, .outgrown,_,h=>h.elim
theorem Jy(hH:aC M φ H w){o:Nat->ab}:∀ (vs:List V) (vals:List Value),(∀id∈dv o vs,H.o id=(o id).fz)->V.aM (ax M φ H) φ H w vs vals->V.aM (ax M φ H) φ H w (vs.map (Js o)) vals
 |[],_,_,h=>h
 |v::vs,_,ho,h=>by
  obtain⟨u,us,rfl,h1,h2⟩:=h
  refine⟨u,us,rfl, ?_,Jy hH vs us (fun id aB=>ho id (by simp[dv,aB])) h2⟩
  unfold Js
  split
  ·rename_i x hx
   exact gr hH v x u (fun id aB=>ho id (by simp[dv,hx,aB])) hx h1
  ·exact h1
theorem ik:∀ (vs:List V) (vals:List Value) (o:Nat->ab),V.aM (ax M φ H) φ H w vs vals->∀id∈dv o vs,H.us id
 |[],_,_,_,j,hj=>by simp[dv]at hj
 |v::vs,_,o,h,j,hj=>by
  obtain⟨u,us,rfl,h1,h2⟩:=h
  simp only[dv,List.mem_append]at hj
  rcases hj with hj|hj
  ·cases hx:dZ o v with
   |none=>simp[hx]at hj
   |some x=>simp only[hx]at hj;exact dn v u h1 j hj
  ·exact ik vs us o h2 j hj
theorem xq(hs:cq M cQ H0 w0 n cx φ s a w){o:Oper}{g:FuncId}{all:List V}{vals:Array Value}(da:ij n o.dst)(fu:Enters P g->(execOp a.eval o).run P w= .ok (.enter g vals) w)(bz:V.aM (ax M φ s.H) φ s.H w all vals.toList)
 (h:cK P g all s.o s.nx (fun v o' nx'=>K ⟨bu s.env o.dst v,o',nx'⟩) (fun v o' nx'=>X v ⟨s.env,o',nx'⟩))
 (hN:∀s' aO a' w',K s'->cq M cQ H0 w0 n cx aO s' a' w'->next a' w')
 (hQ:∀v s' aO w' val,X v s'->cq M cQ H0 w0 n cx aO s' a w'->V.den (ax M aO s'.H) aO s'.H w' v val->Q (.panic [{v:=val,recovered:=false}]) a w'):o.uponIn (ed ro) k P a next Q ((execOp a.eval o).run P w):=by
 have fh:=h.2 M φ w vals hs.heap bz
 rw[fu h.1]
 refine⟨fun hd=>by simp[ed]at hd,dq (fh.mono fun e w' ⟨aO,o',nx',v,k1,k2,k3⟩=> ?_)⟩
 cases e with
 |returned val=>exact hN _ _ _ _ k3.2 (l9 hs k1 k2 k3.1 da rfl fun id hu=>hu)
 |panicked ch=>
  obtain⟨val,rfl,k4,k5⟩:=k3
  exact hQ _ _ _ _ val k5 (eH hs k1 k2 (o':=o') (nx':=nx') rfl fun id hu=>hu) k4
 |outgrown=>exact k3.elim
theorem Bt(hs:cq M cQ H0 w0 n cx φ s a w){o:Oper}{g:FuncId}{all:List V}{vals:Array Value}(da:ij n o.dst)(fu:Enters P g->(execOp a.eval o).run P w= .ok (.enter g vals) w)(bz:V.aM (ax M φ s.H) φ s.H w all vals.toList)
 (h:uz P s g all (fun v o' nx'=>K ⟨bu s.env o.dst v,o',nx'⟩) (fun v o' nx'=>X v ⟨s.env,o',nx'⟩))
 (hN:∀s' aO a' w',K s'->cq M cQ H0 w0 n cx aO s' a' w'->next a' w')
 (hQ:∀v s' aO w' val,X v s'->cq M cQ H0 w0 n cx aO s' a w'->V.den (ax M aO s'.H) aO s'.H w' v val->Q (.panic [{v:=val,recovered:=false}]) a w'):o.uponIn (ed ro) k P a next Q ((execOp a.eval o).run P w):=by
 unfold uz at h
 obtain⟨f1,f2,f3,f4,f5⟩:=du hs.heap (V.bF all) (dh all _ bz)
 have kY:s.H.put (dk s.H.o (V.bF all))=⟨put s.o (dk s.o (V.bF all)),s.H.us⟩:=lE Sy
 have na:=V.a8 f2 _ _ bz
 rcases h with⟨ds,out,eX,hP,hK⟩|⟨ds,out,eX,hP,pD,hK⟩|⟨ds,out,eX,hP,hnm,hK⟩|hC|hC
 ·have xb:=dE f1 all ds _ f3 eX na
  have hM:∀b,ax M φ (s.H.put (dk s.H.o (V.bF all))) b->b<w.heap.size:=fun b hb=>hb.elim (f1.AD b) fun hl=>(f1.ours b hl).2
  have fh:=hP.2 _ w vals hM xb
  rw[fu hP.1]
  refine⟨fun hd=>by simp[ed]at hd,dq (fh.mono fun e w' ⟨hk,ho⟩=> ?_)⟩
  obtain⟨k1,k2⟩:=gO f1 hk
  cases out with
  |ret rs=>
   cases e with
   |returned val=>
    refine hN _ _ _ _ hK (l9 hs k1 (f2.trans k2) (lG ho) da (by rw[kY]) ?_)
    intro id hu;rw[kY]at hu;exact Nat.lt_succ_of_lt hu
   |panicked ch=>cases rs with|nil=>exact ho.elim|cons x l=>cases l<;>exact ho.elim
   |outgrown=>cases rs with|nil=>exact ho.elim|cons x l=>cases l<;>exact ho.elim
  |bR x=>
   cases e with
   |returned val=>exact ho.elim
   |panicked ch=>
    obtain⟨val,rfl,hd⟩:=ho
    have zg:=eH hs k1 (f2.trans k2) (o':=put s.o (dk s.o (V.bF all))) (nx':=s.nx+1) (by rw[kY]) (fun id hu=>by rw[kY]at hu;exact Nat.lt_succ_of_lt hu)
    refine hQ _ _ _ _ val hK zg ?_
    have e1:ax M φ (S.H ⟨s.env,put s.o (dk s.o (V.bF all)),s.nx+1⟩)=ax M φ (s.H.put (dk s.H.o (V.bF all))):=by rw[kY];rfl
    simp only[V.den]
    rw[e1];exact hd
   |outgrown=>exact ho.elim
 ·have xb:=dE f1 all ds _ f3 eX na
  have hM:∀b,ax M φ (s.H.put (dk s.H.o (V.bF all))) b->b<w.heap.size:=fun b hb=>hb.elim (f1.AD b) fun hl=>(f1.ours b hl).2
  have fh:=hP.2 _ w vals hM xb
  rw[fu hP.1]
  refine⟨fun hd=>by simp[ed]at hd,dq (fh.mono fun e w' ⟨hk,ho⟩=> ?_)⟩
  obtain⟨k1,k2⟩:=gO hs.heap hk
  have ho:=R.zh (B':=ax M φ s.H) pD ho
  cases out with
  |ret rs=>
   cases e with
   |returned val=>
    exact hN _ _ _ _ hK (l9 hs k1 k2 (lG ho) da rfl fun id hu=>Nat.lt_succ_of_lt hu)
   |panicked ch=>cases rs with|nil=>exact ho.elim|cons x l=>cases l<;>exact ho.elim
   |outgrown=>cases rs with|nil=>exact ho.elim|cons x l=>cases l<;>exact ho.elim
  |bR x=>
   cases e with
   |returned val=>exact ho.elim
   |panicked ch=>
    obtain⟨val,rfl,hd⟩:=ho
    exact hQ _ _ _ _ val hK (eH hs k1 k2 (o':=s.o) (nx':=s.nx+1) rfl fun id hu=>Nat.lt_succ_of_lt hu) hd
   |outgrown=>exact ho.elim
 ·obtain⟨a1,a2,a3,a4,a5⟩:=du hs.heap ((V.bF all).filter fun id=>(s.o id).lD) (fun id aB=>dh all _ bz id (List.mem_filter.1 aB).1)
  have Bu:s.H.put (dk s.H.o ((V.bF all).filter fun id=>(s.o id).lD))=⟨put s.o (ri s.o (V.bF all)),s.H.us⟩:=by
   rw[Nj]
   exact lE (by rw[tH];exact fun id aB=>dh all _ bz id (List.mem_filter.1 aB).1)
  have xb:=dE f1 all ds _ f3 eX na
  have hM:∀b,ax M φ (s.H.put (dk s.H.o (V.bF all))) b->b<w.heap.size:=fun b hb=>hb.elim (f1.AD b) fun hl=>(f1.ours b hl).2
  have fh:=hP.2 _ w vals hM xb
  rw[fu hP.1]
  refine⟨fun hd=>by simp[ed]at hd,dq (fh.mono fun e w' ⟨hk,ho⟩=> ?_)⟩
  obtain⟨k1,k2⟩:=gO a1 hk
  have lH:∀b,pL w' b-> ¬ax M φ (s.H.put (dk s.H.o (V.bF all))) b-> ¬ax M φ (s.H.put (dk s.H.o ((V.bF all).filter fun id=>(s.o id).lD))) b:=by
   intro b hc hn hm
   rcases hm with hM|⟨id,hl,hb⟩
   ·exact hn (.inl hM)
   ·by_cases aB:id∈V.bF all
    ·cases hx:s.H.o id with
     |arr ep ty sz es=>
      rw[a3 id (List.mem_filter.2 ⟨aB,by show(s.H.o id).lD=true;rw[hx];rfl⟩),hx]at hl
      cases hl
     |map kt vt l=>
      have mM:id∉(V.bF all).filter fun id=>(s.o id).lD:=fun h=>by
       have h2:(s.H.o id).lD=true:=(List.mem_filter.1 h).2
       rw[hx]at h2;cases h2
      have bn:=k1.ok id
      unfold ba at bn
      rw[a4 id mM,hx]at bn
      obtain⟨b',es,clock,g1,g2,_⟩:=bn
      rw[g1]at hb
      injection hb with hb
      subst hb
      obtain⟨cs,ty,fz,hc⟩:=hc
      rw[g2]at hc
      cases hc
     |_=>
      have mM:id∉(V.bF all).filter fun id=>(s.o id).lD:=fun h=>by
       have h2:(s.H.o id).lD=true:=(List.mem_filter.1 h).2
       rw[hx]at h2;cases h2
      refine hn (.inr ⟨id, ?_,hb⟩)
      rw[a4 id mM,hx]at hl
      rw[f3 id aB,hx]
      exact hl
    ·have mM:id∉(V.bF all).filter fun id=>(s.o id).lD:=fun h=>aB (List.mem_filter.1 h).1
     refine hn (.inr ⟨id, ?_,hb⟩)
     rw[a4 id mM]at hl
     rw[f4 id aB]
     exact hl
  have ho:=R.Jx (w':=w') (B':=ax M φ (s.H.put (dk s.H.o ((V.bF all).filter fun id=>(s.o id).lD)))) lH hnm ho
  cases out with
  |ret rs=>
   cases e with
   |returned val=>
    refine hN _ _ _ _ hK (l9 hs k1 (a2.trans k2) (lG ho) da (by rw[Bu]) ?_)
    intro id hu;rw[Bu]at hu;exact Nat.lt_succ_of_lt hu
   |panicked ch=>cases rs with|nil=>exact ho.elim|cons x l=>cases l<;>exact ho.elim
   |outgrown=>cases rs with|nil=>exact ho.elim|cons x l=>cases l<;>exact ho.elim
  |bR x=>
   cases e with
   |returned val=>exact ho.elim
   |panicked ch=>
    obtain⟨val,rfl,hd⟩:=ho
    have zg:=eH hs k1 (a2.trans k2) (o':=put s.o (ri s.o (V.bF all))) (nx':=s.nx+1) (by rw[Bu]) (fun id hu=>by rw[Bu]at hu;exact Nat.lt_succ_of_lt hu)
    refine hQ _ _ _ _ val hK zg ?_
    have e1:ax M φ (S.H ⟨s.env,put s.o (ri s.o (V.bF all)),s.nx+1⟩)=ax M φ (s.H.put (dk s.H.o ((V.bF all).filter fun id=>(s.o id).lD))):=by rw[Bu];rfl
    simp only[V.den]
    rw[e1];exact hd
   |outgrown=>exact ho.elim
 ·exact xq hs da fu bz hC hN hQ
 ·obtain⟨f1,f2,f3,f4,f5⟩:=du hs.heap (dv s.o all) (ik all _ s.o bz)
  have kY:s.H.put (dk s.H.o (dv s.o all))=hp (put s.o (dk s.o (dv s.o all))) s.nx:=lE (by rw[tH];exact ik all _ s.o bz)
  have na:=Jy f1 all _ f3 (V.a8 f2 _ _ bz)
  rw[kY]at f1 f2 na
  exact xq (s:=⟨s.env,put s.o (dk s.o (dv s.o all)),s.nx⟩) (eH hs f1 f2 rfl fun id hu=>hu) da fu na hC hN hQ
theorem Nk(hs:cq M cQ H0 w0 n cx φ s a w){o:Oper}{c:Call}{f:Operand}(fl:o.op= .call c)(hc:c.callee= .value f)(da:ij n o.dst)
 (h:Br P s (s.ev f) (c.args.toList.map s.ev) (fun v o' nx'=>K ⟨bu s.env o.dst v,o',nx'⟩) (fun v o' nx'=>X v ⟨s.env,o',nx'⟩))
 (hN:∀s' aO a' w',K s'->cq M cQ H0 w0 n cx aO s' a' w'->next a' w')
 (hQ:∀v s' aO w' val,X v s'->cq M cQ H0 w0 n cx aO s' a w'->V.den (ax M aO s'.H) aO s'.H w' v val->Q (.panic [{v:=val,recovered:=false}]) a w'):o.wpIn (ed ro) k P a w next Q:=by
 refine kN (fun c' zi=>by rw[fl]at zi;cases zi) ?_
 have hf:=mT (M:=M) (φ:=φ) (H:=s.H) (w:=w) s a hs.env f
 have dT:=kJ (M:=M) (φ:=φ) (H:=s.H) (w:=w) s a hs.env c.args.toList
 unfold Br at h
 split at h
 ·rename_i g first cap wx
  rw[wx]at hf
  obtain⟨fa,ca,S3,C9,X0⟩:=hf
  have bz:V.aM (ax M φ s.H) φ s.H w (first++c.args.toList.map s.ev++cap) (fa++c.args.map a.eval++ca).toList:=by
   rw[Array.toList_append,Array.toList_append,Array.toList_map]
   exact V.ma C9 dT X0
  generalize first++c.args.toList.map s.ev++cap=all at h bz
  generalize oD:fa++c.args.map a.eval++ca=vals at bz
  have fu:Enters P g->(execOp a.eval o).run P w= .ok (.enter g vals) w:=by
   intro he
   have:=lF (w:=w) he (fa++c.args.map a.eval++ca)
   rw[oD]at this
   simp[execOp,fl,resolve,hc,S3,Deferred.ofValue,invoke,this,oD]
  exact Bt hs da fu bz h hN hQ
 ·rename_i id wx
  rw[wx]at hf
  obtain⟨_,fG,hp'⟩:=hf
  obtain⟨bX,hR⟩:=h
  obtain⟨b,eW,S3⟩:=hp' bX
  obtain⟨fn,tmps,assign,body,h1,h2⟩:=hR M φ w (c.args.map a.eval) b hs.heap (by rw[Array.toList_map];exact dT) eW
  have fu:(execOp a.eval o).run P w= .ok (.round b fn tmps assign body) w:=by
   simp[execOp,fl,resolve,hc,S3,Deferred.ofValue,invoke,h1]
  rw[fu]
  refine⟨fun hd=>by simp[ed]at hd,RoundIn.mono (h2 (k - 1)) fun e w' ⟨aO,o',nx',v,k1,k2,k3⟩=> ?_⟩
  cases e with
  |returned val=>exact hN _ _ _ _ k3.2 (l9 hs k1 k2 k3.1 da rfl fun id hu=>hu)
  |panicked ch=>
   obtain⟨val,rfl,k4,k5⟩:=k3
   exact hQ _ _ _ _ val k5 (eH hs k1 k2 (o':=o') (nx':=nx') rfl fun id hu=>hu) k4
  |outgrown=>exact k3.elim
 ·exact h.elim
theorem GX(hs:cq M cQ H0 w0 n cx φ s a w){o:Oper}{c:Call}{r:Operand}{m:String}{g:FuncId}{y:V}(fl:o.op= .call c)(hc:c.callee= .invoke r m)(da:ij n o.dst)(hr:uA P m (s.ev r)=some (g,y))
 (h:uz P s g (y::c.args.toList.map s.ev) (fun v o' nx'=>K ⟨bu s.env o.dst v,o',nx'⟩) (fun v o' nx'=>X v ⟨s.env,o',nx'⟩))
 (hN:∀s' aO a' w',K s'->cq M cQ H0 w0 n cx aO s' a' w'->next a' w')
 (hQ:∀v s' aO w' val,X v s'->cq M cQ H0 w0 n cx aO s' a w'->V.den (ax M aO s'.H) aO s'.H w' v val->Q (.panic [{v:=val,recovered:=false}]) a w'):o.wpIn (ed ro) k P a w next Q:=by
 refine kN (fun c' zi=>by rw[fl]at zi;cases zi) ?_
 have hf:=mT (M:=M) (φ:=φ) (H:=s.H) (w:=w) s a hs.env r
 have dT:=kJ (M:=M) (φ:=φ) (H:=s.H) (w:=w) s a hs.env c.args.toList
 unfold uA at hr
 split at hr
 ·rename_i t d hx
  rw[hx]at hf
  obtain⟨val,hv,hd⟩:=hf
  split at hr
  ·rename_i ti hti
   split at hr
   ·rename_i mr tM
    split at hr
    ·rename_i f GY
     split at hr
     ·rename_i Pw
      injection hr with hr
      injection hr with h1 h2
      subst h1;subst h2
      refine Bt (vals:=#[val]++c.args.map a.eval) hs da ?_ ?_ h hN hQ
      ·intro he
       have fu:=lF (w:=w) he (#[val]++c.args.map a.eval)
       have hpa:mr.path=#[]:=Array.isEmpty_iff.1 Pw.1
       have hu:∃u,P.underlying t=some u/\∀e,u≠ .pointer e:=by
        have:=Pw.2
        unfold Pv at this
        split at this
        ·cases this
        ·rename_i u iD hu;exact⟨u,hu,fun e he=>iD e he⟩
        ·cases this
       obtain⟨u,hu,Px⟩:=hu
       have hm:(method (P.types.size+Made.depth) t val m).run P w= .ok (f,val) w:=by
        have:P.types.size+Made.depth=(P.types.size+Made.depth - 1)+1:=by simp[Made.depth]
        rw[this]
        cases u<;>first|exact absurd rfl (Px _)|simp[method,typeInfo,hti,tM,hpa,GY,follow,receiverAt,run_underlying hu,_root_.Go.Place.get]
       have h0:(#[Value.iface t val]++Array.map a.eval c.args)[0]? =some (.iface t val):=by
        rw[Array.getElem?_append_left (by simp)];rfl
       have h1:(Array.map a.eval c.args).extract 0 c.args.size=Array.map a.eval c.args:=by
        rw[show c.args.size=(Array.map a.eval c.args).size from by simp,Array.extract_size]
       simp[execOp,fl,resolve,hc,invoke,callMethod,hv,h0,h1,hm,fu]
      ·simp only[Array.toList_append,Array.toList_map]
       exact⟨val,_,rfl,hd,dT⟩
     ·cases hr
    ·cases hr
   ·cases hr
  ·cases hr
 ·cases hr
theorem xr(hs:cq M cQ H0 w0 n cx φ s a w){o:Oper}(h:opW P n s o X K)
 (hN:∀s' aO a' w',K s'->cq M cQ H0 w0 n cx aO s' a' w'->next a' w')
 (hQ:∀v s' aO w' val,X v s'->cq M cQ H0 w0 n cx aO s' a w'->V.den (ax M aO s'.H) aO s'.H w' v val->Q (.panic [{v:=val,recovered:=false}]) a w'):o.wpIn (ed ro) k P a w next Q:=by
 obtain⟨da,h⟩:=h
 split at h
 ·rename_i c fl
  split at h
  ·rename_i f hc
   exact Nk hs fl hc da h hN hQ
  ·rename_i r m hc
   split at h
   ·rename_i g y hr;exact GX hs fl hc da hr h hN hQ
   ·exact h.elim
  ·exact Jw hs rfl da h hN
 ·rename_i x fl
  have hx:=mT (M:=M) (φ:=φ) (H:=s.H) (w:=w) s a hs.env x
  have bR:∀ (t:TypeId) (u:Value),a.eval x= .iface t u->Q (.panic [{v:= .iface t u,recovered:=false}]) a w->o.wpIn (ed ro) k P a w next Q:=by
   intro t u hu hq
   refine kN (fun c hc=>by rw[fl]at hc;cases hc) ?_
   have hr:(execOp a.eval o).run P w= .halt (.panic (.iface t u)) w:=by simp[execOp,fl,hu,Instr.panic]
   rw[hr];exact hq
  split at h
  ·rename_i t y hv
   rw[hv]at hx
   obtain⟨u,hu,hd⟩:=hx
   exact bR t u hu (hQ _ s φ w (.iface t u) h hs ⟨u,rfl,hd⟩)
  ·rename_i t y hv
   rw[hv]at hx
   obtain⟨u,hu,hd⟩:=hx
   exact bR t u hu (hQ _ s φ w (.iface t u) h hs ⟨u,rfl,hd⟩)
  ·exact h.elim
 ·exact Jw hs rfl da h hN
end
end Go.Proofs.YtonbelhklnmjnaaGreat
namespace Go
def Code.tl (P:Program)(ro:Option Nat)(c:Code)(Q:Exit->Act->World->Prop)(a:Act)(w:World):Prop:=
 ∀ (b:Frame) (k:List Item) (cs:List Frame),b.roundOf=ro->b.fn<P.funcs.size->
   ∃e a' w',Q e a' w'/\ArrivesIn (Machine.fenced P (Proofs.YtonbelhklnmjnaaGreat.ed ro)) P (lone (b.atR a (.code c::k)) cs w) b k cs e a' w'
end Go
namespace Go.Proofs.YtonbelhklnmjnaaGreat
instance:LawfulMonad Sem:=LawfulMonad.mk' Sem (id_map:=fun x=>Sem.bind_pure' x) (pure_bind:=fun _ _=>rfl) (bind_assoc:=fun x f g=>Sem.bind_assoc' x f g)
section
variable {P:Program}{M:Nat->Prop}{φ:Place}{H:Hp}{w w':World}{cQ:Place}{H0:Hp}{w0:World}{n b:Nat}{s:S}{a:Act}{cx:Cx}{ro:Option Nat}{k:Nat}
theorem qc(hs:cq M cQ H0 w0 n cx φ s a w){ops:Array Oper}{o:Oper}{A B:Prop}(h:ze s ops o.guard A B):
 (Region.wanted o (yielded ops a.tmps)=true->A)/\(Region.wanted o (yielded ops a.tmps)=false->B):=by
 unfold ze at h
 unfold Region.wanted
 split at h
 ·rename_i hg;simp only[hg];exact⟨fun _=>h,fun h=>by cases h⟩
 ·rename_i j want hg
  simp only[hg]
  unfold ss at h
  unfold yielded
  split at h
  ·rename_i d hd
   simp only[hd,Option.bind_some]
   have eG:=hs.env d
   split at h
   ·rename_i c hv
    rw[hv]at eG
    simp only[V.den,D.den]at eG
    have:a.tmps[d]? =some (.bool c):=by
     rw[Array.getD_eq_getD_getElem?]at eG
     cases hx:a.tmps[d]? with
     |none=>rw[hx]at eG;simp[undef]at eG
     |some x=>rw[hx]at eG;simp at eG;rw[eG]
    simp only[this]
    by_cases hc:c=want
    ·subst hc;exact⟨fun _=>h.1 rfl,fun h=>by simp at h⟩
    ·exact⟨fun h'=>absurd (by simpa using h') hc,fun _=>h.2 hc⟩
   ·rename_i hv
    rw[hv]at eG
    obtain⟨arr,cM,hn⟩:=eG
    simp only[V.aM]at hn
    have:∀c,a.tmps[d]? ≠some (.bool c):=by
     intro c hx
     rw[Array.getD_eq_getD_getElem?,hx]at cM
     simp at cM
    cases hx:a.tmps[d]? with
    |none=>exact⟨fun h=>by simp at h,fun _=>h⟩
    |some x=>cases x<;>first|(exact absurd hx (this _))|(exact⟨fun h=>by simp at h,fun _=>h⟩)
   ·exact h.elim
  ·rename_i hd
   simp only[hd,Option.bind_none]
   exact⟨fun h=>by simp at h,fun _=>h⟩
theorem Bv(hs:cq M cQ H0 w0 n cx φ s a w){dst:Option Tmp}(da:ij n dst):cq M cQ H0 w0 n cx φ ⟨bu s.env dst (.ck []),s.o,s.nx+1⟩ (a.put dst undef) w:=
 l9 (v:= .ck []) (val:=undef) hs hs.heap (Trans.refl _ _ _) ⟨#[],rfl,rfl⟩ da rfl fun _ hu=>Nat.lt_succ_of_lt hu
theorem oV{ops:Array Oper}{X:V->S->Prop}{K:S->Prop}{Q:Exit->Act->World->Prop}
 (hK:∀s φ a w,K s->cq M cQ H0 w0 n cx φ s a w->Q .normal a w)
 (hQ:∀v s' aO a w' val,X v s'->cq M cQ H0 w0 n cx aO s' a w'->V.den (ax M aO s'.H) aO s'.H w' v val->Q (.panic [{v:=val,recovered:=false}]) a w'):
 ∀ (l:List Oper) (s:S) (φ:Place) (a:Act) (w:World),zf P n ops X K l s->cq M cQ H0 w0 n cx φ s a w->wpListIn (ed ro) k P ops Q l a w
 |[],s,φ,a,w,h,hs=>hK s φ a w h hs
 |o::l,s,φ,a,w,h,hs=>by
  obtain⟨h1,h2⟩:=qc hs h
  unfold wpListIn
  split
  ·rename_i hw
   exact xr hs (h1 hw) (fun s' aO a' w' hk iE=>oV hK hQ l s' aO a' w' hk iE) (fun v s' aO w' val hx iE hd=>hQ v s' aO a w' val hx iE hd)
  ·rename_i hw
   obtain⟨da,h3⟩:=h2 (by simpa using hw)
   exact⟨fun _ _=>trivial,oV hK hQ l _ _ _ _ h3 (Bv hs da)⟩
def E4(M:Nat->Prop)(cQ:Place)(H0:Hp)(w0:World)(n:Nat)(cx:Cx)(Q:fN->S->Prop)(e:Exit)(a:Act)(w:World):Prop:=
 ∃x s φ,Q x s/\cq M cQ H0 w0 n cx φ s a w/\match e,x with
  | .normal, .normal=>True
  | .exit i, .exit j=>i=j
  | .ret, .ret=>True
  | .panic ch, .bR v=>∃val,ch=[{v:=val,recovered:=false}]/\V.den (ax M φ s.H) φ s.H w v val
  |_,_=>False
section
variable {Q:Exit->Act->World->Prop}
theorem il{m:Nat}:(ed ro).room m:=fun d hd=>by simp[ed]at hd
theorem oW{c:Code}(h:c.wpIn (ed ro) k P Q a w):c.tl P ro Q a w:=fun b k cs tM _=>h b k cs tM trivial il
theorem im{c:Code}{Q':Exit->Act->World->Prop}(h:c.tl P ro Q a w)(hq:∀e a w,Q e a w->Q' e a w):c.tl P ro Q' a w:=
 fun b k cs tM hb=>let⟨e,a',w',q,r⟩:=h b k cs tM hb;⟨e,a',w',hq _ _ _ q,r⟩
theorem E5(h:Q .ret a w):Code.ret.tl P ro Q a w:=oW (k:=0) (wpIn_ret h)
theorem Bw{id:Nat}(h:Q (.exit id) a w):(Code.exit id).tl P ro Q a w:=oW (k:=0) (wpIn_exit h)
theorem zj{x y:Code}(h:x.tl P ro (Exit.then (y.tl P ro Q) Q) a w):(Code.seq x y).tl P ro Q a w:=by
 intro b k cs tM hb
 have h0:(lone (b.atR a (.code (.seq x y)::k)) cs w).fenced P (ed ro):=fenced_calm (n:=0) trivial il rfl
 obtain⟨e,jL,gC,hq,cM⟩:=h b (.code y::k) cs tM hb
 cases e with
 |normal=>
  obtain⟨S4,X1,rC,qd,kO⟩:=hq b k cs tM hb
  exact⟨S4,X1,rC,qd, .of_steps (.head h0 stepR_seq cM) kO⟩
 |exit id=>exact⟨_,jL,gC,hq, .of_steps (.one h0 stepR_seq) (.pass (x:= .code y) rfl (fun _ _=> .inl aj) cM)⟩
 |goto l=>exact⟨_,jL,gC,hq, .of_steps (.one h0 stepR_seq) (.pass (x:= .code y) rfl (fun _ _=> .inl aj) cM)⟩
 |ret=>exact⟨_,jL,gC,hq, .of_steps (.one h0 stepR_seq) (.pass (x:= .code y) rfl (fun _ _=> .inl aj) cM)⟩
 |panic ch=>exact⟨_,jL,gC,hq, .of_steps (.one h0 stepR_seq) (.pass (x:= .code y) rfl (fun _ _=> .inl aj) cM)⟩
 |outgrown=>exact⟨_,jL,gC,hq, .of_steps (.one h0 stepR_seq) (.pass (x:= .code y) rfl (fun _ _=> .inl aj) cM)⟩
theorem qe{c:Operand}{x y:Code}{t:Bool}(hc:a.eval c= .bool t)(h:(if t then x else y).tl P ro Q a w):(Code.cond c x y).tl P ro Q a w:=
 fun b k cs tM hb=>let⟨e,a',w',q,r⟩:=h b k cs tM hb;⟨e,a',w',q, .of_steps (.one (fenced_calm (n:=0) trivial il rfl) (stepR_cond hc)) r⟩
theorem GZ{id:Nat}{c:Code}(h:c.tl P ro (Exit.inBlock id Q) a w):(Code.block id c).tl P ro Q a w:=by
 intro b k cs tM hb
 have h0:(lone (b.atR a (.code (.block id c)::k)) cs w).fenced P (ed ro):=fenced_calm (n:=0) trivial il rfl
 obtain⟨e,jL,gC,hq,cM⟩:=h b (.inBlock id::k) cs tM hb
 cases e with
 |normal=>exact⟨.normal,jL,gC,hq, .head h0 stepR_block (StepsIn.trans cM (.one (fenced_calm (n:=0) trivial il rfl) stepR_inBlock))⟩
 |exit Dd=>
  by_cases aB:Dd=id
  ·simp only[Exit.inBlock,aB,if_true]at hq
   exact⟨.normal,jL,gC,hq, .head h0 stepR_block (cM.1 k (by simp[exitTo,aB]))⟩
  ·simp only[Exit.inBlock,aB,if_false]at hq
   have this:(id==Dd)=false:=by simp;exact fun h=>aB h.symm
   have hx:exitTo Dd (.inBlock id::k)=exitTo Dd k:=by simp[exitTo,this]
   exact⟨.exit Dd,jL,gC,hq,fun k' hk=> .head h0 stepR_block (cM.1 k' Gt),
    fun zb hk=>let⟨k₁,h1,h2⟩:=cM.2 zb Gt;⟨k₁,h1, .head h0 stepR_block h2⟩⟩
 |goto l=>
  have hx:gotoIn l (.inBlock id::k)=gotoIn l k:=by simp[gotoIn]
  exact⟨_,jL,gC,hq,fun k' hk=> .head h0 stepR_block (cM.1 k' Gt),
   fun zb hk=>let⟨k₁,h1,h2⟩:=cM.2 zb Gt;⟨k₁,h1, .head h0 stepR_block h2⟩⟩
 |ret=>exact⟨_,jL,gC,hq, .of_steps (.one h0 stepR_block) cM⟩
 |panic ch=>exact⟨_,jL,gC,hq, .of_steps (.one h0 stepR_block) cM⟩
 |outgrown=>exact⟨_,jL,gC,hq, .of_steps (.one h0 stepR_block) cM⟩
theorem gP{b:Frame}{k:List Item}{cs:List Frame}{c:Code}:step P (lone (b.atR a (.code (.scope c)::k)) cs w)= .next (lone (b.atR a (.code c:: .inScope c::k)) cs w):=
 step_lone_go (by simp[stepG,stepG.exec,Frame.atR])
theorem wF{b:Frame}{k:List Item}{cs:List Frame}{c:Code}:step P (lone (b.atR a (.inScope c::k)) cs w)= .next (lone (b.atR a k) cs w):=
 step_lone_go (by simp[stepG,stepG.exec,Frame.atR])
theorem xu{c:Code}(h:c.tl P ro Q a w)(hg:∀l a w, ¬Q (.goto l) a w):(Code.scope c).tl P ro Q a w:=by
 intro b k cs tM hb
 have h0:(lone (b.atR a (.code (.scope c)::k)) cs w).fenced P (ed ro):=fenced_calm (n:=0) trivial il rfl
 obtain⟨e,jL,gC,hq,cM⟩:=h b (.inScope c::k) cs tM hb
 cases e with
 |normal=>exact⟨.normal,jL,gC,hq, .head h0 gP (StepsIn.trans cM (.one (fenced_calm (n:=0) trivial il rfl) wF))⟩
 |exit Dd=>
  have hx:exitTo Dd (.inScope c::k)=exitTo Dd k:=by simp[exitTo]
  exact⟨.exit Dd,jL,gC,hq,fun k' hk=> .head h0 gP (cM.1 k' Gt),
   fun zb hk=>let⟨k₁,h1,h2⟩:=cM.2 zb Gt;⟨k₁,h1, .head h0 gP h2⟩⟩
 |goto l=>exact(hg _ _ _ hq).elim
 |ret=>exact⟨_,jL,gC,hq, .of_steps (.one h0 gP) cM⟩
 |panic ch=>exact⟨_,jL,gC,hq, .of_steps (.one h0 gP) cM⟩
 |outgrown=>exact⟨_,jL,gC,hq, .of_steps (.one h0 gP) cM⟩
def uC(P:Program)(l:Nat)(Q:Exit->Act->World->Prop)(a':Act):Ending->World->Prop
 | .returned _,DH=>∃jump tn,(Instr.endLoop l).run P DH= .ok jump tn/\(match jump with|none=>Q .normal a' tn|some c=>c.tl P none Q a' tn)
 | .panicked chain,DH=>Q (.panic chain) a' DH
 | .outgrown,_=>LetsOut Q
theorem wG{g:Operand}{ps:Array Tmp}{assign body:Code}
 (h:∀fn,fn<P.funcs.size->∃ (l:Nat) (mark:List Deferred) (gC:World) (d:Deferred) (xw:World) (f:FuncId) (args:Array Value) (rC:World),
  (Instr.enterLoop fn a.tmps ps assign body (ed none).round).run P w= .ok (l,mark) gC/\(resolve a.eval (rangeCall g l) 0).run P gC= .ok d xw/\
  (invoke d.target d.args).run P xw= .ok (.enter f args) rC/\CallsIn (ed none) 0 P f args rC (uC P l Q {a with defers:=mark++a.defers})):
 (Code.rangeFunc g ps assign body).tl P none Q a w:=by
 intro b k cs tM hb
 obtain⟨l,mark,gC,d,xw,f,args,rC,he,Bx,hinv,hF,fh⟩:=h b.fn hb
 rw[show(ed none).round=b.roundOf from tM.symm]at he
 have calm:∀ (m:Machine),m.fenced P (ed none)↔m.fenced P Fence.wide:=fun m=>Iff.rfl
 have h0:(lone (b.atR a (.code (.rangeFunc g ps assign body)::k)) cs w).fenced P (ed none):=(calm _).2 (fenced_wide P _)
 have mb:=stepR_rangeFunc (P:=P) (b:=b) (a:=a) (k:=k) (cs:=cs) (w:=w) he Bx hinv
 obtain⟨e,DH,fr,hR,DI,GY,Jz⟩:=fh (b.atR {a with defers:=mark++a.defers} (.inRangeFunc l::k)::cs) il
 cases e with
 |outgrown=>
  obtain⟨abw,abx,hq⟩:=hR
  exact⟨.outgrown,abw,abx,hq, .inr (Outgrown.of_steps (.one mb) DI)⟩
 |returned v=>
  obtain⟨jump,tn,cN,hj⟩:=hR
  have Py:StepsIn (Machine.fenced P (ed none)) P (lone (b.atR a (.code (.rangeFunc g ps assign body)::k)) cs w) (lone (b.atR {a with defers:=mark++a.defers} ((jump.map Item.code).toList++k)) cs tn):=by
   refine .head h0 mb (StepsIn.trans DI (.head ((calm _).2 (fenced_wide P _)) ?_ (.one ((calm _).2 (fenced_wide P _)) (stepR_endRangeFunc cN))))
   rw[<- finish_atR_inRangeFunc l v];exact step_leave_returned Jz
  cases jump with
  |none=>exact⟨.normal,_,tn,hj,Py⟩
  |some c=>
   obtain⟨e',a'',aby,hq,cM⟩:=hj b k cs tM hb
   exact⟨e',a'',aby,hq, .of_steps Py cM⟩
 |panicked chain=>
  refine⟨.panic chain,_,DH,hR, .inRangeFunc l::k, .head h0 mb (StepsIn.trans DI (.one ((calm _).2 (fenced_wide P _)) ?_))⟩
  rw[<- Frame.raise_atR];exact step_leave_panicked Jz
end
theorem xy(hH:aC M φ H w){id l:Nat}(fG:H.us id){nf m:Nat}{env:List V}{ps:List Nat}{iK eE:IC}{st st':LoopState}{pd pd':Option jI}(ho:H.o id= .loop nf m env ps iK eE st pd)(eW:φ id= .pointer (some ⟨l,0,none⟩)):
 ∃r,w.heap[l]? =some (.loop r)/\r.state=st/\r.pending=pd.map jI.code/\
  aC M φ (H.put [(id, .loop nf m env ps iK eE st' pd')]) {w with heap:=w.heap.setIfInBounds l (.loop {r with state:=st',pending:=pd'.map jI.code})}/\
  Trans φ H w φ (H.put [(id, .loop nf m env ps iK eE st' pd')]) {w with heap:=w.heap.setIfInBounds l (.loop {r with state:=st',pending:=pd'.map jI.code})}:=by
 have bn:=hH.ok id
 simp only[ba,ho]at bn
 obtain⟨b,r,h1,h2,h0,h3,h4,h5,h6,h7,h8,h9⟩:=bn
 rw[eW]at h1;simp at h1;subst h1
 refine⟨r,h2,h3,h4, ?_⟩
 have Jm:eF (· =l) w {w with heap:=w.heap.setIfInBounds l (.loop {r with state:=st',pending:=pd'.map jI.code})}:=
  ⟨rfl,rfl,rfl,aj,fun j _ hj=>(MapKept.heap_set h2).2 j hj⟩
 have xf:(H.o id).live=true:=by rw[ho];rfl
 have Dc:eK (φ id)=some l:=by rw[eW];rfl
 have ht:=fe (w:=w) (w':={w with heap:=w.heap.setIfInBounds l (.loop {r with state:=st',pending:=pd'.map jI.code})}) fG xf Dc Jm (.loop nf m env ps iK eE st' pd') eV eV
 refine⟨iL hH fG xf Dc Jm _ eV eV ?_,ht⟩
 unfold ba
 simp only[bO,aR,if_true]
 exact⟨l,_,eW,(MapKept.heap_set h2).1,h0,rfl,rfl,h5,h6,h7,h8,fun i=>V.aS ht _ _ (h9 i)⟩
theorem jy{l:Nat}{r:Loop}(o:Obj)(hb:w.heap[l]? =some (.loop r)):(setObj l o).run P w= .ok () {w with heap:=w.heap.setIfInBounds l o}:=by
 simp[setObj,Sem.run,hb]
theorem kP{l:Nat}{r:Loop}(hb:w.heap[l]? =some (.loop r)):(Instr.getLoop l).run P w= .ok r w:=by
 simp[Instr.getLoop,getObj,Sem.run,hb,Result.andThen]
end
def oX(Q:fN->S->Prop)(pd:Option jI)(s:S):Prop:=
 match pd with
 |none=>Q .normal s
 |some .ret=>Q .ret s
 |some (.exit id)=>Q (.exit id) s
def Bz(P:Program)(n:Nat)(g:V)(ps:List Nat)(iK eE:IC)(Q:fN->S->Prop)(s:S):Prop:=
 ∃env,(∀i,bA env i= .aa\/bA env i=s.env i)/\
  match g with
  | .func (.func f) first cap=>m9 P f (first++[.jO s.nx]++cap) (aL s.o s.nx (.loop P.funcs.size n env ps iK eE .ready none)) (s.nx+1)
    (fun _ o' nx'=>∃nf m e p c d st pd,o' s.nx= .loop nf m e p c d st pd/\st≠ .busy/\oX Q pd ⟨s.env,aL o' s.nx (.loop nf m e p c d .exhausted pd),nx'⟩)
    (fun v o' nx'=>Q (.bR v) ⟨s.env,o',nx'⟩)
  |_=>False
def X4(P:Program)(n b:Nat)(g:Operand)(ps:List Nat)(iK eE:IC)(Q:fN->S->Prop)(s:S):Prop:=∃s',(s'=s\/bL b s s')/\Bz P n (s'.ev g) ps iK eE Q s'
def jG(P:Program)(n b:Nat)(rd:Bool):Code->(fN->S->Prop)->S->Prop
 | .skip,Q,s=>Q .normal s
 | .label _,Q,s=>Q .normal s
 | .scope x,Q,s=>jG P n b rd x Q s
 | .region _ ops false,Q,s=>zf P n ops (fun v s=>Q (.bR v) s) (Q .normal) ops.toList s
 | .region id ops true,Q,s=>∀M cQ H0 w0 cx φ a w ro k,cq M cQ H0 w0 n cx φ s a w->(Code.region id ops true).wpIn (ed ro) k P (E4 M cQ H0 w0 n cx Q) a w
 | .seq x y,Q,s=>jG P n b rd x (qb (jG P n b rd y Q) Q) s
 | .cond c x y,Q,s=>match s.ev c with
   | .d (.bool t)=>(t=true->jG P n b rd x Q s)/\(t=false->jG P n b rd y Q s)
   | .eZ=>jG P n b rd x Q s/\jG P n b rd y Q s
   |_=>False
 | .block id x,Q,s=>jG P n b rd x (fO id Q) s
 | .loop x,Q,s=>∃ (J:Nat->S->Prop),(∃m s1,bL b s s1/\J m s1)/\∀m s0,J m s0->jG P n b rd x (fun e s=>match e with| .normal=>∃m' s1,m'<m/\bL b s s1/\J m' s1|e=>Q e s) s0
 | .exit id,Q,s=>Q (.exit id) s
 | .ret,Q,s=>Q .ret s
 | .rangeFunc g ps x y,Q,s=>rd=false/\X4 P n b g ps.toList (low n x) (low n y) Q s
 |_,_,_=>False
section
variable {P:Program}{M:Nat->Prop}{φ:Place}{H:Hp}{w w':World}{cQ:Place}{H0:Hp}{w0:World}{n b:Nat}{s:S}{a:Act}{cx:Cx}{ro:Option Nat}{k:Nat}
theorem DJ(hb:∀id,H0.us id->id<b)(hs:cq M cQ H0 w0 n cx φ s a w){s':S}(h:bL b s s'):∃aO,cq M cQ H0 w0 n cx aO s' a w:=by
 obtain⟨aO,h1,h2,h3,h4,h5,h6⟩:=h M φ w (fun i=>a.tmps.getD i undef) hs.heap hs.env
 refine⟨aO,h1,⟨hs.tr.cw,fun k hk=>hs.tr.grow k (h3 k hk),⟨fun id hu=>Nat.lt_of_lt_of_le (hb id hu) h4,fun id hu hr=> ?_,fun id e' hu he=> ?_⟩⟩,hs.size, ?_,h2⟩
 ·obtain⟨g1,g2⟩:=h5 id (hb id hu) hr
  obtain⟨g3,g4⟩:=hs.tr.rel.row id hu g1
  exact⟨g3,g2.trans g4⟩
 ·obtain⟨e,g1,g2,g3⟩:=h6 id e' (hb id hu) he
  obtain⟨e0,k1,k2,k3⟩:=hs.tr.rel.ep id e hu g1
  refine⟨e0,k1,Nat.le_trans k2 g2,fun heq=> ?_⟩
  have a1:e0=e:=ad
  have a2:e=e':=ad
  exact(g3 a2).trans (k3 a1)
 ·obtain⟨ms,g1,g2,g3,g4⟩:=hs.defers
  exact⟨ms,g1,g2,g3,fun r hr=>⟨(g4 r hr).1,(g4 r hr).2.1,fun hl=>(g4 r hr).2.2 (h3 r hl)⟩⟩
theorem zl{c:Code}{Q:Exit->Act->World->Prop}(J:Nat->Act->World->Prop)(round:∀m a w,J m a w->c.tl P ro (Exit.then (fun a' w'=>∃m',m'<m/\J m' a' w') Q) a w):
 ∀m a w,J m a w->(Code.loop c).tl P ro Q a w:=by
 intro m a w h0 fr kk cs tM hb
 have hr:(ed ro).room (cs.length+1+0):=fun d hd=>by simp[ed]at hd
 have key:∀m a w,J m a w->∃e a' w',Q e a' w'/\ArrivesIn (Machine.fenced P (ed ro)) P (lone (fr.atR a (.code c:: .inLoop c::kk)) cs w) fr kk cs e a' w':=by
  intro m
  induction m using Nat.strongRecOn with
  |_ m ih=>
   intro a w hJ
   obtain⟨e,a1,w1,hq,cM⟩:=round m a w hJ fr (.inLoop c::kk) cs tM hb
   cases e with
   |normal=>
    obtain⟨m',cU,hJ'⟩:=hq
    obtain⟨e2,a2,w2,WD,E6⟩:=ih m' cU a1 w1 hJ'
    exact⟨e2,a2,w2,WD, .of_steps (StepsIn.trans cM (.one (fenced_calm trivial hr rfl) stepR_inLoop)) E6⟩
   |_=>exact⟨_,a1,w1,hq, .pass (x:= .inLoop c) rfl (fun _ _=> .inl aj) cM⟩
 obtain⟨e,a',w',hq,cM⟩:=key m a w h0
 exact⟨e,a',w',hq, .of_steps (.one (fenced_calm trivial hr rfl) stepR_loop) cM⟩
theorem xz(hs:cq M cQ H0 w0 n cx φ s a w)(mL:cx.rd=false)(tM:ro=none){g:Operand}{ps:Array Tmp}{x y:Code}{Q:fN->S->Prop}(h:Bz P n (s.ev g) ps.toList (low n x) (low n y) Q s):
 (Code.rangeFunc g ps x y).tl P ro (E4 M cQ H0 w0 n cx Q) a w:=by
 subst tM
 obtain⟨env,eG,h⟩:=h
 refine wG fun fn GY=> ?_
 let DK:Loop:={state:= .ready,pending:=none,fn:=fn,tmps:=a.tmps,params:=ps,assign:=x,body:=y,defers:=w.heap.size}
 let w1:World:=(w.alloc (.deferred (some []))).alloc (.loop DK)
 let l:Nat:=w.heap.size+1
 have mb:(Instr.enterLoop fn a.tmps ps x y (ed none).round).run P w= .ok (l,[mark w.heap.size]) w1:=by
  simp[Instr.enterLoop,ed,mark,w1,l,DK]
 have Mn:eF (fun _=>False) w w1:=by
  have k1:=cR w (.deferred (some []))
  have k2:=cR (w.alloc (.deferred (some []))) (.loop DK)
  exact⟨k2.os.trans k1.os,k2.tape.trans k1.tape,k2.output.trans k1.output,Nat.le_trans k1.size k2.size,fun j hj hm=>(k2.block j (Nat.lt_of_lt_of_le hj k1.size) hm).trans (k1.block j hj hm)⟩
 let jv:=aL φ s.nx (.pointer (some ⟨l,0,none⟩))
 let s1:S:=⟨s.env,aL s.o s.nx (.loop P.funcs.size n env ps.toList (low n x) (low n y) .ready none),s.nx+1⟩
 have db: ¬s.H.us s.nx:=by simp[S.H]
 have fK:∀b,eK (.pointer (some ⟨l,0,none⟩))=some b->w.heap.size<=b/\b<w1.heap.size:=by
  intro b hb;simp[eK]at hb;subst hb;simp[l,w1]
 have Db:=eM (φ:=φ) (H:=s.H) Mn db (.loop P.funcs.size n env ps.toList (low n x) (low n y) .ready none) (.pointer (some ⟨l,0,none⟩)) fun b hb=>(fK b hb).1
 have Ng:(w.alloc (.deferred (some []))).heap.size=w.heap.size+1:=aj
 have xf:w1.heap[l]? =some (.loop DK):=by
  have:=heap_alloc_new (w.alloc (.deferred (some []))) (.loop DK)
  rwa [Ng]at this
 have Gq:=jl hs.heap Mn db (.loop P.funcs.size n env ps.toList (low n x) (low n y) .ready none) (.pointer (some ⟨l,0,none⟩)) fK (by
  unfold ba
  simp only[bO,aR,if_true]
  refine⟨l,DK,rfl,xf,GY,rfl,rfl,rfl,hs.size,rfl,rfl,fun i=> ?_⟩
  rcases eG i with e|e
  ·rw[e];trivial
  ·rw[e];exact V.aS Db _ _ (hs.env i))
 have xA:cq M cQ H0 w0 n cx jv s1 {a with defers:=mark w.heap.size::a.defers} w1:=by
  have base:=eH hs Gq Db (o':=aL s.o s.nx (.loop P.funcs.size n env ps.toList (low n x) (low n y) .ready none)) (nx':=s.nx+1) rfl (Jv fun id aB=>by simp at aB;exact .inr aB)
  refine⟨base.heap,base.tr,base.size, ?_,base.env⟩
  obtain⟨ms,g1,g2,g3,g4⟩:=base.defers
  obtain⟨ms',q1,q2,q3,q4⟩:=hs.defers
  have hmm:ms.map mark=ms'.map mark:=by
   have:ms.map mark++cx.base=ms'.map mark++cx.base:=g1.symm.trans q1
   exact List.append_cancel_right this
  have S5:ms=ms':=by
   have hm:∀a b,mark a=mark b->a=b:=fun a b h=>by simpa[mark]using h
   exact List.map_inj_right hm |>.1 hmm
  refine⟨w.heap.size::ms,by rw[g1];rfl,List.nodup_cons.2 ⟨fun hm=> ?_,g2⟩,(fun h=>by rw[mL]at h;cases h),fun r hr=> ?_⟩
  ·have:=(q4 w.heap.size (S5 ▸ hm)).2.1
   rw[Array.getElem?_eq_none (Nat.le_refl _)]at this;cases this
  ·rcases List.mem_cons.1 hr with rfl|hr
   ·refine⟨hs.tr.cw.size,(RowKit.Below.heap_alloc (w.alloc (.deferred (some []))) (.loop DK) w.heap.size (by rw[Ng];omega)).trans (heap_alloc_new w _), ?_⟩
    rintro⟨id,i1,i2⟩
    by_cases e:id=s.nx
    ·subst e;simp[jv,eK,l]at i2
    ·have i1':(s.H.o id).live=true:=by simpa[s1,S.H,e]using i1
     have i2':eK (φ id)=some w.heap.size:=by simpa[jv,e]using i2
     have:=(hs.heap.ours _ ⟨id,i1',i2'⟩).2
     omega
   ·exact g4 r hr
 have abz:V.den (ax M jv s1.H) jv s1.H w1 (.jO s.nx) (.func (.yield l) #[] #[]):=
  ⟨rfl,by simp[s1,S.H],fun _=>⟨l,by simp[jv],rfl⟩⟩
 have hg:=mT (M:=M) (φ:=jv) (H:=s1.H) (w:=w1) s1 {a with defers:=mark w.heap.size::a.defers} xA.env g
 have abA:s1.ev g=s.ev g:=by cases g<;>rfl
 rw[abA]at hg
 have hae:({a with defers:=mark w.heap.size::a.defers}:Act).eval g=a.eval g:=rfl
 rw[hae]at hg
 split at h
 ·rename_i f first cap hgv
  rw[hgv]at hg
  obtain⟨fa,ca,S3,C9,X0⟩:=hg
  have fin:∀ (all:List V) (o2:Nat->ab) (s2:S),s2=⟨s.env,o2,s.nx+1⟩->cq M cQ H0 w0 n cx jv s2 {a with defers:=mark w.heap.size::a.defers} w1->V.aM (ax M jv s2.H) jv s2.H w1 all (fa++#[Value.func (.yield l) #[] #[]]++ca).toList->(o2 s.nx).cy=true->
   cK P f all o2 (s.nx+1) (fun _ o' nx'=>∃nf m e p c d st pd,o' s.nx= .loop nf m e p c d st pd/\st≠ .busy/\oX Q pd ⟨s.env,aL o' s.nx (.loop nf m e p c d .exhausted pd),nx'⟩) (fun v o' nx'=>Q (.bR v) ⟨s.env,o',nx'⟩)->
   ∃ (l:Nat) (mark:List Deferred) (gC:World) (d:Deferred) (xw:World) (f:FuncId) (args:Array Value) (rC:World),
     (Instr.enterLoop fn a.tmps ps x y (ed none).round).run P w= .ok (l,mark) gC/\(resolve a.eval (rangeCall g l) 0).run P gC= .ok d xw/\
     (invoke d.target d.args).run P xw= .ok (.enter f args) rC/\CallsIn (ed none) 0 P f args rC (uC P l (E4 M cQ H0 w0 n cx Q) {a with defers:=mark++a.defers}):=by
   intro all o2 s2 abB Mo bz bX hC
   subst abB
   have fh:=hC.2 M jv w1 _ Mo.heap bz
   refine⟨l,[mark w.heap.size],w1,{target:= .fn (.func f) ca,args:=fa++#[Value.func (.yield l) #[] #[]]},w1,f,fa++#[Value.func (.yield l) #[] #[]]++ca,w1,mb, ?_, ?_,dq (fh.mono fun e w' ⟨aO,o',nx',v,k1,k2,k3⟩=> ?_)⟩
   ·simp only[resolve,S3,Deferred.ofValue,List.map_toArray,List.map_cons,List.map_nil,Sem.run_pure]
    rfl
   ·simp[invoke,lF hC.1]
   ·cases e with
    |returned val=>
     obtain⟨k4,nf,m,e,p,c,d,st,pd,k5,k6,k7⟩:=k3
     have E7:cq M cQ H0 w0 n cx aO ⟨s.env,o',nx'⟩ {a with defers:=mark w.heap.size::a.defers} w':=eH Mo k1 k2 rfl fun id hu=>hu
     have S6:aO s.nx= .pointer (some ⟨l,0,none⟩):=by
      have:=(k2.rel.row s.nx (show s.nx<s.nx+1 from ad) (by show(o' s.nx).cy=true;rw[k5];rfl)).2
      rw[this];simp[jv]
     have cU:s.nx<nx':=k2.rel.us s.nx (show s.nx<s.nx+1 from ad)
     obtain⟨r,r1,r2,r3,r4,r5⟩:=xy (st':= .exhausted) (pd':=pd) k1 cU (show(hp o' nx').o s.nx=_ from k5) S6
     have cN:(Instr.endLoop l).run P w'= .ok (pd.map jI.code) {w' with heap:=w'.heap.setIfInBounds l (.loop {r with state:= .exhausted,pending:=pd.map jI.code})}:=by
      have e1:({r with state:= .exhausted}:Loop)={r with state:= .exhausted,pending:=pd.map jI.code}:=by rw[<- r3]
      have hnb:(r.state==LoopState.busy)=false:=by rw[r2];cases st<;>first|rfl|exact absurd rfl k6
      simp only[Instr.endLoop,Sem.run_bind,kP r1,Result.andThen_ok,hnb,Bool.false_eq_true,if_false,Sem.run_pure]
      rw[jy _ r1,e1]
      simp[r3]
     have WE:=eH E7 r4 r5 (o':=aL o' s.nx (.loop nf m e p c d .exhausted pd)) (nx':=nx') rfl fun id hu=>by
      simp only[et]at hu
      rcases hu with hu|hu
      ·exact hu
      ·subst hu;exact cU
     refine⟨pd.map jI.code,_,cN, ?_⟩
     cases pd with
     |none=>exact⟨.normal,_,_,k7,WE,trivial⟩
     |some j=>
      cases j with
      |ret=>exact E5 ⟨.ret,_,_,k7,WE,trivial⟩
      |exit id=>exact Bw ⟨.exit id,_,_,k7,WE,rfl⟩
    |panicked ch=>
     obtain⟨val,rfl,k4,k5⟩:=k3
     have E7:cq M cQ H0 w0 n cx aO ⟨s.env,o',nx'⟩ {a with defers:=mark w.heap.size::a.defers} w':=eH Mo k1 k2 rfl fun id hu=>hu
     exact⟨.bR v,_,_,k5,E7,val,rfl,k4⟩
    |outgrown=>exact k3.elim
  have na:V.aM (ax M jv s1.H) jv s1.H w1 (first++[V.jO s.nx]++cap) (fa++#[Value.func (.yield l) #[] #[]]++ca).toList:=by
   rw[Array.toList_append,Array.toList_append]
   exact V.ma C9 ⟨_,[],rfl,abz,rfl⟩ X0
  rcases h with hC|hC
  ·exact fin _ _ s1 rfl xA na (by simp;rfl) hC
  ·have pF:s1.o=aL s.o s.nx (.loop P.funcs.size n env ps.toList (low n x) (low n y) .ready none):=rfl
   obtain⟨f1,f2,f3,f4,f5⟩:=du xA.heap (dv s1.o (first++[V.jO s.nx]++cap)) (ik _ _ s1.o na)
   have kY:s1.H.put (dk s1.H.o (dv s1.o (first++[V.jO s.nx]++cap)))=hp (put s1.o (dk s1.o (dv s1.o (first++[V.jO s.nx]++cap)))) s1.nx:=lE (by rw[tH];exact ik _ _ s1.o na)
   have Pz:=Jy f1 _ _ f3 (V.a8 f2 _ _ na)
   have PA:((s1.H.put (dk s1.H.o (dv s1.o (first++[V.jO s.nx]++cap)))).o s.nx).cy=true:=by
    by_cases hm:s.nx∈dv s1.o (first++[V.jO s.nx]++cap)
    ·rw[f3 _ hm];simp[s1,S.H,ab.fz,ab.cy]
    ·rw[f4 _ hm];simp[s1,S.H,ab.cy]
   rw[kY]at f1 f2 Pz PA
   exact fin _ (put s1.o (dk s1.o (dv s1.o (first++[V.jO s.nx]++cap)))) ⟨s.env,_,s.nx+1⟩ rfl (eH xA f1 f2 rfl fun id hu=>hu) Pz PA hC
 ·exact h.elim
end
end Go.Proofs.YtonbelhklnmjnaaGreat
