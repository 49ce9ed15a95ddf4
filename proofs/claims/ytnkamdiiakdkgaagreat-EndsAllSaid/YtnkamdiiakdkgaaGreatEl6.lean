/-
  A PART OF THE PROOF. Conditions: none.
-/
import Derived.RangeFuncLeaves
import Derived.TacticsIn
import Derived.RecoverIn
import Derived.Test.YtnkamdiiakdkgaaGreatEl5
set_option linter.unusedSimpArgs false
set_option linter.unusedVariables false
namespace Go.Proofs.YtnkamdiiakdkgaaGreat
inductive R where
 |ret (ds:List D)|bE (d:D)
def R.is (B:Nat->Prop)(w:World):R->Ending->Prop
 | .ret [x], .returned v=>D.den B w x v
 | .ret ds, .returned v=>∃a,v= .tuple a/\D.aB B w ds a.toList
 | .bE d, .panicked chain=>∃v,chain=[{v:=v,recovered:=false}]/\D.den B w d v
 |_,_=>False
def Enters(P:Program)(f:FuncId):Prop:=∃fn,P.funcs[f]? =some fn/\(fn.name== "runtime.NumGoroutine")=false/\fn.body.isNone=false
def aV(P:Program)(f:FuncId)(ds:List D)(out:R):Prop:=
 Enters P f/\∀ (M:Nat->Prop) (w:World) (vals:Array Value),(∀b,M b->b<w.heap.size)->D.aB M w ds vals.toList->
  Calls P f vals w fun e w'=>dM (fun _=>False) w w'/\out.is M w' e
def hp(o:Nat->ab)(nx:Nat):Hp:=⟨o,fun id=>id<nx⟩
def nn(M:Nat->Prop)(φ:Place)(H:Hp)(w:World)(K X:V->(Nat->ab)->Nat->Prop)(e:Ending)(w':World):Prop:=
 ∃aG o' nx' v,ay M aG (hp o' nx') w'/\Trans φ H w aG (hp o' nx') w'/\match e with
  | .returned val=>V.den (ao M aG (hp o' nx')) aG (hp o' nx') w' v val/\K v o' nx'
  | .panicked ch=>∃val,ch=[{v:=val,recovered:=false}]/\V.den (ao M aG (hp o' nx')) aG (hp o' nx') w' v val/\X v o' nx'
  | .outgrown=>False
def cH(P:Program)(f:FuncId)(args:List V)(o:Nat->ab)(nx:Nat)(K X:V->(Nat->ab)->Nat->Prop):Prop:=
 Enters P f/\∀ (M:Nat->Prop) (φ:Place) (w:World) (vals:Array Value),ay M φ (hp o nx) w->V.aB (ao M φ (hp o nx)) φ (hp o nx) w args vals.toList->
  Calls P f vals w (nn M φ (hp o nx) w K X)
def dI(P:Program)(id:Nat)(args:List V)(o:Nat->ab)(nx:Nat)(K X:V->(Nat->ab)->Nat->Prop):Prop:=
 (o id).cj=true/\∀ (M:Nat->Prop) (φ:Place) (w:World) (vals:Array Value) (b:Nat),ay M φ (hp o nx) w->V.aB (ao M φ (hp o nx)) φ (hp o nx) w args vals.toList->φ id= .pointer (some ⟨b,0,none⟩)->
  ∃f tmps assign body,(Instr.yield b vals).run P w= .ok (.round b f tmps assign body) w/\∀n,RoundIn Fence.wide n P b f tmps assign body w (nn M φ (hp o nx) w K X)
theorem nn.mono {M:Nat->Prop}{φ:Place}{H:Hp}{w:World}{K X K' X':V->(Nat->ab)->Nat->Prop}(hK:∀v o n,K v o n->K' v o n)(hX:∀v o n,X v o n->X' v o n){e:Ending}{w':World}(h:nn M φ H w K X e w'):nn M φ H w K' X' e w':=by
 obtain⟨aG,o',nx',v,h1,h2,h3⟩:=h
 refine⟨aG,o',nx',v,h1,h2, ?_⟩
 cases e with
 |returned val=>exact⟨h3.1,hK _ _ _ h3.2⟩
 |panicked ch=>obtain⟨val,a,b,c⟩:=h3;exact⟨val,a,b,hX _ _ _ c⟩
 |outgrown=>exact h3
theorem cH.mono {P:Program}{f:FuncId}{args:List V}{o:Nat->ab}{nx:Nat}{K X K' X':V->(Nat->ab)->Nat->Prop}(hK:∀v o n,K v o n->K' v o n)(hX:∀v o n,X v o n->X' v o n)(h:cH P f args o nx K X):cH P f args o nx K' X':=
 ⟨h.1,fun M φ w vals h1 h2=>(h.2 M φ w vals h1 h2).mono fun _ _ h=>h.mono hK hX⟩
theorem dI.mono {P:Program}{id:Nat}{args:List V}{o:Nat->ab}{nx:Nat}{K X K' X':V->(Nat->ab)->Nat->Prop}(hK:∀v o n,K v o n->K' v o n)(hX:∀v o n,X v o n->X' v o n)(h:dI P id args o nx K X):dI P id args o nx K' X':=
 ⟨h.1,fun M φ w vals b h1 h2 h3=>let⟨f,t,a,c,h4,h5⟩:=h.2 M φ w vals b h1 h2 h3;⟨f,t,a,c,h4,fun n=>(h5 n).mono fun _ _ h=>h.mono hK hX⟩⟩
mutual
def D.flat:D->Bool
 | .sl _| .mp _ _=>false
 | .agg cs=>D.jR cs
 | .iface _ x=>x.flat
 |_=>true
def D.jR:List D->Bool
 |[]=>true
 |x::xs=>x.flat&&D.jR xs
end
mutual
theorem D.qy {B B':Nat->Prop}{w w':World}:∀ (x:D) (v:Value),x.flat=true->D.den B w x v->D.den B' w' x v
 | .int _ _,_,_,h| .bool _,_,_,h| .str _,_,_,h| .fe,_,_,h| .mU,_,_,h| .cf,_,_,h| .hY,_,_,h=>h
 | .agg cs,_,hf,h=>by obtain⟨a,rfl,h,h2⟩:=h;exact⟨a,rfl,D.mb cs _ hf h,h2⟩
 | .sl es,_,hf,h=>by simp[D.flat]at hf
 | .mp _ _,_,hf,h=>by simp[D.flat]at hf
 | .iface t x,_,hf,h=>by obtain⟨u,rfl,h⟩:=h;exact⟨u,rfl,D.qy x u hf h⟩
theorem D.mb {B B':Nat->Prop}{w w':World}:∀ (xs:List D) (vs:List Value),D.jR xs=true->D.aB B w xs vs->D.aB B' w' xs vs
 |[],_,_,h=>h
 |x::xs,_,hf,h=>by
  obtain⟨u,us,rfl,h1,h2⟩:=h
  simp only[D.jR,Bool.and_eq_true]at hf
  exact⟨u,us,rfl,D.qy x u hf.1 h1,D.mb xs us hf.2 h2⟩
end
mutual
def D.np:D->Bool
 | .mp _ _=>false
 | .agg cs=>D.mc cs
 | .sl es=>D.mc es
 | .iface _ x=>x.np
 |_=>true
def D.mc:List D->Bool
 |[]=>true
 |x::xs=>x.np&&D.mc xs
end
theorem gI.B4 {B B':Nat->Prop}{w w':World}{a:Addr}{cs:Array Value}
 (hb:∀b,qe w b-> ¬B b->w'.heap[b]? =w.heap[b]? /\ ¬B' b) (h:gI B w a cs):gI B' w' a cs:=by
 intro j u hj
 obtain⟨h1,h2⟩:=h j u hj
 have cG:qe w a.block:=by simpa using oO h1
 exact aa9
mutual
theorem D.lF {B B':Nat->Prop}{w w':World}(hb:∀b,qe w b-> ¬B b->w'.heap[b]? =w.heap[b]? /\ ¬B' b):
 ∀ (x:D) (v:Value),x.np=true->D.den B w x v->D.den B' w' x v
 | .int _ _,_,_,h| .bool _,_,_,h| .str _,_,_,h| .fe,_,_,h| .mU,_,_,h| .cf,_,_,h| .hY,_,_,h=>by simpa[D.den]using h
 | .agg cs,_,hn,h=>by
   obtain⟨a,rfl,h,hf⟩:=h
   exact⟨a,rfl,D.nq hb cs _ hn h,hf⟩
 | .sl es,_,hn,h=>by
   obtain⟨base,len,cap,rfl,h1,h2,h3,sz,h4⟩:=h
   exact⟨base,len,cap,rfl,h1,h2,h3,sz,fun a ha=>⟨(h4 a ha).1,D.qz hb sz a es 0 hn (h4 a ha).2⟩⟩
 | .iface t d,_,hn,h=>by
   obtain⟨u,rfl,h⟩:=h
   exact⟨u,rfl,D.lF hb d u hn h⟩
 | .mp _ _,_,hn,_=>by simp[D.np]at hn
theorem D.nq {B B':Nat->Prop}{w w':World}(hb:∀b,qe w b-> ¬B b->w'.heap[b]? =w.heap[b]? /\ ¬B' b):
 ∀ (ds:List D) (vs:List Value),D.mc ds=true->D.aB B w ds vs->D.aB B' w' ds vs
 |[],_,_,h=>h
 |d::ds,_,hn,h=>by
  obtain⟨u,us,rfl,h1,h2⟩:=h
  simp only[D.mc,Bool.and_eq_true]at hn
  exact⟨u,us,rfl,D.lF hb d u hn.1 h1,D.nq hb ds us hn.2 h2⟩
theorem D.qz {B B':Nat->Prop}{w w':World}(hb:∀b,qe w b-> ¬B b->w'.heap[b]? =w.heap[b]? /\ ¬B' b)(sz:Nat)(a:Addr):
 ∀ (es:List D) (i:Nat),D.mc es=true->D.elems B w sz a i es->D.elems B' w' sz a i es
 |[],_,_,_=>trivial
 |e::es,i,hn,h=>by
  obtain⟨⟨ev,h1,h2,h3⟩,h4⟩:=h
  simp only[D.mc,Bool.and_eq_true]at hn
  exact⟨⟨ev,h1,h2.B4 hb,D.lF hb e ev hn.1 h3⟩,D.qz hb sz a es (i+1) hn.2 h4⟩
end
def R.np:R->Bool
 | .ret ds=>D.mc ds
 | .bE d=>d.np
def R.flat:R->Bool
 | .ret ds=>D.jR ds
 | .bE d=>d.flat
def jv:List D->V
 |[x]=> .d x
 |ds=> .bW (ds.map .d)
inductive fG where
 |normal|exit (id:Nat)|ret|bE (v:V)
def aY(env:Nat->V)(dst:Option Tmp)(v:V):Nat->V:=
 match dst with
 |some d=>ax env d v
 |none=>env
def LU(o:Nat->ab)(v:V):V:=match dB o v with|some x=> .d x|none=>v
def de(o:Nat->ab):List V->List Nat
 |[]=>[]
 |v::vs=>(match dB o v with|some _=>v.ids|none=>[])++de o vs
def oN(P:Program)(g:FuncId)(args:List V)(o:Nat->ab)(nx:Nat)(K X:V->(Nat->ab)->Nat->Prop):Prop:=
 cH P g args o nx K X\/cH P g (args.map (LU o)) (put o (bT o (de o args))) nx K X
def vq(P:Program)(s:S)(g:FuncId)(all:List V)(K:V->(Nat->ab)->Nat->Prop)(X:V->(Nat->ab)->Nat->Prop):Prop:=
    (∃ds out,b7 s.o all=some ds/\aV P g ds out/\(match out with
     | .ret rs=>K (jv rs) (put s.o (bT s.o (V.bg all))) (s.nx+1)
     | .bE x=>X (.d x) (put s.o (bT s.o (V.bg all))) (s.nx+1)))\/
    (∃ds out,b7 s.o all=some ds/\aV P g ds out/\out.flat=true/\(match out with
     | .ret rs=>K (jv rs) s.o (s.nx+1)
     | .bE x=>X (.d x) s.o (s.nx+1)))\/
    (∃ds out,b7 s.o all=some ds/\aV P g ds out/\out.np=true/\(match out with
     | .ret rs=>K (jv rs) (put s.o (rW s.o (V.bg all))) (s.nx+1)
     | .bE x=>X (.d x) (put s.o (rW s.o (V.bg all))) (s.nx+1)))\/
    oN P g all s.o s.nx K X
def Cs(P:Program)(s:S)(f:V)(args:List V)(K:V->(Nat->ab)->Nat->Prop)(X:V->(Nat->ab)->Nat->Prop):Prop:=
 match f with
 | .func (.func g) first cap=>vq P s g (first++args++cap) K X
 | .ju id=>dI P id args s.o s.nx K X
 |_=>False
def Sm(P:Program)(t:TypeId):Bool:=
 match P.underlying t with
 |some (.pointer _)=>false
 |some _=>true
 |none=>false
def vr(P:Program)(m:String)(x:V):Option (FuncId×V):=
 match x with
 | .d (.iface t y)=>match P.info? t with
   |some ti=>match ti.methods.find? (·.name==m)with
    |some r=>match r.func with
     |some (f,false)=>if r.path.isEmpty=true/\Sm P t=true then some (f, .d y)else none
     |_=>none
    |none=>none
   |none=>none
 |_=>none
def gJ(n:Nat):Option Tmp->Prop
 |some d=>d<n
 |none=>True
def opW(P:Program)(n:Nat)(s:S)(o:Oper)(X:V->S->Prop)(K:S->Prop):Prop:=
 gJ n o.dst/\match o.op with
 | .call c=>match c.callee with
   | .value f=>Cs P s (s.ev f) (c.args.toList.map s.ev) (fun v o' nx'=>K ⟨aY s.env o.dst v,o',nx'⟩) (fun v o' nx'=>X v ⟨s.env,o',nx'⟩)
   | .invoke r m=>match vr P m (s.ev r)with
     |some (g,y)=>vq P s g (y::c.args.toList.map s.ev) (fun v o' nx'=>K ⟨aY s.env o.dst v,o',nx'⟩) (fun v o' nx'=>X v ⟨s.env,o',nx'⟩)
     |none=>False
   |_=>Sf P s s.nx o.op fun v Δ _=>K ⟨aY s.env o.dst v,put s.o Δ,s.nx+1⟩
 | .panic x=>match s.ev x with
   | .d (.iface t y)=>X (.d (.iface t y)) s
   | .iface t y=>X (.iface t y) s
   |_=>False
 |op=>Sf P s s.nx op fun v Δ _=>K ⟨aY s.env o.dst v,put s.o Δ,s.nx+1⟩
def Aa(s:S)(ops:Array Oper)(g:Option (Nat×Bool))(A B:Prop):Prop:=
 match g with
 |none=>A
 |some (j,want)=>match s9 ops j with
  |some d=>match s.env d with
   | .d (.bool b)=>(b=want->A)/\(b≠want->B)
   | .bW []=>B
   |_=>False
  |none=>B
def Ab(P:Program)(n:Nat)(ops:Array Oper)(X:V->S->Prop)(K:S->Prop):List Oper->S->Prop
 |[],s=>K s
 |o::l,s=>Aa s ops o.guard (opW P n s o X (Ab P n ops X K l)) (gJ n o.dst/\Ab P n ops X K l ⟨aY s.env o.dst (.bW []),s.o,s.nx+1⟩)
def bt(b:Nat)(s s':S):Prop:=
 ∀ (M:Nat->Prop) (φ:Place) (w:World) (tm:Nat->Value),ay M φ s.H w->(∀i,V.den (ao M φ s.H) φ s.H w (s.env i) (tm i))->
   ∃aG,ay M aG s'.H w/\(∀i,V.den (ao M aG s'.H) aG s'.H w (s'.env i) (tm i))/\(∀k,cE aG s'.H k->cE φ s.H k)/\b<=s'.nx/\
    (∀id,id<b->(s'.o id).cj=true->(s.o id).cj=true/\aG id=φ id)/\
    (∀id e',id<b->(s'.o id).b9=some e'->∃e,(s.o id).b9=some e/\e<=e'/\(e=e'->aG id=φ id))
def qA(K:S->Prop)(Q:fG->S->Prop)(e:fG)(s:S):Prop:=match e with| .normal=>K s|e=>Q e s
def fw(id:Nat)(Q:fG->S->Prop)(e:fG)(s:S):Prop:=match e with| .exit j=>if j=id then Q .normal s else Q (.exit j) s|e=>Q e s
def me(P:Program)(s:S):List ResultVar->Option (List V)
 |[]=>some []
 | .tmp t::rs=>(me P s rs).map (s.env t::·)
 | .cell a t::rs=>match s.env a with
   | .ptr id off=>match s.o id with
     | .row cs=>(eK P t cs off).bind fun v=>(me P s rs).map (v::·)
     |_=>none
   |_=>none
def cp(vs:List V):Nat->V:=fun i=>vs.getD i (.bW [])
def E9(P:Program)(rs:List ResultVar)(out:R)(e:fG)(s:S):Prop:=
 match e with
 | .normal| .ret=>match me P s rs with
   |some vs=>match b7 s.o vs with
    |some ds=>out= .ret ds
    |none=>False
   |none=>False
 | .bE v=>match dB s.o v with
   |some x=>out= .bE x
   |none=>False
 | .exit _=>False
theorem LV{P:Program}{rs:List ResultVar}{out:R}{s:S}(h:match me P s rs with
 |some vs=>match b7 s.o vs with
  |some ds=>out= .ret ds
  |none=>False
 |none=>False):∃vs ds,me P s rs=some vs/\b7 s.o vs=some ds/\out= .ret ds:=by
 split at h
 ·rename_i vs h1
  split at h
  ·rename_i xs h2;exact⟨vs,xs,h1,h2,h⟩
  ·exact h.elim
 ·exact h.elim
theorem LW{out:R}{s:S}{v:V}(h:match dB s.o v with
 |some x=>out= .bE x
 |none=>False):∃x,dB s.o v=some x/\out= .bE x:=by
 split at h
 ·rename_i x h1;exact⟨x,h1,h⟩
 ·exact h.elim
section
section
variable {P:Program}{M:Nat->Prop}{φ:Place}{H:Hp}{w w':World}
def ab.lG:ab->Bool
 | .arr .. =>true
 |_=>false
theorem Po(o:Nat->ab)(ids:List Nat):rW o ids=bT o (ids.filter fun id=>(o id).lG):=by
 induction ids with
 |nil=>rfl
 |cons id ids ih=>
  unfold rW at ih|-
  simp only[List.filterMap_cons,List.filter_cons]
  cases hx:o id with
  |arr ep ty sz es=>
   have e:(ab.arr ep ty sz es).lG=true:=rfl
   rw[e,if_pos rfl,ih]
   simp only[bT,List.map_cons,hx]
  |_=>exact ih
theorem jt(hH:ay M φ H w){us':Nat->Prop}(h:∀id,H.us id->us' id):ay M φ ⟨H.o,us'⟩ w/\Trans φ H w φ ⟨H.o,us'⟩ w:=by
 have ht:Trans φ H w φ ⟨H.o,us'⟩ w:=⟨dM.refl _ _,fun b hb=> .inl hb,⟨h,fun id _ hr=>⟨hr,rfl⟩,fun id e' _ he=>⟨e',he,Nat.le_refl _,fun _=>rfl⟩⟩⟩
 exact⟨hH.of ht (fun _=>False) (fun _ h=>h.elim) (fun id _=>⟨rfl,rfl,fun _ _ _=>rfl⟩) (fun id hn=>hH.fresh id fun hu=>hn (h id hu)) hH.apart (fun b hb=>(hH.ours b hb).2),ht⟩
theorem gr(hH:ay M φ H w)(hk:dM (fun _=>False) w w'):ay M φ H w'/\Trans φ H w φ H w':=by
 have ht:Trans φ H w φ H w':=⟨⟨hk.os,hk.tape,hk.output,hk.size,fun k h _=>hk.block k h fun h=>h⟩,fun b hb=> .inl hb,dU.refl _ _⟩
 exact⟨hH.of ht (fun _=>False) (fun _ h=>h.elim) (fun id _=>⟨rfl,rfl,fun hl b hb=>hk.block b (hH.ours b ⟨id,hl,hb⟩).2 fun h=>h⟩) hH.fresh hH.apart (fun b hb=>Nat.lt_of_lt_of_le (hH.ours b hb).2 hk.size),ht⟩
theorem lH{Δ:List (Nat×ab)}(h:∀id∈Δ.map (·.1),H.us id):H.put Δ=⟨put H.o Δ,H.us⟩:=by
 unfold Hp.put
 congr 1
 funext id
 simp only[eq_iff_iff]
 exact⟨fun h'=>h'.elim (fun h=>h) (h id), .inl⟩
theorem ux(o:Nat->ab)(ids:List Nat):(bT o ids).map (·.1)=ids:=by
 rw[l8];simp[Function.comp_def]
structure Cx where
 base:List Deferred
 rd:Bool
def dN(ro:Option Nat):Fence:={fn:=fun _=>True,depth:=none,alive:=false,round:=ro}
def mark(r:Nat):Deferred:={target:= .collected r,args:=#[]}
def vu(cx:Cx)(w0:World)(φ:Place)(H:Hp)(w:World)(ds:List Deferred):Prop:=
 ∃ms:List Nat,ds=ms.map mark++cx.base/\ms.Nodup/\(cx.rd=true->ms=[])/\∀r∈ms,w0.heap.size<=r/\w.heap[r]? =some (.deferred (some []))/\ ¬cE φ H r
theorem vu.mono {cx:Cx}{w0:World}{φ aG:Place}{H H':Hp}{w w':World}{ds:List Deferred}(ht:Trans φ H w aG H' w')(h:vu cx w0 φ H w ds):vu cx w0 aG H' w' ds:=by
 obtain⟨ms,h1,h2,h3,h4⟩:=h
 refine⟨ms,h1,h2,h3,fun r hr=> ?_⟩
 obtain⟨g1,g2,g3⟩:=h4 r hr
 have cG:r<w.heap.size:=by
  rcases Nat.lt_or_ge r w.heap.size with hl|hl
  ·exact hl
  ·rw[Array.getElem?_eq_none hl]at g2;cases g2
 refine⟨g1,(ht.keep.block r cG g3).trans g2,fun hl=> ?_⟩
 rcases ht.grow r hl with h|h
 ·exact g3 h
 ·omega
structure b8 (M:Nat->Prop) (cA:Place) (H0:Hp) (w0:World) (n:Nat) (cx:Cx) (φ:Place) (s:S) (a:Act) (w:World):Prop where
 heap:ay M φ s.H w
 tr:Trans cA H0 w0 φ s.H w
 size:a.tmps.size=n
 defers:vu cx w0 φ s.H w a.defers
 env:∀i,V.den (ao M φ s.H) φ s.H w (s.env i) (a.tmps.getD i undef)
variable {cA:Place}{H0:Hp}{w0:World}{n:Nat}{s:S}{a:Act}{cx:Cx}{ro:Option Nat}{k:Nat}
theorem cZ{f:FuncId}{args:Array Value}{R:Ending->World->Prop}(h:Calls P f args w R):CallsIn (dN ro) k P f args w R:=
 ⟨trivial,fun cs _=>let⟨e,w',fr,r,s,x⟩:=h cs;⟨e,w',fr,r,comesIn_wide.2 s,x⟩⟩
theorem Ct{f:FuncId}{args:Array Value}{R:Ending->World->Prop}(h:CallsIn (dN ro) k P f args w R):Calls P f args w R:=
 fun cs=>let⟨e,w',fr,r,s,x⟩:=h.2 cs (fun _ h=>by simp[dN]at h);⟨e,w',fr,r,comesIn_wide.1 s,x⟩
theorem kK{o:Oper}{next:Act->World->Prop}{Q:Exit->Act->World->Prop}(KG:∀c,o.op≠ .defer c)(h:o.uponIn (dN ro) k P a next Q ((execOp a.eval o).run P w)):o.wpIn (dN ro) k P a w next Q:=
 ⟨fun _ _=>trivial,by rw[Oper.semAt_eq _ _ _ KG];exact h⟩
theorem n6(hs:b8 M cA H0 w0 n cx φ s a w){aG:Place}{H':Hp}(hH:ay M aG H' w')(ht:Trans φ s.H w aG H' w'){v:V}{val:Value}(hd:V.den (ao M aG H') aG H' w' v val){dst:Option Tmp}(cQ:gJ n dst)
 {o':Nat->ab} {nx':Nat} (ho:H'.o=o') (hu:∀id,H'.us id->id<nx'):b8 M cA H0 w0 n cx aG ⟨aY s.env dst v,o',nx'⟩ (a.put dst val) w':=by
 obtain⟨k1,k2⟩:=jt hH hu
 subst ho
 refine⟨k1,hs.tr.trans (ht.trans k2), ?_, ?_,fun i=> ?_⟩
 ·cases dst<;>simp[Act.put,hs.size]
 ·have:=hs.defers.mono (ht.trans k2);cases dst<;>exact this
 ·cases dst with
  |none=>exact OS
  |some d=>
   simp only[gJ]at cQ
   simp only[aY,aK,Act.put]
   by_cases hi:i=d
   ·subst hi
    have h1:(a.tmps.setIfInBounds i val).getD i undef=val:=by simp[Array.getD,hs.size,cQ]
    rw[if_pos rfl,h1]
    exact V.aO k2 _ _ hd
   ·have h1:(a.tmps.setIfInBounds d val).getD i undef=a.tmps.getD i undef:=by
     exact U1
    rw[if_neg hi,h1]
    exact OS
theorem eJ(hs:b8 M cA H0 w0 n cx φ s a w){aG:Place}{H':Hp}(hH:ay M aG H' w')(ht:Trans φ s.H w aG H' w'){o':Nat->ab}{nx':Nat}(ho:H'.o=o')(hu:∀id,H'.us id->id<nx'):
 b8 M cA H0 w0 n cx aG ⟨s.env,o',nx'⟩ a w':=by
 obtain⟨k1,k2⟩:=jt hH hu
 subst ho
 exact⟨k1,hs.tr.trans (ht.trans k2),hs.size,hs.defers.mono (ht.trans k2),fun i=>V.aO (ht.trans k2) _ _ (hs.env i)⟩
theorem LX{Δ:List (Nat×ab)}(h:∀id∈Δ.map (·.1),s.H.us id\/id=s.nx)(id:Nat)(hu:(s.H.put Δ).us id):id<s.nx+1:=by
 rcases hu with hu|hu
 ·exact Nat.lt_succ_of_lt hu
 ·rcases h id hu with h|h
  ·exact Nat.lt_succ_of_lt h
  ·omega
variable {next:Act->World->Prop}{Q:Exit->Act->World->Prop}{X:V->S->Prop}{K:S->Prop}
theorem LY(hs:b8 M cA H0 w0 n cx φ s a w){o:Oper}{op:Op}(gW:o.op=op)(cQ:gJ n o.dst)(h:Sf P s s.nx op fun v Δ _=>K ⟨aY s.env o.dst v,put s.o Δ,s.nx+1⟩)
 (hN:∀s' aG a' w',K s'->b8 M cA H0 w0 n cx aG s' a' w'->next a' w'):o.wpIn (dN ro) k P a w next Q:=by
 obtain⟨nx,val,w',aG,v,Δ,rd,hK,hr,vw,g1,g2,g3,g4⟩:=yw hs.heap (s:=s) rfl hs.env (fr:=s.nx) (by simp[S.H]) gW h
 have Ac:=n6 hs g1 g2 g3 cQ (o':=put s.o Δ) (nx':=s.nx+1) rfl (LX g4)
 refine kK (fun c hc=>by rw[gW]at hc;subst hc;exact h) ?_
 rw[hr]
 rcases vw with rfl|⟨rfl,rfl⟩
 ·exact hN _ _ _ _ hK Ac
 ·exact hN _ _ _ _ hK Ac
theorem V.qb {B:Nat->Prop}{cc bs cs:List V}{u v x:List Value}(h1:V.aB B φ H w cc u)(h2:V.aB B φ H w bs v)(h3:V.aB B φ H w cs x):V.aB B φ H w (cc++bs++cs) (u++v++x):=
 V.br _ _ _ _ (V.br _ _ _ _ h1 h2) h3
theorem lI{f:FuncId}(h:Enters P f)(args:Array Value):(callFunc f args).run P w= .ok (.enter f args) w:=by
 obtain⟨fn,h1,h2,h3⟩:=h
 have mJ:fn.name≠ "runtime.NumGoroutine" :=by simpa using h2
 have mf:fn.body≠none:=fun h=>by rw[h]at h3;cases h3
 simp[callFunc,h1,mJ,mf]
theorem m7:∀ {rs:List D} {val:Value},R.is (ao M φ H) w (.ret rs) (.returned val)->V.den (ao M φ H) φ H w (jv rs) val
 |[],_,h=>by obtain⟨arr,rfl,h⟩:=h;exact⟨arr,rfl,h⟩
 |[x],_,h=>h
 |x::y::l,_,h=>by obtain⟨arr,rfl,h⟩:=h;exact⟨arr,rfl,(V.cn (x::y::l) _).2 h⟩
theorem R.Ad {B B':Nat->Prop}:∀ {out:R} {e:Ending},out.flat=true->out.is B w e->out.is B' w e
 | .ret [], .returned _,_,h=>by obtain⟨arr,rfl,h⟩:=h;exact⟨arr,rfl,h⟩
 | .ret [x], .returned _,hf,h=>by
   simp only[R.flat,D.jR,Bool.and_true]at hf
   exact D.qy x _ hf h
 | .ret (x::y::l), .returned _,hf,h=>by obtain⟨arr,rfl,h⟩:=h;exact⟨arr,rfl,D.mb (x::y::l) _ hf h⟩
 | .bE d, .panicked _,hf,h=>by obtain⟨v,rfl,h⟩:=h;exact⟨v,rfl,D.qy d v hf h⟩
 | .ret [], .panicked _,_,h| .ret [_], .panicked _,_,h| .ret (_::_::_), .panicked _,_,h| .ret [], .outgrown,_,h| .ret [_], .outgrown,_,h| .ret (_::_::_), .outgrown,_,h| .bE _, .returned _,_,h| .bE _, .outgrown,_,h=>h.elim
theorem R.LZ {B B':Nat->Prop}{w':World}(hb:∀b,qe w' b-> ¬B b-> ¬B' b):∀ {out:R} {e:Ending},out.np=true->out.is B w' e->out.is B' w' e
 | .ret [], .returned _,_,h=>by obtain⟨arr,rfl,h⟩:=h;exact⟨arr,rfl,h⟩
 | .ret [x], .returned _,hf,h=>by
   simp only[R.np,D.mc,Bool.and_true]at hf
   exact D.lF (fun b hc hn=>⟨rfl,hb b hc hn⟩) x _ hf h
 | .ret (x::y::l), .returned _,hf,h=>by obtain⟨arr,rfl,h⟩:=h;exact⟨arr,rfl,D.nq (fun b hc hn=>⟨rfl,hb b hc hn⟩) (x::y::l) _ hf h⟩
 | .bE d, .panicked _,hf,h=>by obtain⟨v,rfl,h⟩:=h;exact⟨v,rfl,D.lF (fun b hc hn=>⟨rfl,hb b hc hn⟩) d v hf h⟩
 | .ret [], .panicked _,_,h| .ret [_], .panicked _,_,h| .ret (_::_::_), .panicked _,_,h| .ret [], .outgrown,_,h| .ret [_], .outgrown,_,h| .ret (_::_::_), .outgrown,_,h| .bE _, .returned _,_,h| .bE _, .outgrown,_,h=>h.elim
theorem L0(hH:ay M φ H w){o:Nat->ab}:∀ (vs:List V) (vals:List Value),(∀id∈de o vs,H.o id=(o id).fz)->V.aB (ao M φ H) φ H w vs vals->V.aB (ao M φ H) φ H w (vs.map (LU o)) vals
 |[],_,_,h=>h
 |v::vs,_,ho,h=>by
  obtain⟨u,us,rfl,h1,h2⟩:=h
  refine⟨u,us,rfl, ?_,L0 hH vs us (fun id aq=>ho id (by simp[de,aq])) h2⟩
  unfold LU
  split
  ·rename_i x hx
   exact eC hH v x u (fun id aq=>ho id (by simp[de,hx,aq])) hx h1
  ·exact h1
theorem gK:∀ (vs:List V) (vals:List Value) (o:Nat->ab),V.aB (ao M φ H) φ H w vs vals->∀id∈de o vs,H.us id
 |[],_,_,_,j,hj=>by simp[de]at hj
 |v::vs,_,o,h,j,hj=>by
  obtain⟨u,us,rfl,h1,h2⟩:=h
  simp only[de,List.mem_append]at hj
  rcases hj with hj|hj
  ·cases hx:dB o v with
   |none=>simp[hx]at hj
   |some x=>simp only[hx]at hj;exact cJ v u h1 j hj
  ·exact gK vs us o h2 j hj
theorem yx(hs:b8 M cA H0 w0 n cx φ s a w){o:Oper}{g:FuncId}{all:List V}{vals:Array Value}(cQ:gJ n o.dst)(fg:Enters P g->(execOp a.eval o).run P w= .ok (.enter g vals) w)(bc:V.aB (ao M φ s.H) φ s.H w all vals.toList)
 (h:cH P g all s.o s.nx (fun v o' nx'=>K ⟨aY s.env o.dst v,o',nx'⟩) (fun v o' nx'=>X v ⟨s.env,o',nx'⟩))
 (hN:∀s' aG a' w',K s'->b8 M cA H0 w0 n cx aG s' a' w'->next a' w')
 (hQ:∀v s' aG w' val,X v s'->b8 M cA H0 w0 n cx aG s' a w'->V.den (ao M aG s'.H) aG s'.H w' v val->Q (.panic [{v:=val,recovered:=false}]) a w'):o.uponIn (dN ro) k P a next Q ((execOp a.eval o).run P w):=by
 have eO:=h.2 M φ w vals hs.heap bc
 rw[fg h.1]
 refine⟨fun hd=>by simp[dN]at hd,cZ (eO.mono fun e w' ⟨aG,o',nx',v,k1,k2,k3⟩=> ?_)⟩
 cases e with
 |returned val=>exact RG
 |panicked ch=>
  obtain⟨val,rfl,k4,k5⟩:=k3
  exact aaG
 |outgrown=>exact k3.elim
theorem Cu(hs:b8 M cA H0 w0 n cx φ s a w){o:Oper}{g:FuncId}{all:List V}{vals:Array Value}(cQ:gJ n o.dst)(fg:Enters P g->(execOp a.eval o).run P w= .ok (.enter g vals) w)(bc:V.aB (ao M φ s.H) φ s.H w all vals.toList)
 (h:vq P s g all (fun v o' nx'=>K ⟨aY s.env o.dst v,o',nx'⟩) (fun v o' nx'=>X v ⟨s.env,o',nx'⟩))
 (hN:∀s' aG a' w',K s'->b8 M cA H0 w0 n cx aG s' a' w'->next a' w')
 (hQ:∀v s' aG w' val,X v s'->b8 M cA H0 w0 n cx aG s' a w'->V.den (ao M aG s'.H) aG s'.H w' v val->Q (.panic [{v:=val,recovered:=false}]) a w'):o.uponIn (dN ro) k P a next Q ((execOp a.eval o).run P w):=by
 unfold vq at h
 obtain⟨f1,f2,f3,f4,f5⟩:=cO hs.heap (V.bg all) (cW all _ bc)
 have fU:s.H.put (bT s.H.o (V.bg all))=⟨put s.o (bT s.o (V.bg all)),s.H.us⟩:=lH Lc
 have nr:=V.aQ f2 _ _ bc
 rcases h with⟨ds,out,eZ,hP,hK⟩|⟨ds,out,eZ,hP,m8,hK⟩|⟨ds,out,eZ,hP,hnm,hK⟩|hC|hC
 ·have yk:=dp f1 all ds _ f3 eZ nr
  have hM:∀b,ao M φ (s.H.put (bT s.H.o (V.bg all))) b->b<w.heap.size:=fun b hb=>hb.elim (f1.BB b) fun hl=>(f1.ours b hl).2
  have eO:=hP.2 _ w vals hM yk
  rw[fg hP.1]
  refine⟨fun hd=>by simp[dN]at hd,cZ (eO.mono fun e w' ⟨hk,ho⟩=> ?_)⟩
  obtain⟨k1,k2⟩:=gr f1 hk
  cases out with
  |ret rs=>
   cases e with
   |returned val=>
    refine hN _ _ _ _ hK (n6 hs k1 (f2.trans k2) (m7 ho) cQ (by rw[fU]) ?_)
    intro id hu;rw[fU]at hu;exact Nat.lt_succ_of_lt hu
   |panicked ch=>exact xn
   |outgrown=>exact xn
  |bE x=>
   cases e with
   |returned val=>exact ho.elim
   |panicked ch=>
    obtain⟨val,rfl,hd⟩:=ho
    have Ac:=eJ hs k1 (f2.trans k2) (o':=put s.o (bT s.o (V.bg all))) (nx':=s.nx+1) (by rw[fU]) (fun id hu=>by rw[fU]at hu;exact Nat.lt_succ_of_lt hu)
    refine hQ _ _ _ _ val hK Ac ?_
    have e1:ao M φ (S.H ⟨s.env,put s.o (bT s.o (V.bg all)),s.nx+1⟩)=ao M φ (s.H.put (bT s.H.o (V.bg all))):=by rw[fU];rfl
    simp only[V.den]
    rw[e1];exact hd
   |outgrown=>exact ho.elim
 ·have yk:=dp f1 all ds _ f3 eZ nr
  have hM:∀b,ao M φ (s.H.put (bT s.H.o (V.bg all))) b->b<w.heap.size:=fun b hb=>hb.elim (f1.BB b) fun hl=>(f1.ours b hl).2
  have eO:=hP.2 _ w vals hM yk
  rw[fg hP.1]
  refine⟨fun hd=>by simp[dN]at hd,cZ (eO.mono fun e w' ⟨hk,ho⟩=> ?_)⟩
  obtain⟨k1,k2⟩:=gr hs.heap hk
  have ho:=R.Ad (B':=ao M φ s.H) m8 ho
  cases out with
  |ret rs=>
   cases e with
   |returned val=>
    exact hN _ _ _ _ hK (n6 hs k1 k2 (m7 ho) cQ rfl fun id hu=>Nat.lt_succ_of_lt hu)
   |panicked ch=>exact xn
   |outgrown=>exact xn
  |bE x=>
   cases e with
   |returned val=>exact ho.elim
   |panicked ch=>
    obtain⟨val,rfl,hd⟩:=ho
    exact hQ _ _ _ _ val hK (eJ hs k1 k2 (o':=s.o) (nx':=s.nx+1) rfl fun id hu=>Nat.lt_succ_of_lt hu) hd
   |outgrown=>exact ho.elim
 ·obtain⟨a1,a2,a3,a4,a5⟩:=cO hs.heap ((V.bg all).filter fun id=>(s.o id).lG) (fun id aq=>cW all _ bc id (List.mem_filter.1 aq).1)
  have Cv:s.H.put (bT s.H.o ((V.bg all).filter fun id=>(s.o id).lG))=⟨put s.o (rW s.o (V.bg all)),s.H.us⟩:=by
   rw[Po]
   exact lH (by rw[ux];exact fun id aq=>cW all _ bc id (List.mem_filter.1 aq).1)
  have yk:=dp f1 all ds _ f3 eZ nr
  have hM:∀b,ao M φ (s.H.put (bT s.H.o (V.bg all))) b->b<w.heap.size:=fun b hb=>hb.elim (f1.BB b) fun hl=>(f1.ours b hl).2
  have eO:=hP.2 _ w vals hM yk
  rw[fg hP.1]
  refine⟨fun hd=>by simp[dN]at hd,cZ (eO.mono fun e w' ⟨hk,ho⟩=> ?_)⟩
  obtain⟨k1,k2⟩:=gr a1 hk
  have kq:∀b,qe w' b-> ¬ao M φ (s.H.put (bT s.H.o (V.bg all))) b-> ¬ao M φ (s.H.put (bT s.H.o ((V.bg all).filter fun id=>(s.o id).lG))) b:=by
   intro b hc hn hm
   rcases hm with hM|⟨id,hl,hb⟩
   ·exact hn (.inl hM)
   ·by_cases aq:id∈V.bg all
    ·cases hx:s.H.o id with
     |arr ep ty sz es=>
      rw[a3 id (List.mem_filter.2 ⟨aq,by show(s.H.o id).lG=true;rw[hx];rfl⟩),hx]at hl
      cases hl
     |map kt vt l=>
      have mW:id∉(V.bg all).filter fun id=>(s.o id).lG:=fun h=>by
       have h2:(s.H.o id).lG=true:=(List.mem_filter.1 h).2
       rw[hx]at h2;cases h2
      have aW:=k1.ok id
      unfold aP at aW
      rw[a4 id mW,hx]at aW
      obtain⟨b',es,clock,g1,g2,_⟩:=aW
      rw[g1]at hb
      injection hb with hb
      subst hb
      obtain⟨cs,ty,fz,hc⟩:=hc
      rw[g2]at hc
      cases hc
     |_=>
      have mW:id∉(V.bg all).filter fun id=>(s.o id).lG:=fun h=>by
       have h2:(s.H.o id).lG=true:=(List.mem_filter.1 h).2
       rw[hx]at h2;cases h2
      refine hn (.inr ⟨id, ?_,hb⟩)
      rw[a4 id mW,hx]at hl
      rw[f3 id aq,hx]
      exact hl
    ·have mW:id∉(V.bg all).filter fun id=>(s.o id).lG:=fun h=>aq (List.mem_filter.1 h).1
     refine hn (.inr ⟨id, ?_,hb⟩)
     rw[a4 id mW]at hl
     rw[f4 id aq]
     exact hl
  have ho:=R.LZ (w':=w') (B':=ao M φ (s.H.put (bT s.H.o ((V.bg all).filter fun id=>(s.o id).lG)))) kq hnm ho
  cases out with
  |ret rs=>
   cases e with
   |returned val=>
    refine hN _ _ _ _ hK (n6 hs k1 (a2.trans k2) (m7 ho) cQ (by rw[Cv]) ?_)
    intro id hu;rw[Cv]at hu;exact Nat.lt_succ_of_lt hu
   |panicked ch=>exact xn
   |outgrown=>exact xn
  |bE x=>
   cases e with
   |returned val=>exact ho.elim
   |panicked ch=>
    obtain⟨val,rfl,hd⟩:=ho
    have Ac:=eJ hs k1 (a2.trans k2) (o':=put s.o (rW s.o (V.bg all))) (nx':=s.nx+1) (by rw[Cv]) (fun id hu=>by rw[Cv]at hu;exact Nat.lt_succ_of_lt hu)
    refine hQ _ _ _ _ val hK Ac ?_
    have e1:ao M φ (S.H ⟨s.env,put s.o (rW s.o (V.bg all)),s.nx+1⟩)=ao M φ (s.H.put (bT s.H.o ((V.bg all).filter fun id=>(s.o id).lG))):=by rw[Cv];rfl
    simp only[V.den]
    rw[e1];exact hd
   |outgrown=>exact ho.elim
 ·exact yx hs cQ fg bc hC hN hQ
 ·obtain⟨f1,f2,f3,f4,f5⟩:=cO hs.heap (de s.o all) (gK all _ s.o bc)
  have fU:s.H.put (bT s.H.o (de s.o all))=hp (put s.o (bT s.o (de s.o all))) s.nx:=lH (by rw[ux];exact gK all _ s.o bc)
  have nr:=L0 f1 all _ f3 (V.aQ f2 _ _ bc)
  rw[fU]at f1 f2 nr
  exact yx (s:=⟨s.env,put s.o (bT s.o (de s.o all)),s.nx⟩) (eJ hs f1 f2 rfl fun id hu=>hu) cQ fg nr hC hN hQ
theorem Pp(hs:b8 M cA H0 w0 n cx φ s a w){o:Oper}{c:Call}{f:Operand}(gW:o.op= .call c)(hc:c.callee= .value f)(cQ:gJ n o.dst)
 (h:Cs P s (s.ev f) (c.args.toList.map s.ev) (fun v o' nx'=>K ⟨aY s.env o.dst v,o',nx'⟩) (fun v o' nx'=>X v ⟨s.env,o',nx'⟩))
 (hN:∀s' aG a' w',K s'->b8 M cA H0 w0 n cx aG s' a' w'->next a' w')
 (hQ:∀v s' aG w' val,X v s'->b8 M cA H0 w0 n cx aG s' a w'->V.den (ao M aG s'.H) aG s'.H w' v val->Q (.panic [{v:=val,recovered:=false}]) a w'):o.wpIn (dN ro) k P a w next Q:=by
 refine kK (fun c' s8=>by rw[gW]at s8;cases s8) ?_
 have hf:=ng (M:=M) (φ:=φ) (H:=s.H) (w:=w) s a hs.env f
 have dP:=kF (M:=M) (φ:=φ) (H:=s.H) (w:=w) s a hs.env c.args.toList
 unfold Cs at h
 split at h
 ·rename_i g first cap xo
  rw[xo]at hf
  obtain⟨fa,ca,Vr,GF,hca⟩:=hf
  have bc:V.aB (ao M φ s.H) φ s.H w (first++c.args.toList.map s.ev++cap) (fa++c.args.map a.eval++ca).toList:=by
   exact RT
  generalize first++c.args.toList.map s.ev++cap=all at h bc
  generalize jK:fa++c.args.map a.eval++ca=vals at bc
  have fg:Enters P g->(execOp a.eval o).run P w= .ok (.enter g vals) w:=by
   intro he
   have:=lI (w:=w) he (fa++c.args.map a.eval++ca)
   rw[jK]at this
   simp[execOp,gW,resolve,hc,Vr,Deferred.ofValue,invoke,this,jK]
  exact Cu hs cQ fg bc h hN hQ
 ·rename_i id xo
  rw[xo]at hf
  obtain⟨_,ed,hp'⟩:=hf
  obtain⟨bG,hR⟩:=h
  obtain⟨b,eu,Vr⟩:=hp' bG
  obtain⟨fn,tmps,assign,body,h1,h2⟩:=hR M φ w (c.args.map a.eval) b hs.heap (by rw[Array.toList_map];exact dP) eu
  have fg:(execOp a.eval o).run P w= .ok (.round b fn tmps assign body) w:=by
   simp[execOp,gW,resolve,hc,Vr,Deferred.ofValue,invoke,h1]
  rw[fg]
  refine⟨fun hd=>by simp[dN]at hd,RoundIn.mono (h2 (k - 1)) fun e w' ⟨aG,o',nx',v,k1,k2,k3⟩=> ?_⟩
  cases e with
  |returned val=>exact RG
  |panicked ch=>
   obtain⟨val,rfl,k4,k5⟩:=k3
   exact aaG
  |outgrown=>exact k3.elim
 ·exact h.elim
theorem Ja(hs:b8 M cA H0 w0 n cx φ s a w){o:Oper}{c:Call}{r:Operand}{m:String}{g:FuncId}{y:V}(gW:o.op= .call c)(hc:c.callee= .invoke r m)(cQ:gJ n o.dst)(hr:vr P m (s.ev r)=some (g,y))
 (h:vq P s g (y::c.args.toList.map s.ev) (fun v o' nx'=>K ⟨aY s.env o.dst v,o',nx'⟩) (fun v o' nx'=>X v ⟨s.env,o',nx'⟩))
 (hN:∀s' aG a' w',K s'->b8 M cA H0 w0 n cx aG s' a' w'->next a' w')
 (hQ:∀v s' aG w' val,X v s'->b8 M cA H0 w0 n cx aG s' a w'->V.den (ao M aG s'.H) aG s'.H w' v val->Q (.panic [{v:=val,recovered:=false}]) a w'):o.wpIn (dN ro) k P a w next Q:=by
 refine kK (fun c' s8=>by rw[gW]at s8;cases s8) ?_
 have hf:=ng (M:=M) (φ:=φ) (H:=s.H) (w:=w) s a hs.env r
 have dP:=kF (M:=M) (φ:=φ) (H:=s.H) (w:=w) s a hs.env c.args.toList
 unfold vr at hr
 split at hr
 ·rename_i t d hx
  rw[hx]at hf
  obtain⟨val,hv,hd⟩:=hf
  split at hr
  ·rename_i ti hti
   split at hr
   ·rename_i mr uF
    split at hr
    ·rename_i f Kz
     split at hr
     ·rename_i Sn
      injection hr with hr
      injection hr with h1 h2
      subst h1;subst h2
      refine Cu (vals:=#[val]++c.args.map a.eval) hs cQ ?_ ?_ h hN hQ
      ·intro he
       have fg:=lI (w:=w) he (#[val]++c.args.map a.eval)
       have hpa:mr.path=#[]:=Array.isEmpty_iff.1 Sn.1
       have hu:∃u,P.underlying t=some u/\∀e,u≠ .pointer e:=by
        have:=Sn.2
        unfold Sm at this
        split at this
        ·cases this
        ·rename_i u ik hu;exact⟨u,hu,fun e he=>ik e he⟩
        ·cases this
       obtain⟨u,hu,Sq⟩:=hu
       have hm:(method (P.types.size+Made.depth) t val m).run P w= .ok (f,val) w:=by
        have:P.types.size+Made.depth=(P.types.size+Made.depth - 1)+1:=by simp[Made.depth]
        rw[this]
        cases u<;>first|exact absurd rfl (Sq _)|simp[method,typeInfo,hti,uF,hpa,Kz,follow,receiverAt,run_underlying hu,_root_.Go.Place.get]
       have h0:(#[Value.iface t val]++Array.map a.eval c.args)[0]? =some (.iface t val):=by
        rw[Array.getElem?_append_left (by simp)];rfl
       have h1:(Array.map a.eval c.args).extract 0 c.args.size=Array.map a.eval c.args:=by
        rw[show c.args.size=(Array.map a.eval c.args).size from by simp,Array.extract_size]
       simp[execOp,gW,resolve,hc,invoke,callMethod,hv,h0,h1,hm,fg]
      ·simp only[Array.toList_append,Array.toList_map]
       exact⟨val,_,rfl,hd,dP⟩
     ·cases hr
    ·cases hr
   ·cases hr
  ·cases hr
 ·cases hr
theorem yy(hs:b8 M cA H0 w0 n cx φ s a w){o:Oper}(h:opW P n s o X K)
 (hN:∀s' aG a' w',K s'->b8 M cA H0 w0 n cx aG s' a' w'->next a' w')
 (hQ:∀v s' aG w' val,X v s'->b8 M cA H0 w0 n cx aG s' a w'->V.den (ao M aG s'.H) aG s'.H w' v val->Q (.panic [{v:=val,recovered:=false}]) a w'):o.wpIn (dN ro) k P a w next Q:=by
 obtain⟨cQ,h⟩:=h
 split at h
 ·rename_i c gW
  split at h
  ·rename_i f hc
   exact Pp hs gW hc cQ h hN hQ
  ·rename_i r m hc
   split at h
   ·rename_i g y hr;exact Ja hs gW hc cQ hr h hN hQ
   ·exact h.elim
  ·exact LY hs rfl cQ h hN
 ·rename_i x gW
  have hx:=ng (M:=M) (φ:=φ) (H:=s.H) (w:=w) s a hs.env x
  have bE:∀ (t:TypeId) (u:Value),a.eval x= .iface t u->Q (.panic [{v:= .iface t u,recovered:=false}]) a w->o.wpIn (dN ro) k P a w next Q:=by
   intro t u hu hq
   refine kK (fun c hc=>by rw[gW]at hc;cases hc) ?_
   have hr:(execOp a.eval o).run P w= .halt (.panic (.iface t u)) w:=by simp[execOp,gW,hu,Instr.panic]
   rw[hr];exact hq
  split at h
  ·rename_i t y hv
   rw[hv]at hx
   obtain⟨u,hu,hd⟩:=hx
   exact RI
  ·rename_i t y hv
   rw[hv]at hx
   obtain⟨u,hu,hd⟩:=hx
   exact RI
  ·exact h.elim
 ·exact LY hs rfl cQ h hN
end
end
end Go.Proofs.YtnkamdiiakdkgaaGreat
namespace Go
def Code.ub (P:Program)(ro:Option Nat)(c:Code)(Q:Exit->Act->World->Prop)(a:Act)(w:World):Prop:=
 ∀ (b:Frame) (k:List Item) (cs:List Frame),b.roundOf=ro->b.fn<P.funcs.size->
   ∃e a' w',Q e a' w'/\ArrivesIn (Machine.fenced P (Proofs.YtnkamdiiakdkgaaGreat.dN ro)) P (lone (b.atR a (.code c::k)) cs w) b k cs e a' w'
end Go
namespace Go.Proofs.YtnkamdiiakdkgaaGreat
instance:LawfulMonad Sem:=LawfulMonad.mk' Sem (id_map:=fun x=>Sem.bind_pure' x) (pure_bind:=fun _ _=>rfl) (bind_assoc:=fun x f g=>Sem.bind_assoc' x f g)
section
variable {P:Program}{M:Nat->Prop}{φ:Place}{H:Hp}{w w':World}{cA:Place}{H0:Hp}{w0:World}{n b:Nat}{s:S}{a:Act}{cx:Cx}{ro:Option Nat}{k:Nat}
theorem qB(hs:b8 M cA H0 w0 n cx φ s a w){ops:Array Oper}{o:Oper}{A B:Prop}(h:Aa s ops o.guard A B):
 (Region.wanted o (yielded ops a.tmps)=true->A)/\(Region.wanted o (yielded ops a.tmps)=false->B):=by
 unfold Aa at h
 unfold Region.wanted
 split at h
 ·rename_i hg;simp only[hg];exact⟨fun _=>h,fun h=>by cases h⟩
 ·rename_i j want hg
  simp only[hg]
  unfold s9 at h
  unfold yielded
  split at h
  ·rename_i d hd
   simp only[hd,Option.bind_some]
   have ef:=hs.env d
   split at h
   ·rename_i c hv
    rw[hv]at ef
    simp only[V.den,D.den]at ef
    have:a.tmps[d]? =some (.bool c):=by
     rw[Array.getD_eq_getD_getElem?]at ef
     cases hx:a.tmps[d]? with
     |none=>rw[hx]at ef;simp[undef]at ef
     |some x=>rw[hx]at ef;simp at ef;rw[ef]
    simp only[this]
    by_cases hc:c=want
    ·subst hc;exact⟨fun _=>h.1 rfl,fun h=>by simp at h⟩
    ·exact⟨fun h'=>absurd (by simpa using h') hc,fun _=>h.2 hc⟩
   ·rename_i hv
    rw[hv]at ef
    obtain⟨arr,dg,hn⟩:=ef
    simp only[V.aB]at hn
    have:∀c,a.tmps[d]? ≠some (.bool c):=by
     exact Se
    cases hx:a.tmps[d]? with
    |none=>exact⟨fun h=>by simp at h,fun _=>h⟩
    |some x=>cases x<;>first|(exact absurd hx (this _))|(exact⟨fun h=>by simp at h,fun _=>h⟩)
   ·exact h.elim
  ·rename_i hd
   simp only[hd,Option.bind_none]
   exact⟨fun h=>by simp at h,fun _=>h⟩
theorem Cw(hs:b8 M cA H0 w0 n cx φ s a w){dst:Option Tmp}(cQ:gJ n dst):b8 M cA H0 w0 n cx φ ⟨aY s.env dst (.bW []),s.o,s.nx+1⟩ (a.put dst undef) w:=
 n6 (v:= .bW []) (val:=undef) hs hs.heap (Trans.refl _ _ _) ⟨#[],rfl,rfl⟩ cQ rfl fun _ hu=>Nat.lt_succ_of_lt hu
theorem pv{ops:Array Oper}{X:V->S->Prop}{K:S->Prop}{Q:Exit->Act->World->Prop}
 (hK:∀s φ a w,K s->b8 M cA H0 w0 n cx φ s a w->Q .normal a w)
 (hQ:∀v s' aG a w' val,X v s'->b8 M cA H0 w0 n cx aG s' a w'->V.den (ao M aG s'.H) aG s'.H w' v val->Q (.panic [{v:=val,recovered:=false}]) a w'):
 ∀ (l:List Oper) (s:S) (φ:Place) (a:Act) (w:World),Ab P n ops X K l s->b8 M cA H0 w0 n cx φ s a w->wpListIn (dN ro) k P ops Q l a w
 |[],s,φ,a,w,h,hs=>hK s φ a w h hs
 |o::l,s,φ,a,w,h,hs=>by
  obtain⟨h1,h2⟩:=qB hs h
  unfold wpListIn
  split
  ·rename_i hw
   exact yy hs (h1 hw) (fun s' aG a' w' hk jr=>pv hK hQ l s' aG a' w' hk jr) (fun v s' aG w' val hx jr hd=>hQ v s' aG a w' val hx jr hd)
  ·rename_i hw
   obtain⟨cQ,h3⟩:=h2 (by simpa using hw)
   exact⟨fun _ _=>trivial,pv hK hQ l _ _ _ _ h3 (Cw hs cQ)⟩
def GX(M:Nat->Prop)(cA:Place)(H0:Hp)(w0:World)(n:Nat)(cx:Cx)(Q:fG->S->Prop)(e:Exit)(a:Act)(w:World):Prop:=
 ∃x s φ,Q x s/\b8 M cA H0 w0 n cx φ s a w/\match e,x with
  | .normal, .normal=>True
  | .exit i, .exit j=>i=j
  | .ret, .ret=>True
  | .panic ch, .bE v=>∃val,ch=[{v:=val,recovered:=false}]/\V.den (ao M φ s.H) φ s.H w v val
  |_,_=>False
section
variable {Q:Exit->Act->World->Prop}
theorem gL{m:Nat}:(dN ro).room m:=fun d hd=>by simp[dN]at hd
theorem pw{c:Code}(h:c.wpIn (dN ro) k P Q a w):c.ub P ro Q a w:=fun b k cs uF _=>h b k cs uF trivial gL
theorem gM{c:Code}{Q':Exit->Act->World->Prop}(h:c.ub P ro Q a w)(hq:∀e a w,Q e a w->Q' e a w):c.ub P ro Q' a w:=
 fun b k cs uF hb=>let⟨e,a',w',q,r⟩:=h b k cs uF hb;⟨e,a',w',hq _ _ _ q,r⟩
theorem GY(h:Q .ret a w):Code.ret.ub P ro Q a w:=pw (k:=0) (wpIn_ret h)
theorem Cy{id:Nat}(h:Q (.exit id) a w):(Code.exit id).ub P ro Q a w:=pw (k:=0) (wpIn_exit h)
theorem Ae{x y:Code}(h:x.ub P ro (Exit.then (y.ub P ro Q) Q) a w):(Code.seq x y).ub P ro Q a w:=by
 intro b k cs uF hb
 have h0:(lone (b.atR a (.code (.seq x y)::k)) cs w).fenced P (dN ro):=fenced_calm (n:=0) trivial gL rfl
 obtain⟨e,oD,jH,hq,dg⟩:=h b (.code y::k) cs uF hb
 cases e with
 |normal=>
  obtain⟨Vs,abC,sj,qC,kL⟩:=hq b k cs uF hb
  exact⟨Vs,abC,sj,qC, .of_steps (.head h0 stepR_seq dg) kL⟩
 |exit id=>exact KU
 |goto l=>exact KU
 |ret=>exact KU
 |panic ch=>exact KU
 |outgrown=>exact KU
theorem qD{c:Operand}{x y:Code}{t:Bool}(hc:a.eval c= .bool t)(h:(if t then x else y).ub P ro Q a w):(Code.cond c x y).ub P ro Q a w:=
 fun b k cs uF hb=>let⟨e,a',w',q,r⟩:=h b k cs uF hb;⟨e,a',w',q, .of_steps (.one (fenced_calm (n:=0) trivial gL rfl) (stepR_cond hc)) r⟩
theorem Jb{id:Nat}{c:Code}(h:c.ub P ro (Exit.inBlock id Q) a w):(Code.block id c).ub P ro Q a w:=by
 intro b k cs uF hb
 have h0:(lone (b.atR a (.code (.block id c)::k)) cs w).fenced P (dN ro):=fenced_calm (n:=0) trivial gL rfl
 obtain⟨e,oD,jH,hq,dg⟩:=h b (.inBlock id::k) cs uF hb
 cases e with
 |normal=>exact⟨.normal,oD,jH,hq, .head h0 stepR_block (StepsIn.trans dg (.one (fenced_calm (n:=0) trivial gL rfl) stepR_inBlock))⟩
 |exit EC=>
  by_cases aq:EC=id
  ·simp only[Exit.inBlock,aq,if_true]at hq
   exact⟨.normal,oD,jH,hq, .head h0 stepR_block (dg.1 k (by simp[exitTo,aq]))⟩
  ·simp only[Exit.inBlock,aq,if_false]at hq
   have this:(id==EC)=false:=by simp;exact fun h=>aq h.symm
   have hx:exitTo EC (.inBlock id::k)=exitTo EC k:=by simp[exitTo,this]
   exact⟨.exit EC,oD,jH,hq,fun k' hk=> .head h0 stepR_block (dg.1 k' x6),
    fun xB hk=>let⟨k₁,h1,h2⟩:=dg.2 xB x6;⟨k₁,h1, .head h0 stepR_block h2⟩⟩
 |goto l=>
  have hx:gotoIn l (.inBlock id::k)=gotoIn l k:=by simp[gotoIn]
  exact⟨_,oD,jH,hq,fun k' hk=> .head h0 stepR_block (dg.1 k' x6),
   fun xB hk=>let⟨k₁,h1,h2⟩:=dg.2 xB x6;⟨k₁,h1, .head h0 stepR_block h2⟩⟩
 |ret=>exact UL
 |panic ch=>exact UL
 |outgrown=>exact UL
theorem kA{b:Frame}{k:List Item}{cs:List Frame}{c:Code}:step P (lone (b.atR a (.code (.scope c)::k)) cs w)= .next (lone (b.atR a (.code c:: .inScope c::k)) cs w):=
 step_lone_go (by simp[stepG,stepG.exec,Frame.atR])
theorem xC{b:Frame}{k:List Item}{cs:List Frame}{c:Code}:step P (lone (b.atR a (.inScope c::k)) cs w)= .next (lone (b.atR a k) cs w):=
 step_lone_go (by simp[stepG,stepG.exec,Frame.atR])
theorem yz{c:Code}(h:c.ub P ro Q a w)(hg:∀l a w, ¬Q (.goto l) a w):(Code.scope c).ub P ro Q a w:=by
 intro b k cs uF hb
 have h0:(lone (b.atR a (.code (.scope c)::k)) cs w).fenced P (dN ro):=fenced_calm (n:=0) trivial gL rfl
 obtain⟨e,oD,jH,hq,dg⟩:=h b (.inScope c::k) cs uF hb
 cases e with
 |normal=>exact⟨.normal,oD,jH,hq, .head h0 kA (StepsIn.trans dg (.one (fenced_calm (n:=0) trivial gL rfl) xC))⟩
 |exit EC=>
  have hx:exitTo EC (.inScope c::k)=exitTo EC k:=by simp[exitTo]
  exact⟨.exit EC,oD,jH,hq,fun k' hk=> .head h0 kA (dg.1 k' x6),
   fun xB hk=>let⟨k₁,h1,h2⟩:=dg.2 xB x6;⟨k₁,h1, .head h0 kA h2⟩⟩
 |goto l=>exact(hg _ _ _ hq).elim
 |ret=>exact UM
 |panic ch=>exact UM
 |outgrown=>exact UM
def vx(P:Program)(l:Nat)(Q:Exit->Act->World->Prop)(a':Act):Ending->World->Prop
 | .returned _,Fa=>∃jump uc,(Instr.endLoop l).run P Fa= .ok jump uc/\(match jump with|none=>Q .normal a' uc|some c=>c.ub P none Q a' uc)
 | .panicked chain,Fa=>Q (.panic chain) a' Fa
 | .outgrown,_=>LetsOut Q
theorem xD{g:Operand}{ps:Array Tmp}{assign body:Code}
 (h:∀fn,fn<P.funcs.size->∃ (l:Nat) (mark:List Deferred) (jH:World) (d:Deferred) (yA:World) (f:FuncId) (args:Array Value) (sj:World),
  (Instr.enterLoop fn a.tmps ps assign body (dN none).round).run P w= .ok (l,mark) jH/\(resolve a.eval (rangeCall g l) 0).run P jH= .ok d yA/\
  (invoke d.target d.args).run P yA= .ok (.enter f args) sj/\CallsIn (dN none) 0 P f args sj (vx P l Q {a with defers:=mark++a.defers})):
 (Code.rangeFunc g ps assign body).ub P none Q a w:=by
 intro b k cs uF hb
 obtain⟨l,mark,jH,d,yA,f,args,sj,he,Af,hinv,hF,eO⟩:=h b.fn hb
 rw[show(dN none).round=b.roundOf from uF.symm]at he
 have calm:∀ (m:Machine),m.fenced P (dN none)↔m.fenced P Fence.wide:=fun m=>Iff.rfl
 have h0:(lone (b.atR a (.code (.rangeFunc g ps assign body)::k)) cs w).fenced P (dN none):=(calm _).2 (fenced_wide P _)
 have mh:=stepR_rangeFunc (P:=P) (b:=b) (a:=a) (k:=k) (cs:=cs) (w:=w) he Af hinv
 obtain⟨e,Fa,fr,hR,Fb,Kz,L1⟩:=eO (b.atR {a with defers:=mark++a.defers} (.inRangeFunc l::k)::cs) gL
 cases e with
 |outgrown=>
  obtain⟨afg,afh,hq⟩:=hR
  exact⟨.outgrown,afg,afh,hq, .inr (Outgrown.of_steps (.one mh) Fb)⟩
 |returned v=>
  obtain⟨jump,uc,cL,hj⟩:=hR
  have Sr:StepsIn (Machine.fenced P (dN none)) P (lone (b.atR a (.code (.rangeFunc g ps assign body)::k)) cs w) (lone (b.atR {a with defers:=mark++a.defers} ((jump.map Item.code).toList++k)) cs uc):=by
   refine .head h0 mh (StepsIn.trans Fb (.head ((calm _).2 (fenced_wide P _)) ?_ (.one ((calm _).2 (fenced_wide P _)) (stepR_endRangeFunc cL))))
   rw[<- finish_atR_inRangeFunc l v];exact step_leave_returned L1
  cases jump with
  |none=>exact⟨.normal,_,uc,hj,Sr⟩
  |some c=>
   obtain⟨e',a'',afi,hq,dg⟩:=hj b k cs uF hb
   exact⟨e',a'',afi,hq, .of_steps Sr dg⟩
 |panicked chain=>
  refine⟨.panic chain,_,Fa,hR, .inRangeFunc l::k, .head h0 mh (StepsIn.trans Fb (.one ((calm _).2 (fenced_wide P _)) ?_))⟩
  rw[<- Frame.raise_atR];exact step_leave_panicked L1
end
theorem yB(hH:ay M φ H w){id l:Nat}(ed:H.us id){nf m:Nat}{env:List V}{ps:List Nat}{iZ eI:IC}{st st':LoopState}{pd pd':Option kj}(ho:H.o id= .loop nf m env ps iZ eI st pd)(eu:φ id= .pointer (some ⟨l,0,none⟩)):
 ∃r,w.heap[l]? =some (.loop r)/\r.state=st/\r.pending=pd.map kj.code/\
  ay M φ (H.put [(id, .loop nf m env ps iZ eI st' pd')]) {w with heap:=w.heap.setIfInBounds l (.loop {r with state:=st',pending:=pd'.map kj.code})}/\
  Trans φ H w φ (H.put [(id, .loop nf m env ps iZ eI st' pd')]) {w with heap:=w.heap.setIfInBounds l (.loop {r with state:=st',pending:=pd'.map kj.code})}:=by
 have aW:=hH.ok id
 simp only[aP,ho]at aW
 obtain⟨b,r,h1,h2,h0,h3,h4,h5,h6,h7,h8,h9⟩:=aW
 rw[eu]at h1;simp at h1;subst h1
 refine⟨r,h2,h3,h4, ?_⟩
 have LQ:dM (· =l) w {w with heap:=w.heap.setIfInBounds l (.loop {r with state:=st',pending:=pd'.map kj.code})}:=
  ⟨rfl,rfl,rfl,aI,fun j _ hj=>(MapKept.heap_set h2).2 j hj⟩
 have vl:(H.o id).live=true:=by rw[ho];rfl
 have E6:dx (φ id)=some l:=by rw[eu];rfl
 have ht:=eM (w:=w) (w':={w with heap:=w.heap.setIfInBounds l (.loop {r with state:=st',pending:=pd'.map kj.code})}) ed vl E6 LQ (.loop nf m env ps iZ eI st' pd') eH eH
 refine⟨ig hH ed vl E6 LQ _ eH eH ?_,ht⟩
 unfold aP
 simp only[bD,aK,if_true]
 exact⟨l,_,eu,(MapKept.heap_set h2).1,h0,rfl,rfl,h5,h6,h7,h8,fun i=>V.aO ht _ _ (h9 i)⟩
theorem jc{l:Nat}{r:Loop}(o:Obj)(hb:w.heap[l]? =some (.loop r)):(setObj l o).run P w= .ok () {w with heap:=w.heap.setIfInBounds l o}:=by
 simp[setObj,Sem.run,hb]
theorem kM{l:Nat}{r:Loop}(hb:w.heap[l]? =some (.loop r)):(Instr.getLoop l).run P w= .ok r w:=by
 simp[Instr.getLoop,getObj,Sem.run,hb,Result.andThen]
end
def px(Q:fG->S->Prop)(pd:Option kj)(s:S):Prop:=
 match pd with
 |none=>Q .normal s
 |some .ret=>Q .ret s
 |some (.exit id)=>Q (.exit id) s
def Cz(P:Program)(n:Nat)(g:V)(ps:List Nat)(iZ eI:IC)(Q:fG->S->Prop)(s:S):Prop:=
 ∃env,(∀i,aU env i= .aa\/aU env i=s.env i)/\
  match g with
  | .func (.func f) first cap=>oN P f (first++[.ju s.nx]++cap) (ax s.o s.nx (.loop P.funcs.size n env ps iZ eI .ready none)) (s.nx+1)
    (fun _ o' nx'=>∃nf m e p c d st pd,o' s.nx= .loop nf m e p c d st pd/\st≠ .busy/\px Q pd ⟨s.env,ax o' s.nx (.loop nf m e p c d .exhausted pd),nx'⟩)
    (fun v o' nx'=>Q (.bE v) ⟨s.env,o',nx'⟩)
  |_=>False
def abD(P:Program)(n b:Nat)(g:Operand)(ps:List Nat)(iZ eI:IC)(Q:fG->S->Prop)(s:S):Prop:=∃s',(s'=s\/bt b s s')/\Cz P n (s'.ev g) ps iZ eI Q s'
def jn(P:Program)(n b:Nat)(rd:Bool):Code->(fG->S->Prop)->S->Prop
 | .skip,Q,s=>Q .normal s
 | .label _,Q,s=>Q .normal s
 | .scope x,Q,s=>jn P n b rd x Q s
 | .region _ ops false,Q,s=>Ab P n ops (fun v s=>Q (.bE v) s) (Q .normal) ops.toList s
 | .region id ops true,Q,s=>∀M cA H0 w0 cx φ a w ro k,b8 M cA H0 w0 n cx φ s a w->(Code.region id ops true).wpIn (dN ro) k P (GX M cA H0 w0 n cx Q) a w
 | .seq x y,Q,s=>jn P n b rd x (qA (jn P n b rd y Q) Q) s
 | .cond c x y,Q,s=>match s.ev c with
   | .d (.bool t)=>(t=true->jn P n b rd x Q s)/\(t=false->jn P n b rd y Q s)
   | .ft=>jn P n b rd x Q s/\jn P n b rd y Q s
   |_=>False
 | .block id x,Q,s=>jn P n b rd x (fw id Q) s
 | .loop x,Q,s=>∃ (J:Nat->S->Prop),(∃m s1,bt b s s1/\J m s1)/\∀m s0,J m s0->jn P n b rd x (fun e s=>match e with| .normal=>∃m' s1,m'<m/\bt b s s1/\J m' s1|e=>Q e s) s0
 | .exit id,Q,s=>Q (.exit id) s
 | .ret,Q,s=>Q .ret s
 | .rangeFunc g ps x y,Q,s=>rd=false/\abD P n b g ps.toList (low n x) (low n y) Q s
 |_,_,_=>False
section
variable {P:Program}{M:Nat->Prop}{φ:Place}{H:Hp}{w w':World}{cA:Place}{H0:Hp}{w0:World}{n b:Nat}{s:S}{a:Act}{cx:Cx}{ro:Option Nat}{k:Nat}
theorem Fc(hb:∀id,H0.us id->id<b)(hs:b8 M cA H0 w0 n cx φ s a w){s':S}(h:bt b s s'):∃aG,b8 M cA H0 w0 n cx aG s' a w:=by
 obtain⟨aG,h1,h2,h3,h4,h5,h6⟩:=h M φ w (fun i=>a.tmps.getD i undef) hs.heap hs.env
 refine⟨aG,h1,⟨hs.tr.keep,fun k hk=>hs.tr.grow k (h3 k hk),⟨fun id hu=>Nat.lt_of_lt_of_le (hb id hu) h4,fun id hu hr=> ?_,fun id e' hu he=> ?_⟩⟩,hs.size, ?_,h2⟩
 ·obtain⟨g1,g2⟩:=h5 id (hb id hu) hr
  obtain⟨g3,g4⟩:=hs.tr.rel.row id hu g1
  exact⟨g3,g2.trans g4⟩
 ·obtain⟨e,g1,g2,g3⟩:=h6 id e' (hb id hu) he
  obtain⟨e0,k1,k2,k3⟩:=hs.tr.rel.ep id e hu g1
  refine⟨e0,k1,Nat.le_trans k2 g2,fun heq=> ?_⟩
  have a1:e0=e:=ag
  have a2:e=e':=ag
  exact(g3 a2).trans (k3 a1)
 ·obtain⟨ms,g1,g2,g3,g4⟩:=hs.defers
  exact⟨ms,g1,g2,g3,fun r hr=>⟨(g4 r hr).1,(g4 r hr).2.1,fun hl=>(g4 r hr).2.2 (h3 r hl)⟩⟩
theorem Ag{c:Code}{Q:Exit->Act->World->Prop}(J:Nat->Act->World->Prop)(round:∀m a w,J m a w->c.ub P ro (Exit.then (fun a' w'=>∃m',m'<m/\J m' a' w') Q) a w):
 ∀m a w,J m a w->(Code.loop c).ub P ro Q a w:=by
 intro m a w h0 fr kk cs uF hb
 have hr:(dN ro).room (cs.length+1+0):=fun d hd=>by simp[dN]at hd
 have key:∀m a w,J m a w->∃e a' w',Q e a' w'/\ArrivesIn (Machine.fenced P (dN ro)) P (lone (fr.atR a (.code c:: .inLoop c::kk)) cs w) fr kk cs e a' w':=by
  intro m
  induction m using Nat.strongRecOn with
  |_ m ih=>
   intro a w hJ
   obtain⟨e,a1,w1,hq,dg⟩:=round m a w hJ fr (.inLoop c::kk) cs uF hb
   cases e with
   |normal=>
    obtain⟨m',cG,hJ'⟩:=hq
    obtain⟨e2,a2,w2,Y0,GZ⟩:=ih m' cG a1 w1 hJ'
    exact⟨e2,a2,w2,Y0, .of_steps (StepsIn.trans dg (.one (fenced_calm trivial hr rfl) stepR_inLoop)) GZ⟩
   |_=>exact⟨_,a1,w1,hq, .pass (x:= .inLoop c) rfl (fun _ _=> .inl aI) dg⟩
 obtain⟨e,a',w',hq,dg⟩:=key m a w h0
 exact⟨e,a',w',hq, .of_steps (.one (fenced_calm trivial hr rfl) stepR_loop) dg⟩
theorem yD(hs:b8 M cA H0 w0 n cx φ s a w)(m5:cx.rd=false)(uF:ro=none){g:Operand}{ps:Array Tmp}{x y:Code}{Q:fG->S->Prop}(h:Cz P n (s.ev g) ps.toList (low n x) (low n y) Q s):
 (Code.rangeFunc g ps x y).ub P ro (GX M cA H0 w0 n cx Q) a w:=by
 subst uF
 obtain⟨env,ef,h⟩:=h
 refine xD fun fn Kz=> ?_
 let Fe:Loop:={state:= .ready,pending:=none,fn:=fn,tmps:=a.tmps,params:=ps,assign:=x,body:=y,defers:=w.heap.size}
 let w1:World:=(w.alloc (.deferred (some []))).alloc (.loop Fe)
 let l:Nat:=w.heap.size+1
 have mh:(Instr.enterLoop fn a.tmps ps x y (dN none).round).run P w= .ok (l,[mark w.heap.size]) w1:=by
  simp[Instr.enterLoop,dN,mark,w1,l,Fe]
 have hk1:dM (fun _=>False) w w1:=by
  have k1:=cC w (.deferred (some []))
  have k2:=cC (w.alloc (.deferred (some []))) (.loop Fe)
  exact⟨k2.os.trans k1.os,k2.tape.trans k1.tape,k2.output.trans k1.output,Nat.le_trans k1.size k2.size,fun j hj hm=>(k2.block j (Nat.lt_of_lt_of_le hj k1.size) hm).trans (k1.block j hj hm)⟩
 let iW:=ax φ s.nx (.pointer (some ⟨l,0,none⟩))
 let s1:S:=⟨s.env,ax s.o s.nx (.loop P.funcs.size n env ps.toList (low n x) (low n y) .ready none),s.nx+1⟩
 have cP: ¬s.H.us s.nx:=by simp[S.H]
 have eY:∀b,dx (.pointer (some ⟨l,0,none⟩))=some b->w.heap.size<=b/\b<w1.heap.size:=by
  intro b hb;simp[dx]at hb;subst hb;simp[l,w1]
 have BD:=ew (φ:=φ) (H:=s.H) hk1 cP (.loop P.funcs.size n env ps.toList (low n x) (low n y) .ready none) (.pointer (some ⟨l,0,none⟩)) fun b hb=>(eY b hb).1
 have Pc:(w.alloc (.deferred (some []))).heap.size=w.heap.size+1:=aI
 have vl:w1.heap[l]? =some (.loop Fe):=by
  have:=heap_alloc_new (w.alloc (.deferred (some []))) (.loop Fe)
  rwa [Pc]at this
 have IE:=iJ hs.heap hk1 cP (.loop P.funcs.size n env ps.toList (low n x) (low n y) .ready none) (.pointer (some ⟨l,0,none⟩)) eY (by
  unfold aP
  simp only[bD,aK,if_true]
  refine⟨l,Fe,rfl,vl,Kz,rfl,rfl,rfl,hs.size,rfl,rfl,fun i=> ?_⟩
  rcases ef i with e|e
  ·rw[e];trivial
  ·rw[e];exact V.aO BD _ _ (hs.env i))
 have yE:b8 M cA H0 w0 n cx iW s1 {a with defers:=mark w.heap.size::a.defers} w1:=by
  have base:=eJ hs IE BD (o':=ax s.o s.nx (.loop P.funcs.size n env ps.toList (low n x) (low n y) .ready none)) (nx':=s.nx+1) rfl (LX fun id aq=>by simp at aq;exact .inr aq)
  refine⟨base.heap,base.tr,base.size, ?_,base.env⟩
  obtain⟨ms,g1,g2,g3,g4⟩:=base.defers
  obtain⟨ms',q1,q2,q3,q4⟩:=hs.defers
  have hmm:ms.map mark=ms'.map mark:=by
   have:ms.map mark++cx.base=ms'.map mark++cx.base:=g1.symm.trans q1
   exact List.append_cancel_right this
  have Vt:ms=ms':=by
   have hm:∀a b,mark a=mark b->a=b:=fun a b h=>by simpa[mark]using h
   exact List.map_inj_right hm |>.1 hmm
  refine⟨w.heap.size::ms,by rw[g1];rfl,List.nodup_cons.2 ⟨fun hm=> ?_,g2⟩,(fun h=>by rw[m5]at h;cases h),fun r hr=> ?_⟩
  ·have:=(q4 w.heap.size (Vt ▸ hm)).2.1
   rw[Array.getElem?_eq_none (Nat.le_refl _)]at this;cases this
  ·rcases List.mem_cons.1 hr with rfl|hr
   ·refine⟨hs.tr.keep.size,(RowKit.Below.heap_alloc (w.alloc (.deferred (some []))) (.loop Fe) w.heap.size (by rw[Pc];omega)).trans (heap_alloc_new w _), ?_⟩
    rintro⟨id,i1,i2⟩
    by_cases e:id=s.nx
    ·subst e;simp[iW,dx,l]at i2
    ·have i1':(s.H.o id).live=true:=by simpa[s1,S.H,e]using i1
     have i2':dx (φ id)=some w.heap.size:=by simpa[iW,e]using i2
     have:=(hs.heap.ours _ ⟨id,i1',i2'⟩).2
     omega
   ·exact g4 r hr
 have afj:V.den (ao M iW s1.H) iW s1.H w1 (.ju s.nx) (.func (.yield l) #[] #[]):=
  ⟨rfl,by simp[s1,S.H],fun _=>⟨l,by simp[iW],rfl⟩⟩
 have hg:=ng (M:=M) (φ:=iW) (H:=s1.H) (w:=w1) s1 {a with defers:=mark w.heap.size::a.defers} yE.env g
 have afk:s1.ev g=s.ev g:=by cases g<;>rfl
 rw[afk]at hg
 have hae:({a with defers:=mark w.heap.size::a.defers}:Act).eval g=a.eval g:=rfl
 rw[hae]at hg
 split at h
 ·rename_i f first cap hgv
  rw[hgv]at hg
  obtain⟨fa,ca,Vr,GF,hca⟩:=hg
  have fin:∀ (all:List V) (o2:Nat->ab) (s2:S),s2=⟨s.env,o2,s.nx+1⟩->b8 M cA H0 w0 n cx iW s2 {a with defers:=mark w.heap.size::a.defers} w1->V.aB (ao M iW s2.H) iW s2.H w1 all (fa++#[Value.func (.yield l) #[] #[]]++ca).toList->(o2 s.nx).cj=true->
   cH P f all o2 (s.nx+1) (fun _ o' nx'=>∃nf m e p c d st pd,o' s.nx= .loop nf m e p c d st pd/\st≠ .busy/\px Q pd ⟨s.env,ax o' s.nx (.loop nf m e p c d .exhausted pd),nx'⟩) (fun v o' nx'=>Q (.bE v) ⟨s.env,o',nx'⟩)->
   ∃ (l:Nat) (mark:List Deferred) (jH:World) (d:Deferred) (yA:World) (f:FuncId) (args:Array Value) (sj:World),
     (Instr.enterLoop fn a.tmps ps x y (dN none).round).run P w= .ok (l,mark) jH/\(resolve a.eval (rangeCall g l) 0).run P jH= .ok d yA/\
     (invoke d.target d.args).run P yA= .ok (.enter f args) sj/\CallsIn (dN none) 0 P f args sj (vx P l (GX M cA H0 w0 n cx Q) {a with defers:=mark++a.defers}):=by
   intro all o2 s2 afl Ox bc bG hC
   subst afl
   have eO:=hC.2 M iW w1 _ Ox.heap bc
   refine⟨l,[mark w.heap.size],w1,{target:= .fn (.func f) ca,args:=fa++#[Value.func (.yield l) #[] #[]]},w1,f,fa++#[Value.func (.yield l) #[] #[]]++ca,w1,mh, ?_, ?_,cZ (eO.mono fun e w' ⟨aG,o',nx',v,k1,k2,k3⟩=> ?_)⟩
   ·simp only[resolve,Vr,Deferred.ofValue,List.map_toArray,List.map_cons,List.map_nil,Sem.run_pure]
    rfl
   ·simp[invoke,lI hC.1]
   ·cases e with
    |returned val=>
     obtain⟨k4,nf,m,e,p,c,d,st,pd,k5,k6,k7⟩:=k3
     have G0:b8 M cA H0 w0 n cx aG ⟨s.env,o',nx'⟩ {a with defers:=mark w.heap.size::a.defers} w':=eJ Ox k1 k2 rfl fun id hu=>hu
     have Vu:aG s.nx= .pointer (some ⟨l,0,none⟩):=by
      have:=(k2.rel.row s.nx (show s.nx<s.nx+1 from ag) (by show(o' s.nx).cj=true;rw[k5];rfl)).2
      rw[this];simp[iW]
     have cG:s.nx<nx':=k2.rel.us s.nx (show s.nx<s.nx+1 from ag)
     obtain⟨r,r1,r2,r3,r4,r5⟩:=yB (st':= .exhausted) (pd':=pd) k1 cG (show(hp o' nx').o s.nx=_ from k5) Vu
     have cL:(Instr.endLoop l).run P w'= .ok (pd.map kj.code) {w' with heap:=w'.heap.setIfInBounds l (.loop {r with state:= .exhausted,pending:=pd.map kj.code})}:=by
      have e1:({r with state:= .exhausted}:Loop)={r with state:= .exhausted,pending:=pd.map kj.code}:=by rw[<- r3]
      have hnb:(r.state==LoopState.busy)=false:=by rw[r2];cases st<;>first|rfl|exact absurd rfl k6
      simp only[Instr.endLoop,Sem.run_bind,kM r1,Result.andThen_ok,hnb,Bool.false_eq_true,if_false,Sem.run_pure]
      rw[jc _ r1,e1]
      simp[r3]
     have Y1:=eJ G0 r4 r5 (o':=ax o' s.nx (.loop nf m e p c d .exhausted pd)) (nx':=nx') rfl fun id hu=>by
      simp only[dW]at hu
      rcases hu with hu|hu
      ·exact hu
      ·subst hu;exact cG
     refine⟨pd.map kj.code,_,cL, ?_⟩
     cases pd with
     |none=>exact⟨.normal,_,_,k7,Y1,trivial⟩
     |some j=>
      cases j with
      |ret=>exact GY ⟨.ret,_,_,k7,Y1,trivial⟩
      |exit id=>exact Cy ⟨.exit id,_,_,k7,Y1,rfl⟩
    |panicked ch=>
     obtain⟨val,rfl,k4,k5⟩:=k3
     have G0:b8 M cA H0 w0 n cx aG ⟨s.env,o',nx'⟩ {a with defers:=mark w.heap.size::a.defers} w':=eJ Ox k1 k2 rfl fun id hu=>hu
     exact⟨.bE v,_,_,k5,G0,val,rfl,k4⟩
    |outgrown=>exact k3.elim
  have nr:V.aB (ao M iW s1.H) iW s1.H w1 (first++[V.ju s.nx]++cap) (fa++#[Value.func (.yield l) #[] #[]]++ca).toList:=by
   rw[Array.toList_append,Array.toList_append]
   exact V.qb GF ⟨_,[],rfl,afj,rfl⟩ hca
  rcases h with hC|hC
  ·exact fin _ _ s1 rfl yE nr (by simp;rfl) hC
  ·have pX:s1.o=ax s.o s.nx (.loop P.funcs.size n env ps.toList (low n x) (low n y) .ready none):=rfl
   obtain⟨f1,f2,f3,f4,f5⟩:=cO yE.heap (de s1.o (first++[V.ju s.nx]++cap)) (gK _ _ s1.o nr)
   have fU:s1.H.put (bT s1.H.o (de s1.o (first++[V.ju s.nx]++cap)))=hp (put s1.o (bT s1.o (de s1.o (first++[V.ju s.nx]++cap)))) s1.nx:=lH (by rw[ux];exact gK _ _ s1.o nr)
   have Ss:=L0 f1 _ _ f3 (V.aQ f2 _ _ nr)
   have Su:((s1.H.put (bT s1.H.o (de s1.o (first++[V.ju s.nx]++cap)))).o s.nx).cj=true:=by
    by_cases hm:s.nx∈de s1.o (first++[V.ju s.nx]++cap)
    ·rw[f3 _ hm];simp[s1,S.H,ab.fz,ab.cj]
    ·rw[f4 _ hm];simp[s1,S.H,ab.cj]
   rw[fU]at f1 f2 Ss Su
   exact fin _ (put s1.o (bT s1.o (de s1.o (first++[V.ju s.nx]++cap)))) ⟨s.env,_,s.nx+1⟩ rfl (eJ yE f1 f2 rfl fun id hu=>hu) Ss Su hC
 ·exact h.elim
end
end Go.Proofs.YtnkamdiiakdkgaaGreat
