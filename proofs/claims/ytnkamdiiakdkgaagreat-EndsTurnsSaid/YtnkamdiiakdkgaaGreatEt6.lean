/-
  A PART OF THE PROOF. Conditions: none.
-/
import Derived.RangeFuncLeaves
import Derived.TacticsIn
import Derived.RecoverIn
import Derived.Test.YtnkamdiiakdkgaaGreatEt5
set_option linter.unusedSimpArgs false
set_option linter.unusedVariables false
namespace Go.Proofs.YtnkamdiiakdkgaaGreat
inductive R where
 |ret (ds:List D)|bB (d:D)
def R.is (B:Nat->Prop)(w:World):R->Ending->Prop
 | .ret [x], .returned v=>D.den B w x v
 | .ret ds, .returned v=>∃a,v= .tuple a/\D.az B w ds a.toList
 | .bB d, .panicked chain=>∃v,chain=[{v:=v,recovered:=false}]/\D.den B w d v
 |_,_=>False
def Enters(P:Program)(f:FuncId):Prop:=∃fn,P.funcs[f]? =some fn/\(fn.name== "runtime.NumGoroutine")=false/\fn.body.isNone=false
def aV(P:Program)(f:FuncId)(ds:List D)(out:R):Prop:=
 Enters P f/\∀ (M:Nat->Prop) (w:World) (vals:Array Value),(∀b,M b->b<w.heap.size)->D.az M w ds vals.toList->
  Calls P f vals w fun e w'=>dx (fun _=>False) w w'/\out.is M w' e
def hp(o:Nat->ab)(nx:Nat):Hp:=⟨o,fun id=>id<nx⟩
def mq(M:Nat->Prop)(φ:Place)(H:Hp)(w:World)(K X:V->(Nat->ab)->Nat->Prop)(e:Ending)(w':World):Prop:=
 ∃aC o' nx' v,aw M aC (hp o' nx') w'/\Trans φ H w aC (hp o' nx') w'/\match e with
  | .returned val=>V.den (ak M aC (hp o' nx')) aC (hp o' nx') w' v val/\K v o' nx'
  | .panicked ch=>∃val,ch=[{v:=val,recovered:=false}]/\V.den (ak M aC (hp o' nx')) aC (hp o' nx') w' v val/\X v o' nx'
  | .outgrown=>False
def cX(P:Program)(f:FuncId)(args:List V)(o:Nat->ab)(nx:Nat)(K X:V->(Nat->ab)->Nat->Prop):Prop:=
 Enters P f/\∀ (M:Nat->Prop) (φ:Place) (w:World) (vals:Array Value),aw M φ (hp o nx) w->V.az (ak M φ (hp o nx)) φ (hp o nx) w args vals.toList->
  Calls P f vals w (mq M φ (hp o nx) w K X)
def dt(P:Program)(id:Nat)(args:List V)(o:Nat->ab)(nx:Nat)(K X:V->(Nat->ab)->Nat->Prop):Prop:=
 (o id).b7=true/\∀ (M:Nat->Prop) (φ:Place) (w:World) (vals:Array Value) (b:Nat),aw M φ (hp o nx) w->V.az (ak M φ (hp o nx)) φ (hp o nx) w args vals.toList->φ id= .pointer (some ⟨b,0,none⟩)->
  ∃f tmps assign body,(Instr.yield b vals).run P w= .ok (.round b f tmps assign body) w/\∀n,RoundIn Fence.wide n P b f tmps assign body w (mq M φ (hp o nx) w K X)
theorem mq.mono {M:Nat->Prop}{φ:Place}{H:Hp}{w:World}{K X K' X':V->(Nat->ab)->Nat->Prop}(hK:∀v o n,K v o n->K' v o n)(hX:∀v o n,X v o n->X' v o n){e:Ending}{w':World}(h:mq M φ H w K X e w'):mq M φ H w K' X' e w':=by
 obtain⟨aC,o',nx',v,h1,h2,h3⟩:=h
 refine⟨aC,o',nx',v,h1,h2, ?_⟩
 cases e with
 |returned val=>exact⟨h3.1,hK _ _ _ h3.2⟩
 |panicked ch=>obtain⟨val,a,b,c⟩:=h3;exact⟨val,a,b,hX _ _ _ c⟩
 |outgrown=>exact h3
theorem cX.mono {P:Program}{f:FuncId}{args:List V}{o:Nat->ab}{nx:Nat}{K X K' X':V->(Nat->ab)->Nat->Prop}(hK:∀v o n,K v o n->K' v o n)(hX:∀v o n,X v o n->X' v o n)(h:cX P f args o nx K X):cX P f args o nx K' X':=
 ⟨h.1,fun M φ w vals h1 h2=>(h.2 M φ w vals h1 h2).mono fun _ _ h=>h.mono hK hX⟩
theorem dt.mono {P:Program}{id:Nat}{args:List V}{o:Nat->ab}{nx:Nat}{K X K' X':V->(Nat->ab)->Nat->Prop}(hK:∀v o n,K v o n->K' v o n)(hX:∀v o n,X v o n->X' v o n)(h:dt P id args o nx K X):dt P id args o nx K' X':=
 ⟨h.1,fun M φ w vals b h1 h2 h3=>let⟨f,t,a,c,h4,h5⟩:=h.2 M φ w vals b h1 h2 h3;⟨f,t,a,c,h4,fun n=>(h5 n).mono fun _ _ h=>h.mono hK hX⟩⟩
mutual
def D.flat:D->Bool
 | .sl _| .mp _ _=>false
 | .agg cs=>D.jv cs
 | .iface _ x=>x.flat
 |_=>true
def D.jv:List D->Bool
 |[]=>true
 |x::xs=>x.flat&&D.jv xs
end
mutual
theorem D.py {B B':Nat->Prop}{w w':World}:∀ (x:D) (v:Value),x.flat=true->D.den B w x v->D.den B' w' x v
 | .int _ _,_,_,h| .bool _,_,_,h| .str _,_,_,h| .gA,_,_,h| .lY,_,_,h| .bZ,_,_,h| .hZ,_,_,h=>h
 | .agg cs,_,hf,h=>by obtain⟨a,rfl,h,h2⟩:=h;exact⟨a,rfl,D.lB cs _ hf h,h2⟩
 | .sl es,_,hf,h=>by simp[D.flat]at hf
 | .mp _ _,_,hf,h=>by simp[D.flat]at hf
 | .iface t x,_,hf,h=>by obtain⟨u,rfl,h⟩:=h;exact⟨u,rfl,D.py x u hf h⟩
theorem D.lB {B B':Nat->Prop}{w w':World}:∀ (xs:List D) (vs:List Value),D.jv xs=true->D.az B w xs vs->D.az B' w' xs vs
 |[],_,_,h=>h
 |x::xs,_,hf,h=>by
  obtain⟨u,us,rfl,h1,h2⟩:=h
  simp only[D.jv,Bool.and_eq_true]at hf
  exact⟨u,us,rfl,D.py x u hf.1 h1,D.lB xs us hf.2 h2⟩
end
mutual
def D.mu:D->Bool
 | .mp _ _=>false
 | .agg cs=>D.lC cs
 | .sl es=>D.lC es
 | .iface _ x=>x.mu
 |_=>true
def D.lC:List D->Bool
 |[]=>true
 |x::xs=>x.mu&&D.lC xs
end
theorem fW.Af {B B':Nat->Prop}{w w':World}{a:Addr}{cs:Array Value}
 (hb:∀b,o7 w b-> ¬B b->w'.heap[b]? =w.heap[b]? /\ ¬B' b) (h:fW B w a cs):fW B' w' a cs:=by
 intro j u hj
 obtain⟨h1,h2⟩:=h j u hj
 have cm:o7 w a.block:=by simpa using nR h1
 exact XE
mutual
theorem D.kP {B B':Nat->Prop}{w w':World}(hb:∀b,o7 w b-> ¬B b->w'.heap[b]? =w.heap[b]? /\ ¬B' b):
 ∀ (x:D) (v:Value),x.mu=true->D.den B w x v->D.den B' w' x v
 | .int _ _,_,_,h| .bool _,_,_,h| .str _,_,_,h| .gA,_,_,h| .lY,_,_,h| .bZ,_,_,h| .hZ,_,_,h=>by simpa[D.den]using h
 | .agg cs,_,hn,h=>by
   obtain⟨a,rfl,h,hf⟩:=h
   exact⟨a,rfl,D.mw hb cs _ hn h,hf⟩
 | .sl es,_,hn,h=>by
   obtain⟨base,len,cap,rfl,h1,h2,h3,sz,h4⟩:=h
   exact⟨base,len,cap,rfl,h1,h2,h3,sz,fun a ha=>⟨(h4 a ha).1,D.pz hb sz a es 0 hn (h4 a ha).2⟩⟩
 | .iface t d,_,hn,h=>by
   obtain⟨u,rfl,h⟩:=h
   exact⟨u,rfl,D.kP hb d u hn h⟩
 | .mp _ _,_,hn,_=>by simp[D.mu]at hn
theorem D.mw {B B':Nat->Prop}{w w':World}(hb:∀b,o7 w b-> ¬B b->w'.heap[b]? =w.heap[b]? /\ ¬B' b):
 ∀ (ds:List D) (vs:List Value),D.lC ds=true->D.az B w ds vs->D.az B' w' ds vs
 |[],_,_,h=>h
 |d::ds,_,hn,h=>by
  obtain⟨u,us,rfl,h1,h2⟩:=h
  simp only[D.lC,Bool.and_eq_true]at hn
  exact⟨u,us,rfl,D.kP hb d u hn.1 h1,D.mw hb ds us hn.2 h2⟩
theorem D.pz {B B':Nat->Prop}{w w':World}(hb:∀b,o7 w b-> ¬B b->w'.heap[b]? =w.heap[b]? /\ ¬B' b)(sz:Nat)(a:Addr):
 ∀ (es:List D) (i:Nat),D.lC es=true->D.elems B w sz a i es->D.elems B' w' sz a i es
 |[],_,_,_=>trivial
 |e::es,i,hn,h=>by
  obtain⟨⟨ev,h1,h2,h3⟩,h4⟩:=h
  simp only[D.lC,Bool.and_eq_true]at hn
  exact⟨⟨ev,h1,h2.Af hb,D.kP hb e ev hn.1 h3⟩,D.pz hb sz a es (i+1) hn.2 h4⟩
end
def R.mu:R->Bool
 | .ret ds=>D.lC ds
 | .bB d=>d.mu
def R.flat:R->Bool
 | .ret ds=>D.jv ds
 | .bB d=>d.flat
def iX:List D->V
 |[x]=> .d x
 |ds=> .bT (ds.map .d)
inductive fL where
 |normal|exit (id:Nat)|ret|bB (v:V)
def aU(env:Nat->V)(dst:Option Tmp)(v:V):Nat->V:=
 match dst with
 |some d=>aD env d v
 |none=>env
def IX(o:Nat->ab)(v:V):V:=match dC o v with|some x=> .d x|none=>v
def cT(o:Nat->ab):List V->List Nat
 |[]=>[]
 |v::vs=>(match dC o v with|some _=>v.ids|none=>[])++cT o vs
def nQ(P:Program)(g:FuncId)(args:List V)(o:Nat->ab)(nx:Nat)(K X:V->(Nat->ab)->Nat->Prop):Prop:=
 cX P g args o nx K X\/cX P g (args.map (IX o)) (put o (cc o (cT o args))) nx K X
def tI(P:Program)(s:S)(g:FuncId)(all:List V)(K:V->(Nat->ab)->Nat->Prop)(X:V->(Nat->ab)->Nat->Prop):Prop:=
    (∃ds out,bU s.o all=some ds/\aV P g ds out/\(match out with
     | .ret rs=>K (iX rs) (put s.o (cc s.o (V.bc all))) (s.nx+1)
     | .bB x=>X (.d x) (put s.o (cc s.o (V.bc all))) (s.nx+1)))\/
    (∃ds out,bU s.o all=some ds/\aV P g ds out/\out.flat=true/\(match out with
     | .ret rs=>K (iX rs) s.o (s.nx+1)
     | .bB x=>X (.d x) s.o (s.nx+1)))\/
    (∃ds out,bU s.o all=some ds/\aV P g ds out/\out.mu=true/\(match out with
     | .ret rs=>K (iX rs) (put s.o (qy s.o (V.bc all))) (s.nx+1)
     | .bB x=>X (.d x) (put s.o (qy s.o (V.bc all))) (s.nx+1)))\/
    nQ P g all s.o s.nx K X
def AD(P:Program)(s:S)(f:V)(args:List V)(K:V->(Nat->ab)->Nat->Prop)(X:V->(Nat->ab)->Nat->Prop):Prop:=
 match f with
 | .func (.func g) first cap=>tI P s g (first++args++cap) K X
 | .iW id=>dt P id args s.o s.nx K X
 |_=>False
def O0(P:Program)(t:TypeId):Bool:=
 match P.underlying t with
 |some (.pointer _)=>false
 |some _=>true
 |none=>false
def tJ(P:Program)(m:String)(x:V):Option (FuncId×V):=
 match x with
 | .d (.iface t y)=>match P.info? t with
   |some ti=>match ti.methods.find? (·.name==m)with
    |some r=>match r.func with
     |some (f,false)=>if r.path.isEmpty=true/\O0 P t=true then some (f, .d y)else none
     |_=>none
    |none=>none
   |none=>none
 |_=>none
def fX(n:Nat):Option Tmp->Prop
 |some d=>d<n
 |none=>True
def opW(P:Program)(n:Nat)(s:S)(o:Oper)(X:V->S->Prop)(K:S->Prop):Prop:=
 fX n o.dst/\match o.op with
 | .call c=>match c.callee with
   | .value f=>AD P s (s.ev f) (c.args.toList.map s.ev) (fun v o' nx'=>K ⟨aU s.env o.dst v,o',nx'⟩) (fun v o' nx'=>X v ⟨s.env,o',nx'⟩)
   | .invoke r m=>match tJ P m (s.ev r)with
     |some (g,y)=>tI P s g (y::c.args.toList.map s.ev) (fun v o' nx'=>K ⟨aU s.env o.dst v,o',nx'⟩) (fun v o' nx'=>X v ⟨s.env,o',nx'⟩)
     |none=>False
   |_=>OS P s s.nx o.op fun v Δ _=>K ⟨aU s.env o.dst v,put s.o Δ,s.nx+1⟩
 | .panic x=>match s.ev x with
   | .d (.iface t y)=>X (.d (.iface t y)) s
   | .iface t y=>X (.iface t y) s
   |_=>False
 |op=>OS P s s.nx op fun v Δ _=>K ⟨aU s.env o.dst v,put s.o Δ,s.nx+1⟩
def xU(s:S)(ops:Array Oper)(g:Option (Nat×Bool))(A B:Prop):Prop:=
 match g with
 |none=>A
 |some (j,want)=>match ry ops j with
  |some d=>match s.env d with
   | .d (.bool b)=>(b=want->A)/\(b≠want->B)
   | .bT []=>B
   |_=>False
  |none=>B
def xV(P:Program)(n:Nat)(ops:Array Oper)(X:V->S->Prop)(K:S->Prop):List Oper->S->Prop
 |[],s=>K s
 |o::l,s=>xU s ops o.guard (opW P n s o X (xV P n ops X K l)) (fX n o.dst/\xV P n ops X K l ⟨aU s.env o.dst (.bT []),s.o,s.nx+1⟩)
def br(b:Nat)(s s':S):Prop:=
 ∀ (M:Nat->Prop) (φ:Place) (w:World) (tm:Nat->Value),aw M φ s.H w->(∀i,V.den (ak M φ s.H) φ s.H w (s.env i) (tm i))->
   ∃aC,aw M aC s'.H w/\(∀i,V.den (ak M aC s'.H) aC s'.H w (s'.env i) (tm i))/\(∀k,cw aC s'.H k->cw φ s.H k)/\b<=s'.nx/\
    (∀id,id<b->(s'.o id).b7=true->(s.o id).b7=true/\aC id=φ id)/\
    (∀id e',id<b->(s'.o id).bX=some e'->∃e,(s.o id).bX=some e/\e<=e'/\(e=e'->aC id=φ id))
def pA(K:S->Prop)(Q:fL->S->Prop)(e:fL)(s:S):Prop:=match e with| .normal=>K s|e=>Q e s
def eX(id:Nat)(Q:fL->S->Prop)(e:fL)(s:S):Prop:=match e with| .exit j=>if j=id then Q .normal s else Q (.exit j) s|e=>Q e s
def lD(P:Program)(s:S):List ResultVar->Option (List V)
 |[]=>some []
 | .tmp t::rs=>(lD P s rs).map (s.env t::·)
 | .cell a t::rs=>match s.env a with
   | .ptr id off=>match s.o id with
     | .row cs=>(ez P t cs off).bind fun v=>(lD P s rs).map (v::·)
     |_=>none
   |_=>none
def cA(vs:List V):Nat->V:=fun i=>vs.getD i (.bT [])
def AE(P:Program)(rs:List ResultVar)(out:R)(e:fL)(s:S):Prop:=
 match e with
 | .normal| .ret=>match lD P s rs with
   |some vs=>match bU s.o vs with
    |some ds=>out= .ret ds
    |none=>False
   |none=>False
 | .bB v=>match dC s.o v with
   |some x=>out= .bB x
   |none=>False
 | .exit _=>False
theorem IY{P:Program}{rs:List ResultVar}{out:R}{s:S}(h:match lD P s rs with
 |some vs=>match bU s.o vs with
  |some ds=>out= .ret ds
  |none=>False
 |none=>False):∃vs ds,lD P s rs=some vs/\bU s.o vs=some ds/\out= .ret ds:=by
 split at h
 ·rename_i vs h1
  split at h
  ·rename_i xs h2;exact⟨vs,xs,h1,h2,h⟩
  ·exact h.elim
 ·exact h.elim
theorem IZ{out:R}{s:S}{v:V}(h:match dC s.o v with
 |some x=>out= .bB x
 |none=>False):∃x,dC s.o v=some x/\out= .bB x:=by
 split at h
 ·rename_i x h1;exact⟨x,h1,h⟩
 ·exact h.elim
section
section
variable {P:Program}{M:Nat->Prop}{φ:Place}{H:Hp}{w w':World}
def ab.kQ:ab->Bool
 | .arr .. =>true
 |_=>false
theorem Mm(o:Nat->ab)(ids:List Nat):qy o ids=cc o (ids.filter fun id=>(o id).kQ):=by
 induction ids with
 |nil=>rfl
 |cons id ids ih=>
  unfold qy at ih|-
  simp only[List.filterMap_cons,List.filter_cons]
  cases hx:o id with
  |arr ep ty sz es=>
   have e:(ab.arr ep ty sz es).kQ=true:=rfl
   rw[e,if_pos rfl,ih]
   simp only[cc,List.map_cons,hx]
  |_=>exact ih
theorem iV(hH:aw M φ H w){us':Nat->Prop}(h:∀id,H.us id->us' id):aw M φ ⟨H.o,us'⟩ w/\Trans φ H w φ ⟨H.o,us'⟩ w:=by
 have ht:Trans φ H w φ ⟨H.o,us'⟩ w:=⟨dx.refl _ _,fun b hb=> .inl hb,⟨h,fun id _ hr=>⟨hr,rfl⟩,fun id e' _ he=>⟨e',he,Nat.le_refl _,fun _=>rfl⟩⟩⟩
 exact⟨hH.of ht (fun _=>False) (fun _ h=>h.elim) (fun id _=>⟨rfl,rfl,fun _ _ _=>rfl⟩) (fun id hn=>hH.fresh id fun hu=>hn (h id hu)) hH.apart (fun b hb=>(hH.ours b hb).2),ht⟩
theorem fM(hH:aw M φ H w)(hk:dx (fun _=>False) w w'):aw M φ H w'/\Trans φ H w φ H w':=by
 have ht:Trans φ H w φ H w':=⟨⟨hk.os,hk.tape,hk.output,hk.size,fun k h _=>hk.block k h fun h=>h⟩,fun b hb=> .inl hb,dH.refl _ _⟩
 exact⟨hH.of ht (fun _=>False) (fun _ h=>h.elim) (fun id _=>⟨rfl,rfl,fun hl b hb=>hk.block b (hH.ours b ⟨id,hl,hb⟩).2 fun h=>h⟩) hH.fresh hH.apart (fun b hb=>Nat.lt_of_lt_of_le (hH.ours b hb).2 hk.size),ht⟩
theorem kR{Δ:List (Nat×ab)}(h:∀id∈Δ.map (·.1),H.us id):H.put Δ=⟨put H.o Δ,H.us⟩:=by
 unfold Hp.put
 congr 1
 funext id
 simp only[eq_iff_iff]
 exact⟨fun h'=>h'.elim (fun h=>h) (h id), .inl⟩
theorem sI(o:Nat->ab)(ids:List Nat):(cc o ids).map (·.1)=ids:=by
 rw[lz];simp[Function.comp_def]
structure Cx where
 base:List Deferred
 rd:Bool
def dy(ro:Option Nat):Fence:={fn:=fun _=>True,depth:=none,alive:=false,round:=ro}
def mark(r:Nat):Deferred:={target:= .collected r,args:=#[]}
def tK(cx:Cx)(w0:World)(φ:Place)(H:Hp)(w:World)(ds:List Deferred):Prop:=
 ∃ms:List Nat,ds=ms.map mark++cx.base/\ms.Nodup/\(cx.rd=true->ms=[])/\∀r∈ms,w0.heap.size<=r/\w.heap[r]? =some (.deferred (some []))/\ ¬cw φ H r
theorem tK.mono {cx:Cx}{w0:World}{φ aC:Place}{H H':Hp}{w w':World}{ds:List Deferred}(ht:Trans φ H w aC H' w')(h:tK cx w0 φ H w ds):tK cx w0 aC H' w' ds:=by
 obtain⟨ms,h1,h2,h3,h4⟩:=h
 refine⟨ms,h1,h2,h3,fun r hr=> ?_⟩
 obtain⟨g1,g2,g3⟩:=h4 r hr
 have cm:r<w.heap.size:=by
  rcases Nat.lt_or_ge r w.heap.size with hl|hl
  ·exact hl
  ·rw[Array.getElem?_eq_none hl]at g2;cases g2
 refine⟨g1,(ht.keep.block r cm g3).trans g2,fun hl=> ?_⟩
 rcases ht.grow r hl with h|h
 ·exact g3 h
 ·omega
structure bW (M:Nat->Prop) (cf:Place) (H0:Hp) (w0:World) (n:Nat) (cx:Cx) (φ:Place) (s:S) (a:Act) (w:World):Prop where
 heap:aw M φ s.H w
 tr:Trans cf H0 w0 φ s.H w
 size:a.tmps.size=n
 defers:tK cx w0 φ s.H w a.defers
 env:∀i,V.den (ak M φ s.H) φ s.H w (s.env i) (a.tmps.getD i undef)
variable {cf:Place}{H0:Hp}{w0:World}{n:Nat}{s:S}{a:Act}{cx:Cx}{ro:Option Nat}{k:Nat}
theorem cR{f:FuncId}{args:Array Value}{R:Ending->World->Prop}(h:Calls P f args w R):CallsIn (dy ro) k P f args w R:=
 ⟨trivial,fun cs _=>let⟨e,w',fr,r,s,x⟩:=h cs;⟨e,w',fr,r,comesIn_wide.2 s,x⟩⟩
theorem AF{f:FuncId}{args:Array Value}{R:Ending->World->Prop}(h:CallsIn (dy ro) k P f args w R):Calls P f args w R:=
 fun cs=>let⟨e,w',fr,r,s,x⟩:=h.2 cs (fun _ h=>by simp[dy]at h);⟨e,w',fr,r,comesIn_wide.1 s,x⟩
theorem j6{o:Oper}{next:Act->World->Prop}{Q:Exit->Act->World->Prop}(hnd:∀c,o.op≠ .defer c)(h:o.uponIn (dy ro) k P a next Q ((execOp a.eval o).run P w)):o.wpIn (dy ro) k P a w next Q:=
 ⟨fun _ _=>trivial,by rw[Oper.semAt_eq _ _ _ hnd];exact h⟩
theorem nh(hs:bW M cf H0 w0 n cx φ s a w){aC:Place}{H':Hp}(hH:aw M aC H' w')(ht:Trans φ s.H w aC H' w'){v:V}{val:Value}(hd:V.den (ak M aC H') aC H' w' v val){dst:Option Tmp}(cD:fX n dst)
 {o':Nat->ab} {nx':Nat} (ho:H'.o=o') (hu:∀id,H'.us id->id<nx'):bW M cf H0 w0 n cx aC ⟨aU s.env dst v,o',nx'⟩ (a.put dst val) w':=by
 obtain⟨k1,k2⟩:=iV hH hu
 subst ho
 refine⟨k1,hs.tr.trans (ht.trans k2), ?_, ?_,fun i=> ?_⟩
 ·cases dst<;>simp[Act.put,hs.size]
 ·have:=hs.defers.mono (ht.trans k2);cases dst<;>exact this
 ·cases dst with
  |none=>exact LW
  |some d=>
   simp only[fX]at cD
   simp only[aU,aG,Act.put]
   by_cases hi:i=d
   ·subst hi
    have h1:(a.tmps.setIfInBounds i val).getD i undef=val:=by simp[Array.getD,hs.size,cD]
    rw[if_pos rfl,h1]
    exact V.aK k2 _ _ hd
   ·have h1:(a.tmps.setIfInBounds d val).getD i undef=a.tmps.getD i undef:=by
     exact RH
    rw[if_neg hi,h1]
    exact LW
theorem ey(hs:bW M cf H0 w0 n cx φ s a w){aC:Place}{H':Hp}(hH:aw M aC H' w')(ht:Trans φ s.H w aC H' w'){o':Nat->ab}{nx':Nat}(ho:H'.o=o')(hu:∀id,H'.us id->id<nx'):
 bW M cf H0 w0 n cx aC ⟨s.env,o',nx'⟩ a w':=by
 obtain⟨k1,k2⟩:=iV hH hu
 subst ho
 exact⟨k1,hs.tr.trans (ht.trans k2),hs.size,hs.defers.mono (ht.trans k2),fun i=>V.aK (ht.trans k2) _ _ (hs.env i)⟩
theorem I0{Δ:List (Nat×ab)}(h:∀id∈Δ.map (·.1),s.H.us id\/id=s.nx)(id:Nat)(hu:(s.H.put Δ).us id):id<s.nx+1:=by
 rcases hu with hu|hu
 ·exact Nat.lt_succ_of_lt hu
 ·rcases h id hu with h|h
  ·exact Nat.lt_succ_of_lt h
  ·omega
variable {next:Act->World->Prop}{Q:Exit->Act->World->Prop}{X:V->S->Prop}{K:S->Prop}
theorem I1(hs:bW M cf H0 w0 n cx φ s a w){o:Oper}{op:Op}(gy:o.op=op)(cD:fX n o.dst)(h:OS P s s.nx op fun v Δ _=>K ⟨aU s.env o.dst v,put s.o Δ,s.nx+1⟩)
 (hN:∀s' aC a' w',K s'->bW M cf H0 w0 n cx aC s' a' w'->next a' w'):o.wpIn (dy ro) k P a w next Q:=by
 obtain⟨nx,val,w',aC,v,Δ,rd,hK,hr,tL,g1,g2,g3,g4⟩:=wx hs.heap (s:=s) rfl hs.env (fr:=s.nx) (by simp[S.H]) gy h
 have xW:=nh hs g1 g2 g3 cD (o':=put s.o Δ) (nx':=s.nx+1) rfl (I0 g4)
 refine j6 (fun c hc=>by rw[gy]at hc;subst hc;exact h) ?_
 rw[hr]
 rcases tL with rfl|⟨rfl,rfl⟩
 ·exact hN _ _ _ _ hK xW
 ·exact hN _ _ _ _ hK xW
theorem V.oZ {B:Nat->Prop}{bY bs cs:List V}{u v x:List Value}(h1:V.az B φ H w bY u)(h2:V.az B φ H w bs v)(h3:V.az B φ H w cs x):V.az B φ H w (bY++bs++cs) (u++v++x):=
 V.bf _ _ _ _ (V.bf _ _ _ _ h1 h2) h3
theorem kS{f:FuncId}(h:Enters P f)(args:Array Value):(callFunc f args).run P w= .ok (.enter f args) w:=by
 obtain⟨fn,h1,h2,h3⟩:=h
 have sq:fn.name≠ "runtime.NumGoroutine" :=by simpa using h2
 have my:fn.body≠none:=fun h=>by rw[h]at h3;cases h3
 simp[callFunc,h1,sq,my]
theorem l9:∀ {rs:List D} {val:Value},R.is (ak M φ H) w (.ret rs) (.returned val)->V.den (ak M φ H) φ H w (iX rs) val
 |[],_,h=>by obtain⟨arr,rfl,h⟩:=h;exact⟨arr,rfl,h⟩
 |[x],_,h=>h
 |x::y::l,_,h=>by obtain⟨arr,rfl,h⟩:=h;exact⟨arr,rfl,(V.b8 (x::y::l) _).2 h⟩
theorem R.xX {B B':Nat->Prop}:∀ {out:R} {e:Ending},out.flat=true->out.is B w e->out.is B' w e
 | .ret [], .returned _,_,h=>by obtain⟨arr,rfl,h⟩:=h;exact⟨arr,rfl,h⟩
 | .ret [x], .returned _,hf,h=>by
   simp only[R.flat,D.jv,Bool.and_true]at hf
   exact D.py x _ hf h
 | .ret (x::y::l), .returned _,hf,h=>by obtain⟨arr,rfl,h⟩:=h;exact⟨arr,rfl,D.lB (x::y::l) _ hf h⟩
 | .bB d, .panicked _,hf,h=>by obtain⟨v,rfl,h⟩:=h;exact⟨v,rfl,D.py d v hf h⟩
 | .ret [], .panicked _,_,h| .ret [_], .panicked _,_,h| .ret (_::_::_), .panicked _,_,h| .ret [], .outgrown,_,h| .ret [_], .outgrown,_,h| .ret (_::_::_), .outgrown,_,h| .bB _, .returned _,_,h| .bB _, .outgrown,_,h=>h.elim
theorem R.I2 {B B':Nat->Prop}{w':World}(hb:∀b,o7 w' b-> ¬B b-> ¬B' b):∀ {out:R} {e:Ending},out.mu=true->out.is B w' e->out.is B' w' e
 | .ret [], .returned _,_,h=>by obtain⟨arr,rfl,h⟩:=h;exact⟨arr,rfl,h⟩
 | .ret [x], .returned _,hf,h=>by
   simp only[R.mu,D.lC,Bool.and_true]at hf
   exact D.kP (fun b hc hn=>⟨rfl,hb b hc hn⟩) x _ hf h
 | .ret (x::y::l), .returned _,hf,h=>by obtain⟨arr,rfl,h⟩:=h;exact⟨arr,rfl,D.mw (fun b hc hn=>⟨rfl,hb b hc hn⟩) (x::y::l) _ hf h⟩
 | .bB d, .panicked _,hf,h=>by obtain⟨v,rfl,h⟩:=h;exact⟨v,rfl,D.kP (fun b hc hn=>⟨rfl,hb b hc hn⟩) d v hf h⟩
 | .ret [], .panicked _,_,h| .ret [_], .panicked _,_,h| .ret (_::_::_), .panicked _,_,h| .ret [], .outgrown,_,h| .ret [_], .outgrown,_,h| .ret (_::_::_), .outgrown,_,h| .bB _, .returned _,_,h| .bB _, .outgrown,_,h=>h.elim
theorem I3(hH:aw M φ H w){o:Nat->ab}:∀ (vs:List V) (vals:List Value),(∀id∈cT o vs,H.o id=(o id).fz)->V.az (ak M φ H) φ H w vs vals->V.az (ak M φ H) φ H w (vs.map (IX o)) vals
 |[],_,_,h=>h
 |v::vs,_,ho,h=>by
  obtain⟨u,us,rfl,h1,h2⟩:=h
  refine⟨u,us,rfl, ?_,I3 hH vs us (fun id au=>ho id (by simp[cT,au])) h2⟩
  unfold IX
  split
  ·rename_i x hx
   exact eO hH v x u (fun id au=>ho id (by simp[cT,hx,au])) hx h1
  ·exact h1
theorem fY:∀ (vs:List V) (vals:List Value) (o:Nat->ab),V.az (ak M φ H) φ H w vs vals->∀id∈cT o vs,H.us id
 |[],_,_,_,j,hj=>by simp[cT]at hj
 |v::vs,_,o,h,j,hj=>by
  obtain⟨u,us,rfl,h1,h2⟩:=h
  simp only[cT,List.mem_append]at hj
  rcases hj with hj|hj
  ·cases hx:dC o v with
   |none=>simp[hx]at hj
   |some x=>simp only[hx]at hj;exact cC v u h1 j hj
  ·exact fY vs us o h2 j hj
theorem wy(hs:bW M cf H0 w0 n cx φ s a w){o:Oper}{g:FuncId}{all:List V}{vals:Array Value}(cD:fX n o.dst)(eR:Enters P g->(execOp a.eval o).run P w= .ok (.enter g vals) w)(aZ:V.az (ak M φ s.H) φ s.H w all vals.toList)
 (h:cX P g all s.o s.nx (fun v o' nx'=>K ⟨aU s.env o.dst v,o',nx'⟩) (fun v o' nx'=>X v ⟨s.env,o',nx'⟩))
 (hN:∀s' aC a' w',K s'->bW M cf H0 w0 n cx aC s' a' w'->next a' w')
 (hQ:∀v s' aC w' val,X v s'->bW M cf H0 w0 n cx aC s' a w'->V.den (ak M aC s'.H) aC s'.H w' v val->Q (.panic [{v:=val,recovered:=false}]) a w'):o.uponIn (dy ro) k P a next Q ((execOp a.eval o).run P w):=by
 have eD:=h.2 M φ w vals hs.heap aZ
 rw[eR h.1]
 refine⟨fun hd=>by simp[dy]at hd,cR (eD.mono fun e w' ⟨aC,o',nx',v,k1,k2,k3⟩=> ?_)⟩
 cases e with
 |returned val=>exact Og
 |panicked ch=>
  obtain⟨val,rfl,k4,k5⟩:=k3
  exact W7
 |outgrown=>exact k3.elim
theorem AG(hs:bW M cf H0 w0 n cx φ s a w){o:Oper}{g:FuncId}{all:List V}{vals:Array Value}(cD:fX n o.dst)(eR:Enters P g->(execOp a.eval o).run P w= .ok (.enter g vals) w)(aZ:V.az (ak M φ s.H) φ s.H w all vals.toList)
 (h:tI P s g all (fun v o' nx'=>K ⟨aU s.env o.dst v,o',nx'⟩) (fun v o' nx'=>X v ⟨s.env,o',nx'⟩))
 (hN:∀s' aC a' w',K s'->bW M cf H0 w0 n cx aC s' a' w'->next a' w')
 (hQ:∀v s' aC w' val,X v s'->bW M cf H0 w0 n cx aC s' a w'->V.den (ak M aC s'.H) aC s'.H w' v val->Q (.panic [{v:=val,recovered:=false}]) a w'):o.uponIn (dy ro) k P a next Q ((execOp a.eval o).run P w):=by
 unfold tI at h
 obtain⟨f1,f2,f3,f4,f5⟩:=cF hs.heap (V.bc all) (cK all _ aZ)
 have gK:s.H.put (cc s.H.o (V.bc all))=⟨put s.o (cc s.o (V.bc all)),s.H.us⟩:=kR H7
 have mz:=V.aN f2 _ _ aZ
 rcases h with⟨ds,out,eL,hP,hK⟩|⟨ds,out,eL,hP,qm,hK⟩|⟨ds,out,eL,hP,hnm,hK⟩|hC|hC
 ·have wc:=c0 f1 all ds _ f3 eL mz
  have hM:∀b,ak M φ (s.H.put (cc s.H.o (V.bc all))) b->b<w.heap.size:=fun b hb=>hb.elim (f1.zH b) fun hl=>(f1.ours b hl).2
  have eD:=hP.2 _ w vals hM wc
  rw[eR hP.1]
  refine⟨fun hd=>by simp[dy]at hd,cR (eD.mono fun e w' ⟨hk,ho⟩=> ?_)⟩
  obtain⟨k1,k2⟩:=fM f1 hk
  cases out with
  |ret rs=>
   cases e with
   |returned val=>
    refine hN _ _ _ _ hK (nh hs k1 (f2.trans k2) (l9 ho) cD (by rw[gK]) ?_)
    intro id hu;rw[gK]at hu;exact Nat.lt_succ_of_lt hu
   |panicked ch=>exact vl
   |outgrown=>exact vl
  |bB x=>
   cases e with
   |returned val=>exact ho.elim
   |panicked ch=>
    obtain⟨val,rfl,hd⟩:=ho
    have xW:=ey hs k1 (f2.trans k2) (o':=put s.o (cc s.o (V.bc all))) (nx':=s.nx+1) (by rw[gK]) (fun id hu=>by rw[gK]at hu;exact Nat.lt_succ_of_lt hu)
    refine hQ _ _ _ _ val hK xW ?_
    have e1:ak M φ (S.H ⟨s.env,put s.o (cc s.o (V.bc all)),s.nx+1⟩)=ak M φ (s.H.put (cc s.H.o (V.bc all))):=by rw[gK];rfl
    simp only[V.den]
    rw[e1];exact hd
   |outgrown=>exact ho.elim
 ·have wc:=c0 f1 all ds _ f3 eL mz
  have hM:∀b,ak M φ (s.H.put (cc s.H.o (V.bc all))) b->b<w.heap.size:=fun b hb=>hb.elim (f1.zH b) fun hl=>(f1.ours b hl).2
  have eD:=hP.2 _ w vals hM wc
  rw[eR hP.1]
  refine⟨fun hd=>by simp[dy]at hd,cR (eD.mono fun e w' ⟨hk,ho⟩=> ?_)⟩
  obtain⟨k1,k2⟩:=fM hs.heap hk
  have ho:=R.xX (B':=ak M φ s.H) qm ho
  cases out with
  |ret rs=>
   cases e with
   |returned val=>
    exact hN _ _ _ _ hK (nh hs k1 k2 (l9 ho) cD rfl fun id hu=>Nat.lt_succ_of_lt hu)
   |panicked ch=>exact vl
   |outgrown=>exact vl
  |bB x=>
   cases e with
   |returned val=>exact ho.elim
   |panicked ch=>
    obtain⟨val,rfl,hd⟩:=ho
    exact hQ _ _ _ _ val hK (ey hs k1 k2 (o':=s.o) (nx':=s.nx+1) rfl fun id hu=>Nat.lt_succ_of_lt hu) hd
   |outgrown=>exact ho.elim
 ·obtain⟨a1,a2,a3,a4,a5⟩:=cF hs.heap ((V.bc all).filter fun id=>(s.o id).kQ) (fun id au=>cK all _ aZ id (List.mem_filter.1 au).1)
  have AH:s.H.put (cc s.H.o ((V.bc all).filter fun id=>(s.o id).kQ))=⟨put s.o (qy s.o (V.bc all)),s.H.us⟩:=by
   rw[Mm]
   exact kR (by rw[sI];exact fun id au=>cK all _ aZ id (List.mem_filter.1 au).1)
  have wc:=c0 f1 all ds _ f3 eL mz
  have hM:∀b,ak M φ (s.H.put (cc s.H.o (V.bc all))) b->b<w.heap.size:=fun b hb=>hb.elim (f1.zH b) fun hl=>(f1.ours b hl).2
  have eD:=hP.2 _ w vals hM wc
  rw[eR hP.1]
  refine⟨fun hd=>by simp[dy]at hd,cR (eD.mono fun e w' ⟨hk,ho⟩=> ?_)⟩
  obtain⟨k1,k2⟩:=fM a1 hk
  have jP:∀b,o7 w' b-> ¬ak M φ (s.H.put (cc s.H.o (V.bc all))) b-> ¬ak M φ (s.H.put (cc s.H.o ((V.bc all).filter fun id=>(s.o id).kQ))) b:=by
   intro b hc hn hm
   rcases hm with hM|⟨id,hl,hb⟩
   ·exact hn (.inl hM)
   ·by_cases au:id∈V.bc all
    ·cases hx:s.H.o id with
     |arr ep ty sz es=>
      rw[a3 id (List.mem_filter.2 ⟨au,by show(s.H.o id).kQ=true;rw[hx];rfl⟩),hx]at hl
      cases hl
     |map kt vt l=>
      have l5:id∉(V.bc all).filter fun id=>(s.o id).kQ:=fun h=>by
       have h2:(s.H.o id).kQ=true:=(List.mem_filter.1 h).2
       rw[hx]at h2;cases h2
      have aS:=k1.ok id
      unfold aM at aS
      rw[a4 id l5,hx]at aS
      obtain⟨b',es,clock,g1,g2,_⟩:=aS
      rw[g1]at hb
      injection hb with hb
      subst hb
      obtain⟨cs,ty,fz,hc⟩:=hc
      rw[g2]at hc
      cases hc
     |_=>
      have l5:id∉(V.bc all).filter fun id=>(s.o id).kQ:=fun h=>by
       have h2:(s.H.o id).kQ=true:=(List.mem_filter.1 h).2
       rw[hx]at h2;cases h2
      refine hn (.inr ⟨id, ?_,hb⟩)
      rw[a4 id l5,hx]at hl
      rw[f3 id au,hx]
      exact hl
    ·have l5:id∉(V.bc all).filter fun id=>(s.o id).kQ:=fun h=>au (List.mem_filter.1 h).1
     refine hn (.inr ⟨id, ?_,hb⟩)
     rw[a4 id l5]at hl
     rw[f4 id au]
     exact hl
  have ho:=R.I2 (w':=w') (B':=ak M φ (s.H.put (cc s.H.o ((V.bc all).filter fun id=>(s.o id).kQ)))) jP hnm ho
  cases out with
  |ret rs=>
   cases e with
   |returned val=>
    refine hN _ _ _ _ hK (nh hs k1 (a2.trans k2) (l9 ho) cD (by rw[AH]) ?_)
    intro id hu;rw[AH]at hu;exact Nat.lt_succ_of_lt hu
   |panicked ch=>exact vl
   |outgrown=>exact vl
  |bB x=>
   cases e with
   |returned val=>exact ho.elim
   |panicked ch=>
    obtain⟨val,rfl,hd⟩:=ho
    have xW:=ey hs k1 (a2.trans k2) (o':=put s.o (qy s.o (V.bc all))) (nx':=s.nx+1) (by rw[AH]) (fun id hu=>by rw[AH]at hu;exact Nat.lt_succ_of_lt hu)
    refine hQ _ _ _ _ val hK xW ?_
    have e1:ak M φ (S.H ⟨s.env,put s.o (qy s.o (V.bc all)),s.nx+1⟩)=ak M φ (s.H.put (cc s.H.o ((V.bc all).filter fun id=>(s.o id).kQ))):=by rw[AH];rfl
    simp only[V.den]
    rw[e1];exact hd
   |outgrown=>exact ho.elim
 ·exact wy hs cD eR aZ hC hN hQ
 ·obtain⟨f1,f2,f3,f4,f5⟩:=cF hs.heap (cT s.o all) (fY all _ s.o aZ)
  have gK:s.H.put (cc s.H.o (cT s.o all))=hp (put s.o (cc s.o (cT s.o all))) s.nx:=kR (by rw[sI];exact fY all _ s.o aZ)
  have mz:=I3 f1 all _ f3 (V.aN f2 _ _ aZ)
  rw[gK]at f1 f2 mz
  exact wy (s:=⟨s.env,put s.o (cc s.o (cT s.o all)),s.nx⟩) (ey hs f1 f2 rfl fun id hu=>hu) cD eR mz hC hN hQ
theorem Mn(hs:bW M cf H0 w0 n cx φ s a w){o:Oper}{c:Call}{f:Operand}(gy:o.op= .call c)(hc:c.callee= .value f)(cD:fX n o.dst)
 (h:AD P s (s.ev f) (c.args.toList.map s.ev) (fun v o' nx'=>K ⟨aU s.env o.dst v,o',nx'⟩) (fun v o' nx'=>X v ⟨s.env,o',nx'⟩))
 (hN:∀s' aC a' w',K s'->bW M cf H0 w0 n cx aC s' a' w'->next a' w')
 (hQ:∀v s' aC w' val,X v s'->bW M cf H0 w0 n cx aC s' a w'->V.den (ak M aC s'.H) aC s'.H w' v val->Q (.panic [{v:=val,recovered:=false}]) a w'):o.wpIn (dy ro) k P a w next Q:=by
 refine j6 (fun c' wz=>by rw[gy]at wz;cases wz) ?_
 have hf:=mi (M:=M) (φ:=φ) (H:=s.H) (w:=w) s a hs.env f
 have dB:=jW (M:=M) (φ:=φ) (H:=s.H) (w:=w) s a hs.env c.args.toList
 unfold AD at h
 split at h
 ·rename_i g first cap vm
  rw[vm]at hf
  obtain⟨fa,ca,R8,D5,hca⟩:=hf
  have aZ:V.az (ak M φ s.H) φ s.H w (first++c.args.toList.map s.ev++cap) (fa++c.args.map a.eval++ca).toList:=by
   exact Ov
  generalize first++c.args.toList.map s.ev++cap=all at h aZ
  generalize kJ:fa++c.args.map a.eval++ca=vals at aZ
  have eR:Enters P g->(execOp a.eval o).run P w= .ok (.enter g vals) w:=by
   intro he
   have:=kS (w:=w) he (fa++c.args.map a.eval++ca)
   rw[kJ]at this
   simp[execOp,gy,resolve,hc,R8,Deferred.ofValue,invoke,this,kJ]
  exact AG hs cD eR aZ h hN hQ
 ·rename_i id vm
  rw[vm]at hf
  obtain⟨_,dX,hp'⟩:=hf
  obtain⟨bE,hR⟩:=h
  obtain⟨b,dT,R8⟩:=hp' bE
  obtain⟨fn,tmps,assign,body,h1,h2⟩:=hR M φ w (c.args.map a.eval) b hs.heap (by rw[Array.toList_map];exact dB) dT
  have eR:(execOp a.eval o).run P w= .ok (.round b fn tmps assign body) w:=by
   simp[execOp,gy,resolve,hc,R8,Deferred.ofValue,invoke,h1]
  rw[eR]
  refine⟨fun hd=>by simp[dy]at hd,RoundIn.mono (h2 (k - 1)) fun e w' ⟨aC,o',nx',v,k1,k2,k3⟩=> ?_⟩
  cases e with
  |returned val=>exact Og
  |panicked ch=>
   obtain⟨val,rfl,k4,k5⟩:=k3
   exact W7
  |outgrown=>exact k3.elim
 ·exact h.elim
theorem Gf(hs:bW M cf H0 w0 n cx φ s a w){o:Oper}{c:Call}{r:Operand}{m:String}{g:FuncId}{y:V}(gy:o.op= .call c)(hc:c.callee= .invoke r m)(cD:fX n o.dst)(hr:tJ P m (s.ev r)=some (g,y))
 (h:tI P s g (y::c.args.toList.map s.ev) (fun v o' nx'=>K ⟨aU s.env o.dst v,o',nx'⟩) (fun v o' nx'=>X v ⟨s.env,o',nx'⟩))
 (hN:∀s' aC a' w',K s'->bW M cf H0 w0 n cx aC s' a' w'->next a' w')
 (hQ:∀v s' aC w' val,X v s'->bW M cf H0 w0 n cx aC s' a w'->V.den (ak M aC s'.H) aC s'.H w' v val->Q (.panic [{v:=val,recovered:=false}]) a w'):o.wpIn (dy ro) k P a w next Q:=by
 refine j6 (fun c' wz=>by rw[gy]at wz;cases wz) ?_
 have hf:=mi (M:=M) (φ:=φ) (H:=s.H) (w:=w) s a hs.env r
 have dB:=jW (M:=M) (φ:=φ) (H:=s.H) (w:=w) s a hs.env c.args.toList
 unfold tJ at hr
 split at hr
 ·rename_i t d hx
  rw[hx]at hf
  obtain⟨val,hv,hd⟩:=hf
  split at hr
  ·rename_i ti hti
   split at hr
   ·rename_i mr sO
    split at hr
    ·rename_i f Hy
     split at hr
     ·rename_i O1
      injection hr with hr
      injection hr with h1 h2
      subst h1;subst h2
      refine AG (vals:=#[val]++c.args.map a.eval) hs cD ?_ ?_ h hN hQ
      ·intro he
       have eR:=kS (w:=w) he (#[val]++c.args.map a.eval)
       have Yj:mr.path=#[]:=Array.isEmpty_iff.1 O1.1
       have hu:∃u,P.underlying t=some u/\∀e,u≠ .pointer e:=by
        have:=O1.2
        unfold O0 at this
        split at this
        ·cases this
        ·rename_i u jY hu;exact⟨u,hu,fun e he=>jY e he⟩
        ·cases this
       obtain⟨u,hu,O2⟩:=hu
       have hm:(method (P.types.size+Made.depth) t val m).run P w= .ok (f,val) w:=by
        have:P.types.size+Made.depth=(P.types.size+Made.depth - 1)+1:=by simp[Made.depth]
        rw[this]
        cases u<;>first|exact absurd rfl (O2 _)|simp[method,typeInfo,hti,sO,Yj,Hy,follow,receiverAt,run_underlying hu,_root_.Go.Place.get]
       have h0:(#[Value.iface t val]++Array.map a.eval c.args)[0]? =some (.iface t val):=by
        rw[Array.getElem?_append_left (by simp)];rfl
       have h1:(Array.map a.eval c.args).extract 0 c.args.size=Array.map a.eval c.args:=by
        rw[show c.args.size=(Array.map a.eval c.args).size from by simp,Array.extract_size]
       simp[execOp,gy,resolve,hc,invoke,callMethod,hv,h0,h1,hm,eR]
      ·simp only[Array.toList_append,Array.toList_map]
       exact⟨val,_,rfl,hd,dB⟩
     ·cases hr
    ·cases hr
   ·cases hr
  ·cases hr
 ·cases hr
theorem wA(hs:bW M cf H0 w0 n cx φ s a w){o:Oper}(h:opW P n s o X K)
 (hN:∀s' aC a' w',K s'->bW M cf H0 w0 n cx aC s' a' w'->next a' w')
 (hQ:∀v s' aC w' val,X v s'->bW M cf H0 w0 n cx aC s' a w'->V.den (ak M aC s'.H) aC s'.H w' v val->Q (.panic [{v:=val,recovered:=false}]) a w'):o.wpIn (dy ro) k P a w next Q:=by
 obtain⟨cD,h⟩:=h
 split at h
 ·rename_i c gy
  split at h
  ·rename_i f hc
   exact Mn hs gy hc cD h hN hQ
  ·rename_i r m hc
   split at h
   ·rename_i g y hr;exact Gf hs gy hc cD hr h hN hQ
   ·exact h.elim
  ·exact I1 hs rfl cD h hN
 ·rename_i x gy
  have hx:=mi (M:=M) (φ:=φ) (H:=s.H) (w:=w) s a hs.env x
  have bB:∀ (t:TypeId) (u:Value),a.eval x= .iface t u->Q (.panic [{v:= .iface t u,recovered:=false}]) a w->o.wpIn (dy ro) k P a w next Q:=by
   intro t u hu hq
   refine j6 (fun c hc=>by rw[gy]at hc;cases hc) ?_
   have hr:(execOp a.eval o).run P w= .halt (.panic (.iface t u)) w:=by simp[execOp,gy,hu,Instr.panic]
   rw[hr];exact hq
  split at h
  ·rename_i t y hv
   rw[hv]at hx
   obtain⟨u,hu,hd⟩:=hx
   exact Oj
  ·rename_i t y hv
   rw[hv]at hx
   obtain⟨u,hu,hd⟩:=hx
   exact Oj
  ·exact h.elim
 ·exact I1 hs rfl cD h hN
end
end
end Go.Proofs.YtnkamdiiakdkgaaGreat
namespace Go
def Code.sr (P:Program)(ro:Option Nat)(c:Code)(Q:Exit->Act->World->Prop)(a:Act)(w:World):Prop:=
 ∀ (b:Frame) (k:List Item) (cs:List Frame),b.roundOf=ro->b.fn<P.funcs.size->
   ∃e a' w',Q e a' w'/\ArrivesIn (Machine.fenced P (Proofs.YtnkamdiiakdkgaaGreat.dy ro)) P (lone (b.atR a (.code c::k)) cs w) b k cs e a' w'
end Go
namespace Go.Proofs.YtnkamdiiakdkgaaGreat
instance:LawfulMonad Sem:=LawfulMonad.mk' Sem (id_map:=fun x=>Sem.bind_pure' x) (pure_bind:=fun _ _=>rfl) (bind_assoc:=fun x f g=>Sem.bind_assoc' x f g)
section
variable {P:Program}{M:Nat->Prop}{φ:Place}{H:Hp}{w w':World}{cf:Place}{H0:Hp}{w0:World}{n b:Nat}{s:S}{a:Act}{cx:Cx}{ro:Option Nat}{k:Nat}
theorem pB(hs:bW M cf H0 w0 n cx φ s a w){ops:Array Oper}{o:Oper}{A B:Prop}(h:xU s ops o.guard A B):
 (Region.wanted o (yielded ops a.tmps)=true->A)/\(Region.wanted o (yielded ops a.tmps)=false->B):=by
 unfold xU at h
 unfold Region.wanted
 split at h
 ·rename_i hg;simp only[hg];exact⟨fun _=>h,fun h=>by cases h⟩
 ·rename_i j want hg
  simp only[hg]
  unfold ry at h
  unfold yielded
  split at h
  ·rename_i d hd
   simp only[hd,Option.bind_some]
   have dO:=hs.env d
   split at h
   ·rename_i c hv
    rw[hv]at dO
    simp only[V.den,D.den]at dO
    have:a.tmps[d]? =some (.bool c):=by
     rw[Array.getD_eq_getD_getElem?]at dO
     cases hx:a.tmps[d]? with
     |none=>rw[hx]at dO;simp[undef]at dO
     |some x=>rw[hx]at dO;simp at dO;rw[dO]
    simp only[this]
    by_cases hc:c=want
    ·subst hc;exact⟨fun _=>h.1 rfl,fun h=>by simp at h⟩
    ·exact⟨fun h'=>absurd (by simpa using h') hc,fun _=>h.2 hc⟩
   ·rename_i hv
    rw[hv]at dO
    obtain⟨arr,cV,hn⟩:=dO
    simp only[V.az]at hn
    have:∀c,a.tmps[d]? ≠some (.bool c):=by
     exact OQ
    cases hx:a.tmps[d]? with
    |none=>exact⟨fun h=>by simp at h,fun _=>h⟩
    |some x=>cases x<;>first|(exact absurd hx (this _))|(exact⟨fun h=>by simp at h,fun _=>h⟩)
   ·exact h.elim
  ·rename_i hd
   simp only[hd,Option.bind_none]
   exact⟨fun h=>by simp at h,fun _=>h⟩
theorem AJ(hs:bW M cf H0 w0 n cx φ s a w){dst:Option Tmp}(cD:fX n dst):bW M cf H0 w0 n cx φ ⟨aU s.env dst (.bT []),s.o,s.nx+1⟩ (a.put dst undef) w:=
 nh (v:= .bT []) (val:=undef) hs hs.heap (Trans.refl _ _ _) ⟨#[],rfl,rfl⟩ cD rfl fun _ hu=>Nat.lt_succ_of_lt hu
theorem ox{ops:Array Oper}{X:V->S->Prop}{K:S->Prop}{Q:Exit->Act->World->Prop}
 (hK:∀s φ a w,K s->bW M cf H0 w0 n cx φ s a w->Q .normal a w)
 (hQ:∀v s' aC a w' val,X v s'->bW M cf H0 w0 n cx aC s' a w'->V.den (ak M aC s'.H) aC s'.H w' v val->Q (.panic [{v:=val,recovered:=false}]) a w'):
 ∀ (l:List Oper) (s:S) (φ:Place) (a:Act) (w:World),xV P n ops X K l s->bW M cf H0 w0 n cx φ s a w->wpListIn (dy ro) k P ops Q l a w
 |[],s,φ,a,w,h,hs=>hK s φ a w h hs
 |o::l,s,φ,a,w,h,hs=>by
  obtain⟨h1,h2⟩:=pB hs h
  unfold wpListIn
  split
  ·rename_i hw
   exact wA hs (h1 hw) (fun s' aC a' w' hk jQ=>ox hK hQ l s' aC a' w' hk jQ) (fun v s' aC w' val hx jQ hd=>hQ v s' aC a w' val hx jQ hd)
  ·rename_i hw
   obtain⟨cD,h3⟩:=h2 (by simpa using hw)
   exact⟨fun _ _=>trivial,ox hK hQ l _ _ _ _ h3 (AJ hs cD)⟩
def Ek(M:Nat->Prop)(cf:Place)(H0:Hp)(w0:World)(n:Nat)(cx:Cx)(Q:fL->S->Prop)(e:Exit)(a:Act)(w:World):Prop:=
 ∃x s φ,Q x s/\bW M cf H0 w0 n cx φ s a w/\match e,x with
  | .normal, .normal=>True
  | .exit i, .exit j=>i=j
  | .ret, .ret=>True
  | .panic ch, .bB v=>∃val,ch=[{v:=val,recovered:=false}]/\V.den (ak M φ s.H) φ s.H w v val
  |_,_=>False
section
variable {Q:Exit->Act->World->Prop}
theorem fZ{m:Nat}:(dy ro).room m:=fun d hd=>by simp[dy]at hd
theorem oz{c:Code}(h:c.wpIn (dy ro) k P Q a w):c.sr P ro Q a w:=fun b k cs sO _=>h b k cs sO trivial fZ
theorem gf{c:Code}{Q':Exit->Act->World->Prop}(h:c.sr P ro Q a w)(hq:∀e a w,Q e a w->Q' e a w):c.sr P ro Q' a w:=
 fun b k cs sO hb=>let⟨e,a',w',q,r⟩:=h b k cs sO hb;⟨e,a',w',hq _ _ _ q,r⟩
theorem El(h:Q .ret a w):Code.ret.sr P ro Q a w:=oz (k:=0) (wpIn_ret h)
theorem AK{id:Nat}(h:Q (.exit id) a w):(Code.exit id).sr P ro Q a w:=oz (k:=0) (wpIn_exit h)
theorem xY{x y:Code}(h:x.sr P ro (Exit.then (y.sr P ro Q) Q) a w):(Code.seq x y).sr P ro Q a w:=by
 intro b k cs sO hb
 have h0:(lone (b.atR a (.code (.seq x y)::k)) cs w).fenced P (dy ro):=fenced_calm (n:=0) trivial fZ rfl
 obtain⟨e,nE,jk,hq,cV⟩:=h b (.code y::k) cs sO hb
 cases e with
 |normal=>
  obtain⟨R9,Yk,qJ,pC,j7⟩:=hq b k cs sO hb
  exact⟨R9,Yk,qJ,pC, .of_steps (.head h0 stepR_seq cV) j7⟩
 |exit id=>exact HS
 |goto l=>exact HS
 |ret=>exact HS
 |panic ch=>exact HS
 |outgrown=>exact HS
theorem pD{c:Operand}{x y:Code}{t:Bool}(hc:a.eval c= .bool t)(h:(if t then x else y).sr P ro Q a w):(Code.cond c x y).sr P ro Q a w:=
 fun b k cs sO hb=>let⟨e,a',w',q,r⟩:=h b k cs sO hb;⟨e,a',w',q, .of_steps (.one (fenced_calm (n:=0) trivial fZ rfl) (stepR_cond hc)) r⟩
theorem Gg{id:Nat}{c:Code}(h:c.sr P ro (Exit.inBlock id Q) a w):(Code.block id c).sr P ro Q a w:=by
 intro b k cs sO hb
 have h0:(lone (b.atR a (.code (.block id c)::k)) cs w).fenced P (dy ro):=fenced_calm (n:=0) trivial fZ rfl
 obtain⟨e,nE,jk,hq,cV⟩:=h b (.inBlock id::k) cs sO hb
 cases e with
 |normal=>exact⟨.normal,nE,jk,hq, .head h0 stepR_block (StepsIn.trans cV (.one (fenced_calm (n:=0) trivial fZ rfl) stepR_inBlock))⟩
 |exit Cr=>
  by_cases au:Cr=id
  ·simp only[Exit.inBlock,au,if_true]at hq
   exact⟨.normal,nE,jk,hq, .head h0 stepR_block (cV.1 k (by simp[exitTo,au]))⟩
  ·simp only[Exit.inBlock,au,if_false]at hq
   have this:(id==Cr)=false:=by simp;exact fun h=>au h.symm
   have hx:exitTo Cr (.inBlock id::k)=exitTo Cr k:=by simp[exitTo,this]
   exact⟨.exit Cr,nE,jk,hq,fun k' hk=> .head h0 stepR_block (cV.1 k' vV),
    fun xS hk=>let⟨k₁,h1,h2⟩:=cV.2 xS vV;⟨k₁,h1, .head h0 stepR_block h2⟩⟩
 |goto l=>
  have hx:gotoIn l (.inBlock id::k)=gotoIn l k:=by simp[gotoIn]
  exact⟨_,nE,jk,hq,fun k' hk=> .head h0 stepR_block (cV.1 k' vV),
   fun xS hk=>let⟨k₁,h1,h2⟩:=cV.2 xS vV;⟨k₁,h1, .head h0 stepR_block h2⟩⟩
 |ret=>exact Rr
 |panic ch=>exact Rr
 |outgrown=>exact Rr
theorem jU{b:Frame}{k:List Item}{cs:List Frame}{c:Code}:step P (lone (b.atR a (.code (.scope c)::k)) cs w)= .next (lone (b.atR a (.code c:: .inScope c::k)) cs w):=
 step_lone_go (by simp[stepG,stepG.exec,Frame.atR])
theorem vz{b:Frame}{k:List Item}{cs:List Frame}{c:Code}:step P (lone (b.atR a (.inScope c::k)) cs w)= .next (lone (b.atR a k) cs w):=
 step_lone_go (by simp[stepG,stepG.exec,Frame.atR])
theorem wB{c:Code}(h:c.sr P ro Q a w)(hg:∀l a w, ¬Q (.goto l) a w):(Code.scope c).sr P ro Q a w:=by
 intro b k cs sO hb
 have h0:(lone (b.atR a (.code (.scope c)::k)) cs w).fenced P (dy ro):=fenced_calm (n:=0) trivial fZ rfl
 obtain⟨e,nE,jk,hq,cV⟩:=h b (.inScope c::k) cs sO hb
 cases e with
 |normal=>exact⟨.normal,nE,jk,hq, .head h0 jU (StepsIn.trans cV (.one (fenced_calm (n:=0) trivial fZ rfl) vz))⟩
 |exit Cr=>
  have hx:exitTo Cr (.inScope c::k)=exitTo Cr k:=by simp[exitTo]
  exact⟨.exit Cr,nE,jk,hq,fun k' hk=> .head h0 jU (cV.1 k' vV),
   fun xS hk=>let⟨k₁,h1,h2⟩:=cV.2 xS vV;⟨k₁,h1, .head h0 jU h2⟩⟩
 |goto l=>exact(hg _ _ _ hq).elim
 |ret=>exact Rs
 |panic ch=>exact Rs
 |outgrown=>exact Rs
def tM(P:Program)(l:Nat)(Q:Exit->Act->World->Prop)(a':Act):Ending->World->Prop
 | .returned _,CS=>∃jump ss,(Instr.endLoop l).run P CS= .ok jump ss/\(match jump with|none=>Q .normal a' ss|some c=>c.sr P none Q a' ss)
 | .panicked chain,CS=>Q (.panic chain) a' CS
 | .outgrown,_=>LetsOut Q
theorem vA{g:Operand}{ps:Array Tmp}{assign body:Code}
 (h:∀fn,fn<P.funcs.size->∃ (l:Nat) (mark:List Deferred) (jk:World) (d:Deferred) (wC:World) (f:FuncId) (args:Array Value) (qJ:World),
  (Instr.enterLoop fn a.tmps ps assign body (dy none).round).run P w= .ok (l,mark) jk/\(resolve a.eval (rangeCall g l) 0).run P jk= .ok d wC/\
  (invoke d.target d.args).run P wC= .ok (.enter f args) qJ/\CallsIn (dy none) 0 P f args qJ (tM P l Q {a with defers:=mark++a.defers})):
 (Code.rangeFunc g ps assign body).sr P none Q a w:=by
 intro b k cs sO hb
 obtain⟨l,mark,jk,d,wC,f,args,qJ,he,xZ,hinv,hF,eD⟩:=h b.fn hb
 rw[show(dy none).round=b.roundOf from sO.symm]at he
 have calm:∀ (m:Machine),m.fenced P (dy none)↔m.fenced P Fence.wide:=fun m=>Iff.rfl
 have h0:(lone (b.atR a (.code (.rangeFunc g ps assign body)::k)) cs w).fenced P (dy none):=(calm _).2 (fenced_wide P _)
 have lE:=stepR_rangeFunc (P:=P) (b:=b) (a:=a) (k:=k) (cs:=cs) (w:=w) he xZ hinv
 obtain⟨e,CS,fr,hR,CT,Hy,I4⟩:=eD (b.atR {a with defers:=mark++a.defers} (.inRangeFunc l::k)::cs) fZ
 cases e with
 |outgrown=>
  obtain⟨acb,acd,hq⟩:=hR
  exact⟨.outgrown,acb,acd,hq, .inr (Outgrown.of_steps (.one lE) CT)⟩
 |returned v=>
  obtain⟨jump,ss,cu,hj⟩:=hR
  have O3:StepsIn (Machine.fenced P (dy none)) P (lone (b.atR a (.code (.rangeFunc g ps assign body)::k)) cs w) (lone (b.atR {a with defers:=mark++a.defers} ((jump.map Item.code).toList++k)) cs ss):=by
   refine .head h0 lE (StepsIn.trans CT (.head ((calm _).2 (fenced_wide P _)) ?_ (.one ((calm _).2 (fenced_wide P _)) (stepR_endRangeFunc cu))))
   rw[<- finish_atR_inRangeFunc l v];exact step_leave_returned I4
  cases jump with
  |none=>exact⟨.normal,_,ss,hj,O3⟩
  |some c=>
   obtain⟨e',a'',ace,hq,cV⟩:=hj b k cs sO hb
   exact⟨e',a'',ace,hq, .of_steps O3 cV⟩
 |panicked chain=>
  refine⟨.panic chain,_,CS,hR, .inRangeFunc l::k, .head h0 lE (StepsIn.trans CT (.one ((calm _).2 (fenced_wide P _)) ?_))⟩
  rw[<- Frame.raise_atR];exact step_leave_panicked I4
end
theorem wD(hH:aw M φ H w){id l:Nat}(dX:H.us id){nf m:Nat}{env:List V}{ps:List Nat}{jn fl:IC}{st st':LoopState}{pd pd':Option jL}(ho:H.o id= .loop nf m env ps jn fl st pd)(dT:φ id= .pointer (some ⟨l,0,none⟩)):
 ∃r,w.heap[l]? =some (.loop r)/\r.state=st/\r.pending=pd.map jL.code/\
  aw M φ (H.put [(id, .loop nf m env ps jn fl st' pd')]) {w with heap:=w.heap.setIfInBounds l (.loop {r with state:=st',pending:=pd'.map jL.code})}/\
  Trans φ H w φ (H.put [(id, .loop nf m env ps jn fl st' pd')]) {w with heap:=w.heap.setIfInBounds l (.loop {r with state:=st',pending:=pd'.map jL.code})}:=by
 have aS:=hH.ok id
 simp only[aM,ho]at aS
 obtain⟨b,r,h1,h2,h0,h3,h4,h5,h6,h7,h8,h9⟩:=aS
 rw[dT]at h1;simp at h1;subst h1
 refine⟨r,h2,h3,h4, ?_⟩
 have IU:dx (· =l) w {w with heap:=w.heap.setIfInBounds l (.loop {r with state:=st',pending:=pd'.map jL.code})}:=
  ⟨rfl,rfl,rfl,aJ,fun j _ hj=>(MapKept.heap_set h2).2 j hj⟩
 have tD:(H.o id).live=true:=by rw[ho];rfl
 have CO:de (φ id)=some l:=by rw[dT];rfl
 have ht:=eB (w:=w) (w':={w with heap:=w.heap.setIfInBounds l (.loop {r with state:=st',pending:=pd'.map jL.code})}) dX tD CO IU (.loop nf m env ps jn fl st' pd') ew ew
 refine⟨gI hH dX tD CO IU _ ew ew ?_,ht⟩
 unfold aM
 simp only[bA,aG,if_true]
 exact⟨l,_,dT,(MapKept.heap_set h2).1,h0,rfl,rfl,h5,h6,h7,h8,fun i=>V.aK ht _ _ (h9 i)⟩
theorem iL{l:Nat}{r:Loop}(o:Obj)(hb:w.heap[l]? =some (.loop r)):(setObj l o).run P w= .ok () {w with heap:=w.heap.setIfInBounds l o}:=by
 simp[setObj,Sem.run,hb]
theorem j8{l:Nat}{r:Loop}(hb:w.heap[l]? =some (.loop r)):(Instr.getLoop l).run P w= .ok r w:=by
 simp[Instr.getLoop,getObj,Sem.run,hb,Result.andThen]
end
def oA(Q:fL->S->Prop)(pd:Option jL)(s:S):Prop:=
 match pd with
 |none=>Q .normal s
 |some .ret=>Q .ret s
 |some (.exit id)=>Q (.exit id) s
def AL(P:Program)(n:Nat)(g:V)(ps:List Nat)(jn fl:IC)(Q:fL->S->Prop)(s:S):Prop:=
 ∃env,(∀i,a7 env i= .aa\/a7 env i=s.env i)/\
  match g with
  | .func (.func f) first cap=>nQ P f (first++[.iW s.nx]++cap) (aD s.o s.nx (.loop P.funcs.size n env ps jn fl .ready none)) (s.nx+1)
    (fun _ o' nx'=>∃nf m e p c d st pd,o' s.nx= .loop nf m e p c d st pd/\st≠ .busy/\oA Q pd ⟨s.env,aD o' s.nx (.loop nf m e p c d .exhausted pd),nx'⟩)
    (fun v o' nx'=>Q (.bB v) ⟨s.env,o',nx'⟩)
  |_=>False
def Yl(P:Program)(n b:Nat)(g:Operand)(ps:List Nat)(jn fl:IC)(Q:fL->S->Prop)(s:S):Prop:=∃s',(s'=s\/br b s s')/\AL P n (s'.ev g) ps jn fl Q s'
def iS(P:Program)(n b:Nat)(rd:Bool):Code->(fL->S->Prop)->S->Prop
 | .skip,Q,s=>Q .normal s
 | .label _,Q,s=>Q .normal s
 | .scope x,Q,s=>iS P n b rd x Q s
 | .region _ ops false,Q,s=>xV P n ops (fun v s=>Q (.bB v) s) (Q .normal) ops.toList s
 | .region id ops true,Q,s=>∀M cf H0 w0 cx φ a w ro k,bW M cf H0 w0 n cx φ s a w->(Code.region id ops true).wpIn (dy ro) k P (Ek M cf H0 w0 n cx Q) a w
 | .seq x y,Q,s=>iS P n b rd x (pA (iS P n b rd y Q) Q) s
 | .cond c x y,Q,s=>match s.ev c with
   | .d (.bool t)=>(t=true->iS P n b rd x Q s)/\(t=false->iS P n b rd y Q s)
   | .eW=>iS P n b rd x Q s/\iS P n b rd y Q s
   |_=>False
 | .block id x,Q,s=>iS P n b rd x (eX id Q) s
 | .loop x,Q,s=>∃ (J:Nat->S->Prop),(∃m s1,br b s s1/\J m s1)/\∀m s0,J m s0->iS P n b rd x (fun e s=>match e with| .normal=>∃m' s1,m'<m/\br b s s1/\J m' s1|e=>Q e s) s0
 | .exit id,Q,s=>Q (.exit id) s
 | .ret,Q,s=>Q .ret s
 | .rangeFunc g ps x y,Q,s=>rd=false/\Yl P n b g ps.toList (low n x) (low n y) Q s
 |_,_,_=>False
section
variable {P:Program}{M:Nat->Prop}{φ:Place}{H:Hp}{w w':World}{cf:Place}{H0:Hp}{w0:World}{n b:Nat}{s:S}{a:Act}{cx:Cx}{ro:Option Nat}{k:Nat}
theorem CU(hb:∀id,H0.us id->id<b)(hs:bW M cf H0 w0 n cx φ s a w){s':S}(h:br b s s'):∃aC,bW M cf H0 w0 n cx aC s' a w:=by
 obtain⟨aC,h1,h2,h3,h4,h5,h6⟩:=h M φ w (fun i=>a.tmps.getD i undef) hs.heap hs.env
 refine⟨aC,h1,⟨hs.tr.keep,fun k hk=>hs.tr.grow k (h3 k hk),⟨fun id hu=>Nat.lt_of_lt_of_le (hb id hu) h4,fun id hu hr=> ?_,fun id e' hu he=> ?_⟩⟩,hs.size, ?_,h2⟩
 ·obtain⟨g1,g2⟩:=h5 id (hb id hu) hr
  obtain⟨g3,g4⟩:=hs.tr.rel.row id hu g1
  exact⟨g3,g2.trans g4⟩
 ·obtain⟨e,g1,g2,g3⟩:=h6 id e' (hb id hu) he
  obtain⟨e0,k1,k2,k3⟩:=hs.tr.rel.ep id e hu g1
  refine⟨e0,k1,Nat.le_trans k2 g2,fun heq=> ?_⟩
  have a1:e0=e:=ae
  have a2:e=e':=ae
  exact(g3 a2).trans (k3 a1)
 ·obtain⟨ms,g1,g2,g3,g4⟩:=hs.defers
  exact⟨ms,g1,g2,g3,fun r hr=>⟨(g4 r hr).1,(g4 r hr).2.1,fun hl=>(g4 r hr).2.2 (h3 r hl)⟩⟩
theorem x6{c:Code}{Q:Exit->Act->World->Prop}(J:Nat->Act->World->Prop)(round:∀m a w,J m a w->c.sr P ro (Exit.then (fun a' w'=>∃m',m'<m/\J m' a' w') Q) a w):
 ∀m a w,J m a w->(Code.loop c).sr P ro Q a w:=by
 intro m a w h0 fr kk cs sO hb
 have hr:(dy ro).room (cs.length+1+0):=fun d hd=>by simp[dy]at hd
 have key:∀m a w,J m a w->∃e a' w',Q e a' w'/\ArrivesIn (Machine.fenced P (dy ro)) P (lone (fr.atR a (.code c:: .inLoop c::kk)) cs w) fr kk cs e a' w':=by
  intro m
  induction m using Nat.strongRecOn with
  |_ m ih=>
   intro a w hJ
   obtain⟨e,a1,w1,hq,cV⟩:=round m a w hJ fr (.inLoop c::kk) cs sO hb
   cases e with
   |normal=>
    obtain⟨m',cm,hJ'⟩:=hq
    obtain⟨e2,a2,w2,Lz,Em⟩:=ih m' cm a1 w1 hJ'
    exact⟨e2,a2,w2,Lz, .of_steps (StepsIn.trans cV (.one (fenced_calm trivial hr rfl) stepR_inLoop)) Em⟩
   |_=>exact⟨_,a1,w1,hq, .pass (x:= .inLoop c) rfl (fun _ _=> .inl aJ) cV⟩
 obtain⟨e,a',w',hq,cV⟩:=key m a w h0
 exact⟨e,a',w',hq, .of_steps (.one (fenced_calm trivial hr rfl) stepR_loop) cV⟩
theorem wE(hs:bW M cf H0 w0 n cx φ s a w)(nG:cx.rd=false)(sO:ro=none){g:Operand}{ps:Array Tmp}{x y:Code}{Q:fL->S->Prop}(h:AL P n (s.ev g) ps.toList (low n x) (low n y) Q s):
 (Code.rangeFunc g ps x y).sr P ro (Ek M cf H0 w0 n cx Q) a w:=by
 subst sO
 obtain⟨env,dO,h⟩:=h
 refine vA fun fn Hy=> ?_
 let CV:Loop:={state:= .ready,pending:=none,fn:=fn,tmps:=a.tmps,params:=ps,assign:=x,body:=y,defers:=w.heap.size}
 let w1:World:=(w.alloc (.deferred (some []))).alloc (.loop CV)
 let l:Nat:=w.heap.size+1
 have lE:(Instr.enterLoop fn a.tmps ps x y (dy none).round).run P w= .ok (l,[mark w.heap.size]) w1:=by
  simp[Instr.enterLoop,dy,mark,w1,l,CV]
 have Ym:dx (fun _=>False) w w1:=by
  have k1:=cj w (.deferred (some []))
  have k2:=cj (w.alloc (.deferred (some []))) (.loop CV)
  exact⟨k2.os.trans k1.os,k2.tape.trans k1.tape,k2.output.trans k1.output,Nat.le_trans k1.size k2.size,fun j hj hm=>(k2.block j (Nat.lt_of_lt_of_le hj k1.size) hm).trans (k1.block j hj hm)⟩
 let iI:=aD φ s.nx (.pointer (some ⟨l,0,none⟩))
 let s1:S:=⟨s.env,aD s.o s.nx (.loop P.funcs.size n env ps.toList (low n x) (low n y) .ready none),s.nx+1⟩
 have cL: ¬s.H.us s.nx:=by simp[S.H]
 have eK:∀b,de (.pointer (some ⟨l,0,none⟩))=some b->w.heap.size<=b/\b<w1.heap.size:=by
  intro b hb;simp[de]at hb;subst hb;simp[l,w1]
 have zM:=dU (φ:=φ) (H:=s.H) Ym cL (.loop P.funcs.size n env ps.toList (low n x) (low n y) .ready none) (.pointer (some ⟨l,0,none⟩)) fun b hb=>(eK b hb).1
 have Mh:(w.alloc (.deferred (some []))).heap.size=w.heap.size+1:=aJ
 have tD:w1.heap[l]? =some (.loop CV):=by
  have:=heap_alloc_new (w.alloc (.deferred (some []))) (.loop CV)
  rwa [Mh]at this
 have FO:=ik hs.heap Ym cL (.loop P.funcs.size n env ps.toList (low n x) (low n y) .ready none) (.pointer (some ⟨l,0,none⟩)) eK (by
  unfold aM
  simp only[bA,aG,if_true]
  refine⟨l,CV,rfl,tD,Hy,rfl,rfl,rfl,hs.size,rfl,rfl,fun i=> ?_⟩
  rcases dO i with e|e
  ·rw[e];trivial
  ·rw[e];exact V.aK zM _ _ (hs.env i))
 have wF:bW M cf H0 w0 n cx iI s1 {a with defers:=mark w.heap.size::a.defers} w1:=by
  have base:=ey hs FO zM (o':=aD s.o s.nx (.loop P.funcs.size n env ps.toList (low n x) (low n y) .ready none)) (nx':=s.nx+1) rfl (I0 fun id au=>by simp at au;exact .inr au)
  refine⟨base.heap,base.tr,base.size, ?_,base.env⟩
  obtain⟨ms,g1,g2,g3,g4⟩:=base.defers
  obtain⟨ms',q1,q2,q3,q4⟩:=hs.defers
  have hmm:ms.map mark=ms'.map mark:=by
   have:ms.map mark++cx.base=ms'.map mark++cx.base:=g1.symm.trans q1
   exact List.append_cancel_right this
  have Sa:ms=ms':=by
   have hm:∀a b,mark a=mark b->a=b:=fun a b h=>by simpa[mark]using h
   exact List.map_inj_right hm |>.1 hmm
  refine⟨w.heap.size::ms,by rw[g1];rfl,List.nodup_cons.2 ⟨fun hm=> ?_,g2⟩,(fun h=>by rw[nG]at h;cases h),fun r hr=> ?_⟩
  ·have:=(q4 w.heap.size (Sa ▸ hm)).2.1
   rw[Array.getElem?_eq_none (Nat.le_refl _)]at this;cases this
  ·rcases List.mem_cons.1 hr with rfl|hr
   ·refine⟨hs.tr.keep.size,(RowKit.Below.heap_alloc (w.alloc (.deferred (some []))) (.loop CV) w.heap.size (by rw[Mh];omega)).trans (heap_alloc_new w _), ?_⟩
    rintro⟨id,i1,i2⟩
    by_cases e:id=s.nx
    ·subst e;simp[iI,de,l]at i2
    ·have i1':(s.H.o id).live=true:=by simpa[s1,S.H,e]using i1
     have i2':de (φ id)=some w.heap.size:=by simpa[iI,e]using i2
     have:=(hs.heap.ours _ ⟨id,i1',i2'⟩).2
     omega
   ·exact g4 r hr
 have acf:V.den (ak M iI s1.H) iI s1.H w1 (.iW s.nx) (.func (.yield l) #[] #[]):=
  ⟨rfl,by simp[s1,S.H],fun _=>⟨l,by simp[iI],rfl⟩⟩
 have hg:=mi (M:=M) (φ:=iI) (H:=s1.H) (w:=w1) s1 {a with defers:=mark w.heap.size::a.defers} wF.env g
 have acg:s1.ev g=s.ev g:=by cases g<;>rfl
 rw[acg]at hg
 have hae:({a with defers:=mark w.heap.size::a.defers}:Act).eval g=a.eval g:=rfl
 rw[hae]at hg
 split at h
 ·rename_i f first cap hgv
  rw[hgv]at hg
  obtain⟨fa,ca,R8,D5,hca⟩:=hg
  have fin:∀ (all:List V) (o2:Nat->ab) (s2:S),s2=⟨s.env,o2,s.nx+1⟩->bW M cf H0 w0 n cx iI s2 {a with defers:=mark w.heap.size::a.defers} w1->V.az (ak M iI s2.H) iI s2.H w1 all (fa++#[Value.func (.yield l) #[] #[]]++ca).toList->(o2 s.nx).b7=true->
   cX P f all o2 (s.nx+1) (fun _ o' nx'=>∃nf m e p c d st pd,o' s.nx= .loop nf m e p c d st pd/\st≠ .busy/\oA Q pd ⟨s.env,aD o' s.nx (.loop nf m e p c d .exhausted pd),nx'⟩) (fun v o' nx'=>Q (.bB v) ⟨s.env,o',nx'⟩)->
   ∃ (l:Nat) (mark:List Deferred) (jk:World) (d:Deferred) (wC:World) (f:FuncId) (args:Array Value) (qJ:World),
     (Instr.enterLoop fn a.tmps ps x y (dy none).round).run P w= .ok (l,mark) jk/\(resolve a.eval (rangeCall g l) 0).run P jk= .ok d wC/\
     (invoke d.target d.args).run P wC= .ok (.enter f args) qJ/\CallsIn (dy none) 0 P f args qJ (tM P l (Ek M cf H0 w0 n cx Q) {a with defers:=mark++a.defers}):=by
   intro all o2 s2 ach LA aZ bE hC
   subst ach
   have eD:=hC.2 M iI w1 _ LA.heap aZ
   refine⟨l,[mark w.heap.size],w1,{target:= .fn (.func f) ca,args:=fa++#[Value.func (.yield l) #[] #[]]},w1,f,fa++#[Value.func (.yield l) #[] #[]]++ca,w1,lE, ?_, ?_,cR (eD.mono fun e w' ⟨aC,o',nx',v,k1,k2,k3⟩=> ?_)⟩
   ·simp only[resolve,R8,Deferred.ofValue,List.map_toArray,List.map_cons,List.map_nil,Sem.run_pure]
    rfl
   ·simp[invoke,kS hC.1]
   ·cases e with
    |returned val=>
     obtain⟨k4,nf,m,e,p,c,d,st,pd,k5,k6,k7⟩:=k3
     have En:bW M cf H0 w0 n cx aC ⟨s.env,o',nx'⟩ {a with defers:=mark w.heap.size::a.defers} w':=ey LA k1 k2 rfl fun id hu=>hu
     have Sb:aC s.nx= .pointer (some ⟨l,0,none⟩):=by
      have:=(k2.rel.row s.nx (show s.nx<s.nx+1 from ae) (by show(o' s.nx).b7=true;rw[k5];rfl)).2
      rw[this];simp[iI]
     have cm:s.nx<nx':=k2.rel.us s.nx (show s.nx<s.nx+1 from ae)
     obtain⟨r,r1,r2,r3,r4,r5⟩:=wD (st':= .exhausted) (pd':=pd) k1 cm (show(hp o' nx').o s.nx=_ from k5) Sb
     have cu:(Instr.endLoop l).run P w'= .ok (pd.map jL.code) {w' with heap:=w'.heap.setIfInBounds l (.loop {r with state:= .exhausted,pending:=pd.map jL.code})}:=by
      have e1:({r with state:= .exhausted}:Loop)={r with state:= .exhausted,pending:=pd.map jL.code}:=by rw[<- r3]
      have hnb:(r.state==LoopState.busy)=false:=by rw[r2];cases st<;>first|rfl|exact absurd rfl k6
      simp only[Instr.endLoop,Sem.run_bind,j8 r1,Result.andThen_ok,hnb,Bool.false_eq_true,if_false,Sem.run_pure]
      rw[iL _ r1,e1]
      simp[r3]
     have Vv:=ey En r4 r5 (o':=aD o' s.nx (.loop nf m e p c d .exhausted pd)) (nx':=nx') rfl fun id hu=>by
      simp only[dJ]at hu
      rcases hu with hu|hu
      ·exact hu
      ·subst hu;exact cm
     refine⟨pd.map jL.code,_,cu, ?_⟩
     cases pd with
     |none=>exact⟨.normal,_,_,k7,Vv,trivial⟩
     |some j=>
      cases j with
      |ret=>exact El ⟨.ret,_,_,k7,Vv,trivial⟩
      |exit id=>exact AK ⟨.exit id,_,_,k7,Vv,rfl⟩
    |panicked ch=>
     obtain⟨val,rfl,k4,k5⟩:=k3
     have En:bW M cf H0 w0 n cx aC ⟨s.env,o',nx'⟩ {a with defers:=mark w.heap.size::a.defers} w':=ey LA k1 k2 rfl fun id hu=>hu
     exact⟨.bB v,_,_,k5,En,val,rfl,k4⟩
    |outgrown=>exact k3.elim
  have mz:V.az (ak M iI s1.H) iI s1.H w1 (first++[V.iW s.nx]++cap) (fa++#[Value.func (.yield l) #[] #[]]++ca).toList:=by
   rw[Array.toList_append,Array.toList_append]
   exact V.oZ D5 ⟨_,[],rfl,acf,rfl⟩ hca
  rcases h with hC|hC
  ·exact fin _ _ s1 rfl wF mz (by simp;rfl) hC
  ·have oT:s1.o=aD s.o s.nx (.loop P.funcs.size n env ps.toList (low n x) (low n y) .ready none):=rfl
   obtain⟨f1,f2,f3,f4,f5⟩:=cF wF.heap (cT s1.o (first++[V.iW s.nx]++cap)) (fY _ _ s1.o mz)
   have gK:s1.H.put (cc s1.H.o (cT s1.o (first++[V.iW s.nx]++cap)))=hp (put s1.o (cc s1.o (cT s1.o (first++[V.iW s.nx]++cap)))) s1.nx:=kR (by rw[sI];exact fY _ _ s1.o mz)
   have O4:=I3 f1 _ _ f3 (V.aN f2 _ _ mz)
   have O5:((s1.H.put (cc s1.H.o (cT s1.o (first++[V.iW s.nx]++cap)))).o s.nx).b7=true:=by
    by_cases hm:s.nx∈cT s1.o (first++[V.iW s.nx]++cap)
    ·rw[f3 _ hm];simp[s1,S.H,ab.fz,ab.b7]
    ·rw[f4 _ hm];simp[s1,S.H,ab.b7]
   rw[gK]at f1 f2 O4 O5
   exact fin _ (put s1.o (cc s1.o (cT s1.o (first++[V.iW s.nx]++cap)))) ⟨s.env,_,s.nx+1⟩ rfl (ey wF f1 f2 rfl fun id hu=>hu) O4 O5 hC
 ·exact h.elim
end
end Go.Proofs.YtnkamdiiakdkgaaGreat
