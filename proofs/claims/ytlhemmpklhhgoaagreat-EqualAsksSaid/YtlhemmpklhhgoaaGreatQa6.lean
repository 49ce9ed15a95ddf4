/-
  A PART OF THE PROOF. Conditions: none.
-/
import Derived.RangeFuncLeaves
import Derived.TacticsIn
import Derived.RecoverIn
import Derived.Test.YtlhemmpklhhgoaaGreatQa5
set_option linter.unusedSimpArgs false
set_option linter.unusedVariables false
namespace Go.Proofs.YtlhemmpklhhgoaaGreat
inductive R where
 |ret (ds:List D)|bB (d:D)
def R.is (B:Nat->Prop)(w:World):R->Ending->Prop
 | .ret [x], .returned v=>D.den B w x v
 | .ret ds, .returned v=>∃a,v= .tuple a/\D.az B w ds a.toList
 | .bB d, .panicked chain=>∃v,chain=[{v:=v,recovered:=false}]/\D.den B w d v
 |_,_=>False
def Enters(P:Program)(f:FuncId):Prop:=∃fn,P.funcs[f]? =some fn/\(fn.name== "runtime.NumGoroutine")=false/\fn.body.isNone=false
def aV(P:Program)(f:FuncId)(ds:List D)(out:R):Prop:=
 Enters P f/\∀ (M:Nat->Prop) (w:World) (vals:Array Value),(∀b,M b->b<w.heap.size)->D.az M w ds vals.toList->
  Calls P f vals w fun e w'=>eh (fun _=>False) w w'/\out.is M w' e
def hp(o:Nat->aa)(nx:Nat):Hp:=⟨o,fun id=>id<nx⟩
def mA(M:Nat->Prop)(φ:Place)(H:Hp)(w:World)(K X:V->(Nat->aa)->Nat->Prop)(e:Ending)(w':World):Prop:=
 ∃aC o' nx' v,ax M aC (hp o' nx') w'/\Trans φ H w aC (hp o' nx') w'/\match e with
  | .returned val=>V.den (ak M aC (hp o' nx')) aC (hp o' nx') w' v val/\K v o' nx'
  | .panicked ch=>∃val,ch=[{v:=val,recovered:=false}]/\V.den (ak M aC (hp o' nx')) aC (hp o' nx') w' v val/\X v o' nx'
  | .outgrown=>False
def cO(P:Program)(f:FuncId)(args:List V)(o:Nat->aa)(nx:Nat)(K X:V->(Nat->aa)->Nat->Prop):Prop:=
 Enters P f/\∀ (M:Nat->Prop) (φ:Place) (w:World) (vals:Array Value),ax M φ (hp o nx) w->V.az (ak M φ (hp o nx)) φ (hp o nx) w args vals.toList->
  Calls P f vals w (mA M φ (hp o nx) w K X)
def dB(P:Program)(id:Nat)(args:List V)(o:Nat->aa)(nx:Nat)(K X:V->(Nat->aa)->Nat->Prop):Prop:=
 (o id).bY=true/\∀ (M:Nat->Prop) (φ:Place) (w:World) (vals:Array Value) (b:Nat),ax M φ (hp o nx) w->V.az (ak M φ (hp o nx)) φ (hp o nx) w args vals.toList->φ id= .pointer (some ⟨b,0,none⟩)->
  ∃f tmps assign body,(Instr.yield b vals).run P w= .ok (.round b f tmps assign body) w/\∀n,RoundIn Fence.wide n P b f tmps assign body w (mA M φ (hp o nx) w K X)
theorem mA.mono {M:Nat->Prop}{φ:Place}{H:Hp}{w:World}{K X K' X':V->(Nat->aa)->Nat->Prop}(hK:∀v o n,K v o n->K' v o n)(hX:∀v o n,X v o n->X' v o n){e:Ending}{w':World}(h:mA M φ H w K X e w'):mA M φ H w K' X' e w':=by
 obtain⟨aC,o',nx',v,h1,h2,h3⟩:=h
 refine⟨aC,o',nx',v,h1,h2, ?_⟩
 cases e with
 |returned val=>exact⟨h3.1,hK _ _ _ h3.2⟩
 |panicked ch=>obtain⟨val,a,b,c⟩:=h3;exact⟨val,a,b,hX _ _ _ c⟩
 |outgrown=>exact h3
theorem cO.mono {P:Program}{f:FuncId}{args:List V}{o:Nat->aa}{nx:Nat}{K X K' X':V->(Nat->aa)->Nat->Prop}(hK:∀v o n,K v o n->K' v o n)(hX:∀v o n,X v o n->X' v o n)(h:cO P f args o nx K X):cO P f args o nx K' X':=
 ⟨h.1,fun M φ w vals h1 h2=>(h.2 M φ w vals h1 h2).mono fun _ _ h=>h.mono hK hX⟩
theorem dB.mono {P:Program}{id:Nat}{args:List V}{o:Nat->aa}{nx:Nat}{K X K' X':V->(Nat->aa)->Nat->Prop}(hK:∀v o n,K v o n->K' v o n)(hX:∀v o n,X v o n->X' v o n)(h:dB P id args o nx K X):dB P id args o nx K' X':=
 ⟨h.1,fun M φ w vals b h1 h2 h3=>let⟨f,t,a,c,h4,h5⟩:=h.2 M φ w vals b h1 h2 h3;⟨f,t,a,c,h4,fun n=>(h5 n).mono fun _ _ h=>h.mono hK hX⟩⟩
mutual
def D.flat:D->Bool
 | .sl _| .mp _ _=>false
 | .agg cs=>D.jm cs
 | .iface _ x=>x.flat
 |_=>true
def D.jm:List D->Bool
 |[]=>true
 |x::xs=>x.flat&&D.jm xs
end
mutual
theorem D.pO {B B':Nat->Prop}{w w':World}:∀ (x:D) (v:Value),x.flat=true->D.den B w x v->D.den B' w' x v
 | .int _ _,_,_,h| .bool _,_,_,h| .str _,_,_,h| .eD,_,_,h| .kC,_,_,h| .b8,_,_,h| .dC,_,_,h=>h
 | .agg cs,_,hf,h=>by obtain⟨a,rfl,h,h2⟩:=h;exact⟨a,rfl,D.ly cs _ hf h,h2⟩
 | .sl es,_,hf,h=>by simp[D.flat]at hf
 | .mp _ _,_,hf,h=>by simp[D.flat]at hf
 | .iface t x,_,hf,h=>by obtain⟨u,rfl,h⟩:=h;exact⟨u,rfl,D.pO x u hf h⟩
theorem D.ly {B B':Nat->Prop}{w w':World}:∀ (xs:List D) (vs:List Value),D.jm xs=true->D.az B w xs vs->D.az B' w' xs vs
 |[],_,_,h=>h
 |x::xs,_,hf,h=>by
  obtain⟨u,us,rfl,h1,h2⟩:=h
  simp only[D.jm,Bool.and_eq_true]at hf
  exact⟨u,us,rfl,D.pO x u hf.1 h1,D.ly xs us hf.2 h2⟩
end
mutual
def D.mC:D->Bool
 | .mp _ _=>false
 | .agg cs=>D.lz cs
 | .sl es=>D.lz es
 | .iface _ x=>x.mC
 |_=>true
def D.lz:List D->Bool
 |[]=>true
 |x::xs=>x.mC&&D.lz xs
end
theorem gh.Ak {B B':Nat->Prop}{w w':World}{a:Addr}{cs:Array Value}
 (hb:∀b,py w b-> ¬B b->w'.heap[b]? =w.heap[b]? /\ ¬B' b) (h:gh B w a cs):gh B' w' a cs:=by
 intro j u hj
 obtain⟨h1,h2⟩:=h j u hj
 have bW:py w a.block:=by simpa using nZ h1
 exact Wp
mutual
theorem D.kH {B B':Nat->Prop}{w w':World}(hb:∀b,py w b-> ¬B b->w'.heap[b]? =w.heap[b]? /\ ¬B' b):
 ∀ (x:D) (v:Value),x.mC=true->D.den B w x v->D.den B' w' x v
 | .int _ _,_,_,h| .bool _,_,_,h| .str _,_,_,h| .eD,_,_,h| .kC,_,_,h| .b8,_,_,h| .dC,_,_,h=>by simpa[D.den]using h
 | .agg cs,_,hn,h=>by
   obtain⟨a,rfl,h,hf⟩:=h
   exact⟨a,rfl,D.mD hb cs _ hn h,hf⟩
 | .sl es,_,hn,h=>by
   obtain⟨base,len,cap,rfl,h1,h2,h3,sz,h4⟩:=h
   exact⟨base,len,cap,rfl,h1,h2,h3,sz,fun a ha=>⟨(h4 a ha).1,D.pP hb sz a es 0 hn (h4 a ha).2⟩⟩
 | .iface t d,_,hn,h=>by
   obtain⟨u,rfl,h⟩:=h
   exact⟨u,rfl,D.kH hb d u hn h⟩
 | .mp _ _,_,hn,_=>by simp[D.mC]at hn
theorem D.mD {B B':Nat->Prop}{w w':World}(hb:∀b,py w b-> ¬B b->w'.heap[b]? =w.heap[b]? /\ ¬B' b):
 ∀ (ds:List D) (vs:List Value),D.lz ds=true->D.az B w ds vs->D.az B' w' ds vs
 |[],_,_,h=>h
 |d::ds,_,hn,h=>by
  obtain⟨u,us,rfl,h1,h2⟩:=h
  simp only[D.lz,Bool.and_eq_true]at hn
  exact⟨u,us,rfl,D.kH hb d u hn.1 h1,D.mD hb ds us hn.2 h2⟩
theorem D.pP {B B':Nat->Prop}{w w':World}(hb:∀b,py w b-> ¬B b->w'.heap[b]? =w.heap[b]? /\ ¬B' b)(sz:Nat)(a:Addr):
 ∀ (es:List D) (i:Nat),D.lz es=true->D.elems B w sz a i es->D.elems B' w' sz a i es
 |[],_,_,_=>trivial
 |e::es,i,hn,h=>by
  obtain⟨⟨ev,h1,h2,h3⟩,h4⟩:=h
  simp only[D.lz,Bool.and_eq_true]at hn
  exact⟨⟨ev,h1,h2.Ak hb,D.kH hb e ev hn.1 h3⟩,D.pP hb sz a es (i+1) hn.2 h4⟩
end
def R.mC:R->Bool
 | .ret ds=>D.lz ds
 | .bB d=>d.mC
def R.flat:R->Bool
 | .ret ds=>D.jm ds
 | .bB d=>d.flat
def iD:List D->V
 |[x]=> .d x
 |ds=> .bN (ds.map .d)
inductive fw where
 |normal|exit (id:Nat)|ret|bB (v:V)
def aU(env:Nat->V)(dst:Option Tmp)(v:V):Nat->V:=
 match dst with
 |some d=>aA env d v
 |none=>env
def IF(o:Nat->aa)(v:V):V:=match dL o v with|some x=> .d x|none=>v
def cY(o:Nat->aa):List V->List Nat
 |[]=>[]
 |v::vs=>(match dL o v with|some _=>v.ids|none=>[])++cY o vs
def nX(P:Program)(g:FuncId)(args:List V)(o:Nat->aa)(nx:Nat)(K X:V->(Nat->aa)->Nat->Prop):Prop:=
 cO P g args o nx K X\/cO P g (args.map (IF o)) (put o (b7 o (cY o args))) nx K X
def tV(P:Program)(s:S)(g:FuncId)(all:List V)(K:V->(Nat->aa)->Nat->Prop)(X:V->(Nat->aa)->Nat->Prop):Prop:=
    (∃ds out,bR s.o all=some ds/\aV P g ds out/\(match out with
     | .ret rs=>K (iD rs) (put s.o (b7 s.o (V.a8 all))) (s.nx+1)
     | .bB x=>X (.d x) (put s.o (b7 s.o (V.a8 all))) (s.nx+1)))\/
    (∃ds out,bR s.o all=some ds/\aV P g ds out/\out.flat=true/\(match out with
     | .ret rs=>K (iD rs) s.o (s.nx+1)
     | .bB x=>X (.d x) s.o (s.nx+1)))\/
    (∃ds out,bR s.o all=some ds/\aV P g ds out/\out.mC=true/\(match out with
     | .ret rs=>K (iD rs) (put s.o (qT s.o (V.a8 all))) (s.nx+1)
     | .bB x=>X (.d x) (put s.o (qT s.o (V.a8 all))) (s.nx+1)))\/
    nX P g all s.o s.nx K X
def AJ(P:Program)(s:S)(f:V)(args:List V)(K:V->(Nat->aa)->Nat->Prop)(X:V->(Nat->aa)->Nat->Prop):Prop:=
 match f with
 | .func (.func g) first cap=>tV P s g (first++args++cap) K X
 | .kz id=>dB P id args s.o s.nx K X
 |_=>False
def Ou(P:Program)(t:TypeId):Bool:=
 match P.underlying t with
 |some (.pointer _)=>false
 |some _=>true
 |none=>false
def tW(P:Program)(m:String)(x:V):Option (FuncId×V):=
 match x with
 | .d (.iface t y)=>match P.info? t with
   |some ti=>match ti.methods.find? (·.name==m)with
    |some r=>match r.func with
     |some (f,false)=>if r.path.isEmpty=true/\Ou P t=true then some (f, .d y)else none
     |_=>none
    |none=>none
   |none=>none
 |_=>none
def gk(n:Nat):Option Tmp->Prop
 |some d=>d<n
 |none=>True
def opW(P:Program)(n:Nat)(s:S)(o:Oper)(X:V->S->Prop)(K:S->Prop):Prop:=
 gk n o.dst/\match o.op with
 | .call c=>match c.callee with
   | .value f=>AJ P s (s.ev f) (c.args.toList.map s.ev) (fun v o' nx'=>K ⟨aU s.env o.dst v,o',nx'⟩) (fun v o' nx'=>X v ⟨s.env,o',nx'⟩)
   | .invoke r m=>match tW P m (s.ev r)with
     |some (g,y)=>tV P s g (y::c.args.toList.map s.ev) (fun v o' nx'=>K ⟨aU s.env o.dst v,o',nx'⟩) (fun v o' nx'=>X v ⟨s.env,o',nx'⟩)
     |none=>False
   |_=>Oe P s s.nx o.op fun v Δ _=>K ⟨aU s.env o.dst v,put s.o Δ,s.nx+1⟩
 | .panic x=>match s.ev x with
   | .d (.iface t y)=>X (.d (.iface t y)) s
   | .iface t y=>X (.iface t y) s
   |_=>False
 |op=>Oe P s s.nx op fun v Δ _=>K ⟨aU s.env o.dst v,put s.o Δ,s.nx+1⟩
def yi(s:S)(ops:Array Oper)(g:Option (Nat×Bool))(A B:Prop):Prop:=
 match g with
 |none=>A
 |some (j,want)=>match rW ops j with
  |some d=>match s.env d with
   | .d (.bool b)=>(b=want->A)/\(b≠want->B)
   | .bN []=>B
   |_=>False
  |none=>B
def yj(P:Program)(n:Nat)(ops:Array Oper)(X:V->S->Prop)(K:S->Prop):List Oper->S->Prop
 |[],s=>K s
 |o::l,s=>yi s ops o.guard (opW P n s o X (yj P n ops X K l)) (gk n o.dst/\yj P n ops X K l ⟨aU s.env o.dst (.bN []),s.o,s.nx+1⟩)
def bM(b:Nat)(s s':S):Prop:=
 ∀ (M:Nat->Prop) (φ:Place) (w:World) (tm:Nat->Value),ax M φ s.H w->(∀i,V.den (ak M φ s.H) φ s.H w (s.env i) (tm i))->
   ∃aC,ax M aC s'.H w/\(∀i,V.den (ak M aC s'.H) aC s'.H w (s'.env i) (tm i))/\(∀k,cF aC s'.H k->cF φ s.H k)/\b<=s'.nx/\
    (∀id,id<b->(s'.o id).bY=true->(s.o id).bY=true/\aC id=φ id)/\
    (∀id e',id<b->(s'.o id).b9=some e'->∃e,(s.o id).b9=some e/\e<=e'/\(e=e'->aC id=φ id))
def pQ(K:S->Prop)(Q:fw->S->Prop)(e:fw)(s:S):Prop:=match e with| .normal=>K s|e=>Q e s
def ff(id:Nat)(Q:fw->S->Prop)(e:fw)(s:S):Prop:=match e with| .exit j=>if j=id then Q .normal s else Q (.exit j) s|e=>Q e s
def lA(P:Program)(s:S):List ResultVar->Option (List V)
 |[]=>some []
 | .tmp t::rs=>(lA P s rs).map (s.env t::·)
 | .cell a t::rs=>match s.env a with
   | .ptr id off=>match s.o id with
     | .row cs=>(eF P t cs off).bind fun v=>(lA P s rs).map (v::·)
     |_=>none
   |_=>none
def bZ(vs:List V):Nat->V:=fun i=>vs.getD i (.bN [])
def yl(P:Program)(rs:List ResultVar)(out:R)(e:fw)(s:S):Prop:=
 match e with
 | .normal| .ret=>match lA P s rs with
   |some vs=>match bR s.o vs with
    |some ds=>out= .ret ds
    |none=>False
   |none=>False
 | .bB v=>match dL s.o v with
   |some x=>out= .bB x
   |none=>False
 | .exit _=>False
theorem IG{P:Program}{rs:List ResultVar}{out:R}{s:S}(h:match lA P s rs with
 |some vs=>match bR s.o vs with
  |some ds=>out= .ret ds
  |none=>False
 |none=>False):∃vs ds,lA P s rs=some vs/\bR s.o vs=some ds/\out= .ret ds:=by
 split at h
 ·rename_i vs h1
  split at h
  ·rename_i xs h2;exact⟨vs,xs,h1,h2,h⟩
  ·exact h.elim
 ·exact h.elim
theorem II{out:R}{s:S}{v:V}(h:match dL s.o v with
 |some x=>out= .bB x
 |none=>False):∃x,dL s.o v=some x/\out= .bB x:=by
 split at h
 ·rename_i x h1;exact⟨x,h1,h⟩
 ·exact h.elim
section
section
variable {P:Program}{M:Nat->Prop}{φ:Place}{H:Hp}{w w':World}
def aa.kI:aa->Bool
 | .arr .. =>true
 |_=>false
theorem LN(o:Nat->aa)(ids:List Nat):qT o ids=b7 o (ids.filter fun id=>(o id).kI):=by
 induction ids with
 |nil=>rfl
 |cons id ids ih=>
  unfold qT at ih|-
  simp only[List.filterMap_cons,List.filter_cons]
  cases hx:o id with
  |arr ep ty sz es=>
   have e:(aa.arr ep ty sz es).kI=true:=rfl
   rw[e,if_pos rfl,ih]
   simp only[b7,List.map_cons,hx]
  |_=>exact ih
theorem jI(hH:ax M φ H w){us':Nat->Prop}(h:∀id,H.us id->us' id):ax M φ ⟨H.o,us'⟩ w/\Trans φ H w φ ⟨H.o,us'⟩ w:=by
 have ht:Trans φ H w φ ⟨H.o,us'⟩ w:=⟨eh.refl _ _,fun b hb=> .inl hb,⟨h,fun id _ hr=>⟨hr,rfl⟩,fun id e' _ he=>⟨e',he,Nat.le_refl _,fun _=>rfl⟩⟩⟩
 exact⟨hH.of ht (fun _=>False) (fun _ h=>h.elim) (fun id _=>⟨rfl,rfl,fun _ _ _=>rfl⟩) (fun id hn=>hH.fresh id fun hu=>hn (h id hu)) hH.apart (fun b hb=>(hH.ours b hb).2),ht⟩
theorem fN(hH:ax M φ H w)(hk:eh (fun _=>False) w w'):ax M φ H w'/\Trans φ H w φ H w':=by
 have ht:Trans φ H w φ H w':=⟨⟨hk.os,hk.tape,hk.output,hk.size,fun k h _=>hk.block k h fun h=>h⟩,fun b hb=> .inl hb,dK.refl _ _⟩
 exact⟨hH.of ht (fun _=>False) (fun _ h=>h.elim) (fun id _=>⟨rfl,rfl,fun hl b hb=>hk.block b (hH.ours b ⟨id,hl,hb⟩).2 fun h=>h⟩) hH.fresh hH.apart (fun b hb=>Nat.lt_of_lt_of_le (hH.ours b hb).2 hk.size),ht⟩
theorem kJ{Δ:List (Nat×aa)}(h:∀id∈Δ.map (·.1),H.us id):H.put Δ=⟨put H.o Δ,H.us⟩:=by
 unfold Hp.put
 congr 1
 funext id
 simp only[eq_iff_iff]
 exact⟨fun h'=>h'.elim (fun h=>h) (h id), .inl⟩
theorem sY(o:Nat->aa)(ids:List Nat):(b7 o ids).map (·.1)=ids:=by
 rw[lj];simp[Function.comp_def]
structure Cx where
 base:List Deferred
 rd:Bool
def dD(ro:Option Nat):Fence:={fn:=fun _=>True,depth:=none,alive:=false,round:=ro}
def mark(r:Nat):Deferred:={target:= .collected r,args:=#[]}
def tX(cx:Cx)(w0:World)(φ:Place)(H:Hp)(w:World)(ds:List Deferred):Prop:=
 ∃ms:List Nat,ds=ms.map mark++cx.base/\ms.Nodup/\(cx.rd=true->ms=[])/\∀r∈ms,w0.heap.size<=r/\w.heap[r]? =some (.deferred (some []))/\ ¬cF φ H r
theorem tX.mono {cx:Cx}{w0:World}{φ aC:Place}{H H':Hp}{w w':World}{ds:List Deferred}(ht:Trans φ H w aC H' w')(h:tX cx w0 φ H w ds):tX cx w0 aC H' w' ds:=by
 obtain⟨ms,h1,h2,h3,h4⟩:=h
 refine⟨ms,h1,h2,h3,fun r hr=> ?_⟩
 obtain⟨g1,g2,g3⟩:=h4 r hr
 have bW:r<w.heap.size:=by
  rcases Nat.lt_or_ge r w.heap.size with hl|hl
  ·exact hl
  ·rw[Array.getElem?_eq_none hl]at g2;cases g2
 refine⟨g1,(ht.cf.block r bW g3).trans g2,fun hl=> ?_⟩
 rcases ht.grow r hl with h|h
 ·exact g3 h
 ·omega
structure bT (M:Nat->Prop) (cm:Place) (H0:Hp) (w0:World) (n:Nat) (cx:Cx) (φ:Place) (s:S) (a:Act) (w:World):Prop where
 heap:ax M φ s.H w
 tr:Trans cm H0 w0 φ s.H w
 size:a.tmps.size=n
 defers:tX cx w0 φ s.H w a.defers
 env:∀i,V.den (ak M φ s.H) φ s.H w (s.env i) (a.tmps.getD i undef)
variable {cm:Place}{H0:Hp}{w0:World}{n:Nat}{s:S}{a:Act}{cx:Cx}{ro:Option Nat}{k:Nat}
theorem cT{f:FuncId}{args:Array Value}{R:Ending->World->Prop}(h:Calls P f args w R):CallsIn (dD ro) k P f args w R:=
 ⟨trivial,fun cs _=>let⟨e,w',fr,r,s,x⟩:=h cs;⟨e,w',fr,r,comesIn_wide.2 s,x⟩⟩
theorem AK{f:FuncId}{args:Array Value}{R:Ending->World->Prop}(h:CallsIn (dD ro) k P f args w R):Calls P f args w R:=
 fun cs=>let⟨e,w',fr,r,s,x⟩:=h.2 cs (fun _ h=>by simp[dD]at h);⟨e,w',fr,r,comesIn_wide.1 s,x⟩
theorem jO{o:Oper}{next:Act->World->Prop}{Q:Exit->Act->World->Prop}(AL:∀c,o.op≠ .defer c)(h:o.uponIn (dD ro) k P a next Q ((execOp a.eval o).run P w)):o.wpIn (dD ro) k P a w next Q:=
 ⟨fun _ _=>trivial,by rw[Oper.semAt_eq _ _ _ AL];exact h⟩
theorem nm(hs:bT M cm H0 w0 n cx φ s a w){aC:Place}{H':Hp}(hH:ax M aC H' w')(ht:Trans φ s.H w aC H' w'){v:V}{val:Value}(hd:V.den (ak M aC H') aC H' w' v val){dst:Option Tmp}(cG:gk n dst)
 {o':Nat->aa} {nx':Nat} (ho:H'.o=o') (hu:∀id,H'.us id->id<nx'):bT M cm H0 w0 n cx aC ⟨aU s.env dst v,o',nx'⟩ (a.put dst val) w':=by
 obtain⟨k1,k2⟩:=jI hH hu
 subst ho
 refine⟨k1,hs.tr.trans (ht.trans k2), ?_, ?_,fun i=> ?_⟩
 ·cases dst<;>simp[Act.put,hs.size]
 ·have:=hs.defers.mono (ht.trans k2);cases dst<;>exact this
 ·cases dst with
  |none=>exact Ln
  |some d=>
   simp only[gk]at cG
   simp only[aU,aH,Act.put]
   by_cases hi:i=d
   ·subst hi
    have h1:(a.tmps.setIfInBounds i val).getD i undef=val:=by simp[Array.getD,hs.size,cG]
    rw[if_pos rfl,h1]
    exact V.aP k2 _ _ hd
   ·have h1:(a.tmps.setIfInBounds d val).getD i undef=a.tmps.getD i undef:=by
     exact QO
    rw[if_neg hi,h1]
    exact Ln
theorem eB(hs:bT M cm H0 w0 n cx φ s a w){aC:Place}{H':Hp}(hH:ax M aC H' w')(ht:Trans φ s.H w aC H' w'){o':Nat->aa}{nx':Nat}(ho:H'.o=o')(hu:∀id,H'.us id->id<nx'):
 bT M cm H0 w0 n cx aC ⟨s.env,o',nx'⟩ a w':=by
 obtain⟨k1,k2⟩:=jI hH hu
 subst ho
 exact⟨k1,hs.tr.trans (ht.trans k2),hs.size,hs.defers.mono (ht.trans k2),fun i=>V.aP (ht.trans k2) _ _ (hs.env i)⟩
theorem IJ{Δ:List (Nat×aa)}(h:∀id∈Δ.map (·.1),s.H.us id\/id=s.nx)(id:Nat)(hu:(s.H.put Δ).us id):id<s.nx+1:=by
 rcases hu with hu|hu
 ·exact Nat.lt_succ_of_lt hu
 ·rcases h id hu with h|h
  ·exact Nat.lt_succ_of_lt h
  ·omega
variable {next:Act->World->Prop}{Q:Exit->Act->World->Prop}{X:V->S->Prop}{K:S->Prop}
theorem IK(hs:bT M cm H0 w0 n cx φ s a w){o:Oper}{op:Op}(fK:o.op=op)(cG:gk n o.dst)(h:Oe P s s.nx op fun v Δ _=>K ⟨aU s.env o.dst v,put s.o Δ,s.nx+1⟩)
 (hN:∀s' aC a' w',K s'->bT M cm H0 w0 n cx aC s' a' w'->next a' w'):o.wpIn (dD ro) k P a w next Q:=by
 obtain⟨nx,val,w',aC,v,Δ,rd,hK,hr,s7,g1,g2,g3,g4⟩:=wT hs.heap (s:=s) rfl hs.env (fr:=s.nx) (by simp[S.H]) fK h
 have sP:=nm hs g1 g2 g3 cG (o':=put s.o Δ) (nx':=s.nx+1) rfl (IJ g4)
 refine jO (fun c hc=>by rw[fK]at hc;subst hc;exact h) ?_
 rw[hr]
 rcases s7 with rfl|⟨rfl,rfl⟩
 ·exact hN _ _ _ _ hK sP
 ·exact hN _ _ _ _ hK sP
theorem V.pv {B:Nat->Prop}{bU bs cs:List V}{u v x:List Value}(h1:V.az B φ H w bU u)(h2:V.az B φ H w bs v)(h3:V.az B φ H w cs x):V.az B φ H w (bU++bs++cs) (u++v++x):=
 V.bg _ _ _ _ (V.bg _ _ _ _ h1 h2) h3
theorem kK{f:FuncId}(h:Enters P f)(args:Array Value):(callFunc f args).run P w= .ok (.enter f args) w:=by
 obtain⟨fn,h1,h2,h3⟩:=h
 have iK:fn.name≠ "runtime.NumGoroutine" :=by simpa using h2
 have lT:fn.body≠none:=fun h=>by rw[h]at h3;cases h3
 simp[callFunc,h1,iK,lT]
theorem mh:∀ {rs:List D} {val:Value},R.is (ak M φ H) w (.ret rs) (.returned val)->V.den (ak M φ H) φ H w (iD rs) val
 |[],_,h=>by obtain⟨arr,rfl,h⟩:=h;exact⟨arr,rfl,h⟩
 |[x],_,h=>h
 |x::y::l,_,h=>by obtain⟨arr,rfl,h⟩:=h;exact⟨arr,rfl,(V.cg (x::y::l) _).2 h⟩
theorem R.ym {B B':Nat->Prop}:∀ {out:R} {e:Ending},out.flat=true->out.is B w e->out.is B' w e
 | .ret [], .returned _,_,h=>by obtain⟨arr,rfl,h⟩:=h;exact⟨arr,rfl,h⟩
 | .ret [x], .returned _,hf,h=>by
   simp only[R.flat,D.jm,Bool.and_true]at hf
   exact D.pO x _ hf h
 | .ret (x::y::l), .returned _,hf,h=>by obtain⟨arr,rfl,h⟩:=h;exact⟨arr,rfl,D.ly (x::y::l) _ hf h⟩
 | .bB d, .panicked _,hf,h=>by obtain⟨v,rfl,h⟩:=h;exact⟨v,rfl,D.pO d v hf h⟩
 | .ret [], .panicked _,_,h| .ret [_], .panicked _,_,h| .ret (_::_::_), .panicked _,_,h| .ret [], .outgrown,_,h| .ret [_], .outgrown,_,h| .ret (_::_::_), .outgrown,_,h| .bB _, .returned _,_,h| .bB _, .outgrown,_,h=>h.elim
theorem R.IL {B B':Nat->Prop}{w':World}(hb:∀b,py w' b-> ¬B b-> ¬B' b):∀ {out:R} {e:Ending},out.mC=true->out.is B w' e->out.is B' w' e
 | .ret [], .returned _,_,h=>by obtain⟨arr,rfl,h⟩:=h;exact⟨arr,rfl,h⟩
 | .ret [x], .returned _,hf,h=>by
   simp only[R.mC,D.lz,Bool.and_true]at hf
   exact D.kH (fun b hc hn=>⟨rfl,hb b hc hn⟩) x _ hf h
 | .ret (x::y::l), .returned _,hf,h=>by obtain⟨arr,rfl,h⟩:=h;exact⟨arr,rfl,D.mD (fun b hc hn=>⟨rfl,hb b hc hn⟩) (x::y::l) _ hf h⟩
 | .bB d, .panicked _,hf,h=>by obtain⟨v,rfl,h⟩:=h;exact⟨v,rfl,D.kH (fun b hc hn=>⟨rfl,hb b hc hn⟩) d v hf h⟩
 | .ret [], .panicked _,_,h| .ret [_], .panicked _,_,h| .ret (_::_::_), .panicked _,_,h| .ret [], .outgrown,_,h| .ret [_], .outgrown,_,h| .ret (_::_::_), .outgrown,_,h| .bB _, .returned _,_,h| .bB _, .outgrown,_,h=>h.elim
theorem IM(hH:ax M φ H w){o:Nat->aa}:∀ (vs:List V) (vals:List Value),(∀id∈cY o vs,H.o id=(o id).fz)->V.az (ak M φ H) φ H w vs vals->V.az (ak M φ H) φ H w (vs.map (IF o)) vals
 |[],_,_,h=>h
 |v::vs,_,ho,h=>by
  obtain⟨u,us,rfl,h1,h2⟩:=h
  refine⟨u,us,rfl, ?_,IM hH vs us (fun id aw=>ho id (by simp[cY,aw])) h2⟩
  unfold IF
  split
  ·rename_i x hx
   exact fu hH v x u (fun id aw=>ho id (by simp[cY,hx,aw])) hx h1
  ·exact h1
theorem gr:∀ (vs:List V) (vals:List Value) (o:Nat->aa),V.az (ak M φ H) φ H w vs vals->∀id∈cY o vs,H.us id
 |[],_,_,_,j,hj=>by simp[cY]at hj
 |v::vs,_,o,h,j,hj=>by
  obtain⟨u,us,rfl,h1,h2⟩:=h
  simp only[cY,List.mem_append]at hj
  rcases hj with hj|hj
  ·cases hx:dL o v with
   |none=>simp[hx]at hj
   |some x=>simp only[hx]at hj;exact cR v u h1 j hj
  ·exact gr vs us o h2 j hj
theorem wU(hs:bT M cm H0 w0 n cx φ s a w){o:Oper}{g:FuncId}{all:List V}{vals:Array Value}(cG:gk n o.dst)(eV:Enters P g->(execOp a.eval o).run P w= .ok (.enter g vals) w)(aW:V.az (ak M φ s.H) φ s.H w all vals.toList)
 (h:cO P g all s.o s.nx (fun v o' nx'=>K ⟨aU s.env o.dst v,o',nx'⟩) (fun v o' nx'=>X v ⟨s.env,o',nx'⟩))
 (hN:∀s' aC a' w',K s'->bT M cm H0 w0 n cx aC s' a' w'->next a' w')
 (hQ:∀v s' aC w' val,X v s'->bT M cm H0 w0 n cx aC s' a w'->V.den (ak M aC s'.H) aC s'.H w' v val->Q (.panic [{v:=val,recovered:=false}]) a w'):o.uponIn (dD ro) k P a next Q ((execOp a.eval o).run P w):=by
 have eI:=h.2 M φ w vals hs.heap aW
 rw[eV h.1]
 refine⟨fun hd=>by simp[dD]at hd,cT (eI.mono fun e w' ⟨aC,o',nx',v,k1,k2,k3⟩=> ?_)⟩
 cases e with
 |returned val=>exact NH
 |panicked ch=>
  obtain⟨val,rfl,k4,k5⟩:=k3
  exact VZ
 |outgrown=>exact k3.elim
theorem AM(hs:bT M cm H0 w0 n cx φ s a w){o:Oper}{g:FuncId}{all:List V}{vals:Array Value}(cG:gk n o.dst)(eV:Enters P g->(execOp a.eval o).run P w= .ok (.enter g vals) w)(aW:V.az (ak M φ s.H) φ s.H w all vals.toList)
 (h:tV P s g all (fun v o' nx'=>K ⟨aU s.env o.dst v,o',nx'⟩) (fun v o' nx'=>X v ⟨s.env,o',nx'⟩))
 (hN:∀s' aC a' w',K s'->bT M cm H0 w0 n cx aC s' a' w'->next a' w')
 (hQ:∀v s' aC w' val,X v s'->bT M cm H0 w0 n cx aC s' a w'->V.den (ak M aC s'.H) aC s'.H w' v val->Q (.panic [{v:=val,recovered:=false}]) a w'):o.uponIn (dD ro) k P a next Q ((execOp a.eval o).run P w):=by
 unfold tV at h
 obtain⟨f1,f2,f3,f4,f5⟩:=cX hs.heap (V.a8 all) (cM all _ aW)
 have jl:s.H.put (b7 s.H.o (V.a8 all))=⟨put s.o (b7 s.o (V.a8 all)),s.H.us⟩:=kJ HX
 have mE:=V.aQ f2 _ _ aW
 rcases h with⟨ds,out,eR,hP,hK⟩|⟨ds,out,eR,hP,pc,hK⟩|⟨ds,out,eR,hP,vC,hK⟩|hC|hC
 ·have wK:=de f1 all ds _ f3 eR mE
  have hM:∀b,ak M φ (s.H.put (b7 s.H.o (V.a8 all))) b->b<w.heap.size:=fun b hb=>hb.elim (f1.zE b) fun hl=>(f1.ours b hl).2
  have eI:=hP.2 _ w vals hM wK
  rw[eV hP.1]
  refine⟨fun hd=>by simp[dD]at hd,cT (eI.mono fun e w' ⟨hk,ho⟩=> ?_)⟩
  obtain⟨k1,k2⟩:=fN f1 hk
  cases out with
  |ret rs=>
   cases e with
   |returned val=>
    refine hN _ _ _ _ hK (nm hs k1 (f2.trans k2) (mh ho) cG (by rw[jl]) ?_)
    intro id hu;rw[jl]at hu;exact Nat.lt_succ_of_lt hu
   |panicked ch=>exact vM
   |outgrown=>exact vM
  |bB x=>
   cases e with
   |returned val=>exact ho.elim
   |panicked ch=>
    obtain⟨val,rfl,hd⟩:=ho
    have sP:=eB hs k1 (f2.trans k2) (o':=put s.o (b7 s.o (V.a8 all))) (nx':=s.nx+1) (by rw[jl]) (fun id hu=>by rw[jl]at hu;exact Nat.lt_succ_of_lt hu)
    refine hQ _ _ _ _ val hK sP ?_
    have e1:ak M φ (S.H ⟨s.env,put s.o (b7 s.o (V.a8 all)),s.nx+1⟩)=ak M φ (s.H.put (b7 s.H.o (V.a8 all))):=by rw[jl];rfl
    simp only[V.den]
    rw[e1];exact hd
   |outgrown=>exact ho.elim
 ·have wK:=de f1 all ds _ f3 eR mE
  have hM:∀b,ak M φ (s.H.put (b7 s.H.o (V.a8 all))) b->b<w.heap.size:=fun b hb=>hb.elim (f1.zE b) fun hl=>(f1.ours b hl).2
  have eI:=hP.2 _ w vals hM wK
  rw[eV hP.1]
  refine⟨fun hd=>by simp[dD]at hd,cT (eI.mono fun e w' ⟨hk,ho⟩=> ?_)⟩
  obtain⟨k1,k2⟩:=fN hs.heap hk
  have ho:=R.ym (B':=ak M φ s.H) pc ho
  cases out with
  |ret rs=>
   cases e with
   |returned val=>
    exact hN _ _ _ _ hK (nm hs k1 k2 (mh ho) cG rfl fun id hu=>Nat.lt_succ_of_lt hu)
   |panicked ch=>exact vM
   |outgrown=>exact vM
  |bB x=>
   cases e with
   |returned val=>exact ho.elim
   |panicked ch=>
    obtain⟨val,rfl,hd⟩:=ho
    exact hQ _ _ _ _ val hK (eB hs k1 k2 (o':=s.o) (nx':=s.nx+1) rfl fun id hu=>Nat.lt_succ_of_lt hu) hd
   |outgrown=>exact ho.elim
 ·obtain⟨a1,a2,a3,a4,a5⟩:=cX hs.heap ((V.a8 all).filter fun id=>(s.o id).kI) (fun id aw=>cM all _ aW id (List.mem_filter.1 aw).1)
  have AO:s.H.put (b7 s.H.o ((V.a8 all).filter fun id=>(s.o id).kI))=⟨put s.o (qT s.o (V.a8 all)),s.H.us⟩:=by
   rw[LN]
   exact kJ (by rw[sY];exact fun id aw=>cM all _ aW id (List.mem_filter.1 aw).1)
  have wK:=de f1 all ds _ f3 eR mE
  have hM:∀b,ak M φ (s.H.put (b7 s.H.o (V.a8 all))) b->b<w.heap.size:=fun b hb=>hb.elim (f1.zE b) fun hl=>(f1.ours b hl).2
  have eI:=hP.2 _ w vals hM wK
  rw[eV hP.1]
  refine⟨fun hd=>by simp[dD]at hd,cT (eI.mono fun e w' ⟨hk,ho⟩=> ?_)⟩
  obtain⟨k1,k2⟩:=fN a1 hk
  have sL:∀b,py w' b-> ¬ak M φ (s.H.put (b7 s.H.o (V.a8 all))) b-> ¬ak M φ (s.H.put (b7 s.H.o ((V.a8 all).filter fun id=>(s.o id).kI))) b:=by
   intro b hc hn hm
   rcases hm with hM|⟨id,hl,hb⟩
   ·exact hn (.inl hM)
   ·by_cases aw:id∈V.a8 all
    ·cases hx:s.H.o id with
     |arr ep ty sz es=>
      rw[a3 id (List.mem_filter.2 ⟨aw,by show(s.H.o id).kI=true;rw[hx];rfl⟩),hx]at hl
      cases hl
     |map kt vt l=>
      have kV:id∉(V.a8 all).filter fun id=>(s.o id).kI:=fun h=>by
       have h2:(s.H.o id).kI=true:=(List.mem_filter.1 h).2
       rw[hx]at h2;cases h2
      have aS:=k1.ok id
      unfold aO at aS
      rw[a4 id kV,hx]at aS
      obtain⟨b',es,clock,g1,g2,_⟩:=aS
      rw[g1]at hb
      injection hb with hb
      subst hb
      obtain⟨cs,ty,fz,hc⟩:=hc
      rw[g2]at hc
      cases hc
     |_=>
      have kV:id∉(V.a8 all).filter fun id=>(s.o id).kI:=fun h=>by
       have h2:(s.H.o id).kI=true:=(List.mem_filter.1 h).2
       rw[hx]at h2;cases h2
      refine hn (.inr ⟨id, ?_,hb⟩)
      rw[a4 id kV,hx]at hl
      rw[f3 id aw,hx]
      exact hl
    ·have kV:id∉(V.a8 all).filter fun id=>(s.o id).kI:=fun h=>aw (List.mem_filter.1 h).1
     refine hn (.inr ⟨id, ?_,hb⟩)
     rw[a4 id kV]at hl
     rw[f4 id aw]
     exact hl
  have ho:=R.IL (w':=w') (B':=ak M φ (s.H.put (b7 s.H.o ((V.a8 all).filter fun id=>(s.o id).kI)))) sL vC ho
  cases out with
  |ret rs=>
   cases e with
   |returned val=>
    refine hN _ _ _ _ hK (nm hs k1 (a2.trans k2) (mh ho) cG (by rw[AO]) ?_)
    intro id hu;rw[AO]at hu;exact Nat.lt_succ_of_lt hu
   |panicked ch=>exact vM
   |outgrown=>exact vM
  |bB x=>
   cases e with
   |returned val=>exact ho.elim
   |panicked ch=>
    obtain⟨val,rfl,hd⟩:=ho
    have sP:=eB hs k1 (a2.trans k2) (o':=put s.o (qT s.o (V.a8 all))) (nx':=s.nx+1) (by rw[AO]) (fun id hu=>by rw[AO]at hu;exact Nat.lt_succ_of_lt hu)
    refine hQ _ _ _ _ val hK sP ?_
    have e1:ak M φ (S.H ⟨s.env,put s.o (qT s.o (V.a8 all)),s.nx+1⟩)=ak M φ (s.H.put (b7 s.H.o ((V.a8 all).filter fun id=>(s.o id).kI))):=by rw[AO];rfl
    simp only[V.den]
    rw[e1];exact hd
   |outgrown=>exact ho.elim
 ·exact wU hs cG eV aW hC hN hQ
 ·obtain⟨f1,f2,f3,f4,f5⟩:=cX hs.heap (cY s.o all) (gr all _ s.o aW)
  have jl:s.H.put (b7 s.H.o (cY s.o all))=hp (put s.o (b7 s.o (cY s.o all))) s.nx:=kJ (by rw[sY];exact gr all _ s.o aW)
  have mE:=IM f1 all _ f3 (V.aQ f2 _ _ aW)
  rw[jl]at f1 f2 mE
  exact wU (s:=⟨s.env,put s.o (b7 s.o (cY s.o all)),s.nx⟩) (eB hs f1 f2 rfl fun id hu=>hu) cG eV mE hC hN hQ
theorem LO(hs:bT M cm H0 w0 n cx φ s a w){o:Oper}{c:Call}{f:Operand}(fK:o.op= .call c)(hc:c.callee= .value f)(cG:gk n o.dst)
 (h:AJ P s (s.ev f) (c.args.toList.map s.ev) (fun v o' nx'=>K ⟨aU s.env o.dst v,o',nx'⟩) (fun v o' nx'=>X v ⟨s.env,o',nx'⟩))
 (hN:∀s' aC a' w',K s'->bT M cm H0 w0 n cx aC s' a' w'->next a' w')
 (hQ:∀v s' aC w' val,X v s'->bT M cm H0 w0 n cx aC s' a w'->V.den (ak M aC s'.H) aC s'.H w' v val->Q (.panic [{v:=val,recovered:=false}]) a w'):o.wpIn (dD ro) k P a w next Q:=by
 refine jO (fun c' tY=>by rw[fK]at tY;cases tY) ?_
 have hf:=mq (M:=M) (φ:=φ) (H:=s.H) (w:=w) s a hs.env f
 have dn:=jK (M:=M) (φ:=φ) (H:=s.H) (w:=w) s a hs.env c.args.toList
 unfold AJ at h
 split at h
 ·rename_i g first cap vO
  rw[vO]at hf
  obtain⟨fa,ca,Q6,wB,hca⟩:=hf
  have aW:V.az (ak M φ s.H) φ s.H w (first++c.args.toList.map s.ev++cap) (fa++c.args.map a.eval++ca).toList:=by
   exact WJ
  generalize first++c.args.toList.map s.ev++cap=all at h aW
  generalize pw:fa++c.args.map a.eval++ca=vals at aW
  have eV:Enters P g->(execOp a.eval o).run P w= .ok (.enter g vals) w:=by
   intro he
   have:=kK (w:=w) he (fa++c.args.map a.eval++ca)
   rw[pw]at this
   simp[execOp,fK,resolve,hc,Q6,Deferred.ofValue,invoke,this,pw]
  exact AM hs cG eV aW h hN hQ
 ·rename_i id vO
  rw[vO]at hf
  obtain⟨_,e7,hp'⟩:=hf
  obtain⟨cN,hR⟩:=h
  obtain⟨b,e8,Q6⟩:=hp' cN
  obtain⟨fn,tmps,assign,body,h1,h2⟩:=hR M φ w (c.args.map a.eval) b hs.heap (by rw[Array.toList_map];exact dn) e8
  have eV:(execOp a.eval o).run P w= .ok (.round b fn tmps assign body) w:=by
   simp[execOp,fK,resolve,hc,Q6,Deferred.ofValue,invoke,h1]
  rw[eV]
  refine⟨fun hd=>by simp[dD]at hd,RoundIn.mono (h2 (k - 1)) fun e w' ⟨aC,o',nx',v,k1,k2,k3⟩=> ?_⟩
  cases e with
  |returned val=>exact NH
  |panicked ch=>
   obtain⟨val,rfl,k4,k5⟩:=k3
   exact VZ
  |outgrown=>exact k3.elim
 ·exact h.elim
theorem Gi(hs:bT M cm H0 w0 n cx φ s a w){o:Oper}{c:Call}{r:Operand}{m:String}{g:FuncId}{y:V}(fK:o.op= .call c)(hc:c.callee= .invoke r m)(cG:gk n o.dst)(hr:tW P m (s.ev r)=some (g,y))
 (h:tV P s g (y::c.args.toList.map s.ev) (fun v o' nx'=>K ⟨aU s.env o.dst v,o',nx'⟩) (fun v o' nx'=>X v ⟨s.env,o',nx'⟩))
 (hN:∀s' aC a' w',K s'->bT M cm H0 w0 n cx aC s' a' w'->next a' w')
 (hQ:∀v s' aC w' val,X v s'->bT M cm H0 w0 n cx aC s' a w'->V.den (ak M aC s'.H) aC s'.H w' v val->Q (.panic [{v:=val,recovered:=false}]) a w'):o.wpIn (dD ro) k P a w next Q:=by
 refine jO (fun c' tY=>by rw[fK]at tY;cases tY) ?_
 have hf:=mq (M:=M) (φ:=φ) (H:=s.H) (w:=w) s a hs.env r
 have dn:=jK (M:=M) (φ:=φ) (H:=s.H) (w:=w) s a hs.env c.args.toList
 unfold tW at hr
 split at hr
 ·rename_i t d hx
  rw[hx]at hf
  obtain⟨val,hv,hd⟩:=hf
  split at hr
  ·rename_i ti hti
   split at hr
   ·rename_i mr s8
    split at hr
    ·rename_i f Ho
     split at hr
     ·rename_i Ov
      injection hr with hr
      injection hr with h1 h2
      subst h1;subst h2
      refine AM (vals:=#[val]++c.args.map a.eval) hs cG ?_ ?_ h hN hQ
      ·intro he
       have eV:=kK (w:=w) he (#[val]++c.args.map a.eval)
       have hpa:mr.path=#[]:=Array.isEmpty_iff.1 Ov.1
       have hu:∃u,P.underlying t=some u/\∀e,u≠ .pointer e:=by
        have:=Ov.2
        unfold Ou at this
        split at this
        ·cases this
        ·rename_i u j8 hu;exact⟨u,hu,fun e he=>j8 e he⟩
        ·cases this
       obtain⟨u,hu,Ow⟩:=hu
       have hm:(method (P.types.size+Made.depth) t val m).run P w= .ok (f,val) w:=by
        have:P.types.size+Made.depth=(P.types.size+Made.depth - 1)+1:=by simp[Made.depth]
        rw[this]
        cases u<;>first|exact absurd rfl (Ow _)|simp[method,typeInfo,hti,s8,hpa,Ho,follow,receiverAt,run_underlying hu,_root_.Go.Place.get]
       have h0:(#[Value.iface t val]++Array.map a.eval c.args)[0]? =some (.iface t val):=by
        rw[Array.getElem?_append_left (by simp)];rfl
       have h1:(Array.map a.eval c.args).extract 0 c.args.size=Array.map a.eval c.args:=by
        rw[show c.args.size=(Array.map a.eval c.args).size from by simp,Array.extract_size]
       simp[execOp,fK,resolve,hc,invoke,callMethod,hv,h0,h1,hm,eV]
      ·simp only[Array.toList_append,Array.toList_map]
       exact⟨val,_,rfl,hd,dn⟩
     ·cases hr
    ·cases hr
   ·cases hr
  ·cases hr
 ·cases hr
theorem wV(hs:bT M cm H0 w0 n cx φ s a w){o:Oper}(h:opW P n s o X K)
 (hN:∀s' aC a' w',K s'->bT M cm H0 w0 n cx aC s' a' w'->next a' w')
 (hQ:∀v s' aC w' val,X v s'->bT M cm H0 w0 n cx aC s' a w'->V.den (ak M aC s'.H) aC s'.H w' v val->Q (.panic [{v:=val,recovered:=false}]) a w'):o.wpIn (dD ro) k P a w next Q:=by
 obtain⟨cG,h⟩:=h
 split at h
 ·rename_i c fK
  split at h
  ·rename_i f hc
   exact LO hs fK hc cG h hN hQ
  ·rename_i r m hc
   split at h
   ·rename_i g y hr;exact Gi hs fK hc cG hr h hN hQ
   ·exact h.elim
  ·exact IK hs rfl cG h hN
 ·rename_i x fK
  have hx:=mq (M:=M) (φ:=φ) (H:=s.H) (w:=w) s a hs.env x
  have bB:∀ (t:TypeId) (u:Value),a.eval x= .iface t u->Q (.panic [{v:= .iface t u,recovered:=false}]) a w->o.wpIn (dD ro) k P a w next Q:=by
   intro t u hu hq
   refine jO (fun c hc=>by rw[fK]at hc;cases hc) ?_
   have hr:(execOp a.eval o).run P w= .halt (.panic (.iface t u)) w:=by simp[execOp,fK,hu,Instr.panic]
   rw[hr];exact hq
  split at h
  ·rename_i t y hv
   rw[hv]at hx
   obtain⟨u,hu,hd⟩:=hx
   exact NM
  ·rename_i t y hv
   rw[hv]at hx
   obtain⟨u,hu,hd⟩:=hx
   exact NM
  ·exact h.elim
 ·exact IK hs rfl cG h hN
end
end
end Go.Proofs.YtlhemmpklhhgoaaGreat
namespace Go
def Code.sQ (P:Program)(ro:Option Nat)(c:Code)(Q:Exit->Act->World->Prop)(a:Act)(w:World):Prop:=
 ∀ (b:Frame) (k:List Item) (cs:List Frame),b.roundOf=ro->b.fn<P.funcs.size->
   ∃e a' w',Q e a' w'/\ArrivesIn (Machine.fenced P (Proofs.YtlhemmpklhhgoaaGreat.dD ro)) P (lone (b.atR a (.code c::k)) cs w) b k cs e a' w'
end Go
namespace Go.Proofs.YtlhemmpklhhgoaaGreat
instance:LawfulMonad Sem:=LawfulMonad.mk' Sem (id_map:=fun x=>Sem.bind_pure' x) (pure_bind:=fun _ _=>rfl) (bind_assoc:=fun x f g=>Sem.bind_assoc' x f g)
section
variable {P:Program}{M:Nat->Prop}{φ:Place}{H:Hp}{w w':World}{cm:Place}{H0:Hp}{w0:World}{n b:Nat}{s:S}{a:Act}{cx:Cx}{ro:Option Nat}{k:Nat}
theorem pR(hs:bT M cm H0 w0 n cx φ s a w){ops:Array Oper}{o:Oper}{A B:Prop}(h:yi s ops o.guard A B):
 (Region.wanted o (yielded ops a.tmps)=true->A)/\(Region.wanted o (yielded ops a.tmps)=false->B):=by
 unfold yi at h
 unfold Region.wanted
 split at h
 ·rename_i hg;simp only[hg];exact⟨fun _=>h,fun h=>by cases h⟩
 ·rename_i j want hg
  simp only[hg]
  unfold rW at h
  unfold yielded
  split at h
  ·rename_i d hd
   simp only[hd,Option.bind_some]
   have dW:=hs.env d
   split at h
   ·rename_i c hv
    rw[hv]at dW
    simp only[V.den,D.den]at dW
    have:a.tmps[d]? =some (.bool c):=by
     rw[Array.getD_eq_getD_getElem?]at dW
     cases hx:a.tmps[d]? with
     |none=>rw[hx]at dW;simp[undef]at dW
     |some x=>rw[hx]at dW;simp at dW;rw[dW]
    simp only[this]
    by_cases hc:c=want
    ·subst hc;exact⟨fun _=>h.1 rfl,fun h=>by simp at h⟩
    ·exact⟨fun h'=>absurd (by simpa using h') hc,fun _=>h.2 hc⟩
   ·rename_i hv
    rw[hv]at dW
    obtain⟨arr,c7,hn⟩:=dW
    simp only[V.az]at hn
    have:∀c,a.tmps[d]? ≠some (.bool c):=by
     exact N9
    cases hx:a.tmps[d]? with
    |none=>exact⟨fun h=>by simp at h,fun _=>h⟩
    |some x=>cases x<;>first|(exact absurd hx (this _))|(exact⟨fun h=>by simp at h,fun _=>h⟩)
   ·exact h.elim
  ·rename_i hd
   simp only[hd,Option.bind_none]
   exact⟨fun h=>by simp at h,fun _=>h⟩
theorem AP(hs:bT M cm H0 w0 n cx φ s a w){dst:Option Tmp}(cG:gk n dst):bT M cm H0 w0 n cx φ ⟨aU s.env dst (.bN []),s.o,s.nx+1⟩ (a.put dst undef) w:=
 nm (v:= .bN []) (val:=undef) hs hs.heap (Trans.refl _ _ _) ⟨#[],rfl,rfl⟩ cG rfl fun _ hu=>Nat.lt_succ_of_lt hu
theorem oI{ops:Array Oper}{X:V->S->Prop}{K:S->Prop}{Q:Exit->Act->World->Prop}
 (hK:∀s φ a w,K s->bT M cm H0 w0 n cx φ s a w->Q .normal a w)
 (hQ:∀v s' aC a w' val,X v s'->bT M cm H0 w0 n cx aC s' a w'->V.den (ak M aC s'.H) aC s'.H w' v val->Q (.panic [{v:=val,recovered:=false}]) a w'):
 ∀ (l:List Oper) (s:S) (φ:Place) (a:Act) (w:World),yj P n ops X K l s->bT M cm H0 w0 n cx φ s a w->wpListIn (dD ro) k P ops Q l a w
 |[],s,φ,a,w,h,hs=>hK s φ a w h hs
 |o::l,s,φ,a,w,h,hs=>by
  obtain⟨h1,h2⟩:=pR hs h
  unfold wpListIn
  split
  ·rename_i hw
   exact wV hs (h1 hw) (fun s' aC a' w' hk jC=>oI hK hQ l s' aC a' w' hk jC) (fun v s' aC w' val hx jC hd=>hQ v s' aC a w' val hx jC hd)
  ·rename_i hw
   obtain⟨cG,h3⟩:=h2 (by simpa using hw)
   exact⟨fun _ _=>trivial,oI hK hQ l _ _ _ _ h3 (AP hs cG)⟩
def ED(M:Nat->Prop)(cm:Place)(H0:Hp)(w0:World)(n:Nat)(cx:Cx)(Q:fw->S->Prop)(e:Exit)(a:Act)(w:World):Prop:=
 ∃x s φ,Q x s/\bT M cm H0 w0 n cx φ s a w/\match e,x with
  | .normal, .normal=>True
  | .exit i, .exit j=>i=j
  | .ret, .ret=>True
  | .panic ch, .bB v=>∃val,ch=[{v:=val,recovered:=false}]/\V.den (ak M φ s.H) φ s.H w v val
  |_,_=>False
section
variable {Q:Exit->Act->World->Prop}
theorem gu{m:Nat}:(dD ro).room m:=fun d hd=>by simp[dD]at hd
theorem oJ{c:Code}(h:c.wpIn (dD ro) k P Q a w):c.sQ P ro Q a w:=fun b k cs s8 _=>h b k cs s8 trivial gu
theorem gv{c:Code}{Q':Exit->Act->World->Prop}(h:c.sQ P ro Q a w)(hq:∀e a w,Q e a w->Q' e a w):c.sQ P ro Q' a w:=
 fun b k cs s8 hb=>let⟨e,a',w',q,r⟩:=h b k cs s8 hb;⟨e,a',w',hq _ _ _ q,r⟩
theorem EE(h:Q .ret a w):Code.ret.sQ P ro Q a w:=oJ (k:=0) (wpIn_ret h)
theorem AQ{id:Nat}(h:Q (.exit id) a w):(Code.exit id).sQ P ro Q a w:=oJ (k:=0) (wpIn_exit h)
theorem yn{x y:Code}(h:x.sQ P ro (Exit.then (y.sQ P ro Q) Q) a w):(Code.seq x y).sQ P ro Q a w:=by
 intro b k cs s8 hb
 have h0:(lone (b.atR a (.code (.seq x y)::k)) cs w).fenced P (dD ro):=fenced_calm (n:=0) trivial gu rfl
 obtain⟨e,nO,jb,hq,c7⟩:=h b (.code y::k) cs s8 hb
 cases e with
 |normal=>
  obtain⟨Q7,W8,re,pS,jP⟩:=hq b k cs s8 hb
  exact⟨Q7,W8,re,pS, .of_steps (.head h0 stepR_seq c7) jP⟩
 |exit id=>exact HK
 |goto l=>exact HK
 |ret=>exact HK
 |panic ch=>exact HK
 |outgrown=>exact HK
theorem pT{c:Operand}{x y:Code}{t:Bool}(hc:a.eval c= .bool t)(h:(if t then x else y).sQ P ro Q a w):(Code.cond c x y).sQ P ro Q a w:=
 fun b k cs s8 hb=>let⟨e,a',w',q,r⟩:=h b k cs s8 hb;⟨e,a',w',q, .of_steps (.one (fenced_calm (n:=0) trivial gu rfl) (stepR_cond hc)) r⟩
theorem Gj{id:Nat}{c:Code}(h:c.sQ P ro (Exit.inBlock id Q) a w):(Code.block id c).sQ P ro Q a w:=by
 intro b k cs s8 hb
 have h0:(lone (b.atR a (.code (.block id c)::k)) cs w).fenced P (dD ro):=fenced_calm (n:=0) trivial gu rfl
 obtain⟨e,nO,jb,hq,c7⟩:=h b (.inBlock id::k) cs s8 hb
 cases e with
 |normal=>exact⟨.normal,nO,jb,hq, .head h0 stepR_block (StepsIn.trans c7 (.one (fenced_calm (n:=0) trivial gu rfl) stepR_inBlock))⟩
 |exit zJ=>
  by_cases aw:zJ=id
  ·simp only[Exit.inBlock,aw,if_true]at hq
   exact⟨.normal,nO,jb,hq, .head h0 stepR_block (c7.1 k (by simp[exitTo,aw]))⟩
  ·simp only[Exit.inBlock,aw,if_false]at hq
   have this:(id==zJ)=false:=by simp;exact fun h=>aw h.symm
   have hx:exitTo zJ (.inBlock id::k)=exitTo zJ k:=by simp[exitTo,this]
   exact⟨.exit zJ,nO,jb,hq,fun k' hk=> .head h0 stepR_block (c7.1 k' wv),
    fun Ge hk=>let⟨k₁,h1,h2⟩:=c7.2 Ge wv;⟨k₁,h1, .head h0 stepR_block h2⟩⟩
 |goto l=>
  have hx:gotoIn l (.inBlock id::k)=gotoIn l k:=by simp[gotoIn]
  exact⟨_,nO,jb,hq,fun k' hk=> .head h0 stepR_block (c7.1 k' wv),
   fun Ge hk=>let⟨k₁,h1,h2⟩:=c7.2 Ge wv;⟨k₁,h1, .head h0 stepR_block h2⟩⟩
 |ret=>exact QC
 |panic ch=>exact QC
 |outgrown=>exact QC
theorem jH{b:Frame}{k:List Item}{cs:List Frame}{c:Code}:step P (lone (b.atR a (.code (.scope c)::k)) cs w)= .next (lone (b.atR a (.code c:: .inScope c::k)) cs w):=
 step_lone_go (by simp[stepG,stepG.exec,Frame.atR])
theorem vW{b:Frame}{k:List Item}{cs:List Frame}{c:Code}:step P (lone (b.atR a (.inScope c::k)) cs w)= .next (lone (b.atR a k) cs w):=
 step_lone_go (by simp[stepG,stepG.exec,Frame.atR])
theorem wW{c:Code}(h:c.sQ P ro Q a w)(hg:∀l a w, ¬Q (.goto l) a w):(Code.scope c).sQ P ro Q a w:=by
 intro b k cs s8 hb
 have h0:(lone (b.atR a (.code (.scope c)::k)) cs w).fenced P (dD ro):=fenced_calm (n:=0) trivial gu rfl
 obtain⟨e,nO,jb,hq,c7⟩:=h b (.inScope c::k) cs s8 hb
 cases e with
 |normal=>exact⟨.normal,nO,jb,hq, .head h0 jH (StepsIn.trans c7 (.one (fenced_calm (n:=0) trivial gu rfl) vW))⟩
 |exit zJ=>
  have hx:exitTo zJ (.inScope c::k)=exitTo zJ k:=by simp[exitTo]
  exact⟨.exit zJ,nO,jb,hq,fun k' hk=> .head h0 jH (c7.1 k' wv),
   fun Ge hk=>let⟨k₁,h1,h2⟩:=c7.2 Ge wv;⟨k₁,h1, .head h0 jH h2⟩⟩
 |goto l=>exact(hg _ _ _ hq).elim
 |ret=>exact QD
 |panic ch=>exact QD
 |outgrown=>exact QD
def tZ(P:Program)(l:Nat)(Q:Exit->Act->World->Prop)(a':Act):Ending->World->Prop
 | .returned _,CY=>∃jump sR,(Instr.endLoop l).run P CY= .ok jump sR/\(match jump with|none=>Q .normal a' sR|some c=>c.sQ P none Q a' sR)
 | .panicked chain,CY=>Q (.panic chain) a' CY
 | .outgrown,_=>LetsOut Q
theorem vX{g:Operand}{ps:Array Tmp}{assign body:Code}
 (h:∀fn,fn<P.funcs.size->∃ (l:Nat) (mark:List Deferred) (jb:World) (d:Deferred) (wX:World) (f:FuncId) (args:Array Value) (re:World),
  (Instr.enterLoop fn a.tmps ps assign body (dD none).round).run P w= .ok (l,mark) jb/\(resolve a.eval (rangeCall g l) 0).run P jb= .ok d wX/\
  (invoke d.target d.args).run P wX= .ok (.enter f args) re/\CallsIn (dD none) 0 P f args re (tZ P l Q {a with defers:=mark++a.defers})):
 (Code.rangeFunc g ps assign body).sQ P none Q a w:=by
 intro b k cs s8 hb
 obtain⟨l,mark,jb,d,wX,f,args,re,he,AR,hinv,hF,eI⟩:=h b.fn hb
 rw[show(dD none).round=b.roundOf from s8.symm]at he
 have calm:∀ (m:Machine),m.fenced P (dD none)↔m.fenced P Fence.wide:=fun m=>Iff.rfl
 have h0:(lone (b.atR a (.code (.rangeFunc g ps assign body)::k)) cs w).fenced P (dD none):=(calm _).2 (fenced_wide P _)
 have lB:=stepR_rangeFunc (P:=P) (b:=b) (a:=a) (k:=k) (cs:=cs) (w:=w) he AR hinv
 obtain⟨e,CY,fr,hR,CZ,Ho,IP⟩:=eI (b.atR {a with defers:=mark++a.defers} (.inRangeFunc l::k)::cs) gu
 cases e with
 |outgrown=>
  obtain⟨abt,abu,hq⟩:=hR
  exact⟨.outgrown,abt,abu,hq, .inr (Outgrown.of_steps (.one lB) CZ)⟩
 |returned v=>
  obtain⟨jump,sR,eg,hj⟩:=hR
  have Ox:StepsIn (Machine.fenced P (dD none)) P (lone (b.atR a (.code (.rangeFunc g ps assign body)::k)) cs w) (lone (b.atR {a with defers:=mark++a.defers} ((jump.map Item.code).toList++k)) cs sR):=by
   refine .head h0 lB (StepsIn.trans CZ (.head ((calm _).2 (fenced_wide P _)) ?_ (.one ((calm _).2 (fenced_wide P _)) (stepR_endRangeFunc eg))))
   rw[<- finish_atR_inRangeFunc l v];exact step_leave_returned IP
  cases jump with
  |none=>exact⟨.normal,_,sR,hj,Ox⟩
  |some c=>
   obtain⟨e',a'',abv,hq,c7⟩:=hj b k cs s8 hb
   exact⟨e',a'',abv,hq, .of_steps Ox c7⟩
 |panicked chain=>
  refine⟨.panic chain,_,CY,hR, .inRangeFunc l::k, .head h0 lB (StepsIn.trans CZ (.one ((calm _).2 (fenced_wide P _)) ?_))⟩
  rw[<- Frame.raise_atR];exact step_leave_panicked IP
end
theorem wY(hH:ax M φ H w){id l:Nat}(e7:H.us id){nf m:Nat}{env:List V}{ps:List Nat}{je eT:IC}{st st':LoopState}{pd pd':Option jA}(ho:H.o id= .loop nf m env ps je eT st pd)(e8:φ id= .pointer (some ⟨l,0,none⟩)):
 ∃r,w.heap[l]? =some (.loop r)/\r.state=st/\r.pending=pd.map jA.code/\
  ax M φ (H.put [(id, .loop nf m env ps je eT st' pd')]) {w with heap:=w.heap.setIfInBounds l (.loop {r with state:=st',pending:=pd'.map jA.code})}/\
  Trans φ H w φ (H.put [(id, .loop nf m env ps je eT st' pd')]) {w with heap:=w.heap.setIfInBounds l (.loop {r with state:=st',pending:=pd'.map jA.code})}:=by
 have aS:=hH.ok id
 simp only[aO,ho]at aS
 obtain⟨b,r,h1,h2,h0,h3,h4,h5,h6,h7,h8,h9⟩:=aS
 rw[e8]at h1;simp at h1;subst h1
 refine⟨r,h2,h3,h4, ?_⟩
 have IA:eh (· =l) w {w with heap:=w.heap.setIfInBounds l (.loop {r with state:=st',pending:=pd'.map jA.code})}:=
  ⟨rfl,rfl,rfl,aG,fun j _ hj=>(MapKept.heap_set h2).2 j hj⟩
 have qL:(H.o id).live=true:=by rw[ho];rfl
 have Ex:eN (φ id)=some l:=by rw[e8];rfl
 have ht:=fH (w:=w) (w':={w with heap:=w.heap.setIfInBounds l (.loop {r with state:=st',pending:=pd'.map jA.code})}) e7 qL Ex IA (.loop nf m env ps je eT st' pd') ef ef
 refine⟨iS hH e7 qL Ex IA _ ef ef ?_,ht⟩
 unfold aO
 simp only[bz,aH,if_true]
 exact⟨l,_,e8,(MapKept.heap_set h2).1,h0,rfl,rfl,h5,h6,h7,h8,fun i=>V.aP ht _ _ (h9 i)⟩
theorem iE{l:Nat}{r:Loop}(o:Obj)(hb:w.heap[l]? =some (.loop r)):(setObj l o).run P w= .ok () {w with heap:=w.heap.setIfInBounds l o}:=by
 simp[setObj,Sem.run,hb]
theorem jQ{l:Nat}{r:Loop}(hb:w.heap[l]? =some (.loop r)):(Instr.getLoop l).run P w= .ok r w:=by
 simp[Instr.getLoop,getObj,Sem.run,hb,Result.andThen]
end
def rh(Q:fw->S->Prop)(pd:Option jA)(s:S):Prop:=
 match pd with
 |none=>Q .normal s
 |some .ret=>Q .ret s
 |some (.exit id)=>Q (.exit id) s
def AS(P:Program)(n:Nat)(g:V)(ps:List Nat)(je eT:IC)(Q:fw->S->Prop)(s:S):Prop:=
 ∃env,(∀i,bf env i= .ab\/bf env i=s.env i)/\
  match g with
  | .func (.func f) first cap=>nX P f (first++[.kz s.nx]++cap) (aA s.o s.nx (.loop P.funcs.size n env ps je eT .ready none)) (s.nx+1)
    (fun _ o' nx'=>∃nf m e p c d st pd,o' s.nx= .loop nf m e p c d st pd/\st≠ .busy/\rh Q pd ⟨s.env,aA o' s.nx (.loop nf m e p c d .exhausted pd),nx'⟩)
    (fun v o' nx'=>Q (.bB v) ⟨s.env,o',nx'⟩)
  |_=>False
def W9(P:Program)(n b:Nat)(g:Operand)(ps:List Nat)(je eT:IC)(Q:fw->S->Prop)(s:S):Prop:=∃s',(s'=s\/bM b s s')/\AS P n (s'.ev g) ps je eT Q s'
def iL(P:Program)(n b:Nat)(rd:Bool):Code->(fw->S->Prop)->S->Prop
 | .skip,Q,s=>Q .normal s
 | .label _,Q,s=>Q .normal s
 | .scope x,Q,s=>iL P n b rd x Q s
 | .region _ ops false,Q,s=>yj P n ops (fun v s=>Q (.bB v) s) (Q .normal) ops.toList s
 | .region id ops true,Q,s=>∀M cm H0 w0 cx φ a w ro k,bT M cm H0 w0 n cx φ s a w->(Code.region id ops true).wpIn (dD ro) k P (ED M cm H0 w0 n cx Q) a w
 | .seq x y,Q,s=>iL P n b rd x (pQ (iL P n b rd y Q) Q) s
 | .cond c x y,Q,s=>match s.ev c with
   | .d (.bool t)=>(t=true->iL P n b rd x Q s)/\(t=false->iL P n b rd y Q s)
   | .fD=>iL P n b rd x Q s/\iL P n b rd y Q s
   |_=>False
 | .block id x,Q,s=>iL P n b rd x (ff id Q) s
 | .loop x,Q,s=>∃ (J:Nat->S->Prop),(∃m s1,bM b s s1/\J m s1)/\∀m s0,J m s0->iL P n b rd x (fun e s=>match e with| .normal=>∃m' s1,m'<m/\bM b s s1/\J m' s1|e=>Q e s) s0
 | .exit id,Q,s=>Q (.exit id) s
 | .ret,Q,s=>Q .ret s
 | .rangeFunc g ps x y,Q,s=>rd=false/\W9 P n b g ps.toList (low n x) (low n y) Q s
 |_,_,_=>False
section
variable {P:Program}{M:Nat->Prop}{φ:Place}{H:Hp}{w w':World}{cm:Place}{H0:Hp}{w0:World}{n b:Nat}{s:S}{a:Act}{cx:Cx}{ro:Option Nat}{k:Nat}
theorem C0(hb:∀id,H0.us id->id<b)(hs:bT M cm H0 w0 n cx φ s a w){s':S}(h:bM b s s'):∃aC,bT M cm H0 w0 n cx aC s' a w:=by
 obtain⟨aC,h1,h2,h3,h4,h5,h6⟩:=h M φ w (fun i=>a.tmps.getD i undef) hs.heap hs.env
 refine⟨aC,h1,⟨hs.tr.cf,fun k hk=>hs.tr.grow k (h3 k hk),⟨fun id hu=>Nat.lt_of_lt_of_le (hb id hu) h4,fun id hu hr=> ?_,fun id e' hu he=> ?_⟩⟩,hs.size, ?_,h2⟩
 ·obtain⟨g1,g2⟩:=h5 id (hb id hu) hr
  obtain⟨g3,g4⟩:=hs.tr.rel.row id hu g1
  exact⟨g3,g2.trans g4⟩
 ·obtain⟨e,g1,g2,g3⟩:=h6 id e' (hb id hu) he
  obtain⟨e0,k1,k2,k3⟩:=hs.tr.rel.ep id e hu g1
  refine⟨e0,k1,Nat.le_trans k2 g2,fun heq=> ?_⟩
  have a1:e0=e:=ae
  have a2:e=e':=ae
  exact(g3 a2).trans (k3 a1)
 ·obtain⟨ms,g1,g2,g3,g4⟩:=hs.defers
  exact⟨ms,g1,g2,g3,fun r hr=>⟨(g4 r hr).1,(g4 r hr).2.1,fun hl=>(g4 r hr).2.2 (h3 r hl)⟩⟩
theorem yo{c:Code}{Q:Exit->Act->World->Prop}(J:Nat->Act->World->Prop)(round:∀m a w,J m a w->c.sQ P ro (Exit.then (fun a' w'=>∃m',m'<m/\J m' a' w') Q) a w):
 ∀m a w,J m a w->(Code.loop c).sQ P ro Q a w:=by
 intro m a w h0 fr kk cs s8 hb
 have hr:(dD ro).room (cs.length+1+0):=fun d hd=>by simp[dD]at hd
 have key:∀m a w,J m a w->∃e a' w',Q e a' w'/\ArrivesIn (Machine.fenced P (dD ro)) P (lone (fr.atR a (.code c:: .inLoop c::kk)) cs w) fr kk cs e a' w':=by
  intro m
  induction m using Nat.strongRecOn with
  |_ m ih=>
   intro a w hJ
   obtain⟨e,a1,w1,hq,c7⟩:=round m a w hJ fr (.inLoop c::kk) cs s8 hb
   cases e with
   |normal=>
    obtain⟨m',bW,hJ'⟩:=hq
    obtain⟨e2,a2,w2,Ud,EF⟩:=ih m' bW a1 w1 hJ'
    exact⟨e2,a2,w2,Ud, .of_steps (StepsIn.trans c7 (.one (fenced_calm trivial hr rfl) stepR_inLoop)) EF⟩
   |_=>exact⟨_,a1,w1,hq, .pass (x:= .inLoop c) rfl (fun _ _=> .inl aG) c7⟩
 obtain⟨e,a',w',hq,c7⟩:=key m a w h0
 exact⟨e,a',w',hq, .of_steps (.one (fenced_calm trivial hr rfl) stepR_loop) c7⟩
theorem wZ(hs:bT M cm H0 w0 n cx φ s a w)(mf:cx.rd=false)(s8:ro=none){g:Operand}{ps:Array Tmp}{x y:Code}{Q:fw->S->Prop}(h:AS P n (s.ev g) ps.toList (low n x) (low n y) Q s):
 (Code.rangeFunc g ps x y).sQ P ro (ED M cm H0 w0 n cx Q) a w:=by
 subst s8
 obtain⟨env,dW,h⟩:=h
 refine vX fun fn Ho=> ?_
 let C1:Loop:={state:= .ready,pending:=none,fn:=fn,tmps:=a.tmps,params:=ps,assign:=x,body:=y,defers:=w.heap.size}
 let w1:World:=(w.alloc (.deferred (some []))).alloc (.loop C1)
 let l:Nat:=w.heap.size+1
 have lB:(Instr.enterLoop fn a.tmps ps x y (dD none).round).run P w= .ok (l,[mark w.heap.size]) w1:=by
  simp[Instr.enterLoop,dD,mark,w1,l,C1]
 have LP:eh (fun _=>False) w w1:=by
  have k1:=bX w (.deferred (some []))
  have k2:=bX (w.alloc (.deferred (some []))) (.loop C1)
  exact⟨k2.os.trans k1.os,k2.tape.trans k1.tape,k2.output.trans k1.output,Nat.le_trans k1.size k2.size,fun j hj hm=>(k2.block j (Nat.lt_of_lt_of_le hj k1.size) hm).trans (k1.block j hj hm)⟩
 let iB:=aA φ s.nx (.pointer (some ⟨l,0,none⟩))
 let s1:S:=⟨s.env,aA s.o s.nx (.loop P.funcs.size n env ps.toList (low n x) (low n y) .ready none),s.nx+1⟩
 have cD: ¬s.H.us s.nx:=by simp[S.H]
 have eA:∀b,eN (.pointer (some ⟨l,0,none⟩))=some b->w.heap.size<=b/\b<w1.heap.size:=by
  intro b hb;simp[eN]at hb;subst hb;simp[l,w1]
 have zH:=dz (φ:=φ) (H:=s.H) LP cD (.loop P.funcs.size n env ps.toList (low n x) (low n y) .ready none) (.pointer (some ⟨l,0,none⟩)) fun b hb=>(eA b hb).1
 have LK:(w.alloc (.deferred (some []))).heap.size=w.heap.size+1:=aG
 have qL:w1.heap[l]? =some (.loop C1):=by
  have:=heap_alloc_new (w.alloc (.deferred (some []))) (.loop C1)
  rwa [LK]at this
 have Hn:=hY hs.heap LP cD (.loop P.funcs.size n env ps.toList (low n x) (low n y) .ready none) (.pointer (some ⟨l,0,none⟩)) eA (by
  unfold aO
  simp only[bz,aH,if_true]
  refine⟨l,C1,rfl,qL,Ho,rfl,rfl,rfl,hs.size,rfl,rfl,fun i=> ?_⟩
  rcases dW i with e|e
  ·rw[e];trivial
  ·rw[e];exact V.aP zH _ _ (hs.env i))
 have pg:bT M cm H0 w0 n cx iB s1 {a with defers:=mark w.heap.size::a.defers} w1:=by
  have base:=eB hs Hn zH (o':=aA s.o s.nx (.loop P.funcs.size n env ps.toList (low n x) (low n y) .ready none)) (nx':=s.nx+1) rfl (IJ fun id aw=>by simp at aw;exact .inr aw)
  refine⟨base.heap,base.tr,base.size, ?_,base.env⟩
  obtain⟨ms,g1,g2,g3,g4⟩:=base.defers
  obtain⟨ms',q1,q2,q3,q4⟩:=hs.defers
  have hmm:ms.map mark=ms'.map mark:=by
   have:ms.map mark++cx.base=ms'.map mark++cx.base:=g1.symm.trans q1
   exact List.append_cancel_right this
  have Q8:ms=ms':=by
   have hm:∀a b,mark a=mark b->a=b:=fun a b h=>by simpa[mark]using h
   exact List.map_inj_right hm |>.1 hmm
  refine⟨w.heap.size::ms,by rw[g1];rfl,List.nodup_cons.2 ⟨fun hm=> ?_,g2⟩,(fun h=>by rw[mf]at h;cases h),fun r hr=> ?_⟩
  ·have:=(q4 w.heap.size (Q8 ▸ hm)).2.1
   rw[Array.getElem?_eq_none (Nat.le_refl _)]at this;cases this
  ·rcases List.mem_cons.1 hr with rfl|hr
   ·refine⟨hs.tr.cf.size,(RowKit.Below.heap_alloc (w.alloc (.deferred (some []))) (.loop C1) w.heap.size (by rw[LK];omega)).trans (heap_alloc_new w _), ?_⟩
    rintro⟨id,i1,i2⟩
    by_cases e:id=s.nx
    ·subst e;simp[iB,eN,l]at i2
    ·have i1':(s.H.o id).live=true:=by simpa[s1,S.H,e]using i1
     have i2':eN (φ id)=some w.heap.size:=by simpa[iB,e]using i2
     have:=(hs.heap.ours _ ⟨id,i1',i2'⟩).2
     omega
   ·exact g4 r hr
 have abw:V.den (ak M iB s1.H) iB s1.H w1 (.kz s.nx) (.func (.yield l) #[] #[]):=
  ⟨rfl,by simp[s1,S.H],fun _=>⟨l,by simp[iB],rfl⟩⟩
 have hg:=mq (M:=M) (φ:=iB) (H:=s1.H) (w:=w1) s1 {a with defers:=mark w.heap.size::a.defers} pg.env g
 have abx:s1.ev g=s.ev g:=by cases g<;>rfl
 rw[abx]at hg
 have hae:({a with defers:=mark w.heap.size::a.defers}:Act).eval g=a.eval g:=rfl
 rw[hae]at hg
 split at h
 ·rename_i f first cap hgv
  rw[hgv]at hg
  obtain⟨fa,ca,Q6,wB,hca⟩:=hg
  have fin:∀ (all:List V) (o2:Nat->aa) (s2:S),s2=⟨s.env,o2,s.nx+1⟩->bT M cm H0 w0 n cx iB s2 {a with defers:=mark w.heap.size::a.defers} w1->V.az (ak M iB s2.H) iB s2.H w1 all (fa++#[Value.func (.yield l) #[] #[]]++ca).toList->(o2 s.nx).bY=true->
   cO P f all o2 (s.nx+1) (fun _ o' nx'=>∃nf m e p c d st pd,o' s.nx= .loop nf m e p c d st pd/\st≠ .busy/\rh Q pd ⟨s.env,aA o' s.nx (.loop nf m e p c d .exhausted pd),nx'⟩) (fun v o' nx'=>Q (.bB v) ⟨s.env,o',nx'⟩)->
   ∃ (l:Nat) (mark:List Deferred) (jb:World) (d:Deferred) (wX:World) (f:FuncId) (args:Array Value) (re:World),
     (Instr.enterLoop fn a.tmps ps x y (dD none).round).run P w= .ok (l,mark) jb/\(resolve a.eval (rangeCall g l) 0).run P jb= .ok d wX/\
     (invoke d.target d.args).run P wX= .ok (.enter f args) re/\CallsIn (dD none) 0 P f args re (tZ P l (ED M cm H0 w0 n cx Q) {a with defers:=mark++a.defers}):=by
   intro all o2 s2 aby Ct aW cN hC
   subst aby
   have eI:=hC.2 M iB w1 _ Ct.heap aW
   refine⟨l,[mark w.heap.size],w1,{target:= .fn (.func f) ca,args:=fa++#[Value.func (.yield l) #[] #[]]},w1,f,fa++#[Value.func (.yield l) #[] #[]]++ca,w1,lB, ?_, ?_,cT (eI.mono fun e w' ⟨aC,o',nx',v,k1,k2,k3⟩=> ?_)⟩
   ·simp only[resolve,Q6,Deferred.ofValue,List.map_toArray,List.map_cons,List.map_nil,Sem.run_pure]
    rfl
   ·simp[invoke,kK hC.1]
   ·cases e with
    |returned val=>
     obtain⟨k4,nf,m,e,p,c,d,st,pd,k5,k6,k7⟩:=k3
     have Cu:bT M cm H0 w0 n cx aC ⟨s.env,o',nx'⟩ {a with defers:=mark w.heap.size::a.defers} w':=eB Ct k1 k2 rfl fun id hu=>hu
     have Q9:aC s.nx= .pointer (some ⟨l,0,none⟩):=by
      have:=(k2.rel.row s.nx (show s.nx<s.nx+1 from ae) (by show(o' s.nx).bY=true;rw[k5];rfl)).2
      rw[this];simp[iB]
     have bW:s.nx<nx':=k2.rel.us s.nx (show s.nx<s.nx+1 from ae)
     obtain⟨r,r1,r2,r3,r4,r5⟩:=wY (st':= .exhausted) (pd':=pd) k1 bW (show(hp o' nx').o s.nx=_ from k5) Q9
     have eg:(Instr.endLoop l).run P w'= .ok (pd.map jA.code) {w' with heap:=w'.heap.setIfInBounds l (.loop {r with state:= .exhausted,pending:=pd.map jA.code})}:=by
      have e1:({r with state:= .exhausted}:Loop)={r with state:= .exhausted,pending:=pd.map jA.code}:=by rw[<- r3]
      have hnb:(r.state==LoopState.busy)=false:=by rw[r2];cases st<;>first|rfl|exact absurd rfl k6
      simp only[Instr.endLoop,Sem.run_bind,jQ r1,Result.andThen_ok,hnb,Bool.false_eq_true,if_false,Sem.run_pure]
      rw[iE _ r1,e1]
      simp[r3]
     have Ue:=eB Cu r4 r5 (o':=aA o' s.nx (.loop nf m e p c d .exhausted pd)) (nx':=nx') rfl fun id hu=>by
      simp only[dN]at hu
      rcases hu with hu|hu
      ·exact hu
      ·subst hu;exact bW
     refine⟨pd.map jA.code,_,eg, ?_⟩
     cases pd with
     |none=>exact⟨.normal,_,_,k7,Ue,trivial⟩
     |some j=>
      cases j with
      |ret=>exact EE ⟨.ret,_,_,k7,Ue,trivial⟩
      |exit id=>exact AQ ⟨.exit id,_,_,k7,Ue,rfl⟩
    |panicked ch=>
     obtain⟨val,rfl,k4,k5⟩:=k3
     have Cu:bT M cm H0 w0 n cx aC ⟨s.env,o',nx'⟩ {a with defers:=mark w.heap.size::a.defers} w':=eB Ct k1 k2 rfl fun id hu=>hu
     exact⟨.bB v,_,_,k5,Cu,val,rfl,k4⟩
    |outgrown=>exact k3.elim
  have mE:V.az (ak M iB s1.H) iB s1.H w1 (first++[V.kz s.nx]++cap) (fa++#[Value.func (.yield l) #[] #[]]++ca).toList:=by
   rw[Array.toList_append,Array.toList_append]
   exact V.pv wB ⟨_,[],rfl,abw,rfl⟩ hca
  rcases h with hC|hC
  ·exact fin _ _ s1 rfl pg mE (by simp;rfl) hC
  ·have lS:s1.o=aA s.o s.nx (.loop P.funcs.size n env ps.toList (low n x) (low n y) .ready none):=rfl
   obtain⟨f1,f2,f3,f4,f5⟩:=cX pg.heap (cY s1.o (first++[V.kz s.nx]++cap)) (gr _ _ s1.o mE)
   have jl:s1.H.put (b7 s1.H.o (cY s1.o (first++[V.kz s.nx]++cap)))=hp (put s1.o (b7 s1.o (cY s1.o (first++[V.kz s.nx]++cap)))) s1.nx:=kJ (by rw[sY];exact gr _ _ s1.o mE)
   have Oy:=IM f1 _ _ f3 (V.aQ f2 _ _ mE)
   have Oz:((s1.H.put (b7 s1.H.o (cY s1.o (first++[V.kz s.nx]++cap)))).o s.nx).bY=true:=by
    by_cases hm:s.nx∈cY s1.o (first++[V.kz s.nx]++cap)
    ·rw[f3 _ hm];simp[s1,S.H,aa.fz,aa.bY]
    ·rw[f4 _ hm];simp[s1,S.H,aa.bY]
   rw[jl]at f1 f2 Oy Oz
   exact fin _ (put s1.o (b7 s1.o (cY s1.o (first++[V.kz s.nx]++cap)))) ⟨s.env,_,s.nx+1⟩ rfl (eB pg f1 f2 rfl fun id hu=>hu) Oy Oz hC
 ·exact h.elim
end
end Go.Proofs.YtlhemmpklhhgoaaGreat
