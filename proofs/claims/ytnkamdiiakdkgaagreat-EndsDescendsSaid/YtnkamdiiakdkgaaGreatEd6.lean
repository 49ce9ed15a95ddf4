/-
  A PART OF THE PROOF. Conditions: none.
-/
import Derived.RangeFuncLeaves
import Derived.TacticsIn
import Derived.RecoverIn
import Derived.Test.YtnkamdiiakdkgaaGreatEd5
set_option linter.unusedSimpArgs false
set_option linter.unusedVariables false
namespace Go.Proofs.YtnkamdiiakdkgaaGreat
inductive R where
 |ret (ds:List D)|bD (d:D)
def R.is (B:Nat->Prop)(w:World):R->Ending->Prop
 | .ret [x], .returned v=>D.den B w x v
 | .ret ds, .returned v=>∃a,v= .tuple a/\D.aD B w ds a.toList
 | .bD d, .panicked chain=>∃v,chain=[{v:=v,recovered:=false}]/\D.den B w d v
 |_,_=>False
def Enters(P:Program)(f:FuncId):Prop:=∃fn,P.funcs[f]? =some fn/\(fn.name== "runtime.NumGoroutine")=false/\fn.body.isNone=false
def aT(P:Program)(f:FuncId)(ds:List D)(out:R):Prop:=
 Enters P f/\∀ (M:Nat->Prop) (w:World) (vals:Array Value),(∀b,M b->b<w.heap.size)->D.aD M w ds vals.toList->
  Calls P f vals w fun e w'=>dB (fun _=>False) w w'/\out.is M w' e
def hp(o:Nat->ab)(nx:Nat):Hp:=⟨o,fun id=>id<nx⟩
def mI(M:Nat->Prop)(φ:Place)(H:Hp)(w:World)(K X:V->(Nat->ab)->Nat->Prop)(e:Ending)(w':World):Prop:=
 ∃aE o' nx' v,ax M aE (hp o' nx') w'/\Trans φ H w aE (hp o' nx') w'/\match e with
  | .returned val=>V.den (ak M aE (hp o' nx')) aE (hp o' nx') w' v val/\K v o' nx'
  | .panicked ch=>∃val,ch=[{v:=val,recovered:=false}]/\V.den (ak M aE (hp o' nx')) aE (hp o' nx') w' v val/\X v o' nx'
  | .outgrown=>False
def cX(P:Program)(f:FuncId)(args:List V)(o:Nat->ab)(nx:Nat)(K X:V->(Nat->ab)->Nat->Prop):Prop:=
 Enters P f/\∀ (M:Nat->Prop) (φ:Place) (w:World) (vals:Array Value),ax M φ (hp o nx) w->V.aD (ak M φ (hp o nx)) φ (hp o nx) w args vals.toList->
  Calls P f vals w (mI M φ (hp o nx) w K X)
def dw(P:Program)(id:Nat)(args:List V)(o:Nat->ab)(nx:Nat)(K X:V->(Nat->ab)->Nat->Prop):Prop:=
 (o id).b8=true/\∀ (M:Nat->Prop) (φ:Place) (w:World) (vals:Array Value) (b:Nat),ax M φ (hp o nx) w->V.aD (ak M φ (hp o nx)) φ (hp o nx) w args vals.toList->φ id= .pointer (some ⟨b,0,none⟩)->
  ∃f tmps assign body,(Instr.yield b vals).run P w= .ok (.round b f tmps assign body) w/\∀n,RoundIn Fence.wide n P b f tmps assign body w (mI M φ (hp o nx) w K X)
theorem mI.mono {M:Nat->Prop}{φ:Place}{H:Hp}{w:World}{K X K' X':V->(Nat->ab)->Nat->Prop}(hK:∀v o n,K v o n->K' v o n)(hX:∀v o n,X v o n->X' v o n){e:Ending}{w':World}(h:mI M φ H w K X e w'):mI M φ H w K' X' e w':=by
 obtain⟨aE,o',nx',v,h1,h2,h3⟩:=h
 refine⟨aE,o',nx',v,h1,h2, ?_⟩
 cases e with
 |returned val=>exact⟨h3.1,hK _ _ _ h3.2⟩
 |panicked ch=>obtain⟨val,a,b,c⟩:=h3;exact⟨val,a,b,hX _ _ _ c⟩
 |outgrown=>exact h3
theorem cX.mono {P:Program}{f:FuncId}{args:List V}{o:Nat->ab}{nx:Nat}{K X K' X':V->(Nat->ab)->Nat->Prop}(hK:∀v o n,K v o n->K' v o n)(hX:∀v o n,X v o n->X' v o n)(h:cX P f args o nx K X):cX P f args o nx K' X':=
 ⟨h.1,fun M φ w vals h1 h2=>(h.2 M φ w vals h1 h2).mono fun _ _ h=>h.mono hK hX⟩
theorem dw.mono {P:Program}{id:Nat}{args:List V}{o:Nat->ab}{nx:Nat}{K X K' X':V->(Nat->ab)->Nat->Prop}(hK:∀v o n,K v o n->K' v o n)(hX:∀v o n,X v o n->X' v o n)(h:dw P id args o nx K X):dw P id args o nx K' X':=
 ⟨h.1,fun M φ w vals b h1 h2 h3=>let⟨f,t,a,c,h4,h5⟩:=h.2 M φ w vals b h1 h2 h3;⟨f,t,a,c,h4,fun n=>(h5 n).mono fun _ _ h=>h.mono hK hX⟩⟩
mutual
def D.flat:D->Bool
 | .sl _| .mp _ _=>false
 | .agg cs=>D.jy cs
 | .iface _ x=>x.flat
 |_=>true
def D.jy:List D->Bool
 |[]=>true
 |x::xs=>x.flat&&D.jy xs
end
mutual
theorem D.pC {B B':Nat->Prop}{w w':World}:∀ (x:D) (v:Value),x.flat=true->D.den B w x v->D.den B' w' x v
 | .int _ _,_,_,h| .bool _,_,_,h| .str _,_,_,h| .gC,_,_,h| .ma,_,_,h| .b7,_,_,h| .ig,_,_,h=>h
 | .agg cs,_,hf,h=>by obtain⟨a,rfl,h,h2⟩:=h;exact⟨a,rfl,D.lI cs _ hf h,h2⟩
 | .sl es,_,hf,h=>by simp[D.flat]at hf
 | .mp _ _,_,hf,h=>by simp[D.flat]at hf
 | .iface t x,_,hf,h=>by obtain⟨u,rfl,h⟩:=h;exact⟨u,rfl,D.pC x u hf h⟩
theorem D.lI {B B':Nat->Prop}{w w':World}:∀ (xs:List D) (vs:List Value),D.jy xs=true->D.aD B w xs vs->D.aD B' w' xs vs
 |[],_,_,h=>h
 |x::xs,_,hf,h=>by
  obtain⟨u,us,rfl,h1,h2⟩:=h
  simp only[D.jy,Bool.and_eq_true]at hf
  exact⟨u,us,rfl,D.pC x u hf.1 h1,D.lI xs us hf.2 h2⟩
end
mutual
def D.mJ:D->Bool
 | .mp _ _=>false
 | .agg cs=>D.lJ cs
 | .sl es=>D.lJ es
 | .iface _ x=>x.mJ
 |_=>true
def D.lJ:List D->Bool
 |[]=>true
 |x::xs=>x.mJ&&D.lJ xs
end
theorem fX.An {B B':Nat->Prop}{w w':World}{a:Addr}{cs:Array Value}
 (hb:∀b,pb w b-> ¬B b->w'.heap[b]? =w.heap[b]? /\ ¬B' b) (h:fX B w a cs):fX B' w' a cs:=by
 intro j u hj
 obtain⟨h1,h2⟩:=h j u hj
 have ck:pb w a.block:=by simpa using n8 h1
 exact Yt
mutual
theorem D.kW {B B':Nat->Prop}{w w':World}(hb:∀b,pb w b-> ¬B b->w'.heap[b]? =w.heap[b]? /\ ¬B' b):
 ∀ (x:D) (v:Value),x.mJ=true->D.den B w x v->D.den B' w' x v
 | .int _ _,_,_,h| .bool _,_,_,h| .str _,_,_,h| .gC,_,_,h| .ma,_,_,h| .b7,_,_,h| .ig,_,_,h=>by simpa[D.den]using h
 | .agg cs,_,hn,h=>by
   obtain⟨a,rfl,h,hf⟩:=h
   exact⟨a,rfl,D.mK hb cs _ hn h,hf⟩
 | .sl es,_,hn,h=>by
   obtain⟨base,len,cap,rfl,h1,h2,h3,sz,h4⟩:=h
   exact⟨base,len,cap,rfl,h1,h2,h3,sz,fun a ha=>⟨(h4 a ha).1,D.pD hb sz a es 0 hn (h4 a ha).2⟩⟩
 | .iface t d,_,hn,h=>by
   obtain⟨u,rfl,h⟩:=h
   exact⟨u,rfl,D.kW hb d u hn h⟩
 | .mp _ _,_,hn,_=>by simp[D.mJ]at hn
theorem D.mK {B B':Nat->Prop}{w w':World}(hb:∀b,pb w b-> ¬B b->w'.heap[b]? =w.heap[b]? /\ ¬B' b):
 ∀ (ds:List D) (vs:List Value),D.lJ ds=true->D.aD B w ds vs->D.aD B' w' ds vs
 |[],_,_,h=>h
 |d::ds,_,hn,h=>by
  obtain⟨u,us,rfl,h1,h2⟩:=h
  simp only[D.lJ,Bool.and_eq_true]at hn
  exact⟨u,us,rfl,D.kW hb d u hn.1 h1,D.mK hb ds us hn.2 h2⟩
theorem D.pD {B B':Nat->Prop}{w w':World}(hb:∀b,pb w b-> ¬B b->w'.heap[b]? =w.heap[b]? /\ ¬B' b)(sz:Nat)(a:Addr):
 ∀ (es:List D) (i:Nat),D.lJ es=true->D.elems B w sz a i es->D.elems B' w' sz a i es
 |[],_,_,_=>trivial
 |e::es,i,hn,h=>by
  obtain⟨⟨ev,h1,h2,h3⟩,h4⟩:=h
  simp only[D.lJ,Bool.and_eq_true]at hn
  exact⟨⟨ev,h1,h2.An hb,D.kW hb e ev hn.1 h3⟩,D.pD hb sz a es (i+1) hn.2 h4⟩
end
def R.mJ:R->Bool
 | .ret ds=>D.lJ ds
 | .bD d=>d.mJ
def R.flat:R->Bool
 | .ret ds=>D.jy ds
 | .bD d=>d.flat
def jb:List D->V
 |[x]=> .d x
 |ds=> .bU (ds.map .d)
inductive fm where
 |normal|exit (id:Nat)|ret|bD (v:V)
def aY(env:Nat->V)(dst:Option Tmp)(v:V):Nat->V:=
 match dst with
 |some d=>aA env d v
 |none=>env
def Jz(o:Nat->ab)(v:V):V:=match dE o v with|some x=> .d x|none=>v
def cV(o:Nat->ab):List V->List Nat
 |[]=>[]
 |v::vs=>(match dE o v with|some _=>v.ids|none=>[])++cV o vs
def n7(P:Program)(g:FuncId)(args:List V)(o:Nat->ab)(nx:Nat)(K X:V->(Nat->ab)->Nat->Prop):Prop:=
 cX P g args o nx K X\/cX P g (args.map (Jz o)) (put o (cg o (cV o args))) nx K X
def tW(P:Program)(s:S)(g:FuncId)(all:List V)(K:V->(Nat->ab)->Nat->Prop)(X:V->(Nat->ab)->Nat->Prop):Prop:=
    (∃ds out,bV s.o all=some ds/\aT P g ds out/\(match out with
     | .ret rs=>K (jb rs) (put s.o (cg s.o (V.bf all))) (s.nx+1)
     | .bD x=>X (.d x) (put s.o (cg s.o (V.bf all))) (s.nx+1)))\/
    (∃ds out,bV s.o all=some ds/\aT P g ds out/\out.flat=true/\(match out with
     | .ret rs=>K (jb rs) s.o (s.nx+1)
     | .bD x=>X (.d x) s.o (s.nx+1)))\/
    (∃ds out,bV s.o all=some ds/\aT P g ds out/\out.mJ=true/\(match out with
     | .ret rs=>K (jb rs) (put s.o (qM s.o (V.bf all))) (s.nx+1)
     | .bD x=>X (.d x) (put s.o (qM s.o (V.bf all))) (s.nx+1)))\/
    n7 P g all s.o s.nx K X
def AO(P:Program)(s:S)(f:V)(args:List V)(K:V->(Nat->ab)->Nat->Prop)(X:V->(Nat->ab)->Nat->Prop):Prop:=
 match f with
 | .func (.func g) first cap=>tW P s g (first++args++cap) K X
 | .ja id=>dw P id args s.o s.nx K X
 |_=>False
def PT(P:Program)(t:TypeId):Bool:=
 match P.underlying t with
 |some (.pointer _)=>false
 |some _=>true
 |none=>false
def tX(P:Program)(m:String)(x:V):Option (FuncId×V):=
 match x with
 | .d (.iface t y)=>match P.info? t with
   |some ti=>match ti.methods.find? (·.name==m)with
    |some r=>match r.func with
     |some (f,false)=>if r.path.isEmpty=true/\PT P t=true then some (f, .d y)else none
     |_=>none
    |none=>none
   |none=>none
 |_=>none
def fY(n:Nat):Option Tmp->Prop
 |some d=>d<n
 |none=>True
def opW(P:Program)(n:Nat)(s:S)(o:Oper)(X:V->S->Prop)(K:S->Prop):Prop:=
 fY n o.dst/\match o.op with
 | .call c=>match c.callee with
   | .value f=>AO P s (s.ev f) (c.args.toList.map s.ev) (fun v o' nx'=>K ⟨aY s.env o.dst v,o',nx'⟩) (fun v o' nx'=>X v ⟨s.env,o',nx'⟩)
   | .invoke r m=>match tX P m (s.ev r)with
     |some (g,y)=>tW P s g (y::c.args.toList.map s.ev) (fun v o' nx'=>K ⟨aY s.env o.dst v,o',nx'⟩) (fun v o' nx'=>X v ⟨s.env,o',nx'⟩)
     |none=>False
   |_=>PK P s s.nx o.op fun v Δ _=>K ⟨aY s.env o.dst v,put s.o Δ,s.nx+1⟩
 | .panic x=>match s.ev x with
   | .d (.iface t y)=>X (.d (.iface t y)) s
   | .iface t y=>X (.iface t y) s
   |_=>False
 |op=>PK P s s.nx op fun v Δ _=>K ⟨aY s.env o.dst v,put s.o Δ,s.nx+1⟩
def yc(s:S)(ops:Array Oper)(g:Option (Nat×Bool))(A B:Prop):Prop:=
 match g with
 |none=>A
 |some (j,want)=>match rM ops j with
  |some d=>match s.env d with
   | .d (.bool b)=>(b=want->A)/\(b≠want->B)
   | .bU []=>B
   |_=>False
  |none=>B
def yd(P:Program)(n:Nat)(ops:Array Oper)(X:V->S->Prop)(K:S->Prop):List Oper->S->Prop
 |[],s=>K s
 |o::l,s=>yc s ops o.guard (opW P n s o X (yd P n ops X K l)) (fY n o.dst/\yd P n ops X K l ⟨aY s.env o.dst (.bU []),s.o,s.nx+1⟩)
def aZ(b:Nat)(s s':S):Prop:=
 ∀ (M:Nat->Prop) (φ:Place) (w:World) (tm:Nat->Value),ax M φ s.H w->(∀i,V.den (ak M φ s.H) φ s.H w (s.env i) (tm i))->
   ∃aE,ax M aE s'.H w/\(∀i,V.den (ak M aE s'.H) aE s'.H w (s'.env i) (tm i))/\(∀k,cA aE s'.H k->cA φ s.H k)/\b<=s'.nx/\
    (∀id,id<b->(s'.o id).b8=true->(s.o id).b8=true/\aE id=φ id)/\
    (∀id e',id<b->(s'.o id).bY=some e'->∃e,(s.o id).bY=some e/\e<=e'/\(e=e'->aE id=φ id))
def pE(K:S->Prop)(Q:fm->S->Prop)(e:fm)(s:S):Prop:=match e with| .normal=>K s|e=>Q e s
def eW(id:Nat)(Q:fm->S->Prop)(e:fm)(s:S):Prop:=match e with| .exit j=>if j=id then Q .normal s else Q (.exit j) s|e=>Q e s
def lK(P:Program)(s:S):List ResultVar->Option (List V)
 |[]=>some []
 | .tmp t::rs=>(lK P s rs).map (s.env t::·)
 | .cell a t::rs=>match s.env a with
   | .ptr id off=>match s.o id with
     | .row cs=>(ew P t cs off).bind fun v=>(lK P s rs).map (v::·)
     |_=>none
   |_=>none
def cC(vs:List V):Nat->V:=fun i=>vs.getD i (.bU [])
def Dc(P:Program)(rs:List ResultVar)(out:R)(e:fm)(s:S):Prop:=
 match e with
 | .normal| .ret=>match lK P s rs with
   |some vs=>match bV s.o vs with
    |some ds=>out= .ret ds
    |none=>False
   |none=>False
 | .bD v=>match dE s.o v with
   |some x=>out= .bD x
   |none=>False
 | .exit _=>False
theorem JA{P:Program}{rs:List ResultVar}{out:R}{s:S}(h:match lK P s rs with
 |some vs=>match bV s.o vs with
  |some ds=>out= .ret ds
  |none=>False
 |none=>False):∃vs ds,lK P s rs=some vs/\bV s.o vs=some ds/\out= .ret ds:=by
 split at h
 ·rename_i vs h1
  split at h
  ·rename_i xs h2;exact⟨vs,xs,h1,h2,h⟩
  ·exact h.elim
 ·exact h.elim
theorem JB{out:R}{s:S}{v:V}(h:match dE s.o v with
 |some x=>out= .bD x
 |none=>False):∃x,dE s.o v=some x/\out= .bD x:=by
 split at h
 ·rename_i x h1;exact⟨x,h1,h⟩
 ·exact h.elim
section
section
variable {P:Program}{M:Nat->Prop}{φ:Place}{H:Hp}{w w':World}
def ab.kX:ab->Bool
 | .arr .. =>true
 |_=>false
theorem M5(o:Nat->ab)(ids:List Nat):qM o ids=cg o (ids.filter fun id=>(o id).kX):=by
 induction ids with
 |nil=>rfl
 |cons id ids ih=>
  unfold qM at ih|-
  simp only[List.filterMap_cons,List.filter_cons]
  cases hx:o id with
  |arr ep ty sz es=>
   have e:(ab.arr ep ty sz es).kX=true:=rfl
   rw[e,if_pos rfl,ih]
   simp only[cg,List.map_cons,hx]
  |_=>exact ih
theorem iZ(hH:ax M φ H w){us':Nat->Prop}(h:∀id,H.us id->us' id):ax M φ ⟨H.o,us'⟩ w/\Trans φ H w φ ⟨H.o,us'⟩ w:=by
 have ht:Trans φ H w φ ⟨H.o,us'⟩ w:=⟨dB.refl _ _,fun b hb=> .inl hb,⟨h,fun id _ hr=>⟨hr,rfl⟩,fun id e' _ he=>⟨e',he,Nat.le_refl _,fun _=>rfl⟩⟩⟩
 exact⟨hH.of ht (fun _=>False) (fun _ h=>h.elim) (fun id _=>⟨rfl,rfl,fun _ _ _=>rfl⟩) (fun id hn=>hH.fresh id fun hu=>hn (h id hu)) hH.apart (fun b hb=>(hH.ours b hb).2),ht⟩
theorem fL(hH:ax M φ H w)(hk:dB (fun _=>False) w w'):ax M φ H w'/\Trans φ H w φ H w':=by
 have ht:Trans φ H w φ H w':=⟨⟨hk.os,hk.tape,hk.output,hk.size,fun k h _=>hk.block k h fun h=>h⟩,fun b hb=> .inl hb,dJ.refl _ _⟩
 exact⟨hH.of ht (fun _=>False) (fun _ h=>h.elim) (fun id _=>⟨rfl,rfl,fun hl b hb=>hk.block b (hH.ours b ⟨id,hl,hb⟩).2 fun h=>h⟩) hH.fresh hH.apart (fun b hb=>Nat.lt_of_lt_of_le (hH.ours b hb).2 hk.size),ht⟩
theorem kY{Δ:List (Nat×ab)}(h:∀id∈Δ.map (·.1),H.us id):H.put Δ=⟨put H.o Δ,H.us⟩:=by
 unfold Hp.put
 congr 1
 funext id
 simp only[eq_iff_iff]
 exact⟨fun h'=>h'.elim (fun h=>h) (h id), .inl⟩
theorem sZ(o:Nat->ab)(ids:List Nat):(cg o ids).map (·.1)=ids:=by
 rw[lG];simp[Function.comp_def]
structure Cx where
 base:List Deferred
 rd:Bool
def dC(ro:Option Nat):Fence:={fn:=fun _=>True,depth:=none,alive:=false,round:=ro}
def mark(r:Nat):Deferred:={target:= .collected r,args:=#[]}
def tY(cx:Cx)(w0:World)(φ:Place)(H:Hp)(w:World)(ds:List Deferred):Prop:=
 ∃ms:List Nat,ds=ms.map mark++cx.base/\ms.Nodup/\(cx.rd=true->ms=[])/\∀r∈ms,w0.heap.size<=r/\w.heap[r]? =some (.deferred (some []))/\ ¬cA φ H r
theorem tY.mono {cx:Cx}{w0:World}{φ aE:Place}{H H':Hp}{w w':World}{ds:List Deferred}(ht:Trans φ H w aE H' w')(h:tY cx w0 φ H w ds):tY cx w0 aE H' w' ds:=by
 obtain⟨ms,h1,h2,h3,h4⟩:=h
 refine⟨ms,h1,h2,h3,fun r hr=> ?_⟩
 obtain⟨g1,g2,g3⟩:=h4 r hr
 have ck:r<w.heap.size:=by
  rcases Nat.lt_or_ge r w.heap.size with hl|hl
  ·exact hl
  ·rw[Array.getElem?_eq_none hl]at g2;cases g2
 refine⟨g1,(ht.keep.block r ck g3).trans g2,fun hl=> ?_⟩
 rcases ht.grow r hl with h|h
 ·exact g3 h
 ·omega
structure bX (M:Nat->Prop) (cj:Place) (H0:Hp) (w0:World) (n:Nat) (cx:Cx) (φ:Place) (s:S) (a:Act) (w:World):Prop where
 heap:ax M φ s.H w
 tr:Trans cj H0 w0 φ s.H w
 size:a.tmps.size=n
 defers:tY cx w0 φ s.H w a.defers
 env:∀i,V.den (ak M φ s.H) φ s.H w (s.env i) (a.tmps.getD i undef)
variable {cj:Place}{H0:Hp}{w0:World}{n:Nat}{s:S}{a:Act}{cx:Cx}{ro:Option Nat}{k:Nat}
theorem cS{f:FuncId}{args:Array Value}{R:Ending->World->Prop}(h:Calls P f args w R):CallsIn (dC ro) k P f args w R:=
 ⟨trivial,fun cs _=>let⟨e,w',fr,r,s,x⟩:=h cs;⟨e,w',fr,r,comesIn_wide.2 s,x⟩⟩
theorem AP{f:FuncId}{args:Array Value}{R:Ending->World->Prop}(h:CallsIn (dC ro) k P f args w R):Calls P f args w R:=
 fun cs=>let⟨e,w',fr,r,s,x⟩:=h.2 cs (fun _ h=>by simp[dC]at h);⟨e,w',fr,r,comesIn_wide.1 s,x⟩
theorem ki{o:Oper}{next:Act->World->Prop}{Q:Exit->Act->World->Prop}(hnd:∀c,o.op≠ .defer c)(h:o.uponIn (dC ro) k P a next Q ((execOp a.eval o).run P w)):o.wpIn (dC ro) k P a w next Q:=
 ⟨fun _ _=>trivial,by rw[Oper.semAt_eq _ _ _ hnd];exact h⟩
theorem nq(hs:bX M cj H0 w0 n cx φ s a w){aE:Place}{H':Hp}(hH:ax M aE H' w')(ht:Trans φ s.H w aE H' w'){v:V}{val:Value}(hd:V.den (ak M aE H') aE H' w' v val){dst:Option Tmp}(cF:fY n dst)
 {o':Nat->ab} {nx':Nat} (ho:H'.o=o') (hu:∀id,H'.us id->id<nx'):bX M cj H0 w0 n cx aE ⟨aY s.env dst v,o',nx'⟩ (a.put dst val) w':=by
 obtain⟨k1,k2⟩:=iZ hH hu
 subst ho
 refine⟨k1,hs.tr.trans (ht.trans k2), ?_, ?_,fun i=> ?_⟩
 ·cases dst<;>simp[Act.put,hs.size]
 ·have:=hs.defers.mono (ht.trans k2);cases dst<;>exact this
 ·cases dst with
  |none=>exact ME
  |some d=>
   simp only[fY]at cF
   simp only[aY,aJ,Act.put]
   by_cases hi:i=d
   ·subst hi
    have h1:(a.tmps.setIfInBounds i val).getD i undef=val:=by simp[Array.getD,hs.size,cF]
    rw[if_pos rfl,h1]
    exact V.aM k2 _ _ hd
   ·have h1:(a.tmps.setIfInBounds d val).getD i undef=a.tmps.getD i undef:=by
     exact SE
    rw[if_neg hi,h1]
    exact ME
theorem eu(hs:bX M cj H0 w0 n cx φ s a w){aE:Place}{H':Hp}(hH:ax M aE H' w')(ht:Trans φ s.H w aE H' w'){o':Nat->ab}{nx':Nat}(ho:H'.o=o')(hu:∀id,H'.us id->id<nx'):
 bX M cj H0 w0 n cx aE ⟨s.env,o',nx'⟩ a w':=by
 obtain⟨k1,k2⟩:=iZ hH hu
 subst ho
 exact⟨k1,hs.tr.trans (ht.trans k2),hs.size,hs.defers.mono (ht.trans k2),fun i=>V.aM (ht.trans k2) _ _ (hs.env i)⟩
theorem JC{Δ:List (Nat×ab)}(h:∀id∈Δ.map (·.1),s.H.us id\/id=s.nx)(id:Nat)(hu:(s.H.put Δ).us id):id<s.nx+1:=by
 rcases hu with hu|hu
 ·exact Nat.lt_succ_of_lt hu
 ·rcases h id hu with h|h
  ·exact Nat.lt_succ_of_lt h
  ·omega
variable {next:Act->World->Prop}{Q:Exit->Act->World->Prop}{X:V->S->Prop}{K:S->Prop}
theorem JD(hs:bX M cj H0 w0 n cx φ s a w){o:Oper}{op:Op}(gz:o.op=op)(cF:fY n o.dst)(h:PK P s s.nx op fun v Δ _=>K ⟨aY s.env o.dst v,put s.o Δ,s.nx+1⟩)
 (hN:∀s' aE a' w',K s'->bX M cj H0 w0 n cx aE s' a' w'->next a' w'):o.wpIn (dC ro) k P a w next Q:=by
 obtain⟨nx,val,w',aE,v,Δ,rd,hK,hr,vG,g1,g2,g3,g4⟩:=wM hs.heap (s:=s) rfl hs.env (fr:=s.nx) (by simp[S.H]) gz h
 have ye:=nq hs g1 g2 g3 cF (o':=put s.o Δ) (nx':=s.nx+1) rfl (JC g4)
 refine ki (fun c hc=>by rw[gz]at hc;subst hc;exact h) ?_
 rw[hr]
 rcases vG with rfl|⟨rfl,rfl⟩
 ·exact hN _ _ _ _ hK ye
 ·exact hN _ _ _ _ hK ye
theorem V.o8 {B:Nat->Prop}{bZ bs cs:List V}{u v x:List Value}(h1:V.aD B φ H w bZ u)(h2:V.aD B φ H w bs v)(h3:V.aD B φ H w cs x):V.aD B φ H w (bZ++bs++cs) (u++v++x):=
 V.bp _ _ _ _ (V.bp _ _ _ _ h1 h2) h3
theorem kZ{f:FuncId}(h:Enters P f)(args:Array Value):(callFunc f args).run P w= .ok (.enter f args) w:=by
 obtain⟨fn,h1,h2,h3⟩:=h
 have pA:fn.name≠ "runtime.NumGoroutine" :=by simpa using h2
 have mL:fn.body≠none:=fun h=>by rw[h]at h3;cases h3
 simp[callFunc,h1,pA,mL]
theorem mq:∀ {rs:List D} {val:Value},R.is (ak M φ H) w (.ret rs) (.returned val)->V.den (ak M φ H) φ H w (jb rs) val
 |[],_,h=>by obtain⟨arr,rfl,h⟩:=h;exact⟨arr,rfl,h⟩
 |[x],_,h=>h
 |x::y::l,_,h=>by obtain⟨arr,rfl,h⟩:=h;exact⟨arr,rfl,(V.b9 (x::y::l) _).2 h⟩
theorem R.yf {B B':Nat->Prop}:∀ {out:R} {e:Ending},out.flat=true->out.is B w e->out.is B' w e
 | .ret [], .returned _,_,h=>by obtain⟨arr,rfl,h⟩:=h;exact⟨arr,rfl,h⟩
 | .ret [x], .returned _,hf,h=>by
   simp only[R.flat,D.jy,Bool.and_true]at hf
   exact D.pC x _ hf h
 | .ret (x::y::l), .returned _,hf,h=>by obtain⟨arr,rfl,h⟩:=h;exact⟨arr,rfl,D.lI (x::y::l) _ hf h⟩
 | .bD d, .panicked _,hf,h=>by obtain⟨v,rfl,h⟩:=h;exact⟨v,rfl,D.pC d v hf h⟩
 | .ret [], .panicked _,_,h| .ret [_], .panicked _,_,h| .ret (_::_::_), .panicked _,_,h| .ret [], .outgrown,_,h| .ret [_], .outgrown,_,h| .ret (_::_::_), .outgrown,_,h| .bD _, .returned _,_,h| .bD _, .outgrown,_,h=>h.elim
theorem R.JE {B B':Nat->Prop}{w':World}(hb:∀b,pb w' b-> ¬B b-> ¬B' b):∀ {out:R} {e:Ending},out.mJ=true->out.is B w' e->out.is B' w' e
 | .ret [], .returned _,_,h=>by obtain⟨arr,rfl,h⟩:=h;exact⟨arr,rfl,h⟩
 | .ret [x], .returned _,hf,h=>by
   simp only[R.mJ,D.lJ,Bool.and_true]at hf
   exact D.kW (fun b hc hn=>⟨rfl,hb b hc hn⟩) x _ hf h
 | .ret (x::y::l), .returned _,hf,h=>by obtain⟨arr,rfl,h⟩:=h;exact⟨arr,rfl,D.mK (fun b hc hn=>⟨rfl,hb b hc hn⟩) (x::y::l) _ hf h⟩
 | .bD d, .panicked _,hf,h=>by obtain⟨v,rfl,h⟩:=h;exact⟨v,rfl,D.kW (fun b hc hn=>⟨rfl,hb b hc hn⟩) d v hf h⟩
 | .ret [], .panicked _,_,h| .ret [_], .panicked _,_,h| .ret (_::_::_), .panicked _,_,h| .ret [], .outgrown,_,h| .ret [_], .outgrown,_,h| .ret (_::_::_), .outgrown,_,h| .bD _, .returned _,_,h| .bD _, .outgrown,_,h=>h.elim
theorem JF(hH:ax M φ H w){o:Nat->ab}:∀ (vs:List V) (vals:List Value),(∀id∈cV o vs,H.o id=(o id).fz)->V.aD (ak M φ H) φ H w vs vals->V.aD (ak M φ H) φ H w (vs.map (Jz o)) vals
 |[],_,_,h=>h
 |v::vs,_,ho,h=>by
  obtain⟨u,us,rfl,h1,h2⟩:=h
  refine⟨u,us,rfl, ?_,JF hH vs us (fun id au=>ho id (by simp[cV,au])) h2⟩
  unfold Jz
  split
  ·rename_i x hx
   exact eN hH v x u (fun id au=>ho id (by simp[cV,hx,au])) hx h1
  ·exact h1
theorem fZ:∀ (vs:List V) (vals:List Value) (o:Nat->ab),V.aD (ak M φ H) φ H w vs vals->∀id∈cV o vs,H.us id
 |[],_,_,_,j,hj=>by simp[cV]at hj
 |v::vs,_,o,h,j,hj=>by
  obtain⟨u,us,rfl,h1,h2⟩:=h
  simp only[cV,List.mem_append]at hj
  rcases hj with hj|hj
  ·cases hx:dE o v with
   |none=>simp[hx]at hj
   |some x=>simp only[hx]at hj;exact cE v u h1 j hj
  ·exact fZ vs us o h2 j hj
theorem wN(hs:bX M cj H0 w0 n cx φ s a w){o:Oper}{g:FuncId}{all:List V}{vals:Array Value}(cF:fY n o.dst)(eO:Enters P g->(execOp a.eval o).run P w= .ok (.enter g vals) w)(a7:V.aD (ak M φ s.H) φ s.H w all vals.toList)
 (h:cX P g all s.o s.nx (fun v o' nx'=>K ⟨aY s.env o.dst v,o',nx'⟩) (fun v o' nx'=>X v ⟨s.env,o',nx'⟩))
 (hN:∀s' aE a' w',K s'->bX M cj H0 w0 n cx aE s' a' w'->next a' w')
 (hQ:∀v s' aE w' val,X v s'->bX M cj H0 w0 n cx aE s' a w'->V.den (ak M aE s'.H) aE s'.H w' v val->Q (.panic [{v:=val,recovered:=false}]) a w'):o.uponIn (dC ro) k P a next Q ((execOp a.eval o).run P w):=by
 have eB:=h.2 M φ w vals hs.heap a7
 rw[eO h.1]
 refine⟨fun hd=>by simp[dC]at hd,cS (eB.mono fun e w' ⟨aE,o',nx',v,k1,k2,k3⟩=> ?_)⟩
 cases e with
 |returned val=>exact O6
 |panicked ch=>
  obtain⟨val,rfl,k4,k5⟩:=k3
  exact X2
 |outgrown=>exact k3.elim
theorem AQ(hs:bX M cj H0 w0 n cx φ s a w){o:Oper}{g:FuncId}{all:List V}{vals:Array Value}(cF:fY n o.dst)(eO:Enters P g->(execOp a.eval o).run P w= .ok (.enter g vals) w)(a7:V.aD (ak M φ s.H) φ s.H w all vals.toList)
 (h:tW P s g all (fun v o' nx'=>K ⟨aY s.env o.dst v,o',nx'⟩) (fun v o' nx'=>X v ⟨s.env,o',nx'⟩))
 (hN:∀s' aE a' w',K s'->bX M cj H0 w0 n cx aE s' a' w'->next a' w')
 (hQ:∀v s' aE w' val,X v s'->bX M cj H0 w0 n cx aE s' a w'->V.den (ak M aE s'.H) aE s'.H w' v val->Q (.panic [{v:=val,recovered:=false}]) a w'):o.uponIn (dC ro) k P a next Q ((execOp a.eval o).run P w):=by
 unfold tW at h
 obtain⟨f1,f2,f3,f4,f5⟩:=cG hs.heap (V.bf all) (cK all _ a7)
 have gK:s.H.put (cg s.H.o (V.bf all))=⟨put s.o (cg s.o (V.bf all)),s.H.us⟩:=kY IJ
 have mM:=V.aP f2 _ _ a7
 rcases h with⟨ds,out,eK,hP,hK⟩|⟨ds,out,eK,hP,qA,hK⟩|⟨ds,out,eK,hP,hnm,hK⟩|hC|hC
 ·have wD:=c0 f1 all ds _ f3 eK mM
  have hM:∀b,ak M φ (s.H.put (cg s.H.o (V.bf all))) b->b<w.heap.size:=fun b hb=>hb.elim (f1.zO b) fun hl=>(f1.ours b hl).2
  have eB:=hP.2 _ w vals hM wD
  rw[eO hP.1]
  refine⟨fun hd=>by simp[dC]at hd,cS (eB.mono fun e w' ⟨hk,ho⟩=> ?_)⟩
  obtain⟨k1,k2⟩:=fL f1 hk
  cases out with
  |ret rs=>
   cases e with
   |returned val=>
    refine hN _ _ _ _ hK (nq hs k1 (f2.trans k2) (mq ho) cF (by rw[gK]) ?_)
    intro id hu;rw[gK]at hu;exact Nat.lt_succ_of_lt hu
   |panicked ch=>exact vK
   |outgrown=>exact vK
  |bD x=>
   cases e with
   |returned val=>exact ho.elim
   |panicked ch=>
    obtain⟨val,rfl,hd⟩:=ho
    have ye:=eu hs k1 (f2.trans k2) (o':=put s.o (cg s.o (V.bf all))) (nx':=s.nx+1) (by rw[gK]) (fun id hu=>by rw[gK]at hu;exact Nat.lt_succ_of_lt hu)
    refine hQ _ _ _ _ val hK ye ?_
    have e1:ak M φ (S.H ⟨s.env,put s.o (cg s.o (V.bf all)),s.nx+1⟩)=ak M φ (s.H.put (cg s.H.o (V.bf all))):=by rw[gK];rfl
    simp only[V.den]
    rw[e1];exact hd
   |outgrown=>exact ho.elim
 ·have wD:=c0 f1 all ds _ f3 eK mM
  have hM:∀b,ak M φ (s.H.put (cg s.H.o (V.bf all))) b->b<w.heap.size:=fun b hb=>hb.elim (f1.zO b) fun hl=>(f1.ours b hl).2
  have eB:=hP.2 _ w vals hM wD
  rw[eO hP.1]
  refine⟨fun hd=>by simp[dC]at hd,cS (eB.mono fun e w' ⟨hk,ho⟩=> ?_)⟩
  obtain⟨k1,k2⟩:=fL hs.heap hk
  have ho:=R.yf (B':=ak M φ s.H) qA ho
  cases out with
  |ret rs=>
   cases e with
   |returned val=>
    exact hN _ _ _ _ hK (nq hs k1 k2 (mq ho) cF rfl fun id hu=>Nat.lt_succ_of_lt hu)
   |panicked ch=>exact vK
   |outgrown=>exact vK
  |bD x=>
   cases e with
   |returned val=>exact ho.elim
   |panicked ch=>
    obtain⟨val,rfl,hd⟩:=ho
    exact hQ _ _ _ _ val hK (eu hs k1 k2 (o':=s.o) (nx':=s.nx+1) rfl fun id hu=>Nat.lt_succ_of_lt hu) hd
   |outgrown=>exact ho.elim
 ·obtain⟨a1,a2,a3,a4,a5⟩:=cG hs.heap ((V.bf all).filter fun id=>(s.o id).kX) (fun id au=>cK all _ a7 id (List.mem_filter.1 au).1)
  have AR:s.H.put (cg s.H.o ((V.bf all).filter fun id=>(s.o id).kX))=⟨put s.o (qM s.o (V.bf all)),s.H.us⟩:=by
   rw[M5]
   exact kY (by rw[sZ];exact fun id au=>cK all _ a7 id (List.mem_filter.1 au).1)
  have wD:=c0 f1 all ds _ f3 eK mM
  have hM:∀b,ak M φ (s.H.put (cg s.H.o (V.bf all))) b->b<w.heap.size:=fun b hb=>hb.elim (f1.zO b) fun hl=>(f1.ours b hl).2
  have eB:=hP.2 _ w vals hM wD
  rw[eO hP.1]
  refine⟨fun hd=>by simp[dC]at hd,cS (eB.mono fun e w' ⟨hk,ho⟩=> ?_)⟩
  obtain⟨k1,k2⟩:=fL a1 hk
  have jT:∀b,pb w' b-> ¬ak M φ (s.H.put (cg s.H.o (V.bf all))) b-> ¬ak M φ (s.H.put (cg s.H.o ((V.bf all).filter fun id=>(s.o id).kX))) b:=by
   intro b hc hn hm
   rcases hm with hM|⟨id,hl,hb⟩
   ·exact hn (.inl hM)
   ·by_cases au:id∈V.bf all
    ·cases hx:s.H.o id with
     |arr ep ty sz es=>
      rw[a3 id (List.mem_filter.2 ⟨au,by show(s.H.o id).kX=true;rw[hx];rfl⟩),hx]at hl
      cases hl
     |map kt vt l=>
      have ml:id∉(V.bf all).filter fun id=>(s.o id).kX:=fun h=>by
       have h2:(s.H.o id).kX=true:=(List.mem_filter.1 h).2
       rw[hx]at h2;cases h2
      have aW:=k1.ok id
      unfold aN at aW
      rw[a4 id ml,hx]at aW
      obtain⟨b',es,clock,g1,g2,_⟩:=aW
      rw[g1]at hb
      injection hb with hb
      subst hb
      obtain⟨cs,ty,fz,hc⟩:=hc
      rw[g2]at hc
      cases hc
     |_=>
      have ml:id∉(V.bf all).filter fun id=>(s.o id).kX:=fun h=>by
       have h2:(s.H.o id).kX=true:=(List.mem_filter.1 h).2
       rw[hx]at h2;cases h2
      refine hn (.inr ⟨id, ?_,hb⟩)
      rw[a4 id ml,hx]at hl
      rw[f3 id au,hx]
      exact hl
    ·have ml:id∉(V.bf all).filter fun id=>(s.o id).kX:=fun h=>au (List.mem_filter.1 h).1
     refine hn (.inr ⟨id, ?_,hb⟩)
     rw[a4 id ml]at hl
     rw[f4 id au]
     exact hl
  have ho:=R.JE (w':=w') (B':=ak M φ (s.H.put (cg s.H.o ((V.bf all).filter fun id=>(s.o id).kX)))) jT hnm ho
  cases out with
  |ret rs=>
   cases e with
   |returned val=>
    refine hN _ _ _ _ hK (nq hs k1 (a2.trans k2) (mq ho) cF (by rw[AR]) ?_)
    intro id hu;rw[AR]at hu;exact Nat.lt_succ_of_lt hu
   |panicked ch=>exact vK
   |outgrown=>exact vK
  |bD x=>
   cases e with
   |returned val=>exact ho.elim
   |panicked ch=>
    obtain⟨val,rfl,hd⟩:=ho
    have ye:=eu hs k1 (a2.trans k2) (o':=put s.o (qM s.o (V.bf all))) (nx':=s.nx+1) (by rw[AR]) (fun id hu=>by rw[AR]at hu;exact Nat.lt_succ_of_lt hu)
    refine hQ _ _ _ _ val hK ye ?_
    have e1:ak M φ (S.H ⟨s.env,put s.o (qM s.o (V.bf all)),s.nx+1⟩)=ak M φ (s.H.put (cg s.H.o ((V.bf all).filter fun id=>(s.o id).kX))):=by rw[AR];rfl
    simp only[V.den]
    rw[e1];exact hd
   |outgrown=>exact ho.elim
 ·exact wN hs cF eO a7 hC hN hQ
 ·obtain⟨f1,f2,f3,f4,f5⟩:=cG hs.heap (cV s.o all) (fZ all _ s.o a7)
  have gK:s.H.put (cg s.H.o (cV s.o all))=hp (put s.o (cg s.o (cV s.o all))) s.nx:=kY (by rw[sZ];exact fZ all _ s.o a7)
  have mM:=JF f1 all _ f3 (V.aP f2 _ _ a7)
  rw[gK]at f1 f2 mM
  exact wN (s:=⟨s.env,put s.o (cg s.o (cV s.o all)),s.nx⟩) (eu hs f1 f2 rfl fun id hu=>hu) cF eO mM hC hN hQ
theorem M6(hs:bX M cj H0 w0 n cx φ s a w){o:Oper}{c:Call}{f:Operand}(gz:o.op= .call c)(hc:c.callee= .value f)(cF:fY n o.dst)
 (h:AO P s (s.ev f) (c.args.toList.map s.ev) (fun v o' nx'=>K ⟨aY s.env o.dst v,o',nx'⟩) (fun v o' nx'=>X v ⟨s.env,o',nx'⟩))
 (hN:∀s' aE a' w',K s'->bX M cj H0 w0 n cx aE s' a' w'->next a' w')
 (hQ:∀v s' aE w' val,X v s'->bX M cj H0 w0 n cx aE s' a w'->V.den (ak M aE s'.H) aE s'.H w' v val->Q (.panic [{v:=val,recovered:=false}]) a w'):o.wpIn (dC ro) k P a w next Q:=by
 refine ki (fun c' AS=>by rw[gz]at AS;cases AS) ?_
 have hf:=mz (M:=M) (φ:=φ) (H:=s.H) (w:=w) s a hs.env f
 have dD:=j7 (M:=M) (φ:=φ) (H:=s.H) (w:=w) s a hs.env c.args.toList
 unfold AO at h
 split at h
 ·rename_i g first cap vL
  rw[vL]at hf
  obtain⟨fa,ca,S3,Ew,hca⟩:=hf
  have a7:V.aD (ak M φ s.H) φ s.H w (first++c.args.toList.map s.ev++cap) (fa++c.args.map a.eval++ca).toList:=by
   exact Po
  generalize first++c.args.toList.map s.ev++cap=all at h a7
  generalize kP:fa++c.args.map a.eval++ca=vals at a7
  have eO:Enters P g->(execOp a.eval o).run P w= .ok (.enter g vals) w:=by
   intro he
   have:=kZ (w:=w) he (fa++c.args.map a.eval++ca)
   rw[kP]at this
   simp[execOp,gz,resolve,hc,S3,Deferred.ofValue,invoke,this,kP]
  exact AQ hs cF eO a7 h hN hQ
 ·rename_i id vL
  rw[vL]at hf
  obtain⟨_,dW,PU⟩:=hf
  obtain⟨bG,hR⟩:=h
  obtain⟨b,dT,S3⟩:=PU bG
  obtain⟨fn,tmps,assign,body,h1,h2⟩:=hR M φ w (c.args.map a.eval) b hs.heap (by rw[Array.toList_map];exact dD) dT
  have eO:(execOp a.eval o).run P w= .ok (.round b fn tmps assign body) w:=by
   simp[execOp,gz,resolve,hc,S3,Deferred.ofValue,invoke,h1]
  rw[eO]
  refine⟨fun hd=>by simp[dC]at hd,RoundIn.mono (h2 (k - 1)) fun e w' ⟨aE,o',nx',v,k1,k2,k3⟩=> ?_⟩
  cases e with
  |returned val=>exact O6
  |panicked ch=>
   obtain⟨val,rfl,k4,k5⟩:=k3
   exact X2
  |outgrown=>exact k3.elim
 ·exact h.elim
theorem GH(hs:bX M cj H0 w0 n cx φ s a w){o:Oper}{c:Call}{r:Operand}{m:String}{g:FuncId}{y:V}(gz:o.op= .call c)(hc:c.callee= .invoke r m)(cF:fY n o.dst)(hr:tX P m (s.ev r)=some (g,y))
 (h:tW P s g (y::c.args.toList.map s.ev) (fun v o' nx'=>K ⟨aY s.env o.dst v,o',nx'⟩) (fun v o' nx'=>X v ⟨s.env,o',nx'⟩))
 (hN:∀s' aE a' w',K s'->bX M cj H0 w0 n cx aE s' a' w'->next a' w')
 (hQ:∀v s' aE w' val,X v s'->bX M cj H0 w0 n cx aE s' a w'->V.den (ak M aE s'.H) aE s'.H w' v val->Q (.panic [{v:=val,recovered:=false}]) a w'):o.wpIn (dC ro) k P a w next Q:=by
 refine ki (fun c' AS=>by rw[gz]at AS;cases AS) ?_
 have hf:=mz (M:=M) (φ:=φ) (H:=s.H) (w:=w) s a hs.env r
 have dD:=j7 (M:=M) (φ:=φ) (H:=s.H) (w:=w) s a hs.env c.args.toList
 unfold tX at hr
 split at hr
 ·rename_i t d hx
  rw[hx]at hf
  obtain⟨val,hv,hd⟩:=hf
  split at hr
  ·rename_i ti hti
   split at hr
   ·rename_i mr s8
    split at hr
    ·rename_i f H5
     split at hr
     ·rename_i PV
      injection hr with hr
      injection hr with h1 h2
      subst h1;subst h2
      refine AQ (vals:=#[val]++c.args.map a.eval) hs cF ?_ ?_ h hN hQ
      ·intro he
       have eO:=kZ (w:=w) he (#[val]++c.args.map a.eval)
       have Mf:mr.path=#[]:=Array.isEmpty_iff.1 PV.1
       have hu:∃u,P.underlying t=some u/\∀e,u≠ .pointer e:=by
        have:=PV.2
        unfold PT at this
        split at this
        ·cases this
        ·rename_i u j9 hu;exact⟨u,hu,fun e he=>j9 e he⟩
        ·cases this
       obtain⟨u,hu,PW⟩:=hu
       have hm:(method (P.types.size+Made.depth) t val m).run P w= .ok (f,val) w:=by
        have:P.types.size+Made.depth=(P.types.size+Made.depth - 1)+1:=by simp[Made.depth]
        rw[this]
        cases u<;>first|exact absurd rfl (PW _)|simp[method,typeInfo,hti,s8,Mf,H5,follow,receiverAt,run_underlying hu,_root_.Go.Place.get]
       have h0:(#[Value.iface t val]++Array.map a.eval c.args)[0]? =some (.iface t val):=by
        rw[Array.getElem?_append_left (by simp)];rfl
       have h1:(Array.map a.eval c.args).extract 0 c.args.size=Array.map a.eval c.args:=by
        rw[show c.args.size=(Array.map a.eval c.args).size from by simp,Array.extract_size]
       simp[execOp,gz,resolve,hc,invoke,callMethod,hv,h0,h1,hm,eO]
      ·simp only[Array.toList_append,Array.toList_map]
       exact⟨val,_,rfl,hd,dD⟩
     ·cases hr
    ·cases hr
   ·cases hr
  ·cases hr
 ·cases hr
theorem wO(hs:bX M cj H0 w0 n cx φ s a w){o:Oper}(h:opW P n s o X K)
 (hN:∀s' aE a' w',K s'->bX M cj H0 w0 n cx aE s' a' w'->next a' w')
 (hQ:∀v s' aE w' val,X v s'->bX M cj H0 w0 n cx aE s' a w'->V.den (ak M aE s'.H) aE s'.H w' v val->Q (.panic [{v:=val,recovered:=false}]) a w'):o.wpIn (dC ro) k P a w next Q:=by
 obtain⟨cF,h⟩:=h
 split at h
 ·rename_i c gz
  split at h
  ·rename_i f hc
   exact M6 hs gz hc cF h hN hQ
  ·rename_i r m hc
   split at h
   ·rename_i g y hr;exact GH hs gz hc cF hr h hN hQ
   ·exact h.elim
  ·exact JD hs rfl cF h hN
 ·rename_i x gz
  have hx:=mz (M:=M) (φ:=φ) (H:=s.H) (w:=w) s a hs.env x
  have bD:∀ (t:TypeId) (u:Value),a.eval x= .iface t u->Q (.panic [{v:= .iface t u,recovered:=false}]) a w->o.wpIn (dC ro) k P a w next Q:=by
   intro t u hu hq
   refine ki (fun c hc=>by rw[gz]at hc;cases hc) ?_
   have hr:(execOp a.eval o).run P w= .halt (.panic (.iface t u)) w:=by simp[execOp,gz,hu,Instr.panic]
   rw[hr];exact hq
  split at h
  ·rename_i t y hv
   rw[hv]at hx
   obtain⟨u,hu,hd⟩:=hx
   exact O8
  ·rename_i t y hv
   rw[hv]at hx
   obtain⟨u,hu,hd⟩:=hx
   exact O8
  ·exact h.elim
 ·exact JD hs rfl cF h hN
end
end
end Go.Proofs.YtnkamdiiakdkgaaGreat
namespace Go
def Code.sJ (P:Program)(ro:Option Nat)(c:Code)(Q:Exit->Act->World->Prop)(a:Act)(w:World):Prop:=
 ∀ (b:Frame) (k:List Item) (cs:List Frame),b.roundOf=ro->b.fn<P.funcs.size->
   ∃e a' w',Q e a' w'/\ArrivesIn (Machine.fenced P (Proofs.YtnkamdiiakdkgaaGreat.dC ro)) P (lone (b.atR a (.code c::k)) cs w) b k cs e a' w'
end Go
namespace Go.Proofs.YtnkamdiiakdkgaaGreat
instance:LawfulMonad Sem:=LawfulMonad.mk' Sem (id_map:=fun x=>Sem.bind_pure' x) (pure_bind:=fun _ _=>rfl) (bind_assoc:=fun x f g=>Sem.bind_assoc' x f g)
section
variable {P:Program}{M:Nat->Prop}{φ:Place}{H:Hp}{w w':World}{cj:Place}{H0:Hp}{w0:World}{n b:Nat}{s:S}{a:Act}{cx:Cx}{ro:Option Nat}{k:Nat}
theorem pF(hs:bX M cj H0 w0 n cx φ s a w){ops:Array Oper}{o:Oper}{A B:Prop}(h:yc s ops o.guard A B):
 (Region.wanted o (yielded ops a.tmps)=true->A)/\(Region.wanted o (yielded ops a.tmps)=false->B):=by
 unfold yc at h
 unfold Region.wanted
 split at h
 ·rename_i hg;simp only[hg];exact⟨fun _=>h,fun h=>by cases h⟩
 ·rename_i j want hg
  simp only[hg]
  unfold rM at h
  unfold yielded
  split at h
  ·rename_i d hd
   simp only[hd,Option.bind_some]
   have dP:=hs.env d
   split at h
   ·rename_i c hv
    rw[hv]at dP
    simp only[V.den,D.den]at dP
    have:a.tmps[d]? =some (.bool c):=by
     rw[Array.getD_eq_getD_getElem?]at dP
     cases hx:a.tmps[d]? with
     |none=>rw[hx]at dP;simp[undef]at dP
     |some x=>rw[hx]at dP;simp at dP;rw[dP]
    simp only[this]
    by_cases hc:c=want
    ·subst hc;exact⟨fun _=>h.1 rfl,fun h=>by simp at h⟩
    ·exact⟨fun h'=>absurd (by simpa using h') hc,fun _=>h.2 hc⟩
   ·rename_i hv
    rw[hv]at dP
    obtain⟨arr,cW,hn⟩:=dP
    simp only[V.aD]at hn
    have:∀c,a.tmps[d]? ≠some (.bool c):=by
     exact PI
    cases hx:a.tmps[d]? with
    |none=>exact⟨fun h=>by simp at h,fun _=>h⟩
    |some x=>cases x<;>first|(exact absurd hx (this _))|(exact⟨fun h=>by simp at h,fun _=>h⟩)
   ·exact h.elim
  ·rename_i hd
   simp only[hd,Option.bind_none]
   exact⟨fun h=>by simp at h,fun _=>h⟩
theorem AU(hs:bX M cj H0 w0 n cx φ s a w){dst:Option Tmp}(cF:fY n dst):bX M cj H0 w0 n cx φ ⟨aY s.env dst (.bU []),s.o,s.nx+1⟩ (a.put dst undef) w:=
 nq (v:= .bU []) (val:=undef) hs hs.heap (Trans.refl _ _ _) ⟨#[],rfl,rfl⟩ cF rfl fun _ hu=>Nat.lt_succ_of_lt hu
theorem oJ{ops:Array Oper}{X:V->S->Prop}{K:S->Prop}{Q:Exit->Act->World->Prop}
 (hK:∀s φ a w,K s->bX M cj H0 w0 n cx φ s a w->Q .normal a w)
 (hQ:∀v s' aE a w' val,X v s'->bX M cj H0 w0 n cx aE s' a w'->V.den (ak M aE s'.H) aE s'.H w' v val->Q (.panic [{v:=val,recovered:=false}]) a w'):
 ∀ (l:List Oper) (s:S) (φ:Place) (a:Act) (w:World),yd P n ops X K l s->bX M cj H0 w0 n cx φ s a w->wpListIn (dC ro) k P ops Q l a w
 |[],s,φ,a,w,h,hs=>hK s φ a w h hs
 |o::l,s,φ,a,w,h,hs=>by
  obtain⟨h1,h2⟩:=pF hs h
  unfold wpListIn
  split
  ·rename_i hw
   exact wO hs (h1 hw) (fun s' aE a' w' hk jU=>oJ hK hQ l s' aE a' w' hk jU) (fun v s' aE w' val hx jU hd=>hQ v s' aE a w' val hx jU hd)
  ·rename_i hw
   obtain⟨cF,h3⟩:=h2 (by simpa using hw)
   exact⟨fun _ _=>trivial,oJ hK hQ l _ _ _ _ h3 (AU hs cF)⟩
def EO(M:Nat->Prop)(cj:Place)(H0:Hp)(w0:World)(n:Nat)(cx:Cx)(Q:fm->S->Prop)(e:Exit)(a:Act)(w:World):Prop:=
 ∃x s φ,Q x s/\bX M cj H0 w0 n cx φ s a w/\match e,x with
  | .normal, .normal=>True
  | .exit i, .exit j=>i=j
  | .ret, .ret=>True
  | .panic ch, .bD v=>∃val,ch=[{v:=val,recovered:=false}]/\V.den (ak M φ s.H) φ s.H w v val
  |_,_=>False
section
variable {Q:Exit->Act->World->Prop}
theorem gf{m:Nat}:(dC ro).room m:=fun d hd=>by simp[dC]at hd
theorem oK{c:Code}(h:c.wpIn (dC ro) k P Q a w):c.sJ P ro Q a w:=fun b k cs s8 _=>h b k cs s8 trivial gf
theorem gh{c:Code}{Q':Exit->Act->World->Prop}(h:c.sJ P ro Q a w)(hq:∀e a w,Q e a w->Q' e a w):c.sJ P ro Q' a w:=
 fun b k cs s8 hb=>let⟨e,a',w',q,r⟩:=h b k cs s8 hb;⟨e,a',w',hq _ _ _ q,r⟩
theorem EP(h:Q .ret a w):Code.ret.sJ P ro Q a w:=oK (k:=0) (wpIn_ret h)
theorem AV{id:Nat}(h:Q (.exit id) a w):(Code.exit id).sJ P ro Q a w:=oK (k:=0) (wpIn_exit h)
theorem yg{x y:Code}(h:x.sJ P ro (Exit.then (y.sJ P ro Q) Q) a w):(Code.seq x y).sJ P ro Q a w:=by
 intro b k cs s8 hb
 have h0:(lone (b.atR a (.code (.seq x y)::k)) cs w).fenced P (dC ro):=fenced_calm (n:=0) trivial gf rfl
 obtain⟨e,nN,jn,hq,cW⟩:=h b (.code y::k) cs s8 hb
 cases e with
 |normal=>
  obtain⟨S4,Y1,qZ,pG,kj⟩:=hq b k cs s8 hb
  exact⟨S4,Y1,qZ,pG, .of_steps (.head h0 stepR_seq cW) kj⟩
 |exit id=>exact It
 |goto l=>exact It
 |ret=>exact It
 |panic ch=>exact It
 |outgrown=>exact It
theorem pH{c:Operand}{x y:Code}{t:Bool}(hc:a.eval c= .bool t)(h:(if t then x else y).sJ P ro Q a w):(Code.cond c x y).sJ P ro Q a w:=
 fun b k cs s8 hb=>let⟨e,a',w',q,r⟩:=h b k cs s8 hb;⟨e,a',w',q, .of_steps (.one (fenced_calm (n:=0) trivial gf rfl) (stepR_cond hc)) r⟩
theorem GI{id:Nat}{c:Code}(h:c.sJ P ro (Exit.inBlock id Q) a w):(Code.block id c).sJ P ro Q a w:=by
 intro b k cs s8 hb
 have h0:(lone (b.atR a (.code (.block id c)::k)) cs w).fenced P (dC ro):=fenced_calm (n:=0) trivial gf rfl
 obtain⟨e,nN,jn,hq,cW⟩:=h b (.inBlock id::k) cs s8 hb
 cases e with
 |normal=>exact⟨.normal,nN,jn,hq, .head h0 stepR_block (StepsIn.trans cW (.one (fenced_calm (n:=0) trivial gf rfl) stepR_inBlock))⟩
 |exit CI=>
  by_cases au:CI=id
  ·simp only[Exit.inBlock,au,if_true]at hq
   exact⟨.normal,nN,jn,hq, .head h0 stepR_block (cW.1 k (by simp[exitTo,au]))⟩
  ·simp only[Exit.inBlock,au,if_false]at hq
   have this:(id==CI)=false:=by simp;exact fun h=>au h.symm
   have hx:exitTo CI (.inBlock id::k)=exitTo CI k:=by simp[exitTo,this]
   exact⟨.exit CI,nN,jn,hq,fun k' hk=> .head h0 stepR_block (cW.1 k' wq),
    fun x9 hk=>let⟨k₁,h1,h2⟩:=cW.2 x9 wq;⟨k₁,h1, .head h0 stepR_block h2⟩⟩
 |goto l=>
  have hx:gotoIn l (.inBlock id::k)=gotoIn l k:=by simp[gotoIn]
  exact⟨_,nN,jn,hq,fun k' hk=> .head h0 stepR_block (cW.1 k' wq),
   fun x9 hk=>let⟨k₁,h1,h2⟩:=cW.2 x9 wq;⟨k₁,h1, .head h0 stepR_block h2⟩⟩
 |ret=>exact Sk
 |panic ch=>exact Sk
 |outgrown=>exact Sk
theorem jZ{b:Frame}{k:List Item}{cs:List Frame}{c:Code}:step P (lone (b.atR a (.code (.scope c)::k)) cs w)= .next (lone (b.atR a (.code c:: .inScope c::k)) cs w):=
 step_lone_go (by simp[stepG,stepG.exec,Frame.atR])
theorem vU{b:Frame}{k:List Item}{cs:List Frame}{c:Code}:step P (lone (b.atR a (.inScope c::k)) cs w)= .next (lone (b.atR a k) cs w):=
 step_lone_go (by simp[stepG,stepG.exec,Frame.atR])
theorem wP{c:Code}(h:c.sJ P ro Q a w)(hg:∀l a w, ¬Q (.goto l) a w):(Code.scope c).sJ P ro Q a w:=by
 intro b k cs s8 hb
 have h0:(lone (b.atR a (.code (.scope c)::k)) cs w).fenced P (dC ro):=fenced_calm (n:=0) trivial gf rfl
 obtain⟨e,nN,jn,hq,cW⟩:=h b (.inScope c::k) cs s8 hb
 cases e with
 |normal=>exact⟨.normal,nN,jn,hq, .head h0 jZ (StepsIn.trans cW (.one (fenced_calm (n:=0) trivial gf rfl) vU))⟩
 |exit CI=>
  have hx:exitTo CI (.inScope c::k)=exitTo CI k:=by simp[exitTo]
  exact⟨.exit CI,nN,jn,hq,fun k' hk=> .head h0 jZ (cW.1 k' wq),
   fun x9 hk=>let⟨k₁,h1,h2⟩:=cW.2 x9 wq;⟨k₁,h1, .head h0 jZ h2⟩⟩
 |goto l=>exact(hg _ _ _ hq).elim
 |ret=>exact Sl
 |panic ch=>exact Sl
 |outgrown=>exact Sl
def tZ(P:Program)(l:Nat)(Q:Exit->Act->World->Prop)(a':Act):Ending->World->Prop
 | .returned _,Dd=>∃jump sK,(Instr.endLoop l).run P Dd= .ok jump sK/\(match jump with|none=>Q .normal a' sK|some c=>c.sJ P none Q a' sK)
 | .panicked chain,Dd=>Q (.panic chain) a' Dd
 | .outgrown,_=>LetsOut Q
theorem vV{g:Operand}{ps:Array Tmp}{assign body:Code}
 (h:∀fn,fn<P.funcs.size->∃ (l:Nat) (mark:List Deferred) (jn:World) (d:Deferred) (wQ:World) (f:FuncId) (args:Array Value) (qZ:World),
  (Instr.enterLoop fn a.tmps ps assign body (dC none).round).run P w= .ok (l,mark) jn/\(resolve a.eval (rangeCall g l) 0).run P jn= .ok d wQ/\
  (invoke d.target d.args).run P wQ= .ok (.enter f args) qZ/\CallsIn (dC none) 0 P f args qZ (tZ P l Q {a with defers:=mark++a.defers})):
 (Code.rangeFunc g ps assign body).sJ P none Q a w:=by
 intro b k cs s8 hb
 obtain⟨l,mark,jn,d,wQ,f,args,qZ,he,yh,hinv,hF,eB⟩:=h b.fn hb
 rw[show(dC none).round=b.roundOf from s8.symm]at he
 have calm:∀ (m:Machine),m.fenced P (dC none)↔m.fenced P Fence.wide:=fun m=>Iff.rfl
 have h0:(lone (b.atR a (.code (.rangeFunc g ps assign body)::k)) cs w).fenced P (dC none):=(calm _).2 (fenced_wide P _)
 have lL:=stepR_rangeFunc (P:=P) (b:=b) (a:=a) (k:=k) (cs:=cs) (w:=w) he yh hinv
 obtain⟨e,Dd,fr,hR,De,H5,JG⟩:=eB (b.atR {a with defers:=mark++a.defers} (.inRangeFunc l::k)::cs) gf
 cases e with
 |outgrown=>
  obtain⟨ac0,ac1,hq⟩:=hR
  exact⟨.outgrown,ac0,ac1,hq, .inr (Outgrown.of_steps (.one lL) De)⟩
 |returned v=>
  obtain⟨jump,sK,cz,hj⟩:=hR
  have PX:StepsIn (Machine.fenced P (dC none)) P (lone (b.atR a (.code (.rangeFunc g ps assign body)::k)) cs w) (lone (b.atR {a with defers:=mark++a.defers} ((jump.map Item.code).toList++k)) cs sK):=by
   refine .head h0 lL (StepsIn.trans De (.head ((calm _).2 (fenced_wide P _)) ?_ (.one ((calm _).2 (fenced_wide P _)) (stepR_endRangeFunc cz))))
   rw[<- finish_atR_inRangeFunc l v];exact step_leave_returned JG
  cases jump with
  |none=>exact⟨.normal,_,sK,hj,PX⟩
  |some c=>
   obtain⟨e',a'',ac2,hq,cW⟩:=hj b k cs s8 hb
   exact⟨e',a'',ac2,hq, .of_steps PX cW⟩
 |panicked chain=>
  refine⟨.panic chain,_,Dd,hR, .inRangeFunc l::k, .head h0 lL (StepsIn.trans De (.one ((calm _).2 (fenced_wide P _)) ?_))⟩
  rw[<- Frame.raise_atR];exact step_leave_panicked JG
end
theorem wS(hH:ax M φ H w){id l:Nat}(dW:H.us id){nf m:Nat}{env:List V}{ps:List Nat}{jr fj:IC}{st st':LoopState}{pd pd':Option jP}(ho:H.o id= .loop nf m env ps jr fj st pd)(dT:φ id= .pointer (some ⟨l,0,none⟩)):
 ∃r,w.heap[l]? =some (.loop r)/\r.state=st/\r.pending=pd.map jP.code/\
  ax M φ (H.put [(id, .loop nf m env ps jr fj st' pd')]) {w with heap:=w.heap.setIfInBounds l (.loop {r with state:=st',pending:=pd'.map jP.code})}/\
  Trans φ H w φ (H.put [(id, .loop nf m env ps jr fj st' pd')]) {w with heap:=w.heap.setIfInBounds l (.loop {r with state:=st',pending:=pd'.map jP.code})}:=by
 have aW:=hH.ok id
 simp only[aN,ho]at aW
 obtain⟨b,r,h1,h2,h0,h3,h4,h5,h6,h7,h8,h9⟩:=aW
 rw[dT]at h1;simp at h1;subst h1
 refine⟨r,h2,h3,h4, ?_⟩
 have Jv:dB (· =l) w {w with heap:=w.heap.setIfInBounds l (.loop {r with state:=st',pending:=pd'.map jP.code})}:=
  ⟨rfl,rfl,rfl,aL,fun j _ hj=>(MapKept.heap_set h2).2 j hj⟩
 have tS:(H.o id).live=true:=by rw[ho];rfl
 have C9:de (φ id)=some l:=by rw[dT];rfl
 have ht:=ez (w:=w) (w':={w with heap:=w.heap.setIfInBounds l (.loop {r with state:=st',pending:=pd'.map jP.code})}) dW tS C9 Jv (.loop nf m env ps jr fj st' pd') et et
 refine⟨gI hH dW tS C9 Jv _ et et ?_,ht⟩
 unfold aN
 simp only[bC,aJ,if_true]
 exact⟨l,_,dT,(MapKept.heap_set h2).1,h0,rfl,rfl,h5,h6,h7,h8,fun i=>V.aM ht _ _ (h9 i)⟩
theorem iL{l:Nat}{r:Loop}(o:Obj)(hb:w.heap[l]? =some (.loop r)):(setObj l o).run P w= .ok () {w with heap:=w.heap.setIfInBounds l o}:=by
 simp[setObj,Sem.run,hb]
theorem kn{l:Nat}{r:Loop}(hb:w.heap[l]? =some (.loop r)):(Instr.getLoop l).run P w= .ok r w:=by
 simp[Instr.getLoop,getObj,Sem.run,hb,Result.andThen]
end
def oL(Q:fm->S->Prop)(pd:Option jP)(s:S):Prop:=
 match pd with
 |none=>Q .normal s
 |some .ret=>Q .ret s
 |some (.exit id)=>Q (.exit id) s
def AW(P:Program)(n:Nat)(g:V)(ps:List Nat)(jr fj:IC)(Q:fm->S->Prop)(s:S):Prop:=
 ∃env,(∀i,aS env i= .aa\/aS env i=s.env i)/\
  match g with
  | .func (.func f) first cap=>n7 P f (first++[.ja s.nx]++cap) (aA s.o s.nx (.loop P.funcs.size n env ps jr fj .ready none)) (s.nx+1)
    (fun _ o' nx'=>∃nf m e p c d st pd,o' s.nx= .loop nf m e p c d st pd/\st≠ .busy/\oL Q pd ⟨s.env,aA o' s.nx (.loop nf m e p c d .exhausted pd),nx'⟩)
    (fun v o' nx'=>Q (.bD v) ⟨s.env,o',nx'⟩)
  |_=>False
def Y2(P:Program)(n b:Nat)(g:Operand)(ps:List Nat)(jr fj:IC)(Q:fm->S->Prop)(s:S):Prop:=∃s',(s'=s\/aZ b s s')/\AW P n (s'.ev g) ps jr fj Q s'
def iU(P:Program)(n b:Nat)(rd:Bool):Code->(fm->S->Prop)->S->Prop
 | .skip,Q,s=>Q .normal s
 | .label _,Q,s=>Q .normal s
 | .scope x,Q,s=>iU P n b rd x Q s
 | .region _ ops false,Q,s=>yd P n ops (fun v s=>Q (.bD v) s) (Q .normal) ops.toList s
 | .region id ops true,Q,s=>∀M cj H0 w0 cx φ a w ro k,bX M cj H0 w0 n cx φ s a w->(Code.region id ops true).wpIn (dC ro) k P (EO M cj H0 w0 n cx Q) a w
 | .seq x y,Q,s=>iU P n b rd x (pE (iU P n b rd y Q) Q) s
 | .cond c x y,Q,s=>match s.ev c with
   | .d (.bool t)=>(t=true->iU P n b rd x Q s)/\(t=false->iU P n b rd y Q s)
   | .eV=>iU P n b rd x Q s/\iU P n b rd y Q s
   |_=>False
 | .block id x,Q,s=>iU P n b rd x (eW id Q) s
 | .loop x,Q,s=>∃ (J:Nat->S->Prop),(∃m s1,aZ b s s1/\J m s1)/\∀m s0,J m s0->iU P n b rd x (fun e s=>match e with| .normal=>∃m' s1,m'<m/\aZ b s s1/\J m' s1|e=>Q e s) s0
 | .exit id,Q,s=>Q (.exit id) s
 | .ret,Q,s=>Q .ret s
 | .rangeFunc g ps x y,Q,s=>rd=false/\Y2 P n b g ps.toList (low n x) (low n y) Q s
 |_,_,_=>False
section
variable {P:Program}{M:Nat->Prop}{φ:Place}{H:Hp}{w w':World}{cj:Place}{H0:Hp}{w0:World}{n b:Nat}{s:S}{a:Act}{cx:Cx}{ro:Option Nat}{k:Nat}
theorem Df(hb:∀id,H0.us id->id<b)(hs:bX M cj H0 w0 n cx φ s a w){s':S}(h:aZ b s s'):∃aE,bX M cj H0 w0 n cx aE s' a w:=by
 obtain⟨aE,h1,h2,h3,h4,h5,h6⟩:=h M φ w (fun i=>a.tmps.getD i undef) hs.heap hs.env
 refine⟨aE,h1,⟨hs.tr.keep,fun k hk=>hs.tr.grow k (h3 k hk),⟨fun id hu=>Nat.lt_of_lt_of_le (hb id hu) h4,fun id hu hr=> ?_,fun id e' hu he=> ?_⟩⟩,hs.size, ?_,h2⟩
 ·obtain⟨g1,g2⟩:=h5 id (hb id hu) hr
  obtain⟨g3,g4⟩:=hs.tr.rel.row id hu g1
  exact⟨g3,g2.trans g4⟩
 ·obtain⟨e,g1,g2,g3⟩:=h6 id e' (hb id hu) he
  obtain⟨e0,k1,k2,k3⟩:=hs.tr.rel.ep id e hu g1
  refine⟨e0,k1,Nat.le_trans k2 g2,fun heq=> ?_⟩
  have a1:e0=e:=af
  have a2:e=e':=af
  exact(g3 a2).trans (k3 a1)
 ·obtain⟨ms,g1,g2,g3,g4⟩:=hs.defers
  exact⟨ms,g1,g2,g3,fun r hr=>⟨(g4 r hr).1,(g4 r hr).2.1,fun hl=>(g4 r hr).2.2 (h3 r hl)⟩⟩
theorem yi{c:Code}{Q:Exit->Act->World->Prop}(J:Nat->Act->World->Prop)(round:∀m a w,J m a w->c.sJ P ro (Exit.then (fun a' w'=>∃m',m'<m/\J m' a' w') Q) a w):
 ∀m a w,J m a w->(Code.loop c).sJ P ro Q a w:=by
 intro m a w h0 fr kk cs s8 hb
 have hr:(dC ro).room (cs.length+1+0):=fun d hd=>by simp[dC]at hd
 have key:∀m a w,J m a w->∃e a' w',Q e a' w'/\ArrivesIn (Machine.fenced P (dC ro)) P (lone (fr.atR a (.code c:: .inLoop c::kk)) cs w) fr kk cs e a' w':=by
  intro m
  induction m using Nat.strongRecOn with
  |_ m ih=>
   intro a w hJ
   obtain⟨e,a1,w1,hq,cW⟩:=round m a w hJ fr (.inLoop c::kk) cs s8 hb
   cases e with
   |normal=>
    obtain⟨m',ck,hJ'⟩:=hq
    obtain⟨e2,a2,w2,Wh,ER⟩:=ih m' ck a1 w1 hJ'
    exact⟨e2,a2,w2,Wh, .of_steps (StepsIn.trans cW (.one (fenced_calm trivial hr rfl) stepR_inLoop)) ER⟩
   |_=>exact⟨_,a1,w1,hq, .pass (x:= .inLoop c) rfl (fun _ _=> .inl aL) cW⟩
 obtain⟨e,a',w',hq,cW⟩:=key m a w h0
 exact⟨e,a',w',hq, .of_steps (.one (fenced_calm trivial hr rfl) stepR_loop) cW⟩
theorem wT(hs:bX M cj H0 w0 n cx φ s a w)(nP:cx.rd=false)(s8:ro=none){g:Operand}{ps:Array Tmp}{x y:Code}{Q:fm->S->Prop}(h:AW P n (s.ev g) ps.toList (low n x) (low n y) Q s):
 (Code.rangeFunc g ps x y).sJ P ro (EO M cj H0 w0 n cx Q) a w:=by
 subst s8
 obtain⟨env,dP,h⟩:=h
 refine vV fun fn H5=> ?_
 let Dg:Loop:={state:= .ready,pending:=none,fn:=fn,tmps:=a.tmps,params:=ps,assign:=x,body:=y,defers:=w.heap.size}
 let w1:World:=(w.alloc (.deferred (some []))).alloc (.loop Dg)
 let l:Nat:=w.heap.size+1
 have lL:(Instr.enterLoop fn a.tmps ps x y (dC none).round).run P w= .ok (l,[mark w.heap.size]) w1:=by
  simp[Instr.enterLoop,dC,mark,w1,l,Dg]
 have Wi:dB (fun _=>False) w w1:=by
  have k1:=cl w (.deferred (some []))
  have k2:=cl (w.alloc (.deferred (some []))) (.loop Dg)
  exact⟨k2.os.trans k1.os,k2.tape.trans k1.tape,k2.output.trans k1.output,Nat.le_trans k1.size k2.size,fun j hj hm=>(k2.block j (Nat.lt_of_lt_of_le hj k1.size) hm).trans (k1.block j hj hm)⟩
 let iH:=aA φ s.nx (.pointer (some ⟨l,0,none⟩))
 let s1:S:=⟨s.env,aA s.o s.nx (.loop P.funcs.size n env ps.toList (low n x) (low n y) .ready none),s.nx+1⟩
 have cN: ¬s.H.us s.nx:=by simp[S.H]
 have eJ:∀b,de (.pointer (some ⟨l,0,none⟩))=some b->w.heap.size<=b/\b<w1.heap.size:=by
  intro b hb;simp[de]at hb;subst hb;simp[l,w1]
 have CH:=dU (φ:=φ) (H:=s.H) Wi cN (.loop P.funcs.size n env ps.toList (low n x) (low n y) .ready none) (.pointer (some ⟨l,0,none⟩)) fun b hb=>(eJ b hb).1
 have MY:(w.alloc (.deferred (some []))).heap.size=w.heap.size+1:=aL
 have tS:w1.heap[l]? =some (.loop Dg):=by
  have:=heap_alloc_new (w.alloc (.deferred (some []))) (.loop Dg)
  rwa [MY]at this
 have Gd:=im hs.heap Wi cN (.loop P.funcs.size n env ps.toList (low n x) (low n y) .ready none) (.pointer (some ⟨l,0,none⟩)) eJ (by
  unfold aN
  simp only[bC,aJ,if_true]
  refine⟨l,Dg,rfl,tS,H5,rfl,rfl,rfl,hs.size,rfl,rfl,fun i=> ?_⟩
  rcases dP i with e|e
  ·rw[e];trivial
  ·rw[e];exact V.aM CH _ _ (hs.env i))
 have wU:bX M cj H0 w0 n cx iH s1 {a with defers:=mark w.heap.size::a.defers} w1:=by
  have base:=eu hs Gd CH (o':=aA s.o s.nx (.loop P.funcs.size n env ps.toList (low n x) (low n y) .ready none)) (nx':=s.nx+1) rfl (JC fun id au=>by simp at au;exact .inr au)
  refine⟨base.heap,base.tr,base.size, ?_,base.env⟩
  obtain⟨ms,g1,g2,g3,g4⟩:=base.defers
  obtain⟨ms',q1,q2,q3,q4⟩:=hs.defers
  have hmm:ms.map mark=ms'.map mark:=by
   have:ms.map mark++cx.base=ms'.map mark++cx.base:=g1.symm.trans q1
   exact List.append_cancel_right this
  have S5:ms=ms':=by
   have hm:∀a b,mark a=mark b->a=b:=fun a b h=>by simpa[mark]using h
   exact List.map_inj_right hm |>.1 hmm
  refine⟨w.heap.size::ms,by rw[g1];rfl,List.nodup_cons.2 ⟨fun hm=> ?_,g2⟩,(fun h=>by rw[nP]at h;cases h),fun r hr=> ?_⟩
  ·have:=(q4 w.heap.size (S5 ▸ hm)).2.1
   rw[Array.getElem?_eq_none (Nat.le_refl _)]at this;cases this
  ·rcases List.mem_cons.1 hr with rfl|hr
   ·refine⟨hs.tr.keep.size,(RowKit.Below.heap_alloc (w.alloc (.deferred (some []))) (.loop Dg) w.heap.size (by rw[MY];omega)).trans (heap_alloc_new w _), ?_⟩
    rintro⟨id,i1,i2⟩
    by_cases e:id=s.nx
    ·subst e;simp[iH,de,l]at i2
    ·have i1':(s.H.o id).live=true:=by simpa[s1,S.H,e]using i1
     have i2':de (φ id)=some w.heap.size:=by simpa[iH,e]using i2
     have:=(hs.heap.ours _ ⟨id,i1',i2'⟩).2
     omega
   ·exact g4 r hr
 have ac3:V.den (ak M iH s1.H) iH s1.H w1 (.ja s.nx) (.func (.yield l) #[] #[]):=
  ⟨rfl,by simp[s1,S.H],fun _=>⟨l,by simp[iH],rfl⟩⟩
 have hg:=mz (M:=M) (φ:=iH) (H:=s1.H) (w:=w1) s1 {a with defers:=mark w.heap.size::a.defers} wU.env g
 have ac4:s1.ev g=s.ev g:=by cases g<;>rfl
 rw[ac4]at hg
 have hae:({a with defers:=mark w.heap.size::a.defers}:Act).eval g=a.eval g:=rfl
 rw[hae]at hg
 split at h
 ·rename_i f first cap hgv
  rw[hgv]at hg
  obtain⟨fa,ca,S3,Ew,hca⟩:=hg
  have fin:∀ (all:List V) (o2:Nat->ab) (s2:S),s2=⟨s.env,o2,s.nx+1⟩->bX M cj H0 w0 n cx iH s2 {a with defers:=mark w.heap.size::a.defers} w1->V.aD (ak M iH s2.H) iH s2.H w1 all (fa++#[Value.func (.yield l) #[] #[]]++ca).toList->(o2 s.nx).b8=true->
   cX P f all o2 (s.nx+1) (fun _ o' nx'=>∃nf m e p c d st pd,o' s.nx= .loop nf m e p c d st pd/\st≠ .busy/\oL Q pd ⟨s.env,aA o' s.nx (.loop nf m e p c d .exhausted pd),nx'⟩) (fun v o' nx'=>Q (.bD v) ⟨s.env,o',nx'⟩)->
   ∃ (l:Nat) (mark:List Deferred) (jn:World) (d:Deferred) (wQ:World) (f:FuncId) (args:Array Value) (qZ:World),
     (Instr.enterLoop fn a.tmps ps x y (dC none).round).run P w= .ok (l,mark) jn/\(resolve a.eval (rangeCall g l) 0).run P jn= .ok d wQ/\
     (invoke d.target d.args).run P wQ= .ok (.enter f args) qZ/\CallsIn (dC none) 0 P f args qZ (tZ P l (EO M cj H0 w0 n cx Q) {a with defers:=mark++a.defers}):=by
   intro all o2 s2 ac5 Mg a7 bG hC
   subst ac5
   have eB:=hC.2 M iH w1 _ Mg.heap a7
   refine⟨l,[mark w.heap.size],w1,{target:= .fn (.func f) ca,args:=fa++#[Value.func (.yield l) #[] #[]]},w1,f,fa++#[Value.func (.yield l) #[] #[]]++ca,w1,lL, ?_, ?_,cS (eB.mono fun e w' ⟨aE,o',nx',v,k1,k2,k3⟩=> ?_)⟩
   ·simp only[resolve,S3,Deferred.ofValue,List.map_toArray,List.map_cons,List.map_nil,Sem.run_pure]
    rfl
   ·simp[invoke,kZ hC.1]
   ·cases e with
    |returned val=>
     obtain⟨k4,nf,m,e,p,c,d,st,pd,k5,k6,k7⟩:=k3
     have ES:bX M cj H0 w0 n cx aE ⟨s.env,o',nx'⟩ {a with defers:=mark w.heap.size::a.defers} w':=eu Mg k1 k2 rfl fun id hu=>hu
     have S6:aE s.nx= .pointer (some ⟨l,0,none⟩):=by
      have:=(k2.rel.row s.nx (show s.nx<s.nx+1 from af) (by show(o' s.nx).b8=true;rw[k5];rfl)).2
      rw[this];simp[iH]
     have ck:s.nx<nx':=k2.rel.us s.nx (show s.nx<s.nx+1 from af)
     obtain⟨r,r1,r2,r3,r4,r5⟩:=wS (st':= .exhausted) (pd':=pd) k1 ck (show(hp o' nx').o s.nx=_ from k5) S6
     have cz:(Instr.endLoop l).run P w'= .ok (pd.map jP.code) {w' with heap:=w'.heap.setIfInBounds l (.loop {r with state:= .exhausted,pending:=pd.map jP.code})}:=by
      have e1:({r with state:= .exhausted}:Loop)={r with state:= .exhausted,pending:=pd.map jP.code}:=by rw[<- r3]
      have hnb:(r.state==LoopState.busy)=false:=by rw[r2];cases st<;>first|rfl|exact absurd rfl k6
      simp only[Instr.endLoop,Sem.run_bind,kn r1,Result.andThen_ok,hnb,Bool.false_eq_true,if_false,Sem.run_pure]
      rw[iL _ r1,e1]
      simp[r3]
     have Wj:=eu ES r4 r5 (o':=aA o' s.nx (.loop nf m e p c d .exhausted pd)) (nx':=nx') rfl fun id hu=>by
      simp only[dL]at hu
      rcases hu with hu|hu
      ·exact hu
      ·subst hu;exact ck
     refine⟨pd.map jP.code,_,cz, ?_⟩
     cases pd with
     |none=>exact⟨.normal,_,_,k7,Wj,trivial⟩
     |some j=>
      cases j with
      |ret=>exact EP ⟨.ret,_,_,k7,Wj,trivial⟩
      |exit id=>exact AV ⟨.exit id,_,_,k7,Wj,rfl⟩
    |panicked ch=>
     obtain⟨val,rfl,k4,k5⟩:=k3
     have ES:bX M cj H0 w0 n cx aE ⟨s.env,o',nx'⟩ {a with defers:=mark w.heap.size::a.defers} w':=eu Mg k1 k2 rfl fun id hu=>hu
     exact⟨.bD v,_,_,k5,ES,val,rfl,k4⟩
    |outgrown=>exact k3.elim
  have mM:V.aD (ak M iH s1.H) iH s1.H w1 (first++[V.ja s.nx]++cap) (fa++#[Value.func (.yield l) #[] #[]]++ca).toList:=by
   rw[Array.toList_append,Array.toList_append]
   exact V.o8 Ew ⟨_,[],rfl,ac3,rfl⟩ hca
  rcases h with hC|hC
  ·exact fin _ _ s1 rfl wU mM (by simp;rfl) hC
  ·have oY:s1.o=aA s.o s.nx (.loop P.funcs.size n env ps.toList (low n x) (low n y) .ready none):=rfl
   obtain⟨f1,f2,f3,f4,f5⟩:=cG wU.heap (cV s1.o (first++[V.ja s.nx]++cap)) (fZ _ _ s1.o mM)
   have gK:s1.H.put (cg s1.H.o (cV s1.o (first++[V.ja s.nx]++cap)))=hp (put s1.o (cg s1.o (cV s1.o (first++[V.ja s.nx]++cap)))) s1.nx:=kY (by rw[sZ];exact fZ _ _ s1.o mM)
   have PY:=JF f1 _ _ f3 (V.aP f2 _ _ mM)
   have PZ:((s1.H.put (cg s1.H.o (cV s1.o (first++[V.ja s.nx]++cap)))).o s.nx).b8=true:=by
    by_cases hm:s.nx∈cV s1.o (first++[V.ja s.nx]++cap)
    ·rw[f3 _ hm];simp[s1,S.H,ab.fz,ab.b8]
    ·rw[f4 _ hm];simp[s1,S.H,ab.b8]
   rw[gK]at f1 f2 PY PZ
   exact fin _ (put s1.o (cg s1.o (cV s1.o (first++[V.ja s.nx]++cap)))) ⟨s.env,_,s.nx+1⟩ rfl (eu wU f1 f2 rfl fun id hu=>hu) PY PZ hC
 ·exact h.elim
end
end Go.Proofs.YtnkamdiiakdkgaaGreat
