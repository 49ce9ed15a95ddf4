/-
  A PART OF THE PROOF. Conditions: none.
-/
import Derived.RangeFuncLeaves
import Derived.TacticsIn
import Derived.RecoverIn
import Derived.Test.YtealblliddhgiaaGreatGn4
set_option linter.unusedSimpArgs false
set_option linter.unusedVariables false
namespace Go.Proofs.YtealblliddhgiaaGreat
inductive R where
 |ret (ds:List D)|bG (d:D)
def R.is (B:Nat->Prop)(w:World):R->Ending->Prop
 | .ret [x], .returned v=>D.den B w x v
 | .ret ds, .returned v=>∃a,v= .tuple a/\D.aE B w ds a.toList
 | .bG d, .panicked chain=>∃v,chain=[{v:=v,recovered:=false}]/\D.den B w d v
 |_,_=>False
def Enters(P:Program)(f:FuncId):Prop:=∃fn,P.funcs[f]? =some fn/\(fn.name== "runtime.NumGoroutine")=false/\fn.body.isNone=false
def bJ(P:Program)(f:FuncId)(ds:List D)(out:R):Prop:=
 Enters P f/\∀ (M:Nat->Prop) (w:World) (vals:Array Value),(∀b,M b->b<w.heap.size)->D.aE M w ds vals.toList->
  Calls P f vals w fun e w'=>eM (fun _=>False) w w'/\out.is M w' e
def hp(o:Nat->ae)(nx:Nat):Hp:=⟨o,fun id=>id<nx⟩
def mN(M:Nat->Prop)(φ:Place)(H:Hp)(w:World)(K X:V->(Nat->ae)->Nat->Prop)(e:Ending)(w':World):Prop:=
 ∃aC o' nx' v,az M aC (hp o' nx') w'/\Trans φ H w aC (hp o' nx') w'/\match e with
  | .returned val=>V.den (ao M aC (hp o' nx')) aC (hp o' nx') w' v val/\K v o' nx'
  | .panicked ch=>∃val,ch=[{v:=val,recovered:=false}]/\V.den (ao M aC (hp o' nx')) aC (hp o' nx') w' v val/\X v o' nx'
  | .outgrown=>False
def dX(P:Program)(f:FuncId)(args:List V)(o:Nat->ae)(nx:Nat)(K X:V->(Nat->ae)->Nat->Prop):Prop:=
 Enters P f/\∀ (M:Nat->Prop) (φ:Place) (w:World) (vals:Array Value),az M φ (hp o nx) w->V.aE (ao M φ (hp o nx)) φ (hp o nx) w args vals.toList->
  Calls P f vals w (mN M φ (hp o nx) w K X)
def dJ(P:Program)(id:Nat)(args:List V)(o:Nat->ae)(nx:Nat)(K X:V->(Nat->ae)->Nat->Prop):Prop:=
 (o id).bM=true/\∀ (M:Nat->Prop) (φ:Place) (w:World) (vals:Array Value) (b:Nat),az M φ (hp o nx) w->V.aE (ao M φ (hp o nx)) φ (hp o nx) w args vals.toList->φ id= .pointer (some ⟨b,0,none⟩)->
  ∃f tmps assign body,(Instr.yield b vals).run P w= .ok (.round b f tmps assign body) w/\∀n,RoundIn Fence.wide n P b f tmps assign body w (mN M φ (hp o nx) w K X)
theorem mN.mono {M:Nat->Prop}{φ:Place}{H:Hp}{w:World}{K X K' X':V->(Nat->ae)->Nat->Prop}(hK:∀v o n,K v o n->K' v o n)(hX:∀v o n,X v o n->X' v o n){e:Ending}{w':World}(h:mN M φ H w K X e w'):mN M φ H w K' X' e w':=by
 obtain⟨aC,o',nx',v,h1,h2,h3⟩:=h
 refine⟨aC,o',nx',v,h1,h2, ?_⟩
 cases e with
 |returned val=>exact⟨h3.1,hK _ _ _ h3.2⟩
 |panicked ch=>obtain⟨val,a,b,c⟩:=h3;exact⟨val,a,b,hX _ _ _ c⟩
 |outgrown=>exact h3
theorem dX.mono {P:Program}{f:FuncId}{args:List V}{o:Nat->ae}{nx:Nat}{K X K' X':V->(Nat->ae)->Nat->Prop}(hK:∀v o n,K v o n->K' v o n)(hX:∀v o n,X v o n->X' v o n)(h:dX P f args o nx K X):dX P f args o nx K' X':=
 ⟨h.1,fun M φ w vals h1 h2=>(h.2 M φ w vals h1 h2).mono fun _ _ h=>h.mono hK hX⟩
theorem dJ.mono {P:Program}{id:Nat}{args:List V}{o:Nat->ae}{nx:Nat}{K X K' X':V->(Nat->ae)->Nat->Prop}(hK:∀v o n,K v o n->K' v o n)(hX:∀v o n,X v o n->X' v o n)(h:dJ P id args o nx K X):dJ P id args o nx K' X':=
 ⟨h.1,fun M φ w vals b h1 h2 h3=>let⟨f,t,a,c,h4,h5⟩:=h.2 M φ w vals b h1 h2 h3;⟨f,t,a,c,h4,fun n=>(h5 n).mono fun _ _ h=>h.mono hK hX⟩⟩
mutual
def D.flat:D->Bool
 | .sl _| .mp _ _=>false
 | .agg cs=>D.jE cs
 | .iface _ x=>x.flat
 |_=>true
def D.jE:List D->Bool
 |[]=>true
 |x::xs=>x.flat&&D.jE xs
end
mutual
theorem D.pG {B B':Nat->Prop}{w w':World}:∀ (x:D) (v:Value),x.flat=true->D.den B w x v->D.den B' w' x v
 | .int _ _,_,_,h| .bool _,_,_,h| .str _,_,_,h| .eC,_,_,h| .gY,_,_,h| .a7,_,_,h| .dk,_,_,h=>h
 | .agg cs,_,hf,h=>by obtain⟨a,rfl,h,h2⟩:=h;exact⟨a,rfl,D.lW cs _ hf h,h2⟩
 | .sl es,_,hf,h=>by simp[D.flat]at hf
 | .mp _ _,_,hf,h=>by simp[D.flat]at hf
 | .iface t x,_,hf,h=>by obtain⟨u,rfl,h⟩:=h;exact⟨u,rfl,D.pG x u hf h⟩
theorem D.lW {B B':Nat->Prop}{w w':World}:∀ (xs:List D) (vs:List Value),D.jE xs=true->D.aE B w xs vs->D.aE B' w' xs vs
 |[],_,_,h=>h
 |x::xs,_,hf,h=>by
  obtain⟨u,us,rfl,h1,h2⟩:=h
  simp only[D.jE,Bool.and_eq_true]at hf
  exact⟨u,us,rfl,D.pG x u hf.1 h1,D.lW xs us hf.2 h2⟩
end
mutual
def D.mO:D->Bool
 | .mp _ _=>false
 | .agg cs=>D.lX cs
 | .sl es=>D.lX es
 | .iface _ x=>x.mO
 |_=>true
def D.lX:List D->Bool
 |[]=>true
 |x::xs=>x.mO&&D.lX xs
end
theorem gx.zg {B B':Nat->Prop}{w w':World}{a:Addr}{cs:Array Value}
 (hb:∀b,pj w b-> ¬B b->w'.heap[b]? =w.heap[b]? /\ ¬B' b) (h:gx B w a cs):gx B' w' a cs:=by
 intro j u hj
 obtain⟨h1,h2⟩:=h j u hj
 have bC:pj w a.block:=by simpa using nV h1
 obtain⟨h3,h4⟩:=hb _ bC h2
 exact⟨by rw[World.cell?_of_block (w:=w) (w':=w') (a:=a.add j) (by simpa using h3)];exact h1,h4⟩
mutual
theorem D.lb {B B':Nat->Prop}{w w':World}(hb:∀b,pj w b-> ¬B b->w'.heap[b]? =w.heap[b]? /\ ¬B' b):
 ∀ (x:D) (v:Value),x.mO=true->D.den B w x v->D.den B' w' x v
 | .int _ _,_,_,h| .bool _,_,_,h| .str _,_,_,h| .eC,_,_,h| .gY,_,_,h| .a7,_,_,h| .dk,_,_,h=>by simpa[D.den]using h
 | .agg cs,_,hn,h=>by
   obtain⟨a,rfl,h,hf⟩:=h
   exact⟨a,rfl,D.mP hb cs _ hn h,hf⟩
 | .sl es,_,hn,h=>by
   obtain⟨base,len,cap,rfl,h1,h2,h3,sz,h4⟩:=h
   exact⟨base,len,cap,rfl,h1,h2,h3,sz,fun a ha=>⟨(h4 a ha).1,D.pH hb sz a es 0 hn (h4 a ha).2⟩⟩
 | .iface t d,_,hn,h=>by
   obtain⟨u,rfl,h⟩:=h
   exact⟨u,rfl,D.lb hb d u hn h⟩
 | .mp _ _,_,hn,_=>by simp[D.mO]at hn
theorem D.mP {B B':Nat->Prop}{w w':World}(hb:∀b,pj w b-> ¬B b->w'.heap[b]? =w.heap[b]? /\ ¬B' b):
 ∀ (ds:List D) (vs:List Value),D.lX ds=true->D.aE B w ds vs->D.aE B' w' ds vs
 |[],_,_,h=>h
 |d::ds,_,hn,h=>by
  obtain⟨u,us,rfl,h1,h2⟩:=h
  simp only[D.lX,Bool.and_eq_true]at hn
  exact⟨u,us,rfl,D.lb hb d u hn.1 h1,D.mP hb ds us hn.2 h2⟩
theorem D.pH {B B':Nat->Prop}{w w':World}(hb:∀b,pj w b-> ¬B b->w'.heap[b]? =w.heap[b]? /\ ¬B' b)(sz:Nat)(a:Addr):
 ∀ (es:List D) (i:Nat),D.lX es=true->D.elems B w sz a i es->D.elems B' w' sz a i es
 |[],_,_,_=>trivial
 |e::es,i,hn,h=>by
  obtain⟨⟨ev,h1,h2,h3⟩,h4⟩:=h
  simp only[D.lX,Bool.and_eq_true]at hn
  exact⟨⟨ev,h1,h2.zg hb,D.lb hb e ev hn.1 h3⟩,D.pH hb sz a es (i+1) hn.2 h4⟩
end
def R.mO:R->Bool
 | .ret ds=>D.lX ds
 | .bG d=>d.mO
def R.flat:R->Bool
 | .ret ds=>D.jE ds
 | .bG d=>d.flat
def gS:List D->V
 |[x]=> .d x
 |ds=> .bS (ds.map .d)
inductive fy where
 |normal|exit (id:Nat)|ret|bG (v:V)
def a8(env:Nat->V)(dst:Option Tmp)(v:V):Nat->V:=
 match dst with
 |some d=>ak env d v
 |none=>env
def GN(o:Nat->ae)(v:V):V:=match dO o v with|some x=> .d x|none=>v
def df(o:Nat->ae):List V->List Nat
 |[]=>[]
 |v::vs=>(match dO o v with|some _=>v.ids|none=>[])++df o vs
def mQ(P:Program)(g:FuncId)(args:List V)(o:Nat->ae)(nx:Nat)(K X:V->(Nat->ae)->Nat->Prop):Prop:=
 dX P g args o nx K X\/dX P g (args.map (GN o)) (put o (cQ o (df o args))) nx K X
def tt(P:Program)(s:S)(g:FuncId)(all:List V)(K:V->(Nat->ae)->Nat->Prop)(X:V->(Nat->ae)->Nat->Prop):Prop:=
    (∃ds out,cc s.o all=some ds/\bJ P g ds out/\(match out with
     | .ret rs=>K (gS rs) (put s.o (cQ s.o (V.bf all))) (s.nx+1)
     | .bG x=>X (.d x) (put s.o (cQ s.o (V.bf all))) (s.nx+1)))\/
    (∃ds out,cc s.o all=some ds/\bJ P g ds out/\out.flat=true/\(match out with
     | .ret rs=>K (gS rs) s.o (s.nx+1)
     | .bG x=>X (.d x) s.o (s.nx+1)))\/
    (∃ds out,cc s.o all=some ds/\bJ P g ds out/\out.mO=true/\(match out with
     | .ret rs=>K (gS rs) (put s.o (qs s.o (V.bf all))) (s.nx+1)
     | .bG x=>X (.d x) (put s.o (qs s.o (V.bf all))) (s.nx+1)))\/
    mQ P g all s.o s.nx K X
def zF(P:Program)(s:S)(f:V)(args:List V)(K:V->(Nat->ae)->Nat->Prop)(X:V->(Nat->ae)->Nat->Prop):Prop:=
 match f with
 | .func (.func g) first cap=>tt P s g (first++args++cap) K X
 | .kV id=>dJ P id args s.o s.nx K X
 |_=>False
def LF(P:Program)(t:TypeId):Bool:=
 match P.underlying t with
 |some (.pointer _)=>false
 |some _=>true
 |none=>false
def rC(P:Program)(m:String)(x:V):Option (FuncId×V):=
 match x with
 | .d (.iface t y)=>match P.info? t with
   |some ti=>match ti.methods.find? (·.name==m)with
    |some r=>match r.func with
     |some (f,false)=>if r.path.isEmpty=true/\LF P t=true then some (f, .d y)else none
     |_=>none
    |none=>none
   |none=>none
 |_=>none
def gA(n:Nat):Option Tmp->Prop
 |some d=>d<n
 |none=>True
def Ww(P:Program)(n:Nat)(s:S)(o:Oper)(X:V->S->Prop)(K:S->Prop):Prop:=
 gA n o.dst/\match o.op with
 | .call c=>match c.callee with
   | .value f=>zF P s (s.ev f) (c.args.toList.map s.ev) (fun v o' nx'=>K ⟨a8 s.env o.dst v,o',nx'⟩) (fun v o' nx'=>X v ⟨s.env,o',nx'⟩)
   | .invoke r m=>match rC P m (s.ev r)with
     |some (g,y)=>tt P s g (y::c.args.toList.map s.ev) (fun v o' nx'=>K ⟨a8 s.env o.dst v,o',nx'⟩) (fun v o' nx'=>X v ⟨s.env,o',nx'⟩)
     |none=>False
   |_=>Ls P s s.nx o.op fun v Δ _=>K ⟨a8 s.env o.dst v,put s.o Δ,s.nx+1⟩
 | .panic x=>match s.ev x with
   | .d (.iface t y)=>X (.d (.iface t y)) s
   | .iface t y=>X (.iface t y) s
   |_=>False
 |op=>Ls P s s.nx op fun v Δ _=>K ⟨a8 s.env o.dst v,put s.o Δ,s.nx+1⟩
def xz(s:S)(ops:Array Oper)(g:Option (Nat×Bool))(A B:Prop):Prop:=
 match g with
 |none=>A
 |some (j,want)=>match rn ops j with
  |some d=>match s.env d with
   | .d (.bool b)=>(b=want->A)/\(b≠want->B)
   | .bS []=>B
   |_=>False
  |none=>B
def xA(P:Program)(n:Nat)(ops:Array Oper)(X:V->S->Prop)(K:S->Prop):List Oper->S->Prop
 |[],s=>K s
 |o::l,s=>xz s ops o.guard (Ww P n s o X (xA P n ops X K l)) (gA n o.dst/\xA P n ops X K l ⟨a8 s.env o.dst (.bS []),s.o,s.nx+1⟩)
def bW(b:Nat)(s s':S):Prop:=
 ∀ (M:Nat->Prop) (φ:Place) (w:World) (tm:Nat->Value),az M φ s.H w->(∀i,V.den (ao M φ s.H) φ s.H w (s.env i) (tm i))->
   ∃aC,az M aC s'.H w/\(∀i,V.den (ao M aC s'.H) aC s'.H w (s'.env i) (tm i))/\(∀k,bT aC s'.H k->bT φ s.H k)/\b<=s'.nx/\
    (∀id,id<b->(s'.o id).bM=true->(s.o id).bM=true/\aC id=φ id)/\
    (∀id e',id<b->(s'.o id).ba=some e'->∃e,(s.o id).ba=some e/\e<=e'/\(e=e'->aC id=φ id))
def pI(K:S->Prop)(Q:fy->S->Prop)(e:fy)(s:S):Prop:=match e with| .normal=>K s|e=>Q e s
def ft(id:Nat)(Q:fy->S->Prop)(e:fy)(s:S):Prop:=match e with| .exit j=>if j=id then Q .normal s else Q (.exit j) s|e=>Q e s
def lY(P:Program)(s:S):List ResultVar->Option (List V)
 |[]=>some []
 | .tmp t::rs=>(lY P s rs).map (s.env t::·)
 | .cell a t::rs=>match s.env a with
   | .ptr id off=>match s.o id with
     | .row cs=>(eQ P t cs off).bind fun v=>(lY P s rs).map (v::·)
     |_=>none
   |_=>none
def cq(vs:List V):Nat->V:=fun i=>vs.getD i (.bS [])
def B9(P:Program)(rs:List ResultVar)(out:R)(e:fy)(s:S):Prop:=
 match e with
 | .normal| .ret=>match lY P s rs with
   |some vs=>match cc s.o vs with
    |some ds=>out= .ret ds
    |none=>False
   |none=>False
 | .bG v=>match dO s.o v with
   |some x=>out= .bG x
   |none=>False
 | .exit _=>False
theorem GO{P:Program}{rs:List ResultVar}{out:R}{s:S}(h:match lY P s rs with
 |some vs=>match cc s.o vs with
  |some ds=>out= .ret ds
  |none=>False
 |none=>False):∃vs ds,lY P s rs=some vs/\cc s.o vs=some ds/\out= .ret ds:=by
 split at h
 ·rename_i vs h1
  split at h
  ·rename_i xs h2;exact⟨vs,xs,h1,h2,h⟩
  ·exact h.elim
 ·exact h.elim
theorem GP{out:R}{s:S}{v:V}(h:match dO s.o v with
 |some x=>out= .bG x
 |none=>False):∃x,dO s.o v=some x/\out= .bG x:=by
 split at h
 ·rename_i x h1;exact⟨x,h1,h⟩
 ·exact h.elim
end Go.Proofs.YtealblliddhgiaaGreat
namespace Go.Proofs.YtealblliddhgiaaGreat
section
variable {P:Program}{M:Nat->Prop}{φ:Place}{H:Hp}{w w':World}
def ae.lg:ae->Bool
 | .arr .. =>true
 |_=>false
theorem Jz(o:Nat->ae)(ids:List Nat):qs o ids=cQ o (ids.filter fun id=>(o id).lg):=by
 induction ids with
 |nil=>rfl
 |cons id ids ih=>
  unfold qs at ih|-
  simp only[List.filterMap_cons,List.filter_cons]
  cases hx:o id with
  |arr ep ty sz es=>
   have e:(ae.arr ep ty sz es).lg=true:=rfl
   rw[e,if_pos rfl,ih]
   simp only[cQ,List.map_cons,hx]
  |_=>exact ih
theorem jf(hH:az M φ H w){us':Nat->Prop}(h:∀id,H.us id->us' id):az M φ ⟨H.o,us'⟩ w/\Trans φ H w φ ⟨H.o,us'⟩ w:=by
 have ht:Trans φ H w φ ⟨H.o,us'⟩ w:=⟨eM.refl _ _,fun b hb=> .inl hb,⟨h,fun id _ hr=>⟨hr,rfl⟩,fun id e' _ he=>⟨e',he,Nat.le_refl _,fun _=>rfl⟩⟩⟩
 exact⟨hH.of ht (fun _=>False) (fun _ h=>h.elim) (fun id _=>⟨rfl,rfl,fun _ _ _=>rfl⟩) (fun id hn=>hH.fresh id fun hu=>hn (h id hu)) hH.apart (fun b hb=>(hH.ours b hb).2),ht⟩
theorem fh(hH:az M φ H w)(hk:eM (fun _=>False) w w'):az M φ H w'/\Trans φ H w φ H w':=by
 have ht:Trans φ H w φ H w':=⟨⟨hk.os,hk.tape,hk.output,hk.size,fun k h _=>hk.block k h fun h=>h⟩,fun b hb=> .inl hb,dT.refl _ _⟩
 exact⟨hH.of ht (fun _=>False) (fun _ h=>h.elim) (fun id _=>⟨rfl,rfl,fun hl b hb=>hk.block b (hH.ours b ⟨id,hl,hb⟩).2 fun h=>h⟩) hH.fresh hH.apart (fun b hb=>Nat.lt_of_lt_of_le (hH.ours b hb).2 hk.size),ht⟩
theorem lh{Δ:List (Nat×ae)}(h:∀id∈Δ.map (·.1),H.us id):H.put Δ=⟨put H.o Δ,H.us⟩:=by
 unfold Hp.put
 congr 1
 funext id
 simp only[eq_iff_iff]
 exact⟨fun h'=>h'.elim (fun h=>h) (h id), .inl⟩
theorem nJ(o:Nat->ae)(ids:List Nat):(cQ o ids).map (·.1)=ids:=by
 rw[lT];simp[Function.comp_def]
structure Cx where
 base:List Deferred
 rd:Bool
def dP(ro:Option Nat):Fence:={fn:=fun _=>True,depth:=none,alive:=false,round:=ro}
def mark(r:Nat):Deferred:={target:= .collected r,args:=#[]}
def tu(cx:Cx)(w0:World)(φ:Place)(H:Hp)(w:World)(ds:List Deferred):Prop:=
 ∃ms:List Nat,ds=ms.map mark++cx.base/\ms.Nodup/\(cx.rd=true->ms=[])/\∀r∈ms,w0.heap.size<=r/\w.heap[r]? =some (.deferred (some []))/\ ¬bT φ H r
theorem tu.mono {cx:Cx}{w0:World}{φ aC:Place}{H H':Hp}{w w':World}{ds:List Deferred}(ht:Trans φ H w aC H' w')(h:tu cx w0 φ H w ds):tu cx w0 aC H' w' ds:=by
 obtain⟨ms,h1,h2,h3,h4⟩:=h
 refine⟨ms,h1,h2,h3,fun r hr=> ?_⟩
 obtain⟨g1,g2,g3⟩:=h4 r hr
 have bC:r<w.heap.size:=by
  rcases Nat.lt_or_ge r w.heap.size with hl|hl
  ·exact hl
  ·rw[Array.getElem?_eq_none hl]at g2;cases g2
 refine⟨g1,(ht.bY.block r bC g3).trans g2,fun hl=> ?_⟩
 rcases ht.grow r hl with h|h
 ·exact g3 h
 ·omega
structure cf (M:Nat->Prop) (cA:Place) (H0:Hp) (w0:World) (n:Nat) (cx:Cx) (φ:Place) (s:S) (a:Act) (w:World):Prop where
 heap:az M φ s.H w
 tr:Trans cA H0 w0 φ s.H w
 size:a.tmps.size=n
 defers:tu cx w0 φ s.H w a.defers
 env:∀i,V.den (ao M φ s.H) φ s.H w (s.env i) (a.tmps.getD i undef)
variable {cA:Place}{H0:Hp}{w0:World}{n:Nat}{s:S}{a:Act}{cx:Cx}{ro:Option Nat}{k:Nat}
theorem db{f:FuncId}{args:Array Value}{R:Ending->World->Prop}(h:Calls P f args w R):CallsIn (dP ro) k P f args w R:=
 ⟨trivial,fun cs _=>let⟨e,w',fr,r,s,x⟩:=h cs;⟨e,w',fr,r,comesIn_wide.2 s,x⟩⟩
theorem zG{f:FuncId}{args:Array Value}{R:Ending->World->Prop}(h:CallsIn (dP ro) k P f args w R):Calls P f args w R:=
 fun cs=>let⟨e,w',fr,r,s,x⟩:=h.2 cs (fun _ h=>by simp[dP]at h);⟨e,w',fr,r,comesIn_wide.1 s,x⟩
theorem ki{o:Oper}{next:Act->World->Prop}{Q:Exit->Act->World->Prop}(PW:∀c,o.op≠ .defer c)(h:o.uponIn (dP ro) k P a next Q ((execOp a.eval o).run P w)):o.wpIn (dP ro) k P a w next Q:=
 ⟨fun _ _=>trivial,by rw[Oper.semAt_eq _ _ _ PW];exact h⟩
theorem lZ(hs:cf M cA H0 w0 n cx φ s a w){aC:Place}{H':Hp}(hH:az M aC H' w')(ht:Trans φ s.H w aC H' w'){v:V}{val:Value}(hd:V.den (ao M aC H') aC H' w' v val){dst:Option Tmp}(cK:gA n dst)
 {o':Nat->ae} {nx':Nat} (ho:H'.o=o') (hu:∀id,H'.us id->id<nx'):cf M cA H0 w0 n cx aC ⟨a8 s.env dst v,o',nx'⟩ (a.put dst val) w':=by
 obtain⟨k1,k2⟩:=jf hH hu
 subst ho
 refine⟨k1,hs.tr.trans (ht.trans k2), ?_, ?_,fun i=> ?_⟩
 ·cases dst<;>simp[Act.put,hs.size]
 ·have:=hs.defers.mono (ht.trans k2);cases dst<;>exact this
 ·cases dst with
  |none=>exact V.aF (ht.trans k2) _ _ (hs.env i)
  |some d=>
   simp only[gA]at cK
   simp only[a8,aJ,Act.put]
   by_cases hi:i=d
   ·subst hi
    have h1:(a.tmps.setIfInBounds i val).getD i undef=val:=by simp[Array.getD,hs.size,cK]
    rw[if_pos rfl,h1]
    exact V.aF k2 _ _ hd
   ·have h1:(a.tmps.setIfInBounds d val).getD i undef=a.tmps.getD i undef:=by
     simp only[Array.getD_eq_getD_getElem?]
     rw[Array.getElem?_setIfInBounds_ne (Ne.symm hi)]
    rw[if_neg hi,h1]
    exact V.aF (ht.trans k2) _ _ (hs.env i)
theorem ej(hs:cf M cA H0 w0 n cx φ s a w){aC:Place}{H':Hp}(hH:az M aC H' w')(ht:Trans φ s.H w aC H' w'){o':Nat->ae}{nx':Nat}(ho:H'.o=o')(hu:∀id,H'.us id->id<nx'):
 cf M cA H0 w0 n cx aC ⟨s.env,o',nx'⟩ a w':=by
 obtain⟨k1,k2⟩:=jf hH hu
 subst ho
 exact⟨k1,hs.tr.trans (ht.trans k2),hs.size,hs.defers.mono (ht.trans k2),fun i=>V.aF (ht.trans k2) _ _ (hs.env i)⟩
theorem GQ{Δ:List (Nat×ae)}(h:∀id∈Δ.map (·.1),s.H.us id\/id=s.nx)(id:Nat)(hu:(s.H.put Δ).us id):id<s.nx+1:=by
 rcases hu with hu|hu
 ·exact Nat.lt_succ_of_lt hu
 ·rcases h id hu with h|h
  ·exact Nat.lt_succ_of_lt h
  ·omega
variable {next:Act->World->Prop}{Q:Exit->Act->World->Prop}{X:V->S->Prop}{K:S->Prop}
theorem GR(hs:cf M cA H0 w0 n cx φ s a w){o:Oper}{op:Op}(dD:o.op=op)(cK:gA n o.dst)(h:Ls P s s.nx op fun v Δ _=>K ⟨a8 s.env o.dst v,put s.o Δ,s.nx+1⟩)
 (hN:∀s' aC a' w',K s'->cf M cA H0 w0 n cx aC s' a' w'->next a' w'):o.wpIn (dP ro) k P a w next Q:=by
 obtain⟨nx,val,w',aC,v,Δ,rd,hK,hr,qE,g1,g2,g3,g4⟩:=vX hs.heap (s:=s) rfl hs.env (fr:=s.nx) (by simp[S.H]) dD h
 have pJ:=lZ hs g1 g2 g3 cK (o':=put s.o Δ) (nx':=s.nx+1) rfl (GQ g4)
 refine ki (fun c hc=>by rw[dD]at hc;subst hc;exact h) ?_
 rw[hr]
 rcases qE with rfl|⟨rfl,rfl⟩
 ·exact hN _ _ _ _ hK pJ
 ·exact hN _ _ _ _ hK pJ
theorem V.l0 {B:Nat->Prop}{cd bs cs:List V}{u v x:List Value}(h1:V.aE B φ H w cd u)(h2:V.aE B φ H w bs v)(h3:V.aE B φ H w cs x):V.aE B φ H w (cd++bs++cs) (u++v++x):=
 V.bq _ _ _ _ (V.bq _ _ _ _ h1 h2) h3
theorem lj{f:FuncId}(h:Enters P f)(args:Array Value):(callFunc f args).run P w= .ok (.enter f args) w:=by
 obtain⟨fn,h1,h2,h3⟩:=h
 have u6:fn.name≠ "runtime.NumGoroutine" :=by simpa using h2
 have vY:fn.body≠none:=fun h=>by rw[h]at h3;cases h3
 simp[callFunc,h1,u6,vY]
theorem jF:∀ {rs:List D} {val:Value},R.is (ao M φ H) w (.ret rs) (.returned val)->V.den (ao M φ H) φ H w (gS rs) val
 |[],_,h=>by obtain⟨arr,rfl,h⟩:=h;exact⟨arr,rfl,h⟩
 |[x],_,h=>h
 |x::y::l,_,h=>by obtain⟨arr,rfl,h⟩:=h;exact⟨arr,rfl,(V.cm (x::y::l) _).2 h⟩
theorem R.xB {B B':Nat->Prop}:∀ {out:R} {e:Ending},out.flat=true->out.is B w e->out.is B' w e
 | .ret [], .returned _,_,h=>by obtain⟨arr,rfl,h⟩:=h;exact⟨arr,rfl,h⟩
 | .ret [x], .returned _,hf,h=>by
   simp only[R.flat,D.jE,Bool.and_true]at hf
   exact D.pG x _ hf h
 | .ret (x::y::l), .returned _,hf,h=>by obtain⟨arr,rfl,h⟩:=h;exact⟨arr,rfl,D.lW (x::y::l) _ hf h⟩
 | .bG d, .panicked _,hf,h=>by obtain⟨v,rfl,h⟩:=h;exact⟨v,rfl,D.pG d v hf h⟩
 | .ret [], .panicked _,_,h| .ret [_], .panicked _,_,h| .ret (_::_::_), .panicked _,_,h| .ret [], .outgrown,_,h| .ret [_], .outgrown,_,h| .ret (_::_::_), .outgrown,_,h| .bG _, .returned _,_,h| .bG _, .outgrown,_,h=>h.elim
theorem R.GS {B B':Nat->Prop}{w':World}(hb:∀b,pj w' b-> ¬B b-> ¬B' b):∀ {out:R} {e:Ending},out.mO=true->out.is B w' e->out.is B' w' e
 | .ret [], .returned _,_,h=>by obtain⟨arr,rfl,h⟩:=h;exact⟨arr,rfl,h⟩
 | .ret [x], .returned _,hf,h=>by
   simp only[R.mO,D.lX,Bool.and_true]at hf
   exact D.lb (fun b hc hn=>⟨rfl,hb b hc hn⟩) x _ hf h
 | .ret (x::y::l), .returned _,hf,h=>by obtain⟨arr,rfl,h⟩:=h;exact⟨arr,rfl,D.mP (fun b hc hn=>⟨rfl,hb b hc hn⟩) (x::y::l) _ hf h⟩
 | .bG d, .panicked _,hf,h=>by obtain⟨v,rfl,h⟩:=h;exact⟨v,rfl,D.lb (fun b hc hn=>⟨rfl,hb b hc hn⟩) d v hf h⟩
 | .ret [], .panicked _,_,h| .ret [_], .panicked _,_,h| .ret (_::_::_), .panicked _,_,h| .ret [], .outgrown,_,h| .ret [_], .outgrown,_,h| .ret (_::_::_), .outgrown,_,h| .bG _, .returned _,_,h| .bG _, .outgrown,_,h=>h.elim
theorem GU(hH:az M φ H w){o:Nat->ae}:∀ (vs:List V) (vals:List Value),(∀id∈df o vs,H.o id=(o id).fz)->V.aE (ao M φ H) φ H w vs vals->V.aE (ao M φ H) φ H w (vs.map (GN o)) vals
 |[],_,_,h=>h
 |v::vs,_,ho,h=>by
  obtain⟨u,us,rfl,h1,h2⟩:=h
  refine⟨u,us,rfl, ?_,GU hH vs us (fun id ax=>ho id (by simp[df,ax])) h2⟩
  unfold GN
  split
  ·rename_i x hx
   exact eI hH v x u (fun id ax=>ho id (by simp[df,hx,ax])) hx h1
  ·exact h1
theorem gB:∀ (vs:List V) (vals:List Value) (o:Nat->ae),V.aE (ao M φ H) φ H w vs vals->∀id∈df o vs,H.us id
 |[],_,_,_,j,hj=>by simp[df]at hj
 |v::vs,_,o,h,j,hj=>by
  obtain⟨u,us,rfl,h1,h2⟩:=h
  simp only[df,List.mem_append]at hj
  rcases hj with hj|hj
  ·cases hx:dO o v with
   |none=>simp[hx]at hj
   |some x=>simp only[hx]at hj;exact cN v u h1 j hj
  ·exact gB vs us o h2 j hj
theorem vZ(hs:cf M cA H0 w0 n cx φ s a w){o:Oper}{g:FuncId}{all:List V}{vals:Array Value}(cK:gA n o.dst)(fg:Enters P g->(execOp a.eval o).run P w= .ok (.enter g vals) w)(aM:V.aE (ao M φ s.H) φ s.H w all vals.toList)
 (h:dX P g all s.o s.nx (fun v o' nx'=>K ⟨a8 s.env o.dst v,o',nx'⟩) (fun v o' nx'=>X v ⟨s.env,o',nx'⟩))
 (hN:∀s' aC a' w',K s'->cf M cA H0 w0 n cx aC s' a' w'->next a' w')
 (hQ:∀v s' aC w' val,X v s'->cf M cA H0 w0 n cx aC s' a w'->V.den (ao M aC s'.H) aC s'.H w' v val->Q (.panic [{v:=val,recovered:=false}]) a w'):o.uponIn (dP ro) k P a next Q ((execOp a.eval o).run P w):=by
 have eT:=h.2 M φ w vals hs.heap aM
 rw[fg h.1]
 refine⟨fun hd=>by simp[dP]at hd,db (eT.mono fun e w' ⟨aC,o',nx',v,k1,k2,k3⟩=> ?_)⟩
 cases e with
 |returned val=>exact hN _ _ _ _ k3.2 (lZ hs k1 k2 k3.1 cK rfl fun id hu=>hu)
 |panicked ch=>
  obtain⟨val,rfl,k4,k5⟩:=k3
  exact hQ _ _ _ _ val k5 (ej hs k1 k2 (o':=o') (nx':=nx') rfl fun id hu=>hu) k4
 |outgrown=>exact k3.elim
theorem zH(hs:cf M cA H0 w0 n cx φ s a w){o:Oper}{g:FuncId}{all:List V}{vals:Array Value}(cK:gA n o.dst)(fg:Enters P g->(execOp a.eval o).run P w= .ok (.enter g vals) w)(aM:V.aE (ao M φ s.H) φ s.H w all vals.toList)
 (h:tt P s g all (fun v o' nx'=>K ⟨a8 s.env o.dst v,o',nx'⟩) (fun v o' nx'=>X v ⟨s.env,o',nx'⟩))
 (hN:∀s' aC a' w',K s'->cf M cA H0 w0 n cx aC s' a' w'->next a' w')
 (hQ:∀v s' aC w' val,X v s'->cf M cA H0 w0 n cx aC s' a w'->V.den (ao M aC s'.H) aC s'.H w' v val->Q (.panic [{v:=val,recovered:=false}]) a w'):o.uponIn (dP ro) k P a next Q ((execOp a.eval o).run P w):=by
 unfold tt at h
 obtain⟨f1,f2,f3,f4,f5⟩:=cT hs.heap (V.bf all) (cC all _ aM)
 have kF:s.H.put (cQ s.H.o (V.bf all))=⟨put s.o (cQ s.o (V.bf all)),s.H.us⟩:=lh (by rw[nJ];exact cC all _ aM)
 have mR:=V.aI f2 _ _ aM
 rcases h with⟨ds,out,eP,hP,hK⟩|⟨ds,out,eP,hP,o9,hK⟩|⟨ds,out,eP,hP,Vv,hK⟩|hC|hC
 ·have vM:=dr f1 all ds _ f3 eP mR
  have hM:∀b,ao M φ (s.H.put (cQ s.H.o (V.bf all))) b->b<w.heap.size:=fun b hb=>hb.elim (f1.u5 b) fun hl=>(f1.ours b hl).2
  have eT:=hP.2 _ w vals hM vM
  rw[fg hP.1]
  refine⟨fun hd=>by simp[dP]at hd,db (eT.mono fun e w' ⟨hk,ho⟩=> ?_)⟩
  obtain⟨k1,k2⟩:=fh f1 hk
  cases out with
  |ret rs=>
   cases e with
   |returned val=>
    refine hN _ _ _ _ hK (lZ hs k1 (f2.trans k2) (jF ho) cK (by rw[kF]) ?_)
    intro id hu;rw[kF]at hu;exact Nat.lt_succ_of_lt hu
   |panicked ch=>cases rs with|nil=>exact ho.elim|cons x l=>cases l<;>exact ho.elim
   |outgrown=>cases rs with|nil=>exact ho.elim|cons x l=>cases l<;>exact ho.elim
  |bG x=>
   cases e with
   |returned val=>exact ho.elim
   |panicked ch=>
    obtain⟨val,rfl,hd⟩:=ho
    have pJ:=ej hs k1 (f2.trans k2) (o':=put s.o (cQ s.o (V.bf all))) (nx':=s.nx+1) (by rw[kF]) (fun id hu=>by rw[kF]at hu;exact Nat.lt_succ_of_lt hu)
    refine hQ _ _ _ _ val hK pJ ?_
    have e1:ao M φ (S.H ⟨s.env,put s.o (cQ s.o (V.bf all)),s.nx+1⟩)=ao M φ (s.H.put (cQ s.H.o (V.bf all))):=by rw[kF];rfl
    simp only[V.den]
    rw[e1];exact hd
   |outgrown=>exact ho.elim
 ·have vM:=dr f1 all ds _ f3 eP mR
  have hM:∀b,ao M φ (s.H.put (cQ s.H.o (V.bf all))) b->b<w.heap.size:=fun b hb=>hb.elim (f1.u5 b) fun hl=>(f1.ours b hl).2
  have eT:=hP.2 _ w vals hM vM
  rw[fg hP.1]
  refine⟨fun hd=>by simp[dP]at hd,db (eT.mono fun e w' ⟨hk,ho⟩=> ?_)⟩
  obtain⟨k1,k2⟩:=fh hs.heap hk
  have ho:=R.xB (B':=ao M φ s.H) o9 ho
  cases out with
  |ret rs=>
   cases e with
   |returned val=>
    exact hN _ _ _ _ hK (lZ hs k1 k2 (jF ho) cK rfl fun id hu=>Nat.lt_succ_of_lt hu)
   |panicked ch=>cases rs with|nil=>exact ho.elim|cons x l=>cases l<;>exact ho.elim
   |outgrown=>cases rs with|nil=>exact ho.elim|cons x l=>cases l<;>exact ho.elim
  |bG x=>
   cases e with
   |returned val=>exact ho.elim
   |panicked ch=>
    obtain⟨val,rfl,hd⟩:=ho
    exact hQ _ _ _ _ val hK (ej hs k1 k2 (o':=s.o) (nx':=s.nx+1) rfl fun id hu=>Nat.lt_succ_of_lt hu) hd
   |outgrown=>exact ho.elim
 ·obtain⟨a1,a2,a3,a4,a5⟩:=cT hs.heap ((V.bf all).filter fun id=>(s.o id).lg) (fun id ax=>cC all _ aM id (List.mem_filter.1 ax).1)
  have zI:s.H.put (cQ s.H.o ((V.bf all).filter fun id=>(s.o id).lg))=⟨put s.o (qs s.o (V.bf all)),s.H.us⟩:=by
   rw[Jz]
   exact lh (by rw[nJ];exact fun id ax=>cC all _ aM id (List.mem_filter.1 ax).1)
  have vM:=dr f1 all ds _ f3 eP mR
  have hM:∀b,ao M φ (s.H.put (cQ s.H.o (V.bf all))) b->b<w.heap.size:=fun b hb=>hb.elim (f1.u5 b) fun hl=>(f1.ours b hl).2
  have eT:=hP.2 _ w vals hM vM
  rw[fg hP.1]
  refine⟨fun hd=>by simp[dP]at hd,db (eT.mono fun e w' ⟨hk,ho⟩=> ?_)⟩
  obtain⟨k1,k2⟩:=fh a1 hk
  have eN:∀b,pj w' b-> ¬ao M φ (s.H.put (cQ s.H.o (V.bf all))) b-> ¬ao M φ (s.H.put (cQ s.H.o ((V.bf all).filter fun id=>(s.o id).lg))) b:=by
   intro b hc hn hm
   rcases hm with hM|⟨id,hl,hb⟩
   ·exact hn (.inl hM)
   ·by_cases ax:id∈V.bf all
    ·cases hx:s.H.o id with
     |arr ep ty sz es=>
      rw[a3 id (List.mem_filter.2 ⟨ax,by show(s.H.o id).lg=true;rw[hx];rfl⟩),hx]at hl
      cases hl
     |map kt vt l=>
      have jZ:id∉(V.bf all).filter fun id=>(s.o id).lg:=fun h=>by
       have h2:(s.H.o id).lg=true:=(List.mem_filter.1 h).2
       rw[hx]at h2;cases h2
      have bA:=k1.ok id
      unfold aK at bA
      rw[a4 id jZ,hx]at bA
      obtain⟨b',es,clock,g1,g2,_⟩:=bA
      rw[g1]at hb
      injection hb with hb
      subst hb
      obtain⟨cs,ty,fz,hc⟩:=hc
      rw[g2]at hc
      cases hc
     |_=>
      have jZ:id∉(V.bf all).filter fun id=>(s.o id).lg:=fun h=>by
       have h2:(s.H.o id).lg=true:=(List.mem_filter.1 h).2
       rw[hx]at h2;cases h2
      refine hn (.inr ⟨id, ?_,hb⟩)
      rw[a4 id jZ,hx]at hl
      rw[f3 id ax,hx]
      exact hl
    ·have jZ:id∉(V.bf all).filter fun id=>(s.o id).lg:=fun h=>ax (List.mem_filter.1 h).1
     refine hn (.inr ⟨id, ?_,hb⟩)
     rw[a4 id jZ]at hl
     rw[f4 id ax]
     exact hl
  have ho:=R.GS (w':=w') (B':=ao M φ (s.H.put (cQ s.H.o ((V.bf all).filter fun id=>(s.o id).lg)))) eN Vv ho
  cases out with
  |ret rs=>
   cases e with
   |returned val=>
    refine hN _ _ _ _ hK (lZ hs k1 (a2.trans k2) (jF ho) cK (by rw[zI]) ?_)
    intro id hu;rw[zI]at hu;exact Nat.lt_succ_of_lt hu
   |panicked ch=>cases rs with|nil=>exact ho.elim|cons x l=>cases l<;>exact ho.elim
   |outgrown=>cases rs with|nil=>exact ho.elim|cons x l=>cases l<;>exact ho.elim
  |bG x=>
   cases e with
   |returned val=>exact ho.elim
   |panicked ch=>
    obtain⟨val,rfl,hd⟩:=ho
    have pJ:=ej hs k1 (a2.trans k2) (o':=put s.o (qs s.o (V.bf all))) (nx':=s.nx+1) (by rw[zI]) (fun id hu=>by rw[zI]at hu;exact Nat.lt_succ_of_lt hu)
    refine hQ _ _ _ _ val hK pJ ?_
    have e1:ao M φ (S.H ⟨s.env,put s.o (qs s.o (V.bf all)),s.nx+1⟩)=ao M φ (s.H.put (cQ s.H.o ((V.bf all).filter fun id=>(s.o id).lg))):=by rw[zI];rfl
    simp only[V.den]
    rw[e1];exact hd
   |outgrown=>exact ho.elim
 ·exact vZ hs cK fg aM hC hN hQ
 ·obtain⟨f1,f2,f3,f4,f5⟩:=cT hs.heap (df s.o all) (gB all _ s.o aM)
  have kF:s.H.put (cQ s.H.o (df s.o all))=hp (put s.o (cQ s.o (df s.o all))) s.nx:=lh (by rw[nJ];exact gB all _ s.o aM)
  have mR:=GU f1 all _ f3 (V.aI f2 _ _ aM)
  rw[kF]at f1 f2 mR
  exact vZ (s:=⟨s.env,put s.o (cQ s.o (df s.o all)),s.nx⟩) (ej hs f1 f2 rfl fun id hu=>hu) cK fg mR hC hN hQ
theorem JA(hs:cf M cA H0 w0 n cx φ s a w){o:Oper}{c:Call}{f:Operand}(dD:o.op= .call c)(hc:c.callee= .value f)(cK:gA n o.dst)
 (h:zF P s (s.ev f) (c.args.toList.map s.ev) (fun v o' nx'=>K ⟨a8 s.env o.dst v,o',nx'⟩) (fun v o' nx'=>X v ⟨s.env,o',nx'⟩))
 (hN:∀s' aC a' w',K s'->cf M cA H0 w0 n cx aC s' a' w'->next a' w')
 (hQ:∀v s' aC w' val,X v s'->cf M cA H0 w0 n cx aC s' a w'->V.den (ao M aC s'.H) aC s'.H w' v val->Q (.panic [{v:=val,recovered:=false}]) a w'):o.wpIn (dP ro) k P a w next Q:=by
 refine ki (fun c' zJ=>by rw[dD]at zJ;cases zJ) ?_
 have hf:=mJ (M:=M) (φ:=φ) (H:=s.H) (w:=w) s a hs.env f
 have ei:=j8 (M:=M) (φ:=φ) (H:=s.H) (w:=w) s a hs.env c.args.toList
 unfold zF at h
 split at h
 ·rename_i g first cap tw
  rw[tw]at hf
  obtain⟨fa,ca,Nt,BZ,Rm⟩:=hf
  have aM:V.aE (ao M φ s.H) φ s.H w (first++c.args.toList.map s.ev++cap) (fa++c.args.map a.eval++ca).toList:=by
   rw[Array.toList_append,Array.toList_append,Array.toList_map]
   exact V.l0 BZ ei Rm
  generalize first++c.args.toList.map s.ev++cap=all at h aM
  generalize kj:fa++c.args.map a.eval++ca=vals at aM
  have fg:Enters P g->(execOp a.eval o).run P w= .ok (.enter g vals) w:=by
   intro he
   have:=lj (w:=w) he (fa++c.args.map a.eval++ca)
   rw[kj]at this
   simp[execOp,dD,resolve,hc,Nt,Deferred.ofValue,invoke,this,kj]
  exact zH hs cK fg aM h hN hQ
 ·rename_i id tw
  rw[tw]at hf
  obtain⟨_,dA,GV⟩:=hf
  obtain⟨br,hR⟩:=h
  obtain⟨b,dq,Nt⟩:=GV br
  obtain⟨fn,tmps,assign,body,h1,h2⟩:=hR M φ w (c.args.map a.eval) b hs.heap (by rw[Array.toList_map];exact ei) dq
  have fg:(execOp a.eval o).run P w= .ok (.round b fn tmps assign body) w:=by
   simp[execOp,dD,resolve,hc,Nt,Deferred.ofValue,invoke,h1]
  rw[fg]
  refine⟨fun hd=>by simp[dP]at hd,RoundIn.mono (h2 (k - 1)) fun e w' ⟨aC,o',nx',v,k1,k2,k3⟩=> ?_⟩
  cases e with
  |returned val=>exact hN _ _ _ _ k3.2 (lZ hs k1 k2 k3.1 cK rfl fun id hu=>hu)
  |panicked ch=>
   obtain⟨val,rfl,k4,k5⟩:=k3
   exact hQ _ _ _ _ val k5 (ej hs k1 k2 (o':=o') (nx':=nx') rfl fun id hu=>hu) k4
  |outgrown=>exact k3.elim
 ·exact h.elim
theorem E1(hs:cf M cA H0 w0 n cx φ s a w){o:Oper}{c:Call}{r:Operand}{m:String}{g:FuncId}{y:V}(dD:o.op= .call c)(hc:c.callee= .invoke r m)(cK:gA n o.dst)(hr:rC P m (s.ev r)=some (g,y))
 (h:tt P s g (y::c.args.toList.map s.ev) (fun v o' nx'=>K ⟨a8 s.env o.dst v,o',nx'⟩) (fun v o' nx'=>X v ⟨s.env,o',nx'⟩))
 (hN:∀s' aC a' w',K s'->cf M cA H0 w0 n cx aC s' a' w'->next a' w')
 (hQ:∀v s' aC w' val,X v s'->cf M cA H0 w0 n cx aC s' a w'->V.den (ao M aC s'.H) aC s'.H w' v val->Q (.panic [{v:=val,recovered:=false}]) a w'):o.wpIn (dP ro) k P a w next Q:=by
 refine ki (fun c' zJ=>by rw[dD]at zJ;cases zJ) ?_
 have hf:=mJ (M:=M) (φ:=φ) (H:=s.H) (w:=w) s a hs.env r
 have ei:=j8 (M:=M) (φ:=φ) (H:=s.H) (w:=w) s a hs.env c.args.toList
 unfold rC at hr
 split at hr
 ·rename_i t d hx
  rw[hx]at hf
  obtain⟨val,hv,hd⟩:=hf
  split at hr
  ·rename_i ti hti
   split at hr
   ·rename_i mr tz
    split at hr
    ·rename_i f E2
     split at hr
     ·rename_i LG
      injection hr with hr
      injection hr with h1 h2
      subst h1;subst h2
      refine zH (vals:=#[val]++c.args.map a.eval) hs cK ?_ ?_ h hN hQ
      ·intro he
       have fg:=lj (w:=w) he (#[val]++c.args.map a.eval)
       have hpa:mr.path=#[]:=Array.isEmpty_iff.1 LG.1
       have hu:∃u,P.underlying t=some u/\∀e,u≠ .pointer e:=by
        have:=LG.2
        unfold LF at this
        split at this
        ·cases this
        ·rename_i u gv hu;exact⟨u,hu,fun e he=>gv e he⟩
        ·cases this
       obtain⟨u,hu,LH⟩:=hu
       have hm:(method (P.types.size+Made.depth) t val m).run P w= .ok (f,val) w:=by
        have:P.types.size+Made.depth=(P.types.size+Made.depth - 1)+1:=by simp[Made.depth]
        rw[this]
        cases u<;>first|exact absurd rfl (LH _)|simp[method,typeInfo,hti,tz,hpa,E2,follow,receiverAt,run_underlying hu,_root_.Go.Place.get]
       have h0:(#[Value.iface t val]++Array.map a.eval c.args)[0]? =some (.iface t val):=by
        rw[Array.getElem?_append_left (by simp)];rfl
       have h1:(Array.map a.eval c.args).extract 0 c.args.size=Array.map a.eval c.args:=by
        rw[show c.args.size=(Array.map a.eval c.args).size from by simp,Array.extract_size]
       simp[execOp,dD,resolve,hc,invoke,callMethod,hv,h0,h1,hm,fg]
      ·simp only[Array.toList_append,Array.toList_map]
       exact⟨val,_,rfl,hd,ei⟩
     ·cases hr
    ·cases hr
   ·cases hr
  ·cases hr
 ·cases hr
theorem wc(hs:cf M cA H0 w0 n cx φ s a w){o:Oper}(h:Ww P n s o X K)
 (hN:∀s' aC a' w',K s'->cf M cA H0 w0 n cx aC s' a' w'->next a' w')
 (hQ:∀v s' aC w' val,X v s'->cf M cA H0 w0 n cx aC s' a w'->V.den (ao M aC s'.H) aC s'.H w' v val->Q (.panic [{v:=val,recovered:=false}]) a w'):o.wpIn (dP ro) k P a w next Q:=by
 obtain⟨cK,h⟩:=h
 split at h
 ·rename_i c dD
  split at h
  ·rename_i f hc
   exact JA hs dD hc cK h hN hQ
  ·rename_i r m hc
   split at h
   ·rename_i g y hr;exact E1 hs dD hc cK hr h hN hQ
   ·exact h.elim
  ·exact GR hs rfl cK h hN
 ·rename_i x dD
  have hx:=mJ (M:=M) (φ:=φ) (H:=s.H) (w:=w) s a hs.env x
  have bG:∀ (t:TypeId) (u:Value),a.eval x= .iface t u->Q (.panic [{v:= .iface t u,recovered:=false}]) a w->o.wpIn (dP ro) k P a w next Q:=by
   intro t u hu hq
   refine ki (fun c hc=>by rw[dD]at hc;cases hc) ?_
   have hr:(execOp a.eval o).run P w= .halt (.panic (.iface t u)) w:=by simp[execOp,dD,hu,Instr.panic]
   rw[hr];exact hq
  split at h
  ·rename_i t y hv
   rw[hv]at hx
   obtain⟨u,hu,hd⟩:=hx
   exact bG t u hu (hQ _ s φ w (.iface t u) h hs ⟨u,rfl,hd⟩)
  ·rename_i t y hv
   rw[hv]at hx
   obtain⟨u,hu,hd⟩:=hx
   exact bG t u hu (hQ _ s φ w (.iface t u) h hs ⟨u,rfl,hd⟩)
  ·exact h.elim
 ·exact GR hs rfl cK h hN
end
end Go.Proofs.YtealblliddhgiaaGreat
namespace Go
def Code.tA (P:Program)(ro:Option Nat)(c:Code)(Q:Exit->Act->World->Prop)(a:Act)(w:World):Prop:=
 ∀ (b:Frame) (k:List Item) (cs:List Frame),b.roundOf=ro->b.fn<P.funcs.size->
   ∃e a' w',Q e a' w'/\ArrivesIn (Machine.fenced P (Proofs.YtealblliddhgiaaGreat.dP ro)) P (lone (b.atR a (.code c::k)) cs w) b k cs e a' w'
end Go
namespace Go.Proofs.YtealblliddhgiaaGreat
instance:LawfulMonad Sem:=LawfulMonad.mk' Sem (id_map:=fun x=>Sem.bind_pure' x) (pure_bind:=fun _ _=>rfl) (bind_assoc:=fun x f g=>Sem.bind_assoc' x f g)
section
variable {P:Program}{M:Nat->Prop}{φ:Place}{H:Hp}{w w':World}{cA:Place}{H0:Hp}{w0:World}{n b:Nat}{s:S}{a:Act}{cx:Cx}{ro:Option Nat}{k:Nat}
theorem pK(hs:cf M cA H0 w0 n cx φ s a w){ops:Array Oper}{o:Oper}{A B:Prop}(h:xz s ops o.guard A B):
 (Region.wanted o (yielded ops a.tmps)=true->A)/\(Region.wanted o (yielded ops a.tmps)=false->B):=by
 unfold xz at h
 unfold Region.wanted
 split at h
 ·rename_i hg;simp only[hg];exact⟨fun _=>h,fun h=>by cases h⟩
 ·rename_i j want hg
  simp only[hg]
  unfold rn at h
  unfold yielded
  split at h
  ·rename_i d hd
   simp only[hd,Option.bind_some]
   have dC:=hs.env d
   split at h
   ·rename_i c hv
    rw[hv]at dC
    simp only[V.den,D.den]at dC
    have:a.tmps[d]? =some (.bool c):=by
     rw[Array.getD_eq_getD_getElem?]at dC
     cases hx:a.tmps[d]? with
     |none=>rw[hx]at dC;simp[undef]at dC
     |some x=>rw[hx]at dC;simp at dC;rw[dC]
    simp only[this]
    by_cases hc:c=want
    ·subst hc;exact⟨fun _=>h.1 rfl,fun h=>by simp at h⟩
    ·exact⟨fun h'=>absurd (by simpa using h') hc,fun _=>h.2 hc⟩
   ·rename_i hv
    rw[hv]at dC
    obtain⟨arr,cF,hn⟩:=dC
    simp only[V.aE]at hn
    have:∀c,a.tmps[d]? ≠some (.bool c):=by
     intro c hx
     rw[Array.getD_eq_getD_getElem?,hx]at cF
     simp at cF
    cases hx:a.tmps[d]? with
    |none=>exact⟨fun h=>by simp at h,fun _=>h⟩
    |some x=>cases x<;>first|(exact absurd hx (this _))|(exact⟨fun h=>by simp at h,fun _=>h⟩)
   ·exact h.elim
  ·rename_i hd
   simp only[hd,Option.bind_none]
   exact⟨fun h=>by simp at h,fun _=>h⟩
theorem zK(hs:cf M cA H0 w0 n cx φ s a w){dst:Option Tmp}(cK:gA n dst):cf M cA H0 w0 n cx φ ⟨a8 s.env dst (.bS []),s.o,s.nx+1⟩ (a.put dst undef) w:=
 lZ (v:= .bS []) (val:=undef) hs hs.heap (Trans.refl _ _ _) ⟨#[],rfl,rfl⟩ cK rfl fun _ hu=>Nat.lt_succ_of_lt hu
theorem oH{ops:Array Oper}{X:V->S->Prop}{K:S->Prop}{Q:Exit->Act->World->Prop}
 (hK:∀s φ a w,K s->cf M cA H0 w0 n cx φ s a w->Q .normal a w)
 (hQ:∀v s' aC a w' val,X v s'->cf M cA H0 w0 n cx aC s' a w'->V.den (ao M aC s'.H) aC s'.H w' v val->Q (.panic [{v:=val,recovered:=false}]) a w'):
 ∀ (l:List Oper) (s:S) (φ:Place) (a:Act) (w:World),xA P n ops X K l s->cf M cA H0 w0 n cx φ s a w->wpListIn (dP ro) k P ops Q l a w
 |[],s,φ,a,w,h,hs=>hK s φ a w h hs
 |o::l,s,φ,a,w,h,hs=>by
  obtain⟨h1,h2⟩:=pK hs h
  unfold wpListIn
  split
  ·rename_i hw
   exact wc hs (h1 hw) (fun s' aC a' w' hk iW=>oH hK hQ l s' aC a' w' hk iW) (fun v s' aC w' val hx iW hd=>hQ v s' aC a w' val hx iW hd)
  ·rename_i hw
   obtain⟨cK,h3⟩:=h2 (by simpa using hw)
   exact⟨fun _ _=>trivial,oH hK hQ l _ _ _ _ h3 (zK hs cK)⟩
def Ds(M:Nat->Prop)(cA:Place)(H0:Hp)(w0:World)(n:Nat)(cx:Cx)(Q:fy->S->Prop)(e:Exit)(a:Act)(w:World):Prop:=
 ∃x s φ,Q x s/\cf M cA H0 w0 n cx φ s a w/\match e,x with
  | .normal, .normal=>True
  | .exit i, .exit j=>i=j
  | .ret, .ret=>True
  | .panic ch, .bG v=>∃val,ch=[{v:=val,recovered:=false}]/\V.den (ao M φ s.H) φ s.H w v val
  |_,_=>False
section
variable {Q:Exit->Act->World->Prop}
theorem gC{m:Nat}:(dP ro).room m:=fun d hd=>by simp[dP]at hd
theorem oI{c:Code}(h:c.wpIn (dP ro) k P Q a w):c.tA P ro Q a w:=fun b k cs tz _=>h b k cs tz trivial gC
theorem gD{c:Code}{Q':Exit->Act->World->Prop}(h:c.tA P ro Q a w)(hq:∀e a w,Q e a w->Q' e a w):c.tA P ro Q' a w:=
 fun b k cs tz hb=>let⟨e,a',w',q,r⟩:=h b k cs tz hb;⟨e,a',w',hq _ _ _ q,r⟩
theorem Dt(h:Q .ret a w):Code.ret.tA P ro Q a w:=oI (k:=0) (wpIn_ret h)
theorem zL{id:Nat}(h:Q (.exit id) a w):(Code.exit id).tA P ro Q a w:=oI (k:=0) (wpIn_exit h)
theorem xC{x y:Code}(h:x.tA P ro (Exit.then (y.tA P ro Q) Q) a w):(Code.seq x y).tA P ro Q a w:=by
 intro b k cs tz hb
 have h0:(lone (b.atR a (.code (.seq x y)::k)) cs w).fenced P (dP ro):=fenced_calm (n:=0) trivial gC rfl
 obtain⟨e,jg,fR,hq,cF⟩:=h b (.code y::k) cs tz hb
 cases e with
 |normal=>
  obtain⟨Nu,Rn,qF,pL,kn⟩:=hq b k cs tz hb
  exact⟨Nu,Rn,qF,pL, .of_steps (.head h0 stepR_seq cF) kn⟩
 |exit id=>exact⟨_,jg,fR,hq, .of_steps (.one h0 stepR_seq) (.pass (x:= .code y) rfl (fun _ _=> .inl (by simp)) cF)⟩
 |goto l=>exact⟨_,jg,fR,hq, .of_steps (.one h0 stepR_seq) (.pass (x:= .code y) rfl (fun _ _=> .inl (by simp)) cF)⟩
 |ret=>exact⟨_,jg,fR,hq, .of_steps (.one h0 stepR_seq) (.pass (x:= .code y) rfl (fun _ _=> .inl (by simp)) cF)⟩
 |panic ch=>exact⟨_,jg,fR,hq, .of_steps (.one h0 stepR_seq) (.pass (x:= .code y) rfl (fun _ _=> .inl (by simp)) cF)⟩
 |outgrown=>exact⟨_,jg,fR,hq, .of_steps (.one h0 stepR_seq) (.pass (x:= .code y) rfl (fun _ _=> .inl (by simp)) cF)⟩
theorem pM{c:Operand}{x y:Code}{t:Bool}(hc:a.eval c= .bool t)(h:(if t then x else y).tA P ro Q a w):(Code.cond c x y).tA P ro Q a w:=
 fun b k cs tz hb=>let⟨e,a',w',q,r⟩:=h b k cs tz hb;⟨e,a',w',q, .of_steps (.one (fenced_calm (n:=0) trivial gC rfl) (stepR_cond hc)) r⟩
theorem E3{id:Nat}{c:Code}(h:c.tA P ro (Exit.inBlock id Q) a w):(Code.block id c).tA P ro Q a w:=by
 intro b k cs tz hb
 have h0:(lone (b.atR a (.code (.block id c)::k)) cs w).fenced P (dP ro):=fenced_calm (n:=0) trivial gC rfl
 obtain⟨e,jg,fR,hq,cF⟩:=h b (.inBlock id::k) cs tz hb
 cases e with
 |normal=>exact⟨.normal,jg,fR,hq, .head h0 stepR_block (StepsIn.trans cF (.one (fenced_calm (n:=0) trivial gC rfl) stepR_inBlock))⟩
 |exit cO=>
  by_cases ax:cO=id
  ·simp only[Exit.inBlock,ax,if_true]at hq
   exact⟨.normal,jg,fR,hq, .head h0 stepR_block (cF.1 k (by simp[exitTo,ax]))⟩
  ·simp only[Exit.inBlock,ax,if_false]at hq
   have this:(id==cO)=false:=by simp;exact fun h=>ax h.symm
   have hx:exitTo cO (.inBlock id::k)=exitTo cO k:=by simp[exitTo,this]
   exact⟨.exit cO,jg,fR,hq,fun k' hk=> .head h0 stepR_block (cF.1 k' (by rw[hx];exact hk)),
    fun EY hk=>let⟨k₁,h1,h2⟩:=cF.2 EY (by rw[hx];exact hk);⟨k₁,h1, .head h0 stepR_block h2⟩⟩
 |goto l=>
  have hx:gotoIn l (.inBlock id::k)=gotoIn l k:=by simp[gotoIn]
  exact⟨_,jg,fR,hq,fun k' hk=> .head h0 stepR_block (cF.1 k' (by rw[hx];exact hk)),
   fun EY hk=>let⟨k₁,h1,h2⟩:=cF.2 EY (by rw[hx];exact hk);⟨k₁,h1, .head h0 stepR_block h2⟩⟩
 |ret=>exact⟨_,jg,fR,hq, .of_steps (.one h0 stepR_block) cF⟩
 |panic ch=>exact⟨_,jg,fR,hq, .of_steps (.one h0 stepR_block) cF⟩
 |outgrown=>exact⟨_,jg,fR,hq, .of_steps (.one h0 stepR_block) cF⟩
theorem fY{b:Frame}{k:List Item}{cs:List Frame}{c:Code}:step P (lone (b.atR a (.code (.scope c)::k)) cs w)= .next (lone (b.atR a (.code c:: .inScope c::k)) cs w):=
 step_lone_go (by simp[stepG,stepG.exec,Frame.atR])
theorem vq{b:Frame}{k:List Item}{cs:List Frame}{c:Code}:step P (lone (b.atR a (.inScope c::k)) cs w)= .next (lone (b.atR a k) cs w):=
 step_lone_go (by simp[stepG,stepG.exec,Frame.atR])
theorem E4{c:Code}(h:c.tA P ro Q a w)(hg:∀l a w, ¬Q (.goto l) a w):(Code.scope c).tA P ro Q a w:=by
 intro b k cs tz hb
 have h0:(lone (b.atR a (.code (.scope c)::k)) cs w).fenced P (dP ro):=fenced_calm (n:=0) trivial gC rfl
 obtain⟨e,jg,fR,hq,cF⟩:=h b (.inScope c::k) cs tz hb
 cases e with
 |normal=>exact⟨.normal,jg,fR,hq, .head h0 fY (StepsIn.trans cF (.one (fenced_calm (n:=0) trivial gC rfl) vq))⟩
 |exit cO=>
  have hx:exitTo cO (.inScope c::k)=exitTo cO k:=by simp[exitTo]
  exact⟨.exit cO,jg,fR,hq,fun k' hk=> .head h0 fY (cF.1 k' (by rw[hx];exact hk)),
   fun EY hk=>let⟨k₁,h1,h2⟩:=cF.2 EY (by rw[hx];exact hk);⟨k₁,h1, .head h0 fY h2⟩⟩
 |goto l=>exact(hg _ _ _ hq).elim
 |ret=>exact⟨_,jg,fR,hq, .of_steps (.one h0 fY) cF⟩
 |panic ch=>exact⟨_,jg,fR,hq, .of_steps (.one h0 fY) cF⟩
 |outgrown=>exact⟨_,jg,fR,hq, .of_steps (.one h0 fY) cF⟩
def tC(P:Program)(l:Nat)(Q:Exit->Act->World->Prop)(a':Act):Ending->World->Prop
 | .returned _,Ca=>∃jump rZ,(Instr.endLoop l).run P Ca= .ok jump rZ/\(match jump with|none=>Q .normal a' rZ|some c=>c.tA P none Q a' rZ)
 | .panicked chain,Ca=>Q (.panic chain) a' Ca
 | .outgrown,_=>LetsOut Q
theorem vr{g:Operand}{ps:Array Tmp}{assign body:Code}
 (h:∀fn,fn<P.funcs.size->∃ (l:Nat) (mark:List Deferred) (fR:World) (d:Deferred) (we:World) (f:FuncId) (args:Array Value) (qF:World),
  (Instr.enterLoop fn a.tmps ps assign body (dP none).round).run P w= .ok (l,mark) fR/\(resolve a.eval (rangeCall g l) 0).run P fR= .ok d we/\
  (invoke d.target d.args).run P we= .ok (.enter f args) qF/\CallsIn (dP none) 0 P f args qF (tC P l Q {a with defers:=mark++a.defers})):
 (Code.rangeFunc g ps assign body).tA P none Q a w:=by
 intro b k cs tz hb
 obtain⟨l,mark,fR,d,we,f,args,qF,he,sa,hinv,hF,eT⟩:=h b.fn hb
 rw[show(dP none).round=b.roundOf from tz.symm]at he
 have calm:∀ (m:Machine),m.fenced P (dP none)↔m.fenced P Fence.wide:=fun m=>Iff.rfl
 have h0:(lone (b.atR a (.code (.rangeFunc g ps assign body)::k)) cs w).fenced P (dP none):=(calm _).2 (fenced_wide P _)
 have l4:=stepR_rangeFunc (P:=P) (b:=b) (a:=a) (k:=k) (cs:=cs) (w:=w) he sa hinv
 obtain⟨e,Ca,fr,hR,Cb,E2,GW⟩:=eT (b.atR {a with defers:=mark++a.defers} (.inRangeFunc l::k)::cs) gC
 cases e with
 |outgrown=>
  obtain⟨Wx,Wy,hq⟩:=hR
  exact⟨.outgrown,Wx,Wy,hq, .inr (Outgrown.of_steps (.one l4) Cb)⟩
 |returned v=>
  obtain⟨jump,rZ,fD,hj⟩:=hR
  have LI:StepsIn (Machine.fenced P (dP none)) P (lone (b.atR a (.code (.rangeFunc g ps assign body)::k)) cs w) (lone (b.atR {a with defers:=mark++a.defers} ((jump.map Item.code).toList++k)) cs rZ):=by
   refine .head h0 l4 (StepsIn.trans Cb (.head ((calm _).2 (fenced_wide P _)) ?_ (.one ((calm _).2 (fenced_wide P _)) (stepR_endRangeFunc fD))))
   rw[<- finish_atR_inRangeFunc l v];exact step_leave_returned GW
  cases jump with
  |none=>exact⟨.normal,_,rZ,hj,LI⟩
  |some c=>
   obtain⟨e',a'',Wz,hq,cF⟩:=hj b k cs tz hb
   exact⟨e',a'',Wz,hq, .of_steps LI cF⟩
 |panicked chain=>
  refine⟨.panic chain,_,Ca,hR, .inRangeFunc l::k, .head h0 l4 (StepsIn.trans Cb (.one ((calm _).2 (fenced_wide P _)) ?_))⟩
  rw[<- Frame.raise_atR];exact step_leave_panicked GW
end
theorem wg(hH:az M φ H w){id l:Nat}(dA:H.us id){nf m:Nat}{env:List V}{ps:List Nat}{kX fO:IC}{st st':LoopState}{pd pd':Option kR}(ho:H.o id= .loop nf m env ps kX fO st pd)(dq:φ id= .pointer (some ⟨l,0,none⟩)):
 ∃r,w.heap[l]? =some (.loop r)/\r.state=st/\r.pending=pd.map kR.code/\
  az M φ (H.put [(id, .loop nf m env ps kX fO st' pd')]) {w with heap:=w.heap.setIfInBounds l (.loop {r with state:=st',pending:=pd'.map kR.code})}/\
  Trans φ H w φ (H.put [(id, .loop nf m env ps kX fO st' pd')]) {w with heap:=w.heap.setIfInBounds l (.loop {r with state:=st',pending:=pd'.map kR.code})}:=by
 have bA:=hH.ok id
 simp only[aK,ho]at bA
 obtain⟨b,r,h1,h2,h0,h3,h4,h5,h6,h7,h8,h9⟩:=bA
 rw[dq]at h1;simp at h1;subst h1
 refine⟨r,h2,h3,h4, ?_⟩
 have GG:eM (· =l) w {w with heap:=w.heap.setIfInBounds l (.loop {r with state:=st',pending:=pd'.map kR.code})}:=
  ⟨rfl,rfl,rfl,by simp,fun j _ hj=>(MapKept.heap_set h2).2 j hj⟩
 have qn:(H.o id).live=true:=by rw[ho];rfl
 have sE:dN (φ id)=some l:=by rw[dq];rfl
 have ht:=eS (w:=w) (w':={w with heap:=w.heap.setIfInBounds l (.loop {r with state:=st',pending:=pd'.map kR.code})}) dA qn sE GG (.loop nf m env ps kX fO st' pd') (by rw[ho];rfl) (by rw[ho];rfl)
 refine⟨gZ hH dA qn sE GG _ (by rw[ho];rfl) (by rw[ho];rfl) ?_,ht⟩
 unfold aK
 simp only[bF,aJ,if_true]
 exact⟨l,_,dq,(MapKept.heap_set h2).1,h0,rfl,rfl,h5,h6,h7,h8,fun i=>V.aF ht _ _ (h9 i)⟩
theorem iX{l:Nat}{r:Loop}(o:Obj)(hb:w.heap[l]? =some (.loop r)):(setObj l o).run P w= .ok () {w with heap:=w.heap.setIfInBounds l o}:=by
 simp[setObj,Sem.run,hb]
theorem ko{l:Nat}{r:Loop}(hb:w.heap[l]? =some (.loop r)):(Instr.getLoop l).run P w= .ok r w:=by
 simp[Instr.getLoop,getObj,Sem.run,hb,Result.andThen]
end
def vu(Q:fy->S->Prop)(pd:Option kR)(s:S):Prop:=
 match pd with
 |none=>Q .normal s
 |some .ret=>Q .ret s
 |some (.exit id)=>Q (.exit id) s
def zM(P:Program)(n:Nat)(g:V)(ps:List Nat)(kX fO:IC)(Q:fy->S->Prop)(s:S):Prop:=
 ∃env,(∀i,bw env i= .ab\/bw env i=s.env i)/\
  match g with
  | .func (.func f) first cap=>mQ P f (first++[.kV s.nx]++cap) (ak s.o s.nx (.loop P.funcs.size n env ps kX fO .ready none)) (s.nx+1)
    (fun _ o' nx'=>∃nf m e p c d st pd,o' s.nx= .loop nf m e p c d st pd/\st≠ .busy/\vu Q pd ⟨s.env,ak o' s.nx (.loop nf m e p c d .exhausted pd),nx'⟩)
    (fun v o' nx'=>Q (.bG v) ⟨s.env,o',nx'⟩)
  |_=>False
def jb(P:Program)(n b:Nat)(rd:Bool):Code->(fy->S->Prop)->S->Prop
 | .skip,Q,s=>Q .normal s
 | .label _,Q,s=>Q .normal s
 | .scope x,Q,s=>jb P n b rd x Q s
 | .region _ ops false,Q,s=>xA P n ops (fun v s=>Q (.bG v) s) (Q .normal) ops.toList s
 | .region id ops true,Q,s=>∀M cA H0 w0 cx φ a w ro k,cf M cA H0 w0 n cx φ s a w->(Code.region id ops true).wpIn (dP ro) k P (Ds M cA H0 w0 n cx Q) a w
 | .seq x y,Q,s=>jb P n b rd x (pI (jb P n b rd y Q) Q) s
 | .cond c x y,Q,s=>match s.ev c with
   | .d (.bool t)=>(t=true->jb P n b rd x Q s)/\(t=false->jb P n b rd y Q s)
   | .eZ=>jb P n b rd x Q s/\jb P n b rd y Q s
   |_=>False
 | .block id x,Q,s=>jb P n b rd x (ft id Q) s
 | .loop x,Q,s=>∃ (J:Nat->S->Prop),(∃m s1,bW b s s1/\J m s1)/\∀m s0,J m s0->jb P n b rd x (fun e s=>match e with| .normal=>∃m' s1,m'<m/\bW b s s1/\J m' s1|e=>Q e s) s0
 | .exit id,Q,s=>Q (.exit id) s
 | .ret,Q,s=>Q .ret s
 | .rangeFunc g ps x y,Q,s=>rd=false/\zM P n (s.ev g) ps.toList (low n x) (low n y) Q s
 |_,_,_=>False
section
variable {P:Program}{M:Nat->Prop}{φ:Place}{H:Hp}{w w':World}{cA:Place}{H0:Hp}{w0:World}{n b:Nat}{s:S}{a:Act}{cx:Cx}{ro:Option Nat}{k:Nat}
theorem GX(hb:∀id,H0.us id->id<b)(hs:cf M cA H0 w0 n cx φ s a w){s':S}(h:bW b s s'):∃aC,cf M cA H0 w0 n cx aC s' a w:=by
 obtain⟨aC,h1,h2,h3,h4,h5,h6⟩:=h M φ w (fun i=>a.tmps.getD i undef) hs.heap hs.env
 refine⟨aC,h1,⟨hs.tr.bY,fun k hk=>hs.tr.grow k (h3 k hk),⟨fun id hu=>Nat.lt_of_lt_of_le (hb id hu) h4,fun id hu hr=> ?_,fun id e' hu he=> ?_⟩⟩,hs.size, ?_,h2⟩
 ·obtain⟨g1,g2⟩:=h5 id (hb id hu) hr
  obtain⟨g3,g4⟩:=hs.tr.rel.row id hu g1
  exact⟨g3,g2.trans g4⟩
 ·obtain⟨e,g1,g2,g3⟩:=h6 id e' (hb id hu) he
  obtain⟨e0,k1,k2,k3⟩:=hs.tr.rel.ep id e hu g1
  refine⟨e0,k1,Nat.le_trans k2 g2,fun heq=> ?_⟩
  have a1:e0=e:=by omega
  have a2:e=e':=by omega
  exact(g3 a2).trans (k3 a1)
 ·obtain⟨ms,g1,g2,g3,g4⟩:=hs.defers
  exact⟨ms,g1,g2,g3,fun r hr=>⟨(g4 r hr).1,(g4 r hr).2.1,fun hl=>(g4 r hr).2.2 (h3 r hl)⟩⟩
theorem xD{c:Code}{Q:Exit->Act->World->Prop}(J:Nat->Act->World->Prop)(round:∀m a w,J m a w->c.tA P ro (Exit.then (fun a' w'=>∃m',m'<m/\J m' a' w') Q) a w):
 ∀m a w,J m a w->(Code.loop c).tA P ro Q a w:=by
 intro m a w h0 fr kk cs tz hb
 have hr:(dP ro).room (cs.length+1+0):=fun d hd=>by simp[dP]at hd
 have key:∀m a w,J m a w->∃e a' w',Q e a' w'/\ArrivesIn (Machine.fenced P (dP ro)) P (lone (fr.atR a (.code c:: .inLoop c::kk)) cs w) fr kk cs e a' w':=by
  intro m
  induction m using Nat.strongRecOn with
  |_ m ih=>
   intro a w hJ
   obtain⟨e,a1,w1,hq,cF⟩:=round m a w hJ fr (.inLoop c::kk) cs tz hb
   cases e with
   |normal=>
    obtain⟨m',bC,hJ'⟩:=hq
    obtain⟨e2,a2,w2,PX,Du⟩:=ih m' bC a1 w1 hJ'
    exact⟨e2,a2,w2,PX, .of_steps (StepsIn.trans cF (.one (fenced_calm trivial hr rfl) stepR_inLoop)) Du⟩
   |_=>exact⟨_,a1,w1,hq, .pass (x:= .inLoop c) rfl (fun _ _=> .inl (by simp)) cF⟩
 obtain⟨e,a',w',hq,cF⟩:=key m a w h0
 exact⟨e,a',w',hq, .of_steps (.one (fenced_calm trivial hr rfl) stepR_loop) cF⟩
theorem E5(hs:cf M cA H0 w0 n cx φ s a w)(my:cx.rd=false)(tz:ro=none){g:Operand}{ps:Array Tmp}{x y:Code}{Q:fy->S->Prop}(h:zM P n (s.ev g) ps.toList (low n x) (low n y) Q s):
 (Code.rangeFunc g ps x y).tA P ro (Ds M cA H0 w0 n cx Q) a w:=by
 subst tz
 obtain⟨env,dC,h⟩:=h
 refine vr fun fn E2=> ?_
 let Cc:Loop:={state:= .ready,pending:=none,fn:=fn,tmps:=a.tmps,params:=ps,assign:=x,body:=y,defers:=w.heap.size}
 let w1:World:=(w.alloc (.deferred (some []))).alloc (.loop Cc)
 let l:Nat:=w.heap.size+1
 have l4:(Instr.enterLoop fn a.tmps ps x y (dP none).round).run P w= .ok (l,[mark w.heap.size]) w1:=by
  simp[Instr.enterLoop,dP,mark,w1,l,Cc]
 have Cd:eM (fun _=>False) w w1:=by
  have k1:=cZ w (.deferred (some []))
  have k2:=cZ (w.alloc (.deferred (some []))) (.loop Cc)
  exact⟨k2.os.trans k1.os,k2.tape.trans k1.tape,k2.output.trans k1.output,Nat.le_trans k1.size k2.size,fun j hj hm=>(k2.block j (Nat.lt_of_lt_of_le hj k1.size) hm).trans (k1.block j hj hm)⟩
 let iV:=ak φ s.nx (.pointer (some ⟨l,0,none⟩))
 let s1:S:=⟨s.env,ak s.o s.nx (.loop P.funcs.size n env ps.toList (low n x) (low n y) .ready none),s.nx+1⟩
 have cS: ¬s.H.us s.nx:=by simp[S.H]
 have dx:∀b,dN (.pointer (some ⟨l,0,none⟩))=some b->w.heap.size<=b/\b<w1.heap.size:=by
  intro b hb;simp[dN]at hb;subst hb;simp[l,w1]
 have yV:=fe (φ:=φ) (H:=s.H) Cd cS (.loop P.funcs.size n env ps.toList (low n x) (low n y) .ready none) (.pointer (some ⟨l,0,none⟩)) fun b hb=>(dx b hb).1
 have Jw:(w.alloc (.deferred (some []))).heap.size=w.heap.size+1:=by simp
 have qn:w1.heap[l]? =some (.loop Cc):=by
  have:=heap_alloc_new (w.alloc (.deferred (some []))) (.loop Cc)
  rwa [Jw]at this
 have Nv:=jB hs.heap Cd cS (.loop P.funcs.size n env ps.toList (low n x) (low n y) .ready none) (.pointer (some ⟨l,0,none⟩)) dx (by
  unfold aK
  simp only[bF,aJ,if_true]
  refine⟨l,Cc,rfl,qn,E2,rfl,rfl,rfl,hs.size,rfl,rfl,fun i=> ?_⟩
  rcases dC i with e|e
  ·rw[e];trivial
  ·rw[e];exact V.aF yV _ _ (hs.env i))
 have sc:cf M cA H0 w0 n cx iV s1 {a with defers:=mark w.heap.size::a.defers} w1:=by
  have base:=ej hs Nv yV (o':=ak s.o s.nx (.loop P.funcs.size n env ps.toList (low n x) (low n y) .ready none)) (nx':=s.nx+1) rfl (GQ fun id ax=>by simp at ax;exact .inr ax)
  refine⟨base.heap,base.tr,base.size, ?_,base.env⟩
  obtain⟨ms,g1,g2,g3,g4⟩:=base.defers
  obtain⟨WA,q1,q2,q3,q4⟩:=hs.defers
  have hmm:ms.map mark=WA.map mark:=by
   have:ms.map mark++cx.base=WA.map mark++cx.base:=g1.symm.trans q1
   exact List.append_cancel_right this
  have xE:ms=WA:=by
   have hm:∀a b,mark a=mark b->a=b:=fun a b h=>by simpa[mark]using h
   exact List.map_inj_right hm |>.1 hmm
  refine⟨w.heap.size::ms,by rw[g1];rfl,List.nodup_cons.2 ⟨fun hm=> ?_,g2⟩,(fun h=>by rw[my]at h;cases h),fun r hr=> ?_⟩
  ·have:=(q4 w.heap.size (xE ▸ hm)).2.1
   rw[Array.getElem?_eq_none (Nat.le_refl _)]at this;cases this
  ·rcases List.mem_cons.1 hr with rfl|hr
   ·refine⟨hs.tr.bY.size,(RowKit.Below.heap_alloc (w.alloc (.deferred (some []))) (.loop Cc) w.heap.size (by rw[Jw];omega)).trans (heap_alloc_new w _), ?_⟩
    rintro⟨id,i1,i2⟩
    by_cases e:id=s.nx
    ·subst e;simp[iV,dN,l]at i2
    ·have i1':(s.H.o id).live=true:=by simpa[s1,S.H,e]using i1
     have i2':dN (φ id)=some w.heap.size:=by simpa[iV,e]using i2
     have:=(hs.heap.ours _ ⟨id,i1',i2'⟩).2
     omega
   ·exact g4 r hr
 have WB:V.den (ao M iV s1.H) iV s1.H w1 (.kV s.nx) (.func (.yield l) #[] #[]):=
  ⟨rfl,by simp[s1,S.H],fun _=>⟨l,by simp[iV],rfl⟩⟩
 have hg:=mJ (M:=M) (φ:=iV) (H:=s1.H) (w:=w1) s1 {a with defers:=mark w.heap.size::a.defers} sc.env g
 have WC:s1.ev g=s.ev g:=by cases g<;>rfl
 rw[WC]at hg
 have hae:({a with defers:=mark w.heap.size::a.defers}:Act).eval g=a.eval g:=rfl
 rw[hae]at hg
 split at h
 ·rename_i f first cap hgv
  rw[hgv]at hg
  obtain⟨fa,ca,Nt,BZ,Rm⟩:=hg
  have fin:∀ (all:List V) (o2:Nat->ae) (s2:S),s2=⟨s.env,o2,s.nx+1⟩->cf M cA H0 w0 n cx iV s2 {a with defers:=mark w.heap.size::a.defers} w1->V.aE (ao M iV s2.H) iV s2.H w1 all (fa++#[Value.func (.yield l) #[] #[]]++ca).toList->(o2 s.nx).bM=true->
   dX P f all o2 (s.nx+1) (fun _ o' nx'=>∃nf m e p c d st pd,o' s.nx= .loop nf m e p c d st pd/\st≠ .busy/\vu Q pd ⟨s.env,ak o' s.nx (.loop nf m e p c d .exhausted pd),nx'⟩) (fun v o' nx'=>Q (.bG v) ⟨s.env,o',nx'⟩)->
   ∃ (l:Nat) (mark:List Deferred) (fR:World) (d:Deferred) (we:World) (f:FuncId) (args:Array Value) (qF:World),
     (Instr.enterLoop fn a.tmps ps x y (dP none).round).run P w= .ok (l,mark) fR/\(resolve a.eval (rangeCall g l) 0).run P fR= .ok d we/\
     (invoke d.target d.args).run P we= .ok (.enter f args) qF/\CallsIn (dP none) 0 P f args qF (tC P l (Ds M cA H0 w0 n cx Q) {a with defers:=mark++a.defers}):=by
   intro all o2 s2 WD Gb aM br hC
   subst WD
   have eT:=hC.2 M iV w1 _ Gb.heap aM
   refine⟨l,[mark w.heap.size],w1,{target:= .fn (.func f) ca,args:=fa++#[Value.func (.yield l) #[] #[]]},w1,f,fa++#[Value.func (.yield l) #[] #[]]++ca,w1,l4, ?_, ?_,db (eT.mono fun e w' ⟨aC,o',nx',v,k1,k2,k3⟩=> ?_)⟩
   ·simp only[resolve,Nt,Deferred.ofValue,List.map_toArray,List.map_cons,List.map_nil,Sem.run_pure]
    rfl
   ·simp[invoke,lj hC.1]
   ·cases e with
    |returned val=>
     obtain⟨k4,nf,m,e,p,c,d,st,pd,k5,k6,k7⟩:=k3
     have BK:cf M cA H0 w0 n cx aC ⟨s.env,o',nx'⟩ {a with defers:=mark w.heap.size::a.defers} w':=ej Gb k1 k2 rfl fun id hu=>hu
     have Nw:aC s.nx= .pointer (some ⟨l,0,none⟩):=by
      have:=(k2.rel.row s.nx (show s.nx<s.nx+1 by omega) (by show(o' s.nx).bM=true;rw[k5];rfl)).2
      rw[this];simp[iV]
     have bC:s.nx<nx':=k2.rel.us s.nx (show s.nx<s.nx+1 by omega)
     obtain⟨r,r1,r2,r3,r4,r5⟩:=wg (st':= .exhausted) (pd':=pd) k1 bC (show(hp o' nx').o s.nx=_ from k5) Nw
     have fD:(Instr.endLoop l).run P w'= .ok (pd.map kR.code) {w' with heap:=w'.heap.setIfInBounds l (.loop {r with state:= .exhausted,pending:=pd.map kR.code})}:=by
      have e1:({r with state:= .exhausted}:Loop)={r with state:= .exhausted,pending:=pd.map kR.code}:=by rw[<- r3]
      have hnb:(r.state==LoopState.busy)=false:=by rw[r2];cases st<;>first|rfl|exact absurd rfl k6
      simp only[Instr.endLoop,Sem.run_bind,ko r1,Result.andThen_ok,hnb,Bool.false_eq_true,if_false,Sem.run_pure]
      rw[iX _ r1,e1]
      simp[r3]
     have PY:=ej BK r4 r5 (o':=ak o' s.nx (.loop nf m e p c d .exhausted pd)) (nx':=nx') rfl fun id hu=>by
      simp only[dV]at hu
      rcases hu with hu|hu
      ·exact hu
      ·subst hu;exact bC
     refine⟨pd.map kR.code,_,fD, ?_⟩
     cases pd with
     |none=>exact⟨.normal,_,_,k7,PY,trivial⟩
     |some j=>
      cases j with
      |ret=>exact Dt ⟨.ret,_,_,k7,PY,trivial⟩
      |exit id=>exact zL ⟨.exit id,_,_,k7,PY,rfl⟩
    |panicked ch=>
     obtain⟨val,rfl,k4,k5⟩:=k3
     have BK:cf M cA H0 w0 n cx aC ⟨s.env,o',nx'⟩ {a with defers:=mark w.heap.size::a.defers} w':=ej Gb k1 k2 rfl fun id hu=>hu
     exact⟨.bG v,_,_,k5,BK,val,rfl,k4⟩
    |outgrown=>exact k3.elim
  have mR:V.aE (ao M iV s1.H) iV s1.H w1 (first++[V.kV s.nx]++cap) (fa++#[Value.func (.yield l) #[] #[]]++ca).toList:=by
   rw[Array.toList_append,Array.toList_append]
   exact V.l0 BZ ⟨_,[],rfl,WB,rfl⟩ Rm
  rcases h with hC|hC
  ·exact fin _ _ s1 rfl sc mR (by simp;rfl) hC
  ·have kS:s1.o=ak s.o s.nx (.loop P.funcs.size n env ps.toList (low n x) (low n y) .ready none):=rfl
   obtain⟨f1,f2,f3,f4,f5⟩:=cT sc.heap (df s1.o (first++[V.kV s.nx]++cap)) (gB _ _ s1.o mR)
   have kF:s1.H.put (cQ s1.H.o (df s1.o (first++[V.kV s.nx]++cap)))=hp (put s1.o (cQ s1.o (df s1.o (first++[V.kV s.nx]++cap)))) s1.nx:=lh (by rw[nJ];exact gB _ _ s1.o mR)
   have LJ:=GU f1 _ _ f3 (V.aI f2 _ _ mR)
   have LK:((s1.H.put (cQ s1.H.o (df s1.o (first++[V.kV s.nx]++cap)))).o s.nx).bM=true:=by
    by_cases hm:s.nx∈df s1.o (first++[V.kV s.nx]++cap)
    ·rw[f3 _ hm];simp[s1,S.H,ae.fz,ae.bM]
    ·rw[f4 _ hm];simp[s1,S.H,ae.bM]
   rw[kF]at f1 f2 LJ LK
   exact fin _ (put s1.o (cQ s1.o (df s1.o (first++[V.kV s.nx]++cap)))) ⟨s.env,_,s.nx+1⟩ rfl (ej sc f1 f2 rfl fun id hu=>hu) LJ LK hC
 ·exact h.elim
end
end Go.Proofs.YtealblliddhgiaaGreat
