/-
  A PART OF THE PROOF. Conditions: none.
-/
import Derived.RangeFuncLeaves
import Derived.TacticsIn
import Derived.RecoverIn
import Derived.Test.YtnkamdiiakdkgaaGreatEa5
set_option linter.unusedSimpArgs false
set_option linter.unusedVariables false
namespace Go.Proofs.YtnkamdiiakdkgaaGreat
inductive R where
 |ret (ds:List D)|bD (d:D)
def R.is (B:Nat->Prop)(w:World):R->Ending->Prop
 | .ret [x], .returned v=>D.den B w x v
 | .ret ds, .returned v=>∃a,v= .tuple a/\D.az B w ds a.toList
 | .bD d, .panicked chain=>∃v,chain=[{v:=v,recovered:=false}]/\D.den B w d v
 |_,_=>False
def Enters(P:Program)(f:FuncId):Prop:=∃fn,P.funcs[f]? =some fn/\(fn.name== "runtime.NumGoroutine")=false/\fn.body.isNone=false
def aR(P:Program)(f:FuncId)(ds:List D)(out:R):Prop:=
 Enters P f/\∀ (M:Nat->Prop) (w:World) (vals:Array Value),(∀b,M b->b<w.heap.size)->D.az M w ds vals.toList->
  Calls P f vals w fun e w'=>dk (fun _=>False) w w'/\out.is M w' e
def hp(o:Nat->ab)(nx:Nat):Hp:=⟨o,fun id=>id<nx⟩
def lN(M:Nat->Prop)(φ:Place)(H:Hp)(w:World)(K X:V->(Nat->ab)->Nat->Prop)(e:Ending)(w':World):Prop:=
 ∃aE o' nx' v,ax M aE (hp o' nx') w'/\Trans φ H w aE (hp o' nx') w'/\match e with
  | .returned val=>V.den (ak M aE (hp o' nx')) aE (hp o' nx') w' v val/\K v o' nx'
  | .panicked ch=>∃val,ch=[{v:=val,recovered:=false}]/\V.den (ak M aE (hp o' nx')) aE (hp o' nx') w' v val/\X v o' nx'
  | .outgrown=>False
def cZ(P:Program)(f:FuncId)(args:List V)(o:Nat->ab)(nx:Nat)(K X:V->(Nat->ab)->Nat->Prop):Prop:=
 Enters P f/\∀ (M:Nat->Prop) (φ:Place) (w:World) (vals:Array Value),ax M φ (hp o nx) w->V.az (ak M φ (hp o nx)) φ (hp o nx) w args vals.toList->
  Calls P f vals w (lN M φ (hp o nx) w K X)
def dc(P:Program)(id:Nat)(args:List V)(o:Nat->ab)(nx:Nat)(K X:V->(Nat->ab)->Nat->Prop):Prop:=
 (o id).bW=true/\∀ (M:Nat->Prop) (φ:Place) (w:World) (vals:Array Value) (b:Nat),ax M φ (hp o nx) w->V.az (ak M φ (hp o nx)) φ (hp o nx) w args vals.toList->φ id= .pointer (some ⟨b,0,none⟩)->
  ∃f tmps assign body,(Instr.yield b vals).run P w= .ok (.round b f tmps assign body) w/\∀n,RoundIn Fence.wide n P b f tmps assign body w (lN M φ (hp o nx) w K X)
theorem lN.mono {M:Nat->Prop}{φ:Place}{H:Hp}{w:World}{K X K' X':V->(Nat->ab)->Nat->Prop}(hK:∀v o n,K v o n->K' v o n)(hX:∀v o n,X v o n->X' v o n){e:Ending}{w':World}(h:lN M φ H w K X e w'):lN M φ H w K' X' e w':=by
 obtain⟨aE,o',nx',v,h1,h2,h3⟩:=h
 refine⟨aE,o',nx',v,h1,h2, ?_⟩
 cases e with
 |returned val=>exact⟨h3.1,hK _ _ _ h3.2⟩
 |panicked ch=>obtain⟨val,a,b,c⟩:=h3;exact⟨val,a,b,hX _ _ _ c⟩
 |outgrown=>exact h3
theorem cZ.mono {P:Program}{f:FuncId}{args:List V}{o:Nat->ab}{nx:Nat}{K X K' X':V->(Nat->ab)->Nat->Prop}(hK:∀v o n,K v o n->K' v o n)(hX:∀v o n,X v o n->X' v o n)(h:cZ P f args o nx K X):cZ P f args o nx K' X':=
 ⟨h.1,fun M φ w vals h1 h2=>(h.2 M φ w vals h1 h2).mono fun _ _ h=>h.mono hK hX⟩
theorem dc.mono {P:Program}{id:Nat}{args:List V}{o:Nat->ab}{nx:Nat}{K X K' X':V->(Nat->ab)->Nat->Prop}(hK:∀v o n,K v o n->K' v o n)(hX:∀v o n,X v o n->X' v o n)(h:dc P id args o nx K X):dc P id args o nx K' X':=
 ⟨h.1,fun M φ w vals b h1 h2 h3=>let⟨f,t,a,c,h4,h5⟩:=h.2 M φ w vals b h1 h2 h3;⟨f,t,a,c,h4,fun n=>(h5 n).mono fun _ _ h=>h.mono hK hX⟩⟩
mutual
def D.flat:D->Bool
 | .sl _| .mp _ _=>false
 | .agg cs=>D.iS cs
 | .iface _ x=>x.flat
 |_=>true
def D.iS:List D->Bool
 |[]=>true
 |x::xs=>x.flat&&D.iS xs
end
mutual
theorem D.ou {B B':Nat->Prop}{w w':World}:∀ (x:D) (v:Value),x.flat=true->D.den B w x v->D.den B' w' x v
 | .int _ _,_,_,h| .bool _,_,_,h| .str _,_,_,h| .fP,_,_,h| .lp,_,_,h| .bV,_,_,h| .gE,_,_,h=>h
 | .agg cs,_,hf,h=>by obtain⟨a,rfl,h,h2⟩:=h;exact⟨a,rfl,D.kF cs _ hf h,h2⟩
 | .sl es,_,hf,h=>by simp[D.flat]at hf
 | .mp _ _,_,hf,h=>by simp[D.flat]at hf
 | .iface t x,_,hf,h=>by obtain⟨u,rfl,h⟩:=h;exact⟨u,rfl,D.ou x u hf h⟩
theorem D.kF {B B':Nat->Prop}{w w':World}:∀ (xs:List D) (vs:List Value),D.iS xs=true->D.az B w xs vs->D.az B' w' xs vs
 |[],_,_,h=>h
 |x::xs,_,hf,h=>by
  obtain⟨u,us,rfl,h1,h2⟩:=h
  simp only[D.iS,Bool.and_eq_true]at hf
  exact⟨u,us,rfl,D.ou x u hf.1 h1,D.kF xs us hf.2 h2⟩
end
mutual
def D.lO:D->Bool
 | .mp _ _=>false
 | .agg cs=>D.kG cs
 | .sl es=>D.kG es
 | .iface _ x=>x.lO
 |_=>true
def D.kG:List D->Bool
 |[]=>true
 |x::xs=>x.lO&&D.kG xs
end
theorem fw.yz {B B':Nat->Prop}{w w':World}{a:Addr}{cs:Array Value}
 (hb:∀b,nV w b-> ¬B b->w'.heap[b]? =w.heap[b]? /\ ¬B' b) (h:fw B w a cs):fw B' w' a cs:=by
 intro j u hj
 obtain⟨h1,h2⟩:=h j u hj
 have cc:nV w a.block:=by simpa using m7 h1
 exact Vs
mutual
theorem D.jY {B B':Nat->Prop}{w w':World}(hb:∀b,nV w b-> ¬B b->w'.heap[b]? =w.heap[b]? /\ ¬B' b):
 ∀ (x:D) (v:Value),x.lO=true->D.den B w x v->D.den B' w' x v
 | .int _ _,_,_,h| .bool _,_,_,h| .str _,_,_,h| .fP,_,_,h| .lp,_,_,h| .bV,_,_,h| .gE,_,_,h=>by simpa[D.den]using h
 | .agg cs,_,hn,h=>by
   obtain⟨a,rfl,h,hf⟩:=h
   exact⟨a,rfl,D.lP hb cs _ hn h,hf⟩
 | .sl es,_,hn,h=>by
   obtain⟨base,len,cap,rfl,h1,h2,h3,sz,h4⟩:=h
   exact⟨base,len,cap,rfl,h1,h2,h3,sz,fun a ha=>⟨(h4 a ha).1,D.ow hb sz a es 0 hn (h4 a ha).2⟩⟩
 | .iface t d,_,hn,h=>by
   obtain⟨u,rfl,h⟩:=h
   exact⟨u,rfl,D.jY hb d u hn h⟩
 | .mp _ _,_,hn,_=>by simp[D.lO]at hn
theorem D.lP {B B':Nat->Prop}{w w':World}(hb:∀b,nV w b-> ¬B b->w'.heap[b]? =w.heap[b]? /\ ¬B' b):
 ∀ (ds:List D) (vs:List Value),D.kG ds=true->D.az B w ds vs->D.az B' w' ds vs
 |[],_,_,h=>h
 |d::ds,_,hn,h=>by
  obtain⟨u,us,rfl,h1,h2⟩:=h
  simp only[D.kG,Bool.and_eq_true]at hn
  exact⟨u,us,rfl,D.jY hb d u hn.1 h1,D.lP hb ds us hn.2 h2⟩
theorem D.ow {B B':Nat->Prop}{w w':World}(hb:∀b,nV w b-> ¬B b->w'.heap[b]? =w.heap[b]? /\ ¬B' b)(sz:Nat)(a:Addr):
 ∀ (es:List D) (i:Nat),D.kG es=true->D.elems B w sz a i es->D.elems B' w' sz a i es
 |[],_,_,_=>trivial
 |e::es,i,hn,h=>by
  obtain⟨⟨ev,h1,h2,h3⟩,h4⟩:=h
  simp only[D.kG,Bool.and_eq_true]at hn
  exact⟨⟨ev,h1,h2.yz hb,D.jY hb e ev hn.1 h3⟩,D.ow hb sz a es (i+1) hn.2 h4⟩
end
def R.lO:R->Bool
 | .ret ds=>D.kG ds
 | .bD d=>d.lO
def R.flat:R->Bool
 | .ret ds=>D.iS ds
 | .bD d=>d.flat
def iu:List D->V
 |[x]=> .d x
 |ds=> .bP (ds.map .d)
inductive eK where
 |normal|exit (id:Nat)|ret|bD (v:V)
def aT(env:Nat->V)(dst:Option Tmp)(v:V):Nat->V:=
 match dst with
 |some d=>aA env d v
 |none=>env
def He(o:Nat->ab)(v:V):V:=match dp o v with|some x=> .d x|none=>v
def cL(o:Nat->ab):List V->List Nat
 |[]=>[]
 |v::vs=>(match dp o v with|some _=>v.ids|none=>[])++cL o vs
def m6(P:Program)(g:FuncId)(args:List V)(o:Nat->ab)(nx:Nat)(K X:V->(Nat->ab)->Nat->Prop):Prop:=
 cZ P g args o nx K X\/cZ P g (args.map (He o)) (put o (bZ o (cL o args))) nx K X
def sv(P:Program)(s:S)(g:FuncId)(all:List V)(K:V->(Nat->ab)->Nat->Prop)(X:V->(Nat->ab)->Nat->Prop):Prop:=
    (∃ds out,bQ s.o all=some ds/\aR P g ds out/\(match out with
     | .ret rs=>K (iu rs) (put s.o (bZ s.o (V.a7 all))) (s.nx+1)
     | .bD x=>X (.d x) (put s.o (bZ s.o (V.a7 all))) (s.nx+1)))\/
    (∃ds out,bQ s.o all=some ds/\aR P g ds out/\out.flat=true/\(match out with
     | .ret rs=>K (iu rs) s.o (s.nx+1)
     | .bD x=>X (.d x) s.o (s.nx+1)))\/
    (∃ds out,bQ s.o all=some ds/\aR P g ds out/\out.lO=true/\(match out with
     | .ret rs=>K (iu rs) (put s.o (pG s.o (V.a7 all))) (s.nx+1)
     | .bD x=>X (.d x) (put s.o (pG s.o (V.a7 all))) (s.nx+1)))\/
    m6 P g all s.o s.nx K X
def y0(P:Program)(s:S)(f:V)(args:List V)(K:V->(Nat->ab)->Nat->Prop)(X:V->(Nat->ab)->Nat->Prop):Prop:=
 match f with
 | .func (.func g) first cap=>sv P s g (first++args++cap) K X
 | .ir id=>dc P id args s.o s.nx K X
 |_=>False
def Nd(P:Program)(t:TypeId):Bool:=
 match P.underlying t with
 |some (.pointer _)=>false
 |some _=>true
 |none=>false
def sw(P:Program)(m:String)(x:V):Option (FuncId×V):=
 match x with
 | .d (.iface t y)=>match P.info? t with
   |some ti=>match ti.methods.find? (·.name==m)with
    |some r=>match r.func with
     |some (f,false)=>if r.path.isEmpty=true/\Nd P t=true then some (f, .d y)else none
     |_=>none
    |none=>none
   |none=>none
 |_=>none
def fy(n:Nat):Option Tmp->Prop
 |some d=>d<n
 |none=>True
def opW(P:Program)(n:Nat)(s:S)(o:Oper)(X:V->S->Prop)(K:S->Prop):Prop:=
 fy n o.dst/\match o.op with
 | .call c=>match c.callee with
   | .value f=>y0 P s (s.ev f) (c.args.toList.map s.ev) (fun v o' nx'=>K ⟨aT s.env o.dst v,o',nx'⟩) (fun v o' nx'=>X v ⟨s.env,o',nx'⟩)
   | .invoke r m=>match sw P m (s.ev r)with
     |some (g,y)=>sv P s g (y::c.args.toList.map s.ev) (fun v o' nx'=>K ⟨aT s.env o.dst v,o',nx'⟩) (fun v o' nx'=>X v ⟨s.env,o',nx'⟩)
     |none=>False
   |_=>M4 P s s.nx o.op fun v Δ _=>K ⟨aT s.env o.dst v,put s.o Δ,s.nx+1⟩
 | .panic x=>match s.ev x with
   | .d (.iface t y)=>X (.d (.iface t y)) s
   | .iface t y=>X (.iface t y) s
   |_=>False
 |op=>M4 P s s.nx op fun v Δ _=>K ⟨aT s.env o.dst v,put s.o Δ,s.nx+1⟩
def wK(s:S)(ops:Array Oper)(g:Option (Nat×Bool))(A B:Prop):Prop:=
 match g with
 |none=>A
 |some (j,want)=>match qt ops j with
  |some d=>match s.env d with
   | .d (.bool b)=>(b=want->A)/\(b≠want->B)
   | .bP []=>B
   |_=>False
  |none=>B
def wL(P:Program)(n:Nat)(ops:Array Oper)(X:V->S->Prop)(K:S->Prop):List Oper->S->Prop
 |[],s=>K s
 |o::l,s=>wK s ops o.guard (opW P n s o X (wL P n ops X K l)) (fy n o.dst/\wL P n ops X K l ⟨aT s.env o.dst (.bP []),s.o,s.nx+1⟩)
def bf(b:Nat)(s s':S):Prop:=
 ∀ (M:Nat->Prop) (φ:Place) (w:World) (tm:Nat->Value),ax M φ s.H w->(∀i,V.den (ak M φ s.H) φ s.H w (s.env i) (tm i))->
   ∃aE,ax M aE s'.H w/\(∀i,V.den (ak M aE s'.H) aE s'.H w (s'.env i) (tm i))/\(∀k,cp aE s'.H k->cp φ s.H k)/\b<=s'.nx/\
    (∀id,id<b->(s'.o id).bW=true->(s.o id).bW=true/\aE id=φ id)/\
    (∀id e',id<b->(s'.o id).bT=some e'->∃e,(s.o id).bT=some e/\e<=e'/\(e=e'->aE id=φ id))
def ox(K:S->Prop)(Q:eK->S->Prop)(e:eK)(s:S):Prop:=match e with| .normal=>K s|e=>Q e s
def ez(id:Nat)(Q:eK->S->Prop)(e:eK)(s:S):Prop:=match e with| .exit j=>if j=id then Q .normal s else Q (.exit j) s|e=>Q e s
def kH(P:Program)(s:S):List ResultVar->Option (List V)
 |[]=>some []
 | .tmp t::rs=>(kH P s rs).map (s.env t::·)
 | .cell a t::rs=>match s.env a with
   | .ptr id off=>match s.o id with
     | .row cs=>(dS P t cs off).bind fun v=>(kH P s rs).map (v::·)
     |_=>none
   |_=>none
def ct(vs:List V):Nat->V:=fun i=>vs.getD i (.bP [])
def BD(P:Program)(rs:List ResultVar)(out:R)(e:eK)(s:S):Prop:=
 match e with
 | .normal| .ret=>match kH P s rs with
   |some vs=>match bQ s.o vs with
    |some ds=>out= .ret ds
    |none=>False
   |none=>False
 | .bD v=>match dp s.o v with
   |some x=>out= .bD x
   |none=>False
 | .exit _=>False
theorem Hf{P:Program}{rs:List ResultVar}{out:R}{s:S}(h:match kH P s rs with
 |some vs=>match bQ s.o vs with
  |some ds=>out= .ret ds
  |none=>False
 |none=>False):∃vs ds,kH P s rs=some vs/\bQ s.o vs=some ds/\out= .ret ds:=by
 split at h
 ·rename_i vs h1
  split at h
  ·rename_i xs h2;exact⟨vs,xs,h1,h2,h⟩
  ·exact h.elim
 ·exact h.elim
theorem Hg{out:R}{s:S}{v:V}(h:match dp s.o v with
 |some x=>out= .bD x
 |none=>False):∃x,dp s.o v=some x/\out= .bD x:=by
 split at h
 ·rename_i x h1;exact⟨x,h1,h⟩
 ·exact h.elim
section
section
variable {P:Program}{M:Nat->Prop}{φ:Place}{H:Hp}{w w':World}
def ab.jZ:ab->Bool
 | .arr .. =>true
 |_=>false
theorem KC(o:Nat->ab)(ids:List Nat):pG o ids=bZ o (ids.filter fun id=>(o id).jZ):=by
 induction ids with
 |nil=>rfl
 |cons id ids ih=>
  unfold pG at ih|-
  simp only[List.filterMap_cons,List.filter_cons]
  cases hx:o id with
  |arr ep ty sz es=>
   have e:(ab.arr ep ty sz es).jZ=true:=rfl
   rw[e,if_pos rfl,ih]
   simp only[bZ,List.map_cons,hx]
  |_=>exact ih
theorem iq(hH:ax M φ H w){us':Nat->Prop}(h:∀id,H.us id->us' id):ax M φ ⟨H.o,us'⟩ w/\Trans φ H w φ ⟨H.o,us'⟩ w:=by
 have ht:Trans φ H w φ ⟨H.o,us'⟩ w:=⟨dk.refl _ _,fun b hb=> .inl hb,⟨h,fun id _ hr=>⟨hr,rfl⟩,fun id e' _ he=>⟨e',he,Nat.le_refl _,fun _=>rfl⟩⟩⟩
 exact⟨hH.of ht (fun _=>False) (fun _ h=>h.elim) (fun id _=>⟨rfl,rfl,fun _ _ _=>rfl⟩) (fun id hn=>hH.fresh id fun hu=>hn (h id hu)) hH.apart (fun b hb=>(hH.ours b hb).2),ht⟩
theorem fb(hH:ax M φ H w)(hk:dk (fun _=>False) w w'):ax M φ H w'/\Trans φ H w φ H w':=by
 have ht:Trans φ H w φ H w':=⟨⟨hk.os,hk.tape,hk.output,hk.size,fun k h _=>hk.block k h fun h=>h⟩,fun b hb=> .inl hb,du.refl _ _⟩
 exact⟨hH.of ht (fun _=>False) (fun _ h=>h.elim) (fun id _=>⟨rfl,rfl,fun hl b hb=>hk.block b (hH.ours b ⟨id,hl,hb⟩).2 fun h=>h⟩) hH.fresh hH.apart (fun b hb=>Nat.lt_of_lt_of_le (hH.ours b hb).2 hk.size),ht⟩
theorem j5{Δ:List (Nat×ab)}(h:∀id∈Δ.map (·.1),H.us id):H.put Δ=⟨put H.o Δ,H.us⟩:=by
 unfold Hp.put
 congr 1
 funext id
 simp only[eq_iff_iff]
 exact⟨fun h'=>h'.elim (fun h=>h) (h id), .inl⟩
theorem rD(o:Nat->ab)(ids:List Nat):(bZ o ids).map (·.1)=ids:=by
 rw[kD];simp[Function.comp_def]
structure Cx where
 base:List Deferred
 rd:Bool
def dm(ro:Option Nat):Fence:={fn:=fun _=>True,depth:=none,alive:=false,round:=ro}
def mark(r:Nat):Deferred:={target:= .collected r,args:=#[]}
def sx(cx:Cx)(w0:World)(φ:Place)(H:Hp)(w:World)(ds:List Deferred):Prop:=
 ∃ms:List Nat,ds=ms.map mark++cx.base/\ms.Nodup/\(cx.rd=true->ms=[])/\∀r∈ms,w0.heap.size<=r/\w.heap[r]? =some (.deferred (some []))/\ ¬cp φ H r
theorem sx.mono {cx:Cx}{w0:World}{φ aE:Place}{H H':Hp}{w w':World}{ds:List Deferred}(ht:Trans φ H w aE H' w')(h:sx cx w0 φ H w ds):sx cx w0 aE H' w' ds:=by
 obtain⟨ms,h1,h2,h3,h4⟩:=h
 refine⟨ms,h1,h2,h3,fun r hr=> ?_⟩
 obtain⟨g1,g2,g3⟩:=h4 r hr
 have cc:r<w.heap.size:=by
  rcases Nat.lt_or_ge r w.heap.size with hl|hl
  ·exact hl
  ·rw[Array.getElem?_eq_none hl]at g2;cases g2
 refine⟨g1,(ht.keep.block r cc g3).trans g2,fun hl=> ?_⟩
 rcases ht.grow r hl with h|h
 ·exact g3 h
 ·omega
structure bS (M:Nat->Prop) (b7:Place) (H0:Hp) (w0:World) (n:Nat) (cx:Cx) (φ:Place) (s:S) (a:Act) (w:World):Prop where
 heap:ax M φ s.H w
 tr:Trans b7 H0 w0 φ s.H w
 size:a.tmps.size=n
 defers:sx cx w0 φ s.H w a.defers
 env:∀i,V.den (ak M φ s.H) φ s.H w (s.env i) (a.tmps.getD i undef)
variable {b7:Place}{H0:Hp}{w0:World}{n:Nat}{s:S}{a:Act}{cx:Cx}{ro:Option Nat}{k:Nat}
theorem cI{f:FuncId}{args:Array Value}{R:Ending->World->Prop}(h:Calls P f args w R):CallsIn (dm ro) k P f args w R:=
 ⟨trivial,fun cs _=>let⟨e,w',fr,r,s,x⟩:=h cs;⟨e,w',fr,r,comesIn_wide.2 s,x⟩⟩
theorem y9{f:FuncId}{args:Array Value}{R:Ending->World->Prop}(h:CallsIn (dm ro) k P f args w R):Calls P f args w R:=
 fun cs=>let⟨e,w',fr,r,s,x⟩:=h.2 cs (fun _ h=>by simp[dm]at h);⟨e,w',fr,r,comesIn_wide.1 s,x⟩
theorem jx{o:Oper}{next:Act->World->Prop}{Q:Exit->Act->World->Prop}(hnd:∀c,o.op≠ .defer c)(h:o.uponIn (dm ro) k P a next Q ((execOp a.eval o).run P w)):o.wpIn (dm ro) k P a w next Q:=
 ⟨fun _ _=>trivial,by rw[Oper.semAt_eq _ _ _ hnd];exact h⟩
theorem mw(hs:bS M b7 H0 w0 n cx φ s a w){aE:Place}{H':Hp}(hH:ax M aE H' w')(ht:Trans φ s.H w aE H' w'){v:V}{val:Value}(hd:V.den (ak M aE H') aE H' w' v val){dst:Option Tmp}(cz:fy n dst)
 {o':Nat->ab} {nx':Nat} (ho:H'.o=o') (hu:∀id,H'.us id->id<nx'):bS M b7 H0 w0 n cx aE ⟨aT s.env dst v,o',nx'⟩ (a.put dst val) w':=by
 obtain⟨k1,k2⟩:=iq hH hu
 subst ho
 refine⟨k1,hs.tr.trans (ht.trans k2), ?_, ?_,fun i=> ?_⟩
 ·cases dst<;>simp[Act.put,hs.size]
 ·have:=hs.defers.mono (ht.trans k2);cases dst<;>exact this
 ·cases dst with
  |none=>exact J3
  |some d=>
   simp only[fy]at cz
   simp only[aT,aH,Act.put]
   by_cases hi:i=d
   ·subst hi
    have h1:(a.tmps.setIfInBounds i val).getD i undef=val:=by simp[Array.getD,hs.size,cz]
    rw[if_pos rfl,h1]
    exact V.aL k2 _ _ hd
   ·have h1:(a.tmps.setIfInBounds d val).getD i undef=a.tmps.getD i undef:=by
     exact PL
    rw[if_neg hi,h1]
    exact J3
theorem dR(hs:bS M b7 H0 w0 n cx φ s a w){aE:Place}{H':Hp}(hH:ax M aE H' w')(ht:Trans φ s.H w aE H' w'){o':Nat->ab}{nx':Nat}(ho:H'.o=o')(hu:∀id,H'.us id->id<nx'):
 bS M b7 H0 w0 n cx aE ⟨s.env,o',nx'⟩ a w':=by
 obtain⟨k1,k2⟩:=iq hH hu
 subst ho
 exact⟨k1,hs.tr.trans (ht.trans k2),hs.size,hs.defers.mono (ht.trans k2),fun i=>V.aL (ht.trans k2) _ _ (hs.env i)⟩
theorem Hh{Δ:List (Nat×ab)}(h:∀id∈Δ.map (·.1),s.H.us id\/id=s.nx)(id:Nat)(hu:(s.H.put Δ).us id):id<s.nx+1:=by
 rcases hu with hu|hu
 ·exact Nat.lt_succ_of_lt hu
 ·rcases h id hu with h|h
  ·exact Nat.lt_succ_of_lt h
  ·omega
variable {next:Act->World->Prop}{Q:Exit->Act->World->Prop}{X:V->S->Prop}{K:S->Prop}
theorem Hi(hs:bS M b7 H0 w0 n cx φ s a w){o:Oper}{op:Op}(fN:o.op=op)(cz:fy n o.dst)(h:M4 P s s.nx op fun v Δ _=>K ⟨aT s.env o.dst v,put s.o Δ,s.nx+1⟩)
 (hN:∀s' aE a' w',K s'->bS M b7 H0 w0 n cx aE s' a' w'->next a' w'):o.wpIn (dm ro) k P a w next Q:=by
 obtain⟨nx,val,w',aE,v,Δ,rd,hK,hr,ud,g1,g2,g3,g4⟩:=ve hs.heap (s:=s) rfl hs.env (fr:=s.nx) (by simp[S.H]) fN h
 have wM:=mw hs g1 g2 g3 cz (o':=put s.o Δ) (nx':=s.nx+1) rfl (Hh g4)
 refine jx (fun c hc=>by rw[fN]at hc;subst hc;exact h) ?_
 rw[hr]
 rcases ud with rfl|⟨rfl,rfl⟩
 ·exact hN _ _ _ _ hK wM
 ·exact hN _ _ _ _ hK wM
theorem V.nT {B:Nat->Prop}{bU bs cs:List V}{u v x:List Value}(h1:V.az B φ H w bU u)(h2:V.az B φ H w bs v)(h3:V.az B φ H w cs x):V.az B φ H w (bU++bs++cs) (u++v++x):=
 V.ba _ _ _ _ (V.ba _ _ _ _ h1 h2) h3
theorem j6{f:FuncId}(h:Enters P f)(args:Array Value):(callFunc f args).run P w= .ok (.enter f args) w:=by
 obtain⟨fn,h1,h2,h3⟩:=h
 have yU:fn.name≠ "runtime.NumGoroutine" :=by simpa using h2
 have mU:fn.body≠none:=fun h=>by rw[h]at h3;cases h3
 simp[callFunc,h1,yU,mU]
theorem lD:∀ {rs:List D} {val:Value},R.is (ak M φ H) w (.ret rs) (.returned val)->V.den (ak M φ H) φ H w (iu rs) val
 |[],_,h=>by obtain⟨arr,rfl,h⟩:=h;exact⟨arr,rfl,h⟩
 |[x],_,h=>h
 |x::y::l,_,h=>by obtain⟨arr,rfl,h⟩:=h;exact⟨arr,rfl,(V.bX (x::y::l) _).2 h⟩
theorem R.wN {B B':Nat->Prop}:∀ {out:R} {e:Ending},out.flat=true->out.is B w e->out.is B' w e
 | .ret [], .returned _,_,h=>by obtain⟨arr,rfl,h⟩:=h;exact⟨arr,rfl,h⟩
 | .ret [x], .returned _,hf,h=>by
   simp only[R.flat,D.iS,Bool.and_true]at hf
   exact D.ou x _ hf h
 | .ret (x::y::l), .returned _,hf,h=>by obtain⟨arr,rfl,h⟩:=h;exact⟨arr,rfl,D.kF (x::y::l) _ hf h⟩
 | .bD d, .panicked _,hf,h=>by obtain⟨v,rfl,h⟩:=h;exact⟨v,rfl,D.ou d v hf h⟩
 | .ret [], .panicked _,_,h| .ret [_], .panicked _,_,h| .ret (_::_::_), .panicked _,_,h| .ret [], .outgrown,_,h| .ret [_], .outgrown,_,h| .ret (_::_::_), .outgrown,_,h| .bD _, .returned _,_,h| .bD _, .outgrown,_,h=>h.elim
theorem R.Hj {B B':Nat->Prop}{w':World}(hb:∀b,nV w' b-> ¬B b-> ¬B' b):∀ {out:R} {e:Ending},out.lO=true->out.is B w' e->out.is B' w' e
 | .ret [], .returned _,_,h=>by obtain⟨arr,rfl,h⟩:=h;exact⟨arr,rfl,h⟩
 | .ret [x], .returned _,hf,h=>by
   simp only[R.lO,D.kG,Bool.and_true]at hf
   exact D.jY (fun b hc hn=>⟨rfl,hb b hc hn⟩) x _ hf h
 | .ret (x::y::l), .returned _,hf,h=>by obtain⟨arr,rfl,h⟩:=h;exact⟨arr,rfl,D.lP (fun b hc hn=>⟨rfl,hb b hc hn⟩) (x::y::l) _ hf h⟩
 | .bD d, .panicked _,hf,h=>by obtain⟨v,rfl,h⟩:=h;exact⟨v,rfl,D.jY (fun b hc hn=>⟨rfl,hb b hc hn⟩) d v hf h⟩
 | .ret [], .panicked _,_,h| .ret [_], .panicked _,_,h| .ret (_::_::_), .panicked _,_,h| .ret [], .outgrown,_,h| .ret [_], .outgrown,_,h| .ret (_::_::_), .outgrown,_,h| .bD _, .returned _,_,h| .bD _, .outgrown,_,h=>h.elim
theorem Hk(hH:ax M φ H w){o:Nat->ab}:∀ (vs:List V) (vals:List Value),(∀id∈cL o vs,H.o id=(o id).fz)->V.az (ak M φ H) φ H w vs vals->V.az (ak M φ H) φ H w (vs.map (He o)) vals
 |[],_,_,h=>h
 |v::vs,_,ho,h=>by
  obtain⟨u,us,rfl,h1,h2⟩:=h
  refine⟨u,us,rfl, ?_,Hk hH vs us (fun id au=>ho id (by simp[cL,au])) h2⟩
  unfold He
  split
  ·rename_i x hx
   exact ek hH v x u (fun id au=>ho id (by simp[cL,hx,au])) hx h1
  ·exact h1
theorem fA:∀ (vs:List V) (vals:List Value) (o:Nat->ab),V.az (ak M φ H) φ H w vs vals->∀id∈cL o vs,H.us id
 |[],_,_,_,j,hj=>by simp[cL]at hj
 |v::vs,_,o,h,j,hj=>by
  obtain⟨u,us,rfl,h1,h2⟩:=h
  simp only[cL,List.mem_append]at hj
  rcases hj with hj|hj
  ·cases hx:dp o v with
   |none=>simp[hx]at hj
   |some x=>simp only[hx]at hj;exact cy v u h1 j hj
  ·exact fA vs us o h2 j hj
theorem vf(hs:bS M b7 H0 w0 n cx φ s a w){o:Oper}{g:FuncId}{all:List V}{vals:Array Value}(cz:fy n o.dst)(et:Enters P g->(execOp a.eval o).run P w= .ok (.enter g vals) w)(aX:V.az (ak M φ s.H) φ s.H w all vals.toList)
 (h:cZ P g all s.o s.nx (fun v o' nx'=>K ⟨aT s.env o.dst v,o',nx'⟩) (fun v o' nx'=>X v ⟨s.env,o',nx'⟩))
 (hN:∀s' aE a' w',K s'->bS M b7 H0 w0 n cx aE s' a' w'->next a' w')
 (hQ:∀v s' aE w' val,X v s'->bS M b7 H0 w0 n cx aE s' a w'->V.den (ak M aE s'.H) aE s'.H w' v val->Q (.panic [{v:=val,recovered:=false}]) a w'):o.uponIn (dm ro) k P a next Q ((execOp a.eval o).run P w):=by
 have dW:=h.2 M φ w vals hs.heap aX
 rw[et h.1]
 refine⟨fun hd=>by simp[dm]at hd,cI (dW.mono fun e w' ⟨aE,o',nx',v,k1,k2,k3⟩=> ?_)⟩
 cases e with
 |returned val=>exact Mv
 |panicked ch=>
  obtain⟨val,rfl,k4,k5⟩:=k3
  exact UY
 |outgrown=>exact k3.elim
theorem za(hs:bS M b7 H0 w0 n cx φ s a w){o:Oper}{g:FuncId}{all:List V}{vals:Array Value}(cz:fy n o.dst)(et:Enters P g->(execOp a.eval o).run P w= .ok (.enter g vals) w)(aX:V.az (ak M φ s.H) φ s.H w all vals.toList)
 (h:sv P s g all (fun v o' nx'=>K ⟨aT s.env o.dst v,o',nx'⟩) (fun v o' nx'=>X v ⟨s.env,o',nx'⟩))
 (hN:∀s' aE a' w',K s'->bS M b7 H0 w0 n cx aE s' a' w'->next a' w')
 (hQ:∀v s' aE w' val,X v s'->bS M b7 H0 w0 n cx aE s' a w'->V.den (ak M aE s'.H) aE s'.H w' v val->Q (.panic [{v:=val,recovered:=false}]) a w'):o.uponIn (dm ro) k P a next Q ((execOp a.eval o).run P w):=by
 unfold sv at h
 obtain⟨f1,f2,f3,f4,f5⟩:=cA hs.heap (V.a7 all) (cD all _ aX)
 have fX:s.H.put (bZ s.H.o (V.a7 all))=⟨put s.o (bZ s.o (V.a7 all)),s.H.us⟩:=j5 Gu
 have lQ:=V.aN f2 _ _ aX
 rcases h with⟨ds,out,eg,hP,hK⟩|⟨ds,out,eg,hP,pw,hK⟩|⟨ds,out,eg,hP,ZG,hK⟩|hC|hC
 ·have u1:=cQ f1 all ds _ f3 eg lQ
  have hM:∀b,ak M φ (s.H.put (bZ s.H.o (V.a7 all))) b->b<w.heap.size:=fun b hb=>hb.elim (f1.x5 b) fun hl=>(f1.ours b hl).2
  have dW:=hP.2 _ w vals hM u1
  rw[et hP.1]
  refine⟨fun hd=>by simp[dm]at hd,cI (dW.mono fun e w' ⟨hk,ho⟩=> ?_)⟩
  obtain⟨k1,k2⟩:=fb f1 hk
  cases out with
  |ret rs=>
   cases e with
   |returned val=>
    refine hN _ _ _ _ hK (mw hs k1 (f2.trans k2) (lD ho) cz (by rw[fX]) ?_)
    intro id hu;rw[fX]at hu;exact Nat.lt_succ_of_lt hu
   |panicked ch=>exact ug
   |outgrown=>exact ug
  |bD x=>
   cases e with
   |returned val=>exact ho.elim
   |panicked ch=>
    obtain⟨val,rfl,hd⟩:=ho
    have wM:=dR hs k1 (f2.trans k2) (o':=put s.o (bZ s.o (V.a7 all))) (nx':=s.nx+1) (by rw[fX]) (fun id hu=>by rw[fX]at hu;exact Nat.lt_succ_of_lt hu)
    refine hQ _ _ _ _ val hK wM ?_
    have e1:ak M φ (S.H ⟨s.env,put s.o (bZ s.o (V.a7 all)),s.nx+1⟩)=ak M φ (s.H.put (bZ s.H.o (V.a7 all))):=by rw[fX];rfl
    simp only[V.den]
    rw[e1];exact hd
   |outgrown=>exact ho.elim
 ·have u1:=cQ f1 all ds _ f3 eg lQ
  have hM:∀b,ak M φ (s.H.put (bZ s.H.o (V.a7 all))) b->b<w.heap.size:=fun b hb=>hb.elim (f1.x5 b) fun hl=>(f1.ours b hl).2
  have dW:=hP.2 _ w vals hM u1
  rw[et hP.1]
  refine⟨fun hd=>by simp[dm]at hd,cI (dW.mono fun e w' ⟨hk,ho⟩=> ?_)⟩
  obtain⟨k1,k2⟩:=fb hs.heap hk
  have ho:=R.wN (B':=ak M φ s.H) pw ho
  cases out with
  |ret rs=>
   cases e with
   |returned val=>
    exact hN _ _ _ _ hK (mw hs k1 k2 (lD ho) cz rfl fun id hu=>Nat.lt_succ_of_lt hu)
   |panicked ch=>exact ug
   |outgrown=>exact ug
  |bD x=>
   cases e with
   |returned val=>exact ho.elim
   |panicked ch=>
    obtain⟨val,rfl,hd⟩:=ho
    exact hQ _ _ _ _ val hK (dR hs k1 k2 (o':=s.o) (nx':=s.nx+1) rfl fun id hu=>Nat.lt_succ_of_lt hu) hd
   |outgrown=>exact ho.elim
 ·obtain⟨a1,a2,a3,a4,a5⟩:=cA hs.heap ((V.a7 all).filter fun id=>(s.o id).jZ) (fun id au=>cD all _ aX id (List.mem_filter.1 au).1)
  have zb:s.H.put (bZ s.H.o ((V.a7 all).filter fun id=>(s.o id).jZ))=⟨put s.o (pG s.o (V.a7 all)),s.H.us⟩:=by
   rw[KC]
   exact j5 (by rw[rD];exact fun id au=>cD all _ aX id (List.mem_filter.1 au).1)
  have u1:=cQ f1 all ds _ f3 eg lQ
  have hM:∀b,ak M φ (s.H.put (bZ s.H.o (V.a7 all))) b->b<w.heap.size:=fun b hb=>hb.elim (f1.x5 b) fun hl=>(f1.ours b hl).2
  have dW:=hP.2 _ w vals hM u1
  rw[et hP.1]
  refine⟨fun hd=>by simp[dm]at hd,cI (dW.mono fun e w' ⟨hk,ho⟩=> ?_)⟩
  obtain⟨k1,k2⟩:=fb a1 hk
  have jk:∀b,nV w' b-> ¬ak M φ (s.H.put (bZ s.H.o (V.a7 all))) b-> ¬ak M φ (s.H.put (bZ s.H.o ((V.a7 all).filter fun id=>(s.o id).jZ))) b:=by
   intro b hc hn hm
   rcases hm with hM|⟨id,hl,hb⟩
   ·exact hn (.inl hM)
   ·by_cases au:id∈V.a7 all
    ·cases hx:s.H.o id with
     |arr ep ty sz es=>
      rw[a3 id (List.mem_filter.2 ⟨au,by show(s.H.o id).jZ=true;rw[hx];rfl⟩),hx]at hl
      cases hl
     |map kt vt l=>
      have lz:id∉(V.a7 all).filter fun id=>(s.o id).jZ:=fun h=>by
       have h2:(s.H.o id).jZ=true:=(List.mem_filter.1 h).2
       rw[hx]at h2;cases h2
      have aU:=k1.ok id
      unfold aM at aU
      rw[a4 id lz,hx]at aU
      obtain⟨b',es,clock,g1,g2,_⟩:=aU
      rw[g1]at hb
      injection hb with hb
      subst hb
      obtain⟨cs,ty,fz,hc⟩:=hc
      rw[g2]at hc
      cases hc
     |_=>
      have lz:id∉(V.a7 all).filter fun id=>(s.o id).jZ:=fun h=>by
       have h2:(s.H.o id).jZ=true:=(List.mem_filter.1 h).2
       rw[hx]at h2;cases h2
      refine hn (.inr ⟨id, ?_,hb⟩)
      rw[a4 id lz,hx]at hl
      rw[f3 id au,hx]
      exact hl
    ·have lz:id∉(V.a7 all).filter fun id=>(s.o id).jZ:=fun h=>au (List.mem_filter.1 h).1
     refine hn (.inr ⟨id, ?_,hb⟩)
     rw[a4 id lz]at hl
     rw[f4 id au]
     exact hl
  have ho:=R.Hj (w':=w') (B':=ak M φ (s.H.put (bZ s.H.o ((V.a7 all).filter fun id=>(s.o id).jZ)))) jk ZG ho
  cases out with
  |ret rs=>
   cases e with
   |returned val=>
    refine hN _ _ _ _ hK (mw hs k1 (a2.trans k2) (lD ho) cz (by rw[zb]) ?_)
    intro id hu;rw[zb]at hu;exact Nat.lt_succ_of_lt hu
   |panicked ch=>exact ug
   |outgrown=>exact ug
  |bD x=>
   cases e with
   |returned val=>exact ho.elim
   |panicked ch=>
    obtain⟨val,rfl,hd⟩:=ho
    have wM:=dR hs k1 (a2.trans k2) (o':=put s.o (pG s.o (V.a7 all))) (nx':=s.nx+1) (by rw[zb]) (fun id hu=>by rw[zb]at hu;exact Nat.lt_succ_of_lt hu)
    refine hQ _ _ _ _ val hK wM ?_
    have e1:ak M φ (S.H ⟨s.env,put s.o (pG s.o (V.a7 all)),s.nx+1⟩)=ak M φ (s.H.put (bZ s.H.o ((V.a7 all).filter fun id=>(s.o id).jZ))):=by rw[zb];rfl
    simp only[V.den]
    rw[e1];exact hd
   |outgrown=>exact ho.elim
 ·exact vf hs cz et aX hC hN hQ
 ·obtain⟨f1,f2,f3,f4,f5⟩:=cA hs.heap (cL s.o all) (fA all _ s.o aX)
  have fX:s.H.put (bZ s.H.o (cL s.o all))=hp (put s.o (bZ s.o (cL s.o all))) s.nx:=j5 (by rw[rD];exact fA all _ s.o aX)
  have lQ:=Hk f1 all _ f3 (V.aN f2 _ _ aX)
  rw[fX]at f1 f2 lQ
  exact vf (s:=⟨s.env,put s.o (bZ s.o (cL s.o all)),s.nx⟩) (dR hs f1 f2 rfl fun id hu=>hu) cz et lQ hC hN hQ
theorem KF(hs:bS M b7 H0 w0 n cx φ s a w){o:Oper}{c:Call}{f:Operand}(fN:o.op= .call c)(hc:c.callee= .value f)(cz:fy n o.dst)
 (h:y0 P s (s.ev f) (c.args.toList.map s.ev) (fun v o' nx'=>K ⟨aT s.env o.dst v,o',nx'⟩) (fun v o' nx'=>X v ⟨s.env,o',nx'⟩))
 (hN:∀s' aE a' w',K s'->bS M b7 H0 w0 n cx aE s' a' w'->next a' w')
 (hQ:∀v s' aE w' val,X v s'->bS M b7 H0 w0 n cx aE s' a w'->V.den (ak M aE s'.H) aE s'.H w' v val->Q (.panic [{v:=val,recovered:=false}]) a w'):o.wpIn (dm ro) k P a w next Q:=by
 refine jx (fun c' EH=>by rw[fN]at EH;cases EH) ?_
 have hf:=lH (M:=M) (φ:=φ) (H:=s.H) (w:=w) s a hs.env f
 have dn:=jt (M:=M) (φ:=φ) (H:=s.H) (w:=w) s a hs.env c.args.toList
 unfold y0 at h
 split at h
 ·rename_i g first cap ui
  rw[ui]at hf
  obtain⟨fa,ca,Hl,CL,Zy⟩:=hf
  have aX:V.az (ak M φ s.H) φ s.H w (first++c.args.toList.map s.ev++cap) (fa++c.args.map a.eval++ca).toList:=by
   exact MD
  generalize first++c.args.toList.map s.ev++cap=all at h aX
  generalize jR:fa++c.args.map a.eval++ca=vals at aX
  have et:Enters P g->(execOp a.eval o).run P w= .ok (.enter g vals) w:=by
   intro he
   have:=j6 (w:=w) he (fa++c.args.map a.eval++ca)
   rw[jR]at this
   simp[execOp,fN,resolve,hc,Hl,Deferred.ofValue,invoke,this,jR]
  exact za hs cz et aX h hN hQ
 ·rename_i id ui
  rw[ui]at hf
  obtain⟨_,dG,Nf⟩:=hf
  obtain⟨bG,hR⟩:=h
  obtain⟨b,dD,Hl⟩:=Nf bG
  obtain⟨fn,tmps,assign,body,h1,h2⟩:=hR M φ w (c.args.map a.eval) b hs.heap (by rw[Array.toList_map];exact dn) dD
  have et:(execOp a.eval o).run P w= .ok (.round b fn tmps assign body) w:=by
   simp[execOp,fN,resolve,hc,Hl,Deferred.ofValue,invoke,h1]
  rw[et]
  refine⟨fun hd=>by simp[dm]at hd,RoundIn.mono (h2 (k - 1)) fun e w' ⟨aE,o',nx',v,k1,k2,k3⟩=> ?_⟩
  cases e with
  |returned val=>exact Mv
  |panicked ch=>
   obtain⟨val,rfl,k4,k5⟩:=k3
   exact UY
  |outgrown=>exact k3.elim
 ·exact h.elim
theorem EI(hs:bS M b7 H0 w0 n cx φ s a w){o:Oper}{c:Call}{r:Operand}{m:String}{g:FuncId}{y:V}(fN:o.op= .call c)(hc:c.callee= .invoke r m)(cz:fy n o.dst)(hr:sw P m (s.ev r)=some (g,y))
 (h:sv P s g (y::c.args.toList.map s.ev) (fun v o' nx'=>K ⟨aT s.env o.dst v,o',nx'⟩) (fun v o' nx'=>X v ⟨s.env,o',nx'⟩))
 (hN:∀s' aE a' w',K s'->bS M b7 H0 w0 n cx aE s' a' w'->next a' w')
 (hQ:∀v s' aE w' val,X v s'->bS M b7 H0 w0 n cx aE s' a w'->V.den (ak M aE s'.H) aE s'.H w' v val->Q (.panic [{v:=val,recovered:=false}]) a w'):o.wpIn (dm ro) k P a w next Q:=by
 refine jx (fun c' EH=>by rw[fN]at EH;cases EH) ?_
 have hf:=lH (M:=M) (φ:=φ) (H:=s.H) (w:=w) s a hs.env r
 have dn:=jt (M:=M) (φ:=φ) (H:=s.H) (w:=w) s a hs.env c.args.toList
 unfold sw at hr
 split at hr
 ·rename_i t d hx
  rw[hx]at hf
  obtain⟨val,hv,hd⟩:=hf
  split at hr
  ·rename_i ti hti
   split at hr
   ·rename_i mr rH
    split at hr
    ·rename_i f FY
     split at hr
     ·rename_i Ng
      injection hr with hr
      injection hr with h1 h2
      subst h1;subst h2
      refine za (vals:=#[val]++c.args.map a.eval) hs cz ?_ ?_ h hN hQ
      ·intro he
       have et:=j6 (w:=w) he (#[val]++c.args.map a.eval)
       have JJ:mr.path=#[]:=Array.isEmpty_iff.1 Ng.1
       have hu:∃u,P.underlying t=some u/\∀e,u≠ .pointer e:=by
        have:=Ng.2
        unfold Nd at this
        split at this
        ·cases this
        ·rename_i u ku hu;exact⟨u,hu,fun e he=>ku e he⟩
        ·cases this
       obtain⟨u,hu,Nh⟩:=hu
       have hm:(method (P.types.size+Made.depth) t val m).run P w= .ok (f,val) w:=by
        have:P.types.size+Made.depth=(P.types.size+Made.depth - 1)+1:=by simp[Made.depth]
        rw[this]
        cases u<;>first|exact absurd rfl (Nh _)|simp[method,typeInfo,hti,rH,JJ,FY,follow,receiverAt,run_underlying hu,_root_.Go.Place.get]
       have h0:(#[Value.iface t val]++Array.map a.eval c.args)[0]? =some (.iface t val):=by
        rw[Array.getElem?_append_left (by simp)];rfl
       have h1:(Array.map a.eval c.args).extract 0 c.args.size=Array.map a.eval c.args:=by
        rw[show c.args.size=(Array.map a.eval c.args).size from by simp,Array.extract_size]
       simp[execOp,fN,resolve,hc,invoke,callMethod,hv,h0,h1,hm,et]
      ·simp only[Array.toList_append,Array.toList_map]
       exact⟨val,_,rfl,hd,dn⟩
     ·cases hr
    ·cases hr
   ·cases hr
  ·cases hr
 ·cases hr
theorem vg(hs:bS M b7 H0 w0 n cx φ s a w){o:Oper}(h:opW P n s o X K)
 (hN:∀s' aE a' w',K s'->bS M b7 H0 w0 n cx aE s' a' w'->next a' w')
 (hQ:∀v s' aE w' val,X v s'->bS M b7 H0 w0 n cx aE s' a w'->V.den (ak M aE s'.H) aE s'.H w' v val->Q (.panic [{v:=val,recovered:=false}]) a w'):o.wpIn (dm ro) k P a w next Q:=by
 obtain⟨cz,h⟩:=h
 split at h
 ·rename_i c fN
  split at h
  ·rename_i f hc
   exact KF hs fN hc cz h hN hQ
  ·rename_i r m hc
   split at h
   ·rename_i g y hr;exact EI hs fN hc cz hr h hN hQ
   ·exact h.elim
  ·exact Hi hs rfl cz h hN
 ·rename_i x fN
  have hx:=lH (M:=M) (φ:=φ) (H:=s.H) (w:=w) s a hs.env x
  have bD:∀ (t:TypeId) (u:Value),a.eval x= .iface t u->Q (.panic [{v:= .iface t u,recovered:=false}]) a w->o.wpIn (dm ro) k P a w next Q:=by
   intro t u hu hq
   refine jx (fun c hc=>by rw[fN]at hc;cases hc) ?_
   have hr:(execOp a.eval o).run P w= .halt (.panic (.iface t u)) w:=by simp[execOp,fN,hu,Instr.panic]
   rw[hr];exact hq
  split at h
  ·rename_i t y hv
   rw[hv]at hx
   obtain⟨u,hu,hd⟩:=hx
   exact Mx
  ·rename_i t y hv
   rw[hv]at hx
   obtain⟨u,hu,hd⟩:=hx
   exact Mx
  ·exact h.elim
 ·exact Hi hs rfl cz h hN
end
end
end Go.Proofs.YtnkamdiiakdkgaaGreat
namespace Go
def Code.rk (P:Program)(ro:Option Nat)(c:Code)(Q:Exit->Act->World->Prop)(a:Act)(w:World):Prop:=
 ∀ (b:Frame) (k:List Item) (cs:List Frame),b.roundOf=ro->b.fn<P.funcs.size->
   ∃e a' w',Q e a' w'/\ArrivesIn (Machine.fenced P (Proofs.YtnkamdiiakdkgaaGreat.dm ro)) P (lone (b.atR a (.code c::k)) cs w) b k cs e a' w'
end Go
namespace Go.Proofs.YtnkamdiiakdkgaaGreat
instance:LawfulMonad Sem:=LawfulMonad.mk' Sem (id_map:=fun x=>Sem.bind_pure' x) (pure_bind:=fun _ _=>rfl) (bind_assoc:=fun x f g=>Sem.bind_assoc' x f g)
section
variable {P:Program}{M:Nat->Prop}{φ:Place}{H:Hp}{w w':World}{b7:Place}{H0:Hp}{w0:World}{n b:Nat}{s:S}{a:Act}{cx:Cx}{ro:Option Nat}{k:Nat}
theorem oz(hs:bS M b7 H0 w0 n cx φ s a w){ops:Array Oper}{o:Oper}{A B:Prop}(h:wK s ops o.guard A B):
 (Region.wanted o (yielded ops a.tmps)=true->A)/\(Region.wanted o (yielded ops a.tmps)=false->B):=by
 unfold wK at h
 unfold Region.wanted
 split at h
 ·rename_i hg;simp only[hg];exact⟨fun _=>h,fun h=>by cases h⟩
 ·rename_i j want hg
  simp only[hg]
  unfold qt at h
  unfold yielded
  split at h
  ·rename_i d hd
   simp only[hd,Option.bind_some]
   have dz:=hs.env d
   split at h
   ·rename_i c hv
    rw[hv]at dz
    simp only[V.den,D.den]at dz
    have:a.tmps[d]? =some (.bool c):=by
     rw[Array.getD_eq_getD_getElem?]at dz
     cases hx:a.tmps[d]? with
     |none=>rw[hx]at dz;simp[undef]at dz
     |some x=>rw[hx]at dz;simp at dz;rw[dz]
    simp only[this]
    by_cases hc:c=want
    ·subst hc;exact⟨fun _=>h.1 rfl,fun h=>by simp at h⟩
    ·exact⟨fun h'=>absurd (by simpa using h') hc,fun _=>h.2 hc⟩
   ·rename_i hv
    rw[hv]at dz
    obtain⟨arr,cM,hn⟩:=dz
    simp only[V.az]at hn
    have:∀c,a.tmps[d]? ≠some (.bool c):=by
     exact M0
    cases hx:a.tmps[d]? with
    |none=>exact⟨fun h=>by simp at h,fun _=>h⟩
    |some x=>cases x<;>first|(exact absurd hx (this _))|(exact⟨fun h=>by simp at h,fun _=>h⟩)
   ·exact h.elim
  ·rename_i hd
   simp only[hd,Option.bind_none]
   exact⟨fun h=>by simp at h,fun _=>h⟩
theorem zc(hs:bS M b7 H0 w0 n cx φ s a w){dst:Option Tmp}(cz:fy n dst):bS M b7 H0 w0 n cx φ ⟨aT s.env dst (.bP []),s.o,s.nx+1⟩ (a.put dst undef) w:=
 mw (v:= .bP []) (val:=undef) hs hs.heap (Trans.refl _ _ _) ⟨#[],rfl,rfl⟩ cz rfl fun _ hu=>Nat.lt_succ_of_lt hu
theorem nz{ops:Array Oper}{X:V->S->Prop}{K:S->Prop}{Q:Exit->Act->World->Prop}
 (hK:∀s φ a w,K s->bS M b7 H0 w0 n cx φ s a w->Q .normal a w)
 (hQ:∀v s' aE a w' val,X v s'->bS M b7 H0 w0 n cx aE s' a w'->V.den (ak M aE s'.H) aE s'.H w' v val->Q (.panic [{v:=val,recovered:=false}]) a w'):
 ∀ (l:List Oper) (s:S) (φ:Place) (a:Act) (w:World),wL P n ops X K l s->bS M b7 H0 w0 n cx φ s a w->wpListIn (dm ro) k P ops Q l a w
 |[],s,φ,a,w,h,hs=>hK s φ a w h hs
 |o::l,s,φ,a,w,h,hs=>by
  obtain⟨h1,h2⟩:=oz hs h
  unfold wpListIn
  split
  ·rename_i hw
   exact vg hs (h1 hw) (fun s' aE a' w' hk jl=>nz hK hQ l s' aE a' w' hk jl) (fun v s' aE w' val hx jl hd=>hQ v s' aE a w' val hx jl hd)
  ·rename_i hw
   obtain⟨cz,h3⟩:=h2 (by simpa using hw)
   exact⟨fun _ _=>trivial,nz hK hQ l _ _ _ _ h3 (zc hs cz)⟩
def C2(M:Nat->Prop)(b7:Place)(H0:Hp)(w0:World)(n:Nat)(cx:Cx)(Q:eK->S->Prop)(e:Exit)(a:Act)(w:World):Prop:=
 ∃x s φ,Q x s/\bS M b7 H0 w0 n cx φ s a w/\match e,x with
  | .normal, .normal=>True
  | .exit i, .exit j=>i=j
  | .ret, .ret=>True
  | .panic ch, .bD v=>∃val,ch=[{v:=val,recovered:=false}]/\V.den (ak M φ s.H) φ s.H w v val
  |_,_=>False
section
variable {Q:Exit->Act->World->Prop}
theorem fC{m:Nat}:(dm ro).room m:=fun d hd=>by simp[dm]at hd
theorem nA{c:Code}(h:c.wpIn (dm ro) k P Q a w):c.rk P ro Q a w:=fun b k cs rH _=>h b k cs rH trivial fC
theorem fD{c:Code}{Q':Exit->Act->World->Prop}(h:c.rk P ro Q a w)(hq:∀e a w,Q e a w->Q' e a w):c.rk P ro Q' a w:=
 fun b k cs rH hb=>let⟨e,a',w',q,r⟩:=h b k cs rH hb;⟨e,a',w',hq _ _ _ q,r⟩
theorem C3(h:Q .ret a w):Code.ret.rk P ro Q a w:=nA (k:=0) (wpIn_ret h)
theorem zd{id:Nat}(h:Q (.exit id) a w):(Code.exit id).rk P ro Q a w:=nA (k:=0) (wpIn_exit h)
theorem wO{x y:Code}(h:x.rk P ro (Exit.then (y.rk P ro Q) Q) a w):(Code.seq x y).rk P ro Q a w:=by
 intro b k cs rH hb
 have h0:(lone (b.atR a (.code (.seq x y)::k)) cs w).fenced P (dm ro):=fenced_calm (n:=0) trivial fC rfl
 obtain⟨e,mO,iG,hq,cM⟩:=h b (.code y::k) cs rH hb
 cases e with
 |normal=>
  obtain⟨Qg,V4,pS,oA,jy⟩:=hq b k cs rH hb
  exact⟨Qg,V4,pS,oA, .of_steps (.head h0 stepR_seq cM) jy⟩
 |exit id=>exact Gg
 |goto l=>exact Gg
 |ret=>exact Gg
 |panic ch=>exact Gg
 |outgrown=>exact Gg
theorem oB{c:Operand}{x y:Code}{t:Bool}(hc:a.eval c= .bool t)(h:(if t then x else y).rk P ro Q a w):(Code.cond c x y).rk P ro Q a w:=
 fun b k cs rH hb=>let⟨e,a',w',q,r⟩:=h b k cs rH hb;⟨e,a',w',q, .of_steps (.one (fenced_calm (n:=0) trivial fC rfl) (stepR_cond hc)) r⟩
theorem EJ{id:Nat}{c:Code}(h:c.rk P ro (Exit.inBlock id Q) a w):(Code.block id c).rk P ro Q a w:=by
 intro b k cs rH hb
 have h0:(lone (b.atR a (.code (.block id c)::k)) cs w).fenced P (dm ro):=fenced_calm (n:=0) trivial fC rfl
 obtain⟨e,mO,iG,hq,cM⟩:=h b (.inBlock id::k) cs rH hb
 cases e with
 |normal=>exact⟨.normal,mO,iG,hq, .head h0 stepR_block (StepsIn.trans cM (.one (fenced_calm (n:=0) trivial fC rfl) stepR_inBlock))⟩
 |exit A6=>
  by_cases au:A6=id
  ·simp only[Exit.inBlock,au,if_true]at hq
   exact⟨.normal,mO,iG,hq, .head h0 stepR_block (cM.1 k (by simp[exitTo,au]))⟩
  ·simp only[Exit.inBlock,au,if_false]at hq
   have this:(id==A6)=false:=by simp;exact fun h=>au h.symm
   have hx:exitTo A6 (.inBlock id::k)=exitTo A6 k:=by simp[exitTo,this]
   exact⟨.exit A6,mO,iG,hq,fun k' hk=> .head h0 stepR_block (cM.1 k' uR),
    fun wI hk=>let⟨k₁,h1,h2⟩:=cM.2 wI uR;⟨k₁,h1, .head h0 stepR_block h2⟩⟩
 |goto l=>
  have hx:gotoIn l (.inBlock id::k)=gotoIn l k:=by simp[gotoIn]
  exact⟨_,mO,iG,hq,fun k' hk=> .head h0 stepR_block (cM.1 k' uR),
   fun wI hk=>let⟨k₁,h1,h2⟩:=cM.2 wI uR;⟨k₁,h1, .head h0 stepR_block h2⟩⟩
 |ret=>exact Pz
 |panic ch=>exact Pz
 |outgrown=>exact Pz
theorem jq{b:Frame}{k:List Item}{cs:List Frame}{c:Code}:step P (lone (b.atR a (.code (.scope c)::k)) cs w)= .next (lone (b.atR a (.code c:: .inScope c::k)) cs w):=
 step_lone_go (by simp[stepG,stepG.exec,Frame.atR])
theorem ux{b:Frame}{k:List Item}{cs:List Frame}{c:Code}:step P (lone (b.atR a (.inScope c::k)) cs w)= .next (lone (b.atR a k) cs w):=
 step_lone_go (by simp[stepG,stepG.exec,Frame.atR])
theorem vh{c:Code}(h:c.rk P ro Q a w)(hg:∀l a w, ¬Q (.goto l) a w):(Code.scope c).rk P ro Q a w:=by
 intro b k cs rH hb
 have h0:(lone (b.atR a (.code (.scope c)::k)) cs w).fenced P (dm ro):=fenced_calm (n:=0) trivial fC rfl
 obtain⟨e,mO,iG,hq,cM⟩:=h b (.inScope c::k) cs rH hb
 cases e with
 |normal=>exact⟨.normal,mO,iG,hq, .head h0 jq (StepsIn.trans cM (.one (fenced_calm (n:=0) trivial fC rfl) ux))⟩
 |exit A6=>
  have hx:exitTo A6 (.inScope c::k)=exitTo A6 k:=by simp[exitTo]
  exact⟨.exit A6,mO,iG,hq,fun k' hk=> .head h0 jq (cM.1 k' uR),
   fun wI hk=>let⟨k₁,h1,h2⟩:=cM.2 wI uR;⟨k₁,h1, .head h0 jq h2⟩⟩
 |goto l=>exact(hg _ _ _ hq).elim
 |ret=>exact PA
 |panic ch=>exact PA
 |outgrown=>exact PA
def sy(P:Program)(l:Nat)(Q:Exit->Act->World->Prop)(a':Act):Ending->World->Prop
 | .returned _,BE=>∃jump rl,(Instr.endLoop l).run P BE= .ok jump rl/\(match jump with|none=>Q .normal a' rl|some c=>c.rk P none Q a' rl)
 | .panicked chain,BE=>Q (.panic chain) a' BE
 | .outgrown,_=>LetsOut Q
theorem uy{g:Operand}{ps:Array Tmp}{assign body:Code}
 (h:∀fn,fn<P.funcs.size->∃ (l:Nat) (mark:List Deferred) (iG:World) (d:Deferred) (vi:World) (f:FuncId) (args:Array Value) (pS:World),
  (Instr.enterLoop fn a.tmps ps assign body (dm none).round).run P w= .ok (l,mark) iG/\(resolve a.eval (rangeCall g l) 0).run P iG= .ok d vi/\
  (invoke d.target d.args).run P vi= .ok (.enter f args) pS/\CallsIn (dm none) 0 P f args pS (sy P l Q {a with defers:=mark++a.defers})):
 (Code.rangeFunc g ps assign body).rk P none Q a w:=by
 intro b k cs rH hb
 obtain⟨l,mark,iG,d,vi,f,args,pS,he,wP,hinv,hF,dW⟩:=h b.fn hb
 rw[show(dm none).round=b.roundOf from rH.symm]at he
 have calm:∀ (m:Machine),m.fenced P (dm none)↔m.fenced P Fence.wide:=fun m=>Iff.rfl
 have h0:(lone (b.atR a (.code (.rangeFunc g ps assign body)::k)) cs w).fenced P (dm none):=(calm _).2 (fenced_wide P _)
 have kI:=stepR_rangeFunc (P:=P) (b:=b) (a:=a) (k:=k) (cs:=cs) (w:=w) he wP hinv
 obtain⟨e,BE,fr,hR,BF,FY,Hn⟩:=dW (b.atR {a with defers:=mark++a.defers} (.inRangeFunc l::k)::cs) fC
 cases e with
 |outgrown=>
  obtain⟨aaC,aaD,hq⟩:=hR
  exact⟨.outgrown,aaC,aaD,hq, .inr (Outgrown.of_steps (.one kI) BF)⟩
 |returned v=>
  obtain⟨jump,rl,cm,hj⟩:=hR
  have Ni:StepsIn (Machine.fenced P (dm none)) P (lone (b.atR a (.code (.rangeFunc g ps assign body)::k)) cs w) (lone (b.atR {a with defers:=mark++a.defers} ((jump.map Item.code).toList++k)) cs rl):=by
   refine .head h0 kI (StepsIn.trans BF (.head ((calm _).2 (fenced_wide P _)) ?_ (.one ((calm _).2 (fenced_wide P _)) (stepR_endRangeFunc cm))))
   rw[<- finish_atR_inRangeFunc l v];exact step_leave_returned Hn
  cases jump with
  |none=>exact⟨.normal,_,rl,hj,Ni⟩
  |some c=>
   obtain⟨e',a'',aaE,hq,cM⟩:=hj b k cs rH hb
   exact⟨e',a'',aaE,hq, .of_steps Ni cM⟩
 |panicked chain=>
  refine⟨.panic chain,_,BE,hR, .inRangeFunc l::k, .head h0 kI (StepsIn.trans BF (.one ((calm _).2 (fenced_wide P _)) ?_))⟩
  rw[<- Frame.raise_atR];exact step_leave_panicked Hn
end
theorem vj(hH:ax M φ H w){id l:Nat}(dG:H.us id){nf m:Nat}{env:List V}{ps:List Nat}{iL eI:IC}{st st':LoopState}{pd pd':Option jh}(ho:H.o id= .loop nf m env ps iL eI st pd)(dD:φ id= .pointer (some ⟨l,0,none⟩)):
 ∃r,w.heap[l]? =some (.loop r)/\r.state=st/\r.pending=pd.map jh.code/\
  ax M φ (H.put [(id, .loop nf m env ps iL eI st' pd')]) {w with heap:=w.heap.setIfInBounds l (.loop {r with state:=st',pending:=pd'.map jh.code})}/\
  Trans φ H w φ (H.put [(id, .loop nf m env ps iL eI st' pd')]) {w with heap:=w.heap.setIfInBounds l (.loop {r with state:=st',pending:=pd'.map jh.code})}:=by
 have aU:=hH.ok id
 simp only[aM,ho]at aU
 obtain⟨b,r,h1,h2,h0,h3,h4,h5,h6,h7,h8,h9⟩:=aU
 rw[dD]at h1;simp at h1;subst h1
 refine⟨r,h2,h3,h4, ?_⟩
 have Ha:dk (· =l) w {w with heap:=w.heap.setIfInBounds l (.loop {r with state:=st',pending:=pd'.map jh.code})}:=
  ⟨rfl,rfl,rfl,aK,fun j _ hj=>(MapKept.heap_set h2).2 j hj⟩
 have uv:(H.o id).live=true:=by rw[ho];rfl
 have Bz:cX (φ id)=some l:=by rw[dD];rfl
 have ht:=dU (w:=w) (w':={w with heap:=w.heap.setIfInBounds l (.loop {r with state:=st',pending:=pd'.map jh.code})}) dG uv Bz Ha (.loop nf m env ps iL eI st' pd') dP dP
 refine⟨fV hH dG uv Bz Ha _ dP dP ?_,ht⟩
 unfold aM
 simp only[bA,aH,if_true]
 exact⟨l,_,dD,(MapKept.heap_set h2).1,h0,rfl,rfl,h5,h6,h7,h8,fun i=>V.aL ht _ _ (h9 i)⟩
theorem gX{l:Nat}{r:Loop}(o:Obj)(hb:w.heap[l]? =some (.loop r)):(setObj l o).run P w= .ok () {w with heap:=w.heap.setIfInBounds l o}:=by
 simp[setObj,Sem.run,hb]
theorem jz{l:Nat}{r:Loop}(hb:w.heap[l]? =some (.loop r)):(Instr.getLoop l).run P w= .ok r w:=by
 simp[Instr.getLoop,getObj,Sem.run,hb,Result.andThen]
end
def nB(Q:eK->S->Prop)(pd:Option jh)(s:S):Prop:=
 match pd with
 |none=>Q .normal s
 |some .ret=>Q .ret s
 |some (.exit id)=>Q (.exit id) s
def ze(P:Program)(n:Nat)(g:V)(ps:List Nat)(iL eI:IC)(Q:eK->S->Prop)(s:S):Prop:=
 ∃env,(∀i,aW env i= .aa\/aW env i=s.env i)/\
  match g with
  | .func (.func f) first cap=>m6 P f (first++[.ir s.nx]++cap) (aA s.o s.nx (.loop P.funcs.size n env ps iL eI .ready none)) (s.nx+1)
    (fun _ o' nx'=>∃nf m e p c d st pd,o' s.nx= .loop nf m e p c d st pd/\st≠ .busy/\nB Q pd ⟨s.env,aA o' s.nx (.loop nf m e p c d .exhausted pd),nx'⟩)
    (fun v o' nx'=>Q (.bD v) ⟨s.env,o',nx'⟩)
  |_=>False
def V5(P:Program)(n b:Nat)(g:Operand)(ps:List Nat)(iL eI:IC)(Q:eK->S->Prop)(s:S):Prop:=∃s',(s'=s\/bf b s s')/\ze P n (s'.ev g) ps iL eI Q s'
def ik(P:Program)(n b:Nat)(rd:Bool):Code->(eK->S->Prop)->S->Prop
 | .skip,Q,s=>Q .normal s
 | .label _,Q,s=>Q .normal s
 | .scope x,Q,s=>ik P n b rd x Q s
 | .region _ ops false,Q,s=>wL P n ops (fun v s=>Q (.bD v) s) (Q .normal) ops.toList s
 | .region id ops true,Q,s=>∀M b7 H0 w0 cx φ a w ro k,bS M b7 H0 w0 n cx φ s a w->(Code.region id ops true).wpIn (dm ro) k P (C2 M b7 H0 w0 n cx Q) a w
 | .seq x y,Q,s=>ik P n b rd x (ox (ik P n b rd y Q) Q) s
 | .cond c x y,Q,s=>match s.ev c with
   | .d (.bool t)=>(t=true->ik P n b rd x Q s)/\(t=false->ik P n b rd y Q s)
   | .ey=>ik P n b rd x Q s/\ik P n b rd y Q s
   |_=>False
 | .block id x,Q,s=>ik P n b rd x (ez id Q) s
 | .loop x,Q,s=>∃ (J:Nat->S->Prop),(∃m s1,bf b s s1/\J m s1)/\∀m s0,J m s0->ik P n b rd x (fun e s=>match e with| .normal=>∃m' s1,m'<m/\bf b s s1/\J m' s1|e=>Q e s) s0
 | .exit id,Q,s=>Q (.exit id) s
 | .ret,Q,s=>Q .ret s
 | .rangeFunc g ps x y,Q,s=>rd=false/\V5 P n b g ps.toList (low n x) (low n y) Q s
 |_,_,_=>False
section
variable {P:Program}{M:Nat->Prop}{φ:Place}{H:Hp}{w w':World}{b7:Place}{H0:Hp}{w0:World}{n b:Nat}{s:S}{a:Act}{cx:Cx}{ro:Option Nat}{k:Nat}
theorem BG(hb:∀id,H0.us id->id<b)(hs:bS M b7 H0 w0 n cx φ s a w){s':S}(h:bf b s s'):∃aE,bS M b7 H0 w0 n cx aE s' a w:=by
 obtain⟨aE,h1,h2,h3,h4,h5,h6⟩:=h M φ w (fun i=>a.tmps.getD i undef) hs.heap hs.env
 refine⟨aE,h1,⟨hs.tr.keep,fun k hk=>hs.tr.grow k (h3 k hk),⟨fun id hu=>Nat.lt_of_lt_of_le (hb id hu) h4,fun id hu hr=> ?_,fun id e' hu he=> ?_⟩⟩,hs.size, ?_,h2⟩
 ·obtain⟨g1,g2⟩:=h5 id (hb id hu) hr
  obtain⟨g3,g4⟩:=hs.tr.rel.row id hu g1
  exact⟨g3,g2.trans g4⟩
 ·obtain⟨e,g1,g2,g3⟩:=h6 id e' (hb id hu) he
  obtain⟨e0,k1,k2,k3⟩:=hs.tr.rel.ep id e hu g1
  refine⟨e0,k1,Nat.le_trans k2 g2,fun heq=> ?_⟩
  have a1:e0=e:=ag
  have a2:e=e':=ag
  exact(g3 a2).trans (k3 a1)
 ·obtain⟨ms,g1,g2,g3,g4⟩:=hs.defers
  exact⟨ms,g1,g2,g3,fun r hr=>⟨(g4 r hr).1,(g4 r hr).2.1,fun hl=>(g4 r hr).2.2 (h3 r hl)⟩⟩
theorem wQ{c:Code}{Q:Exit->Act->World->Prop}(J:Nat->Act->World->Prop)(round:∀m a w,J m a w->c.rk P ro (Exit.then (fun a' w'=>∃m',m'<m/\J m' a' w') Q) a w):
 ∀m a w,J m a w->(Code.loop c).rk P ro Q a w:=by
 intro m a w h0 fr kk cs rH hb
 have hr:(dm ro).room (cs.length+1+0):=fun d hd=>by simp[dm]at hd
 have key:∀m a w,J m a w->∃e a' w',Q e a' w'/\ArrivesIn (Machine.fenced P (dm ro)) P (lone (fr.atR a (.code c:: .inLoop c::kk)) cs w) fr kk cs e a' w':=by
  intro m
  induction m using Nat.strongRecOn with
  |_ m ih=>
   intro a w hJ
   obtain⟨e,a1,w1,hq,cM⟩:=round m a w hJ fr (.inLoop c::kk) cs rH hb
   cases e with
   |normal=>
    obtain⟨m',cc,hJ'⟩:=hq
    obtain⟨e2,a2,w2,Th,C4⟩:=ih m' cc a1 w1 hJ'
    exact⟨e2,a2,w2,Th, .of_steps (StepsIn.trans cM (.one (fenced_calm trivial hr rfl) stepR_inLoop)) C4⟩
   |_=>exact⟨_,a1,w1,hq, .pass (x:= .inLoop c) rfl (fun _ _=> .inl aK) cM⟩
 obtain⟨e,a',w',hq,cM⟩:=key m a w h0
 exact⟨e,a',w',hq, .of_steps (.one (fenced_calm trivial hr rfl) stepR_loop) cM⟩
theorem vk(hs:bS M b7 H0 w0 n cx φ s a w)(mP:cx.rd=false)(rH:ro=none){g:Operand}{ps:Array Tmp}{x y:Code}{Q:eK->S->Prop}(h:ze P n (s.ev g) ps.toList (low n x) (low n y) Q s):
 (Code.rangeFunc g ps x y).rk P ro (C2 M b7 H0 w0 n cx Q) a w:=by
 subst rH
 obtain⟨env,dz,h⟩:=h
 refine uy fun fn FY=> ?_
 let BH:Loop:={state:= .ready,pending:=none,fn:=fn,tmps:=a.tmps,params:=ps,assign:=x,body:=y,defers:=w.heap.size}
 let w1:World:=(w.alloc (.deferred (some []))).alloc (.loop BH)
 let l:Nat:=w.heap.size+1
 have kI:(Instr.enterLoop fn a.tmps ps x y (dm none).round).run P w= .ok (l,[mark w.heap.size]) w1:=by
  simp[Instr.enterLoop,dm,mark,w1,l,BH]
 have V6:dk (fun _=>False) w w1:=by
  have k1:=b8 w (.deferred (some []))
  have k2:=b8 (w.alloc (.deferred (some []))) (.loop BH)
  exact⟨k2.os.trans k1.os,k2.tape.trans k1.tape,k2.output.trans k1.output,Nat.le_trans k1.size k2.size,fun j hj hm=>(k2.block j (Nat.lt_of_lt_of_le hj k1.size) hm).trans (k1.block j hj hm)⟩
 let gU:=aA φ s.nx (.pointer (some ⟨l,0,none⟩))
 let s1:S:=⟨s.env,aA s.o s.nx (.loop P.funcs.size n env ps.toList (low n x) (low n y) .ready none),s.nx+1⟩
 have cJ: ¬s.H.us s.nx:=by simp[S.H]
 have ef:∀b,cX (.pointer (some ⟨l,0,none⟩))=some b->w.heap.size<=b/\b<w1.heap.size:=by
  intro b hb;simp[cX]at hb;subst hb;simp[l,w1]
 have A5:=dE (φ:=φ) (H:=s.H) V6 cJ (.loop P.funcs.size n env ps.toList (low n x) (low n y) .ready none) (.pointer (some ⟨l,0,none⟩)) fun b hb=>(ef b hb).1
 have Kv:(w.alloc (.deferred (some []))).heap.size=w.heap.size+1:=aK
 have uv:w1.heap[l]? =some (.loop BH):=by
  have:=heap_alloc_new (w.alloc (.deferred (some []))) (.loop BH)
  rwa [Kv]at this
 have Eg:=gI hs.heap V6 cJ (.loop P.funcs.size n env ps.toList (low n x) (low n y) .ready none) (.pointer (some ⟨l,0,none⟩)) ef (by
  unfold aM
  simp only[bA,aH,if_true]
  refine⟨l,BH,rfl,uv,FY,rfl,rfl,rfl,hs.size,rfl,rfl,fun i=> ?_⟩
  rcases dz i with e|e
  ·rw[e];trivial
  ·rw[e];exact V.aL A5 _ _ (hs.env i))
 have vl:bS M b7 H0 w0 n cx gU s1 {a with defers:=mark w.heap.size::a.defers} w1:=by
  have base:=dR hs Eg A5 (o':=aA s.o s.nx (.loop P.funcs.size n env ps.toList (low n x) (low n y) .ready none)) (nx':=s.nx+1) rfl (Hh fun id au=>by simp at au;exact .inr au)
  refine⟨base.heap,base.tr,base.size, ?_,base.env⟩
  obtain⟨ms,g1,g2,g3,g4⟩:=base.defers
  obtain⟨ms',q1,q2,q3,q4⟩:=hs.defers
  have hmm:ms.map mark=ms'.map mark:=by
   have:ms.map mark++cx.base=ms'.map mark++cx.base:=g1.symm.trans q1
   exact List.append_cancel_right this
  have Qh:ms=ms':=by
   have hm:∀a b,mark a=mark b->a=b:=fun a b h=>by simpa[mark]using h
   exact List.map_inj_right hm |>.1 hmm
  refine⟨w.heap.size::ms,by rw[g1];rfl,List.nodup_cons.2 ⟨fun hm=> ?_,g2⟩,(fun h=>by rw[mP]at h;cases h),fun r hr=> ?_⟩
  ·have:=(q4 w.heap.size (Qh ▸ hm)).2.1
   rw[Array.getElem?_eq_none (Nat.le_refl _)]at this;cases this
  ·rcases List.mem_cons.1 hr with rfl|hr
   ·refine⟨hs.tr.keep.size,(RowKit.Below.heap_alloc (w.alloc (.deferred (some []))) (.loop BH) w.heap.size (by rw[Kv];omega)).trans (heap_alloc_new w _), ?_⟩
    rintro⟨id,i1,i2⟩
    by_cases e:id=s.nx
    ·subst e;simp[gU,cX,l]at i2
    ·have i1':(s.H.o id).live=true:=by simpa[s1,S.H,e]using i1
     have i2':cX (φ id)=some w.heap.size:=by simpa[gU,e]using i2
     have:=(hs.heap.ours _ ⟨id,i1',i2'⟩).2
     omega
   ·exact g4 r hr
 have aaF:V.den (ak M gU s1.H) gU s1.H w1 (.ir s.nx) (.func (.yield l) #[] #[]):=
  ⟨rfl,by simp[s1,S.H],fun _=>⟨l,by simp[gU],rfl⟩⟩
 have hg:=lH (M:=M) (φ:=gU) (H:=s1.H) (w:=w1) s1 {a with defers:=mark w.heap.size::a.defers} vl.env g
 have aaG:s1.ev g=s.ev g:=by cases g<;>rfl
 rw[aaG]at hg
 have hae:({a with defers:=mark w.heap.size::a.defers}:Act).eval g=a.eval g:=rfl
 rw[hae]at hg
 split at h
 ·rename_i f first cap hgv
  rw[hgv]at hg
  obtain⟨fa,ca,Hl,CL,Zy⟩:=hg
  have fin:∀ (all:List V) (o2:Nat->ab) (s2:S),s2=⟨s.env,o2,s.nx+1⟩->bS M b7 H0 w0 n cx gU s2 {a with defers:=mark w.heap.size::a.defers} w1->V.az (ak M gU s2.H) gU s2.H w1 all (fa++#[Value.func (.yield l) #[] #[]]++ca).toList->(o2 s.nx).bW=true->
   cZ P f all o2 (s.nx+1) (fun _ o' nx'=>∃nf m e p c d st pd,o' s.nx= .loop nf m e p c d st pd/\st≠ .busy/\nB Q pd ⟨s.env,aA o' s.nx (.loop nf m e p c d .exhausted pd),nx'⟩) (fun v o' nx'=>Q (.bD v) ⟨s.env,o',nx'⟩)->
   ∃ (l:Nat) (mark:List Deferred) (iG:World) (d:Deferred) (vi:World) (f:FuncId) (args:Array Value) (pS:World),
     (Instr.enterLoop fn a.tmps ps x y (dm none).round).run P w= .ok (l,mark) iG/\(resolve a.eval (rangeCall g l) 0).run P iG= .ok d vi/\
     (invoke d.target d.args).run P vi= .ok (.enter f args) pS/\CallsIn (dm none) 0 P f args pS (sy P l (C2 M b7 H0 w0 n cx Q) {a with defers:=mark++a.defers}):=by
   intro all o2 s2 aaH JK aX bG hC
   subst aaH
   have dW:=hC.2 M gU w1 _ JK.heap aX
   refine⟨l,[mark w.heap.size],w1,{target:= .fn (.func f) ca,args:=fa++#[Value.func (.yield l) #[] #[]]},w1,f,fa++#[Value.func (.yield l) #[] #[]]++ca,w1,kI, ?_, ?_,cI (dW.mono fun e w' ⟨aE,o',nx',v,k1,k2,k3⟩=> ?_)⟩
   ·simp only[resolve,Hl,Deferred.ofValue,List.map_toArray,List.map_cons,List.map_nil,Sem.run_pure]
    rfl
   ·simp[invoke,j6 hC.1]
   ·cases e with
    |returned val=>
     obtain⟨k4,nf,m,e,p,c,d,st,pd,k5,k6,k7⟩:=k3
     have C5:bS M b7 H0 w0 n cx aE ⟨s.env,o',nx'⟩ {a with defers:=mark w.heap.size::a.defers} w':=dR JK k1 k2 rfl fun id hu=>hu
     have Qi:aE s.nx= .pointer (some ⟨l,0,none⟩):=by
      have:=(k2.rel.row s.nx (show s.nx<s.nx+1 from ag) (by show(o' s.nx).bW=true;rw[k5];rfl)).2
      rw[this];simp[gU]
     have cc:s.nx<nx':=k2.rel.us s.nx (show s.nx<s.nx+1 from ag)
     obtain⟨r,r1,r2,r3,r4,r5⟩:=vj (st':= .exhausted) (pd':=pd) k1 cc (show(hp o' nx').o s.nx=_ from k5) Qi
     have cm:(Instr.endLoop l).run P w'= .ok (pd.map jh.code) {w' with heap:=w'.heap.setIfInBounds l (.loop {r with state:= .exhausted,pending:=pd.map jh.code})}:=by
      have e1:({r with state:= .exhausted}:Loop)={r with state:= .exhausted,pending:=pd.map jh.code}:=by rw[<- r3]
      have hnb:(r.state==LoopState.busy)=false:=by rw[r2];cases st<;>first|rfl|exact absurd rfl k6
      simp only[Instr.endLoop,Sem.run_bind,jz r1,Result.andThen_ok,hnb,Bool.false_eq_true,if_false,Sem.run_pure]
      rw[gX _ r1,e1]
      simp[r3]
     have Ti:=dR C5 r4 r5 (o':=aA o' s.nx (.loop nf m e p c d .exhausted pd)) (nx':=nx') rfl fun id hu=>by
      simp only[dw]at hu
      rcases hu with hu|hu
      ·exact hu
      ·subst hu;exact cc
     refine⟨pd.map jh.code,_,cm, ?_⟩
     cases pd with
     |none=>exact⟨.normal,_,_,k7,Ti,trivial⟩
     |some j=>
      cases j with
      |ret=>exact C3 ⟨.ret,_,_,k7,Ti,trivial⟩
      |exit id=>exact zd ⟨.exit id,_,_,k7,Ti,rfl⟩
    |panicked ch=>
     obtain⟨val,rfl,k4,k5⟩:=k3
     have C5:bS M b7 H0 w0 n cx aE ⟨s.env,o',nx'⟩ {a with defers:=mark w.heap.size::a.defers} w':=dR JK k1 k2 rfl fun id hu=>hu
     exact⟨.bD v,_,_,k5,C5,val,rfl,k4⟩
    |outgrown=>exact k3.elim
  have lQ:V.az (ak M gU s1.H) gU s1.H w1 (first++[V.ir s.nx]++cap) (fa++#[Value.func (.yield l) #[] #[]]++ca).toList:=by
   rw[Array.toList_append,Array.toList_append]
   exact V.nT CL ⟨_,[],rfl,aaF,rfl⟩ Zy
  rcases h with hC|hC
  ·exact fin _ _ s1 rfl vl lQ (by simp;rfl) hC
  ·have nO:s1.o=aA s.o s.nx (.loop P.funcs.size n env ps.toList (low n x) (low n y) .ready none):=rfl
   obtain⟨f1,f2,f3,f4,f5⟩:=cA vl.heap (cL s1.o (first++[V.ir s.nx]++cap)) (fA _ _ s1.o lQ)
   have fX:s1.H.put (bZ s1.H.o (cL s1.o (first++[V.ir s.nx]++cap)))=hp (put s1.o (bZ s1.o (cL s1.o (first++[V.ir s.nx]++cap)))) s1.nx:=j5 (by rw[rD];exact fA _ _ s1.o lQ)
   have Nj:=Hk f1 _ _ f3 (V.aN f2 _ _ lQ)
   have Nk:((s1.H.put (bZ s1.H.o (cL s1.o (first++[V.ir s.nx]++cap)))).o s.nx).bW=true:=by
    by_cases hm:s.nx∈cL s1.o (first++[V.ir s.nx]++cap)
    ·rw[f3 _ hm];simp[s1,S.H,ab.fz,ab.bW]
    ·rw[f4 _ hm];simp[s1,S.H,ab.bW]
   rw[fX]at f1 f2 Nj Nk
   exact fin _ (put s1.o (bZ s1.o (cL s1.o (first++[V.ir s.nx]++cap)))) ⟨s.env,_,s.nx+1⟩ rfl (dR vl f1 f2 rfl fun id hu=>hu) Nj Nk hC
 ·exact h.elim
end
end Go.Proofs.YtnkamdiiakdkgaaGreat
