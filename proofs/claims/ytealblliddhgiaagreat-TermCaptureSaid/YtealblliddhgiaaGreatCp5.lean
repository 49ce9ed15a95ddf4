/-
  A PART OF THE PROOF. Conditions: none.
-/
import Derived.RangeFuncLeaves
import Derived.TacticsIn
import Derived.RecoverIn
import Derived.Test.YtealblliddhgiaaGreatCp4
set_option linter.unusedSimpArgs false
set_option linter.unusedVariables false
namespace Go.Proofs.YtealblliddhgiaaGreat
inductive R where
 |ret (ds:List D)|bK (d:D)
def R.is (B:Nat->Prop)(w:World):R->Ending->Prop
 | .ret [x], .returned v=>D.den B w x v
 | .ret ds, .returned v=>∃a,v= .tuple a/\D.aB B w ds a.toList
 | .bK d, .panicked chain=>∃v,chain=[{v:=v,recovered:=false}]/\D.den B w d v
 |_,_=>False
def Enters(P:Program)(f:FuncId):Prop:=∃fn,P.funcs[f]? =some fn/\(fn.name== "runtime.NumGoroutine")=false/\fn.body.isNone=false
def cq(P:Program)(f:FuncId)(ds:List D)(out:R):Prop:=
 Enters P f/\∀ (M:Nat->Prop) (w:World) (vals:Array Value),(∀b,M b->b<w.heap.size)->D.aB M w ds vals.toList->
  Calls P f vals w fun e w'=>eM (fun _=>False) w w'/\out.is M w' e
def hp(o:Nat->ae)(nx:Nat):Hp:=⟨o,fun id=>id<nx⟩
def mg(M:Nat->Prop)(φ:Place)(H:Hp)(w:World)(K X:V->(Nat->ae)->Nat->Prop)(e:Ending)(w':World):Prop:=
 ∃ax o' nx' v,au M ax (hp o' nx') w'/\Trans φ H w ax (hp o' nx') w'/\match e with
  | .returned val=>V.den (ai M ax (hp o' nx')) ax (hp o' nx') w' v val/\K v o' nx'
  | .panicked ch=>∃val,ch=[{v:=val,recovered:=false}]/\V.den (ai M ax (hp o' nx')) ax (hp o' nx') w' v val/\X v o' nx'
  | .outgrown=>False
def eN(P:Program)(f:FuncId)(args:List V)(o:Nat->ae)(nx:Nat)(K X:V->(Nat->ae)->Nat->Prop):Prop:=
 Enters P f/\∀ (M:Nat->Prop) (φ:Place) (w:World) (vals:Array Value),au M φ (hp o nx) w->V.aB (ai M φ (hp o nx)) φ (hp o nx) w args vals.toList->
  Calls P f vals w (mg M φ (hp o nx) w K X)
def dM(P:Program)(id:Nat)(args:List V)(o:Nat->ae)(nx:Nat)(K X:V->(Nat->ae)->Nat->Prop):Prop:=
 (o id).bO=true/\∀ (M:Nat->Prop) (φ:Place) (w:World) (vals:Array Value) (b:Nat),au M φ (hp o nx) w->V.aB (ai M φ (hp o nx)) φ (hp o nx) w args vals.toList->φ id= .pointer (some ⟨b,0,none⟩)->
  ∃f tmps assign body,(Instr.yield b vals).run P w= .ok (.round b f tmps assign body) w/\∀n,RoundIn Fence.wide n P b f tmps assign body w (mg M φ (hp o nx) w K X)
theorem mg.mono {M:Nat->Prop}{φ:Place}{H:Hp}{w:World}{K X K' X':V->(Nat->ae)->Nat->Prop}(hK:∀v o n,K v o n->K' v o n)(hX:∀v o n,X v o n->X' v o n){e:Ending}{w':World}(h:mg M φ H w K X e w'):mg M φ H w K' X' e w':=by
 obtain⟨ax,o',nx',v,h1,h2,h3⟩:=h
 refine⟨ax,o',nx',v,h1,h2, ?_⟩
 cases e with
 |returned val=>exact⟨h3.1,hK _ _ _ h3.2⟩
 |panicked ch=>obtain⟨val,a,b,c⟩:=h3;exact⟨val,a,b,hX _ _ _ c⟩
 |outgrown=>exact h3
theorem eN.mono {P:Program}{f:FuncId}{args:List V}{o:Nat->ae}{nx:Nat}{K X K' X':V->(Nat->ae)->Nat->Prop}(hK:∀v o n,K v o n->K' v o n)(hX:∀v o n,X v o n->X' v o n)(h:eN P f args o nx K X):eN P f args o nx K' X':=
 ⟨h.1,fun M φ w vals h1 h2=>(h.2 M φ w vals h1 h2).mono fun _ _ h=>h.mono hK hX⟩
theorem dM.mono {P:Program}{id:Nat}{args:List V}{o:Nat->ae}{nx:Nat}{K X K' X':V->(Nat->ae)->Nat->Prop}(hK:∀v o n,K v o n->K' v o n)(hX:∀v o n,X v o n->X' v o n)(h:dM P id args o nx K X):dM P id args o nx K' X':=
 ⟨h.1,fun M φ w vals b h1 h2 h3=>let⟨f,t,a,c,h4,h5⟩:=h.2 M φ w vals b h1 h2 h3;⟨f,t,a,c,h4,fun n=>(h5 n).mono fun _ _ h=>h.mono hK hX⟩⟩
mutual
def D.flat:D->Bool
 | .sl _| .mp _ _=>false
 | .agg cs=>D.jk cs
 | .iface _ x=>x.flat
 |_=>true
def D.jk:List D->Bool
 |[]=>true
 |x::xs=>x.flat&&D.jk xs
end
mutual
theorem D.oL {B B':Nat->Prop}{w w':World}:∀ (x:D) (v:Value),x.flat=true->D.den B w x v->D.den B' w' x v
 | .int _ _,_,_,h| .bool _,_,_,h| .str _,_,_,h| .fH,_,_,h| .gE,_,_,h| .aV,_,_,h| .cO,_,_,h=>h
 | .agg cs,_,hf,h=>by obtain⟨a,rfl,h,h2⟩:=h;exact⟨a,rfl,D.lg cs _ hf h,h2⟩
 | .sl es,_,hf,h=>by simp[D.flat]at hf
 | .mp _ _,_,hf,h=>by simp[D.flat]at hf
 | .iface t x,_,hf,h=>by obtain⟨u,rfl,h⟩:=h;exact⟨u,rfl,D.oL x u hf h⟩
theorem D.lg {B B':Nat->Prop}{w w':World}:∀ (xs:List D) (vs:List Value),D.jk xs=true->D.aB B w xs vs->D.aB B' w' xs vs
 |[],_,_,h=>h
 |x::xs,_,hf,h=>by
  obtain⟨u,us,rfl,h1,h2⟩:=h
  simp only[D.jk,Bool.and_eq_true]at hf
  exact⟨u,us,rfl,D.oL x u hf.1 h1,D.lg xs us hf.2 h2⟩
end
mutual
def D.mh:D->Bool
 | .mp _ _=>false
 | .agg cs=>D.lh cs
 | .sl es=>D.lh es
 | .iface _ x=>x.mh
 |_=>true
def D.lh:List D->Bool
 |[]=>true
 |x::xs=>x.mh&&D.lh xs
end
theorem gk.xj {B B':Nat->Prop}{w w':World}{a:Addr}{cs:Array Value}
 (hb:∀b,oj w b-> ¬B b->w'.heap[b]? =w.heap[b]? /\ ¬B' b) (h:gk B w a cs):gk B' w' a cs:=by
 intro j u hj
 obtain⟨h1,h2⟩:=h j u hj
 have bM:oj w a.block:=by simpa using nj h1
 obtain⟨h3,h4⟩:=hb _ bM h2
 exact⟨by rw[World.cell?_of_block (w:=w) (w':=w') (a:=a.add j) (by simpa using h3)];exact h1,h4⟩
mutual
theorem D.kx {B B':Nat->Prop}{w w':World}(hb:∀b,oj w b-> ¬B b->w'.heap[b]? =w.heap[b]? /\ ¬B' b):
 ∀ (x:D) (v:Value),x.mh=true->D.den B w x v->D.den B' w' x v
 | .int _ _,_,_,h| .bool _,_,_,h| .str _,_,_,h| .fH,_,_,h| .gE,_,_,h| .aV,_,_,h| .cO,_,_,h=>by simpa[D.den]using h
 | .agg cs,_,hn,h=>by
   obtain⟨a,rfl,h,hf⟩:=h
   exact⟨a,rfl,D.mi hb cs _ hn h,hf⟩
 | .sl es,_,hn,h=>by
   obtain⟨base,len,cap,rfl,h1,h2,h3,sz,h4⟩:=h
   exact⟨base,len,cap,rfl,h1,h2,h3,sz,fun a ha=>⟨(h4 a ha).1,D.oM hb sz a es 0 hn (h4 a ha).2⟩⟩
 | .iface t d,_,hn,h=>by
   obtain⟨u,rfl,h⟩:=h
   exact⟨u,rfl,D.kx hb d u hn h⟩
 | .mp _ _,_,hn,_=>by simp[D.mh]at hn
theorem D.mi {B B':Nat->Prop}{w w':World}(hb:∀b,oj w b-> ¬B b->w'.heap[b]? =w.heap[b]? /\ ¬B' b):
 ∀ (ds:List D) (vs:List Value),D.lh ds=true->D.aB B w ds vs->D.aB B' w' ds vs
 |[],_,_,h=>h
 |d::ds,_,hn,h=>by
  obtain⟨u,us,rfl,h1,h2⟩:=h
  simp only[D.lh,Bool.and_eq_true]at hn
  exact⟨u,us,rfl,D.kx hb d u hn.1 h1,D.mi hb ds us hn.2 h2⟩
theorem D.oM {B B':Nat->Prop}{w w':World}(hb:∀b,oj w b-> ¬B b->w'.heap[b]? =w.heap[b]? /\ ¬B' b)(sz:Nat)(a:Addr):
 ∀ (es:List D) (i:Nat),D.lh es=true->D.elems B w sz a i es->D.elems B' w' sz a i es
 |[],_,_,_=>trivial
 |e::es,i,hn,h=>by
  obtain⟨⟨ev,h1,h2,h3⟩,h4⟩:=h
  simp only[D.lh,Bool.and_eq_true]at hn
  exact⟨⟨ev,h1,h2.xj hb,D.kx hb e ev hn.1 h3⟩,D.oM hb sz a es (i+1) hn.2 h4⟩
end
def R.mh:R->Bool
 | .ret ds=>D.lh ds
 | .bK d=>d.mh
def R.flat:R->Bool
 | .ret ds=>D.jk ds
 | .bK d=>d.flat
def iM:List D->V
 |[x]=> .d x
 |ds=> .bW (ds.map .d)
inductive fq where
 |normal|exit (id:Nat)|ret|bK (v:V)
def aY(env:Nat->V)(dst:Option Tmp)(v:V):Nat->V:=
 match dst with
 |some d=>aq env d v
 |none=>env
def E0(o:Nat->ae)(v:V):V:=match dG o v with|some x=> .d x|none=>v
def de(o:Nat->ae):List V->List Nat
 |[]=>[]
 |v::vs=>(match dG o v with|some _=>v.ids|none=>[])++de o vs
def mj(P:Program)(g:FuncId)(args:List V)(o:Nat->ae)(nx:Nat)(K X:V->(Nat->ae)->Nat->Prop):Prop:=
 eN P g args o nx K X\/eN P g (args.map (E0 o)) (put o (cw o (de o args))) nx K X
def rT(P:Program)(s:S)(g:FuncId)(all:List V)(K:V->(Nat->ae)->Nat->Prop)(X:V->(Nat->ae)->Nat->Prop):Prop:=
    (∃ds out,bZ s.o all=some ds/\cq P g ds out/\(match out with
     | .ret rs=>K (iM rs) (put s.o (cw s.o (V.ba all))) (s.nx+1)
     | .bK x=>X (.d x) (put s.o (cw s.o (V.ba all))) (s.nx+1)))\/
    (∃ds out,bZ s.o all=some ds/\cq P g ds out/\out.flat=true/\(match out with
     | .ret rs=>K (iM rs) s.o (s.nx+1)
     | .bK x=>X (.d x) s.o (s.nx+1)))\/
    (∃ds out,bZ s.o all=some ds/\cq P g ds out/\out.mh=true/\(match out with
     | .ret rs=>K (iM rs) (put s.o (qM s.o (V.ba all))) (s.nx+1)
     | .bK x=>X (.d x) (put s.o (qM s.o (V.ba all))) (s.nx+1)))\/
    mj P g all s.o s.nx K X
def xI(P:Program)(s:S)(f:V)(args:List V)(K:V->(Nat->ae)->Nat->Prop)(X:V->(Nat->ae)->Nat->Prop):Prop:=
 match f with
 | .func (.func g) first cap=>rT P s g (first++args++cap) K X
 | .ko id=>dM P id args s.o s.nx K X
 |_=>False
def I3(P:Program)(t:TypeId):Bool:=
 match P.underlying t with
 |some (.pointer _)=>false
 |some _=>true
 |none=>false
def xJ(P:Program)(m:String)(x:V):Option (FuncId×V):=
 match x with
 | .d (.iface t y)=>match P.info? t with
   |some ti=>match ti.methods.find? (·.name==m)with
    |some r=>match r.func with
     |some (f,false)=>if r.path.isEmpty=true/\I3 P t=true then some (f, .d y)else none
     |_=>none
    |none=>none
   |none=>none
 |_=>none
def gr(n:Nat):Option Tmp->Prop
 |some d=>d<n
 |none=>True
def To(P:Program)(n:Nat)(s:S)(o:Oper)(X:V->S->Prop)(K:S->Prop):Prop:=
 gr n o.dst/\match o.op with
 | .call c=>match c.callee with
   | .value f=>xI P s (s.ev f) (c.args.toList.map s.ev) (fun v o' nx'=>K ⟨aY s.env o.dst v,o',nx'⟩) (fun v o' nx'=>X v ⟨s.env,o',nx'⟩)
   | .invoke r m=>match xJ P m (s.ev r)with
     |some (g,y)=>rT P s g (y::c.args.toList.map s.ev) (fun v o' nx'=>K ⟨aY s.env o.dst v,o',nx'⟩) (fun v o' nx'=>X v ⟨s.env,o',nx'⟩)
     |none=>False
   |_=>IP P s s.nx o.op fun v Δ _=>K ⟨aY s.env o.dst v,put s.o Δ,s.nx+1⟩
 | .panic x=>match s.ev x with
   | .d (.iface t y)=>X (.d (.iface t y)) s
   | .iface t y=>X (.iface t y) s
   |_=>False
 |op=>IP P s s.nx op fun v Δ _=>K ⟨aY s.env o.dst v,put s.o Δ,s.nx+1⟩
def vI(s:S)(ops:Array Oper)(g:Option (Nat×Bool))(A B:Prop):Prop:=
 match g with
 |none=>A
 |some (j,want)=>match qg ops j with
  |some d=>match s.env d with
   | .d (.bool b)=>(b=want->A)/\(b≠want->B)
   | .bW []=>B
   |_=>False
  |none=>B
def vJ(P:Program)(n:Nat)(ops:Array Oper)(X:V->S->Prop)(K:S->Prop):List Oper->S->Prop
 |[],s=>K s
 |o::l,s=>vI s ops o.guard (To P n s o X (vJ P n ops X K l)) (gr n o.dst/\vJ P n ops X K l ⟨aY s.env o.dst (.bW []),s.o,s.nx+1⟩)
def bY(b:Nat)(s s':S):Prop:=
 ∀ (M:Nat->Prop) (φ:Place) (w:World) (tm:Nat->Value),au M φ s.H w->(∀i,V.den (ai M φ s.H) φ s.H w (s.env i) (tm i))->
   ∃ax,au M ax s'.H w/\(∀i,V.den (ai M ax s'.H) ax s'.H w (s'.env i) (tm i))/\(∀k,bR ax s'.H k->bR φ s.H k)/\b<=s'.nx/\
    (∀id,id<b->(s'.o id).bO=true->(s.o id).bO=true/\ax id=φ id)/\
    (∀id e',id<b->(s'.o id).aZ=some e'->∃e,(s.o id).aZ=some e/\e<=e'/\(e=e'->ax id=φ id))
def oN(K:S->Prop)(Q:fq->S->Prop)(e:fq)(s:S):Prop:=match e with| .normal=>K s|e=>Q e s
def fk(id:Nat)(Q:fq->S->Prop)(e:fq)(s:S):Prop:=match e with| .exit j=>if j=id then Q .normal s else Q (.exit j) s|e=>Q e s
def lj(P:Program)(s:S):List ResultVar->Option (List V)
 |[]=>some []
 | .tmp t::rs=>(lj P s rs).map (s.env t::·)
 | .cell a t::rs=>match s.env a with
   | .ptr id off=>match s.o id with
     | .row cs=>(eO P t cs off).bind fun v=>(lj P s rs).map (v::·)
     |_=>none
   |_=>none
def cN(vs:List V):Nat->V:=fun i=>vs.getD i (.bW [])
def Ab(P:Program)(rs:List ResultVar)(out:R)(e:fq)(s:S):Prop:=
 match e with
 | .normal| .ret=>match lj P s rs with
   |some vs=>match bZ s.o vs with
    |some ds=>out= .ret ds
    |none=>False
   |none=>False
 | .bK v=>match dG s.o v with
   |some x=>out= .bK x
   |none=>False
 | .exit _=>False
theorem E1{P:Program}{rs:List ResultVar}{out:R}{s:S}(h:match lj P s rs with
 |some vs=>match bZ s.o vs with
  |some ds=>out= .ret ds
  |none=>False
 |none=>False):∃vs ds,lj P s rs=some vs/\bZ s.o vs=some ds/\out= .ret ds:=by
 split at h
 ·rename_i vs h1
  split at h
  ·rename_i xs h2;exact⟨vs,xs,h1,h2,h⟩
  ·exact h.elim
 ·exact h.elim
theorem E2{out:R}{s:S}{v:V}(h:match dG s.o v with
 |some x=>out= .bK x
 |none=>False):∃x,dG s.o v=some x/\out= .bK x:=by
 split at h
 ·rename_i x h1;exact⟨x,h1,h⟩
 ·exact h.elim
end Go.Proofs.YtealblliddhgiaaGreat
namespace Go.Proofs.YtealblliddhgiaaGreat
section
variable {P:Program}{M:Nat->Prop}{φ:Place}{H:Hp}{w w':World}
def ae.ky:ae->Bool
 | .arr .. =>true
 |_=>false
theorem Hv(o:Nat->ae)(ids:List Nat):qM o ids=cw o (ids.filter fun id=>(o id).ky):=by
 induction ids with
 |nil=>rfl
 |cons id ids ih=>
  unfold qM at ih|-
  simp only[List.filterMap_cons,List.filter_cons]
  cases hx:o id with
  |arr ep ty sz es=>
   have e:(ae.arr ep ty sz es).ky=true:=rfl
   rw[e,if_pos rfl,ih]
   simp only[cw,List.map_cons,hx]
  |_=>exact ih
theorem iO(hH:au M φ H w){us':Nat->Prop}(h:∀id,H.us id->us' id):au M φ ⟨H.o,us'⟩ w/\Trans φ H w φ ⟨H.o,us'⟩ w:=by
 have ht:Trans φ H w φ ⟨H.o,us'⟩ w:=⟨eM.refl _ _,fun b hb=> .inl hb,⟨h,fun id _ hr=>⟨hr,rfl⟩,fun id e' _ he=>⟨e',he,Nat.le_refl _,fun _=>rfl⟩⟩⟩
 exact⟨hH.of ht (fun _=>False) (fun _ h=>h.elim) (fun id _=>⟨rfl,rfl,fun _ _ _=>rfl⟩) (fun id hn=>hH.fresh id fun hu=>hn (h id hu)) hH.apart (fun b hb=>(hH.ours b hb).2),ht⟩
theorem fS(hH:au M φ H w)(hk:eM (fun _=>False) w w'):au M φ H w'/\Trans φ H w φ H w':=by
 have ht:Trans φ H w φ H w':=⟨⟨hk.os,hk.tape,hk.output,hk.size,fun k h _=>hk.block k h fun h=>h⟩,fun b hb=> .inl hb,dX.refl _ _⟩
 exact⟨hH.of ht (fun _=>False) (fun _ h=>h.elim) (fun id _=>⟨rfl,rfl,fun hl b hb=>hk.block b (hH.ours b ⟨id,hl,hb⟩).2 fun h=>h⟩) hH.fresh hH.apart (fun b hb=>Nat.lt_of_lt_of_le (hH.ours b hb).2 hk.size),ht⟩
theorem kz{Δ:List (Nat×ae)}(h:∀id∈Δ.map (·.1),H.us id):H.put Δ=⟨put H.o Δ,H.us⟩:=by
 unfold Hp.put
 congr 1
 funext id
 simp only[eq_iff_iff]
 exact⟨fun h'=>h'.elim (fun h=>h) (h id), .inl⟩
theorem mW(o:Nat->ae)(ids:List Nat):(cw o ids).map (·.1)=ids:=by
 rw[kY];simp[Function.comp_def]
structure Cx where
 base:List Deferred
 rd:Bool
def dT(ro:Option Nat):Fence:={fn:=fun _=>True,depth:=none,alive:=false,round:=ro}
def mark(r:Nat):Deferred:={target:= .collected r,args:=#[]}
def rU(cx:Cx)(w0:World)(φ:Place)(H:Hp)(w:World)(ds:List Deferred):Prop:=
 ∃ms:List Nat,ds=ms.map mark++cx.base/\ms.Nodup/\(cx.rd=true->ms=[])/\∀r∈ms,w0.heap.size<=r/\w.heap[r]? =some (.deferred (some []))/\ ¬bR φ H r
theorem rU.mono {cx:Cx}{w0:World}{φ ax:Place}{H H':Hp}{w w':World}{ds:List Deferred}(ht:Trans φ H w ax H' w')(h:rU cx w0 φ H w ds):rU cx w0 ax H' w' ds:=by
 obtain⟨ms,h1,h2,h3,h4⟩:=h
 refine⟨ms,h1,h2,h3,fun r hr=> ?_⟩
 obtain⟨g1,g2,g3⟩:=h4 r hr
 have bM:r<w.heap.size:=by
  rcases Nat.lt_or_ge r w.heap.size with hl|hl
  ·exact hl
  ·rw[Array.getElem?_eq_none hl]at g2;cases g2
 refine⟨g1,(ht.cg.block r bM g3).trans g2,fun hl=> ?_⟩
 rcases ht.grow r hl with h|h
 ·exact g3 h
 ·omega
structure cd (M:Nat->Prop) (cC:Place) (H0:Hp) (w0:World) (n:Nat) (cx:Cx) (φ:Place) (s:S) (a:Act) (w:World):Prop where
 heap:au M φ s.H w
 tr:Trans cC H0 w0 φ s.H w
 size:a.tmps.size=n
 defers:rU cx w0 φ s.H w a.defers
 env:∀i,V.den (ai M φ s.H) φ s.H w (s.env i) (a.tmps.getD i undef)
variable {cC:Place}{H0:Hp}{w0:World}{n:Nat}{s:S}{a:Act}{cx:Cx}{ro:Option Nat}{k:Nat}
theorem dc{f:FuncId}{args:Array Value}{R:Ending->World->Prop}(h:Calls P f args w R):CallsIn (dT ro) k P f args w R:=
 ⟨trivial,fun cs _=>let⟨e,w',fr,r,s,x⟩:=h cs;⟨e,w',fr,r,comesIn_wide.2 s,x⟩⟩
theorem xK{f:FuncId}{args:Array Value}{R:Ending->World->Prop}(h:CallsIn (dT ro) k P f args w R):Calls P f args w R:=
 fun cs=>let⟨e,w',fr,r,s,x⟩:=h.2 cs (fun _ h=>by simp[dT]at h);⟨e,w',fr,r,comesIn_wide.1 s,x⟩
theorem jM{o:Oper}{next:Act->World->Prop}{Q:Exit->Act->World->Prop}(MI:∀c,o.op≠ .defer c)(h:o.uponIn (dT ro) k P a next Q ((execOp a.eval o).run P w)):o.wpIn (dT ro) k P a w next Q:=
 ⟨fun _ _=>trivial,by rw[Oper.semAt_eq _ _ _ MI];exact h⟩
theorem ll(hs:cd M cC H0 w0 n cx φ s a w){ax:Place}{H':Hp}(hH:au M ax H' w')(ht:Trans φ s.H w ax H' w'){v:V}{val:Value}(hd:V.den (ai M ax H') ax H' w' v val){dst:Option Tmp}(cP:gr n dst)
 {o':Nat->ae} {nx':Nat} (ho:H'.o=o') (hu:∀id,H'.us id->id<nx'):cd M cC H0 w0 n cx ax ⟨aY s.env dst v,o',nx'⟩ (a.put dst val) w':=by
 obtain⟨k1,k2⟩:=iO hH hu
 subst ho
 refine⟨k1,hs.tr.trans (ht.trans k2), ?_, ?_,fun i=> ?_⟩
 ·cases dst<;>simp[Act.put,hs.size]
 ·have:=hs.defers.mono (ht.trans k2);cases dst<;>exact this
 ·cases dst with
  |none=>exact V.aC (ht.trans k2) _ _ (hs.env i)
  |some d=>
   simp only[gr]at cP
   simp only[aY,aJ,Act.put]
   by_cases hi:i=d
   ·subst hi
    have h1:(a.tmps.setIfInBounds i val).getD i undef=val:=by simp[Array.getD,hs.size,cP]
    rw[if_pos rfl,h1]
    exact V.aC k2 _ _ hd
   ·have h1:(a.tmps.setIfInBounds d val).getD i undef=a.tmps.getD i undef:=by
     simp only[Array.getD_eq_getD_getElem?]
     rw[Array.getElem?_setIfInBounds_ne (Ne.symm hi)]
    rw[if_neg hi,h1]
    exact V.aC (ht.trans k2) _ _ (hs.env i)
theorem ez(hs:cd M cC H0 w0 n cx φ s a w){ax:Place}{H':Hp}(hH:au M ax H' w')(ht:Trans φ s.H w ax H' w'){o':Nat->ae}{nx':Nat}(ho:H'.o=o')(hu:∀id,H'.us id->id<nx'):
 cd M cC H0 w0 n cx ax ⟨s.env,o',nx'⟩ a w':=by
 obtain⟨k1,k2⟩:=iO hH hu
 subst ho
 exact⟨k1,hs.tr.trans (ht.trans k2),hs.size,hs.defers.mono (ht.trans k2),fun i=>V.aC (ht.trans k2) _ _ (hs.env i)⟩
theorem E3{Δ:List (Nat×ae)}(h:∀id∈Δ.map (·.1),s.H.us id\/id=s.nx)(id:Nat)(hu:(s.H.put Δ).us id):id<s.nx+1:=by
 rcases hu with hu|hu
 ·exact Nat.lt_succ_of_lt hu
 ·rcases h id hu with h|h
  ·exact Nat.lt_succ_of_lt h
  ·omega
variable {next:Act->World->Prop}{Q:Exit->Act->World->Prop}{X:V->S->Prop}{K:S->Prop}
theorem E4(hs:cd M cC H0 w0 n cx φ s a w){o:Oper}{op:Op}(dD:o.op=op)(cP:gr n o.dst)(h:IP P s s.nx op fun v Δ _=>K ⟨aY s.env o.dst v,put s.o Δ,s.nx+1⟩)
 (hN:∀s' ax a' w',K s'->cd M cC H0 w0 n cx ax s' a' w'->next a' w'):o.wpIn (dT ro) k P a w next Q:=by
 obtain⟨nx,val,w',ax,v,Δ,rd,hK,hr,ml,g1,g2,g3,g4⟩:=uo hs.heap (s:=s) rfl hs.env (fr:=s.nx) (by simp[S.H]) dD h
 have vK:=ll hs g1 g2 g3 cP (o':=put s.o Δ) (nx':=s.nx+1) rfl (E3 g4)
 refine jM (fun c hc=>by rw[dD]at hc;subst hc;exact h) ?_
 rw[hr]
 rcases ml with rfl|⟨rfl,rfl⟩
 ·exact hN _ _ _ _ hK vK
 ·exact hN _ _ _ _ hK vK
theorem V.lq {B:Nat->Prop}{cc bs cs:List V}{u v x:List Value}(h1:V.aB B φ H w cc u)(h2:V.aB B φ H w bs v)(h3:V.aB B φ H w cs x):V.aB B φ H w (cc++bs++cs) (u++v++x):=
 V.bp _ _ _ _ (V.bp _ _ _ _ h1 h2) h3
theorem kA{f:FuncId}(h:Enters P f)(args:Array Value):(callFunc f args).run P w= .ok (.enter f args) w:=by
 obtain⟨fn,h1,h2,h3⟩:=h
 have w9:fn.name≠ "runtime.NumGoroutine" :=by simpa using h2
 have Ol:fn.body≠none:=fun h=>by rw[h]at h3;cases h3
 simp[callFunc,h1,w9,Ol]
theorem kB:∀ {rs:List D} {val:Value},R.is (ai M φ H) w (.ret rs) (.returned val)->V.den (ai M φ H) φ H w (iM rs) val
 |[],_,h=>by obtain⟨arr,rfl,h⟩:=h;exact⟨arr,rfl,h⟩
 |[x],_,h=>h
 |x::y::l,_,h=>by obtain⟨arr,rfl,h⟩:=h;exact⟨arr,rfl,(V.ck (x::y::l) _).2 h⟩
theorem R.vL {B B':Nat->Prop}:∀ {out:R} {e:Ending},out.flat=true->out.is B w e->out.is B' w e
 | .ret [], .returned _,_,h=>by obtain⟨arr,rfl,h⟩:=h;exact⟨arr,rfl,h⟩
 | .ret [x], .returned _,hf,h=>by
   simp only[R.flat,D.jk,Bool.and_true]at hf
   exact D.oL x _ hf h
 | .ret (x::y::l), .returned _,hf,h=>by obtain⟨arr,rfl,h⟩:=h;exact⟨arr,rfl,D.lg (x::y::l) _ hf h⟩
 | .bK d, .panicked _,hf,h=>by obtain⟨v,rfl,h⟩:=h;exact⟨v,rfl,D.oL d v hf h⟩
 | .ret [], .panicked _,_,h| .ret [_], .panicked _,_,h| .ret (_::_::_), .panicked _,_,h| .ret [], .outgrown,_,h| .ret [_], .outgrown,_,h| .ret (_::_::_), .outgrown,_,h| .bK _, .returned _,_,h| .bK _, .outgrown,_,h=>h.elim
theorem R.E5 {B B':Nat->Prop}{w':World}(hb:∀b,oj w' b-> ¬B b-> ¬B' b):∀ {out:R} {e:Ending},out.mh=true->out.is B w' e->out.is B' w' e
 | .ret [], .returned _,_,h=>by obtain⟨arr,rfl,h⟩:=h;exact⟨arr,rfl,h⟩
 | .ret [x], .returned _,hf,h=>by
   simp only[R.mh,D.lh,Bool.and_true]at hf
   exact D.kx (fun b hc hn=>⟨rfl,hb b hc hn⟩) x _ hf h
 | .ret (x::y::l), .returned _,hf,h=>by obtain⟨arr,rfl,h⟩:=h;exact⟨arr,rfl,D.mi (fun b hc hn=>⟨rfl,hb b hc hn⟩) (x::y::l) _ hf h⟩
 | .bK d, .panicked _,hf,h=>by obtain⟨v,rfl,h⟩:=h;exact⟨v,rfl,D.kx (fun b hc hn=>⟨rfl,hb b hc hn⟩) d v hf h⟩
 | .ret [], .panicked _,_,h| .ret [_], .panicked _,_,h| .ret (_::_::_), .panicked _,_,h| .ret [], .outgrown,_,h| .ret [_], .outgrown,_,h| .ret (_::_::_), .outgrown,_,h| .bK _, .returned _,_,h| .bK _, .outgrown,_,h=>h.elim
theorem E6(hH:au M φ H w){o:Nat->ae}:∀ (vs:List V) (vals:List Value),(∀id∈de o vs,H.o id=(o id).fz)->V.aB (ai M φ H) φ H w vs vals->V.aB (ai M φ H) φ H w (vs.map (E0 o)) vals
 |[],_,_,h=>h
 |v::vs,_,ho,h=>by
  obtain⟨u,us,rfl,h1,h2⟩:=h
  refine⟨u,us,rfl, ?_,E6 hH vs us (fun id aj=>ho id (by simp[de,aj])) h2⟩
  unfold E0
  split
  ·rename_i x hx
   exact ed hH v x u (fun id aj=>ho id (by simp[de,hx,aj])) hx h1
  ·exact h1
theorem gu:∀ (vs:List V) (vals:List Value) (o:Nat->ae),V.aB (ai M φ H) φ H w vs vals->∀id∈de o vs,H.us id
 |[],_,_,_,j,hj=>by simp[de]at hj
 |v::vs,_,o,h,j,hj=>by
  obtain⟨u,us,rfl,h1,h2⟩:=h
  simp only[de,List.mem_append]at hj
  rcases hj with hj|hj
  ·cases hx:dG o v with
   |none=>simp[hx]at hj
   |some x=>simp only[hx]at hj;exact cJ v u h1 j hj
  ·exact gu vs us o h2 j hj
theorem uq(hs:cd M cC H0 w0 n cx φ s a w){o:Oper}{g:FuncId}{all:List V}{vals:Array Value}(cP:gr n o.dst)(e9:Enters P g->(execOp a.eval o).run P w= .ok (.enter g vals) w)(aP:V.aB (ai M φ s.H) φ s.H w all vals.toList)
 (h:eN P g all s.o s.nx (fun v o' nx'=>K ⟨aY s.env o.dst v,o',nx'⟩) (fun v o' nx'=>X v ⟨s.env,o',nx'⟩))
 (hN:∀s' ax a' w',K s'->cd M cC H0 w0 n cx ax s' a' w'->next a' w')
 (hQ:∀v s' ax w' val,X v s'->cd M cC H0 w0 n cx ax s' a w'->V.den (ai M ax s'.H) ax s'.H w' v val->Q (.panic [{v:=val,recovered:=false}]) a w'):o.uponIn (dT ro) k P a next Q ((execOp a.eval o).run P w):=by
 have eR:=h.2 M φ w vals hs.heap aP
 rw[e9 h.1]
 refine⟨fun hd=>by simp[dT]at hd,dc (eR.mono fun e w' ⟨ax,o',nx',v,k1,k2,k3⟩=> ?_)⟩
 cases e with
 |returned val=>exact hN _ _ _ _ k3.2 (ll hs k1 k2 k3.1 cP rfl fun id hu=>hu)
 |panicked ch=>
  obtain⟨val,rfl,k4,k5⟩:=k3
  exact hQ _ _ _ _ val k5 (ez hs k1 k2 (o':=o') (nx':=nx') rfl fun id hu=>hu) k4
 |outgrown=>exact k3.elim
theorem xL(hs:cd M cC H0 w0 n cx φ s a w){o:Oper}{g:FuncId}{all:List V}{vals:Array Value}(cP:gr n o.dst)(e9:Enters P g->(execOp a.eval o).run P w= .ok (.enter g vals) w)(aP:V.aB (ai M φ s.H) φ s.H w all vals.toList)
 (h:rT P s g all (fun v o' nx'=>K ⟨aY s.env o.dst v,o',nx'⟩) (fun v o' nx'=>X v ⟨s.env,o',nx'⟩))
 (hN:∀s' ax a' w',K s'->cd M cC H0 w0 n cx ax s' a' w'->next a' w')
 (hQ:∀v s' ax w' val,X v s'->cd M cC H0 w0 n cx ax s' a w'->V.den (ai M ax s'.H) ax s'.H w' v val->Q (.panic [{v:=val,recovered:=false}]) a w'):o.uponIn (dT ro) k P a next Q ((execOp a.eval o).run P w):=by
 unfold rT at h
 obtain⟨f1,f2,f3,f4,f5⟩:=cM hs.heap (V.ba all) (cE all _ aP)
 have hZ:s.H.put (cw s.H.o (V.ba all))=⟨put s.o (cw s.o (V.ba all)),s.H.us⟩:=kz (by rw[mW];exact cE all _ aP)
 have mm:=V.aI f2 _ _ aP
 rcases h with⟨ds,out,eW,hP,hK⟩|⟨ds,out,eW,hP,la,hK⟩|⟨ds,out,eW,hP,MJ,hK⟩|hC|hC
 ·have tZ:=dv f1 all ds _ f3 eW mm
  have hM:∀b,ai M φ (s.H.put (cw s.H.o (V.ba all))) b->b<w.heap.size:=fun b hb=>hb.elim (f1.tA b) fun hl=>(f1.ours b hl).2
  have eR:=hP.2 _ w vals hM tZ
  rw[e9 hP.1]
  refine⟨fun hd=>by simp[dT]at hd,dc (eR.mono fun e w' ⟨hk,ho⟩=> ?_)⟩
  obtain⟨k1,k2⟩:=fS f1 hk
  cases out with
  |ret rs=>
   cases e with
   |returned val=>
    refine hN _ _ _ _ hK (ll hs k1 (f2.trans k2) (kB ho) cP (by rw[hZ]) ?_)
    intro id hu;rw[hZ]at hu;exact Nat.lt_succ_of_lt hu
   |panicked ch=>cases rs with|nil=>exact ho.elim|cons x l=>cases l<;>exact ho.elim
   |outgrown=>cases rs with|nil=>exact ho.elim|cons x l=>cases l<;>exact ho.elim
  |bK x=>
   cases e with
   |returned val=>exact ho.elim
   |panicked ch=>
    obtain⟨val,rfl,hd⟩:=ho
    have vK:=ez hs k1 (f2.trans k2) (o':=put s.o (cw s.o (V.ba all))) (nx':=s.nx+1) (by rw[hZ]) (fun id hu=>by rw[hZ]at hu;exact Nat.lt_succ_of_lt hu)
    refine hQ _ _ _ _ val hK vK ?_
    have e1:ai M φ (S.H ⟨s.env,put s.o (cw s.o (V.ba all)),s.nx+1⟩)=ai M φ (s.H.put (cw s.H.o (V.ba all))):=by rw[hZ];rfl
    simp only[V.den]
    rw[e1];exact hd
   |outgrown=>exact ho.elim
 ·have tZ:=dv f1 all ds _ f3 eW mm
  have hM:∀b,ai M φ (s.H.put (cw s.H.o (V.ba all))) b->b<w.heap.size:=fun b hb=>hb.elim (f1.tA b) fun hl=>(f1.ours b hl).2
  have eR:=hP.2 _ w vals hM tZ
  rw[e9 hP.1]
  refine⟨fun hd=>by simp[dT]at hd,dc (eR.mono fun e w' ⟨hk,ho⟩=> ?_)⟩
  obtain⟨k1,k2⟩:=fS hs.heap hk
  have ho:=R.vL (B':=ai M φ s.H) la ho
  cases out with
  |ret rs=>
   cases e with
   |returned val=>
    exact hN _ _ _ _ hK (ll hs k1 k2 (kB ho) cP rfl fun id hu=>Nat.lt_succ_of_lt hu)
   |panicked ch=>cases rs with|nil=>exact ho.elim|cons x l=>cases l<;>exact ho.elim
   |outgrown=>cases rs with|nil=>exact ho.elim|cons x l=>cases l<;>exact ho.elim
  |bK x=>
   cases e with
   |returned val=>exact ho.elim
   |panicked ch=>
    obtain⟨val,rfl,hd⟩:=ho
    exact hQ _ _ _ _ val hK (ez hs k1 k2 (o':=s.o) (nx':=s.nx+1) rfl fun id hu=>Nat.lt_succ_of_lt hu) hd
   |outgrown=>exact ho.elim
 ·obtain⟨a1,a2,a3,a4,a5⟩:=cM hs.heap ((V.ba all).filter fun id=>(s.o id).ky) (fun id aj=>cE all _ aP id (List.mem_filter.1 aj).1)
  have xM:s.H.put (cw s.H.o ((V.ba all).filter fun id=>(s.o id).ky))=⟨put s.o (qM s.o (V.ba all)),s.H.us⟩:=by
   rw[Hv]
   exact kz (by rw[mW];exact fun id aj=>cE all _ aP id (List.mem_filter.1 aj).1)
  have tZ:=dv f1 all ds _ f3 eW mm
  have hM:∀b,ai M φ (s.H.put (cw s.H.o (V.ba all))) b->b<w.heap.size:=fun b hb=>hb.elim (f1.tA b) fun hl=>(f1.ours b hl).2
  have eR:=hP.2 _ w vals hM tZ
  rw[e9 hP.1]
  refine⟨fun hd=>by simp[dT]at hd,dc (eR.mono fun e w' ⟨hk,ho⟩=> ?_)⟩
  obtain⟨k1,k2⟩:=fS a1 hk
  have ef:∀b,oj w' b-> ¬ai M φ (s.H.put (cw s.H.o (V.ba all))) b-> ¬ai M φ (s.H.put (cw s.H.o ((V.ba all).filter fun id=>(s.o id).ky))) b:=by
   intro b hc hn hm
   rcases hm with hM|⟨id,hl,hb⟩
   ·exact hn (.inl hM)
   ·by_cases aj:id∈V.ba all
    ·cases hx:s.H.o id with
     |arr ep ty sz es=>
      rw[a3 id (List.mem_filter.2 ⟨aj,by show(s.H.o id).ky=true;rw[hx];rfl⟩),hx]at hl
      cases hl
     |map kt vt l=>
      have lW:id∉(V.ba all).filter fun id=>(s.o id).ky:=fun h=>by
       have h2:(s.H.o id).ky=true:=(List.mem_filter.1 h).2
       rw[hx]at h2;cases h2
      have bz:=k1.ok id
      unfold aL at bz
      rw[a4 id lW,hx]at bz
      obtain⟨b',es,clock,g1,g2,_⟩:=bz
      rw[g1]at hb
      injection hb with hb
      subst hb
      obtain⟨cs,ty,fz,hc⟩:=hc
      rw[g2]at hc
      cases hc
     |_=>
      have lW:id∉(V.ba all).filter fun id=>(s.o id).ky:=fun h=>by
       have h2:(s.H.o id).ky=true:=(List.mem_filter.1 h).2
       rw[hx]at h2;cases h2
      refine hn (.inr ⟨id, ?_,hb⟩)
      rw[a4 id lW,hx]at hl
      rw[f3 id aj,hx]
      exact hl
    ·have lW:id∉(V.ba all).filter fun id=>(s.o id).ky:=fun h=>aj (List.mem_filter.1 h).1
     refine hn (.inr ⟨id, ?_,hb⟩)
     rw[a4 id lW]at hl
     rw[f4 id aj]
     exact hl
  have ho:=R.E5 (w':=w') (B':=ai M φ (s.H.put (cw s.H.o ((V.ba all).filter fun id=>(s.o id).ky)))) ef MJ ho
  cases out with
  |ret rs=>
   cases e with
   |returned val=>
    refine hN _ _ _ _ hK (ll hs k1 (a2.trans k2) (kB ho) cP (by rw[xM]) ?_)
    intro id hu;rw[xM]at hu;exact Nat.lt_succ_of_lt hu
   |panicked ch=>cases rs with|nil=>exact ho.elim|cons x l=>cases l<;>exact ho.elim
   |outgrown=>cases rs with|nil=>exact ho.elim|cons x l=>cases l<;>exact ho.elim
  |bK x=>
   cases e with
   |returned val=>exact ho.elim
   |panicked ch=>
    obtain⟨val,rfl,hd⟩:=ho
    have vK:=ez hs k1 (a2.trans k2) (o':=put s.o (qM s.o (V.ba all))) (nx':=s.nx+1) (by rw[xM]) (fun id hu=>by rw[xM]at hu;exact Nat.lt_succ_of_lt hu)
    refine hQ _ _ _ _ val hK vK ?_
    have e1:ai M φ (S.H ⟨s.env,put s.o (qM s.o (V.ba all)),s.nx+1⟩)=ai M φ (s.H.put (cw s.H.o ((V.ba all).filter fun id=>(s.o id).ky))):=by rw[xM];rfl
    simp only[V.den]
    rw[e1];exact hd
   |outgrown=>exact ho.elim
 ·exact uq hs cP e9 aP hC hN hQ
 ·obtain⟨f1,f2,f3,f4,f5⟩:=cM hs.heap (de s.o all) (gu all _ s.o aP)
  have hZ:s.H.put (cw s.H.o (de s.o all))=hp (put s.o (cw s.o (de s.o all))) s.nx:=kz (by rw[mW];exact gu all _ s.o aP)
  have mm:=E6 f1 all _ f3 (V.aI f2 _ _ aP)
  rw[hZ]at f1 f2 mm
  exact uq (s:=⟨s.env,put s.o (cw s.o (de s.o all)),s.nx⟩) (ez hs f1 f2 rfl fun id hu=>hu) cP e9 mm hC hN hQ
theorem Hw(hs:cd M cC H0 w0 n cx φ s a w){o:Oper}{c:Call}{f:Operand}(dD:o.op= .call c)(hc:c.callee= .value f)(cP:gr n o.dst)
 (h:xI P s (s.ev f) (c.args.toList.map s.ev) (fun v o' nx'=>K ⟨aY s.env o.dst v,o',nx'⟩) (fun v o' nx'=>X v ⟨s.env,o',nx'⟩))
 (hN:∀s' ax a' w',K s'->cd M cC H0 w0 n cx ax s' a' w'->next a' w')
 (hQ:∀v s' ax w' val,X v s'->cd M cC H0 w0 n cx ax s' a w'->V.den (ai M ax s'.H) ax s'.H w' v val->Q (.panic [{v:=val,recovered:=false}]) a w'):o.wpIn (dT ro) k P a w next Q:=by
 refine jM (fun c' CW=>by rw[dD]at CW;cases CW) ?_
 have hf:=l8 (M:=M) (φ:=φ) (H:=s.H) (w:=w) s a hs.env f
 have ey:=jH (M:=M) (φ:=φ) (H:=s.H) (w:=w) s a hs.env c.args.toList
 unfold xI at h
 split at h
 ·rename_i g first cap rV
  rw[rV]at hf
  obtain⟨fa,ca,KG,zT,Om⟩:=hf
  have aP:V.aB (ai M φ s.H) φ s.H w (first++c.args.toList.map s.ev++cap) (fa++c.args.map a.eval++ca).toList:=by
   rw[Array.toList_append,Array.toList_append,Array.toList_map]
   exact V.lq zT ey Om
  generalize first++c.args.toList.map s.ev++cap=all at h aP
  generalize jN:fa++c.args.map a.eval++ca=vals at aP
  have e9:Enters P g->(execOp a.eval o).run P w= .ok (.enter g vals) w:=by
   intro he
   have:=kA (w:=w) he (fa++c.args.map a.eval++ca)
   rw[jN]at this
   simp[execOp,dD,resolve,hc,KG,Deferred.ofValue,invoke,this,jN]
  exact xL hs cP e9 aP h hN hQ
 ·rename_i id rV
  rw[rV]at hf
  obtain⟨_,dB,Et⟩:=hf
  obtain⟨a8,hR⟩:=h
  obtain⟨b,du,KG⟩:=Et a8
  obtain⟨fn,tmps,assign,body,h1,h2⟩:=hR M φ w (c.args.map a.eval) b hs.heap (by rw[Array.toList_map];exact ey) du
  have e9:(execOp a.eval o).run P w= .ok (.round b fn tmps assign body) w:=by
   simp[execOp,dD,resolve,hc,KG,Deferred.ofValue,invoke,h1]
  rw[e9]
  refine⟨fun hd=>by simp[dT]at hd,RoundIn.mono (h2 (k - 1)) fun e w' ⟨ax,o',nx',v,k1,k2,k3⟩=> ?_⟩
  cases e with
  |returned val=>exact hN _ _ _ _ k3.2 (ll hs k1 k2 k3.1 cP rfl fun id hu=>hu)
  |panicked ch=>
   obtain⟨val,rfl,k4,k5⟩:=k3
   exact hQ _ _ _ _ val k5 (ez hs k1 k2 (o':=o') (nx':=nx') rfl fun id hu=>hu) k4
  |outgrown=>exact k3.elim
 ·exact h.elim
theorem CX(hs:cd M cC H0 w0 n cx φ s a w){o:Oper}{c:Call}{r:Operand}{m:String}{g:FuncId}{y:V}(dD:o.op= .call c)(hc:c.callee= .invoke r m)(cP:gr n o.dst)(hr:xJ P m (s.ev r)=some (g,y))
 (h:rT P s g (y::c.args.toList.map s.ev) (fun v o' nx'=>K ⟨aY s.env o.dst v,o',nx'⟩) (fun v o' nx'=>X v ⟨s.env,o',nx'⟩))
 (hN:∀s' ax a' w',K s'->cd M cC H0 w0 n cx ax s' a' w'->next a' w')
 (hQ:∀v s' ax w' val,X v s'->cd M cC H0 w0 n cx ax s' a w'->V.den (ai M ax s'.H) ax s'.H w' v val->Q (.panic [{v:=val,recovered:=false}]) a w'):o.wpIn (dT ro) k P a w next Q:=by
 refine jM (fun c' CW=>by rw[dD]at CW;cases CW) ?_
 have hf:=l8 (M:=M) (φ:=φ) (H:=s.H) (w:=w) s a hs.env r
 have ey:=jH (M:=M) (φ:=φ) (H:=s.H) (w:=w) s a hs.env c.args.toList
 unfold xJ at hr
 split at hr
 ·rename_i t d hx
  rw[hx]at hf
  obtain⟨val,hv,hd⟩:=hf
  split at hr
  ·rename_i ti YE
   split at hr
   ·rename_i mr rW
    split at hr
    ·rename_i f CY
     split at hr
     ·rename_i I4
      injection hr with hr
      injection hr with h1 h2
      subst h1;subst h2
      refine xL (vals:=#[val]++c.args.map a.eval) hs cP ?_ ?_ h hN hQ
      ·intro he
       have e9:=kA (w:=w) he (#[val]++c.args.map a.eval)
       have YF:mr.path=#[]:=Array.isEmpty_iff.1 I4.1
       have hu:∃u,P.underlying t=some u/\∀e,u≠ .pointer e:=by
        have:=I4.2
        unfold I3 at this
        split at this
        ·cases this
        ·rename_i u fK hu;exact⟨u,hu,fun e he=>fK e he⟩
        ·cases this
       obtain⟨u,hu,I5⟩:=hu
       have hm:(method (P.types.size+Made.depth) t val m).run P w= .ok (f,val) w:=by
        have:P.types.size+Made.depth=(P.types.size+Made.depth - 1)+1:=by simp[Made.depth]
        rw[this]
        cases u<;>first|exact absurd rfl (I5 _)|simp[method,typeInfo,YE,rW,YF,CY,follow,receiverAt,run_underlying hu,_root_.Go.Place.get]
       have h0:(#[Value.iface t val]++Array.map a.eval c.args)[0]? =some (.iface t val):=by
        rw[Array.getElem?_append_left (by simp)];rfl
       have h1:(Array.map a.eval c.args).extract 0 c.args.size=Array.map a.eval c.args:=by
        rw[show c.args.size=(Array.map a.eval c.args).size from by simp,Array.extract_size]
       simp[execOp,dD,resolve,hc,invoke,callMethod,hv,h0,h1,hm,e9]
      ·simp only[Array.toList_append,Array.toList_map]
       exact⟨val,_,rfl,hd,ey⟩
     ·cases hr
    ·cases hr
   ·cases hr
  ·cases hr
 ·cases hr
theorem ur(hs:cd M cC H0 w0 n cx φ s a w){o:Oper}(h:To P n s o X K)
 (hN:∀s' ax a' w',K s'->cd M cC H0 w0 n cx ax s' a' w'->next a' w')
 (hQ:∀v s' ax w' val,X v s'->cd M cC H0 w0 n cx ax s' a w'->V.den (ai M ax s'.H) ax s'.H w' v val->Q (.panic [{v:=val,recovered:=false}]) a w'):o.wpIn (dT ro) k P a w next Q:=by
 obtain⟨cP,h⟩:=h
 split at h
 ·rename_i c dD
  split at h
  ·rename_i f hc
   exact Hw hs dD hc cP h hN hQ
  ·rename_i r m hc
   split at h
   ·rename_i g y hr;exact CX hs dD hc cP hr h hN hQ
   ·exact h.elim
  ·exact E4 hs rfl cP h hN
 ·rename_i x dD
  have hx:=l8 (M:=M) (φ:=φ) (H:=s.H) (w:=w) s a hs.env x
  have bK:∀ (t:TypeId) (u:Value),a.eval x= .iface t u->Q (.panic [{v:= .iface t u,recovered:=false}]) a w->o.wpIn (dT ro) k P a w next Q:=by
   intro t u hu hq
   refine jM (fun c hc=>by rw[dD]at hc;cases hc) ?_
   have hr:(execOp a.eval o).run P w= .halt (.panic (.iface t u)) w:=by simp[execOp,dD,hu,Instr.panic]
   rw[hr];exact hq
  split at h
  ·rename_i t y hv
   rw[hv]at hx
   obtain⟨u,hu,hd⟩:=hx
   exact bK t u hu (hQ _ s φ w (.iface t u) h hs ⟨u,rfl,hd⟩)
  ·rename_i t y hv
   rw[hv]at hx
   obtain⟨u,hu,hd⟩:=hx
   exact bK t u hu (hQ _ s φ w (.iface t u) h hs ⟨u,rfl,hd⟩)
  ·exact h.elim
 ·exact E4 hs rfl cP h hN
end
end Go.Proofs.YtealblliddhgiaaGreat
namespace Go
def Code.rX (P:Program)(ro:Option Nat)(c:Code)(Q:Exit->Act->World->Prop)(a:Act)(w:World):Prop:=
 ∀ (b:Frame) (k:List Item) (cs:List Frame),b.roundOf=ro->b.fn<P.funcs.size->
   ∃e a' w',Q e a' w'/\ArrivesIn (Machine.fenced P (Proofs.YtealblliddhgiaaGreat.dT ro)) P (lone (b.atR a (.code c::k)) cs w) b k cs e a' w'
end Go
namespace Go.Proofs.YtealblliddhgiaaGreat
instance:LawfulMonad Sem:=LawfulMonad.mk' Sem (id_map:=fun x=>Sem.bind_pure' x) (pure_bind:=fun _ _=>rfl) (bind_assoc:=fun x f g=>Sem.bind_assoc' x f g)
section
variable {P:Program}{M:Nat->Prop}{φ:Place}{H:Hp}{w w':World}{cC:Place}{H0:Hp}{w0:World}{n b:Nat}{s:S}{a:Act}{cx:Cx}{ro:Option Nat}{k:Nat}
theorem oO(hs:cd M cC H0 w0 n cx φ s a w){ops:Array Oper}{o:Oper}{A B:Prop}(h:vI s ops o.guard A B):
 (Region.wanted o (yielded ops a.tmps)=true->A)/\(Region.wanted o (yielded ops a.tmps)=false->B):=by
 unfold vI at h
 unfold Region.wanted
 split at h
 ·rename_i hg;simp only[hg];exact⟨fun _=>h,fun h=>by cases h⟩
 ·rename_i j want hg
  simp only[hg]
  unfold qg at h
  unfold yielded
  split at h
  ·rename_i d hd
   simp only[hd,Option.bind_some]
   have dC:=hs.env d
   split at h
   ·rename_i c hv
    rw[hv]at dC
    simp only[V.den,D.den]at dC
    have:a.tmps[d]? =some (.bool c):=by
     rw[Array.getD_eq_getD_getElem?]at dC
     cases hx:a.tmps[d]? with
     |none=>rw[hx]at dC;simp[undef]at dC
     |some x=>rw[hx]at dC;simp at dC;rw[dC]
    simp only[this]
    by_cases hc:c=want
    ·subst hc;exact⟨fun _=>h.1 rfl,fun h=>by simp at h⟩
    ·exact⟨fun h'=>absurd (by simpa using h') hc,fun _=>h.2 hc⟩
   ·rename_i hv
    rw[hv]at dC
    obtain⟨arr,cG,hn⟩:=dC
    simp only[V.aB]at hn
    have:∀c,a.tmps[d]? ≠some (.bool c):=by
     intro c hx
     rw[Array.getD_eq_getD_getElem?,hx]at cG
     simp at cG
    cases hx:a.tmps[d]? with
    |none=>exact⟨fun h=>by simp at h,fun _=>h⟩
    |some x=>cases x<;>first|(exact absurd hx (this _))|(exact⟨fun h=>by simp at h,fun _=>h⟩)
   ·exact h.elim
  ·rename_i hd
   simp only[hd,Option.bind_none]
   exact⟨fun h=>by simp at h,fun _=>h⟩
theorem xN(hs:cd M cC H0 w0 n cx φ s a w){dst:Option Tmp}(cP:gr n dst):cd M cC H0 w0 n cx φ ⟨aY s.env dst (.bW []),s.o,s.nx+1⟩ (a.put dst undef) w:=
 ll (v:= .bW []) (val:=undef) hs hs.heap (Trans.refl _ _ _) ⟨#[],rfl,rfl⟩ cP rfl fun _ hu=>Nat.lt_succ_of_lt hu
theorem nL{ops:Array Oper}{X:V->S->Prop}{K:S->Prop}{Q:Exit->Act->World->Prop}
 (hK:∀s φ a w,K s->cd M cC H0 w0 n cx φ s a w->Q .normal a w)
 (hQ:∀v s' ax a w' val,X v s'->cd M cC H0 w0 n cx ax s' a w'->V.den (ai M ax s'.H) ax s'.H w' v val->Q (.panic [{v:=val,recovered:=false}]) a w'):
 ∀ (l:List Oper) (s:S) (φ:Place) (a:Act) (w:World),vJ P n ops X K l s->cd M cC H0 w0 n cx φ s a w->wpListIn (dT ro) k P ops Q l a w
 |[],s,φ,a,w,h,hs=>hK s φ a w h hs
 |o::l,s,φ,a,w,h,hs=>by
  obtain⟨h1,h2⟩:=oO hs h
  unfold wpListIn
  split
  ·rename_i hw
   exact ur hs (h1 hw) (fun s' ax a' w' hk iz=>nL hK hQ l s' ax a' w' hk iz) (fun v s' ax w' val hx iz hd=>hQ v s' ax a w' val hx iz hd)
  ·rename_i hw
   obtain⟨cP,h3⟩:=h2 (by simpa using hw)
   exact⟨fun _ _=>trivial,nL hK hQ l _ _ _ _ h3 (xN hs cP)⟩
def Bu(M:Nat->Prop)(cC:Place)(H0:Hp)(w0:World)(n:Nat)(cx:Cx)(Q:fq->S->Prop)(e:Exit)(a:Act)(w:World):Prop:=
 ∃x s φ,Q x s/\cd M cC H0 w0 n cx φ s a w/\match e,x with
  | .normal, .normal=>True
  | .exit i, .exit j=>i=j
  | .ret, .ret=>True
  | .panic ch, .bK v=>∃val,ch=[{v:=val,recovered:=false}]/\V.den (ai M φ s.H) φ s.H w v val
  |_,_=>False
section
variable {Q:Exit->Act->World->Prop}
theorem gv{m:Nat}:(dT ro).room m:=fun d hd=>by simp[dT]at hd
theorem nM{c:Code}(h:c.wpIn (dT ro) k P Q a w):c.rX P ro Q a w:=fun b k cs rW _=>h b k cs rW trivial gv
theorem gw{c:Code}{Q':Exit->Act->World->Prop}(h:c.rX P ro Q a w)(hq:∀e a w,Q e a w->Q' e a w):c.rX P ro Q' a w:=
 fun b k cs rW hb=>let⟨e,a',w',q,r⟩:=h b k cs rW hb;⟨e,a',w',hq _ _ _ q,r⟩
theorem Bv(h:Q .ret a w):Code.ret.rX P ro Q a w:=nM (k:=0) (wpIn_ret h)
theorem xO{id:Nat}(h:Q (.exit id) a w):(Code.exit id).rX P ro Q a w:=nM (k:=0) (wpIn_exit h)
theorem vM{x y:Code}(h:x.rX P ro (Exit.then (y.rX P ro Q) Q) a w):(Code.seq x y).rX P ro Q a w:=by
 intro b k cs rW hb
 have h0:(lone (b.atR a (.code (.seq x y)::k)) cs w).fenced P (dT ro):=fenced_calm (n:=0) trivial gv rfl
 obtain⟨e,iP,fM,hq,cG⟩:=h b (.code y::k) cs rW hb
 cases e with
 |normal=>
  obtain⟨KH,On,pR,oP,jO⟩:=hq b k cs rW hb
  exact⟨KH,On,pR,oP, .of_steps (.head h0 stepR_seq cG) jO⟩
 |exit id=>exact⟨_,iP,fM,hq, .of_steps (.one h0 stepR_seq) (.pass (x:= .code y) rfl (fun _ _=> .inl (by simp)) cG)⟩
 |goto l=>exact⟨_,iP,fM,hq, .of_steps (.one h0 stepR_seq) (.pass (x:= .code y) rfl (fun _ _=> .inl (by simp)) cG)⟩
 |ret=>exact⟨_,iP,fM,hq, .of_steps (.one h0 stepR_seq) (.pass (x:= .code y) rfl (fun _ _=> .inl (by simp)) cG)⟩
 |panic ch=>exact⟨_,iP,fM,hq, .of_steps (.one h0 stepR_seq) (.pass (x:= .code y) rfl (fun _ _=> .inl (by simp)) cG)⟩
 |outgrown=>exact⟨_,iP,fM,hq, .of_steps (.one h0 stepR_seq) (.pass (x:= .code y) rfl (fun _ _=> .inl (by simp)) cG)⟩
theorem oQ{c:Operand}{x y:Code}{t:Bool}(hc:a.eval c= .bool t)(h:(if t then x else y).rX P ro Q a w):(Code.cond c x y).rX P ro Q a w:=
 fun b k cs rW hb=>let⟨e,a',w',q,r⟩:=h b k cs rW hb;⟨e,a',w',q, .of_steps (.one (fenced_calm (n:=0) trivial gv rfl) (stepR_cond hc)) r⟩
theorem CZ{id:Nat}{c:Code}(h:c.rX P ro (Exit.inBlock id Q) a w):(Code.block id c).rX P ro Q a w:=by
 intro b k cs rW hb
 have h0:(lone (b.atR a (.code (.block id c)::k)) cs w).fenced P (dT ro):=fenced_calm (n:=0) trivial gv rfl
 obtain⟨e,iP,fM,hq,cG⟩:=h b (.inBlock id::k) cs rW hb
 cases e with
 |normal=>exact⟨.normal,iP,fM,hq, .head h0 stepR_block (StepsIn.trans cG (.one (fenced_calm (n:=0) trivial gv rfl) stepR_inBlock))⟩
 |exit cS=>
  by_cases aj:cS=id
  ·simp only[Exit.inBlock,aj,if_true]at hq
   exact⟨.normal,iP,fM,hq, .head h0 stepR_block (cG.1 k (by simp[exitTo,aj]))⟩
  ·simp only[Exit.inBlock,aj,if_false]at hq
   have this:(id==cS)=false:=by simp;exact fun h=>aj h.symm
   have hx:exitTo cS (.inBlock id::k)=exitTo cS k:=by simp[exitTo,this]
   exact⟨.exit cS,iP,fM,hq,fun k' hk=> .head h0 stepR_block (cG.1 k' (by rw[hx];exact hk)),
    fun CT hk=>let⟨k₁,h1,h2⟩:=cG.2 CT (by rw[hx];exact hk);⟨k₁,h1, .head h0 stepR_block h2⟩⟩
 |goto l=>
  have hx:gotoIn l (.inBlock id::k)=gotoIn l k:=by simp[gotoIn]
  exact⟨_,iP,fM,hq,fun k' hk=> .head h0 stepR_block (cG.1 k' (by rw[hx];exact hk)),
   fun CT hk=>let⟨k₁,h1,h2⟩:=cG.2 CT (by rw[hx];exact hk);⟨k₁,h1, .head h0 stepR_block h2⟩⟩
 |ret=>exact⟨_,iP,fM,hq, .of_steps (.one h0 stepR_block) cG⟩
 |panic ch=>exact⟨_,iP,fM,hq, .of_steps (.one h0 stepR_block) cG⟩
 |outgrown=>exact⟨_,iP,fM,hq, .of_steps (.one h0 stepR_block) cG⟩
theorem fT{b:Frame}{k:List Item}{cs:List Frame}{c:Code}:step P (lone (b.atR a (.code (.scope c)::k)) cs w)= .next (lone (b.atR a (.code c:: .inScope c::k)) cs w):=
 step_lone_go (by simp[stepG,stepG.exec,Frame.atR])
theorem tG{b:Frame}{k:List Item}{cs:List Frame}{c:Code}:step P (lone (b.atR a (.inScope c::k)) cs w)= .next (lone (b.atR a k) cs w):=
 step_lone_go (by simp[stepG,stepG.exec,Frame.atR])
theorem C0{c:Code}(h:c.rX P ro Q a w)(hg:∀l a w, ¬Q (.goto l) a w):(Code.scope c).rX P ro Q a w:=by
 intro b k cs rW hb
 have h0:(lone (b.atR a (.code (.scope c)::k)) cs w).fenced P (dT ro):=fenced_calm (n:=0) trivial gv rfl
 obtain⟨e,iP,fM,hq,cG⟩:=h b (.inScope c::k) cs rW hb
 cases e with
 |normal=>exact⟨.normal,iP,fM,hq, .head h0 fT (StepsIn.trans cG (.one (fenced_calm (n:=0) trivial gv rfl) tG))⟩
 |exit cS=>
  have hx:exitTo cS (.inScope c::k)=exitTo cS k:=by simp[exitTo]
  exact⟨.exit cS,iP,fM,hq,fun k' hk=> .head h0 fT (cG.1 k' (by rw[hx];exact hk)),
   fun CT hk=>let⟨k₁,h1,h2⟩:=cG.2 CT (by rw[hx];exact hk);⟨k₁,h1, .head h0 fT h2⟩⟩
 |goto l=>exact(hg _ _ _ hq).elim
 |ret=>exact⟨_,iP,fM,hq, .of_steps (.one h0 fT) cG⟩
 |panic ch=>exact⟨_,iP,fM,hq, .of_steps (.one h0 fT) cG⟩
 |outgrown=>exact⟨_,iP,fM,hq, .of_steps (.one h0 fT) cG⟩
def rY(P:Program)(l:Nat)(Q:Exit->Act->World->Prop)(a':Act):Ending->World->Prop
 | .returned _,Ac=>∃jump qP,(Instr.endLoop l).run P Ac= .ok jump qP/\(match jump with|none=>Q .normal a' qP|some c=>c.rX P none Q a' qP)
 | .panicked chain,Ac=>Q (.panic chain) a' Ac
 | .outgrown,_=>LetsOut Q
theorem tH{g:Operand}{ps:Array Tmp}{assign body:Code}
 (h:∀fn,fn<P.funcs.size->∃ (l:Nat) (mark:List Deferred) (fM:World) (d:Deferred) (uu:World) (f:FuncId) (args:Array Value) (pR:World),
  (Instr.enterLoop fn a.tmps ps assign body (dT none).round).run P w= .ok (l,mark) fM/\(resolve a.eval (rangeCall g l) 0).run P fM= .ok d uu/\
  (invoke d.target d.args).run P uu= .ok (.enter f args) pR/\CallsIn (dT none) 0 P f args pR (rY P l Q {a with defers:=mark++a.defers})):
 (Code.rangeFunc g ps assign body).rX P none Q a w:=by
 intro b k cs rW hb
 obtain⟨l,mark,fM,d,uu,f,args,pR,he,qQ,hinv,hF,eR⟩:=h b.fn hb
 rw[show(dT none).round=b.roundOf from rW.symm]at he
 have calm:∀ (m:Machine),m.fenced P (dT none)↔m.fenced P Fence.wide:=fun m=>Iff.rfl
 have h0:(lone (b.atR a (.code (.rangeFunc g ps assign body)::k)) cs w).fenced P (dT none):=(calm _).2 (fenced_wide P _)
 have lr:=stepR_rangeFunc (P:=P) (b:=b) (a:=a) (k:=k) (cs:=cs) (w:=w) he qQ hinv
 obtain⟨e,Ac,fr,hR,Ad,CY,E7⟩:=eR (b.atR {a with defers:=mark++a.defers} (.inRangeFunc l::k)::cs) gv
 cases e with
 |outgrown=>
  obtain⟨Tp,Tq,hq⟩:=hR
  exact⟨.outgrown,Tp,Tq,hq, .inr (Outgrown.of_steps (.one lr) Ad)⟩
 |returned v=>
  obtain⟨jump,qP,gK,hj⟩:=hR
  have I6:StepsIn (Machine.fenced P (dT none)) P (lone (b.atR a (.code (.rangeFunc g ps assign body)::k)) cs w) (lone (b.atR {a with defers:=mark++a.defers} ((jump.map Item.code).toList++k)) cs qP):=by
   refine .head h0 lr (StepsIn.trans Ad (.head ((calm _).2 (fenced_wide P _)) ?_ (.one ((calm _).2 (fenced_wide P _)) (stepR_endRangeFunc gK))))
   rw[<- finish_atR_inRangeFunc l v];exact step_leave_returned E7
  cases jump with
  |none=>exact⟨.normal,_,qP,hj,I6⟩
  |some c=>
   obtain⟨e',YG,Ts,hq,cG⟩:=hj b k cs rW hb
   exact⟨e',YG,Ts,hq, .of_steps I6 cG⟩
 |panicked chain=>
  refine⟨.panic chain,_,Ac,hR, .inRangeFunc l::k, .head h0 lr (StepsIn.trans Ad (.one ((calm _).2 (fenced_wide P _)) ?_))⟩
  rw[<- Frame.raise_atR];exact step_leave_panicked E7
end
theorem uv(hH:au M φ H w){id l:Nat}(dB:H.us id){nf m:Nat}{env:List V}{ps:List Nat}{lS gY:IC}{st st':LoopState}{pd pd':Option kn}(ho:H.o id= .loop nf m env ps lS gY st pd)(du:φ id= .pointer (some ⟨l,0,none⟩)):
 ∃r,w.heap[l]? =some (.loop r)/\r.state=st/\r.pending=pd.map kn.code/\
  au M φ (H.put [(id, .loop nf m env ps lS gY st' pd')]) {w with heap:=w.heap.setIfInBounds l (.loop {r with state:=st',pending:=pd'.map kn.code})}/\
  Trans φ H w φ (H.put [(id, .loop nf m env ps lS gY st' pd')]) {w with heap:=w.heap.setIfInBounds l (.loop {r with state:=st',pending:=pd'.map kn.code})}:=by
 have bz:=hH.ok id
 simp only[aL,ho]at bz
 obtain⟨b,r,h1,h2,h0,h3,h4,h5,h6,h7,h8,h9⟩:=bz
 rw[du]at h1;simp at h1;subst h1
 refine⟨r,h2,h3,h4, ?_⟩
 have EU:eM (· =l) w {w with heap:=w.heap.setIfInBounds l (.loop {r with state:=st',pending:=pd'.map kn.code})}:=
  ⟨rfl,rfl,rfl,by simp,fun j _ hj=>(MapKept.heap_set h2).2 j hj⟩
 have vB:(H.o id).live=true:=by rw[ho];rfl
 have CQ:dS (φ id)=some l:=by rw[du];rfl
 have ht:=eQ (w:=w) (w':={w with heap:=w.heap.setIfInBounds l (.loop {r with state:=st',pending:=pd'.map kn.code})}) dB vB CQ EU (.loop nf m env ps lS gY st' pd') (by rw[ho];rfl) (by rw[ho];rfl)
 refine⟨gI hH dB vB CQ EU _ (by rw[ho];rfl) (by rw[ho];rfl) ?_,ht⟩
 unfold aL
 simp only[bE,aJ,if_true]
 exact⟨l,_,du,(MapKept.heap_set h2).1,h0,rfl,rfl,h5,h6,h7,h8,fun i=>V.aC ht _ _ (h9 i)⟩
theorem iA{l:Nat}{r:Loop}(o:Obj)(hb:w.heap[l]? =some (.loop r)):(setObj l o).run P w= .ok () {w with heap:=w.heap.setIfInBounds l o}:=by
 simp[setObj,Sem.run,hb]
theorem jP{l:Nat}{r:Loop}(hb:w.heap[l]? =some (.loop r)):(Instr.getLoop l).run P w= .ok r w:=by
 simp[Instr.getLoop,getObj,Sem.run,hb,Result.andThen]
end
def vN(Q:fq->S->Prop)(pd:Option kn)(s:S):Prop:=
 match pd with
 |none=>Q .normal s
 |some .ret=>Q .ret s
 |some (.exit id)=>Q (.exit id) s
def xP(P:Program)(n:Nat)(g:V)(ps:List Nat)(lS gY:IC)(Q:fq->S->Prop)(s:S):Prop:=
 ∃env,(∀i,bB env i= .ab\/bB env i=s.env i)/\
  match g with
  | .func (.func f) first cap=>mj P f (first++[.ko s.nx]++cap) (aq s.o s.nx (.loop P.funcs.size n env ps lS gY .ready none)) (s.nx+1)
    (fun _ o' nx'=>∃nf m e p c d st pd,o' s.nx= .loop nf m e p c d st pd/\st≠ .busy/\vN Q pd ⟨s.env,aq o' s.nx (.loop nf m e p c d .exhausted pd),nx'⟩)
    (fun v o' nx'=>Q (.bK v) ⟨s.env,o',nx'⟩)
  |_=>False
def iJ(P:Program)(n b:Nat)(rd:Bool):Code->(fq->S->Prop)->S->Prop
 | .skip,Q,s=>Q .normal s
 | .label _,Q,s=>Q .normal s
 | .scope x,Q,s=>iJ P n b rd x Q s
 | .region _ ops false,Q,s=>vJ P n ops (fun v s=>Q (.bK v) s) (Q .normal) ops.toList s
 | .region id ops true,Q,s=>∀M cC H0 w0 cx φ a w ro k,cd M cC H0 w0 n cx φ s a w->(Code.region id ops true).wpIn (dT ro) k P (Bu M cC H0 w0 n cx Q) a w
 | .seq x y,Q,s=>iJ P n b rd x (oN (iJ P n b rd y Q) Q) s
 | .cond c x y,Q,s=>match s.ev c with
   | .d (.bool t)=>(t=true->iJ P n b rd x Q s)/\(t=false->iJ P n b rd y Q s)
   | .eY=>iJ P n b rd x Q s/\iJ P n b rd y Q s
   |_=>False
 | .block id x,Q,s=>iJ P n b rd x (fk id Q) s
 | .loop x,Q,s=>∃ (J:Nat->S->Prop),(∃m s1,bY b s s1/\J m s1)/\∀m s0,J m s0->iJ P n b rd x (fun e s=>match e with| .normal=>∃m' s1,m'<m/\bY b s s1/\J m' s1|e=>Q e s) s0
 | .exit id,Q,s=>Q (.exit id) s
 | .ret,Q,s=>Q .ret s
 | .rangeFunc g ps x y,Q,s=>rd=false/\xP P n (s.ev g) ps.toList (low n x) (low n y) Q s
 |_,_,_=>False
section
variable {P:Program}{M:Nat->Prop}{φ:Place}{H:Hp}{w w':World}{cC:Place}{H0:Hp}{w0:World}{n b:Nat}{s:S}{a:Act}{cx:Cx}{ro:Option Nat}{k:Nat}
theorem E8(hb:∀id,H0.us id->id<b)(hs:cd M cC H0 w0 n cx φ s a w){s':S}(h:bY b s s'):∃ax,cd M cC H0 w0 n cx ax s' a w:=by
 obtain⟨ax,h1,h2,h3,h4,h5,h6⟩:=h M φ w (fun i=>a.tmps.getD i undef) hs.heap hs.env
 refine⟨ax,h1,⟨hs.tr.cg,fun k hk=>hs.tr.grow k (h3 k hk),⟨fun id hu=>Nat.lt_of_lt_of_le (hb id hu) h4,fun id hu hr=> ?_,fun id e' hu he=> ?_⟩⟩,hs.size, ?_,h2⟩
 ·obtain⟨g1,g2⟩:=h5 id (hb id hu) hr
  obtain⟨g3,g4⟩:=hs.tr.rel.row id hu g1
  exact⟨g3,g2.trans g4⟩
 ·obtain⟨e,g1,g2,g3⟩:=h6 id e' (hb id hu) he
  obtain⟨e0,k1,k2,k3⟩:=hs.tr.rel.ep id e hu g1
  refine⟨e0,k1,Nat.le_trans k2 g2,fun heq=> ?_⟩
  have a1:e0=e:=by omega
  have a2:e=e':=by omega
  exact(g3 a2).trans (k3 a1)
 ·obtain⟨ms,g1,g2,g3,g4⟩:=hs.defers
  exact⟨ms,g1,g2,g3,fun r hr=>⟨(g4 r hr).1,(g4 r hr).2.1,fun hl=>(g4 r hr).2.2 (h3 r hl)⟩⟩
theorem vO{c:Code}{Q:Exit->Act->World->Prop}(J:Nat->Act->World->Prop)(round:∀m a w,J m a w->c.rX P ro (Exit.then (fun a' w'=>∃m',m'<m/\J m' a' w') Q) a w):
 ∀m a w,J m a w->(Code.loop c).rX P ro Q a w:=by
 intro m a w h0 fr kk cs rW hb
 have hr:(dT ro).room (cs.length+1+0):=fun d hd=>by simp[dT]at hd
 have key:∀m a w,J m a w->∃e a' w',Q e a' w'/\ArrivesIn (Machine.fenced P (dT ro)) P (lone (fr.atR a (.code c:: .inLoop c::kk)) cs w) fr kk cs e a' w':=by
  intro m
  induction m using Nat.strongRecOn with
  |_ m ih=>
   intro a w hJ
   obtain⟨e,a1,w1,hq,cG⟩:=round m a w hJ fr (.inLoop c::kk) cs rW hb
   cases e with
   |normal=>
    obtain⟨m',bM,YH⟩:=hq
    obtain⟨e2,a2,w2,MK,Bw⟩:=ih m' bM a1 w1 YH
    exact⟨e2,a2,w2,MK, .of_steps (StepsIn.trans cG (.one (fenced_calm trivial hr rfl) stepR_inLoop)) Bw⟩
   |_=>exact⟨_,a1,w1,hq, .pass (x:= .inLoop c) rfl (fun _ _=> .inl (by simp)) cG⟩
 obtain⟨e,a',w',hq,cG⟩:=key m a w h0
 exact⟨e,a',w',hq, .of_steps (.one (fenced_calm trivial hr rfl) stepR_loop) cG⟩
theorem C1(hs:cd M cC H0 w0 n cx φ s a w)(me:cx.rd=false)(rW:ro=none){g:Operand}{ps:Array Tmp}{x y:Code}{Q:fq->S->Prop}(h:xP P n (s.ev g) ps.toList (low n x) (low n y) Q s):
 (Code.rangeFunc g ps x y).rX P ro (Bu M cC H0 w0 n cx Q) a w:=by
 subst rW
 obtain⟨env,dC,h⟩:=h
 refine tH fun fn CY=> ?_
 let Ae:Loop:={state:= .ready,pending:=none,fn:=fn,tmps:=a.tmps,params:=ps,assign:=x,body:=y,defers:=w.heap.size}
 let w1:World:=(w.alloc (.deferred (some []))).alloc (.loop Ae)
 let l:Nat:=w.heap.size+1
 have lr:(Instr.enterLoop fn a.tmps ps x y (dT none).round).run P w= .ok (l,[mark w.heap.size]) w1:=by
  simp[Instr.enterLoop,dT,mark,w1,l,Ae]
 have I7:eM (fun _=>False) w w1:=by
  have k1:=da w (.deferred (some []))
  have k2:=da (w.alloc (.deferred (some []))) (.loop Ae)
  exact⟨k2.os.trans k1.os,k2.tape.trans k1.tape,k2.output.trans k1.output,Nat.le_trans k1.size k2.size,fun j hj hm=>(k2.block j (Nat.lt_of_lt_of_le hj k1.size) hm).trans (k1.block j hj hm)⟩
 let iy:=aq φ s.nx (.pointer (some ⟨l,0,none⟩))
 let s1:S:=⟨s.env,aq s.o s.nx (.loop P.funcs.size n env ps.toList (low n x) (low n y) .ready none),s.nx+1⟩
 have dU: ¬s.H.us s.nx:=by simp[S.H]
 have ec:∀b,dS (.pointer (some ⟨l,0,none⟩))=some b->w.heap.size<=b/\b<w1.heap.size:=by
  intro b hb;simp[dS]at hb;subst hb;simp[l,w1]
 have w8:=e8 (φ:=φ) (H:=s.H) I7 dU (.loop P.funcs.size n env ps.toList (low n x) (low n y) .ready none) (.pointer (some ⟨l,0,none⟩)) fun b hb=>(ec b hb).1
 have Hr:(w.alloc (.deferred (some []))).heap.size=w.heap.size+1:=by simp
 have vB:w1.heap[l]? =some (.loop Ae):=by
  have:=heap_alloc_new (w.alloc (.deferred (some []))) (.loop Ae)
  rwa [Hr]at this
 have KI:=jh hs.heap I7 dU (.loop P.funcs.size n env ps.toList (low n x) (low n y) .ready none) (.pointer (some ⟨l,0,none⟩)) ec (by
  unfold aL
  simp only[bE,aJ,if_true]
  refine⟨l,Ae,rfl,vB,CY,rfl,rfl,rfl,hs.size,rfl,rfl,fun i=> ?_⟩
  rcases dC i with e|e
  ·rw[e];trivial
  ·rw[e];exact V.aC w8 _ _ (hs.env i))
 have uw:cd M cC H0 w0 n cx iy s1 {a with defers:=mark w.heap.size::a.defers} w1:=by
  have base:=ez hs KI w8 (o':=aq s.o s.nx (.loop P.funcs.size n env ps.toList (low n x) (low n y) .ready none)) (nx':=s.nx+1) rfl (E3 fun id aj=>by simp at aj;exact .inr aj)
  refine⟨base.heap,base.tr,base.size, ?_,base.env⟩
  obtain⟨ms,g1,g2,g3,g4⟩:=base.defers
  obtain⟨Tt,q1,q2,q3,q4⟩:=hs.defers
  have YI:ms.map mark=Tt.map mark:=by
   have:ms.map mark++cx.base=Tt.map mark++cx.base:=g1.symm.trans q1
   exact List.append_cancel_right this
  have vP:ms=Tt:=by
   have hm:∀a b,mark a=mark b->a=b:=fun a b h=>by simpa[mark]using h
   exact List.map_inj_right hm |>.1 YI
  refine⟨w.heap.size::ms,by rw[g1];rfl,List.nodup_cons.2 ⟨fun hm=> ?_,g2⟩,(fun h=>by rw[me]at h;cases h),fun r hr=> ?_⟩
  ·have:=(q4 w.heap.size (vP ▸ hm)).2.1
   rw[Array.getElem?_eq_none (Nat.le_refl _)]at this;cases this
  ·rcases List.mem_cons.1 hr with rfl|hr
   ·refine⟨hs.tr.cg.size,(RowKit.Below.heap_alloc (w.alloc (.deferred (some []))) (.loop Ae) w.heap.size (by rw[Hr];omega)).trans (heap_alloc_new w _), ?_⟩
    rintro⟨id,i1,i2⟩
    by_cases e:id=s.nx
    ·subst e;simp[iy,dS,l]at i2
    ·have YJ:(s.H.o id).live=true:=by simpa[s1,S.H,e]using i1
     have YK:dS (φ id)=some w.heap.size:=by simpa[iy,e]using i2
     have:=(hs.heap.ours _ ⟨id,YJ,YK⟩).2
     omega
   ·exact g4 r hr
 have Tu:V.den (ai M iy s1.H) iy s1.H w1 (.ko s.nx) (.func (.yield l) #[] #[]):=
  ⟨rfl,by simp[s1,S.H],fun _=>⟨l,by simp[iy],rfl⟩⟩
 have hg:=l8 (M:=M) (φ:=iy) (H:=s1.H) (w:=w1) s1 {a with defers:=mark w.heap.size::a.defers} uw.env g
 have Tv:s1.ev g=s.ev g:=by cases g<;>rfl
 rw[Tv]at hg
 have YL:({a with defers:=mark w.heap.size::a.defers}:Act).eval g=a.eval g:=rfl
 rw[YL]at hg
 split at h
 ·rename_i f first cap YM
  rw[YM]at hg
  obtain⟨fa,ca,KG,zT,Om⟩:=hg
  have fin:∀ (all:List V) (o2:Nat->ae) (s2:S),s2=⟨s.env,o2,s.nx+1⟩->cd M cC H0 w0 n cx iy s2 {a with defers:=mark w.heap.size::a.defers} w1->V.aB (ai M iy s2.H) iy s2.H w1 all (fa++#[Value.func (.yield l) #[] #[]]++ca).toList->(o2 s.nx).bO=true->
   eN P f all o2 (s.nx+1) (fun _ o' nx'=>∃nf m e p c d st pd,o' s.nx= .loop nf m e p c d st pd/\st≠ .busy/\vN Q pd ⟨s.env,aq o' s.nx (.loop nf m e p c d .exhausted pd),nx'⟩) (fun v o' nx'=>Q (.bK v) ⟨s.env,o',nx'⟩)->
   ∃ (l:Nat) (mark:List Deferred) (fM:World) (d:Deferred) (uu:World) (f:FuncId) (args:Array Value) (pR:World),
     (Instr.enterLoop fn a.tmps ps x y (dT none).round).run P w= .ok (l,mark) fM/\(resolve a.eval (rangeCall g l) 0).run P fM= .ok d uu/\
     (invoke d.target d.args).run P uu= .ok (.enter f args) pR/\CallsIn (dT none) 0 P f args pR (rY P l (Bu M cC H0 w0 n cx Q) {a with defers:=mark++a.defers}):=by
   intro all o2 s2 Tw G8 aP a8 hC
   subst Tw
   have eR:=hC.2 M iy w1 _ G8.heap aP
   refine⟨l,[mark w.heap.size],w1,{target:= .fn (.func f) ca,args:=fa++#[Value.func (.yield l) #[] #[]]},w1,f,fa++#[Value.func (.yield l) #[] #[]]++ca,w1,lr, ?_, ?_,dc (eR.mono fun e w' ⟨ax,o',nx',v,k1,k2,k3⟩=> ?_)⟩
   ·simp only[resolve,KG,Deferred.ofValue,List.map_toArray,List.map_cons,List.map_nil,Sem.run_pure]
    rfl
   ·simp[invoke,kA hC.1]
   ·cases e with
    |returned val=>
     obtain⟨k4,nf,m,e,p,c,d,st,pd,k5,k6,k7⟩:=k3
     have zG:cd M cC H0 w0 n cx ax ⟨s.env,o',nx'⟩ {a with defers:=mark w.heap.size::a.defers} w':=ez G8 k1 k2 rfl fun id hu=>hu
     have KJ:ax s.nx= .pointer (some ⟨l,0,none⟩):=by
      have:=(k2.rel.row s.nx (show s.nx<s.nx+1 by omega) (by show(o' s.nx).bO=true;rw[k5];rfl)).2
      rw[this];simp[iy]
     have bM:s.nx<nx':=k2.rel.us s.nx (show s.nx<s.nx+1 by omega)
     obtain⟨r,r1,r2,r3,r4,r5⟩:=uv (st':= .exhausted) (pd':=pd) k1 bM (show(hp o' nx').o s.nx=_ from k5) KJ
     have gK:(Instr.endLoop l).run P w'= .ok (pd.map kn.code) {w' with heap:=w'.heap.setIfInBounds l (.loop {r with state:= .exhausted,pending:=pd.map kn.code})}:=by
      have e1:({r with state:= .exhausted}:Loop)={r with state:= .exhausted,pending:=pd.map kn.code}:=by rw[<- r3]
      have YN:(r.state==LoopState.busy)=false:=by rw[r2];cases st<;>first|rfl|exact absurd rfl k6
      simp only[Instr.endLoop,Sem.run_bind,jP r1,Result.andThen_ok,YN,Bool.false_eq_true,if_false,Sem.run_pure]
      rw[iA _ r1,e1]
      simp[r3]
     have ML:=ez zG r4 r5 (o':=aq o' s.nx (.loop nf m e p c d .exhausted pd)) (nx':=nx') rfl fun id hu=>by
      simp only[dZ]at hu
      rcases hu with hu|hu
      ·exact hu
      ·subst hu;exact bM
     refine⟨pd.map kn.code,_,gK, ?_⟩
     cases pd with
     |none=>exact⟨.normal,_,_,k7,ML,trivial⟩
     |some j=>
      cases j with
      |ret=>exact Bv ⟨.ret,_,_,k7,ML,trivial⟩
      |exit id=>exact xO ⟨.exit id,_,_,k7,ML,rfl⟩
    |panicked ch=>
     obtain⟨val,rfl,k4,k5⟩:=k3
     have zG:cd M cC H0 w0 n cx ax ⟨s.env,o',nx'⟩ {a with defers:=mark w.heap.size::a.defers} w':=ez G8 k1 k2 rfl fun id hu=>hu
     exact⟨.bK v,_,_,k5,zG,val,rfl,k4⟩
    |outgrown=>exact k3.elim
  have mm:V.aB (ai M iy s1.H) iy s1.H w1 (first++[V.ko s.nx]++cap) (fa++#[Value.func (.yield l) #[] #[]]++ca).toList:=by
   rw[Array.toList_append,Array.toList_append]
   exact V.lq zT ⟨_,[],rfl,Tu,rfl⟩ Om
  rcases h with hC|hC
  ·exact fin _ _ s1 rfl uw mm (by simp;rfl) hC
  ·have jB:s1.o=aq s.o s.nx (.loop P.funcs.size n env ps.toList (low n x) (low n y) .ready none):=rfl
   obtain⟨f1,f2,f3,f4,f5⟩:=cM uw.heap (de s1.o (first++[V.ko s.nx]++cap)) (gu _ _ s1.o mm)
   have hZ:s1.H.put (cw s1.H.o (de s1.o (first++[V.ko s.nx]++cap)))=hp (put s1.o (cw s1.o (de s1.o (first++[V.ko s.nx]++cap)))) s1.nx:=kz (by rw[mW];exact gu _ _ s1.o mm)
   have I8:=E6 f1 _ _ f3 (V.aI f2 _ _ mm)
   have I9:((s1.H.put (cw s1.H.o (de s1.o (first++[V.ko s.nx]++cap)))).o s.nx).bO=true:=by
    by_cases hm:s.nx∈de s1.o (first++[V.ko s.nx]++cap)
    ·rw[f3 _ hm];simp[s1,S.H,ae.fz,ae.bO]
    ·rw[f4 _ hm];simp[s1,S.H,ae.bO]
   rw[hZ]at f1 f2 I8 I9
   exact fin _ (put s1.o (cw s1.o (de s1.o (first++[V.ko s.nx]++cap)))) ⟨s.env,_,s.nx+1⟩ rfl (ez uw f1 f2 rfl fun id hu=>hu) I8 I9 hC
 ·exact h.elim
end
end Go.Proofs.YtealblliddhgiaaGreat
