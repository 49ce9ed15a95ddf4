/-
  A PART OF THE PROOF. Conditions: none.
-/
import Derived.RangeFuncLeaves
import Derived.TacticsIn
import Derived.RecoverIn
import Derived.Test.YtealblliddhgiaaGreatMt4
set_option linter.unusedSimpArgs false
set_option linter.unusedVariables false
namespace Go.Proofs.YtealblliddhgiaaGreat
inductive R where
 |ret (ds:List D)|bJ (d:D)
def R.is (B:Nat->Prop)(w:World):R->Ending->Prop
 | .ret [x], .returned v=>D.den B w x v
 | .ret ds, .returned v=>∃a,v= .tuple a/\D.aF B w ds a.toList
 | .bJ d, .panicked chain=>∃v,chain=[{v:=v,recovered:=false}]/\D.den B w d v
 |_,_=>False
def Enters(P:Program)(f:FuncId):Prop:=∃fn,P.funcs[f]? =some fn/\(fn.name== "runtime.NumGoroutine")=false/\fn.body.isNone=false
def bC(P:Program)(f:FuncId)(ds:List D)(out:R):Prop:=
 Enters P f/\∀ (M:Nat->Prop) (w:World) (vals:Array Value),(∀b,M b->b<w.heap.size)->D.aF M w ds vals.toList->
  Calls P f vals w fun e w'=>eL (fun _=>False) w w'/\out.is M w' e
def hp(o:Nat->ab)(nx:Nat):Hp:=⟨o,fun id=>id<nx⟩
def l7(M:Nat->Prop)(φ:Place)(H:Hp)(w:World)(K X:V->(Nat->ab)->Nat->Prop)(e:Ending)(w':World):Prop:=
 ∃aB o' nx' v,az M aB (hp o' nx') w'/\Trans φ H w aB (hp o' nx') w'/\match e with
  | .returned val=>V.den (aj M aB (hp o' nx')) aB (hp o' nx') w' v val/\K v o' nx'
  | .panicked ch=>∃val,ch=[{v:=val,recovered:=false}]/\V.den (aj M aB (hp o' nx')) aB (hp o' nx') w' v val/\X v o' nx'
  | .outgrown=>False
def eR(P:Program)(f:FuncId)(args:List V)(o:Nat->ab)(nx:Nat)(K X:V->(Nat->ab)->Nat->Prop):Prop:=
 Enters P f/\∀ (M:Nat->Prop) (φ:Place) (w:World) (vals:Array Value),az M φ (hp o nx) w->V.aF (aj M φ (hp o nx)) φ (hp o nx) w args vals.toList->
  Calls P f vals w (l7 M φ (hp o nx) w K X)
def dy(P:Program)(id:Nat)(args:List V)(o:Nat->ab)(nx:Nat)(K X:V->(Nat->ab)->Nat->Prop):Prop:=
 (o id).bN=true/\∀ (M:Nat->Prop) (φ:Place) (w:World) (vals:Array Value) (b:Nat),az M φ (hp o nx) w->V.aF (aj M φ (hp o nx)) φ (hp o nx) w args vals.toList->φ id= .pointer (some ⟨b,0,none⟩)->
  ∃f tmps assign body,(Instr.yield b vals).run P w= .ok (.round b f tmps assign body) w/\∀n,RoundIn Fence.wide n P b f tmps assign body w (l7 M φ (hp o nx) w K X)
theorem l7.mono {M:Nat->Prop}{φ:Place}{H:Hp}{w:World}{K X K' X':V->(Nat->ab)->Nat->Prop}(hK:∀v o n,K v o n->K' v o n)(hX:∀v o n,X v o n->X' v o n){e:Ending}{w':World}(h:l7 M φ H w K X e w'):l7 M φ H w K' X' e w':=by
 obtain⟨aB,o',nx',v,h1,h2,h3⟩:=h
 refine⟨aB,o',nx',v,h1,h2, ?_⟩
 cases e with
 |returned val=>exact⟨h3.1,hK _ _ _ h3.2⟩
 |panicked ch=>obtain⟨val,a,b,c⟩:=h3;exact⟨val,a,b,hX _ _ _ c⟩
 |outgrown=>exact h3
theorem eR.mono {P:Program}{f:FuncId}{args:List V}{o:Nat->ab}{nx:Nat}{K X K' X':V->(Nat->ab)->Nat->Prop}(hK:∀v o n,K v o n->K' v o n)(hX:∀v o n,X v o n->X' v o n)(h:eR P f args o nx K X):eR P f args o nx K' X':=
 ⟨h.1,fun M φ w vals h1 h2=>(h.2 M φ w vals h1 h2).mono fun _ _ h=>h.mono hK hX⟩
theorem dy.mono {P:Program}{id:Nat}{args:List V}{o:Nat->ab}{nx:Nat}{K X K' X':V->(Nat->ab)->Nat->Prop}(hK:∀v o n,K v o n->K' v o n)(hX:∀v o n,X v o n->X' v o n)(h:dy P id args o nx K X):dy P id args o nx K' X':=
 ⟨h.1,fun M φ w vals b h1 h2 h3=>let⟨f,t,a,c,h4,h5⟩:=h.2 M φ w vals b h1 h2 h3;⟨f,t,a,c,h4,fun n=>(h5 n).mono fun _ _ h=>h.mono hK hX⟩⟩
mutual
def D.flat:D->Bool
 | .sl _| .mp _ _=>false
 | .agg cs=>D.je cs
 | .iface _ x=>x.flat
 |_=>true
def D.je:List D->Bool
 |[]=>true
 |x::xs=>x.flat&&D.je xs
end
mutual
theorem D.oN {B B':Nat->Prop}{w w':World}:∀ (x:D) (v:Value),x.flat=true->D.den B w x v->D.den B' w' x v
 | .int _ _,_,_,h| .bool _,_,_,h| .str _,_,_,h| .eh,_,_,h| .gx,_,_,h| .a7,_,_,h| .cU,_,_,h=>h
 | .agg cs,_,hf,h=>by obtain⟨a,rfl,h,h2⟩:=h;exact⟨a,rfl,D.lg cs _ hf h,h2⟩
 | .sl es,_,hf,h=>by simp[D.flat]at hf
 | .mp _ _,_,hf,h=>by simp[D.flat]at hf
 | .iface t x,_,hf,h=>by obtain⟨u,rfl,h⟩:=h;exact⟨u,rfl,D.oN x u hf h⟩
theorem D.lg {B B':Nat->Prop}{w w':World}:∀ (xs:List D) (vs:List Value),D.je xs=true->D.aF B w xs vs->D.aF B' w' xs vs
 |[],_,_,h=>h
 |x::xs,_,hf,h=>by
  obtain⟨u,us,rfl,h1,h2⟩:=h
  simp only[D.je,Bool.and_eq_true]at hf
  exact⟨u,us,rfl,D.oN x u hf.1 h1,D.lg xs us hf.2 h2⟩
end
mutual
def D.l8:D->Bool
 | .mp _ _=>false
 | .agg cs=>D.lh cs
 | .sl es=>D.lh es
 | .iface _ x=>x.l8
 |_=>true
def D.lh:List D->Bool
 |[]=>true
 |x::xs=>x.l8&&D.lh xs
end
theorem fR.xS {B B':Nat->Prop}{w w':World}{a:Addr}{cs:Array Value}
 (hb:∀b,ow w b-> ¬B b->w'.heap[b]? =w.heap[b]? /\ ¬B' b) (h:fR B w a cs):fR B' w' a cs:=by
 intro j u hj
 obtain⟨h1,h2⟩:=h j u hj
 have bI:ow w a.block:=by simpa using nj h1
 obtain⟨h3,h4⟩:=hb _ bI h2
 exact⟨by rw[World.cell?_of_block (w:=w) (w':=w') (a:=a.add j) (by simpa using h3)];exact h1,h4⟩
mutual
theorem D.ku {B B':Nat->Prop}{w w':World}(hb:∀b,ow w b-> ¬B b->w'.heap[b]? =w.heap[b]? /\ ¬B' b):
 ∀ (x:D) (v:Value),x.l8=true->D.den B w x v->D.den B' w' x v
 | .int _ _,_,_,h| .bool _,_,_,h| .str _,_,_,h| .eh,_,_,h| .gx,_,_,h| .a7,_,_,h| .cU,_,_,h=>by simpa[D.den]using h
 | .agg cs,_,hn,h=>by
   obtain⟨a,rfl,h,hf⟩:=h
   exact⟨a,rfl,D.l9 hb cs _ hn h,hf⟩
 | .sl es,_,hn,h=>by
   obtain⟨base,len,cap,rfl,h1,h2,h3,sz,h4⟩:=h
   exact⟨base,len,cap,rfl,h1,h2,h3,sz,fun a ha=>⟨(h4 a ha).1,D.oO hb sz a es 0 hn (h4 a ha).2⟩⟩
 | .iface t d,_,hn,h=>by
   obtain⟨u,rfl,h⟩:=h
   exact⟨u,rfl,D.ku hb d u hn h⟩
 | .mp _ _,_,hn,_=>by simp[D.l8]at hn
theorem D.l9 {B B':Nat->Prop}{w w':World}(hb:∀b,ow w b-> ¬B b->w'.heap[b]? =w.heap[b]? /\ ¬B' b):
 ∀ (ds:List D) (vs:List Value),D.lh ds=true->D.aF B w ds vs->D.aF B' w' ds vs
 |[],_,_,h=>h
 |d::ds,_,hn,h=>by
  obtain⟨u,us,rfl,h1,h2⟩:=h
  simp only[D.lh,Bool.and_eq_true]at hn
  exact⟨u,us,rfl,D.ku hb d u hn.1 h1,D.l9 hb ds us hn.2 h2⟩
theorem D.oO {B B':Nat->Prop}{w w':World}(hb:∀b,ow w b-> ¬B b->w'.heap[b]? =w.heap[b]? /\ ¬B' b)(sz:Nat)(a:Addr):
 ∀ (es:List D) (i:Nat),D.lh es=true->D.elems B w sz a i es->D.elems B' w' sz a i es
 |[],_,_,_=>trivial
 |e::es,i,hn,h=>by
  obtain⟨⟨ev,h1,h2,h3⟩,h4⟩:=h
  simp only[D.lh,Bool.and_eq_true]at hn
  exact⟨⟨ev,h1,h2.xS hb,D.ku hb e ev hn.1 h3⟩,D.oO hb sz a es (i+1) hn.2 h4⟩
end
def R.l8:R->Bool
 | .ret ds=>D.lh ds
 | .bJ d=>d.l8
def R.flat:R->Bool
 | .ret ds=>D.je ds
 | .bJ d=>d.flat
def gr:List D->V
 |[x]=> .d x
 |ds=> .bU (ds.map .d)
inductive fO where
 |normal|exit (id:Nat)|ret|bJ (v:V)
def a8(env:Nat->V)(dst:Option Tmp)(v:V):Nat->V:=
 match dst with
 |some d=>ax env d v
 |none=>env
def Fc(o:Nat->ab)(v:V):V:=match dI o v with|some x=> .d x|none=>v
def cS(o:Nat->ab):List V->List Nat
 |[]=>[]
 |v::vs=>(match dI o v with|some _=>v.ids|none=>[])++cS o vs
def ma(P:Program)(g:FuncId)(args:List V)(o:Nat->ab)(nx:Nat)(K X:V->(Nat->ab)->Nat->Prop):Prop:=
 eR P g args o nx K X\/eR P g (args.map (Fc o)) (put o (cH o (cS o args))) nx K X
def sw(P:Program)(s:S)(g:FuncId)(all:List V)(K:V->(Nat->ab)->Nat->Prop)(X:V->(Nat->ab)->Nat->Prop):Prop:=
    (∃ds out,bW s.o all=some ds/\bC P g ds out/\(match out with
     | .ret rs=>K (gr rs) (put s.o (cH s.o (V.bg all))) (s.nx+1)
     | .bJ x=>X (.d x) (put s.o (cH s.o (V.bg all))) (s.nx+1)))\/
    (∃ds out,bW s.o all=some ds/\bC P g ds out/\out.flat=true/\(match out with
     | .ret rs=>K (gr rs) s.o (s.nx+1)
     | .bJ x=>X (.d x) s.o (s.nx+1)))\/
    (∃ds out,bW s.o all=some ds/\bC P g ds out/\out.l8=true/\(match out with
     | .ret rs=>K (gr rs) (put s.o (pM s.o (V.bg all))) (s.nx+1)
     | .bJ x=>X (.d x) (put s.o (pM s.o (V.bg all))) (s.nx+1)))\/
    ma P g all s.o s.nx K X
def yi(P:Program)(s:S)(f:V)(args:List V)(K:V->(Nat->ab)->Nat->Prop)(X:V->(Nat->ab)->Nat->Prop):Prop:=
 match f with
 | .func (.func g) first cap=>sw P s g (first++args++cap) K X
 | .ki id=>dy P id args s.o s.nx K X
 |_=>False
def JI(P:Program)(t:TypeId):Bool:=
 match P.underlying t with
 |some (.pointer _)=>false
 |some _=>true
 |none=>false
def qD(P:Program)(m:String)(x:V):Option (FuncId×V):=
 match x with
 | .d (.iface t y)=>match P.info? t with
   |some ti=>match ti.methods.find? (·.name==m)with
    |some r=>match r.func with
     |some (f,false)=>if r.path.isEmpty=true/\JI P t=true then some (f, .d y)else none
     |_=>none
    |none=>none
   |none=>none
 |_=>none
def fT(n:Nat):Option Tmp->Prop
 |some d=>d<n
 |none=>True
def Ua(P:Program)(n:Nat)(s:S)(o:Oper)(X:V->S->Prop)(K:S->Prop):Prop:=
 fT n o.dst/\match o.op with
 | .call c=>match c.callee with
   | .value f=>yi P s (s.ev f) (c.args.toList.map s.ev) (fun v o' nx'=>K ⟨a8 s.env o.dst v,o',nx'⟩) (fun v o' nx'=>X v ⟨s.env,o',nx'⟩)
   | .invoke r m=>match qD P m (s.ev r)with
     |some (g,y)=>sw P s g (y::c.args.toList.map s.ev) (fun v o' nx'=>K ⟨a8 s.env o.dst v,o',nx'⟩) (fun v o' nx'=>X v ⟨s.env,o',nx'⟩)
     |none=>False
   |_=>Jw P s s.nx o.op fun v Δ _=>K ⟨a8 s.env o.dst v,put s.o Δ,s.nx+1⟩
 | .panic x=>match s.ev x with
   | .d (.iface t y)=>X (.d (.iface t y)) s
   | .iface t y=>X (.iface t y) s
   |_=>False
 |op=>Jw P s s.nx op fun v Δ _=>K ⟨a8 s.env o.dst v,put s.o Δ,s.nx+1⟩
def vW(s:S)(ops:Array Oper)(g:Option (Nat×Bool))(A B:Prop):Prop:=
 match g with
 |none=>A
 |some (j,want)=>match qt ops j with
  |some d=>match s.env d with
   | .d (.bool b)=>(b=want->A)/\(b≠want->B)
   | .bU []=>B
   |_=>False
  |none=>B
def vX(P:Program)(n:Nat)(ops:Array Oper)(X:V->S->Prop)(K:S->Prop):List Oper->S->Prop
 |[],s=>K s
 |o::l,s=>vW s ops o.guard (Ua P n s o X (vX P n ops X K l)) (fT n o.dst/\vX P n ops X K l ⟨a8 s.env o.dst (.bU []),s.o,s.nx+1⟩)
def bP(b:Nat)(s s':S):Prop:=
 ∀ (M:Nat->Prop) (φ:Place) (w:World) (tm:Nat->Value),az M φ s.H w->(∀i,V.den (aj M φ s.H) φ s.H w (s.env i) (tm i))->
   ∃aB,az M aB s'.H w/\(∀i,V.den (aj M aB s'.H) aB s'.H w (s'.env i) (tm i))/\(∀k,bS aB s'.H k->bS φ s.H k)/\b<=s'.nx/\
    (∀id,id<b->(s'.o id).bN=true->(s.o id).bN=true/\aB id=φ id)/\
    (∀id e',id<b->(s'.o id).ba=some e'->∃e,(s.o id).ba=some e/\e<=e'/\(e=e'->aB id=φ id))
def oP(K:S->Prop)(Q:fO->S->Prop)(e:fO)(s:S):Prop:=match e with| .normal=>K s|e=>Q e s
def eZ(id:Nat)(Q:fO->S->Prop)(e:fO)(s:S):Prop:=match e with| .exit j=>if j=id then Q .normal s else Q (.exit j) s|e=>Q e s
def lj(P:Program)(s:S):List ResultVar->Option (List V)
 |[]=>some []
 | .tmp t::rs=>(lj P s rs).map (s.env t::·)
 | .cell a t::rs=>match s.env a with
   | .ptr id off=>match s.o id with
     | .row cs=>(eD P t cs off).bind fun v=>(lj P s rs).map (v::·)
     |_=>none
   |_=>none
def b9(vs:List V):Nat->V:=fun i=>vs.getD i (.bU [])
def AF(P:Program)(rs:List ResultVar)(out:R)(e:fO)(s:S):Prop:=
 match e with
 | .normal| .ret=>match lj P s rs with
   |some vs=>match bW s.o vs with
    |some ds=>out= .ret ds
    |none=>False
   |none=>False
 | .bJ v=>match dI s.o v with
   |some x=>out= .bJ x
   |none=>False
 | .exit _=>False
theorem Fe{P:Program}{rs:List ResultVar}{out:R}{s:S}(h:match lj P s rs with
 |some vs=>match bW s.o vs with
  |some ds=>out= .ret ds
  |none=>False
 |none=>False):∃vs ds,lj P s rs=some vs/\bW s.o vs=some ds/\out= .ret ds:=by
 split at h
 ·rename_i vs h1
  split at h
  ·rename_i xs h2;exact⟨vs,xs,h1,h2,h⟩
  ·exact h.elim
 ·exact h.elim
theorem Ff{out:R}{s:S}{v:V}(h:match dI s.o v with
 |some x=>out= .bJ x
 |none=>False):∃x,dI s.o v=some x/\out= .bJ x:=by
 split at h
 ·rename_i x h1;exact⟨x,h1,h⟩
 ·exact h.elim
end Go.Proofs.YtealblliddhgiaaGreat
namespace Go.Proofs.YtealblliddhgiaaGreat
section
variable {P:Program}{M:Nat->Prop}{φ:Place}{H:Hp}{w w':World}
def ab.kx:ab->Bool
 | .arr .. =>true
 |_=>false
theorem HZ(o:Nat->ab)(ids:List Nat):pM o ids=cH o (ids.filter fun id=>(o id).kx):=by
 induction ids with
 |nil=>rfl
 |cons id ids ih=>
  unfold pM at ih|-
  simp only[List.filterMap_cons,List.filter_cons]
  cases hx:o id with
  |arr ep ty sz es=>
   have e:(ab.arr ep ty sz es).kx=true:=rfl
   rw[e,if_pos rfl,ih]
   simp only[cH,List.map_cons,hx]
  |_=>exact ih
theorem iK(hH:az M φ H w){us':Nat->Prop}(h:∀id,H.us id->us' id):az M φ ⟨H.o,us'⟩ w/\Trans φ H w φ ⟨H.o,us'⟩ w:=by
 have ht:Trans φ H w φ ⟨H.o,us'⟩ w:=⟨eL.refl _ _,fun b hb=> .inl hb,⟨h,fun id _ hr=>⟨hr,rfl⟩,fun id e' _ he=>⟨e',he,Nat.le_refl _,fun _=>rfl⟩⟩⟩
 exact⟨hH.of ht (fun _=>False) (fun _ h=>h.elim) (fun id _=>⟨rfl,rfl,fun _ _ _=>rfl⟩) (fun id hn=>hH.fresh id fun hu=>hn (h id hu)) hH.apart (fun b hb=>(hH.ours b hb).2),ht⟩
theorem eS(hH:az M φ H w)(hk:eL (fun _=>False) w w'):az M φ H w'/\Trans φ H w φ H w':=by
 have ht:Trans φ H w φ H w':=⟨⟨hk.os,hk.tape,hk.output,hk.size,fun k h _=>hk.block k h fun h=>h⟩,fun b hb=> .inl hb,dH.refl _ _⟩
 exact⟨hH.of ht (fun _=>False) (fun _ h=>h.elim) (fun id _=>⟨rfl,rfl,fun hl b hb=>hk.block b (hH.ours b ⟨id,hl,hb⟩).2 fun h=>h⟩) hH.fresh hH.apart (fun b hb=>Nat.lt_of_lt_of_le (hH.ours b hb).2 hk.size),ht⟩
theorem ky{Δ:List (Nat×ab)}(h:∀id∈Δ.map (·.1),H.us id):H.put Δ=⟨put H.o Δ,H.us⟩:=by
 unfold Hp.put
 congr 1
 funext id
 simp only[eq_iff_iff]
 exact⟨fun h'=>h'.elim (fun h=>h) (h id), .inl⟩
theorem mS(o:Nat->ab)(ids:List Nat):(cH o ids).map (·.1)=ids:=by
 rw[kY];simp[Function.comp_def]
structure Cx where
 base:List Deferred
 rd:Bool
def dD(ro:Option Nat):Fence:={fn:=fun _=>True,depth:=none,alive:=false,round:=ro}
def mark(r:Nat):Deferred:={target:= .collected r,args:=#[]}
def sx(cx:Cx)(w0:World)(φ:Place)(H:Hp)(w:World)(ds:List Deferred):Prop:=
 ∃ms:List Nat,ds=ms.map mark++cx.base/\ms.Nodup/\(cx.rd=true->ms=[])/\∀r∈ms,w0.heap.size<=r/\w.heap[r]? =some (.deferred (some []))/\ ¬bS φ H r
theorem sx.mono {cx:Cx}{w0:World}{φ aB:Place}{H H':Hp}{w w':World}{ds:List Deferred}(ht:Trans φ H w aB H' w')(h:sx cx w0 φ H w ds):sx cx w0 aB H' w' ds:=by
 obtain⟨ms,h1,h2,h3,h4⟩:=h
 refine⟨ms,h1,h2,h3,fun r hr=> ?_⟩
 obtain⟨g1,g2,g3⟩:=h4 r hr
 have bI:r<w.heap.size:=by
  rcases Nat.lt_or_ge r w.heap.size with hl|hl
  ·exact hl
  ·rw[Array.getElem?_eq_none hl]at g2;cases g2
 refine⟨g1,(ht.ck.block r bI g3).trans g2,fun hl=> ?_⟩
 rcases ht.grow r hl with h|h
 ·exact g3 h
 ·omega
structure bY (M:Nat->Prop) (cu:Place) (H0:Hp) (w0:World) (n:Nat) (cx:Cx) (φ:Place) (s:S) (a:Act) (w:World):Prop where
 heap:az M φ s.H w
 tr:Trans cu H0 w0 φ s.H w
 size:a.tmps.size=n
 defers:sx cx w0 φ s.H w a.defers
 env:∀i,V.den (aj M φ s.H) φ s.H w (s.env i) (a.tmps.getD i undef)
variable {cu:Place}{H0:Hp}{w0:World}{n:Nat}{s:S}{a:Act}{cx:Cx}{ro:Option Nat}{k:Nat}
theorem cP{f:FuncId}{args:Array Value}{R:Ending->World->Prop}(h:Calls P f args w R):CallsIn (dD ro) k P f args w R:=
 ⟨trivial,fun cs _=>let⟨e,w',fr,r,s,x⟩:=h cs;⟨e,w',fr,r,comesIn_wide.2 s,x⟩⟩
theorem yj{f:FuncId}{args:Array Value}{R:Ending->World->Prop}(h:CallsIn (dD ro) k P f args w R):Calls P f args w R:=
 fun cs=>let⟨e,w',fr,r,s,x⟩:=h.2 cs (fun _ h=>by simp[dD]at h);⟨e,w',fr,r,comesIn_wide.1 s,x⟩
theorem jJ{o:Oper}{next:Act->World->Prop}{Q:Exit->Act->World->Prop}(Xl:∀c,o.op≠ .defer c)(h:o.uponIn (dD ro) k P a next Q ((execOp a.eval o).run P w)):o.wpIn (dD ro) k P a w next Q:=
 ⟨fun _ _=>trivial,by rw[Oper.semAt_eq _ _ _ Xl];exact h⟩
theorem ll(hs:bY M cu H0 w0 n cx φ s a w){aB:Place}{H':Hp}(hH:az M aB H' w')(ht:Trans φ s.H w aB H' w'){v:V}{val:Value}(hd:V.den (aj M aB H') aB H' w' v val){dst:Option Tmp}(cC:fT n dst)
 {o':Nat->ab} {nx':Nat} (ho:H'.o=o') (hu:∀id,H'.us id->id<nx'):bY M cu H0 w0 n cx aB ⟨a8 s.env dst v,o',nx'⟩ (a.put dst val) w':=by
 obtain⟨k1,k2⟩:=iK hH hu
 subst ho
 refine⟨k1,hs.tr.trans (ht.trans k2), ?_, ?_,fun i=> ?_⟩
 ·cases dst<;>simp[Act.put,hs.size]
 ·have:=hs.defers.mono (ht.trans k2);cases dst<;>exact this
 ·cases dst with
  |none=>exact V.aG (ht.trans k2) _ _ (hs.env i)
  |some d=>
   simp only[fT]at cC
   simp only[a8,aK,Act.put]
   by_cases hi:i=d
   ·subst hi
    have h1:(a.tmps.setIfInBounds i val).getD i undef=val:=by simp[Array.getD,hs.size,cC]
    rw[if_pos rfl,h1]
    exact V.aG k2 _ _ hd
   ·have h1:(a.tmps.setIfInBounds d val).getD i undef=a.tmps.getD i undef:=by
     simp only[Array.getD_eq_getD_getElem?]
     rw[Array.getElem?_setIfInBounds_ne (Ne.symm hi)]
    rw[if_neg hi,h1]
    exact V.aG (ht.trans k2) _ _ (hs.env i)
theorem dW(hs:bY M cu H0 w0 n cx φ s a w){aB:Place}{H':Hp}(hH:az M aB H' w')(ht:Trans φ s.H w aB H' w'){o':Nat->ab}{nx':Nat}(ho:H'.o=o')(hu:∀id,H'.us id->id<nx'):
 bY M cu H0 w0 n cx aB ⟨s.env,o',nx'⟩ a w':=by
 obtain⟨k1,k2⟩:=iK hH hu
 subst ho
 exact⟨k1,hs.tr.trans (ht.trans k2),hs.size,hs.defers.mono (ht.trans k2),fun i=>V.aG (ht.trans k2) _ _ (hs.env i)⟩
theorem Fg{Δ:List (Nat×ab)}(h:∀id∈Δ.map (·.1),s.H.us id\/id=s.nx)(id:Nat)(hu:(s.H.put Δ).us id):id<s.nx+1:=by
 rcases hu with hu|hu
 ·exact Nat.lt_succ_of_lt hu
 ·rcases h id hu with h|h
  ·exact Nat.lt_succ_of_lt h
  ·omega
variable {next:Act->World->Prop}{Q:Exit->Act->World->Prop}{X:V->S->Prop}{K:S->Prop}
theorem Fh(hs:bY M cu H0 w0 n cx φ s a w){o:Oper}{op:Op}(dt:o.op=op)(cC:fT n o.dst)(h:Jw P s s.nx op fun v Δ _=>K ⟨a8 s.env o.dst v,put s.o Δ,s.nx+1⟩)
 (hN:∀s' aB a' w',K s'->bY M cu H0 w0 n cx aB s' a' w'->next a' w'):o.wpIn (dD ro) k P a w next Q:=by
 obtain⟨nx,val,w',aB,v,Δ,rd,hK,hr,tZ,g1,g2,g3,g4⟩:=uK hs.heap (s:=s) rfl hs.env (fr:=s.nx) (by simp[S.H]) dt h
 have oQ:=ll hs g1 g2 g3 cC (o':=put s.o Δ) (nx':=s.nx+1) rfl (Fg g4)
 refine jJ (fun c hc=>by rw[dt]at hc;subst hc;exact h) ?_
 rw[hr]
 rcases tZ with rfl|⟨rfl,rfl⟩
 ·exact hN _ _ _ _ hK oQ
 ·exact hN _ _ _ _ hK oQ
theorem V.lq {B:Nat->Prop}{bX bs cs:List V}{u v x:List Value}(h1:V.aF B φ H w bX u)(h2:V.aF B φ H w bs v)(h3:V.aF B φ H w cs x):V.aF B φ H w (bX++bs++cs) (u++v++x):=
 V.bu _ _ _ _ (V.bu _ _ _ _ h1 h2) h3
theorem kz{f:FuncId}(h:Enters P f)(args:Array Value):(callFunc f args).run P w= .ok (.enter f args) w:=by
 obtain⟨fn,h1,h2,h3⟩:=h
 have ir:fn.name≠ "runtime.NumGoroutine" :=by simpa using h2
 have re:fn.body≠none:=fun h=>by rw[h]at h3;cases h3
 simp[callFunc,h1,ir,re]
theorem jf:∀ {rs:List D} {val:Value},R.is (aj M φ H) w (.ret rs) (.returned val)->V.den (aj M φ H) φ H w (gr rs) val
 |[],_,h=>by obtain⟨arr,rfl,h⟩:=h;exact⟨arr,rfl,h⟩
 |[x],_,h=>h
 |x::y::l,_,h=>by obtain⟨arr,rfl,h⟩:=h;exact⟨arr,rfl,(V.cm (x::y::l) _).2 h⟩
theorem R.vY {B B':Nat->Prop}:∀ {out:R} {e:Ending},out.flat=true->out.is B w e->out.is B' w e
 | .ret [], .returned _,_,h=>by obtain⟨arr,rfl,h⟩:=h;exact⟨arr,rfl,h⟩
 | .ret [x], .returned _,hf,h=>by
   simp only[R.flat,D.je,Bool.and_true]at hf
   exact D.oN x _ hf h
 | .ret (x::y::l), .returned _,hf,h=>by obtain⟨arr,rfl,h⟩:=h;exact⟨arr,rfl,D.lg (x::y::l) _ hf h⟩
 | .bJ d, .panicked _,hf,h=>by obtain⟨v,rfl,h⟩:=h;exact⟨v,rfl,D.oN d v hf h⟩
 | .ret [], .panicked _,_,h| .ret [_], .panicked _,_,h| .ret (_::_::_), .panicked _,_,h| .ret [], .outgrown,_,h| .ret [_], .outgrown,_,h| .ret (_::_::_), .outgrown,_,h| .bJ _, .returned _,_,h| .bJ _, .outgrown,_,h=>h.elim
theorem R.Fi {B B':Nat->Prop}{w':World}(hb:∀b,ow w' b-> ¬B b-> ¬B' b):∀ {out:R} {e:Ending},out.l8=true->out.is B w' e->out.is B' w' e
 | .ret [], .returned _,_,h=>by obtain⟨arr,rfl,h⟩:=h;exact⟨arr,rfl,h⟩
 | .ret [x], .returned _,hf,h=>by
   simp only[R.l8,D.lh,Bool.and_true]at hf
   exact D.ku (fun b hc hn=>⟨rfl,hb b hc hn⟩) x _ hf h
 | .ret (x::y::l), .returned _,hf,h=>by obtain⟨arr,rfl,h⟩:=h;exact⟨arr,rfl,D.l9 (fun b hc hn=>⟨rfl,hb b hc hn⟩) (x::y::l) _ hf h⟩
 | .bJ d, .panicked _,hf,h=>by obtain⟨v,rfl,h⟩:=h;exact⟨v,rfl,D.ku (fun b hc hn=>⟨rfl,hb b hc hn⟩) d v hf h⟩
 | .ret [], .panicked _,_,h| .ret [_], .panicked _,_,h| .ret (_::_::_), .panicked _,_,h| .ret [], .outgrown,_,h| .ret [_], .outgrown,_,h| .ret (_::_::_), .outgrown,_,h| .bJ _, .returned _,_,h| .bJ _, .outgrown,_,h=>h.elim
theorem Fj(hH:az M φ H w){o:Nat->ab}:∀ (vs:List V) (vals:List Value),(∀id∈cS o vs,H.o id=(o id).fz)->V.aF (aj M φ H) φ H w vs vals->V.aF (aj M φ H) φ H w (vs.map (Fc o)) vals
 |[],_,_,h=>h
 |v::vs,_,ho,h=>by
  obtain⟨u,us,rfl,h1,h2⟩:=h
  refine⟨u,us,rfl, ?_,Fj hH vs us (fun id aw=>ho id (by simp[cS,aw])) h2⟩
  unfold Fc
  split
  ·rename_i x hx
   exact eO hH v x u (fun id aw=>ho id (by simp[cS,hx,aw])) hx h1
  ·exact h1
theorem fU:∀ (vs:List V) (vals:List Value) (o:Nat->ab),V.aF (aj M φ H) φ H w vs vals->∀id∈cS o vs,H.us id
 |[],_,_,_,j,hj=>by simp[cS]at hj
 |v::vs,_,o,h,j,hj=>by
  obtain⟨u,us,rfl,h1,h2⟩:=h
  simp only[cS,List.mem_append]at hj
  rcases hj with hj|hj
  ·cases hx:dI o v with
   |none=>simp[hx]at hj
   |some x=>simp only[hx]at hj;exact cN v u h1 j hj
  ·exact fU vs us o h2 j hj
theorem uL(hs:bY M cu H0 w0 n cx φ s a w){o:Oper}{g:FuncId}{all:List V}{vals:Array Value}(cC:fT n o.dst)(eQ:Enters P g->(execOp a.eval o).run P w= .ok (.enter g vals) w)(aN:V.aF (aj M φ s.H) φ s.H w all vals.toList)
 (h:eR P g all s.o s.nx (fun v o' nx'=>K ⟨a8 s.env o.dst v,o',nx'⟩) (fun v o' nx'=>X v ⟨s.env,o',nx'⟩))
 (hN:∀s' aB a' w',K s'->bY M cu H0 w0 n cx aB s' a' w'->next a' w')
 (hQ:∀v s' aB w' val,X v s'->bY M cu H0 w0 n cx aB s' a w'->V.den (aj M aB s'.H) aB s'.H w' v val->Q (.panic [{v:=val,recovered:=false}]) a w'):o.uponIn (dD ro) k P a next Q ((execOp a.eval o).run P w):=by
 have dX:=h.2 M φ w vals hs.heap aN
 rw[eQ h.1]
 refine⟨fun hd=>by simp[dD]at hd,cP (dX.mono fun e w' ⟨aB,o',nx',v,k1,k2,k3⟩=> ?_)⟩
 cases e with
 |returned val=>exact hN _ _ _ _ k3.2 (ll hs k1 k2 k3.1 cC rfl fun id hu=>hu)
 |panicked ch=>
  obtain⟨val,rfl,k4,k5⟩:=k3
  exact hQ _ _ _ _ val k5 (dW hs k1 k2 (o':=o') (nx':=nx') rfl fun id hu=>hu) k4
 |outgrown=>exact k3.elim
theorem yk(hs:bY M cu H0 w0 n cx φ s a w){o:Oper}{g:FuncId}{all:List V}{vals:Array Value}(cC:fT n o.dst)(eQ:Enters P g->(execOp a.eval o).run P w= .ok (.enter g vals) w)(aN:V.aF (aj M φ s.H) φ s.H w all vals.toList)
 (h:sw P s g all (fun v o' nx'=>K ⟨a8 s.env o.dst v,o',nx'⟩) (fun v o' nx'=>X v ⟨s.env,o',nx'⟩))
 (hN:∀s' aB a' w',K s'->bY M cu H0 w0 n cx aB s' a' w'->next a' w')
 (hQ:∀v s' aB w' val,X v s'->bY M cu H0 w0 n cx aB s' a w'->V.den (aj M aB s'.H) aB s'.H w' v val->Q (.panic [{v:=val,recovered:=false}]) a w'):o.uponIn (dD ro) k P a next Q ((execOp a.eval o).run P w):=by
 unfold sw at h
 obtain⟨f1,f2,f3,f4,f5⟩:=cR hs.heap (V.bg all) (cn all _ aN)
 have lb:s.H.put (cH s.H.o (V.bg all))=⟨put s.o (cH s.o (V.bg all)),s.H.us⟩:=ky (by rw[mS];exact cn all _ aN)
 have mb:=V.aJ f2 _ _ aN
 rcases h with⟨ds,out,eC,hP,hK⟩|⟨ds,out,eC,hP,la,hK⟩|⟨ds,out,eC,hP,S4,hK⟩|hC|hC
 ·have uA:=db f1 all ds _ f3 eC mb
  have hM:∀b,aj M φ (s.H.put (cH s.H.o (V.bg all))) b->b<w.heap.size:=fun b hb=>hb.elim (f1.tX b) fun hl=>(f1.ours b hl).2
  have dX:=hP.2 _ w vals hM uA
  rw[eQ hP.1]
  refine⟨fun hd=>by simp[dD]at hd,cP (dX.mono fun e w' ⟨hk,ho⟩=> ?_)⟩
  obtain⟨k1,k2⟩:=eS f1 hk
  cases out with
  |ret rs=>
   cases e with
   |returned val=>
    refine hN _ _ _ _ hK (ll hs k1 (f2.trans k2) (jf ho) cC (by rw[lb]) ?_)
    intro id hu;rw[lb]at hu;exact Nat.lt_succ_of_lt hu
   |panicked ch=>cases rs with|nil=>exact ho.elim|cons x l=>cases l<;>exact ho.elim
   |outgrown=>cases rs with|nil=>exact ho.elim|cons x l=>cases l<;>exact ho.elim
  |bJ x=>
   cases e with
   |returned val=>exact ho.elim
   |panicked ch=>
    obtain⟨val,rfl,hd⟩:=ho
    have oQ:=dW hs k1 (f2.trans k2) (o':=put s.o (cH s.o (V.bg all))) (nx':=s.nx+1) (by rw[lb]) (fun id hu=>by rw[lb]at hu;exact Nat.lt_succ_of_lt hu)
    refine hQ _ _ _ _ val hK oQ ?_
    have e1:aj M φ (S.H ⟨s.env,put s.o (cH s.o (V.bg all)),s.nx+1⟩)=aj M φ (s.H.put (cH s.H.o (V.bg all))):=by rw[lb];rfl
    simp only[V.den]
    rw[e1];exact hd
   |outgrown=>exact ho.elim
 ·have uA:=db f1 all ds _ f3 eC mb
  have hM:∀b,aj M φ (s.H.put (cH s.H.o (V.bg all))) b->b<w.heap.size:=fun b hb=>hb.elim (f1.tX b) fun hl=>(f1.ours b hl).2
  have dX:=hP.2 _ w vals hM uA
  rw[eQ hP.1]
  refine⟨fun hd=>by simp[dD]at hd,cP (dX.mono fun e w' ⟨hk,ho⟩=> ?_)⟩
  obtain⟨k1,k2⟩:=eS hs.heap hk
  have ho:=R.vY (B':=aj M φ s.H) la ho
  cases out with
  |ret rs=>
   cases e with
   |returned val=>
    exact hN _ _ _ _ hK (ll hs k1 k2 (jf ho) cC rfl fun id hu=>Nat.lt_succ_of_lt hu)
   |panicked ch=>cases rs with|nil=>exact ho.elim|cons x l=>cases l<;>exact ho.elim
   |outgrown=>cases rs with|nil=>exact ho.elim|cons x l=>cases l<;>exact ho.elim
  |bJ x=>
   cases e with
   |returned val=>exact ho.elim
   |panicked ch=>
    obtain⟨val,rfl,hd⟩:=ho
    exact hQ _ _ _ _ val hK (dW hs k1 k2 (o':=s.o) (nx':=s.nx+1) rfl fun id hu=>Nat.lt_succ_of_lt hu) hd
   |outgrown=>exact ho.elim
 ·obtain⟨a1,a2,a3,a4,a5⟩:=cR hs.heap ((V.bg all).filter fun id=>(s.o id).kx) (fun id aw=>cn all _ aN id (List.mem_filter.1 aw).1)
  have yl:s.H.put (cH s.H.o ((V.bg all).filter fun id=>(s.o id).kx))=⟨put s.o (pM s.o (V.bg all)),s.H.us⟩:=by
   rw[HZ]
   exact ky (by rw[mS];exact fun id aw=>cn all _ aN id (List.mem_filter.1 aw).1)
  have uA:=db f1 all ds _ f3 eC mb
  have hM:∀b,aj M φ (s.H.put (cH s.H.o (V.bg all))) b->b<w.heap.size:=fun b hb=>hb.elim (f1.tX b) fun hl=>(f1.ours b hl).2
  have dX:=hP.2 _ w vals hM uA
  rw[eQ hP.1]
  refine⟨fun hd=>by simp[dD]at hd,cP (dX.mono fun e w' ⟨hk,ho⟩=> ?_)⟩
  obtain⟨k1,k2⟩:=eS a1 hk
  have gu:∀b,ow w' b-> ¬aj M φ (s.H.put (cH s.H.o (V.bg all))) b-> ¬aj M φ (s.H.put (cH s.H.o ((V.bg all).filter fun id=>(s.o id).kx))) b:=by
   intro b hc hn hm
   rcases hm with hM|⟨id,hl,hb⟩
   ·exact hn (.inl hM)
   ·by_cases aw:id∈V.bg all
    ·cases hx:s.H.o id with
     |arr ep ty sz es=>
      rw[a3 id (List.mem_filter.2 ⟨aw,by show(s.H.o id).kx=true;rw[hx];rfl⟩),hx]at hl
      cases hl
     |map kt vt l=>
      have kT:id∉(V.bg all).filter fun id=>(s.o id).kx:=fun h=>by
       have h2:(s.H.o id).kx=true:=(List.mem_filter.1 h).2
       rw[hx]at h2;cases h2
      have bB:=k1.ok id
      unfold aL at bB
      rw[a4 id kT,hx]at bB
      obtain⟨b',es,clock,g1,g2,_⟩:=bB
      rw[g1]at hb
      injection hb with hb
      subst hb
      obtain⟨cs,ty,fz,hc⟩:=hc
      rw[g2]at hc
      cases hc
     |_=>
      have kT:id∉(V.bg all).filter fun id=>(s.o id).kx:=fun h=>by
       have h2:(s.H.o id).kx=true:=(List.mem_filter.1 h).2
       rw[hx]at h2;cases h2
      refine hn (.inr ⟨id, ?_,hb⟩)
      rw[a4 id kT,hx]at hl
      rw[f3 id aw,hx]
      exact hl
    ·have kT:id∉(V.bg all).filter fun id=>(s.o id).kx:=fun h=>aw (List.mem_filter.1 h).1
     refine hn (.inr ⟨id, ?_,hb⟩)
     rw[a4 id kT]at hl
     rw[f4 id aw]
     exact hl
  have ho:=R.Fi (w':=w') (B':=aj M φ (s.H.put (cH s.H.o ((V.bg all).filter fun id=>(s.o id).kx)))) gu S4 ho
  cases out with
  |ret rs=>
   cases e with
   |returned val=>
    refine hN _ _ _ _ hK (ll hs k1 (a2.trans k2) (jf ho) cC (by rw[yl]) ?_)
    intro id hu;rw[yl]at hu;exact Nat.lt_succ_of_lt hu
   |panicked ch=>cases rs with|nil=>exact ho.elim|cons x l=>cases l<;>exact ho.elim
   |outgrown=>cases rs with|nil=>exact ho.elim|cons x l=>cases l<;>exact ho.elim
  |bJ x=>
   cases e with
   |returned val=>exact ho.elim
   |panicked ch=>
    obtain⟨val,rfl,hd⟩:=ho
    have oQ:=dW hs k1 (a2.trans k2) (o':=put s.o (pM s.o (V.bg all))) (nx':=s.nx+1) (by rw[yl]) (fun id hu=>by rw[yl]at hu;exact Nat.lt_succ_of_lt hu)
    refine hQ _ _ _ _ val hK oQ ?_
    have e1:aj M φ (S.H ⟨s.env,put s.o (pM s.o (V.bg all)),s.nx+1⟩)=aj M φ (s.H.put (cH s.H.o ((V.bg all).filter fun id=>(s.o id).kx))):=by rw[yl];rfl
    simp only[V.den]
    rw[e1];exact hd
   |outgrown=>exact ho.elim
 ·exact uL hs cC eQ aN hC hN hQ
 ·obtain⟨f1,f2,f3,f4,f5⟩:=cR hs.heap (cS s.o all) (fU all _ s.o aN)
  have lb:s.H.put (cH s.H.o (cS s.o all))=hp (put s.o (cH s.o (cS s.o all))) s.nx:=ky (by rw[mS];exact fU all _ s.o aN)
  have mb:=Fj f1 all _ f3 (V.aJ f2 _ _ aN)
  rw[lb]at f1 f2 mb
  exact uL (s:=⟨s.env,put s.o (cH s.o (cS s.o all)),s.nx⟩) (dW hs f1 f2 rfl fun id hu=>hu) cC eQ mb hC hN hQ
theorem H3(hs:bY M cu H0 w0 n cx φ s a w){o:Oper}{c:Call}{f:Operand}(dt:o.op= .call c)(hc:c.callee= .value f)(cC:fT n o.dst)
 (h:yi P s (s.ev f) (c.args.toList.map s.ev) (fun v o' nx'=>K ⟨a8 s.env o.dst v,o',nx'⟩) (fun v o' nx'=>X v ⟨s.env,o',nx'⟩))
 (hN:∀s' aB a' w',K s'->bY M cu H0 w0 n cx aB s' a' w'->next a' w')
 (hQ:∀v s' aB w' val,X v s'->bY M cu H0 w0 n cx aB s' a w'->V.den (aj M aB s'.H) aB s'.H w' v val->Q (.panic [{v:=val,recovered:=false}]) a w'):o.wpIn (dD ro) k P a w next Q:=by
 refine jJ (fun c' yn=>by rw[dt]at yn;cases yn) ?_
 have hf:=lZ (M:=M) (φ:=φ) (H:=s.H) (w:=w) s a hs.env f
 have dV:=jE (M:=M) (φ:=φ) (H:=s.H) (w:=w) s a hs.env c.args.toList
 unfold yi at h
 split at h
 ·rename_i g first cap sy
  rw[sy]at hf
  obtain⟨fa,ca,Lo,Ar,O9⟩:=hf
  have aN:V.aF (aj M φ s.H) φ s.H w (first++c.args.toList.map s.ev++cap) (fa++c.args.map a.eval++ca).toList:=by
   rw[Array.toList_append,Array.toList_append,Array.toList_map]
   exact V.lq Ar dV O9
  generalize first++c.args.toList.map s.ev++cap=all at h aN
  generalize lM:fa++c.args.map a.eval++ca=vals at aN
  have eQ:Enters P g->(execOp a.eval o).run P w= .ok (.enter g vals) w:=by
   intro he
   have:=kz (w:=w) he (fa++c.args.map a.eval++ca)
   rw[lM]at this
   simp[execOp,dt,resolve,hc,Lo,Deferred.ofValue,invoke,this,lM]
  exact yk hs cC eQ aN h hN hQ
 ·rename_i id sy
  rw[sy]at hf
  obtain⟨_,dT,Ub⟩:=hf
  obtain⟨bF,hR⟩:=h
  obtain⟨b,dp,Lo⟩:=Ub bF
  obtain⟨fn,tmps,assign,body,h1,h2⟩:=hR M φ w (c.args.map a.eval) b hs.heap (by rw[Array.toList_map];exact dV) dp
  have eQ:(execOp a.eval o).run P w= .ok (.round b fn tmps assign body) w:=by
   simp[execOp,dt,resolve,hc,Lo,Deferred.ofValue,invoke,h1]
  rw[eQ]
  refine⟨fun hd=>by simp[dD]at hd,RoundIn.mono (h2 (k - 1)) fun e w' ⟨aB,o',nx',v,k1,k2,k3⟩=> ?_⟩
  cases e with
  |returned val=>exact hN _ _ _ _ k3.2 (ll hs k1 k2 k3.1 cC rfl fun id hu=>hu)
  |panicked ch=>
   obtain⟨val,rfl,k4,k5⟩:=k3
   exact hQ _ _ _ _ val k5 (dW hs k1 k2 (o':=o') (nx':=nx') rfl fun id hu=>hu) k4
  |outgrown=>exact k3.elim
 ·exact h.elim
theorem Dv(hs:bY M cu H0 w0 n cx φ s a w){o:Oper}{c:Call}{r:Operand}{m:String}{g:FuncId}{y:V}(dt:o.op= .call c)(hc:c.callee= .invoke r m)(cC:fT n o.dst)(hr:qD P m (s.ev r)=some (g,y))
 (h:sw P s g (y::c.args.toList.map s.ev) (fun v o' nx'=>K ⟨a8 s.env o.dst v,o',nx'⟩) (fun v o' nx'=>X v ⟨s.env,o',nx'⟩))
 (hN:∀s' aB a' w',K s'->bY M cu H0 w0 n cx aB s' a' w'->next a' w')
 (hQ:∀v s' aB w' val,X v s'->bY M cu H0 w0 n cx aB s' a w'->V.den (aj M aB s'.H) aB s'.H w' v val->Q (.panic [{v:=val,recovered:=false}]) a w'):o.wpIn (dD ro) k P a w next Q:=by
 refine jJ (fun c' yn=>by rw[dt]at yn;cases yn) ?_
 have hf:=lZ (M:=M) (φ:=φ) (H:=s.H) (w:=w) s a hs.env r
 have dV:=jE (M:=M) (φ:=φ) (H:=s.H) (w:=w) s a hs.env c.args.toList
 unfold qD at hr
 split at hr
 ·rename_i t d hx
  rw[hx]at hf
  obtain⟨val,hv,hd⟩:=hf
  split at hr
  ·rename_i ti Y6
   split at hr
   ·rename_i mr sA
    split at hr
    ·rename_i f Dw
     split at hr
     ·rename_i JJ
      injection hr with hr
      injection hr with h1 h2
      subst h1;subst h2
      refine yk (vals:=#[val]++c.args.map a.eval) hs cC ?_ ?_ h hN hQ
      ·intro he
       have eQ:=kz (w:=w) he (#[val]++c.args.map a.eval)
       have Y7:mr.path=#[]:=Array.isEmpty_iff.1 JJ.1
       have hu:∃u,P.underlying t=some u/\∀e,u≠ .pointer e:=by
        have:=JJ.2
        unfold JI at this
        split at this
        ·cases this
        ·rename_i u gX hu;exact⟨u,hu,fun e he=>gX e he⟩
        ·cases this
       obtain⟨u,hu,JK⟩:=hu
       have hm:(method (P.types.size+Made.depth) t val m).run P w= .ok (f,val) w:=by
        have:P.types.size+Made.depth=(P.types.size+Made.depth - 1)+1:=by simp[Made.depth]
        rw[this]
        cases u<;>first|exact absurd rfl (JK _)|simp[method,typeInfo,Y6,sA,Y7,Dw,follow,receiverAt,run_underlying hu,_root_.Go.Place.get]
       have h0:(#[Value.iface t val]++Array.map a.eval c.args)[0]? =some (.iface t val):=by
        rw[Array.getElem?_append_left (by simp)];rfl
       have h1:(Array.map a.eval c.args).extract 0 c.args.size=Array.map a.eval c.args:=by
        rw[show c.args.size=(Array.map a.eval c.args).size from by simp,Array.extract_size]
       simp[execOp,dt,resolve,hc,invoke,callMethod,hv,h0,h1,hm,eQ]
      ·simp only[Array.toList_append,Array.toList_map]
       exact⟨val,_,rfl,hd,dV⟩
     ·cases hr
    ·cases hr
   ·cases hr
  ·cases hr
 ·cases hr
theorem uM(hs:bY M cu H0 w0 n cx φ s a w){o:Oper}(h:Ua P n s o X K)
 (hN:∀s' aB a' w',K s'->bY M cu H0 w0 n cx aB s' a' w'->next a' w')
 (hQ:∀v s' aB w' val,X v s'->bY M cu H0 w0 n cx aB s' a w'->V.den (aj M aB s'.H) aB s'.H w' v val->Q (.panic [{v:=val,recovered:=false}]) a w'):o.wpIn (dD ro) k P a w next Q:=by
 obtain⟨cC,h⟩:=h
 split at h
 ·rename_i c dt
  split at h
  ·rename_i f hc
   exact H3 hs dt hc cC h hN hQ
  ·rename_i r m hc
   split at h
   ·rename_i g y hr;exact Dv hs dt hc cC hr h hN hQ
   ·exact h.elim
  ·exact Fh hs rfl cC h hN
 ·rename_i x dt
  have hx:=lZ (M:=M) (φ:=φ) (H:=s.H) (w:=w) s a hs.env x
  have bJ:∀ (t:TypeId) (u:Value),a.eval x= .iface t u->Q (.panic [{v:= .iface t u,recovered:=false}]) a w->o.wpIn (dD ro) k P a w next Q:=by
   intro t u hu hq
   refine jJ (fun c hc=>by rw[dt]at hc;cases hc) ?_
   have hr:(execOp a.eval o).run P w= .halt (.panic (.iface t u)) w:=by simp[execOp,dt,hu,Instr.panic]
   rw[hr];exact hq
  split at h
  ·rename_i t y hv
   rw[hv]at hx
   obtain⟨u,hu,hd⟩:=hx
   exact bJ t u hu (hQ _ s φ w (.iface t u) h hs ⟨u,rfl,hd⟩)
  ·rename_i t y hv
   rw[hv]at hx
   obtain⟨u,hu,hd⟩:=hx
   exact bJ t u hu (hQ _ s φ w (.iface t u) h hs ⟨u,rfl,hd⟩)
  ·exact h.elim
 ·exact Fh hs rfl cC h hN
end
end Go.Proofs.YtealblliddhgiaaGreat
namespace Go
def Code.sB (P:Program)(ro:Option Nat)(c:Code)(Q:Exit->Act->World->Prop)(a:Act)(w:World):Prop:=
 ∀ (b:Frame) (k:List Item) (cs:List Frame),b.roundOf=ro->b.fn<P.funcs.size->
   ∃e a' w',Q e a' w'/\ArrivesIn (Machine.fenced P (Proofs.YtealblliddhgiaaGreat.dD ro)) P (lone (b.atR a (.code c::k)) cs w) b k cs e a' w'
end Go
namespace Go.Proofs.YtealblliddhgiaaGreat
instance:LawfulMonad Sem:=LawfulMonad.mk' Sem (id_map:=fun x=>Sem.bind_pure' x) (pure_bind:=fun _ _=>rfl) (bind_assoc:=fun x f g=>Sem.bind_assoc' x f g)
section
variable {P:Program}{M:Nat->Prop}{φ:Place}{H:Hp}{w w':World}{cu:Place}{H0:Hp}{w0:World}{n b:Nat}{s:S}{a:Act}{cx:Cx}{ro:Option Nat}{k:Nat}
theorem oR(hs:bY M cu H0 w0 n cx φ s a w){ops:Array Oper}{o:Oper}{A B:Prop}(h:vW s ops o.guard A B):
 (Region.wanted o (yielded ops a.tmps)=true->A)/\(Region.wanted o (yielded ops a.tmps)=false->B):=by
 unfold vW at h
 unfold Region.wanted
 split at h
 ·rename_i hg;simp only[hg];exact⟨fun _=>h,fun h=>by cases h⟩
 ·rename_i j want hg
  simp only[hg]
  unfold qt at h
  unfold yielded
  split at h
  ·rename_i d hd
   simp only[hd,Option.bind_some]
   have dq:=hs.env d
   split at h
   ·rename_i c hv
    rw[hv]at dq
    simp only[V.den,D.den]at dq
    have:a.tmps[d]? =some (.bool c):=by
     rw[Array.getD_eq_getD_getElem?]at dq
     cases hx:a.tmps[d]? with
     |none=>rw[hx]at dq;simp[undef]at dq
     |some x=>rw[hx]at dq;simp at dq;rw[dq]
    simp only[this]
    by_cases hc:c=want
    ·subst hc;exact⟨fun _=>h.1 rfl,fun h=>by simp at h⟩
    ·exact⟨fun h'=>absurd (by simpa using h') hc,fun _=>h.2 hc⟩
   ·rename_i hv
    rw[hv]at dq
    obtain⟨arr,ct,hn⟩:=dq
    simp only[V.aF]at hn
    have:∀c,a.tmps[d]? ≠some (.bool c):=by
     intro c hx
     rw[Array.getD_eq_getD_getElem?,hx]at ct
     simp at ct
    cases hx:a.tmps[d]? with
    |none=>exact⟨fun h=>by simp at h,fun _=>h⟩
    |some x=>cases x<;>first|(exact absurd hx (this _))|(exact⟨fun h=>by simp at h,fun _=>h⟩)
   ·exact h.elim
  ·rename_i hd
   simp only[hd,Option.bind_none]
   exact⟨fun h=>by simp at h,fun _=>h⟩
theorem yo(hs:bY M cu H0 w0 n cx φ s a w){dst:Option Tmp}(cC:fT n dst):bY M cu H0 w0 n cx φ ⟨a8 s.env dst (.bU []),s.o,s.nx+1⟩ (a.put dst undef) w:=
 ll (v:= .bU []) (val:=undef) hs hs.heap (Trans.refl _ _ _) ⟨#[],rfl,rfl⟩ cC rfl fun _ hu=>Nat.lt_succ_of_lt hu
theorem nM{ops:Array Oper}{X:V->S->Prop}{K:S->Prop}{Q:Exit->Act->World->Prop}
 (hK:∀s φ a w,K s->bY M cu H0 w0 n cx φ s a w->Q .normal a w)
 (hQ:∀v s' aB a w' val,X v s'->bY M cu H0 w0 n cx aB s' a w'->V.den (aj M aB s'.H) aB s'.H w' v val->Q (.panic [{v:=val,recovered:=false}]) a w'):
 ∀ (l:List Oper) (s:S) (φ:Place) (a:Act) (w:World),vX P n ops X K l s->bY M cu H0 w0 n cx φ s a w->wpListIn (dD ro) k P ops Q l a w
 |[],s,φ,a,w,h,hs=>hK s φ a w h hs
 |o::l,s,φ,a,w,h,hs=>by
  obtain⟨h1,h2⟩:=oR hs h
  unfold wpListIn
  split
  ·rename_i hw
   exact uM hs (h1 hw) (fun s' aB a' w' hk jA=>nM hK hQ l s' aB a' w' hk jA) (fun v s' aB w' val hx jA hd=>hQ v s' aB a w' val hx jA hd)
  ·rename_i hw
   obtain⟨cC,h3⟩:=h2 (by simpa using hw)
   exact⟨fun _ _=>trivial,nM hK hQ l _ _ _ _ h3 (yo hs cC)⟩
def BV(M:Nat->Prop)(cu:Place)(H0:Hp)(w0:World)(n:Nat)(cx:Cx)(Q:fO->S->Prop)(e:Exit)(a:Act)(w:World):Prop:=
 ∃x s φ,Q x s/\bY M cu H0 w0 n cx φ s a w/\match e,x with
  | .normal, .normal=>True
  | .exit i, .exit j=>i=j
  | .ret, .ret=>True
  | .panic ch, .bJ v=>∃val,ch=[{v:=val,recovered:=false}]/\V.den (aj M φ s.H) φ s.H w v val
  |_,_=>False
section
variable {Q:Exit->Act->World->Prop}
theorem fV{m:Nat}:(dD ro).room m:=fun d hd=>by simp[dD]at hd
theorem nN{c:Code}(h:c.wpIn (dD ro) k P Q a w):c.sB P ro Q a w:=fun b k cs sA _=>h b k cs sA trivial fV
theorem fW{c:Code}{Q':Exit->Act->World->Prop}(h:c.sB P ro Q a w)(hq:∀e a w,Q e a w->Q' e a w):c.sB P ro Q' a w:=
 fun b k cs sA hb=>let⟨e,a',w',q,r⟩:=h b k cs sA hb;⟨e,a',w',hq _ _ _ q,r⟩
theorem BW(h:Q .ret a w):Code.ret.sB P ro Q a w:=nN (k:=0) (wpIn_ret h)
theorem yp{id:Nat}(h:Q (.exit id) a w):(Code.exit id).sB P ro Q a w:=nN (k:=0) (wpIn_exit h)
theorem vZ{x y:Code}(h:x.sB P ro (Exit.then (y.sB P ro Q) Q) a w):(Code.seq x y).sB P ro Q a w:=by
 intro b k cs sA hb
 have h0:(lone (b.atR a (.code (.seq x y)::k)) cs w).fenced P (dD ro):=fenced_calm (n:=0) trivial fV rfl
 obtain⟨e,iL,fC,hq,ct⟩:=h b (.code y::k) cs sA hb
 cases e with
 |normal=>
  obtain⟨Lp,Pa,pX,oS,jK⟩:=hq b k cs sA hb
  exact⟨Lp,Pa,pX,oS, .of_steps (.head h0 stepR_seq ct) jK⟩
 |exit id=>exact⟨_,iL,fC,hq, .of_steps (.one h0 stepR_seq) (.pass (x:= .code y) rfl (fun _ _=> .inl (by simp)) ct)⟩
 |goto l=>exact⟨_,iL,fC,hq, .of_steps (.one h0 stepR_seq) (.pass (x:= .code y) rfl (fun _ _=> .inl (by simp)) ct)⟩
 |ret=>exact⟨_,iL,fC,hq, .of_steps (.one h0 stepR_seq) (.pass (x:= .code y) rfl (fun _ _=> .inl (by simp)) ct)⟩
 |panic ch=>exact⟨_,iL,fC,hq, .of_steps (.one h0 stepR_seq) (.pass (x:= .code y) rfl (fun _ _=> .inl (by simp)) ct)⟩
 |outgrown=>exact⟨_,iL,fC,hq, .of_steps (.one h0 stepR_seq) (.pass (x:= .code y) rfl (fun _ _=> .inl (by simp)) ct)⟩
theorem oT{c:Operand}{x y:Code}{t:Bool}(hc:a.eval c= .bool t)(h:(if t then x else y).sB P ro Q a w):(Code.cond c x y).sB P ro Q a w:=
 fun b k cs sA hb=>let⟨e,a',w',q,r⟩:=h b k cs sA hb;⟨e,a',w',q, .of_steps (.one (fenced_calm (n:=0) trivial fV rfl) (stepR_cond hc)) r⟩
theorem Dx{id:Nat}{c:Code}(h:c.sB P ro (Exit.inBlock id Q) a w):(Code.block id c).sB P ro Q a w:=by
 intro b k cs sA hb
 have h0:(lone (b.atR a (.code (.block id c)::k)) cs w).fenced P (dD ro):=fenced_calm (n:=0) trivial fV rfl
 obtain⟨e,iL,fC,hq,ct⟩:=h b (.inBlock id::k) cs sA hb
 cases e with
 |normal=>exact⟨.normal,iL,fC,hq, .head h0 stepR_block (StepsIn.trans ct (.one (fenced_calm (n:=0) trivial fV rfl) stepR_inBlock))⟩
 |exit cE=>
  by_cases aw:cE=id
  ·simp only[Exit.inBlock,aw,if_true]at hq
   exact⟨.normal,iL,fC,hq, .head h0 stepR_block (ct.1 k (by simp[exitTo,aw]))⟩
  ·simp only[Exit.inBlock,aw,if_false]at hq
   have this:(id==cE)=false:=by simp;exact fun h=>aw h.symm
   have hx:exitTo cE (.inBlock id::k)=exitTo cE k:=by simp[exitTo,this]
   exact⟨.exit cE,iL,fC,hq,fun k' hk=> .head h0 stepR_block (ct.1 k' (by rw[hx];exact hk)),
    fun Ds hk=>let⟨k₁,h1,h2⟩:=ct.2 Ds (by rw[hx];exact hk);⟨k₁,h1, .head h0 stepR_block h2⟩⟩
 |goto l=>
  have hx:gotoIn l (.inBlock id::k)=gotoIn l k:=by simp[gotoIn]
  exact⟨_,iL,fC,hq,fun k' hk=> .head h0 stepR_block (ct.1 k' (by rw[hx];exact hk)),
   fun Ds hk=>let⟨k₁,h1,h2⟩:=ct.2 Ds (by rw[hx];exact hk);⟨k₁,h1, .head h0 stepR_block h2⟩⟩
 |ret=>exact⟨_,iL,fC,hq, .of_steps (.one h0 stepR_block) ct⟩
 |panic ch=>exact⟨_,iL,fC,hq, .of_steps (.one h0 stepR_block) ct⟩
 |outgrown=>exact⟨_,iL,fC,hq, .of_steps (.one h0 stepR_block) ct⟩
theorem fK{b:Frame}{k:List Item}{cs:List Frame}{c:Code}:step P (lone (b.atR a (.code (.scope c)::k)) cs w)= .next (lone (b.atR a (.code c:: .inScope c::k)) cs w):=
 step_lone_go (by simp[stepG,stepG.exec,Frame.atR])
theorem ui{b:Frame}{k:List Item}{cs:List Frame}{c:Code}:step P (lone (b.atR a (.inScope c::k)) cs w)= .next (lone (b.atR a k) cs w):=
 step_lone_go (by simp[stepG,stepG.exec,Frame.atR])
theorem Dy{c:Code}(h:c.sB P ro Q a w)(hg:∀l a w, ¬Q (.goto l) a w):(Code.scope c).sB P ro Q a w:=by
 intro b k cs sA hb
 have h0:(lone (b.atR a (.code (.scope c)::k)) cs w).fenced P (dD ro):=fenced_calm (n:=0) trivial fV rfl
 obtain⟨e,iL,fC,hq,ct⟩:=h b (.inScope c::k) cs sA hb
 cases e with
 |normal=>exact⟨.normal,iL,fC,hq, .head h0 fK (StepsIn.trans ct (.one (fenced_calm (n:=0) trivial fV rfl) ui))⟩
 |exit cE=>
  have hx:exitTo cE (.inScope c::k)=exitTo cE k:=by simp[exitTo]
  exact⟨.exit cE,iL,fC,hq,fun k' hk=> .head h0 fK (ct.1 k' (by rw[hx];exact hk)),
   fun Ds hk=>let⟨k₁,h1,h2⟩:=ct.2 Ds (by rw[hx];exact hk);⟨k₁,h1, .head h0 fK h2⟩⟩
 |goto l=>exact(hg _ _ _ hq).elim
 |ret=>exact⟨_,iL,fC,hq, .of_steps (.one h0 fK) ct⟩
 |panic ch=>exact⟨_,iL,fC,hq, .of_steps (.one h0 fK) ct⟩
 |outgrown=>exact⟨_,iL,fC,hq, .of_steps (.one h0 fK) ct⟩
def sC(P:Program)(l:Nat)(Q:Exit->Act->World->Prop)(a':Act):Ending->World->Prop
 | .returned _,AG=>∃jump rh,(Instr.endLoop l).run P AG= .ok jump rh/\(match jump with|none=>Q .normal a' rh|some c=>c.sB P none Q a' rh)
 | .panicked chain,AG=>Q (.panic chain) a' AG
 | .outgrown,_=>LetsOut Q
theorem uj{g:Operand}{ps:Array Tmp}{assign body:Code}
 (h:∀fn,fn<P.funcs.size->∃ (l:Nat) (mark:List Deferred) (fC:World) (d:Deferred) (uN:World) (f:FuncId) (args:Array Value) (pX:World),
  (Instr.enterLoop fn a.tmps ps assign body (dD none).round).run P w= .ok (l,mark) fC/\(resolve a.eval (rangeCall g l) 0).run P fC= .ok d uN/\
  (invoke d.target d.args).run P uN= .ok (.enter f args) pX/\CallsIn (dD none) 0 P f args pX (sC P l Q {a with defers:=mark++a.defers})):
 (Code.rangeFunc g ps assign body).sB P none Q a w:=by
 intro b k cs sA hb
 obtain⟨l,mark,fC,d,uN,f,args,pX,he,yq,hinv,hF,dX⟩:=h b.fn hb
 rw[show(dD none).round=b.roundOf from sA.symm]at he
 have calm:∀ (m:Machine),m.fenced P (dD none)↔m.fenced P Fence.wide:=fun m=>Iff.rfl
 have h0:(lone (b.atR a (.code (.rangeFunc g ps assign body)::k)) cs w).fenced P (dD none):=(calm _).2 (fenced_wide P _)
 have lr:=stepR_rangeFunc (P:=P) (b:=b) (a:=a) (k:=k) (cs:=cs) (w:=w) he yq hinv
 obtain⟨e,AG,fr,hR,AH,Dw,Fk⟩:=dX (b.atR {a with defers:=mark++a.defers} (.inRangeFunc l::k)::cs) fV
 cases e with
 |outgrown=>
  obtain⟨Uc,Ud,hq⟩:=hR
  exact⟨.outgrown,Uc,Ud,hq, .inr (Outgrown.of_steps (.one lr) AH)⟩
 |returned v=>
  obtain⟨jump,rh,fX,hj⟩:=hR
  have JL:StepsIn (Machine.fenced P (dD none)) P (lone (b.atR a (.code (.rangeFunc g ps assign body)::k)) cs w) (lone (b.atR {a with defers:=mark++a.defers} ((jump.map Item.code).toList++k)) cs rh):=by
   refine .head h0 lr (StepsIn.trans AH (.head ((calm _).2 (fenced_wide P _)) ?_ (.one ((calm _).2 (fenced_wide P _)) (stepR_endRangeFunc fX))))
   rw[<- finish_atR_inRangeFunc l v];exact step_leave_returned Fk
  cases jump with
  |none=>exact⟨.normal,_,rh,hj,JL⟩
  |some c=>
   obtain⟨e',Y8,Ue,hq,ct⟩:=hj b k cs sA hb
   exact⟨e',Y8,Ue,hq, .of_steps JL ct⟩
 |panicked chain=>
  refine⟨.panic chain,_,AG,hR, .inRangeFunc l::k, .head h0 lr (StepsIn.trans AH (.one ((calm _).2 (fenced_wide P _)) ?_))⟩
  rw[<- Frame.raise_atR];exact step_leave_panicked Fk
end
theorem uO(hH:az M φ H w){id l:Nat}(dT:H.us id){nf m:Nat}{env:List V}{ps:List Nat}{kj ft:IC}{st st':LoopState}{pd pd':Option jQ}(ho:H.o id= .loop nf m env ps kj ft st pd)(dp:φ id= .pointer (some ⟨l,0,none⟩)):
 ∃r,w.heap[l]? =some (.loop r)/\r.state=st/\r.pending=pd.map jQ.code/\
  az M φ (H.put [(id, .loop nf m env ps kj ft st' pd')]) {w with heap:=w.heap.setIfInBounds l (.loop {r with state:=st',pending:=pd'.map jQ.code})}/\
  Trans φ H w φ (H.put [(id, .loop nf m env ps kj ft st' pd')]) {w with heap:=w.heap.setIfInBounds l (.loop {r with state:=st',pending:=pd'.map jQ.code})}:=by
 have bB:=hH.ok id
 simp only[aL,ho]at bB
 obtain⟨b,r,h1,h2,h0,h3,h4,h5,h6,h7,h8,h9⟩:=bB
 rw[dp]at h1;simp at h1;subst h1
 refine⟨r,h2,h3,h4, ?_⟩
 have E7:eL (· =l) w {w with heap:=w.heap.setIfInBounds l (.loop {r with state:=st',pending:=pd'.map jQ.code})}:=
  ⟨rfl,rfl,rfl,by simp,fun j _ hj=>(MapKept.heap_set h2).2 j hj⟩
 have pH:(H.o id).live=true:=by rw[ho];rfl
 have tY:eA (φ id)=some l:=by rw[dp];rfl
 have ht:=fw (w:=w) (w':={w with heap:=w.heap.setIfInBounds l (.loop {r with state:=st',pending:=pd'.map jQ.code})}) dT pH tY E7 (.loop nf m env ps kj ft st' pd') (by rw[ho];rfl) (by rw[ho];rfl)
 refine⟨iO hH dT pH tY E7 _ (by rw[ho];rfl) (by rw[ho];rfl) ?_,ht⟩
 unfold aL
 simp only[bH,aK,if_true]
 exact⟨l,_,dp,(MapKept.heap_set h2).1,h0,rfl,rfl,h5,h6,h7,h8,fun i=>V.aG ht _ _ (h9 i)⟩
theorem iw{l:Nat}{r:Loop}(o:Obj)(hb:w.heap[l]? =some (.loop r)):(setObj l o).run P w= .ok () {w with heap:=w.heap.setIfInBounds l o}:=by
 simp[setObj,Sem.run,hb]
theorem jL{l:Nat}{r:Loop}(hb:w.heap[l]? =some (.loop r)):(Instr.getLoop l).run P w= .ok r w:=by
 simp[Instr.getLoop,getObj,Sem.run,hb,Result.andThen]
end
def uk(Q:fO->S->Prop)(pd:Option jQ)(s:S):Prop:=
 match pd with
 |none=>Q .normal s
 |some .ret=>Q .ret s
 |some (.exit id)=>Q (.exit id) s
def yr(P:Program)(n:Nat)(g:V)(ps:List Nat)(kj ft:IC)(Q:fO->S->Prop)(s:S):Prop:=
 ∃env,(∀i,bq env i= .af\/bq env i=s.env i)/\
  match g with
  | .func (.func f) first cap=>ma P f (first++[.ki s.nx]++cap) (ax s.o s.nx (.loop P.funcs.size n env ps kj ft .ready none)) (s.nx+1)
    (fun _ o' nx'=>∃nf m e p c d st pd,o' s.nx= .loop nf m e p c d st pd/\st≠ .busy/\uk Q pd ⟨s.env,ax o' s.nx (.loop nf m e p c d .exhausted pd),nx'⟩)
    (fun v o' nx'=>Q (.bJ v) ⟨s.env,o',nx'⟩)
  |_=>False
def iF(P:Program)(n b:Nat)(rd:Bool):Code->(fO->S->Prop)->S->Prop
 | .skip,Q,s=>Q .normal s
 | .label _,Q,s=>Q .normal s
 | .scope x,Q,s=>iF P n b rd x Q s
 | .region _ ops false,Q,s=>vX P n ops (fun v s=>Q (.bJ v) s) (Q .normal) ops.toList s
 | .region id ops true,Q,s=>∀M cu H0 w0 cx φ a w ro k,bY M cu H0 w0 n cx φ s a w->(Code.region id ops true).wpIn (dD ro) k P (BV M cu H0 w0 n cx Q) a w
 | .seq x y,Q,s=>iF P n b rd x (oP (iF P n b rd y Q) Q) s
 | .cond c x y,Q,s=>match s.ev c with
   | .d (.bool t)=>(t=true->iF P n b rd x Q s)/\(t=false->iF P n b rd y Q s)
   | .eK=>iF P n b rd x Q s/\iF P n b rd y Q s
   |_=>False
 | .block id x,Q,s=>iF P n b rd x (eZ id Q) s
 | .loop x,Q,s=>∃ (J:Nat->S->Prop),(∃m s1,bP b s s1/\J m s1)/\∀m s0,J m s0->iF P n b rd x (fun e s=>match e with| .normal=>∃m' s1,m'<m/\bP b s s1/\J m' s1|e=>Q e s) s0
 | .exit id,Q,s=>Q (.exit id) s
 | .ret,Q,s=>Q .ret s
 | .rangeFunc g ps x y,Q,s=>rd=false/\yr P n (s.ev g) ps.toList (low n x) (low n y) Q s
 |_,_,_=>False
section
variable {P:Program}{M:Nat->Prop}{φ:Place}{H:Hp}{w w':World}{cu:Place}{H0:Hp}{w0:World}{n b:Nat}{s:S}{a:Act}{cx:Cx}{ro:Option Nat}{k:Nat}
theorem Fl(hb:∀id,H0.us id->id<b)(hs:bY M cu H0 w0 n cx φ s a w){s':S}(h:bP b s s'):∃aB,bY M cu H0 w0 n cx aB s' a w:=by
 obtain⟨aB,h1,h2,h3,h4,h5,h6⟩:=h M φ w (fun i=>a.tmps.getD i undef) hs.heap hs.env
 refine⟨aB,h1,⟨hs.tr.ck,fun k hk=>hs.tr.grow k (h3 k hk),⟨fun id hu=>Nat.lt_of_lt_of_le (hb id hu) h4,fun id hu hr=> ?_,fun id e' hu he=> ?_⟩⟩,hs.size, ?_,h2⟩
 ·obtain⟨g1,g2⟩:=h5 id (hb id hu) hr
  obtain⟨g3,g4⟩:=hs.tr.rel.row id hu g1
  exact⟨g3,g2.trans g4⟩
 ·obtain⟨e,g1,g2,g3⟩:=h6 id e' (hb id hu) he
  obtain⟨e0,k1,k2,k3⟩:=hs.tr.rel.ep id e hu g1
  refine⟨e0,k1,Nat.le_trans k2 g2,fun heq=> ?_⟩
  have a1:e0=e:=by omega
  have a2:e=e':=by omega
  exact(g3 a2).trans (k3 a1)
 ·obtain⟨ms,g1,g2,g3,g4⟩:=hs.defers
  exact⟨ms,g1,g2,g3,fun r hr=>⟨(g4 r hr).1,(g4 r hr).2.1,fun hl=>(g4 r hr).2.2 (h3 r hl)⟩⟩
theorem wc{c:Code}{Q:Exit->Act->World->Prop}(J:Nat->Act->World->Prop)(round:∀m a w,J m a w->c.sB P ro (Exit.then (fun a' w'=>∃m',m'<m/\J m' a' w') Q) a w):
 ∀m a w,J m a w->(Code.loop c).sB P ro Q a w:=by
 intro m a w h0 fr kk cs sA hb
 have hr:(dD ro).room (cs.length+1+0):=fun d hd=>by simp[dD]at hd
 have key:∀m a w,J m a w->∃e a' w',Q e a' w'/\ArrivesIn (Machine.fenced P (dD ro)) P (lone (fr.atR a (.code c:: .inLoop c::kk)) cs w) fr kk cs e a' w':=by
  intro m
  induction m using Nat.strongRecOn with
  |_ m ih=>
   intro a w hJ
   obtain⟨e,a1,w1,hq,ct⟩:=round m a w hJ fr (.inLoop c::kk) cs sA hb
   cases e with
   |normal=>
    obtain⟨m',bI,Y9⟩:=hq
    obtain⟨e2,a2,w2,NL,BX⟩:=ih m' bI a1 w1 Y9
    exact⟨e2,a2,w2,NL, .of_steps (StepsIn.trans ct (.one (fenced_calm trivial hr rfl) stepR_inLoop)) BX⟩
   |_=>exact⟨_,a1,w1,hq, .pass (x:= .inLoop c) rfl (fun _ _=> .inl (by simp)) ct⟩
 obtain⟨e,a',w',hq,ct⟩:=key m a w h0
 exact⟨e,a',w',hq, .of_steps (.one (fenced_calm trivial hr rfl) stepR_loop) ct⟩
theorem Dz(hs:bY M cu H0 w0 n cx φ s a w)(lS:cx.rd=false)(sA:ro=none){g:Operand}{ps:Array Tmp}{x y:Code}{Q:fO->S->Prop}(h:yr P n (s.ev g) ps.toList (low n x) (low n y) Q s):
 (Code.rangeFunc g ps x y).sB P ro (BV M cu H0 w0 n cx Q) a w:=by
 subst sA
 obtain⟨env,dq,h⟩:=h
 refine uj fun fn Dw=> ?_
 let AJ:Loop:={state:= .ready,pending:=none,fn:=fn,tmps:=a.tmps,params:=ps,assign:=x,body:=y,defers:=w.heap.size}
 let w1:World:=(w.alloc (.deferred (some []))).alloc (.loop AJ)
 let l:Nat:=w.heap.size+1
 have lr:(Instr.enterLoop fn a.tmps ps x y (dD none).round).run P w= .ok (l,[mark w.heap.size]) w1:=by
  simp[Instr.enterLoop,dD,mark,w1,l,AJ]
 have AK:eL (fun _=>False) w w1:=by
  have k1:=cM w (.deferred (some []))
  have k2:=cM (w.alloc (.deferred (some []))) (.loop AJ)
  exact⟨k2.os.trans k1.os,k2.tape.trans k1.tape,k2.output.trans k1.output,Nat.le_trans k1.size k2.size,fun j hj hm=>(k2.block j (Nat.lt_of_lt_of_le hj k1.size) hm).trans (k1.block j hj hm)⟩
 let iu:=ax φ s.nx (.pointer (some ⟨l,0,none⟩))
 let s1:S:=⟨s.env,ax s.o s.nx (.loop P.funcs.size n env ps.toList (low n x) (low n y) .ready none),s.nx+1⟩
 have cL: ¬s.H.us s.nx:=by simp[S.H]
 have ei:∀b,eA (.pointer (some ⟨l,0,none⟩))=some b->w.heap.size<=b/\b<w1.heap.size:=by
  intro b hb;simp[eA]at hb;subst hb;simp[l,w1]
 have xF:=eN (φ:=φ) (H:=s.H) AK cL (.loop P.funcs.size n env ps.toList (low n x) (low n y) .ready none) (.pointer (some ⟨l,0,none⟩)) fun b hb=>(ei b hb).1
 have HQ:(w.alloc (.deferred (some []))).heap.size=w.heap.size+1:=by simp
 have pH:w1.heap[l]? =some (.loop AJ):=by
  have:=heap_alloc_new (w.alloc (.deferred (some []))) (.loop AJ)
  rwa [HQ]at this
 have Lq:=jb hs.heap AK cL (.loop P.funcs.size n env ps.toList (low n x) (low n y) .ready none) (.pointer (some ⟨l,0,none⟩)) ei (by
  unfold aL
  simp only[bH,aK,if_true]
  refine⟨l,AJ,rfl,pH,Dw,rfl,rfl,rfl,hs.size,rfl,rfl,fun i=> ?_⟩
  rcases dq i with e|e
  ·rw[e];trivial
  ·rw[e];exact V.aG xF _ _ (hs.env i))
 have pI:bY M cu H0 w0 n cx iu s1 {a with defers:=mark w.heap.size::a.defers} w1:=by
  have base:=dW hs Lq xF (o':=ax s.o s.nx (.loop P.funcs.size n env ps.toList (low n x) (low n y) .ready none)) (nx':=s.nx+1) rfl (Fg fun id aw=>by simp at aw;exact .inr aw)
  refine⟨base.heap,base.tr,base.size, ?_,base.env⟩
  obtain⟨ms,g1,g2,g3,g4⟩:=base.defers
  obtain⟨Uf,q1,q2,q3,q4⟩:=hs.defers
  have Za:ms.map mark=Uf.map mark:=by
   have:ms.map mark++cx.base=Uf.map mark++cx.base:=g1.symm.trans q1
   exact List.append_cancel_right this
  have we:ms=Uf:=by
   have hm:∀a b,mark a=mark b->a=b:=fun a b h=>by simpa[mark]using h
   exact List.map_inj_right hm |>.1 Za
  refine⟨w.heap.size::ms,by rw[g1];rfl,List.nodup_cons.2 ⟨fun hm=> ?_,g2⟩,(fun h=>by rw[lS]at h;cases h),fun r hr=> ?_⟩
  ·have:=(q4 w.heap.size (we ▸ hm)).2.1
   rw[Array.getElem?_eq_none (Nat.le_refl _)]at this;cases this
  ·rcases List.mem_cons.1 hr with rfl|hr
   ·refine⟨hs.tr.ck.size,(RowKit.Below.heap_alloc (w.alloc (.deferred (some []))) (.loop AJ) w.heap.size (by rw[HQ];omega)).trans (heap_alloc_new w _), ?_⟩
    rintro⟨id,i1,i2⟩
    by_cases e:id=s.nx
    ·subst e;simp[iu,eA,l]at i2
    ·have Zb:(s.H.o id).live=true:=by simpa[s1,S.H,e]using i1
     have Zc:eA (φ id)=some w.heap.size:=by simpa[iu,e]using i2
     have:=(hs.heap.ours _ ⟨id,Zb,Zc⟩).2
     omega
   ·exact g4 r hr
 have Ug:V.den (aj M iu s1.H) iu s1.H w1 (.ki s.nx) (.func (.yield l) #[] #[]):=
  ⟨rfl,by simp[s1,S.H],fun _=>⟨l,by simp[iu],rfl⟩⟩
 have hg:=lZ (M:=M) (φ:=iu) (H:=s1.H) (w:=w1) s1 {a with defers:=mark w.heap.size::a.defers} pI.env g
 have Uh:s1.ev g=s.ev g:=by cases g<;>rfl
 rw[Uh]at hg
 have Zd:({a with defers:=mark w.heap.size::a.defers}:Act).eval g=a.eval g:=rfl
 rw[Zd]at hg
 split at h
 ·rename_i f first cap Ze
  rw[Ze]at hg
  obtain⟨fa,ca,Lo,Ar,O9⟩:=hg
  have fin:∀ (all:List V) (o2:Nat->ab) (s2:S),s2=⟨s.env,o2,s.nx+1⟩->bY M cu H0 w0 n cx iu s2 {a with defers:=mark w.heap.size::a.defers} w1->V.aF (aj M iu s2.H) iu s2.H w1 all (fa++#[Value.func (.yield l) #[] #[]]++ca).toList->(o2 s.nx).bN=true->
   eR P f all o2 (s.nx+1) (fun _ o' nx'=>∃nf m e p c d st pd,o' s.nx= .loop nf m e p c d st pd/\st≠ .busy/\uk Q pd ⟨s.env,ax o' s.nx (.loop nf m e p c d .exhausted pd),nx'⟩) (fun v o' nx'=>Q (.bJ v) ⟨s.env,o',nx'⟩)->
   ∃ (l:Nat) (mark:List Deferred) (fC:World) (d:Deferred) (uN:World) (f:FuncId) (args:Array Value) (pX:World),
     (Instr.enterLoop fn a.tmps ps x y (dD none).round).run P w= .ok (l,mark) fC/\(resolve a.eval (rangeCall g l) 0).run P fC= .ok d uN/\
     (invoke d.target d.args).run P uN= .ok (.enter f args) pX/\CallsIn (dD none) 0 P f args pX (sC P l (BV M cu H0 w0 n cx Q) {a with defers:=mark++a.defers}):=by
   intro all o2 s2 Ui ED aN bF hC
   subst Ui
   have dX:=hC.2 M iu w1 _ ED.heap aN
   refine⟨l,[mark w.heap.size],w1,{target:= .fn (.func f) ca,args:=fa++#[Value.func (.yield l) #[] #[]]},w1,f,fa++#[Value.func (.yield l) #[] #[]]++ca,w1,lr, ?_, ?_,cP (dX.mono fun e w' ⟨aB,o',nx',v,k1,k2,k3⟩=> ?_)⟩
   ·simp only[resolve,Lo,Deferred.ofValue,List.map_toArray,List.map_cons,List.map_nil,Sem.run_pure]
    rfl
   ·simp[invoke,kz hC.1]
   ·cases e with
    |returned val=>
     obtain⟨k4,nf,m,e,p,c,d,st,pd,k5,k6,k7⟩:=k3
     have BZ:bY M cu H0 w0 n cx aB ⟨s.env,o',nx'⟩ {a with defers:=mark w.heap.size::a.defers} w':=dW ED k1 k2 rfl fun id hu=>hu
     have Lr:aB s.nx= .pointer (some ⟨l,0,none⟩):=by
      have:=(k2.rel.row s.nx (show s.nx<s.nx+1 by omega) (by show(o' s.nx).bN=true;rw[k5];rfl)).2
      rw[this];simp[iu]
     have bI:s.nx<nx':=k2.rel.us s.nx (show s.nx<s.nx+1 by omega)
     obtain⟨r,r1,r2,r3,r4,r5⟩:=uO (st':= .exhausted) (pd':=pd) k1 bI (show(hp o' nx').o s.nx=_ from k5) Lr
     have fX:(Instr.endLoop l).run P w'= .ok (pd.map jQ.code) {w' with heap:=w'.heap.setIfInBounds l (.loop {r with state:= .exhausted,pending:=pd.map jQ.code})}:=by
      have e1:({r with state:= .exhausted}:Loop)={r with state:= .exhausted,pending:=pd.map jQ.code}:=by rw[<- r3]
      have Zf:(r.state==LoopState.busy)=false:=by rw[r2];cases st<;>first|rfl|exact absurd rfl k6
      simp only[Instr.endLoop,Sem.run_bind,jL r1,Result.andThen_ok,Zf,Bool.false_eq_true,if_false,Sem.run_pure]
      rw[iw _ r1,e1]
      simp[r3]
     have NM:=dW BZ r4 r5 (o':=ax o' s.nx (.loop nf m e p c d .exhausted pd)) (nx':=nx') rfl fun id hu=>by
      simp only[dK]at hu
      rcases hu with hu|hu
      ·exact hu
      ·subst hu;exact bI
     refine⟨pd.map jQ.code,_,fX, ?_⟩
     cases pd with
     |none=>exact⟨.normal,_,_,k7,NM,trivial⟩
     |some j=>
      cases j with
      |ret=>exact BW ⟨.ret,_,_,k7,NM,trivial⟩
      |exit id=>exact yp ⟨.exit id,_,_,k7,NM,rfl⟩
    |panicked ch=>
     obtain⟨val,rfl,k4,k5⟩:=k3
     have BZ:bY M cu H0 w0 n cx aB ⟨s.env,o',nx'⟩ {a with defers:=mark w.heap.size::a.defers} w':=dW ED k1 k2 rfl fun id hu=>hu
     exact⟨.bJ v,_,_,k5,BZ,val,rfl,k4⟩
    |outgrown=>exact k3.elim
  have mb:V.aF (aj M iu s1.H) iu s1.H w1 (first++[V.ki s.nx]++cap) (fa++#[Value.func (.yield l) #[] #[]]++ca).toList:=by
   rw[Array.toList_append,Array.toList_append]
   exact V.lq Ar ⟨_,[],rfl,Ug,rfl⟩ O9
  rcases h with hC|hC
  ·exact fin _ _ s1 rfl pI mb (by simp;rfl) hC
  ·have jz:s1.o=ax s.o s.nx (.loop P.funcs.size n env ps.toList (low n x) (low n y) .ready none):=rfl
   obtain⟨f1,f2,f3,f4,f5⟩:=cR pI.heap (cS s1.o (first++[V.ki s.nx]++cap)) (fU _ _ s1.o mb)
   have lb:s1.H.put (cH s1.H.o (cS s1.o (first++[V.ki s.nx]++cap)))=hp (put s1.o (cH s1.o (cS s1.o (first++[V.ki s.nx]++cap)))) s1.nx:=ky (by rw[mS];exact fU _ _ s1.o mb)
   have JM:=Fj f1 _ _ f3 (V.aJ f2 _ _ mb)
   have JN:((s1.H.put (cH s1.H.o (cS s1.o (first++[V.ki s.nx]++cap)))).o s.nx).bN=true:=by
    by_cases hm:s.nx∈cS s1.o (first++[V.ki s.nx]++cap)
    ·rw[f3 _ hm];simp[s1,S.H,ab.fz,ab.bN]
    ·rw[f4 _ hm];simp[s1,S.H,ab.bN]
   rw[lb]at f1 f2 JM JN
   exact fin _ (put s1.o (cH s1.o (cS s1.o (first++[V.ki s.nx]++cap)))) ⟨s.env,_,s.nx+1⟩ rfl (dW pI f1 f2 rfl fun id hu=>hu) JM JN hC
 ·exact h.elim
end
end Go.Proofs.YtealblliddhgiaaGreat
