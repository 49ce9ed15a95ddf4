/-
  A PART OF THE PROOF. Conditions: none.
-/
import Derived.RangeFuncLeaves
import Derived.TacticsIn
import Derived.RecoverIn
import Derived.Test.YtealblliddhgiaaGreatVr4
set_option linter.unusedSimpArgs false
set_option linter.unusedVariables false
namespace Go.Proofs.YtealblliddhgiaaGreat
inductive R where
 |ret (ds:List D)|bK (d:D)
def R.is (B:Nat->Prop)(w:World):R->Ending->Prop
 | .ret [x], .returned v=>D.den B w x v
 | .ret ds, .returned v=>∃a,v= .tuple a/\D.aC B w ds a.toList
 | .bK d, .panicked chain=>∃v,chain=[{v:=v,recovered:=false}]/\D.den B w d v
 |_,_=>False
def Enters(P:Program)(f:FuncId):Prop:=∃fn,P.funcs[f]? =some fn/\(fn.name== "runtime.NumGoroutine")=false/\fn.body.isNone=false
def cj(P:Program)(f:FuncId)(ds:List D)(out:R):Prop:=
 Enters P f/\∀ (M:Nat->Prop) (w:World) (vals:Array Value),(∀b,M b->b<w.heap.size)->D.aC M w ds vals.toList->
  Calls P f vals w fun e w'=>eF (fun _=>False) w w'/\out.is M w' e
def hp(o:Nat->ae)(nx:Nat):Hp:=⟨o,fun id=>id<nx⟩
def l0(M:Nat->Prop)(φ:Place)(H:Hp)(w:World)(K X:V->(Nat->ae)->Nat->Prop)(e:Ending)(w':World):Prop:=
 ∃ay o' nx' v,au M ay (hp o' nx') w'/\Trans φ H w ay (hp o' nx') w'/\match e with
  | .returned val=>V.den (ai M ay (hp o' nx')) ay (hp o' nx') w' v val/\K v o' nx'
  | .panicked ch=>∃val,ch=[{v:=val,recovered:=false}]/\V.den (ai M ay (hp o' nx')) ay (hp o' nx') w' v val/\X v o' nx'
  | .outgrown=>False
def eI(P:Program)(f:FuncId)(args:List V)(o:Nat->ae)(nx:Nat)(K X:V->(Nat->ae)->Nat->Prop):Prop:=
 Enters P f/\∀ (M:Nat->Prop) (φ:Place) (w:World) (vals:Array Value),au M φ (hp o nx) w->V.aC (ai M φ (hp o nx)) φ (hp o nx) w args vals.toList->
  Calls P f vals w (l0 M φ (hp o nx) w K X)
def dD(P:Program)(id:Nat)(args:List V)(o:Nat->ae)(nx:Nat)(K X:V->(Nat->ae)->Nat->Prop):Prop:=
 (o id).bN=true/\∀ (M:Nat->Prop) (φ:Place) (w:World) (vals:Array Value) (b:Nat),au M φ (hp o nx) w->V.aC (ai M φ (hp o nx)) φ (hp o nx) w args vals.toList->φ id= .pointer (some ⟨b,0,none⟩)->
  ∃f tmps assign body,(Instr.yield b vals).run P w= .ok (.round b f tmps assign body) w/\∀n,RoundIn Fence.wide n P b f tmps assign body w (l0 M φ (hp o nx) w K X)
theorem l0.mono {M:Nat->Prop}{φ:Place}{H:Hp}{w:World}{K X K' X':V->(Nat->ae)->Nat->Prop}(hK:∀v o n,K v o n->K' v o n)(hX:∀v o n,X v o n->X' v o n){e:Ending}{w':World}(h:l0 M φ H w K X e w'):l0 M φ H w K' X' e w':=by
 obtain⟨ay,o',nx',v,h1,h2,h3⟩:=h
 refine⟨ay,o',nx',v,h1,h2, ?_⟩
 cases e with
 |returned val=>exact⟨h3.1,hK _ _ _ h3.2⟩
 |panicked ch=>obtain⟨val,a,b,c⟩:=h3;exact⟨val,a,b,hX _ _ _ c⟩
 |outgrown=>exact h3
theorem eI.mono {P:Program}{f:FuncId}{args:List V}{o:Nat->ae}{nx:Nat}{K X K' X':V->(Nat->ae)->Nat->Prop}(hK:∀v o n,K v o n->K' v o n)(hX:∀v o n,X v o n->X' v o n)(h:eI P f args o nx K X):eI P f args o nx K' X':=
 ⟨h.1,fun M φ w vals h1 h2=>(h.2 M φ w vals h1 h2).mono fun _ _ h=>h.mono hK hX⟩
theorem dD.mono {P:Program}{id:Nat}{args:List V}{o:Nat->ae}{nx:Nat}{K X K' X':V->(Nat->ae)->Nat->Prop}(hK:∀v o n,K v o n->K' v o n)(hX:∀v o n,X v o n->X' v o n)(h:dD P id args o nx K X):dD P id args o nx K' X':=
 ⟨h.1,fun M φ w vals b h1 h2 h3=>let⟨f,t,a,c,h4,h5⟩:=h.2 M φ w vals b h1 h2 h3;⟨f,t,a,c,h4,fun n=>(h5 n).mono fun _ _ h=>h.mono hK hX⟩⟩
mutual
def D.flat:D->Bool
 | .sl _| .mp _ _=>false
 | .agg cs=>D.jg cs
 | .iface _ x=>x.flat
 |_=>true
def D.jg:List D->Bool
 |[]=>true
 |x::xs=>x.flat&&D.jg xs
end
mutual
theorem D.oA {B B':Nat->Prop}{w w':World}:∀ (x:D) (v:Value),x.flat=true->D.den B w x v->D.den B' w' x v
 | .int _ _,_,_,h| .bool _,_,_,h| .str _,_,_,h| .ft,_,_,h| .gy,_,_,h| .aW,_,_,h| .cI,_,_,h=>h
 | .agg cs,_,hf,h=>by obtain⟨a,rfl,h,h2⟩:=h;exact⟨a,rfl,D.kV cs _ hf h,h2⟩
 | .sl es,_,hf,h=>by simp[D.flat]at hf
 | .mp _ _,_,hf,h=>by simp[D.flat]at hf
 | .iface t x,_,hf,h=>by obtain⟨u,rfl,h⟩:=h;exact⟨u,rfl,D.oA x u hf h⟩
theorem D.kV {B B':Nat->Prop}{w w':World}:∀ (xs:List D) (vs:List Value),D.jg xs=true->D.aC B w xs vs->D.aC B' w' xs vs
 |[],_,_,h=>h
 |x::xs,_,hf,h=>by
  obtain⟨u,us,rfl,h1,h2⟩:=h
  simp only[D.jg,Bool.and_eq_true]at hf
  exact⟨u,us,rfl,D.oA x u hf.1 h1,D.kV xs us hf.2 h2⟩
end
mutual
def D.l8:D->Bool
 | .mp _ _=>false
 | .agg cs=>D.kW cs
 | .sl es=>D.kW es
 | .iface _ x=>x.l8
 |_=>true
def D.kW:List D->Bool
 |[]=>true
 |x::xs=>x.l8&&D.kW xs
end
theorem fV.wV {B B':Nat->Prop}{w w':World}{a:Addr}{cs:Array Value}
 (hb:∀b,nX w b-> ¬B b->w'.heap[b]? =w.heap[b]? /\ ¬B' b) (h:fV B w a cs):fV B' w' a cs:=by
 intro j u hj
 obtain⟨h1,h2⟩:=h j u hj
 have bL:nX w a.block:=by simpa using m8 h1
 obtain⟨h3,h4⟩:=hb _ bL h2
 exact⟨by rw[World.cell?_of_block (w:=w) (w':=w') (a:=a.add j) (by simpa using h3)];exact h1,h4⟩
mutual
theorem D.kp {B B':Nat->Prop}{w w':World}(hb:∀b,nX w b-> ¬B b->w'.heap[b]? =w.heap[b]? /\ ¬B' b):
 ∀ (x:D) (v:Value),x.l8=true->D.den B w x v->D.den B' w' x v
 | .int _ _,_,_,h| .bool _,_,_,h| .str _,_,_,h| .ft,_,_,h| .gy,_,_,h| .aW,_,_,h| .cI,_,_,h=>by simpa[D.den]using h
 | .agg cs,_,hn,h=>by
   obtain⟨a,rfl,h,hf⟩:=h
   exact⟨a,rfl,D.l9 hb cs _ hn h,hf⟩
 | .sl es,_,hn,h=>by
   obtain⟨base,len,cap,rfl,h1,h2,h3,sz,h4⟩:=h
   exact⟨base,len,cap,rfl,h1,h2,h3,sz,fun a ha=>⟨(h4 a ha).1,D.oB hb sz a es 0 hn (h4 a ha).2⟩⟩
 | .iface t d,_,hn,h=>by
   obtain⟨u,rfl,h⟩:=h
   exact⟨u,rfl,D.kp hb d u hn h⟩
 | .mp _ _,_,hn,_=>by simp[D.l8]at hn
theorem D.l9 {B B':Nat->Prop}{w w':World}(hb:∀b,nX w b-> ¬B b->w'.heap[b]? =w.heap[b]? /\ ¬B' b):
 ∀ (ds:List D) (vs:List Value),D.kW ds=true->D.aC B w ds vs->D.aC B' w' ds vs
 |[],_,_,h=>h
 |d::ds,_,hn,h=>by
  obtain⟨u,us,rfl,h1,h2⟩:=h
  simp only[D.kW,Bool.and_eq_true]at hn
  exact⟨u,us,rfl,D.kp hb d u hn.1 h1,D.l9 hb ds us hn.2 h2⟩
theorem D.oB {B B':Nat->Prop}{w w':World}(hb:∀b,nX w b-> ¬B b->w'.heap[b]? =w.heap[b]? /\ ¬B' b)(sz:Nat)(a:Addr):
 ∀ (es:List D) (i:Nat),D.kW es=true->D.elems B w sz a i es->D.elems B' w' sz a i es
 |[],_,_,_=>trivial
 |e::es,i,hn,h=>by
  obtain⟨⟨ev,h1,h2,h3⟩,h4⟩:=h
  simp only[D.kW,Bool.and_eq_true]at hn
  exact⟨⟨ev,h1,h2.wV hb,D.kp hb e ev hn.1 h3⟩,D.oB hb sz a es (i+1) hn.2 h4⟩
end
def R.l8:R->Bool
 | .ret ds=>D.kW ds
 | .bK d=>d.l8
def R.flat:R->Bool
 | .ret ds=>D.jg ds
 | .bK d=>d.flat
def iD:List D->V
 |[x]=> .d x
 |ds=> .bT (ds.map .d)
inductive e9 where
 |normal|exit (id:Nat)|ret|bK (v:V)
def aY(env:Nat->V)(dst:Option Tmp)(v:V):Nat->V:=
 match dst with
 |some d=>ao env d v
 |none=>env
def Ep(o:Nat->ae)(v:V):V:=match dz o v with|some x=> .d x|none=>v
def da(o:Nat->ae):List V->List Nat
 |[]=>[]
 |v::vs=>(match dz o v with|some _=>v.ids|none=>[])++da o vs
def ma(P:Program)(g:FuncId)(args:List V)(o:Nat->ae)(nx:Nat)(K X:V->(Nat->ae)->Nat->Prop):Prop:=
 eI P g args o nx K X\/eI P g (args.map (Ep o)) (put o (ck o (da o args))) nx K X
def rJ(P:Program)(s:S)(g:FuncId)(all:List V)(K:V->(Nat->ae)->Nat->Prop)(X:V->(Nat->ae)->Nat->Prop):Prop:=
    (∃ds out,bU s.o all=some ds/\cj P g ds out/\(match out with
     | .ret rs=>K (iD rs) (put s.o (ck s.o (V.a8 all))) (s.nx+1)
     | .bK x=>X (.d x) (put s.o (ck s.o (V.a8 all))) (s.nx+1)))\/
    (∃ds out,bU s.o all=some ds/\cj P g ds out/\out.flat=true/\(match out with
     | .ret rs=>K (iD rs) s.o (s.nx+1)
     | .bK x=>X (.d x) s.o (s.nx+1)))\/
    (∃ds out,bU s.o all=some ds/\cj P g ds out/\out.l8=true/\(match out with
     | .ret rs=>K (iD rs) (put s.o (qC s.o (V.a8 all))) (s.nx+1)
     | .bK x=>X (.d x) (put s.o (qC s.o (V.a8 all))) (s.nx+1)))\/
    ma P g all s.o s.nx K X
def xn(P:Program)(s:S)(f:V)(args:List V)(K:V->(Nat->ae)->Nat->Prop)(X:V->(Nat->ae)->Nat->Prop):Prop:=
 match f with
 | .func (.func g) first cap=>rJ P s g (first++args++cap) K X
 | .ke id=>dD P id args s.o s.nx K X
 |_=>False
def Io(P:Program)(t:TypeId):Bool:=
 match P.underlying t with
 |some (.pointer _)=>false
 |some _=>true
 |none=>false
def xo(P:Program)(m:String)(x:V):Option (FuncId×V):=
 match x with
 | .d (.iface t y)=>match P.info? t with
   |some ti=>match ti.methods.find? (·.name==m)with
    |some r=>match r.func with
     |some (f,false)=>if r.path.isEmpty=true/\Io P t=true then some (f, .d y)else none
     |_=>none
    |none=>none
   |none=>none
 |_=>none
def fX(n:Nat):Option Tmp->Prop
 |some d=>d<n
 |none=>True
def SB(P:Program)(n:Nat)(s:S)(o:Oper)(X:V->S->Prop)(K:S->Prop):Prop:=
 fX n o.dst/\match o.op with
 | .call c=>match c.callee with
   | .value f=>xn P s (s.ev f) (c.args.toList.map s.ev) (fun v o' nx'=>K ⟨aY s.env o.dst v,o',nx'⟩) (fun v o' nx'=>X v ⟨s.env,o',nx'⟩)
   | .invoke r m=>match xo P m (s.ev r)with
     |some (g,y)=>rJ P s g (y::c.args.toList.map s.ev) (fun v o' nx'=>K ⟨aY s.env o.dst v,o',nx'⟩) (fun v o' nx'=>X v ⟨s.env,o',nx'⟩)
     |none=>False
   |_=>H9 P s s.nx o.op fun v Δ _=>K ⟨aY s.env o.dst v,put s.o Δ,s.nx+1⟩
 | .panic x=>match s.ev x with
   | .d (.iface t y)=>X (.d (.iface t y)) s
   | .iface t y=>X (.iface t y) s
   |_=>False
 |op=>H9 P s s.nx op fun v Δ _=>K ⟨aY s.env o.dst v,put s.o Δ,s.nx+1⟩
def vu(s:S)(ops:Array Oper)(g:Option (Nat×Bool))(A B:Prop):Prop:=
 match g with
 |none=>A
 |some (j,want)=>match p7 ops j with
  |some d=>match s.env d with
   | .d (.bool b)=>(b=want->A)/\(b≠want->B)
   | .bT []=>B
   |_=>False
  |none=>B
def vw(P:Program)(n:Nat)(ops:Array Oper)(X:V->S->Prop)(K:S->Prop):List Oper->S->Prop
 |[],s=>K s
 |o::l,s=>vu s ops o.guard (SB P n s o X (vw P n ops X K l)) (fX n o.dst/\vw P n ops X K l ⟨aY s.env o.dst (.bT []),s.o,s.nx+1⟩)
def cq(b:Nat)(s s':S):Prop:=
 ∀ (M:Nat->Prop) (φ:Place) (w:World) (tm:Nat->Value),au M φ s.H w->(∀i,V.den (ai M φ s.H) φ s.H w (s.env i) (tm i))->
   ∃ay,au M ay s'.H w/\(∀i,V.den (ai M ay s'.H) ay s'.H w (s'.env i) (tm i))/\(∀k,bO ay s'.H k->bO φ s.H k)/\b<=s'.nx/\
    (∀id,id<b->(s'.o id).bN=true->(s.o id).bN=true/\ay id=φ id)/\
    (∀id e',id<b->(s'.o id).aZ=some e'->∃e,(s.o id).aZ=some e/\e<=e'/\(e=e'->ay id=φ id))
def oC(K:S->Prop)(Q:e9->S->Prop)(e:e9)(s:S):Prop:=match e with| .normal=>K s|e=>Q e s
def eW(id:Nat)(Q:e9->S->Prop)(e:e9)(s:S):Prop:=match e with| .exit j=>if j=id then Q .normal s else Q (.exit j) s|e=>Q e s
def kX(P:Program)(s:S):List ResultVar->Option (List V)
 |[]=>some []
 | .tmp t::rs=>(kX P s rs).map (s.env t::·)
 | .cell a t::rs=>match s.env a with
   | .ptr id off=>match s.o id with
     | .row cs=>(eG P t cs off).bind fun v=>(kX P s rs).map (v::·)
     |_=>none
   |_=>none
def cH(vs:List V):Nat->V:=fun i=>vs.getD i (.bT [])
def zH(P:Program)(rs:List ResultVar)(out:R)(e:e9)(s:S):Prop:=
 match e with
 | .normal| .ret=>match kX P s rs with
   |some vs=>match bU s.o vs with
    |some ds=>out= .ret ds
    |none=>False
   |none=>False
 | .bK v=>match dz s.o v with
   |some x=>out= .bK x
   |none=>False
 | .exit _=>False
theorem Er{P:Program}{rs:List ResultVar}{out:R}{s:S}(h:match kX P s rs with
 |some vs=>match bU s.o vs with
  |some ds=>out= .ret ds
  |none=>False
 |none=>False):∃vs ds,kX P s rs=some vs/\bU s.o vs=some ds/\out= .ret ds:=by
 split at h
 ·rename_i vs h1
  split at h
  ·rename_i xs h2;exact⟨vs,xs,h1,h2,h⟩
  ·exact h.elim
 ·exact h.elim
theorem Es{out:R}{s:S}{v:V}(h:match dz s.o v with
 |some x=>out= .bK x
 |none=>False):∃x,dz s.o v=some x/\out= .bK x:=by
 split at h
 ·rename_i x h1;exact⟨x,h1,h⟩
 ·exact h.elim
end Go.Proofs.YtealblliddhgiaaGreat
namespace Go.Proofs.YtealblliddhgiaaGreat
section
variable {P:Program}{M:Nat->Prop}{φ:Place}{H:Hp}{w w':World}
def ae.kq:ae->Bool
 | .arr .. =>true
 |_=>false
theorem GQ(o:Nat->ae)(ids:List Nat):qC o ids=ck o (ids.filter fun id=>(o id).kq):=by
 induction ids with
 |nil=>rfl
 |cons id ids ih=>
  unfold qC at ih|-
  simp only[List.filterMap_cons,List.filter_cons]
  cases hx:o id with
  |arr ep ty sz es=>
   have e:(ae.arr ep ty sz es).kq=true:=rfl
   rw[e,if_pos rfl,ih]
   simp only[ck,List.map_cons,hx]
  |_=>exact ih
theorem iE(hH:au M φ H w){us':Nat->Prop}(h:∀id,H.us id->us' id):au M φ ⟨H.o,us'⟩ w/\Trans φ H w φ ⟨H.o,us'⟩ w:=by
 have ht:Trans φ H w φ ⟨H.o,us'⟩ w:=⟨eF.refl _ _,fun b hb=> .inl hb,⟨h,fun id _ hr=>⟨hr,rfl⟩,fun id e' _ he=>⟨e',he,Nat.le_refl _,fun _=>rfl⟩⟩⟩
 exact⟨hH.of ht (fun _=>False) (fun _ h=>h.elim) (fun id _=>⟨rfl,rfl,fun _ _ _=>rfl⟩) (fun id hn=>hH.fresh id fun hu=>hn (h id hu)) hH.apart (fun b hb=>(hH.ours b hb).2),ht⟩
theorem fI(hH:au M φ H w)(hk:eF (fun _=>False) w w'):au M φ H w'/\Trans φ H w φ H w':=by
 have ht:Trans φ H w φ H w':=⟨⟨hk.os,hk.tape,hk.output,hk.size,fun k h _=>hk.block k h fun h=>h⟩,fun b hb=> .inl hb,dM.refl _ _⟩
 exact⟨hH.of ht (fun _=>False) (fun _ h=>h.elim) (fun id _=>⟨rfl,rfl,fun hl b hb=>hk.block b (hH.ours b ⟨id,hl,hb⟩).2 fun h=>h⟩) hH.fresh hH.apart (fun b hb=>Nat.lt_of_lt_of_le (hH.ours b hb).2 hk.size),ht⟩
theorem ku{Δ:List (Nat×ae)}(h:∀id∈Δ.map (·.1),H.us id):H.put Δ=⟨put H.o Δ,H.us⟩:=by
 unfold Hp.put
 congr 1
 funext id
 simp only[eq_iff_iff]
 exact⟨fun h'=>h'.elim (fun h=>h) (h id), .inl⟩
theorem mM(o:Nat->ae)(ids:List Nat):(ck o ids).map (·.1)=ids:=by
 rw[kQ];simp[Function.comp_def]
structure Cx where
 base:List Deferred
 rd:Bool
def dJ(ro:Option Nat):Fence:={fn:=fun _=>True,depth:=none,alive:=false,round:=ro}
def mark(r:Nat):Deferred:={target:= .collected r,args:=#[]}
def rK(cx:Cx)(w0:World)(φ:Place)(H:Hp)(w:World)(ds:List Deferred):Prop:=
 ∃ms:List Nat,ds=ms.map mark++cx.base/\ms.Nodup/\(cx.rd=true->ms=[])/\∀r∈ms,w0.heap.size<=r/\w.heap[r]? =some (.deferred (some []))/\ ¬bO φ H r
theorem rK.mono {cx:Cx}{w0:World}{φ ay:Place}{H H':Hp}{w w':World}{ds:List Deferred}(ht:Trans φ H w ay H' w')(h:rK cx w0 φ H w ds):rK cx w0 ay H' w' ds:=by
 obtain⟨ms,h1,h2,h3,h4⟩:=h
 refine⟨ms,h1,h2,h3,fun r hr=> ?_⟩
 obtain⟨g1,g2,g3⟩:=h4 r hr
 have bL:r<w.heap.size:=by
  rcases Nat.lt_or_ge r w.heap.size with hl|hl
  ·exact hl
  ·rw[Array.getElem?_eq_none hl]at g2;cases g2
 refine⟨g1,(ht.b8.block r bL g3).trans g2,fun hl=> ?_⟩
 rcases ht.grow r hl with h|h
 ·exact g3 h
 ·omega
structure bZ (M:Nat->Prop) (ct:Place) (H0:Hp) (w0:World) (n:Nat) (cx:Cx) (φ:Place) (s:S) (a:Act) (w:World):Prop where
 heap:au M φ s.H w
 tr:Trans ct H0 w0 φ s.H w
 size:a.tmps.size=n
 defers:rK cx w0 φ s.H w a.defers
 env:∀i,V.den (ai M φ s.H) φ s.H w (s.env i) (a.tmps.getD i undef)
variable {ct:Place}{H0:Hp}{w0:World}{n:Nat}{s:S}{a:Act}{cx:Cx}{ro:Option Nat}{k:Nat}
theorem cX{f:FuncId}{args:Array Value}{R:Ending->World->Prop}(h:Calls P f args w R):CallsIn (dJ ro) k P f args w R:=
 ⟨trivial,fun cs _=>let⟨e,w',fr,r,s,x⟩:=h cs;⟨e,w',fr,r,comesIn_wide.2 s,x⟩⟩
theorem xp{f:FuncId}{args:Array Value}{R:Ending->World->Prop}(h:CallsIn (dJ ro) k P f args w R):Calls P f args w R:=
 fun cs=>let⟨e,w',fr,r,s,x⟩:=h.2 cs (fun _ h=>by simp[dJ]at h);⟨e,w',fr,r,comesIn_wide.1 s,x⟩
theorem jE{o:Oper}{next:Act->World->Prop}{Q:Exit->Act->World->Prop}(L4:∀c,o.op≠ .defer c)(h:o.uponIn (dJ ro) k P a next Q ((execOp a.eval o).run P w)):o.wpIn (dJ ro) k P a w next Q:=
 ⟨fun _ _=>trivial,by rw[Oper.semAt_eq _ _ _ L4];exact h⟩
theorem kY(hs:bZ M ct H0 w0 n cx φ s a w){ay:Place}{H':Hp}(hH:au M ay H' w')(ht:Trans φ s.H w ay H' w'){v:V}{val:Value}(hd:V.den (ai M ay H') ay H' w' v val){dst:Option Tmp}(cJ:fX n dst)
 {o':Nat->ae} {nx':Nat} (ho:H'.o=o') (hu:∀id,H'.us id->id<nx'):bZ M ct H0 w0 n cx ay ⟨aY s.env dst v,o',nx'⟩ (a.put dst val) w':=by
 obtain⟨k1,k2⟩:=iE hH hu
 subst ho
 refine⟨k1,hs.tr.trans (ht.trans k2), ?_, ?_,fun i=> ?_⟩
 ·cases dst<;>simp[Act.put,hs.size]
 ·have:=hs.defers.mono (ht.trans k2);cases dst<;>exact this
 ·cases dst with
  |none=>exact V.aA (ht.trans k2) _ _ (hs.env i)
  |some d=>
   simp only[fX]at cJ
   simp only[aY,aL,Act.put]
   by_cases hi:i=d
   ·subst hi
    have h1:(a.tmps.setIfInBounds i val).getD i undef=val:=by simp[Array.getD,hs.size,cJ]
    rw[if_pos rfl,h1]
    exact V.aA k2 _ _ hd
   ·have h1:(a.tmps.setIfInBounds d val).getD i undef=a.tmps.getD i undef:=by
     simp only[Array.getD_eq_getD_getElem?]
     rw[Array.getElem?_setIfInBounds_ne (Ne.symm hi)]
    rw[if_neg hi,h1]
    exact V.aA (ht.trans k2) _ _ (hs.env i)
theorem ef(hs:bZ M ct H0 w0 n cx φ s a w){ay:Place}{H':Hp}(hH:au M ay H' w')(ht:Trans φ s.H w ay H' w'){o':Nat->ae}{nx':Nat}(ho:H'.o=o')(hu:∀id,H'.us id->id<nx'):
 bZ M ct H0 w0 n cx ay ⟨s.env,o',nx'⟩ a w':=by
 obtain⟨k1,k2⟩:=iE hH hu
 subst ho
 exact⟨k1,hs.tr.trans (ht.trans k2),hs.size,hs.defers.mono (ht.trans k2),fun i=>V.aA (ht.trans k2) _ _ (hs.env i)⟩
theorem Et{Δ:List (Nat×ae)}(h:∀id∈Δ.map (·.1),s.H.us id\/id=s.nx)(id:Nat)(hu:(s.H.put Δ).us id):id<s.nx+1:=by
 rcases hu with hu|hu
 ·exact Nat.lt_succ_of_lt hu
 ·rcases h id hu with h|h
  ·exact Nat.lt_succ_of_lt h
  ·omega
variable {next:Act->World->Prop}{Q:Exit->Act->World->Prop}{X:V->S->Prop}{K:S->Prop}
theorem Eu(hs:bZ M ct H0 w0 n cx φ s a w){o:Oper}{op:Op}(dw:o.op=op)(cJ:fX n o.dst)(h:H9 P s s.nx op fun v Δ _=>K ⟨aY s.env o.dst v,put s.o Δ,s.nx+1⟩)
 (hN:∀s' ay a' w',K s'->bZ M ct H0 w0 n cx ay s' a' w'->next a' w'):o.wpIn (dJ ro) k P a w next Q:=by
 obtain⟨nx,val,w',ay,v,Δ,rd,hK,hr,ni,g1,g2,g3,g4⟩:=ui hs.heap (s:=s) rfl hs.env (fr:=s.nx) (by simp[S.H]) dw h
 have vx:=kY hs g1 g2 g3 cJ (o':=put s.o Δ) (nx':=s.nx+1) rfl (Et g4)
 refine jE (fun c hc=>by rw[dw]at hc;subst hc;exact h) ?_
 rw[hr]
 rcases ni with rfl|⟨rfl,rfl⟩
 ·exact hN _ _ _ _ hK vx
 ·exact hN _ _ _ _ hK vx
theorem V.kZ {B:Nat->Prop}{bY bs cs:List V}{u v x:List Value}(h1:V.aC B φ H w bY u)(h2:V.aC B φ H w bs v)(h3:V.aC B φ H w cs x):V.aC B φ H w (bY++bs++cs) (u++v++x):=
 V.bg _ _ _ _ (V.bg _ _ _ _ h1 h2) h3
theorem kx{f:FuncId}(h:Enters P f)(args:Array Value):(callFunc f args).run P w= .ok (.enter f args) w:=by
 obtain⟨fn,h1,h2,h3⟩:=h
 have Ck:fn.name≠ "runtime.NumGoroutine" :=by simpa using h2
 have XF:fn.body≠none:=fun h=>by rw[h]at h3;cases h3
 simp[callFunc,h1,Ck,XF]
theorem ky:∀ {rs:List D} {val:Value},R.is (ai M φ H) w (.ret rs) (.returned val)->V.den (ai M φ H) φ H w (iD rs) val
 |[],_,h=>by obtain⟨arr,rfl,h⟩:=h;exact⟨arr,rfl,h⟩
 |[x],_,h=>h
 |x::y::l,_,h=>by obtain⟨arr,rfl,h⟩:=h;exact⟨arr,rfl,(V.cd (x::y::l) _).2 h⟩
theorem R.vy {B B':Nat->Prop}:∀ {out:R} {e:Ending},out.flat=true->out.is B w e->out.is B' w e
 | .ret [], .returned _,_,h=>by obtain⟨arr,rfl,h⟩:=h;exact⟨arr,rfl,h⟩
 | .ret [x], .returned _,hf,h=>by
   simp only[R.flat,D.jg,Bool.and_true]at hf
   exact D.oA x _ hf h
 | .ret (x::y::l), .returned _,hf,h=>by obtain⟨arr,rfl,h⟩:=h;exact⟨arr,rfl,D.kV (x::y::l) _ hf h⟩
 | .bK d, .panicked _,hf,h=>by obtain⟨v,rfl,h⟩:=h;exact⟨v,rfl,D.oA d v hf h⟩
 | .ret [], .panicked _,_,h| .ret [_], .panicked _,_,h| .ret (_::_::_), .panicked _,_,h| .ret [], .outgrown,_,h| .ret [_], .outgrown,_,h| .ret (_::_::_), .outgrown,_,h| .bK _, .returned _,_,h| .bK _, .outgrown,_,h=>h.elim
theorem R.Ev {B B':Nat->Prop}{w':World}(hb:∀b,nX w' b-> ¬B b-> ¬B' b):∀ {out:R} {e:Ending},out.l8=true->out.is B w' e->out.is B' w' e
 | .ret [], .returned _,_,h=>by obtain⟨arr,rfl,h⟩:=h;exact⟨arr,rfl,h⟩
 | .ret [x], .returned _,hf,h=>by
   simp only[R.l8,D.kW,Bool.and_true]at hf
   exact D.kp (fun b hc hn=>⟨rfl,hb b hc hn⟩) x _ hf h
 | .ret (x::y::l), .returned _,hf,h=>by obtain⟨arr,rfl,h⟩:=h;exact⟨arr,rfl,D.l9 (fun b hc hn=>⟨rfl,hb b hc hn⟩) (x::y::l) _ hf h⟩
 | .bK d, .panicked _,hf,h=>by obtain⟨v,rfl,h⟩:=h;exact⟨v,rfl,D.kp (fun b hc hn=>⟨rfl,hb b hc hn⟩) d v hf h⟩
 | .ret [], .panicked _,_,h| .ret [_], .panicked _,_,h| .ret (_::_::_), .panicked _,_,h| .ret [], .outgrown,_,h| .ret [_], .outgrown,_,h| .ret (_::_::_), .outgrown,_,h| .bK _, .returned _,_,h| .bK _, .outgrown,_,h=>h.elim
theorem Ew(hH:au M φ H w){o:Nat->ae}:∀ (vs:List V) (vals:List Value),(∀id∈da o vs,H.o id=(o id).fz)->V.aC (ai M φ H) φ H w vs vals->V.aC (ai M φ H) φ H w (vs.map (Ep o)) vals
 |[],_,_,h=>h
 |v::vs,_,ho,h=>by
  obtain⟨u,us,rfl,h1,h2⟩:=h
  refine⟨u,us,rfl, ?_,Ew hH vs us (fun id aj=>ho id (by simp[da,aj])) h2⟩
  unfold Ep
  split
  ·rename_i x hx
   exact dR hH v x u (fun id aj=>ho id (by simp[da,hx,aj])) hx h1
  ·exact h1
theorem fY:∀ (vs:List V) (vals:List Value) (o:Nat->ae),V.aC (ai M φ H) φ H w vs vals->∀id∈da o vs,H.us id
 |[],_,_,_,j,hj=>by simp[da]at hj
 |v::vs,_,o,h,j,hj=>by
  obtain⟨u,us,rfl,h1,h2⟩:=h
  simp only[da,List.mem_append]at hj
  rcases hj with hj|hj
  ·cases hx:dz o v with
   |none=>simp[hx]at hj
   |some x=>simp only[hx]at hj;exact cC v u h1 j hj
  ·exact fY vs us o h2 j hj
theorem uj(hs:bZ M ct H0 w0 n cx φ s a w){o:Oper}{g:FuncId}{all:List V}{vals:Array Value}(cJ:fX n o.dst)(eS:Enters P g->(execOp a.eval o).run P w= .ok (.enter g vals) w)(aO:V.aC (ai M φ s.H) φ s.H w all vals.toList)
 (h:eI P g all s.o s.nx (fun v o' nx'=>K ⟨aY s.env o.dst v,o',nx'⟩) (fun v o' nx'=>X v ⟨s.env,o',nx'⟩))
 (hN:∀s' ay a' w',K s'->bZ M ct H0 w0 n cx ay s' a' w'->next a' w')
 (hQ:∀v s' ay w' val,X v s'->bZ M ct H0 w0 n cx ay s' a w'->V.den (ai M ay s'.H) ay s'.H w' v val->Q (.panic [{v:=val,recovered:=false}]) a w'):o.uponIn (dJ ro) k P a next Q ((execOp a.eval o).run P w):=by
 have eJ:=h.2 M φ w vals hs.heap aO
 rw[eS h.1]
 refine⟨fun hd=>by simp[dJ]at hd,cX (eJ.mono fun e w' ⟨ay,o',nx',v,k1,k2,k3⟩=> ?_)⟩
 cases e with
 |returned val=>exact hN _ _ _ _ k3.2 (kY hs k1 k2 k3.1 cJ rfl fun id hu=>hu)
 |panicked ch=>
  obtain⟨val,rfl,k4,k5⟩:=k3
  exact hQ _ _ _ _ val k5 (ef hs k1 k2 (o':=o') (nx':=nx') rfl fun id hu=>hu) k4
 |outgrown=>exact k3.elim
theorem xq(hs:bZ M ct H0 w0 n cx φ s a w){o:Oper}{g:FuncId}{all:List V}{vals:Array Value}(cJ:fX n o.dst)(eS:Enters P g->(execOp a.eval o).run P w= .ok (.enter g vals) w)(aO:V.aC (ai M φ s.H) φ s.H w all vals.toList)
 (h:rJ P s g all (fun v o' nx'=>K ⟨aY s.env o.dst v,o',nx'⟩) (fun v o' nx'=>X v ⟨s.env,o',nx'⟩))
 (hN:∀s' ay a' w',K s'->bZ M ct H0 w0 n cx ay s' a' w'->next a' w')
 (hQ:∀v s' ay w' val,X v s'->bZ M ct H0 w0 n cx ay s' a w'->V.den (ai M ay s'.H) ay s'.H w' v val->Q (.panic [{v:=val,recovered:=false}]) a w'):o.uponIn (dJ ro) k P a next Q ((execOp a.eval o).run P w):=by
 unfold rJ at h
 obtain⟨f1,f2,f3,f4,f5⟩:=cG hs.heap (V.a8 all) (cw all _ aO)
 have iA:s.H.put (ck s.H.o (V.a8 all))=⟨put s.o (ck s.o (V.a8 all)),s.H.us⟩:=ku (by rw[mM];exact cw all _ aO)
 have mb:=V.aI f2 _ _ aO
 rcases h with⟨ds,out,eM,hP,hK⟩|⟨ds,out,eM,hP,kS,hK⟩|⟨ds,out,eM,hP,Rv,hK⟩|hC|hC
 ·have tV:=dn f1 all ds _ f3 eM mb
  have hM:∀b,ai M φ (s.H.put (ck s.H.o (V.a8 all))) b->b<w.heap.size:=fun b hb=>hb.elim (f1.tv b) fun hl=>(f1.ours b hl).2
  have eJ:=hP.2 _ w vals hM tV
  rw[eS hP.1]
  refine⟨fun hd=>by simp[dJ]at hd,cX (eJ.mono fun e w' ⟨hk,ho⟩=> ?_)⟩
  obtain⟨k1,k2⟩:=fI f1 hk
  cases out with
  |ret rs=>
   cases e with
   |returned val=>
    refine hN _ _ _ _ hK (kY hs k1 (f2.trans k2) (ky ho) cJ (by rw[iA]) ?_)
    intro id hu;rw[iA]at hu;exact Nat.lt_succ_of_lt hu
   |panicked ch=>cases rs with|nil=>exact ho.elim|cons x l=>cases l<;>exact ho.elim
   |outgrown=>cases rs with|nil=>exact ho.elim|cons x l=>cases l<;>exact ho.elim
  |bK x=>
   cases e with
   |returned val=>exact ho.elim
   |panicked ch=>
    obtain⟨val,rfl,hd⟩:=ho
    have vx:=ef hs k1 (f2.trans k2) (o':=put s.o (ck s.o (V.a8 all))) (nx':=s.nx+1) (by rw[iA]) (fun id hu=>by rw[iA]at hu;exact Nat.lt_succ_of_lt hu)
    refine hQ _ _ _ _ val hK vx ?_
    have e1:ai M φ (S.H ⟨s.env,put s.o (ck s.o (V.a8 all)),s.nx+1⟩)=ai M φ (s.H.put (ck s.H.o (V.a8 all))):=by rw[iA];rfl
    simp only[V.den]
    rw[e1];exact hd
   |outgrown=>exact ho.elim
 ·have tV:=dn f1 all ds _ f3 eM mb
  have hM:∀b,ai M φ (s.H.put (ck s.H.o (V.a8 all))) b->b<w.heap.size:=fun b hb=>hb.elim (f1.tv b) fun hl=>(f1.ours b hl).2
  have eJ:=hP.2 _ w vals hM tV
  rw[eS hP.1]
  refine⟨fun hd=>by simp[dJ]at hd,cX (eJ.mono fun e w' ⟨hk,ho⟩=> ?_)⟩
  obtain⟨k1,k2⟩:=fI hs.heap hk
  have ho:=R.vy (B':=ai M φ s.H) kS ho
  cases out with
  |ret rs=>
   cases e with
   |returned val=>
    exact hN _ _ _ _ hK (kY hs k1 k2 (ky ho) cJ rfl fun id hu=>Nat.lt_succ_of_lt hu)
   |panicked ch=>cases rs with|nil=>exact ho.elim|cons x l=>cases l<;>exact ho.elim
   |outgrown=>cases rs with|nil=>exact ho.elim|cons x l=>cases l<;>exact ho.elim
  |bK x=>
   cases e with
   |returned val=>exact ho.elim
   |panicked ch=>
    obtain⟨val,rfl,hd⟩:=ho
    exact hQ _ _ _ _ val hK (ef hs k1 k2 (o':=s.o) (nx':=s.nx+1) rfl fun id hu=>Nat.lt_succ_of_lt hu) hd
   |outgrown=>exact ho.elim
 ·obtain⟨a1,a2,a3,a4,a5⟩:=cG hs.heap ((V.a8 all).filter fun id=>(s.o id).kq) (fun id aj=>cw all _ aO id (List.mem_filter.1 aj).1)
  have xr:s.H.put (ck s.H.o ((V.a8 all).filter fun id=>(s.o id).kq))=⟨put s.o (qC s.o (V.a8 all)),s.H.us⟩:=by
   rw[GQ]
   exact ku (by rw[mM];exact fun id aj=>cw all _ aO id (List.mem_filter.1 aj).1)
  have tV:=dn f1 all ds _ f3 eM mb
  have hM:∀b,ai M φ (s.H.put (ck s.H.o (V.a8 all))) b->b<w.heap.size:=fun b hb=>hb.elim (f1.tv b) fun hl=>(f1.ours b hl).2
  have eJ:=hP.2 _ w vals hM tV
  rw[eS hP.1]
  refine⟨fun hd=>by simp[dJ]at hd,cX (eJ.mono fun e w' ⟨hk,ho⟩=> ?_)⟩
  obtain⟨k1,k2⟩:=fI a1 hk
  have dT:∀b,nX w' b-> ¬ai M φ (s.H.put (ck s.H.o (V.a8 all))) b-> ¬ai M φ (s.H.put (ck s.H.o ((V.a8 all).filter fun id=>(s.o id).kq))) b:=by
   intro b hc hn hm
   rcases hm with hM|⟨id,hl,hb⟩
   ·exact hn (.inl hM)
   ·by_cases aj:id∈V.a8 all
    ·cases hx:s.H.o id with
     |arr ep ty sz es=>
      rw[a3 id (List.mem_filter.2 ⟨aj,by show(s.H.o id).kq=true;rw[hx];rfl⟩),hx]at hl
      cases hl
     |map kt vt l=>
      have lR:id∉(V.a8 all).filter fun id=>(s.o id).kq:=fun h=>by
       have h2:(s.H.o id).kq=true:=(List.mem_filter.1 h).2
       rw[hx]at h2;cases h2
      have bz:=k1.ok id
      unfold aK at bz
      rw[a4 id lR,hx]at bz
      obtain⟨b',es,clock,g1,g2,_⟩:=bz
      rw[g1]at hb
      injection hb with hb
      subst hb
      obtain⟨cs,ty,fz,hc⟩:=hc
      rw[g2]at hc
      cases hc
     |_=>
      have lR:id∉(V.a8 all).filter fun id=>(s.o id).kq:=fun h=>by
       have h2:(s.H.o id).kq=true:=(List.mem_filter.1 h).2
       rw[hx]at h2;cases h2
      refine hn (.inr ⟨id, ?_,hb⟩)
      rw[a4 id lR,hx]at hl
      rw[f3 id aj,hx]
      exact hl
    ·have lR:id∉(V.a8 all).filter fun id=>(s.o id).kq:=fun h=>aj (List.mem_filter.1 h).1
     refine hn (.inr ⟨id, ?_,hb⟩)
     rw[a4 id lR]at hl
     rw[f4 id aj]
     exact hl
  have ho:=R.Ev (w':=w') (B':=ai M φ (s.H.put (ck s.H.o ((V.a8 all).filter fun id=>(s.o id).kq)))) dT Rv ho
  cases out with
  |ret rs=>
   cases e with
   |returned val=>
    refine hN _ _ _ _ hK (kY hs k1 (a2.trans k2) (ky ho) cJ (by rw[xr]) ?_)
    intro id hu;rw[xr]at hu;exact Nat.lt_succ_of_lt hu
   |panicked ch=>cases rs with|nil=>exact ho.elim|cons x l=>cases l<;>exact ho.elim
   |outgrown=>cases rs with|nil=>exact ho.elim|cons x l=>cases l<;>exact ho.elim
  |bK x=>
   cases e with
   |returned val=>exact ho.elim
   |panicked ch=>
    obtain⟨val,rfl,hd⟩:=ho
    have vx:=ef hs k1 (a2.trans k2) (o':=put s.o (qC s.o (V.a8 all))) (nx':=s.nx+1) (by rw[xr]) (fun id hu=>by rw[xr]at hu;exact Nat.lt_succ_of_lt hu)
    refine hQ _ _ _ _ val hK vx ?_
    have e1:ai M φ (S.H ⟨s.env,put s.o (qC s.o (V.a8 all)),s.nx+1⟩)=ai M φ (s.H.put (ck s.H.o ((V.a8 all).filter fun id=>(s.o id).kq))):=by rw[xr];rfl
    simp only[V.den]
    rw[e1];exact hd
   |outgrown=>exact ho.elim
 ·exact uj hs cJ eS aO hC hN hQ
 ·obtain⟨f1,f2,f3,f4,f5⟩:=cG hs.heap (da s.o all) (fY all _ s.o aO)
  have iA:s.H.put (ck s.H.o (da s.o all))=hp (put s.o (ck s.o (da s.o all))) s.nx:=ku (by rw[mM];exact fY all _ s.o aO)
  have mb:=Ew f1 all _ f3 (V.aI f2 _ _ aO)
  rw[iA]at f1 f2 mb
  exact uj (s:=⟨s.env,put s.o (ck s.o (da s.o all)),s.nx⟩) (ef hs f1 f2 rfl fun id hu=>hu) cJ eS mb hC hN hQ
theorem GR(hs:bZ M ct H0 w0 n cx φ s a w){o:Oper}{c:Call}{f:Operand}(dw:o.op= .call c)(hc:c.callee= .value f)(cJ:fX n o.dst)
 (h:xn P s (s.ev f) (c.args.toList.map s.ev) (fun v o' nx'=>K ⟨aY s.env o.dst v,o',nx'⟩) (fun v o' nx'=>X v ⟨s.env,o',nx'⟩))
 (hN:∀s' ay a' w',K s'->bZ M ct H0 w0 n cx ay s' a' w'->next a' w')
 (hQ:∀v s' ay w' val,X v s'->bZ M ct H0 w0 n cx ay s' a w'->V.den (ai M ay s'.H) ay s'.H w' v val->Q (.panic [{v:=val,recovered:=false}]) a w'):o.wpIn (dJ ro) k P a w next Q:=by
 refine jE (fun c' Cr=>by rw[dw]at Cr;cases Cr) ?_
 have hf:=lV (M:=M) (φ:=φ) (H:=s.H) (w:=w) s a hs.env f
 have ee:=jy (M:=M) (φ:=φ) (H:=s.H) (w:=w) s a hs.env c.args.toList
 unfold xn at h
 split at h
 ·rename_i g first cap rL
  rw[rL]at hf
  obtain⟨fa,ca,JS,zu,Nz⟩:=hf
  have aO:V.aC (ai M φ s.H) φ s.H w (first++c.args.toList.map s.ev++cap) (fa++c.args.map a.eval++ca).toList:=by
   rw[Array.toList_append,Array.toList_append,Array.toList_map]
   exact V.kZ zu ee Nz
  generalize first++c.args.toList.map s.ev++cap=all at h aO
  generalize lI:fa++c.args.map a.eval++ca=vals at aO
  have eS:Enters P g->(execOp a.eval o).run P w= .ok (.enter g vals) w:=by
   intro he
   have:=kx (w:=w) he (fa++c.args.map a.eval++ca)
   rw[lI]at this
   simp[execOp,dw,resolve,hc,JS,Deferred.ofValue,invoke,this,lI]
  exact xq hs cJ eS aO h hN hQ
 ·rename_i id rL
  rw[rL]at hf
  obtain⟨_,dQ,GS⟩:=hf
  obtain⟨a7,hR⟩:=h
  obtain⟨b,du,JS⟩:=GS a7
  obtain⟨fn,tmps,assign,body,h1,h2⟩:=hR M φ w (c.args.map a.eval) b hs.heap (by rw[Array.toList_map];exact ee) du
  have eS:(execOp a.eval o).run P w= .ok (.round b fn tmps assign body) w:=by
   simp[execOp,dw,resolve,hc,JS,Deferred.ofValue,invoke,h1]
  rw[eS]
  refine⟨fun hd=>by simp[dJ]at hd,RoundIn.mono (h2 (k - 1)) fun e w' ⟨ay,o',nx',v,k1,k2,k3⟩=> ?_⟩
  cases e with
  |returned val=>exact hN _ _ _ _ k3.2 (kY hs k1 k2 k3.1 cJ rfl fun id hu=>hu)
  |panicked ch=>
   obtain⟨val,rfl,k4,k5⟩:=k3
   exact hQ _ _ _ _ val k5 (ef hs k1 k2 (o':=o') (nx':=nx') rfl fun id hu=>hu) k4
  |outgrown=>exact k3.elim
 ·exact h.elim
theorem Cs(hs:bZ M ct H0 w0 n cx φ s a w){o:Oper}{c:Call}{r:Operand}{m:String}{g:FuncId}{y:V}(dw:o.op= .call c)(hc:c.callee= .invoke r m)(cJ:fX n o.dst)(hr:xo P m (s.ev r)=some (g,y))
 (h:rJ P s g (y::c.args.toList.map s.ev) (fun v o' nx'=>K ⟨aY s.env o.dst v,o',nx'⟩) (fun v o' nx'=>X v ⟨s.env,o',nx'⟩))
 (hN:∀s' ay a' w',K s'->bZ M ct H0 w0 n cx ay s' a' w'->next a' w')
 (hQ:∀v s' ay w' val,X v s'->bZ M ct H0 w0 n cx ay s' a w'->V.den (ai M ay s'.H) ay s'.H w' v val->Q (.panic [{v:=val,recovered:=false}]) a w'):o.wpIn (dJ ro) k P a w next Q:=by
 refine jE (fun c' Cr=>by rw[dw]at Cr;cases Cr) ?_
 have hf:=lV (M:=M) (φ:=φ) (H:=s.H) (w:=w) s a hs.env r
 have ee:=jy (M:=M) (φ:=φ) (H:=s.H) (w:=w) s a hs.env c.args.toList
 unfold xo at hr
 split at hr
 ·rename_i t d hx
  rw[hx]at hf
  obtain⟨val,hv,hd⟩:=hf
  split at hr
  ·rename_i ti XG
   split at hr
   ·rename_i mr rM
    split at hr
    ·rename_i f Ct
     split at hr
     ·rename_i Ip
      injection hr with hr
      injection hr with h1 h2
      subst h1;subst h2
      refine xq (vals:=#[val]++c.args.map a.eval) hs cJ ?_ ?_ h hN hQ
      ·intro he
       have eS:=kx (w:=w) he (#[val]++c.args.map a.eval)
       have XH:mr.path=#[]:=Array.isEmpty_iff.1 Ip.1
       have hu:∃u,P.underlying t=some u/\∀e,u≠ .pointer e:=by
        have:=Ip.2
        unfold Io at this
        split at this
        ·cases this
        ·rename_i u fS hu;exact⟨u,hu,fun e he=>fS e he⟩
        ·cases this
       obtain⟨u,hu,Iq⟩:=hu
       have hm:(method (P.types.size+Made.depth) t val m).run P w= .ok (f,val) w:=by
        have:P.types.size+Made.depth=(P.types.size+Made.depth - 1)+1:=by simp[Made.depth]
        rw[this]
        cases u<;>first|exact absurd rfl (Iq _)|simp[method,typeInfo,XG,rM,XH,Ct,follow,receiverAt,run_underlying hu,_root_.Go.Place.get]
       have h0:(#[Value.iface t val]++Array.map a.eval c.args)[0]? =some (.iface t val):=by
        rw[Array.getElem?_append_left (by simp)];rfl
       have h1:(Array.map a.eval c.args).extract 0 c.args.size=Array.map a.eval c.args:=by
        rw[show c.args.size=(Array.map a.eval c.args).size from by simp,Array.extract_size]
       simp[execOp,dw,resolve,hc,invoke,callMethod,hv,h0,h1,hm,eS]
      ·simp only[Array.toList_append,Array.toList_map]
       exact⟨val,_,rfl,hd,ee⟩
     ·cases hr
    ·cases hr
   ·cases hr
  ·cases hr
 ·cases hr
theorem uk(hs:bZ M ct H0 w0 n cx φ s a w){o:Oper}(h:SB P n s o X K)
 (hN:∀s' ay a' w',K s'->bZ M ct H0 w0 n cx ay s' a' w'->next a' w')
 (hQ:∀v s' ay w' val,X v s'->bZ M ct H0 w0 n cx ay s' a w'->V.den (ai M ay s'.H) ay s'.H w' v val->Q (.panic [{v:=val,recovered:=false}]) a w'):o.wpIn (dJ ro) k P a w next Q:=by
 obtain⟨cJ,h⟩:=h
 split at h
 ·rename_i c dw
  split at h
  ·rename_i f hc
   exact GR hs dw hc cJ h hN hQ
  ·rename_i r m hc
   split at h
   ·rename_i g y hr;exact Cs hs dw hc cJ hr h hN hQ
   ·exact h.elim
  ·exact Eu hs rfl cJ h hN
 ·rename_i x dw
  have hx:=lV (M:=M) (φ:=φ) (H:=s.H) (w:=w) s a hs.env x
  have bK:∀ (t:TypeId) (u:Value),a.eval x= .iface t u->Q (.panic [{v:= .iface t u,recovered:=false}]) a w->o.wpIn (dJ ro) k P a w next Q:=by
   intro t u hu hq
   refine jE (fun c hc=>by rw[dw]at hc;cases hc) ?_
   have hr:(execOp a.eval o).run P w= .halt (.panic (.iface t u)) w:=by simp[execOp,dw,hu,Instr.panic]
   rw[hr];exact hq
  split at h
  ·rename_i t y hv
   rw[hv]at hx
   obtain⟨u,hu,hd⟩:=hx
   exact bK t u hu (hQ _ s φ w (.iface t u) h hs ⟨u,rfl,hd⟩)
  ·rename_i t y hv
   rw[hv]at hx
   obtain⟨u,hu,hd⟩:=hx
   exact bK t u hu (hQ _ s φ w (.iface t u) h hs ⟨u,rfl,hd⟩)
  ·exact h.elim
 ·exact Eu hs rfl cJ h hN
end
end Go.Proofs.YtealblliddhgiaaGreat
namespace Go
def Code.rN (P:Program)(ro:Option Nat)(c:Code)(Q:Exit->Act->World->Prop)(a:Act)(w:World):Prop:=
 ∀ (b:Frame) (k:List Item) (cs:List Frame),b.roundOf=ro->b.fn<P.funcs.size->
   ∃e a' w',Q e a' w'/\ArrivesIn (Machine.fenced P (Proofs.YtealblliddhgiaaGreat.dJ ro)) P (lone (b.atR a (.code c::k)) cs w) b k cs e a' w'
end Go
namespace Go.Proofs.YtealblliddhgiaaGreat
instance:LawfulMonad Sem:=LawfulMonad.mk' Sem (id_map:=fun x=>Sem.bind_pure' x) (pure_bind:=fun _ _=>rfl) (bind_assoc:=fun x f g=>Sem.bind_assoc' x f g)
section
variable {P:Program}{M:Nat->Prop}{φ:Place}{H:Hp}{w w':World}{ct:Place}{H0:Hp}{w0:World}{n b:Nat}{s:S}{a:Act}{cx:Cx}{ro:Option Nat}{k:Nat}
theorem oD(hs:bZ M ct H0 w0 n cx φ s a w){ops:Array Oper}{o:Oper}{A B:Prop}(h:vu s ops o.guard A B):
 (Region.wanted o (yielded ops a.tmps)=true->A)/\(Region.wanted o (yielded ops a.tmps)=false->B):=by
 unfold vu at h
 unfold Region.wanted
 split at h
 ·rename_i hg;simp only[hg];exact⟨fun _=>h,fun h=>by cases h⟩
 ·rename_i j want hg
  simp only[hg]
  unfold p7 at h
  unfold yielded
  split at h
  ·rename_i d hd
   simp only[hd,Option.bind_some]
   have dv:=hs.env d
   split at h
   ·rename_i c hv
    rw[hv]at dv
    simp only[V.den,D.den]at dv
    have:a.tmps[d]? =some (.bool c):=by
     rw[Array.getD_eq_getD_getElem?]at dv
     cases hx:a.tmps[d]? with
     |none=>rw[hx]at dv;simp[undef]at dv
     |some x=>rw[hx]at dv;simp at dv;rw[dv]
    simp only[this]
    by_cases hc:c=want
    ·subst hc;exact⟨fun _=>h.1 rfl,fun h=>by simp at h⟩
    ·exact⟨fun h'=>absurd (by simpa using h') hc,fun _=>h.2 hc⟩
   ·rename_i hv
    rw[hv]at dv
    obtain⟨arr,cz,hn⟩:=dv
    simp only[V.aC]at hn
    have:∀c,a.tmps[d]? ≠some (.bool c):=by
     intro c hx
     rw[Array.getD_eq_getD_getElem?,hx]at cz
     simp at cz
    cases hx:a.tmps[d]? with
    |none=>exact⟨fun h=>by simp at h,fun _=>h⟩
    |some x=>cases x<;>first|(exact absurd hx (this _))|(exact⟨fun h=>by simp at h,fun _=>h⟩)
   ·exact h.elim
  ·rename_i hd
   simp only[hd,Option.bind_none]
   exact⟨fun h=>by simp at h,fun _=>h⟩
theorem xu(hs:bZ M ct H0 w0 n cx φ s a w){dst:Option Tmp}(cJ:fX n dst):bZ M ct H0 w0 n cx φ ⟨aY s.env dst (.bT []),s.o,s.nx+1⟩ (a.put dst undef) w:=
 kY (v:= .bT []) (val:=undef) hs hs.heap (Trans.refl _ _ _) ⟨#[],rfl,rfl⟩ cJ rfl fun _ hu=>Nat.lt_succ_of_lt hu
theorem nC{ops:Array Oper}{X:V->S->Prop}{K:S->Prop}{Q:Exit->Act->World->Prop}
 (hK:∀s φ a w,K s->bZ M ct H0 w0 n cx φ s a w->Q .normal a w)
 (hQ:∀v s' ay a w' val,X v s'->bZ M ct H0 w0 n cx ay s' a w'->V.den (ai M ay s'.H) ay s'.H w' v val->Q (.panic [{v:=val,recovered:=false}]) a w'):
 ∀ (l:List Oper) (s:S) (φ:Place) (a:Act) (w:World),vw P n ops X K l s->bZ M ct H0 w0 n cx φ s a w->wpListIn (dJ ro) k P ops Q l a w
 |[],s,φ,a,w,h,hs=>hK s φ a w h hs
 |o::l,s,φ,a,w,h,hs=>by
  obtain⟨h1,h2⟩:=oD hs h
  unfold wpListIn
  split
  ·rename_i hw
   exact uk hs (h1 hw) (fun s' ay a' w' hk ij=>nC hK hQ l s' ay a' w' hk ij) (fun v s' ay w' val hx ij hd=>hQ v s' ay a w' val hx ij hd)
  ·rename_i hw
   obtain⟨cJ,h3⟩:=h2 (by simpa using hw)
   exact⟨fun _ _=>trivial,nC hK hQ l _ _ _ _ h3 (xu hs cJ)⟩
def A8(M:Nat->Prop)(ct:Place)(H0:Hp)(w0:World)(n:Nat)(cx:Cx)(Q:e9->S->Prop)(e:Exit)(a:Act)(w:World):Prop:=
 ∃x s φ,Q x s/\bZ M ct H0 w0 n cx φ s a w/\match e,x with
  | .normal, .normal=>True
  | .exit i, .exit j=>i=j
  | .ret, .ret=>True
  | .panic ch, .bK v=>∃val,ch=[{v:=val,recovered:=false}]/\V.den (ai M φ s.H) φ s.H w v val
  |_,_=>False
section
variable {Q:Exit->Act->World->Prop}
theorem fZ{m:Nat}:(dJ ro).room m:=fun d hd=>by simp[dJ]at hd
theorem nD{c:Code}(h:c.wpIn (dJ ro) k P Q a w):c.rN P ro Q a w:=fun b k cs rM _=>h b k cs rM trivial fZ
theorem gf{c:Code}{Q':Exit->Act->World->Prop}(h:c.rN P ro Q a w)(hq:∀e a w,Q e a w->Q' e a w):c.rN P ro Q' a w:=
 fun b k cs rM hb=>let⟨e,a',w',q,r⟩:=h b k cs rM hb;⟨e,a',w',hq _ _ _ q,r⟩
theorem A9(h:Q .ret a w):Code.ret.rN P ro Q a w:=nD (k:=0) (wpIn_ret h)
theorem xw{id:Nat}(h:Q (.exit id) a w):(Code.exit id).rN P ro Q a w:=nD (k:=0) (wpIn_exit h)
theorem vz{x y:Code}(h:x.rN P ro (Exit.then (y.rN P ro Q) Q) a w):(Code.seq x y).rN P ro Q a w:=by
 intro b k cs rM hb
 have h0:(lone (b.atR a (.code (.seq x y)::k)) cs w).fenced P (dJ ro):=fenced_calm (n:=0) trivial fZ rfl
 obtain⟨e,iG,fA,hq,cz⟩:=h b (.code y::k) cs rM hb
 cases e with
 |normal=>
  obtain⟨JT,NA,pG,oE,jF⟩:=hq b k cs rM hb
  exact⟨JT,NA,pG,oE, .of_steps (.head h0 stepR_seq cz) jF⟩
 |exit id=>exact⟨_,iG,fA,hq, .of_steps (.one h0 stepR_seq) (.pass (x:= .code y) rfl (fun _ _=> .inl (by simp)) cz)⟩
 |goto l=>exact⟨_,iG,fA,hq, .of_steps (.one h0 stepR_seq) (.pass (x:= .code y) rfl (fun _ _=> .inl (by simp)) cz)⟩
 |ret=>exact⟨_,iG,fA,hq, .of_steps (.one h0 stepR_seq) (.pass (x:= .code y) rfl (fun _ _=> .inl (by simp)) cz)⟩
 |panic ch=>exact⟨_,iG,fA,hq, .of_steps (.one h0 stepR_seq) (.pass (x:= .code y) rfl (fun _ _=> .inl (by simp)) cz)⟩
 |outgrown=>exact⟨_,iG,fA,hq, .of_steps (.one h0 stepR_seq) (.pass (x:= .code y) rfl (fun _ _=> .inl (by simp)) cz)⟩
theorem oF{c:Operand}{x y:Code}{t:Bool}(hc:a.eval c= .bool t)(h:(if t then x else y).rN P ro Q a w):(Code.cond c x y).rN P ro Q a w:=
 fun b k cs rM hb=>let⟨e,a',w',q,r⟩:=h b k cs rM hb;⟨e,a',w',q, .of_steps (.one (fenced_calm (n:=0) trivial fZ rfl) (stepR_cond hc)) r⟩
theorem Cu{id:Nat}{c:Code}(h:c.rN P ro (Exit.inBlock id Q) a w):(Code.block id c).rN P ro Q a w:=by
 intro b k cs rM hb
 have h0:(lone (b.atR a (.code (.block id c)::k)) cs w).fenced P (dJ ro):=fenced_calm (n:=0) trivial fZ rfl
 obtain⟨e,iG,fA,hq,cz⟩:=h b (.inBlock id::k) cs rM hb
 cases e with
 |normal=>exact⟨.normal,iG,fA,hq, .head h0 stepR_block (StepsIn.trans cz (.one (fenced_calm (n:=0) trivial fZ rfl) stepR_inBlock))⟩
 |exit cM=>
  by_cases aj:cM=id
  ·simp only[Exit.inBlock,aj,if_true]at hq
   exact⟨.normal,iG,fA,hq, .head h0 stepR_block (cz.1 k (by simp[exitTo,aj]))⟩
  ·simp only[Exit.inBlock,aj,if_false]at hq
   have this:(id==cM)=false:=by simp;exact fun h=>aj h.symm
   have hx:exitTo cM (.inBlock id::k)=exitTo cM k:=by simp[exitTo,this]
   exact⟨.exit cM,iG,fA,hq,fun k' hk=> .head h0 stepR_block (cz.1 k' (by rw[hx];exact hk)),
    fun Co hk=>let⟨k₁,h1,h2⟩:=cz.2 Co (by rw[hx];exact hk);⟨k₁,h1, .head h0 stepR_block h2⟩⟩
 |goto l=>
  have hx:gotoIn l (.inBlock id::k)=gotoIn l k:=by simp[gotoIn]
  exact⟨_,iG,fA,hq,fun k' hk=> .head h0 stepR_block (cz.1 k' (by rw[hx];exact hk)),
   fun Co hk=>let⟨k₁,h1,h2⟩:=cz.2 Co (by rw[hx];exact hk);⟨k₁,h1, .head h0 stepR_block h2⟩⟩
 |ret=>exact⟨_,iG,fA,hq, .of_steps (.one h0 stepR_block) cz⟩
 |panic ch=>exact⟨_,iG,fA,hq, .of_steps (.one h0 stepR_block) cz⟩
 |outgrown=>exact⟨_,iG,fA,hq, .of_steps (.one h0 stepR_block) cz⟩
theorem fK{b:Frame}{k:List Item}{cs:List Frame}{c:Code}:step P (lone (b.atR a (.code (.scope c)::k)) cs w)= .next (lone (b.atR a (.code c:: .inScope c::k)) cs w):=
 step_lone_go (by simp[stepG,stepG.exec,Frame.atR])
theorem tE{b:Frame}{k:List Item}{cs:List Frame}{c:Code}:step P (lone (b.atR a (.inScope c::k)) cs w)= .next (lone (b.atR a k) cs w):=
 step_lone_go (by simp[stepG,stepG.exec,Frame.atR])
theorem Cv{c:Code}(h:c.rN P ro Q a w)(hg:∀l a w, ¬Q (.goto l) a w):(Code.scope c).rN P ro Q a w:=by
 intro b k cs rM hb
 have h0:(lone (b.atR a (.code (.scope c)::k)) cs w).fenced P (dJ ro):=fenced_calm (n:=0) trivial fZ rfl
 obtain⟨e,iG,fA,hq,cz⟩:=h b (.inScope c::k) cs rM hb
 cases e with
 |normal=>exact⟨.normal,iG,fA,hq, .head h0 fK (StepsIn.trans cz (.one (fenced_calm (n:=0) trivial fZ rfl) tE))⟩
 |exit cM=>
  have hx:exitTo cM (.inScope c::k)=exitTo cM k:=by simp[exitTo]
  exact⟨.exit cM,iG,fA,hq,fun k' hk=> .head h0 fK (cz.1 k' (by rw[hx];exact hk)),
   fun Co hk=>let⟨k₁,h1,h2⟩:=cz.2 Co (by rw[hx];exact hk);⟨k₁,h1, .head h0 fK h2⟩⟩
 |goto l=>exact(hg _ _ _ hq).elim
 |ret=>exact⟨_,iG,fA,hq, .of_steps (.one h0 fK) cz⟩
 |panic ch=>exact⟨_,iG,fA,hq, .of_steps (.one h0 fK) cz⟩
 |outgrown=>exact⟨_,iG,fA,hq, .of_steps (.one h0 fK) cz⟩
def rO(P:Program)(l:Nat)(Q:Exit->Act->World->Prop)(a':Act):Ending->World->Prop
 | .returned _,zI=>∃jump qG,(Instr.endLoop l).run P zI= .ok jump qG/\(match jump with|none=>Q .normal a' qG|some c=>c.rN P none Q a' qG)
 | .panicked chain,zI=>Q (.panic chain) a' zI
 | .outgrown,_=>LetsOut Q
theorem tF{g:Operand}{ps:Array Tmp}{assign body:Code}
 (h:∀fn,fn<P.funcs.size->∃ (l:Nat) (mark:List Deferred) (fA:World) (d:Deferred) (um:World) (f:FuncId) (args:Array Value) (pG:World),
  (Instr.enterLoop fn a.tmps ps assign body (dJ none).round).run P w= .ok (l,mark) fA/\(resolve a.eval (rangeCall g l) 0).run P fA= .ok d um/\
  (invoke d.target d.args).run P um= .ok (.enter f args) pG/\CallsIn (dJ none) 0 P f args pG (rO P l Q {a with defers:=mark++a.defers})):
 (Code.rangeFunc g ps assign body).rN P none Q a w:=by
 intro b k cs rM hb
 obtain⟨l,mark,fA,d,um,f,args,pG,he,qH,hinv,hF,eJ⟩:=h b.fn hb
 rw[show(dJ none).round=b.roundOf from rM.symm]at he
 have calm:∀ (m:Machine),m.fenced P (dJ none)↔m.fenced P Fence.wide:=fun m=>Iff.rfl
 have h0:(lone (b.atR a (.code (.rangeFunc g ps assign body)::k)) cs w).fenced P (dJ none):=(calm _).2 (fenced_wide P _)
 have la:=stepR_rangeFunc (P:=P) (b:=b) (a:=a) (k:=k) (cs:=cs) (w:=w) he qH hinv
 obtain⟨e,zI,fr,hR,zJ,Ct,Ex⟩:=eJ (b.atR {a with defers:=mark++a.defers} (.inRangeFunc l::k)::cs) fZ
 cases e with
 |outgrown=>
  obtain⟨SC,SD,hq⟩:=hR
  exact⟨.outgrown,SC,SD,hq, .inr (Outgrown.of_steps (.one la) zJ)⟩
 |returned v=>
  obtain⟨jump,qG,gC,hj⟩:=hR
  have Ir:StepsIn (Machine.fenced P (dJ none)) P (lone (b.atR a (.code (.rangeFunc g ps assign body)::k)) cs w) (lone (b.atR {a with defers:=mark++a.defers} ((jump.map Item.code).toList++k)) cs qG):=by
   refine .head h0 la (StepsIn.trans zJ (.head ((calm _).2 (fenced_wide P _)) ?_ (.one ((calm _).2 (fenced_wide P _)) (stepR_endRangeFunc gC))))
   rw[<- finish_atR_inRangeFunc l v];exact step_leave_returned Ex
  cases jump with
  |none=>exact⟨.normal,_,qG,hj,Ir⟩
  |some c=>
   obtain⟨e',XI,SE,hq,cz⟩:=hj b k cs rM hb
   exact⟨e',XI,SE,hq, .of_steps Ir cz⟩
 |panicked chain=>
  refine⟨.panic chain,_,zI,hR, .inRangeFunc l::k, .head h0 la (StepsIn.trans zJ (.one ((calm _).2 (fenced_wide P _)) ?_))⟩
  rw[<- Frame.raise_atR];exact step_leave_panicked Ex
end
theorem uo(hH:au M φ H w){id l:Nat}(dQ:H.us id){nf m:Nat}{env:List V}{ps:List Nat}{lO gU:IC}{st st':LoopState}{pd pd':Option ka}(ho:H.o id= .loop nf m env ps lO gU st pd)(du:φ id= .pointer (some ⟨l,0,none⟩)):
 ∃r,w.heap[l]? =some (.loop r)/\r.state=st/\r.pending=pd.map ka.code/\
  au M φ (H.put [(id, .loop nf m env ps lO gU st' pd')]) {w with heap:=w.heap.setIfInBounds l (.loop {r with state:=st',pending:=pd'.map ka.code})}/\
  Trans φ H w φ (H.put [(id, .loop nf m env ps lO gU st' pd')]) {w with heap:=w.heap.setIfInBounds l (.loop {r with state:=st',pending:=pd'.map ka.code})}:=by
 have bz:=hH.ok id
 simp only[aK,ho]at bz
 obtain⟨b,r,h1,h2,h0,h3,h4,h5,h6,h7,h8,h9⟩:=bz
 rw[du]at h1;simp at h1;subst h1
 refine⟨r,h2,h3,h4, ?_⟩
 have Ek:eF (· =l) w {w with heap:=w.heap.setIfInBounds l (.loop {r with state:=st',pending:=pd'.map ka.code})}:=
  ⟨rfl,rfl,rfl,by simp,fun j _ hj=>(MapKept.heap_set h2).2 j hj⟩
 have vm:(H.o id).live=true:=by rw[ho];rfl
 have Cm:eC (φ id)=some l:=by rw[du];rfl
 have ht:=fw (w:=w) (w':={w with heap:=w.heap.setIfInBounds l (.loop {r with state:=st',pending:=pd'.map ka.code})}) dQ vm Cm Ek (.loop nf m env ps lO gU st' pd') (by rw[ho];rfl) (by rw[ho];rfl)
 refine⟨iO hH dQ vm Cm Ek _ (by rw[ho];rfl) (by rw[ho];rfl) ?_,ht⟩
 unfold aK
 simp only[bC,aL,if_true]
 exact⟨l,_,du,(MapKept.heap_set h2).1,h0,rfl,rfl,h5,h6,h7,h8,fun i=>V.aA ht _ _ (h9 i)⟩
theorem ik{l:Nat}{r:Loop}(o:Obj)(hb:w.heap[l]? =some (.loop r)):(setObj l o).run P w= .ok () {w with heap:=w.heap.setIfInBounds l o}:=by
 simp[setObj,Sem.run,hb]
theorem jG{l:Nat}{r:Loop}(hb:w.heap[l]? =some (.loop r)):(Instr.getLoop l).run P w= .ok r w:=by
 simp[Instr.getLoop,getObj,Sem.run,hb,Result.andThen]
end
def vA(Q:e9->S->Prop)(pd:Option ka)(s:S):Prop:=
 match pd with
 |none=>Q .normal s
 |some .ret=>Q .ret s
 |some (.exit id)=>Q (.exit id) s
def xy(P:Program)(n:Nat)(g:V)(ps:List Nat)(lO gU:IC)(Q:e9->S->Prop)(s:S):Prop:=
 ∃env,(∀i,bF env i= .aa\/bF env i=s.env i)/\
  match g with
  | .func (.func f) first cap=>ma P f (first++[.ke s.nx]++cap) (ao s.o s.nx (.loop P.funcs.size n env ps lO gU .ready none)) (s.nx+1)
    (fun _ o' nx'=>∃nf m e p c d st pd,o' s.nx= .loop nf m e p c d st pd/\st≠ .busy/\vA Q pd ⟨s.env,ao o' s.nx (.loop nf m e p c d .exhausted pd),nx'⟩)
    (fun v o' nx'=>Q (.bK v) ⟨s.env,o',nx'⟩)
  |_=>False
def iy(P:Program)(n b:Nat)(rd:Bool):Code->(e9->S->Prop)->S->Prop
 | .skip,Q,s=>Q .normal s
 | .label _,Q,s=>Q .normal s
 | .scope x,Q,s=>iy P n b rd x Q s
 | .region _ ops false,Q,s=>vw P n ops (fun v s=>Q (.bK v) s) (Q .normal) ops.toList s
 | .region id ops true,Q,s=>∀M ct H0 w0 cx φ a w ro k,bZ M ct H0 w0 n cx φ s a w->(Code.region id ops true).wpIn (dJ ro) k P (A8 M ct H0 w0 n cx Q) a w
 | .seq x y,Q,s=>iy P n b rd x (oC (iy P n b rd y Q) Q) s
 | .cond c x y,Q,s=>match s.ev c with
   | .d (.bool t)=>(t=true->iy P n b rd x Q s)/\(t=false->iy P n b rd y Q s)
   | .eO=>iy P n b rd x Q s/\iy P n b rd y Q s
   |_=>False
 | .block id x,Q,s=>iy P n b rd x (eW id Q) s
 | .loop x,Q,s=>∃ (J:Nat->S->Prop),(∃m s1,cq b s s1/\J m s1)/\∀m s0,J m s0->iy P n b rd x (fun e s=>match e with| .normal=>∃m' s1,m'<m/\cq b s s1/\J m' s1|e=>Q e s) s0
 | .exit id,Q,s=>Q (.exit id) s
 | .ret,Q,s=>Q .ret s
 | .rangeFunc g ps x y,Q,s=>rd=false/\xy P n (s.ev g) ps.toList (low n x) (low n y) Q s
 |_,_,_=>False
section
variable {P:Program}{M:Nat->Prop}{φ:Place}{H:Hp}{w w':World}{ct:Place}{H0:Hp}{w0:World}{n b:Nat}{s:S}{a:Act}{cx:Cx}{ro:Option Nat}{k:Nat}
theorem Ey(hb:∀id,H0.us id->id<b)(hs:bZ M ct H0 w0 n cx φ s a w){s':S}(h:cq b s s'):∃ay,bZ M ct H0 w0 n cx ay s' a w:=by
 obtain⟨ay,h1,h2,h3,h4,h5,h6⟩:=h M φ w (fun i=>a.tmps.getD i undef) hs.heap hs.env
 refine⟨ay,h1,⟨hs.tr.b8,fun k hk=>hs.tr.grow k (h3 k hk),⟨fun id hu=>Nat.lt_of_lt_of_le (hb id hu) h4,fun id hu hr=> ?_,fun id e' hu he=> ?_⟩⟩,hs.size, ?_,h2⟩
 ·obtain⟨g1,g2⟩:=h5 id (hb id hu) hr
  obtain⟨g3,g4⟩:=hs.tr.rel.row id hu g1
  exact⟨g3,g2.trans g4⟩
 ·obtain⟨e,g1,g2,g3⟩:=h6 id e' (hb id hu) he
  obtain⟨e0,k1,k2,k3⟩:=hs.tr.rel.ep id e hu g1
  refine⟨e0,k1,Nat.le_trans k2 g2,fun heq=> ?_⟩
  have a1:e0=e:=by omega
  have a2:e=e':=by omega
  exact(g3 a2).trans (k3 a1)
 ·obtain⟨ms,g1,g2,g3,g4⟩:=hs.defers
  exact⟨ms,g1,g2,g3,fun r hr=>⟨(g4 r hr).1,(g4 r hr).2.1,fun hl=>(g4 r hr).2.2 (h3 r hl)⟩⟩
theorem vB{c:Code}{Q:Exit->Act->World->Prop}(J:Nat->Act->World->Prop)(round:∀m a w,J m a w->c.rN P ro (Exit.then (fun a' w'=>∃m',m'<m/\J m' a' w') Q) a w):
 ∀m a w,J m a w->(Code.loop c).rN P ro Q a w:=by
 intro m a w h0 fr kk cs rM hb
 have hr:(dJ ro).room (cs.length+1+0):=fun d hd=>by simp[dJ]at hd
 have key:∀m a w,J m a w->∃e a' w',Q e a' w'/\ArrivesIn (Machine.fenced P (dJ ro)) P (lone (fr.atR a (.code c:: .inLoop c::kk)) cs w) fr kk cs e a' w':=by
  intro m
  induction m using Nat.strongRecOn with
  |_ m ih=>
   intro a w hJ
   obtain⟨e,a1,w1,hq,cz⟩:=round m a w hJ fr (.inLoop c::kk) cs rM hb
   cases e with
   |normal=>
    obtain⟨m',bL,XJ⟩:=hq
    obtain⟨e2,a2,w2,L5,Ba⟩:=ih m' bL a1 w1 XJ
    exact⟨e2,a2,w2,L5, .of_steps (StepsIn.trans cz (.one (fenced_calm trivial hr rfl) stepR_inLoop)) Ba⟩
   |_=>exact⟨_,a1,w1,hq, .pass (x:= .inLoop c) rfl (fun _ _=> .inl (by simp)) cz⟩
 obtain⟨e,a',w',hq,cz⟩:=key m a w h0
 exact⟨e,a',w',hq, .of_steps (.one (fenced_calm trivial hr rfl) stepR_loop) cz⟩
theorem Cw(hs:bZ M ct H0 w0 n cx φ s a w)(lZ:cx.rd=false)(rM:ro=none){g:Operand}{ps:Array Tmp}{x y:Code}{Q:e9->S->Prop}(h:xy P n (s.ev g) ps.toList (low n x) (low n y) Q s):
 (Code.rangeFunc g ps x y).rN P ro (A8 M ct H0 w0 n cx Q) a w:=by
 subst rM
 obtain⟨env,dv,h⟩:=h
 refine tF fun fn Ct=> ?_
 let zK:Loop:={state:= .ready,pending:=none,fn:=fn,tmps:=a.tmps,params:=ps,assign:=x,body:=y,defers:=w.heap.size}
 let w1:World:=(w.alloc (.deferred (some []))).alloc (.loop zK)
 let l:Nat:=w.heap.size+1
 have la:(Instr.enterLoop fn a.tmps ps x y (dJ none).round).run P w= .ok (l,[mark w.heap.size]) w1:=by
  simp[Instr.enterLoop,dJ,mark,w1,l,zK]
 have Is:eF (fun _=>False) w w1:=by
  have k1:=cV w (.deferred (some []))
  have k2:=cV (w.alloc (.deferred (some []))) (.loop zK)
  exact⟨k2.os.trans k1.os,k2.tape.trans k1.tape,k2.output.trans k1.output,Nat.le_trans k1.size k2.size,fun j hj hm=>(k2.block j (Nat.lt_of_lt_of_le hj k1.size) hm).trans (k1.block j hj hm)⟩
 let hZ:=ao φ s.nx (.pointer (some ⟨l,0,none⟩))
 let s1:S:=⟨s.env,ao s.o s.nx (.loop P.funcs.size n env ps.toList (low n x) (low n y) .ready none),s.nx+1⟩
 have cU: ¬s.H.us s.nx:=by simp[S.H]
 have dP:∀b,eC (.pointer (some ⟨l,0,none⟩))=some b->w.heap.size<=b/\b<w1.heap.size:=by
  intro b hb;simp[eC]at hb;subst hb;simp[l,w1]
 have wL:=eQ (φ:=φ) (H:=s.H) Is cU (.loop P.funcs.size n env ps.toList (low n x) (low n y) .ready none) (.pointer (some ⟨l,0,none⟩)) fun b hb=>(dP b hb).1
 have GM:(w.alloc (.deferred (some []))).heap.size=w.heap.size+1:=by simp
 have vm:w1.heap[l]? =some (.loop zK):=by
  have:=heap_alloc_new (w.alloc (.deferred (some []))) (.loop zK)
  rwa [GM]at this
 have JU:=jd hs.heap Is cU (.loop P.funcs.size n env ps.toList (low n x) (low n y) .ready none) (.pointer (some ⟨l,0,none⟩)) dP (by
  unfold aK
  simp only[bC,aL,if_true]
  refine⟨l,zK,rfl,vm,Ct,rfl,rfl,rfl,hs.size,rfl,rfl,fun i=> ?_⟩
  rcases dv i with e|e
  ·rw[e];trivial
  ·rw[e];exact V.aA wL _ _ (hs.env i))
 have uq:bZ M ct H0 w0 n cx hZ s1 {a with defers:=mark w.heap.size::a.defers} w1:=by
  have base:=ef hs JU wL (o':=ao s.o s.nx (.loop P.funcs.size n env ps.toList (low n x) (low n y) .ready none)) (nx':=s.nx+1) rfl (Et fun id aj=>by simp at aj;exact .inr aj)
  refine⟨base.heap,base.tr,base.size, ?_,base.env⟩
  obtain⟨ms,g1,g2,g3,g4⟩:=base.defers
  obtain⟨SF,q1,q2,q3,q4⟩:=hs.defers
  have XK:ms.map mark=SF.map mark:=by
   have:ms.map mark++cx.base=SF.map mark++cx.base:=g1.symm.trans q1
   exact List.append_cancel_right this
  have vC:ms=SF:=by
   have hm:∀a b,mark a=mark b->a=b:=fun a b h=>by simpa[mark]using h
   exact List.map_inj_right hm |>.1 XK
  refine⟨w.heap.size::ms,by rw[g1];rfl,List.nodup_cons.2 ⟨fun hm=> ?_,g2⟩,(fun h=>by rw[lZ]at h;cases h),fun r hr=> ?_⟩
  ·have:=(q4 w.heap.size (vC ▸ hm)).2.1
   rw[Array.getElem?_eq_none (Nat.le_refl _)]at this;cases this
  ·rcases List.mem_cons.1 hr with rfl|hr
   ·refine⟨hs.tr.b8.size,(RowKit.Below.heap_alloc (w.alloc (.deferred (some []))) (.loop zK) w.heap.size (by rw[GM];omega)).trans (heap_alloc_new w _), ?_⟩
    rintro⟨id,i1,i2⟩
    by_cases e:id=s.nx
    ·subst e;simp[hZ,eC,l]at i2
    ·have XL:(s.H.o id).live=true:=by simpa[s1,S.H,e]using i1
     have XM:eC (φ id)=some w.heap.size:=by simpa[hZ,e]using i2
     have:=(hs.heap.ours _ ⟨id,XL,XM⟩).2
     omega
   ·exact g4 r hr
 have SG:V.den (ai M hZ s1.H) hZ s1.H w1 (.ke s.nx) (.func (.yield l) #[] #[]):=
  ⟨rfl,by simp[s1,S.H],fun _=>⟨l,by simp[hZ],rfl⟩⟩
 have hg:=lV (M:=M) (φ:=hZ) (H:=s1.H) (w:=w1) s1 {a with defers:=mark w.heap.size::a.defers} uq.env g
 have SH:s1.ev g=s.ev g:=by cases g<;>rfl
 rw[SH]at hg
 have XN:({a with defers:=mark w.heap.size::a.defers}:Act).eval g=a.eval g:=rfl
 rw[XN]at hg
 split at h
 ·rename_i f first cap XO
  rw[XO]at hg
  obtain⟨fa,ca,JS,zu,Nz⟩:=hg
  have fin:∀ (all:List V) (o2:Nat->ae) (s2:S),s2=⟨s.env,o2,s.nx+1⟩->bZ M ct H0 w0 n cx hZ s2 {a with defers:=mark w.heap.size::a.defers} w1->V.aC (ai M hZ s2.H) hZ s2.H w1 all (fa++#[Value.func (.yield l) #[] #[]]++ca).toList->(o2 s.nx).bN=true->
   eI P f all o2 (s.nx+1) (fun _ o' nx'=>∃nf m e p c d st pd,o' s.nx= .loop nf m e p c d st pd/\st≠ .busy/\vA Q pd ⟨s.env,ao o' s.nx (.loop nf m e p c d .exhausted pd),nx'⟩) (fun v o' nx'=>Q (.bK v) ⟨s.env,o',nx'⟩)->
   ∃ (l:Nat) (mark:List Deferred) (fA:World) (d:Deferred) (um:World) (f:FuncId) (args:Array Value) (pG:World),
     (Instr.enterLoop fn a.tmps ps x y (dJ none).round).run P w= .ok (l,mark) fA/\(resolve a.eval (rangeCall g l) 0).run P fA= .ok d um/\
     (invoke d.target d.args).run P um= .ok (.enter f args) pG/\CallsIn (dJ none) 0 P f args pG (rO P l (A8 M ct H0 w0 n cx Q) {a with defers:=mark++a.defers}):=by
   intro all o2 s2 SI Gt aO a7 hC
   subst SI
   have eJ:=hC.2 M hZ w1 _ Gt.heap aO
   refine⟨l,[mark w.heap.size],w1,{target:= .fn (.func f) ca,args:=fa++#[Value.func (.yield l) #[] #[]]},w1,f,fa++#[Value.func (.yield l) #[] #[]]++ca,w1,la, ?_, ?_,cX (eJ.mono fun e w' ⟨ay,o',nx',v,k1,k2,k3⟩=> ?_)⟩
   ·simp only[resolve,JS,Deferred.ofValue,List.map_toArray,List.map_cons,List.map_nil,Sem.run_pure]
    rfl
   ·simp[invoke,kx hC.1]
   ·cases e with
    |returned val=>
     obtain⟨k4,nf,m,e,p,c,d,st,pd,k5,k6,k7⟩:=k3
     have zh:bZ M ct H0 w0 n cx ay ⟨s.env,o',nx'⟩ {a with defers:=mark w.heap.size::a.defers} w':=ef Gt k1 k2 rfl fun id hu=>hu
     have JV:ay s.nx= .pointer (some ⟨l,0,none⟩):=by
      have:=(k2.rel.row s.nx (show s.nx<s.nx+1 by omega) (by show(o' s.nx).bN=true;rw[k5];rfl)).2
      rw[this];simp[hZ]
     have bL:s.nx<nx':=k2.rel.us s.nx (show s.nx<s.nx+1 by omega)
     obtain⟨r,r1,r2,r3,r4,r5⟩:=uo (st':= .exhausted) (pd':=pd) k1 bL (show(hp o' nx').o s.nx=_ from k5) JV
     have gC:(Instr.endLoop l).run P w'= .ok (pd.map ka.code) {w' with heap:=w'.heap.setIfInBounds l (.loop {r with state:= .exhausted,pending:=pd.map ka.code})}:=by
      have e1:({r with state:= .exhausted}:Loop)={r with state:= .exhausted,pending:=pd.map ka.code}:=by rw[<- r3]
      have XP:(r.state==LoopState.busy)=false:=by rw[r2];cases st<;>first|rfl|exact absurd rfl k6
      simp only[Instr.endLoop,Sem.run_bind,jG r1,Result.andThen_ok,XP,Bool.false_eq_true,if_false,Sem.run_pure]
      rw[ik _ r1,e1]
      simp[r3]
     have L6:=ef zh r4 r5 (o':=ao o' s.nx (.loop nf m e p c d .exhausted pd)) (nx':=nx') rfl fun id hu=>by
      simp only[dO]at hu
      rcases hu with hu|hu
      ·exact hu
      ·subst hu;exact bL
     refine⟨pd.map ka.code,_,gC, ?_⟩
     cases pd with
     |none=>exact⟨.normal,_,_,k7,L6,trivial⟩
     |some j=>
      cases j with
      |ret=>exact A9 ⟨.ret,_,_,k7,L6,trivial⟩
      |exit id=>exact xw ⟨.exit id,_,_,k7,L6,rfl⟩
    |panicked ch=>
     obtain⟨val,rfl,k4,k5⟩:=k3
     have zh:bZ M ct H0 w0 n cx ay ⟨s.env,o',nx'⟩ {a with defers:=mark w.heap.size::a.defers} w':=ef Gt k1 k2 rfl fun id hu=>hu
     exact⟨.bK v,_,_,k5,zh,val,rfl,k4⟩
    |outgrown=>exact k3.elim
  have mb:V.aC (ai M hZ s1.H) hZ s1.H w1 (first++[V.ke s.nx]++cap) (fa++#[Value.func (.yield l) #[] #[]]++ca).toList:=by
   rw[Array.toList_append,Array.toList_append]
   exact V.kZ zu ⟨_,[],rfl,SG,rfl⟩ Nz
  rcases h with hC|hC
  ·exact fin _ _ s1 rfl uq mb (by simp;rfl) hC
  ·have j8:s1.o=ao s.o s.nx (.loop P.funcs.size n env ps.toList (low n x) (low n y) .ready none):=rfl
   obtain⟨f1,f2,f3,f4,f5⟩:=cG uq.heap (da s1.o (first++[V.ke s.nx]++cap)) (fY _ _ s1.o mb)
   have iA:s1.H.put (ck s1.H.o (da s1.o (first++[V.ke s.nx]++cap)))=hp (put s1.o (ck s1.o (da s1.o (first++[V.ke s.nx]++cap)))) s1.nx:=ku (by rw[mM];exact fY _ _ s1.o mb)
   have It:=Ew f1 _ _ f3 (V.aI f2 _ _ mb)
   have Iu:((s1.H.put (ck s1.H.o (da s1.o (first++[V.ke s.nx]++cap)))).o s.nx).bN=true:=by
    by_cases hm:s.nx∈da s1.o (first++[V.ke s.nx]++cap)
    ·rw[f3 _ hm];simp[s1,S.H,ae.fz,ae.bN]
    ·rw[f4 _ hm];simp[s1,S.H,ae.bN]
   rw[iA]at f1 f2 It Iu
   exact fin _ (put s1.o (ck s1.o (da s1.o (first++[V.ke s.nx]++cap)))) ⟨s.env,_,s.nx+1⟩ rfl (ef uq f1 f2 rfl fun id hu=>hu) It Iu hC
 ·exact h.elim
end
end Go.Proofs.YtealblliddhgiaaGreat
