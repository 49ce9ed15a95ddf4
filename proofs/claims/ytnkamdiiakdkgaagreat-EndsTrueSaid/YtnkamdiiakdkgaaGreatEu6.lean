/-
  A PART OF THE PROOF. Conditions: none.
-/
import Derived.RangeFuncLeaves
import Derived.TacticsIn
import Derived.RecoverIn
import Derived.Test.YtnkamdiiakdkgaaGreatEu5
set_option linter.unusedSimpArgs false
set_option linter.unusedVariables false
namespace Go.Proofs.YtnkamdiiakdkgaaGreat
inductive R where
 |ret (ds:List D)|bF (d:D)
def R.is (B:Nat->Prop)(w:World):R->Ending->Prop
 | .ret [x], .returned v=>D.den B w x v
 | .ret ds, .returned v=>∃a,v= .tuple a/\D.aC B w ds a.toList
 | .bF d, .panicked chain=>∃v,chain=[{v:=v,recovered:=false}]/\D.den B w d v
 |_,_=>False
def Enters(P:Program)(f:FuncId):Prop:=∃fn,P.funcs[f]? =some fn/\(fn.name== "runtime.NumGoroutine")=false/\fn.body.isNone=false
def aW(P:Program)(f:FuncId)(ds:List D)(out:R):Prop:=
 Enters P f/\∀ (M:Nat->Prop) (w:World) (vals:Array Value),(∀b,M b->b<w.heap.size)->D.aC M w ds vals.toList->
  Calls P f vals w fun e w'=>dx (fun _=>False) w w'/\out.is M w' e
def hp(o:Nat->ab)(nx:Nat):Hp:=⟨o,fun id=>id<nx⟩
def l0(M:Nat->Prop)(φ:Place)(H:Hp)(w:World)(K X:V->(Nat->ab)->Nat->Prop)(e:Ending)(w':World):Prop:=
 ∃aD o' nx' v,ay M aD (hp o' nx') w'/\Trans φ H w aD (hp o' nx') w'/\match e with
  | .returned val=>V.den (ak M aD (hp o' nx')) aD (hp o' nx') w' v val/\K v o' nx'
  | .panicked ch=>∃val,ch=[{v:=val,recovered:=false}]/\V.den (ak M aD (hp o' nx')) aD (hp o' nx') w' v val/\X v o' nx'
  | .outgrown=>False
def de(P:Program)(f:FuncId)(args:List V)(o:Nat->ab)(nx:Nat)(K X:V->(Nat->ab)->Nat->Prop):Prop:=
 Enters P f/\∀ (M:Nat->Prop) (φ:Place) (w:World) (vals:Array Value),ay M φ (hp o nx) w->V.aC (ak M φ (hp o nx)) φ (hp o nx) w args vals.toList->
  Calls P f vals w (l0 M φ (hp o nx) w K X)
def dq(P:Program)(id:Nat)(args:List V)(o:Nat->ab)(nx:Nat)(K X:V->(Nat->ab)->Nat->Prop):Prop:=
 (o id).bZ=true/\∀ (M:Nat->Prop) (φ:Place) (w:World) (vals:Array Value) (b:Nat),ay M φ (hp o nx) w->V.aC (ak M φ (hp o nx)) φ (hp o nx) w args vals.toList->φ id= .pointer (some ⟨b,0,none⟩)->
  ∃f tmps assign body,(Instr.yield b vals).run P w= .ok (.round b f tmps assign body) w/\∀n,RoundIn Fence.wide n P b f tmps assign body w (l0 M φ (hp o nx) w K X)
theorem l0.mono {M:Nat->Prop}{φ:Place}{H:Hp}{w:World}{K X K' X':V->(Nat->ab)->Nat->Prop}(hK:∀v o n,K v o n->K' v o n)(hX:∀v o n,X v o n->X' v o n){e:Ending}{w':World}(h:l0 M φ H w K X e w'):l0 M φ H w K' X' e w':=by
 obtain⟨aD,o',nx',v,h1,h2,h3⟩:=h
 refine⟨aD,o',nx',v,h1,h2, ?_⟩
 cases e with
 |returned val=>exact⟨h3.1,hK _ _ _ h3.2⟩
 |panicked ch=>obtain⟨val,a,b,c⟩:=h3;exact⟨val,a,b,hX _ _ _ c⟩
 |outgrown=>exact h3
theorem de.mono {P:Program}{f:FuncId}{args:List V}{o:Nat->ab}{nx:Nat}{K X K' X':V->(Nat->ab)->Nat->Prop}(hK:∀v o n,K v o n->K' v o n)(hX:∀v o n,X v o n->X' v o n)(h:de P f args o nx K X):de P f args o nx K' X':=
 ⟨h.1,fun M φ w vals h1 h2=>(h.2 M φ w vals h1 h2).mono fun _ _ h=>h.mono hK hX⟩
theorem dq.mono {P:Program}{id:Nat}{args:List V}{o:Nat->ab}{nx:Nat}{K X K' X':V->(Nat->ab)->Nat->Prop}(hK:∀v o n,K v o n->K' v o n)(hX:∀v o n,X v o n->X' v o n)(h:dq P id args o nx K X):dq P id args o nx K' X':=
 ⟨h.1,fun M φ w vals b h1 h2 h3=>let⟨f,t,a,c,h4,h5⟩:=h.2 M φ w vals b h1 h2 h3;⟨f,t,a,c,h4,fun n=>(h5 n).mono fun _ _ h=>h.mono hK hX⟩⟩
mutual
def D.flat:D->Bool
 | .sl _| .mp _ _=>false
 | .agg cs=>D.ja cs
 | .iface _ x=>x.flat
 |_=>true
def D.ja:List D->Bool
 |[]=>true
 |x::xs=>x.flat&&D.ja xs
end
mutual
theorem D.oR {B B':Nat->Prop}{w w':World}:∀ (x:D) (v:Value),x.flat=true->D.den B w x v->D.den B' w' x v
 | .int _ _,_,_,h| .bool _,_,_,h| .str _,_,_,h| .eZ,_,_,h| .lE,_,_,h| .bY,_,_,h| .gy,_,_,h=>h
 | .agg cs,_,hf,h=>by obtain⟨a,rfl,h,h2⟩:=h;exact⟨a,rfl,D.kU cs _ hf h,h2⟩
 | .sl es,_,hf,h=>by simp[D.flat]at hf
 | .mp _ _,_,hf,h=>by simp[D.flat]at hf
 | .iface t x,_,hf,h=>by obtain⟨u,rfl,h⟩:=h;exact⟨u,rfl,D.oR x u hf h⟩
theorem D.kU {B B':Nat->Prop}{w w':World}:∀ (xs:List D) (vs:List Value),D.ja xs=true->D.aC B w xs vs->D.aC B' w' xs vs
 |[],_,_,h=>h
 |x::xs,_,hf,h=>by
  obtain⟨u,us,rfl,h1,h2⟩:=h
  simp only[D.ja,Bool.and_eq_true]at hf
  exact⟨u,us,rfl,D.oR x u hf.1 h1,D.kU xs us hf.2 h2⟩
end
mutual
def D.l4:D->Bool
 | .mp _ _=>false
 | .agg cs=>D.kV cs
 | .sl es=>D.kV es
 | .iface _ x=>x.l4
 |_=>true
def D.kV:List D->Bool
 |[]=>true
 |x::xs=>x.l4&&D.kV xs
end
theorem fQ.zj {B B':Nat->Prop}{w w':World}{a:Addr}{cs:Array Value}
 (hb:∀b,oB w b-> ¬B b->w'.heap[b]? =w.heap[b]? /\ ¬B' b) (h:fQ B w a cs):fQ B' w' a cs:=by
 intro j u hj
 obtain⟨h1,h2⟩:=h j u hj
 have b8:oB w a.block:=by simpa using nv h1
 exact WX
mutual
theorem D.kq {B B':Nat->Prop}{w w':World}(hb:∀b,oB w b-> ¬B b->w'.heap[b]? =w.heap[b]? /\ ¬B' b):
 ∀ (x:D) (v:Value),x.l4=true->D.den B w x v->D.den B' w' x v
 | .int _ _,_,_,h| .bool _,_,_,h| .str _,_,_,h| .eZ,_,_,h| .lE,_,_,h| .bY,_,_,h| .gy,_,_,h=>by simpa[D.den]using h
 | .agg cs,_,hn,h=>by
   obtain⟨a,rfl,h,hf⟩:=h
   exact⟨a,rfl,D.l5 hb cs _ hn h,hf⟩
 | .sl es,_,hn,h=>by
   obtain⟨base,len,cap,rfl,h1,h2,h3,sz,h4⟩:=h
   exact⟨base,len,cap,rfl,h1,h2,h3,sz,fun a ha=>⟨(h4 a ha).1,D.oS hb sz a es 0 hn (h4 a ha).2⟩⟩
 | .iface t d,_,hn,h=>by
   obtain⟨u,rfl,h⟩:=h
   exact⟨u,rfl,D.kq hb d u hn h⟩
 | .mp _ _,_,hn,_=>by simp[D.l4]at hn
theorem D.l5 {B B':Nat->Prop}{w w':World}(hb:∀b,oB w b-> ¬B b->w'.heap[b]? =w.heap[b]? /\ ¬B' b):
 ∀ (ds:List D) (vs:List Value),D.kV ds=true->D.aC B w ds vs->D.aC B' w' ds vs
 |[],_,_,h=>h
 |d::ds,_,hn,h=>by
  obtain⟨u,us,rfl,h1,h2⟩:=h
  simp only[D.kV,Bool.and_eq_true]at hn
  exact⟨u,us,rfl,D.kq hb d u hn.1 h1,D.l5 hb ds us hn.2 h2⟩
theorem D.oS {B B':Nat->Prop}{w w':World}(hb:∀b,oB w b-> ¬B b->w'.heap[b]? =w.heap[b]? /\ ¬B' b)(sz:Nat)(a:Addr):
 ∀ (es:List D) (i:Nat),D.kV es=true->D.elems B w sz a i es->D.elems B' w' sz a i es
 |[],_,_,_=>trivial
 |e::es,i,hn,h=>by
  obtain⟨⟨ev,h1,h2,h3⟩,h4⟩:=h
  simp only[D.kV,Bool.and_eq_true]at hn
  exact⟨⟨ev,h1,h2.zj hb,D.kq hb e ev hn.1 h3⟩,D.oS hb sz a es (i+1) hn.2 h4⟩
end
def R.l4:R->Bool
 | .ret ds=>D.kV ds
 | .bF d=>d.l4
def R.flat:R->Bool
 | .ret ds=>D.ja ds
 | .bF d=>d.flat
def iE:List D->V
 |[x]=> .d x
 |ds=> .bS (ds.map .d)
inductive eS where
 |normal|exit (id:Nat)|ret|bF (v:V)
def aY(env:Nat->V)(dst:Option Tmp)(v:V):Nat->V:=
 match dst with
 |some d=>aF env d v
 |none=>env
def Ih(o:Nat->ab)(v:V):V:=match dA o v with|some x=> .d x|none=>v
def cQ(o:Nat->ab):List V->List Nat
 |[]=>[]
 |v::vs=>(match dA o v with|some _=>v.ids|none=>[])++cQ o vs
def nu(P:Program)(g:FuncId)(args:List V)(o:Nat->ab)(nx:Nat)(K X:V->(Nat->ab)->Nat->Prop):Prop:=
 de P g args o nx K X\/de P g (args.map (Ih o)) (put o (cc o (cQ o args))) nx K X
def s5(P:Program)(s:S)(g:FuncId)(all:List V)(K:V->(Nat->ab)->Nat->Prop)(X:V->(Nat->ab)->Nat->Prop):Prop:=
    (∃ds out,bT s.o all=some ds/\aW P g ds out/\(match out with
     | .ret rs=>K (iE rs) (put s.o (cc s.o (V.bg all))) (s.nx+1)
     | .bF x=>X (.d x) (put s.o (cc s.o (V.bg all))) (s.nx+1)))\/
    (∃ds out,bT s.o all=some ds/\aW P g ds out/\out.flat=true/\(match out with
     | .ret rs=>K (iE rs) s.o (s.nx+1)
     | .bF x=>X (.d x) s.o (s.nx+1)))\/
    (∃ds out,bT s.o all=some ds/\aW P g ds out/\out.l4=true/\(match out with
     | .ret rs=>K (iE rs) (put s.o (qa s.o (V.bg all))) (s.nx+1)
     | .bF x=>X (.d x) (put s.o (qa s.o (V.bg all))) (s.nx+1)))\/
    nu P g all s.o s.nx K X
def zK(P:Program)(s:S)(f:V)(args:List V)(K:V->(Nat->ab)->Nat->Prop)(X:V->(Nat->ab)->Nat->Prop):Prop:=
 match f with
 | .func (.func g) first cap=>s5 P s g (first++args++cap) K X
 | .iD id=>dq P id args s.o s.nx K X
 |_=>False
def OE(P:Program)(t:TypeId):Bool:=
 match P.underlying t with
 |some (.pointer _)=>false
 |some _=>true
 |none=>false
def s6(P:Program)(m:String)(x:V):Option (FuncId×V):=
 match x with
 | .d (.iface t y)=>match P.info? t with
   |some ti=>match ti.methods.find? (·.name==m)with
    |some r=>match r.func with
     |some (f,false)=>if r.path.isEmpty=true/\OE P t=true then some (f, .d y)else none
     |_=>none
    |none=>none
   |none=>none
 |_=>none
def fR(n:Nat):Option Tmp->Prop
 |some d=>d<n
 |none=>True
def opW(P:Program)(n:Nat)(s:S)(o:Oper)(X:V->S->Prop)(K:S->Prop):Prop:=
 fR n o.dst/\match o.op with
 | .call c=>match c.callee with
   | .value f=>zK P s (s.ev f) (c.args.toList.map s.ev) (fun v o' nx'=>K ⟨aY s.env o.dst v,o',nx'⟩) (fun v o' nx'=>X v ⟨s.env,o',nx'⟩)
   | .invoke r m=>match s6 P m (s.ev r)with
     |some (g,y)=>s5 P s g (y::c.args.toList.map s.ev) (fun v o' nx'=>K ⟨aY s.env o.dst v,o',nx'⟩) (fun v o' nx'=>X v ⟨s.env,o',nx'⟩)
     |none=>False
   |_=>Ou P s s.nx o.op fun v Δ _=>K ⟨aY s.env o.dst v,put s.o Δ,s.nx+1⟩
 | .panic x=>match s.ev x with
   | .d (.iface t y)=>X (.d (.iface t y)) s
   | .iface t y=>X (.iface t y) s
   |_=>False
 |op=>Ou P s s.nx op fun v Δ _=>K ⟨aY s.env o.dst v,put s.o Δ,s.nx+1⟩
def xo(s:S)(ops:Array Oper)(g:Option (Nat×Bool))(A B:Prop):Prop:=
 match g with
 |none=>A
 |some (j,want)=>match qS ops j with
  |some d=>match s.env d with
   | .d (.bool b)=>(b=want->A)/\(b≠want->B)
   | .bS []=>B
   |_=>False
  |none=>B
def xp(P:Program)(n:Nat)(ops:Array Oper)(X:V->S->Prop)(K:S->Prop):List Oper->S->Prop
 |[],s=>K s
 |o::l,s=>xo s ops o.guard (opW P n s o X (xp P n ops X K l)) (fR n o.dst/\xp P n ops X K l ⟨aY s.env o.dst (.bS []),s.o,s.nx+1⟩)
def bC(b:Nat)(s s':S):Prop:=
 ∀ (M:Nat->Prop) (φ:Place) (w:World) (tm:Nat->Value),ay M φ s.H w->(∀i,V.den (ak M φ s.H) φ s.H w (s.env i) (tm i))->
   ∃aD,ay M aD s'.H w/\(∀i,V.den (ak M aD s'.H) aD s'.H w (s'.env i) (tm i))/\(∀k,cy aD s'.H k->cy φ s.H k)/\b<=s'.nx/\
    (∀id,id<b->(s'.o id).bZ=true->(s.o id).bZ=true/\aD id=φ id)/\
    (∀id e',id<b->(s'.o id).bW=some e'->∃e,(s.o id).bW=some e/\e<=e'/\(e=e'->aD id=φ id))
def oT(K:S->Prop)(Q:eS->S->Prop)(e:eS)(s:S):Prop:=match e with| .normal=>K s|e=>Q e s
def eO(id:Nat)(Q:eS->S->Prop)(e:eS)(s:S):Prop:=match e with| .exit j=>if j=id then Q .normal s else Q (.exit j) s|e=>Q e s
def kW(P:Program)(s:S):List ResultVar->Option (List V)
 |[]=>some []
 | .tmp t::rs=>(kW P s rs).map (s.env t::·)
 | .cell a t::rs=>match s.env a with
   | .ptr id off=>match s.o id with
     | .row cs=>(ei P t cs off).bind fun v=>(kW P s rs).map (v::·)
     |_=>none
   |_=>none
def cp(vs:List V):Nat->V:=fun i=>vs.getD i (.bS [])
def Ci(P:Program)(rs:List ResultVar)(out:R)(e:eS)(s:S):Prop:=
 match e with
 | .normal| .ret=>match kW P s rs with
   |some vs=>match bT s.o vs with
    |some ds=>out= .ret ds
    |none=>False
   |none=>False
 | .bF v=>match dA s.o v with
   |some x=>out= .bF x
   |none=>False
 | .exit _=>False
theorem Ii{P:Program}{rs:List ResultVar}{out:R}{s:S}(h:match kW P s rs with
 |some vs=>match bT s.o vs with
  |some ds=>out= .ret ds
  |none=>False
 |none=>False):∃vs ds,kW P s rs=some vs/\bT s.o vs=some ds/\out= .ret ds:=by
 split at h
 ·rename_i vs h1
  split at h
  ·rename_i xs h2;exact⟨vs,xs,h1,h2,h⟩
  ·exact h.elim
 ·exact h.elim
theorem Ij{out:R}{s:S}{v:V}(h:match dA s.o v with
 |some x=>out= .bF x
 |none=>False):∃x,dA s.o v=some x/\out= .bF x:=by
 split at h
 ·rename_i x h1;exact⟨x,h1,h⟩
 ·exact h.elim
section
section
variable {P:Program}{M:Nat->Prop}{φ:Place}{H:Hp}{w w':World}
def ab.ku:ab->Bool
 | .arr .. =>true
 |_=>false
theorem LZ(o:Nat->ab)(ids:List Nat):qa o ids=cc o (ids.filter fun id=>(o id).ku):=by
 induction ids with
 |nil=>rfl
 |cons id ids ih=>
  unfold qa at ih|-
  simp only[List.filterMap_cons,List.filter_cons]
  cases hx:o id with
  |arr ep ty sz es=>
   have e:(ab.arr ep ty sz es).ku=true:=rfl
   rw[e,if_pos rfl,ih]
   simp only[cc,List.map_cons,hx]
  |_=>exact ih
theorem iC(hH:ay M φ H w){us':Nat->Prop}(h:∀id,H.us id->us' id):ay M φ ⟨H.o,us'⟩ w/\Trans φ H w φ ⟨H.o,us'⟩ w:=by
 have ht:Trans φ H w φ ⟨H.o,us'⟩ w:=⟨dx.refl _ _,fun b hb=> .inl hb,⟨h,fun id _ hr=>⟨hr,rfl⟩,fun id e' _ he=>⟨e',he,Nat.le_refl _,fun _=>rfl⟩⟩⟩
 exact⟨hH.of ht (fun _=>False) (fun _ h=>h.elim) (fun id _=>⟨rfl,rfl,fun _ _ _=>rfl⟩) (fun id hn=>hH.fresh id fun hu=>hn (h id hu)) hH.apart (fun b hb=>(hH.ours b hb).2),ht⟩
theorem fA(hH:ay M φ H w)(hk:dx (fun _=>False) w w'):ay M φ H w'/\Trans φ H w φ H w':=by
 have ht:Trans φ H w φ H w':=⟨⟨hk.os,hk.tape,hk.output,hk.size,fun k h _=>hk.block k h fun h=>h⟩,fun b hb=> .inl hb,dD.refl _ _⟩
 exact⟨hH.of ht (fun _=>False) (fun _ h=>h.elim) (fun id _=>⟨rfl,rfl,fun hl b hb=>hk.block b (hH.ours b ⟨id,hl,hb⟩).2 fun h=>h⟩) hH.fresh hH.apart (fun b hb=>Nat.lt_of_lt_of_le (hH.ours b hb).2 hk.size),ht⟩
theorem kx{Δ:List (Nat×ab)}(h:∀id∈Δ.map (·.1),H.us id):H.put Δ=⟨put H.o Δ,H.us⟩:=by
 unfold Hp.put
 congr 1
 funext id
 simp only[eq_iff_iff]
 exact⟨fun h'=>h'.elim (fun h=>h) (h id), .inl⟩
theorem sd(o:Nat->ab)(ids:List Nat):(cc o ids).map (·.1)=ids:=by
 rw[kS];simp[Function.comp_def]
structure Cx where
 base:List Deferred
 rd:Bool
def dy(ro:Option Nat):Fence:={fn:=fun _=>True,depth:=none,alive:=false,round:=ro}
def mark(r:Nat):Deferred:={target:= .collected r,args:=#[]}
def s7(cx:Cx)(w0:World)(φ:Place)(H:Hp)(w:World)(ds:List Deferred):Prop:=
 ∃ms:List Nat,ds=ms.map mark++cx.base/\ms.Nodup/\(cx.rd=true->ms=[])/\∀r∈ms,w0.heap.size<=r/\w.heap[r]? =some (.deferred (some []))/\ ¬cy φ H r
theorem s7.mono {cx:Cx}{w0:World}{φ aD:Place}{H H':Hp}{w w':World}{ds:List Deferred}(ht:Trans φ H w aD H' w')(h:s7 cx w0 φ H w ds):s7 cx w0 aD H' w' ds:=by
 obtain⟨ms,h1,h2,h3,h4⟩:=h
 refine⟨ms,h1,h2,h3,fun r hr=> ?_⟩
 obtain⟨g1,g2,g3⟩:=h4 r hr
 have b8:r<w.heap.size:=by
  rcases Nat.lt_or_ge r w.heap.size with hl|hl
  ·exact hl
  ·rw[Array.getElem?_eq_none hl]at g2;cases g2
 refine⟨g1,(ht.keep.block r b8 g3).trans g2,fun hl=> ?_⟩
 rcases ht.grow r hl with h|h
 ·exact g3 h
 ·omega
structure bU (M:Nat->Prop) (cg:Place) (H0:Hp) (w0:World) (n:Nat) (cx:Cx) (φ:Place) (s:S) (a:Act) (w:World):Prop where
 heap:ay M φ s.H w
 tr:Trans cg H0 w0 φ s.H w
 size:a.tmps.size=n
 defers:s7 cx w0 φ s.H w a.defers
 env:∀i,V.den (ak M φ s.H) φ s.H w (s.env i) (a.tmps.getD i undef)
variable {cg:Place}{H0:Hp}{w0:World}{n:Nat}{s:S}{a:Act}{cx:Cx}{ro:Option Nat}{k:Nat}
theorem cM{f:FuncId}{args:Array Value}{R:Ending->World->Prop}(h:Calls P f args w R):CallsIn (dy ro) k P f args w R:=
 ⟨trivial,fun cs _=>let⟨e,w',fr,r,s,x⟩:=h cs;⟨e,w',fr,r,comesIn_wide.2 s,x⟩⟩
theorem zL{f:FuncId}{args:Array Value}{R:Ending->World->Prop}(h:CallsIn (dy ro) k P f args w R):Calls P f args w R:=
 fun cs=>let⟨e,w',fr,r,s,x⟩:=h.2 cs (fun _ h=>by simp[dy]at h);⟨e,w',fr,r,comesIn_wide.1 s,x⟩
theorem jF{o:Oper}{next:Act->World->Prop}{Q:Exit->Act->World->Prop}(hnd:∀c,o.op≠ .defer c)(h:o.uponIn (dy ro) k P a next Q ((execOp a.eval o).run P w)):o.wpIn (dy ro) k P a w next Q:=
 ⟨fun _ _=>trivial,by rw[Oper.semAt_eq _ _ _ hnd];exact h⟩
theorem mP(hs:bU M cg H0 w0 n cx φ s a w){aD:Place}{H':Hp}(hH:ay M aD H' w')(ht:Trans φ s.H w aD H' w'){v:V}{val:Value}(hd:V.den (ak M aD H') aD H' w' v val){dst:Option Tmp}(cB:fR n dst)
 {o':Nat->ab} {nx':Nat} (ho:H'.o=o') (hu:∀id,H'.us id->id<nx'):bU M cg H0 w0 n cx aD ⟨aY s.env dst v,o',nx'⟩ (a.put dst val) w':=by
 obtain⟨k1,k2⟩:=iC hH hu
 subst ho
 refine⟨k1,hs.tr.trans (ht.trans k2), ?_, ?_,fun i=> ?_⟩
 ·cases dst<;>simp[Act.put,hs.size]
 ·have:=hs.defers.mono (ht.trans k2);cases dst<;>exact this
 ·cases dst with
  |none=>exact Lr
  |some d=>
   simp only[fR]at cB
   simp only[aY,aJ,Act.put]
   by_cases hi:i=d
   ·subst hi
    have h1:(a.tmps.setIfInBounds i val).getD i undef=val:=by simp[Array.getD,hs.size,cB]
    rw[if_pos rfl,h1]
    exact V.aM k2 _ _ hd
   ·have h1:(a.tmps.setIfInBounds d val).getD i undef=a.tmps.getD i undef:=by
     exact Rc
    rw[if_neg hi,h1]
    exact Lr
theorem ef(hs:bU M cg H0 w0 n cx φ s a w){aD:Place}{H':Hp}(hH:ay M aD H' w')(ht:Trans φ s.H w aD H' w'){o':Nat->ab}{nx':Nat}(ho:H'.o=o')(hu:∀id,H'.us id->id<nx'):
 bU M cg H0 w0 n cx aD ⟨s.env,o',nx'⟩ a w':=by
 obtain⟨k1,k2⟩:=iC hH hu
 subst ho
 exact⟨k1,hs.tr.trans (ht.trans k2),hs.size,hs.defers.mono (ht.trans k2),fun i=>V.aM (ht.trans k2) _ _ (hs.env i)⟩
theorem Ik{Δ:List (Nat×ab)}(h:∀id∈Δ.map (·.1),s.H.us id\/id=s.nx)(id:Nat)(hu:(s.H.put Δ).us id):id<s.nx+1:=by
 rcases hu with hu|hu
 ·exact Nat.lt_succ_of_lt hu
 ·rcases h id hu with h|h
  ·exact Nat.lt_succ_of_lt h
  ·omega
variable {next:Act->World->Prop}{Q:Exit->Act->World->Prop}{X:V->S->Prop}{K:S->Prop}
theorem Il(hs:bU M cg H0 w0 n cx φ s a w){o:Oper}{op:Op}(gr:o.op=op)(cB:fR n o.dst)(h:Ou P s s.nx op fun v Δ _=>K ⟨aY s.env o.dst v,put s.o Δ,s.nx+1⟩)
 (hN:∀s' aD a' w',K s'->bU M cg H0 w0 n cx aD s' a' w'->next a' w'):o.wpIn (dy ro) k P a w next Q:=by
 obtain⟨nx,val,w',aD,v,Δ,rd,hK,hr,uM,g1,g2,g3,g4⟩:=vO hs.heap (s:=s) rfl hs.env (fr:=s.nx) (by simp[S.H]) gr h
 have xq:=mP hs g1 g2 g3 cB (o':=put s.o Δ) (nx':=s.nx+1) rfl (Ik g4)
 refine jF (fun c hc=>by rw[gr]at hc;subst hc;exact h) ?_
 rw[hr]
 rcases uM with rfl|⟨rfl,rfl⟩
 ·exact hN _ _ _ _ hK xq
 ·exact hN _ _ _ _ hK xq
theorem V.oz {B:Nat->Prop}{bX bs cs:List V}{u v x:List Value}(h1:V.aC B φ H w bX u)(h2:V.aC B φ H w bs v)(h3:V.aC B φ H w cs x):V.aC B φ H w (bX++bs++cs) (u++v++x):=
 V.bt _ _ _ _ (V.bt _ _ _ _ h1 h2) h3
theorem ky{f:FuncId}(h:Enters P f)(args:Array Value):(callFunc f args).run P w= .ok (.enter f args) w:=by
 obtain⟨fn,h1,h2,h3⟩:=h
 have uZ:fn.name≠ "runtime.NumGoroutine" :=by simpa using h2
 have lF:fn.body≠none:=fun h=>by rw[h]at h3;cases h3
 simp[callFunc,h1,uZ,lF]
theorem lQ:∀ {rs:List D} {val:Value},R.is (ak M φ H) w (.ret rs) (.returned val)->V.den (ak M φ H) φ H w (iE rs) val
 |[],_,h=>by obtain⟨arr,rfl,h⟩:=h;exact⟨arr,rfl,h⟩
 |[x],_,h=>h
 |x::y::l,_,h=>by obtain⟨arr,rfl,h⟩:=h;exact⟨arr,rfl,(V.b7 (x::y::l) _).2 h⟩
theorem R.xr {B B':Nat->Prop}:∀ {out:R} {e:Ending},out.flat=true->out.is B w e->out.is B' w e
 | .ret [], .returned _,_,h=>by obtain⟨arr,rfl,h⟩:=h;exact⟨arr,rfl,h⟩
 | .ret [x], .returned _,hf,h=>by
   simp only[R.flat,D.ja,Bool.and_true]at hf
   exact D.oR x _ hf h
 | .ret (x::y::l), .returned _,hf,h=>by obtain⟨arr,rfl,h⟩:=h;exact⟨arr,rfl,D.kU (x::y::l) _ hf h⟩
 | .bF d, .panicked _,hf,h=>by obtain⟨v,rfl,h⟩:=h;exact⟨v,rfl,D.oR d v hf h⟩
 | .ret [], .panicked _,_,h| .ret [_], .panicked _,_,h| .ret (_::_::_), .panicked _,_,h| .ret [], .outgrown,_,h| .ret [_], .outgrown,_,h| .ret (_::_::_), .outgrown,_,h| .bF _, .returned _,_,h| .bF _, .outgrown,_,h=>h.elim
theorem R.Im {B B':Nat->Prop}{w':World}(hb:∀b,oB w' b-> ¬B b-> ¬B' b):∀ {out:R} {e:Ending},out.l4=true->out.is B w' e->out.is B' w' e
 | .ret [], .returned _,_,h=>by obtain⟨arr,rfl,h⟩:=h;exact⟨arr,rfl,h⟩
 | .ret [x], .returned _,hf,h=>by
   simp only[R.l4,D.kV,Bool.and_true]at hf
   exact D.kq (fun b hc hn=>⟨rfl,hb b hc hn⟩) x _ hf h
 | .ret (x::y::l), .returned _,hf,h=>by obtain⟨arr,rfl,h⟩:=h;exact⟨arr,rfl,D.l5 (fun b hc hn=>⟨rfl,hb b hc hn⟩) (x::y::l) _ hf h⟩
 | .bF d, .panicked _,hf,h=>by obtain⟨v,rfl,h⟩:=h;exact⟨v,rfl,D.kq (fun b hc hn=>⟨rfl,hb b hc hn⟩) d v hf h⟩
 | .ret [], .panicked _,_,h| .ret [_], .panicked _,_,h| .ret (_::_::_), .panicked _,_,h| .ret [], .outgrown,_,h| .ret [_], .outgrown,_,h| .ret (_::_::_), .outgrown,_,h| .bF _, .returned _,_,h| .bF _, .outgrown,_,h=>h.elim
theorem Io(hH:ay M φ H w){o:Nat->ab}:∀ (vs:List V) (vals:List Value),(∀id∈cQ o vs,H.o id=(o id).fz)->V.aC (ak M φ H) φ H w vs vals->V.aC (ak M φ H) φ H w (vs.map (Ih o)) vals
 |[],_,_,h=>h
 |v::vs,_,ho,h=>by
  obtain⟨u,us,rfl,h1,h2⟩:=h
  refine⟨u,us,rfl, ?_,Io hH vs us (fun id au=>ho id (by simp[cQ,au])) h2⟩
  unfold Ih
  split
  ·rename_i x hx
   exact eH hH v x u (fun id au=>ho id (by simp[cQ,hx,au])) hx h1
  ·exact h1
theorem fS:∀ (vs:List V) (vals:List Value) (o:Nat->ab),V.aC (ak M φ H) φ H w vs vals->∀id∈cQ o vs,H.us id
 |[],_,_,_,j,hj=>by simp[cQ]at hj
 |v::vs,_,o,h,j,hj=>by
  obtain⟨u,us,rfl,h1,h2⟩:=h
  simp only[cQ,List.mem_append]at hj
  rcases hj with hj|hj
  ·cases hx:dA o v with
   |none=>simp[hx]at hj
   |some x=>simp only[hx]at hj;exact cA v u h1 j hj
  ·exact fS vs us o h2 j hj
theorem vP(hs:bU M cg H0 w0 n cx φ s a w){o:Oper}{g:FuncId}{all:List V}{vals:Array Value}(cB:fR n o.dst)(eI:Enters P g->(execOp a.eval o).run P w= .ok (.enter g vals) w)(bc:V.aC (ak M φ s.H) φ s.H w all vals.toList)
 (h:de P g all s.o s.nx (fun v o' nx'=>K ⟨aY s.env o.dst v,o',nx'⟩) (fun v o' nx'=>X v ⟨s.env,o',nx'⟩))
 (hN:∀s' aD a' w',K s'->bU M cg H0 w0 n cx aD s' a' w'->next a' w')
 (hQ:∀v s' aD w' val,X v s'->bU M cg H0 w0 n cx aD s' a w'->V.den (ak M aD s'.H) aD s'.H w' v val->Q (.panic [{v:=val,recovered:=false}]) a w'):o.uponIn (dy ro) k P a next Q ((execOp a.eval o).run P w):=by
 have eu:=h.2 M φ w vals hs.heap bc
 rw[eI h.1]
 refine⟨fun hd=>by simp[dy]at hd,cM (eu.mono fun e w' ⟨aD,o',nx',v,k1,k2,k3⟩=> ?_)⟩
 cases e with
 |returned val=>exact NV
 |panicked ch=>
  obtain⟨val,rfl,k4,k5⟩:=k3
  exact Wo
 |outgrown=>exact k3.elim
theorem zM(hs:bU M cg H0 w0 n cx φ s a w){o:Oper}{g:FuncId}{all:List V}{vals:Array Value}(cB:fR n o.dst)(eI:Enters P g->(execOp a.eval o).run P w= .ok (.enter g vals) w)(bc:V.aC (ak M φ s.H) φ s.H w all vals.toList)
 (h:s5 P s g all (fun v o' nx'=>K ⟨aY s.env o.dst v,o',nx'⟩) (fun v o' nx'=>X v ⟨s.env,o',nx'⟩))
 (hN:∀s' aD a' w',K s'->bU M cg H0 w0 n cx aD s' a' w'->next a' w')
 (hQ:∀v s' aD w' val,X v s'->bU M cg H0 w0 n cx aD s' a w'->V.den (ak M aD s'.H) aD s'.H w' v val->Q (.panic [{v:=val,recovered:=false}]) a w'):o.uponIn (dy ro) k P a next Q ((execOp a.eval o).run P w):=by
 unfold s5 at h
 obtain⟨f1,f2,f3,f4,f5⟩:=cC hs.heap (V.bg all) (cH all _ bc)
 have fh:s.H.put (cc s.H.o (V.bg all))=⟨put s.o (cc s.o (V.bg all)),s.H.us⟩:=kx Hs
 have l6:=V.aP f2 _ _ bc
 rcases h with⟨ds,out,eD,hP,hK⟩|⟨ds,out,eD,hP,kJ,hK⟩|⟨ds,out,eD,hP,hnm,hK⟩|hC|hC
 ·have vC:=cX f1 all ds _ f3 eD l6
  have hM:∀b,ak M φ (s.H.put (cc s.H.o (V.bg all))) b->b<w.heap.size:=fun b hb=>hb.elim (f1.yM b) fun hl=>(f1.ours b hl).2
  have eu:=hP.2 _ w vals hM vC
  rw[eI hP.1]
  refine⟨fun hd=>by simp[dy]at hd,cM (eu.mono fun e w' ⟨hk,ho⟩=> ?_)⟩
  obtain⟨k1,k2⟩:=fA f1 hk
  cases out with
  |ret rs=>
   cases e with
   |returned val=>
    refine hN _ _ _ _ hK (mP hs k1 (f2.trans k2) (lQ ho) cB (by rw[fh]) ?_)
    intro id hu;rw[fh]at hu;exact Nat.lt_succ_of_lt hu
   |panicked ch=>exact uP
   |outgrown=>exact uP
  |bF x=>
   cases e with
   |returned val=>exact ho.elim
   |panicked ch=>
    obtain⟨val,rfl,hd⟩:=ho
    have xq:=ef hs k1 (f2.trans k2) (o':=put s.o (cc s.o (V.bg all))) (nx':=s.nx+1) (by rw[fh]) (fun id hu=>by rw[fh]at hu;exact Nat.lt_succ_of_lt hu)
    refine hQ _ _ _ _ val hK xq ?_
    have e1:ak M φ (S.H ⟨s.env,put s.o (cc s.o (V.bg all)),s.nx+1⟩)=ak M φ (s.H.put (cc s.H.o (V.bg all))):=by rw[fh];rfl
    simp only[V.den]
    rw[e1];exact hd
   |outgrown=>exact ho.elim
 ·have vC:=cX f1 all ds _ f3 eD l6
  have hM:∀b,ak M φ (s.H.put (cc s.H.o (V.bg all))) b->b<w.heap.size:=fun b hb=>hb.elim (f1.yM b) fun hl=>(f1.ours b hl).2
  have eu:=hP.2 _ w vals hM vC
  rw[eI hP.1]
  refine⟨fun hd=>by simp[dy]at hd,cM (eu.mono fun e w' ⟨hk,ho⟩=> ?_)⟩
  obtain⟨k1,k2⟩:=fA hs.heap hk
  have ho:=R.xr (B':=ak M φ s.H) kJ ho
  cases out with
  |ret rs=>
   cases e with
   |returned val=>
    exact hN _ _ _ _ hK (mP hs k1 k2 (lQ ho) cB rfl fun id hu=>Nat.lt_succ_of_lt hu)
   |panicked ch=>exact uP
   |outgrown=>exact uP
  |bF x=>
   cases e with
   |returned val=>exact ho.elim
   |panicked ch=>
    obtain⟨val,rfl,hd⟩:=ho
    exact hQ _ _ _ _ val hK (ef hs k1 k2 (o':=s.o) (nx':=s.nx+1) rfl fun id hu=>Nat.lt_succ_of_lt hu) hd
   |outgrown=>exact ho.elim
 ·obtain⟨a1,a2,a3,a4,a5⟩:=cC hs.heap ((V.bg all).filter fun id=>(s.o id).ku) (fun id au=>cH all _ bc id (List.mem_filter.1 au).1)
  have zN:s.H.put (cc s.H.o ((V.bg all).filter fun id=>(s.o id).ku))=⟨put s.o (qa s.o (V.bg all)),s.H.us⟩:=by
   rw[LZ]
   exact kx (by rw[sd];exact fun id au=>cH all _ bc id (List.mem_filter.1 au).1)
  have vC:=cX f1 all ds _ f3 eD l6
  have hM:∀b,ak M φ (s.H.put (cc s.H.o (V.bg all))) b->b<w.heap.size:=fun b hb=>hb.elim (f1.yM b) fun hl=>(f1.ours b hl).2
  have eu:=hP.2 _ w vals hM vC
  rw[eI hP.1]
  refine⟨fun hd=>by simp[dy]at hd,cM (eu.mono fun e w' ⟨hk,ho⟩=> ?_)⟩
  obtain⟨k1,k2⟩:=fA a1 hk
  have jt:∀b,oB w' b-> ¬ak M φ (s.H.put (cc s.H.o (V.bg all))) b-> ¬ak M φ (s.H.put (cc s.H.o ((V.bg all).filter fun id=>(s.o id).ku))) b:=by
   intro b hc hn hm
   rcases hm with hM|⟨id,hl,hb⟩
   ·exact hn (.inl hM)
   ·by_cases au:id∈V.bg all
    ·cases hx:s.H.o id with
     |arr ep ty sz es=>
      rw[a3 id (List.mem_filter.2 ⟨au,by show(s.H.o id).ku=true;rw[hx];rfl⟩),hx]at hl
      cases hl
     |map kt vt l=>
      have lJ:id∉(V.bg all).filter fun id=>(s.o id).ku:=fun h=>by
       have h2:(s.H.o id).ku=true:=(List.mem_filter.1 h).2
       rw[hx]at h2;cases h2
      have aZ:=k1.ok id
      unfold aO at aZ
      rw[a4 id lJ,hx]at aZ
      obtain⟨b',es,clock,g1,g2,_⟩:=aZ
      rw[g1]at hb
      injection hb with hb
      subst hb
      obtain⟨cs,ty,fz,hc⟩:=hc
      rw[g2]at hc
      cases hc
     |_=>
      have lJ:id∉(V.bg all).filter fun id=>(s.o id).ku:=fun h=>by
       have h2:(s.H.o id).ku=true:=(List.mem_filter.1 h).2
       rw[hx]at h2;cases h2
      refine hn (.inr ⟨id, ?_,hb⟩)
      rw[a4 id lJ,hx]at hl
      rw[f3 id au,hx]
      exact hl
    ·have lJ:id∉(V.bg all).filter fun id=>(s.o id).ku:=fun h=>au (List.mem_filter.1 h).1
     refine hn (.inr ⟨id, ?_,hb⟩)
     rw[a4 id lJ]at hl
     rw[f4 id au]
     exact hl
  have ho:=R.Im (w':=w') (B':=ak M φ (s.H.put (cc s.H.o ((V.bg all).filter fun id=>(s.o id).ku)))) jt hnm ho
  cases out with
  |ret rs=>
   cases e with
   |returned val=>
    refine hN _ _ _ _ hK (mP hs k1 (a2.trans k2) (lQ ho) cB (by rw[zN]) ?_)
    intro id hu;rw[zN]at hu;exact Nat.lt_succ_of_lt hu
   |panicked ch=>exact uP
   |outgrown=>exact uP
  |bF x=>
   cases e with
   |returned val=>exact ho.elim
   |panicked ch=>
    obtain⟨val,rfl,hd⟩:=ho
    have xq:=ef hs k1 (a2.trans k2) (o':=put s.o (qa s.o (V.bg all))) (nx':=s.nx+1) (by rw[zN]) (fun id hu=>by rw[zN]at hu;exact Nat.lt_succ_of_lt hu)
    refine hQ _ _ _ _ val hK xq ?_
    have e1:ak M φ (S.H ⟨s.env,put s.o (qa s.o (V.bg all)),s.nx+1⟩)=ak M φ (s.H.put (cc s.H.o ((V.bg all).filter fun id=>(s.o id).ku))):=by rw[zN];rfl
    simp only[V.den]
    rw[e1];exact hd
   |outgrown=>exact ho.elim
 ·exact vP hs cB eI bc hC hN hQ
 ·obtain⟨f1,f2,f3,f4,f5⟩:=cC hs.heap (cQ s.o all) (fS all _ s.o bc)
  have fh:s.H.put (cc s.H.o (cQ s.o all))=hp (put s.o (cc s.o (cQ s.o all))) s.nx:=kx (by rw[sd];exact fS all _ s.o bc)
  have l6:=Io f1 all _ f3 (V.aP f2 _ _ bc)
  rw[fh]at f1 f2 l6
  exact vP (s:=⟨s.env,put s.o (cc s.o (cQ s.o all)),s.nx⟩) (ef hs f1 f2 rfl fun id hu=>hu) cB eI l6 hC hN hQ
theorem L0(hs:bU M cg H0 w0 n cx φ s a w){o:Oper}{c:Call}{f:Operand}(gr:o.op= .call c)(hc:c.callee= .value f)(cB:fR n o.dst)
 (h:zK P s (s.ev f) (c.args.toList.map s.ev) (fun v o' nx'=>K ⟨aY s.env o.dst v,o',nx'⟩) (fun v o' nx'=>X v ⟨s.env,o',nx'⟩))
 (hN:∀s' aD a' w',K s'->bU M cg H0 w0 n cx aD s' a' w'->next a' w')
 (hQ:∀v s' aD w' val,X v s'->bU M cg H0 w0 n cx aD s' a w'->V.den (ak M aD s'.H) aD s'.H w' v val->Q (.panic [{v:=val,recovered:=false}]) a w'):o.wpIn (dy ro) k P a w next Q:=by
 refine jF (fun c' FG=>by rw[gr]at FG;cases FG) ?_
 have hf:=lU (M:=M) (φ:=φ) (H:=s.H) (w:=w) s a hs.env f
 have dz:=jB (M:=M) (φ:=φ) (H:=s.H) (w:=w) s a hs.env c.args.toList
 unfold zK at h
 split at h
 ·rename_i g first cap uR
  rw[uR]at hf
  obtain⟨fa,ca,Ip,Dv,Rt⟩:=hf
  have bc:V.aC (ak M φ s.H) φ s.H w (first++c.args.toList.map s.ev++cap) (fa++c.args.map a.eval++ca).toList:=by
   exact N3
  generalize first++c.args.toList.map s.ev++cap=all at h bc
  generalize j9:fa++c.args.map a.eval++ca=vals at bc
  have eI:Enters P g->(execOp a.eval o).run P w= .ok (.enter g vals) w:=by
   intro he
   have:=ky (w:=w) he (fa++c.args.map a.eval++ca)
   rw[j9]at this
   simp[execOp,gr,resolve,hc,Ip,Deferred.ofValue,invoke,this,j9]
  exact zM hs cB eI bc h hN hQ
 ·rename_i id uR
  rw[uR]at hf
  obtain⟨_,dQ,hp'⟩:=hf
  obtain⟨bJ,hR⟩:=h
  obtain⟨b,dN,Ip⟩:=hp' bJ
  obtain⟨fn,tmps,assign,body,h1,h2⟩:=hR M φ w (c.args.map a.eval) b hs.heap (by rw[Array.toList_map];exact dz) dN
  have eI:(execOp a.eval o).run P w= .ok (.round b fn tmps assign body) w:=by
   simp[execOp,gr,resolve,hc,Ip,Deferred.ofValue,invoke,h1]
  rw[eI]
  refine⟨fun hd=>by simp[dy]at hd,RoundIn.mono (h2 (k - 1)) fun e w' ⟨aD,o',nx',v,k1,k2,k3⟩=> ?_⟩
  cases e with
  |returned val=>exact NV
  |panicked ch=>
   obtain⟨val,rfl,k4,k5⟩:=k3
   exact Wo
  |outgrown=>exact k3.elim
 ·exact h.elim
theorem FH(hs:bU M cg H0 w0 n cx φ s a w){o:Oper}{c:Call}{r:Operand}{m:String}{g:FuncId}{y:V}(gr:o.op= .call c)(hc:c.callee= .invoke r m)(cB:fR n o.dst)(hr:s6 P m (s.ev r)=some (g,y))
 (h:s5 P s g (y::c.args.toList.map s.ev) (fun v o' nx'=>K ⟨aY s.env o.dst v,o',nx'⟩) (fun v o' nx'=>X v ⟨s.env,o',nx'⟩))
 (hN:∀s' aD a' w',K s'->bU M cg H0 w0 n cx aD s' a' w'->next a' w')
 (hQ:∀v s' aD w' val,X v s'->bU M cg H0 w0 n cx aD s' a w'->V.den (ak M aD s'.H) aD s'.H w' v val->Q (.panic [{v:=val,recovered:=false}]) a w'):o.wpIn (dy ro) k P a w next Q:=by
 refine jF (fun c' FG=>by rw[gr]at FG;cases FG) ?_
 have hf:=lU (M:=M) (φ:=φ) (H:=s.H) (w:=w) s a hs.env r
 have dz:=jB (M:=M) (φ:=φ) (H:=s.H) (w:=w) s a hs.env c.args.toList
 unfold s6 at hr
 split at hr
 ·rename_i t d hx
  rw[hx]at hf
  obtain⟨val,hv,hd⟩:=hf
  split at hr
  ·rename_i ti hti
   split at hr
   ·rename_i mr sn
    split at hr
    ·rename_i f GX
     split at hr
     ·rename_i OG
      injection hr with hr
      injection hr with h1 h2
      subst h1;subst h2
      refine zM (vals:=#[val]++c.args.map a.eval) hs cB ?_ ?_ h hN hQ
      ·intro he
       have eI:=ky (w:=w) he (#[val]++c.args.map a.eval)
       have L1:mr.path=#[]:=Array.isEmpty_iff.1 OG.1
       have hu:∃u,P.underlying t=some u/\∀e,u≠ .pointer e:=by
        have:=OG.2
        unfold OE at this
        split at this
        ·cases this
        ·rename_i u kK hu;exact⟨u,hu,fun e he=>kK e he⟩
        ·cases this
       obtain⟨u,hu,OH⟩:=hu
       have hm:(method (P.types.size+Made.depth) t val m).run P w= .ok (f,val) w:=by
        have:P.types.size+Made.depth=(P.types.size+Made.depth - 1)+1:=by simp[Made.depth]
        rw[this]
        cases u<;>first|exact absurd rfl (OH _)|simp[method,typeInfo,hti,sn,L1,GX,follow,receiverAt,run_underlying hu,_root_.Go.Place.get]
       have h0:(#[Value.iface t val]++Array.map a.eval c.args)[0]? =some (.iface t val):=by
        rw[Array.getElem?_append_left (by simp)];rfl
       have h1:(Array.map a.eval c.args).extract 0 c.args.size=Array.map a.eval c.args:=by
        rw[show c.args.size=(Array.map a.eval c.args).size from by simp,Array.extract_size]
       simp[execOp,gr,resolve,hc,invoke,callMethod,hv,h0,h1,hm,eI]
      ·simp only[Array.toList_append,Array.toList_map]
       exact⟨val,_,rfl,hd,dz⟩
     ·cases hr
    ·cases hr
   ·cases hr
  ·cases hr
 ·cases hr
theorem vQ(hs:bU M cg H0 w0 n cx φ s a w){o:Oper}(h:opW P n s o X K)
 (hN:∀s' aD a' w',K s'->bU M cg H0 w0 n cx aD s' a' w'->next a' w')
 (hQ:∀v s' aD w' val,X v s'->bU M cg H0 w0 n cx aD s' a w'->V.den (ak M aD s'.H) aD s'.H w' v val->Q (.panic [{v:=val,recovered:=false}]) a w'):o.wpIn (dy ro) k P a w next Q:=by
 obtain⟨cB,h⟩:=h
 split at h
 ·rename_i c gr
  split at h
  ·rename_i f hc
   exact L0 hs gr hc cB h hN hQ
  ·rename_i r m hc
   split at h
   ·rename_i g y hr;exact FH hs gr hc cB hr h hN hQ
   ·exact h.elim
  ·exact Il hs rfl cB h hN
 ·rename_i x gr
  have hx:=lU (M:=M) (φ:=φ) (H:=s.H) (w:=w) s a hs.env x
  have bF:∀ (t:TypeId) (u:Value),a.eval x= .iface t u->Q (.panic [{v:= .iface t u,recovered:=false}]) a w->o.wpIn (dy ro) k P a w next Q:=by
   intro t u hu hq
   refine jF (fun c hc=>by rw[gr]at hc;cases hc) ?_
   have hr:(execOp a.eval o).run P w= .halt (.panic (.iface t u)) w:=by simp[execOp,gr,hu,Instr.panic]
   rw[hr];exact hq
  split at h
  ·rename_i t y hv
   rw[hv]at hx
   obtain⟨u,hu,hd⟩:=hx
   exact NX
  ·rename_i t y hv
   rw[hv]at hx
   obtain⟨u,hu,hd⟩:=hx
   exact NX
  ·exact h.elim
 ·exact Il hs rfl cB h hN
end
end
end Go.Proofs.YtnkamdiiakdkgaaGreat
namespace Go
def Code.rQ (P:Program)(ro:Option Nat)(c:Code)(Q:Exit->Act->World->Prop)(a:Act)(w:World):Prop:=
 ∀ (b:Frame) (k:List Item) (cs:List Frame),b.roundOf=ro->b.fn<P.funcs.size->
   ∃e a' w',Q e a' w'/\ArrivesIn (Machine.fenced P (Proofs.YtnkamdiiakdkgaaGreat.dy ro)) P (lone (b.atR a (.code c::k)) cs w) b k cs e a' w'
end Go
namespace Go.Proofs.YtnkamdiiakdkgaaGreat
instance:LawfulMonad Sem:=LawfulMonad.mk' Sem (id_map:=fun x=>Sem.bind_pure' x) (pure_bind:=fun _ _=>rfl) (bind_assoc:=fun x f g=>Sem.bind_assoc' x f g)
section
variable {P:Program}{M:Nat->Prop}{φ:Place}{H:Hp}{w w':World}{cg:Place}{H0:Hp}{w0:World}{n b:Nat}{s:S}{a:Act}{cx:Cx}{ro:Option Nat}{k:Nat}
theorem oU(hs:bU M cg H0 w0 n cx φ s a w){ops:Array Oper}{o:Oper}{A B:Prop}(h:xo s ops o.guard A B):
 (Region.wanted o (yielded ops a.tmps)=true->A)/\(Region.wanted o (yielded ops a.tmps)=false->B):=by
 unfold xo at h
 unfold Region.wanted
 split at h
 ·rename_i hg;simp only[hg];exact⟨fun _=>h,fun h=>by cases h⟩
 ·rename_i j want hg
  simp only[hg]
  unfold qS at h
  unfold yielded
  split at h
  ·rename_i d hd
   simp only[hd,Option.bind_some]
   have dI:=hs.env d
   split at h
   ·rename_i c hv
    rw[hv]at dI
    simp only[V.den,D.den]at dI
    have:a.tmps[d]? =some (.bool c):=by
     rw[Array.getD_eq_getD_getElem?]at dI
     cases hx:a.tmps[d]? with
     |none=>rw[hx]at dI;simp[undef]at dI
     |some x=>rw[hx]at dI;simp at dI;rw[dI]
    simp only[this]
    by_cases hc:c=want
    ·subst hc;exact⟨fun _=>h.1 rfl,fun h=>by simp at h⟩
    ·exact⟨fun h'=>absurd (by simpa using h') hc,fun _=>h.2 hc⟩
   ·rename_i hv
    rw[hv]at dI
    obtain⟨arr,cR,hn⟩:=dI
    simp only[V.aC]at hn
    have:∀c,a.tmps[d]? ≠some (.bool c):=by
     exact Ot
    cases hx:a.tmps[d]? with
    |none=>exact⟨fun h=>by simp at h,fun _=>h⟩
    |some x=>cases x<;>first|(exact absurd hx (this _))|(exact⟨fun h=>by simp at h,fun _=>h⟩)
   ·exact h.elim
  ·rename_i hd
   simp only[hd,Option.bind_none]
   exact⟨fun h=>by simp at h,fun _=>h⟩
theorem zO(hs:bU M cg H0 w0 n cx φ s a w){dst:Option Tmp}(cB:fR n dst):bU M cg H0 w0 n cx φ ⟨aY s.env dst (.bS []),s.o,s.nx+1⟩ (a.put dst undef) w:=
 mP (v:= .bS []) (val:=undef) hs hs.heap (Trans.refl _ _ _) ⟨#[],rfl,rfl⟩ cB rfl fun _ hu=>Nat.lt_succ_of_lt hu
theorem nS{ops:Array Oper}{X:V->S->Prop}{K:S->Prop}{Q:Exit->Act->World->Prop}
 (hK:∀s φ a w,K s->bU M cg H0 w0 n cx φ s a w->Q .normal a w)
 (hQ:∀v s' aD a w' val,X v s'->bU M cg H0 w0 n cx aD s' a w'->V.den (ak M aD s'.H) aD s'.H w' v val->Q (.panic [{v:=val,recovered:=false}]) a w'):
 ∀ (l:List Oper) (s:S) (φ:Place) (a:Act) (w:World),xp P n ops X K l s->bU M cg H0 w0 n cx φ s a w->wpListIn (dy ro) k P ops Q l a w
 |[],s,φ,a,w,h,hs=>hK s φ a w h hs
 |o::l,s,φ,a,w,h,hs=>by
  obtain⟨h1,h2⟩:=oU hs h
  unfold wpListIn
  split
  ·rename_i hw
   exact vQ hs (h1 hw) (fun s' aD a' w' hk ju=>nS hK hQ l s' aD a' w' hk ju) (fun v s' aD w' val hx ju hd=>hQ v s' aD a w' val hx ju hd)
  ·rename_i hw
   obtain⟨cB,h3⟩:=h2 (by simpa using hw)
   exact⟨fun _ _=>trivial,nS hK hQ l _ _ _ _ h3 (zO hs cB)⟩
def DM(M:Nat->Prop)(cg:Place)(H0:Hp)(w0:World)(n:Nat)(cx:Cx)(Q:eS->S->Prop)(e:Exit)(a:Act)(w:World):Prop:=
 ∃x s φ,Q x s/\bU M cg H0 w0 n cx φ s a w/\match e,x with
  | .normal, .normal=>True
  | .exit i, .exit j=>i=j
  | .ret, .ret=>True
  | .panic ch, .bF v=>∃val,ch=[{v:=val,recovered:=false}]/\V.den (ak M φ s.H) φ s.H w v val
  |_,_=>False
section
variable {Q:Exit->Act->World->Prop}
theorem fT{m:Nat}:(dy ro).room m:=fun d hd=>by simp[dy]at hd
theorem nT{c:Code}(h:c.wpIn (dy ro) k P Q a w):c.rQ P ro Q a w:=fun b k cs sn _=>h b k cs sn trivial fT
theorem fU{c:Code}{Q':Exit->Act->World->Prop}(h:c.rQ P ro Q a w)(hq:∀e a w,Q e a w->Q' e a w):c.rQ P ro Q' a w:=
 fun b k cs sn hb=>let⟨e,a',w',q,r⟩:=h b k cs sn hb;⟨e,a',w',hq _ _ _ q,r⟩
theorem DN(h:Q .ret a w):Code.ret.rQ P ro Q a w:=nT (k:=0) (wpIn_ret h)
theorem zP{id:Nat}(h:Q (.exit id) a w):(Code.exit id).rQ P ro Q a w:=nT (k:=0) (wpIn_exit h)
theorem xu{x y:Code}(h:x.rQ P ro (Exit.then (y.rQ P ro Q) Q) a w):(Code.seq x y).rQ P ro Q a w:=by
 intro b k cs sn hb
 have h0:(lone (b.atR a (.code (.seq x y)::k)) cs w).fenced P (dy ro):=fenced_calm (n:=0) trivial fT rfl
 obtain⟨e,na,iP,hq,cR⟩:=h b (.code y::k) cs sn hb
 cases e with
 |normal=>
  obtain⟨RC,XC,ql,oV,jG⟩:=hq b k cs sn hb
  exact⟨RC,XC,ql,oV, .of_steps (.head h0 stepR_seq cR) jG⟩
 |exit id=>exact He
 |goto l=>exact He
 |ret=>exact He
 |panic ch=>exact He
 |outgrown=>exact He
theorem oW{c:Operand}{x y:Code}{t:Bool}(hc:a.eval c= .bool t)(h:(if t then x else y).rQ P ro Q a w):(Code.cond c x y).rQ P ro Q a w:=
 fun b k cs sn hb=>let⟨e,a',w',q,r⟩:=h b k cs sn hb;⟨e,a',w',q, .of_steps (.one (fenced_calm (n:=0) trivial fT rfl) (stepR_cond hc)) r⟩
theorem FI{id:Nat}{c:Code}(h:c.rQ P ro (Exit.inBlock id Q) a w):(Code.block id c).rQ P ro Q a w:=by
 intro b k cs sn hb
 have h0:(lone (b.atR a (.code (.block id c)::k)) cs w).fenced P (dy ro):=fenced_calm (n:=0) trivial fT rfl
 obtain⟨e,na,iP,hq,cR⟩:=h b (.inBlock id::k) cs sn hb
 cases e with
 |normal=>exact⟨.normal,na,iP,hq, .head h0 stepR_block (StepsIn.trans cR (.one (fenced_calm (n:=0) trivial fT rfl) stepR_inBlock))⟩
 |exit BM=>
  by_cases au:BM=id
  ·simp only[Exit.inBlock,au,if_true]at hq
   exact⟨.normal,na,iP,hq, .head h0 stepR_block (cR.1 k (by simp[exitTo,au]))⟩
  ·simp only[Exit.inBlock,au,if_false]at hq
   have this:(id==BM)=false:=by simp;exact fun h=>au h.symm
   have hx:exitTo BM (.inBlock id::k)=exitTo BM k:=by simp[exitTo,this]
   exact⟨.exit BM,na,iP,hq,fun k' hk=> .head h0 stepR_block (cR.1 k' vo),
    fun xm hk=>let⟨k₁,h1,h2⟩:=cR.2 xm vo;⟨k₁,h1, .head h0 stepR_block h2⟩⟩
 |goto l=>
  have hx:gotoIn l (.inBlock id::k)=gotoIn l k:=by simp[gotoIn]
  exact⟨_,na,iP,hq,fun k' hk=> .head h0 stepR_block (cR.1 k' vo),
   fun xm hk=>let⟨k₁,h1,h2⟩:=cR.2 xm vo;⟨k₁,h1, .head h0 stepR_block h2⟩⟩
 |ret=>exact QY
 |panic ch=>exact QY
 |outgrown=>exact QY
theorem jy{b:Frame}{k:List Item}{cs:List Frame}{c:Code}:step P (lone (b.atR a (.code (.scope c)::k)) cs w)= .next (lone (b.atR a (.code c:: .inScope c::k)) cs w):=
 step_lone_go (by simp[stepG,stepG.exec,Frame.atR])
theorem u1{b:Frame}{k:List Item}{cs:List Frame}{c:Code}:step P (lone (b.atR a (.inScope c::k)) cs w)= .next (lone (b.atR a k) cs w):=
 step_lone_go (by simp[stepG,stepG.exec,Frame.atR])
theorem vR{c:Code}(h:c.rQ P ro Q a w)(hg:∀l a w, ¬Q (.goto l) a w):(Code.scope c).rQ P ro Q a w:=by
 intro b k cs sn hb
 have h0:(lone (b.atR a (.code (.scope c)::k)) cs w).fenced P (dy ro):=fenced_calm (n:=0) trivial fT rfl
 obtain⟨e,na,iP,hq,cR⟩:=h b (.inScope c::k) cs sn hb
 cases e with
 |normal=>exact⟨.normal,na,iP,hq, .head h0 jy (StepsIn.trans cR (.one (fenced_calm (n:=0) trivial fT rfl) u1))⟩
 |exit BM=>
  have hx:exitTo BM (.inScope c::k)=exitTo BM k:=by simp[exitTo]
  exact⟨.exit BM,na,iP,hq,fun k' hk=> .head h0 jy (cR.1 k' vo),
   fun xm hk=>let⟨k₁,h1,h2⟩:=cR.2 xm vo;⟨k₁,h1, .head h0 jy h2⟩⟩
 |goto l=>exact(hg _ _ _ hq).elim
 |ret=>exact QZ
 |panic ch=>exact QZ
 |outgrown=>exact QZ
def s8(P:Program)(l:Nat)(Q:Exit->Act->World->Prop)(a':Act):Ending->World->Prop
 | .returned _,Cj=>∃jump rR,(Instr.endLoop l).run P Cj= .ok jump rR/\(match jump with|none=>Q .normal a' rR|some c=>c.rQ P none Q a' rR)
 | .panicked chain,Cj=>Q (.panic chain) a' Cj
 | .outgrown,_=>LetsOut Q
theorem u3{g:Operand}{ps:Array Tmp}{assign body:Code}
 (h:∀fn,fn<P.funcs.size->∃ (l:Nat) (mark:List Deferred) (iP:World) (d:Deferred) (vS:World) (f:FuncId) (args:Array Value) (ql:World),
  (Instr.enterLoop fn a.tmps ps assign body (dy none).round).run P w= .ok (l,mark) iP/\(resolve a.eval (rangeCall g l) 0).run P iP= .ok d vS/\
  (invoke d.target d.args).run P vS= .ok (.enter f args) ql/\CallsIn (dy none) 0 P f args ql (s8 P l Q {a with defers:=mark++a.defers})):
 (Code.rangeFunc g ps assign body).rQ P none Q a w:=by
 intro b k cs sn hb
 obtain⟨l,mark,iP,d,vS,f,args,ql,he,xw,hinv,hF,eu⟩:=h b.fn hb
 rw[show(dy none).round=b.roundOf from sn.symm]at he
 have calm:∀ (m:Machine),m.fenced P (dy none)↔m.fenced P Fence.wide:=fun m=>Iff.rfl
 have h0:(lone (b.atR a (.code (.rangeFunc g ps assign body)::k)) cs w).fenced P (dy none):=(calm _).2 (fenced_wide P _)
 have kX:=stepR_rangeFunc (P:=P) (b:=b) (a:=a) (k:=k) (cs:=cs) (w:=w) he xw hinv
 obtain⟨e,Cj,fr,hR,Ck,GX,Iq⟩:=eu (b.atR {a with defers:=mark++a.defers} (.inRangeFunc l::k)::cs) fT
 cases e with
 |outgrown=>
  obtain⟨abv,abw,hq⟩:=hR
  exact⟨.outgrown,abv,abw,hq, .inr (Outgrown.of_steps (.one kX) Ck)⟩
 |returned v=>
  obtain⟨jump,rR,cw,hj⟩:=hR
  have OI:StepsIn (Machine.fenced P (dy none)) P (lone (b.atR a (.code (.rangeFunc g ps assign body)::k)) cs w) (lone (b.atR {a with defers:=mark++a.defers} ((jump.map Item.code).toList++k)) cs rR):=by
   refine .head h0 kX (StepsIn.trans Ck (.head ((calm _).2 (fenced_wide P _)) ?_ (.one ((calm _).2 (fenced_wide P _)) (stepR_endRangeFunc cw))))
   rw[<- finish_atR_inRangeFunc l v];exact step_leave_returned Iq
  cases jump with
  |none=>exact⟨.normal,_,rR,hj,OI⟩
  |some c=>
   obtain⟨e',a'',abx,hq,cR⟩:=hj b k cs sn hb
   exact⟨e',a'',abx,hq, .of_steps OI cR⟩
 |panicked chain=>
  refine⟨.panic chain,_,Cj,hR, .inRangeFunc l::k, .head h0 kX (StepsIn.trans Ck (.one ((calm _).2 (fenced_wide P _)) ?_))⟩
  rw[<- Frame.raise_atR];exact step_leave_panicked Iq
end
theorem vT(hH:ay M φ H w){id l:Nat}(dQ:H.us id){nf m:Nat}{env:List V}{ps:List Nat}{iT eF:IC}{st st':LoopState}{pd pd':Option jo}(ho:H.o id= .loop nf m env ps iT eF st pd)(dN:φ id= .pointer (some ⟨l,0,none⟩)):
 ∃r,w.heap[l]? =some (.loop r)/\r.state=st/\r.pending=pd.map jo.code/\
  ay M φ (H.put [(id, .loop nf m env ps iT eF st' pd')]) {w with heap:=w.heap.setIfInBounds l (.loop {r with state:=st',pending:=pd'.map jo.code})}/\
  Trans φ H w φ (H.put [(id, .loop nf m env ps iT eF st' pd')]) {w with heap:=w.heap.setIfInBounds l (.loop {r with state:=st',pending:=pd'.map jo.code})}:=by
 have aZ:=hH.ok id
 simp only[aO,ho]at aZ
 obtain⟨b,r,h1,h2,h0,h3,h4,h5,h6,h7,h8,h9⟩:=aZ
 rw[dN]at h1;simp at h1;subst h1
 refine⟨r,h2,h3,h4, ?_⟩
 have BK:dx (· =l) w {w with heap:=w.heap.setIfInBounds l (.loop {r with state:=st',pending:=pd'.map jo.code})}:=
  ⟨rfl,rfl,rfl,aI,fun j _ hj=>(MapKept.heap_set h2).2 j hj⟩
 have vI:(H.o id).live=true:=by rw[ho];rfl
 have Cf:c8 (φ id)=some l:=by rw[dN];rfl
 have ht:=ek (w:=w) (w':={w with heap:=w.heap.setIfInBounds l (.loop {r with state:=st',pending:=pd'.map jo.code})}) dQ vI Cf BK (.loop nf m env ps iT eF st' pd') ee ee
 refine⟨gz hH dQ vI Cf BK _ ee ee ?_,ht⟩
 unfold aO
 simp only[bE,aJ,if_true]
 exact⟨l,_,dN,(MapKept.heap_set h2).1,h0,rfl,rfl,h5,h6,h7,h8,fun i=>V.aM ht _ _ (h9 i)⟩
theorem iq{l:Nat}{r:Loop}(o:Obj)(hb:w.heap[l]? =some (.loop r)):(setObj l o).run P w= .ok () {w with heap:=w.heap.setIfInBounds l o}:=by
 simp[setObj,Sem.run,hb]
theorem jH{l:Nat}{r:Loop}(hb:w.heap[l]? =some (.loop r)):(Instr.getLoop l).run P w= .ok r w:=by
 simp[Instr.getLoop,getObj,Sem.run,hb,Result.andThen]
end
def nU(Q:eS->S->Prop)(pd:Option jo)(s:S):Prop:=
 match pd with
 |none=>Q .normal s
 |some .ret=>Q .ret s
 |some (.exit id)=>Q (.exit id) s
def zQ(P:Program)(n:Nat)(g:V)(ps:List Nat)(iT eF:IC)(Q:eS->S->Prop)(s:S):Prop:=
 ∃env,(∀i,ba env i= .aa\/ba env i=s.env i)/\
  match g with
  | .func (.func f) first cap=>nu P f (first++[.iD s.nx]++cap) (aF s.o s.nx (.loop P.funcs.size n env ps iT eF .ready none)) (s.nx+1)
    (fun _ o' nx'=>∃nf m e p c d st pd,o' s.nx= .loop nf m e p c d st pd/\st≠ .busy/\nU Q pd ⟨s.env,aF o' s.nx (.loop nf m e p c d .exhausted pd),nx'⟩)
    (fun v o' nx'=>Q (.bF v) ⟨s.env,o',nx'⟩)
  |_=>False
def XE(P:Program)(n b:Nat)(g:Operand)(ps:List Nat)(iT eF:IC)(Q:eS->S->Prop)(s:S):Prop:=∃s',(s'=s\/bC b s s')/\zQ P n (s'.ev g) ps iT eF Q s'
def iA(P:Program)(n b:Nat)(rd:Bool):Code->(eS->S->Prop)->S->Prop
 | .skip,Q,s=>Q .normal s
 | .label _,Q,s=>Q .normal s
 | .scope x,Q,s=>iA P n b rd x Q s
 | .region _ ops false,Q,s=>xp P n ops (fun v s=>Q (.bF v) s) (Q .normal) ops.toList s
 | .region id ops true,Q,s=>∀M cg H0 w0 cx φ a w ro k,bU M cg H0 w0 n cx φ s a w->(Code.region id ops true).wpIn (dy ro) k P (DM M cg H0 w0 n cx Q) a w
 | .seq x y,Q,s=>iA P n b rd x (oT (iA P n b rd y Q) Q) s
 | .cond c x y,Q,s=>match s.ev c with
   | .d (.bool t)=>(t=true->iA P n b rd x Q s)/\(t=false->iA P n b rd y Q s)
   | .eN=>iA P n b rd x Q s/\iA P n b rd y Q s
   |_=>False
 | .block id x,Q,s=>iA P n b rd x (eO id Q) s
 | .loop x,Q,s=>∃ (J:Nat->S->Prop),(∃m s1,bC b s s1/\J m s1)/\∀m s0,J m s0->iA P n b rd x (fun e s=>match e with| .normal=>∃m' s1,m'<m/\bC b s s1/\J m' s1|e=>Q e s) s0
 | .exit id,Q,s=>Q (.exit id) s
 | .ret,Q,s=>Q .ret s
 | .rangeFunc g ps x y,Q,s=>rd=false/\XE P n b g ps.toList (low n x) (low n y) Q s
 |_,_,_=>False
section
variable {P:Program}{M:Nat->Prop}{φ:Place}{H:Hp}{w w':World}{cg:Place}{H0:Hp}{w0:World}{n b:Nat}{s:S}{a:Act}{cx:Cx}{ro:Option Nat}{k:Nat}
theorem Cm(hb:∀id,H0.us id->id<b)(hs:bU M cg H0 w0 n cx φ s a w){s':S}(h:bC b s s'):∃aD,bU M cg H0 w0 n cx aD s' a w:=by
 obtain⟨aD,h1,h2,h3,h4,h5,h6⟩:=h M φ w (fun i=>a.tmps.getD i undef) hs.heap hs.env
 refine⟨aD,h1,⟨hs.tr.keep,fun k hk=>hs.tr.grow k (h3 k hk),⟨fun id hu=>Nat.lt_of_lt_of_le (hb id hu) h4,fun id hu hr=> ?_,fun id e' hu he=> ?_⟩⟩,hs.size, ?_,h2⟩
 ·obtain⟨g1,g2⟩:=h5 id (hb id hu) hr
  obtain⟨g3,g4⟩:=hs.tr.rel.row id hu g1
  exact⟨g3,g2.trans g4⟩
 ·obtain⟨e,g1,g2,g3⟩:=h6 id e' (hb id hu) he
  obtain⟨e0,k1,k2,k3⟩:=hs.tr.rel.ep id e hu g1
  refine⟨e0,k1,Nat.le_trans k2 g2,fun heq=> ?_⟩
  have a1:e0=e:=ah
  have a2:e=e':=ah
  exact(g3 a2).trans (k3 a1)
 ·obtain⟨ms,g1,g2,g3,g4⟩:=hs.defers
  exact⟨ms,g1,g2,g3,fun r hr=>⟨(g4 r hr).1,(g4 r hr).2.1,fun hl=>(g4 r hr).2.2 (h3 r hl)⟩⟩
theorem xy{c:Code}{Q:Exit->Act->World->Prop}(J:Nat->Act->World->Prop)(round:∀m a w,J m a w->c.rQ P ro (Exit.then (fun a' w'=>∃m',m'<m/\J m' a' w') Q) a w):
 ∀m a w,J m a w->(Code.loop c).rQ P ro Q a w:=by
 intro m a w h0 fr kk cs sn hb
 have hr:(dy ro).room (cs.length+1+0):=fun d hd=>by simp[dy]at hd
 have key:∀m a w,J m a w->∃e a' w',Q e a' w'/\ArrivesIn (Machine.fenced P (dy ro)) P (lone (fr.atR a (.code c:: .inLoop c::kk)) cs w) fr kk cs e a' w':=by
  intro m
  induction m using Nat.strongRecOn with
  |_ m ih=>
   intro a w hJ
   obtain⟨e,a1,w1,hq,cR⟩:=round m a w hJ fr (.inLoop c::kk) cs sn hb
   cases e with
   |normal=>
    obtain⟨m',b8,hJ'⟩:=hq
    obtain⟨e2,a2,w2,L2,DO⟩:=ih m' b8 a1 w1 hJ'
    exact⟨e2,a2,w2,L2, .of_steps (StepsIn.trans cR (.one (fenced_calm trivial hr rfl) stepR_inLoop)) DO⟩
   |_=>exact⟨_,a1,w1,hq, .pass (x:= .inLoop c) rfl (fun _ _=> .inl aI) cR⟩
 obtain⟨e,a',w',hq,cR⟩:=key m a w h0
 exact⟨e,a',w',hq, .of_steps (.one (fenced_calm trivial hr rfl) stepR_loop) cR⟩
theorem vU(hs:bU M cg H0 w0 n cx φ s a w)(nd:cx.rd=false)(sn:ro=none){g:Operand}{ps:Array Tmp}{x y:Code}{Q:eS->S->Prop}(h:zQ P n (s.ev g) ps.toList (low n x) (low n y) Q s):
 (Code.rangeFunc g ps x y).rQ P ro (DM M cg H0 w0 n cx Q) a w:=by
 subst sn
 obtain⟨env,dI,h⟩:=h
 refine u3 fun fn GX=> ?_
 let Cn:Loop:={state:= .ready,pending:=none,fn:=fn,tmps:=a.tmps,params:=ps,assign:=x,body:=y,defers:=w.heap.size}
 let w1:World:=(w.alloc (.deferred (some []))).alloc (.loop Cn)
 let l:Nat:=w.heap.size+1
 have kX:(Instr.enterLoop fn a.tmps ps x y (dy none).round).run P w= .ok (l,[mark w.heap.size]) w1:=by
  simp[Instr.enterLoop,dy,mark,w1,l,Cn]
 have Co:dx (fun _=>False) w w1:=by
  have k1:=ck w (.deferred (some []))
  have k2:=ck (w.alloc (.deferred (some []))) (.loop Cn)
  exact⟨k2.os.trans k1.os,k2.tape.trans k1.tape,k2.output.trans k1.output,Nat.le_trans k1.size k2.size,fun j hj hm=>(k2.block j (Nat.lt_of_lt_of_le hj k1.size) hm).trans (k1.block j hj hm)⟩
 let il:=aF φ s.nx (.pointer (some ⟨l,0,none⟩))
 let s1:S:=⟨s.env,aF s.o s.nx (.loop P.funcs.size n env ps.toList (low n x) (low n y) .ready none),s.nx+1⟩
 have cO: ¬s.H.us s.nx:=by simp[S.H]
 have dH:∀b,c8 (.pointer (some ⟨l,0,none⟩))=some b->w.heap.size<=b/\b<w1.heap.size:=by
  intro b hb;simp[c8]at hb;subst hb;simp[l,w1]
 have BJ:=dO (φ:=φ) (H:=s.H) Co cO (.loop P.funcs.size n env ps.toList (low n x) (low n y) .ready none) (.pointer (some ⟨l,0,none⟩)) fun b hb=>(dH b hb).1
 have LS:(w.alloc (.deferred (some []))).heap.size=w.heap.size+1:=aI
 have vI:w1.heap[l]? =some (.loop Cn):=by
  have:=heap_alloc_new (w.alloc (.deferred (some []))) (.loop Cn)
  rwa [LS]at this
 have Fc:=gW hs.heap Co cO (.loop P.funcs.size n env ps.toList (low n x) (low n y) .ready none) (.pointer (some ⟨l,0,none⟩)) dH (by
  unfold aO
  simp only[bE,aJ,if_true]
  refine⟨l,Cn,rfl,vI,GX,rfl,rfl,rfl,hs.size,rfl,rfl,fun i=> ?_⟩
  rcases dI i with e|e
  ·rw[e];trivial
  ·rw[e];exact V.aM BJ _ _ (hs.env i))
 have vV:bU M cg H0 w0 n cx il s1 {a with defers:=mark w.heap.size::a.defers} w1:=by
  have base:=ef hs Fc BJ (o':=aF s.o s.nx (.loop P.funcs.size n env ps.toList (low n x) (low n y) .ready none)) (nx':=s.nx+1) rfl (Ik fun id au=>by simp at au;exact .inr au)
  refine⟨base.heap,base.tr,base.size, ?_,base.env⟩
  obtain⟨ms,g1,g2,g3,g4⟩:=base.defers
  obtain⟨ms',q1,q2,q3,q4⟩:=hs.defers
  have hmm:ms.map mark=ms'.map mark:=by
   have:ms.map mark++cx.base=ms'.map mark++cx.base:=g1.symm.trans q1
   exact List.append_cancel_right this
  have RD:ms=ms':=by
   have hm:∀a b,mark a=mark b->a=b:=fun a b h=>by simpa[mark]using h
   exact List.map_inj_right hm |>.1 hmm
  refine⟨w.heap.size::ms,by rw[g1];rfl,List.nodup_cons.2 ⟨fun hm=> ?_,g2⟩,(fun h=>by rw[nd]at h;cases h),fun r hr=> ?_⟩
  ·have:=(q4 w.heap.size (RD ▸ hm)).2.1
   rw[Array.getElem?_eq_none (Nat.le_refl _)]at this;cases this
  ·rcases List.mem_cons.1 hr with rfl|hr
   ·refine⟨hs.tr.keep.size,(RowKit.Below.heap_alloc (w.alloc (.deferred (some []))) (.loop Cn) w.heap.size (by rw[LS];omega)).trans (heap_alloc_new w _), ?_⟩
    rintro⟨id,i1,i2⟩
    by_cases e:id=s.nx
    ·subst e;simp[il,c8,l]at i2
    ·have i1':(s.H.o id).live=true:=by simpa[s1,S.H,e]using i1
     have i2':c8 (φ id)=some w.heap.size:=by simpa[il,e]using i2
     have:=(hs.heap.ours _ ⟨id,i1',i2'⟩).2
     omega
   ·exact g4 r hr
 have aby:V.den (ak M il s1.H) il s1.H w1 (.iD s.nx) (.func (.yield l) #[] #[]):=
  ⟨rfl,by simp[s1,S.H],fun _=>⟨l,by simp[il],rfl⟩⟩
 have hg:=lU (M:=M) (φ:=il) (H:=s1.H) (w:=w1) s1 {a with defers:=mark w.heap.size::a.defers} vV.env g
 have abz:s1.ev g=s.ev g:=by cases g<;>rfl
 rw[abz]at hg
 have hae:({a with defers:=mark w.heap.size::a.defers}:Act).eval g=a.eval g:=rfl
 rw[hae]at hg
 split at h
 ·rename_i f first cap hgv
  rw[hgv]at hg
  obtain⟨fa,ca,Ip,Dv,Rt⟩:=hg
  have fin:∀ (all:List V) (o2:Nat->ab) (s2:S),s2=⟨s.env,o2,s.nx+1⟩->bU M cg H0 w0 n cx il s2 {a with defers:=mark w.heap.size::a.defers} w1->V.aC (ak M il s2.H) il s2.H w1 all (fa++#[Value.func (.yield l) #[] #[]]++ca).toList->(o2 s.nx).bZ=true->
   de P f all o2 (s.nx+1) (fun _ o' nx'=>∃nf m e p c d st pd,o' s.nx= .loop nf m e p c d st pd/\st≠ .busy/\nU Q pd ⟨s.env,aF o' s.nx (.loop nf m e p c d .exhausted pd),nx'⟩) (fun v o' nx'=>Q (.bF v) ⟨s.env,o',nx'⟩)->
   ∃ (l:Nat) (mark:List Deferred) (iP:World) (d:Deferred) (vS:World) (f:FuncId) (args:Array Value) (ql:World),
     (Instr.enterLoop fn a.tmps ps x y (dy none).round).run P w= .ok (l,mark) iP/\(resolve a.eval (rangeCall g l) 0).run P iP= .ok d vS/\
     (invoke d.target d.args).run P vS= .ok (.enter f args) ql/\CallsIn (dy none) 0 P f args ql (s8 P l (DM M cg H0 w0 n cx Q) {a with defers:=mark++a.defers}):=by
   intro all o2 s2 abA La bc bJ hC
   subst abA
   have eu:=hC.2 M il w1 _ La.heap bc
   refine⟨l,[mark w.heap.size],w1,{target:= .fn (.func f) ca,args:=fa++#[Value.func (.yield l) #[] #[]]},w1,f,fa++#[Value.func (.yield l) #[] #[]]++ca,w1,kX, ?_, ?_,cM (eu.mono fun e w' ⟨aD,o',nx',v,k1,k2,k3⟩=> ?_)⟩
   ·simp only[resolve,Ip,Deferred.ofValue,List.map_toArray,List.map_cons,List.map_nil,Sem.run_pure]
    rfl
   ·simp[invoke,ky hC.1]
   ·cases e with
    |returned val=>
     obtain⟨k4,nf,m,e,p,c,d,st,pd,k5,k6,k7⟩:=k3
     have DP:bU M cg H0 w0 n cx aD ⟨s.env,o',nx'⟩ {a with defers:=mark w.heap.size::a.defers} w':=ef La k1 k2 rfl fun id hu=>hu
     have RE:aD s.nx= .pointer (some ⟨l,0,none⟩):=by
      have:=(k2.rel.row s.nx (show s.nx<s.nx+1 from ah) (by show(o' s.nx).bZ=true;rw[k5];rfl)).2
      rw[this];simp[il]
     have b8:s.nx<nx':=k2.rel.us s.nx (show s.nx<s.nx+1 from ah)
     obtain⟨r,r1,r2,r3,r4,r5⟩:=vT (st':= .exhausted) (pd':=pd) k1 b8 (show(hp o' nx').o s.nx=_ from k5) RE
     have cw:(Instr.endLoop l).run P w'= .ok (pd.map jo.code) {w' with heap:=w'.heap.setIfInBounds l (.loop {r with state:= .exhausted,pending:=pd.map jo.code})}:=by
      have e1:({r with state:= .exhausted}:Loop)={r with state:= .exhausted,pending:=pd.map jo.code}:=by rw[<- r3]
      have hnb:(r.state==LoopState.busy)=false:=by rw[r2];cases st<;>first|rfl|exact absurd rfl k6
      simp only[Instr.endLoop,Sem.run_bind,jH r1,Result.andThen_ok,hnb,Bool.false_eq_true,if_false,Sem.run_pure]
      rw[iq _ r1,e1]
      simp[r3]
     have UM:=ef DP r4 r5 (o':=aF o' s.nx (.loop nf m e p c d .exhausted pd)) (nx':=nx') rfl fun id hu=>by
      simp only[dF]at hu
      rcases hu with hu|hu
      ·exact hu
      ·subst hu;exact b8
     refine⟨pd.map jo.code,_,cw, ?_⟩
     cases pd with
     |none=>exact⟨.normal,_,_,k7,UM,trivial⟩
     |some j=>
      cases j with
      |ret=>exact DN ⟨.ret,_,_,k7,UM,trivial⟩
      |exit id=>exact zP ⟨.exit id,_,_,k7,UM,rfl⟩
    |panicked ch=>
     obtain⟨val,rfl,k4,k5⟩:=k3
     have DP:bU M cg H0 w0 n cx aD ⟨s.env,o',nx'⟩ {a with defers:=mark w.heap.size::a.defers} w':=ef La k1 k2 rfl fun id hu=>hu
     exact⟨.bF v,_,_,k5,DP,val,rfl,k4⟩
    |outgrown=>exact k3.elim
  have l6:V.aC (ak M il s1.H) il s1.H w1 (first++[V.iD s.nx]++cap) (fa++#[Value.func (.yield l) #[] #[]]++ca).toList:=by
   rw[Array.toList_append,Array.toList_append]
   exact V.oz Dv ⟨_,[],rfl,aby,rfl⟩ Rt
  rcases h with hC|hC
  ·exact fin _ _ s1 rfl vV l6 (by simp;rfl) hC
  ·have oo:s1.o=aF s.o s.nx (.loop P.funcs.size n env ps.toList (low n x) (low n y) .ready none):=rfl
   obtain⟨f1,f2,f3,f4,f5⟩:=cC vV.heap (cQ s1.o (first++[V.iD s.nx]++cap)) (fS _ _ s1.o l6)
   have fh:s1.H.put (cc s1.H.o (cQ s1.o (first++[V.iD s.nx]++cap)))=hp (put s1.o (cc s1.o (cQ s1.o (first++[V.iD s.nx]++cap)))) s1.nx:=kx (by rw[sd];exact fS _ _ s1.o l6)
   have OJ:=Io f1 _ _ f3 (V.aP f2 _ _ l6)
   have OK:((s1.H.put (cc s1.H.o (cQ s1.o (first++[V.iD s.nx]++cap)))).o s.nx).bZ=true:=by
    by_cases hm:s.nx∈cQ s1.o (first++[V.iD s.nx]++cap)
    ·rw[f3 _ hm];simp[s1,S.H,ab.fz,ab.bZ]
    ·rw[f4 _ hm];simp[s1,S.H,ab.bZ]
   rw[fh]at f1 f2 OJ OK
   exact fin _ (put s1.o (cc s1.o (cQ s1.o (first++[V.iD s.nx]++cap)))) ⟨s.env,_,s.nx+1⟩ rfl (ef vV f1 f2 rfl fun id hu=>hu) OJ OK hC
 ·exact h.elim
end
end Go.Proofs.YtnkamdiiakdkgaaGreat
