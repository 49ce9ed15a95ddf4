/-
  A PART OF THE PROOF. Conditions: none.
-/
import Derived.RangeFuncLeaves
import Derived.TacticsIn
import Derived.RecoverIn
import Derived.Test.YtlhemmpklhhgoaaGreatQc5
set_option linter.unusedSimpArgs false
set_option linter.unusedVariables false
namespace Go.Proofs.YtlhemmpklhhgoaaGreat
inductive R where
 |ret (ds:List D)|bf (d:D)
def R.is (B:Nat->Prop)(w:World):R->Ending->Prop
 | .ret [x], .returned v=>D.den B w x v
 | .ret ds, .returned v=>∃a,v= .tuple a/\D.az B w ds a.toList
 | .bf d, .panicked chain=>∃v,chain=[{v:=v,recovered:=false}]/\D.den B w d v
 |_,_=>False
def Enters(P:Program)(f:FuncId):Prop:=∃fn,P.funcs[f]? =some fn/\(fn.name== "runtime.NumGoroutine")=false/\fn.body.isNone=false
def aY(P:Program)(f:FuncId)(ds:List D)(out:R):Prop:=
 Enters P f/\∀ (M:Nat->Prop) (w:World) (vals:Array Value),(∀b,M b->b<w.heap.size)->D.az M w ds vals.toList->
  Calls P f vals w fun e w'=>dy (fun _=>False) w w'/\out.is M w' e
def hp(o:Nat->aa)(nx:Nat):Hp:=⟨o,fun id=>id<nx⟩
def kB(M:Nat->Prop)(φ:Place)(H:Hp)(w:World)(K X:V->(Nat->aa)->Nat->Prop)(e:Ending)(w':World):Prop:=
 ∃aA o' nx' v,ao M aA (hp o' nx') w'/\Trans φ H w aA (hp o' nx') w'/\match e with
  | .returned val=>V.den (ai M aA (hp o' nx')) aA (hp o' nx') w' v val/\K v o' nx'
  | .panicked ch=>∃val,ch=[{v:=val,recovered:=false}]/\V.den (ai M aA (hp o' nx')) aA (hp o' nx') w' v val/\X v o' nx'
  | .outgrown=>False
def dV(P:Program)(f:FuncId)(args:List V)(o:Nat->aa)(nx:Nat)(K X:V->(Nat->aa)->Nat->Prop):Prop:=
 Enters P f/\∀ (M:Nat->Prop) (φ:Place) (w:World) (vals:Array Value),ao M φ (hp o nx) w->V.az (ai M φ (hp o nx)) φ (hp o nx) w args vals.toList->
  Calls P f vals w (kB M φ (hp o nx) w K X)
def cV(P:Program)(id:Nat)(args:List V)(o:Nat->aa)(nx:Nat)(K X:V->(Nat->aa)->Nat->Prop):Prop:=
 (o id).bI=true/\∀ (M:Nat->Prop) (φ:Place) (w:World) (vals:Array Value) (b:Nat),ao M φ (hp o nx) w->V.az (ai M φ (hp o nx)) φ (hp o nx) w args vals.toList->φ id= .pointer (some ⟨b,0,none⟩)->
  ∃f tmps assign body,(Instr.yield b vals).run P w= .ok (.round b f tmps assign body) w/\∀n,RoundIn Fence.wide n P b f tmps assign body w (kB M φ (hp o nx) w K X)
theorem kB.mono {M:Nat->Prop}{φ:Place}{H:Hp}{w:World}{K X K' X':V->(Nat->aa)->Nat->Prop}(hK:∀v o n,K v o n->K' v o n)(hX:∀v o n,X v o n->X' v o n){e:Ending}{w':World}(h:kB M φ H w K X e w'):kB M φ H w K' X' e w':=by
 obtain⟨aA,o',nx',v,h1,h2,h3⟩:=h
 refine⟨aA,o',nx',v,h1,h2, ?_⟩
 cases e with
 |returned val=>exact⟨h3.1,hK _ _ _ h3.2⟩
 |panicked ch=>obtain⟨val,a,b,c⟩:=h3;exact⟨val,a,b,hX _ _ _ c⟩
 |outgrown=>exact h3
theorem dV.mono {P:Program}{f:FuncId}{args:List V}{o:Nat->aa}{nx:Nat}{K X K' X':V->(Nat->aa)->Nat->Prop}(hK:∀v o n,K v o n->K' v o n)(hX:∀v o n,X v o n->X' v o n)(h:dV P f args o nx K X):dV P f args o nx K' X':=
 ⟨h.1,fun M φ w vals h1 h2=>(h.2 M φ w vals h1 h2).mono fun _ _ h=>h.mono hK hX⟩
theorem cV.mono {P:Program}{id:Nat}{args:List V}{o:Nat->aa}{nx:Nat}{K X K' X':V->(Nat->aa)->Nat->Prop}(hK:∀v o n,K v o n->K' v o n)(hX:∀v o n,X v o n->X' v o n)(h:cV P id args o nx K X):cV P id args o nx K' X':=
 ⟨h.1,fun M φ w vals b h1 h2 h3=>let⟨f,t,a,c,h4,h5⟩:=h.2 M φ w vals b h1 h2 h3;⟨f,t,a,c,h4,fun n=>(h5 n).mono fun _ _ h=>h.mono hK hX⟩⟩
mutual
def D.flat:D->Bool
 | .sl _| .mp _ _=>false
 | .agg cs=>D.gX cs
 | .iface _ x=>x.flat
 |_=>true
def D.gX:List D->Bool
 |[]=>true
 |x::xs=>x.flat&&D.gX xs
end
mutual
theorem D.nq {B B':Nat->Prop}{w w':World}:∀ (x:D) (v:Value),x.flat=true->D.den B w x v->D.den B' w' x v
 | .int _ _,_,_,h| .bool _,_,_,h| .str _,_,_,h| .e9,_,_,h| .j6,_,_,h| .bK,_,_,h| .eJ,_,_,h=>h
 | .agg cs,_,hf,h=>by obtain⟨a,rfl,h,h2⟩:=h;exact⟨a,rfl,D.jE cs _ hf h,h2⟩
 | .sl es,_,hf,h=>by simp[D.flat]at hf
 | .mp _ _,_,hf,h=>by simp[D.flat]at hf
 | .iface t x,_,hf,h=>by obtain⟨u,rfl,h⟩:=h;exact⟨u,rfl,D.nq x u hf h⟩
theorem D.jE {B B':Nat->Prop}{w w':World}:∀ (xs:List D) (vs:List Value),D.gX xs=true->D.az B w xs vs->D.az B' w' xs vs
 |[],_,_,h=>h
 |x::xs,_,hf,h=>by
  obtain⟨u,us,rfl,h1,h2⟩:=h
  simp only[D.gX,Bool.and_eq_true]at hf
  exact⟨u,us,rfl,D.nq x u hf.1 h1,D.jE xs us hf.2 h2⟩
end
mutual
def D.kC:D->Bool
 | .mp _ _=>false
 | .agg cs=>D.jF cs
 | .sl es=>D.jF es
 | .iface _ x=>x.kC
 |_=>true
def D.jF:List D->Bool
 |[]=>true
 |x::xs=>x.kC&&D.jF xs
end
theorem eP.wZ {B B':Nat->Prop}{w w':World}{a:Addr}{cs:Array Value}
 (hb:∀b,mW w b-> ¬B b->w'.heap[b]? =w.heap[b]? /\ ¬B' b) (h:eP B w a cs):eP B' w' a cs:=by
 intro j u hj
 obtain⟨h1,h2⟩:=h j u hj
 have bQ:mW w a.block:=by simpa using lU h1
 exact Rs
mutual
theorem D.jj {B B':Nat->Prop}{w w':World}(hb:∀b,mW w b-> ¬B b->w'.heap[b]? =w.heap[b]? /\ ¬B' b):
 ∀ (x:D) (v:Value),x.kC=true->D.den B w x v->D.den B' w' x v
 | .int _ _,_,_,h| .bool _,_,_,h| .str _,_,_,h| .e9,_,_,h| .j6,_,_,h| .bK,_,_,h| .eJ,_,_,h=>by simpa[D.den]using h
 | .agg cs,_,hn,h=>by
   obtain⟨a,rfl,h,hf⟩:=h
   exact⟨a,rfl,D.kD hb cs _ hn h,hf⟩
 | .sl es,_,hn,h=>by
   obtain⟨base,len,cap,rfl,h1,h2,h3,sz,h4⟩:=h
   exact⟨base,len,cap,rfl,h1,h2,h3,sz,fun a ha=>⟨(h4 a ha).1,D.nr hb sz a es 0 hn (h4 a ha).2⟩⟩
 | .iface t d,_,hn,h=>by
   obtain⟨u,rfl,h⟩:=h
   exact⟨u,rfl,D.jj hb d u hn h⟩
 | .mp _ _,_,hn,_=>by simp[D.kC]at hn
theorem D.kD {B B':Nat->Prop}{w w':World}(hb:∀b,mW w b-> ¬B b->w'.heap[b]? =w.heap[b]? /\ ¬B' b):
 ∀ (ds:List D) (vs:List Value),D.jF ds=true->D.az B w ds vs->D.az B' w' ds vs
 |[],_,_,h=>h
 |d::ds,_,hn,h=>by
  obtain⟨u,us,rfl,h1,h2⟩:=h
  simp only[D.jF,Bool.and_eq_true]at hn
  exact⟨u,us,rfl,D.jj hb d u hn.1 h1,D.kD hb ds us hn.2 h2⟩
theorem D.nr {B B':Nat->Prop}{w w':World}(hb:∀b,mW w b-> ¬B b->w'.heap[b]? =w.heap[b]? /\ ¬B' b)(sz:Nat)(a:Addr):
 ∀ (es:List D) (i:Nat),D.jF es=true->D.elems B w sz a i es->D.elems B' w' sz a i es
 |[],_,_,_=>trivial
 |e::es,i,hn,h=>by
  obtain⟨⟨ev,h1,h2,h3⟩,h4⟩:=h
  simp only[D.jF,Bool.and_eq_true]at hn
  exact⟨⟨ev,h1,h2.wZ hb,D.jj hb e ev hn.1 h3⟩,D.nr hb sz a es (i+1) hn.2 h4⟩
end
def R.kC:R->Bool
 | .ret ds=>D.jF ds
 | .bf d=>d.kC
def R.flat:R->Bool
 | .ret ds=>D.gX ds
 | .bf d=>d.flat
def gY:List D->V
 |[x]=> .d x
 |ds=> .bC (ds.map .d)
inductive eM where
 |normal|exit (id:Nat)|ret|bf (v:V)
def aQ(env:Nat->V)(dst:Option Tmp)(v:V):Nat->V:=
 match dst with
 |some d=>aM env d v
 |none=>env
def ES(o:Nat->aa)(v:V):V:=match du o v with|some x=> .d x|none=>v
def cB(o:Nat->aa):List V->List Nat
 |[]=>[]
 |v::vs=>(match du o v with|some _=>v.ids|none=>[])++cB o vs
def lR(P:Program)(g:FuncId)(args:List V)(o:Nat->aa)(nx:Nat)(K X:V->(Nat->aa)->Nat->Prop):Prop:=
 dV P g args o nx K X\/dV P g (args.map (ES o)) (put o (cq o (cB o args))) nx K X
def q9(P:Program)(s:S)(g:FuncId)(all:List V)(K:V->(Nat->aa)->Nat->Prop)(X:V->(Nat->aa)->Nat->Prop):Prop:=
    (∃ds out,bD s.o all=some ds/\aY P g ds out/\(match out with
     | .ret rs=>K (gY rs) (put s.o (cq s.o (V.aV all))) (s.nx+1)
     | .bf x=>X (.d x) (put s.o (cq s.o (V.aV all))) (s.nx+1)))\/
    (∃ds out,bD s.o all=some ds/\aY P g ds out/\out.flat=true/\(match out with
     | .ret rs=>K (gY rs) s.o (s.nx+1)
     | .bf x=>X (.d x) s.o (s.nx+1)))\/
    (∃ds out,bD s.o all=some ds/\aY P g ds out/\out.kC=true/\(match out with
     | .ret rs=>K (gY rs) (put s.o (oC s.o (V.aV all))) (s.nx+1)
     | .bf x=>X (.d x) (put s.o (oC s.o (V.aV all))) (s.nx+1)))\/
    lR P g all s.o s.nx K X
def xp(P:Program)(s:S)(f:V)(args:List V)(K:V->(Nat->aa)->Nat->Prop)(X:V->(Nat->aa)->Nat->Prop):Prop:=
 match f with
 | .func (.func g) first cap=>q9 P s g (first++args++cap) K X
 | .jc id=>cV P id args s.o s.nx K X
 |_=>False
def JJ(P:Program)(t:TypeId):Bool:=
 match P.underlying t with
 |some (.pointer _)=>false
 |some _=>true
 |none=>false
def ra(P:Program)(m:String)(x:V):Option (FuncId×V):=
 match x with
 | .d (.iface t y)=>match P.info? t with
   |some ti=>match ti.methods.find? (·.name==m)with
    |some r=>match r.func with
     |some (f,false)=>if r.path.isEmpty=true/\JJ P t=true then some (f, .d y)else none
     |_=>none
    |none=>none
   |none=>none
 |_=>none
def eS(n:Nat):Option Tmp->Prop
 |some d=>d<n
 |none=>True
def XK(P:Program)(n:Nat)(s:S)(o:Oper)(X:V->S->Prop)(K:S->Prop):Prop:=
 eS n o.dst/\match o.op with
 | .call c=>match c.callee with
   | .value f=>xp P s (s.ev f) (c.args.toList.map s.ev) (fun v o' nx'=>K ⟨aQ s.env o.dst v,o',nx'⟩) (fun v o' nx'=>X v ⟨s.env,o',nx'⟩)
   | .invoke r m=>match ra P m (s.ev r)with
     |some (g,y)=>q9 P s g (y::c.args.toList.map s.ev) (fun v o' nx'=>K ⟨aQ s.env o.dst v,o',nx'⟩) (fun v o' nx'=>X v ⟨s.env,o',nx'⟩)
     |none=>False
   |_=>Jy P s s.nx o.op fun v Δ _=>K ⟨aQ s.env o.dst v,put s.o Δ,s.nx+1⟩
 | .panic x=>match s.ev x with
   | .d (.iface t y)=>X (.d (.iface t y)) s
   | .iface t y=>X (.iface t y) s
   |_=>False
 |op=>Jy P s s.nx op fun v Δ _=>K ⟨aQ s.env o.dst v,put s.o Δ,s.nx+1⟩
def u9(s:S)(ops:Array Oper)(g:Option (Nat×Bool))(A B:Prop):Prop:=
 match g with
 |none=>A
 |some (j,want)=>match px ops j with
  |some d=>match s.env d with
   | .d (.bool b)=>(b=want->A)/\(b≠want->B)
   | .bC []=>B
   |_=>False
  |none=>B
def vc(P:Program)(n:Nat)(ops:Array Oper)(X:V->S->Prop)(K:S->Prop):List Oper->S->Prop
 |[],s=>K s
 |o::l,s=>u9 s ops o.guard (XK P n s o X (vc P n ops X K l)) (eS n o.dst/\vc P n ops X K l ⟨aQ s.env o.dst (.bC []),s.o,s.nx+1⟩)
def bM(b:Nat)(s s':S):Prop:=
 ∀ (M:Nat->Prop) (φ:Place) (w:World) (tm:Nat->Value),ao M φ s.H w->(∀i,V.den (ai M φ s.H) φ s.H w (s.env i) (tm i))->
   ∃aA,ao M aA s'.H w/\(∀i,V.den (ai M aA s'.H) aA s'.H w (s'.env i) (tm i))/\(∀k,cu aA s'.H k->cu φ s.H k)/\b<=s'.nx/\
    (∀id,id<b->(s'.o id).bI=true->(s.o id).bI=true/\aA id=φ id)/\
    (∀id e',id<b->(s'.o id).bL=some e'->∃e,(s.o id).bL=some e/\e<=e'/\(e=e'->aA id=φ id))
def nu(K:S->Prop)(Q:eM->S->Prop)(e:eM)(s:S):Prop:=match e with| .normal=>K s|e=>Q e s
def dW(id:Nat)(Q:eM->S->Prop)(e:eM)(s:S):Prop:=match e with| .exit j=>if j=id then Q .normal s else Q (.exit j) s|e=>Q e s
def jG(P:Program)(s:S):List ResultVar->Option (List V)
 |[]=>some []
 | .tmp t::rs=>(jG P s rs).map (s.env t::·)
 | .cell a t::rs=>match s.env a with
   | .ptr id off=>match s.o id with
     | .row cs=>(dG P t cs off).bind fun v=>(jG P s rs).map (v::·)
     |_=>none
   |_=>none
def cc(vs:List V):Nat->V:=fun i=>vs.getD i (.bC [])
def ve(P:Program)(rs:List ResultVar)(out:R)(e:eM)(s:S):Prop:=
 match e with
 | .normal| .ret=>match jG P s rs with
   |some vs=>match bD s.o vs with
    |some ds=>out= .ret ds
    |none=>False
   |none=>False
 | .bf v=>match du s.o v with
   |some x=>out= .bf x
   |none=>False
 | .exit _=>False
theorem ET{P:Program}{rs:List ResultVar}{out:R}{s:S}(h:match jG P s rs with
 |some vs=>match bD s.o vs with
  |some ds=>out= .ret ds
  |none=>False
 |none=>False):∃vs ds,jG P s rs=some vs/\bD s.o vs=some ds/\out= .ret ds:=by
 split at h
 ·rename_i vs h1
  split at h
  ·rename_i xs h2;exact⟨vs,xs,h1,h2,h⟩
  ·exact h.elim
 ·exact h.elim
theorem EU{out:R}{s:S}{v:V}(h:match du s.o v with
 |some x=>out= .bf x
 |none=>False):∃x,du s.o v=some x/\out= .bf x:=by
 split at h
 ·rename_i x h1;exact⟨x,h1,h⟩
 ·exact h.elim
section
section
variable {P:Program}{M:Nat->Prop}{φ:Place}{H:Hp}{w w':World}
def aa.jk:aa->Bool
 | .arr .. =>true
 |_=>false
theorem HB(o:Nat->aa)(ids:List Nat):oC o ids=cq o (ids.filter fun id=>(o id).jk):=by
 induction ids with
 |nil=>rfl
 |cons id ids ih=>
  unfold oC at ih|-
  simp only[List.filterMap_cons,List.filter_cons]
  cases hx:o id with
  |arr ep ty sz es=>
   have e:(aa.arr ep ty sz es).jk=true:=rfl
   rw[e,if_pos rfl,ih]
   simp only[cq,List.map_cons,hx]
  |_=>exact ih
theorem iC(hH:ao M φ H w){us':Nat->Prop}(h:∀id,H.us id->us' id):ao M φ ⟨H.o,us'⟩ w/\Trans φ H w φ ⟨H.o,us'⟩ w:=by
 have ht:Trans φ H w φ ⟨H.o,us'⟩ w:=⟨dy.refl _ _,fun b hb=> .inl hb,⟨h,fun id _ hr=>⟨hr,rfl⟩,fun id e' _ he=>⟨e',he,Nat.le_refl _,fun _=>rfl⟩⟩⟩
 exact⟨hH.of ht (fun _=>False) (fun _ h=>h.elim) (fun id _=>⟨rfl,rfl,fun _ _ _=>rfl⟩) (fun id hn=>hH.fresh id fun hu=>hn (h id hu)) hH.apart (fun b hb=>(hH.ours b hb).2),ht⟩
theorem eB(hH:ao M φ H w)(hk:dy (fun _=>False) w w'):ao M φ H w'/\Trans φ H w φ H w':=by
 have ht:Trans φ H w φ H w':=⟨⟨hk.os,hk.tape,hk.output,hk.size,fun k h _=>hk.block k h fun h=>h⟩,fun b hb=> .inl hb,db.refl _ _⟩
 exact⟨hH.of ht (fun _=>False) (fun _ h=>h.elim) (fun id _=>⟨rfl,rfl,fun hl b hb=>hk.block b (hH.ours b ⟨id,hl,hb⟩).2 fun h=>h⟩) hH.fresh hH.apart (fun b hb=>Nat.lt_of_lt_of_le (hH.ours b hb).2 hk.size),ht⟩
theorem jl{Δ:List (Nat×aa)}(h:∀id∈Δ.map (·.1),H.us id):H.put Δ=⟨put H.o Δ,H.us⟩:=by
 unfold Hp.put
 congr 1
 funext id
 simp only[eq_iff_iff]
 exact⟨fun h'=>h'.elim (fun h=>h) (h id), .inl⟩
theorem qn(o:Nat->aa)(ids:List Nat):(cq o ids).map (·.1)=ids:=by
 rw[jA];simp[Function.comp_def]
structure Cx where
 base:List Deferred
 rd:Bool
def cY(ro:Option Nat):Fence:={fn:=fun _=>True,depth:=none,alive:=false,round:=ro}
def mark(r:Nat):Deferred:={target:= .collected r,args:=#[]}
def rb(cx:Cx)(w0:World)(φ:Place)(H:Hp)(w:World)(ds:List Deferred):Prop:=
 ∃ms:List Nat,ds=ms.map mark++cx.base/\ms.Nodup/\(cx.rd=true->ms=[])/\∀r∈ms,w0.heap.size<=r/\w.heap[r]? =some (.deferred (some []))/\ ¬cu φ H r
theorem rb.mono {cx:Cx}{w0:World}{φ aA:Place}{H H':Hp}{w w':World}{ds:List Deferred}(ht:Trans φ H w aA H' w')(h:rb cx w0 φ H w ds):rb cx w0 aA H' w' ds:=by
 obtain⟨ms,h1,h2,h3,h4⟩:=h
 refine⟨ms,h1,h2,h3,fun r hr=> ?_⟩
 obtain⟨g1,g2,g3⟩:=h4 r hr
 have bQ:r<w.heap.size:=by
  rcases Nat.lt_or_ge r w.heap.size with hl|hl
  ·exact hl
  ·rw[Array.getElem?_eq_none hl]at g2;cases g2
 refine⟨g1,(ht.keep.block r bQ g3).trans g2,fun hl=> ?_⟩
 rcases ht.grow r hl with h|h
 ·exact g3 h
 ·omega
structure bE (M:Nat->Prop) (bV:Place) (H0:Hp) (w0:World) (n:Nat) (cx:Cx) (φ:Place) (s:S) (a:Act) (w:World):Prop where
 heap:ao M φ s.H w
 tr:Trans bV H0 w0 φ s.H w
 size:a.tmps.size=n
 defers:rb cx w0 φ s.H w a.defers
 env:∀i,V.den (ai M φ s.H) φ s.H w (s.env i) (a.tmps.getD i undef)
variable {bV:Place}{H0:Hp}{w0:World}{n:Nat}{s:S}{a:Act}{cx:Cx}{ro:Option Nat}{k:Nat}
theorem cz{f:FuncId}{args:Array Value}{R:Ending->World->Prop}(h:Calls P f args w R):CallsIn (cY ro) k P f args w R:=
 ⟨trivial,fun cs _=>let⟨e,w',fr,r,s,x⟩:=h cs;⟨e,w',fr,r,comesIn_wide.2 s,x⟩⟩
theorem xq{f:FuncId}{args:Array Value}{R:Ending->World->Prop}(h:CallsIn (cY ro) k P f args w R):Calls P f args w R:=
 fun cs=>let⟨e,w',fr,r,s,x⟩:=h.2 cs (fun _ h=>by simp[cY]at h);⟨e,w',fr,r,comesIn_wide.1 s,x⟩
theorem iI{o:Oper}{next:Act->World->Prop}{Q:Exit->Act->World->Prop}(xr:∀c,o.op≠ .defer c)(h:o.uponIn (cY ro) k P a next Q ((execOp a.eval o).run P w)):o.wpIn (cY ro) k P a w next Q:=
 ⟨fun _ _=>trivial,by rw[Oper.semAt_eq _ _ _ xr];exact h⟩
theorem lu(hs:bE M bV H0 w0 n cx φ s a w){aA:Place}{H':Hp}(hH:ao M aA H' w')(ht:Trans φ s.H w aA H' w'){v:V}{val:Value}(hd:V.den (ai M aA H') aA H' w' v val){dst:Option Tmp}(cf:eS n dst)
 {o':Nat->aa} {nx':Nat} (ho:H'.o=o') (hu:∀id,H'.us id->id<nx'):bE M bV H0 w0 n cx aA ⟨aQ s.env dst v,o',nx'⟩ (a.put dst val) w':=by
 obtain⟨k1,k2⟩:=iC hH hu
 subst ho
 refine⟨k1,hs.tr.trans (ht.trans k2), ?_, ?_,fun i=> ?_⟩
 ·cases dst<;>simp[Act.put,hs.size]
 ·have:=hs.defers.mono (ht.trans k2);cases dst<;>exact this
 ·cases dst with
  |none=>exact Ha
  |some d=>
   simp only[eS]at cf
   simp only[aQ,aC,Act.put]
   by_cases hi:i=d
   ·subst hi
    have h1:(a.tmps.setIfInBounds i val).getD i undef=val:=by simp[Array.getD,hs.size,cf]
    rw[if_pos rfl,h1]
    exact V.aG k2 _ _ hd
   ·have h1:(a.tmps.setIfInBounds d val).getD i undef=a.tmps.getD i undef:=by
     exact LU
    rw[if_neg hi,h1]
    exact Ha
theorem dE(hs:bE M bV H0 w0 n cx φ s a w){aA:Place}{H':Hp}(hH:ao M aA H' w')(ht:Trans φ s.H w aA H' w'){o':Nat->aa}{nx':Nat}(ho:H'.o=o')(hu:∀id,H'.us id->id<nx'):
 bE M bV H0 w0 n cx aA ⟨s.env,o',nx'⟩ a w':=by
 obtain⟨k1,k2⟩:=iC hH hu
 subst ho
 exact⟨k1,hs.tr.trans (ht.trans k2),hs.size,hs.defers.mono (ht.trans k2),fun i=>V.aG (ht.trans k2) _ _ (hs.env i)⟩
theorem EV{Δ:List (Nat×aa)}(h:∀id∈Δ.map (·.1),s.H.us id\/id=s.nx)(id:Nat)(hu:(s.H.put Δ).us id):id<s.nx+1:=by
 rcases hu with hu|hu
 ·exact Nat.lt_succ_of_lt hu
 ·rcases h id hu with h|h
  ·exact Nat.lt_succ_of_lt h
  ·omega
variable {next:Act->World->Prop}{Q:Exit->Act->World->Prop}{X:V->S->Prop}{K:S->Prop}
theorem EW(hs:bE M bV H0 w0 n cx φ s a w){o:Oper}{op:Op}(e8:o.op=op)(cf:eS n o.dst)(h:Jy P s s.nx op fun v Δ _=>K ⟨aQ s.env o.dst v,put s.o Δ,s.nx+1⟩)
 (hN:∀s' aA a' w',K s'->bE M bV H0 w0 n cx aA s' a' w'->next a' w'):o.wpIn (cY ro) k P a w next Q:=by
 obtain⟨nx,val,w',aA,v,Δ,rd,hK,hr,sI,g1,g2,g3,g4⟩:=tM hs.heap (s:=s) rfl hs.env (fr:=s.nx) (by simp[S.H]) e8 h
 have qe:=lu hs g1 g2 g3 cf (o':=put s.o Δ) (nx':=s.nx+1) rfl (EV g4)
 refine iI (fun c hc=>by rw[e8]at hc;subst hc;exact h) ?_
 rw[hr]
 rcases sI with rfl|⟨rfl,rfl⟩
 ·exact hN _ _ _ _ hK qe
 ·exact hN _ _ _ _ hK qe
theorem V.mU {B:Nat->Prop}{bF bs cs:List V}{u v x:List Value}(h1:V.az B φ H w bF u)(h2:V.az B φ H w bs v)(h3:V.az B φ H w cs x):V.az B φ H w (bF++bs++cs) (u++v++x):=
 V.aW _ _ _ _ (V.aW _ _ _ _ h1 h2) h3
theorem jm{f:FuncId}(h:Enters P f)(args:Array Value):(callFunc f args).run P w= .ok (.enter f args) w:=by
 obtain⟨fn,h1,h2,h3⟩:=h
 have pH:fn.name≠ "runtime.NumGoroutine" :=by simpa using h2
 have pI:fn.body≠none:=fun h=>by rw[h]at h3;cases h3
 simp[callFunc,h1,pH,pI]
theorem kj:∀ {rs:List D} {val:Value},R.is (ai M φ H) w (.ret rs) (.returned val)->V.den (ai M φ H) φ H w (gY rs) val
 |[],_,h=>by obtain⟨arr,rfl,h⟩:=h;exact⟨arr,rfl,h⟩
 |[x],_,h=>h
 |x::y::l,_,h=>by obtain⟨arr,rfl,h⟩:=h;exact⟨arr,rfl,(V.bS (x::y::l) _).2 h⟩
theorem R.vf {B B':Nat->Prop}:∀ {out:R} {e:Ending},out.flat=true->out.is B w e->out.is B' w e
 | .ret [], .returned _,_,h=>by obtain⟨arr,rfl,h⟩:=h;exact⟨arr,rfl,h⟩
 | .ret [x], .returned _,hf,h=>by
   simp only[R.flat,D.gX,Bool.and_true]at hf
   exact D.nq x _ hf h
 | .ret (x::y::l), .returned _,hf,h=>by obtain⟨arr,rfl,h⟩:=h;exact⟨arr,rfl,D.jE (x::y::l) _ hf h⟩
 | .bf d, .panicked _,hf,h=>by obtain⟨v,rfl,h⟩:=h;exact⟨v,rfl,D.nq d v hf h⟩
 | .ret [], .panicked _,_,h| .ret [_], .panicked _,_,h| .ret (_::_::_), .panicked _,_,h| .ret [], .outgrown,_,h| .ret [_], .outgrown,_,h| .ret (_::_::_), .outgrown,_,h| .bf _, .returned _,_,h| .bf _, .outgrown,_,h=>h.elim
theorem R.EX {B B':Nat->Prop}{w':World}(hb:∀b,mW w' b-> ¬B b-> ¬B' b):∀ {out:R} {e:Ending},out.kC=true->out.is B w' e->out.is B' w' e
 | .ret [], .returned _,_,h=>by obtain⟨arr,rfl,h⟩:=h;exact⟨arr,rfl,h⟩
 | .ret [x], .returned _,hf,h=>by
   simp only[R.kC,D.jF,Bool.and_true]at hf
   exact D.jj (fun b hc hn=>⟨rfl,hb b hc hn⟩) x _ hf h
 | .ret (x::y::l), .returned _,hf,h=>by obtain⟨arr,rfl,h⟩:=h;exact⟨arr,rfl,D.kD (fun b hc hn=>⟨rfl,hb b hc hn⟩) (x::y::l) _ hf h⟩
 | .bf d, .panicked _,hf,h=>by obtain⟨v,rfl,h⟩:=h;exact⟨v,rfl,D.jj (fun b hc hn=>⟨rfl,hb b hc hn⟩) d v hf h⟩
 | .ret [], .panicked _,_,h| .ret [_], .panicked _,_,h| .ret (_::_::_), .panicked _,_,h| .ret [], .outgrown,_,h| .ret [_], .outgrown,_,h| .ret (_::_::_), .outgrown,_,h| .bf _, .returned _,_,h| .bf _, .outgrown,_,h=>h.elim
theorem EY(hH:ao M φ H w){o:Nat->aa}:∀ (vs:List V) (vals:List Value),(∀id∈cB o vs,H.o id=(o id).fz)->V.az (ai M φ H) φ H w vs vals->V.az (ai M φ H) φ H w (vs.map (ES o)) vals
 |[],_,_,h=>h
 |v::vs,_,ho,h=>by
  obtain⟨u,us,rfl,h1,h2⟩:=h
  refine⟨u,us,rfl, ?_,EY hH vs us (fun id aq=>ho id (by simp[cB,aq])) h2⟩
  unfold ES
  split
  ·rename_i x hx
   exact eR hH v x u (fun id aq=>ho id (by simp[cB,hx,aq])) hx h1
  ·exact h1
theorem eT:∀ (vs:List V) (vals:List Value) (o:Nat->aa),V.az (ai M φ H) φ H w vs vals->∀id∈cB o vs,H.us id
 |[],_,_,_,j,hj=>by simp[cB]at hj
 |v::vs,_,o,h,j,hj=>by
  obtain⟨u,us,rfl,h1,h2⟩:=h
  simp only[cB,List.mem_append]at hj
  rcases hj with hj|hj
  ·cases hx:du o v with
   |none=>simp[hx]at hj
   |some x=>simp only[hx]at hj;exact cJ v u h1 j hj
  ·exact eT vs us o h2 j hj
theorem tN(hs:bE M bV H0 w0 n cx φ s a w){o:Oper}{g:FuncId}{all:List V}{vals:Array Value}(cf:eS n o.dst)(dP:Enters P g->(execOp a.eval o).run P w= .ok (.enter g vals) w)(aR:V.az (ai M φ s.H) φ s.H w all vals.toList)
 (h:dV P g all s.o s.nx (fun v o' nx'=>K ⟨aQ s.env o.dst v,o',nx'⟩) (fun v o' nx'=>X v ⟨s.env,o',nx'⟩))
 (hN:∀s' aA a' w',K s'->bE M bV H0 w0 n cx aA s' a' w'->next a' w')
 (hQ:∀v s' aA w' val,X v s'->bE M bV H0 w0 n cx aA s' a w'->V.den (ai M aA s'.H) aA s'.H w' v val->Q (.panic [{v:=val,recovered:=false}]) a w'):o.uponIn (cY ro) k P a next Q ((execOp a.eval o).run P w):=by
 have dJ:=h.2 M φ w vals hs.heap aR
 rw[dP h.1]
 refine⟨fun hd=>by simp[cY]at hd,cz (dJ.mono fun e w' ⟨aA,o',nx',v,k1,k2,k3⟩=> ?_)⟩
 cases e with
 |returned val=>exact Rh
 |panicked ch=>
  obtain⟨val,rfl,k4,k5⟩:=k3
  exact QY
 |outgrown=>exact k3.elim
theorem xu(hs:bE M bV H0 w0 n cx φ s a w){o:Oper}{g:FuncId}{all:List V}{vals:Array Value}(cf:eS n o.dst)(dP:Enters P g->(execOp a.eval o).run P w= .ok (.enter g vals) w)(aR:V.az (ai M φ s.H) φ s.H w all vals.toList)
 (h:q9 P s g all (fun v o' nx'=>K ⟨aQ s.env o.dst v,o',nx'⟩) (fun v o' nx'=>X v ⟨s.env,o',nx'⟩))
 (hN:∀s' aA a' w',K s'->bE M bV H0 w0 n cx aA s' a' w'->next a' w')
 (hQ:∀v s' aA w' val,X v s'->bE M bV H0 w0 n cx aA s' a w'->V.den (ai M aA s'.H) aA s'.H w' v val->Q (.panic [{v:=val,recovered:=false}]) a w'):o.uponIn (cY ro) k P a next Q ((execOp a.eval o).run P w):=by
 unfold q9 at h
 obtain⟨f1,f2,f3,f4,f5⟩:=cI hs.heap (V.aV all) (cm all _ aR)
 have jC:s.H.put (cq s.H.o (V.aV all))=⟨put s.o (cq s.o (V.aV all)),s.H.us⟩:=jl Ed
 have kE:=V.aI f2 _ _ aR
 rcases h with⟨ds,out,dM,hP,hK⟩|⟨ds,out,dM,hP,mP,hK⟩|⟨ds,out,dM,hP,wD,hK⟩|hC|hC
 ·have tC:=cK f1 all ds _ f3 dM kE
  have hM:∀b,ai M φ (s.H.put (cq s.H.o (V.aV all))) b->b<w.heap.size:=fun b hb=>hb.elim (f1.wA b) fun hl=>(f1.ours b hl).2
  have dJ:=hP.2 _ w vals hM tC
  rw[dP hP.1]
  refine⟨fun hd=>by simp[cY]at hd,cz (dJ.mono fun e w' ⟨hk,ho⟩=> ?_)⟩
  obtain⟨k1,k2⟩:=eB f1 hk
  cases out with
  |ret rs=>
   cases e with
   |returned val=>
    refine hN _ _ _ _ hK (lu hs k1 (f2.trans k2) (kj ho) cf (by rw[jC]) ?_)
    intro id hu;rw[jC]at hu;exact Nat.lt_succ_of_lt hu
   |panicked ch=>exact sP
   |outgrown=>exact sP
  |bf x=>
   cases e with
   |returned val=>exact ho.elim
   |panicked ch=>
    obtain⟨val,rfl,hd⟩:=ho
    have qe:=dE hs k1 (f2.trans k2) (o':=put s.o (cq s.o (V.aV all))) (nx':=s.nx+1) (by rw[jC]) (fun id hu=>by rw[jC]at hu;exact Nat.lt_succ_of_lt hu)
    refine hQ _ _ _ _ val hK qe ?_
    have e1:ai M φ (S.H ⟨s.env,put s.o (cq s.o (V.aV all)),s.nx+1⟩)=ai M φ (s.H.put (cq s.H.o (V.aV all))):=by rw[jC];rfl
    simp only[V.den]
    rw[e1];exact hd
   |outgrown=>exact ho.elim
 ·have tC:=cK f1 all ds _ f3 dM kE
  have hM:∀b,ai M φ (s.H.put (cq s.H.o (V.aV all))) b->b<w.heap.size:=fun b hb=>hb.elim (f1.wA b) fun hl=>(f1.ours b hl).2
  have dJ:=hP.2 _ w vals hM tC
  rw[dP hP.1]
  refine⟨fun hd=>by simp[cY]at hd,cz (dJ.mono fun e w' ⟨hk,ho⟩=> ?_)⟩
  obtain⟨k1,k2⟩:=eB hs.heap hk
  have ho:=R.vf (B':=ai M φ s.H) mP ho
  cases out with
  |ret rs=>
   cases e with
   |returned val=>
    exact hN _ _ _ _ hK (lu hs k1 k2 (kj ho) cf rfl fun id hu=>Nat.lt_succ_of_lt hu)
   |panicked ch=>exact sP
   |outgrown=>exact sP
  |bf x=>
   cases e with
   |returned val=>exact ho.elim
   |panicked ch=>
    obtain⟨val,rfl,hd⟩:=ho
    exact hQ _ _ _ _ val hK (dE hs k1 k2 (o':=s.o) (nx':=s.nx+1) rfl fun id hu=>Nat.lt_succ_of_lt hu) hd
   |outgrown=>exact ho.elim
 ·obtain⟨a1,a2,a3,a4,a5⟩:=cI hs.heap ((V.aV all).filter fun id=>(s.o id).jk) (fun id aq=>cm all _ aR id (List.mem_filter.1 aq).1)
  have xw:s.H.put (cq s.H.o ((V.aV all).filter fun id=>(s.o id).jk))=⟨put s.o (oC s.o (V.aV all)),s.H.us⟩:=by
   rw[HB]
   exact jl (by rw[qn];exact fun id aq=>cm all _ aR id (List.mem_filter.1 aq).1)
  have tC:=cK f1 all ds _ f3 dM kE
  have hM:∀b,ai M φ (s.H.put (cq s.H.o (V.aV all))) b->b<w.heap.size:=fun b hb=>hb.elim (f1.wA b) fun hl=>(f1.ours b hl).2
  have dJ:=hP.2 _ w vals hM tC
  rw[dP hP.1]
  refine⟨fun hd=>by simp[cY]at hd,cz (dJ.mono fun e w' ⟨hk,ho⟩=> ?_)⟩
  obtain⟨k1,k2⟩:=eB a1 hk
  have sR:∀b,mW w' b-> ¬ai M φ (s.H.put (cq s.H.o (V.aV all))) b-> ¬ai M φ (s.H.put (cq s.H.o ((V.aV all).filter fun id=>(s.o id).jk))) b:=by
   intro b hc hn hm
   rcases hm with hM|⟨id,hl,hb⟩
   ·exact hn (.inl hM)
   ·by_cases aq:id∈V.aV all
    ·cases hx:s.H.o id with
     |arr ep ty sz es=>
      rw[a3 id (List.mem_filter.2 ⟨aq,by show(s.H.o id).jk=true;rw[hx];rfl⟩),hx]at hl
      cases hl
     |map kt vt l=>
      have j9:id∉(V.aV all).filter fun id=>(s.o id).jk:=fun h=>by
       have h2:(s.H.o id).jk=true:=(List.mem_filter.1 h).2
       rw[hx]at h2;cases h2
      have aP:=k1.ok id
      unfold aF at aP
      rw[a4 id j9,hx]at aP
      obtain⟨b',es,clock,g1,g2,_⟩:=aP
      rw[g1]at hb
      injection hb with hb
      subst hb
      obtain⟨cs,ty,fz,hc⟩:=hc
      rw[g2]at hc
      cases hc
     |_=>
      have j9:id∉(V.aV all).filter fun id=>(s.o id).jk:=fun h=>by
       have h2:(s.H.o id).jk=true:=(List.mem_filter.1 h).2
       rw[hx]at h2;cases h2
      refine hn (.inr ⟨id, ?_,hb⟩)
      rw[a4 id j9,hx]at hl
      rw[f3 id aq,hx]
      exact hl
    ·have j9:id∉(V.aV all).filter fun id=>(s.o id).jk:=fun h=>aq (List.mem_filter.1 h).1
     refine hn (.inr ⟨id, ?_,hb⟩)
     rw[a4 id j9]at hl
     rw[f4 id aq]
     exact hl
  have ho:=R.EX (w':=w') (B':=ai M φ (s.H.put (cq s.H.o ((V.aV all).filter fun id=>(s.o id).jk)))) sR wD ho
  cases out with
  |ret rs=>
   cases e with
   |returned val=>
    refine hN _ _ _ _ hK (lu hs k1 (a2.trans k2) (kj ho) cf (by rw[xw]) ?_)
    intro id hu;rw[xw]at hu;exact Nat.lt_succ_of_lt hu
   |panicked ch=>exact sP
   |outgrown=>exact sP
  |bf x=>
   cases e with
   |returned val=>exact ho.elim
   |panicked ch=>
    obtain⟨val,rfl,hd⟩:=ho
    have qe:=dE hs k1 (a2.trans k2) (o':=put s.o (oC s.o (V.aV all))) (nx':=s.nx+1) (by rw[xw]) (fun id hu=>by rw[xw]at hu;exact Nat.lt_succ_of_lt hu)
    refine hQ _ _ _ _ val hK qe ?_
    have e1:ai M φ (S.H ⟨s.env,put s.o (oC s.o (V.aV all)),s.nx+1⟩)=ai M φ (s.H.put (cq s.H.o ((V.aV all).filter fun id=>(s.o id).jk))):=by rw[xw];rfl
    simp only[V.den]
    rw[e1];exact hd
   |outgrown=>exact ho.elim
 ·exact tN hs cf dP aR hC hN hQ
 ·obtain⟨f1,f2,f3,f4,f5⟩:=cI hs.heap (cB s.o all) (eT all _ s.o aR)
  have jC:s.H.put (cq s.H.o (cB s.o all))=hp (put s.o (cq s.o (cB s.o all))) s.nx:=jl (by rw[qn];exact eT all _ s.o aR)
  have kE:=EY f1 all _ f3 (V.aI f2 _ _ aR)
  rw[jC]at f1 f2 kE
  exact tN (s:=⟨s.env,put s.o (cq s.o (cB s.o all)),s.nx⟩) (dE hs f1 f2 rfl fun id hu=>hu) cf dP kE hC hN hQ
theorem HC(hs:bE M bV H0 w0 n cx φ s a w){o:Oper}{c:Call}{f:Operand}(e8:o.op= .call c)(hc:c.callee= .value f)(cf:eS n o.dst)
 (h:xp P s (s.ev f) (c.args.toList.map s.ev) (fun v o' nx'=>K ⟨aQ s.env o.dst v,o',nx'⟩) (fun v o' nx'=>X v ⟨s.env,o',nx'⟩))
 (hN:∀s' aA a' w',K s'->bE M bV H0 w0 n cx aA s' a' w'->next a' w')
 (hQ:∀v s' aA w' val,X v s'->bE M bV H0 w0 n cx aA s' a w'->V.den (ai M aA s'.H) aA s'.H w' v val->Q (.panic [{v:=val,recovered:=false}]) a w'):o.wpIn (cY ro) k P a w next Q:=by
 refine iI (fun c' wE=>by rw[e8]at wE;cases wE) ?_
 have hf:=ku (M:=M) (φ:=φ) (H:=s.H) (w:=w) s a hs.env f
 have cZ:=iE (M:=M) (φ:=φ) (H:=s.H) (w:=w) s a hs.env c.args.toList
 unfold xp at h
 split at h
 ·rename_i g first cap sS
  rw[sS]at hf
  obtain⟨fa,ca,Me,A7,V8⟩:=hf
  have aR:V.az (ai M φ s.H) φ s.H w (first++c.args.toList.map s.ev++cap) (fa++c.args.map a.eval++ca).toList:=by
   exact RJ
  generalize first++c.args.toList.map s.ev++cap=all at h aR
  generalize qK:fa++c.args.map a.eval++ca=vals at aR
  have dP:Enters P g->(execOp a.eval o).run P w= .ok (.enter g vals) w:=by
   intro he
   have:=jm (w:=w) he (fa++c.args.map a.eval++ca)
   rw[qK]at this
   simp[execOp,e8,resolve,hc,Me,Deferred.ofValue,invoke,this,qK]
  exact xu hs cf dP aR h hN hQ
 ·rename_i id sS
  rw[sS]at hf
  obtain⟨_,ed,hp'⟩:=hf
  obtain⟨cn,hR⟩:=h
  obtain⟨b,dT,Me⟩:=hp' cn
  obtain⟨fn,tmps,assign,body,h1,h2⟩:=hR M φ w (c.args.map a.eval) b hs.heap (by rw[Array.toList_map];exact cZ) dT
  have dP:(execOp a.eval o).run P w= .ok (.round b fn tmps assign body) w:=by
   simp[execOp,e8,resolve,hc,Me,Deferred.ofValue,invoke,h1]
  rw[dP]
  refine⟨fun hd=>by simp[cY]at hd,RoundIn.mono (h2 (k - 1)) fun e w' ⟨aA,o',nx',v,k1,k2,k3⟩=> ?_⟩
  cases e with
  |returned val=>exact Rh
  |panicked ch=>
   obtain⟨val,rfl,k4,k5⟩:=k3
   exact QY
  |outgrown=>exact k3.elim
 ·exact h.elim
theorem CN(hs:bE M bV H0 w0 n cx φ s a w){o:Oper}{c:Call}{r:Operand}{m:String}{g:FuncId}{y:V}(e8:o.op= .call c)(hc:c.callee= .invoke r m)(cf:eS n o.dst)(hr:ra P m (s.ev r)=some (g,y))
 (h:q9 P s g (y::c.args.toList.map s.ev) (fun v o' nx'=>K ⟨aQ s.env o.dst v,o',nx'⟩) (fun v o' nx'=>X v ⟨s.env,o',nx'⟩))
 (hN:∀s' aA a' w',K s'->bE M bV H0 w0 n cx aA s' a' w'->next a' w')
 (hQ:∀v s' aA w' val,X v s'->bE M bV H0 w0 n cx aA s' a w'->V.den (ai M aA s'.H) aA s'.H w' v val->Q (.panic [{v:=val,recovered:=false}]) a w'):o.wpIn (cY ro) k P a w next Q:=by
 refine iI (fun c' wE=>by rw[e8]at wE;cases wE) ?_
 have hf:=ku (M:=M) (φ:=φ) (H:=s.H) (w:=w) s a hs.env r
 have cZ:=iE (M:=M) (φ:=φ) (H:=s.H) (w:=w) s a hs.env c.args.toList
 unfold ra at hr
 split at hr
 ·rename_i t d hx
  rw[hx]at hf
  obtain⟨val,hv,hd⟩:=hf
  split at hr
  ·rename_i ti hti
   split at hr
   ·rename_i mr qs
    split at hr
    ·rename_i f DI
     split at hr
     ·rename_i JK
      injection hr with hr
      injection hr with h1 h2
      subst h1;subst h2
      refine xu (vals:=#[val]++c.args.map a.eval) hs cf ?_ ?_ h hN hQ
      ·intro he
       have dP:=jm (w:=w) he (#[val]++c.args.map a.eval)
       have hpa:mr.path=#[]:=Array.isEmpty_iff.1 JK.1
       have hu:∃u,P.underlying t=some u/\∀e,u≠ .pointer e:=by
        have:=JK.2
        unfold JJ at this
        split at this
        ·cases this
        ·rename_i u j7 hu;exact⟨u,hu,fun e he=>j7 e he⟩
        ·cases this
       obtain⟨u,hu,JL⟩:=hu
       have hm:(method (P.types.size+Made.depth) t val m).run P w= .ok (f,val) w:=by
        have:P.types.size+Made.depth=(P.types.size+Made.depth - 1)+1:=by simp[Made.depth]
        rw[this]
        cases u<;>first|exact absurd rfl (JL _)|simp[method,typeInfo,hti,qs,hpa,DI,follow,receiverAt,run_underlying hu,_root_.Go.Place.get]
       have h0:(#[Value.iface t val]++Array.map a.eval c.args)[0]? =some (.iface t val):=by
        rw[Array.getElem?_append_left (by simp)];rfl
       have h1:(Array.map a.eval c.args).extract 0 c.args.size=Array.map a.eval c.args:=by
        rw[show c.args.size=(Array.map a.eval c.args).size from by simp,Array.extract_size]
       simp[execOp,e8,resolve,hc,invoke,callMethod,hv,h0,h1,hm,dP]
      ·simp only[Array.toList_append,Array.toList_map]
       exact⟨val,_,rfl,hd,cZ⟩
     ·cases hr
    ·cases hr
   ·cases hr
  ·cases hr
 ·cases hr
theorem tO(hs:bE M bV H0 w0 n cx φ s a w){o:Oper}(h:XK P n s o X K)
 (hN:∀s' aA a' w',K s'->bE M bV H0 w0 n cx aA s' a' w'->next a' w')
 (hQ:∀v s' aA w' val,X v s'->bE M bV H0 w0 n cx aA s' a w'->V.den (ai M aA s'.H) aA s'.H w' v val->Q (.panic [{v:=val,recovered:=false}]) a w'):o.wpIn (cY ro) k P a w next Q:=by
 obtain⟨cf,h⟩:=h
 split at h
 ·rename_i c e8
  split at h
  ·rename_i f hc
   exact HC hs e8 hc cf h hN hQ
  ·rename_i r m hc
   split at h
   ·rename_i g y hr;exact CN hs e8 hc cf hr h hN hQ
   ·exact h.elim
  ·exact EW hs rfl cf h hN
 ·rename_i x e8
  have hx:=ku (M:=M) (φ:=φ) (H:=s.H) (w:=w) s a hs.env x
  have bf:∀ (t:TypeId) (u:Value),a.eval x= .iface t u->Q (.panic [{v:= .iface t u,recovered:=false}]) a w->o.wpIn (cY ro) k P a w next Q:=by
   intro t u hu hq
   refine iI (fun c hc=>by rw[e8]at hc;cases hc) ?_
   have hr:(execOp a.eval o).run P w= .halt (.panic (.iface t u)) w:=by simp[execOp,e8,hu,Instr.panic]
   rw[hr];exact hq
  split at h
  ·rename_i t y hv
   rw[hv]at hx
   obtain⟨u,hu,hd⟩:=hx
   exact Jl
  ·rename_i t y hv
   rw[hv]at hx
   obtain⟨u,hu,hd⟩:=hx
   exact Jl
  ·exact h.elim
 ·exact EW hs rfl cf h hN
end
end
end Go.Proofs.YtlhemmpklhhgoaaGreat
namespace Go
def Code.qf (P:Program)(ro:Option Nat)(c:Code)(Q:Exit->Act->World->Prop)(a:Act)(w:World):Prop:=
 ∀ (b:Frame) (k:List Item) (cs:List Frame),b.roundOf=ro->b.fn<P.funcs.size->
   ∃e a' w',Q e a' w'/\ArrivesIn (Machine.fenced P (Proofs.YtlhemmpklhhgoaaGreat.cY ro)) P (lone (b.atR a (.code c::k)) cs w) b k cs e a' w'
end Go
namespace Go.Proofs.YtlhemmpklhhgoaaGreat
instance:LawfulMonad Sem:=LawfulMonad.mk' Sem (id_map:=fun x=>Sem.bind_pure' x) (pure_bind:=fun _ _=>rfl) (bind_assoc:=fun x f g=>Sem.bind_assoc' x f g)
section
variable {P:Program}{M:Nat->Prop}{φ:Place}{H:Hp}{w w':World}{bV:Place}{H0:Hp}{w0:World}{n b:Nat}{s:S}{a:Act}{cx:Cx}{ro:Option Nat}{k:Nat}
theorem nv(hs:bE M bV H0 w0 n cx φ s a w){ops:Array Oper}{o:Oper}{A B:Prop}(h:u9 s ops o.guard A B):
 (Region.wanted o (yielded ops a.tmps)=true->A)/\(Region.wanted o (yielded ops a.tmps)=false->B):=by
 unfold u9 at h
 unfold Region.wanted
 split at h
 ·rename_i hg;simp only[hg];exact⟨fun _=>h,fun h=>by cases h⟩
 ·rename_i j want hg
  simp only[hg]
  unfold px at h
  unfold yielded
  split at h
  ·rename_i d hd
   simp only[hd,Option.bind_some]
   have dp:=hs.env d
   split at h
   ·rename_i c hv
    rw[hv]at dp
    simp only[V.den,D.den]at dp
    have:a.tmps[d]? =some (.bool c):=by
     rw[Array.getD_eq_getD_getElem?]at dp
     cases hx:a.tmps[d]? with
     |none=>rw[hx]at dp;simp[undef]at dp
     |some x=>rw[hx]at dp;simp at dp;rw[dp]
    simp only[this]
    by_cases hc:c=want
    ·subst hc;exact⟨fun _=>h.1 rfl,fun h=>by simp at h⟩
    ·exact⟨fun h'=>absurd (by simpa using h') hc,fun _=>h.2 hc⟩
   ·rename_i hv
    rw[hv]at dp
    obtain⟨arr,cE,hn⟩:=dp
    simp only[V.az]at hn
    have:∀c,a.tmps[d]? ≠some (.bool c):=by
     exact Jt
    cases hx:a.tmps[d]? with
    |none=>exact⟨fun h=>by simp at h,fun _=>h⟩
    |some x=>cases x<;>first|(exact absurd hx (this _))|(exact⟨fun h=>by simp at h,fun _=>h⟩)
   ·exact h.elim
  ·rename_i hd
   simp only[hd,Option.bind_none]
   exact⟨fun h=>by simp at h,fun _=>h⟩
theorem xy(hs:bE M bV H0 w0 n cx φ s a w){dst:Option Tmp}(cf:eS n dst):bE M bV H0 w0 n cx φ ⟨aQ s.env dst (.bC []),s.o,s.nx+1⟩ (a.put dst undef) w:=
 lu (v:= .bC []) (val:=undef) hs hs.heap (Trans.refl _ _ _) ⟨#[],rfl,rfl⟩ cf rfl fun _ hu=>Nat.lt_succ_of_lt hu
theorem mu{ops:Array Oper}{X:V->S->Prop}{K:S->Prop}{Q:Exit->Act->World->Prop}
 (hK:∀s φ a w,K s->bE M bV H0 w0 n cx φ s a w->Q .normal a w)
 (hQ:∀v s' aA a w' val,X v s'->bE M bV H0 w0 n cx aA s' a w'->V.den (ai M aA s'.H) aA s'.H w' v val->Q (.panic [{v:=val,recovered:=false}]) a w'):
 ∀ (l:List Oper) (s:S) (φ:Place) (a:Act) (w:World),vc P n ops X K l s->bE M bV H0 w0 n cx φ s a w->wpListIn (cY ro) k P ops Q l a w
 |[],s,φ,a,w,h,hs=>hK s φ a w h hs
 |o::l,s,φ,a,w,h,hs=>by
  obtain⟨h1,h2⟩:=nv hs h
  unfold wpListIn
  split
  ·rename_i hw
   exact tO hs (h1 hw) (fun s' aA a' w' hk iw=>mu hK hQ l s' aA a' w' hk iw) (fun v s' aA w' val hx iw hd=>hQ v s' aA a w' val hx iw hd)
  ·rename_i hw
   obtain⟨cf,h3⟩:=h2 (by simpa using hw)
   exact⟨fun _ _=>trivial,mu hK hQ l _ _ _ _ h3 (xy hs cf)⟩
def Bn(M:Nat->Prop)(bV:Place)(H0:Hp)(w0:World)(n:Nat)(cx:Cx)(Q:eM->S->Prop)(e:Exit)(a:Act)(w:World):Prop:=
 ∃x s φ,Q x s/\bE M bV H0 w0 n cx φ s a w/\match e,x with
  | .normal, .normal=>True
  | .exit i, .exit j=>i=j
  | .ret, .ret=>True
  | .panic ch, .bf v=>∃val,ch=[{v:=val,recovered:=false}]/\V.den (ai M φ s.H) φ s.H w v val
  |_,_=>False
section
variable {Q:Exit->Act->World->Prop}
theorem eU{m:Nat}:(cY ro).room m:=fun d hd=>by simp[cY]at hd
theorem mw{c:Code}(h:c.wpIn (cY ro) k P Q a w):c.qf P ro Q a w:=fun b k cs qs _=>h b k cs qs trivial eU
theorem eV{c:Code}{Q':Exit->Act->World->Prop}(h:c.qf P ro Q a w)(hq:∀e a w,Q e a w->Q' e a w):c.qf P ro Q' a w:=
 fun b k cs qs hb=>let⟨e,a',w',q,r⟩:=h b k cs qs hb;⟨e,a',w',hq _ _ _ q,r⟩
theorem Bo(h:Q .ret a w):Code.ret.qf P ro Q a w:=mw (k:=0) (wpIn_ret h)
theorem xz{id:Nat}(h:Q (.exit id) a w):(Code.exit id).qf P ro Q a w:=mw (k:=0) (wpIn_exit h)
theorem vg{x y:Code}(h:x.qf P ro (Exit.then (y.qf P ro Q) Q) a w):(Code.seq x y).qf P ro Q a w:=by
 intro b k cs qs hb
 have h0:(lone (b.atR a (.code (.seq x y)::k)) cs w).fenced P (cY ro):=fenced_calm (n:=0) trivial eU rfl
 obtain⟨e,lJ,gM,hq,cE⟩:=h b (.code y::k) cs qs hb
 cases e with
 |normal=>
  obtain⟨Mf,Sj,oN,nw,iJ⟩:=hq b k cs qs hb
  exact⟨Mf,Sj,oN,nw, .of_steps (.head h0 stepR_seq cE) iJ⟩
 |exit id=>exact D6
 |goto l=>exact D6
 |ret=>exact D6
 |panic ch=>exact D6
 |outgrown=>exact D6
theorem ny{c:Operand}{x y:Code}{t:Bool}(hc:a.eval c= .bool t)(h:(if t then x else y).qf P ro Q a w):(Code.cond c x y).qf P ro Q a w:=
 fun b k cs qs hb=>let⟨e,a',w',q,r⟩:=h b k cs qs hb;⟨e,a',w',q, .of_steps (.one (fenced_calm (n:=0) trivial eU rfl) (stepR_cond hc)) r⟩
theorem CO{id:Nat}{c:Code}(h:c.qf P ro (Exit.inBlock id Q) a w):(Code.block id c).qf P ro Q a w:=by
 intro b k cs qs hb
 have h0:(lone (b.atR a (.code (.block id c)::k)) cs w).fenced P (cY ro):=fenced_calm (n:=0) trivial eU rfl
 obtain⟨e,lJ,gM,hq,cE⟩:=h b (.inBlock id::k) cs qs hb
 cases e with
 |normal=>exact⟨.normal,lJ,gM,hq, .head h0 stepR_block (StepsIn.trans cE (.one (fenced_calm (n:=0) trivial eU rfl) stepR_inBlock))⟩
 |exit zd=>
  by_cases aq:zd=id
  ·simp only[Exit.inBlock,aq,if_true]at hq
   exact⟨.normal,lJ,gM,hq, .head h0 stepR_block (cE.1 k (by simp[exitTo,aq]))⟩
  ·simp only[Exit.inBlock,aq,if_false]at hq
   have this:(id==zd)=false:=by simp;exact fun h=>aq h.symm
   have hx:exitTo zd (.inBlock id::k)=exitTo zd k:=by simp[exitTo,this]
   exact⟨.exit zd,lJ,gM,hq,fun k' hk=> .head h0 stepR_block (cE.1 k' tj),
    fun CJ hk=>let⟨k₁,h1,h2⟩:=cE.2 CJ tj;⟨k₁,h1, .head h0 stepR_block h2⟩⟩
 |goto l=>
  have hx:gotoIn l (.inBlock id::k)=gotoIn l k:=by simp[gotoIn]
  exact⟨_,lJ,gM,hq,fun k' hk=> .head h0 stepR_block (cE.1 k' tj),
   fun CJ hk=>let⟨k₁,h1,h2⟩:=cE.2 CJ tj;⟨k₁,h1, .head h0 stepR_block h2⟩⟩
 |ret=>exact LF
 |panic ch=>exact LF
 |outgrown=>exact LF
theorem iB{b:Frame}{k:List Item}{cs:List Frame}{c:Code}:step P (lone (b.atR a (.code (.scope c)::k)) cs w)= .next (lone (b.atR a (.code c:: .inScope c::k)) cs w):=
 step_lone_go (by simp[stepG,stepG.exec,Frame.atR])
theorem s5{b:Frame}{k:List Item}{cs:List Frame}{c:Code}:step P (lone (b.atR a (.inScope c::k)) cs w)= .next (lone (b.atR a k) cs w):=
 step_lone_go (by simp[stepG,stepG.exec,Frame.atR])
theorem tP{c:Code}(h:c.qf P ro Q a w)(hg:∀l a w, ¬Q (.goto l) a w):(Code.scope c).qf P ro Q a w:=by
 intro b k cs qs hb
 have h0:(lone (b.atR a (.code (.scope c)::k)) cs w).fenced P (cY ro):=fenced_calm (n:=0) trivial eU rfl
 obtain⟨e,lJ,gM,hq,cE⟩:=h b (.inScope c::k) cs qs hb
 cases e with
 |normal=>exact⟨.normal,lJ,gM,hq, .head h0 iB (StepsIn.trans cE (.one (fenced_calm (n:=0) trivial eU rfl) s5))⟩
 |exit zd=>
  have hx:exitTo zd (.inScope c::k)=exitTo zd k:=by simp[exitTo]
  exact⟨.exit zd,lJ,gM,hq,fun k' hk=> .head h0 iB (cE.1 k' tj),
   fun CJ hk=>let⟨k₁,h1,h2⟩:=cE.2 CJ tj;⟨k₁,h1, .head h0 iB h2⟩⟩
 |goto l=>exact(hg _ _ _ hq).elim
 |ret=>exact LG
 |panic ch=>exact LG
 |outgrown=>exact LG
def re(P:Program)(l:Nat)(Q:Exit->Act->World->Prop)(a':Act):Ending->World->Prop
 | .returned _,zH=>∃jump qg,(Instr.endLoop l).run P zH= .ok jump qg/\(match jump with|none=>Q .normal a' qg|some c=>c.qf P none Q a' qg)
 | .panicked chain,zH=>Q (.panic chain) a' zH
 | .outgrown,_=>LetsOut Q
theorem s6{g:Operand}{ps:Array Tmp}{assign body:Code}
 (h:∀fn,fn<P.funcs.size->∃ (l:Nat) (mark:List Deferred) (gM:World) (d:Deferred) (tQ:World) (f:FuncId) (args:Array Value) (oN:World),
  (Instr.enterLoop fn a.tmps ps assign body (cY none).round).run P w= .ok (l,mark) gM/\(resolve a.eval (rangeCall g l) 0).run P gM= .ok d tQ/\
  (invoke d.target d.args).run P tQ= .ok (.enter f args) oN/\CallsIn (cY none) 0 P f args oN (re P l Q {a with defers:=mark++a.defers})):
 (Code.rangeFunc g ps assign body).qf P none Q a w:=by
 intro b k cs qs hb
 obtain⟨l,mark,gM,d,tQ,f,args,oN,he,xA,hinv,hF,dJ⟩:=h b.fn hb
 rw[show(cY none).round=b.roundOf from qs.symm]at he
 have calm:∀ (m:Machine),m.fenced P (cY none)↔m.fenced P Fence.wide:=fun m=>Iff.rfl
 have h0:(lone (b.atR a (.code (.rangeFunc g ps assign body)::k)) cs w).fenced P (cY none):=(calm _).2 (fenced_wide P _)
 have jH:=stepR_rangeFunc (P:=P) (b:=b) (a:=a) (k:=k) (cs:=cs) (w:=w) he xA hinv
 obtain⟨e,zH,fr,hR,zI,DI,EZ⟩:=dJ (b.atR {a with defers:=mark++a.defers} (.inRangeFunc l::k)::cs) eU
 cases e with
 |outgrown=>
  obtain⟨XL,XM,hq⟩:=hR
  exact⟨.outgrown,XL,XM,hq, .inr (Outgrown.of_steps (.one jH) zI)⟩
 |returned v=>
  obtain⟨jump,qg,dx,hj⟩:=hR
  have JM:StepsIn (Machine.fenced P (cY none)) P (lone (b.atR a (.code (.rangeFunc g ps assign body)::k)) cs w) (lone (b.atR {a with defers:=mark++a.defers} ((jump.map Item.code).toList++k)) cs qg):=by
   refine .head h0 jH (StepsIn.trans zI (.head ((calm _).2 (fenced_wide P _)) ?_ (.one ((calm _).2 (fenced_wide P _)) (stepR_endRangeFunc dx))))
   rw[<- finish_atR_inRangeFunc l v];exact step_leave_returned EZ
  cases jump with
  |none=>exact⟨.normal,_,qg,hj,JM⟩
  |some c=>
   obtain⟨e',a'',XN,hq,cE⟩:=hj b k cs qs hb
   exact⟨e',a'',XN,hq, .of_steps JM cE⟩
 |panicked chain=>
  refine⟨.panic chain,_,zH,hR, .inRangeFunc l::k, .head h0 jH (StepsIn.trans zI (.one ((calm _).2 (fenced_wide P _)) ?_))⟩
  rw[<- Frame.raise_atR];exact step_leave_panicked EZ
end
theorem tR(hH:ao M φ H w){id l:Nat}(ed:H.us id){nf m:Nat}{env:List V}{ps:List Nat}{iR eL:IC}{st st':LoopState}{pd pd':Option iu}(ho:H.o id= .loop nf m env ps iR eL st pd)(dT:φ id= .pointer (some ⟨l,0,none⟩)):
 ∃r,w.heap[l]? =some (.loop r)/\r.state=st/\r.pending=pd.map iu.code/\
  ao M φ (H.put [(id, .loop nf m env ps iR eL st' pd')]) {w with heap:=w.heap.setIfInBounds l (.loop {r with state:=st',pending:=pd'.map iu.code})}/\
  Trans φ H w φ (H.put [(id, .loop nf m env ps iR eL st' pd')]) {w with heap:=w.heap.setIfInBounds l (.loop {r with state:=st',pending:=pd'.map iu.code})}:=by
 have aP:=hH.ok id
 simp only[aF,ho]at aP
 obtain⟨b,r,h1,h2,h0,h3,h4,h5,h6,h7,h8,h9⟩:=aP
 rw[dT]at h1;simp at h1;subst h1
 refine⟨r,h2,h3,h4, ?_⟩
 have EN:dy (· =l) w {w with heap:=w.heap.setIfInBounds l (.loop {r with state:=st',pending:=pd'.map iu.code})}:=
  ⟨rfl,rfl,rfl,aK,fun j _ hj=>(MapKept.heap_set h2).2 j hj⟩
 have uX:(H.o id).live=true:=by rw[ho];rfl
 have CH:dK (φ id)=some l:=by rw[dT];rfl
 have ht:=eu (w:=w) (w':={w with heap:=w.heap.setIfInBounds l (.loop {r with state:=st',pending:=pd'.map iu.code})}) ed uX CH EN (.loop nf m env ps iR eL st' pd') dw dw
 refine⟨gD hH ed uX CH EN _ dw dw ?_,ht⟩
 unfold aF
 simp only[ba,aC,if_true]
 exact⟨l,_,dT,(MapKept.heap_set h2).1,h0,rfl,rfl,h5,h6,h7,h8,fun i=>V.aG ht _ _ (h9 i)⟩
theorem fZ{l:Nat}{r:Loop}(o:Obj)(hb:w.heap[l]? =some (.loop r)):(setObj l o).run P w= .ok () {w with heap:=w.heap.setIfInBounds l o}:=by
 simp[setObj,Sem.run,hb]
theorem iK{l:Nat}{r:Loop}(hb:w.heap[l]? =some (.loop r)):(Instr.getLoop l).run P w= .ok r w:=by
 simp[Instr.getLoop,getObj,Sem.run,hb,Result.andThen]
end
def oO(Q:eM->S->Prop)(pd:Option iu)(s:S):Prop:=
 match pd with
 |none=>Q .normal s
 |some .ret=>Q .ret s
 |some (.exit id)=>Q (.exit id) s
def xB(P:Program)(n:Nat)(g:V)(ps:List Nat)(iR eL:IC)(Q:eM->S->Prop)(s:S):Prop:=
 ∃env,(∀i,bc env i= .ab\/bc env i=s.env i)/\
  match g with
  | .func (.func f) first cap=>lR P f (first++[.jc s.nx]++cap) (aM s.o s.nx (.loop P.funcs.size n env ps iR eL .ready none)) (s.nx+1)
    (fun _ o' nx'=>∃nf m e p c d st pd,o' s.nx= .loop nf m e p c d st pd/\st≠ .busy/\oO Q pd ⟨s.env,aM o' s.nx (.loop nf m e p c d .exhausted pd),nx'⟩)
    (fun v o' nx'=>Q (.bf v) ⟨s.env,o',nx'⟩)
  |_=>False
def Sk(P:Program)(n b:Nat)(g:Operand)(ps:List Nat)(iR eL:IC)(Q:eM->S->Prop)(s:S):Prop:=∃s',(s'=s\/bM b s s')/\xB P n (s'.ev g) ps iR eL Q s'
def gu(P:Program)(n b:Nat)(rd:Bool):Code->(eM->S->Prop)->S->Prop
 | .skip,Q,s=>Q .normal s
 | .label _,Q,s=>Q .normal s
 | .scope x,Q,s=>gu P n b rd x Q s
 | .region _ ops false,Q,s=>vc P n ops (fun v s=>Q (.bf v) s) (Q .normal) ops.toList s
 | .region id ops true,Q,s=>∀M bV H0 w0 cx φ a w ro k,bE M bV H0 w0 n cx φ s a w->(Code.region id ops true).wpIn (cY ro) k P (Bn M bV H0 w0 n cx Q) a w
 | .seq x y,Q,s=>gu P n b rd x (nu (gu P n b rd y Q) Q) s
 | .cond c x y,Q,s=>match s.ev c with
   | .d (.bool t)=>(t=true->gu P n b rd x Q s)/\(t=false->gu P n b rd y Q s)
   | .ek=>gu P n b rd x Q s/\gu P n b rd y Q s
   |_=>False
 | .block id x,Q,s=>gu P n b rd x (dW id Q) s
 | .loop x,Q,s=>∃ (J:Nat->S->Prop),(∃m s1,bM b s s1/\J m s1)/\∀m s0,J m s0->gu P n b rd x (fun e s=>match e with| .normal=>∃m' s1,m'<m/\bM b s s1/\J m' s1|e=>Q e s) s0
 | .exit id,Q,s=>Q (.exit id) s
 | .ret,Q,s=>Q .ret s
 | .rangeFunc g ps x y,Q,s=>rd=false/\Sk P n b g ps.toList (low n x) (low n y) Q s
 |_,_,_=>False
section
variable {P:Program}{M:Nat->Prop}{φ:Place}{H:Hp}{w w':World}{bV:Place}{H0:Hp}{w0:World}{n b:Nat}{s:S}{a:Act}{cx:Cx}{ro:Option Nat}{k:Nat}
theorem zJ(hb:∀id,H0.us id->id<b)(hs:bE M bV H0 w0 n cx φ s a w){s':S}(h:bM b s s'):∃aA,bE M bV H0 w0 n cx aA s' a w:=by
 obtain⟨aA,h1,h2,h3,h4,h5,h6⟩:=h M φ w (fun i=>a.tmps.getD i undef) hs.heap hs.env
 refine⟨aA,h1,⟨hs.tr.keep,fun k hk=>hs.tr.grow k (h3 k hk),⟨fun id hu=>Nat.lt_of_lt_of_le (hb id hu) h4,fun id hu hr=> ?_,fun id e' hu he=> ?_⟩⟩,hs.size, ?_,h2⟩
 ·obtain⟨g1,g2⟩:=h5 id (hb id hu) hr
  obtain⟨g3,g4⟩:=hs.tr.rel.row id hu g1
  exact⟨g3,g2.trans g4⟩
 ·obtain⟨e,g1,g2,g3⟩:=h6 id e' (hb id hu) he
  obtain⟨e0,k1,k2,k3⟩:=hs.tr.rel.ep id e hu g1
  refine⟨e0,k1,Nat.le_trans k2 g2,fun heq=> ?_⟩
  have a1:e0=e:=af
  have a2:e=e':=af
  exact(g3 a2).trans (k3 a1)
 ·obtain⟨ms,g1,g2,g3,g4⟩:=hs.defers
  exact⟨ms,g1,g2,g3,fun r hr=>⟨(g4 r hr).1,(g4 r hr).2.1,fun hl=>(g4 r hr).2.2 (h3 r hl)⟩⟩
theorem vh{c:Code}{Q:Exit->Act->World->Prop}(J:Nat->Act->World->Prop)(round:∀m a w,J m a w->c.qf P ro (Exit.then (fun a' w'=>∃m',m'<m/\J m' a' w') Q) a w):
 ∀m a w,J m a w->(Code.loop c).qf P ro Q a w:=by
 intro m a w h0 fr kk cs qs hb
 have hr:(cY ro).room (cs.length+1+0):=fun d hd=>by simp[cY]at hd
 have key:∀m a w,J m a w->∃e a' w',Q e a' w'/\ArrivesIn (Machine.fenced P (cY ro)) P (lone (fr.atR a (.code c:: .inLoop c::kk)) cs w) fr kk cs e a' w':=by
  intro m
  induction m using Nat.strongRecOn with
  |_ m ih=>
   intro a w hJ
   obtain⟨e,a1,w1,hq,cE⟩:=round m a w hJ fr (.inLoop c::kk) cs qs hb
   cases e with
   |normal=>
    obtain⟨m',bQ,hJ'⟩:=hq
    obtain⟨e2,a2,w2,Pf,Bp⟩:=ih m' bQ a1 w1 hJ'
    exact⟨e2,a2,w2,Pf, .of_steps (StepsIn.trans cE (.one (fenced_calm trivial hr rfl) stepR_inLoop)) Bp⟩
   |_=>exact⟨_,a1,w1,hq, .pass (x:= .inLoop c) rfl (fun _ _=> .inl aK) cE⟩
 obtain⟨e,a',w',hq,cE⟩:=key m a w h0
 exact⟨e,a',w',hq, .of_steps (.one (fenced_calm trivial hr rfl) stepR_loop) cE⟩
theorem tS(hs:bE M bV H0 w0 n cx φ s a w)(me:cx.rd=false)(qs:ro=none){g:Operand}{ps:Array Tmp}{x y:Code}{Q:eM->S->Prop}(h:xB P n (s.ev g) ps.toList (low n x) (low n y) Q s):
 (Code.rangeFunc g ps x y).qf P ro (Bn M bV H0 w0 n cx Q) a w:=by
 subst qs
 obtain⟨env,dp,h⟩:=h
 refine s6 fun fn DI=> ?_
 let zK:Loop:={state:= .ready,pending:=none,fn:=fn,tmps:=a.tmps,params:=ps,assign:=x,body:=y,defers:=w.heap.size}
 let w1:World:=(w.alloc (.deferred (some []))).alloc (.loop zK)
 let l:Nat:=w.heap.size+1
 have jH:(Instr.enterLoop fn a.tmps ps x y (cY none).round).run P w= .ok (l,[mark w.heap.size]) w1:=by
  simp[Instr.enterLoop,cY,mark,w1,l,zK]
 have JN:dy (fun _=>False) w w1:=by
  have k1:=bH w (.deferred (some []))
  have k2:=bH (w.alloc (.deferred (some []))) (.loop zK)
  exact⟨k2.os.trans k1.os,k2.tape.trans k1.tape,k2.output.trans k1.output,Nat.le_trans k1.size k2.size,fun j hj hm=>(k2.block j (Nat.lt_of_lt_of_le hj k1.size) hm).trans (k1.block j hj hm)⟩
 let fW:=aM φ s.nx (.pointer (some ⟨l,0,none⟩))
 let s1:S:=⟨s.env,aM s.o s.nx (.loop P.funcs.size n env ps.toList (low n x) (low n y) .ready none),s.nx+1⟩
 have cC: ¬s.H.us s.nx:=by simp[S.H]
 have eI:∀b,dK (.pointer (some ⟨l,0,none⟩))=some b->w.heap.size<=b/\b<w1.heap.size:=by
  intro b hb;simp[dK]at hb;subst hb;simp[l,w1]
 have zc:=cT (φ:=φ) (H:=s.H) JN cC (.loop P.funcs.size n env ps.toList (low n x) (low n y) .ready none) (.pointer (some ⟨l,0,none⟩)) fun b hb=>(eI b hb).1
 have Hx:(w.alloc (.deferred (some []))).heap.size=w.heap.size+1:=aK
 have uX:w1.heap[l]? =some (.loop zK):=by
  have:=heap_alloc_new (w.alloc (.deferred (some []))) (.loop zK)
  rwa [Hx]at this
 have DH:=fM hs.heap JN cC (.loop P.funcs.size n env ps.toList (low n x) (low n y) .ready none) (.pointer (some ⟨l,0,none⟩)) eI (by
  unfold aF
  simp only[ba,aC,if_true]
  refine⟨l,zK,rfl,uX,DI,rfl,rfl,rfl,hs.size,rfl,rfl,fun i=> ?_⟩
  rcases dp i with e|e
  ·rw[e];trivial
  ·rw[e];exact V.aG zc _ _ (hs.env i))
 have rh:bE M bV H0 w0 n cx fW s1 {a with defers:=mark w.heap.size::a.defers} w1:=by
  have base:=dE hs DH zc (o':=aM s.o s.nx (.loop P.funcs.size n env ps.toList (low n x) (low n y) .ready none)) (nx':=s.nx+1) rfl (EV fun id aq=>by simp at aq;exact .inr aq)
  refine⟨base.heap,base.tr,base.size, ?_,base.env⟩
  obtain⟨ms,g1,g2,g3,g4⟩:=base.defers
  obtain⟨XO,q1,q2,q3,q4⟩:=hs.defers
  have hmm:ms.map mark=XO.map mark:=by
   have:ms.map mark++cx.base=XO.map mark++cx.base:=g1.symm.trans q1
   exact List.append_cancel_right this
  have Mg:ms=XO:=by
   have hm:∀a b,mark a=mark b->a=b:=fun a b h=>by simpa[mark]using h
   exact List.map_inj_right hm |>.1 hmm
  refine⟨w.heap.size::ms,by rw[g1];rfl,List.nodup_cons.2 ⟨fun hm=> ?_,g2⟩,(fun h=>by rw[me]at h;cases h),fun r hr=> ?_⟩
  ·have:=(q4 w.heap.size (Mg ▸ hm)).2.1
   rw[Array.getElem?_eq_none (Nat.le_refl _)]at this;cases this
  ·rcases List.mem_cons.1 hr with rfl|hr
   ·refine⟨hs.tr.keep.size,(RowKit.Below.heap_alloc (w.alloc (.deferred (some []))) (.loop zK) w.heap.size (by rw[Hx];omega)).trans (heap_alloc_new w _), ?_⟩
    rintro⟨id,i1,i2⟩
    by_cases e:id=s.nx
    ·subst e;simp[fW,dK,l]at i2
    ·have i1':(s.H.o id).live=true:=by simpa[s1,S.H,e]using i1
     have i2':dK (φ id)=some w.heap.size:=by simpa[fW,e]using i2
     have:=(hs.heap.ours _ ⟨id,i1',i2'⟩).2
     omega
   ·exact g4 r hr
 have XP:V.den (ai M fW s1.H) fW s1.H w1 (.jc s.nx) (.func (.yield l) #[] #[]):=
  ⟨rfl,by simp[s1,S.H],fun _=>⟨l,by simp[fW],rfl⟩⟩
 have hg:=ku (M:=M) (φ:=fW) (H:=s1.H) (w:=w1) s1 {a with defers:=mark w.heap.size::a.defers} rh.env g
 have XQ:s1.ev g=s.ev g:=by cases g<;>rfl
 rw[XQ]at hg
 have hae:({a with defers:=mark w.heap.size::a.defers}:Act).eval g=a.eval g:=rfl
 rw[hae]at hg
 split at h
 ·rename_i f first cap hgv
  rw[hgv]at hg
  obtain⟨fa,ca,Me,A7,V8⟩:=hg
  have fin:∀ (all:List V) (o2:Nat->aa) (s2:S),s2=⟨s.env,o2,s.nx+1⟩->bE M bV H0 w0 n cx fW s2 {a with defers:=mark w.heap.size::a.defers} w1->V.az (ai M fW s2.H) fW s2.H w1 all (fa++#[Value.func (.yield l) #[] #[]]++ca).toList->(o2 s.nx).bI=true->
   dV P f all o2 (s.nx+1) (fun _ o' nx'=>∃nf m e p c d st pd,o' s.nx= .loop nf m e p c d st pd/\st≠ .busy/\oO Q pd ⟨s.env,aM o' s.nx (.loop nf m e p c d .exhausted pd),nx'⟩) (fun v o' nx'=>Q (.bf v) ⟨s.env,o',nx'⟩)->
   ∃ (l:Nat) (mark:List Deferred) (gM:World) (d:Deferred) (tQ:World) (f:FuncId) (args:Array Value) (oN:World),
     (Instr.enterLoop fn a.tmps ps x y (cY none).round).run P w= .ok (l,mark) gM/\(resolve a.eval (rangeCall g l) 0).run P gM= .ok d tQ/\
     (invoke d.target d.args).run P tQ= .ok (.enter f args) oN/\CallsIn (cY none) 0 P f args oN (re P l (Bn M bV H0 w0 n cx Q) {a with defers:=mark++a.defers}):=by
   intro all o2 s2 XR DW aR cn hC
   subst XR
   have dJ:=hC.2 M fW w1 _ DW.heap aR
   refine⟨l,[mark w.heap.size],w1,{target:= .fn (.func f) ca,args:=fa++#[Value.func (.yield l) #[] #[]]},w1,f,fa++#[Value.func (.yield l) #[] #[]]++ca,w1,jH, ?_, ?_,cz (dJ.mono fun e w' ⟨aA,o',nx',v,k1,k2,k3⟩=> ?_)⟩
   ·simp only[resolve,Me,Deferred.ofValue,List.map_toArray,List.map_cons,List.map_nil,Sem.run_pure]
    rfl
   ·simp[invoke,jm hC.1]
   ·cases e with
    |returned val=>
     obtain⟨k4,nf,m,e,p,c,d,st,pd,k5,k6,k7⟩:=k3
     have Bq:bE M bV H0 w0 n cx aA ⟨s.env,o',nx'⟩ {a with defers:=mark w.heap.size::a.defers} w':=dE DW k1 k2 rfl fun id hu=>hu
     have Mh:aA s.nx= .pointer (some ⟨l,0,none⟩):=by
      have:=(k2.rel.row s.nx (show s.nx<s.nx+1 from af) (by show(o' s.nx).bI=true;rw[k5];rfl)).2
      rw[this];simp[fW]
     have bQ:s.nx<nx':=k2.rel.us s.nx (show s.nx<s.nx+1 from af)
     obtain⟨r,r1,r2,r3,r4,r5⟩:=tR (st':= .exhausted) (pd':=pd) k1 bQ (show(hp o' nx').o s.nx=_ from k5) Mh
     have dx:(Instr.endLoop l).run P w'= .ok (pd.map iu.code) {w' with heap:=w'.heap.setIfInBounds l (.loop {r with state:= .exhausted,pending:=pd.map iu.code})}:=by
      have e1:({r with state:= .exhausted}:Loop)={r with state:= .exhausted,pending:=pd.map iu.code}:=by rw[<- r3]
      have hnb:(r.state==LoopState.busy)=false:=by rw[r2];cases st<;>first|rfl|exact absurd rfl k6
      simp only[Instr.endLoop,Sem.run_bind,iK r1,Result.andThen_ok,hnb,Bool.false_eq_true,if_false,Sem.run_pure]
      rw[fZ _ r1,e1]
      simp[r3]
     have Pg:=dE Bq r4 r5 (o':=aM o' s.nx (.loop nf m e p c d .exhausted pd)) (nx':=nx') rfl fun id hu=>by
      simp only[df]at hu
      rcases hu with hu|hu
      ·exact hu
      ·subst hu;exact bQ
     refine⟨pd.map iu.code,_,dx, ?_⟩
     cases pd with
     |none=>exact⟨.normal,_,_,k7,Pg,trivial⟩
     |some j=>
      cases j with
      |ret=>exact Bo ⟨.ret,_,_,k7,Pg,trivial⟩
      |exit id=>exact xz ⟨.exit id,_,_,k7,Pg,rfl⟩
    |panicked ch=>
     obtain⟨val,rfl,k4,k5⟩:=k3
     have Bq:bE M bV H0 w0 n cx aA ⟨s.env,o',nx'⟩ {a with defers:=mark w.heap.size::a.defers} w':=dE DW k1 k2 rfl fun id hu=>hu
     exact⟨.bf v,_,_,k5,Bq,val,rfl,k4⟩
    |outgrown=>exact k3.elim
  have kE:V.az (ai M fW s1.H) fW s1.H w1 (first++[V.jc s.nx]++cap) (fa++#[Value.func (.yield l) #[] #[]]++ca).toList:=by
   rw[Array.toList_append,Array.toList_append]
   exact V.mU A7 ⟨_,[],rfl,XP,rfl⟩ V8
  rcases h with hC|hC
  ·exact fin _ _ s1 rfl rh kE (by simp;rfl) hC
  ·have mR:s1.o=aM s.o s.nx (.loop P.funcs.size n env ps.toList (low n x) (low n y) .ready none):=rfl
   obtain⟨f1,f2,f3,f4,f5⟩:=cI rh.heap (cB s1.o (first++[V.jc s.nx]++cap)) (eT _ _ s1.o kE)
   have jC:s1.H.put (cq s1.H.o (cB s1.o (first++[V.jc s.nx]++cap)))=hp (put s1.o (cq s1.o (cB s1.o (first++[V.jc s.nx]++cap)))) s1.nx:=jl (by rw[qn];exact eT _ _ s1.o kE)
   have JO:=EY f1 _ _ f3 (V.aI f2 _ _ kE)
   have JP:((s1.H.put (cq s1.H.o (cB s1.o (first++[V.jc s.nx]++cap)))).o s.nx).bI=true:=by
    by_cases hm:s.nx∈cB s1.o (first++[V.jc s.nx]++cap)
    ·rw[f3 _ hm];simp[s1,S.H,aa.fz,aa.bI]
    ·rw[f4 _ hm];simp[s1,S.H,aa.bI]
   rw[jC]at f1 f2 JO JP
   exact fin _ (put s1.o (cq s1.o (cB s1.o (first++[V.jc s.nx]++cap)))) ⟨s.env,_,s.nx+1⟩ rfl (dE rh f1 f2 rfl fun id hu=>hu) JO JP hC
 ·exact h.elim
end
end Go.Proofs.YtlhemmpklhhgoaaGreat
