/-
  A PART OF THE PROOF. Conditions: none.
-/
import Derived.RangeFuncLeaves
import Derived.TacticsIn
import Derived.RecoverIn
import Derived.Test.YtlhemmpklhhgoaaGreatQu5
set_option linter.unusedSimpArgs false
set_option linter.unusedVariables false
namespace Go.Proofs.YtlhemmpklhhgoaaGreat
inductive R where
 |ret (ds:List D)|bJ (d:D)
def R.is (B:Nat->Prop)(w:World):R->Ending->Prop
 | .ret [x], .returned v=>D.den B w x v
 | .ret ds, .returned v=>∃a,v= .tuple a/\D.aC B w ds a.toList
 | .bJ d, .panicked chain=>∃v,chain=[{v:=v,recovered:=false}]/\D.den B w d v
 |_,_=>False
def Enters(P:Program)(f:FuncId):Prop:=∃fn,P.funcs[f]? =some fn/\(fn.name== "runtime.NumGoroutine")=false/\fn.body.isNone=false
def aW(P:Program)(f:FuncId)(ds:List D)(out:R):Prop:=
 Enters P f/\∀ (M:Nat->Prop) (w:World) (vals:Array Value),(∀b,M b->b<w.heap.size)->D.aC M w ds vals.toList->
  Calls P f vals w fun e w'=>ei (fun _=>False) w w'/\out.is M w' e
def hp(o:Nat->ad)(nx:Nat):Hp:=⟨o,fun id=>id<nx⟩
def mZ(M:Nat->Prop)(φ:Place)(H:Hp)(w:World)(K X:V->(Nat->ad)->Nat->Prop)(e:Ending)(w':World):Prop:=
 ∃aF o' nx' v,az M aF (hp o' nx') w'/\Trans φ H w aF (hp o' nx') w'/\match e with
  | .returned val=>V.den (ak M aF (hp o' nx')) aF (hp o' nx') w' v val/\K v o' nx'
  | .panicked ch=>∃val,ch=[{v:=val,recovered:=false}]/\V.den (ak M aF (hp o' nx')) aF (hp o' nx') w' v val/\X v o' nx'
  | .outgrown=>False
def bQ(P:Program)(f:FuncId)(args:List V)(o:Nat->ad)(nx:Nat)(K X:V->(Nat->ad)->Nat->Prop):Prop:=
 Enters P f/\∀ (M:Nat->Prop) (φ:Place) (w:World) (vals:Array Value),az M φ (hp o nx) w->V.aC (ak M φ (hp o nx)) φ (hp o nx) w args vals.toList->
  Calls P f vals w (mZ M φ (hp o nx) w K X)
def dL(P:Program)(id:Nat)(args:List V)(o:Nat->ad)(nx:Nat)(K X:V->(Nat->ad)->Nat->Prop):Prop:=
 (o id).ct=true/\∀ (M:Nat->Prop) (φ:Place) (w:World) (vals:Array Value) (b:Nat),az M φ (hp o nx) w->V.aC (ak M φ (hp o nx)) φ (hp o nx) w args vals.toList->φ id= .pointer (some ⟨b,0,none⟩)->
  ∃f tmps assign body,(Instr.yield b vals).run P w= .ok (.round b f tmps assign body) w/\∀n,RoundIn Fence.wide n P b f tmps assign body w (mZ M φ (hp o nx) w K X)
theorem mZ.mono {M:Nat->Prop}{φ:Place}{H:Hp}{w:World}{K X K' X':V->(Nat->ad)->Nat->Prop}(hK:∀v o n,K v o n->K' v o n)(hX:∀v o n,X v o n->X' v o n){e:Ending}{w':World}(h:mZ M φ H w K X e w'):mZ M φ H w K' X' e w':=by
 obtain⟨aF,o',nx',v,h1,h2,h3⟩:=h
 refine⟨aF,o',nx',v,h1,h2, ?_⟩
 cases e with
 |returned val=>exact⟨h3.1,hK _ _ _ h3.2⟩
 |panicked ch=>obtain⟨val,a,b,c⟩:=h3;exact⟨val,a,b,hX _ _ _ c⟩
 |outgrown=>exact h3
theorem bQ.mono {P:Program}{f:FuncId}{args:List V}{o:Nat->ad}{nx:Nat}{K X K' X':V->(Nat->ad)->Nat->Prop}(hK:∀v o n,K v o n->K' v o n)(hX:∀v o n,X v o n->X' v o n)(h:bQ P f args o nx K X):bQ P f args o nx K' X':=
 ⟨h.1,fun M φ w vals h1 h2=>(h.2 M φ w vals h1 h2).mono fun _ _ h=>h.mono hK hX⟩
theorem dL.mono {P:Program}{id:Nat}{args:List V}{o:Nat->ad}{nx:Nat}{K X K' X':V->(Nat->ad)->Nat->Prop}(hK:∀v o n,K v o n->K' v o n)(hX:∀v o n,X v o n->X' v o n)(h:dL P id args o nx K X):dL P id args o nx K' X':=
 ⟨h.1,fun M φ w vals b h1 h2 h3=>let⟨f,t,a,c,h4,h5⟩:=h.2 M φ w vals b h1 h2 h3;⟨f,t,a,c,h4,fun n=>(h5 n).mono fun _ _ h=>h.mono hK hX⟩⟩
mutual
def D.flat:D->Bool
 | .sl _| .mp _ _=>false
 | .agg cs=>D.jF cs
 | .iface _ x=>x.flat
 |_=>true
def D.jF:List D->Bool
 |[]=>true
 |x::xs=>x.flat&&D.jF xs
end
mutual
theorem D.qo {B B':Nat->Prop}{w w':World}:∀ (x:D) (v:Value),x.flat=true->D.den B w x v->D.den B' w' x v
 | .int _ _,_,_,h| .bool _,_,_,h| .str _,_,_,h| .eP,_,_,h| .kT,_,_,h| .cz,_,_,h| .dH,_,_,h=>h
 | .agg cs,_,hf,h=>by obtain⟨a,rfl,h,h2⟩:=h;exact⟨a,rfl,D.lW cs _ hf h,h2⟩
 | .sl es,_,hf,h=>by simp[D.flat]at hf
 | .mp _ _,_,hf,h=>by simp[D.flat]at hf
 | .iface t x,_,hf,h=>by obtain⟨u,rfl,h⟩:=h;exact⟨u,rfl,D.qo x u hf h⟩
theorem D.lW {B B':Nat->Prop}{w w':World}:∀ (xs:List D) (vs:List Value),D.jF xs=true->D.aC B w xs vs->D.aC B' w' xs vs
 |[],_,_,h=>h
 |x::xs,_,hf,h=>by
  obtain⟨u,us,rfl,h1,h2⟩:=h
  simp only[D.jF,Bool.and_eq_true]at hf
  exact⟨u,us,rfl,D.qo x u hf.1 h1,D.lW xs us hf.2 h2⟩
end
mutual
def D.m7:D->Bool
 | .mp _ _=>false
 | .agg cs=>D.lX cs
 | .sl es=>D.lX es
 | .iface _ x=>x.m7
 |_=>true
def D.lX:List D->Bool
 |[]=>true
 |x::xs=>x.m7&&D.lX xs
end
theorem gE.Bo {B B':Nat->Prop}{w w':World}{a:Addr}{cs:Array Value}
 (hb:∀b,pZ w b-> ¬B b->w'.heap[b]? =w.heap[b]? /\ ¬B' b) (h:gE B w a cs):gE B' w' a cs:=by
 intro j u hj
 obtain⟨h1,h2⟩:=h j u hj
 have ck:pZ w a.block:=by simpa using oN h1
 exact Zv
mutual
theorem D.kY {B B':Nat->Prop}{w w':World}(hb:∀b,pZ w b-> ¬B b->w'.heap[b]? =w.heap[b]? /\ ¬B' b):
 ∀ (x:D) (v:Value),x.m7=true->D.den B w x v->D.den B' w' x v
 | .int _ _,_,_,h| .bool _,_,_,h| .str _,_,_,h| .eP,_,_,h| .kT,_,_,h| .cz,_,_,h| .dH,_,_,h=>by simpa[D.den]using h
 | .agg cs,_,hn,h=>by
   obtain⟨a,rfl,h,hf⟩:=h
   exact⟨a,rfl,D.m8 hb cs _ hn h,hf⟩
 | .sl es,_,hn,h=>by
   obtain⟨base,len,cap,rfl,h1,h2,h3,sz,h4⟩:=h
   exact⟨base,len,cap,rfl,h1,h2,h3,sz,fun a ha=>⟨(h4 a ha).1,D.qp hb sz a es 0 hn (h4 a ha).2⟩⟩
 | .iface t d,_,hn,h=>by
   obtain⟨u,rfl,h⟩:=h
   exact⟨u,rfl,D.kY hb d u hn h⟩
 | .mp _ _,_,hn,_=>by simp[D.m7]at hn
theorem D.m8 {B B':Nat->Prop}{w w':World}(hb:∀b,pZ w b-> ¬B b->w'.heap[b]? =w.heap[b]? /\ ¬B' b):
 ∀ (ds:List D) (vs:List Value),D.lX ds=true->D.aC B w ds vs->D.aC B' w' ds vs
 |[],_,_,h=>h
 |d::ds,_,hn,h=>by
  obtain⟨u,us,rfl,h1,h2⟩:=h
  simp only[D.lX,Bool.and_eq_true]at hn
  exact⟨u,us,rfl,D.kY hb d u hn.1 h1,D.m8 hb ds us hn.2 h2⟩
theorem D.qp {B B':Nat->Prop}{w w':World}(hb:∀b,pZ w b-> ¬B b->w'.heap[b]? =w.heap[b]? /\ ¬B' b)(sz:Nat)(a:Addr):
 ∀ (es:List D) (i:Nat),D.lX es=true->D.elems B w sz a i es->D.elems B' w' sz a i es
 |[],_,_,_=>trivial
 |e::es,i,hn,h=>by
  obtain⟨⟨ev,h1,h2,h3⟩,h4⟩:=h
  simp only[D.lX,Bool.and_eq_true]at hn
  exact⟨⟨ev,h1,h2.Bo hb,D.kY hb e ev hn.1 h3⟩,D.qp hb sz a es (i+1) hn.2 h4⟩
end
def R.m7:R->Bool
 | .ret ds=>D.lX ds
 | .bJ d=>d.m7
def R.flat:R->Bool
 | .ret ds=>D.jF ds
 | .bJ d=>d.flat
def iR:List D->V
 |[x]=> .d x
 |ds=> .bP (ds.map .d)
inductive fH where
 |normal|exit (id:Nat)|ret|bJ (v:V)
def aX(env:Nat->V)(dst:Option Tmp)(v:V):Nat->V:=
 match dst with
 |some d=>ay env d v
 |none=>env
def Kx(o:Nat->ad)(v:V):V:=match dN o v with|some x=> .d x|none=>v
def dg(o:Nat->ad):List V->List Nat
 |[]=>[]
 |v::vs=>(match dN o v with|some _=>v.ids|none=>[])++dg o vs
def oK(P:Program)(g:FuncId)(args:List V)(o:Nat->ad)(nx:Nat)(K X:V->(Nat->ad)->Nat->Prop):Prop:=
 bQ P g args o nx K X\/bQ P g (args.map (Kx o)) (put o (bw o (dg o args))) nx K X
def uR(P:Program)(s:S)(g:FuncId)(all:List V)(K:V->(Nat->ad)->Nat->Prop)(X:V->(Nat->ad)->Nat->Prop):Prop:=
    (∃ds out,cc s.o all=some ds/\aW P g ds out/\(match out with
     | .ret rs=>K (iR rs) (put s.o (bw s.o (V.ba all))) (s.nx+1)
     | .bJ x=>X (.d x) (put s.o (bw s.o (V.ba all))) (s.nx+1)))\/
    (∃ds out,cc s.o all=some ds/\aW P g ds out/\out.flat=true/\(match out with
     | .ret rs=>K (iR rs) s.o (s.nx+1)
     | .bJ x=>X (.d x) s.o (s.nx+1)))\/
    (∃ds out,cc s.o all=some ds/\aW P g ds out/\out.m7=true/\(match out with
     | .ret rs=>K (iR rs) (put s.o (rJ s.o (V.ba all))) (s.nx+1)
     | .bJ x=>X (.d x) (put s.o (rJ s.o (V.ba all))) (s.nx+1)))\/
    oK P g all s.o s.nx K X
def BJ(P:Program)(s:S)(f:V)(args:List V)(K:V->(Nat->ad)->Nat->Prop)(X:V->(Nat->ad)->Nat->Prop):Prop:=
 match f with
 | .func (.func g) first cap=>uR P s g (first++args++cap) K X
 | .j7 id=>dL P id args s.o s.nx K X
 |_=>False
def Q4(P:Program)(t:TypeId):Bool:=
 match P.underlying t with
 |some (.pointer _)=>false
 |some _=>true
 |none=>false
def uS(P:Program)(m:String)(x:V):Option (FuncId×V):=
 match x with
 | .d (.iface t y)=>match P.info? t with
   |some ti=>match ti.methods.find? (·.name==m)with
    |some r=>match r.func with
     |some (f,false)=>if r.path.isEmpty=true/\Q4 P t=true then some (f, .d y)else none
     |_=>none
    |none=>none
   |none=>none
 |_=>none
def gG(n:Nat):Option Tmp->Prop
 |some d=>d<n
 |none=>True
def opW(P:Program)(n:Nat)(s:S)(o:Oper)(X:V->S->Prop)(K:S->Prop):Prop:=
 gG n o.dst/\match o.op with
 | .call c=>match c.callee with
   | .value f=>BJ P s (s.ev f) (c.args.toList.map s.ev) (fun v o' nx'=>K ⟨aX s.env o.dst v,o',nx'⟩) (fun v o' nx'=>X v ⟨s.env,o',nx'⟩)
   | .invoke r m=>match uS P m (s.ev r)with
     |some (g,y)=>uR P s g (y::c.args.toList.map s.ev) (fun v o' nx'=>K ⟨aX s.env o.dst v,o',nx'⟩) (fun v o' nx'=>X v ⟨s.env,o',nx'⟩)
     |none=>False
   |_=>QS P s s.nx o.op fun v Δ _=>K ⟨aX s.env o.dst v,put s.o Δ,s.nx+1⟩
 | .panic x=>match s.ev x with
   | .d (.iface t y)=>X (.d (.iface t y)) s
   | .iface t y=>X (.iface t y) s
   |_=>False
 |op=>QS P s s.nx op fun v Δ _=>K ⟨aX s.env o.dst v,put s.o Δ,s.nx+1⟩
def zl(s:S)(ops:Array Oper)(g:Option (Nat×Bool))(A B:Prop):Prop:=
 match g with
 |none=>A
 |some (j,want)=>match sN ops j with
  |some d=>match s.env d with
   | .d (.bool b)=>(b=want->A)/\(b≠want->B)
   | .bP []=>B
   |_=>False
  |none=>B
def zm(P:Program)(n:Nat)(ops:Array Oper)(X:V->S->Prop)(K:S->Prop):List Oper->S->Prop
 |[],s=>K s
 |o::l,s=>zl s ops o.guard (opW P n s o X (zm P n ops X K l)) (gG n o.dst/\zm P n ops X K l ⟨aX s.env o.dst (.bP []),s.o,s.nx+1⟩)
def bI(b:Nat)(s s':S):Prop:=
 ∀ (M:Nat->Prop) (φ:Place) (w:World) (tm:Nat->Value),az M φ s.H w->(∀i,V.den (ak M φ s.H) φ s.H w (s.env i) (tm i))->
   ∃aF,az M aF s'.H w/\(∀i,V.den (ak M aF s'.H) aF s'.H w (s'.env i) (tm i))/\(∀k,cG aF s'.H k->cG φ s.H k)/\b<=s'.nx/\
    (∀id,id<b->(s'.o id).ct=true->(s.o id).ct=true/\aF id=φ id)/\
    (∀id e',id<b->(s'.o id).cq=some e'->∃e,(s.o id).cq=some e/\e<=e'/\(e=e'->aF id=φ id))
def qq(K:S->Prop)(Q:fH->S->Prop)(e:fH)(s:S):Prop:=match e with| .normal=>K s|e=>Q e s
def fC(id:Nat)(Q:fH->S->Prop)(e:fH)(s:S):Prop:=match e with| .exit j=>if j=id then Q .normal s else Q (.exit j) s|e=>Q e s
def lY(P:Program)(s:S):List ResultVar->Option (List V)
 |[]=>some []
 | .tmp t::rs=>(lY P s rs).map (s.env t::·)
 | .cell a t::rs=>match s.env a with
   | .ptr id off=>match s.o id with
     | .row cs=>(eQ P t cs off).bind fun v=>(lY P s rs).map (v::·)
     |_=>none
   |_=>none
def cw(vs:List V):Nat->V:=fun i=>vs.getD i (.bP [])
def zo(P:Program)(rs:List ResultVar)(out:R)(e:fH)(s:S):Prop:=
 match e with
 | .normal| .ret=>match lY P s rs with
   |some vs=>match cc s.o vs with
    |some ds=>out= .ret ds
    |none=>False
   |none=>False
 | .bJ v=>match dN s.o v with
   |some x=>out= .bJ x
   |none=>False
 | .exit _=>False
theorem Ky{P:Program}{rs:List ResultVar}{out:R}{s:S}(h:match lY P s rs with
 |some vs=>match cc s.o vs with
  |some ds=>out= .ret ds
  |none=>False
 |none=>False):∃vs ds,lY P s rs=some vs/\cc s.o vs=some ds/\out= .ret ds:=by
 split at h
 ·rename_i vs h1
  split at h
  ·rename_i xs h2;exact⟨vs,xs,h1,h2,h⟩
  ·exact h.elim
 ·exact h.elim
theorem Kz{out:R}{s:S}{v:V}(h:match dN s.o v with
 |some x=>out= .bJ x
 |none=>False):∃x,dN s.o v=some x/\out= .bJ x:=by
 split at h
 ·rename_i x h1;exact⟨x,h1,h⟩
 ·exact h.elim
section
section
variable {P:Program}{M:Nat->Prop}{φ:Place}{H:Hp}{w w':World}
def ad.kZ:ad->Bool
 | .arr .. =>true
 |_=>false
theorem N0(o:Nat->ad)(ids:List Nat):rJ o ids=bw o (ids.filter fun id=>(o id).kZ):=by
 induction ids with
 |nil=>rfl
 |cons id ids ih=>
  unfold rJ at ih|-
  simp only[List.filterMap_cons,List.filter_cons]
  cases hx:o id with
  |arr ep ty sz es=>
   have e:(ad.arr ep ty sz es).kZ=true:=rfl
   rw[e,if_pos rfl,ih]
   simp only[bw,List.map_cons,hx]
  |_=>exact ih
theorem j6(hH:az M φ H w){us':Nat->Prop}(h:∀id,H.us id->us' id):az M φ ⟨H.o,us'⟩ w/\Trans φ H w φ ⟨H.o,us'⟩ w:=by
 have ht:Trans φ H w φ ⟨H.o,us'⟩ w:=⟨ei.refl _ _,fun b hb=> .inl hb,⟨h,fun id _ hr=>⟨hr,rfl⟩,fun id e' _ he=>⟨e',he,Nat.le_refl _,fun _=>rfl⟩⟩⟩
 exact⟨hH.of ht (fun _=>False) (fun _ h=>h.elim) (fun id _=>⟨rfl,rfl,fun _ _ _=>rfl⟩) (fun id hn=>hH.fresh id fun hu=>hn (h id hu)) hH.apart (fun b hb=>(hH.ours b hb).2),ht⟩
theorem fY(hH:az M φ H w)(hk:ei (fun _=>False) w w'):az M φ H w'/\Trans φ H w φ H w':=by
 have ht:Trans φ H w φ H w':=⟨⟨hk.os,hk.tape,hk.output,hk.size,fun k h _=>hk.block k h fun h=>h⟩,fun b hb=> .inl hb,dV.refl _ _⟩
 exact⟨hH.of ht (fun _=>False) (fun _ h=>h.elim) (fun id _=>⟨rfl,rfl,fun hl b hb=>hk.block b (hH.ours b ⟨id,hl,hb⟩).2 fun h=>h⟩) hH.fresh hH.apart (fun b hb=>Nat.lt_of_lt_of_le (hH.ours b hb).2 hk.size),ht⟩
theorem la{Δ:List (Nat×ad)}(h:∀id∈Δ.map (·.1),H.us id):H.put Δ=⟨put H.o Δ,H.us⟩:=by
 unfold Hp.put
 congr 1
 funext id
 simp only[eq_iff_iff]
 exact⟨fun h'=>h'.elim (fun h=>h) (h id), .inl⟩
theorem tN(o:Nat->ad)(ids:List Nat):(bw o ids).map (·.1)=ids:=by
 rw[lU];simp[Function.comp_def]
structure Cx where
 base:List Deferred
 rd:Bool
def dP(ro:Option Nat):Fence:={fn:=fun _=>True,depth:=none,alive:=false,round:=ro}
def mark(r:Nat):Deferred:={target:= .collected r,args:=#[]}
def uT(cx:Cx)(w0:World)(φ:Place)(H:Hp)(w:World)(ds:List Deferred):Prop:=
 ∃ms:List Nat,ds=ms.map mark++cx.base/\ms.Nodup/\(cx.rd=true->ms=[])/\∀r∈ms,w0.heap.size<=r/\w.heap[r]? =some (.deferred (some []))/\ ¬cG φ H r
theorem uT.mono {cx:Cx}{w0:World}{φ aF:Place}{H H':Hp}{w w':World}{ds:List Deferred}(ht:Trans φ H w aF H' w')(h:uT cx w0 φ H w ds):uT cx w0 aF H' w' ds:=by
 obtain⟨ms,h1,h2,h3,h4⟩:=h
 refine⟨ms,h1,h2,h3,fun r hr=> ?_⟩
 obtain⟨g1,g2,g3⟩:=h4 r hr
 have ck:r<w.heap.size:=by
  rcases Nat.lt_or_ge r w.heap.size with hl|hl
  ·exact hl
  ·rw[Array.getElem?_eq_none hl]at g2;cases g2
 refine⟨g1,(ht.cH.block r ck g3).trans g2,fun hl=> ?_⟩
 rcases ht.grow r hl with h|h
 ·exact g3 h
 ·omega
structure cf (M:Nat->Prop) (cL:Place) (H0:Hp) (w0:World) (n:Nat) (cx:Cx) (φ:Place) (s:S) (a:Act) (w:World):Prop where
 heap:az M φ s.H w
 tr:Trans cL H0 w0 φ s.H w
 size:a.tmps.size=n
 defers:uT cx w0 φ s.H w a.defers
 env:∀i,V.den (ak M φ s.H) φ s.H w (s.env i) (a.tmps.getD i undef)
variable {cL:Place}{H0:Hp}{w0:World}{n:Nat}{s:S}{a:Act}{cx:Cx}{ro:Option Nat}{k:Nat}
theorem df{f:FuncId}{args:Array Value}{R:Ending->World->Prop}(h:Calls P f args w R):CallsIn (dP ro) k P f args w R:=
 ⟨trivial,fun cs _=>let⟨e,w',fr,r,s,x⟩:=h cs;⟨e,w',fr,r,comesIn_wide.2 s,x⟩⟩
theorem BK{f:FuncId}{args:Array Value}{R:Ending->World->Prop}(h:CallsIn (dP ro) k P f args w R):Calls P f args w R:=
 fun cs=>let⟨e,w',fr,r,s,x⟩:=h.2 cs (fun _ h=>by simp[dP]at h);⟨e,w',fr,r,comesIn_wide.1 s,x⟩
theorem kn{o:Oper}{next:Act->World->Prop}{Q:Exit->Act->World->Prop}(zp:∀c,o.op≠ .defer c)(h:o.uponIn (dP ro) k P a next Q ((execOp a.eval o).run P w)):o.wpIn (dP ro) k P a w next Q:=
 ⟨fun _ _=>trivial,by rw[Oper.semAt_eq _ _ _ zp];exact h⟩
theorem nV(hs:cf M cL H0 w0 n cx φ s a w){aF:Place}{H':Hp}(hH:az M aF H' w')(ht:Trans φ s.H w aF H' w'){v:V}{val:Value}(hd:V.den (ak M aF H') aF H' w' v val){dst:Option Tmp}(c7:gG n dst)
 {o':Nat->ad} {nx':Nat} (ho:H'.o=o') (hu:∀id,H'.us id->id<nx'):cf M cL H0 w0 n cx aF ⟨aX s.env dst v,o',nx'⟩ (a.put dst val) w':=by
 obtain⟨k1,k2⟩:=j6 hH hu
 subst ho
 refine⟨k1,hs.tr.trans (ht.trans k2), ?_, ?_,fun i=> ?_⟩
 ·cases dst<;>simp[Act.put,hs.size]
 ·have:=hs.defers.mono (ht.trans k2);cases dst<;>exact this
 ·cases dst with
  |none=>exact NB
  |some d=>
   simp only[gG]at c7
   simp only[aX,aL,Act.put]
   by_cases hi:i=d
   ·subst hi
    have h1:(a.tmps.setIfInBounds i val).getD i undef=val:=by simp[Array.getD,hs.size,c7]
    rw[if_pos rfl,h1]
    exact V.aS k2 _ _ hd
   ·have h1:(a.tmps.setIfInBounds d val).getD i undef=a.tmps.getD i undef:=by
     exact TE
    rw[if_neg hi,h1]
    exact NB
theorem eN(hs:cf M cL H0 w0 n cx φ s a w){aF:Place}{H':Hp}(hH:az M aF H' w')(ht:Trans φ s.H w aF H' w'){o':Nat->ad}{nx':Nat}(ho:H'.o=o')(hu:∀id,H'.us id->id<nx'):
 cf M cL H0 w0 n cx aF ⟨s.env,o',nx'⟩ a w':=by
 obtain⟨k1,k2⟩:=j6 hH hu
 subst ho
 exact⟨k1,hs.tr.trans (ht.trans k2),hs.size,hs.defers.mono (ht.trans k2),fun i=>V.aS (ht.trans k2) _ _ (hs.env i)⟩
theorem KA{Δ:List (Nat×ad)}(h:∀id∈Δ.map (·.1),s.H.us id\/id=s.nx)(id:Nat)(hu:(s.H.put Δ).us id):id<s.nx+1:=by
 rcases hu with hu|hu
 ·exact Nat.lt_succ_of_lt hu
 ·rcases h id hu with h|h
  ·exact Nat.lt_succ_of_lt h
  ·omega
variable {next:Act->World->Prop}{Q:Exit->Act->World->Prop}{X:V->S->Prop}{K:S->Prop}
theorem KC(hs:cf M cL H0 w0 n cx φ s a w){o:Oper}{op:Op}(fV:o.op=op)(c7:gG n o.dst)(h:QS P s s.nx op fun v Δ _=>K ⟨aX s.env o.dst v,put s.o Δ,s.nx+1⟩)
 (hN:∀s' aF a' w',K s'->cf M cL H0 w0 n cx aF s' a' w'->next a' w'):o.wpIn (dP ro) k P a w next Q:=by
 obtain⟨nx,val,w',aF,v,Δ,rd,hK,hr,tS,g1,g2,g3,g4⟩:=xQ hs.heap (s:=s) rfl hs.env (fr:=s.nx) (by simp[S.H]) fV h
 have tC:=nV hs g1 g2 g3 c7 (o':=put s.o Δ) (nx':=s.nx+1) rfl (KA g4)
 refine kn (fun c hc=>by rw[fV]at hc;subst hc;exact h) ?_
 rw[hr]
 rcases tS with rfl|⟨rfl,rfl⟩
 ·exact hN _ _ _ _ hK tC
 ·exact hN _ _ _ _ hK tC
theorem V.pX {B:Nat->Prop}{cj bs cs:List V}{u v x:List Value}(h1:V.aC B φ H w cj u)(h2:V.aC B φ H w bs v)(h3:V.aC B φ H w cs x):V.aC B φ H w (cj++bs++cs) (u++v++x):=
 V.bg _ _ _ _ (V.bg _ _ _ _ h1 h2) h3
theorem lg{f:FuncId}(h:Enters P f)(args:Array Value):(callFunc f args).run P w= .ok (.enter f args) w:=by
 obtain⟨fn,h1,h2,h3⟩:=h
 have mu:fn.name≠ "runtime.NumGoroutine" :=by simpa using h2
 have mw:fn.body≠none:=fun h=>by rw[h]at h3;cases h3
 simp[callFunc,h1,mu,mw]
theorem mO:∀ {rs:List D} {val:Value},R.is (ak M φ H) w (.ret rs) (.returned val)->V.den (ak M φ H) φ H w (iR rs) val
 |[],_,h=>by obtain⟨arr,rfl,h⟩:=h;exact⟨arr,rfl,h⟩
 |[x],_,h=>h
 |x::y::l,_,h=>by obtain⟨arr,rfl,h⟩:=h;exact⟨arr,rfl,(V.cI (x::y::l) _).2 h⟩
theorem R.zq {B B':Nat->Prop}:∀ {out:R} {e:Ending},out.flat=true->out.is B w e->out.is B' w e
 | .ret [], .returned _,_,h=>by obtain⟨arr,rfl,h⟩:=h;exact⟨arr,rfl,h⟩
 | .ret [x], .returned _,hf,h=>by
   simp only[R.flat,D.jF,Bool.and_true]at hf
   exact D.qo x _ hf h
 | .ret (x::y::l), .returned _,hf,h=>by obtain⟨arr,rfl,h⟩:=h;exact⟨arr,rfl,D.lW (x::y::l) _ hf h⟩
 | .bJ d, .panicked _,hf,h=>by obtain⟨v,rfl,h⟩:=h;exact⟨v,rfl,D.qo d v hf h⟩
 | .ret [], .panicked _,_,h| .ret [_], .panicked _,_,h| .ret (_::_::_), .panicked _,_,h| .ret [], .outgrown,_,h| .ret [_], .outgrown,_,h| .ret (_::_::_), .outgrown,_,h| .bJ _, .returned _,_,h| .bJ _, .outgrown,_,h=>h.elim
theorem R.KF {B B':Nat->Prop}{w':World}(hb:∀b,pZ w' b-> ¬B b-> ¬B' b):∀ {out:R} {e:Ending},out.m7=true->out.is B w' e->out.is B' w' e
 | .ret [], .returned _,_,h=>by obtain⟨arr,rfl,h⟩:=h;exact⟨arr,rfl,h⟩
 | .ret [x], .returned _,hf,h=>by
   simp only[R.m7,D.lX,Bool.and_true]at hf
   exact D.kY (fun b hc hn=>⟨rfl,hb b hc hn⟩) x _ hf h
 | .ret (x::y::l), .returned _,hf,h=>by obtain⟨arr,rfl,h⟩:=h;exact⟨arr,rfl,D.m8 (fun b hc hn=>⟨rfl,hb b hc hn⟩) (x::y::l) _ hf h⟩
 | .bJ d, .panicked _,hf,h=>by obtain⟨v,rfl,h⟩:=h;exact⟨v,rfl,D.kY (fun b hc hn=>⟨rfl,hb b hc hn⟩) d v hf h⟩
 | .ret [], .panicked _,_,h| .ret [_], .panicked _,_,h| .ret (_::_::_), .panicked _,_,h| .ret [], .outgrown,_,h| .ret [_], .outgrown,_,h| .ret (_::_::_), .outgrown,_,h| .bJ _, .returned _,_,h| .bJ _, .outgrown,_,h=>h.elim
theorem KG(hH:az M φ H w){o:Nat->ad}:∀ (vs:List V) (vals:List Value),(∀id∈dg o vs,H.o id=(o id).fz)->V.aC (ak M φ H) φ H w vs vals->V.aC (ak M φ H) φ H w (vs.map (Kx o)) vals
 |[],_,_,h=>h
 |v::vs,_,ho,h=>by
  obtain⟨u,us,rfl,h1,h2⟩:=h
  refine⟨u,us,rfl, ?_,KG hH vs us (fun id ax=>ho id (by simp[dg,ax])) h2⟩
  unfold Kx
  split
  ·rename_i x hx
   exact eH hH v x u (fun id ax=>ho id (by simp[dg,hx,ax])) hx h1
  ·exact h1
theorem gH:∀ (vs:List V) (vals:List Value) (o:Nat->ad),V.aC (ak M φ H) φ H w vs vals->∀id∈dg o vs,H.us id
 |[],_,_,_,j,hj=>by simp[dg]at hj
 |v::vs,_,o,h,j,hj=>by
  obtain⟨u,us,rfl,h1,h2⟩:=h
  simp only[dg,List.mem_append]at hj
  rcases hj with hj|hj
  ·cases hx:dN o v with
   |none=>simp[hx]at hj
   |some x=>simp only[hx]at hj;exact cO v u h1 j hj
  ·exact gH vs us o h2 j hj
theorem xR(hs:cf M cL H0 w0 n cx φ s a w){o:Oper}{g:FuncId}{all:List V}{vals:Array Value}(c7:gG n o.dst)(ff:Enters P g->(execOp a.eval o).run P w= .ok (.enter g vals) w)(a7:V.aC (ak M φ s.H) φ s.H w all vals.toList)
 (h:bQ P g all s.o s.nx (fun v o' nx'=>K ⟨aX s.env o.dst v,o',nx'⟩) (fun v o' nx'=>X v ⟨s.env,o',nx'⟩))
 (hN:∀s' aF a' w',K s'->cf M cL H0 w0 n cx aF s' a' w'->next a' w')
 (hQ:∀v s' aF w' val,X v s'->cf M cL H0 w0 n cx aF s' a w'->V.den (ak M aF s'.H) aF s'.H w' v val->Q (.panic [{v:=val,recovered:=false}]) a w'):o.uponIn (dP ro) k P a next Q ((execOp a.eval o).run P w):=by
 have eU:=h.2 M φ w vals hs.heap a7
 rw[ff h.1]
 refine⟨fun hd=>by simp[dP]at hd,df (eU.mono fun e w' ⟨aF,o',nx',v,k1,k2,k3⟩=> ?_)⟩
 cases e with
 |returned val=>exact Ql
 |panicked ch=>
  obtain⟨val,rfl,k4,k5⟩:=k3
  exact Y6
 |outgrown=>exact k3.elim
theorem BM(hs:cf M cL H0 w0 n cx φ s a w){o:Oper}{g:FuncId}{all:List V}{vals:Array Value}(c7:gG n o.dst)(ff:Enters P g->(execOp a.eval o).run P w= .ok (.enter g vals) w)(a7:V.aC (ak M φ s.H) φ s.H w all vals.toList)
 (h:uR P s g all (fun v o' nx'=>K ⟨aX s.env o.dst v,o',nx'⟩) (fun v o' nx'=>X v ⟨s.env,o',nx'⟩))
 (hN:∀s' aF a' w',K s'->cf M cL H0 w0 n cx aF s' a' w'->next a' w')
 (hQ:∀v s' aF w' val,X v s'->cf M cL H0 w0 n cx aF s' a w'->V.den (ak M aF s'.H) aF s'.H w' v val->Q (.panic [{v:=val,recovered:=false}]) a w'):o.uponIn (dP ro) k P a next Q ((execOp a.eval o).run P w):=by
 unfold uR at h
 obtain⟨f1,f2,f3,f4,f5⟩:=cW hs.heap (V.ba all) (da all _ a7)
 have fg:s.H.put (bw s.H.o (V.ba all))=⟨put s.o (bw s.o (V.ba all)),s.H.us⟩:=la JQ
 have m9:=V.aT f2 _ _ a7
 rcases h with⟨ds,out,e7,hP,hK⟩|⟨ds,out,e7,hP,pR,hK⟩|⟨ds,out,e7,hP,AX,hK⟩|hC|hC
 ·have xG:=dt f1 all ds _ f3 e7 m9
  have hM:∀b,ak M φ (s.H.put (bw s.H.o (V.ba all))) b->b<w.heap.size:=fun b hb=>hb.elim (f1.AR b) fun hl=>(f1.ours b hl).2
  have eU:=hP.2 _ w vals hM xG
  rw[ff hP.1]
  refine⟨fun hd=>by simp[dP]at hd,df (eU.mono fun e w' ⟨hk,ho⟩=> ?_)⟩
  obtain⟨k1,k2⟩:=fY f1 hk
  cases out with
  |ret rs=>
   cases e with
   |returned val=>
    refine hN _ _ _ _ hK (nV hs k1 (f2.trans k2) (mO ho) c7 (by rw[fg]) ?_)
    intro id hu;rw[fg]at hu;exact Nat.lt_succ_of_lt hu
   |panicked ch=>exact wN
   |outgrown=>exact wN
  |bJ x=>
   cases e with
   |returned val=>exact ho.elim
   |panicked ch=>
    obtain⟨val,rfl,hd⟩:=ho
    have tC:=eN hs k1 (f2.trans k2) (o':=put s.o (bw s.o (V.ba all))) (nx':=s.nx+1) (by rw[fg]) (fun id hu=>by rw[fg]at hu;exact Nat.lt_succ_of_lt hu)
    refine hQ _ _ _ _ val hK tC ?_
    have e1:ak M φ (S.H ⟨s.env,put s.o (bw s.o (V.ba all)),s.nx+1⟩)=ak M φ (s.H.put (bw s.H.o (V.ba all))):=by rw[fg];rfl
    simp only[V.den]
    rw[e1];exact hd
   |outgrown=>exact ho.elim
 ·have xG:=dt f1 all ds _ f3 e7 m9
  have hM:∀b,ak M φ (s.H.put (bw s.H.o (V.ba all))) b->b<w.heap.size:=fun b hb=>hb.elim (f1.AR b) fun hl=>(f1.ours b hl).2
  have eU:=hP.2 _ w vals hM xG
  rw[ff hP.1]
  refine⟨fun hd=>by simp[dP]at hd,df (eU.mono fun e w' ⟨hk,ho⟩=> ?_)⟩
  obtain⟨k1,k2⟩:=fY hs.heap hk
  have ho:=R.zq (B':=ak M φ s.H) pR ho
  cases out with
  |ret rs=>
   cases e with
   |returned val=>
    exact hN _ _ _ _ hK (nV hs k1 k2 (mO ho) c7 rfl fun id hu=>Nat.lt_succ_of_lt hu)
   |panicked ch=>exact wN
   |outgrown=>exact wN
  |bJ x=>
   cases e with
   |returned val=>exact ho.elim
   |panicked ch=>
    obtain⟨val,rfl,hd⟩:=ho
    exact hQ _ _ _ _ val hK (eN hs k1 k2 (o':=s.o) (nx':=s.nx+1) rfl fun id hu=>Nat.lt_succ_of_lt hu) hd
   |outgrown=>exact ho.elim
 ·obtain⟨a1,a2,a3,a4,a5⟩:=cW hs.heap ((V.ba all).filter fun id=>(s.o id).kZ) (fun id ax=>da all _ a7 id (List.mem_filter.1 ax).1)
  have BN:s.H.put (bw s.H.o ((V.ba all).filter fun id=>(s.o id).kZ))=⟨put s.o (rJ s.o (V.ba all)),s.H.us⟩:=by
   rw[N0]
   exact la (by rw[tN];exact fun id ax=>da all _ a7 id (List.mem_filter.1 ax).1)
  have xG:=dt f1 all ds _ f3 e7 m9
  have hM:∀b,ak M φ (s.H.put (bw s.H.o (V.ba all))) b->b<w.heap.size:=fun b hb=>hb.elim (f1.AR b) fun hl=>(f1.ours b hl).2
  have eU:=hP.2 _ w vals hM xG
  rw[ff hP.1]
  refine⟨fun hd=>by simp[dP]at hd,df (eU.mono fun e w' ⟨hk,ho⟩=> ?_)⟩
  obtain⟨k1,k2⟩:=fY a1 hk
  have tw:∀b,pZ w' b-> ¬ak M φ (s.H.put (bw s.H.o (V.ba all))) b-> ¬ak M φ (s.H.put (bw s.H.o ((V.ba all).filter fun id=>(s.o id).kZ))) b:=by
   intro b hc hn hm
   rcases hm with hM|⟨id,hl,hb⟩
   ·exact hn (.inl hM)
   ·by_cases ax:id∈V.ba all
    ·cases hx:s.H.o id with
     |arr ep ty sz es=>
      rw[a3 id (List.mem_filter.2 ⟨ax,by show(s.H.o id).kZ=true;rw[hx];rfl⟩),hx]at hl
      cases hl
     |map kt vt l=>
      have lJ:id∉(V.ba all).filter fun id=>(s.o id).kZ:=fun h=>by
       have h2:(s.H.o id).kZ=true:=(List.mem_filter.1 h).2
       rw[hx]at h2;cases h2
      have aV:=k1.ok id
      unfold aR at aV
      rw[a4 id lJ,hx]at aV
      obtain⟨b',es,clock,g1,g2,_⟩:=aV
      rw[g1]at hb
      injection hb with hb
      subst hb
      obtain⟨cs,ty,fz,hc⟩:=hc
      rw[g2]at hc
      cases hc
     |_=>
      have lJ:id∉(V.ba all).filter fun id=>(s.o id).kZ:=fun h=>by
       have h2:(s.H.o id).kZ=true:=(List.mem_filter.1 h).2
       rw[hx]at h2;cases h2
      refine hn (.inr ⟨id, ?_,hb⟩)
      rw[a4 id lJ,hx]at hl
      rw[f3 id ax,hx]
      exact hl
    ·have lJ:id∉(V.ba all).filter fun id=>(s.o id).kZ:=fun h=>ax (List.mem_filter.1 h).1
     refine hn (.inr ⟨id, ?_,hb⟩)
     rw[a4 id lJ]at hl
     rw[f4 id ax]
     exact hl
  have ho:=R.KF (w':=w') (B':=ak M φ (s.H.put (bw s.H.o ((V.ba all).filter fun id=>(s.o id).kZ)))) tw AX ho
  cases out with
  |ret rs=>
   cases e with
   |returned val=>
    refine hN _ _ _ _ hK (nV hs k1 (a2.trans k2) (mO ho) c7 (by rw[BN]) ?_)
    intro id hu;rw[BN]at hu;exact Nat.lt_succ_of_lt hu
   |panicked ch=>exact wN
   |outgrown=>exact wN
  |bJ x=>
   cases e with
   |returned val=>exact ho.elim
   |panicked ch=>
    obtain⟨val,rfl,hd⟩:=ho
    have tC:=eN hs k1 (a2.trans k2) (o':=put s.o (rJ s.o (V.ba all))) (nx':=s.nx+1) (by rw[BN]) (fun id hu=>by rw[BN]at hu;exact Nat.lt_succ_of_lt hu)
    refine hQ _ _ _ _ val hK tC ?_
    have e1:ak M φ (S.H ⟨s.env,put s.o (rJ s.o (V.ba all)),s.nx+1⟩)=ak M φ (s.H.put (bw s.H.o ((V.ba all).filter fun id=>(s.o id).kZ))):=by rw[BN];rfl
    simp only[V.den]
    rw[e1];exact hd
   |outgrown=>exact ho.elim
 ·exact xR hs c7 ff a7 hC hN hQ
 ·obtain⟨f1,f2,f3,f4,f5⟩:=cW hs.heap (dg s.o all) (gH all _ s.o a7)
  have fg:s.H.put (bw s.H.o (dg s.o all))=hp (put s.o (bw s.o (dg s.o all))) s.nx:=la (by rw[tN];exact gH all _ s.o a7)
  have m9:=KG f1 all _ f3 (V.aT f2 _ _ a7)
  rw[fg]at f1 f2 m9
  exact xR (s:=⟨s.env,put s.o (bw s.o (dg s.o all)),s.nx⟩) (eN hs f1 f2 rfl fun id hu=>hu) c7 ff m9 hC hN hQ
theorem N1(hs:cf M cL H0 w0 n cx φ s a w){o:Oper}{c:Call}{f:Operand}(fV:o.op= .call c)(hc:c.callee= .value f)(c7:gG n o.dst)
 (h:BJ P s (s.ev f) (c.args.toList.map s.ev) (fun v o' nx'=>K ⟨aX s.env o.dst v,o',nx'⟩) (fun v o' nx'=>X v ⟨s.env,o',nx'⟩))
 (hN:∀s' aF a' w',K s'->cf M cL H0 w0 n cx aF s' a' w'->next a' w')
 (hQ:∀v s' aF w' val,X v s'->cf M cL H0 w0 n cx aF s' a w'->V.den (ak M aF s'.H) aF s'.H w' v val->Q (.panic [{v:=val,recovered:=false}]) a w'):o.wpIn (dP ro) k P a w next Q:=by
 refine kn (fun c' xS=>by rw[fV]at xS;cases xS) ?_
 have hf:=mU (M:=M) (φ:=φ) (H:=s.H) (w:=w) s a hs.env f
 have dz:=j9 (M:=M) (φ:=φ) (H:=s.H) (w:=w) s a hs.env c.args.toList
 unfold BJ at h
 split at h
 ·rename_i g first cap wP
  rw[wP]at hf
  obtain⟨fa,ca,TY,FK,hca⟩:=hf
  have a7:V.aC (ak M φ s.H) φ s.H w (first++c.args.toList.map s.ev++cap) (fa++c.args.map a.eval++ca).toList:=by
   exact ZN
  generalize first++c.args.toList.map s.ev++cap=all at h a7
  generalize kR:fa++c.args.map a.eval++ca=vals at a7
  have ff:Enters P g->(execOp a.eval o).run P w= .ok (.enter g vals) w:=by
   intro he
   have:=lg (w:=w) he (fa++c.args.map a.eval++ca)
   rw[kR]at this
   simp[execOp,fV,resolve,hc,TY,Deferred.ofValue,invoke,this,kR]
  exact BM hs c7 ff a7 h hN hQ
 ·rename_i id wP
  rw[wP]at hf
  obtain⟨_,dT,hp'⟩:=hf
  obtain⟨cZ,hR⟩:=h
  obtain⟨b,eM,TY⟩:=hp' cZ
  obtain⟨fn,tmps,assign,body,h1,h2⟩:=hR M φ w (c.args.map a.eval) b hs.heap (by rw[Array.toList_map];exact dz) eM
  have ff:(execOp a.eval o).run P w= .ok (.round b fn tmps assign body) w:=by
   simp[execOp,fV,resolve,hc,TY,Deferred.ofValue,invoke,h1]
  rw[ff]
  refine⟨fun hd=>by simp[dP]at hd,RoundIn.mono (h2 (k - 1)) fun e w' ⟨aF,o',nx',v,k1,k2,k3⟩=> ?_⟩
  cases e with
  |returned val=>exact Ql
  |panicked ch=>
   obtain⟨val,rfl,k4,k5⟩:=k3
   exact Y6
  |outgrown=>exact k3.elim
 ·exact h.elim
theorem H7(hs:cf M cL H0 w0 n cx φ s a w){o:Oper}{c:Call}{r:Operand}{m:String}{g:FuncId}{y:V}(fV:o.op= .call c)(hc:c.callee= .invoke r m)(c7:gG n o.dst)(hr:uS P m (s.ev r)=some (g,y))
 (h:uR P s g (y::c.args.toList.map s.ev) (fun v o' nx'=>K ⟨aX s.env o.dst v,o',nx'⟩) (fun v o' nx'=>X v ⟨s.env,o',nx'⟩))
 (hN:∀s' aF a' w',K s'->cf M cL H0 w0 n cx aF s' a' w'->next a' w')
 (hQ:∀v s' aF w' val,X v s'->cf M cL H0 w0 n cx aF s' a w'->V.den (ak M aF s'.H) aF s'.H w' v val->Q (.panic [{v:=val,recovered:=false}]) a w'):o.wpIn (dP ro) k P a w next Q:=by
 refine kn (fun c' xS=>by rw[fV]at xS;cases xS) ?_
 have hf:=mU (M:=M) (φ:=φ) (H:=s.H) (w:=w) s a hs.env r
 have dz:=j9 (M:=M) (φ:=φ) (H:=s.H) (w:=w) s a hs.env c.args.toList
 unfold uS at hr
 split at hr
 ·rename_i t d hx
  rw[hx]at hf
  obtain⟨val,hv,hd⟩:=hf
  split at hr
  ·rename_i ti hti
   split at hr
   ·rename_i mr tT
    split at hr
    ·rename_i f Jh
     split at hr
     ·rename_i Q5
      injection hr with hr
      injection hr with h1 h2
      subst h1;subst h2
      refine BM (vals:=#[val]++c.args.map a.eval) hs c7 ?_ ?_ h hN hQ
      ·intro he
       have ff:=lg (w:=w) he (#[val]++c.args.map a.eval)
       have hpa:mr.path=#[]:=Array.isEmpty_iff.1 Q5.1
       have hu:∃u,P.underlying t=some u/\∀e,u≠ .pointer e:=by
        have:=Q5.2
        unfold Q4 at this
        split at this
        ·cases this
        ·rename_i u iZ hu;exact⟨u,hu,fun e he=>iZ e he⟩
        ·cases this
       obtain⟨u,hu,Q6⟩:=hu
       have hm:(method (P.types.size+Made.depth) t val m).run P w= .ok (f,val) w:=by
        have:P.types.size+Made.depth=(P.types.size+Made.depth - 1)+1:=by simp[Made.depth]
        rw[this]
        cases u<;>first|exact absurd rfl (Q6 _)|simp[method,typeInfo,hti,tT,hpa,Jh,follow,receiverAt,run_underlying hu,_root_.Go.Place.get]
       have h0:(#[Value.iface t val]++Array.map a.eval c.args)[0]? =some (.iface t val):=by
        rw[Array.getElem?_append_left (by simp)];rfl
       have h1:(Array.map a.eval c.args).extract 0 c.args.size=Array.map a.eval c.args:=by
        rw[show c.args.size=(Array.map a.eval c.args).size from by simp,Array.extract_size]
       simp[execOp,fV,resolve,hc,invoke,callMethod,hv,h0,h1,hm,ff]
      ·simp only[Array.toList_append,Array.toList_map]
       exact⟨val,_,rfl,hd,dz⟩
     ·cases hr
    ·cases hr
   ·cases hr
  ·cases hr
 ·cases hr
theorem xT(hs:cf M cL H0 w0 n cx φ s a w){o:Oper}(h:opW P n s o X K)
 (hN:∀s' aF a' w',K s'->cf M cL H0 w0 n cx aF s' a' w'->next a' w')
 (hQ:∀v s' aF w' val,X v s'->cf M cL H0 w0 n cx aF s' a w'->V.den (ak M aF s'.H) aF s'.H w' v val->Q (.panic [{v:=val,recovered:=false}]) a w'):o.wpIn (dP ro) k P a w next Q:=by
 obtain⟨c7,h⟩:=h
 split at h
 ·rename_i c fV
  split at h
  ·rename_i f hc
   exact N1 hs fV hc c7 h hN hQ
  ·rename_i r m hc
   split at h
   ·rename_i g y hr;exact H7 hs fV hc c7 hr h hN hQ
   ·exact h.elim
  ·exact KC hs rfl c7 h hN
 ·rename_i x fV
  have hx:=mU (M:=M) (φ:=φ) (H:=s.H) (w:=w) s a hs.env x
  have bJ:∀ (t:TypeId) (u:Value),a.eval x= .iface t u->Q (.panic [{v:= .iface t u,recovered:=false}]) a w->o.wpIn (dP ro) k P a w next Q:=by
   intro t u hu hq
   refine kn (fun c hc=>by rw[fV]at hc;cases hc) ?_
   have hr:(execOp a.eval o).run P w= .halt (.panic (.iface t u)) w:=by simp[execOp,fV,hu,Instr.panic]
   rw[hr];exact hq
  split at h
  ·rename_i t y hv
   rw[hv]at hx
   obtain⟨u,hu,hd⟩:=hx
   exact Qr
  ·rename_i t y hv
   rw[hv]at hx
   obtain⟨u,hu,hd⟩:=hx
   exact Qr
  ·exact h.elim
 ·exact KC hs rfl c7 h hN
end
end
end Go.Proofs.YtlhemmpklhhgoaaGreat
namespace Go
def Code.tD (P:Program)(ro:Option Nat)(c:Code)(Q:Exit->Act->World->Prop)(a:Act)(w:World):Prop:=
 ∀ (b:Frame) (k:List Item) (cs:List Frame),b.roundOf=ro->b.fn<P.funcs.size->
   ∃e a' w',Q e a' w'/\ArrivesIn (Machine.fenced P (Proofs.YtlhemmpklhhgoaaGreat.dP ro)) P (lone (b.atR a (.code c::k)) cs w) b k cs e a' w'
end Go
namespace Go.Proofs.YtlhemmpklhhgoaaGreat
instance:LawfulMonad Sem:=LawfulMonad.mk' Sem (id_map:=fun x=>Sem.bind_pure' x) (pure_bind:=fun _ _=>rfl) (bind_assoc:=fun x f g=>Sem.bind_assoc' x f g)
section
variable {P:Program}{M:Nat->Prop}{φ:Place}{H:Hp}{w w':World}{cL:Place}{H0:Hp}{w0:World}{n b:Nat}{s:S}{a:Act}{cx:Cx}{ro:Option Nat}{k:Nat}
theorem qs(hs:cf M cL H0 w0 n cx φ s a w){ops:Array Oper}{o:Oper}{A B:Prop}(h:zl s ops o.guard A B):
 (Region.wanted o (yielded ops a.tmps)=true->A)/\(Region.wanted o (yielded ops a.tmps)=false->B):=by
 unfold zl at h
 unfold Region.wanted
 split at h
 ·rename_i hg;simp only[hg];exact⟨fun _=>h,fun h=>by cases h⟩
 ·rename_i j want hg
  simp only[hg]
  unfold sN at h
  unfold yielded
  split at h
  ·rename_i d hd
   simp only[hd,Option.bind_some]
   have ej:=hs.env d
   split at h
   ·rename_i c hv
    rw[hv]at ej
    simp only[V.den,D.den]at ej
    have:a.tmps[d]? =some (.bool c):=by
     rw[Array.getD_eq_getD_getElem?]at ej
     cases hx:a.tmps[d]? with
     |none=>rw[hx]at ej;simp[undef]at ej
     |some x=>rw[hx]at ej;simp at ej;rw[ej]
    simp only[this]
    by_cases hc:c=want
    ·subst hc;exact⟨fun _=>h.1 rfl,fun h=>by simp at h⟩
    ·exact⟨fun h'=>absurd (by simpa using h') hc,fun _=>h.2 hc⟩
   ·rename_i hv
    rw[hv]at ej
    obtain⟨arr,dn,hn⟩:=ej
    simp only[V.aC]at hn
    have:∀c,a.tmps[d]? ≠some (.bool c):=by
     exact QO
    cases hx:a.tmps[d]? with
    |none=>exact⟨fun h=>by simp at h,fun _=>h⟩
    |some x=>cases x<;>first|(exact absurd hx (this _))|(exact⟨fun h=>by simp at h,fun _=>h⟩)
   ·exact h.elim
  ·rename_i hd
   simp only[hd,Option.bind_none]
   exact⟨fun h=>by simp at h,fun _=>h⟩
theorem BO(hs:cf M cL H0 w0 n cx φ s a w){dst:Option Tmp}(c7:gG n dst):cf M cL H0 w0 n cx φ ⟨aX s.env dst (.bP []),s.o,s.nx+1⟩ (a.put dst undef) w:=
 nV (v:= .bP []) (val:=undef) hs hs.heap (Trans.refl _ _ _) ⟨#[],rfl,rfl⟩ c7 rfl fun _ hu=>Nat.lt_succ_of_lt hu
theorem pq{ops:Array Oper}{X:V->S->Prop}{K:S->Prop}{Q:Exit->Act->World->Prop}
 (hK:∀s φ a w,K s->cf M cL H0 w0 n cx φ s a w->Q .normal a w)
 (hQ:∀v s' aF a w' val,X v s'->cf M cL H0 w0 n cx aF s' a w'->V.den (ak M aF s'.H) aF s'.H w' v val->Q (.panic [{v:=val,recovered:=false}]) a w'):
 ∀ (l:List Oper) (s:S) (φ:Place) (a:Act) (w:World),zm P n ops X K l s->cf M cL H0 w0 n cx φ s a w->wpListIn (dP ro) k P ops Q l a w
 |[],s,φ,a,w,h,hs=>hK s φ a w h hs
 |o::l,s,φ,a,w,h,hs=>by
  obtain⟨h1,h2⟩:=qs hs h
  unfold wpListIn
  split
  ·rename_i hw
   exact xT hs (h1 hw) (fun s' aF a' w' hk jV=>pq hK hQ l s' aF a' w' hk jV) (fun v s' aF w' val hx jV hd=>hQ v s' aF a w' val hx jV hd)
  ·rename_i hw
   obtain⟨c7,h3⟩:=h2 (by simpa using hw)
   exact⟨fun _ _=>trivial,pq hK hQ l _ _ _ _ h3 (BO hs c7)⟩
def F1(M:Nat->Prop)(cL:Place)(H0:Hp)(w0:World)(n:Nat)(cx:Cx)(Q:fH->S->Prop)(e:Exit)(a:Act)(w:World):Prop:=
 ∃x s φ,Q x s/\cf M cL H0 w0 n cx φ s a w/\match e,x with
  | .normal, .normal=>True
  | .exit i, .exit j=>i=j
  | .ret, .ret=>True
  | .panic ch, .bJ v=>∃val,ch=[{v:=val,recovered:=false}]/\V.den (ak M φ s.H) φ s.H w v val
  |_,_=>False
section
variable {Q:Exit->Act->World->Prop}
theorem gI{m:Nat}:(dP ro).room m:=fun d hd=>by simp[dP]at hd
theorem pt{c:Code}(h:c.wpIn (dP ro) k P Q a w):c.tD P ro Q a w:=fun b k cs tT _=>h b k cs tT trivial gI
theorem gJ{c:Code}{Q':Exit->Act->World->Prop}(h:c.tD P ro Q a w)(hq:∀e a w,Q e a w->Q' e a w):c.tD P ro Q' a w:=
 fun b k cs tT hb=>let⟨e,a',w',q,r⟩:=h b k cs tT hb;⟨e,a',w',hq _ _ _ q,r⟩
theorem F2(h:Q .ret a w):Code.ret.tD P ro Q a w:=pt (k:=0) (wpIn_ret h)
theorem BP{id:Nat}(h:Q (.exit id) a w):(Code.exit id).tD P ro Q a w:=pt (k:=0) (wpIn_exit h)
theorem zr{x y:Code}(h:x.tD P ro (Exit.then (y.tD P ro Q) Q) a w):(Code.seq x y).tD P ro Q a w:=by
 intro b k cs tT hb
 have h0:(lone (b.atR a (.code (.seq x y)::k)) cs w).fenced P (dP ro):=fenced_calm (n:=0) trivial gI rfl
 obtain⟨e,oA,js,hq,dn⟩:=h b (.code y::k) cs tT hb
 cases e with
 |normal=>
  obtain⟨TZ,aab,rU,qu,ko⟩:=hq b k cs tT hb
  exact⟨TZ,aab,rU,qu, .of_steps (.head h0 stepR_seq dn) ko⟩
 |exit id=>exact JB
 |goto l=>exact JB
 |ret=>exact JB
 |panic ch=>exact JB
 |outgrown=>exact JB
theorem qv{c:Operand}{x y:Code}{t:Bool}(hc:a.eval c= .bool t)(h:(if t then x else y).tD P ro Q a w):(Code.cond c x y).tD P ro Q a w:=
 fun b k cs tT hb=>let⟨e,a',w',q,r⟩:=h b k cs tT hb;⟨e,a',w',q, .of_steps (.one (fenced_calm (n:=0) trivial gI rfl) (stepR_cond hc)) r⟩
theorem H8{id:Nat}{c:Code}(h:c.tD P ro (Exit.inBlock id Q) a w):(Code.block id c).tD P ro Q a w:=by
 intro b k cs tT hb
 have h0:(lone (b.atR a (.code (.block id c)::k)) cs w).fenced P (dP ro):=fenced_calm (n:=0) trivial gI rfl
 obtain⟨e,oA,js,hq,dn⟩:=h b (.inBlock id::k) cs tT hb
 cases e with
 |normal=>exact⟨.normal,oA,js,hq, .head h0 stepR_block (StepsIn.trans dn (.one (fenced_calm (n:=0) trivial gI rfl) stepR_inBlock))⟩
 |exit AV=>
  by_cases ax:AV=id
  ·simp only[Exit.inBlock,ax,if_true]at hq
   exact⟨.normal,oA,js,hq, .head h0 stepR_block (dn.1 k (by simp[exitTo,ax]))⟩
  ·simp only[Exit.inBlock,ax,if_false]at hq
   have this:(id==AV)=false:=by simp;exact fun h=>ax h.symm
   have hx:exitTo AV (.inBlock id::k)=exitTo AV k:=by simp[exitTo,this]
   exact⟨.exit AV,oA,js,hq,fun k' hk=> .head h0 stepR_block (dn.1 k' xp),
    fun HY hk=>let⟨k₁,h1,h2⟩:=dn.2 HY xp;⟨k₁,h1, .head h0 stepR_block h2⟩⟩
 |goto l=>
  have hx:gotoIn l (.inBlock id::k)=gotoIn l k:=by simp[gotoIn]
  exact⟨_,oA,js,hq,fun k' hk=> .head h0 stepR_block (dn.1 k' xp),
   fun HY hk=>let⟨k₁,h1,h2⟩:=dn.2 HY xp;⟨k₁,h1, .head h0 stepR_block h2⟩⟩
 |ret=>exact Tt
 |panic ch=>exact Tt
 |outgrown=>exact Tt
theorem jZ{b:Frame}{k:List Item}{cs:List Frame}{c:Code}:step P (lone (b.atR a (.code (.scope c)::k)) cs w)= .next (lone (b.atR a (.code c:: .inScope c::k)) cs w):=
 step_lone_go (by simp[stepG,stepG.exec,Frame.atR])
theorem wX{b:Frame}{k:List Item}{cs:List Frame}{c:Code}:step P (lone (b.atR a (.inScope c::k)) cs w)= .next (lone (b.atR a k) cs w):=
 step_lone_go (by simp[stepG,stepG.exec,Frame.atR])
theorem xU{c:Code}(h:c.tD P ro Q a w)(hg:∀l a w, ¬Q (.goto l) a w):(Code.scope c).tD P ro Q a w:=by
 intro b k cs tT hb
 have h0:(lone (b.atR a (.code (.scope c)::k)) cs w).fenced P (dP ro):=fenced_calm (n:=0) trivial gI rfl
 obtain⟨e,oA,js,hq,dn⟩:=h b (.inScope c::k) cs tT hb
 cases e with
 |normal=>exact⟨.normal,oA,js,hq, .head h0 jZ (StepsIn.trans dn (.one (fenced_calm (n:=0) trivial gI rfl) wX))⟩
 |exit AV=>
  have hx:exitTo AV (.inScope c::k)=exitTo AV k:=by simp[exitTo]
  exact⟨.exit AV,oA,js,hq,fun k' hk=> .head h0 jZ (dn.1 k' xp),
   fun HY hk=>let⟨k₁,h1,h2⟩:=dn.2 HY xp;⟨k₁,h1, .head h0 jZ h2⟩⟩
 |goto l=>exact(hg _ _ _ hq).elim
 |ret=>exact Tu
 |panic ch=>exact Tu
 |outgrown=>exact Tu
def uU(P:Program)(l:Nat)(Q:Exit->Act->World->Prop)(a':Act):Ending->World->Prop
 | .returned _,D9=>∃jump tE,(Instr.endLoop l).run P D9= .ok jump tE/\(match jump with|none=>Q .normal a' tE|some c=>c.tD P none Q a' tE)
 | .panicked chain,D9=>Q (.panic chain) a' D9
 | .outgrown,_=>LetsOut Q
theorem wY{g:Operand}{ps:Array Tmp}{assign body:Code}
 (h:∀fn,fn<P.funcs.size->∃ (l:Nat) (mark:List Deferred) (js:World) (d:Deferred) (xV:World) (f:FuncId) (args:Array Value) (rU:World),
  (Instr.enterLoop fn a.tmps ps assign body (dP none).round).run P w= .ok (l,mark) js/\(resolve a.eval (rangeCall g l) 0).run P js= .ok d xV/\
  (invoke d.target d.args).run P xV= .ok (.enter f args) rU/\CallsIn (dP none) 0 P f args rU (uU P l Q {a with defers:=mark++a.defers})):
 (Code.rangeFunc g ps assign body).tD P none Q a w:=by
 intro b k cs tT hb
 obtain⟨l,mark,js,d,xV,f,args,rU,he,BQ,hinv,hF,eU⟩:=h b.fn hb
 rw[show(dP none).round=b.roundOf from tT.symm]at he
 have calm:∀ (m:Machine),m.fenced P (dP none)↔m.fenced P Fence.wide:=fun m=>Iff.rfl
 have h0:(lone (b.atR a (.code (.rangeFunc g ps assign body)::k)) cs w).fenced P (dP none):=(calm _).2 (fenced_wide P _)
 have lZ:=stepR_rangeFunc (P:=P) (b:=b) (a:=a) (k:=k) (cs:=cs) (w:=w) he BQ hinv
 obtain⟨e,D9,fr,hR,Ea,Jh,KH⟩:=eU (b.atR {a with defers:=mark++a.defers} (.inRangeFunc l::k)::cs) gI
 cases e with
 |outgrown=>
  obtain⟨adZ,ad0,hq⟩:=hR
  exact⟨.outgrown,adZ,ad0,hq, .inr (Outgrown.of_steps (.one lZ) Ea)⟩
 |returned v=>
  obtain⟨jump,tE,eD,hj⟩:=hR
  have Q7:StepsIn (Machine.fenced P (dP none)) P (lone (b.atR a (.code (.rangeFunc g ps assign body)::k)) cs w) (lone (b.atR {a with defers:=mark++a.defers} ((jump.map Item.code).toList++k)) cs tE):=by
   refine .head h0 lZ (StepsIn.trans Ea (.head ((calm _).2 (fenced_wide P _)) ?_ (.one ((calm _).2 (fenced_wide P _)) (stepR_endRangeFunc eD))))
   rw[<- finish_atR_inRangeFunc l v];exact step_leave_returned KH
  cases jump with
  |none=>exact⟨.normal,_,tE,hj,Q7⟩
  |some c=>
   obtain⟨e',a'',ad1,hq,dn⟩:=hj b k cs tT hb
   exact⟨e',a'',ad1,hq, .of_steps Q7 dn⟩
 |panicked chain=>
  refine⟨.panic chain,_,D9,hR, .inRangeFunc l::k, .head h0 lZ (StepsIn.trans Ea (.one ((calm _).2 (fenced_wide P _)) ?_))⟩
  rw[<- Frame.raise_atR];exact step_leave_panicked KH
end
theorem xW(hH:az M φ H w){id l:Nat}(dT:H.us id){nf m:Nat}{env:List V}{ps:List Nat}{jv e9:IC}{st st':LoopState}{pd pd':Option jS}(ho:H.o id= .loop nf m env ps jv e9 st pd)(eM:φ id= .pointer (some ⟨l,0,none⟩)):
 ∃r,w.heap[l]? =some (.loop r)/\r.state=st/\r.pending=pd.map jS.code/\
  az M φ (H.put [(id, .loop nf m env ps jv e9 st' pd')]) {w with heap:=w.heap.setIfInBounds l (.loop {r with state:=st',pending:=pd'.map jS.code})}/\
  Trans φ H w φ (H.put [(id, .loop nf m env ps jv e9 st' pd')]) {w with heap:=w.heap.setIfInBounds l (.loop {r with state:=st',pending:=pd'.map jS.code})}:=by
 have aV:=hH.ok id
 simp only[aR,ho]at aV
 obtain⟨b,r,h1,h2,h0,h3,h4,h5,h6,h7,h8,h9⟩:=aV
 rw[eM]at h1;simp at h1;subst h1
 refine⟨r,h2,h3,h4, ?_⟩
 have Kr:ei (· =l) w {w with heap:=w.heap.setIfInBounds l (.loop {r with state:=st',pending:=pd'.map jS.code})}:=
  ⟨rfl,rfl,rfl,aE,fun j _ hj=>(MapKept.heap_set h2).2 j hj⟩
 have rz:(H.o id).live=true:=by rw[ho];rfl
 have Jo:eg (φ id)=some l:=by rw[eM];rfl
 have ht:=eS (w:=w) (w':={w with heap:=w.heap.setIfInBounds l (.loop {r with state:=st',pending:=pd'.map jS.code})}) dT rz Jo Kr (.loop nf m env ps jv e9 st' pd') eC eC
 refine⟨gZ hH dT rz Jo Kr _ eC eC ?_,ht⟩
 unfold aR
 simp only[bG,aL,if_true]
 exact⟨l,_,eM,(MapKept.heap_set h2).1,h0,rfl,rfl,h5,h6,h7,h8,fun i=>V.aS ht _ _ (h9 i)⟩
theorem iS{l:Nat}{r:Loop}(o:Obj)(hb:w.heap[l]? =some (.loop r)):(setObj l o).run P w= .ok () {w with heap:=w.heap.setIfInBounds l o}:=by
 simp[setObj,Sem.run,hb]
theorem kp{l:Nat}{r:Loop}(hb:w.heap[l]? =some (.loop r)):(Instr.getLoop l).run P w= .ok r w:=by
 simp[Instr.getLoop,getObj,Sem.run,hb,Result.andThen]
end
def qw(Q:fH->S->Prop)(pd:Option jS)(s:S):Prop:=
 match pd with
 |none=>Q .normal s
 |some .ret=>Q .ret s
 |some (.exit id)=>Q (.exit id) s
def BR(P:Program)(n:Nat)(g:V)(ps:List Nat)(jv e9:IC)(Q:fH->S->Prop)(s:S):Prop:=
 ∃env,(∀i,aY env i= .aa\/aY env i=s.env i)/\
  match g with
  | .func (.func f) first cap=>oK P f (first++[.j7 s.nx]++cap) (ay s.o s.nx (.loop P.funcs.size n env ps jv e9 .ready none)) (s.nx+1)
    (fun _ o' nx'=>∃nf m e p c d st pd,o' s.nx= .loop nf m e p c d st pd/\st≠ .busy/\qw Q pd ⟨s.env,ay o' s.nx (.loop nf m e p c d .exhausted pd),nx'⟩)
    (fun v o' nx'=>Q (.bJ v) ⟨s.env,o',nx'⟩)
  |_=>False
def aac(P:Program)(n b:Nat)(g:Operand)(ps:List Nat)(jv e9:IC)(Q:fH->S->Prop)(s:S):Prop:=∃s',(s'=s\/bI b s s')/\BR P n (s'.ev g) ps jv e9 Q s'
def ja(P:Program)(n b:Nat)(rd:Bool):Code->(fH->S->Prop)->S->Prop
 | .skip,Q,s=>Q .normal s
 | .label _,Q,s=>Q .normal s
 | .scope x,Q,s=>ja P n b rd x Q s
 | .region _ ops false,Q,s=>zm P n ops (fun v s=>Q (.bJ v) s) (Q .normal) ops.toList s
 | .region id ops true,Q,s=>∀M cL H0 w0 cx φ a w ro k,cf M cL H0 w0 n cx φ s a w->(Code.region id ops true).wpIn (dP ro) k P (F1 M cL H0 w0 n cx Q) a w
 | .seq x y,Q,s=>ja P n b rd x (qq (ja P n b rd y Q) Q) s
 | .cond c x y,Q,s=>match s.ev c with
   | .d (.bool t)=>(t=true->ja P n b rd x Q s)/\(t=false->ja P n b rd y Q s)
   | .fw=>ja P n b rd x Q s/\ja P n b rd y Q s
   |_=>False
 | .block id x,Q,s=>ja P n b rd x (fC id Q) s
 | .loop x,Q,s=>∃ (J:Nat->S->Prop),(∃m s1,bI b s s1/\J m s1)/\∀m s0,J m s0->ja P n b rd x (fun e s=>match e with| .normal=>∃m' s1,m'<m/\bI b s s1/\J m' s1|e=>Q e s) s0
 | .exit id,Q,s=>Q (.exit id) s
 | .ret,Q,s=>Q .ret s
 | .rangeFunc g ps x y,Q,s=>rd=false/\aac P n b g ps.toList (low n x) (low n y) Q s
 |_,_,_=>False
section
variable {P:Program}{M:Nat->Prop}{φ:Place}{H:Hp}{w w':World}{cL:Place}{H0:Hp}{w0:World}{n b:Nat}{s:S}{a:Act}{cx:Cx}{ro:Option Nat}{k:Nat}
theorem Eb(hb:∀id,H0.us id->id<b)(hs:cf M cL H0 w0 n cx φ s a w){s':S}(h:bI b s s'):∃aF,cf M cL H0 w0 n cx aF s' a w:=by
 obtain⟨aF,h1,h2,h3,h4,h5,h6⟩:=h M φ w (fun i=>a.tmps.getD i undef) hs.heap hs.env
 refine⟨aF,h1,⟨hs.tr.cH,fun k hk=>hs.tr.grow k (h3 k hk),⟨fun id hu=>Nat.lt_of_lt_of_le (hb id hu) h4,fun id hu hr=> ?_,fun id e' hu he=> ?_⟩⟩,hs.size, ?_,h2⟩
 ·obtain⟨g1,g2⟩:=h5 id (hb id hu) hr
  obtain⟨g3,g4⟩:=hs.tr.rel.row id hu g1
  exact⟨g3,g2.trans g4⟩
 ·obtain⟨e,g1,g2,g3⟩:=h6 id e' (hb id hu) he
  obtain⟨e0,k1,k2,k3⟩:=hs.tr.rel.ep id e hu g1
  refine⟨e0,k1,Nat.le_trans k2 g2,fun heq=> ?_⟩
  have a1:e0=e:=af
  have a2:e=e':=af
  exact(g3 a2).trans (k3 a1)
 ·obtain⟨ms,g1,g2,g3,g4⟩:=hs.defers
  exact⟨ms,g1,g2,g3,fun r hr=>⟨(g4 r hr).1,(g4 r hr).2.1,fun hl=>(g4 r hr).2.2 (h3 r hl)⟩⟩
theorem zu{c:Code}{Q:Exit->Act->World->Prop}(J:Nat->Act->World->Prop)(round:∀m a w,J m a w->c.tD P ro (Exit.then (fun a' w'=>∃m',m'<m/\J m' a' w') Q) a w):
 ∀m a w,J m a w->(Code.loop c).tD P ro Q a w:=by
 intro m a w h0 fr kk cs tT hb
 have hr:(dP ro).room (cs.length+1+0):=fun d hd=>by simp[dP]at hd
 have key:∀m a w,J m a w->∃e a' w',Q e a' w'/\ArrivesIn (Machine.fenced P (dP ro)) P (lone (fr.atR a (.code c:: .inLoop c::kk)) cs w) fr kk cs e a' w':=by
  intro m
  induction m using Nat.strongRecOn with
  |_ m ih=>
   intro a w hJ
   obtain⟨e,a1,w1,hq,dn⟩:=round m a w hJ fr (.inLoop c::kk) cs tT hb
   cases e with
   |normal=>
    obtain⟨m',ck,hJ'⟩:=hq
    obtain⟨e2,a2,w2,W8,F4⟩:=ih m' ck a1 w1 hJ'
    exact⟨e2,a2,w2,W8, .of_steps (StepsIn.trans dn (.one (fenced_calm trivial hr rfl) stepR_inLoop)) F4⟩
   |_=>exact⟨_,a1,w1,hq, .pass (x:= .inLoop c) rfl (fun _ _=> .inl aE) dn⟩
 obtain⟨e,a',w',hq,dn⟩:=key m a w h0
 exact⟨e,a',w',hq, .of_steps (.one (fenced_calm trivial hr rfl) stepR_loop) dn⟩
theorem xX(hs:cf M cL H0 w0 n cx φ s a w)(mC:cx.rd=false)(tT:ro=none){g:Operand}{ps:Array Tmp}{x y:Code}{Q:fH->S->Prop}(h:BR P n (s.ev g) ps.toList (low n x) (low n y) Q s):
 (Code.rangeFunc g ps x y).tD P ro (F1 M cL H0 w0 n cx Q) a w:=by
 subst tT
 obtain⟨env,ej,h⟩:=h
 refine wY fun fn Jh=> ?_
 let Ec:Loop:={state:= .ready,pending:=none,fn:=fn,tmps:=a.tmps,params:=ps,assign:=x,body:=y,defers:=w.heap.size}
 let w1:World:=(w.alloc (.deferred (some []))).alloc (.loop Ec)
 let l:Nat:=w.heap.size+1
 have lZ:(Instr.enterLoop fn a.tmps ps x y (dP none).round).run P w= .ok (l,[mark w.heap.size]) w1:=by
  simp[Instr.enterLoop,dP,mark,w1,l,Ec]
 have Nd:ei (fun _=>False) w w1:=by
  have k1:=cn w (.deferred (some []))
  have k2:=cn (w.alloc (.deferred (some []))) (.loop Ec)
  exact⟨k2.os.trans k1.os,k2.tape.trans k1.tape,k2.output.trans k1.output,Nat.le_trans k1.size k2.size,fun j hj hm=>(k2.block j (Nat.lt_of_lt_of_le hj k1.size) hm).trans (k1.block j hj hm)⟩
 let iP:=ay φ s.nx (.pointer (some ⟨l,0,none⟩))
 let s1:S:=⟨s.env,ay s.o s.nx (.loop P.funcs.size n env ps.toList (low n x) (low n y) .ready none),s.nx+1⟩
 have cY: ¬s.H.us s.nx:=by simp[S.H]
 have fG:∀b,eg (.pointer (some ⟨l,0,none⟩))=some b->w.heap.size<=b/\b<w1.heap.size:=by
  intro b hb;simp[eg]at hb;subst hb;simp[l,w1]
 have DA:=dJ (φ:=φ) (H:=s.H) Nd cY (.loop P.funcs.size n env ps.toList (low n x) (low n y) .ready none) (.pointer (some ⟨l,0,none⟩)) fun b hb=>(fG b hb).1
 have NX:(w.alloc (.deferred (some []))).heap.size=w.heap.size+1:=aE
 have rz:w1.heap[l]? =some (.loop Ec):=by
  have:=heap_alloc_new (w.alloc (.deferred (some []))) (.loop Ec)
  rwa [NX]at this
 have rE:=iB hs.heap Nd cY (.loop P.funcs.size n env ps.toList (low n x) (low n y) .ready none) (.pointer (some ⟨l,0,none⟩)) fG (by
  unfold aR
  simp only[bG,aL,if_true]
  refine⟨l,Ec,rfl,rz,Jh,rfl,rfl,rfl,hs.size,rfl,rfl,fun i=> ?_⟩
  rcases ej i with e|e
  ·rw[e];trivial
  ·rw[e];exact V.aS DA _ _ (hs.env i))
 have rA:cf M cL H0 w0 n cx iP s1 {a with defers:=mark w.heap.size::a.defers} w1:=by
  have base:=eN hs rE DA (o':=ay s.o s.nx (.loop P.funcs.size n env ps.toList (low n x) (low n y) .ready none)) (nx':=s.nx+1) rfl (KA fun id ax=>by simp at ax;exact .inr ax)
  refine⟨base.heap,base.tr,base.size, ?_,base.env⟩
  obtain⟨ms,g1,g2,g3,g4⟩:=base.defers
  obtain⟨ms',q1,q2,q3,q4⟩:=hs.defers
  have hmm:ms.map mark=ms'.map mark:=by
   have:ms.map mark++cx.base=ms'.map mark++cx.base:=g1.symm.trans q1
   exact List.append_cancel_right this
  have T0:ms=ms':=by
   have hm:∀a b,mark a=mark b->a=b:=fun a b h=>by simpa[mark]using h
   exact List.map_inj_right hm |>.1 hmm
  refine⟨w.heap.size::ms,by rw[g1];rfl,List.nodup_cons.2 ⟨fun hm=> ?_,g2⟩,(fun h=>by rw[mC]at h;cases h),fun r hr=> ?_⟩
  ·have:=(q4 w.heap.size (T0 ▸ hm)).2.1
   rw[Array.getElem?_eq_none (Nat.le_refl _)]at this;cases this
  ·rcases List.mem_cons.1 hr with rfl|hr
   ·refine⟨hs.tr.cH.size,(RowKit.Below.heap_alloc (w.alloc (.deferred (some []))) (.loop Ec) w.heap.size (by rw[NX];omega)).trans (heap_alloc_new w _), ?_⟩
    rintro⟨id,i1,i2⟩
    by_cases e:id=s.nx
    ·subst e;simp[iP,eg,l]at i2
    ·have i1':(s.H.o id).live=true:=by simpa[s1,S.H,e]using i1
     have i2':eg (φ id)=some w.heap.size:=by simpa[iP,e]using i2
     have:=(hs.heap.ours _ ⟨id,i1',i2'⟩).2
     omega
   ·exact g4 r hr
 have ad2:V.den (ak M iP s1.H) iP s1.H w1 (.j7 s.nx) (.func (.yield l) #[] #[]):=
  ⟨rfl,by simp[s1,S.H],fun _=>⟨l,by simp[iP],rfl⟩⟩
 have hg:=mU (M:=M) (φ:=iP) (H:=s1.H) (w:=w1) s1 {a with defers:=mark w.heap.size::a.defers} rA.env g
 have ad3:s1.ev g=s.ev g:=by cases g<;>rfl
 rw[ad3]at hg
 have hae:({a with defers:=mark w.heap.size::a.defers}:Act).eval g=a.eval g:=rfl
 rw[hae]at hg
 split at h
 ·rename_i f first cap hgv
  rw[hgv]at hg
  obtain⟨fa,ca,TY,FK,hca⟩:=hg
  have fin:∀ (all:List V) (o2:Nat->ad) (s2:S),s2=⟨s.env,o2,s.nx+1⟩->cf M cL H0 w0 n cx iP s2 {a with defers:=mark w.heap.size::a.defers} w1->V.aC (ak M iP s2.H) iP s2.H w1 all (fa++#[Value.func (.yield l) #[] #[]]++ca).toList->(o2 s.nx).ct=true->
   bQ P f all o2 (s.nx+1) (fun _ o' nx'=>∃nf m e p c d st pd,o' s.nx= .loop nf m e p c d st pd/\st≠ .busy/\qw Q pd ⟨s.env,ay o' s.nx (.loop nf m e p c d .exhausted pd),nx'⟩) (fun v o' nx'=>Q (.bJ v) ⟨s.env,o',nx'⟩)->
   ∃ (l:Nat) (mark:List Deferred) (js:World) (d:Deferred) (xV:World) (f:FuncId) (args:Array Value) (rU:World),
     (Instr.enterLoop fn a.tmps ps x y (dP none).round).run P w= .ok (l,mark) js/\(resolve a.eval (rangeCall g l) 0).run P js= .ok d xV/\
     (invoke d.target d.args).run P xV= .ok (.enter f args) rU/\CallsIn (dP none) 0 P f args rU (uU P l (F1 M cL H0 w0 n cx Q) {a with defers:=mark++a.defers}):=by
   intro all o2 s2 ad4 F7 a7 cZ hC
   subst ad4
   have eU:=hC.2 M iP w1 _ F7.heap a7
   refine⟨l,[mark w.heap.size],w1,{target:= .fn (.func f) ca,args:=fa++#[Value.func (.yield l) #[] #[]]},w1,f,fa++#[Value.func (.yield l) #[] #[]]++ca,w1,lZ, ?_, ?_,df (eU.mono fun e w' ⟨aF,o',nx',v,k1,k2,k3⟩=> ?_)⟩
   ·simp only[resolve,TY,Deferred.ofValue,List.map_toArray,List.map_cons,List.map_nil,Sem.run_pure]
    rfl
   ·simp[invoke,lg hC.1]
   ·cases e with
    |returned val=>
     obtain⟨k4,nf,m,e,p,c,d,st,pd,k5,k6,k7⟩:=k3
     have F8:cf M cL H0 w0 n cx aF ⟨s.env,o',nx'⟩ {a with defers:=mark w.heap.size::a.defers} w':=eN F7 k1 k2 rfl fun id hu=>hu
     have T1:aF s.nx= .pointer (some ⟨l,0,none⟩):=by
      have:=(k2.rel.row s.nx (show s.nx<s.nx+1 from af) (by show(o' s.nx).ct=true;rw[k5];rfl)).2
      rw[this];simp[iP]
     have ck:s.nx<nx':=k2.rel.us s.nx (show s.nx<s.nx+1 from af)
     obtain⟨r,r1,r2,r3,r4,r5⟩:=xW (st':= .exhausted) (pd':=pd) k1 ck (show(hp o' nx').o s.nx=_ from k5) T1
     have eD:(Instr.endLoop l).run P w'= .ok (pd.map jS.code) {w' with heap:=w'.heap.setIfInBounds l (.loop {r with state:= .exhausted,pending:=pd.map jS.code})}:=by
      have e1:({r with state:= .exhausted}:Loop)={r with state:= .exhausted,pending:=pd.map jS.code}:=by rw[<- r3]
      have hnb:(r.state==LoopState.busy)=false:=by rw[r2];cases st<;>first|rfl|exact absurd rfl k6
      simp only[Instr.endLoop,Sem.run_bind,kp r1,Result.andThen_ok,hnb,Bool.false_eq_true,if_false,Sem.run_pure]
      rw[iS _ r1,e1]
      simp[r3]
     have W9:=eN F8 r4 r5 (o':=ay o' s.nx (.loop nf m e p c d .exhausted pd)) (nx':=nx') rfl fun id hu=>by
      simp only[dX]at hu
      rcases hu with hu|hu
      ·exact hu
      ·subst hu;exact ck
     refine⟨pd.map jS.code,_,eD, ?_⟩
     cases pd with
     |none=>exact⟨.normal,_,_,k7,W9,trivial⟩
     |some j=>
      cases j with
      |ret=>exact F2 ⟨.ret,_,_,k7,W9,trivial⟩
      |exit id=>exact BP ⟨.exit id,_,_,k7,W9,rfl⟩
    |panicked ch=>
     obtain⟨val,rfl,k4,k5⟩:=k3
     have F8:cf M cL H0 w0 n cx aF ⟨s.env,o',nx'⟩ {a with defers:=mark w.heap.size::a.defers} w':=eN F7 k1 k2 rfl fun id hu=>hu
     exact⟨.bJ v,_,_,k5,F8,val,rfl,k4⟩
    |outgrown=>exact k3.elim
  have m9:V.aC (ak M iP s1.H) iP s1.H w1 (first++[V.j7 s.nx]++cap) (fa++#[Value.func (.yield l) #[] #[]]++ca).toList:=by
   rw[Array.toList_append,Array.toList_append]
   exact V.pX FK ⟨_,[],rfl,ad2,rfl⟩ hca
  rcases h with hC|hC
  ·exact fin _ _ s1 rfl rA m9 (by simp;rfl) hC
  ·have pT:s1.o=ay s.o s.nx (.loop P.funcs.size n env ps.toList (low n x) (low n y) .ready none):=rfl
   obtain⟨f1,f2,f3,f4,f5⟩:=cW rA.heap (dg s1.o (first++[V.j7 s.nx]++cap)) (gH _ _ s1.o m9)
   have fg:s1.H.put (bw s1.H.o (dg s1.o (first++[V.j7 s.nx]++cap)))=hp (put s1.o (bw s1.o (dg s1.o (first++[V.j7 s.nx]++cap)))) s1.nx:=la (by rw[tN];exact gH _ _ s1.o m9)
   have Q8:=KG f1 _ _ f3 (V.aT f2 _ _ m9)
   have Q9:((s1.H.put (bw s1.H.o (dg s1.o (first++[V.j7 s.nx]++cap)))).o s.nx).ct=true:=by
    by_cases hm:s.nx∈dg s1.o (first++[V.j7 s.nx]++cap)
    ·rw[f3 _ hm];simp[s1,S.H,ad.fz,ad.ct]
    ·rw[f4 _ hm];simp[s1,S.H,ad.ct]
   rw[fg]at f1 f2 Q8 Q9
   exact fin _ (put s1.o (bw s1.o (dg s1.o (first++[V.j7 s.nx]++cap)))) ⟨s.env,_,s.nx+1⟩ rfl (eN rA f1 f2 rfl fun id hu=>hu) Q8 Q9 hC
 ·exact h.elim
end
end Go.Proofs.YtlhemmpklhhgoaaGreat
