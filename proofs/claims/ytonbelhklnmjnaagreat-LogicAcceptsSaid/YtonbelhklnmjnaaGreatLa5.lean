/-
  A PART OF THE PROOF. Conditions: none.
-/
import Derived.RangeFuncLeaves
import Derived.TacticsIn
import Derived.RecoverIn
import Derived.Test.YtonbelhklnmjnaaGreatLa4
set_option linter.unusedSimpArgs false
set_option linter.unusedVariables false
namespace Go.Proofs.YtonbelhklnmjnaaGreat
inductive R where
 |ret (ds:List D)|cc (d:D)
def R.is (B:Nat->Prop)(w:World):R->Ending->Prop
 | .ret [x], .returned v=>D.den B w x v
 | .ret ds, .returned v=>∃a,v= .tuple a/\D.aP B w ds a.toList
 | .cc d, .panicked chain=>∃v,chain=[{v:=v,recovered:=false}]/\D.den B w d v
 |_,_=>False
def Enters(P:Program)(f:FuncId):Prop:=∃fn,P.funcs[f]? =some fn/\(fn.name== "runtime.NumGoroutine")=false/\fn.body.isNone=false
def aR(P:Program)(f:FuncId)(ds:List D)(out:R):Prop:=
 Enters P f/\∀ (M:Nat->Prop) (w:World) (vals:Array Value),(∀b,M b->b<w.heap.size)->D.aP M w ds vals.toList->
  Calls P f vals w fun e w'=>eO (fun _=>False) w w'/\out.is M w' e
def hp(o:Nat->ae)(nx:Nat):Hp:=⟨o,fun id=>id<nx⟩
def nB(M:Nat->Prop)(φ:Place)(H:Hp)(w:World)(K X:V->(Nat->ae)->Nat->Prop)(e:Ending)(w':World):Prop:=
 ∃aS o' nx' v,aF M aS (hp o' nx') w'/\Trans φ H w aS (hp o' nx') w'/\match e with
  | .returned val=>V.den (az M aS (hp o' nx')) aS (hp o' nx') w' v val/\K v o' nx'
  | .panicked ch=>∃val,ch=[{v:=val,recovered:=false}]/\V.den (az M aS (hp o' nx')) aS (hp o' nx') w' v val/\X v o' nx'
  | .outgrown=>False
def cU(P:Program)(f:FuncId)(args:List V)(o:Nat->ae)(nx:Nat)(K X:V->(Nat->ae)->Nat->Prop):Prop:=
 Enters P f/\∀ (M:Nat->Prop) (φ:Place) (w:World) (vals:Array Value),aF M φ (hp o nx) w->V.aP (az M φ (hp o nx)) φ (hp o nx) w args vals.toList->
  Calls P f vals w (nB M φ (hp o nx) w K X)
def eh(P:Program)(id:Nat)(args:List V)(o:Nat->ae)(nx:Nat)(K X:V->(Nat->ae)->Nat->Prop):Prop:=
 (o id).cK=true/\∀ (M:Nat->Prop) (φ:Place) (w:World) (vals:Array Value) (b:Nat),aF M φ (hp o nx) w->V.aP (az M φ (hp o nx)) φ (hp o nx) w args vals.toList->φ id= .pointer (some ⟨b,0,none⟩)->
  ∃f tmps assign body,(Instr.yield b vals).run P w= .ok (.round b f tmps assign body) w/\∀n,RoundIn Fence.wide n P b f tmps assign body w (nB M φ (hp o nx) w K X)
theorem nB.mono {M:Nat->Prop}{φ:Place}{H:Hp}{w:World}{K X K' X':V->(Nat->ae)->Nat->Prop}(hK:∀v o n,K v o n->K' v o n)(hX:∀v o n,X v o n->X' v o n){e:Ending}{w':World}(h:nB M φ H w K X e w'):nB M φ H w K' X' e w':=by
 obtain⟨aS,o',nx',v,h1,h2,h3⟩:=h
 refine⟨aS,o',nx',v,h1,h2, ?_⟩
 cases e with
 |returned val=>exact⟨h3.1,hK _ _ _ h3.2⟩
 |panicked ch=>obtain⟨val,a,b,c⟩:=h3;exact⟨val,a,b,hX _ _ _ c⟩
 |outgrown=>exact h3
theorem cU.mono {P:Program}{f:FuncId}{args:List V}{o:Nat->ae}{nx:Nat}{K X K' X':V->(Nat->ae)->Nat->Prop}(hK:∀v o n,K v o n->K' v o n)(hX:∀v o n,X v o n->X' v o n)(h:cU P f args o nx K X):cU P f args o nx K' X':=
 ⟨h.1,fun M φ w vals h1 h2=>(h.2 M φ w vals h1 h2).mono fun _ _ h=>h.mono hK hX⟩
theorem eh.mono {P:Program}{id:Nat}{args:List V}{o:Nat->ae}{nx:Nat}{K X K' X':V->(Nat->ae)->Nat->Prop}(hK:∀v o n,K v o n->K' v o n)(hX:∀v o n,X v o n->X' v o n)(h:eh P id args o nx K X):eh P id args o nx K' X':=
 ⟨h.1,fun M φ w vals b h1 h2 h3=>let⟨f,t,a,c,h4,h5⟩:=h.2 M φ w vals b h1 h2 h3;⟨f,t,a,c,h4,fun n=>(h5 n).mono fun _ _ h=>h.mono hK hX⟩⟩
mutual
def D.flat:D->Bool
 | .sl _| .mp _ _=>false
 | .agg cs=>D.kz cs
 | .iface _ x=>x.flat
 |_=>true
def D.kz:List D->Bool
 |[]=>true
 |x::xs=>x.flat&&D.kz xs
end
mutual
theorem D.qL {B B':Nat->Prop}{w w':World}:∀ (x:D) (v:Value),x.flat=true->D.den B w x v->D.den B' w' x v
 | .int _ _,_,_,h| .bool _,_,_,h| .str _,_,_,h| .fK,_,_,h| .mY,_,_,h| .cj,_,_,h| .jt,_,_,h=>h
 | .agg cs,_,hf,h=>by obtain⟨a,rfl,h,h2⟩:=h;exact⟨a,rfl,D.mo cs _ hf h,h2⟩
 | .sl es,_,hf,h=>by simp[D.flat]at hf
 | .mp _ _,_,hf,h=>by simp[D.flat]at hf
 | .iface t x,_,hf,h=>by obtain⟨u,rfl,h⟩:=h;exact⟨u,rfl,D.qL x u hf h⟩
theorem D.mo {B B':Nat->Prop}{w w':World}:∀ (xs:List D) (vs:List Value),D.kz xs=true->D.aP B w xs vs->D.aP B' w' xs vs
 |[],_,_,h=>h
 |x::xs,_,hf,h=>by
  obtain⟨u,us,rfl,h1,h2⟩:=h
  simp only[D.kz,Bool.and_eq_true]at hf
  exact⟨u,us,rfl,D.qL x u hf.1 h1,D.mo xs us hf.2 h2⟩
end
mutual
def D.nC:D->Bool
 | .mp _ _=>false
 | .agg cs=>D.mq cs
 | .sl es=>D.mq es
 | .iface _ x=>x.nC
 |_=>true
def D.mq:List D->Bool
 |[]=>true
 |x::xs=>x.nC&&D.mq xs
end
theorem iy.BT {B B':Nat->Prop}{w w':World}{a:Addr}{cs:Array Value}
 (hb:∀b,qt w b-> ¬B b->w'.heap[b]? =w.heap[b]? /\ ¬B' b) (h:iy B w a cs):iy B' w' a cs:=by
 intro j u hj
 obtain⟨h1,h2⟩:=h j u hj
 have db:qt w a.block:=by simpa using o6 h1
 obtain⟨h3,h4⟩:=hb _ db h2
 exact⟨by rw[World.cell?_of_block (w:=w) (w':=w') (a:=a.add j) (by simpa using h3)];exact h1,h4⟩
mutual
theorem D.lP {B B':Nat->Prop}{w w':World}(hb:∀b,qt w b-> ¬B b->w'.heap[b]? =w.heap[b]? /\ ¬B' b):
 ∀ (x:D) (v:Value),x.nC=true->D.den B w x v->D.den B' w' x v
 | .int _ _,_,_,h| .bool _,_,_,h| .str _,_,_,h| .fK,_,_,h| .mY,_,_,h| .cj,_,_,h| .jt,_,_,h=>by simpa[D.den]using h
 | .agg cs,_,hn,h=>by
   obtain⟨a,rfl,h,hf⟩:=h
   exact⟨a,rfl,D.nD hb cs _ hn h,hf⟩
 | .sl es,_,hn,h=>by
   obtain⟨base,len,cap,rfl,h1,h2,h3,sz,h4⟩:=h
   exact⟨base,len,cap,rfl,h1,h2,h3,sz,fun a ha=>⟨(h4 a ha).1,D.qM hb sz a es 0 hn (h4 a ha).2⟩⟩
 | .iface t d,_,hn,h=>by
   obtain⟨u,rfl,h⟩:=h
   exact⟨u,rfl,D.lP hb d u hn h⟩
 | .mp _ _,_,hn,_=>by simp[D.nC]at hn
theorem D.nD {B B':Nat->Prop}{w w':World}(hb:∀b,qt w b-> ¬B b->w'.heap[b]? =w.heap[b]? /\ ¬B' b):
 ∀ (ds:List D) (vs:List Value),D.mq ds=true->D.aP B w ds vs->D.aP B' w' ds vs
 |[],_,_,h=>h
 |d::ds,_,hn,h=>by
  obtain⟨u,us,rfl,h1,h2⟩:=h
  simp only[D.mq,Bool.and_eq_true]at hn
  exact⟨u,us,rfl,D.lP hb d u hn.1 h1,D.nD hb ds us hn.2 h2⟩
theorem D.qM {B B':Nat->Prop}{w w':World}(hb:∀b,qt w b-> ¬B b->w'.heap[b]? =w.heap[b]? /\ ¬B' b)(sz:Nat)(a:Addr):
 ∀ (es:List D) (i:Nat),D.mq es=true->D.elems B w sz a i es->D.elems B' w' sz a i es
 |[],_,_,_=>trivial
 |e::es,i,hn,h=>by
  obtain⟨⟨ev,h1,h2,h3⟩,h4⟩:=h
  simp only[D.mq,Bool.and_eq_true]at hn
  exact⟨⟨ev,h1,h2.BT hb,D.lP hb e ev hn.1 h3⟩,D.qM hb sz a es (i+1) hn.2 h4⟩
end
def R.nC:R->Bool
 | .ret ds=>D.mq ds
 | .cc d=>d.nC
def R.flat:R->Bool
 | .ret ds=>D.kz ds
 | .cc d=>d.flat
def jT:List D->V
 |[x]=> .d x
 |ds=> .cA (ds.map .d)
inductive fG where
 |normal|exit (id:Nat)|ret|cc (v:V)
def bF(env:Nat->V)(dst:Option Tmp)(v:V):Nat->V:=
 match dst with
 |some d=>aK env d v
 |none=>env
def KH(o:Nat->ae)(v:V):V:=match eu o v with|some x=> .d x|none=>v
def dI(o:Nat->ae):List V->List Nat
 |[]=>[]
 |v::vs=>(match eu o v with|some _=>v.ids|none=>[])++dI o vs
def nE(P:Program)(g:FuncId)(args:List V)(o:Nat->ae)(nx:Nat)(K X:V->(Nat->ae)->Nat->Prop):Prop:=
 cU P g args o nx K X\/cU P g (args.map (KH o)) (put o (dy o (dI o args))) nx K X
def vl(P:Program)(s:S)(g:FuncId)(all:List V)(K:V->(Nat->ae)->Nat->Prop)(X:V->(Nat->ae)->Nat->Prop):Prop:=
    (∃ds out,cE s.o all=some ds/\aR P g ds out/\(match out with
     | .ret rs=>K (jT rs) (put s.o (dy s.o (V.bO all))) (s.nx+1)
     | .cc x=>X (.d x) (put s.o (dy s.o (V.bO all))) (s.nx+1)))\/
    (∃ds out,cE s.o all=some ds/\aR P g ds out/\out.flat=true/\(match out with
     | .ret rs=>K (jT rs) s.o (s.nx+1)
     | .cc x=>X (.d x) s.o (s.nx+1)))\/
    (∃ds out,cE s.o all=some ds/\aR P g ds out/\out.nC=true/\(match out with
     | .ret rs=>K (jT rs) (put s.o (sc s.o (V.bO all))) (s.nx+1)
     | .cc x=>X (.d x) (put s.o (sc s.o (V.bO all))) (s.nx+1)))\/
    nE P g all s.o s.nx K X
def Ci(P:Program)(s:S)(f:V)(args:List V)(K:V->(Nat->ae)->Nat->Prop)(X:V->(Nat->ae)->Nat->Prop):Prop:=
 match f with
 | .func (.func g) first cap=>vl P s g (first++args++cap) K X
 | .j6 id=>eh P id args s.o s.nx K X
 |_=>False
def QY(P:Program)(t:TypeId):Bool:=
 match P.underlying t with
 |some (.pointer _)=>false
 |some _=>true
 |none=>false
def vm(P:Program)(m:String)(x:V):Option (FuncId×V):=
 match x with
 | .d (.iface t y)=>match P.info? t with
   |some ti=>match ti.methods.find? (·.name==m)with
    |some r=>match r.func with
     |some (f,false)=>if r.path.isEmpty=true/\QY P t=true then some (f, .d y)else none
     |_=>none
    |none=>none
   |none=>none
 |_=>none
def iz(n:Nat):Option Tmp->Prop
 |some d=>d<n
 |none=>True
def opW(P:Program)(n:Nat)(s:S)(o:Oper)(X:V->S->Prop)(K:S->Prop):Prop:=
 iz n o.dst/\match o.op with
 | .call c=>match c.callee with
   | .value f=>Ci P s (s.ev f) (c.args.toList.map s.ev) (fun v o' nx'=>K ⟨bF s.env o.dst v,o',nx'⟩) (fun v o' nx'=>X v ⟨s.env,o',nx'⟩)
   | .invoke r m=>match vm P m (s.ev r)with
     |some (g,y)=>vl P s g (y::c.args.toList.map s.ev) (fun v o' nx'=>K ⟨bF s.env o.dst v,o',nx'⟩) (fun v o' nx'=>X v ⟨s.env,o',nx'⟩)
     |none=>False
   |_=>QO P s s.nx o.op fun v Δ _=>K ⟨bF s.env o.dst v,put s.o Δ,s.nx+1⟩
 | .panic x=>match s.ev x with
   | .d (.iface t y)=>X (.d (.iface t y)) s
   | .iface t y=>X (.iface t y) s
   |_=>False
 |op=>QO P s s.nx op fun v Δ _=>K ⟨bF s.env o.dst v,put s.o Δ,s.nx+1⟩
def Ag(s:S)(ops:Array Oper)(g:Option (Nat×Bool))(A B:Prop):Prop:=
 match g with
 |none=>A
 |some (j,want)=>match ta ops j with
  |some d=>match s.env d with
   | .d (.bool b)=>(b=want->A)/\(b≠want->B)
   | .cA []=>B
   |_=>False
  |none=>B
def Ah(P:Program)(n:Nat)(ops:Array Oper)(X:V->S->Prop)(K:S->Prop):List Oper->S->Prop
 |[],s=>K s
 |o::l,s=>Ag s ops o.guard (opW P n s o X (Ah P n ops X K l)) (iz n o.dst/\Ah P n ops X K l ⟨bF s.env o.dst (.cA []),s.o,s.nx+1⟩)
def bE(b:Nat)(s s':S):Prop:=
 ∀ (M:Nat->Prop) (φ:Place) (w:World) (tm:Nat->Value),aF M φ s.H w->(∀i,V.den (az M φ s.H) φ s.H w (s.env i) (tm i))->
   ∃aS,aF M aS s'.H w/\(∀i,V.den (az M aS s'.H) aS s'.H w (s'.env i) (tm i))/\(∀k,du aS s'.H k->du φ s.H k)/\b<=s'.nx/\
    (∀id,id<b->(s'.o id).cK=true->(s.o id).cK=true/\aS id=φ id)/\
    (∀id e',id<b->(s'.o id).cH=some e'->∃e,(s.o id).cH=some e/\e<=e'/\(e=e'->aS id=φ id))
def qN(K:S->Prop)(Q:fG->S->Prop)(e:fG)(s:S):Prop:=match e with| .normal=>K s|e=>Q e s
def fY(id:Nat)(Q:fG->S->Prop)(e:fG)(s:S):Prop:=match e with| .exit j=>if j=id then Q .normal s else Q (.exit j) s|e=>Q e s
def mu(P:Program)(s:S):List ResultVar->Option (List V)
 |[]=>some []
 | .tmp t::rs=>(mu P s rs).map (s.env t::·)
 | .cell a t::rs=>match s.env a with
   | .ptr id off=>match s.o id with
     | .row cs=>(fq P t cs off).bind fun v=>(mu P s rs).map (v::·)
     |_=>none
   |_=>none
def cN(vs:List V):Nat->V:=fun i=>vs.getD i (.cA [])
def EG(P:Program)(rs:List ResultVar)(out:R)(e:fG)(s:S):Prop:=
 match e with
 | .normal| .ret=>match mu P s rs with
   |some vs=>match cE s.o vs with
    |some ds=>out= .ret ds
    |none=>False
   |none=>False
 | .cc v=>match eu s.o v with
   |some x=>out= .cc x
   |none=>False
 | .exit _=>False
theorem KI{P:Program}{rs:List ResultVar}{out:R}{s:S}(h:match mu P s rs with
 |some vs=>match cE s.o vs with
  |some ds=>out= .ret ds
  |none=>False
 |none=>False):∃vs ds,mu P s rs=some vs/\cE s.o vs=some ds/\out= .ret ds:=by
 split at h
 ·rename_i vs h1
  split at h
  ·rename_i xs h2;exact⟨vs,xs,h1,h2,h⟩
  ·exact h.elim
 ·exact h.elim
theorem KJ{out:R}{s:S}{v:V}(h:match eu s.o v with
 |some x=>out= .cc x
 |none=>False):∃x,eu s.o v=some x/\out= .cc x:=by
 split at h
 ·rename_i x h1;exact⟨x,h1,h⟩
 ·exact h.elim
end Go.Proofs.YtonbelhklnmjnaaGreat
namespace Go.Proofs.YtonbelhklnmjnaaGreat
section
variable {P:Program}{M:Nat->Prop}{φ:Place}{H:Hp}{w w':World}
def ae.lQ:ae->Bool
 | .arr .. =>true
 |_=>false
theorem OJ(o:Nat->ae)(ids:List Nat):sc o ids=dy o (ids.filter fun id=>(o id).lQ):=by
 induction ids with
 |nil=>rfl
 |cons id ids ih=>
  unfold sc at ih|-
  simp only[List.filterMap_cons,List.filter_cons]
  cases hx:o id with
  |arr ep ty sz es=>
   have e:(ae.arr ep ty sz es).lQ=true:=rfl
   rw[e,if_pos rfl,ih]
   simp only[dy,List.map_cons,hx]
  |_=>exact ih
theorem jU(hH:aF M φ H w){us':Nat->Prop}(h:∀id,H.us id->us' id):aF M φ ⟨H.o,us'⟩ w/\Trans φ H w φ ⟨H.o,us'⟩ w:=by
 have ht:Trans φ H w φ ⟨H.o,us'⟩ w:=⟨eO.refl _ _,fun b hb=> .inl hb,⟨h,fun id _ hr=>⟨hr,rfl⟩,fun id e' _ he=>⟨e',he,Nat.le_refl _,fun _=>rfl⟩⟩⟩
 exact⟨hH.of ht (fun _=>False) (fun _ h=>h.elim) (fun id _=>⟨rfl,rfl,fun _ _ _=>rfl⟩) (fun id hn=>hH.fresh id fun hu=>hn (h id hu)) hH.apart (fun b hb=>(hH.ours b hb).2),ht⟩
theorem hY(hH:aF M φ H w)(hk:eO (fun _=>False) w w'):aF M φ H w'/\Trans φ H w φ H w':=by
 have ht:Trans φ H w φ H w':=⟨⟨hk.os,hk.tape,hk.output,hk.size,fun k h _=>hk.block k h fun h=>h⟩,fun b hb=> .inl hb,eC.refl _ _⟩
 exact⟨hH.of ht (fun _=>False) (fun _ h=>h.elim) (fun id _=>⟨rfl,rfl,fun hl b hb=>hk.block b (hH.ours b ⟨id,hl,hb⟩).2 fun h=>h⟩) hH.fresh hH.apart (fun b hb=>Nat.lt_of_lt_of_le (hH.ours b hb).2 hk.size),ht⟩
theorem lR{Δ:List (Nat×ae)}(h:∀id∈Δ.map (·.1),H.us id):H.put Δ=⟨put H.o Δ,H.us⟩:=by
 unfold Hp.put
 congr 1
 funext id
 simp only[eq_iff_iff]
 exact⟨fun h'=>h'.elim (fun h=>h) (h id), .inl⟩
theorem ux(o:Nat->ae)(ids:List Nat):(dy o ids).map (·.1)=ids:=by
 rw[mm];simp[Function.comp_def]
structure Cx where
 base:List Deferred
 rd:Bool
def ew(ro:Option Nat):Fence:={fn:=fun _=>True,depth:=none,alive:=false,round:=ro}
def mark(r:Nat):Deferred:={target:= .collected r,args:=#[]}
def vq(cx:Cx)(w0:World)(φ:Place)(H:Hp)(w:World)(ds:List Deferred):Prop:=
 ∃ms:List Nat,ds=ms.map mark++cx.base/\ms.Nodup/\(cx.rd=true->ms=[])/\∀r∈ms,w0.heap.size<=r/\w.heap[r]? =some (.deferred (some []))/\ ¬du φ H r
theorem vq.mono {cx:Cx}{w0:World}{φ aS:Place}{H H':Hp}{w w':World}{ds:List Deferred}(ht:Trans φ H w aS H' w')(h:vq cx w0 φ H w ds):vq cx w0 aS H' w' ds:=by
 obtain⟨ms,h1,h2,h3,h4⟩:=h
 refine⟨ms,h1,h2,h3,fun r hr=> ?_⟩
 obtain⟨g1,g2,g3⟩:=h4 r hr
 have db:r<w.heap.size:=by
  rcases Nat.lt_or_ge r w.heap.size with hl|hl
  ·exact hl
  ·rw[Array.getElem?_eq_none hl]at g2;cases g2
 refine⟨g1,(ht.cJ.block r db g3).trans g2,fun hl=> ?_⟩
 rcases ht.grow r hl with h|h
 ·exact g3 h
 ·omega
structure cG (M:Nat->Prop) (cZ:Place) (H0:Hp) (w0:World) (n:Nat) (cx:Cx) (φ:Place) (s:S) (a:Act) (w:World):Prop where
 heap:aF M φ s.H w
 tr:Trans cZ H0 w0 φ s.H w
 size:a.tmps.size=n
 defers:vq cx w0 φ s.H w a.defers
 env:∀i,V.den (az M φ s.H) φ s.H w (s.env i) (a.tmps.getD i undef)
variable {cZ:Place}{H0:Hp}{w0:World}{n:Nat}{s:S}{a:Act}{cx:Cx}{ro:Option Nat}{k:Nat}
theorem dE{f:FuncId}{args:Array Value}{R:Ending->World->Prop}(h:Calls P f args w R):CallsIn (ew ro) k P f args w R:=
 ⟨trivial,fun cs _=>let⟨e,w',fr,r,s,x⟩:=h cs;⟨e,w',fr,r,comesIn_wide.2 s,x⟩⟩
theorem Cj{f:FuncId}{args:Array Value}{R:Ending->World->Prop}(h:CallsIn (ew ro) k P f args w R):Calls P f args w R:=
 fun cs=>let⟨e,w',fr,r,s,x⟩:=h.2 cs (fun _ h=>by simp[ew]at h);⟨e,w',fr,r,comesIn_wide.1 s,x⟩
theorem la{o:Oper}{next:Act->World->Prop}{Q:Exit->Act->World->Prop}(hnd:∀c,o.op≠ .defer c)(h:o.uponIn (ew ro) k P a next Q ((execOp a.eval o).run P w)):o.wpIn (ew ro) k P a w next Q:=
 ⟨fun _ _=>trivial,by rw[Oper.semAt_eq _ _ _ hnd];exact h⟩
theorem mw(hs:cG M cZ H0 w0 n cx φ s a w){aS:Place}{H':Hp}(hH:aF M aS H' w')(ht:Trans φ s.H w aS H' w'){v:V}{val:Value}(hd:V.den (az M aS H') aS H' w' v val){dst:Option Tmp}(dm:iz n dst)
 {o':Nat->ae} {nx':Nat} (ho:H'.o=o') (hu:∀id,H'.us id->id<nx'):cG M cZ H0 w0 n cx aS ⟨bF s.env dst v,o',nx'⟩ (a.put dst val) w':=by
 obtain⟨k1,k2⟩:=jU hH hu
 subst ho
 refine⟨k1,hs.tr.trans (ht.trans k2), ?_, ?_,fun i=> ?_⟩
 ·cases dst<;>simp[Act.put,hs.size]
 ·have:=hs.defers.mono (ht.trans k2);cases dst<;>exact this
 ·cases dst with
  |none=>exact V.aX (ht.trans k2) _ _ (hs.env i)
  |some d=>
   simp only[iz]at dm
   simp only[bF,aW,Act.put]
   by_cases hi:i=d
   ·subst hi
    have h1:(a.tmps.setIfInBounds i val).getD i undef=val:=by simp[Array.getD,hs.size,dm]
    rw[if_pos rfl,h1]
    exact V.aX k2 _ _ hd
   ·have h1:(a.tmps.setIfInBounds d val).getD i undef=a.tmps.getD i undef:=by
     simp only[Array.getD_eq_getD_getElem?]
     rw[Array.getElem?_setIfInBounds_ne (Ne.symm hi)]
    rw[if_neg hi,h1]
    exact V.aX (ht.trans k2) _ _ (hs.env i)
theorem eQ(hs:cG M cZ H0 w0 n cx φ s a w){aS:Place}{H':Hp}(hH:aF M aS H' w')(ht:Trans φ s.H w aS H' w'){o':Nat->ae}{nx':Nat}(ho:H'.o=o')(hu:∀id,H'.us id->id<nx'):
 cG M cZ H0 w0 n cx aS ⟨s.env,o',nx'⟩ a w':=by
 obtain⟨k1,k2⟩:=jU hH hu
 subst ho
 exact⟨k1,hs.tr.trans (ht.trans k2),hs.size,hs.defers.mono (ht.trans k2),fun i=>V.aX (ht.trans k2) _ _ (hs.env i)⟩
theorem KK{Δ:List (Nat×ae)}(h:∀id∈Δ.map (·.1),s.H.us id\/id=s.nx)(id:Nat)(hu:(s.H.put Δ).us id):id<s.nx+1:=by
 rcases hu with hu|hu
 ·exact Nat.lt_succ_of_lt hu
 ·rcases h id hu with h|h
  ·exact Nat.lt_succ_of_lt h
  ·omega
variable {next:Act->World->Prop}{Q:Exit->Act->World->Prop}{X:V->S->Prop}{K:S->Prop}
theorem KL(hs:cG M cZ H0 w0 n cx φ s a w){o:Oper}{op:Op}(ey:o.op=op)(dm:iz n o.dst)(h:QO P s s.nx op fun v Δ _=>K ⟨bF s.env o.dst v,put s.o Δ,s.nx+1⟩)
 (hN:∀s' aS a' w',K s'->cG M cZ H0 w0 n cx aS s' a' w'->next a' w'):o.wpIn (ew ro) k P a w next Q:=by
 obtain⟨nx,val,w',aS,v,Δ,rd,hK,hr,uA,g1,g2,g3,g4⟩:=yi hs.heap (s:=s) rfl hs.env (fr:=s.nx) (by simp[S.H]) ey h
 have Ai:=mw hs g1 g2 g3 dm (o':=put s.o Δ) (nx':=s.nx+1) rfl (KK g4)
 refine la (fun c hc=>by rw[ey]at hc;subst hc;exact h) ?_
 rw[hr]
 rcases uA with rfl|⟨rfl,rfl⟩
 ·exact hN _ _ _ _ hK Ai
 ·exact hN _ _ _ _ hK Ai
theorem V.my {B:Nat->Prop}{cF bs cs:List V}{u v x:List Value}(h1:V.aP B φ H w cF u)(h2:V.aP B φ H w bs v)(h3:V.aP B φ H w cs x):V.aP B φ H w (cF++bs++cs) (u++v++x):=
 V.bP _ _ _ _ (V.bP _ _ _ _ h1 h2) h3
theorem lS{f:FuncId}(h:Enters P f)(args:Array Value):(callFunc f args).run P w= .ok (.enter f args) w:=by
 obtain⟨fn,h1,h2,h3⟩:=h
 have iR:fn.name≠ "runtime.NumGoroutine" :=by simpa using h2
 have sx:fn.body≠none:=fun h=>by rw[h]at h3;cases h3
 simp[callFunc,h1,iR,sx]
theorem lT:∀ {rs:List D} {val:Value},R.is (az M φ H) w (.ret rs) (.returned val)->V.den (az M φ H) φ H w (jT rs) val
 |[],_,h=>by obtain⟨arr,rfl,h⟩:=h;exact⟨arr,rfl,h⟩
 |[x],_,h=>h
 |x::y::l,_,h=>by obtain⟨arr,rfl,h⟩:=h;exact⟨arr,rfl,(V.cM (x::y::l) _).2 h⟩
theorem R.Aj {B B':Nat->Prop}:∀ {out:R} {e:Ending},out.flat=true->out.is B w e->out.is B' w e
 | .ret [], .returned _,_,h=>by obtain⟨arr,rfl,h⟩:=h;exact⟨arr,rfl,h⟩
 | .ret [x], .returned _,hf,h=>by
   simp only[R.flat,D.kz,Bool.and_true]at hf
   exact D.qL x _ hf h
 | .ret (x::y::l), .returned _,hf,h=>by obtain⟨arr,rfl,h⟩:=h;exact⟨arr,rfl,D.mo (x::y::l) _ hf h⟩
 | .cc d, .panicked _,hf,h=>by obtain⟨v,rfl,h⟩:=h;exact⟨v,rfl,D.qL d v hf h⟩
 | .ret [], .panicked _,_,h| .ret [_], .panicked _,_,h| .ret (_::_::_), .panicked _,_,h| .ret [], .outgrown,_,h| .ret [_], .outgrown,_,h| .ret (_::_::_), .outgrown,_,h| .cc _, .returned _,_,h| .cc _, .outgrown,_,h=>h.elim
theorem R.KM {B B':Nat->Prop}{w':World}(hb:∀b,qt w' b-> ¬B b-> ¬B' b):∀ {out:R} {e:Ending},out.nC=true->out.is B w' e->out.is B' w' e
 | .ret [], .returned _,_,h=>by obtain⟨arr,rfl,h⟩:=h;exact⟨arr,rfl,h⟩
 | .ret [x], .returned _,hf,h=>by
   simp only[R.nC,D.mq,Bool.and_true]at hf
   exact D.lP (fun b hc hn=>⟨rfl,hb b hc hn⟩) x _ hf h
 | .ret (x::y::l), .returned _,hf,h=>by obtain⟨arr,rfl,h⟩:=h;exact⟨arr,rfl,D.nD (fun b hc hn=>⟨rfl,hb b hc hn⟩) (x::y::l) _ hf h⟩
 | .cc d, .panicked _,hf,h=>by obtain⟨v,rfl,h⟩:=h;exact⟨v,rfl,D.lP (fun b hc hn=>⟨rfl,hb b hc hn⟩) d v hf h⟩
 | .ret [], .panicked _,_,h| .ret [_], .panicked _,_,h| .ret (_::_::_), .panicked _,_,h| .ret [], .outgrown,_,h| .ret [_], .outgrown,_,h| .ret (_::_::_), .outgrown,_,h| .cc _, .returned _,_,h| .cc _, .outgrown,_,h=>h.elim
theorem KN(hH:aF M φ H w){o:Nat->ae}:∀ (vs:List V) (vals:List Value),(∀id∈dI o vs,H.o id=(o id).fz)->V.aP (az M φ H) φ H w vs vals->V.aP (az M φ H) φ H w (vs.map (KH o)) vals
 |[],_,_,h=>h
 |v::vs,_,ho,h=>by
  obtain⟨u,us,rfl,h1,h2⟩:=h
  refine⟨u,us,rfl, ?_,KN hH vs us (fun id aC=>ho id (by simp[dI,aC])) h2⟩
  unfold KH
  split
  ·rename_i x hx
   exact gE hH v x u (fun id aC=>ho id (by simp[dI,hx,aC])) hx h1
  ·exact h1
theorem iA:∀ (vs:List V) (vals:List Value) (o:Nat->ae),V.aP (az M φ H) φ H w vs vals->∀id∈dI o vs,H.us id
 |[],_,_,_,j,hj=>by simp[dI]at hj
 |v::vs,_,o,h,j,hj=>by
  obtain⟨u,us,rfl,h1,h2⟩:=h
  simp only[dI,List.mem_append]at hj
  rcases hj with hj|hj
  ·cases hx:eu o v with
   |none=>simp[hx]at hj
   |some x=>simp only[hx]at hj;exact dC v u h1 j hj
  ·exact iA vs us o h2 j hj
theorem yj(hs:cG M cZ H0 w0 n cx φ s a w){o:Oper}{g:FuncId}{all:List V}{vals:Array Value}(dm:iz n o.dst)(fM:Enters P g->(execOp a.eval o).run P w= .ok (.enter g vals) w)(bI:V.aP (az M φ s.H) φ s.H w all vals.toList)
 (h:cU P g all s.o s.nx (fun v o' nx'=>K ⟨bF s.env o.dst v,o',nx'⟩) (fun v o' nx'=>X v ⟨s.env,o',nx'⟩))
 (hN:∀s' aS a' w',K s'->cG M cZ H0 w0 n cx aS s' a' w'->next a' w')
 (hQ:∀v s' aS w' val,X v s'->cG M cZ H0 w0 n cx aS s' a w'->V.den (az M aS s'.H) aS s'.H w' v val->Q (.panic [{v:=val,recovered:=false}]) a w'):o.uponIn (ew ro) k P a next Q ((execOp a.eval o).run P w):=by
 have fA:=h.2 M φ w vals hs.heap bI
 rw[fM h.1]
 refine⟨fun hd=>by simp[ew]at hd,dE (fA.mono fun e w' ⟨aS,o',nx',v,k1,k2,k3⟩=> ?_)⟩
 cases e with
 |returned val=>exact hN _ _ _ _ k3.2 (mw hs k1 k2 k3.1 dm rfl fun id hu=>hu)
 |panicked ch=>
  obtain⟨val,rfl,k4,k5⟩:=k3
  exact hQ _ _ _ _ val k5 (eQ hs k1 k2 (o':=o') (nx':=nx') rfl fun id hu=>hu) k4
 |outgrown=>exact k3.elim
theorem Ck(hs:cG M cZ H0 w0 n cx φ s a w){o:Oper}{g:FuncId}{all:List V}{vals:Array Value}(dm:iz n o.dst)(fM:Enters P g->(execOp a.eval o).run P w= .ok (.enter g vals) w)(bI:V.aP (az M φ s.H) φ s.H w all vals.toList)
 (h:vl P s g all (fun v o' nx'=>K ⟨bF s.env o.dst v,o',nx'⟩) (fun v o' nx'=>X v ⟨s.env,o',nx'⟩))
 (hN:∀s' aS a' w',K s'->cG M cZ H0 w0 n cx aS s' a' w'->next a' w')
 (hQ:∀v s' aS w' val,X v s'->cG M cZ H0 w0 n cx aS s' a w'->V.den (az M aS s'.H) aS s'.H w' v val->Q (.panic [{v:=val,recovered:=false}]) a w'):o.uponIn (ew ro) k P a next Q ((execOp a.eval o).run P w):=by
 unfold vl at h
 obtain⟨f1,f2,f3,f4,f5⟩:=dH hs.heap (V.bO all) (dw all _ bI)
 have lA:s.H.put (dy s.H.o (V.bO all))=⟨put s.o (dy s.o (V.bO all)),s.H.us⟩:=lR TY
 have nF:=V.bg f2 _ _ bI
 rcases h with⟨ds,out,fk,hP,hK⟩|⟨ds,out,fk,hP,pF,hK⟩|⟨ds,out,fk,hP,hnm,hK⟩|hC|hC
 ·have x7:=dN f1 all ds _ f3 fk nF
  have hM:∀b,az M φ (s.H.put (dy s.H.o (V.bO all))) b->b<w.heap.size:=fun b hb=>hb.elim (f1.Bu b) fun hl=>(f1.ours b hl).2
  have fA:=hP.2 _ w vals hM x7
  rw[fM hP.1]
  refine⟨fun hd=>by simp[ew]at hd,dE (fA.mono fun e w' ⟨hk,ho⟩=> ?_)⟩
  obtain⟨k1,k2⟩:=hY f1 hk
  cases out with
  |ret rs=>
   cases e with
   |returned val=>
    refine hN _ _ _ _ hK (mw hs k1 (f2.trans k2) (lT ho) dm (by rw[lA]) ?_)
    intro id hu;rw[lA]at hu;exact Nat.lt_succ_of_lt hu
   |panicked ch=>cases rs with|nil=>exact ho.elim|cons x l=>cases l<;>exact ho.elim
   |outgrown=>cases rs with|nil=>exact ho.elim|cons x l=>cases l<;>exact ho.elim
  |cc x=>
   cases e with
   |returned val=>exact ho.elim
   |panicked ch=>
    obtain⟨val,rfl,hd⟩:=ho
    have Ai:=eQ hs k1 (f2.trans k2) (o':=put s.o (dy s.o (V.bO all))) (nx':=s.nx+1) (by rw[lA]) (fun id hu=>by rw[lA]at hu;exact Nat.lt_succ_of_lt hu)
    refine hQ _ _ _ _ val hK Ai ?_
    have e1:az M φ (S.H ⟨s.env,put s.o (dy s.o (V.bO all)),s.nx+1⟩)=az M φ (s.H.put (dy s.H.o (V.bO all))):=by rw[lA];rfl
    simp only[V.den]
    rw[e1];exact hd
   |outgrown=>exact ho.elim
 ·have x7:=dN f1 all ds _ f3 fk nF
  have hM:∀b,az M φ (s.H.put (dy s.H.o (V.bO all))) b->b<w.heap.size:=fun b hb=>hb.elim (f1.Bu b) fun hl=>(f1.ours b hl).2
  have fA:=hP.2 _ w vals hM x7
  rw[fM hP.1]
  refine⟨fun hd=>by simp[ew]at hd,dE (fA.mono fun e w' ⟨hk,ho⟩=> ?_)⟩
  obtain⟨k1,k2⟩:=hY hs.heap hk
  have ho:=R.Aj (B':=az M φ s.H) pF ho
  cases out with
  |ret rs=>
   cases e with
   |returned val=>
    exact hN _ _ _ _ hK (mw hs k1 k2 (lT ho) dm rfl fun id hu=>Nat.lt_succ_of_lt hu)
   |panicked ch=>cases rs with|nil=>exact ho.elim|cons x l=>cases l<;>exact ho.elim
   |outgrown=>cases rs with|nil=>exact ho.elim|cons x l=>cases l<;>exact ho.elim
  |cc x=>
   cases e with
   |returned val=>exact ho.elim
   |panicked ch=>
    obtain⟨val,rfl,hd⟩:=ho
    exact hQ _ _ _ _ val hK (eQ hs k1 k2 (o':=s.o) (nx':=s.nx+1) rfl fun id hu=>Nat.lt_succ_of_lt hu) hd
   |outgrown=>exact ho.elim
 ·obtain⟨a1,a2,a3,a4,a5⟩:=dH hs.heap ((V.bO all).filter fun id=>(s.o id).lQ) (fun id aC=>dw all _ bI id (List.mem_filter.1 aC).1)
  have Cl:s.H.put (dy s.H.o ((V.bO all).filter fun id=>(s.o id).lQ))=⟨put s.o (sc s.o (V.bO all)),s.H.us⟩:=by
   rw[OJ]
   exact lR (by rw[ux];exact fun id aC=>dw all _ bI id (List.mem_filter.1 aC).1)
  have x7:=dN f1 all ds _ f3 fk nF
  have hM:∀b,az M φ (s.H.put (dy s.H.o (V.bO all))) b->b<w.heap.size:=fun b hb=>hb.elim (f1.Bu b) fun hl=>(f1.ours b hl).2
  have fA:=hP.2 _ w vals hM x7
  rw[fM hP.1]
  refine⟨fun hd=>by simp[ew]at hd,dE (fA.mono fun e w' ⟨hk,ho⟩=> ?_)⟩
  obtain⟨k1,k2⟩:=hY a1 hk
  have lU:∀b,qt w' b-> ¬az M φ (s.H.put (dy s.H.o (V.bO all))) b-> ¬az M φ (s.H.put (dy s.H.o ((V.bO all).filter fun id=>(s.o id).lQ))) b:=by
   intro b hc hn hm
   rcases hm with hM|⟨id,hl,hb⟩
   ·exact hn (.inl hM)
   ·by_cases aC:id∈V.bO all
    ·cases hx:s.H.o id with
     |arr ep ty sz es=>
      rw[a3 id (List.mem_filter.2 ⟨aC,by show(s.H.o id).lQ=true;rw[hx];rfl⟩),hx]at hl
      cases hl
     |map kt vt l=>
      have nm:id∉(V.bO all).filter fun id=>(s.o id).lQ:=fun h=>by
       have h2:(s.H.o id).lQ=true:=(List.mem_filter.1 h).2
       rw[hx]at h2;cases h2
      have bA:=k1.ok id
      unfold bn at bA
      rw[a4 id nm,hx]at bA
      obtain⟨b',es,clock,g1,g2,_⟩:=bA
      rw[g1]at hb
      injection hb with hb
      subst hb
      obtain⟨cs,ty,fz,hc⟩:=hc
      rw[g2]at hc
      cases hc
     |_=>
      have nm:id∉(V.bO all).filter fun id=>(s.o id).lQ:=fun h=>by
       have h2:(s.H.o id).lQ=true:=(List.mem_filter.1 h).2
       rw[hx]at h2;cases h2
      refine hn (.inr ⟨id, ?_,hb⟩)
      rw[a4 id nm,hx]at hl
      rw[f3 id aC,hx]
      exact hl
    ·have nm:id∉(V.bO all).filter fun id=>(s.o id).lQ:=fun h=>aC (List.mem_filter.1 h).1
     refine hn (.inr ⟨id, ?_,hb⟩)
     rw[a4 id nm]at hl
     rw[f4 id aC]
     exact hl
  have ho:=R.KM (w':=w') (B':=az M φ (s.H.put (dy s.H.o ((V.bO all).filter fun id=>(s.o id).lQ)))) lU hnm ho
  cases out with
  |ret rs=>
   cases e with
   |returned val=>
    refine hN _ _ _ _ hK (mw hs k1 (a2.trans k2) (lT ho) dm (by rw[Cl]) ?_)
    intro id hu;rw[Cl]at hu;exact Nat.lt_succ_of_lt hu
   |panicked ch=>cases rs with|nil=>exact ho.elim|cons x l=>cases l<;>exact ho.elim
   |outgrown=>cases rs with|nil=>exact ho.elim|cons x l=>cases l<;>exact ho.elim
  |cc x=>
   cases e with
   |returned val=>exact ho.elim
   |panicked ch=>
    obtain⟨val,rfl,hd⟩:=ho
    have Ai:=eQ hs k1 (a2.trans k2) (o':=put s.o (sc s.o (V.bO all))) (nx':=s.nx+1) (by rw[Cl]) (fun id hu=>by rw[Cl]at hu;exact Nat.lt_succ_of_lt hu)
    refine hQ _ _ _ _ val hK Ai ?_
    have e1:az M φ (S.H ⟨s.env,put s.o (sc s.o (V.bO all)),s.nx+1⟩)=az M φ (s.H.put (dy s.H.o ((V.bO all).filter fun id=>(s.o id).lQ))):=by rw[Cl];rfl
    simp only[V.den]
    rw[e1];exact hd
   |outgrown=>exact ho.elim
 ·exact yj hs dm fM bI hC hN hQ
 ·obtain⟨f1,f2,f3,f4,f5⟩:=dH hs.heap (dI s.o all) (iA all _ s.o bI)
  have lA:s.H.put (dy s.H.o (dI s.o all))=hp (put s.o (dy s.o (dI s.o all))) s.nx:=lR (by rw[ux];exact iA all _ s.o bI)
  have nF:=KN f1 all _ f3 (V.bg f2 _ _ bI)
  rw[lA]at f1 f2 nF
  exact yj (s:=⟨s.env,put s.o (dy s.o (dI s.o all)),s.nx⟩) (eQ hs f1 f2 rfl fun id hu=>hu) dm fM nF hC hN hQ
theorem OK(hs:cG M cZ H0 w0 n cx φ s a w){o:Oper}{c:Call}{f:Operand}(ey:o.op= .call c)(hc:c.callee= .value f)(dm:iz n o.dst)
 (h:Ci P s (s.ev f) (c.args.toList.map s.ev) (fun v o' nx'=>K ⟨bF s.env o.dst v,o',nx'⟩) (fun v o' nx'=>X v ⟨s.env,o',nx'⟩))
 (hN:∀s' aS a' w',K s'->cG M cZ H0 w0 n cx aS s' a' w'->next a' w')
 (hQ:∀v s' aS w' val,X v s'->cG M cZ H0 w0 n cx aS s' a w'->V.den (az M aS s'.H) aS s'.H w' v val->Q (.panic [{v:=val,recovered:=false}]) a w'):o.wpIn (ew ro) k P a w next Q:=by
 refine la (fun c' qn=>by rw[ey]at qn;cases qn) ?_
 have hf:=nv (M:=M) (φ:=φ) (H:=s.H) (w:=w) s a hs.env f
 have eg:=kW (M:=M) (φ:=φ) (H:=s.H) (w:=w) s a hs.env c.args.toList
 unfold Ci at h
 split at h
 ·rename_i g first cap xw
  rw[xw]at hf
  obtain⟨fa,ca,Uu,B7,Zv⟩:=hf
  have bI:V.aP (az M φ s.H) φ s.H w (first++c.args.toList.map s.ev++cap) (fa++c.args.map a.eval++ca).toList:=by
   rw[Array.toList_append,Array.toList_append,Array.toList_map]
   exact V.my B7 eg Zv
  generalize first++c.args.toList.map s.ev++cap=all at h bI
  generalize pk:fa++c.args.map a.eval++ca=vals at bI
  have fM:Enters P g->(execOp a.eval o).run P w= .ok (.enter g vals) w:=by
   intro he
   have:=lS (w:=w) he (fa++c.args.map a.eval++ca)
   rw[pk]at this
   simp[execOp,ey,resolve,hc,Uu,Deferred.ofValue,invoke,this,pk]
  exact Ck hs dm fM bI h hN hQ
 ·rename_i id xw
  rw[xw]at hf
  obtain⟨_,fQ,hp'⟩:=hf
  obtain⟨ck,hR⟩:=h
  obtain⟨b,fj,Uu⟩:=hp' ck
  obtain⟨fn,tmps,assign,body,h1,h2⟩:=hR M φ w (c.args.map a.eval) b hs.heap (by rw[Array.toList_map];exact eg) fj
  have fM:(execOp a.eval o).run P w= .ok (.round b fn tmps assign body) w:=by
   simp[execOp,ey,resolve,hc,Uu,Deferred.ofValue,invoke,h1]
  rw[fM]
  refine⟨fun hd=>by simp[ew]at hd,RoundIn.mono (h2 (k - 1)) fun e w' ⟨aS,o',nx',v,k1,k2,k3⟩=> ?_⟩
  cases e with
  |returned val=>exact hN _ _ _ _ k3.2 (mw hs k1 k2 k3.1 dm rfl fun id hu=>hu)
  |panicked ch=>
   obtain⟨val,rfl,k4,k5⟩:=k3
   exact hQ _ _ _ _ val k5 (eQ hs k1 k2 (o':=o') (nx':=nx') rfl fun id hu=>hu) k4
  |outgrown=>exact k3.elim
 ·exact h.elim
theorem H5(hs:cG M cZ H0 w0 n cx φ s a w){o:Oper}{c:Call}{r:Operand}{m:String}{g:FuncId}{y:V}(ey:o.op= .call c)(hc:c.callee= .invoke r m)(dm:iz n o.dst)(hr:vm P m (s.ev r)=some (g,y))
 (h:vl P s g (y::c.args.toList.map s.ev) (fun v o' nx'=>K ⟨bF s.env o.dst v,o',nx'⟩) (fun v o' nx'=>X v ⟨s.env,o',nx'⟩))
 (hN:∀s' aS a' w',K s'->cG M cZ H0 w0 n cx aS s' a' w'->next a' w')
 (hQ:∀v s' aS w' val,X v s'->cG M cZ H0 w0 n cx aS s' a w'->V.den (az M aS s'.H) aS s'.H w' v val->Q (.panic [{v:=val,recovered:=false}]) a w'):o.wpIn (ew ro) k P a w next Q:=by
 refine la (fun c' qn=>by rw[ey]at qn;cases qn) ?_
 have hf:=nv (M:=M) (φ:=φ) (H:=s.H) (w:=w) s a hs.env r
 have eg:=kW (M:=M) (φ:=φ) (H:=s.H) (w:=w) s a hs.env c.args.toList
 unfold vm at hr
 split at hr
 ·rename_i t d hx
  rw[hx]at hf
  obtain⟨val,hv,hd⟩:=hf
  split at hr
  ·rename_i ti hti
   split at hr
   ·rename_i mr uB
    split at hr
    ·rename_i f H6
     split at hr
     ·rename_i QZ
      injection hr with hr
      injection hr with h1 h2
      subst h1;subst h2
      refine Ck (vals:=#[val]++c.args.map a.eval) hs dm ?_ ?_ h hN hQ
      ·intro he
       have fM:=lS (w:=w) he (#[val]++c.args.map a.eval)
       have hpa:mr.path=#[]:=Array.isEmpty_iff.1 QZ.1
       have hu:∃u,P.underlying t=some u/\∀e,u≠ .pointer e:=by
        have:=QZ.2
        unfold QY at this
        split at this
        ·cases this
        ·rename_i u iQ hu;exact⟨u,hu,fun e he=>iQ e he⟩
        ·cases this
       obtain⟨u,hu,Q0⟩:=hu
       have hm:(method (P.types.size+Made.depth) t val m).run P w= .ok (f,val) w:=by
        have:P.types.size+Made.depth=(P.types.size+Made.depth - 1)+1:=by simp[Made.depth]
        rw[this]
        cases u<;>first|exact absurd rfl (Q0 _)|simp[method,typeInfo,hti,uB,hpa,H6,follow,receiverAt,run_underlying hu,_root_.Go.Place.get]
       have h0:(#[Value.iface t val]++Array.map a.eval c.args)[0]? =some (.iface t val):=by
        rw[Array.getElem?_append_left (by simp)];rfl
       have h1:(Array.map a.eval c.args).extract 0 c.args.size=Array.map a.eval c.args:=by
        rw[show c.args.size=(Array.map a.eval c.args).size from by simp,Array.extract_size]
       simp[execOp,ey,resolve,hc,invoke,callMethod,hv,h0,h1,hm,fM]
      ·simp only[Array.toList_append,Array.toList_map]
       exact⟨val,_,rfl,hd,eg⟩
     ·cases hr
    ·cases hr
   ·cases hr
  ·cases hr
 ·cases hr
theorem yl(hs:cG M cZ H0 w0 n cx φ s a w){o:Oper}(h:opW P n s o X K)
 (hN:∀s' aS a' w',K s'->cG M cZ H0 w0 n cx aS s' a' w'->next a' w')
 (hQ:∀v s' aS w' val,X v s'->cG M cZ H0 w0 n cx aS s' a w'->V.den (az M aS s'.H) aS s'.H w' v val->Q (.panic [{v:=val,recovered:=false}]) a w'):o.wpIn (ew ro) k P a w next Q:=by
 obtain⟨dm,h⟩:=h
 split at h
 ·rename_i c ey
  split at h
  ·rename_i f hc
   exact OK hs ey hc dm h hN hQ
  ·rename_i r m hc
   split at h
   ·rename_i g y hr;exact H5 hs ey hc dm hr h hN hQ
   ·exact h.elim
  ·exact KL hs rfl dm h hN
 ·rename_i x ey
  have hx:=nv (M:=M) (φ:=φ) (H:=s.H) (w:=w) s a hs.env x
  have cc:∀ (t:TypeId) (u:Value),a.eval x= .iface t u->Q (.panic [{v:= .iface t u,recovered:=false}]) a w->o.wpIn (ew ro) k P a w next Q:=by
   intro t u hu hq
   refine la (fun c hc=>by rw[ey]at hc;cases hc) ?_
   have hr:(execOp a.eval o).run P w= .halt (.panic (.iface t u)) w:=by simp[execOp,ey,hu,Instr.panic]
   rw[hr];exact hq
  split at h
  ·rename_i t y hv
   rw[hv]at hx
   obtain⟨u,hu,hd⟩:=hx
   exact cc t u hu (hQ _ s φ w (.iface t u) h hs ⟨u,rfl,hd⟩)
  ·rename_i t y hv
   rw[hv]at hx
   obtain⟨u,hu,hd⟩:=hx
   exact cc t u hu (hQ _ s φ w (.iface t u) h hs ⟨u,rfl,hd⟩)
  ·exact h.elim
 ·exact KL hs rfl dm h hN
end
end Go.Proofs.YtonbelhklnmjnaaGreat
namespace Go
def Code.ub (P:Program)(ro:Option Nat)(c:Code)(Q:Exit->Act->World->Prop)(a:Act)(w:World):Prop:=
 ∀ (b:Frame) (k:List Item) (cs:List Frame),b.roundOf=ro->b.fn<P.funcs.size->
   ∃e a' w',Q e a' w'/\ArrivesIn (Machine.fenced P (Proofs.YtonbelhklnmjnaaGreat.ew ro)) P (lone (b.atR a (.code c::k)) cs w) b k cs e a' w'
end Go
namespace Go.Proofs.YtonbelhklnmjnaaGreat
instance:LawfulMonad Sem:=LawfulMonad.mk' Sem (id_map:=fun x=>Sem.bind_pure' x) (pure_bind:=fun _ _=>rfl) (bind_assoc:=fun x f g=>Sem.bind_assoc' x f g)
section
variable {P:Program}{M:Nat->Prop}{φ:Place}{H:Hp}{w w':World}{cZ:Place}{H0:Hp}{w0:World}{n b:Nat}{s:S}{a:Act}{cx:Cx}{ro:Option Nat}{k:Nat}
theorem qO(hs:cG M cZ H0 w0 n cx φ s a w){ops:Array Oper}{o:Oper}{A B:Prop}(h:Ag s ops o.guard A B):
 (Region.wanted o (yielded ops a.tmps)=true->A)/\(Region.wanted o (yielded ops a.tmps)=false->B):=by
 unfold Ag at h
 unfold Region.wanted
 split at h
 ·rename_i hg;simp only[hg];exact⟨fun _=>h,fun h=>by cases h⟩
 ·rename_i j want hg
  simp only[hg]
  unfold ta at h
  unfold yielded
  split at h
  ·rename_i d hd
   simp only[hd,Option.bind_some]
   have eP:=hs.env d
   split at h
   ·rename_i c hv
    rw[hv]at eP
    simp only[V.den,D.den]at eP
    have:a.tmps[d]? =some (.bool c):=by
     rw[Array.getD_eq_getD_getElem?]at eP
     cases hx:a.tmps[d]? with
     |none=>rw[hx]at eP;simp[undef]at eP
     |some x=>rw[hx]at eP;simp at eP;rw[eP]
    simp only[this]
    by_cases hc:c=want
    ·subst hc;exact⟨fun _=>h.1 rfl,fun h=>by simp at h⟩
    ·exact⟨fun h'=>absurd (by simpa using h') hc,fun _=>h.2 hc⟩
   ·rename_i hv
    rw[hv]at eP
    obtain⟨arr,cV,hn⟩:=eP
    simp only[V.aP]at hn
    have:∀c,a.tmps[d]? ≠some (.bool c):=by
     intro c hx
     rw[Array.getD_eq_getD_getElem?,hx]at cV
     simp at cV
    cases hx:a.tmps[d]? with
    |none=>exact⟨fun h=>by simp at h,fun _=>h⟩
    |some x=>cases x<;>first|(exact absurd hx (this _))|(exact⟨fun h=>by simp at h,fun _=>h⟩)
   ·exact h.elim
  ·rename_i hd
   simp only[hd,Option.bind_none]
   exact⟨fun h=>by simp at h,fun _=>h⟩
theorem Cm(hs:cG M cZ H0 w0 n cx φ s a w){dst:Option Tmp}(dm:iz n dst):cG M cZ H0 w0 n cx φ ⟨bF s.env dst (.cA []),s.o,s.nx+1⟩ (a.put dst undef) w:=
 mw (v:= .cA []) (val:=undef) hs hs.heap (Trans.refl _ _ _) ⟨#[],rfl,rfl⟩ dm rfl fun _ hu=>Nat.lt_succ_of_lt hu
theorem pM{ops:Array Oper}{X:V->S->Prop}{K:S->Prop}{Q:Exit->Act->World->Prop}
 (hK:∀s φ a w,K s->cG M cZ H0 w0 n cx φ s a w->Q .normal a w)
 (hQ:∀v s' aS a w' val,X v s'->cG M cZ H0 w0 n cx aS s' a w'->V.den (az M aS s'.H) aS s'.H w' v val->Q (.panic [{v:=val,recovered:=false}]) a w'):
 ∀ (l:List Oper) (s:S) (φ:Place) (a:Act) (w:World),Ah P n ops X K l s->cG M cZ H0 w0 n cx φ s a w->wpListIn (ew ro) k P ops Q l a w
 |[],s,φ,a,w,h,hs=>hK s φ a w h hs
 |o::l,s,φ,a,w,h,hs=>by
  obtain⟨h1,h2⟩:=qO hs h
  unfold wpListIn
  split
  ·rename_i hw
   exact yl hs (h1 hw) (fun s' aS a' w' hk iS=>pM hK hQ l s' aS a' w' hk iS) (fun v s' aS w' val hx iS hd=>hQ v s' aS a w' val hx iS hd)
  ·rename_i hw
   obtain⟨dm,h3⟩:=h2 (by simpa using hw)
   exact⟨fun _ _=>trivial,pM hK hQ l _ _ _ _ h3 (Cm hs dm)⟩
def F7(M:Nat->Prop)(cZ:Place)(H0:Hp)(w0:World)(n:Nat)(cx:Cx)(Q:fG->S->Prop)(e:Exit)(a:Act)(w:World):Prop:=
 ∃x s φ,Q x s/\cG M cZ H0 w0 n cx φ s a w/\match e,x with
  | .normal, .normal=>True
  | .exit i, .exit j=>i=j
  | .ret, .ret=>True
  | .panic ch, .cc v=>∃val,ch=[{v:=val,recovered:=false}]/\V.den (az M φ s.H) φ s.H w v val
  |_,_=>False
section
variable {Q:Exit->Act->World->Prop}
theorem iB{m:Nat}:(ew ro).room m:=fun d hd=>by simp[ew]at hd
theorem pN{c:Code}(h:c.wpIn (ew ro) k P Q a w):c.ub P ro Q a w:=fun b k cs uB _=>h b k cs uB trivial iB
theorem iC{c:Code}{Q':Exit->Act->World->Prop}(h:c.ub P ro Q a w)(hq:∀e a w,Q e a w->Q' e a w):c.ub P ro Q' a w:=
 fun b k cs uB hb=>let⟨e,a',w',q,r⟩:=h b k cs uB hb;⟨e,a',w',hq _ _ _ q,r⟩
theorem F8(h:Q .ret a w):Code.ret.ub P ro Q a w:=pN (k:=0) (wpIn_ret h)
theorem Cn{id:Nat}(h:Q (.exit id) a w):(Code.exit id).ub P ro Q a w:=pN (k:=0) (wpIn_exit h)
theorem Ak{x y:Code}(h:x.ub P ro (Exit.then (y.ub P ro Q) Q) a w):(Code.seq x y).ub P ro Q a w:=by
 intro b k cs uB hb
 have h0:(lone (b.atR a (.code (.seq x y)::k)) cs w).fenced P (ew ro):=fenced_calm (n:=0) trivial iB rfl
 obtain⟨e,jV,gP,hq,cV⟩:=h b (.code y::k) cs uB hb
 cases e with
 |normal=>
  obtain⟨Uv,Zw,sy,qP,lb⟩:=hq b k cs uB hb
  exact⟨Uv,Zw,sy,qP, .of_steps (.head h0 stepR_seq cV) lb⟩
 |exit id=>exact⟨_,jV,gP,hq, .of_steps (.one h0 stepR_seq) (.pass (x:= .code y) rfl (fun _ _=> .inl au) cV)⟩
 |goto l=>exact⟨_,jV,gP,hq, .of_steps (.one h0 stepR_seq) (.pass (x:= .code y) rfl (fun _ _=> .inl au) cV)⟩
 |ret=>exact⟨_,jV,gP,hq, .of_steps (.one h0 stepR_seq) (.pass (x:= .code y) rfl (fun _ _=> .inl au) cV)⟩
 |panic ch=>exact⟨_,jV,gP,hq, .of_steps (.one h0 stepR_seq) (.pass (x:= .code y) rfl (fun _ _=> .inl au) cV)⟩
 |outgrown=>exact⟨_,jV,gP,hq, .of_steps (.one h0 stepR_seq) (.pass (x:= .code y) rfl (fun _ _=> .inl au) cV)⟩
theorem qQ{c:Operand}{x y:Code}{t:Bool}(hc:a.eval c= .bool t)(h:(if t then x else y).ub P ro Q a w):(Code.cond c x y).ub P ro Q a w:=
 fun b k cs uB hb=>let⟨e,a',w',q,r⟩:=h b k cs uB hb;⟨e,a',w',q, .of_steps (.one (fenced_calm (n:=0) trivial iB rfl) (stepR_cond hc)) r⟩
theorem H7{id:Nat}{c:Code}(h:c.ub P ro (Exit.inBlock id Q) a w):(Code.block id c).ub P ro Q a w:=by
 intro b k cs uB hb
 have h0:(lone (b.atR a (.code (.block id c)::k)) cs w).fenced P (ew ro):=fenced_calm (n:=0) trivial iB rfl
 obtain⟨e,jV,gP,hq,cV⟩:=h b (.inBlock id::k) cs uB hb
 cases e with
 |normal=>exact⟨.normal,jV,gP,hq, .head h0 stepR_block (StepsIn.trans cV (.one (fenced_calm (n:=0) trivial iB rfl) stepR_inBlock))⟩
 |exit Eg=>
  by_cases aC:Eg=id
  ·simp only[Exit.inBlock,aC,if_true]at hq
   exact⟨.normal,jV,gP,hq, .head h0 stepR_block (cV.1 k (by simp[exitTo,aC]))⟩
  ·simp only[Exit.inBlock,aC,if_false]at hq
   have this:(id==Eg)=false:=by simp;exact fun h=>aC h.symm
   have hx:exitTo Eg (.inBlock id::k)=exitTo Eg k:=by simp[exitTo,this]
   exact⟨.exit Eg,jV,gP,hq,fun k' hk=> .head h0 stepR_block (cV.1 k' HA),
    fun Ae hk=>let⟨k₁,h1,h2⟩:=cV.2 Ae HA;⟨k₁,h1, .head h0 stepR_block h2⟩⟩
 |goto l=>
  have hx:gotoIn l (.inBlock id::k)=gotoIn l k:=by simp[gotoIn]
  exact⟨_,jV,gP,hq,fun k' hk=> .head h0 stepR_block (cV.1 k' HA),
   fun Ae hk=>let⟨k₁,h1,h2⟩:=cV.2 Ae HA;⟨k₁,h1, .head h0 stepR_block h2⟩⟩
 |ret=>exact⟨_,jV,gP,hq, .of_steps (.one h0 stepR_block) cV⟩
 |panic ch=>exact⟨_,jV,gP,hq, .of_steps (.one h0 stepR_block) cV⟩
 |outgrown=>exact⟨_,jV,gP,hq, .of_steps (.one h0 stepR_block) cV⟩
theorem hZ{b:Frame}{k:List Item}{cs:List Frame}{c:Code}:step P (lone (b.atR a (.code (.scope c)::k)) cs w)= .next (lone (b.atR a (.code c:: .inScope c::k)) cs w):=
 step_lone_go (by simp[stepG,stepG.exec,Frame.atR])
theorem xG{b:Frame}{k:List Item}{cs:List Frame}{c:Code}:step P (lone (b.atR a (.inScope c::k)) cs w)= .next (lone (b.atR a k) cs w):=
 step_lone_go (by simp[stepG,stepG.exec,Frame.atR])
theorem ym{c:Code}(h:c.ub P ro Q a w)(hg:∀l a w, ¬Q (.goto l) a w):(Code.scope c).ub P ro Q a w:=by
 intro b k cs uB hb
 have h0:(lone (b.atR a (.code (.scope c)::k)) cs w).fenced P (ew ro):=fenced_calm (n:=0) trivial iB rfl
 obtain⟨e,jV,gP,hq,cV⟩:=h b (.inScope c::k) cs uB hb
 cases e with
 |normal=>exact⟨.normal,jV,gP,hq, .head h0 hZ (StepsIn.trans cV (.one (fenced_calm (n:=0) trivial iB rfl) xG))⟩
 |exit Eg=>
  have hx:exitTo Eg (.inScope c::k)=exitTo Eg k:=by simp[exitTo]
  exact⟨.exit Eg,jV,gP,hq,fun k' hk=> .head h0 hZ (cV.1 k' HA),
   fun Ae hk=>let⟨k₁,h1,h2⟩:=cV.2 Ae HA;⟨k₁,h1, .head h0 hZ h2⟩⟩
 |goto l=>exact(hg _ _ _ hq).elim
 |ret=>exact⟨_,jV,gP,hq, .of_steps (.one h0 hZ) cV⟩
 |panic ch=>exact⟨_,jV,gP,hq, .of_steps (.one h0 hZ) cV⟩
 |outgrown=>exact⟨_,jV,gP,hq, .of_steps (.one h0 hZ) cV⟩
def vr(P:Program)(l:Nat)(Q:Exit->Act->World->Prop)(a':Act):Ending->World->Prop
 | .returned _,EH=>∃jump uc,(Instr.endLoop l).run P EH= .ok jump uc/\(match jump with|none=>Q .normal a' uc|some c=>c.ub P none Q a' uc)
 | .panicked chain,EH=>Q (.panic chain) a' EH
 | .outgrown,_=>LetsOut Q
theorem xH{g:Operand}{ps:Array Tmp}{assign body:Code}
 (h:∀fn,fn<P.funcs.size->∃ (l:Nat) (mark:List Deferred) (gP:World) (d:Deferred) (yp:World) (f:FuncId) (args:Array Value) (sy:World),
  (Instr.enterLoop fn a.tmps ps assign body (ew none).round).run P w= .ok (l,mark) gP/\(resolve a.eval (rangeCall g l) 0).run P gP= .ok d yp/\
  (invoke d.target d.args).run P yp= .ok (.enter f args) sy/\CallsIn (ew none) 0 P f args sy (vr P l Q {a with defers:=mark++a.defers})):
 (Code.rangeFunc g ps assign body).ub P none Q a w:=by
 intro b k cs uB hb
 obtain⟨l,mark,gP,d,yp,f,args,sy,he,Co,hinv,hF,fA⟩:=h b.fn hb
 rw[show(ew none).round=b.roundOf from uB.symm]at he
 have calm:∀ (m:Machine),m.fenced P (ew none)↔m.fenced P Fence.wide:=fun m=>Iff.rfl
 have h0:(lone (b.atR a (.code (.rangeFunc g ps assign body)::k)) cs w).fenced P (ew none):=(calm _).2 (fenced_wide P _)
 have mz:=stepR_rangeFunc (P:=P) (b:=b) (a:=a) (k:=k) (cs:=cs) (w:=w) he Co hinv
 obtain⟨e,EH,fr,hR,EI,H6,KO⟩:=fA (b.atR {a with defers:=mark++a.defers} (.inRangeFunc l::k)::cs) iB
 cases e with
 |outgrown=>
  obtain⟨adR,adS,hq⟩:=hR
  exact⟨.outgrown,adR,adS,hq, .inr (Outgrown.of_steps (.one mz) EI)⟩
 |returned v=>
  obtain⟨jump,uc,cO,hj⟩:=hR
  have Q1:StepsIn (Machine.fenced P (ew none)) P (lone (b.atR a (.code (.rangeFunc g ps assign body)::k)) cs w) (lone (b.atR {a with defers:=mark++a.defers} ((jump.map Item.code).toList++k)) cs uc):=by
   refine .head h0 mz (StepsIn.trans EI (.head ((calm _).2 (fenced_wide P _)) ?_ (.one ((calm _).2 (fenced_wide P _)) (stepR_endRangeFunc cO))))
   rw[<- finish_atR_inRangeFunc l v];exact step_leave_returned KO
  cases jump with
  |none=>exact⟨.normal,_,uc,hj,Q1⟩
  |some c=>
   obtain⟨e',a'',adT,hq,cV⟩:=hj b k cs uB hb
   exact⟨e',a'',adT,hq, .of_steps Q1 cV⟩
 |panicked chain=>
  refine⟨.panic chain,_,EH,hR, .inRangeFunc l::k, .head h0 mz (StepsIn.trans EI (.one ((calm _).2 (fenced_wide P _)) ?_))⟩
  rw[<- Frame.raise_atR];exact step_leave_panicked KO
end
theorem yq(hH:aF M φ H w){id l:Nat}(fQ:H.us id){nf m:Nat}{env:List V}{ps:List Nat}{iZ eN:IC}{st st':LoopState}{pd pd':Option jS}(ho:H.o id= .loop nf m env ps iZ eN st pd)(fj:φ id= .pointer (some ⟨l,0,none⟩)):
 ∃r,w.heap[l]? =some (.loop r)/\r.state=st/\r.pending=pd.map jS.code/\
  aF M φ (H.put [(id, .loop nf m env ps iZ eN st' pd')]) {w with heap:=w.heap.setIfInBounds l (.loop {r with state:=st',pending:=pd'.map jS.code})}/\
  Trans φ H w φ (H.put [(id, .loop nf m env ps iZ eN st' pd')]) {w with heap:=w.heap.setIfInBounds l (.loop {r with state:=st',pending:=pd'.map jS.code})}:=by
 have bA:=hH.ok id
 simp only[bn,ho]at bA
 obtain⟨b,r,h1,h2,h0,h3,h4,h5,h6,h7,h8,h9⟩:=bA
 rw[fj]at h1;simp at h1;subst h1
 refine⟨r,h2,h3,h4, ?_⟩
 have Ky:eO (· =l) w {w with heap:=w.heap.setIfInBounds l (.loop {r with state:=st',pending:=pd'.map jS.code})}:=
  ⟨rfl,rfl,rfl,au,fun j _ hj=>(MapKept.heap_set h2).2 j hj⟩
 have xi:(H.o id).live=true:=by rw[ho];rfl
 have Ee:eT (φ id)=some l:=by rw[fj];rfl
 have ht:=fu (w:=w) (w':={w with heap:=w.heap.setIfInBounds l (.loop {r with state:=st',pending:=pd'.map jS.code})}) fQ xi Ee Ky (.loop nf m env ps iZ eN st' pd') fi fi
 refine⟨ja hH fQ xi Ee Ky _ fi fi ?_,ht⟩
 unfold bn
 simp only[bX,aW,if_true]
 exact⟨l,_,fj,(MapKept.heap_set h2).1,h0,rfl,rfl,h5,h6,h7,h8,fun i=>V.aX ht _ _ (h9 i)⟩
theorem jJ{l:Nat}{r:Loop}(o:Obj)(hb:w.heap[l]? =some (.loop r)):(setObj l o).run P w= .ok () {w with heap:=w.heap.setIfInBounds l o}:=by
 simp[setObj,Sem.run,hb]
theorem lg{l:Nat}{r:Loop}(hb:w.heap[l]? =some (.loop r)):(Instr.getLoop l).run P w= .ok r w:=by
 simp[Instr.getLoop,getObj,Sem.run,hb,Result.andThen]
end
def oW(Q:fG->S->Prop)(pd:Option jS)(s:S):Prop:=
 match pd with
 |none=>Q .normal s
 |some .ret=>Q .ret s
 |some (.exit id)=>Q (.exit id) s
def Cp(P:Program)(n:Nat)(g:V)(ps:List Nat)(iZ eN:IC)(Q:fG->S->Prop)(s:S):Prop:=
 ∃env,(∀i,bz env i= .aa\/bz env i=s.env i)/\
  match g with
  | .func (.func f) first cap=>nE P f (first++[.j6 s.nx]++cap) (aK s.o s.nx (.loop P.funcs.size n env ps iZ eN .ready none)) (s.nx+1)
    (fun _ o' nx'=>∃nf m e p c d st pd,o' s.nx= .loop nf m e p c d st pd/\st≠ .busy/\oW Q pd ⟨s.env,aK o' s.nx (.loop nf m e p c d .exhausted pd),nx'⟩)
    (fun v o' nx'=>Q (.cc v) ⟨s.env,o',nx'⟩)
  |_=>False
def Zx(P:Program)(n b:Nat)(g:Operand)(ps:List Nat)(iZ eN:IC)(Q:fG->S->Prop)(s:S):Prop:=∃s',(s'=s\/bE b s s')/\Cp P n (s'.ev g) ps iZ eN Q s'
def jR(P:Program)(n b:Nat)(rd:Bool):Code->(fG->S->Prop)->S->Prop
 | .skip,Q,s=>Q .normal s
 | .label _,Q,s=>Q .normal s
 | .scope x,Q,s=>jR P n b rd x Q s
 | .region _ ops false,Q,s=>Ah P n ops (fun v s=>Q (.cc v) s) (Q .normal) ops.toList s
 | .region id ops true,Q,s=>∀M cZ H0 w0 cx φ a w ro k,cG M cZ H0 w0 n cx φ s a w->(Code.region id ops true).wpIn (ew ro) k P (F7 M cZ H0 w0 n cx Q) a w
 | .seq x y,Q,s=>jR P n b rd x (qN (jR P n b rd y Q) Q) s
 | .cond c x y,Q,s=>match s.ev c with
   | .d (.bool t)=>(t=true->jR P n b rd x Q s)/\(t=false->jR P n b rd y Q s)
   | .fm=>jR P n b rd x Q s/\jR P n b rd y Q s
   |_=>False
 | .block id x,Q,s=>jR P n b rd x (fY id Q) s
 | .loop x,Q,s=>∃ (J:Nat->S->Prop),(∃m s1,bE b s s1/\J m s1)/\∀m s0,J m s0->jR P n b rd x (fun e s=>match e with| .normal=>∃m' s1,m'<m/\bE b s s1/\J m' s1|e=>Q e s) s0
 | .exit id,Q,s=>Q (.exit id) s
 | .ret,Q,s=>Q .ret s
 | .rangeFunc g ps x y,Q,s=>rd=false/\Zx P n b g ps.toList (low n x) (low n y) Q s
 |_,_,_=>False
section
variable {P:Program}{M:Nat->Prop}{φ:Place}{H:Hp}{w w':World}{cZ:Place}{H0:Hp}{w0:World}{n b:Nat}{s:S}{a:Act}{cx:Cx}{ro:Option Nat}{k:Nat}
theorem EJ(hb:∀id,H0.us id->id<b)(hs:cG M cZ H0 w0 n cx φ s a w){s':S}(h:bE b s s'):∃aS,cG M cZ H0 w0 n cx aS s' a w:=by
 obtain⟨aS,h1,h2,h3,h4,h5,h6⟩:=h M φ w (fun i=>a.tmps.getD i undef) hs.heap hs.env
 refine⟨aS,h1,⟨hs.tr.cJ,fun k hk=>hs.tr.grow k (h3 k hk),⟨fun id hu=>Nat.lt_of_lt_of_le (hb id hu) h4,fun id hu hr=> ?_,fun id e' hu he=> ?_⟩⟩,hs.size, ?_,h2⟩
 ·obtain⟨g1,g2⟩:=h5 id (hb id hu) hr
  obtain⟨g3,g4⟩:=hs.tr.rel.row id hu g1
  exact⟨g3,g2.trans g4⟩
 ·obtain⟨e,g1,g2,g3⟩:=h6 id e' (hb id hu) he
  obtain⟨e0,k1,k2,k3⟩:=hs.tr.rel.ep id e hu g1
  refine⟨e0,k1,Nat.le_trans k2 g2,fun heq=> ?_⟩
  have a1:e0=e:=ad
  have a2:e=e':=ad
  exact(g3 a2).trans (k3 a1)
 ·obtain⟨ms,g1,g2,g3,g4⟩:=hs.defers
  exact⟨ms,g1,g2,g3,fun r hr=>⟨(g4 r hr).1,(g4 r hr).2.1,fun hl=>(g4 r hr).2.2 (h3 r hl)⟩⟩
theorem Al{c:Code}{Q:Exit->Act->World->Prop}(J:Nat->Act->World->Prop)(round:∀m a w,J m a w->c.ub P ro (Exit.then (fun a' w'=>∃m',m'<m/\J m' a' w') Q) a w):
 ∀m a w,J m a w->(Code.loop c).ub P ro Q a w:=by
 intro m a w h0 fr kk cs uB hb
 have hr:(ew ro).room (cs.length+1+0):=fun d hd=>by simp[ew]at hd
 have key:∀m a w,J m a w->∃e a' w',Q e a' w'/\ArrivesIn (Machine.fenced P (ew ro)) P (lone (fr.atR a (.code c:: .inLoop c::kk)) cs w) fr kk cs e a' w':=by
  intro m
  induction m using Nat.strongRecOn with
  |_ m ih=>
   intro a w hJ
   obtain⟨e,a1,w1,hq,cV⟩:=round m a w hJ fr (.inLoop c::kk) cs uB hb
   cases e with
   |normal=>
    obtain⟨m',db,hJ'⟩:=hq
    obtain⟨e2,a2,w2,Ya,F9⟩:=ih m' db a1 w1 hJ'
    exact⟨e2,a2,w2,Ya, .of_steps (StepsIn.trans cV (.one (fenced_calm trivial hr rfl) stepR_inLoop)) F9⟩
   |_=>exact⟨_,a1,w1,hq, .pass (x:= .inLoop c) rfl (fun _ _=> .inl au) cV⟩
 obtain⟨e,a',w',hq,cV⟩:=key m a w h0
 exact⟨e,a',w',hq, .of_steps (.one (fenced_calm trivial hr rfl) stepR_loop) cV⟩
theorem yr(hs:cG M cZ H0 w0 n cx φ s a w)(nk:cx.rd=false)(uB:ro=none){g:Operand}{ps:Array Tmp}{x y:Code}{Q:fG->S->Prop}(h:Cp P n (s.ev g) ps.toList (low n x) (low n y) Q s):
 (Code.rangeFunc g ps x y).ub P ro (F7 M cZ H0 w0 n cx Q) a w:=by
 subst uB
 obtain⟨env,eP,h⟩:=h
 refine xH fun fn H6=> ?_
 let EK:Loop:={state:= .ready,pending:=none,fn:=fn,tmps:=a.tmps,params:=ps,assign:=x,body:=y,defers:=w.heap.size}
 let w1:World:=(w.alloc (.deferred (some []))).alloc (.loop EK)
 let l:Nat:=w.heap.size+1
 have mz:(Instr.enterLoop fn a.tmps ps x y (ew none).round).run P w= .ok (l,[mark w.heap.size]) w1:=by
  simp[Instr.enterLoop,ew,mark,w1,l,EK]
 have NI:eO (fun _=>False) w w1:=by
  have k1:=c0 w (.deferred (some []))
  have k2:=c0 (w.alloc (.deferred (some []))) (.loop EK)
  exact⟨k2.os.trans k1.os,k2.tape.trans k1.tape,k2.output.trans k1.output,Nat.le_trans k1.size k2.size,fun j hj hm=>(k2.block j (Nat.lt_of_lt_of_le hj k1.size) hm).trans (k1.block j hj hm)⟩
 let jG:=aK φ s.nx (.pointer (some ⟨l,0,none⟩))
 let s1:S:=⟨s.env,aK s.o s.nx (.loop P.funcs.size n env ps.toList (low n x) (low n y) .ready none),s.nx+1⟩
 have dh: ¬s.H.us s.nx:=by simp[S.H]
 have fV:∀b,eT (.pointer (some ⟨l,0,none⟩))=some b->w.heap.size<=b/\b<w1.heap.size:=by
  intro b hb;simp[eT]at hb;subst hb;simp[l,w1]
 have Ed:=eV (φ:=φ) (H:=s.H) NI dh (.loop P.funcs.size n env ps.toList (low n x) (low n y) .ready none) (.pointer (some ⟨l,0,none⟩)) fun b hb=>(fV b hb).1
 have OG:(w.alloc (.deferred (some []))).heap.size=w.heap.size+1:=au
 have xi:w1.heap[l]? =some (.loop EK):=by
  have:=heap_alloc_new (w.alloc (.deferred (some []))) (.loop EK)
  rwa [OG]at this
 have Hy:=jw hs.heap NI dh (.loop P.funcs.size n env ps.toList (low n x) (low n y) .ready none) (.pointer (some ⟨l,0,none⟩)) fV (by
  unfold bn
  simp only[bX,aW,if_true]
  refine⟨l,EK,rfl,xi,H6,rfl,rfl,rfl,hs.size,rfl,rfl,fun i=> ?_⟩
  rcases eP i with e|e
  ·rw[e];trivial
  ·rw[e];exact V.aX Ed _ _ (hs.env i))
 have yu:cG M cZ H0 w0 n cx jG s1 {a with defers:=mark w.heap.size::a.defers} w1:=by
  have base:=eQ hs Hy Ed (o':=aK s.o s.nx (.loop P.funcs.size n env ps.toList (low n x) (low n y) .ready none)) (nx':=s.nx+1) rfl (KK fun id aC=>by simp at aC;exact .inr aC)
  refine⟨base.heap,base.tr,base.size, ?_,base.env⟩
  obtain⟨ms,g1,g2,g3,g4⟩:=base.defers
  obtain⟨ms',q1,q2,q3,q4⟩:=hs.defers
  have hmm:ms.map mark=ms'.map mark:=by
   have:ms.map mark++cx.base=ms'.map mark++cx.base:=g1.symm.trans q1
   exact List.append_cancel_right this
  have Uw:ms=ms':=by
   have hm:∀a b,mark a=mark b->a=b:=fun a b h=>by simpa[mark]using h
   exact List.map_inj_right hm |>.1 hmm
  refine⟨w.heap.size::ms,by rw[g1];rfl,List.nodup_cons.2 ⟨fun hm=> ?_,g2⟩,(fun h=>by rw[nk]at h;cases h),fun r hr=> ?_⟩
  ·have:=(q4 w.heap.size (Uw ▸ hm)).2.1
   rw[Array.getElem?_eq_none (Nat.le_refl _)]at this;cases this
  ·rcases List.mem_cons.1 hr with rfl|hr
   ·refine⟨hs.tr.cJ.size,(RowKit.Below.heap_alloc (w.alloc (.deferred (some []))) (.loop EK) w.heap.size (by rw[OG];omega)).trans (heap_alloc_new w _), ?_⟩
    rintro⟨id,i1,i2⟩
    by_cases e:id=s.nx
    ·subst e;simp[jG,eT,l]at i2
    ·have i1':(s.H.o id).live=true:=by simpa[s1,S.H,e]using i1
     have i2':eT (φ id)=some w.heap.size:=by simpa[jG,e]using i2
     have:=(hs.heap.ours _ ⟨id,i1',i2'⟩).2
     omega
   ·exact g4 r hr
 have adU:V.den (az M jG s1.H) jG s1.H w1 (.j6 s.nx) (.func (.yield l) #[] #[]):=
  ⟨rfl,by simp[s1,S.H],fun _=>⟨l,by simp[jG],rfl⟩⟩
 have hg:=nv (M:=M) (φ:=jG) (H:=s1.H) (w:=w1) s1 {a with defers:=mark w.heap.size::a.defers} yu.env g
 have adV:s1.ev g=s.ev g:=by cases g<;>rfl
 rw[adV]at hg
 have hae:({a with defers:=mark w.heap.size::a.defers}:Act).eval g=a.eval g:=rfl
 rw[hae]at hg
 split at h
 ·rename_i f first cap hgv
  rw[hgv]at hg
  obtain⟨fa,ca,Uu,B7,Zv⟩:=hg
  have fin:∀ (all:List V) (o2:Nat->ae) (s2:S),s2=⟨s.env,o2,s.nx+1⟩->cG M cZ H0 w0 n cx jG s2 {a with defers:=mark w.heap.size::a.defers} w1->V.aP (az M jG s2.H) jG s2.H w1 all (fa++#[Value.func (.yield l) #[] #[]]++ca).toList->(o2 s.nx).cK=true->
   cU P f all o2 (s.nx+1) (fun _ o' nx'=>∃nf m e p c d st pd,o' s.nx= .loop nf m e p c d st pd/\st≠ .busy/\oW Q pd ⟨s.env,aK o' s.nx (.loop nf m e p c d .exhausted pd),nx'⟩) (fun v o' nx'=>Q (.cc v) ⟨s.env,o',nx'⟩)->
   ∃ (l:Nat) (mark:List Deferred) (gP:World) (d:Deferred) (yp:World) (f:FuncId) (args:Array Value) (sy:World),
     (Instr.enterLoop fn a.tmps ps x y (ew none).round).run P w= .ok (l,mark) gP/\(resolve a.eval (rangeCall g l) 0).run P gP= .ok d yp/\
     (invoke d.target d.args).run P yp= .ok (.enter f args) sy/\CallsIn (ew none) 0 P f args sy (vr P l (F7 M cZ H0 w0 n cx Q) {a with defers:=mark++a.defers}):=by
   intro all o2 s2 adW NJ bI ck hC
   subst adW
   have fA:=hC.2 M jG w1 _ NJ.heap bI
   refine⟨l,[mark w.heap.size],w1,{target:= .fn (.func f) ca,args:=fa++#[Value.func (.yield l) #[] #[]]},w1,f,fa++#[Value.func (.yield l) #[] #[]]++ca,w1,mz, ?_, ?_,dE (fA.mono fun e w' ⟨aS,o',nx',v,k1,k2,k3⟩=> ?_)⟩
   ·simp only[resolve,Uu,Deferred.ofValue,List.map_toArray,List.map_cons,List.map_nil,Sem.run_pure]
    rfl
   ·simp[invoke,lS hC.1]
   ·cases e with
    |returned val=>
     obtain⟨k4,nf,m,e,p,c,d,st,pd,k5,k6,k7⟩:=k3
     have Ga:cG M cZ H0 w0 n cx aS ⟨s.env,o',nx'⟩ {a with defers:=mark w.heap.size::a.defers} w':=eQ NJ k1 k2 rfl fun id hu=>hu
     have Ux:aS s.nx= .pointer (some ⟨l,0,none⟩):=by
      have:=(k2.rel.row s.nx (show s.nx<s.nx+1 from ad) (by show(o' s.nx).cK=true;rw[k5];rfl)).2
      rw[this];simp[jG]
     have db:s.nx<nx':=k2.rel.us s.nx (show s.nx<s.nx+1 from ad)
     obtain⟨r,r1,r2,r3,r4,r5⟩:=yq (st':= .exhausted) (pd':=pd) k1 db (show(hp o' nx').o s.nx=_ from k5) Ux
     have cO:(Instr.endLoop l).run P w'= .ok (pd.map jS.code) {w' with heap:=w'.heap.setIfInBounds l (.loop {r with state:= .exhausted,pending:=pd.map jS.code})}:=by
      have e1:({r with state:= .exhausted}:Loop)={r with state:= .exhausted,pending:=pd.map jS.code}:=by rw[<- r3]
      have hnb:(r.state==LoopState.busy)=false:=by rw[r2];cases st<;>first|rfl|exact absurd rfl k6
      simp only[Instr.endLoop,Sem.run_bind,lg r1,Result.andThen_ok,hnb,Bool.false_eq_true,if_false,Sem.run_pure]
      rw[jJ _ r1,e1]
      simp[r3]
     have Yb:=eQ Ga r4 r5 (o':=aK o' s.nx (.loop nf m e p c d .exhausted pd)) (nx':=nx') rfl fun id hu=>by
      simp only[eE]at hu
      rcases hu with hu|hu
      ·exact hu
      ·subst hu;exact db
     refine⟨pd.map jS.code,_,cO, ?_⟩
     cases pd with
     |none=>exact⟨.normal,_,_,k7,Yb,trivial⟩
     |some j=>
      cases j with
      |ret=>exact F8 ⟨.ret,_,_,k7,Yb,trivial⟩
      |exit id=>exact Cn ⟨.exit id,_,_,k7,Yb,rfl⟩
    |panicked ch=>
     obtain⟨val,rfl,k4,k5⟩:=k3
     have Ga:cG M cZ H0 w0 n cx aS ⟨s.env,o',nx'⟩ {a with defers:=mark w.heap.size::a.defers} w':=eQ NJ k1 k2 rfl fun id hu=>hu
     exact⟨.cc v,_,_,k5,Ga,val,rfl,k4⟩
    |outgrown=>exact k3.elim
  have nF:V.aP (az M jG s1.H) jG s1.H w1 (first++[V.j6 s.nx]++cap) (fa++#[Value.func (.yield l) #[] #[]]++ca).toList:=by
   rw[Array.toList_append,Array.toList_append]
   exact V.my B7 ⟨_,[],rfl,adU,rfl⟩ Zv
  rcases h with hC|hC
  ·exact fin _ _ s1 rfl yu nF (by simp;rfl) hC
  ·have qm:s1.o=aK s.o s.nx (.loop P.funcs.size n env ps.toList (low n x) (low n y) .ready none):=rfl
   obtain⟨f1,f2,f3,f4,f5⟩:=dH yu.heap (dI s1.o (first++[V.j6 s.nx]++cap)) (iA _ _ s1.o nF)
   have lA:s1.H.put (dy s1.H.o (dI s1.o (first++[V.j6 s.nx]++cap)))=hp (put s1.o (dy s1.o (dI s1.o (first++[V.j6 s.nx]++cap)))) s1.nx:=lR (by rw[ux];exact iA _ _ s1.o nF)
   have Q2:=KN f1 _ _ f3 (V.bg f2 _ _ nF)
   have Q3:((s1.H.put (dy s1.H.o (dI s1.o (first++[V.j6 s.nx]++cap)))).o s.nx).cK=true:=by
    by_cases hm:s.nx∈dI s1.o (first++[V.j6 s.nx]++cap)
    ·rw[f3 _ hm];simp[s1,S.H,ae.fz,ae.cK]
    ·rw[f4 _ hm];simp[s1,S.H,ae.cK]
   rw[lA]at f1 f2 Q2 Q3
   exact fin _ (put s1.o (dy s1.o (dI s1.o (first++[V.j6 s.nx]++cap)))) ⟨s.env,_,s.nx+1⟩ rfl (eQ yu f1 f2 rfl fun id hu=>hu) Q2 Q3 hC
 ·exact h.elim
end
end Go.Proofs.YtonbelhklnmjnaaGreat
