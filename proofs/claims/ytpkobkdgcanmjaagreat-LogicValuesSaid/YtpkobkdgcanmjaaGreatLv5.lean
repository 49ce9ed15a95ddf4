/-
  A PART OF THE PROOF. Conditions: none.
-/
import Derived.RangeFuncLeaves
import Derived.TacticsIn
import Derived.RecoverIn
import Derived.Test.YtpkobkdgcanmjaaGreatLv4
set_option linter.unusedSimpArgs false
set_option linter.unusedVariables false
namespace Go.Proofs.YtpkobkdgcanmjaaGreat
inductive R where
 |ret (ds:List D)|bf (d:D)
def R.is (B:Nat->Prop)(w:World):R->Ending->Prop
 | .ret [x], .returned v=>D.den B w x v
 | .ret ds, .returned v=>∃a,v= .tuple a/\D.au B w ds a.toList
 | .bf d, .panicked chain=>∃v,chain=[{v:=v,recovered:=false}]/\D.den B w d v
 |_,_=>False
def gQ(P:Program)(f:FuncId):Prop:=∃fn,P.funcs[f]? =some fn/\(fn.name== "runtime.NumGoroutine")=false/\fn.body.isNone=false
def bJ(P:Program)(f:FuncId)(ds:List D)(out:R):Prop:=
 gQ P f/\∀ (M:Nat->Prop) (w:World) (vals:Array Value),(∀b,M b->b<w.heap.size)->D.au M w ds vals.toList->
  Calls P f vals w fun e w'=>dJ (fun _=>False) w w'/\out.is M w' e
def hp(o:Nat->aa)(nx:Nat):Hp:=⟨o,fun id=>id<nx⟩
def jy(M:Nat->Prop)(φ:Place)(H:Hp)(w:World)(K X:V->(Nat->aa)->Nat->Prop)(e:Ending)(w':World):Prop:=
 ∃aj o' nx' v,ai M aj (hp o' nx') w'/\Trans φ H w aj (hp o' nx') w'/\match e with
  | .returned val=>V.den (ad M aj (hp o' nx')) aj (hp o' nx') w' v val/\K v o' nx'
  | .panicked ch=>∃val,ch=[{v:=val,recovered:=false}]/\V.den (ad M aj (hp o' nx')) aj (hp o' nx') w' v val/\X v o' nx'
  | .outgrown=>False
def ft(P:Program)(f:FuncId)(args:List V)(o:Nat->aa)(nx:Nat)(K X:V->(Nat->aa)->Nat->Prop):Prop:=
 gQ P f/\∀ (M:Nat->Prop) (φ:Place) (w:World) (vals:Array Value),ai M φ (hp o nx) w->V.au (ad M φ (hp o nx)) φ (hp o nx) w args vals.toList->
  Calls P f vals w (jy M φ (hp o nx) w K X)
def dS(P:Program)(id:Nat)(args:List V)(o:Nat->aa)(nx:Nat)(K X:V->(Nat->aa)->Nat->Prop):Prop:=
 (o id).bp=true/\∀ (M:Nat->Prop) (φ:Place) (w:World) (vals:Array Value) (b:Nat),ai M φ (hp o nx) w->V.au (ad M φ (hp o nx)) φ (hp o nx) w args vals.toList->φ id= .pointer (some ⟨b,0,none⟩)->
  ∃f tmps assign body,(Instr.yield b vals).run P w= .ok (.round b f tmps assign body) w/\∀n,RoundIn Fence.wide n P b f tmps assign body w (jy M φ (hp o nx) w K X)
theorem jy.mono {M:Nat->Prop}{φ:Place}{H:Hp}{w:World}{K X K' X':V->(Nat->aa)->Nat->Prop}(hK:∀v o n,K v o n->K' v o n)(hX:∀v o n,X v o n->X' v o n){e:Ending}{w':World}(h:jy M φ H w K X e w'):jy M φ H w K' X' e w':=by
 obtain⟨aj,o',nx',v,h1,h2,h3⟩:=h
 refine⟨aj,o',nx',v,h1,h2, ?_⟩
 cases e with
 |returned val=>exact⟨h3.1,hK _ _ _ h3.2⟩
 |panicked ch=>obtain⟨val,a,b,c⟩:=h3;exact⟨val,a,b,hX _ _ _ c⟩
 |outgrown=>exact h3
theorem ft.mono {P:Program}{f:FuncId}{args:List V}{o:Nat->aa}{nx:Nat}{K X K' X':V->(Nat->aa)->Nat->Prop}(hK:∀v o n,K v o n->K' v o n)(hX:∀v o n,X v o n->X' v o n)(h:ft P f args o nx K X):ft P f args o nx K' X':=
 ⟨h.1,fun M φ w vals h1 h2=>(h.2 M φ w vals h1 h2).mono fun _ _ h=>h.mono hK hX⟩
theorem dS.mono {P:Program}{id:Nat}{args:List V}{o:Nat->aa}{nx:Nat}{K X K' X':V->(Nat->aa)->Nat->Prop}(hK:∀v o n,K v o n->K' v o n)(hX:∀v o n,X v o n->X' v o n)(h:dS P id args o nx K X):dS P id args o nx K' X':=
 ⟨h.1,fun M φ w vals b h1 h2 h3=>let⟨f,t,a,c,h4,h5⟩:=h.2 M φ w vals b h1 h2 h3;⟨f,t,a,c,h4,fun n=>(h5 n).mono fun _ _ h=>h.mono hK hX⟩⟩
mutual
def D.flat:D->Bool
 | .sl _| .mp _ _=>false
 | .agg cs=>D.gf cs
 | .iface _ x=>x.flat
 |_=>true
def D.gf:List D->Bool
 |[]=>true
 |x::xs=>x.flat&&D.gf xs
end
mutual
theorem D.lZ {B B':Nat->Prop}{w w':World}:∀ (x:D) (v:Value),x.flat=true->D.den B w x v->D.den B' w' x v
 | .int _ _,_,_,h| .bool _,_,_,h| .str _,_,_,h| .dI,_,_,h| .gO,_,_,h| .aF,_,_,h| .dr,_,_,h=>h
 | .agg cs,_,hf,h=>by obtain⟨a,rfl,h,h2⟩:=h;exact⟨a,rfl,D.iR cs _ hf h,h2⟩
 | .sl es,_,hf,h=>by simp[D.flat]at hf
 | .mp _ _,_,hf,h=>by simp[D.flat]at hf
 | .iface t x,_,hf,h=>by obtain⟨u,rfl,h⟩:=h;exact⟨u,rfl,D.lZ x u hf h⟩
theorem D.iR {B B':Nat->Prop}{w w':World}:∀ (xs:List D) (vs:List Value),D.gf xs=true->D.au B w xs vs->D.au B' w' xs vs
 |[],_,_,h=>h
 |x::xs,_,hf,h=>by
  obtain⟨u,us,rfl,h1,h2⟩:=h
  simp only[D.gf,Bool.and_eq_true]at hf
  exact⟨u,us,rfl,D.lZ x u hf.1 h1,D.iR xs us hf.2 h2⟩
end
mutual
def D.jz:D->Bool
 | .mp _ _=>false
 | .agg cs=>D.iS cs
 | .sl es=>D.iS es
 | .iface _ x=>x.jz
 |_=>true
def D.iS:List D->Bool
 |[]=>true
 |x::xs=>x.jz&&D.iS xs
end
theorem eJ.sV {B B':Nat->Prop}{w w':World}{a:Addr}{cs:Array Value}
 (hb:∀b,lH w b-> ¬B b->w'.heap[b]? =w.heap[b]? /\ ¬B' b) (h:eJ B w a cs):eJ B' w' a cs:=by
 intro j u hj
 obtain⟨h1,h2⟩:=h j u hj
 have bz:lH w a.block:=by simpa using kH h1
 obtain⟨h3,h4⟩:=hb _ bz h2
 exact⟨by rw[World.cell?_of_block (w:=w) (w':=w') (a:=a.add j) (by simpa using h3)];exact h1,h4⟩
mutual
theorem D.il {B B':Nat->Prop}{w w':World}(hb:∀b,lH w b-> ¬B b->w'.heap[b]? =w.heap[b]? /\ ¬B' b):
 ∀ (x:D) (v:Value),x.jz=true->D.den B w x v->D.den B' w' x v
 | .int _ _,_,_,h| .bool _,_,_,h| .str _,_,_,h| .dI,_,_,h| .gO,_,_,h| .aF,_,_,h| .dr,_,_,h=>by simpa[D.den]using h
 | .agg cs,_,hn,h=>by
   obtain⟨a,rfl,h,hf⟩:=h
   exact⟨a,rfl,D.jA hb cs _ hn h,hf⟩
 | .sl es,_,hn,h=>by
   obtain⟨base,len,cap,rfl,h1,h2,h3,sz,h4⟩:=h
   exact⟨base,len,cap,rfl,h1,h2,h3,sz,fun a ha=>⟨(h4 a ha).1,D.l0 hb sz a es 0 hn (h4 a ha).2⟩⟩
 | .iface t d,_,hn,h=>by
   obtain⟨u,rfl,h⟩:=h
   exact⟨u,rfl,D.il hb d u hn h⟩
 | .mp _ _,_,hn,_=>by simp[D.jz]at hn
theorem D.jA {B B':Nat->Prop}{w w':World}(hb:∀b,lH w b-> ¬B b->w'.heap[b]? =w.heap[b]? /\ ¬B' b):
 ∀ (ds:List D) (vs:List Value),D.iS ds=true->D.au B w ds vs->D.au B' w' ds vs
 |[],_,_,h=>h
 |d::ds,_,hn,h=>by
  obtain⟨u,us,rfl,h1,h2⟩:=h
  simp only[D.iS,Bool.and_eq_true]at hn
  exact⟨u,us,rfl,D.il hb d u hn.1 h1,D.jA hb ds us hn.2 h2⟩
theorem D.l0 {B B':Nat->Prop}{w w':World}(hb:∀b,lH w b-> ¬B b->w'.heap[b]? =w.heap[b]? /\ ¬B' b)(sz:Nat)(a:Addr):
 ∀ (es:List D) (i:Nat),D.iS es=true->D.elems B w sz a i es->D.elems B' w' sz a i es
 |[],_,_,_=>trivial
 |e::es,i,hn,h=>by
  obtain⟨⟨ev,h1,h2,h3⟩,h4⟩:=h
  simp only[D.iS,Bool.and_eq_true]at hn
  exact⟨⟨ev,h1,h2.sV hb,D.il hb e ev hn.1 h3⟩,D.l0 hb sz a es (i+1) hn.2 h4⟩
end
def R.jz:R->Bool
 | .ret ds=>D.iS ds
 | .bf d=>d.jz
def R.flat:R->Bool
 | .ret ds=>D.gf ds
 | .bf d=>d.flat
def gh:List D->V
 |[x]=> .d x
 |ds=> .bQ (ds.map .d)
inductive fq where
 |normal|exit (id:Nat)|ret|bf (v:V)
def aO(env:Nat->V)(dst:Option Tmp)(v:V):Nat->V:=
 match dst with
 |some d=>aQ env d v
 |none=>env
def zk(o:Nat->aa)(v:V):V:=match dn o v with|some x=> .d x|none=>v
def cC(o:Nat->aa):List V->List Nat
 |[]=>[]
 |v::vs=>(match dn o v with|some _=>v.ids|none=>[])++cC o vs
def jB(P:Program)(g:FuncId)(args:List V)(o:Nat->aa)(nx:Nat)(K X:V->(Nat->aa)->Nat->Prop):Prop:=
 ft P g args o nx K X\/ft P g (args.map (zk o)) (put o (cn o (cC o args))) nx K X
def oK(P:Program)(s:S)(g:FuncId)(all:List V)(K:V->(Nat->aa)->Nat->Prop)(X:V->(Nat->aa)->Nat->Prop):Prop:=
    (∃ds out,bG s.o all=some ds/\bJ P g ds out/\(match out with
     | .ret rs=>K (gh rs) (put s.o (cn s.o (V.aR all))) (s.nx+1)
     | .bf x=>X (.d x) (put s.o (cn s.o (V.aR all))) (s.nx+1)))\/
    (∃ds out,bG s.o all=some ds/\bJ P g ds out/\out.flat=true/\(match out with
     | .ret rs=>K (gh rs) s.o (s.nx+1)
     | .bf x=>X (.d x) s.o (s.nx+1)))\/
    (∃ds out,bG s.o all=some ds/\bJ P g ds out/\out.jz=true/\(match out with
     | .ret rs=>K (gh rs) (put s.o (mK s.o (V.aR all))) (s.nx+1)
     | .bf x=>X (.d x) (put s.o (mK s.o (V.aR all))) (s.nx+1)))\/
    jB P g all s.o s.nx K X
def tv(P:Program)(s:S)(f:V)(args:List V)(K:V->(Nat->aa)->Nat->Prop)(X:V->(Nat->aa)->Nat->Prop):Prop:=
 match f with
 | .func (.func g) first cap=>oK P s g (first++args++cap) K X
 | .j7 id=>dS P id args s.o s.nx K X
 |_=>False
def CM(P:Program)(t:TypeId):Bool:=
 match P.underlying t with
 |some (.pointer _)=>false
 |some _=>true
 |none=>false
def oL(P:Program)(m:String)(x:V):Option (FuncId×V):=
 match x with
 | .d (.iface t y)=>match P.info? t with
   |some ti=>match ti.methods.find? (·.name==m)with
    |some r=>match r.func with
     |some (f,false)=>if r.path.isEmpty=true/\CM P t=true then some (f, .d y)else none
     |_=>none
    |none=>none
   |none=>none
 |_=>none
def eK(n:Nat):Option Tmp->Prop
 |some d=>d<n
 |none=>True
def Oa(P:Program)(n:Nat)(s:S)(o:Oper)(X:V->S->Prop)(K:S->Prop):Prop:=
 eK n o.dst/\match o.op with
 | .call c=>match c.callee with
   | .value f=>tv P s (s.ev f) (c.args.toList.map s.ev) (fun v o' nx'=>K ⟨aO s.env o.dst v,o',nx'⟩) (fun v o' nx'=>X v ⟨s.env,o',nx'⟩)
   | .invoke r m=>match oL P m (s.ev r)with
     |some (g,y)=>oK P s g (y::c.args.toList.map s.ev) (fun v o' nx'=>K ⟨aO s.env o.dst v,o',nx'⟩) (fun v o' nx'=>X v ⟨s.env,o',nx'⟩)
     |none=>False
   |_=>CB P s s.nx o.op fun v Δ _=>K ⟨aO s.env o.dst v,put s.o Δ,s.nx+1⟩
 | .panic x=>match s.ev x with
   | .d (.iface t y)=>X (.d (.iface t y)) s
   | .iface t y=>X (.iface t y) s
   |_=>False
 |op=>CB P s s.nx op fun v Δ _=>K ⟨aO s.env o.dst v,put s.o Δ,s.nx+1⟩
def rB(s:S)(ops:Array Oper)(g:Option (Nat×Bool))(A B:Prop):Prop:=
 match g with
 |none=>A
 |some (j,want)=>match nd ops j with
  |some d=>match s.env d with
   | .d (.bool b)=>(b=want->A)/\(b≠want->B)
   | .bQ []=>B
   |_=>False
  |none=>B
def rC(P:Program)(n:Nat)(ops:Array Oper)(X:V->S->Prop)(K:S->Prop):List Oper->S->Prop
 |[],s=>K s
 |o::l,s=>rB s ops o.guard (Oa P n s o X (rC P n ops X K l)) (eK n o.dst/\rC P n ops X K l ⟨aO s.env o.dst (.bQ []),s.o,s.nx+1⟩)
def cR(b:Nat)(s s':S):Prop:=
 ∀ (M:Nat->Prop) (φ:Place) (w:World) (tm:Nat->Value),ai M φ s.H w->(∀i,V.den (ad M φ s.H) φ s.H w (s.env i) (tm i))->
   ∃aj,ai M aj s'.H w/\(∀i,V.den (ad M aj s'.H) aj s'.H w (s'.env i) (tm i))/\(∀k,bw aj s'.H k->bw φ s.H k)/\b<=s'.nx/\
    (∀id,id<b->(s'.o id).bp=true->(s.o id).bp=true/\aj id=φ id)/\
    (∀id e',id<b->(s'.o id).aP=some e'->∃e,(s.o id).aP=some e/\e<=e'/\(e=e'->aj id=φ id))
def l3(K:S->Prop)(Q:fq->S->Prop)(e:fq)(s:S):Prop:=match e with| .normal=>K s|e=>Q e s
def dT(id:Nat)(Q:fq->S->Prop)(e:fq)(s:S):Prop:=match e with| .exit j=>if j=id then Q .normal s else Q (.exit j) s|e=>Q e s
def iT(P:Program)(s:S):List ResultVar->Option (List V)
 |[]=>some []
 | .tmp t::rs=>(iT P s rs).map (s.env t::·)
 | .cell a t::rs=>match s.env a with
   | .ptr id off=>match s.o id with
     | .row cs=>(dD P t cs off).bind fun v=>(iT P s rs).map (v::·)
     |_=>none
   |_=>none
def b9(vs:List V):Nat->V:=fun i=>vs.getD i (.bQ [])
def vk(P:Program)(rs:List ResultVar)(out:R)(e:fq)(s:S):Prop:=
 match e with
 | .normal| .ret=>match iT P s rs with
   |some vs=>match bG s.o vs with
    |some ds=>out= .ret ds
    |none=>False
   |none=>False
 | .bf v=>match dn s.o v with
   |some x=>out= .bf x
   |none=>False
 | .exit _=>False
theorem zl{P:Program}{rs:List ResultVar}{out:R}{s:S}(h:match iT P s rs with
 |some vs=>match bG s.o vs with
  |some ds=>out= .ret ds
  |none=>False
 |none=>False):∃vs ds,iT P s rs=some vs/\bG s.o vs=some ds/\out= .ret ds:=by
 split at h
 ·rename_i vs h1
  split at h
  ·rename_i xs h2;exact⟨vs,xs,h1,h2,h⟩
  ·exact h.elim
 ·exact h.elim
theorem zm{out:R}{s:S}{v:V}(h:match dn s.o v with
 |some x=>out= .bf x
 |none=>False):∃x,dn s.o v=some x/\out= .bf x:=by
 split at h
 ·rename_i x h1;exact⟨x,h1,h⟩
 ·exact h.elim
end Go.Proofs.YtpkobkdgcanmjaaGreat
namespace Go.Proofs.YtpkobkdgcanmjaaGreat
section
variable {P:Program}{M:Nat->Prop}{φ:Place}{H:Hp}{w w':World}
def aa.im:aa->Bool
 | .arr .. =>true
 |_=>false
theorem Bt(o:Nat->aa)(ids:List Nat):mK o ids=cn o (ids.filter fun id=>(o id).im):=by
 induction ids with
 |nil=>rfl
 |cons id ids ih=>
  unfold mK at ih|-
  simp only[List.filterMap_cons,List.filter_cons]
  cases hx:o id with
  |arr ep ty sz es=>
   have e:(aa.arr ep ty sz es).im=true:=rfl
   rw[e,if_pos rfl,ih]
   simp only[cn,List.map_cons,hx]
  |_=>exact ih
theorem fF(hH:ai M φ H w){us':Nat->Prop}(h:∀id,H.us id->us' id):ai M φ ⟨H.o,us'⟩ w/\Trans φ H w φ ⟨H.o,us'⟩ w:=by
 have ht:Trans φ H w φ ⟨H.o,us'⟩ w:=⟨dJ.refl _ _,fun b hb=> .inl hb,⟨h,fun id _ hr=>⟨hr,rfl⟩,fun id e' _ he=>⟨e',he,Nat.le_refl _,fun _=>rfl⟩⟩⟩
 exact⟨hH.of ht (fun _=>False) (fun _ h=>h.elim) (fun id _=>⟨rfl,rfl,fun _ _ _=>rfl⟩) (fun id hn=>hH.fresh id fun hu=>hn (h id hu)) hH.apart (fun b hb=>(hH.ours b hb).2),ht⟩
theorem ew(hH:ai M φ H w)(hk:dJ (fun _=>False) w w'):ai M φ H w'/\Trans φ H w φ H w':=by
 have ht:Trans φ H w φ H w':=⟨⟨hk.os,hk.tape,hk.output,hk.size,fun k h _=>hk.block k h fun h=>h⟩,fun b hb=> .inl hb,cX.refl _ _⟩
 exact⟨hH.of ht (fun _=>False) (fun _ h=>h.elim) (fun id _=>⟨rfl,rfl,fun hl b hb=>hk.block b (hH.ours b ⟨id,hl,hb⟩).2 fun h=>h⟩) hH.fresh hH.apart (fun b hb=>Nat.lt_of_lt_of_le (hH.ours b hb).2 hk.size),ht⟩
theorem iq{Δ:List (Nat×aa)}(h:∀id∈Δ.map (·.1),H.us id):H.put Δ=⟨put H.o Δ,H.us⟩:=by
 unfold Hp.put
 congr 1
 funext id
 simp only[eq_iff_iff]
 exact⟨fun h'=>h'.elim (fun h=>h) (h id), .inl⟩
theorem ki(o:Nat->aa)(ids:List Nat):(cn o ids).map (·.1)=ids:=by
 rw[iO];simp[Function.comp_def]
structure Cx where
 base:List Deferred
 rd:Bool
def cV(ro:Option Nat):Fence:={fn:=fun _=>True,depth:=none,alive:=false,round:=ro}
def mark(r:Nat):Deferred:={target:= .collected r,args:=#[]}
def oM(cx:Cx)(w0:World)(φ:Place)(H:Hp)(w:World)(ds:List Deferred):Prop:=
 ∃ms:List Nat,ds=ms.map mark++cx.base/\ms.Nodup/\(cx.rd=true->ms=[])/\∀r∈ms,w0.heap.size<=r/\w.heap[r]? =some (.deferred (some []))/\ ¬bw φ H r
theorem oM.mono {cx:Cx}{w0:World}{φ aj:Place}{H H':Hp}{w w':World}{ds:List Deferred}(ht:Trans φ H w aj H' w')(h:oM cx w0 φ H w ds):oM cx w0 aj H' w' ds:=by
 obtain⟨ms,h1,h2,h3,h4⟩:=h
 refine⟨ms,h1,h2,h3,fun r hr=> ?_⟩
 obtain⟨g1,g2,g3⟩:=h4 r hr
 have bz:r<w.heap.size:=by
  rcases Nat.lt_or_ge r w.heap.size with hl|hl
  ·exact hl
  ·rw[Array.getElem?_eq_none hl]at g2;cases g2
 refine⟨g1,(ht.bU.block r bz g3).trans g2,fun hl=> ?_⟩
 rcases ht.grow r hl with h|h
 ·exact g3 h
 ·omega
structure bI (M:Nat->Prop) (b7:Place) (H0:Hp) (w0:World) (n:Nat) (cx:Cx) (φ:Place) (s:S) (a:Act) (w:World):Prop where
 heap:ai M φ s.H w
 tr:Trans b7 H0 w0 φ s.H w
 size:a.tmps.size=n
 defers:oM cx w0 φ s.H w a.defers
 env:∀i,V.den (ad M φ s.H) φ s.H w (s.env i) (a.tmps.getD i undef)
variable {b7:Place}{H0:Hp}{w0:World}{n:Nat}{s:S}{a:Act}{cx:Cx}{ro:Option Nat}{k:Nat}
theorem cy{f:FuncId}{args:Array Value}{R:Ending->World->Prop}(h:Calls P f args w R):CallsIn (cV ro) k P f args w R:=
 ⟨trivial,fun cs _=>let⟨e,w',fr,r,s,x⟩:=h cs;⟨e,w',fr,r,comesIn_wide.2 s,x⟩⟩
theorem tw{f:FuncId}{args:Array Value}{R:Ending->World->Prop}(h:CallsIn (cV ro) k P f args w R):Calls P f args w R:=
 fun cs=>let⟨e,w',fr,r,s,x⟩:=h.2 cs (fun _ h=>by simp[cV]at h);⟨e,w',fr,r,comesIn_wide.1 s,x⟩
theorem gJ{o:Oper}{next:Act->World->Prop}{Q:Exit->Act->World->Prop}(Q4:∀c,o.op≠ .defer c)(h:o.uponIn (cV ro) k P a next Q ((execOp a.eval o).run P w)):o.wpIn (cV ro) k P a w next Q:=
 ⟨fun _ _=>trivial,by rw[Oper.semAt_eq _ _ _ Q4];exact h⟩
theorem iU(hs:bI M b7 H0 w0 n cx φ s a w){aj:Place}{H':Hp}(hH:ai M aj H' w')(ht:Trans φ s.H w aj H' w'){v:V}{val:Value}(hd:V.den (ad M aj H') aj H' w' v val){dst:Option Tmp}(cf:eK n dst)
 {o':Nat->aa} {nx':Nat} (ho:H'.o=o') (hu:∀id,H'.us id->id<nx'):bI M b7 H0 w0 n cx aj ⟨aO s.env dst v,o',nx'⟩ (a.put dst val) w':=by
 obtain⟨k1,k2⟩:=fF hH hu
 subst ho
 refine⟨k1,hs.tr.trans (ht.trans k2), ?_, ?_,fun i=> ?_⟩
 ·cases dst<;>simp[Act.put,hs.size]
 ·have:=hs.defers.mono (ht.trans k2);cases dst<;>exact this
 ·cases dst with
  |none=>exact V.ax (ht.trans k2) _ _ (hs.env i)
  |some d=>
   simp only[eK]at cf
   simp only[aO,aE,Act.put]
   by_cases hi:i=d
   ·subst hi
    have h1:(a.tmps.setIfInBounds i val).getD i undef=val:=by simp[Array.getD,hs.size,cf]
    rw[if_pos rfl,h1]
    exact V.ax k2 _ _ hd
   ·have h1:(a.tmps.setIfInBounds d val).getD i undef=a.tmps.getD i undef:=by
     simp only[Array.getD_eq_getD_getElem?]
     rw[Array.getElem?_setIfInBounds_ne (Ne.symm hi)]
    rw[if_neg hi,h1]
    exact V.ax (ht.trans k2) _ _ (hs.env i)
theorem dk(hs:bI M b7 H0 w0 n cx φ s a w){aj:Place}{H':Hp}(hH:ai M aj H' w')(ht:Trans φ s.H w aj H' w'){o':Nat->aa}{nx':Nat}(ho:H'.o=o')(hu:∀id,H'.us id->id<nx'):
 bI M b7 H0 w0 n cx aj ⟨s.env,o',nx'⟩ a w':=by
 obtain⟨k1,k2⟩:=fF hH hu
 subst ho
 exact⟨k1,hs.tr.trans (ht.trans k2),hs.size,hs.defers.mono (ht.trans k2),fun i=>V.ax (ht.trans k2) _ _ (hs.env i)⟩
theorem zn{Δ:List (Nat×aa)}(h:∀id∈Δ.map (·.1),s.H.us id\/id=s.nx)(id:Nat)(hu:(s.H.put Δ).us id):id<s.nx+1:=by
 rcases hu with hu|hu
 ·exact Nat.lt_succ_of_lt hu
 ·rcases h id hu with h|h
  ·exact Nat.lt_succ_of_lt h
  ·omega
variable {next:Act->World->Prop}{Q:Exit->Act->World->Prop}{X:V->S->Prop}{K:S->Prop}
theorem zo(hs:bI M b7 H0 w0 n cx φ s a w){o:Oper}{op:Op}(cP:o.op=op)(cf:eK n o.dst)(h:CB P s s.nx op fun v Δ _=>K ⟨aO s.env o.dst v,put s.o Δ,s.nx+1⟩)
 (hN:∀s' aj a' w',K s'->bI M b7 H0 w0 n cx aj s' a' w'->next a' w'):o.wpIn (cV ro) k P a w next Q:=by
 obtain⟨nx,val,w',aj,v,Δ,rd,hK,hr,p4,g1,g2,g3,g4⟩:=qy hs.heap (s:=s) rfl hs.env (fr:=s.nx) (by simp[S.H]) cP h
 have rD:=iU hs g1 g2 g3 cf (o':=put s.o Δ) (nx':=s.nx+1) rfl (zn g4)
 refine gJ (fun c hc=>by rw[cP]at hc;subst hc;exact h) ?_
 rw[hr]
 rcases p4 with rfl|⟨rfl,rfl⟩
 ·exact hN _ _ _ _ hK rD
 ·exact hN _ _ _ _ hK rD
theorem V.iV {B:Nat->Prop}{bH bs cs:List V}{u v x:List Value}(h1:V.au B φ H w bH u)(h2:V.au B φ H w bs v)(h3:V.au B φ H w cs x):V.au B φ H w (bH++bs++cs) (u++v++x):=
 V.aU _ _ _ _ (V.aU _ _ _ _ h1 h2) h3
theorem ir{f:FuncId}(h:gQ P f)(args:Array Value):(callFunc f args).run P w= .ok (.enter f args) w:=by
 obtain⟨fn,h1,h2,h3⟩:=h
 have tl:fn.name≠ "runtime.NumGoroutine" :=by simpa using h2
 have G8:fn.body≠none:=fun h=>by rw[h]at h3;cases h3
 simp[callFunc,h1,tl,G8]
theorem iu:∀ {rs:List D} {val:Value},R.is (ad M φ H) w (.ret rs) (.returned val)->V.den (ad M φ H) φ H w (gh rs) val
 |[],_,h=>by obtain⟨arr,rfl,h⟩:=h;exact⟨arr,rfl,h⟩
 |[x],_,h=>h
 |x::y::l,_,h=>by obtain⟨arr,rfl,h⟩:=h;exact⟨arr,rfl,(V.bV (x::y::l) _).2 h⟩
theorem R.rE {B B':Nat->Prop}:∀ {out:R} {e:Ending},out.flat=true->out.is B w e->out.is B' w e
 | .ret [], .returned _,_,h=>by obtain⟨arr,rfl,h⟩:=h;exact⟨arr,rfl,h⟩
 | .ret [x], .returned _,hf,h=>by
   simp only[R.flat,D.gf,Bool.and_true]at hf
   exact D.lZ x _ hf h
 | .ret (x::y::l), .returned _,hf,h=>by obtain⟨arr,rfl,h⟩:=h;exact⟨arr,rfl,D.iR (x::y::l) _ hf h⟩
 | .bf d, .panicked _,hf,h=>by obtain⟨v,rfl,h⟩:=h;exact⟨v,rfl,D.lZ d v hf h⟩
 | .ret [], .panicked _,_,h| .ret [_], .panicked _,_,h| .ret (_::_::_), .panicked _,_,h| .ret [], .outgrown,_,h| .ret [_], .outgrown,_,h| .ret (_::_::_), .outgrown,_,h| .bf _, .returned _,_,h| .bf _, .outgrown,_,h=>h.elim
theorem R.zp {B B':Nat->Prop}{w':World}(hb:∀b,lH w' b-> ¬B b-> ¬B' b):∀ {out:R} {e:Ending},out.jz=true->out.is B w' e->out.is B' w' e
 | .ret [], .returned _,_,h=>by obtain⟨arr,rfl,h⟩:=h;exact⟨arr,rfl,h⟩
 | .ret [x], .returned _,hf,h=>by
   simp only[R.jz,D.iS,Bool.and_true]at hf
   exact D.il (fun b hc hn=>⟨rfl,hb b hc hn⟩) x _ hf h
 | .ret (x::y::l), .returned _,hf,h=>by obtain⟨arr,rfl,h⟩:=h;exact⟨arr,rfl,D.jA (fun b hc hn=>⟨rfl,hb b hc hn⟩) (x::y::l) _ hf h⟩
 | .bf d, .panicked _,hf,h=>by obtain⟨v,rfl,h⟩:=h;exact⟨v,rfl,D.il (fun b hc hn=>⟨rfl,hb b hc hn⟩) d v hf h⟩
 | .ret [], .panicked _,_,h| .ret [_], .panicked _,_,h| .ret (_::_::_), .panicked _,_,h| .ret [], .outgrown,_,h| .ret [_], .outgrown,_,h| .ret (_::_::_), .outgrown,_,h| .bf _, .returned _,_,h| .bf _, .outgrown,_,h=>h.elim
theorem zq(hH:ai M φ H w){o:Nat->aa}:∀ (vs:List V) (vals:List Value),(∀id∈cC o vs,H.o id=(o id).fz)->V.au (ad M φ H) φ H w vs vals->V.au (ad M φ H) φ H w (vs.map (zk o)) vals
 |[],_,_,h=>h
 |v::vs,_,ho,h=>by
  obtain⟨u,us,rfl,h1,h2⟩:=h
  refine⟨u,us,rfl, ?_,zq hH vs us (fun id ah=>ho id (by simp[cC,ah])) h2⟩
  unfold zk
  split
  ·rename_i x hx
   exact dM hH v x u (fun id ah=>ho id (by simp[cC,hx,ah])) hx h1
  ·exact h1
theorem eL:∀ (vs:List V) (vals:List Value) (o:Nat->aa),V.au (ad M φ H) φ H w vs vals->∀id∈cC o vs,H.us id
 |[],_,_,_,j,hj=>by simp[cC]at hj
 |v::vs,_,o,h,j,hj=>by
  obtain⟨u,us,rfl,h1,h2⟩:=h
  simp only[cC,List.mem_append]at hj
  rcases hj with hj|hj
  ·cases hx:dn o v with
   |none=>simp[hx]at hj
   |some x=>simp only[hx]at hj;exact cu v u h1 j hj
  ·exact eL vs us o h2 j hj
theorem qz(hs:bI M b7 H0 w0 n cx φ s a w){o:Oper}{g:FuncId}{all:List V}{vals:Array Value}(cf:eK n o.dst)(dO:gQ P g->(execOp a.eval o).run P w= .ok (.enter g vals) w)(aJ:V.au (ad M φ s.H) φ s.H w all vals.toList)
 (h:ft P g all s.o s.nx (fun v o' nx'=>K ⟨aO s.env o.dst v,o',nx'⟩) (fun v o' nx'=>X v ⟨s.env,o',nx'⟩))
 (hN:∀s' aj a' w',K s'->bI M b7 H0 w0 n cx aj s' a' w'->next a' w')
 (hQ:∀v s' aj w' val,X v s'->bI M b7 H0 w0 n cx aj s' a w'->V.den (ad M aj s'.H) aj s'.H w' v val->Q (.panic [{v:=val,recovered:=false}]) a w'):o.uponIn (cV ro) k P a next Q ((execOp a.eval o).run P w):=by
 have dF:=h.2 M φ w vals hs.heap aJ
 rw[dO h.1]
 refine⟨fun hd=>by simp[cV]at hd,cy (dF.mono fun e w' ⟨aj,o',nx',v,k1,k2,k3⟩=> ?_)⟩
 cases e with
 |returned val=>exact hN _ _ _ _ k3.2 (iU hs k1 k2 k3.1 cf rfl fun id hu=>hu)
 |panicked ch=>
  obtain⟨val,rfl,k4,k5⟩:=k3
  exact hQ _ _ _ _ val k5 (dk hs k1 k2 (o':=o') (nx':=nx') rfl fun id hu=>hu) k4
 |outgrown=>exact k3.elim
theorem tx(hs:bI M b7 H0 w0 n cx φ s a w){o:Oper}{g:FuncId}{all:List V}{vals:Array Value}(cf:eK n o.dst)(dO:gQ P g->(execOp a.eval o).run P w= .ok (.enter g vals) w)(aJ:V.au (ad M φ s.H) φ s.H w all vals.toList)
 (h:oK P s g all (fun v o' nx'=>K ⟨aO s.env o.dst v,o',nx'⟩) (fun v o' nx'=>X v ⟨s.env,o',nx'⟩))
 (hN:∀s' aj a' w',K s'->bI M b7 H0 w0 n cx aj s' a' w'->next a' w')
 (hQ:∀v s' aj w' val,X v s'->bI M b7 H0 w0 n cx aj s' a w'->V.den (ad M aj s'.H) aj s'.H w' v val->Q (.panic [{v:=val,recovered:=false}]) a w'):o.uponIn (cV ro) k P a next Q ((execOp a.eval o).run P w):=by
 unfold oK at h
 obtain⟨f1,f2,f3,f4,f5⟩:=cB hs.heap (V.aR all) (bW all _ aJ)
 have iQ:s.H.put (cn s.H.o (V.aR all))=⟨put s.o (cn s.o (V.aR all)),s.H.us⟩:=iq (by rw[ki];exact bW all _ aJ)
 have jC:=V.aB f2 _ _ aJ
 rcases h with⟨ds,out,dA,hP,hK⟩|⟨ds,out,dA,hP,lA,hK⟩|⟨ds,out,dA,hP,Nb,hK⟩|hC|hC
 ·have qo:=cI f1 all ds _ f3 dA jC
  have hM:∀b,ad M φ (s.H.put (cn s.H.o (V.aR all))) b->b<w.heap.size:=fun b hb=>hb.elim (f1.p7 b) fun hl=>(f1.ours b hl).2
  have dF:=hP.2 _ w vals hM qo
  rw[dO hP.1]
  refine⟨fun hd=>by simp[cV]at hd,cy (dF.mono fun e w' ⟨hk,ho⟩=> ?_)⟩
  obtain⟨k1,k2⟩:=ew f1 hk
  cases out with
  |ret rs=>
   cases e with
   |returned val=>
    refine hN _ _ _ _ hK (iU hs k1 (f2.trans k2) (iu ho) cf (by rw[iQ]) ?_)
    intro id hu;rw[iQ]at hu;exact Nat.lt_succ_of_lt hu
   |panicked ch=>cases rs with|nil=>exact ho.elim|cons x l=>cases l<;>exact ho.elim
   |outgrown=>cases rs with|nil=>exact ho.elim|cons x l=>cases l<;>exact ho.elim
  |bf x=>
   cases e with
   |returned val=>exact ho.elim
   |panicked ch=>
    obtain⟨val,rfl,hd⟩:=ho
    have rD:=dk hs k1 (f2.trans k2) (o':=put s.o (cn s.o (V.aR all))) (nx':=s.nx+1) (by rw[iQ]) (fun id hu=>by rw[iQ]at hu;exact Nat.lt_succ_of_lt hu)
    refine hQ _ _ _ _ val hK rD ?_
    have e1:ad M φ (S.H ⟨s.env,put s.o (cn s.o (V.aR all)),s.nx+1⟩)=ad M φ (s.H.put (cn s.H.o (V.aR all))):=by rw[iQ];rfl
    simp only[V.den]
    rw[e1];exact hd
   |outgrown=>exact ho.elim
 ·have qo:=cI f1 all ds _ f3 dA jC
  have hM:∀b,ad M φ (s.H.put (cn s.H.o (V.aR all))) b->b<w.heap.size:=fun b hb=>hb.elim (f1.p7 b) fun hl=>(f1.ours b hl).2
  have dF:=hP.2 _ w vals hM qo
  rw[dO hP.1]
  refine⟨fun hd=>by simp[cV]at hd,cy (dF.mono fun e w' ⟨hk,ho⟩=> ?_)⟩
  obtain⟨k1,k2⟩:=ew hs.heap hk
  have ho:=R.rE (B':=ad M φ s.H) lA ho
  cases out with
  |ret rs=>
   cases e with
   |returned val=>
    exact hN _ _ _ _ hK (iU hs k1 k2 (iu ho) cf rfl fun id hu=>Nat.lt_succ_of_lt hu)
   |panicked ch=>cases rs with|nil=>exact ho.elim|cons x l=>cases l<;>exact ho.elim
   |outgrown=>cases rs with|nil=>exact ho.elim|cons x l=>cases l<;>exact ho.elim
  |bf x=>
   cases e with
   |returned val=>exact ho.elim
   |panicked ch=>
    obtain⟨val,rfl,hd⟩:=ho
    exact hQ _ _ _ _ val hK (dk hs k1 k2 (o':=s.o) (nx':=s.nx+1) rfl fun id hu=>Nat.lt_succ_of_lt hu) hd
   |outgrown=>exact ho.elim
 ·obtain⟨a1,a2,a3,a4,a5⟩:=cB hs.heap ((V.aR all).filter fun id=>(s.o id).im) (fun id ah=>bW all _ aJ id (List.mem_filter.1 ah).1)
  have tz:s.H.put (cn s.H.o ((V.aR all).filter fun id=>(s.o id).im))=⟨put s.o (mK s.o (V.aR all)),s.H.us⟩:=by
   rw[Bt]
   exact iq (by rw[ki];exact fun id ah=>bW all _ aJ id (List.mem_filter.1 ah).1)
  have qo:=cI f1 all ds _ f3 dA jC
  have hM:∀b,ad M φ (s.H.put (cn s.H.o (V.aR all))) b->b<w.heap.size:=fun b hb=>hb.elim (f1.p7 b) fun hl=>(f1.ours b hl).2
  have dF:=hP.2 _ w vals hM qo
  rw[dO hP.1]
  refine⟨fun hd=>by simp[cV]at hd,cy (dF.mono fun e w' ⟨hk,ho⟩=> ?_)⟩
  obtain⟨k1,k2⟩:=ew a1 hk
  have fG:∀b,lH w' b-> ¬ad M φ (s.H.put (cn s.H.o (V.aR all))) b-> ¬ad M φ (s.H.put (cn s.H.o ((V.aR all).filter fun id=>(s.o id).im))) b:=by
   intro b hc hn hm
   rcases hm with hM|⟨id,hl,hb⟩
   ·exact hn (.inl hM)
   ·by_cases ah:id∈V.aR all
    ·cases hx:s.H.o id with
     |arr ep ty sz es=>
      rw[a3 id (List.mem_filter.2 ⟨ah,by show(s.H.o id).im=true;rw[hx];rfl⟩),hx]at hl
      cases hl
     |map kt vt l=>
      have jq:id∉(V.aR all).filter fun id=>(s.o id).im:=fun h=>by
       have h2:(s.H.o id).im=true:=(List.mem_filter.1 h).2
       rw[hx]at h2;cases h2
      have ba:=k1.ok id
      unfold aC at ba
      rw[a4 id jq,hx]at ba
      obtain⟨b',es,clock,g1,g2,_⟩:=ba
      rw[g1]at hb
      injection hb with hb
      subst hb
      obtain⟨cs,ty,fz,hc⟩:=hc
      rw[g2]at hc
      cases hc
     |_=>
      have jq:id∉(V.aR all).filter fun id=>(s.o id).im:=fun h=>by
       have h2:(s.H.o id).im=true:=(List.mem_filter.1 h).2
       rw[hx]at h2;cases h2
      refine hn (.inr ⟨id, ?_,hb⟩)
      rw[a4 id jq,hx]at hl
      rw[f3 id ah,hx]
      exact hl
    ·have jq:id∉(V.aR all).filter fun id=>(s.o id).im:=fun h=>ah (List.mem_filter.1 h).1
     refine hn (.inr ⟨id, ?_,hb⟩)
     rw[a4 id jq]at hl
     rw[f4 id ah]
     exact hl
  have ho:=R.zp (w':=w') (B':=ad M φ (s.H.put (cn s.H.o ((V.aR all).filter fun id=>(s.o id).im)))) fG Nb ho
  cases out with
  |ret rs=>
   cases e with
   |returned val=>
    refine hN _ _ _ _ hK (iU hs k1 (a2.trans k2) (iu ho) cf (by rw[tz]) ?_)
    intro id hu;rw[tz]at hu;exact Nat.lt_succ_of_lt hu
   |panicked ch=>cases rs with|nil=>exact ho.elim|cons x l=>cases l<;>exact ho.elim
   |outgrown=>cases rs with|nil=>exact ho.elim|cons x l=>cases l<;>exact ho.elim
  |bf x=>
   cases e with
   |returned val=>exact ho.elim
   |panicked ch=>
    obtain⟨val,rfl,hd⟩:=ho
    have rD:=dk hs k1 (a2.trans k2) (o':=put s.o (mK s.o (V.aR all))) (nx':=s.nx+1) (by rw[tz]) (fun id hu=>by rw[tz]at hu;exact Nat.lt_succ_of_lt hu)
    refine hQ _ _ _ _ val hK rD ?_
    have e1:ad M φ (S.H ⟨s.env,put s.o (mK s.o (V.aR all)),s.nx+1⟩)=ad M φ (s.H.put (cn s.H.o ((V.aR all).filter fun id=>(s.o id).im))):=by rw[tz];rfl
    simp only[V.den]
    rw[e1];exact hd
   |outgrown=>exact ho.elim
 ·exact qz hs cf dO aJ hC hN hQ
 ·obtain⟨f1,f2,f3,f4,f5⟩:=cB hs.heap (cC s.o all) (eL all _ s.o aJ)
  have iQ:s.H.put (cn s.H.o (cC s.o all))=hp (put s.o (cn s.o (cC s.o all))) s.nx:=iq (by rw[ki];exact eL all _ s.o aJ)
  have jC:=zq f1 all _ f3 (V.aB f2 _ _ aJ)
  rw[iQ]at f1 f2 jC
  exact qz (s:=⟨s.env,put s.o (cn s.o (cC s.o all)),s.nx⟩) (dk hs f1 f2 rfl fun id hu=>hu) cf dO jC hC hN hQ
theorem Bu(hs:bI M b7 H0 w0 n cx φ s a w){o:Oper}{c:Call}{f:Operand}(cP:o.op= .call c)(hc:c.callee= .value f)(cf:eK n o.dst)
 (h:tv P s (s.ev f) (c.args.toList.map s.ev) (fun v o' nx'=>K ⟨aO s.env o.dst v,o',nx'⟩) (fun v o' nx'=>X v ⟨s.env,o',nx'⟩))
 (hN:∀s' aj a' w',K s'->bI M b7 H0 w0 n cx aj s' a' w'->next a' w')
 (hQ:∀v s' aj w' val,X v s'->bI M b7 H0 w0 n cx aj s' a w'->V.den (ad M aj s'.H) aj s'.H w' v val->Q (.panic [{v:=val,recovered:=false}]) a w'):o.wpIn (cV ro) k P a w next Q:=by
 refine gJ (fun c' xO=>by rw[cP]at xO;cases xO) ?_
 have hf:=ju (M:=M) (φ:=φ) (H:=s.H) (w:=w) s a hs.env f
 have dh:=gD (M:=M) (φ:=φ) (H:=s.H) (w:=w) s a hs.env c.args.toList
 unfold tv at h
 split at h
 ·rename_i g first cap oN
  rw[oN]at hf
  obtain⟨fa,ca,DU,va,G9⟩:=hf
  have aJ:V.au (ad M φ s.H) φ s.H w (first++c.args.toList.map s.ev++cap) (fa++c.args.map a.eval++ca).toList:=by
   rw[Array.toList_append,Array.toList_append,Array.toList_map]
   exact V.iV va dh G9
  generalize first++c.args.toList.map s.ev++cap=all at h aJ
  generalize jg:fa++c.args.map a.eval++ca=vals at aJ
  have dO:gQ P g->(execOp a.eval o).run P w= .ok (.enter g vals) w:=by
   intro he
   have:=ir (w:=w) he (fa++c.args.map a.eval++ca)
   rw[jg]at this
   simp[execOp,cP,resolve,hc,DU,Deferred.ofValue,invoke,this,jg]
  exact tx hs cf dO aJ h hN hQ
 ·rename_i id oN
  rw[oN]at hf
  obtain⟨_,df,SM⟩:=hf
  obtain⟨a8,hR⟩:=h
  obtain⟨b,cN,DU⟩:=SM a8
  obtain⟨fn,tmps,assign,body,h1,h2⟩:=hR M φ w (c.args.map a.eval) b hs.heap (by rw[Array.toList_map];exact dh) cN
  have dO:(execOp a.eval o).run P w= .ok (.round b fn tmps assign body) w:=by
   simp[execOp,cP,resolve,hc,DU,Deferred.ofValue,invoke,h1]
  rw[dO]
  refine⟨fun hd=>by simp[cV]at hd,RoundIn.mono (h2 (k - 1)) fun e w' ⟨aj,o',nx',v,k1,k2,k3⟩=> ?_⟩
  cases e with
  |returned val=>exact hN _ _ _ _ k3.2 (iU hs k1 k2 k3.1 cf rfl fun id hu=>hu)
  |panicked ch=>
   obtain⟨val,rfl,k4,k5⟩:=k3
   exact hQ _ _ _ _ val k5 (dk hs k1 k2 (o':=o') (nx':=nx') rfl fun id hu=>hu) k4
  |outgrown=>exact k3.elim
 ·exact h.elim
theorem xQ(hs:bI M b7 H0 w0 n cx φ s a w){o:Oper}{c:Call}{r:Operand}{m:String}{g:FuncId}{y:V}(cP:o.op= .call c)(hc:c.callee= .invoke r m)(cf:eK n o.dst)(hr:oL P m (s.ev r)=some (g,y))
 (h:oK P s g (y::c.args.toList.map s.ev) (fun v o' nx'=>K ⟨aO s.env o.dst v,o',nx'⟩) (fun v o' nx'=>X v ⟨s.env,o',nx'⟩))
 (hN:∀s' aj a' w',K s'->bI M b7 H0 w0 n cx aj s' a' w'->next a' w')
 (hQ:∀v s' aj w' val,X v s'->bI M b7 H0 w0 n cx aj s' a w'->V.den (ad M aj s'.H) aj s'.H w' v val->Q (.panic [{v:=val,recovered:=false}]) a w'):o.wpIn (cV ro) k P a w next Q:=by
 refine gJ (fun c' xO=>by rw[cP]at xO;cases xO) ?_
 have hf:=ju (M:=M) (φ:=φ) (H:=s.H) (w:=w) s a hs.env r
 have dh:=gD (M:=M) (φ:=φ) (H:=s.H) (w:=w) s a hs.env c.args.toList
 unfold oL at hr
 split at hr
 ·rename_i t d hx
  rw[hx]at hf
  obtain⟨val,hv,hd⟩:=hf
  split at hr
  ·rename_i ti SN
   split at hr
   ·rename_i mr oO
    split at hr
    ·rename_i f xR
     split at hr
     ·rename_i CN
      injection hr with hr
      injection hr with h1 h2
      subst h1;subst h2
      refine tx (vals:=#[val]++c.args.map a.eval) hs cf ?_ ?_ h hN hQ
      ·intro he
       have dO:=ir (w:=w) he (#[val]++c.args.map a.eval)
       have SO:mr.path=#[]:=Array.isEmpty_iff.1 CN.1
       have hu:∃u,P.underlying t=some u/\∀e,u≠ .pointer e:=by
        have:=CN.2
        unfold CM at this
        split at this
        ·cases this
        ·rename_i u eW hu;exact⟨u,hu,fun e he=>eW e he⟩
        ·cases this
       obtain⟨u,hu,CO⟩:=hu
       have hm:(method (P.types.size+Made.depth) t val m).run P w= .ok (f,val) w:=by
        have:P.types.size+Made.depth=(P.types.size+Made.depth - 1)+1:=by simp[Made.depth]
        rw[this]
        cases u<;>first|exact absurd rfl (CO _)|simp[method,typeInfo,SN,oO,SO,xR,follow,receiverAt,run_underlying hu,_root_.Go.Place.get]
       have h0:(#[Value.iface t val]++Array.map a.eval c.args)[0]? =some (.iface t val):=by
        rw[Array.getElem?_append_left (by simp)];rfl
       have h1:(Array.map a.eval c.args).extract 0 c.args.size=Array.map a.eval c.args:=by
        rw[show c.args.size=(Array.map a.eval c.args).size from by simp,Array.extract_size]
       simp[execOp,cP,resolve,hc,invoke,callMethod,hv,h0,h1,hm,dO]
      ·simp only[Array.toList_append,Array.toList_map]
       exact⟨val,_,rfl,hd,dh⟩
     ·cases hr
    ·cases hr
   ·cases hr
  ·cases hr
 ·cases hr
theorem qA(hs:bI M b7 H0 w0 n cx φ s a w){o:Oper}(h:Oa P n s o X K)
 (hN:∀s' aj a' w',K s'->bI M b7 H0 w0 n cx aj s' a' w'->next a' w')
 (hQ:∀v s' aj w' val,X v s'->bI M b7 H0 w0 n cx aj s' a w'->V.den (ad M aj s'.H) aj s'.H w' v val->Q (.panic [{v:=val,recovered:=false}]) a w'):o.wpIn (cV ro) k P a w next Q:=by
 obtain⟨cf,h⟩:=h
 split at h
 ·rename_i c cP
  split at h
  ·rename_i f hc
   exact Bu hs cP hc cf h hN hQ
  ·rename_i r m hc
   split at h
   ·rename_i g y hr;exact xQ hs cP hc cf hr h hN hQ
   ·exact h.elim
  ·exact zo hs rfl cf h hN
 ·rename_i x cP
  have hx:=ju (M:=M) (φ:=φ) (H:=s.H) (w:=w) s a hs.env x
  have bf:∀ (t:TypeId) (u:Value),a.eval x= .iface t u->Q (.panic [{v:= .iface t u,recovered:=false}]) a w->o.wpIn (cV ro) k P a w next Q:=by
   intro t u hu hq
   refine gJ (fun c hc=>by rw[cP]at hc;cases hc) ?_
   have hr:(execOp a.eval o).run P w= .halt (.panic (.iface t u)) w:=by simp[execOp,cP,hu,Instr.panic]
   rw[hr];exact hq
  split at h
  ·rename_i t y hv
   rw[hv]at hx
   obtain⟨u,hu,hd⟩:=hx
   exact bf t u hu (hQ _ s φ w (.iface t u) h hs ⟨u,rfl,hd⟩)
  ·rename_i t y hv
   rw[hv]at hx
   obtain⟨u,hu,hd⟩:=hx
   exact bf t u hu (hQ _ s φ w (.iface t u) h hs ⟨u,rfl,hd⟩)
  ·exact h.elim
 ·exact zo hs rfl cf h hN
end
end Go.Proofs.YtpkobkdgcanmjaaGreat
namespace Go
def Code.oP (P:Program)(ro:Option Nat)(c:Code)(Q:Exit->Act->World->Prop)(a:Act)(w:World):Prop:=
 ∀ (b:Frame) (k:List Item) (cs:List Frame),b.roundOf=ro->b.fn<P.funcs.size->
   ∃e a' w',Q e a' w'/\ArrivesIn (Machine.fenced P (Proofs.YtpkobkdgcanmjaaGreat.cV ro)) P (lone (b.atR a (.code c::k)) cs w) b k cs e a' w'
end Go
namespace Go.Proofs.YtpkobkdgcanmjaaGreat
instance:LawfulMonad Sem:=LawfulMonad.mk' Sem (id_map:=fun x=>Sem.bind_pure' x) (pure_bind:=fun _ _=>rfl) (bind_assoc:=fun x f g=>Sem.bind_assoc' x f g)
section
variable {P:Program}{M:Nat->Prop}{φ:Place}{H:Hp}{w w':World}{b7:Place}{H0:Hp}{w0:World}{n b:Nat}{s:S}{a:Act}{cx:Cx}{ro:Option Nat}{k:Nat}
theorem l4(hs:bI M b7 H0 w0 n cx φ s a w){ops:Array Oper}{o:Oper}{A B:Prop}(h:rB s ops o.guard A B):
 (Region.wanted o (yielded ops a.tmps)=true->A)/\(Region.wanted o (yielded ops a.tmps)=false->B):=by
 unfold rB at h
 unfold Region.wanted
 split at h
 ·rename_i hg;simp only[hg];exact⟨fun _=>h,fun h=>by cases h⟩
 ·rename_i j want hg
  simp only[hg]
  unfold nd at h
  unfold yielded
  split at h
  ·rename_i d hd
   simp only[hd,Option.bind_some]
   have cO:=hs.env d
   split at h
   ·rename_i c hv
    rw[hv]at cO
    simp only[V.den,D.den]at cO
    have:a.tmps[d]? =some (.bool c):=by
     rw[Array.getD_eq_getD_getElem?]at cO
     cases hx:a.tmps[d]? with
     |none=>rw[hx]at cO;simp[undef]at cO
     |some x=>rw[hx]at cO;simp at cO;rw[cO]
    simp only[this]
    by_cases hc:c=want
    ·subst hc;exact⟨fun _=>h.1 rfl,fun h=>by simp at h⟩
    ·exact⟨fun h'=>absurd (by simpa using h') hc,fun _=>h.2 hc⟩
   ·rename_i hv
    rw[hv]at cO
    obtain⟨arr,bZ,hn⟩:=cO
    simp only[V.au]at hn
    have:∀c,a.tmps[d]? ≠some (.bool c):=by
     intro c hx
     rw[Array.getD_eq_getD_getElem?,hx]at bZ
     simp at bZ
    cases hx:a.tmps[d]? with
    |none=>exact⟨fun h=>by simp at h,fun _=>h⟩
    |some x=>cases x<;>first|(exact absurd hx (this _))|(exact⟨fun h=>by simp at h,fun _=>h⟩)
   ·exact h.elim
  ·rename_i hd
   simp only[hd,Option.bind_none]
   exact⟨fun h=>by simp at h,fun _=>h⟩
theorem tA(hs:bI M b7 H0 w0 n cx φ s a w){dst:Option Tmp}(cf:eK n dst):bI M b7 H0 w0 n cx φ ⟨aO s.env dst (.bQ []),s.o,s.nx+1⟩ (a.put dst undef) w:=
 iU (v:= .bQ []) (val:=undef) hs hs.heap (Trans.refl _ _ _) ⟨#[],rfl,rfl⟩ cf rfl fun _ hu=>Nat.lt_succ_of_lt hu
theorem kY{ops:Array Oper}{X:V->S->Prop}{K:S->Prop}{Q:Exit->Act->World->Prop}
 (hK:∀s φ a w,K s->bI M b7 H0 w0 n cx φ s a w->Q .normal a w)
 (hQ:∀v s' aj a w' val,X v s'->bI M b7 H0 w0 n cx aj s' a w'->V.den (ad M aj s'.H) aj s'.H w' v val->Q (.panic [{v:=val,recovered:=false}]) a w'):
 ∀ (l:List Oper) (s:S) (φ:Place) (a:Act) (w:World),rC P n ops X K l s->bI M b7 H0 w0 n cx φ s a w->wpListIn (cV ro) k P ops Q l a w
 |[],s,φ,a,w,h,hs=>hK s φ a w h hs
 |o::l,s,φ,a,w,h,hs=>by
  obtain⟨h1,h2⟩:=l4 hs h
  unfold wpListIn
  split
  ·rename_i hw
   exact qA hs (h1 hw) (fun s' aj a' w' hk gR=>kY hK hQ l s' aj a' w' hk gR) (fun v s' aj w' val hx gR hd=>hQ v s' aj a w' val hx gR hd)
  ·rename_i hw
   obtain⟨cf,h3⟩:=h2 (by simpa using hw)
   exact⟨fun _ _=>trivial,kY hK hQ l _ _ _ _ h3 (tA hs cf)⟩
def wv(M:Nat->Prop)(b7:Place)(H0:Hp)(w0:World)(n:Nat)(cx:Cx)(Q:fq->S->Prop)(e:Exit)(a:Act)(w:World):Prop:=
 ∃x s φ,Q x s/\bI M b7 H0 w0 n cx φ s a w/\match e,x with
  | .normal, .normal=>True
  | .exit i, .exit j=>i=j
  | .ret, .ret=>True
  | .panic ch, .bf v=>∃val,ch=[{v:=val,recovered:=false}]/\V.den (ad M φ s.H) φ s.H w v val
  |_,_=>False
section
variable {Q:Exit->Act->World->Prop}
theorem eM{m:Nat}:(cV ro).room m:=fun d hd=>by simp[cV]at hd
theorem kZ{c:Code}(h:c.wpIn (cV ro) k P Q a w):c.oP P ro Q a w:=fun b k cs oO _=>h b k cs oO trivial eM
theorem eN{c:Code}{Q':Exit->Act->World->Prop}(h:c.oP P ro Q a w)(hq:∀e a w,Q e a w->Q' e a w):c.oP P ro Q' a w:=
 fun b k cs oO hb=>let⟨e,a',w',q,r⟩:=h b k cs oO hb;⟨e,a',w',hq _ _ _ q,r⟩
theorem wx(h:Q .ret a w):Code.ret.oP P ro Q a w:=kZ (k:=0) (wpIn_ret h)
theorem tC{id:Nat}(h:Q (.exit id) a w):(Code.exit id).oP P ro Q a w:=kZ (k:=0) (wpIn_exit h)
theorem rF{x y:Code}(h:x.oP P ro (Exit.then (y.oP P ro Q) Q) a w):(Code.seq x y).oP P ro Q a w:=by
 intro b k cs oO hb
 have h0:(lone (b.atR a (.code (.seq x y)::k)) cs w).fenced P (cV ro):=fenced_calm (n:=0) trivial eM rfl
 obtain⟨e,fH,ei,hq,bZ⟩:=h b (.code y::k) cs oO hb
 cases e with
 |normal=>
  obtain⟨DV,Ha,mW,l5,gK⟩:=hq b k cs oO hb
  exact⟨DV,Ha,mW,l5, .of_steps (.head h0 stepR_seq bZ) gK⟩
 |exit id=>exact⟨_,fH,ei,hq, .of_steps (.one h0 stepR_seq) (.pass (x:= .code y) rfl (fun _ _=> .inl (by simp)) bZ)⟩
 |goto l=>exact⟨_,fH,ei,hq, .of_steps (.one h0 stepR_seq) (.pass (x:= .code y) rfl (fun _ _=> .inl (by simp)) bZ)⟩
 |ret=>exact⟨_,fH,ei,hq, .of_steps (.one h0 stepR_seq) (.pass (x:= .code y) rfl (fun _ _=> .inl (by simp)) bZ)⟩
 |panic ch=>exact⟨_,fH,ei,hq, .of_steps (.one h0 stepR_seq) (.pass (x:= .code y) rfl (fun _ _=> .inl (by simp)) bZ)⟩
 |outgrown=>exact⟨_,fH,ei,hq, .of_steps (.one h0 stepR_seq) (.pass (x:= .code y) rfl (fun _ _=> .inl (by simp)) bZ)⟩
theorem l6{c:Operand}{x y:Code}{t:Bool}(hc:a.eval c= .bool t)(h:(if t then x else y).oP P ro Q a w):(Code.cond c x y).oP P ro Q a w:=
 fun b k cs oO hb=>let⟨e,a',w',q,r⟩:=h b k cs oO hb;⟨e,a',w',q, .of_steps (.one (fenced_calm (n:=0) trivial eM rfl) (stepR_cond hc)) r⟩
theorem xS{id:Nat}{c:Code}(h:c.oP P ro (Exit.inBlock id Q) a w):(Code.block id c).oP P ro Q a w:=by
 intro b k cs oO hb
 have h0:(lone (b.atR a (.code (.block id c)::k)) cs w).fenced P (cV ro):=fenced_calm (n:=0) trivial eM rfl
 obtain⟨e,fH,ei,hq,bZ⟩:=h b (.inBlock id::k) cs oO hb
 cases e with
 |normal=>exact⟨.normal,fH,ei,hq, .head h0 stepR_block (StepsIn.trans bZ (.one (fenced_calm (n:=0) trivial eM rfl) stepR_inBlock))⟩
 |exit cg=>
  by_cases ah:cg=id
  ·simp only[Exit.inBlock,ah,if_true]at hq
   exact⟨.normal,fH,ei,hq, .head h0 stepR_block (bZ.1 k (by simp[exitTo,ah]))⟩
  ·simp only[Exit.inBlock,ah,if_false]at hq
   have this:(id==cg)=false:=by simp;exact fun h=>ah h.symm
   have hx:exitTo cg (.inBlock id::k)=exitTo cg k:=by simp[exitTo,this]
   exact⟨.exit cg,fH,ei,hq,fun k' hk=> .head h0 stepR_block (bZ.1 k' (by rw[hx];exact hk)),
    fun xL hk=>let⟨k₁,h1,h2⟩:=bZ.2 xL (by rw[hx];exact hk);⟨k₁,h1, .head h0 stepR_block h2⟩⟩
 |goto l=>
  have hx:gotoIn l (.inBlock id::k)=gotoIn l k:=by simp[gotoIn]
  exact⟨_,fH,ei,hq,fun k' hk=> .head h0 stepR_block (bZ.1 k' (by rw[hx];exact hk)),
   fun xL hk=>let⟨k₁,h1,h2⟩:=bZ.2 xL (by rw[hx];exact hk);⟨k₁,h1, .head h0 stepR_block h2⟩⟩
 |ret=>exact⟨_,fH,ei,hq, .of_steps (.one h0 stepR_block) bZ⟩
 |panic ch=>exact⟨_,fH,ei,hq, .of_steps (.one h0 stepR_block) bZ⟩
 |outgrown=>exact⟨_,fH,ei,hq, .of_steps (.one h0 stepR_block) bZ⟩
theorem ey{b:Frame}{k:List Item}{cs:List Frame}{c:Code}:step P (lone (b.atR a (.code (.scope c)::k)) cs w)= .next (lone (b.atR a (.code c:: .inScope c::k)) cs w):=
 step_lone_go (by simp[stepG,stepG.exec,Frame.atR])
theorem qd{b:Frame}{k:List Item}{cs:List Frame}{c:Code}:step P (lone (b.atR a (.inScope c::k)) cs w)= .next (lone (b.atR a k) cs w):=
 step_lone_go (by simp[stepG,stepG.exec,Frame.atR])
theorem xT{c:Code}(h:c.oP P ro Q a w)(hg:∀l a w, ¬Q (.goto l) a w):(Code.scope c).oP P ro Q a w:=by
 intro b k cs oO hb
 have h0:(lone (b.atR a (.code (.scope c)::k)) cs w).fenced P (cV ro):=fenced_calm (n:=0) trivial eM rfl
 obtain⟨e,fH,ei,hq,bZ⟩:=h b (.inScope c::k) cs oO hb
 cases e with
 |normal=>exact⟨.normal,fH,ei,hq, .head h0 ey (StepsIn.trans bZ (.one (fenced_calm (n:=0) trivial eM rfl) qd))⟩
 |exit cg=>
  have hx:exitTo cg (.inScope c::k)=exitTo cg k:=by simp[exitTo]
  exact⟨.exit cg,fH,ei,hq,fun k' hk=> .head h0 ey (bZ.1 k' (by rw[hx];exact hk)),
   fun xL hk=>let⟨k₁,h1,h2⟩:=bZ.2 xL (by rw[hx];exact hk);⟨k₁,h1, .head h0 ey h2⟩⟩
 |goto l=>exact(hg _ _ _ hq).elim
 |ret=>exact⟨_,fH,ei,hq, .of_steps (.one h0 ey) bZ⟩
 |panic ch=>exact⟨_,fH,ei,hq, .of_steps (.one h0 ey) bZ⟩
 |outgrown=>exact⟨_,fH,ei,hq, .of_steps (.one h0 ey) bZ⟩
def oQ(P:Program)(l:Nat)(Q:Exit->Act->World->Prop)(a':Act):Ending->World->Prop
 | .returned _,vl=>∃jump nL,(Instr.endLoop l).run P vl= .ok jump nL/\(match jump with|none=>Q .normal a' nL|some c=>c.oP P none Q a' nL)
 | .panicked chain,vl=>Q (.panic chain) a' vl
 | .outgrown,_=>LetsOut Q
theorem qe{g:Operand}{ps:Array Tmp}{assign body:Code}
 (h:∀fn,fn<P.funcs.size->∃ (l:Nat) (mark:List Deferred) (ei:World) (d:Deferred) (qB:World) (f:FuncId) (args:Array Value) (mW:World),
  (Instr.enterLoop fn a.tmps ps assign body (cV none).round).run P w= .ok (l,mark) ei/\(resolve a.eval (rangeCall g l) 0).run P ei= .ok d qB/\
  (invoke d.target d.args).run P qB= .ok (.enter f args) mW/\CallsIn (cV none) 0 P f args mW (oQ P l Q {a with defers:=mark++a.defers})):
 (Code.rangeFunc g ps assign body).oP P none Q a w:=by
 intro b k cs oO hb
 obtain⟨l,mark,ei,d,qB,f,args,mW,he,tD,hinv,hF,dF⟩:=h b.fn hb
 rw[show(cV none).round=b.roundOf from oO.symm]at he
 have calm:∀ (m:Machine),m.fenced P (cV none)↔m.fenced P Fence.wide:=fun m=>Iff.rfl
 have h0:(lone (b.atR a (.code (.rangeFunc g ps assign body)::k)) cs w).fenced P (cV none):=(calm _).2 (fenced_wide P _)
 have iW:=stepR_rangeFunc (P:=P) (b:=b) (a:=a) (k:=k) (cs:=cs) (w:=w) he tD hinv
 obtain⟨e,vl,fr,hR,vm,xR,zr⟩:=dF (b.atR {a with defers:=mark++a.defers} (.inRangeFunc l::k)::cs) eM
 cases e with
 |outgrown=>
  obtain⟨Ob,Oc,hq⟩:=hR
  exact⟨.outgrown,Ob,Oc,hq, .inr (Outgrown.of_steps (.one iW) vm)⟩
 |returned v=>
  obtain⟨jump,nL,oR,hj⟩:=hR
  have CP:StepsIn (Machine.fenced P (cV none)) P (lone (b.atR a (.code (.rangeFunc g ps assign body)::k)) cs w) (lone (b.atR {a with defers:=mark++a.defers} ((jump.map Item.code).toList++k)) cs nL):=by
   refine .head h0 iW (StepsIn.trans vm (.head ((calm _).2 (fenced_wide P _)) ?_ (.one ((calm _).2 (fenced_wide P _)) (stepR_endRangeFunc oR))))
   rw[<- finish_atR_inRangeFunc l v];exact step_leave_returned zr
  cases jump with
  |none=>exact⟨.normal,_,nL,hj,CP⟩
  |some c=>
   obtain⟨e',SP,Od,hq,bZ⟩:=hj b k cs oO hb
   exact⟨e',SP,Od,hq, .of_steps CP bZ⟩
 |panicked chain=>
  refine⟨.panic chain,_,vl,hR, .inRangeFunc l::k, .head h0 iW (StepsIn.trans vm (.one ((calm _).2 (fenced_wide P _)) ?_))⟩
  rw[<- Frame.raise_atR];exact step_leave_panicked zr
end
theorem qC(hH:ai M φ H w){id l:Nat}(df:H.us id){nf m:Nat}{env:List V}{ps:List Nat}{kA gB:IC}{st st':LoopState}{pd pd':Option lz}(ho:H.o id= .loop nf m env ps kA gB st pd)(cN:φ id= .pointer (some ⟨l,0,none⟩)):
 ∃r,w.heap[l]? =some (.loop r)/\r.state=st/\r.pending=pd.map lz.code/\
  ai M φ (H.put [(id, .loop nf m env ps kA gB st' pd')]) {w with heap:=w.heap.setIfInBounds l (.loop {r with state:=st',pending:=pd'.map lz.code})}/\
  Trans φ H w φ (H.put [(id, .loop nf m env ps kA gB st' pd')]) {w with heap:=w.heap.setIfInBounds l (.loop {r with state:=st',pending:=pd'.map lz.code})}:=by
 have ba:=hH.ok id
 simp only[aC,ho]at ba
 obtain⟨b,r,h1,h2,h0,h3,h4,h5,h6,h7,h8,h9⟩:=ba
 rw[cN]at h1;simp at h1;subst h1
 refine⟨r,h2,h3,h4, ?_⟩
 have zf:dJ (· =l) w {w with heap:=w.heap.setIfInBounds l (.loop {r with state:=st',pending:=pd'.map lz.code})}:=
  ⟨rfl,rfl,rfl,by simp,fun j _ hj=>(MapKept.heap_set h2).2 j hj⟩
 have rr:(H.o id).live=true:=by rw[ho];rfl
 have uY:dz (φ id)=some l:=by rw[cN];rfl
 have ht:=eh (w:=w) (w':={w with heap:=w.heap.setIfInBounds l (.loop {r with state:=st',pending:=pd'.map lz.code})}) df rr uY zf (.loop nf m env ps kA gB st' pd') (by rw[ho];rfl) (by rw[ho];rfl)
 refine⟨fL hH df rr uY zf _ (by rw[ho];rfl) (by rw[ho];rfl) ?_,ht⟩
 unfold aC
 simp only[a7,aE,if_true]
 exact⟨l,_,cN,(MapKept.heap_set h2).1,h0,rfl,rfl,h5,h6,h7,h8,fun i=>V.ax ht _ _ (h9 i)⟩
theorem fu{l:Nat}{r:Loop}(o:Obj)(hb:w.heap[l]? =some (.loop r)):(setObj l o).run P w= .ok () {w with heap:=w.heap.setIfInBounds l o}:=by
 simp[setObj,Sem.run,hb]
theorem gL{l:Nat}{r:Loop}(hb:w.heap[l]? =some (.loop r)):(Instr.getLoop l).run P w= .ok r w:=by
 simp[Instr.getLoop,getObj,Sem.run,hb,Result.andThen]
end
def DW(Q:fq->S->Prop)(pd:Option lz)(s:S):Prop:=
 match pd with
 |none=>Q .normal s
 |some .ret=>Q .ret s
 |some (.exit id)=>Q (.exit id) s
def vn(P:Program)(n:Nat)(g:V)(ps:List Nat)(kA gB:IC)(Q:fq->S->Prop)(s:S):Prop:=
 ∃env,(∀i,bD env i= .ak\/bD env i=s.env i)/\
  match g with
  | .func (.func f) first cap=>jB P f (first++[.j7 s.nx]++cap) (aQ s.o s.nx (.loop P.funcs.size n env ps kA gB .ready none)) (s.nx+1)
    (fun _ o' nx'=>∃nf m e p c d st pd,o' s.nx= .loop nf m e p c d st pd/\st≠ .busy/\DW Q pd ⟨s.env,aQ o' s.nx (.loop nf m e p c d .exhausted pd),nx'⟩)
    (fun v o' nx'=>Q (.bf v) ⟨s.env,o',nx'⟩)
  |_=>False
def fA(P:Program)(n b:Nat)(rd:Bool):Code->(fq->S->Prop)->S->Prop
 | .skip,Q,s=>Q .normal s
 | .label _,Q,s=>Q .normal s
 | .scope x,Q,s=>fA P n b rd x Q s
 | .region _ ops false,Q,s=>rC P n ops (fun v s=>Q (.bf v) s) (Q .normal) ops.toList s
 | .region id ops true,Q,s=>∀M b7 H0 w0 cx φ a w ro k,bI M b7 H0 w0 n cx φ s a w->(Code.region id ops true).wpIn (cV ro) k P (wv M b7 H0 w0 n cx Q) a w
 | .seq x y,Q,s=>fA P n b rd x (l3 (fA P n b rd y Q) Q) s
 | .cond c x y,Q,s=>match s.ev c with
   | .d (.bool t)=>(t=true->fA P n b rd x Q s)/\(t=false->fA P n b rd y Q s)
   | .dB=>fA P n b rd x Q s/\fA P n b rd y Q s
   |_=>False
 | .block id x,Q,s=>fA P n b rd x (dT id Q) s
 | .loop x,Q,s=>∃ (J:Nat->S->Prop),(∃m s1,cR b s s1/\J m s1)/\∀m s0,J m s0->fA P n b rd x (fun e s=>match e with| .normal=>∃m' s1,m'<m/\cR b s s1/\J m' s1|e=>Q e s) s0
 | .exit id,Q,s=>Q (.exit id) s
 | .ret,Q,s=>Q .ret s
 | .rangeFunc g ps x y,Q,s=>rd=false/\vn P n (s.ev g) ps.toList (low n x) (low n y) Q s
 |_,_,_=>False
section
variable {P:Program}{M:Nat->Prop}{φ:Place}{H:Hp}{w w':World}{b7:Place}{H0:Hp}{w0:World}{n b:Nat}{s:S}{a:Act}{cx:Cx}{ro:Option Nat}{k:Nat}
theorem zt(hb:∀id,H0.us id->id<b)(hs:bI M b7 H0 w0 n cx φ s a w){s':S}(h:cR b s s'):∃aj,bI M b7 H0 w0 n cx aj s' a w:=by
 obtain⟨aj,h1,h2,h3,h4,h5,h6⟩:=h M φ w (fun i=>a.tmps.getD i undef) hs.heap hs.env
 refine⟨aj,h1,⟨hs.tr.bU,fun k hk=>hs.tr.grow k (h3 k hk),⟨fun id hu=>Nat.lt_of_lt_of_le (hb id hu) h4,fun id hu hr=> ?_,fun id e' hu he=> ?_⟩⟩,hs.size, ?_,h2⟩
 ·obtain⟨g1,g2⟩:=h5 id (hb id hu) hr
  obtain⟨g3,g4⟩:=hs.tr.rel.row id hu g1
  exact⟨g3,g2.trans g4⟩
 ·obtain⟨e,g1,g2,g3⟩:=h6 id e' (hb id hu) he
  obtain⟨e0,k1,k2,k3⟩:=hs.tr.rel.ep id e hu g1
  refine⟨e0,k1,Nat.le_trans k2 g2,fun heq=> ?_⟩
  have a1:e0=e:=by omega
  have a2:e=e':=by omega
  exact(g3 a2).trans (k3 a1)
 ·obtain⟨ms,g1,g2,g3,g4⟩:=hs.defers
  exact⟨ms,g1,g2,g3,fun r hr=>⟨(g4 r hr).1,(g4 r hr).2.1,fun hl=>(g4 r hr).2.2 (h3 r hl)⟩⟩
theorem rG{c:Code}{Q:Exit->Act->World->Prop}(J:Nat->Act->World->Prop)(round:∀m a w,J m a w->c.oP P ro (Exit.then (fun a' w'=>∃m',m'<m/\J m' a' w') Q) a w):
 ∀m a w,J m a w->(Code.loop c).oP P ro Q a w:=by
 intro m a w h0 fr kk cs oO hb
 have hr:(cV ro).room (cs.length+1+0):=fun d hd=>by simp[cV]at hd
 have key:∀m a w,J m a w->∃e a' w',Q e a' w'/\ArrivesIn (Machine.fenced P (cV ro)) P (lone (fr.atR a (.code c:: .inLoop c::kk)) cs w) fr kk cs e a' w':=by
  intro m
  induction m using Nat.strongRecOn with
  |_ m ih=>
   intro a w hJ
   obtain⟨e,a1,w1,hq,bZ⟩:=round m a w hJ fr (.inLoop c::kk) cs oO hb
   cases e with
   |normal=>
    obtain⟨m',bz,SQ⟩:=hq
    obtain⟨e2,a2,w2,FE,wy⟩:=ih m' bz a1 w1 SQ
    exact⟨e2,a2,w2,FE, .of_steps (StepsIn.trans bZ (.one (fenced_calm trivial hr rfl) stepR_inLoop)) wy⟩
   |_=>exact⟨_,a1,w1,hq, .pass (x:= .inLoop c) rfl (fun _ _=> .inl (by simp)) bZ⟩
 obtain⟨e,a',w',hq,bZ⟩:=key m a w h0
 exact⟨e,a',w',hq, .of_steps (.one (fenced_calm trivial hr rfl) stepR_loop) bZ⟩
theorem xU(hs:bI M b7 H0 w0 n cx φ s a w)(kD:cx.rd=false)(oO:ro=none){g:Operand}{ps:Array Tmp}{x y:Code}{Q:fq->S->Prop}(h:vn P n (s.ev g) ps.toList (low n x) (low n y) Q s):
 (Code.rangeFunc g ps x y).oP P ro (wv M b7 H0 w0 n cx Q) a w:=by
 subst oO
 obtain⟨env,cO,h⟩:=h
 refine qe fun fn xR=> ?_
 let vo:Loop:={state:= .ready,pending:=none,fn:=fn,tmps:=a.tmps,params:=ps,assign:=x,body:=y,defers:=w.heap.size}
 let w1:World:=(w.alloc (.deferred (some []))).alloc (.loop vo)
 let l:Nat:=w.heap.size+1
 have iW:(Instr.enterLoop fn a.tmps ps x y (cV none).round).run P w= .ok (l,[mark w.heap.size]) w1:=by
  simp[Instr.enterLoop,cV,mark,w1,l,vo]
 have Q5:dJ (fun _=>False) w w1:=by
  have k1:=ct w (.deferred (some []))
  have k2:=ct (w.alloc (.deferred (some []))) (.loop vo)
  exact⟨k2.os.trans k1.os,k2.tape.trans k1.tape,k2.output.trans k1.output,Nat.le_trans k1.size k2.size,fun j hj hm=>(k2.block j (Nat.lt_of_lt_of_le hj k1.size) hm).trans (k1.block j hj hm)⟩
 let fm:=aQ φ s.nx (.pointer (some ⟨l,0,none⟩))
 let s1:S:=⟨s.env,aQ s.o s.nx (.loop P.funcs.size n env ps.toList (low n x) (low n y) .ready none),s.nx+1⟩
 have c0: ¬s.H.us s.nx:=by simp[S.H]
 have dt:∀b,dz (.pointer (some ⟨l,0,none⟩))=some b->w.heap.size<=b/\b<w1.heap.size:=by
  intro b hb;simp[dz]at hb;subst hb;simp[l,w1]
 have sI:=dL (φ:=φ) (H:=s.H) Q5 c0 (.loop P.funcs.size n env ps.toList (low n x) (low n y) .ready none) (.pointer (some ⟨l,0,none⟩)) fun b hb=>(dt b hb).1
 have Bo:(w.alloc (.deferred (some []))).heap.size=w.heap.size+1:=by simp
 have rr:w1.heap[l]? =some (.loop vo):=by
  have:=heap_alloc_new (w.alloc (.deferred (some []))) (.loop vo)
  rwa [Bo]at this
 have SR:=fX hs.heap Q5 c0 (.loop P.funcs.size n env ps.toList (low n x) (low n y) .ready none) (.pointer (some ⟨l,0,none⟩)) dt (by
  unfold aC
  simp only[a7,aE,if_true]
  refine⟨l,vo,rfl,rr,xR,rfl,rfl,rfl,hs.size,rfl,rfl,fun i=> ?_⟩
  rcases cO i with e|e
  ·rw[e];trivial
  ·rw[e];exact V.ax sI _ _ (hs.env i))
 have qD:bI M b7 H0 w0 n cx fm s1 {a with defers:=mark w.heap.size::a.defers} w1:=by
  have base:=dk hs SR sI (o':=aQ s.o s.nx (.loop P.funcs.size n env ps.toList (low n x) (low n y) .ready none)) (nx':=s.nx+1) rfl (zn fun id ah=>by simp at ah;exact .inr ah)
  refine⟨base.heap,base.tr,base.size, ?_,base.env⟩
  obtain⟨ms,g1,g2,g3,g4⟩:=base.defers
  obtain⟨Oe,q1,q2,q3,q4⟩:=hs.defers
  have SS:ms.map mark=Oe.map mark:=by
   have:ms.map mark++cx.base=Oe.map mark++cx.base:=g1.symm.trans q1
   exact List.append_cancel_right this
  have rH:ms=Oe:=by
   have hm:∀a b,mark a=mark b->a=b:=fun a b h=>by simpa[mark]using h
   exact List.map_inj_right hm |>.1 SS
  refine⟨w.heap.size::ms,by rw[g1];rfl,List.nodup_cons.2 ⟨fun hm=> ?_,g2⟩,(fun h=>by rw[kD]at h;cases h),fun r hr=> ?_⟩
  ·have:=(q4 w.heap.size (rH ▸ hm)).2.1
   rw[Array.getElem?_eq_none (Nat.le_refl _)]at this;cases this
  ·rcases List.mem_cons.1 hr with rfl|hr
   ·refine⟨hs.tr.bU.size,(RowKit.Below.heap_alloc (w.alloc (.deferred (some []))) (.loop vo) w.heap.size (by rw[Bo];omega)).trans (heap_alloc_new w _), ?_⟩
    rintro⟨id,i1,i2⟩
    by_cases e:id=s.nx
    ·subst e;simp[fm,dz,l]at i2
    ·have SU:(s.H.o id).live=true:=by simpa[s1,S.H,e]using i1
     have SV:dz (φ id)=some w.heap.size:=by simpa[fm,e]using i2
     have:=(hs.heap.ours _ ⟨id,SU,SV⟩).2
     omega
   ·exact g4 r hr
 have Of:V.den (ad M fm s1.H) fm s1.H w1 (.j7 s.nx) (.func (.yield l) #[] #[]):=
  ⟨rfl,by simp[s1,S.H],fun _=>⟨l,by simp[fm],rfl⟩⟩
 have hg:=ju (M:=M) (φ:=fm) (H:=s1.H) (w:=w1) s1 {a with defers:=mark w.heap.size::a.defers} qD.env g
 have Og:s1.ev g=s.ev g:=by cases g<;>rfl
 rw[Og]at hg
 have SW:({a with defers:=mark w.heap.size::a.defers}:Act).eval g=a.eval g:=rfl
 rw[SW]at hg
 split at h
 ·rename_i f first cap SX
  rw[SX]at hg
  obtain⟨fa,ca,DU,va,G9⟩:=hg
  have fin:∀ (all:List V) (o2:Nat->aa) (s2:S),s2=⟨s.env,o2,s.nx+1⟩->bI M b7 H0 w0 n cx fm s2 {a with defers:=mark w.heap.size::a.defers} w1->V.au (ad M fm s2.H) fm s2.H w1 all (fa++#[Value.func (.yield l) #[] #[]]++ca).toList->(o2 s.nx).bp=true->
   ft P f all o2 (s.nx+1) (fun _ o' nx'=>∃nf m e p c d st pd,o' s.nx= .loop nf m e p c d st pd/\st≠ .busy/\DW Q pd ⟨s.env,aQ o' s.nx (.loop nf m e p c d .exhausted pd),nx'⟩) (fun v o' nx'=>Q (.bf v) ⟨s.env,o',nx'⟩)->
   ∃ (l:Nat) (mark:List Deferred) (ei:World) (d:Deferred) (qB:World) (f:FuncId) (args:Array Value) (mW:World),
     (Instr.enterLoop fn a.tmps ps x y (cV none).round).run P w= .ok (l,mark) ei/\(resolve a.eval (rangeCall g l) 0).run P ei= .ok d qB/\
     (invoke d.target d.args).run P qB= .ok (.enter f args) mW/\CallsIn (cV none) 0 P f args mW (oQ P l (wv M b7 H0 w0 n cx Q) {a with defers:=mark++a.defers}):=by
   intro all o2 s2 Oh A5 aJ a8 hC
   subst Oh
   have dF:=hC.2 M fm w1 _ A5.heap aJ
   refine⟨l,[mark w.heap.size],w1,{target:= .fn (.func f) ca,args:=fa++#[Value.func (.yield l) #[] #[]]},w1,f,fa++#[Value.func (.yield l) #[] #[]]++ca,w1,iW, ?_, ?_,cy (dF.mono fun e w' ⟨aj,o',nx',v,k1,k2,k3⟩=> ?_)⟩
   ·simp only[resolve,DU,Deferred.ofValue,List.map_toArray,List.map_cons,List.map_nil,Sem.run_pure]
    rfl
   ·simp[invoke,ir hC.1]
   ·cases e with
    |returned val=>
     obtain⟨k4,nf,m,e,p,c,d,st,pd,k5,k6,k7⟩:=k3
     have wz:bI M b7 H0 w0 n cx aj ⟨s.env,o',nx'⟩ {a with defers:=mark w.heap.size::a.defers} w':=dk A5 k1 k2 rfl fun id hu=>hu
     have DX:aj s.nx= .pointer (some ⟨l,0,none⟩):=by
      have:=(k2.rel.row s.nx (show s.nx<s.nx+1 by omega) (by show(o' s.nx).bp=true;rw[k5];rfl)).2
      rw[this];simp[fm]
     have bz:s.nx<nx':=k2.rel.us s.nx (show s.nx<s.nx+1 by omega)
     obtain⟨r,r1,r2,r3,r4,r5⟩:=qC (st':= .exhausted) (pd':=pd) k1 bz (show(hp o' nx').o s.nx=_ from k5) DX
     have oR:(Instr.endLoop l).run P w'= .ok (pd.map lz.code) {w' with heap:=w'.heap.setIfInBounds l (.loop {r with state:= .exhausted,pending:=pd.map lz.code})}:=by
      have e1:({r with state:= .exhausted}:Loop)={r with state:= .exhausted,pending:=pd.map lz.code}:=by rw[<- r3]
      have SY:(r.state==LoopState.busy)=false:=by rw[r2];cases st<;>first|rfl|exact absurd rfl k6
      simp only[Instr.endLoop,Sem.run_bind,gL r1,Result.andThen_ok,SY,Bool.false_eq_true,if_false,Sem.run_pure]
      rw[fu _ r1,e1]
      simp[r3]
     have FF:=dk wz r4 r5 (o':=aQ o' s.nx (.loop nf m e p c d .exhausted pd)) (nx':=nx') rfl fun id hu=>by
      simp only[cZ]at hu
      rcases hu with hu|hu
      ·exact hu
      ·subst hu;exact bz
     refine⟨pd.map lz.code,_,oR, ?_⟩
     cases pd with
     |none=>exact⟨.normal,_,_,k7,FF,trivial⟩
     |some j=>
      cases j with
      |ret=>exact wx ⟨.ret,_,_,k7,FF,trivial⟩
      |exit id=>exact tC ⟨.exit id,_,_,k7,FF,rfl⟩
    |panicked ch=>
     obtain⟨val,rfl,k4,k5⟩:=k3
     have wz:bI M b7 H0 w0 n cx aj ⟨s.env,o',nx'⟩ {a with defers:=mark w.heap.size::a.defers} w':=dk A5 k1 k2 rfl fun id hu=>hu
     exact⟨.bf v,_,_,k5,wz,val,rfl,k4⟩
    |outgrown=>exact k3.elim
  have jC:V.au (ad M fm s1.H) fm s1.H w1 (first++[V.j7 s.nx]++cap) (fa++#[Value.func (.yield l) #[] #[]]++ca).toList:=by
   rw[Array.toList_append,Array.toList_append]
   exact V.iV va ⟨_,[],rfl,Of,rfl⟩ G9
  rcases h with hC|hC
  ·exact fin _ _ s1 rfl qD jC (by simp;rfl) hC
  ·have hU:s1.o=aQ s.o s.nx (.loop P.funcs.size n env ps.toList (low n x) (low n y) .ready none):=rfl
   obtain⟨f1,f2,f3,f4,f5⟩:=cB qD.heap (cC s1.o (first++[V.j7 s.nx]++cap)) (eL _ _ s1.o jC)
   have iQ:s1.H.put (cn s1.H.o (cC s1.o (first++[V.j7 s.nx]++cap)))=hp (put s1.o (cn s1.o (cC s1.o (first++[V.j7 s.nx]++cap)))) s1.nx:=iq (by rw[ki];exact eL _ _ s1.o jC)
   have CQ:=zq f1 _ _ f3 (V.aB f2 _ _ jC)
   have CS:((s1.H.put (cn s1.H.o (cC s1.o (first++[V.j7 s.nx]++cap)))).o s.nx).bp=true:=by
    by_cases hm:s.nx∈cC s1.o (first++[V.j7 s.nx]++cap)
    ·rw[f3 _ hm];simp[s1,S.H,aa.fz,aa.bp]
    ·rw[f4 _ hm];simp[s1,S.H,aa.bp]
   rw[iQ]at f1 f2 CQ CS
   exact fin _ (put s1.o (cn s1.o (cC s1.o (first++[V.j7 s.nx]++cap)))) ⟨s.env,_,s.nx+1⟩ rfl (dk qD f1 f2 rfl fun id hu=>hu) CQ CS hC
 ·exact h.elim
end
end Go.Proofs.YtpkobkdgcanmjaaGreat
