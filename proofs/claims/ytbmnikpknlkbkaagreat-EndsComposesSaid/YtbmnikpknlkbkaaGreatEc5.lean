/-
  A PART OF THE PROOF. Conditions: none.
-/
import Derived.RangeFuncLeaves
import Derived.TacticsIn
import Derived.RecoverIn
import Derived.Test.YtbmnikpknlkbkaaGreatEc4
set_option linter.unusedSimpArgs false
set_option linter.unusedVariables false
namespace Go.Proofs.YtbmnikpknlkbkaaGreat
inductive R where
 |ret (ds:List D)|ba (d:D)
def R.is (B:Nat->Prop)(w:World):R->Ending->Prop
 | .ret [x], .returned v=>D.den B w x v
 | .ret ds, .returned v=>∃a,v= .tuple a/\D.ak B w ds a.toList
 | .ba d, .panicked chain=>∃v,chain=[{v:=v,recovered:=false}]/\D.den B w d v
 |_,_=>False
def gx(P:Program)(f:FuncId):Prop:=∃fn,P.funcs[f]? =some fn/\(fn.name== "runtime.NumGoroutine")=false/\fn.body.isNone=false
def cQ(P:Program)(f:FuncId)(ds:List D)(out:R):Prop:=
 gx P f/\∀ (M:Nat->Prop) (w:World) (vals:Array Value),(∀b,M b->b<w.heap.size)->D.ak M w ds vals.toList->
  Calls P f vals w fun e w'=>df (fun _=>False) w w'/\out.is M w' e
def hp(o:Nat->aa)(nx:Nat):Hp:=⟨o,fun id=>id<nx⟩
def iV(M:Nat->Prop)(φ:Place)(H:Hp)(w:World)(K X:V->(Nat->aa)->Nat->Prop)(e:Ending)(w':World):Prop:=
 ∃ai o' nx' v,af M ai (hp o' nx') w'/\Trans φ H w ai (hp o' nx') w'/\match e with
  | .returned val=>V.den (ad M ai (hp o' nx')) ai (hp o' nx') w' v val/\K v o' nx'
  | .panicked ch=>∃val,ch=[{v:=val,recovered:=false}]/\V.den (ad M ai (hp o' nx')) ai (hp o' nx') w' v val/\X v o' nx'
  | .outgrown=>False
def j8(P:Program)(f:FuncId)(args:List V)(o:Nat->aa)(nx:Nat)(K X:V->(Nat->aa)->Nat->Prop):Prop:=
 gx P f/\∀ (M:Nat->Prop) (φ:Place) (w:World) (vals:Array Value),af M φ (hp o nx) w->V.ak (ad M φ (hp o nx)) φ (hp o nx) w args vals.toList->
  Calls P f vals w (iV M φ (hp o nx) w K X)
def dF(P:Program)(id:Nat)(args:List V)(o:Nat->aa)(nx:Nat)(K X:V->(Nat->aa)->Nat->Prop):Prop:=
 (o id).bc=true/\∀ (M:Nat->Prop) (φ:Place) (w:World) (vals:Array Value) (b:Nat),af M φ (hp o nx) w->V.ak (ad M φ (hp o nx)) φ (hp o nx) w args vals.toList->φ id= .pointer (some ⟨b,0,none⟩)->
  ∃f tmps assign body,(Instr.yield b vals).run P w= .ok (.round b f tmps assign body) w/\∀n,RoundIn Fence.wide n P b f tmps assign body w (iV M φ (hp o nx) w K X)
theorem iV.mono {M:Nat->Prop}{φ:Place}{H:Hp}{w:World}{K X K' X':V->(Nat->aa)->Nat->Prop}(hK:∀v o n,K v o n->K' v o n)(hX:∀v o n,X v o n->X' v o n){e:Ending}{w':World}(h:iV M φ H w K X e w'):iV M φ H w K' X' e w':=by
 obtain⟨ai,o',nx',v,h1,h2,h3⟩:=h
 refine⟨ai,o',nx',v,h1,h2, ?_⟩
 cases e with
 |returned val=>exact⟨h3.1,hK _ _ _ h3.2⟩
 |panicked ch=>obtain⟨val,a,b,c⟩:=h3;exact⟨val,a,b,hX _ _ _ c⟩
 |outgrown=>exact h3
theorem j8.mono {P:Program}{f:FuncId}{args:List V}{o:Nat->aa}{nx:Nat}{K X K' X':V->(Nat->aa)->Nat->Prop}(hK:∀v o n,K v o n->K' v o n)(hX:∀v o n,X v o n->X' v o n)(h:j8 P f args o nx K X):j8 P f args o nx K' X':=
 ⟨h.1,fun M φ w vals h1 h2=>(h.2 M φ w vals h1 h2).mono fun _ _ h=>h.mono hK hX⟩
theorem dF.mono {P:Program}{id:Nat}{args:List V}{o:Nat->aa}{nx:Nat}{K X K' X':V->(Nat->aa)->Nat->Prop}(hK:∀v o n,K v o n->K' v o n)(hX:∀v o n,X v o n->X' v o n)(h:dF P id args o nx K X):dF P id args o nx K' X':=
 ⟨h.1,fun M φ w vals b h1 h2 h3=>let⟨f,t,a,c,h4,h5⟩:=h.2 M φ w vals b h1 h2 h3;⟨f,t,a,c,h4,fun n=>(h5 n).mono fun _ _ h=>h.mono hK hX⟩⟩
mutual
def D.flat:D->Bool
 | .sl _| .mp _ _=>false
 | .agg cs=>D.gm cs
 | .iface _ x=>x.flat
 |_=>true
def D.gm:List D->Bool
 |[]=>true
 |x::xs=>x.flat&&D.gm xs
end
mutual
theorem D.kV {B B':Nat->Prop}{w w':World}:∀ (x:D) (v:Value),x.flat=true->D.den B w x v->D.den B' w' x v
 | .int _ _,_,_,h| .bool _,_,_,h| .str _,_,_,h| .dS,_,_,h| .fe,_,_,h| .aM,_,_,h| .cY,_,_,h=>h
 | .agg cs,_,hf,h=>by obtain⟨a,rfl,h,h2⟩:=h;exact⟨a,rfl,D.ir cs _ hf h,h2⟩
 | .sl es,_,hf,h=>by simp[D.flat]at hf
 | .mp _ _,_,hf,h=>by simp[D.flat]at hf
 | .iface t x,_,hf,h=>by obtain⟨u,rfl,h⟩:=h;exact⟨u,rfl,D.kV x u hf h⟩
theorem D.ir {B B':Nat->Prop}{w w':World}:∀ (xs:List D) (vs:List Value),D.gm xs=true->D.ak B w xs vs->D.ak B' w' xs vs
 |[],_,_,h=>h
 |x::xs,_,hf,h=>by
  obtain⟨u,us,rfl,h1,h2⟩:=h
  simp only[D.gm,Bool.and_eq_true]at hf
  exact⟨u,us,rfl,D.kV x u hf.1 h1,D.ir xs us hf.2 h2⟩
end
mutual
def D.iW:D->Bool
 | .mp _ _=>false
 | .agg cs=>D.iu cs
 | .sl es=>D.iu es
 | .iface _ x=>x.iW
 |_=>true
def D.iu:List D->Bool
 |[]=>true
 |x::xs=>x.iW&&D.iu xs
end
theorem eo.rq {B B':Nat->Prop}{w w':World}{a:Addr}{cs:Array Value}
 (hb:∀b,kz w b-> ¬B b->w'.heap[b]? =w.heap[b]? /\ ¬B' b) (h:eo B w a cs):eo B' w' a cs:=by
 intro j u hj
 obtain⟨h1,h2⟩:=h j u hj
 have br:kz w a.block:=by simpa using jL h1
 obtain⟨h3,h4⟩:=hb _ br h2
 exact⟨by rw[World.cell?_of_block (w:=w) (w':=w') (a:=a.add j) (by simpa using h3)];exact h1,h4⟩
mutual
theorem D.gP {B B':Nat->Prop}{w w':World}(hb:∀b,kz w b-> ¬B b->w'.heap[b]? =w.heap[b]? /\ ¬B' b):
 ∀ (x:D) (v:Value),x.iW=true->D.den B w x v->D.den B' w' x v
 | .int _ _,_,_,h| .bool _,_,_,h| .str _,_,_,h| .dS,_,_,h| .fe,_,_,h| .aM,_,_,h| .cY,_,_,h=>by simpa[D.den]using h
 | .agg cs,_,hn,h=>by
   obtain⟨a,rfl,h,hf⟩:=h
   exact⟨a,rfl,D.iX hb cs _ hn h,hf⟩
 | .sl es,_,hn,h=>by
   obtain⟨base,len,cap,rfl,h1,h2,h3,sz,h4⟩:=h
   exact⟨base,len,cap,rfl,h1,h2,h3,sz,fun a ha=>⟨(h4 a ha).1,D.kW hb sz a es 0 hn (h4 a ha).2⟩⟩
 | .iface t d,_,hn,h=>by
   obtain⟨u,rfl,h⟩:=h
   exact⟨u,rfl,D.gP hb d u hn h⟩
 | .mp _ _,_,hn,_=>by simp[D.iW]at hn
theorem D.iX {B B':Nat->Prop}{w w':World}(hb:∀b,kz w b-> ¬B b->w'.heap[b]? =w.heap[b]? /\ ¬B' b):
 ∀ (ds:List D) (vs:List Value),D.iu ds=true->D.ak B w ds vs->D.ak B' w' ds vs
 |[],_,_,h=>h
 |d::ds,_,hn,h=>by
  obtain⟨u,us,rfl,h1,h2⟩:=h
  simp only[D.iu,Bool.and_eq_true]at hn
  exact⟨u,us,rfl,D.gP hb d u hn.1 h1,D.iX hb ds us hn.2 h2⟩
theorem D.kW {B B':Nat->Prop}{w w':World}(hb:∀b,kz w b-> ¬B b->w'.heap[b]? =w.heap[b]? /\ ¬B' b)(sz:Nat)(a:Addr):
 ∀ (es:List D) (i:Nat),D.iu es=true->D.elems B w sz a i es->D.elems B' w' sz a i es
 |[],_,_,_=>trivial
 |e::es,i,hn,h=>by
  obtain⟨⟨ev,h1,h2,h3⟩,h4⟩:=h
  simp only[D.iu,Bool.and_eq_true]at hn
  exact⟨⟨ev,h1,h2.rq hb,D.gP hb e ev hn.1 h3⟩,D.kW hb sz a es (i+1) hn.2 h4⟩
end
def R.iW:R->Bool
 | .ret ds=>D.iu ds
 | .ba d=>d.iW
def R.flat:R->Bool
 | .ret ds=>D.gm ds
 | .ba d=>d.flat
def gQ:List D->V
 |[x]=> .d x
 |ds=> .bI (ds.map .d)
inductive eW where
 |normal|exit (id:Nat)|ret|ba (v:V)
def aJ(env:Nat->V)(dst:Option Tmp)(v:V):Nat->V:=
 match dst with
 |some d=>aY env d v
 |none=>env
def xg(o:Nat->aa)(v:V):V:=match dg o v with|some x=> .d x|none=>v
def ck(o:Nat->aa):List V->List Nat
 |[]=>[]
 |v::vs=>(match dg o v with|some _=>v.ids|none=>[])++ck o vs
def iY(P:Program)(g:FuncId)(args:List V)(o:Nat->aa)(nx:Nat)(K X:V->(Nat->aa)->Nat->Prop):Prop:=
 j8 P g args o nx K X\/j8 P g (args.map (xg o)) (put o (b7 o (ck o args))) nx K X
def nF(P:Program)(s:S)(g:FuncId)(all:List V)(K:V->(Nat->aa)->Nat->Prop)(X:V->(Nat->aa)->Nat->Prop):Prop:=
    (∃ds out,bt s.o all=some ds/\cQ P g ds out/\(match out with
     | .ret rs=>K (gQ rs) (put s.o (b7 s.o (V.aP all))) (s.nx+1)
     | .ba x=>X (.d x) (put s.o (b7 s.o (V.aP all))) (s.nx+1)))\/
    (∃ds out,bt s.o all=some ds/\cQ P g ds out/\out.flat=true/\(match out with
     | .ret rs=>K (gQ rs) s.o (s.nx+1)
     | .ba x=>X (.d x) s.o (s.nx+1)))\/
    (∃ds out,bt s.o all=some ds/\cQ P g ds out/\out.iW=true/\(match out with
     | .ret rs=>K (gQ rs) (put s.o (lT s.o (V.aP all))) (s.nx+1)
     | .ba x=>X (.d x) (put s.o (lT s.o (V.aP all))) (s.nx+1)))\/
    iY P g all s.o s.nx K X
def rP(P:Program)(s:S)(f:V)(args:List V)(K:V->(Nat->aa)->Nat->Prop)(X:V->(Nat->aa)->Nat->Prop):Prop:=
 match f with
 | .func (.func g) first cap=>nF P s g (first++args++cap) K X
 | .js id=>dF P id args s.o s.nx K X
 |_=>False
def AV(P:Program)(t:TypeId):Bool:=
 match P.underlying t with
 |some (.pointer _)=>false
 |some _=>true
 |none=>false
def nG(P:Program)(m:String)(x:V):Option (FuncId×V):=
 match x with
 | .d (.iface t y)=>match P.info? t with
   |some ti=>match ti.methods.find? (·.name==m)with
    |some r=>match r.func with
     |some (f,false)=>if r.path.isEmpty=true/\AV P t=true then some (f, .d y)else none
     |_=>none
    |none=>none
   |none=>none
 |_=>none
def ew(n:Nat):Option Tmp->Prop
 |some d=>d<n
 |none=>True
def IL(P:Program)(n:Nat)(s:S)(o:Oper)(X:V->S->Prop)(K:S->Prop):Prop:=
 ew n o.dst/\match o.op with
 | .call c=>match c.callee with
   | .value f=>rP P s (s.ev f) (c.args.toList.map s.ev) (fun v o' nx'=>K ⟨aJ s.env o.dst v,o',nx'⟩) (fun v o' nx'=>X v ⟨s.env,o',nx'⟩)
   | .invoke r m=>match nG P m (s.ev r)with
     |some (g,y)=>nF P s g (y::c.args.toList.map s.ev) (fun v o' nx'=>K ⟨aJ s.env o.dst v,o',nx'⟩) (fun v o' nx'=>X v ⟨s.env,o',nx'⟩)
     |none=>False
   |_=>AG P s s.nx o.op fun v Δ _=>K ⟨aJ s.env o.dst v,put s.o Δ,s.nx+1⟩
 | .panic x=>match s.ev x with
   | .d (.iface t y)=>X (.d (.iface t y)) s
   | .iface t y=>X (.iface t y) s
   |_=>False
 |op=>AG P s s.nx op fun v Δ _=>K ⟨aJ s.env o.dst v,put s.o Δ,s.nx+1⟩
def qc(s:S)(ops:Array Oper)(g:Option (Nat×Bool))(A B:Prop):Prop:=
 match g with
 |none=>A
 |some (j,want)=>match me ops j with
  |some d=>match s.env d with
   | .d (.bool b)=>(b=want->A)/\(b≠want->B)
   | .bI []=>B
   |_=>False
  |none=>B
def qd(P:Program)(n:Nat)(ops:Array Oper)(X:V->S->Prop)(K:S->Prop):List Oper->S->Prop
 |[],s=>K s
 |o::l,s=>qc s ops o.guard (IL P n s o X (qd P n ops X K l)) (ew n o.dst/\qd P n ops X K l ⟨aJ s.env o.dst (.bI []),s.o,s.nx+1⟩)
def du(b:Nat)(s s':S):Prop:=
 ∀ (M:Nat->Prop) (φ:Place) (w:World) (tm:Nat->Value),af M φ s.H w->(∀i,V.den (ad M φ s.H) φ s.H w (s.env i) (tm i))->
   ∃ai,af M ai s'.H w/\(∀i,V.den (ad M ai s'.H) ai s'.H w (s'.env i) (tm i))/\(∀k,bp ai s'.H k->bp φ s.H k)/\b<=s'.nx/\
    (∀id,id<b->(s'.o id).bc=true->(s.o id).bc=true/\ai id=φ id)/\
    (∀id e',id<b->(s'.o id).aL=some e'->∃e,(s.o id).aL=some e/\e<=e'/\(e=e'->ai id=φ id))
def kX(K:S->Prop)(Q:eW->S->Prop)(e:eW)(s:S):Prop:=match e with| .normal=>K s|e=>Q e s
def dG(id:Nat)(Q:eW->S->Prop)(e:eW)(s:S):Prop:=match e with| .exit j=>if j=id then Q .normal s else Q (.exit j) s|e=>Q e s
def iw(P:Program)(s:S):List ResultVar->Option (List V)
 |[]=>some []
 | .tmp t::rs=>(iw P s rs).map (s.env t::·)
 | .cell a t::rs=>match s.env a with
   | .ptr id off=>match s.o id with
     | .row cs=>(dn P t cs off).bind fun v=>(iw P s rs).map (v::·)
     |_=>none
   |_=>none
def bS(vs:List V):Nat->V:=fun i=>vs.getD i (.bI [])
def tC(P:Program)(rs:List ResultVar)(out:R)(e:eW)(s:S):Prop:=
 match e with
 | .normal| .ret=>match iw P s rs with
   |some vs=>match bt s.o vs with
    |some ds=>out= .ret ds
    |none=>False
   |none=>False
 | .ba v=>match dg s.o v with
   |some x=>out= .ba x
   |none=>False
 | .exit _=>False
theorem xh{P:Program}{rs:List ResultVar}{out:R}{s:S}(h:match iw P s rs with
 |some vs=>match bt s.o vs with
  |some ds=>out= .ret ds
  |none=>False
 |none=>False):∃vs ds,iw P s rs=some vs/\bt s.o vs=some ds/\out= .ret ds:=by
 split at h
 ·rename_i vs h1
  split at h
  ·rename_i xs h2;exact⟨vs,xs,h1,h2,h⟩
  ·exact h.elim
 ·exact h.elim
theorem xi{out:R}{s:S}{v:V}(h:match dg s.o v with
 |some x=>out= .ba x
 |none=>False):∃x,dg s.o v=some x/\out= .ba x:=by
 split at h
 ·rename_i x h1;exact⟨x,h1,h⟩
 ·exact h.elim
end Go.Proofs.YtbmnikpknlkbkaaGreat
namespace Go.Proofs.YtbmnikpknlkbkaaGreat
section
variable {P:Program}{M:Nat->Prop}{φ:Place}{H:Hp}{w w':World}
def aa.gR:aa->Bool
 | .arr .. =>true
 |_=>false
theorem zu(o:Nat->aa)(ids:List Nat):lT o ids=b7 o (ids.filter fun id=>(o id).gR):=by
 induction ids with
 |nil=>rfl
 |cons id ids ih=>
  unfold lT at ih|-
  simp only[List.filterMap_cons,List.filter_cons]
  cases hx:o id with
  |arr ep ty sz es=>
   have e:(aa.arr ep ty sz es).gR=true:=rfl
   rw[e,if_pos rfl,ih]
   simp only[b7,List.map_cons,hx]
  |_=>exact ih
theorem ff(hH:af M φ H w){us':Nat->Prop}(h:∀id,H.us id->us' id):af M φ ⟨H.o,us'⟩ w/\Trans φ H w φ ⟨H.o,us'⟩ w:=by
 have ht:Trans φ H w φ ⟨H.o,us'⟩ w:=⟨df.refl _ _,fun b hb=> .inl hb,⟨h,fun id _ hr=>⟨hr,rfl⟩,fun id e' _ he=>⟨e',he,Nat.le_refl _,fun _=>rfl⟩⟩⟩
 exact⟨hH.of ht (fun _=>False) (fun _ h=>h.elim) (fun id _=>⟨rfl,rfl,fun _ _ _=>rfl⟩) (fun id hn=>hH.fresh id fun hu=>hn (h id hu)) hH.apart (fun b hb=>(hH.ours b hb).2),ht⟩
theorem ed(hH:af M φ H w)(hk:df (fun _=>False) w w'):af M φ H w'/\Trans φ H w φ H w':=by
 have ht:Trans φ H w φ H w':=⟨⟨hk.os,hk.tape,hk.output,hk.size,fun k h _=>hk.block k h fun h=>h⟩,fun b hb=> .inl hb,cL.refl _ _⟩
 exact⟨hH.of ht (fun _=>False) (fun _ h=>h.elim) (fun id _=>⟨rfl,rfl,fun hl b hb=>hk.block b (hH.ours b ⟨id,hl,hb⟩).2 fun h=>h⟩) hH.fresh hH.apart (fun b hb=>Nat.lt_of_lt_of_le (hH.ours b hb).2 hk.size),ht⟩
theorem gS{Δ:List (Nat×aa)}(h:∀id∈Δ.map (·.1),H.us id):H.put Δ=⟨put H.o Δ,H.us⟩:=by
 unfold Hp.put
 congr 1
 funext id
 simp only[eq_iff_iff]
 exact⟨fun h'=>h'.elim (fun h=>h) (h id), .inl⟩
theorem jx(o:Nat->aa)(ids:List Nat):(b7 o ids).map (·.1)=ids:=by
 rw[il];simp[Function.comp_def]
structure Cx where
 base:List Deferred
 rd:Bool
def cK(ro:Option Nat):Fence:={fn:=fun _=>True,depth:=none,alive:=false,round:=ro}
def mark(r:Nat):Deferred:={target:= .collected r,args:=#[]}
def nH(cx:Cx)(w0:World)(φ:Place)(H:Hp)(w:World)(ds:List Deferred):Prop:=
 ∃ms:List Nat,ds=ms.map mark++cx.base/\ms.Nodup/\(cx.rd=true->ms=[])/\∀r∈ms,w0.heap.size<=r/\w.heap[r]? =some (.deferred (some []))/\ ¬bp φ H r
theorem nH.mono {cx:Cx}{w0:World}{φ ai:Place}{H H':Hp}{w w':World}{ds:List Deferred}(ht:Trans φ H w ai H' w')(h:nH cx w0 φ H w ds):nH cx w0 ai H' w' ds:=by
 obtain⟨ms,h1,h2,h3,h4⟩:=h
 refine⟨ms,h1,h2,h3,fun r hr=> ?_⟩
 obtain⟨g1,g2,g3⟩:=h4 r hr
 have br:r<w.heap.size:=by
  rcases Nat.lt_or_ge r w.heap.size with hl|hl
  ·exact hl
  ·rw[Array.getElem?_eq_none hl]at g2;cases g2
 refine⟨g1,(ht.bD.block r br g3).trans g2,fun hl=> ?_⟩
 rcases ht.grow r hl with h|h
 ·exact g3 h
 ·omega
structure bw (M:Nat->Prop) (bM:Place) (H0:Hp) (w0:World) (n:Nat) (cx:Cx) (φ:Place) (s:S) (a:Act) (w:World):Prop where
 heap:af M φ s.H w
 tr:Trans bM H0 w0 φ s.H w
 size:a.tmps.size=n
 defers:nH cx w0 φ s.H w a.defers
 env:∀i,V.den (ad M φ s.H) φ s.H w (s.env i) (a.tmps.getD i undef)
variable {bM:Place}{H0:Hp}{w0:World}{n:Nat}{s:S}{a:Act}{cx:Cx}{ro:Option Nat}{k:Nat}
theorem cf{f:FuncId}{args:Array Value}{R:Ending->World->Prop}(h:Calls P f args w R):CallsIn (cK ro) k P f args w R:=
 ⟨trivial,fun cs _=>let⟨e,w',fr,r,s,x⟩:=h cs;⟨e,w',fr,r,comesIn_wide.2 s,x⟩⟩
theorem rQ{f:FuncId}{args:Array Value}{R:Ending->World->Prop}(h:CallsIn (cK ro) k P f args w R):Calls P f args w R:=
 fun cs=>let⟨e,w',fr,r,s,x⟩:=h.2 cs (fun _ h=>by simp[cK]at h);⟨e,w',fr,r,comesIn_wide.1 s,x⟩
theorem gq{o:Oper}{next:Act->World->Prop}{Q:Exit->Act->World->Prop}(LK:∀c,o.op≠ .defer c)(h:o.uponIn (cK ro) k P a next Q ((execOp a.eval o).run P w)):o.wpIn (cK ro) k P a w next Q:=
 ⟨fun _ _=>trivial,by rw[Oper.semAt_eq _ _ _ LK];exact h⟩
theorem iy(hs:bw M bM H0 w0 n cx φ s a w){ai:Place}{H':Hp}(hH:af M ai H' w')(ht:Trans φ s.H w ai H' w'){v:V}{val:Value}(hd:V.den (ad M ai H') ai H' w' v val){dst:Option Tmp}(bU:ew n dst)
 {o':Nat->aa} {nx':Nat} (ho:H'.o=o') (hu:∀id,H'.us id->id<nx'):bw M bM H0 w0 n cx ai ⟨aJ s.env dst v,o',nx'⟩ (a.put dst val) w':=by
 obtain⟨k1,k2⟩:=ff hH hu
 subst ho
 refine⟨k1,hs.tr.trans (ht.trans k2), ?_, ?_,fun i=> ?_⟩
 ·cases dst<;>simp[Act.put,hs.size]
 ·have:=hs.defers.mono (ht.trans k2);cases dst<;>exact this
 ·cases dst with
  |none=>exact V.ao (ht.trans k2) _ _ (hs.env i)
  |some d=>
   simp only[ew]at bU
   simp only[aJ,az,Act.put]
   by_cases hi:i=d
   ·subst hi
    have h1:(a.tmps.setIfInBounds i val).getD i undef=val:=by simp[Array.getD,hs.size,bU]
    rw[if_pos rfl,h1]
    exact V.ao k2 _ _ hd
   ·have h1:(a.tmps.setIfInBounds d val).getD i undef=a.tmps.getD i undef:=by
     simp only[Array.getD_eq_getD_getElem?]
     rw[Array.getElem?_setIfInBounds_ne (Ne.symm hi)]
    rw[if_neg hi,h1]
    exact V.ao (ht.trans k2) _ _ (hs.env i)
theorem cT(hs:bw M bM H0 w0 n cx φ s a w){ai:Place}{H':Hp}(hH:af M ai H' w')(ht:Trans φ s.H w ai H' w'){o':Nat->aa}{nx':Nat}(ho:H'.o=o')(hu:∀id,H'.us id->id<nx'):
 bw M bM H0 w0 n cx ai ⟨s.env,o',nx'⟩ a w':=by
 obtain⟨k1,k2⟩:=ff hH hu
 subst ho
 exact⟨k1,hs.tr.trans (ht.trans k2),hs.size,hs.defers.mono (ht.trans k2),fun i=>V.ao (ht.trans k2) _ _ (hs.env i)⟩
theorem xj{Δ:List (Nat×aa)}(h:∀id∈Δ.map (·.1),s.H.us id\/id=s.nx)(id:Nat)(hu:(s.H.put Δ).us id):id<s.nx+1:=by
 rcases hu with hu|hu
 ·exact Nat.lt_succ_of_lt hu
 ·rcases h id hu with h|h
  ·exact Nat.lt_succ_of_lt h
  ·omega
variable {next:Act->World->Prop}{Q:Exit->Act->World->Prop}{X:V->S->Prop}{K:S->Prop}
theorem xk(hs:bw M bM H0 w0 n cx φ s a w){o:Oper}{op:Op}(cw:o.op=op)(bU:ew n o.dst)(h:AG P s s.nx op fun v Δ _=>K ⟨aJ s.env o.dst v,put s.o Δ,s.nx+1⟩)
 (hN:∀s' ai a' w',K s'->bw M bM H0 w0 n cx ai s' a' w'->next a' w'):o.wpIn (cK ro) k P a w next Q:=by
 obtain⟨nx,val,w',ai,v,Δ,rd,hK,hr,oC,g1,g2,g3,g4⟩:=pj hs.heap (s:=s) rfl hs.env (fr:=s.nx) (by simp[S.H]) cw h
 have qe:=iy hs g1 g2 g3 bU (o':=put s.o Δ) (nx':=s.nx+1) rfl (xj g4)
 refine gq (fun c hc=>by rw[cw]at hc;subst hc;exact h) ?_
 rw[hr]
 rcases oC with rfl|⟨rfl,rfl⟩
 ·exact hN _ _ _ _ hK qe
 ·exact hN _ _ _ _ hK qe
theorem V.iz {B:Nat->Prop}{bu bs cs:List V}{u v x:List Value}(h1:V.ak B φ H w bu u)(h2:V.ak B φ H w bs v)(h3:V.ak B φ H w cs x):V.ak B φ H w (bu++bs++cs) (u++v++x):=
 V.aQ _ _ _ _ (V.aQ _ _ _ _ h1 h2) h3
theorem gU{f:FuncId}(h:gx P f)(args:Array Value):(callFunc f args).run P w= .ok (.enter f args) w:=by
 obtain⟨fn,h1,h2,h3⟩:=h
 have vH:fn.name≠ "runtime.NumGoroutine" :=by simpa using h2
 have BZ:fn.body≠none:=fun h=>by rw[h]at h3;cases h3
 simp[callFunc,h1,vH,BZ]
theorem gV:∀ {rs:List D} {val:Value},R.is (ad M φ H) w (.ret rs) (.returned val)->V.den (ad M φ H) φ H w (gQ rs) val
 |[],_,h=>by obtain⟨arr,rfl,h⟩:=h;exact⟨arr,rfl,h⟩
 |[x],_,h=>h
 |x::y::l,_,h=>by obtain⟨arr,rfl,h⟩:=h;exact⟨arr,rfl,(V.bE (x::y::l) _).2 h⟩
theorem R.qf {B B':Nat->Prop}:∀ {out:R} {e:Ending},out.flat=true->out.is B w e->out.is B' w e
 | .ret [], .returned _,_,h=>by obtain⟨arr,rfl,h⟩:=h;exact⟨arr,rfl,h⟩
 | .ret [x], .returned _,hf,h=>by
   simp only[R.flat,D.gm,Bool.and_true]at hf
   exact D.kV x _ hf h
 | .ret (x::y::l), .returned _,hf,h=>by obtain⟨arr,rfl,h⟩:=h;exact⟨arr,rfl,D.ir (x::y::l) _ hf h⟩
 | .ba d, .panicked _,hf,h=>by obtain⟨v,rfl,h⟩:=h;exact⟨v,rfl,D.kV d v hf h⟩
 | .ret [], .panicked _,_,h| .ret [_], .panicked _,_,h| .ret (_::_::_), .panicked _,_,h| .ret [], .outgrown,_,h| .ret [_], .outgrown,_,h| .ret (_::_::_), .outgrown,_,h| .ba _, .returned _,_,h| .ba _, .outgrown,_,h=>h.elim
theorem R.xl {B B':Nat->Prop}{w':World}(hb:∀b,kz w' b-> ¬B b-> ¬B' b):∀ {out:R} {e:Ending},out.iW=true->out.is B w' e->out.is B' w' e
 | .ret [], .returned _,_,h=>by obtain⟨arr,rfl,h⟩:=h;exact⟨arr,rfl,h⟩
 | .ret [x], .returned _,hf,h=>by
   simp only[R.iW,D.iu,Bool.and_true]at hf
   exact D.gP (fun b hc hn=>⟨rfl,hb b hc hn⟩) x _ hf h
 | .ret (x::y::l), .returned _,hf,h=>by obtain⟨arr,rfl,h⟩:=h;exact⟨arr,rfl,D.iX (fun b hc hn=>⟨rfl,hb b hc hn⟩) (x::y::l) _ hf h⟩
 | .ba d, .panicked _,hf,h=>by obtain⟨v,rfl,h⟩:=h;exact⟨v,rfl,D.gP (fun b hc hn=>⟨rfl,hb b hc hn⟩) d v hf h⟩
 | .ret [], .panicked _,_,h| .ret [_], .panicked _,_,h| .ret (_::_::_), .panicked _,_,h| .ret [], .outgrown,_,h| .ret [_], .outgrown,_,h| .ret (_::_::_), .outgrown,_,h| .ba _, .returned _,_,h| .ba _, .outgrown,_,h=>h.elim
theorem xm(hH:af M φ H w){o:Nat->aa}:∀ (vs:List V) (vals:List Value),(∀id∈ck o vs,H.o id=(o id).fz)->V.ak (ad M φ H) φ H w vs vals->V.ak (ad M φ H) φ H w (vs.map (xg o)) vals
 |[],_,_,h=>h
 |v::vs,_,ho,h=>by
  obtain⟨u,us,rfl,h1,h2⟩:=h
  refine⟨u,us,rfl, ?_,xm hH vs us (fun id ag=>ho id (by simp[ck,ag])) h2⟩
  unfold xg
  split
  ·rename_i x hx
   exact dA hH v x u (fun id ag=>ho id (by simp[ck,hx,ag])) hx h1
  ·exact h1
theorem ey:∀ (vs:List V) (vals:List Value) (o:Nat->aa),V.ak (ad M φ H) φ H w vs vals->∀id∈ck o vs,H.us id
 |[],_,_,_,j,hj=>by simp[ck]at hj
 |v::vs,_,o,h,j,hj=>by
  obtain⟨u,us,rfl,h1,h2⟩:=h
  simp only[ck,List.mem_append]at hj
  rcases hj with hj|hj
  ·cases hx:dg o v with
   |none=>simp[hx]at hj
   |some x=>simp only[hx]at hj;exact b9 v u h1 j hj
  ·exact ey vs us o h2 j hj
theorem pk(hs:bw M bM H0 w0 n cx φ s a w){o:Oper}{g:FuncId}{all:List V}{vals:Array Value}(bU:ew n o.dst)(dB:gx P g->(execOp a.eval o).run P w= .ok (.enter g vals) w)(aC:V.ak (ad M φ s.H) φ s.H w all vals.toList)
 (h:j8 P g all s.o s.nx (fun v o' nx'=>K ⟨aJ s.env o.dst v,o',nx'⟩) (fun v o' nx'=>X v ⟨s.env,o',nx'⟩))
 (hN:∀s' ai a' w',K s'->bw M bM H0 w0 n cx ai s' a' w'->next a' w')
 (hQ:∀v s' ai w' val,X v s'->bw M bM H0 w0 n cx ai s' a w'->V.den (ad M ai s'.H) ai s'.H w' v val->Q (.panic [{v:=val,recovered:=false}]) a w'):o.uponIn (cK ro) k P a next Q ((execOp a.eval o).run P w):=by
 have dt:=h.2 M φ w vals hs.heap aC
 rw[dB h.1]
 refine⟨fun hd=>by simp[cK]at hd,cf (dt.mono fun e w' ⟨ai,o',nx',v,k1,k2,k3⟩=> ?_)⟩
 cases e with
 |returned val=>exact hN _ _ _ _ k3.2 (iy hs k1 k2 k3.1 bU rfl fun id hu=>hu)
 |panicked ch=>
  obtain⟨val,rfl,k4,k5⟩:=k3
  exact hQ _ _ _ _ val k5 (cT hs k1 k2 (o':=o') (nx':=nx') rfl fun id hu=>hu) k4
 |outgrown=>exact k3.elim
theorem rR(hs:bw M bM H0 w0 n cx φ s a w){o:Oper}{g:FuncId}{all:List V}{vals:Array Value}(bU:ew n o.dst)(dB:gx P g->(execOp a.eval o).run P w= .ok (.enter g vals) w)(aC:V.ak (ad M φ s.H) φ s.H w all vals.toList)
 (h:nF P s g all (fun v o' nx'=>K ⟨aJ s.env o.dst v,o',nx'⟩) (fun v o' nx'=>X v ⟨s.env,o',nx'⟩))
 (hN:∀s' ai a' w',K s'->bw M bM H0 w0 n cx ai s' a' w'->next a' w')
 (hQ:∀v s' ai w' val,X v s'->bw M bM H0 w0 n cx ai s' a w'->V.den (ad M ai s'.H) ai s'.H w' v val->Q (.panic [{v:=val,recovered:=false}]) a w'):o.uponIn (cK ro) k P a next Q ((execOp a.eval o).run P w):=by
 unfold nF at h
 obtain⟨f1,f2,f3,f4,f5⟩:=cj hs.heap (V.aP all) (bF all _ aC)
 have iq:s.H.put (b7 s.H.o (V.aP all))=⟨put s.o (b7 s.o (V.aP all)),s.H.us⟩:=gS (by rw[jx];exact bF all _ aC)
 have iZ:=V.aw f2 _ _ aC
 rcases h with⟨ds,out,dm,hP,hK⟩|⟨ds,out,dm,hP,ku,hK⟩|⟨ds,out,dm,hP,Oa,hK⟩|hC|hC
 ·have o4:=cp f1 all ds _ f3 dm iZ
  have hM:∀b,ad M φ (s.H.put (b7 s.H.o (V.aP all))) b->b<w.heap.size:=fun b hb=>hb.elim (f1.oE b) fun hl=>(f1.ours b hl).2
  have dt:=hP.2 _ w vals hM o4
  rw[dB hP.1]
  refine⟨fun hd=>by simp[cK]at hd,cf (dt.mono fun e w' ⟨hk,ho⟩=> ?_)⟩
  obtain⟨k1,k2⟩:=ed f1 hk
  cases out with
  |ret rs=>
   cases e with
   |returned val=>
    refine hN _ _ _ _ hK (iy hs k1 (f2.trans k2) (gV ho) bU (by rw[iq]) ?_)
    intro id hu;rw[iq]at hu;exact Nat.lt_succ_of_lt hu
   |panicked ch=>cases rs with|nil=>exact ho.elim|cons x l=>cases l<;>exact ho.elim
   |outgrown=>cases rs with|nil=>exact ho.elim|cons x l=>cases l<;>exact ho.elim
  |ba x=>
   cases e with
   |returned val=>exact ho.elim
   |panicked ch=>
    obtain⟨val,rfl,hd⟩:=ho
    have qe:=cT hs k1 (f2.trans k2) (o':=put s.o (b7 s.o (V.aP all))) (nx':=s.nx+1) (by rw[iq]) (fun id hu=>by rw[iq]at hu;exact Nat.lt_succ_of_lt hu)
    refine hQ _ _ _ _ val hK qe ?_
    have e1:ad M φ (S.H ⟨s.env,put s.o (b7 s.o (V.aP all)),s.nx+1⟩)=ad M φ (s.H.put (b7 s.H.o (V.aP all))):=by rw[iq];rfl
    simp only[V.den]
    rw[e1];exact hd
   |outgrown=>exact ho.elim
 ·have o4:=cp f1 all ds _ f3 dm iZ
  have hM:∀b,ad M φ (s.H.put (b7 s.H.o (V.aP all))) b->b<w.heap.size:=fun b hb=>hb.elim (f1.oE b) fun hl=>(f1.ours b hl).2
  have dt:=hP.2 _ w vals hM o4
  rw[dB hP.1]
  refine⟨fun hd=>by simp[cK]at hd,cf (dt.mono fun e w' ⟨hk,ho⟩=> ?_)⟩
  obtain⟨k1,k2⟩:=ed hs.heap hk
  have ho:=R.qf (B':=ad M φ s.H) ku ho
  cases out with
  |ret rs=>
   cases e with
   |returned val=>
    exact hN _ _ _ _ hK (iy hs k1 k2 (gV ho) bU rfl fun id hu=>Nat.lt_succ_of_lt hu)
   |panicked ch=>cases rs with|nil=>exact ho.elim|cons x l=>cases l<;>exact ho.elim
   |outgrown=>cases rs with|nil=>exact ho.elim|cons x l=>cases l<;>exact ho.elim
  |ba x=>
   cases e with
   |returned val=>exact ho.elim
   |panicked ch=>
    obtain⟨val,rfl,hd⟩:=ho
    exact hQ _ _ _ _ val hK (cT hs k1 k2 (o':=s.o) (nx':=s.nx+1) rfl fun id hu=>Nat.lt_succ_of_lt hu) hd
   |outgrown=>exact ho.elim
 ·obtain⟨a1,a2,a3,a4,a5⟩:=cj hs.heap ((V.aP all).filter fun id=>(s.o id).gR) (fun id ag=>bF all _ aC id (List.mem_filter.1 ag).1)
  have rS:s.H.put (b7 s.H.o ((V.aP all).filter fun id=>(s.o id).gR))=⟨put s.o (lT s.o (V.aP all)),s.H.us⟩:=by
   rw[zu]
   exact gS (by rw[jx];exact fun id ag=>bF all _ aC id (List.mem_filter.1 ag).1)
  have o4:=cp f1 all ds _ f3 dm iZ
  have hM:∀b,ad M φ (s.H.put (b7 s.H.o (V.aP all))) b->b<w.heap.size:=fun b hb=>hb.elim (f1.oE b) fun hl=>(f1.ours b hl).2
  have dt:=hP.2 _ w vals hM o4
  rw[dB hP.1]
  refine⟨fun hd=>by simp[cK]at hd,cf (dt.mono fun e w' ⟨hk,ho⟩=> ?_)⟩
  obtain⟨k1,k2⟩:=ed a1 hk
  have fg:∀b,kz w' b-> ¬ad M φ (s.H.put (b7 s.H.o (V.aP all))) b-> ¬ad M φ (s.H.put (b7 s.H.o ((V.aP all).filter fun id=>(s.o id).gR))) b:=by
   intro b hc hn hm
   rcases hm with hM|⟨id,hl,hb⟩
   ·exact hn (.inl hM)
   ·by_cases ag:id∈V.aP all
    ·cases hx:s.H.o id with
     |arr ep ty sz es=>
      rw[a3 id (List.mem_filter.2 ⟨ag,by show(s.H.o id).gR=true;rw[hx];rfl⟩),hx]at hl
      cases hl
     |map kt vt l=>
      have iN:id∉(V.aP all).filter fun id=>(s.o id).gR:=fun h=>by
       have h2:(s.H.o id).gR=true:=(List.mem_filter.1 h).2
       rw[hx]at h2;cases h2
      have a8:=k1.ok id
      unfold au at a8
      rw[a4 id iN,hx]at a8
      obtain⟨b',es,clock,g1,g2,_⟩:=a8
      rw[g1]at hb
      injection hb with hb
      subst hb
      obtain⟨cs,ty,fz,hc⟩:=hc
      rw[g2]at hc
      cases hc
     |_=>
      have iN:id∉(V.aP all).filter fun id=>(s.o id).gR:=fun h=>by
       have h2:(s.H.o id).gR=true:=(List.mem_filter.1 h).2
       rw[hx]at h2;cases h2
      refine hn (.inr ⟨id, ?_,hb⟩)
      rw[a4 id iN,hx]at hl
      rw[f3 id ag,hx]
      exact hl
    ·have iN:id∉(V.aP all).filter fun id=>(s.o id).gR:=fun h=>ag (List.mem_filter.1 h).1
     refine hn (.inr ⟨id, ?_,hb⟩)
     rw[a4 id iN]at hl
     rw[f4 id ag]
     exact hl
  have ho:=R.xl (w':=w') (B':=ad M φ (s.H.put (b7 s.H.o ((V.aP all).filter fun id=>(s.o id).gR)))) fg Oa ho
  cases out with
  |ret rs=>
   cases e with
   |returned val=>
    refine hN _ _ _ _ hK (iy hs k1 (a2.trans k2) (gV ho) bU (by rw[rS]) ?_)
    intro id hu;rw[rS]at hu;exact Nat.lt_succ_of_lt hu
   |panicked ch=>cases rs with|nil=>exact ho.elim|cons x l=>cases l<;>exact ho.elim
   |outgrown=>cases rs with|nil=>exact ho.elim|cons x l=>cases l<;>exact ho.elim
  |ba x=>
   cases e with
   |returned val=>exact ho.elim
   |panicked ch=>
    obtain⟨val,rfl,hd⟩:=ho
    have qe:=cT hs k1 (a2.trans k2) (o':=put s.o (lT s.o (V.aP all))) (nx':=s.nx+1) (by rw[rS]) (fun id hu=>by rw[rS]at hu;exact Nat.lt_succ_of_lt hu)
    refine hQ _ _ _ _ val hK qe ?_
    have e1:ad M φ (S.H ⟨s.env,put s.o (lT s.o (V.aP all)),s.nx+1⟩)=ad M φ (s.H.put (b7 s.H.o ((V.aP all).filter fun id=>(s.o id).gR))):=by rw[rS];rfl
    simp only[V.den]
    rw[e1];exact hd
   |outgrown=>exact ho.elim
 ·exact pk hs bU dB aC hC hN hQ
 ·obtain⟨f1,f2,f3,f4,f5⟩:=cj hs.heap (ck s.o all) (ey all _ s.o aC)
  have iq:s.H.put (b7 s.H.o (ck s.o all))=hp (put s.o (b7 s.o (ck s.o all))) s.nx:=gS (by rw[jx];exact ey all _ s.o aC)
  have iZ:=xm f1 all _ f3 (V.aw f2 _ _ aC)
  rw[iq]at f1 f2 iZ
  exact pk (s:=⟨s.env,put s.o (b7 s.o (ck s.o all)),s.nx⟩) (cT hs f1 f2 rfl fun id hu=>hu) bU dB iZ hC hN hQ
theorem zw(hs:bw M bM H0 w0 n cx φ s a w){o:Oper}{c:Call}{f:Operand}(cw:o.op= .call c)(hc:c.callee= .value f)(bU:ew n o.dst)
 (h:rP P s (s.ev f) (c.args.toList.map s.ev) (fun v o' nx'=>K ⟨aJ s.env o.dst v,o',nx'⟩) (fun v o' nx'=>X v ⟨s.env,o',nx'⟩))
 (hN:∀s' ai a' w',K s'->bw M bM H0 w0 n cx ai s' a' w'->next a' w')
 (hQ:∀v s' ai w' val,X v s'->bw M bM H0 w0 n cx ai s' a w'->V.den (ad M ai s'.H) ai s'.H w' v val->Q (.panic [{v:=val,recovered:=false}]) a w'):o.wpIn (cK ro) k P a w next Q:=by
 refine gq (fun c' rT=>by rw[cw]at rT;cases rT) ?_
 have hf:=iQ (M:=M) (φ:=φ) (H:=s.H) (w:=w) s a hs.env f
 have cG:=fY (M:=M) (φ:=φ) (H:=s.H) (w:=w) s a hs.env c.args.toList
 unfold rP at h
 split at h
 ·rename_i g first cap nI
  rw[nI]at hf
  obtain⟨fa,ca,B0,tn,E1⟩:=hf
  have aC:V.ak (ad M φ s.H) φ s.H w (first++c.args.toList.map s.ev++cap) (fa++c.args.map a.eval++ca).toList:=by
   rw[Array.toList_append,Array.toList_append,Array.toList_map]
   exact V.iz tn cG E1
  generalize first++c.args.toList.map s.ev++cap=all at h aC
  generalize iG:fa++c.args.map a.eval++ca=vals at aC
  have dB:gx P g->(execOp a.eval o).run P w= .ok (.enter g vals) w:=by
   intro he
   have:=gU (w:=w) he (fa++c.args.map a.eval++ca)
   rw[iG]at this
   simp[execOp,cw,resolve,hc,B0,Deferred.ofValue,invoke,this,iG]
  exact rR hs bU dB aC h hN hQ
 ·rename_i id nI
  rw[nI]at hf
  obtain⟨_,cI,Ob⟩:=hf
  obtain⟨aX,hR⟩:=h
  obtain⟨b,cz,B0⟩:=Ob aX
  obtain⟨fn,tmps,assign,body,h1,h2⟩:=hR M φ w (c.args.map a.eval) b hs.heap (by rw[Array.toList_map];exact cG) cz
  have dB:(execOp a.eval o).run P w= .ok (.round b fn tmps assign body) w:=by
   simp[execOp,cw,resolve,hc,B0,Deferred.ofValue,invoke,h1]
  rw[dB]
  refine⟨fun hd=>by simp[cK]at hd,RoundIn.mono (h2 (k - 1)) fun e w' ⟨ai,o',nx',v,k1,k2,k3⟩=> ?_⟩
  cases e with
  |returned val=>exact hN _ _ _ _ k3.2 (iy hs k1 k2 k3.1 bU rfl fun id hu=>hu)
  |panicked ch=>
   obtain⟨val,rfl,k4,k5⟩:=k3
   exact hQ _ _ _ _ val k5 (cT hs k1 k2 (o':=o') (nx':=nx') rfl fun id hu=>hu) k4
  |outgrown=>exact k3.elim
 ·exact h.elim
theorem vN(hs:bw M bM H0 w0 n cx φ s a w){o:Oper}{c:Call}{r:Operand}{m:String}{g:FuncId}{y:V}(cw:o.op= .call c)(hc:c.callee= .invoke r m)(bU:ew n o.dst)(hr:nG P m (s.ev r)=some (g,y))
 (h:nF P s g (y::c.args.toList.map s.ev) (fun v o' nx'=>K ⟨aJ s.env o.dst v,o',nx'⟩) (fun v o' nx'=>X v ⟨s.env,o',nx'⟩))
 (hN:∀s' ai a' w',K s'->bw M bM H0 w0 n cx ai s' a' w'->next a' w')
 (hQ:∀v s' ai w' val,X v s'->bw M bM H0 w0 n cx ai s' a w'->V.den (ad M ai s'.H) ai s'.H w' v val->Q (.panic [{v:=val,recovered:=false}]) a w'):o.wpIn (cK ro) k P a w next Q:=by
 refine gq (fun c' rT=>by rw[cw]at rT;cases rT) ?_
 have hf:=iQ (M:=M) (φ:=φ) (H:=s.H) (w:=w) s a hs.env r
 have cG:=fY (M:=M) (φ:=φ) (H:=s.H) (w:=w) s a hs.env c.args.toList
 unfold nG at hr
 split at hr
 ·rename_i t d hx
  rw[hx]at hf
  obtain⟨val,hv,hd⟩:=hf
  split at hr
  ·rename_i ti Oc
   split at hr
   ·rename_i mr nJ
    split at hr
    ·rename_i f vO
     split at hr
     ·rename_i AW
      injection hr with hr
      injection hr with h1 h2
      subst h1;subst h2
      refine rR (vals:=#[val]++c.args.map a.eval) hs bU ?_ ?_ h hN hQ
      ·intro he
       have dB:=gU (w:=w) he (#[val]++c.args.map a.eval)
       have Od:mr.path=#[]:=Array.isEmpty_iff.1 AW.1
       have hu:∃u,P.underlying t=some u/\∀e,u≠ .pointer e:=by
        have:=AW.2
        unfold AV at this
        split at this
        ·cases this
        ·rename_i u e7 hu;exact⟨u,hu,fun e he=>e7 e he⟩
        ·cases this
       obtain⟨u,hu,AX⟩:=hu
       have hm:(method (P.types.size+Made.depth) t val m).run P w= .ok (f,val) w:=by
        have:P.types.size+Made.depth=(P.types.size+Made.depth - 1)+1:=by simp[Made.depth]
        rw[this]
        cases u<;>first|exact absurd rfl (AX _)|simp[method,typeInfo,Oc,nJ,Od,vO,follow,receiverAt,run_underlying hu,_root_.Go.Place.get]
       have h0:(#[Value.iface t val]++Array.map a.eval c.args)[0]? =some (.iface t val):=by
        rw[Array.getElem?_append_left (by simp)];rfl
       have h1:(Array.map a.eval c.args).extract 0 c.args.size=Array.map a.eval c.args:=by
        rw[show c.args.size=(Array.map a.eval c.args).size from by simp,Array.extract_size]
       simp[execOp,cw,resolve,hc,invoke,callMethod,hv,h0,h1,hm,dB]
      ·simp only[Array.toList_append,Array.toList_map]
       exact⟨val,_,rfl,hd,cG⟩
     ·cases hr
    ·cases hr
   ·cases hr
  ·cases hr
 ·cases hr
theorem pn(hs:bw M bM H0 w0 n cx φ s a w){o:Oper}(h:IL P n s o X K)
 (hN:∀s' ai a' w',K s'->bw M bM H0 w0 n cx ai s' a' w'->next a' w')
 (hQ:∀v s' ai w' val,X v s'->bw M bM H0 w0 n cx ai s' a w'->V.den (ad M ai s'.H) ai s'.H w' v val->Q (.panic [{v:=val,recovered:=false}]) a w'):o.wpIn (cK ro) k P a w next Q:=by
 obtain⟨bU,h⟩:=h
 split at h
 ·rename_i c cw
  split at h
  ·rename_i f hc
   exact zw hs cw hc bU h hN hQ
  ·rename_i r m hc
   split at h
   ·rename_i g y hr;exact vN hs cw hc bU hr h hN hQ
   ·exact h.elim
  ·exact xk hs rfl bU h hN
 ·rename_i x cw
  have hx:=iQ (M:=M) (φ:=φ) (H:=s.H) (w:=w) s a hs.env x
  have ba:∀ (t:TypeId) (u:Value),a.eval x= .iface t u->Q (.panic [{v:= .iface t u,recovered:=false}]) a w->o.wpIn (cK ro) k P a w next Q:=by
   intro t u hu hq
   refine gq (fun c hc=>by rw[cw]at hc;cases hc) ?_
   have hr:(execOp a.eval o).run P w= .halt (.panic (.iface t u)) w:=by simp[execOp,cw,hu,Instr.panic]
   rw[hr];exact hq
  split at h
  ·rename_i t y hv
   rw[hv]at hx
   obtain⟨u,hu,hd⟩:=hx
   exact ba t u hu (hQ _ s φ w (.iface t u) h hs ⟨u,rfl,hd⟩)
  ·rename_i t y hv
   rw[hv]at hx
   obtain⟨u,hu,hd⟩:=hx
   exact ba t u hu (hQ _ s φ w (.iface t u) h hs ⟨u,rfl,hd⟩)
  ·exact h.elim
 ·exact xk hs rfl bU h hN
end
end Go.Proofs.YtbmnikpknlkbkaaGreat
namespace Go
def Code.mO (P:Program)(ro:Option Nat)(c:Code)(Q:Exit->Act->World->Prop)(a:Act)(w:World):Prop:=
 ∀ (b:Frame) (k:List Item) (cs:List Frame),b.roundOf=ro->b.fn<P.funcs.size->
   ∃e a' w',Q e a' w'/\ArrivesIn (Machine.fenced P (Proofs.YtbmnikpknlkbkaaGreat.cK ro)) P (lone (b.atR a (.code c::k)) cs w) b k cs e a' w'
end Go
namespace Go.Proofs.YtbmnikpknlkbkaaGreat
instance:LawfulMonad Sem:=LawfulMonad.mk' Sem (id_map:=fun x=>Sem.bind_pure' x) (pure_bind:=fun _ _=>rfl) (bind_assoc:=fun x f g=>Sem.bind_assoc' x f g)
section
variable {P:Program}{M:Nat->Prop}{φ:Place}{H:Hp}{w w':World}{bM:Place}{H0:Hp}{w0:World}{n b:Nat}{s:S}{a:Act}{cx:Cx}{ro:Option Nat}{k:Nat}
theorem kY(hs:bw M bM H0 w0 n cx φ s a w){ops:Array Oper}{o:Oper}{A B:Prop}(h:qc s ops o.guard A B):
 (Region.wanted o (yielded ops a.tmps)=true->A)/\(Region.wanted o (yielded ops a.tmps)=false->B):=by
 unfold qc at h
 unfold Region.wanted
 split at h
 ·rename_i hg;simp only[hg];exact⟨fun _=>h,fun h=>by cases h⟩
 ·rename_i j want hg
  simp only[hg]
  unfold me at h
  unfold yielded
  split at h
  ·rename_i d hd
   simp only[hd,Option.bind_some]
   have cA:=hs.env d
   split at h
   ·rename_i c hv
    rw[hv]at cA
    simp only[V.den,D.den]at cA
    have:a.tmps[d]? =some (.bool c):=by
     rw[Array.getD_eq_getD_getElem?]at cA
     cases hx:a.tmps[d]? with
     |none=>rw[hx]at cA;simp[undef]at cA
     |some x=>rw[hx]at cA;simp at cA;rw[cA]
    simp only[this]
    by_cases hc:c=want
    ·subst hc;exact⟨fun _=>h.1 rfl,fun h=>by simp at h⟩
    ·exact⟨fun h'=>absurd (by simpa using h') hc,fun _=>h.2 hc⟩
   ·rename_i hv
    rw[hv]at cA
    obtain⟨arr,bK,hn⟩:=cA
    simp only[V.ak]at hn
    have:∀c,a.tmps[d]? ≠some (.bool c):=by
     intro c hx
     rw[Array.getD_eq_getD_getElem?,hx]at bK
     simp at bK
    cases hx:a.tmps[d]? with
    |none=>exact⟨fun h=>by simp at h,fun _=>h⟩
    |some x=>cases x<;>first|(exact absurd hx (this _))|(exact⟨fun h=>by simp at h,fun _=>h⟩)
   ·exact h.elim
  ·rename_i hd
   simp only[hd,Option.bind_none]
   exact⟨fun h=>by simp at h,fun _=>h⟩
theorem rU(hs:bw M bM H0 w0 n cx φ s a w){dst:Option Tmp}(bU:ew n dst):bw M bM H0 w0 n cx φ ⟨aJ s.env dst (.bI []),s.o,s.nx+1⟩ (a.put dst undef) w:=
 iy (v:= .bI []) (val:=undef) hs hs.heap (Trans.refl _ _ _) ⟨#[],rfl,rfl⟩ bU rfl fun _ hu=>Nat.lt_succ_of_lt hu
theorem j9{ops:Array Oper}{X:V->S->Prop}{K:S->Prop}{Q:Exit->Act->World->Prop}
 (hK:∀s φ a w,K s->bw M bM H0 w0 n cx φ s a w->Q .normal a w)
 (hQ:∀v s' ai a w' val,X v s'->bw M bM H0 w0 n cx ai s' a w'->V.den (ad M ai s'.H) ai s'.H w' v val->Q (.panic [{v:=val,recovered:=false}]) a w'):
 ∀ (l:List Oper) (s:S) (φ:Place) (a:Act) (w:World),qd P n ops X K l s->bw M bM H0 w0 n cx φ s a w->wpListIn (cK ro) k P ops Q l a w
 |[],s,φ,a,w,h,hs=>hK s φ a w h hs
 |o::l,s,φ,a,w,h,hs=>by
  obtain⟨h1,h2⟩:=kY hs h
  unfold wpListIn
  split
  ·rename_i hw
   exact pn hs (h1 hw) (fun s' ai a' w' hk gy=>j9 hK hQ l s' ai a' w' hk gy) (fun v s' ai w' val hx gy hd=>hQ v s' ai a w' val hx gy hd)
  ·rename_i hw
   obtain⟨bU,h3⟩:=h2 (by simpa using hw)
   exact⟨fun _ _=>trivial,j9 hK hQ l _ _ _ _ h3 (rU hs bU)⟩
def uC(M:Nat->Prop)(bM:Place)(H0:Hp)(w0:World)(n:Nat)(cx:Cx)(Q:eW->S->Prop)(e:Exit)(a:Act)(w:World):Prop:=
 ∃x s φ,Q x s/\bw M bM H0 w0 n cx φ s a w/\match e,x with
  | .normal, .normal=>True
  | .exit i, .exit j=>i=j
  | .ret, .ret=>True
  | .panic ch, .ba v=>∃val,ch=[{v:=val,recovered:=false}]/\V.den (ad M φ s.H) φ s.H w v val
  |_,_=>False
section
variable {Q:Exit->Act->World->Prop}
theorem ez{m:Nat}:(cK ro).room m:=fun d hd=>by simp[cK]at hd
theorem ka{c:Code}(h:c.wpIn (cK ro) k P Q a w):c.mO P ro Q a w:=fun b k cs nJ _=>h b k cs nJ trivial ez
theorem eA{c:Code}{Q':Exit->Act->World->Prop}(h:c.mO P ro Q a w)(hq:∀e a w,Q e a w->Q' e a w):c.mO P ro Q' a w:=
 fun b k cs nJ hb=>let⟨e,a',w',q,r⟩:=h b k cs nJ hb;⟨e,a',w',hq _ _ _ q,r⟩
theorem uD(h:Q .ret a w):Code.ret.mO P ro Q a w:=ka (k:=0) (wpIn_ret h)
theorem rV{id:Nat}(h:Q (.exit id) a w):(Code.exit id).mO P ro Q a w:=ka (k:=0) (wpIn_exit h)
theorem qg{x y:Code}(h:x.mO P ro (Exit.then (y.mO P ro Q) Q) a w):(Code.seq x y).mO P ro Q a w:=by
 intro b k cs nJ hb
 have h0:(lone (b.atR a (.code (.seq x y)::k)) cs w).fenced P (cK ro):=fenced_calm (n:=0) trivial ez rfl
 obtain⟨e,fh,dX,hq,bK⟩:=h b (.code y::k) cs nJ hb
 cases e with
 |normal=>
  obtain⟨B1,E2,l5,kZ,gr⟩:=hq b k cs nJ hb
  exact⟨B1,E2,l5,kZ, .of_steps (.head h0 stepR_seq bK) gr⟩
 |exit id=>exact⟨_,fh,dX,hq, .of_steps (.one h0 stepR_seq) (.pass (x:= .code y) rfl (fun _ _=> .inl (by simp)) bK)⟩
 |goto l=>exact⟨_,fh,dX,hq, .of_steps (.one h0 stepR_seq) (.pass (x:= .code y) rfl (fun _ _=> .inl (by simp)) bK)⟩
 |ret=>exact⟨_,fh,dX,hq, .of_steps (.one h0 stepR_seq) (.pass (x:= .code y) rfl (fun _ _=> .inl (by simp)) bK)⟩
 |panic ch=>exact⟨_,fh,dX,hq, .of_steps (.one h0 stepR_seq) (.pass (x:= .code y) rfl (fun _ _=> .inl (by simp)) bK)⟩
 |outgrown=>exact⟨_,fh,dX,hq, .of_steps (.one h0 stepR_seq) (.pass (x:= .code y) rfl (fun _ _=> .inl (by simp)) bK)⟩
theorem lg{c:Operand}{x y:Code}{t:Bool}(hc:a.eval c= .bool t)(h:(if t then x else y).mO P ro Q a w):(Code.cond c x y).mO P ro Q a w:=
 fun b k cs nJ hb=>let⟨e,a',w',q,r⟩:=h b k cs nJ hb;⟨e,a',w',q, .of_steps (.one (fenced_calm (n:=0) trivial ez rfl) (stepR_cond hc)) r⟩
theorem vP{id:Nat}{c:Code}(h:c.mO P ro (Exit.inBlock id Q) a w):(Code.block id c).mO P ro Q a w:=by
 intro b k cs nJ hb
 have h0:(lone (b.atR a (.code (.block id c)::k)) cs w).fenced P (cK ro):=fenced_calm (n:=0) trivial ez rfl
 obtain⟨e,fh,dX,hq,bK⟩:=h b (.inBlock id::k) cs nJ hb
 cases e with
 |normal=>exact⟨.normal,fh,dX,hq, .head h0 stepR_block (StepsIn.trans bK (.one (fenced_calm (n:=0) trivial ez rfl) stepR_inBlock))⟩
 |exit bW=>
  by_cases ag:bW=id
  ·simp only[Exit.inBlock,ag,if_true]at hq
   exact⟨.normal,fh,dX,hq, .head h0 stepR_block (bK.1 k (by simp[exitTo,ag]))⟩
  ·simp only[Exit.inBlock,ag,if_false]at hq
   have this:(id==bW)=false:=by simp;exact fun h=>ag h.symm
   have hx:exitTo bW (.inBlock id::k)=exitTo bW k:=by simp[exitTo,this]
   exact⟨.exit bW,fh,dX,hq,fun k' hk=> .head h0 stepR_block (bK.1 k' (by rw[hx];exact hk)),
    fun vK hk=>let⟨k₁,h1,h2⟩:=bK.2 vK (by rw[hx];exact hk);⟨k₁,h1, .head h0 stepR_block h2⟩⟩
 |goto l=>
  have hx:gotoIn l (.inBlock id::k)=gotoIn l k:=by simp[gotoIn]
  exact⟨_,fh,dX,hq,fun k' hk=> .head h0 stepR_block (bK.1 k' (by rw[hx];exact hk)),
   fun vK hk=>let⟨k₁,h1,h2⟩:=bK.2 vK (by rw[hx];exact hk);⟨k₁,h1, .head h0 stepR_block h2⟩⟩
 |ret=>exact⟨_,fh,dX,hq, .of_steps (.one h0 stepR_block) bK⟩
 |panic ch=>exact⟨_,fh,dX,hq, .of_steps (.one h0 stepR_block) bK⟩
 |outgrown=>exact⟨_,fh,dX,hq, .of_steps (.one h0 stepR_block) bK⟩
theorem ee{b:Frame}{k:List Item}{cs:List Frame}{c:Code}:step P (lone (b.atR a (.code (.scope c)::k)) cs w)= .next (lone (b.atR a (.code c:: .inScope c::k)) cs w):=
 step_lone_go (by simp[stepG,stepG.exec,Frame.atR])
theorem oP{b:Frame}{k:List Item}{cs:List Frame}{c:Code}:step P (lone (b.atR a (.inScope c::k)) cs w)= .next (lone (b.atR a k) cs w):=
 step_lone_go (by simp[stepG,stepG.exec,Frame.atR])
theorem pq{c:Code}(h:c.mO P ro Q a w)(hg:∀l a w, ¬Q (.goto l) a w):(Code.scope c).mO P ro Q a w:=by
 intro b k cs nJ hb
 have h0:(lone (b.atR a (.code (.scope c)::k)) cs w).fenced P (cK ro):=fenced_calm (n:=0) trivial ez rfl
 obtain⟨e,fh,dX,hq,bK⟩:=h b (.inScope c::k) cs nJ hb
 cases e with
 |normal=>exact⟨.normal,fh,dX,hq, .head h0 ee (StepsIn.trans bK (.one (fenced_calm (n:=0) trivial ez rfl) oP))⟩
 |exit bW=>
  have hx:exitTo bW (.inScope c::k)=exitTo bW k:=by simp[exitTo]
  exact⟨.exit bW,fh,dX,hq,fun k' hk=> .head h0 ee (bK.1 k' (by rw[hx];exact hk)),
   fun vK hk=>let⟨k₁,h1,h2⟩:=bK.2 vK (by rw[hx];exact hk);⟨k₁,h1, .head h0 ee h2⟩⟩
 |goto l=>exact(hg _ _ _ hq).elim
 |ret=>exact⟨_,fh,dX,hq, .of_steps (.one h0 ee) bK⟩
 |panic ch=>exact⟨_,fh,dX,hq, .of_steps (.one h0 ee) bK⟩
 |outgrown=>exact⟨_,fh,dX,hq, .of_steps (.one h0 ee) bK⟩
def nK(P:Program)(l:Nat)(Q:Exit->Act->World->Prop)(a':Act):Ending->World->Prop
 | .returned _,tD=>∃jump mP,(Instr.endLoop l).run P tD= .ok jump mP/\(match jump with|none=>Q .normal a' mP|some c=>c.mO P none Q a' mP)
 | .panicked chain,tD=>Q (.panic chain) a' tD
 | .outgrown,_=>LetsOut Q
theorem oQ{g:Operand}{ps:Array Tmp}{assign body:Code}
 (h:∀fn,fn<P.funcs.size->∃ (l:Nat) (mark:List Deferred) (dX:World) (d:Deferred) (pt:World) (f:FuncId) (args:Array Value) (l5:World),
  (Instr.enterLoop fn a.tmps ps assign body (cK none).round).run P w= .ok (l,mark) dX/\(resolve a.eval (rangeCall g l) 0).run P dX= .ok d pt/\
  (invoke d.target d.args).run P pt= .ok (.enter f args) l5/\CallsIn (cK none) 0 P f args l5 (nK P l Q {a with defers:=mark++a.defers})):
 (Code.rangeFunc g ps assign body).mO P none Q a w:=by
 intro b k cs nJ hb
 obtain⟨l,mark,dX,d,pt,f,args,l5,he,rW,hinv,hF,dt⟩:=h b.fn hb
 rw[show(cK none).round=b.roundOf from nJ.symm]at he
 have calm:∀ (m:Machine),m.fenced P (cK none)↔m.fenced P Fence.wide:=fun m=>Iff.rfl
 have h0:(lone (b.atR a (.code (.rangeFunc g ps assign body)::k)) cs w).fenced P (cK none):=(calm _).2 (fenced_wide P _)
 have iA:=stepR_rangeFunc (P:=P) (b:=b) (a:=a) (k:=k) (cs:=cs) (w:=w) he rW hinv
 obtain⟨e,tD,fr,hR,tE,vO,xn⟩:=dt (b.atR {a with defers:=mark++a.defers} (.inRangeFunc l::k)::cs) ez
 cases e with
 |outgrown=>
  obtain⟨IM,IP,hq⟩:=hR
  exact⟨.outgrown,IM,IP,hq, .inr (Outgrown.of_steps (.one iA) tE)⟩
 |returned v=>
  obtain⟨jump,mP,nL,hj⟩:=hR
  have AY:StepsIn (Machine.fenced P (cK none)) P (lone (b.atR a (.code (.rangeFunc g ps assign body)::k)) cs w) (lone (b.atR {a with defers:=mark++a.defers} ((jump.map Item.code).toList++k)) cs mP):=by
   refine .head h0 iA (StepsIn.trans tE (.head ((calm _).2 (fenced_wide P _)) ?_ (.one ((calm _).2 (fenced_wide P _)) (stepR_endRangeFunc nL))))
   rw[<- finish_atR_inRangeFunc l v];exact step_leave_returned xn
  cases jump with
  |none=>exact⟨.normal,_,mP,hj,AY⟩
  |some c=>
   obtain⟨e',Oe,IQ,hq,bK⟩:=hj b k cs nJ hb
   exact⟨e',Oe,IQ,hq, .of_steps AY bK⟩
 |panicked chain=>
  refine⟨.panic chain,_,tD,hR, .inRangeFunc l::k, .head h0 iA (StepsIn.trans tE (.one ((calm _).2 (fenced_wide P _)) ?_))⟩
  rw[<- Frame.raise_atR];exact step_leave_panicked xn
end
theorem pv(hH:af M φ H w){id l:Nat}(cI:H.us id){nf m:Nat}{env:List V}{ps:List Nat}{jD fV:IC}{st st':LoopState}{pd pd':Option kq}(ho:H.o id= .loop nf m env ps jD fV st pd)(cz:φ id= .pointer (some ⟨l,0,none⟩)):
 ∃r,w.heap[l]? =some (.loop r)/\r.state=st/\r.pending=pd.map kq.code/\
  af M φ (H.put [(id, .loop nf m env ps jD fV st' pd')]) {w with heap:=w.heap.setIfInBounds l (.loop {r with state:=st',pending:=pd'.map kq.code})}/\
  Trans φ H w φ (H.put [(id, .loop nf m env ps jD fV st' pd')]) {w with heap:=w.heap.setIfInBounds l (.loop {r with state:=st',pending:=pd'.map kq.code})}:=by
 have a8:=hH.ok id
 simp only[au,ho]at a8
 obtain⟨b,r,h1,h2,h0,h3,h4,h5,h6,h7,h8,h9⟩:=a8
 rw[cz]at h1;simp at h1;subst h1
 refine⟨r,h2,h3,h4, ?_⟩
 have w9:df (· =l) w {w with heap:=w.heap.setIfInBounds l (.loop {r with state:=st',pending:=pd'.map kq.code})}:=
  ⟨rfl,rfl,rfl,by simp,fun j _ hj=>(MapKept.heap_set h2).2 j hj⟩
 have oO:(H.o id).live=true:=by rw[ho];rfl
 have xa:db (φ id)=some l:=by rw[cz];rfl
 have ht:=dV (w:=w) (w':={w with heap:=w.heap.setIfInBounds l (.loop {r with state:=st',pending:=pd'.map kq.code})}) cI oO xa w9 (.loop nf m env ps jD fV st' pd') (by rw[ho];rfl) (by rw[ho];rfl)
 refine⟨fk hH cI oO xa w9 _ (by rw[ho];rfl) (by rw[ho];rfl) ?_,ht⟩
 unfold au
 simp only[aW,az,if_true]
 exact⟨l,_,cz,(MapKept.heap_set h2).1,h0,rfl,rfl,h5,h6,h7,h8,fun i=>V.ao ht _ _ (h9 i)⟩
theorem eX{l:Nat}{r:Loop}(o:Obj)(hb:w.heap[l]? =some (.loop r)):(setObj l o).run P w= .ok () {w with heap:=w.heap.setIfInBounds l o}:=by
 simp[setObj,Sem.run,hb]
theorem gu{l:Nat}{r:Loop}(hb:w.heap[l]? =some (.loop r)):(Instr.getLoop l).run P w= .ok r w:=by
 simp[Instr.getLoop,getObj,Sem.run,hb,Result.andThen]
end
def B2(Q:eW->S->Prop)(pd:Option kq)(s:S):Prop:=
 match pd with
 |none=>Q .normal s
 |some .ret=>Q .ret s
 |some (.exit id)=>Q (.exit id) s
def tF(P:Program)(n:Nat)(g:V)(ps:List Nat)(jD fV:IC)(Q:eW->S->Prop)(s:S):Prop:=
 ∃env,(∀i,bT env i= .aE\/bT env i=s.env i)/\
  match g with
  | .func (.func f) first cap=>iY P f (first++[.js s.nx]++cap) (aY s.o s.nx (.loop P.funcs.size n env ps jD fV .ready none)) (s.nx+1)
    (fun _ o' nx'=>∃nf m e p c d st pd,o' s.nx= .loop nf m e p c d st pd/\st≠ .busy/\B2 Q pd ⟨s.env,aY o' s.nx (.loop nf m e p c d .exhausted pd),nx'⟩)
    (fun v o' nx'=>Q (.ba v) ⟨s.env,o',nx'⟩)
  |_=>False
def e8(P:Program)(n b:Nat)(rd:Bool):Code->(eW->S->Prop)->S->Prop
 | .skip,Q,s=>Q .normal s
 | .label _,Q,s=>Q .normal s
 | .scope x,Q,s=>e8 P n b rd x Q s
 | .region _ ops false,Q,s=>qd P n ops (fun v s=>Q (.ba v) s) (Q .normal) ops.toList s
 | .region id ops true,Q,s=>∀M bM H0 w0 cx φ a w ro k,bw M bM H0 w0 n cx φ s a w->(Code.region id ops true).wpIn (cK ro) k P (uC M bM H0 w0 n cx Q) a w
 | .seq x y,Q,s=>e8 P n b rd x (kX (e8 P n b rd y Q) Q) s
 | .cond c x y,Q,s=>match s.ev c with
   | .d (.bool t)=>(t=true->e8 P n b rd x Q s)/\(t=false->e8 P n b rd y Q s)
   | .dx=>e8 P n b rd x Q s/\e8 P n b rd y Q s
   |_=>False
 | .block id x,Q,s=>e8 P n b rd x (dG id Q) s
 | .loop x,Q,s=>∃ (J:Nat->S->Prop),(∃m s1,du b s s1/\J m s1)/\∀m s0,J m s0->e8 P n b rd x (fun e s=>match e with| .normal=>∃m' s1,m'<m/\du b s s1/\J m' s1|e=>Q e s) s0
 | .exit id,Q,s=>Q (.exit id) s
 | .ret,Q,s=>Q .ret s
 | .rangeFunc g ps x y,Q,s=>rd=false/\tF P n (s.ev g) ps.toList (low n x) (low n y) Q s
 |_,_,_=>False
section
variable {P:Program}{M:Nat->Prop}{φ:Place}{H:Hp}{w w':World}{bM:Place}{H0:Hp}{w0:World}{n b:Nat}{s:S}{a:Act}{cx:Cx}{ro:Option Nat}{k:Nat}
theorem xo(hb:∀id,H0.us id->id<b)(hs:bw M bM H0 w0 n cx φ s a w){s':S}(h:du b s s'):∃ai,bw M bM H0 w0 n cx ai s' a w:=by
 obtain⟨ai,h1,h2,h3,h4,h5,h6⟩:=h M φ w (fun i=>a.tmps.getD i undef) hs.heap hs.env
 refine⟨ai,h1,⟨hs.tr.bD,fun k hk=>hs.tr.grow k (h3 k hk),⟨fun id hu=>Nat.lt_of_lt_of_le (hb id hu) h4,fun id hu hr=> ?_,fun id e' hu he=> ?_⟩⟩,hs.size, ?_,h2⟩
 ·obtain⟨g1,g2⟩:=h5 id (hb id hu) hr
  obtain⟨g3,g4⟩:=hs.tr.rel.row id hu g1
  exact⟨g3,g2.trans g4⟩
 ·obtain⟨e,g1,g2,g3⟩:=h6 id e' (hb id hu) he
  obtain⟨e0,k1,k2,k3⟩:=hs.tr.rel.ep id e hu g1
  refine⟨e0,k1,Nat.le_trans k2 g2,fun heq=> ?_⟩
  have a1:e0=e:=by omega
  have a2:e=e':=by omega
  exact(g3 a2).trans (k3 a1)
 ·obtain⟨ms,g1,g2,g3,g4⟩:=hs.defers
  exact⟨ms,g1,g2,g3,fun r hr=>⟨(g4 r hr).1,(g4 r hr).2.1,fun hl=>(g4 r hr).2.2 (h3 r hl)⟩⟩
theorem qh{c:Code}{Q:Exit->Act->World->Prop}(J:Nat->Act->World->Prop)(round:∀m a w,J m a w->c.mO P ro (Exit.then (fun a' w'=>∃m',m'<m/\J m' a' w') Q) a w):
 ∀m a w,J m a w->(Code.loop c).mO P ro Q a w:=by
 intro m a w h0 fr kk cs nJ hb
 have hr:(cK ro).room (cs.length+1+0):=fun d hd=>by simp[cK]at hd
 have key:∀m a w,J m a w->∃e a' w',Q e a' w'/\ArrivesIn (Machine.fenced P (cK ro)) P (lone (fr.atR a (.code c:: .inLoop c::kk)) cs w) fr kk cs e a' w':=by
  intro m
  induction m using Nat.strongRecOn with
  |_ m ih=>
   intro a w hJ
   obtain⟨e,a1,w1,hq,bK⟩:=round m a w hJ fr (.inLoop c::kk) cs nJ hb
   cases e with
   |normal=>
    obtain⟨m',br,Of⟩:=hq
    obtain⟨e2,a2,w2,yZ,uE⟩:=ih m' br a1 w1 Of
    exact⟨e2,a2,w2,yZ, .of_steps (StepsIn.trans bK (.one (fenced_calm trivial hr rfl) stepR_inLoop)) uE⟩
   |_=>exact⟨_,a1,w1,hq, .pass (x:= .inLoop c) rfl (fun _ _=> .inl (by simp)) bK⟩
 obtain⟨e,a',w',hq,bK⟩:=key m a w h0
 exact⟨e,a',w',hq, .of_steps (.one (fenced_calm trivial hr rfl) stepR_loop) bK⟩
theorem vQ(hs:bw M bM H0 w0 n cx φ s a w)(jw:cx.rd=false)(nJ:ro=none){g:Operand}{ps:Array Tmp}{x y:Code}{Q:eW->S->Prop}(h:tF P n (s.ev g) ps.toList (low n x) (low n y) Q s):
 (Code.rangeFunc g ps x y).mO P ro (uC M bM H0 w0 n cx Q) a w:=by
 subst nJ
 obtain⟨env,cA,h⟩:=h
 refine oQ fun fn vO=> ?_
 let tG:Loop:={state:= .ready,pending:=none,fn:=fn,tmps:=a.tmps,params:=ps,assign:=x,body:=y,defers:=w.heap.size}
 let w1:World:=(w.alloc (.deferred (some []))).alloc (.loop tG)
 let l:Nat:=w.heap.size+1
 have iA:(Instr.enterLoop fn a.tmps ps x y (cK none).round).run P w= .ok (l,[mark w.heap.size]) w1:=by
  simp[Instr.enterLoop,cK,mark,w1,l,tG]
 have LL:df (fun _=>False) w w1:=by
  have k1:=b8 w (.deferred (some []))
  have k2:=b8 (w.alloc (.deferred (some []))) (.loop tG)
  exact⟨k2.os.trans k1.os,k2.tape.trans k1.tape,k2.output.trans k1.output,Nat.le_trans k1.size k2.size,fun j hj hm=>(k2.block j (Nat.lt_of_lt_of_le hj k1.size) hm).trans (k1.block j hj hm)⟩
 let eV:=aY φ s.nx (.pointer (some ⟨l,0,none⟩))
 let s1:S:=⟨s.env,aY s.o s.nx (.loop P.funcs.size n env ps.toList (low n x) (low n y) .ready none),s.nx+1⟩
 have dq: ¬s.H.us s.nx:=by simp[S.H]
 have cZ:∀b,db (.pointer (some ⟨l,0,none⟩))=some b->w.heap.size<=b/\b<w1.heap.size:=by
  intro b hb;simp[db]at hb;subst hb;simp[l,w1]
 have tc:=dz (φ:=φ) (H:=s.H) LL dq (.loop P.funcs.size n env ps.toList (low n x) (low n y) .ready none) (.pointer (some ⟨l,0,none⟩)) fun b hb=>(cZ b hb).1
 have zp:(w.alloc (.deferred (some []))).heap.size=w.heap.size+1:=by simp
 have oO:w1.heap[l]? =some (.loop tG):=by
  have:=heap_alloc_new (w.alloc (.deferred (some []))) (.loop tG)
  rwa [zp]at this
 have Og:=fG hs.heap LL dq (.loop P.funcs.size n env ps.toList (low n x) (low n y) .ready none) (.pointer (some ⟨l,0,none⟩)) cZ (by
  unfold au
  simp only[aW,az,if_true]
  refine⟨l,tG,rfl,oO,vO,rfl,rfl,rfl,hs.size,rfl,rfl,fun i=> ?_⟩
  rcases cA i with e|e
  ·rw[e];trivial
  ·rw[e];exact V.ao tc _ _ (hs.env i))
 have pw:bw M bM H0 w0 n cx eV s1 {a with defers:=mark w.heap.size::a.defers} w1:=by
  have base:=cT hs Og tc (o':=aY s.o s.nx (.loop P.funcs.size n env ps.toList (low n x) (low n y) .ready none)) (nx':=s.nx+1) rfl (xj fun id ag=>by simp at ag;exact .inr ag)
  refine⟨base.heap,base.tr,base.size, ?_,base.env⟩
  obtain⟨ms,g1,g2,g3,g4⟩:=base.defers
  obtain⟨IU,q1,q2,q3,q4⟩:=hs.defers
  have Oh:ms.map mark=IU.map mark:=by
   have:ms.map mark++cx.base=IU.map mark++cx.base:=g1.symm.trans q1
   exact List.append_cancel_right this
  have qi:ms=IU:=by
   have hm:∀a b,mark a=mark b->a=b:=fun a b h=>by simpa[mark]using h
   exact List.map_inj_right hm |>.1 Oh
  refine⟨w.heap.size::ms,by rw[g1];rfl,List.nodup_cons.2 ⟨fun hm=> ?_,g2⟩,(fun h=>by rw[jw]at h;cases h),fun r hr=> ?_⟩
  ·have:=(q4 w.heap.size (qi ▸ hm)).2.1
   rw[Array.getElem?_eq_none (Nat.le_refl _)]at this;cases this
  ·rcases List.mem_cons.1 hr with rfl|hr
   ·refine⟨hs.tr.bD.size,(RowKit.Below.heap_alloc (w.alloc (.deferred (some []))) (.loop tG) w.heap.size (by rw[zp];omega)).trans (heap_alloc_new w _), ?_⟩
    rintro⟨id,i1,i2⟩
    by_cases e:id=s.nx
    ·subst e;simp[eV,db,l]at i2
    ·have Oi:(s.H.o id).live=true:=by simpa[s1,S.H,e]using i1
     have Oj:db (φ id)=some w.heap.size:=by simpa[eV,e]using i2
     have:=(hs.heap.ours _ ⟨id,Oi,Oj⟩).2
     omega
   ·exact g4 r hr
 have IV:V.den (ad M eV s1.H) eV s1.H w1 (.js s.nx) (.func (.yield l) #[] #[]):=
  ⟨rfl,by simp[s1,S.H],fun _=>⟨l,by simp[eV],rfl⟩⟩
 have hg:=iQ (M:=M) (φ:=eV) (H:=s1.H) (w:=w1) s1 {a with defers:=mark w.heap.size::a.defers} pw.env g
 have IW:s1.ev g=s.ev g:=by cases g<;>rfl
 rw[IW]at hg
 have Ol:({a with defers:=mark w.heap.size::a.defers}:Act).eval g=a.eval g:=rfl
 rw[Ol]at hg
 split at h
 ·rename_i f first cap Om
  rw[Om]at hg
  obtain⟨fa,ca,B0,tn,E1⟩:=hg
  have fin:∀ (all:List V) (o2:Nat->aa) (s2:S),s2=⟨s.env,o2,s.nx+1⟩->bw M bM H0 w0 n cx eV s2 {a with defers:=mark w.heap.size::a.defers} w1->V.ak (ad M eV s2.H) eV s2.H w1 all (fa++#[Value.func (.yield l) #[] #[]]++ca).toList->(o2 s.nx).bc=true->
   j8 P f all o2 (s.nx+1) (fun _ o' nx'=>∃nf m e p c d st pd,o' s.nx= .loop nf m e p c d st pd/\st≠ .busy/\B2 Q pd ⟨s.env,aY o' s.nx (.loop nf m e p c d .exhausted pd),nx'⟩) (fun v o' nx'=>Q (.ba v) ⟨s.env,o',nx'⟩)->
   ∃ (l:Nat) (mark:List Deferred) (dX:World) (d:Deferred) (pt:World) (f:FuncId) (args:Array Value) (l5:World),
     (Instr.enterLoop fn a.tmps ps x y (cK none).round).run P w= .ok (l,mark) dX/\(resolve a.eval (rangeCall g l) 0).run P dX= .ok d pt/\
     (invoke d.target d.args).run P pt= .ok (.enter f args) l5/\CallsIn (cK none) 0 P f args l5 (nK P l (uC M bM H0 w0 n cx Q) {a with defers:=mark++a.defers}):=by
   intro all o2 s2 IX y0 aC aX hC
   subst IX
   have dt:=hC.2 M eV w1 _ y0.heap aC
   refine⟨l,[mark w.heap.size],w1,{target:= .fn (.func f) ca,args:=fa++#[Value.func (.yield l) #[] #[]]},w1,f,fa++#[Value.func (.yield l) #[] #[]]++ca,w1,iA, ?_, ?_,cf (dt.mono fun e w' ⟨ai,o',nx',v,k1,k2,k3⟩=> ?_)⟩
   ·simp only[resolve,B0,Deferred.ofValue,List.map_toArray,List.map_cons,List.map_nil,Sem.run_pure]
    rfl
   ·simp[invoke,gU hC.1]
   ·cases e with
    |returned val=>
     obtain⟨k4,nf,m,e,p,c,d,st,pd,k5,k6,k7⟩:=k3
     have uF:bw M bM H0 w0 n cx ai ⟨s.env,o',nx'⟩ {a with defers:=mark w.heap.size::a.defers} w':=cT y0 k1 k2 rfl fun id hu=>hu
     have B3:ai s.nx= .pointer (some ⟨l,0,none⟩):=by
      have:=(k2.rel.row s.nx (show s.nx<s.nx+1 by omega) (by show(o' s.nx).bc=true;rw[k5];rfl)).2
      rw[this];simp[eV]
     have br:s.nx<nx':=k2.rel.us s.nx (show s.nx<s.nx+1 by omega)
     obtain⟨r,r1,r2,r3,r4,r5⟩:=pv (st':= .exhausted) (pd':=pd) k1 br (show(hp o' nx').o s.nx=_ from k5) B3
     have nL:(Instr.endLoop l).run P w'= .ok (pd.map kq.code) {w' with heap:=w'.heap.setIfInBounds l (.loop {r with state:= .exhausted,pending:=pd.map kq.code})}:=by
      have e1:({r with state:= .exhausted}:Loop)={r with state:= .exhausted,pending:=pd.map kq.code}:=by rw[<- r3]
      have On:(r.state==LoopState.busy)=false:=by rw[r2];cases st<;>first|rfl|exact absurd rfl k6
      simp only[Instr.endLoop,Sem.run_bind,gu r1,Result.andThen_ok,On,Bool.false_eq_true,if_false,Sem.run_pure]
      rw[eX _ r1,e1]
      simp[r3]
     have DN:=cT uF r4 r5 (o':=aY o' s.nx (.loop nf m e p c d .exhausted pd)) (nx':=nx') rfl fun id hu=>by
      simp only[cN]at hu
      rcases hu with hu|hu
      ·exact hu
      ·subst hu;exact br
     refine⟨pd.map kq.code,_,nL, ?_⟩
     cases pd with
     |none=>exact⟨.normal,_,_,k7,DN,trivial⟩
     |some j=>
      cases j with
      |ret=>exact uD ⟨.ret,_,_,k7,DN,trivial⟩
      |exit id=>exact rV ⟨.exit id,_,_,k7,DN,rfl⟩
    |panicked ch=>
     obtain⟨val,rfl,k4,k5⟩:=k3
     have uF:bw M bM H0 w0 n cx ai ⟨s.env,o',nx'⟩ {a with defers:=mark w.heap.size::a.defers} w':=cT y0 k1 k2 rfl fun id hu=>hu
     exact⟨.ba v,_,_,k5,uF,val,rfl,k4⟩
    |outgrown=>exact k3.elim
  have iZ:V.ak (ad M eV s1.H) eV s1.H w1 (first++[V.js s.nx]++cap) (fa++#[Value.func (.yield l) #[] #[]]++ca).toList:=by
   rw[Array.toList_append,Array.toList_append]
   exact V.iz tn ⟨_,[],rfl,IV,rfl⟩ E1
  rcases h with hC|hC
  ·exact fin _ _ s1 rfl pw iZ (by simp;rfl) hC
  ·have gI:s1.o=aY s.o s.nx (.loop P.funcs.size n env ps.toList (low n x) (low n y) .ready none):=rfl
   obtain⟨f1,f2,f3,f4,f5⟩:=cj pw.heap (ck s1.o (first++[V.js s.nx]++cap)) (ey _ _ s1.o iZ)
   have iq:s1.H.put (b7 s1.H.o (ck s1.o (first++[V.js s.nx]++cap)))=hp (put s1.o (b7 s1.o (ck s1.o (first++[V.js s.nx]++cap)))) s1.nx:=gS (by rw[jx];exact ey _ _ s1.o iZ)
   have AZ:=xm f1 _ _ f3 (V.aw f2 _ _ iZ)
   have A0:((s1.H.put (b7 s1.H.o (ck s1.o (first++[V.js s.nx]++cap)))).o s.nx).bc=true:=by
    by_cases hm:s.nx∈ck s1.o (first++[V.js s.nx]++cap)
    ·rw[f3 _ hm];simp[s1,S.H,aa.fz,aa.bc]
    ·rw[f4 _ hm];simp[s1,S.H,aa.bc]
   rw[iq]at f1 f2 AZ A0
   exact fin _ (put s1.o (b7 s1.o (ck s1.o (first++[V.js s.nx]++cap)))) ⟨s.env,_,s.nx+1⟩ rfl (cT pw f1 f2 rfl fun id hu=>hu) AZ A0 hC
 ·exact h.elim
end
end Go.Proofs.YtbmnikpknlkbkaaGreat
