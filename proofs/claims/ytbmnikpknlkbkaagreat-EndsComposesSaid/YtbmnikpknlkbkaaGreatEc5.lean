/-
  A PART OF THE PROOF. Conditions: none.
-/
import Derived.RangeFuncLeaves
import Derived.TacticsIn
import Derived.RecoverIn
import Derived.Test.YtbmnikpknlkbkaaGreatEc4
set_option linter.unusedSimpArgs false
set_option linter.unusedVariables false
namespace Go.Proofs.YtbmnikpknlkbkaaGreat
inductive R where
 |ret (ds:List D)|ba (d:D)
def R.is (B:Nat->Prop)(w:World):R->Ending->Prop
 | .ret [x], .returned v=>D.den B w x v
 | .ret ds, .returned v=>∃a,v= .tuple a/\D.ak B w ds a.toList
 | .ba d, .panicked chain=>∃v,chain=[{v:=v,recovered:=false}]/\D.den B w d v
 |_,_=>False
def fJ(P:Program)(f:FuncId):Prop:=∃fn,P.funcs[f]? =some fn/\(fn.name== "runtime.NumGoroutine")=false/\fn.body.isNone=false
def cR(P:Program)(f:FuncId)(ds:List D)(out:R):Prop:=
 fJ P f/\∀ (M:Nat->Prop) (w:World) (vals:Array Value),(∀b,M b->b<w.heap.size)->D.ak M w ds vals.toList->
  Calls P f vals w fun e w'=>dh (fun _=>False) w w'/\out.is M w' e
def hp(o:Nat->aa)(nx:Nat):Hp:=⟨o,fun id=>id<nx⟩
def iV(M:Nat->Prop)(φ:Place)(H:Hp)(w:World)(K X:V->(Nat->aa)->Nat->Prop)(e:Ending)(w':World):Prop:=
 ∃ai o' nx' v,af M ai (hp o' nx') w'/\Trans φ H w ai (hp o' nx') w'/\match e with
  | .returned val=>V.den (ad M ai (hp o' nx')) ai (hp o' nx') w' v val/\K v o' nx'
  | .panicked ch=>∃val,ch=[{v:=val,recovered:=false}]/\V.den (ad M ai (hp o' nx')) ai (hp o' nx') w' v val/\X v o' nx'
  | .outgrown=>False
def jx(P:Program)(f:FuncId)(args:List V)(o:Nat->aa)(nx:Nat)(K X:V->(Nat->aa)->Nat->Prop):Prop:=
 fJ P f/\∀ (M:Nat->Prop) (φ:Place) (w:World) (vals:Array Value),af M φ (hp o nx) w->V.ak (ad M φ (hp o nx)) φ (hp o nx) w args vals.toList->
  Calls P f vals w (iV M φ (hp o nx) w K X)
def dF(P:Program)(id:Nat)(args:List V)(o:Nat->aa)(nx:Nat)(K X:V->(Nat->aa)->Nat->Prop):Prop:=
 (o id).bc=true/\∀ (M:Nat->Prop) (φ:Place) (w:World) (vals:Array Value) (b:Nat),af M φ (hp o nx) w->V.ak (ad M φ (hp o nx)) φ (hp o nx) w args vals.toList->φ id= .pointer (some ⟨b,0,none⟩)->
  ∃f tmps assign body,(Instr.yield b vals).run P w= .ok (.round b f tmps assign body) w/\∀n,RoundIn Fence.wide n P b f tmps assign body w (iV M φ (hp o nx) w K X)
theorem iV.mono {M:Nat->Prop}{φ:Place}{H:Hp}{w:World}{K X K' X':V->(Nat->aa)->Nat->Prop}(hK:∀v o n,K v o n->K' v o n)(hX:∀v o n,X v o n->X' v o n){e:Ending}{w':World}(h:iV M φ H w K X e w'):iV M φ H w K' X' e w':=by
 obtain⟨ai,o',nx',v,h1,h2,h3⟩:=h
 refine⟨ai,o',nx',v,h1,h2, ?_⟩
 cases e with
 |returned val=>exact⟨h3.1,hK _ _ _ h3.2⟩
 |panicked ch=>obtain⟨val,a,b,c⟩:=h3;exact⟨val,a,b,hX _ _ _ c⟩
 |outgrown=>exact h3
theorem jx.mono {P:Program}{f:FuncId}{args:List V}{o:Nat->aa}{nx:Nat}{K X K' X':V->(Nat->aa)->Nat->Prop}(hK:∀v o n,K v o n->K' v o n)(hX:∀v o n,X v o n->X' v o n)(h:jx P f args o nx K X):jx P f args o nx K' X':=
 ⟨h.1,fun M φ w vals h1 h2=>(h.2 M φ w vals h1 h2).mono fun _ _ h=>h.mono hK hX⟩
theorem dF.mono {P:Program}{id:Nat}{args:List V}{o:Nat->aa}{nx:Nat}{K X K' X':V->(Nat->aa)->Nat->Prop}(hK:∀v o n,K v o n->K' v o n)(hX:∀v o n,X v o n->X' v o n)(h:dF P id args o nx K X):dF P id args o nx K' X':=
 ⟨h.1,fun M φ w vals b h1 h2 h3=>let⟨f,t,a,c,h4,h5⟩:=h.2 M φ w vals b h1 h2 h3;⟨f,t,a,c,h4,fun n=>(h5 n).mono fun _ _ h=>h.mono hK hX⟩⟩
mutual
def D.flat:D->Bool
 | .sl _| .mp _ _=>false
 | .agg cs=>D.gq cs
 | .iface _ x=>x.flat
 |_=>true
def D.gq:List D->Bool
 |[]=>true
 |x::xs=>x.flat&&D.gq xs
end
mutual
theorem D.kV {B B':Nat->Prop}{w w':World}:∀ (x:D) (v:Value),x.flat=true->D.den B w x v->D.den B' w' x v
 | .int _ _,_,_,h| .bool _,_,_,h| .str _,_,_,h| .dS,_,_,h| .fg,_,_,h| .aM,_,_,h| .c0,_,_,h=>h
 | .agg cs,_,hf,h=>by obtain⟨a,rfl,h,h2⟩:=h;exact⟨a,rfl,D.ir cs _ hf h,h2⟩
 | .sl es,_,hf,h=>by simp[D.flat]at hf
 | .mp _ _,_,hf,h=>by simp[D.flat]at hf
 | .iface t x,_,hf,h=>by obtain⟨u,rfl,h⟩:=h;exact⟨u,rfl,D.kV x u hf h⟩
theorem D.ir {B B':Nat->Prop}{w w':World}:∀ (xs:List D) (vs:List Value),D.gq xs=true->D.ak B w xs vs->D.ak B' w' xs vs
 |[],_,_,h=>h
 |x::xs,_,hf,h=>by
  obtain⟨u,us,rfl,h1,h2⟩:=h
  simp only[D.gq,Bool.and_eq_true]at hf
  exact⟨u,us,rfl,D.kV x u hf.1 h1,D.ir xs us hf.2 h2⟩
end
mutual
def D.iW:D->Bool
 | .mp _ _=>false
 | .agg cs=>D.iu cs
 | .sl es=>D.iu es
 | .iface _ x=>x.iW
 |_=>true
def D.iu:List D->Bool
 |[]=>true
 |x::xs=>x.iW&&D.iu xs
end
theorem eo.rr {B B':Nat->Prop}{w w':World}{a:Addr}{cs:Array Value}
 (hb:∀b,kz w b-> ¬B b->w'.heap[b]? =w.heap[b]? /\ ¬B' b) (h:eo B w a cs):eo B' w' a cs:=by
 intro j u hj
 obtain⟨h1,h2⟩:=h j u hj
 have br:kz w a.block:=by simpa using jM h1
 obtain⟨h3,h4⟩:=hb _ br h2
 exact⟨by rw[World.cell?_of_block (w:=w) (w':=w') (a:=a.add j) (by simpa using h3)];exact h1,h4⟩
mutual
theorem D.gP {B B':Nat->Prop}{w w':World}(hb:∀b,kz w b-> ¬B b->w'.heap[b]? =w.heap[b]? /\ ¬B' b):
 ∀ (x:D) (v:Value),x.iW=true->D.den B w x v->D.den B' w' x v
 | .int _ _,_,_,h| .bool _,_,_,h| .str _,_,_,h| .dS,_,_,h| .fg,_,_,h| .aM,_,_,h| .c0,_,_,h=>by simpa[D.den]using h
 | .agg cs,_,hn,h=>by
   obtain⟨a,rfl,h,hf⟩:=h
   exact⟨a,rfl,D.iX hb cs _ hn h,hf⟩
 | .sl es,_,hn,h=>by
   obtain⟨base,len,cap,rfl,h1,h2,h3,sz,h4⟩:=h
   exact⟨base,len,cap,rfl,h1,h2,h3,sz,fun a ha=>⟨(h4 a ha).1,D.kW hb sz a es 0 hn (h4 a ha).2⟩⟩
 | .iface t d,_,hn,h=>by
   obtain⟨u,rfl,h⟩:=h
   exact⟨u,rfl,D.gP hb d u hn h⟩
 | .mp _ _,_,hn,_=>by simp[D.iW]at hn
theorem D.iX {B B':Nat->Prop}{w w':World}(hb:∀b,kz w b-> ¬B b->w'.heap[b]? =w.heap[b]? /\ ¬B' b):
 ∀ (ds:List D) (vs:List Value),D.iu ds=true->D.ak B w ds vs->D.ak B' w' ds vs
 |[],_,_,h=>h
 |d::ds,_,hn,h=>by
  obtain⟨u,us,rfl,h1,h2⟩:=h
  simp only[D.iu,Bool.and_eq_true]at hn
  exact⟨u,us,rfl,D.gP hb d u hn.1 h1,D.iX hb ds us hn.2 h2⟩
theorem D.kW {B B':Nat->Prop}{w w':World}(hb:∀b,kz w b-> ¬B b->w'.heap[b]? =w.heap[b]? /\ ¬B' b)(sz:Nat)(a:Addr):
 ∀ (es:List D) (i:Nat),D.iu es=true->D.elems B w sz a i es->D.elems B' w' sz a i es
 |[],_,_,_=>trivial
 |e::es,i,hn,h=>by
  obtain⟨⟨ev,h1,h2,h3⟩,h4⟩:=h
  simp only[D.iu,Bool.and_eq_true]at hn
  exact⟨⟨ev,h1,h2.rr hb,D.gP hb e ev hn.1 h3⟩,D.kW hb sz a es (i+1) hn.2 h4⟩
end
def R.iW:R->Bool
 | .ret ds=>D.iu ds
 | .ba d=>d.iW
def R.flat:R->Bool
 | .ret ds=>D.gq ds
 | .ba d=>d.flat
def gQ:List D->V
 |[x]=> .d x
 |ds=> .bJ (ds.map .d)
inductive eY where
 |normal|exit (id:Nat)|ret|ba (v:V)
def aJ(env:Nat->V)(dst:Option Tmp)(v:V):Nat->V:=
 match dst with
 |some d=>aV env d v
 |none=>env
def xg(o:Nat->aa)(v:V):V:=match dk o v with|some x=> .d x|none=>v
def ck(o:Nat->aa):List V->List Nat
 |[]=>[]
 |v::vs=>(match dk o v with|some _=>v.ids|none=>[])++ck o vs
def iY(P:Program)(g:FuncId)(args:List V)(o:Nat->aa)(nx:Nat)(K X:V->(Nat->aa)->Nat->Prop):Prop:=
 jx P g args o nx K X\/jx P g (args.map (xg o)) (put o (b8 o (ck o args))) nx K X
def nG(P:Program)(s:S)(g:FuncId)(all:List V)(K:V->(Nat->aa)->Nat->Prop)(X:V->(Nat->aa)->Nat->Prop):Prop:=
    (∃ds out,bt s.o all=some ds/\cR P g ds out/\(match out with
     | .ret rs=>K (gQ rs) (put s.o (b8 s.o (V.aP all))) (s.nx+1)
     | .ba x=>X (.d x) (put s.o (b8 s.o (V.aP all))) (s.nx+1)))\/
    (∃ds out,bt s.o all=some ds/\cR P g ds out/\out.flat=true/\(match out with
     | .ret rs=>K (gQ rs) s.o (s.nx+1)
     | .ba x=>X (.d x) s.o (s.nx+1)))\/
    (∃ds out,bt s.o all=some ds/\cR P g ds out/\out.iW=true/\(match out with
     | .ret rs=>K (gQ rs) (put s.o (lT s.o (V.aP all))) (s.nx+1)
     | .ba x=>X (.d x) (put s.o (lT s.o (V.aP all))) (s.nx+1)))\/
    iY P g all s.o s.nx K X
def rQ(P:Program)(s:S)(f:V)(args:List V)(K:V->(Nat->aa)->Nat->Prop)(X:V->(Nat->aa)->Nat->Prop):Prop:=
 match f with
 | .func (.func g) first cap=>nG P s g (first++args++cap) K X
 | .js id=>dF P id args s.o s.nx K X
 |_=>False
def AX(P:Program)(t:TypeId):Bool:=
 match P.underlying t with
 |some (.pointer _)=>false
 |some _=>true
 |none=>false
def nH(P:Program)(m:String)(x:V):Option (FuncId×V):=
 match x with
 | .d (.iface t y)=>match P.info? t with
   |some ti=>match ti.methods.find? (·.name==m)with
    |some r=>match r.func with
     |some (f,false)=>if r.path.isEmpty=true/\AX P t=true then some (f, .d y)else none
     |_=>none
    |none=>none
   |none=>none
 |_=>none
def ew(n:Nat):Option Tmp->Prop
 |some d=>d<n
 |none=>True
def IP(P:Program)(n:Nat)(s:S)(o:Oper)(X:V->S->Prop)(K:S->Prop):Prop:=
 ew n o.dst/\match o.op with
 | .call c=>match c.callee with
   | .value f=>rQ P s (s.ev f) (c.args.toList.map s.ev) (fun v o' nx'=>K ⟨aJ s.env o.dst v,o',nx'⟩) (fun v o' nx'=>X v ⟨s.env,o',nx'⟩)
   | .invoke r m=>match nH P m (s.ev r)with
     |some (g,y)=>nG P s g (y::c.args.toList.map s.ev) (fun v o' nx'=>K ⟨aJ s.env o.dst v,o',nx'⟩) (fun v o' nx'=>X v ⟨s.env,o',nx'⟩)
     |none=>False
   |_=>AJ P s s.nx o.op fun v Δ _=>K ⟨aJ s.env o.dst v,put s.o Δ,s.nx+1⟩
 | .panic x=>match s.ev x with
   | .d (.iface t y)=>X (.d (.iface t y)) s
   | .iface t y=>X (.iface t y) s
   |_=>False
 |op=>AJ P s s.nx op fun v Δ _=>K ⟨aJ s.env o.dst v,put s.o Δ,s.nx+1⟩
def qd(s:S)(ops:Array Oper)(g:Option (Nat×Bool))(A B:Prop):Prop:=
 match g with
 |none=>A
 |some (j,want)=>match me ops j with
  |some d=>match s.env d with
   | .d (.bool b)=>(b=want->A)/\(b≠want->B)
   | .bJ []=>B
   |_=>False
  |none=>B
def qe(P:Program)(n:Nat)(ops:Array Oper)(X:V->S->Prop)(K:S->Prop):List Oper->S->Prop
 |[],s=>K s
 |o::l,s=>qd s ops o.guard (IP P n s o X (qe P n ops X K l)) (ew n o.dst/\qe P n ops X K l ⟨aJ s.env o.dst (.bJ []),s.o,s.nx+1⟩)
def dv(b:Nat)(s s':S):Prop:=
 ∀ (M:Nat->Prop) (φ:Place) (w:World) (tm:Nat->Value),af M φ s.H w->(∀i,V.den (ad M φ s.H) φ s.H w (s.env i) (tm i))->
   ∃ai,af M ai s'.H w/\(∀i,V.den (ad M ai s'.H) ai s'.H w (s'.env i) (tm i))/\(∀k,bp ai s'.H k->bp φ s.H k)/\b<=s'.nx/\
    (∀id,id<b->(s'.o id).bc=true->(s.o id).bc=true/\ai id=φ id)/\
    (∀id e',id<b->(s'.o id).aL=some e'->∃e,(s.o id).aL=some e/\e<=e'/\(e=e'->ai id=φ id))
def kX(K:S->Prop)(Q:eY->S->Prop)(e:eY)(s:S):Prop:=match e with| .normal=>K s|e=>Q e s
def dG(id:Nat)(Q:eY->S->Prop)(e:eY)(s:S):Prop:=match e with| .exit j=>if j=id then Q .normal s else Q (.exit j) s|e=>Q e s
def iw(P:Program)(s:S):List ResultVar->Option (List V)
 |[]=>some []
 | .tmp t::rs=>(iw P s rs).map (s.env t::·)
 | .cell a t::rs=>match s.env a with
   | .ptr id off=>match s.o id with
     | .row cs=>(dq P t cs off).bind fun v=>(iw P s rs).map (v::·)
     |_=>none
   |_=>none
def bT(vs:List V):Nat->V:=fun i=>vs.getD i (.bJ [])
def tC(P:Program)(rs:List ResultVar)(out:R)(e:eY)(s:S):Prop:=
 match e with
 | .normal| .ret=>match iw P s rs with
   |some vs=>match bt s.o vs with
    |some ds=>out= .ret ds
    |none=>False
   |none=>False
 | .ba v=>match dk s.o v with
   |some x=>out= .ba x
   |none=>False
 | .exit _=>False
theorem xh{P:Program}{rs:List ResultVar}{out:R}{s:S}(h:match iw P s rs with
 |some vs=>match bt s.o vs with
  |some ds=>out= .ret ds
  |none=>False
 |none=>False):∃vs ds,iw P s rs=some vs/\bt s.o vs=some ds/\out= .ret ds:=by
 split at h
 ·rename_i vs h1
  split at h
  ·rename_i xs h2;exact⟨vs,xs,h1,h2,h⟩
  ·exact h.elim
 ·exact h.elim
theorem xi{out:R}{s:S}{v:V}(h:match dk s.o v with
 |some x=>out= .ba x
 |none=>False):∃x,dk s.o v=some x/\out= .ba x:=by
 split at h
 ·rename_i x h1;exact⟨x,h1,h⟩
 ·exact h.elim
end Go.Proofs.YtbmnikpknlkbkaaGreat
namespace Go.Proofs.YtbmnikpknlkbkaaGreat
section
variable {P:Program}{M:Nat->Prop}{φ:Place}{H:Hp}{w w':World}
def aa.gR:aa->Bool
 | .arr .. =>true
 |_=>false
theorem zx(o:Nat->aa)(ids:List Nat):lT o ids=b8 o (ids.filter fun id=>(o id).gR):=by
 induction ids with
 |nil=>rfl
 |cons id ids ih=>
  unfold lT at ih|-
  simp only[List.filterMap_cons,List.filter_cons]
  cases hx:o id with
  |arr ep ty sz es=>
   have e:(aa.arr ep ty sz es).gR=true:=rfl
   rw[e,if_pos rfl,ih]
   simp only[b8,List.map_cons,hx]
  |_=>exact ih
theorem fh(hH:af M φ H w){us':Nat->Prop}(h:∀id,H.us id->us' id):af M φ ⟨H.o,us'⟩ w/\Trans φ H w φ ⟨H.o,us'⟩ w:=by
 have ht:Trans φ H w φ ⟨H.o,us'⟩ w:=⟨dh.refl _ _,fun b hb=> .inl hb,⟨h,fun id _ hr=>⟨hr,rfl⟩,fun id e' _ he=>⟨e',he,Nat.le_refl _,fun _=>rfl⟩⟩⟩
 exact⟨hH.of ht (fun _=>False) (fun _ h=>h.elim) (fun id _=>⟨rfl,rfl,fun _ _ _=>rfl⟩) (fun id hn=>hH.fresh id fun hu=>hn (h id hu)) hH.apart (fun b hb=>(hH.ours b hb).2),ht⟩
theorem ed(hH:af M φ H w)(hk:dh (fun _=>False) w w'):af M φ H w'/\Trans φ H w φ H w':=by
 have ht:Trans φ H w φ H w':=⟨⟨hk.os,hk.tape,hk.output,hk.size,fun k h _=>hk.block k h fun h=>h⟩,fun b hb=> .inl hb,cM.refl _ _⟩
 exact⟨hH.of ht (fun _=>False) (fun _ h=>h.elim) (fun id _=>⟨rfl,rfl,fun hl b hb=>hk.block b (hH.ours b ⟨id,hl,hb⟩).2 fun h=>h⟩) hH.fresh hH.apart (fun b hb=>Nat.lt_of_lt_of_le (hH.ours b hb).2 hk.size),ht⟩
theorem gS{Δ:List (Nat×aa)}(h:∀id∈Δ.map (·.1),H.us id):H.put Δ=⟨put H.o Δ,H.us⟩:=by
 unfold Hp.put
 congr 1
 funext id
 simp only[eq_iff_iff]
 exact⟨fun h'=>h'.elim (fun h=>h) (h id), .inl⟩
theorem jy(o:Nat->aa)(ids:List Nat):(b8 o ids).map (·.1)=ids:=by
 rw[il];simp[Function.comp_def]
structure Cx where
 base:List Deferred
 rd:Bool
def cL(ro:Option Nat):Fence:={fn:=fun _=>True,depth:=none,alive:=false,round:=ro}
def mark(r:Nat):Deferred:={target:= .collected r,args:=#[]}
def nI(cx:Cx)(w0:World)(φ:Place)(H:Hp)(w:World)(ds:List Deferred):Prop:=
 ∃ms:List Nat,ds=ms.map mark++cx.base/\ms.Nodup/\(cx.rd=true->ms=[])/\∀r∈ms,w0.heap.size<=r/\w.heap[r]? =some (.deferred (some []))/\ ¬bp φ H r
theorem nI.mono {cx:Cx}{w0:World}{φ ai:Place}{H H':Hp}{w w':World}{ds:List Deferred}(ht:Trans φ H w ai H' w')(h:nI cx w0 φ H w ds):nI cx w0 ai H' w' ds:=by
 obtain⟨ms,h1,h2,h3,h4⟩:=h
 refine⟨ms,h1,h2,h3,fun r hr=> ?_⟩
 obtain⟨g1,g2,g3⟩:=h4 r hr
 have br:r<w.heap.size:=by
  rcases Nat.lt_or_ge r w.heap.size with hl|hl
  ·exact hl
  ·rw[Array.getElem?_eq_none hl]at g2;cases g2
 refine⟨g1,(ht.bD.block r br g3).trans g2,fun hl=> ?_⟩
 rcases ht.grow r hl with h|h
 ·exact g3 h
 ·omega
structure bw (M:Nat->Prop) (bN:Place) (H0:Hp) (w0:World) (n:Nat) (cx:Cx) (φ:Place) (s:S) (a:Act) (w:World):Prop where
 heap:af M φ s.H w
 tr:Trans bN H0 w0 φ s.H w
 size:a.tmps.size=n
 defers:nI cx w0 φ s.H w a.defers
 env:∀i,V.den (ad M φ s.H) φ s.H w (s.env i) (a.tmps.getD i undef)
variable {bN:Place}{H0:Hp}{w0:World}{n:Nat}{s:S}{a:Act}{cx:Cx}{ro:Option Nat}{k:Nat}
theorem cf{f:FuncId}{args:Array Value}{R:Ending->World->Prop}(h:Calls P f args w R):CallsIn (cL ro) k P f args w R:=
 ⟨trivial,fun cs _=>let⟨e,w',fr,r,s,x⟩:=h cs;⟨e,w',fr,r,comesIn_wide.2 s,x⟩⟩
theorem rR{f:FuncId}{args:Array Value}{R:Ending->World->Prop}(h:CallsIn (cL ro) k P f args w R):Calls P f args w R:=
 fun cs=>let⟨e,w',fr,r,s,x⟩:=h.2 cs (fun _ h=>by simp[cL]at h);⟨e,w',fr,r,comesIn_wide.1 s,x⟩
theorem gr{o:Oper}{next:Act->World->Prop}{Q:Exit->Act->World->Prop}(LM:∀c,o.op≠ .defer c)(h:o.uponIn (cL ro) k P a next Q ((execOp a.eval o).run P w)):o.wpIn (cL ro) k P a w next Q:=
 ⟨fun _ _=>trivial,by rw[Oper.semAt_eq _ _ _ LM];exact h⟩
theorem iy(hs:bw M bN H0 w0 n cx φ s a w){ai:Place}{H':Hp}(hH:af M ai H' w')(ht:Trans φ s.H w ai H' w'){v:V}{val:Value}(hd:V.den (ad M ai H') ai H' w' v val){dst:Option Tmp}(bV:ew n dst)
 {o':Nat->aa} {nx':Nat} (ho:H'.o=o') (hu:∀id,H'.us id->id<nx'):bw M bN H0 w0 n cx ai ⟨aJ s.env dst v,o',nx'⟩ (a.put dst val) w':=by
 obtain⟨k1,k2⟩:=fh hH hu
 subst ho
 refine⟨k1,hs.tr.trans (ht.trans k2), ?_, ?_,fun i=> ?_⟩
 ·cases dst<;>simp[Act.put,hs.size]
 ·have:=hs.defers.mono (ht.trans k2);cases dst<;>exact this
 ·cases dst with
  |none=>exact V.ao (ht.trans k2) _ _ (hs.env i)
  |some d=>
   simp only[ew]at bV
   simp only[aJ,ax,Act.put]
   by_cases hi:i=d
   ·subst hi
    have h1:(a.tmps.setIfInBounds i val).getD i undef=val:=by simp[Array.getD,hs.size,bV]
    rw[if_pos rfl,h1]
    exact V.ao k2 _ _ hd
   ·have h1:(a.tmps.setIfInBounds d val).getD i undef=a.tmps.getD i undef:=by
     simp only[Array.getD_eq_getD_getElem?]
     rw[Array.getElem?_setIfInBounds_ne (Ne.symm hi)]
    rw[if_neg hi,h1]
    exact V.ao (ht.trans k2) _ _ (hs.env i)
theorem cT(hs:bw M bN H0 w0 n cx φ s a w){ai:Place}{H':Hp}(hH:af M ai H' w')(ht:Trans φ s.H w ai H' w'){o':Nat->aa}{nx':Nat}(ho:H'.o=o')(hu:∀id,H'.us id->id<nx'):
 bw M bN H0 w0 n cx ai ⟨s.env,o',nx'⟩ a w':=by
 obtain⟨k1,k2⟩:=fh hH hu
 subst ho
 exact⟨k1,hs.tr.trans (ht.trans k2),hs.size,hs.defers.mono (ht.trans k2),fun i=>V.ao (ht.trans k2) _ _ (hs.env i)⟩
theorem xj{Δ:List (Nat×aa)}(h:∀id∈Δ.map (·.1),s.H.us id\/id=s.nx)(id:Nat)(hu:(s.H.put Δ).us id):id<s.nx+1:=by
 rcases hu with hu|hu
 ·exact Nat.lt_succ_of_lt hu
 ·rcases h id hu with h|h
  ·exact Nat.lt_succ_of_lt h
  ·omega
variable {next:Act->World->Prop}{Q:Exit->Act->World->Prop}{X:V->S->Prop}{K:S->Prop}
theorem xk(hs:bw M bN H0 w0 n cx φ s a w){o:Oper}{op:Op}(cw:o.op=op)(bV:ew n o.dst)(h:AJ P s s.nx op fun v Δ _=>K ⟨aJ s.env o.dst v,put s.o Δ,s.nx+1⟩)
 (hN:∀s' ai a' w',K s'->bw M bN H0 w0 n cx ai s' a' w'->next a' w'):o.wpIn (cL ro) k P a w next Q:=by
 obtain⟨nx,val,w',ai,v,Δ,rd,hK,hr,oC,g1,g2,g3,g4⟩:=pj hs.heap (s:=s) rfl hs.env (fr:=s.nx) (by simp[S.H]) cw h
 have qf:=iy hs g1 g2 g3 bV (o':=put s.o Δ) (nx':=s.nx+1) rfl (xj g4)
 refine gr (fun c hc=>by rw[cw]at hc;subst hc;exact h) ?_
 rw[hr]
 rcases oC with rfl|⟨rfl,rfl⟩
 ·exact hN _ _ _ _ hK qf
 ·exact hN _ _ _ _ hK qf
theorem V.iz {B:Nat->Prop}{bu bs cs:List V}{u v x:List Value}(h1:V.ak B φ H w bu u)(h2:V.ak B φ H w bs v)(h3:V.ak B φ H w cs x):V.ak B φ H w (bu++bs++cs) (u++v++x):=
 V.aQ _ _ _ _ (V.aQ _ _ _ _ h1 h2) h3
theorem gU{f:FuncId}(h:fJ P f)(args:Array Value):(callFunc f args).run P w= .ok (.enter f args) w:=by
 obtain⟨fn,h1,h2,h3⟩:=h
 have vH:fn.name≠ "runtime.NumGoroutine" :=by simpa using h2
 have B1:fn.body≠none:=fun h=>by rw[h]at h3;cases h3
 simp[callFunc,h1,vH,B1]
theorem gV:∀ {rs:List D} {val:Value},R.is (ad M φ H) w (.ret rs) (.returned val)->V.den (ad M φ H) φ H w (gQ rs) val
 |[],_,h=>by obtain⟨arr,rfl,h⟩:=h;exact⟨arr,rfl,h⟩
 |[x],_,h=>h
 |x::y::l,_,h=>by obtain⟨arr,rfl,h⟩:=h;exact⟨arr,rfl,(V.bE (x::y::l) _).2 h⟩
theorem R.qg {B B':Nat->Prop}:∀ {out:R} {e:Ending},out.flat=true->out.is B w e->out.is B' w e
 | .ret [], .returned _,_,h=>by obtain⟨arr,rfl,h⟩:=h;exact⟨arr,rfl,h⟩
 | .ret [x], .returned _,hf,h=>by
   simp only[R.flat,D.gq,Bool.and_true]at hf
   exact D.kV x _ hf h
 | .ret (x::y::l), .returned _,hf,h=>by obtain⟨arr,rfl,h⟩:=h;exact⟨arr,rfl,D.ir (x::y::l) _ hf h⟩
 | .ba d, .panicked _,hf,h=>by obtain⟨v,rfl,h⟩:=h;exact⟨v,rfl,D.kV d v hf h⟩
 | .ret [], .panicked _,_,h| .ret [_], .panicked _,_,h| .ret (_::_::_), .panicked _,_,h| .ret [], .outgrown,_,h| .ret [_], .outgrown,_,h| .ret (_::_::_), .outgrown,_,h| .ba _, .returned _,_,h| .ba _, .outgrown,_,h=>h.elim
theorem R.xl {B B':Nat->Prop}{w':World}(hb:∀b,kz w' b-> ¬B b-> ¬B' b):∀ {out:R} {e:Ending},out.iW=true->out.is B w' e->out.is B' w' e
 | .ret [], .returned _,_,h=>by obtain⟨arr,rfl,h⟩:=h;exact⟨arr,rfl,h⟩
 | .ret [x], .returned _,hf,h=>by
   simp only[R.iW,D.iu,Bool.and_true]at hf
   exact D.gP (fun b hc hn=>⟨rfl,hb b hc hn⟩) x _ hf h
 | .ret (x::y::l), .returned _,hf,h=>by obtain⟨arr,rfl,h⟩:=h;exact⟨arr,rfl,D.iX (fun b hc hn=>⟨rfl,hb b hc hn⟩) (x::y::l) _ hf h⟩
 | .ba d, .panicked _,hf,h=>by obtain⟨v,rfl,h⟩:=h;exact⟨v,rfl,D.gP (fun b hc hn=>⟨rfl,hb b hc hn⟩) d v hf h⟩
 | .ret [], .panicked _,_,h| .ret [_], .panicked _,_,h| .ret (_::_::_), .panicked _,_,h| .ret [], .outgrown,_,h| .ret [_], .outgrown,_,h| .ret (_::_::_), .outgrown,_,h| .ba _, .returned _,_,h| .ba _, .outgrown,_,h=>h.elim
theorem xm(hH:af M φ H w){o:Nat->aa}:∀ (vs:List V) (vals:List Value),(∀id∈ck o vs,H.o id=(o id).fz)->V.ak (ad M φ H) φ H w vs vals->V.ak (ad M φ H) φ H w (vs.map (xg o)) vals
 |[],_,_,h=>h
 |v::vs,_,ho,h=>by
  obtain⟨u,us,rfl,h1,h2⟩:=h
  refine⟨u,us,rfl, ?_,xm hH vs us (fun id ag=>ho id (by simp[ck,ag])) h2⟩
  unfold xg
  split
  ·rename_i x hx
   exact dA hH v x u (fun id ag=>ho id (by simp[ck,hx,ag])) hx h1
  ·exact h1
theorem ey:∀ (vs:List V) (vals:List Value) (o:Nat->aa),V.ak (ad M φ H) φ H w vs vals->∀id∈ck o vs,H.us id
 |[],_,_,_,j,hj=>by simp[ck]at hj
 |v::vs,_,o,h,j,hj=>by
  obtain⟨u,us,rfl,h1,h2⟩:=h
  simp only[ck,List.mem_append]at hj
  rcases hj with hj|hj
  ·cases hx:dk o v with
   |none=>simp[hx]at hj
   |some x=>simp only[hx]at hj;exact b9 v u h1 j hj
  ·exact ey vs us o h2 j hj
theorem pk(hs:bw M bN H0 w0 n cx φ s a w){o:Oper}{g:FuncId}{all:List V}{vals:Array Value}(bV:ew n o.dst)(dB:fJ P g->(execOp a.eval o).run P w= .ok (.enter g vals) w)(aC:V.ak (ad M φ s.H) φ s.H w all vals.toList)
 (h:jx P g all s.o s.nx (fun v o' nx'=>K ⟨aJ s.env o.dst v,o',nx'⟩) (fun v o' nx'=>X v ⟨s.env,o',nx'⟩))
 (hN:∀s' ai a' w',K s'->bw M bN H0 w0 n cx ai s' a' w'->next a' w')
 (hQ:∀v s' ai w' val,X v s'->bw M bN H0 w0 n cx ai s' a w'->V.den (ad M ai s'.H) ai s'.H w' v val->Q (.panic [{v:=val,recovered:=false}]) a w'):o.uponIn (cL ro) k P a next Q ((execOp a.eval o).run P w):=by
 have du:=h.2 M φ w vals hs.heap aC
 rw[dB h.1]
 refine⟨fun hd=>by simp[cL]at hd,cf (du.mono fun e w' ⟨ai,o',nx',v,k1,k2,k3⟩=> ?_)⟩
 cases e with
 |returned val=>exact hN _ _ _ _ k3.2 (iy hs k1 k2 k3.1 bV rfl fun id hu=>hu)
 |panicked ch=>
  obtain⟨val,rfl,k4,k5⟩:=k3
  exact hQ _ _ _ _ val k5 (cT hs k1 k2 (o':=o') (nx':=nx') rfl fun id hu=>hu) k4
 |outgrown=>exact k3.elim
theorem rS(hs:bw M bN H0 w0 n cx φ s a w){o:Oper}{g:FuncId}{all:List V}{vals:Array Value}(bV:ew n o.dst)(dB:fJ P g->(execOp a.eval o).run P w= .ok (.enter g vals) w)(aC:V.ak (ad M φ s.H) φ s.H w all vals.toList)
 (h:nG P s g all (fun v o' nx'=>K ⟨aJ s.env o.dst v,o',nx'⟩) (fun v o' nx'=>X v ⟨s.env,o',nx'⟩))
 (hN:∀s' ai a' w',K s'->bw M bN H0 w0 n cx ai s' a' w'->next a' w')
 (hQ:∀v s' ai w' val,X v s'->bw M bN H0 w0 n cx ai s' a w'->V.den (ad M ai s'.H) ai s'.H w' v val->Q (.panic [{v:=val,recovered:=false}]) a w'):o.uponIn (cL ro) k P a next Q ((execOp a.eval o).run P w):=by
 unfold nG at h
 obtain⟨f1,f2,f3,f4,f5⟩:=cj hs.heap (V.aP all) (bG all _ aC)
 have iq:s.H.put (b8 s.H.o (V.aP all))=⟨put s.o (b8 s.o (V.aP all)),s.H.us⟩:=gS (by rw[jy];exact bG all _ aC)
 have iZ:=V.aw f2 _ _ aC
 rcases h with⟨ds,out,dp,hP,hK⟩|⟨ds,out,dp,hP,ku,hK⟩|⟨ds,out,dp,hP,Oe,hK⟩|hC|hC
 ·have o4:=cp f1 all ds _ f3 dp iZ
  have hM:∀b,ad M φ (s.H.put (b8 s.H.o (V.aP all))) b->b<w.heap.size:=fun b hb=>hb.elim (f1.oE b) fun hl=>(f1.ours b hl).2
  have du:=hP.2 _ w vals hM o4
  rw[dB hP.1]
  refine⟨fun hd=>by simp[cL]at hd,cf (du.mono fun e w' ⟨hk,ho⟩=> ?_)⟩
  obtain⟨k1,k2⟩:=ed f1 hk
  cases out with
  |ret rs=>
   cases e with
   |returned val=>
    refine hN _ _ _ _ hK (iy hs k1 (f2.trans k2) (gV ho) bV (by rw[iq]) ?_)
    intro id hu;rw[iq]at hu;exact Nat.lt_succ_of_lt hu
   |panicked ch=>cases rs with|nil=>exact ho.elim|cons x l=>cases l<;>exact ho.elim
   |outgrown=>cases rs with|nil=>exact ho.elim|cons x l=>cases l<;>exact ho.elim
  |ba x=>
   cases e with
   |returned val=>exact ho.elim
   |panicked ch=>
    obtain⟨val,rfl,hd⟩:=ho
    have qf:=cT hs k1 (f2.trans k2) (o':=put s.o (b8 s.o (V.aP all))) (nx':=s.nx+1) (by rw[iq]) (fun id hu=>by rw[iq]at hu;exact Nat.lt_succ_of_lt hu)
    refine hQ _ _ _ _ val hK qf ?_
    have e1:ad M φ (S.H ⟨s.env,put s.o (b8 s.o (V.aP all)),s.nx+1⟩)=ad M φ (s.H.put (b8 s.H.o (V.aP all))):=by rw[iq];rfl
    simp only[V.den]
    rw[e1];exact hd
   |outgrown=>exact ho.elim
 ·have o4:=cp f1 all ds _ f3 dp iZ
  have hM:∀b,ad M φ (s.H.put (b8 s.H.o (V.aP all))) b->b<w.heap.size:=fun b hb=>hb.elim (f1.oE b) fun hl=>(f1.ours b hl).2
  have du:=hP.2 _ w vals hM o4
  rw[dB hP.1]
  refine⟨fun hd=>by simp[cL]at hd,cf (du.mono fun e w' ⟨hk,ho⟩=> ?_)⟩
  obtain⟨k1,k2⟩:=ed hs.heap hk
  have ho:=R.qg (B':=ad M φ s.H) ku ho
  cases out with
  |ret rs=>
   cases e with
   |returned val=>
    exact hN _ _ _ _ hK (iy hs k1 k2 (gV ho) bV rfl fun id hu=>Nat.lt_succ_of_lt hu)
   |panicked ch=>cases rs with|nil=>exact ho.elim|cons x l=>cases l<;>exact ho.elim
   |outgrown=>cases rs with|nil=>exact ho.elim|cons x l=>cases l<;>exact ho.elim
  |ba x=>
   cases e with
   |returned val=>exact ho.elim
   |panicked ch=>
    obtain⟨val,rfl,hd⟩:=ho
    exact hQ _ _ _ _ val hK (cT hs k1 k2 (o':=s.o) (nx':=s.nx+1) rfl fun id hu=>Nat.lt_succ_of_lt hu) hd
   |outgrown=>exact ho.elim
 ·obtain⟨a1,a2,a3,a4,a5⟩:=cj hs.heap ((V.aP all).filter fun id=>(s.o id).gR) (fun id ag=>bG all _ aC id (List.mem_filter.1 ag).1)
  have rT:s.H.put (b8 s.H.o ((V.aP all).filter fun id=>(s.o id).gR))=⟨put s.o (lT s.o (V.aP all)),s.H.us⟩:=by
   rw[zx]
   exact gS (by rw[jy];exact fun id ag=>bG all _ aC id (List.mem_filter.1 ag).1)
  have o4:=cp f1 all ds _ f3 dp iZ
  have hM:∀b,ad M φ (s.H.put (b8 s.H.o (V.aP all))) b->b<w.heap.size:=fun b hb=>hb.elim (f1.oE b) fun hl=>(f1.ours b hl).2
  have du:=hP.2 _ w vals hM o4
  rw[dB hP.1]
  refine⟨fun hd=>by simp[cL]at hd,cf (du.mono fun e w' ⟨hk,ho⟩=> ?_)⟩
  obtain⟨k1,k2⟩:=ed a1 hk
  have fi:∀b,kz w' b-> ¬ad M φ (s.H.put (b8 s.H.o (V.aP all))) b-> ¬ad M φ (s.H.put (b8 s.H.o ((V.aP all).filter fun id=>(s.o id).gR))) b:=by
   intro b hc hn hm
   rcases hm with hM|⟨id,hl,hb⟩
   ·exact hn (.inl hM)
   ·by_cases ag:id∈V.aP all
    ·cases hx:s.H.o id with
     |arr ep ty sz es=>
      rw[a3 id (List.mem_filter.2 ⟨ag,by show(s.H.o id).gR=true;rw[hx];rfl⟩),hx]at hl
      cases hl
     |map kt vt l=>
      have iN:id∉(V.aP all).filter fun id=>(s.o id).gR:=fun h=>by
       have h2:(s.H.o id).gR=true:=(List.mem_filter.1 h).2
       rw[hx]at h2;cases h2
      have a8:=k1.ok id
      unfold aq at a8
      rw[a4 id iN,hx]at a8
      obtain⟨b',es,clock,g1,g2,_⟩:=a8
      rw[g1]at hb
      injection hb with hb
      subst hb
      obtain⟨cs,ty,fz,hc⟩:=hc
      rw[g2]at hc
      cases hc
     |_=>
      have iN:id∉(V.aP all).filter fun id=>(s.o id).gR:=fun h=>by
       have h2:(s.H.o id).gR=true:=(List.mem_filter.1 h).2
       rw[hx]at h2;cases h2
      refine hn (.inr ⟨id, ?_,hb⟩)
      rw[a4 id iN,hx]at hl
      rw[f3 id ag,hx]
      exact hl
    ·have iN:id∉(V.aP all).filter fun id=>(s.o id).gR:=fun h=>ag (List.mem_filter.1 h).1
     refine hn (.inr ⟨id, ?_,hb⟩)
     rw[a4 id iN]at hl
     rw[f4 id ag]
     exact hl
  have ho:=R.xl (w':=w') (B':=ad M φ (s.H.put (b8 s.H.o ((V.aP all).filter fun id=>(s.o id).gR)))) fi Oe ho
  cases out with
  |ret rs=>
   cases e with
   |returned val=>
    refine hN _ _ _ _ hK (iy hs k1 (a2.trans k2) (gV ho) bV (by rw[rT]) ?_)
    intro id hu;rw[rT]at hu;exact Nat.lt_succ_of_lt hu
   |panicked ch=>cases rs with|nil=>exact ho.elim|cons x l=>cases l<;>exact ho.elim
   |outgrown=>cases rs with|nil=>exact ho.elim|cons x l=>cases l<;>exact ho.elim
  |ba x=>
   cases e with
   |returned val=>exact ho.elim
   |panicked ch=>
    obtain⟨val,rfl,hd⟩:=ho
    have qf:=cT hs k1 (a2.trans k2) (o':=put s.o (lT s.o (V.aP all))) (nx':=s.nx+1) (by rw[rT]) (fun id hu=>by rw[rT]at hu;exact Nat.lt_succ_of_lt hu)
    refine hQ _ _ _ _ val hK qf ?_
    have e1:ad M φ (S.H ⟨s.env,put s.o (lT s.o (V.aP all)),s.nx+1⟩)=ad M φ (s.H.put (b8 s.H.o ((V.aP all).filter fun id=>(s.o id).gR))):=by rw[rT];rfl
    simp only[V.den]
    rw[e1];exact hd
   |outgrown=>exact ho.elim
 ·exact pk hs bV dB aC hC hN hQ
 ·obtain⟨f1,f2,f3,f4,f5⟩:=cj hs.heap (ck s.o all) (ey all _ s.o aC)
  have iq:s.H.put (b8 s.H.o (ck s.o all))=hp (put s.o (b8 s.o (ck s.o all))) s.nx:=gS (by rw[jy];exact ey all _ s.o aC)
  have iZ:=xm f1 all _ f3 (V.aw f2 _ _ aC)
  rw[iq]at f1 f2 iZ
  exact pk (s:=⟨s.env,put s.o (b8 s.o (ck s.o all)),s.nx⟩) (cT hs f1 f2 rfl fun id hu=>hu) bV dB iZ hC hN hQ
theorem zy(hs:bw M bN H0 w0 n cx φ s a w){o:Oper}{c:Call}{f:Operand}(cw:o.op= .call c)(hc:c.callee= .value f)(bV:ew n o.dst)
 (h:rQ P s (s.ev f) (c.args.toList.map s.ev) (fun v o' nx'=>K ⟨aJ s.env o.dst v,o',nx'⟩) (fun v o' nx'=>X v ⟨s.env,o',nx'⟩))
 (hN:∀s' ai a' w',K s'->bw M bN H0 w0 n cx ai s' a' w'->next a' w')
 (hQ:∀v s' ai w' val,X v s'->bw M bN H0 w0 n cx ai s' a w'->V.den (ad M ai s'.H) ai s'.H w' v val->Q (.panic [{v:=val,recovered:=false}]) a w'):o.wpIn (cL ro) k P a w next Q:=by
 refine gr (fun c' rU=>by rw[cw]at rU;cases rU) ?_
 have hf:=iQ (M:=M) (φ:=φ) (H:=s.H) (w:=w) s a hs.env f
 have cH:=fZ (M:=M) (φ:=φ) (H:=s.H) (w:=w) s a hs.env c.args.toList
 unfold rQ at h
 split at h
 ·rename_i g first cap nJ
  rw[nJ]at hf
  obtain⟨fa,ca,B2,tn,E3⟩:=hf
  have aC:V.ak (ad M φ s.H) φ s.H w (first++c.args.toList.map s.ev++cap) (fa++c.args.map a.eval++ca).toList:=by
   rw[Array.toList_append,Array.toList_append,Array.toList_map]
   exact V.iz tn cH E3
  generalize first++c.args.toList.map s.ev++cap=all at h aC
  generalize iG:fa++c.args.map a.eval++ca=vals at aC
  have dB:fJ P g->(execOp a.eval o).run P w= .ok (.enter g vals) w:=by
   intro he
   have:=gU (w:=w) he (fa++c.args.map a.eval++ca)
   rw[iG]at this
   simp[execOp,cw,resolve,hc,B2,Deferred.ofValue,invoke,this,iG]
  exact rS hs bV dB aC h hN hQ
 ·rename_i id nJ
  rw[nJ]at hf
  obtain⟨_,cJ,Of⟩:=hf
  obtain⟨aY,hR⟩:=h
  obtain⟨b,cz,B2⟩:=Of aY
  obtain⟨fn,tmps,assign,body,h1,h2⟩:=hR M φ w (c.args.map a.eval) b hs.heap (by rw[Array.toList_map];exact cH) cz
  have dB:(execOp a.eval o).run P w= .ok (.round b fn tmps assign body) w:=by
   simp[execOp,cw,resolve,hc,B2,Deferred.ofValue,invoke,h1]
  rw[dB]
  refine⟨fun hd=>by simp[cL]at hd,RoundIn.mono (h2 (k - 1)) fun e w' ⟨ai,o',nx',v,k1,k2,k3⟩=> ?_⟩
  cases e with
  |returned val=>exact hN _ _ _ _ k3.2 (iy hs k1 k2 k3.1 bV rfl fun id hu=>hu)
  |panicked ch=>
   obtain⟨val,rfl,k4,k5⟩:=k3
   exact hQ _ _ _ _ val k5 (cT hs k1 k2 (o':=o') (nx':=nx') rfl fun id hu=>hu) k4
  |outgrown=>exact k3.elim
 ·exact h.elim
theorem vN(hs:bw M bN H0 w0 n cx φ s a w){o:Oper}{c:Call}{r:Operand}{m:String}{g:FuncId}{y:V}(cw:o.op= .call c)(hc:c.callee= .invoke r m)(bV:ew n o.dst)(hr:nH P m (s.ev r)=some (g,y))
 (h:nG P s g (y::c.args.toList.map s.ev) (fun v o' nx'=>K ⟨aJ s.env o.dst v,o',nx'⟩) (fun v o' nx'=>X v ⟨s.env,o',nx'⟩))
 (hN:∀s' ai a' w',K s'->bw M bN H0 w0 n cx ai s' a' w'->next a' w')
 (hQ:∀v s' ai w' val,X v s'->bw M bN H0 w0 n cx ai s' a w'->V.den (ad M ai s'.H) ai s'.H w' v val->Q (.panic [{v:=val,recovered:=false}]) a w'):o.wpIn (cL ro) k P a w next Q:=by
 refine gr (fun c' rU=>by rw[cw]at rU;cases rU) ?_
 have hf:=iQ (M:=M) (φ:=φ) (H:=s.H) (w:=w) s a hs.env r
 have cH:=fZ (M:=M) (φ:=φ) (H:=s.H) (w:=w) s a hs.env c.args.toList
 unfold nH at hr
 split at hr
 ·rename_i t d hx
  rw[hx]at hf
  obtain⟨val,hv,hd⟩:=hf
  split at hr
  ·rename_i ti Og
   split at hr
   ·rename_i mr nK
    split at hr
    ·rename_i f vO
     split at hr
     ·rename_i AY
      injection hr with hr
      injection hr with h1 h2
      subst h1;subst h2
      refine rS (vals:=#[val]++c.args.map a.eval) hs bV ?_ ?_ h hN hQ
      ·intro he
       have dB:=gU (w:=w) he (#[val]++c.args.map a.eval)
       have Oh:mr.path=#[]:=Array.isEmpty_iff.1 AY.1
       have hu:∃u,P.underlying t=some u/\∀e,u≠ .pointer e:=by
        have:=AY.2
        unfold AX at this
        split at this
        ·cases this
        ·rename_i u e9 hu;exact⟨u,hu,fun e he=>e9 e he⟩
        ·cases this
       obtain⟨u,hu,AZ⟩:=hu
       have hm:(method (P.types.size+Made.depth) t val m).run P w= .ok (f,val) w:=by
        have:P.types.size+Made.depth=(P.types.size+Made.depth - 1)+1:=by simp[Made.depth]
        rw[this]
        cases u<;>first|exact absurd rfl (AZ _)|simp[method,typeInfo,Og,nK,Oh,vO,follow,receiverAt,run_underlying hu,_root_.Go.Place.get]
       have h0:(#[Value.iface t val]++Array.map a.eval c.args)[0]? =some (.iface t val):=by
        rw[Array.getElem?_append_left (by simp)];rfl
       have h1:(Array.map a.eval c.args).extract 0 c.args.size=Array.map a.eval c.args:=by
        rw[show c.args.size=(Array.map a.eval c.args).size from by simp,Array.extract_size]
       simp[execOp,cw,resolve,hc,invoke,callMethod,hv,h0,h1,hm,dB]
      ·simp only[Array.toList_append,Array.toList_map]
       exact⟨val,_,rfl,hd,cH⟩
     ·cases hr
    ·cases hr
   ·cases hr
  ·cases hr
 ·cases hr
theorem pn(hs:bw M bN H0 w0 n cx φ s a w){o:Oper}(h:IP P n s o X K)
 (hN:∀s' ai a' w',K s'->bw M bN H0 w0 n cx ai s' a' w'->next a' w')
 (hQ:∀v s' ai w' val,X v s'->bw M bN H0 w0 n cx ai s' a w'->V.den (ad M ai s'.H) ai s'.H w' v val->Q (.panic [{v:=val,recovered:=false}]) a w'):o.wpIn (cL ro) k P a w next Q:=by
 obtain⟨bV,h⟩:=h
 split at h
 ·rename_i c cw
  split at h
  ·rename_i f hc
   exact zy hs cw hc bV h hN hQ
  ·rename_i r m hc
   split at h
   ·rename_i g y hr;exact vN hs cw hc bV hr h hN hQ
   ·exact h.elim
  ·exact xk hs rfl bV h hN
 ·rename_i x cw
  have hx:=iQ (M:=M) (φ:=φ) (H:=s.H) (w:=w) s a hs.env x
  have ba:∀ (t:TypeId) (u:Value),a.eval x= .iface t u->Q (.panic [{v:= .iface t u,recovered:=false}]) a w->o.wpIn (cL ro) k P a w next Q:=by
   intro t u hu hq
   refine gr (fun c hc=>by rw[cw]at hc;cases hc) ?_
   have hr:(execOp a.eval o).run P w= .halt (.panic (.iface t u)) w:=by simp[execOp,cw,hu,Instr.panic]
   rw[hr];exact hq
  split at h
  ·rename_i t y hv
   rw[hv]at hx
   obtain⟨u,hu,hd⟩:=hx
   exact ba t u hu (hQ _ s φ w (.iface t u) h hs ⟨u,rfl,hd⟩)
  ·rename_i t y hv
   rw[hv]at hx
   obtain⟨u,hu,hd⟩:=hx
   exact ba t u hu (hQ _ s φ w (.iface t u) h hs ⟨u,rfl,hd⟩)
  ·exact h.elim
 ·exact xk hs rfl bV h hN
end
end Go.Proofs.YtbmnikpknlkbkaaGreat
namespace Go
def Code.mP (P:Program)(ro:Option Nat)(c:Code)(Q:Exit->Act->World->Prop)(a:Act)(w:World):Prop:=
 ∀ (b:Frame) (k:List Item) (cs:List Frame),b.roundOf=ro->b.fn<P.funcs.size->
   ∃e a' w',Q e a' w'/\ArrivesIn (Machine.fenced P (Proofs.YtbmnikpknlkbkaaGreat.cL ro)) P (lone (b.atR a (.code c::k)) cs w) b k cs e a' w'
end Go
namespace Go.Proofs.YtbmnikpknlkbkaaGreat
instance:LawfulMonad Sem:=LawfulMonad.mk' Sem (id_map:=fun x=>Sem.bind_pure' x) (pure_bind:=fun _ _=>rfl) (bind_assoc:=fun x f g=>Sem.bind_assoc' x f g)
section
variable {P:Program}{M:Nat->Prop}{φ:Place}{H:Hp}{w w':World}{bN:Place}{H0:Hp}{w0:World}{n b:Nat}{s:S}{a:Act}{cx:Cx}{ro:Option Nat}{k:Nat}
theorem kY(hs:bw M bN H0 w0 n cx φ s a w){ops:Array Oper}{o:Oper}{A B:Prop}(h:qd s ops o.guard A B):
 (Region.wanted o (yielded ops a.tmps)=true->A)/\(Region.wanted o (yielded ops a.tmps)=false->B):=by
 unfold qd at h
 unfold Region.wanted
 split at h
 ·rename_i hg;simp only[hg];exact⟨fun _=>h,fun h=>by cases h⟩
 ·rename_i j want hg
  simp only[hg]
  unfold me at h
  unfold yielded
  split at h
  ·rename_i d hd
   simp only[hd,Option.bind_some]
   have cA:=hs.env d
   split at h
   ·rename_i c hv
    rw[hv]at cA
    simp only[V.den,D.den]at cA
    have:a.tmps[d]? =some (.bool c):=by
     rw[Array.getD_eq_getD_getElem?]at cA
     cases hx:a.tmps[d]? with
     |none=>rw[hx]at cA;simp[undef]at cA
     |some x=>rw[hx]at cA;simp at cA;rw[cA]
    simp only[this]
    by_cases hc:c=want
    ·subst hc;exact⟨fun _=>h.1 rfl,fun h=>by simp at h⟩
    ·exact⟨fun h'=>absurd (by simpa using h') hc,fun _=>h.2 hc⟩
   ·rename_i hv
    rw[hv]at cA
    obtain⟨arr,bL,hn⟩:=cA
    simp only[V.ak]at hn
    have:∀c,a.tmps[d]? ≠some (.bool c):=by
     intro c hx
     rw[Array.getD_eq_getD_getElem?,hx]at bL
     simp at bL
    cases hx:a.tmps[d]? with
    |none=>exact⟨fun h=>by simp at h,fun _=>h⟩
    |some x=>cases x<;>first|(exact absurd hx (this _))|(exact⟨fun h=>by simp at h,fun _=>h⟩)
   ·exact h.elim
  ·rename_i hd
   simp only[hd,Option.bind_none]
   exact⟨fun h=>by simp at h,fun _=>h⟩
theorem rV(hs:bw M bN H0 w0 n cx φ s a w){dst:Option Tmp}(bV:ew n dst):bw M bN H0 w0 n cx φ ⟨aJ s.env dst (.bJ []),s.o,s.nx+1⟩ (a.put dst undef) w:=
 iy (v:= .bJ []) (val:=undef) hs hs.heap (Trans.refl _ _ _) ⟨#[],rfl,rfl⟩ bV rfl fun _ hu=>Nat.lt_succ_of_lt hu
theorem j9{ops:Array Oper}{X:V->S->Prop}{K:S->Prop}{Q:Exit->Act->World->Prop}
 (hK:∀s φ a w,K s->bw M bN H0 w0 n cx φ s a w->Q .normal a w)
 (hQ:∀v s' ai a w' val,X v s'->bw M bN H0 w0 n cx ai s' a w'->V.den (ad M ai s'.H) ai s'.H w' v val->Q (.panic [{v:=val,recovered:=false}]) a w'):
 ∀ (l:List Oper) (s:S) (φ:Place) (a:Act) (w:World),qe P n ops X K l s->bw M bN H0 w0 n cx φ s a w->wpListIn (cL ro) k P ops Q l a w
 |[],s,φ,a,w,h,hs=>hK s φ a w h hs
 |o::l,s,φ,a,w,h,hs=>by
  obtain⟨h1,h2⟩:=kY hs h
  unfold wpListIn
  split
  ·rename_i hw
   exact pn hs (h1 hw) (fun s' ai a' w' hk gy=>j9 hK hQ l s' ai a' w' hk gy) (fun v s' ai w' val hx gy hd=>hQ v s' ai a w' val hx gy hd)
  ·rename_i hw
   obtain⟨bV,h3⟩:=h2 (by simpa using hw)
   exact⟨fun _ _=>trivial,j9 hK hQ l _ _ _ _ h3 (rV hs bV)⟩
def uC(M:Nat->Prop)(bN:Place)(H0:Hp)(w0:World)(n:Nat)(cx:Cx)(Q:eY->S->Prop)(e:Exit)(a:Act)(w:World):Prop:=
 ∃x s φ,Q x s/\bw M bN H0 w0 n cx φ s a w/\match e,x with
  | .normal, .normal=>True
  | .exit i, .exit j=>i=j
  | .ret, .ret=>True
  | .panic ch, .ba v=>∃val,ch=[{v:=val,recovered:=false}]/\V.den (ad M φ s.H) φ s.H w v val
  |_,_=>False
section
variable {Q:Exit->Act->World->Prop}
theorem ez{m:Nat}:(cL ro).room m:=fun d hd=>by simp[cL]at hd
theorem ka{c:Code}(h:c.wpIn (cL ro) k P Q a w):c.mP P ro Q a w:=fun b k cs nK _=>h b k cs nK trivial ez
theorem eA{c:Code}{Q':Exit->Act->World->Prop}(h:c.mP P ro Q a w)(hq:∀e a w,Q e a w->Q' e a w):c.mP P ro Q' a w:=
 fun b k cs nK hb=>let⟨e,a',w',q,r⟩:=h b k cs nK hb;⟨e,a',w',hq _ _ _ q,r⟩
theorem uD(h:Q .ret a w):Code.ret.mP P ro Q a w:=ka (k:=0) (wpIn_ret h)
theorem rW{id:Nat}(h:Q (.exit id) a w):(Code.exit id).mP P ro Q a w:=ka (k:=0) (wpIn_exit h)
theorem qh{x y:Code}(h:x.mP P ro (Exit.then (y.mP P ro Q) Q) a w):(Code.seq x y).mP P ro Q a w:=by
 intro b k cs nK hb
 have h0:(lone (b.atR a (.code (.seq x y)::k)) cs w).fenced P (cL ro):=fenced_calm (n:=0) trivial ez rfl
 obtain⟨e,fj,dX,hq,bL⟩:=h b (.code y::k) cs nK hb
 cases e with
 |normal=>
  obtain⟨B3,E4,l5,kZ,gu⟩:=hq b k cs nK hb
  exact⟨B3,E4,l5,kZ, .of_steps (.head h0 stepR_seq bL) gu⟩
 |exit id=>exact⟨_,fj,dX,hq, .of_steps (.one h0 stepR_seq) (.pass (x:= .code y) rfl (fun _ _=> .inl (by simp)) bL)⟩
 |goto l=>exact⟨_,fj,dX,hq, .of_steps (.one h0 stepR_seq) (.pass (x:= .code y) rfl (fun _ _=> .inl (by simp)) bL)⟩
 |ret=>exact⟨_,fj,dX,hq, .of_steps (.one h0 stepR_seq) (.pass (x:= .code y) rfl (fun _ _=> .inl (by simp)) bL)⟩
 |panic ch=>exact⟨_,fj,dX,hq, .of_steps (.one h0 stepR_seq) (.pass (x:= .code y) rfl (fun _ _=> .inl (by simp)) bL)⟩
 |outgrown=>exact⟨_,fj,dX,hq, .of_steps (.one h0 stepR_seq) (.pass (x:= .code y) rfl (fun _ _=> .inl (by simp)) bL)⟩
theorem lg{c:Operand}{x y:Code}{t:Bool}(hc:a.eval c= .bool t)(h:(if t then x else y).mP P ro Q a w):(Code.cond c x y).mP P ro Q a w:=
 fun b k cs nK hb=>let⟨e,a',w',q,r⟩:=h b k cs nK hb;⟨e,a',w',q, .of_steps (.one (fenced_calm (n:=0) trivial ez rfl) (stepR_cond hc)) r⟩
theorem vP{id:Nat}{c:Code}(h:c.mP P ro (Exit.inBlock id Q) a w):(Code.block id c).mP P ro Q a w:=by
 intro b k cs nK hb
 have h0:(lone (b.atR a (.code (.block id c)::k)) cs w).fenced P (cL ro):=fenced_calm (n:=0) trivial ez rfl
 obtain⟨e,fj,dX,hq,bL⟩:=h b (.inBlock id::k) cs nK hb
 cases e with
 |normal=>exact⟨.normal,fj,dX,hq, .head h0 stepR_block (StepsIn.trans bL (.one (fenced_calm (n:=0) trivial ez rfl) stepR_inBlock))⟩
 |exit bX=>
  by_cases ag:bX=id
  ·simp only[Exit.inBlock,ag,if_true]at hq
   exact⟨.normal,fj,dX,hq, .head h0 stepR_block (bL.1 k (by simp[exitTo,ag]))⟩
  ·simp only[Exit.inBlock,ag,if_false]at hq
   have this:(id==bX)=false:=by simp;exact fun h=>ag h.symm
   have hx:exitTo bX (.inBlock id::k)=exitTo bX k:=by simp[exitTo,this]
   exact⟨.exit bX,fj,dX,hq,fun k' hk=> .head h0 stepR_block (bL.1 k' (by rw[hx];exact hk)),
    fun vK hk=>let⟨k₁,h1,h2⟩:=bL.2 vK (by rw[hx];exact hk);⟨k₁,h1, .head h0 stepR_block h2⟩⟩
 |goto l=>
  have hx:gotoIn l (.inBlock id::k)=gotoIn l k:=by simp[gotoIn]
  exact⟨_,fj,dX,hq,fun k' hk=> .head h0 stepR_block (bL.1 k' (by rw[hx];exact hk)),
   fun vK hk=>let⟨k₁,h1,h2⟩:=bL.2 vK (by rw[hx];exact hk);⟨k₁,h1, .head h0 stepR_block h2⟩⟩
 |ret=>exact⟨_,fj,dX,hq, .of_steps (.one h0 stepR_block) bL⟩
 |panic ch=>exact⟨_,fj,dX,hq, .of_steps (.one h0 stepR_block) bL⟩
 |outgrown=>exact⟨_,fj,dX,hq, .of_steps (.one h0 stepR_block) bL⟩
theorem ee{b:Frame}{k:List Item}{cs:List Frame}{c:Code}:step P (lone (b.atR a (.code (.scope c)::k)) cs w)= .next (lone (b.atR a (.code c:: .inScope c::k)) cs w):=
 step_lone_go (by simp[stepG,stepG.exec,Frame.atR])
theorem oP{b:Frame}{k:List Item}{cs:List Frame}{c:Code}:step P (lone (b.atR a (.inScope c::k)) cs w)= .next (lone (b.atR a k) cs w):=
 step_lone_go (by simp[stepG,stepG.exec,Frame.atR])
theorem pq{c:Code}(h:c.mP P ro Q a w)(hg:∀l a w, ¬Q (.goto l) a w):(Code.scope c).mP P ro Q a w:=by
 intro b k cs nK hb
 have h0:(lone (b.atR a (.code (.scope c)::k)) cs w).fenced P (cL ro):=fenced_calm (n:=0) trivial ez rfl
 obtain⟨e,fj,dX,hq,bL⟩:=h b (.inScope c::k) cs nK hb
 cases e with
 |normal=>exact⟨.normal,fj,dX,hq, .head h0 ee (StepsIn.trans bL (.one (fenced_calm (n:=0) trivial ez rfl) oP))⟩
 |exit bX=>
  have hx:exitTo bX (.inScope c::k)=exitTo bX k:=by simp[exitTo]
  exact⟨.exit bX,fj,dX,hq,fun k' hk=> .head h0 ee (bL.1 k' (by rw[hx];exact hk)),
   fun vK hk=>let⟨k₁,h1,h2⟩:=bL.2 vK (by rw[hx];exact hk);⟨k₁,h1, .head h0 ee h2⟩⟩
 |goto l=>exact(hg _ _ _ hq).elim
 |ret=>exact⟨_,fj,dX,hq, .of_steps (.one h0 ee) bL⟩
 |panic ch=>exact⟨_,fj,dX,hq, .of_steps (.one h0 ee) bL⟩
 |outgrown=>exact⟨_,fj,dX,hq, .of_steps (.one h0 ee) bL⟩
def nL(P:Program)(l:Nat)(Q:Exit->Act->World->Prop)(a':Act):Ending->World->Prop
 | .returned _,tD=>∃jump mQ,(Instr.endLoop l).run P tD= .ok jump mQ/\(match jump with|none=>Q .normal a' mQ|some c=>c.mP P none Q a' mQ)
 | .panicked chain,tD=>Q (.panic chain) a' tD
 | .outgrown,_=>LetsOut Q
theorem oQ{g:Operand}{ps:Array Tmp}{assign body:Code}
 (h:∀fn,fn<P.funcs.size->∃ (l:Nat) (mark:List Deferred) (dX:World) (d:Deferred) (pt:World) (f:FuncId) (args:Array Value) (l5:World),
  (Instr.enterLoop fn a.tmps ps assign body (cL none).round).run P w= .ok (l,mark) dX/\(resolve a.eval (rangeCall g l) 0).run P dX= .ok d pt/\
  (invoke d.target d.args).run P pt= .ok (.enter f args) l5/\CallsIn (cL none) 0 P f args l5 (nL P l Q {a with defers:=mark++a.defers})):
 (Code.rangeFunc g ps assign body).mP P none Q a w:=by
 intro b k cs nK hb
 obtain⟨l,mark,dX,d,pt,f,args,l5,he,rX,hinv,hF,du⟩:=h b.fn hb
 rw[show(cL none).round=b.roundOf from nK.symm]at he
 have calm:∀ (m:Machine),m.fenced P (cL none)↔m.fenced P Fence.wide:=fun m=>Iff.rfl
 have h0:(lone (b.atR a (.code (.rangeFunc g ps assign body)::k)) cs w).fenced P (cL none):=(calm _).2 (fenced_wide P _)
 have iA:=stepR_rangeFunc (P:=P) (b:=b) (a:=a) (k:=k) (cs:=cs) (w:=w) he rX hinv
 obtain⟨e,tD,fr,hR,tE,vO,xn⟩:=du (b.atR {a with defers:=mark++a.defers} (.inRangeFunc l::k)::cs) ez
 cases e with
 |outgrown=>
  obtain⟨IQ,IU,hq⟩:=hR
  exact⟨.outgrown,IQ,IU,hq, .inr (Outgrown.of_steps (.one iA) tE)⟩
 |returned v=>
  obtain⟨jump,mQ,nM,hj⟩:=hR
  have A0:StepsIn (Machine.fenced P (cL none)) P (lone (b.atR a (.code (.rangeFunc g ps assign body)::k)) cs w) (lone (b.atR {a with defers:=mark++a.defers} ((jump.map Item.code).toList++k)) cs mQ):=by
   refine .head h0 iA (StepsIn.trans tE (.head ((calm _).2 (fenced_wide P _)) ?_ (.one ((calm _).2 (fenced_wide P _)) (stepR_endRangeFunc nM))))
   rw[<- finish_atR_inRangeFunc l v];exact step_leave_returned xn
  cases jump with
  |none=>exact⟨.normal,_,mQ,hj,A0⟩
  |some c=>
   obtain⟨e',Oi,IV,hq,bL⟩:=hj b k cs nK hb
   exact⟨e',Oi,IV,hq, .of_steps A0 bL⟩
 |panicked chain=>
  refine⟨.panic chain,_,tD,hR, .inRangeFunc l::k, .head h0 iA (StepsIn.trans tE (.one ((calm _).2 (fenced_wide P _)) ?_))⟩
  rw[<- Frame.raise_atR];exact step_leave_panicked xn
end
theorem pv(hH:af M φ H w){id l:Nat}(cJ:H.us id){nf m:Nat}{env:List V}{ps:List Nat}{jE fW:IC}{st st':LoopState}{pd pd':Option kq}(ho:H.o id= .loop nf m env ps jE fW st pd)(cz:φ id= .pointer (some ⟨l,0,none⟩)):
 ∃r,w.heap[l]? =some (.loop r)/\r.state=st/\r.pending=pd.map kq.code/\
  af M φ (H.put [(id, .loop nf m env ps jE fW st' pd')]) {w with heap:=w.heap.setIfInBounds l (.loop {r with state:=st',pending:=pd'.map kq.code})}/\
  Trans φ H w φ (H.put [(id, .loop nf m env ps jE fW st' pd')]) {w with heap:=w.heap.setIfInBounds l (.loop {r with state:=st',pending:=pd'.map kq.code})}:=by
 have a8:=hH.ok id
 simp only[aq,ho]at a8
 obtain⟨b,r,h1,h2,h0,h3,h4,h5,h6,h7,h8,h9⟩:=a8
 rw[cz]at h1;simp at h1;subst h1
 refine⟨r,h2,h3,h4, ?_⟩
 have w9:dh (· =l) w {w with heap:=w.heap.setIfInBounds l (.loop {r with state:=st',pending:=pd'.map kq.code})}:=
  ⟨rfl,rfl,rfl,by simp,fun j _ hj=>(MapKept.heap_set h2).2 j hj⟩
 have oO:(H.o id).live=true:=by rw[ho];rfl
 have xa:cW (φ id)=some l:=by rw[cz];rfl
 have ht:=dV (w:=w) (w':={w with heap:=w.heap.setIfInBounds l (.loop {r with state:=st',pending:=pd'.map kq.code})}) cJ oO xa w9 (.loop nf m env ps jE fW st' pd') (by rw[ho];rfl) (by rw[ho];rfl)
 refine⟨fl hH cJ oO xa w9 _ (by rw[ho];rfl) (by rw[ho];rfl) ?_,ht⟩
 unfold aq
 simp only[aU,ax,if_true]
 exact⟨l,_,cz,(MapKept.heap_set h2).1,h0,rfl,rfl,h5,h6,h7,h8,fun i=>V.ao ht _ _ (h9 i)⟩
theorem eZ{l:Nat}{r:Loop}(o:Obj)(hb:w.heap[l]? =some (.loop r)):(setObj l o).run P w= .ok () {w with heap:=w.heap.setIfInBounds l o}:=by
 simp[setObj,Sem.run,hb]
theorem gv{l:Nat}{r:Loop}(hb:w.heap[l]? =some (.loop r)):(Instr.getLoop l).run P w= .ok r w:=by
 simp[Instr.getLoop,getObj,Sem.run,hb,Result.andThen]
end
def B4(Q:eY->S->Prop)(pd:Option kq)(s:S):Prop:=
 match pd with
 |none=>Q .normal s
 |some .ret=>Q .ret s
 |some (.exit id)=>Q (.exit id) s
def tF(P:Program)(n:Nat)(g:V)(ps:List Nat)(jE fW:IC)(Q:eY->S->Prop)(s:S):Prop:=
 ∃env,(∀i,bU env i= .aE\/bU env i=s.env i)/\
  match g with
  | .func (.func f) first cap=>iY P f (first++[.js s.nx]++cap) (aV s.o s.nx (.loop P.funcs.size n env ps jE fW .ready none)) (s.nx+1)
    (fun _ o' nx'=>∃nf m e p c d st pd,o' s.nx= .loop nf m e p c d st pd/\st≠ .busy/\B4 Q pd ⟨s.env,aV o' s.nx (.loop nf m e p c d .exhausted pd),nx'⟩)
    (fun v o' nx'=>Q (.ba v) ⟨s.env,o',nx'⟩)
  |_=>False
def fb(P:Program)(n b:Nat)(rd:Bool):Code->(eY->S->Prop)->S->Prop
 | .skip,Q,s=>Q .normal s
 | .label _,Q,s=>Q .normal s
 | .scope x,Q,s=>fb P n b rd x Q s
 | .region _ ops false,Q,s=>qe P n ops (fun v s=>Q (.ba v) s) (Q .normal) ops.toList s
 | .region id ops true,Q,s=>∀M bN H0 w0 cx φ a w ro k,bw M bN H0 w0 n cx φ s a w->(Code.region id ops true).wpIn (cL ro) k P (uC M bN H0 w0 n cx Q) a w
 | .seq x y,Q,s=>fb P n b rd x (kX (fb P n b rd y Q) Q) s
 | .cond c x y,Q,s=>match s.ev c with
   | .d (.bool t)=>(t=true->fb P n b rd x Q s)/\(t=false->fb P n b rd y Q s)
   | .dy=>fb P n b rd x Q s/\fb P n b rd y Q s
   |_=>False
 | .block id x,Q,s=>fb P n b rd x (dG id Q) s
 | .loop x,Q,s=>∃ (J:Nat->S->Prop),(∃m s1,dv b s s1/\J m s1)/\∀m s0,J m s0->fb P n b rd x (fun e s=>match e with| .normal=>∃m' s1,m'<m/\dv b s s1/\J m' s1|e=>Q e s) s0
 | .exit id,Q,s=>Q (.exit id) s
 | .ret,Q,s=>Q .ret s
 | .rangeFunc g ps x y,Q,s=>rd=false/\tF P n (s.ev g) ps.toList (low n x) (low n y) Q s
 |_,_,_=>False
section
variable {P:Program}{M:Nat->Prop}{φ:Place}{H:Hp}{w w':World}{bN:Place}{H0:Hp}{w0:World}{n b:Nat}{s:S}{a:Act}{cx:Cx}{ro:Option Nat}{k:Nat}
theorem xo(hb:∀id,H0.us id->id<b)(hs:bw M bN H0 w0 n cx φ s a w){s':S}(h:dv b s s'):∃ai,bw M bN H0 w0 n cx ai s' a w:=by
 obtain⟨ai,h1,h2,h3,h4,h5,h6⟩:=h M φ w (fun i=>a.tmps.getD i undef) hs.heap hs.env
 refine⟨ai,h1,⟨hs.tr.bD,fun k hk=>hs.tr.grow k (h3 k hk),⟨fun id hu=>Nat.lt_of_lt_of_le (hb id hu) h4,fun id hu hr=> ?_,fun id e' hu he=> ?_⟩⟩,hs.size, ?_,h2⟩
 ·obtain⟨g1,g2⟩:=h5 id (hb id hu) hr
  obtain⟨g3,g4⟩:=hs.tr.rel.row id hu g1
  exact⟨g3,g2.trans g4⟩
 ·obtain⟨e,g1,g2,g3⟩:=h6 id e' (hb id hu) he
  obtain⟨e0,k1,k2,k3⟩:=hs.tr.rel.ep id e hu g1
  refine⟨e0,k1,Nat.le_trans k2 g2,fun heq=> ?_⟩
  have a1:e0=e:=by omega
  have a2:e=e':=by omega
  exact(g3 a2).trans (k3 a1)
 ·obtain⟨ms,g1,g2,g3,g4⟩:=hs.defers
  exact⟨ms,g1,g2,g3,fun r hr=>⟨(g4 r hr).1,(g4 r hr).2.1,fun hl=>(g4 r hr).2.2 (h3 r hl)⟩⟩
theorem qi{c:Code}{Q:Exit->Act->World->Prop}(J:Nat->Act->World->Prop)(round:∀m a w,J m a w->c.mP P ro (Exit.then (fun a' w'=>∃m',m'<m/\J m' a' w') Q) a w):
 ∀m a w,J m a w->(Code.loop c).mP P ro Q a w:=by
 intro m a w h0 fr kk cs nK hb
 have hr:(cL ro).room (cs.length+1+0):=fun d hd=>by simp[cL]at hd
 have key:∀m a w,J m a w->∃e a' w',Q e a' w'/\ArrivesIn (Machine.fenced P (cL ro)) P (lone (fr.atR a (.code c:: .inLoop c::kk)) cs w) fr kk cs e a' w':=by
  intro m
  induction m using Nat.strongRecOn with
  |_ m ih=>
   intro a w hJ
   obtain⟨e,a1,w1,hq,bL⟩:=round m a w hJ fr (.inLoop c::kk) cs nK hb
   cases e with
   |normal=>
    obtain⟨m',br,Oj⟩:=hq
    obtain⟨e2,a2,w2,yZ,uE⟩:=ih m' br a1 w1 Oj
    exact⟨e2,a2,w2,yZ, .of_steps (StepsIn.trans bL (.one (fenced_calm trivial hr rfl) stepR_inLoop)) uE⟩
   |_=>exact⟨_,a1,w1,hq, .pass (x:= .inLoop c) rfl (fun _ _=> .inl (by simp)) bL⟩
 obtain⟨e,a',w',hq,bL⟩:=key m a w h0
 exact⟨e,a',w',hq, .of_steps (.one (fenced_calm trivial hr rfl) stepR_loop) bL⟩
theorem vQ(hs:bw M bN H0 w0 n cx φ s a w)(jw:cx.rd=false)(nK:ro=none){g:Operand}{ps:Array Tmp}{x y:Code}{Q:eY->S->Prop}(h:tF P n (s.ev g) ps.toList (low n x) (low n y) Q s):
 (Code.rangeFunc g ps x y).mP P ro (uC M bN H0 w0 n cx Q) a w:=by
 subst nK
 obtain⟨env,cA,h⟩:=h
 refine oQ fun fn vO=> ?_
 let tG:Loop:={state:= .ready,pending:=none,fn:=fn,tmps:=a.tmps,params:=ps,assign:=x,body:=y,defers:=w.heap.size}
 let w1:World:=(w.alloc (.deferred (some []))).alloc (.loop tG)
 let l:Nat:=w.heap.size+1
 have iA:(Instr.enterLoop fn a.tmps ps x y (cL none).round).run P w= .ok (l,[mark w.heap.size]) w1:=by
  simp[Instr.enterLoop,cL,mark,w1,l,tG]
 have LN:dh (fun _=>False) w w1:=by
  have k1:=bF w (.deferred (some []))
  have k2:=bF (w.alloc (.deferred (some []))) (.loop tG)
  exact⟨k2.os.trans k1.os,k2.tape.trans k1.tape,k2.output.trans k1.output,Nat.le_trans k1.size k2.size,fun j hj hm=>(k2.block j (Nat.lt_of_lt_of_le hj k1.size) hm).trans (k1.block j hj hm)⟩
 let eX:=aV φ s.nx (.pointer (some ⟨l,0,none⟩))
 let s1:S:=⟨s.env,aV s.o s.nx (.loop P.funcs.size n env ps.toList (low n x) (low n y) .ready none),s.nx+1⟩
 have de: ¬s.H.us s.nx:=by simp[S.H]
 have da:∀b,cW (.pointer (some ⟨l,0,none⟩))=some b->w.heap.size<=b/\b<w1.heap.size:=by
  intro b hb;simp[cW]at hb;subst hb;simp[l,w1]
 have tc:=cY (φ:=φ) (H:=s.H) LN de (.loop P.funcs.size n env ps.toList (low n x) (low n y) .ready none) (.pointer (some ⟨l,0,none⟩)) fun b hb=>(da b hb).1
 have zr:(w.alloc (.deferred (some []))).heap.size=w.heap.size+1:=by simp
 have oO:w1.heap[l]? =some (.loop tG):=by
  have:=heap_alloc_new (w.alloc (.deferred (some []))) (.loop tG)
  rwa [zr]at this
 have Ol:=eS hs.heap LN de (.loop P.funcs.size n env ps.toList (low n x) (low n y) .ready none) (.pointer (some ⟨l,0,none⟩)) da (by
  unfold aq
  simp only[aU,ax,if_true]
  refine⟨l,tG,rfl,oO,vO,rfl,rfl,rfl,hs.size,rfl,rfl,fun i=> ?_⟩
  rcases cA i with e|e
  ·rw[e];trivial
  ·rw[e];exact V.ao tc _ _ (hs.env i))
 have pw:bw M bN H0 w0 n cx eX s1 {a with defers:=mark w.heap.size::a.defers} w1:=by
  have base:=cT hs Ol tc (o':=aV s.o s.nx (.loop P.funcs.size n env ps.toList (low n x) (low n y) .ready none)) (nx':=s.nx+1) rfl (xj fun id ag=>by simp at ag;exact .inr ag)
  refine⟨base.heap,base.tr,base.size, ?_,base.env⟩
  obtain⟨ms,g1,g2,g3,g4⟩:=base.defers
  obtain⟨IW,q1,q2,q3,q4⟩:=hs.defers
  have Om:ms.map mark=IW.map mark:=by
   have:ms.map mark++cx.base=IW.map mark++cx.base:=g1.symm.trans q1
   exact List.append_cancel_right this
  have qj:ms=IW:=by
   have hm:∀a b,mark a=mark b->a=b:=fun a b h=>by simpa[mark]using h
   exact List.map_inj_right hm |>.1 Om
  refine⟨w.heap.size::ms,by rw[g1];rfl,List.nodup_cons.2 ⟨fun hm=> ?_,g2⟩,(fun h=>by rw[jw]at h;cases h),fun r hr=> ?_⟩
  ·have:=(q4 w.heap.size (qj ▸ hm)).2.1
   rw[Array.getElem?_eq_none (Nat.le_refl _)]at this;cases this
  ·rcases List.mem_cons.1 hr with rfl|hr
   ·refine⟨hs.tr.bD.size,(RowKit.Below.heap_alloc (w.alloc (.deferred (some []))) (.loop tG) w.heap.size (by rw[zr];omega)).trans (heap_alloc_new w _), ?_⟩
    rintro⟨id,i1,i2⟩
    by_cases e:id=s.nx
    ·subst e;simp[eX,cW,l]at i2
    ·have On:(s.H.o id).live=true:=by simpa[s1,S.H,e]using i1
     have Oo:cW (φ id)=some w.heap.size:=by simpa[eX,e]using i2
     have:=(hs.heap.ours _ ⟨id,On,Oo⟩).2
     omega
   ·exact g4 r hr
 have IX:V.den (ad M eX s1.H) eX s1.H w1 (.js s.nx) (.func (.yield l) #[] #[]):=
  ⟨rfl,by simp[s1,S.H],fun _=>⟨l,by simp[eX],rfl⟩⟩
 have hg:=iQ (M:=M) (φ:=eX) (H:=s1.H) (w:=w1) s1 {a with defers:=mark w.heap.size::a.defers} pw.env g
 have IY:s1.ev g=s.ev g:=by cases g<;>rfl
 rw[IY]at hg
 have Oq:({a with defers:=mark w.heap.size::a.defers}:Act).eval g=a.eval g:=rfl
 rw[Oq]at hg
 split at h
 ·rename_i f first cap Ot
  rw[Ot]at hg
  obtain⟨fa,ca,B2,tn,E3⟩:=hg
  have fin:∀ (all:List V) (o2:Nat->aa) (s2:S),s2=⟨s.env,o2,s.nx+1⟩->bw M bN H0 w0 n cx eX s2 {a with defers:=mark w.heap.size::a.defers} w1->V.ak (ad M eX s2.H) eX s2.H w1 all (fa++#[Value.func (.yield l) #[] #[]]++ca).toList->(o2 s.nx).bc=true->
   jx P f all o2 (s.nx+1) (fun _ o' nx'=>∃nf m e p c d st pd,o' s.nx= .loop nf m e p c d st pd/\st≠ .busy/\B4 Q pd ⟨s.env,aV o' s.nx (.loop nf m e p c d .exhausted pd),nx'⟩) (fun v o' nx'=>Q (.ba v) ⟨s.env,o',nx'⟩)->
   ∃ (l:Nat) (mark:List Deferred) (dX:World) (d:Deferred) (pt:World) (f:FuncId) (args:Array Value) (l5:World),
     (Instr.enterLoop fn a.tmps ps x y (cL none).round).run P w= .ok (l,mark) dX/\(resolve a.eval (rangeCall g l) 0).run P dX= .ok d pt/\
     (invoke d.target d.args).run P pt= .ok (.enter f args) l5/\CallsIn (cL none) 0 P f args l5 (nL P l (uC M bN H0 w0 n cx Q) {a with defers:=mark++a.defers}):=by
   intro all o2 s2 IZ y0 aC aY hC
   subst IZ
   have du:=hC.2 M eX w1 _ y0.heap aC
   refine⟨l,[mark w.heap.size],w1,{target:= .fn (.func f) ca,args:=fa++#[Value.func (.yield l) #[] #[]]},w1,f,fa++#[Value.func (.yield l) #[] #[]]++ca,w1,iA, ?_, ?_,cf (du.mono fun e w' ⟨ai,o',nx',v,k1,k2,k3⟩=> ?_)⟩
   ·simp only[resolve,B2,Deferred.ofValue,List.map_toArray,List.map_cons,List.map_nil,Sem.run_pure]
    rfl
   ·simp[invoke,gU hC.1]
   ·cases e with
    |returned val=>
     obtain⟨k4,nf,m,e,p,c,d,st,pd,k5,k6,k7⟩:=k3
     have uF:bw M bN H0 w0 n cx ai ⟨s.env,o',nx'⟩ {a with defers:=mark w.heap.size::a.defers} w':=cT y0 k1 k2 rfl fun id hu=>hu
     have B5:ai s.nx= .pointer (some ⟨l,0,none⟩):=by
      have:=(k2.rel.row s.nx (show s.nx<s.nx+1 by omega) (by show(o' s.nx).bc=true;rw[k5];rfl)).2
      rw[this];simp[eX]
     have br:s.nx<nx':=k2.rel.us s.nx (show s.nx<s.nx+1 by omega)
     obtain⟨r,r1,r2,r3,r4,r5⟩:=pv (st':= .exhausted) (pd':=pd) k1 br (show(hp o' nx').o s.nx=_ from k5) B5
     have nM:(Instr.endLoop l).run P w'= .ok (pd.map kq.code) {w' with heap:=w'.heap.setIfInBounds l (.loop {r with state:= .exhausted,pending:=pd.map kq.code})}:=by
      have e1:({r with state:= .exhausted}:Loop)={r with state:= .exhausted,pending:=pd.map kq.code}:=by rw[<- r3]
      have Ou:(r.state==LoopState.busy)=false:=by rw[r2];cases st<;>first|rfl|exact absurd rfl k6
      simp only[Instr.endLoop,Sem.run_bind,gv r1,Result.andThen_ok,Ou,Bool.false_eq_true,if_false,Sem.run_pure]
      rw[eZ _ r1,e1]
      simp[r3]
     have DS:=cT uF r4 r5 (o':=aV o' s.nx (.loop nf m e p c d .exhausted pd)) (nx':=nx') rfl fun id hu=>by
      simp only[cO]at hu
      rcases hu with hu|hu
      ·exact hu
      ·subst hu;exact br
     refine⟨pd.map kq.code,_,nM, ?_⟩
     cases pd with
     |none=>exact⟨.normal,_,_,k7,DS,trivial⟩
     |some j=>
      cases j with
      |ret=>exact uD ⟨.ret,_,_,k7,DS,trivial⟩
      |exit id=>exact rW ⟨.exit id,_,_,k7,DS,rfl⟩
    |panicked ch=>
     obtain⟨val,rfl,k4,k5⟩:=k3
     have uF:bw M bN H0 w0 n cx ai ⟨s.env,o',nx'⟩ {a with defers:=mark w.heap.size::a.defers} w':=cT y0 k1 k2 rfl fun id hu=>hu
     exact⟨.ba v,_,_,k5,uF,val,rfl,k4⟩
    |outgrown=>exact k3.elim
  have iZ:V.ak (ad M eX s1.H) eX s1.H w1 (first++[V.js s.nx]++cap) (fa++#[Value.func (.yield l) #[] #[]]++ca).toList:=by
   rw[Array.toList_append,Array.toList_append]
   exact V.iz tn ⟨_,[],rfl,IX,rfl⟩ E3
  rcases h with hC|hC
  ·exact fin _ _ s1 rfl pw iZ (by simp;rfl) hC
  ·have gI:s1.o=aV s.o s.nx (.loop P.funcs.size n env ps.toList (low n x) (low n y) .ready none):=rfl
   obtain⟨f1,f2,f3,f4,f5⟩:=cj pw.heap (ck s1.o (first++[V.js s.nx]++cap)) (ey _ _ s1.o iZ)
   have iq:s1.H.put (b8 s1.H.o (ck s1.o (first++[V.js s.nx]++cap)))=hp (put s1.o (b8 s1.o (ck s1.o (first++[V.js s.nx]++cap)))) s1.nx:=gS (by rw[jy];exact ey _ _ s1.o iZ)
   have A1:=xm f1 _ _ f3 (V.aw f2 _ _ iZ)
   have A2:((s1.H.put (b8 s1.H.o (ck s1.o (first++[V.js s.nx]++cap)))).o s.nx).bc=true:=by
    by_cases hm:s.nx∈ck s1.o (first++[V.js s.nx]++cap)
    ·rw[f3 _ hm];simp[s1,S.H,aa.fz,aa.bc]
    ·rw[f4 _ hm];simp[s1,S.H,aa.bc]
   rw[iq]at f1 f2 A1 A2
   exact fin _ (put s1.o (b8 s1.o (ck s1.o (first++[V.js s.nx]++cap)))) ⟨s.env,_,s.nx+1⟩ rfl (cT pw f1 f2 rfl fun id hu=>hu) A1 A2 hC
 ·exact h.elim
end
end Go.Proofs.YtbmnikpknlkbkaaGreat
