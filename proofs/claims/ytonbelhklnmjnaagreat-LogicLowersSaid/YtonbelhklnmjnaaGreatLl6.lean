/-
  A PART OF THE PROOF. Conditions: none.
-/
import Derived.RangeFuncLeaves
import Derived.TacticsIn
import Derived.RecoverIn
import Derived.Test.YtonbelhklnmjnaaGreatLl5
set_option linter.unusedSimpArgs false
set_option linter.unusedVariables false
namespace Go.Proofs.YtonbelhklnmjnaaGreat
inductive R where
 |ret (ds:List D)|bW (d:D)
def R.is (B:Nat->Prop)(w:World):R->Ending->Prop
 | .ret [x], .returned v=>D.den B w x v
 | .ret ds, .returned v=>∃a,v= .tuple a/\D.aP B w ds a.toList
 | .bW d, .panicked chain=>∃v,chain=[{v:=v,recovered:=false}]/\D.den B w d v
 |_,_=>False
def Enters(P:Program)(f:FuncId):Prop:=∃fn,P.funcs[f]? =some fn/\(fn.name== "runtime.NumGoroutine")=false/\fn.body.isNone=false
def aQ(P:Program)(f:FuncId)(ds:List D)(out:R):Prop:=
 Enters P f/\∀ (M:Nat->Prop) (w:World) (vals:Array Value),(∀b,M b->b<w.heap.size)->D.aP M w ds vals.toList->
  Calls P f vals w fun e w'=>fg (fun _=>False) w w'/\out.is M w' e
def hp(o:Nat->ab)(nx:Nat):Hp:=⟨o,fun id=>id<nx⟩
def nN(M:Nat->Prop)(φ:Place)(H:Hp)(w:World)(K X:V->(Nat->ab)->Nat->Prop)(e:Ending)(w':World):Prop:=
 ∃aS o' nx' v,aI M aS (hp o' nx') w'/\Trans φ H w aS (hp o' nx') w'/\match e with
  | .returned val=>V.den (aA M aS (hp o' nx')) aS (hp o' nx') w' v val/\K v o' nx'
  | .panicked ch=>∃val,ch=[{v:=val,recovered:=false}]/\V.den (aA M aS (hp o' nx')) aS (hp o' nx') w' v val/\X v o' nx'
  | .outgrown=>False
def cR(P:Program)(f:FuncId)(args:List V)(o:Nat->ab)(nx:Nat)(K X:V->(Nat->ab)->Nat->Prop):Prop:=
 Enters P f/\∀ (M:Nat->Prop) (φ:Place) (w:World) (vals:Array Value),aI M φ (hp o nx) w->V.aP (aA M φ (hp o nx)) φ (hp o nx) w args vals.toList->
  Calls P f vals w (nN M φ (hp o nx) w K X)
def eD(P:Program)(id:Nat)(args:List V)(o:Nat->ab)(nx:Nat)(K X:V->(Nat->ab)->Nat->Prop):Prop:=
 (o id).cK=true/\∀ (M:Nat->Prop) (φ:Place) (w:World) (vals:Array Value) (b:Nat),aI M φ (hp o nx) w->V.aP (aA M φ (hp o nx)) φ (hp o nx) w args vals.toList->φ id= .pointer (some ⟨b,0,none⟩)->
  ∃f tmps assign body,(Instr.yield b vals).run P w= .ok (.round b f tmps assign body) w/\∀n,RoundIn Fence.wide n P b f tmps assign body w (nN M φ (hp o nx) w K X)
theorem nN.mono {M:Nat->Prop}{φ:Place}{H:Hp}{w:World}{K X K' X':V->(Nat->ab)->Nat->Prop}(hK:∀v o n,K v o n->K' v o n)(hX:∀v o n,X v o n->X' v o n){e:Ending}{w':World}(h:nN M φ H w K X e w'):nN M φ H w K' X' e w':=by
 obtain⟨aS,o',nx',v,h1,h2,h3⟩:=h
 refine⟨aS,o',nx',v,h1,h2, ?_⟩
 cases e with
 |returned val=>exact⟨h3.1,hK _ _ _ h3.2⟩
 |panicked ch=>obtain⟨val,a,b,c⟩:=h3;exact⟨val,a,b,hX _ _ _ c⟩
 |outgrown=>exact h3
theorem cR.mono {P:Program}{f:FuncId}{args:List V}{o:Nat->ab}{nx:Nat}{K X K' X':V->(Nat->ab)->Nat->Prop}(hK:∀v o n,K v o n->K' v o n)(hX:∀v o n,X v o n->X' v o n)(h:cR P f args o nx K X):cR P f args o nx K' X':=
 ⟨h.1,fun M φ w vals h1 h2=>(h.2 M φ w vals h1 h2).mono fun _ _ h=>h.mono hK hX⟩
theorem eD.mono {P:Program}{id:Nat}{args:List V}{o:Nat->ab}{nx:Nat}{K X K' X':V->(Nat->ab)->Nat->Prop}(hK:∀v o n,K v o n->K' v o n)(hX:∀v o n,X v o n->X' v o n)(h:eD P id args o nx K X):eD P id args o nx K' X':=
 ⟨h.1,fun M φ w vals b h1 h2 h3=>let⟨f,t,a,c,h4,h5⟩:=h.2 M φ w vals b h1 h2 h3;⟨f,t,a,c,h4,fun n=>(h5 n).mono fun _ _ h=>h.mono hK hX⟩⟩
mutual
def D.flat:D->Bool
 | .sl _| .mp _ _=>false
 | .agg cs=>D.kO cs
 | .iface _ x=>x.flat
 |_=>true
def D.kO:List D->Bool
 |[]=>true
 |x::xs=>x.flat&&D.kO xs
end
mutual
theorem D.rb {B B':Nat->Prop}{w w':World}:∀ (x:D) (v:Value),x.flat=true->D.den B w x v->D.den B' w' x v
 | .int _ _,_,_,h| .bool _,_,_,h| .str _,_,_,h| .fV,_,_,h| .nn,_,_,h| .bV,_,_,h| .jD,_,_,h=>h
 | .agg cs,_,hf,h=>by obtain⟨a,rfl,h,h2⟩:=h;exact⟨a,rfl,D.mH cs _ hf h,h2⟩
 | .sl es,_,hf,h=>by simp[D.flat]at hf
 | .mp _ _,_,hf,h=>by simp[D.flat]at hf
 | .iface t x,_,hf,h=>by obtain⟨u,rfl,h⟩:=h;exact⟨u,rfl,D.rb x u hf h⟩
theorem D.mH {B B':Nat->Prop}{w w':World}:∀ (xs:List D) (vs:List Value),D.kO xs=true->D.aP B w xs vs->D.aP B' w' xs vs
 |[],_,_,h=>h
 |x::xs,_,hf,h=>by
  obtain⟨u,us,rfl,h1,h2⟩:=h
  simp only[D.kO,Bool.and_eq_true]at hf
  exact⟨u,us,rfl,D.rb x u hf.1 h1,D.mH xs us hf.2 h2⟩
end
mutual
def D.nO:D->Bool
 | .mp _ _=>false
 | .agg cs=>D.mI cs
 | .sl es=>D.mI es
 | .iface _ x=>x.nO
 |_=>true
def D.mI:List D->Bool
 |[]=>true
 |x::xs=>x.nO&&D.mI xs
end
theorem iI.CI {B B':Nat->Prop}{w w':World}{a:Addr}{cs:Array Value}
 (hb:∀b,qL w b-> ¬B b->w'.heap[b]? =w.heap[b]? /\ ¬B' b) (h:iI B w a cs):iI B' w' a cs:=by
 intro j u hj
 obtain⟨h1,h2⟩:=h j u hj
 have cD:qL w a.block:=by simpa using pE h1
 exact Tz
mutual
theorem D.l7 {B B':Nat->Prop}{w w':World}(hb:∀b,qL w b-> ¬B b->w'.heap[b]? =w.heap[b]? /\ ¬B' b):
 ∀ (x:D) (v:Value),x.nO=true->D.den B w x v->D.den B' w' x v
 | .int _ _,_,_,h| .bool _,_,_,h| .str _,_,_,h| .fV,_,_,h| .nn,_,_,h| .bV,_,_,h| .jD,_,_,h=>by simpa[D.den]using h
 | .agg cs,_,hn,h=>by
   obtain⟨a,rfl,h,hf⟩:=h
   exact⟨a,rfl,D.nP hb cs _ hn h,hf⟩
 | .sl es,_,hn,h=>by
   obtain⟨base,len,cap,rfl,h1,h2,h3,sz,h4⟩:=h
   exact⟨base,len,cap,rfl,h1,h2,h3,sz,fun a ha=>⟨(h4 a ha).1,D.re hb sz a es 0 hn (h4 a ha).2⟩⟩
 | .iface t d,_,hn,h=>by
   obtain⟨u,rfl,h⟩:=h
   exact⟨u,rfl,D.l7 hb d u hn h⟩
 | .mp _ _,_,hn,_=>by simp[D.nO]at hn
theorem D.nP {B B':Nat->Prop}{w w':World}(hb:∀b,qL w b-> ¬B b->w'.heap[b]? =w.heap[b]? /\ ¬B' b):
 ∀ (ds:List D) (vs:List Value),D.mI ds=true->D.aP B w ds vs->D.aP B' w' ds vs
 |[],_,_,h=>h
 |d::ds,_,hn,h=>by
  obtain⟨u,us,rfl,h1,h2⟩:=h
  simp only[D.mI,Bool.and_eq_true]at hn
  exact⟨u,us,rfl,D.l7 hb d u hn.1 h1,D.nP hb ds us hn.2 h2⟩
theorem D.re {B B':Nat->Prop}{w w':World}(hb:∀b,qL w b-> ¬B b->w'.heap[b]? =w.heap[b]? /\ ¬B' b)(sz:Nat)(a:Addr):
 ∀ (es:List D) (i:Nat),D.mI es=true->D.elems B w sz a i es->D.elems B' w' sz a i es
 |[],_,_,_=>trivial
 |e::es,i,hn,h=>by
  obtain⟨⟨ev,h1,h2,h3⟩,h4⟩:=h
  simp only[D.mI,Bool.and_eq_true]at hn
  exact⟨⟨ev,h1,h2.CI hb,D.l7 hb e ev hn.1 h3⟩,D.re hb sz a es (i+1) hn.2 h4⟩
end
def R.nO:R->Bool
 | .ret ds=>D.mI ds
 | .bW d=>d.nO
def R.flat:R->Bool
 | .ret ds=>D.kO ds
 | .bW d=>d.flat
def ke:List D->V
 |[x]=> .d x
 |ds=> .cn (ds.map .d)
inductive gf where
 |normal|exit (id:Nat)|ret|bW (v:V)
def bB(env:Nat->V)(dst:Option Tmp)(v:V):Nat->V:=
 match dst with
 |some d=>aM env d v
 |none=>env
def MZ(o:Nat->ab)(v:V):V:=match eI o v with|some x=> .d x|none=>v
def dI(o:Nat->ab):List V->List Nat
 |[]=>[]
 |v::vs=>(match eI o v with|some _=>v.ids|none=>[])++dI o vs
def pC(P:Program)(g:FuncId)(args:List V)(o:Nat->ab)(nx:Nat)(K X:V->(Nat->ab)->Nat->Prop):Prop:=
 cR P g args o nx K X\/cR P g (args.map (MZ o)) (put o (dw o (dI o args))) nx K X
def vK(P:Program)(s:S)(g:FuncId)(all:List V)(K:V->(Nat->ab)->Nat->Prop)(X:V->(Nat->ab)->Nat->Prop):Prop:=
    (∃ds out,cA s.o all=some ds/\aQ P g ds out/\(match out with
     | .ret rs=>K (ke rs) (put s.o (dw s.o (V.bK all))) (s.nx+1)
     | .bW x=>X (.d x) (put s.o (dw s.o (V.bK all))) (s.nx+1)))\/
    (∃ds out,cA s.o all=some ds/\aQ P g ds out/\out.flat=true/\(match out with
     | .ret rs=>K (ke rs) s.o (s.nx+1)
     | .bW x=>X (.d x) s.o (s.nx+1)))\/
    (∃ds out,cA s.o all=some ds/\aQ P g ds out/\out.nO=true/\(match out with
     | .ret rs=>K (ke rs) (put s.o (sG s.o (V.bK all))) (s.nx+1)
     | .bW x=>X (.d x) (put s.o (sG s.o (V.bK all))) (s.nx+1)))\/
    pC P g all s.o s.nx K X
def C5(P:Program)(s:S)(f:V)(args:List V)(K:V->(Nat->ab)->Nat->Prop)(X:V->(Nat->ab)->Nat->Prop):Prop:=
 match f with
 | .func (.func g) first cap=>vK P s g (first++args++cap) K X
 | .kq id=>eD P id args s.o s.nx K X
 |_=>False
def UF(P:Program)(t:TypeId):Bool:=
 match P.underlying t with
 |some (.pointer _)=>false
 |some _=>true
 |none=>false
def vL(P:Program)(m:String)(x:V):Option (FuncId×V):=
 match x with
 | .d (.iface t y)=>match P.info? t with
   |some ti=>match ti.methods.find? (·.name==m)with
    |some r=>match r.func with
     |some (f,false)=>if r.path.isEmpty=true/\UF P t=true then some (f, .d y)else none
     |_=>none
    |none=>none
   |none=>none
 |_=>none
def iJ(n:Nat):Option Tmp->Prop
 |some d=>d<n
 |none=>True
def opW(P:Program)(n:Nat)(s:S)(o:Oper)(X:V->S->Prop)(K:S->Prop):Prop:=
 iJ n o.dst/\match o.op with
 | .call c=>match c.callee with
   | .value f=>C5 P s (s.ev f) (c.args.toList.map s.ev) (fun v o' nx'=>K ⟨bB s.env o.dst v,o',nx'⟩) (fun v o' nx'=>X v ⟨s.env,o',nx'⟩)
   | .invoke r m=>match vL P m (s.ev r)with
     |some (g,y)=>vK P s g (y::c.args.toList.map s.ev) (fun v o' nx'=>K ⟨bB s.env o.dst v,o',nx'⟩) (fun v o' nx'=>X v ⟨s.env,o',nx'⟩)
     |none=>False
   |_=>Uy P s s.nx o.op fun v Δ _=>K ⟨bB s.env o.dst v,put s.o Δ,s.nx+1⟩
 | .panic x=>match s.ev x with
   | .d (.iface t y)=>X (.d (.iface t y)) s
   | .iface t y=>X (.iface t y) s
   |_=>False
 |op=>Uy P s s.nx op fun v Δ _=>K ⟨bB s.env o.dst v,put s.o Δ,s.nx+1⟩
def AX(s:S)(ops:Array Oper)(g:Option (Nat×Bool))(A B:Prop):Prop:=
 match g with
 |none=>A
 |some (j,want)=>match tD ops j with
  |some d=>match s.env d with
   | .d (.bool b)=>(b=want->A)/\(b≠want->B)
   | .cn []=>B
   |_=>False
  |none=>B
def AY(P:Program)(n:Nat)(ops:Array Oper)(X:V->S->Prop)(K:S->Prop):List Oper->S->Prop
 |[],s=>K s
 |o::l,s=>AX s ops o.guard (opW P n s o X (AY P n ops X K l)) (iJ n o.dst/\AY P n ops X K l ⟨bB s.env o.dst (.cn []),s.o,s.nx+1⟩)
def bM(b:Nat)(s s':S):Prop:=
 ∀ (M:Nat->Prop) (φ:Place) (w:World) (tm:Nat->Value),aI M φ s.H w->(∀i,V.den (aA M φ s.H) φ s.H w (s.env i) (tm i))->
   ∃aS,aI M aS s'.H w/\(∀i,V.den (aA M aS s'.H) aS s'.H w (s'.env i) (tm i))/\(∀k,dt aS s'.H k->dt φ s.H k)/\b<=s'.nx/\
    (∀id,id<b->(s'.o id).cK=true->(s.o id).cK=true/\aS id=φ id)/\
    (∀id e',id<b->(s'.o id).cJ=some e'->∃e,(s.o id).cJ=some e/\e<=e'/\(e=e'->aS id=φ id))
def rh(K:S->Prop)(Q:gf->S->Prop)(e:gf)(s:S):Prop:=match e with| .normal=>K s|e=>Q e s
def gA(id:Nat)(Q:gf->S->Prop)(e:gf)(s:S):Prop:=match e with| .exit j=>if j=id then Q .normal s else Q (.exit j) s|e=>Q e s
def mJ(P:Program)(s:S):List ResultVar->Option (List V)
 |[]=>some []
 | .tmp t::rs=>(mJ P s rs).map (s.env t::·)
 | .cell a t::rs=>match s.env a with
   | .ptr id off=>match s.o id with
     | .row cs=>(fK P t cs off).bind fun v=>(mJ P s rs).map (v::·)
     |_=>none
   |_=>none
def cN(vs:List V):Nat->V:=fun i=>vs.getD i (.cn [])
def FB(P:Program)(rs:List ResultVar)(out:R)(e:gf)(s:S):Prop:=
 match e with
 | .normal| .ret=>match mJ P s rs with
   |some vs=>match cA s.o vs with
    |some ds=>out= .ret ds
    |none=>False
   |none=>False
 | .bW v=>match eI s.o v with
   |some x=>out= .bW x
   |none=>False
 | .exit _=>False
theorem M0{P:Program}{rs:List ResultVar}{out:R}{s:S}(h:match mJ P s rs with
 |some vs=>match cA s.o vs with
  |some ds=>out= .ret ds
  |none=>False
 |none=>False):∃vs ds,mJ P s rs=some vs/\cA s.o vs=some ds/\out= .ret ds:=by
 split at h
 ·rename_i vs h1
  split at h
  ·rename_i xs h2;exact⟨vs,xs,h1,h2,h⟩
  ·exact h.elim
 ·exact h.elim
theorem M3{out:R}{s:S}{v:V}(h:match eI s.o v with
 |some x=>out= .bW x
 |none=>False):∃x,eI s.o v=some x/\out= .bW x:=by
 split at h
 ·rename_i x h1;exact⟨x,h1,h⟩
 ·exact h.elim
section
section
variable {P:Program}{M:Nat->Prop}{φ:Place}{H:Hp}{w w':World}
def ab.l8:ab->Bool
 | .arr .. =>true
 |_=>false
theorem Q4(o:Nat->ab)(ids:List Nat):sG o ids=dw o (ids.filter fun id=>(o id).l8):=by
 induction ids with
 |nil=>rfl
 |cons id ids ih=>
  unfold sG at ih|-
  simp only[List.filterMap_cons,List.filter_cons]
  cases hx:o id with
  |arr ep ty sz es=>
   have e:(ab.arr ep ty sz es).l8=true:=rfl
   rw[e,if_pos rfl,ih]
   simp only[dw,List.map_cons,hx]
  |_=>exact ih
theorem ly(hH:aI M φ H w){us':Nat->Prop}(h:∀id,H.us id->us' id):aI M φ ⟨H.o,us'⟩ w/\Trans φ H w φ ⟨H.o,us'⟩ w:=by
 have ht:Trans φ H w φ ⟨H.o,us'⟩ w:=⟨fg.refl _ _,fun b hb=> .inl hb,⟨h,fun id _ hr=>⟨hr,rfl⟩,fun id e' _ he=>⟨e',he,Nat.le_refl _,fun _=>rfl⟩⟩⟩
 exact⟨hH.of ht (fun _=>False) (fun _ h=>h.elim) (fun id _=>⟨rfl,rfl,fun _ _ _=>rfl⟩) (fun id hn=>hH.fresh id fun hu=>hn (h id hu)) hH.apart (fun b hb=>(hH.ours b hb).2),ht⟩
theorem iu(hH:aI M φ H w)(hk:fg (fun _=>False) w w'):aI M φ H w'/\Trans φ H w φ H w':=by
 have ht:Trans φ H w φ H w':=⟨⟨hk.os,hk.tape,hk.output,hk.size,fun k h _=>hk.block k h fun h=>h⟩,fun b hb=> .inl hb,eR.refl _ _⟩
 exact⟨hH.of ht (fun _=>False) (fun _ h=>h.elim) (fun id _=>⟨rfl,rfl,fun hl b hb=>hk.block b (hH.ours b ⟨id,hl,hb⟩).2 fun h=>h⟩) hH.fresh hH.apart (fun b hb=>Nat.lt_of_lt_of_le (hH.ours b hb).2 hk.size),ht⟩
theorem l9{Δ:List (Nat×ab)}(h:∀id∈Δ.map (·.1),H.us id):H.put Δ=⟨put H.o Δ,H.us⟩:=by
 unfold Hp.put
 congr 1
 funext id
 simp only[eq_iff_iff]
 exact⟨fun h'=>h'.elim (fun h=>h) (h id), .inl⟩
theorem uM(o:Nat->ab)(ids:List Nat):(dw o ids).map (·.1)=ids:=by
 rw[mF];simp[Function.comp_def]
structure Cx where
 base:List Deferred
 rd:Bool
def eK(ro:Option Nat):Fence:={fn:=fun _=>True,depth:=none,alive:=false,round:=ro}
def mark(r:Nat):Deferred:={target:= .collected r,args:=#[]}
def vM(cx:Cx)(w0:World)(φ:Place)(H:Hp)(w:World)(ds:List Deferred):Prop:=
 ∃ms:List Nat,ds=ms.map mark++cx.base/\ms.Nodup/\(cx.rd=true->ms=[])/\∀r∈ms,w0.heap.size<=r/\w.heap[r]? =some (.deferred (some []))/\ ¬dt φ H r
theorem vM.mono {cx:Cx}{w0:World}{φ aS:Place}{H H':Hp}{w w':World}{ds:List Deferred}(ht:Trans φ H w aS H' w')(h:vM cx w0 φ H w ds):vM cx w0 aS H' w' ds:=by
 obtain⟨ms,h1,h2,h3,h4⟩:=h
 refine⟨ms,h1,h2,h3,fun r hr=> ?_⟩
 obtain⟨g1,g2,g3⟩:=h4 r hr
 have cD:r<w.heap.size:=by
  rcases Nat.lt_or_ge r w.heap.size with hl|hl
  ·exact hl
  ·rw[Array.getElem?_eq_none hl]at g2;cases g2
 refine⟨g1,(ht.keep.block r cD g3).trans g2,fun hl=> ?_⟩
 rcases ht.grow r hl with h|h
 ·exact g3 h
 ·omega
structure cB (M:Nat->Prop) (cU:Place) (H0:Hp) (w0:World) (n:Nat) (cx:Cx) (φ:Place) (s:S) (a:Act) (w:World):Prop where
 heap:aI M φ s.H w
 tr:Trans cU H0 w0 φ s.H w
 size:a.tmps.size=n
 defers:vM cx w0 φ s.H w a.defers
 env:∀i,V.den (aA M φ s.H) φ s.H w (s.env i) (a.tmps.getD i undef)
variable {cU:Place}{H0:Hp}{w0:World}{n:Nat}{s:S}{a:Act}{cx:Cx}{ro:Option Nat}{k:Nat}
theorem dC{f:FuncId}{args:Array Value}{R:Ending->World->Prop}(h:Calls P f args w R):CallsIn (eK ro) k P f args w R:=
 ⟨trivial,fun cs _=>let⟨e,w',fr,r,s,x⟩:=h cs;⟨e,w',fr,r,comesIn_wide.2 s,x⟩⟩
theorem C6{f:FuncId}{args:Array Value}{R:Ending->World->Prop}(h:CallsIn (eK ro) k P f args w R):Calls P f args w R:=
 fun cs=>let⟨e,w',fr,r,s,x⟩:=h.2 cs (fun _ h=>by simp[eK]at h);⟨e,w',fr,r,comesIn_wide.1 s,x⟩
theorem lE{o:Oper}{next:Act->World->Prop}{Q:Exit->Act->World->Prop}(hnd:∀c,o.op≠ .defer c)(h:o.uponIn (eK ro) k P a next Q ((execOp a.eval o).run P w)):o.wpIn (eK ro) k P a w next Q:=
 ⟨fun _ _=>trivial,by rw[Oper.semAt_eq _ _ _ hnd];exact h⟩
theorem oQ(hs:cB M cU H0 w0 n cx φ s a w){aS:Place}{H':Hp}(hH:aI M aS H' w')(ht:Trans φ s.H w aS H' w'){v:V}{val:Value}(hd:V.den (aA M aS H') aS H' w' v val){dst:Option Tmp}(dq:iJ n dst)
 {o':Nat->ab} {nx':Nat} (ho:H'.o=o') (hu:∀id,H'.us id->id<nx'):cB M cU H0 w0 n cx aS ⟨bB s.env dst v,o',nx'⟩ (a.put dst val) w':=by
 obtain⟨k1,k2⟩:=ly hH hu
 subst ho
 refine⟨k1,hs.tr.trans (ht.trans k2), ?_, ?_,fun i=> ?_⟩
 ·cases dst<;>simp[Act.put,hs.size]
 ·have:=hs.defers.mono (ht.trans k2);cases dst<;>exact this
 ·cases dst with
  |none=>exact Qz
  |some d=>
   simp only[iJ]at dq
   simp only[bB,aW,Act.put]
   by_cases hi:i=d
   ·subst hi
    have h1:(a.tmps.setIfInBounds i val).getD i undef=val:=by simp[Array.getD,hs.size,dq]
    rw[if_pos rfl,h1]
    exact V.bc k2 _ _ hd
   ·have h1:(a.tmps.setIfInBounds d val).getD i undef=a.tmps.getD i undef:=by
     exact Mg
    rw[if_neg hi,h1]
    exact Qz
theorem fH(hs:cB M cU H0 w0 n cx φ s a w){aS:Place}{H':Hp}(hH:aI M aS H' w')(ht:Trans φ s.H w aS H' w'){o':Nat->ab}{nx':Nat}(ho:H'.o=o')(hu:∀id,H'.us id->id<nx'):
 cB M cU H0 w0 n cx aS ⟨s.env,o',nx'⟩ a w':=by
 obtain⟨k1,k2⟩:=ly hH hu
 subst ho
 exact⟨k1,hs.tr.trans (ht.trans k2),hs.size,hs.defers.mono (ht.trans k2),fun i=>V.bc (ht.trans k2) _ _ (hs.env i)⟩
theorem M4{Δ:List (Nat×ab)}(h:∀id∈Δ.map (·.1),s.H.us id\/id=s.nx)(id:Nat)(hu:(s.H.put Δ).us id):id<s.nx+1:=by
 rcases hu with hu|hu
 ·exact Nat.lt_succ_of_lt hu
 ·rcases h id hu with h|h
  ·exact Nat.lt_succ_of_lt h
  ·omega
variable {next:Act->World->Prop}{Q:Exit->Act->World->Prop}{X:V->S->Prop}{K:S->Prop}
theorem M5(hs:cB M cU H0 w0 n cx φ s a w){o:Oper}{op:Op}(eJ:o.op=op)(dq:iJ n o.dst)(h:Uy P s s.nx op fun v Δ _=>K ⟨bB s.env o.dst v,put s.o Δ,s.nx+1⟩)
 (hN:∀s' aS a' w',K s'->cB M cU H0 w0 n cx aS s' a' w'->next a' w'):o.wpIn (eK ro) k P a w next Q:=by
 obtain⟨nx,val,w',aS,v,Δ,rd,hK,hr,uS,g1,g2,g3,g4⟩:=yZ hs.heap (s:=s) rfl hs.env (fr:=s.nx) (by simp[S.H]) eJ h
 have AZ:=oQ hs g1 g2 g3 dq (o':=put s.o Δ) (nx':=s.nx+1) rfl (M4 g4)
 refine lE (fun c hc=>by rw[eJ]at hc;subst hc;exact h) ?_
 rw[hr]
 rcases uS with rfl|⟨rfl,rfl⟩
 ·exact hN _ _ _ _ hK AZ
 ·exact hN _ _ _ _ hK AZ
theorem V.qI {B:Nat->Prop}{cE bs cs:List V}{u v x:List Value}(h1:V.aP B φ H w cE u)(h2:V.aP B φ H w bs v)(h3:V.aP B φ H w cs x):V.aP B φ H w (cE++bs++cs) (u++v++x):=
 V.bN _ _ _ _ (V.bN _ _ _ _ h1 h2) h3
theorem ma{f:FuncId}(h:Enters P f)(args:Array Value):(callFunc f args).run P w= .ok (.enter f args) w:=by
 obtain⟨fn,h1,h2,h3⟩:=h
 have jb:fn.name≠ "runtime.NumGoroutine" :=by simpa using h2
 have sR:fn.body≠none:=fun h=>by rw[h]at h3;cases h3
 simp[callFunc,h1,jb,sR]
theorem nA:∀ {rs:List D} {val:Value},R.is (aA M φ H) w (.ret rs) (.returned val)->V.den (aA M φ H) φ H w (ke rs) val
 |[],_,h=>by obtain⟨arr,rfl,h⟩:=h;exact⟨arr,rfl,h⟩
 |[x],_,h=>h
 |x::y::l,_,h=>by obtain⟨arr,rfl,h⟩:=h;exact⟨arr,rfl,(V.cM (x::y::l) _).2 h⟩
theorem R.A0 {B B':Nat->Prop}:∀ {out:R} {e:Ending},out.flat=true->out.is B w e->out.is B' w e
 | .ret [], .returned _,_,h=>by obtain⟨arr,rfl,h⟩:=h;exact⟨arr,rfl,h⟩
 | .ret [x], .returned _,hf,h=>by
   simp only[R.flat,D.kO,Bool.and_true]at hf
   exact D.rb x _ hf h
 | .ret (x::y::l), .returned _,hf,h=>by obtain⟨arr,rfl,h⟩:=h;exact⟨arr,rfl,D.mH (x::y::l) _ hf h⟩
 | .bW d, .panicked _,hf,h=>by obtain⟨v,rfl,h⟩:=h;exact⟨v,rfl,D.rb d v hf h⟩
 | .ret [], .panicked _,_,h| .ret [_], .panicked _,_,h| .ret (_::_::_), .panicked _,_,h| .ret [], .outgrown,_,h| .ret [_], .outgrown,_,h| .ret (_::_::_), .outgrown,_,h| .bW _, .returned _,_,h| .bW _, .outgrown,_,h=>h.elim
theorem R.M6 {B B':Nat->Prop}{w':World}(hb:∀b,qL w' b-> ¬B b-> ¬B' b):∀ {out:R} {e:Ending},out.nO=true->out.is B w' e->out.is B' w' e
 | .ret [], .returned _,_,h=>by obtain⟨arr,rfl,h⟩:=h;exact⟨arr,rfl,h⟩
 | .ret [x], .returned _,hf,h=>by
   simp only[R.nO,D.mI,Bool.and_true]at hf
   exact D.l7 (fun b hc hn=>⟨rfl,hb b hc hn⟩) x _ hf h
 | .ret (x::y::l), .returned _,hf,h=>by obtain⟨arr,rfl,h⟩:=h;exact⟨arr,rfl,D.nP (fun b hc hn=>⟨rfl,hb b hc hn⟩) (x::y::l) _ hf h⟩
 | .bW d, .panicked _,hf,h=>by obtain⟨v,rfl,h⟩:=h;exact⟨v,rfl,D.l7 (fun b hc hn=>⟨rfl,hb b hc hn⟩) d v hf h⟩
 | .ret [], .panicked _,_,h| .ret [_], .panicked _,_,h| .ret (_::_::_), .panicked _,_,h| .ret [], .outgrown,_,h| .ret [_], .outgrown,_,h| .ret (_::_::_), .outgrown,_,h| .bW _, .returned _,_,h| .bW _, .outgrown,_,h=>h.elim
theorem M7(hH:aI M φ H w){o:Nat->ab}:∀ (vs:List V) (vals:List Value),(∀id∈dI o vs,H.o id=(o id).fz)->V.aP (aA M φ H) φ H w vs vals->V.aP (aA M φ H) φ H w (vs.map (MZ o)) vals
 |[],_,_,h=>h
 |v::vs,_,ho,h=>by
  obtain⟨u,us,rfl,h1,h2⟩:=h
  refine⟨u,us,rfl, ?_,M7 hH vs us (fun id aG=>ho id (by simp[dI,aG])) h2⟩
  unfold MZ
  split
  ·rename_i x hx
   exact gP hH v x u (fun id aG=>ho id (by simp[dI,hx,aG])) hx h1
  ·exact h1
theorem iK:∀ (vs:List V) (vals:List Value) (o:Nat->ab),V.aP (aA M φ H) φ H w vs vals->∀id∈dI o vs,H.us id
 |[],_,_,_,j,hj=>by simp[dI]at hj
 |v::vs,_,o,h,j,hj=>by
  obtain⟨u,us,rfl,h1,h2⟩:=h
  simp only[dI,List.mem_append]at hj
  rcases hj with hj|hj
  ·cases hx:eI o v with
   |none=>simp[hx]at hj
   |some x=>simp only[hx]at hj;exact dA v u h1 j hj
  ·exact iK vs us o h2 j hj
theorem y9(hs:cB M cU H0 w0 n cx φ s a w){o:Oper}{g:FuncId}{all:List V}{vals:Array Value}(dq:iJ n o.dst)(fY:Enters P g->(execOp a.eval o).run P w= .ok (.enter g vals) w)(bH:V.aP (aA M φ s.H) φ s.H w all vals.toList)
 (h:cR P g all s.o s.nx (fun v o' nx'=>K ⟨bB s.env o.dst v,o',nx'⟩) (fun v o' nx'=>X v ⟨s.env,o',nx'⟩))
 (hN:∀s' aS a' w',K s'->cB M cU H0 w0 n cx aS s' a' w'->next a' w')
 (hQ:∀v s' aS w' val,X v s'->cB M cU H0 w0 n cx aS s' a w'->V.den (aA M aS s'.H) aS s'.H w' v val->Q (.panic [{v:=val,recovered:=false}]) a w'):o.uponIn (eK ro) k P a next Q ((execOp a.eval o).run P w):=by
 have dz:=h.2 M φ w vals hs.heap bH
 rw[fY h.1]
 refine⟨fun hd=>by simp[eK]at hd,dC (dz.mono fun e w' ⟨aS,o',nx',v,k1,k2,k3⟩=> ?_)⟩
 cases e with
 |returned val=>exact Te
 |panicked ch=>
  obtain⟨val,rfl,k4,k5⟩:=k3
  exact acT
 |outgrown=>exact k3.elim
theorem C7(hs:cB M cU H0 w0 n cx φ s a w){o:Oper}{g:FuncId}{all:List V}{vals:Array Value}(dq:iJ n o.dst)(fY:Enters P g->(execOp a.eval o).run P w= .ok (.enter g vals) w)(bH:V.aP (aA M φ s.H) φ s.H w all vals.toList)
 (h:vK P s g all (fun v o' nx'=>K ⟨bB s.env o.dst v,o',nx'⟩) (fun v o' nx'=>X v ⟨s.env,o',nx'⟩))
 (hN:∀s' aS a' w',K s'->cB M cU H0 w0 n cx aS s' a' w'->next a' w')
 (hQ:∀v s' aS w' val,X v s'->cB M cU H0 w0 n cx aS s' a w'->V.den (aA M aS s'.H) aS s'.H w' v val->Q (.panic [{v:=val,recovered:=false}]) a w'):o.uponIn (eK ro) k P a next Q ((execOp a.eval o).run P w):=by
 unfold vK at h
 obtain⟨f1,f2,f3,f4,f5⟩:=dH hs.heap (V.bK all) (dv all _ bH)
 have lN:s.H.put (dw s.H.o (V.bK all))=⟨put s.o (dw s.o (V.bK all)),s.H.us⟩:=l9 LR
 have nQ:=V.bg f2 _ _ bH
 rcases h with⟨ds,out,fT,hP,hK⟩|⟨ds,out,fT,hP,qH,hK⟩|⟨ds,out,fT,hP,hnm,hK⟩|hC|hC
 ·have yQ:=dT f1 all ds _ f3 fT nQ
  have hM:∀b,aA M φ (s.H.put (dw s.H.o (V.bK all))) b->b<w.heap.size:=fun b hb=>hb.elim (f1.B9 b) fun hl=>(f1.ours b hl).2
  have dz:=hP.2 _ w vals hM yQ
  rw[fY hP.1]
  refine⟨fun hd=>by simp[eK]at hd,dC (dz.mono fun e w' ⟨hk,ho⟩=> ?_)⟩
  obtain⟨k1,k2⟩:=iu f1 hk
  cases out with
  |ret rs=>
   cases e with
   |returned val=>
    refine hN _ _ _ _ hK (oQ hs k1 (f2.trans k2) (nA ho) dq (by rw[lN]) ?_)
    intro id hu;rw[lN]at hu;exact Nat.lt_succ_of_lt hu
   |panicked ch=>exact xM
   |outgrown=>exact xM
  |bW x=>
   cases e with
   |returned val=>exact ho.elim
   |panicked ch=>
    obtain⟨val,rfl,hd⟩:=ho
    have AZ:=fH hs k1 (f2.trans k2) (o':=put s.o (dw s.o (V.bK all))) (nx':=s.nx+1) (by rw[lN]) (fun id hu=>by rw[lN]at hu;exact Nat.lt_succ_of_lt hu)
    refine hQ _ _ _ _ val hK AZ ?_
    have e1:aA M φ (S.H ⟨s.env,put s.o (dw s.o (V.bK all)),s.nx+1⟩)=aA M φ (s.H.put (dw s.H.o (V.bK all))):=by rw[lN];rfl
    simp only[V.den]
    rw[e1];exact hd
   |outgrown=>exact ho.elim
 ·have yQ:=dT f1 all ds _ f3 fT nQ
  have hM:∀b,aA M φ (s.H.put (dw s.H.o (V.bK all))) b->b<w.heap.size:=fun b hb=>hb.elim (f1.B9 b) fun hl=>(f1.ours b hl).2
  have dz:=hP.2 _ w vals hM yQ
  rw[fY hP.1]
  refine⟨fun hd=>by simp[eK]at hd,dC (dz.mono fun e w' ⟨hk,ho⟩=> ?_)⟩
  obtain⟨k1,k2⟩:=iu hs.heap hk
  have ho:=R.A0 (B':=aA M φ s.H) qH ho
  cases out with
  |ret rs=>
   cases e with
   |returned val=>
    exact hN _ _ _ _ hK (oQ hs k1 k2 (nA ho) dq rfl fun id hu=>Nat.lt_succ_of_lt hu)
   |panicked ch=>exact xM
   |outgrown=>exact xM
  |bW x=>
   cases e with
   |returned val=>exact ho.elim
   |panicked ch=>
    obtain⟨val,rfl,hd⟩:=ho
    exact hQ _ _ _ _ val hK (fH hs k1 k2 (o':=s.o) (nx':=s.nx+1) rfl fun id hu=>Nat.lt_succ_of_lt hu) hd
   |outgrown=>exact ho.elim
 ·obtain⟨a1,a2,a3,a4,a5⟩:=dH hs.heap ((V.bK all).filter fun id=>(s.o id).l8) (fun id aG=>dv all _ bH id (List.mem_filter.1 aG).1)
  have C8:s.H.put (dw s.H.o ((V.bK all).filter fun id=>(s.o id).l8))=⟨put s.o (sG s.o (V.bK all)),s.H.us⟩:=by
   rw[Q4]
   exact l9 (by rw[uM];exact fun id aG=>dv all _ bH id (List.mem_filter.1 aG).1)
  have yQ:=dT f1 all ds _ f3 fT nQ
  have hM:∀b,aA M φ (s.H.put (dw s.H.o (V.bK all))) b->b<w.heap.size:=fun b hb=>hb.elim (f1.B9 b) fun hl=>(f1.ours b hl).2
  have dz:=hP.2 _ w vals hM yQ
  rw[fY hP.1]
  refine⟨fun hd=>by simp[eK]at hd,dC (dz.mono fun e w' ⟨hk,ho⟩=> ?_)⟩
  obtain⟨k1,k2⟩:=iu a1 hk
  have mz:∀b,qL w' b-> ¬aA M φ (s.H.put (dw s.H.o (V.bK all))) b-> ¬aA M φ (s.H.put (dw s.H.o ((V.bK all).filter fun id=>(s.o id).l8))) b:=by
   intro b hc hn hm
   rcases hm with hM|⟨id,hl,hb⟩
   ·exact hn (.inl hM)
   ·by_cases aG:id∈V.bK all
    ·cases hx:s.H.o id with
     |arr ep ty sz es=>
      rw[a3 id (List.mem_filter.2 ⟨aG,by show(s.H.o id).l8=true;rw[hx];rfl⟩),hx]at hl
      cases hl
     |map kt vt l=>
      have nu:id∉(V.bK all).filter fun id=>(s.o id).l8:=fun h=>by
       have h2:(s.H.o id).l8=true:=(List.mem_filter.1 h).2
       rw[hx]at h2;cases h2
      have bw:=k1.ok id
      unfold bf at bw
      rw[a4 id nu,hx]at bw
      obtain⟨b',es,clock,g1,g2,_⟩:=bw
      rw[g1]at hb
      injection hb with hb
      subst hb
      obtain⟨cs,ty,fz,hc⟩:=hc
      rw[g2]at hc
      cases hc
     |_=>
      have nu:id∉(V.bK all).filter fun id=>(s.o id).l8:=fun h=>by
       have h2:(s.H.o id).l8=true:=(List.mem_filter.1 h).2
       rw[hx]at h2;cases h2
      refine hn (.inr ⟨id, ?_,hb⟩)
      rw[a4 id nu,hx]at hl
      rw[f3 id aG,hx]
      exact hl
    ·have nu:id∉(V.bK all).filter fun id=>(s.o id).l8:=fun h=>aG (List.mem_filter.1 h).1
     refine hn (.inr ⟨id, ?_,hb⟩)
     rw[a4 id nu]at hl
     rw[f4 id aG]
     exact hl
  have ho:=R.M6 (w':=w') (B':=aA M φ (s.H.put (dw s.H.o ((V.bK all).filter fun id=>(s.o id).l8)))) mz hnm ho
  cases out with
  |ret rs=>
   cases e with
   |returned val=>
    refine hN _ _ _ _ hK (oQ hs k1 (a2.trans k2) (nA ho) dq (by rw[C8]) ?_)
    intro id hu;rw[C8]at hu;exact Nat.lt_succ_of_lt hu
   |panicked ch=>exact xM
   |outgrown=>exact xM
  |bW x=>
   cases e with
   |returned val=>exact ho.elim
   |panicked ch=>
    obtain⟨val,rfl,hd⟩:=ho
    have AZ:=fH hs k1 (a2.trans k2) (o':=put s.o (sG s.o (V.bK all))) (nx':=s.nx+1) (by rw[C8]) (fun id hu=>by rw[C8]at hu;exact Nat.lt_succ_of_lt hu)
    refine hQ _ _ _ _ val hK AZ ?_
    have e1:aA M φ (S.H ⟨s.env,put s.o (sG s.o (V.bK all)),s.nx+1⟩)=aA M φ (s.H.put (dw s.H.o ((V.bK all).filter fun id=>(s.o id).l8))):=by rw[C8];rfl
    simp only[V.den]
    rw[e1];exact hd
   |outgrown=>exact ho.elim
 ·exact y9 hs dq fY bH hC hN hQ
 ·obtain⟨f1,f2,f3,f4,f5⟩:=dH hs.heap (dI s.o all) (iK all _ s.o bH)
  have lN:s.H.put (dw s.H.o (dI s.o all))=hp (put s.o (dw s.o (dI s.o all))) s.nx:=l9 (by rw[uM];exact iK all _ s.o bH)
  have nQ:=M7 f1 all _ f3 (V.bg f2 _ _ bH)
  rw[lN]at f1 f2 nQ
  exact y9 (s:=⟨s.env,put s.o (dw s.o (dI s.o all)),s.nx⟩) (fH hs f1 f2 rfl fun id hu=>hu) dq fY nQ hC hN hQ
theorem Q5(hs:cB M cU H0 w0 n cx φ s a w){o:Oper}{c:Call}{f:Operand}(eJ:o.op= .call c)(hc:c.callee= .value f)(dq:iJ n o.dst)
 (h:C5 P s (s.ev f) (c.args.toList.map s.ev) (fun v o' nx'=>K ⟨bB s.env o.dst v,o',nx'⟩) (fun v o' nx'=>X v ⟨s.env,o',nx'⟩))
 (hN:∀s' aS a' w',K s'->cB M cU H0 w0 n cx aS s' a' w'->next a' w')
 (hQ:∀v s' aS w' val,X v s'->cB M cU H0 w0 n cx aS s' a w'->V.den (aA M aS s'.H) aS s'.H w' v val->Q (.panic [{v:=val,recovered:=false}]) a w'):o.wpIn (eK ro) k P a w next Q:=by
 refine lE (fun c' qC=>by rw[eJ]at qC;cases qC) ?_
 have hf:=nH (M:=M) (φ:=φ) (H:=s.H) (w:=w) s a hs.env f
 have eL:=lA (M:=M) (φ:=φ) (H:=s.H) (w:=w) s a hs.env c.args.toList
 unfold C5 at h
 split at h
 ·rename_i g first cap xN
  rw[xN]at hf
  obtain⟨fa,ca,Yd,E0,hca⟩:=hf
  have bH:V.aP (aA M φ s.H) φ s.H w (first++c.args.toList.map s.ev++cap) (fa++c.args.map a.eval++ca).toList:=by
   exact T0
  generalize first++c.args.toList.map s.ev++cap=all at h bH
  generalize qJ:fa++c.args.map a.eval++ca=vals at bH
  have fY:Enters P g->(execOp a.eval o).run P w= .ok (.enter g vals) w:=by
   intro he
   have:=ma (w:=w) he (fa++c.args.map a.eval++ca)
   rw[qJ]at this
   simp[execOp,eJ,resolve,hc,Yd,Deferred.ofValue,invoke,this,qJ]
  exact C7 hs dq fY bH h hN hQ
 ·rename_i id xN
  rw[xN]at hf
  obtain⟨_,gu,hp'⟩:=hf
  obtain⟨cz,hR⟩:=h
  obtain⟨b,fE,Yd⟩:=hp' cz
  obtain⟨fn,tmps,assign,body,h1,h2⟩:=hR M φ w (c.args.map a.eval) b hs.heap (by rw[Array.toList_map];exact eL) fE
  have fY:(execOp a.eval o).run P w= .ok (.round b fn tmps assign body) w:=by
   simp[execOp,eJ,resolve,hc,Yd,Deferred.ofValue,invoke,h1]
  rw[fY]
  refine⟨fun hd=>by simp[eK]at hd,RoundIn.mono (h2 (k - 1)) fun e w' ⟨aS,o',nx',v,k1,k2,k3⟩=> ?_⟩
  cases e with
  |returned val=>exact Te
  |panicked ch=>
   obtain⟨val,rfl,k4,k5⟩:=k3
   exact acT
  |outgrown=>exact k3.elim
 ·exact h.elim
theorem Jr(hs:cB M cU H0 w0 n cx φ s a w){o:Oper}{c:Call}{r:Operand}{m:String}{g:FuncId}{y:V}(eJ:o.op= .call c)(hc:c.callee= .invoke r m)(dq:iJ n o.dst)(hr:vL P m (s.ev r)=some (g,y))
 (h:vK P s g (y::c.args.toList.map s.ev) (fun v o' nx'=>K ⟨bB s.env o.dst v,o',nx'⟩) (fun v o' nx'=>X v ⟨s.env,o',nx'⟩))
 (hN:∀s' aS a' w',K s'->cB M cU H0 w0 n cx aS s' a' w'->next a' w')
 (hQ:∀v s' aS w' val,X v s'->cB M cU H0 w0 n cx aS s' a w'->V.den (aA M aS s'.H) aS s'.H w' v val->Q (.panic [{v:=val,recovered:=false}]) a w'):o.wpIn (eK ro) k P a w next Q:=by
 refine lE (fun c' qC=>by rw[eJ]at qC;cases qC) ?_
 have hf:=nH (M:=M) (φ:=φ) (H:=s.H) (w:=w) s a hs.env r
 have eL:=lA (M:=M) (φ:=φ) (H:=s.H) (w:=w) s a hs.env c.args.toList
 unfold vL at hr
 split at hr
 ·rename_i t d hx
  rw[hx]at hf
  obtain⟨val,hv,hd⟩:=hf
  split at hr
  ·rename_i ti hti
   split at hr
   ·rename_i mr uT
    split at hr
    ·rename_i f K8
     split at hr
     ·rename_i UG
      injection hr with hr
      injection hr with h1 h2
      subst h1;subst h2
      refine C7 (vals:=#[val]++c.args.map a.eval) hs dq ?_ ?_ h hN hQ
      ·intro he
       have fY:=ma (w:=w) he (#[val]++c.args.map a.eval)
       have hpa:mr.path=#[]:=Array.isEmpty_iff.1 UG.1
       have hu:∃u,P.underlying t=some u/\∀e,u≠ .pointer e:=by
        have:=UG.2
        unfold UF at this
        split at this
        ·cases this
        ·rename_i u il hu;exact⟨u,hu,fun e he=>il e he⟩
        ·cases this
       obtain⟨u,hu,UH⟩:=hu
       have hm:(method (P.types.size+Made.depth) t val m).run P w= .ok (f,val) w:=by
        have:P.types.size+Made.depth=(P.types.size+Made.depth - 1)+1:=by simp[Made.depth]
        rw[this]
        cases u<;>first|exact absurd rfl (UH _)|simp[method,typeInfo,hti,uT,hpa,K8,follow,receiverAt,run_underlying hu,_root_.Go.Place.get]
       have h0:(#[Value.iface t val]++Array.map a.eval c.args)[0]? =some (.iface t val):=by
        rw[Array.getElem?_append_left (by simp)];rfl
       have h1:(Array.map a.eval c.args).extract 0 c.args.size=Array.map a.eval c.args:=by
        rw[show c.args.size=(Array.map a.eval c.args).size from by simp,Array.extract_size]
       simp[execOp,eJ,resolve,hc,invoke,callMethod,hv,h0,h1,hm,fY]
      ·simp only[Array.toList_append,Array.toList_map]
       exact⟨val,_,rfl,hd,eL⟩
     ·cases hr
    ·cases hr
   ·cases hr
  ·cases hr
 ·cases hr
theorem za(hs:cB M cU H0 w0 n cx φ s a w){o:Oper}(h:opW P n s o X K)
 (hN:∀s' aS a' w',K s'->cB M cU H0 w0 n cx aS s' a' w'->next a' w')
 (hQ:∀v s' aS w' val,X v s'->cB M cU H0 w0 n cx aS s' a w'->V.den (aA M aS s'.H) aS s'.H w' v val->Q (.panic [{v:=val,recovered:=false}]) a w'):o.wpIn (eK ro) k P a w next Q:=by
 obtain⟨dq,h⟩:=h
 split at h
 ·rename_i c eJ
  split at h
  ·rename_i f hc
   exact Q5 hs eJ hc dq h hN hQ
  ·rename_i r m hc
   split at h
   ·rename_i g y hr;exact Jr hs eJ hc dq hr h hN hQ
   ·exact h.elim
  ·exact M5 hs rfl dq h hN
 ·rename_i x eJ
  have hx:=nH (M:=M) (φ:=φ) (H:=s.H) (w:=w) s a hs.env x
  have bW:∀ (t:TypeId) (u:Value),a.eval x= .iface t u->Q (.panic [{v:= .iface t u,recovered:=false}]) a w->o.wpIn (eK ro) k P a w next Q:=by
   intro t u hu hq
   refine lE (fun c hc=>by rw[eJ]at hc;cases hc) ?_
   have hr:(execOp a.eval o).run P w= .halt (.panic (.iface t u)) w:=by simp[execOp,eJ,hu,Instr.panic]
   rw[hr];exact hq
  split at h
  ·rename_i t y hv
   rw[hv]at hx
   obtain⟨u,hu,hd⟩:=hx
   exact Tg
  ·rename_i t y hv
   rw[hv]at hx
   obtain⟨u,hu,hd⟩:=hx
   exact Tg
  ·exact h.elim
 ·exact M5 hs rfl dq h hN
end
end
end Go.Proofs.YtonbelhklnmjnaaGreat
namespace Go
def Code.ux (P:Program)(ro:Option Nat)(c:Code)(Q:Exit->Act->World->Prop)(a:Act)(w:World):Prop:=
 ∀ (b:Frame) (k:List Item) (cs:List Frame),b.roundOf=ro->b.fn<P.funcs.size->
   ∃e a' w',Q e a' w'/\ArrivesIn (Machine.fenced P (Proofs.YtonbelhklnmjnaaGreat.eK ro)) P (lone (b.atR a (.code c::k)) cs w) b k cs e a' w'
end Go
namespace Go.Proofs.YtonbelhklnmjnaaGreat
instance:LawfulMonad Sem:=LawfulMonad.mk' Sem (id_map:=fun x=>Sem.bind_pure' x) (pure_bind:=fun _ _=>rfl) (bind_assoc:=fun x f g=>Sem.bind_assoc' x f g)
section
variable {P:Program}{M:Nat->Prop}{φ:Place}{H:Hp}{w w':World}{cU:Place}{H0:Hp}{w0:World}{n b:Nat}{s:S}{a:Act}{cx:Cx}{ro:Option Nat}{k:Nat}
theorem ri(hs:cB M cU H0 w0 n cx φ s a w){ops:Array Oper}{o:Oper}{A B:Prop}(h:AX s ops o.guard A B):
 (Region.wanted o (yielded ops a.tmps)=true->A)/\(Region.wanted o (yielded ops a.tmps)=false->B):=by
 unfold AX at h
 unfold Region.wanted
 split at h
 ·rename_i hg;simp only[hg];exact⟨fun _=>h,fun h=>by cases h⟩
 ·rename_i j want hg
  simp only[hg]
  unfold tD at h
  unfold yielded
  split at h
  ·rename_i d hd
   simp only[hd,Option.bind_some]
   have fh:=hs.env d
   split at h
   ·rename_i c hv
    rw[hv]at fh
    simp only[V.den,D.den]at fh
    have:a.tmps[d]? =some (.bool c):=by
     rw[Array.getD_eq_getD_getElem?]at fh
     cases hx:a.tmps[d]? with
     |none=>rw[hx]at fh;simp[undef]at fh
     |some x=>rw[hx]at fh;simp at fh;rw[fh]
    simp only[this]
    by_cases hc:c=want
    ·subst hc;exact⟨fun _=>h.1 rfl,fun h=>by simp at h⟩
    ·exact⟨fun h'=>absurd (by simpa using h') hc,fun _=>h.2 hc⟩
   ·rename_i hv
    rw[hv]at fh
    obtain⟨arr,dK,hn⟩:=fh
    simp only[V.aP]at hn
    have:∀c,a.tmps[d]? ≠some (.bool c):=by
     exact Ut
    cases hx:a.tmps[d]? with
    |none=>exact⟨fun h=>by simp at h,fun _=>h⟩
    |some x=>cases x<;>first|(exact absurd hx (this _))|(exact⟨fun h=>by simp at h,fun _=>h⟩)
   ·exact h.elim
  ·rename_i hd
   simp only[hd,Option.bind_none]
   exact⟨fun h=>by simp at h,fun _=>h⟩
theorem C9(hs:cB M cU H0 w0 n cx φ s a w){dst:Option Tmp}(dq:iJ n dst):cB M cU H0 w0 n cx φ ⟨bB s.env dst (.cn []),s.o,s.nx+1⟩ (a.put dst undef) w:=
 oQ (v:= .cn []) (val:=undef) hs hs.heap (Trans.refl _ _ _) ⟨#[],rfl,rfl⟩ dq rfl fun _ hu=>Nat.lt_succ_of_lt hu
theorem qb{ops:Array Oper}{X:V->S->Prop}{K:S->Prop}{Q:Exit->Act->World->Prop}
 (hK:∀s φ a w,K s->cB M cU H0 w0 n cx φ s a w->Q .normal a w)
 (hQ:∀v s' aS a w' val,X v s'->cB M cU H0 w0 n cx aS s' a w'->V.den (aA M aS s'.H) aS s'.H w' v val->Q (.panic [{v:=val,recovered:=false}]) a w'):
 ∀ (l:List Oper) (s:S) (φ:Place) (a:Act) (w:World),AY P n ops X K l s->cB M cU H0 w0 n cx φ s a w->wpListIn (eK ro) k P ops Q l a w
 |[],s,φ,a,w,h,hs=>hK s φ a w h hs
 |o::l,s,φ,a,w,h,hs=>by
  obtain⟨h1,h2⟩:=ri hs h
  unfold wpListIn
  split
  ·rename_i hw
   exact za hs (h1 hw) (fun s' aS a' w' hk jC=>qb hK hQ l s' aS a' w' hk jC) (fun v s' aS w' val hx jC hd=>hQ v s' aS a w' val hx jC hd)
  ·rename_i hw
   obtain⟨dq,h3⟩:=h2 (by simpa using hw)
   exact⟨fun _ _=>trivial,qb hK hQ l _ _ _ _ h3 (C9 hs dq)⟩
def Hs(M:Nat->Prop)(cU:Place)(H0:Hp)(w0:World)(n:Nat)(cx:Cx)(Q:gf->S->Prop)(e:Exit)(a:Act)(w:World):Prop:=
 ∃x s φ,Q x s/\cB M cU H0 w0 n cx φ s a w/\match e,x with
  | .normal, .normal=>True
  | .exit i, .exit j=>i=j
  | .ret, .ret=>True
  | .panic ch, .bW v=>∃val,ch=[{v:=val,recovered:=false}]/\V.den (aA M φ s.H) φ s.H w v val
  |_,_=>False
section
variable {Q:Exit->Act->World->Prop}
theorem iL{m:Nat}:(eK ro).room m:=fun d hd=>by simp[eK]at hd
theorem qc{c:Code}(h:c.wpIn (eK ro) k P Q a w):c.ux P ro Q a w:=fun b k cs uT _=>h b k cs uT trivial iL
theorem iM{c:Code}{Q':Exit->Act->World->Prop}(h:c.ux P ro Q a w)(hq:∀e a w,Q e a w->Q' e a w):c.ux P ro Q' a w:=
 fun b k cs uT hb=>let⟨e,a',w',q,r⟩:=h b k cs uT hb;⟨e,a',w',hq _ _ _ q,r⟩
theorem Ht(h:Q .ret a w):Code.ret.ux P ro Q a w:=qc (k:=0) (wpIn_ret h)
theorem Da{id:Nat}(h:Q (.exit id) a w):(Code.exit id).ux P ro Q a w:=qc (k:=0) (wpIn_exit h)
theorem A1{x y:Code}(h:x.ux P ro (Exit.then (y.ux P ro Q) Q) a w):(Code.seq x y).ux P ro Q a w:=by
 intro b k cs uT hb
 have h0:(lone (b.atR a (.code (.seq x y)::k)) cs w).fenced P (eK ro):=fenced_calm (n:=0) trivial iL rfl
 obtain⟨e,pq,kD,hq,dK⟩:=h b (.code y::k) cs uT hb
 cases e with
 |normal=>
  obtain⟨Ye,adB,sS,rj,lF⟩:=hq b k cs uT hb
  exact⟨Ye,adB,sS,rj, .of_steps (.head h0 stepR_seq dK) lF⟩
 |exit id=>exact Lv
 |goto l=>exact Lv
 |ret=>exact Lv
 |panic ch=>exact Lv
 |outgrown=>exact Lv
theorem rk{c:Operand}{x y:Code}{t:Bool}(hc:a.eval c= .bool t)(h:(if t then x else y).ux P ro Q a w):(Code.cond c x y).ux P ro Q a w:=
 fun b k cs uT hb=>let⟨e,a',w',q,r⟩:=h b k cs uT hb;⟨e,a',w',q, .of_steps (.one (fenced_calm (n:=0) trivial iL rfl) (stepR_cond hc)) r⟩
theorem Js{id:Nat}{c:Code}(h:c.ux P ro (Exit.inBlock id Q) a w):(Code.block id c).ux P ro Q a w:=by
 intro b k cs uT hb
 have h0:(lone (b.atR a (.code (.block id c)::k)) cs w).fenced P (eK ro):=fenced_calm (n:=0) trivial iL rfl
 obtain⟨e,pq,kD,hq,dK⟩:=h b (.inBlock id::k) cs uT hb
 cases e with
 |normal=>exact⟨.normal,pq,kD,hq, .head h0 stepR_block (StepsIn.trans dK (.one (fenced_calm (n:=0) trivial iL rfl) stepR_inBlock))⟩
 |exit E4=>
  by_cases aG:E4=id
  ·simp only[Exit.inBlock,aG,if_true]at hq
   exact⟨.normal,pq,kD,hq, .head h0 stepR_block (dK.1 k (by simp[exitTo,aG]))⟩
  ·simp only[Exit.inBlock,aG,if_false]at hq
   have this:(id==E4)=false:=by simp;exact fun h=>aG h.symm
   have hx:exitTo E4 (.inBlock id::k)=exitTo E4 k:=by simp[exitTo,this]
   exact⟨.exit E4,pq,kD,hq,fun k' hk=> .head h0 stepR_block (dK.1 k' yD),
    fun AV hk=>let⟨k₁,h1,h2⟩:=dK.2 AV yD;⟨k₁,h1, .head h0 stepR_block h2⟩⟩
 |goto l=>
  have hx:gotoIn l (.inBlock id::k)=gotoIn l k:=by simp[gotoIn]
  exact⟨_,pq,kD,hq,fun k' hk=> .head h0 stepR_block (dK.1 k' yD),
   fun AV hk=>let⟨k₁,h1,h2⟩:=dK.2 AV yD;⟨k₁,h1, .head h0 stepR_block h2⟩⟩
 |ret=>exact XA
 |panic ch=>exact XA
 |outgrown=>exact XA
theorem lx{b:Frame}{k:List Item}{cs:List Frame}{c:Code}:step P (lone (b.atR a (.code (.scope c)::k)) cs w)= .next (lone (b.atR a (.code c:: .inScope c::k)) cs w):=
 step_lone_go (by simp[stepG,stepG.exec,Frame.atR])
theorem xZ{b:Frame}{k:List Item}{cs:List Frame}{c:Code}:step P (lone (b.atR a (.inScope c::k)) cs w)= .next (lone (b.atR a k) cs w):=
 step_lone_go (by simp[stepG,stepG.exec,Frame.atR])
theorem zb{c:Code}(h:c.ux P ro Q a w)(hg:∀l a w, ¬Q (.goto l) a w):(Code.scope c).ux P ro Q a w:=by
 intro b k cs uT hb
 have h0:(lone (b.atR a (.code (.scope c)::k)) cs w).fenced P (eK ro):=fenced_calm (n:=0) trivial iL rfl
 obtain⟨e,pq,kD,hq,dK⟩:=h b (.inScope c::k) cs uT hb
 cases e with
 |normal=>exact⟨.normal,pq,kD,hq, .head h0 lx (StepsIn.trans dK (.one (fenced_calm (n:=0) trivial iL rfl) xZ))⟩
 |exit E4=>
  have hx:exitTo E4 (.inScope c::k)=exitTo E4 k:=by simp[exitTo]
  exact⟨.exit E4,pq,kD,hq,fun k' hk=> .head h0 lx (dK.1 k' yD),
   fun AV hk=>let⟨k₁,h1,h2⟩:=dK.2 AV yD;⟨k₁,h1, .head h0 lx h2⟩⟩
 |goto l=>exact(hg _ _ _ hq).elim
 |ret=>exact XB
 |panic ch=>exact XB
 |outgrown=>exact XB
def vN(P:Program)(l:Nat)(Q:Exit->Act->World->Prop)(a':Act):Ending->World->Prop
 | .returned _,FC=>∃jump uy,(Instr.endLoop l).run P FC= .ok jump uy/\(match jump with|none=>Q .normal a' uy|some c=>c.ux P none Q a' uy)
 | .panicked chain,FC=>Q (.panic chain) a' FC
 | .outgrown,_=>LetsOut Q
theorem x5{g:Operand}{ps:Array Tmp}{assign body:Code}
 (h:∀fn,fn<P.funcs.size->∃ (l:Nat) (mark:List Deferred) (kD:World) (d:Deferred) (zc:World) (f:FuncId) (args:Array Value) (sS:World),
  (Instr.enterLoop fn a.tmps ps assign body (eK none).round).run P w= .ok (l,mark) kD/\(resolve a.eval (rangeCall g l) 0).run P kD= .ok d zc/\
  (invoke d.target d.args).run P zc= .ok (.enter f args) sS/\CallsIn (eK none) 0 P f args sS (vN P l Q {a with defers:=mark++a.defers})):
 (Code.rangeFunc g ps assign body).ux P none Q a w:=by
 intro b k cs uT hb
 obtain⟨l,mark,kD,d,zc,f,args,sS,he,Db,hinv,hF,dz⟩:=h b.fn hb
 rw[show(eK none).round=b.roundOf from uT.symm]at he
 have calm:∀ (m:Machine),m.fenced P (eK none)↔m.fenced P Fence.wide:=fun m=>Iff.rfl
 have h0:(lone (b.atR a (.code (.rangeFunc g ps assign body)::k)) cs w).fenced P (eK none):=(calm _).2 (fenced_wide P _)
 have mK:=stepR_rangeFunc (P:=P) (b:=b) (a:=a) (k:=k) (cs:=cs) (w:=w) he Db hinv
 obtain⟨e,FC,fr,hR,FE,K8,M8⟩:=dz (b.atR {a with defers:=mark++a.defers} (.inRangeFunc l::k)::cs) iL
 cases e with
 |outgrown=>
  obtain⟨ahX,ahY,hq⟩:=hR
  exact⟨.outgrown,ahX,ahY,hq, .inr (Outgrown.of_steps (.one mK) FE)⟩
 |returned v=>
  obtain⟨jump,uy,db,hj⟩:=hR
  have UI:StepsIn (Machine.fenced P (eK none)) P (lone (b.atR a (.code (.rangeFunc g ps assign body)::k)) cs w) (lone (b.atR {a with defers:=mark++a.defers} ((jump.map Item.code).toList++k)) cs uy):=by
   refine .head h0 mK (StepsIn.trans FE (.head ((calm _).2 (fenced_wide P _)) ?_ (.one ((calm _).2 (fenced_wide P _)) (stepR_endRangeFunc db))))
   rw[<- finish_atR_inRangeFunc l v];exact step_leave_returned M8
  cases jump with
  |none=>exact⟨.normal,_,uy,hj,UI⟩
  |some c=>
   obtain⟨e',a'',ahZ,hq,dK⟩:=hj b k cs uT hb
   exact⟨e',a'',ahZ,hq, .of_steps UI dK⟩
 |panicked chain=>
  refine⟨.panic chain,_,FC,hR, .inRangeFunc l::k, .head h0 mK (StepsIn.trans FE (.one ((calm _).2 (fenced_wide P _)) ?_))⟩
  rw[<- Frame.raise_atR];exact step_leave_panicked M8
end
theorem zd(hH:aI M φ H w){id l:Nat}(gu:H.us id){nf m:Nat}{env:List V}{ps:List Nat}{jg fe:IC}{st st':LoopState}{pd pd':Option j9}(ho:H.o id= .loop nf m env ps jg fe st pd)(fE:φ id= .pointer (some ⟨l,0,none⟩)):
 ∃r,w.heap[l]? =some (.loop r)/\r.state=st/\r.pending=pd.map j9.code/\
  aI M φ (H.put [(id, .loop nf m env ps jg fe st' pd')]) {w with heap:=w.heap.setIfInBounds l (.loop {r with state:=st',pending:=pd'.map j9.code})}/\
  Trans φ H w φ (H.put [(id, .loop nf m env ps jg fe st' pd')]) {w with heap:=w.heap.setIfInBounds l (.loop {r with state:=st',pending:=pd'.map j9.code})}:=by
 have bw:=hH.ok id
 simp only[bf,ho]at bw
 obtain⟨b,r,h1,h2,h0,h3,h4,h5,h6,h7,h8,h9⟩:=bw
 rw[fE]at h1;simp at h1;subst h1
 refine⟨r,h2,h3,h4, ?_⟩
 have MV:fg (· =l) w {w with heap:=w.heap.setIfInBounds l (.loop {r with state:=st',pending:=pd'.map j9.code})}:=
  ⟨rfl,rfl,rfl,ao,fun j _ hj=>(MapKept.heap_set h2).2 j hj⟩
 have xG:(H.o id).live=true:=by rw[ho];rfl
 have E3:fk (φ id)=some l:=by rw[fE];rfl
 have ht:=fM (w:=w) (w':={w with heap:=w.heap.setIfInBounds l (.loop {r with state:=st',pending:=pd'.map j9.code})}) gu xG E3 MV (.loop nf m env ps jg fe st' pd') fD fD
 refine⟨jh hH gu xG E3 MV _ fD fD ?_,ht⟩
 unfold bf
 simp only[bY,aW,if_true]
 exact⟨l,_,fE,(MapKept.heap_set h2).1,h0,rfl,rfl,h5,h6,h7,h8,fun i=>V.bc ht _ _ (h9 i)⟩
theorem jQ{l:Nat}{r:Loop}(o:Obj)(hb:w.heap[l]? =some (.loop r)):(setObj l o).run P w= .ok () {w with heap:=w.heap.setIfInBounds l o}:=by
 simp[setObj,Sem.run,hb]
theorem lG{l:Nat}{r:Loop}(hb:w.heap[l]? =some (.loop r)):(Instr.getLoop l).run P w= .ok r w:=by
 simp[Instr.getLoop,getObj,Sem.run,hb,Result.andThen]
end
def qd(Q:gf->S->Prop)(pd:Option j9)(s:S):Prop:=
 match pd with
 |none=>Q .normal s
 |some .ret=>Q .ret s
 |some (.exit id)=>Q (.exit id) s
def Dc(P:Program)(n:Nat)(g:V)(ps:List Nat)(jg fe:IC)(Q:gf->S->Prop)(s:S):Prop:=
 ∃env,(∀i,br env i= .aa\/br env i=s.env i)/\
  match g with
  | .func (.func f) first cap=>pC P f (first++[.kq s.nx]++cap) (aM s.o s.nx (.loop P.funcs.size n env ps jg fe .ready none)) (s.nx+1)
    (fun _ o' nx'=>∃nf m e p c d st pd,o' s.nx= .loop nf m e p c d st pd/\st≠ .busy/\qd Q pd ⟨s.env,aM o' s.nx (.loop nf m e p c d .exhausted pd),nx'⟩)
    (fun v o' nx'=>Q (.bW v) ⟨s.env,o',nx'⟩)
  |_=>False
def adC(P:Program)(n b:Nat)(g:Operand)(ps:List Nat)(jg fe:IC)(Q:gf->S->Prop)(s:S):Prop:=∃s',(s'=s\/bM b s s')/\Dc P n (s'.ev g) ps jg fe Q s'
def j6(P:Program)(n b:Nat)(rd:Bool):Code->(gf->S->Prop)->S->Prop
 | .skip,Q,s=>Q .normal s
 | .label _,Q,s=>Q .normal s
 | .scope x,Q,s=>j6 P n b rd x Q s
 | .region _ ops false,Q,s=>AY P n ops (fun v s=>Q (.bW v) s) (Q .normal) ops.toList s
 | .region id ops true,Q,s=>∀M cU H0 w0 cx φ a w ro k,cB M cU H0 w0 n cx φ s a w->(Code.region id ops true).wpIn (eK ro) k P (Hs M cU H0 w0 n cx Q) a w
 | .seq x y,Q,s=>j6 P n b rd x (rh (j6 P n b rd y Q) Q) s
 | .cond c x y,Q,s=>match s.ev c with
   | .d (.bool t)=>(t=true->j6 P n b rd x Q s)/\(t=false->j6 P n b rd y Q s)
   | .fI=>j6 P n b rd x Q s/\j6 P n b rd y Q s
   |_=>False
 | .block id x,Q,s=>j6 P n b rd x (gA id Q) s
 | .loop x,Q,s=>∃ (J:Nat->S->Prop),(∃m s1,bM b s s1/\J m s1)/\∀m s0,J m s0->j6 P n b rd x (fun e s=>match e with| .normal=>∃m' s1,m'<m/\bM b s s1/\J m' s1|e=>Q e s) s0
 | .exit id,Q,s=>Q (.exit id) s
 | .ret,Q,s=>Q .ret s
 | .rangeFunc g ps x y,Q,s=>rd=false/\adC P n b g ps.toList (low n x) (low n y) Q s
 |_,_,_=>False
section
variable {P:Program}{M:Nat->Prop}{φ:Place}{H:Hp}{w w':World}{cU:Place}{H0:Hp}{w0:World}{n b:Nat}{s:S}{a:Act}{cx:Cx}{ro:Option Nat}{k:Nat}
theorem FF(hb:∀id,H0.us id->id<b)(hs:cB M cU H0 w0 n cx φ s a w){s':S}(h:bM b s s'):∃aS,cB M cU H0 w0 n cx aS s' a w:=by
 obtain⟨aS,h1,h2,h3,h4,h5,h6⟩:=h M φ w (fun i=>a.tmps.getD i undef) hs.heap hs.env
 refine⟨aS,h1,⟨hs.tr.keep,fun k hk=>hs.tr.grow k (h3 k hk),⟨fun id hu=>Nat.lt_of_lt_of_le (hb id hu) h4,fun id hu hr=> ?_,fun id e' hu he=> ?_⟩⟩,hs.size, ?_,h2⟩
 ·obtain⟨g1,g2⟩:=h5 id (hb id hu) hr
  obtain⟨g3,g4⟩:=hs.tr.rel.row id hu g1
  exact⟨g3,g2.trans g4⟩
 ·obtain⟨e,g1,g2,g3⟩:=h6 id e' (hb id hu) he
  obtain⟨e0,k1,k2,k3⟩:=hs.tr.rel.ep id e hu g1
  refine⟨e0,k1,Nat.le_trans k2 g2,fun heq=> ?_⟩
  have a1:e0=e:=af
  have a2:e=e':=af
  exact(g3 a2).trans (k3 a1)
 ·obtain⟨ms,g1,g2,g3,g4⟩:=hs.defers
  exact⟨ms,g1,g2,g3,fun r hr=>⟨(g4 r hr).1,(g4 r hr).2.1,fun hl=>(g4 r hr).2.2 (h3 r hl)⟩⟩
theorem A2{c:Code}{Q:Exit->Act->World->Prop}(J:Nat->Act->World->Prop)(round:∀m a w,J m a w->c.ux P ro (Exit.then (fun a' w'=>∃m',m'<m/\J m' a' w') Q) a w):
 ∀m a w,J m a w->(Code.loop c).ux P ro Q a w:=by
 intro m a w h0 fr kk cs uT hb
 have hr:(eK ro).room (cs.length+1+0):=fun d hd=>by simp[eK]at hd
 have key:∀m a w,J m a w->∃e a' w',Q e a' w'/\ArrivesIn (Machine.fenced P (eK ro)) P (lone (fr.atR a (.code c:: .inLoop c::kk)) cs w) fr kk cs e a' w':=by
  intro m
  induction m using Nat.strongRecOn with
  |_ m ih=>
   intro a w hJ
   obtain⟨e,a1,w1,hq,dK⟩:=round m a w hJ fr (.inLoop c::kk) cs uT hb
   cases e with
   |normal=>
    obtain⟨m',cD,hJ'⟩:=hq
    obtain⟨e2,a2,w2,hq2,Hu⟩:=ih m' cD a1 w1 hJ'
    exact⟨e2,a2,w2,hq2, .of_steps (StepsIn.trans dK (.one (fenced_calm trivial hr rfl) stepR_inLoop)) Hu⟩
   |_=>exact⟨_,a1,w1,hq, .pass (x:= .inLoop c) rfl (fun _ _=> .inl ao) dK⟩
 obtain⟨e,a',w',hq,dK⟩:=key m a w h0
 exact⟨e,a',w',hq, .of_steps (.one (fenced_calm trivial hr rfl) stepR_loop) dK⟩
theorem ze(hs:cB M cU H0 w0 n cx φ s a w)(pw:cx.rd=false)(uT:ro=none){g:Operand}{ps:Array Tmp}{x y:Code}{Q:gf->S->Prop}(h:Dc P n (s.ev g) ps.toList (low n x) (low n y) Q s):
 (Code.rangeFunc g ps x y).ux P ro (Hs M cU H0 w0 n cx Q) a w:=by
 subst uT
 obtain⟨env,fh,h⟩:=h
 refine x5 fun fn K8=> ?_
 let FG:Loop:={state:= .ready,pending:=none,fn:=fn,tmps:=a.tmps,params:=ps,assign:=x,body:=y,defers:=w.heap.size}
 let w1:World:=(w.alloc (.deferred (some []))).alloc (.loop FG)
 let l:Nat:=w.heap.size+1
 have mK:(Instr.enterLoop fn a.tmps ps x y (eK none).round).run P w= .ok (l,[mark w.heap.size]) w1:=by
  simp[Instr.enterLoop,eK,mark,w1,l,FG]
 have x6:fg (fun _=>False) w w1:=by
  have k1:=cV w (.deferred (some []))
  have k2:=cV (w.alloc (.deferred (some []))) (.loop FG)
  exact⟨k2.os.trans k1.os,k2.tape.trans k1.tape,k2.output.trans k1.output,Nat.le_trans k1.size k2.size,fun j hj hm=>(k2.block j (Nat.lt_of_lt_of_le hj k1.size) hm).trans (k1.block j hj hm)⟩
 let jN:=aM φ s.nx (.pointer (some ⟨l,0,none⟩))
 let s1:S:=⟨s.env,aM s.o s.nx (.loop P.funcs.size n env ps.toList (low n x) (low n y) .ready none),s.nx+1⟩
 have dF: ¬s.H.us s.nx:=by simp[S.H]
 have gG:∀b,fk (.pointer (some ⟨l,0,none⟩))=some b->w.heap.size<=b/\b<w1.heap.size:=by
  intro b hb;simp[fk]at hb;subst hb;simp[l,w1]
 have E2:=fm (φ:=φ) (H:=s.H) x6 dF (.loop P.funcs.size n env ps.toList (low n x) (low n y) .ready none) (.pointer (some ⟨l,0,none⟩)) fun b hb=>(gG b hb).1
 have Q1:(w.alloc (.deferred (some []))).heap.size=w.heap.size+1:=ao
 have xG:w1.heap[l]? =some (.loop FG):=by
  have:=heap_alloc_new (w.alloc (.deferred (some []))) (.loop FG)
  rwa [Q1]at this
 have I1:=jG hs.heap x6 dF (.loop P.funcs.size n env ps.toList (low n x) (low n y) .ready none) (.pointer (some ⟨l,0,none⟩)) gG (by
  unfold bf
  simp only[bY,aW,if_true]
  refine⟨l,FG,rfl,xG,K8,rfl,rfl,rfl,hs.size,rfl,rfl,fun i=> ?_⟩
  rcases fh i with e|e
  ·rw[e];trivial
  ·rw[e];exact V.bc E2 _ _ (hs.env i))
 have zf:cB M cU H0 w0 n cx jN s1 {a with defers:=mark w.heap.size::a.defers} w1:=by
  have base:=fH hs I1 E2 (o':=aM s.o s.nx (.loop P.funcs.size n env ps.toList (low n x) (low n y) .ready none)) (nx':=s.nx+1) rfl (M4 fun id aG=>by simp at aG;exact .inr aG)
  refine⟨base.heap,base.tr,base.size, ?_,base.env⟩
  obtain⟨ms,g1,g2,g3,g4⟩:=base.defers
  obtain⟨ms',q1,q2,q3,q4⟩:=hs.defers
  have hmm:ms.map mark=ms'.map mark:=by
   have:ms.map mark++cx.base=ms'.map mark++cx.base:=g1.symm.trans q1
   exact List.append_cancel_right this
  have Yf:ms=ms':=by
   have hm:∀a b,mark a=mark b->a=b:=fun a b h=>by simpa[mark]using h
   exact List.map_inj_right hm |>.1 hmm
  refine⟨w.heap.size::ms,by rw[g1];rfl,List.nodup_cons.2 ⟨fun hm=> ?_,g2⟩,(fun h=>by rw[pw]at h;cases h),fun r hr=> ?_⟩
  ·have:=(q4 w.heap.size (Yf ▸ hm)).2.1
   rw[Array.getElem?_eq_none (Nat.le_refl _)]at this;cases this
  ·rcases List.mem_cons.1 hr with rfl|hr
   ·refine⟨hs.tr.keep.size,(RowKit.Below.heap_alloc (w.alloc (.deferred (some []))) (.loop FG) w.heap.size (by rw[Q1];omega)).trans (heap_alloc_new w _), ?_⟩
    rintro⟨id,i1,i2⟩
    by_cases e:id=s.nx
    ·subst e;simp[jN,fk,l]at i2
    ·have i1':(s.H.o id).live=true:=by simpa[s1,S.H,e]using i1
     have i2':fk (φ id)=some w.heap.size:=by simpa[jN,e]using i2
     have:=(hs.heap.ours _ ⟨id,i1',i2'⟩).2
     omega
   ·exact g4 r hr
 have ah0:V.den (aA M jN s1.H) jN s1.H w1 (.kq s.nx) (.func (.yield l) #[] #[]):=
  ⟨rfl,by simp[s1,S.H],fun _=>⟨l,by simp[jN],rfl⟩⟩
 have hg:=nH (M:=M) (φ:=jN) (H:=s1.H) (w:=w1) s1 {a with defers:=mark w.heap.size::a.defers} zf.env g
 have ah1:s1.ev g=s.ev g:=by cases g<;>rfl
 rw[ah1]at hg
 have hae:({a with defers:=mark w.heap.size::a.defers}:Act).eval g=a.eval g:=rfl
 rw[hae]at hg
 split at h
 ·rename_i f first cap hgv
  rw[hgv]at hg
  obtain⟨fa,ca,Yd,E0,hca⟩:=hg
  have fin:∀ (all:List V) (o2:Nat->ab) (s2:S),s2=⟨s.env,o2,s.nx+1⟩->cB M cU H0 w0 n cx jN s2 {a with defers:=mark w.heap.size::a.defers} w1->V.aP (aA M jN s2.H) jN s2.H w1 all (fa++#[Value.func (.yield l) #[] #[]]++ca).toList->(o2 s.nx).cK=true->
   cR P f all o2 (s.nx+1) (fun _ o' nx'=>∃nf m e p c d st pd,o' s.nx= .loop nf m e p c d st pd/\st≠ .busy/\qd Q pd ⟨s.env,aM o' s.nx (.loop nf m e p c d .exhausted pd),nx'⟩) (fun v o' nx'=>Q (.bW v) ⟨s.env,o',nx'⟩)->
   ∃ (l:Nat) (mark:List Deferred) (kD:World) (d:Deferred) (zc:World) (f:FuncId) (args:Array Value) (sS:World),
     (Instr.enterLoop fn a.tmps ps x y (eK none).round).run P w= .ok (l,mark) kD/\(resolve a.eval (rangeCall g l) 0).run P kD= .ok d zc/\
     (invoke d.target d.args).run P zc= .ok (.enter f args) sS/\CallsIn (eK none) 0 P f args sS (vN P l (Hs M cU H0 w0 n cx Q) {a with defers:=mark++a.defers}):=by
   intro all o2 s2 ah2 Qe bH cz hC
   subst ah2
   have dz:=hC.2 M jN w1 _ Qe.heap bH
   refine⟨l,[mark w.heap.size],w1,{target:= .fn (.func f) ca,args:=fa++#[Value.func (.yield l) #[] #[]]},w1,f,fa++#[Value.func (.yield l) #[] #[]]++ca,w1,mK, ?_, ?_,dC (dz.mono fun e w' ⟨aS,o',nx',v,k1,k2,k3⟩=> ?_)⟩
   ·simp only[resolve,Yd,Deferred.ofValue,List.map_toArray,List.map_cons,List.map_nil,Sem.run_pure]
    rfl
   ·simp[invoke,ma hC.1]
   ·cases e with
    |returned val=>
     obtain⟨k4,nf,m,e,p,c,d,st,pd,k5,k6,k7⟩:=k3
     have Hv:cB M cU H0 w0 n cx aS ⟨s.env,o',nx'⟩ {a with defers:=mark w.heap.size::a.defers} w':=fH Qe k1 k2 rfl fun id hu=>hu
     have Yg:aS s.nx= .pointer (some ⟨l,0,none⟩):=by
      have:=(k2.rel.row s.nx (show s.nx<s.nx+1 from af) (by show(o' s.nx).cK=true;rw[k5];rfl)).2
      rw[this];simp[jN]
     have cD:s.nx<nx':=k2.rel.us s.nx (show s.nx<s.nx+1 from af)
     obtain⟨r,r1,r2,r3,r4,r5⟩:=zd (st':= .exhausted) (pd':=pd) k1 cD (show(hp o' nx').o s.nx=_ from k5) Yg
     have db:(Instr.endLoop l).run P w'= .ok (pd.map j9.code) {w' with heap:=w'.heap.setIfInBounds l (.loop {r with state:= .exhausted,pending:=pd.map j9.code})}:=by
      have e1:({r with state:= .exhausted}:Loop)={r with state:= .exhausted,pending:=pd.map j9.code}:=by rw[<- r3]
      have hnb:(r.state==LoopState.busy)=false:=by rw[r2];cases st<;>first|rfl|exact absurd rfl k6
      simp only[Instr.endLoop,Sem.run_bind,lG r1,Result.andThen_ok,hnb,Bool.false_eq_true,if_false,Sem.run_pure]
      rw[jQ _ r1,e1]
      simp[r3]
     have hs4:=fH Hv r4 r5 (o':=aM o' s.nx (.loop nf m e p c d .exhausted pd)) (nx':=nx') rfl fun id hu=>by
      simp only[eT]at hu
      rcases hu with hu|hu
      ·exact hu
      ·subst hu;exact cD
     refine⟨pd.map j9.code,_,db, ?_⟩
     cases pd with
     |none=>exact⟨.normal,_,_,k7,hs4,trivial⟩
     |some j=>
      cases j with
      |ret=>exact Ht ⟨.ret,_,_,k7,hs4,trivial⟩
      |exit id=>exact Da ⟨.exit id,_,_,k7,hs4,rfl⟩
    |panicked ch=>
     obtain⟨val,rfl,k4,k5⟩:=k3
     have Hv:cB M cU H0 w0 n cx aS ⟨s.env,o',nx'⟩ {a with defers:=mark w.heap.size::a.defers} w':=fH Qe k1 k2 rfl fun id hu=>hu
     exact⟨.bW v,_,_,k5,Hv,val,rfl,k4⟩
    |outgrown=>exact k3.elim
  have nQ:V.aP (aA M jN s1.H) jN s1.H w1 (first++[V.kq s.nx]++cap) (fa++#[Value.func (.yield l) #[] #[]]++ca).toList:=by
   rw[Array.toList_append,Array.toList_append]
   exact V.qI E0 ⟨_,[],rfl,ah0,rfl⟩ hca
  rcases h with hC|hC
  ·exact fin _ _ s1 rfl zf nQ (by simp;rfl) hC
  ·have qA:s1.o=aM s.o s.nx (.loop P.funcs.size n env ps.toList (low n x) (low n y) .ready none):=rfl
   obtain⟨f1,f2,f3,f4,f5⟩:=dH zf.heap (dI s1.o (first++[V.kq s.nx]++cap)) (iK _ _ s1.o nQ)
   have lN:s1.H.put (dw s1.H.o (dI s1.o (first++[V.kq s.nx]++cap)))=hp (put s1.o (dw s1.o (dI s1.o (first++[V.kq s.nx]++cap)))) s1.nx:=l9 (by rw[uM];exact iK _ _ s1.o nQ)
   have UJ:=M7 f1 _ _ f3 (V.bg f2 _ _ nQ)
   have UK:((s1.H.put (dw s1.H.o (dI s1.o (first++[V.kq s.nx]++cap)))).o s.nx).cK=true:=by
    by_cases hm:s.nx∈dI s1.o (first++[V.kq s.nx]++cap)
    ·rw[f3 _ hm];simp[s1,S.H,ab.fz,ab.cK]
    ·rw[f4 _ hm];simp[s1,S.H,ab.cK]
   rw[lN]at f1 f2 UJ UK
   exact fin _ (put s1.o (dw s1.o (dI s1.o (first++[V.kq s.nx]++cap)))) ⟨s.env,_,s.nx+1⟩ rfl (fH zf f1 f2 rfl fun id hu=>hu) UJ UK hC
 ·exact h.elim
end
end Go.Proofs.YtonbelhklnmjnaaGreat
