/-
  A PART OF THE PROOF. Conditions: none.
-/
import Derived.RangeFuncLeaves
import Derived.TacticsIn
import Derived.RecoverIn
import Derived.Test.YtlhemmpklhhgoaaGreatQn5
set_option linter.unusedSimpArgs false
set_option linter.unusedVariables false
namespace Go.Proofs.YtlhemmpklhhgoaaGreat
inductive R where
 |ret (ds:List D)|bN (d:D)
def R.is (B:Nat->Prop)(w:World):R->Ending->Prop
 | .ret [x], .returned v=>D.den B w x v
 | .ret ds, .returned v=>∃a,v= .tuple a/\D.aF B w ds a.toList
 | .bN d, .panicked chain=>∃v,chain=[{v:=v,recovered:=false}]/\D.den B w d v
 |_,_=>False
def Enters(P:Program)(f:FuncId):Prop:=∃fn,P.funcs[f]? =some fn/\(fn.name== "runtime.NumGoroutine")=false/\fn.body.isNone=false
def aX(P:Program)(f:FuncId)(ds:List D)(out:R):Prop:=
 Enters P f/\∀ (M:Nat->Prop) (w:World) (vals:Array Value),(∀b,M b->b<w.heap.size)->D.aF M w ds vals.toList->
  Calls P f vals w fun e w'=>eC (fun _=>False) w w'/\out.is M w' e
def hp(o:Nat->ab)(nx:Nat):Hp:=⟨o,fun id=>id<nx⟩
def nF(M:Nat->Prop)(φ:Place)(H:Hp)(w:World)(K X:V->(Nat->ab)->Nat->Prop)(e:Ending)(w':World):Prop:=
 ∃aJ o' nx' v,az M aJ (hp o' nx') w'/\Trans φ H w aJ (hp o' nx') w'/\match e with
  | .returned val=>V.den (aq M aJ (hp o' nx')) aJ (hp o' nx') w' v val/\K v o' nx'
  | .panicked ch=>∃val,ch=[{v:=val,recovered:=false}]/\V.den (aq M aJ (hp o' nx')) aJ (hp o' nx') w' v val/\X v o' nx'
  | .outgrown=>False
def bQ(P:Program)(f:FuncId)(args:List V)(o:Nat->ab)(nx:Nat)(K X:V->(Nat->ab)->Nat->Prop):Prop:=
 Enters P f/\∀ (M:Nat->Prop) (φ:Place) (w:World) (vals:Array Value),az M φ (hp o nx) w->V.aF (aq M φ (hp o nx)) φ (hp o nx) w args vals.toList->
  Calls P f vals w (nF M φ (hp o nx) w K X)
def dQ(P:Program)(id:Nat)(args:List V)(o:Nat->ab)(nx:Nat)(K X:V->(Nat->ab)->Nat->Prop):Prop:=
 (o id).cA=true/\∀ (M:Nat->Prop) (φ:Place) (w:World) (vals:Array Value) (b:Nat),az M φ (hp o nx) w->V.aF (aq M φ (hp o nx)) φ (hp o nx) w args vals.toList->φ id= .pointer (some ⟨b,0,none⟩)->
  ∃f tmps assign body,(Instr.yield b vals).run P w= .ok (.round b f tmps assign body) w/\∀n,RoundIn Fence.wide n P b f tmps assign body w (nF M φ (hp o nx) w K X)
theorem nF.mono {M:Nat->Prop}{φ:Place}{H:Hp}{w:World}{K X K' X':V->(Nat->ab)->Nat->Prop}(hK:∀v o n,K v o n->K' v o n)(hX:∀v o n,X v o n->X' v o n){e:Ending}{w':World}(h:nF M φ H w K X e w'):nF M φ H w K' X' e w':=by
 obtain⟨aJ,o',nx',v,h1,h2,h3⟩:=h
 refine⟨aJ,o',nx',v,h1,h2, ?_⟩
 cases e with
 |returned val=>exact⟨h3.1,hK _ _ _ h3.2⟩
 |panicked ch=>obtain⟨val,a,b,c⟩:=h3;exact⟨val,a,b,hX _ _ _ c⟩
 |outgrown=>exact h3
theorem bQ.mono {P:Program}{f:FuncId}{args:List V}{o:Nat->ab}{nx:Nat}{K X K' X':V->(Nat->ab)->Nat->Prop}(hK:∀v o n,K v o n->K' v o n)(hX:∀v o n,X v o n->X' v o n)(h:bQ P f args o nx K X):bQ P f args o nx K' X':=
 ⟨h.1,fun M φ w vals h1 h2=>(h.2 M φ w vals h1 h2).mono fun _ _ h=>h.mono hK hX⟩
theorem dQ.mono {P:Program}{id:Nat}{args:List V}{o:Nat->ab}{nx:Nat}{K X K' X':V->(Nat->ab)->Nat->Prop}(hK:∀v o n,K v o n->K' v o n)(hX:∀v o n,X v o n->X' v o n)(h:dQ P id args o nx K X):dQ P id args o nx K' X':=
 ⟨h.1,fun M φ w vals b h1 h2 h3=>let⟨f,t,a,c,h4,h5⟩:=h.2 M φ w vals b h1 h2 h3;⟨f,t,a,c,h4,fun n=>(h5 n).mono fun _ _ h=>h.mono hK hX⟩⟩
mutual
def D.flat:D->Bool
 | .sl _| .mp _ _=>false
 | .agg cs=>D.j7 cs
 | .iface _ x=>x.flat
 |_=>true
def D.j7:List D->Bool
 |[]=>true
 |x::xs=>x.flat&&D.j7 xs
end
mutual
theorem D.ra {B B':Nat->Prop}{w w':World}:∀ (x:D) (v:Value),x.flat=true->D.den B w x v->D.den B' w' x v
 | .int _ _,_,_,h| .bool _,_,_,h| .str _,_,_,h| .fg,_,_,h| .lP,_,_,h| .cF,_,_,h| .dL,_,_,h=>h
 | .agg cs,_,hf,h=>by obtain⟨a,rfl,h,h2⟩:=h;exact⟨a,rfl,D.mA cs _ hf h,h2⟩
 | .sl es,_,hf,h=>by simp[D.flat]at hf
 | .mp _ _,_,hf,h=>by simp[D.flat]at hf
 | .iface t x,_,hf,h=>by obtain⟨u,rfl,h⟩:=h;exact⟨u,rfl,D.ra x u hf h⟩
theorem D.mA {B B':Nat->Prop}{w w':World}:∀ (xs:List D) (vs:List Value),D.j7 xs=true->D.aF B w xs vs->D.aF B' w' xs vs
 |[],_,_,h=>h
 |x::xs,_,hf,h=>by
  obtain⟨u,us,rfl,h1,h2⟩:=h
  simp only[D.j7,Bool.and_eq_true]at hf
  exact⟨u,us,rfl,D.ra x u hf.1 h1,D.mA xs us hf.2 h2⟩
end
mutual
def D.nG:D->Bool
 | .mp _ _=>false
 | .agg cs=>D.mC cs
 | .sl es=>D.mC es
 | .iface _ x=>x.nG
 |_=>true
def D.mC:List D->Bool
 |[]=>true
 |x::xs=>x.nG&&D.mC xs
end
theorem gW.Cg {B B':Nat->Prop}{w w':World}{a:Addr}{cs:Array Value}
 (hb:∀b,qM w b-> ¬B b->w'.heap[b]? =w.heap[b]? /\ ¬B' b) (h:gW B w a cs):gW B' w' a cs:=by
 intro j u hj
 obtain⟨h1,h2⟩:=h j u hj
 have cu:qM w a.block:=by simpa using pG h1
 exact abu
mutual
theorem D.lU {B B':Nat->Prop}{w w':World}(hb:∀b,qM w b-> ¬B b->w'.heap[b]? =w.heap[b]? /\ ¬B' b):
 ∀ (x:D) (v:Value),x.nG=true->D.den B w x v->D.den B' w' x v
 | .int _ _,_,_,h| .bool _,_,_,h| .str _,_,_,h| .fg,_,_,h| .lP,_,_,h| .cF,_,_,h| .dL,_,_,h=>by simpa[D.den]using h
 | .agg cs,_,hn,h=>by
   obtain⟨a,rfl,h,hf⟩:=h
   exact⟨a,rfl,D.nH hb cs _ hn h,hf⟩
 | .sl es,_,hn,h=>by
   obtain⟨base,len,cap,rfl,h1,h2,h3,sz,h4⟩:=h
   exact⟨base,len,cap,rfl,h1,h2,h3,sz,fun a ha=>⟨(h4 a ha).1,D.rb hb sz a es 0 hn (h4 a ha).2⟩⟩
 | .iface t d,_,hn,h=>by
   obtain⟨u,rfl,h⟩:=h
   exact⟨u,rfl,D.lU hb d u hn h⟩
 | .mp _ _,_,hn,_=>by simp[D.nG]at hn
theorem D.nH {B B':Nat->Prop}{w w':World}(hb:∀b,qM w b-> ¬B b->w'.heap[b]? =w.heap[b]? /\ ¬B' b):
 ∀ (ds:List D) (vs:List Value),D.mC ds=true->D.aF B w ds vs->D.aF B' w' ds vs
 |[],_,_,h=>h
 |d::ds,_,hn,h=>by
  obtain⟨u,us,rfl,h1,h2⟩:=h
  simp only[D.mC,Bool.and_eq_true]at hn
  exact⟨u,us,rfl,D.lU hb d u hn.1 h1,D.nH hb ds us hn.2 h2⟩
theorem D.rb {B B':Nat->Prop}{w w':World}(hb:∀b,qM w b-> ¬B b->w'.heap[b]? =w.heap[b]? /\ ¬B' b)(sz:Nat)(a:Addr):
 ∀ (es:List D) (i:Nat),D.mC es=true->D.elems B w sz a i es->D.elems B' w' sz a i es
 |[],_,_,_=>trivial
 |e::es,i,hn,h=>by
  obtain⟨⟨ev,h1,h2,h3⟩,h4⟩:=h
  simp only[D.mC,Bool.and_eq_true]at hn
  exact⟨⟨ev,h1,h2.Cg hb,D.lU hb e ev hn.1 h3⟩,D.rb hb sz a es (i+1) hn.2 h4⟩
end
def R.nG:R->Bool
 | .ret ds=>D.mC ds
 | .bN d=>d.nG
def R.flat:R->Bool
 | .ret ds=>D.j7 ds
 | .bN d=>d.flat
def jq:List D->V
 |[x]=> .d x
 |ds=> .bW (ds.map .d)
inductive fS where
 |normal|exit (id:Nat)|ret|bN (v:V)
def ba(env:Nat->V)(dst:Option Tmp)(v:V):Nat->V:=
 match dst with
 |some d=>ay env d v
 |none=>env
def Mf(o:Nat->ab)(v:V):V:=match dM o v with|some x=> .d x|none=>v
def du(o:Nat->ab):List V->List Nat
 |[]=>[]
 |v::vs=>(match dM o v with|some _=>v.ids|none=>[])++du o vs
def pD(P:Program)(g:FuncId)(args:List V)(o:Nat->ab)(nx:Nat)(K X:V->(Nat->ab)->Nat->Prop):Prop:=
 bQ P g args o nx K X\/bQ P g (args.map (Mf o)) (put o (bG o (du o args))) nx K X
def vO(P:Program)(s:S)(g:FuncId)(all:List V)(K:V->(Nat->ab)->Nat->Prop)(X:V->(Nat->ab)->Nat->Prop):Prop:=
    (∃ds out,cn s.o all=some ds/\aX P g ds out/\(match out with
     | .ret rs=>K (jq rs) (put s.o (bG s.o (V.bg all))) (s.nx+1)
     | .bN x=>X (.d x) (put s.o (bG s.o (V.bg all))) (s.nx+1)))\/
    (∃ds out,cn s.o all=some ds/\aX P g ds out/\out.flat=true/\(match out with
     | .ret rs=>K (jq rs) s.o (s.nx+1)
     | .bN x=>X (.d x) s.o (s.nx+1)))\/
    (∃ds out,cn s.o all=some ds/\aX P g ds out/\out.nG=true/\(match out with
     | .ret rs=>K (jq rs) (put s.o (sF s.o (V.bg all))) (s.nx+1)
     | .bN x=>X (.d x) (put s.o (sF s.o (V.bg all))) (s.nx+1)))\/
    pD P g all s.o s.nx K X
def CD(P:Program)(s:S)(f:V)(args:List V)(K:V->(Nat->ab)->Nat->Prop)(X:V->(Nat->ab)->Nat->Prop):Prop:=
 match f with
 | .func (.func g) first cap=>vO P s g (first++args++cap) K X
 | .kM id=>dQ P id args s.o s.nx K X
 |_=>False
def To(P:Program)(t:TypeId):Bool:=
 match P.underlying t with
 |some (.pointer _)=>false
 |some _=>true
 |none=>false
def vP(P:Program)(m:String)(x:V):Option (FuncId×V):=
 match x with
 | .d (.iface t y)=>match P.info? t with
   |some ti=>match ti.methods.find? (·.name==m)with
    |some r=>match r.func with
     |some (f,false)=>if r.path.isEmpty=true/\To P t=true then some (f, .d y)else none
     |_=>none
    |none=>none
   |none=>none
 |_=>none
def gX(n:Nat):Option Tmp->Prop
 |some d=>d<n
 |none=>True
def opW(P:Program)(n:Nat)(s:S)(o:Oper)(X:V->S->Prop)(K:S->Prop):Prop:=
 gX n o.dst/\match o.op with
 | .call c=>match c.callee with
   | .value f=>CD P s (s.ev f) (c.args.toList.map s.ev) (fun v o' nx'=>K ⟨ba s.env o.dst v,o',nx'⟩) (fun v o' nx'=>X v ⟨s.env,o',nx'⟩)
   | .invoke r m=>match vP P m (s.ev r)with
     |some (g,y)=>vO P s g (y::c.args.toList.map s.ev) (fun v o' nx'=>K ⟨ba s.env o.dst v,o',nx'⟩) (fun v o' nx'=>X v ⟨s.env,o',nx'⟩)
     |none=>False
   |_=>Te P s s.nx o.op fun v Δ _=>K ⟨ba s.env o.dst v,put s.o Δ,s.nx+1⟩
 | .panic x=>match s.ev x with
   | .d (.iface t y)=>X (.d (.iface t y)) s
   | .iface t y=>X (.iface t y) s
   |_=>False
 |op=>Te P s s.nx op fun v Δ _=>K ⟨ba s.env o.dst v,put s.o Δ,s.nx+1⟩
def AB(s:S)(ops:Array Oper)(g:Option (Nat×Bool))(A B:Prop):Prop:=
 match g with
 |none=>A
 |some (j,want)=>match tH ops j with
  |some d=>match s.env d with
   | .d (.bool b)=>(b=want->A)/\(b≠want->B)
   | .bW []=>B
   |_=>False
  |none=>B
def AD(P:Program)(n:Nat)(ops:Array Oper)(X:V->S->Prop)(K:S->Prop):List Oper->S->Prop
 |[],s=>K s
 |o::l,s=>AB s ops o.guard (opW P n s o X (AD P n ops X K l)) (gX n o.dst/\AD P n ops X K l ⟨ba s.env o.dst (.bW []),s.o,s.nx+1⟩)
def bO(b:Nat)(s s':S):Prop:=
 ∀ (M:Nat->Prop) (φ:Place) (w:World) (tm:Nat->Value),az M φ s.H w->(∀i,V.den (aq M φ s.H) φ s.H w (s.env i) (tm i))->
   ∃aJ,az M aJ s'.H w/\(∀i,V.den (aq M aJ s'.H) aJ s'.H w (s'.env i) (tm i))/\(∀k,cL aJ s'.H k->cL φ s.H k)/\b<=s'.nx/\
    (∀id,id<b->(s'.o id).cA=true->(s.o id).cA=true/\aJ id=φ id)/\
    (∀id e',id<b->(s'.o id).cz=some e'->∃e,(s.o id).cz=some e/\e<=e'/\(e=e'->aJ id=φ id))
def re(K:S->Prop)(Q:fS->S->Prop)(e:fS)(s:S):Prop:=match e with| .normal=>K s|e=>Q e s
def fU(id:Nat)(Q:fS->S->Prop)(e:fS)(s:S):Prop:=match e with| .exit j=>if j=id then Q .normal s else Q (.exit j) s|e=>Q e s
def mD(P:Program)(s:S):List ResultVar->Option (List V)
 |[]=>some []
 | .tmp t::rs=>(mD P s rs).map (s.env t::·)
 | .cell a t::rs=>match s.env a with
   | .ptr id off=>match s.o id with
     | .row cs=>(fh P t cs off).bind fun v=>(mD P s rs).map (v::·)
     |_=>none
   |_=>none
def cB(vs:List V):Nat->V:=fun i=>vs.getD i (.bW [])
def AE(P:Program)(rs:List ResultVar)(out:R)(e:fS)(s:S):Prop:=
 match e with
 | .normal| .ret=>match mD P s rs with
   |some vs=>match cn s.o vs with
    |some ds=>out= .ret ds
    |none=>False
   |none=>False
 | .bN v=>match dM s.o v with
   |some x=>out= .bN x
   |none=>False
 | .exit _=>False
theorem Mg{P:Program}{rs:List ResultVar}{out:R}{s:S}(h:match mD P s rs with
 |some vs=>match cn s.o vs with
  |some ds=>out= .ret ds
  |none=>False
 |none=>False):∃vs ds,mD P s rs=some vs/\cn s.o vs=some ds/\out= .ret ds:=by
 split at h
 ·rename_i vs h1
  split at h
  ·rename_i xs h2;exact⟨vs,xs,h1,h2,h⟩
  ·exact h.elim
 ·exact h.elim
theorem Mh{out:R}{s:S}{v:V}(h:match dM s.o v with
 |some x=>out= .bN x
 |none=>False):∃x,dM s.o v=some x/\out= .bN x:=by
 split at h
 ·rename_i x h1;exact⟨x,h1,h⟩
 ·exact h.elim
section
section
variable {P:Program}{M:Nat->Prop}{φ:Place}{H:Hp}{w w':World}
def ab.lV:ab->Bool
 | .arr .. =>true
 |_=>false
theorem PV(o:Nat->ab)(ids:List Nat):sF o ids=bG o (ids.filter fun id=>(o id).lV):=by
 induction ids with
 |nil=>rfl
 |cons id ids ih=>
  unfold sF at ih|-
  simp only[List.filterMap_cons,List.filter_cons]
  cases hx:o id with
  |arr ep ty sz es=>
   have e:(ab.arr ep ty sz es).lV=true:=rfl
   rw[e,if_pos rfl,ih]
   simp only[bG,List.map_cons,hx]
  |_=>exact ih
theorem kL(hH:az M φ H w){us':Nat->Prop}(h:∀id,H.us id->us' id):az M φ ⟨H.o,us'⟩ w/\Trans φ H w φ ⟨H.o,us'⟩ w:=by
 have ht:Trans φ H w φ ⟨H.o,us'⟩ w:=⟨eC.refl _ _,fun b hb=> .inl hb,⟨h,fun id _ hr=>⟨hr,rfl⟩,fun id e' _ he=>⟨e',he,Nat.le_refl _,fun _=>rfl⟩⟩⟩
 exact⟨hH.of ht (fun _=>False) (fun _ h=>h.elim) (fun id _=>⟨rfl,rfl,fun _ _ _=>rfl⟩) (fun id hn=>hH.fresh id fun hu=>hn (h id hu)) hH.apart (fun b hb=>(hH.ours b hb).2),ht⟩
theorem gG(hH:az M φ H w)(hk:eC (fun _=>False) w w'):az M φ H w'/\Trans φ H w φ H w':=by
 have ht:Trans φ H w φ H w':=⟨⟨hk.os,hk.tape,hk.output,hk.size,fun k h _=>hk.block k h fun h=>h⟩,fun b hb=> .inl hb,ec.refl _ _⟩
 exact⟨hH.of ht (fun _=>False) (fun _ h=>h.elim) (fun id _=>⟨rfl,rfl,fun hl b hb=>hk.block b (hH.ours b ⟨id,hl,hb⟩).2 fun h=>h⟩) hH.fresh hH.apart (fun b hb=>Nat.lt_of_lt_of_le (hH.ours b hb).2 hk.size),ht⟩
theorem lW{Δ:List (Nat×ab)}(h:∀id∈Δ.map (·.1),H.us id):H.put Δ=⟨put H.o Δ,H.us⟩:=by
 unfold Hp.put
 congr 1
 funext id
 simp only[eq_iff_iff]
 exact⟨fun h'=>h'.elim (fun h=>h) (h id), .inl⟩
theorem uM(o:Nat->ab)(ids:List Nat):(bG o ids).map (·.1)=ids:=by
 rw[my];simp[Function.comp_def]
structure Cx where
 base:List Deferred
 rd:Bool
def dT(ro:Option Nat):Fence:={fn:=fun _=>True,depth:=none,alive:=false,round:=ro}
def mark(r:Nat):Deferred:={target:= .collected r,args:=#[]}
def vQ(cx:Cx)(w0:World)(φ:Place)(H:Hp)(w:World)(ds:List Deferred):Prop:=
 ∃ms:List Nat,ds=ms.map mark++cx.base/\ms.Nodup/\(cx.rd=true->ms=[])/\∀r∈ms,w0.heap.size<=r/\w.heap[r]? =some (.deferred (some []))/\ ¬cL φ H r
theorem vQ.mono {cx:Cx}{w0:World}{φ aJ:Place}{H H':Hp}{w w':World}{ds:List Deferred}(ht:Trans φ H w aJ H' w')(h:vQ cx w0 φ H w ds):vQ cx w0 aJ H' w' ds:=by
 obtain⟨ms,h1,h2,h3,h4⟩:=h
 refine⟨ms,h1,h2,h3,fun r hr=> ?_⟩
 obtain⟨g1,g2,g3⟩:=h4 r hr
 have cu:r<w.heap.size:=by
  rcases Nat.lt_or_ge r w.heap.size with hl|hl
  ·exact hl
  ·rw[Array.getElem?_eq_none hl]at g2;cases g2
 refine⟨g1,(ht.cN.block r cu g3).trans g2,fun hl=> ?_⟩
 rcases ht.grow r hl with h|h
 ·exact g3 h
 ·omega
structure cq (M:Nat->Prop) (cS:Place) (H0:Hp) (w0:World) (n:Nat) (cx:Cx) (φ:Place) (s:S) (a:Act) (w:World):Prop where
 heap:az M φ s.H w
 tr:Trans cS H0 w0 φ s.H w
 size:a.tmps.size=n
 defers:vQ cx w0 φ s.H w a.defers
 env:∀i,V.den (aq M φ s.H) φ s.H w (s.env i) (a.tmps.getD i undef)
variable {cS:Place}{H0:Hp}{w0:World}{n:Nat}{s:S}{a:Act}{cx:Cx}{ro:Option Nat}{k:Nat}
theorem dq{f:FuncId}{args:Array Value}{R:Ending->World->Prop}(h:Calls P f args w R):CallsIn (dT ro) k P f args w R:=
 ⟨trivial,fun cs _=>let⟨e,w',fr,r,s,x⟩:=h cs;⟨e,w',fr,r,comesIn_wide.2 s,x⟩⟩
theorem CE{f:FuncId}{args:Array Value}{R:Ending->World->Prop}(h:CallsIn (dT ro) k P f args w R):Calls P f args w R:=
 fun cs=>let⟨e,w',fr,r,s,x⟩:=h.2 cs (fun _ h=>by simp[dT]at h);⟨e,w',fr,r,comesIn_wide.1 s,x⟩
theorem kS{o:Oper}{next:Act->World->Prop}{Q:Exit->Act->World->Prop}(AF:∀c,o.op≠ .defer c)(h:o.uponIn (dT ro) k P a next Q ((execOp a.eval o).run P w)):o.wpIn (dT ro) k P a w next Q:=
 ⟨fun _ _=>trivial,by rw[Oper.semAt_eq _ _ _ AF];exact h⟩
theorem oH(hs:cq M cS H0 w0 n cx φ s a w){aJ:Place}{H':Hp}(hH:az M aJ H' w')(ht:Trans φ s.H w aJ H' w'){v:V}{val:Value}(hd:V.den (aq M aJ H') aJ H' w' v val){dst:Option Tmp}(df:gX n dst)
 {o':Nat->ab} {nx':Nat} (ho:H'.o=o') (hu:∀id,H'.us id->id<nx'):cq M cS H0 w0 n cx aJ ⟨ba s.env dst v,o',nx'⟩ (a.put dst val) w':=by
 obtain⟨k1,k2⟩:=kL hH hu
 subst ho
 refine⟨k1,hs.tr.trans (ht.trans k2), ?_, ?_,fun i=> ?_⟩
 ·cases dst<;>simp[Act.put,hs.size]
 ·have:=hs.defers.mono (ht.trans k2);cases dst<;>exact this
 ·cases dst with
  |none=>exact Py
  |some d=>
   simp only[gX]at df
   simp only[ba,aN,Act.put]
   by_cases hi:i=d
   ·subst hi
    have h1:(a.tmps.setIfInBounds i val).getD i undef=val:=by simp[Array.getD,hs.size,df]
    rw[if_pos rfl,h1]
    exact V.aT k2 _ _ hd
   ·have h1:(a.tmps.setIfInBounds d val).getD i undef=a.tmps.getD i undef:=by
     exact VV
    rw[if_neg hi,h1]
    exact Py
theorem fe(hs:cq M cS H0 w0 n cx φ s a w){aJ:Place}{H':Hp}(hH:az M aJ H' w')(ht:Trans φ s.H w aJ H' w'){o':Nat->ab}{nx':Nat}(ho:H'.o=o')(hu:∀id,H'.us id->id<nx'):
 cq M cS H0 w0 n cx aJ ⟨s.env,o',nx'⟩ a w':=by
 obtain⟨k1,k2⟩:=kL hH hu
 subst ho
 exact⟨k1,hs.tr.trans (ht.trans k2),hs.size,hs.defers.mono (ht.trans k2),fun i=>V.aT (ht.trans k2) _ _ (hs.env i)⟩
theorem Mi{Δ:List (Nat×ab)}(h:∀id∈Δ.map (·.1),s.H.us id\/id=s.nx)(id:Nat)(hu:(s.H.put Δ).us id):id<s.nx+1:=by
 rcases hu with hu|hu
 ·exact Nat.lt_succ_of_lt hu
 ·rcases h id hu with h|h
  ·exact Nat.lt_succ_of_lt h
  ·omega
variable {next:Act->World->Prop}{Q:Exit->Act->World->Prop}{X:V->S->Prop}{K:S->Prop}
theorem Mj(hs:cq M cS H0 w0 n cx φ s a w){o:Oper}{op:Op}(gC:o.op=op)(df:gX n o.dst)(h:Te P s s.nx op fun v Δ _=>K ⟨ba s.env o.dst v,put s.o Δ,s.nx+1⟩)
 (hN:∀s' aJ a' w',K s'->cq M cS H0 w0 n cx aJ s' a' w'->next a' w'):o.wpIn (dT ro) k P a w next Q:=by
 obtain⟨nx,val,w',aJ,v,Δ,rd,hK,hr,uz,g1,g2,g3,g4⟩:=yU hs.heap (s:=s) rfl hs.env (fr:=s.nx) (by simp[S.H]) gC h
 have uA:=oH hs g1 g2 g3 df (o':=put s.o Δ) (nx':=s.nx+1) rfl (Mi g4)
 refine kS (fun c hc=>by rw[gC]at hc;subst hc;exact h) ?_
 rw[hr]
 rcases uz with rfl|⟨rfl,rfl⟩
 ·exact hN _ _ _ _ hK uA
 ·exact hN _ _ _ _ hK uA
theorem V.qK {B:Nat->Prop}{ct bs cs:List V}{u v x:List Value}(h1:V.aF B φ H w ct u)(h2:V.aF B φ H w bs v)(h3:V.aF B φ H w cs x):V.aF B φ H w (ct++bs++cs) (u++v++x):=
 V.bE _ _ _ _ (V.bE _ _ _ _ h1 h2) h3
theorem lX{f:FuncId}(h:Enters P f)(args:Array Value):(callFunc f args).run P w= .ok (.enter f args) w:=by
 obtain⟨fn,h1,h2,h3⟩:=h
 have mY:fn.name≠ "runtime.NumGoroutine" :=by simpa using h2
 have kK:fn.body≠none:=fun h=>by rw[h]at h3;cases h3
 simp[callFunc,h1,mY,kK]
theorem nr:∀ {rs:List D} {val:Value},R.is (aq M φ H) w (.ret rs) (.returned val)->V.den (aq M φ H) φ H w (jq rs) val
 |[],_,h=>by obtain⟨arr,rfl,h⟩:=h;exact⟨arr,rfl,h⟩
 |[x],_,h=>h
 |x::y::l,_,h=>by obtain⟨arr,rfl,h⟩:=h;exact⟨arr,rfl,(V.cO (x::y::l) _).2 h⟩
theorem R.AG {B B':Nat->Prop}:∀ {out:R} {e:Ending},out.flat=true->out.is B w e->out.is B' w e
 | .ret [], .returned _,_,h=>by obtain⟨arr,rfl,h⟩:=h;exact⟨arr,rfl,h⟩
 | .ret [x], .returned _,hf,h=>by
   simp only[R.flat,D.j7,Bool.and_true]at hf
   exact D.ra x _ hf h
 | .ret (x::y::l), .returned _,hf,h=>by obtain⟨arr,rfl,h⟩:=h;exact⟨arr,rfl,D.mA (x::y::l) _ hf h⟩
 | .bN d, .panicked _,hf,h=>by obtain⟨v,rfl,h⟩:=h;exact⟨v,rfl,D.ra d v hf h⟩
 | .ret [], .panicked _,_,h| .ret [_], .panicked _,_,h| .ret (_::_::_), .panicked _,_,h| .ret [], .outgrown,_,h| .ret [_], .outgrown,_,h| .ret (_::_::_), .outgrown,_,h| .bN _, .returned _,_,h| .bN _, .outgrown,_,h=>h.elim
theorem R.Mk {B B':Nat->Prop}{w':World}(hb:∀b,qM w' b-> ¬B b-> ¬B' b):∀ {out:R} {e:Ending},out.nG=true->out.is B w' e->out.is B' w' e
 | .ret [], .returned _,_,h=>by obtain⟨arr,rfl,h⟩:=h;exact⟨arr,rfl,h⟩
 | .ret [x], .returned _,hf,h=>by
   simp only[R.nG,D.mC,Bool.and_true]at hf
   exact D.lU (fun b hc hn=>⟨rfl,hb b hc hn⟩) x _ hf h
 | .ret (x::y::l), .returned _,hf,h=>by obtain⟨arr,rfl,h⟩:=h;exact⟨arr,rfl,D.nH (fun b hc hn=>⟨rfl,hb b hc hn⟩) (x::y::l) _ hf h⟩
 | .bN d, .panicked _,hf,h=>by obtain⟨v,rfl,h⟩:=h;exact⟨v,rfl,D.lU (fun b hc hn=>⟨rfl,hb b hc hn⟩) d v hf h⟩
 | .ret [], .panicked _,_,h| .ret [_], .panicked _,_,h| .ret (_::_::_), .panicked _,_,h| .ret [], .outgrown,_,h| .ret [_], .outgrown,_,h| .ret (_::_::_), .outgrown,_,h| .bN _, .returned _,_,h| .bN _, .outgrown,_,h=>h.elim
theorem Ml(hH:az M φ H w){o:Nat->ab}:∀ (vs:List V) (vals:List Value),(∀id∈du o vs,H.o id=(o id).fz)->V.aF (aq M φ H) φ H w vs vals->V.aF (aq M φ H) φ H w (vs.map (Mf o)) vals
 |[],_,_,h=>h
 |v::vs,_,ho,h=>by
  obtain⟨u,us,rfl,h1,h2⟩:=h
  refine⟨u,us,rfl, ?_,Ml hH vs us (fun id ax=>ho id (by simp[du,ax])) h2⟩
  unfold Mf
  split
  ·rename_i x hx
   exact eQ hH v x u (fun id ax=>ho id (by simp[du,hx,ax])) hx h1
  ·exact h1
theorem gY:∀ (vs:List V) (vals:List Value) (o:Nat->ab),V.aF (aq M φ H) φ H w vs vals->∀id∈du o vs,H.us id
 |[],_,_,_,j,hj=>by simp[du]at hj
 |v::vs,_,o,h,j,hj=>by
  obtain⟨u,us,rfl,h1,h2⟩:=h
  simp only[du,List.mem_append]at hj
  rcases hj with hj|hj
  ·cases hx:dM o v with
   |none=>simp[hx]at hj
   |some x=>simp only[hx]at hj;exact cV v u h1 j hj
  ·exact gY vs us o h2 j hj
theorem yV(hs:cq M cS H0 w0 n cx φ s a w){o:Oper}{g:FuncId}{all:List V}{vals:Array Value}(df:gX n o.dst)(fI:Enters P g->(execOp a.eval o).run P w= .ok (.enter g vals) w)(bf:V.aF (aq M φ s.H) φ s.H w all vals.toList)
 (h:bQ P g all s.o s.nx (fun v o' nx'=>K ⟨ba s.env o.dst v,o',nx'⟩) (fun v o' nx'=>X v ⟨s.env,o',nx'⟩))
 (hN:∀s' aJ a' w',K s'->cq M cS H0 w0 n cx aJ s' a' w'->next a' w')
 (hQ:∀v s' aJ w' val,X v s'->cq M cS H0 w0 n cx aJ s' a w'->V.den (aq M aJ s'.H) aJ s'.H w' v val->Q (.panic [{v:=val,recovered:=false}]) a w'):o.uponIn (dT ro) k P a next Q ((execOp a.eval o).run P w):=by
 have fq:=h.2 M φ w vals hs.heap bf
 rw[fI h.1]
 refine⟨fun hd=>by simp[dT]at hd,dq (fq.mono fun e w' ⟨aJ,o',nx',v,k1,k2,k3⟩=> ?_)⟩
 cases e with
 |returned val=>exact Su
 |panicked ch=>
  obtain⟨val,rfl,k4,k5⟩:=k3
  exact aa4
 |outgrown=>exact k3.elim
theorem CF(hs:cq M cS H0 w0 n cx φ s a w){o:Oper}{g:FuncId}{all:List V}{vals:Array Value}(df:gX n o.dst)(fI:Enters P g->(execOp a.eval o).run P w= .ok (.enter g vals) w)(bf:V.aF (aq M φ s.H) φ s.H w all vals.toList)
 (h:vO P s g all (fun v o' nx'=>K ⟨ba s.env o.dst v,o',nx'⟩) (fun v o' nx'=>X v ⟨s.env,o',nx'⟩))
 (hN:∀s' aJ a' w',K s'->cq M cS H0 w0 n cx aJ s' a' w'->next a' w')
 (hQ:∀v s' aJ w' val,X v s'->cq M cS H0 w0 n cx aJ s' a w'->V.den (aq M aJ s'.H) aJ s'.H w' v val->Q (.panic [{v:=val,recovered:=false}]) a w'):o.uponIn (dT ro) k P a next Q ((execOp a.eval o).run P w):=by
 unfold vO at h
 obtain⟨f1,f2,f3,f4,f5⟩:=cZ hs.heap (V.bg all) (dk all _ bf)
 have fK:s.H.put (bG s.H.o (V.bg all))=⟨put s.o (bG s.o (V.bg all)),s.H.us⟩:=lW Ly
 have nI:=V.aW f2 _ _ bf
 rcases h with⟨ds,out,fD,hP,hK⟩|⟨ds,out,fD,hP,qG,hK⟩|⟨ds,out,fD,hP,BP,hK⟩|hC|hC
 ·have yI:=dB f1 all ds _ f3 fD nI
  have hM:∀b,aq M φ (s.H.put (bG s.H.o (V.bg all))) b->b<w.heap.size:=fun b hb=>hb.elim (f1.BM b) fun hl=>(f1.ours b hl).2
  have fq:=hP.2 _ w vals hM yI
  rw[fI hP.1]
  refine⟨fun hd=>by simp[dT]at hd,dq (fq.mono fun e w' ⟨hk,ho⟩=> ?_)⟩
  obtain⟨k1,k2⟩:=gG f1 hk
  cases out with
  |ret rs=>
   cases e with
   |returned val=>
    refine hN _ _ _ _ hK (oH hs k1 (f2.trans k2) (nr ho) df (by rw[fK]) ?_)
    intro id hu;rw[fK]at hu;exact Nat.lt_succ_of_lt hu
   |panicked ch=>exact xJ
   |outgrown=>exact xJ
  |bN x=>
   cases e with
   |returned val=>exact ho.elim
   |panicked ch=>
    obtain⟨val,rfl,hd⟩:=ho
    have uA:=fe hs k1 (f2.trans k2) (o':=put s.o (bG s.o (V.bg all))) (nx':=s.nx+1) (by rw[fK]) (fun id hu=>by rw[fK]at hu;exact Nat.lt_succ_of_lt hu)
    refine hQ _ _ _ _ val hK uA ?_
    have e1:aq M φ (S.H ⟨s.env,put s.o (bG s.o (V.bg all)),s.nx+1⟩)=aq M φ (s.H.put (bG s.H.o (V.bg all))):=by rw[fK];rfl
    simp only[V.den]
    rw[e1];exact hd
   |outgrown=>exact ho.elim
 ·have yI:=dB f1 all ds _ f3 fD nI
  have hM:∀b,aq M φ (s.H.put (bG s.H.o (V.bg all))) b->b<w.heap.size:=fun b hb=>hb.elim (f1.BM b) fun hl=>(f1.ours b hl).2
  have fq:=hP.2 _ w vals hM yI
  rw[fI hP.1]
  refine⟨fun hd=>by simp[dT]at hd,dq (fq.mono fun e w' ⟨hk,ho⟩=> ?_)⟩
  obtain⟨k1,k2⟩:=gG hs.heap hk
  have ho:=R.AG (B':=aq M φ s.H) qG ho
  cases out with
  |ret rs=>
   cases e with
   |returned val=>
    exact hN _ _ _ _ hK (oH hs k1 k2 (nr ho) df rfl fun id hu=>Nat.lt_succ_of_lt hu)
   |panicked ch=>exact xJ
   |outgrown=>exact xJ
  |bN x=>
   cases e with
   |returned val=>exact ho.elim
   |panicked ch=>
    obtain⟨val,rfl,hd⟩:=ho
    exact hQ _ _ _ _ val hK (fe hs k1 k2 (o':=s.o) (nx':=s.nx+1) rfl fun id hu=>Nat.lt_succ_of_lt hu) hd
   |outgrown=>exact ho.elim
 ·obtain⟨a1,a2,a3,a4,a5⟩:=cZ hs.heap ((V.bg all).filter fun id=>(s.o id).lV) (fun id ax=>dk all _ bf id (List.mem_filter.1 ax).1)
  have CG:s.H.put (bG s.H.o ((V.bg all).filter fun id=>(s.o id).lV))=⟨put s.o (sF s.o (V.bg all)),s.H.us⟩:=by
   rw[PV]
   exact lW (by rw[uM];exact fun id ax=>dk all _ bf id (List.mem_filter.1 ax).1)
  have yI:=dB f1 all ds _ f3 fD nI
  have hM:∀b,aq M φ (s.H.put (bG s.H.o (V.bg all))) b->b<w.heap.size:=fun b hb=>hb.elim (f1.BM b) fun hl=>(f1.ours b hl).2
  have fq:=hP.2 _ w vals hM yI
  rw[fI hP.1]
  refine⟨fun hd=>by simp[dT]at hd,dq (fq.mono fun e w' ⟨hk,ho⟩=> ?_)⟩
  obtain⟨k1,k2⟩:=gG a1 hk
  have uu:∀b,qM w' b-> ¬aq M φ (s.H.put (bG s.H.o (V.bg all))) b-> ¬aq M φ (s.H.put (bG s.H.o ((V.bg all).filter fun id=>(s.o id).lV))) b:=by
   intro b hc hn hm
   rcases hm with hM|⟨id,hl,hb⟩
   ·exact hn (.inl hM)
   ·by_cases ax:id∈V.bg all
    ·cases hx:s.H.o id with
     |arr ep ty sz es=>
      rw[a3 id (List.mem_filter.2 ⟨ax,by show(s.H.o id).lV=true;rw[hx];rfl⟩),hx]at hl
      cases hl
     |map kt vt l=>
      have kz:id∉(V.bg all).filter fun id=>(s.o id).lV:=fun h=>by
       have h2:(s.H.o id).lV=true:=(List.mem_filter.1 h).2
       rw[hx]at h2;cases h2
      have aY:=k1.ok id
      unfold aR at aY
      rw[a4 id kz,hx]at aY
      obtain⟨b',es,clock,g1,g2,_⟩:=aY
      rw[g1]at hb
      injection hb with hb
      subst hb
      obtain⟨cs,ty,fz,hc⟩:=hc
      rw[g2]at hc
      cases hc
     |_=>
      have kz:id∉(V.bg all).filter fun id=>(s.o id).lV:=fun h=>by
       have h2:(s.H.o id).lV=true:=(List.mem_filter.1 h).2
       rw[hx]at h2;cases h2
      refine hn (.inr ⟨id, ?_,hb⟩)
      rw[a4 id kz,hx]at hl
      rw[f3 id ax,hx]
      exact hl
    ·have kz:id∉(V.bg all).filter fun id=>(s.o id).lV:=fun h=>ax (List.mem_filter.1 h).1
     refine hn (.inr ⟨id, ?_,hb⟩)
     rw[a4 id kz]at hl
     rw[f4 id ax]
     exact hl
  have ho:=R.Mk (w':=w') (B':=aq M φ (s.H.put (bG s.H.o ((V.bg all).filter fun id=>(s.o id).lV)))) uu BP ho
  cases out with
  |ret rs=>
   cases e with
   |returned val=>
    refine hN _ _ _ _ hK (oH hs k1 (a2.trans k2) (nr ho) df (by rw[CG]) ?_)
    intro id hu;rw[CG]at hu;exact Nat.lt_succ_of_lt hu
   |panicked ch=>exact xJ
   |outgrown=>exact xJ
  |bN x=>
   cases e with
   |returned val=>exact ho.elim
   |panicked ch=>
    obtain⟨val,rfl,hd⟩:=ho
    have uA:=fe hs k1 (a2.trans k2) (o':=put s.o (sF s.o (V.bg all))) (nx':=s.nx+1) (by rw[CG]) (fun id hu=>by rw[CG]at hu;exact Nat.lt_succ_of_lt hu)
    refine hQ _ _ _ _ val hK uA ?_
    have e1:aq M φ (S.H ⟨s.env,put s.o (sF s.o (V.bg all)),s.nx+1⟩)=aq M φ (s.H.put (bG s.H.o ((V.bg all).filter fun id=>(s.o id).lV))):=by rw[CG];rfl
    simp only[V.den]
    rw[e1];exact hd
   |outgrown=>exact ho.elim
 ·exact yV hs df fI bf hC hN hQ
 ·obtain⟨f1,f2,f3,f4,f5⟩:=cZ hs.heap (du s.o all) (gY all _ s.o bf)
  have fK:s.H.put (bG s.H.o (du s.o all))=hp (put s.o (bG s.o (du s.o all))) s.nx:=lW (by rw[uM];exact gY all _ s.o bf)
  have nI:=Ml f1 all _ f3 (V.aW f2 _ _ bf)
  rw[fK]at f1 f2 nI
  exact yV (s:=⟨s.env,put s.o (bG s.o (du s.o all)),s.nx⟩) (fe hs f1 f2 rfl fun id hu=>hu) df fI nI hC hN hQ
theorem PW(hs:cq M cS H0 w0 n cx φ s a w){o:Oper}{c:Call}{f:Operand}(gC:o.op= .call c)(hc:c.callee= .value f)(df:gX n o.dst)
 (h:CD P s (s.ev f) (c.args.toList.map s.ev) (fun v o' nx'=>K ⟨ba s.env o.dst v,o',nx'⟩) (fun v o' nx'=>X v ⟨s.env,o',nx'⟩))
 (hN:∀s' aJ a' w',K s'->cq M cS H0 w0 n cx aJ s' a' w'->next a' w')
 (hQ:∀v s' aJ w' val,X v s'->cq M cS H0 w0 n cx aJ s' a w'->V.den (aq M aJ s'.H) aJ s'.H w' v val->Q (.panic [{v:=val,recovered:=false}]) a w'):o.wpIn (dT ro) k P a w next Q:=by
 refine kS (fun c' yW=>by rw[gC]at yW;cases yW) ?_
 have hf:=nA (M:=M) (φ:=φ) (H:=s.H) (w:=w) s a hs.env f
 have dG:=kO (M:=M) (φ:=φ) (H:=s.H) (w:=w) s a hs.env c.args.toList
 unfold CD at h
 split at h
 ·rename_i g first cap xL
  rw[xL]at hf
  obtain⟨fa,ca,Wc,GY,hca⟩:=hf
  have bf:V.aF (aq M φ s.H) φ s.H w (first++c.args.toList.map s.ev++cap) (fa++c.args.map a.eval++ca).toList:=by
   exact SL
  generalize first++c.args.toList.map s.ev++cap=all at h bf
  generalize lN:fa++c.args.map a.eval++ca=vals at bf
  have fI:Enters P g->(execOp a.eval o).run P w= .ok (.enter g vals) w:=by
   intro he
   have:=lX (w:=w) he (fa++c.args.map a.eval++ca)
   rw[lN]at this
   simp[execOp,gC,resolve,hc,Wc,Deferred.ofValue,invoke,this,lN]
  exact CF hs df fI bf h hN hQ
 ·rename_i id xL
  rw[xL]at hf
  obtain⟨_,dY,hp'⟩:=hf
  obtain⟨da,hR⟩:=h
  obtain⟨b,eY,Wc⟩:=hp' da
  obtain⟨fn,tmps,assign,body,h1,h2⟩:=hR M φ w (c.args.map a.eval) b hs.heap (by rw[Array.toList_map];exact dG) eY
  have fI:(execOp a.eval o).run P w= .ok (.round b fn tmps assign body) w:=by
   simp[execOp,gC,resolve,hc,Wc,Deferred.ofValue,invoke,h1]
  rw[fI]
  refine⟨fun hd=>by simp[dT]at hd,RoundIn.mono (h2 (k - 1)) fun e w' ⟨aJ,o',nx',v,k1,k2,k3⟩=> ?_⟩
  cases e with
  |returned val=>exact Su
  |panicked ch=>
   obtain⟨val,rfl,k4,k5⟩:=k3
   exact aa4
  |outgrown=>exact k3.elim
 ·exact h.elim
theorem JD(hs:cq M cS H0 w0 n cx φ s a w){o:Oper}{c:Call}{r:Operand}{m:String}{g:FuncId}{y:V}(gC:o.op= .call c)(hc:c.callee= .invoke r m)(df:gX n o.dst)(hr:vP P m (s.ev r)=some (g,y))
 (h:vO P s g (y::c.args.toList.map s.ev) (fun v o' nx'=>K ⟨ba s.env o.dst v,o',nx'⟩) (fun v o' nx'=>X v ⟨s.env,o',nx'⟩))
 (hN:∀s' aJ a' w',K s'->cq M cS H0 w0 n cx aJ s' a' w'->next a' w')
 (hQ:∀v s' aJ w' val,X v s'->cq M cS H0 w0 n cx aJ s' a w'->V.den (aq M aJ s'.H) aJ s'.H w' v val->Q (.panic [{v:=val,recovered:=false}]) a w'):o.wpIn (dT ro) k P a w next Q:=by
 refine kS (fun c' yW=>by rw[gC]at yW;cases yW) ?_
 have hf:=nA (M:=M) (φ:=φ) (H:=s.H) (w:=w) s a hs.env r
 have dG:=kO (M:=M) (φ:=φ) (H:=s.H) (w:=w) s a hs.env c.args.toList
 unfold vP at hr
 split at hr
 ·rename_i t d hx
  rw[hx]at hf
  obtain⟨val,hv,hd⟩:=hf
  split at hr
  ·rename_i ti hti
   split at hr
   ·rename_i mr uS
    split at hr
    ·rename_i f KH
     split at hr
     ·rename_i Tp
      injection hr with hr
      injection hr with h1 h2
      subst h1;subst h2
      refine CF (vals:=#[val]++c.args.map a.eval) hs df ?_ ?_ h hN hQ
      ·intro he
       have fI:=lX (w:=w) he (#[val]++c.args.map a.eval)
       have hpa:mr.path=#[]:=Array.isEmpty_iff.1 Tp.1
       have hu:∃u,P.underlying t=some u/\∀e,u≠ .pointer e:=by
        have:=Tp.2
        unfold To at this
        split at this
        ·cases this
        ·rename_i u je hu;exact⟨u,hu,fun e he=>je e he⟩
        ·cases this
       obtain⟨u,hu,Tq⟩:=hu
       have hm:(method (P.types.size+Made.depth) t val m).run P w= .ok (f,val) w:=by
        have:P.types.size+Made.depth=(P.types.size+Made.depth - 1)+1:=by simp[Made.depth]
        rw[this]
        cases u<;>first|exact absurd rfl (Tq _)|simp[method,typeInfo,hti,uS,hpa,KH,follow,receiverAt,run_underlying hu,_root_.Go.Place.get]
       have h0:(#[Value.iface t val]++Array.map a.eval c.args)[0]? =some (.iface t val):=by
        rw[Array.getElem?_append_left (by simp)];rfl
       have h1:(Array.map a.eval c.args).extract 0 c.args.size=Array.map a.eval c.args:=by
        rw[show c.args.size=(Array.map a.eval c.args).size from by simp,Array.extract_size]
       simp[execOp,gC,resolve,hc,invoke,callMethod,hv,h0,h1,hm,fI]
      ·simp only[Array.toList_append,Array.toList_map]
       exact⟨val,_,rfl,hd,dG⟩
     ·cases hr
    ·cases hr
   ·cases hr
  ·cases hr
 ·cases hr
theorem yX(hs:cq M cS H0 w0 n cx φ s a w){o:Oper}(h:opW P n s o X K)
 (hN:∀s' aJ a' w',K s'->cq M cS H0 w0 n cx aJ s' a' w'->next a' w')
 (hQ:∀v s' aJ w' val,X v s'->cq M cS H0 w0 n cx aJ s' a w'->V.den (aq M aJ s'.H) aJ s'.H w' v val->Q (.panic [{v:=val,recovered:=false}]) a w'):o.wpIn (dT ro) k P a w next Q:=by
 obtain⟨df,h⟩:=h
 split at h
 ·rename_i c gC
  split at h
  ·rename_i f hc
   exact PW hs gC hc df h hN hQ
  ·rename_i r m hc
   split at h
   ·rename_i g y hr;exact JD hs gC hc df hr h hN hQ
   ·exact h.elim
  ·exact Mj hs rfl df h hN
 ·rename_i x gC
  have hx:=nA (M:=M) (φ:=φ) (H:=s.H) (w:=w) s a hs.env x
  have bN:∀ (t:TypeId) (u:Value),a.eval x= .iface t u->Q (.panic [{v:= .iface t u,recovered:=false}]) a w->o.wpIn (dT ro) k P a w next Q:=by
   intro t u hu hq
   refine kS (fun c hc=>by rw[gC]at hc;cases hc) ?_
   have hr:(execOp a.eval o).run P w= .halt (.panic (.iface t u)) w:=by simp[execOp,gC,hu,Instr.panic]
   rw[hr];exact hq
  split at h
  ·rename_i t y hv
   rw[hv]at hx
   obtain⟨u,hu,hd⟩:=hx
   exact SC
  ·rename_i t y hv
   rw[hv]at hx
   obtain⟨u,hu,hd⟩:=hx
   exact SC
  ·exact h.elim
 ·exact Mj hs rfl df h hN
end
end
end Go.Proofs.YtlhemmpklhhgoaaGreat
namespace Go
def Code.uB (P:Program)(ro:Option Nat)(c:Code)(Q:Exit->Act->World->Prop)(a:Act)(w:World):Prop:=
 ∀ (b:Frame) (k:List Item) (cs:List Frame),b.roundOf=ro->b.fn<P.funcs.size->
   ∃e a' w',Q e a' w'/\ArrivesIn (Machine.fenced P (Proofs.YtlhemmpklhhgoaaGreat.dT ro)) P (lone (b.atR a (.code c::k)) cs w) b k cs e a' w'
end Go
namespace Go.Proofs.YtlhemmpklhhgoaaGreat
instance:LawfulMonad Sem:=LawfulMonad.mk' Sem (id_map:=fun x=>Sem.bind_pure' x) (pure_bind:=fun _ _=>rfl) (bind_assoc:=fun x f g=>Sem.bind_assoc' x f g)
section
variable {P:Program}{M:Nat->Prop}{φ:Place}{H:Hp}{w w':World}{cS:Place}{H0:Hp}{w0:World}{n b:Nat}{s:S}{a:Act}{cx:Cx}{ro:Option Nat}{k:Nat}
theorem rh(hs:cq M cS H0 w0 n cx φ s a w){ops:Array Oper}{o:Oper}{A B:Prop}(h:AB s ops o.guard A B):
 (Region.wanted o (yielded ops a.tmps)=true->A)/\(Region.wanted o (yielded ops a.tmps)=false->B):=by
 unfold AB at h
 unfold Region.wanted
 split at h
 ·rename_i hg;simp only[hg];exact⟨fun _=>h,fun h=>by cases h⟩
 ·rename_i j want hg
  simp only[hg]
  unfold tH at h
  unfold yielded
  split at h
  ·rename_i d hd
   simp only[hd,Option.bind_some]
   have eD:=hs.env d
   split at h
   ·rename_i c hv
    rw[hv]at eD
    simp only[V.den,D.den]at eD
    have:a.tmps[d]? =some (.bool c):=by
     rw[Array.getD_eq_getD_getElem?]at eD
     cases hx:a.tmps[d]? with
     |none=>rw[hx]at eD;simp[undef]at eD
     |some x=>rw[hx]at eD;simp at eD;rw[eD]
    simp only[this]
    by_cases hc:c=want
    ·subst hc;exact⟨fun _=>h.1 rfl,fun h=>by simp at h⟩
    ·exact⟨fun h'=>absurd (by simpa using h') hc,fun _=>h.2 hc⟩
   ·rename_i hv
    rw[hv]at eD
    obtain⟨arr,dy,hn⟩:=eD
    simp only[V.aF]at hn
    have:∀c,a.tmps[d]? ≠some (.bool c):=by
     exact Tb
    cases hx:a.tmps[d]? with
    |none=>exact⟨fun h=>by simp at h,fun _=>h⟩
    |some x=>cases x<;>first|(exact absurd hx (this _))|(exact⟨fun h=>by simp at h,fun _=>h⟩)
   ·exact h.elim
  ·rename_i hd
   simp only[hd,Option.bind_none]
   exact⟨fun h=>by simp at h,fun _=>h⟩
theorem CH(hs:cq M cS H0 w0 n cx φ s a w){dst:Option Tmp}(df:gX n dst):cq M cS H0 w0 n cx φ ⟨ba s.env dst (.bW []),s.o,s.nx+1⟩ (a.put dst undef) w:=
 oH (v:= .bW []) (val:=undef) hs hs.heap (Trans.refl _ _ _) ⟨#[],rfl,rfl⟩ df rfl fun _ hu=>Nat.lt_succ_of_lt hu
theorem qg{ops:Array Oper}{X:V->S->Prop}{K:S->Prop}{Q:Exit->Act->World->Prop}
 (hK:∀s φ a w,K s->cq M cS H0 w0 n cx φ s a w->Q .normal a w)
 (hQ:∀v s' aJ a w' val,X v s'->cq M cS H0 w0 n cx aJ s' a w'->V.den (aq M aJ s'.H) aJ s'.H w' v val->Q (.panic [{v:=val,recovered:=false}]) a w'):
 ∀ (l:List Oper) (s:S) (φ:Place) (a:Act) (w:World),AD P n ops X K l s->cq M cS H0 w0 n cx φ s a w->wpListIn (dT ro) k P ops Q l a w
 |[],s,φ,a,w,h,hs=>hK s φ a w h hs
 |o::l,s,φ,a,w,h,hs=>by
  obtain⟨h1,h2⟩:=rh hs h
  unfold wpListIn
  split
  ·rename_i hw
   exact yX hs (h1 hw) (fun s' aJ a' w' hk jU=>qg hK hQ l s' aJ a' w' hk jU) (fun v s' aJ w' val hx jU hd=>hQ v s' aJ a w' val hx jU hd)
  ·rename_i hw
   obtain⟨df,h3⟩:=h2 (by simpa using hw)
   exact⟨fun _ _=>trivial,qg hK hQ l _ _ _ _ h3 (CH hs df)⟩
def Hf(M:Nat->Prop)(cS:Place)(H0:Hp)(w0:World)(n:Nat)(cx:Cx)(Q:fS->S->Prop)(e:Exit)(a:Act)(w:World):Prop:=
 ∃x s φ,Q x s/\cq M cS H0 w0 n cx φ s a w/\match e,x with
  | .normal, .normal=>True
  | .exit i, .exit j=>i=j
  | .ret, .ret=>True
  | .panic ch, .bN v=>∃val,ch=[{v:=val,recovered:=false}]/\V.den (aq M φ s.H) φ s.H w v val
  |_,_=>False
section
variable {Q:Exit->Act->World->Prop}
theorem gZ{m:Nat}:(dT ro).room m:=fun d hd=>by simp[dT]at hd
theorem qh{c:Code}(h:c.wpIn (dT ro) k P Q a w):c.uB P ro Q a w:=fun b k cs uS _=>h b k cs uS trivial gZ
theorem hO{c:Code}{Q':Exit->Act->World->Prop}(h:c.uB P ro Q a w)(hq:∀e a w,Q e a w->Q' e a w):c.uB P ro Q' a w:=
 fun b k cs uS hb=>let⟨e,a',w',q,r⟩:=h b k cs uS hb;⟨e,a',w',hq _ _ _ q,r⟩
theorem Hg(h:Q .ret a w):Code.ret.uB P ro Q a w:=qh (k:=0) (wpIn_ret h)
theorem CI{id:Nat}(h:Q (.exit id) a w):(Code.exit id).uB P ro Q a w:=qh (k:=0) (wpIn_exit h)
theorem AH{x y:Code}(h:x.uB P ro (Exit.then (y.uB P ro Q) Q) a w):(Code.seq x y).uB P ro Q a w:=by
 intro b k cs uS hb
 have h0:(lone (b.atR a (.code (.seq x y)::k)) cs w).fenced P (dT ro):=fenced_calm (n:=0) trivial gZ rfl
 obtain⟨e,pg,jR,hq,dy⟩:=h b (.code y::k) cs uS hb
 cases e with
 |normal=>
  obtain⟨Wd,ab0,sR,ri,kT⟩:=hq b k cs uS hb
  exact⟨Wd,ab0,sR,ri, .of_steps (.head h0 stepR_seq dy) kT⟩
 |exit id=>exact Lj
 |goto l=>exact Lj
 |ret=>exact Lj
 |panic ch=>exact Lj
 |outgrown=>exact Lj
theorem rj{c:Operand}{x y:Code}{t:Bool}(hc:a.eval c= .bool t)(h:(if t then x else y).uB P ro Q a w):(Code.cond c x y).uB P ro Q a w:=
 fun b k cs uS hb=>let⟨e,a',w',q,r⟩:=h b k cs uS hb;⟨e,a',w',q, .of_steps (.one (fenced_calm (n:=0) trivial gZ rfl) (stepR_cond hc)) r⟩
theorem JE{id:Nat}{c:Code}(h:c.uB P ro (Exit.inBlock id Q) a w):(Code.block id c).uB P ro Q a w:=by
 intro b k cs uS hb
 have h0:(lone (b.atR a (.code (.block id c)::k)) cs w).fenced P (dT ro):=fenced_calm (n:=0) trivial gZ rfl
 obtain⟨e,pg,jR,hq,dy⟩:=h b (.inBlock id::k) cs uS hb
 cases e with
 |normal=>exact⟨.normal,pg,jR,hq, .head h0 stepR_block (StepsIn.trans dy (.one (fenced_calm (n:=0) trivial gZ rfl) stepR_inBlock))⟩
 |exit BO=>
  by_cases ax:BO=id
  ·simp only[Exit.inBlock,ax,if_true]at hq
   exact⟨.normal,pg,jR,hq, .head h0 stepR_block (dy.1 k (by simp[exitTo,ax]))⟩
  ·simp only[Exit.inBlock,ax,if_false]at hq
   have this:(id==BO)=false:=by simp;exact fun h=>ax h.symm
   have hx:exitTo BO (.inBlock id::k)=exitTo BO k:=by simp[exitTo,this]
   exact⟨.exit BO,pg,jR,hq,fun k' hk=> .head h0 stepR_block (dy.1 k' yq),
    fun Jz hk=>let⟨k₁,h1,h2⟩:=dy.2 Jz yq;⟨k₁,h1, .head h0 stepR_block h2⟩⟩
 |goto l=>
  have hx:gotoIn l (.inBlock id::k)=gotoIn l k:=by simp[gotoIn]
  exact⟨_,pg,jR,hq,fun k' hk=> .head h0 stepR_block (dy.1 k' yq),
   fun Jz hk=>let⟨k₁,h1,h2⟩:=dy.2 Jz yq;⟨k₁,h1, .head h0 stepR_block h2⟩⟩
 |ret=>exact VI
 |panic ch=>exact VI
 |outgrown=>exact VI
theorem kH{b:Frame}{k:List Item}{cs:List Frame}{c:Code}:step P (lone (b.atR a (.code (.scope c)::k)) cs w)= .next (lone (b.atR a (.code c:: .inScope c::k)) cs w):=
 step_lone_go (by simp[stepG,stepG.exec,Frame.atR])
theorem xU{b:Frame}{k:List Item}{cs:List Frame}{c:Code}:step P (lone (b.atR a (.inScope c::k)) cs w)= .next (lone (b.atR a k) cs w):=
 step_lone_go (by simp[stepG,stepG.exec,Frame.atR])
theorem yY{c:Code}(h:c.uB P ro Q a w)(hg:∀l a w, ¬Q (.goto l) a w):(Code.scope c).uB P ro Q a w:=by
 intro b k cs uS hb
 have h0:(lone (b.atR a (.code (.scope c)::k)) cs w).fenced P (dT ro):=fenced_calm (n:=0) trivial gZ rfl
 obtain⟨e,pg,jR,hq,dy⟩:=h b (.inScope c::k) cs uS hb
 cases e with
 |normal=>exact⟨.normal,pg,jR,hq, .head h0 kH (StepsIn.trans dy (.one (fenced_calm (n:=0) trivial gZ rfl) xU))⟩
 |exit BO=>
  have hx:exitTo BO (.inScope c::k)=exitTo BO k:=by simp[exitTo]
  exact⟨.exit BO,pg,jR,hq,fun k' hk=> .head h0 kH (dy.1 k' yq),
   fun Jz hk=>let⟨k₁,h1,h2⟩:=dy.2 Jz yq;⟨k₁,h1, .head h0 kH h2⟩⟩
 |goto l=>exact(hg _ _ _ hq).elim
 |ret=>exact VJ
 |panic ch=>exact VJ
 |outgrown=>exact VJ
def vR(P:Program)(l:Nat)(Q:Exit->Act->World->Prop)(a':Act):Ending->World->Prop
 | .returned _,Fe=>∃jump uC,(Instr.endLoop l).run P Fe= .ok jump uC/\(match jump with|none=>Q .normal a' uC|some c=>c.uB P none Q a' uC)
 | .panicked chain,Fe=>Q (.panic chain) a' Fe
 | .outgrown,_=>LetsOut Q
theorem xV{g:Operand}{ps:Array Tmp}{assign body:Code}
 (h:∀fn,fn<P.funcs.size->∃ (l:Nat) (mark:List Deferred) (jR:World) (d:Deferred) (yZ:World) (f:FuncId) (args:Array Value) (sR:World),
  (Instr.enterLoop fn a.tmps ps assign body (dT none).round).run P w= .ok (l,mark) jR/\(resolve a.eval (rangeCall g l) 0).run P jR= .ok d yZ/\
  (invoke d.target d.args).run P yZ= .ok (.enter f args) sR/\CallsIn (dT none) 0 P f args sR (vR P l Q {a with defers:=mark++a.defers})):
 (Code.rangeFunc g ps assign body).uB P none Q a w:=by
 intro b k cs uS hb
 obtain⟨l,mark,jR,d,yZ,f,args,sR,he,CJ,hinv,hF,fq⟩:=h b.fn hb
 rw[show(dT none).round=b.roundOf from uS.symm]at he
 have calm:∀ (m:Machine),m.fenced P (dT none)↔m.fenced P Fence.wide:=fun m=>Iff.rfl
 have h0:(lone (b.atR a (.code (.rangeFunc g ps assign body)::k)) cs w).fenced P (dT none):=(calm _).2 (fenced_wide P _)
 have mE:=stepR_rangeFunc (P:=P) (b:=b) (a:=a) (k:=k) (cs:=cs) (w:=w) he CJ hinv
 obtain⟨e,Fe,fr,hR,Ff,KH,Mm⟩:=fq (b.atR {a with defers:=mark++a.defers} (.inRangeFunc l::k)::cs) gZ
 cases e with
 |outgrown=>
  obtain⟨afX,afY,hq⟩:=hR
  exact⟨.outgrown,afX,afY,hq, .inr (Outgrown.of_steps (.one mE) Ff)⟩
 |returned v=>
  obtain⟨jump,uC,eL,hj⟩:=hR
  have Ts:StepsIn (Machine.fenced P (dT none)) P (lone (b.atR a (.code (.rangeFunc g ps assign body)::k)) cs w) (lone (b.atR {a with defers:=mark++a.defers} ((jump.map Item.code).toList++k)) cs uC):=by
   refine .head h0 mE (StepsIn.trans Ff (.head ((calm _).2 (fenced_wide P _)) ?_ (.one ((calm _).2 (fenced_wide P _)) (stepR_endRangeFunc eL))))
   rw[<- finish_atR_inRangeFunc l v];exact step_leave_returned Mm
  cases jump with
  |none=>exact⟨.normal,_,uC,hj,Ts⟩
  |some c=>
   obtain⟨e',a'',afZ,hq,dy⟩:=hj b k cs uS hb
   exact⟨e',a'',afZ,hq, .of_steps Ts dy⟩
 |panicked chain=>
  refine⟨.panic chain,_,Fe,hR, .inRangeFunc l::k, .head h0 mE (StepsIn.trans Ff (.one ((calm _).2 (fenced_wide P _)) ?_))⟩
  rw[<- Frame.raise_atR];exact step_leave_panicked Mm
end
theorem y0(hH:az M φ H w){id l:Nat}(dY:H.us id){nf m:Nat}{env:List V}{ps:List Nat}{jV fG:IC}{st st':LoopState}{pd pd':Option ky}(ho:H.o id= .loop nf m env ps jV fG st pd)(eY:φ id= .pointer (some ⟨l,0,none⟩)):
 ∃r,w.heap[l]? =some (.loop r)/\r.state=st/\r.pending=pd.map ky.code/\
  az M φ (H.put [(id, .loop nf m env ps jV fG st' pd')]) {w with heap:=w.heap.setIfInBounds l (.loop {r with state:=st',pending:=pd'.map ky.code})}/\
  Trans φ H w φ (H.put [(id, .loop nf m env ps jV fG st' pd')]) {w with heap:=w.heap.setIfInBounds l (.loop {r with state:=st',pending:=pd'.map ky.code})}:=by
 have aY:=hH.ok id
 simp only[aR,ho]at aY
 obtain⟨b,r,h1,h2,h0,h3,h4,h5,h6,h7,h8,h9⟩:=aY
 rw[eY]at h1;simp at h1;subst h1
 refine⟨r,h2,h3,h4, ?_⟩
 have Mb:eC (· =l) w {w with heap:=w.heap.setIfInBounds l (.loop {r with state:=st',pending:=pd'.map ky.code})}:=
  ⟨rfl,rfl,rfl,aE,fun j _ hj=>(MapKept.heap_set h2).2 j hj⟩
 have sv:(H.o id).live=true:=by rw[ho];rfl
 have KU:eA (φ id)=some l:=by rw[eY];rfl
 have ht:=fj (w:=w) (w':={w with heap:=w.heap.setIfInBounds l (.loop {r with state:=st',pending:=pd'.map ky.code})}) dY sv KU Mb (.loop nf m env ps jV fG st' pd') eK eK
 refine⟨iJ hH dY sv KU Mb _ eK eK ?_,ht⟩
 unfold aR
 simp only[bL,aN,if_true]
 exact⟨l,_,eY,(MapKept.heap_set h2).1,h0,rfl,rfl,h5,h6,h7,h8,fun i=>V.aT ht _ _ (h9 i)⟩
theorem jr{l:Nat}{r:Loop}(o:Obj)(hb:w.heap[l]? =some (.loop r)):(setObj l o).run P w= .ok () {w with heap:=w.heap.setIfInBounds l o}:=by
 simp[setObj,Sem.run,hb]
theorem kU{l:Nat}{r:Loop}(hb:w.heap[l]? =some (.loop r)):(Instr.getLoop l).run P w= .ok r w:=by
 simp[Instr.getLoop,getObj,Sem.run,hb,Result.andThen]
end
def rk(Q:fS->S->Prop)(pd:Option ky)(s:S):Prop:=
 match pd with
 |none=>Q .normal s
 |some .ret=>Q .ret s
 |some (.exit id)=>Q (.exit id) s
def CK(P:Program)(n:Nat)(g:V)(ps:List Nat)(jV fG:IC)(Q:fS->S->Prop)(s:S):Prop:=
 ∃env,(∀i,aZ env i= .ad\/aZ env i=s.env i)/\
  match g with
  | .func (.func f) first cap=>pD P f (first++[.kM s.nx]++cap) (ay s.o s.nx (.loop P.funcs.size n env ps jV fG .ready none)) (s.nx+1)
    (fun _ o' nx'=>∃nf m e p c d st pd,o' s.nx= .loop nf m e p c d st pd/\st≠ .busy/\rk Q pd ⟨s.env,ay o' s.nx (.loop nf m e p c d .exhausted pd),nx'⟩)
    (fun v o' nx'=>Q (.bN v) ⟨s.env,o',nx'⟩)
  |_=>False
def ab1(P:Program)(n b:Nat)(g:Operand)(ps:List Nat)(jV fG:IC)(Q:fS->S->Prop)(s:S):Prop:=∃s',(s'=s\/bO b s s')/\CK P n (s'.ev g) ps jV fG Q s'
def jC(P:Program)(n b:Nat)(rd:Bool):Code->(fS->S->Prop)->S->Prop
 | .skip,Q,s=>Q .normal s
 | .label _,Q,s=>Q .normal s
 | .scope x,Q,s=>jC P n b rd x Q s
 | .region _ ops false,Q,s=>AD P n ops (fun v s=>Q (.bN v) s) (Q .normal) ops.toList s
 | .region id ops true,Q,s=>∀M cS H0 w0 cx φ a w ro k,cq M cS H0 w0 n cx φ s a w->(Code.region id ops true).wpIn (dT ro) k P (Hf M cS H0 w0 n cx Q) a w
 | .seq x y,Q,s=>jC P n b rd x (re (jC P n b rd y Q) Q) s
 | .cond c x y,Q,s=>match s.ev c with
   | .d (.bool t)=>(t=true->jC P n b rd x Q s)/\(t=false->jC P n b rd y Q s)
   | .fF=>jC P n b rd x Q s/\jC P n b rd y Q s
   |_=>False
 | .block id x,Q,s=>jC P n b rd x (fU id Q) s
 | .loop x,Q,s=>∃ (J:Nat->S->Prop),(∃m s1,bO b s s1/\J m s1)/\∀m s0,J m s0->jC P n b rd x (fun e s=>match e with| .normal=>∃m' s1,m'<m/\bO b s s1/\J m' s1|e=>Q e s) s0
 | .exit id,Q,s=>Q (.exit id) s
 | .ret,Q,s=>Q .ret s
 | .rangeFunc g ps x y,Q,s=>rd=false/\ab1 P n b g ps.toList (low n x) (low n y) Q s
 |_,_,_=>False
section
variable {P:Program}{M:Nat->Prop}{φ:Place}{H:Hp}{w w':World}{cS:Place}{H0:Hp}{w0:World}{n b:Nat}{s:S}{a:Act}{cx:Cx}{ro:Option Nat}{k:Nat}
theorem Fg(hb:∀id,H0.us id->id<b)(hs:cq M cS H0 w0 n cx φ s a w){s':S}(h:bO b s s'):∃aJ,cq M cS H0 w0 n cx aJ s' a w:=by
 obtain⟨aJ,h1,h2,h3,h4,h5,h6⟩:=h M φ w (fun i=>a.tmps.getD i undef) hs.heap hs.env
 refine⟨aJ,h1,⟨hs.tr.cN,fun k hk=>hs.tr.grow k (h3 k hk),⟨fun id hu=>Nat.lt_of_lt_of_le (hb id hu) h4,fun id hu hr=> ?_,fun id e' hu he=> ?_⟩⟩,hs.size, ?_,h2⟩
 ·obtain⟨g1,g2⟩:=h5 id (hb id hu) hr
  obtain⟨g3,g4⟩:=hs.tr.rel.row id hu g1
  exact⟨g3,g2.trans g4⟩
 ·obtain⟨e,g1,g2,g3⟩:=h6 id e' (hb id hu) he
  obtain⟨e0,k1,k2,k3⟩:=hs.tr.rel.ep id e hu g1
  refine⟨e0,k1,Nat.le_trans k2 g2,fun heq=> ?_⟩
  have a1:e0=e:=af
  have a2:e=e':=af
  exact(g3 a2).trans (k3 a1)
 ·obtain⟨ms,g1,g2,g3,g4⟩:=hs.defers
  exact⟨ms,g1,g2,g3,fun r hr=>⟨(g4 r hr).1,(g4 r hr).2.1,fun hl=>(g4 r hr).2.2 (h3 r hl)⟩⟩
theorem AJ{c:Code}{Q:Exit->Act->World->Prop}(J:Nat->Act->World->Prop)(round:∀m a w,J m a w->c.uB P ro (Exit.then (fun a' w'=>∃m',m'<m/\J m' a' w') Q) a w):
 ∀m a w,J m a w->(Code.loop c).uB P ro Q a w:=by
 intro m a w h0 fr kk cs uS hb
 have hr:(dT ro).room (cs.length+1+0):=fun d hd=>by simp[dT]at hd
 have key:∀m a w,J m a w->∃e a' w',Q e a' w'/\ArrivesIn (Machine.fenced P (dT ro)) P (lone (fr.atR a (.code c:: .inLoop c::kk)) cs w) fr kk cs e a' w':=by
  intro m
  induction m using Nat.strongRecOn with
  |_ m ih=>
   intro a w hJ
   obtain⟨e,a1,w1,hq,dy⟩:=round m a w hJ fr (.inLoop c::kk) cs uS hb
   cases e with
   |normal=>
    obtain⟨m',cu,hJ'⟩:=hq
    obtain⟨e2,a2,w2,Zn,Hh⟩:=ih m' cu a1 w1 hJ'
    exact⟨e2,a2,w2,Zn, .of_steps (StepsIn.trans dy (.one (fenced_calm trivial hr rfl) stepR_inLoop)) Hh⟩
   |_=>exact⟨_,a1,w1,hq, .pass (x:= .inLoop c) rfl (fun _ _=> .inl aE) dy⟩
 obtain⟨e,a',w',hq,dy⟩:=key m a w h0
 exact⟨e,a',w',hq, .of_steps (.one (fenced_calm trivial hr rfl) stepR_loop) dy⟩
theorem y9(hs:cq M cS H0 w0 n cx φ s a w)(m9:cx.rd=false)(uS:ro=none){g:Operand}{ps:Array Tmp}{x y:Code}{Q:fS->S->Prop}(h:CK P n (s.ev g) ps.toList (low n x) (low n y) Q s):
 (Code.rangeFunc g ps x y).uB P ro (Hf M cS H0 w0 n cx Q) a w:=by
 subst uS
 obtain⟨env,eD,h⟩:=h
 refine xV fun fn KH=> ?_
 let Fh:Loop:={state:= .ready,pending:=none,fn:=fn,tmps:=a.tmps,params:=ps,assign:=x,body:=y,defers:=w.heap.size}
 let w1:World:=(w.alloc (.deferred (some []))).alloc (.loop Fh)
 let l:Nat:=w.heap.size+1
 have mE:(Instr.enterLoop fn a.tmps ps x y (dT none).round).run P w= .ok (l,[mark w.heap.size]) w1:=by
  simp[Instr.enterLoop,dT,mark,w1,l,Fh]
 have Mn:eC (fun _=>False) w w1:=by
  have k1:=cy w (.deferred (some []))
  have k2:=cy (w.alloc (.deferred (some []))) (.loop Fh)
  exact⟨k2.os.trans k1.os,k2.tape.trans k1.tape,k2.output.trans k1.output,Nat.le_trans k1.size k2.size,fun j hj hm=>(k2.block j (Nat.lt_of_lt_of_le hj k1.size) hm).trans (k1.block j hj hm)⟩
 let jn:=ay φ s.nx (.pointer (some ⟨l,0,none⟩))
 let s1:S:=⟨s.env,ay s.o s.nx (.loop P.funcs.size n env ps.toList (low n x) (low n y) .ready none),s.nx+1⟩
 have c9: ¬s.H.us s.nx:=by simp[S.H]
 have e9:∀b,eA (.pointer (some ⟨l,0,none⟩))=some b->w.heap.size<=b/\b<w1.heap.size:=by
  intro b hb;simp[eA]at hb;subst hb;simp[l,w1]
 have EF:=dO (φ:=φ) (H:=s.H) Mn c9 (.loop P.funcs.size n env ps.toList (low n x) (low n y) .ready none) (.pointer (some ⟨l,0,none⟩)) fun b hb=>(e9 b hb).1
 have PS:(w.alloc (.deferred (some []))).heap.size=w.heap.size+1:=aE
 have sv:w1.heap[l]? =some (.loop Fh):=by
  have:=heap_alloc_new (w.alloc (.deferred (some []))) (.loop Fh)
  rwa [PS]at this
 have sB:=ja hs.heap Mn c9 (.loop P.funcs.size n env ps.toList (low n x) (low n y) .ready none) (.pointer (some ⟨l,0,none⟩)) e9 (by
  unfold aR
  simp only[bL,aN,if_true]
  refine⟨l,Fh,rfl,sv,KH,rfl,rfl,rfl,hs.size,rfl,rfl,fun i=> ?_⟩
  rcases eD i with e|e
  ·rw[e];trivial
  ·rw[e];exact V.aT EF _ _ (hs.env i))
 have sw:cq M cS H0 w0 n cx jn s1 {a with defers:=mark w.heap.size::a.defers} w1:=by
  have base:=fe hs sB EF (o':=ay s.o s.nx (.loop P.funcs.size n env ps.toList (low n x) (low n y) .ready none)) (nx':=s.nx+1) rfl (Mi fun id ax=>by simp at ax;exact .inr ax)
  refine⟨base.heap,base.tr,base.size, ?_,base.env⟩
  obtain⟨ms,g1,g2,g3,g4⟩:=base.defers
  obtain⟨ms',q1,q2,q3,q4⟩:=hs.defers
  have hmm:ms.map mark=ms'.map mark:=by
   have:ms.map mark++cx.base=ms'.map mark++cx.base:=g1.symm.trans q1
   exact List.append_cancel_right this
  have We:ms=ms':=by
   have hm:∀a b,mark a=mark b->a=b:=fun a b h=>by simpa[mark]using h
   exact List.map_inj_right hm |>.1 hmm
  refine⟨w.heap.size::ms,by rw[g1];rfl,List.nodup_cons.2 ⟨fun hm=> ?_,g2⟩,(fun h=>by rw[m9]at h;cases h),fun r hr=> ?_⟩
  ·have:=(q4 w.heap.size (We ▸ hm)).2.1
   rw[Array.getElem?_eq_none (Nat.le_refl _)]at this;cases this
  ·rcases List.mem_cons.1 hr with rfl|hr
   ·refine⟨hs.tr.cN.size,(RowKit.Below.heap_alloc (w.alloc (.deferred (some []))) (.loop Fh) w.heap.size (by rw[PS];omega)).trans (heap_alloc_new w _), ?_⟩
    rintro⟨id,i1,i2⟩
    by_cases e:id=s.nx
    ·subst e;simp[jn,eA,l]at i2
    ·have i1':(s.H.o id).live=true:=by simpa[s1,S.H,e]using i1
     have i2':eA (φ id)=some w.heap.size:=by simpa[jn,e]using i2
     have:=(hs.heap.ours _ ⟨id,i1',i2'⟩).2
     omega
   ·exact g4 r hr
 have af0:V.den (aq M jn s1.H) jn s1.H w1 (.kM s.nx) (.func (.yield l) #[] #[]):=
  ⟨rfl,by simp[s1,S.H],fun _=>⟨l,by simp[jn],rfl⟩⟩
 have hg:=nA (M:=M) (φ:=jn) (H:=s1.H) (w:=w1) s1 {a with defers:=mark w.heap.size::a.defers} sw.env g
 have af1:s1.ev g=s.ev g:=by cases g<;>rfl
 rw[af1]at hg
 have hae:({a with defers:=mark w.heap.size::a.defers}:Act).eval g=a.eval g:=rfl
 rw[hae]at hg
 split at h
 ·rename_i f first cap hgv
  rw[hgv]at hg
  obtain⟨fa,ca,Wc,GY,hca⟩:=hg
  have fin:∀ (all:List V) (o2:Nat->ab) (s2:S),s2=⟨s.env,o2,s.nx+1⟩->cq M cS H0 w0 n cx jn s2 {a with defers:=mark w.heap.size::a.defers} w1->V.aF (aq M jn s2.H) jn s2.H w1 all (fa++#[Value.func (.yield l) #[] #[]]++ca).toList->(o2 s.nx).cA=true->
   bQ P f all o2 (s.nx+1) (fun _ o' nx'=>∃nf m e p c d st pd,o' s.nx= .loop nf m e p c d st pd/\st≠ .busy/\rk Q pd ⟨s.env,ay o' s.nx (.loop nf m e p c d .exhausted pd),nx'⟩) (fun v o' nx'=>Q (.bN v) ⟨s.env,o',nx'⟩)->
   ∃ (l:Nat) (mark:List Deferred) (jR:World) (d:Deferred) (yZ:World) (f:FuncId) (args:Array Value) (sR:World),
     (Instr.enterLoop fn a.tmps ps x y (dT none).round).run P w= .ok (l,mark) jR/\(resolve a.eval (rangeCall g l) 0).run P jR= .ok d yZ/\
     (invoke d.target d.args).run P yZ= .ok (.enter f args) sR/\CallsIn (dT none) 0 P f args sR (vR P l (Hf M cS H0 w0 n cx Q) {a with defers:=mark++a.defers}):=by
   intro all o2 s2 af2 Hi bf da hC
   subst af2
   have fq:=hC.2 M jn w1 _ Hi.heap bf
   refine⟨l,[mark w.heap.size],w1,{target:= .fn (.func f) ca,args:=fa++#[Value.func (.yield l) #[] #[]]},w1,f,fa++#[Value.func (.yield l) #[] #[]]++ca,w1,mE, ?_, ?_,dq (fq.mono fun e w' ⟨aJ,o',nx',v,k1,k2,k3⟩=> ?_)⟩
   ·simp only[resolve,Wc,Deferred.ofValue,List.map_toArray,List.map_cons,List.map_nil,Sem.run_pure]
    rfl
   ·simp[invoke,lX hC.1]
   ·cases e with
    |returned val=>
     obtain⟨k4,nf,m,e,p,c,d,st,pd,k5,k6,k7⟩:=k3
     have Hj:cq M cS H0 w0 n cx aJ ⟨s.env,o',nx'⟩ {a with defers:=mark w.heap.size::a.defers} w':=fe Hi k1 k2 rfl fun id hu=>hu
     have Wf:aJ s.nx= .pointer (some ⟨l,0,none⟩):=by
      have:=(k2.rel.row s.nx (show s.nx<s.nx+1 from af) (by show(o' s.nx).cA=true;rw[k5];rfl)).2
      rw[this];simp[jn]
     have cu:s.nx<nx':=k2.rel.us s.nx (show s.nx<s.nx+1 from af)
     obtain⟨r,r1,r2,r3,r4,r5⟩:=y0 (st':= .exhausted) (pd':=pd) k1 cu (show(hp o' nx').o s.nx=_ from k5) Wf
     have eL:(Instr.endLoop l).run P w'= .ok (pd.map ky.code) {w' with heap:=w'.heap.setIfInBounds l (.loop {r with state:= .exhausted,pending:=pd.map ky.code})}:=by
      have e1:({r with state:= .exhausted}:Loop)={r with state:= .exhausted,pending:=pd.map ky.code}:=by rw[<- r3]
      have hnb:(r.state==LoopState.busy)=false:=by rw[r2];cases st<;>first|rfl|exact absurd rfl k6
      simp only[Instr.endLoop,Sem.run_bind,kU r1,Result.andThen_ok,hnb,Bool.false_eq_true,if_false,Sem.run_pure]
      rw[jr _ r1,e1]
      simp[r3]
     have Zo:=fe Hj r4 r5 (o':=ay o' s.nx (.loop nf m e p c d .exhausted pd)) (nx':=nx') rfl fun id hu=>by
      simp only[ef]at hu
      rcases hu with hu|hu
      ·exact hu
      ·subst hu;exact cu
     refine⟨pd.map ky.code,_,eL, ?_⟩
     cases pd with
     |none=>exact⟨.normal,_,_,k7,Zo,trivial⟩
     |some j=>
      cases j with
      |ret=>exact Hg ⟨.ret,_,_,k7,Zo,trivial⟩
      |exit id=>exact CI ⟨.exit id,_,_,k7,Zo,rfl⟩
    |panicked ch=>
     obtain⟨val,rfl,k4,k5⟩:=k3
     have Hj:cq M cS H0 w0 n cx aJ ⟨s.env,o',nx'⟩ {a with defers:=mark w.heap.size::a.defers} w':=fe Hi k1 k2 rfl fun id hu=>hu
     exact⟨.bN v,_,_,k5,Hj,val,rfl,k4⟩
    |outgrown=>exact k3.elim
  have nI:V.aF (aq M jn s1.H) jn s1.H w1 (first++[V.kM s.nx]++cap) (fa++#[Value.func (.yield l) #[] #[]]++ca).toList:=by
   rw[Array.toList_append,Array.toList_append]
   exact V.qK GY ⟨_,[],rfl,af0,rfl⟩ hca
  rcases h with hC|hC
  ·exact fin _ _ s1 rfl sw nI (by simp;rfl) hC
  ·have qI:s1.o=ay s.o s.nx (.loop P.funcs.size n env ps.toList (low n x) (low n y) .ready none):=rfl
   obtain⟨f1,f2,f3,f4,f5⟩:=cZ sw.heap (du s1.o (first++[V.kM s.nx]++cap)) (gY _ _ s1.o nI)
   have fK:s1.H.put (bG s1.H.o (du s1.o (first++[V.kM s.nx]++cap)))=hp (put s1.o (bG s1.o (du s1.o (first++[V.kM s.nx]++cap)))) s1.nx:=lW (by rw[uM];exact gY _ _ s1.o nI)
   have Tt:=Ml f1 _ _ f3 (V.aW f2 _ _ nI)
   have Tu:((s1.H.put (bG s1.H.o (du s1.o (first++[V.kM s.nx]++cap)))).o s.nx).cA=true:=by
    by_cases hm:s.nx∈du s1.o (first++[V.kM s.nx]++cap)
    ·rw[f3 _ hm];simp[s1,S.H,ab.fz,ab.cA]
    ·rw[f4 _ hm];simp[s1,S.H,ab.cA]
   rw[fK]at f1 f2 Tt Tu
   exact fin _ (put s1.o (bG s1.o (du s1.o (first++[V.kM s.nx]++cap)))) ⟨s.env,_,s.nx+1⟩ rfl (fe sw f1 f2 rfl fun id hu=>hu) Tt Tu hC
 ·exact h.elim
end
end Go.Proofs.YtlhemmpklhhgoaaGreat
