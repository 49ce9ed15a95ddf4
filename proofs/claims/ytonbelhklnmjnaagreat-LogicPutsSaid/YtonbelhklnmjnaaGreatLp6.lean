/-
  A PART OF THE PROOF. Conditions: none.
-/
import Derived.RangeFuncLeaves
import Derived.TacticsIn
import Derived.RecoverIn
import Derived.Test.YtonbelhklnmjnaaGreatLp5
set_option linter.unusedSimpArgs false
set_option linter.unusedVariables false
namespace Go.Proofs.YtonbelhklnmjnaaGreat
inductive R where
 |ret (ds:List D)|bP (d:D)
def R.is (B:Nat->Prop)(w:World):R->Ending->Prop
 | .ret [x], .returned v=>D.den B w x v
 | .ret ds, .returned v=>∃a,v= .tuple a/\D.aM B w ds a.toList
 | .bP d, .panicked chain=>∃v,chain=[{v:=v,recovered:=false}]/\D.den B w d v
 |_,_=>False
def Enters(P:Program)(f:FuncId):Prop:=∃fn,P.funcs[f]? =some fn/\(fn.name== "runtime.NumGoroutine")=false/\fn.body.isNone=false
def aR(P:Program)(f:FuncId)(ds:List D)(out:R):Prop:=
 Enters P f/\∀ (M:Nat->Prop) (w:World) (vals:Array Value),(∀b,M b->b<w.heap.size)->D.aM M w ds vals.toList->
  Calls P f vals w fun e w'=>eT (fun _=>False) w w'/\out.is M w' e
def hp(o:Nat->ab)(nx:Nat):Hp:=⟨o,fun id=>id<nx⟩
def ns(M:Nat->Prop)(φ:Place)(H:Hp)(w:World)(K X:V->(Nat->ab)->Nat->Prop)(e:Ending)(w':World):Prop:=
 ∃aN o' nx' v,aE M aN (hp o' nx') w'/\Trans φ H w aN (hp o' nx') w'/\match e with
  | .returned val=>V.den (ay M aN (hp o' nx')) aN (hp o' nx') w' v val/\K v o' nx'
  | .panicked ch=>∃val,ch=[{v:=val,recovered:=false}]/\V.den (ay M aN (hp o' nx')) aN (hp o' nx') w' v val/\X v o' nx'
  | .outgrown=>False
def cK(P:Program)(f:FuncId)(args:List V)(o:Nat->ab)(nx:Nat)(K X:V->(Nat->ab)->Nat->Prop):Prop:=
 Enters P f/\∀ (M:Nat->Prop) (φ:Place) (w:World) (vals:Array Value),aE M φ (hp o nx) w->V.aM (ay M φ (hp o nx)) φ (hp o nx) w args vals.toList->
  Calls P f vals w (ns M φ (hp o nx) w K X)
def eh(P:Program)(id:Nat)(args:List V)(o:Nat->ab)(nx:Nat)(K X:V->(Nat->ab)->Nat->Prop):Prop:=
 (o id).cB=true/\∀ (M:Nat->Prop) (φ:Place) (w:World) (vals:Array Value) (b:Nat),aE M φ (hp o nx) w->V.aM (ay M φ (hp o nx)) φ (hp o nx) w args vals.toList->φ id= .pointer (some ⟨b,0,none⟩)->
  ∃f tmps assign body,(Instr.yield b vals).run P w= .ok (.round b f tmps assign body) w/\∀n,RoundIn Fence.wide n P b f tmps assign body w (ns M φ (hp o nx) w K X)
theorem ns.mono {M:Nat->Prop}{φ:Place}{H:Hp}{w:World}{K X K' X':V->(Nat->ab)->Nat->Prop}(hK:∀v o n,K v o n->K' v o n)(hX:∀v o n,X v o n->X' v o n){e:Ending}{w':World}(h:ns M φ H w K X e w'):ns M φ H w K' X' e w':=by
 obtain⟨aN,o',nx',v,h1,h2,h3⟩:=h
 refine⟨aN,o',nx',v,h1,h2, ?_⟩
 cases e with
 |returned val=>exact⟨h3.1,hK _ _ _ h3.2⟩
 |panicked ch=>obtain⟨val,a,b,c⟩:=h3;exact⟨val,a,b,hX _ _ _ c⟩
 |outgrown=>exact h3
theorem cK.mono {P:Program}{f:FuncId}{args:List V}{o:Nat->ab}{nx:Nat}{K X K' X':V->(Nat->ab)->Nat->Prop}(hK:∀v o n,K v o n->K' v o n)(hX:∀v o n,X v o n->X' v o n)(h:cK P f args o nx K X):cK P f args o nx K' X':=
 ⟨h.1,fun M φ w vals h1 h2=>(h.2 M φ w vals h1 h2).mono fun _ _ h=>h.mono hK hX⟩
theorem eh.mono {P:Program}{id:Nat}{args:List V}{o:Nat->ab}{nx:Nat}{K X K' X':V->(Nat->ab)->Nat->Prop}(hK:∀v o n,K v o n->K' v o n)(hX:∀v o n,X v o n->X' v o n)(h:eh P id args o nx K X):eh P id args o nx K' X':=
 ⟨h.1,fun M φ w vals b h1 h2 h3=>let⟨f,t,a,c,h4,h5⟩:=h.2 M φ w vals b h1 h2 h3;⟨f,t,a,c,h4,fun n=>(h5 n).mono fun _ _ h=>h.mono hK hX⟩⟩
mutual
def D.flat:D->Bool
 | .sl _| .mp _ _=>false
 | .agg cs=>D.ku cs
 | .iface _ x=>x.flat
 |_=>true
def D.ku:List D->Bool
 |[]=>true
 |x::xs=>x.flat&&D.ku xs
end
mutual
theorem D.qx {B B':Nat->Prop}{w w':World}:∀ (x:D) (v:Value),x.flat=true->D.den B w x v->D.den B' w' x v
 | .int _ _,_,_,h| .bool _,_,_,h| .str _,_,_,h| .fI,_,_,h| .mU,_,_,h| .bN,_,_,h| .jw,_,_,h=>h
 | .agg cs,_,hf,h=>by obtain⟨a,rfl,h,h2⟩:=h;exact⟨a,rfl,D.mn cs _ hf h,h2⟩
 | .sl es,_,hf,h=>by simp[D.flat]at hf
 | .mp _ _,_,hf,h=>by simp[D.flat]at hf
 | .iface t x,_,hf,h=>by obtain⟨u,rfl,h⟩:=h;exact⟨u,rfl,D.qx x u hf h⟩
theorem D.mn {B B':Nat->Prop}{w w':World}:∀ (xs:List D) (vs:List Value),D.ku xs=true->D.aM B w xs vs->D.aM B' w' xs vs
 |[],_,_,h=>h
 |x::xs,_,hf,h=>by
  obtain⟨u,us,rfl,h1,h2⟩:=h
  simp only[D.ku,Bool.and_eq_true]at hf
  exact⟨u,us,rfl,D.qx x u hf.1 h1,D.mn xs us hf.2 h2⟩
end
mutual
def D.nu:D->Bool
 | .mp _ _=>false
 | .agg cs=>D.mo cs
 | .sl es=>D.mo es
 | .iface _ x=>x.nu
 |_=>true
def D.mo:List D->Bool
 |[]=>true
 |x::xs=>x.nu&&D.mo xs
end
theorem iw.BZ {B B':Nat->Prop}{w w':World}{a:Addr}{cs:Array Value}
 (hb:∀b,qh w b-> ¬B b->w'.heap[b]? =w.heap[b]? /\ ¬B' b) (h:iw B w a cs):iw B' w' a cs:=by
 intro j u hj
 obtain⟨h1,h2⟩:=h j u hj
 have cM:qh w a.block:=by simpa using oV h1
 exact RY
mutual
theorem D.lR {B B':Nat->Prop}{w w':World}(hb:∀b,qh w b-> ¬B b->w'.heap[b]? =w.heap[b]? /\ ¬B' b):
 ∀ (x:D) (v:Value),x.nu=true->D.den B w x v->D.den B' w' x v
 | .int _ _,_,_,h| .bool _,_,_,h| .str _,_,_,h| .fI,_,_,h| .mU,_,_,h| .bN,_,_,h| .jw,_,_,h=>by simpa[D.den]using h
 | .agg cs,_,hn,h=>by
   obtain⟨a,rfl,h,hf⟩:=h
   exact⟨a,rfl,D.nv hb cs _ hn h,hf⟩
 | .sl es,_,hn,h=>by
   obtain⟨base,len,cap,rfl,h1,h2,h3,sz,h4⟩:=h
   exact⟨base,len,cap,rfl,h1,h2,h3,sz,fun a ha=>⟨(h4 a ha).1,D.qy hb sz a es 0 hn (h4 a ha).2⟩⟩
 | .iface t d,_,hn,h=>by
   obtain⟨u,rfl,h⟩:=h
   exact⟨u,rfl,D.lR hb d u hn h⟩
 | .mp _ _,_,hn,_=>by simp[D.nu]at hn
theorem D.nv {B B':Nat->Prop}{w w':World}(hb:∀b,qh w b-> ¬B b->w'.heap[b]? =w.heap[b]? /\ ¬B' b):
 ∀ (ds:List D) (vs:List Value),D.mo ds=true->D.aM B w ds vs->D.aM B' w' ds vs
 |[],_,_,h=>h
 |d::ds,_,hn,h=>by
  obtain⟨u,us,rfl,h1,h2⟩:=h
  simp only[D.mo,Bool.and_eq_true]at hn
  exact⟨u,us,rfl,D.lR hb d u hn.1 h1,D.nv hb ds us hn.2 h2⟩
theorem D.qy {B B':Nat->Prop}{w w':World}(hb:∀b,qh w b-> ¬B b->w'.heap[b]? =w.heap[b]? /\ ¬B' b)(sz:Nat)(a:Addr):
 ∀ (es:List D) (i:Nat),D.mo es=true->D.elems B w sz a i es->D.elems B' w' sz a i es
 |[],_,_,_=>trivial
 |e::es,i,hn,h=>by
  obtain⟨⟨ev,h1,h2,h3⟩,h4⟩:=h
  simp only[D.mo,Bool.and_eq_true]at hn
  exact⟨⟨ev,h1,h2.BZ hb,D.lR hb e ev hn.1 h3⟩,D.qy hb sz a es (i+1) hn.2 h4⟩
end
def R.nu:R->Bool
 | .ret ds=>D.mo ds
 | .bP d=>d.nu
def R.flat:R->Bool
 | .ret ds=>D.ku ds
 | .bP d=>d.flat
def jR:List D->V
 |[x]=> .d x
 |ds=> .cg (ds.map .d)
inductive fX where
 |normal|exit (id:Nat)|ret|bP (v:V)
def bt(env:Nat->V)(dst:Option Tmp)(v:V):Nat->V:=
 match dst with
 |some d=>aK env d v
 |none=>env
def LO(o:Nat->ab)(v:V):V:=match ew o v with|some x=> .d x|none=>v
def dy(o:Nat->ab):List V->List Nat
 |[]=>[]
 |v::vs=>(match ew o v with|some _=>v.ids|none=>[])++dy o vs
def oU(P:Program)(g:FuncId)(args:List V)(o:Nat->ab)(nx:Nat)(K X:V->(Nat->ab)->Nat->Prop):Prop:=
 cK P g args o nx K X\/cK P g (args.map (LO o)) (put o (dk o (dy o args))) nx K X
def u4(P:Program)(s:S)(g:FuncId)(all:List V)(K:V->(Nat->ab)->Nat->Prop)(X:V->(Nat->ab)->Nat->Prop):Prop:=
    (∃ds out,ct s.o all=some ds/\aR P g ds out/\(match out with
     | .ret rs=>K (jR rs) (put s.o (dk s.o (V.bD all))) (s.nx+1)
     | .bP x=>X (.d x) (put s.o (dk s.o (V.bD all))) (s.nx+1)))\/
    (∃ds out,ct s.o all=some ds/\aR P g ds out/\out.flat=true/\(match out with
     | .ret rs=>K (jR rs) s.o (s.nx+1)
     | .bP x=>X (.d x) s.o (s.nx+1)))\/
    (∃ds out,ct s.o all=some ds/\aR P g ds out/\out.nu=true/\(match out with
     | .ret rs=>K (jR rs) (put s.o (rQ s.o (V.bD all))) (s.nx+1)
     | .bP x=>X (.d x) (put s.o (rQ s.o (V.bD all))) (s.nx+1)))\/
    oU P g all s.o s.nx K X
def Cl(P:Program)(s:S)(f:V)(args:List V)(K:V->(Nat->ab)->Nat->Prop)(X:V->(Nat->ab)->Nat->Prop):Prop:=
 match f with
 | .func (.func g) first cap=>u4 P s g (first++args++cap) K X
 | .jW id=>eh P id args s.o s.nx K X
 |_=>False
def S3(P:Program)(t:TypeId):Bool:=
 match P.underlying t with
 |some (.pointer _)=>false
 |some _=>true
 |none=>false
def u5(P:Program)(m:String)(x:V):Option (FuncId×V):=
 match x with
 | .d (.iface t y)=>match P.info? t with
   |some ti=>match ti.methods.find? (·.name==m)with
    |some r=>match r.func with
     |some (f,false)=>if r.path.isEmpty=true/\S3 P t=true then some (f, .d y)else none
     |_=>none
    |none=>none
   |none=>none
 |_=>none
def iz(n:Nat):Option Tmp->Prop
 |some d=>d<n
 |none=>True
def opW(P:Program)(n:Nat)(s:S)(o:Oper)(X:V->S->Prop)(K:S->Prop):Prop:=
 iz n o.dst/\match o.op with
 | .call c=>match c.callee with
   | .value f=>Cl P s (s.ev f) (c.args.toList.map s.ev) (fun v o' nx'=>K ⟨bt s.env o.dst v,o',nx'⟩) (fun v o' nx'=>X v ⟨s.env,o',nx'⟩)
   | .invoke r m=>match u5 P m (s.ev r)with
     |some (g,y)=>u4 P s g (y::c.args.toList.map s.ev) (fun v o' nx'=>K ⟨bt s.env o.dst v,o',nx'⟩) (fun v o' nx'=>X v ⟨s.env,o',nx'⟩)
     |none=>False
   |_=>SW P s s.nx o.op fun v Δ _=>K ⟨bt s.env o.dst v,put s.o Δ,s.nx+1⟩
 | .panic x=>match s.ev x with
   | .d (.iface t y)=>X (.d (.iface t y)) s
   | .iface t y=>X (.iface t y) s
   |_=>False
 |op=>SW P s s.nx op fun v Δ _=>K ⟨bt s.env o.dst v,put s.o Δ,s.nx+1⟩
def Ab(s:S)(ops:Array Oper)(g:Option (Nat×Bool))(A B:Prop):Prop:=
 match g with
 |none=>A
 |some (j,want)=>match sW ops j with
  |some d=>match s.env d with
   | .d (.bool b)=>(b=want->A)/\(b≠want->B)
   | .cg []=>B
   |_=>False
  |none=>B
def Ac(P:Program)(n:Nat)(ops:Array Oper)(X:V->S->Prop)(K:S->Prop):List Oper->S->Prop
 |[],s=>K s
 |o::l,s=>Ab s ops o.guard (opW P n s o X (Ac P n ops X K l)) (iz n o.dst/\Ac P n ops X K l ⟨bt s.env o.dst (.cg []),s.o,s.nx+1⟩)
def bJ(b:Nat)(s s':S):Prop:=
 ∀ (M:Nat->Prop) (φ:Place) (w:World) (tm:Nat->Value),aE M φ s.H w->(∀i,V.den (ay M φ s.H) φ s.H w (s.env i) (tm i))->
   ∃aN,aE M aN s'.H w/\(∀i,V.den (ay M aN s'.H) aN s'.H w (s'.env i) (tm i))/\(∀k,df aN s'.H k->df φ s.H k)/\b<=s'.nx/\
    (∀id,id<b->(s'.o id).cB=true->(s.o id).cB=true/\aN id=φ id)/\
    (∀id e',id<b->(s'.o id).cA=some e'->∃e,(s.o id).cA=some e/\e<=e'/\(e=e'->aN id=φ id))
def qz(K:S->Prop)(Q:fX->S->Prop)(e:fX)(s:S):Prop:=match e with| .normal=>K s|e=>Q e s
def fY(id:Nat)(Q:fX->S->Prop)(e:fX)(s:S):Prop:=match e with| .exit j=>if j=id then Q .normal s else Q (.exit j) s|e=>Q e s
def mq(P:Program)(s:S):List ResultVar->Option (List V)
 |[]=>some []
 | .tmp t::rs=>(mq P s rs).map (s.env t::·)
 | .cell a t::rs=>match s.env a with
   | .ptr id off=>match s.o id with
     | .row cs=>(ft P t cs off).bind fun v=>(mq P s rs).map (v::·)
     |_=>none
   |_=>none
def cE(vs:List V):Nat->V:=fun i=>vs.getD i (.cg [])
def EK(P:Program)(rs:List ResultVar)(out:R)(e:fX)(s:S):Prop:=
 match e with
 | .normal| .ret=>match mq P s rs with
   |some vs=>match ct s.o vs with
    |some ds=>out= .ret ds
    |none=>False
   |none=>False
 | .bP v=>match ew s.o v with
   |some x=>out= .bP x
   |none=>False
 | .exit _=>False
theorem LP{P:Program}{rs:List ResultVar}{out:R}{s:S}(h:match mq P s rs with
 |some vs=>match ct s.o vs with
  |some ds=>out= .ret ds
  |none=>False
 |none=>False):∃vs ds,mq P s rs=some vs/\ct s.o vs=some ds/\out= .ret ds:=by
 split at h
 ·rename_i vs h1
  split at h
  ·rename_i xs h2;exact⟨vs,xs,h1,h2,h⟩
  ·exact h.elim
 ·exact h.elim
theorem LQ{out:R}{s:S}{v:V}(h:match ew s.o v with
 |some x=>out= .bP x
 |none=>False):∃x,ew s.o v=some x/\out= .bP x:=by
 split at h
 ·rename_i x h1;exact⟨x,h1,h⟩
 ·exact h.elim
section
section
variable {P:Program}{M:Nat->Prop}{φ:Place}{H:Hp}{w w':World}
def ab.lS:ab->Bool
 | .arr .. =>true
 |_=>false
theorem PF(o:Nat->ab)(ids:List Nat):rQ o ids=dk o (ids.filter fun id=>(o id).lS):=by
 induction ids with
 |nil=>rfl
 |cons id ids ih=>
  unfold rQ at ih|-
  simp only[List.filterMap_cons,List.filter_cons]
  cases hx:o id with
  |arr ep ty sz es=>
   have e:(ab.arr ep ty sz es).lS=true:=rfl
   rw[e,if_pos rfl,ih]
   simp only[dk,List.map_cons,hx]
  |_=>exact ih
theorem kU(hH:aE M φ H w){us':Nat->Prop}(h:∀id,H.us id->us' id):aE M φ ⟨H.o,us'⟩ w/\Trans φ H w φ ⟨H.o,us'⟩ w:=by
 have ht:Trans φ H w φ ⟨H.o,us'⟩ w:=⟨eT.refl _ _,fun b hb=> .inl hb,⟨h,fun id _ hr=>⟨hr,rfl⟩,fun id e' _ he=>⟨e',he,Nat.le_refl _,fun _=>rfl⟩⟩⟩
 exact⟨hH.of ht (fun _=>False) (fun _ h=>h.elim) (fun id _=>⟨rfl,rfl,fun _ _ _=>rfl⟩) (fun id hn=>hH.fresh id fun hu=>hn (h id hu)) hH.apart (fun b hb=>(hH.ours b hb).2),ht⟩
theorem gZ(hH:aE M φ H w)(hk:eT (fun _=>False) w w'):aE M φ H w'/\Trans φ H w φ H w':=by
 have ht:Trans φ H w φ H w':=⟨⟨hk.os,hk.tape,hk.output,hk.size,fun k h _=>hk.block k h fun h=>h⟩,fun b hb=> .inl hb,eF.refl _ _⟩
 exact⟨hH.of ht (fun _=>False) (fun _ h=>h.elim) (fun id _=>⟨rfl,rfl,fun hl b hb=>hk.block b (hH.ours b ⟨id,hl,hb⟩).2 fun h=>h⟩) hH.fresh hH.apart (fun b hb=>Nat.lt_of_lt_of_le (hH.ours b hb).2 hk.size),ht⟩
theorem lT{Δ:List (Nat×ab)}(h:∀id∈Δ.map (·.1),H.us id):H.put Δ=⟨put H.o Δ,H.us⟩:=by
 unfold Hp.put
 congr 1
 funext id
 simp only[eq_iff_iff]
 exact⟨fun h'=>h'.elim (fun h=>h) (h id), .inl⟩
theorem ue(o:Nat->ab)(ids:List Nat):(dk o ids).map (·.1)=ids:=by
 rw[ml];simp[Function.comp_def]
structure Cx where
 base:List Deferred
 rd:Bool
def ey(ro:Option Nat):Fence:={fn:=fun _=>True,depth:=none,alive:=false,round:=ro}
def mark(r:Nat):Deferred:={target:= .collected r,args:=#[]}
def u6(cx:Cx)(w0:World)(φ:Place)(H:Hp)(w:World)(ds:List Deferred):Prop:=
 ∃ms:List Nat,ds=ms.map mark++cx.base/\ms.Nodup/\(cx.rd=true->ms=[])/\∀r∈ms,w0.heap.size<=r/\w.heap[r]? =some (.deferred (some []))/\ ¬df φ H r
theorem u6.mono {cx:Cx}{w0:World}{φ aN:Place}{H H':Hp}{w w':World}{ds:List Deferred}(ht:Trans φ H w aN H' w')(h:u6 cx w0 φ H w ds):u6 cx w0 aN H' w' ds:=by
 obtain⟨ms,h1,h2,h3,h4⟩:=h
 refine⟨ms,h1,h2,h3,fun r hr=> ?_⟩
 obtain⟨g1,g2,g3⟩:=h4 r hr
 have cM:r<w.heap.size:=by
  rcases Nat.lt_or_ge r w.heap.size with hl|hl
  ·exact hl
  ·rw[Array.getElem?_eq_none hl]at g2;cases g2
 refine⟨g1,(ht.keep.block r cM g3).trans g2,fun hl=> ?_⟩
 rcases ht.grow r hl with h|h
 ·exact g3 h
 ·omega
structure cu (M:Nat->Prop) (cN:Place) (H0:Hp) (w0:World) (n:Nat) (cx:Cx) (φ:Place) (s:S) (a:Act) (w:World):Prop where
 heap:aE M φ s.H w
 tr:Trans cN H0 w0 φ s.H w
 size:a.tmps.size=n
 defers:u6 cx w0 φ s.H w a.defers
 env:∀i,V.den (ay M φ s.H) φ s.H w (s.env i) (a.tmps.getD i undef)
variable {cN:Place}{H0:Hp}{w0:World}{n:Nat}{s:S}{a:Act}{cx:Cx}{ro:Option Nat}{k:Nat}
theorem du{f:FuncId}{args:Array Value}{R:Ending->World->Prop}(h:Calls P f args w R):CallsIn (ey ro) k P f args w R:=
 ⟨trivial,fun cs _=>let⟨e,w',fr,r,s,x⟩:=h cs;⟨e,w',fr,r,comesIn_wide.2 s,x⟩⟩
theorem Cm{f:FuncId}{args:Array Value}{R:Ending->World->Prop}(h:CallsIn (ey ro) k P f args w R):Calls P f args w R:=
 fun cs=>let⟨e,w',fr,r,s,x⟩:=h.2 cs (fun _ h=>by simp[ey]at h);⟨e,w',fr,r,comesIn_wide.1 s,x⟩
theorem la{o:Oper}{next:Act->World->Prop}{Q:Exit->Act->World->Prop}(hnd:∀c,o.op≠ .defer c)(h:o.uponIn (ey ro) k P a next Q ((execOp a.eval o).run P w)):o.wpIn (ey ro) k P a w next Q:=
 ⟨fun _ _=>trivial,by rw[Oper.semAt_eq _ _ _ hnd];exact h⟩
theorem oo(hs:cu M cN H0 w0 n cx φ s a w){aN:Place}{H':Hp}(hH:aE M aN H' w')(ht:Trans φ s.H w aN H' w'){v:V}{val:Value}(hd:V.den (ay M aN H') aN H' w' v val){dst:Option Tmp}(de:iz n dst)
 {o':Nat->ab} {nx':Nat} (ho:H'.o=o') (hu:∀id,H'.us id->id<nx'):cu M cN H0 w0 n cx aN ⟨bt s.env dst v,o',nx'⟩ (a.put dst val) w':=by
 obtain⟨k1,k2⟩:=kU hH hu
 subst ho
 refine⟨k1,hs.tr.trans (ht.trans k2), ?_, ?_,fun i=> ?_⟩
 ·cases dst<;>simp[Act.put,hs.size]
 ·have:=hs.defers.mono (ht.trans k2);cases dst<;>exact this
 ·cases dst with
  |none=>exact O5
  |some d=>
   simp only[iz]at de
   simp only[bt,aQ,Act.put]
   by_cases hi:i=d
   ·subst hi
    have h1:(a.tmps.setIfInBounds i val).getD i undef=val:=by simp[Array.getD,hs.size,de]
    rw[if_pos rfl,h1]
    exact V.aW k2 _ _ hd
   ·have h1:(a.tmps.setIfInBounds d val).getD i undef=a.tmps.getD i undef:=by
     exact Wp
    rw[if_neg hi,h1]
    exact O5
theorem fm(hs:cu M cN H0 w0 n cx φ s a w){aN:Place}{H':Hp}(hH:aE M aN H' w')(ht:Trans φ s.H w aN H' w'){o':Nat->ab}{nx':Nat}(ho:H'.o=o')(hu:∀id,H'.us id->id<nx'):
 cu M cN H0 w0 n cx aN ⟨s.env,o',nx'⟩ a w':=by
 obtain⟨k1,k2⟩:=kU hH hu
 subst ho
 exact⟨k1,hs.tr.trans (ht.trans k2),hs.size,hs.defers.mono (ht.trans k2),fun i=>V.aW (ht.trans k2) _ _ (hs.env i)⟩
theorem LR{Δ:List (Nat×ab)}(h:∀id∈Δ.map (·.1),s.H.us id\/id=s.nx)(id:Nat)(hu:(s.H.put Δ).us id):id<s.nx+1:=by
 rcases hu with hu|hu
 ·exact Nat.lt_succ_of_lt hu
 ·rcases h id hu with h|h
  ·exact Nat.lt_succ_of_lt h
  ·omega
variable {next:Act->World->Prop}{Q:Exit->Act->World->Prop}{X:V->S->Prop}{K:S->Prop}
theorem LS(hs:cu M cN H0 w0 n cx φ s a w){o:Oper}{op:Op}(fl:o.op=op)(de:iz n o.dst)(h:SW P s s.nx op fun v Δ _=>K ⟨bt s.env o.dst v,put s.o Δ,s.nx+1⟩)
 (hN:∀s' aN a' w',K s'->cu M cN H0 w0 n cx aN s' a' w'->next a' w'):o.wpIn (ey ro) k P a w next Q:=by
 obtain⟨nx,val,w',aN,v,Δ,rd,hK,hr,uj,g1,g2,g3,g4⟩:=yg hs.heap (s:=s) rfl hs.env (fr:=s.nx) (by simp[S.H]) fl h
 have Ad:=oo hs g1 g2 g3 de (o':=put s.o Δ) (nx':=s.nx+1) rfl (LR g4)
 refine la (fun c hc=>by rw[fl]at hc;subst hc;exact h) ?_
 rw[hr]
 rcases uj with rfl|⟨rfl,rfl⟩
 ·exact hN _ _ _ _ hK Ad
 ·exact hN _ _ _ _ hK Ad
theorem V.qd {B:Nat->Prop}{cw bs cs:List V}{u v x:List Value}(h1:V.aM B φ H w cw u)(h2:V.aM B φ H w bs v)(h3:V.aM B φ H w cs x):V.aM B φ H w (cw++bs++cs) (u++v++x):=
 V.bF _ _ _ _ (V.bF _ _ _ _ h1 h2) h3
theorem lU{f:FuncId}(h:Enters P f)(args:Array Value):(callFunc f args).run P w= .ok (.enter f args) w:=by
 obtain⟨fn,h1,h2,h3⟩:=h
 have kQ:fn.name≠ "runtime.NumGoroutine" :=by simpa using h2
 have sb:fn.body≠none:=fun h=>by rw[h]at h3;cases h3
 simp[callFunc,h1,kQ,sb]
theorem nb:∀ {rs:List D} {val:Value},R.is (ay M φ H) w (.ret rs) (.returned val)->V.den (ay M φ H) φ H w (jR rs) val
 |[],_,h=>by obtain⟨arr,rfl,h⟩:=h;exact⟨arr,rfl,h⟩
 |[x],_,h=>h
 |x::y::l,_,h=>by obtain⟨arr,rfl,h⟩:=h;exact⟨arr,rfl,(V.cD (x::y::l) _).2 h⟩
theorem R.Ae {B B':Nat->Prop}:∀ {out:R} {e:Ending},out.flat=true->out.is B w e->out.is B' w e
 | .ret [], .returned _,_,h=>by obtain⟨arr,rfl,h⟩:=h;exact⟨arr,rfl,h⟩
 | .ret [x], .returned _,hf,h=>by
   simp only[R.flat,D.ku,Bool.and_true]at hf
   exact D.qx x _ hf h
 | .ret (x::y::l), .returned _,hf,h=>by obtain⟨arr,rfl,h⟩:=h;exact⟨arr,rfl,D.mn (x::y::l) _ hf h⟩
 | .bP d, .panicked _,hf,h=>by obtain⟨v,rfl,h⟩:=h;exact⟨v,rfl,D.qx d v hf h⟩
 | .ret [], .panicked _,_,h| .ret [_], .panicked _,_,h| .ret (_::_::_), .panicked _,_,h| .ret [], .outgrown,_,h| .ret [_], .outgrown,_,h| .ret (_::_::_), .outgrown,_,h| .bP _, .returned _,_,h| .bP _, .outgrown,_,h=>h.elim
theorem R.LU {B B':Nat->Prop}{w':World}(hb:∀b,qh w' b-> ¬B b-> ¬B' b):∀ {out:R} {e:Ending},out.nu=true->out.is B w' e->out.is B' w' e
 | .ret [], .returned _,_,h=>by obtain⟨arr,rfl,h⟩:=h;exact⟨arr,rfl,h⟩
 | .ret [x], .returned _,hf,h=>by
   simp only[R.nu,D.mo,Bool.and_true]at hf
   exact D.lR (fun b hc hn=>⟨rfl,hb b hc hn⟩) x _ hf h
 | .ret (x::y::l), .returned _,hf,h=>by obtain⟨arr,rfl,h⟩:=h;exact⟨arr,rfl,D.nv (fun b hc hn=>⟨rfl,hb b hc hn⟩) (x::y::l) _ hf h⟩
 | .bP d, .panicked _,hf,h=>by obtain⟨v,rfl,h⟩:=h;exact⟨v,rfl,D.lR (fun b hc hn=>⟨rfl,hb b hc hn⟩) d v hf h⟩
 | .ret [], .panicked _,_,h| .ret [_], .panicked _,_,h| .ret (_::_::_), .panicked _,_,h| .ret [], .outgrown,_,h| .ret [_], .outgrown,_,h| .ret (_::_::_), .outgrown,_,h| .bP _, .returned _,_,h| .bP _, .outgrown,_,h=>h.elim
theorem LV(hH:aE M φ H w){o:Nat->ab}:∀ (vs:List V) (vals:List Value),(∀id∈dy o vs,H.o id=(o id).fz)->V.aM (ay M φ H) φ H w vs vals->V.aM (ay M φ H) φ H w (vs.map (LO o)) vals
 |[],_,_,h=>h
 |v::vs,_,ho,h=>by
  obtain⟨u,us,rfl,h1,h2⟩:=h
  refine⟨u,us,rfl, ?_,LV hH vs us (fun id aC=>ho id (by simp[dy,aC])) h2⟩
  unfold LO
  split
  ·rename_i x hx
   exact gG hH v x u (fun id aC=>ho id (by simp[dy,hx,aC])) hx h1
  ·exact h1
theorem iA:∀ (vs:List V) (vals:List Value) (o:Nat->ab),V.aM (ay M φ H) φ H w vs vals->∀id∈dy o vs,H.us id
 |[],_,_,_,j,hj=>by simp[dy]at hj
 |v::vs,_,o,h,j,hj=>by
  obtain⟨u,us,rfl,h1,h2⟩:=h
  simp only[dy,List.mem_append]at hj
  rcases hj with hj|hj
  ·cases hx:ew o v with
   |none=>simp[hx]at hj
   |some x=>simp only[hx]at hj;exact dq v u h1 j hj
  ·exact iA vs us o h2 j hj
theorem yh(hs:cu M cN H0 w0 n cx φ s a w){o:Oper}{g:FuncId}{all:List V}{vals:Array Value}(de:iz n o.dst)(fM:Enters P g->(execOp a.eval o).run P w= .ok (.enter g vals) w)(bw:V.aM (ay M φ s.H) φ s.H w all vals.toList)
 (h:cK P g all s.o s.nx (fun v o' nx'=>K ⟨bt s.env o.dst v,o',nx'⟩) (fun v o' nx'=>X v ⟨s.env,o',nx'⟩))
 (hN:∀s' aN a' w',K s'->cu M cN H0 w0 n cx aN s' a' w'->next a' w')
 (hQ:∀v s' aN w' val,X v s'->cu M cN H0 w0 n cx aN s' a w'->V.den (ay M aN s'.H) aN s'.H w' v val->Q (.panic [{v:=val,recovered:=false}]) a w'):o.uponIn (ey ro) k P a next Q ((execOp a.eval o).run P w):=by
 have fA:=h.2 M φ w vals hs.heap bw
 rw[fM h.1]
 refine⟨fun hd=>by simp[ey]at hd,du (fA.mono fun e w' ⟨aN,o',nx',v,k1,k2,k3⟩=> ?_)⟩
 cases e with
 |returned val=>exact RG
 |panicked ch=>
  obtain⟨val,rfl,k4,k5⟩:=k3
  exact abm
 |outgrown=>exact k3.elim
theorem Cn(hs:cu M cN H0 w0 n cx φ s a w){o:Oper}{g:FuncId}{all:List V}{vals:Array Value}(de:iz n o.dst)(fM:Enters P g->(execOp a.eval o).run P w= .ok (.enter g vals) w)(bw:V.aM (ay M φ s.H) φ s.H w all vals.toList)
 (h:u4 P s g all (fun v o' nx'=>K ⟨bt s.env o.dst v,o',nx'⟩) (fun v o' nx'=>X v ⟨s.env,o',nx'⟩))
 (hN:∀s' aN a' w',K s'->cu M cN H0 w0 n cx aN s' a' w'->next a' w')
 (hQ:∀v s' aN w' val,X v s'->cu M cN H0 w0 n cx aN s' a w'->V.den (ay M aN s'.H) aN s'.H w' v val->Q (.panic [{v:=val,recovered:=false}]) a w'):o.uponIn (ey ro) k P a next Q ((execOp a.eval o).run P w):=by
 unfold u4 at h
 obtain⟨f1,f2,f3,f4,f5⟩:=dx hs.heap (V.bD all) (dh all _ bw)
 have lz:s.H.put (dk s.H.o (V.bD all))=⟨put s.o (dk s.o (V.bD all)),s.H.us⟩:=lT KI
 have ny:=V.aY f2 _ _ bw
 rcases h with⟨ds,out,fG,hP,hK⟩|⟨ds,out,fG,hP,rD,hK⟩|⟨ds,out,fG,hP,hnm,hK⟩|hC|hC
 ·have xZ:=dJ f1 all ds _ f3 fG ny
  have hM:∀b,ay M φ (s.H.put (dk s.H.o (V.bD all))) b->b<w.heap.size:=fun b hb=>hb.elim (f1.Br b) fun hl=>(f1.ours b hl).2
  have fA:=hP.2 _ w vals hM xZ
  rw[fM hP.1]
  refine⟨fun hd=>by simp[ey]at hd,du (fA.mono fun e w' ⟨hk,ho⟩=> ?_)⟩
  obtain⟨k1,k2⟩:=gZ f1 hk
  cases out with
  |ret rs=>
   cases e with
   |returned val=>
    refine hN _ _ _ _ hK (oo hs k1 (f2.trans k2) (nb ho) de (by rw[lz]) ?_)
    intro id hu;rw[lz]at hu;exact Nat.lt_succ_of_lt hu
   |panicked ch=>exact wZ
   |outgrown=>exact wZ
  |bP x=>
   cases e with
   |returned val=>exact ho.elim
   |panicked ch=>
    obtain⟨val,rfl,hd⟩:=ho
    have Ad:=fm hs k1 (f2.trans k2) (o':=put s.o (dk s.o (V.bD all))) (nx':=s.nx+1) (by rw[lz]) (fun id hu=>by rw[lz]at hu;exact Nat.lt_succ_of_lt hu)
    refine hQ _ _ _ _ val hK Ad ?_
    have e1:ay M φ (S.H ⟨s.env,put s.o (dk s.o (V.bD all)),s.nx+1⟩)=ay M φ (s.H.put (dk s.H.o (V.bD all))):=by rw[lz];rfl
    simp only[V.den]
    rw[e1];exact hd
   |outgrown=>exact ho.elim
 ·have xZ:=dJ f1 all ds _ f3 fG ny
  have hM:∀b,ay M φ (s.H.put (dk s.H.o (V.bD all))) b->b<w.heap.size:=fun b hb=>hb.elim (f1.Br b) fun hl=>(f1.ours b hl).2
  have fA:=hP.2 _ w vals hM xZ
  rw[fM hP.1]
  refine⟨fun hd=>by simp[ey]at hd,du (fA.mono fun e w' ⟨hk,ho⟩=> ?_)⟩
  obtain⟨k1,k2⟩:=gZ hs.heap hk
  have ho:=R.Ae (B':=ay M φ s.H) rD ho
  cases out with
  |ret rs=>
   cases e with
   |returned val=>
    exact hN _ _ _ _ hK (oo hs k1 k2 (nb ho) de rfl fun id hu=>Nat.lt_succ_of_lt hu)
   |panicked ch=>exact wZ
   |outgrown=>exact wZ
  |bP x=>
   cases e with
   |returned val=>exact ho.elim
   |panicked ch=>
    obtain⟨val,rfl,hd⟩:=ho
    exact hQ _ _ _ _ val hK (fm hs k1 k2 (o':=s.o) (nx':=s.nx+1) rfl fun id hu=>Nat.lt_succ_of_lt hu) hd
   |outgrown=>exact ho.elim
 ·obtain⟨a1,a2,a3,a4,a5⟩:=dx hs.heap ((V.bD all).filter fun id=>(s.o id).lS) (fun id aC=>dh all _ bw id (List.mem_filter.1 aC).1)
  have Co:s.H.put (dk s.H.o ((V.bD all).filter fun id=>(s.o id).lS))=⟨put s.o (rQ s.o (V.bD all)),s.H.us⟩:=by
   rw[PF]
   exact lT (by rw[ue];exact fun id aC=>dh all _ bw id (List.mem_filter.1 aC).1)
  have xZ:=dJ f1 all ds _ f3 fG ny
  have hM:∀b,ay M φ (s.H.put (dk s.H.o (V.bD all))) b->b<w.heap.size:=fun b hb=>hb.elim (f1.Br b) fun hl=>(f1.ours b hl).2
  have fA:=hP.2 _ w vals hM xZ
  rw[fM hP.1]
  refine⟨fun hd=>by simp[ey]at hd,du (fA.mono fun e w' ⟨hk,ho⟩=> ?_)⟩
  obtain⟨k1,k2⟩:=gZ a1 hk
  have me:∀b,qh w' b-> ¬ay M φ (s.H.put (dk s.H.o (V.bD all))) b-> ¬ay M φ (s.H.put (dk s.H.o ((V.bD all).filter fun id=>(s.o id).lS))) b:=by
   intro b hc hn hm
   rcases hm with hM|⟨id,hl,hb⟩
   ·exact hn (.inl hM)
   ·by_cases aC:id∈V.bD all
    ·cases hx:s.H.o id with
     |arr ep ty sz es=>
      rw[a3 id (List.mem_filter.2 ⟨aC,by show(s.H.o id).lS=true;rw[hx];rfl⟩),hx]at hl
      cases hl
     |map kt vt l=>
      have m8:id∉(V.bD all).filter fun id=>(s.o id).lS:=fun h=>by
       have h2:(s.H.o id).lS=true:=(List.mem_filter.1 h).2
       rw[hx]at h2;cases h2
      have bn:=k1.ok id
      unfold aX at bn
      rw[a4 id m8,hx]at bn
      obtain⟨b',es,clock,g1,g2,_⟩:=bn
      rw[g1]at hb
      injection hb with hb
      subst hb
      obtain⟨cs,ty,fz,hc⟩:=hc
      rw[g2]at hc
      cases hc
     |_=>
      have m8:id∉(V.bD all).filter fun id=>(s.o id).lS:=fun h=>by
       have h2:(s.H.o id).lS=true:=(List.mem_filter.1 h).2
       rw[hx]at h2;cases h2
      refine hn (.inr ⟨id, ?_,hb⟩)
      rw[a4 id m8,hx]at hl
      rw[f3 id aC,hx]
      exact hl
    ·have m8:id∉(V.bD all).filter fun id=>(s.o id).lS:=fun h=>aC (List.mem_filter.1 h).1
     refine hn (.inr ⟨id, ?_,hb⟩)
     rw[a4 id m8]at hl
     rw[f4 id aC]
     exact hl
  have ho:=R.LU (w':=w') (B':=ay M φ (s.H.put (dk s.H.o ((V.bD all).filter fun id=>(s.o id).lS)))) me hnm ho
  cases out with
  |ret rs=>
   cases e with
   |returned val=>
    refine hN _ _ _ _ hK (oo hs k1 (a2.trans k2) (nb ho) de (by rw[Co]) ?_)
    intro id hu;rw[Co]at hu;exact Nat.lt_succ_of_lt hu
   |panicked ch=>exact wZ
   |outgrown=>exact wZ
  |bP x=>
   cases e with
   |returned val=>exact ho.elim
   |panicked ch=>
    obtain⟨val,rfl,hd⟩:=ho
    have Ad:=fm hs k1 (a2.trans k2) (o':=put s.o (rQ s.o (V.bD all))) (nx':=s.nx+1) (by rw[Co]) (fun id hu=>by rw[Co]at hu;exact Nat.lt_succ_of_lt hu)
    refine hQ _ _ _ _ val hK Ad ?_
    have e1:ay M φ (S.H ⟨s.env,put s.o (rQ s.o (V.bD all)),s.nx+1⟩)=ay M φ (s.H.put (dk s.H.o ((V.bD all).filter fun id=>(s.o id).lS))):=by rw[Co];rfl
    simp only[V.den]
    rw[e1];exact hd
   |outgrown=>exact ho.elim
 ·exact yh hs de fM bw hC hN hQ
 ·obtain⟨f1,f2,f3,f4,f5⟩:=dx hs.heap (dy s.o all) (iA all _ s.o bw)
  have lz:s.H.put (dk s.H.o (dy s.o all))=hp (put s.o (dk s.o (dy s.o all))) s.nx:=lT (by rw[ue];exact iA all _ s.o bw)
  have ny:=LV f1 all _ f3 (V.aY f2 _ _ bw)
  rw[lz]at f1 f2 ny
  exact yh (s:=⟨s.env,put s.o (dk s.o (dy s.o all)),s.nx⟩) (fm hs f1 f2 rfl fun id hu=>hu) de fM ny hC hN hQ
theorem PG(hs:cu M cN H0 w0 n cx φ s a w){o:Oper}{c:Call}{f:Operand}(fl:o.op= .call c)(hc:c.callee= .value f)(de:iz n o.dst)
 (h:Cl P s (s.ev f) (c.args.toList.map s.ev) (fun v o' nx'=>K ⟨bt s.env o.dst v,o',nx'⟩) (fun v o' nx'=>X v ⟨s.env,o',nx'⟩))
 (hN:∀s' aN a' w',K s'->cu M cN H0 w0 n cx aN s' a' w'->next a' w')
 (hQ:∀v s' aN w' val,X v s'->cu M cN H0 w0 n cx aN s' a w'->V.den (ay M aN s'.H) aN s'.H w' v val->Q (.panic [{v:=val,recovered:=false}]) a w'):o.wpIn (ey ro) k P a w next Q:=by
 refine la (fun c' Af=>by rw[fl]at Af;cases Af) ?_
 have hf:=nm (M:=M) (φ:=φ) (H:=s.H) (w:=w) s a hs.env f
 have eA:=kW (M:=M) (φ:=φ) (H:=s.H) (w:=w) s a hs.env c.args.toList
 unfold Cl at h
 split at h
 ·rename_i g first cap w7
  rw[w7]at hf
  obtain⟨fa,ca,WI,Er,hca⟩:=hf
  have bw:V.aM (ay M φ s.H) φ s.H w (first++c.args.toList.map s.ev++cap) (fa++c.args.map a.eval++ca).toList:=by
   exact Sq
  generalize first++c.args.toList.map s.ev++cap=all at h bw
  generalize qe:fa++c.args.map a.eval++ca=vals at bw
  have fM:Enters P g->(execOp a.eval o).run P w= .ok (.enter g vals) w:=by
   intro he
   have:=lU (w:=w) he (fa++c.args.map a.eval++ca)
   rw[qe]at this
   simp[execOp,fl,resolve,hc,WI,Deferred.ofValue,invoke,this,qe]
  exact Cn hs de fM bw h hN hQ
 ·rename_i id w7
  rw[w7]at hf
  obtain⟨_,fS,hp'⟩:=hf
  obtain⟨cq,hR⟩:=h
  obtain⟨b,fk,WI⟩:=hp' cq
  obtain⟨fn,tmps,assign,body,h1,h2⟩:=hR M φ w (c.args.map a.eval) b hs.heap (by rw[Array.toList_map];exact eA) fk
  have fM:(execOp a.eval o).run P w= .ok (.round b fn tmps assign body) w:=by
   simp[execOp,fl,resolve,hc,WI,Deferred.ofValue,invoke,h1]
  rw[fM]
  refine⟨fun hd=>by simp[ey]at hd,RoundIn.mono (h2 (k - 1)) fun e w' ⟨aN,o',nx',v,k1,k2,k3⟩=> ?_⟩
  cases e with
  |returned val=>exact RG
  |panicked ch=>
   obtain⟨val,rfl,k4,k5⟩:=k3
   exact abm
  |outgrown=>exact k3.elim
 ·exact h.elim
theorem It(hs:cu M cN H0 w0 n cx φ s a w){o:Oper}{c:Call}{r:Operand}{m:String}{g:FuncId}{y:V}(fl:o.op= .call c)(hc:c.callee= .invoke r m)(de:iz n o.dst)(hr:u5 P m (s.ev r)=some (g,y))
 (h:u4 P s g (y::c.args.toList.map s.ev) (fun v o' nx'=>K ⟨bt s.env o.dst v,o',nx'⟩) (fun v o' nx'=>X v ⟨s.env,o',nx'⟩))
 (hN:∀s' aN a' w',K s'->cu M cN H0 w0 n cx aN s' a' w'->next a' w')
 (hQ:∀v s' aN w' val,X v s'->cu M cN H0 w0 n cx aN s' a w'->V.den (ay M aN s'.H) aN s'.H w' v val->Q (.panic [{v:=val,recovered:=false}]) a w'):o.wpIn (ey ro) k P a w next Q:=by
 refine la (fun c' Af=>by rw[fl]at Af;cases Af) ?_
 have hf:=nm (M:=M) (φ:=φ) (H:=s.H) (w:=w) s a hs.env r
 have eA:=kW (M:=M) (φ:=φ) (H:=s.H) (w:=w) s a hs.env c.args.toList
 unfold u5 at hr
 split at hr
 ·rename_i t d hx
  rw[hx]at hf
  obtain⟨val,hv,hd⟩:=hf
  split at hr
  ·rename_i ti hti
   split at hr
   ·rename_i mr uk
    split at hr
    ·rename_i f JZ
     split at hr
     ·rename_i S4
      injection hr with hr
      injection hr with h1 h2
      subst h1;subst h2
      refine Cn (vals:=#[val]++c.args.map a.eval) hs de ?_ ?_ h hN hQ
      ·intro he
       have fM:=lU (w:=w) he (#[val]++c.args.map a.eval)
       have hpa:mr.path=#[]:=Array.isEmpty_iff.1 S4.1
       have hu:∃u,P.underlying t=some u/\∀e,u≠ .pointer e:=by
        have:=S4.2
        unfold S3 at this
        split at this
        ·cases this
        ·rename_i u ik hu;exact⟨u,hu,fun e he=>ik e he⟩
        ·cases this
       obtain⟨u,hu,S5⟩:=hu
       have hm:(method (P.types.size+Made.depth) t val m).run P w= .ok (f,val) w:=by
        have:P.types.size+Made.depth=(P.types.size+Made.depth - 1)+1:=by simp[Made.depth]
        rw[this]
        cases u<;>first|exact absurd rfl (S5 _)|simp[method,typeInfo,hti,uk,hpa,JZ,follow,receiverAt,run_underlying hu,_root_.Go.Place.get]
       have h0:(#[Value.iface t val]++Array.map a.eval c.args)[0]? =some (.iface t val):=by
        rw[Array.getElem?_append_left (by simp)];rfl
       have h1:(Array.map a.eval c.args).extract 0 c.args.size=Array.map a.eval c.args:=by
        rw[show c.args.size=(Array.map a.eval c.args).size from by simp,Array.extract_size]
       simp[execOp,fl,resolve,hc,invoke,callMethod,hv,h0,h1,hm,fM]
      ·simp only[Array.toList_append,Array.toList_map]
       exact⟨val,_,rfl,hd,eA⟩
     ·cases hr
    ·cases hr
   ·cases hr
  ·cases hr
 ·cases hr
theorem yi(hs:cu M cN H0 w0 n cx φ s a w){o:Oper}(h:opW P n s o X K)
 (hN:∀s' aN a' w',K s'->cu M cN H0 w0 n cx aN s' a' w'->next a' w')
 (hQ:∀v s' aN w' val,X v s'->cu M cN H0 w0 n cx aN s' a w'->V.den (ay M aN s'.H) aN s'.H w' v val->Q (.panic [{v:=val,recovered:=false}]) a w'):o.wpIn (ey ro) k P a w next Q:=by
 obtain⟨de,h⟩:=h
 split at h
 ·rename_i c fl
  split at h
  ·rename_i f hc
   exact PG hs fl hc de h hN hQ
  ·rename_i r m hc
   split at h
   ·rename_i g y hr;exact It hs fl hc de hr h hN hQ
   ·exact h.elim
  ·exact LS hs rfl de h hN
 ·rename_i x fl
  have hx:=nm (M:=M) (φ:=φ) (H:=s.H) (w:=w) s a hs.env x
  have bP:∀ (t:TypeId) (u:Value),a.eval x= .iface t u->Q (.panic [{v:= .iface t u,recovered:=false}]) a w->o.wpIn (ey ro) k P a w next Q:=by
   intro t u hu hq
   refine la (fun c hc=>by rw[fl]at hc;cases hc) ?_
   have hr:(execOp a.eval o).run P w= .halt (.panic (.iface t u)) w:=by simp[execOp,fl,hu,Instr.panic]
   rw[hr];exact hq
  split at h
  ·rename_i t y hv
   rw[hv]at hx
   obtain⟨u,hu,hd⟩:=hx
   exact RI
  ·rename_i t y hv
   rw[hv]at hx
   obtain⟨u,hu,hd⟩:=hx
   exact RI
  ·exact h.elim
 ·exact LS hs rfl de h hN
end
end
end Go.Proofs.YtonbelhklnmjnaaGreat
namespace Go
def Code.tN (P:Program)(ro:Option Nat)(c:Code)(Q:Exit->Act->World->Prop)(a:Act)(w:World):Prop:=
 ∀ (b:Frame) (k:List Item) (cs:List Frame),b.roundOf=ro->b.fn<P.funcs.size->
   ∃e a' w',Q e a' w'/\ArrivesIn (Machine.fenced P (Proofs.YtonbelhklnmjnaaGreat.ey ro)) P (lone (b.atR a (.code c::k)) cs w) b k cs e a' w'
end Go
namespace Go.Proofs.YtonbelhklnmjnaaGreat
instance:LawfulMonad Sem:=LawfulMonad.mk' Sem (id_map:=fun x=>Sem.bind_pure' x) (pure_bind:=fun _ _=>rfl) (bind_assoc:=fun x f g=>Sem.bind_assoc' x f g)
section
variable {P:Program}{M:Nat->Prop}{φ:Place}{H:Hp}{w w':World}{cN:Place}{H0:Hp}{w0:World}{n b:Nat}{s:S}{a:Act}{cx:Cx}{ro:Option Nat}{k:Nat}
theorem qA(hs:cu M cN H0 w0 n cx φ s a w){ops:Array Oper}{o:Oper}{A B:Prop}(h:Ab s ops o.guard A B):
 (Region.wanted o (yielded ops a.tmps)=true->A)/\(Region.wanted o (yielded ops a.tmps)=false->B):=by
 unfold Ab at h
 unfold Region.wanted
 split at h
 ·rename_i hg;simp only[hg];exact⟨fun _=>h,fun h=>by cases h⟩
 ·rename_i j want hg
  simp only[hg]
  unfold sW at h
  unfold yielded
  split at h
  ·rename_i d hd
   simp only[hd,Option.bind_some]
   have eU:=hs.env d
   split at h
   ·rename_i c hv
    rw[hv]at eU
    simp only[V.den,D.den]at eU
    have:a.tmps[d]? =some (.bool c):=by
     rw[Array.getD_eq_getD_getElem?]at eU
     cases hx:a.tmps[d]? with
     |none=>rw[hx]at eU;simp[undef]at eU
     |some x=>rw[hx]at eU;simp at eU;rw[eU]
    simp only[this]
    by_cases hc:c=want
    ·subst hc;exact⟨fun _=>h.1 rfl,fun h=>by simp at h⟩
    ·exact⟨fun h'=>absurd (by simpa using h') hc,fun _=>h.2 hc⟩
   ·rename_i hv
    rw[hv]at eU
    obtain⟨arr,dC,hn⟩:=eU
    simp only[V.aM]at hn
    have:∀c,a.tmps[d]? ≠some (.bool c):=by
     exact SS
    cases hx:a.tmps[d]? with
    |none=>exact⟨fun h=>by simp at h,fun _=>h⟩
    |some x=>cases x<;>first|(exact absurd hx (this _))|(exact⟨fun h=>by simp at h,fun _=>h⟩)
   ·exact h.elim
  ·rename_i hd
   simp only[hd,Option.bind_none]
   exact⟨fun h=>by simp at h,fun _=>h⟩
theorem Cp(hs:cu M cN H0 w0 n cx φ s a w){dst:Option Tmp}(de:iz n dst):cu M cN H0 w0 n cx φ ⟨bt s.env dst (.cg []),s.o,s.nx+1⟩ (a.put dst undef) w:=
 oo (v:= .cg []) (val:=undef) hs hs.heap (Trans.refl _ _ _) ⟨#[],rfl,rfl⟩ de rfl fun _ hu=>Nat.lt_succ_of_lt hu
theorem pE{ops:Array Oper}{X:V->S->Prop}{K:S->Prop}{Q:Exit->Act->World->Prop}
 (hK:∀s φ a w,K s->cu M cN H0 w0 n cx φ s a w->Q .normal a w)
 (hQ:∀v s' aN a w' val,X v s'->cu M cN H0 w0 n cx aN s' a w'->V.den (ay M aN s'.H) aN s'.H w' v val->Q (.panic [{v:=val,recovered:=false}]) a w'):
 ∀ (l:List Oper) (s:S) (φ:Place) (a:Act) (w:World),Ac P n ops X K l s->cu M cN H0 w0 n cx φ s a w->wpListIn (ey ro) k P ops Q l a w
 |[],s,φ,a,w,h,hs=>hK s φ a w h hs
 |o::l,s,φ,a,w,h,hs=>by
  obtain⟨h1,h2⟩:=qA hs h
  unfold wpListIn
  split
  ·rename_i hw
   exact yi hs (h1 hw) (fun s' aN a' w' hk jv=>pE hK hQ l s' aN a' w' hk jv) (fun v s' aN w' val hx jv hd=>hQ v s' aN a w' val hx jv hd)
  ·rename_i hw
   obtain⟨de,h3⟩:=h2 (by simpa using hw)
   exact⟨fun _ _=>trivial,pE hK hQ l _ _ _ _ h3 (Cp hs de)⟩
def Gt(M:Nat->Prop)(cN:Place)(H0:Hp)(w0:World)(n:Nat)(cx:Cx)(Q:fX->S->Prop)(e:Exit)(a:Act)(w:World):Prop:=
 ∃x s φ,Q x s/\cu M cN H0 w0 n cx φ s a w/\match e,x with
  | .normal, .normal=>True
  | .exit i, .exit j=>i=j
  | .ret, .ret=>True
  | .panic ch, .bP v=>∃val,ch=[{v:=val,recovered:=false}]/\V.den (ay M φ s.H) φ s.H w v val
  |_,_=>False
section
variable {Q:Exit->Act->World->Prop}
theorem iB{m:Nat}:(ey ro).room m:=fun d hd=>by simp[ey]at hd
theorem pF{c:Code}(h:c.wpIn (ey ro) k P Q a w):c.tN P ro Q a w:=fun b k cs uk _=>h b k cs uk trivial iB
theorem iC{c:Code}{Q':Exit->Act->World->Prop}(h:c.tN P ro Q a w)(hq:∀e a w,Q e a w->Q' e a w):c.tN P ro Q' a w:=
 fun b k cs uk hb=>let⟨e,a',w',q,r⟩:=h b k cs uk hb;⟨e,a',w',hq _ _ _ q,r⟩
theorem Gu(h:Q .ret a w):Code.ret.tN P ro Q a w:=pF (k:=0) (wpIn_ret h)
theorem Cq{id:Nat}(h:Q (.exit id) a w):(Code.exit id).tN P ro Q a w:=pF (k:=0) (wpIn_exit h)
theorem Ag{x y:Code}(h:x.tN P ro (Exit.then (y.tN P ro Q) Q) a w):(Code.seq x y).tN P ro Q a w:=by
 intro b k cs uk hb
 have h0:(lone (b.atR a (.code (.seq x y)::k)) cs w).fenced P (ey ro):=fenced_calm (n:=0) trivial iB rfl
 obtain⟨e,oM,j7,hq,dC⟩:=h b (.code y::k) cs uk hb
 cases e with
 |normal=>
  obtain⟨WJ,ab3,sc,qB,lb⟩:=hq b k cs uk hb
  exact⟨WJ,ab3,sc,qB, .of_steps (.head h0 stepR_seq dC) lb⟩
 |exit id=>exact Km
 |goto l=>exact Km
 |ret=>exact Km
 |panic ch=>exact Km
 |outgrown=>exact Km
theorem qC{c:Operand}{x y:Code}{t:Bool}(hc:a.eval c= .bool t)(h:(if t then x else y).tN P ro Q a w):(Code.cond c x y).tN P ro Q a w:=
 fun b k cs uk hb=>let⟨e,a',w',q,r⟩:=h b k cs uk hb;⟨e,a',w',q, .of_steps (.one (fenced_calm (n:=0) trivial iB rfl) (stepR_cond hc)) r⟩
theorem Iu{id:Nat}{c:Code}(h:c.tN P ro (Exit.inBlock id Q) a w):(Code.block id c).tN P ro Q a w:=by
 intro b k cs uk hb
 have h0:(lone (b.atR a (.code (.block id c)::k)) cs w).fenced P (ey ro):=fenced_calm (n:=0) trivial iB rfl
 obtain⟨e,oM,j7,hq,dC⟩:=h b (.inBlock id::k) cs uk hb
 cases e with
 |normal=>exact⟨.normal,oM,j7,hq, .head h0 stepR_block (StepsIn.trans dC (.one (fenced_calm (n:=0) trivial iB rfl) stepR_inBlock))⟩
 |exit Eg=>
  by_cases aC:Eg=id
  ·simp only[Exit.inBlock,aC,if_true]at hq
   exact⟨.normal,oM,j7,hq, .head h0 stepR_block (dC.1 k (by simp[exitTo,aC]))⟩
  ·simp only[Exit.inBlock,aC,if_false]at hq
   have this:(id==Eg)=false:=by simp;exact fun h=>aC h.symm
   have hx:exitTo Eg (.inBlock id::k)=exitTo Eg k:=by simp[exitTo,this]
   exact⟨.exit Eg,oM,j7,hq,fun k' hk=> .head h0 stepR_block (dC.1 k' xL),
    fun z7 hk=>let⟨k₁,h1,h2⟩:=dC.2 z7 xL;⟨k₁,h1, .head h0 stepR_block h2⟩⟩
 |goto l=>
  have hx:gotoIn l (.inBlock id::k)=gotoIn l k:=by simp[gotoIn]
  exact⟨_,oM,j7,hq,fun k' hk=> .head h0 stepR_block (dC.1 k' xL),
   fun z7 hk=>let⟨k₁,h1,h2⟩:=dC.2 z7 xL;⟨k₁,h1, .head h0 stepR_block h2⟩⟩
 |ret=>exact V0
 |panic ch=>exact V0
 |outgrown=>exact V0
theorem kT{b:Frame}{k:List Item}{cs:List Frame}{c:Code}:step P (lone (b.atR a (.code (.scope c)::k)) cs w)= .next (lone (b.atR a (.code c:: .inScope c::k)) cs w):=
 step_lone_go (by simp[stepG,stepG.exec,Frame.atR])
theorem xf{b:Frame}{k:List Item}{cs:List Frame}{c:Code}:step P (lone (b.atR a (.inScope c::k)) cs w)= .next (lone (b.atR a k) cs w):=
 step_lone_go (by simp[stepG,stepG.exec,Frame.atR])
theorem yj{c:Code}(h:c.tN P ro Q a w)(hg:∀l a w, ¬Q (.goto l) a w):(Code.scope c).tN P ro Q a w:=by
 intro b k cs uk hb
 have h0:(lone (b.atR a (.code (.scope c)::k)) cs w).fenced P (ey ro):=fenced_calm (n:=0) trivial iB rfl
 obtain⟨e,oM,j7,hq,dC⟩:=h b (.inScope c::k) cs uk hb
 cases e with
 |normal=>exact⟨.normal,oM,j7,hq, .head h0 kT (StepsIn.trans dC (.one (fenced_calm (n:=0) trivial iB rfl) xf))⟩
 |exit Eg=>
  have hx:exitTo Eg (.inScope c::k)=exitTo Eg k:=by simp[exitTo]
  exact⟨.exit Eg,oM,j7,hq,fun k' hk=> .head h0 kT (dC.1 k' xL),
   fun z7 hk=>let⟨k₁,h1,h2⟩:=dC.2 z7 xL;⟨k₁,h1, .head h0 kT h2⟩⟩
 |goto l=>exact(hg _ _ _ hq).elim
 |ret=>exact V1
 |panic ch=>exact V1
 |outgrown=>exact V1
def u7(P:Program)(l:Nat)(Q:Exit->Act->World->Prop)(a':Act):Ending->World->Prop
 | .returned _,EL=>∃jump tO,(Instr.endLoop l).run P EL= .ok jump tO/\(match jump with|none=>Q .normal a' tO|some c=>c.tN P none Q a' tO)
 | .panicked chain,EL=>Q (.panic chain) a' EL
 | .outgrown,_=>LetsOut Q
theorem xg{g:Operand}{ps:Array Tmp}{assign body:Code}
 (h:∀fn,fn<P.funcs.size->∃ (l:Nat) (mark:List Deferred) (j7:World) (d:Deferred) (yk:World) (f:FuncId) (args:Array Value) (sc:World),
  (Instr.enterLoop fn a.tmps ps assign body (ey none).round).run P w= .ok (l,mark) j7/\(resolve a.eval (rangeCall g l) 0).run P j7= .ok d yk/\
  (invoke d.target d.args).run P yk= .ok (.enter f args) sc/\CallsIn (ey none) 0 P f args sc (u7 P l Q {a with defers:=mark++a.defers})):
 (Code.rangeFunc g ps assign body).tN P none Q a w:=by
 intro b k cs uk hb
 obtain⟨l,mark,j7,d,yk,f,args,sc,he,Cr,hinv,hF,fA⟩:=h b.fn hb
 rw[show(ey none).round=b.roundOf from uk.symm]at he
 have calm:∀ (m:Machine),m.fenced P (ey none)↔m.fenced P Fence.wide:=fun m=>Iff.rfl
 have h0:(lone (b.atR a (.code (.rangeFunc g ps assign body)::k)) cs w).fenced P (ey none):=(calm _).2 (fenced_wide P _)
 have mu:=stepR_rangeFunc (P:=P) (b:=b) (a:=a) (k:=k) (cs:=cs) (w:=w) he Cr hinv
 obtain⟨e,EL,fr,hR,EM,JZ,LW⟩:=fA (b.atR {a with defers:=mark++a.defers} (.inRangeFunc l::k)::cs) iB
 cases e with
 |outgrown=>
  obtain⟨afC,afD,hq⟩:=hR
  exact⟨.outgrown,afC,afD,hq, .inr (Outgrown.of_steps (.one mu) EM)⟩
 |returned v=>
  obtain⟨jump,tO,cR,hj⟩:=hR
  have S6:StepsIn (Machine.fenced P (ey none)) P (lone (b.atR a (.code (.rangeFunc g ps assign body)::k)) cs w) (lone (b.atR {a with defers:=mark++a.defers} ((jump.map Item.code).toList++k)) cs tO):=by
   refine .head h0 mu (StepsIn.trans EM (.head ((calm _).2 (fenced_wide P _)) ?_ (.one ((calm _).2 (fenced_wide P _)) (stepR_endRangeFunc cR))))
   rw[<- finish_atR_inRangeFunc l v];exact step_leave_returned LW
  cases jump with
  |none=>exact⟨.normal,_,tO,hj,S6⟩
  |some c=>
   obtain⟨e',a'',afE,hq,dC⟩:=hj b k cs uk hb
   exact⟨e',a'',afE,hq, .of_steps S6 dC⟩
 |panicked chain=>
  refine⟨.panic chain,_,EL,hR, .inRangeFunc l::k, .head h0 mu (StepsIn.trans EM (.one ((calm _).2 (fenced_wide P _)) ?_))⟩
  rw[<- Frame.raise_atR];exact step_leave_panicked LW
end
theorem yl(hH:aE M φ H w){id l:Nat}(fS:H.us id){nf m:Nat}{env:List V}{ps:List Nat}{iW eS:IC}{st st':LoopState}{pd pd':Option jQ}(ho:H.o id= .loop nf m env ps iW eS st pd)(fk:φ id= .pointer (some ⟨l,0,none⟩)):
 ∃r,w.heap[l]? =some (.loop r)/\r.state=st/\r.pending=pd.map jQ.code/\
  aE M φ (H.put [(id, .loop nf m env ps iW eS st' pd')]) {w with heap:=w.heap.setIfInBounds l (.loop {r with state:=st',pending:=pd'.map jQ.code})}/\
  Trans φ H w φ (H.put [(id, .loop nf m env ps iW eS st' pd')]) {w with heap:=w.heap.setIfInBounds l (.loop {r with state:=st',pending:=pd'.map jQ.code})}:=by
 have bn:=hH.ok id
 simp only[aX,ho]at bn
 obtain⟨b,r,h1,h2,h0,h3,h4,h5,h6,h7,h8,h9⟩:=bn
 rw[fk]at h1;simp at h1;subst h1
 refine⟨r,h2,h3,h4, ?_⟩
 have LK:eT (· =l) w {w with heap:=w.heap.setIfInBounds l (.loop {r with state:=st',pending:=pd'.map jQ.code})}:=
  ⟨rfl,rfl,rfl,ao,fun j _ hj=>(MapKept.heap_set h2).2 j hj⟩
 have x8:(H.o id).live=true:=by rw[ho];rfl
 have Ee:eW (φ id)=some l:=by rw[fk];rfl
 have ht:=fw (w:=w) (w':={w with heap:=w.heap.setIfInBounds l (.loop {r with state:=st',pending:=pd'.map jQ.code})}) fS x8 Ee LK (.loop nf m env ps iW eS st' pd') fj fj
 refine⟨iX hH fS x8 Ee LK _ fj fj ?_,ht⟩
 unfold aX
 simp only[bT,aQ,if_true]
 exact⟨l,_,fk,(MapKept.heap_set h2).1,h0,rfl,rfl,h5,h6,h7,h8,fun i=>V.aW ht _ _ (h9 i)⟩
theorem jI{l:Nat}{r:Loop}(o:Obj)(hb:w.heap[l]? =some (.loop r)):(setObj l o).run P w= .ok () {w with heap:=w.heap.setIfInBounds l o}:=by
 simp[setObj,Sem.run,hb]
theorem lg{l:Nat}{r:Loop}(hb:w.heap[l]? =some (.loop r)):(Instr.getLoop l).run P w= .ok r w:=by
 simp[Instr.getLoop,getObj,Sem.run,hb,Result.andThen]
end
def pG(Q:fX->S->Prop)(pd:Option jQ)(s:S):Prop:=
 match pd with
 |none=>Q .normal s
 |some .ret=>Q .ret s
 |some (.exit id)=>Q (.exit id) s
def Cs(P:Program)(n:Nat)(g:V)(ps:List Nat)(iW eS:IC)(Q:fX->S->Prop)(s:S):Prop:=
 ∃env,(∀i,bp env i= .aa\/bp env i=s.env i)/\
  match g with
  | .func (.func f) first cap=>oU P f (first++[.jW s.nx]++cap) (aK s.o s.nx (.loop P.funcs.size n env ps iW eS .ready none)) (s.nx+1)
    (fun _ o' nx'=>∃nf m e p c d st pd,o' s.nx= .loop nf m e p c d st pd/\st≠ .busy/\pG Q pd ⟨s.env,aK o' s.nx (.loop nf m e p c d .exhausted pd),nx'⟩)
    (fun v o' nx'=>Q (.bP v) ⟨s.env,o',nx'⟩)
  |_=>False
def ab4(P:Program)(n b:Nat)(g:Operand)(ps:List Nat)(iW eS:IC)(Q:fX->S->Prop)(s:S):Prop:=∃s',(s'=s\/bJ b s s')/\Cs P n (s'.ev g) ps iW eS Q s'
def jO(P:Program)(n b:Nat)(rd:Bool):Code->(fX->S->Prop)->S->Prop
 | .skip,Q,s=>Q .normal s
 | .label _,Q,s=>Q .normal s
 | .scope x,Q,s=>jO P n b rd x Q s
 | .region _ ops false,Q,s=>Ac P n ops (fun v s=>Q (.bP v) s) (Q .normal) ops.toList s
 | .region id ops true,Q,s=>∀M cN H0 w0 cx φ a w ro k,cu M cN H0 w0 n cx φ s a w->(Code.region id ops true).wpIn (ey ro) k P (Gt M cN H0 w0 n cx Q) a w
 | .seq x y,Q,s=>jO P n b rd x (qz (jO P n b rd y Q) Q) s
 | .cond c x y,Q,s=>match s.ev c with
   | .d (.bool t)=>(t=true->jO P n b rd x Q s)/\(t=false->jO P n b rd y Q s)
   | .fq=>jO P n b rd x Q s/\jO P n b rd y Q s
   |_=>False
 | .block id x,Q,s=>jO P n b rd x (fY id Q) s
 | .loop x,Q,s=>∃ (J:Nat->S->Prop),(∃m s1,bJ b s s1/\J m s1)/\∀m s0,J m s0->jO P n b rd x (fun e s=>match e with| .normal=>∃m' s1,m'<m/\bJ b s s1/\J m' s1|e=>Q e s) s0
 | .exit id,Q,s=>Q (.exit id) s
 | .ret,Q,s=>Q .ret s
 | .rangeFunc g ps x y,Q,s=>rd=false/\ab4 P n b g ps.toList (low n x) (low n y) Q s
 |_,_,_=>False
section
variable {P:Program}{M:Nat->Prop}{φ:Place}{H:Hp}{w w':World}{cN:Place}{H0:Hp}{w0:World}{n b:Nat}{s:S}{a:Act}{cx:Cx}{ro:Option Nat}{k:Nat}
theorem EN(hb:∀id,H0.us id->id<b)(hs:cu M cN H0 w0 n cx φ s a w){s':S}(h:bJ b s s'):∃aN,cu M cN H0 w0 n cx aN s' a w:=by
 obtain⟨aN,h1,h2,h3,h4,h5,h6⟩:=h M φ w (fun i=>a.tmps.getD i undef) hs.heap hs.env
 refine⟨aN,h1,⟨hs.tr.keep,fun k hk=>hs.tr.grow k (h3 k hk),⟨fun id hu=>Nat.lt_of_lt_of_le (hb id hu) h4,fun id hu hr=> ?_,fun id e' hu he=> ?_⟩⟩,hs.size, ?_,h2⟩
 ·obtain⟨g1,g2⟩:=h5 id (hb id hu) hr
  obtain⟨g3,g4⟩:=hs.tr.rel.row id hu g1
  exact⟨g3,g2.trans g4⟩
 ·obtain⟨e,g1,g2,g3⟩:=h6 id e' (hb id hu) he
  obtain⟨e0,k1,k2,k3⟩:=hs.tr.rel.ep id e hu g1
  refine⟨e0,k1,Nat.le_trans k2 g2,fun heq=> ?_⟩
  have a1:e0=e:=ah
  have a2:e=e':=ah
  exact(g3 a2).trans (k3 a1)
 ·obtain⟨ms,g1,g2,g3,g4⟩:=hs.defers
  exact⟨ms,g1,g2,g3,fun r hr=>⟨(g4 r hr).1,(g4 r hr).2.1,fun hl=>(g4 r hr).2.2 (h3 r hl)⟩⟩
theorem Ah{c:Code}{Q:Exit->Act->World->Prop}(J:Nat->Act->World->Prop)(round:∀m a w,J m a w->c.tN P ro (Exit.then (fun a' w'=>∃m',m'<m/\J m' a' w') Q) a w):
 ∀m a w,J m a w->(Code.loop c).tN P ro Q a w:=by
 intro m a w h0 fr kk cs uk hb
 have hr:(ey ro).room (cs.length+1+0):=fun d hd=>by simp[ey]at hd
 have key:∀m a w,J m a w->∃e a' w',Q e a' w'/\ArrivesIn (Machine.fenced P (ey ro)) P (lone (fr.atR a (.code c:: .inLoop c::kk)) cs w) fr kk cs e a' w':=by
  intro m
  induction m using Nat.strongRecOn with
  |_ m ih=>
   intro a w hJ
   obtain⟨e,a1,w1,hq,dC⟩:=round m a w hJ fr (.inLoop c::kk) cs uk hb
   cases e with
   |normal=>
    obtain⟨m',cM,hJ'⟩:=hq
    obtain⟨e2,a2,w2,hq2,Gv⟩:=ih m' cM a1 w1 hJ'
    exact⟨e2,a2,w2,hq2, .of_steps (StepsIn.trans dC (.one (fenced_calm trivial hr rfl) stepR_inLoop)) Gv⟩
   |_=>exact⟨_,a1,w1,hq, .pass (x:= .inLoop c) rfl (fun _ _=> .inl ao) dC⟩
 obtain⟨e,a',w',hq,dC⟩:=key m a w h0
 exact⟨e,a',w',hq, .of_steps (.one (fenced_calm trivial hr rfl) stepR_loop) dC⟩
theorem ym(hs:cu M cN H0 w0 n cx φ s a w)(oO:cx.rd=false)(uk:ro=none){g:Operand}{ps:Array Tmp}{x y:Code}{Q:fX->S->Prop}(h:Cs P n (s.ev g) ps.toList (low n x) (low n y) Q s):
 (Code.rangeFunc g ps x y).tN P ro (Gt M cN H0 w0 n cx Q) a w:=by
 subst uk
 obtain⟨env,eU,h⟩:=h
 refine xg fun fn JZ=> ?_
 let EO:Loop:={state:= .ready,pending:=none,fn:=fn,tmps:=a.tmps,params:=ps,assign:=x,body:=y,defers:=w.heap.size}
 let w1:World:=(w.alloc (.deferred (some []))).alloc (.loop EO)
 let l:Nat:=w.heap.size+1
 have mu:(Instr.enterLoop fn a.tmps ps x y (ey none).round).run P w= .ok (l,[mark w.heap.size]) w1:=by
  simp[Instr.enterLoop,ey,mark,w1,l,EO]
 have OK:eT (fun _=>False) w w1:=by
  have k1:=cO w (.deferred (some []))
  have k2:=cO (w.alloc (.deferred (some []))) (.loop EO)
  exact⟨k2.os.trans k1.os,k2.tape.trans k1.tape,k2.output.trans k1.output,Nat.le_trans k1.size k2.size,fun j hj hm=>(k2.block j (Nat.lt_of_lt_of_le hj k1.size) hm).trans (k1.block j hj hm)⟩
 let jG:=aK φ s.nx (.pointer (some ⟨l,0,none⟩))
 let s1:S:=⟨s.env,aK s.o s.nx (.loop P.funcs.size n env ps.toList (low n x) (low n y) .ready none),s.nx+1⟩
 have dE: ¬s.H.us s.nx:=by simp[S.H]
 have gu:∀b,eW (.pointer (some ⟨l,0,none⟩))=some b->w.heap.size<=b/\b<w1.heap.size:=by
  intro b hb;simp[eW]at hb;subst hb;simp[l,w1]
 have Ec:=eY (φ:=φ) (H:=s.H) OK dE (.loop P.funcs.size n env ps.toList (low n x) (low n y) .ready none) (.pointer (some ⟨l,0,none⟩)) fun b hb=>(gu b hb).1
 have PC:(w.alloc (.deferred (some []))).heap.size=w.heap.size+1:=ao
 have x8:w1.heap[l]? =some (.loop EO):=by
  have:=heap_alloc_new (w.alloc (.deferred (some []))) (.loop EO)
  rwa [PC]at this
 have HW:=jz hs.heap OK dE (.loop P.funcs.size n env ps.toList (low n x) (low n y) .ready none) (.pointer (some ⟨l,0,none⟩)) gu (by
  unfold aX
  simp only[bT,aQ,if_true]
  refine⟨l,EO,rfl,x8,JZ,rfl,rfl,rfl,hs.size,rfl,rfl,fun i=> ?_⟩
  rcases eU i with e|e
  ·rw[e];trivial
  ·rw[e];exact V.aW Ec _ _ (hs.env i))
 have yn:cu M cN H0 w0 n cx jG s1 {a with defers:=mark w.heap.size::a.defers} w1:=by
  have base:=fm hs HW Ec (o':=aK s.o s.nx (.loop P.funcs.size n env ps.toList (low n x) (low n y) .ready none)) (nx':=s.nx+1) rfl (LR fun id aC=>by simp at aC;exact .inr aC)
  refine⟨base.heap,base.tr,base.size, ?_,base.env⟩
  obtain⟨ms,g1,g2,g3,g4⟩:=base.defers
  obtain⟨ms',q1,q2,q3,q4⟩:=hs.defers
  have hmm:ms.map mark=ms'.map mark:=by
   have:ms.map mark++cx.base=ms'.map mark++cx.base:=g1.symm.trans q1
   exact List.append_cancel_right this
  have WK:ms=ms':=by
   have hm:∀a b,mark a=mark b->a=b:=fun a b h=>by simpa[mark]using h
   exact List.map_inj_right hm |>.1 hmm
  refine⟨w.heap.size::ms,by rw[g1];rfl,List.nodup_cons.2 ⟨fun hm=> ?_,g2⟩,(fun h=>by rw[oO]at h;cases h),fun r hr=> ?_⟩
  ·have:=(q4 w.heap.size (WK ▸ hm)).2.1
   rw[Array.getElem?_eq_none (Nat.le_refl _)]at this;cases this
  ·rcases List.mem_cons.1 hr with rfl|hr
   ·refine⟨hs.tr.keep.size,(RowKit.Below.heap_alloc (w.alloc (.deferred (some []))) (.loop EO) w.heap.size (by rw[PC];omega)).trans (heap_alloc_new w _), ?_⟩
    rintro⟨id,i1,i2⟩
    by_cases e:id=s.nx
    ·subst e;simp[jG,eW,l]at i2
    ·have i1':(s.H.o id).live=true:=by simpa[s1,S.H,e]using i1
     have i2':eW (φ id)=some w.heap.size:=by simpa[jG,e]using i2
     have:=(hs.heap.ours _ ⟨id,i1',i2'⟩).2
     omega
   ·exact g4 r hr
 have afF:V.den (ay M jG s1.H) jG s1.H w1 (.jW s.nx) (.func (.yield l) #[] #[]):=
  ⟨rfl,by simp[s1,S.H],fun _=>⟨l,by simp[jG],rfl⟩⟩
 have hg:=nm (M:=M) (φ:=jG) (H:=s1.H) (w:=w1) s1 {a with defers:=mark w.heap.size::a.defers} yn.env g
 have afG:s1.ev g=s.ev g:=by cases g<;>rfl
 rw[afG]at hg
 have hae:({a with defers:=mark w.heap.size::a.defers}:Act).eval g=a.eval g:=rfl
 rw[hae]at hg
 split at h
 ·rename_i f first cap hgv
  rw[hgv]at hg
  obtain⟨fa,ca,WI,Er,hca⟩:=hg
  have fin:∀ (all:List V) (o2:Nat->ab) (s2:S),s2=⟨s.env,o2,s.nx+1⟩->cu M cN H0 w0 n cx jG s2 {a with defers:=mark w.heap.size::a.defers} w1->V.aM (ay M jG s2.H) jG s2.H w1 all (fa++#[Value.func (.yield l) #[] #[]]++ca).toList->(o2 s.nx).cB=true->
   cK P f all o2 (s.nx+1) (fun _ o' nx'=>∃nf m e p c d st pd,o' s.nx= .loop nf m e p c d st pd/\st≠ .busy/\pG Q pd ⟨s.env,aK o' s.nx (.loop nf m e p c d .exhausted pd),nx'⟩) (fun v o' nx'=>Q (.bP v) ⟨s.env,o',nx'⟩)->
   ∃ (l:Nat) (mark:List Deferred) (j7:World) (d:Deferred) (yk:World) (f:FuncId) (args:Array Value) (sc:World),
     (Instr.enterLoop fn a.tmps ps x y (ey none).round).run P w= .ok (l,mark) j7/\(resolve a.eval (rangeCall g l) 0).run P j7= .ok d yk/\
     (invoke d.target d.args).run P yk= .ok (.enter f args) sc/\CallsIn (ey none) 0 P f args sc (u7 P l (Gt M cN H0 w0 n cx Q) {a with defers:=mark++a.defers}):=by
   intro all o2 s2 afH OL bw cq hC
   subst afH
   have fA:=hC.2 M jG w1 _ OL.heap bw
   refine⟨l,[mark w.heap.size],w1,{target:= .fn (.func f) ca,args:=fa++#[Value.func (.yield l) #[] #[]]},w1,f,fa++#[Value.func (.yield l) #[] #[]]++ca,w1,mu, ?_, ?_,du (fA.mono fun e w' ⟨aN,o',nx',v,k1,k2,k3⟩=> ?_)⟩
   ·simp only[resolve,WI,Deferred.ofValue,List.map_toArray,List.map_cons,List.map_nil,Sem.run_pure]
    rfl
   ·simp[invoke,lU hC.1]
   ·cases e with
    |returned val=>
     obtain⟨k4,nf,m,e,p,c,d,st,pd,k5,k6,k7⟩:=k3
     have Gw:cu M cN H0 w0 n cx aN ⟨s.env,o',nx'⟩ {a with defers:=mark w.heap.size::a.defers} w':=fm OL k1 k2 rfl fun id hu=>hu
     have WL:aN s.nx= .pointer (some ⟨l,0,none⟩):=by
      have:=(k2.rel.row s.nx (show s.nx<s.nx+1 from ah) (by show(o' s.nx).cB=true;rw[k5];rfl)).2
      rw[this];simp[jG]
     have cM:s.nx<nx':=k2.rel.us s.nx (show s.nx<s.nx+1 from ah)
     obtain⟨r,r1,r2,r3,r4,r5⟩:=yl (st':= .exhausted) (pd':=pd) k1 cM (show(hp o' nx').o s.nx=_ from k5) WL
     have cR:(Instr.endLoop l).run P w'= .ok (pd.map jQ.code) {w' with heap:=w'.heap.setIfInBounds l (.loop {r with state:= .exhausted,pending:=pd.map jQ.code})}:=by
      have e1:({r with state:= .exhausted}:Loop)={r with state:= .exhausted,pending:=pd.map jQ.code}:=by rw[<- r3]
      have J8:(r.state==LoopState.busy)=false:=by rw[r2];cases st<;>first|rfl|exact absurd rfl k6
      simp only[Instr.endLoop,Sem.run_bind,lg r1,Result.andThen_ok,J8,Bool.false_eq_true,if_false,Sem.run_pure]
      rw[jI _ r1,e1]
      simp[r3]
     have hs4:=fm Gw r4 r5 (o':=aK o' s.nx (.loop nf m e p c d .exhausted pd)) (nx':=nx') rfl fun id hu=>by
      simp only[eH]at hu
      rcases hu with hu|hu
      ·exact hu
      ·subst hu;exact cM
     refine⟨pd.map jQ.code,_,cR, ?_⟩
     cases pd with
     |none=>exact⟨.normal,_,_,k7,hs4,trivial⟩
     |some j=>
      cases j with
      |ret=>exact Gu ⟨.ret,_,_,k7,hs4,trivial⟩
      |exit id=>exact Cq ⟨.exit id,_,_,k7,hs4,rfl⟩
    |panicked ch=>
     obtain⟨val,rfl,k4,k5⟩:=k3
     have Gw:cu M cN H0 w0 n cx aN ⟨s.env,o',nx'⟩ {a with defers:=mark w.heap.size::a.defers} w':=fm OL k1 k2 rfl fun id hu=>hu
     exact⟨.bP v,_,_,k5,Gw,val,rfl,k4⟩
    |outgrown=>exact k3.elim
  have ny:V.aM (ay M jG s1.H) jG s1.H w1 (first++[V.jW s.nx]++cap) (fa++#[Value.func (.yield l) #[] #[]]++ca).toList:=by
   rw[Array.toList_append,Array.toList_append]
   exact V.qd Er ⟨_,[],rfl,afF,rfl⟩ hca
  rcases h with hC|hC
  ·exact fin _ _ s1 rfl yn ny (by simp;rfl) hC
  ·have p7:s1.o=aK s.o s.nx (.loop P.funcs.size n env ps.toList (low n x) (low n y) .ready none):=rfl
   obtain⟨f1,f2,f3,f4,f5⟩:=dx yn.heap (dy s1.o (first++[V.jW s.nx]++cap)) (iA _ _ s1.o ny)
   have lz:s1.H.put (dk s1.H.o (dy s1.o (first++[V.jW s.nx]++cap)))=hp (put s1.o (dk s1.o (dy s1.o (first++[V.jW s.nx]++cap)))) s1.nx:=lT (by rw[ue];exact iA _ _ s1.o ny)
   have S7:=LV f1 _ _ f3 (V.aY f2 _ _ ny)
   have S8:((s1.H.put (dk s1.H.o (dy s1.o (first++[V.jW s.nx]++cap)))).o s.nx).cB=true:=by
    by_cases hm:s.nx∈dy s1.o (first++[V.jW s.nx]++cap)
    ·rw[f3 _ hm];simp[s1,S.H,ab.fz,ab.cB]
    ·rw[f4 _ hm];simp[s1,S.H,ab.cB]
   rw[lz]at f1 f2 S7 S8
   exact fin _ (put s1.o (dk s1.o (dy s1.o (first++[V.jW s.nx]++cap)))) ⟨s.env,_,s.nx+1⟩ rfl (fm yn f1 f2 rfl fun id hu=>hu) S7 S8 hC
 ·exact h.elim
end
end Go.Proofs.YtonbelhklnmjnaaGreat
