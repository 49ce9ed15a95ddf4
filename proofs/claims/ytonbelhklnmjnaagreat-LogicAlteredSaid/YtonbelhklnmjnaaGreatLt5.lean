/-
  A PART OF THE PROOF. Conditions: none.
-/
import Derived.RangeFuncLeaves
import Derived.TacticsIn
import Derived.RecoverIn
import Derived.Test.YtonbelhklnmjnaaGreatLt4
set_option linter.unusedSimpArgs false
set_option linter.unusedVariables false
namespace Go.Proofs.YtonbelhklnmjnaaGreat
inductive R where
 |ret (ds:List D)|bU (d:D)
def R.is (B:Nat->Prop)(w:World):R->Ending->Prop
 | .ret [x], .returned v=>D.den B w x v
 | .ret ds, .returned v=>∃a,v= .tuple a/\D.aN B w ds a.toList
 | .bU d, .panicked chain=>∃v,chain=[{v:=v,recovered:=false}]/\D.den B w d v
 |_,_=>False
def Enters(P:Program)(f:FuncId):Prop:=∃fn,P.funcs[f]? =some fn/\(fn.name== "runtime.NumGoroutine")=false/\fn.body.isNone=false
def a8(P:Program)(f:FuncId)(ds:List D)(out:R):Prop:=
 Enters P f/\∀ (M:Nat->Prop) (w:World) (vals:Array Value),(∀b,M b->b<w.heap.size)->D.aN M w ds vals.toList->
  Calls P f vals w fun e w'=>eK (fun _=>False) w w'/\out.is M w' e
def hp(o:Nat->ab)(nx:Nat):Hp:=⟨o,fun id=>id<nx⟩
def nh(M:Nat->Prop)(φ:Place)(H:Hp)(w:World)(K X:V->(Nat->ab)->Nat->Prop)(e:Ending)(w':World):Prop:=
 ∃aQ o' nx' v,aD M aQ (hp o' nx') w'/\Trans φ H w aQ (hp o' nx') w'/\match e with
  | .returned val=>V.den (ay M aQ (hp o' nx')) aQ (hp o' nx') w' v val/\K v o' nx'
  | .panicked ch=>∃val,ch=[{v:=val,recovered:=false}]/\V.den (ay M aQ (hp o' nx')) aQ (hp o' nx') w' v val/\X v o' nx'
  | .outgrown=>False
def cO(P:Program)(f:FuncId)(args:List V)(o:Nat->ab)(nx:Nat)(K X:V->(Nat->ab)->Nat->Prop):Prop:=
 Enters P f/\∀ (M:Nat->Prop) (φ:Place) (w:World) (vals:Array Value),aD M φ (hp o nx) w->V.aN (ay M φ (hp o nx)) φ (hp o nx) w args vals.toList->
  Calls P f vals w (nh M φ (hp o nx) w K X)
def ec(P:Program)(id:Nat)(args:List V)(o:Nat->ab)(nx:Nat)(K X:V->(Nat->ab)->Nat->Prop):Prop:=
 (o id).cC=true/\∀ (M:Nat->Prop) (φ:Place) (w:World) (vals:Array Value) (b:Nat),aD M φ (hp o nx) w->V.aN (ay M φ (hp o nx)) φ (hp o nx) w args vals.toList->φ id= .pointer (some ⟨b,0,none⟩)->
  ∃f tmps assign body,(Instr.yield b vals).run P w= .ok (.round b f tmps assign body) w/\∀n,RoundIn Fence.wide n P b f tmps assign body w (nh M φ (hp o nx) w K X)
theorem nh.mono {M:Nat->Prop}{φ:Place}{H:Hp}{w:World}{K X K' X':V->(Nat->ab)->Nat->Prop}(hK:∀v o n,K v o n->K' v o n)(hX:∀v o n,X v o n->X' v o n){e:Ending}{w':World}(h:nh M φ H w K X e w'):nh M φ H w K' X' e w':=by
 obtain⟨aQ,o',nx',v,h1,h2,h3⟩:=h
 refine⟨aQ,o',nx',v,h1,h2, ?_⟩
 cases e with
 |returned val=>exact⟨h3.1,hK _ _ _ h3.2⟩
 |panicked ch=>obtain⟨val,a,b,c⟩:=h3;exact⟨val,a,b,hX _ _ _ c⟩
 |outgrown=>exact h3
theorem cO.mono {P:Program}{f:FuncId}{args:List V}{o:Nat->ab}{nx:Nat}{K X K' X':V->(Nat->ab)->Nat->Prop}(hK:∀v o n,K v o n->K' v o n)(hX:∀v o n,X v o n->X' v o n)(h:cO P f args o nx K X):cO P f args o nx K' X':=
 ⟨h.1,fun M φ w vals h1 h2=>(h.2 M φ w vals h1 h2).mono fun _ _ h=>h.mono hK hX⟩
theorem ec.mono {P:Program}{id:Nat}{args:List V}{o:Nat->ab}{nx:Nat}{K X K' X':V->(Nat->ab)->Nat->Prop}(hK:∀v o n,K v o n->K' v o n)(hX:∀v o n,X v o n->X' v o n)(h:ec P id args o nx K X):ec P id args o nx K' X':=
 ⟨h.1,fun M φ w vals b h1 h2 h3=>let⟨f,t,a,c,h4,h5⟩:=h.2 M φ w vals b h1 h2 h3;⟨f,t,a,c,h4,fun n=>(h5 n).mono fun _ _ h=>h.mono hK hX⟩⟩
mutual
def D.flat:D->Bool
 | .sl _| .mp _ _=>false
 | .agg cs=>D.ko cs
 | .iface _ x=>x.flat
 |_=>true
def D.ko:List D->Bool
 |[]=>true
 |x::xs=>x.flat&&D.ko xs
end
mutual
theorem D.qe {B B':Nat->Prop}{w w':World}:∀ (x:D) (v:Value),x.flat=true->D.den B w x v->D.den B' w' x v
 | .int _ _,_,_,h| .bool _,_,_,h| .str _,_,_,h| .fD,_,_,h| .mM,_,_,h| .bW,_,_,h| .jq,_,_,h=>h
 | .agg cs,_,hf,h=>by obtain⟨a,rfl,h,h2⟩:=h;exact⟨a,rfl,D.ma cs _ hf h,h2⟩
 | .sl es,_,hf,h=>by simp[D.flat]at hf
 | .mp _ _,_,hf,h=>by simp[D.flat]at hf
 | .iface t x,_,hf,h=>by obtain⟨u,rfl,h⟩:=h;exact⟨u,rfl,D.qe x u hf h⟩
theorem D.ma {B B':Nat->Prop}{w w':World}:∀ (xs:List D) (vs:List Value),D.ko xs=true->D.aN B w xs vs->D.aN B' w' xs vs
 |[],_,_,h=>h
 |x::xs,_,hf,h=>by
  obtain⟨u,us,rfl,h1,h2⟩:=h
  simp only[D.ko,Bool.and_eq_true]at hf
  exact⟨u,us,rfl,D.qe x u hf.1 h1,D.ma xs us hf.2 h2⟩
end
mutual
def D.ni:D->Bool
 | .mp _ _=>false
 | .agg cs=>D.mb cs
 | .sl es=>D.mb es
 | .iface _ x=>x.ni
 |_=>true
def D.mb:List D->Bool
 |[]=>true
 |x::xs=>x.ni&&D.mb xs
end
theorem iw.A9 {B B':Nat->Prop}{w w':World}{a:Addr}{cs:Array Value}
 (hb:∀b,pQ w b-> ¬B b->w'.heap[b]? =w.heap[b]? /\ ¬B' b) (h:iw B w a cs):iw B' w' a cs:=by
 intro j u hj
 obtain⟨h1,h2⟩:=h j u hj
 have cJ:pQ w a.block:=by simpa using oC h1
 obtain⟨h3,h4⟩:=hb _ cJ h2
 exact⟨by rw[World.cell?_of_block (w:=w) (w':=w') (a:=a.add j) (by simpa using h3)];exact h1,h4⟩
mutual
theorem D.lG {B B':Nat->Prop}{w w':World}(hb:∀b,pQ w b-> ¬B b->w'.heap[b]? =w.heap[b]? /\ ¬B' b):
 ∀ (x:D) (v:Value),x.ni=true->D.den B w x v->D.den B' w' x v
 | .int _ _,_,_,h| .bool _,_,_,h| .str _,_,_,h| .fD,_,_,h| .mM,_,_,h| .bW,_,_,h| .jq,_,_,h=>by simpa[D.den]using h
 | .agg cs,_,hn,h=>by
   obtain⟨a,rfl,h,hf⟩:=h
   exact⟨a,rfl,D.nj hb cs _ hn h,hf⟩
 | .sl es,_,hn,h=>by
   obtain⟨base,len,cap,rfl,h1,h2,h3,sz,h4⟩:=h
   exact⟨base,len,cap,rfl,h1,h2,h3,sz,fun a ha=>⟨(h4 a ha).1,D.qf hb sz a es 0 hn (h4 a ha).2⟩⟩
 | .iface t d,_,hn,h=>by
   obtain⟨u,rfl,h⟩:=h
   exact⟨u,rfl,D.lG hb d u hn h⟩
 | .mp _ _,_,hn,_=>by simp[D.ni]at hn
theorem D.nj {B B':Nat->Prop}{w w':World}(hb:∀b,pQ w b-> ¬B b->w'.heap[b]? =w.heap[b]? /\ ¬B' b):
 ∀ (ds:List D) (vs:List Value),D.mb ds=true->D.aN B w ds vs->D.aN B' w' ds vs
 |[],_,_,h=>h
 |d::ds,_,hn,h=>by
  obtain⟨u,us,rfl,h1,h2⟩:=h
  simp only[D.mb,Bool.and_eq_true]at hn
  exact⟨u,us,rfl,D.lG hb d u hn.1 h1,D.nj hb ds us hn.2 h2⟩
theorem D.qf {B B':Nat->Prop}{w w':World}(hb:∀b,pQ w b-> ¬B b->w'.heap[b]? =w.heap[b]? /\ ¬B' b)(sz:Nat)(a:Addr):
 ∀ (es:List D) (i:Nat),D.mb es=true->D.elems B w sz a i es->D.elems B' w' sz a i es
 |[],_,_,_=>trivial
 |e::es,i,hn,h=>by
  obtain⟨⟨ev,h1,h2,h3⟩,h4⟩:=h
  simp only[D.mb,Bool.and_eq_true]at hn
  exact⟨⟨ev,h1,h2.A9 hb,D.lG hb e ev hn.1 h3⟩,D.qf hb sz a es (i+1) hn.2 h4⟩
end
def R.ni:R->Bool
 | .ret ds=>D.mb ds
 | .bU d=>d.ni
def R.flat:R->Bool
 | .ret ds=>D.ko ds
 | .bU d=>d.flat
def jO:List D->V
 |[x]=> .d x
 |ds=> .cp (ds.map .d)
inductive fS where
 |normal|exit (id:Nat)|ret|bU (v:V)
def bu(env:Nat->V)(dst:Option Tmp)(v:V):Nat->V:=
 match dst with
 |some d=>aM env d v
 |none=>env
def JR(o:Nat->ab)(v:V):V:=match eg o v with|some x=> .d x|none=>v
def dy(o:Nat->ab):List V->List Nat
 |[]=>[]
 |v::vs=>(match eg o v with|some _=>v.ids|none=>[])++dy o vs
def nk(P:Program)(g:FuncId)(args:List V)(o:Nat->ab)(nx:Nat)(K X:V->(Nat->ab)->Nat->Prop):Prop:=
 cO P g args o nx K X\/cO P g (args.map (JR o)) (put o (dn o (dy o args))) nx K X
def uC(P:Program)(s:S)(g:FuncId)(all:List V)(K:V->(Nat->ab)->Nat->Prop)(X:V->(Nat->ab)->Nat->Prop):Prop:=
    (∃ds out,ct s.o all=some ds/\a8 P g ds out/\(match out with
     | .ret rs=>K (jO rs) (put s.o (dn s.o (V.bF all))) (s.nx+1)
     | .bU x=>X (.d x) (put s.o (dn s.o (V.bF all))) (s.nx+1)))\/
    (∃ds out,ct s.o all=some ds/\a8 P g ds out/\out.flat=true/\(match out with
     | .ret rs=>K (jO rs) s.o (s.nx+1)
     | .bU x=>X (.d x) s.o (s.nx+1)))\/
    (∃ds out,ct s.o all=some ds/\a8 P g ds out/\out.ni=true/\(match out with
     | .ret rs=>K (jO rs) (put s.o (rp s.o (V.bF all))) (s.nx+1)
     | .bU x=>X (.d x) (put s.o (rp s.o (V.bF all))) (s.nx+1)))\/
    nk P g all s.o s.nx K X
def Bw(P:Program)(s:S)(f:V)(args:List V)(K:V->(Nat->ab)->Nat->Prop)(X:V->(Nat->ab)->Nat->Prop):Prop:=
 match f with
 | .func (.func g) first cap=>uC P s g (first++args++cap) K X
 | .jU id=>ec P id args s.o s.nx K X
 |_=>False
def PS(P:Program)(t:TypeId):Bool:=
 match P.underlying t with
 |some (.pointer _)=>false
 |some _=>true
 |none=>false
def uD(P:Program)(m:String)(x:V):Option (FuncId×V):=
 match x with
 | .d (.iface t y)=>match P.info? t with
   |some ti=>match ti.methods.find? (·.name==m)with
    |some r=>match r.func with
     |some (f,false)=>if r.path.isEmpty=true/\PS P t=true then some (f, .d y)else none
     |_=>none
    |none=>none
   |none=>none
 |_=>none
def iy(n:Nat):Option Tmp->Prop
 |some d=>d<n
 |none=>True
def opW(P:Program)(n:Nat)(s:S)(o:Oper)(X:V->S->Prop)(K:S->Prop):Prop:=
 iy n o.dst/\match o.op with
 | .call c=>match c.callee with
   | .value f=>Bw P s (s.ev f) (c.args.toList.map s.ev) (fun v o' nx'=>K ⟨bu s.env o.dst v,o',nx'⟩) (fun v o' nx'=>X v ⟨s.env,o',nx'⟩)
   | .invoke r m=>match uD P m (s.ev r)with
     |some (g,y)=>uC P s g (y::c.args.toList.map s.ev) (fun v o' nx'=>K ⟨bu s.env o.dst v,o',nx'⟩) (fun v o' nx'=>X v ⟨s.env,o',nx'⟩)
     |none=>False
   |_=>PG P s s.nx o.op fun v Δ _=>K ⟨bu s.env o.dst v,put s.o Δ,s.nx+1⟩
 | .panic x=>match s.ev x with
   | .d (.iface t y)=>X (.d (.iface t y)) s
   | .iface t y=>X (.iface t y) s
   |_=>False
 |op=>PG P s s.nx op fun v Δ _=>K ⟨bu s.env o.dst v,put s.o Δ,s.nx+1⟩
def zq(s:S)(ops:Array Oper)(g:Option (Nat×Bool))(A B:Prop):Prop:=
 match g with
 |none=>A
 |some (j,want)=>match su ops j with
  |some d=>match s.env d with
   | .d (.bool b)=>(b=want->A)/\(b≠want->B)
   | .cp []=>B
   |_=>False
  |none=>B
def zr(P:Program)(n:Nat)(ops:Array Oper)(X:V->S->Prop)(K:S->Prop):List Oper->S->Prop
 |[],s=>K s
 |o::l,s=>zq s ops o.guard (opW P n s o X (zr P n ops X K l)) (iy n o.dst/\zr P n ops X K l ⟨bu s.env o.dst (.cp []),s.o,s.nx+1⟩)
def bM(b:Nat)(s s':S):Prop:=
 ∀ (M:Nat->Prop) (φ:Place) (w:World) (tm:Nat->Value),aD M φ s.H w->(∀i,V.den (ay M φ s.H) φ s.H w (s.env i) (tm i))->
   ∃aQ,aD M aQ s'.H w/\(∀i,V.den (ay M aQ s'.H) aQ s'.H w (s'.env i) (tm i))/\(∀k,df aQ s'.H k->df φ s.H k)/\b<=s'.nx/\
    (∀id,id<b->(s'.o id).cC=true->(s.o id).cC=true/\aQ id=φ id)/\
    (∀id e',id<b->(s'.o id).cy=some e'->∃e,(s.o id).cy=some e/\e<=e'/\(e=e'->aQ id=φ id))
def qg(K:S->Prop)(Q:fS->S->Prop)(e:fS)(s:S):Prop:=match e with| .normal=>K s|e=>Q e s
def fT(id:Nat)(Q:fS->S->Prop)(e:fS)(s:S):Prop:=match e with| .exit j=>if j=id then Q .normal s else Q (.exit j) s|e=>Q e s
def mc(P:Program)(s:S):List ResultVar->Option (List V)
 |[]=>some []
 | .tmp t::rs=>(mc P s rs).map (s.env t::·)
 | .cell a t::rs=>match s.env a with
   | .ptr id off=>match s.o id with
     | .row cs=>(fi P t cs off).bind fun v=>(mc P s rs).map (v::·)
     |_=>none
   |_=>none
def cF(vs:List V):Nat->V:=fun i=>vs.getD i (.cp [])
def DV(P:Program)(rs:List ResultVar)(out:R)(e:fS)(s:S):Prop:=
 match e with
 | .normal| .ret=>match mc P s rs with
   |some vs=>match ct s.o vs with
    |some ds=>out= .ret ds
    |none=>False
   |none=>False
 | .bU v=>match eg s.o v with
   |some x=>out= .bU x
   |none=>False
 | .exit _=>False
theorem JS{P:Program}{rs:List ResultVar}{out:R}{s:S}(h:match mc P s rs with
 |some vs=>match ct s.o vs with
  |some ds=>out= .ret ds
  |none=>False
 |none=>False):∃vs ds,mc P s rs=some vs/\ct s.o vs=some ds/\out= .ret ds:=by
 split at h
 ·rename_i vs h1
  split at h
  ·rename_i xs h2;exact⟨vs,xs,h1,h2,h⟩
  ·exact h.elim
 ·exact h.elim
theorem JT{out:R}{s:S}{v:V}(h:match eg s.o v with
 |some x=>out= .bU x
 |none=>False):∃x,eg s.o v=some x/\out= .bU x:=by
 split at h
 ·rename_i x h1;exact⟨x,h1,h⟩
 ·exact h.elim
end Go.Proofs.YtonbelhklnmjnaaGreat
namespace Go.Proofs.YtonbelhklnmjnaaGreat
section
variable {P:Program}{M:Nat->Prop}{φ:Place}{H:Hp}{w w':World}
def ab.lH:ab->Bool
 | .arr .. =>true
 |_=>false
theorem NJ(o:Nat->ab)(ids:List Nat):rp o ids=dn o (ids.filter fun id=>(o id).lH):=by
 induction ids with
 |nil=>rfl
 |cons id ids ih=>
  unfold rp at ih|-
  simp only[List.filterMap_cons,List.filter_cons]
  cases hx:o id with
  |arr ep ty sz es=>
   have e:(ab.arr ep ty sz es).lH=true:=rfl
   rw[e,if_pos rfl,ih]
   simp only[dn,List.map_cons,hx]
  |_=>exact ih
theorem jP(hH:aD M φ H w){us':Nat->Prop}(h:∀id,H.us id->us' id):aD M φ ⟨H.o,us'⟩ w/\Trans φ H w φ ⟨H.o,us'⟩ w:=by
 have ht:Trans φ H w φ ⟨H.o,us'⟩ w:=⟨eK.refl _ _,fun b hb=> .inl hb,⟨h,fun id _ hr=>⟨hr,rfl⟩,fun id e' _ he=>⟨e',he,Nat.le_refl _,fun _=>rfl⟩⟩⟩
 exact⟨hH.of ht (fun _=>False) (fun _ h=>h.elim) (fun id _=>⟨rfl,rfl,fun _ _ _=>rfl⟩) (fun id hn=>hH.fresh id fun hu=>hn (h id hu)) hH.apart (fun b hb=>(hH.ours b hb).2),ht⟩
theorem gZ(hH:aD M φ H w)(hk:eK (fun _=>False) w w'):aD M φ H w'/\Trans φ H w φ H w':=by
 have ht:Trans φ H w φ H w':=⟨⟨hk.os,hk.tape,hk.output,hk.size,fun k h _=>hk.block k h fun h=>h⟩,fun b hb=> .inl hb,ew.refl _ _⟩
 exact⟨hH.of ht (fun _=>False) (fun _ h=>h.elim) (fun id _=>⟨rfl,rfl,fun hl b hb=>hk.block b (hH.ours b ⟨id,hl,hb⟩).2 fun h=>h⟩) hH.fresh hH.apart (fun b hb=>Nat.lt_of_lt_of_le (hH.ours b hb).2 hk.size),ht⟩
theorem lI{Δ:List (Nat×ab)}(h:∀id∈Δ.map (·.1),H.us id):H.put Δ=⟨put H.o Δ,H.us⟩:=by
 unfold Hp.put
 congr 1
 funext id
 simp only[eq_iff_iff]
 exact⟨fun h'=>h'.elim (fun h=>h) (h id), .inl⟩
theorem tI(o:Nat->ab)(ids:List Nat):(dn o ids).map (·.1)=ids:=by
 rw[l7];simp[Function.comp_def]
structure Cx where
 base:List Deferred
 rd:Bool
def ej(ro:Option Nat):Fence:={fn:=fun _=>True,depth:=none,alive:=false,round:=ro}
def mark(r:Nat):Deferred:={target:= .collected r,args:=#[]}
def uE(cx:Cx)(w0:World)(φ:Place)(H:Hp)(w:World)(ds:List Deferred):Prop:=
 ∃ms:List Nat,ds=ms.map mark++cx.base/\ms.Nodup/\(cx.rd=true->ms=[])/\∀r∈ms,w0.heap.size<=r/\w.heap[r]? =some (.deferred (some []))/\ ¬df φ H r
theorem uE.mono {cx:Cx}{w0:World}{φ aQ:Place}{H H':Hp}{w w':World}{ds:List Deferred}(ht:Trans φ H w aQ H' w')(h:uE cx w0 φ H w ds):uE cx w0 aQ H' w' ds:=by
 obtain⟨ms,h1,h2,h3,h4⟩:=h
 refine⟨ms,h1,h2,h3,fun r hr=> ?_⟩
 obtain⟨g1,g2,g3⟩:=h4 r hr
 have cJ:r<w.heap.size:=by
  rcases Nat.lt_or_ge r w.heap.size with hl|hl
  ·exact hl
  ·rw[Array.getElem?_eq_none hl]at g2;cases g2
 refine⟨g1,(ht.cA.block r cJ g3).trans g2,fun hl=> ?_⟩
 rcases ht.grow r hl with h|h
 ·exact g3 h
 ·omega
structure cw (M:Nat->Prop) (cT:Place) (H0:Hp) (w0:World) (n:Nat) (cx:Cx) (φ:Place) (s:S) (a:Act) (w:World):Prop where
 heap:aD M φ s.H w
 tr:Trans cT H0 w0 φ s.H w
 size:a.tmps.size=n
 defers:uE cx w0 φ s.H w a.defers
 env:∀i,V.den (ay M φ s.H) φ s.H w (s.env i) (a.tmps.getD i undef)
variable {cT:Place}{H0:Hp}{w0:World}{n:Nat}{s:S}{a:Act}{cx:Cx}{ro:Option Nat}{k:Nat}
theorem du{f:FuncId}{args:Array Value}{R:Ending->World->Prop}(h:Calls P f args w R):CallsIn (ej ro) k P f args w R:=
 ⟨trivial,fun cs _=>let⟨e,w',fr,r,s,x⟩:=h cs;⟨e,w',fr,r,comesIn_wide.2 s,x⟩⟩
theorem Bx{f:FuncId}{args:Array Value}{R:Ending->World->Prop}(h:CallsIn (ej ro) k P f args w R):Calls P f args w R:=
 fun cs=>let⟨e,w',fr,r,s,x⟩:=h.2 cs (fun _ h=>by simp[ej]at h);⟨e,w',fr,r,comesIn_wide.1 s,x⟩
theorem kS{o:Oper}{next:Act->World->Prop}{Q:Exit->Act->World->Prop}(hnd:∀c,o.op≠ .defer c)(h:o.uponIn (ej ro) k P a next Q ((execOp a.eval o).run P w)):o.wpIn (ej ro) k P a w next Q:=
 ⟨fun _ _=>trivial,by rw[Oper.semAt_eq _ _ _ hnd];exact h⟩
theorem me(hs:cw M cT H0 w0 n cx φ s a w){aQ:Place}{H':Hp}(hH:aD M aQ H' w')(ht:Trans φ s.H w aQ H' w'){v:V}{val:Value}(hd:V.den (ay M aQ H') aQ H' w' v val){dst:Option Tmp}(db:iy n dst)
 {o':Nat->ab} {nx':Nat} (ho:H'.o=o') (hu:∀id,H'.us id->id<nx'):cw M cT H0 w0 n cx aQ ⟨bu s.env dst v,o',nx'⟩ (a.put dst val) w':=by
 obtain⟨k1,k2⟩:=jP hH hu
 subst ho
 refine⟨k1,hs.tr.trans (ht.trans k2), ?_, ?_,fun i=> ?_⟩
 ·cases dst<;>simp[Act.put,hs.size]
 ·have:=hs.defers.mono (ht.trans k2);cases dst<;>exact this
 ·cases dst with
  |none=>exact V.aT (ht.trans k2) _ _ (hs.env i)
  |some d=>
   simp only[iy]at db
   simp only[bu,aS,Act.put]
   by_cases hi:i=d
   ·subst hi
    have h1:(a.tmps.setIfInBounds i val).getD i undef=val:=by simp[Array.getD,hs.size,db]
    rw[if_pos rfl,h1]
    exact V.aT k2 _ _ hd
   ·have h1:(a.tmps.setIfInBounds d val).getD i undef=a.tmps.getD i undef:=by
     simp only[Array.getD_eq_getD_getElem?]
     rw[Array.getElem?_setIfInBounds_ne (Ne.symm hi)]
    rw[if_neg hi,h1]
    exact V.aT (ht.trans k2) _ _ (hs.env i)
theorem eM(hs:cw M cT H0 w0 n cx φ s a w){aQ:Place}{H':Hp}(hH:aD M aQ H' w')(ht:Trans φ s.H w aQ H' w'){o':Nat->ab}{nx':Nat}(ho:H'.o=o')(hu:∀id,H'.us id->id<nx'):
 cw M cT H0 w0 n cx aQ ⟨s.env,o',nx'⟩ a w':=by
 obtain⟨k1,k2⟩:=jP hH hu
 subst ho
 exact⟨k1,hs.tr.trans (ht.trans k2),hs.size,hs.defers.mono (ht.trans k2),fun i=>V.aT (ht.trans k2) _ _ (hs.env i)⟩
theorem JU{Δ:List (Nat×ab)}(h:∀id∈Δ.map (·.1),s.H.us id\/id=s.nx)(id:Nat)(hu:(s.H.put Δ).us id):id<s.nx+1:=by
 rcases hu with hu|hu
 ·exact Nat.lt_succ_of_lt hu
 ·rcases h id hu with h|h
  ·exact Nat.lt_succ_of_lt h
  ·omega
variable {next:Act->World->Prop}{Q:Exit->Act->World->Prop}{X:V->S->Prop}{K:S->Prop}
theorem JV(hs:cw M cT H0 w0 n cx φ s a w){o:Oper}{op:Op}(fA:o.op=op)(db:iy n o.dst)(h:PG P s s.nx op fun v Δ _=>K ⟨bu s.env o.dst v,put s.o Δ,s.nx+1⟩)
 (hN:∀s' aQ a' w',K s'->cw M cT H0 w0 n cx aQ s' a' w'->next a' w'):o.wpIn (ej ro) k P a w next Q:=by
 obtain⟨nx,val,w',aQ,v,Δ,rd,hK,hr,tM,g1,g2,g3,g4⟩:=xC hs.heap (s:=s) rfl hs.env (fr:=s.nx) (by simp[S.H]) fA h
 have zu:=me hs g1 g2 g3 db (o':=put s.o Δ) (nx':=s.nx+1) rfl (JU g4)
 refine kS (fun c hc=>by rw[fA]at hc;subst hc;exact h) ?_
 rw[hr]
 rcases tM with rfl|⟨rfl,rfl⟩
 ·exact hN _ _ _ _ hK zu
 ·exact hN _ _ _ _ hK zu
theorem V.mf {B:Nat->Prop}{cu bs cs:List V}{u v x:List Value}(h1:V.aN B φ H w cu u)(h2:V.aN B φ H w bs v)(h3:V.aN B φ H w cs x):V.aN B φ H w (cu++bs++cs) (u++v++x):=
 V.bI _ _ _ _ (V.bI _ _ _ _ h1 h2) h3
theorem lJ{f:FuncId}(h:Enters P f)(args:Array Value):(callFunc f args).run P w= .ok (.enter f args) w:=by
 obtain⟨fn,h1,h2,h3⟩:=h
 have kn:fn.name≠ "runtime.NumGoroutine" :=by simpa using h2
 have rG:fn.body≠none:=fun h=>by rw[h]at h3;cases h3
 simp[callFunc,h1,kn,rG]
theorem lK:∀ {rs:List D} {val:Value},R.is (ay M φ H) w (.ret rs) (.returned val)->V.den (ay M φ H) φ H w (jO rs) val
 |[],_,h=>by obtain⟨arr,rfl,h⟩:=h;exact⟨arr,rfl,h⟩
 |[x],_,h=>h
 |x::y::l,_,h=>by obtain⟨arr,rfl,h⟩:=h;exact⟨arr,rfl,(V.cE (x::y::l) _).2 h⟩
theorem R.zw {B B':Nat->Prop}:∀ {out:R} {e:Ending},out.flat=true->out.is B w e->out.is B' w e
 | .ret [], .returned _,_,h=>by obtain⟨arr,rfl,h⟩:=h;exact⟨arr,rfl,h⟩
 | .ret [x], .returned _,hf,h=>by
   simp only[R.flat,D.ko,Bool.and_true]at hf
   exact D.qe x _ hf h
 | .ret (x::y::l), .returned _,hf,h=>by obtain⟨arr,rfl,h⟩:=h;exact⟨arr,rfl,D.ma (x::y::l) _ hf h⟩
 | .bU d, .panicked _,hf,h=>by obtain⟨v,rfl,h⟩:=h;exact⟨v,rfl,D.qe d v hf h⟩
 | .ret [], .panicked _,_,h| .ret [_], .panicked _,_,h| .ret (_::_::_), .panicked _,_,h| .ret [], .outgrown,_,h| .ret [_], .outgrown,_,h| .ret (_::_::_), .outgrown,_,h| .bU _, .returned _,_,h| .bU _, .outgrown,_,h=>h.elim
theorem R.JW {B B':Nat->Prop}{w':World}(hb:∀b,pQ w' b-> ¬B b-> ¬B' b):∀ {out:R} {e:Ending},out.ni=true->out.is B w' e->out.is B' w' e
 | .ret [], .returned _,_,h=>by obtain⟨arr,rfl,h⟩:=h;exact⟨arr,rfl,h⟩
 | .ret [x], .returned _,hf,h=>by
   simp only[R.ni,D.mb,Bool.and_true]at hf
   exact D.lG (fun b hc hn=>⟨rfl,hb b hc hn⟩) x _ hf h
 | .ret (x::y::l), .returned _,hf,h=>by obtain⟨arr,rfl,h⟩:=h;exact⟨arr,rfl,D.nj (fun b hc hn=>⟨rfl,hb b hc hn⟩) (x::y::l) _ hf h⟩
 | .bU d, .panicked _,hf,h=>by obtain⟨v,rfl,h⟩:=h;exact⟨v,rfl,D.lG (fun b hc hn=>⟨rfl,hb b hc hn⟩) d v hf h⟩
 | .ret [], .panicked _,_,h| .ret [_], .panicked _,_,h| .ret (_::_::_), .panicked _,_,h| .ret [], .outgrown,_,h| .ret [_], .outgrown,_,h| .ret (_::_::_), .outgrown,_,h| .bU _, .returned _,_,h| .bU _, .outgrown,_,h=>h.elim
theorem JX(hH:aD M φ H w){o:Nat->ab}:∀ (vs:List V) (vals:List Value),(∀id∈dy o vs,H.o id=(o id).fz)->V.aN (ay M φ H) φ H w vs vals->V.aN (ay M φ H) φ H w (vs.map (JR o)) vals
 |[],_,_,h=>h
 |v::vs,_,ho,h=>by
  obtain⟨u,us,rfl,h1,h2⟩:=h
  refine⟨u,us,rfl, ?_,JX hH vs us (fun id aC=>ho id (by simp[dy,aC])) h2⟩
  unfold JR
  split
  ·rename_i x hx
   exact gA hH v x u (fun id aC=>ho id (by simp[dy,hx,aC])) hx h1
  ·exact h1
theorem iz:∀ (vs:List V) (vals:List Value) (o:Nat->ab),V.aN (ay M φ H) φ H w vs vals->∀id∈dy o vs,H.us id
 |[],_,_,_,j,hj=>by simp[dy]at hj
 |v::vs,_,o,h,j,hj=>by
  obtain⟨u,us,rfl,h1,h2⟩:=h
  simp only[dy,List.mem_append]at hj
  rcases hj with hj|hj
  ·cases hx:eg o v with
   |none=>simp[hx]at hj
   |some x=>simp only[hx]at hj;exact dq v u h1 j hj
  ·exact iz vs us o h2 j hj
theorem xD(hs:cw M cT H0 w0 n cx φ s a w){o:Oper}{g:FuncId}{all:List V}{vals:Array Value}(db:iy n o.dst)(fF:Enters P g->(execOp a.eval o).run P w= .ok (.enter g vals) w)(bA:V.aN (ay M φ s.H) φ s.H w all vals.toList)
 (h:cO P g all s.o s.nx (fun v o' nx'=>K ⟨bu s.env o.dst v,o',nx'⟩) (fun v o' nx'=>X v ⟨s.env,o',nx'⟩))
 (hN:∀s' aQ a' w',K s'->cw M cT H0 w0 n cx aQ s' a' w'->next a' w')
 (hQ:∀v s' aQ w' val,X v s'->cw M cT H0 w0 n cx aQ s' a w'->V.den (ay M aQ s'.H) aQ s'.H w' v val->Q (.panic [{v:=val,recovered:=false}]) a w'):o.uponIn (ej ro) k P a next Q ((execOp a.eval o).run P w):=by
 have fq:=h.2 M φ w vals hs.heap bA
 rw[fF h.1]
 refine⟨fun hd=>by simp[ej]at hd,du (fq.mono fun e w' ⟨aQ,o',nx',v,k1,k2,k3⟩=> ?_)⟩
 cases e with
 |returned val=>exact hN _ _ _ _ k3.2 (me hs k1 k2 k3.1 db rfl fun id hu=>hu)
 |panicked ch=>
  obtain⟨val,rfl,k4,k5⟩:=k3
  exact hQ _ _ _ _ val k5 (eM hs k1 k2 (o':=o') (nx':=nx') rfl fun id hu=>hu) k4
 |outgrown=>exact k3.elim
theorem Bz(hs:cw M cT H0 w0 n cx φ s a w){o:Oper}{g:FuncId}{all:List V}{vals:Array Value}(db:iy n o.dst)(fF:Enters P g->(execOp a.eval o).run P w= .ok (.enter g vals) w)(bA:V.aN (ay M φ s.H) φ s.H w all vals.toList)
 (h:uC P s g all (fun v o' nx'=>K ⟨bu s.env o.dst v,o',nx'⟩) (fun v o' nx'=>X v ⟨s.env,o',nx'⟩))
 (hN:∀s' aQ a' w',K s'->cw M cT H0 w0 n cx aQ s' a' w'->next a' w')
 (hQ:∀v s' aQ w' val,X v s'->cw M cT H0 w0 n cx aQ s' a w'->V.den (ay M aQ s'.H) aQ s'.H w' v val->Q (.panic [{v:=val,recovered:=false}]) a w'):o.uponIn (ej ro) k P a next Q ((execOp a.eval o).run P w):=by
 unfold uC at h
 obtain⟨f1,f2,f3,f4,f5⟩:=dx hs.heap (V.bF all) (dm all _ bA)
 have lg:s.H.put (dn s.H.o (V.bF all))=⟨put s.o (dn s.o (V.bF all)),s.H.us⟩:=lI SV
 have nm:=V.ba f2 _ _ bA
 rcases h with⟨ds,out,fe,hP,hK⟩|⟨ds,out,fe,hP,pK,hK⟩|⟨ds,out,fe,hP,hnm,hK⟩|hC|hC
 ·have xj:=dH f1 all ds _ f3 fe nm
  have hM:∀b,ay M φ (s.H.put (dn s.H.o (V.bF all))) b->b<w.heap.size:=fun b hb=>hb.elim (f1.AL b) fun hl=>(f1.ours b hl).2
  have fq:=hP.2 _ w vals hM xj
  rw[fF hP.1]
  refine⟨fun hd=>by simp[ej]at hd,du (fq.mono fun e w' ⟨hk,ho⟩=> ?_)⟩
  obtain⟨k1,k2⟩:=gZ f1 hk
  cases out with
  |ret rs=>
   cases e with
   |returned val=>
    refine hN _ _ _ _ hK (me hs k1 (f2.trans k2) (lK ho) db (by rw[lg]) ?_)
    intro id hu;rw[lg]at hu;exact Nat.lt_succ_of_lt hu
   |panicked ch=>cases rs with|nil=>exact ho.elim|cons x l=>cases l<;>exact ho.elim
   |outgrown=>cases rs with|nil=>exact ho.elim|cons x l=>cases l<;>exact ho.elim
  |bU x=>
   cases e with
   |returned val=>exact ho.elim
   |panicked ch=>
    obtain⟨val,rfl,hd⟩:=ho
    have zu:=eM hs k1 (f2.trans k2) (o':=put s.o (dn s.o (V.bF all))) (nx':=s.nx+1) (by rw[lg]) (fun id hu=>by rw[lg]at hu;exact Nat.lt_succ_of_lt hu)
    refine hQ _ _ _ _ val hK zu ?_
    have e1:ay M φ (S.H ⟨s.env,put s.o (dn s.o (V.bF all)),s.nx+1⟩)=ay M φ (s.H.put (dn s.H.o (V.bF all))):=by rw[lg];rfl
    simp only[V.den]
    rw[e1];exact hd
   |outgrown=>exact ho.elim
 ·have xj:=dH f1 all ds _ f3 fe nm
  have hM:∀b,ay M φ (s.H.put (dn s.H.o (V.bF all))) b->b<w.heap.size:=fun b hb=>hb.elim (f1.AL b) fun hl=>(f1.ours b hl).2
  have fq:=hP.2 _ w vals hM xj
  rw[fF hP.1]
  refine⟨fun hd=>by simp[ej]at hd,du (fq.mono fun e w' ⟨hk,ho⟩=> ?_)⟩
  obtain⟨k1,k2⟩:=gZ hs.heap hk
  have ho:=R.zw (B':=ay M φ s.H) pK ho
  cases out with
  |ret rs=>
   cases e with
   |returned val=>
    exact hN _ _ _ _ hK (me hs k1 k2 (lK ho) db rfl fun id hu=>Nat.lt_succ_of_lt hu)
   |panicked ch=>cases rs with|nil=>exact ho.elim|cons x l=>cases l<;>exact ho.elim
   |outgrown=>cases rs with|nil=>exact ho.elim|cons x l=>cases l<;>exact ho.elim
  |bU x=>
   cases e with
   |returned val=>exact ho.elim
   |panicked ch=>
    obtain⟨val,rfl,hd⟩:=ho
    exact hQ _ _ _ _ val hK (eM hs k1 k2 (o':=s.o) (nx':=s.nx+1) rfl fun id hu=>Nat.lt_succ_of_lt hu) hd
   |outgrown=>exact ho.elim
 ·obtain⟨a1,a2,a3,a4,a5⟩:=dx hs.heap ((V.bF all).filter fun id=>(s.o id).lH) (fun id aC=>dm all _ bA id (List.mem_filter.1 aC).1)
  have BA:s.H.put (dn s.H.o ((V.bF all).filter fun id=>(s.o id).lH))=⟨put s.o (rp s.o (V.bF all)),s.H.us⟩:=by
   rw[NJ]
   exact lI (by rw[tI];exact fun id aC=>dm all _ bA id (List.mem_filter.1 aC).1)
  have xj:=dH f1 all ds _ f3 fe nm
  have hM:∀b,ay M φ (s.H.put (dn s.H.o (V.bF all))) b->b<w.heap.size:=fun b hb=>hb.elim (f1.AL b) fun hl=>(f1.ours b hl).2
  have fq:=hP.2 _ w vals hM xj
  rw[fF hP.1]
  refine⟨fun hd=>by simp[ej]at hd,du (fq.mono fun e w' ⟨hk,ho⟩=> ?_)⟩
  obtain⟨k1,k2⟩:=gZ a1 hk
  have lL:∀b,pQ w' b-> ¬ay M φ (s.H.put (dn s.H.o (V.bF all))) b-> ¬ay M φ (s.H.put (dn s.H.o ((V.bF all).filter fun id=>(s.o id).lH))) b:=by
   intro b hc hn hm
   rcases hm with hM|⟨id,hl,hb⟩
   ·exact hn (.inl hM)
   ·by_cases aC:id∈V.bF all
    ·cases hx:s.H.o id with
     |arr ep ty sz es=>
      rw[a3 id (List.mem_filter.2 ⟨aC,by show(s.H.o id).lH=true;rw[hx];rfl⟩),hx]at hl
      cases hl
     |map kt vt l=>
      have mT:id∉(V.bF all).filter fun id=>(s.o id).lH:=fun h=>by
       have h2:(s.H.o id).lH=true:=(List.mem_filter.1 h).2
       rw[hx]at h2;cases h2
      have bp:=k1.ok id
      unfold bc at bp
      rw[a4 id mT,hx]at bp
      obtain⟨b',es,clock,g1,g2,_⟩:=bp
      rw[g1]at hb
      injection hb with hb
      subst hb
      obtain⟨cs,ty,fz,hc⟩:=hc
      rw[g2]at hc
      cases hc
     |_=>
      have mT:id∉(V.bF all).filter fun id=>(s.o id).lH:=fun h=>by
       have h2:(s.H.o id).lH=true:=(List.mem_filter.1 h).2
       rw[hx]at h2;cases h2
      refine hn (.inr ⟨id, ?_,hb⟩)
      rw[a4 id mT,hx]at hl
      rw[f3 id aC,hx]
      exact hl
    ·have mT:id∉(V.bF all).filter fun id=>(s.o id).lH:=fun h=>aC (List.mem_filter.1 h).1
     refine hn (.inr ⟨id, ?_,hb⟩)
     rw[a4 id mT]at hl
     rw[f4 id aC]
     exact hl
  have ho:=R.JW (w':=w') (B':=ay M φ (s.H.put (dn s.H.o ((V.bF all).filter fun id=>(s.o id).lH)))) lL hnm ho
  cases out with
  |ret rs=>
   cases e with
   |returned val=>
    refine hN _ _ _ _ hK (me hs k1 (a2.trans k2) (lK ho) db (by rw[BA]) ?_)
    intro id hu;rw[BA]at hu;exact Nat.lt_succ_of_lt hu
   |panicked ch=>cases rs with|nil=>exact ho.elim|cons x l=>cases l<;>exact ho.elim
   |outgrown=>cases rs with|nil=>exact ho.elim|cons x l=>cases l<;>exact ho.elim
  |bU x=>
   cases e with
   |returned val=>exact ho.elim
   |panicked ch=>
    obtain⟨val,rfl,hd⟩:=ho
    have zu:=eM hs k1 (a2.trans k2) (o':=put s.o (rp s.o (V.bF all))) (nx':=s.nx+1) (by rw[BA]) (fun id hu=>by rw[BA]at hu;exact Nat.lt_succ_of_lt hu)
    refine hQ _ _ _ _ val hK zu ?_
    have e1:ay M φ (S.H ⟨s.env,put s.o (rp s.o (V.bF all)),s.nx+1⟩)=ay M φ (s.H.put (dn s.H.o ((V.bF all).filter fun id=>(s.o id).lH))):=by rw[BA];rfl
    simp only[V.den]
    rw[e1];exact hd
   |outgrown=>exact ho.elim
 ·exact xD hs db fF bA hC hN hQ
 ·obtain⟨f1,f2,f3,f4,f5⟩:=dx hs.heap (dy s.o all) (iz all _ s.o bA)
  have lg:s.H.put (dn s.H.o (dy s.o all))=hp (put s.o (dn s.o (dy s.o all))) s.nx:=lI (by rw[tI];exact iz all _ s.o bA)
  have nm:=JX f1 all _ f3 (V.ba f2 _ _ bA)
  rw[lg]at f1 f2 nm
  exact xD (s:=⟨s.env,put s.o (dn s.o (dy s.o all)),s.nx⟩) (eM hs f1 f2 rfl fun id hu=>hu) db fF nm hC hN hQ
theorem NK(hs:cw M cT H0 w0 n cx φ s a w){o:Oper}{c:Call}{f:Operand}(fA:o.op= .call c)(hc:c.callee= .value f)(db:iy n o.dst)
 (h:Bw P s (s.ev f) (c.args.toList.map s.ev) (fun v o' nx'=>K ⟨bu s.env o.dst v,o',nx'⟩) (fun v o' nx'=>X v ⟨s.env,o',nx'⟩))
 (hN:∀s' aQ a' w',K s'->cw M cT H0 w0 n cx aQ s' a' w'->next a' w')
 (hQ:∀v s' aQ w' val,X v s'->cw M cT H0 w0 n cx aQ s' a w'->V.den (ay M aQ s'.H) aQ s'.H w' v val->Q (.panic [{v:=val,recovered:=false}]) a w'):o.wpIn (ej ro) k P a w next Q:=by
 refine kS (fun c' zx=>by rw[fA]at zx;cases zx) ?_
 have hf:=m8 (M:=M) (φ:=φ) (H:=s.H) (w:=w) s a hs.env f
 have dZ:=kO (M:=M) (φ:=φ) (H:=s.H) (w:=w) s a hs.env c.args.toList
 unfold Bw at h
 split at h
 ·rename_i g first cap wE
  rw[wE]at hf
  obtain⟨fa,ca,Ts,Dl,Yt⟩:=hf
  have bA:V.aN (ay M φ s.H) φ s.H w (first++c.args.toList.map s.ev++cap) (fa++c.args.map a.eval++ca).toList:=by
   rw[Array.toList_append,Array.toList_append,Array.toList_map]
   exact V.mf Dl dZ Yt
  generalize first++c.args.toList.map s.ev++cap=all at h bA
  generalize oK:fa++c.args.map a.eval++ca=vals at bA
  have fF:Enters P g->(execOp a.eval o).run P w= .ok (.enter g vals) w:=by
   intro he
   have:=lJ (w:=w) he (fa++c.args.map a.eval++ca)
   rw[oK]at this
   simp[execOp,fA,resolve,hc,Ts,Deferred.ofValue,invoke,this,oK]
  exact Bz hs db fF bA h hN hQ
 ·rename_i id wE
  rw[wE]at hf
  obtain⟨_,fL,hp'⟩:=hf
  obtain⟨bZ,hR⟩:=h
  obtain⟨b,fb,Ts⟩:=hp' bZ
  obtain⟨fn,tmps,assign,body,h1,h2⟩:=hR M φ w (c.args.map a.eval) b hs.heap (by rw[Array.toList_map];exact dZ) fb
  have fF:(execOp a.eval o).run P w= .ok (.round b fn tmps assign body) w:=by
   simp[execOp,fA,resolve,hc,Ts,Deferred.ofValue,invoke,h1]
  rw[fF]
  refine⟨fun hd=>by simp[ej]at hd,RoundIn.mono (h2 (k - 1)) fun e w' ⟨aQ,o',nx',v,k1,k2,k3⟩=> ?_⟩
  cases e with
  |returned val=>exact hN _ _ _ _ k3.2 (me hs k1 k2 k3.1 db rfl fun id hu=>hu)
  |panicked ch=>
   obtain⟨val,rfl,k4,k5⟩:=k3
   exact hQ _ _ _ _ val k5 (eM hs k1 k2 (o':=o') (nx':=nx') rfl fun id hu=>hu) k4
  |outgrown=>exact k3.elim
 ·exact h.elim
theorem Hh(hs:cw M cT H0 w0 n cx φ s a w){o:Oper}{c:Call}{r:Operand}{m:String}{g:FuncId}{y:V}(fA:o.op= .call c)(hc:c.callee= .invoke r m)(db:iy n o.dst)(hr:uD P m (s.ev r)=some (g,y))
 (h:uC P s g (y::c.args.toList.map s.ev) (fun v o' nx'=>K ⟨bu s.env o.dst v,o',nx'⟩) (fun v o' nx'=>X v ⟨s.env,o',nx'⟩))
 (hN:∀s' aQ a' w',K s'->cw M cT H0 w0 n cx aQ s' a' w'->next a' w')
 (hQ:∀v s' aQ w' val,X v s'->cw M cT H0 w0 n cx aQ s' a w'->V.den (ay M aQ s'.H) aQ s'.H w' v val->Q (.panic [{v:=val,recovered:=false}]) a w'):o.wpIn (ej ro) k P a w next Q:=by
 refine kS (fun c' zx=>by rw[fA]at zx;cases zx) ?_
 have hf:=m8 (M:=M) (φ:=φ) (H:=s.H) (w:=w) s a hs.env r
 have dZ:=kO (M:=M) (φ:=φ) (H:=s.H) (w:=w) s a hs.env c.args.toList
 unfold uD at hr
 split at hr
 ·rename_i t d hx
  rw[hx]at hf
  obtain⟨val,hv,hd⟩:=hf
  split at hr
  ·rename_i ti hti
   split at hr
   ·rename_i mr tN
    split at hr
    ·rename_i f Hi
     split at hr
     ·rename_i PT
      injection hr with hr
      injection hr with h1 h2
      subst h1;subst h2
      refine Bz (vals:=#[val]++c.args.map a.eval) hs db ?_ ?_ h hN hQ
      ·intro he
       have fF:=lJ (w:=w) he (#[val]++c.args.map a.eval)
       have hpa:mr.path=#[]:=Array.isEmpty_iff.1 PT.1
       have hu:∃u,P.underlying t=some u/\∀e,u≠ .pointer e:=by
        have:=PT.2
        unfold PS at this
        split at this
        ·cases this
        ·rename_i u iJ hu;exact⟨u,hu,fun e he=>iJ e he⟩
        ·cases this
       obtain⟨u,hu,PU⟩:=hu
       have hm:(method (P.types.size+Made.depth) t val m).run P w= .ok (f,val) w:=by
        have:P.types.size+Made.depth=(P.types.size+Made.depth - 1)+1:=by simp[Made.depth]
        rw[this]
        cases u<;>first|exact absurd rfl (PU _)|simp[method,typeInfo,hti,tN,hpa,Hi,follow,receiverAt,run_underlying hu,_root_.Go.Place.get]
       have h0:(#[Value.iface t val]++Array.map a.eval c.args)[0]? =some (.iface t val):=by
        rw[Array.getElem?_append_left (by simp)];rfl
       have h1:(Array.map a.eval c.args).extract 0 c.args.size=Array.map a.eval c.args:=by
        rw[show c.args.size=(Array.map a.eval c.args).size from by simp,Array.extract_size]
       simp[execOp,fA,resolve,hc,invoke,callMethod,hv,h0,h1,hm,fF]
      ·simp only[Array.toList_append,Array.toList_map]
       exact⟨val,_,rfl,hd,dZ⟩
     ·cases hr
    ·cases hr
   ·cases hr
  ·cases hr
 ·cases hr
theorem xE(hs:cw M cT H0 w0 n cx φ s a w){o:Oper}(h:opW P n s o X K)
 (hN:∀s' aQ a' w',K s'->cw M cT H0 w0 n cx aQ s' a' w'->next a' w')
 (hQ:∀v s' aQ w' val,X v s'->cw M cT H0 w0 n cx aQ s' a w'->V.den (ay M aQ s'.H) aQ s'.H w' v val->Q (.panic [{v:=val,recovered:=false}]) a w'):o.wpIn (ej ro) k P a w next Q:=by
 obtain⟨db,h⟩:=h
 split at h
 ·rename_i c fA
  split at h
  ·rename_i f hc
   exact NK hs fA hc db h hN hQ
  ·rename_i r m hc
   split at h
   ·rename_i g y hr;exact Hh hs fA hc db hr h hN hQ
   ·exact h.elim
  ·exact JV hs rfl db h hN
 ·rename_i x fA
  have hx:=m8 (M:=M) (φ:=φ) (H:=s.H) (w:=w) s a hs.env x
  have bU:∀ (t:TypeId) (u:Value),a.eval x= .iface t u->Q (.panic [{v:= .iface t u,recovered:=false}]) a w->o.wpIn (ej ro) k P a w next Q:=by
   intro t u hu hq
   refine kS (fun c hc=>by rw[fA]at hc;cases hc) ?_
   have hr:(execOp a.eval o).run P w= .halt (.panic (.iface t u)) w:=by simp[execOp,fA,hu,Instr.panic]
   rw[hr];exact hq
  split at h
  ·rename_i t y hv
   rw[hv]at hx
   obtain⟨u,hu,hd⟩:=hx
   exact bU t u hu (hQ _ s φ w (.iface t u) h hs ⟨u,rfl,hd⟩)
  ·rename_i t y hv
   rw[hv]at hx
   obtain⟨u,hu,hd⟩:=hx
   exact bU t u hu (hQ _ s φ w (.iface t u) h hs ⟨u,rfl,hd⟩)
  ·exact h.elim
 ·exact JV hs rfl db h hN
end
end Go.Proofs.YtonbelhklnmjnaaGreat
namespace Go
def Code.tn (P:Program)(ro:Option Nat)(c:Code)(Q:Exit->Act->World->Prop)(a:Act)(w:World):Prop:=
 ∀ (b:Frame) (k:List Item) (cs:List Frame),b.roundOf=ro->b.fn<P.funcs.size->
   ∃e a' w',Q e a' w'/\ArrivesIn (Machine.fenced P (Proofs.YtonbelhklnmjnaaGreat.ej ro)) P (lone (b.atR a (.code c::k)) cs w) b k cs e a' w'
end Go
namespace Go.Proofs.YtonbelhklnmjnaaGreat
instance:LawfulMonad Sem:=LawfulMonad.mk' Sem (id_map:=fun x=>Sem.bind_pure' x) (pure_bind:=fun _ _=>rfl) (bind_assoc:=fun x f g=>Sem.bind_assoc' x f g)
section
variable {P:Program}{M:Nat->Prop}{φ:Place}{H:Hp}{w w':World}{cT:Place}{H0:Hp}{w0:World}{n b:Nat}{s:S}{a:Act}{cx:Cx}{ro:Option Nat}{k:Nat}
theorem qh(hs:cw M cT H0 w0 n cx φ s a w){ops:Array Oper}{o:Oper}{A B:Prop}(h:zq s ops o.guard A B):
 (Region.wanted o (yielded ops a.tmps)=true->A)/\(Region.wanted o (yielded ops a.tmps)=false->B):=by
 unfold zq at h
 unfold Region.wanted
 split at h
 ·rename_i hg;simp only[hg];exact⟨fun _=>h,fun h=>by cases h⟩
 ·rename_i j want hg
  simp only[hg]
  unfold su at h
  unfold yielded
  split at h
  ·rename_i d hd
   simp only[hd,Option.bind_some]
   have eL:=hs.env d
   split at h
   ·rename_i c hv
    rw[hv]at eL
    simp only[V.den,D.den]at eL
    have:a.tmps[d]? =some (.bool c):=by
     rw[Array.getD_eq_getD_getElem?]at eL
     cases hx:a.tmps[d]? with
     |none=>rw[hx]at eL;simp[undef]at eL
     |some x=>rw[hx]at eL;simp at eL;rw[eL]
    simp only[this]
    by_cases hc:c=want
    ·subst hc;exact⟨fun _=>h.1 rfl,fun h=>by simp at h⟩
    ·exact⟨fun h'=>absurd (by simpa using h') hc,fun _=>h.2 hc⟩
   ·rename_i hv
    rw[hv]at eL
    obtain⟨arr,cP,hn⟩:=eL
    simp only[V.aN]at hn
    have:∀c,a.tmps[d]? ≠some (.bool c):=by
     intro c hx
     rw[Array.getD_eq_getD_getElem?,hx]at cP
     simp at cP
    cases hx:a.tmps[d]? with
    |none=>exact⟨fun h=>by simp at h,fun _=>h⟩
    |some x=>cases x<;>first|(exact absurd hx (this _))|(exact⟨fun h=>by simp at h,fun _=>h⟩)
   ·exact h.elim
  ·rename_i hd
   simp only[hd,Option.bind_none]
   exact⟨fun h=>by simp at h,fun _=>h⟩
theorem BB(hs:cw M cT H0 w0 n cx φ s a w){dst:Option Tmp}(db:iy n dst):cw M cT H0 w0 n cx φ ⟨bu s.env dst (.cp []),s.o,s.nx+1⟩ (a.put dst undef) w:=
 me (v:= .cp []) (val:=undef) hs hs.heap (Trans.refl _ _ _) ⟨#[],rfl,rfl⟩ db rfl fun _ hu=>Nat.lt_succ_of_lt hu
theorem pc{ops:Array Oper}{X:V->S->Prop}{K:S->Prop}{Q:Exit->Act->World->Prop}
 (hK:∀s φ a w,K s->cw M cT H0 w0 n cx φ s a w->Q .normal a w)
 (hQ:∀v s' aQ a w' val,X v s'->cw M cT H0 w0 n cx aQ s' a w'->V.den (ay M aQ s'.H) aQ s'.H w' v val->Q (.panic [{v:=val,recovered:=false}]) a w'):
 ∀ (l:List Oper) (s:S) (φ:Place) (a:Act) (w:World),zr P n ops X K l s->cw M cT H0 w0 n cx φ s a w->wpListIn (ej ro) k P ops Q l a w
 |[],s,φ,a,w,h,hs=>hK s φ a w h hs
 |o::l,s,φ,a,w,h,hs=>by
  obtain⟨h1,h2⟩:=qh hs h
  unfold wpListIn
  split
  ·rename_i hw
   exact xE hs (h1 hw) (fun s' aQ a' w' hk iK=>pc hK hQ l s' aQ a' w' hk iK) (fun v s' aQ w' val hx iK hd=>hQ v s' aQ a w' val hx iK hd)
  ·rename_i hw
   obtain⟨db,h3⟩:=h2 (by simpa using hw)
   exact⟨fun _ _=>trivial,pc hK hQ l _ _ _ _ h3 (BB hs db)⟩
def Fj(M:Nat->Prop)(cT:Place)(H0:Hp)(w0:World)(n:Nat)(cx:Cx)(Q:fS->S->Prop)(e:Exit)(a:Act)(w:World):Prop:=
 ∃x s φ,Q x s/\cw M cT H0 w0 n cx φ s a w/\match e,x with
  | .normal, .normal=>True
  | .exit i, .exit j=>i=j
  | .ret, .ret=>True
  | .panic ch, .bU v=>∃val,ch=[{v:=val,recovered:=false}]/\V.den (ay M φ s.H) φ s.H w v val
  |_,_=>False
section
variable {Q:Exit->Act->World->Prop}
theorem iA{m:Nat}:(ej ro).room m:=fun d hd=>by simp[ej]at hd
theorem pg{c:Code}(h:c.wpIn (ej ro) k P Q a w):c.tn P ro Q a w:=fun b k cs tN _=>h b k cs tN trivial iA
theorem iB{c:Code}{Q':Exit->Act->World->Prop}(h:c.tn P ro Q a w)(hq:∀e a w,Q e a w->Q' e a w):c.tn P ro Q' a w:=
 fun b k cs tN hb=>let⟨e,a',w',q,r⟩:=h b k cs tN hb;⟨e,a',w',hq _ _ _ q,r⟩
theorem Fk(h:Q .ret a w):Code.ret.tn P ro Q a w:=pg (k:=0) (wpIn_ret h)
theorem BC{id:Nat}(h:Q (.exit id) a w):(Code.exit id).tn P ro Q a w:=pg (k:=0) (wpIn_exit h)
theorem zy{x y:Code}(h:x.tn P ro (Exit.then (y.tn P ro Q) Q) a w):(Code.seq x y).tn P ro Q a w:=by
 intro b k cs tN hb
 have h0:(lone (b.atR a (.code (.seq x y)::k)) cs w).fenced P (ej ro):=fenced_calm (n:=0) trivial iA rfl
 obtain⟨e,jQ,gM,hq,cP⟩:=h b (.code y::k) cs tN hb
 cases e with
 |normal=>
  obtain⟨Tt,Yu,rH,qi,kT⟩:=hq b k cs tN hb
  exact⟨Tt,Yu,rH,qi, .of_steps (.head h0 stepR_seq cP) kT⟩
 |exit id=>exact⟨_,jQ,gM,hq, .of_steps (.one h0 stepR_seq) (.pass (x:= .code y) rfl (fun _ _=> .inl aj) cP)⟩
 |goto l=>exact⟨_,jQ,gM,hq, .of_steps (.one h0 stepR_seq) (.pass (x:= .code y) rfl (fun _ _=> .inl aj) cP)⟩
 |ret=>exact⟨_,jQ,gM,hq, .of_steps (.one h0 stepR_seq) (.pass (x:= .code y) rfl (fun _ _=> .inl aj) cP)⟩
 |panic ch=>exact⟨_,jQ,gM,hq, .of_steps (.one h0 stepR_seq) (.pass (x:= .code y) rfl (fun _ _=> .inl aj) cP)⟩
 |outgrown=>exact⟨_,jQ,gM,hq, .of_steps (.one h0 stepR_seq) (.pass (x:= .code y) rfl (fun _ _=> .inl aj) cP)⟩
theorem qj{c:Operand}{x y:Code}{t:Bool}(hc:a.eval c= .bool t)(h:(if t then x else y).tn P ro Q a w):(Code.cond c x y).tn P ro Q a w:=
 fun b k cs tN hb=>let⟨e,a',w',q,r⟩:=h b k cs tN hb;⟨e,a',w',q, .of_steps (.one (fenced_calm (n:=0) trivial iA rfl) (stepR_cond hc)) r⟩
theorem Hj{id:Nat}{c:Code}(h:c.tn P ro (Exit.inBlock id Q) a w):(Code.block id c).tn P ro Q a w:=by
 intro b k cs tN hb
 have h0:(lone (b.atR a (.code (.block id c)::k)) cs w).fenced P (ej ro):=fenced_calm (n:=0) trivial iA rfl
 obtain⟨e,jQ,gM,hq,cP⟩:=h b (.inBlock id::k) cs tN hb
 cases e with
 |normal=>exact⟨.normal,jQ,gM,hq, .head h0 stepR_block (StepsIn.trans cP (.one (fenced_calm (n:=0) trivial iA rfl) stepR_inBlock))⟩
 |exit Dr=>
  by_cases aC:Dr=id
  ·simp only[Exit.inBlock,aC,if_true]at hq
   exact⟨.normal,jQ,gM,hq, .head h0 stepR_block (cP.1 k (by simp[exitTo,aC]))⟩
  ·simp only[Exit.inBlock,aC,if_false]at hq
   have this:(id==Dr)=false:=by simp;exact fun h=>aC h.symm
   have hx:exitTo Dr (.inBlock id::k)=exitTo Dr k:=by simp[exitTo,this]
   exact⟨.exit Dr,jQ,gM,hq,fun k' hk=> .head h0 stepR_block (cP.1 k' GO),
    fun zl hk=>let⟨k₁,h1,h2⟩:=cP.2 zl GO;⟨k₁,h1, .head h0 stepR_block h2⟩⟩
 |goto l=>
  have hx:gotoIn l (.inBlock id::k)=gotoIn l k:=by simp[gotoIn]
  exact⟨_,jQ,gM,hq,fun k' hk=> .head h0 stepR_block (cP.1 k' GO),
   fun zl hk=>let⟨k₁,h1,h2⟩:=cP.2 zl GO;⟨k₁,h1, .head h0 stepR_block h2⟩⟩
 |ret=>exact⟨_,jQ,gM,hq, .of_steps (.one h0 stepR_block) cP⟩
 |panic ch=>exact⟨_,jQ,gM,hq, .of_steps (.one h0 stepR_block) cP⟩
 |outgrown=>exact⟨_,jQ,gM,hq, .of_steps (.one h0 stepR_block) cP⟩
theorem hU{b:Frame}{k:List Item}{cs:List Frame}{c:Code}:step P (lone (b.atR a (.code (.scope c)::k)) cs w)= .next (lone (b.atR a (.code c:: .inScope c::k)) cs w):=
 step_lone_go (by simp[stepG,stepG.exec,Frame.atR])
theorem wM{b:Frame}{k:List Item}{cs:List Frame}{c:Code}:step P (lone (b.atR a (.inScope c::k)) cs w)= .next (lone (b.atR a k) cs w):=
 step_lone_go (by simp[stepG,stepG.exec,Frame.atR])
theorem xF{c:Code}(h:c.tn P ro Q a w)(hg:∀l a w, ¬Q (.goto l) a w):(Code.scope c).tn P ro Q a w:=by
 intro b k cs tN hb
 have h0:(lone (b.atR a (.code (.scope c)::k)) cs w).fenced P (ej ro):=fenced_calm (n:=0) trivial iA rfl
 obtain⟨e,jQ,gM,hq,cP⟩:=h b (.inScope c::k) cs tN hb
 cases e with
 |normal=>exact⟨.normal,jQ,gM,hq, .head h0 hU (StepsIn.trans cP (.one (fenced_calm (n:=0) trivial iA rfl) wM))⟩
 |exit Dr=>
  have hx:exitTo Dr (.inScope c::k)=exitTo Dr k:=by simp[exitTo]
  exact⟨.exit Dr,jQ,gM,hq,fun k' hk=> .head h0 hU (cP.1 k' GO),
   fun zl hk=>let⟨k₁,h1,h2⟩:=cP.2 zl GO;⟨k₁,h1, .head h0 hU h2⟩⟩
 |goto l=>exact(hg _ _ _ hq).elim
 |ret=>exact⟨_,jQ,gM,hq, .of_steps (.one h0 hU) cP⟩
 |panic ch=>exact⟨_,jQ,gM,hq, .of_steps (.one h0 hU) cP⟩
 |outgrown=>exact⟨_,jQ,gM,hq, .of_steps (.one h0 hU) cP⟩
def uF(P:Program)(l:Nat)(Q:Exit->Act->World->Prop)(a':Act):Ending->World->Prop
 | .returned _,DW=>∃jump tp,(Instr.endLoop l).run P DW= .ok jump tp/\(match jump with|none=>Q .normal a' tp|some c=>c.tn P none Q a' tp)
 | .panicked chain,DW=>Q (.panic chain) a' DW
 | .outgrown,_=>LetsOut Q
theorem wN{g:Operand}{ps:Array Tmp}{assign body:Code}
 (h:∀fn,fn<P.funcs.size->∃ (l:Nat) (mark:List Deferred) (gM:World) (d:Deferred) (xG:World) (f:FuncId) (args:Array Value) (rH:World),
  (Instr.enterLoop fn a.tmps ps assign body (ej none).round).run P w= .ok (l,mark) gM/\(resolve a.eval (rangeCall g l) 0).run P gM= .ok d xG/\
  (invoke d.target d.args).run P xG= .ok (.enter f args) rH/\CallsIn (ej none) 0 P f args rH (uF P l Q {a with defers:=mark++a.defers})):
 (Code.rangeFunc g ps assign body).tn P none Q a w:=by
 intro b k cs tN hb
 obtain⟨l,mark,gM,d,xG,f,args,rH,he,BD,hinv,hF,fq⟩:=h b.fn hb
 rw[show(ej none).round=b.roundOf from tN.symm]at he
 have calm:∀ (m:Machine),m.fenced P (ej none)↔m.fenced P Fence.wide:=fun m=>Iff.rfl
 have h0:(lone (b.atR a (.code (.rangeFunc g ps assign body)::k)) cs w).fenced P (ej none):=(calm _).2 (fenced_wide P _)
 have mg:=stepR_rangeFunc (P:=P) (b:=b) (a:=a) (k:=k) (cs:=cs) (w:=w) he BD hinv
 obtain⟨e,DW,fr,hR,DX,Hi,JY⟩:=fq (b.atR {a with defers:=mark++a.defers} (.inRangeFunc l::k)::cs) iA
 cases e with
 |outgrown=>
  obtain⟨abX,abY,hq⟩:=hR
  exact⟨.outgrown,abX,abY,hq, .inr (Outgrown.of_steps (.one mg) DX)⟩
 |returned v=>
  obtain⟨jump,tp,cQ,hj⟩:=hR
  have PV:StepsIn (Machine.fenced P (ej none)) P (lone (b.atR a (.code (.rangeFunc g ps assign body)::k)) cs w) (lone (b.atR {a with defers:=mark++a.defers} ((jump.map Item.code).toList++k)) cs tp):=by
   refine .head h0 mg (StepsIn.trans DX (.head ((calm _).2 (fenced_wide P _)) ?_ (.one ((calm _).2 (fenced_wide P _)) (stepR_endRangeFunc cQ))))
   rw[<- finish_atR_inRangeFunc l v];exact step_leave_returned JY
  cases jump with
  |none=>exact⟨.normal,_,tp,hj,PV⟩
  |some c=>
   obtain⟨e',a'',abZ,hq,cP⟩:=hj b k cs tN hb
   exact⟨e',a'',abZ,hq, .of_steps PV cP⟩
 |panicked chain=>
  refine⟨.panic chain,_,DW,hR, .inRangeFunc l::k, .head h0 mg (StepsIn.trans DX (.one ((calm _).2 (fenced_wide P _)) ?_))⟩
  rw[<- Frame.raise_atR];exact step_leave_panicked JY
end
theorem xH(hH:aD M φ H w){id l:Nat}(fL:H.us id){nf m:Nat}{env:List V}{ps:List Nat}{iQ eJ:IC}{st st':LoopState}{pd pd':Option jN}(ho:H.o id= .loop nf m env ps iQ eJ st pd)(fb:φ id= .pointer (some ⟨l,0,none⟩)):
 ∃r,w.heap[l]? =some (.loop r)/\r.state=st/\r.pending=pd.map jN.code/\
  aD M φ (H.put [(id, .loop nf m env ps iQ eJ st' pd')]) {w with heap:=w.heap.setIfInBounds l (.loop {r with state:=st',pending:=pd'.map jN.code})}/\
  Trans φ H w φ (H.put [(id, .loop nf m env ps iQ eJ st' pd')]) {w with heap:=w.heap.setIfInBounds l (.loop {r with state:=st',pending:=pd'.map jN.code})}:=by
 have bp:=hH.ok id
 simp only[bc,ho]at bp
 obtain⟨b,r,h1,h2,h0,h3,h4,h5,h6,h7,h8,h9⟩:=bp
 rw[fb]at h1;simp at h1;subst h1
 refine⟨r,h2,h3,h4, ?_⟩
 have JL:eK (· =l) w {w with heap:=w.heap.setIfInBounds l (.loop {r with state:=st',pending:=pd'.map jN.code})}:=
  ⟨rfl,rfl,rfl,aj,fun j _ hj=>(MapKept.heap_set h2).2 j hj⟩
 have xq:(H.o id).live=true:=by rw[ho];rfl
 have Dq:eQ (φ id)=some l:=by rw[fb];rfl
 have ht:=fk (w:=w) (w':={w with heap:=w.heap.setIfInBounds l (.loop {r with state:=st',pending:=pd'.map jN.code})}) fL xq Dq JL (.loop nf m env ps iQ eJ st' pd') e8 e8
 refine⟨iR hH fL xq Dq JL _ e8 e8 ?_,ht⟩
 unfold bc
 simp only[bQ,aS,if_true]
 exact⟨l,_,fb,(MapKept.heap_set h2).1,h0,rfl,rfl,h5,h6,h7,h8,fun i=>V.aT ht _ _ (h9 i)⟩
theorem jF{l:Nat}{r:Loop}(o:Obj)(hb:w.heap[l]? =some (.loop r)):(setObj l o).run P w= .ok () {w with heap:=w.heap.setIfInBounds l o}:=by
 simp[setObj,Sem.run,hb]
theorem kU{l:Nat}{r:Loop}(hb:w.heap[l]? =some (.loop r)):(Instr.getLoop l).run P w= .ok r w:=by
 simp[Instr.getLoop,getObj,Sem.run,hb,Result.andThen]
end
def ph(Q:fS->S->Prop)(pd:Option jN)(s:S):Prop:=
 match pd with
 |none=>Q .normal s
 |some .ret=>Q .ret s
 |some (.exit id)=>Q (.exit id) s
def BE(P:Program)(n:Nat)(g:V)(ps:List Nat)(iQ eJ:IC)(Q:fS->S->Prop)(s:S):Prop:=
 ∃env,(∀i,bB env i= .aa\/bB env i=s.env i)/\
  match g with
  | .func (.func f) first cap=>nk P f (first++[.jU s.nx]++cap) (aM s.o s.nx (.loop P.funcs.size n env ps iQ eJ .ready none)) (s.nx+1)
    (fun _ o' nx'=>∃nf m e p c d st pd,o' s.nx= .loop nf m e p c d st pd/\st≠ .busy/\ph Q pd ⟨s.env,aM o' s.nx (.loop nf m e p c d .exhausted pd),nx'⟩)
    (fun v o' nx'=>Q (.bU v) ⟨s.env,o',nx'⟩)
  |_=>False
def Yv(P:Program)(n b:Nat)(g:Operand)(ps:List Nat)(iQ eJ:IC)(Q:fS->S->Prop)(s:S):Prop:=∃s',(s'=s\/bM b s s')/\BE P n (s'.ev g) ps iQ eJ Q s'
def jL(P:Program)(n b:Nat)(rd:Bool):Code->(fS->S->Prop)->S->Prop
 | .skip,Q,s=>Q .normal s
 | .label _,Q,s=>Q .normal s
 | .scope x,Q,s=>jL P n b rd x Q s
 | .region _ ops false,Q,s=>zr P n ops (fun v s=>Q (.bU v) s) (Q .normal) ops.toList s
 | .region id ops true,Q,s=>∀M cT H0 w0 cx φ a w ro k,cw M cT H0 w0 n cx φ s a w->(Code.region id ops true).wpIn (ej ro) k P (Fj M cT H0 w0 n cx Q) a w
 | .seq x y,Q,s=>jL P n b rd x (qg (jL P n b rd y Q) Q) s
 | .cond c x y,Q,s=>match s.ev c with
   | .d (.bool t)=>(t=true->jL P n b rd x Q s)/\(t=false->jL P n b rd y Q s)
   | .fh=>jL P n b rd x Q s/\jL P n b rd y Q s
   |_=>False
 | .block id x,Q,s=>jL P n b rd x (fT id Q) s
 | .loop x,Q,s=>∃ (J:Nat->S->Prop),(∃m s1,bM b s s1/\J m s1)/\∀m s0,J m s0->jL P n b rd x (fun e s=>match e with| .normal=>∃m' s1,m'<m/\bM b s s1/\J m' s1|e=>Q e s) s0
 | .exit id,Q,s=>Q (.exit id) s
 | .ret,Q,s=>Q .ret s
 | .rangeFunc g ps x y,Q,s=>rd=false/\Yv P n b g ps.toList (low n x) (low n y) Q s
 |_,_,_=>False
section
variable {P:Program}{M:Nat->Prop}{φ:Place}{H:Hp}{w w':World}{cT:Place}{H0:Hp}{w0:World}{n b:Nat}{s:S}{a:Act}{cx:Cx}{ro:Option Nat}{k:Nat}
theorem DY(hb:∀id,H0.us id->id<b)(hs:cw M cT H0 w0 n cx φ s a w){s':S}(h:bM b s s'):∃aQ,cw M cT H0 w0 n cx aQ s' a w:=by
 obtain⟨aQ,h1,h2,h3,h4,h5,h6⟩:=h M φ w (fun i=>a.tmps.getD i undef) hs.heap hs.env
 refine⟨aQ,h1,⟨hs.tr.cA,fun k hk=>hs.tr.grow k (h3 k hk),⟨fun id hu=>Nat.lt_of_lt_of_le (hb id hu) h4,fun id hu hr=> ?_,fun id e' hu he=> ?_⟩⟩,hs.size, ?_,h2⟩
 ·obtain⟨g1,g2⟩:=h5 id (hb id hu) hr
  obtain⟨g3,g4⟩:=hs.tr.rel.row id hu g1
  exact⟨g3,g2.trans g4⟩
 ·obtain⟨e,g1,g2,g3⟩:=h6 id e' (hb id hu) he
  obtain⟨e0,k1,k2,k3⟩:=hs.tr.rel.ep id e hu g1
  refine⟨e0,k1,Nat.le_trans k2 g2,fun heq=> ?_⟩
  have a1:e0=e:=ad
  have a2:e=e':=ad
  exact(g3 a2).trans (k3 a1)
 ·obtain⟨ms,g1,g2,g3,g4⟩:=hs.defers
  exact⟨ms,g1,g2,g3,fun r hr=>⟨(g4 r hr).1,(g4 r hr).2.1,fun hl=>(g4 r hr).2.2 (h3 r hl)⟩⟩
theorem zA{c:Code}{Q:Exit->Act->World->Prop}(J:Nat->Act->World->Prop)(round:∀m a w,J m a w->c.tn P ro (Exit.then (fun a' w'=>∃m',m'<m/\J m' a' w') Q) a w):
 ∀m a w,J m a w->(Code.loop c).tn P ro Q a w:=by
 intro m a w h0 fr kk cs tN hb
 have hr:(ej ro).room (cs.length+1+0):=fun d hd=>by simp[ej]at hd
 have key:∀m a w,J m a w->∃e a' w',Q e a' w'/\ArrivesIn (Machine.fenced P (ej ro)) P (lone (fr.atR a (.code c:: .inLoop c::kk)) cs w) fr kk cs e a' w':=by
  intro m
  induction m using Nat.strongRecOn with
  |_ m ih=>
   intro a w hJ
   obtain⟨e,a1,w1,hq,cP⟩:=round m a w hJ fr (.inLoop c::kk) cs tN hb
   cases e with
   |normal=>
    obtain⟨m',cJ,hJ'⟩:=hq
    obtain⟨e2,a2,w2,W3,Fl⟩:=ih m' cJ a1 w1 hJ'
    exact⟨e2,a2,w2,W3, .of_steps (StepsIn.trans cP (.one (fenced_calm trivial hr rfl) stepR_inLoop)) Fl⟩
   |_=>exact⟨_,a1,w1,hq, .pass (x:= .inLoop c) rfl (fun _ _=> .inl aj) cP⟩
 obtain⟨e,a',w',hq,cP⟩:=key m a w h0
 exact⟨e,a',w',hq, .of_steps (.one (fenced_calm trivial hr rfl) stepR_loop) cP⟩
theorem xI(hs:cw M cT H0 w0 n cx φ s a w)(mS:cx.rd=false)(tN:ro=none){g:Operand}{ps:Array Tmp}{x y:Code}{Q:fS->S->Prop}(h:BE P n (s.ev g) ps.toList (low n x) (low n y) Q s):
 (Code.rangeFunc g ps x y).tn P ro (Fj M cT H0 w0 n cx Q) a w:=by
 subst tN
 obtain⟨env,eL,h⟩:=h
 refine wN fun fn Hi=> ?_
 let DZ:Loop:={state:= .ready,pending:=none,fn:=fn,tmps:=a.tmps,params:=ps,assign:=x,body:=y,defers:=w.heap.size}
 let w1:World:=(w.alloc (.deferred (some []))).alloc (.loop DZ)
 let l:Nat:=w.heap.size+1
 have mg:(Instr.enterLoop fn a.tmps ps x y (ej none).round).run P w= .ok (l,[mark w.heap.size]) w1:=by
  simp[Instr.enterLoop,ej,mark,w1,l,DZ]
 have MK:eK (fun _=>False) w w1:=by
  have k1:=cU w (.deferred (some []))
  have k2:=cU (w.alloc (.deferred (some []))) (.loop DZ)
  exact⟨k2.os.trans k1.os,k2.tape.trans k1.tape,k2.output.trans k1.output,Nat.le_trans k1.size k2.size,fun j hj hm=>(k2.block j (Nat.lt_of_lt_of_le hj k1.size) hm).trans (k1.block j hj hm)⟩
 let jC:=aM φ s.nx (.pointer (some ⟨l,0,none⟩))
 let s1:S:=⟨s.env,aM s.o s.nx (.loop P.funcs.size n env ps.toList (low n x) (low n y) .ready none),s.nx+1⟩
 have dc: ¬s.H.us s.nx:=by simp[S.H]
 have fO:∀b,eQ (.pointer (some ⟨l,0,none⟩))=some b->w.heap.size<=b/\b<w1.heap.size:=by
  intro b hb;simp[eQ]at hb;subst hb;simp[l,w1]
 have Dn:=eS (φ:=φ) (H:=s.H) MK dc (.loop P.funcs.size n env ps.toList (low n x) (low n y) .ready none) (.pointer (some ⟨l,0,none⟩)) fun b hb=>(fO b hb).1
 have NG:(w.alloc (.deferred (some []))).heap.size=w.heap.size+1:=aj
 have xq:w1.heap[l]? =some (.loop DZ):=by
  have:=heap_alloc_new (w.alloc (.deferred (some []))) (.loop DZ)
  rwa [NG]at this
 have GM:=jt hs.heap MK dc (.loop P.funcs.size n env ps.toList (low n x) (low n y) .ready none) (.pointer (some ⟨l,0,none⟩)) fO (by
  unfold bc
  simp only[bQ,aS,if_true]
  refine⟨l,DZ,rfl,xq,Hi,rfl,rfl,rfl,hs.size,rfl,rfl,fun i=> ?_⟩
  rcases eL i with e|e
  ·rw[e];trivial
  ·rw[e];exact V.aT Dn _ _ (hs.env i))
 have xJ:cw M cT H0 w0 n cx jC s1 {a with defers:=mark w.heap.size::a.defers} w1:=by
  have base:=eM hs GM Dn (o':=aM s.o s.nx (.loop P.funcs.size n env ps.toList (low n x) (low n y) .ready none)) (nx':=s.nx+1) rfl (JU fun id aC=>by simp at aC;exact .inr aC)
  refine⟨base.heap,base.tr,base.size, ?_,base.env⟩
  obtain⟨ms,g1,g2,g3,g4⟩:=base.defers
  obtain⟨ms',q1,q2,q3,q4⟩:=hs.defers
  have hmm:ms.map mark=ms'.map mark:=by
   have:ms.map mark++cx.base=ms'.map mark++cx.base:=g1.symm.trans q1
   exact List.append_cancel_right this
  have Tu:ms=ms':=by
   have hm:∀a b,mark a=mark b->a=b:=fun a b h=>by simpa[mark]using h
   exact List.map_inj_right hm |>.1 hmm
  refine⟨w.heap.size::ms,by rw[g1];rfl,List.nodup_cons.2 ⟨fun hm=> ?_,g2⟩,(fun h=>by rw[mS]at h;cases h),fun r hr=> ?_⟩
  ·have:=(q4 w.heap.size (Tu ▸ hm)).2.1
   rw[Array.getElem?_eq_none (Nat.le_refl _)]at this;cases this
  ·rcases List.mem_cons.1 hr with rfl|hr
   ·refine⟨hs.tr.cA.size,(RowKit.Below.heap_alloc (w.alloc (.deferred (some []))) (.loop DZ) w.heap.size (by rw[NG];omega)).trans (heap_alloc_new w _), ?_⟩
    rintro⟨id,i1,i2⟩
    by_cases e:id=s.nx
    ·subst e;simp[jC,eQ,l]at i2
    ·have i1':(s.H.o id).live=true:=by simpa[s1,S.H,e]using i1
     have i2':eQ (φ id)=some w.heap.size:=by simpa[jC,e]using i2
     have:=(hs.heap.ours _ ⟨id,i1',i2'⟩).2
     omega
   ·exact g4 r hr
 have ab0:V.den (ay M jC s1.H) jC s1.H w1 (.jU s.nx) (.func (.yield l) #[] #[]):=
  ⟨rfl,by simp[s1,S.H],fun _=>⟨l,by simp[jC],rfl⟩⟩
 have hg:=m8 (M:=M) (φ:=jC) (H:=s1.H) (w:=w1) s1 {a with defers:=mark w.heap.size::a.defers} xJ.env g
 have ab1:s1.ev g=s.ev g:=by cases g<;>rfl
 rw[ab1]at hg
 have hae:({a with defers:=mark w.heap.size::a.defers}:Act).eval g=a.eval g:=rfl
 rw[hae]at hg
 split at h
 ·rename_i f first cap hgv
  rw[hgv]at hg
  obtain⟨fa,ca,Ts,Dl,Yt⟩:=hg
  have fin:∀ (all:List V) (o2:Nat->ab) (s2:S),s2=⟨s.env,o2,s.nx+1⟩->cw M cT H0 w0 n cx jC s2 {a with defers:=mark w.heap.size::a.defers} w1->V.aN (ay M jC s2.H) jC s2.H w1 all (fa++#[Value.func (.yield l) #[] #[]]++ca).toList->(o2 s.nx).cC=true->
   cO P f all o2 (s.nx+1) (fun _ o' nx'=>∃nf m e p c d st pd,o' s.nx= .loop nf m e p c d st pd/\st≠ .busy/\ph Q pd ⟨s.env,aM o' s.nx (.loop nf m e p c d .exhausted pd),nx'⟩) (fun v o' nx'=>Q (.bU v) ⟨s.env,o',nx'⟩)->
   ∃ (l:Nat) (mark:List Deferred) (gM:World) (d:Deferred) (xG:World) (f:FuncId) (args:Array Value) (rH:World),
     (Instr.enterLoop fn a.tmps ps x y (ej none).round).run P w= .ok (l,mark) gM/\(resolve a.eval (rangeCall g l) 0).run P gM= .ok d xG/\
     (invoke d.target d.args).run P xG= .ok (.enter f args) rH/\CallsIn (ej none) 0 P f args rH (uF P l (Fj M cT H0 w0 n cx Q) {a with defers:=mark++a.defers}):=by
   intro all o2 s2 ab2 ML bA bZ hC
   subst ab2
   have fq:=hC.2 M jC w1 _ ML.heap bA
   refine⟨l,[mark w.heap.size],w1,{target:= .fn (.func f) ca,args:=fa++#[Value.func (.yield l) #[] #[]]},w1,f,fa++#[Value.func (.yield l) #[] #[]]++ca,w1,mg, ?_, ?_,du (fq.mono fun e w' ⟨aQ,o',nx',v,k1,k2,k3⟩=> ?_)⟩
   ·simp only[resolve,Ts,Deferred.ofValue,List.map_toArray,List.map_cons,List.map_nil,Sem.run_pure]
    rfl
   ·simp[invoke,lJ hC.1]
   ·cases e with
    |returned val=>
     obtain⟨k4,nf,m,e,p,c,d,st,pd,k5,k6,k7⟩:=k3
     have Fm:cw M cT H0 w0 n cx aQ ⟨s.env,o',nx'⟩ {a with defers:=mark w.heap.size::a.defers} w':=eM ML k1 k2 rfl fun id hu=>hu
     have Tv:aQ s.nx= .pointer (some ⟨l,0,none⟩):=by
      have:=(k2.rel.row s.nx (show s.nx<s.nx+1 from ad) (by show(o' s.nx).cC=true;rw[k5];rfl)).2
      rw[this];simp[jC]
     have cJ:s.nx<nx':=k2.rel.us s.nx (show s.nx<s.nx+1 from ad)
     obtain⟨r,r1,r2,r3,r4,r5⟩:=xH (st':= .exhausted) (pd':=pd) k1 cJ (show(hp o' nx').o s.nx=_ from k5) Tv
     have cQ:(Instr.endLoop l).run P w'= .ok (pd.map jN.code) {w' with heap:=w'.heap.setIfInBounds l (.loop {r with state:= .exhausted,pending:=pd.map jN.code})}:=by
      have e1:({r with state:= .exhausted}:Loop)={r with state:= .exhausted,pending:=pd.map jN.code}:=by rw[<- r3]
      have hnb:(r.state==LoopState.busy)=false:=by rw[r2];cases st<;>first|rfl|exact absurd rfl k6
      simp only[Instr.endLoop,Sem.run_bind,kU r1,Result.andThen_ok,hnb,Bool.false_eq_true,if_false,Sem.run_pure]
      rw[jF _ r1,e1]
      simp[r3]
     have W4:=eM Fm r4 r5 (o':=aM o' s.nx (.loop nf m e p c d .exhausted pd)) (nx':=nx') rfl fun id hu=>by
      simp only[ez]at hu
      rcases hu with hu|hu
      ·exact hu
      ·subst hu;exact cJ
     refine⟨pd.map jN.code,_,cQ, ?_⟩
     cases pd with
     |none=>exact⟨.normal,_,_,k7,W4,trivial⟩
     |some j=>
      cases j with
      |ret=>exact Fk ⟨.ret,_,_,k7,W4,trivial⟩
      |exit id=>exact BC ⟨.exit id,_,_,k7,W4,rfl⟩
    |panicked ch=>
     obtain⟨val,rfl,k4,k5⟩:=k3
     have Fm:cw M cT H0 w0 n cx aQ ⟨s.env,o',nx'⟩ {a with defers:=mark w.heap.size::a.defers} w':=eM ML k1 k2 rfl fun id hu=>hu
     exact⟨.bU v,_,_,k5,Fm,val,rfl,k4⟩
    |outgrown=>exact k3.elim
  have nm:V.aN (ay M jC s1.H) jC s1.H w1 (first++[V.jU s.nx]++cap) (fa++#[Value.func (.yield l) #[] #[]]++ca).toList:=by
   rw[Array.toList_append,Array.toList_append]
   exact V.mf Dl ⟨_,[],rfl,ab0,rfl⟩ Yt
  rcases h with hC|hC
  ·exact fin _ _ s1 rfl xJ nm (by simp;rfl) hC
  ·have pM:s1.o=aM s.o s.nx (.loop P.funcs.size n env ps.toList (low n x) (low n y) .ready none):=rfl
   obtain⟨f1,f2,f3,f4,f5⟩:=dx xJ.heap (dy s1.o (first++[V.jU s.nx]++cap)) (iz _ _ s1.o nm)
   have lg:s1.H.put (dn s1.H.o (dy s1.o (first++[V.jU s.nx]++cap)))=hp (put s1.o (dn s1.o (dy s1.o (first++[V.jU s.nx]++cap)))) s1.nx:=lI (by rw[tI];exact iz _ _ s1.o nm)
   have PW:=JX f1 _ _ f3 (V.ba f2 _ _ nm)
   have PX:((s1.H.put (dn s1.H.o (dy s1.o (first++[V.jU s.nx]++cap)))).o s.nx).cC=true:=by
    by_cases hm:s.nx∈dy s1.o (first++[V.jU s.nx]++cap)
    ·rw[f3 _ hm];simp[s1,S.H,ab.fz,ab.cC]
    ·rw[f4 _ hm];simp[s1,S.H,ab.cC]
   rw[lg]at f1 f2 PW PX
   exact fin _ (put s1.o (dn s1.o (dy s1.o (first++[V.jU s.nx]++cap)))) ⟨s.env,_,s.nx+1⟩ rfl (eM xJ f1 f2 rfl fun id hu=>hu) PW PX hC
 ·exact h.elim
end
end Go.Proofs.YtonbelhklnmjnaaGreat
