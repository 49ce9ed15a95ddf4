/-
  A PART OF THE PROOF. Conditions: none.
-/
import Derived.RangeFuncLeaves
import Derived.TacticsIn
import Derived.RecoverIn
import Derived.Test.YtlhemmpklhhgoaaGreatQt5
set_option linter.unusedSimpArgs false
set_option linter.unusedVariables false
namespace Go.Proofs.YtlhemmpklhhgoaaGreat
inductive R where
 |ret (ds:List D)|bL (d:D)
def R.is (B:Nat->Prop)(w:World):R->Ending->Prop
 | .ret [x], .returned v=>D.den B w x v
 | .ret ds, .returned v=>∃a,v= .tuple a/\D.aD B w ds a.toList
 | .bL d, .panicked chain=>∃v,chain=[{v:=v,recovered:=false}]/\D.den B w d v
 |_,_=>False
def Enters(P:Program)(f:FuncId):Prop:=∃fn,P.funcs[f]? =some fn/\(fn.name== "runtime.NumGoroutine")=false/\fn.body.isNone=false
def aV(P:Program)(f:FuncId)(ds:List D)(out:R):Prop:=
 Enters P f/\∀ (M:Nat->Prop) (w:World) (vals:Array Value),(∀b,M b->b<w.heap.size)->D.aD M w ds vals.toList->
  Calls P f vals w fun e w'=>eo (fun _=>False) w w'/\out.is M w' e
def hp(o:Nat->ab)(nx:Nat):Hp:=⟨o,fun id=>id<nx⟩
def ni(M:Nat->Prop)(φ:Place)(H:Hp)(w:World)(K X:V->(Nat->ab)->Nat->Prop)(e:Ending)(w':World):Prop:=
 ∃aI o' nx' v,az M aI (hp o' nx') w'/\Trans φ H w aI (hp o' nx') w'/\match e with
  | .returned val=>V.den (aq M aI (hp o' nx')) aI (hp o' nx') w' v val/\K v o' nx'
  | .panicked ch=>∃val,ch=[{v:=val,recovered:=false}]/\V.den (aq M aI (hp o' nx')) aI (hp o' nx') w' v val/\X v o' nx'
  | .outgrown=>False
def bZ(P:Program)(f:FuncId)(args:List V)(o:Nat->ab)(nx:Nat)(K X:V->(Nat->ab)->Nat->Prop):Prop:=
 Enters P f/\∀ (M:Nat->Prop) (φ:Place) (w:World) (vals:Array Value),az M φ (hp o nx) w->V.aD (aq M φ (hp o nx)) φ (hp o nx) w args vals.toList->
  Calls P f vals w (ni M φ (hp o nx) w K X)
def dO(P:Program)(id:Nat)(args:List V)(o:Nat->ab)(nx:Nat)(K X:V->(Nat->ab)->Nat->Prop):Prop:=
 (o id).cu=true/\∀ (M:Nat->Prop) (φ:Place) (w:World) (vals:Array Value) (b:Nat),az M φ (hp o nx) w->V.aD (aq M φ (hp o nx)) φ (hp o nx) w args vals.toList->φ id= .pointer (some ⟨b,0,none⟩)->
  ∃f tmps assign body,(Instr.yield b vals).run P w= .ok (.round b f tmps assign body) w/\∀n,RoundIn Fence.wide n P b f tmps assign body w (ni M φ (hp o nx) w K X)
theorem ni.mono {M:Nat->Prop}{φ:Place}{H:Hp}{w:World}{K X K' X':V->(Nat->ab)->Nat->Prop}(hK:∀v o n,K v o n->K' v o n)(hX:∀v o n,X v o n->X' v o n){e:Ending}{w':World}(h:ni M φ H w K X e w'):ni M φ H w K' X' e w':=by
 obtain⟨aI,o',nx',v,h1,h2,h3⟩:=h
 refine⟨aI,o',nx',v,h1,h2, ?_⟩
 cases e with
 |returned val=>exact⟨h3.1,hK _ _ _ h3.2⟩
 |panicked ch=>obtain⟨val,a,b,c⟩:=h3;exact⟨val,a,b,hX _ _ _ c⟩
 |outgrown=>exact h3
theorem bZ.mono {P:Program}{f:FuncId}{args:List V}{o:Nat->ab}{nx:Nat}{K X K' X':V->(Nat->ab)->Nat->Prop}(hK:∀v o n,K v o n->K' v o n)(hX:∀v o n,X v o n->X' v o n)(h:bZ P f args o nx K X):bZ P f args o nx K' X':=
 ⟨h.1,fun M φ w vals h1 h2=>(h.2 M φ w vals h1 h2).mono fun _ _ h=>h.mono hK hX⟩
theorem dO.mono {P:Program}{id:Nat}{args:List V}{o:Nat->ab}{nx:Nat}{K X K' X':V->(Nat->ab)->Nat->Prop}(hK:∀v o n,K v o n->K' v o n)(hX:∀v o n,X v o n->X' v o n)(h:dO P id args o nx K X):dO P id args o nx K' X':=
 ⟨h.1,fun M φ w vals b h1 h2 h3=>let⟨f,t,a,c,h4,h5⟩:=h.2 M φ w vals b h1 h2 h3;⟨f,t,a,c,h4,fun n=>(h5 n).mono fun _ _ h=>h.mono hK hX⟩⟩
mutual
def D.flat:D->Bool
 | .sl _| .mp _ _=>false
 | .agg cs=>D.jL cs
 | .iface _ x=>x.flat
 |_=>true
def D.jL:List D->Bool
 |[]=>true
 |x::xs=>x.flat&&D.jL xs
end
mutual
theorem D.qz {B B':Nat->Prop}{w w':World}:∀ (x:D) (v:Value),x.flat=true->D.den B w x v->D.den B' w' x v
 | .int _ _,_,_,h| .bool _,_,_,h| .str _,_,_,h| .eT,_,_,h| .lu,_,_,h| .cz,_,_,h| .dK,_,_,h=>h
 | .agg cs,_,hf,h=>by obtain⟨a,rfl,h,h2⟩:=h;exact⟨a,rfl,D.l9 cs _ hf h,h2⟩
 | .sl es,_,hf,h=>by simp[D.flat]at hf
 | .mp _ _,_,hf,h=>by simp[D.flat]at hf
 | .iface t x,_,hf,h=>by obtain⟨u,rfl,h⟩:=h;exact⟨u,rfl,D.qz x u hf h⟩
theorem D.l9 {B B':Nat->Prop}{w w':World}:∀ (xs:List D) (vs:List Value),D.jL xs=true->D.aD B w xs vs->D.aD B' w' xs vs
 |[],_,_,h=>h
 |x::xs,_,hf,h=>by
  obtain⟨u,us,rfl,h1,h2⟩:=h
  simp only[D.jL,Bool.and_eq_true]at hf
  exact⟨u,us,rfl,D.qz x u hf.1 h1,D.l9 xs us hf.2 h2⟩
end
mutual
def D.nj:D->Bool
 | .mp _ _=>false
 | .agg cs=>D.ma cs
 | .sl es=>D.ma es
 | .iface _ x=>x.nj
 |_=>true
def D.ma:List D->Bool
 |[]=>true
 |x::xs=>x.nj&&D.ma xs
end
theorem gL.BM {B B':Nat->Prop}{w w':World}{a:Addr}{cs:Array Value}
 (hb:∀b,qe w b-> ¬B b->w'.heap[b]? =w.heap[b]? /\ ¬B' b) (h:gL B w a cs):gL B' w' a cs:=by
 intro j u hj
 obtain⟨h1,h2⟩:=h j u hj
 have ck:qe w a.block:=by simpa using oW h1
 exact Zm
mutual
theorem D.lC {B B':Nat->Prop}{w w':World}(hb:∀b,qe w b-> ¬B b->w'.heap[b]? =w.heap[b]? /\ ¬B' b):
 ∀ (x:D) (v:Value),x.nj=true->D.den B w x v->D.den B' w' x v
 | .int _ _,_,_,h| .bool _,_,_,h| .str _,_,_,h| .eT,_,_,h| .lu,_,_,h| .cz,_,_,h| .dK,_,_,h=>by simpa[D.den]using h
 | .agg cs,_,hn,h=>by
   obtain⟨a,rfl,h,hf⟩:=h
   exact⟨a,rfl,D.nk hb cs _ hn h,hf⟩
 | .sl es,_,hn,h=>by
   obtain⟨base,len,cap,rfl,h1,h2,h3,sz,h4⟩:=h
   exact⟨base,len,cap,rfl,h1,h2,h3,sz,fun a ha=>⟨(h4 a ha).1,D.qA hb sz a es 0 hn (h4 a ha).2⟩⟩
 | .iface t d,_,hn,h=>by
   obtain⟨u,rfl,h⟩:=h
   exact⟨u,rfl,D.lC hb d u hn h⟩
 | .mp _ _,_,hn,_=>by simp[D.nj]at hn
theorem D.nk {B B':Nat->Prop}{w w':World}(hb:∀b,qe w b-> ¬B b->w'.heap[b]? =w.heap[b]? /\ ¬B' b):
 ∀ (ds:List D) (vs:List Value),D.ma ds=true->D.aD B w ds vs->D.aD B' w' ds vs
 |[],_,_,h=>h
 |d::ds,_,hn,h=>by
  obtain⟨u,us,rfl,h1,h2⟩:=h
  simp only[D.ma,Bool.and_eq_true]at hn
  exact⟨u,us,rfl,D.lC hb d u hn.1 h1,D.nk hb ds us hn.2 h2⟩
theorem D.qA {B B':Nat->Prop}{w w':World}(hb:∀b,qe w b-> ¬B b->w'.heap[b]? =w.heap[b]? /\ ¬B' b)(sz:Nat)(a:Addr):
 ∀ (es:List D) (i:Nat),D.ma es=true->D.elems B w sz a i es->D.elems B' w' sz a i es
 |[],_,_,_=>trivial
 |e::es,i,hn,h=>by
  obtain⟨⟨ev,h1,h2,h3⟩,h4⟩:=h
  simp only[D.ma,Bool.and_eq_true]at hn
  exact⟨⟨ev,h1,h2.BM hb,D.lC hb e ev hn.1 h3⟩,D.qA hb sz a es (i+1) hn.2 h4⟩
end
def R.nj:R->Bool
 | .ret ds=>D.ma ds
 | .bL d=>d.nj
def R.flat:R->Bool
 | .ret ds=>D.jL ds
 | .bL d=>d.flat
def iV:List D->V
 |[x]=> .d x
 |ds=> .bS (ds.map .d)
inductive fL where
 |normal|exit (id:Nat)|ret|bL (v:V)
def a8(env:Nat->V)(dst:Option Tmp)(v:V):Nat->V:=
 match dst with
 |some d=>ay env d v
 |none=>env
def Kv(o:Nat->ab)(v:V):V:=match dQ o v with|some x=> .d x|none=>v
def dc(o:Nat->ab):List V->List Nat
 |[]=>[]
 |v::vs=>(match dQ o v with|some _=>v.ids|none=>[])++dc o vs
def oS(P:Program)(g:FuncId)(args:List V)(o:Nat->ab)(nx:Nat)(K X:V->(Nat->ab)->Nat->Prop):Prop:=
 bZ P g args o nx K X\/bZ P g (args.map (Kv o)) (put o (bE o (dc o args))) nx K X
def vn(P:Program)(s:S)(g:FuncId)(all:List V)(K:V->(Nat->ab)->Nat->Prop)(X:V->(Nat->ab)->Nat->Prop):Prop:=
    (∃ds out,cf s.o all=some ds/\aV P g ds out/\(match out with
     | .ret rs=>K (iV rs) (put s.o (bE s.o (V.bp all))) (s.nx+1)
     | .bL x=>X (.d x) (put s.o (bE s.o (V.bp all))) (s.nx+1)))\/
    (∃ds out,cf s.o all=some ds/\aV P g ds out/\out.flat=true/\(match out with
     | .ret rs=>K (iV rs) s.o (s.nx+1)
     | .bL x=>X (.d x) s.o (s.nx+1)))\/
    (∃ds out,cf s.o all=some ds/\aV P g ds out/\out.nj=true/\(match out with
     | .ret rs=>K (iV rs) (put s.o (rV s.o (V.bp all))) (s.nx+1)
     | .bL x=>X (.d x) (put s.o (rV s.o (V.bp all))) (s.nx+1)))\/
    oS P g all s.o s.nx K X
def B8(P:Program)(s:S)(f:V)(args:List V)(K:V->(Nat->ab)->Nat->Prop)(X:V->(Nat->ab)->Nat->Prop):Prop:=
 match f with
 | .func (.func g) first cap=>vn P s g (first++args++cap) K X
 | .kn id=>dO P id args s.o s.nx K X
 |_=>False
def Q5(P:Program)(t:TypeId):Bool:=
 match P.underlying t with
 |some (.pointer _)=>false
 |some _=>true
 |none=>false
def vo(P:Program)(m:String)(x:V):Option (FuncId×V):=
 match x with
 | .d (.iface t y)=>match P.info? t with
   |some ti=>match ti.methods.find? (·.name==m)with
    |some r=>match r.func with
     |some (f,false)=>if r.path.isEmpty=true/\Q5 P t=true then some (f, .d y)else none
     |_=>none
    |none=>none
   |none=>none
 |_=>none
def gM(n:Nat):Option Tmp->Prop
 |some d=>d<n
 |none=>True
def opW(P:Program)(n:Nat)(s:S)(o:Oper)(X:V->S->Prop)(K:S->Prop):Prop:=
 gM n o.dst/\match o.op with
 | .call c=>match c.callee with
   | .value f=>B8 P s (s.ev f) (c.args.toList.map s.ev) (fun v o' nx'=>K ⟨a8 s.env o.dst v,o',nx'⟩) (fun v o' nx'=>X v ⟨s.env,o',nx'⟩)
   | .invoke r m=>match vo P m (s.ev r)with
     |some (g,y)=>vn P s g (y::c.args.toList.map s.ev) (fun v o' nx'=>K ⟨a8 s.env o.dst v,o',nx'⟩) (fun v o' nx'=>X v ⟨s.env,o',nx'⟩)
     |none=>False
   |_=>QU P s s.nx o.op fun v Δ _=>K ⟨a8 s.env o.dst v,put s.o Δ,s.nx+1⟩
 | .panic x=>match s.ev x with
   | .d (.iface t y)=>X (.d (.iface t y)) s
   | .iface t y=>X (.iface t y) s
   |_=>False
 |op=>QU P s s.nx op fun v Δ _=>K ⟨a8 s.env o.dst v,put s.o Δ,s.nx+1⟩
def zW(s:S)(ops:Array Oper)(g:Option (Nat×Bool))(A B:Prop):Prop:=
 match g with
 |none=>A
 |some (j,want)=>match te ops j with
  |some d=>match s.env d with
   | .d (.bool b)=>(b=want->A)/\(b≠want->B)
   | .bS []=>B
   |_=>False
  |none=>B
def zX(P:Program)(n:Nat)(ops:Array Oper)(X:V->S->Prop)(K:S->Prop):List Oper->S->Prop
 |[],s=>K s
 |o::l,s=>zW s ops o.guard (opW P n s o X (zX P n ops X K l)) (gM n o.dst/\zX P n ops X K l ⟨a8 s.env o.dst (.bS []),s.o,s.nx+1⟩)
def bH(b:Nat)(s s':S):Prop:=
 ∀ (M:Nat->Prop) (φ:Place) (w:World) (tm:Nat->Value),az M φ s.H w->(∀i,V.den (aq M φ s.H) φ s.H w (s.env i) (tm i))->
   ∃aI,az M aI s'.H w/\(∀i,V.den (aq M aI s'.H) aI s'.H w (s'.env i) (tm i))/\(∀k,cD aI s'.H k->cD φ s.H k)/\b<=s'.nx/\
    (∀id,id<b->(s'.o id).cu=true->(s.o id).cu=true/\aI id=φ id)/\
    (∀id e',id<b->(s'.o id).ct=some e'->∃e,(s.o id).ct=some e/\e<=e'/\(e=e'->aI id=φ id))
def qB(K:S->Prop)(Q:fL->S->Prop)(e:fL)(s:S):Prop:=match e with| .normal=>K s|e=>Q e s
def fF(id:Nat)(Q:fL->S->Prop)(e:fL)(s:S):Prop:=match e with| .exit j=>if j=id then Q .normal s else Q (.exit j) s|e=>Q e s
def mc(P:Program)(s:S):List ResultVar->Option (List V)
 |[]=>some []
 | .tmp t::rs=>(mc P s rs).map (s.env t::·)
 | .cell a t::rs=>match s.env a with
   | .ptr id off=>match s.o id with
     | .row cs=>(eU P t cs off).bind fun v=>(mc P s rs).map (v::·)
     |_=>none
   |_=>none
def cw(vs:List V):Nat->V:=fun i=>vs.getD i (.bS [])
def zY(P:Program)(rs:List ResultVar)(out:R)(e:fL)(s:S):Prop:=
 match e with
 | .normal| .ret=>match mc P s rs with
   |some vs=>match cf s.o vs with
    |some ds=>out= .ret ds
    |none=>False
   |none=>False
 | .bL v=>match dQ s.o v with
   |some x=>out= .bL x
   |none=>False
 | .exit _=>False
theorem Kw{P:Program}{rs:List ResultVar}{out:R}{s:S}(h:match mc P s rs with
 |some vs=>match cf s.o vs with
  |some ds=>out= .ret ds
  |none=>False
 |none=>False):∃vs ds,mc P s rs=some vs/\cf s.o vs=some ds/\out= .ret ds:=by
 split at h
 ·rename_i vs h1
  split at h
  ·rename_i xs h2;exact⟨vs,xs,h1,h2,h⟩
  ·exact h.elim
 ·exact h.elim
theorem Kx{out:R}{s:S}{v:V}(h:match dQ s.o v with
 |some x=>out= .bL x
 |none=>False):∃x,dQ s.o v=some x/\out= .bL x:=by
 split at h
 ·rename_i x h1;exact⟨x,h1,h⟩
 ·exact h.elim
section
section
variable {P:Program}{M:Nat->Prop}{φ:Place}{H:Hp}{w w':World}
def ab.lD:ab->Bool
 | .arr .. =>true
 |_=>false
theorem NX(o:Nat->ab)(ids:List Nat):rV o ids=bE o (ids.filter fun id=>(o id).lD):=by
 induction ids with
 |nil=>rfl
 |cons id ids ih=>
  unfold rV at ih|-
  simp only[List.filterMap_cons,List.filter_cons]
  cases hx:o id with
  |arr ep ty sz es=>
   have e:(ab.arr ep ty sz es).lD=true:=rfl
   rw[e,if_pos rfl,ih]
   simp only[bE,List.map_cons,hx]
  |_=>exact ih
theorem kj(hH:az M φ H w){us':Nat->Prop}(h:∀id,H.us id->us' id):az M φ ⟨H.o,us'⟩ w/\Trans φ H w φ ⟨H.o,us'⟩ w:=by
 have ht:Trans φ H w φ ⟨H.o,us'⟩ w:=⟨eo.refl _ _,fun b hb=> .inl hb,⟨h,fun id _ hr=>⟨hr,rfl⟩,fun id e' _ he=>⟨e',he,Nat.le_refl _,fun _=>rfl⟩⟩⟩
 exact⟨hH.of ht (fun _=>False) (fun _ h=>h.elim) (fun id _=>⟨rfl,rfl,fun _ _ _=>rfl⟩) (fun id hn=>hH.fresh id fun hu=>hn (h id hu)) hH.apart (fun b hb=>(hH.ours b hb).2),ht⟩
theorem gr(hH:az M φ H w)(hk:eo (fun _=>False) w w'):az M φ H w'/\Trans φ H w φ H w':=by
 have ht:Trans φ H w φ H w':=⟨⟨hk.os,hk.tape,hk.output,hk.size,fun k h _=>hk.block k h fun h=>h⟩,fun b hb=> .inl hb,dW.refl _ _⟩
 exact⟨hH.of ht (fun _=>False) (fun _ h=>h.elim) (fun id _=>⟨rfl,rfl,fun hl b hb=>hk.block b (hH.ours b ⟨id,hl,hb⟩).2 fun h=>h⟩) hH.fresh hH.apart (fun b hb=>Nat.lt_of_lt_of_le (hH.ours b hb).2 hk.size),ht⟩
theorem lE{Δ:List (Nat×ab)}(h:∀id∈Δ.map (·.1),H.us id):H.put Δ=⟨put H.o Δ,H.us⟩:=by
 unfold Hp.put
 congr 1
 funext id
 simp only[eq_iff_iff]
 exact⟨fun h'=>h'.elim (fun h=>h) (h id), .inl⟩
theorem uk(o:Nat->ab)(ids:List Nat):(bE o ids).map (·.1)=ids:=by
 rw[l7];simp[Function.comp_def]
structure Cx where
 base:List Deferred
 rd:Bool
def dR(ro:Option Nat):Fence:={fn:=fun _=>True,depth:=none,alive:=false,round:=ro}
def mark(r:Nat):Deferred:={target:= .collected r,args:=#[]}
def vq(cx:Cx)(w0:World)(φ:Place)(H:Hp)(w:World)(ds:List Deferred):Prop:=
 ∃ms:List Nat,ds=ms.map mark++cx.base/\ms.Nodup/\(cx.rd=true->ms=[])/\∀r∈ms,w0.heap.size<=r/\w.heap[r]? =some (.deferred (some []))/\ ¬cD φ H r
theorem vq.mono {cx:Cx}{w0:World}{φ aI:Place}{H H':Hp}{w w':World}{ds:List Deferred}(ht:Trans φ H w aI H' w')(h:vq cx w0 φ H w ds):vq cx w0 aI H' w' ds:=by
 obtain⟨ms,h1,h2,h3,h4⟩:=h
 refine⟨ms,h1,h2,h3,fun r hr=> ?_⟩
 obtain⟨g1,g2,g3⟩:=h4 r hr
 have ck:r<w.heap.size:=by
  rcases Nat.lt_or_ge r w.heap.size with hl|hl
  ·exact hl
  ·rw[Array.getElem?_eq_none hl]at g2;cases g2
 refine⟨g1,(ht.cG.block r ck g3).trans g2,fun hl=> ?_⟩
 rcases ht.grow r hl with h|h
 ·exact g3 h
 ·omega
structure cj (M:Nat->Prop) (cL:Place) (H0:Hp) (w0:World) (n:Nat) (cx:Cx) (φ:Place) (s:S) (a:Act) (w:World):Prop where
 heap:az M φ s.H w
 tr:Trans cL H0 w0 φ s.H w
 size:a.tmps.size=n
 defers:vq cx w0 φ s.H w a.defers
 env:∀i,V.den (aq M φ s.H) φ s.H w (s.env i) (a.tmps.getD i undef)
variable {cL:Place}{H0:Hp}{w0:World}{n:Nat}{s:S}{a:Act}{cx:Cx}{ro:Option Nat}{k:Nat}
theorem da{f:FuncId}{args:Array Value}{R:Ending->World->Prop}(h:Calls P f args w R):CallsIn (dR ro) k P f args w R:=
 ⟨trivial,fun cs _=>let⟨e,w',fr,r,s,x⟩:=h cs;⟨e,w',fr,r,comesIn_wide.2 s,x⟩⟩
theorem B9{f:FuncId}{args:Array Value}{R:Ending->World->Prop}(h:CallsIn (dR ro) k P f args w R):Calls P f args w R:=
 fun cs=>let⟨e,w',fr,r,s,x⟩:=h.2 cs (fun _ h=>by simp[dR]at h);⟨e,w',fr,r,comesIn_wide.1 s,x⟩
theorem ky{o:Oper}{next:Act->World->Prop}{Q:Exit->Act->World->Prop}(zZ:∀c,o.op≠ .defer c)(h:o.uponIn (dR ro) k P a next Q ((execOp a.eval o).run P w)):o.wpIn (dR ro) k P a w next Q:=
 ⟨fun _ _=>trivial,by rw[Oper.semAt_eq _ _ _ zZ];exact h⟩
theorem n6(hs:cj M cL H0 w0 n cx φ s a w){aI:Place}{H':Hp}(hH:az M aI H' w')(ht:Trans φ s.H w aI H' w'){v:V}{val:Value}(hd:V.den (aq M aI H') aI H' w' v val){dst:Option Tmp}(cX:gM n dst)
 {o':Nat->ab} {nx':Nat} (ho:H'.o=o') (hu:∀id,H'.us id->id<nx'):cj M cL H0 w0 n cx aI ⟨a8 s.env dst v,o',nx'⟩ (a.put dst val) w':=by
 obtain⟨k1,k2⟩:=kj hH hu
 subst ho
 refine⟨k1,hs.tr.trans (ht.trans k2), ?_, ?_,fun i=> ?_⟩
 ·cases dst<;>simp[Act.put,hs.size]
 ·have:=hs.defers.mono (ht.trans k2);cases dst<;>exact this
 ·cases dst with
  |none=>exact Nx
  |some d=>
   simp only[gM]at cX
   simp only[a8,aL,Act.put]
   by_cases hi:i=d
   ·subst hi
    have h1:(a.tmps.setIfInBounds i val).getD i undef=val:=by simp[Array.getD,hs.size,cX]
    rw[if_pos rfl,h1]
    exact V.aT k2 _ _ hd
   ·have h1:(a.tmps.setIfInBounds d val).getD i undef=a.tmps.getD i undef:=by
     exact TE
    rw[if_neg hi,h1]
    exact Nx
theorem eR(hs:cj M cL H0 w0 n cx φ s a w){aI:Place}{H':Hp}(hH:az M aI H' w')(ht:Trans φ s.H w aI H' w'){o':Nat->ab}{nx':Nat}(ho:H'.o=o')(hu:∀id,H'.us id->id<nx'):
 cj M cL H0 w0 n cx aI ⟨s.env,o',nx'⟩ a w':=by
 obtain⟨k1,k2⟩:=kj hH hu
 subst ho
 exact⟨k1,hs.tr.trans (ht.trans k2),hs.size,hs.defers.mono (ht.trans k2),fun i=>V.aT (ht.trans k2) _ _ (hs.env i)⟩
theorem Ky{Δ:List (Nat×ab)}(h:∀id∈Δ.map (·.1),s.H.us id\/id=s.nx)(id:Nat)(hu:(s.H.put Δ).us id):id<s.nx+1:=by
 rcases hu with hu|hu
 ·exact Nat.lt_succ_of_lt hu
 ·rcases h id hu with h|h
  ·exact Nat.lt_succ_of_lt h
  ·omega
variable {next:Act->World->Prop}{Q:Exit->Act->World->Prop}{X:V->S->Prop}{K:S->Prop}
theorem Kz(hs:cj M cL H0 w0 n cx φ s a w){o:Oper}{op:Op}(gf:o.op=op)(cX:gM n o.dst)(h:QU P s s.nx op fun v Δ _=>K ⟨a8 s.env o.dst v,put s.o Δ,s.nx+1⟩)
 (hN:∀s' aI a' w',K s'->cj M cL H0 w0 n cx aI s' a' w'->next a' w'):o.wpIn (dR ro) k P a w next Q:=by
 obtain⟨nx,val,w',aI,v,Δ,rd,hK,hr,uu,g1,g2,g3,g4⟩:=yo hs.heap (s:=s) rfl hs.env (fr:=s.nx) (by simp[S.H]) gf h
 have tV:=n6 hs g1 g2 g3 cX (o':=put s.o Δ) (nx':=s.nx+1) rfl (Ky g4)
 refine ky (fun c hc=>by rw[gf]at hc;subst hc;exact h) ?_
 rw[hr]
 rcases uu with rfl|⟨rfl,rfl⟩
 ·exact hN _ _ _ _ hK tV
 ·exact hN _ _ _ _ hK tV
theorem V.qc {B:Nat->Prop}{cm bs cs:List V}{u v x:List Value}(h1:V.aD B φ H w cm u)(h2:V.aD B φ H w bs v)(h3:V.aD B φ H w cs x):V.aD B φ H w (cm++bs++cs) (u++v++x):=
 V.bz _ _ _ _ (V.bz _ _ _ _ h1 h2) h3
theorem lF{f:FuncId}(h:Enters P f)(args:Array Value):(callFunc f args).run P w= .ok (.enter f args) w:=by
 obtain⟨fn,h1,h2,h3⟩:=h
 have eO:fn.name≠ "runtime.NumGoroutine" :=by simpa using h2
 have j6:fn.body≠none:=fun h=>by rw[h]at h3;cases h3
 simp[callFunc,h1,eO,j6]
theorem mT:∀ {rs:List D} {val:Value},R.is (aq M φ H) w (.ret rs) (.returned val)->V.den (aq M φ H) φ H w (iV rs) val
 |[],_,h=>by obtain⟨arr,rfl,h⟩:=h;exact⟨arr,rfl,h⟩
 |[x],_,h=>h
 |x::y::l,_,h=>by obtain⟨arr,rfl,h⟩:=h;exact⟨arr,rfl,(V.cH (x::y::l) _).2 h⟩
theorem R.z7 {B B':Nat->Prop}:∀ {out:R} {e:Ending},out.flat=true->out.is B w e->out.is B' w e
 | .ret [], .returned _,_,h=>by obtain⟨arr,rfl,h⟩:=h;exact⟨arr,rfl,h⟩
 | .ret [x], .returned _,hf,h=>by
   simp only[R.flat,D.jL,Bool.and_true]at hf
   exact D.qz x _ hf h
 | .ret (x::y::l), .returned _,hf,h=>by obtain⟨arr,rfl,h⟩:=h;exact⟨arr,rfl,D.l9 (x::y::l) _ hf h⟩
 | .bL d, .panicked _,hf,h=>by obtain⟨v,rfl,h⟩:=h;exact⟨v,rfl,D.qz d v hf h⟩
 | .ret [], .panicked _,_,h| .ret [_], .panicked _,_,h| .ret (_::_::_), .panicked _,_,h| .ret [], .outgrown,_,h| .ret [_], .outgrown,_,h| .ret (_::_::_), .outgrown,_,h| .bL _, .returned _,_,h| .bL _, .outgrown,_,h=>h.elim
theorem R.KA {B B':Nat->Prop}{w':World}(hb:∀b,qe w' b-> ¬B b-> ¬B' b):∀ {out:R} {e:Ending},out.nj=true->out.is B w' e->out.is B' w' e
 | .ret [], .returned _,_,h=>by obtain⟨arr,rfl,h⟩:=h;exact⟨arr,rfl,h⟩
 | .ret [x], .returned _,hf,h=>by
   simp only[R.nj,D.ma,Bool.and_true]at hf
   exact D.lC (fun b hc hn=>⟨rfl,hb b hc hn⟩) x _ hf h
 | .ret (x::y::l), .returned _,hf,h=>by obtain⟨arr,rfl,h⟩:=h;exact⟨arr,rfl,D.nk (fun b hc hn=>⟨rfl,hb b hc hn⟩) (x::y::l) _ hf h⟩
 | .bL d, .panicked _,hf,h=>by obtain⟨v,rfl,h⟩:=h;exact⟨v,rfl,D.lC (fun b hc hn=>⟨rfl,hb b hc hn⟩) d v hf h⟩
 | .ret [], .panicked _,_,h| .ret [_], .panicked _,_,h| .ret (_::_::_), .panicked _,_,h| .ret [], .outgrown,_,h| .ret [_], .outgrown,_,h| .ret (_::_::_), .outgrown,_,h| .bL _, .returned _,_,h| .bL _, .outgrown,_,h=>h.elim
theorem KC(hH:az M φ H w){o:Nat->ab}:∀ (vs:List V) (vals:List Value),(∀id∈dc o vs,H.o id=(o id).fz)->V.aD (aq M φ H) φ H w vs vals->V.aD (aq M φ H) φ H w (vs.map (Kv o)) vals
 |[],_,_,h=>h
 |v::vs,_,ho,h=>by
  obtain⟨u,us,rfl,h1,h2⟩:=h
  refine⟨u,us,rfl, ?_,KC hH vs us (fun id aw=>ho id (by simp[dc,aw])) h2⟩
  unfold Kv
  split
  ·rename_i x hx
   exact eK hH v x u (fun id aw=>ho id (by simp[dc,hx,aw])) hx h1
  ·exact h1
theorem gN:∀ (vs:List V) (vals:List Value) (o:Nat->ab),V.aD (aq M φ H) φ H w vs vals->∀id∈dc o vs,H.us id
 |[],_,_,_,j,hj=>by simp[dc]at hj
 |v::vs,_,o,h,j,hj=>by
  obtain⟨u,us,rfl,h1,h2⟩:=h
  simp only[dc,List.mem_append]at hj
  rcases hj with hj|hj
  ·cases hx:dQ o v with
   |none=>simp[hx]at hj
   |some x=>simp only[hx]at hj;exact cO v u h1 j hj
  ·exact gN vs us o h2 j hj
theorem yp(hs:cj M cL H0 w0 n cx φ s a w){o:Oper}{g:FuncId}{all:List V}{vals:Array Value}(cX:gM n o.dst)(fj:Enters P g->(execOp a.eval o).run P w= .ok (.enter g vals) w)(bf:V.aD (aq M φ s.H) φ s.H w all vals.toList)
 (h:bZ P g all s.o s.nx (fun v o' nx'=>K ⟨a8 s.env o.dst v,o',nx'⟩) (fun v o' nx'=>X v ⟨s.env,o',nx'⟩))
 (hN:∀s' aI a' w',K s'->cj M cL H0 w0 n cx aI s' a' w'->next a' w')
 (hQ:∀v s' aI w' val,X v s'->cj M cL H0 w0 n cx aI s' a w'->V.den (aq M aI s'.H) aI s'.H w' v val->Q (.panic [{v:=val,recovered:=false}]) a w'):o.uponIn (dR ro) k P a next Q ((execOp a.eval o).run P w):=by
 have ez:=h.2 M φ w vals hs.heap bf
 rw[fj h.1]
 refine⟨fun hd=>by simp[dR]at hd,da (ez.mono fun e w' ⟨aI,o',nx',v,k1,k2,k3⟩=> ?_)⟩
 cases e with
 |returned val=>exact Qj
 |panicked ch=>
  obtain⟨val,rfl,k4,k5⟩:=k3
  exact YS
 |outgrown=>exact k3.elim
theorem Ca(hs:cj M cL H0 w0 n cx φ s a w){o:Oper}{g:FuncId}{all:List V}{vals:Array Value}(cX:gM n o.dst)(fj:Enters P g->(execOp a.eval o).run P w= .ok (.enter g vals) w)(bf:V.aD (aq M φ s.H) φ s.H w all vals.toList)
 (h:vn P s g all (fun v o' nx'=>K ⟨a8 s.env o.dst v,o',nx'⟩) (fun v o' nx'=>X v ⟨s.env,o',nx'⟩))
 (hN:∀s' aI a' w',K s'->cj M cL H0 w0 n cx aI s' a' w'->next a' w')
 (hQ:∀v s' aI w' val,X v s'->cj M cL H0 w0 n cx aI s' a w'->V.den (aq M aI s'.H) aI s'.H w' v val->Q (.panic [{v:=val,recovered:=false}]) a w'):o.uponIn (dR ro) k P a next Q ((execOp a.eval o).run P w):=by
 unfold vn at h
 obtain⟨f1,f2,f3,f4,f5⟩:=cU hs.heap (V.bp all) (c7 all _ bf)
 have fk:s.H.put (bE s.H.o (V.bp all))=⟨put s.o (bE s.o (V.bp all)),s.H.us⟩:=lE JO
 have nm:=V.aU f2 _ _ bf
 rcases h with⟨ds,out,ff,hP,hK⟩|⟨ds,out,ff,hP,mV,hK⟩|⟨ds,out,ff,hP,xi,hK⟩|hC|hC
 ·have yd:=dt f1 all ds _ f3 ff nm
  have hM:∀b,aq M φ (s.H.put (bE s.H.o (V.bp all))) b->b<w.heap.size:=fun b hb=>hb.elim (f1.Bi b) fun hl=>(f1.ours b hl).2
  have ez:=hP.2 _ w vals hM yd
  rw[fj hP.1]
  refine⟨fun hd=>by simp[dR]at hd,da (ez.mono fun e w' ⟨hk,ho⟩=> ?_)⟩
  obtain⟨k1,k2⟩:=gr f1 hk
  cases out with
  |ret rs=>
   cases e with
   |returned val=>
    refine hN _ _ _ _ hK (n6 hs k1 (f2.trans k2) (mT ho) cX (by rw[fk]) ?_)
    intro id hu;rw[fk]at hu;exact Nat.lt_succ_of_lt hu
   |panicked ch=>exact xr
   |outgrown=>exact xr
  |bL x=>
   cases e with
   |returned val=>exact ho.elim
   |panicked ch=>
    obtain⟨val,rfl,hd⟩:=ho
    have tV:=eR hs k1 (f2.trans k2) (o':=put s.o (bE s.o (V.bp all))) (nx':=s.nx+1) (by rw[fk]) (fun id hu=>by rw[fk]at hu;exact Nat.lt_succ_of_lt hu)
    refine hQ _ _ _ _ val hK tV ?_
    have e1:aq M φ (S.H ⟨s.env,put s.o (bE s.o (V.bp all)),s.nx+1⟩)=aq M φ (s.H.put (bE s.H.o (V.bp all))):=by rw[fk];rfl
    simp only[V.den]
    rw[e1];exact hd
   |outgrown=>exact ho.elim
 ·have yd:=dt f1 all ds _ f3 ff nm
  have hM:∀b,aq M φ (s.H.put (bE s.H.o (V.bp all))) b->b<w.heap.size:=fun b hb=>hb.elim (f1.Bi b) fun hl=>(f1.ours b hl).2
  have ez:=hP.2 _ w vals hM yd
  rw[fj hP.1]
  refine⟨fun hd=>by simp[dR]at hd,da (ez.mono fun e w' ⟨hk,ho⟩=> ?_)⟩
  obtain⟨k1,k2⟩:=gr hs.heap hk
  have ho:=R.z7 (B':=aq M φ s.H) mV ho
  cases out with
  |ret rs=>
   cases e with
   |returned val=>
    exact hN _ _ _ _ hK (n6 hs k1 k2 (mT ho) cX rfl fun id hu=>Nat.lt_succ_of_lt hu)
   |panicked ch=>exact xr
   |outgrown=>exact xr
  |bL x=>
   cases e with
   |returned val=>exact ho.elim
   |panicked ch=>
    obtain⟨val,rfl,hd⟩:=ho
    exact hQ _ _ _ _ val hK (eR hs k1 k2 (o':=s.o) (nx':=s.nx+1) rfl fun id hu=>Nat.lt_succ_of_lt hu) hd
   |outgrown=>exact ho.elim
 ·obtain⟨a1,a2,a3,a4,a5⟩:=cU hs.heap ((V.bp all).filter fun id=>(s.o id).lD) (fun id aw=>c7 all _ bf id (List.mem_filter.1 aw).1)
  have Cb:s.H.put (bE s.H.o ((V.bp all).filter fun id=>(s.o id).lD))=⟨put s.o (rV s.o (V.bp all)),s.H.us⟩:=by
   rw[NX]
   exact lE (by rw[uk];exact fun id aw=>c7 all _ bf id (List.mem_filter.1 aw).1)
  have yd:=dt f1 all ds _ f3 ff nm
  have hM:∀b,aq M φ (s.H.put (bE s.H.o (V.bp all))) b->b<w.heap.size:=fun b hb=>hb.elim (f1.Bi b) fun hl=>(f1.ours b hl).2
  have ez:=hP.2 _ w vals hM yd
  rw[fj hP.1]
  refine⟨fun hd=>by simp[dR]at hd,da (ez.mono fun e w' ⟨hk,ho⟩=> ?_)⟩
  obtain⟨k1,k2⟩:=gr a1 hk
  have tQ:∀b,qe w' b-> ¬aq M φ (s.H.put (bE s.H.o (V.bp all))) b-> ¬aq M φ (s.H.put (bE s.H.o ((V.bp all).filter fun id=>(s.o id).lD))) b:=by
   intro b hc hn hm
   rcases hm with hM|⟨id,hl,hb⟩
   ·exact hn (.inl hM)
   ·by_cases aw:id∈V.bp all
    ·cases hx:s.H.o id with
     |arr ep ty sz es=>
      rw[a3 id (List.mem_filter.2 ⟨aw,by show(s.H.o id).lD=true;rw[hx];rfl⟩),hx]at hl
      cases hl
     |map kt vt l=>
      have lS:id∉(V.bp all).filter fun id=>(s.o id).lD:=fun h=>by
       have h2:(s.H.o id).lD=true:=(List.mem_filter.1 h).2
       rw[hx]at h2;cases h2
      have aW:=k1.ok id
      unfold aR at aW
      rw[a4 id lS,hx]at aW
      obtain⟨b',es,clock,g1,g2,_⟩:=aW
      rw[g1]at hb
      injection hb with hb
      subst hb
      obtain⟨cs,ty,fz,hc⟩:=hc
      rw[g2]at hc
      cases hc
     |_=>
      have lS:id∉(V.bp all).filter fun id=>(s.o id).lD:=fun h=>by
       have h2:(s.H.o id).lD=true:=(List.mem_filter.1 h).2
       rw[hx]at h2;cases h2
      refine hn (.inr ⟨id, ?_,hb⟩)
      rw[a4 id lS,hx]at hl
      rw[f3 id aw,hx]
      exact hl
    ·have lS:id∉(V.bp all).filter fun id=>(s.o id).lD:=fun h=>aw (List.mem_filter.1 h).1
     refine hn (.inr ⟨id, ?_,hb⟩)
     rw[a4 id lS]at hl
     rw[f4 id aw]
     exact hl
  have ho:=R.KA (w':=w') (B':=aq M φ (s.H.put (bE s.H.o ((V.bp all).filter fun id=>(s.o id).lD)))) tQ xi ho
  cases out with
  |ret rs=>
   cases e with
   |returned val=>
    refine hN _ _ _ _ hK (n6 hs k1 (a2.trans k2) (mT ho) cX (by rw[Cb]) ?_)
    intro id hu;rw[Cb]at hu;exact Nat.lt_succ_of_lt hu
   |panicked ch=>exact xr
   |outgrown=>exact xr
  |bL x=>
   cases e with
   |returned val=>exact ho.elim
   |panicked ch=>
    obtain⟨val,rfl,hd⟩:=ho
    have tV:=eR hs k1 (a2.trans k2) (o':=put s.o (rV s.o (V.bp all))) (nx':=s.nx+1) (by rw[Cb]) (fun id hu=>by rw[Cb]at hu;exact Nat.lt_succ_of_lt hu)
    refine hQ _ _ _ _ val hK tV ?_
    have e1:aq M φ (S.H ⟨s.env,put s.o (rV s.o (V.bp all)),s.nx+1⟩)=aq M φ (s.H.put (bE s.H.o ((V.bp all).filter fun id=>(s.o id).lD))):=by rw[Cb];rfl
    simp only[V.den]
    rw[e1];exact hd
   |outgrown=>exact ho.elim
 ·exact yp hs cX fj bf hC hN hQ
 ·obtain⟨f1,f2,f3,f4,f5⟩:=cU hs.heap (dc s.o all) (gN all _ s.o bf)
  have fk:s.H.put (bE s.H.o (dc s.o all))=hp (put s.o (bE s.o (dc s.o all))) s.nx:=lE (by rw[uk];exact gN all _ s.o bf)
  have nm:=KC f1 all _ f3 (V.aU f2 _ _ bf)
  rw[fk]at f1 f2 nm
  exact yp (s:=⟨s.env,put s.o (bE s.o (dc s.o all)),s.nx⟩) (eR hs f1 f2 rfl fun id hu=>hu) cX fj nm hC hN hQ
theorem NY(hs:cj M cL H0 w0 n cx φ s a w){o:Oper}{c:Call}{f:Operand}(gf:o.op= .call c)(hc:c.callee= .value f)(cX:gM n o.dst)
 (h:B8 P s (s.ev f) (c.args.toList.map s.ev) (fun v o' nx'=>K ⟨a8 s.env o.dst v,o',nx'⟩) (fun v o' nx'=>X v ⟨s.env,o',nx'⟩))
 (hN:∀s' aI a' w',K s'->cj M cL H0 w0 n cx aI s' a' w'->next a' w')
 (hQ:∀v s' aI w' val,X v s'->cj M cL H0 w0 n cx aI s' a w'->V.den (aq M aI s'.H) aI s'.H w' v val->Q (.panic [{v:=val,recovered:=false}]) a w'):o.wpIn (dR ro) k P a w next Q:=by
 refine ky (fun c' vr=>by rw[gf]at vr;cases vr) ?_
 have hf:=m7 (M:=M) (φ:=φ) (H:=s.H) (w:=w) s a hs.env f
 have dF:=kp (M:=M) (φ:=φ) (H:=s.H) (w:=w) s a hs.env c.args.toList
 unfold B8 at h
 split at h
 ·rename_i g first cap xy
  rw[xy]at hf
  obtain⟨fa,ca,TW,zD,hca⟩:=hf
  have bf:V.aD (aq M φ s.H) φ s.H w (first++c.args.toList.map s.ev++cap) (fa++c.args.map a.eval++ca).toList:=by
   exact ZE
  generalize first++c.args.toList.map s.ev++cap=all at h bf
  generalize lh:fa++c.args.map a.eval++ca=vals at bf
  have fj:Enters P g->(execOp a.eval o).run P w= .ok (.enter g vals) w:=by
   intro he
   have:=lF (w:=w) he (fa++c.args.map a.eval++ca)
   rw[lh]at this
   simp[execOp,gf,resolve,hc,TW,Deferred.ofValue,invoke,this,lh]
  exact Ca hs cX fj bf h hN hQ
 ·rename_i id xy
  rw[xy]at hf
  obtain⟨_,dU,hp'⟩:=hf
  obtain⟨cV,hR⟩:=h
  obtain⟨b,eQ,TW⟩:=hp' cV
  obtain⟨fn,tmps,assign,body,h1,h2⟩:=hR M φ w (c.args.map a.eval) b hs.heap (by rw[Array.toList_map];exact dF) eQ
  have fj:(execOp a.eval o).run P w= .ok (.round b fn tmps assign body) w:=by
   simp[execOp,gf,resolve,hc,TW,Deferred.ofValue,invoke,h1]
  rw[fj]
  refine⟨fun hd=>by simp[dR]at hd,RoundIn.mono (h2 (k - 1)) fun e w' ⟨aI,o',nx',v,k1,k2,k3⟩=> ?_⟩
  cases e with
  |returned val=>exact Qj
  |panicked ch=>
   obtain⟨val,rfl,k4,k5⟩:=k3
   exact YS
  |outgrown=>exact k3.elim
 ·exact h.elim
theorem H4(hs:cj M cL H0 w0 n cx φ s a w){o:Oper}{c:Call}{r:Operand}{m:String}{g:FuncId}{y:V}(gf:o.op= .call c)(hc:c.callee= .invoke r m)(cX:gM n o.dst)(hr:vo P m (s.ev r)=some (g,y))
 (h:vn P s g (y::c.args.toList.map s.ev) (fun v o' nx'=>K ⟨a8 s.env o.dst v,o',nx'⟩) (fun v o' nx'=>X v ⟨s.env,o',nx'⟩))
 (hN:∀s' aI a' w',K s'->cj M cL H0 w0 n cx aI s' a' w'->next a' w')
 (hQ:∀v s' aI w' val,X v s'->cj M cL H0 w0 n cx aI s' a w'->V.den (aq M aI s'.H) aI s'.H w' v val->Q (.panic [{v:=val,recovered:=false}]) a w'):o.wpIn (dR ro) k P a w next Q:=by
 refine ky (fun c' vr=>by rw[gf]at vr;cases vr) ?_
 have hf:=m7 (M:=M) (φ:=φ) (H:=s.H) (w:=w) s a hs.env r
 have dF:=kp (M:=M) (φ:=φ) (H:=s.H) (w:=w) s a hs.env c.args.toList
 unfold vo at hr
 split at hr
 ·rename_i t d hx
  rw[hx]at hf
  obtain⟨val,hv,hd⟩:=hf
  split at hr
  ·rename_i ti hti
   split at hr
   ·rename_i mr uv
    split at hr
    ·rename_i f Jh
     split at hr
     ·rename_i Q6
      injection hr with hr
      injection hr with h1 h2
      subst h1;subst h2
      refine Ca (vals:=#[val]++c.args.map a.eval) hs cX ?_ ?_ h hN hQ
      ·intro he
       have fj:=lF (w:=w) he (#[val]++c.args.map a.eval)
       have hpa:mr.path=#[]:=Array.isEmpty_iff.1 Q6.1
       have hu:∃u,P.underlying t=some u/\∀e,u≠ .pointer e:=by
        have:=Q6.2
        unfold Q5 at this
        split at this
        ·cases this
        ·rename_i u jo hu;exact⟨u,hu,fun e he=>jo e he⟩
        ·cases this
       obtain⟨u,hu,Q7⟩:=hu
       have hm:(method (P.types.size+Made.depth) t val m).run P w= .ok (f,val) w:=by
        have:P.types.size+Made.depth=(P.types.size+Made.depth - 1)+1:=by simp[Made.depth]
        rw[this]
        cases u<;>first|exact absurd rfl (Q7 _)|simp[method,typeInfo,hti,uv,hpa,Jh,follow,receiverAt,run_underlying hu,_root_.Go.Place.get]
       have h0:(#[Value.iface t val]++Array.map a.eval c.args)[0]? =some (.iface t val):=by
        rw[Array.getElem?_append_left (by simp)];rfl
       have h1:(Array.map a.eval c.args).extract 0 c.args.size=Array.map a.eval c.args:=by
        rw[show c.args.size=(Array.map a.eval c.args).size from by simp,Array.extract_size]
       simp[execOp,gf,resolve,hc,invoke,callMethod,hv,h0,h1,hm,fj]
      ·simp only[Array.toList_append,Array.toList_map]
       exact⟨val,_,rfl,hd,dF⟩
     ·cases hr
    ·cases hr
   ·cases hr
  ·cases hr
 ·cases hr
theorem yq(hs:cj M cL H0 w0 n cx φ s a w){o:Oper}(h:opW P n s o X K)
 (hN:∀s' aI a' w',K s'->cj M cL H0 w0 n cx aI s' a' w'->next a' w')
 (hQ:∀v s' aI w' val,X v s'->cj M cL H0 w0 n cx aI s' a w'->V.den (aq M aI s'.H) aI s'.H w' v val->Q (.panic [{v:=val,recovered:=false}]) a w'):o.wpIn (dR ro) k P a w next Q:=by
 obtain⟨cX,h⟩:=h
 split at h
 ·rename_i c gf
  split at h
  ·rename_i f hc
   exact NY hs gf hc cX h hN hQ
  ·rename_i r m hc
   split at h
   ·rename_i g y hr;exact H4 hs gf hc cX hr h hN hQ
   ·exact h.elim
  ·exact Kz hs rfl cX h hN
 ·rename_i x gf
  have hx:=m7 (M:=M) (φ:=φ) (H:=s.H) (w:=w) s a hs.env x
  have bL:∀ (t:TypeId) (u:Value),a.eval x= .iface t u->Q (.panic [{v:= .iface t u,recovered:=false}]) a w->o.wpIn (dR ro) k P a w next Q:=by
   intro t u hu hq
   refine ky (fun c hc=>by rw[gf]at hc;cases hc) ?_
   have hr:(execOp a.eval o).run P w= .halt (.panic (.iface t u)) w:=by simp[execOp,gf,hu,Instr.panic]
   rw[hr];exact hq
  split at h
  ·rename_i t y hv
   rw[hv]at hx
   obtain⟨u,hu,hd⟩:=hx
   exact Qq
  ·rename_i t y hv
   rw[hv]at hx
   obtain⟨u,hu,hd⟩:=hx
   exact Qq
  ·exact h.elim
 ·exact Kz hs rfl cX h hN
end
end
end Go.Proofs.YtlhemmpklhhgoaaGreat
namespace Go
def Code.tW (P:Program)(ro:Option Nat)(c:Code)(Q:Exit->Act->World->Prop)(a:Act)(w:World):Prop:=
 ∀ (b:Frame) (k:List Item) (cs:List Frame),b.roundOf=ro->b.fn<P.funcs.size->
   ∃e a' w',Q e a' w'/\ArrivesIn (Machine.fenced P (Proofs.YtlhemmpklhhgoaaGreat.dR ro)) P (lone (b.atR a (.code c::k)) cs w) b k cs e a' w'
end Go
namespace Go.Proofs.YtlhemmpklhhgoaaGreat
instance:LawfulMonad Sem:=LawfulMonad.mk' Sem (id_map:=fun x=>Sem.bind_pure' x) (pure_bind:=fun _ _=>rfl) (bind_assoc:=fun x f g=>Sem.bind_assoc' x f g)
section
variable {P:Program}{M:Nat->Prop}{φ:Place}{H:Hp}{w w':World}{cL:Place}{H0:Hp}{w0:World}{n b:Nat}{s:S}{a:Act}{cx:Cx}{ro:Option Nat}{k:Nat}
theorem qC(hs:cj M cL H0 w0 n cx φ s a w){ops:Array Oper}{o:Oper}{A B:Prop}(h:zW s ops o.guard A B):
 (Region.wanted o (yielded ops a.tmps)=true->A)/\(Region.wanted o (yielded ops a.tmps)=false->B):=by
 unfold zW at h
 unfold Region.wanted
 split at h
 ·rename_i hg;simp only[hg];exact⟨fun _=>h,fun h=>by cases h⟩
 ·rename_i j want hg
  simp only[hg]
  unfold te at h
  unfold yielded
  split at h
  ·rename_i d hd
   simp only[hd,Option.bind_some]
   have ew:=hs.env d
   split at h
   ·rename_i c hv
    rw[hv]at ew
    simp only[V.den,D.den]at ew
    have:a.tmps[d]? =some (.bool c):=by
     rw[Array.getD_eq_getD_getElem?]at ew
     cases hx:a.tmps[d]? with
     |none=>rw[hx]at ew;simp[undef]at ew
     |some x=>rw[hx]at ew;simp at ew;rw[ew]
    simp only[this]
    by_cases hc:c=want
    ·subst hc;exact⟨fun _=>h.1 rfl,fun h=>by simp at h⟩
    ·exact⟨fun h'=>absurd (by simpa using h') hc,fun _=>h.2 hc⟩
   ·rename_i hv
    rw[hv]at ew
    obtain⟨arr,dn,hn⟩:=ew
    simp only[V.aD]at hn
    have:∀c,a.tmps[d]? ≠some (.bool c):=by
     exact QO
    cases hx:a.tmps[d]? with
    |none=>exact⟨fun h=>by simp at h,fun _=>h⟩
    |some x=>cases x<;>first|(exact absurd hx (this _))|(exact⟨fun h=>by simp at h,fun _=>h⟩)
   ·exact h.elim
  ·rename_i hd
   simp only[hd,Option.bind_none]
   exact⟨fun h=>by simp at h,fun _=>h⟩
theorem Cc(hs:cj M cL H0 w0 n cx φ s a w){dst:Option Tmp}(cX:gM n dst):cj M cL H0 w0 n cx φ ⟨a8 s.env dst (.bS []),s.o,s.nx+1⟩ (a.put dst undef) w:=
 n6 (v:= .bS []) (val:=undef) hs hs.heap (Trans.refl _ _ _) ⟨#[],rfl,rfl⟩ cX rfl fun _ hu=>Nat.lt_succ_of_lt hu
theorem pC{ops:Array Oper}{X:V->S->Prop}{K:S->Prop}{Q:Exit->Act->World->Prop}
 (hK:∀s φ a w,K s->cj M cL H0 w0 n cx φ s a w->Q .normal a w)
 (hQ:∀v s' aI a w' val,X v s'->cj M cL H0 w0 n cx aI s' a w'->V.den (aq M aI s'.H) aI s'.H w' v val->Q (.panic [{v:=val,recovered:=false}]) a w'):
 ∀ (l:List Oper) (s:S) (φ:Place) (a:Act) (w:World),zX P n ops X K l s->cj M cL H0 w0 n cx φ s a w->wpListIn (dR ro) k P ops Q l a w
 |[],s,φ,a,w,h,hs=>hK s φ a w h hs
 |o::l,s,φ,a,w,h,hs=>by
  obtain⟨h1,h2⟩:=qC hs h
  unfold wpListIn
  split
  ·rename_i hw
   exact yq hs (h1 hw) (fun s' aI a' w' hk j7=>pC hK hQ l s' aI a' w' hk j7) (fun v s' aI w' val hx j7 hd=>hQ v s' aI a w' val hx j7 hd)
  ·rename_i hw
   obtain⟨cX,h3⟩:=h2 (by simpa using hw)
   exact⟨fun _ _=>trivial,pC hK hQ l _ _ _ _ h3 (Cc hs cX)⟩
def Ge(M:Nat->Prop)(cL:Place)(H0:Hp)(w0:World)(n:Nat)(cx:Cx)(Q:fL->S->Prop)(e:Exit)(a:Act)(w:World):Prop:=
 ∃x s φ,Q x s/\cj M cL H0 w0 n cx φ s a w/\match e,x with
  | .normal, .normal=>True
  | .exit i, .exit j=>i=j
  | .ret, .ret=>True
  | .panic ch, .bL v=>∃val,ch=[{v:=val,recovered:=false}]/\V.den (aq M φ s.H) φ s.H w v val
  |_,_=>False
section
variable {Q:Exit->Act->World->Prop}
theorem gO{m:Nat}:(dR ro).room m:=fun d hd=>by simp[dR]at hd
theorem pD{c:Code}(h:c.wpIn (dR ro) k P Q a w):c.tW P ro Q a w:=fun b k cs uv _=>h b k cs uv trivial gO
theorem gP{c:Code}{Q':Exit->Act->World->Prop}(h:c.tW P ro Q a w)(hq:∀e a w,Q e a w->Q' e a w):c.tW P ro Q' a w:=
 fun b k cs uv hb=>let⟨e,a',w',q,r⟩:=h b k cs uv hb;⟨e,a',w',hq _ _ _ q,r⟩
theorem Gf(h:Q .ret a w):Code.ret.tW P ro Q a w:=pD (k:=0) (wpIn_ret h)
theorem Cd{id:Nat}(h:Q (.exit id) a w):(Code.exit id).tW P ro Q a w:=pD (k:=0) (wpIn_exit h)
theorem z8{x y:Code}(h:x.tW P ro (Exit.then (y.tW P ro Q) Q) a w):(Code.seq x y).tW P ro Q a w:=by
 intro b k cs uv hb
 have h0:(lone (b.atR a (.code (.seq x y)::k)) cs w).fenced P (dR ro):=fenced_calm (n:=0) trivial gO rfl
 obtain⟨e,oG,jB,hq,dn⟩:=h b (.code y::k) cs uv hb
 cases e with
 |normal=>
  obtain⟨TX,Z1,sj,qD,kz⟩:=hq b k cs uv hb
  exact⟨TX,Z1,sj,qD, .of_steps (.head h0 stepR_seq dn) kz⟩
 |exit id=>exact JB
 |goto l=>exact JB
 |ret=>exact JB
 |panic ch=>exact JB
 |outgrown=>exact JB
theorem qE{c:Operand}{x y:Code}{t:Bool}(hc:a.eval c= .bool t)(h:(if t then x else y).tW P ro Q a w):(Code.cond c x y).tW P ro Q a w:=
 fun b k cs uv hb=>let⟨e,a',w',q,r⟩:=h b k cs uv hb;⟨e,a',w',q, .of_steps (.one (fenced_calm (n:=0) trivial gO rfl) (stepR_cond hc)) r⟩
theorem H5{id:Nat}{c:Code}(h:c.tW P ro (Exit.inBlock id Q) a w):(Code.block id c).tW P ro Q a w:=by
 intro b k cs uv hb
 have h0:(lone (b.atR a (.code (.block id c)::k)) cs w).fenced P (dR ro):=fenced_calm (n:=0) trivial gO rfl
 obtain⟨e,oG,jB,hq,dn⟩:=h b (.inBlock id::k) cs uv hb
 cases e with
 |normal=>exact⟨.normal,oG,jB,hq, .head h0 stepR_block (StepsIn.trans dn (.one (fenced_calm (n:=0) trivial gO rfl) stepR_inBlock))⟩
 |exit Bm=>
  by_cases aw:Bm=id
  ·simp only[Exit.inBlock,aw,if_true]at hq
   exact⟨.normal,oG,jB,hq, .head h0 stepR_block (dn.1 k (by simp[exitTo,aw]))⟩
  ·simp only[Exit.inBlock,aw,if_false]at hq
   have this:(id==Bm)=false:=by simp;exact fun h=>aw h.symm
   have hx:exitTo Bm (.inBlock id::k)=exitTo Bm k:=by simp[exitTo,this]
   exact⟨.exit Bm,oG,jB,hq,fun k' hk=> .head h0 stepR_block (dn.1 k' xV),
    fun HX hk=>let⟨k₁,h1,h2⟩:=dn.2 HX xV;⟨k₁,h1, .head h0 stepR_block h2⟩⟩
 |goto l=>
  have hx:gotoIn l (.inBlock id::k)=gotoIn l k:=by simp[gotoIn]
  exact⟨_,oG,jB,hq,fun k' hk=> .head h0 stepR_block (dn.1 k' xV),
   fun HX hk=>let⟨k₁,h1,h2⟩:=dn.2 HX xV;⟨k₁,h1, .head h0 stepR_block h2⟩⟩
 |ret=>exact Tt
 |panic ch=>exact Tt
 |outgrown=>exact Tt
theorem ki{b:Frame}{k:List Item}{cs:List Frame}{c:Code}:step P (lone (b.atR a (.code (.scope c)::k)) cs w)= .next (lone (b.atR a (.code c:: .inScope c::k)) cs w):=
 step_lone_go (by simp[stepG,stepG.exec,Frame.atR])
theorem xH{b:Frame}{k:List Item}{cs:List Frame}{c:Code}:step P (lone (b.atR a (.inScope c::k)) cs w)= .next (lone (b.atR a k) cs w):=
 step_lone_go (by simp[stepG,stepG.exec,Frame.atR])
theorem yr{c:Code}(h:c.tW P ro Q a w)(hg:∀l a w, ¬Q (.goto l) a w):(Code.scope c).tW P ro Q a w:=by
 intro b k cs uv hb
 have h0:(lone (b.atR a (.code (.scope c)::k)) cs w).fenced P (dR ro):=fenced_calm (n:=0) trivial gO rfl
 obtain⟨e,oG,jB,hq,dn⟩:=h b (.inScope c::k) cs uv hb
 cases e with
 |normal=>exact⟨.normal,oG,jB,hq, .head h0 ki (StepsIn.trans dn (.one (fenced_calm (n:=0) trivial gO rfl) xH))⟩
 |exit Bm=>
  have hx:exitTo Bm (.inScope c::k)=exitTo Bm k:=by simp[exitTo]
  exact⟨.exit Bm,oG,jB,hq,fun k' hk=> .head h0 ki (dn.1 k' xV),
   fun HX hk=>let⟨k₁,h1,h2⟩:=dn.2 HX xV;⟨k₁,h1, .head h0 ki h2⟩⟩
 |goto l=>exact(hg _ _ _ hq).elim
 |ret=>exact Tu
 |panic ch=>exact Tu
 |outgrown=>exact Tu
def vu(P:Program)(l:Nat)(Q:Exit->Act->World->Prop)(a':Act):Ending->World->Prop
 | .returned _,Er=>∃jump tX,(Instr.endLoop l).run P Er= .ok jump tX/\(match jump with|none=>Q .normal a' tX|some c=>c.tW P none Q a' tX)
 | .panicked chain,Er=>Q (.panic chain) a' Er
 | .outgrown,_=>LetsOut Q
theorem xI{g:Operand}{ps:Array Tmp}{assign body:Code}
 (h:∀fn,fn<P.funcs.size->∃ (l:Nat) (mark:List Deferred) (jB:World) (d:Deferred) (yu:World) (f:FuncId) (args:Array Value) (sj:World),
  (Instr.enterLoop fn a.tmps ps assign body (dR none).round).run P w= .ok (l,mark) jB/\(resolve a.eval (rangeCall g l) 0).run P jB= .ok d yu/\
  (invoke d.target d.args).run P yu= .ok (.enter f args) sj/\CallsIn (dR none) 0 P f args sj (vu P l Q {a with defers:=mark++a.defers})):
 (Code.rangeFunc g ps assign body).tW P none Q a w:=by
 intro b k cs uv hb
 obtain⟨l,mark,jB,d,yu,f,args,sj,he,Ce,hinv,hF,ez⟩:=h b.fn hb
 rw[show(dR none).round=b.roundOf from uv.symm]at he
 have calm:∀ (m:Machine),m.fenced P (dR none)↔m.fenced P Fence.wide:=fun m=>Iff.rfl
 have h0:(lone (b.atR a (.code (.rangeFunc g ps assign body)::k)) cs w).fenced P (dR none):=(calm _).2 (fenced_wide P _)
 have me:=stepR_rangeFunc (P:=P) (b:=b) (a:=a) (k:=k) (cs:=cs) (w:=w) he Ce hinv
 obtain⟨e,Er,fr,hR,Es,Jh,KF⟩:=ez (b.atR {a with defers:=mark++a.defers} (.inRangeFunc l::k)::cs) gO
 cases e with
 |outgrown=>
  obtain⟨ad3,ad4,hq⟩:=hR
  exact⟨.outgrown,ad3,ad4,hq, .inr (Outgrown.of_steps (.one me) Es)⟩
 |returned v=>
  obtain⟨jump,tX,eG,hj⟩:=hR
  have Q8:StepsIn (Machine.fenced P (dR none)) P (lone (b.atR a (.code (.rangeFunc g ps assign body)::k)) cs w) (lone (b.atR {a with defers:=mark++a.defers} ((jump.map Item.code).toList++k)) cs tX):=by
   refine .head h0 me (StepsIn.trans Es (.head ((calm _).2 (fenced_wide P _)) ?_ (.one ((calm _).2 (fenced_wide P _)) (stepR_endRangeFunc eG))))
   rw[<- finish_atR_inRangeFunc l v];exact step_leave_returned KF
  cases jump with
  |none=>exact⟨.normal,_,tX,hj,Q8⟩
  |some c=>
   obtain⟨e',a'',ad5,hq,dn⟩:=hj b k cs uv hb
   exact⟨e',a'',ad5,hq, .of_steps Q8 dn⟩
 |panicked chain=>
  refine⟨.panic chain,_,Er,hR, .inRangeFunc l::k, .head h0 me (StepsIn.trans Es (.one ((calm _).2 (fenced_wide P _)) ?_))⟩
  rw[<- Frame.raise_atR];exact step_leave_panicked KF
end
theorem yw(hH:az M φ H w){id l:Nat}(dU:H.us id){nf m:Nat}{env:List V}{ps:List Nat}{jE fh:IC}{st st':LoopState}{pd pd':Option jX}(ho:H.o id= .loop nf m env ps jE fh st pd)(eQ:φ id= .pointer (some ⟨l,0,none⟩)):
 ∃r,w.heap[l]? =some (.loop r)/\r.state=st/\r.pending=pd.map jX.code/\
  az M φ (H.put [(id, .loop nf m env ps jE fh st' pd')]) {w with heap:=w.heap.setIfInBounds l (.loop {r with state:=st',pending:=pd'.map jX.code})}/\
  Trans φ H w φ (H.put [(id, .loop nf m env ps jE fh st' pd')]) {w with heap:=w.heap.setIfInBounds l (.loop {r with state:=st',pending:=pd'.map jX.code})}:=by
 have aW:=hH.ok id
 simp only[aR,ho]at aW
 obtain⟨b,r,h1,h2,h0,h3,h4,h5,h6,h7,h8,h9⟩:=aW
 rw[eQ]at h1;simp at h1;subst h1
 refine⟨r,h2,h3,h4, ?_⟩
 have Kp:eo (· =l) w {w with heap:=w.heap.setIfInBounds l (.loop {r with state:=st',pending:=pd'.map jX.code})}:=
  ⟨rfl,rfl,rfl,aH,fun j _ hj=>(MapKept.heap_set h2).2 j hj⟩
 have rJ:(H.o id).live=true:=by rw[ho];rfl
 have F9:ej (φ id)=some l:=by rw[eQ];rfl
 have ht:=eW (w:=w) (w':={w with heap:=w.heap.setIfInBounds l (.loop {r with state:=st',pending:=pd'.map jX.code})}) dU rJ F9 Kp (.loop nf m env ps jE fh st' pd') eF eF
 refine⟨hZ hH dU rJ F9 Kp _ eF eF ?_,ht⟩
 unfold aR
 simp only[bJ,aL,if_true]
 exact⟨l,_,eQ,(MapKept.heap_set h2).1,h0,rfl,rfl,h5,h6,h7,h8,fun i=>V.aT ht _ _ (h9 i)⟩
theorem iW{l:Nat}{r:Loop}(o:Obj)(hb:w.heap[l]? =some (.loop r)):(setObj l o).run P w= .ok () {w with heap:=w.heap.setIfInBounds l o}:=by
 simp[setObj,Sem.run,hb]
theorem kA{l:Nat}{r:Loop}(hb:w.heap[l]? =some (.loop r)):(Instr.getLoop l).run P w= .ok r w:=by
 simp[Instr.getLoop,getObj,Sem.run,hb,Result.andThen]
end
def qF(Q:fL->S->Prop)(pd:Option jX)(s:S):Prop:=
 match pd with
 |none=>Q .normal s
 |some .ret=>Q .ret s
 |some (.exit id)=>Q (.exit id) s
def Cf(P:Program)(n:Nat)(g:V)(ps:List Nat)(jE fh:IC)(Q:fL->S->Prop)(s:S):Prop:=
 ∃env,(∀i,aY env i= .ad\/aY env i=s.env i)/\
  match g with
  | .func (.func f) first cap=>oS P f (first++[.kn s.nx]++cap) (ay s.o s.nx (.loop P.funcs.size n env ps jE fh .ready none)) (s.nx+1)
    (fun _ o' nx'=>∃nf m e p c d st pd,o' s.nx= .loop nf m e p c d st pd/\st≠ .busy/\qF Q pd ⟨s.env,ay o' s.nx (.loop nf m e p c d .exhausted pd),nx'⟩)
    (fun v o' nx'=>Q (.bL v) ⟨s.env,o',nx'⟩)
  |_=>False
def Z2(P:Program)(n b:Nat)(g:Operand)(ps:List Nat)(jE fh:IC)(Q:fL->S->Prop)(s:S):Prop:=∃s',(s'=s\/bH b s s')/\Cf P n (s'.ev g) ps jE fh Q s'
def jd(P:Program)(n b:Nat)(rd:Bool):Code->(fL->S->Prop)->S->Prop
 | .skip,Q,s=>Q .normal s
 | .label _,Q,s=>Q .normal s
 | .scope x,Q,s=>jd P n b rd x Q s
 | .region _ ops false,Q,s=>zX P n ops (fun v s=>Q (.bL v) s) (Q .normal) ops.toList s
 | .region id ops true,Q,s=>∀M cL H0 w0 cx φ a w ro k,cj M cL H0 w0 n cx φ s a w->(Code.region id ops true).wpIn (dR ro) k P (Ge M cL H0 w0 n cx Q) a w
 | .seq x y,Q,s=>jd P n b rd x (qB (jd P n b rd y Q) Q) s
 | .cond c x y,Q,s=>match s.ev c with
   | .d (.bool t)=>(t=true->jd P n b rd x Q s)/\(t=false->jd P n b rd y Q s)
   | .fC=>jd P n b rd x Q s/\jd P n b rd y Q s
   |_=>False
 | .block id x,Q,s=>jd P n b rd x (fF id Q) s
 | .loop x,Q,s=>∃ (J:Nat->S->Prop),(∃m s1,bH b s s1/\J m s1)/\∀m s0,J m s0->jd P n b rd x (fun e s=>match e with| .normal=>∃m' s1,m'<m/\bH b s s1/\J m' s1|e=>Q e s) s0
 | .exit id,Q,s=>Q (.exit id) s
 | .ret,Q,s=>Q .ret s
 | .rangeFunc g ps x y,Q,s=>rd=false/\Z2 P n b g ps.toList (low n x) (low n y) Q s
 |_,_,_=>False
section
variable {P:Program}{M:Nat->Prop}{φ:Place}{H:Hp}{w w':World}{cL:Place}{H0:Hp}{w0:World}{n b:Nat}{s:S}{a:Act}{cx:Cx}{ro:Option Nat}{k:Nat}
theorem Et(hb:∀id,H0.us id->id<b)(hs:cj M cL H0 w0 n cx φ s a w){s':S}(h:bH b s s'):∃aI,cj M cL H0 w0 n cx aI s' a w:=by
 obtain⟨aI,h1,h2,h3,h4,h5,h6⟩:=h M φ w (fun i=>a.tmps.getD i undef) hs.heap hs.env
 refine⟨aI,h1,⟨hs.tr.cG,fun k hk=>hs.tr.grow k (h3 k hk),⟨fun id hu=>Nat.lt_of_lt_of_le (hb id hu) h4,fun id hu hr=> ?_,fun id e' hu he=> ?_⟩⟩,hs.size, ?_,h2⟩
 ·obtain⟨g1,g2⟩:=h5 id (hb id hu) hr
  obtain⟨g3,g4⟩:=hs.tr.rel.row id hu g1
  exact⟨g3,g2.trans g4⟩
 ·obtain⟨e,g1,g2,g3⟩:=h6 id e' (hb id hu) he
  obtain⟨e0,k1,k2,k3⟩:=hs.tr.rel.ep id e hu g1
  refine⟨e0,k1,Nat.le_trans k2 g2,fun heq=> ?_⟩
  have a1:e0=e:=af
  have a2:e=e':=af
  exact(g3 a2).trans (k3 a1)
 ·obtain⟨ms,g1,g2,g3,g4⟩:=hs.defers
  exact⟨ms,g1,g2,g3,fun r hr=>⟨(g4 r hr).1,(g4 r hr).2.1,fun hl=>(g4 r hr).2.2 (h3 r hl)⟩⟩
theorem Aa{c:Code}{Q:Exit->Act->World->Prop}(J:Nat->Act->World->Prop)(round:∀m a w,J m a w->c.tW P ro (Exit.then (fun a' w'=>∃m',m'<m/\J m' a' w') Q) a w):
 ∀m a w,J m a w->(Code.loop c).tW P ro Q a w:=by
 intro m a w h0 fr kk cs uv hb
 have hr:(dR ro).room (cs.length+1+0):=fun d hd=>by simp[dR]at hd
 have key:∀m a w,J m a w->∃e a' w',Q e a' w'/\ArrivesIn (Machine.fenced P (dR ro)) P (lone (fr.atR a (.code c:: .inLoop c::kk)) cs w) fr kk cs e a' w':=by
  intro m
  induction m using Nat.strongRecOn with
  |_ m ih=>
   intro a w hJ
   obtain⟨e,a1,w1,hq,dn⟩:=round m a w hJ fr (.inLoop c::kk) cs uv hb
   cases e with
   |normal=>
    obtain⟨m',ck,hJ'⟩:=hq
    obtain⟨e2,a2,w2,W0,Gg⟩:=ih m' ck a1 w1 hJ'
    exact⟨e2,a2,w2,W0, .of_steps (StepsIn.trans dn (.one (fenced_calm trivial hr rfl) stepR_inLoop)) Gg⟩
   |_=>exact⟨_,a1,w1,hq, .pass (x:= .inLoop c) rfl (fun _ _=> .inl aH) dn⟩
 obtain⟨e,a',w',hq,dn⟩:=key m a w h0
 exact⟨e,a',w',hq, .of_steps (.one (fenced_calm trivial hr rfl) stepR_loop) dn⟩
theorem yx(hs:cj M cL H0 w0 n cx φ s a w)(mJ:cx.rd=false)(uv:ro=none){g:Operand}{ps:Array Tmp}{x y:Code}{Q:fL->S->Prop}(h:Cf P n (s.ev g) ps.toList (low n x) (low n y) Q s):
 (Code.rangeFunc g ps x y).tW P ro (Ge M cL H0 w0 n cx Q) a w:=by
 subst uv
 obtain⟨env,ew,h⟩:=h
 refine xI fun fn Jh=> ?_
 let Eu:Loop:={state:= .ready,pending:=none,fn:=fn,tmps:=a.tmps,params:=ps,assign:=x,body:=y,defers:=w.heap.size}
 let w1:World:=(w.alloc (.deferred (some []))).alloc (.loop Eu)
 let l:Nat:=w.heap.size+1
 have me:(Instr.enterLoop fn a.tmps ps x y (dR none).round).run P w= .ok (l,[mark w.heap.size]) w1:=by
  simp[Instr.enterLoop,dR,mark,w1,l,Eu]
 have NZ:eo (fun _=>False) w w1:=by
  have k1:=cq w (.deferred (some []))
  have k2:=cq (w.alloc (.deferred (some []))) (.loop Eu)
  exact⟨k2.os.trans k1.os,k2.tape.trans k1.tape,k2.output.trans k1.output,Nat.le_trans k1.size k2.size,fun j hj hm=>(k2.block j (Nat.lt_of_lt_of_le hj k1.size) hm).trans (k1.block j hj hm)⟩
 let iT:=ay φ s.nx (.pointer (some ⟨l,0,none⟩))
 let s1:S:=⟨s.env,ay s.o s.nx (.loop P.funcs.size n env ps.toList (low n x) (low n y) .ready none),s.nx+1⟩
 have cQ: ¬s.H.us s.nx:=by simp[S.H]
 have fK:∀b,ej (.pointer (some ⟨l,0,none⟩))=some b->w.heap.size<=b/\b<w1.heap.size:=by
  intro b hb;simp[ej]at hb;subst hb;simp[l,w1]
 have Bk:=dM (φ:=φ) (H:=s.H) NZ cQ (.loop P.funcs.size n env ps.toList (low n x) (low n y) .ready none) (.pointer (some ⟨l,0,none⟩)) fun b hb=>(fK b hb).1
 have NT:(w.alloc (.deferred (some []))).heap.size=w.heap.size+1:=aH
 have rJ:w1.heap[l]? =some (.loop Eu):=by
  have:=heap_alloc_new (w.alloc (.deferred (some []))) (.loop Eu)
  rwa [NT]at this
 have rQ:=iG hs.heap NZ cQ (.loop P.funcs.size n env ps.toList (low n x) (low n y) .ready none) (.pointer (some ⟨l,0,none⟩)) fK (by
  unfold aR
  simp only[bJ,aL,if_true]
  refine⟨l,Eu,rfl,rJ,Jh,rfl,rfl,rfl,hs.size,rfl,rfl,fun i=> ?_⟩
  rcases ew i with e|e
  ·rw[e];trivial
  ·rw[e];exact V.aT Bk _ _ (hs.env i))
 have oJ:cj M cL H0 w0 n cx iT s1 {a with defers:=mark w.heap.size::a.defers} w1:=by
  have base:=eR hs rQ Bk (o':=ay s.o s.nx (.loop P.funcs.size n env ps.toList (low n x) (low n y) .ready none)) (nx':=s.nx+1) rfl (Ky fun id aw=>by simp at aw;exact .inr aw)
  refine⟨base.heap,base.tr,base.size, ?_,base.env⟩
  obtain⟨ms,g1,g2,g3,g4⟩:=base.defers
  obtain⟨ms',q1,q2,q3,q4⟩:=hs.defers
  have hmm:ms.map mark=ms'.map mark:=by
   have:ms.map mark++cx.base=ms'.map mark++cx.base:=g1.symm.trans q1
   exact List.append_cancel_right this
  have TY:ms=ms':=by
   have hm:∀a b,mark a=mark b->a=b:=fun a b h=>by simpa[mark]using h
   exact List.map_inj_right hm |>.1 hmm
  refine⟨w.heap.size::ms,by rw[g1];rfl,List.nodup_cons.2 ⟨fun hm=> ?_,g2⟩,(fun h=>by rw[mJ]at h;cases h),fun r hr=> ?_⟩
  ·have:=(q4 w.heap.size (TY ▸ hm)).2.1
   rw[Array.getElem?_eq_none (Nat.le_refl _)]at this;cases this
  ·rcases List.mem_cons.1 hr with rfl|hr
   ·refine⟨hs.tr.cG.size,(RowKit.Below.heap_alloc (w.alloc (.deferred (some []))) (.loop Eu) w.heap.size (by rw[NT];omega)).trans (heap_alloc_new w _), ?_⟩
    rintro⟨id,i1,i2⟩
    by_cases e:id=s.nx
    ·subst e;simp[iT,ej,l]at i2
    ·have i1':(s.H.o id).live=true:=by simpa[s1,S.H,e]using i1
     have i2':ej (φ id)=some w.heap.size:=by simpa[iT,e]using i2
     have:=(hs.heap.ours _ ⟨id,i1',i2'⟩).2
     omega
   ·exact g4 r hr
 have ad6:V.den (aq M iT s1.H) iT s1.H w1 (.kn s.nx) (.func (.yield l) #[] #[]):=
  ⟨rfl,by simp[s1,S.H],fun _=>⟨l,by simp[iT],rfl⟩⟩
 have hg:=m7 (M:=M) (φ:=iT) (H:=s1.H) (w:=w1) s1 {a with defers:=mark w.heap.size::a.defers} oJ.env g
 have ad7:s1.ev g=s.ev g:=by cases g<;>rfl
 rw[ad7]at hg
 have hae:({a with defers:=mark w.heap.size::a.defers}:Act).eval g=a.eval g:=rfl
 rw[hae]at hg
 split at h
 ·rename_i f first cap hgv
  rw[hgv]at hg
  obtain⟨fa,ca,TW,zD,hca⟩:=hg
  have fin:∀ (all:List V) (o2:Nat->ab) (s2:S),s2=⟨s.env,o2,s.nx+1⟩->cj M cL H0 w0 n cx iT s2 {a with defers:=mark w.heap.size::a.defers} w1->V.aD (aq M iT s2.H) iT s2.H w1 all (fa++#[Value.func (.yield l) #[] #[]]++ca).toList->(o2 s.nx).cu=true->
   bZ P f all o2 (s.nx+1) (fun _ o' nx'=>∃nf m e p c d st pd,o' s.nx= .loop nf m e p c d st pd/\st≠ .busy/\qF Q pd ⟨s.env,ay o' s.nx (.loop nf m e p c d .exhausted pd),nx'⟩) (fun v o' nx'=>Q (.bL v) ⟨s.env,o',nx'⟩)->
   ∃ (l:Nat) (mark:List Deferred) (jB:World) (d:Deferred) (yu:World) (f:FuncId) (args:Array Value) (sj:World),
     (Instr.enterLoop fn a.tmps ps x y (dR none).round).run P w= .ok (l,mark) jB/\(resolve a.eval (rangeCall g l) 0).run P jB= .ok d yu/\
     (invoke d.target d.args).run P yu= .ok (.enter f args) sj/\CallsIn (dR none) 0 P f args sj (vu P l (Ge M cL H0 w0 n cx Q) {a with defers:=mark++a.defers}):=by
   intro all o2 s2 ad8 DV bf cV hC
   subst ad8
   have ez:=hC.2 M iT w1 _ DV.heap bf
   refine⟨l,[mark w.heap.size],w1,{target:= .fn (.func f) ca,args:=fa++#[Value.func (.yield l) #[] #[]]},w1,f,fa++#[Value.func (.yield l) #[] #[]]++ca,w1,me, ?_, ?_,da (ez.mono fun e w' ⟨aI,o',nx',v,k1,k2,k3⟩=> ?_)⟩
   ·simp only[resolve,TW,Deferred.ofValue,List.map_toArray,List.map_cons,List.map_nil,Sem.run_pure]
    rfl
   ·simp[invoke,lF hC.1]
   ·cases e with
    |returned val=>
     obtain⟨k4,nf,m,e,p,c,d,st,pd,k5,k6,k7⟩:=k3
     have DW:cj M cL H0 w0 n cx aI ⟨s.env,o',nx'⟩ {a with defers:=mark w.heap.size::a.defers} w':=eR DV k1 k2 rfl fun id hu=>hu
     have TZ:aI s.nx= .pointer (some ⟨l,0,none⟩):=by
      have:=(k2.rel.row s.nx (show s.nx<s.nx+1 from af) (by show(o' s.nx).cu=true;rw[k5];rfl)).2
      rw[this];simp[iT]
     have ck:s.nx<nx':=k2.rel.us s.nx (show s.nx<s.nx+1 from af)
     obtain⟨r,r1,r2,r3,r4,r5⟩:=yw (st':= .exhausted) (pd':=pd) k1 ck (show(hp o' nx').o s.nx=_ from k5) TZ
     have eG:(Instr.endLoop l).run P w'= .ok (pd.map jX.code) {w' with heap:=w'.heap.setIfInBounds l (.loop {r with state:= .exhausted,pending:=pd.map jX.code})}:=by
      have e1:({r with state:= .exhausted}:Loop)={r with state:= .exhausted,pending:=pd.map jX.code}:=by rw[<- r3]
      have hnb:(r.state==LoopState.busy)=false:=by rw[r2];cases st<;>first|rfl|exact absurd rfl k6
      simp only[Instr.endLoop,Sem.run_bind,kA r1,Result.andThen_ok,hnb,Bool.false_eq_true,if_false,Sem.run_pure]
      rw[iW _ r1,e1]
      simp[r3]
     have W1:=eR DW r4 r5 (o':=ay o' s.nx (.loop nf m e p c d .exhausted pd)) (nx':=nx') rfl fun id hu=>by
      simp only[dY]at hu
      rcases hu with hu|hu
      ·exact hu
      ·subst hu;exact ck
     refine⟨pd.map jX.code,_,eG, ?_⟩
     cases pd with
     |none=>exact⟨.normal,_,_,k7,W1,trivial⟩
     |some j=>
      cases j with
      |ret=>exact Gf ⟨.ret,_,_,k7,W1,trivial⟩
      |exit id=>exact Cd ⟨.exit id,_,_,k7,W1,rfl⟩
    |panicked ch=>
     obtain⟨val,rfl,k4,k5⟩:=k3
     have DW:cj M cL H0 w0 n cx aI ⟨s.env,o',nx'⟩ {a with defers:=mark w.heap.size::a.defers} w':=eR DV k1 k2 rfl fun id hu=>hu
     exact⟨.bL v,_,_,k5,DW,val,rfl,k4⟩
    |outgrown=>exact k3.elim
  have nm:V.aD (aq M iT s1.H) iT s1.H w1 (first++[V.kn s.nx]++cap) (fa++#[Value.func (.yield l) #[] #[]]++ca).toList:=by
   rw[Array.toList_append,Array.toList_append]
   exact V.qc zD ⟨_,[],rfl,ad6,rfl⟩ hca
  rcases h with hC|hC
  ·exact fin _ _ s1 rfl oJ nm (by simp;rfl) hC
  ·have mL:s1.o=ay s.o s.nx (.loop P.funcs.size n env ps.toList (low n x) (low n y) .ready none):=rfl
   obtain⟨f1,f2,f3,f4,f5⟩:=cU oJ.heap (dc s1.o (first++[V.kn s.nx]++cap)) (gN _ _ s1.o nm)
   have fk:s1.H.put (bE s1.H.o (dc s1.o (first++[V.kn s.nx]++cap)))=hp (put s1.o (bE s1.o (dc s1.o (first++[V.kn s.nx]++cap)))) s1.nx:=lE (by rw[uk];exact gN _ _ s1.o nm)
   have Q9:=KC f1 _ _ f3 (V.aU f2 _ _ nm)
   have Ra:((s1.H.put (bE s1.H.o (dc s1.o (first++[V.kn s.nx]++cap)))).o s.nx).cu=true:=by
    by_cases hm:s.nx∈dc s1.o (first++[V.kn s.nx]++cap)
    ·rw[f3 _ hm];simp[s1,S.H,ab.fz,ab.cu]
    ·rw[f4 _ hm];simp[s1,S.H,ab.cu]
   rw[fk]at f1 f2 Q9 Ra
   exact fin _ (put s1.o (bE s1.o (dc s1.o (first++[V.kn s.nx]++cap)))) ⟨s.env,_,s.nx+1⟩ rfl (eR oJ f1 f2 rfl fun id hu=>hu) Q9 Ra hC
 ·exact h.elim
end
end Go.Proofs.YtlhemmpklhhgoaaGreat
