/-
  A PART OF THE PROOF. Conditions: none.
-/
import Derived.OpenShut
import Derived.Carry
import Derived.Handed
import Derived.JoinedOf
import Derived.ProofKit
import Derived.RangeFuncLeaves
import Derived.TacticsIn
import Derived.RecoverIn
import Derived.Test.YtlhemmpklhhgoaaGreatQk5
set_option linter.unusedSimpArgs false
set_option linter.unusedVariables false
namespace Go.Proofs.YtlhemmpklhhgoaaGreat
inductive R where
 |ret (ds:List D)|aJ (d:D)
def R.is (B:Nat->Prop)(w:World):R->Ending->Prop
 | .ret [x], .returned v=>D.den B w x v
 | .ret ds, .returned v=>∃a,v= .tuple a/\D.ai B w ds a.toList
 | .aJ d, .panicked chain=>∃v,chain=[{v:=v,recovered:=false}]/\D.den B w d v
 |_,_=>False
def Enters(P:Program)(f:FuncId):Prop:=∃fn,P.funcs[f]? =some fn/\(fn.name== "runtime.NumGoroutine")=false/\fn.body.isNone=false
def bt(P:Program)(f:FuncId)(ds:List D)(out:R):Prop:=
 Enters P f/\∀ (M:Nat->Prop) (w:World) (vals:Array Value),(∀b,M b->b<w.heap.size)->D.ai M w ds vals.toList->
  Calls P f vals w fun e w'=>cc (fun _=>False) w w'/\out.is M w' e
def hp(o:Nat->aa)(nx:Nat):Hp:=⟨o,fun id=>id<nx⟩
def fQ(M:Nat->Prop)(φ:Place)(H:Hp)(w:World)(K X:V->(Nat->aa)->Nat->Prop)(e:Ending)(w':World):Prop:=
 ∃ao o' nx' v,ag M ao (hp o' nx') w'/\Trans φ H w ao (hp o' nx') w'/\match e with
  | .returned val=>V.den (ae M ao (hp o' nx')) ao (hp o' nx') w' v val/\K v o' nx'
  | .panicked ch=>∃val,ch=[{v:=val,recovered:=false}]/\V.den (ae M ao (hp o' nx')) ao (hp o' nx') w' v val/\X v o' nx'
  | .outgrown=>False
def gI(P:Program)(f:FuncId)(args:List V)(o:Nat->aa)(nx:Nat)(K X:V->(Nat->aa)->Nat->Prop):Prop:=
 Enters P f/\∀ (M:Nat->Prop) (φ:Place) (w:World) (vals:Array Value),ag M φ (hp o nx) w->V.ai (ae M φ (hp o nx)) φ (hp o nx) w args vals.toList->
  Calls P f vals w (fQ M φ (hp o nx) w K X)
def ee(P:Program)(id:Nat)(args:List V)(o:Nat->aa)(nx:Nat)(K X:V->(Nat->aa)->Nat->Prop):Prop:=
 (o id).aY=true/\∀ (M:Nat->Prop) (φ:Place) (w:World) (vals:Array Value) (b:Nat),ag M φ (hp o nx) w->V.ai (ae M φ (hp o nx)) φ (hp o nx) w args vals.toList->φ id= .pointer (some ⟨b,0,none⟩)->
  ∃f tmps assign body,(Instr.yield b vals).run P w= .ok (.round b f tmps assign body) w/\∀n,RoundIn Fence.wide n P b f tmps assign body w (fQ M φ (hp o nx) w K X)
theorem fQ.mono {M:Nat->Prop}{φ:Place}{H:Hp}{w:World}{K X K' X':V->(Nat->aa)->Nat->Prop}(hK:∀v o n,K v o n->K' v o n)(hX:∀v o n,X v o n->X' v o n){e:Ending}{w':World}(h:fQ M φ H w K X e w'):fQ M φ H w K' X' e w':=by
 obtain⟨ao,o',nx',v,h1,h2,h3⟩:=h
 refine⟨ao,o',nx',v,h1,h2, ?_⟩
 cases e with
 |returned val=>exact⟨h3.1,hK _ _ _ h3.2⟩
 |panicked ch=>obtain⟨val,a,b,c⟩:=h3;exact⟨val,a,b,hX _ _ _ c⟩
 |outgrown=>exact h3
theorem gI.mono {P:Program}{f:FuncId}{args:List V}{o:Nat->aa}{nx:Nat}{K X K' X':V->(Nat->aa)->Nat->Prop}(hK:∀v o n,K v o n->K' v o n)(hX:∀v o n,X v o n->X' v o n)(h:gI P f args o nx K X):gI P f args o nx K' X':=
 ⟨h.1,fun M φ w vals h1 h2=>(h.2 M φ w vals h1 h2).mono fun _ _ h=>h.mono hK hX⟩
theorem ee.mono {P:Program}{id:Nat}{args:List V}{o:Nat->aa}{nx:Nat}{K X K' X':V->(Nat->aa)->Nat->Prop}(hK:∀v o n,K v o n->K' v o n)(hX:∀v o n,X v o n->X' v o n)(h:ee P id args o nx K X):ee P id args o nx K' X':=
 ⟨h.1,fun M φ w vals b h1 h2 h3=>let⟨f,t,a,c,h4,h5⟩:=h.2 M φ w vals b h1 h2 h3;⟨f,t,a,c,h4,fun n=>(h5 n).mono fun _ _ h=>h.mono hK hX⟩⟩
mutual
def D.flat:D->Bool
 | .sl _| .mp _ _=>false
 | .agg cs=>D.eT cs
 | .iface _ x=>x.flat
 |_=>true
def D.eT:List D->Bool
 |[]=>true
 |x::xs=>x.flat&&D.eT xs
end
mutual
theorem D.iR {B B':Nat->Prop}{w w':World}:∀ (x:D) (v:Value),x.flat=true->D.den B w x v->D.den B' w' x v
 | .int _ _,_,_,h| .bool _,_,_,h| .str _,_,_,h| .dk,_,_,h| .fD,_,_,h| .e9,_,_,h| .ej,_,_,h=>h
 | .agg cs,_,hf,h=>by obtain⟨a,rfl,h,h2⟩:=h;exact⟨a,rfl,D.fj cs _ hf h,h2⟩
 | .sl es,_,hf,h=>by simp[D.flat]at hf
 | .mp _ _,_,hf,h=>by simp[D.flat]at hf
 | .iface t x,_,hf,h=>by obtain⟨u,rfl,h⟩:=h;exact⟨u,rfl,D.iR x u hf h⟩
theorem D.fj {B B':Nat->Prop}{w w':World}:∀ (xs:List D) (vs:List Value),D.eT xs=true->D.ai B w xs vs->D.ai B' w' xs vs
 |[],_,_,h=>h
 |x::xs,_,hf,h=>by
  obtain⟨u,us,rfl,h1,h2⟩:=h
  simp only[D.eT,Bool.and_eq_true]at hf
  exact⟨u,us,rfl,D.iR x u hf.1 h1,D.fj xs us hf.2 h2⟩
end
mutual
def D.fR:D->Bool
 | .mp _ _=>false
 | .agg cs=>D.fk cs
 | .sl es=>D.fk es
 | .iface _ x=>x.fR
 |_=>true
def D.fk:List D->Bool
 |[]=>true
 |x::xs=>x.fR&&D.fk xs
end
theorem c6.oI {B B':Nat->Prop}{w w':World}{a:Addr}{cs:Array Value}
 (hb:∀b,iq w b-> ¬B b->w'.heap[b]? =w.heap[b]? /\ ¬B' b) (h:c6 B w a cs):c6 B' w' a cs:=by
 intro j u hj
 obtain⟨h1,h2⟩:=h j u hj
 have cm:iq w a.block:=by simpa using gL h1
 exact CG
mutual
theorem D.eU {B B':Nat->Prop}{w w':World}(hb:∀b,iq w b-> ¬B b->w'.heap[b]? =w.heap[b]? /\ ¬B' b):
 ∀ (x:D) (v:Value),x.fR=true->D.den B w x v->D.den B' w' x v
 | .int _ _,_,_,h| .bool _,_,_,h| .str _,_,_,h| .dk,_,_,h| .fD,_,_,h| .e9,_,_,h| .ej,_,_,h=>by simpa[D.den]using h
 | .agg cs,_,hn,h=>by
   obtain⟨a,rfl,h,hf⟩:=h
   exact⟨a,rfl,D.fS hb cs _ hn h,hf⟩
 | .sl es,_,hn,h=>by
   obtain⟨base,len,cap,rfl,h1,h2,h3,sz,h4⟩:=h
   exact⟨base,len,cap,rfl,h1,h2,h3,sz,fun a ha=>⟨(h4 a ha).1,D.iS hb sz a es 0 hn (h4 a ha).2⟩⟩
 | .iface t d,_,hn,h=>by
   obtain⟨u,rfl,h⟩:=h
   exact⟨u,rfl,D.eU hb d u hn h⟩
 | .mp _ _,_,hn,_=>by simp[D.fR]at hn
theorem D.fS {B B':Nat->Prop}{w w':World}(hb:∀b,iq w b-> ¬B b->w'.heap[b]? =w.heap[b]? /\ ¬B' b):
 ∀ (ds:List D) (vs:List Value),D.fk ds=true->D.ai B w ds vs->D.ai B' w' ds vs
 |[],_,_,h=>h
 |d::ds,_,hn,h=>by
  obtain⟨u,us,rfl,h1,h2⟩:=h
  simp only[D.fk,Bool.and_eq_true]at hn
  exact⟨u,us,rfl,D.eU hb d u hn.1 h1,D.fS hb ds us hn.2 h2⟩
theorem D.iS {B B':Nat->Prop}{w w':World}(hb:∀b,iq w b-> ¬B b->w'.heap[b]? =w.heap[b]? /\ ¬B' b)(sz:Nat)(a:Addr):
 ∀ (es:List D) (i:Nat),D.fk es=true->D.elems B w sz a i es->D.elems B' w' sz a i es
 |[],_,_,_=>trivial
 |e::es,i,hn,h=>by
  obtain⟨⟨ev,h1,h2,h3⟩,h4⟩:=h
  simp only[D.fk,Bool.and_eq_true]at hn
  exact⟨⟨ev,h1,h2.oI hb,D.eU hb e ev hn.1 h3⟩,D.iS hb sz a es (i+1) hn.2 h4⟩
end
def R.fR:R->Bool
 | .ret ds=>D.fk ds
 | .aJ d=>d.fR
def R.flat:R->Bool
 | .ret ds=>D.eT ds
 | .aJ d=>d.flat
def fE:List D->V
 |[x]=> .d x
 |ds=> .a7 (ds.map .d)
inductive dM where
 |normal|exit (id:Nat)|ret|aJ (v:V)
def az(env:Nat->V)(dst:Option Tmp)(v:V):Nat->V:=
 match dst with
 |some d=>cn env d v
 |none=>env
def tS(o:Nat->aa)(v:V):V:=match cN o v with|some x=> .d x|none=>v
def bq(o:Nat->aa):List V->List Nat
 |[]=>[]
 |v::vs=>(match cN o v with|some _=>v.ids|none=>[])++bq o vs
def jL(P:Program)(g:FuncId)(args:List V)(o:Nat->aa)(nx:Nat)(K X:V->(Nat->aa)->Nat->Prop):Prop:=
 gI P g args o nx K X\/gI P g (args.map (tS o)) (put o (bH o (bq o args))) nx K X
def lj(P:Program)(s:S)(g:FuncId)(all:List V)(K:V->(Nat->aa)->Nat->Prop)(X:V->(Nat->aa)->Nat->Prop):Prop:=
    (∃ds out,aT s.o all=some ds/\bt P g ds out/\(match out with
     | .ret rs=>K (fE rs) (put s.o (bH s.o (V.aC all))) (s.nx+1)
     | .aJ x=>X (.d x) (put s.o (bH s.o (V.aC all))) (s.nx+1)))\/
    (∃ds out,aT s.o all=some ds/\bt P g ds out/\out.flat=true/\(match out with
     | .ret rs=>K (fE rs) s.o (s.nx+1)
     | .aJ x=>X (.d x) s.o (s.nx+1)))\/
    (∃ds out,aT s.o all=some ds/\bt P g ds out/\out.fR=true/\(match out with
     | .ret rs=>K (fE rs) (put s.o (kj s.o (V.aC all))) (s.nx+1)
     | .aJ x=>X (.d x) (put s.o (kj s.o (V.aC all))) (s.nx+1)))\/
    jL P g all s.o s.nx K X
def o6(P:Program)(s:S)(f:V)(args:List V)(K:V->(Nat->aa)->Nat->Prop)(X:V->(Nat->aa)->Nat->Prop):Prop:=
 match f with
 | .func (.func g) first cap=>lj P s g (first++args++cap) K X
 | .jl id=>ee P id args s.o s.nx K X
 |_=>False
def xD(P:Program)(t:TypeId):Bool:=
 match P.underlying t with
 |some (.pointer _)=>false
 |some _=>true
 |none=>false
def lk(P:Program)(m:String)(x:V):Option (FuncId×V):=
 match x with
 | .d (.iface t y)=>match P.info? t with
   |some ti=>match ti.methods.find? (·.name==m)with
    |some r=>match r.func with
     |some (f,false)=>if r.path.isEmpty=true/\xD P t=true then some (f, .d y)else none
     |_=>none
    |none=>none
   |none=>none
 |_=>none
def c9(n:Nat):Option Tmp->Prop
 |some d=>d<n
 |none=>True
def I4(P:Program)(n:Nat)(s:S)(o:Oper)(X:V->S->Prop)(K:S->Prop):Prop:=
 c9 n o.dst/\match o.op with
 | .call c=>match c.callee with
   | .value f=>o6 P s (s.ev f) (c.args.toList.map s.ev) (fun v o' nx'=>K ⟨az s.env o.dst v,o',nx'⟩) (fun v o' nx'=>X v ⟨s.env,o',nx'⟩)
   | .invoke r m=>match lk P m (s.ev r)with
     |some (g,y)=>lj P s g (y::c.args.toList.map s.ev) (fun v o' nx'=>K ⟨az s.env o.dst v,o',nx'⟩) (fun v o' nx'=>X v ⟨s.env,o',nx'⟩)
     |none=>False
   |_=>xr P s s.nx o.op fun v Δ _=>K ⟨az s.env o.dst v,put s.o Δ,s.nx+1⟩
 | .panic x=>match s.ev x with
   | .d (.iface t y)=>X (.d (.iface t y)) s
   | .iface t y=>X (.iface t y) s
   |_=>False
 |op=>xr P s s.nx op fun v Δ _=>K ⟨az s.env o.dst v,put s.o Δ,s.nx+1⟩
def nD(s:S)(ops:Array Oper)(g:Option (Nat×Bool))(A B:Prop):Prop:=
 match g with
 |none=>A
 |some (j,want)=>match jM ops j with
  |some d=>match s.env d with
   | .d (.bool b)=>(b=want->A)/\(b≠want->B)
   | .a7 []=>B
   |_=>False
  |none=>B
def nE(P:Program)(n:Nat)(ops:Array Oper)(X:V->S->Prop)(K:S->Prop):List Oper->S->Prop
 |[],s=>K s
 |o::l,s=>nD s ops o.guard (I4 P n s o X (nE P n ops X K l)) (c9 n o.dst/\nE P n ops X K l ⟨az s.env o.dst (.a7 []),s.o,s.nx+1⟩)
def sE(b:Nat)(s s':S):Prop:=
 ∀ (M:Nat->Prop) (φ:Place) (w:World) (tm:Nat->Value),ag M φ s.H w->(∀i,V.den (ae M φ s.H) φ s.H w (s.env i) (tm i))->
   ∃ao,ag M ao s'.H w/\(∀i,V.den (ae M ao s'.H) ao s'.H w (s'.env i) (tm i))/\(∀k,b4 ao s'.H k->b4 φ s.H k)/\b<=s'.nx/\
    (∀id,id<b->(s'.o id).aY=true->(s.o id).aY=true/\ao id=φ id)/\
    (∀id e',id<b->(s'.o id).bz=some e'->∃e,(s.o id).bz=some e/\e<=e'/\(e=e'->ao id=φ id))
def jX(K:S->Prop)(Q:dM->S->Prop)(e:dM)(s:S):Prop:=match e with| .normal=>K s|e=>Q e s
def cV(id:Nat)(Q:dM->S->Prop)(e:dM)(s:S):Prop:=match e with| .exit j=>if j=id then Q .normal s else Q (.exit j) s|e=>Q e s
def fl(P:Program)(s:S):List ResultVar->Option (List V)
 |[]=>some []
 | .tmp t::rs=>(fl P s rs).map (s.env t::·)
 | .cell a t::rs=>match s.env a with
   | .ptr id off=>match s.o id with
     | .row cs=>(cy P t cs off).bind fun v=>(fl P s rs).map (v::·)
     |_=>none
   |_=>none
def br(vs:List V):Nat->V:=fun i=>vs.getD i (.a7 [])
def sF(P:Program)(rs:List ResultVar)(out:R)(e:dM)(s:S):Prop:=
 match e with
 | .normal| .ret=>match fl P s rs with
   |some vs=>match aT s.o vs with
    |some ds=>out= .ret ds
    |none=>False
   |none=>False
 | .aJ v=>match cN s.o v with
   |some x=>out= .aJ x
   |none=>False
 | .exit _=>False
theorem tT{P:Program}{rs:List ResultVar}{out:R}{s:S}(h:match fl P s rs with
 |some vs=>match aT s.o vs with
  |some ds=>out= .ret ds
  |none=>False
 |none=>False):∃vs ds,fl P s rs=some vs/\aT s.o vs=some ds/\out= .ret ds:=by
 split at h
 ·rename_i vs h1
  split at h
  ·rename_i xs h2;exact⟨vs,xs,h1,h2,h⟩
  ·exact h.elim
 ·exact h.elim
theorem tU{out:R}{s:S}{v:V}(h:match cN s.o v with
 |some x=>out= .aJ x
 |none=>False):∃x,cN s.o v=some x/\out= .aJ x:=by
 split at h
 ·rename_i x h1;exact⟨x,h1,h⟩
 ·exact h.elim
end Go.Proofs.YtlhemmpklhhgoaaGreat
section
namespace Go.Proofs.YtlhemmpklhhgoaaGreat
open Go.ChangeShapes Go.WideShapes Go.RowKit
def ll(P:Program)(rec:TypeId->Option (List TypeId)):Nat->List Field->Option (List TypeId)
 |_,[]=>some []
 |off,f::fs=>if f.offset=off then match rec f.type with
  |some l=>if P.cellsOf f.type=l.length then(ll P rec (off+l.length) fs).map (l++·)else none
  |none=>none else none
def fT(P:Program):Nat->TypeId->Option (List TypeId)
 |0,_=>none
 |n+1,t=>match P.underlying t with
  |some .bool|some (.int _)|some .string|some (.slice _)=>some [t]
  |some (.struct fs)=>ll P (fT P n) 0 fs.toList
  |some (.array k e)=>match fT P n e with
   |some l=>if P.cellsOf e=l.length then some (List.replicate k l).flatten else none
   |none=>none
  |_=>none
def isAgg(P:Program)(t:TypeId):Bool:=match P.underlying t with
 |some (.struct _)|some (.array _ _)=>true
 |_=>false
mutual
def D.tV (P:Program):D->TypeId->Prop
 | .int k n,t=>P.underlying t=some (.int k)/\(Lit.int k n).wf=true
 | .bool _,t=>P.underlying t=some .bool
 | .str l,t=>P.underlying t=some .string/\l.length<=maxLen
 | .sl es,t=>∃e,P.underlying t=some (.slice e)/\es.length<=maxLen/\D.zf P es e
 | .agg cs,t=>isAgg P t=true/\∃ls,fT P 20 t=some ls/\D.fA P cs ls
 |_,_=>False
def D.zf (P:Program):List D->TypeId->Prop
 |[],_=>True
 |x::l,e=>D.tV P x e/\D.zf P l e
def D.fA (P:Program):List D->List TypeId->Prop
 |[],ts=>ts=[]
 |x::l,ts=>∃t r,ts=t::r/\D.tV P x t/\D.fA P l r
end
def kL(P:Program)(T:List TypeId):Bool:=T.all fun t=>match fT P 20 t with
 |some l=>decide (l.length=P.cellsOf t)&&decide (0<l.length)&&l.all fun u=>match P.underlying u with
  |some (.slice e)=>T.contains e
  |_=>true
 |none=>false
theorem iT{P:Program}:∀ {xs ys:List D} {l r:List TypeId},D.fA P xs l->D.fA P ys r->D.fA P (xs++ys) (l++r)
 |[],_,_,_,h,h'=>by simp only[D.fA]at h;subst h;exact h'
 |x::xs,_,_,_,h,h'=>by
  obtain⟨t,r,rfl,h1,h2⟩:=h
  exact⟨t,_,rfl,h1,iT h2 h'⟩
theorem aB{B:Nat->Prop}{w:World}:∀ {xs ys:List D} {l r:List Value},D.ai B w xs l->D.ai B w ys r->D.ai B w (xs++ys) (l++r)
 |[],_,_,_,h,h'=>by simp only[D.ai]at h;subst h;exact h'
 |x::xs,_,_,_,h,h'=>by
  obtain⟨t,r,rfl,h1,h2⟩:=h
  exact⟨t,_,rfl,h1,aB h2 h'⟩
theorem Flat.append {l r:List Value}(h:Flat l)(h':Flat r):Flat (l++r):=fun u hu=>(List.mem_append.1 hu).elim (h u) (h' u)
abbrev zg:Nat->Prop:=fun _=>False
section
variable {H:Type}{enc:TypeId×Value->H}{P:Program}{W:World}{T:List TypeId}{b0:Nat}
def bF(P:Program)(W:World)(l:List TypeId)(cs:List Value):Prop:=∃xs,D.fA P xs l/\D.ai zg W xs cs/\Flat cs
theorem bF.append {l r:List TypeId}{cs ds:List Value}(h:bF P W l cs)(h':bF P W r ds):bF P W (l++r) (cs++ds):=by
 obtain⟨xs,a1,a2,a3⟩:=h
 obtain⟨ys,b1,b2,b3⟩:=h'
 exact⟨xs++ys,iT a1 b1,aB a2 b2,a3.append b3⟩
theorem bF.length {l:List TypeId}{cs:List Value}(h:bF P W l cs):cs.length=l.length:=by
 obtain⟨xs,a1,a2,_⟩:=h
 rw[D.ah _ _ a2]
 clear a2
 induction xs generalizing l with
 |nil=>simp only[D.fA]at a1;simp[a1]
 |cons x xs ih=>obtain⟨t,r,rfl,_,h⟩:=a1;simp[ih h]
theorem bF.nil:bF P W [] []:=⟨[],rfl,rfl,fun _ h=>by cases h⟩
theorem o7{α:Type}(cs:List α)(o k:Nat):cs.drop o=(cs.drop o).take k++cs.drop (o+k):=by
 rw[<- List.drop_drop];exact(List.take_append_drop k _).symm
theorem iU{rec:TypeId->Option (List TypeId)}{cs:List Value}{rd:TypeId->List Value->Prop}
 (aF:∀t l vs,rec t=some l->(∀u∈l,∀e,P.underlying u=some (.slice e)->e∈T)->P.cellsOf t=l.length->rd t vs->bF P W l vs):
 ∀ (fs:List Field) (off:Nat) (l:List TypeId),ll P rec off fs=some l->(∀u∈l,∀e,P.underlying u=some (.slice e)->e∈T)->(∀f∈fs,rd f.type ((cs.drop f.offset).take (P.cellsOf f.type)))->
   off+l.length=cs.length->bF P W l (cs.drop off)
 |[],off,l,h,_,_,hl=>by
  simp only[ll,Option.some.injEq]at h
  subst h
  have:cs.drop off=[]:=List.drop_eq_nil_of_le (by simp at hl;omega)
  rw[this];exact bF.nil
 |f::fs,off,l,h,hT,hr,hl=>by
  simp only[ll]at h
  split at h
  ·rename_i ho
   split at h
   ·rename_i l1 h1
    split at h
    ·rename_i hc
     simp only[Option.map_eq_some_iff]at h
     obtain⟨r,h2,rfl⟩:=h
     have hd:=hr f aU
     rw[ho,hc]at hd
     rw[o7 cs off l1.length]
     simp only[List.length_append]at hl
     exact(aF f.type l1 _ h1 (fun u hu=>hT u (by simp[hu])) hc hd).append (iU aF fs _ r h2 (fun u hu=>hT u (by simp[hu])) (fun f hf=>hr f (by simp[hf])) aN)
    ·cases h
   ·cases h
  ·cases h
theorem jY{l:List TypeId}{cs:List Value}:∀ (k i:Nat),(∀j,j<k->bF P W l ((cs.drop ((i+j)*l.length)).take l.length))->(i+k)*l.length=cs.length->bF P W (List.replicate k l).flatten (cs.drop (i*l.length))
 |0,i,_,hl=>by
  have:cs.drop (i*l.length)=[]:=List.drop_eq_nil_of_le (by simp at hl;omega)
  rw[this];exact bF.nil
 |k+1,i,h,hl=>by
  rw[List.replicate_succ,List.flatten_cons,o7 cs (i*l.length) l.length]
  refine(by simpa using h 0 aN:bF P W l _).append ?_
  rw[show i*l.length+l.length=(i+1)*l.length by rw[Nat.add_mul];omega]
  refine jY k (i+1) (fun j hj=> ?_) (by rw[<- hl];congr 1;omega)
  have:=h (j+1) aN
  rwa [show i+(j+1)=i+1+j by omega]at this
theorem o8{e:TypeId}{l:List TypeId}{cs:List Value}(hl:fT P 20 e=some l)(h:bF P W l cs):∃ (ev:Value) (x:D),ev.cells.toList=cs/\D.tV P x e/\D.den zg W x ev/\(isAgg P e=true->ev= .agg cs.toArray)/\(isAgg P e=false->cs=[ev]/\ev.oneCell'=true):=by
 obtain⟨xs,h1,h2,h3⟩:=h
 cases ha:isAgg P e with
 |true=>exact⟨.agg cs.toArray, .agg xs,by simp[Value.cells],⟨ha,l,hl,h1⟩,⟨_,rfl,by simpa using h2,by simpa using h3⟩,fun _=>rfl,(fun h=>by cases h)⟩
 |false=>
  have:l=[e]:=by
   unfold fT at hl
   unfold isAgg at ha
   split at hl<;>simp_all
  subst this
  obtain⟨t,r,e1,h4,h5⟩:∃x r,xs=x::r/\D.tV P x e/\D.fA P r []:=by
   cases xs with
   |nil=>simp[D.fA]at h1
   |cons x r=>obtain⟨t,r',e1,h4,h5⟩:=h1;injection e1 with e1 e2;subst e1;subst e2;exact⟨x,r,rfl,h4,h5⟩
  subst e1
  have:r=[]:=by cases r with
   |nil=>rfl
   |cons y r=>obtain⟨_,_,e,_⟩:=h5;cases e
  subst this
  obtain⟨u,us,rfl,h6,h7⟩:=h2
  simp only[D.ai]at h7
  subst h7
  have ho:=h3 u aU
  refine⟨u,t, ?_,h4,h6,(fun h=>by cases h),fun _=>⟨rfl,ho⟩⟩
  cases u<;>simp_all[Value.oneCell',Value.cells]
theorem o9(hp:kL P T=true){t:TypeId}(ht:t∈T):∃l,fT P 20 t=some l/\l.length=P.cellsOf t/\0<l.length/\∀u∈l,∀e,P.underlying u=some (.slice e)->e∈T:=by
 have:=List.all_eq_true.1 hp t ht
 split at this
 ·rename_i l hl
  simp only[Bool.and_eq_true,decide_eq_true_eq,List.all_eq_true]at this
  refine⟨l,hl,this.1.1,this.1.2,fun u hu e he=> ?_⟩
  have:=this.2 u hu
  rw[he]at this
  simpa using this
 ·cases this
theorem qn(hp:kL P T=true):∀ (n m:Nat) (t:TypeId) (l:List TypeId) (cs:List Value) (x:DataW H×List MemPlace),fT P m t=some l->(∀u∈l,∀e,P.underlying u=some (.slice e)->e∈T)->
 P.cellsOf t=l.length->DataW.trod enc P W 0 (fun _=>true) true n t cs=some x->bF P W l cs:=by
 intro n
 induction n with
 |zero=>intro m t l cs x _ _ _ h;simp[DataW.trod]at h
 |succ n ih=>
  intro m t l cs x hl hT hc h
  cases m with
  |zero=>simp[fT]at hl
  |succ m=>
  unfold fT at hl
  split at hl
  ·rename_i hu
   injection hl with hl;subst hl
   obtain⟨b,rfl,_⟩:=DataW.trod_bool hu h
   exact⟨[.bool b],⟨t,[],rfl,hu,rfl⟩,⟨_,_,rfl,rfl,rfl⟩,by simp[Flat,Value.oneCell']⟩
  ·rename_i k hu
   injection hl with hl;subst hl
   obtain⟨b,rfl,_,hw⟩:=DataW.trod_int hu h
   exact⟨[.int k b],⟨t,[],rfl,⟨hu,hw⟩,rfl⟩,⟨_,_,rfl,rfl,rfl⟩,by simp[Flat,Value.oneCell']⟩
  ·rename_i hu
   injection hl with hl;subst hl
   obtain⟨s,rfl,_,hw⟩:=DataW.trod_string hu h
   exact⟨[.str s.data.toList],⟨t,[],rfl,⟨hu,by simpa using hw⟩,rfl⟩,⟨_,_,rfl,⟨s,rfl,rfl⟩,rfl⟩,by simp[Flat,Value.oneCell']⟩
  ·rename_i e hu
   injection hl with hl;subst hl
   rcases DataW.trod_slice hu h with⟨rfl,_⟩|⟨a,len,cap,elems,rest,n',hn,rfl,_,_,h2,h3,h4,h5,h6,_⟩
   ·exact⟨[.sl []],⟨t,[],rfl,⟨e,hu,aU,trivial⟩,rfl⟩,⟨_,_,rfl,⟨none,0,0,rfl,rfl,aU,fun _=>rfl,0,(fun a ha=>by cases ha)⟩,rfl⟩,by simp[Flat,Value.oneCell']⟩
   ·injection hn with hn;subst hn
    obtain⟨l',g1,g2,g3,g4⟩:=o9 hp (hT t aU e hu)
    have MI:∀i,i<len->∃ev:Value,∃y:D,ev.cells.size=P.cellsOf e/\c6 zg W (a.add (i*P.cellsOf e)) ev.cells/\D.den zg W y ev/\D.tV P y e:=by
     intro i hi
     have:=h5 i hi
     rw[List.getElem?_eq_getElem (by omega)]at this
     obtain⟨ci,k1,k2⟩:=Option.bind_eq_some_iff.1 this
     obtain⟨_,k3,k4⟩:=World.cells?_some k1
     have k5:=ih 20 e l' ci _ g1 g4 g2.symm k2
     obtain⟨ev,y,q1,q2,q3,_,_⟩:=o8 g1 k5
     have q4:ev.cells=ci.toArray:=by rw[<- q1]
     refine⟨ev,y,by rw[q4];simp[k5.length,g2],fun j u hj=>⟨?_,fun h=>h⟩,q3,q2⟩
     rw[q4]at hj
     have s9:ci[j]? =some u:=by simpa using hj
     have cm:j<P.cellsOf e:=by rw[<- g2, <- k5.length];exact(List.getElem?_eq_some_iff.1 s9).1
     rw[k4 j cm];exact s9
    have list:∀k i,i+k=len->∃es,es.length=k/\D.zf P es e/\D.elems zg W (P.cellsOf e) a i es:=by
     intro k
     induction k with
     |zero=>intro i _;exact⟨[],rfl,trivial,trivial⟩
     |succ k MJ=>
      intro i hi
      obtain⟨es,e1,e2,e3⟩:=MJ (i+1) aN
      obtain⟨ev,y,y1,y2,y3,y4⟩:=MI i aN
      exact⟨y::es,by simp[e1],⟨y4,e2⟩,⟨ev,y1,y2,y3⟩,e3⟩
    obtain⟨es,e1,e2,e3⟩:=list len 0 aN
    have Du:cap≠0->a.spot=none:=by
     intro II
     have xE:∀z,(W.cells? 0 (a.add (0*P.cellsOf e)) (P.cellsOf e)).bind (DataW.trod enc P W 0 (fun _=>true) true n e)=some z->a.spot=none:=by
      intro z hz
      obtain⟨ci,k1,k2⟩:=Option.bind_eq_some_iff.1 hz
      obtain⟨_,k3,k4⟩:=World.cells?_some k1
      have k5:=k4 0 aN
      rw[List.getElem?_eq_getElem (by omega)]at k5
      simpa[Addr.add]using World.cell?_spot k5
     by_cases hlen:0<len
     ·have:=h5 0 hlen
      rw[List.getElem?_eq_getElem (by omega)]at this
      exact xE _ this
     ·obtain⟨h7,h8⟩:=h6 rfl
      have:=h8 0 aN
      rw[List.getElem?_eq_getElem (by omega),show(len+0)=0 by omega]at this
      exact xE _ this
    exact⟨[.sl es],⟨t,[],rfl,⟨e,hu,aN,e2⟩,rfl⟩,⟨_,_,rfl,⟨some a,len,cap,rfl,e1.symm,h2,(fun h=>by cases h),P.cellsOf e,(fun a' I5=>by injection I5 with I5;subst I5;exact⟨Du,e3⟩)⟩,rfl⟩,by simp[Flat,Value.oneCell']⟩
  ·rename_i fs hu
   obtain⟨xs,n',hn,_,h2,h3,h4⟩:=DataW.trod_struct hu h
   injection hn with hn;subst hn
   have:=iU (P:=P) (W:=W) (T:=T) (cs:=cs) (rd:=fun t vs=>∃y,DataW.trod enc P W 0 (fun _=>true) true n t vs=some y) (rec:=fT P m) (fun t l vs q1 q2 q3 ⟨y,q4⟩=>ih m t l vs y q1 q2 q3 q4) fs.toList 0 l hl hT ?_ aN
   ·simpa using this
   ·intro f hf
    obtain⟨i,hi,MK⟩:=List.getElem_of_mem hf
    have:=h4 i f (by simp at hi;simp[<- MK,Array.getElem?_eq_getElem hi])
    rw[List.getElem?_eq_getElem (by simp at hi;omega)]at this
    exact⟨_,this⟩
  ·rename_i k e hu
   split at hl
   ·rename_i l' Dk
    split at hl
    ·rename_i Lg
     injection hl with hl;subst hl
     obtain⟨xs,n',hn,_,h2,h3,h4⟩:=DataW.trod_array hu h
     injection hn with hn;subst hn
     have hlen:cs.length=k*l'.length:=by rw[h2,hc];simp
     have ML:0<k->∀u∈l',∀e,P.underlying u=some (.slice e)->e∈T:=fun hk u hu=>hT u (List.mem_flatten.2 ⟨l',List.mem_replicate.2 ⟨aN,rfl⟩,hu⟩)
     have:=jY (P:=P) (W:=W) (l:=l') (cs:=cs) k 0 (fun j hj=> ?_) (by rw[hlen];simp)
     ·simpa using this
     ·have:=h4 j hj
      rw[Lg,List.getElem?_eq_getElem (by omega)]at this
      rw[Nat.zero_add]
      exact ih m e l' _ _ Dk (ML aN) Lg this
    ·cases hl
   ·cases hl
  ·cases hl
theorem mK(hp:kL P T=true):∀ (ts:List TypeId) (vs:List Value) (ds:List (DataW H)) (p:List MemPlace),(∀t∈ts,t∈T)->DataW.TrodAll enc P W 0 (fun _=>true) true ts vs ds p->
 (∀ (j:Nat) t v,ts[j]? =some t->vs[j]? =some v->Value.okWide P W .any b0 t v)->∃xs,D.fA P xs ts/\D.ai zg W xs vs
 |[],vs,ds,p,_,h,_=>by
  obtain⟨rfl,rfl,rfl⟩:=trodAll_nil h
  exact⟨[],rfl,rfl⟩
 |t::ts,vs,ds,p,hT,h,hv=>by
  obtain⟨v,Hv,d,Dv,p1,q1,rfl,rfl,rfl,⟨n,h1⟩,h2⟩:=trodAll_cons h
  obtain⟨xs,a1,a2⟩:=mK hp ts Hv Dv q1 (fun t ht=>hT t (by simp[ht])) h2 (fun j t v h1 h2=>hv (j+1) t v (by simpa using h1) r8)
  obtain⟨l,g1,g2,g3,g4⟩:=o9 hp (hT t aU)
  obtain⟨ev,x,q1,q2,q3,q4,q5⟩:=o8 g1 (qn hp n 20 t l _ _ g1 g4 g2.symm h1)
  have aI:=hv 0 t v rfl rfl
  have:ev=v:=by
   cases ha:isAgg P t with
   |true=>
    have:∃cs,v= .agg cs:=by
     unfold isAgg at ha
     unfold Value.okWide at aI
     split at ha
     ·rename_i hu;rw[hu]at aI;obtain⟨cs,rfl,_⟩:=aI;exact⟨cs,rfl⟩
     ·rename_i hu;rw[hu]at aI;obtain⟨cs,rfl,_⟩:=aI;exact⟨cs,rfl⟩
     ·cases ha
    obtain⟨cs,rfl⟩:=this
    rw[q4 ha]
    simp[Value.cells]
   |false=>
    obtain⟨q6,q7⟩:=q5 ha
    cases v with
    |agg cs=>
     exfalso
     unfold isAgg at ha
     unfold Value.okWide at aI
     split at aI
     ·rename_i hu;rw[hu]at ha;cases ha
     ·rename_i hu;rw[hu]at ha;cases ha
     ·unfold Cell.okWide at aI
      split at aI
      case h_8=>
       unfold Cell.ok at aI
       split at aI<;>first|exact aI|contradiction
      all_goals contradiction
    |_=>simp only[Value.cells,List.cons.injEq,and_true]at q6;exact q6.symm
  subst this
  exact⟨x::xs,⟨t,ts,rfl,q2,a1⟩,⟨_,_,rfl,q3,a2⟩⟩
theorem cc.below {w w':World}(h:cc (fun _=>False) w w'):Below w.heap.size w w':=⟨h.os,h.tape,h.output,h.size,fun k hk=>h.block k hk (fun h=>h)⟩
theorem mL(hl:laidOutB P=true){W':World}{sp:Nat->Bool}:∀ {ts:List TypeId} {vs:List Value} {ds:List (DataW H)} {p:List MemPlace},(∀t∈ts,P.readableRec t=true/\t<P.types.size)->DataW.TrodAll enc P W 0 (fun _=>true) true ts vs ds p->
 (∀x∈p,W.sameAt W' x/\sp x.block=true)->DataW.TrodAll enc P W' 0 sp true ts vs ds p
 |[],vs,ds,p,_,h,_=>by
  obtain⟨rfl,rfl,rfl⟩:=trodAll_nil h
  exact trodAll_mk0
 |t::ts,vs,ds,p,hr,h,hs=>by
  obtain⟨v,Hv,d,Dv,p1,q1,rfl,rfl,rfl,h1,h2⟩:=trodAll_cons h
  exact⟨p1,q1,WideElems.Trod_stays hl (hr t aU).1 (hr t aU).2 h1 (fun x hx=>(hs x (by simp[hx])).1) (fun x hx=>(hs x (by simp[hx])).2),mL hl (fun t ht=>hr t (by simp[ht])) h2 (fun x hx=>hs x (by simp[hx])),rfl⟩
theorem tW{sp:Nat->Bool}:∀ {ts:List TypeId} {vs:List Value} {ds:List (DataW H)} {ps:List MemPlace},DataW.TrodAll enc P W 0 sp true ts vs ds ps->ds.length=ts.length
 |[],_,_,_,h=>by obtain⟨_,rfl,_⟩:=trodAll_nil h;rfl
 |_::_,_,_,_,h=>by
  obtain⟨_,_,_,_,_,_,_,rfl,_,_,h2⟩:=trodAll_cons h
  simp[tW h2]
theorem nF{f:FuncId}{fn:Func}{s:ChangeSpec}{tb:TypeId}{fresh handsOn again:Bool}(pa:fn.resultTypes=#[tb])(Lh:P.underlying tb=some .bool)(xF:s.vars=[])
 (tX:∀ds:List (DataW H),ds.length=fn.params.toList.length->s.fn H ds={results:=[.lit (.bool true)],args:=ds}) (hp:kL P T=true) (hT:∀t∈fn.params.toList,t∈T) (hl:laidOutB P=true)
 (hr:∀t∈fn.params.toList,P.readableRec t=true/\t<P.types.size) (law:∀xs,D.fA P xs fn.params.toList->bt P f xs (.ret [.bool true]))
 (base:Nat) (args:Array Value) (ds gs:List (DataW H)) (before:List MemPlace)
 (dI:∀ (j:Nat) t v,fn.params[j]? =some t->args[j]? =some v->Value.okWide P W .any base t v) (hW:DataW.Whole enc P fn.params.toList s.vars false W args.toList ds gs before):
 Calls P f args W fun e W'=>∃v,e= .returned v/\s.post enc P fn false fresh handsOn again W args v W':=by
 have Li:=hW
 obtain⟨p,q,hA,hV,rfl,MM,Lj⟩:=hW
 rw[xF]at hV
 obtain⟨rfl,rfl⟩:=trodVars_none hV
 obtain⟨xs,a1,a2⟩:=mK (b0:=base) hp fn.params.toList args.toList ds p hT hA (fun j t v h1 h2=>dI j t v (by simpa using h1) r8)
 refine((law xs a1).2 zg W args (fun _ h=>h.elim) a2).mono fun e W' ⟨hk,ho⟩=> ?_
 have hb:=hk.below
 cases e with
 |panicked ch=>exact ho.elim
 |outgrown=>exact ho.elim
 |returned v=>
  simp only[R.is,D.den]at ho
  subst ho
  refine⟨_,rfl, ?_⟩
  have hlen:ds.length=fn.params.toList.length:=(tW hA)
  have hold:∀x∈p,x.block<W.heap.size:=fun x hx=>by simpa using Li.lt x (by simpa using hx)
  have bR:∀sp:Nat->Bool,(∀x∈p,sp x.block=true)->DataW.TrodAll enc P W' 0 sp true fn.params.toList args.toList ds p:=fun sp Hy=>mL hl hr hA fun x hx=>⟨hb.same (hold x hx),Hy x hx⟩
  have xG:∀ (b:Nat) (sp:Nat->Bool) (hd:Bool),DataW.TrodAll enc P W' b sp hd fn.resultTypes.toList ((Value.bool true).resultList fn.resultTypes.size) [.lit (.bool true)] []:=fun b sp hd=>by
   rw[pa]
   exact trodAll_cons_mk (p:=[]) (p':=[]) ⟨1,by simp[DataW.trod,Value.cells,Lh]⟩ trodAll_mk0
  have tY:∀sp:Nat->Bool,DataW.TrodVars enc P W' sp s.vars [] []:=fun sp=>by rw[xF];rfl
  refine⟨ds,[],p++[],[],p,[],Li, ?_, ?_, ?_,World.keptBut_mono (fun _ h=>h.elim) (hb.frame (fun _=>False)),fun _=>⟨?_,[.lit (.bool true)]++ds,[],([]++p)++[],⟨[]++p,[],trodAll_append (bR _ fun _ _=>rfl) (xG 0 (fun _=>true) true),tY _,rfl, ?_,(fun h=>by cases h)⟩,fun x hx _=>by simpa using hx⟩⟩
  ·rw[List.append_nil,tX ds hlen];exact xG _ _ _
  ·rw[List.append_nil,tX ds hlen];exact bR _ fun x hx=>by simpa using hold x hx
  ·rw[List.append_nil,tX ds hlen];exact tY _
  ·intro j t r h1 h2
   rw[pa]at h1 h2
   match j,h1,h2 with
   |0,h1,h2=>
    simp[Value.resultList]at h1 h2
    subst h1;subst h2
    simp[Value.okWide,Lh,Cell.okWide,Cell.ok]
  ·intro b off hx
   rw[hb.frozen (by simpa[MemPlace.block]using hold _ (by simpa using hx))]
   exact MM b off (by simpa using hx)
end
section
variable {P:Program}{t e:TypeId}{x:D}
end
end Go.Proofs.YtlhemmpklhhgoaaGreat
end
namespace Go.Proofs.YtlhemmpklhhgoaaGreat
section
variable {P:Program}{M:Nat->Prop}{φ:Place}{H:Hp}{w w':World}
def aa.eV:aa->Bool
 | .arr .. =>true
 |_=>false
theorem wb(o:Nat->aa)(ids:List Nat):kj o ids=bH o (ids.filter fun id=>(o id).eV):=by
 induction ids with
 |nil=>rfl
 |cons id ids ih=>
  unfold kj at ih|-
  simp only[List.filterMap_cons,List.filter_cons]
  cases hx:o id with
  |arr ep ty sz es=>
   have e:(aa.arr ep ty sz es).eV=true:=rfl
   rw[e,if_pos rfl,ih]
   simp only[bH,List.map_cons,hx]
  |_=>exact ih
theorem eo(hH:ag M φ H w){us':Nat->Prop}(h:∀id,H.us id->us' id):ag M φ ⟨H.o,us'⟩ w/\Trans φ H w φ ⟨H.o,us'⟩ w:=by
 have ht:Trans φ H w φ ⟨H.o,us'⟩ w:=⟨cc.refl _ _,fun b hb=> .inl hb,⟨h,fun id _ hr=>⟨hr,rfl⟩,fun id e' _ he=>⟨e',he,Nat.le_refl _,fun _=>rfl⟩⟩⟩
 exact⟨hH.of ht (fun _=>False) (fun _ h=>h.elim) (fun id _=>⟨rfl,rfl,fun _ _ _=>rfl⟩) (fun id hn=>hH.fresh id fun hu=>hn (h id hu)) hH.apart (fun b hb=>(hH.ours b hb).2),ht⟩
theorem cY(hH:ag M φ H w)(hk:cc (fun _=>False) w w'):ag M φ H w'/\Trans φ H w φ H w':=by
 have ht:Trans φ H w φ H w':=⟨⟨hk.os,hk.tape,hk.output,hk.size,fun k h _=>hk.block k h fun h=>h⟩,fun b hb=> .inl hb,bU.refl _ _⟩
 exact⟨hH.of ht (fun _=>False) (fun _ h=>h.elim) (fun id _=>⟨rfl,rfl,fun hl b hb=>hk.block b (hH.ours b ⟨id,hl,hb⟩).2 fun h=>h⟩) hH.fresh hH.apart (fun b hb=>Nat.lt_of_lt_of_le (hH.ours b hb).2 hk.size),ht⟩
theorem eW{Δ:List (Nat×aa)}(h:∀id∈Δ.map (·.1),H.us id):H.put Δ=⟨put H.o Δ,H.us⟩:=by
 unfold Hp.put
 congr 1
 funext id
 simp only[eq_iff_iff]
 exact⟨fun h'=>h'.elim (fun h=>h) (h id), .inl⟩
theorem kG(o:Nat->aa)(ids:List Nat):(bH o ids).map (·.1)=ids:=by
 rw[fg];simp[Function.comp_def]
structure Cx where
 base:List Deferred
 rd:Bool
def bQ(ro:Option Nat):Fence:={fn:=fun _=>True,depth:=none,alive:=false,round:=ro}
def mark(r:Nat):Deferred:={target:= .collected r,args:=#[]}
def lp(cx:Cx)(w0:World)(φ:Place)(H:Hp)(w:World)(ds:List Deferred):Prop:=
 ∃ms:List Nat,ds=ms.map mark++cx.base/\ms.Nodup/\(cx.rd=true->ms=[])/\∀r∈ms,w0.heap.size<=r/\w.heap[r]? =some (.deferred (some []))/\ ¬b4 φ H r
theorem lp.mono {cx:Cx}{w0:World}{φ ao:Place}{H H':Hp}{w w':World}{ds:List Deferred}(ht:Trans φ H w ao H' w')(h:lp cx w0 φ H w ds):lp cx w0 ao H' w' ds:=by
 obtain⟨ms,h1,h2,h3,h4⟩:=h
 refine⟨ms,h1,h2,h3,fun r hr=> ?_⟩
 obtain⟨g1,g2,g3⟩:=h4 r hr
 have cm:r<w.heap.size:=by
  rcases Nat.lt_or_ge r w.heap.size with hl|hl
  ·exact hl
  ·rw[Array.getElem?_eq_none hl]at g2;cases g2
 refine⟨g1,(ht.keep.block r cm g3).trans g2,fun hl=> ?_⟩
 rcases ht.grow r hl with h|h
 ·exact g3 h
 ·omega
structure aQ (M:Nat->Prop) (aZ:Place) (H0:Hp) (w0:World) (n:Nat) (cx:Cx) (φ:Place) (s:S) (a:Act) (w:World):Prop where
 heap:ag M φ s.H w
 tr:Trans aZ H0 w0 φ s.H w
 size:a.tmps.size=n
 defers:lp cx w0 φ s.H w a.defers
 env:∀i,V.den (ae M φ s.H) φ s.H w (s.env i) (a.tmps.getD i undef)
variable {aZ:Place}{H0:Hp}{w0:World}{n:Nat}{s:S}{a:Act}{cx:Cx}{ro:Option Nat}{k:Nat}
theorem bn{f:FuncId}{args:Array Value}{R:Ending->World->Prop}(h:Calls P f args w R):CallsIn (bQ ro) k P f args w R:=
 ⟨trivial,fun cs _=>let⟨e,w',fr,r,s,x⟩:=h cs;⟨e,w',fr,r,comesIn_wide.2 s,x⟩⟩
theorem pb{f:FuncId}{args:Array Value}{R:Ending->World->Prop}(h:CallsIn (bQ ro) k P f args w R):Calls P f args w R:=
 fun cs=>let⟨e,w',fr,r,s,x⟩:=h.2 cs (fun _ h=>by simp[bQ]at h);⟨e,w',fr,r,comesIn_wide.1 s,x⟩
theorem eC{o:Oper}{next:Act->World->Prop}{Q:Exit->Act->World->Prop}(Lj:∀c,o.op≠ .defer c)(h:o.uponIn (bQ ro) k P a next Q ((execOp a.eval o).run P w)):o.wpIn (bQ ro) k P a w next Q:=
 ⟨fun _ _=>trivial,by rw[Oper.semAt_eq _ _ _ Lj];exact h⟩
theorem gz(hs:aQ M aZ H0 w0 n cx φ s a w){ao:Place}{H':Hp}(hH:ag M ao H' w')(ht:Trans φ s.H w ao H' w'){v:V}{val:Value}(hd:V.den (ae M ao H') ao H' w' v val){dst:Option Tmp}(ba:c9 n dst)
 {o':Nat->aa} {nx':Nat} (ho:H'.o=o') (hu:∀id,H'.us id->id<nx'):aQ M aZ H0 w0 n cx ao ⟨az s.env dst v,o',nx'⟩ (a.put dst val) w':=by
 obtain⟨k1,k2⟩:=eo hH hu
 subst ho
 refine⟨k1,hs.tr.trans (ht.trans k2), ?_, ?_,fun i=> ?_⟩
 ·cases dst<;>simp[Act.put,hs.size]
 ·have:=hs.defers.mono (ht.trans k2);cases dst<;>exact this
 ·cases dst with
  |none=>exact vz
  |some d=>
   simp only[c9]at ba
   simp only[az,aq,Act.put]
   by_cases hi:i=d
   ·subst hi
    have h1:(a.tmps.setIfInBounds i val).getD i undef=val:=by simp[Array.getD,hs.size,ba]
    rw[if_pos rfl,h1]
    exact V.ax k2 _ _ hd
   ·have h1:(a.tmps.setIfInBounds d val).getD i undef=a.tmps.getD i undef:=by
     exact yY
    rw[if_neg hi,h1]
    exact vz
theorem ct(hs:aQ M aZ H0 w0 n cx φ s a w){ao:Place}{H':Hp}(hH:ag M ao H' w')(ht:Trans φ s.H w ao H' w'){o':Nat->aa}{nx':Nat}(ho:H'.o=o')(hu:∀id,H'.us id->id<nx'):
 aQ M aZ H0 w0 n cx ao ⟨s.env,o',nx'⟩ a w':=by
 obtain⟨k1,k2⟩:=eo hH hu
 subst ho
 exact⟨k1,hs.tr.trans (ht.trans k2),hs.size,hs.defers.mono (ht.trans k2),fun i=>V.ax (ht.trans k2) _ _ (hs.env i)⟩
theorem tZ{Δ:List (Nat×aa)}(h:∀id∈Δ.map (·.1),s.H.us id\/id=s.nx)(id:Nat)(hu:(s.H.put Δ).us id):id<s.nx+1:=by
 rcases hu with hu|hu
 ·exact Nat.lt_succ_of_lt hu
 ·rcases h id hu with h|h
  ·exact Nat.lt_succ_of_lt h
  ·omega
variable {next:Act->World->Prop}{Q:Exit->Act->World->Prop}{X:V->S->Prop}{K:S->Prop}
theorem ua(hs:aQ M aZ H0 w0 n cx φ s a w){o:Oper}{op:Op}(dg:o.op=op)(ba:c9 n o.dst)(h:xr P s s.nx op fun v Δ _=>K ⟨az s.env o.dst v,put s.o Δ,s.nx+1⟩)
 (hN:∀s' ao a' w',K s'->aQ M aZ H0 w0 n cx ao s' a' w'->next a' w'):o.wpIn (bQ ro) k P a w next Q:=by
 obtain⟨nx,val,w',ao,v,Δ,rd,hK,hr,ou,g1,g2,g3,g4⟩:=mJ hs.heap (s:=s) rfl hs.env (fr:=s.nx) (by simp[S.H]) dg h
 have nG:=gz hs g1 g2 g3 ba (o':=put s.o Δ) (nx':=s.nx+1) rfl (tZ g4)
 refine eC (fun c hc=>by rw[dg]at hc;subst hc;exact h) ?_
 rw[hr]
 rcases ou with rfl|⟨rfl,rfl⟩
 ·exact hN _ _ _ _ hK nG
 ·exact hN _ _ _ _ hK nG
theorem V.il {B:Nat->Prop}{aR bs cs:List V}{u v x:List Value}(h1:V.ai B φ H w aR u)(h2:V.ai B φ H w bs v)(h3:V.ai B φ H w cs x):V.ai B φ H w (aR++bs++cs) (u++v++x):=
 V.aB _ _ _ _ (V.aB _ _ _ _ h1 h2) h3
theorem eX{f:FuncId}(h:Enters P f)(args:Array Value):(callFunc f args).run P w= .ok (.enter f args) w:=by
 obtain⟨fn,h1,h2,h3⟩:=h
 have IM:fn.name≠ "runtime.NumGoroutine" :=by simpa using h2
 have MN:fn.body≠none:=fun h=>by rw[h]at h3;cases h3
 simp[callFunc,h1,IM,MN]
theorem fI:∀ {rs:List D} {val:Value},R.is (ae M φ H) w (.ret rs) (.returned val)->V.den (ae M φ H) φ H w (fE rs) val
 |[],_,h=>by obtain⟨arr,rfl,h⟩:=h;exact⟨arr,rfl,h⟩
 |[x],_,h=>h
 |x::y::l,_,h=>by obtain⟨arr,rfl,h⟩:=h;exact⟨arr,rfl,(V.aW (x::y::l) _).2 h⟩
theorem R.nH {B B':Nat->Prop}:∀ {out:R} {e:Ending},out.flat=true->out.is B w e->out.is B' w e
 | .ret [], .returned _,_,h=>by obtain⟨arr,rfl,h⟩:=h;exact⟨arr,rfl,h⟩
 | .ret [x], .returned _,hf,h=>by
   simp only[R.flat,D.eT,Bool.and_true]at hf
   exact D.iR x _ hf h
 | .ret (x::y::l), .returned _,hf,h=>by obtain⟨arr,rfl,h⟩:=h;exact⟨arr,rfl,D.fj (x::y::l) _ hf h⟩
 | .aJ d, .panicked _,hf,h=>by obtain⟨v,rfl,h⟩:=h;exact⟨v,rfl,D.iR d v hf h⟩
 | .ret [], .panicked _,_,h| .ret [_], .panicked _,_,h| .ret (_::_::_), .panicked _,_,h| .ret [], .outgrown,_,h| .ret [_], .outgrown,_,h| .ret (_::_::_), .outgrown,_,h| .aJ _, .returned _,_,h| .aJ _, .outgrown,_,h=>h.elim
theorem R.ub {B B':Nat->Prop}{w':World}(hb:∀b,iq w' b-> ¬B b-> ¬B' b):∀ {out:R} {e:Ending},out.fR=true->out.is B w' e->out.is B' w' e
 | .ret [], .returned _,_,h=>by obtain⟨arr,rfl,h⟩:=h;exact⟨arr,rfl,h⟩
 | .ret [x], .returned _,hf,h=>by
   simp only[R.fR,D.fk,Bool.and_true]at hf
   exact D.eU (fun b hc hn=>⟨rfl,hb b hc hn⟩) x _ hf h
 | .ret (x::y::l), .returned _,hf,h=>by obtain⟨arr,rfl,h⟩:=h;exact⟨arr,rfl,D.fS (fun b hc hn=>⟨rfl,hb b hc hn⟩) (x::y::l) _ hf h⟩
 | .aJ d, .panicked _,hf,h=>by obtain⟨v,rfl,h⟩:=h;exact⟨v,rfl,D.eU (fun b hc hn=>⟨rfl,hb b hc hn⟩) d v hf h⟩
 | .ret [], .panicked _,_,h| .ret [_], .panicked _,_,h| .ret (_::_::_), .panicked _,_,h| .ret [], .outgrown,_,h| .ret [_], .outgrown,_,h| .ret (_::_::_), .outgrown,_,h| .aJ _, .returned _,_,h| .aJ _, .outgrown,_,h=>h.elim
theorem uc(hH:ag M φ H w){o:Nat->aa}:∀ (vs:List V) (vals:List Value),(∀id∈bq o vs,H.o id=(o id).fz)->V.ai (ae M φ H) φ H w vs vals->V.ai (ae M φ H) φ H w (vs.map (tS o)) vals
 |[],_,_,h=>h
 |v::vs,_,ho,h=>by
  obtain⟨u,us,rfl,h1,h2⟩:=h
  refine⟨u,us,rfl, ?_,uc hH vs us (fun id aj=>ho id (by simp[bq,aj])) h2⟩
  unfold tS
  split
  ·rename_i x hx
   exact dA hH v x u (fun id aj=>ho id (by simp[bq,hx,aj])) hx h1
  ·exact h1
theorem da:∀ (vs:List V) (vals:List Value) (o:Nat->aa),V.ai (ae M φ H) φ H w vs vals->∀id∈bq o vs,H.us id
 |[],_,_,_,j,hj=>by simp[bq]at hj
 |v::vs,_,o,h,j,hj=>by
  obtain⟨u,us,rfl,h1,h2⟩:=h
  simp only[bq,List.mem_append]at hj
  rcases hj with hj|hj
  ·cases hx:cN o v with
   |none=>simp[hx]at hj
   |some x=>simp only[hx]at hj;exact bP v u h1 j hj
  ·exact da vs us o h2 j hj
theorem mM(hs:aQ M aZ H0 w0 n cx φ s a w){o:Oper}{g:FuncId}{all:List V}{vals:Array Value}(ba:c9 n o.dst)(cI:Enters P g->(execOp a.eval o).run P w= .ok (.enter g vals) w)(aV:V.ai (ae M φ s.H) φ s.H w all vals.toList)
 (h:gI P g all s.o s.nx (fun v o' nx'=>K ⟨az s.env o.dst v,o',nx'⟩) (fun v o' nx'=>X v ⟨s.env,o',nx'⟩))
 (hN:∀s' ao a' w',K s'->aQ M aZ H0 w0 n cx ao s' a' w'->next a' w')
 (hQ:∀v s' ao w' val,X v s'->aQ M aZ H0 w0 n cx ao s' a w'->V.den (ae M ao s'.H) ao s'.H w' v val->Q (.panic [{v:=val,recovered:=false}]) a w'):o.uponIn (bQ ro) k P a next Q ((execOp a.eval o).run P w):=by
 have cC:=h.2 M φ w vals hs.heap aV
 rw[cI h.1]
 refine⟨fun hd=>by simp[bQ]at hd,bn (cC.mono fun e w' ⟨ao,o',nx',v,k1,k2,k3⟩=> ?_)⟩
 cases e with
 |returned val=>exact Cy
 |panicked ch=>
  obtain⟨val,rfl,k4,k5⟩:=k3
  exact Cq
 |outgrown=>exact k3.elim
theorem pc(hs:aQ M aZ H0 w0 n cx φ s a w){o:Oper}{g:FuncId}{all:List V}{vals:Array Value}(ba:c9 n o.dst)(cI:Enters P g->(execOp a.eval o).run P w= .ok (.enter g vals) w)(aV:V.ai (ae M φ s.H) φ s.H w all vals.toList)
 (h:lj P s g all (fun v o' nx'=>K ⟨az s.env o.dst v,o',nx'⟩) (fun v o' nx'=>X v ⟨s.env,o',nx'⟩))
 (hN:∀s' ao a' w',K s'->aQ M aZ H0 w0 n cx ao s' a' w'->next a' w')
 (hQ:∀v s' ao w' val,X v s'->aQ M aZ H0 w0 n cx ao s' a w'->V.den (ae M ao s'.H) ao s'.H w' v val->Q (.panic [{v:=val,recovered:=false}]) a w'):o.uponIn (bQ ro) k P a next Q ((execOp a.eval o).run P w):=by
 unfold lj at h
 obtain⟨f1,f2,f3,f4,f5⟩:=bK hs.heap (V.aC all) (bd all _ aV)
 have fi:s.H.put (bH s.H.o (V.aC all))=⟨put s.o (bH s.o (V.aC all)),s.H.us⟩:=eW yO
 have fU:=V.aw f2 _ _ aV
 rcases h with⟨ds,out,dh,hP,hK⟩|⟨ds,out,dh,hP,jk,hK⟩|⟨ds,out,dh,hP,MO,hK⟩|hC|hC
 ·have mz:=bD f1 all ds _ f3 dh fU
  have hM:∀b,ae M φ (s.H.put (bH s.H.o (V.aC all))) b->b<w.heap.size:=fun b hb=>hb.elim (f1.pY b) fun hl=>(f1.ours b hl).2
  have cC:=hP.2 _ w vals hM mz
  rw[cI hP.1]
  refine⟨fun hd=>by simp[bQ]at hd,bn (cC.mono fun e w' ⟨hk,ho⟩=> ?_)⟩
  obtain⟨k1,k2⟩:=cY f1 hk
  cases out with
  |ret rs=>
   cases e with
   |returned val=>
    refine hN _ _ _ _ hK (gz hs k1 (f2.trans k2) (fI ho) ba (by rw[fi]) ?_)
    intro id hu;rw[fi]at hu;exact Nat.lt_succ_of_lt hu
   |panicked ch=>exact vo
   |outgrown=>exact vo
  |aJ x=>
   cases e with
   |returned val=>exact ho.elim
   |panicked ch=>
    obtain⟨val,rfl,hd⟩:=ho
    have nG:=ct hs k1 (f2.trans k2) (o':=put s.o (bH s.o (V.aC all))) (nx':=s.nx+1) (by rw[fi]) (fun id hu=>by rw[fi]at hu;exact Nat.lt_succ_of_lt hu)
    refine hQ _ _ _ _ val hK nG ?_
    have e1:ae M φ (S.H ⟨s.env,put s.o (bH s.o (V.aC all)),s.nx+1⟩)=ae M φ (s.H.put (bH s.H.o (V.aC all))):=by rw[fi];rfl
    simp only[V.den]
    rw[e1];exact hd
   |outgrown=>exact ho.elim
 ·have mz:=bD f1 all ds _ f3 dh fU
  have hM:∀b,ae M φ (s.H.put (bH s.H.o (V.aC all))) b->b<w.heap.size:=fun b hb=>hb.elim (f1.pY b) fun hl=>(f1.ours b hl).2
  have cC:=hP.2 _ w vals hM mz
  rw[cI hP.1]
  refine⟨fun hd=>by simp[bQ]at hd,bn (cC.mono fun e w' ⟨hk,ho⟩=> ?_)⟩
  obtain⟨k1,k2⟩:=cY hs.heap hk
  have ho:=R.nH (B':=ae M φ s.H) jk ho
  cases out with
  |ret rs=>
   cases e with
   |returned val=>
    exact hN _ _ _ _ hK (gz hs k1 k2 (fI ho) ba rfl fun id hu=>Nat.lt_succ_of_lt hu)
   |panicked ch=>exact vo
   |outgrown=>exact vo
  |aJ x=>
   cases e with
   |returned val=>exact ho.elim
   |panicked ch=>
    obtain⟨val,rfl,hd⟩:=ho
    exact hQ _ _ _ _ val hK (ct hs k1 k2 (o':=s.o) (nx':=s.nx+1) rfl fun id hu=>Nat.lt_succ_of_lt hu) hd
   |outgrown=>exact ho.elim
 ·obtain⟨a1,a2,a3,a4,a5⟩:=bK hs.heap ((V.aC all).filter fun id=>(s.o id).eV) (fun id aj=>bd all _ aV id (List.mem_filter.1 aj).1)
  have pf:s.H.put (bH s.H.o ((V.aC all).filter fun id=>(s.o id).eV))=⟨put s.o (kj s.o (V.aC all)),s.H.us⟩:=by
   rw[wb]
   exact eW (by rw[kG];exact fun id aj=>bd all _ aV id (List.mem_filter.1 aj).1)
  have mz:=bD f1 all ds _ f3 dh fU
  have hM:∀b,ae M φ (s.H.put (bH s.H.o (V.aC all))) b->b<w.heap.size:=fun b hb=>hb.elim (f1.pY b) fun hl=>(f1.ours b hl).2
  have cC:=hP.2 _ w vals hM mz
  rw[cI hP.1]
  refine⟨fun hd=>by simp[bQ]at hd,bn (cC.mono fun e w' ⟨hk,ho⟩=> ?_)⟩
  obtain⟨k1,k2⟩:=cY a1 hk
  have I6:∀b,iq w' b-> ¬ae M φ (s.H.put (bH s.H.o (V.aC all))) b-> ¬ae M φ (s.H.put (bH s.H.o ((V.aC all).filter fun id=>(s.o id).eV))) b:=by
   intro b hc hn hm
   rcases hm with hM|⟨id,hl,hb⟩
   ·exact hn (.inl hM)
   ·by_cases aj:id∈V.aC all
    ·cases hx:s.H.o id with
     |arr ep ty sz es=>
      rw[a3 id (List.mem_filter.2 ⟨aj,by show(s.H.o id).eV=true;rw[hx];rfl⟩),hx]at hl
      cases hl
     |map kt vt l=>
      have fF:id∉(V.aC all).filter fun id=>(s.o id).eV:=fun h=>by
       have h2:(s.H.o id).eV=true:=(List.mem_filter.1 h).2
       rw[hx]at h2;cases h2
      have aI:=k1.ok id
      unfold au at aI
      rw[a4 id fF,hx]at aI
      obtain⟨b',es,clock,g1,g2,_⟩:=aI
      rw[g1]at hb
      injection hb with hb
      subst hb
      obtain⟨cs,ty,fz,hc⟩:=hc
      rw[g2]at hc
      cases hc
     |_=>
      have fF:id∉(V.aC all).filter fun id=>(s.o id).eV:=fun h=>by
       have h2:(s.H.o id).eV=true:=(List.mem_filter.1 h).2
       rw[hx]at h2;cases h2
      refine hn (.inr ⟨id, ?_,hb⟩)
      rw[a4 id fF,hx]at hl
      rw[f3 id aj,hx]
      exact hl
    ·have fF:id∉(V.aC all).filter fun id=>(s.o id).eV:=fun h=>aj (List.mem_filter.1 h).1
     refine hn (.inr ⟨id, ?_,hb⟩)
     rw[a4 id fF]at hl
     rw[f4 id aj]
     exact hl
  have ho:=R.ub (w':=w') (B':=ae M φ (s.H.put (bH s.H.o ((V.aC all).filter fun id=>(s.o id).eV)))) I6 MO ho
  cases out with
  |ret rs=>
   cases e with
   |returned val=>
    refine hN _ _ _ _ hK (gz hs k1 (a2.trans k2) (fI ho) ba (by rw[pf]) ?_)
    intro id hu;rw[pf]at hu;exact Nat.lt_succ_of_lt hu
   |panicked ch=>exact vo
   |outgrown=>exact vo
  |aJ x=>
   cases e with
   |returned val=>exact ho.elim
   |panicked ch=>
    obtain⟨val,rfl,hd⟩:=ho
    have nG:=ct hs k1 (a2.trans k2) (o':=put s.o (kj s.o (V.aC all))) (nx':=s.nx+1) (by rw[pf]) (fun id hu=>by rw[pf]at hu;exact Nat.lt_succ_of_lt hu)
    refine hQ _ _ _ _ val hK nG ?_
    have e1:ae M φ (S.H ⟨s.env,put s.o (kj s.o (V.aC all)),s.nx+1⟩)=ae M φ (s.H.put (bH s.H.o ((V.aC all).filter fun id=>(s.o id).eV))):=by rw[pf];rfl
    simp only[V.den]
    rw[e1];exact hd
   |outgrown=>exact ho.elim
 ·exact mM hs ba cI aV hC hN hQ
 ·obtain⟨f1,f2,f3,f4,f5⟩:=bK hs.heap (bq s.o all) (da all _ s.o aV)
  have fi:s.H.put (bH s.H.o (bq s.o all))=hp (put s.o (bH s.o (bq s.o all))) s.nx:=eW (by rw[kG];exact da all _ s.o aV)
  have fU:=uc f1 all _ f3 (V.aw f2 _ _ aV)
  rw[fi]at f1 f2 fU
  exact mM (s:=⟨s.env,put s.o (bH s.o (bq s.o all)),s.nx⟩) (ct hs f1 f2 rfl fun id hu=>hu) ba cI fU hC hN hQ
theorem wc(hs:aQ M aZ H0 w0 n cx φ s a w){o:Oper}{c:Call}{f:Operand}(dg:o.op= .call c)(hc:c.callee= .value f)(ba:c9 n o.dst)
 (h:o6 P s (s.ev f) (c.args.toList.map s.ev) (fun v o' nx'=>K ⟨az s.env o.dst v,o',nx'⟩) (fun v o' nx'=>X v ⟨s.env,o',nx'⟩))
 (hN:∀s' ao a' w',K s'->aQ M aZ H0 w0 n cx ao s' a' w'->next a' w')
 (hQ:∀v s' ao w' val,X v s'->aQ M aZ H0 w0 n cx ao s' a w'->V.den (ae M ao s'.H) ao s'.H w' v val->Q (.panic [{v:=val,recovered:=false}]) a w'):o.wpIn (bQ ro) k P a w next Q:=by
 refine eC (fun c' ud=>by rw[dg]at ud;cases ud) ?_
 have hf:=fL (M:=M) (φ:=φ) (H:=s.H) (w:=w) s a hs.env f
 have bR:=ey (M:=M) (φ:=φ) (H:=s.H) (w:=w) s a hs.env c.args.toList
 unfold o6 at h
 split at h
 ·rename_i g first cap ow
  rw[ow]at hf
  obtain⟨fa,ca,zh,qY,Ht⟩:=hf
  have aV:V.ai (ae M φ s.H) φ s.H w (first++c.args.toList.map s.ev++cap) (fa++c.args.map a.eval++ca).toList:=by
   exact CW
  generalize first++c.args.toList.map s.ev++cap=all at h aV
  generalize rm:fa++c.args.map a.eval++ca=vals at aV
  have cI:Enters P g->(execOp a.eval o).run P w= .ok (.enter g vals) w:=by
   intro he
   have:=eX (w:=w) he (fa++c.args.map a.eval++ca)
   rw[rm]at this
   simp[execOp,dg,resolve,hc,zh,Deferred.ofValue,invoke,this,rm]
  exact pc hs ba cI aV h hN hQ
 ·rename_i id ow
  rw[ow]at hf
  obtain⟨_,cR,MP⟩:=hf
  obtain⟨bZ,hR⟩:=h
  obtain⟨b,cL,zh⟩:=MP bZ
  obtain⟨fn,tmps,assign,body,h1,h2⟩:=hR M φ w (c.args.map a.eval) b hs.heap (by rw[Array.toList_map];exact bR) cL
  have cI:(execOp a.eval o).run P w= .ok (.round b fn tmps assign body) w:=by
   simp[execOp,dg,resolve,hc,zh,Deferred.ofValue,invoke,h1]
  rw[cI]
  refine⟨fun hd=>by simp[bQ]at hd,RoundIn.mono (h2 (k - 1)) fun e w' ⟨ao,o',nx',v,k1,k2,k3⟩=> ?_⟩
  cases e with
  |returned val=>exact Cy
  |panicked ch=>
   obtain⟨val,rfl,k4,k5⟩:=k3
   exact Cq
  |outgrown=>exact k3.elim
 ·exact h.elim
theorem sG(hs:aQ M aZ H0 w0 n cx φ s a w){o:Oper}{c:Call}{r:Operand}{m:String}{g:FuncId}{y:V}(dg:o.op= .call c)(hc:c.callee= .invoke r m)(ba:c9 n o.dst)(hr:lk P m (s.ev r)=some (g,y))
 (h:lj P s g (y::c.args.toList.map s.ev) (fun v o' nx'=>K ⟨az s.env o.dst v,o',nx'⟩) (fun v o' nx'=>X v ⟨s.env,o',nx'⟩))
 (hN:∀s' ao a' w',K s'->aQ M aZ H0 w0 n cx ao s' a' w'->next a' w')
 (hQ:∀v s' ao w' val,X v s'->aQ M aZ H0 w0 n cx ao s' a w'->V.den (ae M ao s'.H) ao s'.H w' v val->Q (.panic [{v:=val,recovered:=false}]) a w'):o.wpIn (bQ ro) k P a w next Q:=by
 refine eC (fun c' ud=>by rw[dg]at ud;cases ud) ?_
 have hf:=fL (M:=M) (φ:=φ) (H:=s.H) (w:=w) s a hs.env r
 have bR:=ey (M:=M) (φ:=φ) (H:=s.H) (w:=w) s a hs.env c.args.toList
 unfold lk at hr
 split at hr
 ·rename_i t d hx
  rw[hx]at hf
  obtain⟨val,hv,hd⟩:=hf
  split at hr
  ·rename_i ti MQ
   split at hr
   ·rename_i mr kM
    split at hr
    ·rename_i f s7
     split at hr
     ·rename_i xH
      injection hr with hr
      injection hr with h1 h2
      subst h1;subst h2
      refine pc (vals:=#[val]++c.args.map a.eval) hs ba ?_ ?_ h hN hQ
      ·intro he
       have cI:=eX (w:=w) he (#[val]++c.args.map a.eval)
       have MR:mr.path=#[]:=Array.isEmpty_iff.1 xH.1
       have hu:∃u,P.underlying t=some u/\∀e,u≠ .pointer e:=by
        have:=xH.2
        unfold xD at this
        split at this
        ·cases this
        ·rename_i u iM hu;exact⟨u,hu,fun e he=>iM e he⟩
        ·cases this
       obtain⟨u,hu,xI⟩:=hu
       have hm:(method (P.types.size+Made.depth) t val m).run P w= .ok (f,val) w:=by
        have:P.types.size+Made.depth=(P.types.size+Made.depth - 1)+1:=by simp[Made.depth]
        rw[this]
        cases u<;>first|exact absurd rfl (xI _)|simp[method,typeInfo,MQ,kM,MR,s7,follow,receiverAt,run_underlying hu,_root_.Go.Place.get]
       have h0:(#[Value.iface t val]++Array.map a.eval c.args)[0]? =some (.iface t val):=by
        rw[Array.getElem?_append_left (by simp)];rfl
       have h1:(Array.map a.eval c.args).extract 0 c.args.size=Array.map a.eval c.args:=by
        rw[show c.args.size=(Array.map a.eval c.args).size from by simp,Array.extract_size]
       simp[execOp,dg,resolve,hc,invoke,callMethod,hv,h0,h1,hm,cI]
      ·simp only[Array.toList_append,Array.toList_map]
       exact⟨val,_,rfl,hd,bR⟩
     ·cases hr
    ·cases hr
   ·cases hr
  ·cases hr
 ·cases hr
theorem mN(hs:aQ M aZ H0 w0 n cx φ s a w){o:Oper}(h:I4 P n s o X K)
 (hN:∀s' ao a' w',K s'->aQ M aZ H0 w0 n cx ao s' a' w'->next a' w')
 (hQ:∀v s' ao w' val,X v s'->aQ M aZ H0 w0 n cx ao s' a w'->V.den (ae M ao s'.H) ao s'.H w' v val->Q (.panic [{v:=val,recovered:=false}]) a w'):o.wpIn (bQ ro) k P a w next Q:=by
 obtain⟨ba,h⟩:=h
 split at h
 ·rename_i c dg
  split at h
  ·rename_i f hc
   exact wc hs dg hc ba h hN hQ
  ·rename_i r m hc
   split at h
   ·rename_i g y hr;exact sG hs dg hc ba hr h hN hQ
   ·exact h.elim
  ·exact ua hs rfl ba h hN
 ·rename_i x dg
  have hx:=fL (M:=M) (φ:=φ) (H:=s.H) (w:=w) s a hs.env x
  have aJ:∀ (t:TypeId) (u:Value),a.eval x= .iface t u->Q (.panic [{v:= .iface t u,recovered:=false}]) a w->o.wpIn (bQ ro) k P a w next Q:=by
   intro t u hu hq
   refine eC (fun c hc=>by rw[dg]at hc;cases hc) ?_
   have hr:(execOp a.eval o).run P w= .halt (.panic (.iface t u)) w:=by simp[execOp,dg,hu,Instr.panic]
   rw[hr];exact hq
  split at h
  ·rename_i t y hv
   rw[hv]at hx
   obtain⟨u,hu,hd⟩:=hx
   exact CA
  ·rename_i t y hv
   rw[hv]at hx
   obtain⟨u,hu,hd⟩:=hx
   exact CA
  ·exact h.elim
 ·exact ua hs rfl ba h hN
end
end Go.Proofs.YtlhemmpklhhgoaaGreat
namespace Go
def Code.kx (P:Program)(ro:Option Nat)(c:Code)(Q:Exit->Act->World->Prop)(a:Act)(w:World):Prop:=
 ∀ (b:Frame) (k:List Item) (cs:List Frame),b.roundOf=ro->b.fn<P.funcs.size->
   ∃e a' w',Q e a' w'/\ArrivesIn (Machine.fenced P (Proofs.YtlhemmpklhhgoaaGreat.bQ ro)) P (lone (b.atR a (.code c::k)) cs w) b k cs e a' w'
end Go
namespace Go.Proofs.YtlhemmpklhhgoaaGreat
instance:LawfulMonad Sem:=LawfulMonad.mk' Sem (id_map:=fun x=>Sem.bind_pure' x) (pure_bind:=fun _ _=>rfl) (bind_assoc:=fun x f g=>Sem.bind_assoc' x f g)
section
variable {P:Program}{M:Nat->Prop}{φ:Place}{H:Hp}{w w':World}{aZ:Place}{H0:Hp}{w0:World}{n b:Nat}{s:S}{a:Act}{cx:Cx}{ro:Option Nat}{k:Nat}
theorem iV(hs:aQ M aZ H0 w0 n cx φ s a w){ops:Array Oper}{o:Oper}{A B:Prop}(h:nD s ops o.guard A B):
 (Region.wanted o (yielded ops a.tmps)=true->A)/\(Region.wanted o (yielded ops a.tmps)=false->B):=by
 unfold nD at h
 unfold Region.wanted
 split at h
 ·rename_i hg;simp only[hg];exact⟨fun _=>h,fun h=>by cases h⟩
 ·rename_i j want hg
  simp only[hg]
  unfold jM at h
  unfold yielded
  split at h
  ·rename_i d hd
   simp only[hd,Option.bind_some]
   have b5:=hs.env d
   split at h
   ·rename_i c hv
    rw[hv]at b5
    simp only[V.den,D.den]at b5
    have:a.tmps[d]? =some (.bool c):=by
     rw[Array.getD_eq_getD_getElem?]at b5
     cases hx:a.tmps[d]? with
     |none=>rw[hx]at b5;simp[undef]at b5
     |some x=>rw[hx]at b5;simp at b5;rw[b5]
    simp only[this]
    by_cases hc:c=want
    ·subst hc;exact⟨fun _=>h.1 rfl,fun h=>by simp at h⟩
    ·exact⟨fun h'=>absurd (by simpa using h') hc,fun _=>h.2 hc⟩
   ·rename_i hv
    rw[hv]at b5
    obtain⟨arr,bw,hn⟩:=b5
    simp only[V.ai]at hn
    have:∀c,a.tmps[d]? ≠some (.bool c):=by
     exact C6
    cases hx:a.tmps[d]? with
    |none=>exact⟨fun h=>by simp at h,fun _=>h⟩
    |some x=>cases x<;>first|(exact absurd hx (this _))|(exact⟨fun h=>by simp at h,fun _=>h⟩)
   ·exact h.elim
  ·rename_i hd
   simp only[hd,Option.bind_none]
   exact⟨fun h=>by simp at h,fun _=>h⟩
theorem pg(hs:aQ M aZ H0 w0 n cx φ s a w){dst:Option Tmp}(ba:c9 n dst):aQ M aZ H0 w0 n cx φ ⟨az s.env dst (.a7 []),s.o,s.nx+1⟩ (a.put dst undef) w:=
 gz (v:= .a7 []) (val:=undef) hs hs.heap (Trans.refl _ _ _) ⟨#[],rfl,rfl⟩ ba rfl fun _ hu=>Nat.lt_succ_of_lt hu
theorem hZ{ops:Array Oper}{X:V->S->Prop}{K:S->Prop}{Q:Exit->Act->World->Prop}
 (hK:∀s φ a w,K s->aQ M aZ H0 w0 n cx φ s a w->Q .normal a w)
 (hQ:∀v s' ao a w' val,X v s'->aQ M aZ H0 w0 n cx ao s' a w'->V.den (ae M ao s'.H) ao s'.H w' v val->Q (.panic [{v:=val,recovered:=false}]) a w'):
 ∀ (l:List Oper) (s:S) (φ:Place) (a:Act) (w:World),nE P n ops X K l s->aQ M aZ H0 w0 n cx φ s a w->wpListIn (bQ ro) k P ops Q l a w
 |[],s,φ,a,w,h,hs=>hK s φ a w h hs
 |o::l,s,φ,a,w,h,hs=>by
  obtain⟨h1,h2⟩:=iV hs h
  unfold wpListIn
  split
  ·rename_i hw
   exact mN hs (h1 hw) (fun s' ao a' w' hk eM=>hZ hK hQ l s' ao a' w' hk eM) (fun v s' ao w' val hx eM hd=>hQ v s' ao a w' val hx eM hd)
  ·rename_i hw
   obtain⟨ba,h3⟩:=h2 (by simpa using hw)
   exact⟨fun _ _=>trivial,hZ hK hQ l _ _ _ _ h3 (pg hs ba)⟩
def rn(M:Nat->Prop)(aZ:Place)(H0:Hp)(w0:World)(n:Nat)(cx:Cx)(Q:dM->S->Prop)(e:Exit)(a:Act)(w:World):Prop:=
 ∃x s φ,Q x s/\aQ M aZ H0 w0 n cx φ s a w/\match e,x with
  | .normal, .normal=>True
  | .exit i, .exit j=>i=j
  | .ret, .ret=>True
  | .panic ch, .aJ v=>∃val,ch=[{v:=val,recovered:=false}]/\V.den (ae M φ s.H) φ s.H w v val
  |_,_=>False
section
variable {Q:Exit->Act->World->Prop}
theorem db{m:Nat}:(bQ ro).room m:=fun d hd=>by simp[bQ]at hd
theorem ib{c:Code}(h:c.wpIn (bQ ro) k P Q a w):c.kx P ro Q a w:=fun b k cs kM _=>h b k cs kM trivial db
theorem dc{c:Code}{Q':Exit->Act->World->Prop}(h:c.kx P ro Q a w)(hq:∀e a w,Q e a w->Q' e a w):c.kx P ro Q' a w:=
 fun b k cs kM hb=>let⟨e,a',w',q,r⟩:=h b k cs kM hb;⟨e,a',w',hq _ _ _ q,r⟩
theorem rp(h:Q .ret a w):Code.ret.kx P ro Q a w:=ib (k:=0) (wpIn_ret h)
theorem ph{id:Nat}(h:Q (.exit id) a w):(Code.exit id).kx P ro Q a w:=ib (k:=0) (wpIn_exit h)
theorem nI{x y:Code}(h:x.kx P ro (Exit.then (y.kx P ro Q) Q) a w):(Code.seq x y).kx P ro Q a w:=by
 intro b k cs kM hb
 have h0:(lone (b.atR a (.code (.seq x y)::k)) cs w).fenced P (bQ ro):=fenced_calm (n:=0) trivial db rfl
 obtain⟨e,gG,dV,hq,bw⟩:=h b (.code y::k) cs kM hb
 cases e with
 |normal=>
  obtain⟨zi,Dw,jD,iW,eD⟩:=hq b k cs kM hb
  exact⟨zi,Dw,jD,iW, .of_steps (.head h0 stepR_seq bw) eD⟩
 |exit id=>exact B9
 |goto l=>exact B9
 |ret=>exact B9
 |panic ch=>exact B9
 |outgrown=>exact B9
theorem iX{c:Operand}{x y:Code}{t:Bool}(hc:a.eval c= .bool t)(h:(if t then x else y).kx P ro Q a w):(Code.cond c x y).kx P ro Q a w:=
 fun b k cs kM hb=>let⟨e,a',w',q,r⟩:=h b k cs kM hb;⟨e,a',w',q, .of_steps (.one (fenced_calm (n:=0) trivial db rfl) (stepR_cond hc)) r⟩
theorem sH{id:Nat}{c:Code}(h:c.kx P ro (Exit.inBlock id Q) a w):(Code.block id c).kx P ro Q a w:=by
 intro b k cs kM hb
 have h0:(lone (b.atR a (.code (.block id c)::k)) cs w).fenced P (bQ ro):=fenced_calm (n:=0) trivial db rfl
 obtain⟨e,gG,dV,hq,bw⟩:=h b (.inBlock id::k) cs kM hb
 cases e with
 |normal=>exact⟨.normal,gG,dV,hq, .head h0 stepR_block (StepsIn.trans bw (.one (fenced_calm (n:=0) trivial db rfl) stepR_inBlock))⟩
 |exit tQ=>
  by_cases aj:tQ=id
  ·simp only[Exit.inBlock,aj,if_true]at hq
   exact⟨.normal,gG,dV,hq, .head h0 stepR_block (bw.1 k (by simp[exitTo,aj]))⟩
  ·simp only[Exit.inBlock,aj,if_false]at hq
   have this:(id==tQ)=false:=by simp;exact fun h=>aj h.symm
   have hx:exitTo tQ (.inBlock id::k)=exitTo tQ k:=by simp[exitTo,this]
   exact⟨.exit tQ,gG,dV,hq,fun k' hk=> .head h0 stepR_block (bw.1 k' rY),
    fun tP hk=>let⟨k₁,h1,h2⟩:=bw.2 tP rY;⟨k₁,h1, .head h0 stepR_block h2⟩⟩
 |goto l=>
  have hx:gotoIn l (.inBlock id::k)=gotoIn l k:=by simp[gotoIn]
  exact⟨_,gG,dV,hq,fun k' hk=> .head h0 stepR_block (bw.1 k' rY),
   fun tP hk=>let⟨k₁,h1,h2⟩:=bw.2 tP rY;⟨k₁,h1, .head h0 stepR_block h2⟩⟩
 |ret=>exact yG
 |panic ch=>exact yG
 |outgrown=>exact yG
theorem ek{b:Frame}{k:List Item}{cs:List Frame}{c:Code}:step P (lone (b.atR a (.code (.scope c)::k)) cs w)= .next (lone (b.atR a (.code c:: .inScope c::k)) cs w):=
 step_lone_go (by simp[stepG,stepG.exec,Frame.atR])
theorem mi{b:Frame}{k:List Item}{cs:List Frame}{c:Code}:step P (lone (b.atR a (.inScope c::k)) cs w)= .next (lone (b.atR a k) cs w):=
 step_lone_go (by simp[stepG,stepG.exec,Frame.atR])
theorem mO{c:Code}(h:c.kx P ro Q a w)(hg:∀l a w, ¬Q (.goto l) a w):(Code.scope c).kx P ro Q a w:=by
 intro b k cs kM hb
 have h0:(lone (b.atR a (.code (.scope c)::k)) cs w).fenced P (bQ ro):=fenced_calm (n:=0) trivial db rfl
 obtain⟨e,gG,dV,hq,bw⟩:=h b (.inScope c::k) cs kM hb
 cases e with
 |normal=>exact⟨.normal,gG,dV,hq, .head h0 ek (StepsIn.trans bw (.one (fenced_calm (n:=0) trivial db rfl) mi))⟩
 |exit tQ=>
  have hx:exitTo tQ (.inScope c::k)=exitTo tQ k:=by simp[exitTo]
  exact⟨.exit tQ,gG,dV,hq,fun k' hk=> .head h0 ek (bw.1 k' rY),
   fun tP hk=>let⟨k₁,h1,h2⟩:=bw.2 tP rY;⟨k₁,h1, .head h0 ek h2⟩⟩
 |goto l=>exact(hg _ _ _ hq).elim
 |ret=>exact yH
 |panic ch=>exact yH
 |outgrown=>exact yH
def lq(P:Program)(l:Nat)(Q:Exit->Act->World->Prop)(a':Act):Ending->World->Prop
 | .returned _,qo=>∃jump ky,(Instr.endLoop l).run P qo= .ok jump ky/\(match jump with|none=>Q .normal a' ky|some c=>c.kx P none Q a' ky)
 | .panicked chain,qo=>Q (.panic chain) a' qo
 | .outgrown,_=>LetsOut Q
theorem mj{g:Operand}{ps:Array Tmp}{assign body:Code}
 (h:∀fn,fn<P.funcs.size->∃ (l:Nat) (mark:List Deferred) (dV:World) (d:Deferred) (mP:World) (f:FuncId) (args:Array Value) (jD:World),
  (Instr.enterLoop fn a.tmps ps assign body (bQ none).round).run P w= .ok (l,mark) dV/\(resolve a.eval (rangeCall g l) 0).run P dV= .ok d mP/\
  (invoke d.target d.args).run P mP= .ok (.enter f args) jD/\CallsIn (bQ none) 0 P f args jD (lq P l Q {a with defers:=mark++a.defers})):
 (Code.rangeFunc g ps assign body).kx P none Q a w:=by
 intro b k cs kM hb
 obtain⟨l,mark,dV,d,mP,f,args,jD,he,pa,hinv,hF,cC⟩:=h b.fn hb
 rw[show(bQ none).round=b.roundOf from kM.symm]at he
 have calm:∀ (m:Machine),m.fenced P (bQ none)↔m.fenced P Fence.wide:=fun m=>Iff.rfl
 have h0:(lone (b.atR a (.code (.rangeFunc g ps assign body)::k)) cs w).fenced P (bQ none):=(calm _).2 (fenced_wide P _)
 have fm:=stepR_rangeFunc (P:=P) (b:=b) (a:=a) (k:=k) (cs:=cs) (w:=w) he pa hinv
 obtain⟨e,qo,fr,hR,qp,s7,ue⟩:=cC (b.atR {a with defers:=mark++a.defers} (.inRangeFunc l::k)::cs) db
 cases e with
 |outgrown=>
  obtain⟨I7,I8,hq⟩:=hR
  exact⟨.outgrown,I7,I8,hq, .inr (Outgrown.of_steps (.one fm) qp)⟩
 |returned v=>
  obtain⟨jump,ky,lr,hj⟩:=hR
  have xJ:StepsIn (Machine.fenced P (bQ none)) P (lone (b.atR a (.code (.rangeFunc g ps assign body)::k)) cs w) (lone (b.atR {a with defers:=mark++a.defers} ((jump.map Item.code).toList++k)) cs ky):=by
   refine .head h0 fm (StepsIn.trans qp (.head ((calm _).2 (fenced_wide P _)) ?_ (.one ((calm _).2 (fenced_wide P _)) (stepR_endRangeFunc lr))))
   rw[<- finish_atR_inRangeFunc l v];exact step_leave_returned ue
  cases jump with
  |none=>exact⟨.normal,_,ky,hj,xJ⟩
  |some c=>
   obtain⟨e',MS,I9,hq,bw⟩:=hj b k cs kM hb
   exact⟨e',MS,I9,hq, .of_steps xJ bw⟩
 |panicked chain=>
  refine⟨.panic chain,_,qo,hR, .inRangeFunc l::k, .head h0 fm (StepsIn.trans qp (.one ((calm _).2 (fenced_wide P _)) ?_))⟩
  rw[<- Frame.raise_atR];exact step_leave_panicked ue
end
theorem mQ(hH:ag M φ H w){id l:Nat}(cR:H.us id){nf m:Nat}{env:List V}{ps:List Nat}{gU eY:IC}{st st':LoopState}{pd pd':Option kf}(ho:H.o id= .loop nf m env ps gU eY st pd)(cL:φ id= .pointer (some ⟨l,0,none⟩)):
 ∃r,w.heap[l]? =some (.loop r)/\r.state=st/\r.pending=pd.map kf.code/\
  ag M φ (H.put [(id, .loop nf m env ps gU eY st' pd')]) {w with heap:=w.heap.setIfInBounds l (.loop {r with state:=st',pending:=pd'.map kf.code})}/\
  Trans φ H w φ (H.put [(id, .loop nf m env ps gU eY st' pd')]) {w with heap:=w.heap.setIfInBounds l (.loop {r with state:=st',pending:=pd'.map kf.code})}:=by
 have aI:=hH.ok id
 simp only[au,ho]at aI
 obtain⟨b,r,h1,h2,h0,h3,h4,h5,h6,h7,h8,h9⟩:=aI
 rw[cL]at h1;simp at h1;subst h1
 refine⟨r,h2,h3,h4, ?_⟩
 have tN:cc (· =l) w {w with heap:=w.heap.setIfInBounds l (.loop {r with state:=st',pending:=pd'.map kf.code})}:=
  ⟨rfl,rfl,rfl,aU,fun j _ hj=>(MapKept.heap_set h2).2 j hj⟩
 have nw:(H.o id).live=true:=by rw[ho];rfl
 have tO:cM (φ id)=some l:=by rw[cL];rfl
 have ht:=cT (w:=w) (w':={w with heap:=w.heap.setIfInBounds l (.loop {r with state:=st',pending:=pd'.map kf.code})}) cR nw tO tN (.loop nf m env ps gU eY st' pd') fC fC
 refine⟨dR hH cR nw tO tN _ fC fC ?_,ht⟩
 unfold au
 simp only[aH,aq,if_true]
 exact⟨l,_,cL,(MapKept.heap_set h2).1,h0,rfl,rfl,h5,h6,h7,h8,fun i=>V.ax ht _ _ (h9 i)⟩
theorem dJ{l:Nat}{r:Loop}(o:Obj)(hb:w.heap[l]? =some (.loop r)):(setObj l o).run P w= .ok () {w with heap:=w.heap.setIfInBounds l o}:=by
 simp[setObj,Sem.run,hb]
theorem eE{l:Nat}{r:Loop}(hb:w.heap[l]? =some (.loop r)):(Instr.getLoop l).run P w= .ok r w:=by
 simp[Instr.getLoop,getObj,Sem.run,hb,Result.andThen]
end
def zj(Q:dM->S->Prop)(pd:Option kf)(s:S):Prop:=
 match pd with
 |none=>Q .normal s
 |some .ret=>Q .ret s
 |some (.exit id)=>Q (.exit id) s
def qq(P:Program)(n:Nat)(g:V)(ps:List Nat)(gU eY:IC)(Q:dM->S->Prop)(s:S):Prop:=
 ∃env,(∀i,gS env i= .bT\/gS env i=s.env i)/\
  match g with
  | .func (.func f) first cap=>jL P f (first++[.jl s.nx]++cap) (cn s.o s.nx (.loop P.funcs.size n env ps gU eY .ready none)) (s.nx+1)
    (fun _ o' nx'=>∃nf m e p c d st pd,o' s.nx= .loop nf m e p c d st pd/\st≠ .busy/\zj Q pd ⟨s.env,cn o' s.nx (.loop nf m e p c d .exhausted pd),nx'⟩)
    (fun v o' nx'=>Q (.aJ v) ⟨s.env,o',nx'⟩)
  |_=>False
def Dx(P:Program)(n b:Nat)(g:Operand)(ps:List Nat)(gU eY:IC)(Q:dM->S->Prop)(s:S):Prop:=∃s',(s'=s\/sE b s s')/\qq P n (s'.ev g) ps gU eY Q s'
def dN(P:Program)(n b:Nat)(rd:Bool):Code->(dM->S->Prop)->S->Prop
 | .skip,Q,s=>Q .normal s
 | .label _,Q,s=>Q .normal s
 | .scope x,Q,s=>dN P n b rd x Q s
 | .region _ ops false,Q,s=>nE P n ops (fun v s=>Q (.aJ v) s) (Q .normal) ops.toList s
 | .region id ops true,Q,s=>∀M aZ H0 w0 cx φ a w ro k,aQ M aZ H0 w0 n cx φ s a w->(Code.region id ops true).wpIn (bQ ro) k P (rn M aZ H0 w0 n cx Q) a w
 | .seq x y,Q,s=>dN P n b rd x (jX (dN P n b rd y Q) Q) s
 | .cond c x y,Q,s=>match s.ev c with
   | .d (.bool t)=>(t=true->dN P n b rd x Q s)/\(t=false->dN P n b rd y Q s)
   | .c7=>dN P n b rd x Q s/\dN P n b rd y Q s
   |_=>False
 | .block id x,Q,s=>dN P n b rd x (cV id Q) s
 | .loop x,Q,s=>∃ (J:Nat->S->Prop),(∃m s1,sE b s s1/\J m s1)/\∀m s0,J m s0->dN P n b rd x (fun e s=>match e with| .normal=>∃m' s1,m'<m/\sE b s s1/\J m' s1|e=>Q e s) s0
 | .exit id,Q,s=>Q (.exit id) s
 | .ret,Q,s=>Q .ret s
 | .rangeFunc g ps x y,Q,s=>rd=false/\Dx P n b g ps.toList (low n x) (low n y) Q s
 |_,_,_=>False
section
variable {P:Program}{M:Nat->Prop}{φ:Place}{H:Hp}{w w':World}{aZ:Place}{H0:Hp}{w0:World}{n b:Nat}{s:S}{a:Act}{cx:Cx}{ro:Option Nat}{k:Nat}
theorem qs(hb:∀id,H0.us id->id<b)(hs:aQ M aZ H0 w0 n cx φ s a w){s':S}(h:sE b s s'):∃ao,aQ M aZ H0 w0 n cx ao s' a w:=by
 obtain⟨ao,h1,h2,h3,h4,h5,h6⟩:=h M φ w (fun i=>a.tmps.getD i undef) hs.heap hs.env
 refine⟨ao,h1,⟨hs.tr.keep,fun k hk=>hs.tr.grow k (h3 k hk),⟨fun id hu=>Nat.lt_of_lt_of_le (hb id hu) h4,fun id hu hr=> ?_,fun id e' hu he=> ?_⟩⟩,hs.size, ?_,h2⟩
 ·obtain⟨g1,g2⟩:=h5 id (hb id hu) hr
  obtain⟨g3,g4⟩:=hs.tr.rel.row id hu g1
  exact⟨g3,g2.trans g4⟩
 ·obtain⟨e,g1,g2,g3⟩:=h6 id e' (hb id hu) he
  obtain⟨e0,k1,k2,k3⟩:=hs.tr.rel.ep id e hu g1
  refine⟨e0,k1,Nat.le_trans k2 g2,fun heq=> ?_⟩
  have a1:e0=e:=aN
  have a2:e=e':=aN
  exact(g3 a2).trans (k3 a1)
 ·obtain⟨ms,g1,g2,g3,g4⟩:=hs.defers
  exact⟨ms,g1,g2,g3,fun r hr=>⟨(g4 r hr).1,(g4 r hr).2.1,fun hl=>(g4 r hr).2.2 (h3 r hl)⟩⟩
theorem nJ{c:Code}{Q:Exit->Act->World->Prop}(J:Nat->Act->World->Prop)(round:∀m a w,J m a w->c.kx P ro (Exit.then (fun a' w'=>∃m',m'<m/\J m' a' w') Q) a w):
 ∀m a w,J m a w->(Code.loop c).kx P ro Q a w:=by
 intro m a w h0 fr kk cs kM hb
 have hr:(bQ ro).room (cs.length+1+0):=fun d hd=>by simp[bQ]at hd
 have key:∀m a w,J m a w->∃e a' w',Q e a' w'/\ArrivesIn (Machine.fenced P (bQ ro)) P (lone (fr.atR a (.code c:: .inLoop c::kk)) cs w) fr kk cs e a' w':=by
  intro m
  induction m using Nat.strongRecOn with
  |_ m ih=>
   intro a w hJ
   obtain⟨e,a1,w1,hq,bw⟩:=round m a w hJ fr (.inLoop c::kk) cs kM hb
   cases e with
   |normal=>
    obtain⟨m',cm,MT⟩:=hq
    obtain⟨e2,a2,w2,Bg,rq⟩:=ih m' cm a1 w1 MT
    exact⟨e2,a2,w2,Bg, .of_steps (StepsIn.trans bw (.one (fenced_calm trivial hr rfl) stepR_inLoop)) rq⟩
   |_=>exact⟨_,a1,w1,hq, .pass (x:= .inLoop c) rfl (fun _ _=> .inl aU) bw⟩
 obtain⟨e,a',w',hq,bw⟩:=key m a w h0
 exact⟨e,a',w',hq, .of_steps (.one (fenced_calm trivial hr rfl) stepR_loop) bw⟩
theorem mR(hs:aQ M aZ H0 w0 n cx φ s a w)(gQ:cx.rd=false)(kM:ro=none){g:Operand}{ps:Array Tmp}{x y:Code}{Q:dM->S->Prop}(h:qq P n (s.ev g) ps.toList (low n x) (low n y) Q s):
 (Code.rangeFunc g ps x y).kx P ro (rn M aZ H0 w0 n cx Q) a w:=by
 subst kM
 obtain⟨env,b5,h⟩:=h
 refine mj fun fn s7=> ?_
 let qt:Loop:={state:= .ready,pending:=none,fn:=fn,tmps:=a.tmps,params:=ps,assign:=x,body:=y,defers:=w.heap.size}
 let w1:World:=(w.alloc (.deferred (some []))).alloc (.loop qt)
 let l:Nat:=w.heap.size+1
 have fm:(Instr.enterLoop fn a.tmps ps x y (bQ none).round).run P w= .ok (l,[mark w.heap.size]) w1:=by
  simp[Instr.enterLoop,bQ,mark,w1,l,qt]
 have Lk:cc (fun _=>False) w w1:=by
  have k1:=aS w (.deferred (some []))
  have k2:=aS (w.alloc (.deferred (some []))) (.loop qt)
  exact⟨k2.os.trans k1.os,k2.tape.trans k1.tape,k2.output.trans k1.output,Nat.le_trans k1.size k2.size,fun j hj hm=>(k2.block j (Nat.lt_of_lt_of_le hj k1.size) hm).trans (k1.block j hj hm)⟩
 let dH:=cn φ s.nx (.pointer (some ⟨l,0,none⟩))
 let s1:S:=⟨s.env,cn s.o s.nx (.loop P.funcs.size n env ps.toList (low n x) (low n y) .ready none),s.nx+1⟩
 have cq: ¬s.H.us s.nx:=by simp[S.H]
 have dI:∀b,cM (.pointer (some ⟨l,0,none⟩))=some b->w.heap.size<=b/\b<w1.heap.size:=by
  intro b hb;simp[cM]at hb;subst hb;simp[l,w1]
 have p4:=bN (φ:=φ) (H:=s.H) Lk cq (.loop P.funcs.size n env ps.toList (low n x) (low n y) .ready none) (.pointer (some ⟨l,0,none⟩)) fun b hb=>(dI b hb).1
 have vZ:(w.alloc (.deferred (some []))).heap.size=w.heap.size+1:=aU
 have nw:w1.heap[l]? =some (.loop qt):=by
  have:=heap_alloc_new (w.alloc (.deferred (some []))) (.loop qt)
  rwa [vZ]at this
 have MU:=dC hs.heap Lk cq (.loop P.funcs.size n env ps.toList (low n x) (low n y) .ready none) (.pointer (some ⟨l,0,none⟩)) dI (by
  unfold au
  simp only[aH,aq,if_true]
  refine⟨l,qt,rfl,nw,s7,rfl,rfl,rfl,hs.size,rfl,rfl,fun i=> ?_⟩
  rcases b5 i with e|e
  ·rw[e];trivial
  ·rw[e];exact V.ax p4 _ _ (hs.env i))
 have mS:aQ M aZ H0 w0 n cx dH s1 {a with defers:=mark w.heap.size::a.defers} w1:=by
  have base:=ct hs MU p4 (o':=cn s.o s.nx (.loop P.funcs.size n env ps.toList (low n x) (low n y) .ready none)) (nx':=s.nx+1) rfl (tZ fun id aj=>by simp at aj;exact .inr aj)
  refine⟨base.heap,base.tr,base.size, ?_,base.env⟩
  obtain⟨ms,g1,g2,g3,g4⟩:=base.defers
  obtain⟨Ja,q1,q2,q3,q4⟩:=hs.defers
  have MV:ms.map mark=Ja.map mark:=by
   have:ms.map mark++cx.base=Ja.map mark++cx.base:=g1.symm.trans q1
   exact List.append_cancel_right this
  have Jb:ms=Ja:=by
   have hm:∀a b,mark a=mark b->a=b:=fun a b h=>by simpa[mark]using h
   exact List.map_inj_right hm |>.1 MV
  refine⟨w.heap.size::ms,by rw[g1];rfl,List.nodup_cons.2 ⟨fun hm=> ?_,g2⟩,(fun h=>by rw[gQ]at h;cases h),fun r hr=> ?_⟩
  ·have:=(q4 w.heap.size (Jb ▸ hm)).2.1
   rw[Array.getElem?_eq_none (Nat.le_refl _)]at this;cases this
  ·rcases List.mem_cons.1 hr with rfl|hr
   ·refine⟨hs.tr.keep.size,(RowKit.Below.heap_alloc (w.alloc (.deferred (some []))) (.loop qt) w.heap.size (by rw[vZ];omega)).trans (heap_alloc_new w _), ?_⟩
    rintro⟨id,i1,i2⟩
    by_cases e:id=s.nx
    ·subst e;simp[dH,cM,l]at i2
    ·have MW:(s.H.o id).live=true:=by simpa[s1,S.H,e]using i1
     have MX:cM (φ id)=some w.heap.size:=by simpa[dH,e]using i2
     have:=(hs.heap.ours _ ⟨id,MW,MX⟩).2
     omega
   ·exact g4 r hr
 have Jc:V.den (ae M dH s1.H) dH s1.H w1 (.jl s.nx) (.func (.yield l) #[] #[]):=
  ⟨rfl,by simp[s1,S.H],fun _=>⟨l,by simp[dH],rfl⟩⟩
 have hg:=fL (M:=M) (φ:=dH) (H:=s1.H) (w:=w1) s1 {a with defers:=mark w.heap.size::a.defers} mS.env g
 have Jd:s1.ev g=s.ev g:=by cases g<;>rfl
 rw[Jd]at hg
 have MY:({a with defers:=mark w.heap.size::a.defers}:Act).eval g=a.eval g:=rfl
 rw[MY]at hg
 split at h
 ·rename_i f first cap MZ
  rw[MZ]at hg
  obtain⟨fa,ca,zh,qY,Ht⟩:=hg
  have fin:∀ (all:List V) (o2:Nat->aa) (s2:S),s2=⟨s.env,o2,s.nx+1⟩->aQ M aZ H0 w0 n cx dH s2 {a with defers:=mark w.heap.size::a.defers} w1->V.ai (ae M dH s2.H) dH s2.H w1 all (fa++#[Value.func (.yield l) #[] #[]]++ca).toList->(o2 s.nx).aY=true->
   gI P f all o2 (s.nx+1) (fun _ o' nx'=>∃nf m e p c d st pd,o' s.nx= .loop nf m e p c d st pd/\st≠ .busy/\zj Q pd ⟨s.env,cn o' s.nx (.loop nf m e p c d .exhausted pd),nx'⟩) (fun v o' nx'=>Q (.aJ v) ⟨s.env,o',nx'⟩)->
   ∃ (l:Nat) (mark:List Deferred) (dV:World) (d:Deferred) (mP:World) (f:FuncId) (args:Array Value) (jD:World),
     (Instr.enterLoop fn a.tmps ps x y (bQ none).round).run P w= .ok (l,mark) dV/\(resolve a.eval (rangeCall g l) 0).run P dV= .ok d mP/\
     (invoke d.target d.args).run P mP= .ok (.enter f args) jD/\CallsIn (bQ none) 0 P f args jD (lq P l (rn M aZ H0 w0 n cx Q) {a with defers:=mark++a.defers}):=by
   intro all o2 s2 Je vu aV bZ hC
   subst Je
   have cC:=hC.2 M dH w1 _ vu.heap aV
   refine⟨l,[mark w.heap.size],w1,{target:= .fn (.func f) ca,args:=fa++#[Value.func (.yield l) #[] #[]]},w1,f,fa++#[Value.func (.yield l) #[] #[]]++ca,w1,fm, ?_, ?_,bn (cC.mono fun e w' ⟨ao,o',nx',v,k1,k2,k3⟩=> ?_)⟩
   ·simp only[resolve,zh,Deferred.ofValue,List.map_toArray,List.map_cons,List.map_nil,Sem.run_pure]
    rfl
   ·simp[invoke,eX hC.1]
   ·cases e with
    |returned val=>
     obtain⟨k4,nf,m,e,p,c,d,st,pd,k5,k6,k7⟩:=k3
     have rr:aQ M aZ H0 w0 n cx ao ⟨s.env,o',nx'⟩ {a with defers:=mark w.heap.size::a.defers} w':=ct vu k1 k2 rfl fun id hu=>hu
     have zk:ao s.nx= .pointer (some ⟨l,0,none⟩):=by
      have:=(k2.rel.row s.nx (show s.nx<s.nx+1 from aN) (by show(o' s.nx).aY=true;rw[k5];rfl)).2
      rw[this];simp[dH]
     have cm:s.nx<nx':=k2.rel.us s.nx (show s.nx<s.nx+1 from aN)
     obtain⟨r,r1,r2,r3,r4,r5⟩:=mQ (st':= .exhausted) (pd':=pd) k1 cm (show(hp o' nx').o s.nx=_ from k5) zk
     have lr:(Instr.endLoop l).run P w'= .ok (pd.map kf.code) {w' with heap:=w'.heap.setIfInBounds l (.loop {r with state:= .exhausted,pending:=pd.map kf.code})}:=by
      have e1:({r with state:= .exhausted}:Loop)={r with state:= .exhausted,pending:=pd.map kf.code}:=by rw[<- r3]
      have M0:(r.state==LoopState.busy)=false:=by rw[r2];cases st<;>first|rfl|exact absurd rfl k6
      simp only[Instr.endLoop,Sem.run_bind,eE r1,Result.andThen_ok,M0,Bool.false_eq_true,if_false,Sem.run_pure]
      rw[dJ _ r1,e1]
      simp[r3]
     have Bh:=ct rr r4 r5 (o':=cn o' s.nx (.loop nf m e p c d .exhausted pd)) (nx':=nx') rfl fun id hu=>by
      simp only[bW]at hu
      rcases hu with hu|hu
      ·exact hu
      ·subst hu;exact cm
     refine⟨pd.map kf.code,_,lr, ?_⟩
     cases pd with
     |none=>exact⟨.normal,_,_,k7,Bh,trivial⟩
     |some j=>
      cases j with
      |ret=>exact rp ⟨.ret,_,_,k7,Bh,trivial⟩
      |exit id=>exact ph ⟨.exit id,_,_,k7,Bh,rfl⟩
    |panicked ch=>
     obtain⟨val,rfl,k4,k5⟩:=k3
     have rr:aQ M aZ H0 w0 n cx ao ⟨s.env,o',nx'⟩ {a with defers:=mark w.heap.size::a.defers} w':=ct vu k1 k2 rfl fun id hu=>hu
     exact⟨.aJ v,_,_,k5,rr,val,rfl,k4⟩
    |outgrown=>exact k3.elim
  have fU:V.ai (ae M dH s1.H) dH s1.H w1 (first++[V.jl s.nx]++cap) (fa++#[Value.func (.yield l) #[] #[]]++ca).toList:=by
   rw[Array.toList_append,Array.toList_append]
   exact V.il qY ⟨_,[],rfl,Jc,rfl⟩ Ht
  rcases h with hC|hC
  ·exact fin _ _ s1 rfl mS fU (by simp;rfl) hC
  ·have kK:s1.o=cn s.o s.nx (.loop P.funcs.size n env ps.toList (low n x) (low n y) .ready none):=rfl
   obtain⟨f1,f2,f3,f4,f5⟩:=bK mS.heap (bq s1.o (first++[V.jl s.nx]++cap)) (da _ _ s1.o fU)
   have fi:s1.H.put (bH s1.H.o (bq s1.o (first++[V.jl s.nx]++cap)))=hp (put s1.o (bH s1.o (bq s1.o (first++[V.jl s.nx]++cap)))) s1.nx:=eW (by rw[kG];exact da _ _ s1.o fU)
   have xK:=uc f1 _ _ f3 (V.aw f2 _ _ fU)
   have xL:((s1.H.put (bH s1.H.o (bq s1.o (first++[V.jl s.nx]++cap)))).o s.nx).aY=true:=by
    by_cases hm:s.nx∈bq s1.o (first++[V.jl s.nx]++cap)
    ·rw[f3 _ hm];simp[s1,S.H,aa.fz,aa.aY]
    ·rw[f4 _ hm];simp[s1,S.H,aa.aY]
   rw[fi]at f1 f2 xK xL
   exact fin _ (put s1.o (bH s1.o (bq s1.o (first++[V.jl s.nx]++cap)))) ⟨s.env,_,s.nx+1⟩ rfl (ct mS f1 f2 rfl fun id hu=>hu) xK xL hC
 ·exact h.elim
end
end Go.Proofs.YtlhemmpklhhgoaaGreat
