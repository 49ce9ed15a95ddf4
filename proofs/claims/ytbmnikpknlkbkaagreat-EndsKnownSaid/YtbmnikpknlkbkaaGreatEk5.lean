/-
  A PART OF THE PROOF. Conditions: none.
-/
import Derived.OpenShut
import Derived.Carry
import Derived.Handed
import Derived.JoinedOf
import Derived.ProofKit
import Derived.RangeFuncLeaves
import Derived.TacticsIn
import Derived.RecoverIn
import Derived.Test.YtbmnikpknlkbkaaGreatEk4
set_option linter.unusedSimpArgs false
set_option linter.unusedVariables false
namespace Go.Proofs.YtbmnikpknlkbkaaGreat
inductive R where
 |ret (ds:List D)|aH (d:D)
def R.is (B:Nat->Prop)(w:World):R->Ending->Prop
 | .ret [x], .returned v=>D.den B w x v
 | .ret ds, .returned v=>∃a,v= .tuple a/\D.aj B w ds a.toList
 | .aH d, .panicked chain=>∃v,chain=[{v:=v,recovered:=false}]/\D.den B w d v
 |_,_=>False
def eP(P:Program)(f:FuncId):Prop:=∃fn,P.funcs[f]? =some fn/\(fn.name== "runtime.NumGoroutine")=false/\fn.body.isNone=false
def c0(P:Program)(f:FuncId)(ds:List D)(out:R):Prop:=
 eP P f/\∀ (M:Nat->Prop) (w:World) (vals:Array Value),(∀b,M b->b<w.heap.size)->D.aj M w ds vals.toList->
  Calls P f vals w fun e w'=>cp (fun _=>False) w w'/\out.is M w' e
def hp(o:Nat->aa)(nx:Nat):Hp:=⟨o,fun id=>id<nx⟩
def fZ(M:Nat->Prop)(φ:Place)(H:Hp)(w:World)(K X:V->(Nat->aa)->Nat->Prop)(e:Ending)(w':World):Prop:=
 ∃ai o' nx' v,af M ai (hp o' nx') w'/\Trans φ H w ai (hp o' nx') w'/\match e with
  | .returned val=>V.den (ad M ai (hp o' nx')) ai (hp o' nx') w' v val/\K v o' nx'
  | .panicked ch=>∃val,ch=[{v:=val,recovered:=false}]/\V.den (ad M ai (hp o' nx')) ai (hp o' nx') w' v val/\X v o' nx'
  | .outgrown=>False
def jJ(P:Program)(f:FuncId)(args:List V)(o:Nat->aa)(nx:Nat)(K X:V->(Nat->aa)->Nat->Prop):Prop:=
 eP P f/\∀ (M:Nat->Prop) (φ:Place) (w:World) (vals:Array Value),af M φ (hp o nx) w->V.aj (ad M φ (hp o nx)) φ (hp o nx) w args vals.toList->
  Calls P f vals w (fZ M φ (hp o nx) w K X)
def eo(P:Program)(id:Nat)(args:List V)(o:Nat->aa)(nx:Nat)(K X:V->(Nat->aa)->Nat->Prop):Prop:=
 (o id).aM=true/\∀ (M:Nat->Prop) (φ:Place) (w:World) (vals:Array Value) (b:Nat),af M φ (hp o nx) w->V.aj (ad M φ (hp o nx)) φ (hp o nx) w args vals.toList->φ id= .pointer (some ⟨b,0,none⟩)->
  ∃f tmps assign body,(Instr.yield b vals).run P w= .ok (.round b f tmps assign body) w/\∀n,RoundIn Fence.wide n P b f tmps assign body w (fZ M φ (hp o nx) w K X)
theorem fZ.mono {M:Nat->Prop}{φ:Place}{H:Hp}{w:World}{K X K' X':V->(Nat->aa)->Nat->Prop}(hK:∀v o n,K v o n->K' v o n)(hX:∀v o n,X v o n->X' v o n){e:Ending}{w':World}(h:fZ M φ H w K X e w'):fZ M φ H w K' X' e w':=by
 obtain⟨ai,o',nx',v,h1,h2,h3⟩:=h
 refine⟨ai,o',nx',v,h1,h2, ?_⟩
 cases e with
 |returned val=>exact⟨h3.1,hK _ _ _ h3.2⟩
 |panicked ch=>obtain⟨val,a,b,c⟩:=h3;exact⟨val,a,b,hX _ _ _ c⟩
 |outgrown=>exact h3
theorem jJ.mono {P:Program}{f:FuncId}{args:List V}{o:Nat->aa}{nx:Nat}{K X K' X':V->(Nat->aa)->Nat->Prop}(hK:∀v o n,K v o n->K' v o n)(hX:∀v o n,X v o n->X' v o n)(h:jJ P f args o nx K X):jJ P f args o nx K' X':=
 ⟨h.1,fun M φ w vals h1 h2=>(h.2 M φ w vals h1 h2).mono fun _ _ h=>h.mono hK hX⟩
theorem eo.mono {P:Program}{id:Nat}{args:List V}{o:Nat->aa}{nx:Nat}{K X K' X':V->(Nat->aa)->Nat->Prop}(hK:∀v o n,K v o n->K' v o n)(hX:∀v o n,X v o n->X' v o n)(h:eo P id args o nx K X):eo P id args o nx K' X':=
 ⟨h.1,fun M φ w vals b h1 h2 h3=>let⟨f,t,a,c,h4,h5⟩:=h.2 M φ w vals b h1 h2 h3;⟨f,t,a,c,h4,fun n=>(h5 n).mono fun _ _ h=>h.mono hK hX⟩⟩
mutual
def D.flat:D->Bool
 | .sl _| .mp _ _=>false
 | .agg cs=>D.fb cs
 | .iface _ x=>x.flat
 |_=>true
def D.fb:List D->Bool
 |[]=>true
 |x::xs=>x.flat&&D.fb xs
end
mutual
theorem D.jb {B B':Nat->Prop}{w w':World}:∀ (x:D) (v:Value),x.flat=true->D.den B w x v->D.den B' w' x v
 | .int _ _,_,_,h| .bool _,_,_,h| .str _,_,_,h| .dx,_,_,h| .fO,_,_,h| .fl,_,_,h| .eB,_,_,h=>h
 | .agg cs,_,hf,h=>by obtain⟨a,rfl,h,h2⟩:=h;exact⟨a,rfl,D.fA cs _ hf h,h2⟩
 | .sl es,_,hf,h=>by simp[D.flat]at hf
 | .mp _ _,_,hf,h=>by simp[D.flat]at hf
 | .iface t x,_,hf,h=>by obtain⟨u,rfl,h⟩:=h;exact⟨u,rfl,D.jb x u hf h⟩
theorem D.fA {B B':Nat->Prop}{w w':World}:∀ (xs:List D) (vs:List Value),D.fb xs=true->D.aj B w xs vs->D.aj B' w' xs vs
 |[],_,_,h=>h
 |x::xs,_,hf,h=>by
  obtain⟨u,us,rfl,h1,h2⟩:=h
  simp only[D.fb,Bool.and_eq_true]at hf
  exact⟨u,us,rfl,D.jb x u hf.1 h1,D.fA xs us hf.2 h2⟩
end
mutual
def D.ga:D->Bool
 | .mp _ _=>false
 | .agg cs=>D.fB cs
 | .sl es=>D.fB es
 | .iface _ x=>x.ga
 |_=>true
def D.fB:List D->Bool
 |[]=>true
 |x::xs=>x.ga&&D.fB xs
end
theorem dk.oE {B B':Nat->Prop}{w w':World}{a:Addr}{cs:Array Value}
 (hb:∀b,iC w b-> ¬B b->w'.heap[b]? =w.heap[b]? /\ ¬B' b) (h:dk B w a cs):dk B' w' a cs:=by
 intro j u hj
 obtain⟨h1,h2⟩:=h j u hj
 have cu:iC w a.block:=by simpa using gV h1
 obtain⟨h3,h4⟩:=hb _ cu h2
 exact⟨by rw[World.cell?_of_block (w:=w) (w':=w') (a:=a.add j) (by simpa using h3)];exact h1,h4⟩
mutual
theorem D.fe {B B':Nat->Prop}{w w':World}(hb:∀b,iC w b-> ¬B b->w'.heap[b]? =w.heap[b]? /\ ¬B' b):
 ∀ (x:D) (v:Value),x.ga=true->D.den B w x v->D.den B' w' x v
 | .int _ _,_,_,h| .bool _,_,_,h| .str _,_,_,h| .dx,_,_,h| .fO,_,_,h| .fl,_,_,h| .eB,_,_,h=>by simpa[D.den]using h
 | .agg cs,_,hn,h=>by
   obtain⟨a,rfl,h,hf⟩:=h
   exact⟨a,rfl,D.gb hb cs _ hn h,hf⟩
 | .sl es,_,hn,h=>by
   obtain⟨base,len,cap,rfl,h1,h2,h3,sz,h4⟩:=h
   exact⟨base,len,cap,rfl,h1,h2,h3,sz,fun a ha=>⟨(h4 a ha).1,D.jc hb sz a es 0 hn (h4 a ha).2⟩⟩
 | .iface t d,_,hn,h=>by
   obtain⟨u,rfl,h⟩:=h
   exact⟨u,rfl,D.fe hb d u hn h⟩
 | .mp _ _,_,hn,_=>by simp[D.ga]at hn
theorem D.gb {B B':Nat->Prop}{w w':World}(hb:∀b,iC w b-> ¬B b->w'.heap[b]? =w.heap[b]? /\ ¬B' b):
 ∀ (ds:List D) (vs:List Value),D.fB ds=true->D.aj B w ds vs->D.aj B' w' ds vs
 |[],_,_,h=>h
 |d::ds,_,hn,h=>by
  obtain⟨u,us,rfl,h1,h2⟩:=h
  simp only[D.fB,Bool.and_eq_true]at hn
  exact⟨u,us,rfl,D.fe hb d u hn.1 h1,D.gb hb ds us hn.2 h2⟩
theorem D.jc {B B':Nat->Prop}{w w':World}(hb:∀b,iC w b-> ¬B b->w'.heap[b]? =w.heap[b]? /\ ¬B' b)(sz:Nat)(a:Addr):
 ∀ (es:List D) (i:Nat),D.fB es=true->D.elems B w sz a i es->D.elems B' w' sz a i es
 |[],_,_,_=>trivial
 |e::es,i,hn,h=>by
  obtain⟨⟨ev,h1,h2,h3⟩,h4⟩:=h
  simp only[D.fB,Bool.and_eq_true]at hn
  exact⟨⟨ev,h1,h2.oE hb,D.fe hb e ev hn.1 h3⟩,D.jc hb sz a es (i+1) hn.2 h4⟩
end
def R.ga:R->Bool
 | .ret ds=>D.fB ds
 | .aH d=>d.ga
def R.flat:R->Bool
 | .ret ds=>D.fb ds
 | .aH d=>d.flat
def fP:List D->V
 |[x]=> .d x
 |ds=> .a8 (ds.map .d)
inductive et where
 |normal|exit (id:Nat)|ret|aH (v:V)
def ay(env:Nat->V)(dst:Option Tmp)(v:V):Nat->V:=
 match dst with
 |some d=>cN env d v
 |none=>env
def tG(o:Nat->aa)(v:V):V:=match cJ o v with|some x=> .d x|none=>v
def bp(o:Nat->aa):List V->List Nat
 |[]=>[]
 |v::vs=>(match cJ o v with|some _=>v.ids|none=>[])++bp o vs
def jd(P:Program)(g:FuncId)(args:List V)(o:Nat->aa)(nx:Nat)(K X:V->(Nat->aa)->Nat->Prop):Prop:=
 jJ P g args o nx K X\/jJ P g (args.map (tG o)) (put o (bD o (bp o args))) nx K X
def lz(P:Program)(s:S)(g:FuncId)(all:List V)(K:V->(Nat->aa)->Nat->Prop)(X:V->(Nat->aa)->Nat->Prop):Prop:=
    (∃ds out,aQ s.o all=some ds/\c0 P g ds out/\(match out with
     | .ret rs=>K (fP rs) (put s.o (bD s.o (V.aB all))) (s.nx+1)
     | .aH x=>X (.d x) (put s.o (bD s.o (V.aB all))) (s.nx+1)))\/
    (∃ds out,aQ s.o all=some ds/\c0 P g ds out/\out.flat=true/\(match out with
     | .ret rs=>K (fP rs) s.o (s.nx+1)
     | .aH x=>X (.d x) s.o (s.nx+1)))\/
    (∃ds out,aQ s.o all=some ds/\c0 P g ds out/\out.ga=true/\(match out with
     | .ret rs=>K (fP rs) (put s.o (kq s.o (V.aB all))) (s.nx+1)
     | .aH x=>X (.d x) (put s.o (kq s.o (V.aB all))) (s.nx+1)))\/
    jd P g all s.o s.nx K X
def oZ(P:Program)(s:S)(f:V)(args:List V)(K:V->(Nat->aa)->Nat->Prop)(X:V->(Nat->aa)->Nat->Prop):Prop:=
 match f with
 | .func (.func g) first cap=>lz P s g (first++args++cap) K X
 | .g8 id=>eo P id args s.o s.nx K X
 |_=>False
def xf(P:Program)(t:TypeId):Bool:=
 match P.underlying t with
 |some (.pointer _)=>false
 |some _=>true
 |none=>false
def lA(P:Program)(m:String)(x:V):Option (FuncId×V):=
 match x with
 | .d (.iface t y)=>match P.info? t with
   |some ti=>match ti.methods.find? (·.name==m)with
    |some r=>match r.func with
     |some (f,false)=>if r.path.isEmpty=true/\xf P t=true then some (f, .d y)else none
     |_=>none
    |none=>none
   |none=>none
 |_=>none
def dq(n:Nat):Option Tmp->Prop
 |some d=>d<n
 |none=>True
def EG(P:Program)(n:Nat)(s:S)(o:Oper)(X:V->S->Prop)(K:S->Prop):Prop:=
 dq n o.dst/\match o.op with
 | .call c=>match c.callee with
   | .value f=>oZ P s (s.ev f) (c.args.toList.map s.ev) (fun v o' nx'=>K ⟨ay s.env o.dst v,o',nx'⟩) (fun v o' nx'=>X v ⟨s.env,o',nx'⟩)
   | .invoke r m=>match lA P m (s.ev r)with
     |some (g,y)=>lz P s g (y::c.args.toList.map s.ev) (fun v o' nx'=>K ⟨ay s.env o.dst v,o',nx'⟩) (fun v o' nx'=>X v ⟨s.env,o',nx'⟩)
     |none=>False
   |_=>wX P s s.nx o.op fun v Δ _=>K ⟨ay s.env o.dst v,put s.o Δ,s.nx+1⟩
 | .panic x=>match s.ev x with
   | .d (.iface t y)=>X (.d (.iface t y)) s
   | .iface t y=>X (.iface t y) s
   |_=>False
 |op=>wX P s s.nx op fun v Δ _=>K ⟨ay s.env o.dst v,put s.o Δ,s.nx+1⟩
def nG(s:S)(ops:Array Oper)(g:Option (Nat×Bool))(A B:Prop):Prop:=
 match g with
 |none=>A
 |some (j,want)=>match jS ops j with
  |some d=>match s.env d with
   | .d (.bool b)=>(b=want->A)/\(b≠want->B)
   | .a8 []=>B
   |_=>False
  |none=>B
def nH(P:Program)(n:Nat)(ops:Array Oper)(X:V->S->Prop)(K:S->Prop):List Oper->S->Prop
 |[],s=>K s
 |o::l,s=>nG s ops o.guard (EG P n s o X (nH P n ops X K l)) (dq n o.dst/\nH P n ops X K l ⟨ay s.env o.dst (.a8 []),s.o,s.nx+1⟩)
def p4(b:Nat)(s s':S):Prop:=
 ∀ (M:Nat->Prop) (φ:Place) (w:World) (tm:Nat->Value),af M φ s.H w->(∀i,V.den (ad M φ s.H) φ s.H w (s.env i) (tm i))->
   ∃ai,af M ai s'.H w/\(∀i,V.den (ad M ai s'.H) ai s'.H w (s'.env i) (tm i))/\(∀k,bc ai s'.H k->bc φ s.H k)/\b<=s'.nx/\
    (∀id,id<b->(s'.o id).aM=true->(s.o id).aM=true/\ai id=φ id)/\
    (∀id e',id<b->(s'.o id).aN=some e'->∃e,(s.o id).aN=some e/\e<=e'/\(e=e'->ai id=φ id))
def j7(K:S->Prop)(Q:et->S->Prop)(e:et)(s:S):Prop:=match e with| .normal=>K s|e=>Q e s
def cV(id:Nat)(Q:et->S->Prop)(e:et)(s:S):Prop:=match e with| .exit j=>if j=id then Q .normal s else Q (.exit j) s|e=>Q e s
def fC(P:Program)(s:S):List ResultVar->Option (List V)
 |[]=>some []
 | .tmp t::rs=>(fC P s rs).map (s.env t::·)
 | .cell a t::rs=>match s.env a with
   | .ptr id off=>match s.o id with
     | .row cs=>(cw P t cs off).bind fun v=>(fC P s rs).map (v::·)
     |_=>none
   |_=>none
def bq(vs:List V):Nat->V:=fun i=>vs.getD i (.a8 [])
def sr(P:Program)(rs:List ResultVar)(out:R)(e:et)(s:S):Prop:=
 match e with
 | .normal| .ret=>match fC P s rs with
   |some vs=>match aQ s.o vs with
    |some ds=>out= .ret ds
    |none=>False
   |none=>False
 | .aH v=>match cJ s.o v with
   |some x=>out= .aH x
   |none=>False
 | .exit _=>False
theorem tH{P:Program}{rs:List ResultVar}{out:R}{s:S}(h:match fC P s rs with
 |some vs=>match aQ s.o vs with
  |some ds=>out= .ret ds
  |none=>False
 |none=>False):∃vs ds,fC P s rs=some vs/\aQ s.o vs=some ds/\out= .ret ds:=by
 split at h
 ·rename_i vs h1
  split at h
  ·rename_i xs h2;exact⟨vs,xs,h1,h2,h⟩
  ·exact h.elim
 ·exact h.elim
theorem tI{out:R}{s:S}{v:V}(h:match cJ s.o v with
 |some x=>out= .aH x
 |none=>False):∃x,cJ s.o v=some x/\out= .aH x:=by
 split at h
 ·rename_i x h1;exact⟨x,h1,h⟩
 ·exact h.elim
end Go.Proofs.YtbmnikpknlkbkaaGreat
section
namespace Go.Proofs.YtbmnikpknlkbkaaGreat
open Go.ChangeShapes Go.WideShapes Go.RowKit
def lB(P:Program)(rec:TypeId->Option (List TypeId)):Nat->List Field->Option (List TypeId)
 |_,[]=>some []
 |off,f::fs=>if f.offset=off then match rec f.type with
  |some l=>if P.cellsOf f.type=l.length then(lB P rec (off+l.length) fs).map (l++·)else none
  |none=>none else none
def gf(P:Program):Nat->TypeId->Option (List TypeId)
 |0,_=>none
 |n+1,t=>match P.underlying t with
  |some .bool|some (.int _)|some .string|some (.slice _)=>some [t]
  |some (.struct fs)=>lB P (gf P n) 0 fs.toList
  |some (.array k e)=>match gf P n e with
   |some l=>if P.cellsOf e=l.length then some (List.replicate k l).flatten else none
   |none=>none
  |_=>none
def isAgg(P:Program)(t:TypeId):Bool:=match P.underlying t with
 |some (.struct _)|some (.array _ _)=>true
 |_=>false
mutual
def D.tJ (P:Program):D->TypeId->Prop
 | .int k n,t=>P.underlying t=some (.int k)/\(Lit.int k n).wf=true
 | .bool _,t=>P.underlying t=some .bool
 | .str l,t=>P.underlying t=some .string/\l.length<=maxLen
 | .sl es,t=>∃e,P.underlying t=some (.slice e)/\es.length<=maxLen/\D.yk P es e
 | .agg cs,t=>isAgg P t=true/\∃ls,gf P 20 t=some ls/\D.fM P cs ls
 |_,_=>False
def D.yk (P:Program):List D->TypeId->Prop
 |[],_=>True
 |x::l,e=>D.tJ P x e/\D.yk P l e
def D.fM (P:Program):List D->List TypeId->Prop
 |[],ts=>ts=[]
 |x::l,ts=>∃t r,ts=t::r/\D.tJ P x t/\D.fM P l r
end
def kQ(P:Program)(T:List TypeId):Bool:=T.all fun t=>match gf P 20 t with
 |some l=>decide (l.length=P.cellsOf t)&&decide (0<l.length)&&l.all fun u=>match P.underlying u with
  |some (.slice e)=>T.contains e
  |_=>true
 |none=>false
theorem je{P:Program}:∀ {xs ys:List D} {l r:List TypeId},D.fM P xs l->D.fM P ys r->D.fM P (xs++ys) (l++r)
 |[],_,_,_,h,h'=>by simp only[D.fM]at h;subst h;exact h'
 |x::xs,_,_,_,h,h'=>by
  obtain⟨t,r,rfl,h1,h2⟩:=h
  exact⟨t,_,rfl,h1,je h2 h'⟩
theorem aA{B:Nat->Prop}{w:World}:∀ {xs ys:List D} {l r:List Value},D.aj B w xs l->D.aj B w ys r->D.aj B w (xs++ys) (l++r)
 |[],_,_,_,h,h'=>by simp only[D.aj]at h;subst h;exact h'
 |x::xs,_,_,_,h,h'=>by
  obtain⟨t,r,rfl,h1,h2⟩:=h
  exact⟨t,_,rfl,h1,aA h2 h'⟩
theorem Flat.append {l r:List Value}(h:Flat l)(h':Flat r):Flat (l++r):=fun u hu=>(List.mem_append.1 hu).elim (h u) (h' u)
abbrev yl:Nat->Prop:=fun _=>False
section
variable {H:Type}{enc:TypeId×Value->H}{P:Program}{W:World}{T:List TypeId}{b0:Nat}
def bC(P:Program)(W:World)(l:List TypeId)(cs:List Value):Prop:=∃xs,D.fM P xs l/\D.aj yl W xs cs/\Flat cs
theorem bC.append {l r:List TypeId}{cs ds:List Value}(h:bC P W l cs)(h':bC P W r ds):bC P W (l++r) (cs++ds):=by
 obtain⟨xs,a1,a2,a3⟩:=h
 obtain⟨ys,b1,b2,b3⟩:=h'
 exact⟨xs++ys,je a1 b1,aA a2 b2,a3.append b3⟩
theorem bC.length {l:List TypeId}{cs:List Value}(h:bC P W l cs):cs.length=l.length:=by
 obtain⟨xs,a1,a2,_⟩:=h
 rw[D.ag _ _ a2]
 clear a2
 induction xs generalizing l with
 |nil=>simp only[D.fM]at a1;simp[a1]
 |cons x xs ih=>obtain⟨t,r,rfl,_,h⟩:=a1;simp[ih h]
theorem bC.nil:bC P W [] []:=⟨[],rfl,rfl,fun _ h=>by cases h⟩
theorem o3{α:Type}(cs:List α)(o k:Nat):cs.drop o=(cs.drop o).take k++cs.drop (o+k):=by
 rw[<- List.drop_drop];exact(List.take_append_drop k _).symm
theorem jf{rec:TypeId->Option (List TypeId)}{cs:List Value}{rd:TypeId->List Value->Prop}
 (aF:∀t l vs,rec t=some l->(∀u∈l,∀e,P.underlying u=some (.slice e)->e∈T)->P.cellsOf t=l.length->rd t vs->bC P W l vs):
 ∀ (fs:List Field) (off:Nat) (l:List TypeId),lB P rec off fs=some l->(∀u∈l,∀e,P.underlying u=some (.slice e)->e∈T)->(∀f∈fs,rd f.type ((cs.drop f.offset).take (P.cellsOf f.type)))->
   off+l.length=cs.length->bC P W l (cs.drop off)
 |[],off,l,h,_,_,hl=>by
  simp only[lB,Option.some.injEq]at h
  subst h
  have:cs.drop off=[]:=List.drop_eq_nil_of_le (by simp at hl;omega)
  rw[this];exact bC.nil
 |f::fs,off,l,h,hT,hr,hl=>by
  simp only[lB]at h
  split at h
  ·rename_i ho
   split at h
   ·rename_i l1 h1
    split at h
    ·rename_i hc
     simp only[Option.map_eq_some_iff]at h
     obtain⟨r,h2,rfl⟩:=h
     have hd:=hr f (by simp)
     rw[ho,hc]at hd
     rw[o3 cs off l1.length]
     simp only[List.length_append]at hl
     exact(aF f.type l1 _ h1 (fun u hu=>hT u (by simp[hu])) hc hd).append (jf aF fs _ r h2 (fun u hu=>hT u (by simp[hu])) (fun f hf=>hr f (by simp[hf])) (by omega))
    ·cases h
   ·cases h
  ·cases h
theorem j8{l:List TypeId}{cs:List Value}:∀ (k i:Nat),(∀j,j<k->bC P W l ((cs.drop ((i+j)*l.length)).take l.length))->(i+k)*l.length=cs.length->bC P W (List.replicate k l).flatten (cs.drop (i*l.length))
 |0,i,_,hl=>by
  have:cs.drop (i*l.length)=[]:=List.drop_eq_nil_of_le (by simp at hl;omega)
  rw[this];exact bC.nil
 |k+1,i,h,hl=>by
  rw[List.replicate_succ,List.flatten_cons,o3 cs (i*l.length) l.length]
  refine(by simpa using h 0 (by omega):bC P W l _).append ?_
  rw[show i*l.length+l.length=(i+1)*l.length by rw[Nat.add_mul];omega]
  refine j8 k (i+1) (fun j hj=> ?_) (by rw[<- hl];congr 1;omega)
  have:=h (j+1) (by omega)
  rwa [show i+(j+1)=i+1+j by omega]at this
theorem o4{e:TypeId}{l:List TypeId}{cs:List Value}(hl:gf P 20 e=some l)(h:bC P W l cs):∃ (ev:Value) (x:D),ev.cells.toList=cs/\D.tJ P x e/\D.den yl W x ev/\(isAgg P e=true->ev= .agg cs.toArray)/\(isAgg P e=false->cs=[ev]/\ev.oneCell'=true):=by
 obtain⟨xs,h1,h2,h3⟩:=h
 cases ha:isAgg P e with
 |true=>exact⟨.agg cs.toArray, .agg xs,by simp[Value.cells],⟨ha,l,hl,h1⟩,⟨_,rfl,by simpa using h2,by simpa using h3⟩,fun _=>rfl,(fun h=>by cases h)⟩
 |false=>
  have:l=[e]:=by
   unfold gf at hl
   unfold isAgg at ha
   split at hl<;>simp_all
  subst this
  obtain⟨t,r,e1,h4,h5⟩:∃x r,xs=x::r/\D.tJ P x e/\D.fM P r []:=by
   cases xs with
   |nil=>simp[D.fM]at h1
   |cons x r=>obtain⟨t,r',e1,h4,h5⟩:=h1;injection e1 with e1 e2;subst e1;subst e2;exact⟨x,r,rfl,h4,h5⟩
  subst e1
  have:r=[]:=by cases r with
   |nil=>rfl
   |cons y r=>obtain⟨_,_,e,_⟩:=h5;cases e
  subst this
  obtain⟨u,us,rfl,h6,h7⟩:=h2
  simp only[D.aj]at h7
  subst h7
  have ho:=h3 u (by simp)
  refine⟨u,t, ?_,h4,h6,(fun h=>by cases h),fun _=>⟨rfl,ho⟩⟩
  cases u<;>simp_all[Value.oneCell',Value.cells]
theorem o6(hp:kQ P T=true){t:TypeId}(ht:t∈T):∃l,gf P 20 t=some l/\l.length=P.cellsOf t/\0<l.length/\∀u∈l,∀e,P.underlying u=some (.slice e)->e∈T:=by
 have:=List.all_eq_true.1 hp t ht
 split at this
 ·rename_i l hl
  simp only[Bool.and_eq_true,decide_eq_true_eq,List.all_eq_true]at this
  refine⟨l,hl,this.1.1,this.1.2,fun u hu e he=> ?_⟩
  have:=this.2 u hu
  rw[he]at this
  simpa using this
 ·cases this
theorem qo(hp:kQ P T=true):∀ (n m:Nat) (t:TypeId) (l:List TypeId) (cs:List Value) (x:DataW H×List MemPlace),gf P m t=some l->(∀u∈l,∀e,P.underlying u=some (.slice e)->e∈T)->
 P.cellsOf t=l.length->DataW.trod enc P W 0 (fun _=>true) true n t cs=some x->bC P W l cs:=by
 intro n
 induction n with
 |zero=>intro m t l cs x _ _ _ h;simp[DataW.trod]at h
 |succ n ih=>
  intro m t l cs x hl hT hc h
  cases m with
  |zero=>simp[gf]at hl
  |succ m=>
  unfold gf at hl
  split at hl
  ·rename_i hu
   injection hl with hl;subst hl
   obtain⟨b,rfl,_⟩:=DataW.trod_bool hu h
   exact⟨[.bool b],⟨t,[],rfl,hu,rfl⟩,⟨_,_,rfl,rfl,rfl⟩,by simp[Flat,Value.oneCell']⟩
  ·rename_i k hu
   injection hl with hl;subst hl
   obtain⟨b,rfl,_,hw⟩:=DataW.trod_int hu h
   exact⟨[.int k b],⟨t,[],rfl,⟨hu,hw⟩,rfl⟩,⟨_,_,rfl,rfl,rfl⟩,by simp[Flat,Value.oneCell']⟩
  ·rename_i hu
   injection hl with hl;subst hl
   obtain⟨s,rfl,_,hw⟩:=DataW.trod_string hu h
   exact⟨[.str s.data.toList],⟨t,[],rfl,⟨hu,by simpa using hw⟩,rfl⟩,⟨_,_,rfl,⟨s,rfl,rfl⟩,rfl⟩,by simp[Flat,Value.oneCell']⟩
  ·rename_i e hu
   injection hl with hl;subst hl
   rcases DataW.trod_slice hu h with⟨rfl,_⟩|⟨a,len,cap,elems,rest,n',hn,rfl,_,_,h2,h3,h4,h5,h6,_⟩
   ·exact⟨[.sl []],⟨t,[],rfl,⟨e,hu,by simp,trivial⟩,rfl⟩,⟨_,_,rfl,⟨none,0,0,rfl,rfl,by simp,fun _=>rfl,0,(fun a ha=>by cases ha)⟩,rfl⟩,by simp[Flat,Value.oneCell']⟩
   ·injection hn with hn;subst hn
    obtain⟨l',g1,g2,g3,g4⟩:=o6 hp (hT t (by simp) e hu)
    have J5:∀i,i<len->∃ev:Value,∃y:D,ev.cells.size=P.cellsOf e/\dk yl W (a.add (i*P.cellsOf e)) ev.cells/\D.den yl W y ev/\D.tJ P y e:=by
     intro i hi
     have:=h5 i hi
     rw[List.getElem?_eq_getElem (by omega)]at this
     obtain⟨ci,k1,k2⟩:=Option.bind_eq_some_iff.1 this
     obtain⟨_,k3,k4⟩:=World.cells?_some k1
     have k5:=ih 20 e l' ci _ g1 g4 g2.symm k2
     obtain⟨ev,y,q1,q2,q3,_,_⟩:=o4 g1 k5
     have q4:ev.cells=ci.toArray:=by rw[<- q1]
     refine⟨ev,y,by rw[q4];simp[k5.length,g2],fun j u hj=>⟨?_,fun h=>h⟩,q3,q2⟩
     rw[q4]at hj
     have sW:ci[j]? =some u:=by simpa using hj
     have cu:j<P.cellsOf e:=by rw[<- g2, <- k5.length];exact(List.getElem?_eq_some_iff.1 sW).1
     rw[k4 j cu];exact sW
    have list:∀k i,i+k=len->∃es,es.length=k/\D.yk P es e/\D.elems yl W (P.cellsOf e) a i es:=by
     intro k
     induction k with
     |zero=>intro i _;exact⟨[],rfl,trivial,trivial⟩
     |succ k J6=>
      intro i hi
      obtain⟨es,e1,e2,e3⟩:=J6 (i+1) (by omega)
      obtain⟨ev,y,y1,y2,y3,y4⟩:=J5 i (by omega)
      exact⟨y::es,by simp[e1],⟨y4,e2⟩,⟨ev,y1,y2,y3⟩,e3⟩
    obtain⟨es,e1,e2,e3⟩:=list len 0 (by omega)
    have Bm:cap≠0->a.spot=none:=by
     intro Eo
     have xg:∀z,(W.cells? 0 (a.add (0*P.cellsOf e)) (P.cellsOf e)).bind (DataW.trod enc P W 0 (fun _=>true) true n e)=some z->a.spot=none:=by
      intro z hz
      obtain⟨ci,k1,k2⟩:=Option.bind_eq_some_iff.1 hz
      obtain⟨_,k3,k4⟩:=World.cells?_some k1
      have k5:=k4 0 (by omega)
      rw[List.getElem?_eq_getElem (by omega)]at k5
      simpa[Addr.add]using World.cell?_spot k5
     by_cases hlen:0<len
     ·have:=h5 0 hlen
      rw[List.getElem?_eq_getElem (by omega)]at this
      exact xg _ this
     ·obtain⟨h7,h8⟩:=h6 rfl
      have:=h8 0 (by omega)
      rw[List.getElem?_eq_getElem (by omega),show(len+0)=0 by omega]at this
      exact xg _ this
    exact⟨[.sl es],⟨t,[],rfl,⟨e,hu,by omega,e2⟩,rfl⟩,⟨_,_,rfl,⟨some a,len,cap,rfl,e1.symm,h2,(fun h=>by cases h),P.cellsOf e,(fun a' EH=>by injection EH with EH;subst EH;exact⟨Bm,e3⟩)⟩,rfl⟩,by simp[Flat,Value.oneCell']⟩
  ·rename_i fs hu
   obtain⟨xs,n',hn,_,h2,h3,h4⟩:=DataW.trod_struct hu h
   injection hn with hn;subst hn
   have:=jf (P:=P) (W:=W) (T:=T) (cs:=cs) (rd:=fun t vs=>∃y,DataW.trod enc P W 0 (fun _=>true) true n t vs=some y) (rec:=gf P m) (fun t l vs q1 q2 q3 ⟨y,q4⟩=>ih m t l vs y q1 q2 q3 q4) fs.toList 0 l hl hT ?_ (by omega)
   ·simpa using this
   ·intro f hf
    obtain⟨i,hi,J7⟩:=List.getElem_of_mem hf
    have:=h4 i f (by simp at hi;simp[<- J7,Array.getElem?_eq_getElem hi])
    rw[List.getElem?_eq_getElem (by simp at hi;omega)]at this
    exact⟨_,this⟩
  ·rename_i k e hu
   split at hl
   ·rename_i l' Bd
    split at hl
    ·rename_i Hy
     injection hl with hl;subst hl
     obtain⟨xs,n',hn,_,h2,h3,h4⟩:=DataW.trod_array hu h
     injection hn with hn;subst hn
     have hlen:cs.length=k*l'.length:=by rw[h2,hc];simp
     have J8:0<k->∀u∈l',∀e,P.underlying u=some (.slice e)->e∈T:=fun hk u hu=>hT u (List.mem_flatten.2 ⟨l',List.mem_replicate.2 ⟨by omega,rfl⟩,hu⟩)
     have:=j8 (P:=P) (W:=W) (l:=l') (cs:=cs) k 0 (fun j hj=> ?_) (by rw[hlen];simp)
     ·simpa using this
     ·have:=h4 j hj
      rw[Hy,List.getElem?_eq_getElem (by omega)]at this
      rw[Nat.zero_add]
      exact ih m e l' _ _ Bd (J8 (by omega)) Hy this
    ·cases hl
   ·cases hl
  ·cases hl
theorem mS(hp:kQ P T=true):∀ (ts:List TypeId) (vs:List Value) (ds:List (DataW H)) (p:List MemPlace),(∀t∈ts,t∈T)->DataW.TrodAll enc P W 0 (fun _=>true) true ts vs ds p->
 (∀ (j:Nat) t v,ts[j]? =some t->vs[j]? =some v->Value.okWide P W .any b0 t v)->∃xs,D.fM P xs ts/\D.aj yl W xs vs
 |[],vs,ds,p,_,h,_=>by
  obtain⟨rfl,rfl,rfl⟩:=trodAll_nil h
  exact⟨[],rfl,rfl⟩
 |t::ts,vs,ds,p,hT,h,hv=>by
  obtain⟨v,Dy,d,Bn,p1,q1,rfl,rfl,rfl,⟨n,h1⟩,h2⟩:=trodAll_cons h
  obtain⟨xs,a1,a2⟩:=mS hp ts Dy Bn q1 (fun t ht=>hT t (by simp[ht])) h2 (fun j t v h1 h2=>hv (j+1) t v (by simpa using h1) (by simpa using h2))
  obtain⟨l,g1,g2,g3,g4⟩:=o6 hp (hT t (by simp))
  obtain⟨ev,x,q1,q2,q3,q4,q5⟩:=o4 g1 (qo hp n 20 t l _ _ g1 g4 g2.symm h1)
  have aG:=hv 0 t v rfl rfl
  have:ev=v:=by
   cases ha:isAgg P t with
   |true=>
    have:∃cs,v= .agg cs:=by
     unfold isAgg at ha
     unfold Value.okWide at aG
     split at ha
     ·rename_i hu;rw[hu]at aG;obtain⟨cs,rfl,_⟩:=aG;exact⟨cs,rfl⟩
     ·rename_i hu;rw[hu]at aG;obtain⟨cs,rfl,_⟩:=aG;exact⟨cs,rfl⟩
     ·cases ha
    obtain⟨cs,rfl⟩:=this
    rw[q4 ha]
    simp[Value.cells]
   |false=>
    obtain⟨q6,q7⟩:=q5 ha
    cases v with
    |agg cs=>
     exfalso
     unfold isAgg at ha
     unfold Value.okWide at aG
     split at aG
     ·rename_i hu;rw[hu]at ha;cases ha
     ·rename_i hu;rw[hu]at ha;cases ha
     ·unfold Cell.okWide at aG
      split at aG
      case h_8=>
       unfold Cell.ok at aG
       split at aG<;>first|exact aG|contradiction
      all_goals contradiction
    |_=>simp only[Value.cells,List.cons.injEq,and_true]at q6;exact q6.symm
  subst this
  exact⟨x::xs,⟨t,ts,rfl,q2,a1⟩,⟨_,_,rfl,q3,a2⟩⟩
theorem cp.below {w w':World}(h:cp (fun _=>False) w w'):Below w.heap.size w w':=⟨h.os,h.tape,h.output,h.size,fun k hk=>h.block k hk (fun h=>h)⟩
theorem mT(hl:laidOutB P=true){W':World}{sp:Nat->Bool}:∀ {ts:List TypeId} {vs:List Value} {ds:List (DataW H)} {p:List MemPlace},(∀t∈ts,P.readableRec t=true/\t<P.types.size)->DataW.TrodAll enc P W 0 (fun _=>true) true ts vs ds p->
 (∀x∈p,W.sameAt W' x/\sp x.block=true)->DataW.TrodAll enc P W' 0 sp true ts vs ds p
 |[],vs,ds,p,_,h,_=>by
  obtain⟨rfl,rfl,rfl⟩:=trodAll_nil h
  exact trodAll_mk0
 |t::ts,vs,ds,p,hr,h,hs=>by
  obtain⟨v,Dy,d,Bn,p1,q1,rfl,rfl,rfl,h1,h2⟩:=trodAll_cons h
  exact⟨p1,q1,WideElems.Trod_stays hl (hr t (by simp)).1 (hr t (by simp)).2 h1 (fun x hx=>(hs x (by simp[hx])).1) (fun x hx=>(hs x (by simp[hx])).2),mT hl (fun t ht=>hr t (by simp[ht])) h2 (fun x hx=>hs x (by simp[hx])),rfl⟩
theorem tK{sp:Nat->Bool}:∀ {ts:List TypeId} {vs:List Value} {ds:List (DataW H)} {ps:List MemPlace},DataW.TrodAll enc P W 0 sp true ts vs ds ps->ds.length=ts.length
 |[],_,_,_,h=>by obtain⟨_,rfl,_⟩:=trodAll_nil h;rfl
 |_::_,_,_,_,h=>by
  obtain⟨_,_,_,_,_,_,_,rfl,_,_,h2⟩:=trodAll_cons h
  simp[tK h2]
theorem nI{f:FuncId}{fn:Func}{s:ChangeSpec}{tb:TypeId}{fresh handsOn again:Bool}(o7:fn.resultTypes=#[tb])(Hz:P.underlying tb=some .bool)(xh:s.vars=[])
 (tL:∀ds:List (DataW H),ds.length=fn.params.toList.length->s.fn H ds={results:=[.lit (.bool true)],args:=ds}) (hp:kQ P T=true) (hT:∀t∈fn.params.toList,t∈T) (hl:laidOutB P=true)
 (hr:∀t∈fn.params.toList,P.readableRec t=true/\t<P.types.size) (law:∀xs,D.fM P xs fn.params.toList->c0 P f xs (.ret [.bool true]))
 (base:Nat) (args:Array Value) (ds gs:List (DataW H)) (before:List MemPlace)
 (dP:∀ (j:Nat) t v,fn.params[j]? =some t->args[j]? =some v->Value.okWide P W .any base t v) (hW:DataW.Whole enc P fn.params.toList s.vars false W args.toList ds gs before):
 Calls P f args W fun e W'=>∃v,e= .returned v/\s.post enc P fn false fresh handsOn again W args v W':=by
 have HA:=hW
 obtain⟨p,q,hA,hV,rfl,J9,HB⟩:=hW
 rw[xh]at hV
 obtain⟨rfl,rfl⟩:=trodVars_none hV
 obtain⟨xs,a1,a2⟩:=mS (b0:=base) hp fn.params.toList args.toList ds p hT hA (fun j t v h1 h2=>dP j t v (by simpa using h1) (by simpa using h2))
 refine((law xs a1).2 yl W args (fun _ h=>h.elim) a2).mono fun e W' ⟨hk,ho⟩=> ?_
 have hb:=hk.below
 cases e with
 |panicked ch=>exact ho.elim
 |outgrown=>exact ho.elim
 |returned v=>
  simp only[R.is,D.den]at ho
  subst ho
  refine⟨_,rfl, ?_⟩
  have hlen:ds.length=fn.params.toList.length:=(tK hA)
  have hold:∀x∈p,x.block<W.heap.size:=fun x hx=>by simpa using HA.lt x (by simpa using hx)
  have bS:∀sp:Nat->Bool,(∀x∈p,sp x.block=true)->DataW.TrodAll enc P W' 0 sp true fn.params.toList args.toList ds p:=fun sp DB=>mT hl hr hA fun x hx=>⟨hb.same (hold x hx),DB x hx⟩
  have xi:∀ (b:Nat) (sp:Nat->Bool) (hd:Bool),DataW.TrodAll enc P W' b sp hd fn.resultTypes.toList ((Value.bool true).resultList fn.resultTypes.size) [.lit (.bool true)] []:=fun b sp hd=>by
   rw[o7]
   exact trodAll_cons_mk (p:=[]) (p':=[]) ⟨1,by simp[DataW.trod,Value.cells,Hz]⟩ trodAll_mk0
  have tM:∀sp:Nat->Bool,DataW.TrodVars enc P W' sp s.vars [] []:=fun sp=>by rw[xh];rfl
  refine⟨ds,[],p++[],[],p,[],HA, ?_, ?_, ?_,World.keptBut_mono (fun _ h=>h.elim) (hb.frame (fun _=>False)),fun _=>⟨?_,[.lit (.bool true)]++ds,[],([]++p)++[],⟨[]++p,[],trodAll_append (bS _ fun _ _=>rfl) (xi 0 (fun _=>true) true),tM _,rfl, ?_,(fun h=>by cases h)⟩,fun x hx _=>by simpa using hx⟩⟩
  ·rw[List.append_nil,tL ds hlen];exact xi _ _ _
  ·rw[List.append_nil,tL ds hlen];exact bS _ fun x hx=>by simpa using hold x hx
  ·rw[List.append_nil,tL ds hlen];exact tM _
  ·intro j t r h1 h2
   rw[o7]at h1 h2
   match j,h1,h2 with
   |0,h1,h2=>
    simp[Value.resultList]at h1 h2
    subst h1;subst h2
    simp[Value.okWide,Hz,Cell.okWide,Cell.ok]
  ·intro b off hx
   rw[hb.frozen (by simpa[MemPlace.block]using hold _ (by simpa using hx))]
   exact J9 b off (by simpa using hx)
end
section
variable {P:Program}{t e:TypeId}{x:D}
end
end Go.Proofs.YtbmnikpknlkbkaaGreat
end
namespace Go.Proofs.YtbmnikpknlkbkaaGreat
section
variable {P:Program}{M:Nat->Prop}{φ:Place}{H:Hp}{w w':World}
def aa.ff:aa->Bool
 | .arr .. =>true
 |_=>false
theorem vP(o:Nat->aa)(ids:List Nat):kq o ids=bD o (ids.filter fun id=>(o id).ff):=by
 induction ids with
 |nil=>rfl
 |cons id ids ih=>
  unfold kq at ih|-
  simp only[List.filterMap_cons,List.filter_cons]
  cases hx:o id with
  |arr ep ty sz es=>
   have e:(aa.arr ep ty sz es).ff=true:=rfl
   rw[e,if_pos rfl,ih]
   simp only[bD,List.map_cons,hx]
  |_=>exact ih
theorem dU(hH:af M φ H w){us':Nat->Prop}(h:∀id,H.us id->us' id):af M φ ⟨H.o,us'⟩ w/\Trans φ H w φ ⟨H.o,us'⟩ w:=by
 have ht:Trans φ H w φ ⟨H.o,us'⟩ w:=⟨cp.refl _ _,fun b hb=> .inl hb,⟨h,fun id _ hr=>⟨hr,rfl⟩,fun id e' _ he=>⟨e',he,Nat.le_refl _,fun _=>rfl⟩⟩⟩
 exact⟨hH.of ht (fun _=>False) (fun _ h=>h.elim) (fun id _=>⟨rfl,rfl,fun _ _ _=>rfl⟩) (fun id hn=>hH.fresh id fun hu=>hn (h id hu)) hH.apart (fun b hb=>(hH.ours b hb).2),ht⟩
theorem da(hH:af M φ H w)(hk:cp (fun _=>False) w w'):af M φ H w'/\Trans φ H w φ H w':=by
 have ht:Trans φ H w φ H w':=⟨⟨hk.os,hk.tape,hk.output,hk.size,fun k h _=>hk.block k h fun h=>h⟩,fun b hb=> .inl hb,bU.refl _ _⟩
 exact⟨hH.of ht (fun _=>False) (fun _ h=>h.elim) (fun id _=>⟨rfl,rfl,fun hl b hb=>hk.block b (hH.ours b ⟨id,hl,hb⟩).2 fun h=>h⟩) hH.fresh hH.apart (fun b hb=>Nat.lt_of_lt_of_le (hH.ours b hb).2 hk.size),ht⟩
theorem fg{Δ:List (Nat×aa)}(h:∀id∈Δ.map (·.1),H.us id):H.put Δ=⟨put H.o Δ,H.us⟩:=by
 unfold Hp.put
 congr 1
 funext id
 simp only[eq_iff_iff]
 exact⟨fun h'=>h'.elim (fun h=>h) (h id), .inl⟩
theorem gN(o:Nat->aa)(ids:List Nat):(bD o ids).map (·.1)=ids:=by
 rw[fu];simp[Function.comp_def]
structure Cx where
 base:List Deferred
 rd:Bool
def bT(ro:Option Nat):Fence:={fn:=fun _=>True,depth:=none,alive:=false,round:=ro}
def mark(r:Nat):Deferred:={target:= .collected r,args:=#[]}
def lC(cx:Cx)(w0:World)(φ:Place)(H:Hp)(w:World)(ds:List Deferred):Prop:=
 ∃ms:List Nat,ds=ms.map mark++cx.base/\ms.Nodup/\(cx.rd=true->ms=[])/\∀r∈ms,w0.heap.size<=r/\w.heap[r]? =some (.deferred (some []))/\ ¬bc φ H r
theorem lC.mono {cx:Cx}{w0:World}{φ ai:Place}{H H':Hp}{w w':World}{ds:List Deferred}(ht:Trans φ H w ai H' w')(h:lC cx w0 φ H w ds):lC cx w0 ai H' w' ds:=by
 obtain⟨ms,h1,h2,h3,h4⟩:=h
 refine⟨ms,h1,h2,h3,fun r hr=> ?_⟩
 obtain⟨g1,g2,g3⟩:=h4 r hr
 have cu:r<w.heap.size:=by
  rcases Nat.lt_or_ge r w.heap.size with hl|hl
  ·exact hl
  ·rw[Array.getElem?_eq_none hl]at g2;cases g2
 refine⟨g1,(ht.aU.block r cu g3).trans g2,fun hl=> ?_⟩
 rcases ht.grow r hl with h|h
 ·exact g3 h
 ·omega
structure aP (M:Nat->Prop) (a6:Place) (H0:Hp) (w0:World) (n:Nat) (cx:Cx) (φ:Place) (s:S) (a:Act) (w:World):Prop where
 heap:af M φ s.H w
 tr:Trans a6 H0 w0 φ s.H w
 size:a.tmps.size=n
 defers:lC cx w0 φ s.H w a.defers
 env:∀i,V.den (ad M φ s.H) φ s.H w (s.env i) (a.tmps.getD i undef)
variable {a6:Place}{H0:Hp}{w0:World}{n:Nat}{s:S}{a:Act}{cx:Cx}{ro:Option Nat}{k:Nat}
theorem bg{f:FuncId}{args:Array Value}{R:Ending->World->Prop}(h:Calls P f args w R):CallsIn (bT ro) k P f args w R:=
 ⟨trivial,fun cs _=>let⟨e,w',fr,r,s,x⟩:=h cs;⟨e,w',fr,r,comesIn_wide.2 s,x⟩⟩
theorem o8{f:FuncId}{args:Array Value}{R:Ending->World->Prop}(h:CallsIn (bT ro) k P f args w R):Calls P f args w R:=
 fun cs=>let⟨e,w',fr,r,s,x⟩:=h.2 cs (fun _ h=>by simp[bT]at h);⟨e,w',fr,r,comesIn_wide.1 s,x⟩
theorem eK{o:Oper}{next:Act->World->Prop}{Q:Exit->Act->World->Prop}(HB:∀c,o.op≠ .defer c)(h:o.uponIn (bT ro) k P a next Q ((execOp a.eval o).run P w)):o.wpIn (bT ro) k P a w next Q:=
 ⟨fun _ _=>trivial,by rw[Oper.semAt_eq _ _ _ HB];exact h⟩
theorem fD(hs:aP M a6 H0 w0 n cx φ s a w){ai:Place}{H':Hp}(hH:af M ai H' w')(ht:Trans φ s.H w ai H' w'){v:V}{val:Value}(hd:V.den (ad M ai H') ai H' w' v val){dst:Option Tmp}(a9:dq n dst)
 {o':Nat->aa} {nx':Nat} (ho:H'.o=o') (hu:∀id,H'.us id->id<nx'):aP M a6 H0 w0 n cx ai ⟨ay s.env dst v,o',nx'⟩ (a.put dst val) w':=by
 obtain⟨k1,k2⟩:=dU hH hu
 subst ho
 refine⟨k1,hs.tr.trans (ht.trans k2), ?_, ?_,fun i=> ?_⟩
 ·cases dst<;>simp[Act.put,hs.size]
 ·have:=hs.defers.mono (ht.trans k2);cases dst<;>exact this
 ·cases dst with
  |none=>exact V.aq (ht.trans k2) _ _ (hs.env i)
  |some d=>
   simp only[dq]at a9
   simp only[ay,ak,Act.put]
   by_cases hi:i=d
   ·subst hi
    have h1:(a.tmps.setIfInBounds i val).getD i undef=val:=by simp[Array.getD,hs.size,a9]
    rw[if_pos rfl,h1]
    exact V.aq k2 _ _ hd
   ·have h1:(a.tmps.setIfInBounds d val).getD i undef=a.tmps.getD i undef:=by
     simp only[Array.getD_eq_getD_getElem?]
     rw[Array.getElem?_setIfInBounds_ne (Ne.symm hi)]
    rw[if_neg hi,h1]
    exact V.aq (ht.trans k2) _ _ (hs.env i)
theorem b8(hs:aP M a6 H0 w0 n cx φ s a w){ai:Place}{H':Hp}(hH:af M ai H' w')(ht:Trans φ s.H w ai H' w'){o':Nat->aa}{nx':Nat}(ho:H'.o=o')(hu:∀id,H'.us id->id<nx'):
 aP M a6 H0 w0 n cx ai ⟨s.env,o',nx'⟩ a w':=by
 obtain⟨k1,k2⟩:=dU hH hu
 subst ho
 exact⟨k1,hs.tr.trans (ht.trans k2),hs.size,hs.defers.mono (ht.trans k2),fun i=>V.aq (ht.trans k2) _ _ (hs.env i)⟩
theorem tN{Δ:List (Nat×aa)}(h:∀id∈Δ.map (·.1),s.H.us id\/id=s.nx)(id:Nat)(hu:(s.H.put Δ).us id):id<s.nx+1:=by
 rcases hu with hu|hu
 ·exact Nat.lt_succ_of_lt hu
 ·rcases h id hu with h|h
  ·exact Nat.lt_succ_of_lt h
  ·omega
variable {next:Act->World->Prop}{Q:Exit->Act->World->Prop}{X:V->S->Prop}{K:S->Prop}
theorem tO(hs:aP M a6 H0 w0 n cx φ s a w){o:Oper}{op:Op}(bE:o.op=op)(a9:dq n o.dst)(h:wX P s s.nx op fun v Δ _=>K ⟨ay s.env o.dst v,put s.o Δ,s.nx+1⟩)
 (hN:∀s' ai a' w',K s'->aP M a6 H0 w0 n cx ai s' a' w'->next a' w'):o.wpIn (bT ro) k P a w next Q:=by
 obtain⟨nx,val,w',ai,v,Δ,rd,hK,hr,ow,g1,g2,g3,g4⟩:=mR hs.heap (s:=s) rfl hs.env (fr:=s.nx) (by simp[S.H]) bE h
 have nJ:=fD hs g1 g2 g3 a9 (o':=put s.o Δ) (nx':=s.nx+1) rfl (tN g4)
 refine eK (fun c hc=>by rw[bE]at hc;subst hc;exact h) ?_
 rw[hr]
 rcases ow with rfl|⟨rfl,rfl⟩
 ·exact hN _ _ _ _ hK nJ
 ·exact hN _ _ _ _ hK nJ
theorem V.fE {B:Nat->Prop}{aO bs cs:List V}{u v x:List Value}(h1:V.aj B φ H w aO u)(h2:V.aj B φ H w bs v)(h3:V.aj B φ H w cs x):V.aj B φ H w (aO++bs++cs) (u++v++x):=
 V.aA _ _ _ _ (V.aA _ _ _ _ h1 h2) h3
theorem fh{f:FuncId}(h:eP P f)(args:Array Value):(callFunc f args).run P w= .ok (.enter f args) w:=by
 obtain⟨fn,h1,h2,h3⟩:=h
 have Et:fn.name≠ "runtime.NumGoroutine" :=by simpa using h2
 have Ka:fn.body≠none:=fun h=>by rw[h]at h3;cases h3
 simp[callFunc,h1,Et,Ka]
theorem fi:∀ {rs:List D} {val:Value},R.is (ad M φ H) w (.ret rs) (.returned val)->V.den (ad M φ H) φ H w (fP rs) val
 |[],_,h=>by obtain⟨arr,rfl,h⟩:=h;exact⟨arr,rfl,h⟩
 |[x],_,h=>h
 |x::y::l,_,h=>by obtain⟨arr,rfl,h⟩:=h;exact⟨arr,rfl,(V.aV (x::y::l) _).2 h⟩
theorem R.nK {B B':Nat->Prop}:∀ {out:R} {e:Ending},out.flat=true->out.is B w e->out.is B' w e
 | .ret [], .returned _,_,h=>by obtain⟨arr,rfl,h⟩:=h;exact⟨arr,rfl,h⟩
 | .ret [x], .returned _,hf,h=>by
   simp only[R.flat,D.fb,Bool.and_true]at hf
   exact D.jb x _ hf h
 | .ret (x::y::l), .returned _,hf,h=>by obtain⟨arr,rfl,h⟩:=h;exact⟨arr,rfl,D.fA (x::y::l) _ hf h⟩
 | .aH d, .panicked _,hf,h=>by obtain⟨v,rfl,h⟩:=h;exact⟨v,rfl,D.jb d v hf h⟩
 | .ret [], .panicked _,_,h| .ret [_], .panicked _,_,h| .ret (_::_::_), .panicked _,_,h| .ret [], .outgrown,_,h| .ret [_], .outgrown,_,h| .ret (_::_::_), .outgrown,_,h| .aH _, .returned _,_,h| .aH _, .outgrown,_,h=>h.elim
theorem R.tP {B B':Nat->Prop}{w':World}(hb:∀b,iC w' b-> ¬B b-> ¬B' b):∀ {out:R} {e:Ending},out.ga=true->out.is B w' e->out.is B' w' e
 | .ret [], .returned _,_,h=>by obtain⟨arr,rfl,h⟩:=h;exact⟨arr,rfl,h⟩
 | .ret [x], .returned _,hf,h=>by
   simp only[R.ga,D.fB,Bool.and_true]at hf
   exact D.fe (fun b hc hn=>⟨rfl,hb b hc hn⟩) x _ hf h
 | .ret (x::y::l), .returned _,hf,h=>by obtain⟨arr,rfl,h⟩:=h;exact⟨arr,rfl,D.gb (fun b hc hn=>⟨rfl,hb b hc hn⟩) (x::y::l) _ hf h⟩
 | .aH d, .panicked _,hf,h=>by obtain⟨v,rfl,h⟩:=h;exact⟨v,rfl,D.fe (fun b hc hn=>⟨rfl,hb b hc hn⟩) d v hf h⟩
 | .ret [], .panicked _,_,h| .ret [_], .panicked _,_,h| .ret (_::_::_), .panicked _,_,h| .ret [], .outgrown,_,h| .ret [_], .outgrown,_,h| .ret (_::_::_), .outgrown,_,h| .aH _, .returned _,_,h| .aH _, .outgrown,_,h=>h.elim
theorem tQ(hH:af M φ H w){o:Nat->aa}:∀ (vs:List V) (vals:List Value),(∀id∈bp o vs,H.o id=(o id).fz)->V.aj (ad M φ H) φ H w vs vals->V.aj (ad M φ H) φ H w (vs.map (tG o)) vals
 |[],_,_,h=>h
 |v::vs,_,ho,h=>by
  obtain⟨u,us,rfl,h1,h2⟩:=h
  refine⟨u,us,rfl, ?_,tQ hH vs us (fun id ah=>ho id (by simp[bp,ah])) h2⟩
  unfold tG
  split
  ·rename_i x hx
   exact dp hH v x u (fun id ah=>ho id (by simp[bp,hx,ah])) hx h1
  ·exact h1
theorem dr:∀ (vs:List V) (vals:List Value) (o:Nat->aa),V.aj (ad M φ H) φ H w vs vals->∀id∈bp o vs,H.us id
 |[],_,_,_,j,hj=>by simp[bp]at hj
 |v::vs,_,o,h,j,hj=>by
  obtain⟨u,us,rfl,h1,h2⟩:=h
  simp only[bp,List.mem_append]at hj
  rcases hj with hj|hj
  ·cases hx:cJ o v with
   |none=>simp[hx]at hj
   |some x=>simp only[hx]at hj;exact bR v u h1 j hj
  ·exact dr vs us o h2 j hj
theorem mU(hs:aP M a6 H0 w0 n cx φ s a w){o:Oper}{g:FuncId}{all:List V}{vals:Array Value}(a9:dq n o.dst)(cG:eP P g->(execOp a.eval o).run P w= .ok (.enter g vals) w)(aR:V.aj (ad M φ s.H) φ s.H w all vals.toList)
 (h:jJ P g all s.o s.nx (fun v o' nx'=>K ⟨ay s.env o.dst v,o',nx'⟩) (fun v o' nx'=>X v ⟨s.env,o',nx'⟩))
 (hN:∀s' ai a' w',K s'->aP M a6 H0 w0 n cx ai s' a' w'->next a' w')
 (hQ:∀v s' ai w' val,X v s'->aP M a6 H0 w0 n cx ai s' a w'->V.den (ad M ai s'.H) ai s'.H w' v val->Q (.panic [{v:=val,recovered:=false}]) a w'):o.uponIn (bT ro) k P a next Q ((execOp a.eval o).run P w):=by
 have cB:=h.2 M φ w vals hs.heap aR
 rw[cG h.1]
 refine⟨fun hd=>by simp[bT]at hd,bg (cB.mono fun e w' ⟨ai,o',nx',v,k1,k2,k3⟩=> ?_)⟩
 cases e with
 |returned val=>exact hN _ _ _ _ k3.2 (fD hs k1 k2 k3.1 a9 rfl fun id hu=>hu)
 |panicked ch=>
  obtain⟨val,rfl,k4,k5⟩:=k3
  exact hQ _ _ _ _ val k5 (b8 hs k1 k2 (o':=o') (nx':=nx') rfl fun id hu=>hu) k4
 |outgrown=>exact k3.elim
theorem o9(hs:aP M a6 H0 w0 n cx φ s a w){o:Oper}{g:FuncId}{all:List V}{vals:Array Value}(a9:dq n o.dst)(cG:eP P g->(execOp a.eval o).run P w= .ok (.enter g vals) w)(aR:V.aj (ad M φ s.H) φ s.H w all vals.toList)
 (h:lz P s g all (fun v o' nx'=>K ⟨ay s.env o.dst v,o',nx'⟩) (fun v o' nx'=>X v ⟨s.env,o',nx'⟩))
 (hN:∀s' ai a' w',K s'->aP M a6 H0 w0 n cx ai s' a' w'->next a' w')
 (hQ:∀v s' ai w' val,X v s'->aP M a6 H0 w0 n cx ai s' a w'->V.den (ad M ai s'.H) ai s'.H w' v val->Q (.panic [{v:=val,recovered:=false}]) a w'):o.uponIn (bT ro) k P a next Q ((execOp a.eval o).run P w):=by
 unfold lz at h
 obtain⟨f1,f2,f3,f4,f5⟩:=bK hs.heap (V.aB all) (aW all _ aR)
 have fy:s.H.put (bD s.H.o (V.aB all))=⟨put s.o (bD s.o (V.aB all)),s.H.us⟩:=fg (by rw[gN];exact aW all _ aR)
 have gh:=V.aw f2 _ _ aR
 rcases h with⟨ds,out,dg,hP,hK⟩|⟨ds,out,dg,hP,iy,hK⟩|⟨ds,out,dg,hP,Kc,hK⟩|hC|hC
 ·have mH:=bz f1 all ds _ f3 dg gh
  have hM:∀b,ad M φ (s.H.put (bD s.H.o (V.aB all))) b->b<w.heap.size:=fun b hb=>hb.elim (f1.oy b) fun hl=>(f1.ours b hl).2
  have cB:=hP.2 _ w vals hM mH
  rw[cG hP.1]
  refine⟨fun hd=>by simp[bT]at hd,bg (cB.mono fun e w' ⟨hk,ho⟩=> ?_)⟩
  obtain⟨k1,k2⟩:=da f1 hk
  cases out with
  |ret rs=>
   cases e with
   |returned val=>
    refine hN _ _ _ _ hK (fD hs k1 (f2.trans k2) (fi ho) a9 (by rw[fy]) ?_)
    intro id hu;rw[fy]at hu;exact Nat.lt_succ_of_lt hu
   |panicked ch=>cases rs with|nil=>exact ho.elim|cons x l=>cases l<;>exact ho.elim
   |outgrown=>cases rs with|nil=>exact ho.elim|cons x l=>cases l<;>exact ho.elim
  |aH x=>
   cases e with
   |returned val=>exact ho.elim
   |panicked ch=>
    obtain⟨val,rfl,hd⟩:=ho
    have nJ:=b8 hs k1 (f2.trans k2) (o':=put s.o (bD s.o (V.aB all))) (nx':=s.nx+1) (by rw[fy]) (fun id hu=>by rw[fy]at hu;exact Nat.lt_succ_of_lt hu)
    refine hQ _ _ _ _ val hK nJ ?_
    have e1:ad M φ (S.H ⟨s.env,put s.o (bD s.o (V.aB all)),s.nx+1⟩)=ad M φ (s.H.put (bD s.H.o (V.aB all))):=by rw[fy];rfl
    simp only[V.den]
    rw[e1];exact hd
   |outgrown=>exact ho.elim
 ·have mH:=bz f1 all ds _ f3 dg gh
  have hM:∀b,ad M φ (s.H.put (bD s.H.o (V.aB all))) b->b<w.heap.size:=fun b hb=>hb.elim (f1.oy b) fun hl=>(f1.ours b hl).2
  have cB:=hP.2 _ w vals hM mH
  rw[cG hP.1]
  refine⟨fun hd=>by simp[bT]at hd,bg (cB.mono fun e w' ⟨hk,ho⟩=> ?_)⟩
  obtain⟨k1,k2⟩:=da hs.heap hk
  have ho:=R.nK (B':=ad M φ s.H) iy ho
  cases out with
  |ret rs=>
   cases e with
   |returned val=>
    exact hN _ _ _ _ hK (fD hs k1 k2 (fi ho) a9 rfl fun id hu=>Nat.lt_succ_of_lt hu)
   |panicked ch=>cases rs with|nil=>exact ho.elim|cons x l=>cases l<;>exact ho.elim
   |outgrown=>cases rs with|nil=>exact ho.elim|cons x l=>cases l<;>exact ho.elim
  |aH x=>
   cases e with
   |returned val=>exact ho.elim
   |panicked ch=>
    obtain⟨val,rfl,hd⟩:=ho
    exact hQ _ _ _ _ val hK (b8 hs k1 k2 (o':=s.o) (nx':=s.nx+1) rfl fun id hu=>Nat.lt_succ_of_lt hu) hd
   |outgrown=>exact ho.elim
 ·obtain⟨a1,a2,a3,a4,a5⟩:=bK hs.heap ((V.aB all).filter fun id=>(s.o id).ff) (fun id ah=>aW all _ aR id (List.mem_filter.1 ah).1)
  have pa:s.H.put (bD s.H.o ((V.aB all).filter fun id=>(s.o id).ff))=⟨put s.o (kq s.o (V.aB all)),s.H.us⟩:=by
   rw[vP]
   exact fg (by rw[gN];exact fun id ah=>aW all _ aR id (List.mem_filter.1 ah).1)
  have mH:=bz f1 all ds _ f3 dg gh
  have hM:∀b,ad M φ (s.H.put (bD s.H.o (V.aB all))) b->b<w.heap.size:=fun b hb=>hb.elim (f1.oy b) fun hl=>(f1.ours b hl).2
  have cB:=hP.2 _ w vals hM mH
  rw[cG hP.1]
  refine⟨fun hd=>by simp[bT]at hd,bg (cB.mono fun e w' ⟨hk,ho⟩=> ?_)⟩
  obtain⟨k1,k2⟩:=da a1 hk
  have dV:∀b,iC w' b-> ¬ad M φ (s.H.put (bD s.H.o (V.aB all))) b-> ¬ad M φ (s.H.put (bD s.H.o ((V.aB all).filter fun id=>(s.o id).ff))) b:=by
   intro b hc hn hm
   rcases hm with hM|⟨id,hl,hb⟩
   ·exact hn (.inl hM)
   ·by_cases ah:id∈V.aB all
    ·cases hx:s.H.o id with
     |arr ep ty sz es=>
      rw[a3 id (List.mem_filter.2 ⟨ah,by show(s.H.o id).ff=true;rw[hx];rfl⟩),hx]at hl
      cases hl
     |map kt vt l=>
      have fR:id∉(V.aB all).filter fun id=>(s.o id).ff:=fun h=>by
       have h2:(s.H.o id).ff=true:=(List.mem_filter.1 h).2
       rw[hx]at h2;cases h2
      have aG:=k1.ok id
      unfold au at aG
      rw[a4 id fR,hx]at aG
      obtain⟨b',es,clock,g1,g2,_⟩:=aG
      rw[g1]at hb
      injection hb with hb
      subst hb
      obtain⟨cs,ty,fz,hc⟩:=hc
      rw[g2]at hc
      cases hc
     |_=>
      have fR:id∉(V.aB all).filter fun id=>(s.o id).ff:=fun h=>by
       have h2:(s.H.o id).ff=true:=(List.mem_filter.1 h).2
       rw[hx]at h2;cases h2
      refine hn (.inr ⟨id, ?_,hb⟩)
      rw[a4 id fR,hx]at hl
      rw[f3 id ah,hx]
      exact hl
    ·have fR:id∉(V.aB all).filter fun id=>(s.o id).ff:=fun h=>ah (List.mem_filter.1 h).1
     refine hn (.inr ⟨id, ?_,hb⟩)
     rw[a4 id fR]at hl
     rw[f4 id ah]
     exact hl
  have ho:=R.tP (w':=w') (B':=ad M φ (s.H.put (bD s.H.o ((V.aB all).filter fun id=>(s.o id).ff)))) dV Kc ho
  cases out with
  |ret rs=>
   cases e with
   |returned val=>
    refine hN _ _ _ _ hK (fD hs k1 (a2.trans k2) (fi ho) a9 (by rw[pa]) ?_)
    intro id hu;rw[pa]at hu;exact Nat.lt_succ_of_lt hu
   |panicked ch=>cases rs with|nil=>exact ho.elim|cons x l=>cases l<;>exact ho.elim
   |outgrown=>cases rs with|nil=>exact ho.elim|cons x l=>cases l<;>exact ho.elim
  |aH x=>
   cases e with
   |returned val=>exact ho.elim
   |panicked ch=>
    obtain⟨val,rfl,hd⟩:=ho
    have nJ:=b8 hs k1 (a2.trans k2) (o':=put s.o (kq s.o (V.aB all))) (nx':=s.nx+1) (by rw[pa]) (fun id hu=>by rw[pa]at hu;exact Nat.lt_succ_of_lt hu)
    refine hQ _ _ _ _ val hK nJ ?_
    have e1:ad M φ (S.H ⟨s.env,put s.o (kq s.o (V.aB all)),s.nx+1⟩)=ad M φ (s.H.put (bD s.H.o ((V.aB all).filter fun id=>(s.o id).ff))):=by rw[pa];rfl
    simp only[V.den]
    rw[e1];exact hd
   |outgrown=>exact ho.elim
 ·exact mU hs a9 cG aR hC hN hQ
 ·obtain⟨f1,f2,f3,f4,f5⟩:=bK hs.heap (bp s.o all) (dr all _ s.o aR)
  have fy:s.H.put (bD s.H.o (bp s.o all))=hp (put s.o (bD s.o (bp s.o all))) s.nx:=fg (by rw[gN];exact dr all _ s.o aR)
  have gh:=tQ f1 all _ f3 (V.aw f2 _ _ aR)
  rw[fy]at f1 f2 gh
  exact mU (s:=⟨s.env,put s.o (bD s.o (bp s.o all)),s.nx⟩) (b8 hs f1 f2 rfl fun id hu=>hu) a9 cG gh hC hN hQ
theorem vQ(hs:aP M a6 H0 w0 n cx φ s a w){o:Oper}{c:Call}{f:Operand}(bE:o.op= .call c)(hc:c.callee= .value f)(a9:dq n o.dst)
 (h:oZ P s (s.ev f) (c.args.toList.map s.ev) (fun v o' nx'=>K ⟨ay s.env o.dst v,o',nx'⟩) (fun v o' nx'=>X v ⟨s.env,o',nx'⟩))
 (hN:∀s' ai a' w',K s'->aP M a6 H0 w0 n cx ai s' a' w'->next a' w')
 (hQ:∀v s' ai w' val,X v s'->aP M a6 H0 w0 n cx ai s' a w'->V.den (ad M ai s'.H) ai s'.H w' v val->Q (.panic [{v:=val,recovered:=false}]) a w'):o.wpIn (bT ro) k P a w next Q:=by
 refine eK (fun c' tR=>by rw[bE]at tR;cases tR) ?_
 have hf:=fU (M:=M) (φ:=φ) (H:=s.H) (w:=w) s a hs.env f
 have bS:=eF (M:=M) (φ:=φ) (H:=s.H) (w:=w) s a hs.env c.args.toList
 unfold oZ at h
 split at h
 ·rename_i g first cap nL
  rw[nL]at hf
  obtain⟨fa,ca,ym,qd,Bo⟩:=hf
  have aR:V.aj (ad M φ s.H) φ s.H w (first++c.args.toList.map s.ev++cap) (fa++c.args.map a.eval++ca).toList:=by
   rw[Array.toList_append,Array.toList_append,Array.toList_map]
   exact V.fE qd bS Bo
  generalize first++c.args.toList.map s.ev++cap=all at h aR
  generalize ri:fa++c.args.map a.eval++ca=vals at aR
  have cG:eP P g->(execOp a.eval o).run P w= .ok (.enter g vals) w:=by
   intro he
   have:=fh (w:=w) he (fa++c.args.map a.eval++ca)
   rw[ri]at this
   simp[execOp,bE,resolve,hc,ym,Deferred.ofValue,invoke,this,ri]
  exact o9 hs a9 cG aR h hN hQ
 ·rename_i id nL
  rw[nL]at hf
  obtain⟨_,b5,Kd⟩:=hf
  obtain⟨aL,hR⟩:=h
  obtain⟨b,bG,ym⟩:=Kd aL
  obtain⟨fn,tmps,assign,body,h1,h2⟩:=hR M φ w (c.args.map a.eval) b hs.heap (by rw[Array.toList_map];exact bS) bG
  have cG:(execOp a.eval o).run P w= .ok (.round b fn tmps assign body) w:=by
   simp[execOp,bE,resolve,hc,ym,Deferred.ofValue,invoke,h1]
  rw[cG]
  refine⟨fun hd=>by simp[bT]at hd,RoundIn.mono (h2 (k - 1)) fun e w' ⟨ai,o',nx',v,k1,k2,k3⟩=> ?_⟩
  cases e with
  |returned val=>exact hN _ _ _ _ k3.2 (fD hs k1 k2 k3.1 a9 rfl fun id hu=>hu)
  |panicked ch=>
   obtain⟨val,rfl,k4,k5⟩:=k3
   exact hQ _ _ _ _ val k5 (b8 hs k1 k2 (o':=o') (nx':=nx') rfl fun id hu=>hu) k4
  |outgrown=>exact k3.elim
 ·exact h.elim
theorem ss(hs:aP M a6 H0 w0 n cx φ s a w){o:Oper}{c:Call}{r:Operand}{m:String}{g:FuncId}{y:V}(bE:o.op= .call c)(hc:c.callee= .invoke r m)(a9:dq n o.dst)(hr:lA P m (s.ev r)=some (g,y))
 (h:lz P s g (y::c.args.toList.map s.ev) (fun v o' nx'=>K ⟨ay s.env o.dst v,o',nx'⟩) (fun v o' nx'=>X v ⟨s.env,o',nx'⟩))
 (hN:∀s' ai a' w',K s'->aP M a6 H0 w0 n cx ai s' a' w'->next a' w')
 (hQ:∀v s' ai w' val,X v s'->aP M a6 H0 w0 n cx ai s' a w'->V.den (ad M ai s'.H) ai s'.H w' v val->Q (.panic [{v:=val,recovered:=false}]) a w'):o.wpIn (bT ro) k P a w next Q:=by
 refine eK (fun c' tR=>by rw[bE]at tR;cases tR) ?_
 have hf:=fU (M:=M) (φ:=φ) (H:=s.H) (w:=w) s a hs.env r
 have bS:=eF (M:=M) (φ:=φ) (H:=s.H) (w:=w) s a hs.env c.args.toList
 unfold lA at hr
 split at hr
 ·rename_i t d hx
  rw[hx]at hf
  obtain⟨val,hv,hd⟩:=hf
  split at hr
  ·rename_i ti Ke
   split at hr
   ·rename_i mr lD
    split at hr
    ·rename_i f su
     split at hr
     ·rename_i xj
      injection hr with hr
      injection hr with h1 h2
      subst h1;subst h2
      refine o9 (vals:=#[val]++c.args.map a.eval) hs a9 ?_ ?_ h hN hQ
      ·intro he
       have cG:=fh (w:=w) he (#[val]++c.args.map a.eval)
       have Kg:mr.path=#[]:=Array.isEmpty_iff.1 xj.1
       have hu:∃u,P.underlying t=some u/\∀e,u≠ .pointer e:=by
        have:=xj.2
        unfold xf at this
        split at this
        ·cases this
        ·rename_i u iT hu;exact⟨u,hu,fun e he=>iT e he⟩
        ·cases this
       obtain⟨u,hu,xk⟩:=hu
       have hm:(method (P.types.size+Made.depth) t val m).run P w= .ok (f,val) w:=by
        have:P.types.size+Made.depth=(P.types.size+Made.depth - 1)+1:=by simp[Made.depth]
        rw[this]
        cases u<;>first|exact absurd rfl (xk _)|simp[method,typeInfo,Ke,lD,Kg,su,follow,receiverAt,run_underlying hu,_root_.Go.Place.get]
       have h0:(#[Value.iface t val]++Array.map a.eval c.args)[0]? =some (.iface t val):=by
        rw[Array.getElem?_append_left (by simp)];rfl
       have h1:(Array.map a.eval c.args).extract 0 c.args.size=Array.map a.eval c.args:=by
        rw[show c.args.size=(Array.map a.eval c.args).size from by simp,Array.extract_size]
       simp[execOp,bE,resolve,hc,invoke,callMethod,hv,h0,h1,hm,cG]
      ·simp only[Array.toList_append,Array.toList_map]
       exact⟨val,_,rfl,hd,bS⟩
     ·cases hr
    ·cases hr
   ·cases hr
  ·cases hr
 ·cases hr
theorem mV(hs:aP M a6 H0 w0 n cx φ s a w){o:Oper}(h:EG P n s o X K)
 (hN:∀s' ai a' w',K s'->aP M a6 H0 w0 n cx ai s' a' w'->next a' w')
 (hQ:∀v s' ai w' val,X v s'->aP M a6 H0 w0 n cx ai s' a w'->V.den (ad M ai s'.H) ai s'.H w' v val->Q (.panic [{v:=val,recovered:=false}]) a w'):o.wpIn (bT ro) k P a w next Q:=by
 obtain⟨a9,h⟩:=h
 split at h
 ·rename_i c bE
  split at h
  ·rename_i f hc
   exact vQ hs bE hc a9 h hN hQ
  ·rename_i r m hc
   split at h
   ·rename_i g y hr;exact ss hs bE hc a9 hr h hN hQ
   ·exact h.elim
  ·exact tO hs rfl a9 h hN
 ·rename_i x bE
  have hx:=fU (M:=M) (φ:=φ) (H:=s.H) (w:=w) s a hs.env x
  have aH:∀ (t:TypeId) (u:Value),a.eval x= .iface t u->Q (.panic [{v:= .iface t u,recovered:=false}]) a w->o.wpIn (bT ro) k P a w next Q:=by
   intro t u hu hq
   refine eK (fun c hc=>by rw[bE]at hc;cases hc) ?_
   have hr:(execOp a.eval o).run P w= .halt (.panic (.iface t u)) w:=by simp[execOp,bE,hu,Instr.panic]
   rw[hr];exact hq
  split at h
  ·rename_i t y hv
   rw[hv]at hx
   obtain⟨u,hu,hd⟩:=hx
   exact aH t u hu (hQ _ s φ w (.iface t u) h hs ⟨u,rfl,hd⟩)
  ·rename_i t y hv
   rw[hv]at hx
   obtain⟨u,hu,hd⟩:=hx
   exact aH t u hu (hQ _ s φ w (.iface t u) h hs ⟨u,rfl,hd⟩)
  ·exact h.elim
 ·exact tO hs rfl a9 h hN
end
end Go.Proofs.YtbmnikpknlkbkaaGreat
