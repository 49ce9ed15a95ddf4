/-
  A PART OF THE PROOF. Conditions: none.
-/
import Derived.OpenShut
import Derived.Carry
import Derived.Handed
import Derived.JoinedOf
import Derived.ProofKit
import Derived.RangeFuncLeaves
import Derived.TacticsIn
import Derived.RecoverIn
import Derived.Test.YtpkobkdgcanmjaaGreatLk4
set_option linter.unusedSimpArgs false
set_option linter.unusedVariables false
namespace Go.Proofs.YtpkobkdgcanmjaaGreat
inductive R where
 |ret (ds:List D)|aJ (d:D)
def R.is (B:Nat->Prop)(w:World):R->Ending->Prop
 | .ret [x], .returned v=>D.den B w x v
 | .ret ds, .returned v=>∃a,v= .tuple a/\D.ak B w ds a.toList
 | .aJ d, .panicked chain=>∃v,chain=[{v:=v,recovered:=false}]/\D.den B w d v
 |_,_=>False
def eO(P:Program)(f:FuncId):Prop:=∃fn,P.funcs[f]? =some fn/\(fn.name== "runtime.NumGoroutine")=false/\fn.body.isNone=false
def dN(P:Program)(f:FuncId)(ds:List D)(out:R):Prop:=
 eO P f/\∀ (M:Nat->Prop) (w:World) (vals:Array Value),(∀b,M b->b<w.heap.size)->D.ak M w ds vals.toList->
  Calls P f vals w fun e w'=>cw (fun _=>False) w w'/\out.is M w' e
def hp(o:Nat->ab)(nx:Nat):Hp:=⟨o,fun id=>id<nx⟩
def fU(M:Nat->Prop)(φ:Place)(H:Hp)(w:World)(K X:V->(Nat->ab)->Nat->Prop)(e:Ending)(w':World):Prop:=
 ∃aj o' nx' v,af M aj (hp o' nx') w'/\Trans φ H w aj (hp o' nx') w'/\match e with
  | .returned val=>V.den (ad M aj (hp o' nx')) aj (hp o' nx') w' v val/\K v o' nx'
  | .panicked ch=>∃val,ch=[{v:=val,recovered:=false}]/\V.den (ad M aj (hp o' nx')) aj (hp o' nx') w' v val/\X v o' nx'
  | .outgrown=>False
def jE(P:Program)(f:FuncId)(args:List V)(o:Nat->ab)(nx:Nat)(K X:V->(Nat->ab)->Nat->Prop):Prop:=
 eO P f/\∀ (M:Nat->Prop) (φ:Place) (w:World) (vals:Array Value),af M φ (hp o nx) w->V.ak (ad M φ (hp o nx)) φ (hp o nx) w args vals.toList->
  Calls P f vals w (fU M φ (hp o nx) w K X)
def ek(P:Program)(id:Nat)(args:List V)(o:Nat->ab)(nx:Nat)(K X:V->(Nat->ab)->Nat->Prop):Prop:=
 (o id).aN=true/\∀ (M:Nat->Prop) (φ:Place) (w:World) (vals:Array Value) (b:Nat),af M φ (hp o nx) w->V.ak (ad M φ (hp o nx)) φ (hp o nx) w args vals.toList->φ id= .pointer (some ⟨b,0,none⟩)->
  ∃f tmps assign body,(Instr.yield b vals).run P w= .ok (.round b f tmps assign body) w/\∀n,RoundIn Fence.wide n P b f tmps assign body w (fU M φ (hp o nx) w K X)
theorem fU.mono {M:Nat->Prop}{φ:Place}{H:Hp}{w:World}{K X K' X':V->(Nat->ab)->Nat->Prop}(hK:∀v o n,K v o n->K' v o n)(hX:∀v o n,X v o n->X' v o n){e:Ending}{w':World}(h:fU M φ H w K X e w'):fU M φ H w K' X' e w':=by
 obtain⟨aj,o',nx',v,h1,h2,h3⟩:=h
 refine⟨aj,o',nx',v,h1,h2, ?_⟩
 cases e with
 |returned val=>exact⟨h3.1,hK _ _ _ h3.2⟩
 |panicked ch=>obtain⟨val,a,b,c⟩:=h3;exact⟨val,a,b,hX _ _ _ c⟩
 |outgrown=>exact h3
theorem jE.mono {P:Program}{f:FuncId}{args:List V}{o:Nat->ab}{nx:Nat}{K X K' X':V->(Nat->ab)->Nat->Prop}(hK:∀v o n,K v o n->K' v o n)(hX:∀v o n,X v o n->X' v o n)(h:jE P f args o nx K X):jE P f args o nx K' X':=
 ⟨h.1,fun M φ w vals h1 h2=>(h.2 M φ w vals h1 h2).mono fun _ _ h=>h.mono hK hX⟩
theorem ek.mono {P:Program}{id:Nat}{args:List V}{o:Nat->ab}{nx:Nat}{K X K' X':V->(Nat->ab)->Nat->Prop}(hK:∀v o n,K v o n->K' v o n)(hX:∀v o n,X v o n->X' v o n)(h:ek P id args o nx K X):ek P id args o nx K' X':=
 ⟨h.1,fun M φ w vals b h1 h2 h3=>let⟨f,t,a,c,h4,h5⟩:=h.2 M φ w vals b h1 h2 h3;⟨f,t,a,c,h4,fun n=>(h5 n).mono fun _ _ h=>h.mono hK hX⟩⟩
mutual
def D.flat:D->Bool
 | .sl _| .mp _ _=>false
 | .agg cs=>D.e8 cs
 | .iface _ x=>x.flat
 |_=>true
def D.e8:List D->Bool
 |[]=>true
 |x::xs=>x.flat&&D.e8 xs
end
mutual
theorem D.iV {B B':Nat->Prop}{w w':World}:∀ (x:D) (v:Value),x.flat=true->D.den B w x v->D.den B' w' x v
 | .int _ _,_,_,h| .bool _,_,_,h| .str _,_,_,h| .dv,_,_,h| .fL,_,_,h| .fj,_,_,h| .eA,_,_,h=>h
 | .agg cs,_,hf,h=>by obtain⟨a,rfl,h,h2⟩:=h;exact⟨a,rfl,D.fu cs _ hf h,h2⟩
 | .sl es,_,hf,h=>by simp[D.flat]at hf
 | .mp _ _,_,hf,h=>by simp[D.flat]at hf
 | .iface t x,_,hf,h=>by obtain⟨u,rfl,h⟩:=h;exact⟨u,rfl,D.iV x u hf h⟩
theorem D.fu {B B':Nat->Prop}{w w':World}:∀ (xs:List D) (vs:List Value),D.e8 xs=true->D.ak B w xs vs->D.ak B' w' xs vs
 |[],_,_,h=>h
 |x::xs,_,hf,h=>by
  obtain⟨u,us,rfl,h1,h2⟩:=h
  simp only[D.e8,Bool.and_eq_true]at hf
  exact⟨u,us,rfl,D.iV x u hf.1 h1,D.fu xs us hf.2 h2⟩
end
mutual
def D.fV:D->Bool
 | .mp _ _=>false
 | .agg cs=>D.fw cs
 | .sl es=>D.fw es
 | .iface _ x=>x.fV
 |_=>true
def D.fw:List D->Bool
 |[]=>true
 |x::xs=>x.fV&&D.fw xs
end
theorem df.ov {B B':Nat->Prop}{w w':World}{a:Addr}{cs:Array Value}
 (hb:∀b,iw w b-> ¬B b->w'.heap[b]? =w.heap[b]? /\ ¬B' b) (h:df B w a cs):df B' w' a cs:=by
 intro j u hj
 obtain⟨h1,h2⟩:=h j u hj
 have cm:iw w a.block:=by simpa using gQ h1
 obtain⟨h3,h4⟩:=hb _ cm h2
 exact⟨by rw[World.cell?_of_block (w:=w) (w':=w') (a:=a.add j) (by simpa using h3)];exact h1,h4⟩
mutual
theorem D.e9 {B B':Nat->Prop}{w w':World}(hb:∀b,iw w b-> ¬B b->w'.heap[b]? =w.heap[b]? /\ ¬B' b):
 ∀ (x:D) (v:Value),x.fV=true->D.den B w x v->D.den B' w' x v
 | .int _ _,_,_,h| .bool _,_,_,h| .str _,_,_,h| .dv,_,_,h| .fL,_,_,h| .fj,_,_,h| .eA,_,_,h=>by simpa[D.den]using h
 | .agg cs,_,hn,h=>by
   obtain⟨a,rfl,h,hf⟩:=h
   exact⟨a,rfl,D.fW hb cs _ hn h,hf⟩
 | .sl es,_,hn,h=>by
   obtain⟨base,len,cap,rfl,h1,h2,h3,sz,h4⟩:=h
   exact⟨base,len,cap,rfl,h1,h2,h3,sz,fun a ha=>⟨(h4 a ha).1,D.iW hb sz a es 0 hn (h4 a ha).2⟩⟩
 | .iface t d,_,hn,h=>by
   obtain⟨u,rfl,h⟩:=h
   exact⟨u,rfl,D.e9 hb d u hn h⟩
 | .mp _ _,_,hn,_=>by simp[D.fV]at hn
theorem D.fW {B B':Nat->Prop}{w w':World}(hb:∀b,iw w b-> ¬B b->w'.heap[b]? =w.heap[b]? /\ ¬B' b):
 ∀ (ds:List D) (vs:List Value),D.fw ds=true->D.ak B w ds vs->D.ak B' w' ds vs
 |[],_,_,h=>h
 |d::ds,_,hn,h=>by
  obtain⟨u,us,rfl,h1,h2⟩:=h
  simp only[D.fw,Bool.and_eq_true]at hn
  exact⟨u,us,rfl,D.e9 hb d u hn.1 h1,D.fW hb ds us hn.2 h2⟩
theorem D.iW {B B':Nat->Prop}{w w':World}(hb:∀b,iw w b-> ¬B b->w'.heap[b]? =w.heap[b]? /\ ¬B' b)(sz:Nat)(a:Addr):
 ∀ (es:List D) (i:Nat),D.fw es=true->D.elems B w sz a i es->D.elems B' w' sz a i es
 |[],_,_,_=>trivial
 |e::es,i,hn,h=>by
  obtain⟨⟨ev,h1,h2,h3⟩,h4⟩:=h
  simp only[D.fw,Bool.and_eq_true]at hn
  exact⟨⟨ev,h1,h2.ov hb,D.e9 hb e ev hn.1 h3⟩,D.iW hb sz a es (i+1) hn.2 h4⟩
end
def R.fV:R->Bool
 | .ret ds=>D.fw ds
 | .aJ d=>d.fV
def R.flat:R->Bool
 | .ret ds=>D.e8 ds
 | .aJ d=>d.flat
def fM:List D->V
 |[x]=> .d x
 |ds=> .a8 (ds.map .d)
inductive eo where
 |normal|exit (id:Nat)|ret|aJ (v:V)
def ay(env:Nat->V)(dst:Option Tmp)(v:V):Nat->V:=
 match dst with
 |some d=>cK env d v
 |none=>env
def tt(o:Nat->ab)(v:V):V:=match cD o v with|some x=> .d x|none=>v
def br(o:Nat->ab):List V->List Nat
 |[]=>[]
 |v::vs=>(match cD o v with|some _=>v.ids|none=>[])++br o vs
def iX(P:Program)(g:FuncId)(args:List V)(o:Nat->ab)(nx:Nat)(K X:V->(Nat->ab)->Nat->Prop):Prop:=
 jE P g args o nx K X\/jE P g (args.map (tt o)) (put o (bH o (br o args))) nx K X
def lp(P:Program)(s:S)(g:FuncId)(all:List V)(K:V->(Nat->ab)->Nat->Prop)(X:V->(Nat->ab)->Nat->Prop):Prop:=
    (∃ds out,aR s.o all=some ds/\dN P g ds out/\(match out with
     | .ret rs=>K (fM rs) (put s.o (bH s.o (V.aA all))) (s.nx+1)
     | .aJ x=>X (.d x) (put s.o (bH s.o (V.aA all))) (s.nx+1)))\/
    (∃ds out,aR s.o all=some ds/\dN P g ds out/\out.flat=true/\(match out with
     | .ret rs=>K (fM rs) s.o (s.nx+1)
     | .aJ x=>X (.d x) s.o (s.nx+1)))\/
    (∃ds out,aR s.o all=some ds/\dN P g ds out/\out.fV=true/\(match out with
     | .ret rs=>K (fM rs) (put s.o (ki s.o (V.aA all))) (s.nx+1)
     | .aJ x=>X (.d x) (put s.o (ki s.o (V.aA all))) (s.nx+1)))\/
    iX P g all s.o s.nx K X
def oQ(P:Program)(s:S)(f:V)(args:List V)(K:V->(Nat->ab)->Nat->Prop)(X:V->(Nat->ab)->Nat->Prop):Prop:=
 match f with
 | .func (.func g) first cap=>lp P s g (first++args++cap) K X
 | .gW id=>ek P id args s.o s.nx K X
 |_=>False
def wO(P:Program)(t:TypeId):Bool:=
 match P.underlying t with
 |some (.pointer _)=>false
 |some _=>true
 |none=>false
def lq(P:Program)(m:String)(x:V):Option (FuncId×V):=
 match x with
 | .d (.iface t y)=>match P.info? t with
   |some ti=>match ti.methods.find? (·.name==m)with
    |some r=>match r.func with
     |some (f,false)=>if r.path.isEmpty=true/\wO P t=true then some (f, .d y)else none
     |_=>none
    |none=>none
   |none=>none
 |_=>none
def dk(n:Nat):Option Tmp->Prop
 |some d=>d<n
 |none=>True
def GR(P:Program)(n:Nat)(s:S)(o:Oper)(X:V->S->Prop)(K:S->Prop):Prop:=
 dk n o.dst/\match o.op with
 | .call c=>match c.callee with
   | .value f=>oQ P s (s.ev f) (c.args.toList.map s.ev) (fun v o' nx'=>K ⟨ay s.env o.dst v,o',nx'⟩) (fun v o' nx'=>X v ⟨s.env,o',nx'⟩)
   | .invoke r m=>match lq P m (s.ev r)with
     |some (g,y)=>lp P s g (y::c.args.toList.map s.ev) (fun v o' nx'=>K ⟨ay s.env o.dst v,o',nx'⟩) (fun v o' nx'=>X v ⟨s.env,o',nx'⟩)
     |none=>False
   |_=>wC P s s.nx o.op fun v Δ _=>K ⟨ay s.env o.dst v,put s.o Δ,s.nx+1⟩
 | .panic x=>match s.ev x with
   | .d (.iface t y)=>X (.d (.iface t y)) s
   | .iface t y=>X (.iface t y) s
   |_=>False
 |op=>wC P s s.nx op fun v Δ _=>K ⟨ay s.env o.dst v,put s.o Δ,s.nx+1⟩
def nw(s:S)(ops:Array Oper)(g:Option (Nat×Bool))(A B:Prop):Prop:=
 match g with
 |none=>A
 |some (j,want)=>match jN ops j with
  |some d=>match s.env d with
   | .d (.bool b)=>(b=want->A)/\(b≠want->B)
   | .a8 []=>B
   |_=>False
  |none=>B
def ny(P:Program)(n:Nat)(ops:Array Oper)(X:V->S->Prop)(K:S->Prop):List Oper->S->Prop
 |[],s=>K s
 |o::l,s=>nw s ops o.guard (GR P n s o X (ny P n ops X K l)) (dk n o.dst/\ny P n ops X K l ⟨ay s.env o.dst (.a8 []),s.o,s.nx+1⟩)
def pP(b:Nat)(s s':S):Prop:=
 ∀ (M:Nat->Prop) (φ:Place) (w:World) (tm:Nat->Value),af M φ s.H w->(∀i,V.den (ad M φ s.H) φ s.H w (s.env i) (tm i))->
   ∃aj,af M aj s'.H w/\(∀i,V.den (ad M aj s'.H) aj s'.H w (s'.env i) (tm i))/\(∀k,bf aj s'.H k->bf φ s.H k)/\b<=s'.nx/\
    (∀id,id<b->(s'.o id).aN=true->(s.o id).aN=true/\aj id=φ id)/\
    (∀id e',id<b->(s'.o id).aO=some e'->∃e,(s.o id).aO=some e/\e<=e'/\(e=e'->aj id=φ id))
def jX(K:S->Prop)(Q:eo->S->Prop)(e:eo)(s:S):Prop:=match e with| .normal=>K s|e=>Q e s
def cR(id:Nat)(Q:eo->S->Prop)(e:eo)(s:S):Prop:=match e with| .exit j=>if j=id then Q .normal s else Q (.exit j) s|e=>Q e s
def fy(P:Program)(s:S):List ResultVar->Option (List V)
 |[]=>some []
 | .tmp t::rs=>(fy P s rs).map (s.env t::·)
 | .cell a t::rs=>match s.env a with
   | .ptr id off=>match s.o id with
     | .row cs=>(cn P t cs off).bind fun v=>(fy P s rs).map (v::·)
     |_=>none
   |_=>none
def bt(vs:List V):Nat->V:=fun i=>vs.getD i (.a8 [])
def rZ(P:Program)(rs:List ResultVar)(out:R)(e:eo)(s:S):Prop:=
 match e with
 | .normal| .ret=>match fy P s rs with
   |some vs=>match aR s.o vs with
    |some ds=>out= .ret ds
    |none=>False
   |none=>False
 | .aJ v=>match cD s.o v with
   |some x=>out= .aJ x
   |none=>False
 | .exit _=>False
theorem tu{P:Program}{rs:List ResultVar}{out:R}{s:S}(h:match fy P s rs with
 |some vs=>match aR s.o vs with
  |some ds=>out= .ret ds
  |none=>False
 |none=>False):∃vs ds,fy P s rs=some vs/\aR s.o vs=some ds/\out= .ret ds:=by
 split at h
 ·rename_i vs h1
  split at h
  ·rename_i xs h2;exact⟨vs,xs,h1,h2,h⟩
  ·exact h.elim
 ·exact h.elim
theorem tv{out:R}{s:S}{v:V}(h:match cD s.o v with
 |some x=>out= .aJ x
 |none=>False):∃x,cD s.o v=some x/\out= .aJ x:=by
 split at h
 ·rename_i x h1;exact⟨x,h1,h⟩
 ·exact h.elim
end Go.Proofs.YtpkobkdgcanmjaaGreat
section
namespace Go.Proofs.YtpkobkdgcanmjaaGreat
open Go.ChangeShapes Go.WideShapes Go.RowKit
def lr(P:Program)(rec:TypeId->Option (List TypeId)):Nat->List Field->Option (List TypeId)
 |_,[]=>some []
 |off,f::fs=>if f.offset=off then match rec f.type with
  |some l=>if P.cellsOf f.type=l.length then(lr P rec (off+l.length) fs).map (l++·)else none
  |none=>none else none
def fX(P:Program):Nat->TypeId->Option (List TypeId)
 |0,_=>none
 |n+1,t=>match P.underlying t with
  |some .bool|some (.int _)|some .string|some (.slice _)=>some [t]
  |some (.struct fs)=>lr P (fX P n) 0 fs.toList
  |some (.array k e)=>match fX P n e with
   |some l=>if P.cellsOf e=l.length then some (List.replicate k l).flatten else none
   |none=>none
  |_=>none
def isAgg(P:Program)(t:TypeId):Bool:=match P.underlying t with
 |some (.struct _)|some (.array _ _)=>true
 |_=>false
mutual
def D.tw (P:Program):D->TypeId->Prop
 | .int k n,t=>P.underlying t=some (.int k)/\(Lit.int k n).wf=true
 | .bool _,t=>P.underlying t=some .bool
 | .str l,t=>P.underlying t=some .string/\l.length<=maxLen
 | .sl es,t=>∃e,P.underlying t=some (.slice e)/\es.length<=maxLen/\D.xV P es e
 | .agg cs,t=>isAgg P t=true/\∃ls,fX P 20 t=some ls/\D.fJ P cs ls
 |_,_=>False
def D.xV (P:Program):List D->TypeId->Prop
 |[],_=>True
 |x::l,e=>D.tw P x e/\D.xV P l e
def D.fJ (P:Program):List D->List TypeId->Prop
 |[],ts=>ts=[]
 |x::l,ts=>∃t r,ts=t::r/\D.tw P x t/\D.fJ P l r
end
def kJ(P:Program)(T:List TypeId):Bool:=T.all fun t=>match fX P 20 t with
 |some l=>decide (l.length=P.cellsOf t)&&decide (0<l.length)&&l.all fun u=>match P.underlying u with
  |some (.slice e)=>T.contains e
  |_=>true
 |none=>false
theorem iY{P:Program}:∀ {xs ys:List D} {l r:List TypeId},D.fJ P xs l->D.fJ P ys r->D.fJ P (xs++ys) (l++r)
 |[],_,_,_,h,h'=>by simp only[D.fJ]at h;subst h;exact h'
 |x::xs,_,_,_,h,h'=>by
  obtain⟨t,r,rfl,h1,h2⟩:=h
  exact⟨t,_,rfl,h1,iY h2 h'⟩
theorem az{B:Nat->Prop}{w:World}:∀ {xs ys:List D} {l r:List Value},D.ak B w xs l->D.ak B w ys r->D.ak B w (xs++ys) (l++r)
 |[],_,_,_,h,h'=>by simp only[D.ak]at h;subst h;exact h'
 |x::xs,_,_,_,h,h'=>by
  obtain⟨t,r,rfl,h1,h2⟩:=h
  exact⟨t,_,rfl,h1,az h2 h'⟩
theorem Flat.append {l r:List Value}(h:Flat l)(h':Flat r):Flat (l++r):=fun u hu=>(List.mem_append.1 hu).elim (h u) (h' u)
abbrev xW:Nat->Prop:=fun _=>False
section
variable {H:Type}{enc:TypeId×Value->H}{P:Program}{W:World}{T:List TypeId}{b0:Nat}
def bG(P:Program)(W:World)(l:List TypeId)(cs:List Value):Prop:=∃xs,D.fJ P xs l/\D.ak xW W xs cs/\Flat cs
theorem bG.append {l r:List TypeId}{cs ds:List Value}(h:bG P W l cs)(h':bG P W r ds):bG P W (l++r) (cs++ds):=by
 obtain⟨xs,a1,a2,a3⟩:=h
 obtain⟨ys,b1,b2,b3⟩:=h'
 exact⟨xs++ys,iY a1 b1,az a2 b2,a3.append b3⟩
theorem bG.length {l:List TypeId}{cs:List Value}(h:bG P W l cs):cs.length=l.length:=by
 obtain⟨xs,a1,a2,_⟩:=h
 rw[D.ah _ _ a2]
 clear a2
 induction xs generalizing l with
 |nil=>simp only[D.fJ]at a1;simp[a1]
 |cons x xs ih=>obtain⟨t,r,rfl,_,h⟩:=a1;simp[ih h]
theorem bG.nil:bG P W [] []:=⟨[],rfl,rfl,fun _ h=>by cases h⟩
theorem oR{α:Type}(cs:List α)(o k:Nat):cs.drop o=(cs.drop o).take k++cs.drop (o+k):=by
 rw[<- List.drop_drop];exact(List.take_append_drop k _).symm
theorem iZ{rec:TypeId->Option (List TypeId)}{cs:List Value}{rd:TypeId->List Value->Prop}
 (aF:∀t l vs,rec t=some l->(∀u∈l,∀e,P.underlying u=some (.slice e)->e∈T)->P.cellsOf t=l.length->rd t vs->bG P W l vs):
 ∀ (fs:List Field) (off:Nat) (l:List TypeId),lr P rec off fs=some l->(∀u∈l,∀e,P.underlying u=some (.slice e)->e∈T)->(∀f∈fs,rd f.type ((cs.drop f.offset).take (P.cellsOf f.type)))->
   off+l.length=cs.length->bG P W l (cs.drop off)
 |[],off,l,h,_,_,hl=>by
  simp only[lr,Option.some.injEq]at h
  subst h
  have:cs.drop off=[]:=List.drop_eq_nil_of_le (by simp at hl;omega)
  rw[this];exact bG.nil
 |f::fs,off,l,h,hT,hr,hl=>by
  simp only[lr]at h
  split at h
  ·rename_i ho
   split at h
   ·rename_i l1 h1
    split at h
    ·rename_i hc
     simp only[Option.map_eq_some_iff]at h
     obtain⟨r,h2,rfl⟩:=h
     have hd:=hr f (by simp)
     rw[ho,hc]at hd
     rw[oR cs off l1.length]
     simp only[List.length_append]at hl
     exact(aF f.type l1 _ h1 (fun u hu=>hT u (by simp[hu])) hc hd).append (iZ aF fs _ r h2 (fun u hu=>hT u (by simp[hu])) (fun f hf=>hr f (by simp[hf])) (by omega))
    ·cases h
   ·cases h
  ·cases h
theorem jY{l:List TypeId}{cs:List Value}:∀ (k i:Nat),(∀j,j<k->bG P W l ((cs.drop ((i+j)*l.length)).take l.length))->(i+k)*l.length=cs.length->bG P W (List.replicate k l).flatten (cs.drop (i*l.length))
 |0,i,_,hl=>by
  have:cs.drop (i*l.length)=[]:=List.drop_eq_nil_of_le (by simp at hl;omega)
  rw[this];exact bG.nil
 |k+1,i,h,hl=>by
  rw[List.replicate_succ,List.flatten_cons,oR cs (i*l.length) l.length]
  refine(by simpa using h 0 (by omega):bG P W l _).append ?_
  rw[show i*l.length+l.length=(i+1)*l.length by rw[Nat.add_mul];omega]
  refine jY k (i+1) (fun j hj=> ?_) (by rw[<- hl];congr 1;omega)
  have:=h (j+1) (by omega)
  rwa [show i+(j+1)=i+1+j by omega]at this
theorem oS{e:TypeId}{l:List TypeId}{cs:List Value}(hl:fX P 20 e=some l)(h:bG P W l cs):∃ (ev:Value) (x:D),ev.cells.toList=cs/\D.tw P x e/\D.den xW W x ev/\(isAgg P e=true->ev= .agg cs.toArray)/\(isAgg P e=false->cs=[ev]/\ev.oneCell'=true):=by
 obtain⟨xs,h1,h2,h3⟩:=h
 cases ha:isAgg P e with
 |true=>exact⟨.agg cs.toArray, .agg xs,by simp[Value.cells],⟨ha,l,hl,h1⟩,⟨_,rfl,by simpa using h2,by simpa using h3⟩,fun _=>rfl,(fun h=>by cases h)⟩
 |false=>
  have:l=[e]:=by
   unfold fX at hl
   unfold isAgg at ha
   split at hl<;>simp_all
  subst this
  obtain⟨t,r,e1,h4,h5⟩:∃x r,xs=x::r/\D.tw P x e/\D.fJ P r []:=by
   cases xs with
   |nil=>simp[D.fJ]at h1
   |cons x r=>obtain⟨t,r',e1,h4,h5⟩:=h1;injection e1 with e1 e2;subst e1;subst e2;exact⟨x,r,rfl,h4,h5⟩
  subst e1
  have:r=[]:=by cases r with
   |nil=>rfl
   |cons y r=>obtain⟨_,_,e,_⟩:=h5;cases e
  subst this
  obtain⟨u,us,rfl,h6,h7⟩:=h2
  simp only[D.ak]at h7
  subst h7
  have ho:=h3 u (by simp)
  refine⟨u,t, ?_,h4,h6,(fun h=>by cases h),fun _=>⟨rfl,ho⟩⟩
  cases u<;>simp_all[Value.oneCell',Value.cells]
theorem oT(hp:kJ P T=true){t:TypeId}(ht:t∈T):∃l,fX P 20 t=some l/\l.length=P.cellsOf t/\0<l.length/\∀u∈l,∀e,P.underlying u=some (.slice e)->e∈T:=by
 have:=List.all_eq_true.1 hp t ht
 split at this
 ·rename_i l hl
  simp only[Bool.and_eq_true,decide_eq_true_eq,List.all_eq_true]at this
  refine⟨l,hl,this.1.1,this.1.2,fun u hu e he=> ?_⟩
  have:=this.2 u hu
  rw[he]at this
  simpa using this
 ·cases this
theorem qa(hp:kJ P T=true):∀ (n m:Nat) (t:TypeId) (l:List TypeId) (cs:List Value) (x:DataW H×List MemPlace),fX P m t=some l->(∀u∈l,∀e,P.underlying u=some (.slice e)->e∈T)->
 P.cellsOf t=l.length->DataW.trod enc P W 0 (fun _=>true) true n t cs=some x->bG P W l cs:=by
 intro n
 induction n with
 |zero=>intro m t l cs x _ _ _ h;simp[DataW.trod]at h
 |succ n ih=>
  intro m t l cs x hl hT hc h
  cases m with
  |zero=>simp[fX]at hl
  |succ m=>
  unfold fX at hl
  split at hl
  ·rename_i hu
   injection hl with hl;subst hl
   obtain⟨b,rfl,_⟩:=DataW.trod_bool hu h
   exact⟨[.bool b],⟨t,[],rfl,hu,rfl⟩,⟨_,_,rfl,rfl,rfl⟩,by simp[Flat,Value.oneCell']⟩
  ·rename_i k hu
   injection hl with hl;subst hl
   obtain⟨b,rfl,_,hw⟩:=DataW.trod_int hu h
   exact⟨[.int k b],⟨t,[],rfl,⟨hu,hw⟩,rfl⟩,⟨_,_,rfl,rfl,rfl⟩,by simp[Flat,Value.oneCell']⟩
  ·rename_i hu
   injection hl with hl;subst hl
   obtain⟨s,rfl,_,hw⟩:=DataW.trod_string hu h
   exact⟨[.str s.data.toList],⟨t,[],rfl,⟨hu,by simpa using hw⟩,rfl⟩,⟨_,_,rfl,⟨s,rfl,rfl⟩,rfl⟩,by simp[Flat,Value.oneCell']⟩
  ·rename_i e hu
   injection hl with hl;subst hl
   rcases DataW.trod_slice hu h with⟨rfl,_⟩|⟨a,len,cap,elems,rest,n',hn,rfl,_,_,h2,h3,h4,h5,h6,_⟩
   ·exact⟨[.sl []],⟨t,[],rfl,⟨e,hu,by simp,trivial⟩,rfl⟩,⟨_,_,rfl,⟨none,0,0,rfl,rfl,by simp,fun _=>rfl,0,(fun a ha=>by cases ha)⟩,rfl⟩,by simp[Flat,Value.oneCell']⟩
   ·injection hn with hn;subst hn
    obtain⟨l',g1,g2,g3,g4⟩:=oT hp (hT t (by simp) e hu)
    have Md:∀i,i<len->∃ev:Value,∃y:D,ev.cells.size=P.cellsOf e/\df xW W (a.add (i*P.cellsOf e)) ev.cells/\D.den xW W y ev/\D.tw P y e:=by
     intro i hi
     have:=h5 i hi
     rw[List.getElem?_eq_getElem (by omega)]at this
     obtain⟨ci,k1,k2⟩:=Option.bind_eq_some_iff.1 this
     obtain⟨_,k3,k4⟩:=World.cells?_some k1
     have k5:=ih 20 e l' ci _ g1 g4 g2.symm k2
     obtain⟨ev,y,q1,q2,q3,_,_⟩:=oS g1 k5
     have q4:ev.cells=ci.toArray:=by rw[<- q1]
     refine⟨ev,y,by rw[q4];simp[k5.length,g2],fun j u hj=>⟨?_,fun h=>h⟩,q3,q2⟩
     rw[q4]at hj
     have sJ:ci[j]? =some u:=by simpa using hj
     have cm:j<P.cellsOf e:=by rw[<- g2, <- k5.length];exact(List.getElem?_eq_some_iff.1 sJ).1
     rw[k4 j cm];exact sJ
    have list:∀k i,i+k=len->∃es,es.length=k/\D.xV P es e/\D.elems xW W (P.cellsOf e) a i es:=by
     intro k
     induction k with
     |zero=>intro i _;exact⟨[],rfl,trivial,trivial⟩
     |succ k Me=>
      intro i hi
      obtain⟨es,e1,e2,e3⟩:=Me (i+1) (by omega)
      obtain⟨ev,y,y1,y2,y3,y4⟩:=Md i (by omega)
      exact⟨y::es,by simp[e1],⟨y4,e2⟩,⟨ev,y1,y2,y3⟩,e3⟩
    obtain⟨es,e1,e2,e3⟩:=list len 0 (by omega)
    have AY:cap≠0->a.spot=none:=by
     intro Gy
     have wP:∀z,(W.cells? 0 (a.add (0*P.cellsOf e)) (P.cellsOf e)).bind (DataW.trod enc P W 0 (fun _=>true) true n e)=some z->a.spot=none:=by
      intro z hz
      obtain⟨ci,k1,k2⟩:=Option.bind_eq_some_iff.1 hz
      obtain⟨_,k3,k4⟩:=World.cells?_some k1
      have k5:=k4 0 (by omega)
      rw[List.getElem?_eq_getElem (by omega)]at k5
      simpa[Addr.add]using World.cell?_spot k5
     by_cases hlen:0<len
     ·have:=h5 0 hlen
      rw[List.getElem?_eq_getElem (by omega)]at this
      exact wP _ this
     ·obtain⟨h7,h8⟩:=h6 rfl
      have:=h8 0 (by omega)
      rw[List.getElem?_eq_getElem (by omega),show(len+0)=0 by omega]at this
      exact wP _ this
    exact⟨[.sl es],⟨t,[],rfl,⟨e,hu,by omega,e2⟩,rfl⟩,⟨_,_,rfl,⟨some a,len,cap,rfl,e1.symm,h2,(fun h=>by cases h),P.cellsOf e,(fun a' GS=>by injection GS with GS;subst GS;exact⟨AY,e3⟩)⟩,rfl⟩,by simp[Flat,Value.oneCell']⟩
  ·rename_i fs hu
   obtain⟨xs,n',hn,_,h2,h3,h4⟩:=DataW.trod_struct hu h
   injection hn with hn;subst hn
   have:=iZ (P:=P) (W:=W) (T:=T) (cs:=cs) (rd:=fun t vs=>∃y,DataW.trod enc P W 0 (fun _=>true) true n t vs=some y) (rec:=fX P m) (fun t l vs q1 q2 q3 ⟨y,q4⟩=>ih m t l vs y q1 q2 q3 q4) fs.toList 0 l hl hT ?_ (by omega)
   ·simpa using this
   ·intro f hf
    obtain⟨i,hi,Mf⟩:=List.getElem_of_mem hf
    have:=h4 i f (by simp at hi;simp[<- Mf,Array.getElem?_eq_getElem hi])
    rw[List.getElem?_eq_getElem (by simp at hi;omega)]at this
    exact⟨_,this⟩
  ·rename_i k e hu
   split at hl
   ·rename_i l' AO
    split at hl
    ·rename_i JM
     injection hl with hl;subst hl
     obtain⟨xs,n',hn,_,h2,h3,h4⟩:=DataW.trod_array hu h
     injection hn with hn;subst hn
     have hlen:cs.length=k*l'.length:=by rw[h2,hc];simp
     have Mg:0<k->∀u∈l',∀e,P.underlying u=some (.slice e)->e∈T:=fun hk u hu=>hT u (List.mem_flatten.2 ⟨l',List.mem_replicate.2 ⟨by omega,rfl⟩,hu⟩)
     have:=jY (P:=P) (W:=W) (l:=l') (cs:=cs) k 0 (fun j hj=> ?_) (by rw[hlen];simp)
     ·simpa using this
     ·have:=h4 j hj
      rw[JM,List.getElem?_eq_getElem (by omega)]at this
      rw[Nat.zero_add]
      exact ih m e l' _ _ AO (Mg (by omega)) JM this
    ·cases hl
   ·cases hl
  ·cases hl
theorem mK(hp:kJ P T=true):∀ (ts:List TypeId) (vs:List Value) (ds:List (DataW H)) (p:List MemPlace),(∀t∈ts,t∈T)->DataW.TrodAll enc P W 0 (fun _=>true) true ts vs ds p->
 (∀ (j:Nat) t v,ts[j]? =some t->vs[j]? =some v->Value.okWide P W .any b0 t v)->∃xs,D.fJ P xs ts/\D.ak xW W xs vs
 |[],vs,ds,p,_,h,_=>by
  obtain⟨rfl,rfl,rfl⟩:=trodAll_nil h
  exact⟨[],rfl,rfl⟩
 |t::ts,vs,ds,p,hT,h,hv=>by
  obtain⟨v,FM,d,AZ,p1,q1,rfl,rfl,rfl,⟨n,h1⟩,h2⟩:=trodAll_cons h
  obtain⟨xs,a1,a2⟩:=mK hp ts FM AZ q1 (fun t ht=>hT t (by simp[ht])) h2 (fun j t v h1 h2=>hv (j+1) t v (by simpa using h1) (by simpa using h2))
  obtain⟨l,g1,g2,g3,g4⟩:=oT hp (hT t (by simp))
  obtain⟨ev,x,q1,q2,q3,q4,q5⟩:=oS g1 (qa hp n 20 t l _ _ g1 g4 g2.symm h1)
  have aI:=hv 0 t v rfl rfl
  have:ev=v:=by
   cases ha:isAgg P t with
   |true=>
    have:∃cs,v= .agg cs:=by
     unfold isAgg at ha
     unfold Value.okWide at aI
     split at ha
     ·rename_i hu;rw[hu]at aI;obtain⟨cs,rfl,_⟩:=aI;exact⟨cs,rfl⟩
     ·rename_i hu;rw[hu]at aI;obtain⟨cs,rfl,_⟩:=aI;exact⟨cs,rfl⟩
     ·cases ha
    obtain⟨cs,rfl⟩:=this
    rw[q4 ha]
    simp[Value.cells]
   |false=>
    obtain⟨q6,q7⟩:=q5 ha
    cases v with
    |agg cs=>
     exfalso
     unfold isAgg at ha
     unfold Value.okWide at aI
     split at aI
     ·rename_i hu;rw[hu]at ha;cases ha
     ·rename_i hu;rw[hu]at ha;cases ha
     ·unfold Cell.okWide at aI
      split at aI
      case h_8=>
       unfold Cell.ok at aI
       split at aI<;>first|exact aI|contradiction
      all_goals contradiction
    |_=>simp only[Value.cells,List.cons.injEq,and_true]at q6;exact q6.symm
  subst this
  exact⟨x::xs,⟨t,ts,rfl,q2,a1⟩,⟨_,_,rfl,q3,a2⟩⟩
theorem cw.below {w w':World}(h:cw (fun _=>False) w w'):Below w.heap.size w w':=⟨h.os,h.tape,h.output,h.size,fun k hk=>h.block k hk (fun h=>h)⟩
theorem mL(hl:laidOutB P=true){W':World}{sp:Nat->Bool}:∀ {ts:List TypeId} {vs:List Value} {ds:List (DataW H)} {p:List MemPlace},(∀t∈ts,P.readableRec t=true/\t<P.types.size)->DataW.TrodAll enc P W 0 (fun _=>true) true ts vs ds p->
 (∀x∈p,W.sameAt W' x/\sp x.block=true)->DataW.TrodAll enc P W' 0 sp true ts vs ds p
 |[],vs,ds,p,_,h,_=>by
  obtain⟨rfl,rfl,rfl⟩:=trodAll_nil h
  exact trodAll_mk0
 |t::ts,vs,ds,p,hr,h,hs=>by
  obtain⟨v,FM,d,AZ,p1,q1,rfl,rfl,rfl,h1,h2⟩:=trodAll_cons h
  exact⟨p1,q1,WideElems.Trod_stays hl (hr t (by simp)).1 (hr t (by simp)).2 h1 (fun x hx=>(hs x (by simp[hx])).1) (fun x hx=>(hs x (by simp[hx])).2),mL hl (fun t ht=>hr t (by simp[ht])) h2 (fun x hx=>hs x (by simp[hx])),rfl⟩
theorem tx{sp:Nat->Bool}:∀ {ts:List TypeId} {vs:List Value} {ds:List (DataW H)} {ps:List MemPlace},DataW.TrodAll enc P W 0 sp true ts vs ds ps->ds.length=ts.length
 |[],_,_,_,h=>by obtain⟨_,rfl,_⟩:=trodAll_nil h;rfl
 |_::_,_,_,_,h=>by
  obtain⟨_,_,_,_,_,_,_,rfl,_,_,h2⟩:=trodAll_cons h
  simp[tx h2]
theorem nz{f:FuncId}{fn:Func}{s:ChangeSpec}{tb:TypeId}{fresh handsOn again:Bool}(oU:fn.resultTypes=#[tb])(JN:P.underlying tb=some .bool)(wQ:s.vars=[])
 (tz:∀ds:List (DataW H),ds.length=fn.params.toList.length->s.fn H ds={results:=[.lit (.bool true)],args:=ds}) (hp:kJ P T=true) (hT:∀t∈fn.params.toList,t∈T) (hl:laidOutB P=true)
 (hr:∀t∈fn.params.toList,P.readableRec t=true/\t<P.types.size) (law:∀xs,D.fJ P xs fn.params.toList->dN P f xs (.ret [.bool true]))
 (base:Nat) (args:Array Value) (ds gs:List (DataW H)) (before:List MemPlace)
 (dO:∀ (j:Nat) t v,fn.params[j]? =some t->args[j]? =some v->Value.okWide P W .any base t v) (hW:DataW.Whole enc P fn.params.toList s.vars false W args.toList ds gs before):
 Calls P f args W fun e W'=>∃v,e= .returned v/\s.post enc P fn false fresh handsOn again W args v W':=by
 have JO:=hW
 obtain⟨p,q,hA,hV,rfl,Mh,JP⟩:=hW
 rw[wQ]at hV
 obtain⟨rfl,rfl⟩:=trodVars_none hV
 obtain⟨xs,a1,a2⟩:=mK (b0:=base) hp fn.params.toList args.toList ds p hT hA (fun j t v h1 h2=>dO j t v (by simpa using h1) (by simpa using h2))
 refine((law xs a1).2 xW W args (fun _ h=>h.elim) a2).mono fun e W' ⟨hk,ho⟩=> ?_
 have hb:=hk.below
 cases e with
 |panicked ch=>exact ho.elim
 |outgrown=>exact ho.elim
 |returned v=>
  simp only[R.is,D.den]at ho
  subst ho
  refine⟨_,rfl, ?_⟩
  have hlen:ds.length=fn.params.toList.length:=(tx hA)
  have hold:∀x∈p,x.block<W.heap.size:=fun x hx=>by simpa using JO.lt x (by simpa using hx)
  have b6:∀sp:Nat->Bool,(∀x∈p,sp x.block=true)->DataW.TrodAll enc P W' 0 sp true fn.params.toList args.toList ds p:=fun sp FP=>mL hl hr hA fun x hx=>⟨hb.same (hold x hx),FP x hx⟩
  have wR:∀ (b:Nat) (sp:Nat->Bool) (hd:Bool),DataW.TrodAll enc P W' b sp hd fn.resultTypes.toList ((Value.bool true).resultList fn.resultTypes.size) [.lit (.bool true)] []:=fun b sp hd=>by
   rw[oU]
   exact trodAll_cons_mk (p:=[]) (p':=[]) ⟨1,by simp[DataW.trod,Value.cells,JN]⟩ trodAll_mk0
  have tA:∀sp:Nat->Bool,DataW.TrodVars enc P W' sp s.vars [] []:=fun sp=>by rw[wQ];rfl
  refine⟨ds,[],p++[],[],p,[],JO, ?_, ?_, ?_,World.keptBut_mono (fun _ h=>h.elim) (hb.frame (fun _=>False)),fun _=>⟨?_,[.lit (.bool true)]++ds,[],([]++p)++[],⟨[]++p,[],trodAll_append (b6 _ fun _ _=>rfl) (wR 0 (fun _=>true) true),tA _,rfl, ?_,(fun h=>by cases h)⟩,fun x hx _=>by simpa using hx⟩⟩
  ·rw[List.append_nil,tz ds hlen];exact wR _ _ _
  ·rw[List.append_nil,tz ds hlen];exact b6 _ fun x hx=>by simpa using hold x hx
  ·rw[List.append_nil,tz ds hlen];exact tA _
  ·intro j t r h1 h2
   rw[oU]at h1 h2
   match j,h1,h2 with
   |0,h1,h2=>
    simp[Value.resultList]at h1 h2
    subst h1;subst h2
    simp[Value.okWide,JN,Cell.okWide,Cell.ok]
  ·intro b off hx
   rw[hb.frozen (by simpa[MemPlace.block]using hold _ (by simpa using hx))]
   exact Mh b off (by simpa using hx)
end
section
variable {P:Program}{t e:TypeId}{x:D}
end
end Go.Proofs.YtpkobkdgcanmjaaGreat
end
namespace Go.Proofs.YtpkobkdgcanmjaaGreat
section
variable {P:Program}{M:Nat->Prop}{φ:Place}{H:Hp}{w w':World}
def ab.fb:ab->Bool
 | .arr .. =>true
 |_=>false
theorem vr(o:Nat->ab)(ids:List Nat):ki o ids=bH o (ids.filter fun id=>(o id).fb):=by
 induction ids with
 |nil=>rfl
 |cons id ids ih=>
  unfold ki at ih|-
  simp only[List.filterMap_cons,List.filter_cons]
  cases hx:o id with
  |arr ep ty sz es=>
   have e:(ab.arr ep ty sz es).fb=true:=rfl
   rw[e,if_pos rfl,ih]
   simp only[bH,List.map_cons,hx]
  |_=>exact ih
theorem dT(hH:af M φ H w){us':Nat->Prop}(h:∀id,H.us id->us' id):af M φ ⟨H.o,us'⟩ w/\Trans φ H w φ ⟨H.o,us'⟩ w:=by
 have ht:Trans φ H w φ ⟨H.o,us'⟩ w:=⟨cw.refl _ _,fun b hb=> .inl hb,⟨h,fun id _ hr=>⟨hr,rfl⟩,fun id e' _ he=>⟨e',he,Nat.le_refl _,fun _=>rfl⟩⟩⟩
 exact⟨hH.of ht (fun _=>False) (fun _ h=>h.elim) (fun id _=>⟨rfl,rfl,fun _ _ _=>rfl⟩) (fun id hn=>hH.fresh id fun hu=>hn (h id hu)) hH.apart (fun b hb=>(hH.ours b hb).2),ht⟩
theorem cX(hH:af M φ H w)(hk:cw (fun _=>False) w w'):af M φ H w'/\Trans φ H w φ H w':=by
 have ht:Trans φ H w φ H w':=⟨⟨hk.os,hk.tape,hk.output,hk.size,fun k h _=>hk.block k h fun h=>h⟩,fun b hb=> .inl hb,bV.refl _ _⟩
 exact⟨hH.of ht (fun _=>False) (fun _ h=>h.elim) (fun id _=>⟨rfl,rfl,fun hl b hb=>hk.block b (hH.ours b ⟨id,hl,hb⟩).2 fun h=>h⟩) hH.fresh hH.apart (fun b hb=>Nat.lt_of_lt_of_le (hH.ours b hb).2 hk.size),ht⟩
theorem fe{Δ:List (Nat×ab)}(h:∀id∈Δ.map (·.1),H.us id):H.put Δ=⟨put H.o Δ,H.us⟩:=by
 unfold Hp.put
 congr 1
 funext id
 simp only[eq_iff_iff]
 exact⟨fun h'=>h'.elim (fun h=>h) (h id), .inl⟩
theorem gH(o:Nat->ab)(ids:List Nat):(bH o ids).map (·.1)=ids:=by
 rw[fm];simp[Function.comp_def]
structure Cx where
 base:List Deferred
 rd:Bool
def bU(ro:Option Nat):Fence:={fn:=fun _=>True,depth:=none,alive:=false,round:=ro}
def mark(r:Nat):Deferred:={target:= .collected r,args:=#[]}
def lu(cx:Cx)(w0:World)(φ:Place)(H:Hp)(w:World)(ds:List Deferred):Prop:=
 ∃ms:List Nat,ds=ms.map mark++cx.base/\ms.Nodup/\(cx.rd=true->ms=[])/\∀r∈ms,w0.heap.size<=r/\w.heap[r]? =some (.deferred (some []))/\ ¬bf φ H r
theorem lu.mono {cx:Cx}{w0:World}{φ aj:Place}{H H':Hp}{w w':World}{ds:List Deferred}(ht:Trans φ H w aj H' w')(h:lu cx w0 φ H w ds):lu cx w0 aj H' w' ds:=by
 obtain⟨ms,h1,h2,h3,h4⟩:=h
 refine⟨ms,h1,h2,h3,fun r hr=> ?_⟩
 obtain⟨g1,g2,g3⟩:=h4 r hr
 have cm:r<w.heap.size:=by
  rcases Nat.lt_or_ge r w.heap.size with hl|hl
  ·exact hl
  ·rw[Array.getElem?_eq_none hl]at g2;cases g2
 refine⟨g1,(ht.aW.block r cm g3).trans g2,fun hl=> ?_⟩
 rcases ht.grow r hl with h|h
 ·exact g3 h
 ·omega
structure aQ (M:Nat->Prop) (a7:Place) (H0:Hp) (w0:World) (n:Nat) (cx:Cx) (φ:Place) (s:S) (a:Act) (w:World):Prop where
 heap:af M φ s.H w
 tr:Trans a7 H0 w0 φ s.H w
 size:a.tmps.size=n
 defers:lu cx w0 φ s.H w a.defers
 env:∀i,V.den (ad M φ s.H) φ s.H w (s.env i) (a.tmps.getD i undef)
variable {a7:Place}{H0:Hp}{w0:World}{n:Nat}{s:S}{a:Act}{cx:Cx}{ro:Option Nat}{k:Nat}
theorem bp{f:FuncId}{args:Array Value}{R:Ending->World->Prop}(h:Calls P f args w R):CallsIn (bU ro) k P f args w R:=
 ⟨trivial,fun cs _=>let⟨e,w',fr,r,s,x⟩:=h cs;⟨e,w',fr,r,comesIn_wide.2 s,x⟩⟩
theorem oV{f:FuncId}{args:Array Value}{R:Ending->World->Prop}(h:CallsIn (bU ro) k P f args w R):Calls P f args w R:=
 fun cs=>let⟨e,w',fr,r,s,x⟩:=h.2 cs (fun _ h=>by simp[bU]at h);⟨e,w',fr,r,comesIn_wide.1 s,x⟩
theorem eJ{o:Oper}{next:Act->World->Prop}{Q:Exit->Act->World->Prop}(JP:∀c,o.op≠ .defer c)(h:o.uponIn (bU ro) k P a next Q ((execOp a.eval o).run P w)):o.wpIn (bU ro) k P a w next Q:=
 ⟨fun _ _=>trivial,by rw[Oper.semAt_eq _ _ _ JP];exact h⟩
theorem fA(hs:aQ M a7 H0 w0 n cx φ s a w){aj:Place}{H':Hp}(hH:af M aj H' w')(ht:Trans φ s.H w aj H' w'){v:V}{val:Value}(hd:V.den (ad M aj H') aj H' w' v val){dst:Option Tmp}(ba:dk n dst)
 {o':Nat->ab} {nx':Nat} (ho:H'.o=o') (hu:∀id,H'.us id->id<nx'):aQ M a7 H0 w0 n cx aj ⟨ay s.env dst v,o',nx'⟩ (a.put dst val) w':=by
 obtain⟨k1,k2⟩:=dT hH hu
 subst ho
 refine⟨k1,hs.tr.trans (ht.trans k2), ?_, ?_,fun i=> ?_⟩
 ·cases dst<;>simp[Act.put,hs.size]
 ·have:=hs.defers.mono (ht.trans k2);cases dst<;>exact this
 ·cases dst with
  |none=>exact V.au (ht.trans k2) _ _ (hs.env i)
  |some d=>
   simp only[dk]at ba
   simp only[ay,ao,Act.put]
   by_cases hi:i=d
   ·subst hi
    have h1:(a.tmps.setIfInBounds i val).getD i undef=val:=by simp[Array.getD,hs.size,ba]
    rw[if_pos rfl,h1]
    exact V.au k2 _ _ hd
   ·have h1:(a.tmps.setIfInBounds d val).getD i undef=a.tmps.getD i undef:=by
     simp only[Array.getD_eq_getD_getElem?]
     rw[Array.getElem?_setIfInBounds_ne (Ne.symm hi)]
    rw[if_neg hi,h1]
    exact V.au (ht.trans k2) _ _ (hs.env i)
theorem b7(hs:aQ M a7 H0 w0 n cx φ s a w){aj:Place}{H':Hp}(hH:af M aj H' w')(ht:Trans φ s.H w aj H' w'){o':Nat->ab}{nx':Nat}(ho:H'.o=o')(hu:∀id,H'.us id->id<nx'):
 aQ M a7 H0 w0 n cx aj ⟨s.env,o',nx'⟩ a w':=by
 obtain⟨k1,k2⟩:=dT hH hu
 subst ho
 exact⟨k1,hs.tr.trans (ht.trans k2),hs.size,hs.defers.mono (ht.trans k2),fun i=>V.au (ht.trans k2) _ _ (hs.env i)⟩
theorem tB{Δ:List (Nat×ab)}(h:∀id∈Δ.map (·.1),s.H.us id\/id=s.nx)(id:Nat)(hu:(s.H.put Δ).us id):id<s.nx+1:=by
 rcases hu with hu|hu
 ·exact Nat.lt_succ_of_lt hu
 ·rcases h id hu with h|h
  ·exact Nat.lt_succ_of_lt h
  ·omega
variable {next:Act->World->Prop}{Q:Exit->Act->World->Prop}{X:V->S->Prop}{K:S->Prop}
theorem tC(hs:aQ M a7 H0 w0 n cx φ s a w){o:Oper}{op:Op}(bL:o.op=op)(ba:dk n o.dst)(h:wC P s s.nx op fun v Δ _=>K ⟨ay s.env o.dst v,put s.o Δ,s.nx+1⟩)
 (hN:∀s' aj a' w',K s'->aQ M a7 H0 w0 n cx aj s' a' w'->next a' w'):o.wpIn (bU ro) k P a w next Q:=by
 obtain⟨nx,val,w',aj,v,Δ,rd,hK,hr,oi,g1,g2,g3,g4⟩:=mJ hs.heap (s:=s) rfl hs.env (fr:=s.nx) (by simp[S.H]) bL h
 have nA:=fA hs g1 g2 g3 ba (o':=put s.o Δ) (nx':=s.nx+1) rfl (tB g4)
 refine eJ (fun c hc=>by rw[bL]at hc;subst hc;exact h) ?_
 rw[hr]
 rcases oi with rfl|⟨rfl,rfl⟩
 ·exact hN _ _ _ _ hK nA
 ·exact hN _ _ _ _ hK nA
theorem V.fB {B:Nat->Prop}{aP bs cs:List V}{u v x:List Value}(h1:V.ak B φ H w aP u)(h2:V.ak B φ H w bs v)(h3:V.ak B φ H w cs x):V.ak B φ H w (aP++bs++cs) (u++v++x):=
 V.az _ _ _ _ (V.az _ _ _ _ h1 h2) h3
theorem ff{f:FuncId}(h:eO P f)(args:Array Value):(callFunc f args).run P w= .ok (.enter f args) w:=by
 obtain⟨fn,h1,h2,h3⟩:=h
 have GD:fn.name≠ "runtime.NumGoroutine" :=by simpa using h2
 have Mi:fn.body≠none:=fun h=>by rw[h]at h3;cases h3
 simp[callFunc,h1,GD,Mi]
theorem fg:∀ {rs:List D} {val:Value},R.is (ad M φ H) w (.ret rs) (.returned val)->V.den (ad M φ H) φ H w (fM rs) val
 |[],_,h=>by obtain⟨arr,rfl,h⟩:=h;exact⟨arr,rfl,h⟩
 |[x],_,h=>h
 |x::y::l,_,h=>by obtain⟨arr,rfl,h⟩:=h;exact⟨arr,rfl,(V.aX (x::y::l) _).2 h⟩
theorem R.nB {B B':Nat->Prop}:∀ {out:R} {e:Ending},out.flat=true->out.is B w e->out.is B' w e
 | .ret [], .returned _,_,h=>by obtain⟨arr,rfl,h⟩:=h;exact⟨arr,rfl,h⟩
 | .ret [x], .returned _,hf,h=>by
   simp only[R.flat,D.e8,Bool.and_true]at hf
   exact D.iV x _ hf h
 | .ret (x::y::l), .returned _,hf,h=>by obtain⟨arr,rfl,h⟩:=h;exact⟨arr,rfl,D.fu (x::y::l) _ hf h⟩
 | .aJ d, .panicked _,hf,h=>by obtain⟨v,rfl,h⟩:=h;exact⟨v,rfl,D.iV d v hf h⟩
 | .ret [], .panicked _,_,h| .ret [_], .panicked _,_,h| .ret (_::_::_), .panicked _,_,h| .ret [], .outgrown,_,h| .ret [_], .outgrown,_,h| .ret (_::_::_), .outgrown,_,h| .aJ _, .returned _,_,h| .aJ _, .outgrown,_,h=>h.elim
theorem R.tD {B B':Nat->Prop}{w':World}(hb:∀b,iw w' b-> ¬B b-> ¬B' b):∀ {out:R} {e:Ending},out.fV=true->out.is B w' e->out.is B' w' e
 | .ret [], .returned _,_,h=>by obtain⟨arr,rfl,h⟩:=h;exact⟨arr,rfl,h⟩
 | .ret [x], .returned _,hf,h=>by
   simp only[R.fV,D.fw,Bool.and_true]at hf
   exact D.e9 (fun b hc hn=>⟨rfl,hb b hc hn⟩) x _ hf h
 | .ret (x::y::l), .returned _,hf,h=>by obtain⟨arr,rfl,h⟩:=h;exact⟨arr,rfl,D.fW (fun b hc hn=>⟨rfl,hb b hc hn⟩) (x::y::l) _ hf h⟩
 | .aJ d, .panicked _,hf,h=>by obtain⟨v,rfl,h⟩:=h;exact⟨v,rfl,D.e9 (fun b hc hn=>⟨rfl,hb b hc hn⟩) d v hf h⟩
 | .ret [], .panicked _,_,h| .ret [_], .panicked _,_,h| .ret (_::_::_), .panicked _,_,h| .ret [], .outgrown,_,h| .ret [_], .outgrown,_,h| .ret (_::_::_), .outgrown,_,h| .aJ _, .returned _,_,h| .aJ _, .outgrown,_,h=>h.elim
theorem tE(hH:af M φ H w){o:Nat->ab}:∀ (vs:List V) (vals:List Value),(∀id∈br o vs,H.o id=(o id).fz)->V.ak (ad M φ H) φ H w vs vals->V.ak (ad M φ H) φ H w (vs.map (tt o)) vals
 |[],_,_,h=>h
 |v::vs,_,ho,h=>by
  obtain⟨u,us,rfl,h1,h2⟩:=h
  refine⟨u,us,rfl, ?_,tE hH vs us (fun id ai=>ho id (by simp[br,ai])) h2⟩
  unfold tt
  split
  ·rename_i x hx
   exact dh hH v x u (fun id ai=>ho id (by simp[br,hx,ai])) hx h1
  ·exact h1
theorem dm:∀ (vs:List V) (vals:List Value) (o:Nat->ab),V.ak (ad M φ H) φ H w vs vals->∀id∈br o vs,H.us id
 |[],_,_,_,j,hj=>by simp[br]at hj
 |v::vs,_,o,h,j,hj=>by
  obtain⟨u,us,rfl,h1,h2⟩:=h
  simp only[br,List.mem_append]at hj
  rcases hj with hj|hj
  ·cases hx:cD o v with
   |none=>simp[hx]at hj
   |some x=>simp only[hx]at hj;exact bS v u h1 j hj
  ·exact dm vs us o h2 j hj
theorem mM(hs:aQ M a7 H0 w0 n cx φ s a w){o:Oper}{g:FuncId}{all:List V}{vals:Array Value}(ba:dk n o.dst)(cB:eO P g->(execOp a.eval o).run P w= .ok (.enter g vals) w)(aT:V.ak (ad M φ s.H) φ s.H w all vals.toList)
 (h:jE P g all s.o s.nx (fun v o' nx'=>K ⟨ay s.env o.dst v,o',nx'⟩) (fun v o' nx'=>X v ⟨s.env,o',nx'⟩))
 (hN:∀s' aj a' w',K s'->aQ M a7 H0 w0 n cx aj s' a' w'->next a' w')
 (hQ:∀v s' aj w' val,X v s'->aQ M a7 H0 w0 n cx aj s' a w'->V.den (ad M aj s'.H) aj s'.H w' v val->Q (.panic [{v:=val,recovered:=false}]) a w'):o.uponIn (bU ro) k P a next Q ((execOp a.eval o).run P w):=by
 have cq:=h.2 M φ w vals hs.heap aT
 rw[cB h.1]
 refine⟨fun hd=>by simp[bU]at hd,bp (cq.mono fun e w' ⟨aj,o',nx',v,k1,k2,k3⟩=> ?_)⟩
 cases e with
 |returned val=>exact hN _ _ _ _ k3.2 (fA hs k1 k2 k3.1 ba rfl fun id hu=>hu)
 |panicked ch=>
  obtain⟨val,rfl,k4,k5⟩:=k3
  exact hQ _ _ _ _ val k5 (b7 hs k1 k2 (o':=o') (nx':=nx') rfl fun id hu=>hu) k4
 |outgrown=>exact k3.elim
theorem oW(hs:aQ M a7 H0 w0 n cx φ s a w){o:Oper}{g:FuncId}{all:List V}{vals:Array Value}(ba:dk n o.dst)(cB:eO P g->(execOp a.eval o).run P w= .ok (.enter g vals) w)(aT:V.ak (ad M φ s.H) φ s.H w all vals.toList)
 (h:lp P s g all (fun v o' nx'=>K ⟨ay s.env o.dst v,o',nx'⟩) (fun v o' nx'=>X v ⟨s.env,o',nx'⟩))
 (hN:∀s' aj a' w',K s'->aQ M a7 H0 w0 n cx aj s' a' w'->next a' w')
 (hQ:∀v s' aj w' val,X v s'->aQ M a7 H0 w0 n cx aj s' a w'->V.den (ad M aj s'.H) aj s'.H w' v val->Q (.panic [{v:=val,recovered:=false}]) a w'):o.uponIn (bU ro) k P a next Q ((execOp a.eval o).run P w):=by
 unfold lp at h
 obtain⟨f1,f2,f3,f4,f5⟩:=bN hs.heap (V.aA all) (aY all _ aT)
 have ft:s.H.put (bH s.H.o (V.aA all))=⟨put s.o (bH s.o (V.aA all)),s.H.us⟩:=fe (by rw[gH];exact aY all _ aT)
 have fY:=V.ax f2 _ _ aT
 rcases h with⟨ds,out,dc,hP,hK⟩|⟨ds,out,dc,hP,im,hK⟩|⟨ds,out,dc,hP,Mj,hK⟩|hC|hC
 ·have mA:=bD f1 all ds _ f3 dc fY
  have hM:∀b,ad M φ (s.H.put (bH s.H.o (V.aA all))) b->b<w.heap.size:=fun b hb=>hb.elim (f1.om b) fun hl=>(f1.ours b hl).2
  have cq:=hP.2 _ w vals hM mA
  rw[cB hP.1]
  refine⟨fun hd=>by simp[bU]at hd,bp (cq.mono fun e w' ⟨hk,ho⟩=> ?_)⟩
  obtain⟨k1,k2⟩:=cX f1 hk
  cases out with
  |ret rs=>
   cases e with
   |returned val=>
    refine hN _ _ _ _ hK (fA hs k1 (f2.trans k2) (fg ho) ba (by rw[ft]) ?_)
    intro id hu;rw[ft]at hu;exact Nat.lt_succ_of_lt hu
   |panicked ch=>cases rs with|nil=>exact ho.elim|cons x l=>cases l<;>exact ho.elim
   |outgrown=>cases rs with|nil=>exact ho.elim|cons x l=>cases l<;>exact ho.elim
  |aJ x=>
   cases e with
   |returned val=>exact ho.elim
   |panicked ch=>
    obtain⟨val,rfl,hd⟩:=ho
    have nA:=b7 hs k1 (f2.trans k2) (o':=put s.o (bH s.o (V.aA all))) (nx':=s.nx+1) (by rw[ft]) (fun id hu=>by rw[ft]at hu;exact Nat.lt_succ_of_lt hu)
    refine hQ _ _ _ _ val hK nA ?_
    have e1:ad M φ (S.H ⟨s.env,put s.o (bH s.o (V.aA all)),s.nx+1⟩)=ad M φ (s.H.put (bH s.H.o (V.aA all))):=by rw[ft];rfl
    simp only[V.den]
    rw[e1];exact hd
   |outgrown=>exact ho.elim
 ·have mA:=bD f1 all ds _ f3 dc fY
  have hM:∀b,ad M φ (s.H.put (bH s.H.o (V.aA all))) b->b<w.heap.size:=fun b hb=>hb.elim (f1.om b) fun hl=>(f1.ours b hl).2
  have cq:=hP.2 _ w vals hM mA
  rw[cB hP.1]
  refine⟨fun hd=>by simp[bU]at hd,bp (cq.mono fun e w' ⟨hk,ho⟩=> ?_)⟩
  obtain⟨k1,k2⟩:=cX hs.heap hk
  have ho:=R.nB (B':=ad M φ s.H) im ho
  cases out with
  |ret rs=>
   cases e with
   |returned val=>
    exact hN _ _ _ _ hK (fA hs k1 k2 (fg ho) ba rfl fun id hu=>Nat.lt_succ_of_lt hu)
   |panicked ch=>cases rs with|nil=>exact ho.elim|cons x l=>cases l<;>exact ho.elim
   |outgrown=>cases rs with|nil=>exact ho.elim|cons x l=>cases l<;>exact ho.elim
  |aJ x=>
   cases e with
   |returned val=>exact ho.elim
   |panicked ch=>
    obtain⟨val,rfl,hd⟩:=ho
    exact hQ _ _ _ _ val hK (b7 hs k1 k2 (o':=s.o) (nx':=s.nx+1) rfl fun id hu=>Nat.lt_succ_of_lt hu) hd
   |outgrown=>exact ho.elim
 ·obtain⟨a1,a2,a3,a4,a5⟩:=bN hs.heap ((V.aA all).filter fun id=>(s.o id).fb) (fun id ai=>aY all _ aT id (List.mem_filter.1 ai).1)
  have oX:s.H.put (bH s.H.o ((V.aA all).filter fun id=>(s.o id).fb))=⟨put s.o (ki s.o (V.aA all)),s.H.us⟩:=by
   rw[vr]
   exact fe (by rw[gH];exact fun id ai=>aY all _ aT id (List.mem_filter.1 ai).1)
  have mA:=bD f1 all ds _ f3 dc fY
  have hM:∀b,ad M φ (s.H.put (bH s.H.o (V.aA all))) b->b<w.heap.size:=fun b hb=>hb.elim (f1.om b) fun hl=>(f1.ours b hl).2
  have cq:=hP.2 _ w vals hM mA
  rw[cB hP.1]
  refine⟨fun hd=>by simp[bU]at hd,bp (cq.mono fun e w' ⟨hk,ho⟩=> ?_)⟩
  obtain⟨k1,k2⟩:=cX a1 hk
  have dU:∀b,iw w' b-> ¬ad M φ (s.H.put (bH s.H.o (V.aA all))) b-> ¬ad M φ (s.H.put (bH s.H.o ((V.aA all).filter fun id=>(s.o id).fb))) b:=by
   intro b hc hn hm
   rcases hm with hM|⟨id,hl,hb⟩
   ·exact hn (.inl hM)
   ·by_cases ai:id∈V.aA all
    ·cases hx:s.H.o id with
     |arr ep ty sz es=>
      rw[a3 id (List.mem_filter.2 ⟨ai,by show(s.H.o id).fb=true;rw[hx];rfl⟩),hx]at hl
      cases hl
     |map kt vt l=>
      have fN:id∉(V.aA all).filter fun id=>(s.o id).fb:=fun h=>by
       have h2:(s.H.o id).fb=true:=(List.mem_filter.1 h).2
       rw[hx]at h2;cases h2
      have aI:=k1.ok id
      unfold aw at aI
      rw[a4 id fN,hx]at aI
      obtain⟨b',es,clock,g1,g2,_⟩:=aI
      rw[g1]at hb
      injection hb with hb
      subst hb
      obtain⟨cs,ty,fz,hc⟩:=hc
      rw[g2]at hc
      cases hc
     |_=>
      have fN:id∉(V.aA all).filter fun id=>(s.o id).fb:=fun h=>by
       have h2:(s.H.o id).fb=true:=(List.mem_filter.1 h).2
       rw[hx]at h2;cases h2
      refine hn (.inr ⟨id, ?_,hb⟩)
      rw[a4 id fN,hx]at hl
      rw[f3 id ai,hx]
      exact hl
    ·have fN:id∉(V.aA all).filter fun id=>(s.o id).fb:=fun h=>ai (List.mem_filter.1 h).1
     refine hn (.inr ⟨id, ?_,hb⟩)
     rw[a4 id fN]at hl
     rw[f4 id ai]
     exact hl
  have ho:=R.tD (w':=w') (B':=ad M φ (s.H.put (bH s.H.o ((V.aA all).filter fun id=>(s.o id).fb)))) dU Mj ho
  cases out with
  |ret rs=>
   cases e with
   |returned val=>
    refine hN _ _ _ _ hK (fA hs k1 (a2.trans k2) (fg ho) ba (by rw[oX]) ?_)
    intro id hu;rw[oX]at hu;exact Nat.lt_succ_of_lt hu
   |panicked ch=>cases rs with|nil=>exact ho.elim|cons x l=>cases l<;>exact ho.elim
   |outgrown=>cases rs with|nil=>exact ho.elim|cons x l=>cases l<;>exact ho.elim
  |aJ x=>
   cases e with
   |returned val=>exact ho.elim
   |panicked ch=>
    obtain⟨val,rfl,hd⟩:=ho
    have nA:=b7 hs k1 (a2.trans k2) (o':=put s.o (ki s.o (V.aA all))) (nx':=s.nx+1) (by rw[oX]) (fun id hu=>by rw[oX]at hu;exact Nat.lt_succ_of_lt hu)
    refine hQ _ _ _ _ val hK nA ?_
    have e1:ad M φ (S.H ⟨s.env,put s.o (ki s.o (V.aA all)),s.nx+1⟩)=ad M φ (s.H.put (bH s.H.o ((V.aA all).filter fun id=>(s.o id).fb))):=by rw[oX];rfl
    simp only[V.den]
    rw[e1];exact hd
   |outgrown=>exact ho.elim
 ·exact mM hs ba cB aT hC hN hQ
 ·obtain⟨f1,f2,f3,f4,f5⟩:=bN hs.heap (br s.o all) (dm all _ s.o aT)
  have ft:s.H.put (bH s.H.o (br s.o all))=hp (put s.o (bH s.o (br s.o all))) s.nx:=fe (by rw[gH];exact dm all _ s.o aT)
  have fY:=tE f1 all _ f3 (V.ax f2 _ _ aT)
  rw[ft]at f1 f2 fY
  exact mM (s:=⟨s.env,put s.o (bH s.o (br s.o all)),s.nx⟩) (b7 hs f1 f2 rfl fun id hu=>hu) ba cB fY hC hN hQ
theorem vu(hs:aQ M a7 H0 w0 n cx φ s a w){o:Oper}{c:Call}{f:Operand}(bL:o.op= .call c)(hc:c.callee= .value f)(ba:dk n o.dst)
 (h:oQ P s (s.ev f) (c.args.toList.map s.ev) (fun v o' nx'=>K ⟨ay s.env o.dst v,o',nx'⟩) (fun v o' nx'=>X v ⟨s.env,o',nx'⟩))
 (hN:∀s' aj a' w',K s'->aQ M a7 H0 w0 n cx aj s' a' w'->next a' w')
 (hQ:∀v s' aj w' val,X v s'->aQ M a7 H0 w0 n cx aj s' a w'->V.den (ad M aj s'.H) aj s'.H w' v val->Q (.panic [{v:=val,recovered:=false}]) a w'):o.wpIn (bU ro) k P a w next Q:=by
 refine eJ (fun c' tF=>by rw[bL]at tF;cases tF) ?_
 have hf:=fQ (M:=M) (φ:=φ) (H:=s.H) (w:=w) s a hs.env f
 have b6:=eE (M:=M) (φ:=φ) (H:=s.H) (w:=w) s a hs.env c.args.toList
 unfold oQ at h
 split at h
 ·rename_i g first cap nC
  rw[nC]at hf
  obtain⟨fa,ca,xX,pY,A0⟩:=hf
  have aT:V.ak (ad M φ s.H) φ s.H w (first++c.args.toList.map s.ev++cap) (fa++c.args.map a.eval++ca).toList:=by
   rw[Array.toList_append,Array.toList_append,Array.toList_map]
   exact V.fB pY b6 A0
  generalize first++c.args.toList.map s.ev++cap=all at h aT
  generalize qV:fa++c.args.map a.eval++ca=vals at aT
  have cB:eO P g->(execOp a.eval o).run P w= .ok (.enter g vals) w:=by
   intro he
   have:=ff (w:=w) he (fa++c.args.map a.eval++ca)
   rw[qV]at this
   simp[execOp,bL,resolve,hc,xX,Deferred.ofValue,invoke,this,qV]
  exact oW hs ba cB aT h hN hQ
 ·rename_i id nC
  rw[nC]at hf
  obtain⟨_,cl,Mk⟩:=hf
  obtain⟨aM,hR⟩:=h
  obtain⟨b,bJ,xX⟩:=Mk aM
  obtain⟨fn,tmps,assign,body,h1,h2⟩:=hR M φ w (c.args.map a.eval) b hs.heap (by rw[Array.toList_map];exact b6) bJ
  have cB:(execOp a.eval o).run P w= .ok (.round b fn tmps assign body) w:=by
   simp[execOp,bL,resolve,hc,xX,Deferred.ofValue,invoke,h1]
  rw[cB]
  refine⟨fun hd=>by simp[bU]at hd,RoundIn.mono (h2 (k - 1)) fun e w' ⟨aj,o',nx',v,k1,k2,k3⟩=> ?_⟩
  cases e with
  |returned val=>exact hN _ _ _ _ k3.2 (fA hs k1 k2 k3.1 ba rfl fun id hu=>hu)
  |panicked ch=>
   obtain⟨val,rfl,k4,k5⟩:=k3
   exact hQ _ _ _ _ val k5 (b7 hs k1 k2 (o':=o') (nx':=nx') rfl fun id hu=>hu) k4
  |outgrown=>exact k3.elim
 ·exact h.elim
theorem r8(hs:aQ M a7 H0 w0 n cx φ s a w){o:Oper}{c:Call}{r:Operand}{m:String}{g:FuncId}{y:V}(bL:o.op= .call c)(hc:c.callee= .invoke r m)(ba:dk n o.dst)(hr:lq P m (s.ev r)=some (g,y))
 (h:lp P s g (y::c.args.toList.map s.ev) (fun v o' nx'=>K ⟨ay s.env o.dst v,o',nx'⟩) (fun v o' nx'=>X v ⟨s.env,o',nx'⟩))
 (hN:∀s' aj a' w',K s'->aQ M a7 H0 w0 n cx aj s' a' w'->next a' w')
 (hQ:∀v s' aj w' val,X v s'->aQ M a7 H0 w0 n cx aj s' a w'->V.den (ad M aj s'.H) aj s'.H w' v val->Q (.panic [{v:=val,recovered:=false}]) a w'):o.wpIn (bU ro) k P a w next Q:=by
 refine eJ (fun c' tF=>by rw[bL]at tF;cases tF) ?_
 have hf:=fQ (M:=M) (φ:=φ) (H:=s.H) (w:=w) s a hs.env r
 have b6:=eE (M:=M) (φ:=φ) (H:=s.H) (w:=w) s a hs.env c.args.toList
 unfold lq at hr
 split at hr
 ·rename_i t d hx
  rw[hx]at hf
  obtain⟨val,hv,hd⟩:=hf
  split at hr
  ·rename_i ti Ml
   split at hr
   ·rename_i mr lx
    split at hr
    ·rename_i f r9
     split at hr
     ·rename_i wS
      injection hr with hr
      injection hr with h1 h2
      subst h1;subst h2
      refine oW (vals:=#[val]++c.args.map a.eval) hs ba ?_ ?_ h hN hQ
      ·intro he
       have cB:=ff (w:=w) he (#[val]++c.args.map a.eval)
       have Mm:mr.path=#[]:=Array.isEmpty_iff.1 wS.1
       have hu:∃u,P.underlying t=some u/\∀e,u≠ .pointer e:=by
        have:=wS.2
        unfold wO at this
        split at this
        ·cases this
        ·rename_i u iO hu;exact⟨u,hu,fun e he=>iO e he⟩
        ·cases this
       obtain⟨u,hu,wT⟩:=hu
       have hm:(method (P.types.size+Made.depth) t val m).run P w= .ok (f,val) w:=by
        have:P.types.size+Made.depth=(P.types.size+Made.depth - 1)+1:=by simp[Made.depth]
        rw[this]
        cases u<;>first|exact absurd rfl (wT _)|simp[method,typeInfo,Ml,lx,Mm,r9,follow,receiverAt,run_underlying hu,_root_.Go.Place.get]
       have h0:(#[Value.iface t val]++Array.map a.eval c.args)[0]? =some (.iface t val):=by
        rw[Array.getElem?_append_left (by simp)];rfl
       have h1:(Array.map a.eval c.args).extract 0 c.args.size=Array.map a.eval c.args:=by
        rw[show c.args.size=(Array.map a.eval c.args).size from by simp,Array.extract_size]
       simp[execOp,bL,resolve,hc,invoke,callMethod,hv,h0,h1,hm,cB]
      ·simp only[Array.toList_append,Array.toList_map]
       exact⟨val,_,rfl,hd,b6⟩
     ·cases hr
    ·cases hr
   ·cases hr
  ·cases hr
 ·cases hr
theorem mN(hs:aQ M a7 H0 w0 n cx φ s a w){o:Oper}(h:GR P n s o X K)
 (hN:∀s' aj a' w',K s'->aQ M a7 H0 w0 n cx aj s' a' w'->next a' w')
 (hQ:∀v s' aj w' val,X v s'->aQ M a7 H0 w0 n cx aj s' a w'->V.den (ad M aj s'.H) aj s'.H w' v val->Q (.panic [{v:=val,recovered:=false}]) a w'):o.wpIn (bU ro) k P a w next Q:=by
 obtain⟨ba,h⟩:=h
 split at h
 ·rename_i c bL
  split at h
  ·rename_i f hc
   exact vu hs bL hc ba h hN hQ
  ·rename_i r m hc
   split at h
   ·rename_i g y hr;exact r8 hs bL hc ba hr h hN hQ
   ·exact h.elim
  ·exact tC hs rfl ba h hN
 ·rename_i x bL
  have hx:=fQ (M:=M) (φ:=φ) (H:=s.H) (w:=w) s a hs.env x
  have aJ:∀ (t:TypeId) (u:Value),a.eval x= .iface t u->Q (.panic [{v:= .iface t u,recovered:=false}]) a w->o.wpIn (bU ro) k P a w next Q:=by
   intro t u hu hq
   refine eJ (fun c hc=>by rw[bL]at hc;cases hc) ?_
   have hr:(execOp a.eval o).run P w= .halt (.panic (.iface t u)) w:=by simp[execOp,bL,hu,Instr.panic]
   rw[hr];exact hq
  split at h
  ·rename_i t y hv
   rw[hv]at hx
   obtain⟨u,hu,hd⟩:=hx
   exact aJ t u hu (hQ _ s φ w (.iface t u) h hs ⟨u,rfl,hd⟩)
  ·rename_i t y hv
   rw[hv]at hx
   obtain⟨u,hu,hd⟩:=hx
   exact aJ t u hu (hQ _ s φ w (.iface t u) h hs ⟨u,rfl,hd⟩)
  ·exact h.elim
 ·exact tC hs rfl ba h hN
end
end Go.Proofs.YtpkobkdgcanmjaaGreat
