/-
  A PART OF THE PROOF. Conditions: none.
-/
import Derived.WalkKit
import Derived.Below
set_option linter.unusedSimpArgs false
set_option linter.unusedVariables false
namespace Go.Proofs.YtealblliddhgiaaGreat
def qg(ops:Array Oper)(j:Nat):Option Tmp:=(ops[j]?).bind (·.dst)
structure cf where
 dst:Option Nat
 op:Op
 gd:Option (Nat×Bool):=none
instance:Inhabited cf:=⟨⟨none, .ready 0,none⟩⟩
def zK(n:Nat):Option Tmp->Bool
 |some d=>decide (d<n)
 |none=>true
def Ey(n:Nat)(ops:Array Oper)(o:Oper):Option cf:=
 if zK n o.dst=true then match o.guard with
  |none=>some ⟨o.dst,o.op,none⟩
  |some (j,want)=>match qg ops j with
   |some d=>some ⟨o.dst,o.op,some (d,want)⟩
   |none=>none
 else none
def kj(n:Nat)(ops:Array Oper):List Oper->Option (List cf)
 |[]=>some []
 |o::l=>match Ey n ops o,kj n ops l with
  |some x,some xs=>some (x::xs)
  |_,_=>none
def tmpsOf(o:cf):List Nat:=(o.op.operands.toList.filterMap fun| .tmp t=>some t|_=>none)++(match o.gd with|some (d,_)=>[d]|none=>[])
def eX(o:cf):List Nat:=tmpsOf o++o.dst.toList
def bu(ops:Array Oper)(i:Nat):List Nat:=match ops[i]? with|some o=>(o.after.toList.filter (Region.binds .any)).map (·.on)|none=>[]
def bX(l:List cf)(i:Nat):cf:=l.getD i default
inductive IC where
 |skip|af (l:List cf)|cW (l:List cf) (pr:List (List Nat))|seq (a b:IC)|cond (c:Operand) (a b:IC)|block (id:Nat) (a:IC)|loop (a:IC)|exit (id:Nat)|ret|bad
 |Cz (g:Operand) (ps:List Nat) (a b:IC)
 deriving Inhabited
inductive kn where
 |ret|exit (id:Nat)
def kn.code:kn->Code
 | .ret=> .ret
 | .exit id=> .exit id
def kV(acc:List Nat):List Nat->Nat
 |[]=>0
 |j::ps=>(2^j|||acc.getD j 0)|||kV acc ps
def eo:List (List Nat)->List Nat->List Nat
 |[],acc=>acc
 |ps::l,acc=>eo l (acc++[kV acc ps])
def pD(x y:cf):Bool:=match x.dst with|some d=> !(eX y).contains d|none=>true
def vr(l:List cf)(pr:List (List Nat)):Bool:=
 (List.range l.length).all fun j=>(List.range j).all fun i=>((eo pr []).getD j 0).testBit i||(pD (bX l i) (bX l j)&&pD (bX l j) (bX l i))
def jX(xs ys:List Nat):Bool:=xs.all fun x=> !ys.contains x
def eE(pr:List (List Nat))(fp:List (List Nat×List Nat)):Bool:=
 (List.range fp.length).all fun j=>(List.range j).all fun i=>((eo pr []).getD j 0).testBit i||
  (jX (fp.getD i ([],[])).2 (fp.getD j ([],[])).1&&jX (fp.getD i ([],[])).2 (fp.getD j ([],[])).2&&jX (fp.getD j ([],[])).2 (fp.getD i ([],[])).1)
def gh(ops:Array Oper):List (List Nat):=(List.range ops.size).map (bu ops)
def Ks(pr:List (List Nat)):Bool:=(List.range pr.length).all fun k=>(pr.getD k []).all fun j=>decide (j<k)
theorem ry{acc:List Nat}{i:Nat}:∀ (ps:List Nat),(kV acc ps).testBit i=true->∃j∈ps,i=j\/(acc.getD j 0).testBit i=true
 |[],h=>by simp[kV]at h
 |j::ps,h=>by
  simp only[kV,Nat.testBit_or,Bool.or_eq_true]at h
  rcases h with(h|h)|h
  ·rw[Nat.testBit_two_pow]at h
   exact⟨j,by simp, .inl (by have h:=of_decide_eq_true h;exact h.symm)⟩
  ·exact⟨j,by simp, .inr h⟩
  ·obtain⟨j',h1,h2⟩:=ry ps h
   exact⟨j',by simp[h1],h2⟩
theorem pE{k:Nat}:∀ (l:List (List Nat)) (acc:List Nat),k<acc.length->(eo l acc).getD k 0=acc.getD k 0
 |[],_,_=>rfl
 |ps::l,acc,h=>by
  rw[eo,pE l _ (by simp;omega)]
  simp[List.getD_eq_getElem?_getD,List.getElem?_append_left h]
theorem pF{i:Nat}:∀ (l:List (List Nat)) (acc:List Nat) (k:Nat),acc.length<=k->(∀k',k'<l.length->∀j∈l.getD k' [],j<acc.length+k')->((eo l acc).getD k 0).testBit i=true->
 ∃j∈l.getD (k - acc.length) [],i=j\/((eo l acc).getD j 0).testBit i=true
 |[],acc,k,hk,_,h=>by
  simp only[eo]at h
  rw[List.getD_eq_getElem?_getD,List.getElem?_eq_none hk]at h
  simp at h
 |ps::l,acc,k,hk,hp,h=>by
  simp only[eo]at h|-
  by_cases he:k=acc.length
  ·subst he
   rw[pE l _ (by simp)]at h
   have e:(acc++[kV acc ps]).getD acc.length 0=kV acc ps:=by simp[List.getD_eq_getElem?_getD]
   rw[e]at h
   obtain⟨j,h1,h2⟩:=ry ps h
   refine⟨j,by simpa using h1,h2.imp id fun h2=> ?_⟩
   have hj:j<acc.length:=by simpa using hp 0 (by simp) j (by simpa using h1)
   rw[pE l _ (by simp;omega)]
   simpa[List.getD_eq_getElem?_getD,List.getElem?_append_left hj]using h2
  ·obtain⟨j,h1,h2⟩:=pF l (acc++[kV acc ps]) k (by simp;omega) (fun k' IL j hj=>by
    have:=hp (k'+1) (by simp;omega) j (by simpa using hj)
    simp;omega) h
   refine⟨j, ?_,h2⟩
   have e:k - acc.length=(k - (acc++[kV acc ps]).length)+1:=by simp;omega
   rw[e];simpa using h1
theorem oe{pr:List (List Nat)}(hp:∀k,k<pr.length->∀j∈pr.getD k [],j<k){E:Nat->Bool}(hE:∀k,k<pr.length->E k=true->∀j∈pr.getD k [],E j=true):
 ∀k,k<pr.length->(∀j∈pr.getD k [],E j=true)->∀i,((eo pr []).getD k 0).testBit i=true->E i=true:=by
 intro k
 induction k using Nat.strongRecOn with
 |ind k ih=>
  intro hk hj i hi
  obtain⟨j,h1,h2⟩:=pF pr [] k (by simp) (fun k' IL j hj=>by simpa using hp k' IL j hj) hi
  simp only[List.length_nil,Nat.sub_zero]at h1
  rcases h2 with rfl|h2
  ·exact hj _ h1
  ·have NU:=hp k hk j h1
   exact ih j NU (by omega) (hE j (by omega) (hj j h1)) i h2
theorem xd{pr:List (List Nat)}(hp:∀k,k<pr.length->∀j∈pr.getD k [],j<k):∀k,k<pr.length->∀i,((eo pr []).getD k 0).testBit i=true->i<k:=by
 intro k
 induction k using Nat.strongRecOn with
 |ind k ih=>
  intro hk i hi
  obtain⟨j,h1,h2⟩:=pF pr [] k (by simp) (fun k' IL j hj=>by simpa using hp k' IL j hj) hi
  simp only[List.length_nil,Nat.sub_zero]at h1
  have NU:=hp k hk j h1
  rcases h2 with rfl|h2
  ·exact NU
  ·have:=ih j NU (by omega) i h2;omega
def low(n:Nat):Code->IC
 | .skip=> .skip
 | .label _=> .skip
 | .scope c=>low n c
 | .region _ ops false=>match kj n ops ops.toList with
   |some l=> .af l
   |none=> .bad
 | .region _ ops true=>match kj n ops ops.toList with
   |some l=>if vr l (gh ops)&&Ks (gh ops)then .cW l (gh ops)else .bad
   |none=> .bad
 | .seq a b=> .seq (low n a) (low n b)
 | .cond c a b=> .cond c (low n a) (low n b)
 | .block id a=> .block id (low n a)
 | .loop a=> .loop (low n a)
 | .exit id=> .exit id
 | .ret=> .ret
 | .rangeFunc g ps a b=> .Cz g ps.toList (low n a) (low n b)
 |_=> .bad
end Go.Proofs.YtealblliddhgiaaGreat
namespace Go.Proofs.YtealblliddhgiaaGreat
inductive D where
 |int (k:IntKind) (n:Int)|bool (b:Bool)|str (s:List UInt8)
 |fH|gE|aV|cO
 |agg (cs:List D)|sl (es:List D)|iface (t:TypeId) (d:D)
 |mp (ks vs:List D)
 deriving Inhabited
def Flat(vs:List Value):Prop:=∀u∈vs,u.oneCell'=true
def gk(B:Nat->Prop)(w:World)(a:Addr)(cs:Array Value):Prop:=∀j u,cs[j]? =some u->w.cell? (a.add j)=some u/\ ¬B a.block
def iI(es:Array MapEntry)(clock:Nat):Prop:=(∀e∈es.toList,e.born<clock)/\(es.toList.map (·.born)).Nodup
def og(ks:List D):Prop:=ks.Nodup/\∀k∈ks,∃n,k= .int .i64 n
mutual
def D.den (B:Nat->Prop)(w:World):D->Value->Prop
 | .int k n,v=>v= .int k n
 | .bool b,v=>v= .bool b
 | .str l,v=>∃s:ByteArray,v= .string s/\s.data.toList=l
 | .fH,v=>v= .nilIface
 | .gE,v=>v= .pointer none
 | .aV,v=>v= .nilFunc
 | .cO,v=>v= .map none
 | .agg cs,v=>∃a,v= .agg a/\D.aB B w cs a.toList/\Flat a.toList
 | .sl es,v=>∃base len cap,v= .slice base len cap/\len=es.length/\len<=cap/\(base=none->cap=0)/\
  ∃sz,∀a,base=some a->(cap≠0->a.spot=none)/\D.elems B w sz a 0 es
 | .iface t d,v=>∃u,v= .iface t u/\D.den B w d u
 | .mp ks vs,v=>∃m es clock p,v= .map (some m)/\w.heap[m]? =some (.map es clock)/\ ¬B m/\iI es clock/\(p=es.toList\/(p.Perm es.toList/\og ks))/\D.aB B w ks (p.map (·.key))/\D.aB B w vs (p.map (·.val))
def D.aB (B:Nat->Prop)(w:World):List D->List Value->Prop
 |[],vs=>vs=[]
 |d::ds,vs=>∃u us,vs=u::us/\D.den B w d u/\D.aB B w ds us
def D.elems (B:Nat->Prop)(w:World)(sz:Nat)(a:Addr):Nat->List D->Prop
 |_,[]=>True
 |i,e::es=>(∃ev:Value,ev.cells.size=sz/\gk B w (a.add (i*sz)) ev.cells/\D.den B w e ev)/\D.elems B w sz a (i+1) es
end
inductive V where
 |d (x:D)|aW|agg (cs:List V)|bW (vs:List V)
 |ptr (id off:Nat)|osl (id ep:Nat)|pe (id ep i sz off:Nat)|pp (cs:List D) (off:Nat)
 |func (fn:Fn) (first cap:List V)|iface (t:TypeId) (x:V)
 |ab
 |nC (es:List D)|rz (id off n:Nat)|mp (id:Nat)|eY|ko (id:Nat)
 deriving Inhabited
inductive ae where
 |no|row (cs:List V)|arr (ep:Nat) (ty:TypeId) (sz:Nat) (es:List D)|oh (ep:Nat) (es:List D)
 |map (kt vt:TypeId) (es:List (D×D))
 |loop (nf n:Nat) (env:List V) (ps:List Nat) (a b:IC) (st:LoopState) (CA:Option kn)
 |et (es:List (D×D))|kg (es:List (D×D)) (last:Option (D×D))|rA (s:List UInt8) (pos:Nat)
 deriving Inhabited
def bB(l:List V):Nat->V:=fun i=>l.getD i .ab
structure Hp where
 o:Nat->ae
 us:Nat->Prop
def ae.aZ:ae->Option Nat
 | .arr ep _ _ _| .oh ep _=>some ep
 |_=>none
def ae.bO:ae->Bool
 | .row _| .map .. | .loop .. | .et _| .kg .. | .rA .. =>true
 |_=>false
def ae.live:ae->Bool
 | .row _| .arr .. | .map .. | .loop .. | .kg .. | .rA .. =>true
 |_=>false
def dS:Value->Option Nat
 | .pointer (some a)| .slice (some a) _ _=>some a.block
 | .map (some b)=>some b
 |_=>none
abbrev Place:=Nat->Value
def bR(φ:Place)(H:Hp)(b:Nat):Prop:=∃id,(H.o id).live=true/\dS (φ id)=some b
def ai(M:Nat->Prop)(φ:Place)(H:Hp)(b:Nat):Prop:=M b\/bR φ H b
mutual
def V.den (B:Nat->Prop)(φ:Place)(H:Hp)(w:World):V->Value->Prop
 | .d x,v=>D.den B w x v
 | .aW,v=>v= .slice none 0 0
 | .agg cs,v=>∃a,v= .agg a/\V.aB B φ H w cs a.toList/\Flat a.toList
 | .bW vs,v=>∃a,v= .tuple a/\V.aB B φ H w vs a.toList
 | .ptr id off,v=>v.oneCell'=true/\H.us id/\((H.o id).bO=true->∃b,φ id= .pointer (some ⟨b,0,none⟩)/\v= .pointer (some ⟨b,off,none⟩))
 | .osl id ep,v=>v.oneCell'=true/\H.us id/\∀e,(H.o id).aZ=some e->ep<=e/\(ep=e->v=φ id)
 | .pe id ep i sz off,v=>v.oneCell'=true/\H.us id/\∀e,(H.o id).aZ=some e->ep<=e/\(ep=e->∃b n c,φ id= .slice (some ⟨b,0,none⟩) n c/\v= .pointer (some ⟨b,i*sz+off,none⟩))
 | .pp cs off,v=>∃a ev,a.spot=none/\v= .pointer (some (a.add off))/\D.aB B w cs ev/\Flat ev/\gk B w a ev.toArray
 | .func fn first cap,v=>∃f c,v= .func fn f c/\V.aB B φ H w first f.toList/\V.aB B φ H w cap c.toList
 | .iface t x,v=>∃u,v= .iface t u/\V.den B φ H w x u
 | .ab,_=>True
 | .nC es,v=>D.den B w (.sl es) v/\∃base n,v= .slice base n n
 | .rz id off n,v=>v.oneCell'=true/\H.us id/\((H.o id).bO=true->∃b,φ id= .pointer (some ⟨b,0,none⟩)/\v= .slice (some ⟨b,off,none⟩) n n)
 | .mp id,v=>v.oneCell'=true/\H.us id/\((H.o id).bO=true->v=φ id)
 | .eY,v=>∃b,v= .bool b
 | .ko id,v=>v.oneCell'=true/\H.us id/\((H.o id).bO=true->∃b,φ id= .pointer (some ⟨b,0,none⟩)/\v= .func (.yield b) #[] #[])
def V.aB (B:Nat->Prop)(φ:Place)(H:Hp)(w:World):List V->List Value->Prop
 |[],vs=>vs=[]
 |x::xs,vs=>∃u us,vs=u::us/\V.den B φ H w x u/\V.aB B φ H w xs us
end
def gm(B:Nat->Prop)(w:World)(sz:Nat)(es:List D)(xs:List Value):Prop:=
 ∃evs:List Value,xs=evs.flatMap (·.cells.toList)/\(∀ev∈evs,ev.cells.size=sz)/\D.aB B w es evs
def aH(B:Nat->Prop)(w:World):List (D×D)->List MapEntry->Prop
 |[],es=>es=[]
 |(k,x)::l,es=>∃e es',es=e::es'/\D.den B w k e.key/\D.den B w x e.val/\aH B w l es'
def rB(B:Nat->Prop)(w:World)(l:List (D×D))(last:Option (D×D))(b:Nat):Prop:=
 w.heap[b]? =some (.mapIter none 0 #[] 0)/\l=[]/\last=none\/
 ∃m since seen es,w.heap[b]? =some (.mapIter (some m) since seen since)/\w.heap[m]? =some (.map es since)/\ ¬B m/\iI es since/\(∃l',l'.Perm l/\aH B w l' (es.toList.filter fun e=> !seen.contains e.born))/\
  ∀k x,last=some (k,x)->∃e∈es.toList,seen.back?=some e.born/\D.den B w k e.key/\D.den B w x e.val
def aL(M:Nat->Prop)(φ:Place)(H:Hp)(w:World)(id:Nat):Prop:=
 match H.o id with
 | .no=>True
 | .row cs=>∃b cX ty,φ id= .pointer (some ⟨b,0,none⟩)/\w.heap[b]? =some (.cells cX ty (0,0))/\V.aB (ai M φ H) φ H w cs cX.toList/\Flat cX.toList
 | .arr _ ty sz es=>0<sz/\∃xs,w.ownsRow 0 ty sz (φ id) es.length xs/\gm (ai M φ H) w sz es xs
 | .oh _ es=>D.den (ai M φ H) w (.sl es) (φ id)
 | .loop nf n env ps lS gY st CA=>∃b r,φ id= .pointer (some ⟨b,0,none⟩)/\w.heap[b]? =some (.loop r)/\r.fn<nf/\r.state=st/\r.pending=CA.map kn.code/\r.params.toList=ps/\r.tmps.size=n/\low n r.assign=lS/\low n r.body=gY/\
  ∀i,V.den (ai M φ H) φ H w (bB env i) (r.tmps.getD i undef)
 | .map _ _ l=>∃b es clock,φ id= .map (some b)/\w.heap[b]? =some (.map es clock)/\iI es clock/\aH (ai M φ H) w l es.toList
 | .et l=>D.den (ai M φ H) w (.mp (l.map (·.1)) (l.map (·.2))) (φ id)
 | .kg l last=>∃b,φ id= .pointer (some ⟨b,0,none⟩)/\rB (ai M φ H) w l last b
 | .rA s pos=>∃b,φ id= .pointer (some ⟨b,0,none⟩)/\w.heap[b]? =some (.stringIter ⟨⟨s⟩⟩ pos)
structure au (M:Nat->Prop) (φ:Place) (H:Hp) (w:World):Prop where
 ok:∀id,aL M φ H w id
 fresh:∀id, ¬H.us id->H.o id= .no
 apart:∀i j b,(H.o i).live=true->(H.o j).live=true->dS (φ i)=some b->dS (φ j)=some b->i=j
 ours:∀b,bR φ H b-> ¬M b/\b<w.heap.size
 tA:∀b,M b->b<w.heap.size
structure eM (m:Nat->Prop) (w w':World):Prop where
 os:w'.os=w.os
 tape:w'.tape=w.tape
 output:w'.output=w.output
 size:w.heap.size<=w'.heap.size
 block:∀k,k<w.heap.size-> ¬m k->w'.heap[k]? =w.heap[k]?
structure dX (φ:Place) (H:Hp) (ax:Place) (H':Hp):Prop where
 us:∀id,H.us id->H'.us id
 row:∀id,H.us id->(H'.o id).bO=true->(H.o id).bO=true/\ax id=φ id
 ep:∀id e',H.us id->(H'.o id).aZ=some e'->∃e,(H.o id).aZ=some e/\e<=e'/\(e=e'->ax id=φ id)
structure Trans (φ:Place) (H:Hp) (w:World) (ax:Place) (H':Hp) (w':World):Prop where
 cg:eM (bR φ H) w w'
 grow:∀b,bR ax H' b->bR φ H b\/w.heap.size<=b
 rel:dX φ H ax H'
theorem eM.refl (m:Nat->Prop)(w:World):eM m w w:=⟨rfl,rfl,rfl,Nat.le_refl _,fun _ _ _=>rfl⟩
theorem dX.refl (φ:Place)(H:Hp):dX φ H φ H:=⟨fun _ h=>h,fun _ _ h=>⟨h,rfl⟩,fun _ e' _ h=>⟨e',h,Nat.le_refl _,fun _=>rfl⟩⟩
theorem Trans.refl (φ:Place)(H:Hp)(w:World):Trans φ H w φ H w:=⟨eM.refl _ _,fun _ h=> .inl h,dX.refl _ _⟩
theorem dX.trans {φ ax Ez:Place}{H H' NV:Hp}(h:dX φ H ax H')(k:dX ax H' Ez NV):dX φ H Ez NV where
 us id aj:=k.us id (h.us id aj)
 row id aj hr:=by
  obtain⟨a,b⟩:=k.row id (h.us id aj) hr
  obtain⟨c,d⟩:=h.row id aj a
  exact⟨c,b.trans d⟩
 ep id e' aj he:=by
  obtain⟨e,h1,h2,h3⟩:=k.ep id e' (h.us id aj) he
  obtain⟨e0,g1,g2,g3⟩:=h.ep id e aj h1
  refine⟨e0,g1,Nat.le_trans g2 h2,fun heq=> ?_⟩
  have a:e0=e:=by omega
  have b:e=e':=by omega
  exact(h3 b).trans (g3 a)
theorem Trans.trans {φ ax Ez:Place}{H H' NV:Hp}{w w' IM:World}(h:Trans φ H w ax H' w')(k:Trans ax H' w' Ez NV IM):Trans φ H w Ez NV IM where
 cg:={
  os:=k.cg.os.trans h.cg.os
  tape:=k.cg.tape.trans h.cg.tape
  output:=k.cg.output.trans h.cg.output
  size:=Nat.le_trans h.cg.size k.cg.size
  block:=fun b hb hm=>by
   rw[k.cg.block b (Nat.lt_of_lt_of_le hb h.cg.size) (fun hl=>by
    rcases h.grow b hl with h1|h1
    ·exact hm h1
    ·omega),h.cg.block b hb hm]}
 grow b hl:=by
  rcases k.grow b hl with h1|h1
  ·exact h.grow b h1
  ·exact .inr (Nat.le_trans h.cg.size h1)
 rel:=h.rel.trans k.rel
@[simp] theorem MF (a:Addr) (j:Nat):(a.add j).block=a.block:=by unfold Addr.add;split<;>rfl
def oj(w:World)(b:Nat):Prop:=∃cs ty fz,w.heap[b]? =some (.cells cs ty fz)
def cA(w:World)(b:Nat):Prop:=oj w b\/∃es clock,w.heap[b]? =some (.map es clock)
theorem cA.lt {w:World}{b:Nat}(h:cA w b):b<w.heap.size:=by
 rcases Nat.lt_or_ge b w.heap.size with hl|hl
 ·exact hl
 ·rcases h with⟨cs,ty,fz,h⟩|⟨es,clock,h⟩
  ·rw[Array.getElem?_eq_none hl]at h;cases h
  ·rw[Array.getElem?_eq_none hl]at h;cases h
theorem nj{w:World}{a:Addr}{u:Value}(h:w.cell? a=some u):oj w a.block:=by
 unfold World.cell? at h
 split at h
 ·exact⟨_,_,_,by assumption⟩
 ·cases h
theorem qL{w:World}{a:Addr}{u:Value}(h:w.cell? a=some u):cA w a.block:= .inl (nj h)
theorem gk.mono {B B':Nat->Prop}{w w':World}{a:Addr}{cs:Array Value}
 (hb:∀b,cA w b-> ¬B b->w'.heap[b]? =w.heap[b]? /\ ¬B' b) (h:gk B w a cs):gk B' w' a cs:=by
 intro j u hj
 obtain⟨h1,h2⟩:=h j u hj
 have bM:cA w a.block:=by simpa using qL h1
 obtain⟨h3,h4⟩:=hb _ bM h2
 exact⟨by rw[World.cell?_of_block (w:=w) (w':=w') (a:=a.add j) (by simpa using h3)];exact h1,h4⟩
mutual
theorem D.aC {B B':Nat->Prop}{w w':World}(hb:∀b,cA w b-> ¬B b->w'.heap[b]? =w.heap[b]? /\ ¬B' b):
 ∀ (x:D) (v:Value),D.den B w x v->D.den B' w' x v
 | .int _ _,_,h| .bool _,_,h| .str _,_,h| .fH,_,h| .gE,_,h| .aV,_,h| .cO,_,h=>by simpa[D.den]using h
 | .agg cs,_,h=>by
   obtain⟨a,rfl,h,hf⟩:=h
   exact⟨a,rfl,D.aI hb cs _ h,hf⟩
 | .sl es,_,h=>by
   obtain⟨base,len,cap,rfl,h1,h2,h3,sz,h4⟩:=h
   exact⟨base,len,cap,rfl,h1,h2,h3,sz,fun a ha=>⟨(h4 a ha).1,D.rC hb sz a es 0 (h4 a ha).2⟩⟩
 | .iface t d,_,h=>by
   obtain⟨u,rfl,h⟩:=h
   exact⟨u,rfl,D.aC hb d u h⟩
 | .mp ks vs,_,h=>by
   obtain⟨m,es,clock,p,rfl,h1,h2,h3,hp,h4,h5⟩:=h
   obtain⟨k1,k2⟩:=hb m (.inr ⟨es,clock,h1⟩) h2
   exact⟨m,es,clock,p,rfl,k1.trans h1,k2,h3,hp,D.aI hb ks _ h4,D.aI hb vs _ h5⟩
theorem D.aI {B B':Nat->Prop}{w w':World}(hb:∀b,cA w b-> ¬B b->w'.heap[b]? =w.heap[b]? /\ ¬B' b):
 ∀ (ds:List D) (vs:List Value),D.aB B w ds vs->D.aB B' w' ds vs
 |[],_,h=>h
 |d::ds,_,h=>by
  obtain⟨u,us,rfl,h1,h2⟩:=h
  exact⟨u,us,rfl,D.aC hb d u h1,D.aI hb ds us h2⟩
theorem D.rC {B B':Nat->Prop}{w w':World}(hb:∀b,cA w b-> ¬B b->w'.heap[b]? =w.heap[b]? /\ ¬B' b)(sz:Nat)(a:Addr):
 ∀ (es:List D) (i:Nat),D.elems B w sz a i es->D.elems B' w' sz a i es
 |[],_,_=>trivial
 |e::es,i,h=>by
  obtain⟨⟨ev,h1,h2,h3⟩,h4⟩:=h
  exact⟨⟨ev,h1,h2.mono hb,D.aC hb e ev h3⟩,D.rC hb sz a es (i+1) h4⟩
end
theorem aH.mono {B B':Nat->Prop}{w w':World}(hb:∀b,cA w b-> ¬B b->w'.heap[b]? =w.heap[b]? /\ ¬B' b):
 ∀ (l:List (D×D)) (es:List MapEntry),aH B w l es->aH B' w' l es
 |[],_,h=>h
 |(k,x)::l,_,h=>by
  obtain⟨e,es,rfl,h1,h2,h3⟩:=h
  exact⟨e,es,rfl,D.aC hb k _ h1,D.aC hb x _ h2,aH.mono hb l es h3⟩
theorem rB.mono {B B':Nat->Prop}{w w':World}(hb:∀b,cA w b-> ¬B b->w'.heap[b]? =w.heap[b]? /\ ¬B' b){l:List (D×D)}{last:Option (D×D)}{b:Nat}(Wj:w'.heap[b]? =w.heap[b]?)(h:rB B w l last b):rB B' w' l last b:=by
 rcases h with⟨h1,h2⟩|⟨m,since,seen,es,h1,h2,h3,h4,h5,h6⟩
 ·exact .inl ⟨Wj.trans h1,h2⟩
 ·obtain⟨k1,k2⟩:=hb m (.inr ⟨es,since,h2⟩) h3
  obtain⟨l',h5,NW⟩:=h5
  refine .inr ⟨m,since,seen,es,Wj.trans h1,k1.trans h2,k2,h4,⟨l',h5,aH.mono hb l' _ NW⟩,fun k x e=> ?_⟩
  obtain⟨e,g1,g2,g3,g4⟩:=h6 k x e
  exact⟨e,g1,g2,D.aC hb k _ g3,D.aC hb x _ g4⟩
theorem iU{B:Nat->Prop}{w:World}:∀ (l:List (D×D)) (es:List MapEntry),aH B w l es↔D.aB B w (l.map (·.1)) (es.map (·.key))/\D.aB B w (l.map (·.2)) (es.map (·.val))
 |[],es=>by
  simp only[aH,List.map_nil,D.aB]
  constructor
  ·rintro rfl;exact⟨rfl,rfl⟩
  ·rintro⟨h,_⟩;simpa using h
 |(k,x)::l,es=>by
  simp only[aH,List.map_cons,D.aB]
  constructor
  ·rintro⟨e,es',rfl,h1,h2,h3⟩
   obtain⟨g1,g2⟩:=(iU l es').1 h3
   exact⟨⟨_,_,rfl,h1,g1⟩,⟨_,_,rfl,h2,g2⟩⟩
  ·rintro⟨⟨u,us,h1,h2,h3⟩,⟨v,vs,h4,h5,h6⟩⟩
   cases es with
   |nil=>simp at h1
   |cons e es'=>
    simp only[List.map_cons,List.cons.injEq]at h1 h4
    obtain⟨rfl,rfl⟩:=h1
    obtain⟨rfl,rfl⟩:=h4
    exact⟨e,es',rfl,h2,h5,(iU l es').2 ⟨h3,h6⟩⟩
theorem D.aD {B:Nat->Prop}{w:World}:∀ (ds:List D) (vs:List Value),D.aB B w ds vs->vs.length=ds.length
 |[],_,h=>by simp[D.aB]at h;simp[h]
 |d::ds,_,h=>by obtain⟨u,us,rfl,_,h2⟩:=h;simp[D.aD ds us h2]
theorem D.eu {B:Nat->Prop}{w:World}:∀ (ds:List D) (vs:List Value) (i:Nat) (d:D),D.aB B w ds vs->ds[i]? =some d->∃v,vs[i]? =some v/\D.den B w d v
 |[],_,_,_,_,hd=>by simp at hd
 |d::ds,_,0,x,h,hd=>by
  obtain⟨u,us,rfl,h1,_⟩:=h
  simp at hd;subst hd;exact⟨u,by simp,h1⟩
 |d::ds,_,i+1,x,h,hd=>by
  obtain⟨u,us,rfl,_,h2⟩:=h
  simpa using D.eu ds us i x h2 (by simpa using hd)
theorem D.tV {B:Nat->Prop}{w:World}{sz:Nat}{a:Addr}:∀ (es:List D) (i j:Nat) (e:D),D.elems B w sz a i es->es[j]? =some e->
 ∃ev:Value,ev.cells.size=sz/\gk B w (a.add ((i+j)*sz)) ev.cells/\D.den B w e ev
 |[],_,_,_,_,hd=>by simp at hd
 |e::es,i,0,x,h,hd=>by
  simp at hd;subst hd;simpa using h.1
 |e::es,i,j+1,x,h,hd=>by
  have:=D.tV es (i+1) j x h.2 (by simpa using hd)
  simpa[Nat.add_assoc,Nat.add_comm 1 j]using this
section
variable {M:Nat->Prop}{φ ax:Place}{H H':Hp}{w w':World}
theorem Trans.blocks (ht:Trans φ H w ax H' w')(b:Nat)(hc:cA w b)(h: ¬ai M φ H b):w'.heap[b]? =w.heap[b]? /\ ¬ai M ax H' b:=by
 have hb:=hc.lt
 refine⟨ht.cg.block b hb fun hl=>h (.inr hl), ?_⟩
 rintro(h1|h1)
 ·exact h (.inl h1)
 ·rcases ht.grow b h1 with h2|h2
  ·exact h (.inr h2)
  ·omega
mutual
theorem V.kp (hb:∀b,cA w b-> ¬ai M φ H b->w'.heap[b]? =w.heap[b]? /\ ¬ai M ax H' b)(hr:dX φ H ax H'):∀ (x:V) (v:Value),V.den (ai M φ H) φ H w x v->V.den (ai M ax H') ax H' w' x v
 | .d x,v,h=>D.aC hb x v h
 | .aW,_,h=>h
 | .ab,_,_=>trivial
 | .nC es,v,h=>⟨D.aC hb (.sl es) v h.1,h.2⟩
 | .rz id off n,v,h=>by
   obtain⟨h0,h1,h2⟩:=h
   refine⟨h0,hr.us id h1,fun a8=> ?_⟩
   obtain⟨h3,h4⟩:=hr.row id h1 a8
   obtain⟨b,h5,h6⟩:=h2 h3
   exact⟨b,h4.trans h5,h6⟩
 | .mp id,v,h=>by
   obtain⟨h0,h1,h2⟩:=h
   refine⟨h0,hr.us id h1,fun a8=> ?_⟩
   obtain⟨h3,h4⟩:=hr.row id h1 a8
   exact(h2 h3).trans h4.symm
 | .eY,v,h=>h
 | .ko id,v,h=>by
   obtain⟨h0,h1,h2⟩:=h
   refine⟨h0,hr.us id h1,fun a8=> ?_⟩
   obtain⟨h3,h4⟩:=hr.row id h1 a8
   obtain⟨b,h5,h6⟩:=h2 h3
   exact⟨b,h4.trans h5,h6⟩
 | .agg cs,_,h=>by obtain⟨a,rfl,h,hf⟩:=h;exact⟨a,rfl,V.fI hb hr cs _ h,hf⟩
 | .bW cs,_,h=>by obtain⟨a,rfl,h⟩:=h;exact⟨a,rfl,V.fI hb hr cs _ h⟩
 | .ptr id off,v,h=>by
   obtain⟨h0,h1,h2⟩:=h
   refine⟨h0,hr.us id h1,fun a8=> ?_⟩
   obtain⟨h3,h4⟩:=hr.row id h1 a8
   obtain⟨b,h5,h6⟩:=h2 h3
   exact⟨b,h4.trans h5,h6⟩
 | .osl id ep,v,h=>by
   obtain⟨h0,h1,h2⟩:=h
   refine⟨h0,hr.us id h1,fun e' fm=> ?_⟩
   obtain⟨e,g1,g2,g3⟩:=hr.ep id e' h1 fm
   obtain⟨h3,h4⟩:=h2 e g1
   refine⟨Nat.le_trans h3 g2,fun heq=> ?_⟩
   rw[g3 (by omega)]
   exact h4 (by omega)
 | .pe id ep i sz off,v,h=>by
   obtain⟨h0,h1,h2⟩:=h
   refine⟨h0,hr.us id h1,fun e' fm=> ?_⟩
   obtain⟨e,g1,g2,g3⟩:=hr.ep id e' h1 fm
   obtain⟨h3,h4⟩:=h2 e g1
   refine⟨Nat.le_trans h3 g2,fun heq=> ?_⟩
   rw[g3 (by omega)]
   exact h4 (by omega)
 | .pp cs off,v,h=>by
   obtain⟨a,ev,h1,h2,h3,h5,h4⟩:=h
   exact⟨a,ev,h1,h2,D.aI hb cs ev h3,h5,h4.mono hb⟩
 | .func fn first cap,_,h=>by
   obtain⟨f,c,rfl,h1,h2⟩:=h
   exact⟨f,c,rfl,V.fI hb hr first _ h1,V.fI hb hr cap _ h2⟩
 | .iface t x,_,h=>by obtain⟨u,rfl,h⟩:=h;exact⟨u,rfl,V.kp hb hr x u h⟩
theorem V.fI (hb:∀b,cA w b-> ¬ai M φ H b->w'.heap[b]? =w.heap[b]? /\ ¬ai M ax H' b)(hr:dX φ H ax H'):∀ (ds:List V) (vs:List Value),V.aB (ai M φ H) φ H w ds vs->V.aB (ai M ax H') ax H' w' ds vs
 |[],_,h=>h
 |x::xs,_,h=>by
  obtain⟨u,us,rfl,h1,h2⟩:=h
  exact⟨u,us,rfl,V.kp hb hr x u h1,V.fI hb hr xs us h2⟩
end
theorem V.aC (ht:Trans φ H w ax H' w')(x:V)(v:Value)(h:V.den (ai M φ H) φ H w x v):V.den (ai M ax H') ax H' w' x v:=V.kp ht.blocks ht.rel x v h
theorem V.aI (ht:Trans φ H w ax H' w')(ds:List V)(vs:List Value)(h:V.aB (ai M φ H) φ H w ds vs):V.aB (ai M ax H') ax H' w' ds vs:=V.fI ht.blocks ht.rel ds vs h
end
end Go.Proofs.YtealblliddhgiaaGreat
namespace Go.Proofs.YtealblliddhgiaaGreat
def aq{α:Type}(f:Nat->α)(i:Nat)(x:α):Nat->α:=fun j=>if j=i then x else f j
@[simp] theorem aJ {α:Type} (f:Nat->α) (i:Nat) (x:α) (j:Nat):aq f i x j=if j=i then x else f j:=rfl
structure S where
 env:Nat->V
 o:Nat->ae
 nx:Nat
def S.H (s:S):Hp:=⟨s.o,fun id=>id<s.nx⟩
def V.dt:Value->V
 | .int k n=> .d (.int k n)| .bool b=> .d (.bool b)| .string s=> .d (.str s.data.toList)
 | .nilIface=> .d .fH| .pointer none=> .d .gE| .nilFunc=> .d .aV| .map none=> .d .cO
 | .slice none 0 0=> .aW
 |_=> .ab
def zL:List V->Option (List D)
 |[]=>some []
 | .d x::vs=>(zL vs).map (x::·)
 |_::_=>none
def ft(cs:List V):V:=match zL cs with|some ds=> .d (.agg ds)|none=> .agg cs
def V.ofConst:Value->V
 | .agg a=>if a.toList.all Value.oneCell' then ft (a.toList.map V.dt)else .ab
 |v=>V.dt v
def S.ev (s:S):Operand->V
 | .tmp t=>s.env t
 | .const v=>V.ofConst v
 | .func f=> .func (.func f) [] []
 | .global _=> .ab
def D.cells:D->List D
 | .agg cs=>cs
 |x=>[x]
def V.cells:V->Option (List V)
 | .d x=>some (x.cells.map .d)
 | .agg cs=>some cs
 | .bW _| .ab=>none
 |v=>some [v]
mutual
def dG(o:Nat->ae):V->Option D
 | .d x=>some x
 | .aW=>some (.sl [])
 | .nC es=>some (.sl es)
 | .osl id ep=>match o id with
   | .arr gG _ _ es| .oh gG es=>if ep=gG then some (.sl es)else none
   |_=>none
 | .mp id=>match o id with
   | .map _ _ l=>some (.mp (l.map (·.1)) (l.map (·.2)))
   | .et l=>some (.mp (l.map (·.1)) (l.map (·.2)))
   |_=>none
 | .agg cs=>(bZ o cs).map .agg
 | .iface t x=>(dG o x).map (.iface t)
 |_=>none
def bZ(o:Nat->ae):List V->Option (List D)
 |[]=>some []
 |v::vs=>(dG o v).bind fun x=>(bZ o vs).map (x::·)
end
mutual
def V.ids:V->List Nat
 | .osl id _=>[id]
 | .mp id=>[id]
 | .agg cs=>V.ba cs
 | .iface _ x=>x.ids
 |_=>[]
def V.ba:List V->List Nat
 |[]=>[]
 |v::vs=>v.ids++V.ba vs
end
def cw(o:Nat->ae)(ids:List Nat):List (Nat×ae):=
 ids.map fun id=>(id,match o id with| .arr ep _ _ es=> .oh ep es| .map _ _ l=> .et l|o=>o)
def qM(o:Nat->ae)(ids:List Nat):List (Nat×ae):=
 ids.filterMap fun id=>match o id with| .arr ep _ _ es=>some (id, .oh ep es)|_=>none
def put(o:Nat->ae)(Δ:List (Nat×ae)):Nat->ae:=Δ.foldl (fun f x=>aq f x.1 x.2) o
def Hp.put (H:Hp)(Δ:List (Nat×ae)):Hp:={o:=YtealblliddhgiaaGreat.put H.o Δ,us:=fun id=>H.us id\/id∈Δ.map (·.1)}
def bn(P:Program)(t:TypeId):Option (List V):=
 match P.info? t with
 |some i=>match i.zero with
  |some z=>if z.cells.size=i.size/\z.cells.toList.all Value.oneCell'=true then some (z.cells.toList.map V.dt)else none
  |none=>none
 |none=>none
def cj(P:Program)(t:TypeId):Option Bool:=
 match P.underlying t with
 |some (.struct _)|some (.array _ _)=>some true
 |some _=>some false
 |none=>none
def cD(P:Program)(t:TypeId)(f:Nat):Option Nat:=
 match P.underlying t with
 |some (.struct fs)=>match fs[f]? with
  |some fd=>if P.cellsOf fd.type=0 then none else some fd.offset
  |none=>none
 |_=>none
def aU(P:Program)(t:TypeId):Option TypeId:=
 match P.underlying t with
 |some (.slice e)=>some e
 |_=>none
def cI(P:Program)(t:TypeId):Option (Nat×TypeId):=
 match P.underlying t with
 |some (.array n e)=>some (n,e)
 |_=>none
def dH(P:Program)(t:TypeId):Option (List (Nat×Nat)):=
 match P.underlying t with
 |some (.struct fs)=>if fs.toList.all (fun f=>(P.info? f.type).isSome)=true then some (fs.toList.map fun f=>(f.offset,P.cellsOf f.type))else none
 |some (.array n e)=>if(P.info? e).isSome=true then some ((List.range n).map fun i=>(i*P.cellsOf e,P.cellsOf e))else none
 |_=>none
def cR(P:Program)(t:TypeId):Option IntKind:=
 match P.underlying t with
 |some (.int k)=>some k
 |_=>none
def eO(P:Program)(t:TypeId)(cs:List V)(off:Nat):Option V:=
 match cj P t with
 |some true=>if off+P.cellsOf t<=cs.length then some (ft ((cs.drop off).take (P.cellsOf t)))else none
 |some false=>cs[off]?
 |none=>none
def vu(P:Program)(t:TypeId)(cs:List V)(off:Nat)(v:V):Option (List V):=
 match v.cells with
 |some us=>if us.length=P.cellsOf t/\(0<us.length\/(P.info? t).isSome=true)/\off+us.length<=cs.length then some (cs.take off++us++cs.drop (off+us.length))else none
 |none=>none
def qh(places:List (Nat×Nat))(cs:List V):List (Nat×V)->Option (List V)
 |[]=>some cs
 |(i,v)::rest=>match places[i]?,v.cells with
  |some (off,size),some us=>if us.length=size/\off+us.length<=cs.length then qh places (cs.take off++us++cs.drop (off+us.length)) rest else none
  |_,_=>none
def D.put (e:D)(off:Nat)(us:List D):Option D:=
 match e with
 | .agg cs=>if off+us.length<=cs.length then some (.agg (cs.take off++us++cs.drop (off+us.length)))else none
 |_=>match off,us with
  |0,[u]=>some u
  |_,_=>none
def NX(op:BinOp)(a b:Int):Option Bool:=
 match op with
 | .eql=>some (a==b)| .neq=>some (a !=b)| .lss=>some (decide (a<b))| .leq=>some (decide (a<=b))
 | .gtr=>some (decide (a>b))| .geq=>some (decide (a≥b))
 |_=>none
def rD(op:BinOp)(k:IntKind)(x y:Int):Option Int:=
 let a:=BitVec.ofInt k.bits x
 let b:=BitVec.ofInt k.bits y
 match op with
 | .and=>some (k.wrap (a&&&b).toNat)
 | .or=>some (k.wrap (a|||b).toNat)
 | .xor=>some (k.wrap (a ^^^ b).toNat)
 | .andNot=>some (k.wrap (a&&& ~~~b).toNat)
 |_=>none
def Hc(op:BinOp)(k:IntKind)(a b:Int)(K:V->Prop):Prop:=
 match op with
 | .add=>K (.d (.int k (k.wrap (a+b))))
 | .sub=>K (.d (.int k (k.wrap (a - b))))
 | .mul=>K (.d (.int k (k.wrap (a*b))))
 | .quo=>b≠0/\K (.d (.int k (k.wrap (a.tdiv b))))
 | .rem=>b≠0/\K (.d (.int k (a.tmod b)))
 | .and| .or| .xor| .andNot=>∃r,rD op k a b=some r/\K (.d (.int k r))
 | .shl| .shr=>False
 |op=>∃r,NX op a b=some r/\K (.d (.bool r))
def EA(P:Program)(t:TypeId)(x y:D)(r:Bool):Prop:=
 ∀ (B:Nat->Prop) (w:World) (u v:Value),D.den B w x u->D.den B w y v->(Op.equal t u v).run P w= .ok r w/\∀ (op:BinOp) (a b:Operand),(eqGuard op t a b u v).run P w= .ok () w
def EB(P:Program)(op:BinOp)(t:TypeId)(x y:V)(K:V->Prop):Prop:=
 match x,y with
 | .d (.int k a), .d (.int k' b)=>k=k'/\Hc op k a b K
 | .d (.bool a), .d (.bool b)=>match op with
   | .eql=>P.underlying t=some .bool/\K (.d (.bool (a==b)))
   | .neq=>P.underlying t=some .bool/\K (.d (.bool (a !=b)))
   |_=>False
 | .d (.str a), .d (.str b)=>match op with
   | .eql=>K (.d (.bool (a==b)))
   | .neq=>K (.d (.bool (a !=b)))
   |_=>False
 | .d (.agg a), .d (.agg b)=>match op with
   | .eql=>∃r,EA P t (.agg a) (.agg b) r/\K (.d (.bool r))
   | .neq=>∃r,EA P t (.agg a) (.agg b) r/\K (.d (.bool !r))
   |_=>False
 |_,_=>False
def NY(op:UnOp)(x:V)(K:V->Prop):Prop:=
 match op,x with
 | .neg, .d (.int k n)=>K (.d (.int k (k.wrap (0 - n))))
 | .not, .d (.bool b)=>K (.d (.bool !b))
 |_,_=>False
def xe(c a b:V)(K:V->Prop):Prop:=
 match c with
 | .d (.bool t)=>(t=true->K a)/\(t=false->K b)
 |_=>False
def EC(P:Program)(t:TypeId)(o:Nat->ae)(x:V)(K:V->List Nat->Prop):Prop:=
 match P.underlying t with
 |some (.slice _)=>match x with
  | .d (.sl es)=>K (.d (.int .i64 es.length)) []
  | .aW=>K (.d (.int .i64 0)) []
  | .nC es=>K (.d (.int .i64 es.length)) []
  | .osl id ep=>match o id with
    | .arr gG _ _ es| .oh gG es=>ep=gG/\K (.d (.int .i64 es.length)) [id]
    |_=>False
  |_=>False
 |some .string=>match x with
  | .d (.str s)=>K (.d (.int .i64 s.length)) []
  |_=>False
 |some (.array n _)=>K (.d (.int .i64 n)) []
 |_=>False
def jc(P:Program)(o:Nat->ae)(t:TypeId)(x ix:V)(K:V->List Nat->Prop):Prop:=
 match ix with
 | .d (.int _ i)=>match aU P t with
   |some e=>match x with
    | .d (.sl es)=>0<=i/\∃y,es[i.toNat]? =some y/\y.cells.length=P.cellsOf e/\0<P.cellsOf e/\K (.pp y.cells 0) []
    | .nC es=>0<=i/\∃y,es[i.toNat]? =some y/\y.cells.length=P.cellsOf e/\0<P.cellsOf e/\K (.pp y.cells 0) []
    | .osl id ep=>match o id with
      | .arr gG _ sz es=>ep=gG/\0<=i/\i.toNat<es.length/\sz=P.cellsOf e/\0<P.cellsOf e/\K (.pe id ep i.toNat sz 0) [id]
      | .oh gG es=>ep=gG/\0<=i/\∃y,es[i.toNat]? =some y/\y.cells.length=P.cellsOf e/\0<P.cellsOf e/\K (.pp y.cells 0) [id]
      |_=>False
    |_=>False
   |none=>match cI P t with
    |some (n,e)=>0<=i/\i<n/\(P.info? e).isSome=true/\(match x with
     | .ptr id off=>(o id).bO=true/\K (.ptr id (off+i.toNat*P.cellsOf e)) []
     | .pp cs off=>K (.pp cs (off+i.toNat*P.cellsOf e)) []
     | .pe id ep j sz off=>(o id).aZ=some ep/\K (.pe id ep j sz (off+i.toNat*P.cellsOf e)) []
     |_=>False)
    |none=>False
 |_=>False
def jd(P:Program)(o:Nat->ae)(t:TypeId)(x:V)(f:Nat)(K:V->Prop):Prop:=
 match cD P t f with
 |some q=>match x with
  | .ptr id off=>(o id).bO=true/\K (.ptr id (off+q))
  | .pp cs off=>K (.pp cs (off+q))
  | .pe id ep j sz off=>(o id).aZ=some ep/\K (.pe id ep j sz (off+q))
  |_=>False
 |none=>False
def xf(P:Program)(o:Nat->ae)(t:TypeId)(x:V)(K:V->List Nat->Prop):Prop:=
 match x with
 | .ptr id off=>match o id with
   | .row cs=>∃v,eO P t cs off=some v/\K v [id]
   |_=>False
 | .pp cs off=>∃v,eO P t (cs.map .d) off=some v/\K v []
 | .pe id ep i sz off=>match o id with
   | .arr gG _ nb es=>ep=gG/\sz=nb/\∃e,es[i]? =some e/\∃v,eO P t (e.cells.map .d) off=some v/\K v [id]
   |_=>False
 |_=>False
def rE(P:Program)(o:Nat->ae)(t:TypeId)(x v:V)(K:List (Nat×ae)->List Nat->Prop):Prop:=
 match x with
 | .ptr id off=>match o id with
   | .row cs=>∃cs',vu P t cs off v=some cs'/\K [(id, .row cs')] [id]
   |_=>False
 | .pe id ep i nb off=>match o id with
   | .arr gG ty sz es=>ep=gG/\nb=sz/\∃e,es[i]? =some e/\∃y,dG o v=some y/\y.cells.length=P.cellsOf t/\0<y.cells.length/\v.ids.all (· !=id)=true/\
    ∃e',e.put off y.cells=some e'/\K (cw o v.ids++[(id, .arr ep ty sz (es.set i e'))]) (id::v.ids)
   |_=>False
 |_=>False
def hY(P:Program)(o:Nat->ae)(fr:Nat)(t:TypeId)(len:Nat)(parts:List (Nat×V))(K:V->List (Nat×ae)->List Nat->Prop):Prop:=
 match aU P t with
 |some e=>(len=0/\parts=[]/\0<P.cellsOf e/\K (.osl fr 0) [(fr, .arr 0 e (P.cellsOf e) [])] [])\/(parts.map (·.1)=List.range len)/\(bn P e).isSome=true/\0<len/\0<P.cellsOf e/\len*P.cellsOf e<=2^24/\
  ∃ds,bZ o (parts.map (·.2))=some ds/\(∀x∈ds,x.cells.length=P.cellsOf e)/\
   K (.osl fr 0) (cw o (V.ba (parts.map (·.2)))++[(fr, .arr 0 e (P.cellsOf e) ds)]) (V.ba (parts.map (·.2)))
 |none=>False
def bJ(P:Program)(e:TypeId):Option D:=
 match bn P e with
 |some z=>match bZ (fun _=> .no) z,cj P e with
  |some ds,some true=>some (.agg ds)
  |some [x],some false=>some x
  |_,_=>none
 |none=>none
def je(P:Program)(fr:Nat)(t:TypeId)(l c:V)(K:V->List (Nat×ae)->Prop):Prop:=
 match aU P t,l,c with
 |some e, .d (.int _ n), .d (.int _ m)=>n=m/\0<=n/\0<P.cellsOf e/\P.bytesOf e*n.toNat<=2^47/\n.toNat<=2^47/\
  ∃x,bJ P e=some x/\K (.osl fr 0) [(fr, .arr 0 e (P.cellsOf e) (List.replicate n.toNat x))]
 |_,_,_=>False
def eP(o:Nat->ae)(x:V):Option (List D):=
 match dG o x with
 |some (.sl es)=>some es
 |_=>none
def oq(P:Program)(o:Nat->ae)(fr:Nat)(ts:Array TypeId)(x y:V)(K:V->List (Nat×ae)->List Nat->Prop):Prop:=
 match ts.toList with
 |[t,t']=>t=t'/\(match aU P t with
  |some e=>∃new,eP o y=some new/\0<P.cellsOf e/\(bn P e).isSome=true/\(∀z∈new,z.cells.length=P.cellsOf e)/\(match x with
   | .aW=>new.length<=2^47/\new.length*P.bytesOf e<=2^47/\K (.osl fr 0) [(fr, .arr 0 e (P.cellsOf e) new)] y.ids
   | .nC es=>(∀z∈es,z.cells.length=P.cellsOf e)/\(if new=[]then K (.nC es) [] y.ids else es.length+new.length<=2^40/\(es.length+new.length)*P.bytesOf e<=2^40/\K (.osl fr 0) [(fr, .arr 0 e (P.cellsOf e) (es++new))] y.ids)
   | .osl id ep=>match o id with
     | .arr gG ty sz es=>ep=gG/\ty=e/\sz=P.cellsOf e/\es.length+new.length<=2^47/\(es.length+new.length)*P.bytesOf e<=2^47/\
      K (.osl id (ep+1)) [(id, .arr (ep+1) ty sz (es++new))] (id::y.ids)
     |_=>False
   |_=>False)
  |none=>False)
 |_=>False
def mS(isMax:Bool)(args:List V)(K:V->Prop):Prop:=
 match args with
 |[.d (.int k a), .d (.int k' b)]=>k=k'/\K (.d (.int k (if isMax then(if b>a then b else a)else(if b<a then b else a))))
 |_=>False
def kq(o:Nat->ae)(x:V)(K:V->Prop):Prop:=
 match x with
 | .ptr id off=>(o id).bO=true/\K (.ptr id off)
 | .pp cs off=>K (.pp cs off)
 | .func (.func f) first cap=>K (.func (.func f) first cap)
 |_=>False
def jf(P:Program)(t:TypeId)(xs:List D)(off:Nat):Option D:=
 match cj P t with
 |some true=>if off+P.cellsOf t<=xs.length then some (.agg ((xs.drop off).take (P.cellsOf t)))else none
 |some false=>xs[off]?
 |none=>none
inductive SW where
 |int|bool|str|struct (fs:List (TypeId×Nat))|arr (n:Nat) (e:TypeId)
def bf(P:Program)(t:TypeId):Option SW:=
 match P.underlying t with
 |some (.int _)=>some .int
 |some .bool=>some .bool
 |some .string=>some .str
 |some (.struct fs)=>if(!P.stoodInHeld t&&fs.toList.all (fun f=>f.name != "_"))=true then some (.struct (fs.toList.map fun f=>(f.type,f.offset)))else none
 |some (.array n e)=>if(P.info? e).isSome=true then some (.arr n e)else none
 |_=>none
def ED(a b:Option Bool):Option Bool:=
 match a,b with
 |some a,some b=>some (a&&b)
 |_,_=>none
def xg(f:TypeId->Nat->Option Bool):List (TypeId×Nat)->Option Bool
 |[]=>some true
 |x::l=>ED (f x.1 x.2) (xg f l)
def Bk(f:Nat->Option Bool):Nat->Nat->Option Bool
 |0,_=>some true
 |n+1,i=>ED (f i) (Bk f n (i+1))
def Ku(f:D->D->Option Bool)(x y:Option D):Option Bool:=
 match x,y with
 |some x,some y=>f x y
 |_,_=>none
def pC(P:Program):Nat->TypeId->D->D->Option Bool
 |0,_,_,_=>none
 |d+1,t,x,y=>match bf P t with
  |some .int=>match x,y with| .int k a, .int k' b=>if k=k' then some (a==b)else none|_,_=>none
  |some .bool=>match x,y with| .bool a, .bool b=>some (a==b)|_,_=>none
  |some .str=>match x,y with| .str a, .str b=>some (a==b)|_,_=>none
  |some (.struct fs)=>match x,y with
   | .agg xs, .agg ys=>xg (fun u off=>Ku (pC P d u) (jf P u xs off) (jf P u ys off)) fs
   |_,_=>none
  |some (.arr n e)=>match x,y with
   | .agg xs, .agg ys=>Bk (fun i=>Ku (pC P d e) (jf P e xs (i*P.cellsOf e)) (jf P e ys (i*P.cellsOf e))) n 0
   |_,_=>none
  |none=>none
abbrev gq:=V×List (Nat×ae)×List Nat
def dk(x:Option gq)(K:V->List (Nat×ae)->List Nat->Prop):Prop:=
 match x with
 |some (v,Δ,rd)=>K v Δ rd
 |none=>False
def CB(x:Option V)(SX:Nat):Option Nat:=
 match x with
 |none=>some SX
 |some (.d (.int _ i))=>if 0<=i then some i.toNat else none
 |_=>none
def nD(o:Nat->ae)(x:V):Option (Nat×Nat):=
 match x with
 | .ptr id off=>if(o id).bO=true then some (id,off)else none
 |_=>none
def nE(o:Nat->ae)(x:V):Option (Nat×Nat×Nat×List V):=
 match x with
 | .rz id off n=>match o id with
   | .row cs=>some (id,off,n,cs)
   |_=>none
 |_=>none
def pG(P:Program)(o:Nat->ae)(t:TypeId)(x:V)(lo hi mx:Option V):Option gq:=
 match aU P t with
 |some e=>match eP o x,CB lo 0 with
  |some es,some l=>match CB hi es.length with
   |some h=>if l<=h/\h<=es.length/\(P.info? e).isSome=true/\(l=0\/es.all (fun y=>y.cells.length==P.cellsOf e)=true)then match mx with
    |none=>some (.d (.sl ((es.take h).drop l)),cw o x.ids,x.ids)
    |some m=>match hi,CB (some m) 0 with
     |some _,some m=>if h<=m/\m<=es.length then some (if h=m then .nC ((es.take h).drop l)else .d (.sl ((es.take h).drop l)),cw o x.ids,x.ids)else none
     |_,_=>none
    else none
   |none=>none
  |_,_=>none
 |none=>match cI P t,lo,hi,mx with
  |some (n,e),none,none,none=>match nD o x with
   |some (id,off)=>if(P.info? e).isSome=true then some (.rz id off n,[],[id])else none
   |none=>none
  |_,_,_,_=>none
def tW(P:Program)(o:Nat->ae)(ts:Array TypeId)(x y:V):Option gq:=
 match ts.toList with
 |[t,_]=>match aU P t with
  |some e=>match nE o x,eP o y with
   |some (id,off,n,cs),some es=>if P.cellsOf e=1/\off+n<=cs.length/\es.all (fun z=>z.cells.length==1)=true/\y.ids.all (· !=id)=true then
    some (.d (.int .i64 ((min es.length n:Nat):Int)),cw o y.ids++[(id, .row (cs.take off++((es.take n).flatMap D.cells).map .d++cs.drop (off+(es.take n).length)))],id::y.ids)else none
   |_,_=>none
  |none=>none
 |_=>none
def vw(P:Program)(t:TypeId)(f:Nat):Option (Nat×TypeId):=
 match P.underlying t with
 |some (.struct fs)=>match fs[f]? with
  |some fd=>some (fd.offset,fd.type)
  |none=>none
 |_=>none
def rF(P:Program)(t:TypeId)(x:V)(f:Nat):Option V:=
 match vw P t f with
 |some (off,u)=>match x with
  | .d (.agg cs)=>(jf P u cs off).map .d
  | .agg cs=>eO P u cs off
  |_=>none
 |none=>none
def rG(P:Program)(t:TypeId)(x i:V):Option V:=
 match i with
 | .d (.int _ i)=>if 0<=i then match P.underlying t with
  |some .string=>match x with
   | .d (.str s)=>match s[i.toNat]? with
     |some b=>some (.d (.int .u8 b.toNat))
     |none=>none
   |_=>none
  |some (.array n e)=>if i<n/\(P.info? e).isSome=true then match x with
   | .d (.agg cs)=>(jf P e cs (i.toNat*P.cellsOf e)).map .d
   | .agg cs=>eO P e cs (i.toNat*P.cellsOf e)
   |_=>none
   else none
  |_=>none
   else none
 |_=>none
def zM(P:Program)(t:TypeId):Bool:=
 match P.underlying t with
 |some (.interface _)=>false
 |some _=>true
 |none=>false
def zeroV(P:Program)(t:TypeId):Option V:=
 match P.info? t with
 |some i=>match i.zero with
  |some (.agg a)=>if a.toList.all Value.oneCell'=true then some (ft (a.toList.map V.dt))else none
  |some v=>if v.oneCell'=true then some (V.dt v)else none
  |none=>none
 |none=>none
def ou(P:Program)(t:TypeId)(ok:Bool)(x:V):Option V:=
 if zM P t=true then match x with
  | .d (.iface u y)=>if u=t then some (if ok=true then .bW [.d y, .d (.bool true)]else .d y)
   else if ok=true then(zeroV P t).map fun z=> .bW [z, .d (.bool false)]else none
  | .d .fH=>if ok=true then(zeroV P t).map fun z=> .bW [z, .d (.bool false)]else none
  |_=>none
 else none
def xh(o:Nat->ae)(x:V):Option V:=
 match x with
 | .aW=>some (.d (.bool true))
 |x=>match eP o x with
  |some es=>some (if es=[]then .eY else .d (.bool false))
  |none=>none
def isConst:Operand->Bool
 | .const _=>true
 |_=>false
def Hd:V->Option V
 | .d (.bool b)=>some (.d (.bool !b))
 | .eY=>some .eY
 |_=>none
def pH(o:Nat->ae)(x:V):Option V:=
 match x with
 | .d .cO=>some (.d (.bool true))
 | .d (.mp _ _)=>some (.d (.bool false))
 | .mp id=>match o id with| .map _ _ _=>some (.d (.bool false))| .et _=>some (.d (.bool false))|_=>none
 |_=>none
def pI(o:Nat->ae)(x:V):Option V:=
 match x with
 | .d .gE=>some (.d (.bool true))
 | .ptr id _=>if(o id).bO=true then some (.d (.bool false))else none
 | .pp _ _=>some (.d (.bool false))
 |_=>none
def CC(P:Program)(o:Nat->ae)(t:TypeId)(nF:Bool)(x y:V):Option V:=
 match P.underlying t with
 |some (.interface _)=>match x,y with
  | .d .fH, .d .fH=>if nF=true then some (.d (.bool true))else none
  | .d (.iface _ _), .d .fH| .iface _ _, .d .fH| .d .fH, .d (.iface _ _)| .d .fH, .iface _ _=>some (.d (.bool false))
  |_,_=>none
 |some (.func _ _ _)=>match x,y with
  | .d .aV, .d .aV=>some (.d (.bool true))
  | .func _ _ _, .d .aV=>some (.d (.bool false))
  |_,_=>none
 |some (.map _ _)=>match y with
  | .d .cO=>pH o x
  |_=>none
 |some (.pointer _)=>match y with
  | .d .gE=>pI o x
  |_=>none
 |some (.slice _)=>match y with
  | .aW=>xh o x
  |_=>none
 |some (.struct _)|some (.array _ _)=>match x,y with
  | .d (.agg cc), .d (.agg bs)=>if P.eqGuardType P.depth t=false then(pC P 100 t (.agg cc) (.agg bs)).map fun r=> .d (.bool r)else none
  |_,_=>none
 |_=>none
def pJ(P:Program)(o:Nat->ae)(op:BinOp)(t:TypeId)(nF:Bool)(x y:V):Option gq:=
 match op with
 | .eql=>(CC P o t nF x y).map fun v=>(v,[],[])
 | .neq=>((CC P o t nF x y).bind Hd).map fun v=>(v,[],[])
 |_=>none
mutual
def D.same:D->D->Bool
 | .int k a, .int j b=>k==j&&a==b
 | .bool a, .bool b=>a==b
 | .str a, .str b=>a==b
 | .fH, .fH| .gE, .gE| .aV, .aV| .cO, .cO=>true
 | .agg cc, .agg bs=>D.fO cc bs
 | .sl cc, .sl bs=>D.fO cc bs
 | .iface t a, .iface u b=>t==u&&a.same b
 | .mp ks vs, .mp Ye Sd=>D.fO ks Ye&&D.fO vs Sd
 |_,_=>false
def D.fO:List D->List D->Bool
 |[],[]=>true
 |a::cc,b::bs=>a.same b&&D.fO cc bs
 |_,_=>false
end
def nG(P:Program)(t:TypeId):Option (TypeId×TypeId):=
 match P.underlying t with
 |some (.map k v)=>some (k,v)
 |_=>none
def nd(P:Program):Nat->TypeId->D->Bool
 |0,_,_=>false
 |d+1,t,x=>match bf P t with
  |some .int|some .bool|some .str=>true
  |some (.struct fs)=>match x with
   | .agg xs=>fs.all fun f=>match jf P f.1 xs f.2 with|some y=>nd P d f.1 y|none=>false
   |_=>false
  |some (.arr n e)=>match x with
   | .agg xs=>(List.range n).all fun i=>match jf P e xs (i*P.cellsOf e)with|some y=>nd P d e y|none=>false
   |_=>false
  |none=>false
def findD(P:Program)(kt:TypeId)(k:D):List (D×D)->Nat->Option (Option (Nat×D×D))
 |[],_=>some none
 |(k',x)::l,i=>match pC P 100 kt k k' with
  |some true=>some (some (i,k',x))
  |some false=>findD P kt k l (i+1)
  |none=>none
def nk:D->Bool
 | .int _ _| .bool _| .str _=>true
 |_=>false
def jY:D->Bool
 | .agg cs=>cs.all nk
 |x=>nk x
def nm(o:Nat->ae)(m:V):Option (Option (Nat×TypeId×TypeId)×List (D×D)):=
 match m with
 | .mp id=>match o id with
   | .map kt vt l=>some (some (id,kt,vt),l)
   |_=>none
 | .d .cO=>some (none,[])
 |_=>none
def ow(o:Nat->ae)(m:V):Option (List Nat×List (D×D)):=
 match m with
 | .mp id=>match o id with
   | .map _ _ l=>some ([id],l)
   | .et l=>some ([id],l)
   |_=>none
 | .d .cO=>some ([],[])
 | .d (.mp ks vs)=>some ([],ks.zip vs)
 |_=>none
def SY(r:Option (Nat×TypeId×TypeId)):List Nat:=match r with|some p=>[p.1]|none=>[]
def gZ(P:Program)(o:Nat->ae)(t:TypeId)(m k:V)(ok:Bool):Option gq:=
 match nG P t,dG o k,ow o m with
 |some (kt,vt),some kd,some (rd,l)=>if k.ids=[]/\nd P 100 kt kd=true then match findD P kt kd l 0 with
  |some (some (_,_,x))=>some (if ok=true then .bW [.d x, .d (.bool true)]else .d x,[],rd)
  |some none=>match zeroV P vt with
   |some z=>some (if ok=true then .bW [z, .d (.bool false)]else z,[],rd)
   |none=>none
  |none=>none
  else none
 |_,_,_=>none
def fA(P:Program)(o:Nat->ae)(t:TypeId)(m k v:V):Option gq:=
 match nG P t,dG o k,dG o v,nm o m with
 |some (kt,_),some kd,some vd,some (some (id,zC,zD),l)=>if k.ids=[]/\nd P 100 kt kd=true/\jY kd=true/\v.ids.all (· !=id)=true then match findD P kt kd l 0 with
  |some (some (i,k',_))=>if k'.same kd=true then some (.bW [],cw o v.ids++[(id, .map zC zD (l.set i (kd,vd)))],id::v.ids)else none
  |some none=>some (.bW [],cw o v.ids++[(id, .map zC zD (l++[(kd,vd)]))],id::v.ids)
  |none=>none
  else none
 |_,_,_,_=>none
def lY(P:Program)(fr:Nat)(t:TypeId):Option gq:=
 match nG P t with
 |some (kt,vt)=>some (.mp fr,[(fr, .map kt vt [])],[])
 |none=>none
def lZ(P:Program)(o:Nat->ae)(fr:Nat)(t:TypeId)(x:V):Option gq:=
 match P.underlying t with
 |some .string=>match x with
  | .d (.str s)=>some (.ptr fr 0,[(fr, .rA s 0)],[])
  |_=>none
 |some (.map _ _)=>match x with
  | .d .cO=>some (.ptr fr 0,[(fr, .kg [] none)],[])
  | .d (.mp ks vs)=>some (.ptr fr 0,[(fr, .kg (ks.zip vs) none)],[])
  | .mp id=>match o id with
    | .map _ _ l=>some (.ptr fr 0,[(id, .et l),(fr, .kg l none)],[id])
    | .et l=>some (.ptr fr 0,[(fr, .kg l none)],[id])
    |_=>none
  |_=>none
 |_=>none
def nn(o:Nat->ae)(x:V)(str:Bool):Option gq:=
 match x with
 | .ptr id 0=>match o id with
   | .rA s pos=>if str=true then
    (if pos<s.length then some (.bW [.d (.bool true), .d (.int .i64 pos), .d (.int .i32 (Utf8.decode ⟨⟨s⟩⟩ pos).1)],[(id, .rA s (pos+(Utf8.decode ⟨⟨s⟩⟩ pos).2))],[id])else some (.bW [.d (.bool false)],[],[id]))
     else none
   |_=>none
 |_=>none
def np(o:Nat->ae)(x:V):Option (Nat×List (D×D)):=
 match x with
 | .ptr id 0=>match o id with
   | .kg l _=>some (id,l)
   |_=>none
 |_=>none
def Bl(id:Nat)(l:List (D×D))(K:V->List (Nat×ae)->List Nat->Prop):Prop:=
 (l=[]->K (.bW [.d (.bool false)]) [] [id])/\∀i k x,l[i]? =some (k,x)->K (.bW [.d (.bool true), .d k, .d x]) [(id, .kg (l.eraseIdx i) (some (k,x)))] [id]
def l0(o:Nat->ae)(x:V):Option gq:=
 match x with
 | .ptr id 0=>match o id with
   | .kg _ (some (k,x))=>some (.bW [.d k, .d x],[],[id])
   |_=>none
 |_=>none
def mT(P:Program)(o:Nat->ae)(t:TypeId)(m k:V):Option gq:=
 match nG P t,dG o k,nm o m with
 |some (kt,_),some kd,some (some (id,zC,zD),l)=>if k.ids=[]/\nd P 100 kt kd=true then match findD P kt kd l 0 with
  |some (some (i,_,_))=>some (.bW [],[(id, .map zC zD (l.eraseIdx i))],[id])
  |some none=>some (.bW [],[],[id])
  |none=>none
  else none
 |_,_,_=>none
def EE(x y z:V):Option V:=
 match x,y,z with
 | .d (.int k a), .d (.int k' b), .d (.int Wk c)=>if k=k'/\k=Wk then some (.d (.int k (if c>(if b>a then b else a)then c else(if b>a then b else a))))else none
 |_,_,_=>none
def rH(P:Program)(s:S)(fr:Nat)(b:Builtin)(args:List Operand)(ts:Array TypeId)(K:V->List (Nat×ae)->List Nat->Prop):Prop:=
 match b,args with
 | .len,[x]=>∃t,ts.toList=[t]/\EC P t s.o (s.ev x) fun v rd=>K v [] rd
 | .append,[x,y]=>oq P s.o fr ts (s.ev x) (s.ev y) K
 | .max,[x,y]=>mS true [s.ev x,s.ev y] fun v=>K v [] []
 | .min,[x,y]=>mS false [s.ev x,s.ev y] fun v=>K v [] []
 | .max,[x,y,z]=>dk ((EE (s.ev x) (s.ev y) (s.ev z)).map fun v=>(v,[],[])) K
 | .copy,[x,y]=>dk (tW P s.o ts (s.ev x) (s.ev y)) K
 | .delete,[x,y]=>∃t,ts.toList.head?=some t/\dk (mT P s.o t (s.ev x) (s.ev y)) K
 |_,_=>False
def IP(P:Program)(s:S)(fr:Nat)(op:Op)(K:V->List (Nat×ae)->List Nat->Prop):Prop:=
 match op with
 | .move x| .assign x=>K (s.ev x) [] []
 | .pick c a b=>xe (s.ev c) (s.ev a) (s.ev b) fun v=>K v [] []
 | .alloc t=>∃cs,bn P t=some cs/\K (.ptr fr 0) [(fr, .row cs)] []
 | .box _ x=>∃cs,(s.ev x).cells=some cs/\K (.ptr fr 0) [(fr, .row cs)] []
 | .build t parts=>∃z pl cs,bn P t=some z/\dH P t=some pl/\qh pl z (parts.toList.map fun p=>(p.1,s.ev p.2))=some cs/\K (ft cs) [] []
 | .buildSlice t len parts=>hY P s.o fr t len (parts.toList.map fun p=>(p.1,s.ev p.2)) K
 | .load t x=>xf P s.o t (s.ev x) fun v rd=>K v [] rd
 | .store t x v=>rE P s.o t (s.ev x) (s.ev v) fun Δ rd=>K (.bW []) Δ rd
 | .nilCheck x=>kq s.o (s.ev x) fun v=>K v [] []
 | .binOp op t x y _=>EB P op t (s.ev x) (s.ev y) (fun v=>K v [] [])\/dk (pJ P s.o op t (isConst x||isConst y) (s.ev x) (s.ev y)) K
 | .unOp op _ x=>NY op (s.ev x) (fun v=>K v [] [])\/(op= .not/\s.ev x= .eY/\K .eY [] [])
 | .convert u t x=>(P.underlying u).isSome=true/\(match cR P t,s.ev x with
   |some k, .d (.int _ n)=>K (.d (.int k (k.wrap n))) [] []
   |_,_=>False)
 | .makeInterface t x=>(∃d,P.underlying t=some d/\(match d with| .interface _=>false|_=>true)=true)/\(match s.ev x with
   | .d y=>K (.d (.iface t y)) [] []
   |v=>K (.iface t v) [] [])
 | .makeFunc fn first cap=>K (.func fn (first.toList.map s.ev) (cap.toList.map s.ev)) [] []
 | .makeSlice t l c=>je P fr t (s.ev l) (s.ev c) fun v Δ=>K v Δ []
 | .fieldAddr t x f=>jd P s.o t (s.ev x) f fun v=>K v [] []
 | .indexAddr t x i=>jc P s.o t (s.ev x) (s.ev i) fun v rd=>K v [] rd
 | .extract x i=>match s.ev x with
   | .bW vs=>∃v,vs[i]? =some v/\K v [] []
   |_=>False
 | .slice t x lo hi mx=>dk (pG P s.o t (s.ev x) (lo.map s.ev) (hi.map s.ev) (mx.map s.ev)) K
 | .field t x f=>dk ((rF P t (s.ev x) f).map fun v=>(v,[],[])) K
 | .index t x i=>dk ((rG P t (s.ev x) (s.ev i)).map fun v=>(v,[],[])) K
 | .makeMap t none=>dk (lY P fr t) K
 | .lookup t m k ok=>dk (gZ P s.o t (s.ev m) (s.ev k) ok) K
 | .mapUpdate t m k v=>dk (fA P s.o t (s.ev m) (s.ev k) (s.ev v)) K
 | .insert t m k v=>dk (fA P s.o t (s.ev m) (s.ev k) (s.ev v)) K
 | .range t x=>dk (lZ P s.o fr t (s.ev x)) K
 | .next x str=>dk (nn s.o (s.ev x) str) K\/(str=false/\∃id l,np s.o (s.ev x)=some (id,l)/\Bl id l K)
 | .entry x=>dk (l0 s.o (s.ev x)) K
 | .typeAssert x _ t ok=>dk ((ou P t ok (s.ev x)).map fun v=>(v,[],[])) K
 | .call c=>match c.callee with
   | .builtin b=>rH P s fr b c.args.toList c.argTypes K
   |_=>False
 |_=>False
end Go.Proofs.YtealblliddhgiaaGreat
namespace Go.Proofs.YtealblliddhgiaaGreat
section
variable {B:Nat->Prop}{φ:Place}{H:Hp}{w:World}
theorem V.aD:∀ (cs:List V) (vs:List Value),V.aB B φ H w cs vs->vs.length=cs.length
 |[],_,h=>by simp[V.aB]at h;simp[h]
 |c::cs,_,h=>by obtain⟨u,us,rfl,_,h2⟩:=h;simp[V.aD cs us h2]
theorem V.eu:∀ (cs:List V) (vs:List Value) (i:Nat) (c:V),V.aB B φ H w cs vs->cs[i]? =some c->∃v,vs[i]? =some v/\V.den B φ H w c v
 |[],_,_,_,_,hd=>by simp at hd
 |c::cs,_,0,x,h,hd=>by
  obtain⟨u,us,rfl,h1,_⟩:=h
  simp at hd;subst hd;exact⟨u,by simp,h1⟩
 |c::cs,_,i+1,x,h,hd=>by
  obtain⟨u,us,rfl,_,h2⟩:=h
  simpa using V.eu cs us i x h2 (by simpa using hd)
theorem V.bp:∀ (cs ds:List V) (us vs:List Value),V.aB B φ H w cs us->V.aB B φ H w ds vs->V.aB B φ H w (cs++ds) (us++vs)
 |[],ds,us,vs,h,k=>by simp[V.aB]at h;subst h;simpa using k
 |c::cs,ds,_,vs,h,k=>by
  obtain⟨u,us,rfl,h1,h2⟩:=h
  exact⟨u,us++vs,by simp,h1,V.bp cs ds us vs h2 k⟩
theorem V.dK:∀ (n:Nat) (cs:List V) (vs:List Value),V.aB B φ H w cs vs->V.aB B φ H w (cs.take n) (vs.take n)
 |0,_,_,_=>by simp[V.aB]
 |n+1,[],_,h=>by simp[V.aB]at h;subst h;simp[V.aB]
 |n+1,c::cs,_,h=>by
  obtain⟨u,us,rfl,h1,h2⟩:=h
  exact⟨u,us.take n,by simp,h1,V.dK n cs us h2⟩
theorem V.eC:∀ (n:Nat) (cs:List V) (vs:List Value),V.aB B φ H w cs vs->V.aB B φ H w (cs.drop n) (vs.drop n)
 |0,_,_,h=>by simpa using h
 |n+1,[],_,h=>by simp[V.aB]at h;subst h;simp[V.aB]
 |n+1,c::cs,_,h=>by
  obtain⟨u,us,rfl,h1,h2⟩:=h
  simpa using V.eC n cs us h2
theorem V.ck:∀ (ds:List D) (vs:List Value),V.aB B φ H w (ds.map .d) vs↔D.aB B w ds vs
 |[],vs=>by simp[V.aB,D.aB]
 |x::ds,vs=>by simp only[List.map_cons,V.aB,D.aB,V.den,V.ck ds]
theorem D.bp:∀ (cs ds:List D) (us vs:List Value),D.aB B w cs us->D.aB B w ds vs->D.aB B w (cs++ds) (us++vs)
 |[],ds,us,vs,h,k=>by simp[D.aB]at h;subst h;simpa using k
 |c::cs,ds,_,vs,h,k=>by
  obtain⟨u,us,rfl,h1,h2⟩:=h
  exact⟨u,us++vs,by simp,h1,D.bp cs ds us vs h2 k⟩
theorem D.dK:∀ (n:Nat) (cs:List D) (vs:List Value),D.aB B w cs vs->D.aB B w (cs.take n) (vs.take n)
 |0,_,_,_=>by simp[D.aB]
 |n+1,[],_,h=>by simp[D.aB]at h;subst h;simp[D.aB]
 |n+1,c::cs,_,h=>by
  obtain⟨u,us,rfl,h1,h2⟩:=h
  exact⟨u,us.take n,by simp,h1,D.dK n cs us h2⟩
theorem D.eC:∀ (n:Nat) (cs:List D) (vs:List Value),D.aB B w cs vs->D.aB B w (cs.drop n) (vs.drop n)
 |0,_,_,h=>by simpa using h
 |n+1,[],_,h=>by simp[D.aB]at h;subst h;simp[D.aB]
 |n+1,c::cs,_,h=>by
  obtain⟨u,us,rfl,h1,h2⟩:=h
  simpa using D.eC n cs us h2
theorem D.xi:∀ (i:Nat) (ds:List D) (vs:List Value) (x:D) (v:Value),D.aB B w ds vs->D.den B w x v->D.aB B w (ds.set i x) (vs.set i v)
 |_,[],_,_,_,h,_=>by simp[D.aB]at h;subst h;simp[D.aB]
 |0,c::cs,_,x,v,h,k=>by
  obtain⟨u,us,rfl,h1,h2⟩:=h
  exact⟨v,us,by simp,k,h2⟩
 |i+1,c::cs,_,x,v,h,k=>by
  obtain⟨u,us,rfl,h1,h2⟩:=h
  exact⟨u,us.set i v,by simp,h1,D.xi i cs us x v h2 k⟩
theorem tX:∀ (cs:List V) (ds:List D),zL cs=some ds->cs=ds.map .d
 |[],ds,h=>by simp[zL]at h;subst h;rfl
 | .d x::cs,ds,h=>by
   simp only[zL,Option.map_eq_some_iff]at h
   obtain⟨a,h1,rfl⟩:=h
   simp[tX cs a h1]
 | .aW::_,_,h| .agg _::_,_,h| .bW _::_,_,h| .ptr _ _::_,_,h| .osl _ _::_,_,h| .pe _ _ _ _ _::_,_,h| .pp _ _::_,_,h
 | .func _ _ _::_,_,h| .iface _ _::_,_,h| .ab::_,_,h| .nC _::_,_,h| .rz _ _ _::_,_,h| .mp _::_,_,h| .eY::_,_,h=>by simp[zL]at h
theorem ku(cs:List V)(a:Array Value)(h:V.aB B φ H w cs a.toList)(hf:Flat a.toList):V.den B φ H w (ft cs) (.agg a):=by
 unfold ft
 split
 ·rename_i ds hd
  have:=tX cs ds hd
  subst this
  exact⟨a,rfl,(V.ck ds _).1 h,hf⟩
 ·exact⟨a,rfl,h,hf⟩
theorem D.mU:∀ (x:D) (v:Value),D.den B w x v->(∃cs a,x= .agg cs/\v= .agg a)\/v.oneCell'=true/\x.cells=[x]/\v.cells=#[v]
 | .int _ _,_,h| .bool _,_,h| .fH,_,h| .gE,_,h| .aV,_,h| .cO,_,h=>by
   simp only[D.den]at h;subst h;exact .inr ⟨rfl,rfl,rfl⟩
 | .str l,_,h=>by obtain⟨s,rfl,_⟩:=h;exact .inr ⟨rfl,rfl,rfl⟩
 | .agg cs,_,h=>by obtain⟨a,rfl,_,_⟩:=h;exact .inl ⟨cs,a,rfl,rfl⟩
 | .sl es,_,h=>by obtain⟨b,l,c,rfl,_⟩:=h;exact .inr ⟨rfl,rfl,rfl⟩
 | .iface t x,_,h=>by obtain⟨u,rfl,_⟩:=h;exact .inr ⟨rfl,rfl,rfl⟩
 | .mp ks vs,_,h=>by obtain⟨m,es,c,p,rfl,_⟩:=h;exact .inr ⟨rfl,rfl,rfl⟩
theorem D.eZ (x:D)(v:Value)(h:D.den B w x v):D.aB B w x.cells v.cells.toList/\Flat v.cells.toList:=by
 rcases D.mU x v h with⟨cs,a,rfl,rfl⟩|⟨h1,h2,h3⟩
 ·obtain⟨a',h1,h2,h3⟩:=h
  injection h1 with h1;subst h1
  exact⟨h2,h3⟩
 ·rw[h2,h3]
  exact⟨⟨v,[],rfl,h,rfl⟩,by intro u hu;simp at hu;subst hu;exact h1⟩
theorem V.mU (x:V)(v:Value)(us:List V)(hx:x.cells=some us)(h:V.den B φ H w x v):V.aB B φ H w us v.cells.toList/\Flat v.cells.toList:=by
 have one:∀ (y:V),v.oneCell'=true->V.den B φ H w y v->V.aB B φ H w [y] v.cells.toList/\Flat v.cells.toList:=by
  intro y h1 h2
  have h3:v.cells=#[v]:=by cases v<;>simp_all[Value.oneCell',Value.cells]
  rw[h3]
  exact⟨⟨v,[],rfl,h2,rfl⟩,by intro u hu;simp at hu;subst hu;exact h1⟩
 cases x with
 |d x=>
  simp only[V.cells,Option.some.injEq]at hx;subst hx
  have:=D.eZ x v h
  exact⟨(V.ck _ _).2 this.1,this.2⟩
 |aW=>simp only[V.cells,Option.some.injEq]at hx;subst hx;exact one _ (by cases h;rfl) h
 |agg cs=>
  simp only[V.cells,Option.some.injEq]at hx;subst hx
  obtain⟨a,rfl,h1,h2⟩:=h
  exact⟨h1,h2⟩
 |bW vs=>simp[V.cells]at hx
 |ab=>simp[V.cells]at hx
 |ptr id off=>simp only[V.cells,Option.some.injEq]at hx;subst hx;exact one _ h.1 h
 |osl id ep=>simp only[V.cells,Option.some.injEq]at hx;subst hx;exact one _ h.1 h
 |pe id ep i sz off=>simp only[V.cells,Option.some.injEq]at hx;subst hx;exact one _ h.1 h
 |pp cs off=>simp only[V.cells,Option.some.injEq]at hx;subst hx;exact one _ (by obtain⟨a,ev,_,rfl,_⟩:=h;rfl) h
 |func fn f c=>simp only[V.cells,Option.some.injEq]at hx;subst hx;exact one _ (by obtain⟨a,ev,rfl,_⟩:=h;rfl) h
 |iface t y=>simp only[V.cells,Option.some.injEq]at hx;subst hx;exact one _ (by obtain⟨a,rfl,_⟩:=h;rfl) h
 |nC es=>simp only[V.cells,Option.some.injEq]at hx;subst hx;exact one _ (by obtain⟨_,b,n,rfl⟩:=h;rfl) h
 |rz id off n=>simp only[V.cells,Option.some.injEq]at hx;subst hx;exact one _ h.1 h
 |mp id=>simp only[V.cells,Option.some.injEq]at hx;subst hx;exact one _ h.1 h
 |ko id=>simp only[V.cells,Option.some.injEq]at hx;subst hx;exact one _ h.1 h
 |eY=>simp only[V.cells,Option.some.injEq]at hx;subst hx;exact one _ (by obtain⟨a,rfl⟩:=h;rfl) h
theorem kW(v:Value)(h:v.oneCell'=true):V.den B φ H w (V.dt v) v:=by
 cases v<;>simp_all only[Value.oneCell',V.dt,V.den,D.den]<;>try trivial
 all_goals (try (split<;>simp_all[V.den,D.den]))
 all_goals (try first|(simp_all[D.den];done)|simp_all)
theorem dL:∀ (vs:List Value),Flat vs->V.aB B φ H w (vs.map V.dt) vs
 |[],_=>rfl
 |v::vs,h=>⟨v,vs,rfl,kW v (h v (by simp)),dL vs fun u hu=>h u (by simp[hu])⟩
end
end Go.Proofs.YtealblliddhgiaaGreat
namespace Go.Proofs.YtealblliddhgiaaGreat
theorem mV(H:Hp):H.put []=H:=by
 obtain⟨o,us⟩:=H
 simp[Hp.put,put]
theorem dY(H:Hp)(A C:List (Nat×ae)):H.put (A++C)=(H.put A).put C:=by
 obtain⟨o,us⟩:=H
 simp only[Hp.put,put,List.foldl_append,Hp.mk.injEq,true_and]
 funext id
 simp only[List.map_append,List.mem_append,eq_iff_iff]
 exact⟨fun h=>by rcases h with h|h|h<;>simp[h],fun h=>by rcases h with(h|h)|h<;>simp[h]⟩
@[simp] theorem bE (H:Hp) (i:Nat) (x:ae):(H.put [(i,x)]).o=aq H.o i x:=rfl
@[simp] theorem dZ (H:Hp) (i j:Nat) (x:ae):(H.put [(i,x)]).us j↔(H.us j\/j=i):=by simp[Hp.put]
section
variable {M:Nat->Prop}{φ ax:Place}{H H':Hp}{w w':World}
theorem aL.xj (qi:∀b,cA w b-> ¬ai M φ H b->w'.heap[b]? =w.heap[b]? /\ ¬ai M ax H' b)(Wl:dX φ H ax H'){id:Nat}(ho:H'.o id=H.o id)(du:ax id=φ id)
 (hb:(H.o id).live=true->∀b,dS (φ id)=some b->w'.heap[b]? =w.heap[b]?) (h:aL M φ H w id):aL M ax H' w' id:=by
 unfold aL at*
 rw[ho]
 cases hx:H.o id with
 |no=>trivial
 |row cs=>
  simp only[hx]at h|-
  obtain⟨b,cX,ty,h1,h2,h3,h4⟩:=h
  exact⟨b,cX,ty,du.trans h1,(hb (by rw[hx];rfl) b (by rw[h1];rfl)).trans h2,V.fI qi Wl cs _ h3,h4⟩
 |arr ep ty sz es=>
  simp only[hx]at h|-
  obtain⟨h0,xs,h1,evs,h2,h3,h4⟩:=h
  refine⟨h0,xs, ?_,evs,h2,h3,D.aI qi es evs h4⟩
  rw[du]
  obtain⟨g1,g2⟩:=h1
  refine⟨g1, ?_⟩
  rcases g2 with g2|⟨g,cap,cur,k1,k2,k3,k4⟩
  ·exact .inl g2
  ·exact .inr ⟨g,cap,cur,k1,k2,(hb (by rw[hx];rfl) g (by rw[k1];rfl)).trans k3,k4⟩
 |oh ep es=>
  simp only[hx]at h|-
  rw[du]
  exact D.aC qi (.sl es) _ h
 |map kt vt l=>
  simp only[hx]at h|-
  obtain⟨b,es,clock,h1,h2,h4,h3⟩:=h
  exact⟨b,es,clock,du.trans h1,(hb (by rw[hx];rfl) b (by rw[h1];rfl)).trans h2,h4,aH.mono qi l _ h3⟩
 |et l=>
  simp only[hx]at h|-
  rw[du]
  exact D.aC qi (.mp _ _) _ h
 |kg l last=>
  simp only[hx]at h|-
  obtain⟨b,h1,h2⟩:=h
  exact⟨b,du.trans h1,h2.mono qi (hb (by rw[hx];rfl) b (by rw[h1];rfl))⟩
 |rA s pos=>
  simp only[hx]at h|-
  obtain⟨b,h1,h2⟩:=h
  exact⟨b,du.trans h1,(hb (by rw[hx];rfl) b (by rw[h1];rfl)).trans h2⟩
 |loop nf n env ps lS gY st CA=>
  simp only[hx]at h|-
  obtain⟨b,r,h1,h2,h0,h3,h4,h5,h6,h7,h8,h9⟩:=h
  exact⟨b,r,du.trans h1,(hb (by rw[hx];rfl) b (by rw[h1];rfl)).trans h2,h0,h3,h4,h5,h6,h7,h8,fun i=>V.kp qi Wl _ _ (h9 i)⟩
theorem aL.mono (ht:Trans φ H w ax H' w'){id:Nat}(ho:H'.o id=H.o id)(du:ax id=φ id)
 (hb:(H.o id).live=true->∀b,dS (φ id)=some b->w'.heap[b]? =w.heap[b]?) (h:aL M φ H w id):aL M ax H' w' id:=aL.xj ht.blocks ht.rel ho du hb h
theorem au.of (hH:au M φ H w)(ht:Trans φ H w ax H' w')(T:Nat->Prop)(hT:∀id,T id->aL M ax H' w' id)
 (hn:∀id, ¬T id->H'.o id=H.o id/\ax id=φ id/\((H.o id).live=true->∀b,dS (φ id)=some b->w'.heap[b]? =w.heap[b]?))
 (jg:∀id, ¬H'.us id->H'.o id= .no)
 (Yf:∀i j b,(H'.o i).live=true->(H'.o j).live=true->dS (ax i)=some b->dS (ax j)=some b->i=j)
 (NZ:∀b,bR ax H' b->b<w'.heap.size):au M ax H' w' where
 ok id:=by
  by_cases hc:T id
  ·exact hT id hc
  ·obtain⟨h1,h2,h3⟩:=hn id hc
   exact(hH.ok id).mono ht h1 h2 h3
 fresh:=jg
 apart:=Yf
 ours b hb:=by
  refine⟨fun hM=> ?_,NZ b hb⟩
  rcases ht.grow b hb with h1|h1
  ·exact(hH.ours b h1).1 hM
  ·have:=hH.tA b hM;omega
 tA b hM:=Nat.lt_of_lt_of_le (hH.tA b hM) ht.cg.size
theorem e8(hk:eM (fun _=>False) w w'){fr:Nat}(dU: ¬H.us fr)(obj:ae)(val:Value)(ec:∀b,dS val=some b->w.heap.size<=b):
 Trans φ H w (aq φ fr val) (H.put [(fr,obj)]) w' where
 cg:=⟨hk.os,hk.tape,hk.output,hk.size,fun k h _=>hk.block k h (fun h=>h)⟩
 grow b:=by
  rintro⟨id,h1,h2⟩
  by_cases aj:id=fr
  ·subst aj;simp at h2;exact .inr (ec b h2)
  ·simp[aj]at h1 h2;exact .inl ⟨id,h1,h2⟩
 rel:={
  us:=fun id h=>by simp[h]
  row:=fun id hu hr=>by
   have aj:id≠fr:=fun h=>dU (h ▸ hu)
   simp[aj]at hr|-;exact hr
  ep:=fun id e' hu he=>by
   have aj:id≠fr:=fun h=>dU (h ▸ hu)
   simp[aj]at he|-;exact⟨e',he,Nat.le_refl _⟩}
theorem jh(hH:au M φ H w)(hk:eM (fun _=>False) w w'){fr:Nat}(dU: ¬H.us fr)(obj:ae)(val:Value)(ec:∀b,dS val=some b->w.heap.size<=b/\b<w'.heap.size)
 (pK:aL M (aq φ fr val) (H.put [(fr,obj)]) w' fr):au M (aq φ fr val) (H.put [(fr,obj)]) w':=by
 have ht:Trans φ H w (aq φ fr val) (H.put [(fr,obj)]) w':=e8 hk dU obj val fun b hb=>(ec b hb).1
 refine hH.of ht (· =fr) (fun id h=>h ▸ pK) (fun id h=> ?_) (fun id h=> ?_) (fun i j b hi hj bi bj=> ?_) (fun b=> ?_)
 ·refine⟨by simp[h],by simp[h],fun hl b hb=>hk.block b ?_ (fun h=>h)⟩
  exact(hH.ours b ⟨id,hl,hb⟩).2
 ·rw[dZ]at h
  have h1:id≠fr:=fun e=>h (.inr e)
  simp only[bE,aJ,h1,if_false]
  exact hH.fresh id fun hu=>h (.inl hu)
 ·by_cases e1:i=fr<;>by_cases e2:j=fr
  ·exact e1.trans e2.symm
  ·simp[e1,e2]at hi hj bi bj
   have:=(hH.ours b ⟨j,hj,bj⟩).2;have:=(ec b bi).1;omega
  ·simp[e1,e2]at hi hj bi bj
   have:=(hH.ours b ⟨i,hi,bi⟩).2;have:=(ec b bj).1;omega
  ·simp[e1,e2]at hi hj bi bj
   exact hH.apart i j b hi hj bi bj
 ·rintro⟨id,h1,h2⟩
  by_cases aj:id=fr
  ·subst aj;simp at h2;exact(ec b h2).2
  ·simp[aj]at h1 h2
   exact Nat.lt_of_lt_of_le (hH.ours b ⟨id,h1,h2⟩).2 hk.size
theorem da(w:World)(o:Obj):eM (fun _=>False) w (w.alloc o):=
 ⟨rfl,rfl,rfl,by simp,fun k hk _=>RowKit.Below.heap_alloc w o k hk⟩
theorem kX{w w':World}(h:w.grownBy w' none):eM (fun _=>False) w w':=
 ⟨h.os,h.tape,h.output,h.size,fun k hk _=>h.block k hk (by simp)⟩
theorem He(hH:au M φ H w){fr:Nat}(dU: ¬H.us fr)(cs:List V)(cX:Array Value)(ty:TypeId)(hd:V.aB (ai M φ H) φ H w cs cX.toList)(hf:Flat cX.toList):
 let ax:=aq φ fr (.pointer (some ⟨w.heap.size,0,none⟩));let H':=H.put [(fr, .row cs)];let w':=w.alloc (.cells cX ty)
 au M ax H' w'/\Trans φ H w ax H' w'/\V.den (ai M ax H') ax H' w' (.ptr fr 0) (.pointer (some ⟨w.heap.size,0,none⟩)):=by
 intro ax H' w'
 have hv:∀b,dS (.pointer (some ⟨w.heap.size,0,none⟩))=some b->w.heap.size<=b/\b<w'.heap.size:=by
  intro b hb;simp[dS]at hb;subst hb;simp[w']
 have ht:Trans φ H w ax H' w':=e8 (da w _) dU _ _ fun b hb=>(hv b hb).1
 refine⟨jh hH (da w _) dU _ _ hv ?_,ht,rfl,by simp[H'],fun _=>⟨w.heap.size,by simp[ax],rfl⟩⟩
 unfold aL
 simp only[bE,aJ,if_true]
 exact⟨w.heap.size,cX,ty,rfl,heap_alloc_new w _,V.aI ht cs _ hd,hf⟩
theorem eQ{id:Nat}(dB:H.us id){b:Nat}(bS:(H.o id).live=true)(hb:dS (φ id)=some b)(hk:eM (· =b) w w')(obj:ae)(a8:obj.bO=(H.o id).bO)(rI:obj.aZ=(H.o id).aZ):
 Trans φ H w φ (H.put [(id,obj)]) w' where
 cg:=⟨hk.os,hk.tape,hk.output,hk.size,fun k h hl=>hk.block k h (fun e=>hl ⟨id,bS,e ▸ hb⟩)⟩
 grow b':=by
  rintro⟨j,h1,h2⟩
  by_cases hj:j=id
  ·subst hj;exact .inl ⟨j,bS,h2⟩
  ·simp[hj]at h1;exact .inl ⟨j,h1,h2⟩
 rel:={
  us:=fun j h=>by simp[h]
  row:=fun j hu hr=>by
   by_cases hj:j=id
   ·subst hj;simp at hr;exact⟨a8 ▸ hr,rfl⟩
   ·simp[hj]at hr;exact⟨hr,rfl⟩
  ep:=fun j e' hu he=>by
   by_cases hj:j=id
   ·subst hj;simp at he;exact⟨e',rI ▸ he,Nat.le_refl _,fun _=>rfl⟩
   ·simp[hj]at he;exact⟨e',he,Nat.le_refl _,fun _=>rfl⟩}
theorem gI(hH:au M φ H w){id:Nat}(dB:H.us id){b:Nat}(bS:(H.o id).live=true)(hb:dS (φ id)=some b)(hk:eM (· =b) w w')(obj:ae)(a8:obj.bO=(H.o id).bO)
 (rI:obj.aZ=(H.o id).aZ) (pK:aL M φ (H.put [(id,obj)]) w' id):au M φ (H.put [(id,obj)]) w':=by
 refine hH.of (eQ dB bS hb hk obj a8 rI) (· =id) (fun j h=>h ▸ pK) (fun j h=> ?_) (fun j h=> ?_) (fun i j b' hi hj bi bj=> ?_) (fun b'=> ?_)
 ·refine⟨by simp[h],rfl,fun hl b' Hf=>hk.block b' (hH.ours b' ⟨j,hl,Hf⟩).2 fun e=>h ?_⟩
  exact hH.apart j id b hl bS (e ▸ Hf) hb
 ·rw[dZ]at h
  have h1:j≠id:=fun e=>h (.inr e)
  simp only[bE,aJ,h1,if_false]
  exact hH.fresh j fun hu=>h (.inl hu)
 ·refine hH.apart i j b' ?_ ?_ bi bj
  ·by_cases e:i=id
   ·subst e;exact bS
   ·simpa[e]using hi
  ·by_cases e:j=id
   ·subst e;exact bS
   ·simpa[e]using hj
 ·rintro⟨j,h1,h2⟩
  refine Nat.lt_of_lt_of_le (hH.ours b' ⟨j, ?_,h2⟩).2 hk.size
  by_cases e:j=id
  ·subst e;exact bS
  ·simpa[e]using h1
theorem jG(w:World)(b:Nat)(cs:Array Value):eM (· =b) w (w.setRow b cs):=
 ⟨rfl,rfl,rfl,by simp,fun k _ hk=>by
  unfold World.setRow
  simp only[Array.getElem?_modify]
  rw[if_neg (fun e=>hk e.symm)]⟩
theorem xk(hH:au M φ H w){id b:Nat}(dB:H.us id){cs cs':List V}(ho:H.o id= .row cs)(du:φ id= .pointer (some ⟨b,0,none⟩)){cX:Array Value}{ty:TypeId}
 (hb:w.heap[b]? =some (.cells cX ty (0,0))) (ox:Array Value) (hd:V.aB (ai M φ H) φ H w cs' ox.toList) (hf:Flat ox.toList):
 au M φ (H.put [(id, .row cs')]) (w.setRow b ox)/\Trans φ H w φ (H.put [(id, .row cs')]) (w.setRow b ox):=by
 have hl:(H.o id).live=true:=by rw[ho];rfl
 have qi:dS (φ id)=some b:=by rw[du];rfl
 have ht:Trans φ H w φ (H.put [(id, .row cs')]) (w.setRow b ox):=eQ dB hl qi (jG w b ox) _ (by rw[ho];rfl) (by rw[ho];rfl)
 refine⟨gI hH dB hl qi (jG w b ox) _ (by rw[ho];rfl) (by rw[ho];rfl) ?_,ht⟩
 unfold aL
 simp only[bE,aJ,if_true]
 exact⟨b,ox,ty,du,setRow_heap w b cX ox ty (0,0) hb,V.aI ht cs' _ hd,hf⟩
theorem oz{B:Nat->Prop}{sz g:Nat}(cur:Array Value)(ty:TypeId)(fz:Nat×Nat)(hg:w.heap[g]? =some (.cells cur ty fz))(hB: ¬B g):
 ∀ (es:List D) (evs:List Value) (i:Nat),D.aB B w es evs->(∀ev∈evs,ev.cells.size=sz)->(∀j u,(evs.flatMap (·.cells.toList))[j]? =some u->cur[i*sz+j]? =some u)->D.elems B w sz ⟨g,0,none⟩ i es
 |[],_,_,_,_,_=>trivial
 |e::es,_,i,h,hs,hc=>by
  obtain⟨ev,evs,rfl,h1,h2⟩:=h
  have ej:ev.cells.size=sz:=hs ev (by simp)
  refine⟨⟨ev,ej,fun j u hj=> ?_,h1⟩,oz cur ty fz hg hB es evs (i+1) h2 (fun x hx=>hs x (by simp[hx])) fun j u hj=> ?_⟩
  ·have bM:j<ev.cells.size:=(Array.getElem?_eq_some_iff.1 hj).1
   have:cur[i*sz+j]? =some u:=hc j u (by
    rw[List.flatMap_cons,List.getElem?_append_left (by simpa using bM)];simpa using hj)
   refine⟨?_,by simpa using hB⟩
   unfold Addr.add World.cell?
   by_cases e1:i*sz=0<;>by_cases e2:j=0<;>simp_all
  ·have:=hc (sz+j) u (by
    rw[List.flatMap_cons,List.getElem?_append_right (by simp[ej])]
    simpa[ej]using hj)
   rw[show(i+1)*sz+j=i*sz+(sz+j) by rw[Nat.add_mul];omega]
   exact this
theorem Hg(hH:au M φ H w){id ep sz:Nat}{ty:TypeId}{es:List D}(dB:H.us id)(ho:H.o id= .arr ep ty sz es):
 au M φ (H.put [(id, .oh ep es)]) w/\Trans φ H w φ (H.put [(id, .oh ep es)]) w:=by
 have Kv:∀b,bR φ (H.put [(id, .oh ep es)]) b->bR φ H b:=by
  rintro b ⟨j,h1,h2⟩
  by_cases hj:j=id
  ·subst hj;simp[ae.live]at h1
  ·simp[hj]at h1;exact⟨j,h1,h2⟩
 have ht:Trans φ H w φ (H.put [(id, .oh ep es)]) w:={
  cg:=eM.refl _ _
  grow:=fun b hb=> .inl (Kv b hb)
  rel:={
   us:=fun j h=>by simp[h]
   row:=fun j hu hr=>by
    by_cases hj:j=id
    ·subst hj;simp[ae.bO]at hr
    ·simp[hj]at hr;exact⟨hr,rfl⟩
   ep:=fun j e' hu he=>by
    by_cases hj:j=id
    ·subst hj;simp[ae.aZ]at he;subst he;exact⟨ep,by rw[ho];rfl,Nat.le_refl _,fun _=>rfl⟩
    ·simp[hj]at he;exact⟨e',he,Nat.le_refl _,fun _=>rfl⟩}}
 refine⟨hH.of ht (· =id) (fun j h=> ?_) (fun j h=>⟨by simp[h],rfl,fun _ _ _=>rfl⟩) (fun j h=> ?_) (fun i j b hi hj bi bj=> ?_) (fun b hb=>(hH.ours b (Kv b hb)).2),ht⟩
 ·subst h
  have bz:=hH.ok j
  unfold aL at bz|-
  simp only[ho,bE,aJ,if_true]at bz|-
  obtain⟨h0,xs,⟨hl,a8⟩,evs,rfl,h2,h3⟩:=bz
  have hlen:=D.aD _ _ h3
  rcases a8 with⟨h4,h5⟩|⟨g,cap,cur,h4,_,h5,h6,h7,h8,h9⟩
  ·rw[h4]
   have:es=[]:=by simpa using h5
   subst this
   exact⟨none,0,0,rfl,rfl,Nat.le_refl _,fun _=>rfl,0,fun a ha=>by cases ha⟩
  ·rw[h4]
   refine⟨some ⟨g,0,none⟩,es.length,cap,rfl,rfl,h6,(fun h=>by cases h),sz,fun a ha=> ?_⟩
   injection ha with ha;subst ha
   refine⟨fun _=>rfl,oz cur ty (0,0) h5 ?_ es evs 0 (D.aI (ht.blocks (M:=M)) es evs h3) h2 fun j' u Ep=> ?_⟩
   ·rintro(hM|⟨i,Hh,EF⟩)
    ·exact(hH.ours g ⟨j,by rw[ho];rfl,by rw[h4];rfl⟩).1 hM
    ·by_cases e:i=j
     ·subst e;simp[ae.live]at Hh
     ·simp[e]at Hh
      exact e (hH.apart i j g Hh (by rw[ho];rfl) EF (by rw[h4];rfl))
   ·rw[<- h9]at Ep
    simp only[Nat.zero_mul,Nat.zero_add]
    rw[List.getElem?_take]at Ep
    split at Ep
    ·simpa using Ep
    ·cases Ep
 ·rw[dZ]at h
  have h1:j≠id:=fun e=>h (.inr e)
  simp only[bE,aJ,h1,if_false]
  exact hH.fresh j fun hu=>h (.inl hu)
 ·by_cases e1:i=id
  ·subst e1;simp[ae.live]at hi
  ·by_cases e2:j=id
   ·subst e2;simp[ae.live]at hj
   ·simp[e1,e2]at hi hj;exact hH.apart i j b hi hj bi bj
theorem vx(hH:au M φ H w){id:Nat}{kt vt:TypeId}{l:List (D×D)}(dB:H.us id)(ho:H.o id= .map kt vt l):
 au M φ (H.put [(id, .et l)]) w/\Trans φ H w φ (H.put [(id, .et l)]) w:=by
 have Kv:∀b,bR φ (H.put [(id, .et l)]) b->bR φ H b:=by
  rintro b ⟨j,h1,h2⟩
  by_cases hj:j=id
  ·subst hj;simp[ae.live]at h1
  ·simp[hj]at h1;exact⟨j,h1,h2⟩
 have ht:Trans φ H w φ (H.put [(id, .et l)]) w:={
  cg:=eM.refl _ _
  grow:=fun b hb=> .inl (Kv b hb)
  rel:={
   us:=fun j h=>by simp[h]
   row:=fun j hu hr=>by
    by_cases hj:j=id
    ·subst hj;exact⟨by rw[ho];rfl,rfl⟩
    ·simp[hj]at hr;exact⟨hr,rfl⟩
   ep:=fun j e' hu he=>by
    by_cases hj:j=id
    ·subst hj;simp[ae.aZ]at he
    ·simp[hj]at he;exact⟨e',he,Nat.le_refl _,fun _=>rfl⟩}}
 refine⟨hH.of ht (· =id) (fun j h=> ?_) (fun j h=>⟨by simp[h],rfl,fun _ _ _=>rfl⟩) (fun j h=> ?_) (fun i j b hi hj bi bj=> ?_) (fun b hb=>(hH.ours b (Kv b hb)).2),ht⟩
 ·subst h
  have bz:=hH.ok j
  unfold aL at bz|-
  simp only[ho,bE,aJ,if_true]at bz|-
  obtain⟨b,es,clock,h1,h2,h3,h4⟩:=bz
  obtain⟨h5,h6⟩:=(iU _ _).1 h4
  refine⟨b,es,clock,es.toList,h1,h2, ?_,h3, .inl rfl,D.aI (ht.blocks (M:=M)) _ _ h5,D.aI (ht.blocks (M:=M)) _ _ h6⟩
  rintro(hM|⟨i,Hh,EF⟩)
  ·exact(hH.ours b ⟨j,by rw[ho];rfl,by rw[h1];rfl⟩).1 hM
  ·by_cases e:i=j
   ·subst e;simp[ae.live]at Hh
   ·simp[e]at Hh
    exact e (hH.apart i j b Hh (by rw[ho];rfl) EF (by rw[h1];rfl))
 ·rw[dZ]at h
  have h1:j≠id:=fun e=>h (.inr e)
  simp only[bE,aJ,h1,if_false]
  exact hH.fresh j fun hu=>h (.inl hu)
 ·by_cases e1:i=id
  ·subst e1;simp[ae.live]at hi
  ·by_cases e2:j=id
   ·subst e2;simp[ae.live]at hj
   ·simp[e1,e2]at hi hj;exact hH.apart i j b hi hj bi bj
end
end Go.Proofs.YtealblliddhgiaaGreat
