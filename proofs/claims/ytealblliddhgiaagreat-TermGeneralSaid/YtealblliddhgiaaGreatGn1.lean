/-
  A PART OF THE PROOF. Conditions: none.
-/
import Derived.WalkKit
import Derived.Below
set_option linter.unusedSimpArgs false
set_option linter.unusedVariables false
namespace Go.Proofs.YtealblliddhgiaaGreat
def rn(ops:Array Oper)(j:Nat):Option Tmp:=(ops[j]?).bind (·.dst)
structure cg where
 dst:Option Nat
 op:Op
 gd:Option (Nat×Bool):=none
instance:Inhabited cg:=⟨⟨none, .ready 0,none⟩⟩
def BO(n:Nat):Option Tmp->Bool
 |some d=>decide (d<n)
 |none=>true
def Gh(n:Nat)(ops:Array Oper)(o:Oper):Option cg:=
 if BO n o.dst=true then match o.guard with
  |none=>some ⟨o.dst,o.op,none⟩
  |some (j,want)=>match rn ops j with
   |some d=>some ⟨o.dst,o.op,some (d,want)⟩
   |none=>none
 else none
def kU(n:Nat)(ops:Array Oper):List Oper->Option (List cg)
 |[]=>some []
 |o::l=>match Gh n ops o,kU n ops l with
  |some x,some xs=>some (x::xs)
  |_,_=>none
def tmpsOf(o:cg):List Nat:=(o.op.operands.toList.filterMap fun| .tmp t=>some t|_=>none)++(match o.gd with|some (d,_)=>[d]|none=>[])
def eY(o:cg):List Nat:=tmpsOf o++o.dst.toList
def bB(ops:Array Oper)(i:Nat):List Nat:=match ops[i]? with|some o=>(o.after.toList.filter (Region.binds .any)).map (·.on)|none=>[]
def bX(l:List cg)(i:Nat):cg:=l.getD i default
inductive IC where
 |skip|af (l:List cg)|cP (l:List cg) (pr:List (List Nat))|seq (a b:IC)|cond (c:Operand) (a b:IC)|block (id:Nat) (a:IC)|loop (a:IC)|exit (id:Nat)|ret|bad
 |ED (g:Operand) (ps:List Nat) (a b:IC)
 deriving Inhabited
inductive kR where
 |ret|exit (id:Nat)
def kR.code:kR->Code
 | .ret=> .ret
 | .exit id=> .exit id
def lQ(acc:List Nat):List Nat->Nat
 |[]=>0
 |j::ps=>(2^j|||acc.getD j 0)|||lQ acc ps
def ee:List (List Nat)->List Nat->List Nat
 |[],acc=>acc
 |ps::l,acc=>ee l (acc++[lQ acc ps])
def qo(x y:cg):Bool:=match x.dst with|some d=> !(eY y).contains d|none=>true
def xh(l:List cg)(pr:List (List Nat)):Bool:=
 (List.range l.length).all fun j=>(List.range j).all fun i=>((ee pr []).getD j 0).testBit i||(qo (bX l i) (bX l j)&&qo (bX l j) (bX l i))
def kD(xs ys:List Nat):Bool:=xs.all fun x=> !ys.contains x
def eB(pr:List (List Nat))(fp:List (List Nat×List Nat)):Bool:=
 (List.range fp.length).all fun j=>(List.range j).all fun i=>((ee pr []).getD j 0).testBit i||
  (kD (fp.getD i ([],[])).2 (fp.getD j ([],[])).1&&kD (fp.getD i ([],[])).2 (fp.getD j ([],[])).2&&kD (fp.getD j ([],[])).2 (fp.getD i ([],[])).1)
def gw(ops:Array Oper):List (List Nat):=(List.range ops.size).map (bB ops)
def Nf(pr:List (List Nat)):Bool:=(List.range pr.length).all fun k=>(pr.getD k []).all fun j=>decide (j<k)
theorem sW{acc:List Nat}{i:Nat}:∀ (ps:List Nat),(lQ acc ps).testBit i=true->∃j∈ps,i=j\/(acc.getD j 0).testBit i=true
 |[],h=>by simp[lQ]at h
 |j::ps,h=>by
  simp only[lQ,Nat.testBit_or,Bool.or_eq_true]at h
  rcases h with(h|h)|h
  ·rw[Nat.testBit_two_pow]at h
   exact⟨j,by simp, .inl (by have h:=of_decide_eq_true h;exact h.symm)⟩
  ·exact⟨j,by simp, .inr h⟩
  ·obtain⟨j',h1,h2⟩:=sW ps h
   exact⟨j',by simp[h1],h2⟩
theorem qp{k:Nat}:∀ (l:List (List Nat)) (acc:List Nat),k<acc.length->(ee l acc).getD k 0=acc.getD k 0
 |[],_,_=>rfl
 |ps::l,acc,h=>by
  rw[ee,qp l _ (by simp;omega)]
  simp[List.getD_eq_getElem?_getD,List.getElem?_append_left h]
theorem qq{i:Nat}:∀ (l:List (List Nat)) (acc:List Nat) (k:Nat),acc.length<=k->(∀k',k'<l.length->∀j∈l.getD k' [],j<acc.length+k')->((ee l acc).getD k 0).testBit i=true->
 ∃j∈l.getD (k - acc.length) [],i=j\/((ee l acc).getD j 0).testBit i=true
 |[],acc,k,hk,_,h=>by
  simp only[ee]at h
  rw[List.getD_eq_getElem?_getD,List.getElem?_eq_none hk]at h
  simp at h
 |ps::l,acc,k,hk,hp,h=>by
  simp only[ee]at h|-
  by_cases he:k=acc.length
  ·subst he
   rw[qp l _ (by simp)]at h
   have e:(acc++[lQ acc ps]).getD acc.length 0=lQ acc ps:=by simp[List.getD_eq_getElem?_getD]
   rw[e]at h
   obtain⟨j,h1,h2⟩:=sW ps h
   refine⟨j,by simpa using h1,h2.imp id fun h2=> ?_⟩
   have hj:j<acc.length:=by simpa using hp 0 (by simp) j (by simpa using h1)
   rw[qp l _ (by simp;omega)]
   simpa[List.getD_eq_getElem?_getD,List.getElem?_append_left hj]using h2
  ·obtain⟨j,h1,h2⟩:=qq l (acc++[lQ acc ps]) k (by simp;omega) (fun k' PT j hj=>by
    have:=hp (k'+1) (by simp;omega) j (by simpa using hj)
    simp;omega) h
   refine⟨j, ?_,h2⟩
   have e:k - acc.length=(k - (acc++[lQ acc ps]).length)+1:=by simp;omega
   rw[e];simpa using h1
theorem pf{pr:List (List Nat)}(hp:∀k,k<pr.length->∀j∈pr.getD k [],j<k){E:Nat->Bool}(hE:∀k,k<pr.length->E k=true->∀j∈pr.getD k [],E j=true):
 ∀k,k<pr.length->(∀j∈pr.getD k [],E j=true)->∀i,((ee pr []).getD k 0).testBit i=true->E i=true:=by
 intro k
 induction k using Nat.strongRecOn with
 |ind k ih=>
  intro hk hj i hi
  obtain⟨j,h1,h2⟩:=qq pr [] k (by simp) (fun k' PT j hj=>by simpa using hp k' PT j hj) hi
  simp only[List.length_nil,Nat.sub_zero]at h1
  rcases h2 with rfl|h2
  ·exact hj _ h1
  ·have QZ:=hp k hk j h1
   exact ih j QZ (by omega) (hE j (by omega) (hj j h1)) i h2
theorem y0{pr:List (List Nat)}(hp:∀k,k<pr.length->∀j∈pr.getD k [],j<k):∀k,k<pr.length->∀i,((ee pr []).getD k 0).testBit i=true->i<k:=by
 intro k
 induction k using Nat.strongRecOn with
 |ind k ih=>
  intro hk i hi
  obtain⟨j,h1,h2⟩:=qq pr [] k (by simp) (fun k' PT j hj=>by simpa using hp k' PT j hj) hi
  simp only[List.length_nil,Nat.sub_zero]at h1
  have QZ:=hp k hk j h1
  rcases h2 with rfl|h2
  ·exact QZ
  ·have:=ih j QZ (by omega) i h2;omega
def low(n:Nat):Code->IC
 | .skip=> .skip
 | .label _=> .skip
 | .scope c=>low n c
 | .region _ ops false=>match kU n ops ops.toList with
   |some l=> .af l
   |none=> .bad
 | .region _ ops true=>match kU n ops ops.toList with
   |some l=>if xh l (gw ops)&&Nf (gw ops)then .cP l (gw ops)else .bad
   |none=> .bad
 | .seq a b=> .seq (low n a) (low n b)
 | .cond c a b=> .cond c (low n a) (low n b)
 | .block id a=> .block id (low n a)
 | .loop a=> .loop (low n a)
 | .exit id=> .exit id
 | .ret=> .ret
 | .rangeFunc g ps a b=> .ED g ps.toList (low n a) (low n b)
 |_=> .bad
end Go.Proofs.YtealblliddhgiaaGreat
namespace Go.Proofs.YtealblliddhgiaaGreat
inductive D where
 |int (k:IntKind) (n:Int)|bool (b:Bool)|str (s:List UInt8)
 |eC|gY|a7|dk
 |agg (cs:List D)|sl (es:List D)|iface (t:TypeId) (d:D)
 |mp (ks vs:List D)
 deriving Inhabited
def Flat(vs:List Value):Prop:=∀u∈vs,u.oneCell'=true
def gx(B:Nat->Prop)(w:World)(a:Addr)(cs:Array Value):Prop:=∀j u,cs[j]? =some u->w.cell? (a.add j)=some u/\ ¬B a.block
def ja(es:Array MapEntry)(clock:Nat):Prop:=(∀e∈es.toList,e.born<clock)/\(es.toList.map (·.born)).Nodup
def pg(ks:List D):Prop:=ks.Nodup/\∀k∈ks,∃n,k= .int .i64 n
mutual
def D.den (B:Nat->Prop)(w:World):D->Value->Prop
 | .int k n,v=>v= .int k n
 | .bool b,v=>v= .bool b
 | .str l,v=>∃s:ByteArray,v= .string s/\s.data.toList=l
 | .eC,v=>v= .nilIface
 | .gY,v=>v= .pointer none
 | .a7,v=>v= .nilFunc
 | .dk,v=>v= .map none
 | .agg cs,v=>∃a,v= .agg a/\D.aE B w cs a.toList/\Flat a.toList
 | .sl es,v=>∃base len cap,v= .slice base len cap/\len=es.length/\len<=cap/\(base=none->cap=0)/\
  ∃sz,∀a,base=some a->(cap≠0->a.spot=none)/\D.elems B w sz a 0 es
 | .iface t d,v=>∃u,v= .iface t u/\D.den B w d u
 | .mp ks vs,v=>∃m es clock p,v= .map (some m)/\w.heap[m]? =some (.map es clock)/\ ¬B m/\ja es clock/\(p=es.toList\/(p.Perm es.toList/\pg ks))/\D.aE B w ks (p.map (·.key))/\D.aE B w vs (p.map (·.val))
def D.aE (B:Nat->Prop)(w:World):List D->List Value->Prop
 |[],vs=>vs=[]
 |d::ds,vs=>∃u us,vs=u::us/\D.den B w d u/\D.aE B w ds us
def D.elems (B:Nat->Prop)(w:World)(sz:Nat)(a:Addr):Nat->List D->Prop
 |_,[]=>True
 |i,e::es=>(∃ev:Value,ev.cells.size=sz/\gx B w (a.add (i*sz)) ev.cells/\D.den B w e ev)/\D.elems B w sz a (i+1) es
end
inductive V where
 |d (x:D)|bn|agg (cs:List V)|bS (vs:List V)
 |ptr (id off:Nat)|osl (id ep:Nat)|pe (id ep i sz off:Nat)|pp (cs:List D) (off:Nat)
 |func (fn:Fn) (first cap:List V)|iface (t:TypeId) (x:V)
 |ab
 |ox (es:List D)|sX (id off n:Nat)|mp (id:Nat)|eZ|kV (id:Nat)
 deriving Inhabited
inductive ae where
 |no|row (cs:List V)|arr (ep:Nat) (ty:TypeId) (sz:Nat) (es:List D)|ph (ep:Nat) (es:List D)
 |map (kt vt:TypeId) (es:List (D×D))
 |loop (nf n:Nat) (env:List V) (ps:List Nat) (a b:IC) (st:LoopState) (EE:Option kR)
 |fq (es:List (D×D))|kW (es:List (D×D)) (last:Option (D×D))|sY (s:List UInt8) (pos:Nat)
 deriving Inhabited
def bw(l:List V):Nat->V:=fun i=>l.getD i .ab
structure Hp where
 o:Nat->ae
 us:Nat->Prop
def ae.ba:ae->Option Nat
 | .arr ep _ _ _| .ph ep _=>some ep
 |_=>none
def ae.bM:ae->Bool
 | .row _| .map .. | .loop .. | .fq _| .kW .. | .sY .. =>true
 |_=>false
def ae.live:ae->Bool
 | .row _| .arr .. | .map .. | .loop .. | .kW .. | .sY .. =>true
 |_=>false
def dN:Value->Option Nat
 | .pointer (some a)| .slice (some a) _ _=>some a.block
 | .map (some b)=>some b
 |_=>none
abbrev Place:=Nat->Value
def bT(φ:Place)(H:Hp)(b:Nat):Prop:=∃id,(H.o id).live=true/\dN (φ id)=some b
def ao(M:Nat->Prop)(φ:Place)(H:Hp)(b:Nat):Prop:=M b\/bT φ H b
mutual
def V.den (B:Nat->Prop)(φ:Place)(H:Hp)(w:World):V->Value->Prop
 | .d x,v=>D.den B w x v
 | .bn,v=>v= .slice none 0 0
 | .agg cs,v=>∃a,v= .agg a/\V.aE B φ H w cs a.toList/\Flat a.toList
 | .bS vs,v=>∃a,v= .tuple a/\V.aE B φ H w vs a.toList
 | .ptr id off,v=>v.oneCell'=true/\H.us id/\((H.o id).bM=true->∃b,φ id= .pointer (some ⟨b,0,none⟩)/\v= .pointer (some ⟨b,off,none⟩))
 | .osl id ep,v=>v.oneCell'=true/\H.us id/\∀e,(H.o id).ba=some e->ep<=e/\(ep=e->v=φ id)
 | .pe id ep i sz off,v=>v.oneCell'=true/\H.us id/\∀e,(H.o id).ba=some e->ep<=e/\(ep=e->∃b n c,φ id= .slice (some ⟨b,0,none⟩) n c/\v= .pointer (some ⟨b,i*sz+off,none⟩))
 | .pp cs off,v=>∃a ev,a.spot=none/\v= .pointer (some (a.add off))/\D.aE B w cs ev/\Flat ev/\gx B w a ev.toArray
 | .func fn first cap,v=>∃f c,v= .func fn f c/\V.aE B φ H w first f.toList/\V.aE B φ H w cap c.toList
 | .iface t x,v=>∃u,v= .iface t u/\V.den B φ H w x u
 | .ab,_=>True
 | .ox es,v=>D.den B w (.sl es) v/\∃base n,v= .slice base n n
 | .sX id off n,v=>v.oneCell'=true/\H.us id/\((H.o id).bM=true->∃b,φ id= .pointer (some ⟨b,0,none⟩)/\v= .slice (some ⟨b,off,none⟩) n n)
 | .mp id,v=>v.oneCell'=true/\H.us id/\((H.o id).bM=true->v=φ id)
 | .eZ,v=>∃b,v= .bool b
 | .kV id,v=>v.oneCell'=true/\H.us id/\((H.o id).bM=true->∃b,φ id= .pointer (some ⟨b,0,none⟩)/\v= .func (.yield b) #[] #[])
def V.aE (B:Nat->Prop)(φ:Place)(H:Hp)(w:World):List V->List Value->Prop
 |[],vs=>vs=[]
 |x::xs,vs=>∃u us,vs=u::us/\V.den B φ H w x u/\V.aE B φ H w xs us
end
def gy(B:Nat->Prop)(w:World)(sz:Nat)(es:List D)(xs:List Value):Prop:=
 ∃evs:List Value,xs=evs.flatMap (·.cells.toList)/\(∀ev∈evs,ev.cells.size=sz)/\D.aE B w es evs
def aH(B:Nat->Prop)(w:World):List (D×D)->List MapEntry->Prop
 |[],es=>es=[]
 |(k,x)::l,es=>∃e es',es=e::es'/\D.den B w k e.key/\D.den B w x e.val/\aH B w l es'
def sZ(B:Nat->Prop)(w:World)(l:List (D×D))(last:Option (D×D))(b:Nat):Prop:=
 w.heap[b]? =some (.mapIter none 0 #[] 0)/\l=[]/\last=none\/
 ∃m since seen es,w.heap[b]? =some (.mapIter (some m) since seen since)/\w.heap[m]? =some (.map es since)/\ ¬B m/\ja es since/\(∃l',l'.Perm l/\aH B w l' (es.toList.filter fun e=> !seen.contains e.born))/\
  ∀k x,last=some (k,x)->∃e∈es.toList,seen.back?=some e.born/\D.den B w k e.key/\D.den B w x e.val
def aK(M:Nat->Prop)(φ:Place)(H:Hp)(w:World)(id:Nat):Prop:=
 match H.o id with
 | .no=>True
 | .row cs=>∃b cR ty,φ id= .pointer (some ⟨b,0,none⟩)/\w.heap[b]? =some (.cells cR ty (0,0))/\V.aE (ao M φ H) φ H w cs cR.toList/\Flat cR.toList
 | .arr _ ty sz es=>0<sz/\∃xs,w.ownsRow 0 ty sz (φ id) es.length xs/\gy (ao M φ H) w sz es xs
 | .ph _ es=>D.den (ao M φ H) w (.sl es) (φ id)
 | .loop nf n env ps kX fO st EE=>∃b r,φ id= .pointer (some ⟨b,0,none⟩)/\w.heap[b]? =some (.loop r)/\r.fn<nf/\r.state=st/\r.pending=EE.map kR.code/\r.params.toList=ps/\r.tmps.size=n/\low n r.assign=kX/\low n r.body=fO/\
  ∀i,V.den (ao M φ H) φ H w (bw env i) (r.tmps.getD i undef)
 | .map _ _ l=>∃b es clock,φ id= .map (some b)/\w.heap[b]? =some (.map es clock)/\ja es clock/\aH (ao M φ H) w l es.toList
 | .fq l=>D.den (ao M φ H) w (.mp (l.map (·.1)) (l.map (·.2))) (φ id)
 | .kW l last=>∃b,φ id= .pointer (some ⟨b,0,none⟩)/\sZ (ao M φ H) w l last b
 | .sY s pos=>∃b,φ id= .pointer (some ⟨b,0,none⟩)/\w.heap[b]? =some (.stringIter ⟨⟨s⟩⟩ pos)
structure az (M:Nat->Prop) (φ:Place) (H:Hp) (w:World):Prop where
 ok:∀id,aK M φ H w id
 fresh:∀id, ¬H.us id->H.o id= .no
 apart:∀i j b,(H.o i).live=true->(H.o j).live=true->dN (φ i)=some b->dN (φ j)=some b->i=j
 ours:∀b,bT φ H b-> ¬M b/\b<w.heap.size
 u5:∀b,M b->b<w.heap.size
structure eM (m:Nat->Prop) (w w':World):Prop where
 os:w'.os=w.os
 tape:w'.tape=w.tape
 output:w'.output=w.output
 size:w.heap.size<=w'.heap.size
 block:∀k,k<w.heap.size-> ¬m k->w'.heap[k]? =w.heap[k]?
structure dT (φ:Place) (H:Hp) (aC:Place) (H':Hp):Prop where
 us:∀id,H.us id->H'.us id
 row:∀id,H.us id->(H'.o id).bM=true->(H.o id).bM=true/\aC id=φ id
 ep:∀id e',H.us id->(H'.o id).ba=some e'->∃e,(H.o id).ba=some e/\e<=e'/\(e=e'->aC id=φ id)
structure Trans (φ:Place) (H:Hp) (w:World) (aC:Place) (H':Hp) (w':World):Prop where
 bY:eM (bT φ H) w w'
 grow:∀b,bT aC H' b->bT φ H b\/w.heap.size<=b
 rel:dT φ H aC H'
theorem eM.refl (m:Nat->Prop)(w:World):eM m w w:=⟨rfl,rfl,rfl,Nat.le_refl _,fun _ _ _=>rfl⟩
theorem dT.refl (φ:Place)(H:Hp):dT φ H φ H:=⟨fun _ h=>h,fun _ _ h=>⟨h,rfl⟩,fun _ e' _ h=>⟨e',h,Nat.le_refl _,fun _=>rfl⟩⟩
theorem Trans.refl (φ:Place)(H:Hp)(w:World):Trans φ H w φ H w:=⟨eM.refl _ _,fun _ h=> .inl h,dT.refl _ _⟩
theorem dT.trans {φ aC Gi:Place}{H H' Q0:Hp}(h:dT φ H aC H')(k:dT aC H' Gi Q0):dT φ H Gi Q0 where
 us id ax:=k.us id (h.us id ax)
 row id ax hr:=by
  obtain⟨a,b⟩:=k.row id (h.us id ax) hr
  obtain⟨c,d⟩:=h.row id ax a
  exact⟨c,b.trans d⟩
 ep id e' ax he:=by
  obtain⟨e,h1,h2,h3⟩:=k.ep id e' (h.us id ax) he
  obtain⟨e0,g1,g2,g3⟩:=h.ep id e ax h1
  refine⟨e0,g1,Nat.le_trans g2 h2,fun heq=> ?_⟩
  have a:e0=e:=by omega
  have b:e=e':=by omega
  exact(h3 b).trans (g3 a)
theorem Trans.trans {φ aC Gi:Place}{H H' Q0:Hp}{w w' Lr:World}(h:Trans φ H w aC H' w')(k:Trans aC H' w' Gi Q0 Lr):Trans φ H w Gi Q0 Lr where
 bY:={
  os:=k.bY.os.trans h.bY.os
  tape:=k.bY.tape.trans h.bY.tape
  output:=k.bY.output.trans h.bY.output
  size:=Nat.le_trans h.bY.size k.bY.size
  block:=fun b hb hm=>by
   rw[k.bY.block b (Nat.lt_of_lt_of_le hb h.bY.size) (fun hl=>by
    rcases h.grow b hl with h1|h1
    ·exact hm h1
    ·omega),h.bY.block b hb hm]}
 grow b hl:=by
  rcases k.grow b hl with h1|h1
  ·exact h.grow b h1
  ·exact .inr (Nat.le_trans h.bY.size h1)
 rel:=h.rel.trans k.rel
@[simp] theorem PU (a:Addr) (j:Nat):(a.add j).block=a.block:=by unfold Addr.add;split<;>rfl
def pj(w:World)(b:Nat):Prop:=∃cs ty fz,w.heap[b]? =some (.cells cs ty fz)
def cy(w:World)(b:Nat):Prop:=pj w b\/∃es clock,w.heap[b]? =some (.map es clock)
theorem cy.lt {w:World}{b:Nat}(h:cy w b):b<w.heap.size:=by
 rcases Nat.lt_or_ge b w.heap.size with hl|hl
 ·exact hl
 ·rcases h with⟨cs,ty,fz,h⟩|⟨es,clock,h⟩
  ·rw[Array.getElem?_eq_none hl]at h;cases h
  ·rw[Array.getElem?_eq_none hl]at h;cases h
theorem nV{w:World}{a:Addr}{u:Value}(h:w.cell? a=some u):pj w a.block:=by
 unfold World.cell? at h
 split at h
 ·exact⟨_,_,_,by assumption⟩
 ·cases h
theorem rW{w:World}{a:Addr}{u:Value}(h:w.cell? a=some u):cy w a.block:= .inl (nV h)
theorem gx.mono {B B':Nat->Prop}{w w':World}{a:Addr}{cs:Array Value}
 (hb:∀b,cy w b-> ¬B b->w'.heap[b]? =w.heap[b]? /\ ¬B' b) (h:gx B w a cs):gx B' w' a cs:=by
 intro j u hj
 obtain⟨h1,h2⟩:=h j u hj
 have bC:cy w a.block:=by simpa using rW h1
 obtain⟨h3,h4⟩:=hb _ bC h2
 exact⟨by rw[World.cell?_of_block (w:=w) (w':=w') (a:=a.add j) (by simpa using h3)];exact h1,h4⟩
mutual
theorem D.aF {B B':Nat->Prop}{w w':World}(hb:∀b,cy w b-> ¬B b->w'.heap[b]? =w.heap[b]? /\ ¬B' b):
 ∀ (x:D) (v:Value),D.den B w x v->D.den B' w' x v
 | .int _ _,_,h| .bool _,_,h| .str _,_,h| .eC,_,h| .gY,_,h| .a7,_,h| .dk,_,h=>by simpa[D.den]using h
 | .agg cs,_,h=>by
   obtain⟨a,rfl,h,hf⟩:=h
   exact⟨a,rfl,D.aI hb cs _ h,hf⟩
 | .sl es,_,h=>by
   obtain⟨base,len,cap,rfl,h1,h2,h3,sz,h4⟩:=h
   exact⟨base,len,cap,rfl,h1,h2,h3,sz,fun a ha=>⟨(h4 a ha).1,D.s5 hb sz a es 0 (h4 a ha).2⟩⟩
 | .iface t d,_,h=>by
   obtain⟨u,rfl,h⟩:=h
   exact⟨u,rfl,D.aF hb d u h⟩
 | .mp ks vs,_,h=>by
   obtain⟨m,es,clock,p,rfl,h1,h2,h3,hp,h4,h5⟩:=h
   obtain⟨k1,k2⟩:=hb m (.inr ⟨es,clock,h1⟩) h2
   exact⟨m,es,clock,p,rfl,k1.trans h1,k2,h3,hp,D.aI hb ks _ h4,D.aI hb vs _ h5⟩
theorem D.aI {B B':Nat->Prop}{w w':World}(hb:∀b,cy w b-> ¬B b->w'.heap[b]? =w.heap[b]? /\ ¬B' b):
 ∀ (ds:List D) (vs:List Value),D.aE B w ds vs->D.aE B' w' ds vs
 |[],_,h=>h
 |d::ds,_,h=>by
  obtain⟨u,us,rfl,h1,h2⟩:=h
  exact⟨u,us,rfl,D.aF hb d u h1,D.aI hb ds us h2⟩
theorem D.s5 {B B':Nat->Prop}{w w':World}(hb:∀b,cy w b-> ¬B b->w'.heap[b]? =w.heap[b]? /\ ¬B' b)(sz:Nat)(a:Addr):
 ∀ (es:List D) (i:Nat),D.elems B w sz a i es->D.elems B' w' sz a i es
 |[],_,_=>trivial
 |e::es,i,h=>by
  obtain⟨⟨ev,h1,h2,h3⟩,h4⟩:=h
  exact⟨⟨ev,h1,h2.mono hb,D.aF hb e ev h3⟩,D.s5 hb sz a es (i+1) h4⟩
end
theorem aH.mono {B B':Nat->Prop}{w w':World}(hb:∀b,cy w b-> ¬B b->w'.heap[b]? =w.heap[b]? /\ ¬B' b):
 ∀ (l:List (D×D)) (es:List MapEntry),aH B w l es->aH B' w' l es
 |[],_,h=>h
 |(k,x)::l,_,h=>by
  obtain⟨e,es,rfl,h1,h2,h3⟩:=h
  exact⟨e,es,rfl,D.aF hb k _ h1,D.aF hb x _ h2,aH.mono hb l es h3⟩
theorem sZ.mono {B B':Nat->Prop}{w w':World}(hb:∀b,cy w b-> ¬B b->w'.heap[b]? =w.heap[b]? /\ ¬B' b){l:List (D×D)}{last:Option (D×D)}{b:Nat}(Zy:w'.heap[b]? =w.heap[b]?)(h:sZ B w l last b):sZ B' w' l last b:=by
 rcases h with⟨h1,h2⟩|⟨m,since,seen,es,h1,h2,h3,h4,h5,h6⟩
 ·exact .inl ⟨Zy.trans h1,h2⟩
 ·obtain⟨k1,k2⟩:=hb m (.inr ⟨es,since,h2⟩) h3
  obtain⟨l',h5,Q1⟩:=h5
  refine .inr ⟨m,since,seen,es,Zy.trans h1,k1.trans h2,k2,h4,⟨l',h5,aH.mono hb l' _ Q1⟩,fun k x e=> ?_⟩
  obtain⟨e,g1,g2,g3,g4⟩:=h6 k x e
  exact⟨e,g1,g2,D.aF hb k _ g3,D.aF hb x _ g4⟩
theorem jn{B:Nat->Prop}{w:World}:∀ (l:List (D×D)) (es:List MapEntry),aH B w l es↔D.aE B w (l.map (·.1)) (es.map (·.key))/\D.aE B w (l.map (·.2)) (es.map (·.val))
 |[],es=>by
  simp only[aH,List.map_nil,D.aE]
  constructor
  ·rintro rfl;exact⟨rfl,rfl⟩
  ·rintro⟨h,_⟩;simpa using h
 |(k,x)::l,es=>by
  simp only[aH,List.map_cons,D.aE]
  constructor
  ·rintro⟨e,es',rfl,h1,h2,h3⟩
   obtain⟨g1,g2⟩:=(jn l es').1 h3
   exact⟨⟨_,_,rfl,h1,g1⟩,⟨_,_,rfl,h2,g2⟩⟩
  ·rintro⟨⟨u,us,h1,h2,h3⟩,⟨v,vs,h4,h5,h6⟩⟩
   cases es with
   |nil=>simp at h1
   |cons e es'=>
    simp only[List.map_cons,List.cons.injEq]at h1 h4
    obtain⟨rfl,rfl⟩:=h1
    obtain⟨rfl,rfl⟩:=h4
    exact⟨e,es',rfl,h2,h5,(jn l es').2 ⟨h3,h6⟩⟩
theorem D.aG {B:Nat->Prop}{w:World}:∀ (ds:List D) (vs:List Value),D.aE B w ds vs->vs.length=ds.length
 |[],_,h=>by simp[D.aE]at h;simp[h]
 |d::ds,_,h=>by obtain⟨u,us,rfl,_,h2⟩:=h;simp[D.aG ds us h2]
theorem D.ef {B:Nat->Prop}{w:World}:∀ (ds:List D) (vs:List Value) (i:Nat) (d:D),D.aE B w ds vs->ds[i]? =some d->∃v,vs[i]? =some v/\D.den B w d v
 |[],_,_,_,_,hd=>by simp at hd
 |d::ds,_,0,x,h,hd=>by
  obtain⟨u,us,rfl,h1,_⟩:=h
  simp at hd;subst hd;exact⟨u,by simp,h1⟩
 |d::ds,_,i+1,x,h,hd=>by
  obtain⟨u,us,rfl,_,h2⟩:=h
  simpa using D.ef ds us i x h2 (by simpa using hd)
theorem D.vH {B:Nat->Prop}{w:World}{sz:Nat}{a:Addr}:∀ (es:List D) (i j:Nat) (e:D),D.elems B w sz a i es->es[j]? =some e->
 ∃ev:Value,ev.cells.size=sz/\gx B w (a.add ((i+j)*sz)) ev.cells/\D.den B w e ev
 |[],_,_,_,_,hd=>by simp at hd
 |e::es,i,0,x,h,hd=>by
  simp at hd;subst hd;simpa using h.1
 |e::es,i,j+1,x,h,hd=>by
  have:=D.vH es (i+1) j x h.2 (by simpa using hd)
  simpa[Nat.add_assoc,Nat.add_comm 1 j]using this
section
variable {M:Nat->Prop}{φ aC:Place}{H H':Hp}{w w':World}
theorem Trans.blocks (ht:Trans φ H w aC H' w')(b:Nat)(hc:cy w b)(h: ¬ao M φ H b):w'.heap[b]? =w.heap[b]? /\ ¬ao M aC H' b:=by
 have hb:=hc.lt
 refine⟨ht.bY.block b hb fun hl=>h (.inr hl), ?_⟩
 rintro(h1|h1)
 ·exact h (.inl h1)
 ·rcases ht.grow b h1 with h2|h2
  ·exact h (.inr h2)
  ·omega
mutual
theorem V.kY (hb:∀b,cy w b-> ¬ao M φ H b->w'.heap[b]? =w.heap[b]? /\ ¬ao M aC H' b)(hr:dT φ H aC H'):∀ (x:V) (v:Value),V.den (ao M φ H) φ H w x v->V.den (ao M aC H') aC H' w' x v
 | .d x,v,h=>D.aF hb x v h
 | .bn,_,h=>h
 | .ab,_,_=>trivial
 | .ox es,v,h=>⟨D.aF hb (.sl es) v h.1,h.2⟩
 | .sX id off n,v,h=>by
   obtain⟨h0,h1,h2⟩:=h
   refine⟨h0,hr.us id h1,fun br=> ?_⟩
   obtain⟨h3,h4⟩:=hr.row id h1 br
   obtain⟨b,h5,h6⟩:=h2 h3
   exact⟨b,h4.trans h5,h6⟩
 | .mp id,v,h=>by
   obtain⟨h0,h1,h2⟩:=h
   refine⟨h0,hr.us id h1,fun br=> ?_⟩
   obtain⟨h3,h4⟩:=hr.row id h1 br
   exact(h2 h3).trans h4.symm
 | .eZ,v,h=>h
 | .kV id,v,h=>by
   obtain⟨h0,h1,h2⟩:=h
   refine⟨h0,hr.us id h1,fun br=> ?_⟩
   obtain⟨h3,h4⟩:=hr.row id h1 br
   obtain⟨b,h5,h6⟩:=h2 h3
   exact⟨b,h4.trans h5,h6⟩
 | .agg cs,_,h=>by obtain⟨a,rfl,h,hf⟩:=h;exact⟨a,rfl,V.fP hb hr cs _ h,hf⟩
 | .bS cs,_,h=>by obtain⟨a,rfl,h⟩:=h;exact⟨a,rfl,V.fP hb hr cs _ h⟩
 | .ptr id off,v,h=>by
   obtain⟨h0,h1,h2⟩:=h
   refine⟨h0,hr.us id h1,fun br=> ?_⟩
   obtain⟨h3,h4⟩:=hr.row id h1 br
   obtain⟨b,h5,h6⟩:=h2 h3
   exact⟨b,h4.trans h5,h6⟩
 | .osl id ep,v,h=>by
   obtain⟨h0,h1,h2⟩:=h
   refine⟨h0,hr.us id h1,fun e' fw=> ?_⟩
   obtain⟨e,g1,g2,g3⟩:=hr.ep id e' h1 fw
   obtain⟨h3,h4⟩:=h2 e g1
   refine⟨Nat.le_trans h3 g2,fun heq=> ?_⟩
   rw[g3 (by omega)]
   exact h4 (by omega)
 | .pe id ep i sz off,v,h=>by
   obtain⟨h0,h1,h2⟩:=h
   refine⟨h0,hr.us id h1,fun e' fw=> ?_⟩
   obtain⟨e,g1,g2,g3⟩:=hr.ep id e' h1 fw
   obtain⟨h3,h4⟩:=h2 e g1
   refine⟨Nat.le_trans h3 g2,fun heq=> ?_⟩
   rw[g3 (by omega)]
   exact h4 (by omega)
 | .pp cs off,v,h=>by
   obtain⟨a,ev,h1,h2,h3,h5,h4⟩:=h
   exact⟨a,ev,h1,h2,D.aI hb cs ev h3,h5,h4.mono hb⟩
 | .func fn first cap,_,h=>by
   obtain⟨f,c,rfl,h1,h2⟩:=h
   exact⟨f,c,rfl,V.fP hb hr first _ h1,V.fP hb hr cap _ h2⟩
 | .iface t x,_,h=>by obtain⟨u,rfl,h⟩:=h;exact⟨u,rfl,V.kY hb hr x u h⟩
theorem V.fP (hb:∀b,cy w b-> ¬ao M φ H b->w'.heap[b]? =w.heap[b]? /\ ¬ao M aC H' b)(hr:dT φ H aC H'):∀ (ds:List V) (vs:List Value),V.aE (ao M φ H) φ H w ds vs->V.aE (ao M aC H') aC H' w' ds vs
 |[],_,h=>h
 |x::xs,_,h=>by
  obtain⟨u,us,rfl,h1,h2⟩:=h
  exact⟨u,us,rfl,V.kY hb hr x u h1,V.fP hb hr xs us h2⟩
end
theorem V.aF (ht:Trans φ H w aC H' w')(x:V)(v:Value)(h:V.den (ao M φ H) φ H w x v):V.den (ao M aC H') aC H' w' x v:=V.kY ht.blocks ht.rel x v h
theorem V.aI (ht:Trans φ H w aC H' w')(ds:List V)(vs:List Value)(h:V.aE (ao M φ H) φ H w ds vs):V.aE (ao M aC H') aC H' w' ds vs:=V.fP ht.blocks ht.rel ds vs h
end
end Go.Proofs.YtealblliddhgiaaGreat
namespace Go.Proofs.YtealblliddhgiaaGreat
def ak{α:Type}(f:Nat->α)(i:Nat)(x:α):Nat->α:=fun j=>if j=i then x else f j
@[simp] theorem aJ {α:Type} (f:Nat->α) (i:Nat) (x:α) (j:Nat):ak f i x j=if j=i then x else f j:=rfl
structure S where
 env:Nat->V
 o:Nat->ae
 nx:Nat
def S.H (s:S):Hp:=⟨s.o,fun id=>id<s.nx⟩
def V.dp:Value->V
 | .int k n=> .d (.int k n)| .bool b=> .d (.bool b)| .string s=> .d (.str s.data.toList)
 | .nilIface=> .d .eC| .pointer none=> .d .gY| .nilFunc=> .d .a7| .map none=> .d .dk
 | .slice none 0 0=> .bn
 |_=> .ab
def BP:List V->Option (List D)
 |[]=>some []
 | .d x::vs=>(BP vs).map (x::·)
 |_::_=>none
def fC(cs:List V):V:=match BP cs with|some ds=> .d (.agg ds)|none=> .agg cs
def V.ofConst:Value->V
 | .agg a=>if a.toList.all Value.oneCell' then fC (a.toList.map V.dp)else .ab
 |v=>V.dp v
def S.ev (s:S):Operand->V
 | .tmp t=>s.env t
 | .const v=>V.ofConst v
 | .func f=> .func (.func f) [] []
 | .global _=> .ab
def D.cells:D->List D
 | .agg cs=>cs
 |x=>[x]
def V.cells:V->Option (List V)
 | .d x=>some (x.cells.map .d)
 | .agg cs=>some cs
 | .bS _| .ab=>none
 |v=>some [v]
mutual
def dO(o:Nat->ae):V->Option D
 | .d x=>some x
 | .bn=>some (.sl [])
 | .ox es=>some (.sl es)
 | .osl id ep=>match o id with
   | .arr gU _ _ es| .ph gU es=>if ep=gU then some (.sl es)else none
   |_=>none
 | .mp id=>match o id with
   | .map _ _ l=>some (.mp (l.map (·.1)) (l.map (·.2)))
   | .fq l=>some (.mp (l.map (·.1)) (l.map (·.2)))
   |_=>none
 | .agg cs=>(cc o cs).map .agg
 | .iface t x=>(dO o x).map (.iface t)
 |_=>none
def cc(o:Nat->ae):List V->Option (List D)
 |[]=>some []
 |v::vs=>(dO o v).bind fun x=>(cc o vs).map (x::·)
end
mutual
def V.ids:V->List Nat
 | .osl id _=>[id]
 | .mp id=>[id]
 | .agg cs=>V.bf cs
 | .iface _ x=>x.ids
 |_=>[]
def V.bf:List V->List Nat
 |[]=>[]
 |v::vs=>v.ids++V.bf vs
end
def cQ(o:Nat->ae)(ids:List Nat):List (Nat×ae):=
 ids.map fun id=>(id,match o id with| .arr ep _ _ es=> .ph ep es| .map _ _ l=> .fq l|o=>o)
def qs(o:Nat->ae)(ids:List Nat):List (Nat×ae):=
 ids.filterMap fun id=>match o id with| .arr ep _ _ es=>some (id, .ph ep es)|_=>none
def put(o:Nat->ae)(Δ:List (Nat×ae)):Nat->ae:=Δ.foldl (fun f x=>ak f x.1 x.2) o
def Hp.put (H:Hp)(Δ:List (Nat×ae)):Hp:={o:=YtealblliddhgiaaGreat.put H.o Δ,us:=fun id=>H.us id\/id∈Δ.map (·.1)}
def bp(P:Program)(t:TypeId):Option (List V):=
 match P.info? t with
 |some i=>match i.zero with
  |some z=>if z.cells.size=i.size/\z.cells.toList.all Value.oneCell'=true then some (z.cells.toList.map V.dp)else none
  |none=>none
 |none=>none
def cj(P:Program)(t:TypeId):Option Bool:=
 match P.underlying t with
 |some (.struct _)|some (.array _ _)=>some true
 |some _=>some false
 |none=>none
def cB(P:Program)(t:TypeId)(f:Nat):Option Nat:=
 match P.underlying t with
 |some (.struct fs)=>match fs[f]? with
  |some fd=>if P.cellsOf fd.type=0 then none else some fd.offset
  |none=>none
 |_=>none
def aV(P:Program)(t:TypeId):Option TypeId:=
 match P.underlying t with
 |some (.slice e)=>some e
 |_=>none
def cH(P:Program)(t:TypeId):Option (Nat×TypeId):=
 match P.underlying t with
 |some (.array n e)=>some (n,e)
 |_=>none
def dF(P:Program)(t:TypeId):Option (List (Nat×Nat)):=
 match P.underlying t with
 |some (.struct fs)=>if fs.toList.all (fun f=>(P.info? f.type).isSome)=true then some (fs.toList.map fun f=>(f.offset,P.cellsOf f.type))else none
 |some (.array n e)=>if(P.info? e).isSome=true then some ((List.range n).map fun i=>(i*P.cellsOf e,P.cellsOf e))else none
 |_=>none
def cM(P:Program)(t:TypeId):Option IntKind:=
 match P.underlying t with
 |some (.int k)=>some k
 |_=>none
def eQ(P:Program)(t:TypeId)(cs:List V)(off:Nat):Option V:=
 match cj P t with
 |some true=>if off+P.cellsOf t<=cs.length then some (fC ((cs.drop off).take (P.cellsOf t)))else none
 |some false=>cs[off]?
 |none=>none
def xi(P:Program)(t:TypeId)(cs:List V)(off:Nat)(v:V):Option (List V):=
 match v.cells with
 |some us=>if us.length=P.cellsOf t/\(0<us.length\/(P.info? t).isSome=true)/\off+us.length<=cs.length then some (cs.take off++us++cs.drop (off+us.length))else none
 |none=>none
def rp(places:List (Nat×Nat))(cs:List V):List (Nat×V)->Option (List V)
 |[]=>some cs
 |(i,v)::rest=>match places[i]?,v.cells with
  |some (off,size),some us=>if us.length=size/\off+us.length<=cs.length then rp places (cs.take off++us++cs.drop (off+us.length)) rest else none
  |_,_=>none
def D.put (e:D)(off:Nat)(us:List D):Option D:=
 match e with
 | .agg cs=>if off+us.length<=cs.length then some (.agg (cs.take off++us++cs.drop (off+us.length)))else none
 |_=>match off,us with
  |0,[u]=>some u
  |_,_=>none
def Q2(op:BinOp)(a b:Int):Option Bool:=
 match op with
 | .eql=>some (a==b)| .neq=>some (a !=b)| .lss=>some (decide (a<b))| .leq=>some (decide (a<=b))
 | .gtr=>some (decide (a>b))| .geq=>some (decide (a≥b))
 |_=>none
def s6(op:BinOp)(k:IntKind)(x y:Int):Option Int:=
 let a:=BitVec.ofInt k.bits x
 let b:=BitVec.ofInt k.bits y
 match op with
 | .and=>some (k.wrap (a&&&b).toNat)
 | .or=>some (k.wrap (a|||b).toNat)
 | .xor=>some (k.wrap (a ^^^ b).toNat)
 | .andNot=>some (k.wrap (a&&& ~~~b).toNat)
 |_=>none
def Jj(op:BinOp)(k:IntKind)(a b:Int)(K:V->Prop):Prop:=
 match op with
 | .add=>K (.d (.int k (k.wrap (a+b))))
 | .sub=>K (.d (.int k (k.wrap (a - b))))
 | .mul=>K (.d (.int k (k.wrap (a*b))))
 | .quo=>b≠0/\K (.d (.int k (k.wrap (a.tdiv b))))
 | .rem=>b≠0/\K (.d (.int k (a.tmod b)))
 | .and| .or| .xor| .andNot=>∃r,s6 op k a b=some r/\K (.d (.int k r))
 | .shl| .shr=>False
 |op=>∃r,Q2 op a b=some r/\K (.d (.bool r))
def Gj(P:Program)(t:TypeId)(x y:D)(r:Bool):Prop:=
 ∀ (B:Nat->Prop) (w:World) (u v:Value),D.den B w x u->D.den B w y v->(Op.equal t u v).run P w= .ok r w/\∀ (op:BinOp) (a b:Operand),(eqGuard op t a b u v).run P w= .ok () w
def Gk(P:Program)(op:BinOp)(t:TypeId)(x y:V)(K:V->Prop):Prop:=
 match x,y with
 | .d (.int k a), .d (.int k' b)=>k=k'/\Jj op k a b K
 | .d (.bool a), .d (.bool b)=>match op with
   | .eql=>P.underlying t=some .bool/\K (.d (.bool (a==b)))
   | .neq=>P.underlying t=some .bool/\K (.d (.bool (a !=b)))
   |_=>False
 | .d (.str a), .d (.str b)=>match op with
   | .eql=>K (.d (.bool (a==b)))
   | .neq=>K (.d (.bool (a !=b)))
   |_=>False
 | .d (.agg a), .d (.agg b)=>match op with
   | .eql=>∃r,Gj P t (.agg a) (.agg b) r/\K (.d (.bool r))
   | .neq=>∃r,Gj P t (.agg a) (.agg b) r/\K (.d (.bool !r))
   |_=>False
 |_,_=>False
def Q3(op:UnOp)(x:V)(K:V->Prop):Prop:=
 match op,x with
 | .neg, .d (.int k n)=>K (.d (.int k (k.wrap (0 - n))))
 | .not, .d (.bool b)=>K (.d (.bool !b))
 |_,_=>False
def y9(c a b:V)(K:V->Prop):Prop:=
 match c with
 | .d (.bool t)=>(t=true->K a)/\(t=false->K b)
 |_=>False
def Gl(P:Program)(t:TypeId)(o:Nat->ae)(x:V)(K:V->List Nat->Prop):Prop:=
 match P.underlying t with
 |some (.slice _)=>match x with
  | .d (.sl es)=>K (.d (.int .i64 es.length)) []
  | .bn=>K (.d (.int .i64 0)) []
  | .ox es=>K (.d (.int .i64 es.length)) []
  | .osl id ep=>match o id with
    | .arr gU _ _ es| .ph gU es=>ep=gU/\K (.d (.int .i64 es.length)) [id]
    |_=>False
  |_=>False
 |some .string=>match x with
  | .d (.str s)=>K (.d (.int .i64 s.length)) []
  |_=>False
 |some (.array n _)=>K (.d (.int .i64 n)) []
 |_=>False
def jw(P:Program)(o:Nat->ae)(t:TypeId)(x ix:V)(K:V->List Nat->Prop):Prop:=
 match ix with
 | .d (.int _ i)=>match aV P t with
   |some e=>match x with
    | .d (.sl es)=>0<=i/\∃y,es[i.toNat]? =some y/\y.cells.length=P.cellsOf e/\0<P.cellsOf e/\K (.pp y.cells 0) []
    | .ox es=>0<=i/\∃y,es[i.toNat]? =some y/\y.cells.length=P.cellsOf e/\0<P.cellsOf e/\K (.pp y.cells 0) []
    | .osl id ep=>match o id with
      | .arr gU _ sz es=>ep=gU/\0<=i/\i.toNat<es.length/\sz=P.cellsOf e/\0<P.cellsOf e/\K (.pe id ep i.toNat sz 0) [id]
      | .ph gU es=>ep=gU/\0<=i/\∃y,es[i.toNat]? =some y/\y.cells.length=P.cellsOf e/\0<P.cellsOf e/\K (.pp y.cells 0) [id]
      |_=>False
    |_=>False
   |none=>match cH P t with
    |some (n,e)=>0<=i/\i<n/\(P.info? e).isSome=true/\(match x with
     | .ptr id off=>(o id).bM=true/\K (.ptr id (off+i.toNat*P.cellsOf e)) []
     | .pp cs off=>K (.pp cs (off+i.toNat*P.cellsOf e)) []
     | .pe id ep j sz off=>(o id).ba=some ep/\K (.pe id ep j sz (off+i.toNat*P.cellsOf e)) []
     |_=>False)
    |none=>False
 |_=>False
def jx(P:Program)(o:Nat->ae)(t:TypeId)(x:V)(f:Nat)(K:V->Prop):Prop:=
 match cB P t f with
 |some q=>match x with
  | .ptr id off=>(o id).bM=true/\K (.ptr id (off+q))
  | .pp cs off=>K (.pp cs (off+q))
  | .pe id ep j sz off=>(o id).ba=some ep/\K (.pe id ep j sz (off+q))
  |_=>False
 |none=>False
def zc(P:Program)(o:Nat->ae)(t:TypeId)(x:V)(K:V->List Nat->Prop):Prop:=
 match x with
 | .ptr id off=>match o id with
   | .row cs=>∃v,eQ P t cs off=some v/\K v [id]
   |_=>False
 | .pp cs off=>∃v,eQ P t (cs.map .d) off=some v/\K v []
 | .pe id ep i sz off=>match o id with
   | .arr gU _ nP es=>ep=gU/\sz=nP/\∃e,es[i]? =some e/\∃v,eQ P t (e.cells.map .d) off=some v/\K v [id]
   |_=>False
 |_=>False
def s7(P:Program)(o:Nat->ae)(t:TypeId)(x v:V)(K:List (Nat×ae)->List Nat->Prop):Prop:=
 match x with
 | .ptr id off=>match o id with
   | .row cs=>∃cs',xi P t cs off v=some cs'/\K [(id, .row cs')] [id]
   |_=>False
 | .pe id ep i nP off=>match o id with
   | .arr gU ty sz es=>ep=gU/\nP=sz/\∃e,es[i]? =some e/\∃y,dO o v=some y/\y.cells.length=P.cellsOf t/\0<y.cells.length/\v.ids.all (· !=id)=true/\
    ∃e',e.put off y.cells=some e'/\K (cQ o v.ids++[(id, .arr ep ty sz (es.set i e'))]) (id::v.ids)
   |_=>False
 |_=>False
def iG(P:Program)(o:Nat->ae)(fr:Nat)(t:TypeId)(len:Nat)(parts:List (Nat×V))(K:V->List (Nat×ae)->List Nat->Prop):Prop:=
 match aV P t with
 |some e=>(len=0/\parts=[]/\0<P.cellsOf e/\K (.osl fr 0) [(fr, .arr 0 e (P.cellsOf e) [])] [])\/(parts.map (·.1)=List.range len)/\(bp P e).isSome=true/\0<len/\0<P.cellsOf e/\len*P.cellsOf e<=2^24/\
  ∃ds,cc o (parts.map (·.2))=some ds/\(∀x∈ds,x.cells.length=P.cellsOf e)/\
   K (.osl fr 0) (cQ o (V.bf (parts.map (·.2)))++[(fr, .arr 0 e (P.cellsOf e) ds)]) (V.bf (parts.map (·.2)))
 |none=>False
def bI(P:Program)(e:TypeId):Option D:=
 match bp P e with
 |some z=>match cc (fun _=> .no) z,cj P e with
  |some ds,some true=>some (.agg ds)
  |some [x],some false=>some x
  |_,_=>none
 |none=>none
def jy(P:Program)(fr:Nat)(t:TypeId)(l c:V)(K:V->List (Nat×ae)->Prop):Prop:=
 match aV P t,l,c with
 |some e, .d (.int _ n), .d (.int _ m)=>n=m/\0<=n/\0<P.cellsOf e/\P.bytesOf e*n.toNat<=2^47/\n.toNat<=2^47/\
  ∃x,bI P e=some x/\K (.osl fr 0) [(fr, .arr 0 e (P.cellsOf e) (List.replicate n.toNat x))]
 |_,_,_=>False
def eR(o:Nat->ae)(x:V):Option (List D):=
 match dO o x with
 |some (.sl es)=>some es
 |_=>none
def pk(P:Program)(o:Nat->ae)(fr:Nat)(ts:Array TypeId)(x y:V)(K:V->List (Nat×ae)->List Nat->Prop):Prop:=
 match ts.toList with
 |[t,t']=>t=t'/\(match aV P t with
  |some e=>∃new,eR o y=some new/\0<P.cellsOf e/\(bp P e).isSome=true/\(∀z∈new,z.cells.length=P.cellsOf e)/\(match x with
   | .bn=>new.length<=2^47/\new.length*P.bytesOf e<=2^47/\K (.osl fr 0) [(fr, .arr 0 e (P.cellsOf e) new)] y.ids
   | .ox es=>(∀z∈es,z.cells.length=P.cellsOf e)/\(if new=[]then K (.ox es) [] y.ids else es.length+new.length<=2^40/\(es.length+new.length)*P.bytesOf e<=2^40/\K (.osl fr 0) [(fr, .arr 0 e (P.cellsOf e) (es++new))] y.ids)
   | .osl id ep=>match o id with
     | .arr gU ty sz es=>ep=gU/\ty=e/\sz=P.cellsOf e/\es.length+new.length<=2^47/\(es.length+new.length)*P.bytesOf e<=2^47/\
      K (.osl id (ep+1)) [(id, .arr (ep+1) ty sz (es++new))] (id::y.ids)
     |_=>False
   |_=>False)
  |none=>False)
 |_=>False
def nE(isMax:Bool)(args:List V)(K:V->Prop):Prop:=
 match args with
 |[.d (.int k a), .d (.int k' b)]=>k=k'/\K (.d (.int k (if isMax then(if b>a then b else a)else(if b<a then b else a))))
 |_=>False
def kZ(o:Nat->ae)(x:V)(K:V->Prop):Prop:=
 match x with
 | .ptr id off=>(o id).bM=true/\K (.ptr id off)
 | .pp cs off=>K (.pp cs off)
 | .func (.func f) first cap=>K (.func (.func f) first cap)
 |_=>False
def jz(P:Program)(t:TypeId)(xs:List D)(off:Nat):Option D:=
 match cj P t with
 |some true=>if off+P.cellsOf t<=xs.length then some (.agg ((xs.drop off).take (P.cellsOf t)))else none
 |some false=>xs[off]?
 |none=>none
inductive V9 where
 |int|bool|str|struct (fs:List (TypeId×Nat))|arr (n:Nat) (e:TypeId)
def bg(P:Program)(t:TypeId):Option V9:=
 match P.underlying t with
 |some (.int _)=>some .int
 |some .bool=>some .bool
 |some .string=>some .str
 |some (.struct fs)=>if(!P.stoodInHeld t&&fs.toList.all (fun f=>f.name != "_"))=true then some (.struct (fs.toList.map fun f=>(f.type,f.offset)))else none
 |some (.array n e)=>if(P.info? e).isSome=true then some (.arr n e)else none
 |_=>none
def Gm(a b:Option Bool):Option Bool:=
 match a,b with
 |some a,some b=>some (a&&b)
 |_,_=>none
def zd(f:TypeId->Nat->Option Bool):List (TypeId×Nat)->Option Bool
 |[]=>some true
 |x::l=>Gm (f x.1 x.2) (zd f l)
def De(f:Nat->Option Bool):Nat->Nat->Option Bool
 |0,_=>some true
 |n+1,i=>Gm (f i) (De f n (i+1))
def Ng(f:D->D->Option Bool)(x y:Option D):Option Bool:=
 match x,y with
 |some x,some y=>f x y
 |_,_=>none
def qm(P:Program):Nat->TypeId->D->D->Option Bool
 |0,_,_,_=>none
 |d+1,t,x,y=>match bg P t with
  |some .int=>match x,y with| .int k a, .int k' b=>if k=k' then some (a==b)else none|_,_=>none
  |some .bool=>match x,y with| .bool a, .bool b=>some (a==b)|_,_=>none
  |some .str=>match x,y with| .str a, .str b=>some (a==b)|_,_=>none
  |some (.struct fs)=>match x,y with
   | .agg xs, .agg ys=>zd (fun u off=>Ng (qm P d u) (jz P u xs off) (jz P u ys off)) fs
   |_,_=>none
  |some (.arr n e)=>match x,y with
   | .agg xs, .agg ys=>De (fun i=>Ng (qm P d e) (jz P e xs (i*P.cellsOf e)) (jz P e ys (i*P.cellsOf e))) n 0
   |_,_=>none
  |none=>none
abbrev gz:=V×List (Nat×ae)×List Nat
def dm(x:Option gz)(K:V->List (Nat×ae)->List Nat->Prop):Prop:=
 match x with
 |some (v,Δ,rd)=>K v Δ rd
 |none=>False
def EF(x:Option V)(Wa:Nat):Option Nat:=
 match x with
 |none=>some Wa
 |some (.d (.int _ i))=>if 0<=i then some i.toNat else none
 |_=>none
def oz(o:Nat->ae)(x:V):Option (Nat×Nat):=
 match x with
 | .ptr id off=>if(o id).bM=true then some (id,off)else none
 |_=>none
def oA(o:Nat->ae)(x:V):Option (Nat×Nat×Nat×List V):=
 match x with
 | .sX id off n=>match o id with
   | .row cs=>some (id,off,n,cs)
   |_=>none
 |_=>none
def qt(P:Program)(o:Nat->ae)(t:TypeId)(x:V)(lo hi mx:Option V):Option gz:=
 match aV P t with
 |some e=>match eR o x,EF lo 0 with
  |some es,some l=>match EF hi es.length with
   |some h=>if l<=h/\h<=es.length/\(P.info? e).isSome=true/\(l=0\/es.all (fun y=>y.cells.length==P.cellsOf e)=true)then match mx with
    |none=>some (.d (.sl ((es.take h).drop l)),cQ o x.ids,x.ids)
    |some m=>match hi,EF (some m) 0 with
     |some _,some m=>if h<=m/\m<=es.length then some (if h=m then .ox ((es.take h).drop l)else .d (.sl ((es.take h).drop l)),cQ o x.ids,x.ids)else none
     |_,_=>none
    else none
   |none=>none
  |_,_=>none
 |none=>match cH P t,lo,hi,mx with
  |some (n,e),none,none,none=>match oz o x with
   |some (id,off)=>if(P.info? e).isSome=true then some (.sX id off n,[],[id])else none
   |none=>none
  |_,_,_,_=>none
def vI(P:Program)(o:Nat->ae)(ts:Array TypeId)(x y:V):Option gz:=
 match ts.toList with
 |[t,_]=>match aV P t with
  |some e=>match oA o x,eR o y with
   |some (id,off,n,cs),some es=>if P.cellsOf e=1/\off+n<=cs.length/\es.all (fun z=>z.cells.length==1)=true/\y.ids.all (· !=id)=true then
    some (.d (.int .i64 ((min es.length n:Nat):Int)),cQ o y.ids++[(id, .row (cs.take off++((es.take n).flatMap D.cells).map .d++cs.drop (off+(es.take n).length)))],id::y.ids)else none
   |_,_=>none
  |none=>none
 |_=>none
def xj(P:Program)(t:TypeId)(f:Nat):Option (Nat×TypeId):=
 match P.underlying t with
 |some (.struct fs)=>match fs[f]? with
  |some fd=>some (fd.offset,fd.type)
  |none=>none
 |_=>none
def s8(P:Program)(t:TypeId)(x:V)(f:Nat):Option V:=
 match xj P t f with
 |some (off,u)=>match x with
  | .d (.agg cs)=>(jz P u cs off).map .d
  | .agg cs=>eQ P u cs off
  |_=>none
 |none=>none
def s9(P:Program)(t:TypeId)(x i:V):Option V:=
 match i with
 | .d (.int _ i)=>if 0<=i then match P.underlying t with
  |some .string=>match x with
   | .d (.str s)=>match s[i.toNat]? with
     |some b=>some (.d (.int .u8 b.toNat))
     |none=>none
   |_=>none
  |some (.array n e)=>if i<n/\(P.info? e).isSome=true then match x with
   | .d (.agg cs)=>(jz P e cs (i.toNat*P.cellsOf e)).map .d
   | .agg cs=>eQ P e cs (i.toNat*P.cellsOf e)
   |_=>none
   else none
  |_=>none
   else none
 |_=>none
def qu(P:Program)(t:TypeId):Bool:=
 match P.underlying t with
 |some (.interface _)=>false
 |some _=>true
 |none=>false
def zeroV(P:Program)(t:TypeId):Option V:=
 match P.info? t with
 |some i=>match i.zero with
  |some (.agg a)=>if a.toList.all Value.oneCell'=true then some (fC (a.toList.map V.dp))else none
  |some v=>if v.oneCell'=true then some (V.dp v)else none
  |none=>none
 |none=>none
def pn(P:Program)(t:TypeId)(ok:Bool)(x:V):Option V:=
 if qu P t=true then match x with
  | .d (.iface u y)=>if u=t then some (if ok=true then .bS [.d y, .d (.bool true)]else .d y)
   else if ok=true then(zeroV P t).map fun z=> .bS [z, .d (.bool false)]else none
  | .d .eC=>if ok=true then(zeroV P t).map fun z=> .bS [z, .d (.bool false)]else none
  |_=>none
 else none
def ze(o:Nat->ae)(x:V):Option V:=
 match x with
 | .bn=>some (.d (.bool true))
 |x=>match eR o x with
  |some es=>some (if es=[]then .eZ else .d (.bool false))
  |none=>none
def isConst:Operand->Bool
 | .const _=>true
 |_=>false
def Jk:V->Option V
 | .d (.bool b)=>some (.d (.bool !b))
 | .eZ=>some .eZ
 |_=>none
def qv(o:Nat->ae)(x:V):Option V:=
 match x with
 | .d .dk=>some (.d (.bool true))
 | .d (.mp _ _)=>some (.d (.bool false))
 | .mp id=>match o id with| .map _ _ _=>some (.d (.bool false))| .fq _=>some (.d (.bool false))|_=>none
 |_=>none
def qw(o:Nat->ae)(x:V):Option V:=
 match x with
 | .d .gY=>some (.d (.bool true))
 | .ptr id _=>if(o id).bM=true then some (.d (.bool false))else none
 | .pp _ _=>some (.d (.bool false))
 |_=>none
def BQ(P:Program)(o:Nat->ae)(t:TypeId)(oB:Bool)(x y:V):Option V:=
 match P.underlying t with
 |some (.interface _)=>match x,y with
  | .d .eC, .d .eC=>if oB=true then some (.d (.bool true))else none
  | .d (.iface _ _), .d .eC| .iface _ _, .d .eC| .d .eC, .d (.iface _ _)| .d .eC, .iface _ _=>some (.d (.bool false))
  |_,_=>none
 |some (.func _ _ _)=>match x,y with
  | .d .a7, .d .a7=>some (.d (.bool true))
  | .func _ _ _, .d .a7=>some (.d (.bool false))
  |_,_=>none
 |some (.map _ _)=>match y with
  | .d .dk=>qv o x
  |_=>none
 |some (.pointer _)=>match y with
  | .d .gY=>qw o x
  |_=>none
 |some (.slice _)=>match y with
  | .bn=>ze o x
  |_=>none
 |some (.struct _)|some (.array _ _)=>match x,y with
  | .d (.agg cd), .d (.agg bs)=>if P.eqGuardType P.depth t=false then(qm P 100 t (.agg cd) (.agg bs)).map fun r=> .d (.bool r)else none
  |_,_=>none
 |_=>none
def qx(P:Program)(o:Nat->ae)(op:BinOp)(t:TypeId)(oB:Bool)(x y:V):Option gz:=
 match op with
 | .eql=>(BQ P o t oB x y).map fun v=>(v,[],[])
 | .neq=>((BQ P o t oB x y).bind Jk).map fun v=>(v,[],[])
 |_=>none
mutual
def D.same:D->D->Bool
 | .int k a, .int j b=>k==j&&a==b
 | .bool a, .bool b=>a==b
 | .str a, .str b=>a==b
 | .eC, .eC| .gY, .gY| .a7, .a7| .dk, .dk=>true
 | .agg cd, .agg bs=>D.fT cd bs
 | .sl cd, .sl bs=>D.fT cd bs
 | .iface t a, .iface u b=>t==u&&a.same b
 | .mp ks vs, .mp cl Vk=>D.fT ks cl&&D.fT vs Vk
 |_,_=>false
def D.fT:List D->List D->Bool
 |[],[]=>true
 |a::cd,b::bs=>a.same b&&D.fT cd bs
 |_,_=>false
end
def oC(P:Program)(t:TypeId):Option (TypeId×TypeId):=
 match P.underlying t with
 |some (.map k v)=>some (k,v)
 |_=>none
def nQ(P:Program):Nat->TypeId->D->Bool
 |0,_,_=>false
 |d+1,t,x=>match bg P t with
  |some .int|some .bool|some .str=>true
  |some (.struct fs)=>match x with
   | .agg xs=>fs.all fun f=>match jz P f.1 xs f.2 with|some y=>nQ P d f.1 y|none=>false
   |_=>false
  |some (.arr n e)=>match x with
   | .agg xs=>(List.range n).all fun i=>match jz P e xs (i*P.cellsOf e)with|some y=>nQ P d e y|none=>false
   |_=>false
  |none=>false
def findD(P:Program)(kt:TypeId)(k:D):List (D×D)->Nat->Option (Option (Nat×D×D))
 |[],_=>some none
 |(k',x)::l,i=>match qm P 100 kt k k' with
  |some true=>some (some (i,k',x))
  |some false=>findD P kt k l (i+1)
  |none=>none
def nW:D->Bool
 | .int _ _| .bool _| .str _=>true
 |_=>false
def kE:D->Bool
 | .agg cs=>cs.all nW
 |x=>nW x
def nX(o:Nat->ae)(m:V):Option (Option (Nat×TypeId×TypeId)×List (D×D)):=
 match m with
 | .mp id=>match o id with
   | .map kt vt l=>some (some (id,kt,vt),l)
   |_=>none
 | .d .dk=>some (none,[])
 |_=>none
def pq(o:Nat->ae)(m:V):Option (List Nat×List (D×D)):=
 match m with
 | .mp id=>match o id with
   | .map _ _ l=>some ([id],l)
   | .fq l=>some ([id],l)
   |_=>none
 | .d .dk=>some ([],[])
 | .d (.mp ks vs)=>some ([],ks.zip vs)
 |_=>none
def Wb(r:Option (Nat×TypeId×TypeId)):List Nat:=match r with|some p=>[p.1]|none=>[]
def iE(P:Program)(o:Nat->ae)(t:TypeId)(m k:V)(ok:Bool):Option gz:=
 match oC P t,dO o k,pq o m with
 |some (kt,vt),some kd,some (rd,l)=>if k.ids=[]/\nQ P 100 kt kd=true then match findD P kt kd l 0 with
  |some (some (_,_,x))=>some (if ok=true then .bS [.d x, .d (.bool true)]else .d x,[],rd)
  |some none=>match zeroV P vt with
   |some z=>some (if ok=true then .bS [z, .d (.bool false)]else z,[],rd)
   |none=>none
  |none=>none
  else none
 |_,_,_=>none
def fI(P:Program)(o:Nat->ae)(t:TypeId)(m k v:V):Option gz:=
 match oC P t,dO o k,dO o v,nX o m with
 |some (kt,_),some kd,some vd,some (some (id,BH,BI),l)=>if k.ids=[]/\nQ P 100 kt kd=true/\kE kd=true/\v.ids.all (· !=id)=true then match findD P kt kd l 0 with
  |some (some (i,k',_))=>if k'.same kd=true then some (.bS [],cQ o v.ids++[(id, .map BH BI (l.set i (kd,vd)))],id::v.ids)else none
  |some none=>some (.bS [],cQ o v.ids++[(id, .map BH BI (l++[(kd,vd)]))],id::v.ids)
  |none=>none
  else none
 |_,_,_,_=>none
def mG(P:Program)(fr:Nat)(t:TypeId):Option gz:=
 match oC P t with
 |some (kt,vt)=>some (.mp fr,[(fr, .map kt vt [])],[])
 |none=>none
def mH(P:Program)(o:Nat->ae)(fr:Nat)(t:TypeId)(x:V):Option gz:=
 match P.underlying t with
 |some .string=>match x with
  | .d (.str s)=>some (.ptr fr 0,[(fr, .sY s 0)],[])
  |_=>none
 |some (.map _ _)=>match x with
  | .d .dk=>some (.ptr fr 0,[(fr, .kW [] none)],[])
  | .d (.mp ks vs)=>some (.ptr fr 0,[(fr, .kW (ks.zip vs) none)],[])
  | .mp id=>match o id with
    | .map _ _ l=>some (.ptr fr 0,[(id, .fq l),(fr, .kW l none)],[id])
    | .fq l=>some (.ptr fr 0,[(fr, .kW l none)],[id])
    |_=>none
  |_=>none
 |_=>none
def nY(o:Nat->ae)(x:V)(str:Bool):Option gz:=
 match x with
 | .ptr id 0=>match o id with
   | .sY s pos=>if str=true then
    (if pos<s.length then some (.bS [.d (.bool true), .d (.int .i64 pos), .d (.int .i32 (Utf8.decode ⟨⟨s⟩⟩ pos).1)],[(id, .sY s (pos+(Utf8.decode ⟨⟨s⟩⟩ pos).2))],[id])else some (.bS [.d (.bool false)],[],[id]))
     else none
   |_=>none
 |_=>none
def nZ(o:Nat->ae)(x:V):Option (Nat×List (D×D)):=
 match x with
 | .ptr id 0=>match o id with
   | .kW l _=>some (id,l)
   |_=>none
 |_=>none
def Df(id:Nat)(l:List (D×D))(K:V->List (Nat×ae)->List Nat->Prop):Prop:=
 (l=[]->K (.bS [.d (.bool false)]) [] [id])/\∀i k x,l[i]? =some (k,x)->K (.bS [.d (.bool true), .d k, .d x]) [(id, .kW (l.eraseIdx i) (some (k,x)))] [id]
def mI(o:Nat->ae)(x:V):Option gz:=
 match x with
 | .ptr id 0=>match o id with
   | .kW _ (some (k,x))=>some (.bS [.d k, .d x],[],[id])
   |_=>none
 |_=>none
def nF(P:Program)(o:Nat->ae)(t:TypeId)(m k:V):Option gz:=
 match oC P t,dO o k,nX o m with
 |some (kt,_),some kd,some (some (id,BH,BI),l)=>if k.ids=[]/\nQ P 100 kt kd=true then match findD P kt kd l 0 with
  |some (some (i,_,_))=>some (.bS [],[(id, .map BH BI (l.eraseIdx i))],[id])
  |some none=>some (.bS [],[],[id])
  |none=>none
  else none
 |_,_,_=>none
def Gn(x y z:V):Option V:=
 match x,y,z with
 | .d (.int k a), .d (.int k' b), .d (.int Zz c)=>if k=k'/\k=Zz then some (.d (.int k (if c>(if b>a then b else a)then c else(if b>a then b else a))))else none
 |_,_,_=>none
def tc(P:Program)(s:S)(fr:Nat)(b:Builtin)(args:List Operand)(ts:Array TypeId)(K:V->List (Nat×ae)->List Nat->Prop):Prop:=
 match b,args with
 | .len,[x]=>∃t,ts.toList=[t]/\Gl P t s.o (s.ev x) fun v rd=>K v [] rd
 | .append,[x,y]=>pk P s.o fr ts (s.ev x) (s.ev y) K
 | .max,[x,y]=>nE true [s.ev x,s.ev y] fun v=>K v [] []
 | .min,[x,y]=>nE false [s.ev x,s.ev y] fun v=>K v [] []
 | .max,[x,y,z]=>dm ((Gn (s.ev x) (s.ev y) (s.ev z)).map fun v=>(v,[],[])) K
 | .copy,[x,y]=>dm (vI P s.o ts (s.ev x) (s.ev y)) K
 | .delete,[x,y]=>∃t,ts.toList.head?=some t/\dm (nF P s.o t (s.ev x) (s.ev y)) K
 |_,_=>False
def Ls(P:Program)(s:S)(fr:Nat)(op:Op)(K:V->List (Nat×ae)->List Nat->Prop):Prop:=
 match op with
 | .move x| .assign x=>K (s.ev x) [] []
 | .pick c a b=>y9 (s.ev c) (s.ev a) (s.ev b) fun v=>K v [] []
 | .alloc t=>∃cs,bp P t=some cs/\K (.ptr fr 0) [(fr, .row cs)] []
 | .box _ x=>∃cs,(s.ev x).cells=some cs/\K (.ptr fr 0) [(fr, .row cs)] []
 | .build t parts=>∃z pl cs,bp P t=some z/\dF P t=some pl/\rp pl z (parts.toList.map fun p=>(p.1,s.ev p.2))=some cs/\K (fC cs) [] []
 | .buildSlice t len parts=>iG P s.o fr t len (parts.toList.map fun p=>(p.1,s.ev p.2)) K
 | .load t x=>zc P s.o t (s.ev x) fun v rd=>K v [] rd
 | .store t x v=>s7 P s.o t (s.ev x) (s.ev v) fun Δ rd=>K (.bS []) Δ rd
 | .nilCheck x=>kZ s.o (s.ev x) fun v=>K v [] []
 | .binOp op t x y _=>Gk P op t (s.ev x) (s.ev y) (fun v=>K v [] [])\/dm (qx P s.o op t (isConst x||isConst y) (s.ev x) (s.ev y)) K
 | .unOp op _ x=>Q3 op (s.ev x) (fun v=>K v [] [])\/(op= .not/\s.ev x= .eZ/\K .eZ [] [])
 | .convert u t x=>(P.underlying u).isSome=true/\(match cM P t,s.ev x with
   |some k, .d (.int _ n)=>K (.d (.int k (k.wrap n))) [] []
   |_,_=>False)
 | .makeInterface t x=>(∃d,P.underlying t=some d/\(match d with| .interface _=>false|_=>true)=true)/\(match s.ev x with
   | .d y=>K (.d (.iface t y)) [] []
   |v=>K (.iface t v) [] [])
 | .makeFunc fn first cap=>K (.func fn (first.toList.map s.ev) (cap.toList.map s.ev)) [] []
 | .makeSlice t l c=>jy P fr t (s.ev l) (s.ev c) fun v Δ=>K v Δ []
 | .fieldAddr t x f=>jx P s.o t (s.ev x) f fun v=>K v [] []
 | .indexAddr t x i=>jw P s.o t (s.ev x) (s.ev i) fun v rd=>K v [] rd
 | .extract x i=>match s.ev x with
   | .bS vs=>∃v,vs[i]? =some v/\K v [] []
   |_=>False
 | .slice t x lo hi mx=>dm (qt P s.o t (s.ev x) (lo.map s.ev) (hi.map s.ev) (mx.map s.ev)) K
 | .field t x f=>dm ((s8 P t (s.ev x) f).map fun v=>(v,[],[])) K
 | .index t x i=>dm ((s9 P t (s.ev x) (s.ev i)).map fun v=>(v,[],[])) K
 | .makeMap t none=>dm (mG P fr t) K
 | .lookup t m k ok=>dm (iE P s.o t (s.ev m) (s.ev k) ok) K
 | .mapUpdate t m k v=>dm (fI P s.o t (s.ev m) (s.ev k) (s.ev v)) K
 | .insert t m k v=>dm (fI P s.o t (s.ev m) (s.ev k) (s.ev v)) K
 | .range t x=>dm (mH P s.o fr t (s.ev x)) K
 | .next x str=>dm (nY s.o (s.ev x) str) K\/(str=false/\∃id l,nZ s.o (s.ev x)=some (id,l)/\Df id l K)
 | .entry x=>dm (mI s.o (s.ev x)) K
 | .typeAssert x _ t ok=>dm ((pn P t ok (s.ev x)).map fun v=>(v,[],[])) K
 | .call c=>match c.callee with
   | .builtin b=>tc P s fr b c.args.toList c.argTypes K
   |_=>False
 |_=>False
end Go.Proofs.YtealblliddhgiaaGreat
namespace Go.Proofs.YtealblliddhgiaaGreat
section
variable {B:Nat->Prop}{φ:Place}{H:Hp}{w:World}
theorem V.aG:∀ (cs:List V) (vs:List Value),V.aE B φ H w cs vs->vs.length=cs.length
 |[],_,h=>by simp[V.aE]at h;simp[h]
 |c::cs,_,h=>by obtain⟨u,us,rfl,_,h2⟩:=h;simp[V.aG cs us h2]
theorem V.ef:∀ (cs:List V) (vs:List Value) (i:Nat) (c:V),V.aE B φ H w cs vs->cs[i]? =some c->∃v,vs[i]? =some v/\V.den B φ H w c v
 |[],_,_,_,_,hd=>by simp at hd
 |c::cs,_,0,x,h,hd=>by
  obtain⟨u,us,rfl,h1,_⟩:=h
  simp at hd;subst hd;exact⟨u,by simp,h1⟩
 |c::cs,_,i+1,x,h,hd=>by
  obtain⟨u,us,rfl,_,h2⟩:=h
  simpa using V.ef cs us i x h2 (by simpa using hd)
theorem V.bq:∀ (cs ds:List V) (us vs:List Value),V.aE B φ H w cs us->V.aE B φ H w ds vs->V.aE B φ H w (cs++ds) (us++vs)
 |[],ds,us,vs,h,k=>by simp[V.aE]at h;subst h;simpa using k
 |c::cs,ds,_,vs,h,k=>by
  obtain⟨u,us,rfl,h1,h2⟩:=h
  exact⟨u,us++vs,by simp,h1,V.bq cs ds us vs h2 k⟩
theorem V.dH:∀ (n:Nat) (cs:List V) (vs:List Value),V.aE B φ H w cs vs->V.aE B φ H w (cs.take n) (vs.take n)
 |0,_,_,_=>by simp[V.aE]
 |n+1,[],_,h=>by simp[V.aE]at h;subst h;simp[V.aE]
 |n+1,c::cs,_,h=>by
  obtain⟨u,us,rfl,h1,h2⟩:=h
  exact⟨u,us.take n,by simp,h1,V.dH n cs us h2⟩
theorem V.ew:∀ (n:Nat) (cs:List V) (vs:List Value),V.aE B φ H w cs vs->V.aE B φ H w (cs.drop n) (vs.drop n)
 |0,_,_,h=>by simpa using h
 |n+1,[],_,h=>by simp[V.aE]at h;subst h;simp[V.aE]
 |n+1,c::cs,_,h=>by
  obtain⟨u,us,rfl,h1,h2⟩:=h
  simpa using V.ew n cs us h2
theorem V.cm:∀ (ds:List D) (vs:List Value),V.aE B φ H w (ds.map .d) vs↔D.aE B w ds vs
 |[],vs=>by simp[V.aE,D.aE]
 |x::ds,vs=>by simp only[List.map_cons,V.aE,D.aE,V.den,V.cm ds]
theorem D.bq:∀ (cs ds:List D) (us vs:List Value),D.aE B w cs us->D.aE B w ds vs->D.aE B w (cs++ds) (us++vs)
 |[],ds,us,vs,h,k=>by simp[D.aE]at h;subst h;simpa using k
 |c::cs,ds,_,vs,h,k=>by
  obtain⟨u,us,rfl,h1,h2⟩:=h
  exact⟨u,us++vs,by simp,h1,D.bq cs ds us vs h2 k⟩
theorem D.dH:∀ (n:Nat) (cs:List D) (vs:List Value),D.aE B w cs vs->D.aE B w (cs.take n) (vs.take n)
 |0,_,_,_=>by simp[D.aE]
 |n+1,[],_,h=>by simp[D.aE]at h;subst h;simp[D.aE]
 |n+1,c::cs,_,h=>by
  obtain⟨u,us,rfl,h1,h2⟩:=h
  exact⟨u,us.take n,by simp,h1,D.dH n cs us h2⟩
theorem D.ew:∀ (n:Nat) (cs:List D) (vs:List Value),D.aE B w cs vs->D.aE B w (cs.drop n) (vs.drop n)
 |0,_,_,h=>by simpa using h
 |n+1,[],_,h=>by simp[D.aE]at h;subst h;simp[D.aE]
 |n+1,c::cs,_,h=>by
  obtain⟨u,us,rfl,h1,h2⟩:=h
  simpa using D.ew n cs us h2
theorem D.zf:∀ (i:Nat) (ds:List D) (vs:List Value) (x:D) (v:Value),D.aE B w ds vs->D.den B w x v->D.aE B w (ds.set i x) (vs.set i v)
 |_,[],_,_,_,h,_=>by simp[D.aE]at h;subst h;simp[D.aE]
 |0,c::cs,_,x,v,h,k=>by
  obtain⟨u,us,rfl,h1,h2⟩:=h
  exact⟨v,us,by simp,k,h2⟩
 |i+1,c::cs,_,x,v,h,k=>by
  obtain⟨u,us,rfl,h1,h2⟩:=h
  exact⟨u,us.set i v,by simp,h1,D.zf i cs us x v h2 k⟩
theorem vK:∀ (cs:List V) (ds:List D),BP cs=some ds->cs=ds.map .d
 |[],ds,h=>by simp[BP]at h;subst h;rfl
 | .d x::cs,ds,h=>by
   simp only[BP,Option.map_eq_some_iff]at h
   obtain⟨a,h1,rfl⟩:=h
   simp[vK cs a h1]
 | .bn::_,_,h| .agg _::_,_,h| .bS _::_,_,h| .ptr _ _::_,_,h| .osl _ _::_,_,h| .pe _ _ _ _ _::_,_,h| .pp _ _::_,_,h
 | .func _ _ _::_,_,h| .iface _ _::_,_,h| .ab::_,_,h| .ox _::_,_,h| .sX _ _ _::_,_,h| .mp _::_,_,h| .eZ::_,_,h=>by simp[BP]at h
theorem la(cs:List V)(a:Array Value)(h:V.aE B φ H w cs a.toList)(hf:Flat a.toList):V.den B φ H w (fC cs) (.agg a):=by
 unfold fC
 split
 ·rename_i ds hd
  have:=vK cs ds hd
  subst this
  exact⟨a,rfl,(V.cm ds _).1 h,hf⟩
 ·exact⟨a,rfl,h,hf⟩
theorem D.nG:∀ (x:D) (v:Value),D.den B w x v->(∃cs a,x= .agg cs/\v= .agg a)\/v.oneCell'=true/\x.cells=[x]/\v.cells=#[v]
 | .int _ _,_,h| .bool _,_,h| .eC,_,h| .gY,_,h| .a7,_,h| .dk,_,h=>by
   simp only[D.den]at h;subst h;exact .inr ⟨rfl,rfl,rfl⟩
 | .str l,_,h=>by obtain⟨s,rfl,_⟩:=h;exact .inr ⟨rfl,rfl,rfl⟩
 | .agg cs,_,h=>by obtain⟨a,rfl,_,_⟩:=h;exact .inl ⟨cs,a,rfl,rfl⟩
 | .sl es,_,h=>by obtain⟨b,l,c,rfl,_⟩:=h;exact .inr ⟨rfl,rfl,rfl⟩
 | .iface t x,_,h=>by obtain⟨u,rfl,_⟩:=h;exact .inr ⟨rfl,rfl,rfl⟩
 | .mp ks vs,_,h=>by obtain⟨m,es,c,p,rfl,_⟩:=h;exact .inr ⟨rfl,rfl,rfl⟩
theorem D.e8 (x:D)(v:Value)(h:D.den B w x v):D.aE B w x.cells v.cells.toList/\Flat v.cells.toList:=by
 rcases D.nG x v h with⟨cs,a,rfl,rfl⟩|⟨h1,h2,h3⟩
 ·obtain⟨a',h1,h2,h3⟩:=h
  injection h1 with h1;subst h1
  exact⟨h2,h3⟩
 ·rw[h2,h3]
  exact⟨⟨v,[],rfl,h,rfl⟩,by intro u hu;simp at hu;subst hu;exact h1⟩
theorem V.nG (x:V)(v:Value)(us:List V)(hx:x.cells=some us)(h:V.den B φ H w x v):V.aE B φ H w us v.cells.toList/\Flat v.cells.toList:=by
 have one:∀ (y:V),v.oneCell'=true->V.den B φ H w y v->V.aE B φ H w [y] v.cells.toList/\Flat v.cells.toList:=by
  intro y h1 h2
  have h3:v.cells=#[v]:=by cases v<;>simp_all[Value.oneCell',Value.cells]
  rw[h3]
  exact⟨⟨v,[],rfl,h2,rfl⟩,by intro u hu;simp at hu;subst hu;exact h1⟩
 cases x with
 |d x=>
  simp only[V.cells,Option.some.injEq]at hx;subst hx
  have:=D.e8 x v h
  exact⟨(V.cm _ _).2 this.1,this.2⟩
 |bn=>simp only[V.cells,Option.some.injEq]at hx;subst hx;exact one _ (by cases h;rfl) h
 |agg cs=>
  simp only[V.cells,Option.some.injEq]at hx;subst hx
  obtain⟨a,rfl,h1,h2⟩:=h
  exact⟨h1,h2⟩
 |bS vs=>simp[V.cells]at hx
 |ab=>simp[V.cells]at hx
 |ptr id off=>simp only[V.cells,Option.some.injEq]at hx;subst hx;exact one _ h.1 h
 |osl id ep=>simp only[V.cells,Option.some.injEq]at hx;subst hx;exact one _ h.1 h
 |pe id ep i sz off=>simp only[V.cells,Option.some.injEq]at hx;subst hx;exact one _ h.1 h
 |pp cs off=>simp only[V.cells,Option.some.injEq]at hx;subst hx;exact one _ (by obtain⟨a,ev,_,rfl,_⟩:=h;rfl) h
 |func fn f c=>simp only[V.cells,Option.some.injEq]at hx;subst hx;exact one _ (by obtain⟨a,ev,rfl,_⟩:=h;rfl) h
 |iface t y=>simp only[V.cells,Option.some.injEq]at hx;subst hx;exact one _ (by obtain⟨a,rfl,_⟩:=h;rfl) h
 |ox es=>simp only[V.cells,Option.some.injEq]at hx;subst hx;exact one _ (by obtain⟨_,b,n,rfl⟩:=h;rfl) h
 |sX id off n=>simp only[V.cells,Option.some.injEq]at hx;subst hx;exact one _ h.1 h
 |mp id=>simp only[V.cells,Option.some.injEq]at hx;subst hx;exact one _ h.1 h
 |kV id=>simp only[V.cells,Option.some.injEq]at hx;subst hx;exact one _ h.1 h
 |eZ=>simp only[V.cells,Option.some.injEq]at hx;subst hx;exact one _ (by obtain⟨a,rfl⟩:=h;rfl) h
theorem lR(v:Value)(h:v.oneCell'=true):V.den B φ H w (V.dp v) v:=by
 cases v<;>simp_all only[Value.oneCell',V.dp,V.den,D.den]<;>try trivial
 all_goals (try (split<;>simp_all[V.den,D.den]))
 all_goals (try first|(simp_all[D.den];done)|simp_all)
theorem dI:∀ (vs:List Value),Flat vs->V.aE B φ H w (vs.map V.dp) vs
 |[],_=>rfl
 |v::vs,h=>⟨v,vs,rfl,lR v (h v (by simp)),dI vs fun u hu=>h u (by simp[hu])⟩
end
end Go.Proofs.YtealblliddhgiaaGreat
namespace Go.Proofs.YtealblliddhgiaaGreat
theorem nH(H:Hp):H.put []=H:=by
 obtain⟨o,us⟩:=H
 simp[Hp.put,put]
theorem dU(H:Hp)(A C:List (Nat×ae)):H.put (A++C)=(H.put A).put C:=by
 obtain⟨o,us⟩:=H
 simp only[Hp.put,put,List.foldl_append,Hp.mk.injEq,true_and]
 funext id
 simp only[List.map_append,List.mem_append,eq_iff_iff]
 exact⟨fun h=>by rcases h with h|h|h<;>simp[h],fun h=>by rcases h with(h|h)|h<;>simp[h]⟩
@[simp] theorem bF (H:Hp) (i:Nat) (x:ae):(H.put [(i,x)]).o=ak H.o i x:=rfl
@[simp] theorem dV (H:Hp) (i j:Nat) (x:ae):(H.put [(i,x)]).us j↔(H.us j\/j=i):=by simp[Hp.put]
section
variable {M:Nat->Prop}{φ aC:Place}{H H':Hp}{w w':World}
theorem aK.zg (xk:∀b,cy w b-> ¬ao M φ H b->w'.heap[b]? =w.heap[b]? /\ ¬ao M aC H' b)(ZA:dT φ H aC H'){id:Nat}(ho:H'.o id=H.o id)(dq:aC id=φ id)
 (hb:(H.o id).live=true->∀b,dN (φ id)=some b->w'.heap[b]? =w.heap[b]?) (h:aK M φ H w id):aK M aC H' w' id:=by
 unfold aK at*
 rw[ho]
 cases hx:H.o id with
 |no=>trivial
 |row cs=>
  simp only[hx]at h|-
  obtain⟨b,cR,ty,h1,h2,h3,h4⟩:=h
  exact⟨b,cR,ty,dq.trans h1,(hb (by rw[hx];rfl) b (by rw[h1];rfl)).trans h2,V.fP xk ZA cs _ h3,h4⟩
 |arr ep ty sz es=>
  simp only[hx]at h|-
  obtain⟨h0,xs,h1,evs,h2,h3,h4⟩:=h
  refine⟨h0,xs, ?_,evs,h2,h3,D.aI xk es evs h4⟩
  rw[dq]
  obtain⟨g1,g2⟩:=h1
  refine⟨g1, ?_⟩
  rcases g2 with g2|⟨g,cap,cur,k1,k2,k3,k4⟩
  ·exact .inl g2
  ·exact .inr ⟨g,cap,cur,k1,k2,(hb (by rw[hx];rfl) g (by rw[k1];rfl)).trans k3,k4⟩
 |ph ep es=>
  simp only[hx]at h|-
  rw[dq]
  exact D.aF xk (.sl es) _ h
 |map kt vt l=>
  simp only[hx]at h|-
  obtain⟨b,es,clock,h1,h2,h4,h3⟩:=h
  exact⟨b,es,clock,dq.trans h1,(hb (by rw[hx];rfl) b (by rw[h1];rfl)).trans h2,h4,aH.mono xk l _ h3⟩
 |fq l=>
  simp only[hx]at h|-
  rw[dq]
  exact D.aF xk (.mp _ _) _ h
 |kW l last=>
  simp only[hx]at h|-
  obtain⟨b,h1,h2⟩:=h
  exact⟨b,dq.trans h1,h2.mono xk (hb (by rw[hx];rfl) b (by rw[h1];rfl))⟩
 |sY s pos=>
  simp only[hx]at h|-
  obtain⟨b,h1,h2⟩:=h
  exact⟨b,dq.trans h1,(hb (by rw[hx];rfl) b (by rw[h1];rfl)).trans h2⟩
 |loop nf n env ps kX fO st EE=>
  simp only[hx]at h|-
  obtain⟨b,r,h1,h2,h0,h3,h4,h5,h6,h7,h8,h9⟩:=h
  exact⟨b,r,dq.trans h1,(hb (by rw[hx];rfl) b (by rw[h1];rfl)).trans h2,h0,h3,h4,h5,h6,h7,h8,fun i=>V.kY xk ZA _ _ (h9 i)⟩
theorem aK.mono (ht:Trans φ H w aC H' w'){id:Nat}(ho:H'.o id=H.o id)(dq:aC id=φ id)
 (hb:(H.o id).live=true->∀b,dN (φ id)=some b->w'.heap[b]? =w.heap[b]?) (h:aK M φ H w id):aK M aC H' w' id:=aK.zg ht.blocks ht.rel ho dq hb h
theorem az.of (hH:az M φ H w)(ht:Trans φ H w aC H' w')(T:Nat->Prop)(hT:∀id,T id->aK M aC H' w' id)
 (hn:∀id, ¬T id->H'.o id=H.o id/\aC id=φ id/\((H.o id).live=true->∀b,dN (φ id)=some b->w'.heap[b]? =w.heap[b]?))
 (jA:∀id, ¬H'.us id->H'.o id= .no)
 (hap:∀i j b,(H'.o i).live=true->(H'.o j).live=true->dN (aC i)=some b->dN (aC j)=some b->i=j)
 (Q4:∀b,bT aC H' b->b<w'.heap.size):az M aC H' w' where
 ok id:=by
  by_cases hc:T id
  ·exact hT id hc
  ·obtain⟨h1,h2,h3⟩:=hn id hc
   exact(hH.ok id).mono ht h1 h2 h3
 fresh:=jA
 apart:=hap
 ours b hb:=by
  refine⟨fun hM=> ?_,Q4 b hb⟩
  rcases ht.grow b hb with h1|h1
  ·exact(hH.ours b h1).1 hM
  ·have:=hH.u5 b hM;omega
 u5 b hM:=Nat.lt_of_lt_of_le (hH.u5 b hM) ht.bY.size
theorem fe(hk:eM (fun _=>False) w w'){fr:Nat}(cS: ¬H.us fr)(obj:ae)(val:Value)(dx:∀b,dN val=some b->w.heap.size<=b):
 Trans φ H w (ak φ fr val) (H.put [(fr,obj)]) w' where
 bY:=⟨hk.os,hk.tape,hk.output,hk.size,fun k h _=>hk.block k h (fun h=>h)⟩
 grow b:=by
  rintro⟨id,h1,h2⟩
  by_cases ax:id=fr
  ·subst ax;simp at h2;exact .inr (dx b h2)
  ·simp[ax]at h1 h2;exact .inl ⟨id,h1,h2⟩
 rel:={
  us:=fun id h=>by simp[h]
  row:=fun id hu hr=>by
   have ax:id≠fr:=fun h=>cS (h ▸ hu)
   simp[ax]at hr|-;exact hr
  ep:=fun id e' hu he=>by
   have ax:id≠fr:=fun h=>cS (h ▸ hu)
   simp[ax]at he|-;exact⟨e',he,Nat.le_refl _⟩}
theorem jB(hH:az M φ H w)(hk:eM (fun _=>False) w w'){fr:Nat}(cS: ¬H.us fr)(obj:ae)(val:Value)(dx:∀b,dN val=some b->w.heap.size<=b/\b<w'.heap.size)
 (qy:aK M (ak φ fr val) (H.put [(fr,obj)]) w' fr):az M (ak φ fr val) (H.put [(fr,obj)]) w':=by
 have ht:Trans φ H w (ak φ fr val) (H.put [(fr,obj)]) w':=fe hk cS obj val fun b hb=>(dx b hb).1
 refine hH.of ht (· =fr) (fun id h=>h ▸ qy) (fun id h=> ?_) (fun id h=> ?_) (fun i j b hi hj bi bj=> ?_) (fun b=> ?_)
 ·refine⟨by simp[h],by simp[h],fun hl b hb=>hk.block b ?_ (fun h=>h)⟩
  exact(hH.ours b ⟨id,hl,hb⟩).2
 ·rw[dV]at h
  have h1:id≠fr:=fun e=>h (.inr e)
  simp only[bF,aJ,h1,if_false]
  exact hH.fresh id fun hu=>h (.inl hu)
 ·by_cases e1:i=fr<;>by_cases e2:j=fr
  ·exact e1.trans e2.symm
  ·simp[e1,e2]at hi hj bi bj
   have:=(hH.ours b ⟨j,hj,bj⟩).2;have:=(dx b bi).1;omega
  ·simp[e1,e2]at hi hj bi bj
   have:=(hH.ours b ⟨i,hi,bi⟩).2;have:=(dx b bj).1;omega
  ·simp[e1,e2]at hi hj bi bj
   exact hH.apart i j b hi hj bi bj
 ·rintro⟨id,h1,h2⟩
  by_cases ax:id=fr
  ·subst ax;simp at h2;exact(dx b h2).2
  ·simp[ax]at h1 h2
   exact Nat.lt_of_lt_of_le (hH.ours b ⟨id,h1,h2⟩).2 hk.size
theorem cZ(w:World)(o:Obj):eM (fun _=>False) w (w.alloc o):=
 ⟨rfl,rfl,rfl,by simp,fun k hk _=>RowKit.Below.heap_alloc w o k hk⟩
theorem lS{w w':World}(h:w.grownBy w' none):eM (fun _=>False) w w':=
 ⟨h.os,h.tape,h.output,h.size,fun k hk _=>h.block k hk (by simp)⟩
theorem Jl(hH:az M φ H w){fr:Nat}(cS: ¬H.us fr)(cs:List V)(cR:Array Value)(ty:TypeId)(hd:V.aE (ao M φ H) φ H w cs cR.toList)(hf:Flat cR.toList):
 let aC:=ak φ fr (.pointer (some ⟨w.heap.size,0,none⟩));let H':=H.put [(fr, .row cs)];let w':=w.alloc (.cells cR ty)
 az M aC H' w'/\Trans φ H w aC H' w'/\V.den (ao M aC H') aC H' w' (.ptr fr 0) (.pointer (some ⟨w.heap.size,0,none⟩)):=by
 intro aC H' w'
 have hv:∀b,dN (.pointer (some ⟨w.heap.size,0,none⟩))=some b->w.heap.size<=b/\b<w'.heap.size:=by
  intro b hb;simp[dN]at hb;subst hb;simp[w']
 have ht:Trans φ H w aC H' w':=fe (cZ w _) cS _ _ fun b hb=>(hv b hb).1
 refine⟨jB hH (cZ w _) cS _ _ hv ?_,ht,rfl,by simp[H'],fun _=>⟨w.heap.size,by simp[aC],rfl⟩⟩
 unfold aK
 simp only[bF,aJ,if_true]
 exact⟨w.heap.size,cR,ty,rfl,heap_alloc_new w _,V.aI ht cs _ hd,hf⟩
theorem eS{id:Nat}(dA:H.us id){b:Nat}(bP:(H.o id).live=true)(hb:dN (φ id)=some b)(hk:eM (· =b) w w')(obj:ae)(br:obj.bM=(H.o id).bM)(te:obj.ba=(H.o id).ba):
 Trans φ H w φ (H.put [(id,obj)]) w' where
 bY:=⟨hk.os,hk.tape,hk.output,hk.size,fun k h hl=>hk.block k h (fun e=>hl ⟨id,bP,e ▸ hb⟩)⟩
 grow b':=by
  rintro⟨j,h1,h2⟩
  by_cases hj:j=id
  ·subst hj;exact .inl ⟨j,bP,h2⟩
  ·simp[hj]at h1;exact .inl ⟨j,h1,h2⟩
 rel:={
  us:=fun j h=>by simp[h]
  row:=fun j hu hr=>by
   by_cases hj:j=id
   ·subst hj;simp at hr;exact⟨br ▸ hr,rfl⟩
   ·simp[hj]at hr;exact⟨hr,rfl⟩
  ep:=fun j e' hu he=>by
   by_cases hj:j=id
   ·subst hj;simp at he;exact⟨e',te ▸ he,Nat.le_refl _,fun _=>rfl⟩
   ·simp[hj]at he;exact⟨e',he,Nat.le_refl _,fun _=>rfl⟩}
theorem gZ(hH:az M φ H w){id:Nat}(dA:H.us id){b:Nat}(bP:(H.o id).live=true)(hb:dN (φ id)=some b)(hk:eM (· =b) w w')(obj:ae)(br:obj.bM=(H.o id).bM)
 (te:obj.ba=(H.o id).ba) (qy:aK M φ (H.put [(id,obj)]) w' id):az M φ (H.put [(id,obj)]) w':=by
 refine hH.of (eS dA bP hb hk obj br te) (· =id) (fun j h=>h ▸ qy) (fun j h=> ?_) (fun j h=> ?_) (fun i j b' hi hj bi bj=> ?_) (fun b'=> ?_)
 ·refine⟨by simp[h],rfl,fun hl b' Gp=>hk.block b' (hH.ours b' ⟨j,hl,Gp⟩).2 fun e=>h ?_⟩
  exact hH.apart j id b hl bP (e ▸ Gp) hb
 ·rw[dV]at h
  have h1:j≠id:=fun e=>h (.inr e)
  simp only[bF,aJ,h1,if_false]
  exact hH.fresh j fun hu=>h (.inl hu)
 ·refine hH.apart i j b' ?_ ?_ bi bj
  ·by_cases e:i=id
   ·subst e;exact bP
   ·simpa[e]using hi
  ·by_cases e:j=id
   ·subst e;exact bP
   ·simpa[e]using hj
 ·rintro⟨j,h1,h2⟩
  refine Nat.lt_of_lt_of_le (hH.ours b' ⟨j, ?_,h2⟩).2 hk.size
  by_cases e:j=id
  ·subst e;exact bP
  ·simpa[e]using h1
theorem j7(w:World)(b:Nat)(cs:Array Value):eM (· =b) w (w.setRow b cs):=
 ⟨rfl,rfl,rfl,by simp,fun k _ hk=>by
  unfold World.setRow
  simp only[Array.getElem?_modify]
  rw[if_neg (fun e=>hk e.symm)]⟩
theorem zh(hH:az M φ H w){id b:Nat}(dA:H.us id){cs cs':List V}(ho:H.o id= .row cs)(dq:φ id= .pointer (some ⟨b,0,none⟩)){cR:Array Value}{ty:TypeId}
 (hb:w.heap[b]? =some (.cells cR ty (0,0))) (pt:Array Value) (hd:V.aE (ao M φ H) φ H w cs' pt.toList) (hf:Flat pt.toList):
 az M φ (H.put [(id, .row cs')]) (w.setRow b pt)/\Trans φ H w φ (H.put [(id, .row cs')]) (w.setRow b pt):=by
 have hl:(H.o id).live=true:=by rw[ho];rfl
 have xk:dN (φ id)=some b:=by rw[dq];rfl
 have ht:Trans φ H w φ (H.put [(id, .row cs')]) (w.setRow b pt):=eS dA hl xk (j7 w b pt) _ (by rw[ho];rfl) (by rw[ho];rfl)
 refine⟨gZ hH dA hl xk (j7 w b pt) _ (by rw[ho];rfl) (by rw[ho];rfl) ?_,ht⟩
 unfold aK
 simp only[bF,aJ,if_true]
 exact⟨b,pt,ty,dq,setRow_heap w b cR pt ty (0,0) hb,V.aI ht cs' _ hd,hf⟩
theorem pv{B:Nat->Prop}{sz g:Nat}(cur:Array Value)(ty:TypeId)(fz:Nat×Nat)(hg:w.heap[g]? =some (.cells cur ty fz))(hB: ¬B g):
 ∀ (es:List D) (evs:List Value) (i:Nat),D.aE B w es evs->(∀ev∈evs,ev.cells.size=sz)->(∀j u,(evs.flatMap (·.cells.toList))[j]? =some u->cur[i*sz+j]? =some u)->D.elems B w sz ⟨g,0,none⟩ i es
 |[],_,_,_,_,_=>trivial
 |e::es,_,i,h,hs,hc=>by
  obtain⟨ev,evs,rfl,h1,h2⟩:=h
  have eg:ev.cells.size=sz:=hs ev (by simp)
  refine⟨⟨ev,eg,fun j u hj=> ?_,h1⟩,pv cur ty fz hg hB es evs (i+1) h2 (fun x hx=>hs x (by simp[hx])) fun j u hj=> ?_⟩
  ·have bC:j<ev.cells.size:=(Array.getElem?_eq_some_iff.1 hj).1
   have:cur[i*sz+j]? =some u:=hc j u (by
    rw[List.flatMap_cons,List.getElem?_append_left (by simpa using bC)];simpa using hj)
   refine⟨?_,by simpa using hB⟩
   unfold Addr.add World.cell?
   by_cases e1:i*sz=0<;>by_cases e2:j=0<;>simp_all
  ·have:=hc (sz+j) u (by
    rw[List.flatMap_cons,List.getElem?_append_right (by simp[eg])]
    simpa[eg]using hj)
   rw[show(i+1)*sz+j=i*sz+(sz+j) by rw[Nat.add_mul];omega]
   exact this
theorem Jm(hH:az M φ H w){id ep sz:Nat}{ty:TypeId}{es:List D}(dA:H.us id)(ho:H.o id= .arr ep ty sz es):
 az M φ (H.put [(id, .ph ep es)]) w/\Trans φ H w φ (H.put [(id, .ph ep es)]) w:=by
 have vj:∀b,bT φ (H.put [(id, .ph ep es)]) b->bT φ H b:=by
  rintro b ⟨j,h1,h2⟩
  by_cases hj:j=id
  ·subst hj;simp[ae.live]at h1
  ·simp[hj]at h1;exact⟨j,h1,h2⟩
 have ht:Trans φ H w φ (H.put [(id, .ph ep es)]) w:={
  bY:=eM.refl _ _
  grow:=fun b hb=> .inl (vj b hb)
  rel:={
   us:=fun j h=>by simp[h]
   row:=fun j hu hr=>by
    by_cases hj:j=id
    ·subst hj;simp[ae.bM]at hr
    ·simp[hj]at hr;exact⟨hr,rfl⟩
   ep:=fun j e' hu he=>by
    by_cases hj:j=id
    ·subst hj;simp[ae.ba]at he;subst he;exact⟨ep,by rw[ho];rfl,Nat.le_refl _,fun _=>rfl⟩
    ·simp[hj]at he;exact⟨e',he,Nat.le_refl _,fun _=>rfl⟩}}
 refine⟨hH.of ht (· =id) (fun j h=> ?_) (fun j h=>⟨by simp[h],rfl,fun _ _ _=>rfl⟩) (fun j h=> ?_) (fun i j b hi hj bi bj=> ?_) (fun b hb=>(hH.ours b (vj b hb)).2),ht⟩
 ·subst h
  have bA:=hH.ok j
  unfold aK at bA|-
  simp only[ho,bF,aJ,if_true]at bA|-
  obtain⟨h0,xs,⟨hl,br⟩,evs,rfl,h2,h3⟩:=bA
  have hlen:=D.aG _ _ h3
  rcases br with⟨h4,h5⟩|⟨g,cap,cur,h4,_,h5,h6,h7,h8,h9⟩
  ·rw[h4]
   have:es=[]:=by simpa using h5
   subst this
   exact⟨none,0,0,rfl,rfl,Nat.le_refl _,fun _=>rfl,0,fun a ha=>by cases ha⟩
  ·rw[h4]
   refine⟨some ⟨g,0,none⟩,es.length,cap,rfl,rfl,h6,(fun h=>by cases h),sz,fun a ha=> ?_⟩
   injection ha with ha;subst ha
   refine⟨fun _=>rfl,pv cur ty (0,0) h5 ?_ es evs 0 (D.aI (ht.blocks (M:=M)) es evs h3) h2 fun j' u F9=> ?_⟩
   ·rintro(hM|⟨i,Jn,Gq⟩)
    ·exact(hH.ours g ⟨j,by rw[ho];rfl,by rw[h4];rfl⟩).1 hM
    ·by_cases e:i=j
     ·subst e;simp[ae.live]at Jn
     ·simp[e]at Jn
      exact e (hH.apart i j g Jn (by rw[ho];rfl) Gq (by rw[h4];rfl))
   ·rw[<- h9]at F9
    simp only[Nat.zero_mul,Nat.zero_add]
    rw[List.getElem?_take]at F9
    split at F9
    ·simpa using F9
    ·cases F9
 ·rw[dV]at h
  have h1:j≠id:=fun e=>h (.inr e)
  simp only[bF,aJ,h1,if_false]
  exact hH.fresh j fun hu=>h (.inl hu)
 ·by_cases e1:i=id
  ·subst e1;simp[ae.live]at hi
  ·by_cases e2:j=id
   ·subst e2;simp[ae.live]at hj
   ·simp[e1,e2]at hi hj;exact hH.apart i j b hi hj bi bj
theorem Dg(hH:az M φ H w){id:Nat}{kt vt:TypeId}{l:List (D×D)}(dA:H.us id)(ho:H.o id= .map kt vt l):
 az M φ (H.put [(id, .fq l)]) w/\Trans φ H w φ (H.put [(id, .fq l)]) w:=by
 have vj:∀b,bT φ (H.put [(id, .fq l)]) b->bT φ H b:=by
  rintro b ⟨j,h1,h2⟩
  by_cases hj:j=id
  ·subst hj;simp[ae.live]at h1
  ·simp[hj]at h1;exact⟨j,h1,h2⟩
 have ht:Trans φ H w φ (H.put [(id, .fq l)]) w:={
  bY:=eM.refl _ _
  grow:=fun b hb=> .inl (vj b hb)
  rel:={
   us:=fun j h=>by simp[h]
   row:=fun j hu hr=>by
    by_cases hj:j=id
    ·subst hj;exact⟨by rw[ho];rfl,rfl⟩
    ·simp[hj]at hr;exact⟨hr,rfl⟩
   ep:=fun j e' hu he=>by
    by_cases hj:j=id
    ·subst hj;simp[ae.ba]at he
    ·simp[hj]at he;exact⟨e',he,Nat.le_refl _,fun _=>rfl⟩}}
 refine⟨hH.of ht (· =id) (fun j h=> ?_) (fun j h=>⟨by simp[h],rfl,fun _ _ _=>rfl⟩) (fun j h=> ?_) (fun i j b hi hj bi bj=> ?_) (fun b hb=>(hH.ours b (vj b hb)).2),ht⟩
 ·subst h
  have bA:=hH.ok j
  unfold aK at bA|-
  simp only[ho,bF,aJ,if_true]at bA|-
  obtain⟨b,es,clock,h1,h2,h3,h4⟩:=bA
  obtain⟨h5,h6⟩:=(jn _ _).1 h4
  refine⟨b,es,clock,es.toList,h1,h2, ?_,h3, .inl rfl,D.aI (ht.blocks (M:=M)) _ _ h5,D.aI (ht.blocks (M:=M)) _ _ h6⟩
  rintro(hM|⟨i,Jn,Gq⟩)
  ·exact(hH.ours b ⟨j,by rw[ho];rfl,by rw[h1];rfl⟩).1 hM
  ·by_cases e:i=j
   ·subst e;simp[ae.live]at Jn
   ·simp[e]at Jn
    exact e (hH.apart i j b Jn (by rw[ho];rfl) Gq (by rw[h1];rfl))
 ·rw[dV]at h
  have h1:j≠id:=fun e=>h (.inr e)
  simp only[bF,aJ,h1,if_false]
  exact hH.fresh j fun hu=>h (.inl hu)
 ·by_cases e1:i=id
  ·subst e1;simp[ae.live]at hi
  ·by_cases e2:j=id
   ·subst e2;simp[ae.live]at hj
   ·simp[e1,e2]at hi hj;exact hH.apart i j b hi hj bi bj
end
end Go.Proofs.YtealblliddhgiaaGreat
