/-
  A PART OF THE PROOF. Conditions: none.
-/
import Derived.WalkKit
import Derived.Below
set_option linter.unusedSimpArgs false
set_option linter.unusedVariables false
namespace Go.Proofs.YtbmnikpknlkbkaaGreat
def jS(ops:Array Oper)(j:Nat):Option Tmp:=(ops[j]?).bind (·.dst)
structure aT where
 dst:Option Nat
 op:Op
 gd:Option (Nat×Bool):=none
instance:Inhabited aT:=⟨⟨none, .ready 0,none⟩⟩
def p5(n:Nat):Option Tmp->Bool
 |some d=>decide (d<n)
 |none=>true
def s6(n:Nat)(ops:Array Oper)(o:Oper):Option aT:=
 if p5 n o.dst=true then match o.guard with
  |none=>some ⟨o.dst,o.op,none⟩
  |some (j,want)=>match jS ops j with
   |some d=>some ⟨o.dst,o.op,some (d,want)⟩
   |none=>none
 else none
def eW(n:Nat)(ops:Array Oper):List Oper->Option (List aT)
 |[]=>some []
 |o::l=>match s6 n ops o,eW n ops l with
  |some x,some xs=>some (x::xs)
  |_,_=>none
def tmpsOf(o:aT):List Nat:=(o.op.operands.toList.filterMap fun| .tmp t=>some t|_=>none)++(match o.gd with|some (d,_)=>[d]|none=>[])
def cD(o:aT):List Nat:=tmpsOf o++o.dst.toList
def aC(ops:Array Oper)(i:Nat):List Nat:=match ops[i]? with|some o=>(o.after.toList.filter (Region.binds .any)).map (·.on)|none=>[]
def aK(l:List aT)(i:Nat):aT:=l.getD i default
inductive IC where
 |skip|ab (l:List aT)|ct (l:List aT) (pr:List (List Nat))|seq (a b:IC)|cond (c:Operand) (a b:IC)|block (id:Nat) (a:IC)|loop (a:IC)|exit (id:Nat)|ret|bad
 |sV (g:Operand) (ps:List Nat) (a b:IC)
 deriving Inhabited
inductive kn where
 |ret|exit (id:Nat)
def kn.code:kn->Code
 | .ret=> .ret
 | .exit id=> .exit id
def fk(acc:List Nat):List Nat->Nat
 |[]=>0
 |j::ps=>(2^j|||acc.getD j 0)|||fk acc ps
def ck:List (List Nat)->List Nat->List Nat
 |[],acc=>acc
 |ps::l,acc=>ck l (acc++[fk acc ps])
def jx(x y:aT):Bool:=match x.dst with|some d=> !(cD y).contains d|none=>true
def ns(l:List aT)(pr:List (List Nat)):Bool:=
 (List.range l.length).all fun j=>(List.range j).all fun i=>((ck pr []).getD j 0).testBit i||(jx (aK l i) (aK l j)&&jx (aK l j) (aK l i))
def gQ(xs ys:List Nat):Bool:=xs.all fun x=> !ys.contains x
def fS(pr:List (List Nat))(fp:List (List Nat×List Nat)):Bool:=
 (List.range fp.length).all fun j=>(List.range j).all fun i=>((ck pr []).getD j 0).testBit i||
  (gQ (fp.getD i ([],[])).2 (fp.getD j ([],[])).1&&gQ (fp.getD i ([],[])).2 (fp.getD j ([],[])).2&&gQ (fp.getD j ([],[])).2 (fp.getD i ([],[])).1)
def dh(ops:Array Oper):List (List Nat):=(List.range ops.size).map (aC ops)
def yb(pr:List (List Nat)):Bool:=(List.range pr.length).all fun k=>(pr.getD k []).all fun j=>decide (j<k)
theorem kW{acc:List Nat}{i:Nat}:∀ (ps:List Nat),(fk acc ps).testBit i=true->∃j∈ps,i=j\/(acc.getD j 0).testBit i=true
 |[],h=>by simp[fk]at h
 |j::ps,h=>by
  simp only[fk,Nat.testBit_or,Bool.or_eq_true]at h
  rcases h with(h|h)|h
  ·rw[Nat.testBit_two_pow]at h
   exact⟨j,by simp, .inl (by have h:=of_decide_eq_true h;exact h.symm)⟩
  ·exact⟨j,by simp, .inr h⟩
  ·obtain⟨j',h1,h2⟩:=kW ps h
   exact⟨j',by simp[h1],h2⟩
theorem jy{k:Nat}:∀ (l:List (List Nat)) (acc:List Nat),k<acc.length->(ck l acc).getD k 0=acc.getD k 0
 |[],_,_=>rfl
 |ps::l,acc,h=>by
  rw[ck,jy l _ (by simp;omega)]
  simp[List.getD_eq_getElem?_getD,List.getElem?_append_left h]
theorem jz{i:Nat}:∀ (l:List (List Nat)) (acc:List Nat) (k:Nat),acc.length<=k->(∀k',k'<l.length->∀j∈l.getD k' [],j<acc.length+k')->((ck l acc).getD k 0).testBit i=true->
 ∃j∈l.getD (k - acc.length) [],i=j\/((ck l acc).getD j 0).testBit i=true
 |[],acc,k,hk,_,h=>by
  simp only[ck]at h
  rw[List.getD_eq_getElem?_getD,List.getElem?_eq_none hk]at h
  simp at h
 |ps::l,acc,k,hk,hp,h=>by
  simp only[ck]at h|-
  by_cases he:k=acc.length
  ·subst he
   rw[jy l _ (by simp)]at h
   have e:(acc++[fk acc ps]).getD acc.length 0=fk acc ps:=by simp[List.getD_eq_getElem?_getD]
   rw[e]at h
   obtain⟨j,h1,h2⟩:=kW ps h
   refine⟨j,by simpa using h1,h2.imp id fun h2=> ?_⟩
   have hj:j<acc.length:=by simpa using hp 0 (by simp) j (by simpa using h1)
   rw[jy l _ (by simp;omega)]
   simpa[List.getD_eq_getElem?_getD,List.getElem?_append_left hj]using h2
  ·obtain⟨j,h1,h2⟩:=jz l (acc++[fk acc ps]) k (by simp;omega) (fun k' Dx j hj=>by
    have:=hp (k'+1) (by simp;omega) j (by simpa using hj)
    simp;omega) h
   refine⟨j, ?_,h2⟩
   have e:k - acc.length=(k - (acc++[fk acc ps]).length)+1:=by simp;omega
   rw[e];simpa using h1
theorem iz{pr:List (List Nat)}(hp:∀k,k<pr.length->∀j∈pr.getD k [],j<k){E:Nat->Bool}(hE:∀k,k<pr.length->E k=true->∀j∈pr.getD k [],E j=true):
 ∀k,k<pr.length->(∀j∈pr.getD k [],E j=true)->∀i,((ck pr []).getD k 0).testBit i=true->E i=true:=by
 intro k
 induction k using Nat.strongRecOn with
 |ind k ih=>
  intro hk hj i hi
  obtain⟨j,h1,h2⟩:=jz pr [] k (by simp) (fun k' Dx j hj=>by simpa using hp k' Dx j hj) hi
  simp only[List.length_nil,Nat.sub_zero]at h1
  rcases h2 with rfl|h2
  ·exact hj _ h1
  ·have A0:=hp k hk j h1
   exact ih j A0 (by omega) (hE j (by omega) (hj j h1)) i h2
theorem ox{pr:List (List Nat)}(hp:∀k,k<pr.length->∀j∈pr.getD k [],j<k):∀k,k<pr.length->∀i,((ck pr []).getD k 0).testBit i=true->i<k:=by
 intro k
 induction k using Nat.strongRecOn with
 |ind k ih=>
  intro hk i hi
  obtain⟨j,h1,h2⟩:=jz pr [] k (by simp) (fun k' Dx j hj=>by simpa using hp k' Dx j hj) hi
  simp only[List.length_nil,Nat.sub_zero]at h1
  have A0:=hp k hk j h1
  rcases h2 with rfl|h2
  ·exact A0
  ·have:=ih j A0 (by omega) i h2;omega
def low(n:Nat):Code->IC
 | .skip=> .skip
 | .label _=> .skip
 | .scope c=>low n c
 | .region _ ops false=>match eW n ops ops.toList with
   |some l=> .ab l
   |none=> .bad
 | .region _ ops true=>match eW n ops ops.toList with
   |some l=>if ns l (dh ops)&&yb (dh ops)then .ct l (dh ops)else .bad
   |none=> .bad
 | .seq a b=> .seq (low n a) (low n b)
 | .cond c a b=> .cond c (low n a) (low n b)
 | .block id a=> .block id (low n a)
 | .loop a=> .loop (low n a)
 | .exit id=> .exit id
 | .ret=> .ret
 | .rangeFunc g ps a b=> .sV g ps.toList (low n a) (low n b)
 |_=> .bad
end Go.Proofs.YtbmnikpknlkbkaaGreat
namespace Go.Proofs.YtbmnikpknlkbkaaGreat
inductive D where
 |int (k:IntKind) (n:Int)|bool (b:Bool)|str (s:List UInt8)
 |dx|fO|fl|eB
 |agg (cs:List D)|sl (es:List D)|iface (t:TypeId) (d:D)
 |mp (ks vs:List D)
 deriving Inhabited
def Flat(vs:List Value):Prop:=∀u∈vs,u.oneCell'=true
def dk(B:Nat->Prop)(w:World)(a:Addr)(cs:Array Value):Prop:=∀j u,cs[j]? =some u->w.cell? (a.add j)=some u/\ ¬B a.block
def dR(es:Array MapEntry)(clock:Nat):Prop:=(∀e∈es.toList,e.born<clock)/\(es.toList.map (·.born)).Nodup
def nu(ks:List D):Prop:=ks.Nodup/\∀k∈ks,∃n,k= .int .i64 n
mutual
def D.den (B:Nat->Prop)(w:World):D->Value->Prop
 | .int k n,v=>v= .int k n
 | .bool b,v=>v= .bool b
 | .str l,v=>∃s:ByteArray,v= .string s/\s.data.toList=l
 | .dx,v=>v= .nilIface
 | .fO,v=>v= .pointer none
 | .fl,v=>v= .nilFunc
 | .eB,v=>v= .map none
 | .agg cs,v=>∃a,v= .agg a/\D.aj B w cs a.toList/\Flat a.toList
 | .sl es,v=>∃base len cap,v= .slice base len cap/\len=es.length/\len<=cap/\(base=none->cap=0)/\
  ∃sz,∀a,base=some a->(cap≠0->a.spot=none)/\D.elems B w sz a 0 es
 | .iface t d,v=>∃u,v= .iface t u/\D.den B w d u
 | .mp ks vs,v=>∃m es clock p,v= .map (some m)/\w.heap[m]? =some (.map es clock)/\ ¬B m/\dR es clock/\(p=es.toList\/(p.Perm es.toList/\nu ks))/\D.aj B w ks (p.map (·.key))/\D.aj B w vs (p.map (·.val))
def D.aj (B:Nat->Prop)(w:World):List D->List Value->Prop
 |[],vs=>vs=[]
 |d::ds,vs=>∃u us,vs=u::us/\D.den B w d u/\D.aj B w ds us
def D.elems (B:Nat->Prop)(w:World)(sz:Nat)(a:Addr):Nat->List D->Prop
 |_,[]=>True
 |i,e::es=>(∃ev:Value,ev.cells.size=sz/\dk B w (a.add (i*sz)) ev.cells/\D.den B w e ev)/\D.elems B w sz a (i+1) es
end
inductive V where
 |d (x:D)|b6|agg (cs:List V)|a8 (vs:List V)
 |ptr (id off:Nat)|osl (id ep:Nat)|pe (id ep i sz off:Nat)|pp (cs:List D) (off:Nat)
 |func (fn:Fn) (first cap:List V)|iface (t:TypeId) (x:V)
 |bL
 |iA (es:List D)|mg (id off n:Nat)|mp (id:Nat)|cM|g8 (id:Nat)
 deriving Inhabited
inductive aa where
 |no|row (cs:List V)|arr (ep:Nat) (ty:TypeId) (sz:Nat) (es:List D)|ko (ep:Nat) (es:List D)
 |map (kt vt:TypeId) (es:List (D×D))
 |loop (nf n:Nat) (env:List V) (ps:List Nat) (a b:IC) (st:LoopState) (rT:Option kn)
 |dA (es:List (D×D))|kX (es:List (D×D)) (last:Option (D×D))|ot (s:List UInt8) (pos:Nat)
 deriving Inhabited
def eX(l:List V):Nat->V:=fun i=>l.getD i .bL
structure Hp where
 o:Nat->aa
 us:Nat->Prop
def aa.aN:aa->Option Nat
 | .arr ep _ _ _| .ko ep _=>some ep
 |_=>none
def aa.aM:aa->Bool
 | .row _| .map .. | .loop .. | .dA _| .kX .. | .ot .. =>true
 |_=>false
def aa.live:aa->Bool
 | .row _| .arr .. | .map .. | .loop .. | .kX .. | .ot .. =>true
 |_=>false
def cI:Value->Option Nat
 | .pointer (some a)| .slice (some a) _ _=>some a.block
 | .map (some b)=>some b
 |_=>none
abbrev Place:=Nat->Value
def bc(φ:Place)(H:Hp)(b:Nat):Prop:=∃id,(H.o id).live=true/\cI (φ id)=some b
def ad(M:Nat->Prop)(φ:Place)(H:Hp)(b:Nat):Prop:=M b\/bc φ H b
mutual
def V.den (B:Nat->Prop)(φ:Place)(H:Hp)(w:World):V->Value->Prop
 | .d x,v=>D.den B w x v
 | .b6,v=>v= .slice none 0 0
 | .agg cs,v=>∃a,v= .agg a/\V.aj B φ H w cs a.toList/\Flat a.toList
 | .a8 vs,v=>∃a,v= .tuple a/\V.aj B φ H w vs a.toList
 | .ptr id off,v=>v.oneCell'=true/\H.us id/\((H.o id).aM=true->∃b,φ id= .pointer (some ⟨b,0,none⟩)/\v= .pointer (some ⟨b,off,none⟩))
 | .osl id ep,v=>v.oneCell'=true/\H.us id/\∀e,(H.o id).aN=some e->ep<=e/\(ep=e->v=φ id)
 | .pe id ep i sz off,v=>v.oneCell'=true/\H.us id/\∀e,(H.o id).aN=some e->ep<=e/\(ep=e->∃b n c,φ id= .slice (some ⟨b,0,none⟩) n c/\v= .pointer (some ⟨b,i*sz+off,none⟩))
 | .pp cs off,v=>∃a ev,a.spot=none/\v= .pointer (some (a.add off))/\D.aj B w cs ev/\Flat ev/\dk B w a ev.toArray
 | .func fn first cap,v=>∃f c,v= .func fn f c/\V.aj B φ H w first f.toList/\V.aj B φ H w cap c.toList
 | .iface t x,v=>∃u,v= .iface t u/\V.den B φ H w x u
 | .bL,_=>True
 | .iA es,v=>D.den B w (.sl es) v/\∃base n,v= .slice base n n
 | .mg id off n,v=>v.oneCell'=true/\H.us id/\((H.o id).aM=true->∃b,φ id= .pointer (some ⟨b,0,none⟩)/\v= .slice (some ⟨b,off,none⟩) n n)
 | .mp id,v=>v.oneCell'=true/\H.us id/\((H.o id).aM=true->v=φ id)
 | .cM,v=>∃b,v= .bool b
 | .g8 id,v=>v.oneCell'=true/\H.us id/\((H.o id).aM=true->∃b,φ id= .pointer (some ⟨b,0,none⟩)/\v= .func (.yield b) #[] #[])
def V.aj (B:Nat->Prop)(φ:Place)(H:Hp)(w:World):List V->List Value->Prop
 |[],vs=>vs=[]
 |x::xs,vs=>∃u us,vs=u::us/\V.den B φ H w x u/\V.aj B φ H w xs us
end
def dm(B:Nat->Prop)(w:World)(sz:Nat)(es:List D)(xs:List Value):Prop:=
 ∃evs:List Value,xs=evs.flatMap (·.cells.toList)/\(∀ev∈evs,ev.cells.size=sz)/\D.aj B w es evs
def ao(B:Nat->Prop)(w:World):List (D×D)->List MapEntry->Prop
 |[],es=>es=[]
 |(k,x)::l,es=>∃e es',es=e::es'/\D.den B w k e.key/\D.den B w x e.val/\ao B w l es'
def kY(B:Nat->Prop)(w:World)(l:List (D×D))(last:Option (D×D))(b:Nat):Prop:=
 w.heap[b]? =some (.mapIter none 0 #[] 0)/\l=[]/\last=none\/
 ∃m since seen es,w.heap[b]? =some (.mapIter (some m) since seen since)/\w.heap[m]? =some (.map es since)/\ ¬B m/\dR es since/\(∃l',l'.Perm l/\ao B w l' (es.toList.filter fun e=> !seen.contains e.born))/\
  ∀k x,last=some (k,x)->∃e∈es.toList,seen.back?=some e.born/\D.den B w k e.key/\D.den B w x e.val
def au(M:Nat->Prop)(φ:Place)(H:Hp)(w:World)(id:Nat):Prop:=
 match H.o id with
 | .no=>True
 | .row cs=>∃b cg ty,φ id= .pointer (some ⟨b,0,none⟩)/\w.heap[b]? =some (.cells cg ty (0,0))/\V.aj (ad M φ H) φ H w cs cg.toList/\Flat cg.toList
 | .arr _ ty sz es=>0<sz/\∃xs,w.ownsRow 0 ty sz (φ id) es.length xs/\dm (ad M φ H) w sz es xs
 | .ko _ es=>D.den (ad M φ H) w (.sl es) (φ id)
 | .loop nf n env ps iB fL st rT=>∃b r,φ id= .pointer (some ⟨b,0,none⟩)/\w.heap[b]? =some (.loop r)/\r.fn<nf/\r.state=st/\r.pending=rT.map kn.code/\r.params.toList=ps/\r.tmps.size=n/\low n r.assign=iB/\low n r.body=fL/\
  ∀i,V.den (ad M φ H) φ H w (eX env i) (r.tmps.getD i undef)
 | .map _ _ l=>∃b es clock,φ id= .map (some b)/\w.heap[b]? =some (.map es clock)/\dR es clock/\ao (ad M φ H) w l es.toList
 | .dA l=>D.den (ad M φ H) w (.mp (l.map (·.1)) (l.map (·.2))) (φ id)
 | .kX l last=>∃b,φ id= .pointer (some ⟨b,0,none⟩)/\kY (ad M φ H) w l last b
 | .ot s pos=>∃b,φ id= .pointer (some ⟨b,0,none⟩)/\w.heap[b]? =some (.stringIter ⟨⟨s⟩⟩ pos)
structure af (M:Nat->Prop) (φ:Place) (H:Hp) (w:World):Prop where
 ok:∀id,au M φ H w id
 fresh:∀id, ¬H.us id->H.o id= .no
 apart:∀i j b,(H.o i).live=true->(H.o j).live=true->cI (φ i)=some b->cI (φ j)=some b->i=j
 ours:∀b,bc φ H b-> ¬M b/\b<w.heap.size
 oy:∀b,M b->b<w.heap.size
structure cp (m:Nat->Prop) (w w':World):Prop where
 os:w'.os=w.os
 tape:w'.tape=w.tape
 output:w'.output=w.output
 size:w.heap.size<=w'.heap.size
 block:∀k,k<w.heap.size-> ¬m k->w'.heap[k]? =w.heap[k]?
structure bU (φ:Place) (H:Hp) (ai:Place) (H':Hp):Prop where
 us:∀id,H.us id->H'.us id
 row:∀id,H.us id->(H'.o id).aM=true->(H.o id).aM=true/\ai id=φ id
 ep:∀id e',H.us id->(H'.o id).aN=some e'->∃e,(H.o id).aN=some e/\e<=e'/\(e=e'->ai id=φ id)
structure Trans (φ:Place) (H:Hp) (w:World) (ai:Place) (H':Hp) (w':World):Prop where
 aU:cp (bc φ H) w w'
 grow:∀b,bc ai H' b->bc φ H b\/w.heap.size<=b
 rel:bU φ H ai H'
theorem cp.refl (m:Nat->Prop)(w:World):cp m w w:=⟨rfl,rfl,rfl,Nat.le_refl _,fun _ _ _=>rfl⟩
theorem bU.refl (φ:Place)(H:Hp):bU φ H φ H:=⟨fun _ h=>h,fun _ _ h=>⟨h,rfl⟩,fun _ e' _ h=>⟨e',h,Nat.le_refl _,fun _=>rfl⟩⟩
theorem Trans.refl (φ:Place)(H:Hp)(w:World):Trans φ H w φ H w:=⟨cp.refl _ _,fun _ h=> .inl h,bU.refl _ _⟩
theorem bU.trans {φ ai s7:Place}{H H' A1:Hp}(h:bU φ H ai H')(k:bU ai H' s7 A1):bU φ H s7 A1 where
 us id ah:=k.us id (h.us id ah)
 row id ah hr:=by
  obtain⟨a,b⟩:=k.row id (h.us id ah) hr
  obtain⟨c,d⟩:=h.row id ah a
  exact⟨c,b.trans d⟩
 ep id e' ah he:=by
  obtain⟨e,h1,h2,h3⟩:=k.ep id e' (h.us id ah) he
  obtain⟨e0,g1,g2,g3⟩:=h.ep id e ah h1
  refine⟨e0,g1,Nat.le_trans g2 h2,fun heq=> ?_⟩
  have a:e0=e:=by omega
  have b:e=e':=by omega
  exact(h3 b).trans (g3 a)
theorem Trans.trans {φ ai s7:Place}{H H' A1:Hp}{w w' wW:World}(h:Trans φ H w ai H' w')(k:Trans ai H' w' s7 A1 wW):Trans φ H w s7 A1 wW where
 aU:={
  os:=k.aU.os.trans h.aU.os
  tape:=k.aU.tape.trans h.aU.tape
  output:=k.aU.output.trans h.aU.output
  size:=Nat.le_trans h.aU.size k.aU.size
  block:=fun b hb hm=>by
   rw[k.aU.block b (Nat.lt_of_lt_of_le hb h.aU.size) (fun hl=>by
    rcases h.grow b hl with h1|h1
    ·exact hm h1
    ·omega),h.aU.block b hb hm]}
 grow b hl:=by
  rcases k.grow b hl with h1|h1
  ·exact h.grow b h1
  ·exact .inr (Nat.le_trans h.aU.size h1)
 rel:=h.rel.trans k.rel
@[simp] theorem z5 (a:Addr) (j:Nat):(a.add j).block=a.block:=by unfold Addr.add;split<;>rfl
def iC(w:World)(b:Nat):Prop:=∃cs ty fz,w.heap[b]? =some (.cells cs ty fz)
def aS(w:World)(b:Nat):Prop:=iC w b\/∃es clock,w.heap[b]? =some (.map es clock)
theorem aS.lt {w:World}{b:Nat}(h:aS w b):b<w.heap.size:=by
 rcases Nat.lt_or_ge b w.heap.size with hl|hl
 ·exact hl
 ·rcases h with⟨cs,ty,fz,h⟩|⟨es,clock,h⟩
  ·rw[Array.getElem?_eq_none hl]at h;cases h
  ·rw[Array.getElem?_eq_none hl]at h;cases h
theorem gV{w:World}{a:Addr}{u:Value}(h:w.cell? a=some u):iC w a.block:=by
 unfold World.cell? at h
 split at h
 ·exact⟨_,_,_,by assumption⟩
 ·cases h
theorem kp{w:World}{a:Addr}{u:Value}(h:w.cell? a=some u):aS w a.block:= .inl (gV h)
theorem dk.mono {B B':Nat->Prop}{w w':World}{a:Addr}{cs:Array Value}
 (hb:∀b,aS w b-> ¬B b->w'.heap[b]? =w.heap[b]? /\ ¬B' b) (h:dk B w a cs):dk B' w' a cs:=by
 intro j u hj
 obtain⟨h1,h2⟩:=h j u hj
 have cu:aS w a.block:=by simpa using kp h1
 obtain⟨h3,h4⟩:=hb _ cu h2
 exact⟨by rw[World.cell?_of_block (w:=w) (w':=w') (a:=a.add j) (by simpa using h3)];exact h1,h4⟩
mutual
theorem D.aq {B B':Nat->Prop}{w w':World}(hb:∀b,aS w b-> ¬B b->w'.heap[b]? =w.heap[b]? /\ ¬B' b):
 ∀ (x:D) (v:Value),D.den B w x v->D.den B' w' x v
 | .int _ _,_,h| .bool _,_,h| .str _,_,h| .dx,_,h| .fO,_,h| .fl,_,h| .eB,_,h=>by simpa[D.den]using h
 | .agg cs,_,h=>by
   obtain⟨a,rfl,h,hf⟩:=h
   exact⟨a,rfl,D.aw hb cs _ h,hf⟩
 | .sl es,_,h=>by
   obtain⟨base,len,cap,rfl,h1,h2,h3,sz,h4⟩:=h
   exact⟨base,len,cap,rfl,h1,h2,h3,sz,fun a ha=>⟨(h4 a ha).1,D.kZ hb sz a es 0 (h4 a ha).2⟩⟩
 | .iface t d,_,h=>by
   obtain⟨u,rfl,h⟩:=h
   exact⟨u,rfl,D.aq hb d u h⟩
 | .mp ks vs,_,h=>by
   obtain⟨m,es,clock,p,rfl,h1,h2,h3,hp,h4,h5⟩:=h
   obtain⟨k1,k2⟩:=hb m (.inr ⟨es,clock,h1⟩) h2
   exact⟨m,es,clock,p,rfl,k1.trans h1,k2,h3,hp,D.aw hb ks _ h4,D.aw hb vs _ h5⟩
theorem D.aw {B B':Nat->Prop}{w w':World}(hb:∀b,aS w b-> ¬B b->w'.heap[b]? =w.heap[b]? /\ ¬B' b):
 ∀ (ds:List D) (vs:List Value),D.aj B w ds vs->D.aj B' w' ds vs
 |[],_,h=>h
 |d::ds,_,h=>by
  obtain⟨u,us,rfl,h1,h2⟩:=h
  exact⟨u,us,rfl,D.aq hb d u h1,D.aw hb ds us h2⟩
theorem D.kZ {B B':Nat->Prop}{w w':World}(hb:∀b,aS w b-> ¬B b->w'.heap[b]? =w.heap[b]? /\ ¬B' b)(sz:Nat)(a:Addr):
 ∀ (es:List D) (i:Nat),D.elems B w sz a i es->D.elems B' w' sz a i es
 |[],_,_=>trivial
 |e::es,i,h=>by
  obtain⟨⟨ev,h1,h2,h3⟩,h4⟩:=h
  exact⟨⟨ev,h1,h2.mono hb,D.aq hb e ev h3⟩,D.kZ hb sz a es (i+1) h4⟩
end
theorem ao.mono {B B':Nat->Prop}{w w':World}(hb:∀b,aS w b-> ¬B b->w'.heap[b]? =w.heap[b]? /\ ¬B' b):
 ∀ (l:List (D×D)) (es:List MapEntry),ao B w l es->ao B' w' l es
 |[],_,h=>h
 |(k,x)::l,_,h=>by
  obtain⟨e,es,rfl,h1,h2,h3⟩:=h
  exact⟨e,es,rfl,D.aq hb k _ h1,D.aq hb x _ h2,ao.mono hb l es h3⟩
theorem kY.mono {B B':Nat->Prop}{w w':World}(hb:∀b,aS w b-> ¬B b->w'.heap[b]? =w.heap[b]? /\ ¬B' b){l:List (D×D)}{last:Option (D×D)}{b:Nat}(Hj:w'.heap[b]? =w.heap[b]?)(h:kY B w l last b):kY B' w' l last b:=by
 rcases h with⟨h1,h2⟩|⟨m,since,seen,es,h1,h2,h3,h4,h5,h6⟩
 ·exact .inl ⟨Hj.trans h1,h2⟩
 ·obtain⟨k1,k2⟩:=hb m (.inr ⟨es,since,h2⟩) h3
  obtain⟨l',h5,Jy⟩:=h5
  refine .inr ⟨m,since,seen,es,Hj.trans h1,k1.trans h2,k2,h4,⟨l',h5,ao.mono hb l' _ Jy⟩,fun k x e=> ?_⟩
  obtain⟨e,g1,g2,g3,g4⟩:=h6 k x e
  exact⟨e,g1,g2,D.aq hb k _ g3,D.aq hb x _ g4⟩
theorem eY{B:Nat->Prop}{w:World}:∀ (l:List (D×D)) (es:List MapEntry),ao B w l es↔D.aj B w (l.map (·.1)) (es.map (·.key))/\D.aj B w (l.map (·.2)) (es.map (·.val))
 |[],es=>by
  simp only[ao,List.map_nil,D.aj]
  constructor
  ·rintro rfl;exact⟨rfl,rfl⟩
  ·rintro⟨h,_⟩;simpa using h
 |(k,x)::l,es=>by
  simp only[ao,List.map_cons,D.aj]
  constructor
  ·rintro⟨e,es',rfl,h1,h2,h3⟩
   obtain⟨g1,g2⟩:=(eY l es').1 h3
   exact⟨⟨_,_,rfl,h1,g1⟩,⟨_,_,rfl,h2,g2⟩⟩
  ·rintro⟨⟨u,us,h1,h2,h3⟩,⟨v,vs,h4,h5,h6⟩⟩
   cases es with
   |nil=>simp at h1
   |cons e es'=>
    simp only[List.map_cons,List.cons.injEq]at h1 h4
    obtain⟨rfl,rfl⟩:=h1
    obtain⟨rfl,rfl⟩:=h4
    exact⟨e,es',rfl,h2,h5,(eY l es').2 ⟨h3,h6⟩⟩
theorem D.ag {B:Nat->Prop}{w:World}:∀ (ds:List D) (vs:List Value),D.aj B w ds vs->vs.length=ds.length
 |[],_,h=>by simp[D.aj]at h;simp[h]
 |d::ds,_,h=>by obtain⟨u,us,rfl,_,h2⟩:=h;simp[D.ag ds us h2]
theorem D.b7 {B:Nat->Prop}{w:World}:∀ (ds:List D) (vs:List Value) (i:Nat) (d:D),D.aj B w ds vs->ds[i]? =some d->∃v,vs[i]? =some v/\D.den B w d v
 |[],_,_,_,_,hd=>by simp at hd
 |d::ds,_,0,x,h,hd=>by
  obtain⟨u,us,rfl,h1,_⟩:=h
  simp at hd;subst hd;exact⟨u,by simp,h1⟩
 |d::ds,_,i+1,x,h,hd=>by
  obtain⟨u,us,rfl,_,h2⟩:=h
  simpa using D.b7 ds us i x h2 (by simpa using hd)
theorem D.mB {B:Nat->Prop}{w:World}{sz:Nat}{a:Addr}:∀ (es:List D) (i j:Nat) (e:D),D.elems B w sz a i es->es[j]? =some e->
 ∃ev:Value,ev.cells.size=sz/\dk B w (a.add ((i+j)*sz)) ev.cells/\D.den B w e ev
 |[],_,_,_,_,hd=>by simp at hd
 |e::es,i,0,x,h,hd=>by
  simp at hd;subst hd;simpa using h.1
 |e::es,i,j+1,x,h,hd=>by
  have:=D.mB es (i+1) j x h.2 (by simpa using hd)
  simpa[Nat.add_assoc,Nat.add_comm 1 j]using this
section
variable {M:Nat->Prop}{φ ai:Place}{H H':Hp}{w w':World}
theorem Trans.blocks (ht:Trans φ H w ai H' w')(b:Nat)(hc:aS w b)(h: ¬ad M φ H b):w'.heap[b]? =w.heap[b]? /\ ¬ad M ai H' b:=by
 have hb:=hc.lt
 refine⟨ht.aU.block b hb fun hl=>h (.inr hl), ?_⟩
 rintro(h1|h1)
 ·exact h (.inl h1)
 ·rcases ht.grow b h1 with h2|h2
  ·exact h (.inr h2)
  ·omega
mutual
theorem V.eZ (hb:∀b,aS w b-> ¬ad M φ H b->w'.heap[b]? =w.heap[b]? /\ ¬ad M ai H' b)(hr:bU φ H ai H'):∀ (x:V) (v:Value),V.den (ad M φ H) φ H w x v->V.den (ad M ai H') ai H' w' x v
 | .d x,v,h=>D.aq hb x v h
 | .b6,_,h=>h
 | .bL,_,_=>trivial
 | .iA es,v,h=>⟨D.aq hb (.sl es) v h.1,h.2⟩
 | .mg id off n,v,h=>by
   obtain⟨h0,h1,h2⟩:=h
   refine⟨h0,hr.us id h1,fun aL=> ?_⟩
   obtain⟨h3,h4⟩:=hr.row id h1 aL
   obtain⟨b,h5,h6⟩:=h2 h3
   exact⟨b,h4.trans h5,h6⟩
 | .mp id,v,h=>by
   obtain⟨h0,h1,h2⟩:=h
   refine⟨h0,hr.us id h1,fun aL=> ?_⟩
   obtain⟨h3,h4⟩:=hr.row id h1 aL
   exact(h2 h3).trans h4.symm
 | .cM,v,h=>h
 | .g8 id,v,h=>by
   obtain⟨h0,h1,h2⟩:=h
   refine⟨h0,hr.us id h1,fun aL=> ?_⟩
   obtain⟨h3,h4⟩:=hr.row id h1 aL
   obtain⟨b,h5,h6⟩:=h2 h3
   exact⟨b,h4.trans h5,h6⟩
 | .agg cs,_,h=>by obtain⟨a,rfl,h,hf⟩:=h;exact⟨a,rfl,V.cS hb hr cs _ h,hf⟩
 | .a8 cs,_,h=>by obtain⟨a,rfl,h⟩:=h;exact⟨a,rfl,V.cS hb hr cs _ h⟩
 | .ptr id off,v,h=>by
   obtain⟨h0,h1,h2⟩:=h
   refine⟨h0,hr.us id h1,fun aL=> ?_⟩
   obtain⟨h3,h4⟩:=hr.row id h1 aL
   obtain⟨b,h5,h6⟩:=h2 h3
   exact⟨b,h4.trans h5,h6⟩
 | .osl id ep,v,h=>by
   obtain⟨h0,h1,h2⟩:=h
   refine⟨h0,hr.us id h1,fun e' qV=> ?_⟩
   obtain⟨e,g1,g2,g3⟩:=hr.ep id e' h1 qV
   obtain⟨h3,h4⟩:=h2 e g1
   refine⟨Nat.le_trans h3 g2,fun heq=> ?_⟩
   rw[g3 (by omega)]
   exact h4 (by omega)
 | .pe id ep i sz off,v,h=>by
   obtain⟨h0,h1,h2⟩:=h
   refine⟨h0,hr.us id h1,fun e' qV=> ?_⟩
   obtain⟨e,g1,g2,g3⟩:=hr.ep id e' h1 qV
   obtain⟨h3,h4⟩:=h2 e g1
   refine⟨Nat.le_trans h3 g2,fun heq=> ?_⟩
   rw[g3 (by omega)]
   exact h4 (by omega)
 | .pp cs off,v,h=>by
   obtain⟨a,ev,h1,h2,h3,h5,h4⟩:=h
   exact⟨a,ev,h1,h2,D.aw hb cs ev h3,h5,h4.mono hb⟩
 | .func fn first cap,_,h=>by
   obtain⟨f,c,rfl,h1,h2⟩:=h
   exact⟨f,c,rfl,V.cS hb hr first _ h1,V.cS hb hr cap _ h2⟩
 | .iface t x,_,h=>by obtain⟨u,rfl,h⟩:=h;exact⟨u,rfl,V.eZ hb hr x u h⟩
theorem V.cS (hb:∀b,aS w b-> ¬ad M φ H b->w'.heap[b]? =w.heap[b]? /\ ¬ad M ai H' b)(hr:bU φ H ai H'):∀ (ds:List V) (vs:List Value),V.aj (ad M φ H) φ H w ds vs->V.aj (ad M ai H') ai H' w' ds vs
 |[],_,h=>h
 |x::xs,_,h=>by
  obtain⟨u,us,rfl,h1,h2⟩:=h
  exact⟨u,us,rfl,V.eZ hb hr x u h1,V.cS hb hr xs us h2⟩
end
theorem V.aq (ht:Trans φ H w ai H' w')(x:V)(v:Value)(h:V.den (ad M φ H) φ H w x v):V.den (ad M ai H') ai H' w' x v:=V.eZ ht.blocks ht.rel x v h
theorem V.aw (ht:Trans φ H w ai H' w')(ds:List V)(vs:List Value)(h:V.aj (ad M φ H) φ H w ds vs):V.aj (ad M ai H') ai H' w' ds vs:=V.cS ht.blocks ht.rel ds vs h
end
end Go.Proofs.YtbmnikpknlkbkaaGreat
namespace Go.Proofs.YtbmnikpknlkbkaaGreat
def cN{α:Type}(f:Nat->α)(i:Nat)(x:α):Nat->α:=fun j=>if j=i then x else f j
@[simp] theorem ak {α:Type} (f:Nat->α) (i:Nat) (x:α) (j:Nat):cN f i x j=if j=i then x else f j:=rfl
structure S where
 env:Nat->V
 o:Nat->aa
 nx:Nat
def S.H (s:S):Hp:=⟨s.o,fun id=>id<s.nx⟩
def V.bw:Value->V
 | .int k n=> .d (.int k n)| .bool b=> .d (.bool b)| .string s=> .d (.str s.data.toList)
 | .nilIface=> .d .dx| .pointer none=> .d .fO| .nilFunc=> .d .fl| .map none=> .d .eB
 | .slice none 0 0=> .b6
 |_=> .bL
def p6:List V->Option (List D)
 |[]=>some []
 | .d x::vs=>(p6 vs).map (x::·)
 |_::_=>none
def iD(cs:List V):V:=match p6 cs with|some ds=> .d (.agg ds)|none=> .agg cs
def V.ofConst:Value->V
 | .agg a=>if a.toList.all Value.oneCell' then iD (a.toList.map V.bw)else .bL
 |v=>V.bw v
def S.ev (s:S):Operand->V
 | .tmp t=>s.env t
 | .const v=>V.ofConst v
 | .func f=> .func (.func f) [] []
 | .global _=> .bL
def D.cells:D->List D
 | .agg cs=>cs
 |x=>[x]
def V.cells:V->Option (List V)
 | .d x=>some (x.cells.map .d)
 | .agg cs=>some cs
 | .a8 _| .bL=>none
 |v=>some [v]
mutual
def cJ(o:Nat->aa):V->Option D
 | .d x=>some x
 | .b6=>some (.sl [])
 | .iA es=>some (.sl es)
 | .osl id ep=>match o id with
   | .arr dB _ _ es| .ko dB es=>if ep=dB then some (.sl es)else none
   |_=>none
 | .mp id=>match o id with
   | .map _ _ l=>some (.mp (l.map (·.1)) (l.map (·.2)))
   | .dA l=>some (.mp (l.map (·.1)) (l.map (·.2)))
   |_=>none
 | .agg cs=>(aQ o cs).map .agg
 | .iface t x=>(cJ o x).map (.iface t)
 |_=>none
def aQ(o:Nat->aa):List V->Option (List D)
 |[]=>some []
 |v::vs=>(cJ o v).bind fun x=>(aQ o vs).map (x::·)
end
mutual
def V.ids:V->List Nat
 | .osl id _=>[id]
 | .mp id=>[id]
 | .agg cs=>V.aB cs
 | .iface _ x=>x.ids
 |_=>[]
def V.aB:List V->List Nat
 |[]=>[]
 |v::vs=>v.ids++V.aB vs
end
def bD(o:Nat->aa)(ids:List Nat):List (Nat×aa):=
 ids.map fun id=>(id,match o id with| .arr ep _ _ es=> .ko ep es| .map _ _ l=> .dA l|o=>o)
def kq(o:Nat->aa)(ids:List Nat):List (Nat×aa):=
 ids.filterMap fun id=>match o id with| .arr ep _ _ es=>some (id, .ko ep es)|_=>none
def put(o:Nat->aa)(Δ:List (Nat×aa)):Nat->aa:=Δ.foldl (fun f x=>cN f x.1 x.2) o
def Hp.put (H:Hp)(Δ:List (Nat×aa)):Hp:={o:=YtbmnikpknlkbkaaGreat.put H.o Δ,us:=fun id=>H.us id\/id∈Δ.map (·.1)}
def e7(P:Program)(t:TypeId):Option (List V):=
 match P.info? t with
 |some i=>match i.zero with
  |some z=>if z.cells.size=i.size/\z.cells.toList.all Value.oneCell'=true then some (z.cells.toList.map V.bw)else none
  |none=>none
 |none=>none
def ku(P:Program)(t:TypeId):Option Bool:=
 match P.underlying t with
 |some (.struct _)|some (.array _ _)=>some true
 |some _=>some false
 |none=>none
def g9(P:Program)(t:TypeId)(f:Nat):Option Nat:=
 match P.underlying t with
 |some (.struct fs)=>match fs[f]? with
  |some fd=>if P.cellsOf fd.type=0 then none else some fd.offset
  |none=>none
 |_=>none
def bM(P:Program)(t:TypeId):Option TypeId:=
 match P.underlying t with
 |some (.slice e)=>some e
 |_=>none
def p7(P:Program)(t:TypeId):Option (Nat×TypeId):=
 match P.underlying t with
 |some (.array n e)=>some (n,e)
 |_=>none
def iE(P:Program)(t:TypeId):Option (List (Nat×Nat)):=
 match P.underlying t with
 |some (.struct fs)=>if fs.toList.all (fun f=>(P.info? f.type).isSome)=true then some (fs.toList.map fun f=>(f.offset,P.cellsOf f.type))else none
 |some (.array n e)=>if(P.info? e).isSome=true then some ((List.range n).map fun i=>(i*P.cellsOf e,P.cellsOf e))else none
 |_=>none
def rU(P:Program)(t:TypeId):Option IntKind:=
 match P.underlying t with
 |some (.int k)=>some k
 |_=>none
def cw(P:Program)(t:TypeId)(cs:List V)(off:Nat):Option V:=
 match ku P t with
 |some true=>if off+P.cellsOf t<=cs.length then some (iD ((cs.drop off).take (P.cellsOf t)))else none
 |some false=>cs[off]?
 |none=>none
def nv(P:Program)(t:TypeId)(cs:List V)(off:Nat)(v:V):Option (List V):=
 match v.cells with
 |some us=>if us.length=P.cellsOf t/\(0<us.length\/(P.info? t).isSome=true)/\off+us.length<=cs.length then some (cs.take off++us++cs.drop (off+us.length))else none
 |none=>none
def jT(places:List (Nat×Nat))(cs:List V):List (Nat×V)->Option (List V)
 |[]=>some cs
 |(i,v)::rest=>match places[i]?,v.cells with
  |some (off,size),some us=>if us.length=size/\off+us.length<=cs.length then jT places (cs.take off++us++cs.drop (off+us.length)) rest else none
  |_,_=>none
def D.put (e:D)(off:Nat)(us:List D):Option D:=
 match e with
 | .agg cs=>if off+us.length<=cs.length then some (.agg (cs.take off++us++cs.drop (off+us.length)))else none
 |_=>match off,us with
  |0,[u]=>some u
  |_,_=>none
def A2(op:BinOp)(a b:Int):Option Bool:=
 match op with
 | .eql=>some (a==b)| .neq=>some (a !=b)| .lss=>some (decide (a<b))| .leq=>some (decide (a<=b))
 | .gtr=>some (decide (a>b))| .geq=>some (decide (a≥b))
 |_=>none
def la(op:BinOp)(k:IntKind)(x y:Int):Option Int:=
 let a:=BitVec.ofInt k.bits x
 let b:=BitVec.ofInt k.bits y
 match op with
 | .and=>some (k.wrap (a&&&b).toNat)
 | .or=>some (k.wrap (a|||b).toNat)
 | .xor=>some (k.wrap (a ^^^ b).toNat)
 | .andNot=>some (k.wrap (a&&& ~~~b).toNat)
 |_=>none
def vo(op:BinOp)(k:IntKind)(a b:Int)(K:V->Prop):Prop:=
 match op with
 | .add=>K (.d (.int k (k.wrap (a+b))))
 | .sub=>K (.d (.int k (k.wrap (a - b))))
 | .mul=>K (.d (.int k (k.wrap (a*b))))
 | .quo=>b≠0/\K (.d (.int k (k.wrap (a.tdiv b))))
 | .rem=>b≠0/\K (.d (.int k (a.tmod b)))
 | .and| .or| .xor| .andNot=>∃r,la op k a b=some r/\K (.d (.int k r))
 | .shl| .shr=>False
 |op=>∃r,A2 op a b=some r/\K (.d (.bool r))
def s8(P:Program)(t:TypeId)(x y:D)(r:Bool):Prop:=
 ∀ (B:Nat->Prop) (w:World) (u v:Value),D.den B w x u->D.den B w y v->(Op.equal t u v).run P w= .ok r w/\∀ (op:BinOp) (a b:Operand),(eqGuard op t a b u v).run P w= .ok () w
def s9(P:Program)(op:BinOp)(t:TypeId)(x y:V)(K:V->Prop):Prop:=
 match x,y with
 | .d (.int k a), .d (.int k' b)=>k=k'/\vo op k a b K
 | .d (.bool a), .d (.bool b)=>match op with
   | .eql=>P.underlying t=some .bool/\K (.d (.bool (a==b)))
   | .neq=>P.underlying t=some .bool/\K (.d (.bool (a !=b)))
   |_=>False
 | .d (.str a), .d (.str b)=>match op with
   | .eql=>K (.d (.bool (a==b)))
   | .neq=>K (.d (.bool (a !=b)))
   |_=>False
 | .d (.agg a), .d (.agg b)=>match op with
   | .eql=>∃r,s8 P t (.agg a) (.agg b) r/\K (.d (.bool r))
   | .neq=>∃r,s8 P t (.agg a) (.agg b) r/\K (.d (.bool !r))
   |_=>False
 |_,_=>False
def A3(op:UnOp)(x:V)(K:V->Prop):Prop:=
 match op,x with
 | .neg, .d (.int k n)=>K (.d (.int k (k.wrap (0 - n))))
 | .not, .d (.bool b)=>K (.d (.bool !b))
 |_,_=>False
def oz(c a b:V)(K:V->Prop):Prop:=
 match c with
 | .d (.bool t)=>(t=true->K a)/\(t=false->K b)
 |_=>False
def ta(P:Program)(t:TypeId)(o:Nat->aa)(x:V)(K:V->List Nat->Prop):Prop:=
 match P.underlying t with
 |some (.slice _)=>match x with
  | .d (.sl es)=>K (.d (.int .i64 es.length)) []
  | .b6=>K (.d (.int .i64 0)) []
  | .iA es=>K (.d (.int .i64 es.length)) []
  | .osl id ep=>match o id with
    | .arr dB _ _ es| .ko dB es=>ep=dB/\K (.d (.int .i64 es.length)) [id]
    |_=>False
  |_=>False
 |some .string=>match x with
  | .d (.str s)=>K (.d (.int .i64 s.length)) []
  |_=>False
 |some (.array n _)=>K (.d (.int .i64 n)) []
 |_=>False
def ee(P:Program)(o:Nat->aa)(t:TypeId)(x ix:V)(K:V->List Nat->Prop):Prop:=
 match ix with
 | .d (.int _ i)=>match bM P t with
   |some e=>match x with
    | .d (.sl es)=>0<=i/\∃y,es[i.toNat]? =some y/\y.cells.length=P.cellsOf e/\0<P.cellsOf e/\K (.pp y.cells 0) []
    | .iA es=>0<=i/\∃y,es[i.toNat]? =some y/\y.cells.length=P.cellsOf e/\0<P.cellsOf e/\K (.pp y.cells 0) []
    | .osl id ep=>match o id with
      | .arr dB _ sz es=>ep=dB/\0<=i/\i.toNat<es.length/\sz=P.cellsOf e/\0<P.cellsOf e/\K (.pe id ep i.toNat sz 0) [id]
      | .ko dB es=>ep=dB/\0<=i/\∃y,es[i.toNat]? =some y/\y.cells.length=P.cellsOf e/\0<P.cellsOf e/\K (.pp y.cells 0) [id]
      |_=>False
    |_=>False
   |none=>match p7 P t with
    |some (n,e)=>0<=i/\i<n/\(P.info? e).isSome=true/\(match x with
     | .ptr id off=>(o id).aM=true/\K (.ptr id (off+i.toNat*P.cellsOf e)) []
     | .pp cs off=>K (.pp cs (off+i.toNat*P.cellsOf e)) []
     | .pe id ep j sz off=>(o id).aN=some ep/\K (.pe id ep j sz (off+i.toNat*P.cellsOf e)) []
     |_=>False)
    |none=>False
 |_=>False
def ef(P:Program)(o:Nat->aa)(t:TypeId)(x:V)(f:Nat)(K:V->Prop):Prop:=
 match g9 P t f with
 |some q=>match x with
  | .ptr id off=>(o id).aM=true/\K (.ptr id (off+q))
  | .pp cs off=>K (.pp cs (off+q))
  | .pe id ep j sz off=>(o id).aN=some ep/\K (.pe id ep j sz (off+q))
  |_=>False
 |none=>False
def oA(P:Program)(o:Nat->aa)(t:TypeId)(x:V)(K:V->List Nat->Prop):Prop:=
 match x with
 | .ptr id off=>match o id with
   | .row cs=>∃v,cw P t cs off=some v/\K v [id]
   |_=>False
 | .pp cs off=>∃v,cw P t (cs.map .d) off=some v/\K v []
 | .pe id ep i sz off=>match o id with
   | .arr dB _ gR es=>ep=dB/\sz=gR/\∃e,es[i]? =some e/\∃v,cw P t (e.cells.map .d) off=some v/\K v [id]
   |_=>False
 |_=>False
def lb(P:Program)(o:Nat->aa)(t:TypeId)(x v:V)(K:List (Nat×aa)->List Nat->Prop):Prop:=
 match x with
 | .ptr id off=>match o id with
   | .row cs=>∃cs',nv P t cs off v=some cs'/\K [(id, .row cs')] [id]
   |_=>False
 | .pe id ep i gR off=>match o id with
   | .arr dB ty sz es=>ep=dB/\gR=sz/\∃e,es[i]? =some e/\∃y,cJ o v=some y/\y.cells.length=P.cellsOf t/\0<y.cells.length/\v.ids.all (· !=id)=true/\
    ∃e',e.put off y.cells=some e'/\K (bD o v.ids++[(id, .arr ep ty sz (es.set i e'))]) (id::v.ids)
   |_=>False
 |_=>False
def dK(P:Program)(o:Nat->aa)(fr:Nat)(t:TypeId)(len:Nat)(parts:List (Nat×V))(K:V->List (Nat×aa)->List Nat->Prop):Prop:=
 match bM P t with
 |some e=>(len=0/\parts=[]/\0<P.cellsOf e/\K (.osl fr 0) [(fr, .arr 0 e (P.cellsOf e) [])] [])\/(parts.map (·.1)=List.range len)/\(e7 P e).isSome=true/\0<len/\0<P.cellsOf e/\len*P.cellsOf e<=2^24/\
  ∃ds,aQ o (parts.map (·.2))=some ds/\(∀x∈ds,x.cells.length=P.cellsOf e)/\
   K (.osl fr 0) (bD o (V.aB (parts.map (·.2)))++[(fr, .arr 0 e (P.cellsOf e) ds)]) (V.aB (parts.map (·.2)))
 |none=>False
def oB(P:Program)(e:TypeId):Option D:=
 match e7 P e with
 |some z=>match aQ (fun _=> .no) z,ku P e with
  |some ds,some true=>some (.agg ds)
  |some [x],some false=>some x
  |_,_=>none
 |none=>none
def eg(P:Program)(fr:Nat)(t:TypeId)(l c:V)(K:V->List (Nat×aa)->Prop):Prop:=
 match bM P t,l,c with
 |some e, .d (.int _ n), .d (.int _ m)=>n=m/\0<=n/\0<P.cellsOf e/\P.bytesOf e*n.toNat<=2^47/\n.toNat<=2^47/\
  ∃x,oB P e=some x/\K (.osl fr 0) [(fr, .arr 0 e (P.cellsOf e) (List.replicate n.toNat x))]
 |_,_,_=>False
def cy(o:Nat->aa)(x:V):Option (List D):=
 match cJ o x with
 |some (.sl es)=>some es
 |_=>none
def iF(P:Program)(o:Nat->aa)(fr:Nat)(ts:Array TypeId)(x y:V)(K:V->List (Nat×aa)->List Nat->Prop):Prop:=
 match ts.toList with
 |[t,t']=>t=t'/\(match bM P t with
  |some e=>∃new,cy o y=some new/\0<P.cellsOf e/\(e7 P e).isSome=true/\(∀z∈new,z.cells.length=P.cellsOf e)/\(match x with
   | .b6=>new.length<=2^47/\new.length*P.bytesOf e<=2^47/\K (.osl fr 0) [(fr, .arr 0 e (P.cellsOf e) new)] y.ids
   | .iA es=>(∀z∈es,z.cells.length=P.cellsOf e)/\(if new=[]then K (.iA es) [] y.ids else es.length+new.length<=2^40/\(es.length+new.length)*P.bytesOf e<=2^40/\K (.osl fr 0) [(fr, .arr 0 e (P.cellsOf e) (es++new))] y.ids)
   | .osl id ep=>match o id with
     | .arr dB ty sz es=>ep=dB/\ty=e/\sz=P.cellsOf e/\es.length+new.length<=2^47/\(es.length+new.length)*P.bytesOf e<=2^47/\
      K (.osl id (ep+1)) [(id, .arr (ep+1) ty sz (es++new))] (id::y.ids)
     |_=>False
   |_=>False)
  |none=>False)
 |_=>False
def gJ(isMax:Bool)(args:List V)(K:V->Prop):Prop:=
 match args with
 |[.d (.int k a), .d (.int k' b)]=>k=k'/\K (.d (.int k (if isMax then(if b>a then b else a)else(if b<a then b else a))))
 |_=>False
def e8(o:Nat->aa)(x:V)(K:V->Prop):Prop:=
 match x with
 | .ptr id off=>(o id).aM=true/\K (.ptr id off)
 | .pp cs off=>K (.pp cs off)
 | .func (.func f) first cap=>K (.func (.func f) first cap)
 |_=>False
def eC(P:Program)(t:TypeId)(xs:List D)(off:Nat):Option D:=
 match ku P t with
 |some true=>if off+P.cellsOf t<=xs.length then some (.agg ((xs.drop off).take (P.cellsOf t)))else none
 |some false=>xs[off]?
 |none=>none
inductive D2 where
 |int|bool|str|struct (fs:List (TypeId×Nat))|arr (n:Nat) (e:TypeId)
def dn(P:Program)(t:TypeId):Option D2:=
 match P.underlying t with
 |some (.int _)=>some .int
 |some .bool=>some .bool
 |some .string=>some .str
 |some (.struct fs)=>if(!P.stoodInHeld t&&fs.toList.all (fun f=>f.name != "_"))=true then some (.struct (fs.toList.map fun f=>(f.type,f.offset)))else none
 |some (.array n e)=>if(P.info? e).isSome=true then some (.arr n e)else none
 |_=>none
def vq(a b:Option Bool):Option Bool:=
 match a,b with
 |some a,some b=>some (a&&b)
 |_,_=>none
def qW(f:TypeId->Nat->Option Bool):List (TypeId×Nat)->Option Bool
 |[]=>some true
 |x::l=>vq (f x.1 x.2) (qW f l)
def qX(f:Nat->Option Bool):Nat->Nat->Option Bool
 |0,_=>some true
 |n+1,i=>vq (f i) (qX f n (i+1))
def z6(f:D->D->Option Bool)(x y:Option D):Option Bool:=
 match x,y with
 |some x,some y=>f x y
 |_,_=>none
def mh(P:Program):Nat->TypeId->D->D->Option Bool
 |0,_,_,_=>none
 |d+1,t,x,y=>match dn P t with
  |some .int=>match x,y with| .int k a, .int k' b=>if k=k' then some (a==b)else none|_,_=>none
  |some .bool=>match x,y with| .bool a, .bool b=>some (a==b)|_,_=>none
  |some .str=>match x,y with| .str a, .str b=>some (a==b)|_,_=>none
  |some (.struct fs)=>match x,y with
   | .agg xs, .agg ys=>qW (fun u off=>z6 (mh P d u) (eC P u xs off) (eC P u ys off)) fs
   |_,_=>none
  |some (.arr n e)=>match x,y with
   | .agg xs, .agg ys=>qX (fun i=>z6 (mh P d e) (eC P e xs (i*P.cellsOf e)) (eC P e ys (i*P.cellsOf e))) n 0
   |_,_=>none
  |none=>none
abbrev dy:=V×List (Nat×aa)×List Nat
def ba(x:Option dy)(K:V->List (Nat×aa)->List Nat->Prop):Prop:=
 match x with
 |some (v,Δ,rd)=>K v Δ rd
 |none=>False
def rV(x:Option V)(D3:Nat):Option Nat:=
 match x with
 |none=>some D3
 |some (.d (.int _ i))=>if 0<=i then some i.toNat else none
 |_=>none
def hG(o:Nat->aa)(x:V):Option (Nat×Nat):=
 match x with
 | .ptr id off=>if(o id).aM=true then some (id,off)else none
 |_=>none
def hO(o:Nat->aa)(x:V):Option (Nat×Nat×Nat×List V):=
 match x with
 | .mg id off n=>match o id with
   | .row cs=>some (id,off,n,cs)
   |_=>none
 |_=>none
def p8(P:Program)(o:Nat->aa)(t:TypeId)(x:V)(lo hi mx:Option V):Option dy:=
 match x with
 | .b6=>match lo,hi,mx with
   |none,some (.d (.int _ k)),none=>match bM P t with
    |some e=>if k=0/\(P.info? e).isSome=true then some (.b6,[],[])else none
    |none=>none
   |_,_,_=>none
 | .osl id ep=>match lo,hi,mx with
   |none,some (.d (.int _ k)),none=>match bM P t,o id with
    |some e, .arr dB ty sz _=>if k=0/\ep=dB/\(P.info? e).isSome=true then some (.osl id (ep+1),[(id, .arr (ep+1) ty sz [])],[id])else none
    |_,_=>none
   |_,_,_=>none
 |_=>none
def iG(P:Program)(o:Nat->aa)(t:TypeId)(x:V)(lo hi mx:Option V):Option dy:=
 match bM P t with
 |some e=>match cy o x,rV lo 0 with
  |some es,some l=>match rV hi es.length with
   |some h=>if l<=h/\h<=es.length/\(P.info? e).isSome=true/\(l=0\/es.all (fun y=>y.cells.length==P.cellsOf e)=true)then match mx with
    |none=>some (.d (.sl ((es.take h).drop l)),bD o x.ids,x.ids)
    |some m=>match hi,rV (some m) 0 with
     |some _,some m=>if h<=m/\m<=es.length then some (if h=m then .iA ((es.take h).drop l)else .d (.sl ((es.take h).drop l)),bD o x.ids,x.ids)else none
     |_,_=>none
    else none
   |none=>none
  |_,_=>none
 |none=>match p7 P t,lo,hi,mx with
  |some (n,e),none,none,none=>match hG o x with
   |some (id,off)=>if(P.info? e).isSome=true then some (.mg id off n,[],[id])else none
   |none=>none
  |_,_,_,_=>none
def jA(P:Program)(o:Nat->aa)(t:TypeId)(x:V)(lo hi mx:Option V):Option dy:=
 match p8 P o t x lo hi mx with
 |some r=>some r
 |none=>iG P o t x lo hi mx
def mC(P:Program)(o:Nat->aa)(ts:Array TypeId)(x y:V):Option dy:=
 match ts.toList with
 |[t,_]=>match bM P t with
  |some e=>match hO o x,cy o y with
   |some (id,off,n,cs),some es=>if P.cellsOf e=1/\off+n<=cs.length/\es.all (fun z=>z.cells.length==1)=true/\y.ids.all (· !=id)=true then
    some (.d (.int .i64 ((min es.length n:Nat):Int)),bD o y.ids++[(id, .row (cs.take off++((es.take n).flatMap D.cells).map .d++cs.drop (off+(es.take n).length)))],id::y.ids)else none
   |_,_=>none
  |none=>none
 |_=>none
def nw(P:Program)(t:TypeId)(f:Nat):Option (Nat×TypeId):=
 match P.underlying t with
 |some (.struct fs)=>match fs[f]? with
  |some fd=>some (fd.offset,fd.type)
  |none=>none
 |_=>none
def lf(P:Program)(t:TypeId)(x:V)(f:Nat):Option V:=
 match nw P t f with
 |some (off,u)=>match x with
  | .d (.agg cs)=>(eC P u cs off).map .d
  | .agg cs=>cw P u cs off
  |_=>none
 |none=>none
def lg(P:Program)(t:TypeId)(x i:V):Option V:=
 match i with
 | .d (.int _ i)=>if 0<=i then match P.underlying t with
  |some .string=>match x with
   | .d (.str s)=>match s[i.toNat]? with
     |some b=>some (.d (.int .u8 b.toNat))
     |none=>none
   |_=>none
  |some (.array n e)=>if i<n/\(P.info? e).isSome=true then match x with
   | .d (.agg cs)=>(eC P e cs (i.toNat*P.cellsOf e)).map .d
   | .agg cs=>cw P e cs (i.toNat*P.cellsOf e)
   |_=>none
   else none
  |_=>none
   else none
 |_=>none
def p9(P:Program)(t:TypeId):Bool:=
 match P.underlying t with
 |some (.interface _)=>false
 |some _=>true
 |none=>false
def zeroV(P:Program)(t:TypeId):Option V:=
 match P.info? t with
 |some i=>match i.zero with
  |some (.agg a)=>if a.toList.all Value.oneCell'=true then some (iD (a.toList.map V.bw))else none
  |some v=>if v.oneCell'=true then some (V.bw v)else none
  |none=>none
 |none=>none
def iH(P:Program)(t:TypeId)(ok:Bool)(x:V):Option V:=
 if p9 P t=true then match x with
  | .d (.iface u y)=>if u=t then some (if ok=true then .a8 [.d y, .d (.bool true)]else .d y)
   else if ok=true then(zeroV P t).map fun z=> .a8 [z, .d (.bool false)]else none
  | .d .dx=>if ok=true then(zeroV P t).map fun z=> .a8 [z, .d (.bool false)]else none
  |_=>none
 else none
def oC(o:Nat->aa)(x:V):Option V:=
 match x with
 | .b6=>some (.d (.bool true))
 |x=>match cy o x with
  |some es=>some (if es=[]then .cM else .d (.bool false))
  |none=>none
def isConst:Operand->Bool
 | .const _=>true
 |_=>false
def vr:V->Option V
 | .d (.bool b)=>some (.d (.bool !b))
 | .cM=>some .cM
 |_=>none
def jB(o:Nat->aa)(x:V):Option V:=
 match x with
 | .d .eB=>some (.d (.bool true))
 | .d (.mp _ _)=>some (.d (.bool false))
 | .mp id=>match o id with| .map _ _ _=>some (.d (.bool false))| .dA _=>some (.d (.bool false))|_=>none
 |_=>none
def jC(o:Nat->aa)(x:V):Option V:=
 match x with
 | .d .fO=>some (.d (.bool true))
 | .ptr id _=>if(o id).aM=true then some (.d (.bool false))else none
 | .pp _ _=>some (.d (.bool false))
 |_=>none
def D4(P:Program)(a b:TypeId)(x y:D):Option Bool:=
 if a=b then(match P.info? a,P.underlying a with
  |some i,some (.int _)=>if i.comparable=true then(match x,y with
   | .int k m, .int k' n=>if k=k' then some (m==n)else none
   |_,_=>none)else none
  |_,_=>none)
 else some false
def yc(P:Program)(o:Nat->aa)(t:TypeId)(kx:Bool)(x y:V):Option V:=
 match P.underlying t with
 |some (.interface _)=>match x,y with
  | .d .dx, .d .dx=>if kx=true then some (.d (.bool true))else none
  | .d (.iface _ _), .d .dx| .iface _ _, .d .dx| .d .dx, .d (.iface _ _)| .d .dx, .iface _ _=>some (.d (.bool false))
  | .d (.iface a x), .d (.iface b y)=>(D4 P a b x y).map fun r=> .d (.bool r)
  |_,_=>none
 |some (.func _ _ _)=>match x,y with
  | .d .fl, .d .fl=>some (.d (.bool true))
  | .func _ _ _, .d .fl=>some (.d (.bool false))
  |_,_=>none
 |some (.map _ _)=>match y with
  | .d .eB=>jB o x
  |_=>none
 |some (.pointer _)=>match y with
  | .d .fO=>jC o x
  |_=>none
 |some (.slice _)=>match y with
  | .b6=>oC o x
  |_=>none
 |some (.struct _)|some (.array _ _)=>match x,y with
  | .d (.agg aO), .d (.agg bs)=>if P.eqGuardType P.depth t=false then(mh P 100 t (.agg aO) (.agg bs)).map fun r=> .d (.bool r)else none
  |_,_=>none
 |_=>none
def jD(P:Program)(o:Nat->aa)(op:BinOp)(t:TypeId)(kx:Bool)(x y:V):Option dy:=
 match op with
 | .eql=>(yc P o t kx x y).map fun v=>(v,[],[])
 | .neq=>((yc P o t kx x y).bind vr).map fun v=>(v,[],[])
 |_=>none
mutual
def D.same:D->D->Bool
 | .int k a, .int j b=>k==j&&a==b
 | .bool a, .bool b=>a==b
 | .str a, .str b=>a==b
 | .dx, .dx| .fO, .fO| .fl, .fl| .eB, .eB=>true
 | .agg aO, .agg bs=>D.cX aO bs
 | .sl aO, .sl bs=>D.cX aO bs
 | .iface t a, .iface u b=>t==u&&a.same b
 | .mp ks vs, .mp Jz Dy=>D.cX ks Jz&&D.cX vs Dy
 |_,_=>false
def D.cX:List D->List D->Bool
 |[],[]=>true
 |a::aO,b::bs=>a.same b&&D.cX aO bs
 |_,_=>false
end
def rW(P:Program)(t:TypeId):Option (TypeId×TypeId):=
 match P.underlying t with
 |some (.map k v)=>some (k,v)
 |_=>none
def mi(P:Program):Nat->TypeId->D->Bool
 |0,_,_=>false
 |d+1,t,x=>match dn P t with
  |some .int|some .bool|some .str=>true
  |some (.struct fs)=>match x with
   | .agg xs=>fs.all fun f=>match eC P f.1 xs f.2 with|some y=>mi P d f.1 y|none=>false
   |_=>false
  |some (.arr n e)=>match x with
   | .agg xs=>(List.range n).all fun i=>match eC P e xs (i*P.cellsOf e)with|some y=>mi P d e y|none=>false
   |_=>false
  |none=>false
def findD(P:Program)(kt:TypeId)(k:D):List (D×D)->Nat->Option (Option (Nat×D×D))
 |[],_=>some none
 |(k',x)::l,i=>match mh P 100 kt k k' with
  |some true=>some (some (i,k',x))
  |some false=>findD P kt k l (i+1)
  |none=>none
def jU:D->Bool
 | .int _ _| .bool _| .str _=>true
 |_=>false
def fT:D->Bool
 | .agg cs=>cs.all jU
 |x=>jU x
def lh(o:Nat->aa)(m:V):Option (Option (Nat×TypeId×TypeId)×List (D×D)):=
 match m with
 | .mp id=>match o id with
   | .map kt vt l=>some (some (id,kt,vt),l)
   |_=>none
 | .d .eB=>some (none,[])
 |_=>none
def mD(o:Nat->aa)(m:V):Option (List Nat×List (D×D)):=
 match m with
 | .mp id=>match o id with
   | .map _ _ l=>some ([id],l)
   | .dA l=>some ([id],l)
   |_=>none
 | .d .eB=>some ([],[])
 | .d (.mp ks vs)=>some ([],ks.zip vs)
 |_=>none
def iI(P:Program)(o:Nat->aa)(t:TypeId)(m k:V)(ok:Bool):Option dy:=
 match rW P t,cJ o k,mD o m with
 |some (kt,vt),some kd,some (rd,l)=>if k.ids=[]/\mi P 100 kt kd=true then match findD P kt kd l 0 with
  |some (some (_,_,x))=>some (if ok=true then .a8 [.d x, .d (.bool true)]else .d x,[],rd)
  |some none=>match zeroV P vt with
   |some z=>some (if ok=true then .a8 [z, .d (.bool false)]else z,[],rd)
   |none=>none
  |none=>none
  else none
 |_,_,_=>none
def eD(P:Program)(o:Nat->aa)(t:TypeId)(m k v:V):Option dy:=
 match rW P t,cJ o k,cJ o v,lh o m with
 |some (kt,_),some kd,some vd,some (some (id,vh,vi),l)=>if k.ids=[]/\mi P 100 kt kd=true/\fT kd=true/\v.ids.all (· !=id)=true then match findD P kt kd l 0 with
  |some (some (i,k',_))=>if k'.same kd=true then some (.a8 [],bD o v.ids++[(id, .map vh vi (l.set i (kd,vd)))],id::v.ids)else none
  |some none=>some (.a8 [],bD o v.ids++[(id, .map vh vi (l++[(kd,vd)]))],id::v.ids)
  |none=>none
  else none
 |_,_,_,_=>none
def iJ(P:Program)(fr:Nat)(t:TypeId):Option dy:=
 match rW P t with
 |some (kt,vt)=>some (.mp fr,[(fr, .map kt vt [])],[])
 |none=>none
def hS(P:Program)(o:Nat->aa)(fr:Nat)(t:TypeId)(x:V):Option dy:=
 match P.underlying t with
 |some .string=>match x with
  | .d (.str s)=>some (.ptr fr 0,[(fr, .ot s 0)],[])
  |_=>none
 |some (.map _ _)=>match x with
  | .d .eB=>some (.ptr fr 0,[(fr, .kX [] none)],[])
  | .d (.mp ks vs)=>some (.ptr fr 0,[(fr, .kX (ks.zip vs) none)],[])
  | .mp id=>match o id with
    | .map _ _ l=>some (.ptr fr 0,[(id, .dA l),(fr, .kX l none)],[id])
    | .dA l=>some (.ptr fr 0,[(fr, .kX l none)],[id])
    |_=>none
  |_=>none
 |_=>none
def iK(o:Nat->aa)(x:V)(str:Bool):Option dy:=
 match x with
 | .ptr id 0=>match o id with
   | .ot s pos=>if str=true then
    (if pos<s.length then some (.a8 [.d (.bool true), .d (.int .i64 pos), .d (.int .i32 (Utf8.decode ⟨⟨s⟩⟩ pos).1)],[(id, .ot s (pos+(Utf8.decode ⟨⟨s⟩⟩ pos).2))],[id])else some (.a8 [.d (.bool false)],[],[id]))
     else none
   |_=>none
 |_=>none
def iL(o:Nat->aa)(x:V):Option (Nat×List (D×D)):=
 match x with
 | .ptr id 0=>match o id with
   | .kX l _=>some (id,l)
   |_=>none
 |_=>none
def qY(id:Nat)(l:List (D×D))(K:V->List (Nat×aa)->List Nat->Prop):Prop:=
 (l=[]->K (.a8 [.d (.bool false)]) [] [id])/\∀i k x,l[i]? =some (k,x)->K (.a8 [.d (.bool true), .d k, .d x]) [(id, .kX (l.eraseIdx i) (some (k,x)))] [id]
def hU(o:Nat->aa)(x:V):Option dy:=
 match x with
 | .ptr id 0=>match o id with
   | .kX _ (some (k,x))=>some (.a8 [.d k, .d x],[],[id])
   |_=>none
 |_=>none
def iM(P:Program)(o:Nat->aa)(t:TypeId)(m k:V):Option dy:=
 match rW P t,cJ o k,lh o m with
 |some (kt,_),some kd,some (some (id,vh,vi),l)=>if k.ids=[]/\mi P 100 kt kd=true then match findD P kt kd l 0 with
  |some (some (i,_,_))=>some (.a8 [],[(id, .map vh vi (l.eraseIdx i))],[id])
  |some none=>some (.a8 [],[],[id])
  |none=>none
  else none
 |_,_,_=>none
def tc(x y z:V):Option V:=
 match x,y,z with
 | .d (.int k a), .d (.int k' b), .d (.int Hk c)=>if k=k'/\k=Hk then some (.d (.int k (if c>(if b>a then b else a)then c else(if b>a then b else a))))else none
 |_,_,_=>none
def vu(P:Program)(ts:Array TypeId)(x:V):Option dy:=
 match ts.toList with
 |[t]=>match bM P t with
  |some _=>match x with
   | .b6=>some (.d (.int .i64 0),[],[])
   |_=>none
  |none=>none
 |_=>none
def mE(P:Program)(fr:Nat)(ts:Array TypeId)(x y:V):Option dy:=
 match ts.toList with
 |[t,t']=>if t=t' then none else match bM P t with
  |some e=>match rU P t',x,y with
   |some _, .b6, .d (.int _ n)=>if 0<n/\0<P.cellsOf e/\n.toNat*P.bytesOf e<=2^40/\n.toNat<=2^40 then match oB P e with
    |some z=>some (.osl fr 0,[(fr, .arr 0 e (P.cellsOf e) (List.replicate n.toNat z))],[])
    |none=>none
    else none
   |_,_,_=>none
  |none=>none
 |_=>none
def lj(P:Program)(s:S)(fr:Nat)(b:Builtin)(args:List Operand)(ts:Array TypeId)(K:V->List (Nat×aa)->List Nat->Prop):Prop:=
 match b,args with
 | .len,[x]=>∃t,ts.toList=[t]/\ta P t s.o (s.ev x) fun v rd=>K v [] rd
 | .append,[x,y]=>ba (mE P fr ts (s.ev x) (s.ev y)) K\/iF P s.o fr ts (s.ev x) (s.ev y) K
 | .max,[x,y]=>gJ true [s.ev x,s.ev y] fun v=>K v [] []
 | .min,[x,y]=>gJ false [s.ev x,s.ev y] fun v=>K v [] []
 | .max,[x,y,z]=>ba ((tc (s.ev x) (s.ev y) (s.ev z)).map fun v=>(v,[],[])) K
 | .copy,[x,y]=>ba (mC P s.o ts (s.ev x) (s.ev y)) K
 | .delete,[x,y]=>∃t,ts.toList.head?=some t/\ba (iM P s.o t (s.ev x) (s.ev y)) K
 | .cap,[x]=>ba (vu P ts (s.ev x)) K
 |_,_=>False
def wX(P:Program)(s:S)(fr:Nat)(op:Op)(K:V->List (Nat×aa)->List Nat->Prop):Prop:=
 match op with
 | .move x| .assign x=>K (s.ev x) [] []
 | .pick c a b=>oz (s.ev c) (s.ev a) (s.ev b) fun v=>K v [] []
 | .alloc t=>∃cs,e7 P t=some cs/\K (.ptr fr 0) [(fr, .row cs)] []
 | .box _ x=>∃cs,(s.ev x).cells=some cs/\K (.ptr fr 0) [(fr, .row cs)] []
 | .build t parts=>∃z pl cs,e7 P t=some z/\iE P t=some pl/\jT pl z (parts.toList.map fun p=>(p.1,s.ev p.2))=some cs/\K (iD cs) [] []
 | .buildSlice t len parts=>dK P s.o fr t len (parts.toList.map fun p=>(p.1,s.ev p.2)) K
 | .load t x=>oA P s.o t (s.ev x) fun v rd=>K v [] rd
 | .store t x v=>lb P s.o t (s.ev x) (s.ev v) fun Δ rd=>K (.a8 []) Δ rd
 | .nilCheck x=>e8 s.o (s.ev x) fun v=>K v [] []
 | .binOp op t x y _=>s9 P op t (s.ev x) (s.ev y) (fun v=>K v [] [])\/ba (jD P s.o op t (isConst x||isConst y) (s.ev x) (s.ev y)) K
 | .unOp op _ x=>A3 op (s.ev x) (fun v=>K v [] [])\/(op= .not/\s.ev x= .cM/\K .cM [] [])
 | .convert u t x=>(P.underlying u).isSome=true/\(match rU P t,s.ev x with
   |some k, .d (.int _ n)=>K (.d (.int k (k.wrap n))) [] []
   |_,_=>False)
 | .makeInterface t x=>(∃d,P.underlying t=some d/\(match d with| .interface _=>false|_=>true)=true)/\(match s.ev x with
   | .d y=>K (.d (.iface t y)) [] []
   |v=>K (.iface t v) [] [])
 | .makeFunc fn first cap=>K (.func fn (first.toList.map s.ev) (cap.toList.map s.ev)) [] []
 | .makeSlice t l c=>eg P fr t (s.ev l) (s.ev c) fun v Δ=>K v Δ []
 | .fieldAddr t x f=>ef P s.o t (s.ev x) f fun v=>K v [] []
 | .indexAddr t x i=>ee P s.o t (s.ev x) (s.ev i) fun v rd=>K v [] rd
 | .extract x i=>match s.ev x with
   | .a8 vs=>∃v,vs[i]? =some v/\K v [] []
   |_=>False
 | .slice t x lo hi mx=>ba (jA P s.o t (s.ev x) (lo.map s.ev) (hi.map s.ev) (mx.map s.ev)) K
 | .field t x f=>ba ((lf P t (s.ev x) f).map fun v=>(v,[],[])) K
 | .index t x i=>ba ((lg P t (s.ev x) (s.ev i)).map fun v=>(v,[],[])) K
 | .makeMap t none=>ba (iJ P fr t) K
 | .lookup t m k ok=>ba (iI P s.o t (s.ev m) (s.ev k) ok) K
 | .mapUpdate t m k v=>ba (eD P s.o t (s.ev m) (s.ev k) (s.ev v)) K
 | .insert t m k v=>ba (eD P s.o t (s.ev m) (s.ev k) (s.ev v)) K
 | .range t x=>ba (hS P s.o fr t (s.ev x)) K
 | .next x str=>ba (iK s.o (s.ev x) str) K\/(str=false/\∃id l,iL s.o (s.ev x)=some (id,l)/\qY id l K)
 | .entry x=>ba (hU s.o (s.ev x)) K
 | .typeAssert x _ t ok=>ba ((iH P t ok (s.ev x)).map fun v=>(v,[],[])) K
 | .call c=>match c.callee with
   | .builtin b=>lj P s fr b c.args.toList c.argTypes K
   |_=>False
 |_=>False
end Go.Proofs.YtbmnikpknlkbkaaGreat
namespace Go.Proofs.YtbmnikpknlkbkaaGreat
section
variable {B:Nat->Prop}{φ:Place}{H:Hp}{w:World}
theorem V.ag:∀ (cs:List V) (vs:List Value),V.aj B φ H w cs vs->vs.length=cs.length
 |[],_,h=>by simp[V.aj]at h;simp[h]
 |c::cs,_,h=>by obtain⟨u,us,rfl,_,h2⟩:=h;simp[V.ag cs us h2]
theorem V.b7:∀ (cs:List V) (vs:List Value) (i:Nat) (c:V),V.aj B φ H w cs vs->cs[i]? =some c->∃v,vs[i]? =some v/\V.den B φ H w c v
 |[],_,_,_,_,hd=>by simp at hd
 |c::cs,_,0,x,h,hd=>by
  obtain⟨u,us,rfl,h1,_⟩:=h
  simp at hd;subst hd;exact⟨u,by simp,h1⟩
 |c::cs,_,i+1,x,h,hd=>by
  obtain⟨u,us,rfl,_,h2⟩:=h
  simpa using V.b7 cs us i x h2 (by simpa using hd)
theorem V.aA:∀ (cs ds:List V) (us vs:List Value),V.aj B φ H w cs us->V.aj B φ H w ds vs->V.aj B φ H w (cs++ds) (us++vs)
 |[],ds,us,vs,h,k=>by simp[V.aj]at h;subst h;simpa using k
 |c::cs,ds,_,vs,h,k=>by
  obtain⟨u,us,rfl,h1,h2⟩:=h
  exact⟨u,us++vs,by simp,h1,V.aA cs ds us vs h2 k⟩
theorem V.bN:∀ (n:Nat) (cs:List V) (vs:List Value),V.aj B φ H w cs vs->V.aj B φ H w (cs.take n) (vs.take n)
 |0,_,_,_=>by simp[V.aj]
 |n+1,[],_,h=>by simp[V.aj]at h;subst h;simp[V.aj]
 |n+1,c::cs,_,h=>by
  obtain⟨u,us,rfl,h1,h2⟩:=h
  exact⟨u,us.take n,by simp,h1,V.bN n cs us h2⟩
theorem V.cc:∀ (n:Nat) (cs:List V) (vs:List Value),V.aj B φ H w cs vs->V.aj B φ H w (cs.drop n) (vs.drop n)
 |0,_,_,h=>by simpa using h
 |n+1,[],_,h=>by simp[V.aj]at h;subst h;simp[V.aj]
 |n+1,c::cs,_,h=>by
  obtain⟨u,us,rfl,h1,h2⟩:=h
  simpa using V.cc n cs us h2
theorem V.aV:∀ (ds:List D) (vs:List Value),V.aj B φ H w (ds.map .d) vs↔D.aj B w ds vs
 |[],vs=>by simp[V.aj,D.aj]
 |x::ds,vs=>by simp only[List.map_cons,V.aj,D.aj,V.den,V.aV ds]
theorem D.aA:∀ (cs ds:List D) (us vs:List Value),D.aj B w cs us->D.aj B w ds vs->D.aj B w (cs++ds) (us++vs)
 |[],ds,us,vs,h,k=>by simp[D.aj]at h;subst h;simpa using k
 |c::cs,ds,_,vs,h,k=>by
  obtain⟨u,us,rfl,h1,h2⟩:=h
  exact⟨u,us++vs,by simp,h1,D.aA cs ds us vs h2 k⟩
theorem D.bN:∀ (n:Nat) (cs:List D) (vs:List Value),D.aj B w cs vs->D.aj B w (cs.take n) (vs.take n)
 |0,_,_,_=>by simp[D.aj]
 |n+1,[],_,h=>by simp[D.aj]at h;subst h;simp[D.aj]
 |n+1,c::cs,_,h=>by
  obtain⟨u,us,rfl,h1,h2⟩:=h
  exact⟨u,us.take n,by simp,h1,D.bN n cs us h2⟩
theorem D.cc:∀ (n:Nat) (cs:List D) (vs:List Value),D.aj B w cs vs->D.aj B w (cs.drop n) (vs.drop n)
 |0,_,_,h=>by simpa using h
 |n+1,[],_,h=>by simp[D.aj]at h;subst h;simp[D.aj]
 |n+1,c::cs,_,h=>by
  obtain⟨u,us,rfl,h1,h2⟩:=h
  simpa using D.cc n cs us h2
theorem D.oD:∀ (i:Nat) (ds:List D) (vs:List Value) (x:D) (v:Value),D.aj B w ds vs->D.den B w x v->D.aj B w (ds.set i x) (vs.set i v)
 |_,[],_,_,_,h,_=>by simp[D.aj]at h;subst h;simp[D.aj]
 |0,c::cs,_,x,v,h,k=>by
  obtain⟨u,us,rfl,h1,h2⟩:=h
  exact⟨v,us,by simp,k,h2⟩
 |i+1,c::cs,_,x,v,h,k=>by
  obtain⟨u,us,rfl,h1,h2⟩:=h
  exact⟨u,us.set i v,by simp,h1,D.oD i cs us x v h2 k⟩
theorem mF:∀ (cs:List V) (ds:List D),p6 cs=some ds->cs=ds.map .d
 |[],ds,h=>by simp[p6]at h;subst h;rfl
 | .d x::cs,ds,h=>by
   simp only[p6,Option.map_eq_some_iff]at h
   obtain⟨a,h1,rfl⟩:=h
   simp[mF cs a h1]
 | .b6::_,_,h| .agg _::_,_,h| .a8 _::_,_,h| .ptr _ _::_,_,h| .osl _ _::_,_,h| .pe _ _ _ _ _::_,_,h| .pp _ _::_,_,h
 | .func _ _ _::_,_,h| .iface _ _::_,_,h| .bL::_,_,h| .iA _::_,_,h| .mg _ _ _::_,_,h| .mp _::_,_,h| .cM::_,_,h=>by simp[p6]at h
theorem e9(cs:List V)(a:Array Value)(h:V.aj B φ H w cs a.toList)(hf:Flat a.toList):V.den B φ H w (iD cs) (.agg a):=by
 unfold iD
 split
 ·rename_i ds hd
  have:=mF cs ds hd
  subst this
  exact⟨a,rfl,(V.aV ds _).1 h,hf⟩
 ·exact⟨a,rfl,h,hf⟩
theorem D.gK:∀ (x:D) (v:Value),D.den B w x v->(∃cs a,x= .agg cs/\v= .agg a)\/v.oneCell'=true/\x.cells=[x]/\v.cells=#[v]
 | .int _ _,_,h| .bool _,_,h| .dx,_,h| .fO,_,h| .fl,_,h| .eB,_,h=>by
   simp only[D.den]at h;subst h;exact .inr ⟨rfl,rfl,rfl⟩
 | .str l,_,h=>by obtain⟨s,rfl,_⟩:=h;exact .inr ⟨rfl,rfl,rfl⟩
 | .agg cs,_,h=>by obtain⟨a,rfl,_,_⟩:=h;exact .inl ⟨cs,a,rfl,rfl⟩
 | .sl es,_,h=>by obtain⟨b,l,c,rfl,_⟩:=h;exact .inr ⟨rfl,rfl,rfl⟩
 | .iface t x,_,h=>by obtain⟨u,rfl,_⟩:=h;exact .inr ⟨rfl,rfl,rfl⟩
 | .mp ks vs,_,h=>by obtain⟨m,es,c,p,rfl,_⟩:=h;exact .inr ⟨rfl,rfl,rfl⟩
theorem D.cE (x:D)(v:Value)(h:D.den B w x v):D.aj B w x.cells v.cells.toList/\Flat v.cells.toList:=by
 rcases D.gK x v h with⟨cs,a,rfl,rfl⟩|⟨h1,h2,h3⟩
 ·obtain⟨a',h1,h2,h3⟩:=h
  injection h1 with h1;subst h1
  exact⟨h2,h3⟩
 ·rw[h2,h3]
  exact⟨⟨v,[],rfl,h,rfl⟩,by intro u hu;simp at hu;subst hu;exact h1⟩
theorem V.gK (x:V)(v:Value)(us:List V)(hx:x.cells=some us)(h:V.den B φ H w x v):V.aj B φ H w us v.cells.toList/\Flat v.cells.toList:=by
 have one:∀ (y:V),v.oneCell'=true->V.den B φ H w y v->V.aj B φ H w [y] v.cells.toList/\Flat v.cells.toList:=by
  intro y h1 h2
  have h3:v.cells=#[v]:=by cases v<;>simp_all[Value.oneCell',Value.cells]
  rw[h3]
  exact⟨⟨v,[],rfl,h2,rfl⟩,by intro u hu;simp at hu;subst hu;exact h1⟩
 cases x with
 |d x=>
  simp only[V.cells,Option.some.injEq]at hx;subst hx
  have:=D.cE x v h
  exact⟨(V.aV _ _).2 this.1,this.2⟩
 |b6=>simp only[V.cells,Option.some.injEq]at hx;subst hx;exact one _ (by cases h;rfl) h
 |agg cs=>
  simp only[V.cells,Option.some.injEq]at hx;subst hx
  obtain⟨a,rfl,h1,h2⟩:=h
  exact⟨h1,h2⟩
 |a8 vs=>simp[V.cells]at hx
 |bL=>simp[V.cells]at hx
 |ptr id off=>simp only[V.cells,Option.some.injEq]at hx;subst hx;exact one _ h.1 h
 |osl id ep=>simp only[V.cells,Option.some.injEq]at hx;subst hx;exact one _ h.1 h
 |pe id ep i sz off=>simp only[V.cells,Option.some.injEq]at hx;subst hx;exact one _ h.1 h
 |pp cs off=>simp only[V.cells,Option.some.injEq]at hx;subst hx;exact one _ (by obtain⟨a,ev,_,rfl,_⟩:=h;rfl) h
 |func fn f c=>simp only[V.cells,Option.some.injEq]at hx;subst hx;exact one _ (by obtain⟨a,ev,rfl,_⟩:=h;rfl) h
 |iface t y=>simp only[V.cells,Option.some.injEq]at hx;subst hx;exact one _ (by obtain⟨a,rfl,_⟩:=h;rfl) h
 |iA es=>simp only[V.cells,Option.some.injEq]at hx;subst hx;exact one _ (by obtain⟨_,b,n,rfl⟩:=h;rfl) h
 |mg id off n=>simp only[V.cells,Option.some.injEq]at hx;subst hx;exact one _ h.1 h
 |mp id=>simp only[V.cells,Option.some.injEq]at hx;subst hx;exact one _ h.1 h
 |g8 id=>simp only[V.cells,Option.some.injEq]at hx;subst hx;exact one _ h.1 h
 |cM=>simp only[V.cells,Option.some.injEq]at hx;subst hx;exact one _ (by obtain⟨a,rfl⟩:=h;rfl) h
theorem fm(v:Value)(h:v.oneCell'=true):V.den B φ H w (V.bw v) v:=by
 cases v<;>simp_all only[Value.oneCell',V.bw,V.den,D.den]<;>try trivial
 all_goals (try (split<;>simp_all[V.den,D.den]))
 all_goals (try first|(simp_all[D.den];done)|simp_all)
theorem bO:∀ (vs:List Value),Flat vs->V.aj B φ H w (vs.map V.bw) vs
 |[],_=>rfl
 |v::vs,h=>⟨v,vs,rfl,fm v (h v (by simp)),bO vs fun u hu=>h u (by simp[hu])⟩
end
end Go.Proofs.YtbmnikpknlkbkaaGreat
namespace Go.Proofs.YtbmnikpknlkbkaaGreat
theorem gL(H:Hp):H.put []=H:=by
 obtain⟨o,us⟩:=H
 simp[Hp.put,put]
theorem bV(H:Hp)(A C:List (Nat×aa)):H.put (A++C)=(H.put A).put C:=by
 obtain⟨o,us⟩:=H
 simp only[Hp.put,put,List.foldl_append,Hp.mk.injEq,true_and]
 funext id
 simp only[List.map_append,List.mem_append,eq_iff_iff]
 exact⟨fun h=>by rcases h with h|h|h<;>simp[h],fun h=>by rcases h with(h|h)|h<;>simp[h]⟩
@[simp] theorem aE (H:Hp) (i:Nat) (x:aa):(H.put [(i,x)]).o=cN H.o i x:=rfl
@[simp] theorem bW (H:Hp) (i j:Nat) (x:aa):(H.put [(i,x)]).us j↔(H.us j\/j=i):=by simp[Hp.put]
section
variable {M:Nat->Prop}{φ ai:Place}{H H':Hp}{w w':World}
theorem au.oE (ou:∀b,aS w b-> ¬ad M φ H b->w'.heap[b]? =w.heap[b]? /\ ¬ad M ai H' b)(Hl:bU φ H ai H'){id:Nat}(ho:H'.o id=H.o id)(bG:ai id=φ id)
 (hb:(H.o id).live=true->∀b,cI (φ id)=some b->w'.heap[b]? =w.heap[b]?) (h:au M φ H w id):au M ai H' w' id:=by
 unfold au at*
 rw[ho]
 cases hx:H.o id with
 |no=>trivial
 |row cs=>
  simp only[hx]at h|-
  obtain⟨b,cg,ty,h1,h2,h3,h4⟩:=h
  exact⟨b,cg,ty,bG.trans h1,(hb (by rw[hx];rfl) b (by rw[h1];rfl)).trans h2,V.cS ou Hl cs _ h3,h4⟩
 |arr ep ty sz es=>
  simp only[hx]at h|-
  obtain⟨h0,xs,h1,evs,h2,h3,h4⟩:=h
  refine⟨h0,xs, ?_,evs,h2,h3,D.aw ou es evs h4⟩
  rw[bG]
  obtain⟨g1,g2⟩:=h1
  refine⟨g1, ?_⟩
  rcases g2 with g2|⟨g,cap,cur,k1,k2,k3,k4⟩
  ·exact .inl g2
  ·exact .inr ⟨g,cap,cur,k1,k2,(hb (by rw[hx];rfl) g (by rw[k1];rfl)).trans k3,k4⟩
 |ko ep es=>
  simp only[hx]at h|-
  rw[bG]
  exact D.aq ou (.sl es) _ h
 |map kt vt l=>
  simp only[hx]at h|-
  obtain⟨b,es,clock,h1,h2,h4,h3⟩:=h
  exact⟨b,es,clock,bG.trans h1,(hb (by rw[hx];rfl) b (by rw[h1];rfl)).trans h2,h4,ao.mono ou l _ h3⟩
 |dA l=>
  simp only[hx]at h|-
  rw[bG]
  exact D.aq ou (.mp _ _) _ h
 |kX l last=>
  simp only[hx]at h|-
  obtain⟨b,h1,h2⟩:=h
  exact⟨b,bG.trans h1,h2.mono ou (hb (by rw[hx];rfl) b (by rw[h1];rfl))⟩
 |ot s pos=>
  simp only[hx]at h|-
  obtain⟨b,h1,h2⟩:=h
  exact⟨b,bG.trans h1,(hb (by rw[hx];rfl) b (by rw[h1];rfl)).trans h2⟩
 |loop nf n env ps iB fL st rT=>
  simp only[hx]at h|-
  obtain⟨b,r,h1,h2,h0,h3,h4,h5,h6,h7,h8,h9⟩:=h
  exact⟨b,r,bG.trans h1,(hb (by rw[hx];rfl) b (by rw[h1];rfl)).trans h2,h0,h3,h4,h5,h6,h7,h8,fun i=>V.eZ ou Hl _ _ (h9 i)⟩
theorem au.mono (ht:Trans φ H w ai H' w'){id:Nat}(ho:H'.o id=H.o id)(bG:ai id=φ id)
 (hb:(H.o id).live=true->∀b,cI (φ id)=some b->w'.heap[b]? =w.heap[b]?) (h:au M φ H w id):au M ai H' w' id:=au.oE ht.blocks ht.rel ho bG hb h
theorem af.of (hH:af M φ H w)(ht:Trans φ H w ai H' w')(T:Nat->Prop)(hT:∀id,T id->au M ai H' w' id)
 (hn:∀id, ¬T id->H'.o id=H.o id/\ai id=φ id/\((H.o id).live=true->∀b,cI (φ id)=some b->w'.heap[b]? =w.heap[b]?))
 (eh:∀id, ¬H'.us id->H'.o id= .no)
 (JA:∀i j b,(H'.o i).live=true->(H'.o j).live=true->cI (ai i)=some b->cI (ai j)=some b->i=j)
 (A4:∀b,bc ai H' b->b<w'.heap.size):af M ai H' w' where
 ok id:=by
  by_cases hc:T id
  ·exact hT id hc
  ·obtain⟨h1,h2,h3⟩:=hn id hc
   exact(hH.ok id).mono ht h1 h2 h3
 fresh:=eh
 apart:=JA
 ours b hb:=by
  refine⟨fun hM=> ?_,A4 b hb⟩
  rcases ht.grow b hb with h1|h1
  ·exact(hH.ours b h1).1 hM
  ·have:=hH.oy b hM;omega
 oy b hM:=Nat.lt_of_lt_of_le (hH.oy b hM) ht.aU.size
theorem cF(hk:cp (fun _=>False) w w'){fr:Nat}(cz: ¬H.us fr)(obj:aa)(val:Value)(dP:∀b,cI val=some b->w.heap.size<=b):
 Trans φ H w (cN φ fr val) (H.put [(fr,obj)]) w' where
 aU:=⟨hk.os,hk.tape,hk.output,hk.size,fun k h _=>hk.block k h (fun h=>h)⟩
 grow b:=by
  rintro⟨id,h1,h2⟩
  by_cases ah:id=fr
  ·subst ah;simp at h2;exact .inr (dP b h2)
  ·simp[ah]at h1 h2;exact .inl ⟨id,h1,h2⟩
 rel:={
  us:=fun id h=>by simp[h]
  row:=fun id hu hr=>by
   have ah:id≠fr:=fun h=>cz (h ▸ hu)
   simp[ah]at hr|-;exact hr
  ep:=fun id e' hu he=>by
   have ah:id≠fr:=fun h=>cz (h ▸ hu)
   simp[ah]at he|-;exact⟨e',he,Nat.le_refl _⟩}
theorem ei(hH:af M φ H w)(hk:cp (fun _=>False) w w'){fr:Nat}(cz: ¬H.us fr)(obj:aa)(val:Value)(dP:∀b,cI val=some b->w.heap.size<=b/\b<w'.heap.size)
 (lk:au M (cN φ fr val) (H.put [(fr,obj)]) w' fr):af M (cN φ fr val) (H.put [(fr,obj)]) w':=by
 have ht:Trans φ H w (cN φ fr val) (H.put [(fr,obj)]) w':=cF hk cz obj val fun b hb=>(dP b hb).1
 refine hH.of ht (· =fr) (fun id h=>h ▸ lk) (fun id h=> ?_) (fun id h=> ?_) (fun i j b hi hj bi bj=> ?_) (fun b=> ?_)
 ·refine⟨by simp[h],by simp[h],fun hl b hb=>hk.block b ?_ (fun h=>h)⟩
  exact(hH.ours b ⟨id,hl,hb⟩).2
 ·rw[bW]at h
  have h1:id≠fr:=fun e=>h (.inr e)
  simp only[aE,ak,h1,if_false]
  exact hH.fresh id fun hu=>h (.inl hu)
 ·by_cases e1:i=fr<;>by_cases e2:j=fr
  ·exact e1.trans e2.symm
  ·simp[e1,e2]at hi hj bi bj
   have:=(hH.ours b ⟨j,hj,bj⟩).2;have:=(dP b bi).1;omega
  ·simp[e1,e2]at hi hj bi bj
   have:=(hH.ours b ⟨i,hi,bi⟩).2;have:=(dP b bj).1;omega
  ·simp[e1,e2]at hi hj bi bj
   exact hH.apart i j b hi hj bi bj
 ·rintro⟨id,h1,h2⟩
  by_cases ah:id=fr
  ·subst ah;simp at h2;exact(dP b h2).2
  ·simp[ah]at h1 h2
   exact Nat.lt_of_lt_of_le (hH.ours b ⟨id,h1,h2⟩).2 hk.size
theorem bd(w:World)(o:Obj):cp (fun _=>False) w (w.alloc o):=
 ⟨rfl,rfl,rfl,by simp,fun k hk _=>RowKit.Below.heap_alloc w o k hk⟩
theorem fq{w w':World}(h:w.grownBy w' none):cp (fun _=>False) w w':=
 ⟨h.os,h.tape,h.output,h.size,fun k hk _=>h.block k hk (by simp)⟩
theorem vw(hH:af M φ H w){fr:Nat}(cz: ¬H.us fr)(cs:List V)(cg:Array Value)(ty:TypeId)(hd:V.aj (ad M φ H) φ H w cs cg.toList)(hf:Flat cg.toList):
 let ai:=cN φ fr (.pointer (some ⟨w.heap.size,0,none⟩));let H':=H.put [(fr, .row cs)];let w':=w.alloc (.cells cg ty)
 af M ai H' w'/\Trans φ H w ai H' w'/\V.den (ad M ai H') ai H' w' (.ptr fr 0) (.pointer (some ⟨w.heap.size,0,none⟩)):=by
 intro ai H' w'
 have hv:∀b,cI (.pointer (some ⟨w.heap.size,0,none⟩))=some b->w.heap.size<=b/\b<w'.heap.size:=by
  intro b hb;simp[cI]at hb;subst hb;simp[w']
 have ht:Trans φ H w ai H' w':=cF (bd w _) cz _ _ fun b hb=>(hv b hb).1
 refine⟨ei hH (bd w _) cz _ _ hv ?_,ht,rfl,by simp[H'],fun _=>⟨w.heap.size,by simp[ai],rfl⟩⟩
 unfold au
 simp only[aE,ak,if_true]
 exact⟨w.heap.size,cg,ty,rfl,heap_alloc_new w _,V.aw ht cs _ hd,hf⟩
theorem cT{id:Nat}(b5:H.us id){b:Nat}(bP:(H.o id).live=true)(hb:cI (φ id)=some b)(hk:cp (· =b) w w')(obj:aa)(aL:obj.aM=(H.o id).aM)(ny:obj.aN=(H.o id).aN):
 Trans φ H w φ (H.put [(id,obj)]) w' where
 aU:=⟨hk.os,hk.tape,hk.output,hk.size,fun k h hl=>hk.block k h (fun e=>hl ⟨id,bP,e ▸ hb⟩)⟩
 grow b':=by
  rintro⟨j,h1,h2⟩
  by_cases hj:j=id
  ·subst hj;exact .inl ⟨j,bP,h2⟩
  ·simp[hj]at h1;exact .inl ⟨j,h1,h2⟩
 rel:={
  us:=fun j h=>by simp[h]
  row:=fun j hu hr=>by
   by_cases hj:j=id
   ·subst hj;simp at hr;exact⟨aL ▸ hr,rfl⟩
   ·simp[hj]at hr;exact⟨hr,rfl⟩
  ep:=fun j e' hu he=>by
   by_cases hj:j=id
   ·subst hj;simp at he;exact⟨e',ny ▸ he,Nat.le_refl _,fun _=>rfl⟩
   ·simp[hj]at he;exact⟨e',he,Nat.le_refl _,fun _=>rfl⟩}
theorem dZ(hH:af M φ H w){id:Nat}(b5:H.us id){b:Nat}(bP:(H.o id).live=true)(hb:cI (φ id)=some b)(hk:cp (· =b) w w')(obj:aa)(aL:obj.aM=(H.o id).aM)
 (ny:obj.aN=(H.o id).aN) (lk:au M φ (H.put [(id,obj)]) w' id):af M φ (H.put [(id,obj)]) w':=by
 refine hH.of (cT b5 bP hb hk obj aL ny) (· =id) (fun j h=>h ▸ lk) (fun j h=> ?_) (fun j h=> ?_) (fun i j b' hi hj bi bj=> ?_) (fun b'=> ?_)
 ·refine⟨by simp[h],rfl,fun hl b' Dz=>hk.block b' (hH.ours b' ⟨j,hl,Dz⟩).2 fun e=>h ?_⟩
  exact hH.apart j id b hl bP (e ▸ Dz) hb
 ·rw[bW]at h
  have h1:j≠id:=fun e=>h (.inr e)
  simp only[aE,ak,h1,if_false]
  exact hH.fresh j fun hu=>h (.inl hu)
 ·refine hH.apart i j b' ?_ ?_ bi bj
  ·by_cases e:i=id
   ·subst e;exact bP
   ·simpa[e]using hi
  ·by_cases e:j=id
   ·subst e;exact bP
   ·simpa[e]using hj
 ·rintro⟨j,h1,h2⟩
  refine Nat.lt_of_lt_of_le (hH.ours b' ⟨j, ?_,h2⟩).2 hk.size
  by_cases e:j=id
  ·subst e;exact bP
  ·simpa[e]using h1
theorem eE(w:World)(b:Nat)(cs:Array Value):cp (· =b) w (w.setRow b cs):=
 ⟨rfl,rfl,rfl,by simp,fun k _ hk=>by
  unfold World.setRow
  simp only[Array.getElem?_modify]
  rw[if_neg (fun e=>hk e.symm)]⟩
theorem oF(hH:af M φ H w){id b:Nat}(b5:H.us id){cs cs':List V}(ho:H.o id= .row cs)(bG:φ id= .pointer (some ⟨b,0,none⟩)){cg:Array Value}{ty:TypeId}
 (hb:w.heap[b]? =some (.cells cg ty (0,0))) (iN:Array Value) (hd:V.aj (ad M φ H) φ H w cs' iN.toList) (hf:Flat iN.toList):
 af M φ (H.put [(id, .row cs')]) (w.setRow b iN)/\Trans φ H w φ (H.put [(id, .row cs')]) (w.setRow b iN):=by
 have hl:(H.o id).live=true:=by rw[ho];rfl
 have ou:cI (φ id)=some b:=by rw[bG];rfl
 have ht:Trans φ H w φ (H.put [(id, .row cs')]) (w.setRow b iN):=cT b5 hl ou (eE w b iN) _ (by rw[ho];rfl) (by rw[ho];rfl)
 refine⟨dZ hH b5 hl ou (eE w b iN) _ (by rw[ho];rfl) (by rw[ho];rfl) ?_,ht⟩
 unfold au
 simp only[aE,ak,if_true]
 exact⟨b,iN,ty,bG,setRow_heap w b cg iN ty (0,0) hb,V.aw ht cs' _ hd,hf⟩
theorem iO{B:Nat->Prop}{sz g:Nat}(cur:Array Value)(ty:TypeId)(fz:Nat×Nat)(hg:w.heap[g]? =some (.cells cur ty fz))(hB: ¬B g):
 ∀ (es:List D) (evs:List Value) (i:Nat),D.aj B w es evs->(∀ev∈evs,ev.cells.size=sz)->(∀j u,(evs.flatMap (·.cells.toList))[j]? =some u->cur[i*sz+j]? =some u)->D.elems B w sz ⟨g,0,none⟩ i es
 |[],_,_,_,_,_=>trivial
 |e::es,_,i,h,hs,hc=>by
  obtain⟨ev,evs,rfl,h1,h2⟩:=h
  have cl:ev.cells.size=sz:=hs ev (by simp)
  refine⟨⟨ev,cl,fun j u hj=> ?_,h1⟩,iO cur ty fz hg hB es evs (i+1) h2 (fun x hx=>hs x (by simp[hx])) fun j u hj=> ?_⟩
  ·have cu:j<ev.cells.size:=(Array.getElem?_eq_some_iff.1 hj).1
   have:cur[i*sz+j]? =some u:=hc j u (by
    rw[List.flatMap_cons,List.getElem?_append_left (by simpa using cu)];simpa using hj)
   refine⟨?_,by simpa using hB⟩
   unfold Addr.add World.cell?
   by_cases e1:i*sz=0<;>by_cases e2:j=0<;>simp_all
  ·have:=hc (sz+j) u (by
    rw[List.flatMap_cons,List.getElem?_append_right (by simp[cl])]
    simpa[cl]using hj)
   rw[show(i+1)*sz+j=i*sz+(sz+j) by rw[Nat.add_mul];omega]
   exact this
theorem vx(hH:af M φ H w){id ep sz:Nat}{ty:TypeId}{es:List D}(b5:H.us id)(ho:H.o id= .arr ep ty sz es):
 af M φ (H.put [(id, .ko ep es)]) w/\Trans φ H w φ (H.put [(id, .ko ep es)]) w:=by
 have yd:∀b,bc φ (H.put [(id, .ko ep es)]) b->bc φ H b:=by
  rintro b ⟨j,h1,h2⟩
  by_cases hj:j=id
  ·subst hj;simp[aa.live]at h1
  ·simp[hj]at h1;exact⟨j,h1,h2⟩
 have ht:Trans φ H w φ (H.put [(id, .ko ep es)]) w:={
  aU:=cp.refl _ _
  grow:=fun b hb=> .inl (yd b hb)
  rel:={
   us:=fun j h=>by simp[h]
   row:=fun j hu hr=>by
    by_cases hj:j=id
    ·subst hj;simp[aa.aM]at hr
    ·simp[hj]at hr;exact⟨hr,rfl⟩
   ep:=fun j e' hu he=>by
    by_cases hj:j=id
    ·subst hj;simp[aa.aN]at he;subst he;exact⟨ep,by rw[ho];rfl,Nat.le_refl _,fun _=>rfl⟩
    ·simp[hj]at he;exact⟨e',he,Nat.le_refl _,fun _=>rfl⟩}}
 refine⟨hH.of ht (· =id) (fun j h=> ?_) (fun j h=>⟨by simp[h],rfl,fun _ _ _=>rfl⟩) (fun j h=> ?_) (fun i j b hi hj bi bj=> ?_) (fun b hb=>(hH.ours b (yd b hb)).2),ht⟩
 ·subst h
  have aG:=hH.ok j
  unfold au at aG|-
  simp only[ho,aE,ak,if_true]at aG|-
  obtain⟨h0,xs,⟨hl,aL⟩,evs,rfl,h2,h3⟩:=aG
  have hlen:=D.ag _ _ h3
  rcases aL with⟨h4,h5⟩|⟨g,cap,cur,h4,_,h5,h6,h7,h8,h9⟩
  ·rw[h4]
   have:es=[]:=by simpa using h5
   subst this
   exact⟨none,0,0,rfl,rfl,Nat.le_refl _,fun _=>rfl,0,fun a ha=>by cases ha⟩
  ·rw[h4]
   refine⟨some ⟨g,0,none⟩,es.length,cap,rfl,rfl,h6,(fun h=>by cases h),sz,fun a ha=> ?_⟩
   injection ha with ha;subst ha
   refine⟨fun _=>rfl,iO cur ty (0,0) h5 ?_ es evs 0 (D.aw (ht.blocks (M:=M)) es evs h3) h2 fun j' u sW=> ?_⟩
   ·rintro(hM|⟨i,vy,te⟩)
    ·exact(hH.ours g ⟨j,by rw[ho];rfl,by rw[h4];rfl⟩).1 hM
    ·by_cases e:i=j
     ·subst e;simp[aa.live]at vy
     ·simp[e]at vy
      exact e (hH.apart i j g vy (by rw[ho];rfl) te (by rw[h4];rfl))
   ·rw[<- h9]at sW
    simp only[Nat.zero_mul,Nat.zero_add]
    rw[List.getElem?_take]at sW
    split at sW
    ·simpa using sW
    ·cases sW
 ·rw[bW]at h
  have h1:j≠id:=fun e=>h (.inr e)
  simp only[aE,ak,h1,if_false]
  exact hH.fresh j fun hu=>h (.inl hu)
 ·by_cases e1:i=id
  ·subst e1;simp[aa.live]at hi
  ·by_cases e2:j=id
   ·subst e2;simp[aa.live]at hj
   ·simp[e1,e2]at hi hj;exact hH.apart i j b hi hj bi bj
theorem qZ(hH:af M φ H w){id:Nat}{kt vt:TypeId}{l:List (D×D)}(b5:H.us id)(ho:H.o id= .map kt vt l):
 af M φ (H.put [(id, .dA l)]) w/\Trans φ H w φ (H.put [(id, .dA l)]) w:=by
 have yd:∀b,bc φ (H.put [(id, .dA l)]) b->bc φ H b:=by
  rintro b ⟨j,h1,h2⟩
  by_cases hj:j=id
  ·subst hj;simp[aa.live]at h1
  ·simp[hj]at h1;exact⟨j,h1,h2⟩
 have ht:Trans φ H w φ (H.put [(id, .dA l)]) w:={
  aU:=cp.refl _ _
  grow:=fun b hb=> .inl (yd b hb)
  rel:={
   us:=fun j h=>by simp[h]
   row:=fun j hu hr=>by
    by_cases hj:j=id
    ·subst hj;exact⟨by rw[ho];rfl,rfl⟩
    ·simp[hj]at hr;exact⟨hr,rfl⟩
   ep:=fun j e' hu he=>by
    by_cases hj:j=id
    ·subst hj;simp[aa.aN]at he
    ·simp[hj]at he;exact⟨e',he,Nat.le_refl _,fun _=>rfl⟩}}
 refine⟨hH.of ht (· =id) (fun j h=> ?_) (fun j h=>⟨by simp[h],rfl,fun _ _ _=>rfl⟩) (fun j h=> ?_) (fun i j b hi hj bi bj=> ?_) (fun b hb=>(hH.ours b (yd b hb)).2),ht⟩
 ·subst h
  have aG:=hH.ok j
  unfold au at aG|-
  simp only[ho,aE,ak,if_true]at aG|-
  obtain⟨b,es,clock,h1,h2,h3,h4⟩:=aG
  obtain⟨h5,h6⟩:=(eY _ _).1 h4
  refine⟨b,es,clock,es.toList,h1,h2, ?_,h3, .inl rfl,D.aw (ht.blocks (M:=M)) _ _ h5,D.aw (ht.blocks (M:=M)) _ _ h6⟩
  rintro(hM|⟨i,vy,te⟩)
  ·exact(hH.ours b ⟨j,by rw[ho];rfl,by rw[h1];rfl⟩).1 hM
  ·by_cases e:i=j
   ·subst e;simp[aa.live]at vy
   ·simp[e]at vy
    exact e (hH.apart i j b vy (by rw[ho];rfl) te (by rw[h1];rfl))
 ·rw[bW]at h
  have h1:j≠id:=fun e=>h (.inr e)
  simp only[aE,ak,h1,if_false]
  exact hH.fresh j fun hu=>h (.inl hu)
 ·by_cases e1:i=id
  ·subst e1;simp[aa.live]at hi
  ·by_cases e2:j=id
   ·subst e2;simp[aa.live]at hj
   ·simp[e1,e2]at hi hj;exact hH.apart i j b hi hj bi bj
end
end Go.Proofs.YtbmnikpknlkbkaaGreat
