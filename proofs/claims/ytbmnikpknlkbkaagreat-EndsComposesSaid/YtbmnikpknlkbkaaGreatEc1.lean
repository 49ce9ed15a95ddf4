/-
  A PART OF THE PROOF. Conditions: none.
-/
import Derived.WalkKit
import Derived.Below
set_option linter.unusedSimpArgs false
set_option linter.unusedVariables false
namespace Go.Proofs.YtbmnikpknlkbkaaGreat
def me(ops:Array Oper)(j:Nat):Option Tmp:=(ops[j]?).bind (·.dst)
structure bz where
 dst:Option Nat
 op:Op
 gd:Option (Nat×Bool):=none
instance:Inhabited bz:=⟨⟨none, .ready 0,none⟩⟩
def tf(n:Nat):Option Tmp->Bool
 |some d=>decide (d<n)
 |none=>true
def wH(n:Nat)(ops:Array Oper)(o:Oper):Option bz:=
 if tf n o.dst=true then match o.guard with
  |none=>some ⟨o.dst,o.op,none⟩
  |some (j,want)=>match me ops j with
   |some d=>some ⟨o.dst,o.op,some (d,want)⟩
   |none=>none
 else none
def gJ(n:Nat)(ops:Array Oper):List Oper->Option (List bz)
 |[]=>some []
 |o::l=>match wH n ops o,gJ n ops l with
  |some x,some xs=>some (x::xs)
  |_,_=>none
def tmpsOf(o:bz):List Nat:=(o.op.operands.toList.filterMap fun| .tmp t=>some t|_=>none)++(match o.gd with|some (d,_)=>[d]|none=>[])
def dx(o:bz):List Nat:=tmpsOf o++o.dst.toList
def aT(ops:Array Oper)(i:Nat):List Nat:=match ops[i]? with|some o=>(o.after.toList.filter (Region.binds .any)).map (·.on)|none=>[]
def bn(l:List bz)(i:Nat):bz:=l.getD i default
inductive IC where
 |skip|ab (l:List bz)|dn (l:List bz) (pr:List (List Nat))|seq (a b:IC)|cond (c:Operand) (a b:IC)|block (id:Nat) (a:IC)|loop (a:IC)|exit (id:Nat)|ret|bad
 |vl (g:Operand) (ps:List Nat) (a b:IC)
 deriving Inhabited
inductive kq where
 |ret|exit (id:Nat)
def kq.code:kq->Code
 | .ret=> .ret
 | .exit id=> .exit id
def hZ(acc:List Nat):List Nat->Nat
 |[]=>0
 |j::ps=>(2^j|||acc.getD j 0)|||hZ acc ps
def dc:List (List Nat)->List Nat->List Nat
 |[],acc=>acc
 |ps::l,acc=>dc l (acc++[hZ acc ps])
def lP(x y:bz):Bool:=match x.dst with|some d=> !(dx y).contains d|none=>true
def pY(l:List bz)(pr:List (List Nat)):Bool:=
 (List.range l.length).all fun j=>(List.range j).all fun i=>((dc pr []).getD j 0).testBit i||(lP (bn l i) (bn l j)&&lP (bn l j) (bn l i))
def iO(xs ys:List Nat):Bool:=xs.all fun x=> !ys.contains x
def fC(pr:List (List Nat))(fp:List (List Nat×List Nat)):Bool:=
 (List.range fp.length).all fun j=>(List.range j).all fun i=>((dc pr []).getD j 0).testBit i||
  (iO (fp.getD i ([],[])).2 (fp.getD j ([],[])).1&&iO (fp.getD i ([],[])).2 (fp.getD j ([],[])).2&&iO (fp.getD j ([],[])).2 (fp.getD i ([],[])).1)
def ej(ops:Array Oper):List (List Nat):=(List.range ops.size).map (aT ops)
def BT(pr:List (List Nat)):Bool:=(List.range pr.length).all fun k=>(pr.getD k []).all fun j=>decide (j<k)
theorem nk{acc:List Nat}{i:Nat}:∀ (ps:List Nat),(hZ acc ps).testBit i=true->∃j∈ps,i=j\/(acc.getD j 0).testBit i=true
 |[],h=>by simp[hZ]at h
 |j::ps,h=>by
  simp only[hZ,Nat.testBit_or,Bool.or_eq_true]at h
  rcases h with(h|h)|h
  ·rw[Nat.testBit_two_pow]at h
   exact⟨j,by simp, .inl (by have h:=of_decide_eq_true h;exact h.symm)⟩
  ·exact⟨j,by simp, .inr h⟩
  ·obtain⟨j',h1,h2⟩:=nk ps h
   exact⟨j',by simp[h1],h2⟩
theorem lQ{k:Nat}:∀ (l:List (List Nat)) (acc:List Nat),k<acc.length->(dc l acc).getD k 0=acc.getD k 0
 |[],_,_=>rfl
 |ps::l,acc,h=>by
  rw[dc,lQ l _ (by simp;omega)]
  simp[List.getD_eq_getElem?_getD,List.getElem?_append_left h]
theorem lR{i:Nat}:∀ (l:List (List Nat)) (acc:List Nat) (k:Nat),acc.length<=k->(∀k',k'<l.length->∀j∈l.getD k' [],j<acc.length+k')->((dc l acc).getD k 0).testBit i=true->
 ∃j∈l.getD (k - acc.length) [],i=j\/((dc l acc).getD j 0).testBit i=true
 |[],acc,k,hk,_,h=>by
  simp only[dc]at h
  rw[List.getD_eq_getElem?_getD,List.getElem?_eq_none hk]at h
  simp at h
 |ps::l,acc,k,hk,hp,h=>by
  simp only[dc]at h|-
  by_cases he:k=acc.length
  ·subst he
   rw[lQ l _ (by simp)]at h
   have e:(acc++[hZ acc ps]).getD acc.length 0=hZ acc ps:=by simp[List.getD_eq_getElem?_getD]
   rw[e]at h
   obtain⟨j,h1,h2⟩:=nk ps h
   refine⟨j,by simpa using h1,h2.imp id fun h2=> ?_⟩
   have hj:j<acc.length:=by simpa using hp 0 (by simp) j (by simpa using h1)
   rw[lQ l _ (by simp;omega)]
   simpa[List.getD_eq_getElem?_getD,List.getElem?_append_left hj]using h2
  ·obtain⟨j,h1,h2⟩:=lR l (acc++[hZ acc ps]) k (by simp;omega) (fun k' BU j hj=>by
    have:=hp (k'+1) (by simp;omega) j (by simpa using hj)
    simp;omega) h
   refine⟨j, ?_,h2⟩
   have e:k - acc.length=(k - (acc++[hZ acc ps]).length)+1:=by simp;omega
   rw[e];simpa using h1
theorem kx{pr:List (List Nat)}(hp:∀k,k<pr.length->∀j∈pr.getD k [],j<k){E:Nat->Bool}(hE:∀k,k<pr.length->E k=true->∀j∈pr.getD k [],E j=true):
 ∀k,k<pr.length->(∀j∈pr.getD k [],E j=true)->∀i,((dc pr []).getD k 0).testBit i=true->E i=true:=by
 intro k
 induction k using Nat.strongRecOn with
 |ind k ih=>
  intro hk hj i hi
  obtain⟨j,h1,h2⟩:=lR pr [] k (by simp) (fun k' BU j hj=>by simpa using hp k' BU j hj) hi
  simp only[List.length_nil,Nat.sub_zero]at h1
  rcases h2 with rfl|h2
  ·exact hj _ h1
  ·have EI:=hp k hk j h1
   exact ih j EI (by omega) (hE j (by omega) (hj j h1)) i h2
theorem rl{pr:List (List Nat)}(hp:∀k,k<pr.length->∀j∈pr.getD k [],j<k):∀k,k<pr.length->∀i,((dc pr []).getD k 0).testBit i=true->i<k:=by
 intro k
 induction k using Nat.strongRecOn with
 |ind k ih=>
  intro hk i hi
  obtain⟨j,h1,h2⟩:=lR pr [] k (by simp) (fun k' BU j hj=>by simpa using hp k' BU j hj) hi
  simp only[List.length_nil,Nat.sub_zero]at h1
  have EI:=hp k hk j h1
  rcases h2 with rfl|h2
  ·exact EI
  ·have:=ih j EI (by omega) i h2;omega
def low(n:Nat):Code->IC
 | .skip=> .skip
 | .label _=> .skip
 | .scope c=>low n c
 | .region _ ops false=>match gJ n ops ops.toList with
   |some l=> .ab l
   |none=> .bad
 | .region _ ops true=>match gJ n ops ops.toList with
   |some l=>if pY l (ej ops)&&BT (ej ops)then .dn l (ej ops)else .bad
   |none=> .bad
 | .seq a b=> .seq (low n a) (low n b)
 | .cond c a b=> .cond c (low n a) (low n b)
 | .block id a=> .block id (low n a)
 | .loop a=> .loop (low n a)
 | .exit id=> .exit id
 | .ret=> .ret
 | .rangeFunc g ps a b=> .vl g ps.toList (low n a) (low n b)
 |_=> .bad
end Go.Proofs.YtbmnikpknlkbkaaGreat
namespace Go.Proofs.YtbmnikpknlkbkaaGreat
inductive D where
 |int (k:IntKind) (n:Int)|bool (b:Bool)|str (s:List UInt8)
 |dS|fg|aM|c0
 |agg (cs:List D)|sl (es:List D)|iface (t:TypeId) (d:D)
 |mp (ks vs:List D)
 deriving Inhabited
def Flat(vs:List Value):Prop:=∀u∈vs,u.oneCell'=true
def eo(B:Nat->Prop)(w:World)(a:Addr)(cs:Array Value):Prop:=∀j u,cs[j]? =some u->w.cell? (a.add j)=some u/\ ¬B a.block
def e8(es:Array MapEntry)(clock:Nat):Prop:=(∀e∈es.toList,e.born<clock)/\(es.toList.map (·.born)).Nodup
def pZ(ks:List D):Prop:=ks.Nodup/\∀k∈ks,∃n,k= .int .i64 n
mutual
def D.den (B:Nat->Prop)(w:World):D->Value->Prop
 | .int k n,v=>v= .int k n
 | .bool b,v=>v= .bool b
 | .str l,v=>∃s:ByteArray,v= .string s/\s.data.toList=l
 | .dS,v=>v= .nilIface
 | .fg,v=>v= .pointer none
 | .aM,v=>v= .nilFunc
 | .c0,v=>v= .map none
 | .agg cs,v=>∃a,v= .agg a/\D.ak B w cs a.toList/\Flat a.toList
 | .sl es,v=>∃base len cap,v= .slice base len cap/\len=es.length/\len<=cap/\(base=none->cap=0)/\
  ∃sz,∀a,base=some a->(cap≠0->a.spot=none)/\D.elems B w sz a 0 es
 | .iface t d,v=>∃u,v= .iface t u/\D.den B w d u
 | .mp ks vs,v=>∃m es clock p,v= .map (some m)/\w.heap[m]? =some (.map es clock)/\ ¬B m/\e8 es clock/\(p=es.toList\/(p.Perm es.toList/\pZ ks))/\D.ak B w ks (p.map (·.key))/\D.ak B w vs (p.map (·.val))
def D.ak (B:Nat->Prop)(w:World):List D->List Value->Prop
 |[],vs=>vs=[]
 |d::ds,vs=>∃u us,vs=u::us/\D.den B w d u/\D.ak B w ds us
def D.elems (B:Nat->Prop)(w:World)(sz:Nat)(a:Addr):Nat->List D->Prop
 |_,[]=>True
 |i,e::es=>(∃ev:Value,ev.cells.size=sz/\eo B w (a.add (i*sz)) ev.cells/\D.den B w e ev)/\D.elems B w sz a (i+1) es
end
inductive V where
 |d (x:D)|aI|agg (cs:List V)|bJ (vs:List V)
 |ptr (id off:Nat)|osl (id ep:Nat)|pe (id ep i sz off:Nat)|pp (cs:List D) (off:Nat)
 |func (fn:Fn) (first cap:List V)|iface (t:TypeId) (x:V)
 |aE
 |jU (es:List D)|nm (id off n:Nat)|mp (id:Nat)|dy|js (id:Nat)
 deriving Inhabited
inductive aa where
 |no|row (cs:List V)|arr (ep:Nat) (ty:TypeId) (sz:Nat) (es:List D)|ky (ep:Nat) (es:List D)
 |map (kt vt:TypeId) (es:List (D×D))
 |loop (nf n:Nat) (env:List V) (ps:List Nat) (a b:IC) (st:LoopState) (vm:Option kq)
 |dT (es:List (D×D))|lS (es:List (D×D)) (last:Option (D×D))|oB (s:List UInt8) (pos:Nat)
 deriving Inhabited
def bU(l:List V):Nat->V:=fun i=>l.getD i .aE
structure Hp where
 o:Nat->aa
 us:Nat->Prop
def aa.aL:aa->Option Nat
 | .arr ep _ _ _| .ky ep _=>some ep
 |_=>none
def aa.bc:aa->Bool
 | .row _| .map .. | .loop .. | .dT _| .lS .. | .oB .. =>true
 |_=>false
def aa.live:aa->Bool
 | .row _| .arr .. | .map .. | .loop .. | .lS .. | .oB .. =>true
 |_=>false
def cW:Value->Option Nat
 | .pointer (some a)| .slice (some a) _ _=>some a.block
 | .map (some b)=>some b
 |_=>none
abbrev Place:=Nat->Value
def bp(φ:Place)(H:Hp)(b:Nat):Prop:=∃id,(H.o id).live=true/\cW (φ id)=some b
def ad(M:Nat->Prop)(φ:Place)(H:Hp)(b:Nat):Prop:=M b\/bp φ H b
mutual
def V.den (B:Nat->Prop)(φ:Place)(H:Hp)(w:World):V->Value->Prop
 | .d x,v=>D.den B w x v
 | .aI,v=>v= .slice none 0 0
 | .agg cs,v=>∃a,v= .agg a/\V.ak B φ H w cs a.toList/\Flat a.toList
 | .bJ vs,v=>∃a,v= .tuple a/\V.ak B φ H w vs a.toList
 | .ptr id off,v=>v.oneCell'=true/\H.us id/\((H.o id).bc=true->∃b,φ id= .pointer (some ⟨b,0,none⟩)/\v= .pointer (some ⟨b,off,none⟩))
 | .osl id ep,v=>v.oneCell'=true/\H.us id/\∀e,(H.o id).aL=some e->ep<=e/\(ep=e->v=φ id)
 | .pe id ep i sz off,v=>v.oneCell'=true/\H.us id/\∀e,(H.o id).aL=some e->ep<=e/\(ep=e->∃b n c,φ id= .slice (some ⟨b,0,none⟩) n c/\v= .pointer (some ⟨b,i*sz+off,none⟩))
 | .pp cs off,v=>∃a ev,a.spot=none/\v= .pointer (some (a.add off))/\D.ak B w cs ev/\Flat ev/\eo B w a ev.toArray
 | .func fn first cap,v=>∃f c,v= .func fn f c/\V.ak B φ H w first f.toList/\V.ak B φ H w cap c.toList
 | .iface t x,v=>∃u,v= .iface t u/\V.den B φ H w x u
 | .aE,_=>True
 | .jU es,v=>D.den B w (.sl es) v/\∃base n,v= .slice base n n
 | .nm id off n,v=>v.oneCell'=true/\H.us id/\((H.o id).bc=true->∃b,φ id= .pointer (some ⟨b,0,none⟩)/\v= .slice (some ⟨b,off,none⟩) n n)
 | .mp id,v=>v.oneCell'=true/\H.us id/\((H.o id).bc=true->v=φ id)
 | .dy,v=>∃b,v= .bool b
 | .js id,v=>v.oneCell'=true/\H.us id/\((H.o id).bc=true->∃b,φ id= .pointer (some ⟨b,0,none⟩)/\v= .func (.yield b) #[] #[])
def V.ak (B:Nat->Prop)(φ:Place)(H:Hp)(w:World):List V->List Value->Prop
 |[],vs=>vs=[]
 |x::xs,vs=>∃u us,vs=u::us/\V.den B φ H w x u/\V.ak B φ H w xs us
end
def et(B:Nat->Prop)(w:World)(sz:Nat)(es:List D)(xs:List Value):Prop:=
 ∃evs:List Value,xs=evs.flatMap (·.cells.toList)/\(∀ev∈evs,ev.cells.size=sz)/\D.ak B w es evs
def au(B:Nat->Prop)(w:World):List (D×D)->List MapEntry->Prop
 |[],es=>es=[]
 |(k,x)::l,es=>∃e es',es=e::es'/\D.den B w k e.key/\D.den B w x e.val/\au B w l es'
def nn(B:Nat->Prop)(w:World)(l:List (D×D))(last:Option (D×D))(b:Nat):Prop:=
 w.heap[b]? =some (.mapIter none 0 #[] 0)/\l=[]/\last=none\/
 ∃m since seen es,w.heap[b]? =some (.mapIter (some m) since seen since)/\w.heap[m]? =some (.map es since)/\ ¬B m/\e8 es since/\(∃l',l'.Perm l/\au B w l' (es.toList.filter fun e=> !seen.contains e.born))/\
  ∀k x,last=some (k,x)->∃e∈es.toList,seen.back?=some e.born/\D.den B w k e.key/\D.den B w x e.val
def aq(M:Nat->Prop)(φ:Place)(H:Hp)(w:World)(id:Nat):Prop:=
 match H.o id with
 | .no=>True
 | .row cs=>∃b bY ty,φ id= .pointer (some ⟨b,0,none⟩)/\w.heap[b]? =some (.cells bY ty (0,0))/\V.ak (ad M φ H) φ H w cs bY.toList/\Flat bY.toList
 | .arr _ ty sz es=>0<sz/\∃xs,w.ownsRow 0 ty sz (φ id) es.length xs/\et (ad M φ H) w sz es xs
 | .ky _ es=>D.den (ad M φ H) w (.sl es) (φ id)
 | .loop nf n env ps jE fW st vm=>∃b r,φ id= .pointer (some ⟨b,0,none⟩)/\w.heap[b]? =some (.loop r)/\r.fn<nf/\r.state=st/\r.pending=vm.map kq.code/\r.params.toList=ps/\r.tmps.size=n/\low n r.assign=jE/\low n r.body=fW/\
  ∀i,V.den (ad M φ H) φ H w (bU env i) (r.tmps.getD i undef)
 | .map _ _ l=>∃b es clock,φ id= .map (some b)/\w.heap[b]? =some (.map es clock)/\e8 es clock/\au (ad M φ H) w l es.toList
 | .dT l=>D.den (ad M φ H) w (.mp (l.map (·.1)) (l.map (·.2))) (φ id)
 | .lS l last=>∃b,φ id= .pointer (some ⟨b,0,none⟩)/\nn (ad M φ H) w l last b
 | .oB s pos=>∃b,φ id= .pointer (some ⟨b,0,none⟩)/\w.heap[b]? =some (.stringIter ⟨⟨s⟩⟩ pos)
structure af (M:Nat->Prop) (φ:Place) (H:Hp) (w:World):Prop where
 ok:∀id,aq M φ H w id
 fresh:∀id, ¬H.us id->H.o id= .no
 apart:∀i j b,(H.o i).live=true->(H.o j).live=true->cW (φ i)=some b->cW (φ j)=some b->i=j
 ours:∀b,bp φ H b-> ¬M b/\b<w.heap.size
 oE:∀b,M b->b<w.heap.size
structure dh (m:Nat->Prop) (w w':World):Prop where
 os:w'.os=w.os
 tape:w'.tape=w.tape
 output:w'.output=w.output
 size:w.heap.size<=w'.heap.size
 block:∀k,k<w.heap.size-> ¬m k->w'.heap[k]? =w.heap[k]?
structure cM (φ:Place) (H:Hp) (ai:Place) (H':Hp):Prop where
 us:∀id,H.us id->H'.us id
 row:∀id,H.us id->(H'.o id).bc=true->(H.o id).bc=true/\ai id=φ id
 ep:∀id e',H.us id->(H'.o id).aL=some e'->∃e,(H.o id).aL=some e/\e<=e'/\(e=e'->ai id=φ id)
structure Trans (φ:Place) (H:Hp) (w:World) (ai:Place) (H':Hp) (w':World):Prop where
 bD:dh (bp φ H) w w'
 grow:∀b,bp ai H' b->bp φ H b\/w.heap.size<=b
 rel:cM φ H ai H'
theorem dh.refl (m:Nat->Prop)(w:World):dh m w w:=⟨rfl,rfl,rfl,Nat.le_refl _,fun _ _ _=>rfl⟩
theorem cM.refl (φ:Place)(H:Hp):cM φ H φ H:=⟨fun _ h=>h,fun _ _ h=>⟨h,rfl⟩,fun _ e' _ h=>⟨e',h,Nat.le_refl _,fun _=>rfl⟩⟩
theorem Trans.refl (φ:Place)(H:Hp)(w:World):Trans φ H w φ H w:=⟨dh.refl _ _,fun _ h=> .inl h,cM.refl _ _⟩
theorem cM.trans {φ ai wI:Place}{H H' EJ:Hp}(h:cM φ H ai H')(k:cM ai H' wI EJ):cM φ H wI EJ where
 us id ag:=k.us id (h.us id ag)
 row id ag hr:=by
  obtain⟨a,b⟩:=k.row id (h.us id ag) hr
  obtain⟨c,d⟩:=h.row id ag a
  exact⟨c,b.trans d⟩
 ep id e' ag he:=by
  obtain⟨e,h1,h2,h3⟩:=k.ep id e' (h.us id ag) he
  obtain⟨e0,g1,g2,g3⟩:=h.ep id e ag h1
  refine⟨e0,g1,Nat.le_trans g2 h2,fun heq=> ?_⟩
  have a:e0=e:=by omega
  have b:e=e':=by omega
  exact(h3 b).trans (g3 a)
theorem Trans.trans {φ ai wI:Place}{H H' EJ:Hp}{w w' AG:World}(h:Trans φ H w ai H' w')(k:Trans ai H' w' wI EJ AG):Trans φ H w wI EJ AG where
 bD:={
  os:=k.bD.os.trans h.bD.os
  tape:=k.bD.tape.trans h.bD.tape
  output:=k.bD.output.trans h.bD.output
  size:=Nat.le_trans h.bD.size k.bD.size
  block:=fun b hb hm=>by
   rw[k.bD.block b (Nat.lt_of_lt_of_le hb h.bD.size) (fun hl=>by
    rcases h.grow b hl with h1|h1
    ·exact hm h1
    ·omega),h.bD.block b hb hm]}
 grow b hl:=by
  rcases k.grow b hl with h1|h1
  ·exact h.grow b h1
  ·exact .inr (Nat.le_trans h.bD.size h1)
 rel:=h.rel.trans k.rel
@[simp] theorem DM (a:Addr) (j:Nat):(a.add j).block=a.block:=by unfold Addr.add;split<;>rfl
def kz(w:World)(b:Nat):Prop:=∃cs ty fz,w.heap[b]? =some (.cells cs ty fz)
def bC(w:World)(b:Nat):Prop:=kz w b\/∃es clock,w.heap[b]? =some (.map es clock)
theorem bC.lt {w:World}{b:Nat}(h:bC w b):b<w.heap.size:=by
 rcases Nat.lt_or_ge b w.heap.size with hl|hl
 ·exact hl
 ·rcases h with⟨cs,ty,fz,h⟩|⟨es,clock,h⟩
  ·rw[Array.getElem?_eq_none hl]at h;cases h
  ·rw[Array.getElem?_eq_none hl]at h;cases h
theorem jM{w:World}{a:Addr}{u:Value}(h:w.cell? a=some u):kz w a.block:=by
 unfold World.cell? at h
 split at h
 ·exact⟨_,_,_,by assumption⟩
 ·cases h
theorem mI{w:World}{a:Addr}{u:Value}(h:w.cell? a=some u):bC w a.block:= .inl (jM h)
theorem eo.mono {B B':Nat->Prop}{w w':World}{a:Addr}{cs:Array Value}
 (hb:∀b,bC w b-> ¬B b->w'.heap[b]? =w.heap[b]? /\ ¬B' b) (h:eo B w a cs):eo B' w' a cs:=by
 intro j u hj
 obtain⟨h1,h2⟩:=h j u hj
 have br:bC w a.block:=by simpa using mI h1
 obtain⟨h3,h4⟩:=hb _ br h2
 exact⟨by rw[World.cell?_of_block (w:=w) (w':=w') (a:=a.add j) (by simpa using h3)];exact h1,h4⟩
mutual
theorem D.ao {B B':Nat->Prop}{w w':World}(hb:∀b,bC w b-> ¬B b->w'.heap[b]? =w.heap[b]? /\ ¬B' b):
 ∀ (x:D) (v:Value),D.den B w x v->D.den B' w' x v
 | .int _ _,_,h| .bool _,_,h| .str _,_,h| .dS,_,h| .fg,_,h| .aM,_,h| .c0,_,h=>by simpa[D.den]using h
 | .agg cs,_,h=>by
   obtain⟨a,rfl,h,hf⟩:=h
   exact⟨a,rfl,D.aw hb cs _ h,hf⟩
 | .sl es,_,h=>by
   obtain⟨base,len,cap,rfl,h1,h2,h3,sz,h4⟩:=h
   exact⟨base,len,cap,rfl,h1,h2,h3,sz,fun a ha=>⟨(h4 a ha).1,D.np hb sz a es 0 (h4 a ha).2⟩⟩
 | .iface t d,_,h=>by
   obtain⟨u,rfl,h⟩:=h
   exact⟨u,rfl,D.ao hb d u h⟩
 | .mp ks vs,_,h=>by
   obtain⟨m,es,clock,p,rfl,h1,h2,h3,hp,h4,h5⟩:=h
   obtain⟨k1,k2⟩:=hb m (.inr ⟨es,clock,h1⟩) h2
   exact⟨m,es,clock,p,rfl,k1.trans h1,k2,h3,hp,D.aw hb ks _ h4,D.aw hb vs _ h5⟩
theorem D.aw {B B':Nat->Prop}{w w':World}(hb:∀b,bC w b-> ¬B b->w'.heap[b]? =w.heap[b]? /\ ¬B' b):
 ∀ (ds:List D) (vs:List Value),D.ak B w ds vs->D.ak B' w' ds vs
 |[],_,h=>h
 |d::ds,_,h=>by
  obtain⟨u,us,rfl,h1,h2⟩:=h
  exact⟨u,us,rfl,D.ao hb d u h1,D.aw hb ds us h2⟩
theorem D.np {B B':Nat->Prop}{w w':World}(hb:∀b,bC w b-> ¬B b->w'.heap[b]? =w.heap[b]? /\ ¬B' b)(sz:Nat)(a:Addr):
 ∀ (es:List D) (i:Nat),D.elems B w sz a i es->D.elems B' w' sz a i es
 |[],_,_=>trivial
 |e::es,i,h=>by
  obtain⟨⟨ev,h1,h2,h3⟩,h4⟩:=h
  exact⟨⟨ev,h1,h2.mono hb,D.ao hb e ev h3⟩,D.np hb sz a es (i+1) h4⟩
end
theorem au.mono {B B':Nat->Prop}{w w':World}(hb:∀b,bC w b-> ¬B b->w'.heap[b]? =w.heap[b]? /\ ¬B' b):
 ∀ (l:List (D×D)) (es:List MapEntry),au B w l es->au B' w' l es
 |[],_,h=>h
 |(k,x)::l,_,h=>by
  obtain⟨e,es,rfl,h1,h2,h3⟩:=h
  exact⟨e,es,rfl,D.ao hb k _ h1,D.ao hb x _ h2,au.mono hb l es h3⟩
theorem nn.mono {B B':Nat->Prop}{w w':World}(hb:∀b,bC w b-> ¬B b->w'.heap[b]? =w.heap[b]? /\ ¬B' b){l:List (D×D)}{last:Option (D×D)}{b:Nat}(Lz:w'.heap[b]? =w.heap[b]?)(h:nn B w l last b):nn B' w' l last b:=by
 rcases h with⟨h1,h2⟩|⟨m,since,seen,es,h1,h2,h3,h4,h5,h6⟩
 ·exact .inl ⟨Lz.trans h1,h2⟩
 ·obtain⟨k1,k2⟩:=hb m (.inr ⟨es,since,h2⟩) h3
  obtain⟨l',h5,NK⟩:=h5
  refine .inr ⟨m,since,seen,es,Lz.trans h1,k1.trans h2,k2,h4,⟨l',h5,au.mono hb l' _ NK⟩,fun k x e=> ?_⟩
  obtain⟨e,g1,g2,g3,g4⟩:=h6 k x e
  exact⟨e,g1,g2,D.ao hb k _ g3,D.ao hb x _ g4⟩
theorem gK{B:Nat->Prop}{w:World}:∀ (l:List (D×D)) (es:List MapEntry),au B w l es↔D.ak B w (l.map (·.1)) (es.map (·.key))/\D.ak B w (l.map (·.2)) (es.map (·.val))
 |[],es=>by
  simp only[au,List.map_nil,D.ak]
  constructor
  ·rintro rfl;exact⟨rfl,rfl⟩
  ·rintro⟨h,_⟩;simpa using h
 |(k,x)::l,es=>by
  simp only[au,List.map_cons,D.ak]
  constructor
  ·rintro⟨e,es',rfl,h1,h2,h3⟩
   obtain⟨g1,g2⟩:=(gK l es').1 h3
   exact⟨⟨_,_,rfl,h1,g1⟩,⟨_,_,rfl,h2,g2⟩⟩
  ·rintro⟨⟨u,us,h1,h2,h3⟩,⟨v,vs,h4,h5,h6⟩⟩
   cases es with
   |nil=>simp at h1
   |cons e es'=>
    simp only[List.map_cons,List.cons.injEq]at h1 h4
    obtain⟨rfl,rfl⟩:=h1
    obtain⟨rfl,rfl⟩:=h4
    exact⟨e,es',rfl,h2,h5,(gK l es').2 ⟨h3,h6⟩⟩
theorem D.aj {B:Nat->Prop}{w:World}:∀ (ds:List D) (vs:List Value),D.ak B w ds vs->vs.length=ds.length
 |[],_,h=>by simp[D.ak]at h;simp[h]
 |d::ds,_,h=>by obtain⟨u,us,rfl,_,h2⟩:=h;simp[D.aj ds us h2]
theorem D.cD {B:Nat->Prop}{w:World}:∀ (ds:List D) (vs:List Value) (i:Nat) (d:D),D.ak B w ds vs->ds[i]? =some d->∃v,vs[i]? =some v/\D.den B w d v
 |[],_,_,_,_,hd=>by simp at hd
 |d::ds,_,0,x,h,hd=>by
  obtain⟨u,us,rfl,h1,_⟩:=h
  simp at hd;subst hd;exact⟨u,by simp,h1⟩
 |d::ds,_,i+1,x,h,hd=>by
  obtain⟨u,us,rfl,_,h2⟩:=h
  simpa using D.cD ds us i x h2 (by simpa using hd)
theorem D.oU {B:Nat->Prop}{w:World}{sz:Nat}{a:Addr}:∀ (es:List D) (i j:Nat) (e:D),D.elems B w sz a i es->es[j]? =some e->
 ∃ev:Value,ev.cells.size=sz/\eo B w (a.add ((i+j)*sz)) ev.cells/\D.den B w e ev
 |[],_,_,_,_,hd=>by simp at hd
 |e::es,i,0,x,h,hd=>by
  simp at hd;subst hd;simpa using h.1
 |e::es,i,j+1,x,h,hd=>by
  have:=D.oU es (i+1) j x h.2 (by simpa using hd)
  simpa[Nat.add_assoc,Nat.add_comm 1 j]using this
section
variable {M:Nat->Prop}{φ ai:Place}{H H':Hp}{w w':World}
theorem Trans.blocks (ht:Trans φ H w ai H' w')(b:Nat)(hc:bC w b)(h: ¬ad M φ H b):w'.heap[b]? =w.heap[b]? /\ ¬ad M ai H' b:=by
 have hb:=hc.lt
 refine⟨ht.bD.block b hb fun hl=>h (.inr hl), ?_⟩
 rintro(h1|h1)
 ·exact h (.inl h1)
 ·rcases ht.grow b h1 with h2|h2
  ·exact h (.inr h2)
  ·omega
mutual
theorem V.gL (hb:∀b,bC w b-> ¬ad M φ H b->w'.heap[b]? =w.heap[b]? /\ ¬ad M ai H' b)(hr:cM φ H ai H'):∀ (x:V) (v:Value),V.den (ad M φ H) φ H w x v->V.den (ad M ai H') ai H' w' x v
 | .d x,v,h=>D.ao hb x v h
 | .aI,_,h=>h
 | .aE,_,_=>trivial
 | .jU es,v,h=>⟨D.ao hb (.sl es) v h.1,h.2⟩
 | .nm id off n,v,h=>by
   obtain⟨h0,h1,h2⟩:=h
   refine⟨h0,hr.us id h1,fun aY=> ?_⟩
   obtain⟨h3,h4⟩:=hr.row id h1 aY
   obtain⟨b,h5,h6⟩:=h2 h3
   exact⟨b,h4.trans h5,h6⟩
 | .mp id,v,h=>by
   obtain⟨h0,h1,h2⟩:=h
   refine⟨h0,hr.us id h1,fun aY=> ?_⟩
   obtain⟨h3,h4⟩:=hr.row id h1 aY
   exact(h2 h3).trans h4.symm
 | .dy,v,h=>h
 | .js id,v,h=>by
   obtain⟨h0,h1,h2⟩:=h
   refine⟨h0,hr.us id h1,fun aY=> ?_⟩
   obtain⟨h3,h4⟩:=hr.row id h1 aY
   obtain⟨b,h5,h6⟩:=h2 h3
   exact⟨b,h4.trans h5,h6⟩
 | .agg cs,_,h=>by obtain⟨a,rfl,h,hf⟩:=h;exact⟨a,rfl,V.dU hb hr cs _ h,hf⟩
 | .bJ cs,_,h=>by obtain⟨a,rfl,h⟩:=h;exact⟨a,rfl,V.dU hb hr cs _ h⟩
 | .ptr id off,v,h=>by
   obtain⟨h0,h1,h2⟩:=h
   refine⟨h0,hr.us id h1,fun aY=> ?_⟩
   obtain⟨h3,h4⟩:=hr.row id h1 aY
   obtain⟨b,h5,h6⟩:=h2 h3
   exact⟨b,h4.trans h5,h6⟩
 | .osl id ep,v,h=>by
   obtain⟨h0,h1,h2⟩:=h
   refine⟨h0,hr.us id h1,fun e' dN=> ?_⟩
   obtain⟨e,g1,g2,g3⟩:=hr.ep id e' h1 dN
   obtain⟨h3,h4⟩:=h2 e g1
   refine⟨Nat.le_trans h3 g2,fun heq=> ?_⟩
   rw[g3 (by omega)]
   exact h4 (by omega)
 | .pe id ep i sz off,v,h=>by
   obtain⟨h0,h1,h2⟩:=h
   refine⟨h0,hr.us id h1,fun e' dN=> ?_⟩
   obtain⟨e,g1,g2,g3⟩:=hr.ep id e' h1 dN
   obtain⟨h3,h4⟩:=h2 e g1
   refine⟨Nat.le_trans h3 g2,fun heq=> ?_⟩
   rw[g3 (by omega)]
   exact h4 (by omega)
 | .pp cs off,v,h=>by
   obtain⟨a,ev,h1,h2,h3,h5,h4⟩:=h
   exact⟨a,ev,h1,h2,D.aw hb cs ev h3,h5,h4.mono hb⟩
 | .func fn first cap,_,h=>by
   obtain⟨f,c,rfl,h1,h2⟩:=h
   exact⟨f,c,rfl,V.dU hb hr first _ h1,V.dU hb hr cap _ h2⟩
 | .iface t x,_,h=>by obtain⟨u,rfl,h⟩:=h;exact⟨u,rfl,V.gL hb hr x u h⟩
theorem V.dU (hb:∀b,bC w b-> ¬ad M φ H b->w'.heap[b]? =w.heap[b]? /\ ¬ad M ai H' b)(hr:cM φ H ai H'):∀ (ds:List V) (vs:List Value),V.ak (ad M φ H) φ H w ds vs->V.ak (ad M ai H') ai H' w' ds vs
 |[],_,h=>h
 |x::xs,_,h=>by
  obtain⟨u,us,rfl,h1,h2⟩:=h
  exact⟨u,us,rfl,V.gL hb hr x u h1,V.dU hb hr xs us h2⟩
end
theorem V.ao (ht:Trans φ H w ai H' w')(x:V)(v:Value)(h:V.den (ad M φ H) φ H w x v):V.den (ad M ai H') ai H' w' x v:=V.gL ht.blocks ht.rel x v h
theorem V.aw (ht:Trans φ H w ai H' w')(ds:List V)(vs:List Value)(h:V.ak (ad M φ H) φ H w ds vs):V.ak (ad M ai H') ai H' w' ds vs:=V.dU ht.blocks ht.rel ds vs h
end
end Go.Proofs.YtbmnikpknlkbkaaGreat
namespace Go.Proofs.YtbmnikpknlkbkaaGreat
def aV{α:Type}(f:Nat->α)(i:Nat)(x:α):Nat->α:=fun j=>if j=i then x else f j
@[simp] theorem ax {α:Type} (f:Nat->α) (i:Nat) (x:α) (j:Nat):aV f i x j=if j=i then x else f j:=rfl
structure S where
 env:Nat->V
 o:Nat->aa
 nx:Nat
def S.H (s:S):Hp:=⟨s.o,fun id=>id<s.nx⟩
def V.cn:Value->V
 | .int k n=> .d (.int k n)| .bool b=> .d (.bool b)| .string s=> .d (.str s.data.toList)
 | .nilIface=> .d .dS| .pointer none=> .d .fg| .nilFunc=> .d .aM| .map none=> .d .c0
 | .slice none 0 0=> .aI
 |_=> .aE
def p4:List V->Option (List D)
 |[]=>some []
 | .d x::vs=>(p4 vs).map (x::·)
 |_::_=>none
def cS(cs:List V):V:=match p4 cs with|some ds=> .d (.agg ds)|none=> .agg cs
def V.ofConst:Value->V
 | .agg a=>if a.toList.all Value.oneCell' then cS (a.toList.map V.cn)else .aE
 |v=>V.cn v
def S.ev (s:S):Operand->V
 | .tmp t=>s.env t
 | .const v=>V.ofConst v
 | .func f=> .func (.func f) [] []
 | .global _=> .aE
def D.cells:D->List D
 | .agg cs=>cs
 |x=>[x]
def V.cells:V->Option (List V)
 | .d x=>some (x.cells.map .d)
 | .agg cs=>some cs
 | .bJ _| .aE=>none
 |v=>some [v]
mutual
def dk(o:Nat->aa):V->Option D
 | .d x=>some x
 | .aI=>some (.sl [])
 | .jU es=>some (.sl es)
 | .osl id ep=>match o id with
   | .arr eF _ _ es| .ky eF es=>if ep=eF then some (.sl es)else none
   |_=>none
 | .mp id=>match o id with
   | .map _ _ l=>some (.mp (l.map (·.1)) (l.map (·.2)))
   | .dT l=>some (.mp (l.map (·.1)) (l.map (·.2)))
   |_=>none
 | .agg cs=>(bt o cs).map .agg
 | .iface t x=>(dk o x).map (.iface t)
 |_=>none
def bt(o:Nat->aa):List V->Option (List D)
 |[]=>some []
 |v::vs=>(dk o v).bind fun x=>(bt o vs).map (x::·)
end
mutual
def V.ids:V->List Nat
 | .osl id _=>[id]
 | .mp id=>[id]
 | .agg cs=>V.aP cs
 | .iface _ x=>x.ids
 |_=>[]
def V.aP:List V->List Nat
 |[]=>[]
 |v::vs=>v.ids++V.aP vs
end
def b8(o:Nat->aa)(ids:List Nat):List (Nat×aa):=
 ids.map fun id=>(id,match o id with| .arr ep _ _ es=> .ky ep es| .map _ _ l=> .dT l|o=>o)
def lT(o:Nat->aa)(ids:List Nat):List (Nat×aa):=
 ids.filterMap fun id=>match o id with| .arr ep _ _ es=>some (id, .ky ep es)|_=>none
def put(o:Nat->aa)(Δ:List (Nat×aa)):Nat->aa:=Δ.foldl (fun f x=>aV f x.1 x.2) o
def Hp.put (H:Hp)(Δ:List (Nat×aa)):Hp:={o:=YtbmnikpknlkbkaaGreat.put H.o Δ,us:=fun id=>H.us id\/id∈Δ.map (·.1)}
def aK(P:Program)(t:TypeId):Option (List V):=
 match P.info? t with
 |some i=>match i.zero with
  |some z=>if z.cells.size=i.size/\z.cells.toList.all Value.oneCell'=true then some (z.cells.toList.map V.cn)else none
  |none=>none
 |none=>none
def bd(P:Program)(t:TypeId):Option Bool:=
 match P.underlying t with
 |some (.struct _)|some (.array _ _)=>some true
 |some _=>some false
 |none=>none
def aW(P:Program)(t:TypeId)(f:Nat):Option Nat:=
 match P.underlying t with
 |some (.struct fs)=>match fs[f]? with
  |some fd=>if P.cellsOf fd.type=0 then none else some fd.offset
  |none=>none
 |_=>none
def aB(P:Program)(t:TypeId):Option TypeId:=
 match P.underlying t with
 |some (.slice e)=>some e
 |_=>none
def bA(P:Program)(t:TypeId):Option (Nat×TypeId):=
 match P.underlying t with
 |some (.array n e)=>some (n,e)
 |_=>none
def bS(P:Program)(t:TypeId):Option (List (Nat×Nat)):=
 match P.underlying t with
 |some (.struct fs)=>if fs.toList.all (fun f=>(P.info? f.type).isSome)=true then some (fs.toList.map fun f=>(f.offset,P.cellsOf f.type))else none
 |some (.array n e)=>if(P.info? e).isSome=true then some ((List.range n).map fun i=>(i*P.cellsOf e,P.cellsOf e))else none
 |_=>none
def bB(P:Program)(t:TypeId):Option IntKind:=
 match P.underlying t with
 |some (.int k)=>some k
 |_=>none
def dq(P:Program)(t:TypeId)(cs:List V)(off:Nat):Option V:=
 match bd P t with
 |some true=>if off+P.cellsOf t<=cs.length then some (cS ((cs.drop off).take (P.cellsOf t)))else none
 |some false=>cs[off]?
 |none=>none
def p5(P:Program)(t:TypeId)(cs:List V)(off:Nat)(v:V):Option (List V):=
 match v.cells with
 |some us=>if us.length=P.cellsOf t/\(0<us.length\/(P.info? t).isSome=true)/\off+us.length<=cs.length then some (cs.take off++us++cs.drop (off+us.length))else none
 |none=>none
def mf(places:List (Nat×Nat))(cs:List V):List (Nat×V)->Option (List V)
 |[]=>some cs
 |(i,v)::rest=>match places[i]?,v.cells with
  |some (off,size),some us=>if us.length=size/\off+us.length<=cs.length then mf places (cs.take off++us++cs.drop (off+us.length)) rest else none
  |_,_=>none
def D.put (e:D)(off:Nat)(us:List D):Option D:=
 match e with
 | .agg cs=>if off+us.length<=cs.length then some (.agg (cs.take off++us++cs.drop (off+us.length)))else none
 |_=>match off,us with
  |0,[u]=>some u
  |_,_=>none
def EK(op:BinOp)(a b:Int):Option Bool:=
 match op with
 | .eql=>some (a==b)| .neq=>some (a !=b)| .lss=>some (decide (a<b))| .leq=>some (decide (a<=b))
 | .gtr=>some (decide (a>b))| .geq=>some (decide (a≥b))
 |_=>none
def nq(op:BinOp)(k:IntKind)(x y:Int):Option Int:=
 let a:=BitVec.ofInt k.bits x
 let b:=BitVec.ofInt k.bits y
 match op with
 | .and=>some (k.wrap (a&&&b).toNat)
 | .or=>some (k.wrap (a|||b).toNat)
 | .xor=>some (k.wrap (a ^^^ b).toNat)
 | .andNot=>some (k.wrap (a&&& ~~~b).toNat)
 |_=>none
def y7(op:BinOp)(k:IntKind)(a b:Int)(K:V->Prop):Prop:=
 match op with
 | .add=>K (.d (.int k (k.wrap (a+b))))
 | .sub=>K (.d (.int k (k.wrap (a - b))))
 | .mul=>K (.d (.int k (k.wrap (a*b))))
 | .quo=>b≠0/\K (.d (.int k (k.wrap (a.tdiv b))))
 | .rem=>b≠0/\K (.d (.int k (a.tmod b)))
 | .and| .or| .xor| .andNot=>∃r,nq op k a b=some r/\K (.d (.int k r))
 | .shl| .shr=>False
 |op=>∃r,EK op a b=some r/\K (.d (.bool r))
def wJ(P:Program)(t:TypeId)(x y:D)(r:Bool):Prop:=
 ∀ (B:Nat->Prop) (w:World) (u v:Value),D.den B w x u->D.den B w y v->(Op.equal t u v).run P w= .ok r w/\∀ (op:BinOp) (a b:Operand),(eqGuard op t a b u v).run P w= .ok () w
def wK(P:Program)(op:BinOp)(t:TypeId)(x y:V)(K:V->Prop):Prop:=
 match x,y with
 | .d (.int k a), .d (.int k' b)=>k=k'/\y7 op k a b K
 | .d (.bool a), .d (.bool b)=>match op with
   | .eql=>P.underlying t=some .bool/\K (.d (.bool (a==b)))
   | .neq=>P.underlying t=some .bool/\K (.d (.bool (a !=b)))
   |_=>False
 | .d (.str a), .d (.str b)=>match op with
   | .eql=>K (.d (.bool (a==b)))
   | .neq=>K (.d (.bool (a !=b)))
   |_=>False
 | .d (.agg a), .d (.agg b)=>match op with
   | .eql=>∃r,wJ P t (.agg a) (.agg b) r/\K (.d (.bool r))
   | .neq=>∃r,wJ P t (.agg a) (.agg b) r/\K (.d (.bool !r))
   |_=>False
 |_,_=>False
def EL(op:UnOp)(x:V)(K:V->Prop):Prop:=
 match op,x with
 | .neg, .d (.int k n)=>K (.d (.int k (k.wrap (0 - n))))
 | .not, .d (.bool b)=>K (.d (.bool !b))
 |_,_=>False
def rm(c a b:V)(K:V->Prop):Prop:=
 match c with
 | .d (.bool t)=>(t=true->K a)/\(t=false->K b)
 |_=>False
def wL(P:Program)(t:TypeId)(o:Nat->aa)(x:V)(K:V->List Nat->Prop):Prop:=
 match P.underlying t with
 |some (.slice _)=>match x with
  | .d (.sl es)=>K (.d (.int .i64 es.length)) []
  | .aI=>K (.d (.int .i64 0)) []
  | .jU es=>K (.d (.int .i64 es.length)) []
  | .osl id ep=>match o id with
    | .arr eF _ _ es| .ky eF es=>ep=eF/\K (.d (.int .i64 es.length)) [id]
    |_=>False
  |_=>False
 |some .string=>match x with
  | .d (.str s)=>K (.d (.int .i64 s.length)) []
  |_=>False
 |some (.array n _)=>K (.d (.int .i64 n)) []
 |_=>False
def fD(P:Program)(o:Nat->aa)(t:TypeId)(x ix:V)(K:V->List Nat->Prop):Prop:=
 match ix with
 | .d (.int _ i)=>match aB P t with
   |some e=>match x with
    | .d (.sl es)=>0<=i/\∃y,es[i.toNat]? =some y/\y.cells.length=P.cellsOf e/\0<P.cellsOf e/\K (.pp y.cells 0) []
    | .jU es=>0<=i/\∃y,es[i.toNat]? =some y/\y.cells.length=P.cellsOf e/\0<P.cellsOf e/\K (.pp y.cells 0) []
    | .osl id ep=>match o id with
      | .arr eF _ sz es=>ep=eF/\0<=i/\i.toNat<es.length/\sz=P.cellsOf e/\0<P.cellsOf e/\K (.pe id ep i.toNat sz 0) [id]
      | .ky eF es=>ep=eF/\0<=i/\∃y,es[i.toNat]? =some y/\y.cells.length=P.cellsOf e/\0<P.cellsOf e/\K (.pp y.cells 0) [id]
      |_=>False
    |_=>False
   |none=>match bA P t with
    |some (n,e)=>0<=i/\i<n/\(P.info? e).isSome=true/\(match x with
     | .ptr id off=>(o id).bc=true/\K (.ptr id (off+i.toNat*P.cellsOf e)) []
     | .pp cs off=>K (.pp cs (off+i.toNat*P.cellsOf e)) []
     | .pe id ep j sz off=>(o id).aL=some ep/\K (.pe id ep j sz (off+i.toNat*P.cellsOf e)) []
     |_=>False)
    |none=>False
 |_=>False
def fE(P:Program)(o:Nat->aa)(t:TypeId)(x:V)(f:Nat)(K:V->Prop):Prop:=
 match aW P t f with
 |some q=>match x with
  | .ptr id off=>(o id).bc=true/\K (.ptr id (off+q))
  | .pp cs off=>K (.pp cs (off+q))
  | .pe id ep j sz off=>(o id).aL=some ep/\K (.pe id ep j sz (off+q))
  |_=>False
 |none=>False
def rn(P:Program)(o:Nat->aa)(t:TypeId)(x:V)(K:V->List Nat->Prop):Prop:=
 match x with
 | .ptr id off=>match o id with
   | .row cs=>∃v,dq P t cs off=some v/\K v [id]
   |_=>False
 | .pp cs off=>∃v,dq P t (cs.map .d) off=some v/\K v []
 | .pe id ep i sz off=>match o id with
   | .arr eF _ jF es=>ep=eF/\sz=jF/\∃e,es[i]? =some e/\∃v,dq P t (e.cells.map .d) off=some v/\K v [id]
   |_=>False
 |_=>False
def nr(P:Program)(o:Nat->aa)(t:TypeId)(x v:V)(K:List (Nat×aa)->List Nat->Prop):Prop:=
 match x with
 | .ptr id off=>match o id with
   | .row cs=>∃cs',p5 P t cs off v=some cs'/\K [(id, .row cs')] [id]
   |_=>False
 | .pe id ep i jF off=>match o id with
   | .arr eF ty sz es=>ep=eF/\jF=sz/\∃e,es[i]? =some e/\∃y,dk o v=some y/\y.cells.length=P.cellsOf t/\0<y.cells.length/\v.ids.all (· !=id)=true/\
    ∃e',e.put off y.cells=some e'/\K (b8 o v.ids++[(id, .arr ep ty sz (es.set i e'))]) (id::v.ids)
   |_=>False
 |_=>False
def eR(P:Program)(o:Nat->aa)(fr:Nat)(t:TypeId)(len:Nat)(parts:List (Nat×V))(K:V->List (Nat×aa)->List Nat->Prop):Prop:=
 match aB P t with
 |some e=>(len=0/\parts=[]/\0<P.cellsOf e/\K (.osl fr 0) [(fr, .arr 0 e (P.cellsOf e) [])] [])\/(parts.map (·.1)=List.range len)/\(aK P e).isSome=true/\0<len/\0<P.cellsOf e/\len*P.cellsOf e<=2^24/\
  ∃ds,bt o (parts.map (·.2))=some ds/\(∀x∈ds,x.cells.length=P.cellsOf e)/\
   K (.osl fr 0) (b8 o (V.aP (parts.map (·.2)))++[(fr, .arr 0 e (P.cellsOf e) ds)]) (V.aP (parts.map (·.2)))
 |none=>False
def aR(P:Program)(e:TypeId):Option D:=
 match aK P e with
 |some z=>match bt (fun _=> .no) z,bd P e with
  |some ds,some true=>some (.agg ds)
  |some [x],some false=>some x
  |_,_=>none
 |none=>none
def fF(P:Program)(fr:Nat)(t:TypeId)(l c:V)(K:V->List (Nat×aa)->Prop):Prop:=
 match aB P t,l,c with
 |some e, .d (.int _ n), .d (.int _ m)=>n=m/\0<=n/\0<P.cellsOf e/\P.bytesOf e*n.toNat<=2^47/\n.toNat<=2^47/\
  ∃x,aR P e=some x/\K (.osl fr 0) [(fr, .arr 0 e (P.cellsOf e) (List.replicate n.toNat x))]
 |_,_,_=>False
def dr(o:Nat->aa)(x:V):Option (List D):=
 match dk o x with
 |some (.sl es)=>some es
 |_=>none
def kA(P:Program)(o:Nat->aa)(fr:Nat)(ts:Array TypeId)(x y:V)(K:V->List (Nat×aa)->List Nat->Prop):Prop:=
 match ts.toList with
 |[t,t']=>t=t'/\(match aB P t with
  |some e=>∃new,dr o y=some new/\0<P.cellsOf e/\(aK P e).isSome=true/\(∀z∈new,z.cells.length=P.cellsOf e)/\(match x with
   | .aI=>new.length<=2^47/\new.length*P.bytesOf e<=2^47/\K (.osl fr 0) [(fr, .arr 0 e (P.cellsOf e) new)] y.ids
   | .jU es=>(∀z∈es,z.cells.length=P.cellsOf e)/\(if new=[]then K (.jU es) [] y.ids else es.length+new.length<=2^40/\(es.length+new.length)*P.bytesOf e<=2^40/\K (.osl fr 0) [(fr, .arr 0 e (P.cellsOf e) (es++new))] y.ids)
   | .osl id ep=>match o id with
     | .arr eF ty sz es=>ep=eF/\ty=e/\sz=P.cellsOf e/\es.length+new.length<=2^47/\(es.length+new.length)*P.bytesOf e<=2^47/\
      K (.osl id (ep+1)) [(id, .arr (ep+1) ty sz (es++new))] (id::y.ids)
     |_=>False
   |_=>False)
  |none=>False)
 |_=>False
def jt(isMax:Bool)(args:List V)(K:V->Prop):Prop:=
 match args with
 |[.d (.int k a), .d (.int k' b)]=>k=k'/\K (.d (.int k (if isMax then(if b>a then b else a)else(if b<a then b else a))))
 |_=>False
def gM(o:Nat->aa)(x:V)(K:V->Prop):Prop:=
 match x with
 | .ptr id off=>(o id).bc=true/\K (.ptr id off)
 | .pp cs off=>K (.pp cs off)
 | .func (.func f) first cap=>K (.func (.func f) first cap)
 |_=>False
def eH(P:Program)(t:TypeId)(xs:List D)(off:Nat):Option D:=
 match bd P t with
 |some true=>if off+P.cellsOf t<=xs.length then some (.agg ((xs.drop off).take (P.cellsOf t)))else none
 |some false=>xs[off]?
 |none=>none
inductive H7 where
 |int|bool|str|struct (fs:List (TypeId×Nat))|arr (n:Nat) (e:TypeId)
def a9(P:Program)(t:TypeId):Option H7:=
 match P.underlying t with
 |some (.int _)=>some .int
 |some .bool=>some .bool
 |some .string=>some .str
 |some (.struct fs)=>if(!P.stoodInHeld t&&fs.toList.all (fun f=>f.name != "_"))=true then some (.struct (fs.toList.map fun f=>(f.type,f.offset)))else none
 |some (.array n e)=>if(P.info? e).isSome=true then some (.arr n e)else none
 |_=>none
def vn(a b:Option Bool):Option Bool:=
 match a,b with
 |some a,some b=>some (a&&b)
 |_,_=>none
def oV(f:TypeId->Nat->Option Bool):List (TypeId×Nat)->Option Bool
 |[]=>some true
 |x::l=>vn (f x.1 x.2) (oV f l)
def uq(f:Nat->Option Bool):Nat->Nat->Option Bool
 |0,_=>some true
 |n+1,i=>vn (f i) (uq f n (i+1))
def AH(f:D->D->Option Bool)(x y:Option D):Option Bool:=
 match x,y with
 |some x,some y=>f x y
 |_,_=>none
def mJ(P:Program):Nat->TypeId->D->D->Option Bool
 |0,_,_,_=>none
 |d+1,t,x,y=>match a9 P t with
  |some .int=>match x,y with| .int k a, .int k' b=>if k=k' then some (a==b)else none|_,_=>none
  |some .bool=>match x,y with| .bool a, .bool b=>some (a==b)|_,_=>none
  |some .str=>match x,y with| .str a, .str b=>some (a==b)|_,_=>none
  |some (.struct fs)=>match x,y with
   | .agg xs, .agg ys=>oV (fun u off=>AH (mJ P d u) (eH P u xs off) (eH P u ys off)) fs
   |_,_=>none
  |some (.arr n e)=>match x,y with
   | .agg xs, .agg ys=>uq (fun i=>AH (mJ P d e) (eH P e xs (i*P.cellsOf e)) (eH P e ys (i*P.cellsOf e))) n 0
   |_,_=>none
  |none=>none
abbrev eu:=V×List (Nat×aa)×List Nat
def bW(x:Option eu)(K:V->List (Nat×aa)->List Nat->Prop):Prop:=
 match x with
 |some (v,Δ,rd)=>K v Δ rd
 |none=>False
def vo(x:Option V)(H8:Nat):Option Nat:=
 match x with
 |none=>some H8
 |some (.d (.int _ i))=>if 0<=i then some i.toNat else none
 |_=>none
def jV(o:Nat->aa)(x:V):Option (Nat×Nat):=
 match x with
 | .ptr id off=>if(o id).bc=true then some (id,off)else none
 |_=>none
def jW(o:Nat->aa)(x:V):Option (Nat×Nat×Nat×List V):=
 match x with
 | .nm id off n=>match o id with
   | .row cs=>some (id,off,n,cs)
   |_=>none
 |_=>none
def tg(P:Program)(o:Nat->aa)(t:TypeId)(x:V)(lo hi mx:Option V):Option eu:=
 match x with
 | .aI=>match lo,hi,mx with
   |none,some (.d (.int _ k)),none=>match aB P t with
    |some e=>if k=0/\(P.info? e).isSome=true then some (.aI,[],[])else none
    |none=>none
   |_,_,_=>none
 | .osl id ep=>match lo,hi,mx with
   |none,some (.d (.int _ k)),none=>match aB P t,o id with
    |some e, .arr eF ty sz _=>if k=0/\ep=eF/\(P.info? e).isSome=true then some (.osl id (ep+1),[(id, .arr (ep+1) ty sz [])],[id])else none
    |_,_=>none
   |_,_,_=>none
 |_=>none
def kB(P:Program)(o:Nat->aa)(t:TypeId)(x:V)(lo hi mx:Option V):Option eu:=
 match aB P t with
 |some e=>match dr o x,vo lo 0 with
  |some es,some l=>match vo hi es.length with
   |some h=>if l<=h/\h<=es.length/\(P.info? e).isSome=true/\(l=0\/es.all (fun y=>y.cells.length==P.cellsOf e)=true)then match mx with
    |none=>some (.d (.sl ((es.take h).drop l)),b8 o x.ids,x.ids)
    |some m=>match hi,vo (some m) 0 with
     |some _,some m=>if h<=m/\m<=es.length then some (if h=m then .jU ((es.take h).drop l)else .d (.sl ((es.take h).drop l)),b8 o x.ids,x.ids)else none
     |_,_=>none
    else none
   |none=>none
  |_,_=>none
 |none=>match bA P t,lo,hi,mx with
  |some (n,e),none,none,none=>match jV o x with
   |some (id,off)=>if(P.info? e).isSome=true then some (.nm id off n,[],[id])else none
   |none=>none
  |_,_,_,_=>none
def lU(P:Program)(o:Nat->aa)(t:TypeId)(x:V)(lo hi mx:Option V):Option eu:=
 match tg P o t x lo hi mx with
 |some r=>some r
 |none=>kB P o t x lo hi mx
def oW(P:Program)(o:Nat->aa)(ts:Array TypeId)(x y:V):Option eu:=
 match ts.toList with
 |[t,_]=>match aB P t with
  |some e=>match jW o x,dr o y with
   |some (id,off,n,cs),some es=>if P.cellsOf e=1/\off+n<=cs.length/\es.all (fun z=>z.cells.length==1)=true/\y.ids.all (· !=id)=true then
    some (.d (.int .i64 ((min es.length n:Nat):Int)),b8 o y.ids++[(id, .row (cs.take off++((es.take n).flatMap D.cells).map .d++cs.drop (off+(es.take n).length)))],id::y.ids)else none
   |_,_=>none
  |none=>none
 |_=>none
def p6(P:Program)(t:TypeId)(f:Nat):Option (Nat×TypeId):=
 match P.underlying t with
 |some (.struct fs)=>match fs[f]? with
  |some fd=>some (fd.offset,fd.type)
  |none=>none
 |_=>none
def ns(P:Program)(t:TypeId)(x:V)(f:Nat):Option V:=
 match p6 P t f with
 |some (off,u)=>match x with
  | .d (.agg cs)=>(eH P u cs off).map .d
  | .agg cs=>dq P u cs off
  |_=>none
 |none=>none
def nu(P:Program)(t:TypeId)(x i:V):Option V:=
 match i with
 | .d (.int _ i)=>if 0<=i then match P.underlying t with
  |some .string=>match x with
   | .d (.str s)=>match s[i.toNat]? with
     |some b=>some (.d (.int .u8 b.toNat))
     |none=>none
   |_=>none
  |some (.array n e)=>if i<n/\(P.info? e).isSome=true then match x with
   | .d (.agg cs)=>(eH P e cs (i.toNat*P.cellsOf e)).map .d
   | .agg cs=>dq P e cs (i.toNat*P.cellsOf e)
   |_=>none
   else none
  |_=>none
   else none
 |_=>none
def th(P:Program)(t:TypeId):Bool:=
 match P.underlying t with
 |some (.interface _)=>false
 |some _=>true
 |none=>false
def zeroV(P:Program)(t:TypeId):Option V:=
 match P.info? t with
 |some i=>match i.zero with
  |some (.agg a)=>if a.toList.all Value.oneCell'=true then some (cS (a.toList.map V.cn))else none
  |some v=>if v.oneCell'=true then some (V.cn v)else none
  |none=>none
 |none=>none
def kC(P:Program)(t:TypeId)(ok:Bool)(x:V):Option V:=
 if th P t=true then match x with
  | .d (.iface u y)=>if u=t then some (if ok=true then .bJ [.d y, .d (.bool true)]else .d y)
   else if ok=true then(zeroV P t).map fun z=> .bJ [z, .d (.bool false)]else none
  | .d .dS=>if ok=true then(zeroV P t).map fun z=> .bJ [z, .d (.bool false)]else none
  |_=>none
 else none
def rp(o:Nat->aa)(x:V):Option V:=
 match x with
 | .aI=>some (.d (.bool true))
 |x=>match dr o x with
  |some es=>some (if es=[]then .dy else .d (.bool false))
  |none=>none
def isConst:Operand->Bool
 | .const _=>true
 |_=>false
def y8:V->Option V
 | .d (.bool b)=>some (.d (.bool !b))
 | .dy=>some .dy
 |_=>none
def lV(o:Nat->aa)(x:V):Option V:=
 match x with
 | .d .c0=>some (.d (.bool true))
 | .d (.mp _ _)=>some (.d (.bool false))
 | .mp id=>match o id with| .map _ _ _=>some (.d (.bool false))| .dT _=>some (.d (.bool false))|_=>none
 |_=>none
def lW(o:Nat->aa)(x:V):Option V:=
 match x with
 | .d .fg=>some (.d (.bool true))
 | .ptr id _=>if(o id).bc=true then some (.d (.bool false))else none
 | .pp _ _=>some (.d (.bool false))
 |_=>none
def H9(P:Program)(a b:TypeId)(x y:D):Option Bool:=
 if a=b then(match P.info? a,P.underlying a with
  |some i,some (.int _)=>if i.comparable=true then(match x,y with
   | .int k m, .int k' n=>if k=k' then some (m==n)else none
   |_,_=>none)else none
  |_,_=>none)
 else some false
def wM(P:Program)(o:Nat->aa)(t:TypeId)(kD:Bool)(x y:V):Option V:=
 match P.underlying t with
 |some (.interface _)=>match x,y with
  | .d .dS, .d .dS=>if kD=true then some (.d (.bool true))else none
  | .d (.iface _ _), .d .dS| .iface _ _, .d .dS| .d .dS, .d (.iface _ _)| .d .dS, .iface _ _=>some (.d (.bool false))
  | .d (.iface a x), .d (.iface b y)=>(H9 P a b x y).map fun r=> .d (.bool r)
  |_,_=>none
 |some (.func _ _ _)=>match x,y with
  | .d .aM, .d .aM=>some (.d (.bool true))
  | .func _ _ _, .d .aM=>some (.d (.bool false))
  |_,_=>none
 |some (.map _ _)=>match y with
  | .d .c0=>lV o x
  |_=>none
 |some (.pointer _)=>match y with
  | .d .fg=>lW o x
  |_=>none
 |some (.slice _)=>match y with
  | .aI=>rp o x
  |_=>none
 |some (.struct _)|some (.array _ _)=>match x,y with
  | .d (.agg bu), .d (.agg bs)=>if P.eqGuardType P.depth t=false then(mJ P 100 t (.agg bu) (.agg bs)).map fun r=> .d (.bool r)else none
  |_,_=>none
 |_=>none
def lX(P:Program)(o:Nat->aa)(op:BinOp)(t:TypeId)(kD:Bool)(x y:V):Option eu:=
 match op with
 | .eql=>(wM P o t kD x y).map fun v=>(v,[],[])
 | .neq=>((wM P o t kD x y).bind y8).map fun v=>(v,[],[])
 |_=>none
mutual
def D.same:D->D->Bool
 | .int k a, .int j b=>k==j&&a==b
 | .bool a, .bool b=>a==b
 | .str a, .str b=>a==b
 | .dS, .dS| .fg, .fg| .aM, .aM| .c0, .c0=>true
 | .agg bu, .agg bs=>D.dY bu bs
 | .sl bu, .sl bs=>D.dY bu bs
 | .iface t a, .iface u b=>t==u&&a.same b
 | .mp ks vs, .mp NL Hw=>D.dY ks NL&&D.dY vs Hw
 |_,_=>false
def D.dY:List D->List D->Bool
 |[],[]=>true
 |a::bu,b::bs=>a.same b&&D.dY bu bs
 |_,_=>false
end
def oF(P:Program)(t:TypeId):Option (TypeId×TypeId):=
 match P.underlying t with
 |some (.map k v)=>some (k,v)
 |_=>none
def oG(P:Program):Nat->TypeId->D->Bool
 |0,_,_=>false
 |d+1,t,x=>match a9 P t with
  |some .int|some .bool|some .str=>true
  |some (.struct fs)=>match x with
   | .agg xs=>fs.all fun f=>match eH P f.1 xs f.2 with|some y=>oG P d f.1 y|none=>false
   |_=>false
  |some (.arr n e)=>match x with
   | .agg xs=>(List.range n).all fun i=>match eH P e xs (i*P.cellsOf e)with|some y=>oG P d e y|none=>false
   |_=>false
  |none=>false
def findD(P:Program)(kt:TypeId)(k:D):List (D×D)->Nat->Option (Option (Nat×D×D))
 |[],_=>some none
 |(k',x)::l,i=>match mJ P 100 kt k k' with
  |some true=>some (some (i,k',x))
  |some false=>findD P kt k l (i+1)
  |none=>none
def mg:D->Bool
 | .int _ _| .bool _| .str _=>true
 |_=>false
def iP:D->Bool
 | .agg cs=>cs.all mg
 |x=>mg x
def nv(o:Nat->aa)(m:V):Option (Option (Nat×TypeId×TypeId)×List (D×D)):=
 match m with
 | .mp id=>match o id with
   | .map kt vt l=>some (some (id,kt,vt),l)
   |_=>none
 | .d .c0=>some (none,[])
 |_=>none
def oX(o:Nat->aa)(m:V):Option (List Nat×List (D×D)):=
 match m with
 | .mp id=>match o id with
   | .map _ _ l=>some ([id],l)
   | .dT l=>some ([id],l)
   |_=>none
 | .d .c0=>some ([],[])
 | .d (.mp ks vs)=>some ([],ks.zip vs)
 |_=>none
def kE(P:Program)(o:Nat->aa)(t:TypeId)(m k:V)(ok:Bool):Option eu:=
 match oF P t,dk o k,oX o m with
 |some (kt,vt),some kd,some (rd,l)=>if k.ids=[]/\oG P 100 kt kd=true then match findD P kt kd l 0 with
  |some (some (_,_,x))=>some (if ok=true then .bJ [.d x, .d (.bool true)]else .d x,[],rd)
  |some none=>match zeroV P vt with
   |some z=>some (if ok=true then .bJ [z, .d (.bool false)]else z,[],rd)
   |none=>none
  |none=>none
  else none
 |_,_,_=>none
def fX(P:Program)(o:Nat->aa)(t:TypeId)(m k v:V):Option eu:=
 match oF P t,dk o k,dk o v,nv o m with
 |some (kt,_),some kd,some vd,some (some (id,yU,yV),l)=>if k.ids=[]/\oG P 100 kt kd=true/\iP kd=true/\v.ids.all (· !=id)=true then match findD P kt kd l 0 with
  |some (some (i,k',_))=>if k'.same kd=true then some (.bJ [],b8 o v.ids++[(id, .map yU yV (l.set i (kd,vd)))],id::v.ids)else none
  |some none=>some (.bJ [],b8 o v.ids++[(id, .map yU yV (l++[(kd,vd)]))],id::v.ids)
  |none=>none
  else none
 |_,_,_,_=>none
def kF(P:Program)(fr:Nat)(t:TypeId):Option eu:=
 match oF P t with
 |some (kt,vt)=>some (.mp fr,[(fr, .map kt vt [])],[])
 |none=>none
def jX(P:Program)(o:Nat->aa)(fr:Nat)(t:TypeId)(x:V):Option eu:=
 match P.underlying t with
 |some .string=>match x with
  | .d (.str s)=>some (.ptr fr 0,[(fr, .oB s 0)],[])
  |_=>none
 |some (.map _ _)=>match x with
  | .d .c0=>some (.ptr fr 0,[(fr, .lS [] none)],[])
  | .d (.mp ks vs)=>some (.ptr fr 0,[(fr, .lS (ks.zip vs) none)],[])
  | .mp id=>match o id with
    | .map _ _ l=>some (.ptr fr 0,[(id, .dT l),(fr, .lS l none)],[id])
    | .dT l=>some (.ptr fr 0,[(fr, .lS l none)],[id])
    |_=>none
  |_=>none
 |_=>none
def kG(o:Nat->aa)(x:V)(str:Bool):Option eu:=
 match x with
 | .ptr id 0=>match o id with
   | .oB s pos=>if str=true then
    (if pos<s.length then some (.bJ [.d (.bool true), .d (.int .i64 pos), .d (.int .i32 (Utf8.decode ⟨⟨s⟩⟩ pos).1)],[(id, .oB s (pos+(Utf8.decode ⟨⟨s⟩⟩ pos).2))],[id])else some (.bJ [.d (.bool false)],[],[id]))
     else none
   |_=>none
 |_=>none
def kH(o:Nat->aa)(x:V):Option (Nat×List (D×D)):=
 match x with
 | .ptr id 0=>match o id with
   | .lS l _=>some (id,l)
   |_=>none
 |_=>none
def ur(id:Nat)(l:List (D×D))(K:V->List (Nat×aa)->List Nat->Prop):Prop:=
 (l=[]->K (.bJ [.d (.bool false)]) [] [id])/\∀i k x,l[i]? =some (k,x)->K (.bJ [.d (.bool true), .d k, .d x]) [(id, .lS (l.eraseIdx i) (some (k,x)))] [id]
def jY(o:Nat->aa)(x:V):Option eu:=
 match x with
 | .ptr id 0=>match o id with
   | .lS _ (some (k,x))=>some (.bJ [.d k, .d x],[],[id])
   |_=>none
 |_=>none
def kI(P:Program)(o:Nat->aa)(t:TypeId)(m k:V):Option eu:=
 match oF P t,dk o k,nv o m with
 |some (kt,_),some kd,some (some (id,yU,yV),l)=>if k.ids=[]/\oG P 100 kt kd=true then match findD P kt kd l 0 with
  |some (some (i,_,_))=>some (.bJ [],[(id, .map yU yV (l.eraseIdx i))],[id])
  |some none=>some (.bJ [],[],[id])
  |none=>none
  else none
 |_,_,_=>none
def uu(x y z:V):Option V:=
 match x,y,z with
 | .d (.int k a), .d (.int k' b), .d (.int LA c)=>if k=k'/\k=LA then some (.d (.int k (if c>(if b>a then b else a)then c else(if b>a then b else a))))else none
 |_,_,_=>none
def y9(P:Program)(ts:Array TypeId)(x:V):Option eu:=
 match ts.toList with
 |[t]=>match aB P t with
  |some _=>match x with
   | .aI=>some (.d (.int .i64 0),[],[])
   |_=>none
  |none=>none
 |_=>none
def oY(P:Program)(fr:Nat)(ts:Array TypeId)(x y:V):Option eu:=
 match ts.toList with
 |[t,t']=>if t=t' then none else match aB P t with
  |some e=>match bB P t',x,y with
   |some _, .aI, .d (.int _ n)=>if 0<n/\0<P.cellsOf e/\n.toNat*P.bytesOf e<=2^40/\n.toNat<=2^40 then match aR P e with
    |some z=>some (.osl fr 0,[(fr, .arr 0 e (P.cellsOf e) (List.replicate n.toNat z))],[])
    |none=>none
    else none
   |_,_,_=>none
  |none=>none
 |_=>none
def nw(P:Program)(s:S)(fr:Nat)(b:Builtin)(args:List Operand)(ts:Array TypeId)(K:V->List (Nat×aa)->List Nat->Prop):Prop:=
 match b,args with
 | .len,[x]=>∃t,ts.toList=[t]/\wL P t s.o (s.ev x) fun v rd=>K v [] rd
 | .append,[x,y]=>bW (oY P fr ts (s.ev x) (s.ev y)) K\/kA P s.o fr ts (s.ev x) (s.ev y) K
 | .max,[x,y]=>jt true [s.ev x,s.ev y] fun v=>K v [] []
 | .min,[x,y]=>jt false [s.ev x,s.ev y] fun v=>K v [] []
 | .max,[x,y,z]=>bW ((uu (s.ev x) (s.ev y) (s.ev z)).map fun v=>(v,[],[])) K
 | .copy,[x,y]=>bW (oW P s.o ts (s.ev x) (s.ev y)) K
 | .delete,[x,y]=>∃t,ts.toList.head?=some t/\bW (kI P s.o t (s.ev x) (s.ev y)) K
 | .cap,[x]=>bW (y9 P ts (s.ev x)) K
 |_,_=>False
def AJ(P:Program)(s:S)(fr:Nat)(op:Op)(K:V->List (Nat×aa)->List Nat->Prop):Prop:=
 match op with
 | .move x| .assign x=>K (s.ev x) [] []
 | .pick c a b=>rm (s.ev c) (s.ev a) (s.ev b) fun v=>K v [] []
 | .alloc t=>∃cs,aK P t=some cs/\K (.ptr fr 0) [(fr, .row cs)] []
 | .box _ x=>∃cs,(s.ev x).cells=some cs/\K (.ptr fr 0) [(fr, .row cs)] []
 | .build t parts=>∃z pl cs,aK P t=some z/\bS P t=some pl/\mf pl z (parts.toList.map fun p=>(p.1,s.ev p.2))=some cs/\K (cS cs) [] []
 | .buildSlice t len parts=>eR P s.o fr t len (parts.toList.map fun p=>(p.1,s.ev p.2)) K
 | .load t x=>rn P s.o t (s.ev x) fun v rd=>K v [] rd
 | .store t x v=>nr P s.o t (s.ev x) (s.ev v) fun Δ rd=>K (.bJ []) Δ rd
 | .nilCheck x=>gM s.o (s.ev x) fun v=>K v [] []
 | .binOp op t x y _=>wK P op t (s.ev x) (s.ev y) (fun v=>K v [] [])\/bW (lX P s.o op t (isConst x||isConst y) (s.ev x) (s.ev y)) K
 | .unOp op _ x=>EL op (s.ev x) (fun v=>K v [] [])\/(op= .not/\s.ev x= .dy/\K .dy [] [])
 | .convert u t x=>(P.underlying u).isSome=true/\(match bB P t,s.ev x with
   |some k, .d (.int _ n)=>K (.d (.int k (k.wrap n))) [] []
   |_,_=>False)
 | .makeInterface t x=>(∃d,P.underlying t=some d/\(match d with| .interface _=>false|_=>true)=true)/\(match s.ev x with
   | .d y=>K (.d (.iface t y)) [] []
   |v=>K (.iface t v) [] [])
 | .makeFunc fn first cap=>K (.func fn (first.toList.map s.ev) (cap.toList.map s.ev)) [] []
 | .makeSlice t l c=>fF P fr t (s.ev l) (s.ev c) fun v Δ=>K v Δ []
 | .fieldAddr t x f=>fE P s.o t (s.ev x) f fun v=>K v [] []
 | .indexAddr t x i=>fD P s.o t (s.ev x) (s.ev i) fun v rd=>K v [] rd
 | .extract x i=>match s.ev x with
   | .bJ vs=>∃v,vs[i]? =some v/\K v [] []
   |_=>False
 | .slice t x lo hi mx=>bW (lU P s.o t (s.ev x) (lo.map s.ev) (hi.map s.ev) (mx.map s.ev)) K
 | .field t x f=>bW ((ns P t (s.ev x) f).map fun v=>(v,[],[])) K
 | .index t x i=>bW ((nu P t (s.ev x) (s.ev i)).map fun v=>(v,[],[])) K
 | .makeMap t none=>bW (kF P fr t) K
 | .lookup t m k ok=>bW (kE P s.o t (s.ev m) (s.ev k) ok) K
 | .mapUpdate t m k v=>bW (fX P s.o t (s.ev m) (s.ev k) (s.ev v)) K
 | .insert t m k v=>bW (fX P s.o t (s.ev m) (s.ev k) (s.ev v)) K
 | .range t x=>bW (jX P s.o fr t (s.ev x)) K
 | .next x str=>bW (kG s.o (s.ev x) str) K\/(str=false/\∃id l,kH s.o (s.ev x)=some (id,l)/\ur id l K)
 | .entry x=>bW (jY s.o (s.ev x)) K
 | .typeAssert x _ t ok=>bW ((kC P t ok (s.ev x)).map fun v=>(v,[],[])) K
 | .call c=>match c.callee with
   | .builtin b=>nw P s fr b c.args.toList c.argTypes K
   |_=>False
 |_=>False
end Go.Proofs.YtbmnikpknlkbkaaGreat
namespace Go.Proofs.YtbmnikpknlkbkaaGreat
section
variable {B:Nat->Prop}{φ:Place}{H:Hp}{w:World}
theorem V.aj:∀ (cs:List V) (vs:List Value),V.ak B φ H w cs vs->vs.length=cs.length
 |[],_,h=>by simp[V.ak]at h;simp[h]
 |c::cs,_,h=>by obtain⟨u,us,rfl,_,h2⟩:=h;simp[V.aj cs us h2]
theorem V.cD:∀ (cs:List V) (vs:List Value) (i:Nat) (c:V),V.ak B φ H w cs vs->cs[i]? =some c->∃v,vs[i]? =some v/\V.den B φ H w c v
 |[],_,_,_,_,hd=>by simp at hd
 |c::cs,_,0,x,h,hd=>by
  obtain⟨u,us,rfl,h1,_⟩:=h
  simp at hd;subst hd;exact⟨u,by simp,h1⟩
 |c::cs,_,i+1,x,h,hd=>by
  obtain⟨u,us,rfl,_,h2⟩:=h
  simpa using V.cD cs us i x h2 (by simpa using hd)
theorem V.aQ:∀ (cs ds:List V) (us vs:List Value),V.ak B φ H w cs us->V.ak B φ H w ds vs->V.ak B φ H w (cs++ds) (us++vs)
 |[],ds,us,vs,h,k=>by simp[V.ak]at h;subst h;simpa using k
 |c::cs,ds,_,vs,h,k=>by
  obtain⟨u,us,rfl,h1,h2⟩:=h
  exact⟨u,us++vs,by simp,h1,V.aQ cs ds us vs h2 k⟩
theorem V.cE:∀ (n:Nat) (cs:List V) (vs:List Value),V.ak B φ H w cs vs->V.ak B φ H w (cs.take n) (vs.take n)
 |0,_,_,_=>by simp[V.ak]
 |n+1,[],_,h=>by simp[V.ak]at h;subst h;simp[V.ak]
 |n+1,c::cs,_,h=>by
  obtain⟨u,us,rfl,h1,h2⟩:=h
  exact⟨u,us.take n,by simp,h1,V.cE n cs us h2⟩
theorem V.cX:∀ (n:Nat) (cs:List V) (vs:List Value),V.ak B φ H w cs vs->V.ak B φ H w (cs.drop n) (vs.drop n)
 |0,_,_,h=>by simpa using h
 |n+1,[],_,h=>by simp[V.ak]at h;subst h;simp[V.ak]
 |n+1,c::cs,_,h=>by
  obtain⟨u,us,rfl,h1,h2⟩:=h
  simpa using V.cX n cs us h2
theorem V.bE:∀ (ds:List D) (vs:List Value),V.ak B φ H w (ds.map .d) vs↔D.ak B w ds vs
 |[],vs=>by simp[V.ak,D.ak]
 |x::ds,vs=>by simp only[List.map_cons,V.ak,D.ak,V.den,V.bE ds]
theorem D.aQ:∀ (cs ds:List D) (us vs:List Value),D.ak B w cs us->D.ak B w ds vs->D.ak B w (cs++ds) (us++vs)
 |[],ds,us,vs,h,k=>by simp[D.ak]at h;subst h;simpa using k
 |c::cs,ds,_,vs,h,k=>by
  obtain⟨u,us,rfl,h1,h2⟩:=h
  exact⟨u,us++vs,by simp,h1,D.aQ cs ds us vs h2 k⟩
theorem D.cE:∀ (n:Nat) (cs:List D) (vs:List Value),D.ak B w cs vs->D.ak B w (cs.take n) (vs.take n)
 |0,_,_,_=>by simp[D.ak]
 |n+1,[],_,h=>by simp[D.ak]at h;subst h;simp[D.ak]
 |n+1,c::cs,_,h=>by
  obtain⟨u,us,rfl,h1,h2⟩:=h
  exact⟨u,us.take n,by simp,h1,D.cE n cs us h2⟩
theorem D.cX:∀ (n:Nat) (cs:List D) (vs:List Value),D.ak B w cs vs->D.ak B w (cs.drop n) (vs.drop n)
 |0,_,_,h=>by simpa using h
 |n+1,[],_,h=>by simp[D.ak]at h;subst h;simp[D.ak]
 |n+1,c::cs,_,h=>by
  obtain⟨u,us,rfl,h1,h2⟩:=h
  simpa using D.cX n cs us h2
theorem D.rq:∀ (i:Nat) (ds:List D) (vs:List Value) (x:D) (v:Value),D.ak B w ds vs->D.den B w x v->D.ak B w (ds.set i x) (vs.set i v)
 |_,[],_,_,_,h,_=>by simp[D.ak]at h;subst h;simp[D.ak]
 |0,c::cs,_,x,v,h,k=>by
  obtain⟨u,us,rfl,h1,h2⟩:=h
  exact⟨v,us,by simp,k,h2⟩
 |i+1,c::cs,_,x,v,h,k=>by
  obtain⟨u,us,rfl,h1,h2⟩:=h
  exact⟨u,us.set i v,by simp,h1,D.rq i cs us x v h2 k⟩
theorem oZ:∀ (cs:List V) (ds:List D),p4 cs=some ds->cs=ds.map .d
 |[],ds,h=>by simp[p4]at h;subst h;rfl
 | .d x::cs,ds,h=>by
   simp only[p4,Option.map_eq_some_iff]at h
   obtain⟨a,h1,rfl⟩:=h
   simp[oZ cs a h1]
 | .aI::_,_,h| .agg _::_,_,h| .bJ _::_,_,h| .ptr _ _::_,_,h| .osl _ _::_,_,h| .pe _ _ _ _ _::_,_,h| .pp _ _::_,_,h
 | .func _ _ _::_,_,h| .iface _ _::_,_,h| .aE::_,_,h| .jU _::_,_,h| .nm _ _ _::_,_,h| .mp _::_,_,h| .dy::_,_,h=>by simp[p4]at h
theorem gN(cs:List V)(a:Array Value)(h:V.ak B φ H w cs a.toList)(hf:Flat a.toList):V.den B φ H w (cS cs) (.agg a):=by
 unfold cS
 split
 ·rename_i ds hd
  have:=oZ cs ds hd
  subst this
  exact⟨a,rfl,(V.bE ds _).1 h,hf⟩
 ·exact⟨a,rfl,h,hf⟩
theorem D.ju:∀ (x:D) (v:Value),D.den B w x v->(∃cs a,x= .agg cs/\v= .agg a)\/v.oneCell'=true/\x.cells=[x]/\v.cells=#[v]
 | .int _ _,_,h| .bool _,_,h| .dS,_,h| .fg,_,h| .aM,_,h| .c0,_,h=>by
   simp only[D.den]at h;subst h;exact .inr ⟨rfl,rfl,rfl⟩
 | .str l,_,h=>by obtain⟨s,rfl,_⟩:=h;exact .inr ⟨rfl,rfl,rfl⟩
 | .agg cs,_,h=>by obtain⟨a,rfl,_,_⟩:=h;exact .inl ⟨cs,a,rfl,rfl⟩
 | .sl es,_,h=>by obtain⟨b,l,c,rfl,_⟩:=h;exact .inr ⟨rfl,rfl,rfl⟩
 | .iface t x,_,h=>by obtain⟨u,rfl,_⟩:=h;exact .inr ⟨rfl,rfl,rfl⟩
 | .mp ks vs,_,h=>by obtain⟨m,es,c,p,rfl,_⟩:=h;exact .inr ⟨rfl,rfl,rfl⟩
theorem D.dz (x:D)(v:Value)(h:D.den B w x v):D.ak B w x.cells v.cells.toList/\Flat v.cells.toList:=by
 rcases D.ju x v h with⟨cs,a,rfl,rfl⟩|⟨h1,h2,h3⟩
 ·obtain⟨a',h1,h2,h3⟩:=h
  injection h1 with h1;subst h1
  exact⟨h2,h3⟩
 ·rw[h2,h3]
  exact⟨⟨v,[],rfl,h,rfl⟩,by intro u hu;simp at hu;subst hu;exact h1⟩
theorem V.ju (x:V)(v:Value)(us:List V)(hx:x.cells=some us)(h:V.den B φ H w x v):V.ak B φ H w us v.cells.toList/\Flat v.cells.toList:=by
 have one:∀ (y:V),v.oneCell'=true->V.den B φ H w y v->V.ak B φ H w [y] v.cells.toList/\Flat v.cells.toList:=by
  intro y h1 h2
  have h3:v.cells=#[v]:=by cases v<;>simp_all[Value.oneCell',Value.cells]
  rw[h3]
  exact⟨⟨v,[],rfl,h2,rfl⟩,by intro u hu;simp at hu;subst hu;exact h1⟩
 cases x with
 |d x=>
  simp only[V.cells,Option.some.injEq]at hx;subst hx
  have:=D.dz x v h
  exact⟨(V.bE _ _).2 this.1,this.2⟩
 |aI=>simp only[V.cells,Option.some.injEq]at hx;subst hx;exact one _ (by cases h;rfl) h
 |agg cs=>
  simp only[V.cells,Option.some.injEq]at hx;subst hx
  obtain⟨a,rfl,h1,h2⟩:=h
  exact⟨h1,h2⟩
 |bJ vs=>simp[V.cells]at hx
 |aE=>simp[V.cells]at hx
 |ptr id off=>simp only[V.cells,Option.some.injEq]at hx;subst hx;exact one _ h.1 h
 |osl id ep=>simp only[V.cells,Option.some.injEq]at hx;subst hx;exact one _ h.1 h
 |pe id ep i sz off=>simp only[V.cells,Option.some.injEq]at hx;subst hx;exact one _ h.1 h
 |pp cs off=>simp only[V.cells,Option.some.injEq]at hx;subst hx;exact one _ (by obtain⟨a,ev,_,rfl,_⟩:=h;rfl) h
 |func fn f c=>simp only[V.cells,Option.some.injEq]at hx;subst hx;exact one _ (by obtain⟨a,ev,rfl,_⟩:=h;rfl) h
 |iface t y=>simp only[V.cells,Option.some.injEq]at hx;subst hx;exact one _ (by obtain⟨a,rfl,_⟩:=h;rfl) h
 |jU es=>simp only[V.cells,Option.some.injEq]at hx;subst hx;exact one _ (by obtain⟨_,b,n,rfl⟩:=h;rfl) h
 |nm id off n=>simp only[V.cells,Option.some.injEq]at hx;subst hx;exact one _ h.1 h
 |mp id=>simp only[V.cells,Option.some.injEq]at hx;subst hx;exact one _ h.1 h
 |js id=>simp only[V.cells,Option.some.injEq]at hx;subst hx;exact one _ h.1 h
 |dy=>simp only[V.cells,Option.some.injEq]at hx;subst hx;exact one _ (by obtain⟨a,rfl⟩:=h;rfl) h
theorem ig(v:Value)(h:v.oneCell'=true):V.den B φ H w (V.cn v) v:=by
 cases v<;>simp_all only[Value.oneCell',V.cn,V.den,D.den]<;>try trivial
 all_goals (try (split<;>simp_all[V.den,D.den]))
 all_goals (try first|(simp_all[D.den];done)|simp_all)
theorem cF:∀ (vs:List Value),Flat vs->V.ak B φ H w (vs.map V.cn) vs
 |[],_=>rfl
 |v::vs,h=>⟨v,vs,rfl,ig v (h v (by simp)),cF vs fun u hu=>h u (by simp[hu])⟩
end
end Go.Proofs.YtbmnikpknlkbkaaGreat
namespace Go.Proofs.YtbmnikpknlkbkaaGreat
theorem jv(H:Hp):H.put []=H:=by
 obtain⟨o,us⟩:=H
 simp[Hp.put,put]
theorem cN(H:Hp)(A C:List (Nat×aa)):H.put (A++C)=(H.put A).put C:=by
 obtain⟨o,us⟩:=H
 simp only[Hp.put,put,List.foldl_append,Hp.mk.injEq,true_and]
 funext id
 simp only[List.map_append,List.mem_append,eq_iff_iff]
 exact⟨fun h=>by rcases h with h|h|h<;>simp[h],fun h=>by rcases h with(h|h)|h<;>simp[h]⟩
@[simp] theorem aU (H:Hp) (i:Nat) (x:aa):(H.put [(i,x)]).o=aV H.o i x:=rfl
@[simp] theorem cO (H:Hp) (i j:Nat) (x:aa):(H.put [(i,x)]).us j↔(H.us j\/j=i):=by simp[Hp.put]
section
variable {M:Nat->Prop}{φ ai:Place}{H H':Hp}{w w':World}
theorem aq.rr (q9:∀b,bC w b-> ¬ad M φ H b->w'.heap[b]? =w.heap[b]? /\ ¬ad M ai H' b)(LB:cM φ H ai H'){id:Nat}(ho:H'.o id=H.o id)(cz:ai id=φ id)
 (hb:(H.o id).live=true->∀b,cW (φ id)=some b->w'.heap[b]? =w.heap[b]?) (h:aq M φ H w id):aq M ai H' w' id:=by
 unfold aq at*
 rw[ho]
 cases hx:H.o id with
 |no=>trivial
 |row cs=>
  simp only[hx]at h|-
  obtain⟨b,bY,ty,h1,h2,h3,h4⟩:=h
  exact⟨b,bY,ty,cz.trans h1,(hb (by rw[hx];rfl) b (by rw[h1];rfl)).trans h2,V.dU q9 LB cs _ h3,h4⟩
 |arr ep ty sz es=>
  simp only[hx]at h|-
  obtain⟨h0,xs,h1,evs,h2,h3,h4⟩:=h
  refine⟨h0,xs, ?_,evs,h2,h3,D.aw q9 es evs h4⟩
  rw[cz]
  obtain⟨g1,g2⟩:=h1
  refine⟨g1, ?_⟩
  rcases g2 with g2|⟨g,cap,cur,k1,k2,k3,k4⟩
  ·exact .inl g2
  ·exact .inr ⟨g,cap,cur,k1,k2,(hb (by rw[hx];rfl) g (by rw[k1];rfl)).trans k3,k4⟩
 |ky ep es=>
  simp only[hx]at h|-
  rw[cz]
  exact D.ao q9 (.sl es) _ h
 |map kt vt l=>
  simp only[hx]at h|-
  obtain⟨b,es,clock,h1,h2,h4,h3⟩:=h
  exact⟨b,es,clock,cz.trans h1,(hb (by rw[hx];rfl) b (by rw[h1];rfl)).trans h2,h4,au.mono q9 l _ h3⟩
 |dT l=>
  simp only[hx]at h|-
  rw[cz]
  exact D.ao q9 (.mp _ _) _ h
 |lS l last=>
  simp only[hx]at h|-
  obtain⟨b,h1,h2⟩:=h
  exact⟨b,cz.trans h1,h2.mono q9 (hb (by rw[hx];rfl) b (by rw[h1];rfl))⟩
 |oB s pos=>
  simp only[hx]at h|-
  obtain⟨b,h1,h2⟩:=h
  exact⟨b,cz.trans h1,(hb (by rw[hx];rfl) b (by rw[h1];rfl)).trans h2⟩
 |loop nf n env ps jE fW st vm=>
  simp only[hx]at h|-
  obtain⟨b,r,h1,h2,h0,h3,h4,h5,h6,h7,h8,h9⟩:=h
  exact⟨b,r,cz.trans h1,(hb (by rw[hx];rfl) b (by rw[h1];rfl)).trans h2,h0,h3,h4,h5,h6,h7,h8,fun i=>V.gL q9 LB _ _ (h9 i)⟩
theorem aq.mono (ht:Trans φ H w ai H' w'){id:Nat}(ho:H'.o id=H.o id)(cz:ai id=φ id)
 (hb:(H.o id).live=true->∀b,cW (φ id)=some b->w'.heap[b]? =w.heap[b]?) (h:aq M φ H w id):aq M ai H' w' id:=aq.rr ht.blocks ht.rel ho cz hb h
theorem af.of (hH:af M φ H w)(ht:Trans φ H w ai H' w')(T:Nat->Prop)(hT:∀id,T id->aq M ai H' w' id)
 (hn:∀id, ¬T id->H'.o id=H.o id/\ai id=φ id/\((H.o id).live=true->∀b,cW (φ id)=some b->w'.heap[b]? =w.heap[b]?))
 (fG:∀id, ¬H'.us id->H'.o id= .no)
 (NM:∀i j b,(H'.o i).live=true->(H'.o j).live=true->cW (ai i)=some b->cW (ai j)=some b->i=j)
 (EM:∀b,bp ai H' b->b<w'.heap.size):af M ai H' w' where
 ok id:=by
  by_cases hc:T id
  ·exact hT id hc
  ·obtain⟨h1,h2,h3⟩:=hn id hc
   exact(hH.ok id).mono ht h1 h2 h3
 fresh:=fG
 apart:=NM
 ours b hb:=by
  refine⟨fun hM=> ?_,EM b hb⟩
  rcases ht.grow b hb with h1|h1
  ·exact(hH.ours b h1).1 hM
  ·have:=hH.oE b hM;omega
 oE b hM:=Nat.lt_of_lt_of_le (hH.oE b hM) ht.bD.size
theorem cY(hk:dh (fun _=>False) w w'){fr:Nat}(de: ¬H.us fr)(obj:aa)(val:Value)(da:∀b,cW val=some b->w.heap.size<=b):
 Trans φ H w (aV φ fr val) (H.put [(fr,obj)]) w' where
 bD:=⟨hk.os,hk.tape,hk.output,hk.size,fun k h _=>hk.block k h (fun h=>h)⟩
 grow b:=by
  rintro⟨id,h1,h2⟩
  by_cases ag:id=fr
  ·subst ag;simp at h2;exact .inr (da b h2)
  ·simp[ag]at h1 h2;exact .inl ⟨id,h1,h2⟩
 rel:={
  us:=fun id h=>by simp[h]
  row:=fun id hu hr=>by
   have ag:id≠fr:=fun h=>de (h ▸ hu)
   simp[ag]at hr|-;exact hr
  ep:=fun id e' hu he=>by
   have ag:id≠fr:=fun h=>de (h ▸ hu)
   simp[ag]at he|-;exact⟨e',he,Nat.le_refl _⟩}
theorem eS(hH:af M φ H w)(hk:dh (fun _=>False) w w'){fr:Nat}(de: ¬H.us fr)(obj:aa)(val:Value)(da:∀b,cW val=some b->w.heap.size<=b/\b<w'.heap.size)
 (ny:aq M (aV φ fr val) (H.put [(fr,obj)]) w' fr):af M (aV φ fr val) (H.put [(fr,obj)]) w':=by
 have ht:Trans φ H w (aV φ fr val) (H.put [(fr,obj)]) w':=cY hk de obj val fun b hb=>(da b hb).1
 refine hH.of ht (· =fr) (fun id h=>h ▸ ny) (fun id h=> ?_) (fun id h=> ?_) (fun i j b hi hj bi bj=> ?_) (fun b=> ?_)
 ·refine⟨by simp[h],by simp[h],fun hl b hb=>hk.block b ?_ (fun h=>h)⟩
  exact(hH.ours b ⟨id,hl,hb⟩).2
 ·rw[cO]at h
  have h1:id≠fr:=fun e=>h (.inr e)
  simp only[aU,ax,h1,if_false]
  exact hH.fresh id fun hu=>h (.inl hu)
 ·by_cases e1:i=fr<;>by_cases e2:j=fr
  ·exact e1.trans e2.symm
  ·simp[e1,e2]at hi hj bi bj
   have:=(hH.ours b ⟨j,hj,bj⟩).2;have:=(da b bi).1;omega
  ·simp[e1,e2]at hi hj bi bj
   have:=(hH.ours b ⟨i,hi,bi⟩).2;have:=(da b bj).1;omega
  ·simp[e1,e2]at hi hj bi bj
   exact hH.apart i j b hi hj bi bj
 ·rintro⟨id,h1,h2⟩
  by_cases ag:id=fr
  ·subst ag;simp at h2;exact(da b h2).2
  ·simp[ag]at h1 h2
   exact Nat.lt_of_lt_of_le (hH.ours b ⟨id,h1,h2⟩).2 hk.size
theorem bF(w:World)(o:Obj):dh (fun _=>False) w (w.alloc o):=
 ⟨rfl,rfl,rfl,by simp,fun k hk _=>RowKit.Below.heap_alloc w o k hk⟩
theorem ij{w w':World}(h:w.grownBy w' none):dh (fun _=>False) w w':=
 ⟨h.os,h.tape,h.output,h.size,fun k hk _=>h.block k hk (by simp)⟩
theorem zc(hH:af M φ H w){fr:Nat}(de: ¬H.us fr)(cs:List V)(bY:Array Value)(ty:TypeId)(hd:V.ak (ad M φ H) φ H w cs bY.toList)(hf:Flat bY.toList):
 let ai:=aV φ fr (.pointer (some ⟨w.heap.size,0,none⟩));let H':=H.put [(fr, .row cs)];let w':=w.alloc (.cells bY ty)
 af M ai H' w'/\Trans φ H w ai H' w'/\V.den (ad M ai H') ai H' w' (.ptr fr 0) (.pointer (some ⟨w.heap.size,0,none⟩)):=by
 intro ai H' w'
 have hv:∀b,cW (.pointer (some ⟨w.heap.size,0,none⟩))=some b->w.heap.size<=b/\b<w'.heap.size:=by
  intro b hb;simp[cW]at hb;subst hb;simp[w']
 have ht:Trans φ H w ai H' w':=cY (bF w _) de _ _ fun b hb=>(hv b hb).1
 refine⟨eS hH (bF w _) de _ _ hv ?_,ht,rfl,by simp[H'],fun _=>⟨w.heap.size,by simp[ai],rfl⟩⟩
 unfold aq
 simp only[aU,ax,if_true]
 exact⟨w.heap.size,bY,ty,rfl,heap_alloc_new w _,V.aw ht cs _ hd,hf⟩
theorem dV{id:Nat}(cJ:H.us id){b:Nat}(bq:(H.o id).live=true)(hb:cW (φ id)=some b)(hk:dh (· =b) w w')(obj:aa)(aY:obj.bc=(H.o id).bc)(mK:obj.aL=(H.o id).aL):
 Trans φ H w φ (H.put [(id,obj)]) w' where
 bD:=⟨hk.os,hk.tape,hk.output,hk.size,fun k h hl=>hk.block k h (fun e=>hl ⟨id,bq,e ▸ hb⟩)⟩
 grow b':=by
  rintro⟨j,h1,h2⟩
  by_cases hj:j=id
  ·subst hj;exact .inl ⟨j,bq,h2⟩
  ·simp[hj]at h1;exact .inl ⟨j,h1,h2⟩
 rel:={
  us:=fun j h=>by simp[h]
  row:=fun j hu hr=>by
   by_cases hj:j=id
   ·subst hj;simp at hr;exact⟨aY ▸ hr,rfl⟩
   ·simp[hj]at hr;exact⟨hr,rfl⟩
  ep:=fun j e' hu he=>by
   by_cases hj:j=id
   ·subst hj;simp at he;exact⟨e',mK ▸ he,Nat.le_refl _,fun _=>rfl⟩
   ·simp[hj]at he;exact⟨e',he,Nat.le_refl _,fun _=>rfl⟩}
theorem fl(hH:af M φ H w){id:Nat}(cJ:H.us id){b:Nat}(bq:(H.o id).live=true)(hb:cW (φ id)=some b)(hk:dh (· =b) w w')(obj:aa)(aY:obj.bc=(H.o id).bc)
 (mK:obj.aL=(H.o id).aL) (ny:aq M φ (H.put [(id,obj)]) w' id):af M φ (H.put [(id,obj)]) w':=by
 refine hH.of (dV cJ bq hb hk obj aY mK) (· =id) (fun j h=>h ▸ ny) (fun j h=> ?_) (fun j h=> ?_) (fun i j b' hi hj bi bj=> ?_) (fun b'=> ?_)
 ·refine⟨by simp[h],rfl,fun hl b' Hx=>hk.block b' (hH.ours b' ⟨j,hl,Hx⟩).2 fun e=>h ?_⟩
  exact hH.apart j id b hl bq (e ▸ Hx) hb
 ·rw[cO]at h
  have h1:j≠id:=fun e=>h (.inr e)
  simp only[aU,ax,h1,if_false]
  exact hH.fresh j fun hu=>h (.inl hu)
 ·refine hH.apart i j b' ?_ ?_ bi bj
  ·by_cases e:i=id
   ·subst e;exact bq
   ·simpa[e]using hi
  ·by_cases e:j=id
   ·subst e;exact bq
   ·simpa[e]using hj
 ·rintro⟨j,h1,h2⟩
  refine Nat.lt_of_lt_of_le (hH.ours b' ⟨j, ?_,h2⟩).2 hk.size
  by_cases e:j=id
  ·subst e;exact bq
  ·simpa[e]using h1
theorem fY(w:World)(b:Nat)(cs:Array Value):dh (· =b) w (w.setRow b cs):=
 ⟨rfl,rfl,rfl,by simp,fun k _ hk=>by
  unfold World.setRow
  simp only[Array.getElem?_modify]
  rw[if_neg (fun e=>hk e.symm)]⟩
theorem ru(hH:af M φ H w){id b:Nat}(cJ:H.us id){cs cs':List V}(ho:H.o id= .row cs)(cz:φ id= .pointer (some ⟨b,0,none⟩)){bY:Array Value}{ty:TypeId}
 (hb:w.heap[b]? =some (.cells bY ty (0,0))) (kJ:Array Value) (hd:V.ak (ad M φ H) φ H w cs' kJ.toList) (hf:Flat kJ.toList):
 af M φ (H.put [(id, .row cs')]) (w.setRow b kJ)/\Trans φ H w φ (H.put [(id, .row cs')]) (w.setRow b kJ):=by
 have hl:(H.o id).live=true:=by rw[ho];rfl
 have q9:cW (φ id)=some b:=by rw[cz];rfl
 have ht:Trans φ H w φ (H.put [(id, .row cs')]) (w.setRow b kJ):=dV cJ hl q9 (fY w b kJ) _ (by rw[ho];rfl) (by rw[ho];rfl)
 refine⟨fl hH cJ hl q9 (fY w b kJ) _ (by rw[ho];rfl) (by rw[ho];rfl) ?_,ht⟩
 unfold aq
 simp only[aU,ax,if_true]
 exact⟨b,kJ,ty,cz,setRow_heap w b bY kJ ty (0,0) hb,V.aw ht cs' _ hd,hf⟩
theorem kK{B:Nat->Prop}{sz g:Nat}(cur:Array Value)(ty:TypeId)(fz:Nat×Nat)(hg:w.heap[g]? =some (.cells cur ty fz))(hB: ¬B g):
 ∀ (es:List D) (evs:List Value) (i:Nat),D.ak B w es evs->(∀ev∈evs,ev.cells.size=sz)->(∀j u,(evs.flatMap (·.cells.toList))[j]? =some u->cur[i*sz+j]? =some u)->D.elems B w sz ⟨g,0,none⟩ i es
 |[],_,_,_,_,_=>trivial
 |e::es,_,i,h,hs,hc=>by
  obtain⟨ev,evs,rfl,h1,h2⟩:=h
  have cK:ev.cells.size=sz:=hs ev (by simp)
  refine⟨⟨ev,cK,fun j u hj=> ?_,h1⟩,kK cur ty fz hg hB es evs (i+1) h2 (fun x hx=>hs x (by simp[hx])) fun j u hj=> ?_⟩
  ·have br:j<ev.cells.size:=(Array.getElem?_eq_some_iff.1 hj).1
   have:cur[i*sz+j]? =some u:=hc j u (by
    rw[List.flatMap_cons,List.getElem?_append_left (by simpa using br)];simpa using hj)
   refine⟨?_,by simpa using hB⟩
   unfold Addr.add World.cell?
   by_cases e1:i*sz=0<;>by_cases e2:j=0<;>simp_all
  ·have:=hc (sz+j) u (by
    rw[List.flatMap_cons,List.getElem?_append_right (by simp[cK])]
    simpa[cK]using hj)
   rw[show(i+1)*sz+j=i*sz+(sz+j) by rw[Nat.add_mul];omega]
   exact this
theorem zd(hH:af M φ H w){id ep sz:Nat}{ty:TypeId}{es:List D}(cJ:H.us id)(ho:H.o id= .arr ep ty sz es):
 af M φ (H.put [(id, .ky ep es)]) w/\Trans φ H w φ (H.put [(id, .ky ep es)]) w:=by
 have vq:∀b,bp φ (H.put [(id, .ky ep es)]) b->bp φ H b:=by
  rintro b ⟨j,h1,h2⟩
  by_cases hj:j=id
  ·subst hj;simp[aa.live]at h1
  ·simp[hj]at h1;exact⟨j,h1,h2⟩
 have ht:Trans φ H w φ (H.put [(id, .ky ep es)]) w:={
  bD:=dh.refl _ _
  grow:=fun b hb=> .inl (vq b hb)
  rel:={
   us:=fun j h=>by simp[h]
   row:=fun j hu hr=>by
    by_cases hj:j=id
    ·subst hj;simp[aa.bc]at hr
    ·simp[hj]at hr;exact⟨hr,rfl⟩
   ep:=fun j e' hu he=>by
    by_cases hj:j=id
    ·subst hj;simp[aa.aL]at he;subst he;exact⟨ep,by rw[ho];rfl,Nat.le_refl _,fun _=>rfl⟩
    ·simp[hj]at he;exact⟨e',he,Nat.le_refl _,fun _=>rfl⟩}}
 refine⟨hH.of ht (· =id) (fun j h=> ?_) (fun j h=>⟨by simp[h],rfl,fun _ _ _=>rfl⟩) (fun j h=> ?_) (fun i j b hi hj bi bj=> ?_) (fun b hb=>(hH.ours b (vq b hb)).2),ht⟩
 ·subst h
  have a8:=hH.ok j
  unfold aq at a8|-
  simp only[ho,aU,ax,if_true]at a8|-
  obtain⟨h0,xs,⟨hl,aY⟩,evs,rfl,h2,h3⟩:=a8
  have hlen:=D.aj _ _ h3
  rcases aY with⟨h4,h5⟩|⟨g,cap,cur,h4,_,h5,h6,h7,h8,h9⟩
  ·rw[h4]
   have:es=[]:=by simpa using h5
   subst this
   exact⟨none,0,0,rfl,rfl,Nat.le_refl _,fun _=>rfl,0,fun a ha=>by cases ha⟩
  ·rw[h4]
   refine⟨some ⟨g,0,none⟩,es.length,cap,rfl,rfl,h6,(fun h=>by cases h),sz,fun a ha=> ?_⟩
   injection ha with ha;subst ha
   refine⟨fun _=>rfl,kK cur ty (0,0) h5 ?_ es evs 0 (D.aw (ht.blocks (M:=M)) es evs h3) h2 fun j' u wB=> ?_⟩
   ·rintro(hM|⟨i,ze,wN⟩)
    ·exact(hH.ours g ⟨j,by rw[ho];rfl,by rw[h4];rfl⟩).1 hM
    ·by_cases e:i=j
     ·subst e;simp[aa.live]at ze
     ·simp[e]at ze
      exact e (hH.apart i j g ze (by rw[ho];rfl) wN (by rw[h4];rfl))
   ·rw[<- h9]at wB
    simp only[Nat.zero_mul,Nat.zero_add]
    rw[List.getElem?_take]at wB
    split at wB
    ·simpa using wB
    ·cases wB
 ·rw[cO]at h
  have h1:j≠id:=fun e=>h (.inr e)
  simp only[aU,ax,h1,if_false]
  exact hH.fresh j fun hu=>h (.inl hu)
 ·by_cases e1:i=id
  ·subst e1;simp[aa.live]at hi
  ·by_cases e2:j=id
   ·subst e2;simp[aa.live]at hj
   ·simp[e1,e2]at hi hj;exact hH.apart i j b hi hj bi bj
theorem uv(hH:af M φ H w){id:Nat}{kt vt:TypeId}{l:List (D×D)}(cJ:H.us id)(ho:H.o id= .map kt vt l):
 af M φ (H.put [(id, .dT l)]) w/\Trans φ H w φ (H.put [(id, .dT l)]) w:=by
 have vq:∀b,bp φ (H.put [(id, .dT l)]) b->bp φ H b:=by
  rintro b ⟨j,h1,h2⟩
  by_cases hj:j=id
  ·subst hj;simp[aa.live]at h1
  ·simp[hj]at h1;exact⟨j,h1,h2⟩
 have ht:Trans φ H w φ (H.put [(id, .dT l)]) w:={
  bD:=dh.refl _ _
  grow:=fun b hb=> .inl (vq b hb)
  rel:={
   us:=fun j h=>by simp[h]
   row:=fun j hu hr=>by
    by_cases hj:j=id
    ·subst hj;exact⟨by rw[ho];rfl,rfl⟩
    ·simp[hj]at hr;exact⟨hr,rfl⟩
   ep:=fun j e' hu he=>by
    by_cases hj:j=id
    ·subst hj;simp[aa.aL]at he
    ·simp[hj]at he;exact⟨e',he,Nat.le_refl _,fun _=>rfl⟩}}
 refine⟨hH.of ht (· =id) (fun j h=> ?_) (fun j h=>⟨by simp[h],rfl,fun _ _ _=>rfl⟩) (fun j h=> ?_) (fun i j b hi hj bi bj=> ?_) (fun b hb=>(hH.ours b (vq b hb)).2),ht⟩
 ·subst h
  have a8:=hH.ok j
  unfold aq at a8|-
  simp only[ho,aU,ax,if_true]at a8|-
  obtain⟨b,es,clock,h1,h2,h3,h4⟩:=a8
  obtain⟨h5,h6⟩:=(gK _ _).1 h4
  refine⟨b,es,clock,es.toList,h1,h2, ?_,h3, .inl rfl,D.aw (ht.blocks (M:=M)) _ _ h5,D.aw (ht.blocks (M:=M)) _ _ h6⟩
  rintro(hM|⟨i,ze,wN⟩)
  ·exact(hH.ours b ⟨j,by rw[ho];rfl,by rw[h1];rfl⟩).1 hM
  ·by_cases e:i=j
   ·subst e;simp[aa.live]at ze
   ·simp[e]at ze
    exact e (hH.apart i j b ze (by rw[ho];rfl) wN (by rw[h1];rfl))
 ·rw[cO]at h
  have h1:j≠id:=fun e=>h (.inr e)
  simp only[aU,ax,h1,if_false]
  exact hH.fresh j fun hu=>h (.inl hu)
 ·by_cases e1:i=id
  ·subst e1;simp[aa.live]at hi
  ·by_cases e2:j=id
   ·subst e2;simp[aa.live]at hj
   ·simp[e1,e2]at hi hj;exact hH.apart i j b hi hj bi bj
end
end Go.Proofs.YtbmnikpknlkbkaaGreat
