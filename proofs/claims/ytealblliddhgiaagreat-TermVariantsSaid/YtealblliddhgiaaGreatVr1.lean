/-
  A PART OF THE PROOF. Conditions: none.
-/
import Derived.WalkKit
import Derived.Below
set_option linter.unusedSimpArgs false
set_option linter.unusedVariables false
namespace Go.Proofs.YtealblliddhgiaaGreat
def p7(ops:Array Oper)(j:Nat):Option Tmp:=(ops[j]?).bind (·.dst)
structure b7 where
 dst:Option Nat
 op:Op
 gd:Option (Nat×Bool):=none
instance:Inhabited b7:=⟨⟨none, .ready 0,none⟩⟩
def zl(n:Nat):Option Tmp->Bool
 |some d=>decide (d<n)
 |none=>true
def DX(n:Nat)(ops:Array Oper)(o:Oper):Option b7:=
 if zl n o.dst=true then match o.guard with
  |none=>some ⟨o.dst,o.op,none⟩
  |some (j,want)=>match p7 ops j with
   |some d=>some ⟨o.dst,o.op,some (d,want)⟩
   |none=>none
 else none
def j9(n:Nat)(ops:Array Oper):List Oper->Option (List b7)
 |[]=>some []
 |o::l=>match DX n ops o,j9 n ops l with
  |some x,some xs=>some (x::xs)
  |_,_=>none
def tmpsOf(o:b7):List Nat:=(o.op.operands.toList.filterMap fun| .tmp t=>some t|_=>none)++(match o.gd with|some (d,_)=>[d]|none=>[])
def eN(o:b7):List Nat:=tmpsOf o++o.dst.toList
def bw(ops:Array Oper)(i:Nat):List Nat:=match ops[i]? with|some o=>(o.after.toList.filter (Region.binds .any)).map (·.on)|none=>[]
def bR(l:List b7)(i:Nat):b7:=l.getD i default
inductive IC where
 |skip|af (l:List b7)|cO (l:List b7) (pr:List (List Nat))|seq (a b:IC)|cond (c:Operand) (a b:IC)|block (id:Nat) (a:IC)|loop (a:IC)|exit (id:Nat)|ret|bad
 |B4 (g:Operand) (ps:List Nat) (a b:IC)
 deriving Inhabited
inductive ka where
 |ret|exit (id:Nat)
def ka.code:ka->Code
 | .ret=> .ret
 | .exit id=> .exit id
def kN(acc:List Nat):List Nat->Nat
 |[]=>0
 |j::ps=>(2^j|||acc.getD j 0)|||kN acc ps
def dY:List (List Nat)->List Nat->List Nat
 |[],acc=>acc
 |ps::l,acc=>dY l (acc++[kN acc ps])
def pq(x y:b7):Bool:=match x.dst with|some d=> !(eN y).contains d|none=>true
def vf(l:List b7)(pr:List (List Nat)):Bool:=
 (List.range l.length).all fun j=>(List.range j).all fun i=>((dY pr []).getD j 0).testBit i||(pq (bR l i) (bR l j)&&pq (bR l j) (bR l i))
def jR(xs ys:List Nat):Bool:=xs.all fun x=> !ys.contains x
def et(pr:List (List Nat))(fp:List (List Nat×List Nat)):Bool:=
 (List.range fp.length).all fun j=>(List.range j).all fun i=>((dY pr []).getD j 0).testBit i||
  (jR (fp.getD i ([],[])).2 (fp.getD j ([],[])).1&&jR (fp.getD i ([],[])).2 (fp.getD j ([],[])).2&&jR (fp.getD j ([],[])).2 (fp.getD i ([],[])).1)
def fU(ops:Array Oper):List (List Nat):=(List.range ops.size).map (bw ops)
def JL(pr:List (List Nat)):Bool:=(List.range pr.length).all fun k=>(pr.getD k []).all fun j=>decide (j<k)
theorem rj{acc:List Nat}{i:Nat}:∀ (ps:List Nat),(kN acc ps).testBit i=true->∃j∈ps,i=j\/(acc.getD j 0).testBit i=true
 |[],h=>by simp[kN]at h
 |j::ps,h=>by
  simp only[kN,Nat.testBit_or,Bool.or_eq_true]at h
  rcases h with(h|h)|h
  ·rw[Nat.testBit_two_pow]at h
   exact⟨j,by simp, .inl (by have h:=of_decide_eq_true h;exact h.symm)⟩
  ·exact⟨j,by simp, .inr h⟩
  ·obtain⟨j',h1,h2⟩:=rj ps h
   exact⟨j',by simp[h1],h2⟩
theorem pt{k:Nat}:∀ (l:List (List Nat)) (acc:List Nat),k<acc.length->(dY l acc).getD k 0=acc.getD k 0
 |[],_,_=>rfl
 |ps::l,acc,h=>by
  rw[dY,pt l _ (by simp;omega)]
  simp[List.getD_eq_getElem?_getD,List.getElem?_append_left h]
theorem pv{i:Nat}:∀ (l:List (List Nat)) (acc:List Nat) (k:Nat),acc.length<=k->(∀k',k'<l.length->∀j∈l.getD k' [],j<acc.length+k')->((dY l acc).getD k 0).testBit i=true->
 ∃j∈l.getD (k - acc.length) [],i=j\/((dY l acc).getD j 0).testBit i=true
 |[],acc,k,hk,_,h=>by
  simp only[dY]at h
  rw[List.getD_eq_getElem?_getD,List.getElem?_eq_none hk]at h
  simp at h
 |ps::l,acc,k,hk,hp,h=>by
  simp only[dY]at h|-
  by_cases he:k=acc.length
  ·subst he
   rw[pt l _ (by simp)]at h
   have e:(acc++[kN acc ps]).getD acc.length 0=kN acc ps:=by simp[List.getD_eq_getElem?_getD]
   rw[e]at h
   obtain⟨j,h1,h2⟩:=rj ps h
   refine⟨j,by simpa using h1,h2.imp id fun h2=> ?_⟩
   have hj:j<acc.length:=by simpa using hp 0 (by simp) j (by simpa using h1)
   rw[pt l _ (by simp;omega)]
   simpa[List.getD_eq_getElem?_getD,List.getElem?_append_left hj]using h2
  ·obtain⟨j,h1,h2⟩:=pv l (acc++[kN acc ps]) k (by simp;omega) (fun k' H7 j hj=>by
    have:=hp (k'+1) (by simp;omega) j (by simpa using hj)
    simp;omega) h
   refine⟨j, ?_,h2⟩
   have e:k - acc.length=(k - (acc++[kN acc ps]).length)+1:=by simp;omega
   rw[e];simpa using h1
theorem nU{pr:List (List Nat)}(hp:∀k,k<pr.length->∀j∈pr.getD k [],j<k){E:Nat->Bool}(hE:∀k,k<pr.length->E k=true->∀j∈pr.getD k [],E j=true):
 ∀k,k<pr.length->(∀j∈pr.getD k [],E j=true)->∀i,((dY pr []).getD k 0).testBit i=true->E i=true:=by
 intro k
 induction k using Nat.strongRecOn with
 |ind k ih=>
  intro hk hj i hi
  obtain⟨j,h1,h2⟩:=pv pr [] k (by simp) (fun k' H7 j hj=>by simpa using hp k' H7 j hj) hi
  simp only[List.length_nil,Nat.sub_zero]at h1
  rcases h2 with rfl|h2
  ·exact hj _ h1
  ·have M6:=hp k hk j h1
   exact ih j M6 (by omega) (hE j (by omega) (hj j h1)) i h2
theorem wP{pr:List (List Nat)}(hp:∀k,k<pr.length->∀j∈pr.getD k [],j<k):∀k,k<pr.length->∀i,((dY pr []).getD k 0).testBit i=true->i<k:=by
 intro k
 induction k using Nat.strongRecOn with
 |ind k ih=>
  intro hk i hi
  obtain⟨j,h1,h2⟩:=pv pr [] k (by simp) (fun k' H7 j hj=>by simpa using hp k' H7 j hj) hi
  simp only[List.length_nil,Nat.sub_zero]at h1
  have M6:=hp k hk j h1
  rcases h2 with rfl|h2
  ·exact M6
  ·have:=ih j M6 (by omega) i h2;omega
def low(n:Nat):Code->IC
 | .skip=> .skip
 | .label _=> .skip
 | .scope c=>low n c
 | .region _ ops false=>match j9 n ops ops.toList with
   |some l=> .af l
   |none=> .bad
 | .region _ ops true=>match j9 n ops ops.toList with
   |some l=>if vf l (fU ops)&&JL (fU ops)then .cO l (fU ops)else .bad
   |none=> .bad
 | .seq a b=> .seq (low n a) (low n b)
 | .cond c a b=> .cond c (low n a) (low n b)
 | .block id a=> .block id (low n a)
 | .loop a=> .loop (low n a)
 | .exit id=> .exit id
 | .ret=> .ret
 | .rangeFunc g ps a b=> .B4 g ps.toList (low n a) (low n b)
 |_=> .bad
end Go.Proofs.YtealblliddhgiaaGreat
namespace Go.Proofs.YtealblliddhgiaaGreat
inductive D where
 |int (k:IntKind) (n:Int)|bool (b:Bool)|str (s:List UInt8)
 |ft|gy|aW|cI
 |agg (cs:List D)|sl (es:List D)|iface (t:TypeId) (d:D)
 |mp (ks vs:List D)
 deriving Inhabited
def Flat(vs:List Value):Prop:=∀u∈vs,u.oneCell'=true
def fV(B:Nat->Prop)(w:World)(a:Addr)(cs:Array Value):Prop:=∀j u,cs[j]? =some u->w.cell? (a.add j)=some u/\ ¬B a.block
def iw(es:Array MapEntry)(clock:Nat):Prop:=(∀e∈es.toList,e.born<clock)/\(es.toList.map (·.born)).Nodup
def nV(ks:List D):Prop:=ks.Nodup/\∀k∈ks,∃n,k= .int .i64 n
mutual
def D.den (B:Nat->Prop)(w:World):D->Value->Prop
 | .int k n,v=>v= .int k n
 | .bool b,v=>v= .bool b
 | .str l,v=>∃s:ByteArray,v= .string s/\s.data.toList=l
 | .ft,v=>v= .nilIface
 | .gy,v=>v= .pointer none
 | .aW,v=>v= .nilFunc
 | .cI,v=>v= .map none
 | .agg cs,v=>∃a,v= .agg a/\D.aC B w cs a.toList/\Flat a.toList
 | .sl es,v=>∃base len cap,v= .slice base len cap/\len=es.length/\len<=cap/\(base=none->cap=0)/\
  ∃sz,∀a,base=some a->(cap≠0->a.spot=none)/\D.elems B w sz a 0 es
 | .iface t d,v=>∃u,v= .iface t u/\D.den B w d u
 | .mp ks vs,v=>∃m es clock p,v= .map (some m)/\w.heap[m]? =some (.map es clock)/\ ¬B m/\iw es clock/\(p=es.toList\/(p.Perm es.toList/\nV ks))/\D.aC B w ks (p.map (·.key))/\D.aC B w vs (p.map (·.val))
def D.aC (B:Nat->Prop)(w:World):List D->List Value->Prop
 |[],vs=>vs=[]
 |d::ds,vs=>∃u us,vs=u::us/\D.den B w d u/\D.aC B w ds us
def D.elems (B:Nat->Prop)(w:World)(sz:Nat)(a:Addr):Nat->List D->Prop
 |_,[]=>True
 |i,e::es=>(∃ev:Value,ev.cells.size=sz/\fV B w (a.add (i*sz)) ev.cells/\D.den B w e ev)/\D.elems B w sz a (i+1) es
end
inductive V where
 |d (x:D)|aX|agg (cs:List V)|bT (vs:List V)
 |ptr (id off:Nat)|osl (id ep:Nat)|pe (id ep i sz off:Nat)|pp (cs:List D) (off:Nat)
 |func (fn:Fn) (first cap:List V)|iface (t:TypeId) (x:V)
 |aa
 |nr (es:List D)|rk (id off n:Nat)|mp (id:Nat)|eO|ke (id:Nat)
 deriving Inhabited
inductive ae where
 |no|row (cs:List V)|arr (ep:Nat) (ty:TypeId) (sz:Nat) (es:List D)|nW (ep:Nat) (es:List D)
 |map (kt vt:TypeId) (es:List (D×D))
 |loop (nf n:Nat) (env:List V) (ps:List Nat) (a b:IC) (st:LoopState) (B5:Option ka)
 |dZ (es:List (D×D))|kg (es:List (D×D)) (last:Option (D×D))|rl (s:List UInt8) (pos:Nat)
 deriving Inhabited
def bF(l:List V):Nat->V:=fun i=>l.getD i .aa
structure Hp where
 o:Nat->ae
 us:Nat->Prop
def ae.aZ:ae->Option Nat
 | .arr ep _ _ _| .nW ep _=>some ep
 |_=>none
def ae.bN:ae->Bool
 | .row _| .map .. | .loop .. | .dZ _| .kg .. | .rl .. =>true
 |_=>false
def ae.live:ae->Bool
 | .row _| .arr .. | .map .. | .loop .. | .kg .. | .rl .. =>true
 |_=>false
def eC:Value->Option Nat
 | .pointer (some a)| .slice (some a) _ _=>some a.block
 | .map (some b)=>some b
 |_=>none
abbrev Place:=Nat->Value
def bO(φ:Place)(H:Hp)(b:Nat):Prop:=∃id,(H.o id).live=true/\eC (φ id)=some b
def ai(M:Nat->Prop)(φ:Place)(H:Hp)(b:Nat):Prop:=M b\/bO φ H b
mutual
def V.den (B:Nat->Prop)(φ:Place)(H:Hp)(w:World):V->Value->Prop
 | .d x,v=>D.den B w x v
 | .aX,v=>v= .slice none 0 0
 | .agg cs,v=>∃a,v= .agg a/\V.aC B φ H w cs a.toList/\Flat a.toList
 | .bT vs,v=>∃a,v= .tuple a/\V.aC B φ H w vs a.toList
 | .ptr id off,v=>v.oneCell'=true/\H.us id/\((H.o id).bN=true->∃b,φ id= .pointer (some ⟨b,0,none⟩)/\v= .pointer (some ⟨b,off,none⟩))
 | .osl id ep,v=>v.oneCell'=true/\H.us id/\∀e,(H.o id).aZ=some e->ep<=e/\(ep=e->v=φ id)
 | .pe id ep i sz off,v=>v.oneCell'=true/\H.us id/\∀e,(H.o id).aZ=some e->ep<=e/\(ep=e->∃b n c,φ id= .slice (some ⟨b,0,none⟩) n c/\v= .pointer (some ⟨b,i*sz+off,none⟩))
 | .pp cs off,v=>∃a ev,a.spot=none/\v= .pointer (some (a.add off))/\D.aC B w cs ev/\Flat ev/\fV B w a ev.toArray
 | .func fn first cap,v=>∃f c,v= .func fn f c/\V.aC B φ H w first f.toList/\V.aC B φ H w cap c.toList
 | .iface t x,v=>∃u,v= .iface t u/\V.den B φ H w x u
 | .aa,_=>True
 | .nr es,v=>D.den B w (.sl es) v/\∃base n,v= .slice base n n
 | .rk id off n,v=>v.oneCell'=true/\H.us id/\((H.o id).bN=true->∃b,φ id= .pointer (some ⟨b,0,none⟩)/\v= .slice (some ⟨b,off,none⟩) n n)
 | .mp id,v=>v.oneCell'=true/\H.us id/\((H.o id).bN=true->v=φ id)
 | .eO,v=>∃b,v= .bool b
 | .ke id,v=>v.oneCell'=true/\H.us id/\((H.o id).bN=true->∃b,φ id= .pointer (some ⟨b,0,none⟩)/\v= .func (.yield b) #[] #[])
def V.aC (B:Nat->Prop)(φ:Place)(H:Hp)(w:World):List V->List Value->Prop
 |[],vs=>vs=[]
 |x::xs,vs=>∃u us,vs=u::us/\V.den B φ H w x u/\V.aC B φ H w xs us
end
def gA(B:Nat->Prop)(w:World)(sz:Nat)(es:List D)(xs:List Value):Prop:=
 ∃evs:List Value,xs=evs.flatMap (·.cells.toList)/\(∀ev∈evs,ev.cells.size=sz)/\D.aC B w es evs
def aH(B:Nat->Prop)(w:World):List (D×D)->List MapEntry->Prop
 |[],es=>es=[]
 |(k,x)::l,es=>∃e es',es=e::es'/\D.den B w k e.key/\D.den B w x e.val/\aH B w l es'
def rm(B:Nat->Prop)(w:World)(l:List (D×D))(last:Option (D×D))(b:Nat):Prop:=
 w.heap[b]? =some (.mapIter none 0 #[] 0)/\l=[]/\last=none\/
 ∃m since seen es,w.heap[b]? =some (.mapIter (some m) since seen since)/\w.heap[m]? =some (.map es since)/\ ¬B m/\iw es since/\(∃l',l'.Perm l/\aH B w l' (es.toList.filter fun e=> !seen.contains e.born))/\
  ∀k x,last=some (k,x)->∃e∈es.toList,seen.back?=some e.born/\D.den B w k e.key/\D.den B w x e.val
def aK(M:Nat->Prop)(φ:Place)(H:Hp)(w:World)(id:Nat):Prop:=
 match H.o id with
 | .no=>True
 | .row cs=>∃b cP ty,φ id= .pointer (some ⟨b,0,none⟩)/\w.heap[b]? =some (.cells cP ty (0,0))/\V.aC (ai M φ H) φ H w cs cP.toList/\Flat cP.toList
 | .arr _ ty sz es=>0<sz/\∃xs,w.ownsRow 0 ty sz (φ id) es.length xs/\gA (ai M φ H) w sz es xs
 | .nW _ es=>D.den (ai M φ H) w (.sl es) (φ id)
 | .loop nf n env ps lO gU st B5=>∃b r,φ id= .pointer (some ⟨b,0,none⟩)/\w.heap[b]? =some (.loop r)/\r.fn<nf/\r.state=st/\r.pending=B5.map ka.code/\r.params.toList=ps/\r.tmps.size=n/\low n r.assign=lO/\low n r.body=gU/\
  ∀i,V.den (ai M φ H) φ H w (bF env i) (r.tmps.getD i undef)
 | .map _ _ l=>∃b es clock,φ id= .map (some b)/\w.heap[b]? =some (.map es clock)/\iw es clock/\aH (ai M φ H) w l es.toList
 | .dZ l=>D.den (ai M φ H) w (.mp (l.map (·.1)) (l.map (·.2))) (φ id)
 | .kg l last=>∃b,φ id= .pointer (some ⟨b,0,none⟩)/\rm (ai M φ H) w l last b
 | .rl s pos=>∃b,φ id= .pointer (some ⟨b,0,none⟩)/\w.heap[b]? =some (.stringIter ⟨⟨s⟩⟩ pos)
structure au (M:Nat->Prop) (φ:Place) (H:Hp) (w:World):Prop where
 ok:∀id,aK M φ H w id
 fresh:∀id, ¬H.us id->H.o id= .no
 apart:∀i j b,(H.o i).live=true->(H.o j).live=true->eC (φ i)=some b->eC (φ j)=some b->i=j
 ours:∀b,bO φ H b-> ¬M b/\b<w.heap.size
 tv:∀b,M b->b<w.heap.size
structure eF (m:Nat->Prop) (w w':World):Prop where
 os:w'.os=w.os
 tape:w'.tape=w.tape
 output:w'.output=w.output
 size:w.heap.size<=w'.heap.size
 block:∀k,k<w.heap.size-> ¬m k->w'.heap[k]? =w.heap[k]?
structure dM (φ:Place) (H:Hp) (ay:Place) (H':Hp):Prop where
 us:∀id,H.us id->H'.us id
 row:∀id,H.us id->(H'.o id).bN=true->(H.o id).bN=true/\ay id=φ id
 ep:∀id e',H.us id->(H'.o id).aZ=some e'->∃e,(H.o id).aZ=some e/\e<=e'/\(e=e'->ay id=φ id)
structure Trans (φ:Place) (H:Hp) (w:World) (ay:Place) (H':Hp) (w':World):Prop where
 b8:eF (bO φ H) w w'
 grow:∀b,bO ay H' b->bO φ H b\/w.heap.size<=b
 rel:dM φ H ay H'
theorem eF.refl (m:Nat->Prop)(w:World):eF m w w:=⟨rfl,rfl,rfl,Nat.le_refl _,fun _ _ _=>rfl⟩
theorem dM.refl (φ:Place)(H:Hp):dM φ H φ H:=⟨fun _ h=>h,fun _ _ h=>⟨h,rfl⟩,fun _ e' _ h=>⟨e',h,Nat.le_refl _,fun _=>rfl⟩⟩
theorem Trans.refl (φ:Place)(H:Hp)(w:World):Trans φ H w φ H w:=⟨eF.refl _ _,fun _ h=> .inl h,dM.refl _ _⟩
theorem dM.trans {φ ay DY:Place}{H H' M7:Hp}(h:dM φ H ay H')(k:dM ay H' DY M7):dM φ H DY M7 where
 us id aj:=k.us id (h.us id aj)
 row id aj hr:=by
  obtain⟨a,b⟩:=k.row id (h.us id aj) hr
  obtain⟨c,d⟩:=h.row id aj a
  exact⟨c,b.trans d⟩
 ep id e' aj he:=by
  obtain⟨e,h1,h2,h3⟩:=k.ep id e' (h.us id aj) he
  obtain⟨e0,g1,g2,g3⟩:=h.ep id e aj h1
  refine⟨e0,g1,Nat.le_trans g2 h2,fun heq=> ?_⟩
  have a:e0=e:=by omega
  have b:e=e':=by omega
  exact(h3 b).trans (g3 a)
theorem Trans.trans {φ ay DY:Place}{H H' M7:Hp}{w w' H8:World}(h:Trans φ H w ay H' w')(k:Trans ay H' w' DY M7 H8):Trans φ H w DY M7 H8 where
 b8:={
  os:=k.b8.os.trans h.b8.os
  tape:=k.b8.tape.trans h.b8.tape
  output:=k.b8.output.trans h.b8.output
  size:=Nat.le_trans h.b8.size k.b8.size
  block:=fun b hb hm=>by
   rw[k.b8.block b (Nat.lt_of_lt_of_le hb h.b8.size) (fun hl=>by
    rcases h.grow b hl with h1|h1
    ·exact hm h1
    ·omega),h.b8.block b hb hm]}
 grow b hl:=by
  rcases k.grow b hl with h1|h1
  ·exact h.grow b h1
  ·exact .inr (Nat.le_trans h.b8.size h1)
 rel:=h.rel.trans k.rel
@[simp] theorem L2 (a:Addr) (j:Nat):(a.add j).block=a.block:=by unfold Addr.add;split<;>rfl
def nX(w:World)(b:Nat):Prop:=∃cs ty fz,w.heap[b]? =some (.cells cs ty fz)
def cn(w:World)(b:Nat):Prop:=nX w b\/∃es clock,w.heap[b]? =some (.map es clock)
theorem cn.lt {w:World}{b:Nat}(h:cn w b):b<w.heap.size:=by
 rcases Nat.lt_or_ge b w.heap.size with hl|hl
 ·exact hl
 ·rcases h with⟨cs,ty,fz,h⟩|⟨es,clock,h⟩
  ·rw[Array.getElem?_eq_none hl]at h;cases h
  ·rw[Array.getElem?_eq_none hl]at h;cases h
theorem m8{w:World}{a:Addr}{u:Value}(h:w.cell? a=some u):nX w a.block:=by
 unfold World.cell? at h
 split at h
 ·exact⟨_,_,_,by assumption⟩
 ·cases h
theorem qB{w:World}{a:Addr}{u:Value}(h:w.cell? a=some u):cn w a.block:= .inl (m8 h)
theorem fV.mono {B B':Nat->Prop}{w w':World}{a:Addr}{cs:Array Value}
 (hb:∀b,cn w b-> ¬B b->w'.heap[b]? =w.heap[b]? /\ ¬B' b) (h:fV B w a cs):fV B' w' a cs:=by
 intro j u hj
 obtain⟨h1,h2⟩:=h j u hj
 have bL:cn w a.block:=by simpa using qB h1
 obtain⟨h3,h4⟩:=hb _ bL h2
 exact⟨by rw[World.cell?_of_block (w:=w) (w':=w') (a:=a.add j) (by simpa using h3)];exact h1,h4⟩
mutual
theorem D.aA {B B':Nat->Prop}{w w':World}(hb:∀b,cn w b-> ¬B b->w'.heap[b]? =w.heap[b]? /\ ¬B' b):
 ∀ (x:D) (v:Value),D.den B w x v->D.den B' w' x v
 | .int _ _,_,h| .bool _,_,h| .str _,_,h| .ft,_,h| .gy,_,h| .aW,_,h| .cI,_,h=>by simpa[D.den]using h
 | .agg cs,_,h=>by
   obtain⟨a,rfl,h,hf⟩:=h
   exact⟨a,rfl,D.aI hb cs _ h,hf⟩
 | .sl es,_,h=>by
   obtain⟨base,len,cap,rfl,h1,h2,h3,sz,h4⟩:=h
   exact⟨base,len,cap,rfl,h1,h2,h3,sz,fun a ha=>⟨(h4 a ha).1,D.rn hb sz a es 0 (h4 a ha).2⟩⟩
 | .iface t d,_,h=>by
   obtain⟨u,rfl,h⟩:=h
   exact⟨u,rfl,D.aA hb d u h⟩
 | .mp ks vs,_,h=>by
   obtain⟨m,es,clock,p,rfl,h1,h2,h3,hp,h4,h5⟩:=h
   obtain⟨k1,k2⟩:=hb m (.inr ⟨es,clock,h1⟩) h2
   exact⟨m,es,clock,p,rfl,k1.trans h1,k2,h3,hp,D.aI hb ks _ h4,D.aI hb vs _ h5⟩
theorem D.aI {B B':Nat->Prop}{w w':World}(hb:∀b,cn w b-> ¬B b->w'.heap[b]? =w.heap[b]? /\ ¬B' b):
 ∀ (ds:List D) (vs:List Value),D.aC B w ds vs->D.aC B' w' ds vs
 |[],_,h=>h
 |d::ds,_,h=>by
  obtain⟨u,us,rfl,h1,h2⟩:=h
  exact⟨u,us,rfl,D.aA hb d u h1,D.aI hb ds us h2⟩
theorem D.rn {B B':Nat->Prop}{w w':World}(hb:∀b,cn w b-> ¬B b->w'.heap[b]? =w.heap[b]? /\ ¬B' b)(sz:Nat)(a:Addr):
 ∀ (es:List D) (i:Nat),D.elems B w sz a i es->D.elems B' w' sz a i es
 |[],_,_=>trivial
 |e::es,i,h=>by
  obtain⟨⟨ev,h1,h2,h3⟩,h4⟩:=h
  exact⟨⟨ev,h1,h2.mono hb,D.aA hb e ev h3⟩,D.rn hb sz a es (i+1) h4⟩
end
theorem aH.mono {B B':Nat->Prop}{w w':World}(hb:∀b,cn w b-> ¬B b->w'.heap[b]? =w.heap[b]? /\ ¬B' b):
 ∀ (l:List (D×D)) (es:List MapEntry),aH B w l es->aH B' w' l es
 |[],_,h=>h
 |(k,x)::l,_,h=>by
  obtain⟨e,es,rfl,h1,h2,h3⟩:=h
  exact⟨e,es,rfl,D.aA hb k _ h1,D.aA hb x _ h2,aH.mono hb l es h3⟩
theorem rm.mono {B B':Nat->Prop}{w w':World}(hb:∀b,cn w b-> ¬B b->w'.heap[b]? =w.heap[b]? /\ ¬B' b){l:List (D×D)}{last:Option (D×D)}{b:Nat}(Vt:w'.heap[b]? =w.heap[b]?)(h:rm B w l last b):rm B' w' l last b:=by
 rcases h with⟨h1,h2⟩|⟨m,since,seen,es,h1,h2,h3,h4,h5,h6⟩
 ·exact .inl ⟨Vt.trans h1,h2⟩
 ·obtain⟨k1,k2⟩:=hb m (.inr ⟨es,since,h2⟩) h3
  obtain⟨l',h5,M8⟩:=h5
  refine .inr ⟨m,since,seen,es,Vt.trans h1,k1.trans h2,k2,h4,⟨l',h5,aH.mono hb l' _ M8⟩,fun k x e=> ?_⟩
  obtain⟨e,g1,g2,g3,g4⟩:=h6 k x e
  exact⟨e,g1,g2,D.aA hb k _ g3,D.aA hb x _ g4⟩
theorem iM{B:Nat->Prop}{w:World}:∀ (l:List (D×D)) (es:List MapEntry),aH B w l es↔D.aC B w (l.map (·.1)) (es.map (·.key))/\D.aC B w (l.map (·.2)) (es.map (·.val))
 |[],es=>by
  simp only[aH,List.map_nil,D.aC]
  constructor
  ·rintro rfl;exact⟨rfl,rfl⟩
  ·rintro⟨h,_⟩;simpa using h
 |(k,x)::l,es=>by
  simp only[aH,List.map_cons,D.aC]
  constructor
  ·rintro⟨e,es',rfl,h1,h2,h3⟩
   obtain⟨g1,g2⟩:=(iM l es').1 h3
   exact⟨⟨_,_,rfl,h1,g1⟩,⟨_,_,rfl,h2,g2⟩⟩
  ·rintro⟨⟨u,us,h1,h2,h3⟩,⟨v,vs,h4,h5,h6⟩⟩
   cases es with
   |nil=>simp at h1
   |cons e es'=>
    simp only[List.map_cons,List.cons.injEq]at h1 h4
    obtain⟨rfl,rfl⟩:=h1
    obtain⟨rfl,rfl⟩:=h4
    exact⟨e,es',rfl,h2,h5,(iM l es').2 ⟨h3,h6⟩⟩
theorem D.aB {B:Nat->Prop}{w:World}:∀ (ds:List D) (vs:List Value),D.aC B w ds vs->vs.length=ds.length
 |[],_,h=>by simp[D.aC]at h;simp[h]
 |d::ds,_,h=>by obtain⟨u,us,rfl,_,h2⟩:=h;simp[D.aB ds us h2]
theorem D.ec {B:Nat->Prop}{w:World}:∀ (ds:List D) (vs:List Value) (i:Nat) (d:D),D.aC B w ds vs->ds[i]? =some d->∃v,vs[i]? =some v/\D.den B w d v
 |[],_,_,_,_,hd=>by simp at hd
 |d::ds,_,0,x,h,hd=>by
  obtain⟨u,us,rfl,h1,_⟩:=h
  simp at hd;subst hd;exact⟨u,by simp,h1⟩
 |d::ds,_,i+1,x,h,hd=>by
  obtain⟨u,us,rfl,_,h2⟩:=h
  simpa using D.ec ds us i x h2 (by simpa using hd)
theorem D.tR {B:Nat->Prop}{w:World}{sz:Nat}{a:Addr}:∀ (es:List D) (i j:Nat) (e:D),D.elems B w sz a i es->es[j]? =some e->
 ∃ev:Value,ev.cells.size=sz/\fV B w (a.add ((i+j)*sz)) ev.cells/\D.den B w e ev
 |[],_,_,_,_,hd=>by simp at hd
 |e::es,i,0,x,h,hd=>by
  simp at hd;subst hd;simpa using h.1
 |e::es,i,j+1,x,h,hd=>by
  have:=D.tR es (i+1) j x h.2 (by simpa using hd)
  simpa[Nat.add_assoc,Nat.add_comm 1 j]using this
section
variable {M:Nat->Prop}{φ ay:Place}{H H':Hp}{w w':World}
theorem Trans.blocks (ht:Trans φ H w ay H' w')(b:Nat)(hc:cn w b)(h: ¬ai M φ H b):w'.heap[b]? =w.heap[b]? /\ ¬ai M ay H' b:=by
 have hb:=hc.lt
 refine⟨ht.b8.block b hb fun hl=>h (.inr hl), ?_⟩
 rintro(h1|h1)
 ·exact h (.inl h1)
 ·rcases ht.grow b h1 with h2|h2
  ·exact h (.inr h2)
  ·omega
mutual
theorem V.kj (hb:∀b,cn w b-> ¬ai M φ H b->w'.heap[b]? =w.heap[b]? /\ ¬ai M ay H' b)(hr:dM φ H ay H'):∀ (x:V) (v:Value),V.den (ai M φ H) φ H w x v->V.den (ai M ay H') ay H' w' x v
 | .d x,v,h=>D.aA hb x v h
 | .aX,_,h=>h
 | .aa,_,_=>trivial
 | .nr es,v,h=>⟨D.aA hb (.sl es) v h.1,h.2⟩
 | .rk id off n,v,h=>by
   obtain⟨h0,h1,h2⟩:=h
   refine⟨h0,hr.us id h1,fun a7=> ?_⟩
   obtain⟨h3,h4⟩:=hr.row id h1 a7
   obtain⟨b,h5,h6⟩:=h2 h3
   exact⟨b,h4.trans h5,h6⟩
 | .mp id,v,h=>by
   obtain⟨h0,h1,h2⟩:=h
   refine⟨h0,hr.us id h1,fun a7=> ?_⟩
   obtain⟨h3,h4⟩:=hr.row id h1 a7
   exact(h2 h3).trans h4.symm
 | .eO,v,h=>h
 | .ke id,v,h=>by
   obtain⟨h0,h1,h2⟩:=h
   refine⟨h0,hr.us id h1,fun a7=> ?_⟩
   obtain⟨h3,h4⟩:=hr.row id h1 a7
   obtain⟨b,h5,h6⟩:=h2 h3
   exact⟨b,h4.trans h5,h6⟩
 | .agg cs,_,h=>by obtain⟨a,rfl,h,hf⟩:=h;exact⟨a,rfl,V.fu hb hr cs _ h,hf⟩
 | .bT cs,_,h=>by obtain⟨a,rfl,h⟩:=h;exact⟨a,rfl,V.fu hb hr cs _ h⟩
 | .ptr id off,v,h=>by
   obtain⟨h0,h1,h2⟩:=h
   refine⟨h0,hr.us id h1,fun a7=> ?_⟩
   obtain⟨h3,h4⟩:=hr.row id h1 a7
   obtain⟨b,h5,h6⟩:=h2 h3
   exact⟨b,h4.trans h5,h6⟩
 | .osl id ep,v,h=>by
   obtain⟨h0,h1,h2⟩:=h
   refine⟨h0,hr.us id h1,fun e' e8=> ?_⟩
   obtain⟨e,g1,g2,g3⟩:=hr.ep id e' h1 e8
   obtain⟨h3,h4⟩:=h2 e g1
   refine⟨Nat.le_trans h3 g2,fun heq=> ?_⟩
   rw[g3 (by omega)]
   exact h4 (by omega)
 | .pe id ep i sz off,v,h=>by
   obtain⟨h0,h1,h2⟩:=h
   refine⟨h0,hr.us id h1,fun e' e8=> ?_⟩
   obtain⟨e,g1,g2,g3⟩:=hr.ep id e' h1 e8
   obtain⟨h3,h4⟩:=h2 e g1
   refine⟨Nat.le_trans h3 g2,fun heq=> ?_⟩
   rw[g3 (by omega)]
   exact h4 (by omega)
 | .pp cs off,v,h=>by
   obtain⟨a,ev,h1,h2,h3,h5,h4⟩:=h
   exact⟨a,ev,h1,h2,D.aI hb cs ev h3,h5,h4.mono hb⟩
 | .func fn first cap,_,h=>by
   obtain⟨f,c,rfl,h1,h2⟩:=h
   exact⟨f,c,rfl,V.fu hb hr first _ h1,V.fu hb hr cap _ h2⟩
 | .iface t x,_,h=>by obtain⟨u,rfl,h⟩:=h;exact⟨u,rfl,V.kj hb hr x u h⟩
theorem V.fu (hb:∀b,cn w b-> ¬ai M φ H b->w'.heap[b]? =w.heap[b]? /\ ¬ai M ay H' b)(hr:dM φ H ay H'):∀ (ds:List V) (vs:List Value),V.aC (ai M φ H) φ H w ds vs->V.aC (ai M ay H') ay H' w' ds vs
 |[],_,h=>h
 |x::xs,_,h=>by
  obtain⟨u,us,rfl,h1,h2⟩:=h
  exact⟨u,us,rfl,V.kj hb hr x u h1,V.fu hb hr xs us h2⟩
end
theorem V.aA (ht:Trans φ H w ay H' w')(x:V)(v:Value)(h:V.den (ai M φ H) φ H w x v):V.den (ai M ay H') ay H' w' x v:=V.kj ht.blocks ht.rel x v h
theorem V.aI (ht:Trans φ H w ay H' w')(ds:List V)(vs:List Value)(h:V.aC (ai M φ H) φ H w ds vs):V.aC (ai M ay H') ay H' w' ds vs:=V.fu ht.blocks ht.rel ds vs h
end
end Go.Proofs.YtealblliddhgiaaGreat
namespace Go.Proofs.YtealblliddhgiaaGreat
def ao{α:Type}(f:Nat->α)(i:Nat)(x:α):Nat->α:=fun j=>if j=i then x else f j
@[simp] theorem aL {α:Type} (f:Nat->α) (i:Nat) (x:α) (j:Nat):ao f i x j=if j=i then x else f j:=rfl
structure S where
 env:Nat->V
 o:Nat->ae
 nx:Nat
def S.H (s:S):Hp:=⟨s.o,fun id=>id<s.nx⟩
def V.dm:Value->V
 | .int k n=> .d (.int k n)| .bool b=> .d (.bool b)| .string s=> .d (.str s.data.toList)
 | .nilIface=> .d .ft| .pointer none=> .d .gy| .nilFunc=> .d .aW| .map none=> .d .cI
 | .slice none 0 0=> .aX
 |_=> .aa
def zm:List V->Option (List D)
 |[]=>some []
 | .d x::vs=>(zm vs).map (x::·)
 |_::_=>none
def fb(cs:List V):V:=match zm cs with|some ds=> .d (.agg ds)|none=> .agg cs
def V.ofConst:Value->V
 | .agg a=>if a.toList.all Value.oneCell' then fb (a.toList.map V.dm)else .aa
 |v=>V.dm v
def S.ev (s:S):Operand->V
 | .tmp t=>s.env t
 | .const v=>V.ofConst v
 | .func f=> .func (.func f) [] []
 | .global _=> .aa
def D.cells:D->List D
 | .agg cs=>cs
 |x=>[x]
def V.cells:V->Option (List V)
 | .d x=>some (x.cells.map .d)
 | .agg cs=>some cs
 | .bT _| .aa=>none
 |v=>some [v]
mutual
def dz(o:Nat->ae):V->Option D
 | .d x=>some x
 | .aX=>some (.sl [])
 | .nr es=>some (.sl es)
 | .osl id ep=>match o id with
   | .arr gz _ _ es| .nW gz es=>if ep=gz then some (.sl es)else none
   |_=>none
 | .mp id=>match o id with
   | .map _ _ l=>some (.mp (l.map (·.1)) (l.map (·.2)))
   | .dZ l=>some (.mp (l.map (·.1)) (l.map (·.2)))
   |_=>none
 | .agg cs=>(bU o cs).map .agg
 | .iface t x=>(dz o x).map (.iface t)
 |_=>none
def bU(o:Nat->ae):List V->Option (List D)
 |[]=>some []
 |v::vs=>(dz o v).bind fun x=>(bU o vs).map (x::·)
end
mutual
def V.ids:V->List Nat
 | .osl id _=>[id]
 | .mp id=>[id]
 | .agg cs=>V.a8 cs
 | .iface _ x=>x.ids
 |_=>[]
def V.a8:List V->List Nat
 |[]=>[]
 |v::vs=>v.ids++V.a8 vs
end
def ck(o:Nat->ae)(ids:List Nat):List (Nat×ae):=
 ids.map fun id=>(id,match o id with| .arr ep _ _ es=> .nW ep es| .map _ _ l=> .dZ l|o=>o)
def qC(o:Nat->ae)(ids:List Nat):List (Nat×ae):=
 ids.filterMap fun id=>match o id with| .arr ep _ _ es=>some (id, .nW ep es)|_=>none
def put(o:Nat->ae)(Δ:List (Nat×ae)):Nat->ae:=Δ.foldl (fun f x=>ao f x.1 x.2) o
def Hp.put (H:Hp)(Δ:List (Nat×ae)):Hp:={o:=YtealblliddhgiaaGreat.put H.o Δ,us:=fun id=>H.us id\/id∈Δ.map (·.1)}
def bf(P:Program)(t:TypeId):Option (List V):=
 match P.info? t with
 |some i=>match i.zero with
  |some z=>if z.cells.size=i.size/\z.cells.toList.all Value.oneCell'=true then some (z.cells.toList.map V.dm)else none
  |none=>none
 |none=>none
def b9(P:Program)(t:TypeId):Option Bool:=
 match P.underlying t with
 |some (.struct _)|some (.array _ _)=>some true
 |some _=>some false
 |none=>none
def cu(P:Program)(t:TypeId)(f:Nat):Option Nat:=
 match P.underlying t with
 |some (.struct fs)=>match fs[f]? with
  |some fd=>if P.cellsOf fd.type=0 then none else some fd.offset
  |none=>none
 |_=>none
def aT(P:Program)(t:TypeId):Option TypeId:=
 match P.underlying t with
 |some (.slice e)=>some e
 |_=>none
def cB(P:Program)(t:TypeId):Option (Nat×TypeId):=
 match P.underlying t with
 |some (.array n e)=>some (n,e)
 |_=>none
def dA(P:Program)(t:TypeId):Option (List (Nat×Nat)):=
 match P.underlying t with
 |some (.struct fs)=>if fs.toList.all (fun f=>(P.info? f.type).isSome)=true then some (fs.toList.map fun f=>(f.offset,P.cellsOf f.type))else none
 |some (.array n e)=>if(P.info? e).isSome=true then some ((List.range n).map fun i=>(i*P.cellsOf e,P.cellsOf e))else none
 |_=>none
def cL(P:Program)(t:TypeId):Option IntKind:=
 match P.underlying t with
 |some (.int k)=>some k
 |_=>none
def eG(P:Program)(t:TypeId)(cs:List V)(off:Nat):Option V:=
 match b9 P t with
 |some true=>if off+P.cellsOf t<=cs.length then some (fb ((cs.drop off).take (P.cellsOf t)))else none
 |some false=>cs[off]?
 |none=>none
def vg(P:Program)(t:TypeId)(cs:List V)(off:Nat)(v:V):Option (List V):=
 match v.cells with
 |some us=>if us.length=P.cellsOf t/\(0<us.length\/(P.info? t).isSome=true)/\off+us.length<=cs.length then some (cs.take off++us++cs.drop (off+us.length))else none
 |none=>none
def p8(places:List (Nat×Nat))(cs:List V):List (Nat×V)->Option (List V)
 |[]=>some cs
 |(i,v)::rest=>match places[i]?,v.cells with
  |some (off,size),some us=>if us.length=size/\off+us.length<=cs.length then p8 places (cs.take off++us++cs.drop (off+us.length)) rest else none
  |_,_=>none
def D.put (e:D)(off:Nat)(us:List D):Option D:=
 match e with
 | .agg cs=>if off+us.length<=cs.length then some (.agg (cs.take off++us++cs.drop (off+us.length)))else none
 |_=>match off,us with
  |0,[u]=>some u
  |_,_=>none
def M9(op:BinOp)(a b:Int):Option Bool:=
 match op with
 | .eql=>some (a==b)| .neq=>some (a !=b)| .lss=>some (decide (a<b))| .leq=>some (decide (a<=b))
 | .gtr=>some (decide (a>b))| .geq=>some (decide (a≥b))
 |_=>none
def rp(op:BinOp)(k:IntKind)(x y:Int):Option Int:=
 let a:=BitVec.ofInt k.bits x
 let b:=BitVec.ofInt k.bits y
 match op with
 | .and=>some (k.wrap (a&&&b).toNat)
 | .or=>some (k.wrap (a|||b).toNat)
 | .xor=>some (k.wrap (a ^^^ b).toNat)
 | .andNot=>some (k.wrap (a&&& ~~~b).toNat)
 |_=>none
def Gx(op:BinOp)(k:IntKind)(a b:Int)(K:V->Prop):Prop:=
 match op with
 | .add=>K (.d (.int k (k.wrap (a+b))))
 | .sub=>K (.d (.int k (k.wrap (a - b))))
 | .mul=>K (.d (.int k (k.wrap (a*b))))
 | .quo=>b≠0/\K (.d (.int k (k.wrap (a.tdiv b))))
 | .rem=>b≠0/\K (.d (.int k (a.tmod b)))
 | .and| .or| .xor| .andNot=>∃r,rp op k a b=some r/\K (.d (.int k r))
 | .shl| .shr=>False
 |op=>∃r,M9 op a b=some r/\K (.d (.bool r))
def DZ(P:Program)(t:TypeId)(x y:D)(r:Bool):Prop:=
 ∀ (B:Nat->Prop) (w:World) (u v:Value),D.den B w x u->D.den B w y v->(Op.equal t u v).run P w= .ok r w/\∀ (op:BinOp) (a b:Operand),(eqGuard op t a b u v).run P w= .ok () w
def D0(P:Program)(op:BinOp)(t:TypeId)(x y:V)(K:V->Prop):Prop:=
 match x,y with
 | .d (.int k a), .d (.int k' b)=>k=k'/\Gx op k a b K
 | .d (.bool a), .d (.bool b)=>match op with
   | .eql=>P.underlying t=some .bool/\K (.d (.bool (a==b)))
   | .neq=>P.underlying t=some .bool/\K (.d (.bool (a !=b)))
   |_=>False
 | .d (.str a), .d (.str b)=>match op with
   | .eql=>K (.d (.bool (a==b)))
   | .neq=>K (.d (.bool (a !=b)))
   |_=>False
 | .d (.agg a), .d (.agg b)=>match op with
   | .eql=>∃r,DZ P t (.agg a) (.agg b) r/\K (.d (.bool r))
   | .neq=>∃r,DZ P t (.agg a) (.agg b) r/\K (.d (.bool !r))
   |_=>False
 |_,_=>False
def Na(op:UnOp)(x:V)(K:V->Prop):Prop:=
 match op,x with
 | .neg, .d (.int k n)=>K (.d (.int k (k.wrap (0 - n))))
 | .not, .d (.bool b)=>K (.d (.bool !b))
 |_,_=>False
def wQ(c a b:V)(K:V->Prop):Prop:=
 match c with
 | .d (.bool t)=>(t=true->K a)/\(t=false->K b)
 |_=>False
def D1(P:Program)(t:TypeId)(o:Nat->ae)(x:V)(K:V->List Nat->Prop):Prop:=
 match P.underlying t with
 |some (.slice _)=>match x with
  | .d (.sl es)=>K (.d (.int .i64 es.length)) []
  | .aX=>K (.d (.int .i64 0)) []
  | .nr es=>K (.d (.int .i64 es.length)) []
  | .osl id ep=>match o id with
    | .arr gz _ _ es| .nW gz es=>ep=gz/\K (.d (.int .i64 es.length)) [id]
    |_=>False
  |_=>False
 |some .string=>match x with
  | .d (.str s)=>K (.d (.int .i64 s.length)) []
  |_=>False
 |some (.array n _)=>K (.d (.int .i64 n)) []
 |_=>False
def iY(P:Program)(o:Nat->ae)(t:TypeId)(x ix:V)(K:V->List Nat->Prop):Prop:=
 match ix with
 | .d (.int _ i)=>match aT P t with
   |some e=>match x with
    | .d (.sl es)=>0<=i/\∃y,es[i.toNat]? =some y/\y.cells.length=P.cellsOf e/\0<P.cellsOf e/\K (.pp y.cells 0) []
    | .nr es=>0<=i/\∃y,es[i.toNat]? =some y/\y.cells.length=P.cellsOf e/\0<P.cellsOf e/\K (.pp y.cells 0) []
    | .osl id ep=>match o id with
      | .arr gz _ sz es=>ep=gz/\0<=i/\i.toNat<es.length/\sz=P.cellsOf e/\0<P.cellsOf e/\K (.pe id ep i.toNat sz 0) [id]
      | .nW gz es=>ep=gz/\0<=i/\∃y,es[i.toNat]? =some y/\y.cells.length=P.cellsOf e/\0<P.cellsOf e/\K (.pp y.cells 0) [id]
      |_=>False
    |_=>False
   |none=>match cB P t with
    |some (n,e)=>0<=i/\i<n/\(P.info? e).isSome=true/\(match x with
     | .ptr id off=>(o id).bN=true/\K (.ptr id (off+i.toNat*P.cellsOf e)) []
     | .pp cs off=>K (.pp cs (off+i.toNat*P.cellsOf e)) []
     | .pe id ep j sz off=>(o id).aZ=some ep/\K (.pe id ep j sz (off+i.toNat*P.cellsOf e)) []
     |_=>False)
    |none=>False
 |_=>False
def iZ(P:Program)(o:Nat->ae)(t:TypeId)(x:V)(f:Nat)(K:V->Prop):Prop:=
 match cu P t f with
 |some q=>match x with
  | .ptr id off=>(o id).bN=true/\K (.ptr id (off+q))
  | .pp cs off=>K (.pp cs (off+q))
  | .pe id ep j sz off=>(o id).aZ=some ep/\K (.pe id ep j sz (off+q))
  |_=>False
 |none=>False
def wR(P:Program)(o:Nat->ae)(t:TypeId)(x:V)(K:V->List Nat->Prop):Prop:=
 match x with
 | .ptr id off=>match o id with
   | .row cs=>∃v,eG P t cs off=some v/\K v [id]
   |_=>False
 | .pp cs off=>∃v,eG P t (cs.map .d) off=some v/\K v []
 | .pe id ep i sz off=>match o id with
   | .arr gz _ mV es=>ep=gz/\sz=mV/\∃e,es[i]? =some e/\∃v,eG P t (e.cells.map .d) off=some v/\K v [id]
   |_=>False
 |_=>False
def rq(P:Program)(o:Nat->ae)(t:TypeId)(x v:V)(K:List (Nat×ae)->List Nat->Prop):Prop:=
 match x with
 | .ptr id off=>match o id with
   | .row cs=>∃cs',vg P t cs off v=some cs'/\K [(id, .row cs')] [id]
   |_=>False
 | .pe id ep i mV off=>match o id with
   | .arr gz ty sz es=>ep=gz/\mV=sz/\∃e,es[i]? =some e/\∃y,dz o v=some y/\y.cells.length=P.cellsOf t/\0<y.cells.length/\v.ids.all (· !=id)=true/\
    ∃e',e.put off y.cells=some e'/\K (ck o v.ids++[(id, .arr ep ty sz (es.set i e'))]) (id::v.ids)
   |_=>False
 |_=>False
def gW(P:Program)(o:Nat->ae)(fr:Nat)(t:TypeId)(len:Nat)(parts:List (Nat×V))(K:V->List (Nat×ae)->List Nat->Prop):Prop:=
 match aT P t with
 |some e=>(len=0/\parts=[]/\0<P.cellsOf e/\K (.osl fr 0) [(fr, .arr 0 e (P.cellsOf e) [])] [])\/(parts.map (·.1)=List.range len)/\(bf P e).isSome=true/\0<len/\0<P.cellsOf e/\len*P.cellsOf e<=2^24/\
  ∃ds,bU o (parts.map (·.2))=some ds/\(∀x∈ds,x.cells.length=P.cellsOf e)/\
   K (.osl fr 0) (ck o (V.a8 (parts.map (·.2)))++[(fr, .arr 0 e (P.cellsOf e) ds)]) (V.a8 (parts.map (·.2)))
 |none=>False
def bJ(P:Program)(e:TypeId):Option D:=
 match bf P e with
 |some z=>match bU (fun _=> .no) z,b9 P e with
  |some ds,some true=>some (.agg ds)
  |some [x],some false=>some x
  |_,_=>none
 |none=>none
def ja(P:Program)(fr:Nat)(t:TypeId)(l c:V)(K:V->List (Nat×ae)->Prop):Prop:=
 match aT P t,l,c with
 |some e, .d (.int _ n), .d (.int _ m)=>n=m/\0<=n/\0<P.cellsOf e/\P.bytesOf e*n.toNat<=2^47/\n.toNat<=2^47/\
  ∃x,bJ P e=some x/\K (.osl fr 0) [(fr, .arr 0 e (P.cellsOf e) (List.replicate n.toNat x))]
 |_,_,_=>False
def eH(o:Nat->ae)(x:V):Option (List D):=
 match dz o x with
 |some (.sl es)=>some es
 |_=>none
def nY(P:Program)(o:Nat->ae)(fr:Nat)(ts:Array TypeId)(x y:V)(K:V->List (Nat×ae)->List Nat->Prop):Prop:=
 match ts.toList with
 |[t,t']=>t=t'/\(match aT P t with
  |some e=>∃new,eH o y=some new/\0<P.cellsOf e/\(bf P e).isSome=true/\(∀z∈new,z.cells.length=P.cellsOf e)/\(match x with
   | .aX=>new.length<=2^47/\new.length*P.bytesOf e<=2^47/\K (.osl fr 0) [(fr, .arr 0 e (P.cellsOf e) new)] y.ids
   | .nr es=>(∀z∈es,z.cells.length=P.cellsOf e)/\(if new=[]then K (.nr es) [] y.ids else es.length+new.length<=2^40/\(es.length+new.length)*P.bytesOf e<=2^40/\K (.osl fr 0) [(fr, .arr 0 e (P.cellsOf e) (es++new))] y.ids)
   | .osl id ep=>match o id with
     | .arr gz ty sz es=>ep=gz/\ty=e/\sz=P.cellsOf e/\es.length+new.length<=2^47/\(es.length+new.length)*P.bytesOf e<=2^47/\
      K (.osl id (ep+1)) [(id, .arr (ep+1) ty sz (es++new))] (id::y.ids)
     |_=>False
   |_=>False)
  |none=>False)
 |_=>False
def mH(isMax:Bool)(args:List V)(K:V->Prop):Prop:=
 match args with
 |[.d (.int k a), .d (.int k' b)]=>k=k'/\K (.d (.int k (if isMax then(if b>a then b else a)else(if b<a then b else a))))
 |_=>False
def kn(o:Nat->ae)(x:V)(K:V->Prop):Prop:=
 match x with
 | .ptr id off=>(o id).bN=true/\K (.ptr id off)
 | .pp cs off=>K (.pp cs off)
 | .func (.func f) first cap=>K (.func (.func f) first cap)
 |_=>False
def jb(P:Program)(t:TypeId)(xs:List D)(off:Nat):Option D:=
 match b9 P t with
 |some true=>if off+P.cellsOf t<=xs.length then some (.agg ((xs.drop off).take (P.cellsOf t)))else none
 |some false=>xs[off]?
 |none=>none
inductive R5 where
 |int|bool|str|struct (fs:List (TypeId×Nat))|arr (n:Nat) (e:TypeId)
def bc(P:Program)(t:TypeId):Option R5:=
 match P.underlying t with
 |some (.int _)=>some .int
 |some .bool=>some .bool
 |some .string=>some .str
 |some (.struct fs)=>if(!P.stoodInHeld t&&fs.toList.all (fun f=>f.name != "_"))=true then some (.struct (fs.toList.map fun f=>(f.type,f.offset)))else none
 |some (.array n e)=>if(P.info? e).isSome=true then some (.arr n e)else none
 |_=>none
def D2(a b:Option Bool):Option Bool:=
 match a,b with
 |some a,some b=>some (a&&b)
 |_,_=>none
def wS(f:TypeId->Nat->Option Bool):List (TypeId×Nat)->Option Bool
 |[]=>some true
 |x::l=>D2 (f x.1 x.2) (wS f l)
def AY(f:Nat->Option Bool):Nat->Nat->Option Bool
 |0,_=>some true
 |n+1,i=>D2 (f i) (AY f n (i+1))
def JM(f:D->D->Option Bool)(x y:Option D):Option Bool:=
 match x,y with
 |some x,some y=>f x y
 |_,_=>none
def pn(P:Program):Nat->TypeId->D->D->Option Bool
 |0,_,_,_=>none
 |d+1,t,x,y=>match bc P t with
  |some .int=>match x,y with| .int k a, .int k' b=>if k=k' then some (a==b)else none|_,_=>none
  |some .bool=>match x,y with| .bool a, .bool b=>some (a==b)|_,_=>none
  |some .str=>match x,y with| .str a, .str b=>some (a==b)|_,_=>none
  |some (.struct fs)=>match x,y with
   | .agg xs, .agg ys=>wS (fun u off=>JM (pn P d u) (jb P u xs off) (jb P u ys off)) fs
   |_,_=>none
  |some (.arr n e)=>match x,y with
   | .agg xs, .agg ys=>AY (fun i=>JM (pn P d e) (jb P e xs (i*P.cellsOf e)) (jb P e ys (i*P.cellsOf e))) n 0
   |_,_=>none
  |none=>none
abbrev fW:=V×List (Nat×ae)×List Nat
def df(x:Option fW)(K:V->List (Nat×ae)->List Nat->Prop):Prop:=
 match x with
 |some (v,Δ,rd)=>K v Δ rd
 |none=>False
def B6(x:Option V)(R6:Nat):Option Nat:=
 match x with
 |none=>some R6
 |some (.d (.int _ i))=>if 0<=i then some i.toNat else none
 |_=>none
def ns(o:Nat->ae)(x:V):Option (Nat×Nat):=
 match x with
 | .ptr id off=>if(o id).bN=true then some (id,off)else none
 |_=>none
def nu(o:Nat->ae)(x:V):Option (Nat×Nat×Nat×List V):=
 match x with
 | .rk id off n=>match o id with
   | .row cs=>some (id,off,n,cs)
   |_=>none
 |_=>none
def pw(P:Program)(o:Nat->ae)(t:TypeId)(x:V)(lo hi mx:Option V):Option fW:=
 match aT P t with
 |some e=>match eH o x,B6 lo 0 with
  |some es,some l=>match B6 hi es.length with
   |some h=>if l<=h/\h<=es.length/\(P.info? e).isSome=true/\(l=0\/es.all (fun y=>y.cells.length==P.cellsOf e)=true)then match mx with
    |none=>some (.d (.sl ((es.take h).drop l)),ck o x.ids,x.ids)
    |some m=>match hi,B6 (some m) 0 with
     |some _,some m=>if h<=m/\m<=es.length then some (if h=m then .nr ((es.take h).drop l)else .d (.sl ((es.take h).drop l)),ck o x.ids,x.ids)else none
     |_,_=>none
    else none
   |none=>none
  |_,_=>none
 |none=>match cB P t,lo,hi,mx with
  |some (n,e),none,none,none=>match ns o x with
   |some (id,off)=>if(P.info? e).isSome=true then some (.rk id off n,[],[id])else none
   |none=>none
  |_,_,_,_=>none
def tS(P:Program)(o:Nat->ae)(ts:Array TypeId)(x y:V):Option fW:=
 match ts.toList with
 |[t,_]=>match aT P t with
  |some e=>match nu o x,eH o y with
   |some (id,off,n,cs),some es=>if P.cellsOf e=1/\off+n<=cs.length/\es.all (fun z=>z.cells.length==1)=true/\y.ids.all (· !=id)=true then
    some (.d (.int .i64 ((min es.length n:Nat):Int)),ck o y.ids++[(id, .row (cs.take off++((es.take n).flatMap D.cells).map .d++cs.drop (off+(es.take n).length)))],id::y.ids)else none
   |_,_=>none
  |none=>none
 |_=>none
def vh(P:Program)(t:TypeId)(f:Nat):Option (Nat×TypeId):=
 match P.underlying t with
 |some (.struct fs)=>match fs[f]? with
  |some fd=>some (fd.offset,fd.type)
  |none=>none
 |_=>none
def ru(P:Program)(t:TypeId)(x:V)(f:Nat):Option V:=
 match vh P t f with
 |some (off,u)=>match x with
  | .d (.agg cs)=>(jb P u cs off).map .d
  | .agg cs=>eG P u cs off
  |_=>none
 |none=>none
def rv(P:Program)(t:TypeId)(x i:V):Option V:=
 match i with
 | .d (.int _ i)=>if 0<=i then match P.underlying t with
  |some .string=>match x with
   | .d (.str s)=>match s[i.toNat]? with
     |some b=>some (.d (.int .u8 b.toNat))
     |none=>none
   |_=>none
  |some (.array n e)=>if i<n/\(P.info? e).isSome=true then match x with
   | .d (.agg cs)=>(jb P e cs (i.toNat*P.cellsOf e)).map .d
   | .agg cs=>eG P e cs (i.toNat*P.cellsOf e)
   |_=>none
   else none
  |_=>none
   else none
 |_=>none
def zn(P:Program)(t:TypeId):Bool:=
 match P.underlying t with
 |some (.interface _)=>false
 |some _=>true
 |none=>false
def zeroV(P:Program)(t:TypeId):Option V:=
 match P.info? t with
 |some i=>match i.zero with
  |some (.agg a)=>if a.toList.all Value.oneCell'=true then some (fb (a.toList.map V.dm))else none
  |some v=>if v.oneCell'=true then some (V.dm v)else none
  |none=>none
 |none=>none
def nZ(P:Program)(t:TypeId)(ok:Bool)(x:V):Option V:=
 if zn P t=true then match x with
  | .d (.iface u y)=>if u=t then some (if ok=true then .bT [.d y, .d (.bool true)]else .d y)
   else if ok=true then(zeroV P t).map fun z=> .bT [z, .d (.bool false)]else none
  | .d .ft=>if ok=true then(zeroV P t).map fun z=> .bT [z, .d (.bool false)]else none
  |_=>none
 else none
def wT(o:Nat->ae)(x:V):Option V:=
 match x with
 | .aX=>some (.d (.bool true))
 |x=>match eH o x with
  |some es=>some (if es=[]then .eO else .d (.bool false))
  |none=>none
def isConst:Operand->Bool
 | .const _=>true
 |_=>false
def Gy:V->Option V
 | .d (.bool b)=>some (.d (.bool !b))
 | .eO=>some .eO
 |_=>none
def px(o:Nat->ae)(x:V):Option V:=
 match x with
 | .d .cI=>some (.d (.bool true))
 | .d (.mp _ _)=>some (.d (.bool false))
 | .mp id=>match o id with| .map _ _ _=>some (.d (.bool false))| .dZ _=>some (.d (.bool false))|_=>none
 |_=>none
def py(o:Nat->ae)(x:V):Option V:=
 match x with
 | .d .gy=>some (.d (.bool true))
 | .ptr id _=>if(o id).bN=true then some (.d (.bool false))else none
 | .pp _ _=>some (.d (.bool false))
 |_=>none
def B7(P:Program)(o:Nat->ae)(t:TypeId)(nv:Bool)(x y:V):Option V:=
 match P.underlying t with
 |some (.interface _)=>match x,y with
  | .d .ft, .d .ft=>if nv=true then some (.d (.bool true))else none
  | .d (.iface _ _), .d .ft| .iface _ _, .d .ft| .d .ft, .d (.iface _ _)| .d .ft, .iface _ _=>some (.d (.bool false))
  |_,_=>none
 |some (.func _ _ _)=>match x,y with
  | .d .aW, .d .aW=>some (.d (.bool true))
  | .func _ _ _, .d .aW=>some (.d (.bool false))
  |_,_=>none
 |some (.map _ _)=>match y with
  | .d .cI=>px o x
  |_=>none
 |some (.pointer _)=>match y with
  | .d .gy=>py o x
  |_=>none
 |some (.slice _)=>match y with
  | .aX=>wT o x
  |_=>none
 |some (.struct _)|some (.array _ _)=>match x,y with
  | .d (.agg bY), .d (.agg bs)=>if P.eqGuardType P.depth t=false then(pn P 100 t (.agg bY) (.agg bs)).map fun r=> .d (.bool r)else none
  |_,_=>none
 |_=>none
def pz(P:Program)(o:Nat->ae)(op:BinOp)(t:TypeId)(nv:Bool)(x y:V):Option fW:=
 match op with
 | .eql=>(B7 P o t nv x y).map fun v=>(v,[],[])
 | .neq=>((B7 P o t nv x y).bind Gy).map fun v=>(v,[],[])
 |_=>none
mutual
def D.same:D->D->Bool
 | .int k a, .int j b=>k==j&&a==b
 | .bool a, .bool b=>a==b
 | .str a, .str b=>a==b
 | .ft, .ft| .gy, .gy| .aW, .aW| .cI, .cI=>true
 | .agg bY, .agg bs=>D.fE bY bs
 | .sl bY, .sl bs=>D.fE bY bs
 | .iface t a, .iface u b=>t==u&&a.same b
 | .mp ks vs, .mp Xf Rm=>D.fE ks Xf&&D.fE vs Rm
 |_,_=>false
def D.fE:List D->List D->Bool
 |[],[]=>true
 |a::bY,b::bs=>a.same b&&D.fE bY bs
 |_,_=>false
end
def nw(P:Program)(t:TypeId):Option (TypeId×TypeId):=
 match P.underlying t with
 |some (.map k v)=>some (k,v)
 |_=>none
def mW(P:Program):Nat->TypeId->D->Bool
 |0,_,_=>false
 |d+1,t,x=>match bc P t with
  |some .int|some .bool|some .str=>true
  |some (.struct fs)=>match x with
   | .agg xs=>fs.all fun f=>match jb P f.1 xs f.2 with|some y=>mW P d f.1 y|none=>false
   |_=>false
  |some (.arr n e)=>match x with
   | .agg xs=>(List.range n).all fun i=>match jb P e xs (i*P.cellsOf e)with|some y=>mW P d e y|none=>false
   |_=>false
  |none=>false
def findD(P:Program)(kt:TypeId)(k:D):List (D×D)->Nat->Option (Option (Nat×D×D))
 |[],_=>some none
 |(k',x)::l,i=>match pn P 100 kt k k' with
  |some true=>some (some (i,k',x))
  |some false=>findD P kt k l (i+1)
  |none=>none
def m9:D->Bool
 | .int _ _| .bool _| .str _=>true
 |_=>false
def jS:D->Bool
 | .agg cs=>cs.all m9
 |x=>m9 x
def na(o:Nat->ae)(m:V):Option (Option (Nat×TypeId×TypeId)×List (D×D)):=
 match m with
 | .mp id=>match o id with
   | .map kt vt l=>some (some (id,kt,vt),l)
   |_=>none
 | .d .cI=>some (none,[])
 |_=>none
def n6(o:Nat->ae)(m:V):Option (List Nat×List (D×D)):=
 match m with
 | .mp id=>match o id with
   | .map _ _ l=>some ([id],l)
   | .dZ l=>some ([id],l)
   |_=>none
 | .d .cI=>some ([],[])
 | .d (.mp ks vs)=>some ([],ks.zip vs)
 |_=>none
def R7(r:Option (Nat×TypeId×TypeId)):List Nat:=match r with|some p=>[p.1]|none=>[]
def gV(P:Program)(o:Nat->ae)(t:TypeId)(m k:V)(ok:Bool):Option fW:=
 match nw P t,dz o k,n6 o m with
 |some (kt,vt),some kd,some (rd,l)=>if k.ids=[]/\mW P 100 kt kd=true then match findD P kt kd l 0 with
  |some (some (_,_,x))=>some (if ok=true then .bT [.d x, .d (.bool true)]else .d x,[],rd)
  |some none=>match zeroV P vt with
   |some z=>some (if ok=true then .bT [z, .d (.bool false)]else z,[],rd)
   |none=>none
  |none=>none
  else none
 |_,_,_=>none
def fi(P:Program)(o:Nat->ae)(t:TypeId)(m k v:V):Option fW:=
 match nw P t,dz o k,dz o v,na o m with
 |some (kt,_),some kd,some vd,some (some (id,zd,ze),l)=>if k.ids=[]/\mW P 100 kt kd=true/\jS kd=true/\v.ids.all (· !=id)=true then match findD P kt kd l 0 with
  |some (some (i,k',_))=>if k'.same kd=true then some (.bT [],ck o v.ids++[(id, .map zd ze (l.set i (kd,vd)))],id::v.ids)else none
  |some none=>some (.bT [],ck o v.ids++[(id, .map zd ze (l++[(kd,vd)]))],id::v.ids)
  |none=>none
  else none
 |_,_,_,_=>none
def lS(P:Program)(fr:Nat)(t:TypeId):Option fW:=
 match nw P t with
 |some (kt,vt)=>some (.mp fr,[(fr, .map kt vt [])],[])
 |none=>none
def lT(P:Program)(o:Nat->ae)(fr:Nat)(t:TypeId)(x:V):Option fW:=
 match P.underlying t with
 |some .string=>match x with
  | .d (.str s)=>some (.ptr fr 0,[(fr, .rl s 0)],[])
  |_=>none
 |some (.map _ _)=>match x with
  | .d .cI=>some (.ptr fr 0,[(fr, .kg [] none)],[])
  | .d (.mp ks vs)=>some (.ptr fr 0,[(fr, .kg (ks.zip vs) none)],[])
  | .mp id=>match o id with
    | .map _ _ l=>some (.ptr fr 0,[(id, .dZ l),(fr, .kg l none)],[id])
    | .dZ l=>some (.ptr fr 0,[(fr, .kg l none)],[id])
    |_=>none
  |_=>none
 |_=>none
def nb(o:Nat->ae)(x:V)(str:Bool):Option fW:=
 match x with
 | .ptr id 0=>match o id with
   | .rl s pos=>if str=true then
    (if pos<s.length then some (.bT [.d (.bool true), .d (.int .i64 pos), .d (.int .i32 (Utf8.decode ⟨⟨s⟩⟩ pos).1)],[(id, .rl s (pos+(Utf8.decode ⟨⟨s⟩⟩ pos).2))],[id])else some (.bT [.d (.bool false)],[],[id]))
     else none
   |_=>none
 |_=>none
def nd(o:Nat->ae)(x:V):Option (Nat×List (D×D)):=
 match x with
 | .ptr id 0=>match o id with
   | .kg l _=>some (id,l)
   |_=>none
 |_=>none
def AZ(id:Nat)(l:List (D×D))(K:V->List (Nat×ae)->List Nat->Prop):Prop:=
 (l=[]->K (.bT [.d (.bool false)]) [] [id])/\∀i k x,l[i]? =some (k,x)->K (.bT [.d (.bool true), .d k, .d x]) [(id, .kg (l.eraseIdx i) (some (k,x)))] [id]
def lU(o:Nat->ae)(x:V):Option fW:=
 match x with
 | .ptr id 0=>match o id with
   | .kg _ (some (k,x))=>some (.bT [.d k, .d x],[],[id])
   |_=>none
 |_=>none
def mJ(P:Program)(o:Nat->ae)(t:TypeId)(m k:V):Option fW:=
 match nw P t,dz o k,na o m with
 |some (kt,_),some kd,some (some (id,zd,ze),l)=>if k.ids=[]/\mW P 100 kt kd=true then match findD P kt kd l 0 with
  |some (some (i,_,_))=>some (.bT [],[(id, .map zd ze (l.eraseIdx i))],[id])
  |some none=>some (.bT [],[],[id])
  |none=>none
  else none
 |_,_,_=>none
def D3(x y z:V):Option V:=
 match x,y,z with
 | .d (.int k a), .d (.int k' b), .d (.int Vu c)=>if k=k'/\k=Vu then some (.d (.int k (if c>(if b>a then b else a)then c else(if b>a then b else a))))else none
 |_,_,_=>none
def ry(P:Program)(s:S)(fr:Nat)(b:Builtin)(args:List Operand)(ts:Array TypeId)(K:V->List (Nat×ae)->List Nat->Prop):Prop:=
 match b,args with
 | .len,[x]=>∃t,ts.toList=[t]/\D1 P t s.o (s.ev x) fun v rd=>K v [] rd
 | .append,[x,y]=>nY P s.o fr ts (s.ev x) (s.ev y) K
 | .max,[x,y]=>mH true [s.ev x,s.ev y] fun v=>K v [] []
 | .min,[x,y]=>mH false [s.ev x,s.ev y] fun v=>K v [] []
 | .max,[x,y,z]=>df ((D3 (s.ev x) (s.ev y) (s.ev z)).map fun v=>(v,[],[])) K
 | .copy,[x,y]=>df (tS P s.o ts (s.ev x) (s.ev y)) K
 | .delete,[x,y]=>∃t,ts.toList.head?=some t/\df (mJ P s.o t (s.ev x) (s.ev y)) K
 |_,_=>False
def H9(P:Program)(s:S)(fr:Nat)(op:Op)(K:V->List (Nat×ae)->List Nat->Prop):Prop:=
 match op with
 | .move x| .assign x=>K (s.ev x) [] []
 | .pick c a b=>wQ (s.ev c) (s.ev a) (s.ev b) fun v=>K v [] []
 | .alloc t=>∃cs,bf P t=some cs/\K (.ptr fr 0) [(fr, .row cs)] []
 | .box _ x=>∃cs,(s.ev x).cells=some cs/\K (.ptr fr 0) [(fr, .row cs)] []
 | .build t parts=>∃z pl cs,bf P t=some z/\dA P t=some pl/\p8 pl z (parts.toList.map fun p=>(p.1,s.ev p.2))=some cs/\K (fb cs) [] []
 | .buildSlice t len parts=>gW P s.o fr t len (parts.toList.map fun p=>(p.1,s.ev p.2)) K
 | .load t x=>wR P s.o t (s.ev x) fun v rd=>K v [] rd
 | .store t x v=>rq P s.o t (s.ev x) (s.ev v) fun Δ rd=>K (.bT []) Δ rd
 | .nilCheck x=>kn s.o (s.ev x) fun v=>K v [] []
 | .binOp op t x y _=>D0 P op t (s.ev x) (s.ev y) (fun v=>K v [] [])\/df (pz P s.o op t (isConst x||isConst y) (s.ev x) (s.ev y)) K
 | .unOp op _ x=>Na op (s.ev x) (fun v=>K v [] [])\/(op= .not/\s.ev x= .eO/\K .eO [] [])
 | .convert u t x=>(P.underlying u).isSome=true/\(match cL P t,s.ev x with
   |some k, .d (.int _ n)=>K (.d (.int k (k.wrap n))) [] []
   |_,_=>False)
 | .makeInterface t x=>(∃d,P.underlying t=some d/\(match d with| .interface _=>false|_=>true)=true)/\(match s.ev x with
   | .d y=>K (.d (.iface t y)) [] []
   |v=>K (.iface t v) [] [])
 | .makeFunc fn first cap=>K (.func fn (first.toList.map s.ev) (cap.toList.map s.ev)) [] []
 | .makeSlice t l c=>ja P fr t (s.ev l) (s.ev c) fun v Δ=>K v Δ []
 | .fieldAddr t x f=>iZ P s.o t (s.ev x) f fun v=>K v [] []
 | .indexAddr t x i=>iY P s.o t (s.ev x) (s.ev i) fun v rd=>K v [] rd
 | .extract x i=>match s.ev x with
   | .bT vs=>∃v,vs[i]? =some v/\K v [] []
   |_=>False
 | .slice t x lo hi mx=>df (pw P s.o t (s.ev x) (lo.map s.ev) (hi.map s.ev) (mx.map s.ev)) K
 | .field t x f=>df ((ru P t (s.ev x) f).map fun v=>(v,[],[])) K
 | .index t x i=>df ((rv P t (s.ev x) (s.ev i)).map fun v=>(v,[],[])) K
 | .makeMap t none=>df (lS P fr t) K
 | .lookup t m k ok=>df (gV P s.o t (s.ev m) (s.ev k) ok) K
 | .mapUpdate t m k v=>df (fi P s.o t (s.ev m) (s.ev k) (s.ev v)) K
 | .insert t m k v=>df (fi P s.o t (s.ev m) (s.ev k) (s.ev v)) K
 | .range t x=>df (lT P s.o fr t (s.ev x)) K
 | .next x str=>df (nb s.o (s.ev x) str) K\/(str=false/\∃id l,nd s.o (s.ev x)=some (id,l)/\AZ id l K)
 | .entry x=>df (lU s.o (s.ev x)) K
 | .typeAssert x _ t ok=>df ((nZ P t ok (s.ev x)).map fun v=>(v,[],[])) K
 | .call c=>match c.callee with
   | .builtin b=>ry P s fr b c.args.toList c.argTypes K
   |_=>False
 |_=>False
end Go.Proofs.YtealblliddhgiaaGreat
namespace Go.Proofs.YtealblliddhgiaaGreat
section
variable {B:Nat->Prop}{φ:Place}{H:Hp}{w:World}
theorem V.aB:∀ (cs:List V) (vs:List Value),V.aC B φ H w cs vs->vs.length=cs.length
 |[],_,h=>by simp[V.aC]at h;simp[h]
 |c::cs,_,h=>by obtain⟨u,us,rfl,_,h2⟩:=h;simp[V.aB cs us h2]
theorem V.ec:∀ (cs:List V) (vs:List Value) (i:Nat) (c:V),V.aC B φ H w cs vs->cs[i]? =some c->∃v,vs[i]? =some v/\V.den B φ H w c v
 |[],_,_,_,_,hd=>by simp at hd
 |c::cs,_,0,x,h,hd=>by
  obtain⟨u,us,rfl,h1,_⟩:=h
  simp at hd;subst hd;exact⟨u,by simp,h1⟩
 |c::cs,_,i+1,x,h,hd=>by
  obtain⟨u,us,rfl,_,h2⟩:=h
  simpa using V.ec cs us i x h2 (by simpa using hd)
theorem V.bg:∀ (cs ds:List V) (us vs:List Value),V.aC B φ H w cs us->V.aC B φ H w ds vs->V.aC B φ H w (cs++ds) (us++vs)
 |[],ds,us,vs,h,k=>by simp[V.aC]at h;subst h;simpa using k
 |c::cs,ds,_,vs,h,k=>by
  obtain⟨u,us,rfl,h1,h2⟩:=h
  exact⟨u,us++vs,by simp,h1,V.bg cs ds us vs h2 k⟩
theorem V.dB:∀ (n:Nat) (cs:List V) (vs:List Value),V.aC B φ H w cs vs->V.aC B φ H w (cs.take n) (vs.take n)
 |0,_,_,_=>by simp[V.aC]
 |n+1,[],_,h=>by simp[V.aC]at h;subst h;simp[V.aC]
 |n+1,c::cs,_,h=>by
  obtain⟨u,us,rfl,h1,h2⟩:=h
  exact⟨u,us.take n,by simp,h1,V.dB n cs us h2⟩
theorem V.ej:∀ (n:Nat) (cs:List V) (vs:List Value),V.aC B φ H w cs vs->V.aC B φ H w (cs.drop n) (vs.drop n)
 |0,_,_,h=>by simpa using h
 |n+1,[],_,h=>by simp[V.aC]at h;subst h;simp[V.aC]
 |n+1,c::cs,_,h=>by
  obtain⟨u,us,rfl,h1,h2⟩:=h
  simpa using V.ej n cs us h2
theorem V.cd:∀ (ds:List D) (vs:List Value),V.aC B φ H w (ds.map .d) vs↔D.aC B w ds vs
 |[],vs=>by simp[V.aC,D.aC]
 |x::ds,vs=>by simp only[List.map_cons,V.aC,D.aC,V.den,V.cd ds]
theorem D.bg:∀ (cs ds:List D) (us vs:List Value),D.aC B w cs us->D.aC B w ds vs->D.aC B w (cs++ds) (us++vs)
 |[],ds,us,vs,h,k=>by simp[D.aC]at h;subst h;simpa using k
 |c::cs,ds,_,vs,h,k=>by
  obtain⟨u,us,rfl,h1,h2⟩:=h
  exact⟨u,us++vs,by simp,h1,D.bg cs ds us vs h2 k⟩
theorem D.dB:∀ (n:Nat) (cs:List D) (vs:List Value),D.aC B w cs vs->D.aC B w (cs.take n) (vs.take n)
 |0,_,_,_=>by simp[D.aC]
 |n+1,[],_,h=>by simp[D.aC]at h;subst h;simp[D.aC]
 |n+1,c::cs,_,h=>by
  obtain⟨u,us,rfl,h1,h2⟩:=h
  exact⟨u,us.take n,by simp,h1,D.dB n cs us h2⟩
theorem D.ej:∀ (n:Nat) (cs:List D) (vs:List Value),D.aC B w cs vs->D.aC B w (cs.drop n) (vs.drop n)
 |0,_,_,h=>by simpa using h
 |n+1,[],_,h=>by simp[D.aC]at h;subst h;simp[D.aC]
 |n+1,c::cs,_,h=>by
  obtain⟨u,us,rfl,h1,h2⟩:=h
  simpa using D.ej n cs us h2
theorem D.wU:∀ (i:Nat) (ds:List D) (vs:List Value) (x:D) (v:Value),D.aC B w ds vs->D.den B w x v->D.aC B w (ds.set i x) (vs.set i v)
 |_,[],_,_,_,h,_=>by simp[D.aC]at h;subst h;simp[D.aC]
 |0,c::cs,_,x,v,h,k=>by
  obtain⟨u,us,rfl,h1,h2⟩:=h
  exact⟨v,us,by simp,k,h2⟩
 |i+1,c::cs,_,x,v,h,k=>by
  obtain⟨u,us,rfl,h1,h2⟩:=h
  exact⟨u,us.set i v,by simp,h1,D.wU i cs us x v h2 k⟩
theorem tT:∀ (cs:List V) (ds:List D),zm cs=some ds->cs=ds.map .d
 |[],ds,h=>by simp[zm]at h;subst h;rfl
 | .d x::cs,ds,h=>by
   simp only[zm,Option.map_eq_some_iff]at h
   obtain⟨a,h1,rfl⟩:=h
   simp[tT cs a h1]
 | .aX::_,_,h| .agg _::_,_,h| .bT _::_,_,h| .ptr _ _::_,_,h| .osl _ _::_,_,h| .pe _ _ _ _ _::_,_,h| .pp _ _::_,_,h
 | .func _ _ _::_,_,h| .iface _ _::_,_,h| .aa::_,_,h| .nr _::_,_,h| .rk _ _ _::_,_,h| .mp _::_,_,h| .eO::_,_,h=>by simp[zm]at h
theorem ko(cs:List V)(a:Array Value)(h:V.aC B φ H w cs a.toList)(hf:Flat a.toList):V.den B φ H w (fb cs) (.agg a):=by
 unfold fb
 split
 ·rename_i ds hd
  have:=tT cs ds hd
  subst this
  exact⟨a,rfl,(V.cd ds _).1 h,hf⟩
 ·exact⟨a,rfl,h,hf⟩
theorem D.mK:∀ (x:D) (v:Value),D.den B w x v->(∃cs a,x= .agg cs/\v= .agg a)\/v.oneCell'=true/\x.cells=[x]/\v.cells=#[v]
 | .int _ _,_,h| .bool _,_,h| .ft,_,h| .gy,_,h| .aW,_,h| .cI,_,h=>by
   simp only[D.den]at h;subst h;exact .inr ⟨rfl,rfl,rfl⟩
 | .str l,_,h=>by obtain⟨s,rfl,_⟩:=h;exact .inr ⟨rfl,rfl,rfl⟩
 | .agg cs,_,h=>by obtain⟨a,rfl,_,_⟩:=h;exact .inl ⟨cs,a,rfl,rfl⟩
 | .sl es,_,h=>by obtain⟨b,l,c,rfl,_⟩:=h;exact .inr ⟨rfl,rfl,rfl⟩
 | .iface t x,_,h=>by obtain⟨u,rfl,_⟩:=h;exact .inr ⟨rfl,rfl,rfl⟩
 | .mp ks vs,_,h=>by obtain⟨m,es,c,p,rfl,_⟩:=h;exact .inr ⟨rfl,rfl,rfl⟩
theorem D.eP (x:D)(v:Value)(h:D.den B w x v):D.aC B w x.cells v.cells.toList/\Flat v.cells.toList:=by
 rcases D.mK x v h with⟨cs,a,rfl,rfl⟩|⟨h1,h2,h3⟩
 ·obtain⟨a',h1,h2,h3⟩:=h
  injection h1 with h1;subst h1
  exact⟨h2,h3⟩
 ·rw[h2,h3]
  exact⟨⟨v,[],rfl,h,rfl⟩,by intro u hu;simp at hu;subst hu;exact h1⟩
theorem V.mK (x:V)(v:Value)(us:List V)(hx:x.cells=some us)(h:V.den B φ H w x v):V.aC B φ H w us v.cells.toList/\Flat v.cells.toList:=by
 have one:∀ (y:V),v.oneCell'=true->V.den B φ H w y v->V.aC B φ H w [y] v.cells.toList/\Flat v.cells.toList:=by
  intro y h1 h2
  have h3:v.cells=#[v]:=by cases v<;>simp_all[Value.oneCell',Value.cells]
  rw[h3]
  exact⟨⟨v,[],rfl,h2,rfl⟩,by intro u hu;simp at hu;subst hu;exact h1⟩
 cases x with
 |d x=>
  simp only[V.cells,Option.some.injEq]at hx;subst hx
  have:=D.eP x v h
  exact⟨(V.cd _ _).2 this.1,this.2⟩
 |aX=>simp only[V.cells,Option.some.injEq]at hx;subst hx;exact one _ (by cases h;rfl) h
 |agg cs=>
  simp only[V.cells,Option.some.injEq]at hx;subst hx
  obtain⟨a,rfl,h1,h2⟩:=h
  exact⟨h1,h2⟩
 |bT vs=>simp[V.cells]at hx
 |aa=>simp[V.cells]at hx
 |ptr id off=>simp only[V.cells,Option.some.injEq]at hx;subst hx;exact one _ h.1 h
 |osl id ep=>simp only[V.cells,Option.some.injEq]at hx;subst hx;exact one _ h.1 h
 |pe id ep i sz off=>simp only[V.cells,Option.some.injEq]at hx;subst hx;exact one _ h.1 h
 |pp cs off=>simp only[V.cells,Option.some.injEq]at hx;subst hx;exact one _ (by obtain⟨a,ev,_,rfl,_⟩:=h;rfl) h
 |func fn f c=>simp only[V.cells,Option.some.injEq]at hx;subst hx;exact one _ (by obtain⟨a,ev,rfl,_⟩:=h;rfl) h
 |iface t y=>simp only[V.cells,Option.some.injEq]at hx;subst hx;exact one _ (by obtain⟨a,rfl,_⟩:=h;rfl) h
 |nr es=>simp only[V.cells,Option.some.injEq]at hx;subst hx;exact one _ (by obtain⟨_,b,n,rfl⟩:=h;rfl) h
 |rk id off n=>simp only[V.cells,Option.some.injEq]at hx;subst hx;exact one _ h.1 h
 |mp id=>simp only[V.cells,Option.some.injEq]at hx;subst hx;exact one _ h.1 h
 |ke id=>simp only[V.cells,Option.some.injEq]at hx;subst hx;exact one _ h.1 h
 |eO=>simp only[V.cells,Option.some.injEq]at hx;subst hx;exact one _ (by obtain⟨a,rfl⟩:=h;rfl) h
theorem kO(v:Value)(h:v.oneCell'=true):V.den B φ H w (V.dm v) v:=by
 cases v<;>simp_all only[Value.oneCell',V.dm,V.den,D.den]<;>try trivial
 all_goals (try (split<;>simp_all[V.den,D.den]))
 all_goals (try first|(simp_all[D.den];done)|simp_all)
theorem dC:∀ (vs:List Value),Flat vs->V.aC B φ H w (vs.map V.dm) vs
 |[],_=>rfl
 |v::vs,h=>⟨v,vs,rfl,kO v (h v (by simp)),dC vs fun u hu=>h u (by simp[hu])⟩
end
end Go.Proofs.YtealblliddhgiaaGreat
namespace Go.Proofs.YtealblliddhgiaaGreat
theorem mL(H:Hp):H.put []=H:=by
 obtain⟨o,us⟩:=H
 simp[Hp.put,put]
theorem dN(H:Hp)(A C:List (Nat×ae)):H.put (A++C)=(H.put A).put C:=by
 obtain⟨o,us⟩:=H
 simp only[Hp.put,put,List.foldl_append,Hp.mk.injEq,true_and]
 funext id
 simp only[List.map_append,List.mem_append,eq_iff_iff]
 exact⟨fun h=>by rcases h with h|h|h<;>simp[h],fun h=>by rcases h with(h|h)|h<;>simp[h]⟩
@[simp] theorem bC (H:Hp) (i:Nat) (x:ae):(H.put [(i,x)]).o=ao H.o i x:=rfl
@[simp] theorem dO (H:Hp) (i j:Nat) (x:ae):(H.put [(i,x)]).us j↔(H.us j\/j=i):=by simp[Hp.put]
section
variable {M:Nat->Prop}{φ ay:Place}{H H':Hp}{w w':World}
theorem aK.wV (p9:∀b,cn w b-> ¬ai M φ H b->w'.heap[b]? =w.heap[b]? /\ ¬ai M ay H' b)(Vv:dM φ H ay H'){id:Nat}(ho:H'.o id=H.o id)(du:ay id=φ id)
 (hb:(H.o id).live=true->∀b,eC (φ id)=some b->w'.heap[b]? =w.heap[b]?) (h:aK M φ H w id):aK M ay H' w' id:=by
 unfold aK at*
 rw[ho]
 cases hx:H.o id with
 |no=>trivial
 |row cs=>
  simp only[hx]at h|-
  obtain⟨b,cP,ty,h1,h2,h3,h4⟩:=h
  exact⟨b,cP,ty,du.trans h1,(hb (by rw[hx];rfl) b (by rw[h1];rfl)).trans h2,V.fu p9 Vv cs _ h3,h4⟩
 |arr ep ty sz es=>
  simp only[hx]at h|-
  obtain⟨h0,xs,h1,evs,h2,h3,h4⟩:=h
  refine⟨h0,xs, ?_,evs,h2,h3,D.aI p9 es evs h4⟩
  rw[du]
  obtain⟨g1,g2⟩:=h1
  refine⟨g1, ?_⟩
  rcases g2 with g2|⟨g,cap,cur,k1,k2,k3,k4⟩
  ·exact .inl g2
  ·exact .inr ⟨g,cap,cur,k1,k2,(hb (by rw[hx];rfl) g (by rw[k1];rfl)).trans k3,k4⟩
 |nW ep es=>
  simp only[hx]at h|-
  rw[du]
  exact D.aA p9 (.sl es) _ h
 |map kt vt l=>
  simp only[hx]at h|-
  obtain⟨b,es,clock,h1,h2,h4,h3⟩:=h
  exact⟨b,es,clock,du.trans h1,(hb (by rw[hx];rfl) b (by rw[h1];rfl)).trans h2,h4,aH.mono p9 l _ h3⟩
 |dZ l=>
  simp only[hx]at h|-
  rw[du]
  exact D.aA p9 (.mp _ _) _ h
 |kg l last=>
  simp only[hx]at h|-
  obtain⟨b,h1,h2⟩:=h
  exact⟨b,du.trans h1,h2.mono p9 (hb (by rw[hx];rfl) b (by rw[h1];rfl))⟩
 |rl s pos=>
  simp only[hx]at h|-
  obtain⟨b,h1,h2⟩:=h
  exact⟨b,du.trans h1,(hb (by rw[hx];rfl) b (by rw[h1];rfl)).trans h2⟩
 |loop nf n env ps lO gU st B5=>
  simp only[hx]at h|-
  obtain⟨b,r,h1,h2,h0,h3,h4,h5,h6,h7,h8,h9⟩:=h
  exact⟨b,r,du.trans h1,(hb (by rw[hx];rfl) b (by rw[h1];rfl)).trans h2,h0,h3,h4,h5,h6,h7,h8,fun i=>V.kj p9 Vv _ _ (h9 i)⟩
theorem aK.mono (ht:Trans φ H w ay H' w'){id:Nat}(ho:H'.o id=H.o id)(du:ay id=φ id)
 (hb:(H.o id).live=true->∀b,eC (φ id)=some b->w'.heap[b]? =w.heap[b]?) (h:aK M φ H w id):aK M ay H' w' id:=aK.wV ht.blocks ht.rel ho du hb h
theorem au.of (hH:au M φ H w)(ht:Trans φ H w ay H' w')(T:Nat->Prop)(hT:∀id,T id->aK M ay H' w' id)
 (hn:∀id, ¬T id->H'.o id=H.o id/\ay id=φ id/\((H.o id).live=true->∀b,eC (φ id)=some b->w'.heap[b]? =w.heap[b]?))
 (jc:∀id, ¬H'.us id->H'.o id= .no)
 (Xg:∀i j b,(H'.o i).live=true->(H'.o j).live=true->eC (ay i)=some b->eC (ay j)=some b->i=j)
 (Nb:∀b,bO ay H' b->b<w'.heap.size):au M ay H' w' where
 ok id:=by
  by_cases hc:T id
  ·exact hT id hc
  ·obtain⟨h1,h2,h3⟩:=hn id hc
   exact(hH.ok id).mono ht h1 h2 h3
 fresh:=jc
 apart:=Xg
 ours b hb:=by
  refine⟨fun hM=> ?_,Nb b hb⟩
  rcases ht.grow b hb with h1|h1
  ·exact(hH.ours b h1).1 hM
  ·have:=hH.tv b hM;omega
 tv b hM:=Nat.lt_of_lt_of_le (hH.tv b hM) ht.b8.size
theorem eQ(hk:eF (fun _=>False) w w'){fr:Nat}(cU: ¬H.us fr)(obj:ae)(val:Value)(dP:∀b,eC val=some b->w.heap.size<=b):
 Trans φ H w (ao φ fr val) (H.put [(fr,obj)]) w' where
 b8:=⟨hk.os,hk.tape,hk.output,hk.size,fun k h _=>hk.block k h (fun h=>h)⟩
 grow b:=by
  rintro⟨id,h1,h2⟩
  by_cases aj:id=fr
  ·subst aj;simp at h2;exact .inr (dP b h2)
  ·simp[aj]at h1 h2;exact .inl ⟨id,h1,h2⟩
 rel:={
  us:=fun id h=>by simp[h]
  row:=fun id hu hr=>by
   have aj:id≠fr:=fun h=>cU (h ▸ hu)
   simp[aj]at hr|-;exact hr
  ep:=fun id e' hu he=>by
   have aj:id≠fr:=fun h=>cU (h ▸ hu)
   simp[aj]at he|-;exact⟨e',he,Nat.le_refl _⟩}
theorem jd(hH:au M φ H w)(hk:eF (fun _=>False) w w'){fr:Nat}(cU: ¬H.us fr)(obj:ae)(val:Value)(dP:∀b,eC val=some b->w.heap.size<=b/\b<w'.heap.size)
 (rz:aK M (ao φ fr val) (H.put [(fr,obj)]) w' fr):au M (ao φ fr val) (H.put [(fr,obj)]) w':=by
 have ht:Trans φ H w (ao φ fr val) (H.put [(fr,obj)]) w':=eQ hk cU obj val fun b hb=>(dP b hb).1
 refine hH.of ht (· =fr) (fun id h=>h ▸ rz) (fun id h=> ?_) (fun id h=> ?_) (fun i j b hi hj bi bj=> ?_) (fun b=> ?_)
 ·refine⟨by simp[h],by simp[h],fun hl b hb=>hk.block b ?_ (fun h=>h)⟩
  exact(hH.ours b ⟨id,hl,hb⟩).2
 ·rw[dO]at h
  have h1:id≠fr:=fun e=>h (.inr e)
  simp only[bC,aL,h1,if_false]
  exact hH.fresh id fun hu=>h (.inl hu)
 ·by_cases e1:i=fr<;>by_cases e2:j=fr
  ·exact e1.trans e2.symm
  ·simp[e1,e2]at hi hj bi bj
   have:=(hH.ours b ⟨j,hj,bj⟩).2;have:=(dP b bi).1;omega
  ·simp[e1,e2]at hi hj bi bj
   have:=(hH.ours b ⟨i,hi,bi⟩).2;have:=(dP b bj).1;omega
  ·simp[e1,e2]at hi hj bi bj
   exact hH.apart i j b hi hj bi bj
 ·rintro⟨id,h1,h2⟩
  by_cases aj:id=fr
  ·subst aj;simp at h2;exact(dP b h2).2
  ·simp[aj]at h1 h2
   exact Nat.lt_of_lt_of_le (hH.ours b ⟨id,h1,h2⟩).2 hk.size
theorem cV(w:World)(o:Obj):eF (fun _=>False) w (w.alloc o):=
 ⟨rfl,rfl,rfl,by simp,fun k hk _=>RowKit.Below.heap_alloc w o k hk⟩
theorem kP{w w':World}(h:w.grownBy w' none):eF (fun _=>False) w w':=
 ⟨h.os,h.tape,h.output,h.size,fun k hk _=>h.block k hk (by simp)⟩
theorem Gz(hH:au M φ H w){fr:Nat}(cU: ¬H.us fr)(cs:List V)(cP:Array Value)(ty:TypeId)(hd:V.aC (ai M φ H) φ H w cs cP.toList)(hf:Flat cP.toList):
 let ay:=ao φ fr (.pointer (some ⟨w.heap.size,0,none⟩));let H':=H.put [(fr, .row cs)];let w':=w.alloc (.cells cP ty)
 au M ay H' w'/\Trans φ H w ay H' w'/\V.den (ai M ay H') ay H' w' (.ptr fr 0) (.pointer (some ⟨w.heap.size,0,none⟩)):=by
 intro ay H' w'
 have hv:∀b,eC (.pointer (some ⟨w.heap.size,0,none⟩))=some b->w.heap.size<=b/\b<w'.heap.size:=by
  intro b hb;simp[eC]at hb;subst hb;simp[w']
 have ht:Trans φ H w ay H' w':=eQ (cV w _) cU _ _ fun b hb=>(hv b hb).1
 refine⟨jd hH (cV w _) cU _ _ hv ?_,ht,rfl,by simp[H'],fun _=>⟨w.heap.size,by simp[ay],rfl⟩⟩
 unfold aK
 simp only[bC,aL,if_true]
 exact⟨w.heap.size,cP,ty,rfl,heap_alloc_new w _,V.aI ht cs _ hd,hf⟩
theorem fw{id:Nat}(dQ:H.us id){b:Nat}(bS:(H.o id).live=true)(hb:eC (φ id)=some b)(hk:eF (· =b) w w')(obj:ae)(a7:obj.bN=(H.o id).bN)(rA:obj.aZ=(H.o id).aZ):
 Trans φ H w φ (H.put [(id,obj)]) w' where
 b8:=⟨hk.os,hk.tape,hk.output,hk.size,fun k h hl=>hk.block k h (fun e=>hl ⟨id,bS,e ▸ hb⟩)⟩
 grow b':=by
  rintro⟨j,h1,h2⟩
  by_cases hj:j=id
  ·subst hj;exact .inl ⟨j,bS,h2⟩
  ·simp[hj]at h1;exact .inl ⟨j,h1,h2⟩
 rel:={
  us:=fun j h=>by simp[h]
  row:=fun j hu hr=>by
   by_cases hj:j=id
   ·subst hj;simp at hr;exact⟨a7 ▸ hr,rfl⟩
   ·simp[hj]at hr;exact⟨hr,rfl⟩
  ep:=fun j e' hu he=>by
   by_cases hj:j=id
   ·subst hj;simp at he;exact⟨e',rA ▸ he,Nat.le_refl _,fun _=>rfl⟩
   ·simp[hj]at he;exact⟨e',he,Nat.le_refl _,fun _=>rfl⟩}
theorem iO(hH:au M φ H w){id:Nat}(dQ:H.us id){b:Nat}(bS:(H.o id).live=true)(hb:eC (φ id)=some b)(hk:eF (· =b) w w')(obj:ae)(a7:obj.bN=(H.o id).bN)
 (rA:obj.aZ=(H.o id).aZ) (rz:aK M φ (H.put [(id,obj)]) w' id):au M φ (H.put [(id,obj)]) w':=by
 refine hH.of (fw dQ bS hb hk obj a7 rA) (· =id) (fun j h=>h ▸ rz) (fun j h=> ?_) (fun j h=> ?_) (fun i j b' hi hj bi bj=> ?_) (fun b'=> ?_)
 ·refine⟨by simp[h],rfl,fun hl b' D4=>hk.block b' (hH.ours b' ⟨j,hl,D4⟩).2 fun e=>h ?_⟩
  exact hH.apart j id b hl bS (e ▸ D4) hb
 ·rw[dO]at h
  have h1:j≠id:=fun e=>h (.inr e)
  simp only[bC,aL,h1,if_false]
  exact hH.fresh j fun hu=>h (.inl hu)
 ·refine hH.apart i j b' ?_ ?_ bi bj
  ·by_cases e:i=id
   ·subst e;exact bS
   ·simpa[e]using hi
  ·by_cases e:j=id
   ·subst e;exact bS
   ·simpa[e]using hj
 ·rintro⟨j,h1,h2⟩
  refine Nat.lt_of_lt_of_le (hH.ours b' ⟨j, ?_,h2⟩).2 hk.size
  by_cases e:j=id
  ·subst e;exact bS
  ·simpa[e]using h1
theorem jx(w:World)(b:Nat)(cs:Array Value):eF (· =b) w (w.setRow b cs):=
 ⟨rfl,rfl,rfl,by simp,fun k _ hk=>by
  unfold World.setRow
  simp only[Array.getElem?_modify]
  rw[if_neg (fun e=>hk e.symm)]⟩
theorem wW(hH:au M φ H w){id b:Nat}(dQ:H.us id){cs cs':List V}(ho:H.o id= .row cs)(du:φ id= .pointer (some ⟨b,0,none⟩)){cP:Array Value}{ty:TypeId}
 (hb:w.heap[b]? =some (.cells cP ty (0,0))) (n7:Array Value) (hd:V.aC (ai M φ H) φ H w cs' n7.toList) (hf:Flat n7.toList):
 au M φ (H.put [(id, .row cs')]) (w.setRow b n7)/\Trans φ H w φ (H.put [(id, .row cs')]) (w.setRow b n7):=by
 have hl:(H.o id).live=true:=by rw[ho];rfl
 have p9:eC (φ id)=some b:=by rw[du];rfl
 have ht:Trans φ H w φ (H.put [(id, .row cs')]) (w.setRow b n7):=fw dQ hl p9 (jx w b n7) _ (by rw[ho];rfl) (by rw[ho];rfl)
 refine⟨iO hH dQ hl p9 (jx w b n7) _ (by rw[ho];rfl) (by rw[ho];rfl) ?_,ht⟩
 unfold aK
 simp only[bC,aL,if_true]
 exact⟨b,n7,ty,du,setRow_heap w b cP n7 ty (0,0) hb,V.aI ht cs' _ hd,hf⟩
theorem n8{B:Nat->Prop}{sz g:Nat}(cur:Array Value)(ty:TypeId)(fz:Nat×Nat)(hg:w.heap[g]? =some (.cells cur ty fz))(hB: ¬B g):
 ∀ (es:List D) (evs:List Value) (i:Nat),D.aC B w es evs->(∀ev∈evs,ev.cells.size=sz)->(∀j u,(evs.flatMap (·.cells.toList))[j]? =some u->cur[i*sz+j]? =some u)->D.elems B w sz ⟨g,0,none⟩ i es
 |[],_,_,_,_,_=>trivial
 |e::es,_,i,h,hs,hc=>by
  obtain⟨ev,evs,rfl,h1,h2⟩:=h
  have dX:ev.cells.size=sz:=hs ev (by simp)
  refine⟨⟨ev,dX,fun j u hj=> ?_,h1⟩,n8 cur ty fz hg hB es evs (i+1) h2 (fun x hx=>hs x (by simp[hx])) fun j u hj=> ?_⟩
  ·have bL:j<ev.cells.size:=(Array.getElem?_eq_some_iff.1 hj).1
   have:cur[i*sz+j]? =some u:=hc j u (by
    rw[List.flatMap_cons,List.getElem?_append_left (by simpa using bL)];simpa using hj)
   refine⟨?_,by simpa using hB⟩
   unfold Addr.add World.cell?
   by_cases e1:i*sz=0<;>by_cases e2:j=0<;>simp_all
  ·have:=hc (sz+j) u (by
    rw[List.flatMap_cons,List.getElem?_append_right (by simp[dX])]
    simpa[dX]using hj)
   rw[show(i+1)*sz+j=i*sz+(sz+j) by rw[Nat.add_mul];omega]
   exact this
theorem GA(hH:au M φ H w){id ep sz:Nat}{ty:TypeId}{es:List D}(dQ:H.us id)(ho:H.o id= .arr ep ty sz es):
 au M φ (H.put [(id, .nW ep es)]) w/\Trans φ H w φ (H.put [(id, .nW ep es)]) w:=by
 have JN:∀b,bO φ (H.put [(id, .nW ep es)]) b->bO φ H b:=by
  rintro b ⟨j,h1,h2⟩
  by_cases hj:j=id
  ·subst hj;simp[ae.live]at h1
  ·simp[hj]at h1;exact⟨j,h1,h2⟩
 have ht:Trans φ H w φ (H.put [(id, .nW ep es)]) w:={
  b8:=eF.refl _ _
  grow:=fun b hb=> .inl (JN b hb)
  rel:={
   us:=fun j h=>by simp[h]
   row:=fun j hu hr=>by
    by_cases hj:j=id
    ·subst hj;simp[ae.bN]at hr
    ·simp[hj]at hr;exact⟨hr,rfl⟩
   ep:=fun j e' hu he=>by
    by_cases hj:j=id
    ·subst hj;simp[ae.aZ]at he;subst he;exact⟨ep,by rw[ho];rfl,Nat.le_refl _,fun _=>rfl⟩
    ·simp[hj]at he;exact⟨e',he,Nat.le_refl _,fun _=>rfl⟩}}
 refine⟨hH.of ht (· =id) (fun j h=> ?_) (fun j h=>⟨by simp[h],rfl,fun _ _ _=>rfl⟩) (fun j h=> ?_) (fun i j b hi hj bi bj=> ?_) (fun b hb=>(hH.ours b (JN b hb)).2),ht⟩
 ·subst h
  have bz:=hH.ok j
  unfold aK at bz|-
  simp only[ho,bC,aL,if_true]at bz|-
  obtain⟨h0,xs,⟨hl,a7⟩,evs,rfl,h2,h3⟩:=bz
  have hlen:=D.aB _ _ h3
  rcases a7 with⟨h4,h5⟩|⟨g,cap,cur,h4,_,h5,h6,h7,h8,h9⟩
  ·rw[h4]
   have:es=[]:=by simpa using h5
   subst this
   exact⟨none,0,0,rfl,rfl,Nat.le_refl _,fun _=>rfl,0,fun a ha=>by cases ha⟩
  ·rw[h4]
   refine⟨some ⟨g,0,none⟩,es.length,cap,rfl,rfl,h6,(fun h=>by cases h),sz,fun a ha=> ?_⟩
   injection ha with ha;subst ha
   refine⟨fun _=>rfl,n8 cur ty (0,0) h5 ?_ es evs 0 (D.aI (ht.blocks (M:=M)) es evs h3) h2 fun j' u DO=> ?_⟩
   ·rintro(hM|⟨i,Gn,D5⟩)
    ·exact(hH.ours g ⟨j,by rw[ho];rfl,by rw[h4];rfl⟩).1 hM
    ·by_cases e:i=j
     ·subst e;simp[ae.live]at Gn
     ·simp[e]at Gn
      exact e (hH.apart i j g Gn (by rw[ho];rfl) D5 (by rw[h4];rfl))
   ·rw[<- h9]at DO
    simp only[Nat.zero_mul,Nat.zero_add]
    rw[List.getElem?_take]at DO
    split at DO
    ·simpa using DO
    ·cases DO
 ·rw[dO]at h
  have h1:j≠id:=fun e=>h (.inr e)
  simp only[bC,aL,h1,if_false]
  exact hH.fresh j fun hu=>h (.inl hu)
 ·by_cases e1:i=id
  ·subst e1;simp[ae.live]at hi
  ·by_cases e2:j=id
   ·subst e2;simp[ae.live]at hj
   ·simp[e1,e2]at hi hj;exact hH.apart i j b hi hj bi bj
theorem vi(hH:au M φ H w){id:Nat}{kt vt:TypeId}{l:List (D×D)}(dQ:H.us id)(ho:H.o id= .map kt vt l):
 au M φ (H.put [(id, .dZ l)]) w/\Trans φ H w φ (H.put [(id, .dZ l)]) w:=by
 have JN:∀b,bO φ (H.put [(id, .dZ l)]) b->bO φ H b:=by
  rintro b ⟨j,h1,h2⟩
  by_cases hj:j=id
  ·subst hj;simp[ae.live]at h1
  ·simp[hj]at h1;exact⟨j,h1,h2⟩
 have ht:Trans φ H w φ (H.put [(id, .dZ l)]) w:={
  b8:=eF.refl _ _
  grow:=fun b hb=> .inl (JN b hb)
  rel:={
   us:=fun j h=>by simp[h]
   row:=fun j hu hr=>by
    by_cases hj:j=id
    ·subst hj;exact⟨by rw[ho];rfl,rfl⟩
    ·simp[hj]at hr;exact⟨hr,rfl⟩
   ep:=fun j e' hu he=>by
    by_cases hj:j=id
    ·subst hj;simp[ae.aZ]at he
    ·simp[hj]at he;exact⟨e',he,Nat.le_refl _,fun _=>rfl⟩}}
 refine⟨hH.of ht (· =id) (fun j h=> ?_) (fun j h=>⟨by simp[h],rfl,fun _ _ _=>rfl⟩) (fun j h=> ?_) (fun i j b hi hj bi bj=> ?_) (fun b hb=>(hH.ours b (JN b hb)).2),ht⟩
 ·subst h
  have bz:=hH.ok j
  unfold aK at bz|-
  simp only[ho,bC,aL,if_true]at bz|-
  obtain⟨b,es,clock,h1,h2,h3,h4⟩:=bz
  obtain⟨h5,h6⟩:=(iM _ _).1 h4
  refine⟨b,es,clock,es.toList,h1,h2, ?_,h3, .inl rfl,D.aI (ht.blocks (M:=M)) _ _ h5,D.aI (ht.blocks (M:=M)) _ _ h6⟩
  rintro(hM|⟨i,Gn,D5⟩)
  ·exact(hH.ours b ⟨j,by rw[ho];rfl,by rw[h1];rfl⟩).1 hM
  ·by_cases e:i=j
   ·subst e;simp[ae.live]at Gn
   ·simp[e]at Gn
    exact e (hH.apart i j b Gn (by rw[ho];rfl) D5 (by rw[h1];rfl))
 ·rw[dO]at h
  have h1:j≠id:=fun e=>h (.inr e)
  simp only[bC,aL,h1,if_false]
  exact hH.fresh j fun hu=>h (.inl hu)
 ·by_cases e1:i=id
  ·subst e1;simp[ae.live]at hi
  ·by_cases e2:j=id
   ·subst e2;simp[ae.live]at hj
   ·simp[e1,e2]at hi hj;exact hH.apart i j b hi hj bi bj
end
end Go.Proofs.YtealblliddhgiaaGreat
