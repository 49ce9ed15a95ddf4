/-
  A PART OF THE PROOF. Conditions: none.
-/
import Derived.WalkKit
import Derived.Below
set_option linter.unusedSimpArgs false
set_option linter.unusedVariables false
namespace Go.Proofs.YtealblliddhgiaaGreat
def qt(ops:Array Oper)(j:Nat):Option Tmp:=(ops[j]?).bind (·.dst)
structure bZ where
 dst:Option Nat
 op:Op
 gd:Option (Nat×Bool):=none
instance:Inhabited bZ:=⟨⟨none, .ready 0,none⟩⟩
def Ai(n:Nat):Option Tmp->Bool
 |some d=>decide (d<n)
 |none=>true
def EM(n:Nat)(ops:Array Oper)(o:Oper):Option bZ:=
 if Ai n o.dst=true then match o.guard with
  |none=>some ⟨o.dst,o.op,none⟩
  |some (j,want)=>match qt ops j with
   |some d=>some ⟨o.dst,o.op,some (d,want)⟩
   |none=>none
 else none
def kg(n:Nat)(ops:Array Oper):List Oper->Option (List bZ)
 |[]=>some []
 |o::l=>match EM n ops o,kg n ops l with
  |some x,some xs=>some (x::xs)
  |_,_=>none
def tmpsOf(o:bZ):List Nat:=(o.op.operands.toList.filterMap fun| .tmp t=>some t|_=>none)++(match o.gd with|some (d,_)=>[d]|none=>[])
def eJ(o:bZ):List Nat:=tmpsOf o++o.dst.toList
def bE(ops:Array Oper)(i:Nat):List Nat:=match ops[i]? with|some o=>(o.after.toList.filter (Region.binds .any)).map (·.on)|none=>[]
def bR(l:List bZ)(i:Nat):bZ:=l.getD i default
inductive IC where
 |skip|ad (l:List bZ)|cG (l:List bZ) (pr:List (List Nat))|seq (a b:IC)|cond (c:Operand) (a b:IC)|block (id:Nat) (a:IC)|loop (a:IC)|exit (id:Nat)|ret|bad
 |C8 (g:Operand) (ps:List Nat) (a b:IC)
 deriving Inhabited
inductive jQ where
 |ret|exit (id:Nat)
def jQ.code:jQ->Code
 | .ret=> .ret
 | .exit id=> .exit id
def kV(acc:List Nat):List Nat->Nat
 |[]=>0
 |j::ps=>(2^j|||acc.getD j 0)|||kV acc ps
def dR:List (List Nat)->List Nat->List Nat
 |[],acc=>acc
 |ps::l,acc=>dR l (acc++[kV acc ps])
def pJ(x y:bZ):Bool:=match x.dst with|some d=> !(eJ y).contains d|none=>true
def vI(l:List bZ)(pr:List (List Nat)):Bool:=
 (List.range l.length).all fun j=>(List.range j).all fun i=>((dR pr []).getD j 0).testBit i||(pJ (bR l i) (bR l j)&&pJ (bR l j) (bR l i))
def jR(xs ys:List Nat):Bool:=xs.all fun x=> !ys.contains x
def eg(pr:List (List Nat))(fp:List (List Nat×List Nat)):Bool:=
 (List.range fp.length).all fun j=>(List.range j).all fun i=>((dR pr []).getD j 0).testBit i||
  (jR (fp.getD i ([],[])).2 (fp.getD j ([],[])).1&&jR (fp.getD i ([],[])).2 (fp.getD j ([],[])).2&&jR (fp.getD j ([],[])).2 (fp.getD i ([],[])).1)
def fQ(ops:Array Oper):List (List Nat):=(List.range ops.size).map (bE ops)
def Li(pr:List (List Nat)):Bool:=(List.range pr.length).all fun k=>(pr.getD k []).all fun j=>decide (j<k)
theorem rS{acc:List Nat}{i:Nat}:∀ (ps:List Nat),(kV acc ps).testBit i=true->∃j∈ps,i=j\/(acc.getD j 0).testBit i=true
 |[],h=>by simp[kV]at h
 |j::ps,h=>by
  simp only[kV,Nat.testBit_or,Bool.or_eq_true]at h
  rcases h with(h|h)|h
  ·rw[Nat.testBit_two_pow]at h
   exact⟨j,by simp, .inl (by have h:=of_decide_eq_true h;exact h.symm)⟩
  ·exact⟨j,by simp, .inr h⟩
  ·obtain⟨j',h1,h2⟩:=rS ps h
   exact⟨j',by simp[h1],h2⟩
theorem pK{k:Nat}:∀ (l:List (List Nat)) (acc:List Nat),k<acc.length->(dR l acc).getD k 0=acc.getD k 0
 |[],_,_=>rfl
 |ps::l,acc,h=>by
  rw[dR,pK l _ (by simp;omega)]
  simp[List.getD_eq_getElem?_getD,List.getElem?_append_left h]
theorem pL{i:Nat}:∀ (l:List (List Nat)) (acc:List Nat) (k:Nat),acc.length<=k->(∀k',k'<l.length->∀j∈l.getD k' [],j<acc.length+k')->((dR l acc).getD k 0).testBit i=true->
 ∃j∈l.getD (k - acc.length) [],i=j\/((dR l acc).getD j 0).testBit i=true
 |[],acc,k,hk,_,h=>by
  simp only[dR]at h
  rw[List.getD_eq_getElem?_getD,List.getElem?_eq_none hk]at h
  simp at h
 |ps::l,acc,k,hk,hp,h=>by
  simp only[dR]at h|-
  by_cases he:k=acc.length
  ·subst he
   rw[pK l _ (by simp)]at h
   have e:(acc++[kV acc ps]).getD acc.length 0=kV acc ps:=by simp[List.getD_eq_getElem?_getD]
   rw[e]at h
   obtain⟨j,h1,h2⟩:=rS ps h
   refine⟨j,by simpa using h1,h2.imp id fun h2=> ?_⟩
   have hj:j<acc.length:=by simpa using hp 0 (by simp) j (by simpa using h1)
   rw[pK l _ (by simp;omega)]
   simpa[List.getD_eq_getElem?_getD,List.getElem?_append_left hj]using h2
  ·obtain⟨j,h1,h2⟩:=pL l (acc++[kV acc ps]) k (by simp;omega) (fun k' NI j hj=>by
    have:=hp (k'+1) (by simp;omega) j (by simpa using hj)
    simp;omega) h
   refine⟨j, ?_,h2⟩
   have e:k - acc.length=(k - (acc++[kV acc ps]).length)+1:=by simp;omega
   rw[e];simpa using h1
theorem oq{pr:List (List Nat)}(hp:∀k,k<pr.length->∀j∈pr.getD k [],j<k){E:Nat->Bool}(hE:∀k,k<pr.length->E k=true->∀j∈pr.getD k [],E j=true):
 ∀k,k<pr.length->(∀j∈pr.getD k [],E j=true)->∀i,((dR pr []).getD k 0).testBit i=true->E i=true:=by
 intro k
 induction k using Nat.strongRecOn with
 |ind k ih=>
  intro hk hj i hi
  obtain⟨j,h1,h2⟩:=pL pr [] k (by simp) (fun k' NI j hj=>by simpa using hp k' NI j hj) hi
  simp only[List.length_nil,Nat.sub_zero]at h1
  rcases h2 with rfl|h2
  ·exact hj _ h1
  ·have ON:=hp k hk j h1
   exact ih j ON (by omega) (hE j (by omega) (hj j h1)) i h2
theorem xM{pr:List (List Nat)}(hp:∀k,k<pr.length->∀j∈pr.getD k [],j<k):∀k,k<pr.length->∀i,((dR pr []).getD k 0).testBit i=true->i<k:=by
 intro k
 induction k using Nat.strongRecOn with
 |ind k ih=>
  intro hk i hi
  obtain⟨j,h1,h2⟩:=pL pr [] k (by simp) (fun k' NI j hj=>by simpa using hp k' NI j hj) hi
  simp only[List.length_nil,Nat.sub_zero]at h1
  have ON:=hp k hk j h1
  rcases h2 with rfl|h2
  ·exact ON
  ·have:=ih j ON (by omega) i h2;omega
def low(n:Nat):Code->IC
 | .skip=> .skip
 | .label _=> .skip
 | .scope c=>low n c
 | .region _ ops false=>match kg n ops ops.toList with
   |some l=> .ad l
   |none=> .bad
 | .region _ ops true=>match kg n ops ops.toList with
   |some l=>if vI l (fQ ops)&&Li (fQ ops)then .cG l (fQ ops)else .bad
   |none=> .bad
 | .seq a b=> .seq (low n a) (low n b)
 | .cond c a b=> .cond c (low n a) (low n b)
 | .block id a=> .block id (low n a)
 | .loop a=> .loop (low n a)
 | .exit id=> .exit id
 | .ret=> .ret
 | .rangeFunc g ps a b=> .C8 g ps.toList (low n a) (low n b)
 |_=> .bad
end Go.Proofs.YtealblliddhgiaaGreat
namespace Go.Proofs.YtealblliddhgiaaGreat
inductive D where
 |int (k:IntKind) (n:Int)|bool (b:Bool)|str (s:List UInt8)
 |eh|gx|a7|cU
 |agg (cs:List D)|sl (es:List D)|iface (t:TypeId) (d:D)
 |mp (ks vs:List D)
 deriving Inhabited
def Flat(vs:List Value):Prop:=∀u∈vs,u.oneCell'=true
def fR(B:Nat->Prop)(w:World)(a:Addr)(cs:Array Value):Prop:=∀j u,cs[j]? =some u->w.cell? (a.add j)=some u/\ ¬B a.block
def iE(es:Array MapEntry)(clock:Nat):Prop:=(∀e∈es.toList,e.born<clock)/\(es.toList.map (·.born)).Nodup
def vK(ks:List D):Prop:=ks.Nodup/\∀k∈ks,∃n,k= .int .i64 n
mutual
def D.den (B:Nat->Prop)(w:World):D->Value->Prop
 | .int k n,v=>v= .int k n
 | .bool b,v=>v= .bool b
 | .str l,v=>∃s:ByteArray,v= .string s/\s.data.toList=l
 | .eh,v=>v= .nilIface
 | .gx,v=>v= .pointer none
 | .a7,v=>v= .nilFunc
 | .cU,v=>v= .map none
 | .agg cs,v=>∃a,v= .agg a/\D.aF B w cs a.toList/\Flat a.toList
 | .sl es,v=>∃base len cap,v= .slice base len cap/\len=es.length/\len<=cap/\(base=none->cap=0)/\
  ∃sz,∀a,base=some a->(cap≠0->a.spot=none)/\D.elems B w sz a 0 es
 | .iface t d,v=>∃u,v= .iface t u/\D.den B w d u
 | .mp ks vs,v=>∃m es clock p,v= .map (some m)/\w.heap[m]? =some (.map es clock)/\ ¬B m/\iE es clock/\(p=es.toList\/(p.Perm es.toList/\vK ks))/\D.aF B w ks (p.map (·.key))/\D.aF B w vs (p.map (·.val))
def D.aF (B:Nat->Prop)(w:World):List D->List Value->Prop
 |[],vs=>vs=[]
 |d::ds,vs=>∃u us,vs=u::us/\D.den B w d u/\D.aF B w ds us
def D.elems (B:Nat->Prop)(w:World)(sz:Nat)(a:Addr):Nat->List D->Prop
 |_,[]=>True
 |i,e::es=>(∃ev:Value,ev.cells.size=sz/\fR B w (a.add (i*sz)) ev.cells/\D.den B w e ev)/\D.elems B w sz a (i+1) es
end
inductive V where
 |d (x:D)|br|agg (cs:List V)|bU (vs:List V)
 |ptr (id off:Nat)|osl (id ep:Nat)|pe (id ep i sz off:Nat)|pp (cs:List D) (off:Nat)
 |func (fn:Fn) (first cap:List V)|iface (t:TypeId) (x:V)
 |af
 |nC (es:List D)|rT (id off n:Nat)|mp (id:Nat)|eK|ki (id:Nat)
 deriving Inhabited
inductive ab where
 |no|row (cs:List V)|arr (ep:Nat) (ty:TypeId) (sz:Nat) (es:List D)|ou (ep:Nat) (es:List D)
 |map (kt vt:TypeId) (es:List (D×D))
 |loop (nf n:Nat) (env:List V) (ps:List Nat) (a b:IC) (st:LoopState) (C9:Option jQ)
 |eY (es:List (D×D))|nD (es:List (D×D)) (last:Option (D×D))|rU (s:List UInt8) (pos:Nat)
 deriving Inhabited
def bq(l:List V):Nat->V:=fun i=>l.getD i .af
structure Hp where
 o:Nat->ab
 us:Nat->Prop
def ab.ba:ab->Option Nat
 | .arr ep _ _ _| .ou ep _=>some ep
 |_=>none
def ab.bN:ab->Bool
 | .row _| .map .. | .loop .. | .eY _| .nD .. | .rU .. =>true
 |_=>false
def ab.live:ab->Bool
 | .row _| .arr .. | .map .. | .loop .. | .nD .. | .rU .. =>true
 |_=>false
def eA:Value->Option Nat
 | .pointer (some a)| .slice (some a) _ _=>some a.block
 | .map (some b)=>some b
 |_=>none
abbrev Place:=Nat->Value
def bS(φ:Place)(H:Hp)(b:Nat):Prop:=∃id,(H.o id).live=true/\eA (φ id)=some b
def aj(M:Nat->Prop)(φ:Place)(H:Hp)(b:Nat):Prop:=M b\/bS φ H b
mutual
def V.den (B:Nat->Prop)(φ:Place)(H:Hp)(w:World):V->Value->Prop
 | .d x,v=>D.den B w x v
 | .br,v=>v= .slice none 0 0
 | .agg cs,v=>∃a,v= .agg a/\V.aF B φ H w cs a.toList/\Flat a.toList
 | .bU vs,v=>∃a,v= .tuple a/\V.aF B φ H w vs a.toList
 | .ptr id off,v=>v.oneCell'=true/\H.us id/\((H.o id).bN=true->∃b,φ id= .pointer (some ⟨b,0,none⟩)/\v= .pointer (some ⟨b,off,none⟩))
 | .osl id ep,v=>v.oneCell'=true/\H.us id/\∀e,(H.o id).ba=some e->ep<=e/\(ep=e->v=φ id)
 | .pe id ep i sz off,v=>v.oneCell'=true/\H.us id/\∀e,(H.o id).ba=some e->ep<=e/\(ep=e->∃b n c,φ id= .slice (some ⟨b,0,none⟩) n c/\v= .pointer (some ⟨b,i*sz+off,none⟩))
 | .pp cs off,v=>∃a ev,a.spot=none/\v= .pointer (some (a.add off))/\D.aF B w cs ev/\Flat ev/\fR B w a ev.toArray
 | .func fn first cap,v=>∃f c,v= .func fn f c/\V.aF B φ H w first f.toList/\V.aF B φ H w cap c.toList
 | .iface t x,v=>∃u,v= .iface t u/\V.den B φ H w x u
 | .af,_=>True
 | .nC es,v=>D.den B w (.sl es) v/\∃base n,v= .slice base n n
 | .rT id off n,v=>v.oneCell'=true/\H.us id/\((H.o id).bN=true->∃b,φ id= .pointer (some ⟨b,0,none⟩)/\v= .slice (some ⟨b,off,none⟩) n n)
 | .mp id,v=>v.oneCell'=true/\H.us id/\((H.o id).bN=true->v=φ id)
 | .eK,v=>∃b,v= .bool b
 | .ki id,v=>v.oneCell'=true/\H.us id/\((H.o id).bN=true->∃b,φ id= .pointer (some ⟨b,0,none⟩)/\v= .func (.yield b) #[] #[])
def V.aF (B:Nat->Prop)(φ:Place)(H:Hp)(w:World):List V->List Value->Prop
 |[],vs=>vs=[]
 |x::xs,vs=>∃u us,vs=u::us/\V.den B φ H w x u/\V.aF B φ H w xs us
end
def gy(B:Nat->Prop)(w:World)(sz:Nat)(es:List D)(xs:List Value):Prop:=
 ∃evs:List Value,xs=evs.flatMap (·.cells.toList)/\(∀ev∈evs,ev.cells.size=sz)/\D.aF B w es evs
def aI(B:Nat->Prop)(w:World):List (D×D)->List MapEntry->Prop
 |[],es=>es=[]
 |(k,x)::l,es=>∃e es',es=e::es'/\D.den B w k e.key/\D.den B w x e.val/\aI B w l es'
def rV(B:Nat->Prop)(w:World)(l:List (D×D))(last:Option (D×D))(b:Nat):Prop:=
 w.heap[b]? =some (.mapIter none 0 #[] 0)/\l=[]/\last=none\/
 ∃m since seen es,w.heap[b]? =some (.mapIter (some m) since seen since)/\w.heap[m]? =some (.map es since)/\ ¬B m/\iE es since/\(∃l',l'.Perm l/\aI B w l' (es.toList.filter fun e=> !seen.contains e.born))/\
  ∀k x,last=some (k,x)->∃e∈es.toList,seen.back?=some e.born/\D.den B w k e.key/\D.den B w x e.val
def aL(M:Nat->Prop)(φ:Place)(H:Hp)(w:World)(id:Nat):Prop:=
 match H.o id with
 | .no=>True
 | .row cs=>∃b cI ty,φ id= .pointer (some ⟨b,0,none⟩)/\w.heap[b]? =some (.cells cI ty (0,0))/\V.aF (aj M φ H) φ H w cs cI.toList/\Flat cI.toList
 | .arr _ ty sz es=>0<sz/\∃xs,w.ownsRow 0 ty sz (φ id) es.length xs/\gy (aj M φ H) w sz es xs
 | .ou _ es=>D.den (aj M φ H) w (.sl es) (φ id)
 | .loop nf n env ps kj ft st C9=>∃b r,φ id= .pointer (some ⟨b,0,none⟩)/\w.heap[b]? =some (.loop r)/\r.fn<nf/\r.state=st/\r.pending=C9.map jQ.code/\r.params.toList=ps/\r.tmps.size=n/\low n r.assign=kj/\low n r.body=ft/\
  ∀i,V.den (aj M φ H) φ H w (bq env i) (r.tmps.getD i undef)
 | .map _ _ l=>∃b es clock,φ id= .map (some b)/\w.heap[b]? =some (.map es clock)/\iE es clock/\aI (aj M φ H) w l es.toList
 | .eY l=>D.den (aj M φ H) w (.mp (l.map (·.1)) (l.map (·.2))) (φ id)
 | .nD l last=>∃b,φ id= .pointer (some ⟨b,0,none⟩)/\rV (aj M φ H) w l last b
 | .rU s pos=>∃b,φ id= .pointer (some ⟨b,0,none⟩)/\w.heap[b]? =some (.stringIter ⟨⟨s⟩⟩ pos)
structure az (M:Nat->Prop) (φ:Place) (H:Hp) (w:World):Prop where
 ok:∀id,aL M φ H w id
 fresh:∀id, ¬H.us id->H.o id= .no
 apart:∀i j b,(H.o i).live=true->(H.o j).live=true->eA (φ i)=some b->eA (φ j)=some b->i=j
 ours:∀b,bS φ H b-> ¬M b/\b<w.heap.size
 tX:∀b,M b->b<w.heap.size
structure eL (m:Nat->Prop) (w w':World):Prop where
 os:w'.os=w.os
 tape:w'.tape=w.tape
 output:w'.output=w.output
 size:w.heap.size<=w'.heap.size
 block:∀k,k<w.heap.size-> ¬m k->w'.heap[k]? =w.heap[k]?
structure dH (φ:Place) (H:Hp) (aB:Place) (H':Hp):Prop where
 us:∀id,H.us id->H'.us id
 row:∀id,H.us id->(H'.o id).bN=true->(H.o id).bN=true/\aB id=φ id
 ep:∀id e',H.us id->(H'.o id).ba=some e'->∃e,(H.o id).ba=some e/\e<=e'/\(e=e'->aB id=φ id)
structure Trans (φ:Place) (H:Hp) (w:World) (aB:Place) (H':Hp) (w':World):Prop where
 ck:eL (bS φ H) w w'
 grow:∀b,bS aB H' b->bS φ H b\/w.heap.size<=b
 rel:dH φ H aB H'
theorem eL.refl (m:Nat->Prop)(w:World):eL m w w:=⟨rfl,rfl,rfl,Nat.le_refl _,fun _ _ _=>rfl⟩
theorem dH.refl (φ:Place)(H:Hp):dH φ H φ H:=⟨fun _ h=>h,fun _ _ h=>⟨h,rfl⟩,fun _ e' _ h=>⟨e',h,Nat.le_refl _,fun _=>rfl⟩⟩
theorem Trans.refl (φ:Place)(H:Hp)(w:World):Trans φ H w φ H w:=⟨eL.refl _ _,fun _ h=> .inl h,dH.refl _ _⟩
theorem dH.trans {φ aB EN:Place}{H H' OO:Hp}(h:dH φ H aB H')(k:dH aB H' EN OO):dH φ H EN OO where
 us id aw:=k.us id (h.us id aw)
 row id aw hr:=by
  obtain⟨a,b⟩:=k.row id (h.us id aw) hr
  obtain⟨c,d⟩:=h.row id aw a
  exact⟨c,b.trans d⟩
 ep id e' aw he:=by
  obtain⟨e,h1,h2,h3⟩:=k.ep id e' (h.us id aw) he
  obtain⟨e0,g1,g2,g3⟩:=h.ep id e aw h1
  refine⟨e0,g1,Nat.le_trans g2 h2,fun heq=> ?_⟩
  have a:e0=e:=by omega
  have b:e=e':=by omega
  exact(h3 b).trans (g3 a)
theorem Trans.trans {φ aB EN:Place}{H H' OO:Hp}{w w' Jv:World}(h:Trans φ H w aB H' w')(k:Trans aB H' w' EN OO Jv):Trans φ H w EN OO Jv where
 ck:={
  os:=k.ck.os.trans h.ck.os
  tape:=k.ck.tape.trans h.ck.tape
  output:=k.ck.output.trans h.ck.output
  size:=Nat.le_trans h.ck.size k.ck.size
  block:=fun b hb hm=>by
   rw[k.ck.block b (Nat.lt_of_lt_of_le hb h.ck.size) (fun hl=>by
    rcases h.grow b hl with h1|h1
    ·exact hm h1
    ·omega),h.ck.block b hb hm]}
 grow b hl:=by
  rcases k.grow b hl with h1|h1
  ·exact h.grow b h1
  ·exact .inr (Nat.le_trans h.ck.size h1)
 rel:=h.rel.trans k.rel
@[simp] theorem NJ (a:Addr) (j:Nat):(a.add j).block=a.block:=by unfold Addr.add;split<;>rfl
def ow(w:World)(b:Nat):Prop:=∃cs ty fz,w.heap[b]? =some (.cells cs ty fz)
def cg(w:World)(b:Nat):Prop:=ow w b\/∃es clock,w.heap[b]? =some (.map es clock)
theorem cg.lt {w:World}{b:Nat}(h:cg w b):b<w.heap.size:=by
 rcases Nat.lt_or_ge b w.heap.size with hl|hl
 ·exact hl
 ·rcases h with⟨cs,ty,fz,h⟩|⟨es,clock,h⟩
  ·rw[Array.getElem?_eq_none hl]at h;cases h
  ·rw[Array.getElem?_eq_none hl]at h;cases h
theorem nj{w:World}{a:Addr}{u:Value}(h:w.cell? a=some u):ow w a.block:=by
 unfold World.cell? at h
 split at h
 ·exact⟨_,_,_,by assumption⟩
 ·cases h
theorem q9{w:World}{a:Addr}{u:Value}(h:w.cell? a=some u):cg w a.block:= .inl (nj h)
theorem fR.mono {B B':Nat->Prop}{w w':World}{a:Addr}{cs:Array Value}
 (hb:∀b,cg w b-> ¬B b->w'.heap[b]? =w.heap[b]? /\ ¬B' b) (h:fR B w a cs):fR B' w' a cs:=by
 intro j u hj
 obtain⟨h1,h2⟩:=h j u hj
 have bI:cg w a.block:=by simpa using q9 h1
 obtain⟨h3,h4⟩:=hb _ bI h2
 exact⟨by rw[World.cell?_of_block (w:=w) (w':=w') (a:=a.add j) (by simpa using h3)];exact h1,h4⟩
mutual
theorem D.aG {B B':Nat->Prop}{w w':World}(hb:∀b,cg w b-> ¬B b->w'.heap[b]? =w.heap[b]? /\ ¬B' b):
 ∀ (x:D) (v:Value),D.den B w x v->D.den B' w' x v
 | .int _ _,_,h| .bool _,_,h| .str _,_,h| .eh,_,h| .gx,_,h| .a7,_,h| .cU,_,h=>by simpa[D.den]using h
 | .agg cs,_,h=>by
   obtain⟨a,rfl,h,hf⟩:=h
   exact⟨a,rfl,D.aJ hb cs _ h,hf⟩
 | .sl es,_,h=>by
   obtain⟨base,len,cap,rfl,h1,h2,h3,sz,h4⟩:=h
   exact⟨base,len,cap,rfl,h1,h2,h3,sz,fun a ha=>⟨(h4 a ha).1,D.rW hb sz a es 0 (h4 a ha).2⟩⟩
 | .iface t d,_,h=>by
   obtain⟨u,rfl,h⟩:=h
   exact⟨u,rfl,D.aG hb d u h⟩
 | .mp ks vs,_,h=>by
   obtain⟨m,es,clock,p,rfl,h1,h2,h3,hp,h4,h5⟩:=h
   obtain⟨k1,k2⟩:=hb m (.inr ⟨es,clock,h1⟩) h2
   exact⟨m,es,clock,p,rfl,k1.trans h1,k2,h3,hp,D.aJ hb ks _ h4,D.aJ hb vs _ h5⟩
theorem D.aJ {B B':Nat->Prop}{w w':World}(hb:∀b,cg w b-> ¬B b->w'.heap[b]? =w.heap[b]? /\ ¬B' b):
 ∀ (ds:List D) (vs:List Value),D.aF B w ds vs->D.aF B' w' ds vs
 |[],_,h=>h
 |d::ds,_,h=>by
  obtain⟨u,us,rfl,h1,h2⟩:=h
  exact⟨u,us,rfl,D.aG hb d u h1,D.aJ hb ds us h2⟩
theorem D.rW {B B':Nat->Prop}{w w':World}(hb:∀b,cg w b-> ¬B b->w'.heap[b]? =w.heap[b]? /\ ¬B' b)(sz:Nat)(a:Addr):
 ∀ (es:List D) (i:Nat),D.elems B w sz a i es->D.elems B' w' sz a i es
 |[],_,_=>trivial
 |e::es,i,h=>by
  obtain⟨⟨ev,h1,h2,h3⟩,h4⟩:=h
  exact⟨⟨ev,h1,h2.mono hb,D.aG hb e ev h3⟩,D.rW hb sz a es (i+1) h4⟩
end
theorem aI.mono {B B':Nat->Prop}{w w':World}(hb:∀b,cg w b-> ¬B b->w'.heap[b]? =w.heap[b]? /\ ¬B' b):
 ∀ (l:List (D×D)) (es:List MapEntry),aI B w l es->aI B' w' l es
 |[],_,h=>h
 |(k,x)::l,_,h=>by
  obtain⟨e,es,rfl,h1,h2,h3⟩:=h
  exact⟨e,es,rfl,D.aG hb k _ h1,D.aG hb x _ h2,aI.mono hb l es h3⟩
theorem rV.mono {B B':Nat->Prop}{w w':World}(hb:∀b,cg w b-> ¬B b->w'.heap[b]? =w.heap[b]? /\ ¬B' b){l:List (D×D)}{last:Option (D×D)}{b:Nat}(W8:w'.heap[b]? =w.heap[b]?)(h:rV B w l last b):rV B' w' l last b:=by
 rcases h with⟨h1,h2⟩|⟨m,since,seen,es,h1,h2,h3,h4,h5,h6⟩
 ·exact .inl ⟨W8.trans h1,h2⟩
 ·obtain⟨k1,k2⟩:=hb m (.inr ⟨es,since,h2⟩) h3
  obtain⟨l',h5,oj⟩:=h5
  refine .inr ⟨m,since,seen,es,W8.trans h1,k1.trans h2,k2,h4,⟨l',h5,aI.mono hb l' _ oj⟩,fun k x e=> ?_⟩
  obtain⟨e,g1,g2,g3,g4⟩:=h6 k x e
  exact⟨e,g1,g2,D.aG hb k _ g3,D.aG hb x _ g4⟩
theorem kn{B:Nat->Prop}{w:World}:∀ (l:List (D×D)) (es:List MapEntry),aI B w l es↔D.aF B w (l.map (·.1)) (es.map (·.key))/\D.aF B w (l.map (·.2)) (es.map (·.val))
 |[],es=>by
  simp only[aI,List.map_nil,D.aF]
  constructor
  ·rintro rfl;exact⟨rfl,rfl⟩
  ·rintro⟨h,_⟩;simpa using h
 |(k,x)::l,es=>by
  simp only[aI,List.map_cons,D.aF]
  constructor
  ·rintro⟨e,es',rfl,h1,h2,h3⟩
   obtain⟨g1,g2⟩:=(kn l es').1 h3
   exact⟨⟨_,_,rfl,h1,g1⟩,⟨_,_,rfl,h2,g2⟩⟩
  ·rintro⟨⟨u,us,h1,h2,h3⟩,⟨v,vs,h4,h5,h6⟩⟩
   cases es with
   |nil=>simp at h1
   |cons e es'=>
    simp only[List.map_cons,List.cons.injEq]at h1 h4
    obtain⟨rfl,rfl⟩:=h1
    obtain⟨rfl,rfl⟩:=h4
    exact⟨e,es',rfl,h2,h5,(kn l es').2 ⟨h3,h6⟩⟩
theorem D.aE {B:Nat->Prop}{w:World}:∀ (ds:List D) (vs:List Value),D.aF B w ds vs->vs.length=ds.length
 |[],_,h=>by simp[D.aF]at h;simp[h]
 |d::ds,_,h=>by obtain⟨u,us,rfl,_,h2⟩:=h;simp[D.aE ds us h2]
theorem D.dS {B:Nat->Prop}{w:World}:∀ (ds:List D) (vs:List Value) (i:Nat) (d:D),D.aF B w ds vs->ds[i]? =some d->∃v,vs[i]? =some v/\D.den B w d v
 |[],_,_,_,_,hd=>by simp at hd
 |d::ds,_,0,x,h,hd=>by
  obtain⟨u,us,rfl,h1,_⟩:=h
  simp at hd;subst hd;exact⟨u,by simp,h1⟩
 |d::ds,_,i+1,x,h,hd=>by
  obtain⟨u,us,rfl,_,h2⟩:=h
  simpa using D.dS ds us i x h2 (by simpa using hd)
theorem D.uw {B:Nat->Prop}{w:World}{sz:Nat}{a:Addr}:∀ (es:List D) (i j:Nat) (e:D),D.elems B w sz a i es->es[j]? =some e->
 ∃ev:Value,ev.cells.size=sz/\fR B w (a.add ((i+j)*sz)) ev.cells/\D.den B w e ev
 |[],_,_,_,_,hd=>by simp at hd
 |e::es,i,0,x,h,hd=>by
  simp at hd;subst hd;simpa using h.1
 |e::es,i,j+1,x,h,hd=>by
  have:=D.uw es (i+1) j x h.2 (by simpa using hd)
  simpa[Nat.add_assoc,Nat.add_comm 1 j]using this
section
variable {M:Nat->Prop}{φ aB:Place}{H H':Hp}{w w':World}
theorem Trans.blocks (ht:Trans φ H w aB H' w')(b:Nat)(hc:cg w b)(h: ¬aj M φ H b):w'.heap[b]? =w.heap[b]? /\ ¬aj M aB H' b:=by
 have hb:=hc.lt
 refine⟨ht.ck.block b hb fun hl=>h (.inr hl), ?_⟩
 rintro(h1|h1)
 ·exact h (.inl h1)
 ·rcases ht.grow b h1 with h2|h2
  ·exact h (.inr h2)
  ·omega
mutual
theorem V.ko (hb:∀b,cg w b-> ¬aj M φ H b->w'.heap[b]? =w.heap[b]? /\ ¬aj M aB H' b)(hr:dH φ H aB H'):∀ (x:V) (v:Value),V.den (aj M φ H) φ H w x v->V.den (aj M aB H') aB H' w' x v
 | .d x,v,h=>D.aG hb x v h
 | .br,_,h=>h
 | .af,_,_=>trivial
 | .nC es,v,h=>⟨D.aG hb (.sl es) v h.1,h.2⟩
 | .rT id off n,v,h=>by
   obtain⟨h0,h1,h2⟩:=h
   refine⟨h0,hr.us id h1,fun bF=> ?_⟩
   obtain⟨h3,h4⟩:=hr.row id h1 bF
   obtain⟨b,h5,h6⟩:=h2 h3
   exact⟨b,h4.trans h5,h6⟩
 | .mp id,v,h=>by
   obtain⟨h0,h1,h2⟩:=h
   refine⟨h0,hr.us id h1,fun bF=> ?_⟩
   obtain⟨h3,h4⟩:=hr.row id h1 bF
   exact(h2 h3).trans h4.symm
 | .eK,v,h=>h
 | .ki id,v,h=>by
   obtain⟨h0,h1,h2⟩:=h
   refine⟨h0,hr.us id h1,fun bF=> ?_⟩
   obtain⟨h3,h4⟩:=hr.row id h1 bF
   obtain⟨b,h5,h6⟩:=h2 h3
   exact⟨b,h4.trans h5,h6⟩
 | .agg cs,_,h=>by obtain⟨a,rfl,h,hf⟩:=h;exact⟨a,rfl,V.fu hb hr cs _ h,hf⟩
 | .bU cs,_,h=>by obtain⟨a,rfl,h⟩:=h;exact⟨a,rfl,V.fu hb hr cs _ h⟩
 | .ptr id off,v,h=>by
   obtain⟨h0,h1,h2⟩:=h
   refine⟨h0,hr.us id h1,fun bF=> ?_⟩
   obtain⟨h3,h4⟩:=hr.row id h1 bF
   obtain⟨b,h5,h6⟩:=h2 h3
   exact⟨b,h4.trans h5,h6⟩
 | .osl id ep,v,h=>by
   obtain⟨h0,h1,h2⟩:=h
   refine⟨h0,hr.us id h1,fun e' fj=> ?_⟩
   obtain⟨e,g1,g2,g3⟩:=hr.ep id e' h1 fj
   obtain⟨h3,h4⟩:=h2 e g1
   refine⟨Nat.le_trans h3 g2,fun heq=> ?_⟩
   rw[g3 (by omega)]
   exact h4 (by omega)
 | .pe id ep i sz off,v,h=>by
   obtain⟨h0,h1,h2⟩:=h
   refine⟨h0,hr.us id h1,fun e' fj=> ?_⟩
   obtain⟨e,g1,g2,g3⟩:=hr.ep id e' h1 fj
   obtain⟨h3,h4⟩:=h2 e g1
   refine⟨Nat.le_trans h3 g2,fun heq=> ?_⟩
   rw[g3 (by omega)]
   exact h4 (by omega)
 | .pp cs off,v,h=>by
   obtain⟨a,ev,h1,h2,h3,h5,h4⟩:=h
   exact⟨a,ev,h1,h2,D.aJ hb cs ev h3,h5,h4.mono hb⟩
 | .func fn first cap,_,h=>by
   obtain⟨f,c,rfl,h1,h2⟩:=h
   exact⟨f,c,rfl,V.fu hb hr first _ h1,V.fu hb hr cap _ h2⟩
 | .iface t x,_,h=>by obtain⟨u,rfl,h⟩:=h;exact⟨u,rfl,V.ko hb hr x u h⟩
theorem V.fu (hb:∀b,cg w b-> ¬aj M φ H b->w'.heap[b]? =w.heap[b]? /\ ¬aj M aB H' b)(hr:dH φ H aB H'):∀ (ds:List V) (vs:List Value),V.aF (aj M φ H) φ H w ds vs->V.aF (aj M aB H') aB H' w' ds vs
 |[],_,h=>h
 |x::xs,_,h=>by
  obtain⟨u,us,rfl,h1,h2⟩:=h
  exact⟨u,us,rfl,V.ko hb hr x u h1,V.fu hb hr xs us h2⟩
end
theorem V.aG (ht:Trans φ H w aB H' w')(x:V)(v:Value)(h:V.den (aj M φ H) φ H w x v):V.den (aj M aB H') aB H' w' x v:=V.ko ht.blocks ht.rel x v h
theorem V.aJ (ht:Trans φ H w aB H' w')(ds:List V)(vs:List Value)(h:V.aF (aj M φ H) φ H w ds vs):V.aF (aj M aB H') aB H' w' ds vs:=V.fu ht.blocks ht.rel ds vs h
end
end Go.Proofs.YtealblliddhgiaaGreat
namespace Go.Proofs.YtealblliddhgiaaGreat
def ax{α:Type}(f:Nat->α)(i:Nat)(x:α):Nat->α:=fun j=>if j=i then x else f j
@[simp] theorem aK {α:Type} (f:Nat->α) (i:Nat) (x:α) (j:Nat):ax f i x j=if j=i then x else f j:=rfl
structure S where
 env:Nat->V
 o:Nat->ab
 nx:Nat
def S.H (s:S):Hp:=⟨s.o,fun id=>id<s.nx⟩
def V.da:Value->V
 | .int k n=> .d (.int k n)| .bool b=> .d (.bool b)| .string s=> .d (.str s.data.toList)
 | .nilIface=> .d .eh| .pointer none=> .d .gx| .nilFunc=> .d .a7| .map none=> .d .cU
 | .slice none 0 0=> .br
 |_=> .af
def Aj:List V->Option (List D)
 |[]=>some []
 | .d x::vs=>(Aj vs).map (x::·)
 |_::_=>none
def ff(cs:List V):V:=match Aj cs with|some ds=> .d (.agg ds)|none=> .agg cs
def V.ofConst:Value->V
 | .agg a=>if a.toList.all Value.oneCell' then ff (a.toList.map V.da)else .af
 |v=>V.da v
def S.ev (s:S):Operand->V
 | .tmp t=>s.env t
 | .const v=>V.ofConst v
 | .func f=> .func (.func f) [] []
 | .global _=> .af
def D.cells:D->List D
 | .agg cs=>cs
 |x=>[x]
def V.cells:V->Option (List V)
 | .d x=>some (x.cells.map .d)
 | .agg cs=>some cs
 | .bU _| .af=>none
 |v=>some [v]
mutual
def dI(o:Nat->ab):V->Option D
 | .d x=>some x
 | .br=>some (.sl [])
 | .nC es=>some (.sl es)
 | .osl id ep=>match o id with
   | .arr gw _ _ es| .ou gw es=>if ep=gw then some (.sl es)else none
   |_=>none
 | .mp id=>match o id with
   | .map _ _ l=>some (.mp (l.map (·.1)) (l.map (·.2)))
   | .eY l=>some (.mp (l.map (·.1)) (l.map (·.2)))
   |_=>none
 | .agg cs=>(bW o cs).map .agg
 | .iface t x=>(dI o x).map (.iface t)
 |_=>none
def bW(o:Nat->ab):List V->Option (List D)
 |[]=>some []
 |v::vs=>(dI o v).bind fun x=>(bW o vs).map (x::·)
end
mutual
def V.ids:V->List Nat
 | .osl id _=>[id]
 | .mp id=>[id]
 | .agg cs=>V.bg cs
 | .iface _ x=>x.ids
 |_=>[]
def V.bg:List V->List Nat
 |[]=>[]
 |v::vs=>v.ids++V.bg vs
end
def cH(o:Nat->ab)(ids:List Nat):List (Nat×ab):=
 ids.map fun id=>(id,match o id with| .arr ep _ _ es=> .ou ep es| .map _ _ l=> .eY l|o=>o)
def pM(o:Nat->ab)(ids:List Nat):List (Nat×ab):=
 ids.filterMap fun id=>match o id with| .arr ep _ _ es=>some (id, .ou ep es)|_=>none
def put(o:Nat->ab)(Δ:List (Nat×ab)):Nat->ab:=Δ.foldl (fun f x=>ax f x.1 x.2) o
def Hp.put (H:Hp)(Δ:List (Nat×ab)):Hp:={o:=YtealblliddhgiaaGreat.put H.o Δ,us:=fun id=>H.us id\/id∈Δ.map (·.1)}
def bt(P:Program)(t:TypeId):Option (List V):=
 match P.info? t with
 |some i=>match i.zero with
  |some z=>if z.cells.size=i.size/\z.cells.toList.all Value.oneCell'=true then some (z.cells.toList.map V.da)else none
  |none=>none
 |none=>none
def b7(P:Program)(t:TypeId):Option Bool:=
 match P.underlying t with
 |some (.struct _)|some (.array _ _)=>some true
 |some _=>some false
 |none=>none
def cl(P:Program)(t:TypeId)(f:Nat):Option Nat:=
 match P.underlying t with
 |some (.struct fs)=>match fs[f]? with
  |some fd=>if P.cellsOf fd.type=0 then none else some fd.offset
  |none=>none
 |_=>none
def aX(P:Program)(t:TypeId):Option TypeId:=
 match P.underlying t with
 |some (.slice e)=>some e
 |_=>none
def cy(P:Program)(t:TypeId):Option (Nat×TypeId):=
 match P.underlying t with
 |some (.array n e)=>some (n,e)
 |_=>none
def dv(P:Program)(t:TypeId):Option (List (Nat×Nat)):=
 match P.underlying t with
 |some (.struct fs)=>if fs.toList.all (fun f=>(P.info? f.type).isSome)=true then some (fs.toList.map fun f=>(f.offset,P.cellsOf f.type))else none
 |some (.array n e)=>if(P.info? e).isSome=true then some ((List.range n).map fun i=>(i*P.cellsOf e,P.cellsOf e))else none
 |_=>none
def cD(P:Program)(t:TypeId):Option IntKind:=
 match P.underlying t with
 |some (.int k)=>some k
 |_=>none
def eD(P:Program)(t:TypeId)(cs:List V)(off:Nat):Option V:=
 match b7 P t with
 |some true=>if off+P.cellsOf t<=cs.length then some (ff ((cs.drop off).take (P.cellsOf t)))else none
 |some false=>cs[off]?
 |none=>none
def vL(P:Program)(t:TypeId)(cs:List V)(off:Nat)(v:V):Option (List V):=
 match v.cells with
 |some us=>if us.length=P.cellsOf t/\(0<us.length\/(P.info? t).isSome=true)/\off+us.length<=cs.length then some (cs.take off++us++cs.drop (off+us.length))else none
 |none=>none
def qu(places:List (Nat×Nat))(cs:List V):List (Nat×V)->Option (List V)
 |[]=>some cs
 |(i,v)::rest=>match places[i]?,v.cells with
  |some (off,size),some us=>if us.length=size/\off+us.length<=cs.length then qu places (cs.take off++us++cs.drop (off+us.length)) rest else none
  |_,_=>none
def D.put (e:D)(off:Nat)(us:List D):Option D:=
 match e with
 | .agg cs=>if off+us.length<=cs.length then some (.agg (cs.take off++us++cs.drop (off+us.length)))else none
 |_=>match off,us with
  |0,[u]=>some u
  |_,_=>none
def OP(op:BinOp)(a b:Int):Option Bool:=
 match op with
 | .eql=>some (a==b)| .neq=>some (a !=b)| .lss=>some (decide (a<b))| .leq=>some (decide (a<=b))
 | .gtr=>some (decide (a>b))| .geq=>some (decide (a≥b))
 |_=>none
def rX(op:BinOp)(k:IntKind)(x y:Int):Option Int:=
 let a:=BitVec.ofInt k.bits x
 let b:=BitVec.ofInt k.bits y
 match op with
 | .and=>some (k.wrap (a&&&b).toNat)
 | .or=>some (k.wrap (a|||b).toNat)
 | .xor=>some (k.wrap (a ^^^ b).toNat)
 | .andNot=>some (k.wrap (a&&& ~~~b).toNat)
 |_=>none
def Hy(op:BinOp)(k:IntKind)(a b:Int)(K:V->Prop):Prop:=
 match op with
 | .add=>K (.d (.int k (k.wrap (a+b))))
 | .sub=>K (.d (.int k (k.wrap (a - b))))
 | .mul=>K (.d (.int k (k.wrap (a*b))))
 | .quo=>b≠0/\K (.d (.int k (k.wrap (a.tdiv b))))
 | .rem=>b≠0/\K (.d (.int k (a.tmod b)))
 | .and| .or| .xor| .andNot=>∃r,rX op k a b=some r/\K (.d (.int k r))
 | .shl| .shr=>False
 |op=>∃r,OP op a b=some r/\K (.d (.bool r))
def EO(P:Program)(t:TypeId)(x y:D)(r:Bool):Prop:=
 ∀ (B:Nat->Prop) (w:World) (u v:Value),D.den B w x u->D.den B w y v->(Op.equal t u v).run P w= .ok r w/\∀ (op:BinOp) (a b:Operand),(eqGuard op t a b u v).run P w= .ok () w
def EP(P:Program)(op:BinOp)(t:TypeId)(x y:V)(K:V->Prop):Prop:=
 match x,y with
 | .d (.int k a), .d (.int k' b)=>k=k'/\Hy op k a b K
 | .d (.bool a), .d (.bool b)=>match op with
   | .eql=>P.underlying t=some .bool/\K (.d (.bool (a==b)))
   | .neq=>P.underlying t=some .bool/\K (.d (.bool (a !=b)))
   |_=>False
 | .d (.str a), .d (.str b)=>match op with
   | .eql=>K (.d (.bool (a==b)))
   | .neq=>K (.d (.bool (a !=b)))
   |_=>False
 | .d (.agg a), .d (.agg b)=>match op with
   | .eql=>∃r,EO P t (.agg a) (.agg b) r/\K (.d (.bool r))
   | .neq=>∃r,EO P t (.agg a) (.agg b) r/\K (.d (.bool !r))
   |_=>False
 |_,_=>False
def OQ(op:UnOp)(x:V)(K:V->Prop):Prop:=
 match op,x with
 | .neg, .d (.int k n)=>K (.d (.int k (k.wrap (0 - n))))
 | .not, .d (.bool b)=>K (.d (.bool !b))
 |_,_=>False
def xN(c a b:V)(K:V->Prop):Prop:=
 match c with
 | .d (.bool t)=>(t=true->K a)/\(t=false->K b)
 |_=>False
def ER(P:Program)(t:TypeId)(o:Nat->ab)(x:V)(K:V->List Nat->Prop):Prop:=
 match P.underlying t with
 |some (.slice _)=>match x with
  | .d (.sl es)=>K (.d (.int .i64 es.length)) []
  | .br=>K (.d (.int .i64 0)) []
  | .nC es=>K (.d (.int .i64 es.length)) []
  | .osl id ep=>match o id with
    | .arr gw _ _ es| .ou gw es=>ep=gw/\K (.d (.int .i64 es.length)) [id]
    |_=>False
  |_=>False
 |some .string=>match x with
  | .d (.str s)=>K (.d (.int .i64 s.length)) []
  |_=>False
 |some (.array n _)=>K (.d (.int .i64 n)) []
 |_=>False
def iW(P:Program)(o:Nat->ab)(t:TypeId)(x ix:V)(K:V->List Nat->Prop):Prop:=
 match ix with
 | .d (.int _ i)=>match aX P t with
   |some e=>match x with
    | .d (.sl es)=>0<=i/\∃y,es[i.toNat]? =some y/\y.cells.length=P.cellsOf e/\0<P.cellsOf e/\K (.pp y.cells 0) []
    | .nC es=>0<=i/\∃y,es[i.toNat]? =some y/\y.cells.length=P.cellsOf e/\0<P.cellsOf e/\K (.pp y.cells 0) []
    | .osl id ep=>match o id with
      | .arr gw _ sz es=>ep=gw/\0<=i/\i.toNat<es.length/\sz=P.cellsOf e/\0<P.cellsOf e/\K (.pe id ep i.toNat sz 0) [id]
      | .ou gw es=>ep=gw/\0<=i/\∃y,es[i.toNat]? =some y/\y.cells.length=P.cellsOf e/\0<P.cellsOf e/\K (.pp y.cells 0) [id]
      |_=>False
    |_=>False
   |none=>match cy P t with
    |some (n,e)=>0<=i/\i<n/\(P.info? e).isSome=true/\(match x with
     | .ptr id off=>(o id).bN=true/\K (.ptr id (off+i.toNat*P.cellsOf e)) []
     | .pp cs off=>K (.pp cs (off+i.toNat*P.cellsOf e)) []
     | .pe id ep j sz off=>(o id).ba=some ep/\K (.pe id ep j sz (off+i.toNat*P.cellsOf e)) []
     |_=>False)
    |none=>False
 |_=>False
def iX(P:Program)(o:Nat->ab)(t:TypeId)(x:V)(f:Nat)(K:V->Prop):Prop:=
 match cl P t f with
 |some q=>match x with
  | .ptr id off=>(o id).bN=true/\K (.ptr id (off+q))
  | .pp cs off=>K (.pp cs (off+q))
  | .pe id ep j sz off=>(o id).ba=some ep/\K (.pe id ep j sz (off+q))
  |_=>False
 |none=>False
def xO(P:Program)(o:Nat->ab)(t:TypeId)(x:V)(K:V->List Nat->Prop):Prop:=
 match x with
 | .ptr id off=>match o id with
   | .row cs=>∃v,eD P t cs off=some v/\K v [id]
   |_=>False
 | .pp cs off=>∃v,eD P t (cs.map .d) off=some v/\K v []
 | .pe id ep i sz off=>match o id with
   | .arr gw _ m8 es=>ep=gw/\sz=m8/\∃e,es[i]? =some e/\∃v,eD P t (e.cells.map .d) off=some v/\K v [id]
   |_=>False
 |_=>False
def rY(P:Program)(o:Nat->ab)(t:TypeId)(x v:V)(K:List (Nat×ab)->List Nat->Prop):Prop:=
 match x with
 | .ptr id off=>match o id with
   | .row cs=>∃cs',vL P t cs off v=some cs'/\K [(id, .row cs')] [id]
   |_=>False
 | .pe id ep i m8 off=>match o id with
   | .arr gw ty sz es=>ep=gw/\m8=sz/\∃e,es[i]? =some e/\∃y,dI o v=some y/\y.cells.length=P.cellsOf t/\0<y.cells.length/\v.ids.all (· !=id)=true/\
    ∃e',e.put off y.cells=some e'/\K (cH o v.ids++[(id, .arr ep ty sz (es.set i e'))]) (id::v.ids)
   |_=>False
 |_=>False
def gW(P:Program)(o:Nat->ab)(fr:Nat)(t:TypeId)(len:Nat)(parts:List (Nat×V))(K:V->List (Nat×ab)->List Nat->Prop):Prop:=
 match aX P t with
 |some e=>(len=0/\parts=[]/\0<P.cellsOf e/\K (.osl fr 0) [(fr, .arr 0 e (P.cellsOf e) [])] [])\/(parts.map (·.1)=List.range len)/\(bt P e).isSome=true/\0<len/\0<P.cellsOf e/\len*P.cellsOf e<=2^24/\
  ∃ds,bW o (parts.map (·.2))=some ds/\(∀x∈ds,x.cells.length=P.cellsOf e)/\
   K (.osl fr 0) (cH o (V.bg (parts.map (·.2)))++[(fr, .arr 0 e (P.cellsOf e) ds)]) (V.bg (parts.map (·.2)))
 |none=>False
def bM(P:Program)(e:TypeId):Option D:=
 match bt P e with
 |some z=>match bW (fun _=> .no) z,b7 P e with
  |some ds,some true=>some (.agg ds)
  |some [x],some false=>some x
  |_,_=>none
 |none=>none
def iY(P:Program)(fr:Nat)(t:TypeId)(l c:V)(K:V->List (Nat×ab)->Prop):Prop:=
 match aX P t,l,c with
 |some e, .d (.int _ n), .d (.int _ m)=>n=m/\0<=n/\0<P.cellsOf e/\P.bytesOf e*n.toNat<=2^47/\n.toNat<=2^47/\
  ∃x,bM P e=some x/\K (.osl fr 0) [(fr, .arr 0 e (P.cellsOf e) (List.replicate n.toNat x))]
 |_,_,_=>False
def eE(o:Nat->ab)(x:V):Option (List D):=
 match dI o x with
 |some (.sl es)=>some es
 |_=>none
def ox(P:Program)(o:Nat->ab)(fr:Nat)(ts:Array TypeId)(x y:V)(K:V->List (Nat×ab)->List Nat->Prop):Prop:=
 match ts.toList with
 |[t,t']=>t=t'/\(match aX P t with
  |some e=>∃new,eE o y=some new/\0<P.cellsOf e/\(bt P e).isSome=true/\(∀z∈new,z.cells.length=P.cellsOf e)/\(match x with
   | .br=>new.length<=2^47/\new.length*P.bytesOf e<=2^47/\K (.osl fr 0) [(fr, .arr 0 e (P.cellsOf e) new)] y.ids
   | .nC es=>(∀z∈es,z.cells.length=P.cellsOf e)/\(if new=[]then K (.nC es) [] y.ids else es.length+new.length<=2^40/\(es.length+new.length)*P.bytesOf e<=2^40/\K (.osl fr 0) [(fr, .arr 0 e (P.cellsOf e) (es++new))] y.ids)
   | .osl id ep=>match o id with
     | .arr gw ty sz es=>ep=gw/\ty=e/\sz=P.cellsOf e/\es.length+new.length<=2^47/\(es.length+new.length)*P.bytesOf e<=2^47/\
      K (.osl id (ep+1)) [(id, .arr (ep+1) ty sz (es++new))] (id::y.ids)
     |_=>False
   |_=>False)
  |none=>False)
 |_=>False
def mO(isMax:Bool)(args:List V)(K:V->Prop):Prop:=
 match args with
 |[.d (.int k a), .d (.int k' b)]=>k=k'/\K (.d (.int k (if isMax then(if b>a then b else a)else(if b<a then b else a))))
 |_=>False
def kp(o:Nat->ab)(x:V)(K:V->Prop):Prop:=
 match x with
 | .ptr id off=>(o id).bN=true/\K (.ptr id off)
 | .pp cs off=>K (.pp cs off)
 | .func (.func f) first cap=>K (.func (.func f) first cap)
 |_=>False
def iZ(P:Program)(t:TypeId)(xs:List D)(off:Nat):Option D:=
 match b7 P t with
 |some true=>if off+P.cellsOf t<=xs.length then some (.agg ((xs.drop off).take (P.cellsOf t)))else none
 |some false=>xs[off]?
 |none=>none
inductive TM where
 |int|bool|str|struct (fs:List (TypeId×Nat))|arr (n:Nat) (e:TypeId)
def bn(P:Program)(t:TypeId):Option TM:=
 match P.underlying t with
 |some (.int _)=>some .int
 |some .bool=>some .bool
 |some .string=>some .str
 |some (.struct fs)=>if(!P.stoodInHeld t&&fs.toList.all (fun f=>f.name != "_"))=true then some (.struct (fs.toList.map fun f=>(f.type,f.offset)))else none
 |some (.array n e)=>if(P.info? e).isSome=true then some (.arr n e)else none
 |_=>none
def ES(a b:Option Bool):Option Bool:=
 match a,b with
 |some a,some b=>some (a&&b)
 |_,_=>none
def xP(f:TypeId->Nat->Option Bool):List (TypeId×Nat)->Option Bool
 |[]=>some true
 |x::l=>ES (f x.1 x.2) (xP f l)
def BH(f:Nat->Option Bool):Nat->Nat->Option Bool
 |0,_=>some true
 |n+1,i=>ES (f i) (BH f n (i+1))
def Lj(f:D->D->Option Bool)(x y:Option D):Option Bool:=
 match x,y with
 |some x,some y=>f x y
 |_,_=>none
def pG(P:Program):Nat->TypeId->D->D->Option Bool
 |0,_,_,_=>none
 |d+1,t,x,y=>match bn P t with
  |some .int=>match x,y with| .int k a, .int k' b=>if k=k' then some (a==b)else none|_,_=>none
  |some .bool=>match x,y with| .bool a, .bool b=>some (a==b)|_,_=>none
  |some .str=>match x,y with| .str a, .str b=>some (a==b)|_,_=>none
  |some (.struct fs)=>match x,y with
   | .agg xs, .agg ys=>xP (fun u off=>Lj (pG P d u) (iZ P u xs off) (iZ P u ys off)) fs
   |_,_=>none
  |some (.arr n e)=>match x,y with
   | .agg xs, .agg ys=>BH (fun i=>Lj (pG P d e) (iZ P e xs (i*P.cellsOf e)) (iZ P e ys (i*P.cellsOf e))) n 0
   |_,_=>none
  |none=>none
abbrev fS:=V×List (Nat×ab)×List Nat
def cV(x:Option fS)(K:V->List (Nat×ab)->List Nat->Prop):Prop:=
 match x with
 |some (v,Δ,rd)=>K v Δ rd
 |none=>False
def Da(x:Option V)(TN:Nat):Option Nat:=
 match x with
 |none=>some TN
 |some (.d (.int _ i))=>if 0<=i then some i.toNat else none
 |_=>none
def nE(o:Nat->ab)(x:V):Option (Nat×Nat):=
 match x with
 | .ptr id off=>if(o id).bN=true then some (id,off)else none
 |_=>none
def nF(o:Nat->ab)(x:V):Option (Nat×Nat×Nat×List V):=
 match x with
 | .rT id off n=>match o id with
   | .row cs=>some (id,off,n,cs)
   |_=>none
 |_=>none
def pN(P:Program)(o:Nat->ab)(t:TypeId)(x:V)(lo hi mx:Option V):Option fS:=
 match aX P t with
 |some e=>match eE o x,Da lo 0 with
  |some es,some l=>match Da hi es.length with
   |some h=>if l<=h/\h<=es.length/\(P.info? e).isSome=true/\(l=0\/es.all (fun y=>y.cells.length==P.cellsOf e)=true)then match mx with
    |none=>some (.d (.sl ((es.take h).drop l)),cH o x.ids,x.ids)
    |some m=>match hi,Da (some m) 0 with
     |some _,some m=>if h<=m/\m<=es.length then some (if h=m then .nC ((es.take h).drop l)else .d (.sl ((es.take h).drop l)),cH o x.ids,x.ids)else none
     |_,_=>none
    else none
   |none=>none
  |_,_=>none
 |none=>match cy P t,lo,hi,mx with
  |some (n,e),none,none,none=>match nE o x with
   |some (id,off)=>if(P.info? e).isSome=true then some (.rT id off n,[],[id])else none
   |none=>none
  |_,_,_,_=>none
def ux(P:Program)(o:Nat->ab)(ts:Array TypeId)(x y:V):Option fS:=
 match ts.toList with
 |[t,_]=>match aX P t with
  |some e=>match nF o x,eE o y with
   |some (id,off,n,cs),some es=>if P.cellsOf e=1/\off+n<=cs.length/\es.all (fun z=>z.cells.length==1)=true/\y.ids.all (· !=id)=true then
    some (.d (.int .i64 ((min es.length n:Nat):Int)),cH o y.ids++[(id, .row (cs.take off++((es.take n).flatMap D.cells).map .d++cs.drop (off+(es.take n).length)))],id::y.ids)else none
   |_,_=>none
  |none=>none
 |_=>none
def vM(P:Program)(t:TypeId)(f:Nat):Option (Nat×TypeId):=
 match P.underlying t with
 |some (.struct fs)=>match fs[f]? with
  |some fd=>some (fd.offset,fd.type)
  |none=>none
 |_=>none
def rZ(P:Program)(t:TypeId)(x:V)(f:Nat):Option V:=
 match vM P t f with
 |some (off,u)=>match x with
  | .d (.agg cs)=>(iZ P u cs off).map .d
  | .agg cs=>eD P u cs off
  |_=>none
 |none=>none
def r8(P:Program)(t:TypeId)(x i:V):Option V:=
 match i with
 | .d (.int _ i)=>if 0<=i then match P.underlying t with
  |some .string=>match x with
   | .d (.str s)=>match s[i.toNat]? with
     |some b=>some (.d (.int .u8 b.toNat))
     |none=>none
   |_=>none
  |some (.array n e)=>if i<n/\(P.info? e).isSome=true then match x with
   | .d (.agg cs)=>(iZ P e cs (i.toNat*P.cellsOf e)).map .d
   | .agg cs=>eD P e cs (i.toNat*P.cellsOf e)
   |_=>none
   else none
  |_=>none
   else none
 |_=>none
def pO(P:Program)(t:TypeId):Bool:=
 match P.underlying t with
 |some (.interface _)=>false
 |some _=>true
 |none=>false
def zeroV(P:Program)(t:TypeId):Option V:=
 match P.info? t with
 |some i=>match i.zero with
  |some (.agg a)=>if a.toList.all Value.oneCell'=true then some (ff (a.toList.map V.da))else none
  |some v=>if v.oneCell'=true then some (V.da v)else none
  |none=>none
 |none=>none
def oz(P:Program)(t:TypeId)(ok:Bool)(x:V):Option V:=
 if pO P t=true then match x with
  | .d (.iface u y)=>if u=t then some (if ok=true then .bU [.d y, .d (.bool true)]else .d y)
   else if ok=true then(zeroV P t).map fun z=> .bU [z, .d (.bool false)]else none
  | .d .eh=>if ok=true then(zeroV P t).map fun z=> .bU [z, .d (.bool false)]else none
  |_=>none
 else none
def xQ(o:Nat->ab)(x:V):Option V:=
 match x with
 | .br=>some (.d (.bool true))
 |x=>match eE o x with
  |some es=>some (if es=[]then .eK else .d (.bool false))
  |none=>none
def isConst:Operand->Bool
 | .const _=>true
 |_=>false
def Hz:V->Option V
 | .d (.bool b)=>some (.d (.bool !b))
 | .eK=>some .eK
 |_=>none
def pP(o:Nat->ab)(x:V):Option V:=
 match x with
 | .d .cU=>some (.d (.bool true))
 | .d (.mp _ _)=>some (.d (.bool false))
 | .mp id=>match o id with| .map _ _ _=>some (.d (.bool false))| .eY _=>some (.d (.bool false))|_=>none
 |_=>none
def pQ(o:Nat->ab)(x:V):Option V:=
 match x with
 | .d .gx=>some (.d (.bool true))
 | .ptr id _=>if(o id).bN=true then some (.d (.bool false))else none
 | .pp _ _=>some (.d (.bool false))
 |_=>none
def Ak(P:Program)(o:Nat->ab)(t:TypeId)(nG:Bool)(x y:V):Option V:=
 match P.underlying t with
 |some (.interface _)=>match x,y with
  | .d .eh, .d .eh=>if nG=true then some (.d (.bool true))else none
  | .d (.iface _ _), .d .eh| .iface _ _, .d .eh| .d .eh, .d (.iface _ _)| .d .eh, .iface _ _=>some (.d (.bool false))
  |_,_=>none
 |some (.func _ _ _)=>match x,y with
  | .d .a7, .d .a7=>some (.d (.bool true))
  | .func _ _ _, .d .a7=>some (.d (.bool false))
  |_,_=>none
 |some (.map _ _)=>match y with
  | .d .cU=>pP o x
  |_=>none
 |some (.pointer _)=>match y with
  | .d .gx=>pQ o x
  |_=>none
 |some (.slice _)=>match y with
  | .br=>xQ o x
  |_=>none
 |some (.struct _)|some (.array _ _)=>match x,y with
  | .d (.agg bX), .d (.agg bs)=>if P.eqGuardType P.depth t=false then(pG P 100 t (.agg bX) (.agg bs)).map fun r=> .d (.bool r)else none
  |_,_=>none
 |_=>none
def pR(P:Program)(o:Nat->ab)(op:BinOp)(t:TypeId)(nG:Bool)(x y:V):Option fS:=
 match op with
 | .eql=>(Ak P o t nG x y).map fun v=>(v,[],[])
 | .neq=>((Ak P o t nG x y).bind Hz).map fun v=>(v,[],[])
 |_=>none
mutual
def D.same:D->D->Bool
 | .int k a, .int j b=>k==j&&a==b
 | .bool a, .bool b=>a==b
 | .str a, .str b=>a==b
 | .eh, .eh| .gx, .gx| .a7, .a7| .cU, .cU=>true
 | .agg bX, .agg bs=>D.fF bX bs
 | .sl bX, .sl bs=>D.fF bX bs
 | .iface t a, .iface u b=>t==u&&a.same b
 | .mp ks vs, .mp cW SW=>D.fF ks cW&&D.fF vs SW
 |_,_=>false
def D.fF:List D->List D->Bool
 |[],[]=>true
 |a::bX,b::bs=>a.same b&&D.fF bX bs
 |_,_=>false
end
def nH(P:Program)(t:TypeId):Option (TypeId×TypeId):=
 match P.underlying t with
 |some (.map k v)=>some (k,v)
 |_=>none
def m9(P:Program):Nat->TypeId->D->Bool
 |0,_,_=>false
 |d+1,t,x=>match bn P t with
  |some .int|some .bool|some .str=>true
  |some (.struct fs)=>match x with
   | .agg xs=>fs.all fun f=>match iZ P f.1 xs f.2 with|some y=>m9 P d f.1 y|none=>false
   |_=>false
  |some (.arr n e)=>match x with
   | .agg xs=>(List.range n).all fun i=>match iZ P e xs (i*P.cellsOf e)with|some y=>m9 P d e y|none=>false
   |_=>false
  |none=>false
def findD(P:Program)(kt:TypeId)(k:D):List (D×D)->Nat->Option (Option (Nat×D×D))
 |[],_=>some none
 |(k',x)::l,i=>match pG P 100 kt k k' with
  |some true=>some (some (i,k',x))
  |some false=>findD P kt k l (i+1)
  |none=>none
def nk:D->Bool
 | .int _ _| .bool _| .str _=>true
 |_=>false
def jS:D->Bool
 | .agg cs=>cs.all nk
 |x=>nk x
def nm(o:Nat->ab)(m:V):Option (Option (Nat×TypeId×TypeId)×List (D×D)):=
 match m with
 | .mp id=>match o id with
   | .map kt vt l=>some (some (id,kt,vt),l)
   |_=>none
 | .d .cU=>some (none,[])
 |_=>none
def oA(o:Nat->ab)(m:V):Option (List Nat×List (D×D)):=
 match m with
 | .mp id=>match o id with
   | .map _ _ l=>some ([id],l)
   | .eY l=>some ([id],l)
   |_=>none
 | .d .cU=>some ([],[])
 | .d (.mp ks vs)=>some ([],ks.zip vs)
 |_=>none
def TO(r:Option (Nat×TypeId×TypeId)):List Nat:=match r with|some p=>[p.1]|none=>[]
def gQ(P:Program)(o:Nat->ab)(t:TypeId)(m k:V)(ok:Bool):Option fS:=
 match nH P t,dI o k,oA o m with
 |some (kt,vt),some kd,some (rd,l)=>if k.ids=[]/\m9 P 100 kt kd=true then match findD P kt kd l 0 with
  |some (some (_,_,x))=>some (if ok=true then .bU [.d x, .d (.bool true)]else .d x,[],rd)
  |some none=>match zeroV P vt with
   |some z=>some (if ok=true then .bU [z, .d (.bool false)]else z,[],rd)
   |none=>none
  |none=>none
  else none
 |_,_,_=>none
def fk(P:Program)(o:Nat->ab)(t:TypeId)(m k v:V):Option fS:=
 match nH P t,dI o k,dI o v,nm o m with
 |some (kt,_),some kd,some vd,some (some (id,Ae,Af),l)=>if k.ids=[]/\m9 P 100 kt kd=true/\jS kd=true/\v.ids.all (· !=id)=true then match findD P kt kd l 0 with
  |some (some (i,k',_))=>if k'.same kd=true then some (.bU [],cH o v.ids++[(id, .map Ae Af (l.set i (kd,vd)))],id::v.ids)else none
  |some none=>some (.bU [],cH o v.ids++[(id, .map Ae Af (l++[(kd,vd)]))],id::v.ids)
  |none=>none
  else none
 |_,_,_,_=>none
def lW(P:Program)(fr:Nat)(t:TypeId):Option fS:=
 match nH P t with
 |some (kt,vt)=>some (.mp fr,[(fr, .map kt vt [])],[])
 |none=>none
def lX(P:Program)(o:Nat->ab)(fr:Nat)(t:TypeId)(x:V):Option fS:=
 match P.underlying t with
 |some .string=>match x with
  | .d (.str s)=>some (.ptr fr 0,[(fr, .rU s 0)],[])
  |_=>none
 |some (.map _ _)=>match x with
  | .d .cU=>some (.ptr fr 0,[(fr, .nD [] none)],[])
  | .d (.mp ks vs)=>some (.ptr fr 0,[(fr, .nD (ks.zip vs) none)],[])
  | .mp id=>match o id with
    | .map _ _ l=>some (.ptr fr 0,[(id, .eY l),(fr, .nD l none)],[id])
    | .eY l=>some (.ptr fr 0,[(fr, .nD l none)],[id])
    |_=>none
  |_=>none
 |_=>none
def nn(o:Nat->ab)(x:V)(str:Bool):Option fS:=
 match x with
 | .ptr id 0=>match o id with
   | .rU s pos=>if str=true then
    (if pos<s.length then some (.bU [.d (.bool true), .d (.int .i64 pos), .d (.int .i32 (Utf8.decode ⟨⟨s⟩⟩ pos).1)],[(id, .rU s (pos+(Utf8.decode ⟨⟨s⟩⟩ pos).2))],[id])else some (.bU [.d (.bool false)],[],[id]))
     else none
   |_=>none
 |_=>none
def np(o:Nat->ab)(x:V):Option (Nat×List (D×D)):=
 match x with
 | .ptr id 0=>match o id with
   | .nD l _=>some (id,l)
   |_=>none
 |_=>none
def BI(id:Nat)(l:List (D×D))(K:V->List (Nat×ab)->List Nat->Prop):Prop:=
 (l=[]->K (.bU [.d (.bool false)]) [] [id])/\∀i k x,l[i]? =some (k,x)->K (.bU [.d (.bool true), .d k, .d x]) [(id, .nD (l.eraseIdx i) (some (k,x)))] [id]
def lY(o:Nat->ab)(x:V):Option fS:=
 match x with
 | .ptr id 0=>match o id with
   | .nD _ (some (k,x))=>some (.bU [.d k, .d x],[],[id])
   |_=>none
 |_=>none
def mP(P:Program)(o:Nat->ab)(t:TypeId)(m k:V):Option fS:=
 match nH P t,dI o k,nm o m with
 |some (kt,_),some kd,some (some (id,Ae,Af),l)=>if k.ids=[]/\m9 P 100 kt kd=true then match findD P kt kd l 0 with
  |some (some (i,_,_))=>some (.bU [],[(id, .map Ae Af (l.eraseIdx i))],[id])
  |some none=>some (.bU [],[],[id])
  |none=>none
  else none
 |_,_,_=>none
def ET(x y z:V):Option V:=
 match x,y,z with
 | .d (.int k a), .d (.int k' b), .d (.int W9 c)=>if k=k'/\k=W9 then some (.d (.int k (if c>(if b>a then b else a)then c else(if b>a then b else a))))else none
 |_,_,_=>none
def r9(P:Program)(s:S)(fr:Nat)(b:Builtin)(args:List Operand)(ts:Array TypeId)(K:V->List (Nat×ab)->List Nat->Prop):Prop:=
 match b,args with
 | .len,[x]=>∃t,ts.toList=[t]/\ER P t s.o (s.ev x) fun v rd=>K v [] rd
 | .append,[x,y]=>ox P s.o fr ts (s.ev x) (s.ev y) K
 | .max,[x,y]=>mO true [s.ev x,s.ev y] fun v=>K v [] []
 | .min,[x,y]=>mO false [s.ev x,s.ev y] fun v=>K v [] []
 | .max,[x,y,z]=>cV ((ET (s.ev x) (s.ev y) (s.ev z)).map fun v=>(v,[],[])) K
 | .copy,[x,y]=>cV (ux P s.o ts (s.ev x) (s.ev y)) K
 | .delete,[x,y]=>∃t,ts.toList.head?=some t/\cV (mP P s.o t (s.ev x) (s.ev y)) K
 |_,_=>False
def Jw(P:Program)(s:S)(fr:Nat)(op:Op)(K:V->List (Nat×ab)->List Nat->Prop):Prop:=
 match op with
 | .move x| .assign x=>K (s.ev x) [] []
 | .pick c a b=>xN (s.ev c) (s.ev a) (s.ev b) fun v=>K v [] []
 | .alloc t=>∃cs,bt P t=some cs/\K (.ptr fr 0) [(fr, .row cs)] []
 | .box _ x=>∃cs,(s.ev x).cells=some cs/\K (.ptr fr 0) [(fr, .row cs)] []
 | .build t parts=>∃z pl cs,bt P t=some z/\dv P t=some pl/\qu pl z (parts.toList.map fun p=>(p.1,s.ev p.2))=some cs/\K (ff cs) [] []
 | .buildSlice t len parts=>gW P s.o fr t len (parts.toList.map fun p=>(p.1,s.ev p.2)) K
 | .load t x=>xO P s.o t (s.ev x) fun v rd=>K v [] rd
 | .store t x v=>rY P s.o t (s.ev x) (s.ev v) fun Δ rd=>K (.bU []) Δ rd
 | .nilCheck x=>kp s.o (s.ev x) fun v=>K v [] []
 | .binOp op t x y _=>EP P op t (s.ev x) (s.ev y) (fun v=>K v [] [])\/cV (pR P s.o op t (isConst x||isConst y) (s.ev x) (s.ev y)) K
 | .unOp op _ x=>OQ op (s.ev x) (fun v=>K v [] [])\/(op= .not/\s.ev x= .eK/\K .eK [] [])
 | .convert u t x=>(P.underlying u).isSome=true/\(match cD P t,s.ev x with
   |some k, .d (.int _ n)=>K (.d (.int k (k.wrap n))) [] []
   |_,_=>False)
 | .makeInterface t x=>(∃d,P.underlying t=some d/\(match d with| .interface _=>false|_=>true)=true)/\(match s.ev x with
   | .d y=>K (.d (.iface t y)) [] []
   |v=>K (.iface t v) [] [])
 | .makeFunc fn first cap=>K (.func fn (first.toList.map s.ev) (cap.toList.map s.ev)) [] []
 | .makeSlice t l c=>iY P fr t (s.ev l) (s.ev c) fun v Δ=>K v Δ []
 | .fieldAddr t x f=>iX P s.o t (s.ev x) f fun v=>K v [] []
 | .indexAddr t x i=>iW P s.o t (s.ev x) (s.ev i) fun v rd=>K v [] rd
 | .extract x i=>match s.ev x with
   | .bU vs=>∃v,vs[i]? =some v/\K v [] []
   |_=>False
 | .slice t x lo hi mx=>cV (pN P s.o t (s.ev x) (lo.map s.ev) (hi.map s.ev) (mx.map s.ev)) K
 | .field t x f=>cV ((rZ P t (s.ev x) f).map fun v=>(v,[],[])) K
 | .index t x i=>cV ((r8 P t (s.ev x) (s.ev i)).map fun v=>(v,[],[])) K
 | .makeMap t none=>cV (lW P fr t) K
 | .lookup t m k ok=>cV (gQ P s.o t (s.ev m) (s.ev k) ok) K
 | .mapUpdate t m k v=>cV (fk P s.o t (s.ev m) (s.ev k) (s.ev v)) K
 | .insert t m k v=>cV (fk P s.o t (s.ev m) (s.ev k) (s.ev v)) K
 | .range t x=>cV (lX P s.o fr t (s.ev x)) K
 | .next x str=>cV (nn s.o (s.ev x) str) K\/(str=false/\∃id l,np s.o (s.ev x)=some (id,l)/\BI id l K)
 | .entry x=>cV (lY s.o (s.ev x)) K
 | .typeAssert x _ t ok=>cV ((oz P t ok (s.ev x)).map fun v=>(v,[],[])) K
 | .call c=>match c.callee with
   | .builtin b=>r9 P s fr b c.args.toList c.argTypes K
   |_=>False
 |_=>False
end Go.Proofs.YtealblliddhgiaaGreat
namespace Go.Proofs.YtealblliddhgiaaGreat
section
variable {B:Nat->Prop}{φ:Place}{H:Hp}{w:World}
theorem V.aE:∀ (cs:List V) (vs:List Value),V.aF B φ H w cs vs->vs.length=cs.length
 |[],_,h=>by simp[V.aF]at h;simp[h]
 |c::cs,_,h=>by obtain⟨u,us,rfl,_,h2⟩:=h;simp[V.aE cs us h2]
theorem V.dS:∀ (cs:List V) (vs:List Value) (i:Nat) (c:V),V.aF B φ H w cs vs->cs[i]? =some c->∃v,vs[i]? =some v/\V.den B φ H w c v
 |[],_,_,_,_,hd=>by simp at hd
 |c::cs,_,0,x,h,hd=>by
  obtain⟨u,us,rfl,h1,_⟩:=h
  simp at hd;subst hd;exact⟨u,by simp,h1⟩
 |c::cs,_,i+1,x,h,hd=>by
  obtain⟨u,us,rfl,_,h2⟩:=h
  simpa using V.dS cs us i x h2 (by simpa using hd)
theorem V.bu:∀ (cs ds:List V) (us vs:List Value),V.aF B φ H w cs us->V.aF B φ H w ds vs->V.aF B φ H w (cs++ds) (us++vs)
 |[],ds,us,vs,h,k=>by simp[V.aF]at h;subst h;simpa using k
 |c::cs,ds,_,vs,h,k=>by
  obtain⟨u,us,rfl,h1,h2⟩:=h
  exact⟨u,us++vs,by simp,h1,V.bu cs ds us vs h2 k⟩
theorem V.dw:∀ (n:Nat) (cs:List V) (vs:List Value),V.aF B φ H w cs vs->V.aF B φ H w (cs.take n) (vs.take n)
 |0,_,_,_=>by simp[V.aF]
 |n+1,[],_,h=>by simp[V.aF]at h;subst h;simp[V.aF]
 |n+1,c::cs,_,h=>by
  obtain⟨u,us,rfl,h1,h2⟩:=h
  exact⟨u,us.take n,by simp,h1,V.dw n cs us h2⟩
theorem V.ed:∀ (n:Nat) (cs:List V) (vs:List Value),V.aF B φ H w cs vs->V.aF B φ H w (cs.drop n) (vs.drop n)
 |0,_,_,h=>by simpa using h
 |n+1,[],_,h=>by simp[V.aF]at h;subst h;simp[V.aF]
 |n+1,c::cs,_,h=>by
  obtain⟨u,us,rfl,h1,h2⟩:=h
  simpa using V.ed n cs us h2
theorem V.cm:∀ (ds:List D) (vs:List Value),V.aF B φ H w (ds.map .d) vs↔D.aF B w ds vs
 |[],vs=>by simp[V.aF,D.aF]
 |x::ds,vs=>by simp only[List.map_cons,V.aF,D.aF,V.den,V.cm ds]
theorem D.bu:∀ (cs ds:List D) (us vs:List Value),D.aF B w cs us->D.aF B w ds vs->D.aF B w (cs++ds) (us++vs)
 |[],ds,us,vs,h,k=>by simp[D.aF]at h;subst h;simpa using k
 |c::cs,ds,_,vs,h,k=>by
  obtain⟨u,us,rfl,h1,h2⟩:=h
  exact⟨u,us++vs,by simp,h1,D.bu cs ds us vs h2 k⟩
theorem D.dw:∀ (n:Nat) (cs:List D) (vs:List Value),D.aF B w cs vs->D.aF B w (cs.take n) (vs.take n)
 |0,_,_,_=>by simp[D.aF]
 |n+1,[],_,h=>by simp[D.aF]at h;subst h;simp[D.aF]
 |n+1,c::cs,_,h=>by
  obtain⟨u,us,rfl,h1,h2⟩:=h
  exact⟨u,us.take n,by simp,h1,D.dw n cs us h2⟩
theorem D.ed:∀ (n:Nat) (cs:List D) (vs:List Value),D.aF B w cs vs->D.aF B w (cs.drop n) (vs.drop n)
 |0,_,_,h=>by simpa using h
 |n+1,[],_,h=>by simp[D.aF]at h;subst h;simp[D.aF]
 |n+1,c::cs,_,h=>by
  obtain⟨u,us,rfl,h1,h2⟩:=h
  simpa using D.ed n cs us h2
theorem D.xR:∀ (i:Nat) (ds:List D) (vs:List Value) (x:D) (v:Value),D.aF B w ds vs->D.den B w x v->D.aF B w (ds.set i x) (vs.set i v)
 |_,[],_,_,_,h,_=>by simp[D.aF]at h;subst h;simp[D.aF]
 |0,c::cs,_,x,v,h,k=>by
  obtain⟨u,us,rfl,h1,h2⟩:=h
  exact⟨v,us,by simp,k,h2⟩
 |i+1,c::cs,_,x,v,h,k=>by
  obtain⟨u,us,rfl,h1,h2⟩:=h
  exact⟨u,us.set i v,by simp,h1,D.xR i cs us x v h2 k⟩
theorem uy:∀ (cs:List V) (ds:List D),Aj cs=some ds->cs=ds.map .d
 |[],ds,h=>by simp[Aj]at h;subst h;rfl
 | .d x::cs,ds,h=>by
   simp only[Aj,Option.map_eq_some_iff]at h
   obtain⟨a,h1,rfl⟩:=h
   simp[uy cs a h1]
 | .br::_,_,h| .agg _::_,_,h| .bU _::_,_,h| .ptr _ _::_,_,h| .osl _ _::_,_,h| .pe _ _ _ _ _::_,_,h| .pp _ _::_,_,h
 | .func _ _ _::_,_,h| .iface _ _::_,_,h| .af::_,_,h| .nC _::_,_,h| .rT _ _ _::_,_,h| .mp _::_,_,h| .eK::_,_,h=>by simp[Aj]at h
theorem kq(cs:List V)(a:Array Value)(h:V.aF B φ H w cs a.toList)(hf:Flat a.toList):V.den B φ H w (ff cs) (.agg a):=by
 unfold ff
 split
 ·rename_i ds hd
  have:=uy cs ds hd
  subst this
  exact⟨a,rfl,(V.cm ds _).1 h,hf⟩
 ·exact⟨a,rfl,h,hf⟩
theorem D.mQ:∀ (x:D) (v:Value),D.den B w x v->(∃cs a,x= .agg cs/\v= .agg a)\/v.oneCell'=true/\x.cells=[x]/\v.cells=#[v]
 | .int _ _,_,h| .bool _,_,h| .eh,_,h| .gx,_,h| .a7,_,h| .cU,_,h=>by
   simp only[D.den]at h;subst h;exact .inr ⟨rfl,rfl,rfl⟩
 | .str l,_,h=>by obtain⟨s,rfl,_⟩:=h;exact .inr ⟨rfl,rfl,rfl⟩
 | .agg cs,_,h=>by obtain⟨a,rfl,_,_⟩:=h;exact .inl ⟨cs,a,rfl,rfl⟩
 | .sl es,_,h=>by obtain⟨b,l,c,rfl,_⟩:=h;exact .inr ⟨rfl,rfl,rfl⟩
 | .iface t x,_,h=>by obtain⟨u,rfl,_⟩:=h;exact .inr ⟨rfl,rfl,rfl⟩
 | .mp ks vs,_,h=>by obtain⟨m,es,c,p,rfl,_⟩:=h;exact .inr ⟨rfl,rfl,rfl⟩
theorem D.eM (x:D)(v:Value)(h:D.den B w x v):D.aF B w x.cells v.cells.toList/\Flat v.cells.toList:=by
 rcases D.mQ x v h with⟨cs,a,rfl,rfl⟩|⟨h1,h2,h3⟩
 ·obtain⟨a',h1,h2,h3⟩:=h
  injection h1 with h1;subst h1
  exact⟨h2,h3⟩
 ·rw[h2,h3]
  exact⟨⟨v,[],rfl,h,rfl⟩,by intro u hu;simp at hu;subst hu;exact h1⟩
theorem V.mQ (x:V)(v:Value)(us:List V)(hx:x.cells=some us)(h:V.den B φ H w x v):V.aF B φ H w us v.cells.toList/\Flat v.cells.toList:=by
 have one:∀ (y:V),v.oneCell'=true->V.den B φ H w y v->V.aF B φ H w [y] v.cells.toList/\Flat v.cells.toList:=by
  intro y h1 h2
  have h3:v.cells=#[v]:=by cases v<;>simp_all[Value.oneCell',Value.cells]
  rw[h3]
  exact⟨⟨v,[],rfl,h2,rfl⟩,by intro u hu;simp at hu;subst hu;exact h1⟩
 cases x with
 |d x=>
  simp only[V.cells,Option.some.injEq]at hx;subst hx
  have:=D.eM x v h
  exact⟨(V.cm _ _).2 this.1,this.2⟩
 |br=>simp only[V.cells,Option.some.injEq]at hx;subst hx;exact one _ (by cases h;rfl) h
 |agg cs=>
  simp only[V.cells,Option.some.injEq]at hx;subst hx
  obtain⟨a,rfl,h1,h2⟩:=h
  exact⟨h1,h2⟩
 |bU vs=>simp[V.cells]at hx
 |af=>simp[V.cells]at hx
 |ptr id off=>simp only[V.cells,Option.some.injEq]at hx;subst hx;exact one _ h.1 h
 |osl id ep=>simp only[V.cells,Option.some.injEq]at hx;subst hx;exact one _ h.1 h
 |pe id ep i sz off=>simp only[V.cells,Option.some.injEq]at hx;subst hx;exact one _ h.1 h
 |pp cs off=>simp only[V.cells,Option.some.injEq]at hx;subst hx;exact one _ (by obtain⟨a,ev,_,rfl,_⟩:=h;rfl) h
 |func fn f c=>simp only[V.cells,Option.some.injEq]at hx;subst hx;exact one _ (by obtain⟨a,ev,rfl,_⟩:=h;rfl) h
 |iface t y=>simp only[V.cells,Option.some.injEq]at hx;subst hx;exact one _ (by obtain⟨a,rfl,_⟩:=h;rfl) h
 |nC es=>simp only[V.cells,Option.some.injEq]at hx;subst hx;exact one _ (by obtain⟨_,b,n,rfl⟩:=h;rfl) h
 |rT id off n=>simp only[V.cells,Option.some.injEq]at hx;subst hx;exact one _ h.1 h
 |mp id=>simp only[V.cells,Option.some.injEq]at hx;subst hx;exact one _ h.1 h
 |ki id=>simp only[V.cells,Option.some.injEq]at hx;subst hx;exact one _ h.1 h
 |eK=>simp only[V.cells,Option.some.injEq]at hx;subst hx;exact one _ (by obtain⟨a,rfl⟩:=h;rfl) h
theorem kW(v:Value)(h:v.oneCell'=true):V.den B φ H w (V.da v) v:=by
 cases v<;>simp_all only[Value.oneCell',V.da,V.den,D.den]<;>try trivial
 all_goals (try (split<;>simp_all[V.den,D.den]))
 all_goals (try first|(simp_all[D.den];done)|simp_all)
theorem dx:∀ (vs:List Value),Flat vs->V.aF B φ H w (vs.map V.da) vs
 |[],_=>rfl
 |v::vs,h=>⟨v,vs,rfl,kW v (h v (by simp)),dx vs fun u hu=>h u (by simp[hu])⟩
end
end Go.Proofs.YtealblliddhgiaaGreat
namespace Go.Proofs.YtealblliddhgiaaGreat
theorem mR(H:Hp):H.put []=H:=by
 obtain⟨o,us⟩:=H
 simp[Hp.put,put]
theorem dJ(H:Hp)(A C:List (Nat×ab)):H.put (A++C)=(H.put A).put C:=by
 obtain⟨o,us⟩:=H
 simp only[Hp.put,put,List.foldl_append,Hp.mk.injEq,true_and]
 funext id
 simp only[List.map_append,List.mem_append,eq_iff_iff]
 exact⟨fun h=>by rcases h with h|h|h<;>simp[h],fun h=>by rcases h with(h|h)|h<;>simp[h]⟩
@[simp] theorem bH (H:Hp) (i:Nat) (x:ab):(H.put [(i,x)]).o=ax H.o i x:=rfl
@[simp] theorem dK (H:Hp) (i j:Nat) (x:ab):(H.put [(i,x)]).us j↔(H.us j\/j=i):=by simp[Hp.put]
section
variable {M:Nat->Prop}{φ aB:Place}{H H':Hp}{w w':World}
theorem aL.xS (xE:∀b,cg w b-> ¬aj M φ H b->w'.heap[b]? =w.heap[b]? /\ ¬aj M aB H' b)(Xa:dH φ H aB H'){id:Nat}(ho:H'.o id=H.o id)(dp:aB id=φ id)
 (hb:(H.o id).live=true->∀b,eA (φ id)=some b->w'.heap[b]? =w.heap[b]?) (h:aL M φ H w id):aL M aB H' w' id:=by
 unfold aL at*
 rw[ho]
 cases hx:H.o id with
 |no=>trivial
 |row cs=>
  simp only[hx]at h|-
  obtain⟨b,cI,ty,h1,h2,h3,h4⟩:=h
  exact⟨b,cI,ty,dp.trans h1,(hb (by rw[hx];rfl) b (by rw[h1];rfl)).trans h2,V.fu xE Xa cs _ h3,h4⟩
 |arr ep ty sz es=>
  simp only[hx]at h|-
  obtain⟨h0,xs,h1,evs,h2,h3,h4⟩:=h
  refine⟨h0,xs, ?_,evs,h2,h3,D.aJ xE es evs h4⟩
  rw[dp]
  obtain⟨g1,g2⟩:=h1
  refine⟨g1, ?_⟩
  rcases g2 with g2|⟨g,cap,cur,k1,k2,k3,k4⟩
  ·exact .inl g2
  ·exact .inr ⟨g,cap,cur,k1,k2,(hb (by rw[hx];rfl) g (by rw[k1];rfl)).trans k3,k4⟩
 |ou ep es=>
  simp only[hx]at h|-
  rw[dp]
  exact D.aG xE (.sl es) _ h
 |map kt vt l=>
  simp only[hx]at h|-
  obtain⟨b,es,clock,h1,h2,h4,h3⟩:=h
  exact⟨b,es,clock,dp.trans h1,(hb (by rw[hx];rfl) b (by rw[h1];rfl)).trans h2,h4,aI.mono xE l _ h3⟩
 |eY l=>
  simp only[hx]at h|-
  rw[dp]
  exact D.aG xE (.mp _ _) _ h
 |nD l last=>
  simp only[hx]at h|-
  obtain⟨b,h1,h2⟩:=h
  exact⟨b,dp.trans h1,h2.mono xE (hb (by rw[hx];rfl) b (by rw[h1];rfl))⟩
 |rU s pos=>
  simp only[hx]at h|-
  obtain⟨b,h1,h2⟩:=h
  exact⟨b,dp.trans h1,(hb (by rw[hx];rfl) b (by rw[h1];rfl)).trans h2⟩
 |loop nf n env ps kj ft st C9=>
  simp only[hx]at h|-
  obtain⟨b,r,h1,h2,h0,h3,h4,h5,h6,h7,h8,h9⟩:=h
  exact⟨b,r,dp.trans h1,(hb (by rw[hx];rfl) b (by rw[h1];rfl)).trans h2,h0,h3,h4,h5,h6,h7,h8,fun i=>V.ko xE Xa _ _ (h9 i)⟩
theorem aL.mono (ht:Trans φ H w aB H' w'){id:Nat}(ho:H'.o id=H.o id)(dp:aB id=φ id)
 (hb:(H.o id).live=true->∀b,eA (φ id)=some b->w'.heap[b]? =w.heap[b]?) (h:aL M φ H w id):aL M aB H' w' id:=aL.xS ht.blocks ht.rel ho dp hb h
theorem az.of (hH:az M φ H w)(ht:Trans φ H w aB H' w')(T:Nat->Prop)(hT:∀id,T id->aL M aB H' w' id)
 (hn:∀id, ¬T id->H'.o id=H.o id/\aB id=φ id/\((H.o id).live=true->∀b,eA (φ id)=some b->w'.heap[b]? =w.heap[b]?))
 (ja:∀id, ¬H'.us id->H'.o id= .no)
 (YK:∀i j b,(H'.o i).live=true->(H'.o j).live=true->eA (aB i)=some b->eA (aB j)=some b->i=j)
 (OR:∀b,bS aB H' b->b<w'.heap.size):az M aB H' w' where
 ok id:=by
  by_cases hc:T id
  ·exact hT id hc
  ·obtain⟨h1,h2,h3⟩:=hn id hc
   exact(hH.ok id).mono ht h1 h2 h3
 fresh:=ja
 apart:=YK
 ours b hb:=by
  refine⟨fun hM=> ?_,OR b hb⟩
  rcases ht.grow b hb with h1|h1
  ·exact(hH.ours b h1).1 hM
  ·have:=hH.tX b hM;omega
 tX b hM:=Nat.lt_of_lt_of_le (hH.tX b hM) ht.ck.size
theorem eN(hk:eL (fun _=>False) w w'){fr:Nat}(cL: ¬H.us fr)(obj:ab)(val:Value)(ei:∀b,eA val=some b->w.heap.size<=b):
 Trans φ H w (ax φ fr val) (H.put [(fr,obj)]) w' where
 ck:=⟨hk.os,hk.tape,hk.output,hk.size,fun k h _=>hk.block k h (fun h=>h)⟩
 grow b:=by
  rintro⟨id,h1,h2⟩
  by_cases aw:id=fr
  ·subst aw;simp at h2;exact .inr (ei b h2)
  ·simp[aw]at h1 h2;exact .inl ⟨id,h1,h2⟩
 rel:={
  us:=fun id h=>by simp[h]
  row:=fun id hu hr=>by
   have aw:id≠fr:=fun h=>cL (h ▸ hu)
   simp[aw]at hr|-;exact hr
  ep:=fun id e' hu he=>by
   have aw:id≠fr:=fun h=>cL (h ▸ hu)
   simp[aw]at he|-;exact⟨e',he,Nat.le_refl _⟩}
theorem jb(hH:az M φ H w)(hk:eL (fun _=>False) w w'){fr:Nat}(cL: ¬H.us fr)(obj:ab)(val:Value)(ei:∀b,eA val=some b->w.heap.size<=b/\b<w'.heap.size)
 (sb:aL M (ax φ fr val) (H.put [(fr,obj)]) w' fr):az M (ax φ fr val) (H.put [(fr,obj)]) w':=by
 have ht:Trans φ H w (ax φ fr val) (H.put [(fr,obj)]) w':=eN hk cL obj val fun b hb=>(ei b hb).1
 refine hH.of ht (· =fr) (fun id h=>h ▸ sb) (fun id h=> ?_) (fun id h=> ?_) (fun i j b hi hj bi bj=> ?_) (fun b=> ?_)
 ·refine⟨by simp[h],by simp[h],fun hl b hb=>hk.block b ?_ (fun h=>h)⟩
  exact(hH.ours b ⟨id,hl,hb⟩).2
 ·rw[dK]at h
  have h1:id≠fr:=fun e=>h (.inr e)
  simp only[bH,aK,h1,if_false]
  exact hH.fresh id fun hu=>h (.inl hu)
 ·by_cases e1:i=fr<;>by_cases e2:j=fr
  ·exact e1.trans e2.symm
  ·simp[e1,e2]at hi hj bi bj
   have:=(hH.ours b ⟨j,hj,bj⟩).2;have:=(ei b bi).1;omega
  ·simp[e1,e2]at hi hj bi bj
   have:=(hH.ours b ⟨i,hi,bi⟩).2;have:=(ei b bj).1;omega
  ·simp[e1,e2]at hi hj bi bj
   exact hH.apart i j b hi hj bi bj
 ·rintro⟨id,h1,h2⟩
  by_cases aw:id=fr
  ·subst aw;simp at h2;exact(ei b h2).2
  ·simp[aw]at h1 h2
   exact Nat.lt_of_lt_of_le (hH.ours b ⟨id,h1,h2⟩).2 hk.size
theorem cM(w:World)(o:Obj):eL (fun _=>False) w (w.alloc o):=
 ⟨rfl,rfl,rfl,by simp,fun k hk _=>RowKit.Below.heap_alloc w o k hk⟩
theorem kX{w w':World}(h:w.grownBy w' none):eL (fun _=>False) w w':=
 ⟨h.os,h.tape,h.output,h.size,fun k hk _=>h.block k hk (by simp)⟩
theorem HA(hH:az M φ H w){fr:Nat}(cL: ¬H.us fr)(cs:List V)(cI:Array Value)(ty:TypeId)(hd:V.aF (aj M φ H) φ H w cs cI.toList)(hf:Flat cI.toList):
 let aB:=ax φ fr (.pointer (some ⟨w.heap.size,0,none⟩));let H':=H.put [(fr, .row cs)];let w':=w.alloc (.cells cI ty)
 az M aB H' w'/\Trans φ H w aB H' w'/\V.den (aj M aB H') aB H' w' (.ptr fr 0) (.pointer (some ⟨w.heap.size,0,none⟩)):=by
 intro aB H' w'
 have hv:∀b,eA (.pointer (some ⟨w.heap.size,0,none⟩))=some b->w.heap.size<=b/\b<w'.heap.size:=by
  intro b hb;simp[eA]at hb;subst hb;simp[w']
 have ht:Trans φ H w aB H' w':=eN (cM w _) cL _ _ fun b hb=>(hv b hb).1
 refine⟨jb hH (cM w _) cL _ _ hv ?_,ht,rfl,by simp[H'],fun _=>⟨w.heap.size,by simp[aB],rfl⟩⟩
 unfold aL
 simp only[bH,aK,if_true]
 exact⟨w.heap.size,cI,ty,rfl,heap_alloc_new w _,V.aJ ht cs _ hd,hf⟩
theorem fw{id:Nat}(dT:H.us id){b:Nat}(bT:(H.o id).live=true)(hb:eA (φ id)=some b)(hk:eL (· =b) w w')(obj:ab)(bF:obj.bN=(H.o id).bN)(sd:obj.ba=(H.o id).ba):
 Trans φ H w φ (H.put [(id,obj)]) w' where
 ck:=⟨hk.os,hk.tape,hk.output,hk.size,fun k h hl=>hk.block k h (fun e=>hl ⟨id,bT,e ▸ hb⟩)⟩
 grow b':=by
  rintro⟨j,h1,h2⟩
  by_cases hj:j=id
  ·subst hj;exact .inl ⟨j,bT,h2⟩
  ·simp[hj]at h1;exact .inl ⟨j,h1,h2⟩
 rel:={
  us:=fun j h=>by simp[h]
  row:=fun j hu hr=>by
   by_cases hj:j=id
   ·subst hj;simp at hr;exact⟨bF ▸ hr,rfl⟩
   ·simp[hj]at hr;exact⟨hr,rfl⟩
  ep:=fun j e' hu he=>by
   by_cases hj:j=id
   ·subst hj;simp at he;exact⟨e',sd ▸ he,Nat.le_refl _,fun _=>rfl⟩
   ·simp[hj]at he;exact⟨e',he,Nat.le_refl _,fun _=>rfl⟩}
theorem iO(hH:az M φ H w){id:Nat}(dT:H.us id){b:Nat}(bT:(H.o id).live=true)(hb:eA (φ id)=some b)(hk:eL (· =b) w w')(obj:ab)(bF:obj.bN=(H.o id).bN)
 (sd:obj.ba=(H.o id).ba) (sb:aL M φ (H.put [(id,obj)]) w' id):az M φ (H.put [(id,obj)]) w':=by
 refine hH.of (fw dT bT hb hk obj bF sd) (· =id) (fun j h=>h ▸ sb) (fun j h=> ?_) (fun j h=> ?_) (fun i j b' hi hj bi bj=> ?_) (fun b'=> ?_)
 ·refine⟨by simp[h],rfl,fun hl b' Ez=>hk.block b' (hH.ours b' ⟨j,hl,Ez⟩).2 fun e=>h ?_⟩
  exact hH.apart j id b hl bT (e ▸ Ez) hb
 ·rw[dK]at h
  have h1:j≠id:=fun e=>h (.inr e)
  simp only[bH,aK,h1,if_false]
  exact hH.fresh j fun hu=>h (.inl hu)
 ·refine hH.apart i j b' ?_ ?_ bi bj
  ·by_cases e:i=id
   ·subst e;exact bT
   ·simpa[e]using hi
  ·by_cases e:j=id
   ·subst e;exact bT
   ·simpa[e]using hj
 ·rintro⟨j,h1,h2⟩
  refine Nat.lt_of_lt_of_le (hH.ours b' ⟨j, ?_,h2⟩).2 hk.size
  by_cases e:j=id
  ·subst e;exact bT
  ·simpa[e]using h1
theorem jD(w:World)(b:Nat)(cs:Array Value):eL (· =b) w (w.setRow b cs):=
 ⟨rfl,rfl,rfl,by simp,fun k _ hk=>by
  unfold World.setRow
  simp only[Array.getElem?_modify]
  rw[if_neg (fun e=>hk e.symm)]⟩
theorem xT(hH:az M φ H w){id b:Nat}(dT:H.us id){cs cs':List V}(ho:H.o id= .row cs)(dp:φ id= .pointer (some ⟨b,0,none⟩)){cI:Array Value}{ty:TypeId}
 (hb:w.heap[b]? =some (.cells cI ty (0,0))) (oB:Array Value) (hd:V.aF (aj M φ H) φ H w cs' oB.toList) (hf:Flat oB.toList):
 az M φ (H.put [(id, .row cs')]) (w.setRow b oB)/\Trans φ H w φ (H.put [(id, .row cs')]) (w.setRow b oB):=by
 have hl:(H.o id).live=true:=by rw[ho];rfl
 have xE:eA (φ id)=some b:=by rw[dp];rfl
 have ht:Trans φ H w φ (H.put [(id, .row cs')]) (w.setRow b oB):=fw dT hl xE (jD w b oB) _ (by rw[ho];rfl) (by rw[ho];rfl)
 refine⟨iO hH dT hl xE (jD w b oB) _ (by rw[ho];rfl) (by rw[ho];rfl) ?_,ht⟩
 unfold aL
 simp only[bH,aK,if_true]
 exact⟨b,oB,ty,dp,setRow_heap w b cI oB ty (0,0) hb,V.aJ ht cs' _ hd,hf⟩
theorem oC{B:Nat->Prop}{sz g:Nat}(cur:Array Value)(ty:TypeId)(fz:Nat×Nat)(hg:w.heap[g]? =some (.cells cur ty fz))(hB: ¬B g):
 ∀ (es:List D) (evs:List Value) (i:Nat),D.aF B w es evs->(∀ev∈evs,ev.cells.size=sz)->(∀j u,(evs.flatMap (·.cells.toList))[j]? =some u->cur[i*sz+j]? =some u)->D.elems B w sz ⟨g,0,none⟩ i es
 |[],_,_,_,_,_=>trivial
 |e::es,_,i,h,hs,hc=>by
  obtain⟨ev,evs,rfl,h1,h2⟩:=h
  have dL:ev.cells.size=sz:=hs ev (by simp)
  refine⟨⟨ev,dL,fun j u hj=> ?_,h1⟩,oC cur ty fz hg hB es evs (i+1) h2 (fun x hx=>hs x (by simp[hx])) fun j u hj=> ?_⟩
  ·have bI:j<ev.cells.size:=(Array.getElem?_eq_some_iff.1 hj).1
   have:cur[i*sz+j]? =some u:=hc j u (by
    rw[List.flatMap_cons,List.getElem?_append_left (by simpa using bI)];simpa using hj)
   refine⟨?_,by simpa using hB⟩
   unfold Addr.add World.cell?
   by_cases e1:i*sz=0<;>by_cases e2:j=0<;>simp_all
  ·have:=hc (sz+j) u (by
    rw[List.flatMap_cons,List.getElem?_append_right (by simp[dL])]
    simpa[dL]using hj)
   rw[show(i+1)*sz+j=i*sz+(sz+j) by rw[Nat.add_mul];omega]
   exact this
theorem HB(hH:az M φ H w){id ep sz:Nat}{ty:TypeId}{es:List D}(dT:H.us id)(ho:H.o id= .arr ep ty sz es):
 az M φ (H.put [(id, .ou ep es)]) w/\Trans φ H w φ (H.put [(id, .ou ep es)]) w:=by
 have Am:∀b,bS φ (H.put [(id, .ou ep es)]) b->bS φ H b:=by
  rintro b ⟨j,h1,h2⟩
  by_cases hj:j=id
  ·subst hj;simp[ab.live]at h1
  ·simp[hj]at h1;exact⟨j,h1,h2⟩
 have ht:Trans φ H w φ (H.put [(id, .ou ep es)]) w:={
  ck:=eL.refl _ _
  grow:=fun b hb=> .inl (Am b hb)
  rel:={
   us:=fun j h=>by simp[h]
   row:=fun j hu hr=>by
    by_cases hj:j=id
    ·subst hj;simp[ab.bN]at hr
    ·simp[hj]at hr;exact⟨hr,rfl⟩
   ep:=fun j e' hu he=>by
    by_cases hj:j=id
    ·subst hj;simp[ab.ba]at he;subst he;exact⟨ep,by rw[ho];rfl,Nat.le_refl _,fun _=>rfl⟩
    ·simp[hj]at he;exact⟨e',he,Nat.le_refl _,fun _=>rfl⟩}}
 refine⟨hH.of ht (· =id) (fun j h=> ?_) (fun j h=>⟨by simp[h],rfl,fun _ _ _=>rfl⟩) (fun j h=> ?_) (fun i j b hi hj bi bj=> ?_) (fun b hb=>(hH.ours b (Am b hb)).2),ht⟩
 ·subst h
  have bB:=hH.ok j
  unfold aL at bB|-
  simp only[ho,bH,aK,if_true]at bB|-
  obtain⟨h0,xs,⟨hl,bF⟩,evs,rfl,h2,h3⟩:=bB
  have hlen:=D.aE _ _ h3
  rcases bF with⟨h4,h5⟩|⟨g,cap,cur,h4,_,h5,h6,h7,h8,h9⟩
  ·rw[h4]
   have:es=[]:=by simpa using h5
   subst this
   exact⟨none,0,0,rfl,rfl,Nat.le_refl _,fun _=>rfl,0,fun a ha=>by cases ha⟩
  ·rw[h4]
   refine⟨some ⟨g,0,none⟩,es.length,cap,rfl,rfl,h6,(fun h=>by cases h),sz,fun a ha=> ?_⟩
   injection ha with ha;subst ha
   refine⟨fun _=>rfl,oC cur ty (0,0) h5 ?_ es evs 0 (D.aJ (ht.blocks (M:=M)) es evs h3) h2 fun j' u EA=> ?_⟩
   ·rintro(hM|⟨i,HC,EU⟩)
    ·exact(hH.ours g ⟨j,by rw[ho];rfl,by rw[h4];rfl⟩).1 hM
    ·by_cases e:i=j
     ·subst e;simp[ab.live]at HC
     ·simp[e]at HC
      exact e (hH.apart i j g HC (by rw[ho];rfl) EU (by rw[h4];rfl))
   ·rw[<- h9]at EA
    simp only[Nat.zero_mul,Nat.zero_add]
    rw[List.getElem?_take]at EA
    split at EA
    ·simpa using EA
    ·cases EA
 ·rw[dK]at h
  have h1:j≠id:=fun e=>h (.inr e)
  simp only[bH,aK,h1,if_false]
  exact hH.fresh j fun hu=>h (.inl hu)
 ·by_cases e1:i=id
  ·subst e1;simp[ab.live]at hi
  ·by_cases e2:j=id
   ·subst e2;simp[ab.live]at hj
   ·simp[e1,e2]at hi hj;exact hH.apart i j b hi hj bi bj
theorem BJ(hH:az M φ H w){id:Nat}{kt vt:TypeId}{l:List (D×D)}(dT:H.us id)(ho:H.o id= .map kt vt l):
 az M φ (H.put [(id, .eY l)]) w/\Trans φ H w φ (H.put [(id, .eY l)]) w:=by
 have Am:∀b,bS φ (H.put [(id, .eY l)]) b->bS φ H b:=by
  rintro b ⟨j,h1,h2⟩
  by_cases hj:j=id
  ·subst hj;simp[ab.live]at h1
  ·simp[hj]at h1;exact⟨j,h1,h2⟩
 have ht:Trans φ H w φ (H.put [(id, .eY l)]) w:={
  ck:=eL.refl _ _
  grow:=fun b hb=> .inl (Am b hb)
  rel:={
   us:=fun j h=>by simp[h]
   row:=fun j hu hr=>by
    by_cases hj:j=id
    ·subst hj;exact⟨by rw[ho];rfl,rfl⟩
    ·simp[hj]at hr;exact⟨hr,rfl⟩
   ep:=fun j e' hu he=>by
    by_cases hj:j=id
    ·subst hj;simp[ab.ba]at he
    ·simp[hj]at he;exact⟨e',he,Nat.le_refl _,fun _=>rfl⟩}}
 refine⟨hH.of ht (· =id) (fun j h=> ?_) (fun j h=>⟨by simp[h],rfl,fun _ _ _=>rfl⟩) (fun j h=> ?_) (fun i j b hi hj bi bj=> ?_) (fun b hb=>(hH.ours b (Am b hb)).2),ht⟩
 ·subst h
  have bB:=hH.ok j
  unfold aL at bB|-
  simp only[ho,bH,aK,if_true]at bB|-
  obtain⟨b,es,clock,h1,h2,h3,h4⟩:=bB
  obtain⟨h5,h6⟩:=(kn _ _).1 h4
  refine⟨b,es,clock,es.toList,h1,h2, ?_,h3, .inl rfl,D.aJ (ht.blocks (M:=M)) _ _ h5,D.aJ (ht.blocks (M:=M)) _ _ h6⟩
  rintro(hM|⟨i,HC,EU⟩)
  ·exact(hH.ours b ⟨j,by rw[ho];rfl,by rw[h1];rfl⟩).1 hM
  ·by_cases e:i=j
   ·subst e;simp[ab.live]at HC
   ·simp[e]at HC
    exact e (hH.apart i j b HC (by rw[ho];rfl) EU (by rw[h1];rfl))
 ·rw[dK]at h
  have h1:j≠id:=fun e=>h (.inr e)
  simp only[bH,aK,h1,if_false]
  exact hH.fresh j fun hu=>h (.inl hu)
 ·by_cases e1:i=id
  ·subst e1;simp[ab.live]at hi
  ·by_cases e2:j=id
   ·subst e2;simp[ab.live]at hj
   ·simp[e1,e2]at hi hj;exact hH.apart i j b hi hj bi bj
end
end Go.Proofs.YtealblliddhgiaaGreat
