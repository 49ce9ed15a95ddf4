/-
  A PART OF THE PROOF. Conditions: none.
-/
import Derived.WalkKit
import Derived.Below
set_option linter.unusedSimpArgs false
set_option linter.unusedVariables false
namespace Go.Proofs.YtpkobkdgcanmjaaGreat
def nd(ops:Array Oper)(j:Nat):Option Tmp:=(ops[j]?).bind (·.dst)
structure bK where
 dst:Option Nat
 op:Op
 gd:Option (Nat×Bool):=none
instance:Inhabited bK:=⟨⟨none, .ready 0,none⟩⟩
def u1(n:Nat):Option Tmp->Bool
 |some d=>decide (d<n)
 |none=>true
def yP(n:Nat)(ops:Array Oper)(o:Oper):Option bK:=
 if u1 n o.dst=true then match o.guard with
  |none=>some ⟨o.dst,o.op,none⟩
  |some (j,want)=>match nd ops j with
   |some d=>some ⟨o.dst,o.op,some (d,want)⟩
   |none=>none
 else none
def hY(n:Nat)(ops:Array Oper):List Oper->Option (List bK)
 |[]=>some []
 |o::l=>match yP n ops o,hY n ops l with
  |some x,some xs=>some (x::xs)
  |_,_=>none
def tmpsOf(o:bK):List Nat:=(o.op.operands.toList.filterMap fun| .tmp t=>some t|_=>none)++(match o.gd with|some (d,_)=>[d]|none=>[])
def dH(o:bK):List Nat:=tmpsOf o++o.dst.toList
def aX(ops:Array Oper)(i:Nat):List Nat:=match ops[i]? with|some o=>(o.after.toList.filter (Region.binds .any)).map (·.on)|none=>[]
def bu(l:List bK)(i:Nat):bK:=l.getD i default
inductive IC where
 |skip|ab (l:List bK)|ck (l:List bK) (pr:List (List Nat))|seq (a b:IC)|cond (c:Operand) (a b:IC)|block (id:Nat) (a:IC)|loop (a:IC)|exit (id:Nat)|ret|bad
 |xo (g:Operand) (ps:List Nat) (a b:IC)
 deriving Inhabited
inductive lz where
 |ret|exit (id:Nat)
def lz.code:lz->Code
 | .ret=> .ret
 | .exit id=> .exit id
def iJ(acc:List Nat):List Nat->Nat
 |[]=>0
 |j::ps=>(2^j|||acc.getD j 0)|||iJ acc ps
def dw:List (List Nat)->List Nat->List Nat
 |[],acc=>acc
 |ps::l,acc=>dw l (acc++[iJ acc ps])
def mG(x y:bK):Bool:=match x.dst with|some d=> !(dH y).contains d|none=>true
def ri(l:List bK)(pr:List (List Nat)):Bool:=
 (List.range l.length).all fun j=>(List.range j).all fun i=>((dw pr []).getD j 0).testBit i||(mG (bu l i) (bu l j)&&mG (bu l j) (bu l i))
def kz(xs ys:List Nat):Bool:=xs.all fun x=> !ys.contains x
def iK(pr:List (List Nat))(fp:List (List Nat×List Nat)):Bool:=
 (List.range fp.length).all fun j=>(List.range j).all fun i=>((dw pr []).getD j 0).testBit i||
  (kz (fp.getD i ([],[])).2 (fp.getD j ([],[])).1&&kz (fp.getD i ([],[])).2 (fp.getD j ([],[])).2&&kz (fp.getD j ([],[])).2 (fp.getD i ([],[])).1)
def eI(ops:Array Oper):List (List Nat):=(List.range ops.size).map (aX ops)
def DL(pr:List (List Nat)):Bool:=(List.range pr.length).all fun k=>(pr.getD k []).all fun j=>decide (j<k)
theorem om{acc:List Nat}{i:Nat}:∀ (ps:List Nat),(iJ acc ps).testBit i=true->∃j∈ps,i=j\/(acc.getD j 0).testBit i=true
 |[],h=>by simp[iJ]at h
 |j::ps,h=>by
  simp only[iJ,Nat.testBit_or,Bool.or_eq_true]at h
  rcases h with(h|h)|h
  ·rw[Nat.testBit_two_pow]at h
   exact⟨j,by simp, .inl (by have h:=of_decide_eq_true h;exact h.symm)⟩
  ·exact⟨j,by simp, .inr h⟩
  ·obtain⟨j',h1,h2⟩:=om ps h
   exact⟨j',by simp[h1],h2⟩
theorem mH{k:Nat}:∀ (l:List (List Nat)) (acc:List Nat),k<acc.length->(dw l acc).getD k 0=acc.getD k 0
 |[],_,_=>rfl
 |ps::l,acc,h=>by
  rw[dw,mH l _ (by simp;omega)]
  simp[List.getD_eq_getElem?_getD,List.getElem?_append_left h]
theorem mI{i:Nat}:∀ (l:List (List Nat)) (acc:List Nat) (k:Nat),acc.length<=k->(∀k',k'<l.length->∀j∈l.getD k' [],j<acc.length+k')->((dw l acc).getD k 0).testBit i=true->
 ∃j∈l.getD (k - acc.length) [],i=j\/((dw l acc).getD j 0).testBit i=true
 |[],acc,k,hk,_,h=>by
  simp only[dw]at h
  rw[List.getD_eq_getElem?_getD,List.getElem?_eq_none hk]at h
  simp at h
 |ps::l,acc,k,hk,hp,h=>by
  simp only[dw]at h|-
  by_cases he:k=acc.length
  ·subst he
   rw[mH l _ (by simp)]at h
   have e:(acc++[iJ acc ps]).getD acc.length 0=iJ acc ps:=by simp[List.getD_eq_getElem?_getD]
   rw[e]at h
   obtain⟨j,h1,h2⟩:=om ps h
   refine⟨j,by simpa using h1,h2.imp id fun h2=> ?_⟩
   have hj:j<acc.length:=by simpa using hp 0 (by simp) j (by simpa using h1)
   rw[mH l _ (by simp;omega)]
   simpa[List.getD_eq_getElem?_getD,List.getElem?_append_left hj]using h2
  ·obtain⟨j,h1,h2⟩:=mI l (acc++[iJ acc ps]) k (by simp;omega) (fun k' Cz j hj=>by
    have:=hp (k'+1) (by simp;omega) j (by simpa using hj)
    simp;omega) h
   refine⟨j, ?_,h2⟩
   have e:k - acc.length=(k - (acc++[iJ acc ps]).length)+1:=by simp;omega
   rw[e];simpa using h1
theorem lF{pr:List (List Nat)}(hp:∀k,k<pr.length->∀j∈pr.getD k [],j<k){E:Nat->Bool}(hE:∀k,k<pr.length->E k=true->∀j∈pr.getD k [],E j=true):
 ∀k,k<pr.length->(∀j∈pr.getD k [],E j=true)->∀i,((dw pr []).getD k 0).testBit i=true->E i=true:=by
 intro k
 induction k using Nat.strongRecOn with
 |ind k ih=>
  intro hk hj i hi
  obtain⟨j,h1,h2⟩:=mI pr [] k (by simp) (fun k' Cz j hj=>by simpa using hp k' Cz j hj) hi
  simp only[List.length_nil,Nat.sub_zero]at h1
  rcases h2 with rfl|h2
  ·exact hj _ h1
  ·have GG:=hp k hk j h1
   exact ih j GG (by omega) (hE j (by omega) (hj j h1)) i h2
theorem sO{pr:List (List Nat)}(hp:∀k,k<pr.length->∀j∈pr.getD k [],j<k):∀k,k<pr.length->∀i,((dw pr []).getD k 0).testBit i=true->i<k:=by
 intro k
 induction k using Nat.strongRecOn with
 |ind k ih=>
  intro hk i hi
  obtain⟨j,h1,h2⟩:=mI pr [] k (by simp) (fun k' Cz j hj=>by simpa using hp k' Cz j hj) hi
  simp only[List.length_nil,Nat.sub_zero]at h1
  have GG:=hp k hk j h1
  rcases h2 with rfl|h2
  ·exact GG
  ·have:=ih j GG (by omega) i h2;omega
def low(n:Nat):Code->IC
 | .skip=> .skip
 | .label _=> .skip
 | .scope c=>low n c
 | .region _ ops false=>match hY n ops ops.toList with
   |some l=> .ab l
   |none=> .bad
 | .region _ ops true=>match hY n ops ops.toList with
   |some l=>if ri l (eI ops)&&DL (eI ops)then .ck l (eI ops)else .bad
   |none=> .bad
 | .seq a b=> .seq (low n a) (low n b)
 | .cond c a b=> .cond c (low n a) (low n b)
 | .block id a=> .block id (low n a)
 | .loop a=> .loop (low n a)
 | .exit id=> .exit id
 | .ret=> .ret
 | .rangeFunc g ps a b=> .xo g ps.toList (low n a) (low n b)
 |_=> .bad
end Go.Proofs.YtpkobkdgcanmjaaGreat
namespace Go.Proofs.YtpkobkdgcanmjaaGreat
inductive D where
 |int (k:IntKind) (n:Int)|bool (b:Bool)|str (s:List UInt8)
 |dI|gO|aF|dr
 |agg (cs:List D)|sl (es:List D)|iface (t:TypeId) (d:D)
 |mp (ks vs:List D)
 deriving Inhabited
def Flat(vs:List Value):Prop:=∀u∈vs,u.oneCell'=true
def eJ(B:Nat->Prop)(w:World)(a:Addr)(cs:Array Value):Prop:=∀j u,cs[j]? =some u->w.cell? (a.add j)=some u/\ ¬B a.block
def fy(es:Array MapEntry)(clock:Nat):Prop:=(∀e∈es.toList,e.born<clock)/\(es.toList.map (·.born)).Nodup
def rj(ks:List D):Prop:=ks.Nodup/\∀k∈ks,∃n,k= .int .i64 n
mutual
def D.den (B:Nat->Prop)(w:World):D->Value->Prop
 | .int k n,v=>v= .int k n
 | .bool b,v=>v= .bool b
 | .str l,v=>∃s:ByteArray,v= .string s/\s.data.toList=l
 | .dI,v=>v= .nilIface
 | .gO,v=>v= .pointer none
 | .aF,v=>v= .nilFunc
 | .dr,v=>v= .map none
 | .agg cs,v=>∃a,v= .agg a/\D.au B w cs a.toList/\Flat a.toList
 | .sl es,v=>∃base len cap,v= .slice base len cap/\len=es.length/\len<=cap/\(base=none->cap=0)/\
  ∃sz,∀a,base=some a->(cap≠0->a.spot=none)/\D.elems B w sz a 0 es
 | .iface t d,v=>∃u,v= .iface t u/\D.den B w d u
 | .mp ks vs,v=>∃m es clock p,v= .map (some m)/\w.heap[m]? =some (.map es clock)/\ ¬B m/\fy es clock/\(p=es.toList\/(p.Perm es.toList/\rj ks))/\D.au B w ks (p.map (·.key))/\D.au B w vs (p.map (·.val))
def D.au (B:Nat->Prop)(w:World):List D->List Value->Prop
 |[],vs=>vs=[]
 |d::ds,vs=>∃u us,vs=u::us/\D.den B w d u/\D.au B w ds us
def D.elems (B:Nat->Prop)(w:World)(sz:Nat)(a:Addr):Nat->List D->Prop
 |_,[]=>True
 |i,e::es=>(∃ev:Value,ev.cells.size=sz/\eJ B w (a.add (i*sz)) ev.cells/\D.den B w e ev)/\D.elems B w sz a (i+1) es
end
inductive V where
 |d (x:D)|aM|agg (cs:List V)|bQ (vs:List V)
 |ptr (id off:Nat)|osl (id ep:Nat)|pe (id ep i sz off:Nat)|pp (cs:List D) (off:Nat)
 |func (fn:Fn) (first cap:List V)|iface (t:TypeId) (x:V)
 |ak
 |kQ (es:List D)|oo (id off n:Nat)|mp (id:Nat)|dB|j7 (id:Nat)
 deriving Inhabited
inductive aa where
 |no|row (cs:List V)|arr (ep:Nat) (ty:TypeId) (sz:Nat) (es:List D)|lG (ep:Nat) (es:List D)
 |map (kt vt:TypeId) (es:List (D×D))
 |loop (nf n:Nat) (env:List V) (ps:List Nat) (a b:IC) (st:LoopState) (xp:Option lz)
 |ef (es:List (D×D))|mJ (es:List (D×D)) (last:Option (D×D))|oq (s:List UInt8) (pos:Nat)
 deriving Inhabited
def bD(l:List V):Nat->V:=fun i=>l.getD i .ak
structure Hp where
 o:Nat->aa
 us:Nat->Prop
def aa.aP:aa->Option Nat
 | .arr ep _ _ _| .lG ep _=>some ep
 |_=>none
def aa.bp:aa->Bool
 | .row _| .map .. | .loop .. | .ef _| .mJ .. | .oq .. =>true
 |_=>false
def aa.live:aa->Bool
 | .row _| .arr .. | .map .. | .loop .. | .mJ .. | .oq .. =>true
 |_=>false
def dz:Value->Option Nat
 | .pointer (some a)| .slice (some a) _ _=>some a.block
 | .map (some b)=>some b
 |_=>none
abbrev Place:=Nat->Value
def bw(φ:Place)(H:Hp)(b:Nat):Prop:=∃id,(H.o id).live=true/\dz (φ id)=some b
def ad(M:Nat->Prop)(φ:Place)(H:Hp)(b:Nat):Prop:=M b\/bw φ H b
mutual
def V.den (B:Nat->Prop)(φ:Place)(H:Hp)(w:World):V->Value->Prop
 | .d x,v=>D.den B w x v
 | .aM,v=>v= .slice none 0 0
 | .agg cs,v=>∃a,v= .agg a/\V.au B φ H w cs a.toList/\Flat a.toList
 | .bQ vs,v=>∃a,v= .tuple a/\V.au B φ H w vs a.toList
 | .ptr id off,v=>v.oneCell'=true/\H.us id/\((H.o id).bp=true->∃b,φ id= .pointer (some ⟨b,0,none⟩)/\v= .pointer (some ⟨b,off,none⟩))
 | .osl id ep,v=>v.oneCell'=true/\H.us id/\∀e,(H.o id).aP=some e->ep<=e/\(ep=e->v=φ id)
 | .pe id ep i sz off,v=>v.oneCell'=true/\H.us id/\∀e,(H.o id).aP=some e->ep<=e/\(ep=e->∃b n c,φ id= .slice (some ⟨b,0,none⟩) n c/\v= .pointer (some ⟨b,i*sz+off,none⟩))
 | .pp cs off,v=>∃a ev,a.spot=none/\v= .pointer (some (a.add off))/\D.au B w cs ev/\Flat ev/\eJ B w a ev.toArray
 | .func fn first cap,v=>∃f c,v= .func fn f c/\V.au B φ H w first f.toList/\V.au B φ H w cap c.toList
 | .iface t x,v=>∃u,v= .iface t u/\V.den B φ H w x u
 | .ak,_=>True
 | .kQ es,v=>D.den B w (.sl es) v/\∃base n,v= .slice base n n
 | .oo id off n,v=>v.oneCell'=true/\H.us id/\((H.o id).bp=true->∃b,φ id= .pointer (some ⟨b,0,none⟩)/\v= .slice (some ⟨b,off,none⟩) n n)
 | .mp id,v=>v.oneCell'=true/\H.us id/\((H.o id).bp=true->v=φ id)
 | .dB,v=>∃b,v= .bool b
 | .j7 id,v=>v.oneCell'=true/\H.us id/\((H.o id).bp=true->∃b,φ id= .pointer (some ⟨b,0,none⟩)/\v= .func (.yield b) #[] #[])
def V.au (B:Nat->Prop)(φ:Place)(H:Hp)(w:World):List V->List Value->Prop
 |[],vs=>vs=[]
 |x::xs,vs=>∃u us,vs=u::us/\V.den B φ H w x u/\V.au B φ H w xs us
end
def eU(B:Nat->Prop)(w:World)(sz:Nat)(es:List D)(xs:List Value):Prop:=
 ∃evs:List Value,xs=evs.flatMap (·.cells.toList)/\(∀ev∈evs,ev.cells.size=sz)/\D.au B w es evs
def aA(B:Nat->Prop)(w:World):List (D×D)->List MapEntry->Prop
 |[],es=>es=[]
 |(k,x)::l,es=>∃e es',es=e::es'/\D.den B w k e.key/\D.den B w x e.val/\aA B w l es'
def ot(B:Nat->Prop)(w:World)(l:List (D×D))(last:Option (D×D))(b:Nat):Prop:=
 w.heap[b]? =some (.mapIter none 0 #[] 0)/\l=[]/\last=none\/
 ∃m since seen es,w.heap[b]? =some (.mapIter (some m) since seen since)/\w.heap[m]? =some (.map es since)/\ ¬B m/\fy es since/\(∃l',l'.Perm l/\aA B w l' (es.toList.filter fun e=> !seen.contains e.born))/\
  ∀k x,last=some (k,x)->∃e∈es.toList,seen.back?=some e.born/\D.den B w k e.key/\D.den B w x e.val
def aC(M:Nat->Prop)(φ:Place)(H:Hp)(w:World)(id:Nat):Prop:=
 match H.o id with
 | .no=>True
 | .row cs=>∃b cl ty,φ id= .pointer (some ⟨b,0,none⟩)/\w.heap[b]? =some (.cells cl ty (0,0))/\V.au (ad M φ H) φ H w cs cl.toList/\Flat cl.toList
 | .arr _ ty sz es=>0<sz/\∃xs,w.ownsRow 0 ty sz (φ id) es.length xs/\eU (ad M φ H) w sz es xs
 | .lG _ es=>D.den (ad M φ H) w (.sl es) (φ id)
 | .loop nf n env ps kA gB st xp=>∃b r,φ id= .pointer (some ⟨b,0,none⟩)/\w.heap[b]? =some (.loop r)/\r.fn<nf/\r.state=st/\r.pending=xp.map lz.code/\r.params.toList=ps/\r.tmps.size=n/\low n r.assign=kA/\low n r.body=gB/\
  ∀i,V.den (ad M φ H) φ H w (bD env i) (r.tmps.getD i undef)
 | .map _ _ l=>∃b es clock,φ id= .map (some b)/\w.heap[b]? =some (.map es clock)/\fy es clock/\aA (ad M φ H) w l es.toList
 | .ef l=>D.den (ad M φ H) w (.mp (l.map (·.1)) (l.map (·.2))) (φ id)
 | .mJ l last=>∃b,φ id= .pointer (some ⟨b,0,none⟩)/\ot (ad M φ H) w l last b
 | .oq s pos=>∃b,φ id= .pointer (some ⟨b,0,none⟩)/\w.heap[b]? =some (.stringIter ⟨⟨s⟩⟩ pos)
structure ai (M:Nat->Prop) (φ:Place) (H:Hp) (w:World):Prop where
 ok:∀id,aC M φ H w id
 fresh:∀id, ¬H.us id->H.o id= .no
 apart:∀i j b,(H.o i).live=true->(H.o j).live=true->dz (φ i)=some b->dz (φ j)=some b->i=j
 ours:∀b,bw φ H b-> ¬M b/\b<w.heap.size
 p7:∀b,M b->b<w.heap.size
structure dJ (m:Nat->Prop) (w w':World):Prop where
 os:w'.os=w.os
 tape:w'.tape=w.tape
 output:w'.output=w.output
 size:w.heap.size<=w'.heap.size
 block:∀k,k<w.heap.size-> ¬m k->w'.heap[k]? =w.heap[k]?
structure cX (φ:Place) (H:Hp) (aj:Place) (H':Hp):Prop where
 us:∀id,H.us id->H'.us id
 row:∀id,H.us id->(H'.o id).bp=true->(H.o id).bp=true/\aj id=φ id
 ep:∀id e',H.us id->(H'.o id).aP=some e'->∃e,(H.o id).aP=some e/\e<=e'/\(e=e'->aj id=φ id)
structure Trans (φ:Place) (H:Hp) (w:World) (aj:Place) (H':Hp) (w':World):Prop where
 bU:dJ (bw φ H) w w'
 grow:∀b,bw aj H' b->bw φ H b\/w.heap.size<=b
 rel:cX φ H aj H'
theorem dJ.refl (m:Nat->Prop)(w:World):dJ m w w:=⟨rfl,rfl,rfl,Nat.le_refl _,fun _ _ _=>rfl⟩
theorem cX.refl (φ:Place)(H:Hp):cX φ H φ H:=⟨fun _ h=>h,fun _ _ h=>⟨h,rfl⟩,fun _ e' _ h=>⟨e',h,Nat.le_refl _,fun _=>rfl⟩⟩
theorem Trans.refl (φ:Place)(H:Hp)(w:World):Trans φ H w φ H w:=⟨dJ.refl _ _,fun _ h=> .inl h,cX.refl _ _⟩
theorem cX.trans {φ aj yQ:Place}{H H' GH:Hp}(h:cX φ H aj H')(k:cX aj H' yQ GH):cX φ H yQ GH where
 us id ah:=k.us id (h.us id ah)
 row id ah hr:=by
  obtain⟨a,b⟩:=k.row id (h.us id ah) hr
  obtain⟨c,d⟩:=h.row id ah a
  exact⟨c,b.trans d⟩
 ep id e' ah he:=by
  obtain⟨e,h1,h2,h3⟩:=k.ep id e' (h.us id ah) he
  obtain⟨e0,g1,g2,g3⟩:=h.ep id e ah h1
  refine⟨e0,g1,Nat.le_trans g2 h2,fun heq=> ?_⟩
  have a:e0=e:=by omega
  have b:e=e':=by omega
  exact(h3 b).trans (g3 a)
theorem Trans.trans {φ aj yQ:Place}{H H' GH:Hp}{w w' CA:World}(h:Trans φ H w aj H' w')(k:Trans aj H' w' yQ GH CA):Trans φ H w yQ GH CA where
 bU:={
  os:=k.bU.os.trans h.bU.os
  tape:=k.bU.tape.trans h.bU.tape
  output:=k.bU.output.trans h.bU.output
  size:=Nat.le_trans h.bU.size k.bU.size
  block:=fun b hb hm=>by
   rw[k.bU.block b (Nat.lt_of_lt_of_le hb h.bU.size) (fun hl=>by
    rcases h.grow b hl with h1|h1
    ·exact hm h1
    ·omega),h.bU.block b hb hm]}
 grow b hl:=by
  rcases k.grow b hl with h1|h1
  ·exact h.grow b h1
  ·exact .inr (Nat.le_trans h.bU.size h1)
 rel:=h.rel.trans k.rel
@[simp] theorem FA (a:Addr) (j:Nat):(a.add j).block=a.block:=by unfold Addr.add;split<;>rfl
def lH(w:World)(b:Nat):Prop:=∃cs ty fz,w.heap[b]? =some (.cells cs ty fz)
def bR(w:World)(b:Nat):Prop:=lH w b\/∃es clock,w.heap[b]? =some (.map es clock)
theorem bR.lt {w:World}{b:Nat}(h:bR w b):b<w.heap.size:=by
 rcases Nat.lt_or_ge b w.heap.size with hl|hl
 ·exact hl
 ·rcases h with⟨cs,ty,fz,h⟩|⟨es,clock,h⟩
  ·rw[Array.getElem?_eq_none hl]at h;cases h
  ·rw[Array.getElem?_eq_none hl]at h;cases h
theorem kH{w:World}{a:Addr}{u:Value}(h:w.cell? a=some u):lH w a.block:=by
 unfold World.cell? at h
 split at h
 ·exact⟨_,_,_,by assumption⟩
 ·cases h
theorem nI{w:World}{a:Addr}{u:Value}(h:w.cell? a=some u):bR w a.block:= .inl (kH h)
theorem eJ.mono {B B':Nat->Prop}{w w':World}{a:Addr}{cs:Array Value}
 (hb:∀b,bR w b-> ¬B b->w'.heap[b]? =w.heap[b]? /\ ¬B' b) (h:eJ B w a cs):eJ B' w' a cs:=by
 intro j u hj
 obtain⟨h1,h2⟩:=h j u hj
 have bz:bR w a.block:=by simpa using nI h1
 obtain⟨h3,h4⟩:=hb _ bz h2
 exact⟨by rw[World.cell?_of_block (w:=w) (w':=w') (a:=a.add j) (by simpa using h3)];exact h1,h4⟩
mutual
theorem D.ax {B B':Nat->Prop}{w w':World}(hb:∀b,bR w b-> ¬B b->w'.heap[b]? =w.heap[b]? /\ ¬B' b):
 ∀ (x:D) (v:Value),D.den B w x v->D.den B' w' x v
 | .int _ _,_,h| .bool _,_,h| .str _,_,h| .dI,_,h| .gO,_,h| .aF,_,h| .dr,_,h=>by simpa[D.den]using h
 | .agg cs,_,h=>by
   obtain⟨a,rfl,h,hf⟩:=h
   exact⟨a,rfl,D.aB hb cs _ h,hf⟩
 | .sl es,_,h=>by
   obtain⟨base,len,cap,rfl,h1,h2,h3,sz,h4⟩:=h
   exact⟨base,len,cap,rfl,h1,h2,h3,sz,fun a ha=>⟨(h4 a ha).1,D.ou hb sz a es 0 (h4 a ha).2⟩⟩
 | .iface t d,_,h=>by
   obtain⟨u,rfl,h⟩:=h
   exact⟨u,rfl,D.ax hb d u h⟩
 | .mp ks vs,_,h=>by
   obtain⟨m,es,clock,p,rfl,h1,h2,h3,hp,h4,h5⟩:=h
   obtain⟨k1,k2⟩:=hb m (.inr ⟨es,clock,h1⟩) h2
   exact⟨m,es,clock,p,rfl,k1.trans h1,k2,h3,hp,D.aB hb ks _ h4,D.aB hb vs _ h5⟩
theorem D.aB {B B':Nat->Prop}{w w':World}(hb:∀b,bR w b-> ¬B b->w'.heap[b]? =w.heap[b]? /\ ¬B' b):
 ∀ (ds:List D) (vs:List Value),D.au B w ds vs->D.au B' w' ds vs
 |[],_,h=>h
 |d::ds,_,h=>by
  obtain⟨u,us,rfl,h1,h2⟩:=h
  exact⟨u,us,rfl,D.ax hb d u h1,D.aB hb ds us h2⟩
theorem D.ou {B B':Nat->Prop}{w w':World}(hb:∀b,bR w b-> ¬B b->w'.heap[b]? =w.heap[b]? /\ ¬B' b)(sz:Nat)(a:Addr):
 ∀ (es:List D) (i:Nat),D.elems B w sz a i es->D.elems B' w' sz a i es
 |[],_,_=>trivial
 |e::es,i,h=>by
  obtain⟨⟨ev,h1,h2,h3⟩,h4⟩:=h
  exact⟨⟨ev,h1,h2.mono hb,D.ax hb e ev h3⟩,D.ou hb sz a es (i+1) h4⟩
end
theorem aA.mono {B B':Nat->Prop}{w w':World}(hb:∀b,bR w b-> ¬B b->w'.heap[b]? =w.heap[b]? /\ ¬B' b):
 ∀ (l:List (D×D)) (es:List MapEntry),aA B w l es->aA B' w' l es
 |[],_,h=>h
 |(k,x)::l,_,h=>by
  obtain⟨e,es,rfl,h1,h2,h3⟩:=h
  exact⟨e,es,rfl,D.ax hb k _ h1,D.ax hb x _ h2,aA.mono hb l es h3⟩
theorem ot.mono {B B':Nat->Prop}{w w':World}(hb:∀b,bR w b-> ¬B b->w'.heap[b]? =w.heap[b]? /\ ¬B' b){l:List (D×D)}{last:Option (D×D)}{b:Nat}(QQ:w'.heap[b]? =w.heap[b]?)(h:ot B w l last b):ot B' w' l last b:=by
 rcases h with⟨h1,h2⟩|⟨m,since,seen,es,h1,h2,h3,h4,h5,h6⟩
 ·exact .inl ⟨QQ.trans h1,h2⟩
 ·obtain⟨k1,k2⟩:=hb m (.inr ⟨es,since,h2⟩) h3
  obtain⟨l',h5,GI⟩:=h5
  refine .inr ⟨m,since,seen,es,QQ.trans h1,k1.trans h2,k2,h4,⟨l',h5,aA.mono hb l' _ GI⟩,fun k x e=> ?_⟩
  obtain⟨e,g1,g2,g3,g4⟩:=h6 k x e
  exact⟨e,g1,g2,D.ax hb k _ g3,D.ax hb x _ g4⟩
theorem hZ{B:Nat->Prop}{w:World}:∀ (l:List (D×D)) (es:List MapEntry),aA B w l es↔D.au B w (l.map (·.1)) (es.map (·.key))/\D.au B w (l.map (·.2)) (es.map (·.val))
 |[],es=>by
  simp only[aA,List.map_nil,D.au]
  constructor
  ·rintro rfl;exact⟨rfl,rfl⟩
  ·rintro⟨h,_⟩;simpa using h
 |(k,x)::l,es=>by
  simp only[aA,List.map_cons,D.au]
  constructor
  ·rintro⟨e,es',rfl,h1,h2,h3⟩
   obtain⟨g1,g2⟩:=(hZ l es').1 h3
   exact⟨⟨_,_,rfl,h1,g1⟩,⟨_,_,rfl,h2,g2⟩⟩
  ·rintro⟨⟨u,us,h1,h2,h3⟩,⟨v,vs,h4,h5,h6⟩⟩
   cases es with
   |nil=>simp at h1
   |cons e es'=>
    simp only[List.map_cons,List.cons.injEq]at h1 h4
    obtain⟨rfl,rfl⟩:=h1
    obtain⟨rfl,rfl⟩:=h4
    exact⟨e,es',rfl,h2,h5,(hZ l es').2 ⟨h3,h6⟩⟩
theorem D.aq {B:Nat->Prop}{w:World}:∀ (ds:List D) (vs:List Value),D.au B w ds vs->vs.length=ds.length
 |[],_,h=>by simp[D.au]at h;simp[h]
 |d::ds,_,h=>by obtain⟨u,us,rfl,_,h2⟩:=h;simp[D.aq ds us h2]
theorem D.de {B:Nat->Prop}{w:World}:∀ (ds:List D) (vs:List Value) (i:Nat) (d:D),D.au B w ds vs->ds[i]? =some d->∃v,vs[i]? =some v/\D.den B w d v
 |[],_,_,_,_,hd=>by simp at hd
 |d::ds,_,0,x,h,hd=>by
  obtain⟨u,us,rfl,h1,_⟩:=h
  simp at hd;subst hd;exact⟨u,by simp,h1⟩
 |d::ds,_,i+1,x,h,hd=>by
  obtain⟨u,us,rfl,_,h2⟩:=h
  simpa using D.de ds us i x h2 (by simpa using hd)
theorem D.qk {B:Nat->Prop}{w:World}{sz:Nat}{a:Addr}:∀ (es:List D) (i j:Nat) (e:D),D.elems B w sz a i es->es[j]? =some e->
 ∃ev:Value,ev.cells.size=sz/\eJ B w (a.add ((i+j)*sz)) ev.cells/\D.den B w e ev
 |[],_,_,_,_,hd=>by simp at hd
 |e::es,i,0,x,h,hd=>by
  simp at hd;subst hd;simpa using h.1
 |e::es,i,j+1,x,h,hd=>by
  have:=D.qk es (i+1) j x h.2 (by simpa using hd)
  simpa[Nat.add_assoc,Nat.add_comm 1 j]using this
section
variable {M:Nat->Prop}{φ aj:Place}{H H':Hp}{w w':World}
theorem Trans.blocks (ht:Trans φ H w aj H' w')(b:Nat)(hc:bR w b)(h: ¬ad M φ H b):w'.heap[b]? =w.heap[b]? /\ ¬ad M aj H' b:=by
 have hb:=hc.lt
 refine⟨ht.bU.block b hb fun hl=>h (.inr hl), ?_⟩
 rintro(h1|h1)
 ·exact h (.inl h1)
 ·rcases ht.grow b h1 with h2|h2
  ·exact h (.inr h2)
  ·omega
mutual
theorem V.ig (hb:∀b,bR w b-> ¬ad M φ H b->w'.heap[b]? =w.heap[b]? /\ ¬ad M aj H' b)(hr:cX φ H aj H'):∀ (x:V) (v:Value),V.den (ad M φ H) φ H w x v->V.den (ad M aj H') aj H' w' x v
 | .d x,v,h=>D.ax hb x v h
 | .aM,_,h=>h
 | .ak,_,_=>trivial
 | .kQ es,v,h=>⟨D.ax hb (.sl es) v h.1,h.2⟩
 | .oo id off n,v,h=>by
   obtain⟨h0,h1,h2⟩:=h
   refine⟨h0,hr.us id h1,fun a8=> ?_⟩
   obtain⟨h3,h4⟩:=hr.row id h1 a8
   obtain⟨b,h5,h6⟩:=h2 h3
   exact⟨b,h4.trans h5,h6⟩
 | .mp id,v,h=>by
   obtain⟨h0,h1,h2⟩:=h
   refine⟨h0,hr.us id h1,fun a8=> ?_⟩
   obtain⟨h3,h4⟩:=hr.row id h1 a8
   exact(h2 h3).trans h4.symm
 | .dB,v,h=>h
 | .j7 id,v,h=>by
   obtain⟨h0,h1,h2⟩:=h
   refine⟨h0,hr.us id h1,fun a8=> ?_⟩
   obtain⟨h3,h4⟩:=hr.row id h1 a8
   obtain⟨b,h5,h6⟩:=h2 h3
   exact⟨b,h4.trans h5,h6⟩
 | .agg cs,_,h=>by obtain⟨a,rfl,h,hf⟩:=h;exact⟨a,rfl,V.eg hb hr cs _ h,hf⟩
 | .bQ cs,_,h=>by obtain⟨a,rfl,h⟩:=h;exact⟨a,rfl,V.eg hb hr cs _ h⟩
 | .ptr id off,v,h=>by
   obtain⟨h0,h1,h2⟩:=h
   refine⟨h0,hr.us id h1,fun a8=> ?_⟩
   obtain⟨h3,h4⟩:=hr.row id h1 a8
   obtain⟨b,h5,h6⟩:=h2 h3
   exact⟨b,h4.trans h5,h6⟩
 | .osl id ep,v,h=>by
   obtain⟨h0,h1,h2⟩:=h
   refine⟨h0,hr.us id h1,fun e' dY=> ?_⟩
   obtain⟨e,g1,g2,g3⟩:=hr.ep id e' h1 dY
   obtain⟨h3,h4⟩:=h2 e g1
   refine⟨Nat.le_trans h3 g2,fun heq=> ?_⟩
   rw[g3 (by omega)]
   exact h4 (by omega)
 | .pe id ep i sz off,v,h=>by
   obtain⟨h0,h1,h2⟩:=h
   refine⟨h0,hr.us id h1,fun e' dY=> ?_⟩
   obtain⟨e,g1,g2,g3⟩:=hr.ep id e' h1 dY
   obtain⟨h3,h4⟩:=h2 e g1
   refine⟨Nat.le_trans h3 g2,fun heq=> ?_⟩
   rw[g3 (by omega)]
   exact h4 (by omega)
 | .pp cs off,v,h=>by
   obtain⟨a,ev,h1,h2,h3,h5,h4⟩:=h
   exact⟨a,ev,h1,h2,D.aB hb cs ev h3,h5,h4.mono hb⟩
 | .func fn first cap,_,h=>by
   obtain⟨f,c,rfl,h1,h2⟩:=h
   exact⟨f,c,rfl,V.eg hb hr first _ h1,V.eg hb hr cap _ h2⟩
 | .iface t x,_,h=>by obtain⟨u,rfl,h⟩:=h;exact⟨u,rfl,V.ig hb hr x u h⟩
theorem V.eg (hb:∀b,bR w b-> ¬ad M φ H b->w'.heap[b]? =w.heap[b]? /\ ¬ad M aj H' b)(hr:cX φ H aj H'):∀ (ds:List V) (vs:List Value),V.au (ad M φ H) φ H w ds vs->V.au (ad M aj H') aj H' w' ds vs
 |[],_,h=>h
 |x::xs,_,h=>by
  obtain⟨u,us,rfl,h1,h2⟩:=h
  exact⟨u,us,rfl,V.ig hb hr x u h1,V.eg hb hr xs us h2⟩
end
theorem V.ax (ht:Trans φ H w aj H' w')(x:V)(v:Value)(h:V.den (ad M φ H) φ H w x v):V.den (ad M aj H') aj H' w' x v:=V.ig ht.blocks ht.rel x v h
theorem V.aB (ht:Trans φ H w aj H' w')(ds:List V)(vs:List Value)(h:V.au (ad M φ H) φ H w ds vs):V.au (ad M aj H') aj H' w' ds vs:=V.eg ht.blocks ht.rel ds vs h
end
end Go.Proofs.YtpkobkdgcanmjaaGreat
namespace Go.Proofs.YtpkobkdgcanmjaaGreat
def aQ{α:Type}(f:Nat->α)(i:Nat)(x:α):Nat->α:=fun j=>if j=i then x else f j
@[simp] theorem aE {α:Type} (f:Nat->α) (i:Nat) (x:α) (j:Nat):aQ f i x j=if j=i then x else f j:=rfl
structure S where
 env:Nat->V
 o:Nat->aa
 nx:Nat
def S.H (s:S):Hp:=⟨s.o,fun id=>id<s.nx⟩
def V.cH:Value->V
 | .int k n=> .d (.int k n)| .bool b=> .d (.bool b)| .string s=> .d (.str s.data.toList)
 | .nilIface=> .d .dI| .pointer none=> .d .gO| .nilFunc=> .d .aF| .map none=> .d .dr
 | .slice none 0 0=> .aM
 |_=> .ak
def u3:List V->Option (List D)
 |[]=>some []
 | .d x::vs=>(u3 vs).map (x::·)
 |_::_=>none
def dC(cs:List V):V:=match u3 cs with|some ds=> .d (.agg ds)|none=> .agg cs
def V.ofConst:Value->V
 | .agg a=>if a.toList.all Value.oneCell' then dC (a.toList.map V.cH)else .ak
 |v=>V.cH v
def S.ev (s:S):Operand->V
 | .tmp t=>s.env t
 | .const v=>V.ofConst v
 | .func f=> .func (.func f) [] []
 | .global _=> .ak
def D.cells:D->List D
 | .agg cs=>cs
 |x=>[x]
def V.cells:V->Option (List V)
 | .d x=>some (x.cells.map .d)
 | .agg cs=>some cs
 | .bQ _| .ak=>none
 |v=>some [v]
mutual
def dn(o:Nat->aa):V->Option D
 | .d x=>some x
 | .aM=>some (.sl [])
 | .kQ es=>some (.sl es)
 | .osl id ep=>match o id with
   | .arr eR _ _ es| .lG eR es=>if ep=eR then some (.sl es)else none
   |_=>none
 | .mp id=>match o id with
   | .map _ _ l=>some (.mp (l.map (·.1)) (l.map (·.2)))
   | .ef l=>some (.mp (l.map (·.1)) (l.map (·.2)))
   |_=>none
 | .agg cs=>(bG o cs).map .agg
 | .iface t x=>(dn o x).map (.iface t)
 |_=>none
def bG(o:Nat->aa):List V->Option (List D)
 |[]=>some []
 |v::vs=>(dn o v).bind fun x=>(bG o vs).map (x::·)
end
mutual
def V.ids:V->List Nat
 | .osl id _=>[id]
 | .mp id=>[id]
 | .agg cs=>V.aR cs
 | .iface _ x=>x.ids
 |_=>[]
def V.aR:List V->List Nat
 |[]=>[]
 |v::vs=>v.ids++V.aR vs
end
def cn(o:Nat->aa)(ids:List Nat):List (Nat×aa):=
 ids.map fun id=>(id,match o id with| .arr ep _ _ es=> .lG ep es| .map _ _ l=> .ef l|o=>o)
def mK(o:Nat->aa)(ids:List Nat):List (Nat×aa):=
 ids.filterMap fun id=>match o id with| .arr ep _ _ es=>some (id, .lG ep es)|_=>none
def put(o:Nat->aa)(Δ:List (Nat×aa)):Nat->aa:=Δ.foldl (fun f x=>aQ f x.1 x.2) o
def Hp.put (H:Hp)(Δ:List (Nat×aa)):Hp:={o:=YtpkobkdgcanmjaaGreat.put H.o Δ,us:=fun id=>H.us id\/id∈Δ.map (·.1)}
def aN(P:Program)(t:TypeId):Option (List V):=
 match P.info? t with
 |some i=>match i.zero with
  |some z=>if z.cells.size=i.size/\z.cells.toList.all Value.oneCell'=true then some (z.cells.toList.map V.cH)else none
  |none=>none
 |none=>none
def bq(P:Program)(t:TypeId):Option Bool:=
 match P.underlying t with
 |some (.struct _)|some (.array _ _)=>some true
 |some _=>some false
 |none=>none
def bC(P:Program)(t:TypeId)(f:Nat):Option Nat:=
 match P.underlying t with
 |some (.struct fs)=>match fs[f]? with
  |some fd=>if P.cellsOf fd.type=0 then none else some fd.offset
  |none=>none
 |_=>none
def aI(P:Program)(t:TypeId):Option TypeId:=
 match P.underlying t with
 |some (.slice e)=>some e
 |_=>none
def bE(P:Program)(t:TypeId):Option (Nat×TypeId):=
 match P.underlying t with
 |some (.array n e)=>some (n,e)
 |_=>none
def cA(P:Program)(t:TypeId):Option (List (Nat×Nat)):=
 match P.underlying t with
 |some (.struct fs)=>if fs.toList.all (fun f=>(P.info? f.type).isSome)=true then some (fs.toList.map fun f=>(f.offset,P.cellsOf f.type))else none
 |some (.array n e)=>if(P.info? e).isSome=true then some ((List.range n).map fun i=>(i*P.cellsOf e,P.cellsOf e))else none
 |_=>none
def bL(P:Program)(t:TypeId):Option IntKind:=
 match P.underlying t with
 |some (.int k)=>some k
 |_=>none
def dD(P:Program)(t:TypeId)(cs:List V)(off:Nat):Option V:=
 match bq P t with
 |some true=>if off+P.cellsOf t<=cs.length then some (dC ((cs.drop off).take (P.cellsOf t)))else none
 |some false=>cs[off]?
 |none=>none
def rk(P:Program)(t:TypeId)(cs:List V)(off:Nat)(v:V):Option (List V):=
 match v.cells with
 |some us=>if us.length=P.cellsOf t/\(0<us.length\/(P.info? t).isSome=true)/\off+us.length<=cs.length then some (cs.take off++us++cs.drop (off+us.length))else none
 |none=>none
def ng(places:List (Nat×Nat))(cs:List V):List (Nat×V)->Option (List V)
 |[]=>some cs
 |(i,v)::rest=>match places[i]?,v.cells with
  |some (off,size),some us=>if us.length=size/\off+us.length<=cs.length then ng places (cs.take off++us++cs.drop (off+us.length)) rest else none
  |_,_=>none
def D.put (e:D)(off:Nat)(us:List D):Option D:=
 match e with
 | .agg cs=>if off+us.length<=cs.length then some (.agg (cs.take off++us++cs.drop (off+us.length)))else none
 |_=>match off,us with
  |0,[u]=>some u
  |_,_=>none
def GJ(op:BinOp)(a b:Int):Option Bool:=
 match op with
 | .eql=>some (a==b)| .neq=>some (a !=b)| .lss=>some (decide (a<b))| .leq=>some (decide (a<=b))
 | .gtr=>some (decide (a>b))| .geq=>some (decide (a≥b))
 |_=>none
def ov(op:BinOp)(k:IntKind)(x y:Int):Option Int:=
 let a:=BitVec.ofInt k.bits x
 let b:=BitVec.ofInt k.bits y
 match op with
 | .and=>some (k.wrap (a&&&b).toNat)
 | .or=>some (k.wrap (a|||b).toNat)
 | .xor=>some (k.wrap (a ^^^ b).toNat)
 | .andNot=>some (k.wrap (a&&& ~~~b).toNat)
 |_=>none
def Ba(op:BinOp)(k:IntKind)(a b:Int)(K:V->Prop):Prop:=
 match op with
 | .add=>K (.d (.int k (k.wrap (a+b))))
 | .sub=>K (.d (.int k (k.wrap (a - b))))
 | .mul=>K (.d (.int k (k.wrap (a*b))))
 | .quo=>b≠0/\K (.d (.int k (k.wrap (a.tdiv b))))
 | .rem=>b≠0/\K (.d (.int k (a.tmod b)))
 | .and| .or| .xor| .andNot=>∃r,ov op k a b=some r/\K (.d (.int k r))
 | .shl| .shr=>False
 |op=>∃r,GJ op a b=some r/\K (.d (.bool r))
def yR(P:Program)(t:TypeId)(x y:D)(r:Bool):Prop:=
 ∀ (B:Nat->Prop) (w:World) (u v:Value),D.den B w x u->D.den B w y v->(Op.equal t u v).run P w= .ok r w/\∀ (op:BinOp) (a b:Operand),(eqGuard op t a b u v).run P w= .ok () w
def yS(P:Program)(op:BinOp)(t:TypeId)(x y:V)(K:V->Prop):Prop:=
 match x,y with
 | .d (.int k a), .d (.int k' b)=>k=k'/\Ba op k a b K
 | .d (.bool a), .d (.bool b)=>match op with
   | .eql=>P.underlying t=some .bool/\K (.d (.bool (a==b)))
   | .neq=>P.underlying t=some .bool/\K (.d (.bool (a !=b)))
   |_=>False
 | .d (.str a), .d (.str b)=>match op with
   | .eql=>K (.d (.bool (a==b)))
   | .neq=>K (.d (.bool (a !=b)))
   |_=>False
 | .d (.agg a), .d (.agg b)=>match op with
   | .eql=>∃r,yR P t (.agg a) (.agg b) r/\K (.d (.bool r))
   | .neq=>∃r,yR P t (.agg a) (.agg b) r/\K (.d (.bool !r))
   |_=>False
 |_,_=>False
def GK(op:UnOp)(x:V)(K:V->Prop):Prop:=
 match op,x with
 | .neg, .d (.int k n)=>K (.d (.int k (k.wrap (0 - n))))
 | .not, .d (.bool b)=>K (.d (.bool !b))
 |_,_=>False
def sP(c a b:V)(K:V->Prop):Prop:=
 match c with
 | .d (.bool t)=>(t=true->K a)/\(t=false->K b)
 |_=>False
def yT(P:Program)(t:TypeId)(o:Nat->aa)(x:V)(K:V->List Nat->Prop):Prop:=
 match P.underlying t with
 |some (.slice _)=>match x with
  | .d (.sl es)=>K (.d (.int .i64 es.length)) []
  | .aM=>K (.d (.int .i64 0)) []
  | .kQ es=>K (.d (.int .i64 es.length)) []
  | .osl id ep=>match o id with
    | .arr eR _ _ es| .lG eR es=>ep=eR/\K (.d (.int .i64 es.length)) [id]
    |_=>False
  |_=>False
 |some .string=>match x with
  | .d (.str s)=>K (.d (.int .i64 s.length)) []
  |_=>False
 |some (.array n _)=>K (.d (.int .i64 n)) []
 |_=>False
def fS(P:Program)(o:Nat->aa)(t:TypeId)(x ix:V)(K:V->List Nat->Prop):Prop:=
 match ix with
 | .d (.int _ i)=>match aI P t with
   |some e=>match x with
    | .d (.sl es)=>0<=i/\∃y,es[i.toNat]? =some y/\y.cells.length=P.cellsOf e/\0<P.cellsOf e/\K (.pp y.cells 0) []
    | .kQ es=>0<=i/\∃y,es[i.toNat]? =some y/\y.cells.length=P.cellsOf e/\0<P.cellsOf e/\K (.pp y.cells 0) []
    | .osl id ep=>match o id with
      | .arr eR _ sz es=>ep=eR/\0<=i/\i.toNat<es.length/\sz=P.cellsOf e/\0<P.cellsOf e/\K (.pe id ep i.toNat sz 0) [id]
      | .lG eR es=>ep=eR/\0<=i/\∃y,es[i.toNat]? =some y/\y.cells.length=P.cellsOf e/\0<P.cellsOf e/\K (.pp y.cells 0) [id]
      |_=>False
    |_=>False
   |none=>match bE P t with
    |some (n,e)=>0<=i/\i<n/\(P.info? e).isSome=true/\(match x with
     | .ptr id off=>(o id).bp=true/\K (.ptr id (off+i.toNat*P.cellsOf e)) []
     | .pp cs off=>K (.pp cs (off+i.toNat*P.cellsOf e)) []
     | .pe id ep j sz off=>(o id).aP=some ep/\K (.pe id ep j sz (off+i.toNat*P.cellsOf e)) []
     |_=>False)
    |none=>False
 |_=>False
def fT(P:Program)(o:Nat->aa)(t:TypeId)(x:V)(f:Nat)(K:V->Prop):Prop:=
 match bC P t f with
 |some q=>match x with
  | .ptr id off=>(o id).bp=true/\K (.ptr id (off+q))
  | .pp cs off=>K (.pp cs (off+q))
  | .pe id ep j sz off=>(o id).aP=some ep/\K (.pe id ep j sz (off+q))
  |_=>False
 |none=>False
def sQ(P:Program)(o:Nat->aa)(t:TypeId)(x:V)(K:V->List Nat->Prop):Prop:=
 match x with
 | .ptr id off=>match o id with
   | .row cs=>∃v,dD P t cs off=some v/\K v [id]
   |_=>False
 | .pp cs off=>∃v,dD P t (cs.map .d) off=some v/\K v []
 | .pe id ep i sz off=>match o id with
   | .arr eR _ kB es=>ep=eR/\sz=kB/\∃e,es[i]? =some e/\∃v,dD P t (e.cells.map .d) off=some v/\K v [id]
   |_=>False
 |_=>False
def ow(P:Program)(o:Nat->aa)(t:TypeId)(x v:V)(K:List (Nat×aa)->List Nat->Prop):Prop:=
 match x with
 | .ptr id off=>match o id with
   | .row cs=>∃cs',rk P t cs off v=some cs'/\K [(id, .row cs')] [id]
   |_=>False
 | .pe id ep i kB off=>match o id with
   | .arr eR ty sz es=>ep=eR/\kB=sz/\∃e,es[i]? =some e/\∃y,dn o v=some y/\y.cells.length=P.cellsOf t/\0<y.cells.length/\v.ids.all (· !=id)=true/\
    ∃e',e.put off y.cells=some e'/\K (cn o v.ids++[(id, .arr ep ty sz (es.set i e'))]) (id::v.ids)
   |_=>False
 |_=>False
def fg(P:Program)(o:Nat->aa)(fr:Nat)(t:TypeId)(len:Nat)(parts:List (Nat×V))(K:V->List (Nat×aa)->List Nat->Prop):Prop:=
 match aI P t with
 |some e=>(len=0/\parts=[]/\0<P.cellsOf e/\K (.osl fr 0) [(fr, .arr 0 e (P.cellsOf e) [])] [])\/(parts.map (·.1)=List.range len)/\(aN P e).isSome=true/\0<len/\0<P.cellsOf e/\len*P.cellsOf e<=2^24/\
  ∃ds,bG o (parts.map (·.2))=some ds/\(∀x∈ds,x.cells.length=P.cellsOf e)/\
   K (.osl fr 0) (cn o (V.aR (parts.map (·.2)))++[(fr, .arr 0 e (P.cellsOf e) ds)]) (V.aR (parts.map (·.2)))
 |none=>False
def aT(P:Program)(e:TypeId):Option D:=
 match aN P e with
 |some z=>match bG (fun _=> .no) z,bq P e with
  |some ds,some true=>some (.agg ds)
  |some [x],some false=>some x
  |_,_=>none
 |none=>none
def fU(P:Program)(fr:Nat)(t:TypeId)(l c:V)(K:V->List (Nat×aa)->Prop):Prop:=
 match aI P t,l,c with
 |some e, .d (.int _ n), .d (.int _ m)=>n=m/\0<=n/\0<P.cellsOf e/\P.bytesOf e*n.toNat<=2^47/\n.toNat<=2^47/\
  ∃x,aT P e=some x/\K (.osl fr 0) [(fr, .arr 0 e (P.cellsOf e) (List.replicate n.toNat x))]
 |_,_,_=>False
def dE(o:Nat->aa)(x:V):Option (List D):=
 match dn o x with
 |some (.sl es)=>some es
 |_=>none
def lI(P:Program)(o:Nat->aa)(fr:Nat)(ts:Array TypeId)(x y:V)(K:V->List (Nat×aa)->List Nat->Prop):Prop:=
 match ts.toList with
 |[t,t']=>t=t'/\(match aI P t with
  |some e=>∃new,dE o y=some new/\0<P.cellsOf e/\(aN P e).isSome=true/\(∀z∈new,z.cells.length=P.cellsOf e)/\(match x with
   | .aM=>new.length<=2^47/\new.length*P.bytesOf e<=2^47/\K (.osl fr 0) [(fr, .arr 0 e (P.cellsOf e) new)] y.ids
   | .kQ es=>(∀z∈es,z.cells.length=P.cellsOf e)/\(if new=[]then K (.kQ es) [] y.ids else es.length+new.length<=2^40/\(es.length+new.length)*P.bytesOf e<=2^40/\K (.osl fr 0) [(fr, .arr 0 e (P.cellsOf e) (es++new))] y.ids)
   | .osl id ep=>match o id with
     | .arr eR ty sz es=>ep=eR/\ty=e/\sz=P.cellsOf e/\es.length+new.length<=2^47/\(es.length+new.length)*P.bytesOf e<=2^47/\
      K (.osl id (ep+1)) [(id, .arr (ep+1) ty sz (es++new))] (id::y.ids)
     |_=>False
   |_=>False)
  |none=>False)
 |_=>False
def j8(isMax:Bool)(args:List V)(K:V->Prop):Prop:=
 match args with
 |[.d (.int k a), .d (.int k' b)]=>k=k'/\K (.d (.int k (if isMax then(if b>a then b else a)else(if b<a then b else a))))
 |_=>False
def ij(o:Nat->aa)(x:V)(K:V->Prop):Prop:=
 match x with
 | .ptr id off=>(o id).bp=true/\K (.ptr id off)
 | .pp cs off=>K (.pp cs off)
 | .func (.func f) first cap=>K (.func (.func f) first cap)
 |_=>False
def fV(P:Program)(t:TypeId)(xs:List D)(off:Nat):Option D:=
 match bq P t with
 |some true=>if off+P.cellsOf t<=xs.length then some (.agg ((xs.drop off).take (P.cellsOf t)))else none
 |some false=>xs[off]?
 |none=>none
inductive NF where
 |int|bool|str|struct (fs:List (TypeId×Nat))|arr (n:Nat) (e:TypeId)
def aV(P:Program)(t:TypeId):Option NF:=
 match P.underlying t with
 |some (.int _)=>some .int
 |some .bool=>some .bool
 |some .string=>some .str
 |some (.struct fs)=>if(!P.stoodInHeld t&&fs.toList.all (fun f=>f.name != "_"))=true then some (.struct (fs.toList.map fun f=>(f.type,f.offset)))else none
 |some (.array n e)=>if(P.info? e).isSome=true then some (.arr n e)else none
 |_=>none
def yU(a b:Option Bool):Option Bool:=
 match a,b with
 |some a,some b=>some (a&&b)
 |_,_=>none
def sR(f:TypeId->Nat->Option Bool):List (TypeId×Nat)->Option Bool
 |[]=>some true
 |x::l=>yU (f x.1 x.2) (sR f l)
def wa(f:Nat->Option Bool):Nat->Nat->Option Bool
 |0,_=>some true
 |n+1,i=>yU (f i) (wa f n (i+1))
def DM(f:D->D->Option Bool)(x y:Option D):Option Bool:=
 match x,y with
 |some x,some y=>f x y
 |_,_=>none
def mF(P:Program):Nat->TypeId->D->D->Option Bool
 |0,_,_,_=>none
 |d+1,t,x,y=>match aV P t with
  |some .int=>match x,y with| .int k a, .int k' b=>if k=k' then some (a==b)else none|_,_=>none
  |some .bool=>match x,y with| .bool a, .bool b=>some (a==b)|_,_=>none
  |some .str=>match x,y with| .str a, .str b=>some (a==b)|_,_=>none
  |some (.struct fs)=>match x,y with
   | .agg xs, .agg ys=>sR (fun u off=>DM (mF P d u) (fV P u xs off) (fV P u ys off)) fs
   |_,_=>none
  |some (.arr n e)=>match x,y with
   | .agg xs, .agg ys=>wa (fun i=>DM (mF P d e) (fV P e xs (i*P.cellsOf e)) (fV P e ys (i*P.cellsOf e))) n 0
   |_,_=>none
  |none=>none
abbrev eQ:=V×List (Nat×aa)×List Nat
def cF(x:Option eQ)(K:V->List (Nat×aa)->List Nat->Prop):Prop:=
 match x with
 |some (v,Δ,rd)=>K v Δ rd
 |none=>False
def xq(x:Option V)(NG:Nat):Option Nat:=
 match x with
 |none=>some NG
 |some (.d (.int _ i))=>if 0<=i then some i.toNat else none
 |_=>none
def kR(o:Nat->aa)(x:V):Option (Nat×Nat):=
 match x with
 | .ptr id off=>if(o id).bp=true then some (id,off)else none
 |_=>none
def kS(o:Nat->aa)(x:V):Option (Nat×Nat×Nat×List V):=
 match x with
 | .oo id off n=>match o id with
   | .row cs=>some (id,off,n,cs)
   |_=>none
 |_=>none
def mL(P:Program)(o:Nat->aa)(t:TypeId)(x:V)(lo hi mx:Option V):Option eQ:=
 match aI P t with
 |some e=>match dE o x,xq lo 0 with
  |some es,some l=>match xq hi es.length with
   |some h=>if l<=h/\h<=es.length/\(P.info? e).isSome=true/\(l=0\/es.all (fun y=>y.cells.length==P.cellsOf e)=true)then match mx with
    |none=>some (.d (.sl ((es.take h).drop l)),cn o x.ids,x.ids)
    |some m=>match hi,xq (some m) 0 with
     |some _,some m=>if h<=m/\m<=es.length then some (if h=m then .kQ ((es.take h).drop l)else .d (.sl ((es.take h).drop l)),cn o x.ids,x.ids)else none
     |_,_=>none
    else none
   |none=>none
  |_,_=>none
 |none=>match bE P t,lo,hi,mx with
  |some (n,e),none,none,none=>match kR o x with
   |some (id,off)=>if(P.info? e).isSome=true then some (.oo id off n,[],[id])else none
   |none=>none
  |_,_,_,_=>none
def ql(P:Program)(o:Nat->aa)(ts:Array TypeId)(x y:V):Option eQ:=
 match ts.toList with
 |[t,_]=>match aI P t with
  |some e=>match kS o x,dE o y with
   |some (id,off,n,cs),some es=>if P.cellsOf e=1/\off+n<=cs.length/\es.all (fun z=>z.cells.length==1)=true/\y.ids.all (· !=id)=true then
    some (.d (.int .i64 ((min es.length n:Nat):Int)),cn o y.ids++[(id, .row (cs.take off++((es.take n).flatMap D.cells).map .d++cs.drop (off+(es.take n).length)))],id::y.ids)else none
   |_,_=>none
  |none=>none
 |_=>none
def rl(P:Program)(t:TypeId)(f:Nat):Option (Nat×TypeId):=
 match P.underlying t with
 |some (.struct fs)=>match fs[f]? with
  |some fd=>some (fd.offset,fd.type)
  |none=>none
 |_=>none
def ox(P:Program)(t:TypeId)(x:V)(f:Nat):Option V:=
 match rl P t f with
 |some (off,u)=>match x with
  | .d (.agg cs)=>(fV P u cs off).map .d
  | .agg cs=>dD P u cs off
  |_=>none
 |none=>none
def oy(P:Program)(t:TypeId)(x i:V):Option V:=
 match i with
 | .d (.int _ i)=>if 0<=i then match P.underlying t with
  |some .string=>match x with
   | .d (.str s)=>match s[i.toNat]? with
     |some b=>some (.d (.int .u8 b.toNat))
     |none=>none
   |_=>none
  |some (.array n e)=>if i<n/\(P.info? e).isSome=true then match x with
   | .d (.agg cs)=>(fV P e cs (i.toNat*P.cellsOf e)).map .d
   | .agg cs=>dD P e cs (i.toNat*P.cellsOf e)
   |_=>none
   else none
  |_=>none
   else none
 |_=>none
def mM(P:Program)(t:TypeId):Bool:=
 match P.underlying t with
 |some (.interface _)=>false
 |some _=>true
 |none=>false
def zeroV(P:Program)(t:TypeId):Option V:=
 match P.info? t with
 |some i=>match i.zero with
  |some (.agg a)=>if a.toList.all Value.oneCell'=true then some (dC (a.toList.map V.cH))else none
  |some v=>if v.oneCell'=true then some (V.cH v)else none
  |none=>none
 |none=>none
def lJ(P:Program)(t:TypeId)(ok:Bool)(x:V):Option V:=
 if mM P t=true then match x with
  | .d (.iface u y)=>if u=t then some (if ok=true then .bQ [.d y, .d (.bool true)]else .d y)
   else if ok=true then(zeroV P t).map fun z=> .bQ [z, .d (.bool false)]else none
  | .d .dI=>if ok=true then(zeroV P t).map fun z=> .bQ [z, .d (.bool false)]else none
  |_=>none
 else none
def sS(o:Nat->aa)(x:V):Option V:=
 match x with
 | .aM=>some (.d (.bool true))
 |x=>match dE o x with
  |some es=>some (if es=[]then .dB else .d (.bool false))
  |none=>none
def isConst:Operand->Bool
 | .const _=>true
 |_=>false
def Bb:V->Option V
 | .d (.bool b)=>some (.d (.bool !b))
 | .dB=>some .dB
 |_=>none
def mN(o:Nat->aa)(x:V):Option V:=
 match x with
 | .d .dr=>some (.d (.bool true))
 | .d (.mp _ _)=>some (.d (.bool false))
 | .mp id=>match o id with| .map _ _ _=>some (.d (.bool false))| .ef _=>some (.d (.bool false))|_=>none
 |_=>none
def mO(o:Nat->aa)(x:V):Option V:=
 match x with
 | .d .gO=>some (.d (.bool true))
 | .ptr id _=>if(o id).bp=true then some (.d (.bool false))else none
 | .pp _ _=>some (.d (.bool false))
 |_=>none
def NH(P:Program)(a b:TypeId)(x y:D):Option Bool:=
 if a=b then(match P.info? a,P.underlying a with
  |some i,some (.int _)=>if i.comparable=true then(match x,y with
   | .int k m, .int k' n=>if k=k' then some (m==n)else none
   |_,_=>none)else none
  |_,_=>none)
 else some false
def sT(P:Program)(o:Nat->aa)(t:TypeId)(kT:Bool)(x y:V):Option V:=
 match P.underlying t with
 |some (.interface _)=>match x,y with
  | .d .dI, .d .dI=>if kT=true then some (.d (.bool true))else none
  | .d (.iface _ _), .d .dI| .iface _ _, .d .dI| .d .dI, .d (.iface _ _)| .d .dI, .iface _ _=>some (.d (.bool false))
  | .d (.iface a x), .d (.iface b y)=>(NH P a b x y).map fun r=> .d (.bool r)
  |_,_=>none
 |some (.func _ _ _)=>match x,y with
  | .d .aF, .d .aF=>some (.d (.bool true))
  | .func _ _ _, .d .aF=>some (.d (.bool false))
  |_,_=>none
 |some (.map _ _)=>match y with
  | .d .dr=>mN o x
  |_=>none
 |some (.pointer _)=>match y with
  | .d .gO=>mO o x
  |_=>none
 |some (.slice _)=>match y with
  | .aM=>sS o x
  |_=>none
 |some (.struct _)|some (.array _ _)=>match x,y with
  | .d (.agg bH), .d (.agg bs)=>if P.eqGuardType P.depth t=false then(mF P 100 t (.agg bH) (.agg bs)).map fun r=> .d (.bool r)else none
  |_,_=>none
 |_=>none
def mP(P:Program)(o:Nat->aa)(op:BinOp)(t:TypeId)(kT:Bool)(x y:V):Option eQ:=
 match op with
 | .eql=>(sT P o t kT x y).map fun v=>(v,[],[])
 | .neq=>((sT P o t kT x y).bind Bb).map fun v=>(v,[],[])
 |_=>none
mutual
def D.same:D->D->Bool
 | .int k a, .int j b=>k==j&&a==b
 | .bool a, .bool b=>a==b
 | .str a, .str b=>a==b
 | .dI, .dI| .gO, .gO| .aF, .aF| .dr, .dr=>true
 | .agg bH, .agg bs=>D.ek bH bs
 | .sl bH, .sl bs=>D.ek bH bs
 | .iface t a, .iface u b=>t==u&&a.same b
 | .mp ks vs, .mp NI MZ=>D.ek ks NI&&D.ek vs MZ
 |_,_=>false
def D.ek:List D->List D->Bool
 |[],[]=>true
 |a::bH,b::bs=>a.same b&&D.ek bH bs
 |_,_=>false
end
def mQ(P:Program)(t:TypeId):Option (TypeId×TypeId):=
 match P.underlying t with
 |some (.map k v)=>some (k,v)
 |_=>none
def kC(P:Program):Nat->TypeId->D->Bool
 |0,_,_=>false
 |d+1,t,x=>match aV P t with
  |some .int|some .bool|some .str=>true
  |some (.struct fs)=>match x with
   | .agg xs=>fs.all fun f=>match fV P f.1 xs f.2 with|some y=>kC P d f.1 y|none=>false
   |_=>false
  |some (.arr n e)=>match x with
   | .agg xs=>(List.range n).all fun i=>match fV P e xs (i*P.cellsOf e)with|some y=>kC P d e y|none=>false
   |_=>false
  |none=>false
def findD(P:Program)(kt:TypeId)(k:D):List (D×D)->Nat->Option (Option (Nat×D×D))
 |[],_=>some none
 |(k',x)::l,i=>match mF P 100 kt k k' with
  |some true=>some (some (i,k',x))
  |some false=>findD P kt k l (i+1)
  |none=>none
def lK:D->Bool
 | .int _ _| .bool _| .str _=>true
 |_=>false
def gP:D->Bool
 | .agg cs=>cs.all lK
 |x=>lK x
def lL(o:Nat->aa)(m:V):Option (Option (Nat×TypeId×TypeId)×List (D×D)):=
 match m with
 | .mp id=>match o id with
   | .map kt vt l=>some (some (id,kt,vt),l)
   |_=>none
 | .d .dr=>some (none,[])
 |_=>none
def nh(o:Nat->aa)(m:V):Option (List Nat×List (D×D)):=
 match m with
 | .mp id=>match o id with
   | .map _ _ l=>some ([id],l)
   | .ef l=>some ([id],l)
   |_=>none
 | .d .dr=>some ([],[])
 | .d (.mp ks vs)=>some ([],ks.zip vs)
 |_=>none
def NJ(r:Option (Nat×TypeId×TypeId)):List Nat:=match r with|some p=>[p.1]|none=>[]
def iL(P:Program)(o:Nat->aa)(t:TypeId)(m k:V)(ok:Bool):Option eQ:=
 match mQ P t,dn o k,nh o m with
 |some (kt,vt),some kd,some (rd,l)=>if k.ids=[]/\kC P 100 kt kd=true then match findD P kt kd l 0 with
  |some (some (_,_,x))=>some (if ok=true then .bQ [.d x, .d (.bool true)]else .d x,[],rd)
  |some none=>match zeroV P vt with
   |some z=>some (if ok=true then .bQ [z, .d (.bool false)]else z,[],rd)
   |none=>none
  |none=>none
  else none
 |_,_,_=>none
def ff(P:Program)(o:Nat->aa)(t:TypeId)(m k v:V):Option eQ:=
 match mQ P t,dn o k,dn o v,lL o m with
 |some (kt,_),some kd,some vd,some (some (id,xr,xu),l)=>if k.ids=[]/\kC P 100 kt kd=true/\gP kd=true/\v.ids.all (· !=id)=true then match findD P kt kd l 0 with
  |some (some (i,k',_))=>if k'.same kd=true then some (.bQ [],cn o v.ids++[(id, .map xr xu (l.set i (kd,vd)))],id::v.ids)else none
  |some none=>some (.bQ [],cn o v.ids++[(id, .map xr xu (l++[(kd,vd)]))],id::v.ids)
  |none=>none
  else none
 |_,_,_,_=>none
def jr(P:Program)(fr:Nat)(t:TypeId):Option eQ:=
 match mQ P t with
 |some (kt,vt)=>some (.mp fr,[(fr, .map kt vt [])],[])
 |none=>none
def js(P:Program)(o:Nat->aa)(fr:Nat)(t:TypeId)(x:V):Option eQ:=
 match P.underlying t with
 |some .string=>match x with
  | .d (.str s)=>some (.ptr fr 0,[(fr, .oq s 0)],[])
  |_=>none
 |some (.map _ _)=>match x with
  | .d .dr=>some (.ptr fr 0,[(fr, .mJ [] none)],[])
  | .d (.mp ks vs)=>some (.ptr fr 0,[(fr, .mJ (ks.zip vs) none)],[])
  | .mp id=>match o id with
    | .map _ _ l=>some (.ptr fr 0,[(id, .ef l),(fr, .mJ l none)],[id])
    | .ef l=>some (.ptr fr 0,[(fr, .mJ l none)],[id])
    |_=>none
  |_=>none
 |_=>none
def kI(o:Nat->aa)(x:V)(str:Bool):Option eQ:=
 match x with
 | .ptr id 0=>match o id with
   | .oq s pos=>if str=true then
    (if pos<s.length then some (.bQ [.d (.bool true), .d (.int .i64 pos), .d (.int .i32 (Utf8.decode ⟨⟨s⟩⟩ pos).1)],[(id, .oq s (pos+(Utf8.decode ⟨⟨s⟩⟩ pos).2))],[id])else some (.bQ [.d (.bool false)],[],[id]))
     else none
   |_=>none
 |_=>none
def kJ(o:Nat->aa)(x:V):Option (Nat×List (D×D)):=
 match x with
 | .ptr id 0=>match o id with
   | .mJ l _=>some (id,l)
   |_=>none
 |_=>none
def wb(id:Nat)(l:List (D×D))(K:V->List (Nat×aa)->List Nat->Prop):Prop:=
 (l=[]->K (.bQ [.d (.bool false)]) [] [id])/\∀i k x,l[i]? =some (k,x)->K (.bQ [.d (.bool true), .d k, .d x]) [(id, .mJ (l.eraseIdx i) (some (k,x)))] [id]
def jt(o:Nat->aa)(x:V):Option eQ:=
 match x with
 | .ptr id 0=>match o id with
   | .mJ _ (some (k,x))=>some (.bQ [.d k, .d x],[],[id])
   |_=>none
 |_=>none
def j9(P:Program)(o:Nat->aa)(t:TypeId)(m k:V):Option eQ:=
 match mQ P t,dn o k,lL o m with
 |some (kt,_),some kd,some (some (id,xr,xu),l)=>if k.ids=[]/\kC P 100 kt kd=true then match findD P kt kd l 0 with
  |some (some (i,_,_))=>some (.bQ [],[(id, .map xr xu (l.eraseIdx i))],[id])
  |some none=>some (.bQ [],[],[id])
  |none=>none
  else none
 |_,_,_=>none
def yV(x y z:V):Option V:=
 match x,y,z with
 | .d (.int k a), .d (.int k' b), .d (.int QR c)=>if k=k'/\k=QR then some (.d (.int k (if c>(if b>a then b else a)then c else(if b>a then b else a))))else none
 |_,_,_=>none
def oz(P:Program)(s:S)(fr:Nat)(b:Builtin)(args:List Operand)(ts:Array TypeId)(K:V->List (Nat×aa)->List Nat->Prop):Prop:=
 match b,args with
 | .len,[x]=>∃t,ts.toList=[t]/\yT P t s.o (s.ev x) fun v rd=>K v [] rd
 | .append,[x,y]=>lI P s.o fr ts (s.ev x) (s.ev y) K
 | .max,[x,y]=>j8 true [s.ev x,s.ev y] fun v=>K v [] []
 | .min,[x,y]=>j8 false [s.ev x,s.ev y] fun v=>K v [] []
 | .max,[x,y,z]=>cF ((yV (s.ev x) (s.ev y) (s.ev z)).map fun v=>(v,[],[])) K
 | .copy,[x,y]=>cF (ql P s.o ts (s.ev x) (s.ev y)) K
 | .delete,[x,y]=>∃t,ts.toList.head?=some t/\cF (j9 P s.o t (s.ev x) (s.ev y)) K
 |_,_=>False
def CB(P:Program)(s:S)(fr:Nat)(op:Op)(K:V->List (Nat×aa)->List Nat->Prop):Prop:=
 match op with
 | .move x| .assign x=>K (s.ev x) [] []
 | .pick c a b=>sP (s.ev c) (s.ev a) (s.ev b) fun v=>K v [] []
 | .alloc t=>∃cs,aN P t=some cs/\K (.ptr fr 0) [(fr, .row cs)] []
 | .box _ x=>∃cs,(s.ev x).cells=some cs/\K (.ptr fr 0) [(fr, .row cs)] []
 | .build t parts=>∃z pl cs,aN P t=some z/\cA P t=some pl/\ng pl z (parts.toList.map fun p=>(p.1,s.ev p.2))=some cs/\K (dC cs) [] []
 | .buildSlice t len parts=>fg P s.o fr t len (parts.toList.map fun p=>(p.1,s.ev p.2)) K
 | .load t x=>sQ P s.o t (s.ev x) fun v rd=>K v [] rd
 | .store t x v=>ow P s.o t (s.ev x) (s.ev v) fun Δ rd=>K (.bQ []) Δ rd
 | .nilCheck x=>ij s.o (s.ev x) fun v=>K v [] []
 | .binOp op t x y _=>yS P op t (s.ev x) (s.ev y) (fun v=>K v [] [])\/cF (mP P s.o op t (isConst x||isConst y) (s.ev x) (s.ev y)) K
 | .unOp op _ x=>GK op (s.ev x) (fun v=>K v [] [])\/(op= .not/\s.ev x= .dB/\K .dB [] [])
 | .convert u t x=>(P.underlying u).isSome=true/\(match bL P t,s.ev x with
   |some k, .d (.int _ n)=>K (.d (.int k (k.wrap n))) [] []
   |_,_=>False)
 | .makeInterface t x=>(∃d,P.underlying t=some d/\(match d with| .interface _=>false|_=>true)=true)/\(match s.ev x with
   | .d y=>K (.d (.iface t y)) [] []
   |v=>K (.iface t v) [] [])
 | .makeFunc fn first cap=>K (.func fn (first.toList.map s.ev) (cap.toList.map s.ev)) [] []
 | .makeSlice t l c=>fU P fr t (s.ev l) (s.ev c) fun v Δ=>K v Δ []
 | .fieldAddr t x f=>fT P s.o t (s.ev x) f fun v=>K v [] []
 | .indexAddr t x i=>fS P s.o t (s.ev x) (s.ev i) fun v rd=>K v [] rd
 | .extract x i=>match s.ev x with
   | .bQ vs=>∃v,vs[i]? =some v/\K v [] []
   |_=>False
 | .slice t x lo hi mx=>cF (mL P s.o t (s.ev x) (lo.map s.ev) (hi.map s.ev) (mx.map s.ev)) K
 | .field t x f=>cF ((ox P t (s.ev x) f).map fun v=>(v,[],[])) K
 | .index t x i=>cF ((oy P t (s.ev x) (s.ev i)).map fun v=>(v,[],[])) K
 | .makeMap t none=>cF (jr P fr t) K
 | .lookup t m k ok=>cF (iL P s.o t (s.ev m) (s.ev k) ok) K
 | .mapUpdate t m k v=>cF (ff P s.o t (s.ev m) (s.ev k) (s.ev v)) K
 | .insert t m k v=>cF (ff P s.o t (s.ev m) (s.ev k) (s.ev v)) K
 | .range t x=>cF (js P s.o fr t (s.ev x)) K
 | .next x str=>cF (kI s.o (s.ev x) str) K\/(str=false/\∃id l,kJ s.o (s.ev x)=some (id,l)/\wb id l K)
 | .entry x=>cF (jt s.o (s.ev x)) K
 | .typeAssert x _ t ok=>cF ((lJ P t ok (s.ev x)).map fun v=>(v,[],[])) K
 | .call c=>match c.callee with
   | .builtin b=>oz P s fr b c.args.toList c.argTypes K
   |_=>False
 |_=>False
end Go.Proofs.YtpkobkdgcanmjaaGreat
namespace Go.Proofs.YtpkobkdgcanmjaaGreat
section
variable {B:Nat->Prop}{φ:Place}{H:Hp}{w:World}
theorem V.aq:∀ (cs:List V) (vs:List Value),V.au B φ H w cs vs->vs.length=cs.length
 |[],_,h=>by simp[V.au]at h;simp[h]
 |c::cs,_,h=>by obtain⟨u,us,rfl,_,h2⟩:=h;simp[V.aq cs us h2]
theorem V.de:∀ (cs:List V) (vs:List Value) (i:Nat) (c:V),V.au B φ H w cs vs->cs[i]? =some c->∃v,vs[i]? =some v/\V.den B φ H w c v
 |[],_,_,_,_,hd=>by simp at hd
 |c::cs,_,0,x,h,hd=>by
  obtain⟨u,us,rfl,h1,_⟩:=h
  simp at hd;subst hd;exact⟨u,by simp,h1⟩
 |c::cs,_,i+1,x,h,hd=>by
  obtain⟨u,us,rfl,_,h2⟩:=h
  simpa using V.de cs us i x h2 (by simpa using hd)
theorem V.aU:∀ (cs ds:List V) (us vs:List Value),V.au B φ H w cs us->V.au B φ H w ds vs->V.au B φ H w (cs++ds) (us++vs)
 |[],ds,us,vs,h,k=>by simp[V.au]at h;subst h;simpa using k
 |c::cs,ds,_,vs,h,k=>by
  obtain⟨u,us,rfl,h1,h2⟩:=h
  exact⟨u,us++vs,by simp,h1,V.aU cs ds us vs h2 k⟩
theorem V.cS:∀ (n:Nat) (cs:List V) (vs:List Value),V.au B φ H w cs vs->V.au B φ H w (cs.take n) (vs.take n)
 |0,_,_,_=>by simp[V.au]
 |n+1,[],_,h=>by simp[V.au]at h;subst h;simp[V.au]
 |n+1,c::cs,_,h=>by
  obtain⟨u,us,rfl,h1,h2⟩:=h
  exact⟨u,us.take n,by simp,h1,V.cS n cs us h2⟩
theorem V.dp:∀ (n:Nat) (cs:List V) (vs:List Value),V.au B φ H w cs vs->V.au B φ H w (cs.drop n) (vs.drop n)
 |0,_,_,h=>by simpa using h
 |n+1,[],_,h=>by simp[V.au]at h;subst h;simp[V.au]
 |n+1,c::cs,_,h=>by
  obtain⟨u,us,rfl,h1,h2⟩:=h
  simpa using V.dp n cs us h2
theorem V.bV:∀ (ds:List D) (vs:List Value),V.au B φ H w (ds.map .d) vs↔D.au B w ds vs
 |[],vs=>by simp[V.au,D.au]
 |x::ds,vs=>by simp only[List.map_cons,V.au,D.au,V.den,V.bV ds]
theorem D.aU:∀ (cs ds:List D) (us vs:List Value),D.au B w cs us->D.au B w ds vs->D.au B w (cs++ds) (us++vs)
 |[],ds,us,vs,h,k=>by simp[D.au]at h;subst h;simpa using k
 |c::cs,ds,_,vs,h,k=>by
  obtain⟨u,us,rfl,h1,h2⟩:=h
  exact⟨u,us++vs,by simp,h1,D.aU cs ds us vs h2 k⟩
theorem D.cS:∀ (n:Nat) (cs:List D) (vs:List Value),D.au B w cs vs->D.au B w (cs.take n) (vs.take n)
 |0,_,_,_=>by simp[D.au]
 |n+1,[],_,h=>by simp[D.au]at h;subst h;simp[D.au]
 |n+1,c::cs,_,h=>by
  obtain⟨u,us,rfl,h1,h2⟩:=h
  exact⟨u,us.take n,by simp,h1,D.cS n cs us h2⟩
theorem D.dp:∀ (n:Nat) (cs:List D) (vs:List Value),D.au B w cs vs->D.au B w (cs.drop n) (vs.drop n)
 |0,_,_,h=>by simpa using h
 |n+1,[],_,h=>by simp[D.au]at h;subst h;simp[D.au]
 |n+1,c::cs,_,h=>by
  obtain⟨u,us,rfl,h1,h2⟩:=h
  simpa using D.dp n cs us h2
theorem D.sU:∀ (i:Nat) (ds:List D) (vs:List Value) (x:D) (v:Value),D.au B w ds vs->D.den B w x v->D.au B w (ds.set i x) (vs.set i v)
 |_,[],_,_,_,h,_=>by simp[D.au]at h;subst h;simp[D.au]
 |0,c::cs,_,x,v,h,k=>by
  obtain⟨u,us,rfl,h1,h2⟩:=h
  exact⟨v,us,by simp,k,h2⟩
 |i+1,c::cs,_,x,v,h,k=>by
  obtain⟨u,us,rfl,h1,h2⟩:=h
  exact⟨u,us.set i v,by simp,h1,D.sU i cs us x v h2 k⟩
theorem qm:∀ (cs:List V) (ds:List D),u3 cs=some ds->cs=ds.map .d
 |[],ds,h=>by simp[u3]at h;subst h;rfl
 | .d x::cs,ds,h=>by
   simp only[u3,Option.map_eq_some_iff]at h
   obtain⟨a,h1,rfl⟩:=h
   simp[qm cs a h1]
 | .aM::_,_,h| .agg _::_,_,h| .bQ _::_,_,h| .ptr _ _::_,_,h| .osl _ _::_,_,h| .pe _ _ _ _ _::_,_,h| .pp _ _::_,_,h
 | .func _ _ _::_,_,h| .iface _ _::_,_,h| .ak::_,_,h| .kQ _::_,_,h| .oo _ _ _::_,_,h| .mp _::_,_,h| .dB::_,_,h=>by simp[u3]at h
theorem ik(cs:List V)(a:Array Value)(h:V.au B φ H w cs a.toList)(hf:Flat a.toList):V.den B φ H w (dC cs) (.agg a):=by
 unfold dC
 split
 ·rename_i ds hd
  have:=qm cs ds hd
  subst this
  exact⟨a,rfl,(V.bV ds _).1 h,hf⟩
 ·exact⟨a,rfl,h,hf⟩
theorem D.ke:∀ (x:D) (v:Value),D.den B w x v->(∃cs a,x= .agg cs/\v= .agg a)\/v.oneCell'=true/\x.cells=[x]/\v.cells=#[v]
 | .int _ _,_,h| .bool _,_,h| .dI,_,h| .gO,_,h| .aF,_,h| .dr,_,h=>by
   simp only[D.den]at h;subst h;exact .inr ⟨rfl,rfl,rfl⟩
 | .str l,_,h=>by obtain⟨s,rfl,_⟩:=h;exact .inr ⟨rfl,rfl,rfl⟩
 | .agg cs,_,h=>by obtain⟨a,rfl,_,_⟩:=h;exact .inl ⟨cs,a,rfl,rfl⟩
 | .sl es,_,h=>by obtain⟨b,l,c,rfl,_⟩:=h;exact .inr ⟨rfl,rfl,rfl⟩
 | .iface t x,_,h=>by obtain⟨u,rfl,_⟩:=h;exact .inr ⟨rfl,rfl,rfl⟩
 | .mp ks vs,_,h=>by obtain⟨m,es,c,p,rfl,_⟩:=h;exact .inr ⟨rfl,rfl,rfl⟩
theorem D.dK (x:D)(v:Value)(h:D.den B w x v):D.au B w x.cells v.cells.toList/\Flat v.cells.toList:=by
 rcases D.ke x v h with⟨cs,a,rfl,rfl⟩|⟨h1,h2,h3⟩
 ·obtain⟨a',h1,h2,h3⟩:=h
  injection h1 with h1;subst h1
  exact⟨h2,h3⟩
 ·rw[h2,h3]
  exact⟨⟨v,[],rfl,h,rfl⟩,by intro u hu;simp at hu;subst hu;exact h1⟩
theorem V.ke (x:V)(v:Value)(us:List V)(hx:x.cells=some us)(h:V.den B φ H w x v):V.au B φ H w us v.cells.toList/\Flat v.cells.toList:=by
 have one:∀ (y:V),v.oneCell'=true->V.den B φ H w y v->V.au B φ H w [y] v.cells.toList/\Flat v.cells.toList:=by
  intro y h1 h2
  have h3:v.cells=#[v]:=by cases v<;>simp_all[Value.oneCell',Value.cells]
  rw[h3]
  exact⟨⟨v,[],rfl,h2,rfl⟩,by intro u hu;simp at hu;subst hu;exact h1⟩
 cases x with
 |d x=>
  simp only[V.cells,Option.some.injEq]at hx;subst hx
  have:=D.dK x v h
  exact⟨(V.bV _ _).2 this.1,this.2⟩
 |aM=>simp only[V.cells,Option.some.injEq]at hx;subst hx;exact one _ (by cases h;rfl) h
 |agg cs=>
  simp only[V.cells,Option.some.injEq]at hx;subst hx
  obtain⟨a,rfl,h1,h2⟩:=h
  exact⟨h1,h2⟩
 |bQ vs=>simp[V.cells]at hx
 |ak=>simp[V.cells]at hx
 |ptr id off=>simp only[V.cells,Option.some.injEq]at hx;subst hx;exact one _ h.1 h
 |osl id ep=>simp only[V.cells,Option.some.injEq]at hx;subst hx;exact one _ h.1 h
 |pe id ep i sz off=>simp only[V.cells,Option.some.injEq]at hx;subst hx;exact one _ h.1 h
 |pp cs off=>simp only[V.cells,Option.some.injEq]at hx;subst hx;exact one _ (by obtain⟨a,ev,_,rfl,_⟩:=h;rfl) h
 |func fn f c=>simp only[V.cells,Option.some.injEq]at hx;subst hx;exact one _ (by obtain⟨a,ev,rfl,_⟩:=h;rfl) h
 |iface t y=>simp only[V.cells,Option.some.injEq]at hx;subst hx;exact one _ (by obtain⟨a,rfl,_⟩:=h;rfl) h
 |kQ es=>simp only[V.cells,Option.some.injEq]at hx;subst hx;exact one _ (by obtain⟨_,b,n,rfl⟩:=h;rfl) h
 |oo id off n=>simp only[V.cells,Option.some.injEq]at hx;subst hx;exact one _ h.1 h
 |mp id=>simp only[V.cells,Option.some.injEq]at hx;subst hx;exact one _ h.1 h
 |j7 id=>simp only[V.cells,Option.some.injEq]at hx;subst hx;exact one _ h.1 h
 |dB=>simp only[V.cells,Option.some.injEq]at hx;subst hx;exact one _ (by obtain⟨a,rfl⟩:=h;rfl) h
theorem iM(v:Value)(h:v.oneCell'=true):V.den B φ H w (V.cH v) v:=by
 cases v<;>simp_all only[Value.oneCell',V.cH,V.den,D.den]<;>try trivial
 all_goals (try (split<;>simp_all[V.den,D.den]))
 all_goals (try first|(simp_all[D.den];done)|simp_all)
theorem cT:∀ (vs:List Value),Flat vs->V.au B φ H w (vs.map V.cH) vs
 |[],_=>rfl
 |v::vs,h=>⟨v,vs,rfl,iM v (h v (by simp)),cT vs fun u hu=>h u (by simp[hu])⟩
end
end Go.Proofs.YtpkobkdgcanmjaaGreat
namespace Go.Proofs.YtpkobkdgcanmjaaGreat
theorem kg(H:Hp):H.put []=H:=by
 obtain⟨o,us⟩:=H
 simp[Hp.put,put]
theorem cY(H:Hp)(A C:List (Nat×aa)):H.put (A++C)=(H.put A).put C:=by
 obtain⟨o,us⟩:=H
 simp only[Hp.put,put,List.foldl_append,Hp.mk.injEq,true_and]
 funext id
 simp only[List.map_append,List.mem_append,eq_iff_iff]
 exact⟨fun h=>by rcases h with h|h|h<;>simp[h],fun h=>by rcases h with(h|h)|h<;>simp[h]⟩
@[simp] theorem a7 (H:Hp) (i:Nat) (x:aa):(H.put [(i,x)]).o=aQ H.o i x:=rfl
@[simp] theorem cZ (H:Hp) (i j:Nat) (x:aa):(H.put [(i,x)]).us j↔(H.us j\/j=i):=by simp[Hp.put]
section
variable {M:Nat->Prop}{φ aj:Place}{H H':Hp}{w w':World}
theorem aC.sV (nV:∀b,bR w b-> ¬ad M φ H b->w'.heap[b]? =w.heap[b]? /\ ¬ad M aj H' b)(QS:cX φ H aj H'){id:Nat}(ho:H'.o id=H.o id)(cN:aj id=φ id)
 (hb:(H.o id).live=true->∀b,dz (φ id)=some b->w'.heap[b]? =w.heap[b]?) (h:aC M φ H w id):aC M aj H' w' id:=by
 unfold aC at*
 rw[ho]
 cases hx:H.o id with
 |no=>trivial
 |row cs=>
  simp only[hx]at h|-
  obtain⟨b,cl,ty,h1,h2,h3,h4⟩:=h
  exact⟨b,cl,ty,cN.trans h1,(hb (by rw[hx];rfl) b (by rw[h1];rfl)).trans h2,V.eg nV QS cs _ h3,h4⟩
 |arr ep ty sz es=>
  simp only[hx]at h|-
  obtain⟨h0,xs,h1,evs,h2,h3,h4⟩:=h
  refine⟨h0,xs, ?_,evs,h2,h3,D.aB nV es evs h4⟩
  rw[cN]
  obtain⟨g1,g2⟩:=h1
  refine⟨g1, ?_⟩
  rcases g2 with g2|⟨g,cap,cur,k1,k2,k3,k4⟩
  ·exact .inl g2
  ·exact .inr ⟨g,cap,cur,k1,k2,(hb (by rw[hx];rfl) g (by rw[k1];rfl)).trans k3,k4⟩
 |lG ep es=>
  simp only[hx]at h|-
  rw[cN]
  exact D.ax nV (.sl es) _ h
 |map kt vt l=>
  simp only[hx]at h|-
  obtain⟨b,es,clock,h1,h2,h4,h3⟩:=h
  exact⟨b,es,clock,cN.trans h1,(hb (by rw[hx];rfl) b (by rw[h1];rfl)).trans h2,h4,aA.mono nV l _ h3⟩
 |ef l=>
  simp only[hx]at h|-
  rw[cN]
  exact D.ax nV (.mp _ _) _ h
 |mJ l last=>
  simp only[hx]at h|-
  obtain⟨b,h1,h2⟩:=h
  exact⟨b,cN.trans h1,h2.mono nV (hb (by rw[hx];rfl) b (by rw[h1];rfl))⟩
 |oq s pos=>
  simp only[hx]at h|-
  obtain⟨b,h1,h2⟩:=h
  exact⟨b,cN.trans h1,(hb (by rw[hx];rfl) b (by rw[h1];rfl)).trans h2⟩
 |loop nf n env ps kA gB st xp=>
  simp only[hx]at h|-
  obtain⟨b,r,h1,h2,h0,h3,h4,h5,h6,h7,h8,h9⟩:=h
  exact⟨b,r,cN.trans h1,(hb (by rw[hx];rfl) b (by rw[h1];rfl)).trans h2,h0,h3,h4,h5,h6,h7,h8,fun i=>V.ig nV QS _ _ (h9 i)⟩
theorem aC.mono (ht:Trans φ H w aj H' w'){id:Nat}(ho:H'.o id=H.o id)(cN:aj id=φ id)
 (hb:(H.o id).live=true->∀b,dz (φ id)=some b->w'.heap[b]? =w.heap[b]?) (h:aC M φ H w id):aC M aj H' w' id:=aC.sV ht.blocks ht.rel ho cN hb h
theorem ai.of (hH:ai M φ H w)(ht:Trans φ H w aj H' w')(T:Nat->Prop)(hT:∀id,T id->aC M aj H' w' id)
 (hn:∀id, ¬T id->H'.o id=H.o id/\aj id=φ id/\((H.o id).live=true->∀b,dz (φ id)=some b->w'.heap[b]? =w.heap[b]?))
 (fW:∀id, ¬H'.us id->H'.o id= .no)
 (Sm:∀i j b,(H'.o i).live=true->(H'.o j).live=true->dz (aj i)=some b->dz (aj j)=some b->i=j)
 (GL:∀b,bw aj H' b->b<w'.heap.size):ai M aj H' w' where
 ok id:=by
  by_cases hc:T id
  ·exact hT id hc
  ·obtain⟨h1,h2,h3⟩:=hn id hc
   exact(hH.ok id).mono ht h1 h2 h3
 fresh:=fW
 apart:=Sm
 ours b hb:=by
  refine⟨fun hM=> ?_,GL b hb⟩
  rcases ht.grow b hb with h1|h1
  ·exact(hH.ours b h1).1 hM
  ·have:=hH.p7 b hM;omega
 p7 b hM:=Nat.lt_of_lt_of_le (hH.p7 b hM) ht.bU.size
theorem dL(hk:dJ (fun _=>False) w w'){fr:Nat}(c0: ¬H.us fr)(obj:aa)(val:Value)(dt:∀b,dz val=some b->w.heap.size<=b):
 Trans φ H w (aQ φ fr val) (H.put [(fr,obj)]) w' where
 bU:=⟨hk.os,hk.tape,hk.output,hk.size,fun k h _=>hk.block k h (fun h=>h)⟩
 grow b:=by
  rintro⟨id,h1,h2⟩
  by_cases ah:id=fr
  ·subst ah;simp at h2;exact .inr (dt b h2)
  ·simp[ah]at h1 h2;exact .inl ⟨id,h1,h2⟩
 rel:={
  us:=fun id h=>by simp[h]
  row:=fun id hu hr=>by
   have ah:id≠fr:=fun h=>c0 (h ▸ hu)
   simp[ah]at hr|-;exact hr
  ep:=fun id e' hu he=>by
   have ah:id≠fr:=fun h=>c0 (h ▸ hu)
   simp[ah]at he|-;exact⟨e',he,Nat.le_refl _⟩}
theorem fX(hH:ai M φ H w)(hk:dJ (fun _=>False) w w'){fr:Nat}(c0: ¬H.us fr)(obj:aa)(val:Value)(dt:∀b,dz val=some b->w.heap.size<=b/\b<w'.heap.size)
 (oA:aC M (aQ φ fr val) (H.put [(fr,obj)]) w' fr):ai M (aQ φ fr val) (H.put [(fr,obj)]) w':=by
 have ht:Trans φ H w (aQ φ fr val) (H.put [(fr,obj)]) w':=dL hk c0 obj val fun b hb=>(dt b hb).1
 refine hH.of ht (· =fr) (fun id h=>h ▸ oA) (fun id h=> ?_) (fun id h=> ?_) (fun i j b hi hj bi bj=> ?_) (fun b=> ?_)
 ·refine⟨by simp[h],by simp[h],fun hl b hb=>hk.block b ?_ (fun h=>h)⟩
  exact(hH.ours b ⟨id,hl,hb⟩).2
 ·rw[cZ]at h
  have h1:id≠fr:=fun e=>h (.inr e)
  simp only[a7,aE,h1,if_false]
  exact hH.fresh id fun hu=>h (.inl hu)
 ·by_cases e1:i=fr<;>by_cases e2:j=fr
  ·exact e1.trans e2.symm
  ·simp[e1,e2]at hi hj bi bj
   have:=(hH.ours b ⟨j,hj,bj⟩).2;have:=(dt b bi).1;omega
  ·simp[e1,e2]at hi hj bi bj
   have:=(hH.ours b ⟨i,hi,bi⟩).2;have:=(dt b bj).1;omega
  ·simp[e1,e2]at hi hj bi bj
   exact hH.apart i j b hi hj bi bj
 ·rintro⟨id,h1,h2⟩
  by_cases ah:id=fr
  ·subst ah;simp at h2;exact(dt b h2).2
  ·simp[ah]at h1 h2
   exact Nat.lt_of_lt_of_le (hH.ours b ⟨id,h1,h2⟩).2 hk.size
theorem ct(w:World)(o:Obj):dJ (fun _=>False) w (w.alloc o):=
 ⟨rfl,rfl,rfl,by simp,fun k hk _=>RowKit.Below.heap_alloc w o k hk⟩
theorem iN{w w':World}(h:w.grownBy w' none):dJ (fun _=>False) w w':=
 ⟨h.os,h.tape,h.output,h.size,fun k hk _=>h.block k hk (by simp)⟩
theorem Bc(hH:ai M φ H w){fr:Nat}(c0: ¬H.us fr)(cs:List V)(cl:Array Value)(ty:TypeId)(hd:V.au (ad M φ H) φ H w cs cl.toList)(hf:Flat cl.toList):
 let aj:=aQ φ fr (.pointer (some ⟨w.heap.size,0,none⟩));let H':=H.put [(fr, .row cs)];let w':=w.alloc (.cells cl ty)
 ai M aj H' w'/\Trans φ H w aj H' w'/\V.den (ad M aj H') aj H' w' (.ptr fr 0) (.pointer (some ⟨w.heap.size,0,none⟩)):=by
 intro aj H' w'
 have hv:∀b,dz (.pointer (some ⟨w.heap.size,0,none⟩))=some b->w.heap.size<=b/\b<w'.heap.size:=by
  intro b hb;simp[dz]at hb;subst hb;simp[w']
 have ht:Trans φ H w aj H' w':=dL (ct w _) c0 _ _ fun b hb=>(hv b hb).1
 refine⟨fX hH (ct w _) c0 _ _ hv ?_,ht,rfl,by simp[H'],fun _=>⟨w.heap.size,by simp[aj],rfl⟩⟩
 unfold aC
 simp only[a7,aE,if_true]
 exact⟨w.heap.size,cl,ty,rfl,heap_alloc_new w _,V.aB ht cs _ hd,hf⟩
theorem eh{id:Nat}(df:H.us id){b:Nat}(bA:(H.o id).live=true)(hb:dz (φ id)=some b)(hk:dJ (· =b) w w')(obj:aa)(a8:obj.bp=(H.o id).bp)(oB:obj.aP=(H.o id).aP):
 Trans φ H w φ (H.put [(id,obj)]) w' where
 bU:=⟨hk.os,hk.tape,hk.output,hk.size,fun k h hl=>hk.block k h (fun e=>hl ⟨id,bA,e ▸ hb⟩)⟩
 grow b':=by
  rintro⟨j,h1,h2⟩
  by_cases hj:j=id
  ·subst hj;exact .inl ⟨j,bA,h2⟩
  ·simp[hj]at h1;exact .inl ⟨j,h1,h2⟩
 rel:={
  us:=fun j h=>by simp[h]
  row:=fun j hu hr=>by
   by_cases hj:j=id
   ·subst hj;simp at hr;exact⟨a8 ▸ hr,rfl⟩
   ·simp[hj]at hr;exact⟨hr,rfl⟩
  ep:=fun j e' hu he=>by
   by_cases hj:j=id
   ·subst hj;simp at he;exact⟨e',oB ▸ he,Nat.le_refl _,fun _=>rfl⟩
   ·simp[hj]at he;exact⟨e',he,Nat.le_refl _,fun _=>rfl⟩}
theorem fL(hH:ai M φ H w){id:Nat}(df:H.us id){b:Nat}(bA:(H.o id).live=true)(hb:dz (φ id)=some b)(hk:dJ (· =b) w w')(obj:aa)(a8:obj.bp=(H.o id).bp)
 (oB:obj.aP=(H.o id).aP) (oA:aC M φ (H.put [(id,obj)]) w' id):ai M φ (H.put [(id,obj)]) w':=by
 refine hH.of (eh df bA hb hk obj a8 oB) (· =id) (fun j h=>h ▸ oA) (fun j h=> ?_) (fun j h=> ?_) (fun i j b' hi hj bi bj=> ?_) (fun b'=> ?_)
 ·refine⟨by simp[h],rfl,fun hl b' sW=>hk.block b' (hH.ours b' ⟨j,hl,sW⟩).2 fun e=>h ?_⟩
  exact hH.apart j id b hl bA (e ▸ sW) hb
 ·rw[cZ]at h
  have h1:j≠id:=fun e=>h (.inr e)
  simp only[a7,aE,h1,if_false]
  exact hH.fresh j fun hu=>h (.inl hu)
 ·refine hH.apart i j b' ?_ ?_ bi bj
  ·by_cases e:i=id
   ·subst e;exact bA
   ·simpa[e]using hi
  ·by_cases e:j=id
   ·subst e;exact bA
   ·simpa[e]using hj
 ·rintro⟨j,h1,h2⟩
  refine Nat.lt_of_lt_of_le (hH.ours b' ⟨j, ?_,h2⟩).2 hk.size
  by_cases e:j=id
  ·subst e;exact bA
  ·simpa[e]using h1
theorem gC(w:World)(b:Nat)(cs:Array Value):dJ (· =b) w (w.setRow b cs):=
 ⟨rfl,rfl,rfl,by simp,fun k _ hk=>by
  unfold World.setRow
  simp only[Array.getElem?_modify]
  rw[if_neg (fun e=>hk e.symm)]⟩
theorem sX(hH:ai M φ H w){id b:Nat}(df:H.us id){cs cs':List V}(ho:H.o id= .row cs)(cN:φ id= .pointer (some ⟨b,0,none⟩)){cl:Array Value}{ty:TypeId}
 (hb:w.heap[b]? =some (.cells cl ty (0,0))) (lM:Array Value) (hd:V.au (ad M φ H) φ H w cs' lM.toList) (hf:Flat lM.toList):
 ai M φ (H.put [(id, .row cs')]) (w.setRow b lM)/\Trans φ H w φ (H.put [(id, .row cs')]) (w.setRow b lM):=by
 have hl:(H.o id).live=true:=by rw[ho];rfl
 have nV:dz (φ id)=some b:=by rw[cN];rfl
 have ht:Trans φ H w φ (H.put [(id, .row cs')]) (w.setRow b lM):=eh df hl nV (gC w b lM) _ (by rw[ho];rfl) (by rw[ho];rfl)
 refine⟨fL hH df hl nV (gC w b lM) _ (by rw[ho];rfl) (by rw[ho];rfl) ?_,ht⟩
 unfold aC
 simp only[a7,aE,if_true]
 exact⟨b,lM,ty,cN,setRow_heap w b cl lM ty (0,0) hb,V.aB ht cs' _ hd,hf⟩
theorem lN{B:Nat->Prop}{sz g:Nat}(cur:Array Value)(ty:TypeId)(fz:Nat×Nat)(hg:w.heap[g]? =some (.cells cur ty fz))(hB: ¬B g):
 ∀ (es:List D) (evs:List Value) (i:Nat),D.au B w es evs->(∀ev∈evs,ev.cells.size=sz)->(∀j u,(evs.flatMap (·.cells.toList))[j]? =some u->cur[i*sz+j]? =some u)->D.elems B w sz ⟨g,0,none⟩ i es
 |[],_,_,_,_,_=>trivial
 |e::es,_,i,h,hs,hc=>by
  obtain⟨ev,evs,rfl,h1,h2⟩:=h
  have du:ev.cells.size=sz:=hs ev (by simp)
  refine⟨⟨ev,du,fun j u hj=> ?_,h1⟩,lN cur ty fz hg hB es evs (i+1) h2 (fun x hx=>hs x (by simp[hx])) fun j u hj=> ?_⟩
  ·have bz:j<ev.cells.size:=(Array.getElem?_eq_some_iff.1 hj).1
   have:cur[i*sz+j]? =some u:=hc j u (by
    rw[List.flatMap_cons,List.getElem?_append_left (by simpa using bz)];simpa using hj)
   refine⟨?_,by simpa using hB⟩
   unfold Addr.add World.cell?
   by_cases e1:i*sz=0<;>by_cases e2:j=0<;>simp_all
  ·have:=hc (sz+j) u (by
    rw[List.flatMap_cons,List.getElem?_append_right (by simp[du])]
    simpa[du]using hj)
   rw[show(i+1)*sz+j=i*sz+(sz+j) by rw[Nat.add_mul];omega]
   exact this
theorem Bd(hH:ai M φ H w){id ep sz:Nat}{ty:TypeId}{es:List D}(df:H.us id)(ho:H.o id= .arr ep ty sz es):
 ai M φ (H.put [(id, .lG ep es)]) w/\Trans φ H w φ (H.put [(id, .lG ep es)]) w:=by
 have DN:∀b,bw φ (H.put [(id, .lG ep es)]) b->bw φ H b:=by
  rintro b ⟨j,h1,h2⟩
  by_cases hj:j=id
  ·subst hj;simp[aa.live]at h1
  ·simp[hj]at h1;exact⟨j,h1,h2⟩
 have ht:Trans φ H w φ (H.put [(id, .lG ep es)]) w:={
  bU:=dJ.refl _ _
  grow:=fun b hb=> .inl (DN b hb)
  rel:={
   us:=fun j h=>by simp[h]
   row:=fun j hu hr=>by
    by_cases hj:j=id
    ·subst hj;simp[aa.bp]at hr
    ·simp[hj]at hr;exact⟨hr,rfl⟩
   ep:=fun j e' hu he=>by
    by_cases hj:j=id
    ·subst hj;simp[aa.aP]at he;subst he;exact⟨ep,by rw[ho];rfl,Nat.le_refl _,fun _=>rfl⟩
    ·simp[hj]at he;exact⟨e',he,Nat.le_refl _,fun _=>rfl⟩}}
 refine⟨hH.of ht (· =id) (fun j h=> ?_) (fun j h=>⟨by simp[h],rfl,fun _ _ _=>rfl⟩) (fun j h=> ?_) (fun i j b hi hj bi bj=> ?_) (fun b hb=>(hH.ours b (DN b hb)).2),ht⟩
 ·subst h
  have ba:=hH.ok j
  unfold aC at ba|-
  simp only[ho,a7,aE,if_true]at ba|-
  obtain⟨h0,xs,⟨hl,a8⟩,evs,rfl,h2,h3⟩:=ba
  have hlen:=D.aq _ _ h3
  rcases a8 with⟨h4,h5⟩|⟨g,cap,cur,h4,_,h5,h6,h7,h8,h9⟩
  ·rw[h4]
   have:es=[]:=by simpa using h5
   subst this
   exact⟨none,0,0,rfl,rfl,Nat.le_refl _,fun _=>rfl,0,fun a ha=>by cases ha⟩
  ·rw[h4]
   refine⟨some ⟨g,0,none⟩,es.length,cap,rfl,rfl,h6,(fun h=>by cases h),sz,fun a ha=> ?_⟩
   injection ha with ha;subst ha
   refine⟨fun _=>rfl,lN cur ty (0,0) h5 ?_ es evs 0 (D.aB (ht.blocks (M:=M)) es evs h3) h2 fun j' u yI=> ?_⟩
   ·rintro(hM|⟨i,Be,yW⟩)
    ·exact(hH.ours g ⟨j,by rw[ho];rfl,by rw[h4];rfl⟩).1 hM
    ·by_cases e:i=j
     ·subst e;simp[aa.live]at Be
     ·simp[e]at Be
      exact e (hH.apart i j g Be (by rw[ho];rfl) yW (by rw[h4];rfl))
   ·rw[<- h9]at yI
    simp only[Nat.zero_mul,Nat.zero_add]
    rw[List.getElem?_take]at yI
    split at yI
    ·simpa using yI
    ·cases yI
 ·rw[cZ]at h
  have h1:j≠id:=fun e=>h (.inr e)
  simp only[a7,aE,h1,if_false]
  exact hH.fresh j fun hu=>h (.inl hu)
 ·by_cases e1:i=id
  ·subst e1;simp[aa.live]at hi
  ·by_cases e2:j=id
   ·subst e2;simp[aa.live]at hj
   ·simp[e1,e2]at hi hj;exact hH.apart i j b hi hj bi bj
theorem wc(hH:ai M φ H w){id:Nat}{kt vt:TypeId}{l:List (D×D)}(df:H.us id)(ho:H.o id= .map kt vt l):
 ai M φ (H.put [(id, .ef l)]) w/\Trans φ H w φ (H.put [(id, .ef l)]) w:=by
 have DN:∀b,bw φ (H.put [(id, .ef l)]) b->bw φ H b:=by
  rintro b ⟨j,h1,h2⟩
  by_cases hj:j=id
  ·subst hj;simp[aa.live]at h1
  ·simp[hj]at h1;exact⟨j,h1,h2⟩
 have ht:Trans φ H w φ (H.put [(id, .ef l)]) w:={
  bU:=dJ.refl _ _
  grow:=fun b hb=> .inl (DN b hb)
  rel:={
   us:=fun j h=>by simp[h]
   row:=fun j hu hr=>by
    by_cases hj:j=id
    ·subst hj;exact⟨by rw[ho];rfl,rfl⟩
    ·simp[hj]at hr;exact⟨hr,rfl⟩
   ep:=fun j e' hu he=>by
    by_cases hj:j=id
    ·subst hj;simp[aa.aP]at he
    ·simp[hj]at he;exact⟨e',he,Nat.le_refl _,fun _=>rfl⟩}}
 refine⟨hH.of ht (· =id) (fun j h=> ?_) (fun j h=>⟨by simp[h],rfl,fun _ _ _=>rfl⟩) (fun j h=> ?_) (fun i j b hi hj bi bj=> ?_) (fun b hb=>(hH.ours b (DN b hb)).2),ht⟩
 ·subst h
  have ba:=hH.ok j
  unfold aC at ba|-
  simp only[ho,a7,aE,if_true]at ba|-
  obtain⟨b,es,clock,h1,h2,h3,h4⟩:=ba
  obtain⟨h5,h6⟩:=(hZ _ _).1 h4
  refine⟨b,es,clock,es.toList,h1,h2, ?_,h3, .inl rfl,D.aB (ht.blocks (M:=M)) _ _ h5,D.aB (ht.blocks (M:=M)) _ _ h6⟩
  rintro(hM|⟨i,Be,yW⟩)
  ·exact(hH.ours b ⟨j,by rw[ho];rfl,by rw[h1];rfl⟩).1 hM
  ·by_cases e:i=j
   ·subst e;simp[aa.live]at Be
   ·simp[e]at Be
    exact e (hH.apart i j b Be (by rw[ho];rfl) yW (by rw[h1];rfl))
 ·rw[cZ]at h
  have h1:j≠id:=fun e=>h (.inr e)
  simp only[a7,aE,h1,if_false]
  exact hH.fresh j fun hu=>h (.inl hu)
 ·by_cases e1:i=id
  ·subst e1;simp[aa.live]at hi
  ·by_cases e2:j=id
   ·subst e2;simp[aa.live]at hj
   ·simp[e1,e2]at hi hj;exact hH.apart i j b hi hj bi bj
end
end Go.Proofs.YtpkobkdgcanmjaaGreat
