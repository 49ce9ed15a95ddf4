/-
  A PART OF THE PROOF. Conditions: none.
-/
import Derived.WalkKit
import Derived.Below
set_option linter.unusedSimpArgs false
set_option linter.unusedVariables false
namespace Go.Proofs.YtealblliddhgiaaGreat
def dstAt (ops : Array Oper) (j : Nat) : Option Tmp := (ops[j]?).bind (·.dst)
structure IOp where
 dst : Option Nat
 op : Op
 gd : Option (Nat × Bool) := none
instance : Inhabited IOp := ⟨⟨none, .ready 0, none⟩⟩
def dstOkB (n : Nat) : Option Tmp -> Bool
 | some d => decide (d < n)
 | none => true
def lowO (n : Nat) (ops : Array Oper) (o : Oper) : Option IOp :=
 if dstOkB n o.dst = true then match o.guard with
  | none => some ⟨o.dst, o.op, none⟩
  | some (j, want) => match dstAt ops j with
    | some d => some ⟨o.dst, o.op, some (d, want)⟩
    | none => none
 else none
def lowL (n : Nat) (ops : Array Oper) : List Oper -> Option (List IOp)
 | [] => some []
 | o :: l => match lowO n ops o, lowL n ops l with
   | some x, some xs => some (x :: xs)
   | _, _ => none
def tmpsOf (o : IOp) : List Nat := (o.op.operands.toList.filterMap fun | .tmp t => some t | _ => none) ++ (match o.gd with | some (d, _) => [d] | none => [])
def touches (o : IOp) : List Nat := tmpsOf o ++ o.dst.toList
def predsOf (ops : Array Oper) (i : Nat) : List Nat := match ops[i]? with | some o => (o.after.toList.filter (Region.binds .any)).map (·.on) | none => []
def ocOf (l : List IOp) (i : Nat) : IOp := l.getD i default
inductive IC where
 | skip | reg (l : List IOp) | drw (l : List IOp) (pr : List (List Nat)) | seq (a b : IC) | cond (c : Operand) (a b : IC) | block (id : Nat) (a : IC) | loop (a : IC) | exit (id : Nat) | ret | bad
 | rng (g : Operand) (ps : List Nat) (a b : IC)
 deriving Inhabited
inductive Jmp where
 | ret | exit (id : Nat)
def Jmp.code : Jmp -> Code
 | .ret => .ret
 | .exit id => .exit id
def maskOf (acc : List Nat) : List Nat -> Nat
 | [] => 0
 | j :: ps => (2 ^ j ||| acc.getD j 0) ||| maskOf acc ps
def masks : List (List Nat) -> List Nat -> List Nat
 | [], acc => acc
 | ps :: l, acc => masks l (acc ++ [maskOf acc ps])
def freeOf (x y : IOp) : Bool := match x.dst with | some d => !(touches y).contains d | none => true
def tmpsOkB (l : List IOp) (pr : List (List Nat)) : Bool :=
 (List.range l.length).all fun j => (List.range j).all fun i => ((masks pr []).getD j 0).testBit i || (freeOf (ocOf l i) (ocOf l j) && freeOf (ocOf l j) (ocOf l i))
def disj (xs ys : List Nat) : Bool := xs.all fun x => !ys.contains x
def objsOk (pr : List (List Nat)) (fp : List (List Nat × List Nat)) : Bool :=
 (List.range fp.length).all fun j => (List.range j).all fun i => ((masks pr []).getD j 0).testBit i ||
  (disj (fp.getD i ([], [])).2 (fp.getD j ([], [])).1 && disj (fp.getD i ([], [])).2 (fp.getD j ([], [])).2 && disj (fp.getD j ([], [])).2 (fp.getD i ([], [])).1)
def prOf (ops : Array Oper) : List (List Nat) := (List.range ops.size).map (predsOf ops)
def prOk (pr : List (List Nat)) : Bool := (List.range pr.length).all fun k => (pr.getD k []).all fun j => decide (j < k)
theorem maskOf_bit {acc : List Nat} {i : Nat} : ∀ (ps : List Nat), (maskOf acc ps).testBit i = true -> ∃ j ∈ ps, i = j \/ (acc.getD j 0).testBit i = true
 | [], h => by simp [maskOf] at h
 | j :: ps, h => by
   simp only [maskOf, Nat.testBit_or, Bool.or_eq_true] at h
   rcases h with (h | h) | h
   ·rw [Nat.testBit_two_pow] at h
    exact ⟨j, by simp, .inl (by have h := of_decide_eq_true h; exact h.symm)⟩
   ·exact ⟨j, by simp, .inr h⟩
   ·obtain ⟨j', h1, h2⟩ := maskOf_bit ps h
    exact ⟨j', by simp [h1], h2⟩
theorem masks_old {k : Nat} : ∀ (l : List (List Nat)) (acc : List Nat), k < acc.length -> (masks l acc).getD k 0 = acc.getD k 0
 | [], _, _ => rfl
 | ps :: l, acc, h => by
   rw [masks, masks_old l _ (by simp; omega)]
   simp [List.getD_eq_getElem?_getD, List.getElem?_append_left h]
theorem masks_bit {i : Nat} : ∀ (l : List (List Nat)) (acc : List Nat) (k : Nat), acc.length <= k -> (∀ k', k' < l.length -> ∀ j ∈ l.getD k' [], j < acc.length + k') -> ((masks l acc).getD k 0).testBit i = true ->
 ∃ j ∈ l.getD (k - acc.length) [], i = j \/ ((masks l acc).getD j 0).testBit i = true
 | [], acc, k, hk, _, h => by
   simp only [masks] at h
   rw [List.getD_eq_getElem?_getD, List.getElem?_eq_none hk] at h
   simp at h
 | ps :: l, acc, k, hk, hp, h => by
   simp only [masks] at h ⊢
   by_cases he : k = acc.length
   ·subst he
    rw [masks_old l _ (by simp)] at h
    have e : (acc ++ [maskOf acc ps]).getD acc.length 0 = maskOf acc ps := by simp [List.getD_eq_getElem?_getD]
    rw [e] at h
    obtain ⟨j, h1, h2⟩ := maskOf_bit ps h
    refine ⟨j, by simpa using h1, h2.imp id fun h2 => ?_⟩
    have hj : j < acc.length := by simpa using hp 0 (by simp) j (by simpa using h1)
    rw [masks_old l _ (by simp; omega)]
    simpa [List.getD_eq_getElem?_getD, List.getElem?_append_left hj] using h2
   ·obtain ⟨j, h1, h2⟩ := masks_bit l (acc ++ [maskOf acc ps]) k (by simp; omega) (fun k' hk' j hj => by
     have := hp (k' + 1) (by simp; omega) j (by simpa using hj)
     simp; omega) h
    refine ⟨j, ?_, h2⟩
    have e : k - acc.length = (k - (acc ++ [maskOf acc ps]).length) + 1 := by simp; omega
    rw [e]; simpa using h1
theorem masks_closed {pr : List (List Nat)} (hp : ∀ k, k < pr.length -> ∀ j ∈ pr.getD k [], j < k) {E : Nat -> Bool} (hE : ∀ k, k < pr.length -> E k = true -> ∀ j ∈ pr.getD k [], E j = true) :
 ∀ k, k < pr.length -> (∀ j ∈ pr.getD k [], E j = true) -> ∀ i, ((masks pr []).getD k 0).testBit i = true -> E i = true := by
 intro k
 induction k using Nat.strongRecOn with
 | ind k ih =>
   intro hk hj i hi
   obtain ⟨j, h1, h2⟩ := masks_bit pr [] k (by simp) (fun k' hk' j hj => by simpa using hp k' hk' j hj) hi
   simp only [List.length_nil, Nat.sub_zero] at h1
   rcases h2 with rfl | h2
   ·exact hj _ h1
   ·have hjk := hp k hk j h1
    exact ih j hjk (by omega) (hE j (by omega) (hj j h1)) i h2
theorem masks_lt {pr : List (List Nat)} (hp : ∀ k, k < pr.length -> ∀ j ∈ pr.getD k [], j < k) : ∀ k, k < pr.length -> ∀ i, ((masks pr []).getD k 0).testBit i = true -> i < k := by
 intro k
 induction k using Nat.strongRecOn with
 | ind k ih =>
   intro hk i hi
   obtain ⟨j, h1, h2⟩ := masks_bit pr [] k (by simp) (fun k' hk' j hj => by simpa using hp k' hk' j hj) hi
   simp only [List.length_nil, Nat.sub_zero] at h1
   have hjk := hp k hk j h1
   rcases h2 with rfl | h2
   ·exact hjk
   ·have := ih j hjk (by omega) i h2; omega
def low (n : Nat) : Code -> IC
 | .skip => .skip
 | .label _ => .skip
 | .scope c => low n c
 | .region _ ops false => match lowL n ops ops.toList with
   | some l => .reg l
   | none => .bad
 | .region _ ops true => match lowL n ops ops.toList with
   | some l => if tmpsOkB l (prOf ops) && prOk (prOf ops) then .drw l (prOf ops) else .bad
   | none => .bad
 | .seq a b => .seq (low n a) (low n b)
 | .cond c a b => .cond c (low n a) (low n b)
 | .block id a => .block id (low n a)
 | .loop a => .loop (low n a)
 | .exit id => .exit id
 | .ret => .ret
 | .rangeFunc g ps a b => .rng g ps.toList (low n a) (low n b)
 | _ => .bad
end Go.Proofs.YtealblliddhgiaaGreat
namespace Go.Proofs.YtealblliddhgiaaGreat
inductive D where
 | int (k : IntKind) (n : Int) | bool (b : Bool) | str (s : List UInt8)
 | nili | nilp | nilf | nilm
 | agg (cs : List D) | sl (es : List D) | iface (t : TypeId) (d : D)
 | mp (ks vs : List D)
 deriving Inhabited
def Flat (vs : List Value) : Prop := ∀ u ∈ vs, u.oneCell' = true
def CellsAt (B : Nat -> Prop) (w : World) (a : Addr) (cs : Array Value) : Prop := ∀ j u, cs[j]? = some u -> w.cell? (a.add j) = some u /\ ¬ B a.block
def MapOk (es : Array MapEntry) (clock : Nat) : Prop := (∀ e ∈ es.toList, e.born < clock) /\ (es.toList.map (·.born)).Nodup
def IntKeys (ks : List D) : Prop := ks.Nodup /\ ∀ k ∈ ks, ∃ n, k = .int .i64 n
mutual
def D.den (B : Nat -> Prop) (w : World) : D -> Value -> Prop
 | .int k n, v => v = .int k n
 | .bool b, v => v = .bool b
 | .str l, v => ∃ s : ByteArray, v = .string s /\ s.data.toList = l
 | .nili, v => v = .nilIface
 | .nilp, v => v = .pointer none
 | .nilf, v => v = .nilFunc
 | .nilm, v => v = .map none
 | .agg cs, v => ∃ a, v = .agg a /\ D.dens B w cs a.toList /\ Flat a.toList
 | .sl es, v => ∃ base len cap, v = .slice base len cap /\ len = es.length /\ len <= cap /\ (base = none -> cap = 0) /\
  ∃ sz, ∀ a, base = some a -> (cap ≠ 0 -> a.spot = none) /\ D.elems B w sz a 0 es
 | .iface t d, v => ∃ u, v = .iface t u /\ D.den B w d u
 | .mp ks vs, v => ∃ m es clock p, v = .map (some m) /\ w.heap[m]? = some (.map es clock) /\ ¬ B m /\ MapOk es clock /\ (p = es.toList \/ (p.Perm es.toList /\ IntKeys ks)) /\ D.dens B w ks (p.map (·.key)) /\ D.dens B w vs (p.map (·.val))
def D.dens (B : Nat -> Prop) (w : World) : List D -> List Value -> Prop
 | [], vs => vs = []
 | d :: ds, vs => ∃ u us, vs = u :: us /\ D.den B w d u /\ D.dens B w ds us
def D.elems (B : Nat -> Prop) (w : World) (sz : Nat) (a : Addr) : Nat -> List D -> Prop
 | _, [] => True
 | i, e :: es => (∃ ev : Value, ev.cells.size = sz /\ CellsAt B w (a.add (i * sz)) ev.cells /\ D.den B w e ev) /\ D.elems B w sz a (i + 1) es
end
inductive V where
 | d (x : D) | nils | agg (cs : List V) | tup (vs : List V)
 | ptr (id off : Nat) | osl (id ep : Nat) | pe (id ep i sz off : Nat) | pp (cs : List D) (off : Nat)
 | func (fn : Fn) (first cap : List V) | iface (t : TypeId) (x : V)
 | junk
 | csl (es : List D) | rsl (id off n : Nat) | mp (id : Nat) | anyb | yld (id : Nat)
 deriving Inhabited
inductive Obj' where
 | no | row (cs : List V) | arr (ep : Nat) (ty : TypeId) (sz : Nat) (es : List D) | fro (ep : Nat) (es : List D)
 | map (kt vt : TypeId) (es : List (D × D))
 | loop (nf n : Nat) (env : List V) (ps : List Nat) (a b : IC) (st : LoopState) (pend : Option Jmp)
 | mfro (es : List (D × D)) | mit (es : List (D × D)) (last : Option (D × D)) | sit (s : List UInt8) (pos : Nat)
 deriving Inhabited
def envJ (l : List V) : Nat -> V := fun i => l.getD i .junk
structure Hp where
 o : Nat -> Obj'
 us : Nat -> Prop
def Obj'.epoch : Obj' -> Option Nat
 | .arr ep _ _ _ | .fro ep _ => some ep
 | _ => none
def Obj'.isRow : Obj' -> Bool
 | .row _ | .map .. | .loop .. | .mfro _ | .mit .. | .sit .. => true
 | _ => false
def Obj'.live : Obj' -> Bool
 | .row _ | .arr .. | .map .. | .loop .. | .mit .. | .sit .. => true
 | _ => false
def blk : Value -> Option Nat
 | .pointer (some a) | .slice (some a) _ _ => some a.block
 | .map (some b) => some b
 | _ => none
abbrev Place := Nat -> Value
def liveB (φ : Place) (H : Hp) (b : Nat) : Prop := ∃ id, (H.o id).live = true /\ blk (φ id) = some b
def mutB (M : Nat -> Prop) (φ : Place) (H : Hp) (b : Nat) : Prop := M b \/ liveB φ H b
mutual
def V.den (B : Nat -> Prop) (φ : Place) (H : Hp) (w : World) : V -> Value -> Prop
 | .d x, v => D.den B w x v
 | .nils, v => v = .slice none 0 0
 | .agg cs, v => ∃ a, v = .agg a /\ V.dens B φ H w cs a.toList /\ Flat a.toList
 | .tup vs, v => ∃ a, v = .tuple a /\ V.dens B φ H w vs a.toList
 | .ptr id off, v => v.oneCell' = true /\ H.us id /\ ((H.o id).isRow = true -> ∃ b, φ id = .pointer (some ⟨b, 0, none⟩) /\ v = .pointer (some ⟨b, off, none⟩))
 | .osl id ep, v => v.oneCell' = true /\ H.us id /\ ∀ e, (H.o id).epoch = some e -> ep <= e /\ (ep = e -> v = φ id)
 | .pe id ep i sz off, v => v.oneCell' = true /\ H.us id /\ ∀ e, (H.o id).epoch = some e -> ep <= e /\ (ep = e -> ∃ b n c, φ id = .slice (some ⟨b, 0, none⟩) n c /\ v = .pointer (some ⟨b, i * sz + off, none⟩))
 | .pp cs off, v => ∃ a ev, a.spot = none /\ v = .pointer (some (a.add off)) /\ D.dens B w cs ev /\ Flat ev /\ CellsAt B w a ev.toArray
 | .func fn first cap, v => ∃ f c, v = .func fn f c /\ V.dens B φ H w first f.toList /\ V.dens B φ H w cap c.toList
 | .iface t x, v => ∃ u, v = .iface t u /\ V.den B φ H w x u
 | .junk, _ => True
 | .csl es, v => D.den B w (.sl es) v /\ ∃ base n, v = .slice base n n
 | .rsl id off n, v => v.oneCell' = true /\ H.us id /\ ((H.o id).isRow = true -> ∃ b, φ id = .pointer (some ⟨b, 0, none⟩) /\ v = .slice (some ⟨b, off, none⟩) n n)
 | .mp id, v => v.oneCell' = true /\ H.us id /\ ((H.o id).isRow = true -> v = φ id)
 | .anyb, v => ∃ b, v = .bool b
 | .yld id, v => v.oneCell' = true /\ H.us id /\ ((H.o id).isRow = true -> ∃ b, φ id = .pointer (some ⟨b, 0, none⟩) /\ v = .func (.yield b) #[] #[])
def V.dens (B : Nat -> Prop) (φ : Place) (H : Hp) (w : World) : List V -> List Value -> Prop
 | [], vs => vs = []
 | x :: xs, vs => ∃ u us, vs = u :: us /\ V.den B φ H w x u /\ V.dens B φ H w xs us
end
def RowDen (B : Nat -> Prop) (w : World) (sz : Nat) (es : List D) (xs : List Value) : Prop :=
 ∃ evs : List Value, xs = evs.flatMap (·.cells.toList) /\ (∀ ev ∈ evs, ev.cells.size = sz) /\ D.dens B w es evs
def EntsDen (B : Nat -> Prop) (w : World) : List (D × D) -> List MapEntry -> Prop
 | [], es => es = []
 | (k, x) :: l, es => ∃ e es', es = e :: es' /\ D.den B w k e.key /\ D.den B w x e.val /\ EntsDen B w l es'
def IterOk (B : Nat -> Prop) (w : World) (l : List (D × D)) (last : Option (D × D)) (b : Nat) : Prop :=
 w.heap[b]? = some (.mapIter none 0 #[] 0) /\ l = [] /\ last = none \/
 ∃ m since seen es, w.heap[b]? = some (.mapIter (some m) since seen since) /\ w.heap[m]? = some (.map es since) /\ ¬ B m /\ MapOk es since /\ (∃ l', l'.Perm l /\ EntsDen B w l' (es.toList.filter fun e => !seen.contains e.born)) /\
  ∀ k x, last = some (k, x) -> ∃ e ∈ es.toList, seen.back? = some e.born /\ D.den B w k e.key /\ D.den B w x e.val
def ObjOk (M : Nat -> Prop) (φ : Place) (H : Hp) (w : World) (id : Nat) : Prop :=
 match H.o id with
 | .no => True
 | .row cs => ∃ b carr ty, φ id = .pointer (some ⟨b, 0, none⟩) /\ w.heap[b]? = some (.cells carr ty (0, 0)) /\ V.dens (mutB M φ H) φ H w cs carr.toList /\ Flat carr.toList
 | .arr _ ty sz es => 0 < sz /\ ∃ xs, w.ownsRow 0 ty sz (φ id) es.length xs /\ RowDen (mutB M φ H) w sz es xs
 | .fro _ es => D.den (mutB M φ H) w (.sl es) (φ id)
 | .loop nf n env ps ica icb st pend => ∃ b r, φ id = .pointer (some ⟨b, 0, none⟩) /\ w.heap[b]? = some (.loop r) /\ r.fn < nf /\ r.state = st /\ r.pending = pend.map Jmp.code /\ r.params.toList = ps /\ r.tmps.size = n /\ low n r.assign = ica /\ low n r.body = icb /\
  ∀ i, V.den (mutB M φ H) φ H w (envJ env i) (r.tmps.getD i undef)
 | .map _ _ l => ∃ b es clock, φ id = .map (some b) /\ w.heap[b]? = some (.map es clock) /\ MapOk es clock /\ EntsDen (mutB M φ H) w l es.toList
 | .mfro l => D.den (mutB M φ H) w (.mp (l.map (·.1)) (l.map (·.2))) (φ id)
 | .mit l last => ∃ b, φ id = .pointer (some ⟨b, 0, none⟩) /\ IterOk (mutB M φ H) w l last b
 | .sit s pos => ∃ b, φ id = .pointer (some ⟨b, 0, none⟩) /\ w.heap[b]? = some (.stringIter ⟨⟨s⟩⟩ pos)
structure HeapOk (M : Nat -> Prop) (φ : Place) (H : Hp) (w : World) : Prop where
 ok : ∀ id, ObjOk M φ H w id
 fresh : ∀ id, ¬ H.us id -> H.o id = .no
 apart : ∀ i j b, (H.o i).live = true -> (H.o j).live = true -> blk (φ i) = some b -> blk (φ j) = some b -> i = j
 ours : ∀ b, liveB φ H b -> ¬ M b /\ b < w.heap.size
 old : ∀ b, M b -> b < w.heap.size
structure Keep (m : Nat -> Prop) (w w' : World) : Prop where
 os : w'.os = w.os
 tape : w'.tape = w.tape
 output : w'.output = w.output
 size : w.heap.size <= w'.heap.size
 block : ∀ k, k < w.heap.size -> ¬ m k -> w'.heap[k]? = w.heap[k]?
structure StepRel (φ : Place) (H : Hp) (φ' : Place) (H' : Hp) : Prop where
 us : ∀ id, H.us id -> H'.us id
 row : ∀ id, H.us id -> (H'.o id).isRow = true -> (H.o id).isRow = true /\ φ' id = φ id
 ep : ∀ id e', H.us id -> (H'.o id).epoch = some e' -> ∃ e, (H.o id).epoch = some e /\ e <= e' /\ (e = e' -> φ' id = φ id)
structure Trans (φ : Place) (H : Hp) (w : World) (φ' : Place) (H' : Hp) (w' : World) : Prop where
 keep : Keep (liveB φ H) w w'
 grow : ∀ b, liveB φ' H' b -> liveB φ H b \/ w.heap.size <= b
 rel : StepRel φ H φ' H'
theorem Keep.refl (m : Nat -> Prop) (w : World) : Keep m w w := ⟨rfl, rfl, rfl, Nat.le_refl _, fun _ _ _ => rfl⟩
theorem StepRel.refl (φ : Place) (H : Hp) : StepRel φ H φ H := ⟨fun _ h => h, fun _ _ h => ⟨h, rfl⟩, fun _ e' _ h => ⟨e', h, Nat.le_refl _, fun _ => rfl⟩⟩
theorem Trans.refl (φ : Place) (H : Hp) (w : World) : Trans φ H w φ H w := ⟨Keep.refl _ _, fun _ h => .inl h, StepRel.refl _ _⟩
theorem StepRel.trans {φ φ' φ'' : Place} {H H' H'' : Hp} (h : StepRel φ H φ' H') (k : StepRel φ' H' φ'' H'') : StepRel φ H φ'' H'' where
 us id hid := k.us id (h.us id hid)
 row id hid hr := by
  obtain ⟨a, b⟩ := k.row id (h.us id hid) hr
  obtain ⟨c, d⟩ := h.row id hid a
  exact ⟨c, b.trans d⟩
 ep id e' hid he := by
  obtain ⟨e, h1, h2, h3⟩ := k.ep id e' (h.us id hid) he
  obtain ⟨e0, g1, g2, g3⟩ := h.ep id e hid h1
  refine ⟨e0, g1, Nat.le_trans g2 h2, fun heq => ?_⟩
  have a : e0 = e := by omega
  have b : e = e' := by omega
  exact (h3 b).trans (g3 a)
theorem Trans.trans {φ φ' φ'' : Place} {H H' H'' : Hp} {w w' w'' : World} (h : Trans φ H w φ' H' w') (k : Trans φ' H' w' φ'' H'' w'') : Trans φ H w φ'' H'' w'' where
 keep := {
  os := k.keep.os.trans h.keep.os
  tape := k.keep.tape.trans h.keep.tape
  output := k.keep.output.trans h.keep.output
  size := Nat.le_trans h.keep.size k.keep.size
  block := fun b hb hm => by
   rw [k.keep.block b (Nat.lt_of_lt_of_le hb h.keep.size) (fun hl => by
    rcases h.grow b hl with h1 | h1
    ·exact hm h1
    ·omega), h.keep.block b hb hm] }
 grow b hl := by
  rcases k.grow b hl with h1 | h1
  ·exact h.grow b h1
  ·exact .inr (Nat.le_trans h.keep.size h1)
 rel := h.rel.trans k.rel
@[simp] theorem add_block (a : Addr) (j : Nat) : (a.add j).block = a.block := by unfold Addr.add; split <;> rfl
def Celly (w : World) (b : Nat) : Prop := ∃ cs ty fz, w.heap[b]? = some (.cells cs ty fz)
def Cellish (w : World) (b : Nat) : Prop := Celly w b \/ ∃ es clock, w.heap[b]? = some (.map es clock)
theorem Cellish.lt {w : World} {b : Nat} (h : Cellish w b) : b < w.heap.size := by
 rcases Nat.lt_or_ge b w.heap.size with hl | hl
 ·exact hl
 ·rcases h with ⟨cs, ty, fz, h⟩ | ⟨es, clock, h⟩
  ·rw [Array.getElem?_eq_none hl] at h; cases h
  ·rw [Array.getElem?_eq_none hl] at h; cases h
theorem celly_of_cell {w : World} {a : Addr} {u : Value} (h : w.cell? a = some u) : Celly w a.block := by
 unfold World.cell? at h
 split at h
 ·exact ⟨_, _, _, by assumption⟩
 ·cases h
theorem cellish_of_cell {w : World} {a : Addr} {u : Value} (h : w.cell? a = some u) : Cellish w a.block := .inl (celly_of_cell h)
theorem CellsAt.mono {B B' : Nat -> Prop} {w w' : World} {a : Addr} {cs : Array Value}
 (hb : ∀ b, Cellish w b -> ¬ B b -> w'.heap[b]? = w.heap[b]? /\ ¬ B' b) (h : CellsAt B w a cs) : CellsAt B' w' a cs := by
 intro j u hj
 obtain ⟨h1, h2⟩ := h j u hj
 have hlt : Cellish w a.block := by simpa using cellish_of_cell h1
 obtain ⟨h3, h4⟩ := hb _ hlt h2
 exact ⟨by rw [World.cell?_of_block (w := w) (w' := w') (a := a.add j) (by simpa using h3)]; exact h1, h4⟩
mutual
theorem D.den_mono {B B' : Nat -> Prop} {w w' : World} (hb : ∀ b, Cellish w b -> ¬ B b -> w'.heap[b]? = w.heap[b]? /\ ¬ B' b) :
 ∀ (x : D) (v : Value), D.den B w x v -> D.den B' w' x v
 | .int _ _, _, h | .bool _, _, h | .str _, _, h | .nili, _, h | .nilp, _, h | .nilf, _, h | .nilm, _, h => by simpa [D.den] using h
 | .agg cs, _, h => by
   obtain ⟨a, rfl, h, hf⟩ := h
   exact ⟨a, rfl, D.dens_mono hb cs _ h, hf⟩
 | .sl es, _, h => by
   obtain ⟨base, len, cap, rfl, h1, h2, h3, sz, h4⟩ := h
   exact ⟨base, len, cap, rfl, h1, h2, h3, sz, fun a ha => ⟨(h4 a ha).1, D.elems_mono hb sz a es 0 (h4 a ha).2⟩⟩
 | .iface t d, _, h => by
   obtain ⟨u, rfl, h⟩ := h
   exact ⟨u, rfl, D.den_mono hb d u h⟩
 | .mp ks vs, _, h => by
   obtain ⟨m, es, clock, p, rfl, h1, h2, h3, hp, h4, h5⟩ := h
   obtain ⟨k1, k2⟩ := hb m (.inr ⟨es, clock, h1⟩) h2
   exact ⟨m, es, clock, p, rfl, k1.trans h1, k2, h3, hp, D.dens_mono hb ks _ h4, D.dens_mono hb vs _ h5⟩
theorem D.dens_mono {B B' : Nat -> Prop} {w w' : World} (hb : ∀ b, Cellish w b -> ¬ B b -> w'.heap[b]? = w.heap[b]? /\ ¬ B' b) :
 ∀ (ds : List D) (vs : List Value), D.dens B w ds vs -> D.dens B' w' ds vs
 | [], _, h => h
 | d :: ds, _, h => by
   obtain ⟨u, us, rfl, h1, h2⟩ := h
   exact ⟨u, us, rfl, D.den_mono hb d u h1, D.dens_mono hb ds us h2⟩
theorem D.elems_mono {B B' : Nat -> Prop} {w w' : World} (hb : ∀ b, Cellish w b -> ¬ B b -> w'.heap[b]? = w.heap[b]? /\ ¬ B' b) (sz : Nat) (a : Addr) :
 ∀ (es : List D) (i : Nat), D.elems B w sz a i es -> D.elems B' w' sz a i es
 | [], _, _ => trivial
 | e :: es, i, h => by
   obtain ⟨⟨ev, h1, h2, h3⟩, h4⟩ := h
   exact ⟨⟨ev, h1, h2.mono hb, D.den_mono hb e ev h3⟩, D.elems_mono hb sz a es (i + 1) h4⟩
end
theorem EntsDen.mono {B B' : Nat -> Prop} {w w' : World} (hb : ∀ b, Cellish w b -> ¬ B b -> w'.heap[b]? = w.heap[b]? /\ ¬ B' b) :
 ∀ (l : List (D × D)) (es : List MapEntry), EntsDen B w l es -> EntsDen B' w' l es
 | [], _, h => h
 | (k, x) :: l, _, h => by
   obtain ⟨e, es, rfl, h1, h2, h3⟩ := h
   exact ⟨e, es, rfl, D.den_mono hb k _ h1, D.den_mono hb x _ h2, EntsDen.mono hb l es h3⟩
theorem IterOk.mono {B B' : Nat -> Prop} {w w' : World} (hb : ∀ b, Cellish w b -> ¬ B b -> w'.heap[b]? = w.heap[b]? /\ ¬ B' b) {l : List (D × D)} {last : Option (D × D)} {b : Nat} (hbb : w'.heap[b]? = w.heap[b]?) (h : IterOk B w l last b) : IterOk B' w' l last b := by
 rcases h with ⟨h1, h2⟩ | ⟨m, since, seen, es, h1, h2, h3, h4, h5, h6⟩
 ·exact .inl ⟨hbb.trans h1, h2⟩
 ·obtain ⟨k1, k2⟩ := hb m (.inr ⟨es, since, h2⟩) h3
  obtain ⟨l', h5, h5'⟩ := h5
  refine .inr ⟨m, since, seen, es, hbb.trans h1, k1.trans h2, k2, h4, ⟨l', h5, EntsDen.mono hb l' _ h5'⟩, fun k x e => ?_⟩
  obtain ⟨e, g1, g2, g3, g4⟩ := h6 k x e
  exact ⟨e, g1, g2, D.den_mono hb k _ g3, D.den_mono hb x _ g4⟩
theorem ents_dens {B : Nat -> Prop} {w : World} : ∀ (l : List (D × D)) (es : List MapEntry), EntsDen B w l es ↔ D.dens B w (l.map (·.1)) (es.map (·.key)) /\ D.dens B w (l.map (·.2)) (es.map (·.val))
 | [], es => by
   simp only [EntsDen, List.map_nil, D.dens]
   constructor
   ·rintro rfl; exact ⟨rfl, rfl⟩
   ·rintro ⟨h, _⟩; simpa using h
 | (k, x) :: l, es => by
   simp only [EntsDen, List.map_cons, D.dens]
   constructor
   ·rintro ⟨e, es', rfl, h1, h2, h3⟩
    obtain ⟨g1, g2⟩ := (ents_dens l es').1 h3
    exact ⟨⟨_, _, rfl, h1, g1⟩, ⟨_, _, rfl, h2, g2⟩⟩
   ·rintro ⟨⟨u, us, h1, h2, h3⟩, ⟨v, vs, h4, h5, h6⟩⟩
    cases es with
    | nil => simp at h1
    | cons e es' =>
      simp only [List.map_cons, List.cons.injEq] at h1 h4
      obtain ⟨rfl, rfl⟩ := h1
      obtain ⟨rfl, rfl⟩ := h4
      exact ⟨e, es', rfl, h2, h5, (ents_dens l es').2 ⟨h3, h6⟩⟩
theorem D.dens_length {B : Nat -> Prop} {w : World} : ∀ (ds : List D) (vs : List Value), D.dens B w ds vs -> vs.length = ds.length
 | [], _, h => by simp [D.dens] at h; simp [h]
 | d :: ds, _, h => by obtain ⟨u, us, rfl, _, h2⟩ := h; simp [D.dens_length ds us h2]
theorem D.dens_get {B : Nat -> Prop} {w : World} : ∀ (ds : List D) (vs : List Value) (i : Nat) (d : D), D.dens B w ds vs -> ds[i]? = some d -> ∃ v, vs[i]? = some v /\ D.den B w d v
 | [], _, _, _, _, hd => by simp at hd
 | d :: ds, _, 0, x, h, hd => by
   obtain ⟨u, us, rfl, h1, _⟩ := h
   simp at hd; subst hd; exact ⟨u, by simp, h1⟩
 | d :: ds, _, i + 1, x, h, hd => by
   obtain ⟨u, us, rfl, _, h2⟩ := h
   simpa using D.dens_get ds us i x h2 (by simpa using hd)
theorem D.elems_get {B : Nat -> Prop} {w : World} {sz : Nat} {a : Addr} : ∀ (es : List D) (i j : Nat) (e : D), D.elems B w sz a i es -> es[j]? = some e ->
 ∃ ev : Value, ev.cells.size = sz /\ CellsAt B w (a.add ((i + j) * sz)) ev.cells /\ D.den B w e ev
 | [], _, _, _, _, hd => by simp at hd
 | e :: es, i, 0, x, h, hd => by
   simp at hd; subst hd; simpa using h.1
 | e :: es, i, j + 1, x, h, hd => by
   have := D.elems_get es (i + 1) j x h.2 (by simpa using hd)
   simpa [Nat.add_assoc, Nat.add_comm 1 j] using this
section
variable {M : Nat -> Prop} {φ φ' : Place} {H H' : Hp} {w w' : World}
theorem Trans.blocks (ht : Trans φ H w φ' H' w') (b : Nat) (hc : Cellish w b) (h : ¬ mutB M φ H b) : w'.heap[b]? = w.heap[b]? /\ ¬ mutB M φ' H' b := by
 have hb := hc.lt
 refine ⟨ht.keep.block b hb fun hl => h (.inr hl), ?_⟩
 rintro (h1 | h1)
 ·exact h (.inl h1)
 ·rcases ht.grow b h1 with h2 | h2
  ·exact h (.inr h2)
  ·omega
mutual
theorem V.den_mono' (hb : ∀ b, Cellish w b -> ¬ mutB M φ H b -> w'.heap[b]? = w.heap[b]? /\ ¬ mutB M φ' H' b) (hr : StepRel φ H φ' H') : ∀ (x : V) (v : Value), V.den (mutB M φ H) φ H w x v -> V.den (mutB M φ' H') φ' H' w' x v
 | .d x, v, h => D.den_mono hb x v h
 | .nils, _, h => h
 | .junk, _, _ => trivial
 | .csl es, v, h => ⟨D.den_mono hb (.sl es) v h.1, h.2⟩
 | .rsl id off n, v, h => by
   obtain ⟨h0, h1, h2⟩ := h
   refine ⟨h0, hr.us id h1, fun hrow => ?_⟩
   obtain ⟨h3, h4⟩ := hr.row id h1 hrow
   obtain ⟨b, h5, h6⟩ := h2 h3
   exact ⟨b, h4.trans h5, h6⟩
 | .mp id, v, h => by
   obtain ⟨h0, h1, h2⟩ := h
   refine ⟨h0, hr.us id h1, fun hrow => ?_⟩
   obtain ⟨h3, h4⟩ := hr.row id h1 hrow
   exact (h2 h3).trans h4.symm
 | .anyb, v, h => h
 | .yld id, v, h => by
   obtain ⟨h0, h1, h2⟩ := h
   refine ⟨h0, hr.us id h1, fun hrow => ?_⟩
   obtain ⟨h3, h4⟩ := hr.row id h1 hrow
   obtain ⟨b, h5, h6⟩ := h2 h3
   exact ⟨b, h4.trans h5, h6⟩
 | .agg cs, _, h => by obtain ⟨a, rfl, h, hf⟩ := h; exact ⟨a, rfl, V.dens_mono' hb hr cs _ h, hf⟩
 | .tup cs, _, h => by obtain ⟨a, rfl, h⟩ := h; exact ⟨a, rfl, V.dens_mono' hb hr cs _ h⟩
 | .ptr id off, v, h => by
   obtain ⟨h0, h1, h2⟩ := h
   refine ⟨h0, hr.us id h1, fun hrow => ?_⟩
   obtain ⟨h3, h4⟩ := hr.row id h1 hrow
   obtain ⟨b, h5, h6⟩ := h2 h3
   exact ⟨b, h4.trans h5, h6⟩
 | .osl id ep, v, h => by
   obtain ⟨h0, h1, h2⟩ := h
   refine ⟨h0, hr.us id h1, fun e' he' => ?_⟩
   obtain ⟨e, g1, g2, g3⟩ := hr.ep id e' h1 he'
   obtain ⟨h3, h4⟩ := h2 e g1
   refine ⟨Nat.le_trans h3 g2, fun heq => ?_⟩
   rw [g3 (by omega)]
   exact h4 (by omega)
 | .pe id ep i sz off, v, h => by
   obtain ⟨h0, h1, h2⟩ := h
   refine ⟨h0, hr.us id h1, fun e' he' => ?_⟩
   obtain ⟨e, g1, g2, g3⟩ := hr.ep id e' h1 he'
   obtain ⟨h3, h4⟩ := h2 e g1
   refine ⟨Nat.le_trans h3 g2, fun heq => ?_⟩
   rw [g3 (by omega)]
   exact h4 (by omega)
 | .pp cs off, v, h => by
   obtain ⟨a, ev, h1, h2, h3, h5, h4⟩ := h
   exact ⟨a, ev, h1, h2, D.dens_mono hb cs ev h3, h5, h4.mono hb⟩
 | .func fn first cap, _, h => by
   obtain ⟨f, c, rfl, h1, h2⟩ := h
   exact ⟨f, c, rfl, V.dens_mono' hb hr first _ h1, V.dens_mono' hb hr cap _ h2⟩
 | .iface t x, _, h => by obtain ⟨u, rfl, h⟩ := h; exact ⟨u, rfl, V.den_mono' hb hr x u h⟩
theorem V.dens_mono' (hb : ∀ b, Cellish w b -> ¬ mutB M φ H b -> w'.heap[b]? = w.heap[b]? /\ ¬ mutB M φ' H' b) (hr : StepRel φ H φ' H') : ∀ (ds : List V) (vs : List Value), V.dens (mutB M φ H) φ H w ds vs -> V.dens (mutB M φ' H') φ' H' w' ds vs
 | [], _, h => h
 | x :: xs, _, h => by
   obtain ⟨u, us, rfl, h1, h2⟩ := h
   exact ⟨u, us, rfl, V.den_mono' hb hr x u h1, V.dens_mono' hb hr xs us h2⟩
end
theorem V.den_mono (ht : Trans φ H w φ' H' w') (x : V) (v : Value) (h : V.den (mutB M φ H) φ H w x v) : V.den (mutB M φ' H') φ' H' w' x v := V.den_mono' ht.blocks ht.rel x v h
theorem V.dens_mono (ht : Trans φ H w φ' H' w') (ds : List V) (vs : List Value) (h : V.dens (mutB M φ H) φ H w ds vs) : V.dens (mutB M φ' H') φ' H' w' ds vs := V.dens_mono' ht.blocks ht.rel ds vs h
end
end Go.Proofs.YtealblliddhgiaaGreat
namespace Go.Proofs.YtealblliddhgiaaGreat
def upd {α : Type} (f : Nat -> α) (i : Nat) (x : α) : Nat -> α := fun j => if j = i then x else f j
@[simp] theorem upd_apply {α : Type} (f : Nat -> α) (i : Nat) (x : α) (j : Nat) : upd f i x j = if j = i then x else f j := rfl
structure S where
 env : Nat -> V
 o : Nat -> Obj'
 nx : Nat
def S.H (s : S) : Hp := ⟨s.o, fun id => id < s.nx⟩
def V.ofScalar : Value -> V
 | .int k n => .d (.int k n) | .bool b => .d (.bool b) | .string s => .d (.str s.data.toList)
 | .nilIface => .d .nili | .pointer none => .d .nilp | .nilFunc => .d .nilf | .map none => .d .nilm
 | .slice none 0 0 => .nils
 | _ => .junk
def allD : List V -> Option (List D)
 | [] => some []
 | .d x :: vs => (allD vs).map (x :: ·)
 | _ :: _ => none
def mkAgg (cs : List V) : V := match allD cs with | some ds => .d (.agg ds) | none => .agg cs
def V.ofConst : Value -> V
 | .agg a => if a.toList.all Value.oneCell' then mkAgg (a.toList.map V.ofScalar) else .junk
 | v => V.ofScalar v
def S.ev (s : S) : Operand -> V
 | .tmp t => s.env t
 | .const v => V.ofConst v
 | .func f => .func (.func f) [] []
 | .global _ => .junk
def D.cells : D -> List D
 | .agg cs => cs
 | x => [x]
def V.cells : V -> Option (List V)
 | .d x => some (x.cells.map .d)
 | .agg cs => some cs
 | .tup _ | .junk => none
 | v => some [v]
mutual
def toD (o : Nat -> Obj') : V -> Option D
 | .d x => some x
 | .nils => some (.sl [])
 | .csl es => some (.sl es)
 | .osl id ep => match o id with
   | .arr ep' _ _ es | .fro ep' es => if ep = ep' then some (.sl es) else none
   | _ => none
 | .mp id => match o id with
   | .map _ _ l => some (.mp (l.map (·.1)) (l.map (·.2)))
   | .mfro l => some (.mp (l.map (·.1)) (l.map (·.2)))
   | _ => none
 | .agg cs => (toDs o cs).map .agg
 | .iface t x => (toD o x).map (.iface t)
 | _ => none
def toDs (o : Nat -> Obj') : List V -> Option (List D)
 | [] => some []
 | v :: vs => (toD o v).bind fun x => (toDs o vs).map (x :: ·)
end
mutual
def V.ids : V -> List Nat
 | .osl id _ => [id]
 | .mp id => [id]
 | .agg cs => V.idss cs
 | .iface _ x => x.ids
 | _ => []
def V.idss : List V -> List Nat
 | [] => []
 | v :: vs => v.ids ++ V.idss vs
end
def frz (o : Nat -> Obj') (ids : List Nat) : List (Nat × Obj') :=
 ids.map fun id => (id, match o id with | .arr ep _ _ es => .fro ep es | .map _ _ l => .mfro l | o => o)
def frzA (o : Nat -> Obj') (ids : List Nat) : List (Nat × Obj') :=
 ids.filterMap fun id => match o id with | .arr ep _ _ es => some (id, .fro ep es) | _ => none
def put (o : Nat -> Obj') (Δ : List (Nat × Obj')) : Nat -> Obj' := Δ.foldl (fun f x => upd f x.1 x.2) o
def Hp.put (H : Hp) (Δ : List (Nat × Obj')) : Hp := { o := YtealblliddhgiaaGreat.put H.o Δ, us := fun id => H.us id \/ id ∈ Δ.map (·.1) }
def zeroT (P : Program) (t : TypeId) : Option (List V) :=
 match P.info? t with
 | some i => match i.zero with
   | some z => if z.cells.size = i.size /\ z.cells.toList.all Value.oneCell' = true then some (z.cells.toList.map V.ofScalar) else none
   | none => none
 | none => none
def aggT (P : Program) (t : TypeId) : Option Bool :=
 match P.underlying t with
 | some (.struct _) | some (.array _ _) => some true
 | some _ => some false
 | none => none
def fieldT (P : Program) (t : TypeId) (f : Nat) : Option Nat :=
 match P.underlying t with
 | some (.struct fs) => match fs[f]? with
   | some fd => if P.cellsOf fd.type = 0 then none else some fd.offset
   | none => none
 | _ => none
def sliceT (P : Program) (t : TypeId) : Option TypeId :=
 match P.underlying t with
 | some (.slice e) => some e
 | _ => none
def arrT (P : Program) (t : TypeId) : Option (Nat × TypeId) :=
 match P.underlying t with
 | some (.array n e) => some (n, e)
 | _ => none
def placesT (P : Program) (t : TypeId) : Option (List (Nat × Nat)) :=
 match P.underlying t with
 | some (.struct fs) => if fs.toList.all (fun f => (P.info? f.type).isSome) = true then some (fs.toList.map fun f => (f.offset, P.cellsOf f.type)) else none
 | some (.array n e) => if (P.info? e).isSome = true then some ((List.range n).map fun i => (i * P.cellsOf e, P.cellsOf e)) else none
 | _ => none
def intT (P : Program) (t : TypeId) : Option IntKind :=
 match P.underlying t with
 | some (.int k) => some k
 | _ => none
def rowGet (P : Program) (t : TypeId) (cs : List V) (off : Nat) : Option V :=
 match aggT P t with
 | some true => if off + P.cellsOf t <= cs.length then some (mkAgg ((cs.drop off).take (P.cellsOf t))) else none
 | some false => cs[off]?
 | none => none
def rowSet (P : Program) (t : TypeId) (cs : List V) (off : Nat) (v : V) : Option (List V) :=
 match v.cells with
 | some us => if us.length = P.cellsOf t /\ (0 < us.length \/ (P.info? t).isSome = true) /\ off + us.length <= cs.length then some (cs.take off ++ us ++ cs.drop (off + us.length)) else none
 | none => none
def fillV (places : List (Nat × Nat)) (cs : List V) : List (Nat × V) -> Option (List V)
 | [] => some cs
 | (i, v) :: rest => match places[i]?, v.cells with
   | some (off, size), some us => if us.length = size /\ off + us.length <= cs.length then fillV places (cs.take off ++ us ++ cs.drop (off + us.length)) rest else none
   | _, _ => none
def D.put (e : D) (off : Nat) (us : List D) : Option D :=
 match e with
 | .agg cs => if off + us.length <= cs.length then some (.agg (cs.take off ++ us ++ cs.drop (off + us.length))) else none
 | _ => match off, us with
   | 0, [u] => some u
   | _, _ => none
def cmpV (op : BinOp) (a b : Int) : Option Bool :=
 match op with
 | .eql => some (a == b) | .neq => some (a != b) | .lss => some (decide (a < b)) | .leq => some (decide (a <= b))
 | .gtr => some (decide (a > b)) | .geq => some (decide (a ≥ b))
 | _ => none
def bitsI (op : BinOp) (k : IntKind) (x y : Int) : Option Int :=
 let a := BitVec.ofInt k.bits x
 let b := BitVec.ofInt k.bits y
 match op with
 | .and => some (k.wrap (a &&& b).toNat)
 | .or => some (k.wrap (a ||| b).toNat)
 | .xor => some (k.wrap (a ^^^ b).toNat)
 | .andNot => some (k.wrap (a &&& ~~~b).toNat)
 | _ => none
def intV (op : BinOp) (k : IntKind) (a b : Int) (K : V -> Prop) : Prop :=
 match op with
 | .add => K (.d (.int k (k.wrap (a + b))))
 | .sub => K (.d (.int k (k.wrap (a - b))))
 | .mul => K (.d (.int k (k.wrap (a * b))))
 | .quo => b ≠ 0 /\ K (.d (.int k (k.wrap (a.tdiv b))))
 | .rem => b ≠ 0 /\ K (.d (.int k (a.tmod b)))
 | .and | .or | .xor | .andNot => ∃ r, bitsI op k a b = some r /\ K (.d (.int k r))
 | .shl | .shr => False
 | op => ∃ r, cmpV op a b = some r /\ K (.d (.bool r))
def EqlAt (P : Program) (t : TypeId) (x y : D) (r : Bool) : Prop :=
 ∀ (B : Nat -> Prop) (w : World) (u v : Value), D.den B w x u -> D.den B w y v -> (Op.equal t u v).run P w = .ok r w /\ ∀ (op : BinOp) (a b : Operand), (eqGuard op t a b u v).run P w = .ok () w
def binV (P : Program) (op : BinOp) (t : TypeId) (x y : V) (K : V -> Prop) : Prop :=
 match x, y with
 | .d (.int k a), .d (.int k' b) => k = k' /\ intV op k a b K
 | .d (.bool a), .d (.bool b) => match op with
   | .eql => P.underlying t = some .bool /\ K (.d (.bool (a == b)))
   | .neq => P.underlying t = some .bool /\ K (.d (.bool (a != b)))
   | _ => False
 | .d (.str a), .d (.str b) => match op with
   | .eql => K (.d (.bool (a == b)))
   | .neq => K (.d (.bool (a != b)))
   | _ => False
 | .d (.agg a), .d (.agg b) => match op with
   | .eql => ∃ r, EqlAt P t (.agg a) (.agg b) r /\ K (.d (.bool r))
   | .neq => ∃ r, EqlAt P t (.agg a) (.agg b) r /\ K (.d (.bool !r))
   | _ => False
 | _, _ => False
def unV (op : UnOp) (x : V) (K : V -> Prop) : Prop :=
 match op, x with
 | .neg, .d (.int k n) => K (.d (.int k (k.wrap (0 - n))))
 | .not, .d (.bool b) => K (.d (.bool !b))
 | _, _ => False
def pickV (c a b : V) (K : V -> Prop) : Prop :=
 match c with
 | .d (.bool t) => (t = true -> K a) /\ (t = false -> K b)
 | _ => False
def lenV (P : Program) (t : TypeId) (o : Nat -> Obj') (x : V) (K : V -> List Nat -> Prop) : Prop :=
 match P.underlying t with
 | some (.slice _) => match x with
   | .d (.sl es) => K (.d (.int .i64 es.length)) []
   | .nils => K (.d (.int .i64 0)) []
   | .csl es => K (.d (.int .i64 es.length)) []
   | .osl id ep => match o id with
     | .arr ep' _ _ es | .fro ep' es => ep = ep' /\ K (.d (.int .i64 es.length)) [id]
     | _ => False
   | _ => False
 | some .string => match x with
   | .d (.str s) => K (.d (.int .i64 s.length)) []
   | _ => False
 | some (.array n _) => K (.d (.int .i64 n)) []
 | _ => False
def indexAddrV (P : Program) (o : Nat -> Obj') (t : TypeId) (x ix : V) (K : V -> List Nat -> Prop) : Prop :=
 match ix with
 | .d (.int _ i) => match sliceT P t with
   | some e => match x with
     | .d (.sl es) => 0 <= i /\ ∃ y, es[i.toNat]? = some y /\ y.cells.length = P.cellsOf e /\ 0 < P.cellsOf e /\ K (.pp y.cells 0) []
     | .csl es => 0 <= i /\ ∃ y, es[i.toNat]? = some y /\ y.cells.length = P.cellsOf e /\ 0 < P.cellsOf e /\ K (.pp y.cells 0) []
     | .osl id ep => match o id with
       | .arr ep' _ sz es => ep = ep' /\ 0 <= i /\ i.toNat < es.length /\ sz = P.cellsOf e /\ 0 < P.cellsOf e /\ K (.pe id ep i.toNat sz 0) [id]
       | .fro ep' es => ep = ep' /\ 0 <= i /\ ∃ y, es[i.toNat]? = some y /\ y.cells.length = P.cellsOf e /\ 0 < P.cellsOf e /\ K (.pp y.cells 0) [id]
       | _ => False
     | _ => False
   | none => match arrT P t with
     | some (n, e) => 0 <= i /\ i < n /\ (P.info? e).isSome = true /\ (match x with
       | .ptr id off => (o id).isRow = true /\ K (.ptr id (off + i.toNat * P.cellsOf e)) []
       | .pp cs off => K (.pp cs (off + i.toNat * P.cellsOf e)) []
       | .pe id ep j sz off => (o id).epoch = some ep /\ K (.pe id ep j sz (off + i.toNat * P.cellsOf e)) []
       | _ => False)
     | none => False
 | _ => False
def fieldAddrV (P : Program) (o : Nat -> Obj') (t : TypeId) (x : V) (f : Nat) (K : V -> Prop) : Prop :=
 match fieldT P t f with
 | some q => match x with
   | .ptr id off => (o id).isRow = true /\ K (.ptr id (off + q))
   | .pp cs off => K (.pp cs (off + q))
   | .pe id ep j sz off => (o id).epoch = some ep /\ K (.pe id ep j sz (off + q))
   | _ => False
 | none => False
def loadV (P : Program) (o : Nat -> Obj') (t : TypeId) (x : V) (K : V -> List Nat -> Prop) : Prop :=
 match x with
 | .ptr id off => match o id with
   | .row cs => ∃ v, rowGet P t cs off = some v /\ K v [id]
   | _ => False
 | .pp cs off => ∃ v, rowGet P t (cs.map .d) off = some v /\ K v []
 | .pe id ep i sz off => match o id with
   | .arr ep' _ sz' es => ep = ep' /\ sz = sz' /\ ∃ e, es[i]? = some e /\ ∃ v, rowGet P t (e.cells.map .d) off = some v /\ K v [id]
   | _ => False
 | _ => False
def storeV (P : Program) (o : Nat -> Obj') (t : TypeId) (x v : V) (K : List (Nat × Obj') -> List Nat -> Prop) : Prop :=
 match x with
 | .ptr id off => match o id with
   | .row cs => ∃ cs', rowSet P t cs off v = some cs' /\ K [(id, .row cs')] [id]
   | _ => False
 | .pe id ep i sz' off => match o id with
   | .arr ep' ty sz es => ep = ep' /\ sz' = sz /\ ∃ e, es[i]? = some e /\ ∃ y, toD o v = some y /\ y.cells.length = P.cellsOf t /\ 0 < y.cells.length /\ v.ids.all (· != id) = true /\
    ∃ e', e.put off y.cells = some e' /\ K (frz o v.ids ++ [(id, .arr ep ty sz (es.set i e'))]) (id :: v.ids)
   | _ => False
 | _ => False
def buildSliceV (P : Program) (o : Nat -> Obj') (fr : Nat) (t : TypeId) (len : Nat) (parts : List (Nat × V)) (K : V -> List (Nat × Obj') -> List Nat -> Prop) : Prop :=
 match sliceT P t with
 | some e => (len = 0 /\ parts = [] /\ 0 < P.cellsOf e /\ K (.osl fr 0) [(fr, .arr 0 e (P.cellsOf e) [])] []) \/ (parts.map (·.1) = List.range len) /\ (zeroT P e).isSome = true /\ 0 < len /\ 0 < P.cellsOf e /\ len * P.cellsOf e <= 2 ^ 24 /\
  ∃ ds, toDs o (parts.map (·.2)) = some ds /\ (∀ x ∈ ds, x.cells.length = P.cellsOf e) /\
   K (.osl fr 0) (frz o (V.idss (parts.map (·.2))) ++ [(fr, .arr 0 e (P.cellsOf e) ds)]) (V.idss (parts.map (·.2)))
 | none => False
def zeroD (P : Program) (e : TypeId) : Option D :=
 match zeroT P e with
 | some z => match toDs (fun _ => .no) z, aggT P e with
   | some ds, some true => some (.agg ds)
   | some [x], some false => some x
   | _, _ => none
 | none => none
def makeSliceV (P : Program) (fr : Nat) (t : TypeId) (l c : V) (K : V -> List (Nat × Obj') -> Prop) : Prop :=
 match sliceT P t, l, c with
 | some e, .d (.int _ n), .d (.int _ m) => n = m /\ 0 <= n /\ 0 < P.cellsOf e /\ P.bytesOf e * n.toNat <= 2 ^ 47 /\ n.toNat <= 2 ^ 47 /\
  ∃ x, zeroD P e = some x /\ K (.osl fr 0) [(fr, .arr 0 e (P.cellsOf e) (List.replicate n.toNat x))]
 | _, _, _ => False
def listV (o : Nat -> Obj') (x : V) : Option (List D) :=
 match toD o x with
 | some (.sl es) => some es
 | _ => none
def appendV (P : Program) (o : Nat -> Obj') (fr : Nat) (ts : Array TypeId) (x y : V) (K : V -> List (Nat × Obj') -> List Nat -> Prop) : Prop :=
 match ts.toList with
 | [t, t'] => t = t' /\ (match sliceT P t with
   | some e => ∃ new, listV o y = some new /\ 0 < P.cellsOf e /\ (zeroT P e).isSome = true /\ (∀ z ∈ new, z.cells.length = P.cellsOf e) /\ (match x with
     | .nils => new.length <= 2 ^ 47 /\ new.length * P.bytesOf e <= 2 ^ 47 /\ K (.osl fr 0) [(fr, .arr 0 e (P.cellsOf e) new)] y.ids
     | .csl es => (∀ z ∈ es, z.cells.length = P.cellsOf e) /\ (if new = [] then K (.csl es) [] y.ids else es.length + new.length <= 2 ^ 40 /\ (es.length + new.length) * P.bytesOf e <= 2 ^ 40 /\ K (.osl fr 0) [(fr, .arr 0 e (P.cellsOf e) (es ++ new))] y.ids)
     | .osl id ep => match o id with
       | .arr ep' ty sz es => ep = ep' /\ ty = e /\ sz = P.cellsOf e /\ es.length + new.length <= 2 ^ 47 /\ (es.length + new.length) * P.bytesOf e <= 2 ^ 47 /\
        K (.osl id (ep + 1)) [(id, .arr (ep + 1) ty sz (es ++ new))] (id :: y.ids)
       | _ => False
     | _ => False)
   | none => False)
 | _ => False
def minmaxV (isMax : Bool) (args : List V) (K : V -> Prop) : Prop :=
 match args with
 | [.d (.int k a), .d (.int k' b)] => k = k' /\ K (.d (.int k (if isMax then (if b > a then b else a) else (if b < a then b else a))))
 | _ => False
def nilCheckV (o : Nat -> Obj') (x : V) (K : V -> Prop) : Prop :=
 match x with
 | .ptr id off => (o id).isRow = true /\ K (.ptr id off)
 | .pp cs off => K (.pp cs off)
 | .func (.func f) first cap => K (.func (.func f) first cap)
 | _ => False
def partD (P : Program) (t : TypeId) (xs : List D) (off : Nat) : Option D :=
 match aggT P t with
 | some true => if off + P.cellsOf t <= xs.length then some (.agg ((xs.drop off).take (P.cellsOf t))) else none
 | some false => xs[off]?
 | none => none
inductive EqSh where
 | int | bool | str | struct (fs : List (TypeId × Nat)) | arr (n : Nat) (e : TypeId)
def eqShape (P : Program) (t : TypeId) : Option EqSh :=
 match P.underlying t with
 | some (.int _) => some .int
 | some .bool => some .bool
 | some .string => some .str
 | some (.struct fs) => if (!P.stoodInHeld t && fs.toList.all (fun f => f.name != "_")) = true then some (.struct (fs.toList.map fun f => (f.type, f.offset))) else none
 | some (.array n e) => if (P.info? e).isSome = true then some (.arr n e) else none
 | _ => none
def andO (a b : Option Bool) : Option Bool :=
 match a, b with
 | some a, some b => some (a && b)
 | _, _ => none
def fldsE (f : TypeId -> Nat -> Option Bool) : List (TypeId × Nat) -> Option Bool
 | [] => some true
 | x :: l => andO (f x.1 x.2) (fldsE f l)
def itmsE (f : Nat -> Option Bool) : Nat -> Nat -> Option Bool
 | 0, _ => some true
 | n + 1, i => andO (f i) (itmsE f n (i + 1))
def eq2 (f : D -> D -> Option Bool) (x y : Option D) : Option Bool :=
 match x, y with
 | some x, some y => f x y
 | _, _ => none
def eqT (P : Program) : Nat -> TypeId -> D -> D -> Option Bool
 | 0, _, _, _ => none
 | d + 1, t, x, y => match eqShape P t with
   | some .int => match x, y with | .int k a, .int k' b => if k = k' then some (a == b) else none | _, _ => none
   | some .bool => match x, y with | .bool a, .bool b => some (a == b) | _, _ => none
   | some .str => match x, y with | .str a, .str b => some (a == b) | _, _ => none
   | some (.struct fs) => match x, y with
     | .agg xs, .agg ys => fldsE (fun u off => eq2 (eqT P d u) (partD P u xs off) (partD P u ys off)) fs
     | _, _ => none
   | some (.arr n e) => match x, y with
     | .agg xs, .agg ys => itmsE (fun i => eq2 (eqT P d e) (partD P e xs (i * P.cellsOf e)) (partD P e ys (i * P.cellsOf e))) n 0
     | _, _ => none
   | none => none
abbrev Res := V × List (Nat × Obj') × List Nat
def resK (x : Option Res) (K : V -> List (Nat × Obj') -> List Nat -> Prop) : Prop :=
 match x with
 | some (v, Δ, rd) => K v Δ rd
 | none => False
def bndF (x : Option V) (dflt : Nat) : Option Nat :=
 match x with
 | none => some dflt
 | some (.d (.int _ i)) => if 0 <= i then some i.toNat else none
 | _ => none
def ptrRow (o : Nat -> Obj') (x : V) : Option (Nat × Nat) :=
 match x with
 | .ptr id off => if (o id).isRow = true then some (id, off) else none
 | _ => none
def rslRow (o : Nat -> Obj') (x : V) : Option (Nat × Nat × Nat × List V) :=
 match x with
 | .rsl id off n => match o id with
   | .row cs => some (id, off, n, cs)
   | _ => none
 | _ => none
def sliceF (P : Program) (o : Nat -> Obj') (t : TypeId) (x : V) (lo hi mx : Option V) : Option Res :=
 match sliceT P t with
 | some e => match listV o x, bndF lo 0 with
   | some es, some l => match bndF hi es.length with
     | some h => if l <= h /\ h <= es.length /\ (P.info? e).isSome = true /\ (l = 0 \/ es.all (fun y => y.cells.length == P.cellsOf e) = true) then match mx with
      | none => some (.d (.sl ((es.take h).drop l)), frz o x.ids, x.ids)
      | some m => match hi, bndF (some m) 0 with
        | some _, some m => if h <= m /\ m <= es.length then some (if h = m then .csl ((es.take h).drop l) else .d (.sl ((es.take h).drop l)), frz o x.ids, x.ids) else none
        | _, _ => none
       else none
     | none => none
   | _, _ => none
 | none => match arrT P t, lo, hi, mx with
   | some (n, e), none, none, none => match ptrRow o x with
     | some (id, off) => if (P.info? e).isSome = true then some (.rsl id off n, [], [id]) else none
     | none => none
   | _, _, _, _ => none
def copyF (P : Program) (o : Nat -> Obj') (ts : Array TypeId) (x y : V) : Option Res :=
 match ts.toList with
 | [t, _] => match sliceT P t with
   | some e => match rslRow o x, listV o y with
     | some (id, off, n, cs), some es => if P.cellsOf e = 1 /\ off + n <= cs.length /\ es.all (fun z => z.cells.length == 1) = true /\ y.ids.all (· != id) = true then
      some (.d (.int .i64 ((min es.length n : Nat) : Int)), frz o y.ids ++ [(id, .row (cs.take off ++ ((es.take n).flatMap D.cells).map .d ++ cs.drop (off + (es.take n).length)))], id :: y.ids) else none
     | _, _ => none
   | none => none
 | _ => none
def fieldTT (P : Program) (t : TypeId) (f : Nat) : Option (Nat × TypeId) :=
 match P.underlying t with
 | some (.struct fs) => match fs[f]? with
   | some fd => some (fd.offset, fd.type)
   | none => none
 | _ => none
def fieldF (P : Program) (t : TypeId) (x : V) (f : Nat) : Option V :=
 match fieldTT P t f with
 | some (off, u) => match x with
   | .d (.agg cs) => (partD P u cs off).map .d
   | .agg cs => rowGet P u cs off
   | _ => none
 | none => none
def indexF (P : Program) (t : TypeId) (x i : V) : Option V :=
 match i with
 | .d (.int _ i) => if 0 <= i then match P.underlying t with
  | some .string => match x with
    | .d (.str s) => match s[i.toNat]? with
      | some b => some (.d (.int .u8 b.toNat))
      | none => none
    | _ => none
  | some (.array n e) => if i < n /\ (P.info? e).isSome = true then match x with
   | .d (.agg cs) => (partD P e cs (i.toNat * P.cellsOf e)).map .d
   | .agg cs => rowGet P e cs (i.toNat * P.cellsOf e)
   | _ => none
    else none
  | _ => none
   else none
 | _ => none
def plainU (P : Program) (t : TypeId) : Bool :=
 match P.underlying t with
 | some (.interface _) => false
 | some _ => true
 | none => false
def zeroV (P : Program) (t : TypeId) : Option V :=
 match P.info? t with
 | some i => match i.zero with
   | some (.agg a) => if a.toList.all Value.oneCell' = true then some (mkAgg (a.toList.map V.ofScalar)) else none
   | some v => if v.oneCell' = true then some (V.ofScalar v) else none
   | none => none
 | none => none
def assertF (P : Program) (t : TypeId) (ok : Bool) (x : V) : Option V :=
 if plainU P t = true then match x with
  | .d (.iface u y) => if u = t then some (if ok = true then .tup [.d y, .d (.bool true)] else .d y)
   else if ok = true then (zeroV P t).map fun z => .tup [z, .d (.bool false)] else none
  | .d .nili => if ok = true then (zeroV P t).map fun z => .tup [z, .d (.bool false)] else none
  | _ => none
 else none
def nilF (o : Nat -> Obj') (x : V) : Option V :=
 match x with
 | .nils => some (.d (.bool true))
 | x => match listV o x with
   | some es => some (if es = [] then .anyb else .d (.bool false))
   | none => none
def isConst : Operand -> Bool
 | .const _ => true
 | _ => false
def notV : V -> Option V
 | .d (.bool b) => some (.d (.bool !b))
 | .anyb => some .anyb
 | _ => none
def mapNil (o : Nat -> Obj') (x : V) : Option V :=
 match x with
 | .d .nilm => some (.d (.bool true))
 | .d (.mp _ _) => some (.d (.bool false))
 | .mp id => match o id with | .map _ _ _ => some (.d (.bool false)) | .mfro _ => some (.d (.bool false)) | _ => none
 | _ => none
def ptrNil (o : Nat -> Obj') (x : V) : Option V :=
 match x with
 | .d .nilp => some (.d (.bool true))
 | .ptr id _ => if (o id).isRow = true then some (.d (.bool false)) else none
 | .pp _ _ => some (.d (.bool false))
 | _ => none
def eqV (P : Program) (o : Nat -> Obj') (t : TypeId) (cst : Bool) (x y : V) : Option V :=
 match P.underlying t with
 | some (.interface _) => match x, y with
   | .d .nili, .d .nili => if cst = true then some (.d (.bool true)) else none
   | .d (.iface _ _), .d .nili | .iface _ _, .d .nili | .d .nili, .d (.iface _ _) | .d .nili, .iface _ _ => some (.d (.bool false))
   | _, _ => none
 | some (.func _ _ _) => match x, y with
   | .d .nilf, .d .nilf => some (.d (.bool true))
   | .func _ _ _, .d .nilf => some (.d (.bool false))
   | _, _ => none
 | some (.map _ _) => match y with
   | .d .nilm => mapNil o x
   | _ => none
 | some (.pointer _) => match y with
   | .d .nilp => ptrNil o x
   | _ => none
 | some (.slice _) => match y with
   | .nils => nilF o x
   | _ => none
 | some (.struct _) | some (.array _ _) => match x, y with
   | .d (.agg asz), .d (.agg bs) => if P.eqGuardType P.depth t = false then (eqT P 100 t (.agg asz) (.agg bs)).map fun r => .d (.bool r) else none
   | _, _ => none
 | _ => none
def cmpF (P : Program) (o : Nat -> Obj') (op : BinOp) (t : TypeId) (cst : Bool) (x y : V) : Option Res :=
 match op with
 | .eql => (eqV P o t cst x y).map fun v => (v, [], [])
 | .neq => ((eqV P o t cst x y).bind notV).map fun v => (v, [], [])
 | _ => none
mutual
def D.same : D -> D -> Bool
 | .int k a, .int j b => k == j && a == b
 | .bool a, .bool b => a == b
 | .str a, .str b => a == b
 | .nili, .nili | .nilp, .nilp | .nilf, .nilf | .nilm, .nilm => true
 | .agg asz, .agg bs => D.sames asz bs
 | .sl asz, .sl bs => D.sames asz bs
 | .iface t a, .iface u b => t == u && a.same b
 | .mp ks vs, .mp ks' vs' => D.sames ks ks' && D.sames vs vs'
 | _, _ => false
def D.sames : List D -> List D -> Bool
 | [], [] => true
 | a :: asz, b :: bs => a.same b && D.sames asz bs
 | _, _ => false
end
def mapT (P : Program) (t : TypeId) : Option (TypeId × TypeId) :=
 match P.underlying t with
 | some (.map k v) => some (k, v)
 | _ => none
def chkT (P : Program) : Nat -> TypeId -> D -> Bool
 | 0, _, _ => false
 | d + 1, t, x => match eqShape P t with
   | some .int | some .bool | some .str => true
   | some (.struct fs) => match x with
     | .agg xs => fs.all fun f => match partD P f.1 xs f.2 with | some y => chkT P d f.1 y | none => false
     | _ => false
   | some (.arr n e) => match x with
     | .agg xs => (List.range n).all fun i => match partD P e xs (i * P.cellsOf e) with | some y => chkT P d e y | none => false
     | _ => false
   | none => false
def findD (P : Program) (kt : TypeId) (k : D) : List (D × D) -> Nat -> Option (Option (Nat × D × D))
 | [], _ => some none
 | (k', x) :: l, i => match eqT P 100 kt k k' with
   | some true => some (some (i, k', x))
   | some false => findD P kt k l (i + 1)
   | none => none
def scalD : D -> Bool
 | .int _ _ | .bool _ | .str _ => true
 | _ => false
def plainD : D -> Bool
 | .agg cs => cs.all scalD
 | x => scalD x
def mapEs (o : Nat -> Obj') (m : V) : Option (Option (Nat × TypeId × TypeId) × List (D × D)) :=
 match m with
 | .mp id => match o id with
   | .map kt vt l => some (some (id, kt, vt), l)
   | _ => none
 | .d .nilm => some (none, [])
 | _ => none
def mapRd (o : Nat -> Obj') (m : V) : Option (List Nat × List (D × D)) :=
 match m with
 | .mp id => match o id with
   | .map _ _ l => some ([id], l)
   | .mfro l => some ([id], l)
   | _ => none
 | .d .nilm => some ([], [])
 | .d (.mp ks vs) => some ([], ks.zip vs)
 | _ => none
def idOf (r : Option (Nat × TypeId × TypeId)) : List Nat := match r with | some p => [p.1] | none => []
def lookupF (P : Program) (o : Nat -> Obj') (t : TypeId) (m k : V) (ok : Bool) : Option Res :=
 match mapT P t, toD o k, mapRd o m with
 | some (kt, vt), some kd, some (rd, l) => if k.ids = [] /\ chkT P 100 kt kd = true then match findD P kt kd l 0 with
  | some (some (_, _, x)) => some (if ok = true then .tup [.d x, .d (.bool true)] else .d x, [], rd)
  | some none => match zeroV P vt with
    | some z => some (if ok = true then .tup [z, .d (.bool false)] else z, [], rd)
    | none => none
  | none => none
   else none
 | _, _, _ => none
def mapUpdF (P : Program) (o : Nat -> Obj') (t : TypeId) (m k v : V) : Option Res :=
 match mapT P t, toD o k, toD o v, mapEs o m with
 | some (kt, _), some kd, some vd, some (some (id, kt', vt'), l) => if k.ids = [] /\ chkT P 100 kt kd = true /\ plainD kd = true /\ v.ids.all (· != id) = true then match findD P kt kd l 0 with
  | some (some (i, k', _)) => if k'.same kd = true then some (.tup [], frz o v.ids ++ [(id, .map kt' vt' (l.set i (kd, vd)))], id :: v.ids) else none
  | some none => some (.tup [], frz o v.ids ++ [(id, .map kt' vt' (l ++ [(kd, vd)]))], id :: v.ids)
  | none => none
   else none
 | _, _, _, _ => none
def makeMapF (P : Program) (fr : Nat) (t : TypeId) : Option Res :=
 match mapT P t with
 | some (kt, vt) => some (.mp fr, [(fr, .map kt vt [])], [])
 | none => none
def rangeF (P : Program) (o : Nat -> Obj') (fr : Nat) (t : TypeId) (x : V) : Option Res :=
 match P.underlying t with
 | some .string => match x with
   | .d (.str s) => some (.ptr fr 0, [(fr, .sit s 0)], [])
   | _ => none
 | some (.map _ _) => match x with
   | .d .nilm => some (.ptr fr 0, [(fr, .mit [] none)], [])
   | .d (.mp ks vs) => some (.ptr fr 0, [(fr, .mit (ks.zip vs) none)], [])
   | .mp id => match o id with
     | .map _ _ l => some (.ptr fr 0, [(id, .mfro l), (fr, .mit l none)], [id])
     | .mfro l => some (.ptr fr 0, [(fr, .mit l none)], [id])
     | _ => none
   | _ => none
 | _ => none
def nextF (o : Nat -> Obj') (x : V) (str : Bool) : Option Res :=
 match x with
 | .ptr id 0 => match o id with
   | .sit s pos => if str = true then
    (if pos < s.length then some (.tup [.d (.bool true), .d (.int .i64 pos), .d (.int .i32 (Utf8.decode ⟨⟨s⟩⟩ pos).1)], [(id, .sit s (pos + (Utf8.decode ⟨⟨s⟩⟩ pos).2))], [id]) else some (.tup [.d (.bool false)], [], [id]))
     else none
   | _ => none
 | _ => none
def leftF (o : Nat -> Obj') (x : V) : Option (Nat × List (D × D)) :=
 match x with
 | .ptr id 0 => match o id with
   | .mit l _ => some (id, l)
   | _ => none
 | _ => none
def nextV (id : Nat) (l : List (D × D)) (K : V -> List (Nat × Obj') -> List Nat -> Prop) : Prop :=
 (l = [] -> K (.tup [.d (.bool false)]) [] [id]) /\ ∀ i k x, l[i]? = some (k, x) -> K (.tup [.d (.bool true), .d k, .d x]) [(id, .mit (l.eraseIdx i) (some (k, x)))] [id]
def entryF (o : Nat -> Obj') (x : V) : Option Res :=
 match x with
 | .ptr id 0 => match o id with
   | .mit _ (some (k, x)) => some (.tup [.d k, .d x], [], [id])
   | _ => none
 | _ => none
def deleteF (P : Program) (o : Nat -> Obj') (t : TypeId) (m k : V) : Option Res :=
 match mapT P t, toD o k, mapEs o m with
 | some (kt, _), some kd, some (some (id, kt', vt'), l) => if k.ids = [] /\ chkT P 100 kt kd = true then match findD P kt kd l 0 with
  | some (some (i, _, _)) => some (.tup [], [(id, .map kt' vt' (l.eraseIdx i))], [id])
  | some none => some (.tup [], [], [id])
  | none => none
   else none
 | _, _, _ => none
def max3F (x y z : V) : Option V :=
 match x, y, z with
 | .d (.int k a), .d (.int k' b), .d (.int k'' c) => if k = k' /\ k = k'' then some (.d (.int k (if c > (if b > a then b else a) then c else (if b > a then b else a)))) else none
 | _, _, _ => none
def builtinV (P : Program) (s : S) (fr : Nat) (b : Builtin) (args : List Operand) (ts : Array TypeId) (K : V -> List (Nat × Obj') -> List Nat -> Prop) : Prop :=
 match b, args with
 | .len, [x] => ∃ t, ts.toList = [t] /\ lenV P t s.o (s.ev x) fun v rd => K v [] rd
 | .append, [x, y] => appendV P s.o fr ts (s.ev x) (s.ev y) K
 | .max, [x, y] => minmaxV true [s.ev x, s.ev y] fun v => K v [] []
 | .min, [x, y] => minmaxV false [s.ev x, s.ev y] fun v => K v [] []
 | .max, [x, y, z] => resK ((max3F (s.ev x) (s.ev y) (s.ev z)).map fun v => (v, [], [])) K
 | .copy, [x, y] => resK (copyF P s.o ts (s.ev x) (s.ev y)) K
 | .delete, [x, y] => ∃ t, ts.toList.head? = some t /\ resK (deleteF P s.o t (s.ev x) (s.ev y)) K
 | _, _ => False
def sop (P : Program) (s : S) (fr : Nat) (op : Op) (K : V -> List (Nat × Obj') -> List Nat -> Prop) : Prop :=
 match op with
 | .move x | .assign x => K (s.ev x) [] []
 | .pick c a b => pickV (s.ev c) (s.ev a) (s.ev b) fun v => K v [] []
 | .alloc t => ∃ cs, zeroT P t = some cs /\ K (.ptr fr 0) [(fr, .row cs)] []
 | .box _ x => ∃ cs, (s.ev x).cells = some cs /\ K (.ptr fr 0) [(fr, .row cs)] []
 | .build t parts => ∃ z pl cs, zeroT P t = some z /\ placesT P t = some pl /\ fillV pl z (parts.toList.map fun p => (p.1, s.ev p.2)) = some cs /\ K (mkAgg cs) [] []
 | .buildSlice t len parts => buildSliceV P s.o fr t len (parts.toList.map fun p => (p.1, s.ev p.2)) K
 | .load t x => loadV P s.o t (s.ev x) fun v rd => K v [] rd
 | .store t x v => storeV P s.o t (s.ev x) (s.ev v) fun Δ rd => K (.tup []) Δ rd
 | .nilCheck x => nilCheckV s.o (s.ev x) fun v => K v [] []
 | .binOp op t x y _ => binV P op t (s.ev x) (s.ev y) (fun v => K v [] []) \/ resK (cmpF P s.o op t (isConst x || isConst y) (s.ev x) (s.ev y)) K
 | .unOp op _ x => unV op (s.ev x) (fun v => K v [] []) \/ (op = .not /\ s.ev x = .anyb /\ K .anyb [] [])
 | .convert u t x => (P.underlying u).isSome = true /\ (match intT P t, s.ev x with
   | some k, .d (.int _ n) => K (.d (.int k (k.wrap n))) [] []
   | _, _ => False)
 | .makeInterface t x => (∃ d, P.underlying t = some d /\ (match d with | .interface _ => false | _ => true) = true) /\ (match s.ev x with
   | .d y => K (.d (.iface t y)) [] []
   | v => K (.iface t v) [] [])
 | .makeFunc fn first cap => K (.func fn (first.toList.map s.ev) (cap.toList.map s.ev)) [] []
 | .makeSlice t l c => makeSliceV P fr t (s.ev l) (s.ev c) fun v Δ => K v Δ []
 | .fieldAddr t x f => fieldAddrV P s.o t (s.ev x) f fun v => K v [] []
 | .indexAddr t x i => indexAddrV P s.o t (s.ev x) (s.ev i) fun v rd => K v [] rd
 | .extract x i => match s.ev x with
   | .tup vs => ∃ v, vs[i]? = some v /\ K v [] []
   | _ => False
 | .slice t x lo hi mx => resK (sliceF P s.o t (s.ev x) (lo.map s.ev) (hi.map s.ev) (mx.map s.ev)) K
 | .field t x f => resK ((fieldF P t (s.ev x) f).map fun v => (v, [], [])) K
 | .index t x i => resK ((indexF P t (s.ev x) (s.ev i)).map fun v => (v, [], [])) K
 | .makeMap t none => resK (makeMapF P fr t) K
 | .lookup t m k ok => resK (lookupF P s.o t (s.ev m) (s.ev k) ok) K
 | .mapUpdate t m k v => resK (mapUpdF P s.o t (s.ev m) (s.ev k) (s.ev v)) K
 | .insert t m k v => resK (mapUpdF P s.o t (s.ev m) (s.ev k) (s.ev v)) K
 | .range t x => resK (rangeF P s.o fr t (s.ev x)) K
 | .next x str => resK (nextF s.o (s.ev x) str) K \/ (str = false /\ ∃ id l, leftF s.o (s.ev x) = some (id, l) /\ nextV id l K)
 | .entry x => resK (entryF s.o (s.ev x)) K
 | .typeAssert x _ t ok => resK ((assertF P t ok (s.ev x)).map fun v => (v, [], [])) K
 | .call c => match c.callee with
   | .builtin b => builtinV P s fr b c.args.toList c.argTypes K
   | _ => False
 | _ => False
end Go.Proofs.YtealblliddhgiaaGreat
namespace Go.Proofs.YtealblliddhgiaaGreat
section
variable {B : Nat -> Prop} {φ : Place} {H : Hp} {w : World}
theorem V.dens_length : ∀ (cs : List V) (vs : List Value), V.dens B φ H w cs vs -> vs.length = cs.length
 | [], _, h => by simp [V.dens] at h; simp [h]
 | c :: cs, _, h => by obtain ⟨u, us, rfl, _, h2⟩ := h; simp [V.dens_length cs us h2]
theorem V.dens_get : ∀ (cs : List V) (vs : List Value) (i : Nat) (c : V), V.dens B φ H w cs vs -> cs[i]? = some c -> ∃ v, vs[i]? = some v /\ V.den B φ H w c v
 | [], _, _, _, _, hd => by simp at hd
 | c :: cs, _, 0, x, h, hd => by
   obtain ⟨u, us, rfl, h1, _⟩ := h
   simp at hd; subst hd; exact ⟨u, by simp, h1⟩
 | c :: cs, _, i + 1, x, h, hd => by
   obtain ⟨u, us, rfl, _, h2⟩ := h
   simpa using V.dens_get cs us i x h2 (by simpa using hd)
theorem V.dens_append : ∀ (cs ds : List V) (us vs : List Value), V.dens B φ H w cs us -> V.dens B φ H w ds vs -> V.dens B φ H w (cs ++ ds) (us ++ vs)
 | [], ds, us, vs, h, k => by simp [V.dens] at h; subst h; simpa using k
 | c :: cs, ds, _, vs, h, k => by
   obtain ⟨u, us, rfl, h1, h2⟩ := h
   exact ⟨u, us ++ vs, by simp, h1, V.dens_append cs ds us vs h2 k⟩
theorem V.dens_take : ∀ (n : Nat) (cs : List V) (vs : List Value), V.dens B φ H w cs vs -> V.dens B φ H w (cs.take n) (vs.take n)
 | 0, _, _, _ => by simp [V.dens]
 | n + 1, [], _, h => by simp [V.dens] at h; subst h; simp [V.dens]
 | n + 1, c :: cs, _, h => by
   obtain ⟨u, us, rfl, h1, h2⟩ := h
   exact ⟨u, us.take n, by simp, h1, V.dens_take n cs us h2⟩
theorem V.dens_drop : ∀ (n : Nat) (cs : List V) (vs : List Value), V.dens B φ H w cs vs -> V.dens B φ H w (cs.drop n) (vs.drop n)
 | 0, _, _, h => by simpa using h
 | n + 1, [], _, h => by simp [V.dens] at h; subst h; simp [V.dens]
 | n + 1, c :: cs, _, h => by
   obtain ⟨u, us, rfl, h1, h2⟩ := h
   simpa using V.dens_drop n cs us h2
theorem V.dens_map_d : ∀ (ds : List D) (vs : List Value), V.dens B φ H w (ds.map .d) vs ↔ D.dens B w ds vs
 | [], vs => by simp [V.dens, D.dens]
 | x :: ds, vs => by simp only [List.map_cons, V.dens, D.dens, V.den, V.dens_map_d ds]
theorem D.dens_append : ∀ (cs ds : List D) (us vs : List Value), D.dens B w cs us -> D.dens B w ds vs -> D.dens B w (cs ++ ds) (us ++ vs)
 | [], ds, us, vs, h, k => by simp [D.dens] at h; subst h; simpa using k
 | c :: cs, ds, _, vs, h, k => by
   obtain ⟨u, us, rfl, h1, h2⟩ := h
   exact ⟨u, us ++ vs, by simp, h1, D.dens_append cs ds us vs h2 k⟩
theorem D.dens_take : ∀ (n : Nat) (cs : List D) (vs : List Value), D.dens B w cs vs -> D.dens B w (cs.take n) (vs.take n)
 | 0, _, _, _ => by simp [D.dens]
 | n + 1, [], _, h => by simp [D.dens] at h; subst h; simp [D.dens]
 | n + 1, c :: cs, _, h => by
   obtain ⟨u, us, rfl, h1, h2⟩ := h
   exact ⟨u, us.take n, by simp, h1, D.dens_take n cs us h2⟩
theorem D.dens_drop : ∀ (n : Nat) (cs : List D) (vs : List Value), D.dens B w cs vs -> D.dens B w (cs.drop n) (vs.drop n)
 | 0, _, _, h => by simpa using h
 | n + 1, [], _, h => by simp [D.dens] at h; subst h; simp [D.dens]
 | n + 1, c :: cs, _, h => by
   obtain ⟨u, us, rfl, h1, h2⟩ := h
   simpa using D.dens_drop n cs us h2
theorem D.dens_set : ∀ (i : Nat) (ds : List D) (vs : List Value) (x : D) (v : Value), D.dens B w ds vs -> D.den B w x v -> D.dens B w (ds.set i x) (vs.set i v)
 | _, [], _, _, _, h, _ => by simp [D.dens] at h; subst h; simp [D.dens]
 | 0, c :: cs, _, x, v, h, k => by
   obtain ⟨u, us, rfl, h1, h2⟩ := h
   exact ⟨v, us, by simp, k, h2⟩
 | i + 1, c :: cs, _, x, v, h, k => by
   obtain ⟨u, us, rfl, h1, h2⟩ := h
   exact ⟨u, us.set i v, by simp, h1, D.dens_set i cs us x v h2 k⟩
theorem allD_spec : ∀ (cs : List V) (ds : List D), allD cs = some ds -> cs = ds.map .d
 | [], ds, h => by simp [allD] at h; subst h; rfl
 | .d x :: cs, ds, h => by
   simp only [allD, Option.map_eq_some_iff] at h
   obtain ⟨a, h1, rfl⟩ := h
   simp [allD_spec cs a h1]
 | .nils :: _, _, h | .agg _ :: _, _, h | .tup _ :: _, _, h | .ptr _ _ :: _, _, h | .osl _ _ :: _, _, h | .pe _ _ _ _ _ :: _, _, h | .pp _ _ :: _, _, h
 | .func _ _ _ :: _, _, h | .iface _ _ :: _, _, h | .junk :: _, _, h | .csl _ :: _, _, h | .rsl _ _ _ :: _, _, h | .mp _ :: _, _, h | .anyb :: _, _, h => by simp [allD] at h
theorem mkAgg_den (cs : List V) (a : Array Value) (h : V.dens B φ H w cs a.toList) (hf : Flat a.toList) : V.den B φ H w (mkAgg cs) (.agg a) := by
 unfold mkAgg
 split
 ·rename_i ds hd
  have := allD_spec cs ds hd
  subst this
  exact ⟨a, rfl, (V.dens_map_d ds _).1 h, hf⟩
 ·exact ⟨a, rfl, h, hf⟩
theorem D.den_one : ∀ (x : D) (v : Value), D.den B w x v -> (∃ cs a, x = .agg cs /\ v = .agg a) \/ v.oneCell' = true /\ x.cells = [x] /\ v.cells = #[v]
 | .int _ _, _, h | .bool _, _, h | .nili, _, h | .nilp, _, h | .nilf, _, h | .nilm, _, h => by
   simp only [D.den] at h; subst h; exact .inr ⟨rfl, rfl, rfl⟩
 | .str l, _, h => by obtain ⟨s, rfl, _⟩ := h; exact .inr ⟨rfl, rfl, rfl⟩
 | .agg cs, _, h => by obtain ⟨a, rfl, _, _⟩ := h; exact .inl ⟨cs, a, rfl, rfl⟩
 | .sl es, _, h => by obtain ⟨b, l, c, rfl, _⟩ := h; exact .inr ⟨rfl, rfl, rfl⟩
 | .iface t x, _, h => by obtain ⟨u, rfl, _⟩ := h; exact .inr ⟨rfl, rfl, rfl⟩
 | .mp ks vs, _, h => by obtain ⟨m, es, c, p, rfl, _⟩ := h; exact .inr ⟨rfl, rfl, rfl⟩
theorem D.den_cells (x : D) (v : Value) (h : D.den B w x v) : D.dens B w x.cells v.cells.toList /\ Flat v.cells.toList := by
 rcases D.den_one x v h with ⟨cs, a, rfl, rfl⟩ | ⟨h1, h2, h3⟩
 ·obtain ⟨a', h1, h2, h3⟩ := h
  injection h1 with h1; subst h1
  exact ⟨h2, h3⟩
 ·rw [h2, h3]
  exact ⟨⟨v, [], rfl, h, rfl⟩, by intro u hu; simp at hu; subst hu; exact h1⟩
theorem V.den_one (x : V) (v : Value) (us : List V) (hx : x.cells = some us) (h : V.den B φ H w x v) : V.dens B φ H w us v.cells.toList /\ Flat v.cells.toList := by
 have one : ∀ (y : V), v.oneCell' = true -> V.den B φ H w y v -> V.dens B φ H w [y] v.cells.toList /\ Flat v.cells.toList := by
  intro y h1 h2
  have h3 : v.cells = #[v] := by cases v <;> simp_all [Value.oneCell', Value.cells]
  rw [h3]
  exact ⟨⟨v, [], rfl, h2, rfl⟩, by intro u hu; simp at hu; subst hu; exact h1⟩
 cases x with
 | d x =>
   simp only [V.cells, Option.some.injEq] at hx; subst hx
   have := D.den_cells x v h
   exact ⟨(V.dens_map_d _ _).2 this.1, this.2⟩
 | nils => simp only [V.cells, Option.some.injEq] at hx; subst hx; exact one _ (by cases h; rfl) h
 | agg cs =>
   simp only [V.cells, Option.some.injEq] at hx; subst hx
   obtain ⟨a, rfl, h1, h2⟩ := h
   exact ⟨h1, h2⟩
 | tup vs => simp [V.cells] at hx
 | junk => simp [V.cells] at hx
 | ptr id off => simp only [V.cells, Option.some.injEq] at hx; subst hx; exact one _ h.1 h
 | osl id ep => simp only [V.cells, Option.some.injEq] at hx; subst hx; exact one _ h.1 h
 | pe id ep i sz off => simp only [V.cells, Option.some.injEq] at hx; subst hx; exact one _ h.1 h
 | pp cs off => simp only [V.cells, Option.some.injEq] at hx; subst hx; exact one _ (by obtain ⟨a, ev, _, rfl, _⟩ := h; rfl) h
 | func fn f c => simp only [V.cells, Option.some.injEq] at hx; subst hx; exact one _ (by obtain ⟨a, ev, rfl, _⟩ := h; rfl) h
 | iface t y => simp only [V.cells, Option.some.injEq] at hx; subst hx; exact one _ (by obtain ⟨a, rfl, _⟩ := h; rfl) h
 | csl es => simp only [V.cells, Option.some.injEq] at hx; subst hx; exact one _ (by obtain ⟨_, b, n, rfl⟩ := h; rfl) h
 | rsl id off n => simp only [V.cells, Option.some.injEq] at hx; subst hx; exact one _ h.1 h
 | mp id => simp only [V.cells, Option.some.injEq] at hx; subst hx; exact one _ h.1 h
 | yld id => simp only [V.cells, Option.some.injEq] at hx; subst hx; exact one _ h.1 h
 | anyb => simp only [V.cells, Option.some.injEq] at hx; subst hx; exact one _ (by obtain ⟨a, rfl⟩ := h; rfl) h
theorem ofScalar_den (v : Value) (h : v.oneCell' = true) : V.den B φ H w (V.ofScalar v) v := by
 cases v <;> simp_all only [Value.oneCell', V.ofScalar, V.den, D.den] <;> try trivial
 all_goals (try (split <;> simp_all [V.den, D.den]))
 all_goals (try first | (simp_all [D.den]; done) | simp_all)
theorem ofScalars_dens : ∀ (vs : List Value), Flat vs -> V.dens B φ H w (vs.map V.ofScalar) vs
 | [], _ => rfl
 | v :: vs, h => ⟨v, vs, rfl, ofScalar_den v (h v (by simp)), ofScalars_dens vs fun u hu => h u (by simp [hu])⟩
end
end Go.Proofs.YtealblliddhgiaaGreat
