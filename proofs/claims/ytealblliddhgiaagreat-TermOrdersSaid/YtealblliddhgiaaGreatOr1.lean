/-
  A PART OF THE PROOF (put together by program): several texts, one behind the other. Conditions: none.
-/
import Derived.WalkKit
import Derived.Below
set_option linter.unusedSimpArgs false
set_option linter.unusedVariables false
namespace Go.Proofs.YtealblliddhgiaaGreat
def dstAt (ops : Array Oper) (j : Nat) : Option Tmp := (ops[j]?).bind (·.dst)
structure IOp where
  dst : Option Nat
  op : Op
  gd : Option (Nat × Bool) := none
instance : Inhabited IOp := ⟨⟨none, .ready 0, none⟩⟩
def dstOkB (n : Nat) : Option Tmp → Bool
  | some d => decide (d < n)
  | none => true
def lowO (n : Nat) (ops : Array Oper) (o : Oper) : Option IOp :=
  if dstOkB n o.dst = true then match o.guard with
    | none => some ⟨o.dst, o.op, none⟩
    | some (j, want) => match dstAt ops j with
      | some d => some ⟨o.dst, o.op, some (d, want)⟩
      | none => none
  else none
def lowL (n : Nat) (ops : Array Oper) : List Oper → Option (List IOp)
  | [] => some []
  | o :: l => match lowO n ops o, lowL n ops l with
    | some x, some xs => some (x :: xs)
    | _, _ => none
def tmpsOf (o : IOp) : List Nat := (o.op.operands.toList.filterMap fun | .tmp t => some t | _ => none) ++ (match o.gd with | some (d, _) => [d] | none => [])
def touches (o : IOp) : List Nat := tmpsOf o ++ o.dst.toList
def predsOf (ops : Array Oper) (i : Nat) : List Nat := match ops[i]? with | some o => (o.after.toList.filter (Region.binds .any)).map (·.on) | none => []
def ocOf (l : List IOp) (i : Nat) : IOp := l.getD i default
inductive IC where
  | skip | reg (l : List IOp) | drw (l : List IOp) (pr : List (List Nat)) | seq (a b : IC) | cond (c : Operand) (a b : IC) | block (id : Nat) (a : IC) | loop (a : IC) | exit (id : Nat) | ret | bad
  | rng (g : Operand) (ps : List Nat) (a b : IC)
  deriving Inhabited
inductive Jmp where
  | ret | exit (id : Nat)
def Jmp.code : Jmp → Code
  | .ret => .ret
  | .exit id => .exit id
def maskOf (acc : List Nat) : List Nat → Nat
  | [] => 0
  | j :: ps => (2 ^ j ||| acc.getD j 0) ||| maskOf acc ps
def masks : List (List Nat) → List Nat → List Nat
  | [], acc => acc
  | ps :: l, acc => masks l (acc ++ [maskOf acc ps])
def freeOf (x y : IOp) : Bool := match x.dst with | some d => !(touches y).contains d | none => true
def tmpsOkB (l : List IOp) (pr : List (List Nat)) : Bool :=
  (List.range l.length).all fun j => (List.range j).all fun i => ((masks pr []).getD j 0).testBit i || (freeOf (ocOf l i) (ocOf l j) && freeOf (ocOf l j) (ocOf l i))
def disj (xs ys : List Nat) : Bool := xs.all fun x => !ys.contains x
def objsOk (pr : List (List Nat)) (fp : List (List Nat × List Nat)) : Bool :=
  (List.range fp.length).all fun j => (List.range j).all fun i => ((masks pr []).getD j 0).testBit i ||
    (disj (fp.getD i ([], [])).2 (fp.getD j ([], [])).1 && disj (fp.getD i ([], [])).2 (fp.getD j ([], [])).2 && disj (fp.getD j ([], [])).2 (fp.getD i ([], [])).1)
def prOf (ops : Array Oper) : List (List Nat) := (List.range ops.size).map (predsOf ops)
def prOk (pr : List (List Nat)) : Bool := (List.range pr.length).all fun k => (pr.getD k []).all fun j => decide (j < k)
theorem maskOf_bit {acc : List Nat} {i : Nat} : ∀ (ps : List Nat), (maskOf acc ps).testBit i = true → ∃ j ∈ ps, i = j ∨ (acc.getD j 0).testBit i = true
  | [], h => by simp [maskOf] at h
  | j :: ps, h => by
    simp only [maskOf, Nat.testBit_or, Bool.or_eq_true] at h
    rcases h with (h | h) | h
    · rw [Nat.testBit_two_pow] at h
      exact ⟨j, by simp, .inl (by have h := of_decide_eq_true h; exact h.symm)⟩
    · exact ⟨j, by simp, .inr h⟩
    · obtain ⟨j', h1, h2⟩ := maskOf_bit ps h
      exact ⟨j', by simp [h1], h2⟩
theorem masks_old {k : Nat} : ∀ (l : List (List Nat)) (acc : List Nat), k < acc.length → (masks l acc).getD k 0 = acc.getD k 0
  | [], _, _ => rfl
  | ps :: l, acc, h => by
    rw [masks, masks_old l _ (by simp; omega)]
    simp [List.getD_eq_getElem?_getD, List.getElem?_append_left h]
theorem masks_bit {i : Nat} : ∀ (l : List (List Nat)) (acc : List Nat) (k : Nat), acc.length ≤ k → (∀ k', k' < l.length → ∀ j ∈ l.getD k' [], j < acc.length + k') → ((masks l acc).getD k 0).testBit i = true →
    ∃ j ∈ l.getD (k - acc.length) [], i = j ∨ ((masks l acc).getD j 0).testBit i = true
  | [], acc, k, hk, _, h => by
    simp only [masks] at h
    rw [List.getD_eq_getElem?_getD, List.getElem?_eq_none hk] at h
    simp at h
  | ps :: l, acc, k, hk, hp, h => by
    simp only [masks] at h ⊢
    by_cases he : k = acc.length
    · subst he
      rw [masks_old l _ (by simp)] at h
      have e : (acc ++ [maskOf acc ps]).getD acc.length 0 = maskOf acc ps := by simp [List.getD_eq_getElem?_getD]
      rw [e] at h
      obtain ⟨j, h1, h2⟩ := maskOf_bit ps h
      refine ⟨j, by simpa using h1, h2.imp id fun h2 => ?_⟩
      have hj : j < acc.length := by simpa using hp 0 (by simp) j (by simpa using h1)
      rw [masks_old l _ (by simp; omega)]
      simpa [List.getD_eq_getElem?_getD, List.getElem?_append_left hj] using h2
    · obtain ⟨j, h1, h2⟩ := masks_bit l (acc ++ [maskOf acc ps]) k (by simp; omega) (fun k' hk' j hj => by
        have := hp (k' + 1) (by simp; omega) j (by simpa using hj)
        simp; omega) h
      refine ⟨j, ?_, h2⟩
      have e : k - acc.length = (k - (acc ++ [maskOf acc ps]).length) + 1 := by simp; omega
      rw [e]; simpa using h1
theorem masks_closed {pr : List (List Nat)} (hp : ∀ k, k < pr.length → ∀ j ∈ pr.getD k [], j < k) {E : Nat → Bool} (hE : ∀ k, k < pr.length → E k = true → ∀ j ∈ pr.getD k [], E j = true) :
    ∀ k, k < pr.length → (∀ j ∈ pr.getD k [], E j = true) → ∀ i, ((masks pr []).getD k 0).testBit i = true → E i = true := by
  intro k
  induction k using Nat.strongRecOn with
  | ind k ih =>
    intro hk hj i hi
    obtain ⟨j, h1, h2⟩ := masks_bit pr [] k (by simp) (fun k' hk' j hj => by simpa using hp k' hk' j hj) hi
    simp only [List.length_nil, Nat.sub_zero] at h1
    rcases h2 with rfl | h2
    · exact hj _ h1
    · have hjk := hp k hk j h1
      exact ih j hjk (by omega) (hE j (by omega) (hj j h1)) i h2
theorem masks_lt {pr : List (List Nat)} (hp : ∀ k, k < pr.length → ∀ j ∈ pr.getD k [], j < k) : ∀ k, k < pr.length → ∀ i, ((masks pr []).getD k 0).testBit i = true → i < k := by
  intro k
  induction k using Nat.strongRecOn with
  | ind k ih =>
    intro hk i hi
    obtain ⟨j, h1, h2⟩ := masks_bit pr [] k (by simp) (fun k' hk' j hj => by simpa using hp k' hk' j hj) hi
    simp only [List.length_nil, Nat.sub_zero] at h1
    have hjk := hp k hk j h1
    rcases h2 with rfl | h2
    · exact hjk
    · have := ih j hjk (by omega) i h2; omega
def low (n : Nat) : Code → IC
  | .skip => .skip
  | .label _ => .skip
  | .scope c => low n c
  | .region _ ops false => match lowL n ops ops.toList with
    | some l => .reg l
    | none => .bad
  | .region _ ops true => match lowL n ops ops.toList with
    | some l => if tmpsOkB l (prOf ops) && prOk (prOf ops) then .drw l (prOf ops) else .bad
    | none => .bad
  | .seq a b => .seq (low n a) (low n b)
  | .cond c a b => .cond c (low n a) (low n b)
  | .block id a => .block id (low n a)
  | .loop a => .loop (low n a)
  | .exit id => .exit id
  | .ret => .ret
  | .rangeFunc g ps a b => .rng g ps.toList (low n a) (low n b)
  | _ => .bad
end Go.Proofs.YtealblliddhgiaaGreat
namespace Go.Proofs.YtealblliddhgiaaGreat
inductive D where
  | int (k : IntKind) (n : Int) | bool (b : Bool) | str (s : List UInt8)
  | nili | nilp | nilf | nilm
  | agg (cs : List D) | sl (es : List D) | iface (t : TypeId) (d : D)
  | mp (ks vs : List D)
  deriving Inhabited
def Flat (vs : List Value) : Prop := ∀ u ∈ vs, u.oneCell' = true
def CellsAt (B : Nat → Prop) (w : World) (a : Addr) (cs : Array Value) : Prop := ∀ j u, cs[j]? = some u → w.cell? (a.add j) = some u ∧ ¬ B a.block
def MapOk (es : Array MapEntry) (clock : Nat) : Prop := (∀ e ∈ es.toList, e.born < clock) ∧ (es.toList.map (·.born)).Nodup
mutual
def D.den (B : Nat → Prop) (w : World) : D → Value → Prop
  | .int k n, v => v = .int k n
  | .bool b, v => v = .bool b
  | .str l, v => ∃ s : ByteArray, v = .string s ∧ s.data.toList = l
  | .nili, v => v = .nilIface
  | .nilp, v => v = .pointer none
  | .nilf, v => v = .nilFunc
  | .nilm, v => v = .map none
  | .agg cs, v => ∃ a, v = .agg a ∧ D.dens B w cs a.toList ∧ Flat a.toList
  | .sl es, v => ∃ base len cap, v = .slice base len cap ∧ len = es.length ∧ len ≤ cap ∧ (base = none → cap = 0) ∧
      ∃ sz, ∀ a, base = some a → (cap ≠ 0 → a.spot = none) ∧ D.elems B w sz a 0 es
  | .iface t d, v => ∃ u, v = .iface t u ∧ D.den B w d u
  | .mp ks vs, v => ∃ m es clock, v = .map (some m) ∧ w.heap[m]? = some (.map es clock) ∧ ¬ B m ∧ MapOk es clock ∧ D.dens B w ks (es.toList.map (·.key)) ∧ D.dens B w vs (es.toList.map (·.val))
def D.dens (B : Nat → Prop) (w : World) : List D → List Value → Prop
  | [], vs => vs = []
  | d :: ds, vs => ∃ u us, vs = u :: us ∧ D.den B w d u ∧ D.dens B w ds us
def D.elems (B : Nat → Prop) (w : World) (sz : Nat) (a : Addr) : Nat → List D → Prop
  | _, [] => True
  | i, e :: es => (∃ ev : Value, ev.cells.size = sz ∧ CellsAt B w (a.add (i * sz)) ev.cells ∧ D.den B w e ev) ∧ D.elems B w sz a (i + 1) es
end
inductive V where
  | d (x : D) | nils | agg (cs : List V) | tup (vs : List V)
  | ptr (id off : Nat) | osl (id ep : Nat) | pe (id ep i sz off : Nat) | pp (cs : List D) (off : Nat)
  | func (fn : Fn) (first cap : List V) | iface (t : TypeId) (x : V)
  | junk
  | csl (es : List D) | rsl (id off n : Nat) | mp (id : Nat) | anyb | yld (id : Nat)
  deriving Inhabited
inductive Obj' where
  | no | row (cs : List V) | arr (ep : Nat) (ty : TypeId) (sz : Nat) (es : List D) | fro (ep : Nat) (es : List D)
  | map (kt vt : TypeId) (es : List (D × D))
  | loop (nf n : Nat) (env : List V) (ps : List Nat) (a b : IC) (st : LoopState) (pend : Option Jmp)
  | mfro (es : List (D × D)) | mit (es : List (D × D)) (last : Option (D × D)) | sit (s : List UInt8) (pos : Nat)
  deriving Inhabited
def envJ (l : List V) : Nat → V := fun i => l.getD i .junk
structure Hp where
  o : Nat → Obj'
  us : Nat → Prop
def Obj'.epoch : Obj' → Option Nat
  | .arr ep _ _ _ | .fro ep _ => some ep
  | _ => none
def Obj'.isRow : Obj' → Bool
  | .row _ | .map .. | .loop .. | .mfro _ | .mit .. | .sit .. => true
  | _ => false
def Obj'.live : Obj' → Bool
  | .row _ | .arr .. | .map .. | .loop .. | .mit .. | .sit .. => true
  | _ => false
def blk : Value → Option Nat
  | .pointer (some a) | .slice (some a) _ _ => some a.block
  | .map (some b) => some b
  | _ => none
abbrev Place := Nat → Value
def liveB (φ : Place) (H : Hp) (b : Nat) : Prop := ∃ id, (H.o id).live = true ∧ blk (φ id) = some b
def mutB (M : Nat → Prop) (φ : Place) (H : Hp) (b : Nat) : Prop := M b ∨ liveB φ H b
mutual
def V.den (B : Nat → Prop) (φ : Place) (H : Hp) (w : World) : V → Value → Prop
  | .d x, v => D.den B w x v
  | .nils, v => v = .slice none 0 0
  | .agg cs, v => ∃ a, v = .agg a ∧ V.dens B φ H w cs a.toList ∧ Flat a.toList
  | .tup vs, v => ∃ a, v = .tuple a ∧ V.dens B φ H w vs a.toList
  | .ptr id off, v => v.oneCell' = true ∧ H.us id ∧ ((H.o id).isRow = true → ∃ b, φ id = .pointer (some ⟨b, 0, none⟩) ∧ v = .pointer (some ⟨b, off, none⟩))
  | .osl id ep, v => v.oneCell' = true ∧ H.us id ∧ ∀ e, (H.o id).epoch = some e → ep ≤ e ∧ (ep = e → v = φ id)
  | .pe id ep i sz off, v => v.oneCell' = true ∧ H.us id ∧ ∀ e, (H.o id).epoch = some e → ep ≤ e ∧ (ep = e → ∃ b n c, φ id = .slice (some ⟨b, 0, none⟩) n c ∧ v = .pointer (some ⟨b, i * sz + off, none⟩))
  | .pp cs off, v => ∃ a ev, a.spot = none ∧ v = .pointer (some (a.add off)) ∧ D.dens B w cs ev ∧ Flat ev ∧ CellsAt B w a ev.toArray
  | .func fn first cap, v => ∃ f c, v = .func fn f c ∧ V.dens B φ H w first f.toList ∧ V.dens B φ H w cap c.toList
  | .iface t x, v => ∃ u, v = .iface t u ∧ V.den B φ H w x u
  | .junk, _ => True
  | .csl es, v => D.den B w (.sl es) v ∧ ∃ base n, v = .slice base n n
  | .rsl id off n, v => v.oneCell' = true ∧ H.us id ∧ ((H.o id).isRow = true → ∃ b, φ id = .pointer (some ⟨b, 0, none⟩) ∧ v = .slice (some ⟨b, off, none⟩) n n)
  | .mp id, v => v.oneCell' = true ∧ H.us id ∧ ((H.o id).isRow = true → v = φ id)
  | .anyb, v => ∃ b, v = .bool b
  | .yld id, v => v.oneCell' = true ∧ H.us id ∧ ((H.o id).isRow = true → ∃ b, φ id = .pointer (some ⟨b, 0, none⟩) ∧ v = .func (.yield b) #[] #[])
def V.dens (B : Nat → Prop) (φ : Place) (H : Hp) (w : World) : List V → List Value → Prop
  | [], vs => vs = []
  | x :: xs, vs => ∃ u us, vs = u :: us ∧ V.den B φ H w x u ∧ V.dens B φ H w xs us
end
def RowDen (B : Nat → Prop) (w : World) (sz : Nat) (es : List D) (xs : List Value) : Prop :=
  ∃ evs : List Value, xs = evs.flatMap (·.cells.toList) ∧ (∀ ev ∈ evs, ev.cells.size = sz) ∧ D.dens B w es evs
def EntsDen (B : Nat → Prop) (w : World) : List (D × D) → List MapEntry → Prop
  | [], es => es = []
  | (k, x) :: l, es => ∃ e es', es = e :: es' ∧ D.den B w k e.key ∧ D.den B w x e.val ∧ EntsDen B w l es'
def IterOk (B : Nat → Prop) (w : World) (l : List (D × D)) (last : Option (D × D)) (b : Nat) : Prop :=
  w.heap[b]? = some (.mapIter none 0 #[] 0) ∧ l = [] ∧ last = none ∨
  ∃ m since seen es, w.heap[b]? = some (.mapIter (some m) since seen since) ∧ w.heap[m]? = some (.map es since) ∧ ¬ B m ∧ MapOk es since ∧ EntsDen B w l (es.toList.filter fun e => !seen.contains e.born) ∧
    ∀ k x, last = some (k, x) → ∃ e ∈ es.toList, seen.back? = some e.born ∧ D.den B w k e.key ∧ D.den B w x e.val
def ObjOk (M : Nat → Prop) (φ : Place) (H : Hp) (w : World) (id : Nat) : Prop :=
  match H.o id with
  | .no => True
  | .row cs => ∃ b carr ty, φ id = .pointer (some ⟨b, 0, none⟩) ∧ w.heap[b]? = some (.cells carr ty (0, 0)) ∧ V.dens (mutB M φ H) φ H w cs carr.toList ∧ Flat carr.toList
  | .arr _ ty sz es => 0 < sz ∧ ∃ xs, w.ownsRow 0 ty sz (φ id) es.length xs ∧ RowDen (mutB M φ H) w sz es xs
  | .fro _ es => D.den (mutB M φ H) w (.sl es) (φ id)
  | .loop nf n env ps ica icb st pend => ∃ b r, φ id = .pointer (some ⟨b, 0, none⟩) ∧ w.heap[b]? = some (.loop r) ∧ r.fn < nf ∧ r.state = st ∧ r.pending = pend.map Jmp.code ∧ r.params.toList = ps ∧ r.tmps.size = n ∧ low n r.assign = ica ∧ low n r.body = icb ∧
      ∀ i, V.den (mutB M φ H) φ H w (envJ env i) (r.tmps.getD i undef)
  | .map _ _ l => ∃ b es clock, φ id = .map (some b) ∧ w.heap[b]? = some (.map es clock) ∧ MapOk es clock ∧ EntsDen (mutB M φ H) w l es.toList
  | .mfro l => D.den (mutB M φ H) w (.mp (l.map (·.1)) (l.map (·.2))) (φ id)
  | .mit l last => ∃ b, φ id = .pointer (some ⟨b, 0, none⟩) ∧ IterOk (mutB M φ H) w l last b
  | .sit s pos => ∃ b, φ id = .pointer (some ⟨b, 0, none⟩) ∧ w.heap[b]? = some (.stringIter ⟨⟨s⟩⟩ pos)
structure HeapOk (M : Nat → Prop) (φ : Place) (H : Hp) (w : World) : Prop where
  ok : ∀ id, ObjOk M φ H w id
  fresh : ∀ id, ¬ H.us id → H.o id = .no
  apart : ∀ i j b, (H.o i).live = true → (H.o j).live = true → blk (φ i) = some b → blk (φ j) = some b → i = j
  ours : ∀ b, liveB φ H b → ¬ M b ∧ b < w.heap.size
  old : ∀ b, M b → b < w.heap.size
structure Keep (m : Nat → Prop) (w w' : World) : Prop where
  os : w'.os = w.os
  tape : w'.tape = w.tape
  output : w'.output = w.output
  size : w.heap.size ≤ w'.heap.size
  block : ∀ k, k < w.heap.size → ¬ m k → w'.heap[k]? = w.heap[k]?
structure StepRel (φ : Place) (H : Hp) (φ' : Place) (H' : Hp) : Prop where
  us : ∀ id, H.us id → H'.us id
  row : ∀ id, H.us id → (H'.o id).isRow = true → (H.o id).isRow = true ∧ φ' id = φ id
  ep : ∀ id e', H.us id → (H'.o id).epoch = some e' → ∃ e, (H.o id).epoch = some e ∧ e ≤ e' ∧ (e = e' → φ' id = φ id)
structure Trans (φ : Place) (H : Hp) (w : World) (φ' : Place) (H' : Hp) (w' : World) : Prop where
  keep : Keep (liveB φ H) w w'
  grow : ∀ b, liveB φ' H' b → liveB φ H b ∨ w.heap.size ≤ b
  rel : StepRel φ H φ' H'
theorem Keep.refl (m : Nat → Prop) (w : World) : Keep m w w := ⟨rfl, rfl, rfl, Nat.le_refl _, fun _ _ _ => rfl⟩
theorem StepRel.refl (φ : Place) (H : Hp) : StepRel φ H φ H := ⟨fun _ h => h, fun _ _ h => ⟨h, rfl⟩, fun _ e' _ h => ⟨e', h, Nat.le_refl _, fun _ => rfl⟩⟩
theorem Trans.refl (φ : Place) (H : Hp) (w : World) : Trans φ H w φ H w := ⟨Keep.refl _ _, fun _ h => .inl h, StepRel.refl _ _⟩
theorem StepRel.trans {φ φ' φ'' : Place} {H H' H'' : Hp} (h : StepRel φ H φ' H') (k : StepRel φ' H' φ'' H'') : StepRel φ H φ'' H'' where
  us id hid := k.us id (h.us id hid)
  row id hid hr := by
    obtain ⟨a, b⟩ := k.row id (h.us id hid) hr
    obtain ⟨c, d⟩ := h.row id hid a
    exact ⟨c, b.trans d⟩
  ep id e' hid he := by
    obtain ⟨e, h1, h2, h3⟩ := k.ep id e' (h.us id hid) he
    obtain ⟨e0, g1, g2, g3⟩ := h.ep id e hid h1
    refine ⟨e0, g1, Nat.le_trans g2 h2, fun heq => ?_⟩
    have a : e0 = e := by omega
    have b : e = e' := by omega
    exact (h3 b).trans (g3 a)
theorem Trans.trans {φ φ' φ'' : Place} {H H' H'' : Hp} {w w' w'' : World} (h : Trans φ H w φ' H' w') (k : Trans φ' H' w' φ'' H'' w'') : Trans φ H w φ'' H'' w'' where
  keep := {
    os := k.keep.os.trans h.keep.os
    tape := k.keep.tape.trans h.keep.tape
    output := k.keep.output.trans h.keep.output
    size := Nat.le_trans h.keep.size k.keep.size
    block := fun b hb hm => by
      rw [k.keep.block b (Nat.lt_of_lt_of_le hb h.keep.size) (fun hl => by
        rcases h.grow b hl with h1 | h1
        · exact hm h1
        · omega), h.keep.block b hb hm] }
  grow b hl := by
    rcases k.grow b hl with h1 | h1
    · exact h.grow b h1
    · exact .inr (Nat.le_trans h.keep.size h1)
  rel := h.rel.trans k.rel
@[simp] theorem add_block (a : Addr) (j : Nat) : (a.add j).block = a.block := by unfold Addr.add; split <;> rfl
def Celly (w : World) (b : Nat) : Prop := ∃ cs ty fz, w.heap[b]? = some (.cells cs ty fz)
def Cellish (w : World) (b : Nat) : Prop := Celly w b ∨ ∃ es clock, w.heap[b]? = some (.map es clock)
theorem Cellish.lt {w : World} {b : Nat} (h : Cellish w b) : b < w.heap.size := by
  rcases Nat.lt_or_ge b w.heap.size with hl | hl
  · exact hl
  · rcases h with ⟨cs, ty, fz, h⟩ | ⟨es, clock, h⟩
    · rw [Array.getElem?_eq_none hl] at h; cases h
    · rw [Array.getElem?_eq_none hl] at h; cases h
theorem celly_of_cell {w : World} {a : Addr} {u : Value} (h : w.cell? a = some u) : Celly w a.block := by
  unfold World.cell? at h
  split at h
  · exact ⟨_, _, _, by assumption⟩
  · cases h
theorem cellish_of_cell {w : World} {a : Addr} {u : Value} (h : w.cell? a = some u) : Cellish w a.block := .inl (celly_of_cell h)
theorem CellsAt.mono {B B' : Nat → Prop} {w w' : World} {a : Addr} {cs : Array Value}
    (hb : ∀ b, Cellish w b → ¬ B b → w'.heap[b]? = w.heap[b]? ∧ ¬ B' b) (h : CellsAt B w a cs) : CellsAt B' w' a cs := by
  intro j u hj
  obtain ⟨h1, h2⟩ := h j u hj
  have hlt : Cellish w a.block := by simpa using cellish_of_cell h1
  obtain ⟨h3, h4⟩ := hb _ hlt h2
  exact ⟨by rw [World.cell?_of_block (w := w) (w' := w') (a := a.add j) (by simpa using h3)]; exact h1, h4⟩
mutual
theorem D.den_mono {B B' : Nat → Prop} {w w' : World} (hb : ∀ b, Cellish w b → ¬ B b → w'.heap[b]? = w.heap[b]? ∧ ¬ B' b) :
    ∀ (x : D) (v : Value), D.den B w x v → D.den B' w' x v
  | .int _ _, _, h | .bool _, _, h | .str _, _, h | .nili, _, h | .nilp, _, h | .nilf, _, h | .nilm, _, h => by simpa [D.den] using h
  | .agg cs, _, h => by
    obtain ⟨a, rfl, h, hf⟩ := h
    exact ⟨a, rfl, D.dens_mono hb cs _ h, hf⟩
  | .sl es, _, h => by
    obtain ⟨base, len, cap, rfl, h1, h2, h3, sz, h4⟩ := h
    exact ⟨base, len, cap, rfl, h1, h2, h3, sz, fun a ha => ⟨(h4 a ha).1, D.elems_mono hb sz a es 0 (h4 a ha).2⟩⟩
  | .iface t d, _, h => by
    obtain ⟨u, rfl, h⟩ := h
    exact ⟨u, rfl, D.den_mono hb d u h⟩
  | .mp ks vs, _, h => by
    obtain ⟨m, es, clock, rfl, h1, h2, h3, h4, h5⟩ := h
    obtain ⟨k1, k2⟩ := hb m (.inr ⟨es, clock, h1⟩) h2
    exact ⟨m, es, clock, rfl, k1.trans h1, k2, h3, D.dens_mono hb ks _ h4, D.dens_mono hb vs _ h5⟩
theorem D.dens_mono {B B' : Nat → Prop} {w w' : World} (hb : ∀ b, Cellish w b → ¬ B b → w'.heap[b]? = w.heap[b]? ∧ ¬ B' b) :
    ∀ (ds : List D) (vs : List Value), D.dens B w ds vs → D.dens B' w' ds vs
  | [], _, h => h
  | d :: ds, _, h => by
    obtain ⟨u, us, rfl, h1, h2⟩ := h
    exact ⟨u, us, rfl, D.den_mono hb d u h1, D.dens_mono hb ds us h2⟩
theorem D.elems_mono {B B' : Nat → Prop} {w w' : World} (hb : ∀ b, Cellish w b → ¬ B b → w'.heap[b]? = w.heap[b]? ∧ ¬ B' b) (sz : Nat) (a : Addr) :
    ∀ (es : List D) (i : Nat), D.elems B w sz a i es → D.elems B' w' sz a i es
  | [], _, _ => trivial
  | e :: es, i, h => by
    obtain ⟨⟨ev, h1, h2, h3⟩, h4⟩ := h
    exact ⟨⟨ev, h1, h2.mono hb, D.den_mono hb e ev h3⟩, D.elems_mono hb sz a es (i + 1) h4⟩
end
theorem EntsDen.mono {B B' : Nat → Prop} {w w' : World} (hb : ∀ b, Cellish w b → ¬ B b → w'.heap[b]? = w.heap[b]? ∧ ¬ B' b) :
    ∀ (l : List (D × D)) (es : List MapEntry), EntsDen B w l es → EntsDen B' w' l es
  | [], _, h => h
  | (k, x) :: l, _, h => by
    obtain ⟨e, es, rfl, h1, h2, h3⟩ := h
    exact ⟨e, es, rfl, D.den_mono hb k _ h1, D.den_mono hb x _ h2, EntsDen.mono hb l es h3⟩
theorem IterOk.mono {B B' : Nat → Prop} {w w' : World} (hb : ∀ b, Cellish w b → ¬ B b → w'.heap[b]? = w.heap[b]? ∧ ¬ B' b) {l : List (D × D)} {last : Option (D × D)} {b : Nat} (hbb : w'.heap[b]? = w.heap[b]?) (h : IterOk B w l last b) : IterOk B' w' l last b := by
  rcases h with ⟨h1, h2⟩ | ⟨m, since, seen, es, h1, h2, h3, h4, h5, h6⟩
  · exact .inl ⟨hbb.trans h1, h2⟩
  · obtain ⟨k1, k2⟩ := hb m (.inr ⟨es, since, h2⟩) h3
    refine .inr ⟨m, since, seen, es, hbb.trans h1, k1.trans h2, k2, h4, EntsDen.mono hb l _ h5, fun k x e => ?_⟩
    obtain ⟨e, g1, g2, g3, g4⟩ := h6 k x e
    exact ⟨e, g1, g2, D.den_mono hb k _ g3, D.den_mono hb x _ g4⟩
theorem ents_dens {B : Nat → Prop} {w : World} : ∀ (l : List (D × D)) (es : List MapEntry), EntsDen B w l es ↔ D.dens B w (l.map (·.1)) (es.map (·.key)) ∧ D.dens B w (l.map (·.2)) (es.map (·.val))
  | [], es => by
    simp only [EntsDen, List.map_nil, D.dens]
    constructor
    · rintro rfl; exact ⟨rfl, rfl⟩
    · rintro ⟨h, _⟩; simpa using h
  | (k, x) :: l, es => by
    simp only [EntsDen, List.map_cons, D.dens]
    constructor
    · rintro ⟨e, es', rfl, h1, h2, h3⟩
      obtain ⟨g1, g2⟩ := (ents_dens l es').1 h3
      exact ⟨⟨_, _, rfl, h1, g1⟩, ⟨_, _, rfl, h2, g2⟩⟩
    · rintro ⟨⟨u, us, h1, h2, h3⟩, ⟨v, vs, h4, h5, h6⟩⟩
      cases es with
      | nil => simp at h1
      | cons e es' =>
        simp only [List.map_cons, List.cons.injEq] at h1 h4
        obtain ⟨rfl, rfl⟩ := h1
        obtain ⟨rfl, rfl⟩ := h4
        exact ⟨e, es', rfl, h2, h5, (ents_dens l es').2 ⟨h3, h6⟩⟩
theorem D.dens_length {B : Nat → Prop} {w : World} : ∀ (ds : List D) (vs : List Value), D.dens B w ds vs → vs.length = ds.length
  | [], _, h => by simp [D.dens] at h; simp [h]
  | d :: ds, _, h => by obtain ⟨u, us, rfl, _, h2⟩ := h; simp [D.dens_length ds us h2]
theorem D.dens_get {B : Nat → Prop} {w : World} : ∀ (ds : List D) (vs : List Value) (i : Nat) (d : D), D.dens B w ds vs → ds[i]? = some d → ∃ v, vs[i]? = some v ∧ D.den B w d v
  | [], _, _, _, _, hd => by simp at hd
  | d :: ds, _, 0, x, h, hd => by
    obtain ⟨u, us, rfl, h1, _⟩ := h
    simp at hd; subst hd; exact ⟨u, by simp, h1⟩
  | d :: ds, _, i + 1, x, h, hd => by
    obtain ⟨u, us, rfl, _, h2⟩ := h
    simpa using D.dens_get ds us i x h2 (by simpa using hd)
theorem D.elems_get {B : Nat → Prop} {w : World} {sz : Nat} {a : Addr} : ∀ (es : List D) (i j : Nat) (e : D), D.elems B w sz a i es → es[j]? = some e →
    ∃ ev : Value, ev.cells.size = sz ∧ CellsAt B w (a.add ((i + j) * sz)) ev.cells ∧ D.den B w e ev
  | [], _, _, _, _, hd => by simp at hd
  | e :: es, i, 0, x, h, hd => by
    simp at hd; subst hd; simpa using h.1
  | e :: es, i, j + 1, x, h, hd => by
    have := D.elems_get es (i + 1) j x h.2 (by simpa using hd)
    simpa [Nat.add_assoc, Nat.add_comm 1 j] using this
section
variable {M : Nat → Prop} {φ φ' : Place} {H H' : Hp} {w w' : World}
theorem Trans.blocks (ht : Trans φ H w φ' H' w') (b : Nat) (hc : Cellish w b) (h : ¬ mutB M φ H b) : w'.heap[b]? = w.heap[b]? ∧ ¬ mutB M φ' H' b := by
  have hb := hc.lt
  refine ⟨ht.keep.block b hb fun hl => h (.inr hl), ?_⟩
  rintro (h1 | h1)
  · exact h (.inl h1)
  · rcases ht.grow b h1 with h2 | h2
    · exact h (.inr h2)
    · omega
mutual
theorem V.den_mono' (hb : ∀ b, Cellish w b → ¬ mutB M φ H b → w'.heap[b]? = w.heap[b]? ∧ ¬ mutB M φ' H' b) (hr : StepRel φ H φ' H') : ∀ (x : V) (v : Value), V.den (mutB M φ H) φ H w x v → V.den (mutB M φ' H') φ' H' w' x v
  | .d x, v, h => D.den_mono hb x v h
  | .nils, _, h => h
  | .junk, _, _ => trivial
  | .csl es, v, h => ⟨D.den_mono hb (.sl es) v h.1, h.2⟩
  | .rsl id off n, v, h => by
    obtain ⟨h0, h1, h2⟩ := h
    refine ⟨h0, hr.us id h1, fun hrow => ?_⟩
    obtain ⟨h3, h4⟩ := hr.row id h1 hrow
    obtain ⟨b, h5, h6⟩ := h2 h3
    exact ⟨b, h4.trans h5, h6⟩
  | .mp id, v, h => by
    obtain ⟨h0, h1, h2⟩ := h
    refine ⟨h0, hr.us id h1, fun hrow => ?_⟩
    obtain ⟨h3, h4⟩ := hr.row id h1 hrow
    exact (h2 h3).trans h4.symm
  | .anyb, v, h => h
  | .yld id, v, h => by
    obtain ⟨h0, h1, h2⟩ := h
    refine ⟨h0, hr.us id h1, fun hrow => ?_⟩
    obtain ⟨h3, h4⟩ := hr.row id h1 hrow
    obtain ⟨b, h5, h6⟩ := h2 h3
    exact ⟨b, h4.trans h5, h6⟩
  | .agg cs, _, h => by obtain ⟨a, rfl, h, hf⟩ := h; exact ⟨a, rfl, V.dens_mono' hb hr cs _ h, hf⟩
  | .tup cs, _, h => by obtain ⟨a, rfl, h⟩ := h; exact ⟨a, rfl, V.dens_mono' hb hr cs _ h⟩
  | .ptr id off, v, h => by
    obtain ⟨h0, h1, h2⟩ := h
    refine ⟨h0, hr.us id h1, fun hrow => ?_⟩
    obtain ⟨h3, h4⟩ := hr.row id h1 hrow
    obtain ⟨b, h5, h6⟩ := h2 h3
    exact ⟨b, h4.trans h5, h6⟩
  | .osl id ep, v, h => by
    obtain ⟨h0, h1, h2⟩ := h
    refine ⟨h0, hr.us id h1, fun e' he' => ?_⟩
    obtain ⟨e, g1, g2, g3⟩ := hr.ep id e' h1 he'
    obtain ⟨h3, h4⟩ := h2 e g1
    refine ⟨Nat.le_trans h3 g2, fun heq => ?_⟩
    rw [g3 (by omega)]
    exact h4 (by omega)
  | .pe id ep i sz off, v, h => by
    obtain ⟨h0, h1, h2⟩ := h
    refine ⟨h0, hr.us id h1, fun e' he' => ?_⟩
    obtain ⟨e, g1, g2, g3⟩ := hr.ep id e' h1 he'
    obtain ⟨h3, h4⟩ := h2 e g1
    refine ⟨Nat.le_trans h3 g2, fun heq => ?_⟩
    rw [g3 (by omega)]
    exact h4 (by omega)
  | .pp cs off, v, h => by
    obtain ⟨a, ev, h1, h2, h3, h5, h4⟩ := h
    exact ⟨a, ev, h1, h2, D.dens_mono hb cs ev h3, h5, h4.mono hb⟩
  | .func fn first cap, _, h => by
    obtain ⟨f, c, rfl, h1, h2⟩ := h
    exact ⟨f, c, rfl, V.dens_mono' hb hr first _ h1, V.dens_mono' hb hr cap _ h2⟩
  | .iface t x, _, h => by obtain ⟨u, rfl, h⟩ := h; exact ⟨u, rfl, V.den_mono' hb hr x u h⟩
theorem V.dens_mono' (hb : ∀ b, Cellish w b → ¬ mutB M φ H b → w'.heap[b]? = w.heap[b]? ∧ ¬ mutB M φ' H' b) (hr : StepRel φ H φ' H') : ∀ (ds : List V) (vs : List Value), V.dens (mutB M φ H) φ H w ds vs → V.dens (mutB M φ' H') φ' H' w' ds vs
  | [], _, h => h
  | x :: xs, _, h => by
    obtain ⟨u, us, rfl, h1, h2⟩ := h
    exact ⟨u, us, rfl, V.den_mono' hb hr x u h1, V.dens_mono' hb hr xs us h2⟩
end
theorem V.den_mono (ht : Trans φ H w φ' H' w') (x : V) (v : Value) (h : V.den (mutB M φ H) φ H w x v) : V.den (mutB M φ' H') φ' H' w' x v := V.den_mono' ht.blocks ht.rel x v h
theorem V.dens_mono (ht : Trans φ H w φ' H' w') (ds : List V) (vs : List Value) (h : V.dens (mutB M φ H) φ H w ds vs) : V.dens (mutB M φ' H') φ' H' w' ds vs := V.dens_mono' ht.blocks ht.rel ds vs h
end
end Go.Proofs.YtealblliddhgiaaGreat
