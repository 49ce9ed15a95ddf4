/-
  DATA WITHOUT MEMORY: values D (slices as lists), values V of a running function (with a small heap of boxed variables and owned arrays), what they mean in a world, and that this is kept by all that does not write into the function's own memory. Conditions: none (a library of lemmas).
-/
import Derived.Test.YtaafchgfibbmhaaCoreA0
namespace Go.Proofs.Ytaafchgfibbmhaa

/-- Data: what a value means where memory is not written any more. -/
inductive D where
  | int (k : IntKind) (n : Int) | bool (b : Bool) | str (s : List UInt8)
  | nili | nilp | nilf | nilm
  | agg (cs : List D) | sl (es : List D) | iface (t : TypeId) (d : D)
  deriving Inhabited

/-- Each the value of one cell. -/
def Flat (vs : List Value) : Prop := ∀ u ∈ vs, u.oneCell' = true
/-- Cells that hold these, in a block that nobody writes. -/
def CellsAt (B : Nat → Prop) (w : World) (a : Addr) (cs : Array Value) : Prop := ∀ j u, cs[j]? = some u → w.cell? (a.add j) = some u ∧ ¬ B a.block

mutual
def D.den (B : Nat → Prop) (w : World) : D → Value → Prop
  | .int k n, v => v = .int k n
  | .bool b, v => v = .bool b
  | .str l, v => ∃ s : ByteArray, v = .string s ∧ s.data.toList = l
  | .nili, v => v = .nilIface
  | .nilp, v => v = .pointer none
  | .nilf, v => v = .nilFunc
  | .nilm, v => v = .map none
  | .agg cs, v => ∃ a, v = .agg a ∧ D.dens B w cs a.toList ∧ Flat a.toList
  | .sl es, v => ∃ base len cap, v = .slice base len cap ∧ len = es.length ∧ len ≤ cap ∧ (base = none → cap = 0) ∧
      ∃ sz, ∀ a, base = some a → (cap ≠ 0 → a.spot = none) ∧ D.elems B w sz a 0 es
  | .iface t d, v => ∃ u, v = .iface t u ∧ D.den B w d u
def D.dens (B : Nat → Prop) (w : World) : List D → List Value → Prop
  | [], vs => vs = []
  | d :: ds, vs => ∃ u us, vs = u :: us ∧ D.den B w d u ∧ D.dens B w ds us
def D.elems (B : Nat → Prop) (w : World) (sz : Nat) (a : Addr) : Nat → List D → Prop
  | _, [] => True
  | i, e :: es => (∃ ev : Value, ev.cells.size = sz ∧ CellsAt B w (a.add (i * sz)) ev.cells ∧ D.den B w e ev) ∧ D.elems B w sz a (i + 1) es
end

/-- Values of a running function. 'ptr', 'osl', 'pe', 'mp' name objects of its heap by number; 'pp' points into data. 'csl': data whose array has no more room; 'rsl': a variable's cells as a slice; 'anyb': some bool; 'yld': the yield function of a range over a function. -/
inductive V where
  | d (x : D) | nils | agg (cs : List V) | tup (vs : List V)
  | ptr (id off : Nat) | osl (id ep : Nat) | pe (id ep i sz off : Nat) | pp (cs : List D) (off : Nat)
  | func (fn : Fn) (first cap : List V) | iface (t : TypeId) (x : V)
  | junk
  | csl (es : List D) | rsl (id off n : Nat) | mp (id : Nat) | anyb | yld (id : Nat)
  deriving Inhabited

/-- Objects: a variable's row of cells; an array that only we hold (its epoch, element's type, cells an element); one that nobody writes any more. -/
inductive Obj' where
  | no | row (cs : List V) | arr (ep : Nat) (ty : TypeId) (sz : Nat) (es : List D) | fro (ep : Nat) (es : List D)
  | map (kt vt : TypeId) (es : List (D × D))
  | loop (nf n : Nat) (env : List V) (ps : List Nat) (a b : IC) (st : LoopState) (pend : Option Jmp)
  deriving Inhabited

/-- Temporaries said in full: the rest is not looked at. -/
def envJ (l : List V) : Nat → V := fun i => l.getD i .junk

/-- A heap: the objects; which numbers have been given out. -/
structure Hp where
  o : Nat → Obj'
  us : Nat → Prop

def Obj'.epoch : Obj' → Option Nat
  | .arr ep _ _ _ | .fro ep _ => some ep
  | _ => none
def Obj'.isRow : Obj' → Bool
  | .row _ | .map .. | .loop .. => true
  | _ => false
def Obj'.live : Obj' → Bool
  | .row _ | .arr .. | .map .. | .loop .. => true
  | _ => false

/-- The block of an object's own value. -/
def blk : Value → Option Nat
  | .pointer (some a) | .slice (some a) _ _ => some a.block
  | .map (some b) => some b
  | _ => none

abbrev Place := Nat → Value

/-- The blocks of live objects. -/
def liveB (φ : Place) (H : Hp) (b : Nat) : Prop := ∃ id, (H.o id).live = true ∧ blk (φ id) = some b
/-- The blocks that may be written: by those who called us, or by us. -/
def mutB (M : Nat → Prop) (φ : Place) (H : Hp) (b : Nat) : Prop := M b ∨ liveB φ H b

mutual
def V.den (B : Nat → Prop) (φ : Place) (H : Hp) (w : World) : V → Value → Prop
  | .d x, v => D.den B w x v
  | .nils, v => v = .slice none 0 0
  | .agg cs, v => ∃ a, v = .agg a ∧ V.dens B φ H w cs a.toList ∧ Flat a.toList
  | .tup vs, v => ∃ a, v = .tuple a ∧ V.dens B φ H w vs a.toList
  | .ptr id off, v => v.oneCell' = true ∧ H.us id ∧ ((H.o id).isRow = true → ∃ b, φ id = .pointer (some ⟨b, 0, none⟩) ∧ v = .pointer (some ⟨b, off, none⟩))
  | .osl id ep, v => v.oneCell' = true ∧ H.us id ∧ ∀ e, (H.o id).epoch = some e → ep ≤ e ∧ (ep = e → v = φ id)
  | .pe id ep i sz off, v => v.oneCell' = true ∧ H.us id ∧ ∀ e, (H.o id).epoch = some e → ep ≤ e ∧ (ep = e → ∃ b n c, φ id = .slice (some ⟨b, 0, none⟩) n c ∧ v = .pointer (some ⟨b, i * sz + off, none⟩))
  | .pp cs off, v => ∃ a ev, a.spot = none ∧ v = .pointer (some (a.add off)) ∧ D.dens B w cs ev ∧ Flat ev ∧ CellsAt B w a ev.toArray
  | .func fn first cap, v => ∃ f c, v = .func fn f c ∧ V.dens B φ H w first f.toList ∧ V.dens B φ H w cap c.toList
  | .iface t x, v => ∃ u, v = .iface t u ∧ V.den B φ H w x u
  | .junk, _ => True
  | .csl es, v => D.den B w (.sl es) v ∧ ∃ base n, v = .slice base n n
  | .rsl id off n, v => v.oneCell' = true ∧ H.us id ∧ ((H.o id).isRow = true → ∃ b, φ id = .pointer (some ⟨b, 0, none⟩) ∧ v = .slice (some ⟨b, off, none⟩) n n)
  | .mp id, v => v.oneCell' = true ∧ H.us id ∧ ((H.o id).isRow = true → v = φ id)
  | .anyb, v => ∃ b, v = .bool b
  | .yld id, v => v.oneCell' = true ∧ H.us id ∧ ((H.o id).isRow = true → ∃ b, φ id = .pointer (some ⟨b, 0, none⟩) ∧ v = .func (.yield b) #[] #[])
def V.dens (B : Nat → Prop) (φ : Place) (H : Hp) (w : World) : List V → List Value → Prop
  | [], vs => vs = []
  | x :: xs, vs => ∃ u us, vs = u :: us ∧ V.den B φ H w x u ∧ V.dens B φ H w xs us
end

/-- An array's cells: element by element. -/
def RowDen (B : Nat → Prop) (w : World) (sz : Nat) (es : List D) (xs : List Value) : Prop :=
  ∃ evs : List Value, xs = evs.flatMap (·.cells.toList) ∧ (∀ ev ∈ evs, ev.cells.size = sz) ∧ D.dens B w es evs

/-- A map's entries. -/
def EntsDen (B : Nat → Prop) (w : World) : List (D × D) → List MapEntry → Prop
  | [], es => es = []
  | (k, x) :: l, es => ∃ e es', es = e :: es' ∧ D.den B w k e.key ∧ D.den B w x e.val ∧ EntsDen B w l es'

def ObjOk (M : Nat → Prop) (φ : Place) (H : Hp) (w : World) (id : Nat) : Prop :=
  match H.o id with
  | .no => True
  | .row cs => ∃ b carr ty, φ id = .pointer (some ⟨b, 0, none⟩) ∧ w.heap[b]? = some (.cells carr ty (0, 0)) ∧ V.dens (mutB M φ H) φ H w cs carr.toList ∧ Flat carr.toList
  | .arr _ ty sz es => 0 < sz ∧ ∃ xs, w.ownsRow 0 ty sz (φ id) es.length xs ∧ RowDen (mutB M φ H) w sz es xs
  | .fro _ es => D.den (mutB M φ H) w (.sl es) (φ id)
  | .loop nf n env ps ica icb st pend => ∃ b r, φ id = .pointer (some ⟨b, 0, none⟩) ∧ w.heap[b]? = some (.loop r) ∧ r.fn < nf ∧ r.state = st ∧ r.pending = pend.map Jmp.code ∧ r.params.toList = ps ∧ r.tmps.size = n ∧ low n r.assign = ica ∧ low n r.body = icb ∧
      ∀ i, V.den (mutB M φ H) φ H w (envJ env i) (r.tmps.getD i undef)
  | .map _ _ l => ∃ b es clock, φ id = .map (some b) ∧ w.heap[b]? = some (.map es clock) ∧ EntsDen (mutB M φ H) w l es.toList

structure HeapOk (M : Nat → Prop) (φ : Place) (H : Hp) (w : World) : Prop where
  ok : ∀ id, ObjOk M φ H w id
  fresh : ∀ id, ¬ H.us id → H.o id = .no
  apart : ∀ i j b, (H.o i).live = true → (H.o j).live = true → blk (φ i) = some b → blk (φ j) = some b → i = j
  ours : ∀ b, liveB φ H b → ¬ M b ∧ b < w.heap.size
  old : ∀ b, M b → b < w.heap.size

structure Keep (m : Nat → Prop) (w w' : World) : Prop where
  os : w'.os = w.os
  tape : w'.tape = w.tape
  output : w'.output = w.output
  size : w.heap.size ≤ w'.heap.size
  block : ∀ k, k < w.heap.size → ¬ m k → w'.heap[k]? = w.heap[k]?

structure StepRel (φ : Place) (H : Hp) (φ' : Place) (H' : Hp) : Prop where
  us : ∀ id, H.us id → H'.us id
  row : ∀ id, H.us id → (H'.o id).isRow = true → (H.o id).isRow = true ∧ φ' id = φ id
  ep : ∀ id e', H.us id → (H'.o id).epoch = some e' → ∃ e, (H.o id).epoch = some e ∧ e ≤ e' ∧ (e = e' → φ' id = φ id)

structure Trans (φ : Place) (H : Hp) (w : World) (φ' : Place) (H' : Hp) (w' : World) : Prop where
  keep : Keep (liveB φ H) w w'
  grow : ∀ b, liveB φ' H' b → liveB φ H b ∨ w.heap.size ≤ b
  rel : StepRel φ H φ' H'

theorem Keep.refl (m : Nat → Prop) (w : World) : Keep m w w := ⟨rfl, rfl, rfl, Nat.le_refl _, fun _ _ _ => rfl⟩
theorem StepRel.refl (φ : Place) (H : Hp) : StepRel φ H φ H := ⟨fun _ h => h, fun _ _ h => ⟨h, rfl⟩, fun _ e' _ h => ⟨e', h, Nat.le_refl _, fun _ => rfl⟩⟩
theorem Trans.refl (φ : Place) (H : Hp) (w : World) : Trans φ H w φ H w := ⟨Keep.refl _ _, fun _ h => .inl h, StepRel.refl _ _⟩

theorem StepRel.trans {φ φ' φ'' : Place} {H H' H'' : Hp} (h : StepRel φ H φ' H') (k : StepRel φ' H' φ'' H'') : StepRel φ H φ'' H'' where
  us id hid := k.us id (h.us id hid)
  row id hid hr := by
    obtain ⟨a, b⟩ := k.row id (h.us id hid) hr
    obtain ⟨c, d⟩ := h.row id hid a
    exact ⟨c, b.trans d⟩
  ep id e' hid he := by
    obtain ⟨e, h1, h2, h3⟩ := k.ep id e' (h.us id hid) he
    obtain ⟨e0, g1, g2, g3⟩ := h.ep id e hid h1
    refine ⟨e0, g1, Nat.le_trans g2 h2, fun heq => ?_⟩
    have a : e0 = e := by omega
    have b : e = e' := by omega
    exact (h3 b).trans (g3 a)

theorem Trans.trans {φ φ' φ'' : Place} {H H' H'' : Hp} {w w' w'' : World} (h : Trans φ H w φ' H' w') (k : Trans φ' H' w' φ'' H'' w'') : Trans φ H w φ'' H'' w'' where
  keep := {
    os := k.keep.os.trans h.keep.os
    tape := k.keep.tape.trans h.keep.tape
    output := k.keep.output.trans h.keep.output
    size := Nat.le_trans h.keep.size k.keep.size
    block := fun b hb hm => by
      rw [k.keep.block b (Nat.lt_of_lt_of_le hb h.keep.size) (fun hl => by
        rcases h.grow b hl with h1 | h1
        · exact hm h1
        · omega), h.keep.block b hb hm] }
  grow b hl := by
    rcases k.grow b hl with h1 | h1
    · exact h.grow b h1
    · exact .inr (Nat.le_trans h.keep.size h1)
  rel := h.rel.trans k.rel

/-! Keeping what values mean -/
@[simp] theorem add_block (a : Addr) (j : Nat) : (a.add j).block = a.block := by unfold Addr.add; split <;> rfl

/-- A block of cells. -/
def Cellish (w : World) (b : Nat) : Prop := ∃ cs ty fz, w.heap[b]? = some (.cells cs ty fz)
theorem Cellish.lt {w : World} {b : Nat} (h : Cellish w b) : b < w.heap.size := by
  obtain ⟨cs, ty, fz, h⟩ := h
  rcases Nat.lt_or_ge b w.heap.size with hl | hl
  · exact hl
  · rw [Array.getElem?_eq_none hl] at h; cases h
theorem cellish_of_cell {w : World} {a : Addr} {u : Value} (h : w.cell? a = some u) : Cellish w a.block := by
  unfold World.cell? at h
  split at h
  · exact ⟨_, _, _, by assumption⟩
  · cases h
theorem CellsAt.mono {B B' : Nat → Prop} {w w' : World} {a : Addr} {cs : Array Value}
    (hb : ∀ b, Cellish w b → ¬ B b → w'.heap[b]? = w.heap[b]? ∧ ¬ B' b) (h : CellsAt B w a cs) : CellsAt B' w' a cs := by
  intro j u hj
  obtain ⟨h1, h2⟩ := h j u hj
  have hlt : Cellish w a.block := by simpa using cellish_of_cell h1
  obtain ⟨h3, h4⟩ := hb _ hlt h2
  exact ⟨by rw [World.cell?_of_block (w := w) (w' := w') (a := a.add j) (by simpa using h3)]; exact h1, h4⟩

mutual
theorem D.den_mono {B B' : Nat → Prop} {w w' : World} (hb : ∀ b, Cellish w b → ¬ B b → w'.heap[b]? = w.heap[b]? ∧ ¬ B' b) :
    ∀ (x : D) (v : Value), D.den B w x v → D.den B' w' x v
  | .int _ _, _, h | .bool _, _, h | .str _, _, h | .nili, _, h | .nilp, _, h | .nilf, _, h | .nilm, _, h => by simpa [D.den] using h
  | .agg cs, _, h => by
    obtain ⟨a, rfl, h, hf⟩ := h
    exact ⟨a, rfl, D.dens_mono hb cs _ h, hf⟩
  | .sl es, _, h => by
    obtain ⟨base, len, cap, rfl, h1, h2, h3, sz, h4⟩ := h
    exact ⟨base, len, cap, rfl, h1, h2, h3, sz, fun a ha => ⟨(h4 a ha).1, D.elems_mono hb sz a es 0 (h4 a ha).2⟩⟩
  | .iface t d, _, h => by
    obtain ⟨u, rfl, h⟩ := h
    exact ⟨u, rfl, D.den_mono hb d u h⟩
theorem D.dens_mono {B B' : Nat → Prop} {w w' : World} (hb : ∀ b, Cellish w b → ¬ B b → w'.heap[b]? = w.heap[b]? ∧ ¬ B' b) :
    ∀ (ds : List D) (vs : List Value), D.dens B w ds vs → D.dens B' w' ds vs
  | [], _, h => h
  | d :: ds, _, h => by
    obtain ⟨u, us, rfl, h1, h2⟩ := h
    exact ⟨u, us, rfl, D.den_mono hb d u h1, D.dens_mono hb ds us h2⟩
theorem D.elems_mono {B B' : Nat → Prop} {w w' : World} (hb : ∀ b, Cellish w b → ¬ B b → w'.heap[b]? = w.heap[b]? ∧ ¬ B' b) (sz : Nat) (a : Addr) :
    ∀ (es : List D) (i : Nat), D.elems B w sz a i es → D.elems B' w' sz a i es
  | [], _, _ => trivial
  | e :: es, i, h => by
    obtain ⟨⟨ev, h1, h2, h3⟩, h4⟩ := h
    exact ⟨⟨ev, h1, h2.mono hb, D.den_mono hb e ev h3⟩, D.elems_mono hb sz a es (i + 1) h4⟩
end

theorem EntsDen.mono {B B' : Nat → Prop} {w w' : World} (hb : ∀ b, Cellish w b → ¬ B b → w'.heap[b]? = w.heap[b]? ∧ ¬ B' b) :
    ∀ (l : List (D × D)) (es : List MapEntry), EntsDen B w l es → EntsDen B' w' l es
  | [], _, h => h
  | (k, x) :: l, _, h => by
    obtain ⟨e, es, rfl, h1, h2, h3⟩ := h
    exact ⟨e, es, rfl, D.den_mono hb k _ h1, D.den_mono hb x _ h2, EntsDen.mono hb l es h3⟩

theorem D.dens_length {B : Nat → Prop} {w : World} : ∀ (ds : List D) (vs : List Value), D.dens B w ds vs → vs.length = ds.length
  | [], _, h => by simp [D.dens] at h; simp [h]
  | d :: ds, _, h => by obtain ⟨u, us, rfl, _, h2⟩ := h; simp [D.dens_length ds us h2]

theorem D.dens_get {B : Nat → Prop} {w : World} : ∀ (ds : List D) (vs : List Value) (i : Nat) (d : D), D.dens B w ds vs → ds[i]? = some d → ∃ v, vs[i]? = some v ∧ D.den B w d v
  | [], _, _, _, _, hd => by simp at hd
  | d :: ds, _, 0, x, h, hd => by
    obtain ⟨u, us, rfl, h1, _⟩ := h
    simp at hd; subst hd; exact ⟨u, by simp, h1⟩
  | d :: ds, _, i + 1, x, h, hd => by
    obtain ⟨u, us, rfl, _, h2⟩ := h
    simpa using D.dens_get ds us i x h2 (by simpa using hd)

theorem D.elems_get {B : Nat → Prop} {w : World} {sz : Nat} {a : Addr} : ∀ (es : List D) (i j : Nat) (e : D), D.elems B w sz a i es → es[j]? = some e →
    ∃ ev : Value, ev.cells.size = sz ∧ CellsAt B w (a.add ((i + j) * sz)) ev.cells ∧ D.den B w e ev
  | [], _, _, _, _, hd => by simp at hd
  | e :: es, i, 0, x, h, hd => by
    simp at hd; subst hd; simpa using h.1
  | e :: es, i, j + 1, x, h, hd => by
    have := D.elems_get es (i + 1) j x h.2 (by simpa using hd)
    simpa [Nat.add_assoc, Nat.add_comm 1 j] using this

section
variable {M : Nat → Prop} {φ φ' : Place} {H H' : Hp} {w w' : World}

theorem Trans.blocks (ht : Trans φ H w φ' H' w') (b : Nat) (hc : Cellish w b) (h : ¬ mutB M φ H b) : w'.heap[b]? = w.heap[b]? ∧ ¬ mutB M φ' H' b := by
  have hb := hc.lt
  refine ⟨ht.keep.block b hb fun hl => h (.inr hl), ?_⟩
  rintro (h1 | h1)
  · exact h (.inl h1)
  · rcases ht.grow b h1 with h2 | h2
    · exact h (.inr h2)
    · omega

mutual
theorem V.den_mono' (hb : ∀ b, Cellish w b → ¬ mutB M φ H b → w'.heap[b]? = w.heap[b]? ∧ ¬ mutB M φ' H' b) (hr : StepRel φ H φ' H') : ∀ (x : V) (v : Value), V.den (mutB M φ H) φ H w x v → V.den (mutB M φ' H') φ' H' w' x v
  | .d x, v, h => D.den_mono hb x v h
  | .nils, _, h => h
  | .junk, _, _ => trivial
  | .csl es, v, h => ⟨D.den_mono hb (.sl es) v h.1, h.2⟩
  | .rsl id off n, v, h => by
    obtain ⟨h0, h1, h2⟩ := h
    refine ⟨h0, hr.us id h1, fun hrow => ?_⟩
    obtain ⟨h3, h4⟩ := hr.row id h1 hrow
    obtain ⟨b, h5, h6⟩ := h2 h3
    exact ⟨b, h4.trans h5, h6⟩
  | .mp id, v, h => by
    obtain ⟨h0, h1, h2⟩ := h
    refine ⟨h0, hr.us id h1, fun hrow => ?_⟩
    obtain ⟨h3, h4⟩ := hr.row id h1 hrow
    exact (h2 h3).trans h4.symm
  | .anyb, v, h => h
  | .yld id, v, h => by
    obtain ⟨h0, h1, h2⟩ := h
    refine ⟨h0, hr.us id h1, fun hrow => ?_⟩
    obtain ⟨h3, h4⟩ := hr.row id h1 hrow
    obtain ⟨b, h5, h6⟩ := h2 h3
    exact ⟨b, h4.trans h5, h6⟩
  | .agg cs, _, h => by obtain ⟨a, rfl, h, hf⟩ := h; exact ⟨a, rfl, V.dens_mono' hb hr cs _ h, hf⟩
  | .tup cs, _, h => by obtain ⟨a, rfl, h⟩ := h; exact ⟨a, rfl, V.dens_mono' hb hr cs _ h⟩
  | .ptr id off, v, h => by
    obtain ⟨h0, h1, h2⟩ := h
    refine ⟨h0, hr.us id h1, fun hrow => ?_⟩
    obtain ⟨h3, h4⟩ := hr.row id h1 hrow
    obtain ⟨b, h5, h6⟩ := h2 h3
    exact ⟨b, h4.trans h5, h6⟩
  | .osl id ep, v, h => by
    obtain ⟨h0, h1, h2⟩ := h
    refine ⟨h0, hr.us id h1, fun e' he' => ?_⟩
    obtain ⟨e, g1, g2, g3⟩ := hr.ep id e' h1 he'
    obtain ⟨h3, h4⟩ := h2 e g1
    refine ⟨Nat.le_trans h3 g2, fun heq => ?_⟩
    rw [g3 (by omega)]
    exact h4 (by omega)
  | .pe id ep i sz off, v, h => by
    obtain ⟨h0, h1, h2⟩ := h
    refine ⟨h0, hr.us id h1, fun e' he' => ?_⟩
    obtain ⟨e, g1, g2, g3⟩ := hr.ep id e' h1 he'
    obtain ⟨h3, h4⟩ := h2 e g1
    refine ⟨Nat.le_trans h3 g2, fun heq => ?_⟩
    rw [g3 (by omega)]
    exact h4 (by omega)
  | .pp cs off, v, h => by
    obtain ⟨a, ev, h1, h2, h3, h5, h4⟩ := h
    exact ⟨a, ev, h1, h2, D.dens_mono hb cs ev h3, h5, h4.mono hb⟩
  | .func fn first cap, _, h => by
    obtain ⟨f, c, rfl, h1, h2⟩ := h
    exact ⟨f, c, rfl, V.dens_mono' hb hr first _ h1, V.dens_mono' hb hr cap _ h2⟩
  | .iface t x, _, h => by obtain ⟨u, rfl, h⟩ := h; exact ⟨u, rfl, V.den_mono' hb hr x u h⟩
theorem V.dens_mono' (hb : ∀ b, Cellish w b → ¬ mutB M φ H b → w'.heap[b]? = w.heap[b]? ∧ ¬ mutB M φ' H' b) (hr : StepRel φ H φ' H') : ∀ (ds : List V) (vs : List Value), V.dens (mutB M φ H) φ H w ds vs → V.dens (mutB M φ' H') φ' H' w' ds vs
  | [], _, h => h
  | x :: xs, _, h => by
    obtain ⟨u, us, rfl, h1, h2⟩ := h
    exact ⟨u, us, rfl, V.den_mono' hb hr x u h1, V.dens_mono' hb hr xs us h2⟩
end
theorem V.den_mono (ht : Trans φ H w φ' H' w') (x : V) (v : Value) (h : V.den (mutB M φ H) φ H w x v) : V.den (mutB M φ' H') φ' H' w' x v := V.den_mono' ht.blocks ht.rel x v h
theorem V.dens_mono (ht : Trans φ H w φ' H' w') (ds : List V) (vs : List Value) (h : V.dens (mutB M φ H) φ H w ds vs) : V.dens (mutB M φ' H') φ' H' w' ds vs := V.dens_mono' ht.blocks ht.rel ds vs h
end
end Go.Proofs.Ytaafchgfibbmhaa
