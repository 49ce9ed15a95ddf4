/-
  LOOPS: a family of states, each said in full. Conditions: as each theorem says.
-/
import Derived.Test.YtaafchgfibbmhaaCoreT
namespace Go.Proofs.Ytaafchgfibbmhaa

@[go_sem] theorem envJ_zero (v : V) (l : List V) : envJ (v :: l) 0 = v := rfl
@[go_sem] theorem envJ_succ (v : V) (l : List V) (i : Nat) : envJ (v :: l) (i + 1) = envJ l i := rfl
@[go_sem] theorem envJ_nil (i : Nat) : envJ [] i = .junk := by simp [envJ]

def lookR : List (Nat × Option Nat) → Nat → Option Nat
  | [], id => some id
  | (i, r) :: R, id => if i = id then r else lookR R id
def injR (R : List (Nat × Option Nat)) : List Nat → Bool
  | [] => true
  | i :: l => l.all (fun j => i == j || lookR R i == none || lookR R i != lookR R j) && injR R l
def envLe (ρ : Nat → Option Nat) (o' o : Nat → Obj') (nx : Nat) (env : Nat → V) : List V → Nat → Prop
  | [], _ => True
  | v :: l, i => vle ρ o' o nx v (env i) ∧ envLe ρ o' o nx env l (i + 1)
def objsLe (ρ : Nat → Option Nat) (o' o : Nat → Obj') (nx : Nat) : List Nat → Prop
  | [] => True
  | i :: l => objLe ρ o' o nx i ∧ objsLe ρ o' o nx l
def epLe : Option Nat → Option Nat → Prop
  | none, _ => True
  | some _, none => False
  | some a, some b => b ≤ a
def epsLe (b : Nat) (o' o : Nat → Obj') : List Nat → Prop
  | [] => True
  | i :: l => (i < b → epLe (o' i).epoch (o i).epoch) ∧ epsLe b o' o l

theorem put_out {o : Nat → Obj'} : ∀ (Δ : List (Nat × Obj')) (id : Nat), id ∉ Δ.map (·.1) → put o Δ id = o id := by
  intro Δ
  induction Δ generalizing o with
  | nil => intro id _; rfl
  | cons p Δ ih =>
    intro id h
    simp only [List.map_cons, List.mem_cons, not_or] at h
    rw [put_cons', ih id h.2]
    simp [h.1]

theorem SLe.to {b : Nat} {s : S} (l : List V) (Δ : List (Nat × Obj')) (nx : Nat) (R : List (Nat × Option Nat)) (h1 : decide (b ≤ nx) = true) (h2 : (Δ.map (·.1)).all (· < nx) = true) (h3 : injR R (Δ.map (·.1)) = true) (h4 : R.all (fun r => decide (b ≤ r.1)) = true)
    (h5 : epsLe b (put (fun _ => .no) Δ) s.o (Δ.map (·.1))) (h6 : objsLe (lookR R) (put (fun _ => .no) Δ) s.o nx (Δ.map (·.1))) (h7 : envLe (lookR R) (put (fun _ => .no) Δ) s.o nx s.env l 0) :
    SLe b s ⟨envJ l, put (fun _ => .no) Δ, nx⟩ := by
  have hin : ∀ id, id ∈ Δ.map (·.1) ∨ put (fun _ => Obj'.no) Δ id = .no := fun id => by
    by_cases h : id ∈ Δ.map (·.1)
    · exact .inl h
    · exact .inr (put_out Δ id h)
  have hobj : ∀ (ids : List Nat), objsLe (lookR R) (put (fun _ => .no) Δ) s.o nx ids → ∀ id ∈ ids, objLe (lookR R) (put (fun _ => .no) Δ) s.o nx id := by
    intro ids
    induction ids with
    | nil => intro _ id h; cases h
    | cons i ids ih =>
      intro h id hid
      rcases List.mem_cons.1 hid with rfl | hid
      · exact h.1
      · exact ih h.2 id hid
  have heps : ∀ (ids : List Nat), epsLe b (put (fun _ => .no) Δ) s.o ids → ∀ id ∈ ids, id < b → epLe (put (fun _ => Obj'.no) Δ id).epoch (s.o id).epoch := by
    intro ids
    induction ids with
    | nil => intro _ id h; cases h
    | cons i ids ih =>
      intro h id hid
      rcases List.mem_cons.1 hid with rfl | hid
      · exact h.1
      · exact ih h.2 id hid
  have henv : ∀ (l : List V) (i : Nat), envLe (lookR R) (put (fun _ => .no) Δ) s.o nx s.env l i → ∀ j, vle (lookR R) (put (fun _ => .no) Δ) s.o nx (envJ l j) (s.env (i + j)) := by
    intro l
    induction l with
    | nil => intro i _ j; rw [envJ_nil]; simp [vle]
    | cons v l ih =>
      intro i h j
      cases j with
      | zero => exact h.1
      | succ j =>
        rw [envJ_succ]
        have := ih (i + 1) h.2 j
        rwa [show i + 1 + j = i + (j + 1) by omega] at this
  have hinj : ∀ (ids : List Nat), injR R ids = true → ∀ i ∈ ids, ∀ j ∈ ids, ∀ k, lookR R i = some k → lookR R j = some k → i = j := by
    intro ids
    induction ids with
    | nil => intro _ i h; cases h
    | cons x ids ih =>
      intro h i hi j hj k h1 h2
      simp only [injR, Bool.and_eq_true, List.all_eq_true] at h
      rcases List.mem_cons.1 hi with hi2 | hi2 <;> rcases List.mem_cons.1 hj with hj2 | hj2
      · exact hi2.trans hj2.symm
      · subst hi2
        have := h.1 j hj2
        simp only [Bool.or_eq_true, beq_iff_eq, bne_iff_ne, ne_eq] at this
        rcases this with (e | e) | e
        · exact e
        · rw [h1] at e; cases e
        · exact absurd (h1.trans h2.symm) e
      · subst hj2
        have := h.1 i hi2
        simp only [Bool.or_eq_true, beq_iff_eq, bne_iff_ne, ne_eq] at this
        rcases this with (e | e) | e
        · exact e.symm
        · rw [h2] at e; cases e
        · exact absurd (h2.trans h1.symm) e
      · exact ih h.2 i hi2 j hj2 k h1 h2
  have hlook : ∀ (R : List (Nat × Option Nat)), R.all (fun r => decide (b ≤ r.1)) = true → ∀ id, id < b → lookR R id = some id := by
    intro R
    induction R with
    | nil => intro _ id _; rfl
    | cons r R ih =>
      intro h id hid
      obtain ⟨i, r⟩ := r
      simp only [List.all_cons, Bool.and_eq_true, decide_eq_true_eq] at h
      unfold lookR
      rw [if_neg (by omega)]
      exact ih h.2 id hid
  have hnl : ∀ id, (put (fun _ => Obj'.no) Δ id).live = true → id ∈ Δ.map (·.1) := fun id h => by
    rcases hin id with h' | h'
    · exact h'
    · rw [h'] at h; cases h
  refine SLe.of_map (lookR R) (by simpa using h1) (fun id => ?_) (fun id hid => ?_) (fun i j k g1 g2 g3 g4 => hinj _ h3 i (hnl i g1) j (hnl j g2) k g3 g4) (fun id hid => ⟨hlook R h4 id hid, fun e' he => ?_⟩) (fun i => by simpa using henv l 0 h7 i)
  · rcases hin id with h | h
    · exact hobj _ h6 id h
    · unfold objLe; simp only [h]
  · rcases hin id with h | h
    · have := List.all_eq_true.1 h2 id h
      simp only [decide_eq_true_eq] at this
      simp only at hid
      omega
    · exact h
  · rcases hin id with h | h
    · have := heps _ h5 id h hid
      simp only at he
      rw [he] at this
      cases hs : (s.o id).epoch with
      | none => rw [hs] at this; exact this.elim
      | some e => rw [hs] at this; exact ⟨e, rfl, this⟩
    · simp only [h] at he; cases he

@[go_sem] theorem nonneg_cast (k : Nat) : (0 ≤ (k : Int)) = True := by simp
attribute [go_sem] List.getElem?_map List.length_map Int.toNat_natCast
attribute [go_sem] listV List.flatMap_cons List.flatMap_nil
attribute [go_sem] bin2F un2F isConst cmpF notV mapNil ptrNil nilF sliceF bndF ptrRow rslRow copyF fieldF assertF zeroV
attribute [go_sem] opR V.refs V.refss
attribute [go_sem] envLe objsLe epsLe epLe vle vles objLe lookR froD List.all_nil List.all_cons Option.some.injEq D.int.injEq D.bool.injEq Nat.zero_add Nat.add_zero
theorem wrap64 {n : Int} (h1 : -9223372036854775808 ≤ n) (h2 : n ≤ 9223372036854775807) : IntKind.i64.wrap n = n := by
  unfold IntKind.wrap
  have e1 : ((2:Int) ^ IntKind.i64.bits) = 18446744073709551616 := by decide
  have e2 : ((2:Int) ^ (IntKind.i64.bits - 1)) = 9223372036854775808 := by decide
  have e3 : IntKind.i64.signed = true := rfl
  simp only [e1, e2, e3, Bool.true_and, decide_eq_true_eq]
  split <;> omega
end Go.Proofs.Ytaafchgfibbmhaa
