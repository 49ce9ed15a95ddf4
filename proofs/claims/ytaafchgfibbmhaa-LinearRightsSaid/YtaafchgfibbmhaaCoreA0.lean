/-
  CODE MADE SHORT ('IC'), to be reckoned by simp ('low'). Conditions: none (definitions).
-/
import Derived.WalkKit
import Derived.Below
namespace Go.Proofs.Ytaafchgfibbmhaa

def dstAt (ops : Array Oper) (j : Nat) : Option Tmp := (ops[j]?).bind (·.dst)
/-- An operation: where its value goes; under which bool it stands. -/
structure IOp where
  dst : Option Nat
  op : Op
  gd : Option (Nat × Bool) := none
instance : Inhabited IOp := ⟨⟨none, .ready 0, none⟩⟩
def dstOkB (n : Nat) : Option Tmp → Bool
  | some d => decide (d < n)
  | none => true
def lowO (n : Nat) (ops : Array Oper) (o : Oper) : Option IOp :=
  if dstOkB n o.dst = true then match o.guard with
    | none => some ⟨o.dst, o.op, none⟩
    | some (j, want) => match dstAt ops j with
      | some d => some ⟨o.dst, o.op, some (d, want)⟩
      | none => none
  else none
def lowL (n : Nat) (ops : Array Oper) : List Oper → Option (List IOp)
  | [] => some []
  | o :: l => match lowO n ops o, lowL n ops l with
    | some x, some xs => some (x :: xs)
    | _, _ => none
def tmpsOf (o : IOp) : List Nat := (o.op.operands.toList.filterMap fun | .tmp t => some t | _ => none) ++ (match o.gd with | some (d, _) => [d] | none => [])
def touches (o : IOp) : List Nat := tmpsOf o ++ o.dst.toList
def predsOf (ops : Array Oper) (i : Nat) : List Nat := match ops[i]? with | some o => (o.after.toList.filter (Region.binds .any)).map (·.on) | none => []
def ocOf (l : List IOp) (i : Nat) : IOp := l.getD i default
inductive IC where
  | skip | reg (l : List IOp) | drw (l : List IOp) (pr : List (List Nat)) | seq (a b : IC) | cond (c : Operand) (a b : IC) | block (id : Nat) (a : IC) | loop (a : IC) | exit (id : Nat) | ret | bad
  | rng (g : Operand) (ps : List Nat) (a b : IC)
  deriving Inhabited
/-- A jump out of a round. -/
inductive Jmp where
  | ret | exit (id : Nat)
def Jmp.code : Jmp → Code
  | .ret => .ret
  | .exit id => .exit id

/-- Those that must have come before, as a set of bits. -/
def maskOf (acc : List Nat) : List Nat → Nat
  | [] => 0
  | j :: ps => (2 ^ j ||| acc.getD j 0) ||| maskOf acc ps
def masks : List (List Nat) → List Nat → List Nat
  | [], acc => acc
  | ps :: l, acc => masks l (acc ++ [maskOf acc ps])
/-- Of two operations that are not ordered none writes a temporary that the other names. -/
def freeOf (x y : IOp) : Bool := match x.dst with | some d => !(touches y).contains d | none => true
def tmpsOkB (l : List IOp) (pr : List (List Nat)) : Bool :=
  (List.range l.length).all fun j => (List.range j).all fun i => ((masks pr []).getD j 0).testBit i || (freeOf (ocOf l i) (ocOf l j) && freeOf (ocOf l j) (ocOf l i))
def disj (xs ys : List Nat) : Bool := xs.all fun x => !ys.contains x
/-- Of two operations that are not ordered none writes an object that the other looks at or writes. -/
def objsOk (pr : List (List Nat)) (fp : List (List Nat × List Nat)) : Bool :=
  (List.range fp.length).all fun j => (List.range j).all fun i => ((masks pr []).getD j 0).testBit i ||
    (disj (fp.getD i ([], [])).2 (fp.getD j ([], [])).1 && disj (fp.getD i ([], [])).2 (fp.getD j ([], [])).2 && disj (fp.getD j ([], [])).2 (fp.getD i ([], [])).1)
def prOf (ops : Array Oper) : List (List Nat) := (List.range ops.size).map (predsOf ops)
def prOk (pr : List (List Nat)) : Bool := (List.range pr.length).all fun k => (pr.getD k []).all fun j => decide (j < k)

theorem maskOf_bit {acc : List Nat} {i : Nat} : ∀ (ps : List Nat), (maskOf acc ps).testBit i = true → ∃ j ∈ ps, i = j ∨ (acc.getD j 0).testBit i = true
  | [], h => by simp [maskOf] at h
  | j :: ps, h => by
    simp only [maskOf, Nat.testBit_or, Bool.or_eq_true] at h
    rcases h with (h | h) | h
    · rw [Nat.testBit_two_pow] at h
      exact ⟨j, by simp, .inl (by have h := of_decide_eq_true h; exact h.symm)⟩
    · exact ⟨j, by simp, .inr h⟩
    · obtain ⟨j', h1, h2⟩ := maskOf_bit ps h
      exact ⟨j', by simp [h1], h2⟩
theorem masks_length : ∀ (l : List (List Nat)) (acc : List Nat), (masks l acc).length = acc.length + l.length
  | [], acc => by simp [masks]
  | ps :: l, acc => by rw [masks, masks_length l]; simp; omega
theorem masks_old {k : Nat} : ∀ (l : List (List Nat)) (acc : List Nat), k < acc.length → (masks l acc).getD k 0 = acc.getD k 0
  | [], _, _ => rfl
  | ps :: l, acc, h => by
    rw [masks, masks_old l _ (by simp; omega)]
    simp [List.getD_eq_getElem?_getD, List.getElem?_append_left h]
/-- A bit: an operation that is named, or that comes before one that is named. -/
theorem masks_bit {i : Nat} : ∀ (l : List (List Nat)) (acc : List Nat) (k : Nat), acc.length ≤ k → (∀ k', k' < l.length → ∀ j ∈ l.getD k' [], j < acc.length + k') → ((masks l acc).getD k 0).testBit i = true →
    ∃ j ∈ l.getD (k - acc.length) [], i = j ∨ ((masks l acc).getD j 0).testBit i = true
  | [], acc, k, hk, _, h => by
    simp only [masks] at h
    rw [List.getD_eq_getElem?_getD, List.getElem?_eq_none hk] at h
    simp at h
  | ps :: l, acc, k, hk, hp, h => by
    simp only [masks] at h ⊢
    by_cases he : k = acc.length
    · subst he
      rw [masks_old l _ (by simp)] at h
      have e : (acc ++ [maskOf acc ps]).getD acc.length 0 = maskOf acc ps := by simp [List.getD_eq_getElem?_getD]
      rw [e] at h
      obtain ⟨j, h1, h2⟩ := maskOf_bit ps h
      refine ⟨j, by simpa using h1, h2.imp id fun h2 => ?_⟩
      have hj : j < acc.length := by simpa using hp 0 (by simp) j (by simpa using h1)
      rw [masks_old l _ (by simp; omega)]
      simpa [List.getD_eq_getElem?_getD, List.getElem?_append_left hj] using h2
    · obtain ⟨j, h1, h2⟩ := masks_bit l (acc ++ [maskOf acc ps]) k (by simp; omega) (fun k' hk' j hj => by
        have := hp (k' + 1) (by simp; omega) j (by simpa using hj)
        simp; omega) h
      refine ⟨j, ?_, h2⟩
      have e : k - acc.length = (k - (acc ++ [maskOf acc ps]).length) + 1 := by simp; omega
      rw [e]; simpa using h1
/-- Where all that are named have come, and with each its own, all of the bits have come. -/
theorem masks_closed {pr : List (List Nat)} (hp : ∀ k, k < pr.length → ∀ j ∈ pr.getD k [], j < k) {E : Nat → Bool} (hE : ∀ k, k < pr.length → E k = true → ∀ j ∈ pr.getD k [], E j = true) :
    ∀ k, k < pr.length → (∀ j ∈ pr.getD k [], E j = true) → ∀ i, ((masks pr []).getD k 0).testBit i = true → E i = true := by
  intro k
  induction k using Nat.strongRecOn with
  | ind k ih =>
    intro hk hj i hi
    obtain ⟨j, h1, h2⟩ := masks_bit pr [] k (by simp) (fun k' hk' j hj => by simpa using hp k' hk' j hj) hi
    simp only [List.length_nil, Nat.sub_zero] at h1
    rcases h2 with rfl | h2
    · exact hj _ h1
    · have hjk := hp k hk j h1
      exact ih j hjk (by omega) (hE j (by omega) (hj j h1)) i h2
theorem masks_lt {pr : List (List Nat)} (hp : ∀ k, k < pr.length → ∀ j ∈ pr.getD k [], j < k) : ∀ k, k < pr.length → ∀ i, ((masks pr []).getD k 0).testBit i = true → i < k := by
  intro k
  induction k using Nat.strongRecOn with
  | ind k ih =>
    intro hk i hi
    obtain ⟨j, h1, h2⟩ := masks_bit pr [] k (by simp) (fun k' hk' j hj => by simpa using hp k' hk' j hj) hi
    simp only [List.length_nil, Nat.sub_zero] at h1
    have hjk := hp k hk j h1
    rcases h2 with rfl | h2
    · exact hjk
    · have := ih j hjk (by omega) i h2; omega

def low (n : Nat) : Code → IC
  | .skip => .skip
  | .label _ => .skip
  | .region _ ops false => match lowL n ops ops.toList with
    | some l => .reg l
    | none => .bad
  | .region _ ops true => match lowL n ops ops.toList with
    | some l => if tmpsOkB l (prOf ops) && prOk (prOf ops) then .drw l (prOf ops) else .bad
    | none => .bad
  | .seq a b => .seq (low n a) (low n b)
  | .cond c a b => .cond c (low n a) (low n b)
  | .block id a => .block id (low n a)
  | .loop a => .loop (low n a)
  | .exit id => .exit id
  | .ret => .ret
  | .rangeFunc g ps a b => .rng g ps.toList (low n a) (low n b)
  | _ => .bad

end Go.Proofs.Ytaafchgfibbmhaa
