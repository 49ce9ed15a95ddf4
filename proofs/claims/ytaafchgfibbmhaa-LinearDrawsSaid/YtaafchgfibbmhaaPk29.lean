/-
  A PART OF THE PROOF (put together by program): several texts, one behind the other. Conditions: none.
-/
import Derived.Test.YtaafchgfibbmhaaPk28
set_option linter.unusedSimpArgs false
set_option linter.unusedVariables false
namespace Go.Proofs.Ytaafchgfibbmhaa
def pairF (s : Sys) (v : Nat) (a b : Made) : Option Made :=
  let x := sumM s (-b.r.c.getD v 0) a (a.r.c.getD v 0) b
  if bigOk x = true then some x else none
def isPair (v : Nat) (a b : Made) : Bool := decide (0 < a.r.c.getD v 0) && decide (b.r.c.getD v 0 < 0)
def stepP (s : Sys) (v : Nat) (acc : List Made) (a b : Made) : Option (List Made) := if isPair v a b = true then (pairF s v a b).map (fun x => acc ++ [x]) else some acc
def innP (s : Sys) (v : Nat) (l : List Made) (a : Made) (acc : List Made) : Nat → Option (List Made)
  | 0 => some acc
  | j + 1 => (innP s v l a acc j).bind fun acc => match l[j]? with | some b => stepP s v acc a b | none => some acc
def outP (s : Sys) (v : Nat) (l : List Made) (acc : List Made) : Nat → Option (List Made)
  | 0 => some acc
  | i + 1 => (outP s v l acc i).bind fun acc => match l[i]? with | some a => innP s v l a acc l.length | none => some acc
theorem innP_none {s : Sys} {v : Nat} {l : List Made} {a : Made} {acc : List Made} {j : Nat} (h : innP s v l a acc j = none) : ∀ k, innP s v l a acc (j + k) = none
  | 0 => h
  | k + 1 => by rw [← Nat.add_assoc]; simp only [innP, innP_none h k, Option.bind_none]
theorem outP_none {s : Sys} {v : Nat} {l : List Made} {acc : List Made} {j : Nat} (h : outP s v l acc j = none) : ∀ k, outP s v l acc (j + k) = none
  | 0 => h
  | k + 1 => by rw [← Nat.add_assoc]; simp only [outP, outP_none h k, Option.bind_none]
theorem stepP_len {s : Sys} {v : Nat} {acc acc2 : List Made} {a b : Made} (h : stepP s v acc a b = some acc2) : acc2.length ≤ acc.length + 1 := by
  unfold stepP at h
  split at h
  · cases hp : pairF s v a b with
    | none => rw [hp] at h; cases h
    | some x => rw [hp] at h; simp at h; subst h; simp
  · simp at h; subst h; omega
theorem innP_len {s : Sys} {v : Nat} {l : List Made} {a : Made} {acc : List Made} : ∀ {j : Nat} {acc2 : List Made}, innP s v l a acc j = some acc2 → acc2.length ≤ acc.length + j
  | 0, acc2, h => by simp [innP] at h; subst h; omega
  | j + 1, acc2, h => by
    simp only [innP] at h
    cases hi : innP s v l a acc j with
    | none => rw [hi] at h; cases h
    | some x =>
      rw [hi] at h
      have := innP_len hi
      simp only [Option.bind_some] at h
      split at h
      · have := stepP_len h; omega
      · simp at h; subst h; omega
theorem outP_len {s : Sys} {v : Nat} {l : List Made} {acc : List Made} : ∀ {i : Nat} {acc2 : List Made}, outP s v l acc i = some acc2 → acc2.length ≤ acc.length + i * l.length
  | 0, acc2, h => by simp [outP] at h; subst h; omega
  | i + 1, acc2, h => by
    simp only [outP] at h
    cases hi : outP s v l acc i with
    | none => rw [hi] at h; cases h
    | some x =>
      rw [hi] at h
      have := outP_len hi
      simp only [Option.bind_some] at h
      rw [Nat.succ_mul]
      split at h
      · have := innP_len h; omega
      · simp at h; subst h; omega
structure PInv (oB : Nat → Obj') (nx r0 : Nat) (acc : List Made) (o1 : Nat → Obj') (nx1 : Nat) (z : V) : Prop where
  le : nx ≤ nx1
  good : Good o1 nx1
  same : ∀ j, j < nx → j ≠ r0 → o1 j = oB j ∨ oB j = .no
  row : o1 r0 = .row [z]
  grows : GrowsG o1 (fun j => j < nx → j ≠ r0 ∧ oB j = .no) 47 4 (acc.map Made.d) z
def pairPost (s : Sys) (v : Nat) (oB : Nat → Obj') (nx r0 lid : Nat) (acc : Option (List Made)) (K X : V → (Nat → Obj') → Nat → Prop) (y : V) : Prop :=
  match acc with
  | some acc => ∀ o1 nx1 z, PInv oB nx r0 acc o1 nx1 z → K y o1 nx1
  | none => ∀ o1 nx1, nx ≤ nx1 → Good o1 nx1 → (∀ j, j < nx → j ≠ r0 → j ≠ lid → o1 j = oB j ∨ oB j = .no) → X (.d tooD) o1 nx1
theorem rounds_c (s : Sys) (v : Nat) (l acc0 : List Made) {nv : Nat} (hl : l.length ≤ 1000) (hc : ∀ m ∈ l, m.r.c.length = nv) (hv : v < nv)
    (lid bx bv id r0 : Nat) (o oB : Nat → Obj') (nx : Nat) (hB : Good oB nx) (z0 : V) (hI : PInv oB nx r0 acc0 o nx z0) (hbx : oB bx = .row [.ptr id 0]) (hbv : oB bv = .row [.d (.i v)]) (hid : oB id = .row [.d (.i s.vars), .d (.sl (s.rows.map Row.d)), .d (.sl (l.map Made.d))])
    (hr0 : r0 < nx) (hr1 : r0 ≠ bx) (hr2 : r0 ≠ bv) (hr3 : r0 ≠ id) (hlid : lid < nx) (K X : V → (Nat → Obj') → Nat → Prop)
    (hacc0 : acc0.length ≤ 1000) (hround : ∀ (acc : List Made) (a b : Made) (o1 : Nat → Obj') (nx1 : Nat) (z : V) (K' X' : V → (Nat → Obj') → Nat → Prop), a ∈ l → b ∈ l → acc.length ≤ 1002000 → PInv oB nx r0 acc o1 nx1 z →
      (match pairF s v a b with
        | some x => ∀ o2 nx2 z2, nx1 ≤ nx2 → PInv oB nx r0 (acc ++ [x]) o2 nx2 z2 → (∀ j, j < nx1 → j ≠ r0 → j ≠ lid → (∀ ep, z ≠ .osl j ep) → o2 j = o1 j) → K' (.d (.bool true)) o2 nx2
        | none => ∀ o2 nx2, nx1 ≤ nx2 → Good o2 nx2 → (∀ j, j < nx → j ≠ r0 → j ≠ lid → o2 j = oB j ∨ oB j = .no) → X' (.d tooD) o2 nx2) →
      RoundK Try.prog lid [.d a.d, .d b.d] o1 nx1 K' X')
    (hK : pairPost s v oB nx r0 lid (outP s v l acc0 l.length) K X (.tup [])) : CtK Try.prog 129 [.yld lid, .ptr bx 0, .ptr bv 0] o nx K X := by
  have hbxl : bx < nx := hB.lt (by rw [hbx]; exact Obj'.noConfusion)
  have hbvl : bv < nx := hB.lt (by rw [hbv]; exact Obj'.noConfusion)
  have hidl : id < nx := hB.lt (by rw [hid]; exact Obj'.noConfusion)
  have obx : o bx = .row [.ptr id 0] := by
    rcases hI.same bx hbxl (Ne.symm hr1) with h | h
    · rw [h, hbx]
    · rw [hbx] at h; cases h
  have obv : o bv = .row [.d (.i v)] := by
    rcases hI.same bv hbvl (Ne.symm hr2) with h | h
    · rw [h, hbv]
    · rw [hbv] at h; cases h
  have oid : o id = .row [.d (.i s.vars), .d (.sl (s.rows.map Row.d)), .d (.sl (l.map Made.d))] := by
    rcases hI.same id hidl (Ne.symm hr3) with h | h
    · rw [h, hid]
    · rw [hid] at h; cases h
  refine CtK.of_ev mix fn129 (by simp) ?_
  rw [c129]
  simp +contextual only [go_sem, obx, oid, Nat.add_assoc, Nat.left_eq_add, Nat.add_eq_left, Nat.add_left_cancel_iff]
  refine loop_fam (fun i : Nat => ⟨envJ [.yld lid, .ptr bx 0, .ptr bv 0, .junk, .junk, .junk, .junk, .junk, .junk, .junk, .junk, .d (.sl (l.map Made.d)), .d (.i l.length), .d (.i i)], upd (upd oB nx (.arr 0 47 4 (((outP s v l acc0 i).getD []).map Made.d))) r0 (.row [.osl nx 0]), nx + 1⟩)
    (fun i => i ≤ l.length ∧ (outP s v l acc0 i).isSome = true) (fun i => l.length - i) 0 ⟨Nat.zero_le _, rfl⟩ (SLe.convD (fun j => j < nx → j ≠ r0 ∧ oB j = .no) _ z0 r0 _ _ hr0 (Nat.le_refl _) (by omega) hB (fun j h1 h2 => h1 h2) hI.same hI.row (convL_x convL_nil) hI.grows ?_) (fun i hi => ?_)
  · repeat (first | exact convE_nil | refine convE_junk ?_ | refine convE_x rfl ?_ | refine convE_d rfl ?_ | refine convE_d (d_int (wrapN (by omega))) ?_ | refine convE_v rfl (by simp [V.refs] <;> omega) ?_)
  have q1 : bx ≠ r0 := Ne.symm hr1
  have q2 : bx ≠ nx := by omega
  have q3 : ∀ k, bx ≠ nx + k := fun k => by omega
  have q4 : bv ≠ r0 := Ne.symm hr2
  have q5 : bv ≠ nx := by omega
  have q6 : ∀ k, bv ≠ nx + k := fun k => by omega
  have q7 : id ≠ r0 := Ne.symm hr3
  have q8 : id ≠ nx := by omega
  have q9 : ∀ k, id ≠ nx + k := fun k => by omega
  have r1 : r0 ≠ nx := by omega
  have r2 : ∀ k, r0 ≠ nx + k := fun k => by omega
  have r3 : nx ≠ r0 := by omega
  have r4 : ∀ k, nx + k ≠ r0 := fun k => by omega
  obtain ⟨acc, hacc⟩ := Option.isSome_iff_exists.1 hi.2
  simp only [hacc, Option.getD_some]
  simp +contextual only [go_sem]
  refine cond_intro (fun h2 => ?_) (fun h2 => ?_)
  · simp at h2
    obtain ⟨a, ha⟩ : ∃ a, l[i]? = some a := ⟨l[i], by simp [h2]⟩
    simp +contextual only [go_sem, ha, Made.d, Row.d, Nat.add_assoc, Nat.left_eq_add, Nat.add_eq_left, Nat.add_left_cancel_iff, q1, q2, q3, q4, q5, q6, q7, q8, q9, r1, r2, r3, r4, hbx, hbv, hid]
    have ham := List.mem_of_getElem? ha
    have hav : a.r.c[v]? = some (a.r.c.getD v 0) := by
      have := hc a ham
      rw [List.getD_eq_getElem?_getD, List.getElem?_eq_getElem (by omega)]; rfl
    rw [upd_upd]
    have hrowA : ∃ ra, ra = Obj'.row [V.d (D.sl (List.map D.i a.r.c)), V.d (D.i a.r.rel), V.d (D.i a.r.b), V.d (D.sl (List.map D.i a.t))] := ⟨_, rfl⟩
    obtain ⟨ra, hra⟩ := hrowA
    rw [← hra]
    have hB2 : Good (upd oB (nx + 4) ra) (nx + 5) := (hB.mono (by omega)).upd (by omega) (by rw [hra]; rfl)
    refine loop_fam (fun j : Nat => ⟨envJ [.yld lid, .ptr bx 0, .ptr bv 0, .junk, .junk, .ptr (nx + 4) 0, .junk, .junk, .junk, .junk, .junk, .d (.sl (l.map Made.d)), .d (.i l.length), .d (.i i), .junk, .junk, .junk, .junk, .junk, .junk, .d (.sl (l.map Made.d)), .d (.i l.length), .d (.i j)], upd (upd (upd oB (nx + 4) ra) (nx + 5) (.arr 0 47 4 (((innP s v l a acc j).getD []).map Made.d))) r0 (.row [.osl (nx + 5) 0]), nx + 5 + 1⟩)
      (fun j => j ≤ l.length ∧ (innP s v l a acc j).isSome = true) (fun j => l.length - j) 0 ⟨Nat.zero_le _, rfl⟩ (SLe.convD (fun j => j < nx + 5 → j ≠ r0 ∧ upd oB (nx + 4) ra j = .no) _ (.osl nx 0) r0 [.osl nx 0] _ (by omega) (by omega) (by omega) hB2 (fun j h1 h2 => h1 h2) (fun j h1 h2 => ?_) ?_ (convL_x convL_nil) (.inr ⟨nx, 0, fun _ => ⟨r3, ?_⟩, rfl, ?_⟩) ?_) (fun j hj => ?_)
    · by_cases e1 : j = nx + 4
      · subst e1; left; rw [upd_same, upd_same]
      · rw [upd_ne _ _ _ _ e1, upd_ne _ _ _ _ h2, upd_ne _ _ _ _ e1]
        by_cases e2 : j = nx
        · subst e2; right; exact hB.fresh _ (by omega)
        · left; rw [upd_ne _ _ _ _ e2]
    · rw [upd_ne _ _ _ _ (by omega), upd_same]
    · rw [upd_ne _ _ _ _ (by omega)]; exact hB.fresh _ (by omega)
    · rw [upd_ne _ _ _ _ (by omega), upd_ne _ _ _ _ (by omega), upd_same]; rfl
    · repeat (first | exact convE_nil | refine convE_junk ?_ | refine convE_x rfl ?_ | refine convE_d rfl ?_ | refine convE_d (d_int (wrapN (by omega))) ?_ | refine convE_v rfl (by simp [V.refs] <;> omega) ?_)
    subst hra
    obtain ⟨acc2, hacc2⟩ := Option.isSome_iff_exists.1 hj.2
    simp only [hacc2, Option.getD_some]
    simp +contextual only [go_sem]
    refine cond_intro (fun h3 => ?_) (fun h3 => ?_)
    · simp at h3
      obtain ⟨b, hb⟩ : ∃ b, l[j]? = some b := ⟨l[j], by simp [h3]⟩
      have hbm := List.mem_of_getElem? hb
      have hbvv : b.r.c[v]? = some (b.r.c.getD v 0) := by
        have := hc b hbm
        rw [List.getD_eq_getElem?_getD, List.getElem?_eq_getElem (by omega)]; rfl
      have hst : innP s v l a acc (j + 1) = stepP s v acc2 a b := by simp [innP, hacc2, hb]
      cases h5 : decide (0 < a.r.c.getD v 0) with
      | false =>
        have hnp : innP s v l a acc (j + 1) = some acc2 := by rw [hst, stepP, isPair, h5]; rfl
        simp +contextual only [go_sem, hb, Made.d, Row.d, Nat.add_assoc, Nat.left_eq_add, Nat.add_eq_left, Nat.add_left_cancel_iff, h5, q1, q2, q3, q4, q5, q6, q7, q8, q9, r1, r2, r3, r4, hbx, hbv, hid, hav, hbvv]
        refine nextS_intro (j + 1) ⟨h3, by rw [hnp]; rfl⟩ (by omega) (SLe.convD (fun jj => jj < nx + 5 → jj ≠ r0 ∧ upd oB (nx + 4) (Obj'.row [V.d (D.sl (List.map D.i a.r.c)), V.d (D.i a.r.rel), V.d (D.i a.r.b), V.d (D.sl (List.map D.i a.t))]) jj = .no) _ (.osl (nx + 5) 0) r0 [.osl (nx + 5) 0] _ (by omega) (by omega) (by omega) hB2 (fun jj g1 g2 => g1 g2) (fun jj g1 g2 => ?_) ?_ (convL_x convL_nil) (.inr ⟨nx + 5, 0, fun h => absurd h (by omega), rfl, ?_⟩) ?_)
        · left; rw [upd_ne _ _ _ _ (by omega), upd_ne _ _ _ _ (by omega), upd_ne _ _ _ _ g2, upd_ne _ _ _ _ (by omega)]
        · rw [upd_ne _ _ _ _ (by omega), upd_ne _ _ _ _ (by omega), upd_same]
        · rw [hnp]; repeat (first | rfl | rw [upd_same] | rw [upd_ne _ _ _ _ (by omega)])
        · repeat (first | exact convE_nil | refine convE_junk ?_ | refine convE_x rfl ?_ | refine convE_d rfl ?_ | refine convE_d (d_int (wrapN (by omega))) ?_ | refine convE_v rfl (by simp [V.refs] <;> omega) ?_)
      | true =>
        cases h6 : decide (b.r.c.getD v 0 < 0) with
        | false =>
          have hnp : innP s v l a acc (j + 1) = some acc2 := by rw [hst, stepP, isPair, h5, h6]; rfl
          simp +contextual only [go_sem, hb, Made.d, Row.d, Nat.add_assoc, Nat.left_eq_add, Nat.add_eq_left, Nat.add_left_cancel_iff, h5, h6, q1, q2, q3, q4, q5, q6, q7, q8, q9, r1, r2, r3, r4, hbx, hbv, hid, hav, hbvv]
          refine nextS_intro (j + 1) ⟨h3, by rw [hnp]; rfl⟩ (by omega) (SLe.convD (fun jj => jj < nx + 5 → jj ≠ r0 ∧ upd oB (nx + 4) (Obj'.row [V.d (D.sl (List.map D.i a.r.c)), V.d (D.i a.r.rel), V.d (D.i a.r.b), V.d (D.sl (List.map D.i a.t))]) jj = .no) _ (.osl (nx + 5) 0) r0 [.osl (nx + 5) 0] _ (by omega) (by omega) (by omega) hB2 (fun jj g1 g2 => g1 g2) (fun jj g1 g2 => ?_) ?_ (convL_x convL_nil) (.inr ⟨nx + 5, 0, fun h => absurd h (by omega), rfl, ?_⟩) ?_)
          · left; rw [upd_ne _ _ _ _ (by omega), upd_ne _ _ _ _ (by omega), upd_ne _ _ _ _ g2, upd_ne _ _ _ _ (by omega)]
          · rw [upd_ne _ _ _ _ (by omega), upd_ne _ _ _ _ (by omega), upd_same]
          · rw [hnp]; repeat (first | rfl | rw [upd_same] | rw [upd_ne _ _ _ _ (by omega)])
          · repeat (first | exact convE_nil | refine convE_junk ?_ | refine convE_x rfl ?_ | refine convE_d rfl ?_ | refine convE_d (d_int (wrapN (by omega))) ?_ | refine convE_v rfl (by simp [V.refs] <;> omega) ?_)
        | true =>
          have hpr : isPair v a b = true := by rw [isPair, h5, h6]; rfl
          simp +contextual only [go_sem, hb, Made.d, Row.d, Nat.add_assoc, Nat.left_eq_add, Nat.add_eq_left, Nat.add_left_cancel_iff, h5, h6, q1, q2, q3, q4, q5, q6, q7, q8, q9, r1, r2, r3, r4, hbx, hbv, hid, hav, hbvv]
          unfold callY
          dsimp only
          have hlen2 : acc2.length ≤ 1002000 := by
            have e1 := innP_len hacc2
            have e2 := outP_len hacc
            have e3 : i * l.length ≤ 1000 * 1000 := Nat.mul_le_mul (by omega) hl
            omega
          refine hround acc2 a b _ _ (.osl (nx + 5) 0) _ _ ham hbm hlen2 (?_ : PInv oB nx r0 acc2 _ _ (.osl (nx + 5) 0)) ?_
          · refine ⟨Nat.le_add_right _ _, ?_, fun jj h7 h8 => ?_, ?_, .inr ⟨nx + 5, 0, fun h => absurd h (by omega), rfl, ?_⟩⟩
            · repeat (first | exact hB2.mono (by omega) | refine Good.upd ?_ (by omega) rfl | refine Good.upd ?_ (by omega) (by simp [Obj'.refs, V.refss, V.refs]))
            · left
              rw [upd_ne _ _ _ _ (by omega), upd_ne _ _ _ _ (by omega), upd_ne _ _ _ _ h8, upd_ne _ _ _ _ (by omega), upd_ne _ _ _ _ (by omega)]
            · rw [upd_ne _ _ _ _ (by omega), upd_ne _ _ _ _ (by omega), upd_same]
            · repeat (first | rfl | rw [upd_same] | rw [upd_ne _ _ _ _ (by omega)])
          cases hp : pairF s v a b with
          | some x =>
            intro o2 nx2 z2 n1 n2 n3
            have hnp : innP s v l a acc (j + 1) = some (acc2 ++ [x]) := by rw [hst, stepP, hpr, hp]; rfl
            have hra : o2 (nx + 4) = (Obj'.row [V.d (D.sl (List.map D.i a.r.c)), V.d (D.i a.r.rel), V.d (D.i a.r.b), V.d (D.sl (List.map D.i a.t))]) := by
              rw [n3 (nx + 4) (by omega) (by omega) (by omega) (fun ep h => by injection h with h; omega)]
              repeat (first | rfl | rw [upd_same] | rw [upd_ne _ _ _ _ (by omega)])
            simp +contextual only [go_sem, hb, Made.d, Row.d, Nat.add_assoc, Nat.left_eq_add, Nat.add_eq_left, Nat.add_left_cancel_iff, h5, h6, q1, q2, q3, q4, q5, q6, q7, q8, q9, r1, r2, r3, r4, hbx, hbv, hid, hav, hbvv]
            refine nextS_intro (j + 1) ⟨h3, by rw [hnp]; rfl⟩ (by omega) (SLe.convD (fun jj => jj < nx + 5 → jj ≠ r0 ∧ upd oB (nx + 4) (Obj'.row [V.d (D.sl (List.map D.i a.r.c)), V.d (D.i a.r.rel), V.d (D.i a.r.b), V.d (D.sl (List.map D.i a.t))]) jj = .no) _ z2 r0 [z2] _ (by omega) (by omega) (by omega) hB2 (fun jj g1 g2 => g1 g2) (fun jj g1 g2 => ?_) n2.row (convL_x convL_nil) ?_ ?_)
            · by_cases e1 : jj = nx + 4
              · subst e1; left; rw [hra, upd_same]
              · rw [upd_ne _ _ _ _ e1]
                by_cases e2 : jj < nx
                · exact n2.same jj e2 g2
                · right; exact hB.fresh _ (by omega)
            · rw [hnp]
              rcases n2.grows with ⟨g1, g2, g3⟩ | ⟨jd, ep, g1, g2, g3⟩
              · exact .inl ⟨g1, g2, g3⟩
              · refine .inr ⟨jd, ep, fun g4 => ?_, g2, g3⟩
                have e1 : jd ≠ nx + 4 := fun e => by subst e; rw [hra] at g3; cases g3
                rw [upd_ne _ _ _ _ e1]
                by_cases e2 : jd < nx
                · exact g1 e2
                · exact ⟨by omega, hB.fresh _ (by omega)⟩
            · repeat (first | exact convE_nil | refine convE_junk ?_ | refine convE_x rfl ?_ | refine convE_d rfl ?_ | refine convE_d (d_int (wrapN (by omega))) ?_ | refine convE_v rfl (by simp [V.refs] <;> omega) ?_)
          | none =>
            intro o2 nx2 n1 n2 n3
            have hin : innP s v l a acc (j + 1) = none := by rw [hst, stepP, hpr, hp]; rfl
            have hin2 : innP s v l a acc l.length = none := by
              have := innP_none hin (l.length - (j + 1))
              rwa [show j + 1 + (l.length - (j + 1)) = l.length by omega] at this
            have hou : outP s v l acc0 (i + 1) = none := by simp [outP, hacc, ha, hin2]
            have hou2 : outP s v l acc0 l.length = none := by
              have := outP_none hou (l.length - (i + 1))
              rwa [show i + 1 + (l.length - (i + 1)) = l.length by omega] at this
            rw [hou2] at hK
            simp +contextual only [go_sem, hb, Made.d, Row.d, Nat.add_assoc, Nat.left_eq_add, Nat.add_eq_left, Nat.add_left_cancel_iff, h5, h6, q1, q2, q3, q4, q5, q6, q7, q8, q9, r1, r2, r3, r4, hbx, hbv, hid, hav, hbvv]
            exact hK _ _ (by omega) n2 n3
    · simp +contextual only [go_sem, Nat.add_assoc, Nat.left_eq_add, Nat.add_eq_left, Nat.add_left_cancel_iff]
      simp at h3
      have hjl : j = l.length := by omega
      have hou : outP s v l acc0 (i + 1) = some acc2 := by simp only [outP, hacc, Option.bind_some, ha]; rw [← hjl]; exact hacc2
      refine nextS_intro (i + 1) ⟨h2, by rw [hou]; rfl⟩ (by omega) (SLe.convD (fun jj => jj < nx → jj ≠ r0 ∧ oB jj = .no) _ (.osl (nx + 5) 0) r0 [.osl (nx + 5) 0] _ hr0 (Nat.le_refl _) (by omega) hB (fun jj g1 g2 => g1 g2) (fun jj g1 g2 => ?_) (upd_same _ _ _) (convL_x convL_nil) (.inr ⟨nx + 5, 0, fun h => absurd h (by omega), rfl, ?_⟩) ?_)
      · left; rw [upd_ne _ _ _ _ g2, upd_ne _ _ _ _ (by omega), upd_ne _ _ _ _ (by omega)]
      · rw [hou, upd_ne _ _ _ _ (by omega), upd_same]; rfl
      · repeat (first | exact convE_nil | refine convE_junk ?_ | refine convE_x rfl ?_ | refine convE_d rfl ?_ | refine convE_d (d_int (wrapN (by omega))) ?_ | refine convE_v rfl (by simp [V.refs] <;> omega) ?_)
  · simp +contextual only [go_sem, Nat.add_assoc, Nat.left_eq_add, Nat.add_eq_left, Nat.add_left_cancel_iff]
    simp at h2
    have hil : i = l.length := by omega
    subst hil
    rw [hacc] at hK
    refine hK _ _ (.osl nx 0) ⟨by omega, ?_, fun jj g1 g2 => ?_, upd_same _ _ _, .inr ⟨nx, 0, fun h => absurd h (by omega), rfl, ?_⟩⟩
    · exact ((hB.mono (by omega)).upd (by omega) rfl).upd (by omega) (by simp [Obj'.refs, V.refss, V.refs])
    · left; rw [upd_ne _ _ _ _ g2, upd_ne _ _ _ _ (by omega)]
    · rw [upd_ne _ _ _ _ (by omega), upd_same]
end Go.Proofs.Ytaafchgfibbmhaa
namespace Go.Proofs.Ytaafchgfibbmhaa
@[reducible] def rA : IC := .seq (.reg [al 8 47, st 47 8 50]) (.reg [al 9 47, st 47 9 51])
@[reducible] def rB : IC := .block 3 (.drw [ld 52 34 5,
 ld 53 105 2,
 fa 54 47 9 0,
 fa 55 45 54 0,
 ld 56 42 55,
 ld 57 3 3,
 ia 58 42 56 57,
 ld 59 3 58,
 ⟨(some 60), .unOp .neg 3 (.tmp 59), none⟩,
 ld 61 47 8,
 fa 62 47 8 0,
 fa 63 45 62 0,
 ld 64 42 63,
 ld 65 3 3,
 ia 66 42 64 65,
 ld 67 3 66,
 ld 68 47 9,
 ⟨(some 69), .call { callee := .value (.func 117), args := #[.tmp 53, .tmp 60, .tmp 61, .tmp 67, .tmp 68], argTypes := #[105, 3, 47, 3, 47] }, none⟩,
 ⟨(some 70), .buildSlice 34 1 #[(0, .tmp 69)], none⟩,
 ⟨(some 71), .call { callee := .builtin .append, args := #[.tmp 52, .tmp 70], argTypes := #[34, 34] }, none⟩,
 st 34 5 71]
 [[], [], [], [2], [3], [], [4, 5], [6], [7], [], [], [10], [11], [], [12, 13], [14], [], [1, 8, 9, 15, 16], [17], [0, 18, 17], [19, 19, 0, 1, 2, 3, 4, 5, 6, 7, 8, 9, 10, 11, 12, 13, 14, 15, 16, 17, 18, 19]])
@[reducible] noncomputable def roundL (bx bv r0 : Nat) (st : LoopState) : Obj' := .loop Try.prog.funcs.size 112 [.junk, .junk, .ptr bx 0, .ptr bv 0, .junk, .ptr r0 0] [50, 51] rA rB st none
def roundPost (s : Sys) (v : Nat) (a b : Made) (acc : List Made) (lid r0 : Nat) (o1 : Nat → Obj') (nx1 : Nat) (z : V) (K' X' : V → (Nat → Obj') → Nat → Prop) (p : Option Made) : Prop :=
  match p with
  | some x => ∀ o2 nx2 j2 e2, nx1 ≤ nx2 → Good o2 nx2 → (∀ j, j < nx1 → j ≠ r0 → (∀ ep, z ≠ .osl j ep) → o2 j = o1 j) → o2 r0 = .row [.osl j2 e2] → o2 j2 = .arr e2 47 4 ((acc ++ [x]).map Made.d) → (nx1 ≤ j2 ∨ ∃ ep, z = .osl j2 ep) → K' (.d (.bool true)) o2 nx2
  | none => ∀ o2 nx2, nx1 ≤ nx2 → Good o2 nx2 → (∀ j, j < nx1 → j ≠ r0 → j ≠ lid → o2 j = o1 j) → X' (.d tooD) o2 nx2
theorem roundNil (s : Sys) (v : Nat) (l acc : List Made) (a b : Made) {nv nr : Nat} (hma : a.Ok nv nr) (hmb : b.Ok nv nr) (hv : v < nv) (hnv : nv ≤ 5) (hnr : nr ≤ 10) (hsr : s.rows.length = nr) (hal : acc.length ≤ 1002000)
    (bx bv id r0 lid : Nat) (o1 : Nat → Obj') (nx1 : Nat) (hg : Good o1 nx1) (pL : o1 lid = roundL bx bv r0 .ready) (p0 : o1 bx = .row [.ptr id 0]) (p1 : o1 bv = .row [.d (.i v)]) (p2 : o1 id = .row [.d (.i s.vars), .d (.sl (s.rows.map Row.d)), .d (.sl (l.map Made.d))]) (p3 : o1 r0 = .row [.nils]) (hacc : acc = []) (K' X' : V → (Nat → Obj') → Nat → Prop)
    (hpost : roundPost s v a b acc lid r0 o1 nx1 .nils K' X' (pairF s v a b)) : RoundK Try.prog lid [.d a.d, .d b.d] o1 nx1 K' X' := by
  have l0 : bx < nx1 := hg.lt (by rw [p0]; exact Obj'.noConfusion)
  have l1 : bv < nx1 := hg.lt (by rw [p1]; exact Obj'.noConfusion)
  have l2 : id < nx1 := hg.lt (by rw [p2]; exact Obj'.noConfusion)
  have l3 : r0 < nx1 := hg.lt (by rw [p3]; exact Obj'.noConfusion)
  have l4 : lid < nx1 := hg.lt (by rw [pL]; exact Obj'.noConfusion)
  have e01 : bx ≠ bv := fun e => by subst e; rw [p0] at p1; cases p1
  have e02 : bx ≠ id := fun e => by subst e; rw [p0] at p2; cases p2
  have e03 : bx ≠ r0 := fun e => by subst e; rw [p0] at p3; cases p3
  have e12 : bv ≠ id := fun e => by subst e; rw [p1] at p2; injection p2 with h; simp at h
  have e13 : bv ≠ r0 := fun e => by subst e; rw [p1] at p3; cases p3
  have e23 : id ≠ r0 := fun e => by subst e; rw [p2] at p3; cases p3
  have z1 : bx ≠ lid := fun e => by subst e; rw [p0] at pL; cases pL
  have z2 : bv ≠ lid := fun e => by subst e; rw [p1] at pL; cases pL
  have z4 : id ≠ lid := fun e => by subst e; rw [p2] at pL; cases pL
  have z3 : r0 ≠ lid := fun e => by subst e; rw [p3] at pL; cases pL
  have hmix : Try.prog.follows .mixedOrders = true := mix
  refine RoundK.of_ev hmix pL l4 (by decide) rfl ?_
  simp only [setP]
  have w1 : lid ≠ nx1 := by omega
  have w2 : ∀ k, lid ≠ nx1 + k := fun k => by omega
  have hav : a.r.c[v]? = some (a.r.c.getD v 0) := by
    have := hma.lc
    rw [List.getD_eq_getElem?_getD, List.getElem?_eq_getElem (by omega)]; rfl
  have hbv : b.r.c[v]? = some (b.r.c.getD v 0) := by
    have := hmb.lc
    rw [List.getD_eq_getElem?_getD, List.getElem?_eq_getElem (by omega)]; rfl
  simp +contextual only [go_sem, p0, p1, p2, p3, Made.d, Row.d, w1, w2, Nat.add_assoc, Nat.left_eq_add, Nat.add_eq_left, Nat.add_left_cancel_iff]
  refine beginE_intro (Eq.trans ?_ pL) ?_
  · dsimp only
    rw [upd_ne _ _ _ _ (by omega), upd_ne _ _ _ _ (by omega), upd_ne _ _ _ _ (by omega), upd_ne _ _ _ _ (by omega)]
  dsimp only
  have y2 : bx ≠ nx1 := by omega
  have y3 : ∀ k, bx ≠ nx1 + k := fun k => by omega
  have y4 : bv ≠ nx1 := by omega
  have y5 : ∀ k, bv ≠ nx1 + k := fun k => by omega
  have y6 : r0 ≠ nx1 := by omega
  have y7 : ∀ k, r0 ≠ nx1 + k := fun k => by omega
  have y8 : nx1 ≠ lid := by omega
  have y9 : ∀ k, nx1 + k ≠ lid := fun k => by omega
  have hLm : ∀ st m, nx1 ≤ m → (roundL bx bv r0 st).refs.all (fun r => decide (r < m)) = true := fun st m hm => by
    simp [Obj'.refs, V.refss, V.refs]
    omega
  have hlen1 : acc.length ≤ 140737488355327 := by omega
  have hlen64 : (acc.length + 1) * 64 ≤ 140737488355328 := by omega
  simp +contextual only [go_sem, p0, p1, p2, p3, hav, hbv, Nat.add_assoc, Nat.left_eq_add, Nat.add_eq_left, Nat.add_left_cancel_iff, y2, y3, y4, y5, y6, y7, y8, y9, z1, z2, z3]
  have hac := hma.c _ (List.mem_of_getElem? hav)
  have hbc := hmb.c _ (List.mem_of_getElem? hbv)
  rw [wrap64 (n := -b.r.c.getD v 0) (by omega) (by omega)]
  have hsum := fun (o1 : Nat → Obj') (h1 : o1 id = .row [.d (.i s.vars), .d (.sl (s.rows.map Row.d)), .d (.sl (l.map Made.d))]) => sum_c s (-b.r.c.getD v 0) a (a.r.c.getD v 0) b hma hmb hnv hnr hsr (by omega) (by omega) id o1 (.d (.sl (l.map Made.d))) h1 (fun r hr => by simp [V.refs] at hr)
  cases hbig : bigOk (sumM s (-b.r.c.getD v 0) a (a.r.c.getD v 0) b) with
  | true =>
    simp only [hbig, if_true, Bool.not_true] at hsum
    have hpf : pairF s v a b = some (sumM s (-b.r.c.getD v 0) a (a.r.c.getD v 0) b) := by unfold pairF; rw [if_pos hbig]
    rw [hpf] at hpost
    refine callDR_keep (rd := [id]) (rs := [(sumM s (-b.r.c.getD v 0) a (a.r.c.getD v 0) b).d]) (Δ := []) ?_ (HCt.of_ctr (pan := false) (nx1 + 4) ?_ ?_ ?_ (hsum _ ?_)) ?_
    · simp; omega
    · simp; omega
    · simp [V.refss, V.refs]
    · intro jj hj kk hk
      simp at hj
      subst hj
      rw [upd_ne _ _ _ _ (by omega), upd_ne _ _ _ _ (by omega), upd_ne _ _ _ _ (by omega), upd_ne _ _ _ _ (by omega), upd_ne _ _ _ _ (by omega), p2] at hk
      simp [Obj'.refs, V.refss, V.refs] at hk
    · simp only [rst]
      rw [if_pos (by simp), upd_ne _ _ _ _ (by omega), upd_ne _ _ _ _ (by omega), upd_ne _ _ _ _ (by omega), upd_ne _ _ _ _ (by omega), upd_ne _ _ _ _ (by omega), p2]
    simp +contextual only [go_sem, p0, p1, p2, p3, hav, hbv, Nat.add_assoc, Nat.left_eq_add, Nat.add_eq_left, Nat.add_left_cancel_iff, y2, y3, y4, y5, y6, y7, y8, y9, z1, z2, z3, Made.d, Row.d, if_true, if_false]
    refine end_intro (objsOk_renL (ids := [bx, bv, id, r0]) (nx := nx1) (by simp; omega) (by simp; omega) [([3], []), ([0], []), ([6], []), ([6], []), ([6], []), ([1], []), ([], []), ([], []), ([], []), ([4], []), ([4], []), ([4], []), ([4], []), ([1], []), ([], []), ([], []), ([6], []), ([2], []), ([], [26]), ([26], [27]), ([3, 27], [3])] (by decide)) ?_
    simp +contextual only [go_sem, Nat.add_assoc, Nat.left_eq_add, Nat.add_eq_left, Nat.add_left_cancel_iff]
    refine ⟨_, _, _, _, _, _, _, _, (by dsimp only; repeat (first | rw [upd_same] | rw [upd_ne _ _ _ _ (by omega)])), ?_⟩
    dsimp only
    refine hpost _ _ (nx1 + 23) (0) (by omega) ?_ (fun j g4 g5 g6 => ?_) ?_ ?_ (.inl (by omega))
    · refine Good.upd ?_ (by omega) (hLm .ready _ (by omega))
      repeat (first | exact hg.mono (by omega) | refine Good.upd ?_ (by omega) rfl | refine Good.upd ?_ (by omega) (by simp [Obj'.refs, V.refss, V.refs] <;> omega))
    · by_cases e1 : j = lid
      · subst e1; rw [upd_same, pL]
      · repeat (first | rfl | rw [upd_ne _ _ _ _ (by omega)])
    · repeat (first | rfl | rw [upd_same] | rw [upd_ne _ _ _ _ (by omega)])
    · subst hacc
      repeat (first | rfl | rw [upd_same] | rw [upd_ne _ _ _ _ (by omega)])
  | false =>
    simp only [hbig, if_false, Bool.not_false, Bool.false_eq_true] at hsum
    have hpf : pairF s v a b = none := by unfold pairF; rw [if_neg (by rw [hbig]; exact Bool.noConfusion)]
    rw [hpf] at hpost
    refine callDR_pan (rd := [id]) (x := tooD) (Δ := []) ?_ (HCt.of_ctr (pan := true) (nx1 + 4) ?_ ?_ ?_ (hsum _ ?_)) ?_
    · simp; omega
    · simp; omega
    · simp [V.refss, V.refs]
    · intro jj hj kk hk
      simp at hj
      subst hj
      rw [upd_ne _ _ _ _ (by omega), upd_ne _ _ _ _ (by omega), upd_ne _ _ _ _ (by omega), upd_ne _ _ _ _ (by omega), upd_ne _ _ _ _ (by omega), p2] at hk
      simp [Obj'.refs, V.refss, V.refs] at hk
    · simp only [rst]
      rw [if_pos (by simp), upd_ne _ _ _ _ (by omega), upd_ne _ _ _ _ (by omega), upd_ne _ _ _ _ (by omega), upd_ne _ _ _ _ (by omega), upd_ne _ _ _ _ (by omega), p2]
    simp +contextual only [go_sem, p0, p1, p2, p3, hav, hbv, Nat.add_assoc, Nat.left_eq_add, Nat.add_eq_left, Nat.add_left_cancel_iff, y2, y3, y4, y5, y6, y7, y8, y9, z1, z2, z3, Made.d, Row.d, if_true, if_false]
    refine badE_skip rfl (badE_skip rfl (badE_skip rfl (badE_nil ?_)))
    refine ⟨objsOk_renL (ids := [bx, bv, id, r0]) (nx := nx1) (by simp; omega) (by simp; omega) [([3], []), ([0], []), ([6], []), ([6], []), ([6], []), ([1], []), ([], []), ([], []), ([], []), ([4], []), ([4], []), ([4], []), ([4], []), ([1], []), ([], []), ([], []), ([6], []), ([2], []), ([], []), ([], []), ([], [])] (by decide), ?_⟩
    simp only [panS, blockQ_pan, roundQ, List.contains_nil, Bool.false_eq_true, if_false]
    refine hpost _ _ (by omega) ?_ (fun j g4 g5 g6 => ?_)
    · show Good _ (nx1 + 4 + 21)
      refine Good.upd ?_ (by omega) (hLm .busy _ (by omega))
      repeat (first | exact hg.mono (by omega) | refine Good.upd ?_ (by omega) rfl | refine Good.upd ?_ (by omega) (by simp [Obj'.refs, V.refss, V.refs] <;> omega))
    · repeat (first | rfl | rw [upd_ne _ _ _ _ (by omega)])
set_option maxHeartbeats 800000 in
theorem roundOsl (s : Sys) (v : Nat) (l acc : List Made) (a b : Made) {nv nr : Nat} (hma : a.Ok nv nr) (hmb : b.Ok nv nr) (hv : v < nv) (hnv : nv ≤ 5) (hnr : nr ≤ 10) (hsr : s.rows.length = nr) (hal : acc.length ≤ 1002000)
    (bx bv id r0 lid : Nat) (o1 : Nat → Obj') (nx1 : Nat) (jd ep : Nat) (hg : Good o1 nx1) (pL : o1 lid = roundL bx bv r0 .ready) (p0 : o1 bx = .row [.ptr id 0]) (p1 : o1 bv = .row [.d (.i v)]) (p2 : o1 id = .row [.d (.i s.vars), .d (.sl (s.rows.map Row.d)), .d (.sl (l.map Made.d))]) (p3 : o1 r0 = .row [.osl jd ep]) (g3 : o1 jd = .arr ep 47 4 (acc.map Made.d)) (K' X' : V → (Nat → Obj') → Nat → Prop)
    (hpost : roundPost s v a b acc lid r0 o1 nx1 (.osl jd ep) K' X' (pairF s v a b)) : RoundK Try.prog lid [.d a.d, .d b.d] o1 nx1 K' X' := by
  have l0 : bx < nx1 := hg.lt (by rw [p0]; exact Obj'.noConfusion)
  have l1 : bv < nx1 := hg.lt (by rw [p1]; exact Obj'.noConfusion)
  have l2 : id < nx1 := hg.lt (by rw [p2]; exact Obj'.noConfusion)
  have l3 : r0 < nx1 := hg.lt (by rw [p3]; exact Obj'.noConfusion)
  have l4 : lid < nx1 := hg.lt (by rw [pL]; exact Obj'.noConfusion)
  have e01 : bx ≠ bv := fun e => by subst e; rw [p0] at p1; cases p1
  have e02 : bx ≠ id := fun e => by subst e; rw [p0] at p2; cases p2
  have e03 : bx ≠ r0 := fun e => by subst e; rw [p0] at p3; cases p3
  have e12 : bv ≠ id := fun e => by subst e; rw [p1] at p2; injection p2 with h; simp at h
  have e13 : bv ≠ r0 := fun e => by subst e; rw [p1] at p3; cases p3
  have e23 : id ≠ r0 := fun e => by subst e; rw [p2] at p3; cases p3
  have z1 : bx ≠ lid := fun e => by subst e; rw [p0] at pL; cases pL
  have z2 : bv ≠ lid := fun e => by subst e; rw [p1] at pL; cases pL
  have z4 : id ≠ lid := fun e => by subst e; rw [p2] at pL; cases pL
  have z3 : r0 ≠ lid := fun e => by subst e; rw [p3] at pL; cases pL
  have hmix : Try.prog.follows .mixedOrders = true := mix
  refine RoundK.of_ev hmix pL l4 (by decide) rfl ?_
  simp only [setP]
  have w1 : lid ≠ nx1 := by omega
  have w2 : ∀ k, lid ≠ nx1 + k := fun k => by omega
  have hav : a.r.c[v]? = some (a.r.c.getD v 0) := by
    have := hma.lc
    rw [List.getD_eq_getElem?_getD, List.getElem?_eq_getElem (by omega)]; rfl
  have hbv : b.r.c[v]? = some (b.r.c.getD v 0) := by
    have := hmb.lc
    rw [List.getD_eq_getElem?_getD, List.getElem?_eq_getElem (by omega)]; rfl
  simp +contextual only [go_sem, p0, p1, p2, p3, Made.d, Row.d, w1, w2, Nat.add_assoc, Nat.left_eq_add, Nat.add_eq_left, Nat.add_left_cancel_iff]
  refine beginE_intro (Eq.trans ?_ pL) ?_
  · dsimp only
    rw [upd_ne _ _ _ _ (by omega), upd_ne _ _ _ _ (by omega), upd_ne _ _ _ _ (by omega), upd_ne _ _ _ _ (by omega)]
  dsimp only
  have y2 : bx ≠ nx1 := by omega
  have y3 : ∀ k, bx ≠ nx1 + k := fun k => by omega
  have y4 : bv ≠ nx1 := by omega
  have y5 : ∀ k, bv ≠ nx1 + k := fun k => by omega
  have y6 : r0 ≠ nx1 := by omega
  have y7 : ∀ k, r0 ≠ nx1 + k := fun k => by omega
  have y8 : nx1 ≠ lid := by omega
  have y9 : ∀ k, nx1 + k ≠ lid := fun k => by omega
  have hLm : ∀ st m, nx1 ≤ m → (roundL bx bv r0 st).refs.all (fun r => decide (r < m)) = true := fun st m hm => by
    simp [Obj'.refs, V.refss, V.refs]
    omega
  have hlen1 : acc.length ≤ 140737488355327 := by omega
  have hlen64 : (acc.length + 1) * 64 ≤ 140737488355328 := by omega
  have hjl : jd < nx1 := hg.lt (by rw [g3]; exact Obj'.noConfusion)
  have j0 : jd ≠ bx := fun e => by subst e; rw [p0] at g3; cases g3
  have j1 : jd ≠ bv := fun e => by subst e; rw [p1] at g3; cases g3
  have j2 : jd ≠ id := fun e => by subst e; rw [p2] at g3; cases g3
  have j3 : jd ≠ r0 := fun e => by subst e; rw [p3] at g3; cases g3
  have j4 : jd ≠ lid := fun e => by subst e; rw [pL] at g3; cases g3
  have j5 : jd ≠ nx1 := by omega
  have j6 : ∀ k, jd ≠ nx1 + k := fun k => by omega
  have i0 := Ne.symm j0
  have i1 := Ne.symm j1
  have i2 := Ne.symm j2
  have i3 := Ne.symm j3
  have i4 := Ne.symm j4
  have i5 := Ne.symm j5
  have i6 : ∀ k, nx1 + k ≠ jd := fun k => by omega
  simp +contextual only [go_sem, p0, p1, p2, p3, hav, hbv, Nat.add_assoc, Nat.left_eq_add, Nat.add_eq_left, Nat.add_left_cancel_iff, y2, y3, y4, y5, y6, y7, y8, y9, z1, z2, z3, g3, j0, j1, j2, j3, j4, j5, j6, i0, i1, i2, i3, i4, i5, i6, hlen1, hlen64, List.length_map]
  have hac := hma.c _ (List.mem_of_getElem? hav)
  have hbc := hmb.c _ (List.mem_of_getElem? hbv)
  rw [wrap64 (n := -b.r.c.getD v 0) (by omega) (by omega)]
  have hsum := fun (o1 : Nat → Obj') (h1 : o1 id = .row [.d (.i s.vars), .d (.sl (s.rows.map Row.d)), .d (.sl (l.map Made.d))]) => sum_c s (-b.r.c.getD v 0) a (a.r.c.getD v 0) b hma hmb hnv hnr hsr (by omega) (by omega) id o1 (.d (.sl (l.map Made.d))) h1 (fun r hr => by simp [V.refs] at hr)
  cases hbig : bigOk (sumM s (-b.r.c.getD v 0) a (a.r.c.getD v 0) b) with
  | true =>
    simp only [hbig, if_true, Bool.not_true] at hsum
    have hpf : pairF s v a b = some (sumM s (-b.r.c.getD v 0) a (a.r.c.getD v 0) b) := by unfold pairF; rw [if_pos hbig]
    rw [hpf] at hpost
    refine callDR_keep (rd := [id]) (rs := [(sumM s (-b.r.c.getD v 0) a (a.r.c.getD v 0) b).d]) (Δ := []) ?_ (HCt.of_ctr (pan := false) (nx1 + 4) ?_ ?_ ?_ (hsum _ ?_)) ?_
    · simp; omega
    · simp; omega
    · simp [V.refss, V.refs]
    · intro jj hj kk hk
      simp at hj
      subst hj
      rw [upd_ne _ _ _ _ (by omega), upd_ne _ _ _ _ (by omega), upd_ne _ _ _ _ (by omega), upd_ne _ _ _ _ (by omega), upd_ne _ _ _ _ (by omega), p2] at hk
      simp [Obj'.refs, V.refss, V.refs] at hk
    · simp only [rst]
      rw [if_pos (by simp), upd_ne _ _ _ _ (by omega), upd_ne _ _ _ _ (by omega), upd_ne _ _ _ _ (by omega), upd_ne _ _ _ _ (by omega), upd_ne _ _ _ _ (by omega), p2]
    simp +contextual only [go_sem, p0, p1, p2, p3, hav, hbv, Nat.add_assoc, Nat.left_eq_add, Nat.add_eq_left, Nat.add_left_cancel_iff, y2, y3, y4, y5, y6, y7, y8, y9, z1, z2, z3, Made.d, Row.d, if_true, if_false, g3, j0, j1, j2, j3, j4, j5, j6, i0, i1, i2, i3, i4, i5, i6, hlen1, hlen64, List.length_map]
    refine end_intro (objsOk_renL (ids := [bx, bv, id, r0, jd]) (nx := nx1) (by simp; omega) (by simp; omega) [([3], []), ([0], []), ([7], []), ([7], []), ([7], []), ([1], []), ([], []), ([], []), ([], []), ([5], []), ([5], []), ([5], []), ([5], []), ([1], []), ([], []), ([], []), ([7], []), ([2], []), ([], [27]), ([4, 27], [4]), ([3, 4], [3])] (by decide)) ?_
    simp +contextual only [go_sem, Nat.add_assoc, Nat.left_eq_add, Nat.add_eq_left, Nat.add_left_cancel_iff]
    refine ⟨_, _, _, _, _, _, _, _, (by dsimp only; repeat (first | rw [upd_same] | rw [upd_ne _ _ _ _ (by omega)])), ?_⟩
    dsimp only
    refine hpost _ _ (jd) (ep + 1) (by omega) ?_ (fun j g4 g5 g6 => ?_) ?_ ?_ (.inr ⟨ep, rfl⟩)
    · refine Good.upd ?_ (by omega) (hLm .ready _ (by omega))
      repeat (first | exact hg.mono (by omega) | refine Good.upd ?_ (by omega) rfl | refine Good.upd ?_ (by omega) (by simp [Obj'.refs, V.refss, V.refs] <;> omega))
    · by_cases e1 : j = lid
      · subst e1; rw [upd_same, pL]
      · have e3 : j ≠ jd := fun e => by subst e; exact g6 ep rfl
        repeat (first | rfl | rw [upd_ne _ _ _ _ (by omega)])
    · repeat (first | rfl | rw [upd_same] | rw [upd_ne _ _ _ _ (by omega)])
    · rw [List.map_append]; repeat (first | rfl | rw [upd_same] | rw [upd_ne _ _ _ _ (by omega)])
  | false =>
    simp only [hbig, if_false, Bool.not_false, Bool.false_eq_true] at hsum
    have hpf : pairF s v a b = none := by unfold pairF; rw [if_neg (by rw [hbig]; exact Bool.noConfusion)]
    rw [hpf] at hpost
    refine callDR_pan (rd := [id]) (x := tooD) (Δ := []) ?_ (HCt.of_ctr (pan := true) (nx1 + 4) ?_ ?_ ?_ (hsum _ ?_)) ?_
    · simp; omega
    · simp; omega
    · simp [V.refss, V.refs]
    · intro jj hj kk hk
      simp at hj
      subst hj
      rw [upd_ne _ _ _ _ (by omega), upd_ne _ _ _ _ (by omega), upd_ne _ _ _ _ (by omega), upd_ne _ _ _ _ (by omega), upd_ne _ _ _ _ (by omega), p2] at hk
      simp [Obj'.refs, V.refss, V.refs] at hk
    · simp only [rst]
      rw [if_pos (by simp), upd_ne _ _ _ _ (by omega), upd_ne _ _ _ _ (by omega), upd_ne _ _ _ _ (by omega), upd_ne _ _ _ _ (by omega), upd_ne _ _ _ _ (by omega), p2]
    simp +contextual only [go_sem, p0, p1, p2, p3, hav, hbv, Nat.add_assoc, Nat.left_eq_add, Nat.add_eq_left, Nat.add_left_cancel_iff, y2, y3, y4, y5, y6, y7, y8, y9, z1, z2, z3, Made.d, Row.d, if_true, if_false, g3, j0, j1, j2, j3, j4, j5, j6, i0, i1, i2, i3, i4, i5, i6, hlen1, hlen64, List.length_map]
    refine badE_skip rfl (badE_skip rfl (badE_skip rfl (badE_nil ?_)))
    refine ⟨objsOk_renL (ids := [bx, bv, id, r0]) (nx := nx1) (by simp; omega) (by simp; omega) [([3], []), ([0], []), ([6], []), ([6], []), ([6], []), ([1], []), ([], []), ([], []), ([], []), ([4], []), ([4], []), ([4], []), ([4], []), ([1], []), ([], []), ([], []), ([6], []), ([2], []), ([], []), ([], []), ([], [])] (by decide), ?_⟩
    simp only [panS, blockQ_pan, roundQ, List.contains_nil, Bool.false_eq_true, if_false]
    refine hpost _ _ (by omega) ?_ (fun j g4 g5 g6 => ?_)
    · show Good _ (nx1 + 4 + 21)
      refine Good.upd ?_ (by omega) (hLm .busy _ (by omega))
      repeat (first | exact hg.mono (by omega) | refine Good.upd ?_ (by omega) rfl | refine Good.upd ?_ (by omega) (by simp [Obj'.refs, V.refss, V.refs] <;> omega))
    · repeat (first | rfl | rw [upd_ne _ _ _ _ (by omega)])
end Go.Proofs.Ytaafchgfibbmhaa
