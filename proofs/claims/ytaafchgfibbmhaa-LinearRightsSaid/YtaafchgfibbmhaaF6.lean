/-
  FUNCTIONS OF LAYER 15: the reference's points, and whether rows hold. Conditions: as each theorem says.
-/
import Derived.Test.YtaafchgfibbmhaaF5
set_option linter.unusedSimpArgs false
set_option linter.unusedVariables false
namespace Go.Proofs.Ytaafchgfibbmhaa
theorem rat_c (r : Rat) (most : Int) (hm : 0 ≤ most ∧ most ≤ 1000000000000) : PCt Try.prog 57 [r.d, .i most] (.ret [.bool (ratF r most)]) := by
  have hw : IntKind.i64.wrap (-most) = -most := wrap64 (by omega) (by omega)
  refine p57 ?_
  rw [c57]
  simp +contextual only [go_sem, Int.reduceBEq, Int.reduceBNe, Int.reduceLT, Int.reduceLE, Int.reduceEq, Int.reduceNe, List.range_zero, Option.isSome_some, Nat.reducePow, and_self, List.cons.injEq, Nat.reduceEqDiff, Nat.reduceAdd, Nat.reduceSub, Nat.reduceMul, Nat.reduceLeDiff, Nat.reduceBEq, Nat.reduceLT, reduceIte, reduceCtorEq]
  refine call_keep (in_c _ _ _) rfl ?_
  simp +contextual only [go_sem, Int.reduceBEq, Int.reduceBNe, Int.reduceLT, Int.reduceLE, Int.reduceEq, Int.reduceNe, List.range_zero, Option.isSome_some, Nat.reducePow, and_self, List.cons.injEq, Nat.reduceEqDiff, Nat.reduceAdd, Nat.reduceSub, Nat.reduceMul, Nat.reduceLeDiff, Nat.reduceBEq, Nat.reduceLT, reduceIte, reduceCtorEq, hw]
  refine guard_data (callG_intro [.bool (inB r.num (-most) most)] ?_ ?_)
  · simp +contextual only [go_sem, Int.reduceBEq, Int.reduceBNe, Int.reduceLT, Int.reduceLE, Int.reduceEq, Int.reduceNe, List.range_zero, Option.isSome_some, Nat.reducePow, and_self, List.cons.injEq, Nat.reduceEqDiff, Nat.reduceAdd, Nat.reduceSub, Nat.reduceMul, Nat.reduceLeDiff, Nat.reduceBEq, Nat.reduceLT, reduceIte, reduceCtorEq]
    exact fun _ => in_c _ _ _
  simp +contextual only [go_sem, Int.reduceBEq, Int.reduceBNe, Int.reduceLT, Int.reduceLE, Int.reduceEq, Int.reduceNe, List.range_zero, Option.isSome_some, Nat.reducePow, and_self, List.cons.injEq, Nat.reduceEqDiff, Nat.reduceAdd, Nat.reduceSub, Nat.reduceMul, Nat.reduceLeDiff, Nat.reduceBEq, Nat.reduceLT, reduceIte, reduceCtorEq]
  refine guard_data (callG_intro [.i (Int.gcd r.num r.den)] ?_ ?_)
  · simp +contextual only [go_sem, Int.reduceBEq, Int.reduceBNe, Int.reduceLT, Int.reduceLE, Int.reduceEq, Int.reduceNe, List.range_zero, Option.isSome_some, Nat.reducePow, and_self, List.cons.injEq, Nat.reduceEqDiff, Nat.reduceAdd, Nat.reduceSub, Nat.reduceMul, Nat.reduceLeDiff, Nat.reduceBEq, Nat.reduceLT, reduceIte, reduceCtorEq]
    intro h1
    simp [inB] at h1
    exact gcd_c _ _ (by omega) (by omega)
  simp +contextual only [go_sem, Int.reduceBEq, Int.reduceBNe, Int.reduceLT, Int.reduceLE, Int.reduceEq, Int.reduceNe, List.range_zero, Option.isSome_some, Nat.reducePow, and_self, List.cons.injEq, Nat.reduceEqDiff, Nat.reduceAdd, Nat.reduceSub, Nat.reduceMul, Nat.reduceLeDiff, Nat.reduceBEq, Nat.reduceLT, reduceIte, reduceCtorEq]
  have : ratF r most = (decide (1 ≤ r.den) && decide (r.den ≤ most) && inB r.num (-most) most && ((Int.gcd r.num r.den : Int) == 1)) := by
    rw [ratF]
    congr 1
    rw [Bool.eq_iff_iff]
    simp
    omega
  rw [this]
theorem point'_c (s : Sys) (p : List Rat) (hp : p.length ≤ 9223372036854775807) : PCt Try.prog 17 [s.d, .sl (p.map Rat.d)] (.ret [.bool (pointF s p)]) := by
  refine p17 ?_
  rw [c17]
  simp +contextual only [go_sem, Int.reduceBEq, Int.reduceBNe, Int.reduceLT, Int.reduceLE, Int.reduceEq, Int.reduceNe, List.range_zero, Option.isSome_some, Nat.reducePow, and_self, List.cons.injEq, Nat.reduceEqDiff, Nat.reduceAdd, Nat.reduceSub, Nat.reduceMul, Nat.reduceLeDiff, Nat.reduceBEq, Nat.reduceLT, reduceIte, reduceCtorEq]
  refine loop_fam (fun k : Nat => ⟨envJ [.junk, .d (.sl (p.map Rat.d)), .ptr 0 0, .junk, .junk, .d (.i k)], s.o, 1⟩)
    (fun k => k ≤ p.length ∧ (p.take k).all (fun r => ratF r 100) = true) (fun k => p.length - k) 0 ⟨Nat.zero_le _, by simp⟩ (SLe.d1 _ s.o_good (by omega) rfl ?_) (fun k hk => ?_)
  · refine backE_junk (backE_d rfl (backE_v rfl (by simp [V.refs]) ?_))
    (repeat (first | exact backE_nil | refine backE_junk ?_ | refine backE_d rfl ?_ | refine backE_d (d_int (wrapN (by omega))) ?_))
  simp +contextual only [go_sem, Int.reduceBEq, Int.reduceBNe, Int.reduceLT, Int.reduceLE, Int.reduceEq, Int.reduceNe, List.range_zero, Option.isSome_some, Nat.reducePow, and_self, List.cons.injEq, Nat.reduceEqDiff, Nat.reduceAdd, Nat.reduceSub, Nat.reduceMul, Nat.reduceLeDiff, Nat.reduceBEq, Nat.reduceLT, reduceIte, reduceCtorEq]
  refine cond_intro (fun h2 => ?_) (fun h2 => ?_)
  · simp at h2
    obtain ⟨r, hr⟩ : ∃ r, p[k]? = some r := ⟨p[k], by simp [h2]⟩
    simp +contextual only [go_sem, Int.reduceBEq, Int.reduceBNe, Int.reduceLT, Int.reduceLE, Int.reduceEq, Int.reduceNe, List.range_zero, Option.isSome_some, Nat.reducePow, and_self, List.cons.injEq, Nat.reduceEqDiff, Nat.reduceAdd, Nat.reduceSub, Nat.reduceMul, Nat.reduceLeDiff, Nat.reduceBEq, Nat.reduceLT, reduceIte, reduceCtorEq, hr, Rat.d]
    refine call_keep (rat_c r 100 (by omega)) rfl ?_
    simp +contextual only [go_sem, Int.reduceBEq, Int.reduceBNe, Int.reduceLT, Int.reduceLE, Int.reduceEq, Int.reduceNe, List.range_zero, Option.isSome_some, Nat.reducePow, and_self, List.cons.injEq, Nat.reduceEqDiff, Nat.reduceAdd, Nat.reduceSub, Nat.reduceMul, Nat.reduceLeDiff, Nat.reduceBEq, Nat.reduceLT, reduceIte, reduceCtorEq]
    refine cond_intro (fun h3 => ?_) (fun h3 => ?_)
    · simp +contextual only [go_sem, Int.reduceBEq, Int.reduceBNe, Int.reduceLT, Int.reduceLE, Int.reduceEq, Int.reduceNe, List.range_zero, Option.isSome_some, Nat.reducePow, and_self, List.cons.injEq, Nat.reduceEqDiff, Nat.reduceAdd, Nat.reduceSub, Nat.reduceMul, Nat.reduceLeDiff, Nat.reduceBEq, Nat.reduceLT, reduceIte, reduceCtorEq]
      have : pointF s p = false := by
        have : p.all (fun r => ratF r 100) = false := by
          rw [List.all_eq_false]
          exact ⟨r, List.mem_of_getElem? hr, by simpa using h3⟩
        rw [pointF, this, Bool.and_false]
      rw [this]
    · simp +contextual only [go_sem, Int.reduceBEq, Int.reduceBNe, Int.reduceLT, Int.reduceLE, Int.reduceEq, Int.reduceNe, List.range_zero, Option.isSome_some, Nat.reducePow, and_self, List.cons.injEq, Nat.reduceEqDiff, Nat.reduceAdd, Nat.reduceSub, Nat.reduceMul, Nat.reduceLeDiff, Nat.reduceBEq, Nat.reduceLT, reduceIte, reduceCtorEq]
      refine nextS_intro (k + 1) ⟨h2, ?_⟩ (by omega) (SLe.d1 _ s.o_good (by omega) rfl ?_)
      · rw [List.take_add_one, hr]
        simp at h3 hk ⊢
        exact ⟨hk.2, h3⟩
      · refine backE_junk (backE_d rfl (backE_v rfl (by simp [V.refs]) ?_))
        (repeat (first | exact backE_nil | refine backE_junk ?_ | refine backE_d rfl ?_ | refine backE_d (d_int (wrapN (by omega))) ?_))
  · simp +contextual only [go_sem, Int.reduceBEq, Int.reduceBNe, Int.reduceLT, Int.reduceLE, Int.reduceEq, Int.reduceNe, List.range_zero, Option.isSome_some, Nat.reducePow, and_self, List.cons.injEq, Nat.reduceEqDiff, Nat.reduceAdd, Nat.reduceSub, Nat.reduceMul, Nat.reduceLeDiff, Nat.reduceBEq, Nat.reduceLT, reduceIte, reduceCtorEq]
    simp at h2
    have : pointF s p = ((p.length : Int) == s.vars) := by
      have := hk.2
      rw [List.take_of_length_le (by omega)] at this
      rw [pointF, this, Bool.and_true]
    rw [this]
/-- The least number that all denominators divide. -/
def lcmP (p : List Rat) : Nat := p.foldl (fun m r => Nat.lcm m r.den.natAbs) 1
def termF (m : Int) (x : Int × Rat) : Int := x.1 * x.2.num * m.tdiv x.2.den
def sumZ (m : Int) (l : List (Int × Rat)) : Int := l.foldl (fun s x => s + termF m x) 0
def heldF (r : Row) (p : List Rat) : Bool := relF (sumZ (lcmP p) (r.c.zip p)) r.rel (r.b * lcmP p)
structure Small1 (p : List Rat) : Prop where
  len : p.length ≤ 5
  den : ∀ r ∈ p, 1 ≤ r.den ∧ r.den ≤ 100
  num : ∀ r ∈ p, -100 ≤ r.num ∧ r.num ≤ 100
theorem lcmP_snoc (l : List Rat) (r : Rat) : lcmP (l ++ [r]) = Nat.lcm (lcmP l) r.den.natAbs := by simp [lcmP]
theorem lcm_le (m n : Nat) : Nat.lcm m n ≤ m * n := by unfold Nat.lcm; exact Nat.div_le_self _ _
theorem lcmP_bound {p : List Rat} (hp : ∀ r ∈ p, 1 ≤ r.den ∧ r.den ≤ 100) : ∀ k, k ≤ p.length → 1 ≤ lcmP (p.take k) ∧ lcmP (p.take k) ≤ 100 ^ k := by
  intro k
  induction k with
  | zero => intro _; simp [lcmP]
  | succ k ih =>
    intro hk
    obtain ⟨h1, h2⟩ := ih (by omega)
    have e : p.take (k + 1) = p.take k ++ [p[k]] := by rw [List.take_add_one, List.getElem?_eq_getElem (by omega)]; rfl
    have hd := hp p[k] (List.getElem_mem _)
    rw [e, lcmP_snoc]
    constructor
    · exact Nat.pos_of_ne_zero (fun h => by rcases Nat.lcm_eq_zero_iff.1 h with h | h <;> omega)
    · refine Nat.le_trans (lcm_le _ _) ?_
      rw [Nat.pow_succ]
      exact Nat.mul_le_mul h2 (by omega)
theorem lcmP_small {p : List Rat} (hp : Small1 p) (k : Nat) (hk : k ≤ p.length) : 1 ≤ (lcmP (p.take k) : Int) ∧ (lcmP (p.take k) : Int) ≤ 10000000000 := by
  obtain ⟨h1, h2⟩ := lcmP_bound hp.den k hk
  have : 100 ^ k ≤ 100 ^ 5 := Nat.pow_le_pow_right (by decide) (Nat.le_trans hk hp.len)
  have e : (100 : Nat) ^ 5 = 10000000000 := by decide
  omega
/-- One step towards the common denominator: in the program's order and in the reference's. -/
theorem lcm_step {m : Nat} {d : Int} (hm : 1 ≤ m) (hd : 1 ≤ d) : (m : Int).tdiv (Int.gcd m d) * d = Nat.lcm m d.natAbs ∧ (m : Int) * d.tdiv (Int.gcd m d) = Nat.lcm m d.natAbs ∧ ((Int.gcd m d : Nat) : Int) ≠ 0 := by
  obtain ⟨n, rfl⟩ : ∃ n : Nat, d = n := ⟨d.toNat, by omega⟩
  have hg : Nat.gcd m n ≠ 0 := fun h => by have := (Nat.gcd_eq_zero_iff.1 h).1; omega
  simp only [Int.gcd, Int.natAbs_natCast]
  have h1 := Nat.gcd_dvd_left m n
  have h2 := Nat.gcd_dvd_right m n
  refine ⟨?_, ?_, by omega⟩
  · rw [← Int.ofNat_tdiv, ← Int.natCast_mul]
    congr 1
    rw [Nat.lcm, Nat.div_mul_right_comm h1]
  · rw [← Int.ofNat_tdiv, ← Int.natCast_mul]
    congr 1
    rw [Nat.lcm, Nat.mul_div_assoc _ h2]
theorem sumZ_snoc (m : Int) (l : List (Int × Rat)) (x : Int × Rat) : sumZ m (l ++ [x]) = sumZ m l + termF m x := by simp [sumZ]
theorem zip_take_succ {cs : List Int} {p : List Rat} {k : Nat} {c : Int} {r : Rat} (hc : cs[k]? = some c) (hr : p[k]? = some r) : (cs.zip p).take (k + 1) = (cs.zip p).take k ++ [(c, r)] := by
  rw [List.take_add_one]
  have : (cs.zip p)[k]? = some (c, r) := by rw [List.getElem?_zip_eq_some]; exact ⟨hc, hr⟩
  rw [this]; rfl
theorem mul_bound {a b : Int} {A B : Nat} (ha : -(A : Int) ≤ a ∧ a ≤ A) (hb : -(B : Int) ≤ b ∧ b ≤ B) : -((A * B : Nat) : Int) ≤ a * b ∧ a * b ≤ ((A * B : Nat) : Int) := by
  have h1 : a.natAbs ≤ A := by omega
  have h2 : b.natAbs ≤ B := by omega
  have h3 : (a * b).natAbs ≤ A * B := by rw [Int.natAbs_mul]; exact Nat.mul_le_mul h1 h2
  omega
theorem term_bound {m c : Int} {r : Rat} (hm : 1 ≤ m ∧ m ≤ 10000000000) (hc : -1000 ≤ c ∧ c ≤ 1000) (hn : -100 ≤ r.num ∧ r.num ≤ 100) (hd : 1 ≤ r.den) :
    (-100000 ≤ c * r.num ∧ c * r.num ≤ 100000) ∧ (0 ≤ m.tdiv r.den ∧ m.tdiv r.den ≤ 10000000000) ∧ (-1000000000000000 ≤ termF m (c, r) ∧ termF m (c, r) ≤ 1000000000000000) := by
  have h1 := mul_bound (a := c) (b := r.num) (A := 1000) (B := 100) (by omega) (by omega)
  have h2 : 0 ≤ m.tdiv r.den ∧ m.tdiv r.den ≤ 10000000000 := by
    rw [Int.tdiv_eq_ediv_of_nonneg (by omega)]
    exact ⟨Int.ediv_nonneg (by omega) (by omega), Int.le_trans (Int.ediv_le_self _ (by omega)) hm.2⟩
  have h3 := mul_bound (a := c * r.num) (b := m.tdiv r.den) (A := 100000) (B := 10000000000) (by omega) (by omega)
  unfold termF
  simp only
  omega
theorem sumZ_bound {m : Int} (hm : 1 ≤ m ∧ m ≤ 10000000000) {l : List (Int × Rat)} (hl : ∀ x ∈ l, (-1000 ≤ x.1 ∧ x.1 ≤ 1000) ∧ (-100 ≤ x.2.num ∧ x.2.num ≤ 100) ∧ 1 ≤ x.2.den) : ∀ k, k ≤ l.length → -(1000000000000000 * (k : Int)) ≤ sumZ m (l.take k) ∧ sumZ m (l.take k) ≤ 1000000000000000 * (k : Int) := by
  intro k
  induction k with
  | zero => intro _; simp [sumZ]
  | succ k ih =>
    intro hk
    have h1 := ih (by omega)
    have e : l.take (k + 1) = l.take k ++ [l[k]] := by rw [List.take_add_one, List.getElem?_eq_getElem (by omega)]; rfl
    obtain ⟨h2, h3, h4⟩ := hl l[k] (List.getElem_mem _)
    obtain ⟨_, _, h5⟩ := term_bound hm h2 h3 h4
    replace h5 : -1000000000000000 ≤ termF m l[k] ∧ termF m l[k] ≤ 1000000000000000 := h5
    rw [e, sumZ_snoc]
    omega
structure RowOk (r : Row) (p : List Rat) : Prop where
  len : r.c.length = p.length
  cs : ∀ c ∈ r.c, -1000 ≤ c ∧ c ≤ 1000
  b : -1000 ≤ r.b ∧ r.b ≤ 1000
theorem held_c (r : Row) (p : List Rat) (hp : Small1 p) (hr : RowOk r p) : PCt Try.prog 58 [r.d, .sl (p.map Rat.d)] (.ret [.bool (heldF r p)]) := by
  have hlen := hp.len
  refine p58 ?_
  rw [c58]
  simp +contextual only [go_sem, Int.reduceBEq, Int.reduceBNe, Int.reduceLT, Int.reduceLE, Int.reduceEq, Int.reduceNe, List.range_zero, Option.isSome_some, Nat.reducePow, and_self, List.cons.injEq, Nat.reduceEqDiff, Nat.reduceAdd, Nat.reduceSub, Nat.reduceMul, Nat.reduceLeDiff, Nat.reduceBEq, Nat.reduceLT, reduceIte, reduceCtorEq]
  refine loop_fam (fun k : Nat => ⟨envJ [.junk, .d (.sl (p.map Rat.d)), .ptr 0 0, .junk, .junk, .d (.i (lcmP (p.take k))), .d (.i k)], upd (fun _ => .no) 0 (.row [.d (.sl (r.c.map .i)), .d (.i r.rel), .d (.i r.b)]), 1⟩)
    (fun k => k ≤ p.length) (fun k => p.length - k) 0 (Nat.zero_le _) (SLe.d1 _ (Good.upd Good.nil (by decide) rfl) (by omega) rfl ?_) (fun k hk => ?_)
  · refine backE_junk (backE_d rfl (backE_v rfl (by simp [V.refs]) ?_))
    (repeat (first | exact backE_nil | refine backE_junk ?_ | refine backE_d rfl ?_ | refine backE_d (d_int (wrapN (by omega))) ?_))
  simp +contextual only [go_sem, Int.reduceBEq, Int.reduceBNe, Int.reduceLT, Int.reduceLE, Int.reduceEq, Int.reduceNe, List.range_zero, Option.isSome_some, Nat.reducePow, and_self, List.cons.injEq, Nat.reduceEqDiff, Nat.reduceAdd, Nat.reduceSub, Nat.reduceMul, Nat.reduceLeDiff, Nat.reduceBEq, Nat.reduceLT, reduceIte, reduceCtorEq]
  refine cond_intro (fun h2 => ?_) (fun h2 => ?_)
  · simp at h2
    obtain ⟨q, hq⟩ : ∃ q, p[k]? = some q := ⟨p[k], by simp [h2]⟩
    have hqm := List.mem_of_getElem? hq
    have hqd := hp.den q hqm
    obtain ⟨m1, m2⟩ := lcmP_small hp k hk
    obtain ⟨n1, n2⟩ := lcmP_small hp (k + 1) h2
    have estep : lcmP (p.take (k + 1)) = Nat.lcm (lcmP (p.take k)) q.den.natAbs := by
      rw [List.take_add_one, hq]; exact lcmP_snoc _ _
    obtain ⟨g1, g2, g3⟩ := lcm_step (m := lcmP (p.take k)) (by omega) hqd.1
    simp +contextual only [go_sem, Int.reduceBEq, Int.reduceBNe, Int.reduceLT, Int.reduceLE, Int.reduceEq, Int.reduceNe, List.range_zero, Option.isSome_some, Nat.reducePow, and_self, List.cons.injEq, Nat.reduceEqDiff, Nat.reduceAdd, Nat.reduceSub, Nat.reduceMul, Nat.reduceLeDiff, Nat.reduceBEq, Nat.reduceLT, reduceIte, reduceCtorEq, hq, Rat.d]
    refine callD_keep (gcd_c _ _ (by omega) (by omega)) rfl ?_
    simp +contextual only [go_sem, Int.reduceBEq, Int.reduceBNe, Int.reduceLT, Int.reduceLE, Int.reduceEq, Int.reduceNe, List.range_zero, Option.isSome_some, Nat.reducePow, and_self, List.cons.injEq, Nat.reduceEqDiff, Nat.reduceAdd, Nat.reduceSub, Nat.reduceMul, Nat.reduceLeDiff, Nat.reduceBEq, Nat.reduceLT, reduceIte, reduceCtorEq, g3, if_false, hq, Rat.d]
    refine end_intro (by decide) ?_
    simp +contextual only [go_sem, Int.reduceBEq, Int.reduceBNe, Int.reduceLT, Int.reduceLE, Int.reduceEq, Int.reduceNe, List.range_zero, Option.isSome_some, Nat.reducePow, and_self, List.cons.injEq, Nat.reduceEqDiff, Nat.reduceAdd, Nat.reduceSub, Nat.reduceMul, Nat.reduceLeDiff, Nat.reduceBEq, Nat.reduceLT, reduceIte, reduceCtorEq]
    refine nextS_intro (k + 1) h2 (by omega) (SLe.d1 _ (Good.upd Good.nil (by decide) rfl) (by omega) rfl ?_)
    refine backE_junk (backE_d rfl (backE_v rfl (by simp [V.refs]) (backE_junk (backE_junk (backE_d (d_int ?_) ?_)))))
    · have hb : 0 ≤ ((lcmP (p.take k) : Nat) : Int).tdiv (Int.gcd (lcmP (p.take k)) q.den) ∧ ((lcmP (p.take k) : Nat) : Int).tdiv (Int.gcd (lcmP (p.take k)) q.den) ≤ 10000000000 := by
        rw [Int.tdiv_eq_ediv_of_nonneg (by omega)]
        exact ⟨Int.ediv_nonneg (by omega) (Int.natCast_nonneg _), Int.le_trans (Int.ediv_le_self _ (by omega)) m2⟩
      show IntKind.i64.wrap (IntKind.i64.wrap _ * q.den) = _
      rw [wrap64 (n := ((lcmP (p.take k) : Nat) : Int).tdiv _) (by omega) (by omega), g1, ← estep]
      exact wrap64 (by omega) (by omega)
    · (repeat (first | exact backE_nil | refine backE_junk ?_ | refine backE_d rfl ?_ | refine backE_d (d_int (wrapN (by omega))) ?_))
  · simp +contextual only [go_sem, Int.reduceBEq, Int.reduceBNe, Int.reduceLT, Int.reduceLE, Int.reduceEq, Int.reduceNe, List.range_zero, Option.isSome_some, Nat.reducePow, and_self, List.cons.injEq, Nat.reduceEqDiff, Nat.reduceAdd, Nat.reduceSub, Nat.reduceMul, Nat.reduceLeDiff, Nat.reduceBEq, Nat.reduceLT, reduceIte, reduceCtorEq]
    simp at h2
    have hkl : p.take k = p := List.take_of_length_le (by omega)
    obtain ⟨m1, m2⟩ := lcmP_small hp p.length (Nat.le_refl _)
    rw [List.take_length] at m1 m2
    refine loop_fam (fun k : Nat => ⟨envJ [.junk, .d (.sl (p.map Rat.d)), .ptr 0 0, .junk, .junk, .d (.i (lcmP p)), .junk, .d (.i (sumZ (lcmP p) ((r.c.zip p).take k))), .d (.i k)], upd (fun _ => .no) 0 (.row [.d (.sl (r.c.map .i)), .d (.i r.rel), .d (.i r.b)]), 1⟩)
      (fun k => k ≤ p.length) (fun k => p.length - k) 0 (Nat.zero_le _) (SLe.d1 _ (Good.upd Good.nil (by decide) rfl) (by omega) rfl ?_) (fun k hk => ?_)
    · refine backE_junk (backE_d rfl (backE_v rfl (by simp [V.refs]) (backE_junk (backE_junk (backE_d (d_int ?_) ?_)))))
      · rw [hkl]
      · (repeat (first | exact backE_nil | refine backE_junk ?_ | refine backE_d rfl ?_ | refine backE_d (d_int (wrapN (by omega))) ?_))
    simp +contextual only [go_sem, Int.reduceBEq, Int.reduceBNe, Int.reduceLT, Int.reduceLE, Int.reduceEq, Int.reduceNe, List.range_zero, Option.isSome_some, Nat.reducePow, and_self, List.cons.injEq, Nat.reduceEqDiff, Nat.reduceAdd, Nat.reduceSub, Nat.reduceMul, Nat.reduceLeDiff, Nat.reduceBEq, Nat.reduceLT, reduceIte, reduceCtorEq]
    have hall : ∀ x ∈ r.c.zip p, (-1000 ≤ x.1 ∧ x.1 ≤ 1000) ∧ (-100 ≤ x.2.num ∧ x.2.num ≤ 100) ∧ 1 ≤ x.2.den := fun x hx => by
      have := List.of_mem_zip (a := x.1) (b := x.2) hx
      exact ⟨hr.cs _ this.1, hp.num _ this.2, (hp.den _ this.2).1⟩
    have hzl : (r.c.zip p).length = p.length := by simp [hr.len]
    refine cond_intro (fun h2 => ?_) (fun h2 => ?_)
    · simp at h2
      obtain ⟨q, hq⟩ : ∃ q, p[k]? = some q := ⟨p[k], by simp [h2]⟩
      obtain ⟨c, hc⟩ : ∃ c, r.c[k]? = some c := ⟨r.c[k]'(by rw [hr.len]; exact h2), by simp [hr.len, h2]⟩
      have hqm := List.mem_of_getElem? hq
      have hqd := hp.den q hqm
      have hq0 : ¬ (q.den = 0) := by omega
      obtain ⟨t1, t2, t3⟩ := term_bound (m := lcmP p) (c := c) (r := q) ⟨m1, m2⟩ (hr.cs c (List.mem_of_getElem? hc)) (hp.num q hqm) hqd.1
      have s1 := sumZ_bound (m := lcmP p) ⟨m1, m2⟩ hall k (by omega)
      simp +contextual only [go_sem, Int.reduceBEq, Int.reduceBNe, Int.reduceLT, Int.reduceLE, Int.reduceEq, Int.reduceNe, List.range_zero, Option.isSome_some, Nat.reducePow, and_self, List.cons.injEq, Nat.reduceEqDiff, Nat.reduceAdd, Nat.reduceSub, Nat.reduceMul, Nat.reduceLeDiff, Nat.reduceBEq, Nat.reduceLT, reduceIte, reduceCtorEq, hq, hc, Rat.d, hq0, if_false]
      refine end_intro (by decide) ?_
      simp +contextual only [go_sem, Int.reduceBEq, Int.reduceBNe, Int.reduceLT, Int.reduceLE, Int.reduceEq, Int.reduceNe, List.range_zero, Option.isSome_some, Nat.reducePow, and_self, List.cons.injEq, Nat.reduceEqDiff, Nat.reduceAdd, Nat.reduceSub, Nat.reduceMul, Nat.reduceLeDiff, Nat.reduceBEq, Nat.reduceLT, reduceIte, reduceCtorEq]
      refine nextS_intro (k + 1) h2 (by omega) (SLe.d1 _ (Good.upd Good.nil (by decide) rfl) (by omega) rfl ?_)
      refine backE_junk (backE_d rfl (backE_v rfl (by simp [V.refs]) (backE_junk (backE_junk (backE_d rfl (backE_junk (backE_d (d_int ?_) ?_)))))))
      · show IntKind.i64.wrap (sumZ (lcmP p) ((r.c.zip p).take k) + IntKind.i64.wrap (IntKind.i64.wrap (c * q.num) * IntKind.i64.wrap (((lcmP p : Nat) : Int).tdiv q.den))) = _
        have et : c * q.num * ((lcmP p : Nat) : Int).tdiv q.den = termF (lcmP p) (c, q) := rfl
        rw [wrap64 (n := c * q.num) (by omega) (by omega), wrap64 (n := ((lcmP p : Nat) : Int).tdiv q.den) (by omega) (by omega), et, wrap64 (n := termF (lcmP p) (c, q)) (by omega) (by omega), zip_take_succ hc hq, sumZ_snoc]
        exact wrap64 (by omega) (by omega)
      · (repeat (first | exact backE_nil | refine backE_junk ?_ | refine backE_d rfl ?_ | refine backE_d (d_int (wrapN (by omega))) ?_))
    · simp +contextual only [go_sem, Int.reduceBEq, Int.reduceBNe, Int.reduceLT, Int.reduceLE, Int.reduceEq, Int.reduceNe, List.range_zero, Option.isSome_some, Nat.reducePow, and_self, List.cons.injEq, Nat.reduceEqDiff, Nat.reduceAdd, Nat.reduceSub, Nat.reduceMul, Nat.reduceLeDiff, Nat.reduceBEq, Nat.reduceLT, reduceIte, reduceCtorEq]
      simp at h2
      have hb := mul_bound (a := r.b) (b := lcmP p) (A := 1000) (B := 10000000000) (by have := hr.b; omega) (by omega)
      have hw : IntKind.i64.wrap (r.b * ((lcmP p : Nat) : Int)) = r.b * ((lcmP p : Nat) : Int) := wrap64 (by omega) (by omega)
      rw [hw]
      have hkz : (r.c.zip p).take k = r.c.zip p := List.take_of_length_le (by omega)
      rw [hkz]
      refine call_keep (related'_c _ _ _) rfl ?_
      simp +contextual only [go_sem, Int.reduceBEq, Int.reduceBNe, Int.reduceLT, Int.reduceLE, Int.reduceEq, Int.reduceNe, List.range_zero, Option.isSome_some, Nat.reducePow, and_self, List.cons.injEq, Nat.reduceEqDiff, Nat.reduceAdd, Nat.reduceSub, Nat.reduceMul, Nat.reduceLeDiff, Nat.reduceBEq, Nat.reduceLT, reduceIte, reduceCtorEq]
      rfl
end Go.Proofs.Ytaafchgfibbmhaa
