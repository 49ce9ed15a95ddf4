/-
  A PART OF THE PROOF (put together by program): several texts, one behind the other. Conditions: none.
-/
import Derived.Test.YtaafchgfibbmhaaPk33
set_option linter.unusedSimpArgs false
set_option linter.unusedVariables false
namespace Go.Proofs.Ytaafchgfibbmhaa
theorem fineS_c (s : Sys) (hs : s.Fits) : PCt Try.prog 32 [s.d] (.ret [.bool (smallF s && checkF s)]) := by
  have h1 := small_c s hs.rows
  have h2 := sys_c s hs
  refine PCt.of_ev mix fn32 (by simp) ?_
  rw [c32]
  simp +contextual only [go_sem, Sys.d]
  refine call_keep h1 rfl ?_
  cases hsm : smallF s with
  | false => simp +contextual only [go_sem, Sys.d]
  | true =>
    simp +contextual only [go_sem, Sys.d]
    refine call_keep h2 rfl ?_
    simp +contextual only [go_sem]
theorem solves_c (s : Sys) (p : List Rat) (hs : s.Fits) (hpl : p.length ≤ 9223372036854775807) (hfit : checkF s = true → pointF s p = true → Small1 p ∧ ∀ r ∈ s.rows, RowOk r p) :
    PCt Try.prog 36 [s.d, .sl (p.map Rat.d)] (.ret [.bool (checkF s && pointF s p && decide (holdsN s p = s.rows.length))]) := by
  have h1 := holds_c s p hs hpl hfit
  refine PCt.of_ev mix fn36 (by simp) ?_
  rw [c36]
  simp +contextual only [go_sem, Sys.d]
  cases hc : (checkF s && pointF s p) with
  | false =>
    rw [hc] at h1
    simp only [Bool.false_eq_true, if_false] at h1
    refine call_keep h1 rfl ?_
    simp +contextual only [go_sem]
  | true =>
    rw [hc] at h1
    simp only [if_true] at h1
    refine call_keep h1 rfl ?_
    simp +contextual only [go_sem]
    exact congrArg _ (congrArg (fun b => [D.bool b]) (by rw [Bool.eq_iff_iff]; simp; omega))
abbrev D.i8 (n : Int) : D := .int .i8 n
def prD (x : Int × Int) : D := .agg [.i8 x.1, .i8 x.2]
def atRaw (by' : List (Int × Int)) (k : Nat) : Int × Int := if by'.length = 0 then (0, 1) else
  let x := by'.getD (k % by'.length) (0, 0)
  (x.1.tmod 20, 1 + (x.2 % 128).tmod 6)
def atV (by' : List (Int × Int)) (k : Nat) : Rat := ⟨(atRaw by' k).1.tdiv (Int.gcd (atRaw by' k).1 (atRaw by' k).2), (atRaw by' k).2.tdiv (Int.gcd (atRaw by' k).1 (atRaw by' k).2)⟩
def atK (by' : List (Int × Int)) (n k : Nat) : List Rat := (List.range n).map fun i => if i < k then atV by' i else ⟨0, 0⟩
theorem and127 (a : Int) (h : -128 ≤ a ∧ a ≤ 127) : bitsI .and .i64 a 127 = some (a % 128) := by
  have key : ∀ i : Fin 256, bitsI .and .i64 ((i.val : Int) - 128) 127 = some (((i.val : Int) - 128) % 128) := by decide +kernel
  have := key ⟨(a + 128).toNat, by omega⟩
  rw [show (((⟨(a + 128).toNat, by omega⟩ : Fin 256).val : Int) - 128) = a by simp only; omega] at this
  exact this
theorem atK_succ (by' : List (Int × Int)) (n k : Nat) (hk : k < n) : (atK by' n k).set k (atV by' k) = atK by' n (k + 1) := by
  apply List.ext_getElem
  · simp [atK]
  · intro i h1 h2
    simp only [atK, List.length_map, List.length_range] at h2
    rw [List.getElem_set]
    simp only [atK, List.getElem_map, List.getElem_range]
    by_cases e : k = i
    · subst e; simp
    · rw [if_neg e]
      by_cases e2 : i < k
      · rw [if_pos e2, if_pos (by omega)]
      · rw [if_neg e2, if_neg (by omega)]
theorem at_c (n : Nat) (hn : n ≤ 5) (by' : List (Int × Int)) (hl : by'.length ≤ 9223372036854775807) (h8 : ∀ x ∈ by', (-128 ≤ x.1 ∧ x.1 ≤ 127) ∧ -128 ≤ x.2 ∧ x.2 ≤ 127) :
    PCt Try.prog 33 [.i n, .sl (by'.map prD)] (.ret [.sl ((atK by' n n).map Rat.d)]) := by
  have hb1 : 16 * n ≤ 140737488355328 := by omega
  have hb2 : n ≤ 140737488355328 := by omega
  have hrep : List.replicate n (D.agg [D.i 0, D.i 0]) = (atK by' n 0).map Rat.d := by
    apply List.ext_getElem
    · simp [atK]
    · intro i h1 h2
      simp [atK, Rat.d]
  refine PCt.of_ev mix fn33 (by simp) ?_
  rw [c33]
  simp +contextual only [go_sem, hb1, hb2, if_true, List.length_replicate]
  refine loop_fam (fun k : Nat => ⟨envJ [.junk, .d (.sl (by'.map prD)), .junk, .junk, .junk, .osl 2 0, .junk, .junk, .junk, .junk, .junk, .junk, .junk, .d (.i n), .d (.i k)], upd (fun _ => .no) 2 (.arr 0 68 2 ((atK by' n k).map Rat.d)), 3⟩)
    (fun k => k ≤ n) (fun k => n - k) 0 (Nat.zero_le _) (SLe.backL _ (by omega) (by omega) (Good.upd Good.nil (by omega) rfl) (fun j h => ?_) ?_) (fun k hk => ?_)
  · rw [← hrep]
  · repeat (first | exact backE_nil | refine backE_junk ?_ | refine backE_d rfl ?_ | refine backE_d (d_int (by simp)) ?_ | refine backE_v rfl (by simp [V.refs]) ?_)
  simp +contextual only [go_sem]
  refine cond_intro (fun h2 => ?_) (fun h2 => ?_)
  · simp at h2
    have h02 : (0 : Int) < ((2 : Nat) : Int) := by omega
    have h12 : (1 : Int) < ((2 : Nat) : Int) := by omega
    have ht0 : Int.toNat 0 = 0 := rfl
    have ht1 : Int.toNat 1 = 1 := rfl
    have hkl : k < (atK by' n k).length := by simp [atK]; exact h2
    obtain ⟨y, hky⟩ : ∃ y, (atK by' n k)[k]? = some y := ⟨(atK by' n k)[k], List.getElem?_eq_getElem _⟩
    cases hz : decide ((0 : Int) < (by'.length : Int)) with
    | false =>
      have hl0 : by'.length = 0 := by simp only [decide_eq_false_iff_not] at hz; omega
      simp +contextual only [go_sem, hz]
      refine call_keep (common_c 0 1 (by omega) (by omega)) rfl ?_
      have hg1 : ((Int.gcd 0 1 : Nat) : Int) = 1 := rfl
      have h10 : ¬ ((1 : Int) = 0) := by omega
      rw [hg1]
      simp +contextual only [go_sem, h10, hkl, hky, if_true, if_false, Int.tdiv_one]
      rw [wrap64 (n := 0) (by omega) (by omega), wrap64 (n := 1) (by omega) (by omega)]
      have hV : (atV by' k).d = .agg [.i 0, .i 1] := by simp [atV, atRaw, hl0, Rat.d]
      refine end_intro (by decide) ?_
      simp +contextual only [go_sem]
      refine nextS_intro (k + 1) h2 (by omega) (SLe.backL _ (by omega) (by omega) (Good.upd Good.nil (by omega) rfl) (fun j h => ?_) ?_)
      · rw [← atK_succ by' n k h2, List.map_set]
        by_cases e : j = 2
        · subst e
          repeat (first | rfl | rw [upd_same] | rw [upd_ne _ _ _ _ (by omega)])
          rw [hV]
        · simp only [upd_ne _ _ _ _ e]
      · repeat (first | exact backE_nil | refine backE_junk ?_ | refine backE_d rfl ?_ | refine backE_d (d_int (wrapN (by omega))) ?_ | refine backE_v rfl (by simp [V.refs]) ?_)
    | true =>
      have hl0 : by'.length ≠ 0 := by simp only [decide_eq_true_eq] at hz; omega
      have hm0 : ¬ ((by'.length : Int) = 0) := by omega
      have htm : ((k : Int).tmod (by'.length : Int)) = ((k % by'.length : Nat) : Int) := (Int.ofNat_tmod k by'.length).symm
      obtain ⟨x, hx⟩ : ∃ x, by'[k % by'.length]? = some x := ⟨by'[k % by'.length]'(Nat.mod_lt _ (by omega)), List.getElem?_eq_getElem _⟩
      have hx8 := h8 x (List.mem_of_getElem? hx)
      simp +contextual only [go_sem, hz, hm0, htm, hx, if_false, if_true, prD, h02, h12, ht0, ht1, Nat.mul_one]
      rw [wrap64 (n := x.1) (by omega) (by omega), wrap64 (n := x.2) (by omega) (by omega)]
      have ha := and127 x.2 hx8.2
      have hb : 0 ≤ x.2 % 128 ∧ x.2 % 128 < 128 := ⟨Int.emod_nonneg _ (by omega), Int.emod_lt_of_pos _ (by omega)⟩
      simp +contextual only [go_sem, ha, if_false]
      refine end_intro (by decide) ?_
      have ht6 : 0 ≤ (x.2 % 128).tmod 6 ∧ (x.2 % 128).tmod 6 < 6 := ⟨Int.tmod_nonneg _ hb.1, Int.tmod_lt_of_pos _ (by omega)⟩
      have ht20 : -20 < x.1.tmod 20 ∧ x.1.tmod 20 < 20 := ⟨Int.lt_tmod_of_pos _ (by omega), Int.tmod_lt_of_pos _ (by omega)⟩
      rw [wrap64 (n := 1 + (x.2 % 128).tmod 6) (by omega) (by omega)]
      have hraw : atRaw by' k = (x.1.tmod 20, 1 + (x.2 % 128).tmod 6) := by
        simp only [atRaw]
        rw [if_neg hl0, List.getD_eq_getElem?_getD, hx]
        rfl
      have hatV : atV by' k = ⟨(x.1.tmod 20).tdiv (Int.gcd (x.1.tmod 20) (1 + (x.2 % 128).tmod 6)), (1 + (x.2 % 128).tmod 6).tdiv (Int.gcd (x.1.tmod 20) (1 + (x.2 % 128).tmod 6))⟩ := by simp only [atV, hraw]
      have hB6 : 1 ≤ 1 + (x.2 % 128).tmod 6 ∧ 1 + (x.2 % 128).tmod 6 ≤ 6 := by omega
      generalize x.1.tmod 20 = A at *
      generalize 1 + (x.2 % 128).tmod 6 = B at *
      have hBp : B ≠ 0 := by omega
      obtain ⟨g1, g2, g3⟩ := over_g A B (by omega) (by omega) hBp
      have hg0 : ¬ ((Int.gcd A B : Int) = 0) := by omega
      simp +contextual only [go_sem]
      refine call_keep (common_c A B (by omega) (by omega)) rfl ?_
      simp +contextual only [go_sem, hg0, hkl, hky, if_true, if_false]
      have hV : (atV by' k).d = .agg [.i (A.tdiv (Int.gcd A B)), .i (B.tdiv (Int.gcd A B))] := by rw [hatV, Rat.d]
      rw [wrap64 (n := A.tdiv (Int.gcd A B)) (by omega) (by omega), wrap64 (n := B.tdiv (Int.gcd A B)) (by omega) (by omega)]
      refine end_intro (by decide) ?_
      simp +contextual only [go_sem]
      refine nextS_intro (k + 1) h2 (by omega) (SLe.backL _ (by omega) (by omega) (Good.upd Good.nil (by omega) rfl) (fun j h => ?_) ?_)
      · rw [← atK_succ by' n k h2, List.map_set]
        by_cases e : j = 2
        · subst e
          repeat (first | rfl | rw [upd_same] | rw [upd_ne _ _ _ _ (by omega)])
          rw [hV]
        · simp only [upd_ne _ _ _ _ e]
      · repeat (first | exact backE_nil | refine backE_junk ?_ | refine backE_d rfl ?_ | refine backE_d (d_int (wrapN (by omega))) ?_ | refine backE_v rfl (by simp [V.refs]) ?_)
  · simp at h2
    have hkn : k = n := by omega
    subst hkn
    simp +contextual only [go_sem]
end Go.Proofs.Ytaafchgfibbmhaa
namespace Go.Proofs.Ytaafchgfibbmhaa
abbrev ptD (p : List Rat) : Int := (lcmP p : Nat)
def ptA (p : List Rat) : List Int := p.map fun x => x.num * (ptD p).tdiv x.den
theorem sumZ_dot (m : Int) : ∀ (c : List Int) (p : List Rat) (S : Int), (c.zip p).foldl (fun s x => s + termF m x) S = S + dot c (p.map fun x => x.num * m.tdiv x.den)
  | [], p, S => by cases p <;> simp [dot]
  | _ :: _, [], S => by simp [dot]
  | a :: c, x :: p, S => by
    simp only [List.zip_cons_cons, List.foldl_cons, List.map_cons, dot]
    rw [sumZ_dot m c p]
    simp only [termF, Int.mul_assoc]
    omega
theorem relF_at {r : Row} {A : List Int} {D : Int} (hr : 1 ≤ r.rel ∧ r.rel ≤ 3) : relF (dot r.c A) r.rel (r.b * D) = true ↔ r.At A D := by
  unfold relF Row.At
  rcases (by omega : r.rel = 1 ∨ r.rel = 2 ∨ r.rel = 3) with h | h | h <;> simp [h]
theorem heldF_at {r : Row} {p : List Rat} (hr : 1 ≤ r.rel ∧ r.rel ≤ 3) : heldF r p = true ↔ r.At (ptA p) (ptD p) := by
  unfold heldF sumZ
  rw [sumZ_dot, Int.zero_add]
  exact relF_at hr
theorem lcm_dvd_aux : ∀ (p : List Rat) (g : Nat), (g ∣ p.foldl (fun m r => Nat.lcm m r.den.natAbs) g) ∧ ∀ x ∈ p, x.den.natAbs ∣ p.foldl (fun m r => Nat.lcm m r.den.natAbs) g
  | [], g => ⟨Nat.dvd_refl _, fun n hn => by cases hn⟩
  | y :: p, g => by
    obtain ⟨h1, h2⟩ := lcm_dvd_aux p (Nat.lcm g y.den.natAbs)
    refine ⟨Nat.dvd_trans (Nat.dvd_lcm_left _ _) h1, fun x hx => ?_⟩
    rcases List.mem_cons.1 hx with rfl | hx
    · exact Nat.dvd_trans (Nat.dvd_lcm_right _ _) h1
    · exact h2 x hx
theorem ptD_dvd {p : List Rat} {x : Rat} (h : x ∈ p) : x.den ∣ ptD p := Int.ofNat_dvd_right.2 ((lcm_dvd_aux p 1).2 x h)
theorem ptD_pos {p : List Rat} (h : ∀ x ∈ p, 1 ≤ x.den) : 0 < ptD p := by
  have key : ∀ (p : List Rat) (g : Nat), 0 < g → (∀ x ∈ p, 1 ≤ x.den) → 0 < p.foldl (fun m r => Nat.lcm m r.den.natAbs) g := by
    intro p
    induction p with
    | nil => intro g hg _; exact hg
    | cons y p ih =>
      intro g hg hp
      have hy := hp y (by simp)
      exact ih _ (Nat.lcm_pos hg (by omega)) (fun x hx => hp x (by simp [hx]))
  exact Int.natCast_pos.2 (key p 1 (by omega) h)
theorem ptA_at {p : List Rat} {k : Nat} {x : Rat} (hx : p[k]? = some x) : (ptA p).getD k 0 * x.den = x.num * ptD p := by
  have h := Int.tdiv_mul_cancel (ptD_dvd (List.mem_of_getElem? hx))
  rw [List.getD_eq_getElem?_getD, ptA, List.getElem?_map, hx]
  simp only [Option.map_some, Option.getD_some]
  rw [Int.mul_assoc, h]
theorem dot_take : ∀ (c A : List Int) (k : Nat), dot (c.take (k + 1)) A = dot (c.take k) A + c.getD k 0 * A.getD k 0
  | [], A, k => by simp [dot]
  | a :: c, [], k => by cases k <;> simp [dot]
  | a :: c, x :: A, 0 => by simp [dot]
  | a :: c, x :: A, k + 1 => by
    have := dot_take c A k
    simp only [List.take_succ_cons, dot, List.getD_cons_succ] at this ⊢
    rw [this]; omega
theorem heldK_at {r : Row} {p : List Rat} (hd : ∀ (k : Nat) (x : Rat), p[k]? = some x → 1 ≤ x.den) (hl : r.c.length ≤ p.length) : ∀ {k : Nat} {n d : Int}, k ≤ r.c.length → heldK r p k = some (n, d) → 1 ≤ d ∧ n * ptD p = d * (dot (r.c.take k) (ptA p) - r.b * ptD p)
  | 0, n, d, _, h => by
    simp only [heldK, Option.some.injEq, Prod.mk.injEq] at h
    obtain ⟨rfl, rfl⟩ := h
    refine ⟨by omega, ?_⟩
    simp [dot, Int.neg_mul]
  | k + 1, n, d, hk, h => by
    simp only [heldK] at h
    cases hn : heldK r p k with
    | none => rw [hn] at h; cases h
    | some nd =>
      obtain ⟨n0, d0⟩ := nd
      obtain ⟨i1, i2⟩ := heldK_at hd hl (by omega) hn
      rw [hn] at h
      simp only at h
      rw [dot_take]
      split at h
      · rename_i h0
        simp only [Option.some.injEq, Prod.mk.injEq] at h
        obtain ⟨rfl, rfl⟩ := h
        rw [h0, Int.zero_mul, Int.add_zero]
        exact ⟨i1, i2⟩
      · split at h
        · cases h
        · simp only [Option.some.injEq, Prod.mk.injEq] at h
          obtain ⟨rfl, rfl⟩ := h
          obtain ⟨x, hx⟩ : ∃ x, p[k]? = some x := ⟨p[k]'(by omega), List.getElem?_eq_getElem _⟩
          have hx1 := hd k x hx
          have hpx : p.getD k ⟨0, 0⟩ = x := by rw [List.getD_eq_getElem?_getD, hx]; rfl
          have hA := ptA_at hx
          rw [hpx]
          generalize r.c.getD k 0 = c at *
          generalize (ptA p).getD k 0 = a at *
          generalize dot (r.c.take k) (ptA p) = S at *
          generalize ptD p = D at *
          have hd1 : 1 ≤ d0 * x.den := by
            have := Int.mul_le_mul i1 hx1 (by omega) (by omega)
            omega
          have hgn : Int.gcd (n0 * x.den + c * x.num * d0) (d0 * x.den) ≠ 0 := gcd_pos' (by omega)
          have g1 := Int.mul_tdiv_cancel' (Int.gcd_dvd_left (a := n0 * x.den + c * x.num * d0) (b := d0 * x.den))
          have g2 := Int.mul_tdiv_cancel' (Int.gcd_dvd_right (a := n0 * x.den + c * x.num * d0) (b := d0 * x.den))
          have hg : (0 : Int) < (Int.gcd (n0 * x.den + c * x.num * d0) (d0 * x.den) : Nat) := by omega
          generalize ((Int.gcd (n0 * x.den + c * x.num * d0) (d0 * x.den) : Nat) : Int) = g at *
          have e : (n0 * x.den + c * x.num * d0) * D = d0 * x.den * (S + c * a - r.b * D) := by
            have e1 : n0 * x.den * D = d0 * x.den * (S - r.b * D) := by
              rw [Int.mul_assoc, Int.mul_comm x.den D, ← Int.mul_assoc, i2, Int.mul_assoc, Int.mul_comm _ x.den, ← Int.mul_assoc]
            have e2 : c * x.num * d0 * D = d0 * x.den * (c * a) := by
              rw [Int.mul_assoc c, Int.mul_assoc c, Int.mul_assoc x.num, Int.mul_comm d0 D, ← Int.mul_assoc x.num, ← hA]
              rw [Int.mul_comm a x.den, Int.mul_assoc, Int.mul_comm a d0, ← Int.mul_assoc x.den, Int.mul_comm x.den d0, ← Int.mul_assoc c, Int.mul_comm c, Int.mul_assoc]
            rw [Int.add_mul, e1, e2, ← Int.mul_add]
            congr 1
            omega
          generalize (n0 * x.den + c * x.num * d0).tdiv g = q1 at *
          generalize (d0 * x.den).tdiv g = q2 at *
          refine ⟨?_, ?_⟩
          · rcases Int.lt_or_le 0 q2 with h | h
            · omega
            · have := Int.mul_nonpos_of_nonneg_of_nonpos (Int.le_of_lt hg) h
              omega
          · rw [← g1, ← g2, Int.mul_assoc, Int.mul_assoc] at e
            exact Int.eq_of_mul_eq_mul_left (by omega) e
theorem sgn_eq {n D d T : Int} (hD : 0 < D) (hd : 0 < d) (h : n * D = d * T) : (n < 0 ↔ T < 0) ∧ (n = 0 ↔ T = 0) := by
  have p1 : ∀ {a b : Int}, 0 < a → b < 0 → a * b < 0 := fun h1 h2 => Int.mul_neg_of_pos_of_neg h1 h2
  have p2 : ∀ {a b : Int}, 0 < a → 0 < b → 0 < a * b := fun h1 h2 => Int.mul_pos h1 h2
  rw [Int.mul_comm] at h
  rcases Int.lt_trichotomy n 0 with hn | hn | hn <;> rcases Int.lt_trichotomy T 0 with hT | hT | hT
  all_goals first
    | (have a1 := p1 hD hn; have a2 := p1 hd hT; omega)
    | (have a1 := p1 hD hn; have a2 := p2 hd hT; omega)
    | (have a1 := p2 hD hn; have a2 := p1 hd hT; omega)
    | (have a1 := p2 hD hn; have a2 := p2 hd hT; omega)
    | (subst hn; have a2 := p1 hd hT; rw [Int.mul_zero] at h; omega)
    | (subst hn; have a2 := p2 hd hT; rw [Int.mul_zero] at h; omega)
    | (subst hT; have a1 := p1 hD hn; rw [Int.mul_zero] at h; omega)
    | (subst hT; have a1 := p2 hD hn; rw [Int.mul_zero] at h; omega)
    | omega
theorem saidF_at {r : Row} {p : List Rat} (hr : 1 ≤ r.rel ∧ r.rel ≤ 3) (hd : ∀ (k : Nat) (x : Rat), p[k]? = some x → 1 ≤ x.den) (hl : r.c.length ≤ p.length) (h : (saidF r p).2 = true) : (saidF r p).1 = true ↔ r.At (ptA p) (ptD p) := by
  unfold saidF at h ⊢
  cases hn : heldK r p r.c.length with
  | none => rw [hn] at h; cases h
  | some nd =>
    obtain ⟨n, d⟩ := nd
    obtain ⟨i1, i2⟩ := heldK_at hd hl (Nat.le_refl _) hn
    rw [List.take_length] at i2
    have hD : 0 < ptD p := ptD_pos (fun x hx => by
      obtain ⟨k, hk⟩ := List.mem_iff_getElem?.1 hx
      exact hd k x hk)
    simp only
    obtain ⟨k1, k2⟩ := sgn_eq hD (by omega) i2
    unfold Row.At
    rcases (by omega : r.rel = 1 ∨ r.rel = 2 ∨ r.rel = 3) with h | h | h
    · simp only [h, if_true, decide_eq_true_eq]
      refine ⟨fun hh => ⟨fun h => by omega, fun h => by omega, fun _ => by omega⟩, fun hh => by have := hh.2.2 trivial; omega⟩
    · simp only [h, if_true, decide_eq_true_eq]
      rw [if_neg (by omega)]
      simp only [decide_eq_true_eq]
      refine ⟨fun hh => ⟨fun h => by omega, fun h => by omega, fun h => by omega⟩, fun hh => by have := hh.2.1 trivial; omega⟩
    · simp only [h]
      rw [if_neg (by omega), if_neg (by omega)]
      simp only [decide_eq_true_eq]
      refine ⟨fun hh => ⟨fun h => by omega, fun h => by omega, fun h => by omega⟩, fun hh => by have := hh.1 trivial; omega⟩
theorem last_said {r : Row} {p : List Rat} (hr : 1 ≤ r.rel ∧ r.rel ≤ 3) (hl : r.c.length ≤ 5) (h0 : ∀ j, j < r.c.length → r.c.getD j 0 = 0) (hg : goneF r = false) : saidF r p = (false, true) := by
  have hz : ∀ j, r.c.getD j 0 = 0 := fun j => by
    by_cases hj : j < r.c.length
    · exact h0 j hj
    · rw [List.getD_eq_getElem?_getD, List.getElem?_eq_none (by omega)]; rfl
  have hK : ∀ k, heldK r p k = some (-r.b, 1) := by
    intro k
    induction k with
    | zero => rfl
    | succ k ih => simp only [heldK, ih, hz k, if_true]
  have he : emptyF r = true := by simp only [emptyF, hz, and_self, decide_true]
  simp only [goneF, he, Bool.true_and, relF] at hg
  simp only [saidF, hK]
  rcases (by omega : r.rel = 1 ∨ r.rel = 2 ∨ r.rel = 3) with h | h | h
  · simp only [h, if_true, decide_eq_false_iff_not] at hg ⊢
    rw [decide_eq_false (by omega)]
  · simp [h] at hg ⊢
    omega
  · simp [h] at hg ⊢
    omega
theorem dot_none {c A : List Int} (h0 : ∀ j, j < c.length → c.getD j 0 = 0) : dot c A = 0 := by
  have : c = List.replicate c.length 0 := by
    apply List.ext_getElem
    · simp
    · intro i h1 h2
      have := h0 i h1
      rw [List.getD_eq_getElem?_getD, List.getElem?_eq_getElem h1] at this
      simpa using this
  rw [this, dot_zero]
theorem last_at {r : Row} {A : List Int} {D : Int} (hD : 0 < D) (hr : 1 ≤ r.rel ∧ r.rel ≤ 3) (hl : r.c.length ≤ 5) (h0 : ∀ j, j < r.c.length → r.c.getD j 0 = 0) (hg : goneF r = false) : ¬ r.At A D := by
  intro hA
  have hz : ∀ j, r.c.getD j 0 = 0 := fun j => by
    by_cases hj : j < r.c.length
    · exact h0 j hj
    · rw [List.getD_eq_getElem?_getD, List.getElem?_eq_none (by omega)]; rfl
  have he : emptyF r = true := by simp only [emptyF, hz, and_self, decide_true]
  simp only [goneF, he, Bool.true_and, relF] at hg
  obtain ⟨a3, a2, a1⟩ := hA
  rw [dot_none h0] at a1 a2 a3
  have e0 := sgn_eq (n := r.b) (D := D) (d := 1) (T := r.b * D) hD (by omega) (by rw [Int.one_mul])
  rcases (by omega : r.rel = 1 ∨ r.rel = 2 ∨ r.rel = 3) with h | h | h
  · simp [h] at hg
    have := a1 h; omega
  · simp [h] at hg
    have := a2 h; omega
  · simp [h] at hg
    have := a3 h; omega
end Go.Proofs.Ytaafchgfibbmhaa
namespace Go.Proofs.Ytaafchgfibbmhaa
theorem kind_range : ∀ (l : List (Int × Row)) (o : Int), (1 ≤ o ∧ o ≤ 3) → (∀ x ∈ l, 1 ≤ x.2.rel ∧ x.2.rel ≤ 3) → 1 ≤ l.foldl stepRel o ∧ l.foldl stepRel o ≤ 3
  | [], _, h, _ => h
  | x :: l, o, h, hl => by
    refine kind_range l (stepRel o x) ?_ (fun y hy => hl y (by simp [hy]))
    unfold stepRel
    split
    · exact hl x (by simp)
    · exact h
theorem IsSum.range {s : Sys} (hc : checkF s = true) {m : Made} (h : IsSum s m) : 1 ≤ m.r.rel ∧ m.r.rel ≤ 3 := by
  obtain ⟨v1, v5, r10, hall⟩ := check_rows hc
  rw [← h.rel]
  exact kind_range _ _ (by omega) (fun x hx => (hall x.2 (List.of_mem_zip (a := x.1) (b := x.2) hx).2).2.2.2)
structure Sound (s : Sys) (k : Nat) (m : Made) : Prop where
  ok : m.Ok s.vars.toNat s.rows.length
  right : rightF s m = true
  zero : ∀ j, j < k → m.co j = 0
  rel : 1 ≤ m.r.rel ∧ m.r.rel ≤ 3
  at' : ∀ A D, (∀ r ∈ s.rows, r.At A D) → m.r.At A D
theorem stage_sound {s : Sys} (hc : checkF s = true) {k : Nat} {l : List Made} (h : curE s k = some l) : ∀ m ∈ l, Sound s k m := fun m hm =>
  have hs := curE_sum hc h m hm
  ⟨(curE_ok hc h).1 m hm, hs.right, curE_zero hc h m hm, hs.range hc, fun A D hr => hs.at hc hr⟩
theorem last_sound {s : Sys} (hc : checkF s = true) {l : List Made} (h : curE s s.vars.toNat = some l) (p : List Rat) : ∀ m ∈ l, saidF m.r p = (false, true) ∧ ∀ A D, 0 < D → ¬ ∀ r ∈ s.rows, r.At A D := by
  obtain ⟨v1, v5, r10, hall⟩ := check_rows hc
  intro m hm
  have hm' := stage_sound hc h m hm
  obtain ⟨v, hv⟩ : ∃ v, s.vars.toNat = v + 1 := ⟨s.vars.toNat - 1, by omega⟩
  have hg : goneF m.r = false := by
    rw [hv] at h
    exact curE_gone h m hm
  have hlc := hm'.ok.lc
  have hz : ∀ j, j < m.r.c.length → m.r.c.getD j 0 = 0 := fun j hj => hm'.zero j (by omega)
  exact ⟨last_said hm'.rel (by omega) hz hg, fun A D hD hr => last_at hD hm'.rel (by omega) hz hg (hm'.at' A D hr)⟩
theorem holdsN_all {s : Sys} {p : List Rat} (hc : checkF s = true) (h : holdsN s p = s.rows.length) : ∀ r ∈ s.rows, r.At (ptA p) (ptD p) := by
  obtain ⟨v1, v5, r10, hall⟩ := check_rows hc
  have key : ∀ (l : List Row), (l.takeWhile (fun r => heldF r p)).length = l.length → ∀ r ∈ l, heldF r p = true := by
    intro l
    induction l with
    | nil => intro _ r hr; cases hr
    | cons x l ih =>
      intro hl r hr
      rw [List.takeWhile_cons] at hl
      split at hl
      · rename_i hx
        rcases List.mem_cons.1 hr with rfl | hr
        · exact hx
        · exact ih (by simpa using hl) r hr
      · simp at hl
  exact fun r hr => (heldF_at (hall r hr).2.2.2).1 (key s.rows h r hr)
end Go.Proofs.Ytaafchgfibbmhaa
