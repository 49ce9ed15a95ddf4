/-
  A PART OF THE PROOF (put together by program): several texts, one behind the other. Conditions: none.
-/
import Derived.Test.YtaafchgfibbmhaaPk24
set_option linter.unusedSimpArgs false
set_option linter.unusedVariables false
namespace Go.Proofs.Ytaafchgfibbmhaa
@[reducible] def Sys.o (s : Sys) : Nat → Obj' := upd (fun _ => .no) 0 (.row [.d (.i s.vars), .d (.sl (s.rows.map Row.d))])
theorem Sys.o_good (s : Sys) : Good s.o 1 := Good.upd Good.nil (by decide) rfl
theorem SLe.d1 {e : Nat → V} {so o : Nat → Obj'} {m : Nat} (l : List V) (hg : Good o 1) (hm : 1 ≤ m) (h0 : so 0 = o 0) (he : backE 1 e l 0) : SLe 0 ⟨e, so, m⟩ ⟨envJ l, o, 1⟩ :=
  SLe.backL l (Nat.zero_le _) hm hg (fun id h => by obtain rfl : id = 0 := by omega
                                                    exact h0) he
def smallF (s : Sys) : Bool := decide ((s.rows.length : Int) ≤ 11) && s.rows.all (fun r => decide ((r.c.length : Int) ≤ 7))
theorem small_c (s : Sys) (hs : s.rows.length ≤ 9223372036854775807) : PCt Try.prog 12 [s.d] (.ret [.bool (smallF s)]) := by
  refine PCt.of_ev mix fn12 (by simp) ?_
  rw [c12]
  simp +contextual only [go_sem]
  refine cond_intro (fun h1 => ?_) (fun h1 => ?_)
  · simp +contextual only [go_sem]
    have : smallF s = false := by simp [smallF]; simp at h1; omega
    rw [this]
  · simp +contextual only [go_sem]
    refine loop_fam (fun k : Nat => ⟨envJ [.junk, .ptr 0 0, .junk, .d (.i k)], s.o, 1⟩)
      (fun k => k ≤ s.rows.length ∧ (s.rows.take k).all (fun r => decide ((r.c.length : Int) ≤ 7)) = true) (fun k => s.rows.length - k) 0 ⟨Nat.zero_le _, by simp⟩ (SLe.d1 _ s.o_good (by omega) rfl ?_) (fun k hk => ?_)
    · refine backE_junk (backE_v rfl (by simp [V.refs]) ?_)
      (repeat (first | exact backE_nil | refine backE_junk ?_ | refine backE_d rfl ?_ | refine backE_d (d_int (wrapN (by omega))) ?_))
    simp +contextual only [go_sem]
    refine cond_intro (fun h2 => ?_) (fun h2 => ?_)
    · simp at h2
      obtain ⟨r, hr⟩ : ∃ r, s.rows[k]? = some r := ⟨s.rows[k], by simp [h2]⟩
      simp +contextual only [go_sem, hr, Row.d]
      refine cond_intro (fun h3 => ?_) (fun h3 => ?_)
      · simp +contextual only [go_sem]
        have : smallF s = false := by
          simp [smallF]
          intro _
          exact ⟨r, List.mem_of_getElem? hr, by simp at h3; omega⟩
        rw [this]
      · simp +contextual only [go_sem]
        refine nextS_intro (k + 1) ⟨h2, ?_⟩ (by omega) (SLe.d1 _ s.o_good (by omega) rfl ?_)
        · rw [List.take_add_one, hr]
          simp at h3 hk ⊢
          exact ⟨hk.2, by omega⟩
        · refine backE_junk (backE_v rfl (by simp [V.refs]) ?_)
          (repeat (first | exact backE_nil | refine backE_junk ?_ | refine backE_d rfl ?_ | refine backE_d (d_int (wrapN (by omega))) ?_))
    · simp +contextual only [go_sem]
      simp at h2
      have : smallF s = true := by
        have := hk.2
        rw [List.take_of_length_le (by omega)] at this
        rw [smallF, this]
        simp at h1 ⊢
        omega
      rw [this]
theorem row_c (r : Row) (vars most : Int) (hl : r.c.length ≤ 9223372036854775807) (hm : -1000000000000 ≤ most ∧ most ≤ 1000000000000) : PCt Try.prog 30 [r.d, .i vars, .i most] (.ret [.bool (formedF r vars most)]) := by
  have hw : IntKind.i64.wrap (-most) = -most := wrap64 (by omega) (by omega)
  refine PCt.of_ev mix fn30 (by simp) ?_
  rw [c30]
  simp +contextual only [go_sem]
  refine guard_data (callG_intro [.bool (inB r.rel 1 3)] ?_ ?_)
  · simp +contextual only [go_sem]
    exact fun _ => rel_c _
  simp +contextual only [go_sem]
  refine guard_data (callG_intro [.bool (allF r.c most)] ?_ ?_)
  · simp +contextual only [go_sem]
    exact fun _ => all_c _ _ hl hm
  simp +contextual only [go_sem, hw]
  refine guard_data (callG_intro [.bool (inB r.b (-most) most)] ?_ ?_)
  · simp +contextual only [go_sem]
    exact fun _ => in_c _ _ _
  simp +contextual only [go_sem]
  rfl
theorem sys_c (s : Sys) (hs : s.Fits) : PCt Try.prog 16 [s.d] (.ret [.bool (checkF s)]) := by
  have hb := hs.rows
  refine PCt.of_ev mix fn16 (by simp) ?_
  rw [c16]
  simp +contextual only [go_sem]
  refine call_keep (in_c _ _ _) rfl ?_
  simp +contextual only [go_sem]
  refine cond_intro (fun h1 => ?_) (fun h1 => ?_)
  · simp +contextual only [go_sem]
    have : checkF s = false := by simp [checkF, inB]; simp at h1; omega
    rw [this]
  · simp +contextual only [go_sem]
    refine loop_fam (fun k : Nat => ⟨envJ [.junk, .ptr 0 0, .junk, .d (.i k)], s.o, 1⟩)
      (fun k => k ≤ s.rows.length ∧ (s.rows.take k).all (fun r => formedF r s.vars 1000) = true) (fun k => s.rows.length - k) 0 ⟨Nat.zero_le _, by simp⟩ (SLe.d1 _ s.o_good (by omega) rfl ?_) (fun k hk => ?_)
    · refine backE_junk (backE_v rfl (by simp [V.refs]) ?_)
      (repeat (first | exact backE_nil | refine backE_junk ?_ | refine backE_d rfl ?_ | refine backE_d (d_int (wrapN (by omega))) ?_))
    simp +contextual only [go_sem]
    refine cond_intro (fun h2 => ?_) (fun h2 => ?_)
    · simp at h2
      obtain ⟨r, hr⟩ : ∃ r, s.rows[k]? = some r := ⟨s.rows[k], by simp [h2]⟩
      simp +contextual only [go_sem, hr, Row.d]
      refine callD_keep (row_c r s.vars 1000 (hs.cs r (List.mem_of_getElem? hr)) (by omega)) rfl ?_
      simp +contextual only [go_sem]
      refine end_intro (by decide) ?_
      simp +contextual only [go_sem]
      refine cond_intro (fun h3 => ?_) (fun h3 => ?_)
      · simp +contextual only [go_sem]
        have : checkF s = false := by
          have : s.rows.all (fun r => formedF r s.vars 1000) = false := by
            rw [List.all_eq_false]
            exact ⟨r, List.mem_of_getElem? hr, by simpa using h3⟩
          rw [checkF, this, Bool.and_false]
        rw [this]
      · simp +contextual only [go_sem]
        refine nextS_intro (k + 1) ⟨h2, ?_⟩ (by omega) (SLe.d1 _ s.o_good (by omega) rfl ?_)
        · rw [List.take_add_one, hr]
          simp at h3 hk ⊢
          exact ⟨hk.2, h3⟩
        · refine backE_junk (backE_v rfl (by simp [V.refs]) ?_)
          (repeat (first | exact backE_nil | refine backE_junk ?_ | refine backE_d rfl ?_ | refine backE_d (d_int (wrapN (by omega))) ?_))
    · simp +contextual only [go_sem]
      simp at h2
      have : checkF s = true := by
        have := hk.2
        rw [List.take_of_length_le (by omega)] at this
        rw [checkF, this]
        simp [inB] at h1 ⊢
        omega
      rw [this]
end Go.Proofs.Ytaafchgfibbmhaa
namespace Go.Proofs.Ytaafchgfibbmhaa
def lcmP (p : List Rat) : Nat := p.foldl (fun m r => Nat.lcm m r.den.natAbs) 1
def termF (m : Int) (x : Int × Rat) : Int := x.1 * x.2.num * m.tdiv x.2.den
def sumZ (m : Int) (l : List (Int × Rat)) : Int := l.foldl (fun s x => s + termF m x) 0
def heldF (r : Row) (p : List Rat) : Bool := relF (sumZ (lcmP p) (r.c.zip p)) r.rel (r.b * lcmP p)
structure Small1 (p : List Rat) : Prop where
  len : p.length ≤ 5
  den : ∀ r ∈ p, 1 ≤ r.den ∧ r.den ≤ 100
  num : ∀ r ∈ p, -100 ≤ r.num ∧ r.num ≤ 100
theorem lcmP_snoc (l : List Rat) (r : Rat) : lcmP (l ++ [r]) = Nat.lcm (lcmP l) r.den.natAbs := by simp [lcmP]
theorem lcm_le (m n : Nat) : Nat.lcm m n ≤ m * n := by unfold Nat.lcm; exact Nat.div_le_self _ _
theorem lcmP_bound {p : List Rat} (hp : ∀ r ∈ p, 1 ≤ r.den ∧ r.den ≤ 100) : ∀ k, k ≤ p.length → 1 ≤ lcmP (p.take k) ∧ lcmP (p.take k) ≤ 100 ^ k := by
  intro k
  induction k with
  | zero => intro _; simp [lcmP]
  | succ k ih =>
    intro hk
    obtain ⟨h1, h2⟩ := ih (by omega)
    have e : p.take (k + 1) = p.take k ++ [p[k]] := by rw [List.take_add_one, List.getElem?_eq_getElem (by omega)]; rfl
    have hd := hp p[k] (List.getElem_mem _)
    rw [e, lcmP_snoc]
    constructor
    · exact Nat.pos_of_ne_zero (fun h => by rcases Nat.lcm_eq_zero_iff.1 h with h | h <;> omega)
    · refine Nat.le_trans (lcm_le _ _) ?_
      rw [Nat.pow_succ]
      exact Nat.mul_le_mul h2 (by omega)
theorem lcmP_small {p : List Rat} (hp : Small1 p) (k : Nat) (hk : k ≤ p.length) : 1 ≤ (lcmP (p.take k) : Int) ∧ (lcmP (p.take k) : Int) ≤ 10000000000 := by
  obtain ⟨h1, h2⟩ := lcmP_bound hp.den k hk
  have : 100 ^ k ≤ 100 ^ 5 := Nat.pow_le_pow_right (by decide) (Nat.le_trans hk hp.len)
  have e : (100 : Nat) ^ 5 = 10000000000 := by decide
  omega
theorem lcm_step {m : Nat} {d : Int} (hm : 1 ≤ m) (hd : 1 ≤ d) : (m : Int).tdiv (Int.gcd m d) * d = Nat.lcm m d.natAbs ∧ (m : Int) * d.tdiv (Int.gcd m d) = Nat.lcm m d.natAbs ∧ ((Int.gcd m d : Nat) : Int) ≠ 0 := by
  obtain ⟨n, rfl⟩ : ∃ n : Nat, d = n := ⟨d.toNat, by omega⟩
  have hg : Nat.gcd m n ≠ 0 := fun h => by have := (Nat.gcd_eq_zero_iff.1 h).1; omega
  simp only [Int.gcd, Int.natAbs_natCast]
  have h1 := Nat.gcd_dvd_left m n
  have h2 := Nat.gcd_dvd_right m n
  refine ⟨?_, ?_, by omega⟩
  · rw [← Int.ofNat_tdiv, ← Int.natCast_mul]
    congr 1
    rw [Nat.lcm, Nat.div_mul_right_comm h1]
  · rw [← Int.ofNat_tdiv, ← Int.natCast_mul]
    congr 1
    rw [Nat.lcm, Nat.mul_div_assoc _ h2]
theorem sumZ_snoc (m : Int) (l : List (Int × Rat)) (x : Int × Rat) : sumZ m (l ++ [x]) = sumZ m l + termF m x := by simp [sumZ]
theorem zip_take_succ {cs : List Int} {p : List Rat} {k : Nat} {c : Int} {r : Rat} (hc : cs[k]? = some c) (hr : p[k]? = some r) : (cs.zip p).take (k + 1) = (cs.zip p).take k ++ [(c, r)] := by
  rw [List.take_add_one]
  have : (cs.zip p)[k]? = some (c, r) := by rw [List.getElem?_zip_eq_some]; exact ⟨hc, hr⟩
  rw [this]; rfl
theorem mul_bound {a b : Int} {A B : Nat} (ha : -(A : Int) ≤ a ∧ a ≤ A) (hb : -(B : Int) ≤ b ∧ b ≤ B) : -((A * B : Nat) : Int) ≤ a * b ∧ a * b ≤ ((A * B : Nat) : Int) := by
  have h1 : a.natAbs ≤ A := by omega
  have h2 : b.natAbs ≤ B := by omega
  have h3 : (a * b).natAbs ≤ A * B := by rw [Int.natAbs_mul]; exact Nat.mul_le_mul h1 h2
  omega
theorem term_bound {m c : Int} {r : Rat} (hm : 1 ≤ m ∧ m ≤ 10000000000) (hc : -1000 ≤ c ∧ c ≤ 1000) (hn : -100 ≤ r.num ∧ r.num ≤ 100) (hd : 1 ≤ r.den) :
    (-100000 ≤ c * r.num ∧ c * r.num ≤ 100000) ∧ (0 ≤ m.tdiv r.den ∧ m.tdiv r.den ≤ 10000000000) ∧ (-1000000000000000 ≤ termF m (c, r) ∧ termF m (c, r) ≤ 1000000000000000) := by
  have h1 := mul_bound (a := c) (b := r.num) (A := 1000) (B := 100) (by omega) (by omega)
  have h2 : 0 ≤ m.tdiv r.den ∧ m.tdiv r.den ≤ 10000000000 := by
    rw [Int.tdiv_eq_ediv_of_nonneg (by omega)]
    exact ⟨Int.ediv_nonneg (by omega) (by omega), Int.le_trans (Int.ediv_le_self _ (by omega)) hm.2⟩
  have h3 := mul_bound (a := c * r.num) (b := m.tdiv r.den) (A := 100000) (B := 10000000000) (by omega) (by omega)
  unfold termF
  simp only
  omega
theorem sumZ_bound {m : Int} (hm : 1 ≤ m ∧ m ≤ 10000000000) {l : List (Int × Rat)} (hl : ∀ x ∈ l, (-1000 ≤ x.1 ∧ x.1 ≤ 1000) ∧ (-100 ≤ x.2.num ∧ x.2.num ≤ 100) ∧ 1 ≤ x.2.den) : ∀ k, k ≤ l.length → -(1000000000000000 * (k : Int)) ≤ sumZ m (l.take k) ∧ sumZ m (l.take k) ≤ 1000000000000000 * (k : Int) := by
  intro k
  induction k with
  | zero => intro _; simp [sumZ]
  | succ k ih =>
    intro hk
    have h1 := ih (by omega)
    have e : l.take (k + 1) = l.take k ++ [l[k]] := by rw [List.take_add_one, List.getElem?_eq_getElem (by omega)]; rfl
    obtain ⟨h2, h3, h4⟩ := hl l[k] (List.getElem_mem _)
    obtain ⟨_, _, h5⟩ := term_bound hm h2 h3 h4
    replace h5 : -1000000000000000 ≤ termF m l[k] ∧ termF m l[k] ≤ 1000000000000000 := h5
    rw [e, sumZ_snoc]
    omega
structure RowOk (r : Row) (p : List Rat) : Prop where
  len : r.c.length = p.length
  cs : ∀ c ∈ r.c, -1000 ≤ c ∧ c ≤ 1000
  b : -1000 ≤ r.b ∧ r.b ≤ 1000
end Go.Proofs.Ytaafchgfibbmhaa
namespace Go.Proofs.Ytaafchgfibbmhaa
def holdsN (s : Sys) (p : List Rat) : Nat := (s.rows.takeWhile (fun r => heldF r p)).length
theorem takeWhile_at {α : Type} {f : α → Bool} : ∀ {l : List α} {k : Nat}, k ≤ l.length → (l.take k).all f = true → (∀ x, l[k]? = some x → f x = false) → (l.takeWhile f).length = k
  | [], k, hk, _, _ => by simp at hk; subst hk; rfl
  | x :: l, 0, _, _, h => by have := h x rfl; simp [List.takeWhile_cons, this]
  | x :: l, k + 1, hk, ha, h => by
    simp at ha hk
    have := takeWhile_at (f := f) (l := l) (k := k) hk (by simpa using ha.2) (fun y hy => h y (by simpa using hy))
    simp [List.takeWhile_cons, ha.1, this]
theorem holds_c (s : Sys) (p : List Rat) (hs : s.Fits) (hpl : p.length ≤ 9223372036854775807) (hfit : checkF s = true → pointF s p = true → Small1 p ∧ ∀ r ∈ s.rows, RowOk r p) :
    PCt Try.prog 15 [s.d, .sl (p.map Rat.d)] (.ret (if checkF s && pointF s p then [.i (holdsN s p), .i 0] else [.i 0, .i 2])) := by
  refine PCt.of_ev mix fn15 (by simp) ?_
  rw [c15]
  simp +contextual only [go_sem]
  cases hc : checkF s with
  | false =>
    have hck := check_c s hs
    simp only [hc, if_true, if_false, Bool.false_eq_true, eq_self] at hck
    refine call_keep hck rfl ?_
    simp +contextual only [go_sem]
  | true =>
    have hck := check_c s hs
    simp only [hc, if_true, if_false, Bool.false_eq_true, eq_self] at hck
    refine call_keep hck rfl ?_
    simp +contextual only [go_sem]
    refine call_keep (point_c s p hpl) rfl ?_
    simp +contextual only [go_sem]
    refine cond_intro (fun h1 => ?_) (fun h1 => ?_)
    · simp +contextual only [go_sem]
      have h1' := bn_t h1
      rw [h1']
      rfl
    · simp +contextual only [go_sem]
      have h1' := bn_f h1
      rw [h1']
      obtain ⟨hp, hok⟩ := hfit hc h1'
      have hlen := hp.len
      refine loop_fam (fun k : Nat => ⟨envJ [.junk, .d (.sl (p.map Rat.d)), .ptr 0 0, .junk, .junk, .junk, .d (.i (lcmP (p.take k))), .junk, .junk, .junk, .junk, .junk, .junk, .junk, .junk, .junk, .junk, .junk, .junk, .junk, .junk, .junk, .junk, .d (.sl (p.map Rat.d)), .d (.i p.length), .d (.i k)], s.o, 1⟩)
        (fun k => k ≤ p.length) (fun k => p.length - k) 0 (Nat.zero_le _) (SLe.d1 _ s.o_good (by omega) rfl ?_) (fun k hk => ?_)
      · refine backE_junk (backE_d rfl (backE_v rfl (by simp [V.refs]) ?_))
        (repeat (first | exact backE_nil | refine backE_junk ?_ | refine backE_d rfl ?_ | refine backE_d (d_int (wrapN (by omega))) ?_))
      simp +contextual only [go_sem]
      refine cond_intro (fun h2 => ?_) (fun h2 => ?_)
      · simp at h2
        obtain ⟨q, hq⟩ : ∃ q, p[k]? = some q := ⟨p[k], by simp [h2]⟩
        have hqm := List.mem_of_getElem? hq
        have hqd := hp.den q hqm
        obtain ⟨m1, m2⟩ := lcmP_small hp k hk
        obtain ⟨n1, n2⟩ := lcmP_small hp (k + 1) h2
        have estep : lcmP (p.take (k + 1)) = Nat.lcm (lcmP (p.take k)) q.den.natAbs := by
          rw [List.take_add_one, hq]; exact lcmP_snoc _ _
        obtain ⟨g1, g2, g3⟩ := lcm_step (m := lcmP (p.take k)) (by omega) hqd.1
        simp +contextual only [go_sem, hq, Rat.d]
        refine callD_keep (divisor_c [lcmP (p.take k), q.den] (by simp) (fun n hn => ?_)) rfl ?_
        · simp at hn; rcases hn with rfl | rfl <;> omega
        rw [gcdL_two]
        simp +contextual only [go_sem, hq, Rat.d, g3, if_false]
        refine end_intro (by decide) ?_
        simp +contextual only [go_sem]
        refine nextS_intro (k + 1) h2 (by omega) (SLe.d1 _ s.o_good (by omega) rfl ?_)
        refine backE_junk (backE_d rfl (backE_v rfl (by simp [V.refs]) (backE_junk (backE_junk (backE_junk (backE_d (d_int ?_) ?_))))))
        · have hb : 0 ≤ q.den.tdiv (Int.gcd (lcmP (p.take k)) q.den) ∧ q.den.tdiv (Int.gcd (lcmP (p.take k)) q.den) ≤ 100 := by
            rw [Int.tdiv_eq_ediv_of_nonneg (by omega)]
            exact ⟨Int.ediv_nonneg (by omega) (Int.natCast_nonneg _), Int.le_trans (Int.ediv_le_self _ (by omega)) hqd.2⟩
          show IntKind.i64.wrap (((lcmP (p.take k) : Nat) : Int) * IntKind.i64.wrap (q.den.tdiv _)) = _
          rw [wrap64 (n := q.den.tdiv _) (by omega) (by omega), g2, ← estep]
          exact wrap64 (by omega) (by omega)
        · (repeat (first | exact backE_nil | refine backE_junk ?_ | refine backE_d rfl ?_ | refine backE_d (d_int (wrapN (by omega))) ?_))
      · simp +contextual only [go_sem]
        simp at h2
        have hkl : p.take k = p := List.take_of_length_le (by omega)
        obtain ⟨m1, m2⟩ := lcmP_small hp p.length (Nat.le_refl _)
        rw [List.take_length] at m1 m2
        have hrl := hs.rows
        refine loop_fam (fun k : Nat => ⟨envJ [.junk, .d (.sl (p.map Rat.d)), .ptr 0 0, .junk, .junk, .junk, .d (.i (lcmP p)), .junk, .junk, .junk, .junk, .junk, .junk, .junk, .junk, .junk, .junk, .junk, .junk, .junk, .junk, .junk, .junk, .junk, .junk, .junk, .junk, .junk, .junk, .junk, .junk, .junk, .junk, .junk, .junk, .junk, .junk, .junk, .junk, .junk, .junk, .d (.sl (s.rows.map Row.d)), .d (.i s.rows.length), .d (.i k)], s.o, 1⟩)
          (fun k => k ≤ s.rows.length ∧ (s.rows.take k).all (fun r => heldF r p) = true) (fun k => s.rows.length - k) 0 ⟨Nat.zero_le _, by simp⟩ (SLe.d1 _ s.o_good (by omega) rfl ?_) (fun k hk => ?_)
        · refine backE_junk (backE_d rfl (backE_v rfl (by simp [V.refs]) (backE_junk (backE_junk (backE_junk (backE_d (d_int ?_) ?_))))))
          · rw [hkl]
          · (repeat (first | exact backE_nil | refine backE_junk ?_ | refine backE_d rfl ?_ | refine backE_d (d_int (wrapN (by omega))) ?_))
        simp +contextual only [go_sem]
        refine cond_intro (fun h3 => ?_) (fun h3 => ?_)
        · simp at h3
          obtain ⟨r, hr⟩ : ∃ r, s.rows[k]? = some r := ⟨s.rows[k], by simp [h3]⟩
          have hro := hok r (List.mem_of_getElem? hr)
          simp +contextual only [go_sem, hr, Row.d]
          have hall : ∀ x ∈ r.c.zip p, (-1000 ≤ x.1 ∧ x.1 ≤ 1000) ∧ (-100 ≤ x.2.num ∧ x.2.num ≤ 100) ∧ 1 ≤ x.2.den := fun x hx => by
            have := List.of_mem_zip (a := x.1) (b := x.2) hx
            exact ⟨hro.cs _ this.1, hp.num _ this.2, (hp.den _ this.2).1⟩
          have hzl : (r.c.zip p).length = p.length := by simp [hro.len]
          have hg5 : Good (upd s.o 5 (.row [.d (.sl (r.c.map .i)), .d (.i r.rel), .d (.i r.b)])) 6 := (s.o_good.mono (by omega)).upd (by decide) rfl
          refine loop_fam (fun j : Nat => ⟨envJ [.junk, .d (.sl (p.map Rat.d)), .ptr 0 0, .junk, .junk, .junk, .d (.i (lcmP p)), .junk, .junk, .d (.i k), .ptr 5 0, .d (.i (sumZ (lcmP p) ((r.c.zip p).take j))), .junk, .junk, .junk, .junk, .junk, .junk, .junk, .junk, .junk, .junk, .junk, .junk, .junk, .junk, .junk, .junk, .junk, .junk, .junk, .junk, .junk, .junk, .junk, .junk, .junk, .junk, .junk, .junk, .junk, .d (.sl (s.rows.map Row.d)), .d (.i s.rows.length), .d (.i k), .junk, .junk, .junk, .junk, .d (.sl (p.map Rat.d)), .d (.i p.length), .d (.i j)], upd s.o 5 (.row [.d (.sl (r.c.map .i)), .d (.i r.rel), .d (.i r.b)]), 6⟩)
            (fun j => j ≤ p.length) (fun j => p.length - j) 0 (Nat.zero_le _) (SLe.backL _ (by omega) (by omega) hg5 (fun id hid => by simp only [upd] <;> ((repeat' split) <;> first | rfl | omega | (simp_all; done))) ?_) (fun j hj => ?_)
          · refine backE_junk (backE_d rfl (backE_v rfl (by simp [V.refs]) (backE_junk (backE_junk (backE_junk (backE_d rfl (backE_junk (backE_junk (backE_d rfl (backE_v rfl (by simp [V.refs]) ?_))))))))))
            (repeat (first | exact backE_nil | refine backE_junk ?_ | refine backE_d rfl ?_ | refine backE_d (d_int (wrapN (by omega))) ?_))
          simp +contextual only [go_sem]
          refine cond_intro (fun h4 => ?_) (fun h4 => ?_)
          · simp at h4
            obtain ⟨q, hq⟩ : ∃ q, p[j]? = some q := ⟨p[j], by simp [h4]⟩
            obtain ⟨c, hc⟩ : ∃ c, r.c[j]? = some c := ⟨r.c[j]'(by rw [hro.len]; exact h4), by simp [hro.len, h4]⟩
            have hqm := List.mem_of_getElem? hq
            have hqd := hp.den q hqm
            have hq0 : ¬ (q.den = 0) := by omega
            obtain ⟨t1, t2, t3⟩ := term_bound (m := lcmP p) (c := c) (r := q) ⟨m1, m2⟩ (hro.cs c (List.mem_of_getElem? hc)) (hp.num q hqm) hqd.1
            have s1 := sumZ_bound (m := lcmP p) ⟨m1, m2⟩ hall j (by omega)
            simp +contextual only [go_sem, hq, hc, Rat.d, hq0, if_false]
            refine end_intro (by decide) ?_
            simp +contextual only [go_sem]
            refine nextS_intro (j + 1) h4 (by omega) (SLe.backL _ (by omega) (by omega) hg5 (fun id hid => by simp only [upd] <;> ((repeat' split) <;> first | rfl | omega | (simp_all; done))) ?_)
            refine backE_junk (backE_d rfl (backE_v rfl (by simp [V.refs]) (backE_junk (backE_junk (backE_junk (backE_d rfl (backE_junk (backE_junk (backE_d rfl (backE_v rfl (by simp [V.refs]) (backE_d (d_int ?_) ?_)))))))))))
            · show IntKind.i64.wrap (sumZ (lcmP p) ((r.c.zip p).take j) + IntKind.i64.wrap (IntKind.i64.wrap (c * q.num) * IntKind.i64.wrap (((lcmP p : Nat) : Int).tdiv q.den))) = _
              have et : c * q.num * ((lcmP p : Nat) : Int).tdiv q.den = termF (lcmP p) (c, q) := rfl
              rw [wrap64 (n := c * q.num) (by omega) (by omega), wrap64 (n := ((lcmP p : Nat) : Int).tdiv q.den) (by omega) (by omega), et, wrap64 (n := termF (lcmP p) (c, q)) (by omega) (by omega), zip_take_succ hc hq, sumZ_snoc]
              exact wrap64 (by omega) (by omega)
            · (repeat (first | exact backE_nil | refine backE_junk ?_ | refine backE_d rfl ?_ | refine backE_d (d_int (wrapN (by omega))) ?_))
          · simp +contextual only [go_sem]
            simp at h4
            have hb := mul_bound (a := r.b) (b := lcmP p) (A := 1000) (B := 10000000000) (by have := hro.b; omega) (by omega)
            have hw : IntKind.i64.wrap (r.b * ((lcmP p : Nat) : Int)) = r.b * ((lcmP p : Nat) : Int) := wrap64 (by omega) (by omega)
            rw [hw]
            have hkz : (r.c.zip p).take j = r.c.zip p := List.take_of_length_le (by omega)
            rw [hkz]
            refine call_keep (related_c _ _ _) rfl ?_
            simp +contextual only [go_sem]
            refine cond_intro (fun h5 => ?_) (fun h5 => ?_)
            · simp +contextual only [go_sem]
              have : holdsN s p = k := takeWhile_at hk.1 hk.2 (fun x hx => by rw [hr] at hx; injection hx with hx; subst hx; exact bn_t h5)
              rw [this]
            · simp +contextual only [go_sem]
              refine nextS_intro (k + 1) ⟨h3, ?_⟩ (by omega) (SLe.d1 _ s.o_good (by omega) rfl ?_)
              · rw [List.take_add_one, hr]
                have := bn_f h5
                simp at hk ⊢
                exact ⟨hk.2, this⟩
              · refine backE_junk (backE_d rfl (backE_v rfl (by simp [V.refs]) ?_))
                (repeat (first | exact backE_nil | refine backE_junk ?_ | refine backE_d rfl ?_ | refine backE_d (d_int (wrapN (by omega))) ?_))
        · simp +contextual only [go_sem]
          simp at h3
          have : holdsN s p = k := takeWhile_at hk.1 hk.2 (fun x hx => by rw [List.getElem?_eq_none h3] at hx; cases hx)
          rw [this]
          have : k = s.rows.length := by omega
          rw [this]
end Go.Proofs.Ytaafchgfibbmhaa
namespace Go.Proofs.Ytaafchgfibbmhaa
def rowEq (a b : Row) : Bool := (a.c == b.c) && (a.rel == b.rel) && (a.b == b.b)
def stepRel (out : Int) (x : Int × Row) : Int := if x.1 ≠ 0 ∧ x.2.rel ≠ 3 ∧ out ≠ 2 then x.2.rel else out
def kindF (s : Sys) (t : List Int) : Int := (t.zip s.rows).foldl stepRel 3
theorem foldl_take_succ {α β : Type} {f : β → α → β} {b : β} {l : List α} {k : Nat} {x : α} (h : l[k]? = some x) : (l.take (k + 1)).foldl f b = f ((l.take k).foldl f b) x := by
  rw [List.take_add_one, h]; simp
def comb (a : Int) (x : List Int) (b : Int) (y : List Int) : List Int := List.zipWith (fun p q => a * p + b * q) x y
end Go.Proofs.Ytaafchgfibbmhaa
namespace Go.Proofs.Ytaafchgfibbmhaa
theorem comb_get {a : Int} {x : List Int} {b : Int} {y : List Int} {k : Nat} {p q : Int} (hp : x[k]? = some p) (hq : y[k]? = some q) : (comb a x b y)[k]? = some (a * p + b * q) := by
  simp [comb, List.getElem?_zipWith, hp, hq]
theorem comb_length {a : Int} {x : List Int} {b : Int} {y : List Int} (h : x.length = y.length) : (comb a x b y).length = x.length := by simp [comb, h]
theorem combined_c (a : Int) (x : List Int) (b : Int) (y : List Int) (hl : x.length = y.length) (hx : x.length ≤ 1000) (hb : ∀ (k : Nat) (p q : Int), x[k]? = some p → y[k]? = some q → (-4611686018427387904 ≤ a * p ∧ a * p ≤ 4611686018427387903) ∧ (-4611686018427387904 ≤ b * q ∧ b * q ≤ 4611686018427387903)) :
    PCt Try.prog 79 [.i a, .sl (x.map .i), .i b, .sl (y.map .i)] (.ret [.sl ((comb a x b y).map .i)]) := by
  have hc : (comb a x b y).length = x.length := comb_length hl
  have h8 : 8 * x.length ≤ 140737488355328 := by omega
  have h9 : x.length ≤ 140737488355328 := by omega
  refine PCt.of_ev mix fn79 (by simp) ?_
  rw [c79]
  simp +contextual only [go_sem, h8, h9, if_true, List.length_replicate]
  refine loop_fam (fun k : Nat => ⟨envJ [.d (.i a), .d (.sl (x.map .i)), .d (.i b), .d (.sl (y.map .i)), .junk, .junk, .junk, .junk, .junk, .osl 3 0, .junk, .junk, .junk, .junk, .junk, .d (.i x.length), .d (.i k)], upd (fun _ => .no) 3 (.arr 0 3 1 (fillD (comb a x b y) k)), 4⟩)
    (fun k => k ≤ x.length) (fun k => x.length - k) 0 (Nat.zero_le _) (SLe.backL _ (Nat.zero_le _) (by omega) (Good.upd Good.nil (by decide) rfl) ?_ ?_) (fun k hk => ?_)
  · rw [fillD_zero, hc]
    exact (fun id hid => by simp only [upd] <;> ((repeat' split) <;> first | rfl | omega | (simp_all; done)))
  · refine backE_d rfl (backE_d rfl (backE_d rfl (backE_d rfl (backE_junk (backE_junk (backE_junk (backE_junk (backE_junk (backE_v rfl (by simp [V.refs]) ?_)))))))))
    (repeat (first | exact backE_nil | refine backE_junk ?_ | refine backE_d rfl ?_ | refine backE_d (d_int (wrapN (by omega))) ?_))
  simp +contextual only [go_sem]
  refine cond_intro (fun h2 => ?_) (fun h2 => ?_)
  · simp at h2
    obtain ⟨p, hp⟩ : ∃ p, x[k]? = some p := ⟨x[k], by simp [h2]⟩
    obtain ⟨q, hq⟩ : ∃ q, y[k]? = some q := ⟨y[k]'(by omega), by simp [← hl, h2]⟩
    obtain ⟨b1, b2⟩ := hb k p q hp hq
    have hg := fillD_get (comb a x b y) k (by omega)
    have hlen := fillD_length (comb a x b y) k (by omega)
    simp +contextual only [go_sem, hp, hq, D.i, hg, hlen, hc, h2, if_true]
    refine end_intro (by decide) ?_
    simp +contextual only [go_sem]
    refine nextS_intro (k + 1) h2 (by omega) (SLe.backL _ (Nat.zero_le _) (by omega) (Good.upd Good.nil (by decide) rfl) ?_ ?_)
    · rw [wrap64 (n := a * p) (by omega) (by omega), wrap64 (n := b * q) (by omega) (by omega), wrap64 (by omega) (by omega), fillD_set _ _ _ (comb_get hp hq)]
      exact (fun id hid => by simp only [upd] <;> ((repeat' split) <;> first | rfl | omega | (simp_all; done)))
    · refine backE_d rfl (backE_d rfl (backE_d rfl (backE_d rfl (backE_junk (backE_junk (backE_junk (backE_junk (backE_junk (backE_v rfl (by simp [V.refs]) ?_)))))))))
      (repeat (first | exact backE_nil | refine backE_junk ?_ | refine backE_d rfl ?_ | refine backE_d (d_int (wrapN (by omega))) ?_))
  · simp at h2
    have hk' : k = (comb a x b y).length := by omega
    subst hk'
    rw [fillD_all]
    simp +contextual only [go_sem]
@[reducible] def lineD (r : Row) : List D := [.i (r.c.getD 0 0), .i (r.c.getD 1 0), .i (r.c.getD 2 0), .i (r.c.getD 3 0), .i (r.c.getD 4 0), .i r.rel, .i r.b]
theorem lineOf_c (r : Row) (hl : r.c.length ≤ 5) : PCt Try.prog 80 [r.d] (.ret [.agg (lineD r)]) := by
  refine PCt.of_ev mix fn80 (by simp) ?_
  rw [c80]
  obtain ⟨c, rel, b⟩ := r
  simp only at hl
  match c, hl with
  | [], _ => simp +contextual only [go_sem]; refine end_intro (by decide) ?_; simp +contextual only [go_sem]; rfl
  | [_], _ => simp +contextual only [go_sem]; refine end_intro (by decide) ?_; simp +contextual only [go_sem]; rfl
  | [_, _], _ => simp +contextual only [go_sem]; refine end_intro (by decide) ?_; simp +contextual only [go_sem]; rfl
  | [_, _, _], _ => simp +contextual only [go_sem]; refine end_intro (by decide) ?_; simp +contextual only [go_sem]; rfl
  | [_, _, _, _], _ => simp +contextual only [go_sem]; refine end_intro (by decide) ?_; simp +contextual only [go_sem]; rfl
  | [_, _, _, _, _], _ => simp +contextual only [go_sem]; refine end_intro (by decide) ?_; simp +contextual only [go_sem]; rfl
theorem relOf_c (s : Sys) (t : List Int) (hl : t.length = s.rows.length) (hs : s.rows.length ≤ 9223372036854775807) (id : Nat) (o : Nat → Obj') (z : V) (ho : o id = .row [.d (.i s.vars), .d (.sl (s.rows.map Row.d)), z]) :
    CtO Try.prog 78 [.ptr id 0, .d (.sl (t.map .i))] o (.d (.i (kindF s t))) := by
  intro nx hg K X hK
  have hid : id < nx := hg.lt (by rw [ho]; exact Obj'.noConfusion)
  refine CtK.of_ev mix fn78 (by simp) ?_
  rw [c78]
  simp +contextual only [go_sem]
  refine loop_fam (fun k : Nat => ⟨envJ [.ptr id 0, .d (.sl (t.map .i)), .junk, .junk, .junk, .d (.i (((t.zip s.rows).take k).foldl stepRel 3)), .junk, .junk, .d (.sl (t.map .i)), .d (.i t.length), .d (.i k)], o, nx⟩)
    (fun k => k ≤ t.length) (fun k => t.length - k) 0 (Nat.zero_le _) (SLe.backL _ (Nat.le_refl _) (by omega) hg (fun _ _ => rfl) ?_) (fun k hk => ?_)
  · refine backE_v rfl (by simp [V.refs]; omega) ?_
    (repeat (first | exact backE_nil | refine backE_junk ?_ | refine backE_d rfl ?_ | refine backE_d (d_int (wrapN (by omega))) ?_))
  simp +contextual only [go_sem]
  refine cond_intro (fun h2 => ?_) (fun h2 => ?_)
  · simp at h2
    obtain ⟨n, hn⟩ : ∃ n, t[k]? = some n := ⟨t[k], by simp [h2]⟩
    obtain ⟨r, hr⟩ : ∃ r, s.rows[k]? = some r := ⟨s.rows[k]'(by omega), by simp [← hl, h2]⟩
    have hz : (t.zip s.rows)[k]? = some (n, r) := by rw [List.getElem?_zip_eq_some]; exact ⟨hn, hr⟩
    have fin : ∀ {e : Nat → V} {m : Nat} {v : Int}, nx ≤ m → e 0 = .ptr id 0 → e 1 = .d (.sl (t.map .i)) → e 5 = .d (.i v) → v = stepRel (((t.zip s.rows).take k).foldl stepRel 3) (n, r) → e 8 = .d (.sl (t.map .i)) → e 9 = .d (.i t.length) → e 10 = .d (.int .i64 (IntKind.i64.wrap (k + 1))) →
        nextS nx (fun k : Nat => ⟨envJ [.ptr id 0, .d (.sl (t.map .i)), .junk, .junk, .junk, .d (.i (((t.zip s.rows).take k).foldl stepRel 3)), .junk, .junk, .d (.sl (t.map .i)), .d (.i t.length), .d (.i k)], o, nx⟩) (fun k => k ≤ t.length) (fun k => t.length - k) k ⟨e, o, m⟩ := by
      intro e m v hm e0 e1 e5 hv e8 e9 e10
      refine nextS_intro (k + 1) h2 (by omega) (SLe.backL _ (Nat.le_refl _) hm hg (fun _ _ => rfl) ?_)
      refine backE_v e0 (by simp [V.refs]; omega) (backE_d e1 (backE_junk (backE_junk (backE_junk (backE_d (e5.trans (d_int ?_)) (backE_junk (backE_junk (backE_d e8 (backE_d e9 (backE_d (e10.trans (d_int (wrapN (by omega)))) backE_nil))))))))))
      rw [foldl_take_succ hz, hv]
    cases hn0 : (n == 0) with
    | true =>
      have hn1 : n = 0 := by simpa using hn0
      simp +contextual only [go_sem, hn, hr, Row.d, D.i, hn0]
      exact fin (by omega) rfl rfl rfl (by rw [stepRel, if_neg (fun h => h.1 hn1)]) rfl rfl rfl
    | false =>
      have hn1 : n ≠ 0 := by simpa using hn0
      simp +contextual only [go_sem, hn, hr, Row.d, D.i, ho, hn0]
      refine cond_intro (fun h3 => ?_) (fun h3 => ?_)
      · simp +contextual only [go_sem]
        simp at h3
        exact fin (by omega) rfl rfl rfl (by rw [stepRel, if_neg (fun h => h.2.1 h3)]) rfl rfl rfl
      · simp +contextual only [go_sem]
        simp at h3
        refine cond_intro (fun h4 => ?_) (fun h4 => ?_)
        · simp +contextual only [go_sem, hn, hr, Row.d, D.i, ho]
          simp at h4
          exact fin (by omega) rfl rfl rfl (by rw [stepRel, if_pos ⟨hn1, h3, h4⟩]) rfl rfl rfl
        · simp +contextual only [go_sem]
          simp at h4
          exact fin (by omega) rfl rfl rfl (by rw [stepRel, if_neg (fun h => h.2.2 h4)]) rfl rfl rfl
  · simp +contextual only [go_sem]
    simp at h2
    have : (t.zip s.rows).take k = t.zip s.rows := List.take_of_length_le (by simp; omega)
    rw [this]
    exact hK _ _ (by omega) (hg.mono (by omega)) (fun _ _ => rfl)
end Go.Proofs.Ytaafchgfibbmhaa
namespace Go.Proofs.Ytaafchgfibbmhaa
def sumC (vars : Nat) (l : List (Int × Row)) : List Int := l.foldl (fun c x => comb 1 c x.1 x.2.c) (List.replicate vars 0)
def sumB (l : List (Int × Row)) : Int := l.foldl (fun b x => b + x.1 * x.2.b) 0
def negOk (x : Int × Row) : Bool := !(decide (x.1 < 0) && (x.2.rel != 3))
structure XOk (v : Nat) (x : Int × Row) : Prop where
  n : -1000000000 ≤ x.1 ∧ x.1 ≤ 1000000000
  len : x.2.c.length = v
  c : ∀ c ∈ x.2.c, -1000 ≤ c ∧ c ≤ 1000
  b : -1000 ≤ x.2.b ∧ x.2.b ≤ 1000
def rightF (s : Sys) (m : Made) : Bool := (m.t.zip s.rows).all negOk && rowEq ⟨sumC s.vars.toNat (m.t.zip s.rows), kindF s m.t, sumB (m.t.zip s.rows)⟩ m.r
end Go.Proofs.Ytaafchgfibbmhaa
namespace Go.Proofs.Ytaafchgfibbmhaa
end Go.Proofs.Ytaafchgfibbmhaa
namespace Go.Proofs.Ytaafchgfibbmhaa
def Grows (so : Nat → Obj') (c : Nat) (ty : TypeId) (sz : Nat) (es : List D) (x : V) : Prop :=
  (x = .nils ∧ es = [] ∧ 0 < sz) ∨ ∃ id ep, c ≤ id ∧ x = .osl id ep ∧ so id = .arr ep ty sz es
def growE (c : Nat) (x : V) (env : Nat → V) : List V → Nat → Prop
  | [], _ => True
  | v :: l, i => (v = .junk ∨ (v = env i ∧ ∀ r ∈ v.refs, r < c) ∨ (v = .osl c 0 ∧ env i = x)) ∧ growE c x env l (i + 1)
theorem growE_nil {c : Nat} {x : V} {env : Nat → V} {i : Nat} : growE c x env [] i := trivial
theorem growE_junk {c : Nat} {x : V} {env : Nat → V} {l : List V} {i : Nat} (h : growE c x env l (i + 1)) : growE c x env (.junk :: l) i := ⟨.inl rfl, h⟩
theorem growE_d {c : Nat} {x : V} {env : Nat → V} {l : List V} {i : Nat} {y : D} (he : env i = .d y) (h : growE c x env l (i + 1)) : growE c x env (.d y :: l) i := ⟨.inr (.inl ⟨he.symm, fun r hr => by simp [V.refs] at hr⟩), h⟩
theorem growE_v {c : Nat} {x : V} {env : Nat → V} {l : List V} {i : Nat} {v : V} (he : env i = v) (hr : ∀ r ∈ v.refs, r < c) (h : growE c x env l (i + 1)) : growE c x env (v :: l) i := ⟨.inr (.inl ⟨he.symm, hr⟩), h⟩
theorem growE_x {c : Nat} {x : V} {env : Nat → V} {l : List V} {i : Nat} (he : env i = x) (h : growE c x env l (i + 1)) : growE c x env (.osl c 0 :: l) i := ⟨.inr (.inr ⟨rfl, he⟩), h⟩
theorem growE_at {c : Nat} {x : V} {env : Nat → V} : ∀ (l : List V) (i : Nat), growE c x env l i → ∀ j, envJ l j = .junk ∨ (envJ l j = env (i + j) ∧ ∀ r ∈ (envJ l j).refs, r < c) ∨ (envJ l j = .osl c 0 ∧ env (i + j) = x)
  | [], i, _, j => by rw [envJ_nil]; exact .inl rfl
  | v :: l, i, h, 0 => by rw [envJ_zero]; exact h.1
  | v :: l, i, h, j + 1 => by
    rw [envJ_succ]
    have := growE_at l (i + 1) h.2 j
    rwa [show i + 1 + j = i + (j + 1) by omega] at this
def growPl (φ : Place) (c : Nat) (x : V) : Place := fun id => if id = c then (match x with | .osl id _ => φ id | _ => .slice none 0 0) else φ id
theorem SLe.grow {b : Nat} {e : Nat → V} {so : Nat → Obj'} {m : Nat} (l : List V) {o : Nat → Obj'} {c : Nat} {ty : TypeId} {sz : Nat} {es : List D} (x : V) (hb : b ≤ c) (hcm : c ≤ m) (hg : Good o c) (ho : ∀ id, id < c → so id = o id) (hx : Grows so c ty sz es x) (he : growE c x e l 0) :
    SLe b ⟨e, so, m⟩ ⟨envJ l, upd o c (.arr 0 ty sz es), c + 1⟩ := by
  intro M φ w tm hH hd
  let φ' : Place := growPl φ c x
  let o' : Nat → Obj' := upd o c (.arr 0 ty sz es)
  let H' : Hp := hp o' (c + 1)
  let H : Hp := ⟨so, fun id => id < m⟩
  have hoc : o' c = .arr 0 ty sz es := upd_same _ _ _
  have hol : ∀ id, id < c → o' id = o id := fun id hid => upd_ne _ _ _ _ (by omega)
  have hoh : ∀ id, c < id → o' id = .no := fun id hid => by rw [show o' id = o id from upd_ne _ _ _ _ (by omega)]; exact hg.fresh id (by omega)
  have hφl : ∀ id, id < c → φ' id = φ id := fun id hid => if_neg (by omega)
  have hφn : x = .nils → φ' c = .slice none 0 0 := fun h => by simp only [φ', growPl, h, if_pos]
  have hφc : ∀ id ep, x = .osl id ep → φ' c = φ id := fun id ep h => by simp only [φ', growPl, if_pos, h]
  
  have hold : ∀ id k, (o' id).live = true → blk (φ' id) = some k → ∃ j, (so j).live = true ∧ blk (φ j) = some k ∧ ((id < c ∧ j = id) ∨ (id = c ∧ c ≤ j)) := by
    intro id k h1 h2
    rcases Nat.lt_trichotomy id c with hlt | heq | hgt
    · rw [hol id hlt] at h1; rw [hφl id hlt] at h2
      exact ⟨id, by rw [ho id hlt]; exact h1, h2, .inl ⟨hlt, rfl⟩⟩
    · subst heq
      rcases hx with ⟨rfl, _, _⟩ | ⟨j, ep, hj, rfl, hso⟩
      · rw [hφn rfl] at h2; cases h2
      · rw [hφc j ep rfl] at h2
        exact ⟨j, by rw [hso]; rfl, h2, .inr ⟨rfl, hj⟩⟩
    · rw [hoh id hgt] at h1; cases h1
  have hlive : ∀ k, liveB φ' H' k → liveB φ H k := by
    rintro k ⟨id, h1, h2⟩
    obtain ⟨j, g1, g2, _⟩ := hold id k h1 h2
    exact ⟨j, g1, g2⟩
  have hB : ∀ k, ¬ mutB M φ H k → ¬ mutB M φ' H' k := fun k h h' => h (h'.imp id (hlive k))
  have hin : ∀ id, id < c → H'.o id = H.o id ∧ φ' id = φ id ∧ H'.us id := fun id hid => ⟨(hol id hid).trans (ho id hid).symm, hφl id hid, (by show id < c + 1; omega)⟩
  have hval : ∀ (v : V) (val : Value), (∀ r ∈ v.refs, r < c) → V.den (mutB M φ H) φ H w v val → V.den (mutB M φ' H') φ' H' w v val := fun v val hr h =>
    V.den_refs (H := H) (H' := H') hB v val (fun id hid => hin id (hr id hid)) h
  have hvals : ∀ (v : List V) (val : List Value), (∀ r ∈ V.refss v, r < c) → V.dens (mutB M φ H) φ H w v val → V.dens (mutB M φ' H') φ' H' w v val := fun v val hr h =>
    V.dens_refs (H := H) (H' := H') hB v val (fun id hid => hin id (hr id hid)) h
  refine ⟨φ', ⟨fun id => ?_, fun id hu => hoh id (by have : ¬ id < c + 1 := hu; omega), fun i j k h1 h2 h3 h4 => ?_, fun k hk => hH.ours k (hlive k hk), hH.old⟩, fun i => ?_, hlive, by show b ≤ c + 1; omega, fun id hid hr => ?_, fun id e' hid he' => ?_⟩
  · have hall := hH.ok id
    have hrefs := hg.refs id
    show ObjOk M φ' H' w id
    unfold ObjOk at hall ⊢
    rcases Nat.lt_trichotomy id c with hlt | heq | hgt
    · have e1 : (S.H ⟨e, so, m⟩).o id = o id := ho id hlt
      rw [e1] at hall
      have e2 : H'.o id = o id := hol id hlt
      rw [e2, hφl id hlt]
      cases hx' : o id with
      | no => trivial
      | row cs =>
        simp only [hx'] at hall hrefs ⊢
        obtain ⟨b, carr, ty, k1, k2, k3, k4⟩ := hall
        exact ⟨b, carr, ty, k1, k2, hvals _ _ hrefs k3, k4⟩
      | arr ep ty sz es =>
        simp only [hx'] at hall ⊢
        obtain ⟨k1, xs, k2, evs, k3, k4, k5⟩ := hall
        exact ⟨k1, xs, k2, evs, k3, k4, D.dens_mono (fun b _ hn => ⟨rfl, hB b hn⟩) _ _ k5⟩
      | fro ep es =>
        simp only [hx'] at hall ⊢
        exact D.den_mono (fun b _ hn => ⟨rfl, hB b hn⟩) _ _ hall
      | map kt vt es =>
        simp only [hx'] at hall ⊢
        obtain ⟨b, es', clock, k1, k2, k3⟩ := hall
        exact ⟨b, es', clock, k1, k2, EntsDen.mono (fun b _ hn => ⟨rfl, hB b hn⟩) _ _ k3⟩
      | loop nf n env ps a b st pd =>
        simp only [hx'] at hall hrefs ⊢
        obtain ⟨b, r, k1, k2, k3, k4, k5, k6, k7, k8, k9, k10⟩ := hall
        exact ⟨b, r, k1, k2, k3, k4, k5, k6, k7, k8, k9, fun i => hval _ _ (fun r hr => hrefs r (V.refss_get _ _ r hr)) (k10 i)⟩
    · subst heq
      have e2 : H'.o id = .arr 0 ty sz es := hoc
      rw [e2]
      rcases hx with ⟨rfl, rfl, hsz⟩ | ⟨j, ep, hj, rfl, hso⟩
      · refine ⟨hsz, [], ?_, [], by simp, by simp, rfl⟩
        rw [hφn rfl]
        exact World.ownsRow_nil _ _ _ _
      · have := hH.ok j
        unfold ObjOk at this
        simp only [S.H, hso] at this
        obtain ⟨k1, xs, k2, evs, k3, k4, k5⟩ := this
        exact ⟨k1, xs, by rw [hφc j ep rfl]; exact k2, evs, k3, k4, D.dens_mono (fun b _ hn => ⟨rfl, hB b hn⟩) _ _ k5⟩
    · have e2 : H'.o id = .no := hoh id hgt
      rw [e2]
      trivial
  · obtain ⟨i', a1, a2, a3⟩ := hold i k h1 h3
    obtain ⟨j', b1, b2, b3⟩ := hold j k h2 h4
    have := hH.apart i' j' k a1 b1 a2 b2
    rcases a3 with ⟨a3, a4⟩ | ⟨a3, a4⟩ <;> rcases b3 with ⟨b3, b4⟩ | ⟨b3, b4⟩ <;> omega
  · have hi := growE_at l 0 he i
    rw [Nat.zero_add] at hi
    rcases hi with h | ⟨h1, h2⟩ | ⟨h1, h2⟩
    · show V.den _ _ _ _ (envJ l i) _
      rw [h]; trivial
    · have := hd i
      simp only at this
      rw [← h1] at this
      exact hval _ _ h2 this
    · have := hd i
      simp only at this
      rw [h2] at this
      show V.den _ _ _ _ (envJ l i) _
      rw [h1]
      rcases hx with ⟨rfl, rfl, hsz⟩ | ⟨j, ep, hj, rfl, hso⟩
      · simp only [V.den] at this
        rw [this]
        refine ⟨rfl, (by show c < c + 1; omega), fun e' he' => ?_⟩
        have he' : (H'.o c).epoch = some e' := he'
        have this : H'.o c = .arr 0 ty sz [] := hoc
        rw [this] at he'
        simp only [Obj'.epoch, Option.some.injEq] at he'
        subst he'
        exact ⟨Nat.le_refl _, fun _ => (hφn rfl).symm⟩
      · obtain ⟨g1, g2, g3⟩ := this
        refine ⟨g1, (by show c < c + 1; omega), fun e' he' => ?_⟩
        have he' : (H'.o c).epoch = some e' := he'
        have this : H'.o c = .arr 0 ty sz es := hoc
        rw [this] at he'
        simp only [Obj'.epoch, Option.some.injEq] at he'
        subst he'
        have hep : ((S.H ⟨e, so, m⟩).o j).epoch = some ep := by simp only [S.H, hso, Obj'.epoch]
        exact ⟨Nat.le_refl _, fun _ => by rw [hφc j ep rfl]; exact (g3 ep hep).2 rfl⟩
  · have hlt : id < c := by omega
    exact ⟨by show (so id).isRow = true; rw [ho id hlt, ← hol id hlt]; exact hr, hφl id hlt⟩
  · have hlt : id < c := by omega
    exact ⟨e', by show (so id).epoch = some e'; rw [ho id hlt, ← hol id hlt]; exact he', Nat.le_refl _, fun _ => hφl id hlt⟩
def CtD (P : Program) (g : FuncId) (args : List V) (o : Nat → Obj') (x : D) : Prop :=
  ∀ nx, Good o nx → ∀ K X, (∀ v o' nx', nx ≤ nx' → Good o' nx' → (∀ id, id < nx → o' id = o id) → toD o' v = some x → (∀ id ∈ v.ids, nx ≤ id) → K v o' nx') → CtK P g args o nx K X
theorem HCt.of_ctd {P : Program} {g : FuncId} {args : List V} {rd : List Nat} {o : Nat → Obj'} {x : D} (nx : Nat) (hnx : rd.all (fun id => decide (id < nx)) = true) (hargs : ∀ id ∈ V.refss args, id ∈ rd) (hcl : ∀ id ∈ rd, ∀ j ∈ (o id).refs, j ∈ rd)
    (h : CtD P g args (rst rd o) x) : HCt P g args rd o (.ret [x]) [] := by
  have hlt : ∀ id ∈ rd, id < nx := fun id hid => by simpa using List.all_eq_true.1 hnx id hid
  have hin : ∀ id, id ∈ rd → rst rd o id = o id := fun id hid => by simp [rst, hid]
  have hout : ∀ id, id ∉ rd → rst rd o id = .no := fun id hid => by simp [rst, hid]
  have hgood : Good (rst rd o) nx := by
    refine ⟨fun id hid => hout id (fun hm => by have := hlt id hm; omega), fun id r hr => ?_⟩
    by_cases hid : id ∈ rd
    · rw [hin id hid] at hr; exact hlt r (hcl id hid r hr)
    · rw [hout id hid] at hr; cases hr
  refine HCt.of_ctk (nx := nx) hlt hargs hcl (fun x hx => by cases hx) (fun x hx => by cases hx) (h nx hgood _ _ fun v o' nx' _ _ h3 h4 h5 => ⟨fun id hid => ?_, [v], [x], rfl, ?_, rfl, fun id hid hm => ?_⟩)
  · rw [h3 id (hlt id hid), hin id hid]; rfl
  · simp [toDs, h4]
  · simp only [V.idss, List.append_nil] at hid
    have := h5 id hid
    have := hlt id hm
    omega
def CtR (P : Program) (g : FuncId) (args : List V) (o : Nat → Obj') (x : D) (pan : Bool) : Prop :=
  ∀ nx, Good o nx → ∀ K X, (∀ o' nx', nx ≤ nx' → Good o' nx' → (∀ id, id < nx → o' id = o id) → match pan with | false => K (.d x) o' nx' | true => X (.d x) o' nx') → CtK P g args o nx K X
theorem HCt.of_ctr {P : Program} {g : FuncId} {args : List V} {rd : List Nat} {o : Nat → Obj'} {x : D} {pan : Bool} (nx : Nat) (hnx : rd.all (fun id => decide (id < nx)) = true) (hargs : ∀ id ∈ V.refss args, id ∈ rd) (hcl : ∀ id ∈ rd, ∀ j ∈ (o id).refs, j ∈ rd)
    (h : CtR P g args (rst rd o) x pan) : HCt P g args rd o (match pan with | false => .ret [x] | true => .pan x) [] := by
  have hlt : ∀ id ∈ rd, id < nx := fun id hid => by simpa using List.all_eq_true.1 hnx id hid
  have hin : ∀ id, id ∈ rd → rst rd o id = o id := fun id hid => by simp [rst, hid]
  have hout : ∀ id, id ∉ rd → rst rd o id = .no := fun id hid => by simp [rst, hid]
  have hgood : Good (rst rd o) nx := by
    refine ⟨fun id hid => hout id (fun hm => by have := hlt id hm; omega), fun id r hr => ?_⟩
    by_cases hid : id ∈ rd
    · rw [hin id hid] at hr; exact hlt r (hcl id hid r hr)
    · rw [hout id hid] at hr; cases hr
  refine HCt.of_ctk (nx := nx) hlt hargs hcl (fun x hx => by cases hx) (fun x hx => by cases hx) (h nx hgood _ _ fun o' nx' _ _ h3 => ?_)
  have same : ∀ id ∈ rd, o' id = put o [] id := fun id hid => by rw [h3 id (hlt id hid), hin id hid]; rfl
  cases pan with
  | false => exact ⟨same, [.d x], [x], rfl, rfl, rfl, fun id hid => by simp [V.idss, V.ids] at hid⟩
  | true => exact ⟨same, x, rfl, rfl, fun id hid => by simp [V.ids] at hid⟩
end Go.Proofs.Ytaafchgfibbmhaa
