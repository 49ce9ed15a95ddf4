/-
  FUNCTIONS OF LAYER 15: how many rows hold, by the reference and by the program. Conditions: as each theorem says.
-/
import Derived.Test.YtaafchgfibbmhaaF6
set_option linter.unusedSimpArgs false
set_option linter.unusedVariables false
namespace Go.Proofs.Ytaafchgfibbmhaa
def holdsN (s : Sys) (p : List Rat) : Nat := (s.rows.takeWhile (fun r => heldF r p)).length
theorem takeWhile_at {α : Type} {f : α → Bool} : ∀ {l : List α} {k : Nat}, k ≤ l.length → (l.take k).all f = true → (∀ x, l[k]? = some x → f x = false) → (l.takeWhile f).length = k
  | [], k, hk, _, _ => by simp at hk; subst hk; rfl
  | x :: l, 0, _, _, h => by have := h x rfl; simp [List.takeWhile_cons, this]
  | x :: l, k + 1, hk, ha, h => by
    simp at ha hk
    have := takeWhile_at (f := f) (l := l) (k := k) hk (by simpa using ha.2) (fun y hy => h y (by simpa using hy))
    simp [List.takeWhile_cons, ha.1, this]
theorem holds'_c (s : Sys) (p : List Rat) (hs : s.rows.length ≤ 9223372036854775807) (hp : Small1 p) (hok : ∀ r ∈ s.rows, RowOk r p) : PCt Try.prog 18 [s.d, .sl (p.map Rat.d)] (.ret [.i (holdsN s p)]) := by
  refine p18 ?_
  rw [c18]
  simp +contextual only [go_sem, Int.reduceBEq, Int.reduceBNe, Int.reduceLT, Int.reduceLE, Int.reduceEq, Int.reduceNe, List.range_zero, Option.isSome_some, Nat.reducePow, and_self, List.cons.injEq, Nat.reduceEqDiff, Nat.reduceAdd, Nat.reduceSub, Nat.reduceMul, Nat.reduceLeDiff, Nat.reduceBEq, Nat.reduceLT, reduceIte, reduceCtorEq]
  refine loop_fam (fun k : Nat => ⟨envJ [.junk, .d (.sl (p.map Rat.d)), .ptr 0 0, .junk, .junk, .d (.i k)], s.o, 1⟩)
    (fun k => k ≤ s.rows.length ∧ (s.rows.take k).all (fun r => heldF r p) = true) (fun k => s.rows.length - k) 0 ⟨Nat.zero_le _, by simp⟩ (SLe.d1 _ s.o_good (by omega) rfl ?_) (fun k hk => ?_)
  · refine backE_junk (backE_d rfl (backE_v rfl (by simp [V.refs]) ?_))
    (repeat (first | exact backE_nil | refine backE_junk ?_ | refine backE_d rfl ?_ | refine backE_d (d_int (wrapN (by omega))) ?_))
  rcases Nat.lt_or_ge k s.rows.length with h2 | h2
  · obtain ⟨r, hr⟩ : ∃ r, s.rows[k]? = some r := ⟨s.rows[k], by simp [h2]⟩
    have hd : decide ((k : Int) < (s.rows.length : Int)) = true := by simp [h2]
    simp +contextual only [go_sem, Int.reduceBEq, Int.reduceBNe, Int.reduceLT, Int.reduceLE, Int.reduceEq, Int.reduceNe, List.range_zero, Option.isSome_some, Nat.reducePow, and_self, List.cons.injEq, Nat.reduceEqDiff, Nat.reduceAdd, Nat.reduceSub, Nat.reduceMul, Nat.reduceLeDiff, Nat.reduceBEq, Nat.reduceLT, reduceIte, reduceCtorEq, hd, hr, Row.d]
    refine call_keep (held_c r p hp (hok r (List.mem_of_getElem? hr))) rfl ?_
    simp +contextual only [go_sem, Int.reduceBEq, Int.reduceBNe, Int.reduceLT, Int.reduceLE, Int.reduceEq, Int.reduceNe, List.range_zero, Option.isSome_some, Nat.reducePow, and_self, List.cons.injEq, Nat.reduceEqDiff, Nat.reduceAdd, Nat.reduceSub, Nat.reduceMul, Nat.reduceLeDiff, Nat.reduceBEq, Nat.reduceLT, reduceIte, reduceCtorEq]
    refine cond_intro (fun h3 => ?_) (fun h3 => ?_)
    · simp +contextual only [go_sem, Int.reduceBEq, Int.reduceBNe, Int.reduceLT, Int.reduceLE, Int.reduceEq, Int.reduceNe, List.range_zero, Option.isSome_some, Nat.reducePow, and_self, List.cons.injEq, Nat.reduceEqDiff, Nat.reduceAdd, Nat.reduceSub, Nat.reduceMul, Nat.reduceLeDiff, Nat.reduceBEq, Nat.reduceLT, reduceIte, reduceCtorEq]
      refine nextS_intro (k + 1) ⟨h2, ?_⟩ (by omega) (SLe.d1 _ s.o_good (by omega) rfl ?_)
      · rw [List.take_add_one, hr]
        simp at h3 hk ⊢
        exact ⟨hk.2, h3⟩
      · refine backE_junk (backE_d rfl (backE_v rfl (by simp [V.refs]) ?_))
        (repeat (first | exact backE_nil | refine backE_junk ?_ | refine backE_d rfl ?_ | refine backE_d (d_int (wrapN (by omega))) ?_))
    · simp +contextual only [go_sem, Int.reduceBEq, Int.reduceBNe, Int.reduceLT, Int.reduceLE, Int.reduceEq, Int.reduceNe, List.range_zero, Option.isSome_some, Nat.reducePow, and_self, List.cons.injEq, Nat.reduceEqDiff, Nat.reduceAdd, Nat.reduceSub, Nat.reduceMul, Nat.reduceLeDiff, Nat.reduceBEq, Nat.reduceLT, reduceIte, reduceCtorEq]
      have : holdsN s p = k := takeWhile_at hk.1 hk.2 (fun x hx => by rw [hr] at hx; injection hx with hx; subst hx; exact h3)
      rw [this]
  · have hd : decide ((k : Int) < (s.rows.length : Int)) = false := by simp; omega
    simp +contextual only [go_sem, Int.reduceBEq, Int.reduceBNe, Int.reduceLT, Int.reduceLE, Int.reduceEq, Int.reduceNe, List.range_zero, Option.isSome_some, Nat.reducePow, and_self, List.cons.injEq, Nat.reduceEqDiff, Nat.reduceAdd, Nat.reduceSub, Nat.reduceMul, Nat.reduceLeDiff, Nat.reduceBEq, Nat.reduceLT, reduceIte, reduceCtorEq, hd]
    have : holdsN s p = k := takeWhile_at hk.1 hk.2 (fun x hx => by rw [List.getElem?_eq_none h2] at hx; cases hx)
    rw [this]
theorem holds_c (s : Sys) (p : List Rat) (hs : s.Fits) (hpl : p.length ≤ 9223372036854775807) (hfit : checkF s = true → pointF s p = true → Small1 p ∧ ∀ r ∈ s.rows, RowOk r p) :
    PCt Try.prog 15 [s.d, .sl (p.map Rat.d)] (.ret (if checkF s && pointF s p then [.i (holdsN s p), .i 0] else [.i 0, .i 2])) := by
  refine p15 ?_
  rw [c15]
  simp +contextual only [go_sem, Int.reduceBEq, Int.reduceBNe, Int.reduceLT, Int.reduceLE, Int.reduceEq, Int.reduceNe, List.range_zero, Option.isSome_some, Nat.reducePow, and_self, List.cons.injEq, Nat.reduceEqDiff, Nat.reduceAdd, Nat.reduceSub, Nat.reduceMul, Nat.reduceLeDiff, Nat.reduceBEq, Nat.reduceLT, reduceIte, reduceCtorEq]
  cases hc : checkF s with
  | false =>
    have hck := check_c s hs
    simp only [hc, if_true, if_false, Bool.false_eq_true, eq_self] at hck
    refine call_keep hck rfl ?_
    simp +contextual only [go_sem, Int.reduceBEq, Int.reduceBNe, Int.reduceLT, Int.reduceLE, Int.reduceEq, Int.reduceNe, List.range_zero, Option.isSome_some, Nat.reducePow, and_self, List.cons.injEq, Nat.reduceEqDiff, Nat.reduceAdd, Nat.reduceSub, Nat.reduceMul, Nat.reduceLeDiff, Nat.reduceBEq, Nat.reduceLT, reduceIte, reduceCtorEq]
  | true =>
    have hck := check_c s hs
    simp only [hc, if_true, if_false, Bool.false_eq_true, eq_self] at hck
    refine call_keep hck rfl ?_
    simp +contextual only [go_sem, Int.reduceBEq, Int.reduceBNe, Int.reduceLT, Int.reduceLE, Int.reduceEq, Int.reduceNe, List.range_zero, Option.isSome_some, Nat.reducePow, and_self, List.cons.injEq, Nat.reduceEqDiff, Nat.reduceAdd, Nat.reduceSub, Nat.reduceMul, Nat.reduceLeDiff, Nat.reduceBEq, Nat.reduceLT, reduceIte, reduceCtorEq]
    refine call_keep (point_c s p hpl) rfl ?_
    simp +contextual only [go_sem, Int.reduceBEq, Int.reduceBNe, Int.reduceLT, Int.reduceLE, Int.reduceEq, Int.reduceNe, List.range_zero, Option.isSome_some, Nat.reducePow, and_self, List.cons.injEq, Nat.reduceEqDiff, Nat.reduceAdd, Nat.reduceSub, Nat.reduceMul, Nat.reduceLeDiff, Nat.reduceBEq, Nat.reduceLT, reduceIte, reduceCtorEq]
    refine cond_intro (fun h1 => ?_) (fun h1 => ?_)
    · simp +contextual only [go_sem, Int.reduceBEq, Int.reduceBNe, Int.reduceLT, Int.reduceLE, Int.reduceEq, Int.reduceNe, List.range_zero, Option.isSome_some, Nat.reducePow, and_self, List.cons.injEq, Nat.reduceEqDiff, Nat.reduceAdd, Nat.reduceSub, Nat.reduceMul, Nat.reduceLeDiff, Nat.reduceBEq, Nat.reduceLT, reduceIte, reduceCtorEq]
      have h1' := bn_t h1
      rw [h1']
      rfl
    · simp +contextual only [go_sem, Int.reduceBEq, Int.reduceBNe, Int.reduceLT, Int.reduceLE, Int.reduceEq, Int.reduceNe, List.range_zero, Option.isSome_some, Nat.reducePow, and_self, List.cons.injEq, Nat.reduceEqDiff, Nat.reduceAdd, Nat.reduceSub, Nat.reduceMul, Nat.reduceLeDiff, Nat.reduceBEq, Nat.reduceLT, reduceIte, reduceCtorEq]
      have h1' := bn_f h1
      rw [h1']
      obtain ⟨hp, hok⟩ := hfit hc h1'
      have hlen := hp.len
      refine loop_fam (fun k : Nat => ⟨envJ [.junk, .d (.sl (p.map Rat.d)), .ptr 0 0, .junk, .junk, .junk, .d (.i (lcmP (p.take k))), .junk, .junk, .junk, .junk, .junk, .junk, .junk, .junk, .junk, .junk, .junk, .junk, .junk, .junk, .junk, .junk, .d (.sl (p.map Rat.d)), .d (.i p.length), .d (.i k)], s.o, 1⟩)
        (fun k => k ≤ p.length) (fun k => p.length - k) 0 (Nat.zero_le _) (SLe.d1 _ s.o_good (by omega) rfl ?_) (fun k hk => ?_)
      · refine backE_junk (backE_d rfl (backE_v rfl (by simp [V.refs]) ?_))
        (repeat (first | exact backE_nil | refine backE_junk ?_ | refine backE_d rfl ?_ | refine backE_d (d_int (wrapN (by omega))) ?_))
      simp +contextual only [go_sem, Int.reduceBEq, Int.reduceBNe, Int.reduceLT, Int.reduceLE, Int.reduceEq, Int.reduceNe, List.range_zero, Option.isSome_some, Nat.reducePow, and_self, List.cons.injEq, Nat.reduceEqDiff, Nat.reduceAdd, Nat.reduceSub, Nat.reduceMul, Nat.reduceLeDiff, Nat.reduceBEq, Nat.reduceLT, reduceIte, reduceCtorEq]
      refine cond_intro (fun h2 => ?_) (fun h2 => ?_)
      · simp at h2
        obtain ⟨q, hq⟩ : ∃ q, p[k]? = some q := ⟨p[k], by simp [h2]⟩
        have hqm := List.mem_of_getElem? hq
        have hqd := hp.den q hqm
        obtain ⟨m1, m2⟩ := lcmP_small hp k hk
        obtain ⟨n1, n2⟩ := lcmP_small hp (k + 1) h2
        have estep : lcmP (p.take (k + 1)) = Nat.lcm (lcmP (p.take k)) q.den.natAbs := by
          rw [List.take_add_one, hq]; exact lcmP_snoc _ _
        obtain ⟨g1, g2, g3⟩ := lcm_step (m := lcmP (p.take k)) (by omega) hqd.1
        simp +contextual only [go_sem, Int.reduceBEq, Int.reduceBNe, Int.reduceLT, Int.reduceLE, Int.reduceEq, Int.reduceNe, List.range_zero, Option.isSome_some, Nat.reducePow, and_self, List.cons.injEq, Nat.reduceEqDiff, Nat.reduceAdd, Nat.reduceSub, Nat.reduceMul, Nat.reduceLeDiff, Nat.reduceBEq, Nat.reduceLT, reduceIte, reduceCtorEq, hq, Rat.d]
        refine callD_keep (divisor_c [lcmP (p.take k), q.den] (by simp) (fun n hn => ?_)) rfl ?_
        · simp at hn; rcases hn with rfl | rfl <;> omega
        rw [gcdL_two]
        simp +contextual only [go_sem, Int.reduceBEq, Int.reduceBNe, Int.reduceLT, Int.reduceLE, Int.reduceEq, Int.reduceNe, List.range_zero, Option.isSome_some, Nat.reducePow, and_self, List.cons.injEq, Nat.reduceEqDiff, Nat.reduceAdd, Nat.reduceSub, Nat.reduceMul, Nat.reduceLeDiff, Nat.reduceBEq, Nat.reduceLT, reduceIte, reduceCtorEq, hq, Rat.d, g3, if_false]
        refine end_intro (by decide) ?_
        simp +contextual only [go_sem, Int.reduceBEq, Int.reduceBNe, Int.reduceLT, Int.reduceLE, Int.reduceEq, Int.reduceNe, List.range_zero, Option.isSome_some, Nat.reducePow, and_self, List.cons.injEq, Nat.reduceEqDiff, Nat.reduceAdd, Nat.reduceSub, Nat.reduceMul, Nat.reduceLeDiff, Nat.reduceBEq, Nat.reduceLT, reduceIte, reduceCtorEq]
        refine nextS_intro (k + 1) h2 (by omega) (SLe.d1 _ s.o_good (by omega) rfl ?_)
        refine backE_junk (backE_d rfl (backE_v rfl (by simp [V.refs]) (backE_junk (backE_junk (backE_junk (backE_d (d_int ?_) ?_))))))
        · have hb : 0 ≤ q.den.tdiv (Int.gcd (lcmP (p.take k)) q.den) ∧ q.den.tdiv (Int.gcd (lcmP (p.take k)) q.den) ≤ 100 := by
            rw [Int.tdiv_eq_ediv_of_nonneg (by omega)]
            exact ⟨Int.ediv_nonneg (by omega) (Int.natCast_nonneg _), Int.le_trans (Int.ediv_le_self _ (by omega)) hqd.2⟩
          show IntKind.i64.wrap (((lcmP (p.take k) : Nat) : Int) * IntKind.i64.wrap (q.den.tdiv _)) = _
          rw [wrap64 (n := q.den.tdiv _) (by omega) (by omega), g2, ← estep]
          exact wrap64 (by omega) (by omega)
        · (repeat (first | exact backE_nil | refine backE_junk ?_ | refine backE_d rfl ?_ | refine backE_d (d_int (wrapN (by omega))) ?_))
      · simp +contextual only [go_sem, Int.reduceBEq, Int.reduceBNe, Int.reduceLT, Int.reduceLE, Int.reduceEq, Int.reduceNe, List.range_zero, Option.isSome_some, Nat.reducePow, and_self, List.cons.injEq, Nat.reduceEqDiff, Nat.reduceAdd, Nat.reduceSub, Nat.reduceMul, Nat.reduceLeDiff, Nat.reduceBEq, Nat.reduceLT, reduceIte, reduceCtorEq]
        simp at h2
        have hkl : p.take k = p := List.take_of_length_le (by omega)
        obtain ⟨m1, m2⟩ := lcmP_small hp p.length (Nat.le_refl _)
        rw [List.take_length] at m1 m2
        have hrl := hs.rows
        refine loop_fam (fun k : Nat => ⟨envJ [.junk, .d (.sl (p.map Rat.d)), .ptr 0 0, .junk, .junk, .junk, .d (.i (lcmP p)), .junk, .junk, .junk, .junk, .junk, .junk, .junk, .junk, .junk, .junk, .junk, .junk, .junk, .junk, .junk, .junk, .junk, .junk, .junk, .junk, .junk, .junk, .junk, .junk, .junk, .junk, .junk, .junk, .junk, .junk, .junk, .junk, .junk, .junk, .d (.sl (s.rows.map Row.d)), .d (.i s.rows.length), .d (.i k)], s.o, 1⟩)
          (fun k => k ≤ s.rows.length ∧ (s.rows.take k).all (fun r => heldF r p) = true) (fun k => s.rows.length - k) 0 ⟨Nat.zero_le _, by simp⟩ (SLe.d1 _ s.o_good (by omega) rfl ?_) (fun k hk => ?_)
        · refine backE_junk (backE_d rfl (backE_v rfl (by simp [V.refs]) (backE_junk (backE_junk (backE_junk (backE_d (d_int ?_) ?_))))))
          · rw [hkl]
          · (repeat (first | exact backE_nil | refine backE_junk ?_ | refine backE_d rfl ?_ | refine backE_d (d_int (wrapN (by omega))) ?_))
        simp +contextual only [go_sem, Int.reduceBEq, Int.reduceBNe, Int.reduceLT, Int.reduceLE, Int.reduceEq, Int.reduceNe, List.range_zero, Option.isSome_some, Nat.reducePow, and_self, List.cons.injEq, Nat.reduceEqDiff, Nat.reduceAdd, Nat.reduceSub, Nat.reduceMul, Nat.reduceLeDiff, Nat.reduceBEq, Nat.reduceLT, reduceIte, reduceCtorEq]
        refine cond_intro (fun h3 => ?_) (fun h3 => ?_)
        · simp at h3
          obtain ⟨r, hr⟩ : ∃ r, s.rows[k]? = some r := ⟨s.rows[k], by simp [h3]⟩
          have hro := hok r (List.mem_of_getElem? hr)
          simp +contextual only [go_sem, Int.reduceBEq, Int.reduceBNe, Int.reduceLT, Int.reduceLE, Int.reduceEq, Int.reduceNe, List.range_zero, Option.isSome_some, Nat.reducePow, and_self, List.cons.injEq, Nat.reduceEqDiff, Nat.reduceAdd, Nat.reduceSub, Nat.reduceMul, Nat.reduceLeDiff, Nat.reduceBEq, Nat.reduceLT, reduceIte, reduceCtorEq, hr, Row.d]
          have hall : ∀ x ∈ r.c.zip p, (-1000 ≤ x.1 ∧ x.1 ≤ 1000) ∧ (-100 ≤ x.2.num ∧ x.2.num ≤ 100) ∧ 1 ≤ x.2.den := fun x hx => by
            have := List.of_mem_zip (a := x.1) (b := x.2) hx
            exact ⟨hro.cs _ this.1, hp.num _ this.2, (hp.den _ this.2).1⟩
          have hzl : (r.c.zip p).length = p.length := by simp [hro.len]
          have hg5 : Good (upd s.o 5 (.row [.d (.sl (r.c.map .i)), .d (.i r.rel), .d (.i r.b)])) 6 := (s.o_good.mono (by omega)).upd (by decide) rfl
          refine loop_fam (fun j : Nat => ⟨envJ [.junk, .d (.sl (p.map Rat.d)), .ptr 0 0, .junk, .junk, .junk, .d (.i (lcmP p)), .junk, .junk, .d (.i k), .ptr 5 0, .d (.i (sumZ (lcmP p) ((r.c.zip p).take j))), .junk, .junk, .junk, .junk, .junk, .junk, .junk, .junk, .junk, .junk, .junk, .junk, .junk, .junk, .junk, .junk, .junk, .junk, .junk, .junk, .junk, .junk, .junk, .junk, .junk, .junk, .junk, .junk, .junk, .d (.sl (s.rows.map Row.d)), .d (.i s.rows.length), .d (.i k), .junk, .junk, .junk, .junk, .d (.sl (p.map Rat.d)), .d (.i p.length), .d (.i j)], upd s.o 5 (.row [.d (.sl (r.c.map .i)), .d (.i r.rel), .d (.i r.b)]), 6⟩)
            (fun j => j ≤ p.length) (fun j => p.length - j) 0 (Nat.zero_le _) (SLe.backL _ (by omega) (by omega) hg5 (fun id hid => by simp only [upd]; (repeat' split) <;> first | rfl | omega | (simp_all; done)) ?_) (fun j hj => ?_)
          · refine backE_junk (backE_d rfl (backE_v rfl (by simp [V.refs]) (backE_junk (backE_junk (backE_junk (backE_d rfl (backE_junk (backE_junk (backE_d rfl (backE_v rfl (by simp [V.refs]) ?_))))))))))
            (repeat (first | exact backE_nil | refine backE_junk ?_ | refine backE_d rfl ?_ | refine backE_d (d_int (wrapN (by omega))) ?_))
          simp +contextual only [go_sem, Int.reduceBEq, Int.reduceBNe, Int.reduceLT, Int.reduceLE, Int.reduceEq, Int.reduceNe, List.range_zero, Option.isSome_some, Nat.reducePow, and_self, List.cons.injEq, Nat.reduceEqDiff, Nat.reduceAdd, Nat.reduceSub, Nat.reduceMul, Nat.reduceLeDiff, Nat.reduceBEq, Nat.reduceLT, reduceIte, reduceCtorEq]
          refine cond_intro (fun h4 => ?_) (fun h4 => ?_)
          · simp at h4
            obtain ⟨q, hq⟩ : ∃ q, p[j]? = some q := ⟨p[j], by simp [h4]⟩
            obtain ⟨c, hc⟩ : ∃ c, r.c[j]? = some c := ⟨r.c[j]'(by rw [hro.len]; exact h4), by simp [hro.len, h4]⟩
            have hqm := List.mem_of_getElem? hq
            have hqd := hp.den q hqm
            have hq0 : ¬ (q.den = 0) := by omega
            obtain ⟨t1, t2, t3⟩ := term_bound (m := lcmP p) (c := c) (r := q) ⟨m1, m2⟩ (hro.cs c (List.mem_of_getElem? hc)) (hp.num q hqm) hqd.1
            have s1 := sumZ_bound (m := lcmP p) ⟨m1, m2⟩ hall j (by omega)
            simp +contextual only [go_sem, Int.reduceBEq, Int.reduceBNe, Int.reduceLT, Int.reduceLE, Int.reduceEq, Int.reduceNe, List.range_zero, Option.isSome_some, Nat.reducePow, and_self, List.cons.injEq, Nat.reduceEqDiff, Nat.reduceAdd, Nat.reduceSub, Nat.reduceMul, Nat.reduceLeDiff, Nat.reduceBEq, Nat.reduceLT, reduceIte, reduceCtorEq, hq, hc, Rat.d, hq0, if_false]
            refine end_intro (by decide) ?_
            simp +contextual only [go_sem, Int.reduceBEq, Int.reduceBNe, Int.reduceLT, Int.reduceLE, Int.reduceEq, Int.reduceNe, List.range_zero, Option.isSome_some, Nat.reducePow, and_self, List.cons.injEq, Nat.reduceEqDiff, Nat.reduceAdd, Nat.reduceSub, Nat.reduceMul, Nat.reduceLeDiff, Nat.reduceBEq, Nat.reduceLT, reduceIte, reduceCtorEq]
            refine nextS_intro (j + 1) h4 (by omega) (SLe.backL _ (by omega) (by omega) hg5 (fun id hid => by simp only [upd]; (repeat' split) <;> first | rfl | omega | (simp_all; done)) ?_)
            refine backE_junk (backE_d rfl (backE_v rfl (by simp [V.refs]) (backE_junk (backE_junk (backE_junk (backE_d rfl (backE_junk (backE_junk (backE_d rfl (backE_v rfl (by simp [V.refs]) (backE_d (d_int ?_) ?_)))))))))))
            · show IntKind.i64.wrap (sumZ (lcmP p) ((r.c.zip p).take j) + IntKind.i64.wrap (IntKind.i64.wrap (c * q.num) * IntKind.i64.wrap (((lcmP p : Nat) : Int).tdiv q.den))) = _
              have et : c * q.num * ((lcmP p : Nat) : Int).tdiv q.den = termF (lcmP p) (c, q) := rfl
              rw [wrap64 (n := c * q.num) (by omega) (by omega), wrap64 (n := ((lcmP p : Nat) : Int).tdiv q.den) (by omega) (by omega), et, wrap64 (n := termF (lcmP p) (c, q)) (by omega) (by omega), zip_take_succ hc hq, sumZ_snoc]
              exact wrap64 (by omega) (by omega)
            · (repeat (first | exact backE_nil | refine backE_junk ?_ | refine backE_d rfl ?_ | refine backE_d (d_int (wrapN (by omega))) ?_))
          · simp +contextual only [go_sem, Int.reduceBEq, Int.reduceBNe, Int.reduceLT, Int.reduceLE, Int.reduceEq, Int.reduceNe, List.range_zero, Option.isSome_some, Nat.reducePow, and_self, List.cons.injEq, Nat.reduceEqDiff, Nat.reduceAdd, Nat.reduceSub, Nat.reduceMul, Nat.reduceLeDiff, Nat.reduceBEq, Nat.reduceLT, reduceIte, reduceCtorEq]
            simp at h4
            have hb := mul_bound (a := r.b) (b := lcmP p) (A := 1000) (B := 10000000000) (by have := hro.b; omega) (by omega)
            have hw : IntKind.i64.wrap (r.b * ((lcmP p : Nat) : Int)) = r.b * ((lcmP p : Nat) : Int) := wrap64 (by omega) (by omega)
            rw [hw]
            have hkz : (r.c.zip p).take j = r.c.zip p := List.take_of_length_le (by omega)
            rw [hkz]
            refine call_keep (related_c _ _ _) rfl ?_
            simp +contextual only [go_sem, Int.reduceBEq, Int.reduceBNe, Int.reduceLT, Int.reduceLE, Int.reduceEq, Int.reduceNe, List.range_zero, Option.isSome_some, Nat.reducePow, and_self, List.cons.injEq, Nat.reduceEqDiff, Nat.reduceAdd, Nat.reduceSub, Nat.reduceMul, Nat.reduceLeDiff, Nat.reduceBEq, Nat.reduceLT, reduceIte, reduceCtorEq]
            refine cond_intro (fun h5 => ?_) (fun h5 => ?_)
            · simp +contextual only [go_sem, Int.reduceBEq, Int.reduceBNe, Int.reduceLT, Int.reduceLE, Int.reduceEq, Int.reduceNe, List.range_zero, Option.isSome_some, Nat.reducePow, and_self, List.cons.injEq, Nat.reduceEqDiff, Nat.reduceAdd, Nat.reduceSub, Nat.reduceMul, Nat.reduceLeDiff, Nat.reduceBEq, Nat.reduceLT, reduceIte, reduceCtorEq]
              have : holdsN s p = k := takeWhile_at hk.1 hk.2 (fun x hx => by rw [hr] at hx; injection hx with hx; subst hx; exact bn_t h5)
              rw [this]
            · simp +contextual only [go_sem, Int.reduceBEq, Int.reduceBNe, Int.reduceLT, Int.reduceLE, Int.reduceEq, Int.reduceNe, List.range_zero, Option.isSome_some, Nat.reducePow, and_self, List.cons.injEq, Nat.reduceEqDiff, Nat.reduceAdd, Nat.reduceSub, Nat.reduceMul, Nat.reduceLeDiff, Nat.reduceBEq, Nat.reduceLT, reduceIte, reduceCtorEq]
              refine nextS_intro (k + 1) ⟨h3, ?_⟩ (by omega) (SLe.d1 _ s.o_good (by omega) rfl ?_)
              · rw [List.take_add_one, hr]
                have := bn_f h5
                simp at hk ⊢
                exact ⟨hk.2, this⟩
              · refine backE_junk (backE_d rfl (backE_v rfl (by simp [V.refs]) ?_))
                (repeat (first | exact backE_nil | refine backE_junk ?_ | refine backE_d rfl ?_ | refine backE_d (d_int (wrapN (by omega))) ?_))
        · simp +contextual only [go_sem, Int.reduceBEq, Int.reduceBNe, Int.reduceLT, Int.reduceLE, Int.reduceEq, Int.reduceNe, List.range_zero, Option.isSome_some, Nat.reducePow, and_self, List.cons.injEq, Nat.reduceEqDiff, Nat.reduceAdd, Nat.reduceSub, Nat.reduceMul, Nat.reduceLeDiff, Nat.reduceBEq, Nat.reduceLT, reduceIte, reduceCtorEq]
          simp at h3
          have : holdsN s p = k := takeWhile_at hk.1 hk.2 (fun x hx => by rw [List.getElem?_eq_none h3] at hx; cases hx)
          rw [this]
          have : k = s.rows.length := by omega
          rw [this]
end Go.Proofs.Ytaafchgfibbmhaa
