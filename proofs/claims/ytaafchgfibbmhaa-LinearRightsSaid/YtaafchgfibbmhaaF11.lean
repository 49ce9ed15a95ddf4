/-
  FUNCTIONS OF LAYER 15: whether a made row is right, by the reference. Conditions: as each theorem says.
-/
import Derived.Test.YtaafchgfibbmhaaF10
set_option linter.unusedSimpArgs false
set_option linter.unusedVariables false
namespace Go.Proofs.Ytaafchgfibbmhaa
/-- A list that is being turned into another one. -/
def mixD (new old : List Int) (j : Nat) : List D := (new.take j ++ old.drop j).map (.int .i64)
theorem mixD_zero (new old : List Int) : mixD new old 0 = old.map (.int .i64) := by simp [mixD]
theorem mixD_all (new old : List Int) (h : new.length = old.length) : mixD new old old.length = new.map (.int .i64) := by simp [mixD, ← h]
theorem mixD_length (new old : List Int) (j : Nat) (h : new.length = old.length) (hj : j ≤ old.length) : (mixD new old j).length = old.length := by simp [mixD]; omega
theorem mixD_get (new old : List Int) (j : Nat) (v : Int) (h : new.length = old.length) (hv : old[j]? = some v) : (mixD new old j)[j]? = some (.int .i64 v) := by
  have hj : j < old.length := (List.getElem?_eq_some_iff.1 hv).1
  simp only [mixD]
  rw [List.getElem?_map, List.getElem?_append_right (by simp; omega), List.getElem?_drop]
  have e : j + (j - (new.take j).length) = j := by simp; omega
  rw [e, hv]; rfl
theorem mixD_set (new old : List Int) (j : Nat) (v : Int) (h : new.length = old.length) (hv : new[j]? = some v) : (mixD new old j).set j (.int .i64 v) = mixD new old (j + 1) := by
  have hj : j < new.length := (List.getElem?_eq_some_iff.1 hv).1
  apply List.ext_getElem?
  intro i
  rw [List.getElem?_set]
  by_cases e : j = i
  · subst e
    rw [if_pos rfl, if_pos (by rw [mixD_length _ _ _ h (by omega)]; omega)]
    simp only [mixD]
    rw [List.getElem?_map, List.getElem?_append_left (by simp; omega), List.getElem?_take_of_lt (by omega), hv]
    rfl
  · rw [if_neg e]
    simp only [mixD]
    rw [List.getElem?_map, List.getElem?_map]
    congr 1
    by_cases hi : i < j
    · rw [List.getElem?_append_left (by simp; omega), List.getElem?_append_left (by simp; omega), List.getElem?_take_of_lt hi, List.getElem?_take_of_lt (by omega)]
    · rw [List.getElem?_append_right (by simp; omega), List.getElem?_append_right (by simp; omega)]
      simp only [List.length_take, List.getElem?_drop]
      congr 1
      omega
@[reducible] def heap45 (s : Sys) (m : Made) (es : List D) (b : Int) : Nat → Obj' := upd (upd (upd s.o 1 (mrow m)) 5 (.arr 0 3 1 es)) 11 (.row [.osl 5 0, .d (.i (kindF s m.t)), .d (.i b)])
theorem heap45_good (s : Sys) (m : Made) (es : List D) (b : Int) : Good (heap45 s m es b) 12 := (((s.o_good.mono (by omega)).upd (by decide) rfl).upd (by decide) rfl).upd (by decide) rfl
theorem right'_c (s : Sys) (m : Made) (hs : s.Fits) (hc : checkF s = true) (hm : madeF s m = true) : PCt Try.prog 45 [s.d, m.d] (.ret [.bool (rightF s m)]) := by
  obtain ⟨v1, v5, r10, hall⟩ := fits_right s m hc hm
  have hv0 : 0 ≤ s.vars := by omega
  have hv8 : 8 * s.vars.toNat ≤ 140737488355328 := by omega
  have hv9 : s.vars.toNat ≤ 140737488355328 := by omega
  have hlen : m.t.length = s.rows.length := by simp [madeF] at hm; omega
  have hmr : m.r.c.length = s.vars.toNat := by simp [madeF, formedF] at hm; omega
  have hzl : (m.t.zip s.rows).length = m.t.length := by simp [hlen]
  have e0 : List.replicate s.vars.toNat (D.int .i64 0) = (List.replicate s.vars.toNat (0 : Int)).map .i := by simp
  refine p45 ?_
  rw [c45]
  simp +contextual only [go_sem, Int.reduceBEq, Int.reduceBNe, Int.reduceLT, Int.reduceLE, Int.reduceEq, Int.reduceNe, List.range_zero, Option.isSome_some, Nat.reducePow, and_self, List.cons.injEq, Nat.reduceEqDiff, Nat.reduceAdd, Nat.reduceSub, Nat.reduceMul, Nat.reduceLeDiff, Nat.reduceBEq, Nat.reduceLT, reduceIte, reduceCtorEq, hv0, hv8, hv9, if_true, e0]
  refine callD_keep (kind_c s m.t hlen hs.rows) rfl ?_
  simp +contextual only [go_sem, Int.reduceBEq, Int.reduceBNe, Int.reduceLT, Int.reduceLE, Int.reduceEq, Int.reduceNe, List.range_zero, Option.isSome_some, Nat.reducePow, and_self, List.cons.injEq, Nat.reduceEqDiff, Nat.reduceAdd, Nat.reduceSub, Nat.reduceMul, Nat.reduceLeDiff, Nat.reduceBEq, Nat.reduceLT, reduceIte, reduceCtorEq]
  refine end_intro (by decide) ?_
  simp +contextual only [go_sem, Int.reduceBEq, Int.reduceBNe, Int.reduceLT, Int.reduceLE, Int.reduceEq, Int.reduceNe, List.range_zero, Option.isSome_some, Nat.reducePow, and_self, List.cons.injEq, Nat.reduceEqDiff, Nat.reduceAdd, Nat.reduceSub, Nat.reduceMul, Nat.reduceLeDiff, Nat.reduceBEq, Nat.reduceLT, reduceIte, reduceCtorEq]
  refine loop_fam (fun k : Nat => ⟨envJ [.junk, .junk, .ptr 0 0, .ptr 1 0, .junk, .ptr 11 0, .d (.i k)], heap45 s m ((sumC s.vars.toNat ((m.t.zip s.rows).take k)).map .i) (sumB ((m.t.zip s.rows).take k)), 12⟩)
    (fun k => k ≤ m.t.length ∧ ((m.t.zip s.rows).take k).all negOk = true) (fun k => m.t.length - k) 0 ⟨Nat.zero_le _, by simp⟩ (SLe.backL _ (Nat.zero_le _) (by omega) (heap45_good s m _ _) (fun id hid => by simp only [upd] <;> ((repeat' split) <;> first | rfl | omega | (simp_all; done))) ?_) (fun k hk => ?_)
  · refine (backE_junk (backE_junk (backE_v rfl (by simp [V.refs]) (backE_v rfl (by simp [V.refs]) (backE_junk (backE_v rfl (by simp [V.refs]) ?_))))))
    (repeat (first | exact backE_nil | refine backE_junk ?_ | refine backE_d rfl ?_ | refine backE_d (d_int (wrapN (by omega))) ?_))
  simp +contextual only [go_sem, Int.reduceBEq, Int.reduceBNe, Int.reduceLT, Int.reduceLE, Int.reduceEq, Int.reduceNe, List.range_zero, Option.isSome_some, Nat.reducePow, and_self, List.cons.injEq, Nat.reduceEqDiff, Nat.reduceAdd, Nat.reduceSub, Nat.reduceMul, Nat.reduceLeDiff, Nat.reduceBEq, Nat.reduceLT, reduceIte, reduceCtorEq]
  refine cond_intro (fun h3 => ?_) (fun h3 => ?_)
  · simp at h3
    obtain ⟨n, hn⟩ : ∃ n, m.t[k]? = some n := ⟨m.t[k], by simp [h3]⟩
    obtain ⟨r, hr⟩ : ∃ r, s.rows[k]? = some r := ⟨s.rows[k]'(by omega), by simp [← hlen, h3]⟩
    have hz : (m.t.zip s.rows)[k]? = some (n, r) := by rw [List.getElem?_zip_eq_some]; exact ⟨hn, hr⟩
    have hzt : (m.t.zip s.rows).take (k + 1) = (m.t.zip s.rows).take k ++ [(n, r)] := by rw [List.take_add_one, hz]; rfl
    have hx := hall (n, r) (List.mem_of_getElem? hz)
    have hxl : r.c.length = s.vars.toNat := hx.len
    obtain ⟨q1, q2, q3⟩ := sum_bound hall k (by omega)
    have hkl : k ≤ 10 := by omega
    have hnb := mul_bound (a := n) (b := r.b) (A := 1000000000) (B := 1000) (by have := hx.n; omega) (by have := hx.b; omega)
    have hneg : (decide (n < 0) && (r.rel != 3)) = true → rightF s m = false := fun h => by
      have : (m.t.zip s.rows).all negOk = false := by
        rw [List.all_eq_false]
        exact ⟨(n, r), List.mem_of_getElem? hz, by simp [negOk] at h ⊢; exact h⟩
      rw [rightF, this, Bool.false_and]
    have hgood : (decide (n < 0) && (r.rel != 3)) = false → ((m.t.zip s.rows).take (k + 1)).all negOk = true := fun h => by
      rw [hzt, List.all_append, hk.2]
      simp [negOk] at h ⊢
      by_cases g : n < 0
      · exact .inr (h g)
      · exact .inl (by omega)
    have w1 : IntKind.i64.wrap (n * r.b) = n * r.b := wrap64 (by omega) (by omega)
    have w2 : IntKind.i64.wrap (sumB ((m.t.zip s.rows).take k) + n * r.b) = sumB ((m.t.zip s.rows).take (k + 1)) := by
      rw [hzt, sumB_snoc]
      exact wrap64 (by omega) (by omega)
    have e1 : sumC s.vars.toNat ((m.t.zip s.rows).take (k + 1)) = comb 1 (sumC s.vars.toNat ((m.t.zip s.rows).take k)) n r.c := by rw [hzt, sumC_snoc]
    have l1 : (sumC s.vars.toNat ((m.t.zip s.rows).take (k + 1))).length = (sumC s.vars.toNat ((m.t.zip s.rows).take k)).length := by rw [e1, comb_length (by omega)]
    cases hn0 : decide (n < 0) with
    | true =>
      simp +contextual only [go_sem, Int.reduceBEq, Int.reduceBNe, Int.reduceLT, Int.reduceLE, Int.reduceEq, Int.reduceNe, List.range_zero, Option.isSome_some, Nat.reducePow, and_self, List.cons.injEq, Nat.reduceEqDiff, Nat.reduceAdd, Nat.reduceSub, Nat.reduceMul, Nat.reduceLeDiff, Nat.reduceBEq, Nat.reduceLT, reduceIte, reduceCtorEq, hn, hr, Row.d, D.i, hn0]
      refine cond_intro (fun h4 => ?_) (fun h4 => ?_)
      · simp +contextual only [go_sem, Int.reduceBEq, Int.reduceBNe, Int.reduceLT, Int.reduceLE, Int.reduceEq, Int.reduceNe, List.range_zero, Option.isSome_some, Nat.reducePow, and_self, List.cons.injEq, Nat.reduceEqDiff, Nat.reduceAdd, Nat.reduceSub, Nat.reduceMul, Nat.reduceLeDiff, Nat.reduceBEq, Nat.reduceLT, reduceIte, reduceCtorEq]
        rw [hneg (by rw [hn0, h4]; rfl)]
      · simp +contextual only [go_sem, Int.reduceBEq, Int.reduceBNe, Int.reduceLT, Int.reduceLE, Int.reduceEq, Int.reduceNe, List.range_zero, Option.isSome_some, Nat.reducePow, and_self, List.cons.injEq, Nat.reduceEqDiff, Nat.reduceAdd, Nat.reduceSub, Nat.reduceMul, Nat.reduceLeDiff, Nat.reduceBEq, Nat.reduceLT, reduceIte, reduceCtorEq]
        replace hgood := hgood (by rw [hn0, h4]; rfl)
        refine loop_fam (fun j : Nat => ⟨envJ [.junk, .junk, .ptr 0 0, .ptr 1 0, .junk, .ptr 11 0, .d (.i k), .d (.i j)], heap45 s m (mixD (sumC s.vars.toNat ((m.t.zip s.rows).take (k + 1))) (sumC s.vars.toNat ((m.t.zip s.rows).take k)) j) (sumB ((m.t.zip s.rows).take k)), 12⟩)
          (fun j => j ≤ s.vars.toNat) (fun j => s.vars.toNat - j) 0 (Nat.zero_le _) (SLe.backL _ (Nat.zero_le _) (by omega) (heap45_good s m _ _) ?_ ?_) (fun j hj => ?_)
        · rw [mixD_zero]
          exact (fun id hid => by simp only [upd] <;> ((repeat' split) <;> first | rfl | omega | (simp_all; done)))
        · refine (backE_junk (backE_junk (backE_v rfl (by simp [V.refs]) (backE_v rfl (by simp [V.refs]) (backE_junk (backE_v rfl (by simp [V.refs]) ?_))))))
          (repeat (first | exact backE_nil | refine backE_junk ?_ | refine backE_d rfl ?_ | refine backE_d (d_int (wrapN (by omega))) ?_))
        simp +contextual only [go_sem, Int.reduceBEq, Int.reduceBNe, Int.reduceLT, Int.reduceLE, Int.reduceEq, Int.reduceNe, List.range_zero, Option.isSome_some, Nat.reducePow, and_self, List.cons.injEq, Nat.reduceEqDiff, Nat.reduceAdd, Nat.reduceSub, Nat.reduceMul, Nat.reduceLeDiff, Nat.reduceBEq, Nat.reduceLT, reduceIte, reduceCtorEq]
        refine cond_intro (fun h5 => ?_) (fun h5 => ?_)
        · have h5' : j < s.vars.toNat := by simp at h5; omega
          obtain ⟨p, hp⟩ : ∃ p, (sumC s.vars.toNat ((m.t.zip s.rows).take k))[j]? = some p := ⟨(sumC s.vars.toNat ((m.t.zip s.rows).take k))[j]'(by omega), by simp [q1, h5']⟩
          obtain ⟨q, hq⟩ : ∃ q, r.c[j]? = some q := ⟨r.c[j]'(by omega), by simp [hxl, h5']⟩
          have hget := mixD_get (sumC s.vars.toNat ((m.t.zip s.rows).take (k + 1))) _ j p l1 hp
          have hlen2 := mixD_length (sumC s.vars.toNat ((m.t.zip s.rows).take (k + 1))) _ j l1 (by omega)
          have hnew : (sumC s.vars.toNat ((m.t.zip s.rows).take (k + 1)))[j]? = some (1 * p + n * q) := by rw [e1]; exact comb_get hp hq
          have hset := mixD_set _ _ j _ l1 hnew
          have g1 := q2 j p hp
          have g2 := mul_bound (a := n) (b := q) (A := 1000000000) (B := 1000) (by have := hx.n; omega) (by have := hx.c q (List.mem_of_getElem? hq); omega)
          simp +contextual only [go_sem, Int.reduceBEq, Int.reduceBNe, Int.reduceLT, Int.reduceLE, Int.reduceEq, Int.reduceNe, List.range_zero, Option.isSome_some, Nat.reducePow, and_self, List.cons.injEq, Nat.reduceEqDiff, Nat.reduceAdd, Nat.reduceSub, Nat.reduceMul, Nat.reduceLeDiff, Nat.reduceBEq, Nat.reduceLT, reduceIte, reduceCtorEq, hn, hr, hq, Row.d, D.i, hget, hlen2, q1, h5', if_true]
          refine end_intro (by decide) ?_
          simp +contextual only [go_sem, Int.reduceBEq, Int.reduceBNe, Int.reduceLT, Int.reduceLE, Int.reduceEq, Int.reduceNe, List.range_zero, Option.isSome_some, Nat.reducePow, and_self, List.cons.injEq, Nat.reduceEqDiff, Nat.reduceAdd, Nat.reduceSub, Nat.reduceMul, Nat.reduceLeDiff, Nat.reduceBEq, Nat.reduceLT, reduceIte, reduceCtorEq]
          refine nextS_intro (j + 1) h5' (by omega) (SLe.backL _ (Nat.zero_le _) (by omega) (heap45_good s m _ _) ?_ ?_)
          · rw [wrap64 (n := n * q) (by omega) (by omega), wrap64 (n := p + n * q) (by omega) (by omega), ← hset, Int.one_mul]
            exact (fun id hid => by simp only [upd] <;> ((repeat' split) <;> first | rfl | omega | (simp_all; done)))
          · refine (backE_junk (backE_junk (backE_v rfl (by simp [V.refs]) (backE_v rfl (by simp [V.refs]) (backE_junk (backE_v rfl (by simp [V.refs]) ?_))))))
            (repeat (first | exact backE_nil | refine backE_junk ?_ | refine backE_d rfl ?_ | refine backE_d (d_int (wrapN (by omega))) ?_))
        · have hjn : j = (sumC s.vars.toNat ((m.t.zip s.rows).take k)).length := by simp at h5; omega
          subst hjn
          rw [mixD_all _ _ l1]
          simp +contextual only [go_sem, Int.reduceBEq, Int.reduceBNe, Int.reduceLT, Int.reduceLE, Int.reduceEq, Int.reduceNe, List.range_zero, Option.isSome_some, Nat.reducePow, and_self, List.cons.injEq, Nat.reduceEqDiff, Nat.reduceAdd, Nat.reduceSub, Nat.reduceMul, Nat.reduceLeDiff, Nat.reduceBEq, Nat.reduceLT, reduceIte, reduceCtorEq, hn, hr, Row.d, D.i]
          refine end_intro (by decide) ?_
          simp +contextual only [go_sem, Int.reduceBEq, Int.reduceBNe, Int.reduceLT, Int.reduceLE, Int.reduceEq, Int.reduceNe, List.range_zero, Option.isSome_some, Nat.reducePow, and_self, List.cons.injEq, Nat.reduceEqDiff, Nat.reduceAdd, Nat.reduceSub, Nat.reduceMul, Nat.reduceLeDiff, Nat.reduceBEq, Nat.reduceLT, reduceIte, reduceCtorEq]
          refine nextS_intro (k + 1) ⟨h3, hgood⟩ (by omega) (SLe.backL _ (Nat.zero_le _) (by omega) (heap45_good s m _ _) ?_ ?_)
          · rw [w1, w2]
            exact (fun id hid => by simp only [upd] <;> ((repeat' split) <;> first | rfl | omega | (simp_all; done)))
          · refine (backE_junk (backE_junk (backE_v rfl (by simp [V.refs]) (backE_v rfl (by simp [V.refs]) (backE_junk (backE_v rfl (by simp [V.refs]) ?_))))))
            (repeat (first | exact backE_nil | refine backE_junk ?_ | refine backE_d rfl ?_ | refine backE_d (d_int (wrapN (by omega))) ?_))

    | false =>
      simp +contextual only [go_sem, Int.reduceBEq, Int.reduceBNe, Int.reduceLT, Int.reduceLE, Int.reduceEq, Int.reduceNe, List.range_zero, Option.isSome_some, Nat.reducePow, and_self, List.cons.injEq, Nat.reduceEqDiff, Nat.reduceAdd, Nat.reduceSub, Nat.reduceMul, Nat.reduceLeDiff, Nat.reduceBEq, Nat.reduceLT, reduceIte, reduceCtorEq, hn, hr, Row.d, D.i, hn0]
      replace hgood := hgood (by rw [hn0]; rfl)
      refine loop_fam (fun j : Nat => ⟨envJ [.junk, .junk, .ptr 0 0, .ptr 1 0, .junk, .ptr 11 0, .d (.i k), .d (.i j)], heap45 s m (mixD (sumC s.vars.toNat ((m.t.zip s.rows).take (k + 1))) (sumC s.vars.toNat ((m.t.zip s.rows).take k)) j) (sumB ((m.t.zip s.rows).take k)), 12⟩)
        (fun j => j ≤ s.vars.toNat) (fun j => s.vars.toNat - j) 0 (Nat.zero_le _) (SLe.backL _ (Nat.zero_le _) (by omega) (heap45_good s m _ _) ?_ ?_) (fun j hj => ?_)
      · rw [mixD_zero]
        exact (fun id hid => by simp only [upd] <;> ((repeat' split) <;> first | rfl | omega | (simp_all; done)))
      · refine (backE_junk (backE_junk (backE_v rfl (by simp [V.refs]) (backE_v rfl (by simp [V.refs]) (backE_junk (backE_v rfl (by simp [V.refs]) ?_))))))
        (repeat (first | exact backE_nil | refine backE_junk ?_ | refine backE_d rfl ?_ | refine backE_d (d_int (wrapN (by omega))) ?_))
      simp +contextual only [go_sem, Int.reduceBEq, Int.reduceBNe, Int.reduceLT, Int.reduceLE, Int.reduceEq, Int.reduceNe, List.range_zero, Option.isSome_some, Nat.reducePow, and_self, List.cons.injEq, Nat.reduceEqDiff, Nat.reduceAdd, Nat.reduceSub, Nat.reduceMul, Nat.reduceLeDiff, Nat.reduceBEq, Nat.reduceLT, reduceIte, reduceCtorEq]
      refine cond_intro (fun h5 => ?_) (fun h5 => ?_)
      · have h5' : j < s.vars.toNat := by simp at h5; omega
        obtain ⟨p, hp⟩ : ∃ p, (sumC s.vars.toNat ((m.t.zip s.rows).take k))[j]? = some p := ⟨(sumC s.vars.toNat ((m.t.zip s.rows).take k))[j]'(by omega), by simp [q1, h5']⟩
        obtain ⟨q, hq⟩ : ∃ q, r.c[j]? = some q := ⟨r.c[j]'(by omega), by simp [hxl, h5']⟩
        have hget := mixD_get (sumC s.vars.toNat ((m.t.zip s.rows).take (k + 1))) _ j p l1 hp
        have hlen2 := mixD_length (sumC s.vars.toNat ((m.t.zip s.rows).take (k + 1))) _ j l1 (by omega)
        have hnew : (sumC s.vars.toNat ((m.t.zip s.rows).take (k + 1)))[j]? = some (1 * p + n * q) := by rw [e1]; exact comb_get hp hq
        have hset := mixD_set _ _ j _ l1 hnew
        have g1 := q2 j p hp
        have g2 := mul_bound (a := n) (b := q) (A := 1000000000) (B := 1000) (by have := hx.n; omega) (by have := hx.c q (List.mem_of_getElem? hq); omega)
        simp +contextual only [go_sem, Int.reduceBEq, Int.reduceBNe, Int.reduceLT, Int.reduceLE, Int.reduceEq, Int.reduceNe, List.range_zero, Option.isSome_some, Nat.reducePow, and_self, List.cons.injEq, Nat.reduceEqDiff, Nat.reduceAdd, Nat.reduceSub, Nat.reduceMul, Nat.reduceLeDiff, Nat.reduceBEq, Nat.reduceLT, reduceIte, reduceCtorEq, hn, hr, hq, Row.d, D.i, hget, hlen2, q1, h5', if_true]
        refine end_intro (by decide) ?_
        simp +contextual only [go_sem, Int.reduceBEq, Int.reduceBNe, Int.reduceLT, Int.reduceLE, Int.reduceEq, Int.reduceNe, List.range_zero, Option.isSome_some, Nat.reducePow, and_self, List.cons.injEq, Nat.reduceEqDiff, Nat.reduceAdd, Nat.reduceSub, Nat.reduceMul, Nat.reduceLeDiff, Nat.reduceBEq, Nat.reduceLT, reduceIte, reduceCtorEq]
        refine nextS_intro (j + 1) h5' (by omega) (SLe.backL _ (Nat.zero_le _) (by omega) (heap45_good s m _ _) ?_ ?_)
        · rw [wrap64 (n := n * q) (by omega) (by omega), wrap64 (n := p + n * q) (by omega) (by omega), ← hset, Int.one_mul]
          exact (fun id hid => by simp only [upd] <;> ((repeat' split) <;> first | rfl | omega | (simp_all; done)))
        · refine (backE_junk (backE_junk (backE_v rfl (by simp [V.refs]) (backE_v rfl (by simp [V.refs]) (backE_junk (backE_v rfl (by simp [V.refs]) ?_))))))
          (repeat (first | exact backE_nil | refine backE_junk ?_ | refine backE_d rfl ?_ | refine backE_d (d_int (wrapN (by omega))) ?_))
      · have hjn : j = (sumC s.vars.toNat ((m.t.zip s.rows).take k)).length := by simp at h5; omega
        subst hjn
        rw [mixD_all _ _ l1]
        simp +contextual only [go_sem, Int.reduceBEq, Int.reduceBNe, Int.reduceLT, Int.reduceLE, Int.reduceEq, Int.reduceNe, List.range_zero, Option.isSome_some, Nat.reducePow, and_self, List.cons.injEq, Nat.reduceEqDiff, Nat.reduceAdd, Nat.reduceSub, Nat.reduceMul, Nat.reduceLeDiff, Nat.reduceBEq, Nat.reduceLT, reduceIte, reduceCtorEq, hn, hr, Row.d, D.i]
        refine end_intro (by decide) ?_
        simp +contextual only [go_sem, Int.reduceBEq, Int.reduceBNe, Int.reduceLT, Int.reduceLE, Int.reduceEq, Int.reduceNe, List.range_zero, Option.isSome_some, Nat.reducePow, and_self, List.cons.injEq, Nat.reduceEqDiff, Nat.reduceAdd, Nat.reduceSub, Nat.reduceMul, Nat.reduceLeDiff, Nat.reduceBEq, Nat.reduceLT, reduceIte, reduceCtorEq]
        refine nextS_intro (k + 1) ⟨h3, hgood⟩ (by omega) (SLe.backL _ (Nat.zero_le _) (by omega) (heap45_good s m _ _) ?_ ?_)
        · rw [w1, w2]
          exact (fun id hid => by simp only [upd] <;> ((repeat' split) <;> first | rfl | omega | (simp_all; done)))
        · refine (backE_junk (backE_junk (backE_v rfl (by simp [V.refs]) (backE_v rfl (by simp [V.refs]) (backE_junk (backE_v rfl (by simp [V.refs]) ?_))))))
          (repeat (first | exact backE_nil | refine backE_junk ?_ | refine backE_d rfl ?_ | refine backE_d (d_int (wrapN (by omega))) ?_))
  · simp at h3
    have hk' : (m.t.zip s.rows).take k = m.t.zip s.rows := List.take_of_length_le (by omega)
    obtain ⟨q1, q2, q3⟩ := sum_bound hall k (by omega)
    have hfin : rightF s m = rowEq ⟨sumC s.vars.toNat ((m.t.zip s.rows).take k), kindF s m.t, sumB ((m.t.zip s.rows).take k)⟩ m.r := by
      have := hk.2
      rw [hk'] at this
      rw [rightF, this, hk', Bool.true_and]
    have hsr := sameRow_c ⟨sumC s.vars.toNat ((m.t.zip s.rows).take k), kindF s m.t, sumB ((m.t.zip s.rows).take k)⟩ m.r (by simp only; omega)
    rw [hfin]
    simp +contextual only [go_sem, Int.reduceBEq, Int.reduceBNe, Int.reduceLT, Int.reduceLE, Int.reduceEq, Int.reduceNe, List.range_zero, Option.isSome_some, Nat.reducePow, and_self, List.cons.injEq, Nat.reduceEqDiff, Nat.reduceAdd, Nat.reduceSub, Nat.reduceMul, Nat.reduceLeDiff, Nat.reduceBEq, Nat.reduceLT, reduceIte, reduceCtorEq]
    refine call_keep hsr rfl ?_
    simp +contextual only [go_sem, Int.reduceBEq, Int.reduceBNe, Int.reduceLT, Int.reduceLE, Int.reduceEq, Int.reduceNe, List.range_zero, Option.isSome_some, Nat.reducePow, and_self, List.cons.injEq, Nat.reduceEqDiff, Nat.reduceAdd, Nat.reduceSub, Nat.reduceMul, Nat.reduceLeDiff, Nat.reduceBEq, Nat.reduceLT, reduceIte, reduceCtorEq]
end Go.Proofs.Ytaafchgfibbmhaa
