/-
  FUNCTIONS OF LAYER 15: the reference's checks. Conditions: as each theorem says.
-/
import Derived.Test.YtaafchgfibbmhaaF4
set_option linter.unusedSimpArgs false
set_option linter.unusedVariables false
namespace Go.Proofs.Ytaafchgfibbmhaa
@[reducible] def Sys.o (s : Sys) : Nat → Obj' := upd (fun _ => .no) 0 (.row [.d (.i s.vars), .d (.sl (s.rows.map Row.d))])
theorem Sys.o_good (s : Sys) : Good s.o 1 := Good.upd Good.nil (by decide) rfl
theorem SLe.d1 {e : Nat → V} {so o : Nat → Obj'} {m : Nat} (l : List V) (hg : Good o 1) (hm : 1 ≤ m) (h0 : so 0 = o 0) (he : backE 1 e l 0) : SLe 0 ⟨e, so, m⟩ ⟨envJ l, o, 1⟩ :=
  SLe.backL l (Nat.zero_le _) hm hg (fun id h => by obtain rfl : id = 0 := by omega
                                                    exact h0) he
def smallF (s : Sys) : Bool := decide ((s.rows.length : Int) ≤ 11) && s.rows.all (fun r => decide ((r.c.length : Int) ≤ 7))
theorem small_c (s : Sys) (hs : s.rows.length ≤ 9223372036854775807) : PCt Try.prog 12 [s.d] (.ret [.bool (smallF s)]) := by
  refine p12 ?_
  rw [c12]
  simp +contextual only [go_sem, Int.reduceBEq, Int.reduceBNe, Int.reduceLT, Int.reduceLE, Int.reduceEq, Int.reduceNe, List.range_zero, Option.isSome_some, Nat.reducePow, and_self, List.cons.injEq, Nat.reduceEqDiff, Nat.reduceAdd, Nat.reduceSub, Nat.reduceMul, Nat.reduceLeDiff, Nat.reduceBEq, Nat.reduceLT, reduceIte, reduceCtorEq]
  refine cond_intro (fun h1 => ?_) (fun h1 => ?_)
  · simp +contextual only [go_sem, Int.reduceBEq, Int.reduceBNe, Int.reduceLT, Int.reduceLE, Int.reduceEq, Int.reduceNe, List.range_zero, Option.isSome_some, Nat.reducePow, and_self, List.cons.injEq, Nat.reduceEqDiff, Nat.reduceAdd, Nat.reduceSub, Nat.reduceMul, Nat.reduceLeDiff, Nat.reduceBEq, Nat.reduceLT, reduceIte, reduceCtorEq]
    have : smallF s = false := by simp [smallF]; simp at h1; omega
    rw [this]
  · simp +contextual only [go_sem, Int.reduceBEq, Int.reduceBNe, Int.reduceLT, Int.reduceLE, Int.reduceEq, Int.reduceNe, List.range_zero, Option.isSome_some, Nat.reducePow, and_self, List.cons.injEq, Nat.reduceEqDiff, Nat.reduceAdd, Nat.reduceSub, Nat.reduceMul, Nat.reduceLeDiff, Nat.reduceBEq, Nat.reduceLT, reduceIte, reduceCtorEq]
    refine loop_fam (fun k : Nat => ⟨envJ [.junk, .ptr 0 0, .junk, .d (.i k)], s.o, 1⟩)
      (fun k => k ≤ s.rows.length ∧ (s.rows.take k).all (fun r => decide ((r.c.length : Int) ≤ 7)) = true) (fun k => s.rows.length - k) 0 ⟨Nat.zero_le _, by simp⟩ (SLe.d1 _ s.o_good (by omega) rfl ?_) (fun k hk => ?_)
    · refine backE_junk (backE_v rfl (by simp [V.refs]) ?_)
      (repeat (first | exact backE_nil | refine backE_junk ?_ | refine backE_d rfl ?_ | refine backE_d (d_int (wrapN (by omega))) ?_))
    simp +contextual only [go_sem, Int.reduceBEq, Int.reduceBNe, Int.reduceLT, Int.reduceLE, Int.reduceEq, Int.reduceNe, List.range_zero, Option.isSome_some, Nat.reducePow, and_self, List.cons.injEq, Nat.reduceEqDiff, Nat.reduceAdd, Nat.reduceSub, Nat.reduceMul, Nat.reduceLeDiff, Nat.reduceBEq, Nat.reduceLT, reduceIte, reduceCtorEq]
    refine cond_intro (fun h2 => ?_) (fun h2 => ?_)
    · simp at h2
      obtain ⟨r, hr⟩ : ∃ r, s.rows[k]? = some r := ⟨s.rows[k], by simp [h2]⟩
      simp +contextual only [go_sem, Int.reduceBEq, Int.reduceBNe, Int.reduceLT, Int.reduceLE, Int.reduceEq, Int.reduceNe, List.range_zero, Option.isSome_some, Nat.reducePow, and_self, List.cons.injEq, Nat.reduceEqDiff, Nat.reduceAdd, Nat.reduceSub, Nat.reduceMul, Nat.reduceLeDiff, Nat.reduceBEq, Nat.reduceLT, reduceIte, reduceCtorEq, hr, Row.d]
      refine cond_intro (fun h3 => ?_) (fun h3 => ?_)
      · simp +contextual only [go_sem, Int.reduceBEq, Int.reduceBNe, Int.reduceLT, Int.reduceLE, Int.reduceEq, Int.reduceNe, List.range_zero, Option.isSome_some, Nat.reducePow, and_self, List.cons.injEq, Nat.reduceEqDiff, Nat.reduceAdd, Nat.reduceSub, Nat.reduceMul, Nat.reduceLeDiff, Nat.reduceBEq, Nat.reduceLT, reduceIte, reduceCtorEq]
        have : smallF s = false := by
          simp [smallF]
          intro _
          exact ⟨r, List.mem_of_getElem? hr, by simp at h3; omega⟩
        rw [this]
      · simp +contextual only [go_sem, Int.reduceBEq, Int.reduceBNe, Int.reduceLT, Int.reduceLE, Int.reduceEq, Int.reduceNe, List.range_zero, Option.isSome_some, Nat.reducePow, and_self, List.cons.injEq, Nat.reduceEqDiff, Nat.reduceAdd, Nat.reduceSub, Nat.reduceMul, Nat.reduceLeDiff, Nat.reduceBEq, Nat.reduceLT, reduceIte, reduceCtorEq]
        refine nextS_intro (k + 1) ⟨h2, ?_⟩ (by omega) (SLe.d1 _ s.o_good (by omega) rfl ?_)
        · rw [List.take_add_one, hr]
          simp at h3 hk ⊢
          exact ⟨hk.2, by omega⟩
        · refine backE_junk (backE_v rfl (by simp [V.refs]) ?_)
          (repeat (first | exact backE_nil | refine backE_junk ?_ | refine backE_d rfl ?_ | refine backE_d (d_int (wrapN (by omega))) ?_))
    · simp +contextual only [go_sem, Int.reduceBEq, Int.reduceBNe, Int.reduceLT, Int.reduceLE, Int.reduceEq, Int.reduceNe, List.range_zero, Option.isSome_some, Nat.reducePow, and_self, List.cons.injEq, Nat.reduceEqDiff, Nat.reduceAdd, Nat.reduceSub, Nat.reduceMul, Nat.reduceLeDiff, Nat.reduceBEq, Nat.reduceLT, reduceIte, reduceCtorEq]
      simp at h2
      have : smallF s = true := by
        have := hk.2
        rw [List.take_of_length_le (by omega)] at this
        rw [smallF, this]
        simp at h1 ⊢
        omega
      rw [this]
theorem row_c (r : Row) (vars most : Int) (hl : r.c.length ≤ 9223372036854775807) (hm : -1000000000000 ≤ most ∧ most ≤ 1000000000000) : PCt Try.prog 30 [r.d, .i vars, .i most] (.ret [.bool (formedF r vars most)]) := by
  have hw : IntKind.i64.wrap (-most) = -most := wrap64 (by omega) (by omega)
  refine p30 ?_
  rw [c30]
  simp +contextual only [go_sem, Int.reduceBEq, Int.reduceBNe, Int.reduceLT, Int.reduceLE, Int.reduceEq, Int.reduceNe, List.range_zero, Option.isSome_some, Nat.reducePow, and_self, List.cons.injEq, Nat.reduceEqDiff, Nat.reduceAdd, Nat.reduceSub, Nat.reduceMul, Nat.reduceLeDiff, Nat.reduceBEq, Nat.reduceLT, reduceIte, reduceCtorEq]
  refine guard_data (callG_intro [.bool (inB r.rel 1 3)] ?_ ?_)
  · simp +contextual only [go_sem, Int.reduceBEq, Int.reduceBNe, Int.reduceLT, Int.reduceLE, Int.reduceEq, Int.reduceNe, List.range_zero, Option.isSome_some, Nat.reducePow, and_self, List.cons.injEq, Nat.reduceEqDiff, Nat.reduceAdd, Nat.reduceSub, Nat.reduceMul, Nat.reduceLeDiff, Nat.reduceBEq, Nat.reduceLT, reduceIte, reduceCtorEq]
    exact fun _ => rel_c _
  simp +contextual only [go_sem, Int.reduceBEq, Int.reduceBNe, Int.reduceLT, Int.reduceLE, Int.reduceEq, Int.reduceNe, List.range_zero, Option.isSome_some, Nat.reducePow, and_self, List.cons.injEq, Nat.reduceEqDiff, Nat.reduceAdd, Nat.reduceSub, Nat.reduceMul, Nat.reduceLeDiff, Nat.reduceBEq, Nat.reduceLT, reduceIte, reduceCtorEq]
  refine guard_data (callG_intro [.bool (allF r.c most)] ?_ ?_)
  · simp +contextual only [go_sem, Int.reduceBEq, Int.reduceBNe, Int.reduceLT, Int.reduceLE, Int.reduceEq, Int.reduceNe, List.range_zero, Option.isSome_some, Nat.reducePow, and_self, List.cons.injEq, Nat.reduceEqDiff, Nat.reduceAdd, Nat.reduceSub, Nat.reduceMul, Nat.reduceLeDiff, Nat.reduceBEq, Nat.reduceLT, reduceIte, reduceCtorEq]
    exact fun _ => all_c _ _ hl hm
  simp +contextual only [go_sem, Int.reduceBEq, Int.reduceBNe, Int.reduceLT, Int.reduceLE, Int.reduceEq, Int.reduceNe, List.range_zero, Option.isSome_some, Nat.reducePow, and_self, List.cons.injEq, Nat.reduceEqDiff, Nat.reduceAdd, Nat.reduceSub, Nat.reduceMul, Nat.reduceLeDiff, Nat.reduceBEq, Nat.reduceLT, reduceIte, reduceCtorEq, hw]
  refine guard_data (callG_intro [.bool (inB r.b (-most) most)] ?_ ?_)
  · simp +contextual only [go_sem, Int.reduceBEq, Int.reduceBNe, Int.reduceLT, Int.reduceLE, Int.reduceEq, Int.reduceNe, List.range_zero, Option.isSome_some, Nat.reducePow, and_self, List.cons.injEq, Nat.reduceEqDiff, Nat.reduceAdd, Nat.reduceSub, Nat.reduceMul, Nat.reduceLeDiff, Nat.reduceBEq, Nat.reduceLT, reduceIte, reduceCtorEq]
    exact fun _ => in_c _ _ _
  simp +contextual only [go_sem, Int.reduceBEq, Int.reduceBNe, Int.reduceLT, Int.reduceLE, Int.reduceEq, Int.reduceNe, List.range_zero, Option.isSome_some, Nat.reducePow, and_self, List.cons.injEq, Nat.reduceEqDiff, Nat.reduceAdd, Nat.reduceSub, Nat.reduceMul, Nat.reduceLeDiff, Nat.reduceBEq, Nat.reduceLT, reduceIte, reduceCtorEq]
  rfl
theorem sys_c (s : Sys) (hs : s.Fits) : PCt Try.prog 16 [s.d] (.ret [.bool (checkF s)]) := by
  have hb := hs.rows
  refine p16 ?_
  rw [c16]
  simp +contextual only [go_sem, Int.reduceBEq, Int.reduceBNe, Int.reduceLT, Int.reduceLE, Int.reduceEq, Int.reduceNe, List.range_zero, Option.isSome_some, Nat.reducePow, and_self, List.cons.injEq, Nat.reduceEqDiff, Nat.reduceAdd, Nat.reduceSub, Nat.reduceMul, Nat.reduceLeDiff, Nat.reduceBEq, Nat.reduceLT, reduceIte, reduceCtorEq]
  refine call_keep (in_c _ _ _) rfl ?_
  simp +contextual only [go_sem, Int.reduceBEq, Int.reduceBNe, Int.reduceLT, Int.reduceLE, Int.reduceEq, Int.reduceNe, List.range_zero, Option.isSome_some, Nat.reducePow, and_self, List.cons.injEq, Nat.reduceEqDiff, Nat.reduceAdd, Nat.reduceSub, Nat.reduceMul, Nat.reduceLeDiff, Nat.reduceBEq, Nat.reduceLT, reduceIte, reduceCtorEq]
  refine cond_intro (fun h1 => ?_) (fun h1 => ?_)
  · simp +contextual only [go_sem, Int.reduceBEq, Int.reduceBNe, Int.reduceLT, Int.reduceLE, Int.reduceEq, Int.reduceNe, List.range_zero, Option.isSome_some, Nat.reducePow, and_self, List.cons.injEq, Nat.reduceEqDiff, Nat.reduceAdd, Nat.reduceSub, Nat.reduceMul, Nat.reduceLeDiff, Nat.reduceBEq, Nat.reduceLT, reduceIte, reduceCtorEq]
    have : checkF s = false := by simp [checkF, inB]; simp at h1; omega
    rw [this]
  · simp +contextual only [go_sem, Int.reduceBEq, Int.reduceBNe, Int.reduceLT, Int.reduceLE, Int.reduceEq, Int.reduceNe, List.range_zero, Option.isSome_some, Nat.reducePow, and_self, List.cons.injEq, Nat.reduceEqDiff, Nat.reduceAdd, Nat.reduceSub, Nat.reduceMul, Nat.reduceLeDiff, Nat.reduceBEq, Nat.reduceLT, reduceIte, reduceCtorEq]
    refine loop_fam (fun k : Nat => ⟨envJ [.junk, .ptr 0 0, .junk, .d (.i k)], s.o, 1⟩)
      (fun k => k ≤ s.rows.length ∧ (s.rows.take k).all (fun r => formedF r s.vars 1000) = true) (fun k => s.rows.length - k) 0 ⟨Nat.zero_le _, by simp⟩ (SLe.d1 _ s.o_good (by omega) rfl ?_) (fun k hk => ?_)
    · refine backE_junk (backE_v rfl (by simp [V.refs]) ?_)
      (repeat (first | exact backE_nil | refine backE_junk ?_ | refine backE_d rfl ?_ | refine backE_d (d_int (wrapN (by omega))) ?_))
    simp +contextual only [go_sem, Int.reduceBEq, Int.reduceBNe, Int.reduceLT, Int.reduceLE, Int.reduceEq, Int.reduceNe, List.range_zero, Option.isSome_some, Nat.reducePow, and_self, List.cons.injEq, Nat.reduceEqDiff, Nat.reduceAdd, Nat.reduceSub, Nat.reduceMul, Nat.reduceLeDiff, Nat.reduceBEq, Nat.reduceLT, reduceIte, reduceCtorEq]
    refine cond_intro (fun h2 => ?_) (fun h2 => ?_)
    · simp at h2
      obtain ⟨r, hr⟩ : ∃ r, s.rows[k]? = some r := ⟨s.rows[k], by simp [h2]⟩
      simp +contextual only [go_sem, Int.reduceBEq, Int.reduceBNe, Int.reduceLT, Int.reduceLE, Int.reduceEq, Int.reduceNe, List.range_zero, Option.isSome_some, Nat.reducePow, and_self, List.cons.injEq, Nat.reduceEqDiff, Nat.reduceAdd, Nat.reduceSub, Nat.reduceMul, Nat.reduceLeDiff, Nat.reduceBEq, Nat.reduceLT, reduceIte, reduceCtorEq, hr, Row.d]
      refine callD_keep (row_c r s.vars 1000 (hs.cs r (List.mem_of_getElem? hr)) (by omega)) rfl ?_
      simp +contextual only [go_sem, Int.reduceBEq, Int.reduceBNe, Int.reduceLT, Int.reduceLE, Int.reduceEq, Int.reduceNe, List.range_zero, Option.isSome_some, Nat.reducePow, and_self, List.cons.injEq, Nat.reduceEqDiff, Nat.reduceAdd, Nat.reduceSub, Nat.reduceMul, Nat.reduceLeDiff, Nat.reduceBEq, Nat.reduceLT, reduceIte, reduceCtorEq]
      refine end_intro (by decide) ?_
      simp +contextual only [go_sem, Int.reduceBEq, Int.reduceBNe, Int.reduceLT, Int.reduceLE, Int.reduceEq, Int.reduceNe, List.range_zero, Option.isSome_some, Nat.reducePow, and_self, List.cons.injEq, Nat.reduceEqDiff, Nat.reduceAdd, Nat.reduceSub, Nat.reduceMul, Nat.reduceLeDiff, Nat.reduceBEq, Nat.reduceLT, reduceIte, reduceCtorEq]
      refine cond_intro (fun h3 => ?_) (fun h3 => ?_)
      · simp +contextual only [go_sem, Int.reduceBEq, Int.reduceBNe, Int.reduceLT, Int.reduceLE, Int.reduceEq, Int.reduceNe, List.range_zero, Option.isSome_some, Nat.reducePow, and_self, List.cons.injEq, Nat.reduceEqDiff, Nat.reduceAdd, Nat.reduceSub, Nat.reduceMul, Nat.reduceLeDiff, Nat.reduceBEq, Nat.reduceLT, reduceIte, reduceCtorEq]
        have : checkF s = false := by
          have : s.rows.all (fun r => formedF r s.vars 1000) = false := by
            rw [List.all_eq_false]
            exact ⟨r, List.mem_of_getElem? hr, by simpa using h3⟩
          rw [checkF, this, Bool.and_false]
        rw [this]
      · simp +contextual only [go_sem, Int.reduceBEq, Int.reduceBNe, Int.reduceLT, Int.reduceLE, Int.reduceEq, Int.reduceNe, List.range_zero, Option.isSome_some, Nat.reducePow, and_self, List.cons.injEq, Nat.reduceEqDiff, Nat.reduceAdd, Nat.reduceSub, Nat.reduceMul, Nat.reduceLeDiff, Nat.reduceBEq, Nat.reduceLT, reduceIte, reduceCtorEq]
        refine nextS_intro (k + 1) ⟨h2, ?_⟩ (by omega) (SLe.d1 _ s.o_good (by omega) rfl ?_)
        · rw [List.take_add_one, hr]
          simp at h3 hk ⊢
          exact ⟨hk.2, h3⟩
        · refine backE_junk (backE_v rfl (by simp [V.refs]) ?_)
          (repeat (first | exact backE_nil | refine backE_junk ?_ | refine backE_d rfl ?_ | refine backE_d (d_int (wrapN (by omega))) ?_))
    · simp +contextual only [go_sem, Int.reduceBEq, Int.reduceBNe, Int.reduceLT, Int.reduceLE, Int.reduceEq, Int.reduceNe, List.range_zero, Option.isSome_some, Nat.reducePow, and_self, List.cons.injEq, Nat.reduceEqDiff, Nat.reduceAdd, Nat.reduceSub, Nat.reduceMul, Nat.reduceLeDiff, Nat.reduceBEq, Nat.reduceLT, reduceIte, reduceCtorEq]
      simp at h2
      have : checkF s = true := by
        have := hk.2
        rw [List.take_of_length_le (by omega)] at this
        rw [checkF, this]
        simp [inB] at h1 ⊢
        omega
      rw [this]
end Go.Proofs.Ytaafchgfibbmhaa
