/-
  LinearStages: at every call the law answers true, and leaves all memory as it was. Conditions: none.
-/
import Derived.Test.YtaafchgfibbmhaaStagesPk37
set_option linter.unusedSimpArgs false
set_option linter.unusedVariables false
section
namespace Go.Proofs.Ytaafchgfibbmhaa
open Go
def dat : Nat → Bool := fun g => !([37, 40, 41, 107] : List Nat).contains g
def cfg0 : Cfg Try.prog := Cfg.of dat [] (fun _ h => by cases h)
theorem works_run : runD Try.prog tab cfg0 5000 13 [] = some (.ret [.bool true]) := by kernel_rfl
theorem works : PCt Try.prog 13 [] (.ret [.bool true]) := PCt.of_run mix tab_ok works_run
end Go.Proofs.Ytaafchgfibbmhaa
end
section
namespace Go.Proofs.Ytaafchgfibbmhaa
open Go.ChangeShapes Go.WideShapes Go.RowKit
theorem hz0 : (((0 : Nat) : Int) == 0) = true := rfl
theorem linearStages_c (s : Sys) (n : Int) (hs : s.Fits) : PCt Try.prog 4 [s.d, .i n] (.ret [.bool true]) := by
  refine PCt.of_ev mix fn4 (by simp) ?_
  rw [c4]
  simp +contextual only [go_sem, Int.reduceBEq, Int.reduceBNe, Int.reduceLT, Int.reduceLE, Int.reduceEq, Int.reduceNe, List.range_zero, Option.isSome_some, Nat.reducePow, and_self, List.cons.injEq, Nat.reduceEqDiff, Nat.reduceAdd, Nat.reduceSub, Nat.reduceMul, Nat.reduceLeDiff, Nat.reduceBEq, Nat.reduceLT, reduceIte, reduceCtorEq, Sys.d, hz0]
  refine call_keep (small_c s hs.rows) rfl ?_
  simp +contextual only [go_sem, Int.reduceBEq, Int.reduceBNe, Int.reduceLT, Int.reduceLE, Int.reduceEq, Int.reduceNe, List.range_zero, Option.isSome_some, Nat.reducePow, and_self, List.cons.injEq, Nat.reduceEqDiff, Nat.reduceAdd, Nat.reduceSub, Nat.reduceMul, Nat.reduceLeDiff, Nat.reduceBEq, Nat.reduceLT, reduceIte, reduceCtorEq]
  refine cond_intro (fun h3 => ?_) (fun h3 => ?_)
  · simp +contextual only [go_sem, Int.reduceBEq, Int.reduceBNe, Int.reduceLT, Int.reduceLE, Int.reduceEq, Int.reduceNe, List.range_zero, Option.isSome_some, Nat.reducePow, and_self, List.cons.injEq, Nat.reduceEqDiff, Nat.reduceAdd, Nat.reduceSub, Nat.reduceMul, Nat.reduceLeDiff, Nat.reduceBEq, Nat.reduceLT, reduceIte, reduceCtorEq]
    refine call_keep works rfl ?_
    simp +contextual only [go_sem, Int.reduceBEq, Int.reduceBNe, Int.reduceLT, Int.reduceLE, Int.reduceEq, Int.reduceNe, List.range_zero, Option.isSome_some, Nat.reducePow, and_self, List.cons.injEq, Nat.reduceEqDiff, Nat.reduceAdd, Nat.reduceSub, Nat.reduceMul, Nat.reduceLeDiff, Nat.reduceBEq, Nat.reduceLT, reduceIte, reduceCtorEq]
  have hst := stage_c s hs n
  have hsys := sys_c s hs
  simp +contextual only [go_sem, Int.reduceBEq, Int.reduceBNe, Int.reduceLT, Int.reduceLE, Int.reduceEq, Int.reduceNe, List.range_zero, Option.isSome_some, Nat.reducePow, and_self, List.cons.injEq, Nat.reduceEqDiff, Nat.reduceAdd, Nat.reduceSub, Nat.reduceMul, Nat.reduceLeDiff, Nat.reduceBEq, Nat.reduceLT, reduceIte, reduceCtorEq, Sys.d, hz0]
  cases hc : checkF s with
  | false =>
    have hF : stageF s n = (.sl [], 2) := by simp [stageF, hc]
    rw [hF] at hst
    rw [hc] at hsys
    refine call_give hst ?_
    simp +contextual only [go_sem, Int.reduceBEq, Int.reduceBNe, Int.reduceLT, Int.reduceLE, Int.reduceEq, Int.reduceNe, List.range_zero, Option.isSome_some, Nat.reducePow, and_self, List.cons.injEq, Nat.reduceEqDiff, Nat.reduceAdd, Nat.reduceSub, Nat.reduceMul, Nat.reduceLeDiff, Nat.reduceBEq, Nat.reduceLT, reduceIte, reduceCtorEq, Sys.d, hz0]
    refine call_keep hsys rfl ?_
    simp +contextual only [go_sem, Int.reduceBEq, Int.reduceBNe, Int.reduceLT, Int.reduceLE, Int.reduceEq, Int.reduceNe, List.range_zero, Option.isSome_some, Nat.reducePow, and_self, List.cons.injEq, Nat.reduceEqDiff, Nat.reduceAdd, Nat.reduceSub, Nat.reduceMul, Nat.reduceLeDiff, Nat.reduceBEq, Nat.reduceLT, reduceIte, reduceCtorEq, Sys.d, hz0]
    refine call_keep works rfl ?_
    simp +contextual only [go_sem, Int.reduceBEq, Int.reduceBNe, Int.reduceLT, Int.reduceLE, Int.reduceEq, Int.reduceNe, List.range_zero, Option.isSome_some, Nat.reducePow, and_self, List.cons.injEq, Nat.reduceEqDiff, Nat.reduceAdd, Nat.reduceSub, Nat.reduceMul, Nat.reduceLeDiff, Nat.reduceBEq, Nat.reduceLT, reduceIte, reduceCtorEq]
  | true =>
    rw [hc] at hsys
    by_cases h0 : n < 0
    · have h0' : decide (n < 0) = true := by simpa using h0
      have hF : stageF s n = (.sl [], 2) := by simp [stageF, hc, inB]; omega
      rw [hF] at hst
      refine call_give hst ?_
      simp +contextual only [go_sem, Int.reduceBEq, Int.reduceBNe, Int.reduceLT, Int.reduceLE, Int.reduceEq, Int.reduceNe, List.range_zero, Option.isSome_some, Nat.reducePow, and_self, List.cons.injEq, Nat.reduceEqDiff, Nat.reduceAdd, Nat.reduceSub, Nat.reduceMul, Nat.reduceLeDiff, Nat.reduceBEq, Nat.reduceLT, reduceIte, reduceCtorEq, Sys.d, hz0]
      refine call_keep hsys rfl ?_
      simp +contextual only [go_sem, Int.reduceBEq, Int.reduceBNe, Int.reduceLT, Int.reduceLE, Int.reduceEq, Int.reduceNe, List.range_zero, Option.isSome_some, Nat.reducePow, and_self, List.cons.injEq, Nat.reduceEqDiff, Nat.reduceAdd, Nat.reduceSub, Nat.reduceMul, Nat.reduceLeDiff, Nat.reduceBEq, Nat.reduceLT, reduceIte, reduceCtorEq, Sys.d, hz0, h0']
      refine call_keep works rfl ?_
      simp +contextual only [go_sem, Int.reduceBEq, Int.reduceBNe, Int.reduceLT, Int.reduceLE, Int.reduceEq, Int.reduceNe, List.range_zero, Option.isSome_some, Nat.reducePow, and_self, List.cons.injEq, Nat.reduceEqDiff, Nat.reduceAdd, Nat.reduceSub, Nat.reduceMul, Nat.reduceLeDiff, Nat.reduceBEq, Nat.reduceLT, reduceIte, reduceCtorEq]
    have h0' : decide (n < 0) = false := by simpa using h0
    by_cases h1 : s.vars < n
    · have h1' : decide (s.vars < n) = true := by simpa using h1
      have hF : stageF s n = (.sl [], 2) := by simp [stageF, hc, inB]; omega
      rw [hF] at hst
      refine call_give hst ?_
      simp +contextual only [go_sem, Int.reduceBEq, Int.reduceBNe, Int.reduceLT, Int.reduceLE, Int.reduceEq, Int.reduceNe, List.range_zero, Option.isSome_some, Nat.reducePow, and_self, List.cons.injEq, Nat.reduceEqDiff, Nat.reduceAdd, Nat.reduceSub, Nat.reduceMul, Nat.reduceLeDiff, Nat.reduceBEq, Nat.reduceLT, reduceIte, reduceCtorEq, Sys.d, hz0]
      refine call_keep hsys rfl ?_
      simp +contextual only [go_sem, Int.reduceBEq, Int.reduceBNe, Int.reduceLT, Int.reduceLE, Int.reduceEq, Int.reduceNe, List.range_zero, Option.isSome_some, Nat.reducePow, and_self, List.cons.injEq, Nat.reduceEqDiff, Nat.reduceAdd, Nat.reduceSub, Nat.reduceMul, Nat.reduceLeDiff, Nat.reduceBEq, Nat.reduceLT, reduceIte, reduceCtorEq, Sys.d, hz0, h0', h1']
      refine call_keep works rfl ?_
      simp +contextual only [go_sem, Int.reduceBEq, Int.reduceBNe, Int.reduceLT, Int.reduceLE, Int.reduceEq, Int.reduceNe, List.range_zero, Option.isSome_some, Nat.reducePow, and_self, List.cons.injEq, Nat.reduceEqDiff, Nat.reduceAdd, Nat.reduceSub, Nat.reduceMul, Nat.reduceLeDiff, Nat.reduceBEq, Nat.reduceLT, reduceIte, reduceCtorEq]
    have h1' : decide (s.vars < n) = false := by simpa using h1
    obtain ⟨k, rfl⟩ : ∃ k : Nat, n = k := ⟨n.toNat, by omega⟩
    have hin : inB (k : Int) 0 s.vars = true := by simp [inB]; omega
    have hko : ((k : Int)).toNat = k := by omega
    have hst' := stages'_c s hc k (by omega)
    cases hcur : curE s k with
    | none =>
      have hF : stageF s k = (.sl [], 3) := by simp [stageF, hc, hin, hko, hcur]
      rw [hF] at hst
      simp only [hcur, Option.isSome_none, Bool.false_eq_true, if_false] at hst'
      refine call_give hst ?_
      simp +contextual only [go_sem, Int.reduceBEq, Int.reduceBNe, Int.reduceLT, Int.reduceLE, Int.reduceEq, Int.reduceNe, List.range_zero, Option.isSome_some, Nat.reducePow, and_self, List.cons.injEq, Nat.reduceEqDiff, Nat.reduceAdd, Nat.reduceSub, Nat.reduceMul, Nat.reduceLeDiff, Nat.reduceBEq, Nat.reduceLT, reduceIte, reduceCtorEq, Sys.d, hz0]
      refine call_keep hsys rfl ?_
      simp +contextual only [go_sem, Int.reduceBEq, Int.reduceBNe, Int.reduceLT, Int.reduceLE, Int.reduceEq, Int.reduceNe, List.range_zero, Option.isSome_some, Nat.reducePow, and_self, List.cons.injEq, Nat.reduceEqDiff, Nat.reduceAdd, Nat.reduceSub, Nat.reduceMul, Nat.reduceLeDiff, Nat.reduceBEq, Nat.reduceLT, reduceIte, reduceCtorEq, Sys.d, hz0, h0', h1']
      refine call_give hst' ?_
      simp +contextual only [go_sem, Int.reduceBEq, Int.reduceBNe, Int.reduceLT, Int.reduceLE, Int.reduceEq, Int.reduceNe, List.range_zero, Option.isSome_some, Nat.reducePow, and_self, List.cons.injEq, Nat.reduceEqDiff, Nat.reduceAdd, Nat.reduceSub, Nat.reduceMul, Nat.reduceLeDiff, Nat.reduceBEq, Nat.reduceLT, reduceIte, reduceCtorEq, Sys.d, hz0, h0', h1']
      refine call_keep works rfl ?_
      simp +contextual only [go_sem, Int.reduceBEq, Int.reduceBNe, Int.reduceLT, Int.reduceLE, Int.reduceEq, Int.reduceNe, List.range_zero, Option.isSome_some, Nat.reducePow, and_self, List.cons.injEq, Nat.reduceEqDiff, Nat.reduceAdd, Nat.reduceSub, Nat.reduceMul, Nat.reduceLeDiff, Nat.reduceBEq, Nat.reduceLT, reduceIte, reduceCtorEq]
    | some l =>
      have hF : stageF s k = (stD l, 0) := by simp [stageF, hc, hin, hko, hcur]
      rw [hF] at hst
      simp only [hcur, Option.isSome_some, if_true] at hst'
      obtain ⟨hok, h200⟩ := curE_ok hc hcur
      obtain ⟨v1, v5, r10, hall⟩ := check_rows hc
      have hget : (stagesD s k)[k]? = some (.sl (l.map Made.d)) := by
        simp only [stagesD]
        rw [List.getElem?_map, List.getElem?_range (by omega)]
        simp [curA, hcur, stD]
      refine call_give hst ?_
      simp +contextual only [go_sem, Int.reduceBEq, Int.reduceBNe, Int.reduceLT, Int.reduceLE, Int.reduceEq, Int.reduceNe, List.range_zero, Option.isSome_some, Nat.reducePow, and_self, List.cons.injEq, Nat.reduceEqDiff, Nat.reduceAdd, Nat.reduceSub, Nat.reduceMul, Nat.reduceLeDiff, Nat.reduceBEq, Nat.reduceLT, reduceIte, reduceCtorEq, Sys.d, hz0]
      refine call_keep hsys rfl ?_
      simp +contextual only [go_sem, Int.reduceBEq, Int.reduceBNe, Int.reduceLT, Int.reduceLE, Int.reduceEq, Int.reduceNe, List.range_zero, Option.isSome_some, Nat.reducePow, and_self, List.cons.injEq, Nat.reduceEqDiff, Nat.reduceAdd, Nat.reduceSub, Nat.reduceMul, Nat.reduceLeDiff, Nat.reduceBEq, Nat.reduceLT, reduceIte, reduceCtorEq, Sys.d, hz0, h0', h1', stD]
      refine call_give hst' ?_
      simp +contextual only [go_sem, Int.reduceBEq, Int.reduceBNe, Int.reduceLT, Int.reduceLE, Int.reduceEq, Int.reduceNe, List.range_zero, Option.isSome_some, Nat.reducePow, and_self, List.cons.injEq, Nat.reduceEqDiff, Nat.reduceAdd, Nat.reduceSub, Nat.reduceMul, Nat.reduceLeDiff, Nat.reduceBEq, Nat.reduceLT, reduceIte, reduceCtorEq, Sys.d, hz0, h0', h1', hget, stD]
      refine call_keep (sameStage_refl l (by omega) (fun m hm => by have := (hok m hm).lc; have := (hok m hm).lt; omega)) rfl ?_
      simp +contextual only [go_sem, Int.reduceBEq, Int.reduceBNe, Int.reduceLT, Int.reduceLE, Int.reduceEq, Int.reduceNe, List.range_zero, Option.isSome_some, Nat.reducePow, and_self, List.cons.injEq, Nat.reduceEqDiff, Nat.reduceAdd, Nat.reduceSub, Nat.reduceMul, Nat.reduceLeDiff, Nat.reduceBEq, Nat.reduceLT, reduceIte, reduceCtorEq, Sys.d, hz0, h0', h1', hget, stD]
      refine call_keep works rfl ?_
      simp +contextual only [go_sem, Int.reduceBEq, Int.reduceBNe, Int.reduceLT, Int.reduceLE, Int.reduceEq, Int.reduceNe, List.range_zero, Option.isSome_some, Nat.reducePow, and_self, List.cons.injEq, Nat.reduceEqDiff, Nat.reduceAdd, Nat.reduceSub, Nat.reduceMul, Nat.reduceLeDiff, Nat.reduceBEq, Nat.reduceLT, reduceIte, reduceCtorEq]
set_option maxRecDepth 100000 in
theorem linearStages_lifted (os : Os) (started : os.Started) (H : Type) (enc : TypeId × Value → H) :
    ReturnsInHanded {} Try.checked os 4 .any (Rows.linearStagesSpec.pre6 enc Try.prog Try.f4 Rows.linearStagesRow.domain false) (Rows.linearStagesSpec.post enc Try.prog Try.f4 Rows.linearStagesRow.apart Rows.linearStagesRow.fresh Rows.linearStagesRow.handsOn Rows.linearStagesRow.again) := by
  refine returnsInHanded_of_change (C := Try.checked) (by kernel_rfl) started (by kernel_rfl) Try.func4
    (ChangeSpec.witness6 (enc := enc) (C := Try.checked) false ⟨#[], #[.agg #[.int .i64 0, .slice none 0 0], .int .i64 0], []⟩ 8 (by kernel_rfl) (by kernel_rfl) (by kernel_rfl) (by kernel_rfl)) ?_
  intro W base args ds gs before hval hW _ _
  refine law_contract (T := [24, 22, 45, 42, 3, 43]) (tb := 4) (by kernel_rfl) (by kernel_rfl) rfl (fun ds h => by match ds, h with | [_, _], _ => rfl) (by kernel_rfl) (by intro t ht; rw [Try.params4] at ht; simp at ht; rcases ht with rfl | rfl <;> simp) (by kernel_rfl) (by intro t ht; rw [Try.params4] at ht; simp at ht; rcases ht with rfl | rfl <;> exact ⟨by kernel_rfl, of_decide_eq_true (by kernel_rfl)⟩)
    (fun xs hx => ?_) base args ds gs before hval hW
  rw [Try.params4] at hx
  obtain ⟨x, xs, rfl, hx1, hx⟩ := hasTs_cons hx
  obtain ⟨y, xs, rfl, hy1, hx⟩ := hasTs_cons hx
  have := hasTs_nil hx; subst this
  obtain ⟨s, rfl, hs⟩ := sys24 hx1
  obtain ⟨n, rfl, _⟩ := int3 hy1
  exact linearStages_c s n hs
theorem linearStages_holds : Rows.LinearStagesSaid :=
  OpenClaim.holds_of_wide 4 Try.f4 rfl rfl rfl rfl rfl rfl rfl ⟨rfl, rfl, rfl, rfl, rfl⟩ rfl rfl rfl rfl rfl (by kernel_rfl) Try.func4 (by kernel_rfl)
    (of_decide_eq_true (by kernel_rfl)) (by unfold Func.isWrapper; first | (rw [if_pos (by decide +kernel)]; kernel_rfl) | (rw [if_neg (by decide +kernel)]; exact ⟨rfl, rfl⟩))
    (fun os started H enc _ => linearStages_lifted os started H enc)
end Go.Proofs.Ytaafchgfibbmhaa
end
