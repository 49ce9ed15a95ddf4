/-
  LinearRows: at every call the law answers true, and leaves all memory as it was. Conditions: none.
-/
import Derived.Test.YtaafchgfibbmhaaF7
import Derived.Test.YtaafchgfibbmhaaWorks
import Derived.Test.YtaafchgfibbmhaaCoreBr
set_option linter.unusedSimpArgs false
set_option linter.unusedVariables false
namespace Go.Proofs.Ytaafchgfibbmhaa
open Go.ChangeShapes Go.WideShapes Go.RowKit
theorem fit_c (s : Sys) (p : List Rat) (hc : checkF s = true) (hp : pointF s p = true) : Small1 p ∧ ∀ r ∈ s.rows, RowOk r p := by
  simp [checkF, pointF, inB, ratF, formedF, allF] at hc hp
  obtain ⟨⟨⟨c1, c2⟩, c3⟩, c4⟩ := hc
  obtain ⟨p1, p2⟩ := hp
  refine ⟨⟨by omega, fun r hr => ?_, fun r hr => ?_⟩, fun r hr => ⟨?_, fun c hcm => ?_, ?_⟩⟩
  · exact (p2 r hr).1.1
  · exact (p2 r hr).1.2
  · have := (c4 r hr).1.1.1; omega
  · exact (c4 r hr).1.2 c hcm
  · exact (c4 r hr).2
theorem linearRows_c (s : Sys) (p : List Rat) (hs : s.Fits) (hp : p.length ≤ 9223372036854775807) : PCt Try.prog 3 [s.d, .sl (p.map Rat.d)] (.ret [.bool true]) := by
  refine p3 ?_
  rw [c3]
  simp +contextual only [go_sem, Int.reduceBEq, Int.reduceBNe, Int.reduceLT, Int.reduceLE, Int.reduceEq, Int.reduceNe, List.range_zero, Option.isSome_some, Nat.reducePow, and_self, List.cons.injEq, Nat.reduceEqDiff, Nat.reduceAdd, Nat.reduceSub, Nat.reduceMul, Nat.reduceLeDiff, Nat.reduceBEq, Nat.reduceLT, reduceIte, reduceCtorEq]
  refine call_keep (small_c s hs.rows) rfl ?_
  simp +contextual only [go_sem, Int.reduceBEq, Int.reduceBNe, Int.reduceLT, Int.reduceLE, Int.reduceEq, Int.reduceNe, List.range_zero, Option.isSome_some, Nat.reducePow, and_self, List.cons.injEq, Nat.reduceEqDiff, Nat.reduceAdd, Nat.reduceSub, Nat.reduceMul, Nat.reduceLeDiff, Nat.reduceBEq, Nat.reduceLT, reduceIte, reduceCtorEq]
  refine cond_intro (fun h1 => ?_) (fun h1 => ?_)
  · simp +contextual only [go_sem, Int.reduceBEq, Int.reduceBNe, Int.reduceLT, Int.reduceLE, Int.reduceEq, Int.reduceNe, List.range_zero, Option.isSome_some, Nat.reducePow, and_self, List.cons.injEq, Nat.reduceEqDiff, Nat.reduceAdd, Nat.reduceSub, Nat.reduceMul, Nat.reduceLeDiff, Nat.reduceBEq, Nat.reduceLT, reduceIte, reduceCtorEq]
    refine call_keep works rfl ?_
    simp +contextual only [go_sem, Int.reduceBEq, Int.reduceBNe, Int.reduceLT, Int.reduceLE, Int.reduceEq, Int.reduceNe, List.range_zero, Option.isSome_some, Nat.reducePow, and_self, List.cons.injEq, Nat.reduceEqDiff, Nat.reduceAdd, Nat.reduceSub, Nat.reduceMul, Nat.reduceLeDiff, Nat.reduceBEq, Nat.reduceLT, reduceIte, reduceCtorEq]
  · simp +contextual only [go_sem, Int.reduceBEq, Int.reduceBNe, Int.reduceLT, Int.reduceLE, Int.reduceEq, Int.reduceNe, List.range_zero, Option.isSome_some, Nat.reducePow, and_self, List.cons.injEq, Nat.reduceEqDiff, Nat.reduceAdd, Nat.reduceSub, Nat.reduceMul, Nat.reduceLeDiff, Nat.reduceBEq, Nat.reduceLT, reduceIte, reduceCtorEq]
    refine call_keep (check_c s hs) rfl ?_
    simp +contextual only [go_sem, Int.reduceBEq, Int.reduceBNe, Int.reduceLT, Int.reduceLE, Int.reduceEq, Int.reduceNe, List.range_zero, Option.isSome_some, Nat.reducePow, and_self, List.cons.injEq, Nat.reduceEqDiff, Nat.reduceAdd, Nat.reduceSub, Nat.reduceMul, Nat.reduceLeDiff, Nat.reduceBEq, Nat.reduceLT, reduceIte, reduceCtorEq]
    have hh := holds_c s p hs hp (fit_c s p)
    cases hc : checkF s with
    | false =>
      have hsys := sys_c s hs
      simp only [hc, Bool.false_and, if_false, if_true, Bool.false_eq_true, eq_self] at hh hsys ⊢
      refine call_keep hh rfl ?_
      simp +contextual only [go_sem, Int.reduceBEq, Int.reduceBNe, Int.reduceLT, Int.reduceLE, Int.reduceEq, Int.reduceNe, List.range_zero, Option.isSome_some, Nat.reducePow, and_self, List.cons.injEq, Nat.reduceEqDiff, Nat.reduceAdd, Nat.reduceSub, Nat.reduceMul, Nat.reduceLeDiff, Nat.reduceBEq, Nat.reduceLT, reduceIte, reduceCtorEq]
      refine call_keep hsys rfl ?_
      simp +contextual only [go_sem, Int.reduceBEq, Int.reduceBNe, Int.reduceLT, Int.reduceLE, Int.reduceEq, Int.reduceNe, List.range_zero, Option.isSome_some, Nat.reducePow, and_self, List.cons.injEq, Nat.reduceEqDiff, Nat.reduceAdd, Nat.reduceSub, Nat.reduceMul, Nat.reduceLeDiff, Nat.reduceBEq, Nat.reduceLT, reduceIte, reduceCtorEq]
      refine call_keep works rfl ?_
      simp +contextual only [go_sem, Int.reduceBEq, Int.reduceBNe, Int.reduceLT, Int.reduceLE, Int.reduceEq, Int.reduceNe, List.range_zero, Option.isSome_some, Nat.reducePow, and_self, List.cons.injEq, Nat.reduceEqDiff, Nat.reduceAdd, Nat.reduceSub, Nat.reduceMul, Nat.reduceLeDiff, Nat.reduceBEq, Nat.reduceLT, reduceIte, reduceCtorEq]
    | true =>
      have hsys := sys_c s hs
      simp only [hc, Bool.true_and, if_false, if_true, Bool.false_eq_true, eq_self] at hh hsys ⊢
      cases hpt : pointF s p with
      | false =>
        have hpp := point'_c s p hp
        simp only [hpt, if_false, if_true, Bool.false_eq_true, eq_self] at hh hpp ⊢
        refine call_keep hh rfl ?_
        simp +contextual only [go_sem, Int.reduceBEq, Int.reduceBNe, Int.reduceLT, Int.reduceLE, Int.reduceEq, Int.reduceNe, List.range_zero, Option.isSome_some, Nat.reducePow, and_self, List.cons.injEq, Nat.reduceEqDiff, Nat.reduceAdd, Nat.reduceSub, Nat.reduceMul, Nat.reduceLeDiff, Nat.reduceBEq, Nat.reduceLT, reduceIte, reduceCtorEq]
        refine call_keep hsys rfl ?_
        simp +contextual only [go_sem, Int.reduceBEq, Int.reduceBNe, Int.reduceLT, Int.reduceLE, Int.reduceEq, Int.reduceNe, List.range_zero, Option.isSome_some, Nat.reducePow, and_self, List.cons.injEq, Nat.reduceEqDiff, Nat.reduceAdd, Nat.reduceSub, Nat.reduceMul, Nat.reduceLeDiff, Nat.reduceBEq, Nat.reduceLT, reduceIte, reduceCtorEq]
        refine call_keep hpp rfl ?_
        simp +contextual only [go_sem, Int.reduceBEq, Int.reduceBNe, Int.reduceLT, Int.reduceLE, Int.reduceEq, Int.reduceNe, List.range_zero, Option.isSome_some, Nat.reducePow, and_self, List.cons.injEq, Nat.reduceEqDiff, Nat.reduceAdd, Nat.reduceSub, Nat.reduceMul, Nat.reduceLeDiff, Nat.reduceBEq, Nat.reduceLT, reduceIte, reduceCtorEq]
        refine call_keep works rfl ?_
        simp +contextual only [go_sem, Int.reduceBEq, Int.reduceBNe, Int.reduceLT, Int.reduceLE, Int.reduceEq, Int.reduceNe, List.range_zero, Option.isSome_some, Nat.reducePow, and_self, List.cons.injEq, Nat.reduceEqDiff, Nat.reduceAdd, Nat.reduceSub, Nat.reduceMul, Nat.reduceLeDiff, Nat.reduceBEq, Nat.reduceLT, reduceIte, reduceCtorEq]
      | true =>
        have hpp := point'_c s p hp
        simp only [hpt, if_false, if_true, Bool.false_eq_true, eq_self] at hh hpp ⊢
        obtain ⟨f1, f2⟩ := fit_c s p hc hpt
        refine call_keep hh rfl ?_
        simp +contextual only [go_sem, Int.reduceBEq, Int.reduceBNe, Int.reduceLT, Int.reduceLE, Int.reduceEq, Int.reduceNe, List.range_zero, Option.isSome_some, Nat.reducePow, and_self, List.cons.injEq, Nat.reduceEqDiff, Nat.reduceAdd, Nat.reduceSub, Nat.reduceMul, Nat.reduceLeDiff, Nat.reduceBEq, Nat.reduceLT, reduceIte, reduceCtorEq]
        refine call_keep hsys rfl ?_
        simp +contextual only [go_sem, Int.reduceBEq, Int.reduceBNe, Int.reduceLT, Int.reduceLE, Int.reduceEq, Int.reduceNe, List.range_zero, Option.isSome_some, Nat.reducePow, and_self, List.cons.injEq, Nat.reduceEqDiff, Nat.reduceAdd, Nat.reduceSub, Nat.reduceMul, Nat.reduceLeDiff, Nat.reduceBEq, Nat.reduceLT, reduceIte, reduceCtorEq]
        refine call_keep hpp rfl ?_
        simp +contextual only [go_sem, Int.reduceBEq, Int.reduceBNe, Int.reduceLT, Int.reduceLE, Int.reduceEq, Int.reduceNe, List.range_zero, Option.isSome_some, Nat.reducePow, and_self, List.cons.injEq, Nat.reduceEqDiff, Nat.reduceAdd, Nat.reduceSub, Nat.reduceMul, Nat.reduceLeDiff, Nat.reduceBEq, Nat.reduceLT, reduceIte, reduceCtorEq]
        refine call_keep (holds'_c s p hs.rows f1 f2) rfl ?_
        simp +contextual only [go_sem, Int.reduceBEq, Int.reduceBNe, Int.reduceLT, Int.reduceLE, Int.reduceEq, Int.reduceNe, List.range_zero, Option.isSome_some, Nat.reducePow, and_self, List.cons.injEq, Nat.reduceEqDiff, Nat.reduceAdd, Nat.reduceSub, Nat.reduceMul, Nat.reduceLeDiff, Nat.reduceBEq, Nat.reduceLT, reduceIte, reduceCtorEq]
        refine call_keep works rfl ?_
        simp +contextual only [go_sem, Int.reduceBEq, Int.reduceBNe, Int.reduceLT, Int.reduceLE, Int.reduceEq, Int.reduceNe, List.range_zero, Option.isSome_some, Nat.reducePow, and_self, List.cons.injEq, Nat.reduceEqDiff, Nat.reduceAdd, Nat.reduceSub, Nat.reduceMul, Nat.reduceLeDiff, Nat.reduceBEq, Nat.reduceLT, reduceIte, reduceCtorEq]
theorem maxLen_le : maxLen ≤ 9223372036854775807 := by decide
theorem int3 {x : D} (h : D.hasT Try.prog x 3) : ∃ n : Int, x = .i n ∧ True := by
  obtain ⟨n, h, _⟩ := hasT_int undT_3 h
  exact ⟨n, h, trivial⟩
theorem int43 {x : D} (h : D.hasT Try.prog x 43) : ∃ n : Int, x = .i n ∧ True := by
  obtain ⟨n, h, _⟩ := hasT_int undT_43 h
  exact ⟨n, h, trivial⟩
theorem ints42 {x : D} (h : D.hasT Try.prog x 42) : ∃ l : List Int, x = .sl (l.map .i) ∧ l.length ≤ 9223372036854775807 := by
  obtain ⟨es, rfl, h1, h2⟩ := hasT_sl undT_42 h
  obtain ⟨l, rfl, _⟩ := allT_map (fun x h => int3 h) es h2
  exact ⟨l, rfl, by have := maxLen_le; simp at h1; omega⟩
theorem row45 {x : D} (h : D.hasT Try.prog x 45) : ∃ r : Row, x = r.d ∧ r.c.length ≤ 9223372036854775807 := by
  obtain ⟨cs, rfl, hh⟩ := hasT_agg (by kernel_rfl) (ls := [42, 43, 3]) (by kernel_rfl) h
  clear h; have h := hh; clear hh
  obtain ⟨a, cs, rfl, ha, h⟩ := hasTs_cons h
  obtain ⟨b, cs, rfl, hb, h⟩ := hasTs_cons h
  obtain ⟨c, cs, rfl, hc, h⟩ := hasTs_cons h
  have := hasTs_nil h; subst this
  obtain ⟨l, rfl, hl⟩ := ints42 ha
  obtain ⟨n, rfl, _⟩ := int43 hb
  obtain ⟨m, rfl, _⟩ := int3 hc
  exact ⟨⟨l, n, m⟩, rfl, hl⟩
theorem rat68 {x : D} (h : D.hasT Try.prog x 68) : ∃ r : Rat, x = r.d ∧ True := by
  obtain ⟨cs, rfl, hh⟩ := hasT_agg (by kernel_rfl) (ls := [3, 3]) (by kernel_rfl) h
  clear h; have h := hh; clear hh
  obtain ⟨a, cs, rfl, ha, h⟩ := hasTs_cons h
  obtain ⟨b, cs, rfl, hb, h⟩ := hasTs_cons h
  have := hasTs_nil h; subst this
  obtain ⟨n, rfl, _⟩ := int3 ha
  obtain ⟨m, rfl, _⟩ := int3 hb
  exact ⟨⟨n, m⟩, rfl, trivial⟩
theorem sys24 {x : D} (h : D.hasT Try.prog x 24) : ∃ s : Sys, x = s.d ∧ s.Fits := by
  obtain ⟨cs, rfl, hh⟩ := hasT_agg (by kernel_rfl) (ls := [3, 22]) (by kernel_rfl) h
  clear h; have h := hh; clear hh
  obtain ⟨a, cs, rfl, ha, h⟩ := hasTs_cons h
  obtain ⟨b, cs, rfl, hb, h⟩ := hasTs_cons h
  have := hasTs_nil h; subst this
  obtain ⟨n, rfl, _⟩ := int3 ha
  obtain ⟨es, rfl, h1, h2⟩ := hasT_sl undT_22 hb
  obtain ⟨l, rfl, hl⟩ := allT_map (fun x h => row45 h) es h2
  exact ⟨⟨n, l⟩, rfl, ⟨by have := maxLen_le; simp at h1; simp only; omega, hl⟩⟩
theorem rats25 {x : D} (h : D.hasT Try.prog x 25) : ∃ l : List Rat, x = .sl (l.map Rat.d) ∧ l.length ≤ 9223372036854775807 := by
  obtain ⟨es, rfl, h1, h2⟩ := hasT_sl undT_25 h
  obtain ⟨l, rfl, _⟩ := allT_map (fun x h => rat68 h) es h2
  exact ⟨l, rfl, by have := maxLen_le; simp at h1; omega⟩
set_option maxRecDepth 100000 in
theorem linearRows_lifted (os : Os) (started : os.Started) (H : Type) (enc : TypeId × Value → H) :
    ReturnsInHanded {} Try.checked os 3 .any (Rows.linearRowsSpec.pre6 enc Try.prog Try.f3 Rows.linearRowsRow.domain false) (Rows.linearRowsSpec.post enc Try.prog Try.f3 Rows.linearRowsRow.apart Rows.linearRowsRow.fresh Rows.linearRowsRow.handsOn Rows.linearRowsRow.again) := by
  refine returnsInHanded_of_change (C := Try.checked) (by kernel_rfl) started (by kernel_rfl) Try.func3
    (ChangeSpec.witness6 (enc := enc) (C := Try.checked) false ⟨#[], #[.agg #[.int .i64 0, .slice none 0 0], .slice none 0 0], []⟩ 8 (by kernel_rfl) (by kernel_rfl) (by kernel_rfl) (by kernel_rfl)) ?_
  intro W base args ds gs before hval hW _ _
  refine law_contract (T := [24, 25, 22, 45, 42, 68, 3, 43]) (tb := 4) (by kernel_rfl) (by kernel_rfl) rfl (fun ds h => by match ds, h with | [_, _], _ => rfl) (by kernel_rfl) (by intro t ht; rw [Try.params3] at ht; simp at ht; rcases ht with rfl | rfl <;> simp) (by kernel_rfl) (by intro t ht; rw [Try.params3] at ht; simp at ht; rcases ht with rfl | rfl <;> exact ⟨by kernel_rfl, of_decide_eq_true (by kernel_rfl)⟩)
    (fun xs hx => ?_) base args ds gs before hval hW
  rw [Try.params3] at hx
  obtain ⟨x, xs, rfl, hx1, hx⟩ := hasTs_cons hx
  obtain ⟨y, xs, rfl, hy1, hx⟩ := hasTs_cons hx
  have := hasTs_nil hx; subst this
  obtain ⟨s, rfl, hs⟩ := sys24 hx1
  obtain ⟨p, rfl, hp⟩ := rats25 hy1
  exact linearRows_c s p hs hp
theorem linearRows_holds : Rows.LinearRowsSaid :=
  OpenClaim.holds_of_wide 3 Try.f3 rfl rfl rfl rfl rfl rfl rfl ⟨rfl, rfl, rfl, rfl, rfl⟩ rfl rfl rfl rfl rfl (by kernel_rfl) Try.func3 (by kernel_rfl)
    (of_decide_eq_true (by kernel_rfl)) (by unfold Func.isWrapper; first | (rw [if_pos (by decide +kernel)]; kernel_rfl) | (rw [if_neg (by decide +kernel)]; exact ⟨rfl, rfl⟩))
    (fun os started H enc _ => linearRows_lifted os started H enc)
#print axioms linearRows_holds
end Go.Proofs.Ytaafchgfibbmhaa
