/-
  A PART OF THE PROOF (put together by program): several texts, one behind the other. Conditions: none.
-/
import Derived.Test.YtaafchgfibbmhaaStagesPk34
set_option linter.unusedSimpArgs false
set_option linter.unusedVariables false
namespace Go.Proofs.Ytaafchgfibbmhaa
def stayR (l : List Made) (m : Made) (j : Nat) : Bool := !goneF m.r && !((l.take j).any fun x => rowEq x.r m.r)
def keptR (l : List Made) : Nat → List Made
  | 0 => []
  | k + 1 => match l[k]? with
    | some m => if stayR l m k = true then keptR l k ++ [m] else keptR l k
    | none => keptR l k
theorem keptR_len (l : List Made) : ∀ k, (keptR l k).length ≤ k
  | 0 => Nat.le_refl _
  | k + 1 => by
    have := keptR_len l k
    simp only [keptR]
    split
    · split
      · simp; omega
      · omega
    · omega
theorem stayR_succ {l : List Made} {m x : Made} {j : Nat} (h : l[j]? = some x) : stayR l m (j + 1) = (stayR l m j && !rowEq x.r m.r) := by
  simp only [stayR, List.take_add_one, h, Option.toList_some, List.any_append, List.any_cons, List.any_nil, Bool.or_false, Bool.not_or, Bool.and_assoc]
theorem kept_c (l : List Made) (hl : l.length ≤ 1002000) (hc : ∀ m ∈ l, m.r.c.length ≤ 5) : PCt Try.prog 97 [stD l] (.ret [stD (keptR l l.length)]) := by
  refine PCt.of_ev mix fn97 (by simp) ?_
  rw [c97]
  simp +contextual only [go_sem, Int.reduceBEq, Int.reduceBNe, Int.reduceLT, Int.reduceLE, Int.reduceEq, Int.reduceNe, List.range_zero, Option.isSome_some, Nat.reducePow, and_self, List.cons.injEq, Nat.reduceEqDiff, Nat.reduceAdd, Nat.reduceSub, Nat.reduceMul, Nat.reduceLeDiff, Nat.reduceBEq, Nat.reduceLT, reduceIte, reduceCtorEq, stD]
  refine loop_fam (fun k : Nat => ⟨envJ [.d (stD l), .junk, .junk, .osl 0 0, .d (.i k)], upd (fun _ => .no) 0 (.arr 0 47 4 ((keptR l k).map Made.d)), 0 + 1⟩)
    (fun k => k ≤ l.length) (fun k => l.length - k) 0 (Nat.zero_le _) (SLe.grow _ .nils (Nat.zero_le _) (by omega) Good.nil (fun _ _ => rfl) (.inl ⟨rfl, rfl, by decide⟩) ?_) (fun k hk => ?_)
  · repeat (first | exact growE_nil | refine growE_junk ?_ | refine growE_x rfl ?_ | refine growE_d rfl ?_ | refine growE_d (d_int (wrapN (by omega))) ?_ | refine growE_v rfl (by simp [V.refs] <;> omega) ?_)
  simp +contextual only [go_sem, Int.reduceBEq, Int.reduceBNe, Int.reduceLT, Int.reduceLE, Int.reduceEq, Int.reduceNe, List.range_zero, Option.isSome_some, Nat.reducePow, and_self, List.cons.injEq, Nat.reduceEqDiff, Nat.reduceAdd, Nat.reduceSub, Nat.reduceMul, Nat.reduceLeDiff, Nat.reduceBEq, Nat.reduceLT, reduceIte, reduceCtorEq, stD]
  refine cond_intro (fun h2 => ?_) (fun h2 => ?_)
  · simp at h2
    obtain ⟨m, hm⟩ : ∃ m, l[k]? = some m := ⟨l[k], List.getElem?_eq_getElem _⟩
    have hmc := hc m (List.mem_of_getElem? hm)
    have hkl := keptR_len l k
    have h8f : (keptR l k).length ≤ 140737488355327 := by omega
    have h8g : ((keptR l k).length + 1) * 64 ≤ 140737488355328 := by omega
    simp +contextual only [go_sem, Int.reduceBEq, Int.reduceBNe, Int.reduceLT, Int.reduceLE, Int.reduceEq, Int.reduceNe, List.range_zero, Option.isSome_some, Nat.reducePow, and_self, List.cons.injEq, Nat.reduceEqDiff, Nat.reduceAdd, Nat.reduceSub, Nat.reduceMul, Nat.reduceLeDiff, Nat.reduceBEq, Nat.reduceLT, reduceIte, reduceCtorEq, stD, hm, Made.d, Row.d, if_true, if_false]
    have hee := emptyR_eq (r := m.r) hmc
    have hgo : goneF m.r = (emptyR m.r && relF 0 m.r.rel m.r.b) := by rw [goneF, hee]
    refine call_keep (empty'_c m.r (by omega)) rfl ?_
    cases he : emptyR m.r with
    | false =>
      simp +contextual only [go_sem, Int.reduceBEq, Int.reduceBNe, Int.reduceLT, Int.reduceLE, Int.reduceEq, Int.reduceNe, List.range_zero, Option.isSome_some, Nat.reducePow, and_self, List.cons.injEq, Nat.reduceEqDiff, Nat.reduceAdd, Nat.reduceSub, Nat.reduceMul, Nat.reduceLeDiff, Nat.reduceBEq, Nat.reduceLT, reduceIte, reduceCtorEq, stD, hm, Made.d, Row.d, if_true, if_false]
      have h0 : D.bool true = D.bool (stayR l m 0) := by simp [stayR, hgo, he]
      rw [h0]
      refine loop_fam (fun j : Nat => ⟨envJ [.d (stD l), .junk, .junk, .osl 0 0, .d (.i k), .d (.bool (stayR l m j)), .d (.i j)], upd (fun _ => .no) 0 (.arr 0 47 4 ((keptR l k).map Made.d)), 0 + 1⟩)
        (fun j => j ≤ k) (fun j => k - j) 0 (Nat.zero_le _) (SLe.backL _ (by omega) (by omega) ((Good.nil (nx := 1)).upd (by omega) rfl) (fun j hj => ?_) ?_) (fun j hj => ?_)
      · repeat (first | rfl | rw [upd_same] | rw [upd_ne _ _ _ _ (by omega)])
      · refine backE_d rfl (backE_junk (backE_junk (backE_v rfl (by simp [V.refs]) (backE_d rfl (backE_d rfl (backE_d rfl backE_nil))))))
      simp +contextual only [go_sem, Int.reduceBEq, Int.reduceBNe, Int.reduceLT, Int.reduceLE, Int.reduceEq, Int.reduceNe, List.range_zero, Option.isSome_some, Nat.reducePow, and_self, List.cons.injEq, Nat.reduceEqDiff, Nat.reduceAdd, Nat.reduceSub, Nat.reduceMul, Nat.reduceLeDiff, Nat.reduceBEq, Nat.reduceLT, reduceIte, reduceCtorEq, stD]
      refine cond_intro (fun h3 => ?_) (fun h3 => ?_)
      · simp at h3
        obtain ⟨x, hx⟩ : ∃ x, l[j]? = some x := ⟨l[j]'(by omega), List.getElem?_eq_getElem _⟩
        have hxc := hc x (List.mem_of_getElem? hx)
        have hsucc := stayR_succ (m := m) hx
        cases hst : stayR l m j with
        | false =>
          simp +contextual only [go_sem, Int.reduceBEq, Int.reduceBNe, Int.reduceLT, Int.reduceLE, Int.reduceEq, Int.reduceNe, List.range_zero, Option.isSome_some, Nat.reducePow, and_self, List.cons.injEq, Nat.reduceEqDiff, Nat.reduceAdd, Nat.reduceSub, Nat.reduceMul, Nat.reduceLeDiff, Nat.reduceBEq, Nat.reduceLT, reduceIte, reduceCtorEq, stD]
          refine end_intro (by decide) ?_
          simp +contextual only [go_sem, Int.reduceBEq, Int.reduceBNe, Int.reduceLT, Int.reduceLE, Int.reduceEq, Int.reduceNe, List.range_zero, Option.isSome_some, Nat.reducePow, and_self, List.cons.injEq, Nat.reduceEqDiff, Nat.reduceAdd, Nat.reduceSub, Nat.reduceMul, Nat.reduceLeDiff, Nat.reduceBEq, Nat.reduceLT, reduceIte, reduceCtorEq]
          refine nextS_intro (j + 1) (by omega) (by omega) (SLe.backL _ (by omega) (by omega) ((Good.nil (nx := 1)).upd (by omega) rfl) (fun _ _ => rfl) ?_)
          have hb : stayR l m (j + 1) = false := by rw [hsucc, hst]; rfl
          refine backE_d rfl (backE_junk (backE_junk (backE_v rfl (by simp [V.refs]) (backE_d rfl (backE_d (by rw [hb]; rfl) (backE_d (d_int (wrapN (by omega))) backE_nil))))))
        | true =>
          simp +contextual only [go_sem, Int.reduceBEq, Int.reduceBNe, Int.reduceLT, Int.reduceLE, Int.reduceEq, Int.reduceNe, List.range_zero, Option.isSome_some, Nat.reducePow, and_self, List.cons.injEq, Nat.reduceEqDiff, Nat.reduceAdd, Nat.reduceSub, Nat.reduceMul, Nat.reduceLeDiff, Nat.reduceBEq, Nat.reduceLT, reduceIte, reduceCtorEq, stD, hx, hm, Made.d, Row.d]
          refine callD_keep (sameRow_c x.r m.r (by omega)) rfl ?_
          simp +contextual only [go_sem, Int.reduceBEq, Int.reduceBNe, Int.reduceLT, Int.reduceLE, Int.reduceEq, Int.reduceNe, List.range_zero, Option.isSome_some, Nat.reducePow, and_self, List.cons.injEq, Nat.reduceEqDiff, Nat.reduceAdd, Nat.reduceSub, Nat.reduceMul, Nat.reduceLeDiff, Nat.reduceBEq, Nat.reduceLT, reduceIte, reduceCtorEq]
          refine end_intro (by decide) ?_
          simp +contextual only [go_sem, Int.reduceBEq, Int.reduceBNe, Int.reduceLT, Int.reduceLE, Int.reduceEq, Int.reduceNe, List.range_zero, Option.isSome_some, Nat.reducePow, and_self, List.cons.injEq, Nat.reduceEqDiff, Nat.reduceAdd, Nat.reduceSub, Nat.reduceMul, Nat.reduceLeDiff, Nat.reduceBEq, Nat.reduceLT, reduceIte, reduceCtorEq]
          refine nextS_intro (j + 1) (by omega) (by omega) (SLe.backL _ (by omega) (by omega) ((Good.nil (nx := 1)).upd (by omega) rfl) (fun _ _ => rfl) ?_)
          have hb : stayR l m (j + 1) = !rowEq x.r m.r := by rw [hsucc, hst]; rfl
          refine backE_d rfl (backE_junk (backE_junk (backE_v rfl (by simp [V.refs]) (backE_d rfl (backE_d (by rw [hb]; rfl) (backE_d (d_int (wrapN (by omega))) backE_nil))))))
      · simp +contextual only [go_sem, Int.reduceBEq, Int.reduceBNe, Int.reduceLT, Int.reduceLE, Int.reduceEq, Int.reduceNe, List.range_zero, Option.isSome_some, Nat.reducePow, and_self, List.cons.injEq, Nat.reduceEqDiff, Nat.reduceAdd, Nat.reduceSub, Nat.reduceMul, Nat.reduceLeDiff, Nat.reduceBEq, Nat.reduceLT, reduceIte, reduceCtorEq]
        simp at h3
        have hjk : j = k := by omega
        subst hjk
        refine cond_intro (fun h4 => ?_) (fun h4 => ?_)
        · simp +contextual only [go_sem, Int.reduceBEq, Int.reduceBNe, Int.reduceLT, Int.reduceLE, Int.reduceEq, Int.reduceNe, List.range_zero, Option.isSome_some, Nat.reducePow, and_self, List.cons.injEq, Nat.reduceEqDiff, Nat.reduceAdd, Nat.reduceSub, Nat.reduceMul, Nat.reduceLeDiff, Nat.reduceBEq, Nat.reduceLT, reduceIte, reduceCtorEq, stD, hm, Made.d, Row.d, if_true, if_false, h8f, h8g]
          have hk2 : (keptR l j).map Made.d ++ [m.d] = (keptR l (j + 1)).map Made.d := by simp only [keptR, hm, h4, if_true, List.map_append, List.map_cons, List.map_nil]
          rw [hk2]
          refine nextS_intro (j + 1) (by omega) (by omega) (SLe.grow _ (.osl 0 1) (Nat.zero_le _) (by omega) Good.nil (fun j hj => by omega) (.inr ⟨0, 1, Nat.le_refl _, rfl, ?_⟩) ?_)
          · repeat (first | rfl | rw [upd_same] | rw [upd_ne _ _ _ _ (by omega)])
          · repeat (first | exact growE_nil | refine growE_junk ?_ | refine growE_x rfl ?_ | refine growE_d rfl ?_ | refine growE_d (d_int (wrapN (by omega))) ?_ | refine growE_v rfl (by simp [V.refs] <;> omega) ?_)
        · simp +contextual only [go_sem, Int.reduceBEq, Int.reduceBNe, Int.reduceLT, Int.reduceLE, Int.reduceEq, Int.reduceNe, List.range_zero, Option.isSome_some, Nat.reducePow, and_self, List.cons.injEq, Nat.reduceEqDiff, Nat.reduceAdd, Nat.reduceSub, Nat.reduceMul, Nat.reduceLeDiff, Nat.reduceBEq, Nat.reduceLT, reduceIte, reduceCtorEq, stD, hm, Made.d, Row.d, if_true, if_false, h8f, h8g]
          have hk2 : keptR l j = keptR l (j + 1) := by simp only [keptR, hm, h4, Bool.false_eq_true, if_false]
          rw [hk2]
          refine nextS_intro (j + 1) (by omega) (by omega) (SLe.grow _ (.osl 0 0) (Nat.zero_le _) (by omega) Good.nil (fun j hj => by omega) (.inr ⟨0, 0, Nat.le_refl _, rfl, ?_⟩) ?_)
          · repeat (first | rfl | rw [upd_same] | rw [upd_ne _ _ _ _ (by omega)])
          · repeat (first | exact growE_nil | refine growE_junk ?_ | refine growE_x rfl ?_ | refine growE_d rfl ?_ | refine growE_d (d_int (wrapN (by omega))) ?_ | refine growE_v rfl (by simp [V.refs] <;> omega) ?_)
    | true =>
      simp +contextual only [go_sem, Int.reduceBEq, Int.reduceBNe, Int.reduceLT, Int.reduceLE, Int.reduceEq, Int.reduceNe, List.range_zero, Option.isSome_some, Nat.reducePow, and_self, List.cons.injEq, Nat.reduceEqDiff, Nat.reduceAdd, Nat.reduceSub, Nat.reduceMul, Nat.reduceLeDiff, Nat.reduceBEq, Nat.reduceLT, reduceIte, reduceCtorEq, stD, hm, Made.d, Row.d, if_true, if_false]
      refine call_keep (true'_c m.r) rfl ?_
      simp +contextual only [go_sem, Int.reduceBEq, Int.reduceBNe, Int.reduceLT, Int.reduceLE, Int.reduceEq, Int.reduceNe, List.range_zero, Option.isSome_some, Nat.reducePow, and_self, List.cons.injEq, Nat.reduceEqDiff, Nat.reduceAdd, Nat.reduceSub, Nat.reduceMul, Nat.reduceLeDiff, Nat.reduceBEq, Nat.reduceLT, reduceIte, reduceCtorEq]
      have h0 : (!relF 0 m.r.rel m.r.b) = stayR l m 0 := by simp [stayR, hgo, he]
      rw [h0]
      refine loop_fam (fun j : Nat => ⟨envJ [.d (stD l), .junk, .junk, .osl 0 0, .d (.i k), .d (.bool (stayR l m j)), .d (.i j)], upd (fun _ => .no) 0 (.arr 0 47 4 ((keptR l k).map Made.d)), 0 + 1⟩)
        (fun j => j ≤ k) (fun j => k - j) 0 (Nat.zero_le _) (SLe.backL _ (by omega) (by omega) ((Good.nil (nx := 1)).upd (by omega) rfl) (fun j hj => ?_) ?_) (fun j hj => ?_)
      · repeat (first | rfl | rw [upd_same] | rw [upd_ne _ _ _ _ (by omega)])
      · refine backE_d rfl (backE_junk (backE_junk (backE_v rfl (by simp [V.refs]) (backE_d rfl (backE_d rfl (backE_d rfl backE_nil))))))
      simp +contextual only [go_sem, Int.reduceBEq, Int.reduceBNe, Int.reduceLT, Int.reduceLE, Int.reduceEq, Int.reduceNe, List.range_zero, Option.isSome_some, Nat.reducePow, and_self, List.cons.injEq, Nat.reduceEqDiff, Nat.reduceAdd, Nat.reduceSub, Nat.reduceMul, Nat.reduceLeDiff, Nat.reduceBEq, Nat.reduceLT, reduceIte, reduceCtorEq, stD]
      refine cond_intro (fun h3 => ?_) (fun h3 => ?_)
      · simp at h3
        obtain ⟨x, hx⟩ : ∃ x, l[j]? = some x := ⟨l[j]'(by omega), List.getElem?_eq_getElem _⟩
        have hxc := hc x (List.mem_of_getElem? hx)
        have hsucc := stayR_succ (m := m) hx
        cases hst : stayR l m j with
        | false =>
          simp +contextual only [go_sem, Int.reduceBEq, Int.reduceBNe, Int.reduceLT, Int.reduceLE, Int.reduceEq, Int.reduceNe, List.range_zero, Option.isSome_some, Nat.reducePow, and_self, List.cons.injEq, Nat.reduceEqDiff, Nat.reduceAdd, Nat.reduceSub, Nat.reduceMul, Nat.reduceLeDiff, Nat.reduceBEq, Nat.reduceLT, reduceIte, reduceCtorEq, stD]
          refine end_intro (by decide) ?_
          simp +contextual only [go_sem, Int.reduceBEq, Int.reduceBNe, Int.reduceLT, Int.reduceLE, Int.reduceEq, Int.reduceNe, List.range_zero, Option.isSome_some, Nat.reducePow, and_self, List.cons.injEq, Nat.reduceEqDiff, Nat.reduceAdd, Nat.reduceSub, Nat.reduceMul, Nat.reduceLeDiff, Nat.reduceBEq, Nat.reduceLT, reduceIte, reduceCtorEq]
          refine nextS_intro (j + 1) (by omega) (by omega) (SLe.backL _ (by omega) (by omega) ((Good.nil (nx := 1)).upd (by omega) rfl) (fun _ _ => rfl) ?_)
          have hb : stayR l m (j + 1) = false := by rw [hsucc, hst]; rfl
          refine backE_d rfl (backE_junk (backE_junk (backE_v rfl (by simp [V.refs]) (backE_d rfl (backE_d (by rw [hb]; rfl) (backE_d (d_int (wrapN (by omega))) backE_nil))))))
        | true =>
          simp +contextual only [go_sem, Int.reduceBEq, Int.reduceBNe, Int.reduceLT, Int.reduceLE, Int.reduceEq, Int.reduceNe, List.range_zero, Option.isSome_some, Nat.reducePow, and_self, List.cons.injEq, Nat.reduceEqDiff, Nat.reduceAdd, Nat.reduceSub, Nat.reduceMul, Nat.reduceLeDiff, Nat.reduceBEq, Nat.reduceLT, reduceIte, reduceCtorEq, stD, hx, hm, Made.d, Row.d]
          refine callD_keep (sameRow_c x.r m.r (by omega)) rfl ?_
          simp +contextual only [go_sem, Int.reduceBEq, Int.reduceBNe, Int.reduceLT, Int.reduceLE, Int.reduceEq, Int.reduceNe, List.range_zero, Option.isSome_some, Nat.reducePow, and_self, List.cons.injEq, Nat.reduceEqDiff, Nat.reduceAdd, Nat.reduceSub, Nat.reduceMul, Nat.reduceLeDiff, Nat.reduceBEq, Nat.reduceLT, reduceIte, reduceCtorEq]
          refine end_intro (by decide) ?_
          simp +contextual only [go_sem, Int.reduceBEq, Int.reduceBNe, Int.reduceLT, Int.reduceLE, Int.reduceEq, Int.reduceNe, List.range_zero, Option.isSome_some, Nat.reducePow, and_self, List.cons.injEq, Nat.reduceEqDiff, Nat.reduceAdd, Nat.reduceSub, Nat.reduceMul, Nat.reduceLeDiff, Nat.reduceBEq, Nat.reduceLT, reduceIte, reduceCtorEq]
          refine nextS_intro (j + 1) (by omega) (by omega) (SLe.backL _ (by omega) (by omega) ((Good.nil (nx := 1)).upd (by omega) rfl) (fun _ _ => rfl) ?_)
          have hb : stayR l m (j + 1) = !rowEq x.r m.r := by rw [hsucc, hst]; rfl
          refine backE_d rfl (backE_junk (backE_junk (backE_v rfl (by simp [V.refs]) (backE_d rfl (backE_d (by rw [hb]; rfl) (backE_d (d_int (wrapN (by omega))) backE_nil))))))
      · simp +contextual only [go_sem, Int.reduceBEq, Int.reduceBNe, Int.reduceLT, Int.reduceLE, Int.reduceEq, Int.reduceNe, List.range_zero, Option.isSome_some, Nat.reducePow, and_self, List.cons.injEq, Nat.reduceEqDiff, Nat.reduceAdd, Nat.reduceSub, Nat.reduceMul, Nat.reduceLeDiff, Nat.reduceBEq, Nat.reduceLT, reduceIte, reduceCtorEq]
        simp at h3
        have hjk : j = k := by omega
        subst hjk
        refine cond_intro (fun h4 => ?_) (fun h4 => ?_)
        · simp +contextual only [go_sem, Int.reduceBEq, Int.reduceBNe, Int.reduceLT, Int.reduceLE, Int.reduceEq, Int.reduceNe, List.range_zero, Option.isSome_some, Nat.reducePow, and_self, List.cons.injEq, Nat.reduceEqDiff, Nat.reduceAdd, Nat.reduceSub, Nat.reduceMul, Nat.reduceLeDiff, Nat.reduceBEq, Nat.reduceLT, reduceIte, reduceCtorEq, stD, hm, Made.d, Row.d, if_true, if_false, h8f, h8g]
          have hk2 : (keptR l j).map Made.d ++ [m.d] = (keptR l (j + 1)).map Made.d := by simp only [keptR, hm, h4, if_true, List.map_append, List.map_cons, List.map_nil]
          rw [hk2]
          refine nextS_intro (j + 1) (by omega) (by omega) (SLe.grow _ (.osl 0 1) (Nat.zero_le _) (by omega) Good.nil (fun j hj => by omega) (.inr ⟨0, 1, Nat.le_refl _, rfl, ?_⟩) ?_)
          · repeat (first | rfl | rw [upd_same] | rw [upd_ne _ _ _ _ (by omega)])
          · repeat (first | exact growE_nil | refine growE_junk ?_ | refine growE_x rfl ?_ | refine growE_d rfl ?_ | refine growE_d (d_int (wrapN (by omega))) ?_ | refine growE_v rfl (by simp [V.refs] <;> omega) ?_)
        · simp +contextual only [go_sem, Int.reduceBEq, Int.reduceBNe, Int.reduceLT, Int.reduceLE, Int.reduceEq, Int.reduceNe, List.range_zero, Option.isSome_some, Nat.reducePow, and_self, List.cons.injEq, Nat.reduceEqDiff, Nat.reduceAdd, Nat.reduceSub, Nat.reduceMul, Nat.reduceLeDiff, Nat.reduceBEq, Nat.reduceLT, reduceIte, reduceCtorEq, stD, hm, Made.d, Row.d, if_true, if_false, h8f, h8g]
          have hk2 : keptR l j = keptR l (j + 1) := by simp only [keptR, hm, h4, Bool.false_eq_true, if_false]
          rw [hk2]
          refine nextS_intro (j + 1) (by omega) (by omega) (SLe.grow _ (.osl 0 0) (Nat.zero_le _) (by omega) Good.nil (fun j hj => by omega) (.inr ⟨0, 0, Nat.le_refl _, rfl, ?_⟩) ?_)
          · repeat (first | rfl | rw [upd_same] | rw [upd_ne _ _ _ _ (by omega)])
          · repeat (first | exact growE_nil | refine growE_junk ?_ | refine growE_x rfl ?_ | refine growE_d rfl ?_ | refine growE_d (d_int (wrapN (by omega))) ?_ | refine growE_v rfl (by simp [V.refs] <;> omega) ?_)
  · simp +contextual only [go_sem, Int.reduceBEq, Int.reduceBNe, Int.reduceLT, Int.reduceLE, Int.reduceEq, Int.reduceNe, List.range_zero, Option.isSome_some, Nat.reducePow, and_self, List.cons.injEq, Nat.reduceEqDiff, Nat.reduceAdd, Nat.reduceSub, Nat.reduceMul, Nat.reduceLeDiff, Nat.reduceBEq, Nat.reduceLT, reduceIte, reduceCtorEq]
    simp at h2
    have hks : k = l.length := by omega
    subst hks
    rfl
end Go.Proofs.Ytaafchgfibbmhaa
namespace Go.Proofs.Ytaafchgfibbmhaa
def useV (s : Sys) (e : Made) (v : Nat) (m : Made) : Made := if 0 < e.r.c.getD v 0 then sumM s (e.r.c.getD v 0) m (-m.r.c.getD v 0) e else sumM s (-e.r.c.getD v 0) m (m.r.c.getD v 0) e
def useRone (s : Sys) (e : Made) (v at' i : Nat) (m : Made) : List Made := if i = at' then [] else if m.r.c.getD v 0 = 0 then [m] else [useV s e v m]
def useR (s : Sys) (l : List Made) (e : Made) (v at' : Nat) : Nat → List Made
  | 0 => []
  | k + 1 => useR s l e v at' k ++ (match l[k]? with | some m => useRone s e v at' k m | none => [])
theorem useRone_len {s : Sys} {e : Made} {v at' i : Nat} {m : Made} : (useRone s e v at' i m).length ≤ 1 := by
  unfold useRone
  split
  · simp
  · split <;> simp
theorem useR_len {s : Sys} {l : List Made} {e : Made} {v at' : Nat} : ∀ k, (useR s l e v at' k).length ≤ k
  | 0 => Nat.le_refl _
  | k + 1 => by
    have := useR_len (s := s) (l := l) (e := e) (v := v) (at' := at') k
    simp only [useR, List.length_append]
    split
    · rename_i m _; have := useRone_len (s := s) (e := e) (v := v) (at' := at') (i := k) (m := m); omega
    · simp; omega
theorem using'_c (s : Sys) (l : List Made) (e : Made) (v at' : Nat) (hat : l[at']? = some e) {nv nr : Nat} (hok : ∀ m ∈ l, m.Ok nv nr) (hv : v < nv) (hnv : nv ≤ 5) (hnr : nr ≤ 10) (hsv : s.vars = nv) (hsr : s.rows.length = nr) (hl : l.length ≤ 1000) :
    PCt Try.prog 95 [s.d, stD l, .i v, .i at'] (.ret [stD (useR s l e v at' l.length)]) := by
  have hatl : at' < l.length := (List.getElem?_eq_some_iff.1 hat).1
  have hem := hok e (List.mem_of_getElem? hat)
  have hev : e.r.c[v]? = some (e.r.c.getD v 0) := by
    have := hem.lc
    rw [List.getD_eq_getElem?_getD, List.getElem?_eq_getElem (by omega)]; rfl
  have hec := hem.c _ (List.mem_of_getElem? hev)
  refine PCt.of_ev mix fn95 (by simp) ?_
  rw [c95]
  simp +contextual only [go_sem, Int.reduceBEq, Int.reduceBNe, Int.reduceLT, Int.reduceLE, Int.reduceEq, Int.reduceNe, List.range_zero, Option.isSome_some, Nat.reducePow, and_self, List.cons.injEq, Nat.reduceEqDiff, Nat.reduceAdd, Nat.reduceSub, Nat.reduceMul, Nat.reduceLeDiff, Nat.reduceBEq, Nat.reduceLT, reduceIte, reduceCtorEq, Sys.d, stD, hat, hev, Made.d, Row.d]
  have hg7 : Good (upd s.o 6 (madeRow e)) 7 := (s.o_good.mono (by omega)).upd (by omega) rfl
  refine loop_fam (fun k : Nat => ⟨envJ [.junk, .d (stD l), .d (.i v), .d (.i at'), .ptr 0 0, .junk, .junk, .junk, .junk, .ptr 6 0, .d (.i (e.r.c.getD v 0)), .osl 7 0, .d (.i k)], upd (upd s.o 6 (madeRow e)) 7 (.arr 0 47 4 ((useR s l e v at' k).map Made.d)), 7 + 1⟩)
    (fun k => k ≤ l.length) (fun k => l.length - k) 0 (Nat.zero_le _) (SLe.grow _ .nils (by omega) (by omega) hg7 (fun j hj => ?_) (.inl ⟨rfl, rfl, by decide⟩) ?_) (fun k hk => ?_)
  · rw [upd_upd]
  · repeat (first | exact growE_nil | refine growE_junk ?_ | refine growE_x rfl ?_ | refine growE_d rfl ?_ | refine growE_d (d_int (wrapN (by omega))) ?_ | refine growE_v rfl (by simp [V.refs] <;> omega) ?_)
  simp +contextual only [go_sem, Int.reduceBEq, Int.reduceBNe, Int.reduceLT, Int.reduceLE, Int.reduceEq, Int.reduceNe, List.range_zero, Option.isSome_some, Nat.reducePow, and_self, List.cons.injEq, Nat.reduceEqDiff, Nat.reduceAdd, Nat.reduceSub, Nat.reduceMul, Nat.reduceLeDiff, Nat.reduceBEq, Nat.reduceLT, reduceIte, reduceCtorEq, stD]
  refine cond_intro (fun h2 => ?_) (fun h2 => ?_)
  · simp at h2
    obtain ⟨m, hm⟩ : ∃ m, l[k]? = some m := ⟨l[k], List.getElem?_eq_getElem _⟩
    have hmm := hok m (List.mem_of_getElem? hm)
    have hmv : m.r.c[v]? = some (m.r.c.getD v 0) := by
      have := hmm.lc
      rw [List.getD_eq_getElem?_getD, List.getElem?_eq_getElem (by omega)]; rfl
    have hmc := hmm.c _ (List.mem_of_getElem? hmv)
    have hlenA := useR_len (s := s) (l := l) (e := e) (v := v) (at' := at') k
    have h8f : (useR s l e v at' k).length ≤ 140737488355327 := by omega
    have h8g : ((useR s l e v at' k).length + 1) * 64 ≤ 140737488355328 := by omega
    simp +contextual only [go_sem, Int.reduceBEq, Int.reduceBNe, Int.reduceLT, Int.reduceLE, Int.reduceEq, Int.reduceNe, List.range_zero, Option.isSome_some, Nat.reducePow, and_self, List.cons.injEq, Nat.reduceEqDiff, Nat.reduceAdd, Nat.reduceSub, Nat.reduceMul, Nat.reduceLeDiff, Nat.reduceBEq, Nat.reduceLT, reduceIte, reduceCtorEq, hm, hmv, hat, hev, Sys.d, stD, Made.d, Row.d, if_true, if_false, h8f, h8g]
    refine cond_intro (fun h3 => ?_) (fun h3 => ?_)
    · simp at h3
      simp +contextual only [go_sem, Int.reduceBEq, Int.reduceBNe, Int.reduceLT, Int.reduceLE, Int.reduceEq, Int.reduceNe, List.range_zero, Option.isSome_some, Nat.reducePow, and_self, List.cons.injEq, Nat.reduceEqDiff, Nat.reduceAdd, Nat.reduceSub, Nat.reduceMul, Nat.reduceLeDiff, Nat.reduceBEq, Nat.reduceLT, reduceIte, reduceCtorEq, hm, hmv, hat, hev, Sys.d, stD, Made.d, Row.d, if_true, if_false, h8f, h8g]
      have hu : useRone s e v at' k m = [] := by rw [useRone, if_pos (by omega)]
      have hA2 : useR s l e v at' (k + 1) = useR s l e v at' k := by simp only [useR, hm, hu, List.append_nil]
      rw [← hA2]
      refine nextS_intro (k + 1) (by omega) (by omega) (SLe.grow _ (.osl 7 0) (by omega) (by omega) hg7 (fun j hj => ?_) (.inr ⟨7, 0, by omega, rfl, ?_⟩) ?_)
      · repeat (first | rfl | rw [upd_same] | rw [upd_ne _ _ _ _ (by omega)])
      · repeat (first | rfl | rw [upd_same] | rw [upd_ne _ _ _ _ (by omega)])
      · repeat (first | exact growE_nil | refine growE_junk ?_ | refine growE_x rfl ?_ | refine growE_d rfl ?_ | refine growE_d (d_int (wrapN (by omega))) ?_ | refine growE_v rfl (by simp [V.refs] <;> omega) ?_)
    simp at h3
    have h3' : ¬ (k = at') := by omega
    simp +contextual only [go_sem, Int.reduceBEq, Int.reduceBNe, Int.reduceLT, Int.reduceLE, Int.reduceEq, Int.reduceNe, List.range_zero, Option.isSome_some, Nat.reducePow, and_self, List.cons.injEq, Nat.reduceEqDiff, Nat.reduceAdd, Nat.reduceSub, Nat.reduceMul, Nat.reduceLeDiff, Nat.reduceBEq, Nat.reduceLT, reduceIte, reduceCtorEq, hm, hmv, hat, hev, Sys.d, stD, Made.d, Row.d, if_true, if_false, h8f, h8g]
    refine cond_intro (fun h4 => ?_) (fun h4 => ?_)
    · have h4' : m.r.c.getD v 0 = 0 := by simpa using h4
      simp +contextual only [go_sem, Int.reduceBEq, Int.reduceBNe, Int.reduceLT, Int.reduceLE, Int.reduceEq, Int.reduceNe, List.range_zero, Option.isSome_some, Nat.reducePow, and_self, List.cons.injEq, Nat.reduceEqDiff, Nat.reduceAdd, Nat.reduceSub, Nat.reduceMul, Nat.reduceLeDiff, Nat.reduceBEq, Nat.reduceLT, reduceIte, reduceCtorEq, hm, hmv, hat, hev, Sys.d, stD, Made.d, Row.d, if_true, if_false, h8f, h8g]
      have hu : useRone s e v at' k m = [m] := by rw [useRone, if_neg h3', if_pos h4']
      have hA2 : (useR s l e v at' k).map Made.d ++ [m.d] = (useR s l e v at' (k + 1)).map Made.d := by simp only [useR, hm, hu, List.map_append, List.map_cons, List.map_nil]
      rw [hA2]
      refine nextS_intro (k + 1) (by omega) (by omega) (SLe.grow _ (.osl 7 1) (by omega) (by omega) hg7 (fun j hj => ?_) (.inr ⟨7, 1, by omega, rfl, ?_⟩) ?_)
      · repeat (first | rfl | rw [upd_same] | rw [upd_ne _ _ _ _ (by omega)])
      · repeat (first | rfl | rw [upd_same] | rw [upd_ne _ _ _ _ (by omega)])
      · repeat (first | exact growE_nil | refine growE_junk ?_ | refine growE_x rfl ?_ | refine growE_d rfl ?_ | refine growE_d (d_int (wrapN (by omega))) ?_ | refine growE_v rfl (by simp [V.refs] <;> omega) ?_)
    have h4' : ¬ (m.r.c.getD v 0 = 0) := by simpa using h4
    simp +contextual only [go_sem, Int.reduceBEq, Int.reduceBNe, Int.reduceLT, Int.reduceLE, Int.reduceEq, Int.reduceNe, List.range_zero, Option.isSome_some, Nat.reducePow, and_self, List.cons.injEq, Nat.reduceEqDiff, Nat.reduceAdd, Nat.reduceSub, Nat.reduceMul, Nat.reduceLeDiff, Nat.reduceBEq, Nat.reduceLT, reduceIte, reduceCtorEq, hm, hmv, hat, hev, Sys.d, stD, Made.d, Row.d, if_true, if_false, h8f, h8g]
    refine cond_intro (fun h5 => ?_) (fun h5 => ?_)
    · have h5' : 0 < e.r.c.getD v 0 := by simpa using h5
      simp +contextual only [go_sem, Int.reduceBEq, Int.reduceBNe, Int.reduceLT, Int.reduceLE, Int.reduceEq, Int.reduceNe, List.range_zero, Option.isSome_some, Nat.reducePow, and_self, List.cons.injEq, Nat.reduceEqDiff, Nat.reduceAdd, Nat.reduceSub, Nat.reduceMul, Nat.reduceLeDiff, Nat.reduceBEq, Nat.reduceLT, reduceIte, reduceCtorEq, hm, hmv, hat, hev, Sys.d, stD, Made.d, Row.d, if_true, if_false, h8f, h8g]
      rw [wrap64 (n := -m.r.c.getD v 0) (by omega) (by omega)]
      have hsum := sum'_c s (e.r.c.getD v 0) m (-m.r.c.getD v 0) e hmm hem hnv hnr hsv hsr (by omega) (by omega)
      refine callD_give hsum ?_
      simp +contextual only [go_sem, Int.reduceBEq, Int.reduceBNe, Int.reduceLT, Int.reduceLE, Int.reduceEq, Int.reduceNe, List.range_zero, Option.isSome_some, Nat.reducePow, and_self, List.cons.injEq, Nat.reduceEqDiff, Nat.reduceAdd, Nat.reduceSub, Nat.reduceMul, Nat.reduceLeDiff, Nat.reduceBEq, Nat.reduceLT, reduceIte, reduceCtorEq, hm, hmv, hat, hev, Sys.d, stD, Made.d, Row.d, if_true, if_false, h8f, h8g]
      refine end_intro (by decide) ?_
      simp +contextual only [go_sem, Int.reduceBEq, Int.reduceBNe, Int.reduceLT, Int.reduceLE, Int.reduceEq, Int.reduceNe, List.range_zero, Option.isSome_some, Nat.reducePow, and_self, List.cons.injEq, Nat.reduceEqDiff, Nat.reduceAdd, Nat.reduceSub, Nat.reduceMul, Nat.reduceLeDiff, Nat.reduceBEq, Nat.reduceLT, reduceIte, reduceCtorEq, hm, hmv, hat, hev, Sys.d, stD, Made.d, Row.d, if_true, if_false, h8f, h8g]
      have hu : useRone s e v at' k m = [sumM s (e.r.c.getD v 0) m (-m.r.c.getD v 0) e] := by rw [useRone, if_neg h3', if_neg h4', useV, if_pos h5']
      have hA2 : (useR s l e v at' k).map Made.d ++ [(sumM s (e.r.c.getD v 0) m (-m.r.c.getD v 0) e).d] = (useR s l e v at' (k + 1)).map Made.d := by simp only [useR, hm, hu, List.map_append, List.map_cons, List.map_nil]
      rw [hA2]
      refine nextS_intro (k + 1) (by omega) (by omega) (SLe.grow _ (.osl 7 1) (by omega) (by omega) hg7 (fun j hj => ?_) (.inr ⟨7, 1, by omega, rfl, ?_⟩) ?_)
      · repeat (first | rfl | rw [upd_same] | rw [upd_ne _ _ _ _ (by omega)])
      · repeat (first | rfl | rw [upd_same] | rw [upd_ne _ _ _ _ (by omega)])
      · repeat (first | exact growE_nil | refine growE_junk ?_ | refine growE_x rfl ?_ | refine growE_d rfl ?_ | refine growE_d (d_int (wrapN (by omega))) ?_ | refine growE_v rfl (by simp [V.refs] <;> omega) ?_)
    · have h5' : ¬ (0 < e.r.c.getD v 0) := by simpa using h5
      simp +contextual only [go_sem, Int.reduceBEq, Int.reduceBNe, Int.reduceLT, Int.reduceLE, Int.reduceEq, Int.reduceNe, List.range_zero, Option.isSome_some, Nat.reducePow, and_self, List.cons.injEq, Nat.reduceEqDiff, Nat.reduceAdd, Nat.reduceSub, Nat.reduceMul, Nat.reduceLeDiff, Nat.reduceBEq, Nat.reduceLT, reduceIte, reduceCtorEq, hm, hmv, hat, hev, Sys.d, stD, Made.d, Row.d, if_true, if_false, h8f, h8g]
      rw [wrap64 (n := -e.r.c.getD v 0) (by omega) (by omega)]
      have hsum := sum'_c s (-e.r.c.getD v 0) m (m.r.c.getD v 0) e hmm hem hnv hnr hsv hsr (by omega) (by omega)
      refine callD_give hsum ?_
      simp +contextual only [go_sem, Int.reduceBEq, Int.reduceBNe, Int.reduceLT, Int.reduceLE, Int.reduceEq, Int.reduceNe, List.range_zero, Option.isSome_some, Nat.reducePow, and_self, List.cons.injEq, Nat.reduceEqDiff, Nat.reduceAdd, Nat.reduceSub, Nat.reduceMul, Nat.reduceLeDiff, Nat.reduceBEq, Nat.reduceLT, reduceIte, reduceCtorEq, hm, hmv, hat, hev, Sys.d, stD, Made.d, Row.d, if_true, if_false, h8f, h8g]
      refine end_intro (by decide) ?_
      simp +contextual only [go_sem, Int.reduceBEq, Int.reduceBNe, Int.reduceLT, Int.reduceLE, Int.reduceEq, Int.reduceNe, List.range_zero, Option.isSome_some, Nat.reducePow, and_self, List.cons.injEq, Nat.reduceEqDiff, Nat.reduceAdd, Nat.reduceSub, Nat.reduceMul, Nat.reduceLeDiff, Nat.reduceBEq, Nat.reduceLT, reduceIte, reduceCtorEq, hm, hmv, hat, hev, Sys.d, stD, Made.d, Row.d, if_true, if_false, h8f, h8g]
      have hu : useRone s e v at' k m = [sumM s (-e.r.c.getD v 0) m (m.r.c.getD v 0) e] := by rw [useRone, if_neg h3', if_neg h4', useV, if_neg h5']
      have hA2 : (useR s l e v at' k).map Made.d ++ [(sumM s (-e.r.c.getD v 0) m (m.r.c.getD v 0) e).d] = (useR s l e v at' (k + 1)).map Made.d := by simp only [useR, hm, hu, List.map_append, List.map_cons, List.map_nil]
      rw [hA2]
      refine nextS_intro (k + 1) (by omega) (by omega) (SLe.grow _ (.osl 7 1) (by omega) (by omega) hg7 (fun j hj => ?_) (.inr ⟨7, 1, by omega, rfl, ?_⟩) ?_)
      · repeat (first | rfl | rw [upd_same] | rw [upd_ne _ _ _ _ (by omega)])
      · repeat (first | rfl | rw [upd_same] | rw [upd_ne _ _ _ _ (by omega)])
      · repeat (first | exact growE_nil | refine growE_junk ?_ | refine growE_x rfl ?_ | refine growE_d rfl ?_ | refine growE_d (d_int (wrapN (by omega))) ?_ | refine growE_v rfl (by simp [V.refs] <;> omega) ?_)
  · simp +contextual only [go_sem, Int.reduceBEq, Int.reduceBNe, Int.reduceLT, Int.reduceLE, Int.reduceEq, Int.reduceNe, List.range_zero, Option.isSome_some, Nat.reducePow, and_self, List.cons.injEq, Nat.reduceEqDiff, Nat.reduceAdd, Nat.reduceSub, Nat.reduceMul, Nat.reduceLeDiff, Nat.reduceBEq, Nat.reduceLT, reduceIte, reduceCtorEq]
    simp at h2
    have hks : k = l.length := by omega
    subst hks
    rfl
end Go.Proofs.Ytaafchgfibbmhaa
