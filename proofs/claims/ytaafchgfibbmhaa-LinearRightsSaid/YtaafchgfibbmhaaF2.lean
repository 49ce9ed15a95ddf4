/-
  FUNCTIONS OF LAYER 15: what the program's checks answer. Conditions: as each theorem says.
-/
import Derived.Test.YtaafchgfibbmhaaF1
import Derived.Test.YtaafchgfibbmhaaCoreV
set_option linter.unusedSimpArgs false
set_option linter.unusedVariables false
namespace Go.Proofs.Ytaafchgfibbmhaa
structure Row where
  c : List Int
  rel : Int
  b : Int
structure Rat where
  num : Int
  den : Int
structure Made where
  r : Row
  t : List Int
@[reducible] def Row.d (r : Row) : D := .agg [.sl (r.c.map .i), .i r.rel, .i r.b]
@[reducible] def Rat.d (r : Rat) : D := .agg [.i r.num, .i r.den]
@[reducible] def Made.d (m : Made) : D := .agg [.sl (m.r.c.map .i), .i m.r.rel, .i m.r.b, .sl (m.t.map .i)]
def inB (n low high : Int) : Bool := decide (low ≤ n) && decide (n ≤ high)
theorem every1_c (n most : Int) (id : Nat) (o : Nat → Obj') (ho : o id = .row [.d (.i most)]) (hm : -1000000000000 ≤ most ∧ most ≤ 1000000000000) :
    CtO Try.prog 109 [.d (.i n), .ptr id 0] o (.d (.bool (!inB n (-most) most))) := by
  have hw : IntKind.i64.wrap (-most) = -most := wrap64 (by omega) (by omega)
  intro nx hg K X hK
  refine q109 ?_
  rw [c109]
  simp +contextual only [go_sem, Int.reduceBEq, Int.reduceBNe, Int.reduceLT, Int.reduceLE, Int.reduceEq, Int.reduceNe, List.range_zero, Option.isSome_some, Nat.reducePow, and_self, List.cons.injEq, Nat.reduceEqDiff, Nat.reduceAdd, Nat.reduceSub, Nat.reduceMul, Nat.reduceLeDiff, Nat.reduceBEq, Nat.reduceLT, reduceIte, reduceCtorEq, ho, hw]
  refine call_keep (within_c n (-most) most) rfl ?_
  simp +contextual only [go_sem, Int.reduceBEq, Int.reduceBNe, Int.reduceLT, Int.reduceLE, Int.reduceEq, Int.reduceNe, List.range_zero, Option.isSome_some, Nat.reducePow, and_self, List.cons.injEq, Nat.reduceEqDiff, Nat.reduceAdd, Nat.reduceSub, Nat.reduceMul, Nat.reduceLeDiff, Nat.reduceBEq, Nat.reduceLT, reduceIte, reduceCtorEq]
  exact hK _ _ (by omega) (hg.mono (by omega)) (fun _ _ => rfl)
/-- The first place at which something is so; -1: nowhere. -/
def firstI {α : Type} (l : List α) (p : α → Bool) : Int := match l.findIdx? p with | some k => k | none => -1
theorem firstI_any {α : Type} (l : List α) (p : α → Bool) : decide (0 ≤ firstI l p) = l.any p := by
  unfold firstI
  cases h : l.findIdx? p with
  | none =>
    rw [List.findIdx?_eq_none_iff] at h
    simp
    intro x hx; exact h x hx
  | some k =>
    rw [List.findIdx?_eq_some_iff_getElem] at h
    obtain ⟨h1, h2, _⟩ := h
    simp
    exact ⟨_, List.getElem_mem h1, h2⟩
theorem indexFunc126 (es : List Int) (p : Int → Bool) (g : Nat) (caps : List V) (o : Nat → Obj') (hc : ∀ r ∈ V.refss caps, o r ≠ .no) (hlen : es.length ≤ 9223372036854775807)
    (h : ∀ x ∈ es, CtO Try.prog g (.d (.i x) :: caps) o (.d (.bool (p x)))) : CtO Try.prog 126 [.d (.sl (es.map .i)), .func (.func g) [] caps] o (.d (.i (firstI es p))) := by
  intro nx hg K X hK
  have hcap : ∀ r ∈ V.refss caps, r < nx := fun r hr => hg.lt (hc r hr)
  refine q126 ?_
  rw [c126]
  simp +contextual only [go_sem, Int.reduceBEq, Int.reduceBNe, Int.reduceLT, Int.reduceLE, Int.reduceEq, Int.reduceNe, List.range_zero, Option.isSome_some, Nat.reducePow, and_self, List.cons.injEq, Nat.reduceEqDiff, Nat.reduceAdd, Nat.reduceSub, Nat.reduceMul, Nat.reduceLeDiff, Nat.reduceBEq, Nat.reduceLT, reduceIte, reduceCtorEq]
  refine loop_fam (fun k : Nat => ⟨envJ [.d (.sl (es.map .i)), .func (.func g) [] caps, .junk, .junk, .junk, .junk, .junk, .d (.i es.length), .d (.i k)], o, nx⟩)
    (fun k => k ≤ es.length ∧ ∀ x ∈ es.take k, p x = false) (fun k => es.length - k) 0 ⟨Nat.zero_le _, by simp⟩
    (SLe.backL _ (Nat.le_refl _) (by omega) hg (fun _ _ => rfl) (backE_d rfl (backE_v rfl (by simpa [V.refs, V.refss] using hcap) (backE_junk (backE_junk (backE_junk (backE_junk (backE_junk (backE_d (by simp [upd_ne]) (backE_d (by simp) backE_nil)))))))))) (fun k hk => ?_)
  · simp +contextual only [go_sem, Int.reduceBEq, Int.reduceBNe, Int.reduceLT, Int.reduceLE, Int.reduceEq, Int.reduceNe, List.range_zero, Option.isSome_some, Nat.reducePow, and_self, List.cons.injEq, Nat.reduceEqDiff, Nat.reduceAdd, Nat.reduceSub, Nat.reduceMul, Nat.reduceLeDiff, Nat.reduceBEq, Nat.reduceLT, reduceIte, reduceCtorEq]
    refine cond_intro (fun h1 => ?_) (fun h1 => ?_)
    · simp at h1
      obtain ⟨x, hx⟩ : ∃ x, es[k]? = some x := ⟨es[k], by simp [h1]⟩
      have hxm := List.mem_of_getElem? hx
      simp +contextual only [go_sem, Int.reduceBEq, Int.reduceBNe, Int.reduceLT, Int.reduceLE, Int.reduceEq, Int.reduceNe, List.range_zero, Option.isSome_some, Nat.reducePow, and_self, List.cons.injEq, Nat.reduceEqDiff, Nat.reduceAdd, Nat.reduceSub, Nat.reduceMul, Nat.reduceLeDiff, Nat.reduceBEq, Nat.reduceLT, reduceIte, reduceCtorEq, hx, D.i]
      refine callS'_heap (h x hxm _ (hg.mono ?_) _ _ fun o' nx' n1 n2 n3 => ?_)
      · omega
      simp +contextual only [go_sem, Int.reduceBEq, Int.reduceBNe, Int.reduceLT, Int.reduceLE, Int.reduceEq, Int.reduceNe, List.range_zero, Option.isSome_some, Nat.reducePow, and_self, List.cons.injEq, Nat.reduceEqDiff, Nat.reduceAdd, Nat.reduceSub, Nat.reduceMul, Nat.reduceLeDiff, Nat.reduceBEq, Nat.reduceLT, reduceIte, reduceCtorEq]
      refine cond_intro (fun h2 => ?_) (fun h2 => ?_)
      · simp +contextual only [go_sem, Int.reduceBEq, Int.reduceBNe, Int.reduceLT, Int.reduceLE, Int.reduceEq, Int.reduceNe, List.range_zero, Option.isSome_some, Nat.reducePow, and_self, List.cons.injEq, Nat.reduceEqDiff, Nat.reduceAdd, Nat.reduceSub, Nat.reduceMul, Nat.reduceLeDiff, Nat.reduceBEq, Nat.reduceLT, reduceIte, reduceCtorEq]
        have hf : firstI es p = k := by
          unfold firstI
          have : es.findIdx? p = some k := by
            rw [List.findIdx?_eq_some_iff_getElem]
            refine ⟨h1, ?_, fun j hj => ?_⟩
            · have : es[k] = x := by
                rw [List.getElem?_eq_getElem h1] at hx
                injection hx
              rw [this]; exact h2
            · simp only [Bool.not_eq_true]
              exact hk.2 _ (List.mem_take_iff_getElem.2 ⟨j, by omega, rfl⟩)
          rw [this]
        rw [hf] at hK
        exact hK _ _ (by omega) (n2.mono (by omega)) (fun id hid => n3 id (by omega))
      · simp +contextual only [go_sem, Int.reduceBEq, Int.reduceBNe, Int.reduceLT, Int.reduceLE, Int.reduceEq, Int.reduceNe, List.range_zero, Option.isSome_some, Nat.reducePow, and_self, List.cons.injEq, Nat.reduceEqDiff, Nat.reduceAdd, Nat.reduceSub, Nat.reduceMul, Nat.reduceLeDiff, Nat.reduceBEq, Nat.reduceLT, reduceIte, reduceCtorEq]
        refine nextS_intro (k + 1) ⟨h1, ?_⟩ (by omega) (SLe.backL _ (Nat.le_refl _) (by omega) hg (fun id hid => n3 id (by omega)) (backE_d rfl (backE_v rfl (by simpa [V.refs, V.refss] using hcap) (backE_junk (backE_junk (backE_junk (backE_junk (backE_junk (backE_d (by simp [upd_ne]; rfl) (backE_d ?_ backE_nil))))))))))
        · intro y hy
          rw [List.take_add_one, hx] at hy
          simp only [Option.toList_some, List.mem_append, List.mem_singleton] at hy
          rcases hy with hy | rfl
          · exact hk.2 y hy
          · exact h2
        · simp
          rw [wrap64 (by omega) (by omega)]
    · simp +contextual only [go_sem, Int.reduceBEq, Int.reduceBNe, Int.reduceLT, Int.reduceLE, Int.reduceEq, Int.reduceNe, List.range_zero, Option.isSome_some, Nat.reducePow, and_self, List.cons.injEq, Nat.reduceEqDiff, Nat.reduceAdd, Nat.reduceSub, Nat.reduceMul, Nat.reduceLeDiff, Nat.reduceBEq, Nat.reduceLT, reduceIte, reduceCtorEq]
      simp at h1
      have hf : firstI es p = -1 := by
        unfold firstI
        have : es.findIdx? p = none := by
          rw [List.findIdx?_eq_none_iff]
          intro x hx
          exact hk.2 x (by rw [List.take_of_length_le (by omega)]; exact hx)
        rw [this]
      rw [hf] at hK
      exact hK _ _ (by omega) (hg.mono (by omega)) (fun _ _ => rfl)
theorem containsFunc108 (es : List Int) (p : Int → Bool) (g : Nat) (caps : List V) (o : Nat → Obj') (hc : ∀ r ∈ V.refss caps, o r ≠ .no) (hlen : es.length ≤ 9223372036854775807)
    (h : ∀ x ∈ es, CtO Try.prog g (.d (.i x) :: caps) o (.d (.bool (p x)))) : CtO Try.prog 108 [.d (.sl (es.map .i)), .func (.func g) [] caps] o (.d (.bool (es.any p))) := by
  intro nx hg K X hK
  refine q108 ?_
  rw [c108]
  simp +contextual only [go_sem, Int.reduceBEq, Int.reduceBNe, Int.reduceLT, Int.reduceLE, Int.reduceEq, Int.reduceNe, List.range_zero, Option.isSome_some, Nat.reducePow, and_self, List.cons.injEq, Nat.reduceEqDiff, Nat.reduceAdd, Nat.reduceSub, Nat.reduceMul, Nat.reduceLeDiff, Nat.reduceBEq, Nat.reduceLT, reduceIte, reduceCtorEq]
  refine callR_heap (indexFunc126 es p g caps o hc hlen h _ (hg.mono ?_) _ _ fun o' nx' n1 n2 n3 => ?_)
  · omega
  simp +contextual only [go_sem, Int.reduceBEq, Int.reduceBNe, Int.reduceLT, Int.reduceLE, Int.reduceEq, Int.reduceNe, List.range_zero, Option.isSome_some, Nat.reducePow, and_self, List.cons.injEq, Nat.reduceEqDiff, Nat.reduceAdd, Nat.reduceSub, Nat.reduceMul, Nat.reduceLeDiff, Nat.reduceBEq, Nat.reduceLT, reduceIte, reduceCtorEq]
  rw [firstI_any]
  exact hK _ _ (by omega) (n2.mono (by omega)) (fun id hid => n3 id (by omega))
theorem indexFunc83 (es : List Row) (p : Row → Bool) (g : Nat) (caps : List V) (o : Nat → Obj') (hc : ∀ r ∈ V.refss caps, o r ≠ .no) (hlen : es.length ≤ 9223372036854775807)
    (h : ∀ x ∈ es, CtO Try.prog g (.d (Row.d x) :: caps) o (.d (.bool (p x)))) : CtO Try.prog 83 [.d (.sl (es.map Row.d)), .func (.func g) [] caps] o (.d (.i (firstI es p))) := by
  intro nx hg K X hK
  have hcap : ∀ r ∈ V.refss caps, r < nx := fun r hr => hg.lt (hc r hr)
  refine q83 ?_
  rw [c83]
  simp +contextual only [go_sem, Int.reduceBEq, Int.reduceBNe, Int.reduceLT, Int.reduceLE, Int.reduceEq, Int.reduceNe, List.range_zero, Option.isSome_some, Nat.reducePow, and_self, List.cons.injEq, Nat.reduceEqDiff, Nat.reduceAdd, Nat.reduceSub, Nat.reduceMul, Nat.reduceLeDiff, Nat.reduceBEq, Nat.reduceLT, reduceIte, reduceCtorEq]
  refine loop_fam (fun k : Nat => ⟨envJ [.d (.sl (es.map Row.d)), .func (.func g) [] caps, .junk, .junk, .junk, .junk, .junk, .d (.i es.length), .d (.i k)], o, nx⟩)
    (fun k => k ≤ es.length ∧ ∀ x ∈ es.take k, p x = false) (fun k => es.length - k) 0 ⟨Nat.zero_le _, by simp⟩
    (SLe.backL _ (Nat.le_refl _) (by omega) hg (fun _ _ => rfl) (backE_d rfl (backE_v rfl (by simpa [V.refs, V.refss] using hcap) (backE_junk (backE_junk (backE_junk (backE_junk (backE_junk (backE_d (by simp [upd_ne]) (backE_d (by simp) backE_nil)))))))))) (fun k hk => ?_)
  · simp +contextual only [go_sem, Int.reduceBEq, Int.reduceBNe, Int.reduceLT, Int.reduceLE, Int.reduceEq, Int.reduceNe, List.range_zero, Option.isSome_some, Nat.reducePow, and_self, List.cons.injEq, Nat.reduceEqDiff, Nat.reduceAdd, Nat.reduceSub, Nat.reduceMul, Nat.reduceLeDiff, Nat.reduceBEq, Nat.reduceLT, reduceIte, reduceCtorEq]
    refine cond_intro (fun h1 => ?_) (fun h1 => ?_)
    · simp at h1
      obtain ⟨x, hx⟩ : ∃ x, es[k]? = some x := ⟨es[k], by simp [h1]⟩
      have hxm := List.mem_of_getElem? hx
      simp +contextual only [go_sem, Int.reduceBEq, Int.reduceBNe, Int.reduceLT, Int.reduceLE, Int.reduceEq, Int.reduceNe, List.range_zero, Option.isSome_some, Nat.reducePow, and_self, List.cons.injEq, Nat.reduceEqDiff, Nat.reduceAdd, Nat.reduceSub, Nat.reduceMul, Nat.reduceLeDiff, Nat.reduceBEq, Nat.reduceLT, reduceIte, reduceCtorEq, hx, Row.d, D.i]
      refine callS'_heap (h x hxm _ (hg.mono ?_) _ _ fun o' nx' n1 n2 n3 => ?_)
      · omega
      simp +contextual only [go_sem, Int.reduceBEq, Int.reduceBNe, Int.reduceLT, Int.reduceLE, Int.reduceEq, Int.reduceNe, List.range_zero, Option.isSome_some, Nat.reducePow, and_self, List.cons.injEq, Nat.reduceEqDiff, Nat.reduceAdd, Nat.reduceSub, Nat.reduceMul, Nat.reduceLeDiff, Nat.reduceBEq, Nat.reduceLT, reduceIte, reduceCtorEq]
      refine cond_intro (fun h2 => ?_) (fun h2 => ?_)
      · simp +contextual only [go_sem, Int.reduceBEq, Int.reduceBNe, Int.reduceLT, Int.reduceLE, Int.reduceEq, Int.reduceNe, List.range_zero, Option.isSome_some, Nat.reducePow, and_self, List.cons.injEq, Nat.reduceEqDiff, Nat.reduceAdd, Nat.reduceSub, Nat.reduceMul, Nat.reduceLeDiff, Nat.reduceBEq, Nat.reduceLT, reduceIte, reduceCtorEq]
        have hf : firstI es p = k := by
          unfold firstI
          have : es.findIdx? p = some k := by
            rw [List.findIdx?_eq_some_iff_getElem]
            refine ⟨h1, ?_, fun j hj => ?_⟩
            · have : es[k] = x := by
                rw [List.getElem?_eq_getElem h1] at hx
                injection hx
              rw [this]; exact h2
            · simp only [Bool.not_eq_true]
              exact hk.2 _ (List.mem_take_iff_getElem.2 ⟨j, by omega, rfl⟩)
          rw [this]
        rw [hf] at hK
        exact hK _ _ (by omega) (n2.mono (by omega)) (fun id hid => n3 id (by omega))
      · simp +contextual only [go_sem, Int.reduceBEq, Int.reduceBNe, Int.reduceLT, Int.reduceLE, Int.reduceEq, Int.reduceNe, List.range_zero, Option.isSome_some, Nat.reducePow, and_self, List.cons.injEq, Nat.reduceEqDiff, Nat.reduceAdd, Nat.reduceSub, Nat.reduceMul, Nat.reduceLeDiff, Nat.reduceBEq, Nat.reduceLT, reduceIte, reduceCtorEq]
        refine nextS_intro (k + 1) ⟨h1, ?_⟩ (by omega) (SLe.backL _ (Nat.le_refl _) (by omega) hg (fun id hid => n3 id (by omega)) (backE_d rfl (backE_v rfl (by simpa [V.refs, V.refss] using hcap) (backE_junk (backE_junk (backE_junk (backE_junk (backE_junk (backE_d (by simp [upd_ne]; rfl) (backE_d ?_ backE_nil))))))))))
        · intro y hy
          rw [List.take_add_one, hx] at hy
          simp only [Option.toList_some, List.mem_append, List.mem_singleton] at hy
          rcases hy with hy | rfl
          · exact hk.2 y hy
          · exact h2
        · simp
          rw [wrap64 (by omega) (by omega)]
    · simp +contextual only [go_sem, Int.reduceBEq, Int.reduceBNe, Int.reduceLT, Int.reduceLE, Int.reduceEq, Int.reduceNe, List.range_zero, Option.isSome_some, Nat.reducePow, and_self, List.cons.injEq, Nat.reduceEqDiff, Nat.reduceAdd, Nat.reduceSub, Nat.reduceMul, Nat.reduceLeDiff, Nat.reduceBEq, Nat.reduceLT, reduceIte, reduceCtorEq]
      simp at h1
      have hf : firstI es p = -1 := by
        unfold firstI
        have : es.findIdx? p = none := by
          rw [List.findIdx?_eq_none_iff]
          intro x hx
          exact hk.2 x (by rw [List.take_of_length_le (by omega)]; exact hx)
        rw [this]
      rw [hf] at hK
      exact hK _ _ (by omega) (hg.mono (by omega)) (fun _ _ => rfl)
theorem containsFunc50 (es : List Row) (p : Row → Bool) (g : Nat) (caps : List V) (o : Nat → Obj') (hc : ∀ r ∈ V.refss caps, o r ≠ .no) (hlen : es.length ≤ 9223372036854775807)
    (h : ∀ x ∈ es, CtO Try.prog g (.d (Row.d x) :: caps) o (.d (.bool (p x)))) : CtO Try.prog 50 [.d (.sl (es.map Row.d)), .func (.func g) [] caps] o (.d (.bool (es.any p))) := by
  intro nx hg K X hK
  refine q50 ?_
  rw [c50]
  simp +contextual only [go_sem, Int.reduceBEq, Int.reduceBNe, Int.reduceLT, Int.reduceLE, Int.reduceEq, Int.reduceNe, List.range_zero, Option.isSome_some, Nat.reducePow, and_self, List.cons.injEq, Nat.reduceEqDiff, Nat.reduceAdd, Nat.reduceSub, Nat.reduceMul, Nat.reduceLeDiff, Nat.reduceBEq, Nat.reduceLT, reduceIte, reduceCtorEq]
  refine callR_heap (indexFunc83 es p g caps o hc hlen h _ (hg.mono ?_) _ _ fun o' nx' n1 n2 n3 => ?_)
  · omega
  simp +contextual only [go_sem, Int.reduceBEq, Int.reduceBNe, Int.reduceLT, Int.reduceLE, Int.reduceEq, Int.reduceNe, List.range_zero, Option.isSome_some, Nat.reducePow, and_self, List.cons.injEq, Nat.reduceEqDiff, Nat.reduceAdd, Nat.reduceSub, Nat.reduceMul, Nat.reduceLeDiff, Nat.reduceBEq, Nat.reduceLT, reduceIte, reduceCtorEq]
  rw [firstI_any]
  exact hK _ _ (by omega) (n2.mono (by omega)) (fun id hid => n3 id (by omega))
theorem indexFunc82 (es : List Rat) (p : Rat → Bool) (g : Nat) (caps : List V) (o : Nat → Obj') (hc : ∀ r ∈ V.refss caps, o r ≠ .no) (hlen : es.length ≤ 9223372036854775807)
    (h : ∀ x ∈ es, CtO Try.prog g (.d (Rat.d x) :: caps) o (.d (.bool (p x)))) : CtO Try.prog 82 [.d (.sl (es.map Rat.d)), .func (.func g) [] caps] o (.d (.i (firstI es p))) := by
  intro nx hg K X hK
  have hcap : ∀ r ∈ V.refss caps, r < nx := fun r hr => hg.lt (hc r hr)
  refine q82 ?_
  rw [c82]
  simp +contextual only [go_sem, Int.reduceBEq, Int.reduceBNe, Int.reduceLT, Int.reduceLE, Int.reduceEq, Int.reduceNe, List.range_zero, Option.isSome_some, Nat.reducePow, and_self, List.cons.injEq, Nat.reduceEqDiff, Nat.reduceAdd, Nat.reduceSub, Nat.reduceMul, Nat.reduceLeDiff, Nat.reduceBEq, Nat.reduceLT, reduceIte, reduceCtorEq]
  refine loop_fam (fun k : Nat => ⟨envJ [.d (.sl (es.map Rat.d)), .func (.func g) [] caps, .junk, .junk, .junk, .junk, .junk, .d (.i es.length), .d (.i k)], o, nx⟩)
    (fun k => k ≤ es.length ∧ ∀ x ∈ es.take k, p x = false) (fun k => es.length - k) 0 ⟨Nat.zero_le _, by simp⟩
    (SLe.backL _ (Nat.le_refl _) (by omega) hg (fun _ _ => rfl) (backE_d rfl (backE_v rfl (by simpa [V.refs, V.refss] using hcap) (backE_junk (backE_junk (backE_junk (backE_junk (backE_junk (backE_d (by simp [upd_ne]) (backE_d (by simp) backE_nil)))))))))) (fun k hk => ?_)
  · simp +contextual only [go_sem, Int.reduceBEq, Int.reduceBNe, Int.reduceLT, Int.reduceLE, Int.reduceEq, Int.reduceNe, List.range_zero, Option.isSome_some, Nat.reducePow, and_self, List.cons.injEq, Nat.reduceEqDiff, Nat.reduceAdd, Nat.reduceSub, Nat.reduceMul, Nat.reduceLeDiff, Nat.reduceBEq, Nat.reduceLT, reduceIte, reduceCtorEq]
    refine cond_intro (fun h1 => ?_) (fun h1 => ?_)
    · simp at h1
      obtain ⟨x, hx⟩ : ∃ x, es[k]? = some x := ⟨es[k], by simp [h1]⟩
      have hxm := List.mem_of_getElem? hx
      simp +contextual only [go_sem, Int.reduceBEq, Int.reduceBNe, Int.reduceLT, Int.reduceLE, Int.reduceEq, Int.reduceNe, List.range_zero, Option.isSome_some, Nat.reducePow, and_self, List.cons.injEq, Nat.reduceEqDiff, Nat.reduceAdd, Nat.reduceSub, Nat.reduceMul, Nat.reduceLeDiff, Nat.reduceBEq, Nat.reduceLT, reduceIte, reduceCtorEq, hx, Rat.d, D.i]
      refine callS'_heap (h x hxm _ (hg.mono ?_) _ _ fun o' nx' n1 n2 n3 => ?_)
      · omega
      simp +contextual only [go_sem, Int.reduceBEq, Int.reduceBNe, Int.reduceLT, Int.reduceLE, Int.reduceEq, Int.reduceNe, List.range_zero, Option.isSome_some, Nat.reducePow, and_self, List.cons.injEq, Nat.reduceEqDiff, Nat.reduceAdd, Nat.reduceSub, Nat.reduceMul, Nat.reduceLeDiff, Nat.reduceBEq, Nat.reduceLT, reduceIte, reduceCtorEq]
      refine cond_intro (fun h2 => ?_) (fun h2 => ?_)
      · simp +contextual only [go_sem, Int.reduceBEq, Int.reduceBNe, Int.reduceLT, Int.reduceLE, Int.reduceEq, Int.reduceNe, List.range_zero, Option.isSome_some, Nat.reducePow, and_self, List.cons.injEq, Nat.reduceEqDiff, Nat.reduceAdd, Nat.reduceSub, Nat.reduceMul, Nat.reduceLeDiff, Nat.reduceBEq, Nat.reduceLT, reduceIte, reduceCtorEq]
        have hf : firstI es p = k := by
          unfold firstI
          have : es.findIdx? p = some k := by
            rw [List.findIdx?_eq_some_iff_getElem]
            refine ⟨h1, ?_, fun j hj => ?_⟩
            · have : es[k] = x := by
                rw [List.getElem?_eq_getElem h1] at hx
                injection hx
              rw [this]; exact h2
            · simp only [Bool.not_eq_true]
              exact hk.2 _ (List.mem_take_iff_getElem.2 ⟨j, by omega, rfl⟩)
          rw [this]
        rw [hf] at hK
        exact hK _ _ (by omega) (n2.mono (by omega)) (fun id hid => n3 id (by omega))
      · simp +contextual only [go_sem, Int.reduceBEq, Int.reduceBNe, Int.reduceLT, Int.reduceLE, Int.reduceEq, Int.reduceNe, List.range_zero, Option.isSome_some, Nat.reducePow, and_self, List.cons.injEq, Nat.reduceEqDiff, Nat.reduceAdd, Nat.reduceSub, Nat.reduceMul, Nat.reduceLeDiff, Nat.reduceBEq, Nat.reduceLT, reduceIte, reduceCtorEq]
        refine nextS_intro (k + 1) ⟨h1, ?_⟩ (by omega) (SLe.backL _ (Nat.le_refl _) (by omega) hg (fun id hid => n3 id (by omega)) (backE_d rfl (backE_v rfl (by simpa [V.refs, V.refss] using hcap) (backE_junk (backE_junk (backE_junk (backE_junk (backE_junk (backE_d (by simp [upd_ne]; rfl) (backE_d ?_ backE_nil))))))))))
        · intro y hy
          rw [List.take_add_one, hx] at hy
          simp only [Option.toList_some, List.mem_append, List.mem_singleton] at hy
          rcases hy with hy | rfl
          · exact hk.2 y hy
          · exact h2
        · simp
          rw [wrap64 (by omega) (by omega)]
    · simp +contextual only [go_sem, Int.reduceBEq, Int.reduceBNe, Int.reduceLT, Int.reduceLE, Int.reduceEq, Int.reduceNe, List.range_zero, Option.isSome_some, Nat.reducePow, and_self, List.cons.injEq, Nat.reduceEqDiff, Nat.reduceAdd, Nat.reduceSub, Nat.reduceMul, Nat.reduceLeDiff, Nat.reduceBEq, Nat.reduceLT, reduceIte, reduceCtorEq]
      simp at h1
      have hf : firstI es p = -1 := by
        unfold firstI
        have : es.findIdx? p = none := by
          rw [List.findIdx?_eq_none_iff]
          intro x hx
          exact hk.2 x (by rw [List.take_of_length_le (by omega)]; exact hx)
        rw [this]
      rw [hf] at hK
      exact hK _ _ (by omega) (hg.mono (by omega)) (fun _ _ => rfl)
theorem containsFunc46 (es : List Rat) (p : Rat → Bool) (g : Nat) (caps : List V) (o : Nat → Obj') (hc : ∀ r ∈ V.refss caps, o r ≠ .no) (hlen : es.length ≤ 9223372036854775807)
    (h : ∀ x ∈ es, CtO Try.prog g (.d (Rat.d x) :: caps) o (.d (.bool (p x)))) : CtO Try.prog 46 [.d (.sl (es.map Rat.d)), .func (.func g) [] caps] o (.d (.bool (es.any p))) := by
  intro nx hg K X hK
  refine q46 ?_
  rw [c46]
  simp +contextual only [go_sem, Int.reduceBEq, Int.reduceBNe, Int.reduceLT, Int.reduceLE, Int.reduceEq, Int.reduceNe, List.range_zero, Option.isSome_some, Nat.reducePow, and_self, List.cons.injEq, Nat.reduceEqDiff, Nat.reduceAdd, Nat.reduceSub, Nat.reduceMul, Nat.reduceLeDiff, Nat.reduceBEq, Nat.reduceLT, reduceIte, reduceCtorEq]
  refine callR_heap (indexFunc82 es p g caps o hc hlen h _ (hg.mono ?_) _ _ fun o' nx' n1 n2 n3 => ?_)
  · omega
  simp +contextual only [go_sem, Int.reduceBEq, Int.reduceBNe, Int.reduceLT, Int.reduceLE, Int.reduceEq, Int.reduceNe, List.range_zero, Option.isSome_some, Nat.reducePow, and_self, List.cons.injEq, Nat.reduceEqDiff, Nat.reduceAdd, Nat.reduceSub, Nat.reduceMul, Nat.reduceLeDiff, Nat.reduceBEq, Nat.reduceLT, reduceIte, reduceCtorEq]
  rw [firstI_any]
  exact hK _ _ (by omega) (n2.mono (by omega)) (fun id hid => n3 id (by omega))
theorem indexFunc113 (es : List Made) (p : Made → Bool) (g : Nat) (caps : List V) (o : Nat → Obj') (hc : ∀ r ∈ V.refss caps, o r ≠ .no) (hlen : es.length ≤ 9223372036854775807)
    (h : ∀ x ∈ es, CtO Try.prog g (.d (Made.d x) :: caps) o (.d (.bool (p x)))) : CtO Try.prog 113 [.d (.sl (es.map Made.d)), .func (.func g) [] caps] o (.d (.i (firstI es p))) := by
  intro nx hg K X hK
  have hcap : ∀ r ∈ V.refss caps, r < nx := fun r hr => hg.lt (hc r hr)
  refine q113 ?_
  rw [c113]
  simp +contextual only [go_sem, Int.reduceBEq, Int.reduceBNe, Int.reduceLT, Int.reduceLE, Int.reduceEq, Int.reduceNe, List.range_zero, Option.isSome_some, Nat.reducePow, and_self, List.cons.injEq, Nat.reduceEqDiff, Nat.reduceAdd, Nat.reduceSub, Nat.reduceMul, Nat.reduceLeDiff, Nat.reduceBEq, Nat.reduceLT, reduceIte, reduceCtorEq]
  refine loop_fam (fun k : Nat => ⟨envJ [.d (.sl (es.map Made.d)), .func (.func g) [] caps, .junk, .junk, .junk, .junk, .junk, .d (.i es.length), .d (.i k)], o, nx⟩)
    (fun k => k ≤ es.length ∧ ∀ x ∈ es.take k, p x = false) (fun k => es.length - k) 0 ⟨Nat.zero_le _, by simp⟩
    (SLe.backL _ (Nat.le_refl _) (by omega) hg (fun _ _ => rfl) (backE_d rfl (backE_v rfl (by simpa [V.refs, V.refss] using hcap) (backE_junk (backE_junk (backE_junk (backE_junk (backE_junk (backE_d (by simp [upd_ne]) (backE_d (by simp) backE_nil)))))))))) (fun k hk => ?_)
  · simp +contextual only [go_sem, Int.reduceBEq, Int.reduceBNe, Int.reduceLT, Int.reduceLE, Int.reduceEq, Int.reduceNe, List.range_zero, Option.isSome_some, Nat.reducePow, and_self, List.cons.injEq, Nat.reduceEqDiff, Nat.reduceAdd, Nat.reduceSub, Nat.reduceMul, Nat.reduceLeDiff, Nat.reduceBEq, Nat.reduceLT, reduceIte, reduceCtorEq]
    refine cond_intro (fun h1 => ?_) (fun h1 => ?_)
    · simp at h1
      obtain ⟨x, hx⟩ : ∃ x, es[k]? = some x := ⟨es[k], by simp [h1]⟩
      have hxm := List.mem_of_getElem? hx
      simp +contextual only [go_sem, Int.reduceBEq, Int.reduceBNe, Int.reduceLT, Int.reduceLE, Int.reduceEq, Int.reduceNe, List.range_zero, Option.isSome_some, Nat.reducePow, and_self, List.cons.injEq, Nat.reduceEqDiff, Nat.reduceAdd, Nat.reduceSub, Nat.reduceMul, Nat.reduceLeDiff, Nat.reduceBEq, Nat.reduceLT, reduceIte, reduceCtorEq, hx, Made.d, D.i]
      refine callS'_heap (h x hxm _ (hg.mono ?_) _ _ fun o' nx' n1 n2 n3 => ?_)
      · omega
      simp +contextual only [go_sem, Int.reduceBEq, Int.reduceBNe, Int.reduceLT, Int.reduceLE, Int.reduceEq, Int.reduceNe, List.range_zero, Option.isSome_some, Nat.reducePow, and_self, List.cons.injEq, Nat.reduceEqDiff, Nat.reduceAdd, Nat.reduceSub, Nat.reduceMul, Nat.reduceLeDiff, Nat.reduceBEq, Nat.reduceLT, reduceIte, reduceCtorEq]
      refine cond_intro (fun h2 => ?_) (fun h2 => ?_)
      · simp +contextual only [go_sem, Int.reduceBEq, Int.reduceBNe, Int.reduceLT, Int.reduceLE, Int.reduceEq, Int.reduceNe, List.range_zero, Option.isSome_some, Nat.reducePow, and_self, List.cons.injEq, Nat.reduceEqDiff, Nat.reduceAdd, Nat.reduceSub, Nat.reduceMul, Nat.reduceLeDiff, Nat.reduceBEq, Nat.reduceLT, reduceIte, reduceCtorEq]
        have hf : firstI es p = k := by
          unfold firstI
          have : es.findIdx? p = some k := by
            rw [List.findIdx?_eq_some_iff_getElem]
            refine ⟨h1, ?_, fun j hj => ?_⟩
            · have : es[k] = x := by
                rw [List.getElem?_eq_getElem h1] at hx
                injection hx
              rw [this]; exact h2
            · simp only [Bool.not_eq_true]
              exact hk.2 _ (List.mem_take_iff_getElem.2 ⟨j, by omega, rfl⟩)
          rw [this]
        rw [hf] at hK
        exact hK _ _ (by omega) (n2.mono (by omega)) (fun id hid => n3 id (by omega))
      · simp +contextual only [go_sem, Int.reduceBEq, Int.reduceBNe, Int.reduceLT, Int.reduceLE, Int.reduceEq, Int.reduceNe, List.range_zero, Option.isSome_some, Nat.reducePow, and_self, List.cons.injEq, Nat.reduceEqDiff, Nat.reduceAdd, Nat.reduceSub, Nat.reduceMul, Nat.reduceLeDiff, Nat.reduceBEq, Nat.reduceLT, reduceIte, reduceCtorEq]
        refine nextS_intro (k + 1) ⟨h1, ?_⟩ (by omega) (SLe.backL _ (Nat.le_refl _) (by omega) hg (fun id hid => n3 id (by omega)) (backE_d rfl (backE_v rfl (by simpa [V.refs, V.refss] using hcap) (backE_junk (backE_junk (backE_junk (backE_junk (backE_junk (backE_d (by simp [upd_ne]; rfl) (backE_d ?_ backE_nil))))))))))
        · intro y hy
          rw [List.take_add_one, hx] at hy
          simp only [Option.toList_some, List.mem_append, List.mem_singleton] at hy
          rcases hy with hy | rfl
          · exact hk.2 y hy
          · exact h2
        · simp
          rw [wrap64 (by omega) (by omega)]
    · simp +contextual only [go_sem, Int.reduceBEq, Int.reduceBNe, Int.reduceLT, Int.reduceLE, Int.reduceEq, Int.reduceNe, List.range_zero, Option.isSome_some, Nat.reducePow, and_self, List.cons.injEq, Nat.reduceEqDiff, Nat.reduceAdd, Nat.reduceSub, Nat.reduceMul, Nat.reduceLeDiff, Nat.reduceBEq, Nat.reduceLT, reduceIte, reduceCtorEq]
      simp at h1
      have hf : firstI es p = -1 := by
        unfold firstI
        have : es.findIdx? p = none := by
          rw [List.findIdx?_eq_none_iff]
          intro x hx
          exact hk.2 x (by rw [List.take_of_length_le (by omega)]; exact hx)
        rw [this]
      rw [hf] at hK
      exact hK _ _ (by omega) (hg.mono (by omega)) (fun _ _ => rfl)
end Go.Proofs.Ytaafchgfibbmhaa
