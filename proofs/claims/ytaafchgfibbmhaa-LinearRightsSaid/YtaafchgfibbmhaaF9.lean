/-
  FUNCTIONS OF LAYER 15: sums of lists, rows as arrays, relations by the program. Conditions: as each theorem says.
-/
import Derived.Test.YtaafchgfibbmhaaF8
set_option linter.unusedSimpArgs false
set_option linter.unusedVariables false
namespace Go.Proofs.Ytaafchgfibbmhaa
theorem comb_get {a : Int} {x : List Int} {b : Int} {y : List Int} {k : Nat} {p q : Int} (hp : x[k]? = some p) (hq : y[k]? = some q) : (comb a x b y)[k]? = some (a * p + b * q) := by
  simp [comb, List.getElem?_zipWith, hp, hq]
theorem comb_length {a : Int} {x : List Int} {b : Int} {y : List Int} (h : x.length = y.length) : (comb a x b y).length = x.length := by simp [comb, h]
theorem combined_c (a : Int) (x : List Int) (b : Int) (y : List Int) (hl : x.length = y.length) (hx : x.length ≤ 1000) (hb : ∀ (k : Nat) (p q : Int), x[k]? = some p → y[k]? = some q → (-4611686018427387904 ≤ a * p ∧ a * p ≤ 4611686018427387903) ∧ (-4611686018427387904 ≤ b * q ∧ b * q ≤ 4611686018427387903)) :
    PCt Try.prog 79 [.i a, .sl (x.map .i), .i b, .sl (y.map .i)] (.ret [.sl ((comb a x b y).map .i)]) := by
  have hc : (comb a x b y).length = x.length := comb_length hl
  have h8 : 8 * x.length ≤ 140737488355328 := by omega
  have h9 : x.length ≤ 140737488355328 := by omega
  refine p79 ?_
  rw [c79]
  simp +contextual only [go_sem, Int.reduceBEq, Int.reduceBNe, Int.reduceLT, Int.reduceLE, Int.reduceEq, Int.reduceNe, List.range_zero, Option.isSome_some, Nat.reducePow, and_self, List.cons.injEq, Nat.reduceEqDiff, Nat.reduceAdd, Nat.reduceSub, Nat.reduceMul, Nat.reduceLeDiff, Nat.reduceBEq, Nat.reduceLT, reduceIte, reduceCtorEq, h8, h9, if_true, List.length_replicate]
  refine loop_fam (fun k : Nat => ⟨envJ [.d (.i a), .d (.sl (x.map .i)), .d (.i b), .d (.sl (y.map .i)), .junk, .junk, .junk, .junk, .junk, .osl 3 0, .junk, .junk, .junk, .junk, .junk, .d (.i x.length), .d (.i k)], upd (fun _ => .no) 3 (.arr 0 3 1 (fillD (comb a x b y) k)), 4⟩)
    (fun k => k ≤ x.length) (fun k => x.length - k) 0 (Nat.zero_le _) (SLe.backL _ (Nat.zero_le _) (by omega) (Good.upd Good.nil (by decide) rfl) ?_ ?_) (fun k hk => ?_)
  · rw [fillD_zero, hc]
    exact (fun id hid => by simp only [upd] <;> ((repeat' split) <;> first | rfl | omega | (simp_all; done)))
  · refine backE_d rfl (backE_d rfl (backE_d rfl (backE_d rfl (backE_junk (backE_junk (backE_junk (backE_junk (backE_junk (backE_v rfl (by simp [V.refs]) ?_)))))))))
    (repeat (first | exact backE_nil | refine backE_junk ?_ | refine backE_d rfl ?_ | refine backE_d (d_int (wrapN (by omega))) ?_))
  simp +contextual only [go_sem, Int.reduceBEq, Int.reduceBNe, Int.reduceLT, Int.reduceLE, Int.reduceEq, Int.reduceNe, List.range_zero, Option.isSome_some, Nat.reducePow, and_self, List.cons.injEq, Nat.reduceEqDiff, Nat.reduceAdd, Nat.reduceSub, Nat.reduceMul, Nat.reduceLeDiff, Nat.reduceBEq, Nat.reduceLT, reduceIte, reduceCtorEq]
  refine cond_intro (fun h2 => ?_) (fun h2 => ?_)
  · simp at h2
    obtain ⟨p, hp⟩ : ∃ p, x[k]? = some p := ⟨x[k], by simp [h2]⟩
    obtain ⟨q, hq⟩ : ∃ q, y[k]? = some q := ⟨y[k]'(by omega), by simp [← hl, h2]⟩
    obtain ⟨b1, b2⟩ := hb k p q hp hq
    have hg := fillD_get (comb a x b y) k (by omega)
    have hlen := fillD_length (comb a x b y) k (by omega)
    simp +contextual only [go_sem, Int.reduceBEq, Int.reduceBNe, Int.reduceLT, Int.reduceLE, Int.reduceEq, Int.reduceNe, List.range_zero, Option.isSome_some, Nat.reducePow, and_self, List.cons.injEq, Nat.reduceEqDiff, Nat.reduceAdd, Nat.reduceSub, Nat.reduceMul, Nat.reduceLeDiff, Nat.reduceBEq, Nat.reduceLT, reduceIte, reduceCtorEq, hp, hq, D.i, hg, hlen, hc, h2, if_true]
    refine end_intro (by decide) ?_
    simp +contextual only [go_sem, Int.reduceBEq, Int.reduceBNe, Int.reduceLT, Int.reduceLE, Int.reduceEq, Int.reduceNe, List.range_zero, Option.isSome_some, Nat.reducePow, and_self, List.cons.injEq, Nat.reduceEqDiff, Nat.reduceAdd, Nat.reduceSub, Nat.reduceMul, Nat.reduceLeDiff, Nat.reduceBEq, Nat.reduceLT, reduceIte, reduceCtorEq]
    refine nextS_intro (k + 1) h2 (by omega) (SLe.backL _ (Nat.zero_le _) (by omega) (Good.upd Good.nil (by decide) rfl) ?_ ?_)
    · rw [wrap64 (n := a * p) (by omega) (by omega), wrap64 (n := b * q) (by omega) (by omega), wrap64 (by omega) (by omega), fillD_set _ _ _ (comb_get hp hq)]
      exact (fun id hid => by simp only [upd] <;> ((repeat' split) <;> first | rfl | omega | (simp_all; done)))
    · refine backE_d rfl (backE_d rfl (backE_d rfl (backE_d rfl (backE_junk (backE_junk (backE_junk (backE_junk (backE_junk (backE_v rfl (by simp [V.refs]) ?_)))))))))
      (repeat (first | exact backE_nil | refine backE_junk ?_ | refine backE_d rfl ?_ | refine backE_d (d_int (wrapN (by omega))) ?_))
  · simp at h2
    have hk' : k = (comb a x b y).length := by omega
    subst hk'
    rw [fillD_all]
    simp +contextual only [go_sem, Int.reduceBEq, Int.reduceBNe, Int.reduceLT, Int.reduceLE, Int.reduceEq, Int.reduceNe, List.range_zero, Option.isSome_some, Nat.reducePow, and_self, List.cons.injEq, Nat.reduceEqDiff, Nat.reduceAdd, Nat.reduceSub, Nat.reduceMul, Nat.reduceLeDiff, Nat.reduceBEq, Nat.reduceLT, reduceIte, reduceCtorEq]
/-- A row as an array's cells. -/
@[reducible] def lineD (r : Row) : List D := [.i (r.c.getD 0 0), .i (r.c.getD 1 0), .i (r.c.getD 2 0), .i (r.c.getD 3 0), .i (r.c.getD 4 0), .i r.rel, .i r.b]
theorem lineOf_c (r : Row) (hl : r.c.length ≤ 5) : PCt Try.prog 80 [r.d] (.ret [.agg (lineD r)]) := by
  refine p80 ?_
  rw [c80]
  obtain ⟨c, rel, b⟩ := r
  simp only at hl
  match c, hl with
  | [], _ => simp +contextual only [go_sem, Int.reduceBEq, Int.reduceBNe, Int.reduceLT, Int.reduceLE, Int.reduceEq, Int.reduceNe, List.range_zero, Option.isSome_some, Nat.reducePow, and_self, List.cons.injEq, Nat.reduceEqDiff, Nat.reduceAdd, Nat.reduceSub, Nat.reduceMul, Nat.reduceLeDiff, Nat.reduceBEq, Nat.reduceLT, reduceIte, reduceCtorEq]; refine end_intro (by decide) ?_; simp +contextual only [go_sem, Int.reduceBEq, Int.reduceBNe, Int.reduceLT, Int.reduceLE, Int.reduceEq, Int.reduceNe, List.range_zero, Option.isSome_some, Nat.reducePow, and_self, List.cons.injEq, Nat.reduceEqDiff, Nat.reduceAdd, Nat.reduceSub, Nat.reduceMul, Nat.reduceLeDiff, Nat.reduceBEq, Nat.reduceLT, reduceIte, reduceCtorEq]; rfl
  | [_], _ => simp +contextual only [go_sem, Int.reduceBEq, Int.reduceBNe, Int.reduceLT, Int.reduceLE, Int.reduceEq, Int.reduceNe, List.range_zero, Option.isSome_some, Nat.reducePow, and_self, List.cons.injEq, Nat.reduceEqDiff, Nat.reduceAdd, Nat.reduceSub, Nat.reduceMul, Nat.reduceLeDiff, Nat.reduceBEq, Nat.reduceLT, reduceIte, reduceCtorEq]; refine end_intro (by decide) ?_; simp +contextual only [go_sem, Int.reduceBEq, Int.reduceBNe, Int.reduceLT, Int.reduceLE, Int.reduceEq, Int.reduceNe, List.range_zero, Option.isSome_some, Nat.reducePow, and_self, List.cons.injEq, Nat.reduceEqDiff, Nat.reduceAdd, Nat.reduceSub, Nat.reduceMul, Nat.reduceLeDiff, Nat.reduceBEq, Nat.reduceLT, reduceIte, reduceCtorEq]; rfl
  | [_, _], _ => simp +contextual only [go_sem, Int.reduceBEq, Int.reduceBNe, Int.reduceLT, Int.reduceLE, Int.reduceEq, Int.reduceNe, List.range_zero, Option.isSome_some, Nat.reducePow, and_self, List.cons.injEq, Nat.reduceEqDiff, Nat.reduceAdd, Nat.reduceSub, Nat.reduceMul, Nat.reduceLeDiff, Nat.reduceBEq, Nat.reduceLT, reduceIte, reduceCtorEq]; refine end_intro (by decide) ?_; simp +contextual only [go_sem, Int.reduceBEq, Int.reduceBNe, Int.reduceLT, Int.reduceLE, Int.reduceEq, Int.reduceNe, List.range_zero, Option.isSome_some, Nat.reducePow, and_self, List.cons.injEq, Nat.reduceEqDiff, Nat.reduceAdd, Nat.reduceSub, Nat.reduceMul, Nat.reduceLeDiff, Nat.reduceBEq, Nat.reduceLT, reduceIte, reduceCtorEq]; rfl
  | [_, _, _], _ => simp +contextual only [go_sem, Int.reduceBEq, Int.reduceBNe, Int.reduceLT, Int.reduceLE, Int.reduceEq, Int.reduceNe, List.range_zero, Option.isSome_some, Nat.reducePow, and_self, List.cons.injEq, Nat.reduceEqDiff, Nat.reduceAdd, Nat.reduceSub, Nat.reduceMul, Nat.reduceLeDiff, Nat.reduceBEq, Nat.reduceLT, reduceIte, reduceCtorEq]; refine end_intro (by decide) ?_; simp +contextual only [go_sem, Int.reduceBEq, Int.reduceBNe, Int.reduceLT, Int.reduceLE, Int.reduceEq, Int.reduceNe, List.range_zero, Option.isSome_some, Nat.reducePow, and_self, List.cons.injEq, Nat.reduceEqDiff, Nat.reduceAdd, Nat.reduceSub, Nat.reduceMul, Nat.reduceLeDiff, Nat.reduceBEq, Nat.reduceLT, reduceIte, reduceCtorEq]; rfl
  | [_, _, _, _], _ => simp +contextual only [go_sem, Int.reduceBEq, Int.reduceBNe, Int.reduceLT, Int.reduceLE, Int.reduceEq, Int.reduceNe, List.range_zero, Option.isSome_some, Nat.reducePow, and_self, List.cons.injEq, Nat.reduceEqDiff, Nat.reduceAdd, Nat.reduceSub, Nat.reduceMul, Nat.reduceLeDiff, Nat.reduceBEq, Nat.reduceLT, reduceIte, reduceCtorEq]; refine end_intro (by decide) ?_; simp +contextual only [go_sem, Int.reduceBEq, Int.reduceBNe, Int.reduceLT, Int.reduceLE, Int.reduceEq, Int.reduceNe, List.range_zero, Option.isSome_some, Nat.reducePow, and_self, List.cons.injEq, Nat.reduceEqDiff, Nat.reduceAdd, Nat.reduceSub, Nat.reduceMul, Nat.reduceLeDiff, Nat.reduceBEq, Nat.reduceLT, reduceIte, reduceCtorEq]; rfl
  | [_, _, _, _, _], _ => simp +contextual only [go_sem, Int.reduceBEq, Int.reduceBNe, Int.reduceLT, Int.reduceLE, Int.reduceEq, Int.reduceNe, List.range_zero, Option.isSome_some, Nat.reducePow, and_self, List.cons.injEq, Nat.reduceEqDiff, Nat.reduceAdd, Nat.reduceSub, Nat.reduceMul, Nat.reduceLeDiff, Nat.reduceBEq, Nat.reduceLT, reduceIte, reduceCtorEq]; refine end_intro (by decide) ?_; simp +contextual only [go_sem, Int.reduceBEq, Int.reduceBNe, Int.reduceLT, Int.reduceLE, Int.reduceEq, Int.reduceNe, List.range_zero, Option.isSome_some, Nat.reducePow, and_self, List.cons.injEq, Nat.reduceEqDiff, Nat.reduceAdd, Nat.reduceSub, Nat.reduceMul, Nat.reduceLeDiff, Nat.reduceBEq, Nat.reduceLT, reduceIte, reduceCtorEq]; rfl
/-- The relation of a sum, by the program: it looks at the eliminator alone. -/
theorem relOf_c (s : Sys) (t : List Int) (hl : t.length = s.rows.length) (hs : s.rows.length ≤ 9223372036854775807) (id : Nat) (o : Nat → Obj') (z : V) (ho : o id = .row [.d (.i s.vars), .d (.sl (s.rows.map Row.d)), z]) :
    CtO Try.prog 78 [.ptr id 0, .d (.sl (t.map .i))] o (.d (.i (kindF s t))) := by
  intro nx hg K X hK
  have hid : id < nx := hg.lt (by rw [ho]; exact Obj'.noConfusion)
  refine q78 ?_
  rw [c78]
  simp +contextual only [go_sem, Int.reduceBEq, Int.reduceBNe, Int.reduceLT, Int.reduceLE, Int.reduceEq, Int.reduceNe, List.range_zero, Option.isSome_some, Nat.reducePow, and_self, List.cons.injEq, Nat.reduceEqDiff, Nat.reduceAdd, Nat.reduceSub, Nat.reduceMul, Nat.reduceLeDiff, Nat.reduceBEq, Nat.reduceLT, reduceIte, reduceCtorEq]
  refine loop_fam (fun k : Nat => ⟨envJ [.ptr id 0, .d (.sl (t.map .i)), .junk, .junk, .junk, .d (.i (((t.zip s.rows).take k).foldl stepRel 3)), .junk, .junk, .d (.sl (t.map .i)), .d (.i t.length), .d (.i k)], o, nx⟩)
    (fun k => k ≤ t.length) (fun k => t.length - k) 0 (Nat.zero_le _) (SLe.backL _ (Nat.le_refl _) (by omega) hg (fun _ _ => rfl) ?_) (fun k hk => ?_)
  · refine backE_v rfl (by simp [V.refs]; omega) ?_
    (repeat (first | exact backE_nil | refine backE_junk ?_ | refine backE_d rfl ?_ | refine backE_d (d_int (wrapN (by omega))) ?_))
  simp +contextual only [go_sem, Int.reduceBEq, Int.reduceBNe, Int.reduceLT, Int.reduceLE, Int.reduceEq, Int.reduceNe, List.range_zero, Option.isSome_some, Nat.reducePow, and_self, List.cons.injEq, Nat.reduceEqDiff, Nat.reduceAdd, Nat.reduceSub, Nat.reduceMul, Nat.reduceLeDiff, Nat.reduceBEq, Nat.reduceLT, reduceIte, reduceCtorEq]
  refine cond_intro (fun h2 => ?_) (fun h2 => ?_)
  · simp at h2
    obtain ⟨n, hn⟩ : ∃ n, t[k]? = some n := ⟨t[k], by simp [h2]⟩
    obtain ⟨r, hr⟩ : ∃ r, s.rows[k]? = some r := ⟨s.rows[k]'(by omega), by simp [← hl, h2]⟩
    have hz : (t.zip s.rows)[k]? = some (n, r) := by rw [List.getElem?_zip_eq_some]; exact ⟨hn, hr⟩
    have fin : ∀ {e : Nat → V} {m : Nat} {v : Int}, nx ≤ m → e 0 = .ptr id 0 → e 1 = .d (.sl (t.map .i)) → e 5 = .d (.i v) → v = stepRel (((t.zip s.rows).take k).foldl stepRel 3) (n, r) → e 8 = .d (.sl (t.map .i)) → e 9 = .d (.i t.length) → e 10 = .d (.int .i64 (IntKind.i64.wrap (k + 1))) →
        nextS nx (fun k : Nat => ⟨envJ [.ptr id 0, .d (.sl (t.map .i)), .junk, .junk, .junk, .d (.i (((t.zip s.rows).take k).foldl stepRel 3)), .junk, .junk, .d (.sl (t.map .i)), .d (.i t.length), .d (.i k)], o, nx⟩) (fun k => k ≤ t.length) (fun k => t.length - k) k ⟨e, o, m⟩ := by
      intro e m v hm e0 e1 e5 hv e8 e9 e10
      refine nextS_intro (k + 1) h2 (by omega) (SLe.backL _ (Nat.le_refl _) hm hg (fun _ _ => rfl) ?_)
      refine backE_v e0 (by simp [V.refs]; omega) (backE_d e1 (backE_junk (backE_junk (backE_junk (backE_d (e5.trans (d_int ?_)) (backE_junk (backE_junk (backE_d e8 (backE_d e9 (backE_d (e10.trans (d_int (wrapN (by omega)))) backE_nil))))))))))
      rw [foldl_take_succ hz, hv]
    cases hn0 : (n == 0) with
    | true =>
      have hn1 : n = 0 := by simpa using hn0
      simp +contextual only [go_sem, Int.reduceBEq, Int.reduceBNe, Int.reduceLT, Int.reduceLE, Int.reduceEq, Int.reduceNe, List.range_zero, Option.isSome_some, Nat.reducePow, and_self, List.cons.injEq, Nat.reduceEqDiff, Nat.reduceAdd, Nat.reduceSub, Nat.reduceMul, Nat.reduceLeDiff, Nat.reduceBEq, Nat.reduceLT, reduceIte, reduceCtorEq, hn, hr, Row.d, D.i, hn0]
      exact fin (by omega) rfl rfl rfl (by rw [stepRel, if_neg (fun h => h.1 hn1)]) rfl rfl rfl
    | false =>
      have hn1 : n ≠ 0 := by simpa using hn0
      simp +contextual only [go_sem, Int.reduceBEq, Int.reduceBNe, Int.reduceLT, Int.reduceLE, Int.reduceEq, Int.reduceNe, List.range_zero, Option.isSome_some, Nat.reducePow, and_self, List.cons.injEq, Nat.reduceEqDiff, Nat.reduceAdd, Nat.reduceSub, Nat.reduceMul, Nat.reduceLeDiff, Nat.reduceBEq, Nat.reduceLT, reduceIte, reduceCtorEq, hn, hr, Row.d, D.i, ho, hn0]
      refine cond_intro (fun h3 => ?_) (fun h3 => ?_)
      · simp +contextual only [go_sem, Int.reduceBEq, Int.reduceBNe, Int.reduceLT, Int.reduceLE, Int.reduceEq, Int.reduceNe, List.range_zero, Option.isSome_some, Nat.reducePow, and_self, List.cons.injEq, Nat.reduceEqDiff, Nat.reduceAdd, Nat.reduceSub, Nat.reduceMul, Nat.reduceLeDiff, Nat.reduceBEq, Nat.reduceLT, reduceIte, reduceCtorEq]
        simp at h3
        exact fin (by omega) rfl rfl rfl (by rw [stepRel, if_neg (fun h => h.2.1 h3)]) rfl rfl rfl
      · simp +contextual only [go_sem, Int.reduceBEq, Int.reduceBNe, Int.reduceLT, Int.reduceLE, Int.reduceEq, Int.reduceNe, List.range_zero, Option.isSome_some, Nat.reducePow, and_self, List.cons.injEq, Nat.reduceEqDiff, Nat.reduceAdd, Nat.reduceSub, Nat.reduceMul, Nat.reduceLeDiff, Nat.reduceBEq, Nat.reduceLT, reduceIte, reduceCtorEq]
        simp at h3
        refine cond_intro (fun h4 => ?_) (fun h4 => ?_)
        · simp +contextual only [go_sem, Int.reduceBEq, Int.reduceBNe, Int.reduceLT, Int.reduceLE, Int.reduceEq, Int.reduceNe, List.range_zero, Option.isSome_some, Nat.reducePow, and_self, List.cons.injEq, Nat.reduceEqDiff, Nat.reduceAdd, Nat.reduceSub, Nat.reduceMul, Nat.reduceLeDiff, Nat.reduceBEq, Nat.reduceLT, reduceIte, reduceCtorEq, hn, hr, Row.d, D.i, ho]
          simp at h4
          exact fin (by omega) rfl rfl rfl (by rw [stepRel, if_pos ⟨hn1, h3, h4⟩]) rfl rfl rfl
        · simp +contextual only [go_sem, Int.reduceBEq, Int.reduceBNe, Int.reduceLT, Int.reduceLE, Int.reduceEq, Int.reduceNe, List.range_zero, Option.isSome_some, Nat.reducePow, and_self, List.cons.injEq, Nat.reduceEqDiff, Nat.reduceAdd, Nat.reduceSub, Nat.reduceMul, Nat.reduceLeDiff, Nat.reduceBEq, Nat.reduceLT, reduceIte, reduceCtorEq]
          simp at h4
          exact fin (by omega) rfl rfl rfl (by rw [stepRel, if_neg (fun h => h.2.2 h4)]) rfl rfl rfl
  · simp +contextual only [go_sem, Int.reduceBEq, Int.reduceBNe, Int.reduceLT, Int.reduceLE, Int.reduceEq, Int.reduceNe, List.range_zero, Option.isSome_some, Nat.reducePow, and_self, List.cons.injEq, Nat.reduceEqDiff, Nat.reduceAdd, Nat.reduceSub, Nat.reduceMul, Nat.reduceLeDiff, Nat.reduceBEq, Nat.reduceLT, reduceIte, reduceCtorEq]
    simp at h2
    have : (t.zip s.rows).take k = t.zip s.rows := List.take_of_length_le (by simp; omega)
    rw [this]
    exact hK _ _ (by omega) (hg.mono (by omega)) (fun _ _ => rfl)
end Go.Proofs.Ytaafchgfibbmhaa
