/-
  A PART OF THE PROOF (put together by program): several texts, one behind the other. Conditions: none.
-/
import Derived.Test.YtaafchgfibbmhaaPk35
set_option linter.unusedSimpArgs false
set_option linter.unusedVariables false
namespace Go.Proofs.Ytaafchgfibbmhaa
def rawR (s : Sys) (v : Nat) (l : List Made) : List Made :=
  match l.findIdx? (usesF v) with
  | some at' => match l[at']? with
    | some e => useR s l e v at' l.length
    | none => []
  | none => outR s v l l.length
def nextR (s : Sys) (v : Nat) (l : List Made) : List Made × Bool :=
  if (rawR s v l).all bigOk = true then (keptR (rawR s v l) (rawR s v l).length, decide ((rawR s v l).length ≤ 200)) else ([], false)
theorem sumM_lens {s : Sys} {a : Int} {m : Made} {b : Int} {n : Made} {nv nr : Nat} (hm : m.Ok nv nr) (hn : n.Ok nv nr) : (sumM s a m b n).r.c.length = nv ∧ (sumM s a m b n).t.length = nr := by
  refine ⟨?_, ?_⟩
  · rw [sumM, redM_lc]; simp only [rawSum]; rw [comb_length (by rw [hm.lc, hn.lc]), hm.lc]
  · rw [sumM, redM_lt]; simp only [rawSum]; rw [comb_length (by rw [hm.lt, hn.lt]), hm.lt]
theorem useR_lens {s : Sys} {l : List Made} {e : Made} {v at' : Nat} {nv nr : Nat} (he : e.Ok nv nr) (hl : ∀ m ∈ l, m.Ok nv nr) : ∀ k, ∀ x ∈ useR s l e v at' k, x.r.c.length = nv ∧ x.t.length = nr
  | 0, x, h => by simp [useR] at h
  | k + 1, x, h => by
    simp only [useR] at h
    rcases List.mem_append.1 h with h | h
    · exact useR_lens he hl k x h
    · split at h
      · rename_i m hm
        have hmm := hl m (List.mem_of_getElem? hm)
        unfold useRone at h
        split at h
        · cases h
        · split at h
          · simp only [List.mem_singleton] at h; subst h; exact ⟨hmm.lc, hmm.lt⟩
          · simp only [List.mem_singleton] at h; subst h
            unfold useV
            split
            · exact sumM_lens hmm he
            · exact sumM_lens hmm he
      · cases h
theorem inR_lens {s : Sys} {v : Nat} {l : List Made} {a : Made} {nv nr : Nat} (ha : a.Ok nv nr) (hl : ∀ m ∈ l, m.Ok nv nr) : ∀ j, ∀ x ∈ inR s v l a j, x.r.c.length = nv ∧ x.t.length = nr
  | 0, x, h => by simp [inR] at h
  | j + 1, x, h => by
    simp only [inR] at h
    rcases List.mem_append.1 h with h | h
    · exact inR_lens ha hl j x h
    · split at h
      · rename_i b hb
        unfold pairR at h
        split at h
        · simp only [List.mem_singleton] at h; subst h; exact sumM_lens ha (hl b (List.mem_of_getElem? hb))
        · cases h
      · cases h
theorem outR_lens {s : Sys} {v : Nat} {l : List Made} {nv nr : Nat} (hl : ∀ m ∈ l, m.Ok nv nr) : ∀ i, ∀ x ∈ outR s v l i, x.r.c.length = nv ∧ x.t.length = nr
  | 0, x, h => by
    simp only [outR, zeroL] at h
    have := hl x (List.mem_filter.1 h).1
    exact ⟨this.lc, this.lt⟩
  | i + 1, x, h => by
    simp only [outR] at h
    rcases List.mem_append.1 h with h | h
    · exact outR_lens hl i x h
    · split at h
      · rename_i a ha; exact inR_lens (hl a (List.mem_of_getElem? ha)) hl _ x h
      · cases h
theorem rawR_lens {s : Sys} {v : Nat} {l : List Made} {nv nr : Nat} (hl : ∀ m ∈ l, m.Ok nv nr) : ∀ x ∈ rawR s v l, x.r.c.length = nv ∧ x.t.length = nr := by
  unfold rawR
  intro x hx
  split at hx
  · split at hx
    · rename_i e he; exact useR_lens (hl e (List.mem_of_getElem? he)) hl _ x hx
    · cases hx
  · exact outR_lens hl _ x hx
theorem rawR_len {s : Sys} {v : Nat} {l : List Made} (hl : l.length ≤ 1000) : (rawR s v l).length ≤ 1002000 := by
  unfold rawR
  split
  · split
    · rename_i e he; have := useR_len (s := s) (l := l) (e := e) (v := v) (at' := ‹Nat›) l.length; omega
    · simp
  · have := outR_len (s := s) (v := v) (l := l) l.length
    have h2 : l.length * l.length ≤ 1000 * 1000 := Nat.mul_le_mul hl hl
    omega
theorem next_c (s : Sys) (l : List Made) (v : Nat) {nv nr : Nat} (hok : ∀ m ∈ l, m.Ok nv nr) (hv : v < nv) (hnv : nv ≤ 5) (hnr : nr ≤ 10) (hsv : s.vars = nv) (hsr : s.rows.length = nr) (hl : l.length ≤ 1000) :
    PCt Try.prog 64 [s.d, stD l, .i v] (.ret [stD (nextR s v l).1, .bool (nextR s v l).2]) := by
  have hrl := rawR_len (s := s) (v := v) hl
  refine PCt.of_ev mix fn64 (by simp) ?_
  rw [c64]
  simp +contextual only [go_sem, Int.reduceBEq, Int.reduceBNe, Int.reduceLT, Int.reduceLE, Int.reduceEq, Int.reduceNe, List.range_zero, Option.isSome_some, Nat.reducePow, and_self, List.cons.injEq, Nat.reduceEqDiff, Nat.reduceAdd, Nat.reduceSub, Nat.reduceMul, Nat.reduceLeDiff, Nat.reduceBEq, Nat.reduceLT, reduceIte, reduceCtorEq, Sys.d, stD, Made.d, Row.d]
  refine loop_fam (fun k : Nat => ⟨envJ [.junk, .d (stD l), .d (.i v), .ptr 0 0, .junk, .junk, .junk, .junk, .d (.i k)], s.o, 1⟩)
    (fun k => k ≤ l.length ∧ ∀ m ∈ l.take k, usesF v m = false) (fun k => l.length - k) 0 ⟨Nat.zero_le _, by simp⟩ (SLe.d1 _ s.o_good (by omega) rfl ?_) (fun k hk => ?_)
  · refine backE_junk (backE_d rfl (backE_d rfl (backE_v rfl (by simp [V.refs]) ?_)))
    (repeat (first | exact backE_nil | refine backE_junk ?_ | refine backE_d rfl ?_ | refine backE_d (d_int (wrapN (by omega))) ?_))
  by_cases hkl : k < l.length
  · have hlt : decide ((k : Int) < (l.length : Int)) = true := by simp; omega
    obtain ⟨m, hm⟩ : ∃ m, l[k]? = some m := ⟨l[k], List.getElem?_eq_getElem _⟩
    have hmm := hok m (List.mem_of_getElem? hm)
    have hmv : m.r.c[v]? = some (m.r.c.getD v 0) := by
      have := hmm.lc
      rw [List.getD_eq_getElem?_getD, List.getElem?_eq_getElem (by omega)]; rfl
    have hsnoc : ∀ b, usesF v m = b → b = false → ∀ x ∈ l.take (k + 1), usesF v x = false := fun b h1 h2 x hx => by
      rw [List.take_add_one, hm] at hx
      rcases List.mem_append.1 hx with hx | hx
      · exact hk.2 x hx
      · simp at hx; subst hx; rw [h1, h2]
    cases hr : m.r.rel != 3 with
    | true =>
      have hu : usesF v m = false := by simp at hr; simp [usesF, hr]
      simp +contextual only [go_sem, Int.reduceBEq, Int.reduceBNe, Int.reduceLT, Int.reduceLE, Int.reduceEq, Int.reduceNe, List.range_zero, Option.isSome_some, Nat.reducePow, and_self, List.cons.injEq, Nat.reduceEqDiff, Nat.reduceAdd, Nat.reduceSub, Nat.reduceMul, Nat.reduceLeDiff, Nat.reduceBEq, Nat.reduceLT, reduceIte, reduceCtorEq, stD, hlt, hm, hmv, hr, Made.d, Row.d]
      refine nextS_intro (k + 1) ⟨hkl, hsnoc _ hu rfl⟩ (by omega) (SLe.d1 _ s.o_good (by omega) rfl ?_)
      refine backE_junk (backE_d rfl (backE_d rfl (backE_v rfl (by simp [V.refs]) ?_)))
      (repeat (first | exact backE_nil | refine backE_junk ?_ | refine backE_d rfl ?_ | refine backE_d (d_int (wrapN (by omega))) ?_))
    | false =>
      cases hz : m.r.c.getD v 0 == 0 with
      | true =>
        have hu : usesF v m = false := by simp at hz; simp [usesF, hz]
        simp +contextual only [go_sem, Int.reduceBEq, Int.reduceBNe, Int.reduceLT, Int.reduceLE, Int.reduceEq, Int.reduceNe, List.range_zero, Option.isSome_some, Nat.reducePow, and_self, List.cons.injEq, Nat.reduceEqDiff, Nat.reduceAdd, Nat.reduceSub, Nat.reduceMul, Nat.reduceLeDiff, Nat.reduceBEq, Nat.reduceLT, reduceIte, reduceCtorEq, stD, hlt, hm, hmv, hr, hz, Made.d, Row.d]
        refine nextS_intro (k + 1) ⟨hkl, hsnoc _ hu rfl⟩ (by omega) (SLe.d1 _ s.o_good (by omega) rfl ?_)
        refine backE_junk (backE_d rfl (backE_d rfl (backE_v rfl (by simp [V.refs]) ?_)))
        (repeat (first | exact backE_nil | refine backE_junk ?_ | refine backE_d rfl ?_ | refine backE_d (d_int (wrapN (by omega))) ?_))
      | false =>
        have hu : usesF v m = true := by simp at hz hr; simp [usesF, hz, hr]
        simp +contextual only [go_sem, Int.reduceBEq, Int.reduceBNe, Int.reduceLT, Int.reduceLE, Int.reduceEq, Int.reduceNe, List.range_zero, Option.isSome_some, Nat.reducePow, and_self, List.cons.injEq, Nat.reduceEqDiff, Nat.reduceAdd, Nat.reduceSub, Nat.reduceMul, Nat.reduceLeDiff, Nat.reduceBEq, Nat.reduceLT, reduceIte, reduceCtorEq, stD, hlt, hm, hmv, hr, hz, Made.d, Row.d]
        have hfi : l.findIdx? (usesF v) = some k := by
          rw [List.findIdx?_eq_some_iff_getElem]
          refine ⟨hkl, ?_, fun j hjk => ?_⟩
          · have : l[k] = m := by have := List.getElem?_eq_some_iff.1 hm; exact this.2
            rw [this]; exact hu
          · have := hk.2 l[j] (by rw [List.mem_take_iff_getElem]; exact ⟨j, by omega, rfl⟩)
            simp [this]
        have hraw : useR s l m v k l.length = rawR s v l := by rw [rawR, hfi]; simp only [hm]
        refine call_give (using'_c s l m v k hm hok hv hnv hnr hsv hsr hl) ?_
        rw [hraw]
        simp +contextual only [go_sem, Int.reduceBEq, Int.reduceBNe, Int.reduceLT, Int.reduceLE, Int.reduceEq, Int.reduceNe, List.range_zero, Option.isSome_some, Nat.reducePow, and_self, List.cons.injEq, Nat.reduceEqDiff, Nat.reduceAdd, Nat.reduceSub, Nat.reduceMul, Nat.reduceLeDiff, Nat.reduceBEq, Nat.reduceLT, reduceIte, reduceCtorEq]
        refine loop_fam (fun j : Nat => ⟨envJ [.junk, .junk, .junk, .junk, .junk, .junk, .junk, .junk, .junk, .d (stD (rawR s v l)), .d (.i j)], fun _ => .no, 0⟩)
          (fun j => j ≤ (rawR s v l).length ∧ ((rawR s v l).take j).all bigOk = true) (fun j => (rawR s v l).length - j) 0 ⟨Nat.zero_le _, by simp⟩ (SLe.d0 _ ?_) (fun j hj => ?_)
        · repeat (first | exact backE_nil | refine backE_junk ?_ | refine backE_d rfl ?_)
        simp +contextual only [go_sem, Int.reduceBEq, Int.reduceBNe, Int.reduceLT, Int.reduceLE, Int.reduceEq, Int.reduceNe, List.range_zero, Option.isSome_some, Nat.reducePow, and_self, List.cons.injEq, Nat.reduceEqDiff, Nat.reduceAdd, Nat.reduceSub, Nat.reduceMul, Nat.reduceLeDiff, Nat.reduceBEq, Nat.reduceLT, reduceIte, reduceCtorEq, stD]
        refine cond_intro (fun h3 => ?_) (fun h3 => ?_)
        · simp at h3
          obtain ⟨x, hx⟩ : ∃ x, (rawR s v l)[j]? = some x := ⟨(rawR s v l)[j], List.getElem?_eq_getElem _⟩
          obtain ⟨x1, x2⟩ := rawR_lens hok x (List.mem_of_getElem? hx)
          simp +contextual only [go_sem, Int.reduceBEq, Int.reduceBNe, Int.reduceLT, Int.reduceLE, Int.reduceEq, Int.reduceNe, List.range_zero, Option.isSome_some, Nat.reducePow, and_self, List.cons.injEq, Nat.reduceEqDiff, Nat.reduceAdd, Nat.reduceSub, Nat.reduceMul, Nat.reduceLeDiff, Nat.reduceBEq, Nat.reduceLT, reduceIte, reduceCtorEq, stD, hx, Made.d, Row.d]
          refine call_keep (all_c x.r.c 1000000000 (by omega) (by omega)) rfl ?_
          have hbig : bigOk x = (allF x.r.c 1000000000 && inB x.r.b (-1000000000) 1000000000 && allF x.t 1000000000) := rfl
          have bad : bigOk x = false → nextR s v l = ([], false) := fun h => by
            rw [nextR, if_neg]
            intro h2
            rw [List.all_eq_true] at h2
            rw [h2 x (List.mem_of_getElem? hx)] at h
            cases h
          cases e1 : allF x.r.c 1000000000 with
          | false =>
            rw [bad (by rw [hbig, e1]; rfl)]
            simp +contextual only [go_sem, Int.reduceBEq, Int.reduceBNe, Int.reduceLT, Int.reduceLE, Int.reduceEq, Int.reduceNe, List.range_zero, Option.isSome_some, Nat.reducePow, and_self, List.cons.injEq, Nat.reduceEqDiff, Nat.reduceAdd, Nat.reduceSub, Nat.reduceMul, Nat.reduceLeDiff, Nat.reduceBEq, Nat.reduceLT, reduceIte, reduceCtorEq, stD, hx, Made.d, Row.d]
          | true =>
            simp +contextual only [go_sem, Int.reduceBEq, Int.reduceBNe, Int.reduceLT, Int.reduceLE, Int.reduceEq, Int.reduceNe, List.range_zero, Option.isSome_some, Nat.reducePow, and_self, List.cons.injEq, Nat.reduceEqDiff, Nat.reduceAdd, Nat.reduceSub, Nat.reduceMul, Nat.reduceLeDiff, Nat.reduceBEq, Nat.reduceLT, reduceIte, reduceCtorEq, stD, hx, Made.d, Row.d]
            refine call_keep (in_c _ _ _) rfl ?_
            have hin : (decide (-1000000000 ≤ x.r.b) && decide (x.r.b ≤ 1000000000)) = inB x.r.b (-1000000000) 1000000000 := rfl
            rw [hin]
            cases e2 : inB x.r.b (-1000000000) 1000000000 with
            | false =>
              rw [bad (by rw [hbig, e1, e2]; rfl)]
              simp +contextual only [go_sem, Int.reduceBEq, Int.reduceBNe, Int.reduceLT, Int.reduceLE, Int.reduceEq, Int.reduceNe, List.range_zero, Option.isSome_some, Nat.reducePow, and_self, List.cons.injEq, Nat.reduceEqDiff, Nat.reduceAdd, Nat.reduceSub, Nat.reduceMul, Nat.reduceLeDiff, Nat.reduceBEq, Nat.reduceLT, reduceIte, reduceCtorEq, stD, hx, Made.d, Row.d]
            | true =>
              simp +contextual only [go_sem, Int.reduceBEq, Int.reduceBNe, Int.reduceLT, Int.reduceLE, Int.reduceEq, Int.reduceNe, List.range_zero, Option.isSome_some, Nat.reducePow, and_self, List.cons.injEq, Nat.reduceEqDiff, Nat.reduceAdd, Nat.reduceSub, Nat.reduceMul, Nat.reduceLeDiff, Nat.reduceBEq, Nat.reduceLT, reduceIte, reduceCtorEq, stD, hx, Made.d, Row.d]
              refine call_keep (all_c x.t 1000000000 (by omega) (by omega)) rfl ?_
              cases e3 : allF x.t 1000000000 with
              | false =>
                rw [bad (by rw [hbig, e1, e2, e3]; rfl)]
                simp +contextual only [go_sem, Int.reduceBEq, Int.reduceBNe, Int.reduceLT, Int.reduceLE, Int.reduceEq, Int.reduceNe, List.range_zero, Option.isSome_some, Nat.reducePow, and_self, List.cons.injEq, Nat.reduceEqDiff, Nat.reduceAdd, Nat.reduceSub, Nat.reduceMul, Nat.reduceLeDiff, Nat.reduceBEq, Nat.reduceLT, reduceIte, reduceCtorEq, stD, hx, Made.d, Row.d]
              | true =>
                simp +contextual only [go_sem, Int.reduceBEq, Int.reduceBNe, Int.reduceLT, Int.reduceLE, Int.reduceEq, Int.reduceNe, List.range_zero, Option.isSome_some, Nat.reducePow, and_self, List.cons.injEq, Nat.reduceEqDiff, Nat.reduceAdd, Nat.reduceSub, Nat.reduceMul, Nat.reduceLeDiff, Nat.reduceBEq, Nat.reduceLT, reduceIte, reduceCtorEq, stD, hx, Made.d, Row.d]
                refine nextS_intro (j + 1) ⟨h3, ?_⟩ (by omega) (SLe.d0 _ ?_)
                · rw [List.take_add_one, hx, List.all_append, hj.2]; simp [hbig, e1, e2, e3]
                · repeat (first | exact backE_nil | refine backE_junk ?_ | refine backE_d rfl ?_ | refine backE_d (d_int (wrapN (by omega))) ?_)
        · simp at h3
          have hall := hj.2
          rw [List.take_of_length_le h3] at hall
          have hnx : nextR s v l = (keptR (rawR s v l) (rawR s v l).length, decide ((rawR s v l).length ≤ 200)) := by rw [nextR, if_pos hall]
          simp +contextual only [go_sem, Int.reduceBEq, Int.reduceBNe, Int.reduceLT, Int.reduceLE, Int.reduceEq, Int.reduceNe, List.range_zero, Option.isSome_some, Nat.reducePow, and_self, List.cons.injEq, Nat.reduceEqDiff, Nat.reduceAdd, Nat.reduceSub, Nat.reduceMul, Nat.reduceLeDiff, Nat.reduceBEq, Nat.reduceLT, reduceIte, reduceCtorEq, stD]
          refine call_give (kept_c (rawR s v l) hrl (fun m hm => by have := (rawR_lens hok m hm).1; omega)) ?_
          rw [hnx]
          simp +contextual only [go_sem, Int.reduceBEq, Int.reduceBNe, Int.reduceLT, Int.reduceLE, Int.reduceEq, Int.reduceNe, List.range_zero, Option.isSome_some, Nat.reducePow, and_self, List.cons.injEq, Nat.reduceEqDiff, Nat.reduceAdd, Nat.reduceSub, Nat.reduceMul, Nat.reduceLeDiff, Nat.reduceBEq, Nat.reduceLT, reduceIte, reduceCtorEq, stD]
          rw [show decide (((rawR s v l).length : Int) ≤ 200) = decide ((rawR s v l).length ≤ 200) from decide_eq_decide.2 (by omega)]
  · have hlt : decide ((k : Int) < (l.length : Int)) = false := by simp; omega
    simp +contextual only [go_sem, Int.reduceBEq, Int.reduceBNe, Int.reduceLT, Int.reduceLE, Int.reduceEq, Int.reduceNe, List.range_zero, Option.isSome_some, Nat.reducePow, and_self, List.cons.injEq, Nat.reduceEqDiff, Nat.reduceAdd, Nat.reduceSub, Nat.reduceMul, Nat.reduceLeDiff, Nat.reduceBEq, Nat.reduceLT, reduceIte, reduceCtorEq, stD, hlt]
    have hfi : l.findIdx? (usesF v) = none := by
      rw [List.findIdx?_eq_none_iff]
      intro x hx
      have := hk.2 x (by rw [List.take_of_length_le (by omega)]; exact hx)
      simp [this]
    have hraw : outR s v l l.length = rawR s v l := by rw [rawR, hfi]
    refine call_give (pairing_c s l v hok hv hnv hnr hsv hsr hl) ?_
    rw [hraw]
    simp +contextual only [go_sem, Int.reduceBEq, Int.reduceBNe, Int.reduceLT, Int.reduceLE, Int.reduceEq, Int.reduceNe, List.range_zero, Option.isSome_some, Nat.reducePow, and_self, List.cons.injEq, Nat.reduceEqDiff, Nat.reduceAdd, Nat.reduceSub, Nat.reduceMul, Nat.reduceLeDiff, Nat.reduceBEq, Nat.reduceLT, reduceIte, reduceCtorEq]
    refine loop_fam (fun j : Nat => ⟨envJ [.junk, .junk, .junk, .junk, .junk, .junk, .junk, .junk, .junk, .d (stD (rawR s v l)), .d (.i j)], fun _ => .no, 0⟩)
      (fun j => j ≤ (rawR s v l).length ∧ ((rawR s v l).take j).all bigOk = true) (fun j => (rawR s v l).length - j) 0 ⟨Nat.zero_le _, by simp⟩ (SLe.d0 _ ?_) (fun j hj => ?_)
    · repeat (first | exact backE_nil | refine backE_junk ?_ | refine backE_d rfl ?_)
    simp +contextual only [go_sem, Int.reduceBEq, Int.reduceBNe, Int.reduceLT, Int.reduceLE, Int.reduceEq, Int.reduceNe, List.range_zero, Option.isSome_some, Nat.reducePow, and_self, List.cons.injEq, Nat.reduceEqDiff, Nat.reduceAdd, Nat.reduceSub, Nat.reduceMul, Nat.reduceLeDiff, Nat.reduceBEq, Nat.reduceLT, reduceIte, reduceCtorEq, stD]
    refine cond_intro (fun h3 => ?_) (fun h3 => ?_)
    · simp at h3
      obtain ⟨x, hx⟩ : ∃ x, (rawR s v l)[j]? = some x := ⟨(rawR s v l)[j], List.getElem?_eq_getElem _⟩
      obtain ⟨x1, x2⟩ := rawR_lens hok x (List.mem_of_getElem? hx)
      simp +contextual only [go_sem, Int.reduceBEq, Int.reduceBNe, Int.reduceLT, Int.reduceLE, Int.reduceEq, Int.reduceNe, List.range_zero, Option.isSome_some, Nat.reducePow, and_self, List.cons.injEq, Nat.reduceEqDiff, Nat.reduceAdd, Nat.reduceSub, Nat.reduceMul, Nat.reduceLeDiff, Nat.reduceBEq, Nat.reduceLT, reduceIte, reduceCtorEq, stD, hx, Made.d, Row.d]
      refine call_keep (all_c x.r.c 1000000000 (by omega) (by omega)) rfl ?_
      have hbig : bigOk x = (allF x.r.c 1000000000 && inB x.r.b (-1000000000) 1000000000 && allF x.t 1000000000) := rfl
      have bad : bigOk x = false → nextR s v l = ([], false) := fun h => by
        rw [nextR, if_neg]
        intro h2
        rw [List.all_eq_true] at h2
        rw [h2 x (List.mem_of_getElem? hx)] at h
        cases h
      cases e1 : allF x.r.c 1000000000 with
      | false =>
        rw [bad (by rw [hbig, e1]; rfl)]
        simp +contextual only [go_sem, Int.reduceBEq, Int.reduceBNe, Int.reduceLT, Int.reduceLE, Int.reduceEq, Int.reduceNe, List.range_zero, Option.isSome_some, Nat.reducePow, and_self, List.cons.injEq, Nat.reduceEqDiff, Nat.reduceAdd, Nat.reduceSub, Nat.reduceMul, Nat.reduceLeDiff, Nat.reduceBEq, Nat.reduceLT, reduceIte, reduceCtorEq, stD, hx, Made.d, Row.d]
      | true =>
        simp +contextual only [go_sem, Int.reduceBEq, Int.reduceBNe, Int.reduceLT, Int.reduceLE, Int.reduceEq, Int.reduceNe, List.range_zero, Option.isSome_some, Nat.reducePow, and_self, List.cons.injEq, Nat.reduceEqDiff, Nat.reduceAdd, Nat.reduceSub, Nat.reduceMul, Nat.reduceLeDiff, Nat.reduceBEq, Nat.reduceLT, reduceIte, reduceCtorEq, stD, hx, Made.d, Row.d]
        refine call_keep (in_c _ _ _) rfl ?_
        have hin : (decide (-1000000000 ≤ x.r.b) && decide (x.r.b ≤ 1000000000)) = inB x.r.b (-1000000000) 1000000000 := rfl
        rw [hin]
        cases e2 : inB x.r.b (-1000000000) 1000000000 with
        | false =>
          rw [bad (by rw [hbig, e1, e2]; rfl)]
          simp +contextual only [go_sem, Int.reduceBEq, Int.reduceBNe, Int.reduceLT, Int.reduceLE, Int.reduceEq, Int.reduceNe, List.range_zero, Option.isSome_some, Nat.reducePow, and_self, List.cons.injEq, Nat.reduceEqDiff, Nat.reduceAdd, Nat.reduceSub, Nat.reduceMul, Nat.reduceLeDiff, Nat.reduceBEq, Nat.reduceLT, reduceIte, reduceCtorEq, stD, hx, Made.d, Row.d]
        | true =>
          simp +contextual only [go_sem, Int.reduceBEq, Int.reduceBNe, Int.reduceLT, Int.reduceLE, Int.reduceEq, Int.reduceNe, List.range_zero, Option.isSome_some, Nat.reducePow, and_self, List.cons.injEq, Nat.reduceEqDiff, Nat.reduceAdd, Nat.reduceSub, Nat.reduceMul, Nat.reduceLeDiff, Nat.reduceBEq, Nat.reduceLT, reduceIte, reduceCtorEq, stD, hx, Made.d, Row.d]
          refine call_keep (all_c x.t 1000000000 (by omega) (by omega)) rfl ?_
          cases e3 : allF x.t 1000000000 with
          | false =>
            rw [bad (by rw [hbig, e1, e2, e3]; rfl)]
            simp +contextual only [go_sem, Int.reduceBEq, Int.reduceBNe, Int.reduceLT, Int.reduceLE, Int.reduceEq, Int.reduceNe, List.range_zero, Option.isSome_some, Nat.reducePow, and_self, List.cons.injEq, Nat.reduceEqDiff, Nat.reduceAdd, Nat.reduceSub, Nat.reduceMul, Nat.reduceLeDiff, Nat.reduceBEq, Nat.reduceLT, reduceIte, reduceCtorEq, stD, hx, Made.d, Row.d]
          | true =>
            simp +contextual only [go_sem, Int.reduceBEq, Int.reduceBNe, Int.reduceLT, Int.reduceLE, Int.reduceEq, Int.reduceNe, List.range_zero, Option.isSome_some, Nat.reducePow, and_self, List.cons.injEq, Nat.reduceEqDiff, Nat.reduceAdd, Nat.reduceSub, Nat.reduceMul, Nat.reduceLeDiff, Nat.reduceBEq, Nat.reduceLT, reduceIte, reduceCtorEq, stD, hx, Made.d, Row.d]
            refine nextS_intro (j + 1) ⟨h3, ?_⟩ (by omega) (SLe.d0 _ ?_)
            · rw [List.take_add_one, hx, List.all_append, hj.2]; simp [hbig, e1, e2, e3]
            · repeat (first | exact backE_nil | refine backE_junk ?_ | refine backE_d rfl ?_ | refine backE_d (d_int (wrapN (by omega))) ?_)
    · simp at h3
      have hall := hj.2
      rw [List.take_of_length_le h3] at hall
      have hnx : nextR s v l = (keptR (rawR s v l) (rawR s v l).length, decide ((rawR s v l).length ≤ 200)) := by rw [nextR, if_pos hall]
      simp +contextual only [go_sem, Int.reduceBEq, Int.reduceBNe, Int.reduceLT, Int.reduceLE, Int.reduceEq, Int.reduceNe, List.range_zero, Option.isSome_some, Nat.reducePow, and_self, List.cons.injEq, Nat.reduceEqDiff, Nat.reduceAdd, Nat.reduceSub, Nat.reduceMul, Nat.reduceLeDiff, Nat.reduceBEq, Nat.reduceLT, reduceIte, reduceCtorEq, stD]
      refine call_give (kept_c (rawR s v l) hrl (fun m hm => by have := (rawR_lens hok m hm).1; omega)) ?_
      rw [hnx]
      simp +contextual only [go_sem, Int.reduceBEq, Int.reduceBNe, Int.reduceLT, Int.reduceLE, Int.reduceEq, Int.reduceNe, List.range_zero, Option.isSome_some, Nat.reducePow, and_self, List.cons.injEq, Nat.reduceEqDiff, Nat.reduceAdd, Nat.reduceSub, Nat.reduceMul, Nat.reduceLeDiff, Nat.reduceBEq, Nat.reduceLT, reduceIte, reduceCtorEq, stD]
      rw [show decide (((rawR s v l).length : Int) ≤ 200) = decide ((rawR s v l).length ≤ 200) from decide_eq_decide.2 (by omega)]
end Go.Proofs.Ytaafchgfibbmhaa
namespace Go.Proofs.Ytaafchgfibbmhaa
theorem Made.Ok.big {v r : Nat} {m : Made} (h : m.Ok v r) : bigOk m = true := by
  simp only [bigOk, Bool.and_eq_true, allF_iff, inB_iff]
  exact ⟨⟨h.c, h.b⟩, h.t⟩
def okL (l : List Made) : Option (List Made) := if l.all bigOk = true then some l else none
theorem okL_append {a b : List Made} : okL (a ++ b) = (okL a).bind fun x => (okL b).map (x ++ ·) := by
  unfold okL
  rw [List.all_append]
  cases a.all bigOk <;> cases b.all bigOk <;> simp
theorem okL_all {l : List Made} (h : ∀ m ∈ l, bigOk m = true) : okL l = some l := by
  rw [okL, if_pos (List.all_eq_true.2 h)]
theorem useOne_eq {s : Sys} {e : Made} {v at' i : Nat} {m : Made} (hm : bigOk m = true) : useOne s e v at' i m = okL (useRone s e v at' i m) := by
  unfold useOne useRone
  dsimp only
  split
  · rfl
  · split
    · simp [okL, hm]
    · by_cases hc : 0 < e.r.c.getD v 0
      · simp only [useV, if_pos hc, okL]; simp
      · simp only [useV, if_neg hc, okL]; simp
theorem useL_eq {s : Sys} {l : List Made} {e : Made} {v at' : Nat} (hl : ∀ m ∈ l, bigOk m = true) : ∀ k, useL s l e v at' k = okL (useR s l e v at' k)
  | 0 => rfl
  | k + 1 => by
    simp only [useL, useR]
    rw [useL_eq hl k, okL_append]
    cases hm : l[k]? with
    | none => cases okL (useR s l e v at' k) <;> simp [okL]
    | some m => simp only [useOne_eq (hl m (List.mem_of_getElem? hm))]
theorem stepP_eq {s : Sys} {v : Nat} {acc : List Made} {a b : Made} : stepP s v acc a b = (okL (pairR s v a b)).map (acc ++ ·) := by
  unfold stepP pairR
  split
  · unfold pairF okL
    dsimp only
    by_cases hb : bigOk (sumM s (-b.r.c.getD v 0) a (a.r.c.getD v 0) b) = true
    · simp [hb]
    · simp [hb]
  · simp [okL]
theorem innP_eq {s : Sys} {v : Nat} {l : List Made} {a : Made} {acc : List Made} : ∀ j, innP s v l a acc j = (okL (inR s v l a j)).map (acc ++ ·)
  | 0 => by simp [innP, inR, okL]
  | j + 1 => by
    simp only [innP, inR]
    rw [innP_eq j, okL_append]
    cases okL (inR s v l a j) with
    | none => rfl
    | some x =>
      simp only [Option.map_some, Option.bind_some]
      cases hb : l[j]? with
      | none => simp [okL]
      | some b =>
        simp only [stepP_eq]
        cases okL (pairR s v a b) <;> simp
theorem outP_eq {s : Sys} {v : Nat} {l : List Made} (hl : ∀ m ∈ l, bigOk m = true) : ∀ i, outP s v l (zeroL v l) i = okL (outR s v l i)
  | 0 => by rw [outP, outR, okL_all (l := zeroL v l) (fun m hm => hl m (List.mem_filter.1 hm).1)]
  | i + 1 => by
    simp only [outP, outR]
    rw [outP_eq hl i, okL_append]
    cases okL (outR s v l i) with
    | none => rfl
    | some x =>
      simp only [Option.bind_some]
      cases ha : l[i]? with
      | none => simp [okL]
      | some a => simp only [innP_eq]
theorem rawE_eq {s : Sys} {v : Nat} {l : List Made} (hl : ∀ m ∈ l, bigOk m = true) : rawE s v l = okL (rawR s v l) := by
  unfold rawE rawR
  cases hf : l.findIdx? (usesF v) with
  | none => exact outP_eq hl _
  | some k =>
    have hk := List.findIdx?_eq_some_iff_getElem.1 hf
    have : l[k]? = some (l[k]'hk.1) := List.getElem?_eq_getElem _
    simp only [this]
    exact useL_eq hl _
def keyK (r : Row) : List Int := [r.c.getD 0 0, r.c.getD 1 0, r.c.getD 2 0, r.c.getD 3 0, r.c.getD 4 0, r.rel, r.b]
theorem lineB_iff {a b : Row} : lineB a b = true ↔ keyK a = keyK b := by
  simp only [lineB, keyK, Bool.and_eq_true, beq_iff_eq, List.cons.injEq, and_true, and_assoc]
theorem isMet_add {met : List Row} {x r : Row} : isMet (addMet met x) r = (isMet met r || lineB r x) := by
  unfold addMet
  split
  · rename_i h
    cases hb : lineB r x with
    | false => simp
    | true =>
      simp only [Bool.or_true]
      simp only [isMet, List.any_eq_true] at h ⊢
      obtain ⟨y, hy, h2⟩ := h
      exact ⟨y, hy, lineB_iff.2 ((lineB_iff.1 hb).trans (lineB_iff.1 h2))⟩
  · simp [isMet]
theorem isMet_keepK {out : List Made} {r : Row} : ∀ k, isMet (keepK out k).1 r = (out.take k).any fun x => lineB r x.r
  | 0 => rfl
  | k + 1 => by
    simp only [keepK]
    cases hm : out[k]? with
    | none =>
      have : out.take (k + 1) = out.take k := by rw [List.take_add_one, hm]; simp
      rw [this]; exact isMet_keepK k
    | some m =>
      simp only [isMet_add, isMet_keepK k, List.take_add_one, hm, Option.toList_some, List.any_append, List.any_cons, List.any_nil, Bool.or_false]
theorem keepK_eq {out : List Made} {nv : Nat} (hnv : nv ≤ 5) (hl : ∀ m ∈ out, m.r.c.length = nv) : ∀ k, (keepK out k).2 = keptR out k
  | 0 => rfl
  | k + 1 => by
    simp only [keepK, keptR]
    cases hm : out[k]? with
    | none => exact keepK_eq hnv hl k
    | some m =>
      have hst : (!isMet (keepK out k).1 m.r && !goneF m.r) = stayR out m k := by
        rw [isMet_keepK, stayR, Bool.and_comm]
        congr 2
        rw [Bool.eq_iff_iff, List.any_eq_true, List.any_eq_true]
        have hmm := hl m (List.mem_of_getElem? hm)
        constructor
        · rintro ⟨x, hx, h⟩
          have hxx := hl x (List.mem_of_mem_take hx)
          refine ⟨x, hx, ?_⟩
          rw [← line_eq (a := x.r) (b := m.r) (by omega) (by omega)]
          exact lineB_iff.2 (lineB_iff.1 h).symm
        · rintro ⟨x, hx, h⟩
          have hxx := hl x (List.mem_of_mem_take hx)
          refine ⟨x, hx, ?_⟩
          rw [← line_eq (a := x.r) (b := m.r) (by omega) (by omega)] at h
          exact lineB_iff.2 (lineB_iff.1 h).symm
      simp only [hst, keepK_eq hnv hl k]
theorem elimE_eq {s : Sys} {v : Nat} {l : List Made} {nv nr : Nat} (hnv : nv ≤ 5) (hl : ∀ m ∈ l, m.Ok nv nr) : elimE s v l = if (nextR s v l).2 = true then some (nextR s v l).1 else none := by
  unfold elimE nextR
  rw [rawE_eq (fun m hm => (hl m hm).big)]
  unfold okL
  by_cases h : (rawR s v l).all bigOk = true
  · simp only [if_pos h, Option.bind_some, decide_eq_true_eq]
    rw [keepK_eq hnv (fun m hm => (rawR_lens hl m hm).1)]
    by_cases h2 : (rawR s v l).length ≤ 200
    · rw [if_neg (by omega), if_pos h2]
    · rw [if_pos (by omega), if_neg h2]
  · simp only [if_neg h, Option.bind_none, Bool.false_eq_true, if_false]
theorem stages'_c (s : Sys) (hc : checkF s = true) (n : Nat) (hn : (n : Int) ≤ s.vars) : PCt Try.prog 20 [s.d, .i n] (.ret [.sl (if (curE s n).isSome = true then stagesD s n else []), .bool (curE s n).isSome]) := by
  obtain ⟨v1, v5, r10, hall⟩ := check_rows hc
  refine PCt.of_ev mix fn20 (by simp) ?_
  rw [c20]
  simp +contextual only [go_sem, Int.reduceBEq, Int.reduceBNe, Int.reduceLT, Int.reduceLE, Int.reduceEq, Int.reduceNe, List.range_zero, Option.isSome_some, Nat.reducePow, and_self, List.cons.injEq, Nat.reduceEqDiff, Nat.reduceAdd, Nat.reduceSub, Nat.reduceMul, Nat.reduceLeDiff, Nat.reduceBEq, Nat.reduceLT, reduceIte, reduceCtorEq, Sys.d]
  refine call_give (first'_c s hc) ?_
  simp +contextual only [go_sem, Int.reduceBEq, Int.reduceBNe, Int.reduceLT, Int.reduceLE, Int.reduceEq, Int.reduceNe, List.range_zero, Option.isSome_some, Nat.reducePow, and_self, List.cons.injEq, Nat.reduceEqDiff, Nat.reduceAdd, Nat.reduceSub, Nat.reduceMul, Nat.reduceLeDiff, Nat.reduceBEq, Nat.reduceLT, reduceIte, reduceCtorEq, stD]
  have hst : ∀ k l, curE s (k + 1) = some l → stagesD s (k + 1) = stagesD s k ++ [stD l] := fun k l h => by
    simp only [stagesD]
    rw [List.range_succ, List.map_append, List.map_cons, List.map_nil]
    simp [curA, h]
  refine loop_fam (fun k : Nat => ⟨envJ [.junk, .d (.i n), .ptr 0 0, .junk, .junk, .junk, .osl 1 0, .d (.i k)], upd s.o 1 (.arr 0 34 1 (stagesD s k)), 1 + 1⟩)
    (fun k => k ≤ n ∧ (curE s k).isSome = true) (fun k => n - k) 0 ⟨Nat.zero_le _, rfl⟩ (SLe.grow _ (.osl 5 0) (by omega) (by omega) s.o_good (fun j hj => ?_) (.inr ⟨5, 0, by omega, rfl, ?_⟩) ?_) (fun k hk => ?_)
  · repeat (first | rfl | rw [upd_same] | rw [upd_ne _ _ _ _ (by omega)])
  · rw [upd_same]; simp [stagesD, curA, curE, stD]
  · repeat (first | exact growE_nil | refine growE_junk ?_ | refine growE_x rfl ?_ | refine growE_d rfl ?_ | refine growE_d (d_int (wrapN (by omega))) ?_ | refine growE_v rfl (by simp [V.refs] <;> omega) ?_)
  obtain ⟨cur, hcur⟩ := Option.isSome_iff_exists.1 hk.2
  obtain ⟨hok, h200⟩ := curE_ok hc hcur
  have hcs : curE s (k + 1) = elimE s k cur := by simp only [curE, hcur, Option.bind_some]
  have hget : (stagesD s k)[k]? = some (.sl (cur.map Made.d)) := by
    simp only [stagesD]
    rw [List.getElem?_map, List.getElem?_range (by omega)]
    simp [curA, hcur, stD]
  simp +contextual only [go_sem, Int.reduceBEq, Int.reduceBNe, Int.reduceLT, Int.reduceLE, Int.reduceEq, Int.reduceNe, List.range_zero, Option.isSome_some, Nat.reducePow, and_self, List.cons.injEq, Nat.reduceEqDiff, Nat.reduceAdd, Nat.reduceSub, Nat.reduceMul, Nat.reduceLeDiff, Nat.reduceBEq, Nat.reduceLT, reduceIte, reduceCtorEq, stD]
  refine cond_intro (fun h2 => ?_) (fun h2 => ?_)
  · simp at h2
    have hll : (stagesD s k).length = k + 1 := by simp [stagesD]
    have h8f : (stagesD s k).length ≤ 140737488355327 := by omega
    have h8g : ((stagesD s k).length + 1) * 24 ≤ 140737488355328 := by omega
    have hq := elimE_eq (s := s) (nv := s.vars.toNat) (by omega) hok (v := k)
    rw [← hcs] at hq
    have hlt : k < (stagesD s k).length := by omega
    simp +contextual only [go_sem, Int.reduceBEq, Int.reduceBNe, Int.reduceLT, Int.reduceLE, Int.reduceEq, Int.reduceNe, List.range_zero, Option.isSome_some, Nat.reducePow, and_self, List.cons.injEq, Nat.reduceEqDiff, Nat.reduceAdd, Nat.reduceSub, Nat.reduceMul, Nat.reduceLeDiff, Nat.reduceBEq, Nat.reduceLT, reduceIte, reduceCtorEq, hget, stD, h8f, h8g, hlt, if_true, if_false]
    refine callD_give (next_c s cur k hok (by omega) (by omega) r10 (by omega) rfl (by omega)) ?_
    cases hb : (nextR s k cur).2 with
    | true =>
      have hcur' : curE s (k + 1) = some (nextR s k cur).1 := by rw [hq, hb]; rfl
      simp +contextual only [go_sem, Int.reduceBEq, Int.reduceBNe, Int.reduceLT, Int.reduceLE, Int.reduceEq, Int.reduceNe, List.range_zero, Option.isSome_some, Nat.reducePow, and_self, List.cons.injEq, Nat.reduceEqDiff, Nat.reduceAdd, Nat.reduceSub, Nat.reduceMul, Nat.reduceLeDiff, Nat.reduceBEq, Nat.reduceLT, reduceIte, reduceCtorEq, hget, stD, h8f, h8g, if_true, if_false]
      refine end_intro (by decide) ?_
      simp +contextual only [go_sem, Int.reduceBEq, Int.reduceBNe, Int.reduceLT, Int.reduceLE, Int.reduceEq, Int.reduceNe, List.range_zero, Option.isSome_some, Nat.reducePow, and_self, List.cons.injEq, Nat.reduceEqDiff, Nat.reduceAdd, Nat.reduceSub, Nat.reduceMul, Nat.reduceLeDiff, Nat.reduceBEq, Nat.reduceLT, reduceIte, reduceCtorEq, hget, stD, h8f, h8g, if_true, if_false]
      have hA2 : stagesD s k ++ [.sl ((nextR s k cur).1.map Made.d)] = stagesD s (k + 1) := (hst k _ hcur').symm
      rw [hA2]
      refine nextS_intro (k + 1) ⟨h2, by rw [hcur']; rfl⟩ (by omega) (SLe.grow _ (.osl 1 1) (by omega) (by omega) s.o_good (fun j hj => ?_) (.inr ⟨1, 1, by omega, rfl, ?_⟩) ?_)
      · repeat (first | rfl | rw [upd_same] | rw [upd_ne _ _ _ _ (by omega)])
      · repeat (first | rfl | rw [upd_same] | rw [upd_ne _ _ _ _ (by omega)])
      · repeat (first | exact growE_nil | refine growE_junk ?_ | refine growE_x rfl ?_ | refine growE_d rfl ?_ | refine growE_d (d_int (wrapN (by omega))) ?_ | refine growE_v rfl (by simp [V.refs] <;> omega) ?_)
    | false =>
      have hno : curE s n = none := by
        have h1 : curE s (k + 1) = none := by rw [hq, hb]; rfl
        have := curE_none h1 (n - (k + 1))
        rwa [show k + 1 + (n - (k + 1)) = n by omega] at this
      simp +contextual only [go_sem, Int.reduceBEq, Int.reduceBNe, Int.reduceLT, Int.reduceLE, Int.reduceEq, Int.reduceNe, List.range_zero, Option.isSome_some, Nat.reducePow, and_self, List.cons.injEq, Nat.reduceEqDiff, Nat.reduceAdd, Nat.reduceSub, Nat.reduceMul, Nat.reduceLeDiff, Nat.reduceBEq, Nat.reduceLT, reduceIte, reduceCtorEq, hget, stD, h8f, h8g, if_true, if_false]
      refine end_intro (by decide) ?_
      simp +contextual only [go_sem, Int.reduceBEq, Int.reduceBNe, Int.reduceLT, Int.reduceLE, Int.reduceEq, Int.reduceNe, List.range_zero, Option.isSome_some, Nat.reducePow, and_self, List.cons.injEq, Nat.reduceEqDiff, Nat.reduceAdd, Nat.reduceSub, Nat.reduceMul, Nat.reduceLeDiff, Nat.reduceBEq, Nat.reduceLT, reduceIte, reduceCtorEq, hget, stD, h8f, h8g, if_true, if_false]
      simp [hno]
  · simp +contextual only [go_sem, Int.reduceBEq, Int.reduceBNe, Int.reduceLT, Int.reduceLE, Int.reduceEq, Int.reduceNe, List.range_zero, Option.isSome_some, Nat.reducePow, and_self, List.cons.injEq, Nat.reduceEqDiff, Nat.reduceAdd, Nat.reduceSub, Nat.reduceMul, Nat.reduceLeDiff, Nat.reduceBEq, Nat.reduceLT, reduceIte, reduceCtorEq]
    simp at h2
    have hks : k = n := by omega
    subst hks
    simp [hcur]
end Go.Proofs.Ytaafchgfibbmhaa
