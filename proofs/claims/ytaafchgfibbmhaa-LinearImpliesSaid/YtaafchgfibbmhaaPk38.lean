/-
  A PART OF THE PROOF (put together by program): several texts, one behind the other. Conditions: none.
-/
import Derived.Test.YtaafchgfibbmhaaPk37
set_option linter.unusedSimpArgs false
set_option linter.unusedVariables false
namespace Go.Proofs.Ytaafchgfibbmhaa
def impA (s : Sys) (r : Row) : Int := (refuteF (conS s r true (if r.rel = 2 then 1 else 2))).2
def impB (s : Sys) (r : Row) : Int := if r.rel = 3 then (refuteF (conS s r false 2)).2 else 0
def impliesF (s : Sys) (r : Row) : Bool × Int := if impA s r = 3 ∨ impB s r = 3 then (false, 3) else (decide (impA s r = 0 ∧ impB s r = 0), 0)
theorem con_check {s : Sys} {r : Row} (hc : checkF s = true) (hl : s.rows.length < 10) (hr : formedF r s.vars 1000 = true) (back : Bool) {k : Int} (hk : 1 ≤ k ∧ k ≤ 3) : checkF (conS s r back k) = true := by
  simp only [checkF, conS, List.length_append, List.length_cons, List.length_nil, List.all_append, List.all_cons, List.all_nil, Bool.and_true, Bool.and_eq_true] at hc ⊢
  obtain ⟨⟨h1, h2⟩, h3⟩ := hc
  refine ⟨⟨h1, ?_⟩, h3, ?_⟩
  · simp only [decide_eq_true_eq] at h2 ⊢; omega
  · simp only [formedF, Bool.and_eq_true, beq_iff_eq, allF_iff, inB_iff, conRow] at hr ⊢
    obtain ⟨⟨⟨a, b⟩, c⟩, d⟩ := hr
    refine ⟨⟨⟨?_, hk⟩, ?_⟩, ?_⟩
    · cases back <;> simp [a]
    · cases back
      · exact c
      · intro n hn
        simp only [if_true, List.mem_map] at hn
        obtain ⟨m, hm, rfl⟩ := hn
        have := c m hm; omega
    · cases back
      · exact d
      · simp only [if_true]; omega
theorem refuteF_cases (s : Sys) : (refuteF s).2 = 3 ∨ (refuteF s).2 = 5 ∨ (refuteF s).2 = 0 := by
  unfold refuteF
  split <;> simp
@[reducible] def iBody : IC :=
  (.seq (.reg [bo .lss 51 3 50 49 3]) (.seq (.cond (.tmp 51) .skip (.exit 1)) (.seq (.block 2 (.seq (.reg [ia 52 97 48 50,
 ld 53 24 52,
 al 9 24,
 st 24 9 53]) (.seq (.reg [ld 55 24 9,
 k1 56 65 55 24,
 mv 54 56,
 ex 57 54 0,
 ex 58 54 1,
 al 10 47,
 st 47 10 57,
 sg 11 58]) (.seq (.seq (.reg [mv 59 11,
 bk .eql 60 28 59 3 28]) (.cond (.tmp 60) (.seq (.reg [mv 61 11,
 sgb 4 false,
 sg 5 61]) .ret) .skip)) (.reg [mv 62 7,
 mv 63 62,
 gT (mv 64 11) 63,
 gT (bk .eql 65 28 64 0 28) 63,
 pkf 66 63 65,
 sg 7 66]))))) (.reg [bk .add 67 3 50 1 3,
 mv 50 67]))))
def errs (ls : List Sys) : List Int := ls.map fun x => (refuteF x).2
def impR (ls : List Sys) : Bool × Int := if (errs ls).contains 3 = true then (false, 3) else ((errs ls).all (fun e => e == 0), 0)
theorem impLoop (ls : List Sys) (hls : ∀ x ∈ ls, checkF x = true) (hll : ls.length ≤ 1000) (N ep : Nat) (o : Nat → Obj') (m : Nat) (hg : Good o m) (ho : o N = .arr ep 24 2 (ls.map Sys.d)) (e : Nat → V) (e7 : e 7 = .d (.bool true)) (e48 : e 48 = .osl N ep) (e49 : e 49 = .d (.i ls.length)) (e50 : e 50 = .d (.i 0)) :
    loopS 0 (fun Q t => evW Try.prog 69 0 false iBody Q t) (blockQ 1 (thenQ (fun t => evW Try.prog 69 0 false (.seq (.reg [mv 68 7, sg 4 68, sgk 5 0]) .ret) (endW Try.prog [.tmp 4, .tmp 5] (.ret [.bool (impR ls).1, .i (impR ls).2])) t) (endW Try.prog [.tmp 4, .tmp 5] (.ret [.bool (impR ls).1, .i (impR ls).2])))) ⟨e, o, m⟩ := by
  have hN : N < m := hg.lt (by rw [ho]; exact Obj'.noConfusion)
  have w1 : N ≠ m := by omega
  have w2 : ∀ k, N ≠ m + k := fun k => by omega
  refine loop_fam (fun k : Nat => ⟨envJ [.junk, .junk, .junk, .junk, .junk, .junk, .junk, .d (.bool ((errs (ls.take k)).all (fun e => e == 0))), .junk, .junk, .junk, .junk, .junk, .junk, .junk, .junk, .junk, .junk, .junk, .junk, .junk, .junk, .junk, .junk, .junk, .junk, .junk, .junk, .junk, .junk, .junk, .junk, .junk, .junk, .junk, .junk, .junk, .junk, .junk, .junk, .junk, .junk, .junk, .junk, .junk, .junk, .junk, .junk, .osl N ep, .d (.i ls.length), .d (.i k)], o, m⟩)
    (fun k => k ≤ ls.length ∧ (errs (ls.take k)).contains 3 = false) (fun k => ls.length - k) 0 ⟨Nat.zero_le _, rfl⟩ (SLe.backL _ (by omega) (by omega) hg (fun _ _ => rfl) ?_) (fun k hk => ?_)
  · repeat (first | exact backE_nil | refine backE_junk ?_ | refine backE_d e7 ?_ | refine backE_d e49 ?_ | refine backE_d e50 ?_ | refine backE_v e48 (by simp [V.refs]; omega) ?_)
  simp only [iBody]
  simp +contextual only [go_sem, Int.reduceBEq, Int.reduceBNe, Int.reduceLT, Int.reduceLE, Int.reduceEq, Int.reduceNe, List.range_zero, Option.isSome_some, Nat.reducePow, and_self, List.cons.injEq, Nat.reduceEqDiff, Nat.reduceAdd, Nat.reduceSub, Nat.reduceMul, Nat.reduceLeDiff, Nat.reduceBEq, Nat.reduceLT, reduceIte, reduceCtorEq]
  refine cond_intro (fun h2 => ?_) (fun h2 => ?_)
  · simp at h2
    obtain ⟨x, hx⟩ : ∃ x, ls[k]? = some x := ⟨ls[k], List.getElem?_eq_getElem _⟩
    have hxc := hls x (List.mem_of_getElem? hx)
    have hsucc : errs (ls.take (k + 1)) = errs (ls.take k) ++ [(refuteF x).2] := by rw [List.take_add_one, hx]; simp [errs]
    have hlt : k < (ls.map Sys.d).length := by simp; omega
    simp +contextual only [go_sem, Int.reduceBEq, Int.reduceBNe, Int.reduceLT, Int.reduceLE, Int.reduceEq, Int.reduceNe, List.range_zero, Option.isSome_some, Nat.reducePow, and_self, List.cons.injEq, Nat.reduceEqDiff, Nat.reduceAdd, Nat.reduceSub, Nat.reduceMul, Nat.reduceLeDiff, Nat.reduceBEq, Nat.reduceLT, reduceIte, reduceCtorEq, hx, ho, w1, w2, Nat.add_assoc, Nat.left_eq_add, Nat.add_eq_left, Nat.add_left_cancel_iff, Sys.d, if_true, h2]
    refine call_give (refuted_c x hxc) ?_
    simp +contextual only [go_sem, Int.reduceBEq, Int.reduceBNe, Int.reduceLT, Int.reduceLE, Int.reduceEq, Int.reduceNe, List.range_zero, Option.isSome_some, Nat.reducePow, and_self, List.cons.injEq, Nat.reduceEqDiff, Nat.reduceAdd, Nat.reduceSub, Nat.reduceMul, Nat.reduceLeDiff, Nat.reduceBEq, Nat.reduceLT, reduceIte, reduceCtorEq, hx, ho, w1, w2, Nat.add_assoc, Nat.left_eq_add, Nat.add_eq_left, Nat.add_left_cancel_iff, Sys.d, Made.d, Row.d, if_true, h2]
    refine cond_intro (fun h3 => ?_) (fun h3 => ?_)
    · have h3' : (refuteF x).2 = 3 := by simpa using h3
      simp +contextual only [go_sem, Int.reduceBEq, Int.reduceBNe, Int.reduceLT, Int.reduceLE, Int.reduceEq, Int.reduceNe, List.range_zero, Option.isSome_some, Nat.reducePow, and_self, List.cons.injEq, Nat.reduceEqDiff, Nat.reduceAdd, Nat.reduceSub, Nat.reduceMul, Nat.reduceLeDiff, Nat.reduceBEq, Nat.reduceLT, reduceIte, reduceCtorEq]
      have hin : (errs ls).contains 3 = true := by
        simp only [List.contains_iff_mem, errs, List.mem_map]
        exact ⟨x, List.mem_of_getElem? hx, h3'⟩
      rw [impR, if_pos hin, h3']
    · have h3' : ¬ (refuteF x).2 = 3 := by simpa using h3
      cases hz : (refuteF x).2 == 0 with
      | true =>
        cases ha : (errs (ls.take k)).all (fun e => e == 0) with
        | true =>
          simp +contextual only [go_sem, Int.reduceBEq, Int.reduceBNe, Int.reduceLT, Int.reduceLE, Int.reduceEq, Int.reduceNe, List.range_zero, Option.isSome_some, Nat.reducePow, and_self, List.cons.injEq, Nat.reduceEqDiff, Nat.reduceAdd, Nat.reduceSub, Nat.reduceMul, Nat.reduceLeDiff, Nat.reduceBEq, Nat.reduceLT, reduceIte, reduceCtorEq, hz]
          refine nextS_intro (k + 1) ⟨h2, ?_⟩ (by omega) (SLe.backL _ (by omega) (by omega) hg (fun j hj => ?_) ?_)
          · rw [hsucc]; simp only [List.contains_eq_mem, List.mem_append, List.mem_singleton] ; have := hk.2; simp at this; simp [this, Ne.symm h3']
          · repeat (first | rfl | rw [upd_same] | rw [upd_ne _ _ _ _ (by omega)])
          · repeat (first | exact backE_nil | refine backE_junk ?_ | refine backE_d rfl ?_ | refine backE_d (by rw [hsucc, List.all_append, ha]; simp [hz]) ?_ | refine backE_d (d_int (wrapN (by omega))) ?_ | refine backE_v rfl (by simp [V.refs]; omega) ?_)
        | false =>
          simp +contextual only [go_sem, Int.reduceBEq, Int.reduceBNe, Int.reduceLT, Int.reduceLE, Int.reduceEq, Int.reduceNe, List.range_zero, Option.isSome_some, Nat.reducePow, and_self, List.cons.injEq, Nat.reduceEqDiff, Nat.reduceAdd, Nat.reduceSub, Nat.reduceMul, Nat.reduceLeDiff, Nat.reduceBEq, Nat.reduceLT, reduceIte, reduceCtorEq, hz]
          refine nextS_intro (k + 1) ⟨h2, ?_⟩ (by omega) (SLe.backL _ (by omega) (by omega) hg (fun j hj => ?_) ?_)
          · rw [hsucc]; simp only [List.contains_eq_mem, List.mem_append, List.mem_singleton] ; have := hk.2; simp at this; simp [this, Ne.symm h3']
          · repeat (first | rfl | rw [upd_same] | rw [upd_ne _ _ _ _ (by omega)])
          · repeat (first | exact backE_nil | refine backE_junk ?_ | refine backE_d rfl ?_ | refine backE_d (by rw [hsucc, List.all_append, ha]; simp [hz]) ?_ | refine backE_d (d_int (wrapN (by omega))) ?_ | refine backE_v rfl (by simp [V.refs]; omega) ?_)
      | false =>
        cases ha : (errs (ls.take k)).all (fun e => e == 0) with
        | true =>
          simp +contextual only [go_sem, Int.reduceBEq, Int.reduceBNe, Int.reduceLT, Int.reduceLE, Int.reduceEq, Int.reduceNe, List.range_zero, Option.isSome_some, Nat.reducePow, and_self, List.cons.injEq, Nat.reduceEqDiff, Nat.reduceAdd, Nat.reduceSub, Nat.reduceMul, Nat.reduceLeDiff, Nat.reduceBEq, Nat.reduceLT, reduceIte, reduceCtorEq, hz]
          refine nextS_intro (k + 1) ⟨h2, ?_⟩ (by omega) (SLe.backL _ (by omega) (by omega) hg (fun j hj => ?_) ?_)
          · rw [hsucc]; simp only [List.contains_eq_mem, List.mem_append, List.mem_singleton] ; have := hk.2; simp at this; simp [this, Ne.symm h3']
          · repeat (first | rfl | rw [upd_same] | rw [upd_ne _ _ _ _ (by omega)])
          · repeat (first | exact backE_nil | refine backE_junk ?_ | refine backE_d rfl ?_ | refine backE_d (by rw [hsucc, List.all_append, ha]; simp [hz]) ?_ | refine backE_d (d_int (wrapN (by omega))) ?_ | refine backE_v rfl (by simp [V.refs]; omega) ?_)
        | false =>
          simp +contextual only [go_sem, Int.reduceBEq, Int.reduceBNe, Int.reduceLT, Int.reduceLE, Int.reduceEq, Int.reduceNe, List.range_zero, Option.isSome_some, Nat.reducePow, and_self, List.cons.injEq, Nat.reduceEqDiff, Nat.reduceAdd, Nat.reduceSub, Nat.reduceMul, Nat.reduceLeDiff, Nat.reduceBEq, Nat.reduceLT, reduceIte, reduceCtorEq, hz]
          refine nextS_intro (k + 1) ⟨h2, ?_⟩ (by omega) (SLe.backL _ (by omega) (by omega) hg (fun j hj => ?_) ?_)
          · rw [hsucc]; simp only [List.contains_eq_mem, List.mem_append, List.mem_singleton] ; have := hk.2; simp at this; simp [this, Ne.symm h3']
          · repeat (first | rfl | rw [upd_same] | rw [upd_ne _ _ _ _ (by omega)])
          · repeat (first | exact backE_nil | refine backE_junk ?_ | refine backE_d rfl ?_ | refine backE_d (by rw [hsucc, List.all_append, ha]; simp [hz]) ?_ | refine backE_d (d_int (wrapN (by omega))) ?_ | refine backE_v rfl (by simp [V.refs]; omega) ?_)
  · simp +contextual only [go_sem, Int.reduceBEq, Int.reduceBNe, Int.reduceLT, Int.reduceLE, Int.reduceEq, Int.reduceNe, List.range_zero, Option.isSome_some, Nat.reducePow, and_self, List.cons.injEq, Nat.reduceEqDiff, Nat.reduceAdd, Nat.reduceSub, Nat.reduceMul, Nat.reduceLeDiff, Nat.reduceBEq, Nat.reduceLT, reduceIte, reduceCtorEq]
    simp at h2
    have hh := hk.2
    rw [List.take_of_length_le h2] at hh ⊢
    rw [impR, if_neg (by rw [hh]; exact Bool.noConfusion)]
theorem implies_c (s : Sys) (r : Row) (hs : s.Fits) (hrl : r.c.length ≤ 9223372036854775807) : PCt Try.prog 29 [s.d, r.d] (.ret [.bool (if checkF s = true ∧ s.rows.length ≠ 10 ∧ formedF r s.vars 1000 = true then (impliesF s r).1 else false), .i (if checkF s = true ∧ s.rows.length ≠ 10 ∧ formedF r s.vars 1000 = true then (impliesF s r).2 else 2)]) := by
  have hck := check_c s hs
  refine PCt.of_ev mix fn29 (by simp) ?_
  rw [c29]
  simp +contextual only [go_sem, Int.reduceBEq, Int.reduceBNe, Int.reduceLT, Int.reduceLE, Int.reduceEq, Int.reduceNe, List.range_zero, Option.isSome_some, Nat.reducePow, and_self, List.cons.injEq, Nat.reduceEqDiff, Nat.reduceAdd, Nat.reduceSub, Nat.reduceMul, Nat.reduceLeDiff, Nat.reduceBEq, Nat.reduceLT, reduceIte, reduceCtorEq, Sys.d, Row.d]
  refine call_keep hck rfl ?_
  cases hc : checkF s with
  | false =>
    simp +contextual only [go_sem, Int.reduceBEq, Int.reduceBNe, Int.reduceLT, Int.reduceLE, Int.reduceEq, Int.reduceNe, List.range_zero, Option.isSome_some, Nat.reducePow, and_self, List.cons.injEq, Nat.reduceEqDiff, Nat.reduceAdd, Nat.reduceSub, Nat.reduceMul, Nat.reduceLeDiff, Nat.reduceBEq, Nat.reduceLT, reduceIte, reduceCtorEq, Sys.d, Row.d, if_true, if_false]
  | true =>
    by_cases h10 : s.rows.length = 10
    · have h10' : ((s.rows.length : Int) == 10) = true := by simp; omega
      simp +contextual only [go_sem, Int.reduceBEq, Int.reduceBNe, Int.reduceLT, Int.reduceLE, Int.reduceEq, Int.reduceNe, List.range_zero, Option.isSome_some, Nat.reducePow, and_self, List.cons.injEq, Nat.reduceEqDiff, Nat.reduceAdd, Nat.reduceSub, Nat.reduceMul, Nat.reduceLeDiff, Nat.reduceBEq, Nat.reduceLT, reduceIte, reduceCtorEq, Sys.d, Row.d, if_true, if_false, h10']
      simp [h10]
    have h10' : ((s.rows.length : Int) == 10) = false := by simp; omega
    simp +contextual only [go_sem, Int.reduceBEq, Int.reduceBNe, Int.reduceLT, Int.reduceLE, Int.reduceEq, Int.reduceNe, List.range_zero, Option.isSome_some, Nat.reducePow, and_self, List.cons.injEq, Nat.reduceEqDiff, Nat.reduceAdd, Nat.reduceSub, Nat.reduceMul, Nat.reduceLeDiff, Nat.reduceBEq, Nat.reduceLT, reduceIte, reduceCtorEq, Sys.d, Row.d, if_true, if_false, h10']
    refine call_keep (formed_c r _ _ hrl (by omega)) rfl ?_
    cases hf : formedF r s.vars 1000 with
    | false =>
      simp +contextual only [go_sem, Int.reduceBEq, Int.reduceBNe, Int.reduceLT, Int.reduceLE, Int.reduceEq, Int.reduceNe, List.range_zero, Option.isSome_some, Nat.reducePow, and_self, List.cons.injEq, Nat.reduceEqDiff, Nat.reduceAdd, Nat.reduceSub, Nat.reduceMul, Nat.reduceLeDiff, Nat.reduceBEq, Nat.reduceLT, reduceIte, reduceCtorEq, Sys.d, Row.d, if_true, if_false]
    | true =>
      have hc' : checkF s = true ∧ ¬ s.rows.length = 10 ∧ formedF r s.vars 1000 = true := ⟨hc, h10, hf⟩
      rw [if_pos ⟨rfl, h10, rfl⟩, if_pos ⟨rfl, h10, rfl⟩]
      obtain ⟨v1, v5, r10, hall⟩ := check_rows hc
      have hf' := hf
      simp only [formedF, Bool.and_eq_true, beq_iff_eq, allF_iff, inB_iff] at hf'
      obtain ⟨⟨⟨f1, f2⟩, f3⟩, f4⟩ := hf'
      simp +contextual only [go_sem, Int.reduceBEq, Int.reduceBNe, Int.reduceLT, Int.reduceLE, Int.reduceEq, Int.reduceNe, List.range_zero, Option.isSome_some, Nat.reducePow, and_self, List.cons.injEq, Nat.reduceEqDiff, Nat.reduceAdd, Nat.reduceSub, Nat.reduceMul, Nat.reduceLeDiff, Nat.reduceBEq, Nat.reduceLT, reduceIte, reduceCtorEq, Sys.d, Row.d, if_true, if_false, h10']
      have con := fun (back : Bool) (k : Int) => contrary_c s r back k r10 (by omega) f3 f4
      refine call_give (con true 2) ?_
      simp +contextual only [go_sem, Int.reduceBEq, Int.reduceBNe, Int.reduceLT, Int.reduceLE, Int.reduceEq, Int.reduceNe, List.range_zero, Option.isSome_some, Nat.reducePow, and_self, List.cons.injEq, Nat.reduceEqDiff, Nat.reduceAdd, Nat.reduceSub, Nat.reduceMul, Nat.reduceLeDiff, Nat.reduceBEq, Nat.reduceLT, reduceIte, reduceCtorEq, Sys.d, Row.d, if_true, if_false, h10']
      cases h2 : r.rel == 2 with
      | true =>
        simp +contextual only [go_sem, Int.reduceBEq, Int.reduceBNe, Int.reduceLT, Int.reduceLE, Int.reduceEq, Int.reduceNe, List.range_zero, Option.isSome_some, Nat.reducePow, and_self, List.cons.injEq, Nat.reduceEqDiff, Nat.reduceAdd, Nat.reduceSub, Nat.reduceMul, Nat.reduceLeDiff, Nat.reduceBEq, Nat.reduceLT, reduceIte, reduceCtorEq, Sys.d, Row.d, if_true, if_false, h10']
        refine call_give (con true 1) ?_
        simp +contextual only [go_sem, Int.reduceBEq, Int.reduceBNe, Int.reduceLT, Int.reduceLE, Int.reduceEq, Int.reduceNe, List.range_zero, Option.isSome_some, Nat.reducePow, and_self, List.cons.injEq, Nat.reduceEqDiff, Nat.reduceAdd, Nat.reduceSub, Nat.reduceMul, Nat.reduceLeDiff, Nat.reduceBEq, Nat.reduceLT, reduceIte, reduceCtorEq, Sys.d, Row.d, if_true, if_false, h10', h2]
        have h2' : r.rel = 2 := by simpa using h2
        have hF : impliesF s r = impR [conS s r true 1] := by
          have hA : impA s r = (refuteF (conS s r true 1)).2 := by simp [impA, h2']
          have hB : impB s r = 0 := by simp [impB, h2']
          simp only [impliesF, impR, hA, hB, errs, List.map_cons, List.map_nil]
          rcases refuteF_cases (conS s r true 1) with h | h | h <;> simp [h]
        rw [hF]
        refine impLoop [conS s r true 1] (fun x hx => by simp only [List.mem_singleton] at hx; subst hx; exact con_check hc (by omega) hf true (by omega)) (by simp) 32 0 _ 38 ?_ ?_ _ ?_ ?_ ?_ ?_
        · repeat (first | exact Good.nil | refine Good.upd ?_ (by omega) rfl)
        · repeat (first | rfl | rw [upd_same] | rw [upd_ne _ _ _ _ (by omega)])
        · repeat (first | rfl | rw [upd_same] | rw [upd_ne _ _ _ _ (by omega)])
        · repeat (first | rfl | rw [upd_same] | rw [upd_ne _ _ _ _ (by omega)])
        · repeat (first | rfl | rw [upd_same] | rw [upd_ne _ _ _ _ (by omega)])
        · repeat (first | rfl | rw [upd_same] | rw [upd_ne _ _ _ _ (by omega)])
      | false =>
        cases h3 : r.rel == 3 with
        | true =>
          simp +contextual only [go_sem, Int.reduceBEq, Int.reduceBNe, Int.reduceLT, Int.reduceLE, Int.reduceEq, Int.reduceNe, List.range_zero, Option.isSome_some, Nat.reducePow, and_self, List.cons.injEq, Nat.reduceEqDiff, Nat.reduceAdd, Nat.reduceSub, Nat.reduceMul, Nat.reduceLeDiff, Nat.reduceBEq, Nat.reduceLT, reduceIte, reduceCtorEq, Sys.d, Row.d, if_true, if_false, h10', h3]
          refine call_give (con false 2) ?_
          simp +contextual only [go_sem, Int.reduceBEq, Int.reduceBNe, Int.reduceLT, Int.reduceLE, Int.reduceEq, Int.reduceNe, List.range_zero, Option.isSome_some, Nat.reducePow, and_self, List.cons.injEq, Nat.reduceEqDiff, Nat.reduceAdd, Nat.reduceSub, Nat.reduceMul, Nat.reduceLeDiff, Nat.reduceBEq, Nat.reduceLT, reduceIte, reduceCtorEq, Sys.d, Row.d, if_true, if_false, h10', h3]
          have h3' : r.rel = 3 := by simpa using h3
          have hF : impliesF s r = impR [conS s r true 2, conS s r false 2] := by
            have hA : impA s r = (refuteF (conS s r true 2)).2 := by simp [impA, h3']
            have hB : impB s r = (refuteF (conS s r false 2)).2 := by simp [impB, h3']
            simp only [impliesF, impR, hA, hB, errs, List.map_cons, List.map_nil]
            rcases refuteF_cases (conS s r true 2) with h | h | h <;> rcases refuteF_cases (conS s r false 2) with h' | h' | h' <;> simp [h, h']
          rw [hF]
          refine impLoop [conS s r true 2, conS s r false 2] (fun x hx => by
            simp only [List.mem_cons, List.not_mem_nil, or_false] at hx
            rcases hx with rfl | rfl <;> exact con_check hc (by omega) hf _ (by omega)) (by simp) 23 1 _ 42 ?_ ?_ _ ?_ ?_ ?_ ?_
          · repeat (first | exact Good.nil | refine Good.upd ?_ (by omega) rfl)
          · repeat (first | rfl | rw [upd_same] | rw [upd_ne _ _ _ _ (by omega)])
          · repeat (first | rfl | rw [upd_same] | rw [upd_ne _ _ _ _ (by omega)])
          · repeat (first | rfl | rw [upd_same] | rw [upd_ne _ _ _ _ (by omega)])
          · repeat (first | rfl | rw [upd_same] | rw [upd_ne _ _ _ _ (by omega)])
          · repeat (first | rfl | rw [upd_same] | rw [upd_ne _ _ _ _ (by omega)])
        | false =>
          simp +contextual only [go_sem, Int.reduceBEq, Int.reduceBNe, Int.reduceLT, Int.reduceLE, Int.reduceEq, Int.reduceNe, List.range_zero, Option.isSome_some, Nat.reducePow, and_self, List.cons.injEq, Nat.reduceEqDiff, Nat.reduceAdd, Nat.reduceSub, Nat.reduceMul, Nat.reduceLeDiff, Nat.reduceBEq, Nat.reduceLT, reduceIte, reduceCtorEq, Sys.d, Row.d, if_true, if_false, h10', h3]
          have h2' : ¬ r.rel = 2 := by simpa using h2
          have h3' : ¬ r.rel = 3 := by simpa using h3
          have hF : impliesF s r = impR [conS s r true 2] := by
            have hA : impA s r = (refuteF (conS s r true 2)).2 := by simp [impA, h2']
            have hB : impB s r = 0 := by simp [impB, h3']
            simp only [impliesF, impR, hA, hB, errs, List.map_cons, List.map_nil]
            rcases refuteF_cases (conS s r true 2) with h | h | h <;> simp [h]
          rw [hF]
          refine impLoop [conS s r true 2] (fun x hx => by simp only [List.mem_singleton] at hx; subst hx; exact con_check hc (by omega) hf true (by omega)) (by simp) 23 0 _ 35 ?_ ?_ _ ?_ ?_ ?_ ?_
          · repeat (first | exact Good.nil | refine Good.upd ?_ (by omega) rfl)
          · repeat (first | rfl | rw [upd_same] | rw [upd_ne _ _ _ _ (by omega)])
          · repeat (first | rfl | rw [upd_same] | rw [upd_ne _ _ _ _ (by omega)])
          · repeat (first | rfl | rw [upd_same] | rw [upd_ne _ _ _ _ (by omega)])
          · repeat (first | rfl | rw [upd_same] | rw [upd_ne _ _ _ _ (by omega)])
          · repeat (first | rfl | rw [upd_same] | rw [upd_ne _ _ _ _ (by omega)])
end Go.Proofs.Ytaafchgfibbmhaa
namespace Go.Proofs.Ytaafchgfibbmhaa
theorem implies'_c (s : Sys) (r : Row) (hc : checkF s = true) (hl : s.rows.length < 10) (hf : formedF r s.vars 1000 = true) : PCt Try.prog 31 [s.d, r.d] (.ret [.bool (impliesF s r).1, .i (impliesF s r).2]) := by
  obtain ⟨v1, v5, r10, hall⟩ := check_rows hc
  have hf' := hf
  simp only [formedF, Bool.and_eq_true, beq_iff_eq, allF_iff, inB_iff] at hf'
  obtain ⟨⟨⟨f1, f2⟩, f3⟩, f4⟩ := hf'
  have con := fun (back : Bool) (k : Int) => with_c s r back k r10 (by omega) f3 f4
  have ref := fun (back : Bool) (k : Int) (hk : 1 ≤ k ∧ k ≤ 3) => refute'_c (conS s r back k) (con_check hc hl hf back hk)
  refine PCt.of_ev mix fn31 (by simp) ?_
  rw [c31]
  simp +contextual only [go_sem, Int.reduceBEq, Int.reduceBNe, Int.reduceLT, Int.reduceLE, Int.reduceEq, Int.reduceNe, List.range_zero, Option.isSome_some, Nat.reducePow, and_self, List.cons.injEq, Nat.reduceEqDiff, Nat.reduceAdd, Nat.reduceSub, Nat.reduceMul, Nat.reduceLeDiff, Nat.reduceBEq, Nat.reduceLT, reduceIte, reduceCtorEq, Sys.d, Row.d]
  cases h2 : r.rel == 2 with
  | true =>
    have h2' : r.rel = 2 := by simpa using h2
    have h3 : (r.rel == 3) = false := by simp; omega
    have hA : impA s r = (refuteF (conS s r true 1)).2 := by simp [impA, h2']
    have hB : impB s r = 0 := by simp [impB, h2']
    simp +contextual only [go_sem, Int.reduceBEq, Int.reduceBNe, Int.reduceLT, Int.reduceLE, Int.reduceEq, Int.reduceNe, List.range_zero, Option.isSome_some, Nat.reducePow, and_self, List.cons.injEq, Nat.reduceEqDiff, Nat.reduceAdd, Nat.reduceSub, Nat.reduceMul, Nat.reduceLeDiff, Nat.reduceBEq, Nat.reduceLT, reduceIte, reduceCtorEq, Sys.d, Row.d, h2, h3]
    refine call_give (con true 1) ?_
    simp +contextual only [go_sem, Int.reduceBEq, Int.reduceBNe, Int.reduceLT, Int.reduceLE, Int.reduceEq, Int.reduceNe, List.range_zero, Option.isSome_some, Nat.reducePow, and_self, List.cons.injEq, Nat.reduceEqDiff, Nat.reduceAdd, Nat.reduceSub, Nat.reduceMul, Nat.reduceLeDiff, Nat.reduceBEq, Nat.reduceLT, reduceIte, reduceCtorEq, Sys.d, Row.d, h2, h3]
    refine call_give (ref true 1 (by omega)) ?_
    rcases refuteF_cases (conS s r true 1) with h | h | h
    all_goals
      rw [h]
      simp +contextual only [go_sem, Int.reduceBEq, Int.reduceBNe, Int.reduceLT, Int.reduceLE, Int.reduceEq, Int.reduceNe, List.range_zero, Option.isSome_some, Nat.reducePow, and_self, List.cons.injEq, Nat.reduceEqDiff, Nat.reduceAdd, Nat.reduceSub, Nat.reduceMul, Nat.reduceLeDiff, Nat.reduceBEq, Nat.reduceLT, reduceIte, reduceCtorEq, Sys.d, Row.d, Made.d, h2, h3]
      simp [impliesF, hA, hB, h]
  | false =>
    have h2' : ¬ r.rel = 2 := by simpa using h2
    have hA : impA s r = (refuteF (conS s r true 2)).2 := by simp [impA, h2']
    simp +contextual only [go_sem, Int.reduceBEq, Int.reduceBNe, Int.reduceLT, Int.reduceLE, Int.reduceEq, Int.reduceNe, List.range_zero, Option.isSome_some, Nat.reducePow, and_self, List.cons.injEq, Nat.reduceEqDiff, Nat.reduceAdd, Nat.reduceSub, Nat.reduceMul, Nat.reduceLeDiff, Nat.reduceBEq, Nat.reduceLT, reduceIte, reduceCtorEq, Sys.d, Row.d, h2]
    refine call_give (con true 2) ?_
    simp +contextual only [go_sem, Int.reduceBEq, Int.reduceBNe, Int.reduceLT, Int.reduceLE, Int.reduceEq, Int.reduceNe, List.range_zero, Option.isSome_some, Nat.reducePow, and_self, List.cons.injEq, Nat.reduceEqDiff, Nat.reduceAdd, Nat.reduceSub, Nat.reduceMul, Nat.reduceLeDiff, Nat.reduceBEq, Nat.reduceLT, reduceIte, reduceCtorEq, Sys.d, Row.d, h2]
    refine call_give (ref true 2 (by omega)) ?_
    cases h3 : r.rel == 3 with
    | true =>
      have h3' : r.rel = 3 := by simpa using h3
      have hB : impB s r = (refuteF (conS s r false 2)).2 := by simp [impB, h3']
      simp +contextual only [go_sem, Int.reduceBEq, Int.reduceBNe, Int.reduceLT, Int.reduceLE, Int.reduceEq, Int.reduceNe, List.range_zero, Option.isSome_some, Nat.reducePow, and_self, List.cons.injEq, Nat.reduceEqDiff, Nat.reduceAdd, Nat.reduceSub, Nat.reduceMul, Nat.reduceLeDiff, Nat.reduceBEq, Nat.reduceLT, reduceIte, reduceCtorEq, Sys.d, Row.d, Made.d, h2, h3]
      refine call_give (con false 2) ?_
      simp +contextual only [go_sem, Int.reduceBEq, Int.reduceBNe, Int.reduceLT, Int.reduceLE, Int.reduceEq, Int.reduceNe, List.range_zero, Option.isSome_some, Nat.reducePow, and_self, List.cons.injEq, Nat.reduceEqDiff, Nat.reduceAdd, Nat.reduceSub, Nat.reduceMul, Nat.reduceLeDiff, Nat.reduceBEq, Nat.reduceLT, reduceIte, reduceCtorEq, Sys.d, Row.d, Made.d, h2, h3]
      refine call_give (ref false 2 (by omega)) ?_
      rcases refuteF_cases (conS s r true 2) with h | h | h <;> rcases refuteF_cases (conS s r false 2) with h' | h' | h'
      all_goals
        rw [h, h']
        simp +contextual only [go_sem, Int.reduceBEq, Int.reduceBNe, Int.reduceLT, Int.reduceLE, Int.reduceEq, Int.reduceNe, List.range_zero, Option.isSome_some, Nat.reducePow, and_self, List.cons.injEq, Nat.reduceEqDiff, Nat.reduceAdd, Nat.reduceSub, Nat.reduceMul, Nat.reduceLeDiff, Nat.reduceBEq, Nat.reduceLT, reduceIte, reduceCtorEq, Sys.d, Row.d, Made.d, h2, h3]
        simp [impliesF, hA, hB, h, h']
    | false =>
      have h3' : ¬ r.rel = 3 := by simpa using h3
      have hB : impB s r = 0 := by simp [impB, h3']
      rcases refuteF_cases (conS s r true 2) with h | h | h
      all_goals
        rw [h]
        simp +contextual only [go_sem, Int.reduceBEq, Int.reduceBNe, Int.reduceLT, Int.reduceLE, Int.reduceEq, Int.reduceNe, List.range_zero, Option.isSome_some, Nat.reducePow, and_self, List.cons.injEq, Nat.reduceEqDiff, Nat.reduceAdd, Nat.reduceSub, Nat.reduceMul, Nat.reduceLeDiff, Nat.reduceBEq, Nat.reduceLT, reduceIte, reduceCtorEq, Sys.d, Row.d, Made.d, h2, h3]
        simp [impliesF, hA, hB, h]
end Go.Proofs.Ytaafchgfibbmhaa
