/-
  A PART OF THE PROOF (put together by program): several texts, one behind the other. Conditions: none.
-/
import Derived.Test.YtaafchgfibbmhaaPk36
set_option linter.unusedSimpArgs false
set_option linter.unusedVariables false
namespace Go.Proofs.Ytaafchgfibbmhaa
theorem refuted1_c (s : Sys) (hc : checkF s = true) (v : Nat) (hv : s.vars = v) (ib il : Nat) (o : Nat → Obj') (nx : Nat) (h1 : o ib = .row [.d (.i s.vars), .d (.sl (s.rows.map Row.d))]) (h3 : o il = .row [.nils])
    (l1 : ib < nx) (l3 : il < nx) (K X : V → (Nat → Obj') → Nat → Prop)
    (hK : match curE s v with | some l => ∀ n2, nx ≤ n2 → K (.tup []) (upd o il (.row [.d (stD l)])) n2 | none => ∀ n2, nx ≤ n2 → X (.d tooD) o n2) :
    CtK Try.prog 98 [.ptr ib 0, .ptr il 0] o nx K X := by
  have e2 : ib ≠ il := fun e => by subst e; rw [h1] at h3; injection h3 with h; simp at h
  refine CtK.of_ev mix fn98 (by simp) ?_
  rw [c98]
  simp +contextual only [go_sem, Int.reduceBEq, Int.reduceBNe, Int.reduceLT, Int.reduceLE, Int.reduceEq, Int.reduceNe, List.range_zero, Option.isSome_some, Nat.reducePow, and_self, List.cons.injEq, Nat.reduceEqDiff, Nat.reduceAdd, Nat.reduceSub, Nat.reduceMul, Nat.reduceLeDiff, Nat.reduceBEq, Nat.reduceLT, reduceIte, reduceCtorEq, h1, h3]
  have hst := stages_c s hc v (by omega)
  rw [hv]
  cases hcur : curE s v with
  | some l =>
    simp only [stagesR, hcur] at hst hK
    obtain ⟨hok, h200⟩ := curE_ok hc hcur
    have hA : curA s v = l := by simp [curA, hcur]
    have hget : (stagesD s v)[v]? = some (stD l) := by
      simp only [stagesD]
      rw [List.getElem?_map, List.getElem?_range (by omega)]
      simp [hA]
    rw [Sys.d, hv] at hst
    refine callD_give hst ?_
    simp +contextual only [go_sem, Int.reduceBEq, Int.reduceBNe, Int.reduceLT, Int.reduceLE, Int.reduceEq, Int.reduceNe, List.range_zero, Option.isSome_some, Nat.reducePow, and_self, List.cons.injEq, Nat.reduceEqDiff, Nat.reduceAdd, Nat.reduceSub, Nat.reduceMul, Nat.reduceLeDiff, Nat.reduceBEq, Nat.reduceLT, reduceIte, reduceCtorEq, h1, h3, hget, stD, hv]
    refine end_intro (objsOk_renL (ids := [ib, il]) (nx := nx) (by simp; omega) (by simp; omega) [([0], []), ([0], []), ([0], []), ([], []), ([0], []), ([0], []), ([], []), ([], []), ([1], [1])] (by decide)) ?_
    simp +contextual only [go_sem, Int.reduceBEq, Int.reduceBNe, Int.reduceLT, Int.reduceLE, Int.reduceEq, Int.reduceNe, List.range_zero, Option.isSome_some, Nat.reducePow, and_self, List.cons.injEq, Nat.reduceEqDiff, Nat.reduceAdd, Nat.reduceSub, Nat.reduceMul, Nat.reduceLeDiff, Nat.reduceBEq, Nat.reduceLT, reduceIte, reduceCtorEq]
    exact hK _ (by omega)
  | none =>
    simp only [stagesR, hcur] at hst hK
    rw [Sys.d, hv] at hst
    refine callD_pan hst (by decide) ?_
    simp +contextual only [go_sem, Int.reduceBEq, Int.reduceBNe, Int.reduceLT, Int.reduceLE, Int.reduceEq, Int.reduceNe, List.range_zero, Option.isSome_some, Nat.reducePow, and_self, List.cons.injEq, Nat.reduceEqDiff, Nat.reduceAdd, Nat.reduceSub, Nat.reduceMul, Nat.reduceLeDiff, Nat.reduceBEq, Nat.reduceLT, reduceIte, reduceCtorEq, h1, h3]
    refine badE_op rfl rfl ?_
    simp +contextual only [go_sem, Int.reduceBEq, Int.reduceBNe, Int.reduceLT, Int.reduceLE, Int.reduceEq, Int.reduceNe, List.range_zero, Option.isSome_some, Nat.reducePow, and_self, List.cons.injEq, Nat.reduceEqDiff, Nat.reduceAdd, Nat.reduceSub, Nat.reduceMul, Nat.reduceLeDiff, Nat.reduceBEq, Nat.reduceLT, reduceIte, reduceCtorEq, h1, h3]
    refine badE_op rfl rfl ?_
    simp +contextual only [go_sem, Int.reduceBEq, Int.reduceBNe, Int.reduceLT, Int.reduceLE, Int.reduceEq, Int.reduceNe, List.range_zero, Option.isSome_some, Nat.reducePow, and_self, List.cons.injEq, Nat.reduceEqDiff, Nat.reduceAdd, Nat.reduceSub, Nat.reduceMul, Nat.reduceLeDiff, Nat.reduceBEq, Nat.reduceLT, reduceIte, reduceCtorEq, h1, h3]
    refine badE_skip rfl (badE_skip rfl (badE_skip rfl (badE_nil ?_)))
    refine ⟨objsOk_renL (ids := [ib, il]) (nx := nx) (by simp; omega) (by simp; omega) [([0], []), ([0], []), ([0], []), ([], []), ([0], []), ([0], []), ([], []), ([], []), ([], [])] (by decide), ?_⟩
    simp only [panS, endG_pan, List.contains_nil, Bool.false_eq_true, if_false]
    exact hK _ (by omega)
def zeroM : Made := ⟨⟨[], 0, 0⟩, []⟩
def refuteF (s : Sys) : Made × Int := match curE s s.vars.toNat with
  | none => (zeroM, 3)
  | some [] => (zeroM, 5)
  | some (m :: _) => (m, 0)
theorem hz0 : (((0 : Nat) : Int) == 0) = true := rfl
theorem refuted_c (s : Sys) (hc : checkF s = true) : PCt Try.prog 65 [s.d] (.ret [(refuteF s).1.d, .i (refuteF s).2]) := by
  obtain ⟨v1, v5, r10, hall⟩ := check_rows hc
  refine PCt.of_ev mix fn65 (by simp) ?_
  rw [c65]
  simp +contextual only [go_sem, Int.reduceBEq, Int.reduceBNe, Int.reduceLT, Int.reduceLE, Int.reduceEq, Int.reduceNe, List.range_zero, Option.isSome_some, Nat.reducePow, and_self, List.cons.injEq, Nat.reduceEqDiff, Nat.reduceAdd, Nat.reduceSub, Nat.reduceMul, Nat.reduceLeDiff, Nat.reduceBEq, Nat.reduceLT, reduceIte, reduceCtorEq, Sys.d]
  refine callR_heap (attempt_c 98 _ _ _ _ _ ?_)
  refine refuted1_c s hc s.vars.toNat (by omega) 0 3 _ _ ?_ ?_ (by omega) (by omega) _ _ ?_
  · repeat (first | rfl | rw [upd_same] | rw [upd_ne _ _ _ _ (by omega)])
  · repeat (first | rfl | rw [upd_same] | rw [upd_ne _ _ _ _ (by omega)])
  cases hcur : curE s s.vars.toNat with
  | none =>
    intro n2 hn2
    refine ⟨rfl, ?_, by omega, fun o3 n3 q1 q2 => ?_⟩
    · repeat (first | rfl | rw [upd_same] | rw [upd_ne _ _ _ _ (by omega)])
    have q1' : o3 1 = zeroRow := by rw [q2 1 (by omega) (by omega)]; repeat (first | rfl | rw [upd_same] | rw [upd_ne _ _ _ _ (by omega)])
    simp +contextual only [go_sem, Int.reduceBEq, Int.reduceBNe, Int.reduceLT, Int.reduceLE, Int.reduceEq, Int.reduceNe, List.range_zero, Option.isSome_some, Nat.reducePow, and_self, List.cons.injEq, Nat.reduceEqDiff, Nat.reduceAdd, Nat.reduceSub, Nat.reduceMul, Nat.reduceLeDiff, Nat.reduceBEq, Nat.reduceLT, reduceIte, reduceCtorEq, q1']
    simp [refuteF, hcur, zeroM]
  | some l =>
    intro n2 hn2
    refine ⟨?_, by omega, fun o3 n3 q1 q2 => ?_⟩
    · repeat (first | rfl | rw [upd_same] | rw [upd_ne _ _ _ _ (by omega)])
    have q1' : o3 1 = zeroRow := by rw [q2 1 (by omega) (by omega)]; repeat (first | rfl | rw [upd_same] | rw [upd_ne _ _ _ _ (by omega)])
    have q3' : o3 3 = .row [.d (stD l)] := by rw [q2 3 (by omega) (by omega), upd_same]
    obtain ⟨hok, h200⟩ := curE_ok hc hcur
    cases l with
    | nil =>
      simp +contextual only [go_sem, Int.reduceBEq, Int.reduceBNe, Int.reduceLT, Int.reduceLE, Int.reduceEq, Int.reduceNe, List.range_zero, Option.isSome_some, Nat.reducePow, and_self, List.cons.injEq, Nat.reduceEqDiff, Nat.reduceAdd, Nat.reduceSub, Nat.reduceMul, Nat.reduceLeDiff, Nat.reduceBEq, Nat.reduceLT, reduceIte, reduceCtorEq, q1', q3', stD, hz0]
      simp [refuteF, hcur, zeroM]
    | cons m l =>
      have hlen : (((l.length + 1 : Nat) : Int) == 0) = false := by simp; omega
      have hm := hok m (by simp)
      have hcl := cloned_c [m] (by simp) (fun x hx => by simp at hx; subst hx; have := hm.lc; have := hm.lt; omega)
      have h1l : 1 ≤ l.length + 1 := by omega
      have h0l : (0 : Int) < 1 := by omega
      have ht1 : Int.toNat 1 = 1 := rfl
      simp +contextual only [go_sem, Int.reduceBEq, Int.reduceBNe, Int.reduceLT, Int.reduceLE, Int.reduceEq, Int.reduceNe, List.range_zero, Option.isSome_some, Nat.reducePow, and_self, List.cons.injEq, Nat.reduceEqDiff, Nat.reduceAdd, Nat.reduceSub, Nat.reduceMul, Nat.reduceLeDiff, Nat.reduceBEq, Nat.reduceLT, reduceIte, reduceCtorEq, q1', q3', stD, hlen, h1l, ht1, Nat.zero_le, if_true]
      refine call_give hcl ?_
      have ht0 : Int.toNat 0 = 0 := rfl
      simp +contextual only [go_sem, Int.reduceBEq, Int.reduceBNe, Int.reduceLT, Int.reduceLE, Int.reduceEq, Int.reduceNe, List.range_zero, Option.isSome_some, Nat.reducePow, and_self, List.cons.injEq, Nat.reduceEqDiff, Nat.reduceAdd, Nat.reduceSub, Nat.reduceMul, Nat.reduceLeDiff, Nat.reduceBEq, Nat.reduceLT, reduceIte, reduceCtorEq, q1', q3', stD, hlen, h1l, ht1, ht0, Nat.zero_le, if_true, Made.d, Row.d]
      simp [refuteF, hcur]
theorem refute'_c (s : Sys) (hc : checkF s = true) : PCt Try.prog 25 [s.d] (.ret [(refuteF s).1.d, .i (refuteF s).2]) := by
  obtain ⟨v1, v5, r10, hall⟩ := check_rows hc
  obtain ⟨v, hv⟩ : ∃ v : Nat, s.vars = v := ⟨s.vars.toNat, by omega⟩
  have hvt : s.vars.toNat = v := by omega
  have hst := stages'_c s hc v (by omega)
  refine PCt.of_ev mix fn25 (by simp) ?_
  rw [c25]
  simp +contextual only [go_sem, Int.reduceBEq, Int.reduceBNe, Int.reduceLT, Int.reduceLE, Int.reduceEq, Int.reduceNe, List.range_zero, Option.isSome_some, Nat.reducePow, and_self, List.cons.injEq, Nat.reduceEqDiff, Nat.reduceAdd, Nat.reduceSub, Nat.reduceMul, Nat.reduceLeDiff, Nat.reduceBEq, Nat.reduceLT, reduceIte, reduceCtorEq, Sys.d, hv]
  rw [Sys.d, hv] at hst
  refine call_give hst ?_
  have ht0 : Int.toNat 0 = 0 := rfl
  cases hcur : curE s v with
  | none =>
    simp +contextual only [go_sem, Int.reduceBEq, Int.reduceBNe, Int.reduceLT, Int.reduceLE, Int.reduceEq, Int.reduceNe, List.range_zero, Option.isSome_some, Nat.reducePow, and_self, List.cons.injEq, Nat.reduceEqDiff, Nat.reduceAdd, Nat.reduceSub, Nat.reduceMul, Nat.reduceLeDiff, Nat.reduceBEq, Nat.reduceLT, reduceIte, reduceCtorEq, Option.isSome_none]
    simp [refuteF, hvt, hcur, zeroM]
  | some l =>
    have hA : curA s v = l := by simp [curA, hcur]
    have hget : (stagesD s v)[v]? = some (stD l) := by
      simp only [stagesD]
      rw [List.getElem?_map, List.getElem?_range (by omega)]
      simp [hA]
    cases l with
    | nil =>
      simp +contextual only [go_sem, Int.reduceBEq, Int.reduceBNe, Int.reduceLT, Int.reduceLE, Int.reduceEq, Int.reduceNe, List.range_zero, Option.isSome_some, Nat.reducePow, and_self, List.cons.injEq, Nat.reduceEqDiff, Nat.reduceAdd, Nat.reduceSub, Nat.reduceMul, Nat.reduceLeDiff, Nat.reduceBEq, Nat.reduceLT, reduceIte, reduceCtorEq, if_true, hget, stD, hz0]
      simp [refuteF, hvt, hcur, zeroM]
    | cons m l =>
      have hlen : (((l.length + 1 : Nat) : Int) == 0) = false := by simp; omega
      simp +contextual only [go_sem, Int.reduceBEq, Int.reduceBNe, Int.reduceLT, Int.reduceLE, Int.reduceEq, Int.reduceNe, List.range_zero, Option.isSome_some, Nat.reducePow, and_self, List.cons.injEq, Nat.reduceEqDiff, Nat.reduceAdd, Nat.reduceSub, Nat.reduceMul, Nat.reduceLeDiff, Nat.reduceBEq, Nat.reduceLT, reduceIte, reduceCtorEq, if_true, hget, stD, hlen, ht0, Made.d, Row.d]
      simp [refuteF, hvt, hcur]
end Go.Proofs.Ytaafchgfibbmhaa
namespace Go.Proofs.Ytaafchgfibbmhaa
def conRow (r : Row) (back : Bool) (k : Int) : Row := ⟨if back = true then r.c.map (fun n => -n) else r.c, k, if back = true then -r.b else r.b⟩
def conS (s : Sys) (r : Row) (back : Bool) (k : Int) : Sys := ⟨s.vars, s.rows ++ [conRow r back k]⟩
def sgn (back : Bool) : Int := if back = true then -1 else 1
theorem comb_sgn (back : Bool) (l : List Int) : comb (sgn back) l 0 l = if back = true then l.map (fun n => -n) else l := by
  cases back
  · simp only [comb, sgn, Bool.false_eq_true, if_false]
    apply List.ext_getElem
    · simp
    · intro i h1 h2; simp
  · simp only [comb, sgn, if_true]
    apply List.ext_getElem
    · simp
    · intro i h1 h2; simp
theorem clip_c (l : List D) (hl : l.length ≤ 9223372036854775807) (hc : (l.all fun z => z.cells.length == 3) = true) : PVt Try.prog 107 [.sl l] (.csl l) := by
  refine PVt.of_ctk rfl ?_
  refine CtK.of_ev mix fn107 (by simp) ?_
  rw [c107]
  have hc' := hc
  simp only [D.cells] at hc'
  simp +contextual only [go_sem, Int.reduceBEq, Int.reduceBNe, Int.reduceLT, Int.reduceLE, Int.reduceEq, Int.reduceNe, List.range_zero, Option.isSome_some, Nat.reducePow, and_self, List.cons.injEq, Nat.reduceEqDiff, Nat.reduceAdd, Nat.reduceSub, Nat.reduceMul, Nat.reduceLeDiff, Nat.reduceBEq, Nat.reduceLT, reduceIte, reduceCtorEq, hc', if_true, Nat.zero_le, Nat.le_refl, List.take_length]
theorem contrary_c (s : Sys) (r : Row) (back : Bool) (k : Int) (hs : s.rows.length ≤ 10) (hr : r.c.length ≤ 1000) (hb : ∀ n ∈ r.c, -1000 ≤ n ∧ n ≤ 1000) (hb2 : -1000 ≤ r.b ∧ r.b ≤ 1000) : PCt Try.prog 71 [s.d, r.d, .i (sgn back), .i k] (.ret [(conS s r back k).d]) := by
  refine PCt.of_ev mix fn71 (by simp) ?_
  rw [c71]
  simp +contextual only [go_sem, Int.reduceBEq, Int.reduceBNe, Int.reduceLT, Int.reduceLE, Int.reduceEq, Int.reduceNe, List.range_zero, Option.isSome_some, Nat.reducePow, and_self, List.cons.injEq, Nat.reduceEqDiff, Nat.reduceAdd, Nat.reduceSub, Nat.reduceMul, Nat.reduceLeDiff, Nat.reduceBEq, Nat.reduceLT, reduceIte, reduceCtorEq, Sys.d, Row.d]
  have hsg : -1 ≤ sgn back ∧ sgn back ≤ 1 := by cases back <;> simp [sgn]
  have hmul : ∀ n : Int, sgn back * n = if back = true then -n else n := fun n => by cases back <;> simp [sgn]
  have hcb := combined_c (sgn back) r.c 0 r.c rfl hr (fun k p q hp hq => by
    have := hb p (List.mem_of_getElem? hp)
    rw [hmul]
    refine ⟨?_, by omega⟩
    split <;> omega)
  rw [comb_sgn] at hcb
  refine callD_give hcb ?_
  simp +contextual only [go_sem, Int.reduceBEq, Int.reduceBNe, Int.reduceLT, Int.reduceLE, Int.reduceEq, Int.reduceNe, List.range_zero, Option.isSome_some, Nat.reducePow, and_self, List.cons.injEq, Nat.reduceEqDiff, Nat.reduceAdd, Nat.reduceSub, Nat.reduceMul, Nat.reduceLeDiff, Nat.reduceBEq, Nat.reduceLT, reduceIte, reduceCtorEq, Sys.d, Row.d, hmul]
  refine end_intro (by decide) ?_
  simp +contextual only [go_sem, Int.reduceBEq, Int.reduceBNe, Int.reduceLT, Int.reduceLE, Int.reduceEq, Int.reduceNe, List.range_zero, Option.isSome_some, Nat.reducePow, and_self, List.cons.injEq, Nat.reduceEqDiff, Nat.reduceAdd, Nat.reduceSub, Nat.reduceMul, Nat.reduceLeDiff, Nat.reduceBEq, Nat.reduceLT, reduceIte, reduceCtorEq, Sys.d, Row.d, hmul]
  refine callD_val (clip_c _ (by simp; omega) (by simp [D.cells])) ?_
  have h8f : s.rows.length ≤ 1099511627775 := by omega
  have h8g : (s.rows.length + 1) * 40 ≤ 1099511627776 := by omega
  have a1 : ((s.rows.map Row.d).all fun z => z.cells.length == 3) = true := by simp [D.cells]
  simp only [D.cells] at a1
  have hw : IntKind.i64.wrap (if back = true then -r.b else r.b) = if back = true then -r.b else r.b := wrap64 (by split <;> omega) (by split <;> omega)
  simp +contextual only [go_sem, Int.reduceBEq, Int.reduceBNe, Int.reduceLT, Int.reduceLE, Int.reduceEq, Int.reduceNe, List.range_zero, Option.isSome_some, Nat.reducePow, and_self, List.cons.injEq, Nat.reduceEqDiff, Nat.reduceAdd, Nat.reduceSub, Nat.reduceMul, Nat.reduceLeDiff, Nat.reduceBEq, Nat.reduceLT, reduceIte, reduceCtorEq, Sys.d, Row.d, hmul, if_true, h8f, h8g, a1, hw]
  refine end_intro (by decide) ?_
  simp +contextual only [go_sem, Int.reduceBEq, Int.reduceBNe, Int.reduceLT, Int.reduceLE, Int.reduceEq, Int.reduceNe, List.range_zero, Option.isSome_some, Nat.reducePow, and_self, List.cons.injEq, Nat.reduceEqDiff, Nat.reduceAdd, Nat.reduceSub, Nat.reduceMul, Nat.reduceLeDiff, Nat.reduceBEq, Nat.reduceLT, reduceIte, reduceCtorEq, Sys.d, Row.d, hmul, hw]
  simp [conS, conRow]
@[reducible] def withO (s : Sys) (r : Row) : Nat → Obj' := upd (upd (upd (fun _ => .no) 0 (.row [.d (.i s.vars), .d (.sl (s.rows.map Row.d))])) 1 (.row [.d (.sl (r.c.map .i)), .d (.i r.rel), .d (.i r.b)])) 2 (.row [.d (.i 0), .nils])
theorem withO_good (s : Sys) (r : Row) : Good (withO s r) 3 := (((Good.nil (nx := 3)).upd (by omega) rfl).upd (by omega) rfl).upd (by omega) rfl
theorem with_c (s : Sys) (r : Row) (back : Bool) (k : Int) (hs : s.rows.length ≤ 10) (hr : r.c.length ≤ 1000) (hb : ∀ n ∈ r.c, -1000 ≤ n ∧ n ≤ 1000) (hb2 : -1000 ≤ r.b ∧ r.b ≤ 1000) : PCt Try.prog 74 [s.d, r.d, .bool back, .i k] (.ret [(conS s r back k).d]) := by
  have hw : ∀ n : Int, -1000 ≤ n → n ≤ 1000 → IntKind.i64.wrap (-n) = -n := fun n h1 h2 => wrap64 (by omega) (by omega)
  have hwb := hw r.b hb2.1 hb2.2
  refine PCt.of_ev mix fn74 (by simp) ?_
  rw [c74]
  cases back with
  | true =>
    simp +contextual only [go_sem, Int.reduceBEq, Int.reduceBNe, Int.reduceLT, Int.reduceLE, Int.reduceEq, Int.reduceNe, List.range_zero, Option.isSome_some, Nat.reducePow, and_self, List.cons.injEq, Nat.reduceEqDiff, Nat.reduceAdd, Nat.reduceSub, Nat.reduceMul, Nat.reduceLeDiff, Nat.reduceBEq, Nat.reduceLT, reduceIte, reduceCtorEq, Sys.d, Row.d, hwb]
    refine loop_fam (fun j : Nat => ⟨envJ [.junk, .junk, .d (.bool true), .junk, .ptr 0 0, .ptr 1 0, .junk, .junk, .ptr 2 0, .ptr 7 0, .d (.i j)], upd (upd (withO s r) 8 (.arr 0 3 1 (((r.c.map (fun n => -n)).take j).map .i))) 7 (.row [.osl 8 0, .d (.i k), .d (.i (-r.b))]), 8 + 1⟩)
      (fun j => j ≤ r.c.length) (fun j => r.c.length - j) 0 (Nat.zero_le _) (SLe.conv _ .nils 7 [.nils, .d (.i k), .d (.i (-r.b))] _ (by omega) (by omega) (by omega) ((withO_good s r).mono (by omega)) (fun j h1 h2 => ?_) (upd_same _ _ _) (convL_x (convL_d (convL_d convL_nil))) (.inl ⟨rfl, rfl, by decide⟩) ?_) (fun j hj => ?_)
    · repeat (first | rfl | rw [upd_same] | rw [upd_ne _ _ _ _ (by omega)])
    · repeat (first | exact convE_nil | refine convE_junk ?_ | refine convE_x rfl ?_ | refine convE_d rfl ?_ | refine convE_d (d_int (wrapN (by omega))) ?_ | refine convE_v rfl (by simp [V.refs] <;> omega) ?_)
    simp +contextual only [go_sem, Int.reduceBEq, Int.reduceBNe, Int.reduceLT, Int.reduceLE, Int.reduceEq, Int.reduceNe, List.range_zero, Option.isSome_some, Nat.reducePow, and_self, List.cons.injEq, Nat.reduceEqDiff, Nat.reduceAdd, Nat.reduceSub, Nat.reduceMul, Nat.reduceLeDiff, Nat.reduceBEq, Nat.reduceLT, reduceIte, reduceCtorEq]
    refine cond_intro (fun h2 => ?_) (fun h2 => ?_)
    · simp at h2
      obtain ⟨n, hn⟩ : ∃ n, r.c[j]? = some n := ⟨r.c[j], List.getElem?_eq_getElem _⟩
      have hnb := hb n (List.mem_of_getElem? hn)
      have hwn := hw n hnb.1 hnb.2
      have h8f : ((r.c.map (fun n => -n)).take j).length ≤ 140737488355327 := by simp; omega
      have h8g : (((r.c.map (fun n => -n)).take j).length + 1) * 8 ≤ 140737488355328 := by simp; omega
      simp +contextual only [go_sem, Int.reduceBEq, Int.reduceBNe, Int.reduceLT, Int.reduceLE, Int.reduceEq, Int.reduceNe, List.range_zero, Option.isSome_some, Nat.reducePow, and_self, List.cons.injEq, Nat.reduceEqDiff, Nat.reduceAdd, Nat.reduceSub, Nat.reduceMul, Nat.reduceLeDiff, Nat.reduceBEq, Nat.reduceLT, reduceIte, reduceCtorEq, hn, hwn, D.i, h8f, h8g, if_true, if_false]
      have hA2 : ((r.c.map (fun n => -n)).take j).map D.i ++ [D.i (-n)] = ((r.c.map (fun n => -n)).take (j + 1)).map D.i := by
        rw [List.take_add_one]; simp [hn]
      rw [hA2]
      refine nextS_intro (j + 1) h2 (by omega) (SLe.conv _ (.osl 8 1) 7 [.osl 8 1, .d (.i k), .d (.i (-r.b))] _ (by omega) (by omega) (by omega) ((withO_good s r).mono (by omega)) (fun j h1 h2 => ?_) (upd_same _ _ _) (convL_x (convL_d (convL_d convL_nil))) (.inr ⟨8, 1, by omega, rfl, ?_⟩) ?_)
      · repeat (first | rfl | rw [upd_same] | rw [upd_ne _ _ _ _ (by omega)])
      · repeat (first | rfl | rw [upd_same] | rw [upd_ne _ _ _ _ (by omega)])
      · repeat (first | exact convE_nil | refine convE_junk ?_ | refine convE_x rfl ?_ | refine convE_d rfl ?_ | refine convE_d (d_int (wrapN (by omega))) ?_ | refine convE_v rfl (by simp [V.refs] <;> omega) ?_)
    · simp at h2
      have h8f : s.rows.length ≤ 140737488355327 := by omega
      have h8g : (s.rows.length + 1) * 40 ≤ 140737488355328 := by omega
      have h8h : s.rows.length * 40 ≤ 140737488355328 := by omega
      have h8i : s.rows.length ≤ 140737488355328 := by omega
      have a1 : ((s.rows.map Row.d).all fun z => z.cells.length == 3) = true := by simp [D.cells]
      simp only [D.cells] at a1
      rw [List.take_of_length_le (by first | omega | (simp; omega))]
      simp +contextual only [go_sem, Int.reduceBEq, Int.reduceBNe, Int.reduceLT, Int.reduceLE, Int.reduceEq, Int.reduceNe, List.range_zero, Option.isSome_some, Nat.reducePow, and_self, List.cons.injEq, Nat.reduceEqDiff, Nat.reduceAdd, Nat.reduceSub, Nat.reduceMul, Nat.reduceLeDiff, Nat.reduceBEq, Nat.reduceLT, reduceIte, reduceCtorEq, a1, h8f, h8g, h8h, h8i, if_true, if_false]
      refine end_intro (by decide) ?_
      simp +contextual only [go_sem, Int.reduceBEq, Int.reduceBNe, Int.reduceLT, Int.reduceLE, Int.reduceEq, Int.reduceNe, List.range_zero, Option.isSome_some, Nat.reducePow, and_self, List.cons.injEq, Nat.reduceEqDiff, Nat.reduceAdd, Nat.reduceSub, Nat.reduceMul, Nat.reduceLeDiff, Nat.reduceBEq, Nat.reduceLT, reduceIte, reduceCtorEq]
      simp [conS, conRow]
  | false =>
    simp +contextual only [go_sem, Int.reduceBEq, Int.reduceBNe, Int.reduceLT, Int.reduceLE, Int.reduceEq, Int.reduceNe, List.range_zero, Option.isSome_some, Nat.reducePow, and_self, List.cons.injEq, Nat.reduceEqDiff, Nat.reduceAdd, Nat.reduceSub, Nat.reduceMul, Nat.reduceLeDiff, Nat.reduceBEq, Nat.reduceLT, reduceIte, reduceCtorEq, Sys.d, Row.d, hwb]
    refine loop_fam (fun j : Nat => ⟨envJ [.junk, .junk, .d (.bool false), .junk, .ptr 0 0, .ptr 1 0, .junk, .junk, .ptr 2 0, .ptr 7 0, .d (.i j)], upd (upd (withO s r) 8 (.arr 0 3 1 ((r.c.take j).map .i))) 7 (.row [.osl 8 0, .d (.i k), .d (.i r.b)]), 8 + 1⟩)
      (fun j => j ≤ r.c.length) (fun j => r.c.length - j) 0 (Nat.zero_le _) (SLe.conv _ .nils 7 [.nils, .d (.i k), .d (.i r.b)] _ (by omega) (by omega) (by omega) ((withO_good s r).mono (by omega)) (fun j h1 h2 => ?_) (upd_same _ _ _) (convL_x (convL_d (convL_d convL_nil))) (.inl ⟨rfl, rfl, by decide⟩) ?_) (fun j hj => ?_)
    · repeat (first | rfl | rw [upd_same] | rw [upd_ne _ _ _ _ (by omega)])
    · repeat (first | exact convE_nil | refine convE_junk ?_ | refine convE_x rfl ?_ | refine convE_d rfl ?_ | refine convE_d (d_int (wrapN (by omega))) ?_ | refine convE_v rfl (by simp [V.refs] <;> omega) ?_)
    simp +contextual only [go_sem, Int.reduceBEq, Int.reduceBNe, Int.reduceLT, Int.reduceLE, Int.reduceEq, Int.reduceNe, List.range_zero, Option.isSome_some, Nat.reducePow, and_self, List.cons.injEq, Nat.reduceEqDiff, Nat.reduceAdd, Nat.reduceSub, Nat.reduceMul, Nat.reduceLeDiff, Nat.reduceBEq, Nat.reduceLT, reduceIte, reduceCtorEq]
    refine cond_intro (fun h2 => ?_) (fun h2 => ?_)
    · simp at h2
      obtain ⟨n, hn⟩ : ∃ n, r.c[j]? = some n := ⟨r.c[j], List.getElem?_eq_getElem _⟩
      have hnb := hb n (List.mem_of_getElem? hn)
      have hwn := hw n hnb.1 hnb.2
      have h8f : (r.c.take j).length ≤ 140737488355327 := by simp; omega
      have h8g : ((r.c.take j).length + 1) * 8 ≤ 140737488355328 := by simp; omega
      simp +contextual only [go_sem, Int.reduceBEq, Int.reduceBNe, Int.reduceLT, Int.reduceLE, Int.reduceEq, Int.reduceNe, List.range_zero, Option.isSome_some, Nat.reducePow, and_self, List.cons.injEq, Nat.reduceEqDiff, Nat.reduceAdd, Nat.reduceSub, Nat.reduceMul, Nat.reduceLeDiff, Nat.reduceBEq, Nat.reduceLT, reduceIte, reduceCtorEq, hn, hwn, D.i, h8f, h8g, if_true, if_false]
      have hA2 : (r.c.take j).map D.i ++ [D.i (n)] = (r.c.take (j + 1)).map D.i := by
        rw [List.take_add_one]; simp [hn]
      rw [hA2]
      refine nextS_intro (j + 1) h2 (by omega) (SLe.conv _ (.osl 8 1) 7 [.osl 8 1, .d (.i k), .d (.i r.b)] _ (by omega) (by omega) (by omega) ((withO_good s r).mono (by omega)) (fun j h1 h2 => ?_) (upd_same _ _ _) (convL_x (convL_d (convL_d convL_nil))) (.inr ⟨8, 1, by omega, rfl, ?_⟩) ?_)
      · repeat (first | rfl | rw [upd_same] | rw [upd_ne _ _ _ _ (by omega)])
      · repeat (first | rfl | rw [upd_same] | rw [upd_ne _ _ _ _ (by omega)])
      · repeat (first | exact convE_nil | refine convE_junk ?_ | refine convE_x rfl ?_ | refine convE_d rfl ?_ | refine convE_d (d_int (wrapN (by omega))) ?_ | refine convE_v rfl (by simp [V.refs] <;> omega) ?_)
    · simp at h2
      have h8f : s.rows.length ≤ 140737488355327 := by omega
      have h8g : (s.rows.length + 1) * 40 ≤ 140737488355328 := by omega
      have h8h : s.rows.length * 40 ≤ 140737488355328 := by omega
      have h8i : s.rows.length ≤ 140737488355328 := by omega
      have a1 : ((s.rows.map Row.d).all fun z => z.cells.length == 3) = true := by simp [D.cells]
      simp only [D.cells] at a1
      rw [List.take_of_length_le (by first | omega | (simp; omega))]
      simp +contextual only [go_sem, Int.reduceBEq, Int.reduceBNe, Int.reduceLT, Int.reduceLE, Int.reduceEq, Int.reduceNe, List.range_zero, Option.isSome_some, Nat.reducePow, and_self, List.cons.injEq, Nat.reduceEqDiff, Nat.reduceAdd, Nat.reduceSub, Nat.reduceMul, Nat.reduceLeDiff, Nat.reduceBEq, Nat.reduceLT, reduceIte, reduceCtorEq, a1, h8f, h8g, h8h, h8i, if_true, if_false]
      refine end_intro (by decide) ?_
      simp +contextual only [go_sem, Int.reduceBEq, Int.reduceBNe, Int.reduceLT, Int.reduceLE, Int.reduceEq, Int.reduceNe, List.range_zero, Option.isSome_some, Nat.reducePow, and_self, List.cons.injEq, Nat.reduceEqDiff, Nat.reduceAdd, Nat.reduceSub, Nat.reduceMul, Nat.reduceLeDiff, Nat.reduceBEq, Nat.reduceLT, reduceIte, reduceCtorEq]
      simp [conS, conRow]
end Go.Proofs.Ytaafchgfibbmhaa
