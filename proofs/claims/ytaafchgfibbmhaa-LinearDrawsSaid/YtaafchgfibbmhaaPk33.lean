/-
  A PART OF THE PROOF (put together by program): several texts, one behind the other. Conditions: none.
-/
import Derived.Test.YtaafchgfibbmhaaPk32
set_option linter.unusedSimpArgs false
set_option linter.unusedVariables false
namespace Go.Proofs.Ytaafchgfibbmhaa
theorem refuted1_c (s : Sys) (hc : checkF s = true) (v : Nat) (hv : s.vars = v) (ib il : Nat) (o : Nat → Obj') (nx : Nat) (h1 : o ib = .row [.d (.i s.vars), .d (.sl (s.rows.map Row.d))]) (h3 : o il = .row [.nils])
    (l1 : ib < nx) (l3 : il < nx) (K X : V → (Nat → Obj') → Nat → Prop)
    (hK : match curE s v with | some l => ∀ n2, nx ≤ n2 → K (.tup []) (upd o il (.row [.d (stD l)])) n2 | none => ∀ n2, nx ≤ n2 → X (.d tooD) o n2) :
    CtK Try.prog 98 [.ptr ib 0, .ptr il 0] o nx K X := by
  have e2 : ib ≠ il := fun e => by subst e; rw [h1] at h3; injection h3 with h; simp at h
  refine CtK.of_ev mix fn98 (by simp) ?_
  rw [c98]
  simp +contextual only [go_sem, h1, h3]
  have hst := stages_c s hc v (by omega)
  rw [hv]
  cases hcur : curE s v with
  | some l =>
    simp only [stagesR, hcur] at hst hK
    obtain ⟨hok, h200⟩ := curE_ok hc hcur
    have hA : curA s v = l := by simp [curA, hcur]
    have hget : (stagesD s v)[v]? = some (stD l) := by
      simp only [stagesD]
      rw [List.getElem?_map, List.getElem?_range (by omega)]
      simp [hA]
    rw [Sys.d, hv] at hst
    refine callD_give hst ?_
    simp +contextual only [go_sem, h1, h3, hget, stD, hv]
    refine end_intro (objsOk_renL (ids := [ib, il]) (nx := nx) (by simp; omega) (by simp; omega) [([0], []), ([0], []), ([0], []), ([], []), ([0], []), ([0], []), ([], []), ([], []), ([1], [1])] (by decide)) ?_
    simp +contextual only [go_sem]
    exact hK _ (by omega)
  | none =>
    simp only [stagesR, hcur] at hst hK
    rw [Sys.d, hv] at hst
    refine callD_pan hst (by decide) ?_
    simp +contextual only [go_sem, h1, h3]
    refine badE_op rfl rfl ?_
    simp +contextual only [go_sem, h1, h3]
    refine badE_op rfl rfl ?_
    simp +contextual only [go_sem, h1, h3]
    refine badE_skip rfl (badE_skip rfl (badE_skip rfl (badE_nil ?_)))
    refine ⟨objsOk_renL (ids := [ib, il]) (nx := nx) (by simp; omega) (by simp; omega) [([0], []), ([0], []), ([0], []), ([], []), ([0], []), ([0], []), ([], []), ([], []), ([], [])] (by decide), ?_⟩
    simp only [panS, endG_pan, List.contains_nil, Bool.false_eq_true, if_false]
    exact hK _ (by omega)
def zeroM : Made := ⟨⟨[], 0, 0⟩, []⟩
def refuteF (s : Sys) : Made × Int := match curE s s.vars.toNat with
  | none => (zeroM, 3)
  | some [] => (zeroM, 5)
  | some (m :: _) => (m, 0)
theorem hz0 : (((0 : Nat) : Int) == 0) = true := rfl
theorem refuted_c (s : Sys) (hc : checkF s = true) : PCt Try.prog 65 [s.d] (.ret [(refuteF s).1.d, .i (refuteF s).2]) := by
  obtain ⟨v1, v5, r10, hall⟩ := check_rows hc
  refine PCt.of_ev mix fn65 (by simp) ?_
  rw [c65]
  simp +contextual only [go_sem, Sys.d]
  refine callR_heap (attempt_c 98 _ _ _ _ _ ?_)
  refine refuted1_c s hc s.vars.toNat (by omega) 0 3 _ _ ?_ ?_ (by omega) (by omega) _ _ ?_
  · repeat (first | rfl | rw [upd_same] | rw [upd_ne _ _ _ _ (by omega)])
  · repeat (first | rfl | rw [upd_same] | rw [upd_ne _ _ _ _ (by omega)])
  cases hcur : curE s s.vars.toNat with
  | none =>
    intro n2 hn2
    refine ⟨rfl, ?_, by omega, fun o3 n3 q1 q2 => ?_⟩
    · repeat (first | rfl | rw [upd_same] | rw [upd_ne _ _ _ _ (by omega)])
    have q1' : o3 1 = zeroRow := by rw [q2 1 (by omega) (by omega)]; repeat (first | rfl | rw [upd_same] | rw [upd_ne _ _ _ _ (by omega)])
    simp +contextual only [go_sem, q1']
    simp [refuteF, hcur, zeroM]
  | some l =>
    intro n2 hn2
    refine ⟨?_, by omega, fun o3 n3 q1 q2 => ?_⟩
    · repeat (first | rfl | rw [upd_same] | rw [upd_ne _ _ _ _ (by omega)])
    have q1' : o3 1 = zeroRow := by rw [q2 1 (by omega) (by omega)]; repeat (first | rfl | rw [upd_same] | rw [upd_ne _ _ _ _ (by omega)])
    have q3' : o3 3 = .row [.d (stD l)] := by rw [q2 3 (by omega) (by omega), upd_same]
    obtain ⟨hok, h200⟩ := curE_ok hc hcur
    cases l with
    | nil =>
      simp +contextual only [go_sem, q1', q3', stD, hz0]
      simp [refuteF, hcur, zeroM]
    | cons m l =>
      have hlen : (((l.length + 1 : Nat) : Int) == 0) = false := by simp; omega
      have hm := hok m (by simp)
      have hcl := cloned_c [m] (by simp) (fun x hx => by simp at hx; subst hx; have := hm.lc; have := hm.lt; omega)
      have h1l : 1 ≤ l.length + 1 := by omega
      have h0l : (0 : Int) < 1 := by omega
      have ht1 : Int.toNat 1 = 1 := rfl
      simp +contextual only [go_sem, q1', q3', stD, hlen, h1l, ht1, Nat.zero_le, if_true]
      refine call_give hcl ?_
      have ht0 : Int.toNat 0 = 0 := rfl
      simp +contextual only [go_sem, q1', q3', stD, hlen, h1l, ht1, ht0, Nat.zero_le, if_true, Made.d, Row.d]
      simp [refuteF, hcur]
theorem refute_c (s : Sys) (hs : s.Fits) : PCt Try.prog 22 [s.d] (.ret [(if checkF s = true then (refuteF s).1 else zeroM).d, .i (if checkF s = true then (refuteF s).2 else 2)]) := by
  have hck := check_c s hs
  refine PCt.of_ev mix fn22 (by simp) ?_
  rw [c22]
  simp +contextual only [go_sem, Sys.d]
  refine call_keep hck rfl ?_
  cases hc : checkF s with
  | false =>
    simp +contextual only [go_sem, Sys.d, if_true, if_false]
    simp [zeroM]
  | true =>
    simp +contextual only [go_sem, Sys.d, if_true, if_false]
    refine call_give (refuted_c s hc) ?_
    simp +contextual only [go_sem, Sys.d, if_true, if_false, Made.d, Row.d]
end Go.Proofs.Ytaafchgfibbmhaa
namespace Go.Proofs.Ytaafchgfibbmhaa
def conRow (r : Row) (back : Bool) (k : Int) : Row := ⟨if back = true then r.c.map (fun n => -n) else r.c, k, if back = true then -r.b else r.b⟩
def conS (s : Sys) (r : Row) (back : Bool) (k : Int) : Sys := ⟨s.vars, s.rows ++ [conRow r back k]⟩
def sgn (back : Bool) : Int := if back = true then -1 else 1
theorem comb_sgn (back : Bool) (l : List Int) : comb (sgn back) l 0 l = if back = true then l.map (fun n => -n) else l := by
  cases back
  · simp only [comb, sgn, Bool.false_eq_true, if_false]
    apply List.ext_getElem
    · simp
    · intro i h1 h2; simp
  · simp only [comb, sgn, if_true]
    apply List.ext_getElem
    · simp
    · intro i h1 h2; simp
theorem clip_c (l : List D) (hl : l.length ≤ 9223372036854775807) (hc : (l.all fun z => z.cells.length == 3) = true) : PVt Try.prog 107 [.sl l] (.csl l) := by
  refine PVt.of_ctk rfl ?_
  refine CtK.of_ev mix fn107 (by simp) ?_
  rw [c107]
  have hc' := hc
  simp only [D.cells] at hc'
  simp +contextual only [go_sem, hc', if_true, Nat.zero_le, Nat.le_refl, List.take_length]
theorem contrary_c (s : Sys) (r : Row) (back : Bool) (k : Int) (hs : s.rows.length ≤ 10) (hr : r.c.length ≤ 1000) (hb : ∀ n ∈ r.c, -1000 ≤ n ∧ n ≤ 1000) (hb2 : -1000 ≤ r.b ∧ r.b ≤ 1000) : PCt Try.prog 71 [s.d, r.d, .i (sgn back), .i k] (.ret [(conS s r back k).d]) := by
  refine PCt.of_ev mix fn71 (by simp) ?_
  rw [c71]
  simp +contextual only [go_sem, Sys.d, Row.d]
  have hsg : -1 ≤ sgn back ∧ sgn back ≤ 1 := by cases back <;> simp [sgn]
  have hmul : ∀ n : Int, sgn back * n = if back = true then -n else n := fun n => by cases back <;> simp [sgn]
  have hcb := combined_c (sgn back) r.c 0 r.c rfl hr (fun k p q hp hq => by
    have := hb p (List.mem_of_getElem? hp)
    rw [hmul]
    refine ⟨?_, by omega⟩
    split <;> omega)
  rw [comb_sgn] at hcb
  refine callD_give hcb ?_
  simp +contextual only [go_sem, Sys.d, Row.d, hmul]
  refine end_intro (by decide) ?_
  simp +contextual only [go_sem, Sys.d, Row.d, hmul]
  refine callD_val (clip_c _ (by simp; omega) (by simp [D.cells])) ?_
  have h8f : s.rows.length ≤ 1099511627775 := by omega
  have h8g : (s.rows.length + 1) * 40 ≤ 1099511627776 := by omega
  have a1 : ((s.rows.map Row.d).all fun z => z.cells.length == 3) = true := by simp [D.cells]
  simp only [D.cells] at a1
  have hw : IntKind.i64.wrap (if back = true then -r.b else r.b) = if back = true then -r.b else r.b := wrap64 (by split <;> omega) (by split <;> omega)
  simp +contextual only [go_sem, Sys.d, Row.d, hmul, if_true, h8f, h8g, a1, hw]
  refine end_intro (by decide) ?_
  simp +contextual only [go_sem, Sys.d, Row.d, hmul, hw]
  simp [conS, conRow]
end Go.Proofs.Ytaafchgfibbmhaa
namespace Go.Proofs.Ytaafchgfibbmhaa
def impA (s : Sys) (r : Row) : Int := (refuteF (conS s r true (if r.rel = 2 then 1 else 2))).2
def impB (s : Sys) (r : Row) : Int := if r.rel = 3 then (refuteF (conS s r false 2)).2 else 0
def impliesF (s : Sys) (r : Row) : Bool × Int := if impA s r = 3 ∨ impB s r = 3 then (false, 3) else (decide (impA s r = 0 ∧ impB s r = 0), 0)
theorem con_check {s : Sys} {r : Row} (hc : checkF s = true) (hl : s.rows.length < 10) (hr : formedF r s.vars 1000 = true) (back : Bool) {k : Int} (hk : 1 ≤ k ∧ k ≤ 3) : checkF (conS s r back k) = true := by
  simp only [checkF, conS, List.length_append, List.length_cons, List.length_nil, List.all_append, List.all_cons, List.all_nil, Bool.and_true, Bool.and_eq_true] at hc ⊢
  obtain ⟨⟨h1, h2⟩, h3⟩ := hc
  refine ⟨⟨h1, ?_⟩, h3, ?_⟩
  · simp only [decide_eq_true_eq] at h2 ⊢; omega
  · simp only [formedF, Bool.and_eq_true, beq_iff_eq, allF_iff, inB_iff, conRow] at hr ⊢
    obtain ⟨⟨⟨a, b⟩, c⟩, d⟩ := hr
    refine ⟨⟨⟨?_, hk⟩, ?_⟩, ?_⟩
    · cases back <;> simp [a]
    · cases back
      · exact c
      · intro n hn
        simp only [if_true, List.mem_map] at hn
        obtain ⟨m, hm, rfl⟩ := hn
        have := c m hm; omega
    · cases back
      · exact d
      · simp only [if_true]; omega
theorem refuteF_cases (s : Sys) : (refuteF s).2 = 3 ∨ (refuteF s).2 = 5 ∨ (refuteF s).2 = 0 := by
  unfold refuteF
  split <;> simp
@[reducible] def iBody : IC :=
  (.seq (.reg [bo .lss 51 3 50 49 3]) (.seq (.cond (.tmp 51) .skip (.exit 1)) (.seq (.block 2 (.seq (.reg [ia 52 97 48 50,
 ld 53 24 52,
 al 9 24,
 st 24 9 53]) (.seq (.reg [ld 55 24 9,
 k1 56 65 55 24,
 mv 54 56,
 ex 57 54 0,
 ex 58 54 1,
 al 10 47,
 st 47 10 57,
 sg 11 58]) (.seq (.seq (.reg [mv 59 11,
 bk .eql 60 28 59 3 28]) (.cond (.tmp 60) (.seq (.reg [mv 61 11,
 sgb 4 false,
 sg 5 61]) .ret) .skip)) (.reg [mv 62 7,
 mv 63 62,
 gT (mv 64 11) 63,
 gT (bk .eql 65 28 64 0 28) 63,
 pkf 66 63 65,
 sg 7 66]))))) (.reg [bk .add 67 3 50 1 3,
 mv 50 67]))))
def errs (ls : List Sys) : List Int := ls.map fun x => (refuteF x).2
def impR (ls : List Sys) : Bool × Int := if (errs ls).contains 3 = true then (false, 3) else ((errs ls).all (fun e => e == 0), 0)
theorem impLoop (ls : List Sys) (hls : ∀ x ∈ ls, checkF x = true) (hll : ls.length ≤ 1000) (N ep : Nat) (o : Nat → Obj') (m : Nat) (hg : Good o m) (ho : o N = .arr ep 24 2 (ls.map Sys.d)) (e : Nat → V) (e7 : e 7 = .d (.bool true)) (e48 : e 48 = .osl N ep) (e49 : e 49 = .d (.i ls.length)) (e50 : e 50 = .d (.i 0)) :
    loopS 0 (fun Q t => evW Try.prog 69 0 false iBody Q t) (blockQ 1 (thenQ (fun t => evW Try.prog 69 0 false (.seq (.reg [mv 68 7, sg 4 68, sgk 5 0]) .ret) (endW Try.prog [.tmp 4, .tmp 5] (.ret [.bool (impR ls).1, .i (impR ls).2])) t) (endW Try.prog [.tmp 4, .tmp 5] (.ret [.bool (impR ls).1, .i (impR ls).2])))) ⟨e, o, m⟩ := by
  have hN : N < m := hg.lt (by rw [ho]; exact Obj'.noConfusion)
  have w1 : N ≠ m := by omega
  have w2 : ∀ k, N ≠ m + k := fun k => by omega
  refine loop_fam (fun k : Nat => ⟨envJ [.junk, .junk, .junk, .junk, .junk, .junk, .junk, .d (.bool ((errs (ls.take k)).all (fun e => e == 0))), .junk, .junk, .junk, .junk, .junk, .junk, .junk, .junk, .junk, .junk, .junk, .junk, .junk, .junk, .junk, .junk, .junk, .junk, .junk, .junk, .junk, .junk, .junk, .junk, .junk, .junk, .junk, .junk, .junk, .junk, .junk, .junk, .junk, .junk, .junk, .junk, .junk, .junk, .junk, .junk, .osl N ep, .d (.i ls.length), .d (.i k)], o, m⟩)
    (fun k => k ≤ ls.length ∧ (errs (ls.take k)).contains 3 = false) (fun k => ls.length - k) 0 ⟨Nat.zero_le _, rfl⟩ (SLe.backL _ (by omega) (by omega) hg (fun _ _ => rfl) ?_) (fun k hk => ?_)
  · repeat (first | exact backE_nil | refine backE_junk ?_ | refine backE_d e7 ?_ | refine backE_d e49 ?_ | refine backE_d e50 ?_ | refine backE_v e48 (by simp [V.refs]; omega) ?_)
  simp only [iBody]
  simp +contextual only [go_sem]
  refine cond_intro (fun h2 => ?_) (fun h2 => ?_)
  · simp at h2
    obtain ⟨x, hx⟩ : ∃ x, ls[k]? = some x := ⟨ls[k], List.getElem?_eq_getElem _⟩
    have hxc := hls x (List.mem_of_getElem? hx)
    have hsucc : errs (ls.take (k + 1)) = errs (ls.take k) ++ [(refuteF x).2] := by rw [List.take_add_one, hx]; simp [errs]
    have hlt : k < (ls.map Sys.d).length := by simp; omega
    simp +contextual only [go_sem, hx, ho, w1, w2, Nat.add_assoc, Nat.left_eq_add, Nat.add_eq_left, Nat.add_left_cancel_iff, Sys.d, if_true, h2]
    refine call_give (refuted_c x hxc) ?_
    simp +contextual only [go_sem, hx, ho, w1, w2, Nat.add_assoc, Nat.left_eq_add, Nat.add_eq_left, Nat.add_left_cancel_iff, Sys.d, Made.d, Row.d, if_true, h2]
    refine cond_intro (fun h3 => ?_) (fun h3 => ?_)
    · have h3' : (refuteF x).2 = 3 := by simpa using h3
      simp +contextual only [go_sem]
      have hin : (errs ls).contains 3 = true := by
        simp only [List.contains_iff_mem, errs, List.mem_map]
        exact ⟨x, List.mem_of_getElem? hx, h3'⟩
      rw [impR, if_pos hin, h3']
    · have h3' : ¬ (refuteF x).2 = 3 := by simpa using h3
      cases hz : (refuteF x).2 == 0 with
      | true =>
        cases ha : (errs (ls.take k)).all (fun e => e == 0) with
        | true =>
          simp +contextual only [go_sem, hz]
          refine nextS_intro (k + 1) ⟨h2, ?_⟩ (by omega) (SLe.backL _ (by omega) (by omega) hg (fun j hj => ?_) ?_)
          · rw [hsucc]; simp only [List.contains_eq_mem, List.mem_append, List.mem_singleton] ; have := hk.2; simp at this; simp [this, Ne.symm h3']
          · repeat (first | rfl | rw [upd_same] | rw [upd_ne _ _ _ _ (by omega)])
          · repeat (first | exact backE_nil | refine backE_junk ?_ | refine backE_d rfl ?_ | refine backE_d (by rw [hsucc, List.all_append, ha]; simp [hz]) ?_ | refine backE_d (d_int (wrapN (by omega))) ?_ | refine backE_v rfl (by simp [V.refs]; omega) ?_)
        | false =>
          simp +contextual only [go_sem, hz]
          refine nextS_intro (k + 1) ⟨h2, ?_⟩ (by omega) (SLe.backL _ (by omega) (by omega) hg (fun j hj => ?_) ?_)
          · rw [hsucc]; simp only [List.contains_eq_mem, List.mem_append, List.mem_singleton] ; have := hk.2; simp at this; simp [this, Ne.symm h3']
          · repeat (first | rfl | rw [upd_same] | rw [upd_ne _ _ _ _ (by omega)])
          · repeat (first | exact backE_nil | refine backE_junk ?_ | refine backE_d rfl ?_ | refine backE_d (by rw [hsucc, List.all_append, ha]; simp [hz]) ?_ | refine backE_d (d_int (wrapN (by omega))) ?_ | refine backE_v rfl (by simp [V.refs]; omega) ?_)
      | false =>
        cases ha : (errs (ls.take k)).all (fun e => e == 0) with
        | true =>
          simp +contextual only [go_sem, hz]
          refine nextS_intro (k + 1) ⟨h2, ?_⟩ (by omega) (SLe.backL _ (by omega) (by omega) hg (fun j hj => ?_) ?_)
          · rw [hsucc]; simp only [List.contains_eq_mem, List.mem_append, List.mem_singleton] ; have := hk.2; simp at this; simp [this, Ne.symm h3']
          · repeat (first | rfl | rw [upd_same] | rw [upd_ne _ _ _ _ (by omega)])
          · repeat (first | exact backE_nil | refine backE_junk ?_ | refine backE_d rfl ?_ | refine backE_d (by rw [hsucc, List.all_append, ha]; simp [hz]) ?_ | refine backE_d (d_int (wrapN (by omega))) ?_ | refine backE_v rfl (by simp [V.refs]; omega) ?_)
        | false =>
          simp +contextual only [go_sem, hz]
          refine nextS_intro (k + 1) ⟨h2, ?_⟩ (by omega) (SLe.backL _ (by omega) (by omega) hg (fun j hj => ?_) ?_)
          · rw [hsucc]; simp only [List.contains_eq_mem, List.mem_append, List.mem_singleton] ; have := hk.2; simp at this; simp [this, Ne.symm h3']
          · repeat (first | rfl | rw [upd_same] | rw [upd_ne _ _ _ _ (by omega)])
          · repeat (first | exact backE_nil | refine backE_junk ?_ | refine backE_d rfl ?_ | refine backE_d (by rw [hsucc, List.all_append, ha]; simp [hz]) ?_ | refine backE_d (d_int (wrapN (by omega))) ?_ | refine backE_v rfl (by simp [V.refs]; omega) ?_)
  · simp +contextual only [go_sem]
    simp at h2
    have hh := hk.2
    rw [List.take_of_length_le h2] at hh ⊢
    rw [impR, if_neg (by rw [hh]; exact Bool.noConfusion)]
theorem implies_c (s : Sys) (r : Row) (hs : s.Fits) (hrl : r.c.length ≤ 9223372036854775807) : PCt Try.prog 29 [s.d, r.d] (.ret [.bool (if checkF s = true ∧ s.rows.length ≠ 10 ∧ formedF r s.vars 1000 = true then (impliesF s r).1 else false), .i (if checkF s = true ∧ s.rows.length ≠ 10 ∧ formedF r s.vars 1000 = true then (impliesF s r).2 else 2)]) := by
  have hck := check_c s hs
  refine PCt.of_ev mix fn29 (by simp) ?_
  rw [c29]
  simp +contextual only [go_sem, Sys.d, Row.d]
  refine call_keep hck rfl ?_
  cases hc : checkF s with
  | false =>
    simp +contextual only [go_sem, Sys.d, Row.d, if_true, if_false]
  | true =>
    by_cases h10 : s.rows.length = 10
    · have h10' : ((s.rows.length : Int) == 10) = true := by simp; omega
      simp +contextual only [go_sem, Sys.d, Row.d, if_true, if_false, h10']
      simp [h10]
    have h10' : ((s.rows.length : Int) == 10) = false := by simp; omega
    simp +contextual only [go_sem, Sys.d, Row.d, if_true, if_false, h10']
    refine call_keep (formed_c r _ _ hrl (by omega)) rfl ?_
    cases hf : formedF r s.vars 1000 with
    | false =>
      simp +contextual only [go_sem, Sys.d, Row.d, if_true, if_false]
    | true =>
      have hc' : checkF s = true ∧ ¬ s.rows.length = 10 ∧ formedF r s.vars 1000 = true := ⟨hc, h10, hf⟩
      rw [if_pos ⟨rfl, h10, rfl⟩, if_pos ⟨rfl, h10, rfl⟩]
      obtain ⟨v1, v5, r10, hall⟩ := check_rows hc
      have hf' := hf
      simp only [formedF, Bool.and_eq_true, beq_iff_eq, allF_iff, inB_iff] at hf'
      obtain ⟨⟨⟨f1, f2⟩, f3⟩, f4⟩ := hf'
      simp +contextual only [go_sem, Sys.d, Row.d, if_true, if_false, h10']
      have con := fun (back : Bool) (k : Int) => contrary_c s r back k r10 (by omega) f3 f4
      refine call_give (con true 2) ?_
      simp +contextual only [go_sem, Sys.d, Row.d, if_true, if_false, h10']
      cases h2 : r.rel == 2 with
      | true =>
        simp +contextual only [go_sem, Sys.d, Row.d, if_true, if_false, h10']
        refine call_give (con true 1) ?_
        simp +contextual only [go_sem, Sys.d, Row.d, if_true, if_false, h10', h2]
        have h2' : r.rel = 2 := by simpa using h2
        have hF : impliesF s r = impR [conS s r true 1] := by
          have hA : impA s r = (refuteF (conS s r true 1)).2 := by simp [impA, h2']
          have hB : impB s r = 0 := by simp [impB, h2']
          simp only [impliesF, impR, hA, hB, errs, List.map_cons, List.map_nil]
          rcases refuteF_cases (conS s r true 1) with h | h | h <;> simp [h]
        rw [hF]
        refine impLoop [conS s r true 1] (fun x hx => by simp only [List.mem_singleton] at hx; subst hx; exact con_check hc (by omega) hf true (by omega)) (by simp) 32 0 _ 38 ?_ ?_ _ ?_ ?_ ?_ ?_
        · repeat (first | exact Good.nil | refine Good.upd ?_ (by omega) rfl)
        · repeat (first | rfl | rw [upd_same] | rw [upd_ne _ _ _ _ (by omega)])
        · repeat (first | rfl | rw [upd_same] | rw [upd_ne _ _ _ _ (by omega)])
        · repeat (first | rfl | rw [upd_same] | rw [upd_ne _ _ _ _ (by omega)])
        · repeat (first | rfl | rw [upd_same] | rw [upd_ne _ _ _ _ (by omega)])
        · repeat (first | rfl | rw [upd_same] | rw [upd_ne _ _ _ _ (by omega)])
      | false =>
        cases h3 : r.rel == 3 with
        | true =>
          simp +contextual only [go_sem, Sys.d, Row.d, if_true, if_false, h10', h3]
          refine call_give (con false 2) ?_
          simp +contextual only [go_sem, Sys.d, Row.d, if_true, if_false, h10', h3]
          have h3' : r.rel = 3 := by simpa using h3
          have hF : impliesF s r = impR [conS s r true 2, conS s r false 2] := by
            have hA : impA s r = (refuteF (conS s r true 2)).2 := by simp [impA, h3']
            have hB : impB s r = (refuteF (conS s r false 2)).2 := by simp [impB, h3']
            simp only [impliesF, impR, hA, hB, errs, List.map_cons, List.map_nil]
            rcases refuteF_cases (conS s r true 2) with h | h | h <;> rcases refuteF_cases (conS s r false 2) with h' | h' | h' <;> simp [h, h']
          rw [hF]
          refine impLoop [conS s r true 2, conS s r false 2] (fun x hx => by
            simp only [List.mem_cons, List.not_mem_nil, or_false] at hx
            rcases hx with rfl | rfl <;> exact con_check hc (by omega) hf _ (by omega)) (by simp) 23 1 _ 42 ?_ ?_ _ ?_ ?_ ?_ ?_
          · repeat (first | exact Good.nil | refine Good.upd ?_ (by omega) rfl)
          · repeat (first | rfl | rw [upd_same] | rw [upd_ne _ _ _ _ (by omega)])
          · repeat (first | rfl | rw [upd_same] | rw [upd_ne _ _ _ _ (by omega)])
          · repeat (first | rfl | rw [upd_same] | rw [upd_ne _ _ _ _ (by omega)])
          · repeat (first | rfl | rw [upd_same] | rw [upd_ne _ _ _ _ (by omega)])
          · repeat (first | rfl | rw [upd_same] | rw [upd_ne _ _ _ _ (by omega)])
        | false =>
          simp +contextual only [go_sem, Sys.d, Row.d, if_true, if_false, h10', h3]
          have h2' : ¬ r.rel = 2 := by simpa using h2
          have h3' : ¬ r.rel = 3 := by simpa using h3
          have hF : impliesF s r = impR [conS s r true 2] := by
            have hA : impA s r = (refuteF (conS s r true 2)).2 := by simp [impA, h2']
            have hB : impB s r = 0 := by simp [impB, h3']
            simp only [impliesF, impR, hA, hB, errs, List.map_cons, List.map_nil]
            rcases refuteF_cases (conS s r true 2) with h | h | h <;> simp [h]
          rw [hF]
          refine impLoop [conS s r true 2] (fun x hx => by simp only [List.mem_singleton] at hx; subst hx; exact con_check hc (by omega) hf true (by omega)) (by simp) 23 0 _ 35 ?_ ?_ _ ?_ ?_ ?_ ?_
          · repeat (first | exact Good.nil | refine Good.upd ?_ (by omega) rfl)
          · repeat (first | rfl | rw [upd_same] | rw [upd_ne _ _ _ _ (by omega)])
          · repeat (first | rfl | rw [upd_same] | rw [upd_ne _ _ _ _ (by omega)])
          · repeat (first | rfl | rw [upd_same] | rw [upd_ne _ _ _ _ (by omega)])
          · repeat (first | rfl | rw [upd_same] | rw [upd_ne _ _ _ _ (by omega)])
          · repeat (first | rfl | rw [upd_same] | rw [upd_ne _ _ _ _ (by omega)])
end Go.Proofs.Ytaafchgfibbmhaa
namespace Go.Proofs.Ytaafchgfibbmhaa
end Go.Proofs.Ytaafchgfibbmhaa
namespace Go.Proofs.Ytaafchgfibbmhaa
theorem gcd_pos' {a b : Int} (h : b ≠ 0) : Int.gcd a b ≠ 0 := by
  intro h2
  exact h (Int.gcd_eq_zero_iff.1 h2).2
theorem over_g (num den : Int) (hn : -4611686018427387904 ≤ num ∧ num ≤ 4611686018427387904) (hd : -4611686018427387904 ≤ den ∧ den ≤ 4611686018427387904) (h0 : den ≠ 0) :
    (Int.gcd num den ≠ 0) ∧ (-9223372036854775807 ≤ num.tdiv (Int.gcd num den) ∧ num.tdiv (Int.gcd num den) ≤ 9223372036854775807) ∧ (-9223372036854775807 ≤ den.tdiv (Int.gcd num den) ∧ den.tdiv (Int.gcd num den) ≤ 9223372036854775807) := by
  have hg := gcd_pos' (a := num) h0
  have hg1 : (1 : Int) ≤ ((Int.gcd num den : Nat) : Int) := by have : 0 < Int.gcd num den := Nat.pos_of_ne_zero hg; exact_mod_cast this
  exact ⟨hg, tdiv_small ⟨by omega, by omega⟩ hg1, tdiv_small ⟨by omega, by omega⟩ hg1⟩
structure Rat.Ok (r : Rat) : Prop where
  n : -1000000000 ≤ r.num ∧ r.num ≤ 1000000000
  d : 1 ≤ r.den ∧ r.den ≤ 1000000000
end Go.Proofs.Ytaafchgfibbmhaa
namespace Go.Proofs.Ytaafchgfibbmhaa
theorem gcd_tmod (x y : Int) : Int.gcd y (x.tmod y) = Int.gcd x y := by
  rw [Int.gcd, Int.gcd, Int.natAbs_tmod, Nat.gcd_comm x.natAbs, Nat.gcd_rec y.natAbs x.natAbs, Nat.gcd_comm]
theorem common_c (a b : Int) (ha : -9223372036854775807 ≤ a ∧ a ≤ 9223372036854775807) (hb : -9223372036854775807 ≤ b ∧ b ≤ 9223372036854775807) : PCt Try.prog 75 [.i a, .i b] (.ret [.i (Int.gcd a b)]) := by
  refine PCt.of_ev mix fn75 (by simp) ?_
  rw [c75]
  simp +contextual only [go_sem]
  refine loop_fam (fun p : Int × Int => ⟨envJ [.d (.i p.1), .d (.i p.2)], fun _ => .no, 0⟩)
    (fun p => Int.gcd p.1 p.2 = Int.gcd a b ∧ (-9223372036854775807 ≤ p.1 ∧ p.1 ≤ 9223372036854775807) ∧ (-9223372036854775807 ≤ p.2 ∧ p.2 ≤ 9223372036854775807)) (fun p => p.2.natAbs) (a, b) ⟨rfl, ha, hb⟩
    (SLe.d0 _ ?_) (fun p hp => ?_)
  · (repeat (first | exact backE_nil | refine backE_junk ?_ | refine backE_d rfl ?_ | refine backE_d (d_int (wrapN (by omega))) ?_))
  obtain ⟨x, y⟩ := p
  obtain ⟨hp, hx, hy⟩ := hp
  simp only at hp hx hy
  simp +contextual only [go_sem]
  cases hz : y != 0 with
  | true =>
    have h' : ¬ (y = 0) := by simpa using hz
    simp +contextual only [go_sem, h', if_false, if_true, hz]
    refine end_intro (by decide) ?_
    simp +contextual only [go_sem]
    have hm : (x.tmod y).natAbs < y.natAbs := by rw [Int.natAbs_tmod]; exact Nat.mod_lt _ (by omega)
    refine nextS_intro (y, x.tmod y) ⟨?_, hy, ?_⟩ hm (SLe.d0 _ ?_)
    · rw [gcd_tmod]; exact hp
    · simp only; omega
    · (repeat (first | exact backE_nil | refine backE_junk ?_ | refine backE_d rfl ?_ | refine backE_d (d_int (wrapN (by omega))) ?_))
  | false =>
    have hy0 : y = 0 := by simpa using hz
    subst hy0
    simp +contextual only [go_sem]
    rw [wrap64 (by omega) (by omega), ← hp, Int.gcd_zero_right]
    congr 3
    split <;> omega
def heldK (r : Row) (p : List Rat) : Nat → Option (Int × Int)
  | 0 => some (-r.b, 1)
  | k + 1 => match heldK r p k with
    | none => none
    | some (n, d) => if r.c.getD k 0 = 0 then some (n, d) else
      let x := p.getD k ⟨0, 0⟩
      let n1 := n * x.den + r.c.getD k 0 * x.num * d
      let d1 := d * x.den
      let g : Int := Int.gcd n1 d1
      if 1000000000 < (n1.tdiv g).natAbs ∨ 1000000 < d1.tdiv g then none else some (n1.tdiv g, d1.tdiv g)
def saidF (r : Row) (p : List Rat) : Bool × Bool := match heldK r p r.c.length with
  | none => (false, false)
  | some (n, _) => (if r.rel = 1 then decide (n ≤ 0) else if r.rel = 2 then decide (n < 0) else decide (n = 0), true)
theorem heldK_none {r : Row} {p : List Rat} {k : Nat} (h : heldK r p k = none) : ∀ j, heldK r p (k + j) = none
  | 0 => h
  | j + 1 => by rw [← Nat.add_assoc]; simp only [heldK, heldK_none h j]
theorem heldK_bound {r : Row} {p : List Rat} (hb : -1000000000 ≤ r.b ∧ r.b ≤ 1000000000) (hd : ∀ (k : Nat) (x : Rat), p[k]? = some x → 1 ≤ x.den) (hl : r.c.length ≤ p.length) : ∀ {k : Nat} {n d : Int}, k ≤ r.c.length → heldK r p k = some (n, d) → (-1000000000 ≤ n ∧ n ≤ 1000000000) ∧ (1 ≤ d ∧ d ≤ 1000000)
  | 0, n, d, _, h => by
    simp only [heldK, Option.some.injEq, Prod.mk.injEq] at h
    omega
  | k + 1, n, d, hk, h => by
    simp only [heldK] at h
    cases hn : heldK r p k with
    | none => rw [hn] at h; cases h
    | some nd =>
      obtain ⟨n0, d0⟩ := nd
      have ih := heldK_bound hb hd hl (by omega) hn
      rw [hn] at h
      simp only at h
      split at h
      · simp only [Option.some.injEq, Prod.mk.injEq] at h
        obtain ⟨rfl, rfl⟩ := h
        exact ih
      · split at h
        · cases h
        · rename_i hb2
          simp only [Option.some.injEq, Prod.mk.injEq] at h
          obtain ⟨rfl, rfl⟩ := h
          obtain ⟨x, hx⟩ : ∃ x, p[k]? = some x := ⟨p[k]'(by omega), List.getElem?_eq_getElem _⟩
          have hx1 := hd k x hx
          have hpx : p.getD k ⟨0, 0⟩ = x := by rw [List.getD_eq_getElem?_getD, hx]; rfl
          rw [hpx] at hb2 ⊢
          have hd1 : 1 ≤ d0 * x.den := by
            have := Int.mul_le_mul ih.2.1 hx1 (by omega) (by omega)
            omega
          have hg : (0 : Int) < (Int.gcd (n0 * x.den + r.c.getD k 0 * x.num * d0) (d0 * x.den) : Nat) := by
            have : Int.gcd (n0 * x.den + r.c.getD k 0 * x.num * d0) (d0 * x.den) ≠ 0 := gcd_pos' (by omega)
            omega
          have hdv : 1 ≤ (d0 * x.den).tdiv (Int.gcd (n0 * x.den + r.c.getD k 0 * x.num * d0) (d0 * x.den) : Nat) := by
            have hdd := Int.gcd_dvd_right (a := n0 * x.den + r.c.getD k 0 * x.num * d0) (b := d0 * x.den)
            rw [Int.tdiv_eq_ediv_of_nonneg (by omega)]
            exact Int.le_ediv_of_mul_le hg (by have := Int.le_of_dvd (by omega) hdd; omega)
          have h1 : ¬ 1000000000 < ((n0 * x.den + r.c.getD k 0 * x.num * d0).tdiv (Int.gcd (n0 * x.den + r.c.getD k 0 * x.num * d0) (d0 * x.den) : Nat)).natAbs := fun h => hb2 (.inl h)
          have h2 : ¬ 1000000 < (d0 * x.den).tdiv (Int.gcd (n0 * x.den + r.c.getD k 0 * x.num * d0) (d0 * x.den) : Nat) := fun h => hb2 (.inr h)
          omega
theorem mulI_bound {a b A B : Int} (h1 : -A ≤ a) (h2 : a ≤ A) (h3 : -B ≤ b) (h4 : b ≤ B) : -(A * B) ≤ a * b ∧ a * b ≤ A * B := by
  have hA : (a.natAbs : Int) ≤ A := by omega
  have hB : (b.natAbs : Int) ≤ B := by omega
  have h : ((a * b).natAbs : Int) ≤ A * B := by
    rw [Int.natAbs_mul, Int.natCast_mul]
    exact Int.mul_le_mul hA hB (by omega) (by omega)
  omega
theorem said_c (r : Row) (p : List Rat) (hl : r.c.length ≤ p.length) (hp : p.length ≤ 1000) (hb : -1000000000 ≤ r.b ∧ r.b ≤ 1000000000) (hd : ∀ (k : Nat) (x : Rat), p[k]? = some x → 1 ≤ x.den ∧ x.den ≤ 1000000000)
    (hc : ∀ (k : Nat) (c : Int) (x : Rat), r.c[k]? = some c → p[k]? = some x → -1000000000000 ≤ c * x.num ∧ c * x.num ≤ 1000000000000) :
    PCt Try.prog 35 [r.d, .sl (p.map Rat.d)] (.ret [.bool (saidF r p).1, .bool (saidF r p).2]) := by
  have hd' : ∀ (k : Nat) (x : Rat), p[k]? = some x → 1 ≤ x.den := fun k x h => (hd k x h).1
  refine PCt.of_ev mix fn35 (by simp) ?_
  rw [c35]
  simp +contextual only [go_sem, Row.d]
  refine loop_fam (fun k : Nat => ⟨envJ [.junk, .d (.sl (p.map Rat.d)), .ptr 0 0, .junk, .junk, .junk, .d (.i ((heldK r p k).getD (0, 0)).1), .d (.i ((heldK r p k).getD (0, 0)).2), .junk, .junk, .junk, .junk, .junk, .junk, .junk, .junk, .d (.sl (r.c.map .i)), .d (.i r.c.length), .d (.i k)], oneRow [.d (.sl (r.c.map .i)), .d (.i r.rel), .d (.i r.b)], 1⟩)
    (fun k => k ≤ r.c.length ∧ (heldK r p k).isSome = true) (fun k => r.c.length - k) 0 ⟨Nat.zero_le _, rfl⟩ (SLe.d1 _ (oneRow_good rfl) (by omega) rfl ?_) (fun k hk => ?_)
  · repeat (first | exact backE_nil | refine backE_junk ?_ | refine backE_d rfl ?_ | refine backE_d (d_int (wrap64 (by omega) (by omega))) ?_ | refine backE_v rfl (by simp [V.refs]) ?_)
  obtain ⟨hk, hs⟩ := hk
  obtain ⟨⟨n, d⟩, hnd⟩ := Option.isSome_iff_exists.1 hs
  obtain ⟨⟨n1, n2⟩, d1, d2⟩ := heldK_bound hb hd' hl hk hnd
  simp +contextual only [go_sem, hnd, Option.getD_some]
  refine cond_intro (fun h2 => ?_) (fun h2 => ?_)
  · simp at h2
    obtain ⟨c, hcx⟩ : ∃ c, r.c[k]? = some c := ⟨r.c[k], List.getElem?_eq_getElem _⟩
    obtain ⟨x, hx⟩ : ∃ x, p[k]? = some x := ⟨p[k]'(by omega), List.getElem?_eq_getElem _⟩
    have hcg : r.c.getD k 0 = c := by rw [List.getD_eq_getElem?_getD, hcx]; rfl
    have hxg : p.getD k ⟨0, 0⟩ = x := by rw [List.getD_eq_getElem?_getD, hx]; rfl
    cases hz : c == 0 with
    | true =>
      have hc0 : c = 0 := by simpa using hz
      have hst : heldK r p (k + 1) = some (n, d) := by simp only [heldK, hnd, hcg, hc0, if_true]
      simp +contextual only [go_sem, hnd, hcx, hx, hz, Option.getD_some]
      refine nextS_intro (k + 1) ⟨h2, by rw [hst]; rfl⟩ (by omega) (SLe.d1 _ (oneRow_good rfl) (by omega) rfl ?_)
      rw [hst]
      repeat (first | exact backE_nil | refine backE_junk ?_ | refine backE_d rfl ?_ | refine backE_d (d_int (wrapN (by omega))) ?_ | refine backE_v rfl (by simp [V.refs]) ?_)
    | false =>
      have hc0 : ¬ (c = 0) := by simpa using hz
      obtain ⟨x1, x2⟩ := hd k x hx
      obtain ⟨y1, y2⟩ := hc k c x hcx hx
      simp +contextual only [go_sem, hnd, hcx, hx, hz, Option.getD_some, Rat.d]
      refine end_intro (by decide) ?_
      rw [wrap64 (n := c * x.num) (by omega) (by omega)]
      have b1 := mulI_bound (a := n) (b := x.den) (A := 1000000000) (B := 1000000000) (by omega) (by omega) (by omega) (by omega)
      have b2 := mulI_bound (a := c * x.num) (b := d) (A := 1000000000000) (B := 1000000) (by omega) (by omega) (by omega) (by omega)
      have b3 := mulI_bound (a := d) (b := x.den) (A := 1000000) (B := 1000000000) (by omega) (by omega) (by omega) (by omega)
      have b4 : 1 ≤ d * x.den := by
        have := Int.mul_le_mul d1 x1 (by omega) (by omega)
        omega
      simp +contextual only [go_sem]
      refine end_intro (by decide) ?_
      rw [wrap64 (n := n * x.den) (by omega) (by omega), wrap64 (n := c * x.num * d) (by omega) (by omega), wrap64 (n := n * x.den + c * x.num * d) (by omega) (by omega), wrap64 (n := d * x.den) (by omega) (by omega)]
      simp +contextual only [go_sem]
      refine call_keep (common_c _ _ (by omega) (by omega)) rfl ?_
      obtain ⟨g1, g2, g3⟩ := over_g (n * x.den + c * x.num * d) (d * x.den) (by omega) (by omega) (by omega)
      have hg0 : ¬ ((Int.gcd (n * x.den + c * x.num * d) (d * x.den) : Int) = 0) := by omega
      have hst : heldK r p (k + 1) = if 1000000000 < ((n * x.den + c * x.num * d).tdiv (Int.gcd (n * x.den + c * x.num * d) (d * x.den) : Nat)).natAbs ∨ 1000000 < (d * x.den).tdiv (Int.gcd (n * x.den + c * x.num * d) (d * x.den) : Nat) then none else some ((n * x.den + c * x.num * d).tdiv (Int.gcd (n * x.den + c * x.num * d) (d * x.den) : Nat), (d * x.den).tdiv (Int.gcd (n * x.den + c * x.num * d) (d * x.den) : Nat)) := by
        simp only [heldK, hnd, hcg, hxg]
        rw [if_neg hc0]
      generalize hA : n * x.den + c * x.num * d = A at *
      generalize hB : d * x.den = B at *
      generalize hG : ((Int.gcd A B : Nat) : Int) = G at *
      simp +contextual only [go_sem, hg0, if_true, if_false]
      refine end_intro (by decide) ?_
      simp +contextual only [go_sem]
      rw [wrap64 (n := A.tdiv G) (by omega) (by omega), wrap64 (n := -(A.tdiv G)) (by omega) (by omega), wrap64 (n := B.tdiv G) (by omega) (by omega)]
      refine cond_intro (fun h3 => ?_) (fun h3 => ?_)
      · simp only [Bool.or_eq_true, decide_eq_true_eq] at h3
        rw [if_pos (by rcases h3 with h3 | h3; · left; split at h3 <;> omega
                       · right; exact h3)] at hst
        have hF : saidF r p = (false, false) := by
          have := heldK_none hst (r.c.length - (k + 1))
          rw [show k + 1 + (r.c.length - (k + 1)) = r.c.length by omega] at this
          simp only [saidF, this]
        rw [hF]
        simp +contextual only [go_sem]
      · simp only [Bool.or_eq_false_iff, decide_eq_false_iff_not] at h3
        rw [if_neg (by rintro (h4 | h4); · apply h3.1; split <;> omega
                       · exact h3.2 h4)] at hst
        simp +contextual only [go_sem]
        refine nextS_intro (k + 1) ⟨h2, by rw [hst]; rfl⟩ (by omega) (SLe.d1 _ (oneRow_good rfl) (by omega) ?_ ?_)
        · repeat (first | rfl | rw [upd_same] | rw [upd_ne _ _ _ _ (by omega)])
        rw [hst]
        repeat (first | exact backE_nil | refine backE_junk ?_ | refine backE_d rfl ?_ | refine backE_d (d_int (wrapN (by omega))) ?_ | refine backE_v rfl (by simp [V.refs]) ?_)
  · simp at h2
    have hkl : k = r.c.length := by omega
    subst hkl
    have hF : saidF r p = (if r.rel = 1 then decide (n ≤ 0) else if r.rel = 2 then decide (n < 0) else decide (n = 0), true) := by simp only [saidF, hnd]
    rw [hF]
    simp +contextual only [go_sem, hnd, Option.getD_some]
    refine cond_intro (fun h3 => ?_) (fun h3 => ?_)
    · simp +contextual only [go_sem]
      simp at h3
      simp [h3]
    · simp +contextual only [go_sem]
      refine cond_intro (fun h4 => ?_) (fun h4 => ?_)
      · simp +contextual only [go_sem]
        simp at h3 h4
        simp [h3, h4]
      · simp +contextual only [go_sem]
        simp at h3 h4
        simp only [h3, h4, if_false]
        exact congrArg _ (congrArg (fun b => [D.bool b, D.bool true]) (by rw [Bool.eq_iff_iff]; simp))
end Go.Proofs.Ytaafchgfibbmhaa
