/-
  A PART OF THE PROOF (put together by program): several texts, one behind the other. Conditions: none.
-/
import Derived.Test.YtaafchgfibbmhaaPk32
set_option linter.unusedSimpArgs false
set_option linter.unusedVariables false
namespace Go.Proofs.Ytaafchgfibbmhaa
theorem refuted1_c (s : Sys) (hc : checkF s = true) (v : Nat) (hv : s.vars = v) (ib il : Nat) (o : Nat → Obj') (nx : Nat) (h1 : o ib = .row [.d (.i s.vars), .d (.sl (s.rows.map Row.d))]) (h3 : o il = .row [.nils])
    (l1 : ib < nx) (l3 : il < nx) (K X : V → (Nat → Obj') → Nat → Prop)
    (hK : match curE s v with | some l => ∀ n2, nx ≤ n2 → K (.tup []) (upd o il (.row [.d (stD l)])) n2 | none => ∀ n2, nx ≤ n2 → X (.d tooD) o n2) :
    CtK Try.prog 98 [.ptr ib 0, .ptr il 0] o nx K X := by
  have e2 : ib ≠ il := fun e => by subst e; rw [h1] at h3; injection h3 with h; simp at h
  refine CtK.of_ev mix fn98 (by simp) ?_
  rw [c98]
  simp +contextual only [go_sem, h1, h3]
  have hst := stages_c s hc v (by omega)
  rw [hv]
  cases hcur : curE s v with
  | some l =>
    simp only [stagesR, hcur] at hst hK
    obtain ⟨hok, h200⟩ := curE_ok hc hcur
    have hA : curA s v = l := by simp [curA, hcur]
    have hget : (stagesD s v)[v]? = some (stD l) := by
      simp only [stagesD]
      rw [List.getElem?_map, List.getElem?_range (by omega)]
      simp [hA]
    rw [Sys.d, hv] at hst
    refine callD_give hst ?_
    simp +contextual only [go_sem, h1, h3, hget, stD, hv]
    refine end_intro (objsOk_renL (ids := [ib, il]) (nx := nx) (by simp; omega) (by simp; omega) [([0], []), ([0], []), ([0], []), ([], []), ([0], []), ([0], []), ([], []), ([], []), ([1], [1])] (by decide)) ?_
    simp +contextual only [go_sem]
    exact hK _ (by omega)
  | none =>
    simp only [stagesR, hcur] at hst hK
    rw [Sys.d, hv] at hst
    refine callD_pan hst (by decide) ?_
    simp +contextual only [go_sem, h1, h3]
    refine badE_op rfl rfl ?_
    simp +contextual only [go_sem, h1, h3]
    refine badE_op rfl rfl ?_
    simp +contextual only [go_sem, h1, h3]
    refine badE_skip rfl (badE_skip rfl (badE_skip rfl (badE_nil ?_)))
    refine ⟨objsOk_renL (ids := [ib, il]) (nx := nx) (by simp; omega) (by simp; omega) [([0], []), ([0], []), ([0], []), ([], []), ([0], []), ([0], []), ([], []), ([], []), ([], [])] (by decide), ?_⟩
    simp only [panS, endG_pan, List.contains_nil, Bool.false_eq_true, if_false]
    exact hK _ (by omega)
def zeroM : Made := ⟨⟨[], 0, 0⟩, []⟩
def refuteF (s : Sys) : Made × Int := match curE s s.vars.toNat with
  | none => (zeroM, 3)
  | some [] => (zeroM, 5)
  | some (m :: _) => (m, 0)
theorem hz0 : (((0 : Nat) : Int) == 0) = true := rfl
theorem refuted_c (s : Sys) (hc : checkF s = true) : PCt Try.prog 65 [s.d] (.ret [(refuteF s).1.d, .i (refuteF s).2]) := by
  obtain ⟨v1, v5, r10, hall⟩ := check_rows hc
  refine PCt.of_ev mix fn65 (by simp) ?_
  rw [c65]
  simp +contextual only [go_sem, Sys.d]
  refine callR_heap (attempt_c 98 _ _ _ _ _ ?_)
  refine refuted1_c s hc s.vars.toNat (by omega) 0 3 _ _ ?_ ?_ (by omega) (by omega) _ _ ?_
  · repeat (first | rfl | rw [upd_same] | rw [upd_ne _ _ _ _ (by omega)])
  · repeat (first | rfl | rw [upd_same] | rw [upd_ne _ _ _ _ (by omega)])
  cases hcur : curE s s.vars.toNat with
  | none =>
    intro n2 hn2
    refine ⟨rfl, ?_, by omega, fun o3 n3 q1 q2 => ?_⟩
    · repeat (first | rfl | rw [upd_same] | rw [upd_ne _ _ _ _ (by omega)])
    have q1' : o3 1 = zeroRow := by rw [q2 1 (by omega) (by omega)]; repeat (first | rfl | rw [upd_same] | rw [upd_ne _ _ _ _ (by omega)])
    simp +contextual only [go_sem, q1']
    simp [refuteF, hcur, zeroM]
  | some l =>
    intro n2 hn2
    refine ⟨?_, by omega, fun o3 n3 q1 q2 => ?_⟩
    · repeat (first | rfl | rw [upd_same] | rw [upd_ne _ _ _ _ (by omega)])
    have q1' : o3 1 = zeroRow := by rw [q2 1 (by omega) (by omega)]; repeat (first | rfl | rw [upd_same] | rw [upd_ne _ _ _ _ (by omega)])
    have q3' : o3 3 = .row [.d (stD l)] := by rw [q2 3 (by omega) (by omega), upd_same]
    obtain ⟨hok, h200⟩ := curE_ok hc hcur
    cases l with
    | nil =>
      simp +contextual only [go_sem, q1', q3', stD, hz0]
      simp [refuteF, hcur, zeroM]
    | cons m l =>
      have hlen : (((l.length + 1 : Nat) : Int) == 0) = false := by simp; omega
      have hm := hok m (by simp)
      have hcl := cloned_c [m] (by simp) (fun x hx => by simp at hx; subst hx; have := hm.lc; have := hm.lt; omega)
      have h1l : 1 ≤ l.length + 1 := by omega
      have h0l : (0 : Int) < 1 := by omega
      have ht1 : Int.toNat 1 = 1 := rfl
      simp +contextual only [go_sem, q1', q3', stD, hlen, h1l, ht1, Nat.zero_le, if_true]
      refine call_give hcl ?_
      have ht0 : Int.toNat 0 = 0 := rfl
      simp +contextual only [go_sem, q1', q3', stD, hlen, h1l, ht1, ht0, Nat.zero_le, if_true, Made.d, Row.d]
      simp [refuteF, hcur]
theorem refute_c (s : Sys) (hs : s.Fits) : PCt Try.prog 22 [s.d] (.ret [(if checkF s = true then (refuteF s).1 else zeroM).d, .i (if checkF s = true then (refuteF s).2 else 2)]) := by
  have hck := check_c s hs
  refine PCt.of_ev mix fn22 (by simp) ?_
  rw [c22]
  simp +contextual only [go_sem, Sys.d]
  refine call_keep hck rfl ?_
  cases hc : checkF s with
  | false =>
    simp +contextual only [go_sem, Sys.d, if_true, if_false]
    simp [zeroM]
  | true =>
    simp +contextual only [go_sem, Sys.d, if_true, if_false]
    refine call_give (refuted_c s hc) ?_
    simp +contextual only [go_sem, Sys.d, if_true, if_false, Made.d, Row.d]
end Go.Proofs.Ytaafchgfibbmhaa
namespace Go.Proofs.Ytaafchgfibbmhaa
end Go.Proofs.Ytaafchgfibbmhaa
namespace Go.Proofs.Ytaafchgfibbmhaa
end Go.Proofs.Ytaafchgfibbmhaa
namespace Go.Proofs.Ytaafchgfibbmhaa
end Go.Proofs.Ytaafchgfibbmhaa
namespace Go.Proofs.Ytaafchgfibbmhaa
def overV (num den : Int) : Rat := if den < 0 then ⟨(-num).tdiv (Int.gcd num den), (-den).tdiv (Int.gcd num den)⟩ else ⟨num.tdiv (Int.gcd num den), den.tdiv (Int.gcd num den)⟩
def okR (r : Rat) : Bool := ratF r 1000000000
theorem gcd_pos' {a b : Int} (h : b ≠ 0) : Int.gcd a b ≠ 0 := by
  intro h2
  exact h (Int.gcd_eq_zero_iff.1 h2).2
theorem over_g (num den : Int) (hn : -4611686018427387904 ≤ num ∧ num ≤ 4611686018427387904) (hd : -4611686018427387904 ≤ den ∧ den ≤ 4611686018427387904) (h0 : den ≠ 0) :
    (Int.gcd num den ≠ 0) ∧ (-9223372036854775807 ≤ num.tdiv (Int.gcd num den) ∧ num.tdiv (Int.gcd num den) ≤ 9223372036854775807) ∧ (-9223372036854775807 ≤ den.tdiv (Int.gcd num den) ∧ den.tdiv (Int.gcd num den) ≤ 9223372036854775807) := by
  have hg := gcd_pos' (a := num) h0
  have hg1 : (1 : Int) ≤ ((Int.gcd num den : Nat) : Int) := by have : 0 < Int.gcd num den := Nat.pos_of_ne_zero hg; exact_mod_cast this
  exact ⟨hg, tdiv_small ⟨by omega, by omega⟩ hg1, tdiv_small ⟨by omega, by omega⟩ hg1⟩
theorem over_c (num den : Int) (hn : -4611686018427387904 ≤ num ∧ num ≤ 4611686018427387904) (hd : -4611686018427387904 ≤ den ∧ den ≤ 4611686018427387904) (h0 : den ≠ 0) :
    PCt Try.prog 119 [.i num, .i den] (if okR (overV num den) = true then .ret [(overV num den).d] else .pan tooD) := by
  have main : ∀ (num den : Int), (-4611686018427387904 ≤ num ∧ num ≤ 4611686018427387904) → (-4611686018427387904 ≤ den ∧ den ≤ 4611686018427387904) → den ≠ 0 → True := fun _ _ _ _ _ => trivial
  refine PCt.of_ev mix fn119 (by simp) ?_
  rw [c119]
  simp +contextual only [go_sem]
  refine cond_intro (fun h1 => ?_) (fun h1 => ?_)
  · have h1' : den < 0 := by simpa using h1
    have hw1 : IntKind.i64.wrap (-num) = -num := wrap64 (by omega) (by omega)
    have hw2 : IntKind.i64.wrap (-den) = -den := wrap64 (by omega) (by omega)
    have hdv := divisor_c [-num, -den] (by simp) (fun n hn => by
      simp only [List.mem_cons, List.not_mem_nil, or_false] at hn
      rcases hn with rfl | rfl <;> omega)
    rw [gcdL_two, Int.gcd_neg, Int.neg_gcd] at hdv
    obtain ⟨g1, g2, g3⟩ := over_g (-num) (-den) (by omega) (by omega) (by omega)
    rw [Int.gcd_neg, Int.neg_gcd] at g1 g2 g3
    have hg0 : ¬ ((Int.gcd num den : Int) = 0) := by omega
    have hw3 : IntKind.i64.wrap ((-num).tdiv (Int.gcd num den)) = (-num).tdiv (Int.gcd num den) := wrap64 (by omega) (by omega)
    have hw4 : IntKind.i64.wrap ((-den).tdiv (Int.gcd num den)) = (-den).tdiv (Int.gcd num den) := wrap64 (by omega) (by omega)
    simp +contextual only [go_sem, hw1, hw2]
    refine call_keep hdv rfl ?_
    simp +contextual only [go_sem, hw1, hw2, hg0, if_false]
    refine end_intro (by decide) ?_
    simp +contextual only [go_sem, hw1, hw2, hw3, hw4]
    have hov : overV num den = ⟨(-num).tdiv (Int.gcd num den), (-den).tdiv (Int.gcd num den)⟩ := by rw [overV, if_pos h1']
    rw [hov]
    refine call_keep (fine_c ⟨(-num).tdiv (Int.gcd num den), (-den).tdiv (Int.gcd num den)⟩ 1000000000 (by omega)) rfl ?_
    have hok : ratF ⟨(-num).tdiv (Int.gcd num den), (-den).tdiv (Int.gcd num den)⟩ 1000000000 = okR ⟨(-num).tdiv (Int.gcd num den), (-den).tdiv (Int.gcd num den)⟩ := rfl
    rw [hok]
    cases he : okR ⟨(-num).tdiv (Int.gcd num den), (-den).tdiv (Int.gcd num den)⟩ with
    | true => simp +contextual only [go_sem, if_true]
    | false => simp +contextual only [go_sem, if_false]
  · have h1' : ¬ den < 0 := by simpa using h1
    have hdv := divisor_c [num, den] (by simp) (fun n hn => by
      simp only [List.mem_cons, List.not_mem_nil, or_false] at hn
      rcases hn with rfl | rfl <;> omega)
    rw [gcdL_two] at hdv
    obtain ⟨g1, g2, g3⟩ := over_g num den hn hd h0
    have hg0 : ¬ ((Int.gcd num den : Int) = 0) := by omega
    have hw3 : IntKind.i64.wrap (num.tdiv (Int.gcd num den)) = num.tdiv (Int.gcd num den) := wrap64 (by omega) (by omega)
    have hw4 : IntKind.i64.wrap (den.tdiv (Int.gcd num den)) = den.tdiv (Int.gcd num den) := wrap64 (by omega) (by omega)
    simp +contextual only [go_sem]
    refine call_keep hdv rfl ?_
    simp +contextual only [go_sem, hg0, if_false]
    refine end_intro (by decide) ?_
    simp +contextual only [go_sem, hw3, hw4]
    have hov : overV num den = ⟨num.tdiv (Int.gcd num den), den.tdiv (Int.gcd num den)⟩ := by rw [overV, if_neg h1']
    rw [hov]
    refine call_keep (fine_c ⟨num.tdiv (Int.gcd num den), den.tdiv (Int.gcd num den)⟩ 1000000000 (by omega)) rfl ?_
    have hok : ratF ⟨num.tdiv (Int.gcd num den), den.tdiv (Int.gcd num den)⟩ 1000000000 = okR ⟨num.tdiv (Int.gcd num den), den.tdiv (Int.gcd num den)⟩ := rfl
    rw [hok]
    cases he : okR ⟨num.tdiv (Int.gcd num den), den.tdiv (Int.gcd num den)⟩ with
    | true => simp +contextual only [go_sem, if_true]
    | false => simp +contextual only [go_sem, if_false]
structure Rat.Ok (r : Rat) : Prop where
  n : -1000000000 ≤ r.num ∧ r.num ≤ 1000000000
  d : 1 ≤ r.den ∧ r.den ≤ 1000000000
theorem okR_ok {r : Rat} (h : okR r = true) : r.Ok := by
  simp only [okR, ratF, Bool.and_eq_true, inB_iff] at h
  exact ⟨h.1.2, h.1.1⟩
def addV (a b : Rat) : Rat := overV (a.num * b.den + b.num * a.den) (a.den * b.den)
def timesV (n : Int) (a : Rat) : Rat := overV (n * a.num) a.den
def lessV (a b : Rat) : Bool := decide (a.num * b.den < b.num * a.den)
theorem mul9 {a b : Int} (ha : -1000000000 ≤ a ∧ a ≤ 1000000000) (hb : -1000000000 ≤ b ∧ b ≤ 1000000000) : -1000000000000000000 ≤ a * b ∧ a * b ≤ 1000000000000000000 := mulE_bound ha hb
theorem plus_c (a b : Rat) (ha : a.Ok) (hb : b.Ok) : PCt Try.prog 120 [a.d, b.d] (if okR (addV a b) = true then .ret [(addV a b).d] else .pan tooD) := by
  have m1 := mul9 ha.n (b := b.den) ⟨by have := hb.d; omega, hb.d.2⟩
  have m2 := mul9 hb.n (b := a.den) ⟨by have := ha.d; omega, ha.d.2⟩
  have m3 := mul9 (a := a.den) (b := b.den) ⟨by have := ha.d; omega, ha.d.2⟩ ⟨by have := hb.d; omega, hb.d.2⟩
  have hne : a.den * b.den ≠ 0 := Int.mul_ne_zero (by have := ha.d; omega) (by have := hb.d; omega)
  have w1 : IntKind.i64.wrap (a.num * b.den) = a.num * b.den := wrap64 (by omega) (by omega)
  have w2 : IntKind.i64.wrap (b.num * a.den) = b.num * a.den := wrap64 (by omega) (by omega)
  have w3 : IntKind.i64.wrap (a.den * b.den) = a.den * b.den := wrap64 (by omega) (by omega)
  have w4 : IntKind.i64.wrap (a.num * b.den + b.num * a.den) = a.num * b.den + b.num * a.den := wrap64 (by omega) (by omega)
  have hov := over_c (a.num * b.den + b.num * a.den) (a.den * b.den) (by omega) (by omega) hne
  refine PCt.of_ev mix fn120 (by simp) ?_
  rw [c120]
  simp +contextual only [go_sem, w1, w2, w3, w4]
  have hA : overV (a.num * b.den + b.num * a.den) (a.den * b.den) = addV a b := rfl
  rw [hA] at hov
  cases he : okR (addV a b) with
  | true =>
    rw [he, if_pos rfl] at hov
    refine call_keep hov rfl ?_
    simp +contextual only [go_sem, if_true]
  | false =>
    rw [he, if_neg Bool.noConfusion] at hov
    refine call_pan hov (by decide) ?_
    simp +contextual only [go_sem, if_false]
theorem by'_c (a : Rat) (n : Int) (ha : a.Ok) (hn : -1000000000 ≤ n ∧ n ≤ 1000000000) : PCt Try.prog 121 [a.d, .i n] (if okR (timesV n a) = true then .ret [(timesV n a).d] else .pan tooD) := by
  have m1 := mul9 hn ha.n
  have w1 : IntKind.i64.wrap (n * a.num) = n * a.num := wrap64 (by omega) (by omega)
  have hov := over_c (n * a.num) a.den (by omega) (by have := ha.d; omega) (by have := ha.d; omega)
  refine PCt.of_ev mix fn121 (by simp) ?_
  rw [c121]
  simp +contextual only [go_sem, w1]
  have hA : overV (n * a.num) a.den = timesV n a := rfl
  rw [hA] at hov
  cases he : okR (timesV n a) with
  | true =>
    rw [he, if_pos rfl] at hov
    refine call_keep hov rfl ?_
    simp +contextual only [go_sem, if_true]
  | false =>
    rw [he, if_neg Bool.noConfusion] at hov
    refine call_pan hov (by decide) ?_
    simp +contextual only [go_sem, if_false]
theorem less_c (a b : Rat) (ha : a.Ok) (hb : b.Ok) : PCt Try.prog 101 [a.d, b.d] (.ret [.bool (lessV a b)]) := by
  have m1 := mul9 ha.n (b := b.den) ⟨by have := hb.d; omega, hb.d.2⟩
  have m2 := mul9 hb.n (b := a.den) ⟨by have := ha.d; omega, ha.d.2⟩
  have w1 : IntKind.i64.wrap (a.num * b.den) = a.num * b.den := wrap64 (by omega) (by omega)
  have w2 : IntKind.i64.wrap (b.num * a.den) = b.num * a.den := wrap64 (by omega) (by omega)
  refine PCt.of_ev mix fn101 (by simp) ?_
  rw [c101]
  simp +contextual only [go_sem, w1, w2]
  rfl
end Go.Proofs.Ytaafchgfibbmhaa
namespace Go.Proofs.Ytaafchgfibbmhaa
theorem gcd_tmod (x y : Int) : Int.gcd y (x.tmod y) = Int.gcd x y := by
  rw [Int.gcd, Int.gcd, Int.natAbs_tmod, Nat.gcd_comm x.natAbs, Nat.gcd_rec y.natAbs x.natAbs, Nat.gcd_comm]
theorem common_c (a b : Int) (ha : -9223372036854775807 ≤ a ∧ a ≤ 9223372036854775807) (hb : -9223372036854775807 ≤ b ∧ b ≤ 9223372036854775807) : PCt Try.prog 75 [.i a, .i b] (.ret [.i (Int.gcd a b)]) := by
  refine PCt.of_ev mix fn75 (by simp) ?_
  rw [c75]
  simp +contextual only [go_sem]
  refine loop_fam (fun p : Int × Int => ⟨envJ [.d (.i p.1), .d (.i p.2)], fun _ => .no, 0⟩)
    (fun p => Int.gcd p.1 p.2 = Int.gcd a b ∧ (-9223372036854775807 ≤ p.1 ∧ p.1 ≤ 9223372036854775807) ∧ (-9223372036854775807 ≤ p.2 ∧ p.2 ≤ 9223372036854775807)) (fun p => p.2.natAbs) (a, b) ⟨rfl, ha, hb⟩
    (SLe.d0 _ ?_) (fun p hp => ?_)
  · (repeat (first | exact backE_nil | refine backE_junk ?_ | refine backE_d rfl ?_ | refine backE_d (d_int (wrapN (by omega))) ?_))
  obtain ⟨x, y⟩ := p
  obtain ⟨hp, hx, hy⟩ := hp
  simp only at hp hx hy
  simp +contextual only [go_sem]
  cases hz : y != 0 with
  | true =>
    have h' : ¬ (y = 0) := by simpa using hz
    simp +contextual only [go_sem, h', if_false, if_true, hz]
    refine end_intro (by decide) ?_
    simp +contextual only [go_sem]
    have hm : (x.tmod y).natAbs < y.natAbs := by rw [Int.natAbs_tmod]; exact Nat.mod_lt _ (by omega)
    refine nextS_intro (y, x.tmod y) ⟨?_, hy, ?_⟩ hm (SLe.d0 _ ?_)
    · rw [gcd_tmod]; exact hp
    · simp only; omega
    · (repeat (first | exact backE_nil | refine backE_junk ?_ | refine backE_d rfl ?_ | refine backE_d (d_int (wrapN (by omega))) ?_))
  | false =>
    have hy0 : y = 0 := by simpa using hz
    subst hy0
    simp +contextual only [go_sem]
    rw [wrap64 (by omega) (by omega), ← hp, Int.gcd_zero_right]
    congr 3
    split <;> omega
def heldK (r : Row) (p : List Rat) : Nat → Option (Int × Int)
  | 0 => some (-r.b, 1)
  | k + 1 => match heldK r p k with
    | none => none
    | some (n, d) => if r.c.getD k 0 = 0 then some (n, d) else
      let x := p.getD k ⟨0, 0⟩
      let n1 := n * x.den + r.c.getD k 0 * x.num * d
      let d1 := d * x.den
      let g : Int := Int.gcd n1 d1
      if 1000000000 < (n1.tdiv g).natAbs ∨ 1000000 < d1.tdiv g then none else some (n1.tdiv g, d1.tdiv g)
def saidF (r : Row) (p : List Rat) : Bool × Bool := match heldK r p r.c.length with
  | none => (false, false)
  | some (n, _) => (if r.rel = 1 then decide (n ≤ 0) else if r.rel = 2 then decide (n < 0) else decide (n = 0), true)
theorem heldK_none {r : Row} {p : List Rat} {k : Nat} (h : heldK r p k = none) : ∀ j, heldK r p (k + j) = none
  | 0 => h
  | j + 1 => by rw [← Nat.add_assoc]; simp only [heldK, heldK_none h j]
theorem heldK_bound {r : Row} {p : List Rat} (hb : -1000000000 ≤ r.b ∧ r.b ≤ 1000000000) (hd : ∀ (k : Nat) (x : Rat), p[k]? = some x → 1 ≤ x.den) (hl : r.c.length ≤ p.length) : ∀ {k : Nat} {n d : Int}, k ≤ r.c.length → heldK r p k = some (n, d) → (-1000000000 ≤ n ∧ n ≤ 1000000000) ∧ (1 ≤ d ∧ d ≤ 1000000)
  | 0, n, d, _, h => by
    simp only [heldK, Option.some.injEq, Prod.mk.injEq] at h
    omega
  | k + 1, n, d, hk, h => by
    simp only [heldK] at h
    cases hn : heldK r p k with
    | none => rw [hn] at h; cases h
    | some nd =>
      obtain ⟨n0, d0⟩ := nd
      have ih := heldK_bound hb hd hl (by omega) hn
      rw [hn] at h
      simp only at h
      split at h
      · simp only [Option.some.injEq, Prod.mk.injEq] at h
        obtain ⟨rfl, rfl⟩ := h
        exact ih
      · split at h
        · cases h
        · rename_i hb2
          simp only [Option.some.injEq, Prod.mk.injEq] at h
          obtain ⟨rfl, rfl⟩ := h
          obtain ⟨x, hx⟩ : ∃ x, p[k]? = some x := ⟨p[k]'(by omega), List.getElem?_eq_getElem _⟩
          have hx1 := hd k x hx
          have hpx : p.getD k ⟨0, 0⟩ = x := by rw [List.getD_eq_getElem?_getD, hx]; rfl
          rw [hpx] at hb2 ⊢
          have hd1 : 1 ≤ d0 * x.den := by
            have := Int.mul_le_mul ih.2.1 hx1 (by omega) (by omega)
            omega
          have hg : (0 : Int) < (Int.gcd (n0 * x.den + r.c.getD k 0 * x.num * d0) (d0 * x.den) : Nat) := by
            have : Int.gcd (n0 * x.den + r.c.getD k 0 * x.num * d0) (d0 * x.den) ≠ 0 := gcd_pos' (by omega)
            omega
          have hdv : 1 ≤ (d0 * x.den).tdiv (Int.gcd (n0 * x.den + r.c.getD k 0 * x.num * d0) (d0 * x.den) : Nat) := by
            have hdd := Int.gcd_dvd_right (a := n0 * x.den + r.c.getD k 0 * x.num * d0) (b := d0 * x.den)
            rw [Int.tdiv_eq_ediv_of_nonneg (by omega)]
            exact Int.le_ediv_of_mul_le hg (by have := Int.le_of_dvd (by omega) hdd; omega)
          have h1 : ¬ 1000000000 < ((n0 * x.den + r.c.getD k 0 * x.num * d0).tdiv (Int.gcd (n0 * x.den + r.c.getD k 0 * x.num * d0) (d0 * x.den) : Nat)).natAbs := fun h => hb2 (.inl h)
          have h2 : ¬ 1000000 < (d0 * x.den).tdiv (Int.gcd (n0 * x.den + r.c.getD k 0 * x.num * d0) (d0 * x.den) : Nat) := fun h => hb2 (.inr h)
          omega
theorem mulI_bound {a b A B : Int} (h1 : -A ≤ a) (h2 : a ≤ A) (h3 : -B ≤ b) (h4 : b ≤ B) : -(A * B) ≤ a * b ∧ a * b ≤ A * B := by
  have hA : (a.natAbs : Int) ≤ A := by omega
  have hB : (b.natAbs : Int) ≤ B := by omega
  have h : ((a * b).natAbs : Int) ≤ A * B := by
    rw [Int.natAbs_mul, Int.natCast_mul]
    exact Int.mul_le_mul hA hB (by omega) (by omega)
  omega
theorem said_c (r : Row) (p : List Rat) (hl : r.c.length ≤ p.length) (hp : p.length ≤ 1000) (hb : -1000000000 ≤ r.b ∧ r.b ≤ 1000000000) (hd : ∀ (k : Nat) (x : Rat), p[k]? = some x → 1 ≤ x.den ∧ x.den ≤ 1000000000)
    (hc : ∀ (k : Nat) (c : Int) (x : Rat), r.c[k]? = some c → p[k]? = some x → -1000000000000 ≤ c * x.num ∧ c * x.num ≤ 1000000000000) :
    PCt Try.prog 35 [r.d, .sl (p.map Rat.d)] (.ret [.bool (saidF r p).1, .bool (saidF r p).2]) := by
  have hd' : ∀ (k : Nat) (x : Rat), p[k]? = some x → 1 ≤ x.den := fun k x h => (hd k x h).1
  refine PCt.of_ev mix fn35 (by simp) ?_
  rw [c35]
  simp +contextual only [go_sem, Row.d]
  refine loop_fam (fun k : Nat => ⟨envJ [.junk, .d (.sl (p.map Rat.d)), .ptr 0 0, .junk, .junk, .junk, .d (.i ((heldK r p k).getD (0, 0)).1), .d (.i ((heldK r p k).getD (0, 0)).2), .junk, .junk, .junk, .junk, .junk, .junk, .junk, .junk, .d (.sl (r.c.map .i)), .d (.i r.c.length), .d (.i k)], oneRow [.d (.sl (r.c.map .i)), .d (.i r.rel), .d (.i r.b)], 1⟩)
    (fun k => k ≤ r.c.length ∧ (heldK r p k).isSome = true) (fun k => r.c.length - k) 0 ⟨Nat.zero_le _, rfl⟩ (SLe.d1 _ (oneRow_good rfl) (by omega) rfl ?_) (fun k hk => ?_)
  · repeat (first | exact backE_nil | refine backE_junk ?_ | refine backE_d rfl ?_ | refine backE_d (d_int (wrap64 (by omega) (by omega))) ?_ | refine backE_v rfl (by simp [V.refs]) ?_)
  obtain ⟨hk, hs⟩ := hk
  obtain ⟨⟨n, d⟩, hnd⟩ := Option.isSome_iff_exists.1 hs
  obtain ⟨⟨n1, n2⟩, d1, d2⟩ := heldK_bound hb hd' hl hk hnd
  simp +contextual only [go_sem, hnd, Option.getD_some]
  refine cond_intro (fun h2 => ?_) (fun h2 => ?_)
  · simp at h2
    obtain ⟨c, hcx⟩ : ∃ c, r.c[k]? = some c := ⟨r.c[k], List.getElem?_eq_getElem _⟩
    obtain ⟨x, hx⟩ : ∃ x, p[k]? = some x := ⟨p[k]'(by omega), List.getElem?_eq_getElem _⟩
    have hcg : r.c.getD k 0 = c := by rw [List.getD_eq_getElem?_getD, hcx]; rfl
    have hxg : p.getD k ⟨0, 0⟩ = x := by rw [List.getD_eq_getElem?_getD, hx]; rfl
    cases hz : c == 0 with
    | true =>
      have hc0 : c = 0 := by simpa using hz
      have hst : heldK r p (k + 1) = some (n, d) := by simp only [heldK, hnd, hcg, hc0, if_true]
      simp +contextual only [go_sem, hnd, hcx, hx, hz, Option.getD_some]
      refine nextS_intro (k + 1) ⟨h2, by rw [hst]; rfl⟩ (by omega) (SLe.d1 _ (oneRow_good rfl) (by omega) rfl ?_)
      rw [hst]
      repeat (first | exact backE_nil | refine backE_junk ?_ | refine backE_d rfl ?_ | refine backE_d (d_int (wrapN (by omega))) ?_ | refine backE_v rfl (by simp [V.refs]) ?_)
    | false =>
      have hc0 : ¬ (c = 0) := by simpa using hz
      obtain ⟨x1, x2⟩ := hd k x hx
      obtain ⟨y1, y2⟩ := hc k c x hcx hx
      simp +contextual only [go_sem, hnd, hcx, hx, hz, Option.getD_some, Rat.d]
      refine end_intro (by decide) ?_
      rw [wrap64 (n := c * x.num) (by omega) (by omega)]
      have b1 := mulI_bound (a := n) (b := x.den) (A := 1000000000) (B := 1000000000) (by omega) (by omega) (by omega) (by omega)
      have b2 := mulI_bound (a := c * x.num) (b := d) (A := 1000000000000) (B := 1000000) (by omega) (by omega) (by omega) (by omega)
      have b3 := mulI_bound (a := d) (b := x.den) (A := 1000000) (B := 1000000000) (by omega) (by omega) (by omega) (by omega)
      have b4 : 1 ≤ d * x.den := by
        have := Int.mul_le_mul d1 x1 (by omega) (by omega)
        omega
      simp +contextual only [go_sem]
      refine end_intro (by decide) ?_
      rw [wrap64 (n := n * x.den) (by omega) (by omega), wrap64 (n := c * x.num * d) (by omega) (by omega), wrap64 (n := n * x.den + c * x.num * d) (by omega) (by omega), wrap64 (n := d * x.den) (by omega) (by omega)]
      simp +contextual only [go_sem]
      refine call_keep (common_c _ _ (by omega) (by omega)) rfl ?_
      obtain ⟨g1, g2, g3⟩ := over_g (n * x.den + c * x.num * d) (d * x.den) (by omega) (by omega) (by omega)
      have hg0 : ¬ ((Int.gcd (n * x.den + c * x.num * d) (d * x.den) : Int) = 0) := by omega
      have hst : heldK r p (k + 1) = if 1000000000 < ((n * x.den + c * x.num * d).tdiv (Int.gcd (n * x.den + c * x.num * d) (d * x.den) : Nat)).natAbs ∨ 1000000 < (d * x.den).tdiv (Int.gcd (n * x.den + c * x.num * d) (d * x.den) : Nat) then none else some ((n * x.den + c * x.num * d).tdiv (Int.gcd (n * x.den + c * x.num * d) (d * x.den) : Nat), (d * x.den).tdiv (Int.gcd (n * x.den + c * x.num * d) (d * x.den) : Nat)) := by
        simp only [heldK, hnd, hcg, hxg]
        rw [if_neg hc0]
      generalize hA : n * x.den + c * x.num * d = A at *
      generalize hB : d * x.den = B at *
      generalize hG : ((Int.gcd A B : Nat) : Int) = G at *
      simp +contextual only [go_sem, hg0, if_true, if_false]
      refine end_intro (by decide) ?_
      simp +contextual only [go_sem]
      rw [wrap64 (n := A.tdiv G) (by omega) (by omega), wrap64 (n := -(A.tdiv G)) (by omega) (by omega), wrap64 (n := B.tdiv G) (by omega) (by omega)]
      refine cond_intro (fun h3 => ?_) (fun h3 => ?_)
      · simp only [Bool.or_eq_true, decide_eq_true_eq] at h3
        rw [if_pos (by rcases h3 with h3 | h3; · left; split at h3 <;> omega
                       · right; exact h3)] at hst
        have hF : saidF r p = (false, false) := by
          have := heldK_none hst (r.c.length - (k + 1))
          rw [show k + 1 + (r.c.length - (k + 1)) = r.c.length by omega] at this
          simp only [saidF, this]
        rw [hF]
        simp +contextual only [go_sem]
      · simp only [Bool.or_eq_false_iff, decide_eq_false_iff_not] at h3
        rw [if_neg (by rintro (h4 | h4); · apply h3.1; split <;> omega
                       · exact h3.2 h4)] at hst
        simp +contextual only [go_sem]
        refine nextS_intro (k + 1) ⟨h2, by rw [hst]; rfl⟩ (by omega) (SLe.d1 _ (oneRow_good rfl) (by omega) ?_ ?_)
        · repeat (first | rfl | rw [upd_same] | rw [upd_ne _ _ _ _ (by omega)])
        rw [hst]
        repeat (first | exact backE_nil | refine backE_junk ?_ | refine backE_d rfl ?_ | refine backE_d (d_int (wrapN (by omega))) ?_ | refine backE_v rfl (by simp [V.refs]) ?_)
  · simp at h2
    have hkl : k = r.c.length := by omega
    subst hkl
    have hF : saidF r p = (if r.rel = 1 then decide (n ≤ 0) else if r.rel = 2 then decide (n < 0) else decide (n = 0), true) := by simp only [saidF, hnd]
    rw [hF]
    simp +contextual only [go_sem, hnd, Option.getD_some]
    refine cond_intro (fun h3 => ?_) (fun h3 => ?_)
    · simp +contextual only [go_sem]
      simp at h3
      simp [h3]
    · simp +contextual only [go_sem]
      refine cond_intro (fun h4 => ?_) (fun h4 => ?_)
      · simp +contextual only [go_sem]
        simp at h3 h4
        simp [h3, h4]
      · simp +contextual only [go_sem]
        simp at h3 h4
        simp only [h3, h4, if_false]
        exact congrArg _ (congrArg (fun b => [D.bool b, D.bool true]) (by rw [Bool.eq_iff_iff]; simp))
end Go.Proofs.Ytaafchgfibbmhaa
namespace Go.Proofs.Ytaafchgfibbmhaa
theorem fineS_c (s : Sys) (hs : s.Fits) : PCt Try.prog 32 [s.d] (.ret [.bool (smallF s && checkF s)]) := by
  have h1 := small_c s hs.rows
  have h2 := sys_c s hs
  refine PCt.of_ev mix fn32 (by simp) ?_
  rw [c32]
  simp +contextual only [go_sem, Sys.d]
  refine call_keep h1 rfl ?_
  cases hsm : smallF s with
  | false => simp +contextual only [go_sem, Sys.d]
  | true =>
    simp +contextual only [go_sem, Sys.d]
    refine call_keep h2 rfl ?_
    simp +contextual only [go_sem]
theorem solves_c (s : Sys) (p : List Rat) (hs : s.Fits) (hpl : p.length ≤ 9223372036854775807) (hfit : checkF s = true → pointF s p = true → Small1 p ∧ ∀ r ∈ s.rows, RowOk r p) :
    PCt Try.prog 36 [s.d, .sl (p.map Rat.d)] (.ret [.bool (checkF s && pointF s p && decide (holdsN s p = s.rows.length))]) := by
  have h1 := holds_c s p hs hpl hfit
  refine PCt.of_ev mix fn36 (by simp) ?_
  rw [c36]
  simp +contextual only [go_sem, Sys.d]
  cases hc : (checkF s && pointF s p) with
  | false =>
    rw [hc] at h1
    simp only [Bool.false_eq_true, if_false] at h1
    refine call_keep h1 rfl ?_
    simp +contextual only [go_sem]
  | true =>
    rw [hc] at h1
    simp only [if_true] at h1
    refine call_keep h1 rfl ?_
    simp +contextual only [go_sem]
    exact congrArg _ (congrArg (fun b => [D.bool b]) (by rw [Bool.eq_iff_iff]; simp; omega))
abbrev D.i8 (n : Int) : D := .int .i8 n
def prD (x : Int × Int) : D := .agg [.i8 x.1, .i8 x.2]
def atRaw (by' : List (Int × Int)) (k : Nat) : Int × Int := if by'.length = 0 then (0, 1) else
  let x := by'.getD (k % by'.length) (0, 0)
  (x.1.tmod 20, 1 + (x.2 % 128).tmod 6)
def atV (by' : List (Int × Int)) (k : Nat) : Rat := ⟨(atRaw by' k).1.tdiv (Int.gcd (atRaw by' k).1 (atRaw by' k).2), (atRaw by' k).2.tdiv (Int.gcd (atRaw by' k).1 (atRaw by' k).2)⟩
def atK (by' : List (Int × Int)) (n k : Nat) : List Rat := (List.range n).map fun i => if i < k then atV by' i else ⟨0, 0⟩
theorem and127 (a : Int) (h : -128 ≤ a ∧ a ≤ 127) : bitsI .and .i64 a 127 = some (a % 128) := by
  have key : ∀ i : Fin 256, bitsI .and .i64 ((i.val : Int) - 128) 127 = some (((i.val : Int) - 128) % 128) := by decide +kernel
  have := key ⟨(a + 128).toNat, by omega⟩
  rw [show (((⟨(a + 128).toNat, by omega⟩ : Fin 256).val : Int) - 128) = a by simp only; omega] at this
  exact this
theorem atK_succ (by' : List (Int × Int)) (n k : Nat) (hk : k < n) : (atK by' n k).set k (atV by' k) = atK by' n (k + 1) := by
  apply List.ext_getElem
  · simp [atK]
  · intro i h1 h2
    simp only [atK, List.length_map, List.length_range] at h2
    rw [List.getElem_set]
    simp only [atK, List.getElem_map, List.getElem_range]
    by_cases e : k = i
    · subst e; simp
    · rw [if_neg e]
      by_cases e2 : i < k
      · rw [if_pos e2, if_pos (by omega)]
      · rw [if_neg e2, if_neg (by omega)]
theorem at_c (n : Nat) (hn : n ≤ 5) (by' : List (Int × Int)) (hl : by'.length ≤ 9223372036854775807) (h8 : ∀ x ∈ by', (-128 ≤ x.1 ∧ x.1 ≤ 127) ∧ -128 ≤ x.2 ∧ x.2 ≤ 127) :
    PCt Try.prog 33 [.i n, .sl (by'.map prD)] (.ret [.sl ((atK by' n n).map Rat.d)]) := by
  have hb1 : 16 * n ≤ 140737488355328 := by omega
  have hb2 : n ≤ 140737488355328 := by omega
  have hrep : List.replicate n (D.agg [D.i 0, D.i 0]) = (atK by' n 0).map Rat.d := by
    apply List.ext_getElem
    · simp [atK]
    · intro i h1 h2
      simp [atK, Rat.d]
  refine PCt.of_ev mix fn33 (by simp) ?_
  rw [c33]
  simp +contextual only [go_sem, hb1, hb2, if_true, List.length_replicate]
  refine loop_fam (fun k : Nat => ⟨envJ [.junk, .d (.sl (by'.map prD)), .junk, .junk, .junk, .osl 2 0, .junk, .junk, .junk, .junk, .junk, .junk, .junk, .d (.i n), .d (.i k)], upd (fun _ => .no) 2 (.arr 0 68 2 ((atK by' n k).map Rat.d)), 3⟩)
    (fun k => k ≤ n) (fun k => n - k) 0 (Nat.zero_le _) (SLe.backL _ (by omega) (by omega) (Good.upd Good.nil (by omega) rfl) (fun j h => ?_) ?_) (fun k hk => ?_)
  · rw [← hrep]
  · repeat (first | exact backE_nil | refine backE_junk ?_ | refine backE_d rfl ?_ | refine backE_d (d_int (by simp)) ?_ | refine backE_v rfl (by simp [V.refs]) ?_)
  simp +contextual only [go_sem]
  refine cond_intro (fun h2 => ?_) (fun h2 => ?_)
  · simp at h2
    have h02 : (0 : Int) < ((2 : Nat) : Int) := by omega
    have h12 : (1 : Int) < ((2 : Nat) : Int) := by omega
    have ht0 : Int.toNat 0 = 0 := rfl
    have ht1 : Int.toNat 1 = 1 := rfl
    have hkl : k < (atK by' n k).length := by simp [atK]; exact h2
    obtain ⟨y, hky⟩ : ∃ y, (atK by' n k)[k]? = some y := ⟨(atK by' n k)[k], List.getElem?_eq_getElem _⟩
    cases hz : decide ((0 : Int) < (by'.length : Int)) with
    | false =>
      have hl0 : by'.length = 0 := by simp only [decide_eq_false_iff_not] at hz; omega
      simp +contextual only [go_sem, hz]
      refine call_keep (common_c 0 1 (by omega) (by omega)) rfl ?_
      have hg1 : ((Int.gcd 0 1 : Nat) : Int) = 1 := rfl
      have h10 : ¬ ((1 : Int) = 0) := by omega
      rw [hg1]
      simp +contextual only [go_sem, h10, hkl, hky, if_true, if_false, Int.tdiv_one]
      rw [wrap64 (n := 0) (by omega) (by omega), wrap64 (n := 1) (by omega) (by omega)]
      have hV : (atV by' k).d = .agg [.i 0, .i 1] := by simp [atV, atRaw, hl0, Rat.d]
      refine end_intro (by decide) ?_
      simp +contextual only [go_sem]
      refine nextS_intro (k + 1) h2 (by omega) (SLe.backL _ (by omega) (by omega) (Good.upd Good.nil (by omega) rfl) (fun j h => ?_) ?_)
      · rw [← atK_succ by' n k h2, List.map_set]
        by_cases e : j = 2
        · subst e
          repeat (first | rfl | rw [upd_same] | rw [upd_ne _ _ _ _ (by omega)])
          rw [hV]
        · simp only [upd_ne _ _ _ _ e]
      · repeat (first | exact backE_nil | refine backE_junk ?_ | refine backE_d rfl ?_ | refine backE_d (d_int (wrapN (by omega))) ?_ | refine backE_v rfl (by simp [V.refs]) ?_)
    | true =>
      have hl0 : by'.length ≠ 0 := by simp only [decide_eq_true_eq] at hz; omega
      have hm0 : ¬ ((by'.length : Int) = 0) := by omega
      have htm : ((k : Int).tmod (by'.length : Int)) = ((k % by'.length : Nat) : Int) := (Int.ofNat_tmod k by'.length).symm
      obtain ⟨x, hx⟩ : ∃ x, by'[k % by'.length]? = some x := ⟨by'[k % by'.length]'(Nat.mod_lt _ (by omega)), List.getElem?_eq_getElem _⟩
      have hx8 := h8 x (List.mem_of_getElem? hx)
      simp +contextual only [go_sem, hz, hm0, htm, hx, if_false, if_true, prD, h02, h12, ht0, ht1, Nat.mul_one]
      rw [wrap64 (n := x.1) (by omega) (by omega), wrap64 (n := x.2) (by omega) (by omega)]
      have ha := and127 x.2 hx8.2
      have hb : 0 ≤ x.2 % 128 ∧ x.2 % 128 < 128 := ⟨Int.emod_nonneg _ (by omega), Int.emod_lt_of_pos _ (by omega)⟩
      simp +contextual only [go_sem, ha, if_false]
      refine end_intro (by decide) ?_
      have ht6 : 0 ≤ (x.2 % 128).tmod 6 ∧ (x.2 % 128).tmod 6 < 6 := ⟨Int.tmod_nonneg _ hb.1, Int.tmod_lt_of_pos _ (by omega)⟩
      have ht20 : -20 < x.1.tmod 20 ∧ x.1.tmod 20 < 20 := ⟨Int.lt_tmod_of_pos _ (by omega), Int.tmod_lt_of_pos _ (by omega)⟩
      rw [wrap64 (n := 1 + (x.2 % 128).tmod 6) (by omega) (by omega)]
      have hraw : atRaw by' k = (x.1.tmod 20, 1 + (x.2 % 128).tmod 6) := by
        simp only [atRaw]
        rw [if_neg hl0, List.getD_eq_getElem?_getD, hx]
        rfl
      have hatV : atV by' k = ⟨(x.1.tmod 20).tdiv (Int.gcd (x.1.tmod 20) (1 + (x.2 % 128).tmod 6)), (1 + (x.2 % 128).tmod 6).tdiv (Int.gcd (x.1.tmod 20) (1 + (x.2 % 128).tmod 6))⟩ := by simp only [atV, hraw]
      have hB6 : 1 ≤ 1 + (x.2 % 128).tmod 6 ∧ 1 + (x.2 % 128).tmod 6 ≤ 6 := by omega
      generalize x.1.tmod 20 = A at *
      generalize 1 + (x.2 % 128).tmod 6 = B at *
      have hBp : B ≠ 0 := by omega
      obtain ⟨g1, g2, g3⟩ := over_g A B (by omega) (by omega) hBp
      have hg0 : ¬ ((Int.gcd A B : Int) = 0) := by omega
      simp +contextual only [go_sem]
      refine call_keep (common_c A B (by omega) (by omega)) rfl ?_
      simp +contextual only [go_sem, hg0, hkl, hky, if_true, if_false]
      have hV : (atV by' k).d = .agg [.i (A.tdiv (Int.gcd A B)), .i (B.tdiv (Int.gcd A B))] := by rw [hatV, Rat.d]
      rw [wrap64 (n := A.tdiv (Int.gcd A B)) (by omega) (by omega), wrap64 (n := B.tdiv (Int.gcd A B)) (by omega) (by omega)]
      refine end_intro (by decide) ?_
      simp +contextual only [go_sem]
      refine nextS_intro (k + 1) h2 (by omega) (SLe.backL _ (by omega) (by omega) (Good.upd Good.nil (by omega) rfl) (fun j h => ?_) ?_)
      · rw [← atK_succ by' n k h2, List.map_set]
        by_cases e : j = 2
        · subst e
          repeat (first | rfl | rw [upd_same] | rw [upd_ne _ _ _ _ (by omega)])
          rw [hV]
        · simp only [upd_ne _ _ _ _ e]
      · repeat (first | exact backE_nil | refine backE_junk ?_ | refine backE_d rfl ?_ | refine backE_d (d_int (wrapN (by omega))) ?_ | refine backE_v rfl (by simp [V.refs]) ?_)
  · simp at h2
    have hkn : k = n := by omega
    subst hkn
    simp +contextual only [go_sem]
end Go.Proofs.Ytaafchgfibbmhaa
