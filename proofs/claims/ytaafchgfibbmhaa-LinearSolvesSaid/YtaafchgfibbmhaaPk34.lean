/-
  A PART OF THE PROOF (put together by program): several texts, one behind the other. Conditions: none.
-/
import Derived.Test.YtaafchgfibbmhaaPk33
set_option linter.unusedSimpArgs false
set_option linter.unusedVariables false
namespace Go.Proofs.Ytaafchgfibbmhaa
def numX (r : Row) (v : Nat) (p : List Rat) (j : Nat) : Rat := timesV (-(r.c.getD (v + 1 + j) 0)) (p.getD (v + 1 + j) ⟨0, 0⟩)
def numK (r : Row) (v : Nat) (p : List Rat) : Nat → Rat × Bool
  | 0 => (⟨r.b, 1⟩, true)
  | j + 1 => if (numK r v p j).2 = true then (if okR (numX r v p j) = true then (addV (numK r v p j).1 (numX r v p j), okR (addV (numK r v p j).1 (numX r v p j))) else ((numK r v p j).1, false)) else numK r v p j
def numF (r : Row) (v : Nat) (p : List Rat) : Rat × Bool :=
  if (numK r v p (p.length - (v + 1))).2 = true then
    (overV (numK r v p (p.length - (v + 1))).1.num ((numK r v p (p.length - (v + 1))).1.den * r.c.getD v 0), okR (overV (numK r v p (p.length - (v + 1))).1.num ((numK r v p (p.length - (v + 1))).1.den * r.c.getD v 0)))
  else numK r v p (p.length - (v + 1))
theorem numK_stop {r : Row} {v : Nat} {p : List Rat} {j : Nat} (h : (numK r v p j).2 = false) : ∀ i, numK r v p (j + i) = numK r v p j
  | 0 => rfl
  | i + 1 => by
    rw [← Nat.add_assoc]
    simp only [numK]
    rw [numK_stop h i, if_neg (by rw [h]; exact Bool.noConfusion)]
theorem numF_stop {r : Row} {v : Nat} {p : List Rat} {j : Nat} (hj : j ≤ p.length - (v + 1)) (h : (numK r v p j).2 = false) : numF r v p = numK r v p j := by
  have := numK_stop h (p.length - (v + 1) - j)
  rw [show j + (p.length - (v + 1) - j) = p.length - (v + 1) by omega] at this
  rw [numF, this, if_neg (by rw [h]; exact Bool.noConfusion)]
structure Row.Nice (r : Row) (nv : Nat) : Prop where
  l : r.c.length = nv
  c : ∀ n ∈ r.c, -1000000000 ≤ n ∧ n ≤ 1000000000
  b : -1000000000 ≤ r.b ∧ r.b ≤ 1000000000
theorem numK_ok {r : Row} {v : Nat} {p : List Rat} {nv : Nat} (hr : r.Nice nv) : ∀ j, (numK r v p j).2 = true → (numK r v p j).1.Ok
  | 0, _ => ⟨hr.b, by simp [numK]⟩
  | j + 1, h => by
    simp only [numK] at h ⊢
    split at h
    · rename_i h1
      rw [if_pos h1]
      split at h
      · rename_i h2
        rw [if_pos h2]
        exact okR_ok h
      · cases h
    · rename_i h1
      exact absurd h h1
theorem over_one (b : Int) : overV b 1 = ⟨b, 1⟩ := by simp [overV]
theorem ok_one {b : Int} (h : -1000000000 ≤ b ∧ b ≤ 1000000000) : okR ⟨b, 1⟩ = true := by
  simp only [okR, ratF, Bool.and_eq_true, inB_iff, decide_eq_true_eq]
  exact ⟨⟨by omega, h⟩, by simp⟩
@[reducible] def numO (r : Row) (x : Rat) : Nat → Obj' := upd (upd (upd (fun _ => .no) 0 (.row [.d (.sl (r.c.map .i)), .d (.i r.rel), .d (.i r.b)])) 1 (.row [.d (.i 0), .d (.i 0)])) 5 (.row [.d (.i x.num), .d (.i x.den)])
theorem numO_good (r : Row) (x : Rat) : Good (numO r x) 6 := (((Good.nil (nx := 6)).upd (by omega) rfl).upd (by omega) rfl).upd (by omega) rfl
theorem number_c (r : Row) (v : Nat) (p : List Rat) {nv : Nat} (hr : r.Nice nv) (hnv : nv ≤ 5) (hp : p.length = nv) (hv : v < nv) (hpo : ∀ k x, v < k → p[k]? = some x → x.Ok) (hc0 : r.c.getD v 0 ≠ 0) :
    PCt Try.prog 99 [r.d, .i v, .sl (p.map Rat.d)] (if (numF r v p).2 = true then .ret [(numF r v p).1.d] else .pan tooD) := by
  have hl := hr.l
  have hone := over_c r.b 1 (by have := hr.b; omega) (by omega) (by omega)
  rw [over_one, if_pos (ok_one hr.b)] at hone
  have hv1 : IntKind.i64.wrap ((v : Int) + 1) = ((v + 1 : Nat) : Int) := wrapN (by omega)
  refine PCt.of_ev mix fn99 (by simp) ?_
  rw [c99]
  simp +contextual only [go_sem, Row.d]
  refine call_keep hone rfl ?_
  simp +contextual only [go_sem, hv1]
  refine loop_fam (fun j : Nat => ⟨envJ [.junk, .d (.i v), .d (.sl (p.map Rat.d)), .ptr 0 0, .junk, .junk, .ptr 1 0, .ptr 5 0, .d (.i ((v + 1 + j : Nat) : Int))], numO r (numK r v p j).1, 6⟩)
    (fun j => v + 1 + j ≤ nv ∧ (numK r v p j).2 = true) (fun j => nv - j) 0 ⟨by omega, rfl⟩ (SLe.backL _ (by omega) (by omega) (numO_good _ _) (fun j h => ?_) ?_) (fun j hj => ?_)
  · unfold numO
    by_cases e : j = 5
    · subst e; repeat (first | rfl | rw [upd_same] | rw [upd_ne _ _ _ _ (by omega)])
    · repeat (first | rfl | rw [upd_ne _ _ _ _ e])
  · repeat (first | exact backE_nil | refine backE_junk ?_ | refine backE_d rfl ?_ | refine backE_v rfl (by simp [V.refs] <;> omega) ?_)
  simp +contextual only [go_sem]
  refine cond_intro (fun h2 => ?_) (fun h2 => ?_)
  · simp at h2
    obtain ⟨n, hn⟩ : ∃ n, r.c[v + 1 + j]? = some n := ⟨r.c[v + 1 + j]'(by omega), List.getElem?_eq_getElem _⟩
    obtain ⟨x, hx⟩ : ∃ x, p[v + 1 + j]? = some x := ⟨p[v + 1 + j]'(by omega), List.getElem?_eq_getElem _⟩
    have hnb := hr.c n (List.mem_of_getElem? hn)
    have hxo := hpo _ x (by omega) hx
    have hko := numK_ok hr j hj.2
    have hX : numX r v p j = timesV (-n) x := by simp [numX, List.getD_eq_getElem?_getD, hn, hx]
    have hwn : IntKind.i64.wrap (-n) = -n := wrap64 (by omega) (by omega)
    have hby := by'_c x (-n) hxo (by omega)
    rw [← hX] at hby
    simp +contextual only [go_sem, hn, hx, hwn, D.i]
    cases h3 : okR (numX r v p j) with
    | false =>
      have hK : numK r v p (j + 1) = ((numK r v p j).1, false) := by simp only [numK, hj.2, if_true, h3]; rfl
      have hF := numF_stop (r := r) (v := v) (p := p) (j := j + 1) (by omega) (by rw [hK])
      rw [hF, hK]
      rw [h3, if_neg Bool.noConfusion] at hby
      refine callD_pan hby (by decide) ?_
      simp +contextual only [go_sem, hn, hx, hwn]
      refine badE_skip rfl (badE_skip rfl (badE_nil ?_))
      refine ⟨rfl, ?_⟩
      simp only [panS, blockQ_pan, thenQ_pan, loopQ_pan, endW_pan', List.contains_nil, Bool.false_eq_true, if_false, toD, endU_some]
    | true =>
      rw [h3, if_pos rfl] at hby
      refine callD_keep hby rfl ?_
      simp +contextual only [go_sem, hn, hx, hwn]
      have hpl := plus_c (numK r v p j).1 (numX r v p j) hko (okR_ok h3)
      cases h4 : okR (addV (numK r v p j).1 (numX r v p j)) with
      | false =>
        have hK : numK r v p (j + 1) = (addV (numK r v p j).1 (numX r v p j), false) := by simp only [numK, hj.2, if_true, h3, h4]
        have hF := numF_stop (r := r) (v := v) (p := p) (j := j + 1) (by omega) (by rw [hK])
        rw [hF, hK]
        rw [h4, if_neg Bool.noConfusion] at hpl
        refine callD_pan hpl (by decide) ?_
        simp +contextual only [go_sem, hn, hx, hwn]
        refine badE_skip rfl (badE_nil ?_)
        refine ⟨rfl, ?_⟩
        simp only [panS, blockQ_pan, thenQ_pan, loopQ_pan, endW_pan', List.contains_nil, Bool.false_eq_true, if_false, toD, endU_some]
      | true =>
        have hK : numK r v p (j + 1) = (addV (numK r v p j).1 (numX r v p j), true) := by simp only [numK, hj.2, if_true, h3, h4]
        rw [h4, if_pos rfl] at hpl
        refine callD_keep hpl rfl ?_
        simp +contextual only [go_sem, hn, hx, hwn]
        refine end_intro (by decide) ?_
        simp +contextual only [go_sem]
        refine nextS_intro (j + 1) ⟨by omega, by rw [hK]⟩ (by omega) (SLe.backL _ (by omega) (by omega) (numO_good _ _) (fun i h => ?_) ?_)
        · rw [hK]
          unfold numO
          by_cases e : i = 5
          · subst e; repeat (first | rfl | rw [upd_same] | rw [upd_ne _ _ _ _ (by omega)])
          · repeat (first | rfl | rw [upd_ne _ _ _ _ e])
        · repeat (first | exact backE_nil | refine backE_junk ?_ | refine backE_d rfl ?_ | refine backE_d (d_int (wrapN (by omega))) ?_ | refine backE_v rfl (by simp [V.refs] <;> omega) ?_)
  · simp at h2
    have hjn : j = p.length - (v + 1) := by omega
    obtain ⟨c, hc⟩ : ∃ c, r.c[v]? = some c := ⟨r.c[v]'(by omega), List.getElem?_eq_getElem _⟩
    have hcb := hr.c c (List.mem_of_getElem? hc)
    have hcd : r.c.getD v 0 = c := by simp [List.getD_eq_getElem?_getD, hc]
    have hko := numK_ok hr j hj.2
    have m1 := mul9 (a := (numK r v p j).1.den) (b := c) ⟨by have := hko.d; omega, hko.d.2⟩ hcb
    have w1 : IntKind.i64.wrap ((numK r v p j).1.den * c) = (numK r v p j).1.den * c := wrap64 (by omega) (by omega)
    have hne : (numK r v p j).1.den * c ≠ 0 := Int.mul_ne_zero (by have := hko.d; omega) (by rw [← hcd]; exact hc0)
    have hov := over_c (numK r v p j).1.num ((numK r v p j).1.den * c) (by have := hko.n; omega) (by omega) hne
    have hF : numF r v p = (overV (numK r v p j).1.num ((numK r v p j).1.den * c), okR (overV (numK r v p j).1.num ((numK r v p j).1.den * c))) := by
      rw [numF, ← hjn, if_pos hj.2, hcd]
    rw [hF]
    simp +contextual only [go_sem, hc, w1, D.i]
    cases h5 : okR (overV (numK r v p j).1.num ((numK r v p j).1.den * c)) with
    | true =>
      rw [h5, if_pos rfl] at hov
      refine callD_keep hov rfl ?_
      simp +contextual only [go_sem, hc, w1]
      refine end_intro (by decide) ?_
      simp +contextual only [go_sem, if_true]
    | false =>
      rw [h5, if_neg Bool.noConfusion] at hov
      refine callD_pan hov (by decide) ?_
      simp +contextual only [go_sem, hc, w1]
      refine badE_skip rfl (badE_nil ?_)
      refine ⟨rfl, ?_⟩
      simp only [panS, blockQ_pan, thenQ_pan, loopQ_pan, endW_pan', List.contains_nil, Bool.false_eq_true, if_false, toD, endU_some]
@[reducible] def numO' (r : Row) (x : Rat) : Nat → Obj' := upd (upd (upd (fun _ => .no) 0 (.row [.d (.sl (r.c.map .i)), .d (.i r.rel), .d (.i r.b)])) 1 (.row [.d (.i 0), .d (.i 0)])) 6 (.row [.d (.i x.num), .d (.i x.den)])
theorem numO'_good (r : Row) (x : Rat) : Good (numO' r x) 7 := (((Good.nil (nx := 7)).upd (by omega) rfl).upd (by omega) rfl).upd (by omega) rfl
theorem number'_c (r : Row) (v : Nat) (p : List Rat) {nv : Nat} (hr : r.Nice nv) (hnv : nv ≤ 5) (hp : p.length = nv) (hv : v < nv) (hpo : ∀ k x, v < k → p[k]? = some x → x.Ok) (hc0 : r.c.getD v 0 ≠ 0) :
    PCt Try.prog 104 [r.d, .i v, .sl (p.map Rat.d)] (.ret [(numF r v p).1.d, .bool (numF r v p).2]) := by
  have hl := hr.l
  have hv1 : IntKind.i64.wrap ((v : Int) + 1) = ((v + 1 : Nat) : Int) := wrapN (by omega)
  refine PCt.of_ev mix fn104 (by simp) ?_
  rw [c104]
  simp +contextual only [go_sem, Row.d, hv1]
  refine loop_fam (fun j : Nat => ⟨envJ [.junk, .d (.i v), .d (.sl (p.map Rat.d)), .ptr 0 0, .junk, .junk, .ptr 1 0, .junk, .ptr 6 0, .d (.i ((v + 1 + j : Nat) : Int))], numO' r (numK r v p j).1, 7⟩)
    (fun j => v + 1 + j ≤ nv ∧ (numK r v p j).2 = true) (fun j => nv - j) 0 ⟨by omega, rfl⟩ (SLe.backL _ (by omega) (by omega) (numO'_good _ _) (fun j h => ?_) ?_) (fun j hj => ?_)
  · unfold numO'
    by_cases e : j = 6
    · subst e; repeat (first | rfl | rw [upd_same] | rw [upd_ne _ _ _ _ (by omega)])
    · repeat (first | rfl | rw [upd_ne _ _ _ _ e])
  · repeat (first | exact backE_nil | refine backE_junk ?_ | refine backE_d rfl ?_ | refine backE_v rfl (by simp [V.refs] <;> omega) ?_)
  simp +contextual only [go_sem]
  refine cond_intro (fun h2 => ?_) (fun h2 => ?_)
  · simp at h2
    obtain ⟨n, hn⟩ : ∃ n, r.c[v + 1 + j]? = some n := ⟨r.c[v + 1 + j]'(by omega), List.getElem?_eq_getElem _⟩
    obtain ⟨x, hx⟩ : ∃ x, p[v + 1 + j]? = some x := ⟨p[v + 1 + j]'(by omega), List.getElem?_eq_getElem _⟩
    have hnb := hr.c n (List.mem_of_getElem? hn)
    have hxo := hpo _ x (by omega) hx
    have hko := numK_ok hr j hj.2
    have hX : numX r v p j = timesV (-n) x := by simp [numX, List.getD_eq_getElem?_getD, hn, hx]
    have hwn : IntKind.i64.wrap (-n) = -n := wrap64 (by omega) (by omega)
    have hby := times'_c (-n) x hxo (by omega)
    rw [← hX] at hby
    simp +contextual only [go_sem, hn, hx, hwn, D.i]
    refine callD_keep hby rfl ?_
    simp +contextual only [go_sem, hn, hx, hwn]
    refine end_intro (by decide) ?_
    simp +contextual only [go_sem]
    refine call_keep (rat_c (numX r v p j) 1000000000 (by omega)) rfl ?_
    have hok : ratF (numX r v p j) 1000000000 = okR (numX r v p j) := rfl
    rw [hok]
    cases h3 : okR (numX r v p j) with
    | false =>
      have hK : numK r v p (j + 1) = ((numK r v p j).1, false) := by simp only [numK, hj.2, if_true, h3]; rfl
      have hF := numF_stop (r := r) (v := v) (p := p) (j := j + 1) (by omega) (by rw [hK])
      rw [hF, hK]
      simp +contextual only [go_sem]
    | true =>
      simp +contextual only [go_sem]
      refine call_keep (add'_c (numK r v p j).1 (numX r v p j) hko (okR_ok h3)) rfl ?_
      simp +contextual only [go_sem]
      refine call_keep (rat_c (addV (numK r v p j).1 (numX r v p j)) 1000000000 (by omega)) rfl ?_
      have hok : ratF (addV (numK r v p j).1 (numX r v p j)) 1000000000 = okR (addV (numK r v p j).1 (numX r v p j)) := rfl
      rw [hok]
      cases h4 : okR (addV (numK r v p j).1 (numX r v p j)) with
      | false =>
        have hK : numK r v p (j + 1) = (addV (numK r v p j).1 (numX r v p j), false) := by simp only [numK, hj.2, if_true, h3, h4]
        have hF := numF_stop (r := r) (v := v) (p := p) (j := j + 1) (by omega) (by rw [hK])
        rw [hF, hK]
        simp +contextual only [go_sem]
      | true =>
        have hK : numK r v p (j + 1) = (addV (numK r v p j).1 (numX r v p j), true) := by simp only [numK, hj.2, if_true, h3, h4]
        simp +contextual only [go_sem]
        refine nextS_intro (j + 1) ⟨by omega, by rw [hK]⟩ (by omega) (SLe.backL _ (by omega) (by omega) (numO'_good _ _) (fun i h => ?_) ?_)
        · rw [hK]
          unfold numO'
          by_cases e : i = 6
          · subst e; repeat (first | rfl | rw [upd_same] | rw [upd_ne _ _ _ _ (by omega)])
          · repeat (first | rfl | rw [upd_ne _ _ _ _ e] | rw [upd_ne _ _ _ _ (by omega)])
        · repeat (first | exact backE_nil | refine backE_junk ?_ | refine backE_d rfl ?_ | refine backE_d (d_int (wrapN (by omega))) ?_ | refine backE_v rfl (by simp [V.refs] <;> omega) ?_)
  · simp at h2
    have hjn : j = p.length - (v + 1) := by omega
    obtain ⟨c, hc⟩ : ∃ c, r.c[v]? = some c := ⟨r.c[v]'(by omega), List.getElem?_eq_getElem _⟩
    have hcb := hr.c c (List.mem_of_getElem? hc)
    have hcd : r.c.getD v 0 = c := by simp [List.getD_eq_getElem?_getD, hc]
    have hko := numK_ok hr j hj.2
    have m1 := mul9 (a := (numK r v p j).1.den) (b := c) ⟨by have := hko.d; omega, hko.d.2⟩ hcb
    have w1 : IntKind.i64.wrap ((numK r v p j).1.den * c) = (numK r v p j).1.den * c := wrap64 (by omega) (by omega)
    have hne : (numK r v p j).1.den * c ≠ 0 := Int.mul_ne_zero (by have := hko.d; omega) (by rw [← hcd]; exact hc0)
    have hov := over'_c (numK r v p j).1.num ((numK r v p j).1.den * c) (by have := hko.n; omega) (by omega) hne
    have hF : numF r v p = (overV (numK r v p j).1.num ((numK r v p j).1.den * c), okR (overV (numK r v p j).1.num ((numK r v p j).1.den * c))) := by
      rw [numF, ← hjn, if_pos hj.2, hcd]
    rw [hF]
    simp +contextual only [go_sem, hc, w1, D.i]
    refine callD_keep hov rfl ?_
    simp +contextual only [go_sem, hc, w1]
    refine end_intro (by decide) ?_
    simp +contextual only [go_sem]
    refine callD_keep (rat_c (overV (numK r v p j).1.num ((numK r v p j).1.den * c)) 1000000000 (by omega)) rfl ?_
    simp +contextual only [go_sem]
    refine end_intro (by decide) ?_
    simp +contextual only [go_sem]
    rfl
end Go.Proofs.Ytaafchgfibbmhaa
namespace Go.Proofs.Ytaafchgfibbmhaa
abbrev Bnd := Rat × Bool
def eqR (a b : Rat) : Bool := (a.num == b.num) && (a.den == b.den)
def tightB (upper : Bool) (x b : Rat) : Bool := if upper = true then lessV b x else lessV x b
def tightS (a : Option Bnd) (b : Bnd) (upper : Bool) : Bnd :=
  match a with
  | none => b
  | some x => if tightB upper x.1 b.1 = true then b else if eqR x.1 b.1 = true then (x.1, x.2 || b.2) else x
@[reducible] def bndL (b : Bnd) : List D := [.i b.1.num, .i b.1.den, .bool b.2]
def sidL (a : Option Bnd) : List D := match a with | none => [.i 0, .i 0, .bool false, .bool false] | some x => [.i x.1.num, .i x.1.den, .bool x.2, .bool true]
theorem eqRat {o : Nat → Obj'} {c : Bool} (a0 a1 b0 b1 : Int) : eqV Try.prog o 90 c (.d (.agg [.int .i64 a0, .int .i64 a1])) (.d (.agg [.int .i64 b0, .int .i64 b1])) = some (.d (.bool ((a0 == b0) && ((a1 == b1) && true)))) := by kernel_rfl
theorem less1_c (a : Rat) (b : Bnd) (ha : a.Ok) (hb : b.1.Ok) (ib : Nat) (o : Nat → Obj') (nx : Nat) (h1 : o ib = .row ((bndL b).map .d)) (l1 : ib < nx) (K X : V → (Nat → Obj') → Nat → Prop)
    (hK : ∀ o2 n2, nx ≤ n2 → (∀ j, j < nx → o2 j = o j) → K (.d (.bool (lessV a b.1))) o2 n2) : CtK Try.prog 102 [.d a.d, .ptr ib 0] o nx K X := by
  have w1 : ib ≠ nx := by omega
  have w2 : ∀ k, ib ≠ nx + k := fun k => by omega
  refine CtK.of_ev mix fn102 (by simp) ?_
  rw [c102]
  simp +contextual only [go_sem, h1, w1, w2, Nat.add_assoc, Nat.left_eq_add, Nat.add_eq_left, Nat.add_left_cancel_iff]
  refine call_keep (less_c a b.1 ha hb) rfl ?_
  simp +contextual only [go_sem, Nat.add_assoc, Nat.left_eq_add, Nat.add_eq_left, Nat.add_left_cancel_iff]
  exact hK _ _ (by omega) (fun j hj => upd_ne _ _ _ _ (by omega))
theorem addHi_c (a : Option Bnd) (b : Bnd) (ha : ∀ x, a = some x → x.1.Ok) (hb : b.1.Ok) (is : Nat) (o : Nat → Obj') (nx : Nat) (h1 : o is = .row ((sidL a).map .d)) (l1 : is < nx) (K X : V → (Nat → Obj') → Nat → Prop)
    (hK : ∀ o2 n2, nx ≤ n2 → (∀ j, j < nx → j ≠ is → o2 j = o j) → o2 is = .row ((sidL (some (tightS a b true))).map .d) → K (.tup []) o2 n2) :
    CtK Try.prog 100 [.ptr is 0, .d (.agg (bndL b)), .func (.func 101) [.d b.1.d] []] o nx K X := by
  have w1 : is ≠ nx := by omega
  have w2 : ∀ k, is ≠ nx + k := fun k => by omega
  have w3 := Ne.symm w1
  have w4 : ∀ k, nx + k ≠ is := fun k => by omega
  refine CtK.of_ev mix fn100 (by simp) ?_
  rw [c100]
  cases a with
  | none =>
    simp +contextual only [go_sem, sidL, h1, w1, w2, w3, w4, Nat.add_assoc, Nat.left_eq_add, Nat.add_eq_left, Nat.add_left_cancel_iff]
    refine hK _ _ (by omega) (fun j h2 h3 => ?_) ?_
    · repeat (first | rfl | rw [upd_ne _ _ _ _ h3] | rw [upd_ne _ _ _ _ (by omega)])
    · simp only [tightS, sidL, bndL, List.map_cons, List.map_nil]
      repeat (first | rfl | rw [upd_same] | rw [upd_ne _ _ _ _ (by omega)])
  | some x =>
    have hxo := ha x rfl
    simp +contextual only [go_sem, sidL, h1, w1, w2, w3, w4, Nat.add_assoc, Nat.left_eq_add, Nat.add_eq_left, Nat.add_left_cancel_iff]
    refine call_keep (less_c b.1 x.1 hb hxo) rfl ?_
    cases hl : lessV b.1 x.1 with
    | true =>
      have ht : tightS (some x) b true = b := by simp [tightS, tightB, hl]
      simp +contextual only [go_sem, sidL, h1, w1, w2, w3, w4, Nat.add_assoc, Nat.left_eq_add, Nat.add_eq_left, Nat.add_left_cancel_iff]
      refine hK _ _ (by omega) (fun j h2 h3 => ?_) ?_
      · repeat (first | rfl | rw [upd_ne _ _ _ _ h3] | rw [upd_ne _ _ _ _ (by omega)])
      · rw [ht]; simp only [sidL, bndL, List.map_cons, List.map_nil]
        repeat (first | rfl | rw [upd_same] | rw [upd_ne _ _ _ _ (by omega)])
    | false =>
      simp +contextual only [go_sem, sidL, h1, w1, w2, w3, w4, Nat.add_assoc, Nat.left_eq_add, Nat.add_eq_left, Nat.add_left_cancel_iff, eqRat, D.i]
      refine end_intro (objsOk_renL (ids := [is]) (nx := nx) (by simp) (by simp; omega) [([], []), ([0], []), ([0], []), ([0], []), ([0], []), ([1], []), ([1], []), ([], []), ([], [])] (by decide)) ?_
      have hq : (x.1.num == b.1.num && x.1.den == b.1.den) = eqR x.1 b.1 := rfl
      rw [hq]
      cases he : eqR x.1 b.1 with
      | false =>
        have ht : tightS (some x) b true = x := by simp [tightS, tightB, hl, he]
        simp +contextual only [go_sem, sidL, h1, w1, w2, w3, w4, Nat.add_assoc, Nat.left_eq_add, Nat.add_eq_left, Nat.add_left_cancel_iff]
        refine hK _ _ (by omega) (fun j h2 h3 => ?_) ?_
        · repeat (first | rfl | rw [upd_ne _ _ _ _ h3] | rw [upd_ne _ _ _ _ (by omega)])
        · rw [ht, upd_ne _ _ _ _ w1, h1]
      | true =>
        have ht : tightS (some x) b true = (x.1, x.2 || b.2) := by simp [tightS, tightB, hl, he]
        obtain ⟨x1, x2⟩ := x
        cases x2 with
        | true =>
          simp +contextual only [go_sem, sidL, h1, w1, w2, w3, w4, Nat.add_assoc, Nat.left_eq_add, Nat.add_eq_left, Nat.add_left_cancel_iff]
          refine hK _ _ (by omega) (fun j h2 h3 => ?_) ?_
          · repeat (first | rfl | rw [upd_ne _ _ _ _ h3] | rw [upd_ne _ _ _ _ (by omega)])
          · rw [ht]; simp only [sidL, bndL, List.map_cons, List.map_nil, Bool.true_or]
            repeat (first | rfl | rw [upd_same] | rw [upd_ne _ _ _ _ (by omega)])
        | false =>
          simp +contextual only [go_sem, sidL, h1, w1, w2, w3, w4, Nat.add_assoc, Nat.left_eq_add, Nat.add_eq_left, Nat.add_left_cancel_iff]
          refine hK _ _ (by omega) (fun j h2 h3 => ?_) ?_
          · repeat (first | rfl | rw [upd_ne _ _ _ _ h3] | rw [upd_ne _ _ _ _ (by omega)])
          · rw [ht]; simp only [sidL, bndL, List.map_cons, List.map_nil, Bool.false_or]
            repeat (first | rfl | rw [upd_same] | rw [upd_ne _ _ _ _ (by omega)])
theorem addLo_c (a : Option Bnd) (b : Bnd) (ha : ∀ x, a = some x → x.1.Ok) (hb : b.1.Ok) (is : Nat) (ib : Nat) (o : Nat → Obj') (nx : Nat) (h1 : o is = .row ((sidL a).map .d)) (l1 : is < nx) (h2 : o ib = .row ((bndL b).map .d)) (l2 : ib < nx) (K X : V → (Nat → Obj') → Nat → Prop)
    (hK : ∀ o2 n2, nx ≤ n2 → (∀ j, j < nx → j ≠ is → o2 j = o j) → o2 is = .row ((sidL (some (tightS a b false))).map .d) → K (.tup []) o2 n2) :
    CtK Try.prog 100 [.ptr is 0, .d (.agg (bndL b)), .func (.func 102) [] [.ptr ib 0]] o nx K X := by
  have w1 : is ≠ nx := by omega
  have w2 : ∀ k, is ≠ nx + k := fun k => by omega
  have w3 := Ne.symm w1
  have w4 : ∀ k, nx + k ≠ is := fun k => by omega
  have y1 : ib ≠ nx := by omega
  have y2 : ∀ k, ib ≠ nx + k := fun k => by omega
  refine CtK.of_ev mix fn100 (by simp) ?_
  rw [c100]
  cases a with
  | none =>
    simp +contextual only [go_sem, sidL, h1, w1, w2, w3, w4, Nat.add_assoc, Nat.left_eq_add, Nat.add_eq_left, Nat.add_left_cancel_iff]
    refine hK _ _ (by omega) (fun j h2 h3 => ?_) ?_
    · repeat (first | rfl | rw [upd_ne _ _ _ _ h3] | rw [upd_ne _ _ _ _ (by omega)])
    · simp only [tightS, sidL, bndL, List.map_cons, List.map_nil]
      repeat (first | rfl | rw [upd_same] | rw [upd_ne _ _ _ _ (by omega)])
  | some x =>
    have hxo := ha x rfl
    simp +contextual only [go_sem, sidL, h1, w1, w2, w3, w4, Nat.add_assoc, Nat.left_eq_add, Nat.add_eq_left, Nat.add_left_cancel_iff]
    refine callR_heap (less1_c x.1 b hxo hb ib _ _ ?_ ?_ _ _ (fun o2 n2 m1 m2 => ?_))
    · rw [upd_ne _ _ _ _ y1, h2]
    · omega
    have s1 : o2 is = .row [.d (.i x.1.num), .d (.i x.1.den), .d (.bool x.2), .d (.bool true)] := by rw [m2 _ (by omega), upd_ne _ _ _ _ w1, h1]; rfl
    have s2 : o2 nx = .row [.d (.i b.1.num), .d (.i b.1.den), .d (.bool b.2)] := by rw [m2 _ (by omega), upd_same]
    have s3 : ∀ j, j < nx → o2 j = o j := fun j hj => by rw [m2 _ (by omega), upd_ne _ _ _ _ (by omega)]
    cases hl : lessV x.1 b.1 with
    | true =>
      have ht : tightS (some x) b false = b := by simp [tightS, tightB, hl]
      simp +contextual only [go_sem, sidL, s1, s2, w1, w2, w3, w4, Nat.add_assoc, Nat.left_eq_add, Nat.add_eq_left, Nat.add_left_cancel_iff]
      refine hK _ _ (by omega) (fun j h2 h3 => ?_) ?_
      · repeat (first | rfl | exact s3 _ h2 | rw [upd_ne _ _ _ _ h3] | rw [upd_ne _ _ _ _ (by omega)])
      · rw [ht]; simp only [sidL, bndL, List.map_cons, List.map_nil]
        repeat (first | rfl | rw [upd_same] | rw [upd_ne _ _ _ _ (by omega)])
    | false =>
      simp +contextual only [go_sem, sidL, s1, s2, w1, w2, w3, w4, Nat.add_assoc, Nat.left_eq_add, Nat.add_eq_left, Nat.add_left_cancel_iff, eqRat, D.i]
      refine end_intro (objsOk_renL (ids := [is]) (nx := nx) (by simp) (by simp; omega) [([], []), ([0], []), ([0], []), ([0], []), ([0], []), ([1], []), ([1], []), ([], []), ([], [])] (by decide)) ?_
      have hq : (x.1.num == b.1.num && x.1.den == b.1.den) = eqR x.1 b.1 := rfl
      rw [hq]
      cases he : eqR x.1 b.1 with
      | false =>
        have ht : tightS (some x) b false = x := by simp [tightS, tightB, hl, he]
        simp +contextual only [go_sem, sidL, s1, s2, w1, w2, w3, w4, Nat.add_assoc, Nat.left_eq_add, Nat.add_eq_left, Nat.add_left_cancel_iff]
        refine hK _ _ (by omega) (fun j h2 h3 => ?_) ?_
        · exact s3 _ h2
        · rw [ht, s1]; rfl
      | true =>
        have ht : tightS (some x) b false = (x.1, x.2 || b.2) := by simp [tightS, tightB, hl, he]
        obtain ⟨x1, x2⟩ := x
        cases x2 with
        | true =>
          simp +contextual only [go_sem, sidL, s1, s2, w1, w2, w3, w4, Nat.add_assoc, Nat.left_eq_add, Nat.add_eq_left, Nat.add_left_cancel_iff]
          refine hK _ _ (by omega) (fun j h2 h3 => ?_) ?_
          · repeat (first | rfl | exact s3 _ h2 | rw [upd_ne _ _ _ _ h3] | rw [upd_ne _ _ _ _ (by omega)])
          · rw [ht]; simp only [sidL, bndL, List.map_cons, List.map_nil, Bool.true_or]
            repeat (first | rfl | rw [upd_same] | rw [upd_ne _ _ _ _ (by omega)])
        | false =>
          simp +contextual only [go_sem, sidL, s1, s2, w1, w2, w3, w4, Nat.add_assoc, Nat.left_eq_add, Nat.add_eq_left, Nat.add_left_cancel_iff]
          refine hK _ _ (by omega) (fun j h2 h3 => ?_) ?_
          · repeat (first | rfl | exact s3 _ h2 | rw [upd_ne _ _ _ _ h3] | rw [upd_ne _ _ _ _ (by omega)])
          · rw [ht]; simp only [sidL, bndL, List.map_cons, List.map_nil, Bool.false_or]
            repeat (first | rfl | rw [upd_same] | rw [upd_ne _ _ _ _ (by omega)])
end Go.Proofs.Ytaafchgfibbmhaa
