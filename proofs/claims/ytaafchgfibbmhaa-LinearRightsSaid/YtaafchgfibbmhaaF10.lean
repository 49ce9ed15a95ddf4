/-
  FUNCTIONS OF LAYER 15: whether a made row is right, by the program and by the reference. Conditions: as each theorem says.
-/
import Derived.Test.YtaafchgfibbmhaaF9
set_option linter.unusedSimpArgs false
set_option linter.unusedVariables false
namespace Go.Proofs.Ytaafchgfibbmhaa
theorem eqV_line (o : Nat → Obj') (c : Bool) (a0 a1 a2 a3 a4 a5 a6 b0 b1 b2 b3 b4 b5 b6 : Int) :
    eqV Try.prog o 112 c (.d (.agg [.int .i64 a0, .int .i64 a1, .int .i64 a2, .int .i64 a3, .int .i64 a4, .int .i64 a5, .int .i64 a6])) (.d (.agg [.int .i64 b0, .int .i64 b1, .int .i64 b2, .int .i64 b3, .int .i64 b4, .int .i64 b5, .int .i64 b6])) =
      some (.d (.bool (((a0 == b0) && ((a1 == b1) && ((a2 == b2) && ((a3 == b3) && ((a4 == b4) && true))))) && ((a5 == b5) && ((a6 == b6) && true))))) := by kernel_rfl
theorem line_eq {a b : Row} (hl : a.c.length = b.c.length) (h5 : a.c.length ≤ 5) :
    (((a.c.getD 0 0 == b.c.getD 0 0) && ((a.c.getD 1 0 == b.c.getD 1 0) && ((a.c.getD 2 0 == b.c.getD 2 0) && ((a.c.getD 3 0 == b.c.getD 3 0) && ((a.c.getD 4 0 == b.c.getD 4 0) && true))))) && ((a.rel == b.rel) && ((a.b == b.b) && true))) = rowEq a b := by
  have key : ((a.c.getD 0 0 == b.c.getD 0 0) && ((a.c.getD 1 0 == b.c.getD 1 0) && ((a.c.getD 2 0 == b.c.getD 2 0) && ((a.c.getD 3 0 == b.c.getD 3 0) && ((a.c.getD 4 0 == b.c.getD 4 0) && true))))) = (a.c == b.c) := by
    rw [Bool.eq_iff_iff]
    simp only [Bool.and_eq_true, beq_iff_eq, and_true]
    constructor
    · rintro ⟨h0, h1, h2, h3, h4⟩
      apply List.ext_getElem hl
      intro i hi hi'
      have e : a.c.getD i 0 = b.c.getD i 0 := by
        rcases (by omega : i = 0 ∨ i = 1 ∨ i = 2 ∨ i = 3 ∨ i = 4) with h | h | h | h | h <;> rw [h] <;> assumption
      rw [List.getD_eq_getElem?_getD, List.getD_eq_getElem?_getD, List.getElem?_eq_getElem hi, List.getElem?_eq_getElem hi'] at e
      simpa using e
    · intro h; rw [h]; simp
  rw [key, rowEq, Bool.and_true, Bool.and_assoc]
def sumC (vars : Nat) (l : List (Int × Row)) : List Int := l.foldl (fun c x => comb 1 c x.1 x.2.c) (List.replicate vars 0)
def sumB (l : List (Int × Row)) : Int := l.foldl (fun b x => b + x.1 * x.2.b) 0
def negOk (x : Int × Row) : Bool := !(decide (x.1 < 0) && (x.2.rel != 3))
theorem sumC_snoc (v : Nat) (l : List (Int × Row)) (x : Int × Row) : sumC v (l ++ [x]) = comb 1 (sumC v l) x.1 x.2.c := by simp [sumC]
theorem sumB_snoc (l : List (Int × Row)) (x : Int × Row) : sumB (l ++ [x]) = sumB l + x.1 * x.2.b := by simp [sumB]
structure XOk (v : Nat) (x : Int × Row) : Prop where
  n : -1000000000 ≤ x.1 ∧ x.1 ≤ 1000000000
  len : x.2.c.length = v
  c : ∀ c ∈ x.2.c, -1000 ≤ c ∧ c ≤ 1000
  b : -1000 ≤ x.2.b ∧ x.2.b ≤ 1000
theorem sum_bound {v : Nat} {l : List (Int × Row)} (hl : ∀ x ∈ l, XOk v x) : ∀ k, k ≤ l.length → (sumC v (l.take k)).length = v ∧ (∀ (j : Nat) (p : Int), (sumC v (l.take k))[j]? = some p → -(1000000000000 * (k : Int)) ≤ p ∧ p ≤ 1000000000000 * (k : Int)) ∧ -(1000000000000 * (k : Int)) ≤ sumB (l.take k) ∧ sumB (l.take k) ≤ 1000000000000 * (k : Int) := by
  intro k
  induction k with
  | zero =>
    intro _
    refine ⟨by simp [sumC], fun j p h => ?_, by simp [sumB]⟩
    simp [sumC, List.getElem?_replicate] at h
    omega
  | succ k ih =>
    intro hk
    obtain ⟨h1, h2, h3⟩ := ih (by omega)
    have e : l.take (k + 1) = l.take k ++ [l[k]] := by rw [List.take_add_one, List.getElem?_eq_getElem (by omega)]; rfl
    have hx := hl l[k] (List.getElem_mem _)
    have hlen := hx.len
    rw [e, sumC_snoc, sumB_snoc]
    refine ⟨by rw [comb_length (by omega)]; exact h1, fun j p h => ?_, ?_⟩
    · simp only [comb, List.getElem?_zipWith] at h
      split at h
      · rename_i a b ha hb
        simp only [Option.some.injEq] at h
        obtain ⟨g1, g2⟩ := h2 j a ha
        have := mul_bound (a := l[k].1) (b := b) (A := 1000000000) (B := 1000) (by have := hx.n; omega) (by have := hx.c b (List.mem_of_getElem? hb); omega)
        omega
      · cases h
    · have := mul_bound (a := l[k].1) (b := l[k].2.b) (A := 1000000000) (B := 1000) (by have := hx.n; omega) (by have := hx.b; omega)
      omega
def rightF (s : Sys) (m : Made) : Bool := (m.t.zip s.rows).all negOk && rowEq ⟨sumC s.vars.toNat (m.t.zip s.rows), kindF s m.t, sumB (m.t.zip s.rows)⟩ m.r
theorem fits_right (s : Sys) (m : Made) (hc : checkF s = true) (hm : madeF s m = true) : 1 ≤ s.vars ∧ s.vars ≤ 5 ∧ s.rows.length ≤ 10 ∧ ∀ x ∈ m.t.zip s.rows, XOk s.vars.toNat x := by
  simp [checkF, madeF, inB, formedF, allF] at hc hm
  obtain ⟨⟨⟨c1, c2⟩, c3⟩, c4⟩ := hc
  refine ⟨c1, c2, by omega, fun x hx => ?_⟩
  have hz := List.of_mem_zip (a := x.1) (b := x.2) hx
  have h1 := c4 _ hz.2
  have h2 := hm.2 _ hz.1
  exact ⟨h2, by have := h1.1.1.1; omega, fun c hc => h1.1.2 c hc, h1.2⟩
@[reducible] def mrow (m : Made) : Obj' := .row [.d (.sl (m.r.c.map .i)), .d (.i m.r.rel), .d (.i m.r.b), .d (.sl (m.t.map .i))]
@[reducible] def base43 (s : Sys) (m : Made) : Nat → Obj' := upd (upd s.o 1 (mrow m)) 32 (.row [.d (.i s.vars), .d (.sl (s.rows.map Row.d)), .nils])
/-- The heap in the program's loop: the sum's list is made here at first, and is another function's later. -/
def heap43 (s : Sys) (m : Made) : Nat → Nat → Obj'
  | 0 => upd (upd (base43 s m) 36 (.arr 0 3 1 ((List.replicate s.vars.toNat (0 : Int)).map .i))) 42 (.row [.osl 36 0, .d (.i (kindF s m.t)), .d (.i 0)])
  | k + 1 => upd (upd (base43 s m) 36 (.fro 0 ((List.replicate s.vars.toNat (0 : Int)).map .i))) 42 (.row [.d (.sl ((sumC s.vars.toNat ((m.t.zip s.rows).take (k + 1))).map .i)), .d (.i (kindF s m.t)), .d (.i (sumB ((m.t.zip s.rows).take (k + 1))))])
theorem heap43_good (s : Sys) (m : Made) : ∀ k, Good (heap43 s m k) 43
  | 0 => ((((s.o_good.mono (by omega)).upd (by decide) rfl).upd (by decide) rfl).upd (by decide) rfl).upd (by decide) rfl
  | k + 1 => ((((s.o_good.mono (by omega)).upd (by decide) rfl).upd (by decide) rfl).upd (by decide) rfl).upd (by decide) rfl
theorem right_c (s : Sys) (m : Made) (hs : s.Fits) (h1 : m.r.c.length ≤ 9223372036854775807) (h2 : m.t.length ≤ 9223372036854775807) :
    PCt Try.prog 43 [s.d, m.d] (.ret (if checkF s && madeF s m then [.bool (rightF s m), .i 0] else [.bool false, .i 2])) := by
  refine p43 ?_
  rw [c43]
  simp +contextual only [go_sem, Int.reduceBEq, Int.reduceBNe, Int.reduceLT, Int.reduceLE, Int.reduceEq, Int.reduceNe, List.range_zero, Option.isSome_some, Nat.reducePow, and_self, List.cons.injEq, Nat.reduceEqDiff, Nat.reduceAdd, Nat.reduceSub, Nat.reduceMul, Nat.reduceLeDiff, Nat.reduceBEq, Nat.reduceLT, reduceIte, reduceCtorEq]
  cases hc : checkF s with
  | false =>
    have hck := check_c s hs
    simp only [hc, if_true, if_false, Bool.false_eq_true, eq_self] at hck
    refine call_keep hck rfl ?_
    simp +contextual only [go_sem, Int.reduceBEq, Int.reduceBNe, Int.reduceLT, Int.reduceLE, Int.reduceEq, Int.reduceNe, List.range_zero, Option.isSome_some, Nat.reducePow, and_self, List.cons.injEq, Nat.reduceEqDiff, Nat.reduceAdd, Nat.reduceSub, Nat.reduceMul, Nat.reduceLeDiff, Nat.reduceBEq, Nat.reduceLT, reduceIte, reduceCtorEq]
  | true =>
    have hck := check_c s hs
    simp only [hc, if_true, if_false, Bool.false_eq_true, eq_self] at hck
    refine call_keep hck rfl ?_
    simp +contextual only [go_sem, Int.reduceBEq, Int.reduceBNe, Int.reduceLT, Int.reduceLE, Int.reduceEq, Int.reduceNe, List.range_zero, Option.isSome_some, Nat.reducePow, and_self, List.cons.injEq, Nat.reduceEqDiff, Nat.reduceAdd, Nat.reduceSub, Nat.reduceMul, Nat.reduceLeDiff, Nat.reduceBEq, Nat.reduceLT, reduceIte, reduceCtorEq]
    refine call_keep (formed_c m.r s.vars 1000000000 h1 (by omega)) rfl ?_
    cases hf : formedF m.r s.vars 1000000000 with
    | false =>
      have : madeF s m = false := by rw [madeF, hf]; rfl
      rw [this]
      simp +contextual only [go_sem, Int.reduceBEq, Int.reduceBNe, Int.reduceLT, Int.reduceLE, Int.reduceEq, Int.reduceNe, List.range_zero, Option.isSome_some, Nat.reducePow, and_self, List.cons.injEq, Nat.reduceEqDiff, Nat.reduceAdd, Nat.reduceSub, Nat.reduceMul, Nat.reduceLeDiff, Nat.reduceBEq, Nat.reduceLT, reduceIte, reduceCtorEq]
    | true =>
      simp +contextual only [go_sem, Int.reduceBEq, Int.reduceBNe, Int.reduceLT, Int.reduceLE, Int.reduceEq, Int.reduceNe, List.range_zero, Option.isSome_some, Nat.reducePow, and_self, List.cons.injEq, Nat.reduceEqDiff, Nat.reduceAdd, Nat.reduceSub, Nat.reduceMul, Nat.reduceLeDiff, Nat.reduceBEq, Nat.reduceLT, reduceIte, reduceCtorEq]
      cases hl : ((m.t.length : Int) == s.rows.length) with
      | false =>
        have : madeF s m = false := by rw [madeF, hf, hl]; rfl
        rw [this]
        have hl' : ((m.t.length : Int) != s.rows.length) = true := by rw [bne, hl]; rfl
        simp +contextual only [go_sem, Int.reduceBEq, Int.reduceBNe, Int.reduceLT, Int.reduceLE, Int.reduceEq, Int.reduceNe, List.range_zero, Option.isSome_some, Nat.reducePow, and_self, List.cons.injEq, Nat.reduceEqDiff, Nat.reduceAdd, Nat.reduceSub, Nat.reduceMul, Nat.reduceLeDiff, Nat.reduceBEq, Nat.reduceLT, reduceIte, reduceCtorEq, hl']
      | true =>
        have hl' : ((m.t.length : Int) != s.rows.length) = false := by rw [bne, hl]; rfl
        simp +contextual only [go_sem, Int.reduceBEq, Int.reduceBNe, Int.reduceLT, Int.reduceLE, Int.reduceEq, Int.reduceNe, List.range_zero, Option.isSome_some, Nat.reducePow, and_self, List.cons.injEq, Nat.reduceEqDiff, Nat.reduceAdd, Nat.reduceSub, Nat.reduceMul, Nat.reduceLeDiff, Nat.reduceBEq, Nat.reduceLT, reduceIte, reduceCtorEq, hl']
        refine call_keep (every_c m.t 1000000000 h2 (by omega)) rfl ?_
        cases ha : allF m.t 1000000000 with
        | false =>
          have : madeF s m = false := by rw [madeF, hf, hl, ha]; rfl
          rw [this]
          simp +contextual only [go_sem, Int.reduceBEq, Int.reduceBNe, Int.reduceLT, Int.reduceLE, Int.reduceEq, Int.reduceNe, List.range_zero, Option.isSome_some, Nat.reducePow, and_self, List.cons.injEq, Nat.reduceEqDiff, Nat.reduceAdd, Nat.reduceSub, Nat.reduceMul, Nat.reduceLeDiff, Nat.reduceBEq, Nat.reduceLT, reduceIte, reduceCtorEq]
        | true =>
          have : madeF s m = true := by rw [madeF, hf, hl, ha]; rfl
          rw [this]
          obtain ⟨v1, v5, r10, hall⟩ := fits_right s m hc this
          have hv0 : 0 ≤ s.vars := by omega
          have hv8 : 8 * s.vars.toNat ≤ 140737488355328 := by omega
          have hv9 : s.vars.toNat ≤ 140737488355328 := by omega
          have hlen : m.t.length = s.rows.length := by have := beq_iff_eq.1 hl; omega
          have e0 : List.replicate s.vars.toNat (D.int .i64 0) = (List.replicate s.vars.toNat (0 : Int)).map .i := by simp
          simp +contextual only [go_sem, Int.reduceBEq, Int.reduceBNe, Int.reduceLT, Int.reduceLE, Int.reduceEq, Int.reduceNe, List.range_zero, Option.isSome_some, Nat.reducePow, and_self, List.cons.injEq, Nat.reduceEqDiff, Nat.reduceAdd, Nat.reduceSub, Nat.reduceMul, Nat.reduceLeDiff, Nat.reduceBEq, Nat.reduceLT, reduceIte, reduceCtorEq, hv0, hv8, hv9, if_true, e0]
          refine callDR_keep (rd := [32]) (rs := [.i (kindF s m.t)]) (Δ := []) rfl (HCt.of_cto 33 rfl ?_ ?_ (relOf_c s m.t hlen hs.rows 32 _ .nils ?_)) ?_
          · simp [V.refss, V.refs]
          · simp [Obj'.refs, V.refss, V.refs]
          · simp [rst]
          simp +contextual only [go_sem, Int.reduceBEq, Int.reduceBNe, Int.reduceLT, Int.reduceLE, Int.reduceEq, Int.reduceNe, List.range_zero, Option.isSome_some, Nat.reducePow, and_self, List.cons.injEq, Nat.reduceEqDiff, Nat.reduceAdd, Nat.reduceSub, Nat.reduceMul, Nat.reduceLeDiff, Nat.reduceBEq, Nat.reduceLT, reduceIte, reduceCtorEq]
          refine end_intro (by decide) ?_
          simp +contextual only [go_sem, Int.reduceBEq, Int.reduceBNe, Int.reduceLT, Int.reduceLE, Int.reduceEq, Int.reduceNe, List.range_zero, Option.isSome_some, Nat.reducePow, and_self, List.cons.injEq, Nat.reduceEqDiff, Nat.reduceAdd, Nat.reduceSub, Nat.reduceMul, Nat.reduceLeDiff, Nat.reduceBEq, Nat.reduceLT, reduceIte, reduceCtorEq]
          have hzl : (m.t.zip s.rows).length = m.t.length := by simp [hlen]
          refine loop_fam (fun k : Nat => ⟨envJ [.junk, .junk, .ptr 0 0, .ptr 1 0, .junk, .junk, .junk, .ptr 42 0, .junk, .junk, .junk, .junk, .junk, .junk, .junk, .junk, .junk, .junk, .junk, .junk, .junk, .junk, .junk, .junk, .junk, .junk, .junk, .junk, .junk, .junk, .junk, .junk, .junk, .junk, .junk, .junk, .junk, .junk, .junk, .junk, .junk, .junk, .junk, .junk, .junk, .junk, .junk, .junk, .junk, .d (.sl (m.t.map .i)), .d (.i m.t.length), .d (.i k)], heap43 s m k, 43⟩)
            (fun k => k ≤ m.t.length ∧ ((m.t.zip s.rows).take k).all negOk = true) (fun k => m.t.length - k) 0 ⟨Nat.zero_le _, by simp⟩ (SLe.backL _ (Nat.zero_le _) (by omega) (heap43_good s m 0) (fun id hid => by simp only [heap43, upd] <;> ((repeat' split) <;> first | rfl | omega | (simp_all; done))) ?_) (fun k hk => ?_)
          · refine (backE_junk (backE_junk (backE_v rfl (by simp [V.refs]) (backE_v rfl (by simp [V.refs]) (backE_junk (backE_junk (backE_junk (backE_v rfl (by simp [V.refs]) ?_))))))))
            (repeat (first | exact backE_nil | refine backE_junk ?_ | refine backE_d rfl ?_ | refine backE_d (d_int (wrapN (by omega))) ?_))
          simp +contextual only [go_sem, Int.reduceBEq, Int.reduceBNe, Int.reduceLT, Int.reduceLE, Int.reduceEq, Int.reduceNe, List.range_zero, Option.isSome_some, Nat.reducePow, and_self, List.cons.injEq, Nat.reduceEqDiff, Nat.reduceAdd, Nat.reduceSub, Nat.reduceMul, Nat.reduceLeDiff, Nat.reduceBEq, Nat.reduceLT, reduceIte, reduceCtorEq]
          refine cond_intro (fun h3 => ?_) (fun h3 => ?_)
          · simp at h3
            obtain ⟨n, hn⟩ : ∃ n, m.t[k]? = some n := ⟨m.t[k], by simp [h3]⟩
            obtain ⟨r, hr⟩ : ∃ r, s.rows[k]? = some r := ⟨s.rows[k]'(by omega), by simp [← hlen, h3]⟩
            have hz : (m.t.zip s.rows)[k]? = some (n, r) := by rw [List.getElem?_zip_eq_some]; exact ⟨hn, hr⟩
            have hzt : (m.t.zip s.rows).take (k + 1) = (m.t.zip s.rows).take k ++ [(n, r)] := by rw [List.take_add_one, hz]; rfl
            have hx := hall (n, r) (List.mem_of_getElem? hz)
            have hxl : r.c.length = s.vars.toNat := hx.len
            obtain ⟨q1, q2, q3⟩ := sum_bound hall k (by omega)
            have hkl : k ≤ 10 := by omega
            have hnb := mul_bound (a := n) (b := r.b) (A := 1000000000) (B := 1000) (by have := hx.n; omega) (by have := hx.b; omega)
            have hcomb := combined_c 1 (sumC s.vars.toNat ((m.t.zip s.rows).take k)) n r.c (by omega) (by omega) (fun j p q hp hq => by
              have g1 := q2 j p hp
              have g2 := mul_bound (a := n) (b := q) (A := 1000000000) (B := 1000) (by have := hx.n; omega) (by have := hx.c q (List.mem_of_getElem? hq); omega)
              omega)
            have hneg : (decide (n < 0) && (r.rel != 3)) = true → rightF s m = false := fun h => by
              have : (m.t.zip s.rows).all negOk = false := by
                rw [List.all_eq_false]
                exact ⟨(n, r), List.mem_of_getElem? hz, by simp [negOk] at h ⊢; exact h⟩
              rw [rightF, this, Bool.false_and]
            have hgood : (decide (n < 0) && (r.rel != 3)) = false → ((m.t.zip s.rows).take (k + 1)).all negOk = true := fun h => by
              rw [hzt, List.all_append, hk.2]
              simp [negOk] at h ⊢
              by_cases g : n < 0
              · exact .inr (h g)
              · exact .inl (by omega)
            have w1 : IntKind.i64.wrap (n * r.b) = n * r.b := wrap64 (by omega) (by omega)
            have w2 : IntKind.i64.wrap (sumB ((m.t.zip s.rows).take k) + n * r.b) = sumB ((m.t.zip s.rows).take (k + 1)) := by
              rw [hzt, sumB_snoc]
              exact wrap64 (by omega) (by omega)
            have e1 : sumC s.vars.toNat ((m.t.zip s.rows).take (k + 1)) = comb 1 (sumC s.vars.toNat ((m.t.zip s.rows).take k)) n r.c := by rw [hzt, sumC_snoc]
            cases k with
            | zero =>
              have hE : heap43 s m 0 = upd (upd (base43 s m) 36 (.arr 0 3 1 ((List.replicate s.vars.toNat (0 : Int)).map .i))) 42 (.row [.osl 36 0, .d (.i (kindF s m.t)), .d (.i 0)]) := rfl
              simp +contextual only [go_sem, Int.reduceBEq, Int.reduceBNe, Int.reduceLT, Int.reduceLE, Int.reduceEq, Int.reduceNe, List.range_zero, Option.isSome_some, Nat.reducePow, and_self, List.cons.injEq, Nat.reduceEqDiff, Nat.reduceAdd, Nat.reduceSub, Nat.reduceMul, Nat.reduceLeDiff, Nat.reduceBEq, Nat.reduceLT, reduceIte, reduceCtorEq, hn, hr, Row.d, D.i, hE]
              refine cond_intro (fun h4 => ?_) (fun h4 => ?_)
              · simp +contextual only [go_sem, Int.reduceBEq, Int.reduceBNe, Int.reduceLT, Int.reduceLE, Int.reduceEq, Int.reduceNe, List.range_zero, Option.isSome_some, Nat.reducePow, and_self, List.cons.injEq, Nat.reduceEqDiff, Nat.reduceAdd, Nat.reduceSub, Nat.reduceMul, Nat.reduceLeDiff, Nat.reduceBEq, Nat.reduceLT, reduceIte, reduceCtorEq]
                rw [hneg h4]
              · simp +contextual only [go_sem, Int.reduceBEq, Int.reduceBNe, Int.reduceLT, Int.reduceLE, Int.reduceEq, Int.reduceNe, List.range_zero, Option.isSome_some, Nat.reducePow, and_self, List.cons.injEq, Nat.reduceEqDiff, Nat.reduceAdd, Nat.reduceSub, Nat.reduceMul, Nat.reduceLeDiff, Nat.reduceBEq, Nat.reduceLT, reduceIte, reduceCtorEq]
                refine call_give hcomb ?_
                simp +contextual only [go_sem, Int.reduceBEq, Int.reduceBNe, Int.reduceLT, Int.reduceLE, Int.reduceEq, Int.reduceNe, List.range_zero, Option.isSome_some, Nat.reducePow, and_self, List.cons.injEq, Nat.reduceEqDiff, Nat.reduceAdd, Nat.reduceSub, Nat.reduceMul, Nat.reduceLeDiff, Nat.reduceBEq, Nat.reduceLT, reduceIte, reduceCtorEq, w1]
                refine nextS_intro 1 ⟨h3, hgood h4⟩ (by omega) (SLe.backL _ (Nat.zero_le _) (by omega) (heap43_good s m 1) ?_ ?_)
                · have w2' : IntKind.i64.wrap (0 + n * r.b) = sumB ((m.t.zip s.rows).take 1) := w2
                  have e1' : comb 1 (sumC s.vars.toNat []) n r.c = sumC s.vars.toNat ((m.t.zip s.rows).take 1) := e1.symm
                  rw [w2', e1']
                  exact fun id hid => by simp only [heap43, upd] <;> ((repeat' split) <;> first | rfl | omega | (simp_all; done))
                · refine (backE_junk (backE_junk (backE_v rfl (by simp [V.refs]) (backE_v rfl (by simp [V.refs]) (backE_junk (backE_junk (backE_junk (backE_v rfl (by simp [V.refs]) ?_))))))))
                  (repeat (first | exact backE_nil | refine backE_junk ?_ | refine backE_d rfl ?_ | refine backE_d (d_int (wrapN (by omega))) ?_))
            | succ k =>
              have hE : heap43 s m (k + 1) = upd (upd (base43 s m) 36 (.fro 0 ((List.replicate s.vars.toNat (0 : Int)).map .i))) 42 (.row [.d (.sl ((sumC s.vars.toNat ((m.t.zip s.rows).take (k + 1))).map .i)), .d (.i (kindF s m.t)), .d (.i (sumB ((m.t.zip s.rows).take (k + 1))))]) := rfl
              simp +contextual only [go_sem, Int.reduceBEq, Int.reduceBNe, Int.reduceLT, Int.reduceLE, Int.reduceEq, Int.reduceNe, List.range_zero, Option.isSome_some, Nat.reducePow, and_self, List.cons.injEq, Nat.reduceEqDiff, Nat.reduceAdd, Nat.reduceSub, Nat.reduceMul, Nat.reduceLeDiff, Nat.reduceBEq, Nat.reduceLT, reduceIte, reduceCtorEq, hn, hr, Row.d, D.i, hE]
              refine cond_intro (fun h4 => ?_) (fun h4 => ?_)
              · simp +contextual only [go_sem, Int.reduceBEq, Int.reduceBNe, Int.reduceLT, Int.reduceLE, Int.reduceEq, Int.reduceNe, List.range_zero, Option.isSome_some, Nat.reducePow, and_self, List.cons.injEq, Nat.reduceEqDiff, Nat.reduceAdd, Nat.reduceSub, Nat.reduceMul, Nat.reduceLeDiff, Nat.reduceBEq, Nat.reduceLT, reduceIte, reduceCtorEq]
                rw [hneg h4]
              · simp +contextual only [go_sem, Int.reduceBEq, Int.reduceBNe, Int.reduceLT, Int.reduceLE, Int.reduceEq, Int.reduceNe, List.range_zero, Option.isSome_some, Nat.reducePow, and_self, List.cons.injEq, Nat.reduceEqDiff, Nat.reduceAdd, Nat.reduceSub, Nat.reduceMul, Nat.reduceLeDiff, Nat.reduceBEq, Nat.reduceLT, reduceIte, reduceCtorEq]
                refine call_give hcomb ?_
                simp +contextual only [go_sem, Int.reduceBEq, Int.reduceBNe, Int.reduceLT, Int.reduceLE, Int.reduceEq, Int.reduceNe, List.range_zero, Option.isSome_some, Nat.reducePow, and_self, List.cons.injEq, Nat.reduceEqDiff, Nat.reduceAdd, Nat.reduceSub, Nat.reduceMul, Nat.reduceLeDiff, Nat.reduceBEq, Nat.reduceLT, reduceIte, reduceCtorEq, w1]
                refine nextS_intro (k + 2) ⟨h3, hgood h4⟩ (by omega) (SLe.backL _ (Nat.zero_le _) (by omega) (heap43_good s m (k + 2)) ?_ ?_)
                · rw [w2, ← e1]
                  exact fun id hid => by simp only [heap43, upd] <;> ((repeat' split) <;> first | rfl | omega | (simp_all; done))
                · refine (backE_junk (backE_junk (backE_v rfl (by simp [V.refs]) (backE_v rfl (by simp [V.refs]) (backE_junk (backE_junk (backE_junk (backE_v rfl (by simp [V.refs]) ?_))))))))
                  (repeat (first | exact backE_nil | refine backE_junk ?_ | refine backE_d rfl ?_ | refine backE_d (d_int (wrapN (by omega))) ?_))
          · simp at h3
            have hk' : (m.t.zip s.rows).take k = m.t.zip s.rows := List.take_of_length_le (by omega)
            obtain ⟨q1, q2, q3⟩ := sum_bound hall k (by omega)
            have hmr : m.r.c.length = s.vars.toNat := by
              simp [formedF] at hf; omega
            have hfin : rightF s m = rowEq ⟨sumC s.vars.toNat ((m.t.zip s.rows).take k), kindF s m.t, sumB ((m.t.zip s.rows).take k)⟩ m.r := by
              have := hk.2
              rw [hk'] at this
              rw [rightF, this, hk', Bool.true_and]
            have hle := line_eq (a := ⟨sumC s.vars.toNat ((m.t.zip s.rows).take k), kindF s m.t, sumB ((m.t.zip s.rows).take k)⟩) (b := m.r) (by simp only; omega) (by simp only; omega)
            have hl1 := lineOf_c ⟨sumC s.vars.toNat ((m.t.zip s.rows).take k), kindF s m.t, sumB ((m.t.zip s.rows).take k)⟩ (by simp only; omega)
            have hl2 := lineOf_c m.r (by omega)
            rw [hfin, ← hle]
            cases k with
            | zero =>
              have hE : heap43 s m 0 = upd (upd (base43 s m) 36 (.arr 0 3 1 ((List.replicate s.vars.toNat (0 : Int)).map .i))) 42 (.row [.osl 36 0, .d (.i (kindF s m.t)), .d (.i 0)]) := rfl
              simp +contextual only [go_sem, Int.reduceBEq, Int.reduceBNe, Int.reduceLT, Int.reduceLE, Int.reduceEq, Int.reduceNe, List.range_zero, Option.isSome_some, Nat.reducePow, and_self, List.cons.injEq, Nat.reduceEqDiff, Nat.reduceAdd, Nat.reduceSub, Nat.reduceMul, Nat.reduceLeDiff, Nat.reduceBEq, Nat.reduceLT, reduceIte, reduceCtorEq, hE]
              refine callD_keep hl1 rfl ?_
              simp +contextual only [go_sem, Int.reduceBEq, Int.reduceBNe, Int.reduceLT, Int.reduceLE, Int.reduceEq, Int.reduceNe, List.range_zero, Option.isSome_some, Nat.reducePow, and_self, List.cons.injEq, Nat.reduceEqDiff, Nat.reduceAdd, Nat.reduceSub, Nat.reduceMul, Nat.reduceLeDiff, Nat.reduceBEq, Nat.reduceLT, reduceIte, reduceCtorEq, hE]
              refine callD_keep hl2 rfl ?_
              simp +contextual only [go_sem, Int.reduceBEq, Int.reduceBNe, Int.reduceLT, Int.reduceLE, Int.reduceEq, Int.reduceNe, List.range_zero, Option.isSome_some, Nat.reducePow, and_self, List.cons.injEq, Nat.reduceEqDiff, Nat.reduceAdd, Nat.reduceSub, Nat.reduceMul, Nat.reduceLeDiff, Nat.reduceBEq, Nat.reduceLT, reduceIte, reduceCtorEq, hE, eqV_line]
              refine end_intro (by decide) ?_
              simp +contextual only [go_sem, Int.reduceBEq, Int.reduceBNe, Int.reduceLT, Int.reduceLE, Int.reduceEq, Int.reduceNe, List.range_zero, Option.isSome_some, Nat.reducePow, and_self, List.cons.injEq, Nat.reduceEqDiff, Nat.reduceAdd, Nat.reduceSub, Nat.reduceMul, Nat.reduceLeDiff, Nat.reduceBEq, Nat.reduceLT, reduceIte, reduceCtorEq]
            | succ k =>
              have hE : heap43 s m (k + 1) = upd (upd (base43 s m) 36 (.fro 0 ((List.replicate s.vars.toNat (0 : Int)).map .i))) 42 (.row [.d (.sl ((sumC s.vars.toNat ((m.t.zip s.rows).take (k + 1))).map .i)), .d (.i (kindF s m.t)), .d (.i (sumB ((m.t.zip s.rows).take (k + 1))))]) := rfl
              simp +contextual only [go_sem, Int.reduceBEq, Int.reduceBNe, Int.reduceLT, Int.reduceLE, Int.reduceEq, Int.reduceNe, List.range_zero, Option.isSome_some, Nat.reducePow, and_self, List.cons.injEq, Nat.reduceEqDiff, Nat.reduceAdd, Nat.reduceSub, Nat.reduceMul, Nat.reduceLeDiff, Nat.reduceBEq, Nat.reduceLT, reduceIte, reduceCtorEq, hE]
              refine callD_keep hl1 rfl ?_
              simp +contextual only [go_sem, Int.reduceBEq, Int.reduceBNe, Int.reduceLT, Int.reduceLE, Int.reduceEq, Int.reduceNe, List.range_zero, Option.isSome_some, Nat.reducePow, and_self, List.cons.injEq, Nat.reduceEqDiff, Nat.reduceAdd, Nat.reduceSub, Nat.reduceMul, Nat.reduceLeDiff, Nat.reduceBEq, Nat.reduceLT, reduceIte, reduceCtorEq, hE]
              refine callD_keep hl2 rfl ?_
              simp +contextual only [go_sem, Int.reduceBEq, Int.reduceBNe, Int.reduceLT, Int.reduceLE, Int.reduceEq, Int.reduceNe, List.range_zero, Option.isSome_some, Nat.reducePow, and_self, List.cons.injEq, Nat.reduceEqDiff, Nat.reduceAdd, Nat.reduceSub, Nat.reduceMul, Nat.reduceLeDiff, Nat.reduceBEq, Nat.reduceLT, reduceIte, reduceCtorEq, hE, eqV_line]
              refine end_intro (by decide) ?_
              simp +contextual only [go_sem, Int.reduceBEq, Int.reduceBNe, Int.reduceLT, Int.reduceLE, Int.reduceEq, Int.reduceNe, List.range_zero, Option.isSome_some, Nat.reducePow, and_self, List.cons.injEq, Nat.reduceEqDiff, Nat.reduceAdd, Nat.reduceSub, Nat.reduceMul, Nat.reduceLeDiff, Nat.reduceBEq, Nat.reduceLT, reduceIte, reduceCtorEq]
end Go.Proofs.Ytaafchgfibbmhaa
