/-
  A PART OF THE PROOF (put together by program): several texts, one behind the other. Conditions: none.
-/
import Derived.Test.YtaafchgfibbmhaaPk25
set_option linter.unusedSimpArgs false
set_option linter.unusedVariables false
namespace Go.Proofs.Ytaafchgfibbmhaa
theorem eqV_line (o : Nat → Obj') (c : Bool) (a0 a1 a2 a3 a4 a5 a6 b0 b1 b2 b3 b4 b5 b6 : Int) :
    eqV Try.prog o 112 c (.d (.agg [.int .i64 a0, .int .i64 a1, .int .i64 a2, .int .i64 a3, .int .i64 a4, .int .i64 a5, .int .i64 a6])) (.d (.agg [.int .i64 b0, .int .i64 b1, .int .i64 b2, .int .i64 b3, .int .i64 b4, .int .i64 b5, .int .i64 b6])) =
      some (.d (.bool (((a0 == b0) && ((a1 == b1) && ((a2 == b2) && ((a3 == b3) && ((a4 == b4) && true))))) && ((a5 == b5) && ((a6 == b6) && true))))) := by kernel_rfl
theorem line_eq {a b : Row} (hl : a.c.length = b.c.length) (h5 : a.c.length ≤ 5) :
    (((a.c.getD 0 0 == b.c.getD 0 0) && ((a.c.getD 1 0 == b.c.getD 1 0) && ((a.c.getD 2 0 == b.c.getD 2 0) && ((a.c.getD 3 0 == b.c.getD 3 0) && ((a.c.getD 4 0 == b.c.getD 4 0) && true))))) && ((a.rel == b.rel) && ((a.b == b.b) && true))) = rowEq a b := by
  have key : ((a.c.getD 0 0 == b.c.getD 0 0) && ((a.c.getD 1 0 == b.c.getD 1 0) && ((a.c.getD 2 0 == b.c.getD 2 0) && ((a.c.getD 3 0 == b.c.getD 3 0) && ((a.c.getD 4 0 == b.c.getD 4 0) && true))))) = (a.c == b.c) := by
    rw [Bool.eq_iff_iff]
    simp only [Bool.and_eq_true, beq_iff_eq, and_true]
    constructor
    · rintro ⟨h0, h1, h2, h3, h4⟩
      apply List.ext_getElem hl
      intro i hi hi'
      have e : a.c.getD i 0 = b.c.getD i 0 := by
        rcases (by omega : i = 0 ∨ i = 1 ∨ i = 2 ∨ i = 3 ∨ i = 4) with h | h | h | h | h <;> rw [h] <;> assumption
      rw [List.getD_eq_getElem?_getD, List.getD_eq_getElem?_getD, List.getElem?_eq_getElem hi, List.getElem?_eq_getElem hi'] at e
      simpa using e
    · intro h; rw [h]; simp
  rw [key, rowEq, Bool.and_true, Bool.and_assoc]
def sumC (vars : Nat) (l : List (Int × Row)) : List Int := l.foldl (fun c x => comb 1 c x.1 x.2.c) (List.replicate vars 0)
def sumB (l : List (Int × Row)) : Int := l.foldl (fun b x => b + x.1 * x.2.b) 0
def negOk (x : Int × Row) : Bool := !(decide (x.1 < 0) && (x.2.rel != 3))
theorem sumC_snoc (v : Nat) (l : List (Int × Row)) (x : Int × Row) : sumC v (l ++ [x]) = comb 1 (sumC v l) x.1 x.2.c := by simp [sumC]
theorem sumB_snoc (l : List (Int × Row)) (x : Int × Row) : sumB (l ++ [x]) = sumB l + x.1 * x.2.b := by simp [sumB]
structure XOk (v : Nat) (x : Int × Row) : Prop where
  n : -1000000000 ≤ x.1 ∧ x.1 ≤ 1000000000
  len : x.2.c.length = v
  c : ∀ c ∈ x.2.c, -1000 ≤ c ∧ c ≤ 1000
  b : -1000 ≤ x.2.b ∧ x.2.b ≤ 1000
theorem sum_bound {v : Nat} {l : List (Int × Row)} (hl : ∀ x ∈ l, XOk v x) : ∀ k, k ≤ l.length → (sumC v (l.take k)).length = v ∧ (∀ (j : Nat) (p : Int), (sumC v (l.take k))[j]? = some p → -(1000000000000 * (k : Int)) ≤ p ∧ p ≤ 1000000000000 * (k : Int)) ∧ -(1000000000000 * (k : Int)) ≤ sumB (l.take k) ∧ sumB (l.take k) ≤ 1000000000000 * (k : Int) := by
  intro k
  induction k with
  | zero =>
    intro _
    refine ⟨by simp [sumC], fun j p h => ?_, by simp [sumB]⟩
    simp [sumC, List.getElem?_replicate] at h
    omega
  | succ k ih =>
    intro hk
    obtain ⟨h1, h2, h3⟩ := ih (by omega)
    have e : l.take (k + 1) = l.take k ++ [l[k]] := by rw [List.take_add_one, List.getElem?_eq_getElem (by omega)]; rfl
    have hx := hl l[k] (List.getElem_mem _)
    have hlen := hx.len
    rw [e, sumC_snoc, sumB_snoc]
    refine ⟨by rw [comb_length (by omega)]; exact h1, fun j p h => ?_, ?_⟩
    · simp only [comb, List.getElem?_zipWith] at h
      split at h
      · rename_i a b ha hb
        simp only [Option.some.injEq] at h
        obtain ⟨g1, g2⟩ := h2 j a ha
        have := mul_bound (a := l[k].1) (b := b) (A := 1000000000) (B := 1000) (by have := hx.n; omega) (by have := hx.c b (List.mem_of_getElem? hb); omega)
        omega
      · cases h
    · have := mul_bound (a := l[k].1) (b := l[k].2.b) (A := 1000000000) (B := 1000) (by have := hx.n; omega) (by have := hx.b; omega)
      omega
def rightF (s : Sys) (m : Made) : Bool := (m.t.zip s.rows).all negOk && rowEq ⟨sumC s.vars.toNat (m.t.zip s.rows), kindF s m.t, sumB (m.t.zip s.rows)⟩ m.r
theorem fits_right (s : Sys) (m : Made) (hc : checkF s = true) (hm : madeF s m = true) : 1 ≤ s.vars ∧ s.vars ≤ 5 ∧ s.rows.length ≤ 10 ∧ ∀ x ∈ m.t.zip s.rows, XOk s.vars.toNat x := by
  simp [checkF, madeF, inB, formedF, allF] at hc hm
  obtain ⟨⟨⟨c1, c2⟩, c3⟩, c4⟩ := hc
  refine ⟨c1, c2, by omega, fun x hx => ?_⟩
  have hz := List.of_mem_zip (a := x.1) (b := x.2) hx
  have h1 := c4 _ hz.2
  have h2 := hm.2 _ hz.1
  exact ⟨h2, by have := h1.1.1.1; omega, fun c hc => h1.1.2 c hc, h1.2⟩
@[reducible] def mrow (m : Made) : Obj' := .row [.d (.sl (m.r.c.map .i)), .d (.i m.r.rel), .d (.i m.r.b), .d (.sl (m.t.map .i))]
@[reducible] def base43 (s : Sys) (m : Made) : Nat → Obj' := upd (upd s.o 1 (mrow m)) 32 (.row [.d (.i s.vars), .d (.sl (s.rows.map Row.d)), .nils])
def heap43 (s : Sys) (m : Made) : Nat → Nat → Obj'
  | 0 => upd (upd (base43 s m) 36 (.arr 0 3 1 ((List.replicate s.vars.toNat (0 : Int)).map .i))) 42 (.row [.osl 36 0, .d (.i (kindF s m.t)), .d (.i 0)])
  | k + 1 => upd (upd (base43 s m) 36 (.fro 0 ((List.replicate s.vars.toNat (0 : Int)).map .i))) 42 (.row [.d (.sl ((sumC s.vars.toNat ((m.t.zip s.rows).take (k + 1))).map .i)), .d (.i (kindF s m.t)), .d (.i (sumB ((m.t.zip s.rows).take (k + 1))))])
theorem heap43_good (s : Sys) (m : Made) : ∀ k, Good (heap43 s m k) 43
  | 0 => ((((s.o_good.mono (by omega)).upd (by decide) rfl).upd (by decide) rfl).upd (by decide) rfl).upd (by decide) rfl
  | k + 1 => ((((s.o_good.mono (by omega)).upd (by decide) rfl).upd (by decide) rfl).upd (by decide) rfl).upd (by decide) rfl
theorem right_c (s : Sys) (m : Made) (hs : s.Fits) (h1 : m.r.c.length ≤ 9223372036854775807) (h2 : m.t.length ≤ 9223372036854775807) :
    PCt Try.prog 43 [s.d, m.d] (.ret (if checkF s && madeF s m then [.bool (rightF s m), .i 0] else [.bool false, .i 2])) := by
  refine PCt.of_ev mix fn43 (by simp) ?_
  rw [c43]
  simp +contextual only [go_sem]
  cases hc : checkF s with
  | false =>
    have hck := check_c s hs
    simp only [hc, if_true, if_false, Bool.false_eq_true, eq_self] at hck
    refine call_keep hck rfl ?_
    simp +contextual only [go_sem]
  | true =>
    have hck := check_c s hs
    simp only [hc, if_true, if_false, Bool.false_eq_true, eq_self] at hck
    refine call_keep hck rfl ?_
    simp +contextual only [go_sem]
    refine call_keep (formed_c m.r s.vars 1000000000 h1 (by omega)) rfl ?_
    cases hf : formedF m.r s.vars 1000000000 with
    | false =>
      have : madeF s m = false := by rw [madeF, hf]; rfl
      rw [this]
      simp +contextual only [go_sem]
    | true =>
      simp +contextual only [go_sem]
      cases hl : ((m.t.length : Int) == s.rows.length) with
      | false =>
        have : madeF s m = false := by rw [madeF, hf, hl]; rfl
        rw [this]
        have hl' : ((m.t.length : Int) != s.rows.length) = true := by rw [bne, hl]; rfl
        simp +contextual only [go_sem, hl']
      | true =>
        have hl' : ((m.t.length : Int) != s.rows.length) = false := by rw [bne, hl]; rfl
        simp +contextual only [go_sem, hl']
        refine call_keep (every_c m.t 1000000000 h2 (by omega)) rfl ?_
        cases ha : allF m.t 1000000000 with
        | false =>
          have : madeF s m = false := by rw [madeF, hf, hl, ha]; rfl
          rw [this]
          simp +contextual only [go_sem]
        | true =>
          have : madeF s m = true := by rw [madeF, hf, hl, ha]; rfl
          rw [this]
          obtain ⟨v1, v5, r10, hall⟩ := fits_right s m hc this
          have hv0 : 0 ≤ s.vars := by omega
          have hv8 : 8 * s.vars.toNat ≤ 140737488355328 := by omega
          have hv9 : s.vars.toNat ≤ 140737488355328 := by omega
          have hlen : m.t.length = s.rows.length := by have := beq_iff_eq.1 hl; omega
          have e0 : List.replicate s.vars.toNat (D.int .i64 0) = (List.replicate s.vars.toNat (0 : Int)).map .i := by simp
          simp +contextual only [go_sem, hv0, hv8, hv9, if_true, e0]
          refine callDR_keep (rd := [32]) (rs := [.i (kindF s m.t)]) (Δ := []) rfl (HCt.of_cto 33 rfl ?_ ?_ (relOf_c s m.t hlen hs.rows 32 _ .nils ?_)) ?_
          · simp [V.refss, V.refs]
          · simp [Obj'.refs, V.refss, V.refs]
          · simp [rst]
          simp +contextual only [go_sem]
          refine end_intro (by decide) ?_
          simp +contextual only [go_sem]
          have hzl : (m.t.zip s.rows).length = m.t.length := by simp [hlen]
          refine loop_fam (fun k : Nat => ⟨envJ [.junk, .junk, .ptr 0 0, .ptr 1 0, .junk, .junk, .junk, .ptr 42 0, .junk, .junk, .junk, .junk, .junk, .junk, .junk, .junk, .junk, .junk, .junk, .junk, .junk, .junk, .junk, .junk, .junk, .junk, .junk, .junk, .junk, .junk, .junk, .junk, .junk, .junk, .junk, .junk, .junk, .junk, .junk, .junk, .junk, .junk, .junk, .junk, .junk, .junk, .junk, .junk, .junk, .d (.sl (m.t.map .i)), .d (.i m.t.length), .d (.i k)], heap43 s m k, 43⟩)
            (fun k => k ≤ m.t.length ∧ ((m.t.zip s.rows).take k).all negOk = true) (fun k => m.t.length - k) 0 ⟨Nat.zero_le _, by simp⟩ (SLe.backL _ (Nat.zero_le _) (by omega) (heap43_good s m 0) (fun id hid => by simp only [heap43, upd] <;> ((repeat' split) <;> first | rfl | omega | (simp_all; done))) ?_) (fun k hk => ?_)
          · refine (backE_junk (backE_junk (backE_v rfl (by simp [V.refs]) (backE_v rfl (by simp [V.refs]) (backE_junk (backE_junk (backE_junk (backE_v rfl (by simp [V.refs]) ?_))))))))
            (repeat (first | exact backE_nil | refine backE_junk ?_ | refine backE_d rfl ?_ | refine backE_d (d_int (wrapN (by omega))) ?_))
          simp +contextual only [go_sem]
          refine cond_intro (fun h3 => ?_) (fun h3 => ?_)
          · simp at h3
            obtain ⟨n, hn⟩ : ∃ n, m.t[k]? = some n := ⟨m.t[k], by simp [h3]⟩
            obtain ⟨r, hr⟩ : ∃ r, s.rows[k]? = some r := ⟨s.rows[k]'(by omega), by simp [← hlen, h3]⟩
            have hz : (m.t.zip s.rows)[k]? = some (n, r) := by rw [List.getElem?_zip_eq_some]; exact ⟨hn, hr⟩
            have hzt : (m.t.zip s.rows).take (k + 1) = (m.t.zip s.rows).take k ++ [(n, r)] := by rw [List.take_add_one, hz]; rfl
            have hx := hall (n, r) (List.mem_of_getElem? hz)
            have hxl : r.c.length = s.vars.toNat := hx.len
            obtain ⟨q1, q2, q3⟩ := sum_bound hall k (by omega)
            have hkl : k ≤ 10 := by omega
            have hnb := mul_bound (a := n) (b := r.b) (A := 1000000000) (B := 1000) (by have := hx.n; omega) (by have := hx.b; omega)
            have hcomb := combined_c 1 (sumC s.vars.toNat ((m.t.zip s.rows).take k)) n r.c (by omega) (by omega) (fun j p q hp hq => by
              have g1 := q2 j p hp
              have g2 := mul_bound (a := n) (b := q) (A := 1000000000) (B := 1000) (by have := hx.n; omega) (by have := hx.c q (List.mem_of_getElem? hq); omega)
              omega)
            have hneg : (decide (n < 0) && (r.rel != 3)) = true → rightF s m = false := fun h => by
              have : (m.t.zip s.rows).all negOk = false := by
                rw [List.all_eq_false]
                exact ⟨(n, r), List.mem_of_getElem? hz, by simp [negOk] at h ⊢; exact h⟩
              rw [rightF, this, Bool.false_and]
            have hgood : (decide (n < 0) && (r.rel != 3)) = false → ((m.t.zip s.rows).take (k + 1)).all negOk = true := fun h => by
              rw [hzt, List.all_append, hk.2]
              simp [negOk] at h ⊢
              by_cases g : n < 0
              · exact .inr (h g)
              · exact .inl (by omega)
            have w1 : IntKind.i64.wrap (n * r.b) = n * r.b := wrap64 (by omega) (by omega)
            have w2 : IntKind.i64.wrap (sumB ((m.t.zip s.rows).take k) + n * r.b) = sumB ((m.t.zip s.rows).take (k + 1)) := by
              rw [hzt, sumB_snoc]
              exact wrap64 (by omega) (by omega)
            have e1 : sumC s.vars.toNat ((m.t.zip s.rows).take (k + 1)) = comb 1 (sumC s.vars.toNat ((m.t.zip s.rows).take k)) n r.c := by rw [hzt, sumC_snoc]
            cases k with
            | zero =>
              have hE : heap43 s m 0 = upd (upd (base43 s m) 36 (.arr 0 3 1 ((List.replicate s.vars.toNat (0 : Int)).map .i))) 42 (.row [.osl 36 0, .d (.i (kindF s m.t)), .d (.i 0)]) := rfl
              simp +contextual only [go_sem, hn, hr, Row.d, D.i, hE]
              refine cond_intro (fun h4 => ?_) (fun h4 => ?_)
              · simp +contextual only [go_sem]
                rw [hneg h4]
              · simp +contextual only [go_sem]
                refine call_give hcomb ?_
                simp +contextual only [go_sem, w1]
                refine nextS_intro 1 ⟨h3, hgood h4⟩ (by omega) (SLe.backL _ (Nat.zero_le _) (by omega) (heap43_good s m 1) ?_ ?_)
                · have w2' : IntKind.i64.wrap (0 + n * r.b) = sumB ((m.t.zip s.rows).take 1) := w2
                  have e1' : comb 1 (sumC s.vars.toNat []) n r.c = sumC s.vars.toNat ((m.t.zip s.rows).take 1) := e1.symm
                  rw [w2', e1']
                  exact fun id hid => by simp only [heap43, upd] <;> ((repeat' split) <;> first | rfl | omega | (simp_all; done))
                · refine (backE_junk (backE_junk (backE_v rfl (by simp [V.refs]) (backE_v rfl (by simp [V.refs]) (backE_junk (backE_junk (backE_junk (backE_v rfl (by simp [V.refs]) ?_))))))))
                  (repeat (first | exact backE_nil | refine backE_junk ?_ | refine backE_d rfl ?_ | refine backE_d (d_int (wrapN (by omega))) ?_))
            | succ k =>
              have hE : heap43 s m (k + 1) = upd (upd (base43 s m) 36 (.fro 0 ((List.replicate s.vars.toNat (0 : Int)).map .i))) 42 (.row [.d (.sl ((sumC s.vars.toNat ((m.t.zip s.rows).take (k + 1))).map .i)), .d (.i (kindF s m.t)), .d (.i (sumB ((m.t.zip s.rows).take (k + 1))))]) := rfl
              simp +contextual only [go_sem, hn, hr, Row.d, D.i, hE]
              refine cond_intro (fun h4 => ?_) (fun h4 => ?_)
              · simp +contextual only [go_sem]
                rw [hneg h4]
              · simp +contextual only [go_sem]
                refine call_give hcomb ?_
                simp +contextual only [go_sem, w1]
                refine nextS_intro (k + 2) ⟨h3, hgood h4⟩ (by omega) (SLe.backL _ (Nat.zero_le _) (by omega) (heap43_good s m (k + 2)) ?_ ?_)
                · rw [w2, ← e1]
                  exact fun id hid => by simp only [heap43, upd] <;> ((repeat' split) <;> first | rfl | omega | (simp_all; done))
                · refine (backE_junk (backE_junk (backE_v rfl (by simp [V.refs]) (backE_v rfl (by simp [V.refs]) (backE_junk (backE_junk (backE_junk (backE_v rfl (by simp [V.refs]) ?_))))))))
                  (repeat (first | exact backE_nil | refine backE_junk ?_ | refine backE_d rfl ?_ | refine backE_d (d_int (wrapN (by omega))) ?_))
          · simp at h3
            have hk' : (m.t.zip s.rows).take k = m.t.zip s.rows := List.take_of_length_le (by omega)
            obtain ⟨q1, q2, q3⟩ := sum_bound hall k (by omega)
            have hmr : m.r.c.length = s.vars.toNat := by
              simp [formedF] at hf; omega
            have hfin : rightF s m = rowEq ⟨sumC s.vars.toNat ((m.t.zip s.rows).take k), kindF s m.t, sumB ((m.t.zip s.rows).take k)⟩ m.r := by
              have := hk.2
              rw [hk'] at this
              rw [rightF, this, hk', Bool.true_and]
            have hle := line_eq (a := ⟨sumC s.vars.toNat ((m.t.zip s.rows).take k), kindF s m.t, sumB ((m.t.zip s.rows).take k)⟩) (b := m.r) (by simp only; omega) (by simp only; omega)
            have hl1 := lineOf_c ⟨sumC s.vars.toNat ((m.t.zip s.rows).take k), kindF s m.t, sumB ((m.t.zip s.rows).take k)⟩ (by simp only; omega)
            have hl2 := lineOf_c m.r (by omega)
            rw [hfin, ← hle]
            cases k with
            | zero =>
              have hE : heap43 s m 0 = upd (upd (base43 s m) 36 (.arr 0 3 1 ((List.replicate s.vars.toNat (0 : Int)).map .i))) 42 (.row [.osl 36 0, .d (.i (kindF s m.t)), .d (.i 0)]) := rfl
              simp +contextual only [go_sem, hE]
              refine callD_keep hl1 rfl ?_
              simp +contextual only [go_sem, hE]
              refine callD_keep hl2 rfl ?_
              simp +contextual only [go_sem, hE, eqV_line]
              refine end_intro (by decide) ?_
              simp +contextual only [go_sem]
            | succ k =>
              have hE : heap43 s m (k + 1) = upd (upd (base43 s m) 36 (.fro 0 ((List.replicate s.vars.toNat (0 : Int)).map .i))) 42 (.row [.d (.sl ((sumC s.vars.toNat ((m.t.zip s.rows).take (k + 1))).map .i)), .d (.i (kindF s m.t)), .d (.i (sumB ((m.t.zip s.rows).take (k + 1))))]) := rfl
              simp +contextual only [go_sem, hE]
              refine callD_keep hl1 rfl ?_
              simp +contextual only [go_sem, hE]
              refine callD_keep hl2 rfl ?_
              simp +contextual only [go_sem, hE, eqV_line]
              refine end_intro (by decide) ?_
              simp +contextual only [go_sem]
end Go.Proofs.Ytaafchgfibbmhaa
namespace Go.Proofs.Ytaafchgfibbmhaa
end Go.Proofs.Ytaafchgfibbmhaa
namespace Go.Proofs.Ytaafchgfibbmhaa
def Grows (so : Nat → Obj') (c : Nat) (ty : TypeId) (sz : Nat) (es : List D) (x : V) : Prop :=
  (x = .nils ∧ es = [] ∧ 0 < sz) ∨ ∃ id ep, c ≤ id ∧ x = .osl id ep ∧ so id = .arr ep ty sz es
def growE (c : Nat) (x : V) (env : Nat → V) : List V → Nat → Prop
  | [], _ => True
  | v :: l, i => (v = .junk ∨ (v = env i ∧ ∀ r ∈ v.refs, r < c) ∨ (v = .osl c 0 ∧ env i = x)) ∧ growE c x env l (i + 1)
theorem growE_nil {c : Nat} {x : V} {env : Nat → V} {i : Nat} : growE c x env [] i := trivial
theorem growE_junk {c : Nat} {x : V} {env : Nat → V} {l : List V} {i : Nat} (h : growE c x env l (i + 1)) : growE c x env (.junk :: l) i := ⟨.inl rfl, h⟩
theorem growE_d {c : Nat} {x : V} {env : Nat → V} {l : List V} {i : Nat} {y : D} (he : env i = .d y) (h : growE c x env l (i + 1)) : growE c x env (.d y :: l) i := ⟨.inr (.inl ⟨he.symm, fun r hr => by simp [V.refs] at hr⟩), h⟩
theorem growE_v {c : Nat} {x : V} {env : Nat → V} {l : List V} {i : Nat} {v : V} (he : env i = v) (hr : ∀ r ∈ v.refs, r < c) (h : growE c x env l (i + 1)) : growE c x env (v :: l) i := ⟨.inr (.inl ⟨he.symm, hr⟩), h⟩
theorem growE_x {c : Nat} {x : V} {env : Nat → V} {l : List V} {i : Nat} (he : env i = x) (h : growE c x env l (i + 1)) : growE c x env (.osl c 0 :: l) i := ⟨.inr (.inr ⟨rfl, he⟩), h⟩
theorem growE_at {c : Nat} {x : V} {env : Nat → V} : ∀ (l : List V) (i : Nat), growE c x env l i → ∀ j, envJ l j = .junk ∨ (envJ l j = env (i + j) ∧ ∀ r ∈ (envJ l j).refs, r < c) ∨ (envJ l j = .osl c 0 ∧ env (i + j) = x)
  | [], i, _, j => by rw [envJ_nil]; exact .inl rfl
  | v :: l, i, h, 0 => by rw [envJ_zero]; exact h.1
  | v :: l, i, h, j + 1 => by
    rw [envJ_succ]
    have := growE_at l (i + 1) h.2 j
    rwa [show i + 1 + j = i + (j + 1) by omega] at this
def growPl (φ : Place) (c : Nat) (x : V) : Place := fun id => if id = c then (match x with | .osl id _ => φ id | _ => .slice none 0 0) else φ id
theorem SLe.grow {b : Nat} {e : Nat → V} {so : Nat → Obj'} {m : Nat} (l : List V) {o : Nat → Obj'} {c : Nat} {ty : TypeId} {sz : Nat} {es : List D} (x : V) (hb : b ≤ c) (hcm : c ≤ m) (hg : Good o c) (ho : ∀ id, id < c → so id = o id) (hx : Grows so c ty sz es x) (he : growE c x e l 0) :
    SLe b ⟨e, so, m⟩ ⟨envJ l, upd o c (.arr 0 ty sz es), c + 1⟩ := by
  intro M φ w tm hH hd
  let φ' : Place := growPl φ c x
  let o' : Nat → Obj' := upd o c (.arr 0 ty sz es)
  let H' : Hp := hp o' (c + 1)
  let H : Hp := ⟨so, fun id => id < m⟩
  have hoc : o' c = .arr 0 ty sz es := upd_same _ _ _
  have hol : ∀ id, id < c → o' id = o id := fun id hid => upd_ne _ _ _ _ (by omega)
  have hoh : ∀ id, c < id → o' id = .no := fun id hid => by rw [show o' id = o id from upd_ne _ _ _ _ (by omega)]; exact hg.fresh id (by omega)
  have hφl : ∀ id, id < c → φ' id = φ id := fun id hid => if_neg (by omega)
  have hφn : x = .nils → φ' c = .slice none 0 0 := fun h => by simp only [φ', growPl, h, if_pos]
  have hφc : ∀ id ep, x = .osl id ep → φ' c = φ id := fun id ep h => by simp only [φ', growPl, if_pos, h]
  
  have hold : ∀ id k, (o' id).live = true → blk (φ' id) = some k → ∃ j, (so j).live = true ∧ blk (φ j) = some k ∧ ((id < c ∧ j = id) ∨ (id = c ∧ c ≤ j)) := by
    intro id k h1 h2
    rcases Nat.lt_trichotomy id c with hlt | heq | hgt
    · rw [hol id hlt] at h1; rw [hφl id hlt] at h2
      exact ⟨id, by rw [ho id hlt]; exact h1, h2, .inl ⟨hlt, rfl⟩⟩
    · subst heq
      rcases hx with ⟨rfl, _, _⟩ | ⟨j, ep, hj, rfl, hso⟩
      · rw [hφn rfl] at h2; cases h2
      · rw [hφc j ep rfl] at h2
        exact ⟨j, by rw [hso]; rfl, h2, .inr ⟨rfl, hj⟩⟩
    · rw [hoh id hgt] at h1; cases h1
  have hlive : ∀ k, liveB φ' H' k → liveB φ H k := by
    rintro k ⟨id, h1, h2⟩
    obtain ⟨j, g1, g2, _⟩ := hold id k h1 h2
    exact ⟨j, g1, g2⟩
  have hB : ∀ k, ¬ mutB M φ H k → ¬ mutB M φ' H' k := fun k h h' => h (h'.imp id (hlive k))
  have hin : ∀ id, id < c → H'.o id = H.o id ∧ φ' id = φ id ∧ H'.us id := fun id hid => ⟨(hol id hid).trans (ho id hid).symm, hφl id hid, (by show id < c + 1; omega)⟩
  have hval : ∀ (v : V) (val : Value), (∀ r ∈ v.refs, r < c) → V.den (mutB M φ H) φ H w v val → V.den (mutB M φ' H') φ' H' w v val := fun v val hr h =>
    V.den_refs (H := H) (H' := H') hB v val (fun id hid => hin id (hr id hid)) h
  have hvals : ∀ (v : List V) (val : List Value), (∀ r ∈ V.refss v, r < c) → V.dens (mutB M φ H) φ H w v val → V.dens (mutB M φ' H') φ' H' w v val := fun v val hr h =>
    V.dens_refs (H := H) (H' := H') hB v val (fun id hid => hin id (hr id hid)) h
  refine ⟨φ', ⟨fun id => ?_, fun id hu => hoh id (by have : ¬ id < c + 1 := hu; omega), fun i j k h1 h2 h3 h4 => ?_, fun k hk => hH.ours k (hlive k hk), hH.old⟩, fun i => ?_, hlive, by show b ≤ c + 1; omega, fun id hid hr => ?_, fun id e' hid he' => ?_⟩
  · have hall := hH.ok id
    have hrefs := hg.refs id
    show ObjOk M φ' H' w id
    unfold ObjOk at hall ⊢
    rcases Nat.lt_trichotomy id c with hlt | heq | hgt
    · have e1 : (S.H ⟨e, so, m⟩).o id = o id := ho id hlt
      rw [e1] at hall
      have e2 : H'.o id = o id := hol id hlt
      rw [e2, hφl id hlt]
      cases hx' : o id with
      | no => trivial
      | row cs =>
        simp only [hx'] at hall hrefs ⊢
        obtain ⟨b, carr, ty, k1, k2, k3, k4⟩ := hall
        exact ⟨b, carr, ty, k1, k2, hvals _ _ hrefs k3, k4⟩
      | arr ep ty sz es =>
        simp only [hx'] at hall ⊢
        obtain ⟨k1, xs, k2, evs, k3, k4, k5⟩ := hall
        exact ⟨k1, xs, k2, evs, k3, k4, D.dens_mono (fun b _ hn => ⟨rfl, hB b hn⟩) _ _ k5⟩
      | fro ep es =>
        simp only [hx'] at hall ⊢
        exact D.den_mono (fun b _ hn => ⟨rfl, hB b hn⟩) _ _ hall
      | map kt vt es =>
        simp only [hx'] at hall ⊢
        obtain ⟨b, es', clock, k1, k2, k3⟩ := hall
        exact ⟨b, es', clock, k1, k2, EntsDen.mono (fun b _ hn => ⟨rfl, hB b hn⟩) _ _ k3⟩
      | loop nf n env ps a b st pd =>
        simp only [hx'] at hall hrefs ⊢
        obtain ⟨b, r, k1, k2, k3, k4, k5, k6, k7, k8, k9, k10⟩ := hall
        exact ⟨b, r, k1, k2, k3, k4, k5, k6, k7, k8, k9, fun i => hval _ _ (fun r hr => hrefs r (V.refss_get _ _ r hr)) (k10 i)⟩
    · subst heq
      have e2 : H'.o id = .arr 0 ty sz es := hoc
      rw [e2]
      rcases hx with ⟨rfl, rfl, hsz⟩ | ⟨j, ep, hj, rfl, hso⟩
      · refine ⟨hsz, [], ?_, [], by simp, by simp, rfl⟩
        rw [hφn rfl]
        exact World.ownsRow_nil _ _ _ _
      · have := hH.ok j
        unfold ObjOk at this
        simp only [S.H, hso] at this
        obtain ⟨k1, xs, k2, evs, k3, k4, k5⟩ := this
        exact ⟨k1, xs, by rw [hφc j ep rfl]; exact k2, evs, k3, k4, D.dens_mono (fun b _ hn => ⟨rfl, hB b hn⟩) _ _ k5⟩
    · have e2 : H'.o id = .no := hoh id hgt
      rw [e2]
      trivial
  · obtain ⟨i', a1, a2, a3⟩ := hold i k h1 h3
    obtain ⟨j', b1, b2, b3⟩ := hold j k h2 h4
    have := hH.apart i' j' k a1 b1 a2 b2
    rcases a3 with ⟨a3, a4⟩ | ⟨a3, a4⟩ <;> rcases b3 with ⟨b3, b4⟩ | ⟨b3, b4⟩ <;> omega
  · have hi := growE_at l 0 he i
    rw [Nat.zero_add] at hi
    rcases hi with h | ⟨h1, h2⟩ | ⟨h1, h2⟩
    · show V.den _ _ _ _ (envJ l i) _
      rw [h]; trivial
    · have := hd i
      simp only at this
      rw [← h1] at this
      exact hval _ _ h2 this
    · have := hd i
      simp only at this
      rw [h2] at this
      show V.den _ _ _ _ (envJ l i) _
      rw [h1]
      rcases hx with ⟨rfl, rfl, hsz⟩ | ⟨j, ep, hj, rfl, hso⟩
      · simp only [V.den] at this
        rw [this]
        refine ⟨rfl, (by show c < c + 1; omega), fun e' he' => ?_⟩
        have he' : (H'.o c).epoch = some e' := he'
        have this : H'.o c = .arr 0 ty sz [] := hoc
        rw [this] at he'
        simp only [Obj'.epoch, Option.some.injEq] at he'
        subst he'
        exact ⟨Nat.le_refl _, fun _ => (hφn rfl).symm⟩
      · obtain ⟨g1, g2, g3⟩ := this
        refine ⟨g1, (by show c < c + 1; omega), fun e' he' => ?_⟩
        have he' : (H'.o c).epoch = some e' := he'
        have this : H'.o c = .arr 0 ty sz es := hoc
        rw [this] at he'
        simp only [Obj'.epoch, Option.some.injEq] at he'
        subst he'
        have hep : ((S.H ⟨e, so, m⟩).o j).epoch = some ep := by simp only [S.H, hso, Obj'.epoch]
        exact ⟨Nat.le_refl _, fun _ => by rw [hφc j ep rfl]; exact (g3 ep hep).2 rfl⟩
  · have hlt : id < c := by omega
    exact ⟨by show (so id).isRow = true; rw [ho id hlt, ← hol id hlt]; exact hr, hφl id hlt⟩
  · have hlt : id < c := by omega
    exact ⟨e', by show (so id).epoch = some e'; rw [ho id hlt, ← hol id hlt]; exact he', Nat.le_refl _, fun _ => hφl id hlt⟩
def CtD (P : Program) (g : FuncId) (args : List V) (o : Nat → Obj') (x : D) : Prop :=
  ∀ nx, Good o nx → ∀ K X, (∀ v o' nx', nx ≤ nx' → Good o' nx' → (∀ id, id < nx → o' id = o id) → toD o' v = some x → (∀ id ∈ v.ids, nx ≤ id) → K v o' nx') → CtK P g args o nx K X
theorem HCt.of_ctd {P : Program} {g : FuncId} {args : List V} {rd : List Nat} {o : Nat → Obj'} {x : D} (nx : Nat) (hnx : rd.all (fun id => decide (id < nx)) = true) (hargs : ∀ id ∈ V.refss args, id ∈ rd) (hcl : ∀ id ∈ rd, ∀ j ∈ (o id).refs, j ∈ rd)
    (h : CtD P g args (rst rd o) x) : HCt P g args rd o (.ret [x]) [] := by
  have hlt : ∀ id ∈ rd, id < nx := fun id hid => by simpa using List.all_eq_true.1 hnx id hid
  have hin : ∀ id, id ∈ rd → rst rd o id = o id := fun id hid => by simp [rst, hid]
  have hout : ∀ id, id ∉ rd → rst rd o id = .no := fun id hid => by simp [rst, hid]
  have hgood : Good (rst rd o) nx := by
    refine ⟨fun id hid => hout id (fun hm => by have := hlt id hm; omega), fun id r hr => ?_⟩
    by_cases hid : id ∈ rd
    · rw [hin id hid] at hr; exact hlt r (hcl id hid r hr)
    · rw [hout id hid] at hr; cases hr
  refine HCt.of_ctk (nx := nx) hlt hargs hcl (fun x hx => by cases hx) (fun x hx => by cases hx) (h nx hgood _ _ fun v o' nx' _ _ h3 h4 h5 => ⟨fun id hid => ?_, [v], [x], rfl, ?_, rfl, fun id hid hm => ?_⟩)
  · rw [h3 id (hlt id hid), hin id hid]; rfl
  · simp [toDs, h4]
  · simp only [V.idss, List.append_nil] at hid
    have := h5 id hid
    have := hlt id hm
    omega
def CtR (P : Program) (g : FuncId) (args : List V) (o : Nat → Obj') (x : D) (pan : Bool) : Prop :=
  ∀ nx, Good o nx → ∀ K X, (∀ o' nx', nx ≤ nx' → Good o' nx' → (∀ id, id < nx → o' id = o id) → match pan with | false => K (.d x) o' nx' | true => X (.d x) o' nx') → CtK P g args o nx K X
theorem HCt.of_ctr {P : Program} {g : FuncId} {args : List V} {rd : List Nat} {o : Nat → Obj'} {x : D} {pan : Bool} (nx : Nat) (hnx : rd.all (fun id => decide (id < nx)) = true) (hargs : ∀ id ∈ V.refss args, id ∈ rd) (hcl : ∀ id ∈ rd, ∀ j ∈ (o id).refs, j ∈ rd)
    (h : CtR P g args (rst rd o) x pan) : HCt P g args rd o (match pan with | false => .ret [x] | true => .pan x) [] := by
  have hlt : ∀ id ∈ rd, id < nx := fun id hid => by simpa using List.all_eq_true.1 hnx id hid
  have hin : ∀ id, id ∈ rd → rst rd o id = o id := fun id hid => by simp [rst, hid]
  have hout : ∀ id, id ∉ rd → rst rd o id = .no := fun id hid => by simp [rst, hid]
  have hgood : Good (rst rd o) nx := by
    refine ⟨fun id hid => hout id (fun hm => by have := hlt id hm; omega), fun id r hr => ?_⟩
    by_cases hid : id ∈ rd
    · rw [hin id hid] at hr; exact hlt r (hcl id hid r hr)
    · rw [hout id hid] at hr; cases hr
  refine HCt.of_ctk (nx := nx) hlt hargs hcl (fun x hx => by cases hx) (fun x hx => by cases hx) (h nx hgood _ _ fun o' nx' _ _ h3 => ?_)
  have same : ∀ id ∈ rd, o' id = put o [] id := fun id hid => by rw [h3 id (hlt id hid), hin id hid]; rfl
  cases pan with
  | false => exact ⟨same, [.d x], [x], rfl, rfl, rfl, fun id hid => by simp [V.idss, V.ids] at hid⟩
  | true => exact ⟨same, x, rfl, rfl, fun id hid => by simp [V.ids] at hid⟩
end Go.Proofs.Ytaafchgfibbmhaa
namespace Go.Proofs.Ytaafchgfibbmhaa
def divs (l : List Int) (g : Int) : List Int := l.map (fun n => n.tdiv g)
theorem tdiv_small {n g : Int} (hn : -9223372036854775807 ≤ n ∧ n ≤ 9223372036854775807) (hg : 1 ≤ g) : -9223372036854775807 ≤ n.tdiv g ∧ n.tdiv g ≤ 9223372036854775807 := by
  have h1 : (n.tdiv g).natAbs ≤ n.natAbs := by rw [Int.natAbs_tdiv]; exact Nat.div_le_self _ _
  omega
theorem by_c (l : List Int) (g : Int) (id : Nat) (o : Nat → Obj') (ho : o id = .row [.d (.i g)]) (hg1 : 1 ≤ g) (hl : l.length ≤ 1000) (hb : ∀ n ∈ l, -9223372036854775807 ≤ n ∧ n ≤ 9223372036854775807) :
    CtD Try.prog 128 [.d (.sl (l.map .i)), .ptr id 0] o (.sl ((divs l g).map .i)) := by
  intro nx hg K X hK
  have hid : id < nx := hg.lt (by rw [ho]; exact Obj'.noConfusion)
  refine CtK.of_ev mix fn128 (by simp) ?_
  rw [c128]
  simp +contextual only [go_sem]
  refine loop_fam (fun k : Nat => ⟨envJ [.junk, .ptr id 0, .junk, .junk, .osl nx 0, .junk, .junk, .d (.sl (l.map .i)), .d (.i l.length), .d (.i k)], upd o nx (.arr 0 3 1 ((divs (l.take k) g).map .i)), nx + 1⟩)
    (fun k => k ≤ l.length) (fun k => l.length - k) 0 (Nat.zero_le _) (SLe.grow _ .nils (Nat.le_refl _) (by omega) hg (fun _ _ => rfl) (.inl ⟨rfl, rfl, by decide⟩) ?_) (fun k hk => ?_)
  · exact growE_junk (growE_v rfl (by simp [V.refs]; omega) (growE_junk (growE_junk (growE_x rfl (growE_junk (growE_junk (growE_d rfl (growE_d rfl (growE_d rfl growE_nil)))))))))
  simp +contextual only [go_sem]
  refine cond_intro (fun h2 => ?_) (fun h2 => ?_)
  · simp at h2
    obtain ⟨n, hn⟩ : ∃ n, l[k]? = some n := ⟨l[k], by simp [h2]⟩
    have hnb := hb n (List.mem_of_getElem? hn)
    have hg0 : ¬ (g = 0) := by omega
    have hne : id ≠ nx := by omega
    have hlen : (divs (l.take k) g).length ≤ 140737488355327 := by simp [divs]; omega
    have hlen8 : ((divs (l.take k) g).length + 1) * 8 ≤ 140737488355328 := by simp [divs]; omega
    simp +contextual only [go_sem, hn, ho, hne, hg0, D.i, if_false, if_true, hlen, hlen8, Nat.add_assoc, Nat.left_eq_add, Nat.add_eq_left, Nat.add_left_cancel_iff]
    have hstep : (divs (l.take k) g).map D.i ++ [D.i (n.tdiv g)] = (divs (l.take (k + 1)) g).map D.i := by
      rw [List.take_add_one, hn]; simp [divs]
    have htd := tdiv_small hnb hg1
    rw [wrap64 (n := n.tdiv g) (by omega) (by omega), hstep]
    refine nextS_intro (k + 1) h2 (by omega) (SLe.grow _ (.osl nx 1) (Nat.le_refl _) (by omega) hg (fun i hi => ?_) (.inr ⟨nx, 1, Nat.le_refl _, rfl, by simp⟩) ?_)
    · rw [upd_ne _ _ _ _ (by omega), upd_ne _ _ _ _ (by omega), upd_ne _ _ _ _ (by omega)]
    · exact growE_junk (growE_v rfl (by simp [V.refs]; omega) (growE_junk (growE_junk (growE_x rfl (growE_junk (growE_junk (growE_d rfl (growE_d rfl (growE_d (d_int (wrapN (by omega))) growE_nil)))))))))
  · simp +contextual only [go_sem]
    simp at h2
    rw [List.take_of_length_le (by omega)]
    refine hK _ _ _ (by omega) ((hg.mono (by omega)).upd (by omega) rfl) (fun i hi => upd_ne _ _ _ _ (by omega)) ?_ ?_
    · simp [toD]
    · simp [V.ids]
end Go.Proofs.Ytaafchgfibbmhaa
namespace Go.Proofs.Ytaafchgfibbmhaa
def gcdM (m : Made) : Nat := gcdL (m.r.b :: (m.r.c ++ m.t))
def redM (m : Made) : Made := if 1 < gcdM m then ⟨⟨divs m.r.c (gcdM m), m.r.rel, m.r.b.tdiv (gcdM m)⟩, divs m.t (gcdM m)⟩ else m
def bigOk (m : Made) : Bool := allF m.r.c 1000000000 && inB m.r.b (-1000000000) 1000000000 && allF m.t 1000000000
@[reducible] def tooD : D := .iface 119 (.agg [])
structure Made.Num (m : Made) : Prop where
  c : ∀ n ∈ m.r.c, -9223372036854775807 ≤ n ∧ n ≤ 9223372036854775807
  b : -9223372036854775807 ≤ m.r.b ∧ m.r.b ≤ 9223372036854775807
  t : ∀ n ∈ m.t, -9223372036854775807 ≤ n ∧ n ≤ 9223372036854775807
  lc : m.r.c.length ≤ 1000
  lt : m.t.length ≤ 1000
theorem all_cells (l : List Int) : ((l.map D.i).all fun z => z.cells.length == 1) = true := by simp [D.cells]
theorem reduced_c (m : Made) (hm : m.Num) : PCt Try.prog 112 [m.d] (if bigOk (redM m) then .ret [(redM m).d] else .pan tooD) := by
  have hlc := hm.lc
  have hlt := hm.lt
  have hdv := divisor_c (m.r.b :: (m.r.c ++ m.t)) (by simp; omega) (fun n hn => by
    simp at hn
    rcases hn with rfl | hn | hn
    · exact hm.b
    · exact hm.c n hn
    · exact hm.t n hn)
  simp only [List.map_cons, List.map_append] at hdv
  refine PCt.of_ev mix fn112 (by simp) ?_
  rw [c112]
  have k1 : 1 + m.r.c.length ≤ 140737488355328 := by omega
  have k2 : (1 + m.r.c.length) * 8 ≤ 140737488355328 := by omega
  have k3 : m.r.c.length + 1 + m.t.length ≤ 140737488355328 := by omega
  have k4 : (m.r.c.length + 1 + m.t.length) * 8 ≤ 140737488355328 := by omega
  have a1 := all_cells m.r.c
  have a2 := all_cells m.t
  simp only [D.cells] at a1 a2
  simp +contextual only [go_sem, if_true, k1, k2, k3, k4, a1, a2]
  refine callD_keep hdv rfl ?_
  simp +contextual only [go_sem, if_true, k1, k2, k3, k4, a1, a2]
  refine end_intro (by decide) ?_
  have hG : gcdL (m.r.b :: (m.r.c ++ m.t)) = gcdM m := rfl
  rw [hG]
  simp +contextual only [go_sem]
  refine cond_intro (fun h1 => ?_) (fun h1 => ?_)
  · simp at h1
    have hg1 : (1 : Int) ≤ gcdM m := by omega
    have hg0 : ¬ ((gcdM m : Int) = 0) := by omega
    simp +contextual only [go_sem]
    refine callDR_keep (rd := [14]) (rs := [.sl ((divs m.r.c (gcdM m)).map .i)]) (Δ := []) rfl (HCt.of_ctd 15 rfl ?_ ?_ (by_c m.r.c (gcdM m) 14 _ ?_ hg1 hlc hm.c)) ?_
    · simp [V.refss, V.refs]
    · simp [Obj'.refs, V.refss, V.refs]
    · simp [rst]
    simp +contextual only [go_sem, hg0, if_false]
    refine callDR_keep (rd := [14]) (rs := [.sl ((divs m.t (gcdM m)).map .i)]) (Δ := []) rfl (HCt.of_ctd 15 rfl ?_ ?_ (by_c m.t (gcdM m) 14 _ ?_ hg1 hlt hm.t)) ?_
    · simp [V.refss, V.refs]
    · simp [Obj'.refs, V.refss, V.refs]
    · simp [rst]
    simp +contextual only [go_sem, hg0, if_false]
    refine end_intro (by decide) ?_
    simp +contextual only [go_sem]
    have hM : redM m = Made.mk ⟨divs m.r.c (gcdM m), m.r.rel, m.r.b.tdiv (gcdM m)⟩ (divs m.t (gcdM m)) := by rw [redM, if_pos (by omega)]
    have htd := tdiv_small hm.b hg1
    rw [wrap64 (n := m.r.b.tdiv (gcdM m)) (by omega) (by omega)]
    refine call_keep (every_c (Made.mk ⟨divs m.r.c (gcdM m), m.r.rel, m.r.b.tdiv (gcdM m)⟩ (divs m.t (gcdM m))).r.c 1000000000 (by simp [divs]; omega) (by omega)) rfl ?_
    have hbig : bigOk (Made.mk ⟨divs m.r.c (gcdM m), m.r.rel, m.r.b.tdiv (gcdM m)⟩ (divs m.t (gcdM m))) = (allF (Made.mk ⟨divs m.r.c (gcdM m), m.r.rel, m.r.b.tdiv (gcdM m)⟩ (divs m.t (gcdM m))).r.c 1000000000 && inB (Made.mk ⟨divs m.r.c (gcdM m), m.r.rel, m.r.b.tdiv (gcdM m)⟩ (divs m.t (gcdM m))).r.b (-1000000000) 1000000000 && allF (Made.mk ⟨divs m.r.c (gcdM m), m.r.rel, m.r.b.tdiv (gcdM m)⟩ (divs m.t (gcdM m))).t 1000000000) := rfl
    cases e1 : allF (Made.mk ⟨divs m.r.c (gcdM m), m.r.rel, m.r.b.tdiv (gcdM m)⟩ (divs m.t (gcdM m))).r.c 1000000000 with
    | false =>
      rw [hM, hbig, e1]
      simp +contextual only [go_sem]
    | true =>
      simp +contextual only [go_sem]
      refine call_keep (within_c _ _ _) rfl ?_
      cases e2 : inB (Made.mk ⟨divs m.r.c (gcdM m), m.r.rel, m.r.b.tdiv (gcdM m)⟩ (divs m.t (gcdM m))).r.b (-1000000000) 1000000000 with
      | false =>
        rw [hM, hbig, e1, e2]
        have e2' : (decide (-1000000000 ≤ (Made.mk ⟨divs m.r.c (gcdM m), m.r.rel, m.r.b.tdiv (gcdM m)⟩ (divs m.t (gcdM m))).r.b) && decide ((Made.mk ⟨divs m.r.c (gcdM m), m.r.rel, m.r.b.tdiv (gcdM m)⟩ (divs m.t (gcdM m))).r.b ≤ 1000000000)) = false := e2
        simp +contextual only [go_sem, e2']
      | true =>
        have e2' : (decide (-1000000000 ≤ (Made.mk ⟨divs m.r.c (gcdM m), m.r.rel, m.r.b.tdiv (gcdM m)⟩ (divs m.t (gcdM m))).r.b) && decide ((Made.mk ⟨divs m.r.c (gcdM m), m.r.rel, m.r.b.tdiv (gcdM m)⟩ (divs m.t (gcdM m))).r.b ≤ 1000000000)) = true := e2
        simp +contextual only [go_sem, e2']
        refine call_keep (every_c (Made.mk ⟨divs m.r.c (gcdM m), m.r.rel, m.r.b.tdiv (gcdM m)⟩ (divs m.t (gcdM m))).t 1000000000 (by simp [divs]; omega) (by omega)) rfl ?_
        cases e3 : allF (Made.mk ⟨divs m.r.c (gcdM m), m.r.rel, m.r.b.tdiv (gcdM m)⟩ (divs m.t (gcdM m))).t 1000000000 with
        | false =>
          rw [hM, hbig, e1, e2, e3]
          simp +contextual only [go_sem]
        | true =>
          rw [hM, hbig, e1, e2, e3]
          simp +contextual only [go_sem]
  · simp at h1
    have hM : redM m = m := by rw [redM, if_neg (by omega)]
    simp +contextual only [go_sem]
    refine call_keep (every_c m.r.c 1000000000 (by omega) (by omega)) rfl ?_
    have hbig : bigOk m = (allF m.r.c 1000000000 && inB m.r.b (-1000000000) 1000000000 && allF m.t 1000000000) := rfl
    cases e1 : allF m.r.c 1000000000 with
    | false =>
      rw [hM, hbig, e1]
      simp +contextual only [go_sem]
    | true =>
      simp +contextual only [go_sem]
      refine call_keep (within_c _ _ _) rfl ?_
      cases e2 : inB m.r.b (-1000000000) 1000000000 with
      | false =>
        rw [hM, hbig, e1, e2]
        have e2' : (decide (-1000000000 ≤ m.r.b) && decide (m.r.b ≤ 1000000000)) = false := e2
        simp +contextual only [go_sem, e2']
      | true =>
        have e2' : (decide (-1000000000 ≤ m.r.b) && decide (m.r.b ≤ 1000000000)) = true := e2
        simp +contextual only [go_sem, e2']
        refine call_keep (every_c m.t 1000000000 (by omega) (by omega)) rfl ?_
        cases e3 : allF m.t 1000000000 with
        | false =>
          rw [hM, hbig, e1, e2, e3]
          simp +contextual only [go_sem]
        | true =>
          rw [hM, hbig, e1, e2, e3]
          simp +contextual only [go_sem]
end Go.Proofs.Ytaafchgfibbmhaa
