/-
  A PART OF THE PROOF (put together by program): several texts, one behind the other. Conditions: none.
-/
import Derived.Test.YtaafchgfibbmhaaPk31
set_option linter.unusedSimpArgs false
set_option linter.unusedVariables false
namespace Go.Proofs.Ytaafchgfibbmhaa
theorem comb_step (a b x y : Int) : ∀ (A B c : List Int), comb 1 (comb a A b B) (a * x + b * y) c = comb a (comb 1 A x c) b (comb 1 B y c)
  | [], _, _ => by simp [comb]
  | _ :: _, [], _ => by simp [comb]
  | _ :: _, _ :: _, [] => by simp [comb]
  | p :: A, q :: B, r :: c => by
    have ih := comb_step a b x y A B c
    simp only [comb, List.zipWith_cons_cons] at ih ⊢
    rw [ih]
    congr 1
    simp only [Int.one_mul, Int.add_mul, Int.mul_add, Int.mul_assoc]
    omega
theorem sumC_lin (a b : Int) : ∀ (t t' : List Int) (rows : List Row) (A B : List Int), t.length = t'.length →
    ((comb a t b t').zip rows).foldl (fun c x => comb 1 c x.1 x.2.c) (comb a A b B) = comb a ((t.zip rows).foldl (fun c x => comb 1 c x.1 x.2.c) A) b ((t'.zip rows).foldl (fun c x => comb 1 c x.1 x.2.c) B)
  | [], [], _, A, B, _ => by simp [comb]
  | [], _ :: _, _, _, _, h => by simp at h
  | _ :: _, [], _, _, _, h => by simp at h
  | _ :: _, _ :: _, [], A, B, _ => by simp [comb]
  | x :: t, y :: t', r :: rows, A, B, h => by
    have ih := sumC_lin a b t t' rows (comb 1 A x r.c) (comb 1 B y r.c) (by simpa using h)
    rw [← comb_step] at ih
    exact ih
theorem sumB_lin (a b : Int) : ∀ (t t' : List Int) (rows : List Row) (A B : Int), t.length = t'.length →
    ((comb a t b t').zip rows).foldl (fun c x => c + x.1 * x.2.b) (a * A + b * B) = a * ((t.zip rows).foldl (fun c x => c + x.1 * x.2.b) A) + b * ((t'.zip rows).foldl (fun c x => c + x.1 * x.2.b) B)
  | [], [], _, A, B, _ => by simp [comb]
  | [], _ :: _, _, _, _, h => by simp at h
  | _ :: _, [], _, _, _, h => by simp at h
  | _ :: _, _ :: _, [], A, B, _ => by simp [comb]
  | x :: t, y :: t', r :: rows, A, B, h => by
    have ih := sumB_lin a b t t' rows (A + x * r.b) (B + y * r.b) (by simpa using h)
    refine Eq.trans ?_ ih
    simp only [comb, List.zipWith_cons_cons, List.zip_cons_cons, List.foldl_cons]
    congr 1
    simp only [Int.add_mul, Int.mul_add, Int.mul_assoc]
    omega
theorem comb_zero (a b : Int) (n : Nat) : comb a (List.replicate n 0) b (List.replicate n 0) = List.replicate n 0 := by
  simp [comb]
theorem sumC_comb (s : Sys) (v : Nat) (a b : Int) (t t' : List Int) (h : t.length = t'.length) : sumC v ((comb a t b t').zip s.rows) = comb a (sumC v (t.zip s.rows)) b (sumC v (t'.zip s.rows)) := by
  have := sumC_lin a b t t' s.rows (List.replicate v 0) (List.replicate v 0) h
  rw [comb_zero] at this
  exact this
theorem sumB_comb (s : Sys) (a b : Int) (t t' : List Int) (h : t.length = t'.length) : sumB ((comb a t b t').zip s.rows) = a * sumB (t.zip s.rows) + b * sumB (t'.zip s.rows) := by
  have := sumB_lin a b t t' s.rows 0 0 h
  rw [Int.mul_zero, Int.mul_zero, Int.zero_add] at this
  exact this
structure IsSum (s : Sys) (m : Made) : Prop where
  lt : m.t.length = s.rows.length
  c : sumC s.vars.toNat (m.t.zip s.rows) = m.r.c
  rel : kindF s m.t = m.r.rel
  b : sumB (m.t.zip s.rows) = m.r.b
  pos : ∀ x ∈ m.t.zip s.rows, x.1 < 0 → x.2.rel = 3
theorem IsSum.right {s : Sys} {m : Made} (h : IsSum s m) : rightF s m = true := by
  simp only [rightF, Bool.and_eq_true, List.all_eq_true, rowEq, beq_iff_eq]
  refine ⟨fun x hx => ?_, ⟨h.c, h.rel⟩, h.b⟩
  simp only [negOk, Bool.not_eq_true', Bool.and_eq_false_iff, decide_eq_false_iff_not, bne_eq_false_iff_eq]
  by_cases h0 : x.1 < 0
  · exact .inr (h.pos x hx h0)
  · exact .inl h0
theorem kind3_aux : ∀ (l : List (Int × Row)) (o : Int), l.foldl stepRel o = 3 → o = 3 ∧ ∀ x ∈ l, x.1 ≠ 0 → x.2.rel = 3
  | [], o, h => ⟨h, fun x hx => by cases hx⟩
  | x :: l, o, h => by
    obtain ⟨h1, h2⟩ := kind3_aux l (stepRel o x) h
    have ho : o = 3 ∧ (x.1 ≠ 0 → x.2.rel = 3) := by
      unfold stepRel at h1
      split at h1
      · rename_i hc; exact absurd h1 hc.2.1
      · rename_i hc
        refine ⟨h1, fun h0 => ?_⟩
        by_cases h3 : x.2.rel = 3
        · exact h3
        · exact absurd ⟨h0, h3, by omega⟩ hc
    refine ⟨ho.1, fun y hy => ?_⟩
    rcases List.mem_cons.1 hy with rfl | hy
    · exact ho.2
    · exact h2 y hy
theorem kind3 {s : Sys} {t : List Int} (h : kindF s t = 3) : ∀ x ∈ t.zip s.rows, x.1 ≠ 0 → x.2.rel = 3 := (kind3_aux _ _ h).2
theorem kind_congr : ∀ (t t' : List Int) (rows : List Row) (o : Int), t.length = t'.length → (∀ (i : Nat) (x y : Int), t[i]? = some x → t'[i]? = some y → (x = 0 ↔ y = 0)) → (t.zip rows).foldl stepRel o = (t'.zip rows).foldl stepRel o
  | [], [], _, _, _, _ => rfl
  | [], _ :: _, _, _, h, _ => by simp at h
  | _ :: _, [], _, _, h, _ => by simp at h
  | _ :: _, _ :: _, [], _, _, _ => rfl
  | x :: t, y :: t', r :: rows, o, h, hxy => by
    have h0 : x = 0 ↔ y = 0 := hxy 0 x y rfl rfl
    have hs : stepRel o (x, r) = stepRel o (y, r) := by
      unfold stepRel
      simp only [ne_eq, h0]
    simp only [List.zip_cons_cons, List.foldl_cons]
    rw [hs]
    exact kind_congr t t' rows _ (by simpa using h) (fun i a b ha hb => hxy (i + 1) a b ha hb)
theorem zip_mem {t : List Int} {rows : List Row} {x : Int × Row} (h : x ∈ t.zip rows) : ∃ i : Nat, t[i]? = some x.1 ∧ rows[i]? = some x.2 := by
  obtain ⟨i, hi⟩ := List.mem_iff_getElem?.1 h
  rw [List.getElem?_zip_eq_some] at hi
  exact ⟨i, hi⟩
theorem zip_at {t : List Int} {rows : List Row} {i : Nat} {a : Int} {r : Row} (h1 : t[i]? = some a) (h2 : rows[i]? = some r) : (a, r) ∈ t.zip rows := by
  refine List.mem_iff_getElem?.2 ⟨i, ?_⟩
  rw [List.getElem?_zip_eq_some]
  exact ⟨h1, h2⟩
theorem IsSum.raw {s : Sys} {m n : Made} {a b : Int} (hm : IsSum s m) (hn : IsSum s n) (ha : 0 ≤ a ∨ m.r.rel = 3) (hb : 0 ≤ b ∨ n.r.rel = 3) : IsSum s (rawSum s a m b n) := by
  have hl : m.t.length = n.t.length := by rw [hm.lt, hn.lt]
  refine ⟨?_, ?_, rfl, ?_, ?_⟩
  · simp only [rawSum]
    rw [comb_length hl, hm.lt]
  · simp only [rawSum]
    rw [sumC_comb s _ a b _ _ hl, hm.c, hn.c]
  · simp only [rawSum]
    rw [sumB_comb s a b _ _ hl, hm.b, hn.b]
  · intro x hx h0
    obtain ⟨i, h1, h2⟩ := zip_mem hx
    simp only [rawSum, comb, List.getElem?_zipWith] at h1
    cases hp : m.t[i]? with
    | none => rw [hp] at h1; simp at h1
    | some p =>
      cases hq : n.t[i]? with
      | none => rw [hp, hq] at h1; simp at h1
      | some q =>
        rw [hp, hq] at h1
        simp only [Option.some.injEq] at h1
        by_cases h3 : x.2.rel = 3
        · exact h3
        exfalso
        have e1 : 0 ≤ a * p := by
          have hp0 : 0 ≤ p := by
            rcases Int.lt_or_le p 0 with hlt | hle
            · exact absurd (hm.pos _ (zip_at hp h2) hlt) h3
            · exact hle
          rcases ha with ha | ha
          · exact Int.mul_nonneg ha hp0
          · have : p = 0 := by
              by_cases hpz : p = 0
              · exact hpz
              · exact absurd (kind3 (hm.rel.trans ha) _ (zip_at hp h2) hpz) h3
            rw [this, Int.mul_zero]; exact Int.le_refl _
        have e2 : 0 ≤ b * q := by
          have hq0 : 0 ≤ q := by
            rcases Int.lt_or_le q 0 with hlt | hle
            · exact absurd (hn.pos _ (zip_at hq h2) hlt) h3
            · exact hle
          rcases hb with hb | hb
          · exact Int.mul_nonneg hb hq0
          · have : q = 0 := by
              by_cases hqz : q = 0
              · exact hqz
              · exact absurd (kind3 (hn.rel.trans hb) _ (zip_at hq h2) hqz) h3
            rw [this, Int.mul_zero]; exact Int.le_refl _
        omega
theorem gcdL_dvd_aux : ∀ (l : List Int) (g : Nat), (l.foldl (fun g n => Nat.gcd g n.natAbs) g ∣ g) ∧ ∀ n ∈ l, l.foldl (fun g n => Nat.gcd g n.natAbs) g ∣ n.natAbs
  | [], g => ⟨Nat.dvd_refl _, fun n hn => by cases hn⟩
  | x :: l, g => by
    obtain ⟨h1, h2⟩ := gcdL_dvd_aux l (Nat.gcd g x.natAbs)
    refine ⟨Nat.dvd_trans h1 (Nat.gcd_dvd_left _ _), fun n hn => ?_⟩
    rcases List.mem_cons.1 hn with rfl | hn
    · exact Nat.dvd_trans h1 (Nat.gcd_dvd_right _ _)
    · exact h2 n hn
theorem gcdM_dvd (m : Made) : ((gcdM m : Int) ∣ m.r.b) ∧ (∀ n ∈ m.r.c, (gcdM m : Int) ∣ n) ∧ ∀ n ∈ m.t, (gcdM m : Int) ∣ n := by
  have h : ∀ n ∈ m.r.b :: (m.r.c ++ m.t), (gcdM m : Int) ∣ n := fun n hn => Int.ofNat_dvd_left.2 ((gcdL_dvd_aux _ 0).2 n hn)
  exact ⟨h _ (by simp), fun n hn => h n (by simp [hn]), fun n hn => h n (by simp [hn])⟩
theorem divs_mul {l : List Int} {g : Int} (h : ∀ n ∈ l, g ∣ n) : comb g (divs l g) 0 (divs l g) = l := by
  induction l with
  | nil => rfl
  | cons n l ih =>
    have hn : g * n.tdiv g = n := Int.mul_tdiv_cancel' (h n (by simp))
    have := ih (fun m hm => h m (by simp [hm]))
    simp only [comb, divs, List.map_cons, List.zipWith_cons_cons] at this ⊢
    rw [hn, this]
    simp
theorem comb_divs {g : Int} (hg : g ≠ 0) : ∀ l : List Int, divs (comb g l 0 l) g = l
  | [] => rfl
  | n :: l => by
    have := comb_divs hg l
    simp only [comb, divs, List.zipWith_cons_cons, List.map_cons] at this ⊢
    rw [this, Int.zero_mul, Int.add_zero, Int.mul_tdiv_cancel_left _ hg]
theorem IsSum.red {s : Sys} {m : Made} (h : IsSum s m) : IsSum s (redM m) := by
  unfold redM
  split
  · rename_i hg
    have hg0 : ((gcdM m : Nat) : Int) ≠ 0 := by omega
    obtain ⟨d1, d2, d3⟩ := gcdM_dvd m
    generalize hG : ((gcdM m : Nat) : Int) = g at *
    have hgp : 0 < g := by omega
    have ht : comb g (divs m.t g) 0 (divs m.t g) = m.t := divs_mul d3
    have hC := sumC_comb s s.vars.toNat g 0 (divs m.t g) (divs m.t g) rfl
    have hB := sumB_comb s g 0 (divs m.t g) (divs m.t g) rfl
    rw [ht] at hC hB
    rw [h.c] at hC
    rw [h.b, Int.zero_mul, Int.add_zero] at hB
    refine ⟨by rw [divs_length]; exact h.lt, ?_, ?_, ?_, ?_⟩
    · show _ = divs m.r.c g
      rw [hC, comb_divs hg0]
    · show kindF s (divs m.t g) = m.r.rel
      rw [← h.rel]
      refine kind_congr _ _ _ _ (by rw [divs_length]) (fun i x y hx hy => ?_)
      simp only [divs, List.getElem?_map, hy, Option.map_some, Option.some.injEq] at hx
      have hyd := d3 y (List.mem_of_getElem? hy)
      have := Int.mul_tdiv_cancel' hyd
      rw [hx] at this
      constructor
      · intro h0; rw [← this, h0, Int.mul_zero]
      · intro h0; rw [← hx, h0, Int.zero_tdiv]
    · show sumB _ = m.r.b.tdiv g
      rw [hB, Int.mul_tdiv_cancel_left _ hg0]
    · intro x hx h0
      obtain ⟨i, h1, h2⟩ := zip_mem hx
      simp only [divs, List.getElem?_map] at h1
      cases hp : m.t[i]? with
      | none => rw [hp] at h1; cases h1
      | some p =>
        rw [hp] at h1
        simp only [Option.map_some, Option.some.injEq] at h1
        have hpd := Int.mul_tdiv_cancel' (d3 p (List.mem_of_getElem? hp))
        rw [h1] at hpd
        have : p < 0 := by
          rw [← hpd]
          exact Int.mul_neg_of_pos_of_neg hgp h0
        exact h.pos (p, x.2) (zip_at hp h2) this
  · exact h
theorem IsSum.sum {s : Sys} {m n : Made} {a b : Int} (hm : IsSum s m) (hn : IsSum s n) (ha : 0 ≤ a ∨ m.r.rel = 3) (hb : 0 ≤ b ∨ n.r.rel = 3) : IsSum s (sumM s a m b n) := (hm.raw hn ha hb).red
theorem unit_get (n i j : Nat) (hj : j < n) : (unitL n i)[j]? = some (if j = i then 1 else 0) := by
  unfold unitL
  rw [List.getElem?_eq_getElem (by simp; exact hj)]
  rw [List.getElem_set]
  by_cases e : i = j
  · subst e; simp
  · rw [if_neg e, if_neg (fun h => e h.symm)]; simp
theorem sumC_unit (v : Nat) : ∀ (rows : List Row) (i : Nat) (r : Row) (A : List Int), (∀ r ∈ rows, r.c.length = v) → A.length = v → rows[i]? = some r →
    ((unitL rows.length i).zip rows).foldl (fun c x => comb 1 c x.1 x.2.c) A = comb 1 A 1 r.c
  | [], _, _, _, _, _, h => by simp at h
  | x :: rows, 0, r, A, hl, hA, h => by
    simp only [List.getElem?_cons_zero, Option.some.injEq] at h
    subst h
    have key : ∀ (rows : List Row) (B : List Int), (∀ r ∈ rows, r.c.length = v) → B.length = v → ((List.replicate rows.length (0 : Int)).zip rows).foldl (fun c x => comb 1 c x.1 x.2.c) B = B := by
      intro rows
      induction rows with
      | nil => intro B _ _; rfl
      | cons y rows ih =>
        intro B hl hB
        simp only [List.length_cons, List.replicate_succ, List.zip_cons_cons, List.foldl_cons]
        have hc : comb 1 B 0 y.c = B := by
          have hy := hl y (by simp)
          apply List.ext_getElem
          · simp [comb, hB, hy]
          · intro i h1 h2
            simp [comb]
        rw [hc]
        exact ih B (fun r hr => hl r (by simp [hr])) hB
    simp only [unitL, List.length_cons, List.replicate_succ, List.set_cons_zero, List.zip_cons_cons, List.foldl_cons]
    exact key rows _ (fun r hr => hl r (by simp [hr])) (by simp [comb, hA, hl x (by simp)])
  | x :: rows, i + 1, r, A, hl, hA, h => by
    simp only [List.getElem?_cons_succ] at h
    have hc : comb 1 A 0 x.c = A := by
      have hx := hl x (by simp)
      apply List.ext_getElem
      · simp [comb, hA, hx]
      · intro i h1 h2
        simp [comb]
    simp only [unitL, List.length_cons, List.replicate_succ, List.set_cons_succ, List.zip_cons_cons, List.foldl_cons]
    rw [hc]
    exact sumC_unit v rows i r A (fun r hr => hl r (by simp [hr])) hA h
theorem sumB_unit : ∀ (rows : List Row) (i : Nat) (r : Row) (A : Int), rows[i]? = some r → ((unitL rows.length i).zip rows).foldl (fun c x => c + x.1 * x.2.b) A = A + r.b
  | [], _, _, _, h => by simp at h
  | x :: rows, 0, r, A, h => by
    simp only [List.getElem?_cons_zero, Option.some.injEq] at h
    subst h
    have key : ∀ (rows : List Row) (B : Int), ((List.replicate rows.length (0 : Int)).zip rows).foldl (fun c x => c + x.1 * x.2.b) B = B := by
      intro rows
      induction rows with
      | nil => intro B; rfl
      | cons y rows ih =>
        intro B
        simp only [List.length_cons, List.replicate_succ, List.zip_cons_cons, List.foldl_cons, Int.zero_mul, Int.add_zero]
        exact ih B
    simp only [unitL, List.length_cons, List.replicate_succ, List.set_cons_zero, List.zip_cons_cons, List.foldl_cons, Int.one_mul]
    exact key rows _
  | x :: rows, i + 1, r, A, h => by
    simp only [List.getElem?_cons_succ] at h
    simp only [unitL, List.length_cons, List.replicate_succ, List.set_cons_succ, List.zip_cons_cons, List.foldl_cons, Int.zero_mul, Int.add_zero]
    exact sumB_unit rows i r A h
theorem kind_unit : ∀ (rows : List Row) (i : Nat) (r : Row), (1 ≤ r.rel ∧ r.rel ≤ 3) → rows[i]? = some r → ((unitL rows.length i).zip rows).foldl stepRel 3 = r.rel
  | [], _, _, _, h => by simp at h
  | x :: rows, 0, r, hr, h => by
    simp only [List.getElem?_cons_zero, Option.some.injEq] at h
    subst h
    have key : ∀ (rows : List Row) (B : Int), ((List.replicate rows.length (0 : Int)).zip rows).foldl stepRel B = B := by
      intro rows
      induction rows with
      | nil => intro B; rfl
      | cons y rows ih =>
        intro B
        simp only [List.length_cons, List.replicate_succ, List.zip_cons_cons, List.foldl_cons]
        rw [show stepRel B (0, y) = B from if_neg (fun h => h.1 rfl)]
        exact ih B
    simp only [unitL, List.length_cons, List.replicate_succ, List.set_cons_zero, List.zip_cons_cons, List.foldl_cons]
    rw [key]
    unfold stepRel
    split
    · rfl
    · rename_i h
      by_cases h3 : x.rel = 3
      · exact h3.symm
      · exact absurd ⟨by simp, h3, by omega⟩ h
  | x :: rows, i + 1, r, hr, h => by
    simp only [List.getElem?_cons_succ] at h
    simp only [unitL, List.length_cons, List.replicate_succ, List.set_cons_succ, List.zip_cons_cons, List.foldl_cons]
    rw [show stepRel 3 (0, x) = 3 from if_neg (fun h => h.1 rfl)]
    exact kind_unit rows i r hr h
theorem IsSum.first {s : Sys} (hc : checkF s = true) {i : Nat} {r : Row} (hr : s.rows[i]? = some r) : IsSum s (firstM s i r) := by
  obtain ⟨v1, v5, r10, hall⟩ := check_rows hc
  have hrl := hall r (List.mem_of_getElem? hr)
  refine ⟨by simp [firstM, unitL], ?_, ?_, ?_, ?_⟩
  · show sumC _ ((unitL s.rows.length i).zip s.rows) = r.c
    unfold sumC
    rw [sumC_unit s.vars.toNat s.rows i r _ (fun r hr => by have := (hall r hr).1; omega) (by simp) hr]
    apply List.ext_getElem
    · simp [comb]; omega
    · intro j h1 h2
      simp [comb]
  · exact kind_unit s.rows i r hrl.2.2.2 hr
  · show sumB ((unitL s.rows.length i).zip s.rows) = r.b
    unfold sumB
    rw [sumB_unit s.rows i r 0 hr, Int.zero_add]
  · intro x hx h0
    obtain ⟨j, h1, h2⟩ := zip_mem hx
    have hj := (List.getElem?_eq_some_iff.1 h2).1
    simp only [firstM] at h1
    rw [unit_get _ _ _ hj] at h1
    simp only [Option.some.injEq] at h1
    split at h1 <;> omega
theorem begin_sum {s : Sys} (hc : checkF s = true) : ∀ k, ∀ m ∈ beginL s k, IsSum s m
  | 0, m, h => by simp [beginL] at h
  | k + 1, m, h => by
    simp only [beginL] at h
    rcases List.mem_append.1 h with h | h
    · exact begin_sum hc k m h
    · split at h
      · rename_i r hr
        split at h
        · cases h
        · simp only [List.mem_singleton] at h
          subst h
          exact (IsSum.first hc hr).red
      · cases h
end Go.Proofs.Ytaafchgfibbmhaa
namespace Go.Proofs.Ytaafchgfibbmhaa
abbrev Made.co (m : Made) (v : Nat) : Int := m.r.c.getD v 0
theorem useL_ind {s : Sys} {v : Nat} {l : List Made} {Q : Made → Prop} {e : Made} {at' : Nat} (he : e ∈ l) (he3 : e.r.rel = 3) (hz : ∀ m ∈ l, m.co v = 0 → Q m)
    (hs : ∀ m ∈ l, ∀ n ∈ l, ∀ a b : Int, a * m.co v + b * n.co v = 0 → (0 ≤ a ∨ m.r.rel = 3) → (0 ≤ b ∨ n.r.rel = 3) → Q (sumM s a m b n)) :
    ∀ k out, useL s l e v at' k = some out → ∀ m ∈ out, Q m
  | 0, out, h, m, hm => by simp only [useL, Option.some.injEq] at h; subst h; cases hm
  | k + 1, out, h, m, hm => by
    simp only [useL] at h
    cases h1 : useL s l e v at' k with
    | none => rw [h1] at h; cases h
    | some acc =>
      rw [h1] at h
      simp only [Option.bind_some] at h
      have ih := useL_ind he he3 hz hs k acc h1
      split at h
      · rename_i x hx
        have hxl := List.mem_of_getElem? hx
        cases h2 : useOne s e v at' k x with
        | none => rw [h2] at h; cases h
        | some u =>
          rw [h2] at h
          simp only [Option.map_some, Option.some.injEq] at h
          subst h
          rcases List.mem_append.1 hm with hm | hm
          · exact ih m hm
          · simp only [useOne] at h2
            split at h2
            · simp only [Option.some.injEq] at h2; subst h2; cases hm
            · split at h2
              · rename_i h0
                simp only [Option.some.injEq] at h2; subst h2
                simp only [List.mem_singleton] at hm
                subst hm
                exact hz m hxl h0
              · have key : Q (if 0 < e.r.c.getD v 0 then sumM s (e.r.c.getD v 0) x (-(x.r.c.getD v 0)) e else sumM s (-(e.r.c.getD v 0)) x (x.r.c.getD v 0) e) := by
                  split
                  · rename_i hc
                    refine hs x hxl e he _ _ ?_ (.inl (by omega)) (.inr he3)
                    show e.r.c.getD v 0 * x.r.c.getD v 0 + -(x.r.c.getD v 0) * e.r.c.getD v 0 = 0
                    rw [Int.neg_mul, Int.mul_comm]; omega
                  · rename_i hc
                    refine hs x hxl e he _ _ ?_ (.inl (by omega)) (.inr he3)
                    show -(e.r.c.getD v 0) * x.r.c.getD v 0 + x.r.c.getD v 0 * e.r.c.getD v 0 = 0
                    rw [Int.neg_mul, Int.mul_comm]; omega
                generalize (if 0 < e.r.c.getD v 0 then sumM s (e.r.c.getD v 0) x (-(x.r.c.getD v 0)) e else sumM s (-(e.r.c.getD v 0)) x (x.r.c.getD v 0) e) = y at h2 key
                split at h2
                · simp only [Option.some.injEq] at h2; subst h2
                  simp only [List.mem_singleton] at hm
                  subst hm
                  exact key
                · cases h2
      · simp only [Option.some.injEq] at h
        subst h
        exact ih m hm
theorem stepP_ind {s : Sys} {v : Nat} {l : List Made} {Q : Made → Prop} {a b : Made} {acc out : List Made} (ha : a ∈ l) (hb : b ∈ l)
    (hs : ∀ m ∈ l, ∀ n ∈ l, ∀ a b : Int, a * m.co v + b * n.co v = 0 → (0 ≤ a ∨ m.r.rel = 3) → (0 ≤ b ∨ n.r.rel = 3) → Q (sumM s a m b n))
    (hacc : ∀ m ∈ acc, Q m) (h : stepP s v acc a b = some out) : ∀ m ∈ out, Q m := by
  intro m hm
  simp only [stepP] at h
  split at h
  · rename_i hp
    simp only [isPair, Bool.and_eq_true, decide_eq_true_eq] at hp
    cases h2 : pairF s v a b with
    | none => rw [h2] at h; cases h
    | some x =>
      rw [h2] at h
      simp only [Option.map_some, Option.some.injEq] at h
      subst h
      rcases List.mem_append.1 hm with hm | hm
      · exact hacc m hm
      · simp only [List.mem_singleton] at hm
        subst hm
        simp only [pairF] at h2
        split at h2
        · simp only [Option.some.injEq] at h2
          subst h2
          refine hs a ha b hb _ _ ?_ (.inl (by omega)) (.inl (by omega))
          show -(b.r.c.getD v 0) * a.r.c.getD v 0 + a.r.c.getD v 0 * b.r.c.getD v 0 = 0
          rw [Int.neg_mul, Int.mul_comm]; omega
        · cases h2
  · simp only [Option.some.injEq] at h
    subst h
    exact hacc m hm
theorem innP_ind {s : Sys} {v : Nat} {l : List Made} {Q : Made → Prop} {a : Made} {acc : List Made} (ha : a ∈ l)
    (hs : ∀ m ∈ l, ∀ n ∈ l, ∀ a b : Int, a * m.co v + b * n.co v = 0 → (0 ≤ a ∨ m.r.rel = 3) → (0 ≤ b ∨ n.r.rel = 3) → Q (sumM s a m b n))
    (hacc : ∀ m ∈ acc, Q m) : ∀ k out, innP s v l a acc k = some out → ∀ m ∈ out, Q m
  | 0, out, h => by simp only [innP, Option.some.injEq] at h; subst h; exact hacc
  | k + 1, out, h => by
    simp only [innP] at h
    cases h1 : innP s v l a acc k with
    | none => rw [h1] at h; cases h
    | some acc1 =>
      rw [h1] at h
      simp only [Option.bind_some] at h
      have ih := innP_ind ha hs hacc k acc1 h1
      split at h
      · rename_i b hb
        exact stepP_ind ha (List.mem_of_getElem? hb) hs ih h
      · simp only [Option.some.injEq] at h; subst h; exact ih
theorem outP_ind {s : Sys} {v : Nat} {l : List Made} {Q : Made → Prop} {acc : List Made}
    (hs : ∀ m ∈ l, ∀ n ∈ l, ∀ a b : Int, a * m.co v + b * n.co v = 0 → (0 ≤ a ∨ m.r.rel = 3) → (0 ≤ b ∨ n.r.rel = 3) → Q (sumM s a m b n))
    (hacc : ∀ m ∈ acc, Q m) : ∀ k out, outP s v l acc k = some out → ∀ m ∈ out, Q m
  | 0, out, h => by simp only [outP, Option.some.injEq] at h; subst h; exact hacc
  | k + 1, out, h => by
    simp only [outP] at h
    cases h1 : outP s v l acc k with
    | none => rw [h1] at h; cases h
    | some acc1 =>
      rw [h1] at h
      simp only [Option.bind_some] at h
      have ih := outP_ind hs hacc k acc1 h1
      split at h
      · rename_i a ha
        exact innP_ind (List.mem_of_getElem? ha) hs ih _ _ h
      · simp only [Option.some.injEq] at h; subst h; exact ih
theorem rawE_ind {s : Sys} {v : Nat} {l out : List Made} {Q : Made → Prop} (hz : ∀ m ∈ l, m.co v = 0 → Q m)
    (hs : ∀ m ∈ l, ∀ n ∈ l, ∀ a b : Int, a * m.co v + b * n.co v = 0 → (0 ≤ a ∨ m.r.rel = 3) → (0 ≤ b ∨ n.r.rel = 3) → Q (sumM s a m b n))
    (h : rawE s v l = some out) : ∀ m ∈ out, Q m := by
  unfold rawE at h
  split at h
  · rename_i at' hat
    split at h
    · rename_i e he
      have hu : usesF v e = true := by
        rw [List.findIdx?_eq_some_iff_getElem] at hat
        obtain ⟨hlt, h1, _⟩ := hat
        rw [List.getElem?_eq_getElem hlt] at he
        simp only [Option.some.injEq] at he
        rw [← he]; exact h1
      simp only [usesF, Bool.and_eq_true, decide_eq_true_eq] at hu
      exact useL_ind (List.mem_of_getElem? he) hu.1 hz hs _ _ h
    · cases h
  · refine outP_ind hs (fun m hm => ?_) _ _ h
    simp only [zeroL, List.mem_filter, beq_iff_eq] at hm
    exact hz m hm.1 hm.2
theorem keepK_ind {out : List Made} : ∀ k, ∀ m ∈ (keepK out k).2, m ∈ out ∧ goneF m.r = false
  | 0, m, h => by simp [keepK] at h
  | k + 1, m, h => by
    simp only [keepK] at h
    split at h
    · rename_i x hx
      simp only at h
      split at h
      · rename_i hk
        rcases List.mem_append.1 h with h | h
        · exact keepK_ind k m h
        · simp only [List.mem_singleton] at h
          subst h
          simp only [Bool.and_eq_true, Bool.not_eq_true'] at hk
          exact ⟨List.mem_of_getElem? hx, hk.2⟩
      · exact keepK_ind k m h
    · exact keepK_ind k m h
theorem elimE_ind {s : Sys} {v : Nat} {l out : List Made} {Q : Made → Prop} (hz : ∀ m ∈ l, m.co v = 0 → Q m)
    (hs : ∀ m ∈ l, ∀ n ∈ l, ∀ a b : Int, a * m.co v + b * n.co v = 0 → (0 ≤ a ∨ m.r.rel = 3) → (0 ≤ b ∨ n.r.rel = 3) → Q (sumM s a m b n))
    (h : elimE s v l = some out) : ∀ m ∈ out, Q m ∧ goneF m.r = false := by
  unfold elimE at h
  cases hr : rawE s v l with
  | none => rw [hr] at h; cases h
  | some raw =>
    rw [hr] at h
    simp only [Option.bind_some] at h
    split at h
    · cases h
    · simp only [Option.some.injEq] at h
      subst h
      intro m hm
      obtain ⟨h1, h2⟩ := keepK_ind _ m hm
      exact ⟨rawE_ind hz hs hr m h1, h2⟩
theorem curE_sum {s : Sys} (hc : checkF s = true) : ∀ {k : Nat} {l : List Made}, curE s k = some l → ∀ m ∈ l, IsSum s m
  | 0, l, h => by
    simp only [curE, Option.some.injEq] at h
    subst h
    exact begin_sum hc _
  | k + 1, l, h => by
    simp only [curE] at h
    cases hk : curE s k with
    | none => rw [hk] at h; cases h
    | some l0 =>
      rw [hk] at h
      have ih := curE_sum hc hk
      exact fun m hm => (elimE_ind (Q := IsSum s) (fun m hm _ => ih m hm) (fun m hm n hn a b _ ha hb => (ih m hm).sum (ih n hn) ha hb) h m hm).1
theorem curE_gone {s : Sys} : ∀ {k : Nat} {l : List Made}, curE s (k + 1) = some l → ∀ m ∈ l, goneF m.r = false := by
  intro k l h m hm
  simp only [curE] at h
  cases hk : curE s k with
  | none => rw [hk] at h; cases h
  | some l0 =>
    rw [hk] at h
    exact (elimE_ind (Q := fun _ => True) (fun _ _ _ => trivial) (fun _ _ _ _ _ _ _ _ _ => trivial) h m hm).2
end Go.Proofs.Ytaafchgfibbmhaa
namespace Go.Proofs.Ytaafchgfibbmhaa
theorem comb_getD {a b : Int} {x y : List Int} (h : x.length = y.length) (j : Nat) : (comb a x b y).getD j 0 = a * x.getD j 0 + b * y.getD j 0 := by
  simp only [List.getD_eq_getElem?_getD, comb, List.getElem?_zipWith]
  by_cases hj : j < x.length
  · rw [List.getElem?_eq_getElem hj, List.getElem?_eq_getElem (by omega : j < y.length)]
    rfl
  · rw [List.getElem?_eq_none (by omega), List.getElem?_eq_none (by omega)]
    simp
theorem red_co {m : Made} {j : Nat} (h : m.co j = 0) : (redM m).co j = 0 := by
  unfold redM
  split
  · show (divs m.r.c (gcdM m)).getD j 0 = 0
    have h' : m.r.c.getD j 0 = 0 := h
    rw [List.getD_eq_getElem?_getD] at h' ⊢
    simp only [divs, List.getElem?_map]
    cases hx : m.r.c[j]? with
    | none => rfl
    | some x =>
      rw [hx] at h'
      simp only [Option.getD_some] at h'
      subst h'
      simp
  · exact h
theorem sum_co {s : Sys} {m n : Made} {a b : Int} {j : Nat} (hl : m.r.c.length = n.r.c.length) (h : a * m.co j + b * n.co j = 0) : (sumM s a m b n).co j = 0 := by
  refine red_co ?_
  show (comb a m.r.c b n.r.c).getD j 0 = 0
  rw [comb_getD hl]
  exact h
theorem curE_zero {s : Sys} (hc : checkF s = true) : ∀ {k : Nat} {l : List Made}, curE s k = some l → ∀ m ∈ l, ∀ j, j < k → m.co j = 0
  | 0, l, h => fun m hm j hj => absurd hj (Nat.not_lt_zero _)
  | k + 1, l, h => by
    simp only [curE] at h
    cases hk : curE s k with
    | none => rw [hk] at h; cases h
    | some l0 =>
      rw [hk] at h
      have ih := curE_zero hc hk
      obtain ⟨hok, _⟩ := curE_ok hc hk
      refine fun m hm => (elimE_ind (Q := fun m => ∀ j, j < k + 1 → m.co j = 0) (fun m hm h0 j hj => ?_) (fun m hm n hn a b h0 _ _ j hj => ?_) h m hm).1
      · by_cases e : j = k
        · subst e; exact h0
        · exact ih m hm j (by omega)
      · refine sum_co (by rw [(hok m hm).lc, (hok n hn).lc]) ?_
        by_cases e : j = k
        · subst e; exact h0
        · rw [ih m hm j (by omega), ih n hn j (by omega)]; simp
def dot : List Int → List Int → Int
  | p :: c, a :: A => p * a + dot c A
  | _, _ => 0
theorem dot_comb (a b : Int) : ∀ (x y A : List Int), x.length = y.length → dot (comb a x b y) A = a * dot x A + b * dot y A
  | [], [], A, _ => by simp [comb, dot]
  | [], _ :: _, _, h => by simp at h
  | _ :: _, [], _, h => by simp at h
  | _ :: _, _ :: _, [], _ => by simp [comb, dot]
  | p :: x, q :: y, n :: A, h => by
    have ih := dot_comb a b x y A (by simpa using h)
    simp only [comb, List.zipWith_cons_cons, dot] at ih ⊢
    rw [ih]
    simp only [Int.add_mul, Int.mul_add, Int.mul_assoc]
    omega
theorem dot_zero (n : Nat) (A : List Int) : dot (List.replicate n 0) A = 0 := by
  induction n generalizing A with
  | zero => cases A <;> rfl
  | succ n ih =>
    cases A with
    | nil => rfl
    | cons a A => simp only [List.replicate_succ, dot, ih]; simp
def Row.At (r : Row) (A : List Int) (D : Int) : Prop :=
  (r.rel = 3 → dot r.c A = r.b * D) ∧ (r.rel = 2 → dot r.c A < r.b * D) ∧ (r.rel = 1 → dot r.c A ≤ r.b * D)
def Signed (o S : Int) : Prop := (o = 3 → S = 0) ∧ (o = 2 → S < 0) ∧ (o = 1 → S ≤ 0) ∧ (o = 1 ∨ o = 2 ∨ o = 3)
theorem signed_step {o S t : Int} {r : Row} {A : List Int} {D : Int} (h : Signed o S) (hr : r.At A D) (hrel : 1 ≤ r.rel ∧ r.rel ≤ 3) (hp : t < 0 → r.rel = 3) : Signed (stepRel o (t, r)) (S + t * (dot r.c A - r.b * D)) := by
  obtain ⟨h3, h2, h1, h0⟩ := h
  obtain ⟨r3, r2, r1⟩ := hr
  by_cases ht : t = 0
  · subst ht
    rw [show stepRel o (0, r) = o from if_neg (fun h => h.1 rfl), Int.zero_mul, Int.add_zero]
    exact ⟨h3, h2, h1, h0⟩
  by_cases hr3 : r.rel = 3
  · rw [show stepRel o (t, r) = o from if_neg (fun h => h.2.1 hr3), r3 hr3, Int.sub_self, Int.mul_zero, Int.add_zero]
    exact ⟨h3, h2, h1, h0⟩
  have htp : 0 < t := by
    rcases Int.lt_or_le t 0 with h | h
    · exact absurd (hp h) hr3
    · omega
  have hle : t * (dot r.c A - r.b * D) ≤ 0 ∧ (r.rel = 2 → t * (dot r.c A - r.b * D) < 0) := by
    have hx : dot r.c A - r.b * D ≤ 0 := by
      rcases (by omega : r.rel = 1 ∨ r.rel = 2) with h | h
      · have := r1 h; omega
      · have := r2 h; omega
    refine ⟨Int.mul_nonpos_of_nonneg_of_nonpos (by omega) hx, fun h => ?_⟩
    have := r2 h
    exact Int.mul_neg_of_pos_of_neg htp (by omega)
  generalize t * (dot r.c A - r.b * D) = u at *
  by_cases ho2 : o = 2
  · rw [show stepRel o (t, r) = o from if_neg (fun h => h.2.2 ho2)]
    have := h2 ho2
    exact ⟨fun h => by omega, fun _ => by omega, fun h => by omega, h0⟩
  · rw [show stepRel o (t, r) = r.rel from if_pos ⟨ht, hr3, ho2⟩]
    have hS : S ≤ 0 := by
      rcases h0 with h | h | h
      · exact h1 h
      · exact absurd h ho2
      · have := h3 h; omega
    exact ⟨fun h => absurd h hr3, fun h => by have := hle.2 h; omega, fun h => by omega, by omega⟩
theorem signed_fold {A : List Int} {D : Int} {v : Nat} : ∀ (L : List (Int × Row)) (o : Int) (C : List Int) (B : Int), (∀ x ∈ L, x.2.At A D ∧ (1 ≤ x.2.rel ∧ x.2.rel ≤ 3) ∧ (x.1 < 0 → x.2.rel = 3) ∧ x.2.c.length = v) → C.length = v → Signed o (dot C A - B * D) →
    Signed (L.foldl stepRel o) (dot (L.foldl (fun c x => comb 1 c x.1 x.2.c) C) A - L.foldl (fun b x => b + x.1 * x.2.b) B * D)
  | [], o, C, B, _, _, h => h
  | x :: L, o, C, B, hL, hC, h => by
    obtain ⟨h1, h2, h3, h4⟩ := hL x (by simp)
    have hs := signed_step h h1 h2 h3
    refine signed_fold L (stepRel o x) (comb 1 C x.1 x.2.c) (B + x.1 * x.2.b) (fun y hy => hL y (by simp [hy])) (by simp [comb, hC, h4]) ?_
    rw [dot_comb _ _ _ _ _ (by rw [hC, h4])]
    have e : 1 * dot C A + x.1 * dot x.2.c A - (B + x.1 * x.2.b) * D = dot C A - B * D + x.1 * (dot x.2.c A - x.2.b * D) := by
      rw [Int.one_mul, Int.add_mul, Int.mul_sub, Int.mul_assoc]; omega
    rw [e]
    exact hs
theorem IsSum.at {s : Sys} (hc : checkF s = true) {m : Made} (h : IsSum s m) {A : List Int} {D : Int} (hr : ∀ r ∈ s.rows, r.At A D) : m.r.At A D := by
  obtain ⟨v1, v5, r10, hall⟩ := check_rows hc
  have key := signed_fold (A := A) (D := D) (v := s.vars.toNat) (m.t.zip s.rows) 3 (List.replicate s.vars.toNat 0) 0 (fun x hx => by
    have hx2 := (List.of_mem_zip (a := x.1) (b := x.2) hx).2
    have := hall x.2 hx2
    exact ⟨hr x.2 hx2, this.2.2.2, h.pos x hx, by omega⟩) (by simp) ⟨fun _ => by rw [dot_zero]; simp, fun h => by omega, fun h => by omega, by omega⟩
  have e1 := h.c
  have e2 := h.b
  have e3 := h.rel
  unfold sumC at e1
  unfold sumB at e2
  unfold kindF at e3
  rw [e1, e2, e3] at key
  obtain ⟨k3, k2, k1, _⟩ := key
  exact ⟨fun h => by have := k3 h; omega, fun h => by have := k2 h; omega, fun h => by have := k1 h; omega⟩
end Go.Proofs.Ytaafchgfibbmhaa
namespace Go.Proofs.Ytaafchgfibbmhaa
section
variable {P : Program}
def recE (P : Program) (n t t1 : Nat) (ic : IC) (caps : List V) (u : V) (o : Nat → Obj') (nx : Nat) (K : (Nat → Obj') → Nat → Prop) : Prop :=
  caps.length ≤ n ∧ evW P n nx true ic (recQ K) ⟨upd (upd (argsEnv caps) t u) t1 u, o, nx⟩
def defEndE (P : Program) (n t t1 : Nat) (ic : IC) (caps : List V) (rs : List ResultVar) (K X : V → (Nat → Obj') → Nat → Prop) (e : Xit) (s : S) : Prop :=
  match e with
  | .normal | .ret => recE P n t t1 ic caps (.d .nili) s.o s.nx fun o nx => endG P rs K X .ret ⟨s.env, o, nx⟩
  | .pan v => recE P n t t1 ic caps v s.o s.nx fun o nx => endG P rs K X .ret ⟨s.env, o, nx⟩
  | .exit _ => False
def defBegE (P : Program) (n t : Nat) (icb : IC) (capo : List Operand) (g : FuncId) (D : List V → Xit → S → Prop) (e : Xit) (s : S) : Prop :=
  match e with
  | .normal => evW P n s.nx false icb (D (capo.map s.ev)) ⟨upd s.env t (.func (.func g) [] (capo.map s.ev)), s.o, s.nx⟩
  | _ => False
variable {n t t1 : Nat} {ic icb : IC} {caps : List V} {rs : List ResultVar} {K X : V → (Nat → Obj') → Nat → Prop} {s : S} {v : V} {capo : List Operand} {g : FuncId} {D : List V → Xit → S → Prop} {KR : (Nat → Obj') → Nat → Prop}
@[go_sem ↓] theorem defEndE_normal : defEndE P n t t1 ic caps rs K X .normal s = recE P n t t1 ic caps (.d .nili) s.o s.nx fun o nx => endG P rs K X .ret ⟨s.env, o, nx⟩ := propext Iff.rfl
@[go_sem ↓] theorem defEndE_ret : defEndE P n t t1 ic caps rs K X .ret s = recE P n t t1 ic caps (.d .nili) s.o s.nx fun o nx => endG P rs K X .ret ⟨s.env, o, nx⟩ := propext Iff.rfl
@[go_sem ↓] theorem defEndE_pan : defEndE P n t t1 ic caps rs K X (.pan v) s = recE P n t t1 ic caps v s.o s.nx fun o nx => endG P rs K X .ret ⟨s.env, o, nx⟩ := propext Iff.rfl
@[go_sem ↓] theorem defBegE_normal : defBegE P n t icb capo g D .normal s = evW P n s.nx false icb (D (capo.map s.ev)) ⟨upd s.env t (.func (.func g) [] (capo.map s.ev)), s.o, s.nx⟩ := propext Iff.rfl
@[go_sem ↓] theorem recQ_normal : recQ KR .normal s = KR s.o s.nx := propext Iff.rfl
@[go_sem ↓] theorem recQ_ret : recQ KR .ret s = KR s.o s.nx := propext Iff.rfl
theorem recE.w {o : Nat → Obj'} {nx : Nat} {K K' : (Nat → Obj') → Nat → Prop} (hK : ∀ o nx, K o nx → K' o nx) (h : recE P n t t1 ic caps v o nx K) : recW P n t t1 ic caps v o nx K' := by
  refine ⟨h.1, evW_icW ic _ _ _ (fun e s h => ?_) h.2⟩
  unfold recQ at h ⊢
  cases e with
  | normal => exact hK _ _ h
  | ret => exact hK _ _ h
  | _ => exact h
theorem CtK.of_deferE (hmix : P.follows .mixedOrders = true) {f g : FuncId} {ica icb icg : IC} {t m r r1 : Nat} {capo : List Operand} {rs : List ResultVar} (hf : DefIs P f n ica icb g t capo rs) (hg : RecIs P g m r r1 icg)
    {args : List V} {o : Nat → Obj'} {nx : Nat} {K X : V → (Nat → Obj') → Nat → Prop} (hl : args.length ≤ n)
    (h : evW P n nx true ica (defBegE P n t icb capo g fun caps => defEndE P m r r1 icg caps rs K X) ⟨argsEnv args, o, nx⟩) : CtK P f args o nx K X := by
  refine CtK.of_defer hmix hf hg hl (evW_icW ica _ _ _ (fun e s h => ?_) h)
  unfold defBegE at h
  unfold defBegin
  cases e with
  | normal =>
    refine evW_icW icb _ _ _ (fun e s h => ?_) h
    unfold defEndE at h
    unfold defEnd
    cases e with
    | normal => exact recE.w (fun _ _ h => by unfold endG at h; exact h) h
    | ret => exact recE.w (fun _ _ h => by unfold endG at h; exact h) h
    | pan v => exact recE.w (fun _ _ h => by unfold endG at h; exact h) h
    | exit _ => exact h
  | _ => exact h
end
attribute [irreducible] recE
theorem recE_intro {P : Program} {n t t1 : Nat} {ic : IC} {caps : List V} {v : V} {o : Nat → Obj'} {nx : Nat} {K : (Nat → Obj') → Nat → Prop} (h1 : caps.length ≤ n) (h2 : evW P n nx true ic (recQ K) ⟨upd (upd (argsEnv caps) t v) t1 v, o, nx⟩) : recE P n t t1 ic caps v o nx K := by
  unfold recE
  exact ⟨h1, h2⟩
end Go.Proofs.Ytaafchgfibbmhaa
namespace Go.Proofs.Ytaafchgfibbmhaa
theorem eqNil {o : Nat → Obj'} : eqV Try.prog o 20 true (.d .nili) (.d .nili) = some (.d (.bool true)) := by kernel_rfl
theorem eqToo {o : Nat → Obj'} : eqV Try.prog o 20 true (.d tooD) (.d .nili) = some (.d (.bool false)) := by kernel_rfl
theorem asTooD : assertF Try.prog 119 true (.d tooD) = some (.tup [.d (.agg []), .d (.bool true)]) := by kernel_rfl
theorem opS_assert {X : V → S → Prop} {K : S → Prop} {d : Nat} {x : Operand} {s : S} (h : s.ev x = .d tooD) : opS Try.prog X K ⟨some d, .typeAssert x 20 119 true, none⟩ s = K ⟨upd s.env d (.tup [.d (.agg []), .d (.bool true)]), s.o, s.nx + 1⟩ := by
  rw [opS_op rfl]
  have : sopF Try.prog s s.nx (.typeAssert x 20 119 true) = some (.tup [.d (.agg []), .d (.bool true)], [], []) := by
    show oneM (assertF Try.prog 119 true (s.ev x)) = _
    rw [h, asTooD]; rfl
  rw [this, bindO_some]; rfl
theorem notV_b (b : Bool) : notV (.d (.bool b)) = some (.d (.bool (!b))) := rfl
theorem attempt_c (g : FuncId) (caps : List V) (o : Nat → Obj') (nx : Nat) (K X : V → (Nat → Obj') → Nat → Prop)
    (h : CtK Try.prog g caps (upd o nx (.row [.d (.i 0)])) (nx + 2)
      (fun _ o1 n1 => o1 nx = .row [.d (.i 0)] ∧ nx < n1 ∧ ∀ o2 n2, n1 ≤ n2 → (∀ j, j < n1 → j ≠ nx → o2 j = o1 j) → K (.d (.i 0)) o2 n2)
      (fun v o1 n1 => v = .d tooD ∧ o1 nx = .row [.d (.i 0)] ∧ nx < n1 ∧ ∀ o2 n2, n1 ≤ n2 → (∀ j, j < n1 → j ≠ nx → o2 j = o1 j) → K (.d (.i 3)) o2 n2)) :
    CtK Try.prog 59 [.func (.func g) [] caps] o nx K X := by
  refine CtK.of_deferE mix def59 rec88 (by simp) ?_
  rw [c59a, c59]
  simp +contextual only [go_sem]
  refine callS'_heap (CtK.mono (fun y o1 n1 hh => ?_) (fun v o1 n1 hh => ?_) h)
  · obtain ⟨h1, h2, h3⟩ := hh
    simp +contextual only [go_sem, h1]
    refine recE_intro (by simp) ?_
    rw [c88]
    simp +contextual only [go_sem, h1, eqNil, notV_b]
    exact h3 _ _ (by omega) (fun j k1 k2 => upd_ne _ _ _ _ k2)
  · obtain ⟨rfl, h1, h2, h3⟩ := hh
    simp +contextual only [go_sem, h1]
    refine recE_intro (by simp) ?_
    rw [c88]
    have w : ∀ k, nx ≠ n1 + k := fun k => by omega
    simp +contextual only [go_sem, h1, eqToo, notV_b, ↓opS_assert, Nat.add_assoc, Nat.left_eq_add, Nat.add_eq_left, Nat.add_left_cancel_iff, w]
    refine h3 _ _ (by omega) (fun j k1 k2 => ?_)
    rw [upd_ne _ _ _ _ k2, upd_ne _ _ _ _ (by omega), upd_ne _ _ _ _ (by omega)]
end Go.Proofs.Ytaafchgfibbmhaa
namespace Go.Proofs.Ytaafchgfibbmhaa
end Go.Proofs.Ytaafchgfibbmhaa
namespace Go.Proofs.Ytaafchgfibbmhaa
@[reducible] def oneRow (cs : List V) : Nat → Obj' := upd (fun _ => .no) 0 (.row cs)
theorem oneRow_good {cs : List V} (h : (Obj'.row cs).refs.all (fun r => decide (r < 1)) = true) : Good (oneRow cs) 1 := (Good.nil (nx := 1)).upd (by omega) h
end Go.Proofs.Ytaafchgfibbmhaa
namespace Go.Proofs.Ytaafchgfibbmhaa
@[reducible] def zeroRow : Obj' := .row [.nils, .d (.i 0), .d (.i 0), .nils]
end Go.Proofs.Ytaafchgfibbmhaa
namespace Go.Proofs.Ytaafchgfibbmhaa
end Go.Proofs.Ytaafchgfibbmhaa
namespace Go.Proofs.Ytaafchgfibbmhaa
end Go.Proofs.Ytaafchgfibbmhaa
namespace Go.Proofs.Ytaafchgfibbmhaa
end Go.Proofs.Ytaafchgfibbmhaa
namespace Go.Proofs.Ytaafchgfibbmhaa
end Go.Proofs.Ytaafchgfibbmhaa
namespace Go.Proofs.Ytaafchgfibbmhaa
end Go.Proofs.Ytaafchgfibbmhaa
namespace Go.Proofs.Ytaafchgfibbmhaa
end Go.Proofs.Ytaafchgfibbmhaa
