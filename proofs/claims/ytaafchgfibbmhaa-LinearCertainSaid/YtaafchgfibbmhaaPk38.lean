/-
  A PART OF THE PROOF (put together by program): several texts, one behind the other. Conditions: none.
-/
import Derived.Test.YtaafchgfibbmhaaPk37
set_option linter.unusedSimpArgs false
set_option linter.unusedVariables false
namespace Go.Proofs.Ytaafchgfibbmhaa
def qv (r : Rat) : Q := (r.num : Q) / (r.den : Q)
theorem cast_ne {a : Int} (h : a ≠ 0) : (a : Q) ≠ 0 := fun e => h (_root_.Rat.intCast_eq_zero_iff.1 e)
theorem qv_over {num den : Int} (h : den ≠ 0) : qv (overV num den) = (num : Q) / (den : Q) := by
  have hg : Int.gcd num den ≠ 0 := gcd_pos' h
  have h1 := Int.tdiv_mul_cancel (Int.gcd_dvd_left (a := num) (b := den))
  have h2 := Int.tdiv_mul_cancel (Int.gcd_dvd_right (a := num) (b := den))
  have hgi : ((Int.gcd num den : Nat) : Int) ≠ 0 := by omega
  have n1 : (-num).tdiv (Int.gcd num den : Nat) = -(num.tdiv (Int.gcd num den : Nat)) := Int.neg_tdiv ..
  have n2 : (-den).tdiv (Int.gcd num den : Nat) = -(den.tdiv (Int.gcd num den : Nat)) := Int.neg_tdiv ..
  unfold overV qv
  rw [n1, n2]
  generalize ((Int.gcd num den : Nat) : Int) = g at *
  generalize num.tdiv g = a at *
  generalize den.tdiv g = b at *
  have hb : b ≠ 0 := fun e => by rw [e, Int.zero_mul] at h2; exact h h2.symm
  have qb := cast_ne hb
  have qg := cast_ne hgi
  rw [← h1, ← h2]
  split
  · simp only [_root_.Rat.intCast_neg, _root_.Rat.intCast_mul]
    grind
  · simp only [_root_.Rat.intCast_mul]
    grind
theorem qv_add {a b : Rat} (ha : 1 ≤ a.den) (hb : 1 ≤ b.den) : qv (addV a b) = qv a + qv b := by
  have h1 : a.den * b.den ≠ 0 := by have := Int.mul_pos (show 0 < a.den by omega) (show 0 < b.den by omega); omega
  unfold addV
  rw [qv_over h1]
  have qa := cast_ne (show a.den ≠ 0 by omega)
  have qb := cast_ne (show b.den ≠ 0 by omega)
  simp only [qv, _root_.Rat.intCast_add, _root_.Rat.intCast_mul]
  grind
theorem qv_times {a : Rat} (n : Int) (ha : 1 ≤ a.den) : qv (timesV n a) = (n : Q) * qv a := by
  unfold timesV
  rw [qv_over (by omega)]
  have qa := cast_ne (show a.den ≠ 0 by omega)
  simp only [qv, _root_.Rat.intCast_mul]
  grind
theorem less_iff {a b : Rat} (ha : 1 ≤ a.den) (hb : 1 ≤ b.den) : lessV a b = true ↔ qv a < qv b := by
  have qa := _root_.Rat.intCast_pos.2 (show 0 < a.den by omega)
  have qb := _root_.Rat.intCast_pos.2 (show 0 < b.den by omega)
  have e1 : ((a.num : Int) : Q) = qv a * (a.den : Q) := by unfold qv; grind
  have e2 : ((b.num : Int) : Q) = qv b * (b.den : Q) := by unfold qv; grind
  simp only [lessV, decide_eq_true_eq]
  rw [← _root_.Rat.intCast_lt_intCast, _root_.Rat.intCast_mul, _root_.Rat.intCast_mul, e1, e2]
  have hab := _root_.Rat.mul_pos qa qb
  constructor
  · intro h
    exact _root_.Rat.lt_of_mul_lt_mul_right (c := (a.den : Q) * (b.den : Q)) (by grind) (by grind)
  · intro h
    have := _root_.Rat.mul_lt_mul_of_pos_right (c := (a.den : Q) * (b.den : Q)) h hab
    grind
theorem okR_gcd {a : Rat} (h : okR a = true) : 1 ≤ a.den ∧ Int.gcd a.num a.den = 1 := by
  simp [okR, ratF, inB] at h
  exact ⟨h.1.1.1, h.2⟩
theorem eqR_iff {a b : Rat} (ha : okR a = true) (hb : okR b = true) : eqR a b = true ↔ qv a = qv b := by
  obtain ⟨a1, a2⟩ := okR_gcd ha
  obtain ⟨b1, b2⟩ := okR_gcd hb
  have qa := cast_ne (show a.den ≠ 0 by omega)
  have qb := cast_ne (show b.den ≠ 0 by omega)
  simp only [eqR, Bool.and_eq_true, beq_iff_eq]
  constructor
  · rintro ⟨h1, h2⟩; unfold qv; rw [h1, h2]
  · intro h
    have hx : (a.num : Q) * (b.den : Q) = (b.num : Q) * (a.den : Q) := by unfold qv at h; grind
    rw [← _root_.Rat.intCast_mul, ← _root_.Rat.intCast_mul, _root_.Rat.intCast_inj] at hx
    have hn : a.num.natAbs * b.den.natAbs = b.num.natAbs * a.den.natAbs := by rw [← Int.natAbs_mul, ← Int.natAbs_mul, hx]
    have c1 : Nat.Coprime a.den.natAbs a.num.natAbs := by unfold Nat.Coprime; rw [Nat.gcd_comm]; exact a2
    have c2 : Nat.Coprime b.den.natAbs b.num.natAbs := by unfold Nat.Coprime; rw [Nat.gcd_comm]; exact b2
    have d1 : a.den.natAbs ∣ b.den.natAbs := c1.dvd_of_dvd_mul_left ⟨b.num.natAbs, by rw [hn, Nat.mul_comm]⟩
    have d2 : b.den.natAbs ∣ a.den.natAbs := c2.dvd_of_dvd_mul_left ⟨a.num.natAbs, by rw [← hn, Nat.mul_comm]⟩
    have e := Nat.dvd_antisymm d1 d2
    have ed : a.den = b.den := by omega
    rw [ed] at hx
    exact ⟨Int.eq_of_mul_eq_mul_right (by omega) hx, ed⟩
theorem Rat.Ok.den {a : Rat} (h : a.Ok) : 1 ≤ a.den := h.d.1
theorem numK_val {r : Row} {v : Nat} {p : List Rat} {X : Nat → Q} (hX : ∀ j, v < j → j < p.length → X j = qv (p.getD j ⟨0, 0⟩)) (hpo : ∀ j x, v < j → p[j]? = some x → x.Ok) : ∀ j, v + 1 + j ≤ p.length → (numK r v p j).2 = true → qv (numK r v p j).1 = (r.b : Q) - (evN r.c X (v + 1 + j) - evN r.c X (v + 1)) ∧ 1 ≤ (numK r v p j).1.den
  | 0, _, _ => by
    simp only [numK]
    refine ⟨?_, by omega⟩
    simp only [qv, Nat.add_zero, _root_.Rat.intCast_one]
    grind
  | j + 1, hj, h => by
    simp only [numK] at h ⊢
    cases h1 : (numK r v p j).2 with
    | false => rw [h1] at h; simp [h1] at h
    | true =>
      rw [h1] at h
      simp only [if_true] at h ⊢
      obtain ⟨i1, i2⟩ := numK_val hX hpo j (by omega) h1
      cases h2 : okR (numX r v p j) with
      | false => rw [h2] at h; simp at h
      | true =>
        rw [h2] at h
        simp only [if_true] at h ⊢
        obtain ⟨x, hx⟩ : ∃ x, p[v + 1 + j]? = some x := ⟨p[v + 1 + j]'(by omega), List.getElem?_eq_getElem _⟩
        have hxo := hpo _ x (by omega) hx
        have hxg : p.getD (v + 1 + j) ⟨0, 0⟩ = x := by rw [List.getD_eq_getElem?_getD, hx]; rfl
        have hXx := hX (v + 1 + j) (by omega) (by omega)
        rw [hxg] at hXx
        have h3 := okR_gcd h2
        have e : qv (numX r v p j) = -(((r.c.getD (v + 1 + j) 0 : Int)) : Q) * X (v + 1 + j) := by
          unfold numX
          rw [qv_times _ (by rw [hxg]; exact hxo.den), hxg, hXx, _root_.Rat.intCast_neg]
        refine ⟨?_, (okR_gcd h).1⟩
        rw [qv_add i2 h3.1, i1, e, show v + 1 + (j + 1) = (v + 1 + j) + 1 by omega]
        simp only [evN]
        grind
theorem numF_bd {m : Made} {v n : Nat} {p : List Rat} {X : Nat → Q} (hn : p.length = n) (hv : v < n) (hz : ∀ j, j < v → m.co j = 0) (h0 : m.co v ≠ 0) (hX : ∀ j, v < j → j < p.length → X j = qv (p.getD j ⟨0, 0⟩)) (hpo : ∀ j x, v < j → p[j]? = some x → x.Ok) (hf : (numF m.r v p).2 = true) :
    qv (numF m.r v p).1 = m.bd n v X ∧ okR (numF m.r v p).1 = true := by
  unfold numF at hf ⊢
  cases hk : (numK m.r v p (p.length - (v + 1))).2 with
  | false => rw [hk] at hf; simp [hk] at hf
  | true =>
    rw [hk] at hf
    simp only [if_true] at hf ⊢
    obtain ⟨i1, i2⟩ := numK_val (r := m.r) hX hpo (p.length - (v + 1)) (by omega) hk
    refine ⟨?_, hf⟩
    rw [show v + 1 + (p.length - (v + 1)) = n by omega] at i1
    have hd : (numK m.r v p (p.length - (v + 1))).1.den * m.r.c.getD v 0 ≠ 0 := fun e => by
      rcases Int.mul_eq_zero.1 e with e | e
      · omega
      · exact h0 e
    rw [qv_over hd]
    have ez : evN m.r.c X v = 0 := evN_zero hz
    have e1 : evN m.r.c X (v + 1) = ((m.co v : Int) : Q) * X v := by simp only [evN, ez]; grind
    have q1 := cast_ne (show (numK m.r v p (p.length - (v + 1))).1.den ≠ 0 by omega)
    have q2 := cast_ne h0
    simp only [qv] at i1
    rw [e1] at i1
    simp only [Made.bd, Made.ev, Made.co, _root_.Rat.intCast_mul] at *
    generalize ((numK m.r v p (p.length - (v + 1))).1.num : Q) = u at *
    generalize ((numK m.r v p (p.length - (v + 1))).1.den : Q) = d at *
    generalize ((m.r.c.getD v 0 : Int) : Q) = c at *
    have : u / (d * c) = (u / d) / c := by grind
    rw [this, i1]
    grind
def Dom (up : Bool) (b x : Bnd) : Prop := (if up = true then qv x.1 < qv b.1 else qv b.1 < qv x.1) ∨ (qv b.1 = qv x.1 ∧ (b.2 = true → x.2 = true))
def Tight (up : Bool) (B : Bnd → Prop) : Option Bnd → Prop
  | none => ∀ b, ¬ B b
  | some x => okR x.1 = true ∧ (∀ b, B b → Dom up b x) ∧ (∃ b, B b ∧ qv b.1 = qv x.1) ∧ (x.2 = true → ∃ b, B b ∧ qv b.1 = qv x.1 ∧ b.2 = true)
theorem tight_step {up : Bool} {B : Bnd → Prop} {a : Option Bnd} {b : Bnd} (h : Tight up B a) (hb : okR b.1 = true) : Tight up (fun c => B c ∨ c = b) (some (tightS a b up)) := by
  cases a with
  | none =>
    refine ⟨hb, fun c hc => ?_, ⟨b, .inr rfl, rfl⟩, fun h2 => ⟨b, .inr rfl, rfl, h2⟩⟩
    rcases hc with hc | rfl
    · exact absurd hc (h c)
    · exact .inr ⟨rfl, id⟩
  | some x =>
    obtain ⟨h1, h2, ⟨y, hy1, hy2⟩, h4⟩ := h
    have l1 := less_iff (okR_gcd hb).1 (okR_gcd h1).1
    have l2 := less_iff (okR_gcd h1).1 (okR_gcd hb).1
    have le := eqR_iff h1 hb
    unfold tightS
    simp only
    split
    · rename_i ht
      have ht' : if up = true then qv b.1 < qv x.1 else qv x.1 < qv b.1 := by
        unfold tightB at ht
        cases up <;> simp at ht ⊢
        · exact l2.1 ht
        · exact l1.1 ht
      refine ⟨hb, fun c hc => ?_, ⟨b, .inr rfl, rfl⟩, fun h2 => ⟨b, .inr rfl, rfl, h2⟩⟩
      rcases hc with hc | rfl
      · left
        have := h2 c hc
        unfold Dom at this
        cases up <;> simp at this ht' ⊢ <;> grind
      · exact .inr ⟨rfl, id⟩
    · rename_i ht
      have ht' : ¬ (if up = true then qv b.1 < qv x.1 else qv x.1 < qv b.1) := by
        intro h
        apply ht
        unfold tightB
        cases up <;> simp at h ⊢
        · exact l2.2 h
        · exact l1.2 h
      split
      · rename_i he
        have he' := le.1 he
        refine ⟨h1, fun c hc => ?_, ⟨y, .inl hy1, hy2⟩, fun hh => ?_⟩
        · rcases hc with hc | rfl
          · have := h2 c hc
            unfold Dom at this ⊢
            simp only
            rcases this with h | ⟨h, h'⟩
            · exact .inl h
            · exact .inr ⟨h, fun hc2 => by simp [h' hc2]⟩
          · exact .inr ⟨he'.symm, fun hc2 => by simp [hc2]⟩
        · simp only [Bool.or_eq_true] at hh
          rcases hh with hh | hh
          · obtain ⟨z, z1, z2, z3⟩ := h4 hh
            exact ⟨z, .inl z1, z2, z3⟩
          · exact ⟨b, .inr rfl, he'.symm, hh⟩
      · rename_i he
        have he' : ¬ (qv x.1 = qv b.1) := fun h => he (le.2 h)
        refine ⟨h1, fun c hc => ?_, ⟨y, .inl hy1, hy2⟩, fun hh => ?_⟩
        · rcases hc with hc | rfl
          · exact h2 c hc
          · left
            cases up <;> simp at ht' ⊢ <;> grind
        · obtain ⟨z, z1, z2, z3⟩ := h4 hh
          exact ⟨z, .inl z1, z2, z3⟩
def Bds (l : List Made) (v : Nat) (p : List Rat) (k : Nat) (up : Bool) (b : Bnd) : Prop := ∃ (i : Nat) (m : Made), i < k ∧ l[i]? = some m ∧ (if up = true then 0 < m.co v else m.co v < 0) ∧ b = vb m v p
theorem tight_congr {up : Bool} {B C : Bnd → Prop} {a : Option Bnd} (h : Tight up B a) (hBC : ∀ b, B b ↔ C b) : Tight up C a := by
  have : B = C := funext fun b => propext (hBC b)
  rw [← this]; exact h
theorem vK_tight {l : List Made} {v : Nat} {p : List Rat} (hnum : ∀ m ∈ l, m.co v ≠ 0 → (numF m.r v p).2 = true → okR (numF m.r v p).1 = true) : ∀ k, (vK l v p k).bad = none → Tight true (Bds l v p k true) (vK l v p k).high ∧ Tight false (Bds l v p k false) (vK l v p k).low ∧ ∀ i m, i < k → l[i]? = some m → m.co v ≠ 0 → (numF m.r v p).2 = true
  | 0, _ => ⟨fun b ⟨i, m, hi, _⟩ => absurd hi (Nat.not_lt_zero _), fun b ⟨i, m, hi, _⟩ => absurd hi (Nat.not_lt_zero _), fun i m hi => absurd hi (Nat.not_lt_zero _)⟩
  | k + 1, h => by
    have hnb : (vK l v p k).bad = none := by
      cases hb : (vK l v p k).bad with
      | none => rfl
      | some x => have := vK_stop hb 1; rw [this] at h; cases h
    obtain ⟨i1, i2, i3⟩ := vK_tight hnum k hnb
    simp only [vK] at h ⊢
    cases hk : l[k]? with
    | none =>
      rw [hk] at h
      simp only at h ⊢
      have key : ∀ up b, Bds l v p k up b ↔ Bds l v p (k + 1) up b := fun up b => ⟨fun ⟨i, m, a, c⟩ => ⟨i, m, by omega, c⟩, fun ⟨i, m, a, hm, c⟩ => ⟨i, m, by
        by_cases e : i = k
        · subst e; rw [hk] at hm; cases hm
        · omega, hm, c⟩⟩
      refine ⟨tight_congr i1 (key _), tight_congr i2 (key _), fun i m hi hm => ?_⟩
      by_cases e : i = k
      · subst e; rw [hk] at hm; cases hm
      · exact i3 i m (by omega) hm
    | some y =>
      rw [hk] at h
      simp only at h ⊢
      have hy := List.mem_of_getElem? hk
      have same : ∀ up, ¬ (if up = true then 0 < y.co v else y.co v < 0) → ∀ b, Bds l v p k up b ↔ Bds l v p (k + 1) up b := fun up hno b => ⟨fun ⟨i, m, a, c⟩ => ⟨i, m, by omega, c⟩, fun ⟨i, m, a, hm, c, d⟩ => by
        by_cases e : i = k
        · subst e; rw [hk] at hm; injection hm with hm; subst hm; exact absurd c hno
        · exact ⟨i, m, by omega, hm, c, d⟩⟩
      have more : ∀ up, (if up = true then 0 < y.co v else y.co v < 0) → ∀ b, (Bds l v p k up b ∨ b = vb y v p) ↔ Bds l v p (k + 1) up b := fun up hyes b => ⟨fun hh => by
        rcases hh with ⟨i, m, a, c⟩ | rfl
        · exact ⟨i, m, by omega, c⟩
        · exact ⟨k, y, by omega, hk, hyes, rfl⟩, fun ⟨i, m, a, hm, c, d⟩ => by
        by_cases e : i = k
        · subst e; rw [hk] at hm; injection hm with hm; subst hm; exact .inr d
        · exact .inl ⟨i, m, by omega, hm, c, d⟩⟩
      unfold vstep at h ⊢
      rw [hnb] at h ⊢
      simp only [Option.isSome_none, Bool.false_eq_true, if_false] at h ⊢
      by_cases h0 : y.r.c.getD v 0 = 0
      · rw [if_pos h0] at h ⊢
        refine ⟨tight_congr i1 (same true (by simp only [Made.co, if_true, Bool.false_eq_true, if_false]; omega)), tight_congr i2 (same false (by simp only [Made.co, if_true, Bool.false_eq_true, if_false]; omega)), fun i m hi hm hne => ?_⟩
        by_cases e : i = k
        · subst e; rw [hk] at hm; injection hm with hm; subst hm; exact absurd h0 hne
        · exact i3 i m (by omega) hm hne
      · rw [if_neg h0] at h ⊢
        by_cases hfl : (numF y.r v p).2 = false
        · rw [if_pos hfl] at h; simp at h
        · rw [if_neg hfl] at h ⊢
          have hfl' : (numF y.r v p).2 = true := by simpa using hfl
          have hok := hnum y hy h0 hfl'
          have h3 : ∀ i m, i < k + 1 → l[i]? = some m → m.co v ≠ 0 → (numF m.r v p).2 = true := fun i m hi hm hne => by
            by_cases e : i = k
            · subst e; rw [hk] at hm; injection hm with hm; subst hm; exact hfl'
            · exact i3 i m (by omega) hm hne
          by_cases hp : 0 < y.r.c.getD v 0
          · rw [if_pos hp] at h ⊢
            simp only
            exact ⟨tight_congr (tight_step i1 hok) (more true (by simp only [Made.co, if_true, Bool.false_eq_true, if_false]; omega)), tight_congr i2 (same false (by simp only [Made.co, if_true, Bool.false_eq_true, if_false]; omega)), h3⟩
          · rw [if_neg hp] at h ⊢
            simp only
            exact ⟨tight_congr i1 (same true (by simp only [Made.co, if_true, Bool.false_eq_true, if_false]; omega)), tight_congr (tight_step i2 hok) (more false (by simp only [Made.co, if_true, Bool.false_eq_true, if_false]; omega)), h3⟩
theorem dom_hi {H : Bnd → Prop} {a : Option Bnd} {x : Q} (h : Tight true H a) (hx : ∀ y, a = some y → x ≤ qv y.1 ∧ (y.2 = true → x < qv y.1)) : ∀ b, H b → x ≤ qv b.1 ∧ (b.2 = true → x < qv b.1) := by
  intro b hb
  cases a with
  | none => exact absurd hb (h b)
  | some y =>
    obtain ⟨h1, h2⟩ := hx y rfl
    have := h.2.1 b hb
    unfold Dom at this
    simp only [if_true] at this
    rcases this with h | ⟨h, h'⟩
    · exact ⟨by grind, fun _ => by grind⟩
    · exact ⟨by grind, fun e => by have := h2 (h' e); grind⟩
theorem dom_lo {L : Bnd → Prop} {a : Option Bnd} {x : Q} (h : Tight false L a) (hx : ∀ y, a = some y → qv y.1 ≤ x ∧ (y.2 = true → qv y.1 < x)) : ∀ b, L b → qv b.1 ≤ x ∧ (b.2 = true → qv b.1 < x) := by
  intro b hb
  cases a with
  | none => exact absurd hb (h b)
  | some y =>
    obtain ⟨h1, h2⟩ := hx y rfl
    have := h.2.1 b hb
    unfold Dom at this
    simp only [Bool.false_eq_true, if_false] at this
    rcases this with h | ⟨h, h'⟩
    · exact ⟨by grind, fun _ => by grind⟩
    · exact ⟨by grind, fun e => by have := h2 (h' e); grind⟩
theorem zero_okR : okR zeroQ = true := by decide
theorem qv_zero : qv zeroQ = 0 := by simp only [qv, zeroQ, _root_.Rat.intCast_zero, _root_.Rat.intCast_one]; grind
theorem small_iff {a : Option Bnd} (h : ∀ y, a = some y → okR y.1 = true) : smallS a = true ↔ ∃ y, a = some y ∧ (0 < qv y.1 ∨ (qv y.1 = 0 ∧ y.2 = true)) := by
  cases a with
  | none => simp [smallS]
  | some y =>
    have hy := h y rfl
    have l := less_iff (a := zeroQ) (b := y.1) (by decide) (okR_gcd hy).1
    have e := eqR_iff hy zero_okR
    rw [qv_zero] at l e
    simp only [smallS, Bool.or_eq_true, Bool.and_eq_true, l, e]
    constructor
    · intro h; exact ⟨y, rfl, h⟩
    · rintro ⟨z, hz, h⟩; injection hz with hz; subst hz; exact h
theorem great_iff {a : Option Bnd} (h : ∀ y, a = some y → okR y.1 = true) : greatS a = true ↔ ∃ y, a = some y ∧ (qv y.1 < 0 ∨ (qv y.1 = 0 ∧ y.2 = true)) := by
  cases a with
  | none => simp [greatS]
  | some y =>
    have hy := h y rfl
    have l := less_iff (a := y.1) (b := zeroQ) (okR_gcd hy).1 (by decide)
    have e := eqR_iff hy zero_okR
    rw [qv_zero] at l e
    simp only [greatS, Bool.or_eq_true, Bool.and_eq_true, l, e]
    constructor
    · intro h; exact ⟨y, rfl, h⟩
    · rintro ⟨z, hz, h⟩; injection hz with hz; subst hz; exact h
theorem betweenS_okR {low high : Option Bnd} (h : (betweenS low high).2 = true) : okR (betweenS low high).1 = true := by
  unfold betweenS at h ⊢
  split
  · exact zero_okR
  · rename_i h1
    rw [if_neg h1] at h
    split
    · rename_i h2
      rw [if_pos h2] at h
      split
      · rename_i h3; rw [if_pos h3] at h; exact h
      · rename_i h3; rw [if_neg h3] at h; cases h
    · rename_i h2
      rw [if_neg h2] at h
      split
      · rename_i h3; rw [if_pos h3] at h; exact h
      · rename_i h3; rw [if_neg h3] at h; exact h
theorem between_right {low high : Option Bnd} {L H : Bnd → Prop} (hf : (betweenS low high).2 = true) (hH : Tight true H high) (hL : Tight false L low)
    (hcr : ∀ a, H a → ∀ b, L b → qv b.1 ≤ qv a.1 ∧ (a.2 = true ∨ b.2 = true → qv b.1 < qv a.1)) :
    (∀ a, H a → qv (betweenS low high).1 ≤ qv a.1 ∧ (a.2 = true → qv (betweenS low high).1 < qv a.1)) ∧ ∀ b, L b → qv b.1 ≤ qv (betweenS low high).1 ∧ (b.2 = true → qv b.1 < qv (betweenS low high).1) := by
  have okl : ∀ y, low = some y → okR y.1 = true := fun y e => by subst e; exact hL.1
  have okh : ∀ y, high = some y → okR y.1 = true := fun y e => by subst e; exact hH.1
  have sm := small_iff okl
  have gr := great_iff okh
  have key : (∀ y, high = some y → qv (betweenS low high).1 ≤ qv y.1 ∧ (y.2 = true → qv (betweenS low high).1 < qv y.1)) ∧ ∀ y, low = some y → qv y.1 ≤ qv (betweenS low high).1 ∧ (y.2 = true → qv y.1 < qv (betweenS low high).1) := by
    have cross : ∀ y z, low = some y → high = some z → qv y.1 ≤ qv z.1 ∧ (z.2 = true ∨ y.2 = true → qv y.1 < qv z.1) := fun y z e1 e2 => by
      subst e1 e2
      obtain ⟨_, _, ⟨a, a1, a2⟩, a3⟩ := hH
      obtain ⟨_, _, ⟨b, b1, b2⟩, b3⟩ := hL
      refine ⟨by have := (hcr a a1 b b1).1; grind, fun h => ?_⟩
      rcases h with h | h
      · obtain ⟨c, c1, c2, c3⟩ := a3 h
        have := (hcr c c1 b b1).2 (.inl c3); grind
      · obtain ⟨c, c1, c2, c3⟩ := b3 h
        have := (hcr a a1 c c1).2 (.inr c3); grind
    unfold betweenS at hf ⊢
    by_cases c1 : (!smallS low && !greatS high) = true
    · rw [if_pos c1]
      simp only [qv_zero]
      simp only [Bool.and_eq_true, Bool.not_eq_true'] at c1
      have n1 : ¬ ∃ y, low = some y ∧ (0 < qv y.1 ∨ (qv y.1 = 0 ∧ y.2 = true)) := fun h => by rw [sm.2 h] at c1; cases c1.1
      have n2 : ¬ ∃ y, high = some y ∧ (qv y.1 < 0 ∨ (qv y.1 = 0 ∧ y.2 = true)) := fun h => by rw [gr.2 h] at c1; cases c1.2
      refine ⟨fun y e => ?_, fun y e => ?_⟩
      · have a1 : ¬ qv y.1 < 0 := fun h => n2 ⟨y, e, .inl h⟩
        refine ⟨by grind, fun h2 => ?_⟩
        have a2 : ¬ qv y.1 = 0 := fun h => n2 ⟨y, e, .inr ⟨h, h2⟩⟩
        grind
      · have a1 : ¬ 0 < qv y.1 := fun h => n1 ⟨y, e, .inl h⟩
        refine ⟨by grind, fun h2 => ?_⟩
        have a2 : ¬ qv y.1 = 0 := fun h => n1 ⟨y, e, .inr ⟨h, h2⟩⟩
        grind
    · rw [if_neg c1] at hf ⊢
      by_cases c2 : (low.isSome && high.isSome) = true
      · rw [if_pos c2] at hf ⊢
        by_cases c3 : okR (addV (bnd0 low) (bnd0 high)) = true
        · rw [if_pos c3] at hf ⊢
          simp only [Bool.and_eq_true] at c2
          obtain ⟨y, rfl⟩ := Option.isSome_iff_exists.1 c2.1
          obtain ⟨z, rfl⟩ := Option.isSome_iff_exists.1 c2.2
          simp only [bnd0] at c3 ⊢
          have d3 := (okR_gcd c3).1
          have hs := qv_add (okR_gcd (okl y rfl)).1 (okR_gcd (okh z rfl)).1
          have hh : qv (overV (addV y.1 z.1).num (2 * (addV y.1 z.1).den)) = (qv y.1 + qv z.1) / 2 := by
            rw [qv_over (by omega), ← hs]
            have := cast_ne (show (addV y.1 z.1).den ≠ 0 by omega)
            simp only [qv, _root_.Rat.intCast_mul]
            have h2 : ((2 : Int) : Q) = 2 := rfl
            rw [h2]
            grind
          rw [hh]
          have hc := cross y z rfl rfl
          refine ⟨fun w e => ?_, fun w e => ?_⟩
          · injection e with e; subst e
            exact ⟨by grind, fun h => by have := hc.2 (.inl h); grind⟩
          · injection e with e; subst e
            exact ⟨by grind, fun h => by have := hc.2 (.inr h); grind⟩
        · rw [if_neg c3] at hf; cases hf
      · rw [if_neg c2] at hf ⊢
        by_cases c4 : smallS low = true
        · rw [if_pos c4] at hf ⊢
          obtain ⟨y, rfl, hy⟩ := sm.1 c4
          have hno : high = none := by
            cases high with
            | none => rfl
            | some z => simp at c2
          subst hno
          simp only [bnd0]
          have h1 : qv ⟨1, 1⟩ = 1 := by simp only [qv, _root_.Rat.intCast_one]; grind
          rw [qv_add (okR_gcd (okl y rfl)).1 (by decide), h1]
          refine ⟨fun w e => (by cases e), fun w e => ?_⟩
          injection e with e; subst e
          exact ⟨by grind, fun _ => by grind⟩
        · rw [if_neg c4] at hf ⊢
          have hgr : greatS high = true := by
            cases hs : smallS low <;> cases hg : greatS high <;> rw [hs, hg] at c1 <;> simp [hs] at c1 c4 ⊢
          obtain ⟨z, rfl, hz⟩ := gr.1 hgr
          have hno : low = none := by
            cases low with
            | none => rfl
            | some y => simp at c2
          subst hno
          simp only [bnd0]
          have h1 : qv ⟨-1, 1⟩ = -1 := by simp only [qv, _root_.Rat.intCast_one, _root_.Rat.intCast_neg]; grind
          rw [qv_add (okR_gcd (okh z rfl)).1 (by decide), h1]
          refine ⟨fun w e => ?_, fun w e => (by cases e)⟩
          injection e with e; subst e
          exact ⟨by grind, fun _ => by grind⟩
  exact ⟨dom_hi hH key.1, dom_lo hL key.2⟩
end Go.Proofs.Ytaafchgfibbmhaa
namespace Go.Proofs.Ytaafchgfibbmhaa
theorem valueS_okR {l : List Made} {v n : Nat} {p : List Rat} {X : Nat → Q} (hn : p.length = n) (hv : v < n) (hz : ∀ m ∈ l, ∀ j, j < v → m.co j = 0) (hX : ∀ j, v < j → j < p.length → X j = qv (p.getD j ⟨0, 0⟩)) (hpo : ∀ j x, v < j → p[j]? = some x → x.Ok) (h : (valueS l v p).2 = true) : okR (valueS l v p).1 = true := by
  unfold valueS at h ⊢
  cases hf : l.find? (usesF v) with
  | some m =>
    rw [hf] at h
    simp only at h ⊢
    have hu := List.find?_some hf
    simp only [usesF, Bool.and_eq_true, decide_eq_true_eq] at hu
    exact (numF_bd hn hv (hz m (List.mem_of_find?_eq_some hf)) hu.2 hX hpo h).2
  | none =>
    rw [hf] at h
    simp only at h ⊢
    cases hb : (vK l v p l.length).bad with
    | some x => rw [hb] at h; cases h
    | none => rw [hb] at h; exact betweenS_okR h
theorem value_back {s : Sys} (hc : checkF s = true) {k : Nat} {l l' : List Made} (hl : curE s k = some l) (he : elimE s k l = some l') {n : Nat} (hk : k < n) {X : Nat → Q} (hX : ∀ m ∈ l', m.r.Sat n X)
    {p : List Rat} (hn : p.length = n) (hXp : ∀ j, k < j → j < p.length → X j = qv (p.getD j ⟨0, 0⟩)) (hpo : ∀ j x, k < j → p[j]? = some x → x.Ok) (hval : (valueS l k p).2 = true) : ∀ m ∈ l, m.r.Sat n (updX X k (qv (valueS l k p).1)) := by
  have hz : ∀ m ∈ l', m.co k = 0 := fun m hm => curE_zero hc (k := k + 1) (by simp only [curE, hl, Option.bind_some]; exact he) m hm k (by omega)
  have hz0 : ∀ m ∈ l, ∀ j, j < k → m.co j = 0 := curE_zero hc hl
  have hX' : ∀ x, ∀ m ∈ l', m.r.Sat n (updX X k x) := fun x m hm => sat_upd (hX m hm) (hz m hm)
  cases hf : l.findIdx? (usesF k) with
  | some at' =>
    obtain ⟨h1, h2, h3⟩ := List.findIdx?_eq_some_iff_getElem.1 hf
    have hate : l[at']? = some l[at'] := List.getElem?_eq_getElem h1
    have hfind : l.find? (usesF k) = some l[at'] := by
      rw [List.find?_eq_some_iff_getElem]
      exact ⟨h2, at', h1, rfl, fun j hj => by simpa using h3 j hj⟩
    have hue := h2
    simp only [usesF, Bool.and_eq_true, decide_eq_true_eq] at hue
    unfold valueS at hval ⊢
    rw [hfind] at hval ⊢
    simp only at hval ⊢
    have hb := (numF_bd hn hk (hz0 _ (List.getElem_mem h1)) hue.2 hXp hpo hval).1
    rw [hb]
    exact back_eq hc hl he (hX' _) hf hate (eq_sat hk hue.2 hue.1)
  | none =>
    obtain ⟨p1, p2⟩ := back_pair hc hl he hX hf
    have hfind : l.find? (usesF k) = none := by
      rw [List.find?_eq_none]
      intro m hm
      have := List.findIdx?_eq_none_iff.1 hf m hm
      simp [this]
    have h3 : ∀ m ∈ l, m.co k ≠ 0 → m.r.rel ≠ 3 := fun m hm h0 h => by
      have := List.findIdx?_eq_none_iff.1 hf m hm
      simp only [usesF, h, decide_true, Bool.true_and, decide_eq_false_iff_not] at this
      exact this h0
    unfold valueS at hval ⊢
    rw [hfind] at hval ⊢
    simp only at hval ⊢
    cases hb : (vK l k p l.length).bad with
    | some x => rw [hb] at hval; cases hval
    | none =>
      rw [hb] at hval
      simp only at hval ⊢
      have hbd : ∀ m ∈ l, m.co k ≠ 0 → (numF m.r k p).2 = true → qv (numF m.r k p).1 = m.bd n k X ∧ okR (numF m.r k p).1 = true := fun m hm h0 hh => numF_bd hn hk (hz0 m hm) h0 hXp hpo hh
      obtain ⟨t1, t2, t3⟩ := vK_tight (fun m hm h0 hh => (hbd m hm h0 hh).2) l.length hb
      have hnum : ∀ m ∈ l, m.co k ≠ 0 → qv (vb m k p).1 = m.bd n k X := fun m hm h0 => by
        obtain ⟨i, hi⟩ := List.mem_iff_getElem?.1 hm
        exact (hbd m hm h0 (t3 i m (List.getElem?_eq_some_iff.1 hi).1 hi h0)).1
      have e2 : ∀ m : Made, (vb m k p).2 = true ↔ m.r.rel = 2 := fun m => by simp [vb]
      obtain ⟨r1, r2⟩ := between_right hval t1 t2 (fun a ha b hb => by
        obtain ⟨i, m, hi, hm, hpm, rfl⟩ := ha
        obtain ⟨j, m', hj, hm', hpm', rfl⟩ := hb
        simp only [if_true] at hpm
        simp only [Bool.false_eq_true, if_false] at hpm'
        have hml := List.mem_of_getElem? hm
        have hml' := List.mem_of_getElem? hm'
        have := bd_pair hpm hpm' (p2 m hml m' hml' hpm hpm')
        rw [hnum m hml (by omega), hnum m' hml' (by omega), e2, e2]
        exact this)
      generalize qv (betweenS (vK l k p l.length).low (vK l k p l.length).high).1 = x at *
      intro m hm
      obtain ⟨i, hi⟩ := List.mem_iff_getElem?.1 hm
      have hil := (List.getElem?_eq_some_iff.1 hi).1
      rcases Int.lt_trichotomy (m.co k) 0 with h | h | h
      · have := r2 (vb m k p) ⟨i, m, hil, hi, by simp only [Bool.false_eq_true, if_false]; exact h, rfl⟩
        rw [hnum m hm (by omega), e2] at this
        exact bd_lo hk h (h3 m hm (by omega)) this
      · exact sat_upd (p1 m hm h) h
      · have := r1 (vb m k p) ⟨i, m, hil, hi, by simp only [if_true]; exact h, rfl⟩
        rw [hnum m hm (by omega), e2] at this
        exact bd_hi hk h (h3 m hm (by omega)) this
def ptX (p : List Rat) : Nat → Q := fun j => qv (p.getD j ⟨0, 0⟩)
theorem curA_some {s : Sys} {n k : Nat} (hn : (curE s n).isSome = true) (hk : k ≤ n) : curE s k = some (curA s k) := by
  cases h : curE s k with
  | some l => simp [curA, h]
  | none =>
    have := curE_none h (n - k)
    rw [show k + (n - k) = n by omega] at this
    rw [this] at hn
    cases hn
theorem solK_sat {s : Sys} (hc : checkF s = true) {n : Nat} (hlast : curE s n = some []) : ∀ j, j ≤ n → (solK s n j).2 = true → (∀ m ∈ curA s (n - j), m.r.Sat n (ptX (solK s n j).1)) ∧ ∀ i x, n - j ≤ i → (solK s n j).1[i]? = some x → okR x = true
  | 0, _, _ => by
    refine ⟨fun m hm => ?_, fun i x hi hx => ?_⟩
    · simp [curA, hlast] at hm
    · have := (List.getElem?_eq_some_iff.1 hx).1
      rw [solK_len] at this
      omega
  | j + 1, hj, h => by
    have hsome : (curE s n).isSome = true := by rw [hlast]; rfl
    simp only [solK] at h ⊢
    cases h1 : (solK s n j).2 with
    | false => rw [h1] at h; simp [h1] at h
    | true =>
      rw [h1] at h
      simp only [if_true] at h ⊢
      cases h2 : (valueS (curA s (n - 1 - j)) (n - 1 - j) (solK s n j).1).2 with
      | false => rw [h2] at h; simp at h
      | true =>
        simp only [if_true]
        obtain ⟨i1, i2⟩ := solK_sat hc hlast j (by omega) h1
        have hlen := solK_len s n j
        have e1 : n - (j + 1) = n - 1 - j := by omega
        have e2 : n - j = (n - 1 - j) + 1 := by omega
        rw [e2] at i1 i2
        have hl := curA_some hsome (show n - 1 - j ≤ n by omega)
        have hl' := curA_some hsome (show n - 1 - j + 1 ≤ n by omega)
        have he : elimE s (n - 1 - j) (curA s (n - 1 - j)) = some (curA s (n - 1 - j + 1)) := by
          simp only [curE, hl, Option.bind_some] at hl'
          exact hl'
        have hpo : ∀ i x, n - 1 - j < i → (solK s n j).1[i]? = some x → x.Ok := fun i x hi hx => okR_ok (i2 i x (by omega) hx)
        have hX : ∀ i, n - 1 - j < i → i < (solK s n j).1.length → ptX (solK s n j).1 i = qv ((solK s n j).1.getD i ⟨0, 0⟩) := fun i _ _ => rfl
        have key := value_back hc hl he (show n - 1 - j < n by omega) i1 hlen hX hpo h2
        have hok := valueS_okR hlen (show n - 1 - j < n by omega) (curE_zero hc hl) hX hpo h2
        generalize (valueS (curA s (n - 1 - j)) (n - 1 - j) (solK s n j).1).1 = y at *
        have ex : ptX ((solK s n j).1.set (n - 1 - j) y) = updX (ptX (solK s n j).1) (n - 1 - j) (qv y) := by
          funext i
          unfold ptX updX
          rw [List.getD_eq_getElem?_getD, List.getElem?_set]
          by_cases e : n - 1 - j = i
          · subst e
            rw [if_pos rfl, if_pos (by omega), if_pos rfl]; rfl
          · rw [if_neg e, if_neg (fun h => e h.symm)]
            simp only [List.getD_eq_getElem?_getD]
        rw [e1, ex]
        refine ⟨key, fun i x hi hx => ?_⟩
        rw [List.getElem?_set] at hx
        by_cases e : n - 1 - j = i
        · subst e
          rw [if_pos rfl, if_pos (by omega)] at hx
          injection hx with hx
          rw [← hx]; exact hok
        · rw [if_neg e] at hx
          exact i2 i x (by omega) hx
theorem solve_right {s : Sys} (hc : checkF s = true) (h : (solveF s).2 = 0) : (solveF s).1.length = s.vars.toNat ∧ (∀ x ∈ (solveF s).1, okR x = true) ∧ ∀ r ∈ s.rows, r.At (ptA (solveF s).1) (ptD (solveF s).1) := by
  obtain ⟨v1, v5, r10, hall⟩ := check_rows hc
  unfold solveF at h ⊢
  cases hcur : curE s s.vars.toNat with
  | none => rw [hcur] at h; simp at h
  | some l =>
    cases l with
    | cons m l => rw [hcur] at h; simp at h
    | nil =>
      rw [hcur] at h
      simp only at h ⊢
      cases h2 : (solK s s.vars.toNat s.vars.toNat).2 with
      | false => rw [h2] at h; simp at h
      | true =>
        simp only [if_true]
        obtain ⟨i1, i2⟩ := solK_sat hc hcur s.vars.toNat (Nat.le_refl _) h2
        have hlen := solK_len s s.vars.toNat s.vars.toNat
        rw [Nat.sub_self] at i1 i2
        generalize (solK s s.vars.toNat s.vars.toNat).1 = p at *
        have hok : ∀ x ∈ p, okR x = true := fun x hx => by
          obtain ⟨i, hi⟩ := List.mem_iff_getElem?.1 hx
          exact i2 i x (Nat.zero_le _) hi
        have hD := ptD_pos (p := p) (fun x hx => (okR_gcd (hok x hx)).1)
        have hrows := rows_sat hc (X := ptX p) (n := s.vars.toNat) (fun m hm => i1 m (by simp [curA, curE]; exact hm))
        refine ⟨hlen, hok, fun r hr => (sat_at hD (by have := (hall r hr).1; omega) (hall r hr).2.2.2 (fun j hj => ?_)).1 (hrows r hr)⟩
        obtain ⟨x, hx⟩ : ∃ x, p[j]? = some x := ⟨p[j]'(by omega), List.getElem?_eq_getElem _⟩
        have ha := ptA_at hx
        have hd := (okR_gcd (hok x (List.mem_of_getElem? hx))).1
        have hq := cast_ne (show x.den ≠ 0 by omega)
        have e : (((ptA p).getD j 0 : Int) : Q) * (x.den : Q) = (x.num : Q) * ((ptD p : Int) : Q) := by
          rw [← _root_.Rat.intCast_mul, ha, _root_.Rat.intCast_mul]
        have ep : ptX p j = qv x := by unfold ptX; rw [List.getD_eq_getElem?_getD, hx]; rfl
        rw [ep]
        unfold qv
        grind
theorem solve_cases (s : Sys) : ((solveF s).2 = 0 ∧ (refuteF s).2 = 5) ∨ ((solveF s).2 = 3 ∧ ((refuteF s).2 = 3 ∨ (refuteF s).2 = 5)) ∨ ((solveF s).2 = 5 ∧ (refuteF s).2 = 0 ∧ (solveF s).1 = []) := by
  unfold solveF refuteF
  cases hcur : curE s s.vars.toNat with
  | none => exact .inr (.inl ⟨rfl, .inl rfl⟩)
  | some l =>
    cases l with
    | cons m l => exact .inr (.inr ⟨rfl, rfl, rfl⟩)
    | nil =>
      cases (solK s s.vars.toNat s.vars.toNat).2 with
      | true => exact .inl ⟨rfl, rfl⟩
      | false => exact .inr (.inl ⟨rfl, .inr rfl⟩)
end Go.Proofs.Ytaafchgfibbmhaa
