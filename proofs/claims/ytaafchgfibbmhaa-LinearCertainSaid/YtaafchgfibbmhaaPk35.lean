/-
  A PART OF THE PROOF (put together by program): several texts, one behind the other. Conditions: none.
-/
import Derived.Test.YtaafchgfibbmhaaPk34
set_option linter.unusedSimpArgs false
set_option linter.unusedVariables false
namespace Go.Proofs.Ytaafchgfibbmhaa
abbrev Q := _root_.Rat
def evN (c : List Int) (X : Nat → Q) : Nat → Q
  | 0 => 0
  | k + 1 => evN c X k + ((c.getD k 0 : Int) : Q) * X k
structure Row.Sat (r : Row) (n : Nat) (X : Nat → Q) : Prop where
  le : evN r.c X n ≤ (r.b : Q)
  lt : r.rel = 2 → evN r.c X n < (r.b : Q)
  eq : r.rel = 3 → evN r.c X n = (r.b : Q)
theorem evN_comb {a b : Int} {x y : List Int} (h : x.length = y.length) (X : Nat → Q) : ∀ k, evN (comb a x b y) X k = (a : Q) * evN x X k + (b : Q) * evN y X k
  | 0 => by simp only [evN]; grind
  | k + 1 => by
    simp only [evN]
    rw [evN_comb h X k, comb_getD h, _root_.Rat.intCast_add, _root_.Rat.intCast_mul, _root_.Rat.intCast_mul]
    grind
def updX (X : Nat → Q) (v : Nat) (x : Q) : Nat → Q := fun j => if j = v then x else X j
theorem evN_congr {c c' : List Int} {X X' : Nat → Q} : ∀ {k : Nat}, (∀ j, j < k → c.getD j 0 = c'.getD j 0) → (∀ j, j < k → c.getD j 0 = 0 ∨ X j = X' j) → evN c X k = evN c' X' k
  | 0, _, _ => rfl
  | k + 1, h, h2 => by
    simp only [evN]
    rw [evN_congr (fun j hj => h j (by omega)) (fun j hj => h2 j (by omega)), ← h k (by omega)]
    rcases h2 k (by omega) with e | e
    · rw [e]; grind
    · rw [e]
theorem evN_upd (c : List Int) (X : Nat → Q) (v : Nat) (x : Q) : ∀ k, v < k → evN c (updX X v x) k = evN c X k + ((c.getD v 0 : Int) : Q) * (x - X v)
  | 0, h => absurd h (Nat.not_lt_zero _)
  | k + 1, h => by
    simp only [evN]
    by_cases e : k = v
    · subst e
      have : evN c (updX X k x) k = evN c X k := evN_congr (fun _ _ => rfl) (fun j hj => .inr (if_neg (by omega)))
      rw [this, show updX X k x k = x from if_pos rfl]
      grind
    · rw [evN_upd c X v x k (by omega), show updX X v x k = X k from if_neg e]
      grind
theorem evN_zero {c : List Int} {X : Nat → Q} : ∀ {k : Nat}, (∀ j, j < k → c.getD j 0 = 0) → evN c X k = 0
  | 0, _ => rfl
  | k + 1, h => by
    simp only [evN]
    rw [evN_zero (fun j hj => h j (by omega)), h k (by omega)]
    grind
theorem Row.Sat.of_eq {r r' : Row} {n : Nat} {X X' : Nat → Q} (h : r.Sat n X) (e1 : evN r'.c X' n = evN r.c X n) (e2 : r'.rel = r.rel) (e3 : r'.b = r.b) : r'.Sat n X' :=
  ⟨by rw [e1, e3]; exact h.le, fun h2 => by rw [e1, e3]; exact h.lt (e2 ▸ h2), fun h2 => by rw [e1, e3]; exact h.eq (e2 ▸ h2)⟩
theorem red_sat {m : Made} {n : Nat} {X : Nat → Q} (h : (redM m).r.Sat n X) : m.r.Sat n X := by
  unfold redM at h
  split at h
  · rename_i hg
    obtain ⟨d1, d2, d3⟩ := gcdM_dvd m
    generalize hG : ((gcdM m : Nat) : Int) = g at *
    have hgp : (0 : Q) < (g : Q) := _root_.Rat.intCast_pos.2 (by omega)
    have e1 : evN m.r.c X n = (g : Q) * evN (divs m.r.c g) X n := by
      have := evN_comb (a := g) (b := 0) (x := divs m.r.c g) (y := divs m.r.c g) rfl X n
      rw [divs_mul d2] at this
      rw [this]
      simp only [_root_.Rat.intCast_zero]
      grind
    have e2 : (m.r.b : Q) = (g : Q) * ((m.r.b.tdiv g : Int) : Q) := by
      rw [← _root_.Rat.intCast_mul, Int.mul_tdiv_cancel' d1]
    obtain ⟨h1, h2, h3⟩ := h
    refine ⟨?_, fun e => ?_, fun e => ?_⟩
    · rw [e1, e2]; exact _root_.Rat.mul_le_mul_of_nonneg_left h1 (by grind)
    · rw [e1, e2]; exact _root_.Rat.mul_lt_mul_of_pos_left (h2 e) hgp
    · rw [e1, e2]; exact congrArg _ (h3 e)
  · exact h
theorem line_sat {a b : Row} {n : Nat} {X : Nat → Q} (h : lineB a b = true) (ha : a.c.length ≤ 5) (hb : b.c.length ≤ 5) (hs : b.Sat n X) : a.Sat n X := by
  simp only [lineB, Bool.and_eq_true, beq_iff_eq, Bool.and_true] at h
  obtain ⟨⟨h0, h1, h2, h3, h4⟩, hr, hbb⟩ := h
  refine hs.of_eq (evN_congr (fun j _ => ?_) (fun _ _ => .inr rfl)) hr hbb
  rcases (by omega : j = 0 ∨ j = 1 ∨ j = 2 ∨ j = 3 ∨ j = 4 ∨ 5 ≤ j) with rfl | rfl | rfl | rfl | rfl | h5
  · exact h0
  · exact h1
  · exact h2
  · exact h3
  · exact h4
  · rw [List.getD_eq_getElem?_getD, List.getD_eq_getElem?_getD, List.getElem?_eq_none (by omega), List.getElem?_eq_none (by omega)]
theorem gone_sat {r : Row} {n : Nat} {X : Nat → Q} (h : goneF r = true) (hl : r.c.length ≤ 5) (hr : 1 ≤ r.rel ∧ r.rel ≤ 3) : r.Sat n X := by
  simp only [goneF, emptyF, Bool.and_eq_true, decide_eq_true_eq] at h
  obtain ⟨⟨h0, h1, h2, h3, h4⟩, hf⟩ := h
  have hz : evN r.c X n = 0 := evN_zero (fun j _ => by
    rcases (by omega : j = 0 ∨ j = 1 ∨ j = 2 ∨ j = 3 ∨ j = 4 ∨ 5 ≤ j) with rfl | rfl | rfl | rfl | rfl | h5
    · exact h0
    · exact h1
    · exact h2
    · exact h3
    · exact h4
    · rw [List.getD_eq_getElem?_getD, List.getElem?_eq_none (by omega)]; rfl)
  have c0 : ((0 : Int) : Q) = 0 := rfl
  have k1 : r.rel = 1 → 0 ≤ r.b := fun e => by simpa [relF, e] using hf
  have k2 : r.rel = 2 → 0 < r.b := fun e => by simpa [relF, e] using hf
  have k3 : r.rel = 3 → 0 = r.b := fun e => by simpa [relF, e] using hf
  refine ⟨?_, fun e => ?_, fun e => ?_⟩
  · rw [hz, ← c0]
    refine _root_.Rat.intCast_le_intCast.2 ?_
    rcases (by omega : r.rel = 1 ∨ r.rel = 2 ∨ r.rel = 3) with e | e | e
    · exact k1 e
    · have := k2 e; omega
    · have := k3 e; omega
  · rw [hz, ← c0]; exact _root_.Rat.intCast_lt_intCast.2 (k2 e)
  · rw [hz, ← c0]; exact _root_.Rat.intCast_inj.2 (k3 e)
theorem keepK_met (out : List Made) : ∀ k, (∀ (i : Nat) (m : Made), i < k → out[i]? = some m → isMet (keepK out k).1 m.r = true ∨ ∃ r ∈ (keepK out k).1, r = m.r) ∧ ∀ r ∈ (keepK out k).1, ∃ m ∈ out, m.r = r ∧ (goneF m.r = true ∨ m ∈ (keepK out k).2)
  | 0 => ⟨fun i m hi => absurd hi (Nat.not_lt_zero _), fun r hr => by cases hr⟩
  | k + 1 => by
    obtain ⟨h1, h2⟩ := keepK_met out k
    simp only [keepK]
    cases hk : out[k]? with
    | none =>
      simp only
      refine ⟨fun i m hi hm => ?_, h2⟩
      by_cases e : i = k
      · subst e; rw [hk] at hm; cases hm
      · exact h1 i m (by omega) hm
    | some y =>
      simp only
      have hy := List.mem_of_getElem? hk
      refine ⟨fun i m hi hm => ?_, fun r hr => ?_⟩
      · have hsub : ∀ r ∈ (keepK out k).1, r ∈ addMet (keepK out k).1 y.r := fun r hr => by
          unfold addMet; split
          · exact hr
          · exact List.mem_append.2 (.inl hr)
        by_cases e : i = k
        · subst e
          rw [hk] at hm
          injection hm with hm
          subst hm
          unfold addMet
          split
          · rename_i hmet; exact .inl hmet
          · exact .inr ⟨y.r, by simp, rfl⟩
        · rcases h1 i m (by omega) hm with h | ⟨r, hr, e⟩
          · left
            simp only [isMet, List.any_eq_true] at h ⊢
            obtain ⟨r, hr, hb⟩ := h
            exact ⟨r, hsub r hr, hb⟩
          · exact .inr ⟨r, hsub r hr, e⟩
      · have hr' : r ∈ (keepK out k).1 ∨ (r = y.r ∧ isMet (keepK out k).1 y.r = false) := by
          unfold addMet at hr
          split at hr
          · exact .inl hr
          · rename_i hmet
            rcases List.mem_append.1 hr with hr | hr
            · exact .inl hr
            · exact .inr ⟨by simpa using hr, by simpa using hmet⟩
        rcases hr' with hr | ⟨rfl, hmet⟩
        · obtain ⟨m, hm, e, hg⟩ := h2 r hr
          refine ⟨m, hm, e, hg.imp id fun h => ?_⟩
          split
          · exact List.mem_append.2 (.inl h)
          · exact h
        · refine ⟨y, hy, rfl, ?_⟩
          cases hg : goneF y.r with
          | true => exact .inl rfl
          | false =>
            right
            rw [hmet]
            simp
theorem keep_sat {out : List Made} {n : Nat} {X : Nat → Q} (ho : ∀ m ∈ out, m.r.c.length ≤ 5 ∧ 1 ≤ m.r.rel ∧ m.r.rel ≤ 3) (h : ∀ m ∈ (keepK out out.length).2, m.r.Sat n X) : ∀ m ∈ out, m.r.Sat n X := by
  intro m hm
  obtain ⟨i, hi⟩ := List.mem_iff_getElem?.1 hm
  obtain ⟨h1, h2⟩ := keepK_met out out.length
  have key : ∀ r ∈ (keepK out out.length).1, r.c.length ≤ 5 ∧ r.Sat n X := fun r hr => by
    obtain ⟨m', hm', rfl, hg⟩ := h2 r hr
    obtain ⟨l5, rl⟩ := ho m' hm'
    exact ⟨l5, hg.elim (fun hg => gone_sat hg l5 rl) (fun hk => h m' hk)⟩
  rcases h1 i m (List.getElem?_eq_some_iff.1 hi).1 hi with hmet | ⟨r, hr, e⟩
  · simp only [isMet, List.any_eq_true] at hmet
    obtain ⟨r, hr, hb⟩ := hmet
    obtain ⟨r5, rs⟩ := key r hr
    exact line_sat hb (ho m hm).1 r5 rs
  · rw [← e]; exact (key r hr).2
theorem useL_all {s : Sys} {l : List Made} {e : Made} {v at' : Nat} : ∀ {k : Nat} {out : List Made}, useL s l e v at' k = some out → ∀ (i : Nat) (x : Made), i < k → l[i]? = some x → ∃ u, useOne s e v at' i x = some u ∧ ∀ y ∈ u, y ∈ out
  | 0, out, h, i, x, hi, _ => absurd hi (Nat.not_lt_zero _)
  | k + 1, out, h, i, x, hi, hx => by
    simp only [useL] at h
    cases h1 : useL s l e v at' k with
    | none => rw [h1] at h; cases h
    | some acc =>
      rw [h1] at h
      simp only [Option.bind_some] at h
      have ih := useL_all h1
      cases hk : l[k]? with
      | none =>
        rw [hk] at h
        simp only [Option.some.injEq] at h
        subst h
        by_cases e1 : i = k
        · subst e1; rw [hk] at hx; cases hx
        · exact ih i x (by omega) hx
      | some y =>
        rw [hk] at h
        simp only at h
        cases h2 : useOne s e v at' k y with
        | none => rw [h2] at h; cases h
        | some u =>
          rw [h2] at h
          simp only [Option.map_some, Option.some.injEq] at h
          subst h
          by_cases e1 : i = k
          · subst e1
            rw [hk] at hx
            injection hx with hx
            subst hx
            exact ⟨u, h2, fun z hz => List.mem_append.2 (.inr hz)⟩
          · obtain ⟨w, hw1, hw2⟩ := ih i x (by omega) hx
            exact ⟨w, hw1, fun z hz => List.mem_append.2 (.inl (hw2 z hz))⟩
theorem innP_all {s : Sys} {v : Nat} {l : List Made} {a : Made} {acc : List Made} : ∀ {k : Nat} {out : List Made}, innP s v l a acc k = some out → (∀ y ∈ acc, y ∈ out) ∧ ∀ (j : Nat) (b : Made), j < k → l[j]? = some b → isPair v a b = true → sumM s (-b.r.c.getD v 0) a (a.r.c.getD v 0) b ∈ out
  | 0, out, h => by simp only [innP, Option.some.injEq] at h; subst h; exact ⟨fun _ h => h, fun j b hj => absurd hj (Nat.not_lt_zero _)⟩
  | k + 1, out, h => by
    simp only [innP] at h
    cases h1 : innP s v l a acc k with
    | none => rw [h1] at h; cases h
    | some ac =>
      rw [h1] at h
      simp only [Option.bind_some] at h
      obtain ⟨i1, i2⟩ := innP_all h1
      cases hk : l[k]? with
      | none =>
        rw [hk] at h
        simp only [Option.some.injEq] at h
        subst h
        refine ⟨i1, fun j b hj hb => ?_⟩
        by_cases e1 : j = k
        · subst e1; rw [hk] at hb; cases hb
        · exact i2 j b (by omega) hb
      | some y =>
        rw [hk] at h
        simp only [stepP] at h
        split at h
        · rename_i hp
          simp only [pairF] at h
          split at h
          · simp only [Option.map_some, Option.some.injEq] at h
            subst h
            refine ⟨fun z hz => List.mem_append.2 (.inl (i1 z hz)), fun j b hj hb hpb => ?_⟩
            by_cases e1 : j = k
            · subst e1
              rw [hk] at hb; injection hb with hb; subst hb
              exact List.mem_append.2 (.inr (by simp))
            · exact List.mem_append.2 (.inl (i2 j b (by omega) hb hpb))
          · cases h
        · rename_i hp
          simp only [Option.some.injEq] at h
          subst h
          refine ⟨i1, fun j b hj hb hpb => ?_⟩
          by_cases e1 : j = k
          · subst e1
            rw [hk] at hb; injection hb with hb; subst hb
            exact absurd hpb hp
          · exact i2 j b (by omega) hb hpb
theorem outP_all {s : Sys} {v : Nat} {l : List Made} {acc : List Made} : ∀ {k : Nat} {out : List Made}, outP s v l acc k = some out → (∀ y ∈ acc, y ∈ out) ∧ ∀ (i j : Nat) (a b : Made), i < k → l[i]? = some a → l[j]? = some b → isPair v a b = true → sumM s (-b.r.c.getD v 0) a (a.r.c.getD v 0) b ∈ out
  | 0, out, h => by simp only [outP, Option.some.injEq] at h; subst h; exact ⟨fun _ h => h, fun i j a b hi => absurd hi (Nat.not_lt_zero _)⟩
  | k + 1, out, h => by
    simp only [outP] at h
    cases h1 : outP s v l acc k with
    | none => rw [h1] at h; cases h
    | some ac =>
      rw [h1] at h
      simp only [Option.bind_some] at h
      obtain ⟨i1, i2⟩ := outP_all h1
      cases hk : l[k]? with
      | none =>
        rw [hk] at h
        simp only [Option.some.injEq] at h
        subst h
        refine ⟨i1, fun i j a b hi ha => ?_⟩
        by_cases e1 : i = k
        · subst e1; rw [hk] at ha; cases ha
        · exact i2 i j a b (by omega) ha
      | some y =>
        rw [hk] at h
        simp only at h
        obtain ⟨j1, j2⟩ := innP_all h
        refine ⟨fun z hz => j1 z (i1 z hz), fun i j a b hi ha hb hpb => ?_⟩
        by_cases e1 : i = k
        · subst e1
          rw [hk] at ha; injection ha with ha; subst ha
          exact j2 j b (List.getElem?_eq_some_iff.1 hb).1 hb hpb
        · exact j1 _ (i2 i j a b (by omega) ha hb hpb)
theorem kind_congr3 : ∀ (t t' : List Int) (rows : List Row) (o : Int), t.length = t'.length → (∀ (i : Nat) (x y : Int) (r : Row), t[i]? = some x → t'[i]? = some y → rows[i]? = some r → r.rel ≠ 3 → (x = 0 ↔ y = 0)) → (t.zip rows).foldl stepRel o = (t'.zip rows).foldl stepRel o
  | [], [], _, _, _, _ => rfl
  | [], _ :: _, _, _, h, _ => by simp at h
  | _ :: _, [], _, _, h, _ => by simp at h
  | _ :: _, _ :: _, [], _, _, _ => rfl
  | x :: t, y :: t', r :: rows, o, h, hxy => by
    have hs : stepRel o (x, r) = stepRel o (y, r) := by
      unfold stepRel
      by_cases h3 : r.rel = 3
      · rw [if_neg (fun h => h.2.1 h3), if_neg (fun h => h.2.1 h3)]
      · have h0 : x = 0 ↔ y = 0 := hxy 0 x y r rfl rfl rfl h3
        simp only [ne_eq, h0]
    simp only [List.zip_cons_cons, List.foldl_cons]
    rw [hs]
    exact kind_congr3 t t' rows _ (by simpa using h) (fun i a b r' ha hb hr => hxy (i + 1) a b r' ha hb hr)
theorem kind2_fold : ∀ (l : List (Int × Row)) (o : Int), l.foldl stepRel o = 2 ↔ (o = 2 ∨ ∃ x ∈ l, x.1 ≠ 0 ∧ x.2.rel = 2)
  | [], o => by simp
  | x :: l, o => by
    simp only [List.foldl_cons]
    rw [kind2_fold l (stepRel o x)]
    constructor
    · rintro (h | ⟨y, hy, h⟩)
      · unfold stepRel at h
        split at h
        · rename_i hc; exact .inr ⟨x, by simp, hc.1, h⟩
        · exact .inl h
      · exact .inr ⟨y, by simp [hy], h⟩
    · rintro (h | ⟨y, hy, h⟩)
      · exact .inl (by unfold stepRel; rw [if_neg (fun hc => hc.2.2 h)]; exact h)
      · rcases List.mem_cons.1 hy with rfl | hy
        · left
          unfold stepRel
          by_cases ho : o = 2
          · rw [if_neg (fun hc => hc.2.2 ho)]; exact ho
          · rw [if_pos ⟨h.1, by omega, ho⟩]; exact h.2
        · exact .inr ⟨y, hy, h⟩
theorem kind2 {s : Sys} {t : List Int} : kindF s t = 2 ↔ ∃ (i : Nat) (x : Int) (r : Row), t[i]? = some x ∧ s.rows[i]? = some r ∧ x ≠ 0 ∧ r.rel = 2 := by
  unfold kindF
  rw [kind2_fold]
  constructor
  · rintro (h | ⟨x, hx, h1, h2⟩)
    · omega
    · obtain ⟨i, a1, a2⟩ := zip_mem hx
      exact ⟨i, x.1, x.2, a1, a2, h1, h2⟩
  · rintro ⟨i, x, r, h1, h2, h3, h4⟩
    exact .inr ⟨(x, r), zip_at h1 h2, h3, h4⟩
theorem comb_at {a b : Int} {x y : List Int} {i : Nat} {p q : Int} (h1 : x[i]? = some p) (h2 : y[i]? = some q) : (comb a x b y)[i]? = some (a * p + b * q) := by
  simp only [comb, List.getElem?_zipWith, h1, h2]
theorem IsSum.nonneg {s : Sys} {m : Made} (h : IsSum s m) {i : Nat} {x : Int} {r : Row} (h1 : m.t[i]? = some x) (h2 : s.rows[i]? = some r) (h3 : r.rel ≠ 3) : 0 ≤ x := by
  rcases Int.lt_or_le x 0 with hlt | hle
  · exact absurd (h.pos _ (zip_at h1 h2) hlt) h3
  · exact hle
theorem kind_use {s : Sys} {m e : Made} (hm : IsSum s m) (he : IsSum s e) (h3 : e.r.rel = 3) {a b : Int} (ha : 0 < a) : kindF s (comb a m.t b e.t) = m.r.rel := by
  rw [← hm.rel]
  unfold kindF
  have hl : m.t.length = e.t.length := by rw [hm.lt, he.lt]
  refine kind_congr3 _ _ _ _ (by rw [comb_length hl]) (fun i x y r hx hy hr hn => ?_)
  have hi : i < e.t.length := by rw [← hl]; exact (List.getElem?_eq_some_iff.1 hy).1
  obtain ⟨q, hq⟩ : ∃ q, e.t[i]? = some q := ⟨e.t[i], List.getElem?_eq_getElem _⟩
  have hq0 : q = 0 := by
    by_cases h0 : q = 0
    · exact h0
    · exact absurd (kind3 (he.rel.trans h3) _ (zip_at hq hr) h0) hn
  rw [comb_at hy hq] at hx
  injection hx with hx
  subst hq0
  rw [← hx, Int.mul_zero, Int.add_zero]
  constructor
  · intro h; exact (Int.mul_eq_zero.1 h).resolve_left (by omega)
  · intro h; rw [h, Int.mul_zero]
theorem kind_pair {s : Sys} {m n : Made} (hm : IsSum s m) (hn : IsSum s n) {a b : Int} (ha : 0 < a) (hb : 0 < b) (h : m.r.rel = 2 ∨ n.r.rel = 2) : kindF s (comb a m.t b n.t) = 2 := by
  have hl : m.t.length = n.t.length := by rw [hm.lt, hn.lt]
  rw [kind2]
  have key : ∃ (i : Nat) (p q : Int) (r : Row), m.t[i]? = some p ∧ n.t[i]? = some q ∧ s.rows[i]? = some r ∧ (p ≠ 0 ∨ q ≠ 0) ∧ r.rel = 2 := by
    rcases h with h | h
    · obtain ⟨i, x, r, h1, h2, h3, h4⟩ := kind2.1 (hm.rel.trans h)
      have hi : i < n.t.length := by rw [← hl]; exact (List.getElem?_eq_some_iff.1 h1).1
      exact ⟨i, x, n.t[i], r, h1, List.getElem?_eq_getElem _, h2, .inl h3, h4⟩
    · obtain ⟨i, x, r, h1, h2, h3, h4⟩ := kind2.1 (hn.rel.trans h)
      have hi : i < m.t.length := by rw [hl]; exact (List.getElem?_eq_some_iff.1 h1).1
      exact ⟨i, m.t[i], x, r, List.getElem?_eq_getElem _, h1, h2, .inr h3, h4⟩
  obtain ⟨i, p, q, r, h1, h2, h3, h4, h5⟩ := key
  refine ⟨i, a * p + b * q, r, comb_at h1 h2, h3, ?_, h5⟩
  have p0 := hm.nonneg h1 h3 (by omega)
  have q0 := hn.nonneg h2 h3 (by omega)
  have e1 := Int.mul_nonneg (Int.le_of_lt ha) p0
  have e2 := Int.mul_nonneg (Int.le_of_lt hb) q0
  rcases h4 with h | h
  · have := Int.mul_pos ha (by omega : 0 < p); omega
  · have := Int.mul_pos hb (by omega : 0 < q); omega
theorem raw_ev {s : Sys} {m n : Made} {a b : Int} (hl : m.r.c.length = n.r.c.length) (X : Nat → Q) (k : Nat) : evN (rawSum s a m b n).r.c X k - ((rawSum s a m b n).r.b : Q) = (a : Q) * (evN m.r.c X k - (m.r.b : Q)) + (b : Q) * (evN n.r.c X k - (n.r.b : Q)) := by
  show evN (comb a m.r.c b n.r.c) X k - ((a * m.r.b + b * n.r.b : Int) : Q) = _
  rw [evN_comb hl, _root_.Rat.intCast_add, _root_.Rat.intCast_mul, _root_.Rat.intCast_mul]
  grind
theorem use_sat {s : Sys} {m e : Made} (hm : IsSum s m) (he : IsSum s e) (hl : m.r.c.length = e.r.c.length) (h3 : e.r.rel = 3) {a b : Int} (ha : 0 < a) {n : Nat} {X : Nat → Q} (hs : (sumM s a m b e).r.Sat n X) (hes : e.r.Sat n X) : m.r.Sat n X := by
  have hr := red_sat hs
  have hev := raw_ev (s := s) (a := a) (b := b) hl X n
  have hk : (rawSum s a m b e).r.rel = m.r.rel := kind_use hm he h3 ha
  have hap : (0 : Q) < (a : Q) := _root_.Rat.intCast_pos.2 ha
  have he0 := hes.eq h3
  have hz : (b : Q) * (evN e.r.c X n - (e.r.b : Q)) = 0 := by rw [he0]; grind
  rw [hz] at hev
  obtain ⟨h1, h2, h4⟩ := hr
  rw [hk] at h2 h4
  generalize evN (rawSum s a m b e).r.c X n = u at *
  generalize ((rawSum s a m b e).r.b : Q) = w at *
  refine ⟨?_, fun h => ?_, fun h => ?_⟩
  · have : (a : Q) * (evN m.r.c X n) ≤ (a : Q) * (m.r.b : Q) := by grind
    exact _root_.Rat.le_of_mul_le_mul_left this hap
  · have h2 := h2 h
    have : (a : Q) * (evN m.r.c X n) < (a : Q) * (m.r.b : Q) := by grind
    exact _root_.Rat.lt_of_mul_lt_mul_left this (by grind)
  · have h4 := h4 h
    have : (a : Q) * (evN m.r.c X n) = (a : Q) * (m.r.b : Q) := by grind
    have k1 := _root_.Rat.le_of_mul_le_mul_left (a := evN m.r.c X n) (b := (m.r.b : Q)) (by grind) hap
    have k2 := _root_.Rat.le_of_mul_le_mul_left (a := (m.r.b : Q)) (b := evN m.r.c X n) (by grind) hap
    grind
end Go.Proofs.Ytaafchgfibbmhaa
namespace Go.Proofs.Ytaafchgfibbmhaa
theorem back_raw {s : Sys} (hc : checkF s = true) {k : Nat} {l l' : List Made} (hl : curE s k = some l) (he : elimE s k l = some l') {n : Nat} {X : Nat → Q} (hX : ∀ m ∈ l', m.r.Sat n X) : ∃ out, rawE s k l = some out ∧ ∀ m ∈ out, m.r.Sat n X := by
  obtain ⟨v1, v5, r10, hall⟩ := check_rows hc
  have hsum := curE_sum hc hl
  unfold elimE at he
  cases hr : rawE s k l with
  | none => rw [hr] at he; cases he
  | some out =>
    rw [hr] at he
    simp only [Option.bind_some] at he
    split at he
    · cases he
    · simp only [Option.some.injEq] at he
      subst he
      refine ⟨out, rfl, keep_sat (fun m hm => ?_) hX⟩
      have hs := rawE_ind (Q := IsSum s) (fun m hm _ => hsum m hm) (fun m hm n hn a b _ ha hb => (hsum m hm).sum (hsum n hn) ha hb) hr m hm
      have hok := rawE_ok (curE_ok hc hl).1 hr m hm
      exact ⟨by have := hok.lc; omega, hs.range hc⟩
theorem back_eq {s : Sys} (hc : checkF s = true) {k : Nat} {l l' : List Made} (hl : curE s k = some l) (he : elimE s k l = some l') {n : Nat} {X : Nat → Q} (hX : ∀ m ∈ l', m.r.Sat n X) {at' : Nat} {e : Made} (hat : l.findIdx? (usesF k) = some at') (hate : l[at']? = some e) (hes : e.r.Sat n X) : ∀ m ∈ l, m.r.Sat n X := by
  obtain ⟨out, hr, hout⟩ := back_raw hc hl he hX
  simp only [rawE, hat, hate] at hr
  have hsum := curE_sum hc hl
  have hok := (curE_ok hc hl).1
  have hem := List.mem_of_getElem? hate
  have hue : usesF k e = true := by
    have := List.findIdx?_eq_some_iff_getElem.1 hat
    obtain ⟨h1, h2, h3⟩ := this
    have : l[at'] = e := by rw [List.getElem?_eq_getElem h1] at hate; injection hate
    rw [← this]; exact h2
  simp only [usesF, Bool.and_eq_true, decide_eq_true_eq] at hue
  obtain ⟨he3, hce⟩ := hue
  intro m hm
  obtain ⟨i, hi⟩ := List.mem_iff_getElem?.1 hm
  obtain ⟨u, hu, hsub⟩ := useL_all hr i m (List.getElem?_eq_some_iff.1 hi).1 hi
  have hlen : m.r.c.length = e.r.c.length := by rw [(hok m hm).lc, (hok e hem).lc]
  simp only [useOne] at hu
  split at hu
  · rename_i h
    subst h
    rw [hate] at hi
    injection hi with hi
    rw [← hi]; exact hes
  · split at hu
    · simp only [Option.some.injEq] at hu
      subst hu
      exact hout m (hsub m (by simp))
    · have key : ∀ X : Nat → Q, e.r.Sat n X → (if 0 < e.r.c.getD k 0 then sumM s (e.r.c.getD k 0) m (-(m.r.c.getD k 0)) e else sumM s (-(e.r.c.getD k 0)) m (m.r.c.getD k 0) e).r.Sat n X → m.r.Sat n X := fun X hes hx => by
        split at hx
        · rename_i hp; exact use_sat (hsum m hm) (hsum e hem) hlen he3 hp hx hes
        · rename_i hp; exact use_sat (hsum m hm) (hsum e hem) hlen he3 (by omega) hx hes
      generalize (if 0 < e.r.c.getD k 0 then sumM s (e.r.c.getD k 0) m (-(m.r.c.getD k 0)) e else sumM s (-(e.r.c.getD k 0)) m (m.r.c.getD k 0) e) = y at hu key
      split at hu
      · simp only [Option.some.injEq] at hu
        subst hu
        exact key X hes (hout y (hsub y (by simp)))
      · cases hu
abbrev Made.ev (m : Made) (n : Nat) (X : Nat → Q) : Q := evN m.r.c X n - (m.r.b : Q)
theorem back_pair {s : Sys} (hc : checkF s = true) {k : Nat} {l l' : List Made} (hl : curE s k = some l) (he : elimE s k l = some l') {n : Nat} {X : Nat → Q} (hX : ∀ m ∈ l', m.r.Sat n X) (hno : l.findIdx? (usesF k) = none) :
    (∀ m ∈ l, m.co k = 0 → m.r.Sat n X) ∧ ∀ a ∈ l, ∀ b ∈ l, 0 < a.co k → b.co k < 0 → ((-(b.co k) : Int) : Q) * a.ev n X + ((a.co k : Int) : Q) * b.ev n X ≤ 0 ∧ (a.r.rel = 2 ∨ b.r.rel = 2 → ((-(b.co k) : Int) : Q) * a.ev n X + ((a.co k : Int) : Q) * b.ev n X < 0) := by
  obtain ⟨out, hr, hout⟩ := back_raw hc hl he hX
  simp only [rawE, hno] at hr
  have hsum := curE_sum hc hl
  have hok := (curE_ok hc hl).1
  obtain ⟨h1, h2⟩ := outP_all hr
  refine ⟨fun m hm h0 => hout m (h1 m ?_), fun a ha b hb hpa hnb => ?_⟩
  · simp only [zeroL, List.mem_filter, beq_iff_eq]
    exact ⟨hm, h0⟩
  · obtain ⟨i, hi⟩ := List.mem_iff_getElem?.1 ha
    obtain ⟨j, hj⟩ := List.mem_iff_getElem?.1 hb
    have hs := red_sat (hout _ (h2 i j a b (List.getElem?_eq_some_iff.1 hi).1 hi hj (by simp only [isPair, Bool.and_eq_true, decide_eq_true_eq]; exact ⟨hpa, hnb⟩)))
    have hev := raw_ev (s := s) (m := a) (n := b) (a := -(b.co k)) (b := a.co k) (by rw [(hok a ha).lc, (hok b hb).lc]) X n
    obtain ⟨g1, g2, g3⟩ := hs
    refine ⟨?_, fun h => ?_⟩
    · grind
    · have := g2 (kind_pair (a := -(b.co k)) (b := a.co k) (hsum a ha) (hsum b hb) (by omega) hpa h)
      grind
def Made.bd (m : Made) (n k : Nat) (X : Nat → Q) : Q := X k - m.ev n X / ((m.co k : Int) : Q)
theorem ev_upd {m : Made} {n k : Nat} {X : Nat → Q} (hk : k < n) (h0 : m.co k ≠ 0) (x : Q) : m.ev n (updX X k x) = ((m.co k : Int) : Q) * (x - m.bd n k X) := by
  have hq : ((m.co k : Int) : Q) ≠ 0 := fun h => h0 (_root_.Rat.intCast_eq_zero_iff.1 h)
  have h := evN_upd m.r.c X k x n hk
  have hd : m.ev n X / ((m.co k : Int) : Q) * ((m.co k : Int) : Q) = m.ev n X := _root_.Rat.div_mul_cancel hq
  unfold Made.bd
  simp only [Made.ev, Made.co] at *
  rw [h]
  grind
def Above (q x : Q) (rel : Int) : Prop := q ≤ x ∧ (rel = 2 → q < x)
theorem bd_hi {m : Made} {n k : Nat} {X : Nat → Q} {x : Q} (hk : k < n) (h : 0 < m.co k) (h3 : m.r.rel ≠ 3) (hx : Above x (m.bd n k X) m.r.rel) : m.r.Sat n (updX X k x) := by
  have he := ev_upd (m := m) (X := X) hk (by omega) x
  have hp : (0 : Q) < ((m.co k : Int) : Q) := _root_.Rat.intCast_pos.2 h
  simp only [Made.ev] at he
  refine ⟨?_, fun e => ?_, fun e => absurd e h3⟩
  · have := _root_.Rat.mul_le_mul_of_nonneg_left (a := x - m.bd n k X) (b := 0) (c := ((m.co k : Int) : Q)) (by have := hx.1; grind) (by grind)
    grind
  · have := _root_.Rat.mul_lt_mul_of_pos_left (a := x - m.bd n k X) (b := 0) (c := ((m.co k : Int) : Q)) (by have := hx.2 e; grind) hp
    grind
theorem bd_lo {m : Made} {n k : Nat} {X : Nat → Q} {x : Q} (hk : k < n) (h : m.co k < 0) (h3 : m.r.rel ≠ 3) (hx : Above (m.bd n k X) x m.r.rel) : m.r.Sat n (updX X k x) := by
  have he := ev_upd (m := m) (X := X) hk (by omega) x
  have hp : (0 : Q) < ((-(m.co k) : Int) : Q) := _root_.Rat.intCast_pos.2 (by omega)
  have hc : ((-(m.co k) : Int) : Q) = -((m.co k : Int) : Q) := _root_.Rat.intCast_neg _
  simp only [Made.ev] at he
  refine ⟨?_, fun e => ?_, fun e => absurd e h3⟩
  · have := _root_.Rat.mul_le_mul_of_nonneg_left (a := m.bd n k X - x) (b := 0) (c := ((-(m.co k) : Int) : Q)) (by have := hx.1; grind) (by grind)
    grind
  · have := _root_.Rat.mul_lt_mul_of_pos_left (a := m.bd n k X - x) (b := 0) (c := ((-(m.co k) : Int) : Q)) (by have := hx.2 e; grind) hp
    grind
theorem bd_pair {a b : Made} {n k : Nat} {X : Nat → Q} (ha : 0 < a.co k) (hb : b.co k < 0) (h : ((-(b.co k) : Int) : Q) * a.ev n X + ((a.co k : Int) : Q) * b.ev n X ≤ 0 ∧ (a.r.rel = 2 ∨ b.r.rel = 2 → ((-(b.co k) : Int) : Q) * a.ev n X + ((a.co k : Int) : Q) * b.ev n X < 0)) :
    b.bd n k X ≤ a.bd n k X ∧ (a.r.rel = 2 ∨ b.r.rel = 2 → b.bd n k X < a.bd n k X) := by
  have hpa : (0 : Q) < ((a.co k : Int) : Q) := _root_.Rat.intCast_pos.2 ha
  have hpb : (0 : Q) < ((-(b.co k) : Int) : Q) := _root_.Rat.intCast_pos.2 (by omega)
  have hcb : ((-(b.co k) : Int) : Q) = -((b.co k : Int) : Q) := _root_.Rat.intCast_neg _
  have e1 : a.ev n X = ((a.co k : Int) : Q) * (X k - a.bd n k X) := by
    have hd : a.ev n X / ((a.co k : Int) : Q) * ((a.co k : Int) : Q) = a.ev n X := _root_.Rat.div_mul_cancel (by grind)
    unfold Made.bd; grind
  have e2 : b.ev n X = -(((-(b.co k) : Int) : Q) * (X k - b.bd n k X)) := by
    have hd : b.ev n X / ((b.co k : Int) : Q) * ((b.co k : Int) : Q) = b.ev n X := _root_.Rat.div_mul_cancel (by grind)
    rw [hcb]
    unfold Made.bd; grind
  rw [e1, e2] at h
  generalize ((a.co k : Int) : Q) = A at *
  generalize ((-(b.co k) : Int) : Q) = B at *
  have hAB := _root_.Rat.mul_pos hpa hpb
  refine ⟨?_, fun hr => ?_⟩
  · have : (A * B) * b.bd n k X ≤ (A * B) * a.bd n k X := by grind
    exact _root_.Rat.le_of_mul_le_mul_left this hAB
  · have h2 := h.2 hr
    have : (A * B) * b.bd n k X < (A * B) * a.bd n k X := by grind
    exact _root_.Rat.lt_of_mul_lt_mul_left this (by grind)
theorem sat_upd {r : Row} {n k : Nat} {X : Nat → Q} {x : Q} (h : r.Sat n X) (h0 : r.c.getD k 0 = 0) : r.Sat n (updX X k x) :=
  h.of_eq (evN_congr (fun _ _ => rfl) (fun j _ => by
    by_cases e : j = k
    · subst e; exact .inl h0
    · exact .inr (if_neg e))) rfl rfl
theorem eq_sat {e : Made} {n k : Nat} {X : Nat → Q} (hk : k < n) (h0 : e.co k ≠ 0) (h3 : e.r.rel = 3) : e.r.Sat n (updX X k (e.bd n k X)) := by
  have he := ev_upd (X := X) hk h0 (e.bd n k X)
  simp only [Made.ev] at he
  exact ⟨by grind, fun h => by omega, fun _ => by grind⟩
theorem begin_back {s : Sys} (hc : checkF s = true) {n : Nat} {X : Nat → Q} : ∀ k, (∀ m ∈ beginL s k, m.r.Sat n X) → ∀ (i : Nat) (r : Row), i < k → s.rows[i]? = some r → r.Sat n X
  | 0, _, i, r, hi, _ => absurd hi (Nat.not_lt_zero _)
  | k + 1, h, i, r, hi, hr => by
    obtain ⟨v1, v5, r10, hall⟩ := check_rows hc
    by_cases e : i = k
    · subst e
      have hrl := hall r (List.mem_of_getElem? hr)
      cases hg : goneF r with
      | true => exact gone_sat hg (by omega) hrl.2.2.2
      | false =>
        have := h (redM (firstM s i r)) (by simp only [beginL, hr, hg, Bool.false_eq_true, if_false]; simp)
        exact red_sat (m := firstM s i r) this
    · exact begin_back hc k (fun m hm => h m (by simp only [beginL]; exact List.mem_append.2 (.inl hm))) i r (by omega) hr
theorem rows_sat {s : Sys} (hc : checkF s = true) {n : Nat} {X : Nat → Q} (h : ∀ m ∈ beginL s s.rows.length, m.r.Sat n X) : ∀ r ∈ s.rows, r.Sat n X := fun r hr => by
  obtain ⟨i, hi⟩ := List.mem_iff_getElem?.1 hr
  exact begin_back hc _ h i r (List.getElem?_eq_some_iff.1 hi).1 hi
theorem dot_ev {c A : List Int} {X : Nat → Q} {D : Int} : ∀ {k : Nat}, (∀ j, j < k → ((A.getD j 0 : Int) : Q) = X j * (D : Q)) → ((dot (c.take k) A : Int) : Q) = evN c X k * (D : Q)
  | 0, _ => by simp [dot, evN]
  | k + 1, h => by
    rw [dot_take, _root_.Rat.intCast_add, _root_.Rat.intCast_mul, dot_ev (fun j hj => h j (by omega)), h k (by omega)]
    simp only [evN]
    grind
theorem sat_at {r : Row} {A : List Int} {X : Nat → Q} {D : Int} {n : Nat} (hD : 0 < D) (hn : r.c.length = n) (hr : 1 ≤ r.rel ∧ r.rel ≤ 3) (h : ∀ j, j < n → ((A.getD j 0 : Int) : Q) = X j * (D : Q)) : r.Sat n X ↔ r.At A D := by
  have e := dot_ev (c := r.c) h
  rw [List.take_of_length_le (by omega)] at e
  have hDq : (0 : Q) < (D : Q) := _root_.Rat.intCast_pos.2 hD
  have eb : ((r.b * D : Int) : Q) = (r.b : Q) * (D : Q) := _root_.Rat.intCast_mul _ _
  unfold Row.At
  rw [← _root_.Rat.intCast_inj (a := dot r.c A), ← _root_.Rat.intCast_lt_intCast (a := dot r.c A), ← _root_.Rat.intCast_le_intCast (a := dot r.c A), e, eb]
  constructor
  · rintro ⟨h1, h2, h3⟩
    exact ⟨fun h => by rw [h3 h], fun h => _root_.Rat.mul_lt_mul_of_pos_right (h2 h) hDq, fun h => _root_.Rat.mul_le_mul_of_nonneg_right h1 (by grind)⟩
  · rintro ⟨h3, h2, h1⟩
    have k2 : r.rel = 2 → evN r.c X n < (r.b : Q) := fun h => _root_.Rat.lt_of_mul_lt_mul_right (h2 h) (by grind)
    have k3 : r.rel = 3 → evN r.c X n = (r.b : Q) := fun h => by
      have a1 := _root_.Rat.le_of_mul_le_mul_right (a := evN r.c X n) (b := (r.b : Q)) (by have := h3 h; grind) hDq
      have a2 := _root_.Rat.le_of_mul_le_mul_right (a := (r.b : Q)) (b := evN r.c X n) (by have := h3 h; grind) hDq
      grind
    refine ⟨?_, k2, k3⟩
    rcases (by omega : r.rel = 1 ∨ r.rel = 2 ∨ r.rel = 3) with h | h | h
    · exact _root_.Rat.le_of_mul_le_mul_right (h1 h) hDq
    · have := k2 h; grind
    · have := k3 h; grind
end Go.Proofs.Ytaafchgfibbmhaa
namespace Go.Proofs.Ytaafchgfibbmhaa
def numX (r : Row) (v : Nat) (p : List Rat) (j : Nat) : Rat := timesV (-(r.c.getD (v + 1 + j) 0)) (p.getD (v + 1 + j) ⟨0, 0⟩)
def numK (r : Row) (v : Nat) (p : List Rat) : Nat → Rat × Bool
  | 0 => (⟨r.b, 1⟩, true)
  | j + 1 => if (numK r v p j).2 = true then (if okR (numX r v p j) = true then (addV (numK r v p j).1 (numX r v p j), okR (addV (numK r v p j).1 (numX r v p j))) else ((numK r v p j).1, false)) else numK r v p j
def numF (r : Row) (v : Nat) (p : List Rat) : Rat × Bool :=
  if (numK r v p (p.length - (v + 1))).2 = true then
    (overV (numK r v p (p.length - (v + 1))).1.num ((numK r v p (p.length - (v + 1))).1.den * r.c.getD v 0), okR (overV (numK r v p (p.length - (v + 1))).1.num ((numK r v p (p.length - (v + 1))).1.den * r.c.getD v 0)))
  else numK r v p (p.length - (v + 1))
theorem numK_stop {r : Row} {v : Nat} {p : List Rat} {j : Nat} (h : (numK r v p j).2 = false) : ∀ i, numK r v p (j + i) = numK r v p j
  | 0 => rfl
  | i + 1 => by
    rw [← Nat.add_assoc]
    simp only [numK]
    rw [numK_stop h i, if_neg (by rw [h]; exact Bool.noConfusion)]
theorem numF_stop {r : Row} {v : Nat} {p : List Rat} {j : Nat} (hj : j ≤ p.length - (v + 1)) (h : (numK r v p j).2 = false) : numF r v p = numK r v p j := by
  have := numK_stop h (p.length - (v + 1) - j)
  rw [show j + (p.length - (v + 1) - j) = p.length - (v + 1) by omega] at this
  rw [numF, this, if_neg (by rw [h]; exact Bool.noConfusion)]
structure Row.Nice (r : Row) (nv : Nat) : Prop where
  l : r.c.length = nv
  c : ∀ n ∈ r.c, -1000000000 ≤ n ∧ n ≤ 1000000000
  b : -1000000000 ≤ r.b ∧ r.b ≤ 1000000000
theorem numK_ok {r : Row} {v : Nat} {p : List Rat} {nv : Nat} (hr : r.Nice nv) : ∀ j, (numK r v p j).2 = true → (numK r v p j).1.Ok
  | 0, _ => ⟨hr.b, by simp [numK]⟩
  | j + 1, h => by
    simp only [numK] at h ⊢
    split at h
    · rename_i h1
      rw [if_pos h1]
      split at h
      · rename_i h2
        rw [if_pos h2]
        exact okR_ok h
      · cases h
    · rename_i h1
      exact absurd h h1
theorem over_one (b : Int) : overV b 1 = ⟨b, 1⟩ := by simp [overV]
theorem ok_one {b : Int} (h : -1000000000 ≤ b ∧ b ≤ 1000000000) : okR ⟨b, 1⟩ = true := by
  simp only [okR, ratF, Bool.and_eq_true, inB_iff, decide_eq_true_eq]
  exact ⟨⟨by omega, h⟩, by simp⟩
@[reducible] def numO (r : Row) (x : Rat) : Nat → Obj' := upd (upd (upd (fun _ => .no) 0 (.row [.d (.sl (r.c.map .i)), .d (.i r.rel), .d (.i r.b)])) 1 (.row [.d (.i 0), .d (.i 0)])) 5 (.row [.d (.i x.num), .d (.i x.den)])
theorem numO_good (r : Row) (x : Rat) : Good (numO r x) 6 := (((Good.nil (nx := 6)).upd (by omega) rfl).upd (by omega) rfl).upd (by omega) rfl
theorem number_c (r : Row) (v : Nat) (p : List Rat) {nv : Nat} (hr : r.Nice nv) (hnv : nv ≤ 5) (hp : p.length = nv) (hv : v < nv) (hpo : ∀ k x, v < k → p[k]? = some x → x.Ok) (hc0 : r.c.getD v 0 ≠ 0) :
    PCt Try.prog 99 [r.d, .i v, .sl (p.map Rat.d)] (if (numF r v p).2 = true then .ret [(numF r v p).1.d] else .pan tooD) := by
  have hl := hr.l
  have hone := over_c r.b 1 (by have := hr.b; omega) (by omega) (by omega)
  rw [over_one, if_pos (ok_one hr.b)] at hone
  have hv1 : IntKind.i64.wrap ((v : Int) + 1) = ((v + 1 : Nat) : Int) := wrapN (by omega)
  refine PCt.of_ev mix fn99 (by simp) ?_
  rw [c99]
  simp +contextual only [go_sem, Row.d]
  refine call_keep hone rfl ?_
  simp +contextual only [go_sem, hv1]
  refine loop_fam (fun j : Nat => ⟨envJ [.junk, .d (.i v), .d (.sl (p.map Rat.d)), .ptr 0 0, .junk, .junk, .ptr 1 0, .ptr 5 0, .d (.i ((v + 1 + j : Nat) : Int))], numO r (numK r v p j).1, 6⟩)
    (fun j => v + 1 + j ≤ nv ∧ (numK r v p j).2 = true) (fun j => nv - j) 0 ⟨by omega, rfl⟩ (SLe.backL _ (by omega) (by omega) (numO_good _ _) (fun j h => ?_) ?_) (fun j hj => ?_)
  · unfold numO
    by_cases e : j = 5
    · subst e; repeat (first | rfl | rw [upd_same] | rw [upd_ne _ _ _ _ (by omega)])
    · repeat (first | rfl | rw [upd_ne _ _ _ _ e])
  · repeat (first | exact backE_nil | refine backE_junk ?_ | refine backE_d rfl ?_ | refine backE_v rfl (by simp [V.refs] <;> omega) ?_)
  simp +contextual only [go_sem]
  refine cond_intro (fun h2 => ?_) (fun h2 => ?_)
  · simp at h2
    obtain ⟨n, hn⟩ : ∃ n, r.c[v + 1 + j]? = some n := ⟨r.c[v + 1 + j]'(by omega), List.getElem?_eq_getElem _⟩
    obtain ⟨x, hx⟩ : ∃ x, p[v + 1 + j]? = some x := ⟨p[v + 1 + j]'(by omega), List.getElem?_eq_getElem _⟩
    have hnb := hr.c n (List.mem_of_getElem? hn)
    have hxo := hpo _ x (by omega) hx
    have hko := numK_ok hr j hj.2
    have hX : numX r v p j = timesV (-n) x := by simp [numX, List.getD_eq_getElem?_getD, hn, hx]
    have hwn : IntKind.i64.wrap (-n) = -n := wrap64 (by omega) (by omega)
    have hby := by'_c x (-n) hxo (by omega)
    rw [← hX] at hby
    simp +contextual only [go_sem, hn, hx, hwn, D.i]
    cases h3 : okR (numX r v p j) with
    | false =>
      have hK : numK r v p (j + 1) = ((numK r v p j).1, false) := by simp only [numK, hj.2, if_true, h3]; rfl
      have hF := numF_stop (r := r) (v := v) (p := p) (j := j + 1) (by omega) (by rw [hK])
      rw [hF, hK]
      rw [h3, if_neg Bool.noConfusion] at hby
      refine callD_pan hby (by decide) ?_
      simp +contextual only [go_sem, hn, hx, hwn]
      refine badE_skip rfl (badE_skip rfl (badE_nil ?_))
      refine ⟨rfl, ?_⟩
      simp only [panS, blockQ_pan, thenQ_pan, loopQ_pan, endW_pan', List.contains_nil, Bool.false_eq_true, if_false, toD, endU_some]
    | true =>
      rw [h3, if_pos rfl] at hby
      refine callD_keep hby rfl ?_
      simp +contextual only [go_sem, hn, hx, hwn]
      have hpl := plus_c (numK r v p j).1 (numX r v p j) hko (okR_ok h3)
      cases h4 : okR (addV (numK r v p j).1 (numX r v p j)) with
      | false =>
        have hK : numK r v p (j + 1) = (addV (numK r v p j).1 (numX r v p j), false) := by simp only [numK, hj.2, if_true, h3, h4]
        have hF := numF_stop (r := r) (v := v) (p := p) (j := j + 1) (by omega) (by rw [hK])
        rw [hF, hK]
        rw [h4, if_neg Bool.noConfusion] at hpl
        refine callD_pan hpl (by decide) ?_
        simp +contextual only [go_sem, hn, hx, hwn]
        refine badE_skip rfl (badE_nil ?_)
        refine ⟨rfl, ?_⟩
        simp only [panS, blockQ_pan, thenQ_pan, loopQ_pan, endW_pan', List.contains_nil, Bool.false_eq_true, if_false, toD, endU_some]
      | true =>
        have hK : numK r v p (j + 1) = (addV (numK r v p j).1 (numX r v p j), true) := by simp only [numK, hj.2, if_true, h3, h4]
        rw [h4, if_pos rfl] at hpl
        refine callD_keep hpl rfl ?_
        simp +contextual only [go_sem, hn, hx, hwn]
        refine end_intro (by decide) ?_
        simp +contextual only [go_sem]
        refine nextS_intro (j + 1) ⟨by omega, by rw [hK]⟩ (by omega) (SLe.backL _ (by omega) (by omega) (numO_good _ _) (fun i h => ?_) ?_)
        · rw [hK]
          unfold numO
          by_cases e : i = 5
          · subst e; repeat (first | rfl | rw [upd_same] | rw [upd_ne _ _ _ _ (by omega)])
          · repeat (first | rfl | rw [upd_ne _ _ _ _ e])
        · repeat (first | exact backE_nil | refine backE_junk ?_ | refine backE_d rfl ?_ | refine backE_d (d_int (wrapN (by omega))) ?_ | refine backE_v rfl (by simp [V.refs] <;> omega) ?_)
  · simp at h2
    have hjn : j = p.length - (v + 1) := by omega
    obtain ⟨c, hc⟩ : ∃ c, r.c[v]? = some c := ⟨r.c[v]'(by omega), List.getElem?_eq_getElem _⟩
    have hcb := hr.c c (List.mem_of_getElem? hc)
    have hcd : r.c.getD v 0 = c := by simp [List.getD_eq_getElem?_getD, hc]
    have hko := numK_ok hr j hj.2
    have m1 := mul9 (a := (numK r v p j).1.den) (b := c) ⟨by have := hko.d; omega, hko.d.2⟩ hcb
    have w1 : IntKind.i64.wrap ((numK r v p j).1.den * c) = (numK r v p j).1.den * c := wrap64 (by omega) (by omega)
    have hne : (numK r v p j).1.den * c ≠ 0 := Int.mul_ne_zero (by have := hko.d; omega) (by rw [← hcd]; exact hc0)
    have hov := over_c (numK r v p j).1.num ((numK r v p j).1.den * c) (by have := hko.n; omega) (by omega) hne
    have hF : numF r v p = (overV (numK r v p j).1.num ((numK r v p j).1.den * c), okR (overV (numK r v p j).1.num ((numK r v p j).1.den * c))) := by
      rw [numF, ← hjn, if_pos hj.2, hcd]
    rw [hF]
    simp +contextual only [go_sem, hc, w1, D.i]
    cases h5 : okR (overV (numK r v p j).1.num ((numK r v p j).1.den * c)) with
    | true =>
      rw [h5, if_pos rfl] at hov
      refine callD_keep hov rfl ?_
      simp +contextual only [go_sem, hc, w1]
      refine end_intro (by decide) ?_
      simp +contextual only [go_sem, if_true]
    | false =>
      rw [h5, if_neg Bool.noConfusion] at hov
      refine callD_pan hov (by decide) ?_
      simp +contextual only [go_sem, hc, w1]
      refine badE_skip rfl (badE_nil ?_)
      refine ⟨rfl, ?_⟩
      simp only [panS, blockQ_pan, thenQ_pan, loopQ_pan, endW_pan', List.contains_nil, Bool.false_eq_true, if_false, toD, endU_some]
end Go.Proofs.Ytaafchgfibbmhaa
