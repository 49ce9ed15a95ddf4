/-
  A PART OF THE PROOF (put together by program): several texts, one behind the other. Conditions: none.
-/
import Derived.Test.YtaafchgfibbmhaaPk35
set_option linter.unusedSimpArgs false
set_option linter.unusedVariables false
namespace Go.Proofs.Ytaafchgfibbmhaa
abbrev Q := _root_.Rat
def evN (c : List Int) (X : Nat → Q) : Nat → Q
  | 0 => 0
  | k + 1 => evN c X k + ((c.getD k 0 : Int) : Q) * X k
structure Row.Sat (r : Row) (n : Nat) (X : Nat → Q) : Prop where
  le : evN r.c X n ≤ (r.b : Q)
  lt : r.rel = 2 → evN r.c X n < (r.b : Q)
  eq : r.rel = 3 → evN r.c X n = (r.b : Q)
theorem evN_comb {a b : Int} {x y : List Int} (h : x.length = y.length) (X : Nat → Q) : ∀ k, evN (comb a x b y) X k = (a : Q) * evN x X k + (b : Q) * evN y X k
  | 0 => by simp only [evN]; grind
  | k + 1 => by
    simp only [evN]
    rw [evN_comb h X k, comb_getD h, _root_.Rat.intCast_add, _root_.Rat.intCast_mul, _root_.Rat.intCast_mul]
    grind
def updX (X : Nat → Q) (v : Nat) (x : Q) : Nat → Q := fun j => if j = v then x else X j
theorem evN_congr {c c' : List Int} {X X' : Nat → Q} : ∀ {k : Nat}, (∀ j, j < k → c.getD j 0 = c'.getD j 0) → (∀ j, j < k → c.getD j 0 = 0 ∨ X j = X' j) → evN c X k = evN c' X' k
  | 0, _, _ => rfl
  | k + 1, h, h2 => by
    simp only [evN]
    rw [evN_congr (fun j hj => h j (by omega)) (fun j hj => h2 j (by omega)), ← h k (by omega)]
    rcases h2 k (by omega) with e | e
    · rw [e]; grind
    · rw [e]
theorem evN_upd (c : List Int) (X : Nat → Q) (v : Nat) (x : Q) : ∀ k, v < k → evN c (updX X v x) k = evN c X k + ((c.getD v 0 : Int) : Q) * (x - X v)
  | 0, h => absurd h (Nat.not_lt_zero _)
  | k + 1, h => by
    simp only [evN]
    by_cases e : k = v
    · subst e
      have : evN c (updX X k x) k = evN c X k := evN_congr (fun _ _ => rfl) (fun j hj => .inr (if_neg (by omega)))
      rw [this, show updX X k x k = x from if_pos rfl]
      grind
    · rw [evN_upd c X v x k (by omega), show updX X v x k = X k from if_neg e]
      grind
theorem evN_zero {c : List Int} {X : Nat → Q} : ∀ {k : Nat}, (∀ j, j < k → c.getD j 0 = 0) → evN c X k = 0
  | 0, _ => rfl
  | k + 1, h => by
    simp only [evN]
    rw [evN_zero (fun j hj => h j (by omega)), h k (by omega)]
    grind
theorem Row.Sat.of_eq {r r' : Row} {n : Nat} {X X' : Nat → Q} (h : r.Sat n X) (e1 : evN r'.c X' n = evN r.c X n) (e2 : r'.rel = r.rel) (e3 : r'.b = r.b) : r'.Sat n X' :=
  ⟨by rw [e1, e3]; exact h.le, fun h2 => by rw [e1, e3]; exact h.lt (e2 ▸ h2), fun h2 => by rw [e1, e3]; exact h.eq (e2 ▸ h2)⟩
theorem red_sat {m : Made} {n : Nat} {X : Nat → Q} (h : (redM m).r.Sat n X) : m.r.Sat n X := by
  unfold redM at h
  split at h
  · rename_i hg
    obtain ⟨d1, d2, d3⟩ := gcdM_dvd m
    generalize hG : ((gcdM m : Nat) : Int) = g at *
    have hgp : (0 : Q) < (g : Q) := _root_.Rat.intCast_pos.2 (by omega)
    have e1 : evN m.r.c X n = (g : Q) * evN (divs m.r.c g) X n := by
      have := evN_comb (a := g) (b := 0) (x := divs m.r.c g) (y := divs m.r.c g) rfl X n
      rw [divs_mul d2] at this
      rw [this]
      simp only [_root_.Rat.intCast_zero]
      grind
    have e2 : (m.r.b : Q) = (g : Q) * ((m.r.b.tdiv g : Int) : Q) := by
      rw [← _root_.Rat.intCast_mul, Int.mul_tdiv_cancel' d1]
    obtain ⟨h1, h2, h3⟩ := h
    refine ⟨?_, fun e => ?_, fun e => ?_⟩
    · rw [e1, e2]; exact _root_.Rat.mul_le_mul_of_nonneg_left h1 (by grind)
    · rw [e1, e2]; exact _root_.Rat.mul_lt_mul_of_pos_left (h2 e) hgp
    · rw [e1, e2]; exact congrArg _ (h3 e)
  · exact h
theorem line_sat {a b : Row} {n : Nat} {X : Nat → Q} (h : lineB a b = true) (ha : a.c.length ≤ 5) (hb : b.c.length ≤ 5) (hs : b.Sat n X) : a.Sat n X := by
  simp only [lineB, Bool.and_eq_true, beq_iff_eq, Bool.and_true] at h
  obtain ⟨⟨h0, h1, h2, h3, h4⟩, hr, hbb⟩ := h
  refine hs.of_eq (evN_congr (fun j _ => ?_) (fun _ _ => .inr rfl)) hr hbb
  rcases (by omega : j = 0 ∨ j = 1 ∨ j = 2 ∨ j = 3 ∨ j = 4 ∨ 5 ≤ j) with rfl | rfl | rfl | rfl | rfl | h5
  · exact h0
  · exact h1
  · exact h2
  · exact h3
  · exact h4
  · rw [List.getD_eq_getElem?_getD, List.getD_eq_getElem?_getD, List.getElem?_eq_none (by omega), List.getElem?_eq_none (by omega)]
theorem gone_sat {r : Row} {n : Nat} {X : Nat → Q} (h : goneF r = true) (hl : r.c.length ≤ 5) (hr : 1 ≤ r.rel ∧ r.rel ≤ 3) : r.Sat n X := by
  simp only [goneF, emptyF, Bool.and_eq_true, decide_eq_true_eq] at h
  obtain ⟨⟨h0, h1, h2, h3, h4⟩, hf⟩ := h
  have hz : evN r.c X n = 0 := evN_zero (fun j _ => by
    rcases (by omega : j = 0 ∨ j = 1 ∨ j = 2 ∨ j = 3 ∨ j = 4 ∨ 5 ≤ j) with rfl | rfl | rfl | rfl | rfl | h5
    · exact h0
    · exact h1
    · exact h2
    · exact h3
    · exact h4
    · rw [List.getD_eq_getElem?_getD, List.getElem?_eq_none (by omega)]; rfl)
  have c0 : ((0 : Int) : Q) = 0 := rfl
  have k1 : r.rel = 1 → 0 ≤ r.b := fun e => by simpa [relF, e] using hf
  have k2 : r.rel = 2 → 0 < r.b := fun e => by simpa [relF, e] using hf
  have k3 : r.rel = 3 → 0 = r.b := fun e => by simpa [relF, e] using hf
  refine ⟨?_, fun e => ?_, fun e => ?_⟩
  · rw [hz, ← c0]
    refine _root_.Rat.intCast_le_intCast.2 ?_
    rcases (by omega : r.rel = 1 ∨ r.rel = 2 ∨ r.rel = 3) with e | e | e
    · exact k1 e
    · have := k2 e; omega
    · have := k3 e; omega
  · rw [hz, ← c0]; exact _root_.Rat.intCast_lt_intCast.2 (k2 e)
  · rw [hz, ← c0]; exact _root_.Rat.intCast_inj.2 (k3 e)
theorem keepK_met (out : List Made) : ∀ k, (∀ (i : Nat) (m : Made), i < k → out[i]? = some m → isMet (keepK out k).1 m.r = true ∨ ∃ r ∈ (keepK out k).1, r = m.r) ∧ ∀ r ∈ (keepK out k).1, ∃ m ∈ out, m.r = r ∧ (goneF m.r = true ∨ m ∈ (keepK out k).2)
  | 0 => ⟨fun i m hi => absurd hi (Nat.not_lt_zero _), fun r hr => by cases hr⟩
  | k + 1 => by
    obtain ⟨h1, h2⟩ := keepK_met out k
    simp only [keepK]
    cases hk : out[k]? with
    | none =>
      simp only
      refine ⟨fun i m hi hm => ?_, h2⟩
      by_cases e : i = k
      · subst e; rw [hk] at hm; cases hm
      · exact h1 i m (by omega) hm
    | some y =>
      simp only
      have hy := List.mem_of_getElem? hk
      refine ⟨fun i m hi hm => ?_, fun r hr => ?_⟩
      · have hsub : ∀ r ∈ (keepK out k).1, r ∈ addMet (keepK out k).1 y.r := fun r hr => by
          unfold addMet; split
          · exact hr
          · exact List.mem_append.2 (.inl hr)
        by_cases e : i = k
        · subst e
          rw [hk] at hm
          injection hm with hm
          subst hm
          unfold addMet
          split
          · rename_i hmet; exact .inl hmet
          · exact .inr ⟨y.r, by simp, rfl⟩
        · rcases h1 i m (by omega) hm with h | ⟨r, hr, e⟩
          · left
            simp only [isMet, List.any_eq_true] at h ⊢
            obtain ⟨r, hr, hb⟩ := h
            exact ⟨r, hsub r hr, hb⟩
          · exact .inr ⟨r, hsub r hr, e⟩
      · have hr' : r ∈ (keepK out k).1 ∨ (r = y.r ∧ isMet (keepK out k).1 y.r = false) := by
          unfold addMet at hr
          split at hr
          · exact .inl hr
          · rename_i hmet
            rcases List.mem_append.1 hr with hr | hr
            · exact .inl hr
            · exact .inr ⟨by simpa using hr, by simpa using hmet⟩
        rcases hr' with hr | ⟨rfl, hmet⟩
        · obtain ⟨m, hm, e, hg⟩ := h2 r hr
          refine ⟨m, hm, e, hg.imp id fun h => ?_⟩
          split
          · exact List.mem_append.2 (.inl h)
          · exact h
        · refine ⟨y, hy, rfl, ?_⟩
          cases hg : goneF y.r with
          | true => exact .inl rfl
          | false =>
            right
            rw [hmet]
            simp
theorem keep_sat {out : List Made} {n : Nat} {X : Nat → Q} (ho : ∀ m ∈ out, m.r.c.length ≤ 5 ∧ 1 ≤ m.r.rel ∧ m.r.rel ≤ 3) (h : ∀ m ∈ (keepK out out.length).2, m.r.Sat n X) : ∀ m ∈ out, m.r.Sat n X := by
  intro m hm
  obtain ⟨i, hi⟩ := List.mem_iff_getElem?.1 hm
  obtain ⟨h1, h2⟩ := keepK_met out out.length
  have key : ∀ r ∈ (keepK out out.length).1, r.c.length ≤ 5 ∧ r.Sat n X := fun r hr => by
    obtain ⟨m', hm', rfl, hg⟩ := h2 r hr
    obtain ⟨l5, rl⟩ := ho m' hm'
    exact ⟨l5, hg.elim (fun hg => gone_sat hg l5 rl) (fun hk => h m' hk)⟩
  rcases h1 i m (List.getElem?_eq_some_iff.1 hi).1 hi with hmet | ⟨r, hr, e⟩
  · simp only [isMet, List.any_eq_true] at hmet
    obtain ⟨r, hr, hb⟩ := hmet
    obtain ⟨r5, rs⟩ := key r hr
    exact line_sat hb (ho m hm).1 r5 rs
  · rw [← e]; exact (key r hr).2
theorem useL_all {s : Sys} {l : List Made} {e : Made} {v at' : Nat} : ∀ {k : Nat} {out : List Made}, useL s l e v at' k = some out → ∀ (i : Nat) (x : Made), i < k → l[i]? = some x → ∃ u, useOne s e v at' i x = some u ∧ ∀ y ∈ u, y ∈ out
  | 0, out, h, i, x, hi, _ => absurd hi (Nat.not_lt_zero _)
  | k + 1, out, h, i, x, hi, hx => by
    simp only [useL] at h
    cases h1 : useL s l e v at' k with
    | none => rw [h1] at h; cases h
    | some acc =>
      rw [h1] at h
      simp only [Option.bind_some] at h
      have ih := useL_all h1
      cases hk : l[k]? with
      | none =>
        rw [hk] at h
        simp only [Option.some.injEq] at h
        subst h
        by_cases e1 : i = k
        · subst e1; rw [hk] at hx; cases hx
        · exact ih i x (by omega) hx
      | some y =>
        rw [hk] at h
        simp only at h
        cases h2 : useOne s e v at' k y with
        | none => rw [h2] at h; cases h
        | some u =>
          rw [h2] at h
          simp only [Option.map_some, Option.some.injEq] at h
          subst h
          by_cases e1 : i = k
          · subst e1
            rw [hk] at hx
            injection hx with hx
            subst hx
            exact ⟨u, h2, fun z hz => List.mem_append.2 (.inr hz)⟩
          · obtain ⟨w, hw1, hw2⟩ := ih i x (by omega) hx
            exact ⟨w, hw1, fun z hz => List.mem_append.2 (.inl (hw2 z hz))⟩
theorem innP_all {s : Sys} {v : Nat} {l : List Made} {a : Made} {acc : List Made} : ∀ {k : Nat} {out : List Made}, innP s v l a acc k = some out → (∀ y ∈ acc, y ∈ out) ∧ ∀ (j : Nat) (b : Made), j < k → l[j]? = some b → isPair v a b = true → sumM s (-b.r.c.getD v 0) a (a.r.c.getD v 0) b ∈ out
  | 0, out, h => by simp only [innP, Option.some.injEq] at h; subst h; exact ⟨fun _ h => h, fun j b hj => absurd hj (Nat.not_lt_zero _)⟩
  | k + 1, out, h => by
    simp only [innP] at h
    cases h1 : innP s v l a acc k with
    | none => rw [h1] at h; cases h
    | some ac =>
      rw [h1] at h
      simp only [Option.bind_some] at h
      obtain ⟨i1, i2⟩ := innP_all h1
      cases hk : l[k]? with
      | none =>
        rw [hk] at h
        simp only [Option.some.injEq] at h
        subst h
        refine ⟨i1, fun j b hj hb => ?_⟩
        by_cases e1 : j = k
        · subst e1; rw [hk] at hb; cases hb
        · exact i2 j b (by omega) hb
      | some y =>
        rw [hk] at h
        simp only [stepP] at h
        split at h
        · rename_i hp
          simp only [pairF] at h
          split at h
          · simp only [Option.map_some, Option.some.injEq] at h
            subst h
            refine ⟨fun z hz => List.mem_append.2 (.inl (i1 z hz)), fun j b hj hb hpb => ?_⟩
            by_cases e1 : j = k
            · subst e1
              rw [hk] at hb; injection hb with hb; subst hb
              exact List.mem_append.2 (.inr (by simp))
            · exact List.mem_append.2 (.inl (i2 j b (by omega) hb hpb))
          · cases h
        · rename_i hp
          simp only [Option.some.injEq] at h
          subst h
          refine ⟨i1, fun j b hj hb hpb => ?_⟩
          by_cases e1 : j = k
          · subst e1
            rw [hk] at hb; injection hb with hb; subst hb
            exact absurd hpb hp
          · exact i2 j b (by omega) hb hpb
theorem outP_all {s : Sys} {v : Nat} {l : List Made} {acc : List Made} : ∀ {k : Nat} {out : List Made}, outP s v l acc k = some out → (∀ y ∈ acc, y ∈ out) ∧ ∀ (i j : Nat) (a b : Made), i < k → l[i]? = some a → l[j]? = some b → isPair v a b = true → sumM s (-b.r.c.getD v 0) a (a.r.c.getD v 0) b ∈ out
  | 0, out, h => by simp only [outP, Option.some.injEq] at h; subst h; exact ⟨fun _ h => h, fun i j a b hi => absurd hi (Nat.not_lt_zero _)⟩
  | k + 1, out, h => by
    simp only [outP] at h
    cases h1 : outP s v l acc k with
    | none => rw [h1] at h; cases h
    | some ac =>
      rw [h1] at h
      simp only [Option.bind_some] at h
      obtain ⟨i1, i2⟩ := outP_all h1
      cases hk : l[k]? with
      | none =>
        rw [hk] at h
        simp only [Option.some.injEq] at h
        subst h
        refine ⟨i1, fun i j a b hi ha => ?_⟩
        by_cases e1 : i = k
        · subst e1; rw [hk] at ha; cases ha
        · exact i2 i j a b (by omega) ha
      | some y =>
        rw [hk] at h
        simp only at h
        obtain ⟨j1, j2⟩ := innP_all h
        refine ⟨fun z hz => j1 z (i1 z hz), fun i j a b hi ha hb hpb => ?_⟩
        by_cases e1 : i = k
        · subst e1
          rw [hk] at ha; injection ha with ha; subst ha
          exact j2 j b (List.getElem?_eq_some_iff.1 hb).1 hb hpb
        · exact j1 _ (i2 i j a b (by omega) ha hb hpb)
theorem kind_congr3 : ∀ (t t' : List Int) (rows : List Row) (o : Int), t.length = t'.length → (∀ (i : Nat) (x y : Int) (r : Row), t[i]? = some x → t'[i]? = some y → rows[i]? = some r → r.rel ≠ 3 → (x = 0 ↔ y = 0)) → (t.zip rows).foldl stepRel o = (t'.zip rows).foldl stepRel o
  | [], [], _, _, _, _ => rfl
  | [], _ :: _, _, _, h, _ => by simp at h
  | _ :: _, [], _, _, h, _ => by simp at h
  | _ :: _, _ :: _, [], _, _, _ => rfl
  | x :: t, y :: t', r :: rows, o, h, hxy => by
    have hs : stepRel o (x, r) = stepRel o (y, r) := by
      unfold stepRel
      by_cases h3 : r.rel = 3
      · rw [if_neg (fun h => h.2.1 h3), if_neg (fun h => h.2.1 h3)]
      · have h0 : x = 0 ↔ y = 0 := hxy 0 x y r rfl rfl rfl h3
        simp only [ne_eq, h0]
    simp only [List.zip_cons_cons, List.foldl_cons]
    rw [hs]
    exact kind_congr3 t t' rows _ (by simpa using h) (fun i a b r' ha hb hr => hxy (i + 1) a b r' ha hb hr)
theorem kind2_fold : ∀ (l : List (Int × Row)) (o : Int), l.foldl stepRel o = 2 ↔ (o = 2 ∨ ∃ x ∈ l, x.1 ≠ 0 ∧ x.2.rel = 2)
  | [], o => by simp
  | x :: l, o => by
    simp only [List.foldl_cons]
    rw [kind2_fold l (stepRel o x)]
    constructor
    · rintro (h | ⟨y, hy, h⟩)
      · unfold stepRel at h
        split at h
        · rename_i hc; exact .inr ⟨x, by simp, hc.1, h⟩
        · exact .inl h
      · exact .inr ⟨y, by simp [hy], h⟩
    · rintro (h | ⟨y, hy, h⟩)
      · exact .inl (by unfold stepRel; rw [if_neg (fun hc => hc.2.2 h)]; exact h)
      · rcases List.mem_cons.1 hy with rfl | hy
        · left
          unfold stepRel
          by_cases ho : o = 2
          · rw [if_neg (fun hc => hc.2.2 ho)]; exact ho
          · rw [if_pos ⟨h.1, by omega, ho⟩]; exact h.2
        · exact .inr ⟨y, hy, h⟩
theorem kind2 {s : Sys} {t : List Int} : kindF s t = 2 ↔ ∃ (i : Nat) (x : Int) (r : Row), t[i]? = some x ∧ s.rows[i]? = some r ∧ x ≠ 0 ∧ r.rel = 2 := by
  unfold kindF
  rw [kind2_fold]
  constructor
  · rintro (h | ⟨x, hx, h1, h2⟩)
    · omega
    · obtain ⟨i, a1, a2⟩ := zip_mem hx
      exact ⟨i, x.1, x.2, a1, a2, h1, h2⟩
  · rintro ⟨i, x, r, h1, h2, h3, h4⟩
    exact .inr ⟨(x, r), zip_at h1 h2, h3, h4⟩
theorem comb_at {a b : Int} {x y : List Int} {i : Nat} {p q : Int} (h1 : x[i]? = some p) (h2 : y[i]? = some q) : (comb a x b y)[i]? = some (a * p + b * q) := by
  simp only [comb, List.getElem?_zipWith, h1, h2]
theorem IsSum.nonneg {s : Sys} {m : Made} (h : IsSum s m) {i : Nat} {x : Int} {r : Row} (h1 : m.t[i]? = some x) (h2 : s.rows[i]? = some r) (h3 : r.rel ≠ 3) : 0 ≤ x := by
  rcases Int.lt_or_le x 0 with hlt | hle
  · exact absurd (h.pos _ (zip_at h1 h2) hlt) h3
  · exact hle
theorem kind_use {s : Sys} {m e : Made} (hm : IsSum s m) (he : IsSum s e) (h3 : e.r.rel = 3) {a b : Int} (ha : 0 < a) : kindF s (comb a m.t b e.t) = m.r.rel := by
  rw [← hm.rel]
  unfold kindF
  have hl : m.t.length = e.t.length := by rw [hm.lt, he.lt]
  refine kind_congr3 _ _ _ _ (by rw [comb_length hl]) (fun i x y r hx hy hr hn => ?_)
  have hi : i < e.t.length := by rw [← hl]; exact (List.getElem?_eq_some_iff.1 hy).1
  obtain ⟨q, hq⟩ : ∃ q, e.t[i]? = some q := ⟨e.t[i], List.getElem?_eq_getElem _⟩
  have hq0 : q = 0 := by
    by_cases h0 : q = 0
    · exact h0
    · exact absurd (kind3 (he.rel.trans h3) _ (zip_at hq hr) h0) hn
  rw [comb_at hy hq] at hx
  injection hx with hx
  subst hq0
  rw [← hx, Int.mul_zero, Int.add_zero]
  constructor
  · intro h; exact (Int.mul_eq_zero.1 h).resolve_left (by omega)
  · intro h; rw [h, Int.mul_zero]
theorem kind_pair {s : Sys} {m n : Made} (hm : IsSum s m) (hn : IsSum s n) {a b : Int} (ha : 0 < a) (hb : 0 < b) (h : m.r.rel = 2 ∨ n.r.rel = 2) : kindF s (comb a m.t b n.t) = 2 := by
  have hl : m.t.length = n.t.length := by rw [hm.lt, hn.lt]
  rw [kind2]
  have key : ∃ (i : Nat) (p q : Int) (r : Row), m.t[i]? = some p ∧ n.t[i]? = some q ∧ s.rows[i]? = some r ∧ (p ≠ 0 ∨ q ≠ 0) ∧ r.rel = 2 := by
    rcases h with h | h
    · obtain ⟨i, x, r, h1, h2, h3, h4⟩ := kind2.1 (hm.rel.trans h)
      have hi : i < n.t.length := by rw [← hl]; exact (List.getElem?_eq_some_iff.1 h1).1
      exact ⟨i, x, n.t[i], r, h1, List.getElem?_eq_getElem _, h2, .inl h3, h4⟩
    · obtain ⟨i, x, r, h1, h2, h3, h4⟩ := kind2.1 (hn.rel.trans h)
      have hi : i < m.t.length := by rw [hl]; exact (List.getElem?_eq_some_iff.1 h1).1
      exact ⟨i, m.t[i], x, r, List.getElem?_eq_getElem _, h1, h2, .inr h3, h4⟩
  obtain ⟨i, p, q, r, h1, h2, h3, h4, h5⟩ := key
  refine ⟨i, a * p + b * q, r, comb_at h1 h2, h3, ?_, h5⟩
  have p0 := hm.nonneg h1 h3 (by omega)
  have q0 := hn.nonneg h2 h3 (by omega)
  have e1 := Int.mul_nonneg (Int.le_of_lt ha) p0
  have e2 := Int.mul_nonneg (Int.le_of_lt hb) q0
  rcases h4 with h | h
  · have := Int.mul_pos ha (by omega : 0 < p); omega
  · have := Int.mul_pos hb (by omega : 0 < q); omega
theorem raw_ev {s : Sys} {m n : Made} {a b : Int} (hl : m.r.c.length = n.r.c.length) (X : Nat → Q) (k : Nat) : evN (rawSum s a m b n).r.c X k - ((rawSum s a m b n).r.b : Q) = (a : Q) * (evN m.r.c X k - (m.r.b : Q)) + (b : Q) * (evN n.r.c X k - (n.r.b : Q)) := by
  show evN (comb a m.r.c b n.r.c) X k - ((a * m.r.b + b * n.r.b : Int) : Q) = _
  rw [evN_comb hl, _root_.Rat.intCast_add, _root_.Rat.intCast_mul, _root_.Rat.intCast_mul]
  grind
theorem use_sat {s : Sys} {m e : Made} (hm : IsSum s m) (he : IsSum s e) (hl : m.r.c.length = e.r.c.length) (h3 : e.r.rel = 3) {a b : Int} (ha : 0 < a) {n : Nat} {X : Nat → Q} (hs : (sumM s a m b e).r.Sat n X) (hes : e.r.Sat n X) : m.r.Sat n X := by
  have hr := red_sat hs
  have hev := raw_ev (s := s) (a := a) (b := b) hl X n
  have hk : (rawSum s a m b e).r.rel = m.r.rel := kind_use hm he h3 ha
  have hap : (0 : Q) < (a : Q) := _root_.Rat.intCast_pos.2 ha
  have he0 := hes.eq h3
  have hz : (b : Q) * (evN e.r.c X n - (e.r.b : Q)) = 0 := by rw [he0]; grind
  rw [hz] at hev
  obtain ⟨h1, h2, h4⟩ := hr
  rw [hk] at h2 h4
  generalize evN (rawSum s a m b e).r.c X n = u at *
  generalize ((rawSum s a m b e).r.b : Q) = w at *
  refine ⟨?_, fun h => ?_, fun h => ?_⟩
  · have : (a : Q) * (evN m.r.c X n) ≤ (a : Q) * (m.r.b : Q) := by grind
    exact _root_.Rat.le_of_mul_le_mul_left this hap
  · have h2 := h2 h
    have : (a : Q) * (evN m.r.c X n) < (a : Q) * (m.r.b : Q) := by grind
    exact _root_.Rat.lt_of_mul_lt_mul_left this (by grind)
  · have h4 := h4 h
    have : (a : Q) * (evN m.r.c X n) = (a : Q) * (m.r.b : Q) := by grind
    have k1 := _root_.Rat.le_of_mul_le_mul_left (a := evN m.r.c X n) (b := (m.r.b : Q)) (by grind) hap
    have k2 := _root_.Rat.le_of_mul_le_mul_left (a := (m.r.b : Q)) (b := evN m.r.c X n) (by grind) hap
    grind
end Go.Proofs.Ytaafchgfibbmhaa
namespace Go.Proofs.Ytaafchgfibbmhaa
theorem back_raw {s : Sys} (hc : checkF s = true) {k : Nat} {l l' : List Made} (hl : curE s k = some l) (he : elimE s k l = some l') {n : Nat} {X : Nat → Q} (hX : ∀ m ∈ l', m.r.Sat n X) : ∃ out, rawE s k l = some out ∧ ∀ m ∈ out, m.r.Sat n X := by
  obtain ⟨v1, v5, r10, hall⟩ := check_rows hc
  have hsum := curE_sum hc hl
  unfold elimE at he
  cases hr : rawE s k l with
  | none => rw [hr] at he; cases he
  | some out =>
    rw [hr] at he
    simp only [Option.bind_some] at he
    split at he
    · cases he
    · simp only [Option.some.injEq] at he
      subst he
      refine ⟨out, rfl, keep_sat (fun m hm => ?_) hX⟩
      have hs := rawE_ind (Q := IsSum s) (fun m hm _ => hsum m hm) (fun m hm n hn a b _ ha hb => (hsum m hm).sum (hsum n hn) ha hb) hr m hm
      have hok := rawE_ok (curE_ok hc hl).1 hr m hm
      exact ⟨by have := hok.lc; omega, hs.range hc⟩
theorem back_eq {s : Sys} (hc : checkF s = true) {k : Nat} {l l' : List Made} (hl : curE s k = some l) (he : elimE s k l = some l') {n : Nat} {X : Nat → Q} (hX : ∀ m ∈ l', m.r.Sat n X) {at' : Nat} {e : Made} (hat : l.findIdx? (usesF k) = some at') (hate : l[at']? = some e) (hes : e.r.Sat n X) : ∀ m ∈ l, m.r.Sat n X := by
  obtain ⟨out, hr, hout⟩ := back_raw hc hl he hX
  simp only [rawE, hat, hate] at hr
  have hsum := curE_sum hc hl
  have hok := (curE_ok hc hl).1
  have hem := List.mem_of_getElem? hate
  have hue : usesF k e = true := by
    have := List.findIdx?_eq_some_iff_getElem.1 hat
    obtain ⟨h1, h2, h3⟩ := this
    have : l[at'] = e := by rw [List.getElem?_eq_getElem h1] at hate; injection hate
    rw [← this]; exact h2
  simp only [usesF, Bool.and_eq_true, decide_eq_true_eq] at hue
  obtain ⟨he3, hce⟩ := hue
  intro m hm
  obtain ⟨i, hi⟩ := List.mem_iff_getElem?.1 hm
  obtain ⟨u, hu, hsub⟩ := useL_all hr i m (List.getElem?_eq_some_iff.1 hi).1 hi
  have hlen : m.r.c.length = e.r.c.length := by rw [(hok m hm).lc, (hok e hem).lc]
  simp only [useOne] at hu
  split at hu
  · rename_i h
    subst h
    rw [hate] at hi
    injection hi with hi
    rw [← hi]; exact hes
  · split at hu
    · simp only [Option.some.injEq] at hu
      subst hu
      exact hout m (hsub m (by simp))
    · have key : ∀ X : Nat → Q, e.r.Sat n X → (if 0 < e.r.c.getD k 0 then sumM s (e.r.c.getD k 0) m (-(m.r.c.getD k 0)) e else sumM s (-(e.r.c.getD k 0)) m (m.r.c.getD k 0) e).r.Sat n X → m.r.Sat n X := fun X hes hx => by
        split at hx
        · rename_i hp; exact use_sat (hsum m hm) (hsum e hem) hlen he3 hp hx hes
        · rename_i hp; exact use_sat (hsum m hm) (hsum e hem) hlen he3 (by omega) hx hes
      generalize (if 0 < e.r.c.getD k 0 then sumM s (e.r.c.getD k 0) m (-(m.r.c.getD k 0)) e else sumM s (-(e.r.c.getD k 0)) m (m.r.c.getD k 0) e) = y at hu key
      split at hu
      · simp only [Option.some.injEq] at hu
        subst hu
        exact key X hes (hout y (hsub y (by simp)))
      · cases hu
abbrev Made.ev (m : Made) (n : Nat) (X : Nat → Q) : Q := evN m.r.c X n - (m.r.b : Q)
theorem back_pair {s : Sys} (hc : checkF s = true) {k : Nat} {l l' : List Made} (hl : curE s k = some l) (he : elimE s k l = some l') {n : Nat} {X : Nat → Q} (hX : ∀ m ∈ l', m.r.Sat n X) (hno : l.findIdx? (usesF k) = none) :
    (∀ m ∈ l, m.co k = 0 → m.r.Sat n X) ∧ ∀ a ∈ l, ∀ b ∈ l, 0 < a.co k → b.co k < 0 → ((-(b.co k) : Int) : Q) * a.ev n X + ((a.co k : Int) : Q) * b.ev n X ≤ 0 ∧ (a.r.rel = 2 ∨ b.r.rel = 2 → ((-(b.co k) : Int) : Q) * a.ev n X + ((a.co k : Int) : Q) * b.ev n X < 0) := by
  obtain ⟨out, hr, hout⟩ := back_raw hc hl he hX
  simp only [rawE, hno] at hr
  have hsum := curE_sum hc hl
  have hok := (curE_ok hc hl).1
  obtain ⟨h1, h2⟩ := outP_all hr
  refine ⟨fun m hm h0 => hout m (h1 m ?_), fun a ha b hb hpa hnb => ?_⟩
  · simp only [zeroL, List.mem_filter, beq_iff_eq]
    exact ⟨hm, h0⟩
  · obtain ⟨i, hi⟩ := List.mem_iff_getElem?.1 ha
    obtain ⟨j, hj⟩ := List.mem_iff_getElem?.1 hb
    have hs := red_sat (hout _ (h2 i j a b (List.getElem?_eq_some_iff.1 hi).1 hi hj (by simp only [isPair, Bool.and_eq_true, decide_eq_true_eq]; exact ⟨hpa, hnb⟩)))
    have hev := raw_ev (s := s) (m := a) (n := b) (a := -(b.co k)) (b := a.co k) (by rw [(hok a ha).lc, (hok b hb).lc]) X n
    obtain ⟨g1, g2, g3⟩ := hs
    refine ⟨?_, fun h => ?_⟩
    · grind
    · have := g2 (kind_pair (a := -(b.co k)) (b := a.co k) (hsum a ha) (hsum b hb) (by omega) hpa h)
      grind
def Made.bd (m : Made) (n k : Nat) (X : Nat → Q) : Q := X k - m.ev n X / ((m.co k : Int) : Q)
theorem ev_upd {m : Made} {n k : Nat} {X : Nat → Q} (hk : k < n) (h0 : m.co k ≠ 0) (x : Q) : m.ev n (updX X k x) = ((m.co k : Int) : Q) * (x - m.bd n k X) := by
  have hq : ((m.co k : Int) : Q) ≠ 0 := fun h => h0 (_root_.Rat.intCast_eq_zero_iff.1 h)
  have h := evN_upd m.r.c X k x n hk
  have hd : m.ev n X / ((m.co k : Int) : Q) * ((m.co k : Int) : Q) = m.ev n X := _root_.Rat.div_mul_cancel hq
  unfold Made.bd
  simp only [Made.ev, Made.co] at *
  rw [h]
  grind
def Above (q x : Q) (rel : Int) : Prop := q ≤ x ∧ (rel = 2 → q < x)
theorem bd_hi {m : Made} {n k : Nat} {X : Nat → Q} {x : Q} (hk : k < n) (h : 0 < m.co k) (h3 : m.r.rel ≠ 3) (hx : Above x (m.bd n k X) m.r.rel) : m.r.Sat n (updX X k x) := by
  have he := ev_upd (m := m) (X := X) hk (by omega) x
  have hp : (0 : Q) < ((m.co k : Int) : Q) := _root_.Rat.intCast_pos.2 h
  simp only [Made.ev] at he
  refine ⟨?_, fun e => ?_, fun e => absurd e h3⟩
  · have := _root_.Rat.mul_le_mul_of_nonneg_left (a := x - m.bd n k X) (b := 0) (c := ((m.co k : Int) : Q)) (by have := hx.1; grind) (by grind)
    grind
  · have := _root_.Rat.mul_lt_mul_of_pos_left (a := x - m.bd n k X) (b := 0) (c := ((m.co k : Int) : Q)) (by have := hx.2 e; grind) hp
    grind
theorem bd_lo {m : Made} {n k : Nat} {X : Nat → Q} {x : Q} (hk : k < n) (h : m.co k < 0) (h3 : m.r.rel ≠ 3) (hx : Above (m.bd n k X) x m.r.rel) : m.r.Sat n (updX X k x) := by
  have he := ev_upd (m := m) (X := X) hk (by omega) x
  have hp : (0 : Q) < ((-(m.co k) : Int) : Q) := _root_.Rat.intCast_pos.2 (by omega)
  have hc : ((-(m.co k) : Int) : Q) = -((m.co k : Int) : Q) := _root_.Rat.intCast_neg _
  simp only [Made.ev] at he
  refine ⟨?_, fun e => ?_, fun e => absurd e h3⟩
  · have := _root_.Rat.mul_le_mul_of_nonneg_left (a := m.bd n k X - x) (b := 0) (c := ((-(m.co k) : Int) : Q)) (by have := hx.1; grind) (by grind)
    grind
  · have := _root_.Rat.mul_lt_mul_of_pos_left (a := m.bd n k X - x) (b := 0) (c := ((-(m.co k) : Int) : Q)) (by have := hx.2 e; grind) hp
    grind
theorem bd_pair {a b : Made} {n k : Nat} {X : Nat → Q} (ha : 0 < a.co k) (hb : b.co k < 0) (h : ((-(b.co k) : Int) : Q) * a.ev n X + ((a.co k : Int) : Q) * b.ev n X ≤ 0 ∧ (a.r.rel = 2 ∨ b.r.rel = 2 → ((-(b.co k) : Int) : Q) * a.ev n X + ((a.co k : Int) : Q) * b.ev n X < 0)) :
    b.bd n k X ≤ a.bd n k X ∧ (a.r.rel = 2 ∨ b.r.rel = 2 → b.bd n k X < a.bd n k X) := by
  have hpa : (0 : Q) < ((a.co k : Int) : Q) := _root_.Rat.intCast_pos.2 ha
  have hpb : (0 : Q) < ((-(b.co k) : Int) : Q) := _root_.Rat.intCast_pos.2 (by omega)
  have hcb : ((-(b.co k) : Int) : Q) = -((b.co k : Int) : Q) := _root_.Rat.intCast_neg _
  have e1 : a.ev n X = ((a.co k : Int) : Q) * (X k - a.bd n k X) := by
    have hd : a.ev n X / ((a.co k : Int) : Q) * ((a.co k : Int) : Q) = a.ev n X := _root_.Rat.div_mul_cancel (by grind)
    unfold Made.bd; grind
  have e2 : b.ev n X = -(((-(b.co k) : Int) : Q) * (X k - b.bd n k X)) := by
    have hd : b.ev n X / ((b.co k : Int) : Q) * ((b.co k : Int) : Q) = b.ev n X := _root_.Rat.div_mul_cancel (by grind)
    rw [hcb]
    unfold Made.bd; grind
  rw [e1, e2] at h
  generalize ((a.co k : Int) : Q) = A at *
  generalize ((-(b.co k) : Int) : Q) = B at *
  have hAB := _root_.Rat.mul_pos hpa hpb
  refine ⟨?_, fun hr => ?_⟩
  · have : (A * B) * b.bd n k X ≤ (A * B) * a.bd n k X := by grind
    exact _root_.Rat.le_of_mul_le_mul_left this hAB
  · have h2 := h.2 hr
    have : (A * B) * b.bd n k X < (A * B) * a.bd n k X := by grind
    exact _root_.Rat.lt_of_mul_lt_mul_left this (by grind)
theorem between_exists (L H : List (Q × Int)) (h : ∀ a ∈ H, ∀ b ∈ L, b.1 ≤ a.1 ∧ (a.2 = 2 ∨ b.2 = 2 → b.1 < a.1)) : ∃ x, (∀ b ∈ L, Above b.1 x b.2) ∧ ∀ a ∈ H, Above x a.1 a.2 := by
  have tight : ∀ (L : List (Q × Int)), L = [] ∨ ∃ b ∈ L, ∀ c ∈ L, c.1 ≤ b.1 := by
    intro L
    induction L with
    | nil => exact .inl rfl
    | cons y L ih =>
      right
      rcases ih with rfl | ⟨b, hb, hm⟩
      · exact ⟨y, by simp, fun c hc => by simp at hc; subst hc; grind⟩
      · by_cases hyb : y.1 ≤ b.1
        · exact ⟨b, by simp [hb], fun c hc => by
            rcases List.mem_cons.1 hc with rfl | hc
            · exact hyb
            · exact hm c hc⟩
        · exact ⟨y, by simp, fun c hc => by
            rcases List.mem_cons.1 hc with rfl | hc
            · grind
            · have := hm c hc; grind⟩
  have tight2 : ∀ (L : List (Q × Int)), L = [] ∨ ∃ b ∈ L, ∀ c ∈ L, b.1 ≤ c.1 := by
    intro L
    induction L with
    | nil => exact .inl rfl
    | cons y L ih =>
      right
      rcases ih with rfl | ⟨b, hb, hm⟩
      · exact ⟨y, by simp, fun c hc => by simp at hc; subst hc; grind⟩
      · by_cases hyb : b.1 ≤ y.1
        · exact ⟨b, by simp [hb], fun c hc => by
            rcases List.mem_cons.1 hc with rfl | hc
            · exact hyb
            · exact hm c hc⟩
        · exact ⟨y, by simp, fun c hc => by
            rcases List.mem_cons.1 hc with rfl | hc
            · grind
            · have := hm c hc; grind⟩
  rcases tight L with rfl | ⟨b, hb, hbm⟩
  · rcases tight2 H with rfl | ⟨a, ha, ham⟩
    · exact ⟨0, fun b hb => by simp at hb, fun a ha => by simp at ha⟩
    · exact ⟨a.1 - 1, fun b hb => by simp at hb, fun c hc => by have := ham c hc; exact ⟨by grind, fun _ => by grind⟩⟩
  · rcases tight2 H with rfl | ⟨a, ha, ham⟩
    · exact ⟨b.1 + 1, fun c hc => by have := hbm c hc; exact ⟨by grind, fun _ => by grind⟩, fun a ha => by simp at ha⟩
    · refine ⟨(b.1 + a.1) / 2, fun c hc => ?_, fun c hc => ?_⟩
      · have h1 := hbm c hc
        have h2 := h a ha b hb
        have h3 := h a ha c hc
        exact ⟨by grind, fun e => by have := h3.2 (.inr e); grind⟩
      · have h1 := ham c hc
        have h2 := h a ha b hb
        have h3 := h c hc b hb
        exact ⟨by grind, fun e => by have := h3.2 (.inl e); grind⟩
theorem sat_upd {r : Row} {n k : Nat} {X : Nat → Q} {x : Q} (h : r.Sat n X) (h0 : r.c.getD k 0 = 0) : r.Sat n (updX X k x) :=
  h.of_eq (evN_congr (fun _ _ => rfl) (fun j _ => by
    by_cases e : j = k
    · subst e; exact .inl h0
    · exact .inr (if_neg e))) rfl rfl
theorem eq_sat {e : Made} {n k : Nat} {X : Nat → Q} (hk : k < n) (h0 : e.co k ≠ 0) (h3 : e.r.rel = 3) : e.r.Sat n (updX X k (e.bd n k X)) := by
  have he := ev_upd (X := X) hk h0 (e.bd n k X)
  simp only [Made.ev] at he
  exact ⟨by grind, fun h => by omega, fun _ => by grind⟩
theorem stage_back {s : Sys} (hc : checkF s = true) {k : Nat} {l l' : List Made} (hl : curE s k = some l) (he : elimE s k l = some l') {n : Nat} (hk : k < n) {X : Nat → Q} (hX : ∀ m ∈ l', m.r.Sat n X) : ∃ x, ∀ m ∈ l, m.r.Sat n (updX X k x) := by
  have hz : ∀ m ∈ l', m.co k = 0 := fun m hm => curE_zero hc (k := k + 1) (by simp only [curE, hl, Option.bind_some]; exact he) m hm k (by omega)
  have hX' : ∀ x, ∀ m ∈ l', m.r.Sat n (updX X k x) := fun x m hm => sat_upd (hX m hm) (hz m hm)
  cases hf : l.findIdx? (usesF k) with
  | some at' =>
    obtain ⟨h1, h2, _⟩ := List.findIdx?_eq_some_iff_getElem.1 hf
    have hate : l[at']? = some l[at'] := List.getElem?_eq_getElem h1
    have hue := h2
    simp only [usesF, Bool.and_eq_true, decide_eq_true_eq] at hue
    exact ⟨(l[at']).bd n k X, back_eq hc hl he (hX' _) hf hate (eq_sat hk hue.2 hue.1)⟩
  | none =>
    obtain ⟨p1, p2⟩ := back_pair hc hl he hX hf
    have h3 : ∀ m ∈ l, m.co k ≠ 0 → m.r.rel ≠ 3 := fun m hm h0 h => by
      have := List.findIdx?_eq_none_iff.1 hf m hm
      simp only [usesF, h, decide_true, Bool.true_and, decide_eq_false_iff_not] at this
      exact this h0
    have hcr : ∀ a ∈ (l.filter (fun m => decide (0 < m.co k))).map (fun m => (m.bd n k X, m.r.rel)), ∀ b ∈ (l.filter (fun m => decide (m.co k < 0))).map (fun m => (m.bd n k X, m.r.rel)), b.1 ≤ a.1 ∧ (a.2 = 2 ∨ b.2 = 2 → b.1 < a.1) := by
      intro a ha b hb
      obtain ⟨a', ha', e1⟩ := List.mem_map.1 ha
      obtain ⟨b', hb', e2⟩ := List.mem_map.1 hb
      rw [List.mem_filter, decide_eq_true_eq] at ha' hb'
      subst e1 e2
      exact bd_pair ha'.2 hb'.2 (p2 a' ha'.1 b' hb'.1 ha'.2 hb'.2)
    obtain ⟨x, x1, x2⟩ := between_exists _ _ hcr
    refine ⟨x, fun m hm => ?_⟩
    rcases Int.lt_trichotomy (m.co k) 0 with h | h | h
    · exact bd_lo hk h (h3 m hm (by omega)) (x1 _ (List.mem_map.2 ⟨m, by simp only [List.mem_filter, decide_eq_true_eq]; exact ⟨hm, h⟩, rfl⟩))
    · exact sat_upd (p1 m hm h) h
    · exact bd_hi hk h (h3 m hm (by omega)) (x2 _ (List.mem_map.2 ⟨m, by simp only [List.mem_filter, decide_eq_true_eq]; exact ⟨hm, h⟩, rfl⟩))
theorem begin_back {s : Sys} (hc : checkF s = true) {n : Nat} {X : Nat → Q} : ∀ k, (∀ m ∈ beginL s k, m.r.Sat n X) → ∀ (i : Nat) (r : Row), i < k → s.rows[i]? = some r → r.Sat n X
  | 0, _, i, r, hi, _ => absurd hi (Nat.not_lt_zero _)
  | k + 1, h, i, r, hi, hr => by
    obtain ⟨v1, v5, r10, hall⟩ := check_rows hc
    by_cases e : i = k
    · subst e
      have hrl := hall r (List.mem_of_getElem? hr)
      cases hg : goneF r with
      | true => exact gone_sat hg (by omega) hrl.2.2.2
      | false =>
        have := h (redM (firstM s i r)) (by simp only [beginL, hr, hg, Bool.false_eq_true, if_false]; simp)
        exact red_sat (m := firstM s i r) this
    · exact begin_back hc k (fun m hm => h m (by simp only [beginL]; exact List.mem_append.2 (.inl hm))) i r (by omega) hr
theorem rows_sat {s : Sys} (hc : checkF s = true) {n : Nat} {X : Nat → Q} (h : ∀ m ∈ beginL s s.rows.length, m.r.Sat n X) : ∀ r ∈ s.rows, r.Sat n X := fun r hr => by
  obtain ⟨i, hi⟩ := List.mem_iff_getElem?.1 hr
  exact begin_back hc _ h i r (List.getElem?_eq_some_iff.1 hi).1 hi
theorem solution_exists {s : Sys} (hc : checkF s = true) {n : Nat} : ∀ {k : Nat} {l : List Made}, curE s k = some l → k ≤ n → ∀ X : Nat → Q, (∀ m ∈ l, m.r.Sat n X) → ∃ Y : Nat → Q, ∀ r ∈ s.rows, r.Sat n Y
  | 0, l, hl, _, X, hX => by
    simp only [curE, Option.some.injEq] at hl
    subst hl
    exact ⟨X, rows_sat hc hX⟩
  | k + 1, l', hl, hk, X, hX => by
    simp only [curE] at hl
    cases h0 : curE s k with
    | none => rw [h0] at hl; cases hl
    | some l =>
      rw [h0] at hl
      simp only [Option.bind_some] at hl
      obtain ⟨x, hx⟩ := stage_back hc h0 hl (by omega) hX
      exact solution_exists hc h0 (by omega) _ hx
theorem ex_int (X : Nat → Q) : ∀ n, ∃ (A : List Int) (D : Int), 0 < D ∧ A.length = n ∧ ∀ j, j < n → ((A.getD j 0 : Int) : Q) = X j * (D : Q)
  | 0 => ⟨[], 1, by omega, rfl, fun j hj => absurd hj (Nat.not_lt_zero _)⟩
  | n + 1 => by
    obtain ⟨A, D, h1, h2, h3⟩ := ex_int X n
    have hd : X n * (((X n).den : Int) : Q) = ((X n).num : Q) := by
      have e : ((X n).num : Q) / (((X n).den : Int) : Q) = X n := by rw [← _root_.Rat.divInt_eq_div]; exact _root_.Rat.num_divInt_den _
      have h0 : (((X n).den : Int) : Q) ≠ 0 := fun h => by have := _root_.Rat.intCast_eq_zero_iff.1 h; have := (X n).den_pos; omega
      have := _root_.Rat.div_mul_cancel (a := ((X n).num : Q)) h0
      rw [e] at this
      exact this
    refine ⟨A.map (fun a => a * ((X n).den : Int)) ++ [(X n).num * D], D * ((X n).den : Int), Int.mul_pos h1 (by have := (X n).den_pos; omega), by simp [h2], fun j hj => ?_⟩
    by_cases e : j = n
    · subst e
      rw [List.getD_eq_getElem?_getD, List.getElem?_append_right (by simp [h2])]
      simp [h2]
      grind
    · have hjn : j < n := by omega
      have := h3 j hjn
      rw [List.getD_eq_getElem?_getD] at this ⊢
      rw [List.getElem?_append_left (by simp; omega), List.getElem?_map]
      cases hx : A[j]? with
      | none => rw [List.getElem?_eq_none_iff] at hx; omega
      | some a =>
        rw [hx] at this
        simp at this ⊢
        rw [this]; grind
theorem dot_ev {c A : List Int} {X : Nat → Q} {D : Int} : ∀ {k : Nat}, (∀ j, j < k → ((A.getD j 0 : Int) : Q) = X j * (D : Q)) → ((dot (c.take k) A : Int) : Q) = evN c X k * (D : Q)
  | 0, _ => by simp [dot, evN]
  | k + 1, h => by
    rw [dot_take, _root_.Rat.intCast_add, _root_.Rat.intCast_mul, dot_ev (fun j hj => h j (by omega)), h k (by omega)]
    simp only [evN]
    grind
theorem sat_at {r : Row} {A : List Int} {X : Nat → Q} {D : Int} {n : Nat} (hD : 0 < D) (hn : r.c.length = n) (hr : 1 ≤ r.rel ∧ r.rel ≤ 3) (h : ∀ j, j < n → ((A.getD j 0 : Int) : Q) = X j * (D : Q)) : r.Sat n X ↔ r.At A D := by
  have e := dot_ev (c := r.c) h
  rw [List.take_of_length_le (by omega)] at e
  have hDq : (0 : Q) < (D : Q) := _root_.Rat.intCast_pos.2 hD
  have eb : ((r.b * D : Int) : Q) = (r.b : Q) * (D : Q) := _root_.Rat.intCast_mul _ _
  unfold Row.At
  rw [← _root_.Rat.intCast_inj (a := dot r.c A), ← _root_.Rat.intCast_lt_intCast (a := dot r.c A), ← _root_.Rat.intCast_le_intCast (a := dot r.c A), e, eb]
  constructor
  · rintro ⟨h1, h2, h3⟩
    exact ⟨fun h => by rw [h3 h], fun h => _root_.Rat.mul_lt_mul_of_pos_right (h2 h) hDq, fun h => _root_.Rat.mul_le_mul_of_nonneg_right h1 (by grind)⟩
  · rintro ⟨h3, h2, h1⟩
    have k2 : r.rel = 2 → evN r.c X n < (r.b : Q) := fun h => _root_.Rat.lt_of_mul_lt_mul_right (h2 h) (by grind)
    have k3 : r.rel = 3 → evN r.c X n = (r.b : Q) := fun h => by
      have a1 := _root_.Rat.le_of_mul_le_mul_right (a := evN r.c X n) (b := (r.b : Q)) (by have := h3 h; grind) hDq
      have a2 := _root_.Rat.le_of_mul_le_mul_right (a := (r.b : Q)) (b := evN r.c X n) (by have := h3 h; grind) hDq
      grind
    refine ⟨?_, k2, k3⟩
    rcases (by omega : r.rel = 1 ∨ r.rel = 2 ∨ r.rel = 3) with h | h | h
    · exact _root_.Rat.le_of_mul_le_mul_right (h1 h) hDq
    · have := k2 h; grind
    · have := k3 h; grind
theorem last_empty {s : Sys} (hc : checkF s = true) (h : curE s s.vars.toNat = some []) : ∃ (A : List Int) (D : Int), 0 < D ∧ ∀ r ∈ s.rows, r.At A D := by
  obtain ⟨v1, v5, r10, hall⟩ := check_rows hc
  obtain ⟨Y, hY⟩ := solution_exists hc h (Nat.le_refl _) (fun _ => 0) (fun m hm => by simp at hm)
  obtain ⟨A, D, h1, h2, h3⟩ := ex_int Y s.vars.toNat
  exact ⟨A, D, h1, fun r hr => (sat_at h1 (by have := (hall r hr).1; omega) (hall r hr).2.2.2 h3).1 (hY r hr)⟩
end Go.Proofs.Ytaafchgfibbmhaa
namespace Go.Proofs.Ytaafchgfibbmhaa
theorem dot_negL : ∀ (c A : List Int), dot (c.map (fun n => -n)) A = -dot c A
  | [], A => by simp [dot]
  | _ :: _, [] => by simp [dot]
  | p :: c, a :: A => by
    simp only [List.map_cons, dot]
    rw [dot_negL c A, Int.neg_mul]
    omega
theorem refute0 {s : Sys} (hc : checkF s = true) (h : (refuteF s).2 = 0) : ∀ A D, 0 < D → ¬ ∀ r ∈ s.rows, r.At A D := by
  unfold refuteF at h
  split at h
  · simp at h
  · simp at h
  · rename_i m l hcur
    exact (last_sound hc hcur [] m (by simp)).2
theorem refute5 {s : Sys} (hc : checkF s = true) (h : (refuteF s).2 = 5) : ∃ (A : List Int) (D : Int), 0 < D ∧ ∀ r ∈ s.rows, r.At A D := by
  unfold refuteF at h
  split at h
  · simp at h
  · rename_i hcur
    exact last_empty hc hcur
  · simp at h
theorem con_hi {r : Row} {A : List Int} {D : Int} (k : Int) (hk : k = 1 ∨ k = 2) : (conRow r true k).At A D ↔ if k = 1 then r.b * D ≤ dot r.c A else r.b * D < dot r.c A := by
  unfold Row.At conRow
  simp only [if_true]
  rw [dot_negL, Int.neg_mul]
  rcases hk with rfl | rfl
  · simp
  · simp
theorem con_lo {r : Row} {A : List Int} {D : Int} : (conRow r false 2).At A D ↔ dot r.c A < r.b * D := by
  unfold Row.At conRow
  simp
theorem formed_range {r : Row} {v most : Int} (h : formedF r v most = true) : (r.c.length : Int) = v ∧ (1 ≤ r.rel ∧ r.rel ≤ 3) ∧ (∀ n ∈ r.c, -most ≤ n ∧ n ≤ most) ∧ -most ≤ r.b ∧ r.b ≤ most := by
  simp [formedF, inB, allF] at h
  exact ⟨h.1.1.1, h.1.1.2, h.1.2, h.2⟩
theorem imp_sound {s : Sys} {r : Row} (hc : checkF s = true) (hl : s.rows.length < 10) (hf : formedF r s.vars 1000 = true) (h : (impliesF s r).1 = true) : ∀ A D, 0 < D → (∀ x ∈ s.rows, x.At A D) → r.At A D := by
  intro A D hD hA
  have hrl := (formed_range hf).2.1
  unfold impliesF at h
  split at h
  · simp at h
  simp only [decide_eq_true_eq] at h
  obtain ⟨h1, h2⟩ := h
  have n1 := refute0 (con_check hc hl hf true (by split <;> omega)) h1 A D hD
  have c1 : ¬ (conRow r true (if r.rel = 2 then 1 else 2)).At A D := fun hcon => n1 (fun x hx => by
    rcases List.mem_append.1 (show x ∈ s.rows ++ [conRow r true (if r.rel = 2 then 1 else 2)] from hx) with hx | hx
    · exact hA x hx
    · simp only [List.mem_singleton] at hx; subst hx; exact hcon)
  have c2 : r.rel = 3 → ¬ (conRow r false 2).At A D := fun h3 hcon => by
    unfold impB at h2
    rw [if_pos h3] at h2
    exact refute0 (con_check hc hl hf false (by omega)) h2 A D hD (fun x hx => by
      rcases List.mem_append.1 (show x ∈ s.rows ++ [conRow r false 2] from hx) with hx | hx
      · exact hA x hx
      · simp only [List.mem_singleton] at hx; subst hx; exact hcon)
  rw [con_hi _ (by split <;> simp)] at c1
  rw [con_lo] at c2
  rcases (by omega : r.rel = 1 ∨ r.rel = 2 ∨ r.rel = 3) with e | e | e
  · simp [e] at c1
    exact ⟨fun h => by omega, fun h => by omega, fun _ => by omega⟩
  · simp [e] at c1
    exact ⟨fun h => by omega, fun h => by omega, fun h => by omega⟩
  · simp [e] at c1
    have := c2 e
    exact ⟨fun h => by omega, fun h => by omega, fun h => by omega⟩
theorem imp_complete {s : Sys} {r : Row} (hc : checkF s = true) (hl : s.rows.length < 10) (hf : formedF r s.vars 1000 = true) (h0 : (impliesF s r).2 = 0) (h : ∀ A D, 0 < D → (∀ x ∈ s.rows, x.At A D) → r.At A D) : (impliesF s r).1 = true := by
  have hrl := (formed_range hf).2.1
  unfold impliesF at h0 ⊢
  split at h0
  · simp at h0
  rename_i h3
  rw [if_neg h3]
  simp only [decide_eq_true_eq]
  refine ⟨?_, ?_⟩
  · rcases refuteF_cases (conS s r true (if r.rel = 2 then 1 else 2)) with e | e | e
    · exact absurd (.inl e) h3
    · exfalso
      obtain ⟨A, D, hD, hA⟩ := refute5 (con_check hc hl hf true (by split <;> omega)) e
      have hcon := hA (conRow r true (if r.rel = 2 then 1 else 2)) (List.mem_append.2 (.inr (by simp)))
      have hr := h A D hD (fun x hx => hA x (List.mem_append.2 (.inl hx)))
      rw [con_hi _ (by split <;> simp)] at hcon
      obtain ⟨r3, r2, r1⟩ := hr
      rcases (by omega : r.rel = 1 ∨ r.rel = 2 ∨ r.rel = 3) with e | e | e
      · simp [e] at hcon; have := r1 e; omega
      · simp [e] at hcon; have := r2 e; omega
      · simp [e] at hcon; have := r3 e; omega
    · exact e
  · unfold impB
    split
    · rename_i e3
      rcases refuteF_cases (conS s r false 2) with e | e | e
      · exact absurd (.inr (by unfold impB; rw [if_pos e3]; exact e)) h3
      · exfalso
        obtain ⟨A, D, hD, hA⟩ := refute5 (con_check hc hl hf false (by omega)) e
        have hcon := hA (conRow r false 2) (List.mem_append.2 (.inr (by simp)))
        have hr := h A D hD (fun x hx => hA x (List.mem_append.2 (.inl hx)))
        rw [con_lo] at hcon
        have := hr.1 e3
        omega
      · exact e
    · rfl
theorem imp_cases (s : Sys) (r : Row) : ((impliesF s r).1 = false ∧ (impliesF s r).2 = 3) ∨ (impliesF s r).2 = 0 := by
  unfold impliesF
  split
  · exact .inl ⟨rfl, rfl⟩
  · exact .inr rfl
theorem at_weaker {r : Row} {A : List Int} {D : Int} (hD : 0 < D) (h3 : r.rel ≠ 3) (h : r.At A D) : Row.At ⟨r.c, r.rel, r.b + 1⟩ A D := by
  obtain ⟨_, h2, h1⟩ := h
  have e : (r.b + 1) * D = r.b * D + D := by rw [Int.add_mul, Int.one_mul]
  exact ⟨fun h => absurd h h3, fun h => by simp only at h ⊢; have := h2 h; omega, fun h => by simp only at h ⊢; have := h1 h; omega⟩
end Go.Proofs.Ytaafchgfibbmhaa
