/-
  BASIC LEMMAS on what values mean: cells, parts of rows, heaps that grow. Conditions: none.
-/
import Derived.Test.YtaafchgfibbmhaaCoreB
namespace Go.Proofs.Ytaafchgfibbmhaa

section
variable {B : Nat → Prop} {φ : Place} {H : Hp} {w : World}

theorem V.dens_length : ∀ (cs : List V) (vs : List Value), V.dens B φ H w cs vs → vs.length = cs.length
  | [], _, h => by simp [V.dens] at h; simp [h]
  | c :: cs, _, h => by obtain ⟨u, us, rfl, _, h2⟩ := h; simp [V.dens_length cs us h2]

theorem V.dens_get : ∀ (cs : List V) (vs : List Value) (i : Nat) (c : V), V.dens B φ H w cs vs → cs[i]? = some c → ∃ v, vs[i]? = some v ∧ V.den B φ H w c v
  | [], _, _, _, _, hd => by simp at hd
  | c :: cs, _, 0, x, h, hd => by
    obtain ⟨u, us, rfl, h1, _⟩ := h
    simp at hd; subst hd; exact ⟨u, by simp, h1⟩
  | c :: cs, _, i + 1, x, h, hd => by
    obtain ⟨u, us, rfl, _, h2⟩ := h
    simpa using V.dens_get cs us i x h2 (by simpa using hd)

theorem V.dens_append : ∀ (cs ds : List V) (us vs : List Value), V.dens B φ H w cs us → V.dens B φ H w ds vs → V.dens B φ H w (cs ++ ds) (us ++ vs)
  | [], ds, us, vs, h, k => by simp [V.dens] at h; subst h; simpa using k
  | c :: cs, ds, _, vs, h, k => by
    obtain ⟨u, us, rfl, h1, h2⟩ := h
    exact ⟨u, us ++ vs, by simp, h1, V.dens_append cs ds us vs h2 k⟩

theorem V.dens_take : ∀ (n : Nat) (cs : List V) (vs : List Value), V.dens B φ H w cs vs → V.dens B φ H w (cs.take n) (vs.take n)
  | 0, _, _, _ => by simp [V.dens]
  | n + 1, [], _, h => by simp [V.dens] at h; subst h; simp [V.dens]
  | n + 1, c :: cs, _, h => by
    obtain ⟨u, us, rfl, h1, h2⟩ := h
    exact ⟨u, us.take n, by simp, h1, V.dens_take n cs us h2⟩

theorem V.dens_drop : ∀ (n : Nat) (cs : List V) (vs : List Value), V.dens B φ H w cs vs → V.dens B φ H w (cs.drop n) (vs.drop n)
  | 0, _, _, h => by simpa using h
  | n + 1, [], _, h => by simp [V.dens] at h; subst h; simp [V.dens]
  | n + 1, c :: cs, _, h => by
    obtain ⟨u, us, rfl, h1, h2⟩ := h
    simpa using V.dens_drop n cs us h2

theorem V.dens_map_d : ∀ (ds : List D) (vs : List Value), V.dens B φ H w (ds.map .d) vs ↔ D.dens B w ds vs
  | [], vs => by simp [V.dens, D.dens]
  | x :: ds, vs => by simp only [List.map_cons, V.dens, D.dens, V.den, V.dens_map_d ds]

theorem D.dens_append : ∀ (cs ds : List D) (us vs : List Value), D.dens B w cs us → D.dens B w ds vs → D.dens B w (cs ++ ds) (us ++ vs)
  | [], ds, us, vs, h, k => by simp [D.dens] at h; subst h; simpa using k
  | c :: cs, ds, _, vs, h, k => by
    obtain ⟨u, us, rfl, h1, h2⟩ := h
    exact ⟨u, us ++ vs, by simp, h1, D.dens_append cs ds us vs h2 k⟩
theorem D.dens_take : ∀ (n : Nat) (cs : List D) (vs : List Value), D.dens B w cs vs → D.dens B w (cs.take n) (vs.take n)
  | 0, _, _, _ => by simp [D.dens]
  | n + 1, [], _, h => by simp [D.dens] at h; subst h; simp [D.dens]
  | n + 1, c :: cs, _, h => by
    obtain ⟨u, us, rfl, h1, h2⟩ := h
    exact ⟨u, us.take n, by simp, h1, D.dens_take n cs us h2⟩
theorem D.dens_drop : ∀ (n : Nat) (cs : List D) (vs : List Value), D.dens B w cs vs → D.dens B w (cs.drop n) (vs.drop n)
  | 0, _, _, h => by simpa using h
  | n + 1, [], _, h => by simp [D.dens] at h; subst h; simp [D.dens]
  | n + 1, c :: cs, _, h => by
    obtain ⟨u, us, rfl, h1, h2⟩ := h
    simpa using D.dens_drop n cs us h2
theorem D.dens_set : ∀ (i : Nat) (ds : List D) (vs : List Value) (x : D) (v : Value), D.dens B w ds vs → D.den B w x v → D.dens B w (ds.set i x) (vs.set i v)
  | _, [], _, _, _, h, _ => by simp [D.dens] at h; subst h; simp [D.dens]
  | 0, c :: cs, _, x, v, h, k => by
    obtain ⟨u, us, rfl, h1, h2⟩ := h
    exact ⟨v, us, by simp, k, h2⟩
  | i + 1, c :: cs, _, x, v, h, k => by
    obtain ⟨u, us, rfl, h1, h2⟩ := h
    exact ⟨u, us.set i v, by simp, h1, D.dens_set i cs us x v h2 k⟩

theorem allD_spec : ∀ (cs : List V) (ds : List D), allD cs = some ds → cs = ds.map .d
  | [], ds, h => by simp [allD] at h; subst h; rfl
  | .d x :: cs, ds, h => by
    simp only [allD, Option.map_eq_some_iff] at h
    obtain ⟨a, h1, rfl⟩ := h
    simp [allD_spec cs a h1]
  | .nils :: _, _, h | .agg _ :: _, _, h | .tup _ :: _, _, h | .ptr _ _ :: _, _, h | .osl _ _ :: _, _, h | .pe _ _ _ _ _ :: _, _, h | .pp _ _ :: _, _, h
  | .func _ _ _ :: _, _, h | .iface _ _ :: _, _, h | .junk :: _, _, h | .csl _ :: _, _, h | .rsl _ _ _ :: _, _, h | .mp _ :: _, _, h | .anyb :: _, _, h => by simp [allD] at h

theorem mkAgg_den (cs : List V) (a : Array Value) (h : V.dens B φ H w cs a.toList) (hf : Flat a.toList) : V.den B φ H w (mkAgg cs) (.agg a) := by
  unfold mkAgg
  split
  · rename_i ds hd
    have := allD_spec cs ds hd
    subst this
    exact ⟨a, rfl, (V.dens_map_d ds _).1 h, hf⟩
  · exact ⟨a, rfl, h, hf⟩

theorem D.den_one : ∀ (x : D) (v : Value), D.den B w x v → (∃ cs a, x = .agg cs ∧ v = .agg a) ∨ v.oneCell' = true ∧ x.cells = [x] ∧ v.cells = #[v]
  | .int _ _, _, h | .bool _, _, h | .nili, _, h | .nilp, _, h | .nilf, _, h | .nilm, _, h => by
    simp only [D.den] at h; subst h; exact .inr ⟨rfl, rfl, rfl⟩
  | .str l, _, h => by obtain ⟨s, rfl, _⟩ := h; exact .inr ⟨rfl, rfl, rfl⟩
  | .agg cs, _, h => by obtain ⟨a, rfl, _, _⟩ := h; exact .inl ⟨cs, a, rfl, rfl⟩
  | .sl es, _, h => by obtain ⟨b, l, c, rfl, _⟩ := h; exact .inr ⟨rfl, rfl, rfl⟩
  | .iface t x, _, h => by obtain ⟨u, rfl, _⟩ := h; exact .inr ⟨rfl, rfl, rfl⟩

theorem D.den_cells (x : D) (v : Value) (h : D.den B w x v) : D.dens B w x.cells v.cells.toList ∧ Flat v.cells.toList := by
  rcases D.den_one x v h with ⟨cs, a, rfl, rfl⟩ | ⟨h1, h2, h3⟩
  · obtain ⟨a', h1, h2, h3⟩ := h
    injection h1 with h1; subst h1
    exact ⟨h2, h3⟩
  · rw [h2, h3]
    exact ⟨⟨v, [], rfl, h, rfl⟩, by intro u hu; simp at hu; subst hu; exact h1⟩

/-- What a value of one cell means, as one cell. -/
theorem V.den_one (x : V) (v : Value) (us : List V) (hx : x.cells = some us) (h : V.den B φ H w x v) : V.dens B φ H w us v.cells.toList ∧ Flat v.cells.toList := by
  have one : ∀ (y : V), v.oneCell' = true → V.den B φ H w y v → V.dens B φ H w [y] v.cells.toList ∧ Flat v.cells.toList := by
    intro y h1 h2
    have h3 : v.cells = #[v] := by cases v <;> simp_all [Value.oneCell', Value.cells]
    rw [h3]
    exact ⟨⟨v, [], rfl, h2, rfl⟩, by intro u hu; simp at hu; subst hu; exact h1⟩
  cases x with
  | d x =>
    simp only [V.cells, Option.some.injEq] at hx; subst hx
    have := D.den_cells x v h
    exact ⟨(V.dens_map_d _ _).2 this.1, this.2⟩
  | nils => simp only [V.cells, Option.some.injEq] at hx; subst hx; exact one _ (by cases h; rfl) h
  | agg cs =>
    simp only [V.cells, Option.some.injEq] at hx; subst hx
    obtain ⟨a, rfl, h1, h2⟩ := h
    exact ⟨h1, h2⟩
  | tup vs => simp [V.cells] at hx
  | junk => simp [V.cells] at hx
  | ptr id off => simp only [V.cells, Option.some.injEq] at hx; subst hx; exact one _ h.1 h
  | osl id ep => simp only [V.cells, Option.some.injEq] at hx; subst hx; exact one _ h.1 h
  | pe id ep i sz off => simp only [V.cells, Option.some.injEq] at hx; subst hx; exact one _ h.1 h
  | pp cs off => simp only [V.cells, Option.some.injEq] at hx; subst hx; exact one _ (by obtain ⟨a, ev, _, rfl, _⟩ := h; rfl) h
  | func fn f c => simp only [V.cells, Option.some.injEq] at hx; subst hx; exact one _ (by obtain ⟨a, ev, rfl, _⟩ := h; rfl) h
  | iface t y => simp only [V.cells, Option.some.injEq] at hx; subst hx; exact one _ (by obtain ⟨a, rfl, _⟩ := h; rfl) h
  | csl es => simp only [V.cells, Option.some.injEq] at hx; subst hx; exact one _ (by obtain ⟨_, b, n, rfl⟩ := h; rfl) h
  | rsl id off n => simp only [V.cells, Option.some.injEq] at hx; subst hx; exact one _ h.1 h
  | mp id => simp only [V.cells, Option.some.injEq] at hx; subst hx; exact one _ h.1 h
  | yld id => simp only [V.cells, Option.some.injEq] at hx; subst hx; exact one _ h.1 h
  | anyb => simp only [V.cells, Option.some.injEq] at hx; subst hx; exact one _ (by obtain ⟨a, rfl⟩ := h; rfl) h

theorem ofScalar_den (v : Value) (h : v.oneCell' = true) : V.den B φ H w (V.ofScalar v) v := by
  cases v <;> simp_all only [Value.oneCell', V.ofScalar, V.den, D.den] <;> try trivial
  all_goals (try (split <;> simp_all [V.den, D.den]))
  all_goals (try first | (simp_all [V.den]; done) | (simp_all [D.den]; done) | simp_all)

theorem ofScalars_dens : ∀ (vs : List Value), Flat vs → V.dens B φ H w (vs.map V.ofScalar) vs
  | [], _ => rfl
  | v :: vs, h => ⟨v, vs, rfl, ofScalar_den v (h v (by simp)), ofScalars_dens vs fun u hu => h u (by simp [hu])⟩
end
end Go.Proofs.Ytaafchgfibbmhaa
