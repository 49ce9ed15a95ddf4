/-
  A STATE THAT SAYS LESS, ITS OBJECTS NUMBERED ANEW: objects dropped, epochs begun again, arrays not yet begun; 'Sub'. Conditions: as each theorem says.
-/
import Derived.Test.YtaafchgfibbmhaaCoreY
namespace Go.Proofs.Ytaafchgfibbmhaa

def Obj'.isFro : Obj' → Bool
  | .fro .. => true
  | _ => false
/-- What a value is as data, where nothing need be turned. -/
def froD (o : Nat → Obj') (v : V) : Option D := if v.ids.all (fun id => (o id).isFro) = true then toD o v else none

section
/- 'ρ': the number that an object had; none: a new array without elements. 'nx': the new numbers are below. -/
variable (ρ : Nat → Option Nat) (o' o : Nat → Obj') (nx : Nat)
mutual
/-- The new value says less than the old one. -/
def vle : V → V → Prop
  | .junk, _ => True
  | .d x, v => froD o v = some x
  | .nils, v => v = .nils
  | .agg cs, v => match v with | .agg ds => vles cs ds | _ => False
  | .tup cs, v => match v with | .tup ds => vles cs ds | _ => False
  | .ptr id' off', v => match v with | .ptr id off => ρ id' = some id ∧ off' = off ∧ id' < nx | _ => False
  | .osl id' ep', v => id' < nx ∧ (o' id').epoch = some ep' ∧ match v with
    | .nils => ρ id' = none
    | .osl id ep => ρ id' = some id ∧ (o id).epoch = some ep
    | _ => False
  | .pe id' ep' i' sz' off', v => id' < nx ∧ (o' id').epoch = some ep' ∧ match v with
    | .pe id ep i sz off => ρ id' = some id ∧ (o id).epoch = some ep ∧ i' = i ∧ sz' = sz ∧ off' = off
    | _ => False
  | .pp cs off, v => v = .pp cs off
  | .func fn a b, v => match v with | .func fn' a' b' => fn = fn' ∧ vles a a' ∧ vles b b' | _ => False
  | .iface t x, v => match v with | .iface t' y => t = t' ∧ vle x y | _ => False
  | .csl es, v => v = .csl es
  | .rsl id' off' n', v => match v with | .rsl id off n => ρ id' = some id ∧ off' = off ∧ n' = n ∧ id' < nx | _ => False
  | .mp id', v => match v with | .mp id => ρ id' = some id ∧ id' < nx | _ => False
  | .anyb, v => v = .anyb ∨ ∃ b, v = .d (.bool b)
  | .yld id', v => match v with | .yld id => ρ id' = some id ∧ id' < nx | _ => False
def vles : List V → List V → Prop
  | [], vs => vs = []
  | x :: xs, vs => match vs with | v :: vs => vle x v ∧ vles xs vs | [] => False
end
def objLe (id' : Nat) : Prop :=
  match o' id' with
  | .no => True
  | .row cs' => match ρ id' with
    | some id => match o id with | .row cs => vles ρ o' o nx cs' cs | _ => False
    | none => False
  | .arr _ ty sz es => match ρ id' with
    | some id => match o id with | .arr _ ty' sz' es' => ty = ty' ∧ sz = sz' ∧ es = es' | _ => False
    | none => es = [] ∧ 0 < sz
  | .fro _ es => match ρ id' with
    | some id => match o id with | .fro _ es' => es = es' | _ => False
    | none => False
  | .map kt vt l => match ρ id' with
    | some id => match o id with | .map kt' vt' l' => kt = kt' ∧ vt = vt' ∧ l = l' | _ => False
    | none => False
  | .loop nf n env ps a b st pd => match ρ id' with
    | some id => match o id with | .loop nf' n' env' ps' a' b' st' pd' => nf = nf' ∧ n = n' ∧ ps = ps' ∧ a = a' ∧ b = b' ∧ st = st' ∧ pd = pd' ∧ vles ρ o' o nx env env' | _ => False
    | none => False
end

section
variable {M M' : Nat → Prop} {φ φ' : Place} {H H' : Hp} {w : World} {ρ : Nat → Option Nat} {nx : Nat}

theorem froD_den (hH : HeapOk M φ H w) {v : V} {x : D} {val : Value} (h : froD H.o v = some x) (hd : V.den (mutB M φ H) φ H w v val) : D.den (mutB M φ H) w x val := by
  unfold froD at h
  split at h
  · rename_i ha
    refine toD_den hH (o := H.o) v x val (fun id hid => ?_) h hd
    have := List.all_eq_true.1 ha id hid
    cases ho : H.o id <;> rw [ho] at this <;> simp [Obj'.isFro] at this
    rfl
  · cases h

mutual
theorem vle_den (hH : HeapOk M φ H w) (hsub : ∀ b, Cellish w b → ¬ mutB M φ H b → ¬ mutB M' φ' H' b) (hφ : ∀ id, φ' id = match ρ id with | some j => φ j | none => .slice none 0 0)
    (hus : ∀ id, id < nx → H'.us id) (hrow : ∀ id' id, ρ id' = some id → (H'.o id').isRow = true → (H.o id).isRow = true) :
    ∀ (x v : V) (val : Value), vle ρ H'.o H.o nx x v → V.den (mutB M φ H) φ H w v val → V.den (mutB M' φ' H') φ' H' w x val
  | .junk, _, _, _, _ => trivial
  | .d x, v, val, h, hd => D.den_mono (fun b hb hn => ⟨rfl, hsub b hb hn⟩) x val (froD_den hH (by simpa [vle] using h) hd)
  | .nils, v, val, h, hd => by simp only [vle] at h; subst h; exact hd
  | .agg cs, v, val, h, hd => by
    unfold vle at h
    split at h
    · obtain ⟨a, rfl, hd, hf⟩ := hd
      exact ⟨a, rfl, vles_den hH hsub hφ hus hrow _ _ _ h hd, hf⟩
    · exact h.elim
  | .tup cs, v, val, h, hd => by
    unfold vle at h
    split at h
    · obtain ⟨a, rfl, hd⟩ := hd
      exact ⟨a, rfl, vles_den hH hsub hφ hus hrow _ _ _ h hd⟩
    · exact h.elim
  | .ptr id' off', v, val, h, hd => by
    unfold vle at h
    split at h
    · obtain ⟨h1, rfl, h3⟩ := h
      obtain ⟨g1, _, g3⟩ := hd
      refine ⟨g1, hus _ h3, fun hr => ?_⟩
      obtain ⟨b, k1, k2⟩ := g3 (hrow _ _ h1 hr)
      exact ⟨b, by rw [hφ, h1]; exact k1, k2⟩
    · exact h.elim
  | .osl id' ep', v, val, h, hd => by
    unfold vle at h
    obtain ⟨h1, h2, h3⟩ := h
    split at h3
    · simp only [V.den] at hd; subst hd
      refine ⟨rfl, hus _ h1, fun e he => ?_⟩
      rw [h2] at he; injection he with he; subst he
      exact ⟨Nat.le_refl _, fun _ => by rw [hφ, h3]⟩
    · obtain ⟨g1, _, g3⟩ := hd
      refine ⟨g1, hus _ h1, fun e he => ?_⟩
      rw [h2] at he; injection he with he; subst he
      exact ⟨Nat.le_refl _, fun _ => by rw [hφ, h3.1]; exact (g3 _ h3.2).2 rfl⟩
    · exact h3.elim
  | .pe id' ep' i' sz' off', v, val, h, hd => by
    unfold vle at h
    obtain ⟨h1, h2, h3⟩ := h
    split at h3
    · obtain ⟨h3, h4, rfl, rfl, rfl⟩ := h3
      obtain ⟨g1, _, g3⟩ := hd
      refine ⟨g1, hus _ h1, fun e he => ?_⟩
      rw [h2] at he; injection he with he; subst he
      refine ⟨Nat.le_refl _, fun _ => ?_⟩
      obtain ⟨b, n, c, k1, k2⟩ := (g3 _ h4).2 rfl
      exact ⟨b, n, c, by rw [hφ, h3]; exact k1, k2⟩
    · exact h3.elim
  | .pp cs off, v, val, h, hd => by
    simp only [vle] at h; subst h
    obtain ⟨a, ev, h1, h2, h3, h5, h4⟩ := hd
    exact ⟨a, ev, h1, h2, D.dens_mono (fun b hb hn => ⟨rfl, hsub b hb hn⟩) cs ev h3, h5, h4.mono (fun b hb hn => ⟨rfl, hsub b hb hn⟩)⟩
  | .func fn a b, v, val, h, hd => by
    unfold vle at h
    split at h
    · obtain ⟨rfl, h1, h2⟩ := h
      obtain ⟨f, c, rfl, k1, k2⟩ := hd
      exact ⟨f, c, rfl, vles_den hH hsub hφ hus hrow _ _ _ h1 k1, vles_den hH hsub hφ hus hrow _ _ _ h2 k2⟩
    · exact h.elim
  | .iface t x, v, val, h, hd => by
    unfold vle at h
    split at h
    · obtain ⟨rfl, h1⟩ := h
      obtain ⟨u, rfl, k1⟩ := hd
      exact ⟨u, rfl, vle_den hH hsub hφ hus hrow _ _ _ h1 k1⟩
    · exact h.elim
  | .csl es, v, val, h, hd => by
    simp only [vle] at h; subst h
    exact ⟨D.den_mono (fun b hb hn => ⟨rfl, hsub b hb hn⟩) (.sl es) val hd.1, hd.2⟩
  | .rsl id' off' n', v, val, h, hd => by
    unfold vle at h
    split at h
    · obtain ⟨h1, rfl, rfl, h3⟩ := h
      obtain ⟨g1, _, g3⟩ := hd
      refine ⟨g1, hus _ h3, fun hr => ?_⟩
      obtain ⟨b, k1, k2⟩ := g3 (hrow _ _ h1 hr)
      exact ⟨b, by rw [hφ, h1]; exact k1, k2⟩
    · exact h.elim
  | .mp id', v, val, h, hd => by
    unfold vle at h
    split at h
    · obtain ⟨h1, h3⟩ := h
      obtain ⟨g1, _, g3⟩ := hd
      exact ⟨g1, hus _ h3, fun hr => by rw [hφ, h1]; exact g3 (hrow _ _ h1 hr)⟩
    · exact h.elim
  | .anyb, v, val, h, hd => by
    unfold vle at h
    rcases h with rfl | ⟨b, rfl⟩
    · exact hd
    · exact ⟨b, hd⟩
  | .yld id', v, val, h, hd => by
    unfold vle at h
    split at h
    · obtain ⟨h1, h3⟩ := h
      obtain ⟨g1, _, g3⟩ := hd
      refine ⟨g1, hus _ h3, fun hr => ?_⟩
      obtain ⟨b, k1, k2⟩ := g3 (hrow _ _ h1 hr)
      exact ⟨b, by rw [hφ, h1]; exact k1, k2⟩
    · exact h.elim
theorem vles_den (hH : HeapOk M φ H w) (hsub : ∀ b, Cellish w b → ¬ mutB M φ H b → ¬ mutB M' φ' H' b) (hφ : ∀ id, φ' id = match ρ id with | some j => φ j | none => .slice none 0 0)
    (hus : ∀ id, id < nx → H'.us id) (hrow : ∀ id' id, ρ id' = some id → (H'.o id').isRow = true → (H.o id).isRow = true) :
    ∀ (xs vs : List V) (vals : List Value), vles ρ H'.o H.o nx xs vs → V.dens (mutB M φ H) φ H w vs vals → V.dens (mutB M' φ' H') φ' H' w xs vals
  | [], vs, vals, h, hd => by simp only [vles] at h; subst h; exact hd
  | x :: xs, vs, vals, h, hd => by
    unfold vles at h
    split at h
    · obtain ⟨u, us, rfl, k1, k2⟩ := hd
      exact ⟨u, us, rfl, vle_den hH hsub hφ hus hrow _ _ _ h.1 k1, vles_den hH hsub hφ hus hrow _ _ _ h.2 k2⟩
    · exact h.elim
end

/-- The heap numbered anew: what it was given, and what holds of it. 'M'' may take in what is dropped. -/
theorem heap_sub (hH : HeapOk M φ H w) {o' : Nat → Obj'} (ho : ∀ id, objLe ρ o' H.o nx id) (hfr : ∀ id, nx ≤ id → o' id = .no)
    (hinj : ∀ i j k, (o' i).live = true → (o' j).live = true → ρ i = some k → ρ j = some k → i = j)
    (hM : ∀ b, M' b → mutB M φ H b) (hMlt : ∀ b, M' b → b < w.heap.size) (hMapart : ∀ b, M' b → ¬ liveB (fun id => match ρ id with | some j => φ j | none => .slice none 0 0) ⟨o', fun id => id < nx⟩ b) :
    let φ' : Place := fun id => match ρ id with | some j => φ j | none => .slice none 0 0
    let H' : Hp := ⟨o', fun id => id < nx⟩
    HeapOk M' φ' H' w ∧ (∀ b, liveB φ' H' b → liveB φ H b) ∧ (∀ b, Cellish w b → ¬ mutB M φ H b → ¬ mutB M' φ' H' b) ∧
      (∀ x v val, vle ρ o' H.o nx x v → V.den (mutB M φ H) φ H w v val → V.den (mutB M' φ' H') φ' H' w x val) := by
  intro φ' H'
  have hrow : ∀ id' id, ρ id' = some id → (H'.o id').isRow = true → (H.o id).isRow = true := by
    intro id' id h1 h2
    have h3 := ho id'
    unfold objLe at h3
    simp only [H'] at h2
    split at h3
    · rename_i e; rw [e] at h2; cases h2
    · rw [h1] at h3
      simp only at h3
      split at h3
      · rename_i e; rw [e]; rfl
      · exact h3.elim
    · rename_i e; rw [e] at h2; cases h2
    · rename_i e; rw [e] at h2; cases h2
    · rw [h1] at h3
      simp only at h3
      split at h3
      · rename_i e; rw [e]; rfl
      · exact h3.elim
    · rw [h1] at h3
      simp only at h3
      split at h3
      · rename_i e; rw [e]; rfl
      · exact h3.elim
  have hlive : ∀ id' b, (o' id').live = true → blk (φ' id') = some b → ∃ id, ρ id' = some id ∧ (H.o id).live = true ∧ blk (φ id) = some b := by
    intro id' b h1 h2
    have h3 := ho id'
    unfold objLe at h3
    simp only [φ'] at h2
    split at h3
    · rename_i e; rw [e] at h1; cases h1
    · cases hr : ρ id' with
      | none => rw [hr] at h3; exact h3.elim
      | some id =>
        rw [hr] at h3 h2
        simp only at h3 h2
        split at h3
        · rename_i e; exact ⟨id, rfl, by rw [e]; rfl, h2⟩
        · exact h3.elim
    · cases hr : ρ id' with
      | none => rw [hr] at h2; simp [blk] at h2
      | some id =>
        rw [hr] at h3 h2
        simp only at h3 h2
        split at h3
        · rename_i e; exact ⟨id, rfl, by rw [e]; rfl, h2⟩
        · exact h3.elim
    · rename_i e; rw [e] at h1; cases h1
    · cases hr : ρ id' with
      | none => rw [hr] at h3; exact h3.elim
      | some id =>
        rw [hr] at h3 h2
        simp only at h3 h2
        split at h3
        · rename_i e; exact ⟨id, rfl, by rw [e]; rfl, h2⟩
        · exact h3.elim
    · cases hr : ρ id' with
      | none => rw [hr] at h3; exact h3.elim
      | some id =>
        rw [hr] at h3 h2
        simp only at h3 h2
        split at h3
        · rename_i e; exact ⟨id, rfl, by rw [e]; rfl, h2⟩
        · exact h3.elim
  have hlb : ∀ b, liveB φ' H' b → liveB φ H b := by
    rintro b ⟨id', h1, h2⟩
    obtain ⟨id, _, h3, h4⟩ := hlive id' b h1 h2
    exact ⟨id, h3, h4⟩
  have hmut : ∀ b, mutB M' φ' H' b → mutB M φ H b := by
    rintro b (h | h)
    · exact hM b h
    · exact .inr (hlb b h)
  have hsub : ∀ b, Cellish w b → ¬ mutB M φ H b → ¬ mutB M' φ' H' b := fun b _ h k => h (hmut b k)
  have hvs := vles_den (M' := M') (φ' := φ') (H' := H') (ρ := ρ) (nx := nx) hH hsub (fun _ => rfl) (fun _ h => h) hrow
  refine ⟨⟨fun id' => ?_, fun id hn => hfr id (by simpa [H'] using hn), fun i j b h1 h2 h3 h4 => ?_, fun b hb => ⟨fun hm => hMapart b hm hb, (hH.ours b (hlb b hb)).2⟩, hMlt⟩, hlb, hsub,
    vle_den (M' := M') (φ' := φ') (H' := H') (ρ := ρ) (nx := nx) hH hsub (fun _ => rfl) (fun _ h => h) hrow⟩
  · have h3 := ho id'
    unfold objLe at h3
    unfold ObjOk
    simp only [H']
    split at h3
    · rename_i e; rw [e]; trivial
    · rename_i cs' e
      rw [e]
      cases hr : ρ id' with
      | none => rw [hr] at h3; exact h3.elim
      | some id =>
        rw [hr] at h3
        simp only at h3
        split at h3
        · rename_i cs e2
          have := hH.ok id
          unfold ObjOk at this
          rw [e2] at this
          obtain ⟨b, carr, ty, k1, k2, k3, k4⟩ := this
          exact ⟨b, carr, ty, by simp only [φ', hr]; exact k1, k2, hvs _ _ _ h3 k3, k4⟩
        · exact h3.elim
    · rename_i ep ty sz es e
      rw [e]
      cases hr : ρ id' with
      | none =>
        rw [hr] at h3
        obtain ⟨rfl, h4⟩ := h3
        exact ⟨h4, [], by simp only [φ', hr]; exact World.ownsRow_nil _ _ _ _, [], by simp, by simp, rfl⟩
      | some id =>
        rw [hr] at h3
        simp only at h3
        split at h3
        · rename_i e2
          obtain ⟨rfl, rfl, rfl⟩ := h3
          have := hH.ok id
          unfold ObjOk at this
          rw [e2] at this
          obtain ⟨k1, xs, k2, evs, k3, k4, k5⟩ := this
          exact ⟨k1, xs, by simp only [φ', hr]; exact k2, evs, k3, k4, D.dens_mono (fun b hb hn => ⟨rfl, hsub b hb hn⟩) _ _ k5⟩
        · exact h3.elim
    · rename_i ep es e
      rw [e]
      cases hr : ρ id' with
      | none => rw [hr] at h3; exact h3.elim
      | some id =>
        rw [hr] at h3
        simp only at h3
        split at h3
        · rename_i e2
          subst h3
          have := hH.ok id
          unfold ObjOk at this
          rw [e2] at this
          simp only [φ', hr]
          exact D.den_mono (fun b hb hn => ⟨rfl, hsub b hb hn⟩) _ _ this
        · exact h3.elim
    · rename_i kt vt l e
      rw [e]
      cases hr : ρ id' with
      | none => rw [hr] at h3; exact h3.elim
      | some id =>
        rw [hr] at h3
        simp only at h3
        split at h3
        · rename_i e2
          obtain ⟨rfl, rfl, rfl⟩ := h3
          have := hH.ok id
          unfold ObjOk at this
          rw [e2] at this
          obtain ⟨b, es, clock, k1, k2, k3⟩ := this
          exact ⟨b, es, clock, by simp only [φ', hr]; exact k1, k2, EntsDen.mono (fun b hb hn => ⟨rfl, hsub b hb hn⟩) _ _ k3⟩
        · exact h3.elim
    · rename_i nf n env ps a b st pd e
      rw [e]
      cases hr : ρ id' with
      | none => rw [hr] at h3; exact h3.elim
      | some id =>
        rw [hr] at h3
        simp only at h3
        split at h3
        · rename_i e2
          obtain ⟨rfl, rfl, rfl, rfl, rfl, rfl, rfl, hv⟩ := h3
          have := hH.ok id
          unfold ObjOk at this
          rw [e2] at this
          obtain ⟨b, r, k1, k2, k3, k4, k5, k6, k7, k8, k9, k10⟩ := this
          refine ⟨b, r, by simp only [φ', hr]; exact k1, k2, k3, k4, k5, k6, k7, k8, k9, fun i => ?_⟩
          have key : ∀ (xs vs : List V), vles ρ o' H.o nx xs vs → ∀ i, vle ρ o' H.o nx (envJ xs i) (envJ vs i) := by
            intro xs
            induction xs with
            | nil => intro vs hv i; simp [envJ, vle]
            | cons x xs ih =>
              intro vs hv i
              unfold vles at hv
              split at hv
              · cases i with
                | zero => exact hv.1
                | succ i => exact ih _ hv.2 i
              · exact hv.elim
          exact vle_den (M' := M') (φ' := φ') (H' := H') (ρ := ρ) (nx := nx) hH hsub (fun _ => rfl) (fun _ h => h) hrow _ _ _ (key _ _ hv i) (k10 i)
        · exact h3.elim
  · obtain ⟨k1, g1, g2, g3⟩ := hlive i b h1 h3
    obtain ⟨k2, g4, g5, g6⟩ := hlive j b h2 h4
    have := hH.apart k1 k2 b g2 g5 g3 g6
    subst this
    exact hinj i j k1 h1 h2 g1 g4

/-- A state that says less. -/
theorem SLe.of_map {b : Nat} {s s' : S} (ρ : Nat → Option Nat) (hb : b ≤ s'.nx) (ho : ∀ id, objLe ρ s'.o s.o s'.nx id) (hfr : ∀ id, s'.nx ≤ id → s'.o id = .no)
    (hinj : ∀ i j k, (s'.o i).live = true → (s'.o j).live = true → ρ i = some k → ρ j = some k → i = j)
    (hlow : ∀ id, id < b → ρ id = some id ∧ (∀ e', (s'.o id).epoch = some e' → ∃ e, (s.o id).epoch = some e ∧ e ≤ e')) (henv : ∀ i, vle ρ s'.o s.o s'.nx (s'.env i) (s.env i)) : SLe b s s' := by
  intro M φ w tm hH he
  obtain ⟨h1, h2, _, h4⟩ := heap_sub (M' := M) (ρ := ρ) (nx := s'.nx) hH (o' := s'.o) ho hfr hinj (fun b hb => .inl hb) hH.old (fun b hb hl => by
    have : liveB φ s.H b := by
      obtain ⟨id', g1, g2⟩ := hl
      have h3 := ho id'
      unfold objLe at h3
      simp only at g1 g2
      split at h3
      · rename_i e; rw [e] at g1; cases g1
      · cases hr : ρ id' with
        | none => rw [hr] at h3; exact h3.elim
        | some id =>
          rw [hr] at h3 g2
          simp only at h3 g2
          split at h3
          · rename_i e; exact ⟨id, by simp only [S.H]; rw [e]; rfl, g2⟩
          · exact h3.elim
      · cases hr : ρ id' with
        | none => rw [hr] at g2; simp [blk] at g2
        | some id =>
          rw [hr] at h3 g2
          simp only at h3 g2
          split at h3
          · rename_i e; exact ⟨id, by simp only [S.H]; rw [e]; rfl, g2⟩
          · exact h3.elim
      · rename_i e; rw [e] at g1; cases g1
      · cases hr : ρ id' with
        | none => rw [hr] at h3; exact h3.elim
        | some id =>
          rw [hr] at h3 g2
          simp only at h3 g2
          split at h3
          · rename_i e; exact ⟨id, by simp only [S.H]; rw [e]; rfl, g2⟩
          · exact h3.elim
      · cases hr : ρ id' with
        | none => rw [hr] at h3; exact h3.elim
        | some id =>
          rw [hr] at h3 g2
          simp only at h3 g2
          split at h3
          · rename_i e; exact ⟨id, by simp only [S.H]; rw [e]; rfl, g2⟩
          · exact h3.elim
    exact (hH.ours b this).1 hb)
  refine ⟨_, h1, fun i => h4 _ _ _ (henv i) (he i), h2, hb, fun id hid hr => ?_, fun id e' hid he' => ?_⟩
  · obtain ⟨g1, _⟩ := hlow id hid
    refine ⟨?_, by simp only [g1]⟩
    have h3 := ho id
    unfold objLe at h3
    rw [g1] at h3
    split at h3
    · rename_i e; rw [e] at hr; cases hr
    · simp only at h3
      split at h3
      · rename_i e; rw [e]; rfl
      · exact h3.elim
    · rename_i e; rw [e] at hr; cases hr
    · rename_i e; rw [e] at hr; cases hr
    · simp only at h3
      split at h3
      · rename_i e; rw [e]; rfl
      · exact h3.elim
    · simp only at h3
      split at h3
      · rename_i e; rw [e]; rfl
      · exact h3.elim
  · obtain ⟨g1, g2⟩ := hlow id hid
    obtain ⟨e, g3, g4⟩ := g2 e' he'
    exact ⟨e, g3, g4, fun _ => by simp only [g1]⟩
end
end Go.Proofs.Ytaafchgfibbmhaa
