/-
  A PART OF THE PROOF (put together by program): several texts, one behind the other. Conditions: none.
-/
import Derived.Test.YtaafchgfibbmhaaPk16
set_option linter.unusedSimpArgs false
set_option linter.unusedVariables false
namespace Go.Proofs.Ytaafchgfibbmhaa
def Obj'.isFro : Obj' → Bool
  | .fro .. => true
  | _ => false
def froD (o : Nat → Obj') (v : V) : Option D := if v.ids.all (fun id => (o id).isFro) = true then toD o v else none
section
variable (ρ : Nat → Option Nat) (o' o : Nat → Obj') (nx : Nat)
mutual

def vle : V → V → Prop
  | .junk, _ => True
  | .d x, v => froD o v = some x
  | .nils, v => v = .nils
  | .agg cs, v => match v with | .agg ds => vles cs ds | _ => False
  | .tup cs, v => match v with | .tup ds => vles cs ds | _ => False
  | .ptr id' off', v => match v with | .ptr id off => ρ id' = some id ∧ off' = off ∧ id' < nx | _ => False
  | .osl id' ep', v => id' < nx ∧ (o' id').epoch = some ep' ∧ match v with
    | .nils => ρ id' = none
    | .osl id ep => ρ id' = some id ∧ (o id).epoch = some ep
    | _ => False
  | .pe id' ep' i' sz' off', v => id' < nx ∧ (o' id').epoch = some ep' ∧ match v with
    | .pe id ep i sz off => ρ id' = some id ∧ (o id).epoch = some ep ∧ i' = i ∧ sz' = sz ∧ off' = off
    | _ => False
  | .pp cs off, v => v = .pp cs off
  | .func fn a b, v => match v with | .func fn' a' b' => fn = fn' ∧ vles a a' ∧ vles b b' | _ => False
  | .iface t x, v => match v with | .iface t' y => t = t' ∧ vle x y | _ => False
  | .csl es, v => v = .csl es
  | .rsl id' off' n', v => match v with | .rsl id off n => ρ id' = some id ∧ off' = off ∧ n' = n ∧ id' < nx | _ => False
  | .mp id', v => match v with | .mp id => ρ id' = some id ∧ id' < nx | _ => False
  | .anyb, v => v = .anyb ∨ ∃ b, v = .d (.bool b)
  | .yld id', v => match v with | .yld id => ρ id' = some id ∧ id' < nx | _ => False
def vles : List V → List V → Prop
  | [], vs => vs = []
  | x :: xs, vs => match vs with | v :: vs => vle x v ∧ vles xs vs | [] => False
end
def objLe (id' : Nat) : Prop :=
  match o' id' with
  | .no => True
  | .row cs' => match ρ id' with
    | some id => match o id with | .row cs => vles ρ o' o nx cs' cs | _ => False
    | none => False
  | .arr _ ty sz es => match ρ id' with
    | some id => match o id with | .arr _ ty' sz' es' => ty = ty' ∧ sz = sz' ∧ es = es' | _ => False
    | none => es = [] ∧ 0 < sz
  | .fro _ es => match ρ id' with
    | some id => match o id with | .fro _ es' => es = es' | _ => False
    | none => False
  | .map kt vt l => match ρ id' with
    | some id => match o id with | .map kt' vt' l' => kt = kt' ∧ vt = vt' ∧ l = l' | _ => False
    | none => False
  | .loop nf n env ps a b st pd => match ρ id' with
    | some id => match o id with | .loop nf' n' env' ps' a' b' st' pd' => nf = nf' ∧ n = n' ∧ ps = ps' ∧ a = a' ∧ b = b' ∧ st = st' ∧ pd = pd' ∧ vles ρ o' o nx env env' | _ => False
    | none => False
end
section
variable {M M' : Nat → Prop} {φ φ' : Place} {H H' : Hp} {w : World} {ρ : Nat → Option Nat} {nx : Nat}
theorem froD_den (hH : HeapOk M φ H w) {v : V} {x : D} {val : Value} (h : froD H.o v = some x) (hd : V.den (mutB M φ H) φ H w v val) : D.den (mutB M φ H) w x val := by
  unfold froD at h
  split at h
  · rename_i ha
    refine toD_den hH (o := H.o) v x val (fun id hid => ?_) h hd
    have := List.all_eq_true.1 ha id hid
    cases ho : H.o id <;> rw [ho] at this <;> simp [Obj'.isFro] at this
    rfl
  · cases h
mutual
theorem vle_den (hH : HeapOk M φ H w) (hsub : ∀ b, Cellish w b → ¬ mutB M φ H b → ¬ mutB M' φ' H' b) (hφ : ∀ id, φ' id = match ρ id with | some j => φ j | none => .slice none 0 0)
    (hus : ∀ id, id < nx → H'.us id) (hrow : ∀ id' id, ρ id' = some id → (H'.o id').isRow = true → (H.o id).isRow = true) :
    ∀ (x v : V) (val : Value), vle ρ H'.o H.o nx x v → V.den (mutB M φ H) φ H w v val → V.den (mutB M' φ' H') φ' H' w x val
  | .junk, _, _, _, _ => trivial
  | .d x, v, val, h, hd => D.den_mono (fun b hb hn => ⟨rfl, hsub b hb hn⟩) x val (froD_den hH (by simpa [vle] using h) hd)
  | .nils, v, val, h, hd => by simp only [vle] at h; subst h; exact hd
  | .agg cs, v, val, h, hd => by
    unfold vle at h
    split at h
    · obtain ⟨a, rfl, hd, hf⟩ := hd
      exact ⟨a, rfl, vles_den hH hsub hφ hus hrow _ _ _ h hd, hf⟩
    · exact h.elim
  | .tup cs, v, val, h, hd => by
    unfold vle at h
    split at h
    · obtain ⟨a, rfl, hd⟩ := hd
      exact ⟨a, rfl, vles_den hH hsub hφ hus hrow _ _ _ h hd⟩
    · exact h.elim
  | .ptr id' off', v, val, h, hd => by
    unfold vle at h
    split at h
    · obtain ⟨h1, rfl, h3⟩ := h
      obtain ⟨g1, _, g3⟩ := hd
      refine ⟨g1, hus _ h3, fun hr => ?_⟩
      obtain ⟨b, k1, k2⟩ := g3 (hrow _ _ h1 hr)
      exact ⟨b, by rw [hφ, h1]; exact k1, k2⟩
    · exact h.elim
  | .osl id' ep', v, val, h, hd => by
    unfold vle at h
    obtain ⟨h1, h2, h3⟩ := h
    split at h3
    · simp only [V.den] at hd; subst hd
      refine ⟨rfl, hus _ h1, fun e he => ?_⟩
      rw [h2] at he; injection he with he; subst he
      exact ⟨Nat.le_refl _, fun _ => by rw [hφ, h3]⟩
    · obtain ⟨g1, _, g3⟩ := hd
      refine ⟨g1, hus _ h1, fun e he => ?_⟩
      rw [h2] at he; injection he with he; subst he
      exact ⟨Nat.le_refl _, fun _ => by rw [hφ, h3.1]; exact (g3 _ h3.2).2 rfl⟩
    · exact h3.elim
  | .pe id' ep' i' sz' off', v, val, h, hd => by
    unfold vle at h
    obtain ⟨h1, h2, h3⟩ := h
    split at h3
    · obtain ⟨h3, h4, rfl, rfl, rfl⟩ := h3
      obtain ⟨g1, _, g3⟩ := hd
      refine ⟨g1, hus _ h1, fun e he => ?_⟩
      rw [h2] at he; injection he with he; subst he
      refine ⟨Nat.le_refl _, fun _ => ?_⟩
      obtain ⟨b, n, c, k1, k2⟩ := (g3 _ h4).2 rfl
      exact ⟨b, n, c, by rw [hφ, h3]; exact k1, k2⟩
    · exact h3.elim
  | .pp cs off, v, val, h, hd => by
    simp only [vle] at h; subst h
    obtain ⟨a, ev, h1, h2, h3, h5, h4⟩ := hd
    exact ⟨a, ev, h1, h2, D.dens_mono (fun b hb hn => ⟨rfl, hsub b hb hn⟩) cs ev h3, h5, h4.mono (fun b hb hn => ⟨rfl, hsub b hb hn⟩)⟩
  | .func fn a b, v, val, h, hd => by
    unfold vle at h
    split at h
    · obtain ⟨rfl, h1, h2⟩ := h
      obtain ⟨f, c, rfl, k1, k2⟩ := hd
      exact ⟨f, c, rfl, vles_den hH hsub hφ hus hrow _ _ _ h1 k1, vles_den hH hsub hφ hus hrow _ _ _ h2 k2⟩
    · exact h.elim
  | .iface t x, v, val, h, hd => by
    unfold vle at h
    split at h
    · obtain ⟨rfl, h1⟩ := h
      obtain ⟨u, rfl, k1⟩ := hd
      exact ⟨u, rfl, vle_den hH hsub hφ hus hrow _ _ _ h1 k1⟩
    · exact h.elim
  | .csl es, v, val, h, hd => by
    simp only [vle] at h; subst h
    exact ⟨D.den_mono (fun b hb hn => ⟨rfl, hsub b hb hn⟩) (.sl es) val hd.1, hd.2⟩
  | .rsl id' off' n', v, val, h, hd => by
    unfold vle at h
    split at h
    · obtain ⟨h1, rfl, rfl, h3⟩ := h
      obtain ⟨g1, _, g3⟩ := hd
      refine ⟨g1, hus _ h3, fun hr => ?_⟩
      obtain ⟨b, k1, k2⟩ := g3 (hrow _ _ h1 hr)
      exact ⟨b, by rw [hφ, h1]; exact k1, k2⟩
    · exact h.elim
  | .mp id', v, val, h, hd => by
    unfold vle at h
    split at h
    · obtain ⟨h1, h3⟩ := h
      obtain ⟨g1, _, g3⟩ := hd
      exact ⟨g1, hus _ h3, fun hr => by rw [hφ, h1]; exact g3 (hrow _ _ h1 hr)⟩
    · exact h.elim
  | .anyb, v, val, h, hd => by
    unfold vle at h
    rcases h with rfl | ⟨b, rfl⟩
    · exact hd
    · exact ⟨b, hd⟩
  | .yld id', v, val, h, hd => by
    unfold vle at h
    split at h
    · obtain ⟨h1, h3⟩ := h
      obtain ⟨g1, _, g3⟩ := hd
      refine ⟨g1, hus _ h3, fun hr => ?_⟩
      obtain ⟨b, k1, k2⟩ := g3 (hrow _ _ h1 hr)
      exact ⟨b, by rw [hφ, h1]; exact k1, k2⟩
    · exact h.elim
theorem vles_den (hH : HeapOk M φ H w) (hsub : ∀ b, Cellish w b → ¬ mutB M φ H b → ¬ mutB M' φ' H' b) (hφ : ∀ id, φ' id = match ρ id with | some j => φ j | none => .slice none 0 0)
    (hus : ∀ id, id < nx → H'.us id) (hrow : ∀ id' id, ρ id' = some id → (H'.o id').isRow = true → (H.o id).isRow = true) :
    ∀ (xs vs : List V) (vals : List Value), vles ρ H'.o H.o nx xs vs → V.dens (mutB M φ H) φ H w vs vals → V.dens (mutB M' φ' H') φ' H' w xs vals
  | [], vs, vals, h, hd => by simp only [vles] at h; subst h; exact hd
  | x :: xs, vs, vals, h, hd => by
    unfold vles at h
    split at h
    · obtain ⟨u, us, rfl, k1, k2⟩ := hd
      exact ⟨u, us, rfl, vle_den hH hsub hφ hus hrow _ _ _ h.1 k1, vles_den hH hsub hφ hus hrow _ _ _ h.2 k2⟩
    · exact h.elim
end
theorem heap_sub (hH : HeapOk M φ H w) {o' : Nat → Obj'} (ho : ∀ id, objLe ρ o' H.o nx id) (hfr : ∀ id, nx ≤ id → o' id = .no)
    (hinj : ∀ i j k, (o' i).live = true → (o' j).live = true → ρ i = some k → ρ j = some k → i = j)
    (hM : ∀ b, M' b → mutB M φ H b) (hMlt : ∀ b, M' b → b < w.heap.size) (hMapart : ∀ b, M' b → ¬ liveB (fun id => match ρ id with | some j => φ j | none => .slice none 0 0) ⟨o', fun id => id < nx⟩ b) :
    let φ' : Place := fun id => match ρ id with | some j => φ j | none => .slice none 0 0
    let H' : Hp := ⟨o', fun id => id < nx⟩
    HeapOk M' φ' H' w ∧ (∀ b, liveB φ' H' b → liveB φ H b) ∧ (∀ b, Cellish w b → ¬ mutB M φ H b → ¬ mutB M' φ' H' b) ∧
      (∀ x v val, vle ρ o' H.o nx x v → V.den (mutB M φ H) φ H w v val → V.den (mutB M' φ' H') φ' H' w x val) := by
  intro φ' H'
  have hrow : ∀ id' id, ρ id' = some id → (H'.o id').isRow = true → (H.o id).isRow = true := by
    intro id' id h1 h2
    have h3 := ho id'
    unfold objLe at h3
    simp only [H'] at h2
    split at h3
    · rename_i e; rw [e] at h2; cases h2
    · rw [h1] at h3
      simp only at h3
      split at h3
      · rename_i e; rw [e]; rfl
      · exact h3.elim
    · rename_i e; rw [e] at h2; cases h2
    · rename_i e; rw [e] at h2; cases h2
    · rw [h1] at h3
      simp only at h3
      split at h3
      · rename_i e; rw [e]; rfl
      · exact h3.elim
    · rw [h1] at h3
      simp only at h3
      split at h3
      · rename_i e; rw [e]; rfl
      · exact h3.elim
  have hlive : ∀ id' b, (o' id').live = true → blk (φ' id') = some b → ∃ id, ρ id' = some id ∧ (H.o id).live = true ∧ blk (φ id) = some b := by
    intro id' b h1 h2
    have h3 := ho id'
    unfold objLe at h3
    simp only [φ'] at h2
    split at h3
    · rename_i e; rw [e] at h1; cases h1
    · cases hr : ρ id' with
      | none => rw [hr] at h3; exact h3.elim
      | some id =>
        rw [hr] at h3 h2
        simp only at h3 h2
        split at h3
        · rename_i e; exact ⟨id, rfl, by rw [e]; rfl, h2⟩
        · exact h3.elim
    · cases hr : ρ id' with
      | none => rw [hr] at h2; simp [blk] at h2
      | some id =>
        rw [hr] at h3 h2
        simp only at h3 h2
        split at h3
        · rename_i e; exact ⟨id, rfl, by rw [e]; rfl, h2⟩
        · exact h3.elim
    · rename_i e; rw [e] at h1; cases h1
    · cases hr : ρ id' with
      | none => rw [hr] at h3; exact h3.elim
      | some id =>
        rw [hr] at h3 h2
        simp only at h3 h2
        split at h3
        · rename_i e; exact ⟨id, rfl, by rw [e]; rfl, h2⟩
        · exact h3.elim
    · cases hr : ρ id' with
      | none => rw [hr] at h3; exact h3.elim
      | some id =>
        rw [hr] at h3 h2
        simp only at h3 h2
        split at h3
        · rename_i e; exact ⟨id, rfl, by rw [e]; rfl, h2⟩
        · exact h3.elim
  have hlb : ∀ b, liveB φ' H' b → liveB φ H b := by
    rintro b ⟨id', h1, h2⟩
    obtain ⟨id, _, h3, h4⟩ := hlive id' b h1 h2
    exact ⟨id, h3, h4⟩
  have hmut : ∀ b, mutB M' φ' H' b → mutB M φ H b := by
    rintro b (h | h)
    · exact hM b h
    · exact .inr (hlb b h)
  have hsub : ∀ b, Cellish w b → ¬ mutB M φ H b → ¬ mutB M' φ' H' b := fun b _ h k => h (hmut b k)
  have hvs := vles_den (M' := M') (φ' := φ') (H' := H') (ρ := ρ) (nx := nx) hH hsub (fun _ => rfl) (fun _ h => h) hrow
  refine ⟨⟨fun id' => ?_, fun id hn => hfr id (by simpa [H'] using hn), fun i j b h1 h2 h3 h4 => ?_, fun b hb => ⟨fun hm => hMapart b hm hb, (hH.ours b (hlb b hb)).2⟩, hMlt⟩, hlb, hsub,
    vle_den (M' := M') (φ' := φ') (H' := H') (ρ := ρ) (nx := nx) hH hsub (fun _ => rfl) (fun _ h => h) hrow⟩
  · have h3 := ho id'
    unfold objLe at h3
    unfold ObjOk
    simp only [H']
    split at h3
    · rename_i e; rw [e]; trivial
    · rename_i cs' e
      rw [e]
      cases hr : ρ id' with
      | none => rw [hr] at h3; exact h3.elim
      | some id =>
        rw [hr] at h3
        simp only at h3
        split at h3
        · rename_i cs e2
          have := hH.ok id
          unfold ObjOk at this
          rw [e2] at this
          obtain ⟨b, carr, ty, k1, k2, k3, k4⟩ := this
          exact ⟨b, carr, ty, by simp only [φ', hr]; exact k1, k2, hvs _ _ _ h3 k3, k4⟩
        · exact h3.elim
    · rename_i ep ty sz es e
      rw [e]
      cases hr : ρ id' with
      | none =>
        rw [hr] at h3
        obtain ⟨rfl, h4⟩ := h3
        exact ⟨h4, [], by simp only [φ', hr]; exact World.ownsRow_nil _ _ _ _, [], by simp, by simp, rfl⟩
      | some id =>
        rw [hr] at h3
        simp only at h3
        split at h3
        · rename_i e2
          obtain ⟨rfl, rfl, rfl⟩ := h3
          have := hH.ok id
          unfold ObjOk at this
          rw [e2] at this
          obtain ⟨k1, xs, k2, evs, k3, k4, k5⟩ := this
          exact ⟨k1, xs, by simp only [φ', hr]; exact k2, evs, k3, k4, D.dens_mono (fun b hb hn => ⟨rfl, hsub b hb hn⟩) _ _ k5⟩
        · exact h3.elim
    · rename_i ep es e
      rw [e]
      cases hr : ρ id' with
      | none => rw [hr] at h3; exact h3.elim
      | some id =>
        rw [hr] at h3
        simp only at h3
        split at h3
        · rename_i e2
          subst h3
          have := hH.ok id
          unfold ObjOk at this
          rw [e2] at this
          simp only [φ', hr]
          exact D.den_mono (fun b hb hn => ⟨rfl, hsub b hb hn⟩) _ _ this
        · exact h3.elim
    · rename_i kt vt l e
      rw [e]
      cases hr : ρ id' with
      | none => rw [hr] at h3; exact h3.elim
      | some id =>
        rw [hr] at h3
        simp only at h3
        split at h3
        · rename_i e2
          obtain ⟨rfl, rfl, rfl⟩ := h3
          have := hH.ok id
          unfold ObjOk at this
          rw [e2] at this
          obtain ⟨b, es, clock, k1, k2, k3⟩ := this
          exact ⟨b, es, clock, by simp only [φ', hr]; exact k1, k2, EntsDen.mono (fun b hb hn => ⟨rfl, hsub b hb hn⟩) _ _ k3⟩
        · exact h3.elim
    · rename_i nf n env ps a b st pd e
      rw [e]
      cases hr : ρ id' with
      | none => rw [hr] at h3; exact h3.elim
      | some id =>
        rw [hr] at h3
        simp only at h3
        split at h3
        · rename_i e2
          obtain ⟨rfl, rfl, rfl, rfl, rfl, rfl, rfl, hv⟩ := h3
          have := hH.ok id
          unfold ObjOk at this
          rw [e2] at this
          obtain ⟨b, r, k1, k2, k3, k4, k5, k6, k7, k8, k9, k10⟩ := this
          refine ⟨b, r, by simp only [φ', hr]; exact k1, k2, k3, k4, k5, k6, k7, k8, k9, fun i => ?_⟩
          have key : ∀ (xs vs : List V), vles ρ o' H.o nx xs vs → ∀ i, vle ρ o' H.o nx (envJ xs i) (envJ vs i) := by
            intro xs
            induction xs with
            | nil => intro vs hv i; simp [envJ, vle]
            | cons x xs ih =>
              intro vs hv i
              unfold vles at hv
              split at hv
              · cases i with
                | zero => exact hv.1
                | succ i => exact ih _ hv.2 i
              · exact hv.elim
          exact vle_den (M' := M') (φ' := φ') (H' := H') (ρ := ρ) (nx := nx) hH hsub (fun _ => rfl) (fun _ h => h) hrow _ _ _ (key _ _ hv i) (k10 i)
        · exact h3.elim
  · obtain ⟨k1, g1, g2, g3⟩ := hlive i b h1 h3
    obtain ⟨k2, g4, g5, g6⟩ := hlive j b h2 h4
    have := hH.apart k1 k2 b g2 g5 g3 g6
    subst this
    exact hinj i j k1 h1 h2 g1 g4
theorem SLe.of_map {b : Nat} {s s' : S} (ρ : Nat → Option Nat) (hb : b ≤ s'.nx) (ho : ∀ id, objLe ρ s'.o s.o s'.nx id) (hfr : ∀ id, s'.nx ≤ id → s'.o id = .no)
    (hinj : ∀ i j k, (s'.o i).live = true → (s'.o j).live = true → ρ i = some k → ρ j = some k → i = j)
    (hlow : ∀ id, id < b → ρ id = some id ∧ (∀ e', (s'.o id).epoch = some e' → ∃ e, (s.o id).epoch = some e ∧ e ≤ e')) (henv : ∀ i, vle ρ s'.o s.o s'.nx (s'.env i) (s.env i)) : SLe b s s' := by
  intro M φ w tm hH he
  obtain ⟨h1, h2, _, h4⟩ := heap_sub (M' := M) (ρ := ρ) (nx := s'.nx) hH (o' := s'.o) ho hfr hinj (fun b hb => .inl hb) hH.old (fun b hb hl => by
    have : liveB φ s.H b := by
      obtain ⟨id', g1, g2⟩ := hl
      have h3 := ho id'
      unfold objLe at h3
      simp only at g1 g2
      split at h3
      · rename_i e; rw [e] at g1; cases g1
      · cases hr : ρ id' with
        | none => rw [hr] at h3; exact h3.elim
        | some id =>
          rw [hr] at h3 g2
          simp only at h3 g2
          split at h3
          · rename_i e; exact ⟨id, by simp only [S.H]; rw [e]; rfl, g2⟩
          · exact h3.elim
      · cases hr : ρ id' with
        | none => rw [hr] at g2; simp [blk] at g2
        | some id =>
          rw [hr] at h3 g2
          simp only at h3 g2
          split at h3
          · rename_i e; exact ⟨id, by simp only [S.H]; rw [e]; rfl, g2⟩
          · exact h3.elim
      · rename_i e; rw [e] at g1; cases g1
      · cases hr : ρ id' with
        | none => rw [hr] at h3; exact h3.elim
        | some id =>
          rw [hr] at h3 g2
          simp only at h3 g2
          split at h3
          · rename_i e; exact ⟨id, by simp only [S.H]; rw [e]; rfl, g2⟩
          · exact h3.elim
      · cases hr : ρ id' with
        | none => rw [hr] at h3; exact h3.elim
        | some id =>
          rw [hr] at h3 g2
          simp only at h3 g2
          split at h3
          · rename_i e; exact ⟨id, by simp only [S.H]; rw [e]; rfl, g2⟩
          · exact h3.elim
    exact (hH.ours b this).1 hb)
  refine ⟨_, h1, fun i => h4 _ _ _ (henv i) (he i), h2, hb, fun id hid hr => ?_, fun id e' hid he' => ?_⟩
  · obtain ⟨g1, _⟩ := hlow id hid
    refine ⟨?_, by simp only [g1]⟩
    have h3 := ho id
    unfold objLe at h3
    rw [g1] at h3
    split at h3
    · rename_i e; rw [e] at hr; cases hr
    · simp only at h3
      split at h3
      · rename_i e; rw [e]; rfl
      · exact h3.elim
    · rename_i e; rw [e] at hr; cases hr
    · rename_i e; rw [e] at hr; cases hr
    · simp only at h3
      split at h3
      · rename_i e; rw [e]; rfl
      · exact h3.elim
    · simp only at h3
      split at h3
      · rename_i e; rw [e]; rfl
      · exact h3.elim
  · obtain ⟨g1, g2⟩ := hlow id hid
    obtain ⟨e, g3, g4⟩ := g2 e' he'
    exact ⟨e, g3, g4, fun _ => by simp only [g1]⟩
end
end Go.Proofs.Ytaafchgfibbmhaa
namespace Go.Proofs.Ytaafchgfibbmhaa
@[go_sem] theorem envJ_zero (v : V) (l : List V) : envJ (v :: l) 0 = v := rfl
@[go_sem] theorem envJ_succ (v : V) (l : List V) (i : Nat) : envJ (v :: l) (i + 1) = envJ l i := rfl
@[go_sem] theorem envJ_nil (i : Nat) : envJ [] i = .junk := by simp [envJ]
def lookR : List (Nat × Option Nat) → Nat → Option Nat
  | [], id => some id
  | (i, r) :: R, id => if i = id then r else lookR R id
def injR (R : List (Nat × Option Nat)) : List Nat → Bool
  | [] => true
  | i :: l => l.all (fun j => i == j || lookR R i == none || lookR R i != lookR R j) && injR R l
def envLe (ρ : Nat → Option Nat) (o' o : Nat → Obj') (nx : Nat) (env : Nat → V) : List V → Nat → Prop
  | [], _ => True
  | v :: l, i => vle ρ o' o nx v (env i) ∧ envLe ρ o' o nx env l (i + 1)
def objsLe (ρ : Nat → Option Nat) (o' o : Nat → Obj') (nx : Nat) : List Nat → Prop
  | [] => True
  | i :: l => objLe ρ o' o nx i ∧ objsLe ρ o' o nx l
def epLe : Option Nat → Option Nat → Prop
  | none, _ => True
  | some _, none => False
  | some a, some b => b ≤ a
def epsLe (b : Nat) (o' o : Nat → Obj') : List Nat → Prop
  | [] => True
  | i :: l => (i < b → epLe (o' i).epoch (o i).epoch) ∧ epsLe b o' o l
theorem put_out {o : Nat → Obj'} : ∀ (Δ : List (Nat × Obj')) (id : Nat), id ∉ Δ.map (·.1) → put o Δ id = o id := by
  intro Δ
  induction Δ generalizing o with
  | nil => intro id _; rfl
  | cons p Δ ih =>
    intro id h
    simp only [List.map_cons, List.mem_cons, not_or] at h
    rw [put_cons', ih id h.2]
    simp [h.1]
theorem SLe.to {b : Nat} {s : S} (l : List V) (Δ : List (Nat × Obj')) (nx : Nat) (R : List (Nat × Option Nat)) (h1 : decide (b ≤ nx) = true) (h2 : (Δ.map (·.1)).all (· < nx) = true) (h3 : injR R (Δ.map (·.1)) = true) (h4 : R.all (fun r => decide (b ≤ r.1)) = true)
    (h5 : epsLe b (put (fun _ => .no) Δ) s.o (Δ.map (·.1))) (h6 : objsLe (lookR R) (put (fun _ => .no) Δ) s.o nx (Δ.map (·.1))) (h7 : envLe (lookR R) (put (fun _ => .no) Δ) s.o nx s.env l 0) :
    SLe b s ⟨envJ l, put (fun _ => .no) Δ, nx⟩ := by
  have hin : ∀ id, id ∈ Δ.map (·.1) ∨ put (fun _ => Obj'.no) Δ id = .no := fun id => by
    by_cases h : id ∈ Δ.map (·.1)
    · exact .inl h
    · exact .inr (put_out Δ id h)
  have hobj : ∀ (ids : List Nat), objsLe (lookR R) (put (fun _ => .no) Δ) s.o nx ids → ∀ id ∈ ids, objLe (lookR R) (put (fun _ => .no) Δ) s.o nx id := by
    intro ids
    induction ids with
    | nil => intro _ id h; cases h
    | cons i ids ih =>
      intro h id hid
      rcases List.mem_cons.1 hid with rfl | hid
      · exact h.1
      · exact ih h.2 id hid
  have heps : ∀ (ids : List Nat), epsLe b (put (fun _ => .no) Δ) s.o ids → ∀ id ∈ ids, id < b → epLe (put (fun _ => Obj'.no) Δ id).epoch (s.o id).epoch := by
    intro ids
    induction ids with
    | nil => intro _ id h; cases h
    | cons i ids ih =>
      intro h id hid
      rcases List.mem_cons.1 hid with rfl | hid
      · exact h.1
      · exact ih h.2 id hid
  have henv : ∀ (l : List V) (i : Nat), envLe (lookR R) (put (fun _ => .no) Δ) s.o nx s.env l i → ∀ j, vle (lookR R) (put (fun _ => .no) Δ) s.o nx (envJ l j) (s.env (i + j)) := by
    intro l
    induction l with
    | nil => intro i _ j; rw [envJ_nil]; simp [vle]
    | cons v l ih =>
      intro i h j
      cases j with
      | zero => exact h.1
      | succ j =>
        rw [envJ_succ]
        have := ih (i + 1) h.2 j
        rwa [show i + 1 + j = i + (j + 1) by omega] at this
  have hinj : ∀ (ids : List Nat), injR R ids = true → ∀ i ∈ ids, ∀ j ∈ ids, ∀ k, lookR R i = some k → lookR R j = some k → i = j := by
    intro ids
    induction ids with
    | nil => intro _ i h; cases h
    | cons x ids ih =>
      intro h i hi j hj k h1 h2
      simp only [injR, Bool.and_eq_true, List.all_eq_true] at h
      rcases List.mem_cons.1 hi with hi2 | hi2 <;> rcases List.mem_cons.1 hj with hj2 | hj2
      · exact hi2.trans hj2.symm
      · subst hi2
        have := h.1 j hj2
        simp only [Bool.or_eq_true, beq_iff_eq, bne_iff_ne, ne_eq] at this
        rcases this with (e | e) | e
        · exact e
        · rw [h1] at e; cases e
        · exact absurd (h1.trans h2.symm) e
      · subst hj2
        have := h.1 i hi2
        simp only [Bool.or_eq_true, beq_iff_eq, bne_iff_ne, ne_eq] at this
        rcases this with (e | e) | e
        · exact e.symm
        · rw [h2] at e; cases e
        · exact absurd (h2.trans h1.symm) e
      · exact ih h.2 i hi2 j hj2 k h1 h2
  have hlook : ∀ (R : List (Nat × Option Nat)), R.all (fun r => decide (b ≤ r.1)) = true → ∀ id, id < b → lookR R id = some id := by
    intro R
    induction R with
    | nil => intro _ id _; rfl
    | cons r R ih =>
      intro h id hid
      obtain ⟨i, r⟩ := r
      simp only [List.all_cons, Bool.and_eq_true, decide_eq_true_eq] at h
      unfold lookR
      rw [if_neg (by omega)]
      exact ih h.2 id hid
  have hnl : ∀ id, (put (fun _ => Obj'.no) Δ id).live = true → id ∈ Δ.map (·.1) := fun id h => by
    rcases hin id with h' | h'
    · exact h'
    · rw [h'] at h; cases h
  refine SLe.of_map (lookR R) (by simpa using h1) (fun id => ?_) (fun id hid => ?_) (fun i j k g1 g2 g3 g4 => hinj _ h3 i (hnl i g1) j (hnl j g2) k g3 g4) (fun id hid => ⟨hlook R h4 id hid, fun e' he => ?_⟩) (fun i => by simpa using henv l 0 h7 i)
  · rcases hin id with h | h
    · exact hobj _ h6 id h
    · unfold objLe; simp only [h]
  · rcases hin id with h | h
    · have := List.all_eq_true.1 h2 id h
      simp only [decide_eq_true_eq] at this
      simp only at hid
      omega
    · exact h
  · rcases hin id with h | h
    · have := heps _ h5 id h hid
      simp only at he
      rw [he] at this
      cases hs : (s.o id).epoch with
      | none => rw [hs] at this; exact this.elim
      | some e => rw [hs] at this; exact ⟨e, rfl, this⟩
    · simp only [h] at he; cases he
@[go_sem] theorem nonneg_cast (k : Nat) : (0 ≤ (k : Int)) = True := by simp
attribute [go_sem] List.getElem?_map List.length_map Int.toNat_natCast
attribute [go_sem] listV List.flatMap_cons List.flatMap_nil
attribute [go_sem] bin2F un2F isConst cmpF notV mapNil ptrNil nilF sliceF bndF ptrRow rslRow copyF fieldF assertF zeroV
attribute [go_sem] opR V.refs V.refss
attribute [go_sem] envLe objsLe epsLe epLe vle vles objLe lookR froD List.all_nil List.all_cons Option.some.injEq D.int.injEq D.bool.injEq Nat.zero_add Nat.add_zero
theorem wrap64 {n : Int} (h1 : -9223372036854775808 ≤ n) (h2 : n ≤ 9223372036854775807) : IntKind.i64.wrap n = n := by
  unfold IntKind.wrap
  have e1 : ((2:Int) ^ IntKind.i64.bits) = 18446744073709551616 := by decide
  have e2 : ((2:Int) ^ (IntKind.i64.bits - 1)) = 9223372036854775808 := by decide
  have e3 : IntKind.i64.signed = true := rfl
  simp only [e1, e2, e3, Bool.true_and, decide_eq_true_eq]
  split <;> omega
end Go.Proofs.Ytaafchgfibbmhaa
namespace Go.Proofs.Ytaafchgfibbmhaa
def roundQ (id : Nat) (K X : V → (Nat → Obj') → Nat → Prop) (e : Xit) (s : S) : Prop :=
  match e with
  | .normal => ∃ nf m en p c d st pd, s.o id = .loop nf m en p c d st pd ∧ K (.d (.bool true)) (upd s.o id (.loop nf m en p c d .ready none)) s.nx
  | .ret => ∃ nf m en p c d st pd, s.o id = .loop nf m en p c d st pd ∧ K (.d (.bool false)) (upd s.o id (.loop nf m en p c d .done (some .ret))) s.nx
  | .exit j => ∃ nf m en p c d st pd, s.o id = .loop nf m en p c d st pd ∧ K (.d (.bool false)) (upd s.o id (.loop nf m en p c d .done (some (.exit j)))) s.nx
  | .pan v => X v s.o s.nx
def beginQ (P : Program) (n b id : Nat) (icb : IC) (K X : V → (Nat → Obj') → Nat → Prop) (e : Xit) (s : S) : Prop :=
  match e with
  | .normal => ∃ nf m en p c d pd, s.o id = .loop nf m en p c d .ready pd ∧ icW P n b true icb (roundQ id K X) ⟨s.env, upd s.o id (.loop nf m en p c d .busy pd), s.nx⟩
  | .pan v => X v s.o s.nx
  | _ => False
section
variable {P : Program} {M : Nat → Prop} {φ φ0 : Place} {H0 : Hp} {w w0 : World} {n : Nat} {s : S} {a : Act} {cx : Cx}
theorem put_loop_us {id : Nat} {x : Obj'} {s : S} (hlt : id < s.nx) (j : Nat) (hu : (s.H.put [(id, x)]).us j) : j < s.nx := by
  simp only [put_one_us] at hu
  rcases hu with hu | hu
  · exact hu
  · subst hu; exact hlt
theorem params_den {B : Nat → Prop} {H : Hp} {n : Nat} : ∀ (ps : List Nat) (vs : List V) (us : List Value) (env : Nat → V) (tmps : Array Value), tmps.size = n → ps.length = vs.length → V.dens B φ H w vs us → ps.all (fun t => decide (t < n)) = true → (∀ i, V.den B φ H w (env i) (tmps.getD i undef)) →
    ((ps.zip us).foldl (fun tmps p => tmps.setIfInBounds p.1 p.2) tmps).size = n ∧ ∀ i, V.den B φ H w (setP env ps vs i) (((ps.zip us).foldl (fun tmps p => tmps.setIfInBounds p.1 p.2) tmps).getD i undef)
  | [], [], us, env, tmps, hsz, _, hd, _, he => by simp only [V.dens] at hd; subst hd; exact ⟨hsz, he⟩
  | [], v :: vs, us, env, tmps, _, h, _, _, _ => by simp at h
  | t :: ps, [], us, env, tmps, _, h, _, _, _ => by simp at h
  | t :: ps, v :: vs, us, env, tmps, hsz, hl, hd, hp, he => by
    obtain ⟨u, us, rfl, h1, h2⟩ := hd
    simp only [List.all_cons, Bool.and_eq_true, decide_eq_true_eq] at hp
    simp only [List.zip_cons_cons, List.foldl_cons, setP]
    refine params_den ps vs us (upd env t v) (tmps.setIfInBounds t u) (by simp [hsz]) (by simpa using hl) h2 hp.2 (fun i => ?_)
    simp only [upd_apply]
    by_cases hi : i = t
    · subst hi
      have : (tmps.setIfInBounds i u).getD i undef = u := by simp [Array.getD, hsz, hp.1]
      rw [if_pos rfl, this]; exact h1
    · have : (tmps.setIfInBounds t u).getD i undef = tmps.getD i undef := by
        simp only [Array.getD_eq_getD_getElem?]
        rw [Array.getElem?_setIfInBounds_ne (Ne.symm hi)]
      rw [if_neg hi, this]; exact he i
theorem RoundK.of_ic (hmix : P.follows .mixedOrders = true) {id : Nat} {args : List V} {o : Nat → Obj'} {nx : Nat} {K X : V → (Nat → Obj') → Nat → Prop} {env : List V} {ps : List Nat} {ica icb : IC} {st : LoopState} {pd : Option Jmp}
    (ho : o id = .loop P.funcs.size n env ps ica icb st pd) (hlt : id < nx) (hps : ps.all (fun t => decide (t < n)) = true) (hl : args.length = ps.length)
    (h : icW P n nx true ica (beginQ P n nx id icb K X) ⟨setP (envJ env) ps args, o, nx⟩) : RoundK P id args o nx K X := by
  refine ⟨by rw [ho]; rfl, fun M φ w vals b hH hd hφ => ?_⟩
  have hok := hH.ok id
  simp only [ObjOk, hp, ho] at hok
  obtain ⟨b', r, h1, h2, h0, h3, h4, h5, h6, h7, h8, h9⟩ := hok
  rw [hφ] at h1; simp at h1; subst h1
  have hlen := V.dens_length _ _ hd
  have hsz : vals.size = r.params.size := by
    have : r.params.toList.length = ps.length := by rw [h5]
    simp at hlen this; omega
  let tm : Array Value := (ps.zip vals.toList).foldl (fun tmps p => tmps.setIfInBounds p.1 p.2) r.tmps
  have hfold : (r.params.zip vals).foldl (fun tmps (p : Tmp × Value) => tmps.setIfInBounds p.1 p.2) r.tmps = tm := by
    rw [← Array.foldl_toList, Array.toList_zip, h5]
  obtain ⟨p1, p2⟩ := params_den (B := mutB M φ (hp o nx)) (H := hp o nx) (φ := φ) (w := w) ps args vals.toList (envJ env) r.tmps h6 hl.symm hd hps h9
  refine ⟨r.fn, tm, r.assign, r.body, ?_, fun k => ?_⟩
  · simp only [Instr.yield, Sem.run_bind, run_getLoop h2, Result.andThen_ok, hsz, ne_eq, not_true_eq_false, if_false, Sem.run_pure]
    rw [← hfold]
  · 
    let s0 : S := ⟨setP (envJ env) ps args, o, nx⟩
    let a0 : Act := { tmps := tm, defers := [] }
    have hs0 : SimC M φ (hp o nx) w n ⟨[], true⟩ φ s0 a0 w := ⟨hH, Trans.refl _ _ _, p1, ⟨[], rfl, List.nodup_nil, fun _ => rfl, fun r hr => by cases hr⟩, p2⟩
    have nodef : ∀ {φ' s' a' w'}, SimC M φ (hp o nx) w n ⟨[], true⟩ φ' s' a' w' → a'.defers = [] := by
      intro φ' s' a' w' hs
      obtain ⟨ms, g1, _, g3, _⟩ := hs.defers
      rw [g3 rfl] at g1; exact g1
    
    have recd : ∀ {φ' s' a' w'} {nf m : Nat} {en : List V} {p : List Nat} {c d : IC} {st : LoopState} {pd : Option Jmp} (st' : LoopState) (pd' : Option Jmp), SimC M φ (hp o nx) w n ⟨[], true⟩ φ' s' a' w' → s'.o id = .loop nf m en p c d st pd →
        ∃ r', w'.heap[b]? = some (.loop r') ∧ r'.state = st ∧ r'.pending = pd.map Jmp.code ∧
          SimC M φ (hp o nx) w n ⟨[], true⟩ φ' ⟨s'.env, upd s'.o id (.loop nf m en p c d st' pd'), s'.nx⟩ a' { w' with heap := w'.heap.setIfInBounds b (.loop { r' with state := st', pending := pd'.map Jmp.code }) } := by
      intro φ' s' a' w' nf m en p c d st pd st' pd' hs hso
      have hφ' : φ' id = .pointer (some ⟨b, 0, none⟩) := by
        have := (hs.tr.rel.row id hlt (by show (s'.o id).isRow = true; rw [hso]; rfl)).2
        rw [this]; exact hφ
      have hlt' : id < s'.nx := hs.tr.rel.us id hlt
      obtain ⟨r', r1, r2, r3, r4, r5⟩ := turn_loop (st' := st') (pd' := pd') hs.heap hlt' (show s'.H.o id = _ from hso) hφ'
      exact ⟨r', r1, r2, r3, sim_heap hs r4 r5 rfl (put_loop_us hlt')⟩
    have ha := icW_codeW (P := P) (n := n) (b := nx) (rd := true) hmix r.assign _ _ s0 (fun _ _ h => h) (by rw [h7]; exact h)
    refine roundIn_of_wpV h0 (wpV_mono (code_sound (P := P) (H0 := hp o nx) (b := nx) (cx := ⟨[], true⟩) (ro := some b) (fun id hu => hu) (fun h => by cases h) r.assign _ s0 φ a0 w ha hs0) ?_)
    rintro e a1 w1 ⟨x, s1, φ1, hq, hs1, hm⟩
    cases e <;> cases x <;> first | (exact hm.elim) | skip
    · 
      obtain ⟨nf, m, en, p, c, d, pd1, q1, q2⟩ := hq
      obtain ⟨r', r1, r2, r3, hs2⟩ := recd .busy pd1 hs1 q1
      have hbegin : (Instr.beginRound b).run P w1 = .ok () { w1 with heap := w1.heap.setIfInBounds b (.loop { r' with state := .busy, pending := pd1.map Jmp.code }) } := by
        have e1 : ({ r' with state := .busy } : Loop) = { r' with state := .busy, pending := pd1.map Jmp.code } := by rw [← r3]
        simp only [Instr.beginRound, Sem.run_bind, run_getLoop r1, Result.andThen_ok, run_setObj_loop _ r1, r2, Sem.run_pure, e1]
      refine ⟨_, hbegin, ?_⟩
      
      have hrec := hs2.heap.ok id
      simp only [ObjOk, S.H, upd_apply, if_true] at hrec
      obtain ⟨b2, r2', _, _, _, _, _, _, _, _, _, _⟩ := hrec
      have hb := icW_codeW (P := P) (n := n) (b := nx) (rd := true) hmix r.body _ _ _ (fun _ _ h => h) (by rw [h8]; exact q2)
      refine wpV_mono (code_sound (P := P) (H0 := hp o nx) (b := nx) (cx := ⟨[], true⟩) (ro := some b) (fun id hu => hu) (fun h => by cases h) r.body _ _ φ1 a1 _ hb hs2) ?_
      rintro e a2 w2 ⟨x, s2, φ2, hq2, hs3, hm2⟩
      have fin : ∀ {nf m : Nat} {en : List V} {p : List Nat} {c d : IC} {st : LoopState} {pd : Option Jmp} (jump : Option Jmp) (t : Bool) (st' : LoopState), t = jump.isNone → st' = (if jump.isNone then .ready else .done) → s2.o id = .loop nf m en p c d st pd → K (.d (.bool t)) (upd s2.o id (.loop nf m en p c d st' jump)) s2.nx →
          ∃ v w', (Instr.endRound b (jump.map Jmp.code)).run P w2 = .ok v w' ∧ EndK M φ (hp o nx) w K X (.returned v) w' := by
        intro nf m en p c d st pd jump t st' ht hst ho2 hK
        obtain ⟨r3', g1, g2, g3, hs4⟩ := recd st' jump hs3 ho2
        refine ⟨.bool t, _, ?_, φ2, _, _, _, hs4.heap, hs4.tr, by simp only [V.den, D.den], hK⟩
        subst ht; subst hst
        simp only [Instr.endRound, Sem.run_bind, run_getLoop g1, Result.andThen_ok, run_setObj_loop _ g1, Sem.run_pure, Option.isNone_map]
      cases e <;> cases x <;> first | (exact hm2.elim) | skip
      · obtain ⟨nf, m, en, p, c, d, st, pd, k1, k2⟩ := hq2
        exact fin none true .ready rfl rfl k1 k2
      · rename_i j
        subst hm2
        obtain ⟨nf, m, en, p, c, d, st, pd, k1, k2⟩ := hq2
        exact fin (some (.exit _)) false .done rfl rfl k1 k2
      · obtain ⟨nf, m, en, p, c, d, st, pd, k1, k2⟩ := hq2
        exact fin (some .ret) false .done rfl rfl k1 k2
      · obtain ⟨val, rfl, k2⟩ := hm2
        exact ⟨nodef hs3, φ2, _, _, _, hs3.heap, hs3.tr, val, rfl, k2, hq2⟩
    · exact hq.elim
    · exact hq.elim
    · obtain ⟨val, rfl, k2⟩ := hm
      exact ⟨nodef hs1, φ1, _, _, _, hs1.heap, hs1.tr, val, rfl, k2, hq⟩
end
end Go.Proofs.Ytaafchgfibbmhaa
