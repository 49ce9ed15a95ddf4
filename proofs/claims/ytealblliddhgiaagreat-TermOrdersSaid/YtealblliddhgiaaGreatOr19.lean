/-
  A PART OF THE PROOF (put together by program): several texts, one behind the other. Conditions: none.
-/
import Derived.Test.YtealblliddhgiaaGreatOr18
set_option linter.unusedSimpArgs false
set_option linter.unusedVariables false
namespace Go.Proofs.YtealblliddhgiaaGreat
def Obj'.isFro : Obj' → Bool
  | .fro .. => true
  | _ => false
def froD (o : Nat → Obj') (v : V) : Option D := if v.ids.all (fun id => (o id).isFro) = true then toD o v else none
section
variable (ρ : Nat → Option Nat) (o' o : Nat → Obj') (nx : Nat)
mutual

def vle : V → V → Prop
  | .junk, _ => True
  | .d x, v => froD o v = some x
  | .nils, v => v = .nils
  | .agg cs, v => match v with | .agg ds => vles cs ds | _ => False
  | .tup cs, v => match v with | .tup ds => vles cs ds | _ => False
  | .ptr id' off', v => match v with | .ptr id off => ρ id' = some id ∧ off' = off ∧ id' < nx | _ => False
  | .osl id' ep', v => id' < nx ∧ (o' id').epoch = some ep' ∧ match v with
    | .nils => ρ id' = none
    | .osl id ep => ρ id' = some id ∧ (o id).epoch = some ep
    | _ => False
  | .pe id' ep' i' sz' off', v => id' < nx ∧ (o' id').epoch = some ep' ∧ match v with
    | .pe id ep i sz off => ρ id' = some id ∧ (o id).epoch = some ep ∧ i' = i ∧ sz' = sz ∧ off' = off
    | _ => False
  | .pp cs off, v => v = .pp cs off
  | .func fn a b, v => match v with | .func fn' a' b' => fn = fn' ∧ vles a a' ∧ vles b b' | _ => False
  | .iface t x, v => match v with | .iface t' y => t = t' ∧ vle x y | _ => False
  | .csl es, v => v = .csl es
  | .rsl id' off' n', v => match v with | .rsl id off n => ρ id' = some id ∧ off' = off ∧ n' = n ∧ id' < nx | _ => False
  | .mp id', v => match v with | .mp id => ρ id' = some id ∧ id' < nx | _ => False
  | .anyb, v => v = .anyb ∨ ∃ b, v = .d (.bool b)
  | .yld id', v => match v with | .yld id => ρ id' = some id ∧ id' < nx | _ => False
def vles : List V → List V → Prop
  | [], vs => vs = []
  | x :: xs, vs => match vs with | v :: vs => vle x v ∧ vles xs vs | [] => False
end
def objLe (id' : Nat) : Prop :=
  match o' id' with
  | .no => True
  | .row cs' => match ρ id' with
    | some id => match o id with | .row cs => vles ρ o' o nx cs' cs | _ => False
    | none => False
  | .arr _ ty sz es => match ρ id' with
    | some id => match o id with | .arr _ ty' sz' es' => ty = ty' ∧ sz = sz' ∧ es = es' | _ => False
    | none => es = [] ∧ 0 < sz
  | .fro _ es => match ρ id' with
    | some id => match o id with | .fro _ es' => es = es' | _ => False
    | none => False
  | .map kt vt l => match ρ id' with
    | some id => match o id with | .map kt' vt' l' => kt = kt' ∧ vt = vt' ∧ l = l' | _ => False
    | none => False
  | .loop nf n env ps a b st pd => match ρ id' with
    | some id => match o id with | .loop nf' n' env' ps' a' b' st' pd' => nf = nf' ∧ n = n' ∧ ps = ps' ∧ a = a' ∧ b = b' ∧ st = st' ∧ pd = pd' ∧ vles ρ o' o nx env env' | _ => False
    | none => False
  | .mfro l => match ρ id' with
    | some id => match o id with | .mfro l' => l = l' | _ => False
    | none => False
  | .mit l last => match ρ id' with
    | some id => match o id with | .mit l' last' => l = l' ∧ (last = none ∨ last = last') | _ => False
    | none => False
  | .sit s pos => match ρ id' with
    | some id => match o id with | .sit s' pos' => s = s' ∧ pos = pos' | _ => False
    | none => False
end
section
variable {M M' : Nat → Prop} {φ φ' : Place} {H H' : Hp} {w : World} {ρ : Nat → Option Nat} {nx : Nat}
theorem froD_den (hH : HeapOk M φ H w) {v : V} {x : D} {val : Value} (h : froD H.o v = some x) (hd : V.den (mutB M φ H) φ H w v val) : D.den (mutB M φ H) w x val := by
  unfold froD at h
  split at h
  · rename_i ha
    refine toD_den hH (o := H.o) v x val (fun id hid => ?_) h hd
    have := List.all_eq_true.1 ha id hid
    cases ho : H.o id <;> rw [ho] at this <;> simp [Obj'.isFro] at this
    rfl
  · cases h
mutual
theorem vle_den (hH : HeapOk M φ H w) (hsub : ∀ b, Cellish w b → ¬ mutB M φ H b → ¬ mutB M' φ' H' b) (hφ : ∀ id, φ' id = match ρ id with | some j => φ j | none => .slice none 0 0)
    (hus : ∀ id, id < nx → H'.us id) (hrow : ∀ id' id, ρ id' = some id → (H'.o id').isRow = true → (H.o id).isRow = true) :
    ∀ (x v : V) (val : Value), vle ρ H'.o H.o nx x v → V.den (mutB M φ H) φ H w v val → V.den (mutB M' φ' H') φ' H' w x val
  | .junk, _, _, _, _ => trivial
  | .d x, v, val, h, hd => D.den_mono (fun b hb hn => ⟨rfl, hsub b hb hn⟩) x val (froD_den hH (by simpa [vle] using h) hd)
  | .nils, v, val, h, hd => by simp only [vle] at h; subst h; exact hd
  | .agg cs, v, val, h, hd => by
    unfold vle at h
    split at h
    · obtain ⟨a, rfl, hd, hf⟩ := hd
      exact ⟨a, rfl, vles_den hH hsub hφ hus hrow _ _ _ h hd, hf⟩
    · exact h.elim
  | .tup cs, v, val, h, hd => by
    unfold vle at h
    split at h
    · obtain ⟨a, rfl, hd⟩ := hd
      exact ⟨a, rfl, vles_den hH hsub hφ hus hrow _ _ _ h hd⟩
    · exact h.elim
  | .ptr id' off', v, val, h, hd => by
    unfold vle at h
    split at h
    · obtain ⟨h1, rfl, h3⟩ := h
      obtain ⟨g1, _, g3⟩ := hd
      refine ⟨g1, hus _ h3, fun hr => ?_⟩
      obtain ⟨b, k1, k2⟩ := g3 (hrow _ _ h1 hr)
      exact ⟨b, by rw [hφ, h1]; exact k1, k2⟩
    · exact h.elim
  | .osl id' ep', v, val, h, hd => by
    unfold vle at h
    obtain ⟨h1, h2, h3⟩ := h
    split at h3
    · simp only [V.den] at hd; subst hd
      refine ⟨rfl, hus _ h1, fun e he => ?_⟩
      rw [h2] at he; injection he with he; subst he
      exact ⟨Nat.le_refl _, fun _ => by rw [hφ, h3]⟩
    · obtain ⟨g1, _, g3⟩ := hd
      refine ⟨g1, hus _ h1, fun e he => ?_⟩
      rw [h2] at he; injection he with he; subst he
      exact ⟨Nat.le_refl _, fun _ => by rw [hφ, h3.1]; exact (g3 _ h3.2).2 rfl⟩
    · exact h3.elim
  | .pe id' ep' i' sz' off', v, val, h, hd => by
    unfold vle at h
    obtain ⟨h1, h2, h3⟩ := h
    split at h3
    · obtain ⟨h3, h4, rfl, rfl, rfl⟩ := h3
      obtain ⟨g1, _, g3⟩ := hd
      refine ⟨g1, hus _ h1, fun e he => ?_⟩
      rw [h2] at he; injection he with he; subst he
      refine ⟨Nat.le_refl _, fun _ => ?_⟩
      obtain ⟨b, n, c, k1, k2⟩ := (g3 _ h4).2 rfl
      exact ⟨b, n, c, by rw [hφ, h3]; exact k1, k2⟩
    · exact h3.elim
  | .pp cs off, v, val, h, hd => by
    simp only [vle] at h; subst h
    obtain ⟨a, ev, h1, h2, h3, h5, h4⟩ := hd
    exact ⟨a, ev, h1, h2, D.dens_mono (fun b hb hn => ⟨rfl, hsub b hb hn⟩) cs ev h3, h5, h4.mono (fun b hb hn => ⟨rfl, hsub b hb hn⟩)⟩
  | .func fn a b, v, val, h, hd => by
    unfold vle at h
    split at h
    · obtain ⟨rfl, h1, h2⟩ := h
      obtain ⟨f, c, rfl, k1, k2⟩ := hd
      exact ⟨f, c, rfl, vles_den hH hsub hφ hus hrow _ _ _ h1 k1, vles_den hH hsub hφ hus hrow _ _ _ h2 k2⟩
    · exact h.elim
  | .iface t x, v, val, h, hd => by
    unfold vle at h
    split at h
    · obtain ⟨rfl, h1⟩ := h
      obtain ⟨u, rfl, k1⟩ := hd
      exact ⟨u, rfl, vle_den hH hsub hφ hus hrow _ _ _ h1 k1⟩
    · exact h.elim
  | .csl es, v, val, h, hd => by
    simp only [vle] at h; subst h
    exact ⟨D.den_mono (fun b hb hn => ⟨rfl, hsub b hb hn⟩) (.sl es) val hd.1, hd.2⟩
  | .rsl id' off' n', v, val, h, hd => by
    unfold vle at h
    split at h
    · obtain ⟨h1, rfl, rfl, h3⟩ := h
      obtain ⟨g1, _, g3⟩ := hd
      refine ⟨g1, hus _ h3, fun hr => ?_⟩
      obtain ⟨b, k1, k2⟩ := g3 (hrow _ _ h1 hr)
      exact ⟨b, by rw [hφ, h1]; exact k1, k2⟩
    · exact h.elim
  | .mp id', v, val, h, hd => by
    unfold vle at h
    split at h
    · obtain ⟨h1, h3⟩ := h
      obtain ⟨g1, _, g3⟩ := hd
      exact ⟨g1, hus _ h3, fun hr => by rw [hφ, h1]; exact g3 (hrow _ _ h1 hr)⟩
    · exact h.elim
  | .anyb, v, val, h, hd => by
    unfold vle at h
    rcases h with rfl | ⟨b, rfl⟩
    · exact hd
    · exact ⟨b, hd⟩
  | .yld id', v, val, h, hd => by
    unfold vle at h
    split at h
    · obtain ⟨h1, h3⟩ := h
      obtain ⟨g1, _, g3⟩ := hd
      refine ⟨g1, hus _ h3, fun hr => ?_⟩
      obtain ⟨b, k1, k2⟩ := g3 (hrow _ _ h1 hr)
      exact ⟨b, by rw [hφ, h1]; exact k1, k2⟩
    · exact h.elim
theorem vles_den (hH : HeapOk M φ H w) (hsub : ∀ b, Cellish w b → ¬ mutB M φ H b → ¬ mutB M' φ' H' b) (hφ : ∀ id, φ' id = match ρ id with | some j => φ j | none => .slice none 0 0)
    (hus : ∀ id, id < nx → H'.us id) (hrow : ∀ id' id, ρ id' = some id → (H'.o id').isRow = true → (H.o id).isRow = true) :
    ∀ (xs vs : List V) (vals : List Value), vles ρ H'.o H.o nx xs vs → V.dens (mutB M φ H) φ H w vs vals → V.dens (mutB M' φ' H') φ' H' w xs vals
  | [], vs, vals, h, hd => by simp only [vles] at h; subst h; exact hd
  | x :: xs, vs, vals, h, hd => by
    unfold vles at h
    split at h
    · obtain ⟨u, us, rfl, k1, k2⟩ := hd
      exact ⟨u, us, rfl, vle_den hH hsub hφ hus hrow _ _ _ h.1 k1, vles_den hH hsub hφ hus hrow _ _ _ h.2 k2⟩
    · exact h.elim
end
theorem heap_sub (hH : HeapOk M φ H w) {o' : Nat → Obj'} (ho : ∀ id, objLe ρ o' H.o nx id) (hfr : ∀ id, nx ≤ id → o' id = .no)
    (hinj : ∀ i j k, (o' i).live = true → (o' j).live = true → ρ i = some k → ρ j = some k → i = j)
    (hM : ∀ b, M' b → mutB M φ H b) (hMlt : ∀ b, M' b → b < w.heap.size) (hMapart : ∀ b, M' b → ¬ liveB (fun id => match ρ id with | some j => φ j | none => .slice none 0 0) ⟨o', fun id => id < nx⟩ b) :
    let φ' : Place := fun id => match ρ id with | some j => φ j | none => .slice none 0 0
    let H' : Hp := ⟨o', fun id => id < nx⟩
    HeapOk M' φ' H' w ∧ (∀ b, liveB φ' H' b → liveB φ H b) ∧ (∀ b, Cellish w b → ¬ mutB M φ H b → ¬ mutB M' φ' H' b) ∧
      (∀ x v val, vle ρ o' H.o nx x v → V.den (mutB M φ H) φ H w v val → V.den (mutB M' φ' H') φ' H' w x val) := by
  intro φ' H'
  have hrow : ∀ id' id, ρ id' = some id → (H'.o id').isRow = true → (H.o id).isRow = true := by
    intro id' id h1 h2
    have h3 := ho id'
    unfold objLe at h3
    simp only [H'] at h2
    split at h3
    · rename_i e; rw [e] at h2; cases h2
    · rw [h1] at h3
      simp only at h3
      split at h3
      · rename_i e; rw [e]; rfl
      · exact h3.elim
    · rename_i e; rw [e] at h2; cases h2
    · rename_i e; rw [e] at h2; cases h2
    · rw [h1] at h3
      simp only at h3
      split at h3
      · rename_i e; rw [e]; rfl
      · exact h3.elim
    · rw [h1] at h3
      simp only at h3
      split at h3
      · rename_i e; rw [e]; rfl
      · exact h3.elim
    · rw [h1] at h3
      simp only at h3
      split at h3
      · rename_i e; rw [e]; rfl
      · exact h3.elim
    · rw [h1] at h3
      simp only at h3
      split at h3
      · rename_i e; rw [e]; rfl
      · exact h3.elim
    · rw [h1] at h3
      simp only at h3
      split at h3
      · rename_i e; rw [e]; rfl
      · exact h3.elim
  have hlive : ∀ id' b, (o' id').live = true → blk (φ' id') = some b → ∃ id, ρ id' = some id ∧ (H.o id).live = true ∧ blk (φ id) = some b := by
    intro id' b h1 h2
    have h3 := ho id'
    unfold objLe at h3
    simp only [φ'] at h2
    split at h3
    · rename_i e; rw [e] at h1; cases h1
    · cases hr : ρ id' with
      | none => rw [hr] at h3; exact h3.elim
      | some id =>
        rw [hr] at h3 h2
        simp only at h3 h2
        split at h3
        · rename_i e; exact ⟨id, rfl, by rw [e]; rfl, h2⟩
        · exact h3.elim
    · cases hr : ρ id' with
      | none => rw [hr] at h2; simp [blk] at h2
      | some id =>
        rw [hr] at h3 h2
        simp only at h3 h2
        split at h3
        · rename_i e; exact ⟨id, rfl, by rw [e]; rfl, h2⟩
        · exact h3.elim
    · rename_i e; rw [e] at h1; cases h1
    · cases hr : ρ id' with
      | none => rw [hr] at h3; exact h3.elim
      | some id =>
        rw [hr] at h3 h2
        simp only at h3 h2
        split at h3
        · rename_i e; exact ⟨id, rfl, by rw [e]; rfl, h2⟩
        · exact h3.elim
    · cases hr : ρ id' with
      | none => rw [hr] at h3; exact h3.elim
      | some id =>
        rw [hr] at h3 h2
        simp only at h3 h2
        split at h3
        · rename_i e; exact ⟨id, rfl, by rw [e]; rfl, h2⟩
        · exact h3.elim
    · rename_i e; rw [e] at h1; cases h1
    · cases hr : ρ id' with
      | none => rw [hr] at h3; exact h3.elim
      | some id =>
        rw [hr] at h3 h2
        simp only at h3 h2
        split at h3
        · rename_i e; exact ⟨id, rfl, by rw [e]; rfl, h2⟩
        · exact h3.elim
    · cases hr : ρ id' with
      | none => rw [hr] at h3; exact h3.elim
      | some id =>
        rw [hr] at h3 h2
        simp only at h3 h2
        split at h3
        · rename_i e; exact ⟨id, rfl, by rw [e]; rfl, h2⟩
        · exact h3.elim
  have hlb : ∀ b, liveB φ' H' b → liveB φ H b := by
    rintro b ⟨id', h1, h2⟩
    obtain ⟨id, _, h3, h4⟩ := hlive id' b h1 h2
    exact ⟨id, h3, h4⟩
  have hmut : ∀ b, mutB M' φ' H' b → mutB M φ H b := by
    rintro b (h | h)
    · exact hM b h
    · exact .inr (hlb b h)
  have hsub : ∀ b, Cellish w b → ¬ mutB M φ H b → ¬ mutB M' φ' H' b := fun b _ h k => h (hmut b k)
  have hvs := vles_den (M' := M') (φ' := φ') (H' := H') (ρ := ρ) (nx := nx) hH hsub (fun _ => rfl) (fun _ h => h) hrow
  refine ⟨⟨fun id' => ?_, fun id hn => hfr id (by simpa [H'] using hn), fun i j b h1 h2 h3 h4 => ?_, fun b hb => ⟨fun hm => hMapart b hm hb, (hH.ours b (hlb b hb)).2⟩, hMlt⟩, hlb, hsub,
    vle_den (M' := M') (φ' := φ') (H' := H') (ρ := ρ) (nx := nx) hH hsub (fun _ => rfl) (fun _ h => h) hrow⟩
  · have h3 := ho id'
    unfold objLe at h3
    unfold ObjOk
    simp only [H']
    split at h3
    · rename_i e; rw [e]; trivial
    · rename_i cs' e
      rw [e]
      cases hr : ρ id' with
      | none => rw [hr] at h3; exact h3.elim
      | some id =>
        rw [hr] at h3
        simp only at h3
        split at h3
        · rename_i cs e2
          have := hH.ok id
          unfold ObjOk at this
          rw [e2] at this
          obtain ⟨b, carr, ty, k1, k2, k3, k4⟩ := this
          exact ⟨b, carr, ty, by simp only [φ', hr]; exact k1, k2, hvs _ _ _ h3 k3, k4⟩
        · exact h3.elim
    · rename_i ep ty sz es e
      rw [e]
      cases hr : ρ id' with
      | none =>
        rw [hr] at h3
        obtain ⟨rfl, h4⟩ := h3
        exact ⟨h4, [], by simp only [φ', hr]; exact World.ownsRow_nil _ _ _ _, [], by simp, by simp, rfl⟩
      | some id =>
        rw [hr] at h3
        simp only at h3
        split at h3
        · rename_i e2
          obtain ⟨rfl, rfl, rfl⟩ := h3
          have := hH.ok id
          unfold ObjOk at this
          rw [e2] at this
          obtain ⟨k1, xs, k2, evs, k3, k4, k5⟩ := this
          exact ⟨k1, xs, by simp only [φ', hr]; exact k2, evs, k3, k4, D.dens_mono (fun b hb hn => ⟨rfl, hsub b hb hn⟩) _ _ k5⟩
        · exact h3.elim
    · rename_i ep es e
      rw [e]
      cases hr : ρ id' with
      | none => rw [hr] at h3; exact h3.elim
      | some id =>
        rw [hr] at h3
        simp only at h3
        split at h3
        · rename_i e2
          subst h3
          have := hH.ok id
          unfold ObjOk at this
          rw [e2] at this
          simp only [φ', hr]
          exact D.den_mono (fun b hb hn => ⟨rfl, hsub b hb hn⟩) _ _ this
        · exact h3.elim
    · rename_i kt vt l e
      rw [e]
      cases hr : ρ id' with
      | none => rw [hr] at h3; exact h3.elim
      | some id =>
        rw [hr] at h3
        simp only at h3
        split at h3
        · rename_i e2
          obtain ⟨rfl, rfl, rfl⟩ := h3
          have := hH.ok id
          unfold ObjOk at this
          rw [e2] at this
          obtain ⟨b, es, clock, k1, k2, k4, k3⟩ := this
          exact ⟨b, es, clock, by simp only [φ', hr]; exact k1, k2, k4, EntsDen.mono (fun b hb hn => ⟨rfl, hsub b hb hn⟩) _ _ k3⟩
        · exact h3.elim
    · rename_i nf n env ps a b st pd e
      rw [e]
      cases hr : ρ id' with
      | none => rw [hr] at h3; exact h3.elim
      | some id =>
        rw [hr] at h3
        simp only at h3
        split at h3
        · rename_i e2
          obtain ⟨rfl, rfl, rfl, rfl, rfl, rfl, rfl, hv⟩ := h3
          have := hH.ok id
          unfold ObjOk at this
          rw [e2] at this
          obtain ⟨b, r, k1, k2, k3, k4, k5, k6, k7, k8, k9, k10⟩ := this
          refine ⟨b, r, by simp only [φ', hr]; exact k1, k2, k3, k4, k5, k6, k7, k8, k9, fun i => ?_⟩
          have key : ∀ (xs vs : List V), vles ρ o' H.o nx xs vs → ∀ i, vle ρ o' H.o nx (envJ xs i) (envJ vs i) := by
            intro xs
            induction xs with
            | nil => intro vs hv i; simp [envJ, vle]
            | cons x xs ih =>
              intro vs hv i
              unfold vles at hv
              split at hv
              · cases i with
                | zero => exact hv.1
                | succ i => exact ih _ hv.2 i
              · exact hv.elim
          exact vle_den (M' := M') (φ' := φ') (H' := H') (ρ := ρ) (nx := nx) hH hsub (fun _ => rfl) (fun _ h => h) hrow _ _ _ (key _ _ hv i) (k10 i)
        · exact h3.elim
    · rename_i l e
      rw [e]
      cases hr : ρ id' with
      | none => rw [hr] at h3; exact h3.elim
      | some id =>
        rw [hr] at h3
        simp only at h3
        split at h3
        · rename_i e2
          subst h3
          have := hH.ok id
          unfold ObjOk at this
          rw [e2] at this
          simp only [φ', hr]
          exact D.den_mono (fun b hb hn => ⟨rfl, hsub b hb hn⟩) _ _ this
        · exact h3.elim
    · rename_i l last e
      rw [e]
      cases hr : ρ id' with
      | none => rw [hr] at h3; exact h3.elim
      | some id =>
        rw [hr] at h3
        simp only at h3
        split at h3
        · rename_i last' e2
          obtain ⟨rfl, h3⟩ := h3
          have := hH.ok id
          unfold ObjOk at this
          rw [e2] at this
          obtain ⟨b, k1, k2⟩ := this
          have k3 : IterOk (mutB M' φ' H') w l last' b := k2.mono (fun b hb hn => ⟨rfl, hsub b hb hn⟩) rfl
          refine ⟨b, by simp only [φ', hr]; exact k1, ?_⟩
          rcases h3 with rfl | rfl
          · rcases k3 with ⟨a1, a2, _⟩ | ⟨m, since, seen, es, a1, a2, a3, a4, a5, _⟩
            · exact .inl ⟨a1, a2, rfl⟩
            · exact .inr ⟨m, since, seen, es, a1, a2, a3, a4, a5, fun _ _ e => by cases e⟩
          · exact k3
        · exact h3.elim
    · rename_i s pos e
      rw [e]
      cases hr : ρ id' with
      | none => rw [hr] at h3; exact h3.elim
      | some id =>
        rw [hr] at h3
        simp only at h3
        split at h3
        · rename_i e2
          obtain ⟨rfl, rfl⟩ := h3
          have := hH.ok id
          unfold ObjOk at this
          rw [e2] at this
          obtain ⟨b, k1, k2⟩ := this
          exact ⟨b, by simp only [φ', hr]; exact k1, k2⟩
        · exact h3.elim
  · obtain ⟨k1, g1, g2, g3⟩ := hlive i b h1 h3
    obtain ⟨k2, g4, g5, g6⟩ := hlive j b h2 h4
    have := hH.apart k1 k2 b g2 g5 g3 g6
    subst this
    exact hinj i j k1 h1 h2 g1 g4
theorem SLe.of_map {b : Nat} {s s' : S} (ρ : Nat → Option Nat) (hb : b ≤ s'.nx) (ho : ∀ id, objLe ρ s'.o s.o s'.nx id) (hfr : ∀ id, s'.nx ≤ id → s'.o id = .no)
    (hinj : ∀ i j k, (s'.o i).live = true → (s'.o j).live = true → ρ i = some k → ρ j = some k → i = j)
    (hlow : ∀ id, id < b → ρ id = some id ∧ (∀ e', (s'.o id).epoch = some e' → ∃ e, (s.o id).epoch = some e ∧ e ≤ e')) (henv : ∀ i, vle ρ s'.o s.o s'.nx (s'.env i) (s.env i)) : SLe b s s' := by
  intro M φ w tm hH he
  obtain ⟨h1, h2, _, h4⟩ := heap_sub (M' := M) (ρ := ρ) (nx := s'.nx) hH (o' := s'.o) ho hfr hinj (fun b hb => .inl hb) hH.old (fun b hb hl => by
    have : liveB φ s.H b := by
      obtain ⟨id', g1, g2⟩ := hl
      have h3 := ho id'
      unfold objLe at h3
      simp only at g1 g2
      split at h3
      · rename_i e; rw [e] at g1; cases g1
      · cases hr : ρ id' with
        | none => rw [hr] at h3; exact h3.elim
        | some id =>
          rw [hr] at h3 g2
          simp only at h3 g2
          split at h3
          · rename_i e; exact ⟨id, by simp only [S.H]; rw [e]; rfl, g2⟩
          · exact h3.elim
      · cases hr : ρ id' with
        | none => rw [hr] at g2; simp [blk] at g2
        | some id =>
          rw [hr] at h3 g2
          simp only at h3 g2
          split at h3
          · rename_i e; exact ⟨id, by simp only [S.H]; rw [e]; rfl, g2⟩
          · exact h3.elim
      · rename_i e; rw [e] at g1; cases g1
      · cases hr : ρ id' with
        | none => rw [hr] at h3; exact h3.elim
        | some id =>
          rw [hr] at h3 g2
          simp only at h3 g2
          split at h3
          · rename_i e; exact ⟨id, by simp only [S.H]; rw [e]; rfl, g2⟩
          · exact h3.elim
      · cases hr : ρ id' with
        | none => rw [hr] at h3; exact h3.elim
        | some id =>
          rw [hr] at h3 g2
          simp only at h3 g2
          split at h3
          · rename_i e; exact ⟨id, by simp only [S.H]; rw [e]; rfl, g2⟩
          · exact h3.elim
      · rename_i e; rw [e] at g1; cases g1
      · cases hr : ρ id' with
        | none => rw [hr] at h3; exact h3.elim
        | some id =>
          rw [hr] at h3 g2
          simp only at h3 g2
          split at h3
          · rename_i e; exact ⟨id, by simp only [S.H]; rw [e]; rfl, g2⟩
          · exact h3.elim
      · cases hr : ρ id' with
        | none => rw [hr] at h3; exact h3.elim
        | some id =>
          rw [hr] at h3 g2
          simp only at h3 g2
          split at h3
          · rename_i e; exact ⟨id, by simp only [S.H]; rw [e]; rfl, g2⟩
          · exact h3.elim
    exact (hH.ours b this).1 hb)
  refine ⟨_, h1, fun i => h4 _ _ _ (henv i) (he i), h2, hb, fun id hid hr => ?_, fun id e' hid he' => ?_⟩
  · obtain ⟨g1, _⟩ := hlow id hid
    refine ⟨?_, by simp only [g1]⟩
    have h3 := ho id
    unfold objLe at h3
    rw [g1] at h3
    split at h3
    · rename_i e; rw [e] at hr; cases hr
    · simp only at h3
      split at h3
      · rename_i e; rw [e]; rfl
      · exact h3.elim
    · rename_i e; rw [e] at hr; cases hr
    · rename_i e; rw [e] at hr; cases hr
    · simp only at h3
      split at h3
      · rename_i e; rw [e]; rfl
      · exact h3.elim
    · simp only at h3
      split at h3
      · rename_i e; rw [e]; rfl
      · exact h3.elim
    · simp only at h3
      split at h3
      · rename_i e; rw [e]; rfl
      · exact h3.elim
    · simp only at h3
      split at h3
      · rename_i e; rw [e]; rfl
      · exact h3.elim
    · simp only at h3
      split at h3
      · rename_i e; rw [e]; rfl
      · exact h3.elim
  · obtain ⟨g1, g2⟩ := hlow id hid
    obtain ⟨e, g3, g4⟩ := g2 e' he'
    exact ⟨e, g3, g4, fun _ => by simp only [g1]⟩
end
end Go.Proofs.YtealblliddhgiaaGreat
namespace Go.Proofs.YtealblliddhgiaaGreat
@[go_sem] theorem envJ_zero (v : V) (l : List V) : envJ (v :: l) 0 = v := rfl
@[go_sem] theorem envJ_succ (v : V) (l : List V) (i : Nat) : envJ (v :: l) (i + 1) = envJ l i := rfl
@[go_sem] theorem envJ_nil (i : Nat) : envJ [] i = .junk := by simp [envJ]
def lookR : List (Nat × Option Nat) → Nat → Option Nat
  | [], id => some id
  | (i, r) :: R, id => if i = id then r else lookR R id
def injR (R : List (Nat × Option Nat)) : List Nat → Bool
  | [] => true
  | i :: l => l.all (fun j => i == j || lookR R i == none || lookR R i != lookR R j) && injR R l
def envLe (ρ : Nat → Option Nat) (o' o : Nat → Obj') (nx : Nat) (env : Nat → V) : List V → Nat → Prop
  | [], _ => True
  | v :: l, i => vle ρ o' o nx v (env i) ∧ envLe ρ o' o nx env l (i + 1)
def objsLe (ρ : Nat → Option Nat) (o' o : Nat → Obj') (nx : Nat) : List Nat → Prop
  | [] => True
  | i :: l => objLe ρ o' o nx i ∧ objsLe ρ o' o nx l
def epLe : Option Nat → Option Nat → Prop
  | none, _ => True
  | some _, none => False
  | some a, some b => b ≤ a
def epsLe (b : Nat) (o' o : Nat → Obj') : List Nat → Prop
  | [] => True
  | i :: l => (i < b → epLe (o' i).epoch (o i).epoch) ∧ epsLe b o' o l
theorem put_out {o : Nat → Obj'} : ∀ (Δ : List (Nat × Obj')) (id : Nat), id ∉ Δ.map (·.1) → put o Δ id = o id := by
  intro Δ
  induction Δ generalizing o with
  | nil => intro id _; rfl
  | cons p Δ ih =>
    intro id h
    simp only [List.map_cons, List.mem_cons, not_or] at h
    rw [put_cons', ih id h.2]
    simp [h.1]
theorem SLe.to {b : Nat} {s : S} (l : List V) (Δ : List (Nat × Obj')) (nx : Nat) (R : List (Nat × Option Nat)) (h1 : decide (b ≤ nx) = true) (h2 : (Δ.map (·.1)).all (· < nx) = true) (h3 : injR R (Δ.map (·.1)) = true) (h4 : R.all (fun r => decide (b ≤ r.1)) = true)
    (h5 : epsLe b (put (fun _ => .no) Δ) s.o (Δ.map (·.1))) (h6 : objsLe (lookR R) (put (fun _ => .no) Δ) s.o nx (Δ.map (·.1))) (h7 : envLe (lookR R) (put (fun _ => .no) Δ) s.o nx s.env l 0) :
    SLe b s ⟨envJ l, put (fun _ => .no) Δ, nx⟩ := by
  have hin : ∀ id, id ∈ Δ.map (·.1) ∨ put (fun _ => Obj'.no) Δ id = .no := fun id => by
    by_cases h : id ∈ Δ.map (·.1)
    · exact .inl h
    · exact .inr (put_out Δ id h)
  have hobj : ∀ (ids : List Nat), objsLe (lookR R) (put (fun _ => .no) Δ) s.o nx ids → ∀ id ∈ ids, objLe (lookR R) (put (fun _ => .no) Δ) s.o nx id := by
    intro ids
    induction ids with
    | nil => intro _ id h; cases h
    | cons i ids ih =>
      intro h id hid
      rcases List.mem_cons.1 hid with rfl | hid
      · exact h.1
      · exact ih h.2 id hid
  have heps : ∀ (ids : List Nat), epsLe b (put (fun _ => .no) Δ) s.o ids → ∀ id ∈ ids, id < b → epLe (put (fun _ => Obj'.no) Δ id).epoch (s.o id).epoch := by
    intro ids
    induction ids with
    | nil => intro _ id h; cases h
    | cons i ids ih =>
      intro h id hid
      rcases List.mem_cons.1 hid with rfl | hid
      · exact h.1
      · exact ih h.2 id hid
  have henv : ∀ (l : List V) (i : Nat), envLe (lookR R) (put (fun _ => .no) Δ) s.o nx s.env l i → ∀ j, vle (lookR R) (put (fun _ => .no) Δ) s.o nx (envJ l j) (s.env (i + j)) := by
    intro l
    induction l with
    | nil => intro i _ j; rw [envJ_nil]; simp [vle]
    | cons v l ih =>
      intro i h j
      cases j with
      | zero => exact h.1
      | succ j =>
        rw [envJ_succ]
        have := ih (i + 1) h.2 j
        rwa [show i + 1 + j = i + (j + 1) by omega] at this
  have hinj : ∀ (ids : List Nat), injR R ids = true → ∀ i ∈ ids, ∀ j ∈ ids, ∀ k, lookR R i = some k → lookR R j = some k → i = j := by
    intro ids
    induction ids with
    | nil => intro _ i h; cases h
    | cons x ids ih =>
      intro h i hi j hj k h1 h2
      simp only [injR, Bool.and_eq_true, List.all_eq_true] at h
      rcases List.mem_cons.1 hi with hi2 | hi2 <;> rcases List.mem_cons.1 hj with hj2 | hj2
      · exact hi2.trans hj2.symm
      · subst hi2
        have := h.1 j hj2
        simp only [Bool.or_eq_true, beq_iff_eq, bne_iff_ne, ne_eq] at this
        rcases this with (e | e) | e
        · exact e
        · rw [h1] at e; cases e
        · exact absurd (h1.trans h2.symm) e
      · subst hj2
        have := h.1 i hi2
        simp only [Bool.or_eq_true, beq_iff_eq, bne_iff_ne, ne_eq] at this
        rcases this with (e | e) | e
        · exact e.symm
        · rw [h2] at e; cases e
        · exact absurd (h2.trans h1.symm) e
      · exact ih h.2 i hi2 j hj2 k h1 h2
  have hlook : ∀ (R : List (Nat × Option Nat)), R.all (fun r => decide (b ≤ r.1)) = true → ∀ id, id < b → lookR R id = some id := by
    intro R
    induction R with
    | nil => intro _ id _; rfl
    | cons r R ih =>
      intro h id hid
      obtain ⟨i, r⟩ := r
      simp only [List.all_cons, Bool.and_eq_true, decide_eq_true_eq] at h
      unfold lookR
      rw [if_neg (by omega)]
      exact ih h.2 id hid
  have hnl : ∀ id, (put (fun _ => Obj'.no) Δ id).live = true → id ∈ Δ.map (·.1) := fun id h => by
    rcases hin id with h' | h'
    · exact h'
    · rw [h'] at h; cases h
  refine SLe.of_map (lookR R) (by simpa using h1) (fun id => ?_) (fun id hid => ?_) (fun i j k g1 g2 g3 g4 => hinj _ h3 i (hnl i g1) j (hnl j g2) k g3 g4) (fun id hid => ⟨hlook R h4 id hid, fun e' he => ?_⟩) (fun i => by simpa using henv l 0 h7 i)
  · rcases hin id with h | h
    · exact hobj _ h6 id h
    · unfold objLe; simp only [h]
  · rcases hin id with h | h
    · have := List.all_eq_true.1 h2 id h
      simp only [decide_eq_true_eq] at this
      simp only at hid
      omega
    · exact h
  · rcases hin id with h | h
    · have := heps _ h5 id h hid
      simp only at he
      rw [he] at this
      cases hs : (s.o id).epoch with
      | none => rw [hs] at this; exact this.elim
      | some e => rw [hs] at this; exact ⟨e, rfl, this⟩
    · simp only [h] at he; cases he
@[go_sem] theorem nonneg_cast (k : Nat) : (0 ≤ (k : Int)) = True := by simp
attribute [go_sem] List.getElem?_map List.length_map Int.toNat_natCast
attribute [go_sem] listV List.flatMap_cons List.flatMap_nil
attribute [go_sem] isConst cmpF notV mapNil ptrNil nilF sliceF bndF ptrRow rslRow copyF fieldF indexF assertF
attribute [go_sem] opR V.refs V.refss
attribute [go_sem] envLe objsLe epsLe epLe vle vles objLe lookR froD List.all_nil List.all_cons Option.some.injEq D.int.injEq D.bool.injEq Nat.zero_add Nat.add_zero
theorem wrap64 {n : Int} (h1 : -9223372036854775808 ≤ n) (h2 : n ≤ 9223372036854775807) : IntKind.i64.wrap n = n := by
  unfold IntKind.wrap
  have e1 : ((2:Int) ^ IntKind.i64.bits) = 18446744073709551616 := by decide
  have e2 : ((2:Int) ^ (IntKind.i64.bits - 1)) = 9223372036854775808 := by decide
  have e3 : IntKind.i64.signed = true := rfl
  simp only [e1, e2, e3, Bool.true_and, decide_eq_true_eq]
  split <;> omega
end Go.Proofs.YtealblliddhgiaaGreat
namespace Go.Proofs.YtealblliddhgiaaGreat
structure Good (o : Nat → Obj') (nx : Nat) : Prop where
  fresh : ∀ id, nx ≤ id → o id = .no
  refs : ∀ id, ∀ r ∈ (o id).refs, r < nx
theorem Good.nil {nx : Nat} : Good (fun _ => .no) nx := ⟨fun _ _ => rfl, fun id r h => by cases h⟩
theorem Good.upd {o : Nat → Obj'} {nx i : Nat} {x : Obj'} (h : Good o nx) (hi : i < nx) (hx : x.refs.all (fun r => decide (r < nx)) = true) : Good (upd o i x) nx := by
  refine ⟨fun id hid => ?_, fun id r hr => ?_⟩
  · rw [upd_ne _ _ _ _ (by omega)]; exact h.fresh id hid
  · by_cases e : id = i
    · subst e
      rw [upd_same] at hr
      simpa using List.all_eq_true.1 hx r hr
    · rw [upd_ne _ _ _ _ e] at hr
      exact h.refs id r hr
theorem Good.mono {o : Nat → Obj'} {nx m : Nat} (h : Good o nx) (hm : nx ≤ m) : Good o m := ⟨fun id hid => h.fresh id (by omega), fun id r hr => Nat.lt_of_lt_of_le (h.refs id r hr) hm⟩
theorem Good.lt {o : Nat → Obj'} {nx id : Nat} (h : Good o nx) (hn : o id ≠ .no) : id < nx := by
  rcases Nat.lt_or_ge id nx with hl | hl
  · exact hl
  · exact absurd (h.fresh id hl) hn
theorem V.refss_get : ∀ (l : List V) (i : Nat), ∀ r ∈ (envJ l i).refs, r ∈ V.refss l
  | [], i, r, h => by rw [envJ_nil] at h; cases h
  | v :: l, 0, r, h => by rw [envJ_zero] at h; simp only [V.refss, List.mem_append]; exact .inl h
  | v :: l, i + 1, r, h => by rw [envJ_succ] at h; simp only [V.refss, List.mem_append]; exact .inr (V.refss_get l i r h)
theorem SLe.back {b : Nat} {s : S} {env : Nat → V} {o : Nat → Obj'} {nx : Nat} (hb : b ≤ nx) (hn : nx ≤ s.nx) (hg : Good o nx) (ho : ∀ id, id < nx → s.o id = o id)
    (he : ∀ i, env i = .junk ∨ (env i = s.env i ∧ ∀ r ∈ (env i).refs, r < nx)) : SLe b s ⟨env, o, nx⟩ := by
  intro M φ w tm hH hd
  have hlive : ∀ k, liveB φ (hp o nx) k → liveB φ s.H k := by
    rintro k ⟨id, h1, h2⟩
    have hid : id < nx := hg.lt (fun e => by simp only [hp] at h1; rw [e] at h1; cases h1)
    exact ⟨id, by simp only [S.H]; rw [ho id hid]; exact h1, h2⟩
  have hB : ∀ k, ¬ mutB M φ s.H k → ¬ mutB M φ (hp o nx) k := fun k h h' => h (h'.imp id (hlive k))
  have hval : ∀ (v : V) (val : Value), (∀ r ∈ v.refs, r < nx) → V.den (mutB M φ s.H) φ s.H w v val → V.den (mutB M φ (hp o nx)) φ (hp o nx) w v val := fun v val hr h =>
    V.den_refs (H := s.H) (H' := hp o nx) hB v val (fun id hid => ⟨(ho id (hr id hid)).symm, rfl, hr id hid⟩) h
  have hvals : ∀ (v : List V) (val : List Value), (∀ r ∈ V.refss v, r < nx) → V.dens (mutB M φ s.H) φ s.H w v val → V.dens (mutB M φ (hp o nx)) φ (hp o nx) w v val := fun v val hr h =>
    V.dens_refs (H := s.H) (H' := hp o nx) hB v val (fun id hid => ⟨(ho id (hr id hid)).symm, rfl, hr id hid⟩) h
  refine ⟨φ, ⟨fun id => ?_, fun id hu => hg.fresh id (by simpa [S.H] using hu), fun i j k h1 h2 h3 h4 => ?_, fun k hk => hH.ours k (hlive k hk), hH.old⟩, fun i => ?_, hlive, hb, fun id hid hr => ?_, fun id e' hid he' => ?_⟩
  · have hall := hH.ok id
    have hrefs := hg.refs id
    unfold ObjOk at hall ⊢
    by_cases hid : id < nx
    · have e : s.H.o id = o id := ho id hid
      rw [e] at hall
      simp only [S.H] at hall ⊢
      cases hx : o id with
      | no => trivial
      | row cs =>
        simp only [hx] at hall hrefs ⊢
        obtain ⟨b, carr, ty, k1, k2, k3, k4⟩ := hall
        exact ⟨b, carr, ty, k1, k2, hvals _ _ hrefs k3, k4⟩
      | arr ep ty sz es =>
        simp only [hx] at hall ⊢
        obtain ⟨k1, xs, k2, evs, k3, k4, k5⟩ := hall
        exact ⟨k1, xs, k2, evs, k3, k4, D.dens_mono (fun b _ hn => ⟨rfl, hB b hn⟩) _ _ k5⟩
      | fro ep es =>
        simp only [hx] at hall ⊢
        exact D.den_mono (fun b _ hn => ⟨rfl, hB b hn⟩) _ _ hall
      | map kt vt es =>
        simp only [hx] at hall ⊢
        obtain ⟨b, es', clock, k1, k2, k4, k3⟩ := hall
        exact ⟨b, es', clock, k1, k2, k4, EntsDen.mono (fun b _ hn => ⟨rfl, hB b hn⟩) _ _ k3⟩
      | mfro l =>
        simp only [hx] at hall ⊢
        exact D.den_mono (fun b _ hn => ⟨rfl, hB b hn⟩) _ _ hall
      | mit l last =>
        simp only [hx] at hall ⊢
        obtain ⟨b, k1, k2⟩ := hall
        exact ⟨b, k1, k2.mono (fun b _ hn => ⟨rfl, hB b hn⟩) rfl⟩
      | sit s pos =>
        simp only [hx] at hall ⊢
        exact hall
      | loop nf n env ps a b st pd =>
        simp only [hx] at hall hrefs ⊢
        obtain ⟨b, r, k1, k2, k3, k4, k5, k6, k7, k8, k9, k10⟩ := hall
        exact ⟨b, r, k1, k2, k3, k4, k5, k6, k7, k8, k9, fun i => hval _ _ (fun r hr => hrefs r (V.refss_get _ _ r hr)) (k10 i)⟩
    · simp only [S.H]
      rw [hg.fresh id (by omega)]
      trivial
  · have hi : i < nx := hg.lt (fun e => by simp only [S.H] at h1; rw [e] at h1; cases h1)
    have hj : j < nx := hg.lt (fun e => by simp only [S.H] at h2; rw [e] at h2; cases h2)
    exact hH.apart i j k (by simp only [S.H]; rw [ho i hi]; exact h1) (by simp only [S.H]; rw [ho j hj]; exact h2) h3 h4
  · rcases he i with h | ⟨h1, h2⟩
    · simp only [h]; trivial
    · have := hd i
      rw [← h1] at this
      exact hval _ _ h2 this
  · have hlt : id < nx := by omega
    exact ⟨by rw [ho id hlt]; exact hr, rfl⟩
  · have hlt : id < nx := by omega
    exact ⟨e', by rw [ho id hlt]; exact he', Nat.le_refl _, fun _ => rfl⟩
def backE (nx : Nat) (env : Nat → V) : List V → Nat → Prop
  | [], _ => True
  | v :: l, i => (v = .junk ∨ (v = env i ∧ ∀ r ∈ v.refs, r < nx)) ∧ backE nx env l (i + 1)
theorem SLe.backL {b : Nat} {e : Nat → V} {so : Nat → Obj'} {m : Nat} (l : List V) {o : Nat → Obj'} {nx : Nat} (hb : b ≤ nx) (hn : nx ≤ m) (hg : Good o nx) (ho : ∀ id, id < nx → so id = o id) (he : backE nx e l 0) : SLe b ⟨e, so, m⟩ ⟨envJ l, o, nx⟩ := by
  refine SLe.back hb hn hg ho ?_
  have key : ∀ (l : List V) (i : Nat), backE nx e l i → ∀ j, envJ l j = .junk ∨ (envJ l j = e (i + j) ∧ ∀ r ∈ (envJ l j).refs, r < nx) := by
    intro l
    induction l with
    | nil => intro i _ j; rw [envJ_nil]; exact .inl rfl
    | cons v l ih =>
      intro i h j
      cases j with
      | zero => rw [envJ_zero]; exact h.1
      | succ j =>
        rw [envJ_succ]
        have := ih (i + 1) h.2 j
        rwa [show i + 1 + j = i + (j + 1) by omega] at this
  intro i
  have := key l 0 he i
  rwa [Nat.zero_add] at this
theorem backE_nil {nx : Nat} {env : Nat → V} {i : Nat} : backE nx env [] i := trivial
theorem backE_junk {nx : Nat} {env : Nat → V} {l : List V} {i : Nat} (h : backE nx env l (i + 1)) : backE nx env (.junk :: l) i := ⟨.inl rfl, h⟩
theorem backE_d {nx : Nat} {env : Nat → V} {l : List V} {i : Nat} {x : D} (he : env i = .d x) (h : backE nx env l (i + 1)) : backE nx env (.d x :: l) i := ⟨.inr ⟨he.symm, fun r hr => by simp [V.refs] at hr⟩, h⟩
theorem backE_v {nx : Nat} {env : Nat → V} {l : List V} {i : Nat} {v : V} (he : env i = v) (hr : ∀ r ∈ v.refs, r < nx) (h : backE nx env l (i + 1)) : backE nx env (v :: l) i := ⟨.inr ⟨he.symm, hr⟩, h⟩
theorem SLe.d0 {e : Nat → V} {so : Nat → Obj'} {m : Nat} (l : List V) (he : backE 0 e l 0) : SLe 0 ⟨e, so, m⟩ ⟨envJ l, fun _ => .no, 0⟩ := SLe.backL l (Nat.le_refl 0) (Nat.zero_le _) Good.nil (fun _ h => absurd h (Nat.not_lt_zero _)) he
theorem wrapN {k : Nat} (h : (k : Int) + 1 ≤ 9223372036854775807) : IntKind.i64.wrap ((k : Int) + 1) = ((k + 1 : Nat) : Int) := by rw [wrap64 (by omega) h]; rfl
theorem d_int {k : IntKind} {a b : Int} (h : a = b) : V.d (D.int k a) = V.d (D.int k b) := by rw [h]
theorem callDR_keep {P : Program} {g : FuncId} {K : KD} {X : XD} {o : Nat → Obj'} {nx fr : Nat} {all : List V} {rd : List Nat} {rs : List D} {Δ : List (Nat × Obj')} (hrd : rd.all (fun id => decide (id < nx)) = true) (h : HCt P g all rd o (.ret rs) Δ) (hk : K (retV rs) Δ rd) : callDR P g K X o nx fr all := by
  unfold callDR
  exact ⟨rd, Δ, hrd, .inl ⟨rs, h, hk⟩⟩
end Go.Proofs.YtealblliddhgiaaGreat
namespace Go.Proofs.YtealblliddhgiaaGreat
abbrev D.i (n : Int) : D := .int .i64 n
structure TNm where
  name : List UInt8
  args : Int
structure TSig where
  cons : List TNm
  funs : List TNm
inductive Tm where
  | mk (op n : Int) (kids : List Tm)
  deriving Inhabited
structure TB where
  var : Int
  term : Tm
def Tm.op : Tm → Int | .mk op _ _ => op
def Tm.n : Tm → Int | .mk _ n _ => n
def Tm.kids : Tm → List Tm | .mk _ _ l => l
theorem Tm.ind {P : Tm → Prop} (h : ∀ op n kids, (∀ k ∈ kids, P k) → P (.mk op n kids)) : ∀ t, P t :=
  fun t => Tm.rec (motive_1 := P) (motive_2 := fun l => ∀ k ∈ l, P k) (fun op n kids ih => h op n kids ih) (fun _ h => by cases h)
    (fun x l hx hl k hk => (List.mem_cons.1 hk).elim (fun e => e ▸ hx) (hl k)) t
mutual
def Tm.d : Tm → D
  | .mk op n kids => .agg [.i op, .i n, .sl (Tm.ds kids)]
def Tm.ds : List Tm → List D
  | [] => []
  | t :: l => t.d :: Tm.ds l
end
theorem Tm.ds_map : ∀ l : List Tm, Tm.ds l = l.map Tm.d
  | [] => rfl
  | t :: l => by simp [Tm.ds, Tm.ds_map l]
theorem Tm.d_eq (t : Tm) : t.d = .agg [.i t.op, .i t.n, .sl (t.kids.map Tm.d)] := by cases t; simp [Tm.d, Tm.ds_map, Tm.op, Tm.n, Tm.kids]
@[go_sem] theorem Tm.d_fold (t : Tm) : D.agg [.i t.op, .i t.n, .sl (t.kids.map Tm.d)] = t.d := (Tm.d_eq t).symm
@[go_sem] theorem Tm.d_cells (t : Tm) : D.cells t.d = [.i t.op, .i t.n, .sl (t.kids.map Tm.d)] := by rw [Tm.d_eq]; rfl
theorem Tm.ind' {P : Tm → Prop} (h : ∀ t : Tm, (∀ k ∈ t.kids, P k) → P t) : ∀ t, P t := Tm.ind fun op n kids ih => h (.mk op n kids) ih
theorem Tm.d_mk (op n : Int) (l : List Tm) : (Tm.mk op n l).d = .agg [.i op, .i n, .sl (l.map Tm.d)] := by simp [Tm.d, Tm.ds_map]
@[reducible] def TNm.d (x : TNm) : D := .agg [.str x.name, .i x.args]
@[reducible] def TSig.d (s : TSig) : D := .agg [.sl (s.cons.map TNm.d), .sl (s.funs.map TNm.d)]
@[reducible] def TB.d (b : TB) : D := .agg [.i b.var, .i b.term.op, .i b.term.n, .sl (b.term.kids.map Tm.d)]
mutual

def Tm.fits : Tm → Prop
  | .mk _ _ kids => kids.length ≤ 9223372036854775807 ∧ Tm.fitss kids
def Tm.fitss : List Tm → Prop
  | [] => True
  | t :: l => t.fits ∧ Tm.fitss l
end
theorem Tm.fitss_iff : ∀ l : List Tm, Tm.fitss l ↔ ∀ k ∈ l, k.fits
  | [] => by simp [Tm.fitss]
  | t :: l => by simp [Tm.fitss, Tm.fitss_iff l]
theorem Tm.fits_iff (t : Tm) : t.fits ↔ t.kids.length ≤ 9223372036854775807 ∧ ∀ k ∈ t.kids, k.fits := by cases t; simp [Tm.fits, Tm.fitss_iff, Tm.kids]
mutual

def Tm.hgt : Tm → Nat
  | .mk _ _ kids => 1 + Tm.hgts kids
def Tm.hgts : List Tm → Nat
  | [] => 0
  | k :: l => Nat.max k.hgt (Tm.hgts l)
end
theorem Tm.hgts_mem : ∀ {l : List Tm} {k : Tm}, k ∈ l → k.hgt ≤ Tm.hgts l
  | x :: l, k, h => by
    simp only [Tm.hgts]
    rcases List.mem_cons.1 h with rfl | h
    · exact Nat.le_max_left _ _
    · exact Nat.le_trans (Tm.hgts_mem h) (Nat.le_max_right _ _)
theorem Tm.hgt_kid {t k : Tm} (h : k ∈ t.kids) : k.hgt + 1 ≤ t.hgt := by
  cases t; simp only [Tm.kids] at h; simp only [Tm.hgt]; have := Tm.hgts_mem h; omega
mutual

def pre : Tm → Int → List (Tm × Int)
  | .mk op n kids, d => (.mk op n kids, d) :: pres kids (d + 1)
def pres : List Tm → Int → List (Tm × Int)
  | [], _ => []
  | k :: l, d => pre k d ++ pres l d
end
theorem pres_flat (l : List Tm) (d : Int) : pres l d = l.flatMap fun k => pre k d := by
  induction l with
  | nil => rfl
  | cons k l ih => simp [pres, ih]
theorem pre_eq (t : Tm) (d : Int) : pre t d = (t, d) :: t.kids.flatMap fun k => pre k (d + 1) := by cases t; simp [pre, pres_flat, Tm.kids]
def inB (n low high : Int) : Bool := decide (low ≤ n) && decide (n ≤ high)
def letterF (b : UInt8) : Bool := !((decide ((b.toNat : Int) < 97) || decide (122 < (b.toNat : Int))) && (decide ((b.toNat : Int) < 65) || decide (90 < (b.toNat : Int))))
def nameF (s : List UInt8) : Bool := s.all letterF && inB s.length 1 8
def namesF : List TNm → List (List UInt8) → Option (List (List UInt8))
  | [], before => some before
  | x :: l, before => if before.any (· == x.name) then none else if (!nameF x.name || !inB x.args 0 4) = true then none else namesF l (before ++ [x.name])
def fB : List UInt8 := [70, 97, 108, 115, 101]
def tB : List UInt8 := [84, 114, 117, 101]
def isNm (x : TNm) (s : List UInt8) : Bool := x.name == s && x.args == 0
def sigF (s : TSig) : Bool :=
  if (!inB s.cons.length 2 12 || decide (8 < (s.funs.length : Int))) = true then false else
  match s.cons with
  | a :: b :: _ => if (!isNm a fB || !isNm b tB) = true then false else
    match namesF s.cons [] with
    | none => false
    | some l => (namesF s.funs l).isSome
  | _ => false
mutual
def weigh : Tm → Int → Int → Int
  | .mk _ _ kids, left, depth => if left < 1 ∨ depth < 1 then -1 else weighs kids (left - 1) (depth - 1)
def weighs : List Tm → Int → Int → Int
  | [], left, _ => left
  | k :: l, left, depth => if 0 ≤ left then weighs l (weigh k left depth) depth else left
end
def argsOf (l : List TNm) (n : Int) : Int := match l[n.toNat]? with | some x => x.args | none => 0
def nodeF (s : TSig) (t : Tm) : Bool :=
  let k : Int := t.kids.length
  if t.op = 1 then k == 0 && inB t.n 0 19
  else if t.op = 2 then k == 0 && inB t.n (-1000000) 1000000
  else if t.op = 3 then inB t.n 0 (s.cons.length - 1) && k == argsOf s.cons t.n
  else if t.op = 4 then inB t.n 0 (s.funs.length - 1) && k == argsOf s.funs t.n
  else if t.op = 5 then inB t.n 0 (s.funs.length - 1) && decide (k < argsOf s.funs t.n)
  else if t.op = 8 then k == 2 && inB t.n 0 19
  else if (inB t.op 6 15) = true then k == 2 && t.n == 0
  else false
mutual
def nodesF (s : TSig) : Tm → Bool
  | .mk op n kids => nodeF s (.mk op n kids) && nodessF s kids
def nodessF (s : TSig) : List Tm → Bool
  | [] => true
  | k :: l => nodesF s k && nodessF s l
end
def termF (s : TSig) (t : Tm) : Bool := decide (0 ≤ weigh t 40 12) && nodesF s t
mutual
def sameF : Tm → Tm → Bool
  | .mk op n kids, .mk op' n' kids' => op == op' && n == n' && kids.length == kids'.length && samesF kids kids'
def samesF : List Tm → List Tm → Bool
  | [], _ => true
  | k :: l, k' :: l' => sameF k k' && samesF l l'
  | _ :: _, [] => true
end
def smallF (t : Tm) : Bool := decide (0 ≤ weigh t 50 14)
def smallNm (l : List TNm) : Bool := l.all fun x => decide ((x.name.length : Int) ≤ 30)
def smallSigF (s : TSig) : Bool := !(decide (16 < (s.cons.length : Int)) || decide (12 < (s.funs.length : Int))) && smallNm s.cons && smallNm s.funs
end Go.Proofs.YtealblliddhgiaaGreat
