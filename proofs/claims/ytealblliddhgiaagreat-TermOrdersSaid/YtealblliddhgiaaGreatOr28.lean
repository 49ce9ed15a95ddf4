/-
  A PART OF THE PROOF (put together by program): several texts, one behind the other. Conditions: none.
-/
import Derived.Test.YtealblliddhgiaaGreatOr27
set_option linter.unusedSimpArgs false
set_option linter.unusedVariables false
namespace Go.Proofs.YtealblliddhgiaaGreat
def Grows (so : Nat → Obj') (c : Nat) (ty : TypeId) (sz : Nat) (es : List D) (x : V) : Prop :=
  (x = .nils ∧ es = [] ∧ 0 < sz) ∨ ∃ id ep, c ≤ id ∧ x = .osl id ep ∧ so id = .arr ep ty sz es
def growE (c : Nat) (x : V) (env : Nat → V) : List V → Nat → Prop
  | [], _ => True
  | v :: l, i => (v = .junk ∨ (v = env i ∧ ∀ r ∈ v.refs, r < c) ∨ (v = .osl c 0 ∧ env i = x)) ∧ growE c x env l (i + 1)
theorem growE_at {c : Nat} {x : V} {env : Nat → V} : ∀ (l : List V) (i : Nat), growE c x env l i → ∀ j, envJ l j = .junk ∨ (envJ l j = env (i + j) ∧ ∀ r ∈ (envJ l j).refs, r < c) ∨ (envJ l j = .osl c 0 ∧ env (i + j) = x)
  | [], i, _, j => by rw [envJ_nil]; exact .inl rfl
  | v :: l, i, h, 0 => by rw [envJ_zero]; exact h.1
  | v :: l, i, h, j + 1 => by
    rw [envJ_succ]
    have := growE_at l (i + 1) h.2 j
    rwa [show i + 1 + j = i + (j + 1) by omega] at this
def growPl (φ : Place) (c : Nat) (x : V) : Place := fun id => if id = c then (match x with | .osl id _ => φ id | _ => .slice none 0 0) else φ id
theorem SLe.grow {b : Nat} {e : Nat → V} {so : Nat → Obj'} {m : Nat} (l : List V) {o : Nat → Obj'} {c : Nat} {ty : TypeId} {sz : Nat} {es : List D} (x : V) (hb : b ≤ c) (hcm : c ≤ m) (hg : Good o c) (ho : ∀ id, id < c → so id = o id) (hx : Grows so c ty sz es x) (he : growE c x e l 0) :
    SLe b ⟨e, so, m⟩ ⟨envJ l, upd o c (.arr 0 ty sz es), c + 1⟩ := by
  intro M φ w tm hH hd
  let φ' : Place := growPl φ c x
  let o' : Nat → Obj' := upd o c (.arr 0 ty sz es)
  let H' : Hp := hp o' (c + 1)
  let H : Hp := ⟨so, fun id => id < m⟩
  have hoc : o' c = .arr 0 ty sz es := upd_same _ _ _
  have hol : ∀ id, id < c → o' id = o id := fun id hid => upd_ne _ _ _ _ (by omega)
  have hoh : ∀ id, c < id → o' id = .no := fun id hid => by rw [show o' id = o id from upd_ne _ _ _ _ (by omega)]; exact hg.fresh id (by omega)
  have hφl : ∀ id, id < c → φ' id = φ id := fun id hid => if_neg (by omega)
  have hφn : x = .nils → φ' c = .slice none 0 0 := fun h => by simp only [φ', growPl, h, if_pos]
  have hφc : ∀ id ep, x = .osl id ep → φ' c = φ id := fun id ep h => by simp only [φ', growPl, if_pos, h]
  
  have hold : ∀ id k, (o' id).live = true → blk (φ' id) = some k → ∃ j, (so j).live = true ∧ blk (φ j) = some k ∧ ((id < c ∧ j = id) ∨ (id = c ∧ c ≤ j)) := by
    intro id k h1 h2
    rcases Nat.lt_trichotomy id c with hlt | heq | hgt
    · rw [hol id hlt] at h1; rw [hφl id hlt] at h2
      exact ⟨id, by rw [ho id hlt]; exact h1, h2, .inl ⟨hlt, rfl⟩⟩
    · subst heq
      rcases hx with ⟨rfl, _, _⟩ | ⟨j, ep, hj, rfl, hso⟩
      · rw [hφn rfl] at h2; cases h2
      · rw [hφc j ep rfl] at h2
        exact ⟨j, by rw [hso]; rfl, h2, .inr ⟨rfl, hj⟩⟩
    · rw [hoh id hgt] at h1; cases h1
  have hlive : ∀ k, liveB φ' H' k → liveB φ H k := by
    rintro k ⟨id, h1, h2⟩
    obtain ⟨j, g1, g2, _⟩ := hold id k h1 h2
    exact ⟨j, g1, g2⟩
  have hB : ∀ k, ¬ mutB M φ H k → ¬ mutB M φ' H' k := fun k h h' => h (h'.imp id (hlive k))
  have hin : ∀ id, id < c → H'.o id = H.o id ∧ φ' id = φ id ∧ H'.us id := fun id hid => ⟨(hol id hid).trans (ho id hid).symm, hφl id hid, (by show id < c + 1; omega)⟩
  have hval : ∀ (v : V) (val : Value), (∀ r ∈ v.refs, r < c) → V.den (mutB M φ H) φ H w v val → V.den (mutB M φ' H') φ' H' w v val := fun v val hr h =>
    V.den_refs (H := H) (H' := H') hB v val (fun id hid => hin id (hr id hid)) h
  have hvals : ∀ (v : List V) (val : List Value), (∀ r ∈ V.refss v, r < c) → V.dens (mutB M φ H) φ H w v val → V.dens (mutB M φ' H') φ' H' w v val := fun v val hr h =>
    V.dens_refs (H := H) (H' := H') hB v val (fun id hid => hin id (hr id hid)) h
  refine ⟨φ', ⟨fun id => ?_, fun id hu => hoh id (by have : ¬ id < c + 1 := hu; omega), fun i j k h1 h2 h3 h4 => ?_, fun k hk => hH.ours k (hlive k hk), hH.old⟩, fun i => ?_, hlive, by show b ≤ c + 1; omega, fun id hid hr => ?_, fun id e' hid he' => ?_⟩
  · have hall := hH.ok id
    have hrefs := hg.refs id
    show ObjOk M φ' H' w id
    unfold ObjOk at hall ⊢
    rcases Nat.lt_trichotomy id c with hlt | heq | hgt
    · have e1 : (S.H ⟨e, so, m⟩).o id = o id := ho id hlt
      rw [e1] at hall
      have e2 : H'.o id = o id := hol id hlt
      rw [e2, hφl id hlt]
      cases hx' : o id with
      | no => trivial
      | row cs =>
        simp only [hx'] at hall hrefs ⊢
        obtain ⟨b, carr, ty, k1, k2, k3, k4⟩ := hall
        exact ⟨b, carr, ty, k1, k2, hvals _ _ hrefs k3, k4⟩
      | arr ep ty sz es =>
        simp only [hx'] at hall ⊢
        obtain ⟨k1, xs, k2, evs, k3, k4, k5⟩ := hall
        exact ⟨k1, xs, k2, evs, k3, k4, D.dens_mono (fun b _ hn => ⟨rfl, hB b hn⟩) _ _ k5⟩
      | fro ep es =>
        simp only [hx'] at hall ⊢
        exact D.den_mono (fun b _ hn => ⟨rfl, hB b hn⟩) _ _ hall
      | map kt vt es =>
        simp only [hx'] at hall ⊢
        obtain ⟨b, es', clock, k1, k2, k4, k3⟩ := hall
        exact ⟨b, es', clock, k1, k2, k4, EntsDen.mono (fun b _ hn => ⟨rfl, hB b hn⟩) _ _ k3⟩
      | mfro l =>
        simp only [hx'] at hall ⊢
        exact D.den_mono (fun b _ hn => ⟨rfl, hB b hn⟩) _ _ hall
      | mit l last =>
        simp only [hx'] at hall ⊢
        obtain ⟨b, k1, k2⟩ := hall
        exact ⟨b, k1, k2.mono (fun b _ hn => ⟨rfl, hB b hn⟩) rfl⟩
      | sit s pos =>
        simp only [hx'] at hall ⊢
        exact hall
      | loop nf n env ps a b st pd =>
        simp only [hx'] at hall hrefs ⊢
        obtain ⟨b, r, k1, k2, k3, k4, k5, k6, k7, k8, k9, k10⟩ := hall
        exact ⟨b, r, k1, k2, k3, k4, k5, k6, k7, k8, k9, fun i => hval _ _ (fun r hr => hrefs r (V.refss_get _ _ r hr)) (k10 i)⟩
    · subst heq
      have e2 : H'.o id = .arr 0 ty sz es := hoc
      rw [e2]
      rcases hx with ⟨rfl, rfl, hsz⟩ | ⟨j, ep, hj, rfl, hso⟩
      · refine ⟨hsz, [], ?_, [], by simp, by simp, rfl⟩
        rw [hφn rfl]
        exact World.ownsRow_nil _ _ _ _
      · have := hH.ok j
        unfold ObjOk at this
        simp only [S.H, hso] at this
        obtain ⟨k1, xs, k2, evs, k3, k4, k5⟩ := this
        exact ⟨k1, xs, by rw [hφc j ep rfl]; exact k2, evs, k3, k4, D.dens_mono (fun b _ hn => ⟨rfl, hB b hn⟩) _ _ k5⟩
    · have e2 : H'.o id = .no := hoh id hgt
      rw [e2]
      trivial
  · obtain ⟨i', a1, a2, a3⟩ := hold i k h1 h3
    obtain ⟨j', b1, b2, b3⟩ := hold j k h2 h4
    have := hH.apart i' j' k a1 b1 a2 b2
    rcases a3 with ⟨a3, a4⟩ | ⟨a3, a4⟩ <;> rcases b3 with ⟨b3, b4⟩ | ⟨b3, b4⟩ <;> omega
  · have hi := growE_at l 0 he i
    rw [Nat.zero_add] at hi
    rcases hi with h | ⟨h1, h2⟩ | ⟨h1, h2⟩
    · show V.den _ _ _ _ (envJ l i) _
      rw [h]; trivial
    · have := hd i
      simp only at this
      rw [← h1] at this
      exact hval _ _ h2 this
    · have := hd i
      simp only at this
      rw [h2] at this
      show V.den _ _ _ _ (envJ l i) _
      rw [h1]
      rcases hx with ⟨rfl, rfl, hsz⟩ | ⟨j, ep, hj, rfl, hso⟩
      · simp only [V.den] at this
        rw [this]
        refine ⟨rfl, (by show c < c + 1; omega), fun e' he' => ?_⟩
        have he' : (H'.o c).epoch = some e' := he'
        have this : H'.o c = .arr 0 ty sz [] := hoc
        rw [this] at he'
        simp only [Obj'.epoch, Option.some.injEq] at he'
        subst he'
        exact ⟨Nat.le_refl _, fun _ => (hφn rfl).symm⟩
      · obtain ⟨g1, g2, g3⟩ := this
        refine ⟨g1, (by show c < c + 1; omega), fun e' he' => ?_⟩
        have he' : (H'.o c).epoch = some e' := he'
        have this : H'.o c = .arr 0 ty sz es := hoc
        rw [this] at he'
        simp only [Obj'.epoch, Option.some.injEq] at he'
        subst he'
        have hep : ((S.H ⟨e, so, m⟩).o j).epoch = some ep := by simp only [S.H, hso, Obj'.epoch]
        exact ⟨Nat.le_refl _, fun _ => by rw [hφc j ep rfl]; exact (g3 ep hep).2 rfl⟩
  · have hlt : id < c := by omega
    exact ⟨by show (so id).isRow = true; rw [ho id hlt, ← hol id hlt]; exact hr, hφl id hlt⟩
  · have hlt : id < c := by omega
    exact ⟨e', by show (so id).epoch = some e'; rw [ho id hlt, ← hol id hlt]; exact he', Nat.le_refl _, fun _ => hφl id hlt⟩
end Go.Proofs.YtealblliddhgiaaGreat
namespace Go.Proofs.YtealblliddhgiaaGreat
def Like (x y : Obj') : Prop := (x.isRow = true → y.isRow = true) ∧ ∀ e, x.epoch = some e → y.epoch = some e
theorem Like.rfl' {x y : Obj'} (h : x = y) : Like x y := h ▸ ⟨id, fun _ h => h⟩
theorem Like.fz (x : Obj') : Like x.fz x := by cases x <;> exact ⟨id, fun _ h => h⟩
theorem Like.row (cs cs' : List V) : Like (.row cs) (.row cs') := ⟨fun _ => rfl, fun _ h => by cases h⟩
mutual
theorem V.den_like {B B' : Nat → Prop} {φ φ' : Place} {H H' : Hp} {w : World} (hB : ∀ b, ¬ B b → ¬ B' b) : ∀ (v : V) (val : Value), (∀ id ∈ v.refs, Like (H'.o id) (H.o id) ∧ φ' id = φ id ∧ H'.us id) → V.den B φ H w v val → V.den B' φ' H' w v val
  | .d x, val, _, h => D.den_mono (w := w) (w' := w) (fun b _ hn => ⟨rfl, hB b hn⟩) x val h
  | .nils, _, _, h => h
  | .junk, _, _, _ => trivial
  | .anyb, _, _, h => h
  | .csl es, val, _, h => ⟨D.den_mono (w := w) (w' := w) (fun b _ hn => ⟨rfl, hB b hn⟩) (.sl es) val h.1, h.2⟩
  | .agg cs, val, hr, h => by
    obtain ⟨a, rfl, h1, h2⟩ := h
    exact ⟨a, rfl, V.dens_like hB cs _ (by simpa [V.refs] using hr) h1, h2⟩
  | .tup cs, val, hr, h => by
    obtain ⟨a, rfl, h1⟩ := h
    exact ⟨a, rfl, V.dens_like hB cs _ (by simpa [V.refs] using hr) h1⟩
  | .ptr id off, val, hr, h => by
    obtain ⟨a, b, c⟩ := hr id (by simp [V.refs])
    obtain ⟨h0, h1, h2⟩ := h
    refine ⟨h0, c, fun hrow => ?_⟩
    obtain ⟨x, y, z⟩ := h2 (a.1 hrow)
    exact ⟨x, b.trans y, z⟩
  | .osl id ep, val, hr, h => by
    obtain ⟨a, b, c⟩ := hr id (by simp [V.refs])
    obtain ⟨h0, h1, h2⟩ := h
    refine ⟨h0, c, fun e he => ?_⟩
    obtain ⟨x, y⟩ := h2 e (a.2 e he)
    exact ⟨x, fun heq => (y heq).trans b.symm⟩
  | .pe id ep i sz off, val, hr, h => by
    obtain ⟨a, b, c⟩ := hr id (by simp [V.refs])
    obtain ⟨h0, h1, h2⟩ := h
    refine ⟨h0, c, fun e he => ?_⟩
    obtain ⟨x, y⟩ := h2 e (a.2 e he)
    refine ⟨x, fun heq => ?_⟩
    obtain ⟨p, q, r, z, u⟩ := y heq
    exact ⟨p, q, r, b.trans z, u⟩
  | .pp cs off, val, _, h => by
    obtain ⟨a, ev, h1, h2, h3, h5, h4⟩ := h
    exact ⟨a, ev, h1, h2, D.dens_mono (w := w) (w' := w) (fun b _ hn => ⟨rfl, hB b hn⟩) cs ev h3, h5, h4.mono (w := w) (w' := w) (fun b _ hn => ⟨rfl, hB b hn⟩)⟩
  | .func fn first cap, val, hr, h => by
    obtain ⟨f, c, rfl, h1, h2⟩ := h
    exact ⟨f, c, rfl, V.dens_like hB first _ (fun id hid => hr id (by simp [V.refs, hid])) h1, V.dens_like hB cap _ (fun id hid => hr id (by simp [V.refs, hid])) h2⟩
  | .iface t x, val, hr, h => by
    obtain ⟨u, rfl, h⟩ := h
    exact ⟨u, rfl, V.den_like hB x u (by simpa [V.refs] using hr) h⟩
  | .rsl id off n, val, hr, h => by
    obtain ⟨a, b, c⟩ := hr id (by simp [V.refs])
    obtain ⟨h0, h1, h2⟩ := h
    refine ⟨h0, c, fun hrow => ?_⟩
    obtain ⟨x, y, z⟩ := h2 (a.1 hrow)
    exact ⟨x, b.trans y, z⟩
  | .mp id, val, hr, h => by
    obtain ⟨a, b, c⟩ := hr id (by simp [V.refs])
    obtain ⟨h0, h1, h2⟩ := h
    refine ⟨h0, c, fun hrow => ?_⟩
    exact (h2 (a.1 hrow)).trans b.symm
  | .yld id, val, hr, h => by
    obtain ⟨a, b, c⟩ := hr id (by simp [V.refs])
    obtain ⟨h0, h1, h2⟩ := h
    refine ⟨h0, c, fun hrow => ?_⟩
    obtain ⟨x, y, z⟩ := h2 (a.1 hrow)
    exact ⟨x, b.trans y, z⟩
theorem V.dens_like {B B' : Nat → Prop} {φ φ' : Place} {H H' : Hp} {w : World} (hB : ∀ b, ¬ B b → ¬ B' b) : ∀ (vs : List V) (vals : List Value), (∀ id ∈ V.refss vs, Like (H'.o id) (H.o id) ∧ φ' id = φ id ∧ H'.us id) → V.dens B φ H w vs vals → V.dens B' φ' H' w vs vals
  | [], _, _, h => h
  | v :: vs, _, hr, h => by
    obtain ⟨u, us, rfl, h1, h2⟩ := h
    exact ⟨u, us, rfl, V.den_like hB v u (fun id hid => hr id (by simp [V.refss, hid])) h1, V.dens_like hB vs us (fun id hid => hr id (by simp [V.refss, hid])) h2⟩
end
mutual
theorem V.refs_used {B : Nat → Prop} {φ : Place} {H : Hp} {w : World} : ∀ (v : V) (val : Value), V.den B φ H w v val → ∀ id ∈ v.refs, H.us id
  | .osl id ep, _, h, j, hj | .ptr id off, _, h, j, hj | .pe id ep i sz off, _, h, j, hj | .rsl id off n, _, h, j, hj | .mp id, _, h, j, hj | .yld id, _, h, j, hj => by simp [V.refs] at hj; subst hj; exact h.2.1
  | .agg cs, _, h, j, hj => by obtain ⟨a, rfl, h, _⟩ := h; exact V.refss_used cs _ h j (by simpa [V.refs] using hj)
  | .tup cs, _, h, j, hj => by obtain ⟨a, rfl, h⟩ := h; exact V.refss_used cs _ h j (by simpa [V.refs] using hj)
  | .func fn first cap, _, h, j, hj => by
    obtain ⟨f, c, rfl, h1, h2⟩ := h
    rcases List.mem_append.1 (show j ∈ V.refss first ++ V.refss cap by simpa [V.refs] using hj) with hj | hj
    · exact V.refss_used first _ h1 j hj
    · exact V.refss_used cap _ h2 j hj
  | .iface t x, _, h, j, hj => by obtain ⟨u, rfl, h⟩ := h; exact V.refs_used x u h j (by simpa [V.refs] using hj)
  | .d _, _, _, _, hj | .nils, _, _, _, hj | .pp _ _, _, _, _, hj | .junk, _, _, _, hj | .csl _, _, _, _, hj | .anyb, _, _, _, hj => by simp [V.refs] at hj
theorem V.refss_used {B : Nat → Prop} {φ : Place} {H : Hp} {w : World} : ∀ (vs : List V) (vals : List Value), V.dens B φ H w vs vals → ∀ id ∈ V.refss vs, H.us id
  | [], _, _, j, hj => by simp [V.refss] at hj
  | v :: vs, _, h, j, hj => by
    obtain ⟨u, us, rfl, h1, h2⟩ := h
    rcases List.mem_append.1 (show j ∈ v.refs ++ V.refss vs by simpa [V.refss] using hj) with hj | hj
    · exact V.refs_used v u h1 j hj
    · exact V.refss_used vs us h2 j hj
end
def convV (c : Nat) (x : V) (so : Nat → Obj') (gone : Nat → Prop) (v v' : V) : Prop :=
  v' = .junk ∨ (v' = v ∧ ∀ r ∈ v.refs, r < c) ∨ (v' = .osl c 0 ∧ v = x) ∨ ∃ y, v' = .d y ∧ toD so v = some y ∧ ∀ id ∈ v.ids, gone id ∧ ∀ ep, x ≠ .osl id ep
def convE (c : Nat) (x : V) (so : Nat → Obj') (gone : Nat → Prop) (env : Nat → V) : List V → Nat → Prop
  | [], _ => True
  | v :: l, i => convV c x so gone (env i) v ∧ convE c x so gone env l (i + 1)
def convL (c : Nat) (x : V) (so : Nat → Obj') (gone : Nat → Prop) : List V → List V → Prop
  | [], [] => True
  | v :: l, v' :: l' => convV c x so gone v v' ∧ convL c x so gone l l'
  | _, _ => False
theorem convE_at {c : Nat} {x : V} {so : Nat → Obj'} {gone : Nat → Prop} {env : Nat → V} : ∀ (l : List V) (i : Nat), convE c x so gone env l i → ∀ j, convV c x so gone (env (i + j)) (envJ l j)
  | [], i, _, j => by rw [envJ_nil]; exact .inl rfl
  | v :: l, i, h, 0 => by rw [envJ_zero]; exact h.1
  | v :: l, i, h, j + 1 => by
    rw [envJ_succ]
    have := convE_at l (i + 1) h.2 j
    rwa [show i + 1 + j = i + (j + 1) by omega] at this
theorem dens_of_convL {c : Nat} {x : V} {so : Nat → Obj'} {gone : Nat → Prop} {B B' : Nat → Prop} {φ φ' : Place} {H H' : Hp} {w : World} (hc : ∀ v v' val, convV c x so gone v v' → V.den B φ H w v val → V.den B' φ' H' w v' val) :
    ∀ (l l' : List V) (vals : List Value), convL c x so gone l l' → V.dens B φ H w l vals → V.dens B' φ' H' w l' vals
  | [], [], _, _, h => h
  | v :: l, v' :: l', _, h, hd => by
    obtain ⟨u, us, rfl, h1, h2⟩ := hd
    exact ⟨u, us, rfl, hc _ _ _ h.1 h1, dens_of_convL hc l l' us h.2 h2⟩
  | [], _ :: _, _, h, _ => h.elim
  | _ :: _, [], _, h, _ => h.elim
def GrowsG (so : Nat → Obj') (gone : Nat → Prop) (ty : TypeId) (sz : Nat) (es : List D) (x : V) : Prop :=
  (x = .nils ∧ es = [] ∧ 0 < sz) ∨ ∃ id ep, gone id ∧ x = .osl id ep ∧ so id = .arr ep ty sz es
theorem Grows.gone {so : Nat → Obj'} {c : Nat} {ty : TypeId} {sz : Nat} {es : List D} {x : V} (h : Grows so c ty sz es x) : GrowsG so (fun id => c ≤ id) ty sz es x := h
theorem SLe.convD (gone : Nat → Prop) {b : Nat} {e : Nat → V} {so : Nat → Obj'} {m : Nat} (l : List V) {o : Nat → Obj'} {c : Nat} {ty : TypeId} {sz : Nat} {es : List D} (x : V) (r0 : Nat) (cs cs' : List V) (hr0 : r0 < c) (hb : b ≤ c) (hcm : c ≤ m) (hg : Good o c) (hgone : ∀ id, gone id → id < c → id ≠ r0 ∧ o id = .no) (ho : ∀ id, id < c → id ≠ r0 → so id = o id ∨ o id = .no) (hso0 : so r0 = .row cs) (hrow : convL c x so gone cs cs') (hx : GrowsG so gone ty sz es x) (he : convE c x so gone e l 0) :
    SLe b ⟨e, so, m⟩ ⟨envJ l, upd (upd o c (.arr 0 ty sz es)) r0 (.row cs'), c + 1⟩ := by
  intro M φ w tm hH hd
  let φ' : Place := growPl φ c x
  let o' : Nat → Obj' := upd (upd o c (.arr 0 ty sz es)) r0 (.row cs')
  let H' : Hp := hp o' (c + 1)
  let H : Hp := ⟨so, fun id => id < m⟩
  have hoc : o' c = .arr 0 ty sz es := by show upd (upd o c (.arr 0 ty sz es)) r0 (.row cs') c = _; rw [upd_ne _ _ _ _ (by omega), upd_same]
  have hol : ∀ id, id < c → id ≠ r0 → o' id = o id := fun id hid hne => by show upd (upd o c (.arr 0 ty sz es)) r0 (.row cs') id = _; rw [upd_ne _ _ _ _ hne, upd_ne _ _ _ _ (by omega)]
  have hor : o' r0 = .row cs' := upd_same _ _ _
  have hoh : ∀ id, c < id → o' id = .no := fun id hid => by show upd (upd o c (.arr 0 ty sz es)) r0 (.row cs') id = _; rw [upd_ne _ _ _ _ (by omega), upd_ne _ _ _ _ (by omega)]; exact hg.fresh id (by omega)
  have hφl : ∀ id, id < c → φ' id = φ id := fun id hid => if_neg (by omega)
  have hφn : x = .nils → φ' c = .slice none 0 0 := fun h => by simp only [φ', growPl, h, if_pos]
  have hφc : ∀ id ep, x = .osl id ep → φ' c = φ id := fun id ep h => by simp only [φ', growPl, if_pos, h]
  have hold : ∀ id k, (o' id).live = true → blk (φ' id) = some k → ∃ j, (so j).live = true ∧ blk (φ j) = some k ∧ ((id < c ∧ j = id) ∨ (id = c ∧ gone j ∧ ∃ ep, x = .osl j ep)) := by
    intro id k h1 h2
    rcases Nat.lt_trichotomy id c with hlt | heq | hgt
    · rw [hφl id hlt] at h2
      by_cases hne : id = r0
      · subst hne
        exact ⟨id, by rw [hso0]; rfl, h2, .inl ⟨hlt, rfl⟩⟩
      · rw [hol id hlt hne] at h1
        rcases ho id hlt hne with hs | hs
        · exact ⟨id, by rw [hs]; exact h1, h2, .inl ⟨hlt, rfl⟩⟩
        · rw [hs] at h1; cases h1
    · subst heq
      rcases hx with ⟨rfl, _, _⟩ | ⟨j, ep, hj, rfl, hso⟩
      · rw [hφn rfl] at h2; cases h2
      · rw [hφc j ep rfl] at h2
        exact ⟨j, by rw [hso]; rfl, h2, .inr ⟨rfl, hj, ep, rfl⟩⟩
    · rw [hoh id hgt] at h1; cases h1
  have hlive : ∀ k, liveB φ' H' k → liveB φ H k := by
    rintro k ⟨id, h1, h2⟩
    obtain ⟨j, g1, g2, _⟩ := hold id k h1 h2
    exact ⟨j, g1, g2⟩
  have hB : ∀ k, ¬ mutB M φ H k → ¬ mutB M φ' H' k := fun k h h' => h (h'.imp id (hlive k))
  have hin : ∀ id, id < c → Like (H'.o id) (H.o id) ∧ φ' id = φ id ∧ H'.us id := fun id hid => by
    refine ⟨?_, hφl id hid, (by show id < c + 1; omega)⟩
    by_cases hne : id = r0
    · subst hne
      show Like (o' id) (so id)
      rw [hor, hso0]; exact Like.row _ _
    · rcases ho id hid hne with hs | hs
      · exact Like.rfl' ((hol id hid hne).trans hs.symm)
      · show Like (o' id) (so id)
        rw [hol id hid hne, hs]
        exact ⟨fun h => (by cases h), fun e h => (by cases h)⟩
  have hval : ∀ (v : V) (val : Value), (∀ r ∈ v.refs, r < c) → V.den (mutB M φ H) φ H w v val → V.den (mutB M φ' H') φ' H' w v val := fun v val hr h =>
    V.den_like (H := H) (H' := H') hB v val (fun id hid => hin id (hr id hid)) h
  have hvals : ∀ (v : List V) (val : List Value), (∀ r ∈ V.refss v, r < c) → V.dens (mutB M φ H) φ H w v val → V.dens (mutB M φ' H') φ' H' w v val := fun v val hr h =>
    V.dens_like (H := H) (H' := H') hB v val (fun id hid => hin id (hr id hid)) h
  have hdat : ∀ (v : V) (y : D) (val : Value), toD so v = some y → (∀ id ∈ v.ids, gone id ∧ ∀ ep, x ≠ .osl id ep) → V.den (mutB M φ H) φ H w v val → D.den (mutB M φ' H') w y val := fun v y val h1 h2 h3 => by
    obtain ⟨f1, f2, f3, f4, f5⟩ := freezes (H := H) hH v.ids (fun id hid => ids_used v val h3 id hid)
    have hB1 : ∀ k, liveB φ (H.put (frz H.o v.ids)) k → liveB φ H k := by
      rintro k ⟨id, g1, g2⟩
      by_cases hid : id ∈ v.ids
      · rw [f3 id hid] at g1
        refine ⟨id, ?_, g2⟩
        revert g1
        cases H.o id <;> simp [Obj'.fz, Obj'.live]
      · rw [f4 id hid] at g1; exact ⟨id, g1, g2⟩
    have h4 : V.den (mutB M φ (H.put (frz H.o v.ids))) φ (H.put (frz H.o v.ids)) w v val :=
      V.den_like (H := H) (fun k h h' => h (h'.imp id (hB1 k))) v val (fun id hid => by
        have hus : H.us id := (V.refs_used v val h3) id hid
        refine ⟨?_, rfl, (f5 id).2 hus⟩
        by_cases hm : id ∈ v.ids
        · rw [f3 id hm]; exact Like.fz _
        · rw [f4 id hm]; exact Like.rfl' rfl) h3
    have h5 := toD_den f1 (o := so) v y val (fun id hid => f3 id hid) h1 h4
    refine D.den_mono (w := w) (w' := w) (fun k _ hn => ⟨rfl, fun hk => hn (hk.imp id ?_)⟩) y val h5
    rintro ⟨id, g1, g2⟩
    obtain ⟨j, k1, k2, k3⟩ := hold id k g1 g2
    refine ⟨j, ?_, k2⟩
    have : j ∉ v.ids := fun hm => by
      obtain ⟨k4, k5⟩ := h2 j hm
      rcases k3 with ⟨k6, k7⟩ | ⟨_, _, ep, k6⟩
      · subst k7
        obtain ⟨k8, k9⟩ := hgone _ k4 k6
        have g1 : (o' j).live = true := g1
        rw [hol _ k6 k8, k9] at g1
        cases g1
      · exact k5 ep k6
    rw [f4 j this]; exact k1
  have hgrow : ∀ val, V.den (mutB M φ H) φ H w x val → V.den (mutB M φ' H') φ' H' w (.osl c 0) val := by
    intro val this
    rcases hx with ⟨rfl, rfl, hsz⟩ | ⟨j, ep, hj, rfl, hso⟩
    · simp only [V.den] at this
      rw [this]
      refine ⟨rfl, (by show c < c + 1; omega), fun e' he' => ?_⟩
      have he' : (o' c).epoch = some e' := he'
      rw [hoc] at he'
      simp only [Obj'.epoch, Option.some.injEq] at he'
      subst he'
      exact ⟨Nat.le_refl _, fun _ => (hφn rfl).symm⟩
    · obtain ⟨g1, g2, g3⟩ := this
      refine ⟨g1, (by show c < c + 1; omega), fun e' he' => ?_⟩
      have he' : (o' c).epoch = some e' := he'
      rw [hoc] at he'
      simp only [Obj'.epoch, Option.some.injEq] at he'
      subst he'
      have hep : (H.o j).epoch = some ep := by show (so j).epoch = _; rw [hso]; rfl
      exact ⟨Nat.le_refl _, fun _ => by rw [hφc j ep rfl]; exact (g3 ep hep).2 rfl⟩
  have hconv : ∀ v v' val, convV c x so gone v v' → V.den (mutB M φ H) φ H w v val → V.den (mutB M φ' H') φ' H' w v' val := by
    intro v v' val h h1
    rcases h with rfl | ⟨rfl, h2⟩ | ⟨rfl, rfl⟩ | ⟨y, rfl, h2, h3⟩
    · trivial
    · exact hval _ _ h2 h1
    · exact hgrow _ h1
    · exact hdat v y val h2 h3 h1
  refine ⟨φ', ⟨fun id => ?_, fun id hu => hoh id (by have : ¬ id < c + 1 := hu; omega), fun i j k h1 h2 h3 h4 => ?_, fun k hk => hH.ours k (hlive k hk), hH.old⟩, fun i => ?_, hlive, by show b ≤ c + 1; omega, fun id hid hr => ?_, fun id e' hid he' => ?_⟩
  · have hall : ObjOk M φ H w id := hH.ok id
    have hrefs := hg.refs id
    show ObjOk M φ' H' w id
    unfold ObjOk at hall ⊢
    rcases Nat.lt_trichotomy id c with hlt | heq | hgt
    · by_cases hne : id = r0
      · subst hne
        have e1 : H.o id = .row cs := hso0
        have e2 : H'.o id = .row cs' := hor
        rw [e1] at hall
        rw [e2, hφl id hlt]
        obtain ⟨b, carr, ty, k1, k2, k3, k4⟩ := hall
        exact ⟨b, carr, ty, k1, k2, dens_of_convL hconv _ _ _ hrow k3, k4⟩
      have e2 : H'.o id = o id := hol id hlt hne
      rcases ho id hlt hne with hs | hs
      case inr => rw [e2, hs]; trivial
      have e1 : H.o id = o id := hs
      rw [e1] at hall
      rw [e2, hφl id hlt]
      cases hx' : o id with
      | no => trivial
      | row cs =>
        simp only [hx'] at hall hrefs ⊢
        obtain ⟨b, carr, ty, k1, k2, k3, k4⟩ := hall
        exact ⟨b, carr, ty, k1, k2, hvals _ _ hrefs k3, k4⟩
      | arr ep ty sz es =>
        simp only [hx'] at hall ⊢
        obtain ⟨k1, xs, k2, evs, k3, k4, k5⟩ := hall
        exact ⟨k1, xs, k2, evs, k3, k4, D.dens_mono (fun b _ hn => ⟨rfl, hB b hn⟩) _ _ k5⟩
      | fro ep es =>
        simp only [hx'] at hall ⊢
        exact D.den_mono (fun b _ hn => ⟨rfl, hB b hn⟩) _ _ hall
      | map kt vt es =>
        simp only [hx'] at hall ⊢
        obtain ⟨b, es', clock, k1, k2, k4, k3⟩ := hall
        exact ⟨b, es', clock, k1, k2, k4, EntsDen.mono (fun b _ hn => ⟨rfl, hB b hn⟩) _ _ k3⟩
      | mfro l =>
        simp only [hx'] at hall ⊢
        exact D.den_mono (fun b _ hn => ⟨rfl, hB b hn⟩) _ _ hall
      | mit l last =>
        simp only [hx'] at hall ⊢
        obtain ⟨b, k1, k2⟩ := hall
        exact ⟨b, k1, k2.mono (fun b _ hn => ⟨rfl, hB b hn⟩) rfl⟩
      | sit s pos =>
        simp only [hx'] at hall ⊢
        exact hall
      | loop nf n env ps a b st pd =>
        simp only [hx'] at hall hrefs ⊢
        obtain ⟨b, r, k1, k2, k3, k4, k5, k6, k7, k8, k9, k10⟩ := hall
        exact ⟨b, r, k1, k2, k3, k4, k5, k6, k7, k8, k9, fun i => hval _ _ (fun r hr => hrefs r (V.refss_get _ _ r hr)) (k10 i)⟩
    · subst heq
      have e2 : H'.o id = .arr 0 ty sz es := hoc
      rw [e2]
      rcases hx with ⟨rfl, rfl, hsz⟩ | ⟨j, ep, hj, rfl, hso⟩
      · refine ⟨hsz, [], ?_, [], by simp, by simp, rfl⟩
        rw [hφn rfl]
        exact World.ownsRow_nil _ _ _ _
      · have this : ObjOk M φ H w j := hH.ok j
        unfold ObjOk at this
        have e3 : H.o j = .arr ep ty sz es := hso
        simp only [e3] at this
        obtain ⟨k1, xs, k2, evs, k3, k4, k5⟩ := this
        exact ⟨k1, xs, by rw [hφc j ep rfl]; exact k2, evs, k3, k4, D.dens_mono (fun b _ hn => ⟨rfl, hB b hn⟩) _ _ k5⟩
    · have e2 : H'.o id = .no := hoh id hgt
      rw [e2]
      trivial
  · obtain ⟨i', a1, a2, a3⟩ := hold i k h1 h3
    obtain ⟨j', b1, b2, b3⟩ := hold j k h2 h4
    have := hH.apart i' j' k a1 b1 a2 b2
    have hne : ∀ id' j', (o' id').live = true → id' < c → gone j' → id' ≠ j' := fun id' j' g1 g2 g3 g4 => by
      subst g4
      obtain ⟨g5, g6⟩ := hgone _ g3 g2
      rw [hol _ g2 g5, g6] at g1
      cases g1
    rcases a3 with ⟨a3, a4⟩ | ⟨a3, a4, _⟩ <;> rcases b3 with ⟨b3, b4⟩ | ⟨b3, b4, _⟩
    · omega
    · exact absurd (a4.symm.trans this) (hne i j' h1 a3 b4)
    · exact absurd (b4.symm.trans this.symm) (hne j i' h2 b3 a4)
    · omega
  · have hi := convE_at l 0 he i
    rw [Nat.zero_add] at hi
    exact hconv _ _ _ hi (hd i)
  · have hlt : id < c := by omega
    have hr : (o' id).isRow = true := hr
    exact ⟨(hin id hlt).1.1 hr, hφl id hlt⟩
  · have hlt : id < c := by omega
    have he' : (o' id).epoch = some e' := he'
    exact ⟨e', (hin id hlt).1.2 e' he', Nat.le_refl _, fun _ => hφl id hlt⟩
theorem SLe.conv {b : Nat} {e : Nat → V} {so : Nat → Obj'} {m : Nat} (l : List V) {o : Nat → Obj'} {c : Nat} {ty : TypeId} {sz : Nat} {es : List D} (x : V) (r0 : Nat) (cs cs' : List V) (hr0 : r0 < c) (hb : b ≤ c) (hcm : c ≤ m) (hg : Good o c) (ho : ∀ id, id < c → id ≠ r0 → so id = o id) (hso0 : so r0 = .row cs) (hrow : convL c x so (fun id => c ≤ id) cs cs') (hx : Grows so c ty sz es x) (he : convE c x so (fun id => c ≤ id) e l 0) :
    SLe b ⟨e, so, m⟩ ⟨envJ l, upd (upd o c (.arr 0 ty sz es)) r0 (.row cs'), c + 1⟩ :=
  SLe.convD _ l x r0 cs cs' hr0 hb hcm hg (fun id h1 h2 => absurd h1 (by omega)) (fun id h1 h2 => .inl (ho id h1 h2)) hso0 hrow hx he
theorem disj_iff {xs ys : List Nat} : disj xs ys = true ↔ ∀ x ∈ xs, x ∉ ys := by
  simp [disj, List.all_eq_true]
def keptE (env : Nat → V) : List V → Nat → Prop
  | [], _ => True
  | v :: l, i => (v = .junk ∨ v = env i) ∧ keptE env l (i + 1)
theorem keptE_nil {env : Nat → V} {i : Nat} : keptE env [] i := trivial
theorem keptE_junk {env : Nat → V} {l : List V} {i : Nat} (h : keptE env l (i + 1)) : keptE env (.junk :: l) i := ⟨.inl rfl, h⟩
theorem keptE_v {env : Nat → V} {l : List V} {i : Nat} {v : V} (he : env i = v) (h : keptE env l (i + 1)) : keptE env (v :: l) i := ⟨.inr he.symm, h⟩
theorem keptE_at {env : Nat → V} : ∀ (l : List V) (i : Nat), keptE env l i → ∀ j, envJ l j = .junk ∨ envJ l j = env (i + j)
  | [], i, _, j => by rw [envJ_nil]; exact .inl rfl
  | v :: l, i, h, 0 => by rw [envJ_zero]; exact h.1
  | v :: l, i, h, j + 1 => by
    rw [envJ_succ]
    have := keptE_at l (i + 1) h.2 j
    rwa [show i + 1 + j = i + (j + 1) by omega] at this
theorem rng_intro {P : Program} {n : Nat} {ps : List Nat} {x y : IC} {Q : Xit → S → Prop} {e : Nat → V} {o : Nat → Obj'} {nx : Nat} {f : FuncId} {cap : List V} (env : List V) (he : keptE e env 0)
    (h : CtK P f (.yld nx :: cap) (upd o nx (.loop P.funcs.size n env ps x y .ready none)) (nx + 1)
      (fun _ o' nx' => ∃ nf m en p c d st pd, o' nx = .loop nf m en p c d st pd ∧ st ≠ .busy ∧ jmpQ Q pd ⟨e, upd o' nx (.loop nf m en p c d .exhausted pd), nx'⟩) (fun v o' nx' => Q (.pan v) ⟨e, o', nx'⟩)) :
    rngS P n false ps x y Q ⟨e, o, nx⟩ (.func (.func f) [] cap) := by
  unfold rngS rngW
  refine ⟨rfl, env, fun i => ?_, .inl h⟩
  have := keptE_at env 0 he i
  rwa [Nat.zero_add] at this
def beginE (P : Program) (n b id : Nat) (icb : IC) (K X : V → (Nat → Obj') → Nat → Prop) (e : Xit) (s : S) : Prop :=
  match e with
  | .normal => ∃ nf m en p c d pd, s.o id = .loop nf m en p c d .ready pd ∧ evW P n b true icb (roundQ id K X) ⟨s.env, upd s.o id (.loop nf m en p c d .busy pd), s.nx⟩
  | .pan v => X v s.o s.nx
  | _ => False
theorem RoundK.of_ev {P : Program} {n : Nat} (hmix : P.follows .mixedOrders = true) {id : Nat} {args : List V} {o : Nat → Obj'} {nx : Nat} {K X : V → (Nat → Obj') → Nat → Prop} {env : List V} {ps : List Nat} {ica icb : IC} {st : LoopState} {pd : Option Jmp}
    (ho : o id = .loop P.funcs.size n env ps ica icb st pd) (hlt : id < nx) (hps : ps.all (fun t => decide (t < n)) = true) (hl : args.length = ps.length)
    (h : evW P n nx true ica (beginE P n nx id icb K X) ⟨setP (envJ env) ps args, o, nx⟩) : RoundK P id args o nx K X := by
  refine RoundK.of_ic hmix ho hlt hps hl (evW_icW ica _ _ _ (fun e s h => ?_) h)
  cases e with
  | normal =>
    obtain ⟨nf, m, en, p, c, d, pd, h1, h2⟩ := h
    exact ⟨nf, m, en, p, c, d, pd, h1, evW_icW icb _ _ _ (fun _ _ h => h) h2⟩
  | pan v => exact h
  | _ => exact h.elim
theorem beginE_intro {P : Program} {n b id : Nat} {icb : IC} {K X : V → (Nat → Obj') → Nat → Prop} {s : S} {nf m : Nat} {en : List V} {p : List Nat} {c d : IC} {pd : Option Jmp} (h : s.o id = .loop nf m en p c d .ready pd)
    (h2 : evW P n b true icb (roundQ id K X) ⟨s.env, upd s.o id (.loop nf m en p c d .busy pd), s.nx⟩) : beginE P n b id icb K X .normal s := ⟨nf, m, en, p, c, d, pd, h, h2⟩
def renL : List Nat → Nat → Nat → Nat
  | [], nx, k => nx + k
  | i :: _, _, 0 => i
  | _ :: l, nx, k + 1 => renL l nx k
theorem renL_in : ∀ (l : List Nat) (nx k : Nat), renL l nx k ∈ l ∨ nx ≤ renL l nx k
  | [], nx, k => .inr (Nat.le_add_right _ _)
  | i :: _, _, 0 => .inl (List.mem_cons_self ..)
  | _ :: l, nx, k + 1 => (renL_in l nx k).imp (List.mem_cons_of_mem _) id
theorem renL_inj {nx : Nat} : ∀ (l : List Nat), l.Nodup → (∀ i ∈ l, i < nx) → ∀ a b, renL l nx a = renL l nx b → a = b
  | [], _, _, a, b, e => by simp only [renL] at e; omega
  | i :: l, _, _, 0, 0, _ => rfl
  | i :: l, hd, hl, 0, b + 1, e => by
    simp only [renL] at e
    rcases renL_in l nx b with h | h
    · rw [← e] at h; exact absurd h (List.nodup_cons.1 hd).1
    · have := hl i (List.mem_cons_self ..); omega
  | i :: l, hd, hl, a + 1, 0, e => by
    simp only [renL] at e
    rcases renL_in l nx a with h | h
    · rw [e] at h; exact absurd h (List.nodup_cons.1 hd).1
    · have := hl i (List.mem_cons_self ..); omega
  | i :: l, hd, hl, a + 1, b + 1, e => by
    simp only [renL] at e
    rw [renL_inj l (List.nodup_cons.1 hd).2 (fun j hj => hl j (List.mem_cons_of_mem _ hj)) a b e]
def renG (f : Nat → Nat) (x : List Nat × List Nat) : List Nat × List Nat := (x.1.map f, x.2.map f)
theorem disj_map {f : Nat → Nat} (hf : ∀ a b, f a = f b → a = b) {xs ys : List Nat} (hd : disj xs ys = true) : disj (xs.map f) (ys.map f) = true := by
  rw [disj_iff] at hd ⊢
  intro x hx hy
  obtain ⟨a, ha, rfl⟩ := List.mem_map.1 hx
  obtain ⟨b, hb, e⟩ := List.mem_map.1 hy
  rw [hf b a e] at hb
  exact hd a ha hb
theorem objsOk_map {f : Nat → Nat} (hf : ∀ a b, f a = f b → a = b) {pr : List (List Nat)} (fp : List (List Nat × List Nat)) (ho : objsOk pr fp = true) : objsOk pr (fp.map (renG f)) = true := by
  unfold objsOk at ho ⊢
  rw [List.all_eq_true] at ho ⊢
  intro j hj
  rw [List.length_map] at hj
  have ho := ho j hj
  rw [List.all_eq_true] at ho ⊢
  intro i hi
  have ho := ho i hi
  have hm : ∀ k, (fp.map (renG f)).getD k ([], []) = renG f (fp.getD k ([], [])) := fun k => by
    rw [List.getD_eq_getElem?_getD, List.getD_eq_getElem?_getD, List.getElem?_map]
    cases fp[k]? <;> rfl
  rw [hm, hm]
  rw [Bool.or_eq_true] at ho ⊢
  refine ho.imp (fun h => h) (fun ho => ?_)
  rw [Bool.and_eq_true, Bool.and_eq_true] at ho ⊢
  exact ⟨⟨disj_map hf ho.1.1, disj_map hf ho.1.2⟩, disj_map hf ho.2⟩
theorem objsOk_renL {ids : List Nat} {nx : Nat} (hd : ids.Nodup) (hl : ∀ i ∈ ids, i < nx) {pr : List (List Nat)} (fp : List (List Nat × List Nat)) (ho : objsOk pr fp = true) : objsOk pr (fp.map (renG (renL ids nx))) = true :=
  objsOk_map (renL_inj ids hd hl) fp ho
section
variable {P : Program} {KB : List Nat → Fp → Prop} {pr : List (List Nat)} {l : List IOp} {fr : Nat} {fp : Fp} {bad ws : List Nat} {s : S} {d : Option Nat} {op : Op}
end
end Go.Proofs.YtealblliddhgiaaGreat
