/-
  A PART OF THE PROOF (put together by program): several texts, one behind the other. Conditions: none.
-/
import Derived.Test.YtaafchgfibbmhaaPk26
set_option linter.unusedSimpArgs false
set_option linter.unusedVariables false
namespace Go.Proofs.Ytaafchgfibbmhaa
def Like (x y : Obj') : Prop := (x.isRow = true → y.isRow = true) ∧ ∀ e, x.epoch = some e → y.epoch = some e
theorem Like.rfl' {x y : Obj'} (h : x = y) : Like x y := h ▸ ⟨id, fun _ h => h⟩
theorem Like.fz (x : Obj') : Like x.fz x := by cases x <;> exact ⟨id, fun _ h => h⟩
theorem Like.row (cs cs' : List V) : Like (.row cs) (.row cs') := ⟨fun _ => rfl, fun _ h => by cases h⟩
mutual
theorem V.den_like {B B' : Nat → Prop} {φ φ' : Place} {H H' : Hp} {w : World} (hB : ∀ b, ¬ B b → ¬ B' b) : ∀ (v : V) (val : Value), (∀ id ∈ v.refs, Like (H'.o id) (H.o id) ∧ φ' id = φ id ∧ H'.us id) → V.den B φ H w v val → V.den B' φ' H' w v val
  | .d x, val, _, h => D.den_mono (w := w) (w' := w) (fun b _ hn => ⟨rfl, hB b hn⟩) x val h
  | .nils, _, _, h => h
  | .junk, _, _, _ => trivial
  | .anyb, _, _, h => h
  | .csl es, val, _, h => ⟨D.den_mono (w := w) (w' := w) (fun b _ hn => ⟨rfl, hB b hn⟩) (.sl es) val h.1, h.2⟩
  | .agg cs, val, hr, h => by
    obtain ⟨a, rfl, h1, h2⟩ := h
    exact ⟨a, rfl, V.dens_like hB cs _ (by simpa [V.refs] using hr) h1, h2⟩
  | .tup cs, val, hr, h => by
    obtain ⟨a, rfl, h1⟩ := h
    exact ⟨a, rfl, V.dens_like hB cs _ (by simpa [V.refs] using hr) h1⟩
  | .ptr id off, val, hr, h => by
    obtain ⟨a, b, c⟩ := hr id (by simp [V.refs])
    obtain ⟨h0, h1, h2⟩ := h
    refine ⟨h0, c, fun hrow => ?_⟩
    obtain ⟨x, y, z⟩ := h2 (a.1 hrow)
    exact ⟨x, b.trans y, z⟩
  | .osl id ep, val, hr, h => by
    obtain ⟨a, b, c⟩ := hr id (by simp [V.refs])
    obtain ⟨h0, h1, h2⟩ := h
    refine ⟨h0, c, fun e he => ?_⟩
    obtain ⟨x, y⟩ := h2 e (a.2 e he)
    exact ⟨x, fun heq => (y heq).trans b.symm⟩
  | .pe id ep i sz off, val, hr, h => by
    obtain ⟨a, b, c⟩ := hr id (by simp [V.refs])
    obtain ⟨h0, h1, h2⟩ := h
    refine ⟨h0, c, fun e he => ?_⟩
    obtain ⟨x, y⟩ := h2 e (a.2 e he)
    refine ⟨x, fun heq => ?_⟩
    obtain ⟨p, q, r, z, u⟩ := y heq
    exact ⟨p, q, r, b.trans z, u⟩
  | .pp cs off, val, _, h => by
    obtain ⟨a, ev, h1, h2, h3, h5, h4⟩ := h
    exact ⟨a, ev, h1, h2, D.dens_mono (w := w) (w' := w) (fun b _ hn => ⟨rfl, hB b hn⟩) cs ev h3, h5, h4.mono (w := w) (w' := w) (fun b _ hn => ⟨rfl, hB b hn⟩)⟩
  | .func fn first cap, val, hr, h => by
    obtain ⟨f, c, rfl, h1, h2⟩ := h
    exact ⟨f, c, rfl, V.dens_like hB first _ (fun id hid => hr id (by simp [V.refs, hid])) h1, V.dens_like hB cap _ (fun id hid => hr id (by simp [V.refs, hid])) h2⟩
  | .iface t x, val, hr, h => by
    obtain ⟨u, rfl, h⟩ := h
    exact ⟨u, rfl, V.den_like hB x u (by simpa [V.refs] using hr) h⟩
  | .rsl id off n, val, hr, h => by
    obtain ⟨a, b, c⟩ := hr id (by simp [V.refs])
    obtain ⟨h0, h1, h2⟩ := h
    refine ⟨h0, c, fun hrow => ?_⟩
    obtain ⟨x, y, z⟩ := h2 (a.1 hrow)
    exact ⟨x, b.trans y, z⟩
  | .mp id, val, hr, h => by
    obtain ⟨a, b, c⟩ := hr id (by simp [V.refs])
    obtain ⟨h0, h1, h2⟩ := h
    refine ⟨h0, c, fun hrow => ?_⟩
    exact (h2 (a.1 hrow)).trans b.symm
  | .yld id, val, hr, h => by
    obtain ⟨a, b, c⟩ := hr id (by simp [V.refs])
    obtain ⟨h0, h1, h2⟩ := h
    refine ⟨h0, c, fun hrow => ?_⟩
    obtain ⟨x, y, z⟩ := h2 (a.1 hrow)
    exact ⟨x, b.trans y, z⟩
theorem V.dens_like {B B' : Nat → Prop} {φ φ' : Place} {H H' : Hp} {w : World} (hB : ∀ b, ¬ B b → ¬ B' b) : ∀ (vs : List V) (vals : List Value), (∀ id ∈ V.refss vs, Like (H'.o id) (H.o id) ∧ φ' id = φ id ∧ H'.us id) → V.dens B φ H w vs vals → V.dens B' φ' H' w vs vals
  | [], _, _, h => h
  | v :: vs, _, hr, h => by
    obtain ⟨u, us, rfl, h1, h2⟩ := h
    exact ⟨u, us, rfl, V.den_like hB v u (fun id hid => hr id (by simp [V.refss, hid])) h1, V.dens_like hB vs us (fun id hid => hr id (by simp [V.refss, hid])) h2⟩
end
mutual
theorem V.refs_used {B : Nat → Prop} {φ : Place} {H : Hp} {w : World} : ∀ (v : V) (val : Value), V.den B φ H w v val → ∀ id ∈ v.refs, H.us id
  | .osl id ep, _, h, j, hj | .ptr id off, _, h, j, hj | .pe id ep i sz off, _, h, j, hj | .rsl id off n, _, h, j, hj | .mp id, _, h, j, hj | .yld id, _, h, j, hj => by simp [V.refs] at hj; subst hj; exact h.2.1
  | .agg cs, _, h, j, hj => by obtain ⟨a, rfl, h, _⟩ := h; exact V.refss_used cs _ h j (by simpa [V.refs] using hj)
  | .tup cs, _, h, j, hj => by obtain ⟨a, rfl, h⟩ := h; exact V.refss_used cs _ h j (by simpa [V.refs] using hj)
  | .func fn first cap, _, h, j, hj => by
    obtain ⟨f, c, rfl, h1, h2⟩ := h
    rcases List.mem_append.1 (show j ∈ V.refss first ++ V.refss cap by simpa [V.refs] using hj) with hj | hj
    · exact V.refss_used first _ h1 j hj
    · exact V.refss_used cap _ h2 j hj
  | .iface t x, _, h, j, hj => by obtain ⟨u, rfl, h⟩ := h; exact V.refs_used x u h j (by simpa [V.refs] using hj)
  | .d _, _, _, _, hj | .nils, _, _, _, hj | .pp _ _, _, _, _, hj | .junk, _, _, _, hj | .csl _, _, _, _, hj | .anyb, _, _, _, hj => by simp [V.refs] at hj
theorem V.refss_used {B : Nat → Prop} {φ : Place} {H : Hp} {w : World} : ∀ (vs : List V) (vals : List Value), V.dens B φ H w vs vals → ∀ id ∈ V.refss vs, H.us id
  | [], _, _, j, hj => by simp [V.refss] at hj
  | v :: vs, _, h, j, hj => by
    obtain ⟨u, us, rfl, h1, h2⟩ := h
    rcases List.mem_append.1 (show j ∈ v.refs ++ V.refss vs by simpa [V.refss] using hj) with hj | hj
    · exact V.refs_used v u h1 j hj
    · exact V.refss_used vs us h2 j hj
end
def convV (c : Nat) (x : V) (so : Nat → Obj') (gone : Nat → Prop) (v v' : V) : Prop :=
  v' = .junk ∨ (v' = v ∧ ∀ r ∈ v.refs, r < c) ∨ (v' = .osl c 0 ∧ v = x) ∨ ∃ y, v' = .d y ∧ toD so v = some y ∧ ∀ id ∈ v.ids, gone id ∧ ∀ ep, x ≠ .osl id ep
def convE (c : Nat) (x : V) (so : Nat → Obj') (gone : Nat → Prop) (env : Nat → V) : List V → Nat → Prop
  | [], _ => True
  | v :: l, i => convV c x so gone (env i) v ∧ convE c x so gone env l (i + 1)
def convL (c : Nat) (x : V) (so : Nat → Obj') (gone : Nat → Prop) : List V → List V → Prop
  | [], [] => True
  | v :: l, v' :: l' => convV c x so gone v v' ∧ convL c x so gone l l'
  | _, _ => False
theorem convE_at {c : Nat} {x : V} {so : Nat → Obj'} {gone : Nat → Prop} {env : Nat → V} : ∀ (l : List V) (i : Nat), convE c x so gone env l i → ∀ j, convV c x so gone (env (i + j)) (envJ l j)
  | [], i, _, j => by rw [envJ_nil]; exact .inl rfl
  | v :: l, i, h, 0 => by rw [envJ_zero]; exact h.1
  | v :: l, i, h, j + 1 => by
    rw [envJ_succ]
    have := convE_at l (i + 1) h.2 j
    rwa [show i + 1 + j = i + (j + 1) by omega] at this
theorem convE_nil {c : Nat} {x : V} {so : Nat → Obj'} {gone : Nat → Prop} {env : Nat → V} {i : Nat} : convE c x so gone env [] i := trivial
theorem convE_junk {c : Nat} {x : V} {so : Nat → Obj'} {gone : Nat → Prop} {env : Nat → V} {l : List V} {i : Nat} (h : convE c x so gone env l (i + 1)) : convE c x so gone env (.junk :: l) i := ⟨.inl rfl, h⟩
theorem convE_d {c : Nat} {x : V} {so : Nat → Obj'} {gone : Nat → Prop} {env : Nat → V} {l : List V} {i : Nat} {y : D} (he : env i = .d y) (h : convE c x so gone env l (i + 1)) : convE c x so gone env (.d y :: l) i := ⟨.inr (.inl ⟨he.symm, fun r hr => by rw [he] at hr; simp [V.refs] at hr⟩), h⟩
theorem convE_v {c : Nat} {x : V} {so : Nat → Obj'} {gone : Nat → Prop} {env : Nat → V} {l : List V} {i : Nat} {v : V} (he : env i = v) (hr : ∀ r ∈ v.refs, r < c) (h : convE c x so gone env l (i + 1)) : convE c x so gone env (v :: l) i := ⟨.inr (.inl ⟨he.symm, fun r hr' => hr r (he ▸ hr')⟩), h⟩
theorem convE_x {c : Nat} {x : V} {so : Nat → Obj'} {gone : Nat → Prop} {env : Nat → V} {l : List V} {i : Nat} (he : env i = x) (h : convE c x so gone env l (i + 1)) : convE c x so gone env (.osl c 0 :: l) i := ⟨.inr (.inr (.inl ⟨rfl, he⟩)), h⟩
theorem convE_c {c : Nat} {x : V} {so : Nat → Obj'} {gone : Nat → Prop} {env : Nat → V} {l : List V} {i : Nat} {y : D} (ht : toD so (env i) = some y) (hi : ∀ id ∈ (env i).ids, gone id ∧ ∀ ep, x ≠ .osl id ep) (h : convE c x so gone env l (i + 1)) : convE c x so gone env (.d y :: l) i := ⟨.inr (.inr (.inr ⟨y, rfl, ht, hi⟩)), h⟩
theorem convL_nil {c : Nat} {x : V} {so : Nat → Obj'} {gone : Nat → Prop} : convL c x so gone [] [] := trivial
theorem convL_d {c : Nat} {x : V} {so : Nat → Obj'} {gone : Nat → Prop} {l l' : List V} {y : D} (h : convL c x so gone l l') : convL c x so gone (.d y :: l) (.d y :: l') := ⟨.inr (.inl ⟨rfl, fun r hr => by simp [V.refs] at hr⟩), h⟩
theorem convL_x {c : Nat} {x : V} {so : Nat → Obj'} {gone : Nat → Prop} {l l' : List V} (h : convL c x so gone l l') : convL c x so gone (x :: l) (.osl c 0 :: l') := ⟨.inr (.inr (.inl ⟨rfl, rfl⟩)), h⟩
theorem convL_c {c : Nat} {x v : V} {so : Nat → Obj'} {gone : Nat → Prop} {l l' : List V} {y : D} (ht : toD so v = some y) (hi : ∀ id ∈ v.ids, gone id ∧ ∀ ep, x ≠ .osl id ep) (h : convL c x so gone l l') : convL c x so gone (v :: l) (.d y :: l') := ⟨.inr (.inr (.inr ⟨y, rfl, ht, hi⟩)), h⟩
theorem dens_of_convL {c : Nat} {x : V} {so : Nat → Obj'} {gone : Nat → Prop} {B B' : Nat → Prop} {φ φ' : Place} {H H' : Hp} {w : World} (hc : ∀ v v' val, convV c x so gone v v' → V.den B φ H w v val → V.den B' φ' H' w v' val) :
    ∀ (l l' : List V) (vals : List Value), convL c x so gone l l' → V.dens B φ H w l vals → V.dens B' φ' H' w l' vals
  | [], [], _, _, h => h
  | v :: l, v' :: l', _, h, hd => by
    obtain ⟨u, us, rfl, h1, h2⟩ := hd
    exact ⟨u, us, rfl, hc _ _ _ h.1 h1, dens_of_convL hc l l' us h.2 h2⟩
  | [], _ :: _, _, h, _ => h.elim
  | _ :: _, [], _, h, _ => h.elim
def GrowsG (so : Nat → Obj') (gone : Nat → Prop) (ty : TypeId) (sz : Nat) (es : List D) (x : V) : Prop :=
  (x = .nils ∧ es = [] ∧ 0 < sz) ∨ ∃ id ep, gone id ∧ x = .osl id ep ∧ so id = .arr ep ty sz es
theorem Grows.gone {so : Nat → Obj'} {c : Nat} {ty : TypeId} {sz : Nat} {es : List D} {x : V} (h : Grows so c ty sz es x) : GrowsG so (fun id => c ≤ id) ty sz es x := h
theorem SLe.convD (gone : Nat → Prop) {b : Nat} {e : Nat → V} {so : Nat → Obj'} {m : Nat} (l : List V) {o : Nat → Obj'} {c : Nat} {ty : TypeId} {sz : Nat} {es : List D} (x : V) (r0 : Nat) (cs cs' : List V) (hr0 : r0 < c) (hb : b ≤ c) (hcm : c ≤ m) (hg : Good o c) (hgone : ∀ id, gone id → id < c → id ≠ r0 ∧ o id = .no) (ho : ∀ id, id < c → id ≠ r0 → so id = o id ∨ o id = .no) (hso0 : so r0 = .row cs) (hrow : convL c x so gone cs cs') (hx : GrowsG so gone ty sz es x) (he : convE c x so gone e l 0) :
    SLe b ⟨e, so, m⟩ ⟨envJ l, upd (upd o c (.arr 0 ty sz es)) r0 (.row cs'), c + 1⟩ := by
  intro M φ w tm hH hd
  let φ' : Place := growPl φ c x
  let o' : Nat → Obj' := upd (upd o c (.arr 0 ty sz es)) r0 (.row cs')
  let H' : Hp := hp o' (c + 1)
  let H : Hp := ⟨so, fun id => id < m⟩
  have hoc : o' c = .arr 0 ty sz es := by show upd (upd o c (.arr 0 ty sz es)) r0 (.row cs') c = _; rw [upd_ne _ _ _ _ (by omega), upd_same]
  have hol : ∀ id, id < c → id ≠ r0 → o' id = o id := fun id hid hne => by show upd (upd o c (.arr 0 ty sz es)) r0 (.row cs') id = _; rw [upd_ne _ _ _ _ hne, upd_ne _ _ _ _ (by omega)]
  have hor : o' r0 = .row cs' := upd_same _ _ _
  have hoh : ∀ id, c < id → o' id = .no := fun id hid => by show upd (upd o c (.arr 0 ty sz es)) r0 (.row cs') id = _; rw [upd_ne _ _ _ _ (by omega), upd_ne _ _ _ _ (by omega)]; exact hg.fresh id (by omega)
  have hφl : ∀ id, id < c → φ' id = φ id := fun id hid => if_neg (by omega)
  have hφn : x = .nils → φ' c = .slice none 0 0 := fun h => by simp only [φ', growPl, h, if_pos]
  have hφc : ∀ id ep, x = .osl id ep → φ' c = φ id := fun id ep h => by simp only [φ', growPl, if_pos, h]
  have hold : ∀ id k, (o' id).live = true → blk (φ' id) = some k → ∃ j, (so j).live = true ∧ blk (φ j) = some k ∧ ((id < c ∧ j = id) ∨ (id = c ∧ gone j ∧ ∃ ep, x = .osl j ep)) := by
    intro id k h1 h2
    rcases Nat.lt_trichotomy id c with hlt | heq | hgt
    · rw [hφl id hlt] at h2
      by_cases hne : id = r0
      · subst hne
        exact ⟨id, by rw [hso0]; rfl, h2, .inl ⟨hlt, rfl⟩⟩
      · rw [hol id hlt hne] at h1
        rcases ho id hlt hne with hs | hs
        · exact ⟨id, by rw [hs]; exact h1, h2, .inl ⟨hlt, rfl⟩⟩
        · rw [hs] at h1; cases h1
    · subst heq
      rcases hx with ⟨rfl, _, _⟩ | ⟨j, ep, hj, rfl, hso⟩
      · rw [hφn rfl] at h2; cases h2
      · rw [hφc j ep rfl] at h2
        exact ⟨j, by rw [hso]; rfl, h2, .inr ⟨rfl, hj, ep, rfl⟩⟩
    · rw [hoh id hgt] at h1; cases h1
  have hlive : ∀ k, liveB φ' H' k → liveB φ H k := by
    rintro k ⟨id, h1, h2⟩
    obtain ⟨j, g1, g2, _⟩ := hold id k h1 h2
    exact ⟨j, g1, g2⟩
  have hB : ∀ k, ¬ mutB M φ H k → ¬ mutB M φ' H' k := fun k h h' => h (h'.imp id (hlive k))
  have hin : ∀ id, id < c → Like (H'.o id) (H.o id) ∧ φ' id = φ id ∧ H'.us id := fun id hid => by
    refine ⟨?_, hφl id hid, (by show id < c + 1; omega)⟩
    by_cases hne : id = r0
    · subst hne
      show Like (o' id) (so id)
      rw [hor, hso0]; exact Like.row _ _
    · rcases ho id hid hne with hs | hs
      · exact Like.rfl' ((hol id hid hne).trans hs.symm)
      · show Like (o' id) (so id)
        rw [hol id hid hne, hs]
        exact ⟨fun h => (by cases h), fun e h => (by cases h)⟩
  have hval : ∀ (v : V) (val : Value), (∀ r ∈ v.refs, r < c) → V.den (mutB M φ H) φ H w v val → V.den (mutB M φ' H') φ' H' w v val := fun v val hr h =>
    V.den_like (H := H) (H' := H') hB v val (fun id hid => hin id (hr id hid)) h
  have hvals : ∀ (v : List V) (val : List Value), (∀ r ∈ V.refss v, r < c) → V.dens (mutB M φ H) φ H w v val → V.dens (mutB M φ' H') φ' H' w v val := fun v val hr h =>
    V.dens_like (H := H) (H' := H') hB v val (fun id hid => hin id (hr id hid)) h
  have hdat : ∀ (v : V) (y : D) (val : Value), toD so v = some y → (∀ id ∈ v.ids, gone id ∧ ∀ ep, x ≠ .osl id ep) → V.den (mutB M φ H) φ H w v val → D.den (mutB M φ' H') w y val := fun v y val h1 h2 h3 => by
    obtain ⟨f1, f2, f3, f4, f5⟩ := freezes (H := H) hH v.ids (fun id hid => ids_used v val h3 id hid)
    have hB1 : ∀ k, liveB φ (H.put (frz H.o v.ids)) k → liveB φ H k := by
      rintro k ⟨id, g1, g2⟩
      by_cases hid : id ∈ v.ids
      · rw [f3 id hid] at g1
        refine ⟨id, ?_, g2⟩
        revert g1
        cases H.o id <;> simp [Obj'.fz, Obj'.live]
      · rw [f4 id hid] at g1; exact ⟨id, g1, g2⟩
    have h4 : V.den (mutB M φ (H.put (frz H.o v.ids))) φ (H.put (frz H.o v.ids)) w v val :=
      V.den_like (H := H) (fun k h h' => h (h'.imp id (hB1 k))) v val (fun id hid => by
        have hus : H.us id := (V.refs_used v val h3) id hid
        refine ⟨?_, rfl, (f5 id).2 hus⟩
        by_cases hm : id ∈ v.ids
        · rw [f3 id hm]; exact Like.fz _
        · rw [f4 id hm]; exact Like.rfl' rfl) h3
    have h5 := toD_den f1 (o := so) v y val (fun id hid => f3 id hid) h1 h4
    refine D.den_mono (w := w) (w' := w) (fun k _ hn => ⟨rfl, fun hk => hn (hk.imp id ?_)⟩) y val h5
    rintro ⟨id, g1, g2⟩
    obtain ⟨j, k1, k2, k3⟩ := hold id k g1 g2
    refine ⟨j, ?_, k2⟩
    have : j ∉ v.ids := fun hm => by
      obtain ⟨k4, k5⟩ := h2 j hm
      rcases k3 with ⟨k6, k7⟩ | ⟨_, _, ep, k6⟩
      · subst k7
        obtain ⟨k8, k9⟩ := hgone _ k4 k6
        have g1 : (o' j).live = true := g1
        rw [hol _ k6 k8, k9] at g1
        cases g1
      · exact k5 ep k6
    rw [f4 j this]; exact k1
  have hgrow : ∀ val, V.den (mutB M φ H) φ H w x val → V.den (mutB M φ' H') φ' H' w (.osl c 0) val := by
    intro val this
    rcases hx with ⟨rfl, rfl, hsz⟩ | ⟨j, ep, hj, rfl, hso⟩
    · simp only [V.den] at this
      rw [this]
      refine ⟨rfl, (by show c < c + 1; omega), fun e' he' => ?_⟩
      have he' : (o' c).epoch = some e' := he'
      rw [hoc] at he'
      simp only [Obj'.epoch, Option.some.injEq] at he'
      subst he'
      exact ⟨Nat.le_refl _, fun _ => (hφn rfl).symm⟩
    · obtain ⟨g1, g2, g3⟩ := this
      refine ⟨g1, (by show c < c + 1; omega), fun e' he' => ?_⟩
      have he' : (o' c).epoch = some e' := he'
      rw [hoc] at he'
      simp only [Obj'.epoch, Option.some.injEq] at he'
      subst he'
      have hep : (H.o j).epoch = some ep := by show (so j).epoch = _; rw [hso]; rfl
      exact ⟨Nat.le_refl _, fun _ => by rw [hφc j ep rfl]; exact (g3 ep hep).2 rfl⟩
  have hconv : ∀ v v' val, convV c x so gone v v' → V.den (mutB M φ H) φ H w v val → V.den (mutB M φ' H') φ' H' w v' val := by
    intro v v' val h h1
    rcases h with rfl | ⟨rfl, h2⟩ | ⟨rfl, rfl⟩ | ⟨y, rfl, h2, h3⟩
    · trivial
    · exact hval _ _ h2 h1
    · exact hgrow _ h1
    · exact hdat v y val h2 h3 h1
  refine ⟨φ', ⟨fun id => ?_, fun id hu => hoh id (by have : ¬ id < c + 1 := hu; omega), fun i j k h1 h2 h3 h4 => ?_, fun k hk => hH.ours k (hlive k hk), hH.old⟩, fun i => ?_, hlive, by show b ≤ c + 1; omega, fun id hid hr => ?_, fun id e' hid he' => ?_⟩
  · have hall : ObjOk M φ H w id := hH.ok id
    have hrefs := hg.refs id
    show ObjOk M φ' H' w id
    unfold ObjOk at hall ⊢
    rcases Nat.lt_trichotomy id c with hlt | heq | hgt
    · by_cases hne : id = r0
      · subst hne
        have e1 : H.o id = .row cs := hso0
        have e2 : H'.o id = .row cs' := hor
        rw [e1] at hall
        rw [e2, hφl id hlt]
        obtain ⟨b, carr, ty, k1, k2, k3, k4⟩ := hall
        exact ⟨b, carr, ty, k1, k2, dens_of_convL hconv _ _ _ hrow k3, k4⟩
      have e2 : H'.o id = o id := hol id hlt hne
      rcases ho id hlt hne with hs | hs
      case inr => rw [e2, hs]; trivial
      have e1 : H.o id = o id := hs
      rw [e1] at hall
      rw [e2, hφl id hlt]
      cases hx' : o id with
      | no => trivial
      | row cs =>
        simp only [hx'] at hall hrefs ⊢
        obtain ⟨b, carr, ty, k1, k2, k3, k4⟩ := hall
        exact ⟨b, carr, ty, k1, k2, hvals _ _ hrefs k3, k4⟩
      | arr ep ty sz es =>
        simp only [hx'] at hall ⊢
        obtain ⟨k1, xs, k2, evs, k3, k4, k5⟩ := hall
        exact ⟨k1, xs, k2, evs, k3, k4, D.dens_mono (fun b _ hn => ⟨rfl, hB b hn⟩) _ _ k5⟩
      | fro ep es =>
        simp only [hx'] at hall ⊢
        exact D.den_mono (fun b _ hn => ⟨rfl, hB b hn⟩) _ _ hall
      | map kt vt es =>
        simp only [hx'] at hall ⊢
        obtain ⟨b, es', clock, k1, k2, k3⟩ := hall
        exact ⟨b, es', clock, k1, k2, EntsDen.mono (fun b _ hn => ⟨rfl, hB b hn⟩) _ _ k3⟩
      | loop nf n env ps a b st pd =>
        simp only [hx'] at hall hrefs ⊢
        obtain ⟨b, r, k1, k2, k3, k4, k5, k6, k7, k8, k9, k10⟩ := hall
        exact ⟨b, r, k1, k2, k3, k4, k5, k6, k7, k8, k9, fun i => hval _ _ (fun r hr => hrefs r (V.refss_get _ _ r hr)) (k10 i)⟩
    · subst heq
      have e2 : H'.o id = .arr 0 ty sz es := hoc
      rw [e2]
      rcases hx with ⟨rfl, rfl, hsz⟩ | ⟨j, ep, hj, rfl, hso⟩
      · refine ⟨hsz, [], ?_, [], by simp, by simp, rfl⟩
        rw [hφn rfl]
        exact World.ownsRow_nil _ _ _ _
      · have this : ObjOk M φ H w j := hH.ok j
        unfold ObjOk at this
        have e3 : H.o j = .arr ep ty sz es := hso
        simp only [e3] at this
        obtain ⟨k1, xs, k2, evs, k3, k4, k5⟩ := this
        exact ⟨k1, xs, by rw [hφc j ep rfl]; exact k2, evs, k3, k4, D.dens_mono (fun b _ hn => ⟨rfl, hB b hn⟩) _ _ k5⟩
    · have e2 : H'.o id = .no := hoh id hgt
      rw [e2]
      trivial
  · obtain ⟨i', a1, a2, a3⟩ := hold i k h1 h3
    obtain ⟨j', b1, b2, b3⟩ := hold j k h2 h4
    have := hH.apart i' j' k a1 b1 a2 b2
    have hne : ∀ id' j', (o' id').live = true → id' < c → gone j' → id' ≠ j' := fun id' j' g1 g2 g3 g4 => by
      subst g4
      obtain ⟨g5, g6⟩ := hgone _ g3 g2
      rw [hol _ g2 g5, g6] at g1
      cases g1
    rcases a3 with ⟨a3, a4⟩ | ⟨a3, a4, _⟩ <;> rcases b3 with ⟨b3, b4⟩ | ⟨b3, b4, _⟩
    · omega
    · exact absurd (a4.symm.trans this) (hne i j' h1 a3 b4)
    · exact absurd (b4.symm.trans this.symm) (hne j i' h2 b3 a4)
    · omega
  · have hi := convE_at l 0 he i
    rw [Nat.zero_add] at hi
    exact hconv _ _ _ hi (hd i)
  · have hlt : id < c := by omega
    have hr : (o' id).isRow = true := hr
    exact ⟨(hin id hlt).1.1 hr, hφl id hlt⟩
  · have hlt : id < c := by omega
    have he' : (o' id).epoch = some e' := he'
    exact ⟨e', (hin id hlt).1.2 e' he', Nat.le_refl _, fun _ => hφl id hlt⟩
theorem SLe.conv {b : Nat} {e : Nat → V} {so : Nat → Obj'} {m : Nat} (l : List V) {o : Nat → Obj'} {c : Nat} {ty : TypeId} {sz : Nat} {es : List D} (x : V) (r0 : Nat) (cs cs' : List V) (hr0 : r0 < c) (hb : b ≤ c) (hcm : c ≤ m) (hg : Good o c) (ho : ∀ id, id < c → id ≠ r0 → so id = o id) (hso0 : so r0 = .row cs) (hrow : convL c x so (fun id => c ≤ id) cs cs') (hx : Grows so c ty sz es x) (he : convE c x so (fun id => c ≤ id) e l 0) :
    SLe b ⟨e, so, m⟩ ⟨envJ l, upd (upd o c (.arr 0 ty sz es)) r0 (.row cs'), c + 1⟩ :=
  SLe.convD _ l x r0 cs cs' hr0 hb hcm hg (fun id h1 h2 => absurd h1 (by omega)) (fun id h1 h2 => .inl (ho id h1 h2)) hso0 hrow hx he
def ren (id nx : Nat) : Nat → Nat
  | 0 => id
  | k + 1 => nx + k
theorem ren_inj {id nx : Nat} (h : id < nx) : ∀ a b, ren id nx a = ren id nx b → a = b
  | 0, 0, _ => rfl
  | 0, b + 1, e => by simp only [ren] at e; omega
  | a + 1, 0, e => by simp only [ren] at e; omega
  | a + 1, b + 1, e => by simp only [ren] at e; omega
theorem disj_iff {xs ys : List Nat} : disj xs ys = true ↔ ∀ x ∈ xs, x ∉ ys := by
  simp [disj, List.all_eq_true]
theorem disj_ren {id nx : Nat} (h : id < nx) {xs ys : List Nat} (hd : disj xs ys = true) : disj (xs.map (ren id nx)) (ys.map (ren id nx)) = true := by
  rw [disj_iff] at hd ⊢
  intro x hx hy
  obtain ⟨a, ha, rfl⟩ := List.mem_map.1 hx
  obtain ⟨b, hb, e⟩ := List.mem_map.1 hy
  rw [ren_inj h b a e] at hb
  exact hd a ha hb
def renF (id nx : Nat) (x : List Nat × List Nat) : List Nat × List Nat := (x.1.map (ren id nx), x.2.map (ren id nx))
theorem objsOk_ren {id nx : Nat} (h : id < nx) {pr : List (List Nat)} (fp : List (List Nat × List Nat)) (ho : objsOk pr fp = true) : objsOk pr (fp.map (renF id nx)) = true := by
  unfold objsOk at ho ⊢
  rw [List.all_eq_true] at ho ⊢
  intro j hj
  rw [List.length_map] at hj
  have ho := ho j hj
  rw [List.all_eq_true] at ho ⊢
  intro i hi
  have ho := ho i hi
  have hm : ∀ k, (fp.map (renF id nx)).getD k ([], []) = renF id nx (fp.getD k ([], [])) := fun k => by
    rw [List.getD_eq_getElem?_getD, List.getD_eq_getElem?_getD, List.getElem?_map]
    cases fp[k]? <;> rfl
  rw [hm, hm]
  rw [Bool.or_eq_true] at ho ⊢
  refine ho.imp (fun h => h) (fun ho => ?_)
  rw [Bool.and_eq_true, Bool.and_eq_true] at ho ⊢
  exact ⟨⟨disj_ren h ho.1.1, disj_ren h ho.1.2⟩, disj_ren h ho.2⟩
theorem cond_join {P : Program} {n b : Nat} {rd : Bool} {A B T : IC} {Q Q' : Xit → S → Prop} {st : S} {t : Bool} (Inv : S → Prop) (htail : ∀ s, Inv s → evW P n b rd T Q s)
    (h : ∀ Kt : Xit → S → Prop, (∀ s, Inv s → Kt .normal s) → (∀ v s, Q' (.pan v) s → Kt (.pan v) s) → condC (evW P n b rd A Kt st) (evW P n b rd B Kt st) t) :
    condC (evW P n b rd A (thenQ (fun s => evW P n b rd T Q s) Q') st) (evW P n b rd B (thenQ (fun s => evW P n b rd T Q s) Q') st) t :=
  h _ (fun s hs => htail s hs) (fun _ _ h => h)
def keptE (env : Nat → V) : List V → Nat → Prop
  | [], _ => True
  | v :: l, i => (v = .junk ∨ v = env i) ∧ keptE env l (i + 1)
theorem keptE_nil {env : Nat → V} {i : Nat} : keptE env [] i := trivial
theorem keptE_junk {env : Nat → V} {l : List V} {i : Nat} (h : keptE env l (i + 1)) : keptE env (.junk :: l) i := ⟨.inl rfl, h⟩
theorem keptE_v {env : Nat → V} {l : List V} {i : Nat} {v : V} (he : env i = v) (h : keptE env l (i + 1)) : keptE env (v :: l) i := ⟨.inr he.symm, h⟩
theorem keptE_at {env : Nat → V} : ∀ (l : List V) (i : Nat), keptE env l i → ∀ j, envJ l j = .junk ∨ envJ l j = env (i + j)
  | [], i, _, j => by rw [envJ_nil]; exact .inl rfl
  | v :: l, i, h, 0 => by rw [envJ_zero]; exact h.1
  | v :: l, i, h, j + 1 => by
    rw [envJ_succ]
    have := keptE_at l (i + 1) h.2 j
    rwa [show i + 1 + j = i + (j + 1) by omega] at this
theorem rng_intro {P : Program} {n : Nat} {ps : List Nat} {x y : IC} {Q : Xit → S → Prop} {e : Nat → V} {o : Nat → Obj'} {nx : Nat} {f : FuncId} {cap : List V} (env : List V) (he : keptE e env 0)
    (h : CtK P f (.yld nx :: cap) (upd o nx (.loop P.funcs.size n env ps x y .ready none)) (nx + 1)
      (fun _ o' nx' => ∃ nf m en p c d st pd, o' nx = .loop nf m en p c d st pd ∧ st ≠ .busy ∧ jmpQ Q pd ⟨e, upd o' nx (.loop nf m en p c d .exhausted pd), nx'⟩) (fun v o' nx' => Q (.pan v) ⟨e, o', nx'⟩)) :
    rngS P n false ps x y Q ⟨e, o, nx⟩ (.func (.func f) [] cap) := by
  unfold rngS rngW
  refine ⟨rfl, env, fun i => ?_, .inl h⟩
  have := keptE_at env 0 he i
  rwa [Nat.zero_add] at this
def beginE (P : Program) (n b id : Nat) (icb : IC) (K X : V → (Nat → Obj') → Nat → Prop) (e : Xit) (s : S) : Prop :=
  match e with
  | .normal => ∃ nf m en p c d pd, s.o id = .loop nf m en p c d .ready pd ∧ evW P n b true icb (roundQ id K X) ⟨s.env, upd s.o id (.loop nf m en p c d .busy pd), s.nx⟩
  | .pan v => X v s.o s.nx
  | _ => False
theorem RoundK.of_ev {P : Program} {n : Nat} (hmix : P.follows .mixedOrders = true) {id : Nat} {args : List V} {o : Nat → Obj'} {nx : Nat} {K X : V → (Nat → Obj') → Nat → Prop} {env : List V} {ps : List Nat} {ica icb : IC} {st : LoopState} {pd : Option Jmp}
    (ho : o id = .loop P.funcs.size n env ps ica icb st pd) (hlt : id < nx) (hps : ps.all (fun t => decide (t < n)) = true) (hl : args.length = ps.length)
    (h : evW P n nx true ica (beginE P n nx id icb K X) ⟨setP (envJ env) ps args, o, nx⟩) : RoundK P id args o nx K X := by
  refine RoundK.of_ic hmix ho hlt hps hl (evW_icW ica _ _ _ (fun e s h => ?_) h)
  cases e with
  | normal =>
    obtain ⟨nf, m, en, p, c, d, pd, h1, h2⟩ := h
    exact ⟨nf, m, en, p, c, d, pd, h1, evW_icW icb _ _ _ (fun _ _ h => h) h2⟩
  | pan v => exact h
  | _ => exact h.elim
theorem beginE_intro {P : Program} {n b id : Nat} {icb : IC} {K X : V → (Nat → Obj') → Nat → Prop} {s : S} {nf m : Nat} {en : List V} {p : List Nat} {c d : IC} {pd : Option Jmp} (h : s.o id = .loop nf m en p c d .ready pd)
    (h2 : evW P n b true icb (roundQ id K X) ⟨s.env, upd s.o id (.loop nf m en p c d .busy pd), s.nx⟩) : beginE P n b id icb K X .normal s := ⟨nf, m, en, p, c, d, pd, h, h2⟩
def renL : List Nat → Nat → Nat → Nat
  | [], nx, k => nx + k
  | i :: _, _, 0 => i
  | _ :: l, nx, k + 1 => renL l nx k
theorem renL_in : ∀ (l : List Nat) (nx k : Nat), renL l nx k ∈ l ∨ nx ≤ renL l nx k
  | [], nx, k => .inr (Nat.le_add_right _ _)
  | i :: _, _, 0 => .inl (List.mem_cons_self ..)
  | _ :: l, nx, k + 1 => (renL_in l nx k).imp (List.mem_cons_of_mem _) id
theorem renL_inj {nx : Nat} : ∀ (l : List Nat), l.Nodup → (∀ i ∈ l, i < nx) → ∀ a b, renL l nx a = renL l nx b → a = b
  | [], _, _, a, b, e => by simp only [renL] at e; omega
  | i :: l, _, _, 0, 0, _ => rfl
  | i :: l, hd, hl, 0, b + 1, e => by
    simp only [renL] at e
    rcases renL_in l nx b with h | h
    · rw [← e] at h; exact absurd h (List.nodup_cons.1 hd).1
    · have := hl i (List.mem_cons_self ..); omega
  | i :: l, hd, hl, a + 1, 0, e => by
    simp only [renL] at e
    rcases renL_in l nx a with h | h
    · rw [e] at h; exact absurd h (List.nodup_cons.1 hd).1
    · have := hl i (List.mem_cons_self ..); omega
  | i :: l, hd, hl, a + 1, b + 1, e => by
    simp only [renL] at e
    rw [renL_inj l (List.nodup_cons.1 hd).2 (fun j hj => hl j (List.mem_cons_of_mem _ hj)) a b e]
def renG (f : Nat → Nat) (x : List Nat × List Nat) : List Nat × List Nat := (x.1.map f, x.2.map f)
theorem disj_map {f : Nat → Nat} (hf : ∀ a b, f a = f b → a = b) {xs ys : List Nat} (hd : disj xs ys = true) : disj (xs.map f) (ys.map f) = true := by
  rw [disj_iff] at hd ⊢
  intro x hx hy
  obtain ⟨a, ha, rfl⟩ := List.mem_map.1 hx
  obtain ⟨b, hb, e⟩ := List.mem_map.1 hy
  rw [hf b a e] at hb
  exact hd a ha hb
theorem objsOk_map {f : Nat → Nat} (hf : ∀ a b, f a = f b → a = b) {pr : List (List Nat)} (fp : List (List Nat × List Nat)) (ho : objsOk pr fp = true) : objsOk pr (fp.map (renG f)) = true := by
  unfold objsOk at ho ⊢
  rw [List.all_eq_true] at ho ⊢
  intro j hj
  rw [List.length_map] at hj
  have ho := ho j hj
  rw [List.all_eq_true] at ho ⊢
  intro i hi
  have ho := ho i hi
  have hm : ∀ k, (fp.map (renG f)).getD k ([], []) = renG f (fp.getD k ([], [])) := fun k => by
    rw [List.getD_eq_getElem?_getD, List.getD_eq_getElem?_getD, List.getElem?_map]
    cases fp[k]? <;> rfl
  rw [hm, hm]
  rw [Bool.or_eq_true] at ho ⊢
  refine ho.imp (fun h => h) (fun ho => ?_)
  rw [Bool.and_eq_true, Bool.and_eq_true] at ho ⊢
  exact ⟨⟨disj_map hf ho.1.1, disj_map hf ho.1.2⟩, disj_map hf ho.2⟩
theorem objsOk_renL {ids : List Nat} {nx : Nat} (hd : ids.Nodup) (hl : ∀ i ∈ ids, i < nx) {pr : List (List Nat)} (fp : List (List Nat × List Nat)) (ho : objsOk pr fp = true) : objsOk pr (fp.map (renG (renL ids nx))) = true :=
  objsOk_map (renL_inj ids hd hl) fp ho
theorem callDR_pan {P : Program} {g : FuncId} {K : KD} {X : XD} {o : Nat → Obj'} {nx fr : Nat} {all : List V} {rd : List Nat} {x : D} {Δ : List (Nat × Obj')} (hrd : rd.all (fun id => decide (id < nx)) = true) (h : HCt P g all rd o (.pan x) Δ) (hk : X (.d x) (Δ.map (·.1)) rd) : callDR P g K X o nx fr all := by
  unfold callDR
  exact ⟨rd, Δ, hrd, .inr (.inl ⟨x, h, hk⟩)⟩
section
variable {P : Program} {KB : List Nat → Fp → Prop} {pr : List (List Nat)} {l : List IOp} {fr : Nat} {fp : Fp} {bad ws : List Nat} {s : S} {d : Option Nat} {op : Op}
theorem badE_nil (h : KB ws fp) : badE P KB pr [] fr fp bad ws s := by unfold badE; exact h
theorem badE_skip {o : IOp} (hb : (pr.getD fp.length []).any (fun j => bad.contains j) = true) (h : badE P KB pr l (fr + 1) (fp ++ [([], [])]) (bad ++ [fp.length]) ws ⟨putE s.env o.dst .junk, s.o, s.nx⟩) : badE P KB pr (o :: l) fr fp bad ws s := by
  unfold badE at h ⊢
  simp only [regB]
  rw [if_pos hb]
  exact h
theorem badE_op (hb : (pr.getD fp.length []).any (fun j => bad.contains j) = false) (h2 : isCallV op = none)
    (h : bindR (fun v Δ rd => badE P KB pr l (fr + 1) (fp ++ [(rd, Δ.map (·.1))]) bad (ws ++ Δ.map (·.1)) ⟨putE s.env d v, put s.o Δ, s.nx⟩) (opR s op) (sopF P s fr op)) : badE P KB pr (⟨d, op, none⟩ :: l) fr fp bad ws s := by
  unfold badE
  simp only [regB]
  rw [if_neg (by rw [hb]; exact Bool.noConfusion)]
  refine opE_opD (K := fun v Δ rd => badE P KB pr l (fr + 1) (fp ++ [(rd, Δ.map (·.1))]) bad (ws ++ Δ.map (·.1)) ⟨putE s.env d v, put s.o Δ, s.nx⟩) (X := fun _ _ _ => False) (fun v Δ r h => ?_) (fun _ _ _ h => h) (by rw [opE_op h2]; exact h)
  unfold badE at h
  exact h
end
end Go.Proofs.Ytaafchgfibbmhaa
namespace Go.Proofs.Ytaafchgfibbmhaa
theorem eqV_nils {P : Program} {o : Nat → Obj'} {t e : TypeId} {c : Bool} {l : List D} (h : P.underlying t = some (.slice e)) : eqV P o t c (.d (.sl l)) .nils = some (if l = [] then .anyb else .d (.bool false)) := by
  unfold eqV
  rw [h]
  rfl
theorem clone_c (l : List Int) (hl : l.length ≤ 1000) : PCt Try.prog 89 [.sl (l.map .i)] (.ret [.sl (l.map .i)]) := by
  have hu : Try.prog.underlying 42 = some (.slice 3) := by kernel_rfl
  refine PCt.of_ev mix fn89 (by simp) ?_
  rw [c89]
  simp +contextual only [go_sem]
  rw [eqV_nils hu]
  cases l with
  | nil =>
    simp +contextual only [go_sem]
    simp only [List.isEmpty_nil, if_true]
    simp +contextual only [go_sem]
    trace_state
  | cons x l =>
    simp only [List.map_cons, reduceCtorEq, if_false]
    simp +contextual only [go_sem]
    simp only [List.isEmpty_nil, if_true]
    simp +contextual only [go_sem]
    simp only [List.length_cons] at hl
    rw [if_pos (by simp [List.all_eq_true, D.i]), if_pos (by omega)]
    simp +contextual only [go_sem]
theorem cloned_c (l : List Made) (hl : l.length ≤ 1000) (hc : ∀ m ∈ l, m.r.c.length ≤ 1000 ∧ m.t.length ≤ 1000) : PCt Try.prog 61 [.sl (l.map Made.d)] (.ret [.sl (l.map Made.d)]) := by
  refine PCt.of_ev mix fn61 (by simp) ?_
  rw [c61]
  simp +contextual only [go_sem]
  refine loop_fam (fun k : Nat => ⟨envJ [.junk, .junk, .junk, .osl 0 0, .junk, .junk, .d (.sl (l.map Made.d)), .d (.i l.length), .d (.i k)], upd (fun _ => .no) 0 (.arr 0 47 4 ((l.take k).map Made.d)), 1⟩)
    (fun k => k ≤ l.length) (fun k => l.length - k) 0 (Nat.zero_le _) (SLe.grow _ .nils (Nat.le_refl _) (by omega) Good.nil (fun _ h => absurd h (Nat.not_lt_zero _)) (.inl ⟨rfl, rfl, by decide⟩) ?_) (fun k hk => ?_)
  · exact growE_junk (growE_junk (growE_junk (growE_x rfl (growE_junk (growE_junk (growE_d rfl (growE_d rfl (growE_d rfl growE_nil))))))))
  simp +contextual only [go_sem]
  refine cond_intro (fun h2 => ?_) (fun h2 => ?_)
  · simp at h2
    obtain ⟨m, hm⟩ : ∃ m, l[k]? = some m := ⟨l[k], by simp [h2]⟩
    have hmb := hc m (List.mem_of_getElem? hm)
    have hlen : (l.take k).length ≤ 140737488355327 := by simp; omega
    have hlen8 : ((l.take k).length + 1) * 64 ≤ 140737488355328 := by simp; omega
    simp +contextual only [go_sem, hm, Made.d, Row.d]
    refine callD_give (clone_c m.r.c (by omega)) ?_
    simp +contextual only [go_sem]
    refine callD_give (clone_c m.t (by omega)) ?_
    simp +contextual only [go_sem]
    refine end_intro (by decide) ?_
    simp +contextual only [go_sem, if_true, if_false, hlen, hlen8]
    have hstep : (l.take k).map Made.d ++ [D.agg [D.sl (List.map D.i m.r.c), D.i m.r.rel, D.i m.r.b, D.sl (List.map D.i m.t)]] = (l.take (k + 1)).map Made.d := by
      rw [List.take_add_one, hm]; simp
    rw [hstep]
    refine nextS_intro (k + 1) h2 (by omega) (SLe.grow _ (.osl 0 1) (Nat.le_refl _) (by omega) Good.nil (fun _ h => absurd h (Nat.not_lt_zero _)) (.inr ⟨0, 1, Nat.le_refl _, rfl, by simp⟩) ?_)
    exact growE_junk (growE_junk (growE_junk (growE_x rfl (growE_junk (growE_junk (growE_d rfl (growE_d rfl (growE_d (d_int (wrapN (by omega))) growE_nil))))))))
  · simp +contextual only [go_sem]
    simp at h2
    rw [List.take_of_length_le (by omega)]
end Go.Proofs.Ytaafchgfibbmhaa
namespace Go.Proofs.Ytaafchgfibbmhaa
def emptyF (r : Row) : Bool := decide (r.c.getD 0 0 = 0 ∧ r.c.getD 1 0 = 0 ∧ r.c.getD 2 0 = 0 ∧ r.c.getD 3 0 = 0 ∧ r.c.getD 4 0 = 0)
def goneF (r : Row) : Bool := emptyF r && relF 0 r.rel r.b
theorem eqLine {o : Nat → Obj'} {c : Bool} (a0 a1 a2 a3 a4 : Int) : eqV Try.prog o 110 c (.d (.agg [.i a0, .i a1, .i a2, .i a3, .i a4])) (.d (.agg [.int .i64 0, .int .i64 0, .int .i64 0, .int .i64 0, .int .i64 0])) = some (.d (.bool (decide (a0 = 0 ∧ a1 = 0 ∧ a2 = 0 ∧ a3 = 0 ∧ a4 = 0)))) := by
  unfold eqV
  rw [undT_110]
  show (if _ then _ else _) = _
  rw [if_pos (by kernel_rfl)]
  have h1 : eqShape Try.prog 110 = some (.arr 5 3) := by kernel_rfl
  have h2 : eqShape Try.prog 3 = some .int := by kernel_rfl
  have h3 : aggT Try.prog 3 = some false := by kernel_rfl
  simp [eqT, h1, h2, h3, itmsE, eq2, partD, cellsOf_3, andO]
  rfl
theorem empty_c (r : Row) : PCt Try.prog 127 [.agg (lineD r)] (.ret [.bool (emptyF r)]) := by
  refine PCt.of_ev mix fn127 (by simp) ?_
  rw [c127]
  simp +contextual only [go_sem, lineD]
  rw [eqLine]
  simp +contextual only [go_sem]
  rfl
theorem gone_c (r : Row) : PCt Try.prog 111 [.agg (lineD r)] (.ret [.bool (goneF r)]) := by
  refine PCt.of_ev mix fn111 (by simp) ?_
  rw [c111]
  simp +contextual only [go_sem, lineD]
  refine call_give (empty_c r) ?_
  simp +contextual only [go_sem, lineD]
  cases he : emptyF r with
  | false =>
    simp +contextual only [go_sem]
    simp [goneF, he]
  | true =>
    simp +contextual only [go_sem]
    refine call_give (related_c 0 r.rel r.b) ?_
    simp +contextual only [go_sem]
    simp [goneF, he]
end Go.Proofs.Ytaafchgfibbmhaa
