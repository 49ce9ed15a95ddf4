/-
  A PART OF THE PROOF. Conditions: none.
-/
import Derived.Test.YtealblliddhgiaaGreatSb16
set_option linter.unusedSimpArgs false
set_option linter.unusedVariables false
namespace Go.Proofs.YtealblliddhgiaaGreat
def Like (x y : Obj') : Prop := (x.isRow = true -> y.isRow = true) /\ ∀ e, x.epoch = some e -> y.epoch = some e
theorem Like.rfl' {x y : Obj'} (h : x = y) : Like x y := h ▸ ⟨id, fun _ h => h⟩
theorem Like.fz (x : Obj') : Like x.fz x := by cases x <;> exact ⟨id, fun _ h => h⟩
theorem Like.row (cs cs' : List V) : Like (.row cs) (.row cs') := ⟨fun _ => rfl, fun _ h => by cases h⟩
mutual
theorem V.den_like {B B' : Nat -> Prop} {φ φ' : Place} {H H' : Hp} {w : World} (hB : ∀ b, ¬ B b -> ¬ B' b) : ∀ (v : V) (val : Value), (∀ id ∈ v.refs, Like (H'.o id) (H.o id) /\ φ' id = φ id /\ H'.us id) -> V.den B φ H w v val -> V.den B' φ' H' w v val
 | .d x, val, _, h => D.den_mono (w := w) (w' := w) (fun b _ hn => ⟨rfl, hB b hn⟩) x val h
 | .nils, _, _, h => h
 | .junk, _, _, _ => trivial
 | .anyb, _, _, h => h
 | .csl es, val, _, h => ⟨D.den_mono (w := w) (w' := w) (fun b _ hn => ⟨rfl, hB b hn⟩) (.sl es) val h.1, h.2⟩
 | .agg cs, val, hr, h => by
   obtain ⟨a, rfl, h1, h2⟩ := h
   exact ⟨a, rfl, V.dens_like hB cs _ (by simpa [V.refs] using hr) h1, h2⟩
 | .tup cs, val, hr, h => by
   obtain ⟨a, rfl, h1⟩ := h
   exact ⟨a, rfl, V.dens_like hB cs _ (by simpa [V.refs] using hr) h1⟩
 | .ptr id off, val, hr, h => by
   obtain ⟨a, b, c⟩ := hr id (by simp [V.refs])
   obtain ⟨h0, h1, h2⟩ := h
   refine ⟨h0, c, fun hrow => ?_⟩
   obtain ⟨x, y, z⟩ := h2 (a.1 hrow)
   exact ⟨x, b.trans y, z⟩
 | .osl id ep, val, hr, h => by
   obtain ⟨a, b, c⟩ := hr id (by simp [V.refs])
   obtain ⟨h0, h1, h2⟩ := h
   refine ⟨h0, c, fun e he => ?_⟩
   obtain ⟨x, y⟩ := h2 e (a.2 e he)
   exact ⟨x, fun heq => (y heq).trans b.symm⟩
 | .pe id ep i sz off, val, hr, h => by
   obtain ⟨a, b, c⟩ := hr id (by simp [V.refs])
   obtain ⟨h0, h1, h2⟩ := h
   refine ⟨h0, c, fun e he => ?_⟩
   obtain ⟨x, y⟩ := h2 e (a.2 e he)
   refine ⟨x, fun heq => ?_⟩
   obtain ⟨p, q, r, z, u⟩ := y heq
   exact ⟨p, q, r, b.trans z, u⟩
 | .pp cs off, val, _, h => by
   obtain ⟨a, ev, h1, h2, h3, h5, h4⟩ := h
   exact ⟨a, ev, h1, h2, D.dens_mono (w := w) (w' := w) (fun b _ hn => ⟨rfl, hB b hn⟩) cs ev h3, h5, h4.mono (w := w) (w' := w) (fun b _ hn => ⟨rfl, hB b hn⟩)⟩
 | .func fn first cap, val, hr, h => by
   obtain ⟨f, c, rfl, h1, h2⟩ := h
   exact ⟨f, c, rfl, V.dens_like hB first _ (fun id hid => hr id (by simp [V.refs, hid])) h1, V.dens_like hB cap _ (fun id hid => hr id (by simp [V.refs, hid])) h2⟩
 | .iface t x, val, hr, h => by
   obtain ⟨u, rfl, h⟩ := h
   exact ⟨u, rfl, V.den_like hB x u (by simpa [V.refs] using hr) h⟩
 | .rsl id off n, val, hr, h => by
   obtain ⟨a, b, c⟩ := hr id (by simp [V.refs])
   obtain ⟨h0, h1, h2⟩ := h
   refine ⟨h0, c, fun hrow => ?_⟩
   obtain ⟨x, y, z⟩ := h2 (a.1 hrow)
   exact ⟨x, b.trans y, z⟩
 | .mp id, val, hr, h => by
   obtain ⟨a, b, c⟩ := hr id (by simp [V.refs])
   obtain ⟨h0, h1, h2⟩ := h
   refine ⟨h0, c, fun hrow => ?_⟩
   exact (h2 (a.1 hrow)).trans b.symm
 | .yld id, val, hr, h => by
   obtain ⟨a, b, c⟩ := hr id (by simp [V.refs])
   obtain ⟨h0, h1, h2⟩ := h
   refine ⟨h0, c, fun hrow => ?_⟩
   obtain ⟨x, y, z⟩ := h2 (a.1 hrow)
   exact ⟨x, b.trans y, z⟩
theorem V.dens_like {B B' : Nat -> Prop} {φ φ' : Place} {H H' : Hp} {w : World} (hB : ∀ b, ¬ B b -> ¬ B' b) : ∀ (vs : List V) (vals : List Value), (∀ id ∈ V.refss vs, Like (H'.o id) (H.o id) /\ φ' id = φ id /\ H'.us id) -> V.dens B φ H w vs vals -> V.dens B' φ' H' w vs vals
 | [], _, _, h => h
 | v :: vs, _, hr, h => by
   obtain ⟨u, us, rfl, h1, h2⟩ := h
   exact ⟨u, us, rfl, V.den_like hB v u (fun id hid => hr id (by simp [V.refss, hid])) h1, V.dens_like hB vs us (fun id hid => hr id (by simp [V.refss, hid])) h2⟩
end
mutual
theorem V.refs_used {B : Nat -> Prop} {φ : Place} {H : Hp} {w : World} : ∀ (v : V) (val : Value), V.den B φ H w v val -> ∀ id ∈ v.refs, H.us id
 | .osl id ep, _, h, j, hj | .ptr id off, _, h, j, hj | .pe id ep i sz off, _, h, j, hj | .rsl id off n, _, h, j, hj | .mp id, _, h, j, hj | .yld id, _, h, j, hj => by simp [V.refs] at hj; subst hj; exact h.2.1
 | .agg cs, _, h, j, hj => by obtain ⟨a, rfl, h, _⟩ := h; exact V.refss_used cs _ h j (by simpa [V.refs] using hj)
 | .tup cs, _, h, j, hj => by obtain ⟨a, rfl, h⟩ := h; exact V.refss_used cs _ h j (by simpa [V.refs] using hj)
 | .func fn first cap, _, h, j, hj => by
   obtain ⟨f, c, rfl, h1, h2⟩ := h
   rcases List.mem_append.1 (show j ∈ V.refss first ++ V.refss cap by simpa [V.refs] using hj) with hj | hj
   ·exact V.refss_used first _ h1 j hj
   ·exact V.refss_used cap _ h2 j hj
 | .iface t x, _, h, j, hj => by obtain ⟨u, rfl, h⟩ := h; exact V.refs_used x u h j (by simpa [V.refs] using hj)
 | .d _, _, _, _, hj | .nils, _, _, _, hj | .pp _ _, _, _, _, hj | .junk, _, _, _, hj | .csl _, _, _, _, hj | .anyb, _, _, _, hj => by simp [V.refs] at hj
theorem V.refss_used {B : Nat -> Prop} {φ : Place} {H : Hp} {w : World} : ∀ (vs : List V) (vals : List Value), V.dens B φ H w vs vals -> ∀ id ∈ V.refss vs, H.us id
 | [], _, _, j, hj => by simp [V.refss] at hj
 | v :: vs, _, h, j, hj => by
   obtain ⟨u, us, rfl, h1, h2⟩ := h
   rcases List.mem_append.1 (show j ∈ v.refs ++ V.refss vs by simpa [V.refss] using hj) with hj | hj
   ·exact V.refs_used v u h1 j hj
   ·exact V.refss_used vs us h2 j hj
end
def convV (c : Nat) (x : V) (so : Nat -> Obj') (gone : Nat -> Prop) (v v' : V) : Prop :=
 v' = .junk \/ (v' = v /\ ∀ r ∈ v.refs, r < c) \/ (v' = .osl c 0 /\ v = x) \/ ∃ y, v' = .d y /\ toD so v = some y /\ ∀ id ∈ v.ids, gone id /\ ∀ ep, x ≠ .osl id ep
def convE (c : Nat) (x : V) (so : Nat -> Obj') (gone : Nat -> Prop) (env : Nat -> V) : List V -> Nat -> Prop
 | [], _ => True
 | v :: l, i => convV c x so gone (env i) v /\ convE c x so gone env l (i + 1)
def convL (c : Nat) (x : V) (so : Nat -> Obj') (gone : Nat -> Prop) : List V -> List V -> Prop
 | [], [] => True
 | v :: l, v' :: l' => convV c x so gone v v' /\ convL c x so gone l l'
 | _, _ => False
theorem convE_at {c : Nat} {x : V} {so : Nat -> Obj'} {gone : Nat -> Prop} {env : Nat -> V} : ∀ (l : List V) (i : Nat), convE c x so gone env l i -> ∀ j, convV c x so gone (env (i + j)) (envJ l j)
 | [], i, _, j => by rw [envJ_nil]; exact .inl rfl
 | v :: l, i, h, 0 => by rw [envJ_zero]; exact h.1
 | v :: l, i, h, j + 1 => by
   rw [envJ_succ]
   have := convE_at l (i + 1) h.2 j
   rwa [show i + 1 + j = i + (j + 1) by omega] at this
theorem dens_of_convL {c : Nat} {x : V} {so : Nat -> Obj'} {gone : Nat -> Prop} {B B' : Nat -> Prop} {φ φ' : Place} {H H' : Hp} {w : World} (hc : ∀ v v' val, convV c x so gone v v' -> V.den B φ H w v val -> V.den B' φ' H' w v' val) :
 ∀ (l l' : List V) (vals : List Value), convL c x so gone l l' -> V.dens B φ H w l vals -> V.dens B' φ' H' w l' vals
 | [], [], _, _, h => h
 | v :: l, v' :: l', _, h, hd => by
   obtain ⟨u, us, rfl, h1, h2⟩ := hd
   exact ⟨u, us, rfl, hc _ _ _ h.1 h1, dens_of_convL hc l l' us h.2 h2⟩
 | [], _ :: _, _, h, _ => h.elim
 | _ :: _, [], _, h, _ => h.elim
def GrowsG (so : Nat -> Obj') (gone : Nat -> Prop) (ty : TypeId) (sz : Nat) (es : List D) (x : V) : Prop :=
 (x = .nils /\ es = [] /\ 0 < sz) \/ ∃ id ep, gone id /\ x = .osl id ep /\ so id = .arr ep ty sz es
theorem Grows.gone {so : Nat -> Obj'} {c : Nat} {ty : TypeId} {sz : Nat} {es : List D} {x : V} (h : Grows so c ty sz es x) : GrowsG so (fun id => c <= id) ty sz es x := h
theorem SLe.convD (gone : Nat -> Prop) {b : Nat} {e : Nat -> V} {so : Nat -> Obj'} {m : Nat} (l : List V) {o : Nat -> Obj'} {c : Nat} {ty : TypeId} {sz : Nat} {es : List D} (x : V) (r0 : Nat) (cs cs' : List V) (hr0 : r0 < c) (hb : b <= c) (hcm : c <= m) (hg : Good o c) (hgone : ∀ id, gone id -> id < c -> id ≠ r0 /\ o id = .no) (ho : ∀ id, id < c -> id ≠ r0 -> so id = o id \/ o id = .no) (hso0 : so r0 = .row cs) (hrow : convL c x so gone cs cs') (hx : GrowsG so gone ty sz es x) (he : convE c x so gone e l 0) :
 SLe b ⟨e, so, m⟩ ⟨envJ l, upd (upd o c (.arr 0 ty sz es)) r0 (.row cs'), c + 1⟩ := by
 intro M φ w tm hH hd
 let φ' : Place := growPl φ c x
 let o' : Nat -> Obj' := upd (upd o c (.arr 0 ty sz es)) r0 (.row cs')
 let H' : Hp := hp o' (c + 1)
 let H : Hp := ⟨so, fun id => id < m⟩
 have hoc : o' c = .arr 0 ty sz es := by show upd (upd o c (.arr 0 ty sz es)) r0 (.row cs') c = _; rw [upd_ne _ _ _ _ (by omega), upd_same]
 have hol : ∀ id, id < c -> id ≠ r0 -> o' id = o id := fun id hid hne => by show upd (upd o c (.arr 0 ty sz es)) r0 (.row cs') id = _; rw [upd_ne _ _ _ _ hne, upd_ne _ _ _ _ (by omega)]
 have hor : o' r0 = .row cs' := upd_same _ _ _
 have hoh : ∀ id, c < id -> o' id = .no := fun id hid => by show upd (upd o c (.arr 0 ty sz es)) r0 (.row cs') id = _; rw [upd_ne _ _ _ _ (by omega), upd_ne _ _ _ _ (by omega)]; exact hg.fresh id (by omega)
 have hφl : ∀ id, id < c -> φ' id = φ id := fun id hid => if_neg (by omega)
 have hφn : x = .nils -> φ' c = .slice none 0 0 := fun h => by simp only [φ', growPl, h, if_pos]
 have hφc : ∀ id ep, x = .osl id ep -> φ' c = φ id := fun id ep h => by simp only [φ', growPl, if_pos, h]
 have hold : ∀ id k, (o' id).live = true -> blk (φ' id) = some k -> ∃ j, (so j).live = true /\ blk (φ j) = some k /\ ((id < c /\ j = id) \/ (id = c /\ gone j /\ ∃ ep, x = .osl j ep)) := by
  intro id k h1 h2
  rcases Nat.lt_trichotomy id c with hlt | heq | hgt
  ·rw [hφl id hlt] at h2
   by_cases hne : id = r0
   ·subst hne
    exact ⟨id, by rw [hso0]; rfl, h2, .inl ⟨hlt, rfl⟩⟩
   ·rw [hol id hlt hne] at h1
    rcases ho id hlt hne with hs | hs
    ·exact ⟨id, by rw [hs]; exact h1, h2, .inl ⟨hlt, rfl⟩⟩
    ·rw [hs] at h1; cases h1
  ·subst heq
   rcases hx with ⟨rfl, _, _⟩ | ⟨j, ep, hj, rfl, hso⟩
   ·rw [hφn rfl] at h2; cases h2
   ·rw [hφc j ep rfl] at h2
    exact ⟨j, by rw [hso]; rfl, h2, .inr ⟨rfl, hj, ep, rfl⟩⟩
  ·rw [hoh id hgt] at h1; cases h1
 have hlive : ∀ k, liveB φ' H' k -> liveB φ H k := by
  rintro k ⟨id, h1, h2⟩
  obtain ⟨j, g1, g2, _⟩ := hold id k h1 h2
  exact ⟨j, g1, g2⟩
 have hB : ∀ k, ¬ mutB M φ H k -> ¬ mutB M φ' H' k := fun k h h' => h (h'.imp id (hlive k))
 have hin : ∀ id, id < c -> Like (H'.o id) (H.o id) /\ φ' id = φ id /\ H'.us id := fun id hid => by
  refine ⟨?_, hφl id hid, (by show id < c + 1; omega)⟩
  by_cases hne : id = r0
  ·subst hne
   show Like (o' id) (so id)
   rw [hor, hso0]; exact Like.row _ _
  ·rcases ho id hid hne with hs | hs
   ·exact Like.rfl' ((hol id hid hne).trans hs.symm)
   ·show Like (o' id) (so id)
    rw [hol id hid hne, hs]
    exact ⟨fun h => (by cases h), fun e h => (by cases h)⟩
 have hval : ∀ (v : V) (val : Value), (∀ r ∈ v.refs, r < c) -> V.den (mutB M φ H) φ H w v val -> V.den (mutB M φ' H') φ' H' w v val := fun v val hr h =>
  V.den_like (H := H) (H' := H') hB v val (fun id hid => hin id (hr id hid)) h
 have hvals : ∀ (v : List V) (val : List Value), (∀ r ∈ V.refss v, r < c) -> V.dens (mutB M φ H) φ H w v val -> V.dens (mutB M φ' H') φ' H' w v val := fun v val hr h =>
  V.dens_like (H := H) (H' := H') hB v val (fun id hid => hin id (hr id hid)) h
 have hdat : ∀ (v : V) (y : D) (val : Value), toD so v = some y -> (∀ id ∈ v.ids, gone id /\ ∀ ep, x ≠ .osl id ep) -> V.den (mutB M φ H) φ H w v val -> D.den (mutB M φ' H') w y val := fun v y val h1 h2 h3 => by
  obtain ⟨f1, f2, f3, f4, f5⟩ := freezes (H := H) hH v.ids (fun id hid => ids_used v val h3 id hid)
  have hB1 : ∀ k, liveB φ (H.put (frz H.o v.ids)) k -> liveB φ H k := by
   rintro k ⟨id, g1, g2⟩
   by_cases hid : id ∈ v.ids
   ·rw [f3 id hid] at g1
    refine ⟨id, ?_, g2⟩
    revert g1
    cases H.o id <;> simp [Obj'.fz, Obj'.live]
   ·rw [f4 id hid] at g1; exact ⟨id, g1, g2⟩
  have h4 : V.den (mutB M φ (H.put (frz H.o v.ids))) φ (H.put (frz H.o v.ids)) w v val :=
   V.den_like (H := H) (fun k h h' => h (h'.imp id (hB1 k))) v val (fun id hid => by
    have hus : H.us id := (V.refs_used v val h3) id hid
    refine ⟨?_, rfl, (f5 id).2 hus⟩
    by_cases hm : id ∈ v.ids
    ·rw [f3 id hm]; exact Like.fz _
    ·rw [f4 id hm]; exact Like.rfl' rfl) h3
  have h5 := toD_den f1 (o := so) v y val (fun id hid => f3 id hid) h1 h4
  refine D.den_mono (w := w) (w' := w) (fun k _ hn => ⟨rfl, fun hk => hn (hk.imp id ?_)⟩) y val h5
  rintro ⟨id, g1, g2⟩
  obtain ⟨j, k1, k2, k3⟩ := hold id k g1 g2
  refine ⟨j, ?_, k2⟩
  have : j ∉ v.ids := fun hm => by
   obtain ⟨k4, k5⟩ := h2 j hm
   rcases k3 with ⟨k6, k7⟩ | ⟨_, _, ep, k6⟩
   ·subst k7
    obtain ⟨k8, k9⟩ := hgone _ k4 k6
    have g1 : (o' j).live = true := g1
    rw [hol _ k6 k8, k9] at g1
    cases g1
   ·exact k5 ep k6
  rw [f4 j this]; exact k1
 have hgrow : ∀ val, V.den (mutB M φ H) φ H w x val -> V.den (mutB M φ' H') φ' H' w (.osl c 0) val := by
  intro val this
  rcases hx with ⟨rfl, rfl, hsz⟩ | ⟨j, ep, hj, rfl, hso⟩
  ·simp only [V.den] at this
   rw [this]
   refine ⟨rfl, (by show c < c + 1; omega), fun e' he' => ?_⟩
   have he' : (o' c).epoch = some e' := he'
   rw [hoc] at he'
   simp only [Obj'.epoch, Option.some.injEq] at he'
   subst he'
   exact ⟨Nat.le_refl _, fun _ => (hφn rfl).symm⟩
  ·obtain ⟨g1, g2, g3⟩ := this
   refine ⟨g1, (by show c < c + 1; omega), fun e' he' => ?_⟩
   have he' : (o' c).epoch = some e' := he'
   rw [hoc] at he'
   simp only [Obj'.epoch, Option.some.injEq] at he'
   subst he'
   have hep : (H.o j).epoch = some ep := by show (so j).epoch = _; rw [hso]; rfl
   exact ⟨Nat.le_refl _, fun _ => by rw [hφc j ep rfl]; exact (g3 ep hep).2 rfl⟩
 have hconv : ∀ v v' val, convV c x so gone v v' -> V.den (mutB M φ H) φ H w v val -> V.den (mutB M φ' H') φ' H' w v' val := by
  intro v v' val h h1
  rcases h with rfl | ⟨rfl, h2⟩ | ⟨rfl, rfl⟩ | ⟨y, rfl, h2, h3⟩
  ·trivial
  ·exact hval _ _ h2 h1
  ·exact hgrow _ h1
  ·exact hdat v y val h2 h3 h1
 refine ⟨φ', ⟨fun id => ?_, fun id hu => hoh id (by have : ¬ id < c + 1 := hu; omega), fun i j k h1 h2 h3 h4 => ?_, fun k hk => hH.ours k (hlive k hk), hH.old⟩, fun i => ?_, hlive, by show b <= c + 1; omega, fun id hid hr => ?_, fun id e' hid he' => ?_⟩
 ·have hall : ObjOk M φ H w id := hH.ok id
  have hrefs := hg.refs id
  show ObjOk M φ' H' w id
  unfold ObjOk at hall ⊢
  rcases Nat.lt_trichotomy id c with hlt | heq | hgt
  ·by_cases hne : id = r0
   ·subst hne
    have e1 : H.o id = .row cs := hso0
    have e2 : H'.o id = .row cs' := hor
    rw [e1] at hall
    rw [e2, hφl id hlt]
    obtain ⟨b, carr, ty, k1, k2, k3, k4⟩ := hall
    exact ⟨b, carr, ty, k1, k2, dens_of_convL hconv _ _ _ hrow k3, k4⟩
   have e2 : H'.o id = o id := hol id hlt hne
   rcases ho id hlt hne with hs | hs
   case inr => rw [e2, hs]; trivial
   have e1 : H.o id = o id := hs
   rw [e1] at hall
   rw [e2, hφl id hlt]
   cases hx' : o id with
   | no => trivial
   | row cs =>
     simp only [hx'] at hall hrefs ⊢
     obtain ⟨b, carr, ty, k1, k2, k3, k4⟩ := hall
     exact ⟨b, carr, ty, k1, k2, hvals _ _ hrefs k3, k4⟩
   | arr ep ty sz es =>
     simp only [hx'] at hall ⊢
     obtain ⟨k1, xs, k2, evs, k3, k4, k5⟩ := hall
     exact ⟨k1, xs, k2, evs, k3, k4, D.dens_mono (fun b _ hn => ⟨rfl, hB b hn⟩) _ _ k5⟩
   | fro ep es =>
     simp only [hx'] at hall ⊢
     exact D.den_mono (fun b _ hn => ⟨rfl, hB b hn⟩) _ _ hall
   | map kt vt es =>
     simp only [hx'] at hall ⊢
     obtain ⟨b, es', clock, k1, k2, k4, k3⟩ := hall
     exact ⟨b, es', clock, k1, k2, k4, EntsDen.mono (fun b _ hn => ⟨rfl, hB b hn⟩) _ _ k3⟩
   | mfro l =>
     simp only [hx'] at hall ⊢
     exact D.den_mono (fun b _ hn => ⟨rfl, hB b hn⟩) _ _ hall
   | mit l last =>
     simp only [hx'] at hall ⊢
     obtain ⟨b, k1, k2⟩ := hall
     exact ⟨b, k1, k2.mono (fun b _ hn => ⟨rfl, hB b hn⟩) rfl⟩
   | sit s pos =>
     simp only [hx'] at hall ⊢
     exact hall
   | loop nf n env ps a b st pd =>
     simp only [hx'] at hall hrefs ⊢
     obtain ⟨b, r, k1, k2, k3, k4, k5, k6, k7, k8, k9, k10⟩ := hall
     exact ⟨b, r, k1, k2, k3, k4, k5, k6, k7, k8, k9, fun i => hval _ _ (fun r hr => hrefs r (V.refss_get _ _ r hr)) (k10 i)⟩
  ·subst heq
   have e2 : H'.o id = .arr 0 ty sz es := hoc
   rw [e2]
   rcases hx with ⟨rfl, rfl, hsz⟩ | ⟨j, ep, hj, rfl, hso⟩
   ·refine ⟨hsz, [], ?_, [], by simp, by simp, rfl⟩
    rw [hφn rfl]
    exact World.ownsRow_nil _ _ _ _
   ·have this : ObjOk M φ H w j := hH.ok j
    unfold ObjOk at this
    have e3 : H.o j = .arr ep ty sz es := hso
    simp only [e3] at this
    obtain ⟨k1, xs, k2, evs, k3, k4, k5⟩ := this
    exact ⟨k1, xs, by rw [hφc j ep rfl]; exact k2, evs, k3, k4, D.dens_mono (fun b _ hn => ⟨rfl, hB b hn⟩) _ _ k5⟩
  ·have e2 : H'.o id = .no := hoh id hgt
   rw [e2]
   trivial
 ·obtain ⟨i', a1, a2, a3⟩ := hold i k h1 h3
  obtain ⟨j', b1, b2, b3⟩ := hold j k h2 h4
  have := hH.apart i' j' k a1 b1 a2 b2
  have hne : ∀ id' j', (o' id').live = true -> id' < c -> gone j' -> id' ≠ j' := fun id' j' g1 g2 g3 g4 => by
   subst g4
   obtain ⟨g5, g6⟩ := hgone _ g3 g2
   rw [hol _ g2 g5, g6] at g1
   cases g1
  rcases a3 with ⟨a3, a4⟩ | ⟨a3, a4, _⟩ <;> rcases b3 with ⟨b3, b4⟩ | ⟨b3, b4, _⟩
  ·omega
  ·exact absurd (a4.symm.trans this) (hne i j' h1 a3 b4)
  ·exact absurd (b4.symm.trans this.symm) (hne j i' h2 b3 a4)
  ·omega
 ·have hi := convE_at l 0 he i
  rw [Nat.zero_add] at hi
  exact hconv _ _ _ hi (hd i)
 ·have hlt : id < c := by omega
  have hr : (o' id).isRow = true := hr
  exact ⟨(hin id hlt).1.1 hr, hφl id hlt⟩
 ·have hlt : id < c := by omega
  have he' : (o' id).epoch = some e' := he'
  exact ⟨e', (hin id hlt).1.2 e' he', Nat.le_refl _, fun _ => hφl id hlt⟩
theorem SLe.conv {b : Nat} {e : Nat -> V} {so : Nat -> Obj'} {m : Nat} (l : List V) {o : Nat -> Obj'} {c : Nat} {ty : TypeId} {sz : Nat} {es : List D} (x : V) (r0 : Nat) (cs cs' : List V) (hr0 : r0 < c) (hb : b <= c) (hcm : c <= m) (hg : Good o c) (ho : ∀ id, id < c -> id ≠ r0 -> so id = o id) (hso0 : so r0 = .row cs) (hrow : convL c x so (fun id => c <= id) cs cs') (hx : Grows so c ty sz es x) (he : convE c x so (fun id => c <= id) e l 0) :
 SLe b ⟨e, so, m⟩ ⟨envJ l, upd (upd o c (.arr 0 ty sz es)) r0 (.row cs'), c + 1⟩ :=
 SLe.convD _ l x r0 cs cs' hr0 hb hcm hg (fun id h1 h2 => absurd h1 (by omega)) (fun id h1 h2 => .inl (ho id h1 h2)) hso0 hrow hx he
theorem disj_iff {xs ys : List Nat} : disj xs ys = true ↔ ∀ x ∈ xs, x ∉ ys := by
 simp [disj, List.all_eq_true]
def keptE (env : Nat -> V) : List V -> Nat -> Prop
 | [], _ => True
 | v :: l, i => (v = .junk \/ v = env i) /\ keptE env l (i + 1)
theorem keptE_nil {env : Nat -> V} {i : Nat} : keptE env [] i := trivial
theorem keptE_junk {env : Nat -> V} {l : List V} {i : Nat} (h : keptE env l (i + 1)) : keptE env (.junk :: l) i := ⟨.inl rfl, h⟩
theorem keptE_v {env : Nat -> V} {l : List V} {i : Nat} {v : V} (he : env i = v) (h : keptE env l (i + 1)) : keptE env (v :: l) i := ⟨.inr he.symm, h⟩
theorem keptE_at {env : Nat -> V} : ∀ (l : List V) (i : Nat), keptE env l i -> ∀ j, envJ l j = .junk \/ envJ l j = env (i + j)
 | [], i, _, j => by rw [envJ_nil]; exact .inl rfl
 | v :: l, i, h, 0 => by rw [envJ_zero]; exact h.1
 | v :: l, i, h, j + 1 => by
   rw [envJ_succ]
   have := keptE_at l (i + 1) h.2 j
   rwa [show i + 1 + j = i + (j + 1) by omega] at this
theorem rng_intro {P : Program} {n : Nat} {ps : List Nat} {x y : IC} {Q : Xit -> S -> Prop} {e : Nat -> V} {o : Nat -> Obj'} {nx : Nat} {f : FuncId} {cap : List V} (env : List V) (he : keptE e env 0)
 (h : CtK P f (.yld nx :: cap) (upd o nx (.loop P.funcs.size n env ps x y .ready none)) (nx + 1)
  (fun _ o' nx' => ∃ nf m en p c d st pd, o' nx = .loop nf m en p c d st pd /\ st ≠ .busy /\ jmpQ Q pd ⟨e, upd o' nx (.loop nf m en p c d .exhausted pd), nx'⟩) (fun v o' nx' => Q (.pan v) ⟨e, o', nx'⟩)) :
 rngS P n false ps x y Q ⟨e, o, nx⟩ (.func (.func f) [] cap) := by
 unfold rngS rngW
 refine ⟨rfl, env, fun i => ?_, .inl h⟩
 have := keptE_at env 0 he i
 rwa [Nat.zero_add] at this
def beginE (P : Program) (n b id : Nat) (icb : IC) (K X : V -> (Nat -> Obj') -> Nat -> Prop) (e : Xit) (s : S) : Prop :=
 match e with
 | .normal => ∃ nf m en p c d pd, s.o id = .loop nf m en p c d .ready pd /\ evW P n b true icb (roundQ id K X) ⟨s.env, upd s.o id (.loop nf m en p c d .busy pd), s.nx⟩
 | .pan v => X v s.o s.nx
 | _ => False
theorem RoundK.of_ev {P : Program} {n : Nat} (hmix : P.follows .mixedOrders = true) {id : Nat} {args : List V} {o : Nat -> Obj'} {nx : Nat} {K X : V -> (Nat -> Obj') -> Nat -> Prop} {env : List V} {ps : List Nat} {ica icb : IC} {st : LoopState} {pd : Option Jmp}
 (ho : o id = .loop P.funcs.size n env ps ica icb st pd) (hlt : id < nx) (hps : ps.all (fun t => decide (t < n)) = true) (hl : args.length = ps.length)
 (h : evW P n nx true ica (beginE P n nx id icb K X) ⟨setP (envJ env) ps args, o, nx⟩) : RoundK P id args o nx K X := by
 refine RoundK.of_ic hmix ho hlt hps hl (evW_icW ica _ _ _ (fun e s h => ?_) h)
 cases e with
 | normal =>
   obtain ⟨nf, m, en, p, c, d, pd, h1, h2⟩ := h
   exact ⟨nf, m, en, p, c, d, pd, h1, evW_icW icb _ _ _ (fun _ _ h => h) h2⟩
 | pan v => exact h
 | _ => exact h.elim
theorem beginE_intro {P : Program} {n b id : Nat} {icb : IC} {K X : V -> (Nat -> Obj') -> Nat -> Prop} {s : S} {nf m : Nat} {en : List V} {p : List Nat} {c d : IC} {pd : Option Jmp} (h : s.o id = .loop nf m en p c d .ready pd)
 (h2 : evW P n b true icb (roundQ id K X) ⟨s.env, upd s.o id (.loop nf m en p c d .busy pd), s.nx⟩) : beginE P n b id icb K X .normal s := ⟨nf, m, en, p, c, d, pd, h, h2⟩
def renL : List Nat -> Nat -> Nat -> Nat
 | [], nx, k => nx + k
 | i :: _, _, 0 => i
 | _ :: l, nx, k + 1 => renL l nx k
theorem renL_in : ∀ (l : List Nat) (nx k : Nat), renL l nx k ∈ l \/ nx <= renL l nx k
 | [], nx, k => .inr (Nat.le_add_right _ _)
 | i :: _, _, 0 => .inl (List.mem_cons_self ..)
 | _ :: l, nx, k + 1 => (renL_in l nx k).imp (List.mem_cons_of_mem _) id
theorem renL_inj {nx : Nat} : ∀ (l : List Nat), l.Nodup -> (∀ i ∈ l, i < nx) -> ∀ a b, renL l nx a = renL l nx b -> a = b
 | [], _, _, a, b, e => by simp only [renL] at e; omega
 | i :: l, _, _, 0, 0, _ => rfl
 | i :: l, hd, hl, 0, b + 1, e => by
   simp only [renL] at e
   rcases renL_in l nx b with h | h
   ·rw [<- e] at h; exact absurd h (List.nodup_cons.1 hd).1
   ·have := hl i (List.mem_cons_self ..); omega
 | i :: l, hd, hl, a + 1, 0, e => by
   simp only [renL] at e
   rcases renL_in l nx a with h | h
   ·rw [e] at h; exact absurd h (List.nodup_cons.1 hd).1
   ·have := hl i (List.mem_cons_self ..); omega
 | i :: l, hd, hl, a + 1, b + 1, e => by
   simp only [renL] at e
   rw [renL_inj l (List.nodup_cons.1 hd).2 (fun j hj => hl j (List.mem_cons_of_mem _ hj)) a b e]
def renG (f : Nat -> Nat) (x : List Nat × List Nat) : List Nat × List Nat := (x.1.map f, x.2.map f)
theorem disj_map {f : Nat -> Nat} (hf : ∀ a b, f a = f b -> a = b) {xs ys : List Nat} (hd : disj xs ys = true) : disj (xs.map f) (ys.map f) = true := by
 rw [disj_iff] at hd ⊢
 intro x hx hy
 obtain ⟨a, ha, rfl⟩ := List.mem_map.1 hx
 obtain ⟨b, hb, e⟩ := List.mem_map.1 hy
 rw [hf b a e] at hb
 exact hd a ha hb
theorem objsOk_map {f : Nat -> Nat} (hf : ∀ a b, f a = f b -> a = b) {pr : List (List Nat)} (fp : List (List Nat × List Nat)) (ho : objsOk pr fp = true) : objsOk pr (fp.map (renG f)) = true := by
 unfold objsOk at ho ⊢
 rw [List.all_eq_true] at ho ⊢
 intro j hj
 rw [List.length_map] at hj
 have ho := ho j hj
 rw [List.all_eq_true] at ho ⊢
 intro i hi
 have ho := ho i hi
 have hm : ∀ k, (fp.map (renG f)).getD k ([], []) = renG f (fp.getD k ([], [])) := fun k => by
  rw [List.getD_eq_getElem?_getD, List.getD_eq_getElem?_getD, List.getElem?_map]
  cases fp[k]? <;> rfl
 rw [hm, hm]
 rw [Bool.or_eq_true] at ho ⊢
 refine ho.imp (fun h => h) (fun ho => ?_)
 rw [Bool.and_eq_true, Bool.and_eq_true] at ho ⊢
 exact ⟨⟨disj_map hf ho.1.1, disj_map hf ho.1.2⟩, disj_map hf ho.2⟩
theorem objsOk_renL {ids : List Nat} {nx : Nat} (hd : ids.Nodup) (hl : ∀ i ∈ ids, i < nx) {pr : List (List Nat)} (fp : List (List Nat × List Nat)) (ho : objsOk pr fp = true) : objsOk pr (fp.map (renG (renL ids nx))) = true :=
 objsOk_map (renL_inj ids hd hl) fp ho
section
variable {P : Program} {KB : List Nat -> Fp -> Prop} {pr : List (List Nat)} {l : List IOp} {fr : Nat} {fp : Fp} {bad ws : List Nat} {s : S} {d : Option Nat} {op : Op}
end
end Go.Proofs.YtealblliddhgiaaGreat
namespace Go.Proofs.YtealblliddhgiaaGreat
structure Gr where
 x : V
 ty : TypeId
 sz : Nat
 es : List D
def Gr.ok (so : Nat -> Obj') (gone : Nat -> Prop) (g : Gr) : Prop := GrowsG so gone g.ty g.sz g.es g.x
def seeV (c : Nat) (G : List Gr) (so : Nat -> Obj') (gone : Nat -> Prop) (v v' : V) : Prop :=
 v' = .junk \/ (v' = v /\ ∀ r ∈ v.refs, r < c) \/ (∃ i g, G[i]? = some g /\ v' = .osl (c + i) 0 /\ v = g.x) \/ ∃ y, v' = .d y /\ toD so v = some y /\ ∀ id ∈ v.ids, gone id /\ ∀ g ∈ G, ∀ ep, g.x ≠ .osl id ep
def seeE (c : Nat) (G : List Gr) (so : Nat -> Obj') (gone : Nat -> Prop) (env : Nat -> V) : List V -> Nat -> Prop
 | [], _ => True
 | v :: l, i => seeV c G so gone (env i) v /\ seeE c G so gone env l (i + 1)
def seeL (c : Nat) (G : List Gr) (so : Nat -> Obj') (gone : Nat -> Prop) : List V -> List V -> Prop
 | [], [] => True
 | v :: l, v' :: l' => seeV c G so gone v v' /\ seeL c G so gone l l'
 | _, _ => False
def seeO (c : Nat) (G : List Gr) (so : Nat -> Obj') (gone : Nat -> Prop) (x x' : Obj') : Prop :=
 x' = .no \/ (x = x' /\ ∀ r ∈ x'.refs, r < c) \/ ∃ cs cs', x = .row cs /\ x' = .row cs' /\ seeL c G so gone cs cs'
section
variable {c : Nat} {G : List Gr} {so : Nat -> Obj'} {gone : Nat -> Prop}
theorem seeE_at {env : Nat -> V} : ∀ (l : List V) (i : Nat), seeE c G so gone env l i -> ∀ j, seeV c G so gone (env (i + j)) (envJ l j)
 | [], i, _, j => by rw [envJ_nil]; exact .inl rfl
 | v :: l, i, h, 0 => by rw [envJ_zero]; exact h.1
 | v :: l, i, h, j + 1 => by
   rw [envJ_succ]
   have := seeE_at l (i + 1) h.2 j
   rwa [show i + 1 + j = i + (j + 1) by omega] at this
variable {env : Nat -> V} {i : Nat} {l l' : List V} {v : V} {y : D}
theorem seeE_nil : seeE c G so gone env [] i := trivial
theorem seeE_junk (h : seeE c G so gone env l (i + 1)) : seeE c G so gone env (.junk :: l) i := ⟨.inl rfl, h⟩
theorem seeE_d (he : env i = .d y) (h : seeE c G so gone env l (i + 1)) : seeE c G so gone env (.d y :: l) i := ⟨.inr (.inl ⟨he.symm, fun r hr => by rw [he] at hr; simp [V.refs] at hr⟩), h⟩
theorem seeE_v (he : env i = v) (hr : ∀ r ∈ v.refs, r < c) (h : seeE c G so gone env l (i + 1)) : seeE c G so gone env (v :: l) i := ⟨.inr (.inl ⟨he.symm, fun r hr' => hr r (he ▸ hr')⟩), h⟩
theorem seeE_g (k : Nat) {g : Gr} {n : Nat} (hg : G[k]? = some g) (hn : n = c + k) (he : env i = g.x) (h : seeE c G so gone env l (i + 1)) : seeE c G so gone env (.osl n 0 :: l) i := ⟨.inr (.inr (.inl ⟨k, g, hg, by rw [hn], he⟩)), h⟩
theorem seeE_c (ht : toD so (env i) = some y) (hi : ∀ id ∈ (env i).ids, gone id /\ ∀ g ∈ G, ∀ ep, g.x ≠ .osl id ep) (h : seeE c G so gone env l (i + 1)) : seeE c G so gone env (.d y :: l) i := ⟨.inr (.inr (.inr ⟨y, rfl, ht, hi⟩)), h⟩
theorem seeL_nil : seeL c G so gone [] [] := trivial
theorem seeL_d (h : seeL c G so gone l l') : seeL c G so gone (.d y :: l) (.d y :: l') := ⟨.inr (.inl ⟨rfl, fun r hr => by simp [V.refs] at hr⟩), h⟩
theorem seeL_g (k : Nat) {g : Gr} {n : Nat} (hg : G[k]? = some g) (hn : n = c + k) (he : v = g.x) (h : seeL c G so gone l l') : seeL c G so gone (v :: l) (.osl n 0 :: l') := ⟨.inr (.inr (.inl ⟨k, g, hg, by rw [hn], he⟩)), h⟩
theorem seeO_same {x x' : Obj'} (h : x = x') (hr : ∀ r ∈ x'.refs, r < c) : seeO c G so gone x x' := .inr (.inl ⟨h, hr⟩)
theorem seeO_row {x : Obj'} {cs cs' : List V} (h : x = .row cs) (hr : seeL c G so gone cs cs') : seeO c G so gone x (.row cs') := .inr (.inr ⟨cs, cs', h, rfl, hr⟩)
end
theorem dens_of_seeL {c : Nat} {G : List Gr} {so : Nat -> Obj'} {gone : Nat -> Prop} {B B' : Nat -> Prop} {φ φ' : Place} {H H' : Hp} {w : World} (hc : ∀ v v' val, seeV c G so gone v v' -> V.den B φ H w v val -> V.den B' φ' H' w v' val) :
 ∀ (l l' : List V) (vals : List Value), seeL c G so gone l l' -> V.dens B φ H w l vals -> V.dens B' φ' H' w l' vals
 | [], [], _, _, h => h
 | v :: l, v' :: l', _, h, hd => by
   obtain ⟨u, us, rfl, h1, h2⟩ := hd
   exact ⟨u, us, rfl, hc _ _ _ h.1 h1, dens_of_seeL hc l l' us h.2 h2⟩
 | [], _ :: _, _, h, _ => h.elim
 | _ :: _, [], _, h, _ => h.elim
def seePl (φ : Place) (c : Nat) (G : List Gr) : Place := fun id => if id < c then φ id else match G[id - c]? with
 | some g => (match g.x with | .osl j _ => φ j | _ => .slice none 0 0)
 | none => φ id
theorem SLe.see (gone : Nat -> Prop) (G : List Gr) (c : Nat) {b : Nat} {e : Nat -> V} {so : Nat -> Obj'} {m : Nat} (l : List V) {o' : Nat -> Obj'} {nx' : Nat} (hnx : nx' = c + G.length) (hb : b <= c)
 (ho : ∀ id, id < c -> seeO c G so gone (so id) (o' id)) (hG : ∀ i g, G[i]? = some g -> o' (c + i) = .arr 0 g.ty g.sz g.es /\ g.ok so gone) (hh : ∀ id, nx' <= id -> o' id = .no) (hgone : ∀ id, gone id -> id < c -> o' id = .no)
 (hinj : ∀ (i j : Nat) (gi gj : Gr) (id ep ep' : Nat), G[i]? = some gi -> G[j]? = some gj -> gi.x = .osl id ep -> gj.x = .osl id ep' -> i = j) (he : seeE c G so gone e l 0) : SLe b ⟨e, so, m⟩ ⟨envJ l, o', nx'⟩ := by
 subst hnx
 intro M φ w tm hH hd
 let φ' : Place := seePl φ c G
 let H' : Hp := hp o' (c + G.length)
 let H : Hp := ⟨so, fun id => id < m⟩
 have hφl : ∀ id, id < c -> φ' id = φ id := fun id hid => if_pos hid
 have hφg : ∀ i g, G[i]? = some g -> φ' (c + i) = (match g.x with | .osl j _ => φ j | _ => .slice none 0 0) := fun i g hg => by
  show seePl φ c G (c + i) = _
  unfold seePl
  rw [if_neg (by omega), show c + i - c = i by omega, hg]
 have hold : ∀ id k, (o' id).live = true -> blk (φ' id) = some k -> ∃ j, (so j).live = true /\ blk (φ j) = some k /\ ((id < c /\ j = id) \/ ∃ i g ep, id = c + i /\ G[i]? = some g /\ gone j /\ g.x = .osl j ep) := by
  intro id k h1 h2
  by_cases hlt : id < c
  ·rw [hφl id hlt] at h2
   rcases ho id hlt with h3 | ⟨h3, _⟩ | ⟨cs, cs', h3, h4, _⟩
   ·rw [h3] at h1; cases h1
   ·exact ⟨id, by rw [h3]; exact h1, h2, .inl ⟨hlt, rfl⟩⟩
   ·exact ⟨id, by rw [h3]; rfl, h2, .inl ⟨hlt, rfl⟩⟩
  ·by_cases hge : c + G.length <= id
   ·rw [hh id hge] at h1; cases h1
   ·obtain ⟨i, rfl⟩ : ∃ i, id = c + i := ⟨id - c, by omega⟩
    obtain ⟨g, hg⟩ : ∃ g, G[i]? = some g := ⟨G[i]'(by omega), by simp⟩
    rw [hφg i g hg] at h2
    obtain ⟨_, hok⟩ := hG i g hg
    rcases hok with ⟨h3, _, _⟩ | ⟨j, ep, hj, h3, hso⟩
    ·rw [h3] at h2; cases h2
    ·rw [h3] at h2
     exact ⟨j, by rw [hso]; rfl, h2, .inr ⟨i, g, ep, rfl, hg, hj, h3⟩⟩
 have hlive : ∀ k, liveB φ' H' k -> liveB φ H k := by
  rintro k ⟨id, h1, h2⟩
  obtain ⟨j, g1, g2, _⟩ := hold id k h1 h2
  exact ⟨j, g1, g2⟩
 have hB : ∀ k, ¬ mutB M φ H k -> ¬ mutB M φ' H' k := fun k h h' => h (h'.imp id (hlive k))
 have hin : ∀ id, id < c -> Like (H'.o id) (H.o id) /\ φ' id = φ id /\ H'.us id := fun id hid => by
  refine ⟨?_, hφl id hid, (by show id < c + G.length; omega)⟩
  show Like (o' id) (so id)
  rcases ho id hid with h3 | ⟨h3, _⟩ | ⟨cs, cs', h3, h4, _⟩
  ·rw [h3]; exact ⟨fun h => (by cases h), fun e h => (by cases h)⟩
  ·exact Like.rfl' h3.symm
  ·rw [h3, h4]; exact Like.row _ _
 have hval : ∀ (v : V) (val : Value), (∀ r ∈ v.refs, r < c) -> V.den (mutB M φ H) φ H w v val -> V.den (mutB M φ' H') φ' H' w v val := fun v val hr h =>
  V.den_like (H := H) (H' := H') hB v val (fun id hid => hin id (hr id hid)) h
 have hvals : ∀ (v : List V) (val : List Value), (∀ r ∈ V.refss v, r < c) -> V.dens (mutB M φ H) φ H w v val -> V.dens (mutB M φ' H') φ' H' w v val := fun v val hr h =>
  V.dens_like (H := H) (H' := H') hB v val (fun id hid => hin id (hr id hid)) h
 have hdat : ∀ (v : V) (y : D) (val : Value), toD so v = some y -> (∀ id ∈ v.ids, gone id /\ ∀ g ∈ G, ∀ ep, g.x ≠ .osl id ep) -> V.den (mutB M φ H) φ H w v val -> D.den (mutB M φ' H') w y val := fun v y val h1 h2 h3 => by
  obtain ⟨f1, f2, f3, f4, f5⟩ := freezes (H := H) hH v.ids (fun id hid => ids_used v val h3 id hid)
  have hB1 : ∀ k, liveB φ (H.put (frz H.o v.ids)) k -> liveB φ H k := by
   rintro k ⟨id, g1, g2⟩
   by_cases hid : id ∈ v.ids
   ·rw [f3 id hid] at g1
    refine ⟨id, ?_, g2⟩
    revert g1
    cases H.o id <;> simp [Obj'.fz, Obj'.live]
   ·rw [f4 id hid] at g1; exact ⟨id, g1, g2⟩
  have h4 : V.den (mutB M φ (H.put (frz H.o v.ids))) φ (H.put (frz H.o v.ids)) w v val :=
   V.den_like (H := H) (fun k h h' => h (h'.imp id (hB1 k))) v val (fun id hid => by
    have hus : H.us id := (V.refs_used v val h3) id hid
    refine ⟨?_, rfl, (f5 id).2 hus⟩
    by_cases hm : id ∈ v.ids
    ·rw [f3 id hm]; exact Like.fz _
    ·rw [f4 id hm]; exact Like.rfl' rfl) h3
  have h5 := toD_den f1 (o := so) v y val (fun id hid => f3 id hid) h1 h4
  refine D.den_mono (w := w) (w' := w) (fun k _ hn => ⟨rfl, fun hk => hn (hk.imp id ?_)⟩) y val h5
  rintro ⟨id, g1, g2⟩
  obtain ⟨j, k1, k2, k3⟩ := hold id k g1 g2
  refine ⟨j, ?_, k2⟩
  have : j ∉ v.ids := fun hm => by
   obtain ⟨k4, k5⟩ := h2 j hm
   rcases k3 with ⟨k6, k7⟩ | ⟨i, g, ep, k6, k8, k9, k10⟩
   ·subst k7
    have := hgone _ k4 k6
    have g1 : (o' j).live = true := g1
    rw [this] at g1
    cases g1
   ·exact k5 g (List.mem_of_getElem? k8) ep k10
  rw [f4 j this]; exact k1
 have hgrow : ∀ i g val, G[i]? = some g -> V.den (mutB M φ H) φ H w g.x val -> V.den (mutB M φ' H') φ' H' w (.osl (c + i) 0) val := by
  intro i g val hg this
  obtain ⟨hoc, hok⟩ := hG i g hg
  have hlt : c + i < c + G.length := by have := (List.getElem?_eq_some_iff.1 hg).1; omega
  rcases hok with ⟨h3, _, _⟩ | ⟨j, ep, hj, h3, hso⟩
  ·rw [h3] at this
   simp only [V.den] at this
   rw [this]
   refine ⟨rfl, hlt, fun e' he' => ?_⟩
   have he' : (o' (c + i)).epoch = some e' := he'
   rw [hoc] at he'
   simp only [Obj'.epoch, Option.some.injEq] at he'
   subst he'
   exact ⟨Nat.le_refl _, fun _ => by rw [hφg i g hg, h3]⟩
  ·rw [h3] at this
   obtain ⟨g1, g2, g3⟩ := this
   refine ⟨g1, hlt, fun e' he' => ?_⟩
   have he' : (o' (c + i)).epoch = some e' := he'
   rw [hoc] at he'
   simp only [Obj'.epoch, Option.some.injEq] at he'
   subst he'
   have hep : (H.o j).epoch = some ep := by show (so j).epoch = _; rw [hso]; rfl
   exact ⟨Nat.le_refl _, fun _ => by rw [hφg i g hg, h3]; exact (g3 ep hep).2 rfl⟩
 have hconv : ∀ v v' val, seeV c G so gone v v' -> V.den (mutB M φ H) φ H w v val -> V.den (mutB M φ' H') φ' H' w v' val := by
  intro v v' val h h1
  rcases h with rfl | ⟨rfl, h2⟩ | ⟨i, g, hg, rfl, rfl⟩ | ⟨y, rfl, h2, h3⟩
  ·trivial
  ·exact hval _ _ h2 h1
  ·exact hgrow i g _ hg h1
  ·exact hdat v y val h2 h3 h1
 refine ⟨φ', ⟨fun id => ?_, fun id hu => hh id (by have : ¬ id < c + G.length := hu; omega), fun i j k h1 h2 h3 h4 => ?_, fun k hk => hH.ours k (hlive k hk), hH.old⟩, fun i => ?_, hlive, by show b <= c + G.length; omega, fun id hid hr => ?_, fun id e' hid he' => ?_⟩
 ·have hall : ObjOk M φ H w id := hH.ok id
  show ObjOk M φ' H' w id
  unfold ObjOk at hall ⊢
  by_cases hlt : id < c
  ·rcases ho id hlt with h3 | ⟨h3, hrefs⟩ | ⟨cs, cs', h3, h4, hrow⟩
   ·have e2 : H'.o id = .no := h3
    rw [e2]; trivial
   ·have e1 : H.o id = o' id := h3
    have e2 : H'.o id = o' id := rfl
    rw [e1] at hall
    rw [e2, hφl id hlt]
    cases hx' : o' id with
    | no => trivial
    | row cs =>
      simp only [hx'] at hall hrefs ⊢
      obtain ⟨b, carr, ty, k1, k2, k3, k4⟩ := hall
      exact ⟨b, carr, ty, k1, k2, hvals _ _ hrefs k3, k4⟩
    | arr ep ty sz es =>
      simp only [hx'] at hall ⊢
      obtain ⟨k1, xs, k2, evs, k3, k4, k5⟩ := hall
      exact ⟨k1, xs, k2, evs, k3, k4, D.dens_mono (fun b _ hn => ⟨rfl, hB b hn⟩) _ _ k5⟩
    | fro ep es =>
      simp only [hx'] at hall ⊢
      exact D.den_mono (fun b _ hn => ⟨rfl, hB b hn⟩) _ _ hall
    | map kt vt es =>
      simp only [hx'] at hall ⊢
      obtain ⟨b, es', clock, k1, k2, k4, k3⟩ := hall
      exact ⟨b, es', clock, k1, k2, k4, EntsDen.mono (fun b _ hn => ⟨rfl, hB b hn⟩) _ _ k3⟩
    | mfro l =>
      simp only [hx'] at hall ⊢
      exact D.den_mono (fun b _ hn => ⟨rfl, hB b hn⟩) _ _ hall
    | mit l last =>
      simp only [hx'] at hall ⊢
      obtain ⟨b, k1, k2⟩ := hall
      exact ⟨b, k1, k2.mono (fun b _ hn => ⟨rfl, hB b hn⟩) rfl⟩
    | sit s pos =>
      simp only [hx'] at hall ⊢
      exact hall
    | loop nf n env ps a b st pd =>
      simp only [hx'] at hall hrefs ⊢
      obtain ⟨b, r, k1, k2, k3, k4, k5, k6, k7, k8, k9, k10⟩ := hall
      exact ⟨b, r, k1, k2, k3, k4, k5, k6, k7, k8, k9, fun i => hval _ _ (fun r hr => hrefs r (V.refss_get _ _ r hr)) (k10 i)⟩
   ·have e1 : H.o id = .row cs := h3
    have e2 : H'.o id = .row cs' := h4
    rw [e1] at hall
    rw [e2, hφl id hlt]
    obtain ⟨b, carr, ty, k1, k2, k3, k4⟩ := hall
    exact ⟨b, carr, ty, k1, k2, dens_of_seeL hconv _ _ _ hrow k3, k4⟩
  ·by_cases hge : c + G.length <= id
   ·have e2 : H'.o id = .no := hh id hge
    rw [e2]; trivial
   ·obtain ⟨i, rfl⟩ : ∃ i, id = c + i := ⟨id - c, by omega⟩
    obtain ⟨g, hg⟩ : ∃ g, G[i]? = some g := ⟨G[i]'(by omega), by simp⟩
    obtain ⟨hoc, hok⟩ := hG i g hg
    have e2 : H'.o (c + i) = .arr 0 g.ty g.sz g.es := hoc
    rw [e2]
    rcases hok with ⟨h3, h4, hsz⟩ | ⟨j, ep, hj, h3, hso⟩
    ·rw [h4]
     refine ⟨hsz, [], ?_, [], by simp, by simp, rfl⟩
     rw [hφg i g hg, h3]
     exact World.ownsRow_nil _ _ _ _
    ·have this : ObjOk M φ H w j := hH.ok j
     unfold ObjOk at this
     have e3 : H.o j = .arr ep g.ty g.sz g.es := hso
     simp only [e3] at this
     obtain ⟨k1, xs, k2, evs, k3, k4, k5⟩ := this
     exact ⟨k1, xs, by rw [hφg i g hg, h3]; exact k2, evs, k3, k4, D.dens_mono (fun b _ hn => ⟨rfl, hB b hn⟩) _ _ k5⟩
 ·obtain ⟨i', a1, a2, a3⟩ := hold i k h1 h3
  obtain ⟨j', b1, b2, b3⟩ := hold j k h2 h4
  have := hH.apart i' j' k a1 b1 a2 b2
  subst this
  have hne : ∀ id', (o' id').live = true -> id' < c -> gone id' -> False := fun id' g1 g2 g3 => by
   rw [hgone _ g3 g2] at g1
   cases g1
  rcases a3 with ⟨a3, a4⟩ | ⟨ia, ga, ea, a3, a4, a5, a6⟩ <;> rcases b3 with ⟨b3, b4⟩ | ⟨ib, gb, eb, b3, b4, b5, b6⟩
  ·omega
  ·exact (hne i h1 a3 (a4 ▸ b5)).elim
  ·exact (hne j h2 b3 (b4 ▸ a5)).elim
  ·have := hinj ia ib ga gb _ _ _ a4 b4 a6 b6
   omega
 ·have hi := seeE_at l 0 he i
  rw [Nat.zero_add] at hi
  exact hconv _ _ _ hi (hd i)
 ·have hlt : id < c := by omega
  have hr : (o' id).isRow = true := hr
  exact ⟨(hin id hlt).1.1 hr, hφl id hlt⟩
 ·have hlt : id < c := by omega
  have he' : (o' id).epoch = some e' := he'
  exact ⟨e', (hin id hlt).1.2 e' he', Nat.le_refl _, fun _ => hφl id hlt⟩
theorem SLe.see0 (gone : Nat -> Prop) (c : Nat) {b : Nat} {e : Nat -> V} {so : Nat -> Obj'} {m : Nat} (l : List V) {o' : Nat -> Obj'} (hb : b <= c)
 (ho : ∀ id, id < c -> seeO c [] so gone (so id) (o' id)) (hh : ∀ id, c <= id -> o' id = .no) (hgone : ∀ id, gone id -> id < c -> o' id = .no) (he : seeE c [] so gone e l 0) : SLe b ⟨e, so, m⟩ ⟨envJ l, o', c⟩ :=
 SLe.see gone [] c l rfl hb ho (fun i g h => by cases h) hh hgone (fun i j gi gj id ep ep' h => by cases h) he
theorem SLe.see1 (gone : Nat -> Prop) (x : V) (c : Nat) {ty : TypeId} {sz : Nat} {es : List D} {b : Nat} {e : Nat -> V} {so : Nat -> Obj'} {m : Nat} (l : List V) {o' : Nat -> Obj'} (hb : b <= c)
 (ho : ∀ id, id < c -> seeO c [⟨x, ty, sz, es⟩] so gone (so id) (o' id)) (hc : o' c = .arr 0 ty sz es) (hx : GrowsG so gone ty sz es x) (hh : ∀ id, c + 1 <= id -> o' id = .no) (hgone : ∀ id, gone id -> id < c -> o' id = .no)
 (he : seeE c [⟨x, ty, sz, es⟩] so gone e l 0) : SLe b ⟨e, so, m⟩ ⟨envJ l, o', c + 1⟩ :=
 SLe.see gone [⟨x, ty, sz, es⟩] c l rfl hb ho (fun i g h => by
  match i, h with
  | 0, h => simp at h; subst h; exact ⟨hc, hx⟩) hh hgone (fun i j gi gj id ep ep' h h' _ _ => by
  match i, j, h, h' with
  | 0, 0, _, _ => rfl) he
theorem lt1 {P : Nat -> Prop} (h : P 0) : ∀ id, id < 1 -> P id := fun id hid => by
 have e : id = 0 := by omega
 rw [e]; exact h
theorem lt2 {P : Nat -> Prop} (h : P 0) (h1 : P 1) : ∀ id, id < 2 -> P id := fun id hid => by
 rcases (by omega : id = 0 \/ id = 1) with rfl | rfl <;> assumption
theorem lt0 {P : Nat -> Prop} : ∀ id, id < 0 -> P id := fun id hid => by omega
@[go_sem] theorem beq_f (b : Bool) : (b == false) = !b := by cases b <;> rfl
@[go_sem] theorem beq_t (b : Bool) : (b == true) = b := by cases b <;> rfl
@[go_sem] theorem sel_same (c : Bool) (v : V) : V.sel c (V.sel c v) = V.sel c v := by cases c <;> rfl
@[go_sem] theorem and_same (c : Bool) : (c && c) = c := by cases c <;> rfl
@[go_sem] theorem all_cells {α : Type} (f : α -> D) (l : List α) (n : Nat) (h : ∀ x, (f x).cells.length = n) : ((l.map f).all fun z => z.cells.length == n) = true := by
 simp [List.all_eq_true, h]
attribute [go_sem] implies_true
attribute [go_sem] Option.isSome_none Option.getD_some Option.getD_none
theorem structOf {P : Program} {t : TypeId} (h : (match P.underlying t with | some (.struct _) => true | _ => false) = true) : ∃ fs, P.underlying t = some (.struct fs) := by
 split at h
 ·exact ⟨_, by assumption⟩
 ·cases h
theorem objsOk_reads {pr : List (List Nat)} {fp : List (List Nat × List Nat)} (h : fp.all (fun x => x.2.isEmpty) = true) : objsOk pr fp = true := by
 have e : ∀ i, (fp.getD i ([], [])).2 = [] := fun i => by
  rw [List.getD_eq_getElem?_getD]
  cases hi : fp[i]? with
  | none => rfl
  | some x => simpa using List.all_eq_true.1 h x (List.mem_of_getElem? hi)
 simp only [objsOk, List.all_eq_true, e, disj, List.all_nil, Bool.and_self, Bool.or_true, implies_true]
structure HInv (base : Nat) (h o : Nat -> Obj') (nx : Nat) : Prop where
 good : Good o nx
 le : base <= nx
 eq : ∀ id, id < base -> o id = h id
def StK (base : Nat) (h : Nat -> Obj') (v : V) (o : Nat -> Obj') (nx : Nat) (K : V -> (Nat -> Obj') -> Nat -> Prop) : Prop :=
 ∀ o' nx', nx <= nx' -> HInv base h o' nx' -> (∀ id, base <= id -> id < nx -> o' id = o id) -> K v o' nx'
def StC (P : Program) (g : FuncId) (args : List V) (base : Nat) (h h2 : Nat -> Obj') (v : V) : Prop :=
 ∀ o nx, HInv base h o nx -> ∀ K X, StK base h2 v o nx K -> CtK P g args o nx K X
theorem HInv.upd {base : Nat} {h o : Nat -> Obj'} {nx m i : Nat} {x : Obj'} (hI : HInv base h o nx) (hb : base <= i) (hi : i < m) (hm : nx <= m) (hx : x.refs.all (fun r => decide (r < m)) = true) : HInv base h (YtealblliddhgiaaGreat.upd o i x) m :=
 ⟨(hI.good.mono hm).upd hi hx, Nat.le_trans hI.le hm, fun id hid => by rw [upd_ne _ _ _ _ (by omega)]; exact hI.eq id hid⟩
theorem HInv.mono {base : Nat} {h o : Nat -> Obj'} {nx m : Nat} (hI : HInv base h o nx) (hm : nx <= m) : HInv base h o m := ⟨hI.good.mono hm, Nat.le_trans hI.le hm, hI.eq⟩
def ext (base : Nat) (h o : Nat -> Obj') : Nat -> Obj' := fun id => if id < base then h id else o id
theorem HInv.ext {base c : Nat} {h o : Nat -> Obj'} {nx : Nat} (hI : HInv base h o nx) (hc : c <= nx) (hb : base <= c) : HInv c (YtealblliddhgiaaGreat.ext base h o) o nx :=
 ⟨hI.good, hc, fun id _ => by unfold YtealblliddhgiaaGreat.ext; split <;> first | exact hI.eq id (by assumption) | rfl⟩
theorem StC.ext {P : Program} {g : FuncId} {args : List V} {base c : Nat} {h h2 : Nat -> Obj'} {v : V} (hS : StC P g args base h h2 v) (hb : base <= c) (o0 : Nat -> Obj') : StC P g args c (YtealblliddhgiaaGreat.ext base h o0) (YtealblliddhgiaaGreat.ext base h2 o0) v := by
 intro o nx hI K X hK
 refine hS o nx ⟨hI.good, Nat.le_trans hb hI.le, fun id hid => by rw [hI.eq id (by omega)]; unfold YtealblliddhgiaaGreat.ext; rw [if_pos hid]⟩ K X fun o' nx' h1 h2 h3 => hK o' nx' h1 ⟨h2.good, Nat.le_trans hI.le h1, fun id hid => ?_⟩ (fun id h4 h5 => h3 id (by omega) h5)
 unfold YtealblliddhgiaaGreat.ext
 split
 ·exact h2.eq id (by assumption)
 ·rename_i hn
  rw [h3 id (by omega) (by have := hI.le; omega), hI.eq id hid]
  unfold YtealblliddhgiaaGreat.ext; rw [if_neg hn]
theorem StK.ext {base c : Nat} {h o : Nat -> Obj'} {v : V} {o1 : Nat -> Obj'} {nx nx1 : Nat} {K : V -> (Nat -> Obj') -> Nat -> Prop} (hK : StK base h v o nx K) (hb : base <= c) (hn : nx <= nx1) (hc : nx <= c) (ho : ∀ id, base <= id -> id < nx -> o1 id = o id) : StK c (YtealblliddhgiaaGreat.ext base h o1) v o1 nx1 K := by
 intro o' nx' h1 h2 h3
 refine hK o' nx' (by omega) ⟨h2.good, Nat.le_trans hb h2.le, fun id hid => ?_⟩ fun id h4 h5 => ?_
 ·rw [h2.eq id (by omega)]; unfold YtealblliddhgiaaGreat.ext; rw [if_pos hid]
 ·rw [h2.eq id (by omega), <- ho id h4 h5]; unfold YtealblliddhgiaaGreat.ext; rw [if_neg (by omega)]
def foldE {α σ : Type} (step : σ -> α -> σ × Bool) (s : σ) : List α -> σ × Bool
 | [] => (s, true)
 | x :: l => if (step s x).2 = true then foldE step (step s x).1 l else ((step s x).1, false)
theorem callY_intro {P : Program} {id : Nat} {args : List V} {e : Nat -> V} {o : Nat -> Obj'} {nx : Nat} {K X : V -> (Nat -> Obj') -> Nat -> Prop} (h : RoundK P id args o nx K X) : callY P id K X ⟨e, o, nx⟩ args := by unfold callY; exact h
theorem upd_upd {α : Type} (f : Nat -> α) (i : Nat) (x y : α) : upd (upd f i x) i y = upd f i y := by
 funext j; simp only [upd]; split <;> rfl
attribute [go_sem] Int.cast_ofNat_Int
section
variable {P : Program} {n : Nat} {ps : List Nat} {x y : IC} {env : List V} {L : LoopState -> Option Jmp -> Obj'}
def IsLoop (P : Program) (n : Nat) (env : List V) (ps : List Nat) (x y : IC) (L : LoopState -> Option Jmp -> Obj') : Prop := ∀ st pd, L st pd = .loop P.funcs.size n env ps x y st pd
theorem rng_st {Q : Xit -> S -> Prop} {e : Nat -> V} {o : Nat -> Obj'} {nx : Nat} {f : FuncId} {cap : List V} (env : List V) (he : keptE e env 0)
 (h : ∀ L, IsLoop P n env ps x y L -> CtK P f (.yld nx :: cap) (upd o nx (L .ready none)) (nx + 1)
  (fun _ o' nx' => ∃ st pd, o' nx = L st pd /\ st ≠ .busy /\ jmpQ Q pd ⟨e, upd o' nx (L .exhausted pd), nx'⟩) (fun v o' nx' => Q (.pan v) ⟨e, o', nx'⟩)) :
 rngS P n false ps x y Q ⟨e, o, nx⟩ (.func (.func f) [] cap) := by
 refine rng_intro env he ?_
 have := h (fun st pd => .loop P.funcs.size n env ps x y st pd) (fun _ _ => rfl)
 refine this.mono (fun v o' nx' hh => ?_) (fun v o' nx' hh => hh)
 obtain ⟨st, pd, h1, h2, h3⟩ := hh
 exact ⟨_, _, _, _, _, _, _, _, h1, h2, h3⟩
theorem round_st (hL : IsLoop P n env ps x y L) (hmix : P.follows .mixedOrders = true) {id : Nat} {args : List V} {o : Nat -> Obj'} {nx : Nat} {K X : V -> (Nat -> Obj') -> Nat -> Prop} {st : LoopState} {pd : Option Jmp}
 (ho : o id = L st pd) (hlt : id < nx) (hps : ps.all (fun t => decide (t < n)) = true) (hl : args.length = ps.length)
 (h : evW P n nx true x (beginE P n nx id y K X) ⟨setP (envJ env) ps args, o, nx⟩) : RoundK P id args o nx K X :=
 RoundK.of_ev hmix (ho.trans (hL st pd)) hlt hps hl h
theorem begin_st (hL : IsLoop P n env ps x y L) {b id : Nat} {icb : IC} {K X : V -> (Nat -> Obj') -> Nat -> Prop} {e : Nat -> V} {o : Nat -> Obj'} {nx : Nat} {pd : Option Jmp} (h : o id = L .ready pd)
 (h2 : evW P n b true icb (roundQ id K X) ⟨e, upd o id (L .busy pd), nx⟩) : beginE P n b id icb K X .normal ⟨e, o, nx⟩ := by
 refine beginE_intro (h.trans (hL _ _)) ?_
 rw [<- hL]; exact h2
theorem roundQ_go (hL : IsLoop P n env ps x y L) {id : Nat} {K X : V -> (Nat -> Obj') -> Nat -> Prop} {e : Nat -> V} {o : Nat -> Obj'} {nx : Nat} {st : LoopState} {pd : Option Jmp} (h : o id = L st pd) (k : K (.d (.bool true)) (upd o id (L .ready none)) nx) : roundQ id K X .normal ⟨e, o, nx⟩ :=
 ⟨_, _, _, _, _, _, _, _, h.trans (hL _ _), by rw [<- hL]; exact k⟩
theorem roundQ_ret (hL : IsLoop P n env ps x y L) {id : Nat} {K X : V -> (Nat -> Obj') -> Nat -> Prop} {e : Nat -> V} {o : Nat -> Obj'} {nx : Nat} {st : LoopState} {pd : Option Jmp} (h : o id = L st pd) (k : K (.d (.bool false)) (upd o id (L .done (some .ret))) nx) : roundQ id K X .ret ⟨e, o, nx⟩ :=
 ⟨_, _, _, _, _, _, _, _, h.trans (hL _ _), by rw [<- hL]; exact k⟩
theorem roundQ_exit (hL : IsLoop P n env ps x y L) {id j : Nat} {K X : V -> (Nat -> Obj') -> Nat -> Prop} {e : Nat -> V} {o : Nat -> Obj'} {nx : Nat} {st : LoopState} {pd : Option Jmp} (h : o id = L st pd) (k : K (.d (.bool false)) (upd o id (L .done (some (.exit j)))) nx) : roundQ id K X (.exit j) ⟨e, o, nx⟩ :=
 ⟨_, _, _, _, _, _, _, _, h.trans (hL _ _), by rw [<- hL]; exact k⟩
theorem IsLoop.no (hL : IsLoop P n env ps x y L) (st : LoopState) (pd : Option Jmp) : L st pd ≠ .no := by rw [hL]; exact Obj'.noConfusion
theorem IsLoop.refs (hL : IsLoop P n env ps x y L) (st : LoopState) (pd : Option Jmp) : (L st pd).refs = V.refss env := by rw [hL]; rfl
end
end Go.Proofs.YtealblliddhgiaaGreat
namespace Go.Proofs.YtealblliddhgiaaGreat
attribute [go_sem_proc] Int.reduceBEq Int.reduceBNe Int.reduceLT Int.reduceLE Int.reduceEq Int.reduceNe Nat.reducePow Nat.reduceEqDiff Nat.reduceAdd Nat.reduceSub Nat.reduceMul Nat.reduceLeDiff Nat.reduceBEq Nat.reduceLT reduceIte reduceCtorEq Int.reduceToNat
attribute [go_sem] List.range_zero Option.isSome_some and_self List.cons.injEq
theorem in_c (n low high : Int) : PCt Tryz.prog 55 [.i n, .i low, .i high] (.ret [.bool (inB n low high)]) := by
 refine PCt.of_ev mix fn55 (by simp) ?_
 rw [c55]
 simp +contextual only [go_sem]
 rfl
theorem weigh_lt {t : Tm} {left depth : Int} (h : left < 1 \/ depth < 1) : weigh t left depth = -1 := by cases t; simp [weigh, h]
theorem weighs_neg {l : List Tm} {left depth : Int} (h : left < 0) : weighs l left depth = left := by
 cases l with
 | nil => rfl
 | cons k l => simp [weighs, show ¬ (0 <= left) by omega]
theorem weigh_bd : ∀ t : Tm, ∀ left depth : Int, -1 <= weigh t left depth /\ (1 <= left -> weigh t left depth <= left - 1) /\ (left < 1 -> weigh t left depth = -1) := by
 refine Tm.ind fun op n kids ih left depth => ?_
 have hs : ∀ (l : List Tm) (left d : Int), (∀ k ∈ l, k ∈ kids) -> -1 <= left -> -1 <= weighs l left d /\ weighs l left d <= left := by
  intro l
  induction l with
  | nil => intro left d _ h; simp [weighs, h]
  | cons k l ihl =>
    intro left d hk h
    simp only [weighs]
    split
    ·rename_i h0
     have h1 := ih k (hk k (by simp)) left d
     have h2 := ihl (weigh k left d) d (fun x hx => hk x (by simp [hx])) h1.1
     by_cases hl : 1 <= left
     ·have := h1.2.1 hl; omega
     ·have := h1.2.2 (by omega); omega
    ·omega
 simp only [weigh]
 split
 ·rename_i h; refine ⟨by omega, fun h1 => ?_, fun _ => rfl⟩; omega
 ·rename_i h
  have := hs kids (left - 1) (depth - 1) (fun _ h => h) (by omega)
  exact ⟨this.1, fun _ => this.2, fun h => by omega⟩
theorem weighs_bd (l : List Tm) (left d : Int) (h : -1 <= left) : -1 <= weighs l left d /\ weighs l left d <= left := by
 induction l generalizing left with
 | nil => simp [weighs, h]
 | cons k l ihl =>
   simp only [weighs]
   split
   ·have h1 := weigh_bd k left d
    have h2 := ihl (weigh k left d) h1.1
    by_cases hl : 1 <= left
    ·have := h1.2.1 hl; omega
    ·have := h1.2.2 (by omega); omega
   ·omega
theorem weighs_append (a b : List Tm) (left d : Int) : weighs (a ++ b) left d = weighs b (weighs a left d) d := by
 induction a generalizing left with
 | nil => rfl
 | cons k a ih =>
   simp only [List.cons_append, weighs]
   split
   ·exact ih _
   ·rename_i h; rw [weighs_neg (by omega)]
theorem weighs_snoc {l : List Tm} {i : Nat} {k : Tm} (hi : l[i]? = some k) (left d : Int) (h : 0 <= weighs (l.take i) left d) : weighs (l.take (i + 1)) left d = weigh k (weighs (l.take i) left d) d := by
 rw [List.take_add_one, hi, weighs_append]
 simp [weighs, h]
theorem weighs_stop {l : List Tm} {i : Nat} (left d : Int) (h : weighs (l.take i) left d < 0) : weighs l left d = weighs (l.take i) left d := by
 conv => lhs; rw [<- List.take_append_drop i l]
 rw [weighs_append, weighs_neg h]
@[reducible] def oneRow (cs : List V) : Nat -> Obj' := upd (fun _ => .no) 0 (.row cs)
@[reducible] def twoRow (cs ds : List V) : Nat -> Obj' := upd (upd (fun _ => .no) 0 (.row cs)) 1 (.row ds)
theorem oneRow_good {cs : List V} (h : (Obj'.row cs).refs.all (fun r => decide (r < 1)) = true) : Good (oneRow cs) 1 := (Good.nil (nx := 1)).upd (by omega) h
theorem twoRow_good {cs ds : List V} (h : (Obj'.row cs).refs.all (fun r => decide (r < 2)) = true) (h2 : (Obj'.row ds).refs.all (fun r => decide (r < 2)) = true) : Good (twoRow cs ds) 2 := ((Good.nil (nx := 2)).upd (by omega) h).upd (by omega) h2
theorem SLe.d1 {e : Nat -> V} {so o : Nat -> Obj'} {m : Nat} (l : List V) (hg : Good o 1) (hm : 1 <= m) (h0 : so 0 = o 0) (he : backE 1 e l 0) : SLe 0 ⟨e, so, m⟩ ⟨envJ l, o, 1⟩ :=
 SLe.backL l (Nat.zero_le _) hm hg (fun id h => by obtain rfl : id = 0 := by omega
                                                   exact h0) he
theorem SLe.d2 {e : Nat -> V} {so o : Nat -> Obj'} {m : Nat} (l : List V) (hg : Good o 2) (hm : 2 <= m) (h0 : so 0 = o 0) (h1 : so 1 = o 1) (he : backE 2 e l 0) : SLe 0 ⟨e, so, m⟩ ⟨envJ l, o, 2⟩ :=
 SLe.backL l (Nat.zero_le _) hm hg (fun id h => by
  rcases (by omega : id = 0 \/ id = 1) with rfl | rfl
  ·exact h0
  ·exact h1) he
@[reducible] def Tm.row (t : Tm) : List V := [.d (.i t.op), .d (.i t.n), .d (.sl (t.kids.map Tm.d))]
theorem weigh_eq (t : Tm) (left depth : Int) : weigh t left depth = if left < 1 \/ depth < 1 then -1 else weighs t.kids (left - 1) (depth - 1) := by cases t; simp [weigh, Tm.kids]
theorem weigh_c : ∀ t : Tm, t.fits -> ∀ left depth : Int, -1 <= left /\ left <= 1000000 -> -1 <= depth /\ depth <= 1000000 -> PCt Tryz.prog 58 [t.d, .i left, .i depth] (.ret [.i (weigh t left depth)]) := by
 refine Tm.ind' fun t ih hf left depth hl hd => ?_
 have hf' := (Tm.fits_iff _).1 hf
 refine PCt.of_ev mix fn58 (by simp) ?_
 rw [c58]
 simp +contextual only [go_sem]
 refine cond_intro (fun h1 => ?_) (fun h1 => ?_)
 ·simp +contextual only [go_sem]
  simp at h1
  rw [weigh_lt h1]
 ·simp at h1
  simp +contextual only [go_sem]
  rw [wrap64 (n := left - 1) (by omega) (by omega), weigh_eq, if_neg (by omega)]
  refine loop_fam (fun k : Nat => ⟨envJ [.junk, .d (.i (weighs (t.kids.take k) (left - 1) (depth - 1))), .d (.i depth), .ptr 0 0, .junk, .junk, .junk, .d (.i k)], oneRow t.row, 1⟩)
   (fun k => k <= t.kids.length) (fun k => t.kids.length - k) 0 (Nat.zero_le _) (SLe.d1 _ (oneRow_good rfl) (by omega) rfl ?_) (fun k hk => ?_)
  ·(repeat (first | exact backE_nil | refine backE_junk ?_ | refine backE_d rfl ?_ | refine backE_d (d_int (wrapN (by omega))) ?_ | refine backE_v rfl (by simp [V.refs, V.refss] <;> first | omega | assumption) ?_))
  have hb := weighs_bd (t.kids.take k) (left - 1) (depth - 1) (by omega)
  simp +contextual only [go_sem]
  refine cond_intro (fun h2 => ?_) (fun h2 => ?_)
  ·simp at h2
   obtain ⟨x, hx⟩ : ∃ x, t.kids[k]? = some x := ⟨t.kids[k], by simp [h2.1]⟩
   have hxm := List.mem_of_getElem? hx
   simp +contextual only [go_sem, hx]
   rw [wrap64 (n := depth - 1) (by omega) (by omega)]
   refine call_keep (ih x hxm (hf'.2 x hxm) _ _ (by omega) (by omega)) rfl ?_
   simp +contextual only [go_sem]
   rw [<- weighs_snoc hx _ _ h2.2]
   refine nextS_intro (k + 1) h2.1 (by omega) (SLe.d1 _ (oneRow_good rfl) (by omega) rfl ?_)
   (repeat (first | exact backE_nil | refine backE_junk ?_ | refine backE_d rfl ?_ | refine backE_d (d_int (wrapN (by omega))) ?_ | refine backE_v rfl (by simp [V.refs, V.refss] <;> first | omega | assumption) ?_))
  ·simp +contextual only [go_sem]
   simp only [Bool.and_eq_false_iff, decide_eq_false_iff_not] at h2
   congr 3
   rcases h2 with h2 | h2
   ·rw [List.take_of_length_le (by omega)]
   ·exact weighs_stop _ _ (by omega)
theorem name_c (s : List UInt8) (hs : s.length <= 9223372036854775807) : PCt Tryz.prog 116 [.str s] (.ret [.bool (nameF s)]) := by
 refine PCt.of_ev mix fn116 (by simp) ?_
 rw [c116]
 simp +contextual only [go_sem]
 refine loop_fam (fun k : Nat => ⟨envJ [.d (.str s), .junk, .junk, .d (.i k)], fun _ => .no, 0⟩)
  (fun k => k <= s.length /\ (s.take k).all letterF = true) (fun k => s.length - k) 0 ⟨Nat.zero_le _, by simp⟩ (SLe.d0 _ ?_) (fun k hk => ?_)
 ·(repeat (first | exact backE_nil | refine backE_junk ?_ | refine backE_d rfl ?_ | refine backE_d (d_int (wrapN (by omega))) ?_ | refine backE_v rfl (by simp [V.refs, V.refss] <;> first | omega | assumption) ?_))
 simp +contextual only [go_sem]
 refine cond_intro (fun h2 => ?_) (fun h2 => ?_)
 ·simp at h2
  obtain ⟨x, hx⟩ : ∃ x, s[k]? = some x := ⟨s[k], by simp [h2]⟩
  simp +contextual only [go_sem, hx]
  refine cond_intro (fun h3 => ?_) (fun h3 => ?_)
  ·simp +contextual only [go_sem]
   have : nameF s = false := by
    have : s.all letterF = false := by
     rw [List.all_eq_false]
     refine ⟨x, List.mem_of_getElem? hx, ?_⟩
     simp only [letterF, h3]; simp
    simp [nameF, this]
   rw [this]
  ·simp +contextual only [go_sem]
   refine nextS_intro (k + 1) ⟨h2, ?_⟩ (by omega) (SLe.d0 _ ?_)
   ·rw [List.take_add_one, hx, List.all_append, hk.2]
    simp [letterF, h3]
   ·(repeat (first | exact backE_nil | refine backE_junk ?_ | refine backE_d rfl ?_ | refine backE_d (d_int (wrapN (by omega))) ?_ | refine backE_v rfl (by simp [V.refs, V.refss] <;> first | omega | assumption) ?_))
 ·simp +contextual only [go_sem]
  refine call_keep (in_c _ _ _) rfl ?_
  simp +contextual only [go_sem]
  simp at h2
  have := hk.2
  rw [List.take_of_length_le (by omega)] at this
  simp [nameF, this]
theorem names_c (l : List TNm) (bs : List (List UInt8)) (hl : l.length <= 1000) (hb : bs.length <= 1000) (hs : ∀ x ∈ l, x.name.length <= 9223372036854775807) :
 PCt Tryz.prog 83 [.sl (l.map TNm.d), .sl (bs.map .str)] (.ret [.sl (((namesF l bs).getD []).map .str), .bool (namesF l bs).isSome]) := by
 refine PCt.of_ev mix fn83 (by simp) ?_
 rw [c83]
 simp +contextual only [go_sem]
 refine loop_fam (fun k : Nat => ⟨envJ [.d (.sl (l.map TNm.d)), .d (.sl ((bs ++ (l.take k).map (·.name)).map .str)), .junk, .junk, .junk, .junk, .d (.i k)], fun _ => .no, 0⟩)
  (fun k => k <= l.length /\ namesF l bs = namesF (l.drop k) (bs ++ (l.take k).map (·.name))) (fun k => l.length - k) 0 ⟨Nat.zero_le _, by simp⟩ (SLe.d0 _ ?_) (fun k hk => ?_)
 ·simp only [List.take_zero, List.map_nil, List.append_nil]
  (repeat (first | exact backE_nil | refine backE_junk ?_ | refine backE_d rfl ?_ | refine backE_d (d_int (wrapN (by omega))) ?_ | refine backE_v rfl (by simp [V.refs, V.refss] <;> first | omega | assumption) ?_))
 simp +contextual only [go_sem]
 refine cond_intro (fun h2 => ?_) (fun h2 => ?_)
 ·simp at h2
  obtain ⟨x, hx⟩ : ∃ x, l[k]? = some x := ⟨l[k], by simp [h2]⟩
  have hxm := List.mem_of_getElem? hx
  have hdrop : l.drop k = x :: l.drop (k + 1) := by
   rw [List.drop_eq_getElem_cons h2]
   rw [List.getElem?_eq_getElem h2] at hx; injection hx with hx; rw [hx]
  generalize hB : bs ++ (l.take k).map (·.name) = B at *
  have hBl : B.length <= 2000 := by rw [<- hB]; simp; omega
  simp +contextual only [go_sem]
  refine loop_fam (fun j : Nat => ⟨envJ [.d (.sl (l.map TNm.d)), .d (.sl (B.map .str)), .junk, .junk, .junk, .junk, .d (.i k), .d (.i j)], fun _ => .no, 0⟩)
   (fun j => j <= B.length /\ (B.take j).any (· == x.name) = false) (fun j => B.length - j) 0 ⟨Nat.zero_le _, by simp⟩ (SLe.d0 _ ?_) (fun j hj => ?_)
  ·(repeat (first | exact backE_nil | refine backE_junk ?_ | refine backE_d rfl ?_ | refine backE_d (d_int (wrapN (by omega))) ?_ | refine backE_v rfl (by simp [V.refs, V.refss] <;> first | omega | assumption) ?_))
  simp +contextual only [go_sem]
  refine cond_intro (fun h3 => ?_) (fun h3 => ?_)
  ·simp at h3
   obtain ⟨y, hy⟩ : ∃ y, B[j]? = some y := ⟨B[j], by simp [h3]⟩
   simp +contextual only [go_sem, hx, hy]
   refine end_intro (by decide) ?_
   simp +contextual only [go_sem]
   refine cond_intro (fun h4 => ?_) (fun h4 => ?_)
   ·simp +contextual only [go_sem]
    have : namesF l bs = none := by
     rw [hk.2, hdrop, namesF, if_pos]
     rw [List.any_eq_true]
     exact ⟨y, List.mem_of_getElem? hy, h4⟩
    rw [this]; rfl
   ·simp +contextual only [go_sem]
    refine nextS_intro (j + 1) ⟨h3, ?_⟩ (by omega) (SLe.d0 _ ?_)
    ·rw [List.take_add_one, hy, List.any_append, hj.2]
     simp only [Option.toList_some, List.any_cons, h4, List.any_nil, Bool.or_false]
    ·(repeat (first | exact backE_nil | refine backE_junk ?_ | refine backE_d rfl ?_ | refine backE_d (d_int (wrapN (by omega))) ?_ | refine backE_v rfl (by simp [V.refs, V.refss] <;> first | omega | assumption) ?_))
  ·simp at h3
   have hany := hj.2
   rw [List.take_of_length_le (by omega)] at hany
   simp +contextual only [go_sem, hx]
   refine call_keep (name_c x.name (hs x hxm)) rfl ?_
   simp +contextual only [go_sem, hx]
   refine guard_data (callG_intro [.bool (inB x.args 0 4)] ?_ ?_)
   ·simp +contextual only [go_sem]
    exact fun _ => in_c _ _ _
   simp +contextual only [go_sem]
   refine cond_intro (fun h4 => ?_) (fun h4 => ?_)
   ·simp +contextual only [go_sem]
    have : namesF l bs = none := by
     rw [hk.2, hdrop, namesF, if_neg (by rw [hany]; exact Bool.false_ne_true), if_pos h4]
    rw [this]; rfl
   ·have e1 : B.length <= 140737488355328 := by omega
    have e2 : B.length * 16 <= 140737488355328 := by omega
    have e3 : B.length <= 140737488355327 := by omega
    have e4 : (B.length + 1) * 16 <= 140737488355328 := by omega
    simp +contextual only [go_sem, hx, e1, e2, e3, e4]
    refine end_intro (by decide) ?_
    simp +contextual only [go_sem]
    have hn : namesF l bs = namesF (l.drop (k + 1)) (bs ++ (l.take (k + 1)).map (·.name)) := by
     rw [hk.2, hdrop, namesF, if_neg (by rw [hany]; exact Bool.false_ne_true), if_neg (by rw [h4]; exact Bool.false_ne_true), <- hB, List.take_add_one, hx]
     simp
    refine nextS_intro (k + 1) ⟨h2, hn⟩ (by omega) (SLe.see0 (fun _ => True) 0 _ (Nat.le_refl _) lt0 (fun _ _ => rfl) (fun _ _ _ => rfl) ?_)
    have hB2 : (bs ++ (l.take (k + 1)).map (·.name)).map D.str = B.map D.str ++ [D.str x.name] := by
     rw [<- hB, List.take_add_one, hx]; simp
    rw [hB2]
    (repeat (first | exact seeE_nil | refine seeE_junk ?_ | refine seeE_d rfl ?_ | refine seeE_d (d_int (wrapN (by omega))) ?_ | refine seeE_g 0 rfl rfl rfl ?_ | refine seeE_v rfl (by simp [V.refs, V.refss] <;> first | omega | assumption) ?_ | refine seeE_c rfl (by simp [V.ids] <;> omega) ?_))
 ·simp +contextual only [go_sem]
  simp at h2
  have : namesF l bs = some (bs ++ l.map (·.name)) := by
   rw [hk.2, List.drop_eq_nil_of_le (by omega), namesF, List.take_of_length_le (by omega)]
  rw [this, List.take_of_length_le (by omega)]
  rfl
theorem eqT_nm (a b : List UInt8) (m n : Int) : eqT Tryz.prog 100 103 (.agg [.str a, .i m]) (.agg [.str b, .i n]) = some (a == b && m == n) := by
 have h1 : eqShape Tryz.prog 103 = some (.struct [(9, 0), (3, 1)]) := by kernel_rfl
 have h2 : eqShape Tryz.prog 9 = some .str := by kernel_rfl
 have h3 : eqShape Tryz.prog 3 = some .int := by kernel_rfl
 have h4 : aggT Tryz.prog 9 = some false := by kernel_rfl
 have h5 : aggT Tryz.prog 3 = some false := by kernel_rfl
 simp [eqT, h1, h2, h3, h4, h5, fldsE, eq2, partD, andO]
@[go_sem] theorem eqV_nm (o : Nat -> Obj') (cst : Bool) (a b : List UInt8) (m n : Int) : eqV Tryz.prog o 103 cst (.d (.agg [.str a, .i m])) (.d (.agg [.str b, .i n])) = some (.d (.bool (a == b && m == n))) := by
 obtain ⟨fs, h⟩ : ∃ fs, Tryz.prog.underlying 103 = some (.struct fs) := structOf (by kernel_rfl)
 have h2 : Tryz.prog.eqGuardType Tryz.prog.depth 103 = false := by kernel_rfl
 unfold eqV
 rw [h]
 dsimp only
 rw [if_pos h2, eqT_nm]
 rfl
theorem names_len {l : List TNm} {bs B : List (List UInt8)} (h : namesF l bs = some B) : B = bs ++ l.map (·.name) := by
 induction l generalizing bs with
 | nil => simp [namesF] at h; simp [h]
 | cons x l ih =>
   simp only [namesF] at h
   split at h
   ·cases h
   ·split at h
    ·cases h
    ·rw [ih h]; simp
structure TSig.Fits (s : TSig) : Prop where
 lc : s.cons.length <= 9223372036854775807
 lf : s.funs.length <= 9223372036854775807
 nc : ∀ x ∈ s.cons, x.name.length <= 9223372036854775807
 nf : ∀ x ∈ s.funs, x.name.length <= 9223372036854775807
theorem sig_c (s : TSig) (hs : s.Fits) : PCt Tryz.prog 42 [s.d] (.ret [.bool (sigF s)]) := by
 refine PCt.of_ev mix fn42 (by simp) ?_
 rw [c42]
 simp +contextual only [go_sem]
 refine call_keep (in_c _ _ _) rfl ?_
 simp +contextual only [go_sem]
 cases h1 : (!inB s.cons.length 2 12 || decide (8 < (s.funs.length : Int))) with
 | true =>
   simp +contextual only [go_sem, h1]
   simp only [sigF, h1, if_true]
 | false =>
   simp [inB] at h1
   obtain ⟨a, b, r, hc⟩ : ∃ a b r, s.cons = a :: b :: r := by
    match h : s.cons with
    | [] => rw [h] at h1; simp at h1
    | [a] => rw [h] at h1; simp at h1
    | a :: b :: r => exact ⟨a, b, r, rfl⟩
   have h1' : (!inB s.cons.length 2 12 || decide (8 < (s.funs.length : Int))) = false := by simp [inB]; omega
   simp +contextual only [go_sem, h1', hc]
   have hsig : sigF s = if (!isNm a fB || !isNm b tB) = true then false else match namesF s.cons [] with
    | none => false
    | some l => (namesF s.funs l).isSome := by
    unfold sigF
    rw [if_neg (by rw [h1']; exact Bool.false_ne_true), hc]
    dsimp only
    rfl
   refine cond_intro (fun h2 => ?_) (fun h2 => ?_)
   ·simp +contextual only [go_sem]
    have h2' : (!isNm a fB || !isNm b tB) = true := h2
    rw [hsig, if_pos h2']
   ·simp +contextual only [go_sem, hc]
    have hl : (a :: b :: r).length <= 1000 := by rw [<- hc]; omega
    have hnm := names_c (a :: b :: r) [] hl (by simp) (by rw [<- hc]; exact hs.nc)
    simp only [List.map_cons, List.map_nil] at hnm
    refine call_give hnm ?_
    have h2' : (!isNm a fB || !isNm b tB) = false := h2
    rw [hsig, if_neg (by rw [h2']; exact Bool.false_ne_true), hc]
    cases hn : namesF (a :: b :: r) [] with
    | none => simp +contextual only [go_sem, hn]
    | some B =>
      simp +contextual only [go_sem, hn]
      have hB : B.length <= 1000 := by
       have := names_len hn
       rw [this]; simp at hl ⊢; omega
      have hnm2 := names_c s.funs B (by omega) hB hs.nf
      refine call_give hnm2 ?_
      simp +contextual only [go_sem]
end Go.Proofs.YtealblliddhgiaaGreat
