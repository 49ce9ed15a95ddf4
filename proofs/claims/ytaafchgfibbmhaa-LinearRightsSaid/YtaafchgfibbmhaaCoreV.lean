/-
  CALLS THAT LEAVE THE HEAP AS IT WAS ('CtO'), and a state whose garbage is dropped ('SLe.back'). Conditions: as each theorem says.
-/
import Derived.Test.YtaafchgfibbmhaaCoreU
namespace Go.Proofs.Ytaafchgfibbmhaa

/-- A heap: no object from a number on; what its objects name is below. -/
structure Good (o : Nat → Obj') (nx : Nat) : Prop where
  fresh : ∀ id, nx ≤ id → o id = .no
  refs : ∀ id, ∀ r ∈ (o id).refs, r < nx
theorem Good.nil {nx : Nat} : Good (fun _ => .no) nx := ⟨fun _ _ => rfl, fun id r h => by cases h⟩
theorem Good.upd {o : Nat → Obj'} {nx i : Nat} {x : Obj'} (h : Good o nx) (hi : i < nx) (hx : x.refs.all (fun r => decide (r < nx)) = true) : Good (upd o i x) nx := by
  refine ⟨fun id hid => ?_, fun id r hr => ?_⟩
  · rw [upd_ne _ _ _ _ (by omega)]; exact h.fresh id hid
  · by_cases e : id = i
    · subst e
      rw [upd_same] at hr
      simpa using List.all_eq_true.1 hx r hr
    · rw [upd_ne _ _ _ _ e] at hr
      exact h.refs id r hr
theorem Good.mono {o : Nat → Obj'} {nx m : Nat} (h : Good o nx) (hm : nx ≤ m) : Good o m := ⟨fun id hid => h.fresh id (by omega), fun id r hr => Nat.lt_of_lt_of_le (h.refs id r hr) hm⟩
theorem Good.lt {o : Nat → Obj'} {nx id : Nat} (h : Good o nx) (hn : o id ≠ .no) : id < nx := by
  rcases Nat.lt_or_ge id nx with hl | hl
  · exact hl
  · exact absurd (h.fresh id hl) hn

/-- A call that answers 'v' and leaves the heap as it was. -/
def CtO (P : Program) (g : FuncId) (args : List V) (o : Nat → Obj') (v : V) : Prop :=
  ∀ nx, Good o nx → ∀ K X, (∀ o' nx', nx ≤ nx' → Good o' nx' → (∀ id, id < nx → o' id = o id) → K v o' nx') → CtK P g args o nx K X

theorem V.refss_get : ∀ (l : List V) (i : Nat), ∀ r ∈ (envJ l i).refs, r ∈ V.refss l
  | [], i, r, h => by rw [envJ_nil] at h; cases h
  | v :: l, 0, r, h => by rw [envJ_zero] at h; simp only [V.refss, List.mem_append]; exact .inl h
  | v :: l, i + 1, r, h => by rw [envJ_succ] at h; simp only [V.refss, List.mem_append]; exact .inr (V.refss_get l i r h)

/-- What is above a number is dropped; below all is as it was. -/
theorem SLe.back {b : Nat} {s : S} {env : Nat → V} {o : Nat → Obj'} {nx : Nat} (hb : b ≤ nx) (hn : nx ≤ s.nx) (hg : Good o nx) (ho : ∀ id, id < nx → s.o id = o id)
    (he : ∀ i, env i = .junk ∨ (env i = s.env i ∧ ∀ r ∈ (env i).refs, r < nx)) : SLe b s ⟨env, o, nx⟩ := by
  intro M φ w tm hH hd
  have hlive : ∀ k, liveB φ (hp o nx) k → liveB φ s.H k := by
    rintro k ⟨id, h1, h2⟩
    have hid : id < nx := hg.lt (fun e => by simp only [hp] at h1; rw [e] at h1; cases h1)
    exact ⟨id, by simp only [S.H]; rw [ho id hid]; exact h1, h2⟩
  have hB : ∀ k, ¬ mutB M φ s.H k → ¬ mutB M φ (hp o nx) k := fun k h h' => h (h'.imp id (hlive k))
  have hval : ∀ (v : V) (val : Value), (∀ r ∈ v.refs, r < nx) → V.den (mutB M φ s.H) φ s.H w v val → V.den (mutB M φ (hp o nx)) φ (hp o nx) w v val := fun v val hr h =>
    V.den_refs (H := s.H) (H' := hp o nx) hB v val (fun id hid => ⟨(ho id (hr id hid)).symm, rfl, hr id hid⟩) h
  have hvals : ∀ (v : List V) (val : List Value), (∀ r ∈ V.refss v, r < nx) → V.dens (mutB M φ s.H) φ s.H w v val → V.dens (mutB M φ (hp o nx)) φ (hp o nx) w v val := fun v val hr h =>
    V.dens_refs (H := s.H) (H' := hp o nx) hB v val (fun id hid => ⟨(ho id (hr id hid)).symm, rfl, hr id hid⟩) h
  refine ⟨φ, ⟨fun id => ?_, fun id hu => hg.fresh id (by simpa [S.H] using hu), fun i j k h1 h2 h3 h4 => ?_, fun k hk => hH.ours k (hlive k hk), hH.old⟩, fun i => ?_, hlive, hb, fun id hid hr => ?_, fun id e' hid he' => ?_⟩
  · have hall := hH.ok id
    have hrefs := hg.refs id
    unfold ObjOk at hall ⊢
    by_cases hid : id < nx
    · have e : s.H.o id = o id := ho id hid
      rw [e] at hall
      simp only [S.H] at hall ⊢
      cases hx : o id with
      | no => trivial
      | row cs =>
        simp only [hx] at hall hrefs ⊢
        obtain ⟨b, carr, ty, k1, k2, k3, k4⟩ := hall
        exact ⟨b, carr, ty, k1, k2, hvals _ _ hrefs k3, k4⟩
      | arr ep ty sz es =>
        simp only [hx] at hall ⊢
        obtain ⟨k1, xs, k2, evs, k3, k4, k5⟩ := hall
        exact ⟨k1, xs, k2, evs, k3, k4, D.dens_mono (fun b _ hn => ⟨rfl, hB b hn⟩) _ _ k5⟩
      | fro ep es =>
        simp only [hx] at hall ⊢
        exact D.den_mono (fun b _ hn => ⟨rfl, hB b hn⟩) _ _ hall
      | map kt vt es =>
        simp only [hx] at hall ⊢
        obtain ⟨b, es', clock, k1, k2, k3⟩ := hall
        exact ⟨b, es', clock, k1, k2, EntsDen.mono (fun b _ hn => ⟨rfl, hB b hn⟩) _ _ k3⟩
      | loop nf n env ps a b st pd =>
        simp only [hx] at hall hrefs ⊢
        obtain ⟨b, r, k1, k2, k3, k4, k5, k6, k7, k8, k9, k10⟩ := hall
        exact ⟨b, r, k1, k2, k3, k4, k5, k6, k7, k8, k9, fun i => hval _ _ (fun r hr => hrefs r (V.refss_get _ _ r hr)) (k10 i)⟩
    · simp only [S.H]
      rw [hg.fresh id (by omega)]
      trivial
  · have hi : i < nx := hg.lt (fun e => by simp only [S.H] at h1; rw [e] at h1; cases h1)
    have hj : j < nx := hg.lt (fun e => by simp only [S.H] at h2; rw [e] at h2; cases h2)
    exact hH.apart i j k (by simp only [S.H]; rw [ho i hi]; exact h1) (by simp only [S.H]; rw [ho j hj]; exact h2) h3 h4
  · rcases he i with h | ⟨h1, h2⟩
    · simp only [h]; trivial
    · have := hd i
      rw [← h1] at this
      exact hval _ _ h2 this
  · have hlt : id < nx := by omega
    exact ⟨by rw [ho id hlt]; exact hr, rfl⟩
  · have hlt : id < nx := by omega
    exact ⟨e', by rw [ho id hlt]; exact he', Nat.le_refl _, fun _ => rfl⟩
/-- Temporaries that are kept; the rest is not looked at. -/
def backE (nx : Nat) (env : Nat → V) : List V → Nat → Prop
  | [], _ => True
  | v :: l, i => (v = .junk ∨ (v = env i ∧ ∀ r ∈ v.refs, r < nx)) ∧ backE nx env l (i + 1)
theorem SLe.backL {b : Nat} {e : Nat → V} {so : Nat → Obj'} {m : Nat} (l : List V) {o : Nat → Obj'} {nx : Nat} (hb : b ≤ nx) (hn : nx ≤ m) (hg : Good o nx) (ho : ∀ id, id < nx → so id = o id) (he : backE nx e l 0) : SLe b ⟨e, so, m⟩ ⟨envJ l, o, nx⟩ := by
  refine SLe.back hb hn hg ho ?_
  have key : ∀ (l : List V) (i : Nat), backE nx e l i → ∀ j, envJ l j = .junk ∨ (envJ l j = e (i + j) ∧ ∀ r ∈ (envJ l j).refs, r < nx) := by
    intro l
    induction l with
    | nil => intro i _ j; rw [envJ_nil]; exact .inl rfl
    | cons v l ih =>
      intro i h j
      cases j with
      | zero => rw [envJ_zero]; exact h.1
      | succ j =>
        rw [envJ_succ]
        have := ih (i + 1) h.2 j
        rwa [show i + 1 + j = i + (j + 1) by omega] at this
  intro i
  have := key l 0 he i
  rwa [Nat.zero_add] at this
theorem backE_nil {nx : Nat} {env : Nat → V} {i : Nat} : backE nx env [] i := trivial
theorem backE_junk {nx : Nat} {env : Nat → V} {l : List V} {i : Nat} (h : backE nx env l (i + 1)) : backE nx env (.junk :: l) i := ⟨.inl rfl, h⟩
theorem backE_d {nx : Nat} {env : Nat → V} {l : List V} {i : Nat} {x : D} (he : env i = .d x) (h : backE nx env l (i + 1)) : backE nx env (.d x :: l) i := ⟨.inr ⟨he.symm, fun r hr => by simp [V.refs] at hr⟩, h⟩
theorem backE_v {nx : Nat} {env : Nat → V} {l : List V} {i : Nat} {v : V} (he : env i = v) (hr : ∀ r ∈ v.refs, r < nx) (h : backE nx env l (i + 1)) : backE nx env (v :: l) i := ⟨.inr ⟨he.symm, hr⟩, h⟩
theorem SLe.d0 {e : Nat → V} {so : Nat → Obj'} {m : Nat} (l : List V) (he : backE 0 e l 0) : SLe 0 ⟨e, so, m⟩ ⟨envJ l, fun _ => .no, 0⟩ := SLe.backL l (Nat.le_refl 0) (Nat.zero_le _) Good.nil (fun _ h => absurd h (Nat.not_lt_zero _)) he
theorem wrapN {k : Nat} (h : (k : Int) + 1 ≤ 9223372036854775807) : IntKind.i64.wrap ((k : Int) + 1) = ((k + 1 : Nat) : Int) := by rw [wrap64 (by omega) h]; rfl
theorem d_int {k : IntKind} {a b : Int} (h : a = b) : V.d (D.int k a) = V.d (D.int k b) := by rw [h]
theorem bn_t {b : Bool} (h : (!b) = true) : b = false := by cases b <;> simp_all
theorem bn_f {b : Bool} (h : (!b) = false) : b = true := by cases b <;> simp_all
/-- What leaves the heap as it was, in a drawn region. -/
theorem HCt.of_cto {P : Program} {g : FuncId} {args : List V} {rd : List Nat} {o : Nat → Obj'} {x : D} (nx : Nat) (hnx : rd.all (fun id => decide (id < nx)) = true) (hargs : ∀ id ∈ V.refss args, id ∈ rd) (hcl : ∀ id ∈ rd, ∀ j ∈ (o id).refs, j ∈ rd)
    (h : CtO P g args (rst rd o) (.d x)) : HCt P g args rd o (.ret [x]) [] := by
  have hlt : ∀ id ∈ rd, id < nx := fun id hid => by simpa using List.all_eq_true.1 hnx id hid
  have hin : ∀ id, id ∈ rd → rst rd o id = o id := fun id hid => by simp [rst, hid]
  have hout : ∀ id, id ∉ rd → rst rd o id = .no := fun id hid => by simp [rst, hid]
  have hgood : Good (rst rd o) nx := by
    refine ⟨fun id hid => hout id (fun hm => by have := hlt id hm; omega), fun id r hr => ?_⟩
    by_cases hid : id ∈ rd
    · rw [hin id hid] at hr; exact hlt r (hcl id hid r hr)
    · rw [hout id hid] at hr; cases hr
  refine HCt.of_ctk (nx := nx) hlt hargs hcl (fun x hx => by cases hx) (fun x hx => by cases hx) (h nx hgood _ _ fun o' nx' _ _ h3 => ⟨fun id hid => ?_, [.d x], [x], rfl, rfl, rfl, fun id hid => by simp [V.idss, V.ids] at hid⟩)
  rw [h3 id (hlt id hid), hin id hid]; rfl
theorem callDR_keep {P : Program} {g : FuncId} {K : KD} {X : XD} {o : Nat → Obj'} {nx : Nat} {all : List V} {rd : List Nat} {rs : List D} {Δ : List (Nat × Obj')} (hrd : rd.all (fun id => decide (id < nx)) = true) (h : HCt P g all rd o (.ret rs) Δ) (hk : K (retV rs) Δ rd) : callDR P g K X o nx all := by
  unfold callDR
  exact ⟨rd, Δ, hrd, .inl ⟨rs, h, hk⟩⟩
/-- A list that is being filled. -/
def fillD (c : List Int) (j : Nat) : List D := (c.take j).map (.int .i64) ++ List.replicate (c.length - j) (.int .i64 0)
theorem fillD_zero (c : List Int) : fillD c 0 = List.replicate c.length (.int .i64 0) := by simp [fillD]
theorem fillD_all (c : List Int) : fillD c c.length = c.map (.int .i64) := by simp [fillD]
theorem fillD_length (c : List Int) (j : Nat) (h : j ≤ c.length) : (fillD c j).length = c.length := by simp [fillD]; omega
theorem fillD_get (c : List Int) (j : Nat) (h : j < c.length) : (fillD c j)[j]? = some (.int .i64 0) := by
  simp only [fillD]
  rw [List.getElem?_append_right (by simp; omega)]
  simp
  rw [List.getElem?_replicate, if_pos (by omega)]
theorem fillD_set (c : List Int) (j : Nat) (v : Int) (h : c[j]? = some v) : (fillD c j).set j (.int .i64 v) = fillD c (j + 1) := by
  have hj : j < c.length := (List.getElem?_eq_some_iff.1 h).1
  apply List.ext_getElem?
  intro i
  rw [List.getElem?_set]
  by_cases e : j = i
  · subst e
    rw [if_pos rfl, if_pos (by rw [fillD_length _ _ (by omega)]; exact hj)]
    simp only [fillD]
    rw [List.getElem?_append_left (by simp; omega), List.getElem?_map, List.getElem?_take_of_lt (by omega), h]
    rfl
  · rw [if_neg e]
    simp only [fillD]
    by_cases hi : i < j
    · rw [List.getElem?_append_left (by simp; omega), List.getElem?_append_left (by simp; omega), List.getElem?_map, List.getElem?_map, List.getElem?_take_of_lt hi, List.getElem?_take_of_lt (by omega)]
    · rw [List.getElem?_append_right (by simp; omega), List.getElem?_append_right (by simp; omega)]
      simp only [List.length_map, List.length_take, List.getElem?_replicate]
      have e1 : min j c.length = j := by omega
      have e2 : min (j + 1) c.length = j + 1 := by omega
      rw [e1, e2]
      by_cases hlt : i - j < c.length - j
      · rw [if_pos hlt, if_pos (by omega)]
      · rw [if_neg hlt, if_neg (by omega)]
end Go.Proofs.Ytaafchgfibbmhaa
