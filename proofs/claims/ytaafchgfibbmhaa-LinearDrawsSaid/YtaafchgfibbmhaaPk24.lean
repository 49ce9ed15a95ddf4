/-
  A PART OF THE PROOF (put together by program): several texts, one behind the other. Conditions: none.
-/
import Derived.Test.YtaafchgfibbmhaaPk23
set_option linter.unusedSimpArgs false
set_option linter.unusedVariables false
namespace Go.Proofs.Ytaafchgfibbmhaa
structure Good (o : Nat → Obj') (nx : Nat) : Prop where
  fresh : ∀ id, nx ≤ id → o id = .no
  refs : ∀ id, ∀ r ∈ (o id).refs, r < nx
theorem Good.nil {nx : Nat} : Good (fun _ => .no) nx := ⟨fun _ _ => rfl, fun id r h => by cases h⟩
theorem Good.upd {o : Nat → Obj'} {nx i : Nat} {x : Obj'} (h : Good o nx) (hi : i < nx) (hx : x.refs.all (fun r => decide (r < nx)) = true) : Good (upd o i x) nx := by
  refine ⟨fun id hid => ?_, fun id r hr => ?_⟩
  · rw [upd_ne _ _ _ _ (by omega)]; exact h.fresh id hid
  · by_cases e : id = i
    · subst e
      rw [upd_same] at hr
      simpa using List.all_eq_true.1 hx r hr
    · rw [upd_ne _ _ _ _ e] at hr
      exact h.refs id r hr
theorem Good.mono {o : Nat → Obj'} {nx m : Nat} (h : Good o nx) (hm : nx ≤ m) : Good o m := ⟨fun id hid => h.fresh id (by omega), fun id r hr => Nat.lt_of_lt_of_le (h.refs id r hr) hm⟩
theorem Good.lt {o : Nat → Obj'} {nx id : Nat} (h : Good o nx) (hn : o id ≠ .no) : id < nx := by
  rcases Nat.lt_or_ge id nx with hl | hl
  · exact hl
  · exact absurd (h.fresh id hl) hn
def CtO (P : Program) (g : FuncId) (args : List V) (o : Nat → Obj') (v : V) : Prop :=
  ∀ nx, Good o nx → ∀ K X, (∀ o' nx', nx ≤ nx' → Good o' nx' → (∀ id, id < nx → o' id = o id) → K v o' nx') → CtK P g args o nx K X
theorem V.refss_get : ∀ (l : List V) (i : Nat), ∀ r ∈ (envJ l i).refs, r ∈ V.refss l
  | [], i, r, h => by rw [envJ_nil] at h; cases h
  | v :: l, 0, r, h => by rw [envJ_zero] at h; simp only [V.refss, List.mem_append]; exact .inl h
  | v :: l, i + 1, r, h => by rw [envJ_succ] at h; simp only [V.refss, List.mem_append]; exact .inr (V.refss_get l i r h)
theorem SLe.back {b : Nat} {s : S} {env : Nat → V} {o : Nat → Obj'} {nx : Nat} (hb : b ≤ nx) (hn : nx ≤ s.nx) (hg : Good o nx) (ho : ∀ id, id < nx → s.o id = o id)
    (he : ∀ i, env i = .junk ∨ (env i = s.env i ∧ ∀ r ∈ (env i).refs, r < nx)) : SLe b s ⟨env, o, nx⟩ := by
  intro M φ w tm hH hd
  have hlive : ∀ k, liveB φ (hp o nx) k → liveB φ s.H k := by
    rintro k ⟨id, h1, h2⟩
    have hid : id < nx := hg.lt (fun e => by simp only [hp] at h1; rw [e] at h1; cases h1)
    exact ⟨id, by simp only [S.H]; rw [ho id hid]; exact h1, h2⟩
  have hB : ∀ k, ¬ mutB M φ s.H k → ¬ mutB M φ (hp o nx) k := fun k h h' => h (h'.imp id (hlive k))
  have hval : ∀ (v : V) (val : Value), (∀ r ∈ v.refs, r < nx) → V.den (mutB M φ s.H) φ s.H w v val → V.den (mutB M φ (hp o nx)) φ (hp o nx) w v val := fun v val hr h =>
    V.den_refs (H := s.H) (H' := hp o nx) hB v val (fun id hid => ⟨(ho id (hr id hid)).symm, rfl, hr id hid⟩) h
  have hvals : ∀ (v : List V) (val : List Value), (∀ r ∈ V.refss v, r < nx) → V.dens (mutB M φ s.H) φ s.H w v val → V.dens (mutB M φ (hp o nx)) φ (hp o nx) w v val := fun v val hr h =>
    V.dens_refs (H := s.H) (H' := hp o nx) hB v val (fun id hid => ⟨(ho id (hr id hid)).symm, rfl, hr id hid⟩) h
  refine ⟨φ, ⟨fun id => ?_, fun id hu => hg.fresh id (by simpa [S.H] using hu), fun i j k h1 h2 h3 h4 => ?_, fun k hk => hH.ours k (hlive k hk), hH.old⟩, fun i => ?_, hlive, hb, fun id hid hr => ?_, fun id e' hid he' => ?_⟩
  · have hall := hH.ok id
    have hrefs := hg.refs id
    unfold ObjOk at hall ⊢
    by_cases hid : id < nx
    · have e : s.H.o id = o id := ho id hid
      rw [e] at hall
      simp only [S.H] at hall ⊢
      cases hx : o id with
      | no => trivial
      | row cs =>
        simp only [hx] at hall hrefs ⊢
        obtain ⟨b, carr, ty, k1, k2, k3, k4⟩ := hall
        exact ⟨b, carr, ty, k1, k2, hvals _ _ hrefs k3, k4⟩
      | arr ep ty sz es =>
        simp only [hx] at hall ⊢
        obtain ⟨k1, xs, k2, evs, k3, k4, k5⟩ := hall
        exact ⟨k1, xs, k2, evs, k3, k4, D.dens_mono (fun b _ hn => ⟨rfl, hB b hn⟩) _ _ k5⟩
      | fro ep es =>
        simp only [hx] at hall ⊢
        exact D.den_mono (fun b _ hn => ⟨rfl, hB b hn⟩) _ _ hall
      | map kt vt es =>
        simp only [hx] at hall ⊢
        obtain ⟨b, es', clock, k1, k2, k3⟩ := hall
        exact ⟨b, es', clock, k1, k2, EntsDen.mono (fun b _ hn => ⟨rfl, hB b hn⟩) _ _ k3⟩
      | loop nf n env ps a b st pd =>
        simp only [hx] at hall hrefs ⊢
        obtain ⟨b, r, k1, k2, k3, k4, k5, k6, k7, k8, k9, k10⟩ := hall
        exact ⟨b, r, k1, k2, k3, k4, k5, k6, k7, k8, k9, fun i => hval _ _ (fun r hr => hrefs r (V.refss_get _ _ r hr)) (k10 i)⟩
    · simp only [S.H]
      rw [hg.fresh id (by omega)]
      trivial
  · have hi : i < nx := hg.lt (fun e => by simp only [S.H] at h1; rw [e] at h1; cases h1)
    have hj : j < nx := hg.lt (fun e => by simp only [S.H] at h2; rw [e] at h2; cases h2)
    exact hH.apart i j k (by simp only [S.H]; rw [ho i hi]; exact h1) (by simp only [S.H]; rw [ho j hj]; exact h2) h3 h4
  · rcases he i with h | ⟨h1, h2⟩
    · simp only [h]; trivial
    · have := hd i
      rw [← h1] at this
      exact hval _ _ h2 this
  · have hlt : id < nx := by omega
    exact ⟨by rw [ho id hlt]; exact hr, rfl⟩
  · have hlt : id < nx := by omega
    exact ⟨e', by rw [ho id hlt]; exact he', Nat.le_refl _, fun _ => rfl⟩
def backE (nx : Nat) (env : Nat → V) : List V → Nat → Prop
  | [], _ => True
  | v :: l, i => (v = .junk ∨ (v = env i ∧ ∀ r ∈ v.refs, r < nx)) ∧ backE nx env l (i + 1)
theorem SLe.backL {b : Nat} {e : Nat → V} {so : Nat → Obj'} {m : Nat} (l : List V) {o : Nat → Obj'} {nx : Nat} (hb : b ≤ nx) (hn : nx ≤ m) (hg : Good o nx) (ho : ∀ id, id < nx → so id = o id) (he : backE nx e l 0) : SLe b ⟨e, so, m⟩ ⟨envJ l, o, nx⟩ := by
  refine SLe.back hb hn hg ho ?_
  have key : ∀ (l : List V) (i : Nat), backE nx e l i → ∀ j, envJ l j = .junk ∨ (envJ l j = e (i + j) ∧ ∀ r ∈ (envJ l j).refs, r < nx) := by
    intro l
    induction l with
    | nil => intro i _ j; rw [envJ_nil]; exact .inl rfl
    | cons v l ih =>
      intro i h j
      cases j with
      | zero => rw [envJ_zero]; exact h.1
      | succ j =>
        rw [envJ_succ]
        have := ih (i + 1) h.2 j
        rwa [show i + 1 + j = i + (j + 1) by omega] at this
  intro i
  have := key l 0 he i
  rwa [Nat.zero_add] at this
theorem backE_nil {nx : Nat} {env : Nat → V} {i : Nat} : backE nx env [] i := trivial
theorem backE_junk {nx : Nat} {env : Nat → V} {l : List V} {i : Nat} (h : backE nx env l (i + 1)) : backE nx env (.junk :: l) i := ⟨.inl rfl, h⟩
theorem backE_d {nx : Nat} {env : Nat → V} {l : List V} {i : Nat} {x : D} (he : env i = .d x) (h : backE nx env l (i + 1)) : backE nx env (.d x :: l) i := ⟨.inr ⟨he.symm, fun r hr => by simp [V.refs] at hr⟩, h⟩
theorem backE_v {nx : Nat} {env : Nat → V} {l : List V} {i : Nat} {v : V} (he : env i = v) (hr : ∀ r ∈ v.refs, r < nx) (h : backE nx env l (i + 1)) : backE nx env (v :: l) i := ⟨.inr ⟨he.symm, hr⟩, h⟩
theorem SLe.d0 {e : Nat → V} {so : Nat → Obj'} {m : Nat} (l : List V) (he : backE 0 e l 0) : SLe 0 ⟨e, so, m⟩ ⟨envJ l, fun _ => .no, 0⟩ := SLe.backL l (Nat.le_refl 0) (Nat.zero_le _) Good.nil (fun _ h => absurd h (Nat.not_lt_zero _)) he
theorem wrapN {k : Nat} (h : (k : Int) + 1 ≤ 9223372036854775807) : IntKind.i64.wrap ((k : Int) + 1) = ((k + 1 : Nat) : Int) := by rw [wrap64 (by omega) h]; rfl
theorem d_int {k : IntKind} {a b : Int} (h : a = b) : V.d (D.int k a) = V.d (D.int k b) := by rw [h]
theorem bn_t {b : Bool} (h : (!b) = true) : b = false := by cases b <;> simp_all
theorem bn_f {b : Bool} (h : (!b) = false) : b = true := by cases b <;> simp_all
theorem HCt.of_cto {P : Program} {g : FuncId} {args : List V} {rd : List Nat} {o : Nat → Obj'} {x : D} (nx : Nat) (hnx : rd.all (fun id => decide (id < nx)) = true) (hargs : ∀ id ∈ V.refss args, id ∈ rd) (hcl : ∀ id ∈ rd, ∀ j ∈ (o id).refs, j ∈ rd)
    (h : CtO P g args (rst rd o) (.d x)) : HCt P g args rd o (.ret [x]) [] := by
  have hlt : ∀ id ∈ rd, id < nx := fun id hid => by simpa using List.all_eq_true.1 hnx id hid
  have hin : ∀ id, id ∈ rd → rst rd o id = o id := fun id hid => by simp [rst, hid]
  have hout : ∀ id, id ∉ rd → rst rd o id = .no := fun id hid => by simp [rst, hid]
  have hgood : Good (rst rd o) nx := by
    refine ⟨fun id hid => hout id (fun hm => by have := hlt id hm; omega), fun id r hr => ?_⟩
    by_cases hid : id ∈ rd
    · rw [hin id hid] at hr; exact hlt r (hcl id hid r hr)
    · rw [hout id hid] at hr; cases hr
  refine HCt.of_ctk (nx := nx) hlt hargs hcl (fun x hx => by cases hx) (fun x hx => by cases hx) (h nx hgood _ _ fun o' nx' _ _ h3 => ⟨fun id hid => ?_, [.d x], [x], rfl, rfl, rfl, fun id hid => by simp [V.idss, V.ids] at hid⟩)
  rw [h3 id (hlt id hid), hin id hid]; rfl
theorem callDR_keep {P : Program} {g : FuncId} {K : KD} {X : XD} {o : Nat → Obj'} {nx fr : Nat} {all : List V} {rd : List Nat} {rs : List D} {Δ : List (Nat × Obj')} (hrd : rd.all (fun id => decide (id < nx)) = true) (h : HCt P g all rd o (.ret rs) Δ) (hk : K (retV rs) Δ rd) : callDR P g K X o nx fr all := by
  unfold callDR
  exact ⟨rd, Δ, hrd, .inl ⟨rs, h, hk⟩⟩
def fillD (c : List Int) (j : Nat) : List D := (c.take j).map (.int .i64) ++ List.replicate (c.length - j) (.int .i64 0)
theorem fillD_zero (c : List Int) : fillD c 0 = List.replicate c.length (.int .i64 0) := by simp [fillD]
theorem fillD_all (c : List Int) : fillD c c.length = c.map (.int .i64) := by simp [fillD]
theorem fillD_length (c : List Int) (j : Nat) (h : j ≤ c.length) : (fillD c j).length = c.length := by simp [fillD]; omega
theorem fillD_get (c : List Int) (j : Nat) (h : j < c.length) : (fillD c j)[j]? = some (.int .i64 0) := by
  simp only [fillD]
  rw [List.getElem?_append_right (by simp; omega)]
  simp
  rw [List.getElem?_replicate, if_pos (by omega)]
theorem fillD_set (c : List Int) (j : Nat) (v : Int) (h : c[j]? = some v) : (fillD c j).set j (.int .i64 v) = fillD c (j + 1) := by
  have hj : j < c.length := (List.getElem?_eq_some_iff.1 h).1
  apply List.ext_getElem?
  intro i
  rw [List.getElem?_set]
  by_cases e : j = i
  · subst e
    rw [if_pos rfl, if_pos (by rw [fillD_length _ _ (by omega)]; exact hj)]
    simp only [fillD]
    rw [List.getElem?_append_left (by simp; omega), List.getElem?_map, List.getElem?_take_of_lt (by omega), h]
    rfl
  · rw [if_neg e]
    simp only [fillD]
    by_cases hi : i < j
    · rw [List.getElem?_append_left (by simp; omega), List.getElem?_append_left (by simp; omega), List.getElem?_map, List.getElem?_map, List.getElem?_take_of_lt hi, List.getElem?_take_of_lt (by omega)]
    · rw [List.getElem?_append_right (by simp; omega), List.getElem?_append_right (by simp; omega)]
      simp only [List.length_map, List.length_take, List.getElem?_replicate]
      have e1 : min j c.length = j := by omega
      have e2 : min (j + 1) c.length = j + 1 := by omega
      rw [e1, e2]
      by_cases hlt : i - j < c.length - j
      · rw [if_pos hlt, if_pos (by omega)]
      · rw [if_neg hlt, if_neg (by omega)]
end Go.Proofs.Ytaafchgfibbmhaa
namespace Go.Proofs.Ytaafchgfibbmhaa
structure Row where
  c : List Int
  rel : Int
  b : Int
structure Rat where
  num : Int
  den : Int
structure Made where
  r : Row
  t : List Int
@[reducible] def Row.d (r : Row) : D := .agg [.sl (r.c.map .i), .i r.rel, .i r.b]
@[reducible] def Rat.d (r : Rat) : D := .agg [.i r.num, .i r.den]
@[reducible] def Made.d (m : Made) : D := .agg [.sl (m.r.c.map .i), .i m.r.rel, .i m.r.b, .sl (m.t.map .i)]
def inB (n low high : Int) : Bool := decide (low ≤ n) && decide (n ≤ high)
theorem every1_c (n most : Int) (id : Nat) (o : Nat → Obj') (ho : o id = .row [.d (.i most)]) (hm : -1000000000000 ≤ most ∧ most ≤ 1000000000000) :
    CtO Try.prog 109 [.d (.i n), .ptr id 0] o (.d (.bool (!inB n (-most) most))) := by
  have hw : IntKind.i64.wrap (-most) = -most := wrap64 (by omega) (by omega)
  intro nx hg K X hK
  refine CtK.of_ev mix fn109 (by simp) ?_
  rw [c109]
  simp +contextual only [go_sem, ho, hw]
  refine call_keep (within_c n (-most) most) rfl ?_
  simp +contextual only [go_sem]
  exact hK _ _ (by omega) (hg.mono (by omega)) (fun _ _ => rfl)
def firstI {α : Type} (l : List α) (p : α → Bool) : Int := match l.findIdx? p with | some k => k | none => -1
theorem firstI_any {α : Type} (l : List α) (p : α → Bool) : decide (0 ≤ firstI l p) = l.any p := by
  unfold firstI
  cases h : l.findIdx? p with
  | none =>
    rw [List.findIdx?_eq_none_iff] at h
    simp
    intro x hx; exact h x hx
  | some k =>
    rw [List.findIdx?_eq_some_iff_getElem] at h
    obtain ⟨h1, h2, _⟩ := h
    simp
    exact ⟨_, List.getElem_mem h1, h2⟩
theorem indexFunc126 (es : List Int) (p : Int → Bool) (g : Nat) (caps : List V) (o : Nat → Obj') (hc : ∀ r ∈ V.refss caps, o r ≠ .no) (hlen : es.length ≤ 9223372036854775807)
    (h : ∀ x ∈ es, CtO Try.prog g (.d (.i x) :: caps) o (.d (.bool (p x)))) : CtO Try.prog 126 [.d (.sl (es.map .i)), .func (.func g) [] caps] o (.d (.i (firstI es p))) := by
  intro nx hg K X hK
  have hcap : ∀ r ∈ V.refss caps, r < nx := fun r hr => hg.lt (hc r hr)
  refine CtK.of_ev mix fn126 (by simp) ?_
  rw [c126]
  simp +contextual only [go_sem]
  refine loop_fam (fun k : Nat => ⟨envJ [.d (.sl (es.map .i)), .func (.func g) [] caps, .junk, .junk, .junk, .junk, .junk, .d (.i es.length), .d (.i k)], o, nx⟩)
    (fun k => k ≤ es.length ∧ ∀ x ∈ es.take k, p x = false) (fun k => es.length - k) 0 ⟨Nat.zero_le _, by simp⟩
    (SLe.backL _ (Nat.le_refl _) (by omega) hg (fun _ _ => rfl) (backE_d rfl (backE_v rfl (by simpa [V.refs, V.refss] using hcap) (backE_junk (backE_junk (backE_junk (backE_junk (backE_junk (backE_d (by simp [upd_ne]) (backE_d (by simp) backE_nil)))))))))) (fun k hk => ?_)
  · simp +contextual only [go_sem]
    refine cond_intro (fun h1 => ?_) (fun h1 => ?_)
    · simp at h1
      obtain ⟨x, hx⟩ : ∃ x, es[k]? = some x := ⟨es[k], by simp [h1]⟩
      have hxm := List.mem_of_getElem? hx
      simp +contextual only [go_sem, hx, D.i]
      refine callS'_heap (h x hxm _ (hg.mono ?_) _ _ fun o' nx' n1 n2 n3 => ?_)
      · omega
      simp +contextual only [go_sem]
      refine cond_intro (fun h2 => ?_) (fun h2 => ?_)
      · simp +contextual only [go_sem]
        have hf : firstI es p = k := by
          unfold firstI
          have : es.findIdx? p = some k := by
            rw [List.findIdx?_eq_some_iff_getElem]
            refine ⟨h1, ?_, fun j hj => ?_⟩
            · have : es[k] = x := by
                rw [List.getElem?_eq_getElem h1] at hx
                injection hx
              rw [this]; exact h2
            · simp only [Bool.not_eq_true]
              exact hk.2 _ (List.mem_take_iff_getElem.2 ⟨j, by omega, rfl⟩)
          rw [this]
        rw [hf] at hK
        exact hK _ _ (by omega) (n2.mono (by omega)) (fun id hid => n3 id (by omega))
      · simp +contextual only [go_sem]
        refine nextS_intro (k + 1) ⟨h1, ?_⟩ (by omega) (SLe.backL _ (Nat.le_refl _) (by omega) hg (fun id hid => n3 id (by omega)) (backE_d rfl (backE_v rfl (by simpa [V.refs, V.refss] using hcap) (backE_junk (backE_junk (backE_junk (backE_junk (backE_junk (backE_d (by simp [upd_ne]; rfl) (backE_d ?_ backE_nil))))))))))
        · intro y hy
          rw [List.take_add_one, hx] at hy
          simp only [Option.toList_some, List.mem_append, List.mem_singleton] at hy
          rcases hy with hy | rfl
          · exact hk.2 y hy
          · exact h2
        · simp
          rw [wrap64 (by omega) (by omega)]
    · simp +contextual only [go_sem]
      simp at h1
      have hf : firstI es p = -1 := by
        unfold firstI
        have : es.findIdx? p = none := by
          rw [List.findIdx?_eq_none_iff]
          intro x hx
          exact hk.2 x (by rw [List.take_of_length_le (by omega)]; exact hx)
        rw [this]
      rw [hf] at hK
      exact hK _ _ (by omega) (hg.mono (by omega)) (fun _ _ => rfl)
theorem containsFunc108 (es : List Int) (p : Int → Bool) (g : Nat) (caps : List V) (o : Nat → Obj') (hc : ∀ r ∈ V.refss caps, o r ≠ .no) (hlen : es.length ≤ 9223372036854775807)
    (h : ∀ x ∈ es, CtO Try.prog g (.d (.i x) :: caps) o (.d (.bool (p x)))) : CtO Try.prog 108 [.d (.sl (es.map .i)), .func (.func g) [] caps] o (.d (.bool (es.any p))) := by
  intro nx hg K X hK
  refine CtK.of_ev mix fn108 (by simp) ?_
  rw [c108]
  simp +contextual only [go_sem]
  refine callR_heap (indexFunc126 es p g caps o hc hlen h _ (hg.mono ?_) _ _ fun o' nx' n1 n2 n3 => ?_)
  · omega
  simp +contextual only [go_sem]
  rw [firstI_any]
  exact hK _ _ (by omega) (n2.mono (by omega)) (fun id hid => n3 id (by omega))
theorem indexFunc83 (es : List Row) (p : Row → Bool) (g : Nat) (caps : List V) (o : Nat → Obj') (hc : ∀ r ∈ V.refss caps, o r ≠ .no) (hlen : es.length ≤ 9223372036854775807)
    (h : ∀ x ∈ es, CtO Try.prog g (.d (Row.d x) :: caps) o (.d (.bool (p x)))) : CtO Try.prog 83 [.d (.sl (es.map Row.d)), .func (.func g) [] caps] o (.d (.i (firstI es p))) := by
  intro nx hg K X hK
  have hcap : ∀ r ∈ V.refss caps, r < nx := fun r hr => hg.lt (hc r hr)
  refine CtK.of_ev mix fn83 (by simp) ?_
  rw [c83]
  simp +contextual only [go_sem]
  refine loop_fam (fun k : Nat => ⟨envJ [.d (.sl (es.map Row.d)), .func (.func g) [] caps, .junk, .junk, .junk, .junk, .junk, .d (.i es.length), .d (.i k)], o, nx⟩)
    (fun k => k ≤ es.length ∧ ∀ x ∈ es.take k, p x = false) (fun k => es.length - k) 0 ⟨Nat.zero_le _, by simp⟩
    (SLe.backL _ (Nat.le_refl _) (by omega) hg (fun _ _ => rfl) (backE_d rfl (backE_v rfl (by simpa [V.refs, V.refss] using hcap) (backE_junk (backE_junk (backE_junk (backE_junk (backE_junk (backE_d (by simp [upd_ne]) (backE_d (by simp) backE_nil)))))))))) (fun k hk => ?_)
  · simp +contextual only [go_sem]
    refine cond_intro (fun h1 => ?_) (fun h1 => ?_)
    · simp at h1
      obtain ⟨x, hx⟩ : ∃ x, es[k]? = some x := ⟨es[k], by simp [h1]⟩
      have hxm := List.mem_of_getElem? hx
      simp +contextual only [go_sem, hx, Row.d, D.i]
      refine callS'_heap (h x hxm _ (hg.mono ?_) _ _ fun o' nx' n1 n2 n3 => ?_)
      · omega
      simp +contextual only [go_sem]
      refine cond_intro (fun h2 => ?_) (fun h2 => ?_)
      · simp +contextual only [go_sem]
        have hf : firstI es p = k := by
          unfold firstI
          have : es.findIdx? p = some k := by
            rw [List.findIdx?_eq_some_iff_getElem]
            refine ⟨h1, ?_, fun j hj => ?_⟩
            · have : es[k] = x := by
                rw [List.getElem?_eq_getElem h1] at hx
                injection hx
              rw [this]; exact h2
            · simp only [Bool.not_eq_true]
              exact hk.2 _ (List.mem_take_iff_getElem.2 ⟨j, by omega, rfl⟩)
          rw [this]
        rw [hf] at hK
        exact hK _ _ (by omega) (n2.mono (by omega)) (fun id hid => n3 id (by omega))
      · simp +contextual only [go_sem]
        refine nextS_intro (k + 1) ⟨h1, ?_⟩ (by omega) (SLe.backL _ (Nat.le_refl _) (by omega) hg (fun id hid => n3 id (by omega)) (backE_d rfl (backE_v rfl (by simpa [V.refs, V.refss] using hcap) (backE_junk (backE_junk (backE_junk (backE_junk (backE_junk (backE_d (by simp [upd_ne]; rfl) (backE_d ?_ backE_nil))))))))))
        · intro y hy
          rw [List.take_add_one, hx] at hy
          simp only [Option.toList_some, List.mem_append, List.mem_singleton] at hy
          rcases hy with hy | rfl
          · exact hk.2 y hy
          · exact h2
        · simp
          rw [wrap64 (by omega) (by omega)]
    · simp +contextual only [go_sem]
      simp at h1
      have hf : firstI es p = -1 := by
        unfold firstI
        have : es.findIdx? p = none := by
          rw [List.findIdx?_eq_none_iff]
          intro x hx
          exact hk.2 x (by rw [List.take_of_length_le (by omega)]; exact hx)
        rw [this]
      rw [hf] at hK
      exact hK _ _ (by omega) (hg.mono (by omega)) (fun _ _ => rfl)
theorem containsFunc50 (es : List Row) (p : Row → Bool) (g : Nat) (caps : List V) (o : Nat → Obj') (hc : ∀ r ∈ V.refss caps, o r ≠ .no) (hlen : es.length ≤ 9223372036854775807)
    (h : ∀ x ∈ es, CtO Try.prog g (.d (Row.d x) :: caps) o (.d (.bool (p x)))) : CtO Try.prog 50 [.d (.sl (es.map Row.d)), .func (.func g) [] caps] o (.d (.bool (es.any p))) := by
  intro nx hg K X hK
  refine CtK.of_ev mix fn50 (by simp) ?_
  rw [c50]
  simp +contextual only [go_sem]
  refine callR_heap (indexFunc83 es p g caps o hc hlen h _ (hg.mono ?_) _ _ fun o' nx' n1 n2 n3 => ?_)
  · omega
  simp +contextual only [go_sem]
  rw [firstI_any]
  exact hK _ _ (by omega) (n2.mono (by omega)) (fun id hid => n3 id (by omega))
theorem indexFunc82 (es : List Rat) (p : Rat → Bool) (g : Nat) (caps : List V) (o : Nat → Obj') (hc : ∀ r ∈ V.refss caps, o r ≠ .no) (hlen : es.length ≤ 9223372036854775807)
    (h : ∀ x ∈ es, CtO Try.prog g (.d (Rat.d x) :: caps) o (.d (.bool (p x)))) : CtO Try.prog 82 [.d (.sl (es.map Rat.d)), .func (.func g) [] caps] o (.d (.i (firstI es p))) := by
  intro nx hg K X hK
  have hcap : ∀ r ∈ V.refss caps, r < nx := fun r hr => hg.lt (hc r hr)
  refine CtK.of_ev mix fn82 (by simp) ?_
  rw [c82]
  simp +contextual only [go_sem]
  refine loop_fam (fun k : Nat => ⟨envJ [.d (.sl (es.map Rat.d)), .func (.func g) [] caps, .junk, .junk, .junk, .junk, .junk, .d (.i es.length), .d (.i k)], o, nx⟩)
    (fun k => k ≤ es.length ∧ ∀ x ∈ es.take k, p x = false) (fun k => es.length - k) 0 ⟨Nat.zero_le _, by simp⟩
    (SLe.backL _ (Nat.le_refl _) (by omega) hg (fun _ _ => rfl) (backE_d rfl (backE_v rfl (by simpa [V.refs, V.refss] using hcap) (backE_junk (backE_junk (backE_junk (backE_junk (backE_junk (backE_d (by simp [upd_ne]) (backE_d (by simp) backE_nil)))))))))) (fun k hk => ?_)
  · simp +contextual only [go_sem]
    refine cond_intro (fun h1 => ?_) (fun h1 => ?_)
    · simp at h1
      obtain ⟨x, hx⟩ : ∃ x, es[k]? = some x := ⟨es[k], by simp [h1]⟩
      have hxm := List.mem_of_getElem? hx
      simp +contextual only [go_sem, hx, Rat.d, D.i]
      refine callS'_heap (h x hxm _ (hg.mono ?_) _ _ fun o' nx' n1 n2 n3 => ?_)
      · omega
      simp +contextual only [go_sem]
      refine cond_intro (fun h2 => ?_) (fun h2 => ?_)
      · simp +contextual only [go_sem]
        have hf : firstI es p = k := by
          unfold firstI
          have : es.findIdx? p = some k := by
            rw [List.findIdx?_eq_some_iff_getElem]
            refine ⟨h1, ?_, fun j hj => ?_⟩
            · have : es[k] = x := by
                rw [List.getElem?_eq_getElem h1] at hx
                injection hx
              rw [this]; exact h2
            · simp only [Bool.not_eq_true]
              exact hk.2 _ (List.mem_take_iff_getElem.2 ⟨j, by omega, rfl⟩)
          rw [this]
        rw [hf] at hK
        exact hK _ _ (by omega) (n2.mono (by omega)) (fun id hid => n3 id (by omega))
      · simp +contextual only [go_sem]
        refine nextS_intro (k + 1) ⟨h1, ?_⟩ (by omega) (SLe.backL _ (Nat.le_refl _) (by omega) hg (fun id hid => n3 id (by omega)) (backE_d rfl (backE_v rfl (by simpa [V.refs, V.refss] using hcap) (backE_junk (backE_junk (backE_junk (backE_junk (backE_junk (backE_d (by simp [upd_ne]; rfl) (backE_d ?_ backE_nil))))))))))
        · intro y hy
          rw [List.take_add_one, hx] at hy
          simp only [Option.toList_some, List.mem_append, List.mem_singleton] at hy
          rcases hy with hy | rfl
          · exact hk.2 y hy
          · exact h2
        · simp
          rw [wrap64 (by omega) (by omega)]
    · simp +contextual only [go_sem]
      simp at h1
      have hf : firstI es p = -1 := by
        unfold firstI
        have : es.findIdx? p = none := by
          rw [List.findIdx?_eq_none_iff]
          intro x hx
          exact hk.2 x (by rw [List.take_of_length_le (by omega)]; exact hx)
        rw [this]
      rw [hf] at hK
      exact hK _ _ (by omega) (hg.mono (by omega)) (fun _ _ => rfl)
theorem containsFunc46 (es : List Rat) (p : Rat → Bool) (g : Nat) (caps : List V) (o : Nat → Obj') (hc : ∀ r ∈ V.refss caps, o r ≠ .no) (hlen : es.length ≤ 9223372036854775807)
    (h : ∀ x ∈ es, CtO Try.prog g (.d (Rat.d x) :: caps) o (.d (.bool (p x)))) : CtO Try.prog 46 [.d (.sl (es.map Rat.d)), .func (.func g) [] caps] o (.d (.bool (es.any p))) := by
  intro nx hg K X hK
  refine CtK.of_ev mix fn46 (by simp) ?_
  rw [c46]
  simp +contextual only [go_sem]
  refine callR_heap (indexFunc82 es p g caps o hc hlen h _ (hg.mono ?_) _ _ fun o' nx' n1 n2 n3 => ?_)
  · omega
  simp +contextual only [go_sem]
  rw [firstI_any]
  exact hK _ _ (by omega) (n2.mono (by omega)) (fun id hid => n3 id (by omega))
theorem indexFunc113 (es : List Made) (p : Made → Bool) (g : Nat) (caps : List V) (o : Nat → Obj') (hc : ∀ r ∈ V.refss caps, o r ≠ .no) (hlen : es.length ≤ 9223372036854775807)
    (h : ∀ x ∈ es, CtO Try.prog g (.d (Made.d x) :: caps) o (.d (.bool (p x)))) : CtO Try.prog 113 [.d (.sl (es.map Made.d)), .func (.func g) [] caps] o (.d (.i (firstI es p))) := by
  intro nx hg K X hK
  have hcap : ∀ r ∈ V.refss caps, r < nx := fun r hr => hg.lt (hc r hr)
  refine CtK.of_ev mix fn113 (by simp) ?_
  rw [c113]
  simp +contextual only [go_sem]
  refine loop_fam (fun k : Nat => ⟨envJ [.d (.sl (es.map Made.d)), .func (.func g) [] caps, .junk, .junk, .junk, .junk, .junk, .d (.i es.length), .d (.i k)], o, nx⟩)
    (fun k => k ≤ es.length ∧ ∀ x ∈ es.take k, p x = false) (fun k => es.length - k) 0 ⟨Nat.zero_le _, by simp⟩
    (SLe.backL _ (Nat.le_refl _) (by omega) hg (fun _ _ => rfl) (backE_d rfl (backE_v rfl (by simpa [V.refs, V.refss] using hcap) (backE_junk (backE_junk (backE_junk (backE_junk (backE_junk (backE_d (by simp [upd_ne]) (backE_d (by simp) backE_nil)))))))))) (fun k hk => ?_)
  · simp +contextual only [go_sem]
    refine cond_intro (fun h1 => ?_) (fun h1 => ?_)
    · simp at h1
      obtain ⟨x, hx⟩ : ∃ x, es[k]? = some x := ⟨es[k], by simp [h1]⟩
      have hxm := List.mem_of_getElem? hx
      simp +contextual only [go_sem, hx, Made.d, D.i]
      refine callS'_heap (h x hxm _ (hg.mono ?_) _ _ fun o' nx' n1 n2 n3 => ?_)
      · omega
      simp +contextual only [go_sem]
      refine cond_intro (fun h2 => ?_) (fun h2 => ?_)
      · simp +contextual only [go_sem]
        have hf : firstI es p = k := by
          unfold firstI
          have : es.findIdx? p = some k := by
            rw [List.findIdx?_eq_some_iff_getElem]
            refine ⟨h1, ?_, fun j hj => ?_⟩
            · have : es[k] = x := by
                rw [List.getElem?_eq_getElem h1] at hx
                injection hx
              rw [this]; exact h2
            · simp only [Bool.not_eq_true]
              exact hk.2 _ (List.mem_take_iff_getElem.2 ⟨j, by omega, rfl⟩)
          rw [this]
        rw [hf] at hK
        exact hK _ _ (by omega) (n2.mono (by omega)) (fun id hid => n3 id (by omega))
      · simp +contextual only [go_sem]
        refine nextS_intro (k + 1) ⟨h1, ?_⟩ (by omega) (SLe.backL _ (Nat.le_refl _) (by omega) hg (fun id hid => n3 id (by omega)) (backE_d rfl (backE_v rfl (by simpa [V.refs, V.refss] using hcap) (backE_junk (backE_junk (backE_junk (backE_junk (backE_junk (backE_d (by simp [upd_ne]; rfl) (backE_d ?_ backE_nil))))))))))
        · intro y hy
          rw [List.take_add_one, hx] at hy
          simp only [Option.toList_some, List.mem_append, List.mem_singleton] at hy
          rcases hy with hy | rfl
          · exact hk.2 y hy
          · exact h2
        · simp
          rw [wrap64 (by omega) (by omega)]
    · simp +contextual only [go_sem]
      simp at h1
      have hf : firstI es p = -1 := by
        unfold firstI
        have : es.findIdx? p = none := by
          rw [List.findIdx?_eq_none_iff]
          intro x hx
          exact hk.2 x (by rw [List.take_of_length_le (by omega)]; exact hx)
        rw [this]
      rw [hf] at hK
      exact hK _ _ (by omega) (hg.mono (by omega)) (fun _ _ => rfl)
end Go.Proofs.Ytaafchgfibbmhaa
namespace Go.Proofs.Ytaafchgfibbmhaa
theorem every_c (l : List Int) (most : Int) (hl : l.length ≤ 9223372036854775807) (hm : -1000000000000 ≤ most ∧ most ≤ 1000000000000) : PCt Try.prog 77 [.sl (l.map .i), .i most] (.ret [.bool (allF l most)]) := by
  refine PCt.of_ev mix fn77 (by simp) ?_
  rw [c77]
  simp +contextual only [go_sem]
  refine callR_heap (containsFunc108 l (fun x => !inB x (-most) most) 109 [.ptr 0 0] _ (fun r hr => ?_) hl (fun x _ => every1_c x most 0 _ rfl hm) _ ?_ _ _ fun o' nx' n1 n2 n3 => ?_)
  · simp [V.refss, V.refs] at hr; subst hr; simp
  · exact Good.upd Good.nil (by decide) rfl
  simp +contextual only [go_sem]
  congr 3
  simp only [allF, inB]
  rw [Bool.eq_iff_iff]
  simp [List.all_eq_true]
def formedF (r : Row) (vars most : Int) : Bool := ((r.c.length : Int) == vars) && inB r.rel 1 3 && allF r.c most && inB r.b (-most) most
theorem formed_c (r : Row) (vars most : Int) (hl : r.c.length ≤ 9223372036854775807) (hm : -1000000000000 ≤ most ∧ most ≤ 1000000000000) : PCt Try.prog 52 [r.d, .i vars, .i most] (.ret [.bool (formedF r vars most)]) := by
  have hw : IntKind.i64.wrap (-most) = -most := wrap64 (by omega) (by omega)
  refine PCt.of_ev mix fn52 (by simp) ?_
  rw [c52]
  simp +contextual only [go_sem]
  refine guard_data (callG_intro [.bool (inB r.rel 1 3)] ?_ ?_)
  · simp +contextual only [go_sem]
    exact fun _ => within_c _ _ _
  simp +contextual only [go_sem]
  refine guard_data (callG_intro [.bool (allF r.c most)] ?_ ?_)
  · simp +contextual only [go_sem]
    exact fun _ => every_c _ _ hl hm
  simp +contextual only [go_sem, hw]
  refine guard_data (callG_intro [.bool (inB r.b (-most) most)] ?_ ?_)
  · simp +contextual only [go_sem]
    exact fun _ => within_c _ _ _
  simp +contextual only [go_sem]
  rfl
structure Sys where
  vars : Int
  rows : List Row
@[reducible] def Sys.d (s : Sys) : D := .agg [.i s.vars, .sl (s.rows.map Row.d)]
structure Sys.Fits (s : Sys) : Prop where
  rows : s.rows.length ≤ 9223372036854775807
  cs : ∀ r ∈ s.rows, r.c.length ≤ 9223372036854775807
theorem check1_c (s : Sys) (hs : s.Fits) (r : Row) (hr : r ∈ s.rows) (id : Nat) (o : Nat → Obj') (ho : o id = .row [.d (.i s.vars), .d (.sl (s.rows.map Row.d))]) :
    CtO Try.prog 51 [.d r.d, .ptr id 0] o (.d (.bool (!formedF r s.vars 1000))) := by
  intro nx hg K X hK
  have hid : id < nx := hg.lt (by rw [ho]; exact Obj'.noConfusion)
  have hne : id ≠ nx := by omega
  refine CtK.of_ev mix fn51 (by simp) ?_
  rw [c51]
  simp +contextual only [go_sem, ho, hne]
  refine call_keep (formed_c r s.vars 1000 (hs.cs r hr) (by omega)) rfl ?_
  simp +contextual only [go_sem]
  exact hK _ _ (by omega) ((hg.mono (by omega)).upd (by omega) rfl) (fun i hi => upd_ne _ _ _ _ (by omega))
def checkF (s : Sys) : Bool := inB s.vars 1 5 && decide ((s.rows.length : Int) ≤ 10) && s.rows.all (fun r => formedF r s.vars 1000)
theorem check_c (s : Sys) (hs : s.Fits) : PCt Try.prog 14 [s.d] (.ret [.i (if checkF s = true then 0 else 2)]) := by
  refine PCt.of_ev mix fn14 (by simp) ?_
  rw [c14]
  simp +contextual only [go_sem]
  refine call_keep (within_c _ _ _) rfl ?_
  simp +contextual only [go_sem]
  refine guard_split (cond_intro (fun h1 => ?_) (fun h1 => ?_))
  · have h1' := bn_t h1
    simp +contextual only [go_sem, h1]
    refine callR_heap (containsFunc50 s.rows (fun r => !formedF r s.vars 1000) 51 [.ptr 0 0] _ (fun r hr => ?_) hs.rows (fun x hx => check1_c s hs x hx 0 _ rfl) _ ?_ _ _ fun o' nx' n1 n2 n3 => ?_)
    · simp [V.refss, V.refs] at hr; subst hr; simp
    · exact Good.upd Good.nil (by decide) rfl
    simp +contextual only [go_sem, h1, h1']
    refine cond_intro (fun h2 => ?_) (fun h2 => ?_)
    · simp +contextual only [go_sem]
      have : checkF s = false := by
        have h3 : s.rows.all (fun r => formedF r s.vars 1000) = false := by
          simpa [List.all_eq_false, h1] using h2
        simp [checkF, h3]
      rw [this]; rfl
    · simp +contextual only [go_sem]
      have : checkF s = true := by
        simp [inB] at h1 h2
        simp [checkF, inB]
        exact ⟨⟨h1.1, by omega⟩, h2⟩
      rw [this]; rfl
  · have h1' := bn_f h1
    simp +contextual only [go_sem, h1, h1']
    have : checkF s = false := by
      simp at h1
      simp [checkF, inB]
      omega
    rw [this]; rfl
def gcdL (l : List Int) : Nat := l.foldl (fun g n => Nat.gcd g n.natAbs) 0
theorem divisor_c (l : List Int) (hl : l.length ≤ 9223372036854775807) (hb : ∀ n ∈ l, -9223372036854775807 ≤ n ∧ n ≤ 9223372036854775807) : PCt Try.prog 54 [.sl (l.map .i)] (.ret [.i (gcdL l)]) := by
  refine PCt.of_ev mix fn54 (by simp) ?_
  rw [c54]
  simp +contextual only [go_sem]
  refine loop_fam (fun k : Nat => ⟨envJ [.d (.sl (l.map .i)), .junk, .junk, .d (.i (gcdL (l.take k))), .junk, .junk, .d (.sl (l.map .i)), .d (.i l.length), .d (.i k)], fun _ => .no, 0⟩)
    (fun k => k ≤ l.length) (fun k => l.length - k) 0 (Nat.zero_le _) (SLe.d0 _ ?_) (fun k hk => ?_)
  · (repeat (first | exact backE_nil | refine backE_junk ?_ | refine backE_d rfl ?_ | refine backE_d (d_int (wrapN (by omega))) ?_))
  simp +contextual only [go_sem]
  refine cond_intro (fun h1 => ?_) (fun h1 => ?_)
  · simp at h1
    obtain ⟨x, hx⟩ : ∃ x, l[k]? = some x := ⟨l[k], by simp [h1]⟩
    have hxb := hb x (List.mem_of_getElem? hx)
    simp +contextual only [go_sem, hx, D.i]
    refine loop_fam (fun p : Nat × Nat => ⟨envJ [.d (.sl (l.map .i)), .junk, .junk, .d (.i p.1), .junk, .d (.i p.2), .d (.sl (l.map .i)), .d (.i l.length), .d (.i k)], fun _ => .no, 0⟩)
      (fun p => Nat.gcd p.1 p.2 = Nat.gcd (gcdL (l.take k)) x.natAbs) (fun p => p.2) (gcdL (l.take k), x.natAbs) rfl (SLe.d0 _ ?_) (fun p hp => ?_)
    · (repeat (first | exact backE_nil | refine backE_junk ?_ | refine backE_d rfl ?_ | refine backE_d (d_int (wrapN (by omega))) ?_))
      refine backE_d (d_int ?_) ?_
      · show (if IntKind.i64.wrap (-x) > x then IntKind.i64.wrap (-x) else x) = _
        rw [wrap64 (by omega) (by omega)]
        simp only
        split <;> omega
      · (repeat (first | exact backE_nil | refine backE_junk ?_ | refine backE_d rfl ?_ | refine backE_d (d_int (wrapN (by omega))) ?_))
    · simp +contextual only [go_sem]
      refine cond_intro (fun h2 => ?_) (fun h2 => ?_)
      · simp at h2
        have h' : ¬ ((p.2 : Int) = 0) := by omega
        simp +contextual only [go_sem, h', if_false]
        refine end_intro (by decide) ?_
        simp +contextual only [go_sem]
        refine nextS_intro (p.2, p.1 % p.2) ?_ (Nat.mod_lt _ (by omega)) (SLe.d0 _ ?_)
        · rw [← hp]; simp only
          rw [Nat.gcd_comm p.1 p.2, Nat.gcd_rec p.2 p.1, Nat.gcd_comm]
        · refine backE_d rfl (backE_junk (backE_junk (backE_d rfl (backE_junk (backE_d (d_int (Int.ofNat_tmod p.1 p.2)) ?_)))))
          (repeat (first | exact backE_nil | refine backE_junk ?_ | refine backE_d rfl ?_ | refine backE_d (d_int (wrapN (by omega))) ?_))
      · simp at h2
        simp +contextual only [go_sem]
        refine nextS_intro (k + 1) h1 (by omega) (SLe.d0 _ ?_)
        refine backE_d rfl (backE_junk (backE_junk (backE_d (d_int ?_) ?_)))
        · have : gcdL (l.take (k + 1)) = p.1 := by
            rw [List.take_add_one, hx]
            simp only [gcdL, Option.toList_some, List.foldl_append, List.foldl_cons, List.foldl_nil]
            have := hp
            rw [h2, Nat.gcd_zero_right] at this
            exact this.symm
          rw [this]
        · (repeat (first | exact backE_nil | refine backE_junk ?_ | refine backE_d rfl ?_ | refine backE_d (d_int (wrapN (by omega))) ?_))
  · simp +contextual only [go_sem]
    simp at h1
    rw [List.take_of_length_le (by omega)]
end Go.Proofs.Ytaafchgfibbmhaa
namespace Go.Proofs.Ytaafchgfibbmhaa
def ratF (r : Rat) (most : Int) : Bool := inB r.den 1 most && inB r.num (-most) most && decide (Int.gcd r.num r.den = 1)
theorem gcdL_two (a b : Int) : gcdL [a, b] = Int.gcd a b := by simp [gcdL, Int.gcd]
theorem fine_c (r : Rat) (most : Int) (hm : 0 ≤ most ∧ most ≤ 1000000000000) : PCt Try.prog 85 [r.d, .i most] (.ret [.bool (ratF r most)]) := by
  have hw : IntKind.i64.wrap (-most) = -most := wrap64 (by omega) (by omega)
  refine PCt.of_ev mix fn85 (by simp) ?_
  rw [c85]
  simp +contextual only [go_sem]
  refine call_keep (within_c _ _ _) rfl ?_
  simp +contextual only [go_sem, hw]
  refine guard_data (callG_intro [.bool (inB r.num (-most) most)] ?_ ?_)
  · simp +contextual only [go_sem]
    exact fun _ => within_c _ _ _
  simp +contextual only [go_sem]
  refine cond_intro (fun h1 => ?_) (fun h1 => ?_)
  · simp +contextual only [go_sem, h1]
    refine call_keep (divisor_c [r.num, r.den] (by simp) (fun n hn => ?_)) rfl ?_
    · simp [inB] at h1
      simp at hn
      rcases hn with rfl | rfl <;> omega
    simp +contextual only [go_sem, h1]
    have : ratF r most = ((gcdL [r.num, r.den] : Int) == 1) := by
      have h1' : (inB r.den 1 most && inB r.num (-most) most) = true := h1
      rw [ratF, h1', gcdL_two, Bool.true_and, Bool.eq_iff_iff]
      simp
      omega
    rw [this]
  · simp +contextual only [go_sem, h1]
    have : ratF r most = false := by
      have h1' : (inB r.den 1 most && inB r.num (-most) most) = false := h1
      rw [ratF, h1', Bool.false_and]
    rw [this]
theorem point1_c (r : Rat) (o : Nat → Obj') : CtO Try.prog 84 [.d r.d] o (.d (.bool (!ratF r 100))) := by
  intro nx hg K X hK
  refine CtK.of_ev mix fn84 (by simp) ?_
  rw [c84]
  simp +contextual only [go_sem]
  refine call_keep (fine_c r 100 (by omega)) rfl ?_
  simp +contextual only [go_sem]
  exact hK _ _ (by omega) ((hg.mono (by omega)).upd (by omega) rfl) (fun i hi => upd_ne _ _ _ _ (by omega))
def pointF (s : Sys) (p : List Rat) : Bool := ((p.length : Int) == s.vars) && p.all (fun r => ratF r 100)
theorem point_c (s : Sys) (p : List Rat) (hp : p.length ≤ 9223372036854775807) : PCt Try.prog 53 [s.d, .sl (p.map Rat.d)] (.ret [.bool (pointF s p)]) := by
  refine PCt.of_ev mix fn53 (by simp) ?_
  rw [c53]
  simp +contextual only [go_sem]
  refine guard_split (cond_intro (fun h1 => ?_) (fun h1 => ?_))
  · simp +contextual only [go_sem, h1]
    refine callR_heap (containsFunc46 p (fun r => !ratF r 100) 84 [] _ (fun r hr => by cases hr) hp (fun x hx => point1_c x _) _ ?_ _ _ fun o' nx' n1 n2 n3 => ?_)
    · exact Good.upd Good.nil (by decide) rfl
    simp +contextual only [go_sem, h1]
    have : pointF s p = !p.any (fun r => !ratF r 100) := by
      rw [pointF, h1, Bool.true_and, Bool.eq_iff_iff]
      simp [List.all_eq_true]
    rw [this]
  · simp +contextual only [go_sem, h1]
    have : pointF s p = false := by rw [pointF, h1, Bool.false_and]
    rw [this]
def relF (a rel b : Int) : Bool := if rel = 1 then decide (a ≤ b) else if rel = 2 then decide (a < b) else a == b
theorem related_c (a rel b : Int) : PCt Try.prog 55 [.i a, .i rel, .i b] (.ret [.bool (relF a rel b)]) := by
  refine PCt.of_ev mix fn55 (by simp) ?_
  rw [c55]
  simp +contextual only [go_sem]
  refine cond_intro (fun h1 => ?_) (fun h1 => ?_)
  · simp +contextual only [go_sem]
    simp at h1
    rw [relF, if_pos h1]
  · simp +contextual only [go_sem]
    refine cond_intro (fun h2 => ?_) (fun h2 => ?_)
    · simp +contextual only [go_sem]
      simp at h1 h2
      rw [relF, if_neg h1, if_pos h2]
    · simp +contextual only [go_sem]
      simp at h1 h2
      rw [relF, if_neg h1, if_neg h2]
end Go.Proofs.Ytaafchgfibbmhaa
