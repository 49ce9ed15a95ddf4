/-
  A PART OF THE PROOF. Conditions: none.
-/
import Derived.Test.YtealblliddhgiaaGreatSb9
set_option linter.unusedSimpArgs false
set_option linter.unusedVariables false
namespace Go.Proofs.YtealblliddhgiaaGreat
section
variable {P : Program} {M : Nat -> Prop} {φ φ0 : Place} {H0 : Hp} {w w' w0 : World} {n : Nat} {s : S} {us : Nat -> Prop} {a : Act} {cx : Cx} {ro : Option Nat} {k : Nat}
variable {Q : Exit -> Act -> World -> Prop}
theorem draw_tail {ops : Array Oper} {po : Nat -> Nat -> Prop} {m : Nat} {X : V -> S -> Prop} {K : S -> Prop}
 (hpr : ∀ k, k < ops.size -> ∀ j ∈ predsOf ops k, j < k)
 (hpo : ∀ E : Nat -> Bool, (∀ k, k < ops.size -> E k = true -> ∀ j ∈ predsOf ops k, E j = true) -> ∀ k, k < ops.size -> (∀ j ∈ predsOf ops k, E j = true) -> ∀ j, po k j -> E j = true)
 (htail : ∀ k, m <= k -> k < ops.size -> ∀ j, j < k -> po k j)
 (hK : ∀ s φ a w, K s -> SimC M φ0 H0 w0 n cx φ s a w -> Q .normal a w)
 (hX : ∀ v s' φ' a' w' val, X v s' -> SimC M φ0 H0 w0 n cx φ' s' a' w' -> V.den (mutB M φ' s'.H) φ' s'.H w' v val -> Q (.panic [{ v := val, recovered := false }]) a' w') :
 ∀ (d t : Nat) (s : S) (φ : Place) (listed : Array Bool) (a : Act) (w : World), t + d = ops.size -> listed.size = ops.size -> (∀ k, k < ops.size -> listed.getD k false = decide (k < t)) -> m <= t ->
  SimC M φ0 H0 w0 n cx φ s a w -> regW P n ops X K (ops.toList.drop t) s -> wpAnyIn (FWr ro) k P .any ops Q d listed a w := by
 intro d
 induction d with
 | zero =>
   intro t s φ listed a w ht hsz hl hmt hs h
   have e : t = ops.size := by omega
   subst e
   refine ⟨?_, ?_⟩
   ·rw [List.eq_nil_iff_forall_not_mem]
    intro j hj
    obtain ⟨h1, o, h2, _⟩ := mem_ready.1 hj
    have hjN : j < ops.size := (Array.getElem?_eq_some_iff.1 h2).1
    have := hl j hjN
    simp only [Array.getD_eq_getD_getElem?] at this h1
    rw [Array.getElem?_eq_getElem (by omega)] at this h1
    simp only [Option.getD_some] at this h1
    rw [h1] at this
    simp [hjN] at this
   ·rw [List.drop_eq_nil_of_le (by simp)] at h
    exact hK s φ a w h hs
 | succ d ih =>
   intro t s φ listed a w ht hsz hl hmt hs h
   have htN : t < ops.size := by omega
   refine ⟨fun hr => ?_, fun i hi => ?_⟩
   ·have := all_listed hpr hsz hr t htN
    rw [hl t htN] at this
    simp at this
   ·obtain ⟨h1, o, h2, h3⟩ := mem_ready.1 hi
    have hiN : i < ops.size := (Array.getElem?_eq_some_iff.1 h2).1
    have hni : listed.getD i false = false := by
     simp only [Array.getD_eq_getD_getElem?] at h1 ⊢
     rw [Array.getElem?_eq_getElem (by omega)] at h1 ⊢
     simpa using h1
    have hit : t <= i := by
     have := hl i hiN
     rw [hni] at this
     have := of_decide_eq_false this.symm
     omega
    have hpi : ∀ j ∈ predsOf ops i, listed.getD j false = true := by
     intro j hj
     simp only [predsOf, h2, List.mem_map, List.mem_filter] at hj
     obtain ⟨e, ⟨he, hb⟩, rfl⟩ := hj
     exact h3 e (Array.mem_toList_iff.1 he) hb
    have hcl : ∀ k, k < ops.size -> listed.getD k false = true -> ∀ j ∈ predsOf ops k, listed.getD j false = true := by
     intro k hk hek j hj
     have hjk := hpr k hk j hj
     rw [hl k hk] at hek
     rw [hl j (by omega)]
     have := of_decide_eq_true hek
     exact decide_eq_true (by omega)
    have hie : i = t := by
     rcases Nat.eq_or_lt_of_le hit with e | e
     ·exact e.symm
     ·have := hpo (fun k => listed.getD k false) hcl i hiN hpi t (htail i (by omega) hiN t e)
      rw [hl t htN] at this
      simp at this
    subst hie
    have hdrop : ops.toList.drop i = o :: ops.toList.drop (i + 1) := by
     have hi' : i < ops.toList.length := by simpa using hiN
     rw [List.drop_eq_getElem_cons hi']
     have : ops.toList[i] = o := by
      have := (Array.getElem?_eq_some_iff.1 h2).2
      simpa using this
     rw [this]
    rw [hdrop] at h
    obtain ⟨g1, g2⟩ := guardW_sound hs h
    have hl' : ∀ k, k < ops.size -> (listed.setIfInBounds i true).getD k false = decide (k < i + 1) := by
     intro k hk
     simp only [Array.getD_eq_getD_getElem?]
     by_cases e : k = i
     ·subst e; simp [hsz, hiN]
     ·rw [Array.getElem?_setIfInBounds_ne (Ne.symm e)]
      have := hl k hk
      simp only [Array.getD_eq_getD_getElem?] at this
      rw [this]
      exact decide_eq_decide.2 (by omega)
    have hnext : ∀ s' φ' a' w', regW P n ops X K (ops.toList.drop (i + 1)) s' -> SimC M φ0 H0 w0 n cx φ' s' a' w' -> wpAnyIn (FWr ro) k P .any ops Q d (listed.setIfInBounds i true) a' w' :=
     fun s' φ' a' w' hk hs' => ih (i + 1) s' φ' _ a' w' (by omega) (by simp [hsz]) hl' (by omega) hs' hk
    unfold wpOpIn
    simp only [h2]
    split
    ·rename_i hw
     exact opW_sound hs (g1 hw) (fun s' φ' a' w' hk hs' => hnext s' φ' a' w' hk hs') (fun v s' φ' w' val hx hs' hd => hX v s' φ' a w' val hx hs' hd)
    ·rename_i hw
     obtain ⟨hdst, h3⟩ := g2 (by simpa using hw)
     exact ⟨fun _ _ => trivial, hnext _ _ _ _ h3 (sim_skip hs hdst)⟩
theorem draw_split (hmix : P.follows .mixedOrders = true) {ops : Array Oper} {l : List IOp} {id : Nat} (hlow : lowL n ops ops.toList = some l) (hpr : ∀ k, k < ops.size -> ∀ j ∈ predsOf ops k, j < k) {ac : Nat -> ActR} {m : Nat} (hm : m <= ops.size) {X : V -> S -> Prop} {K : S -> Prop}
 (hs : SimC M φ0 H0 w0 n cx φ s a w) (hlex : ∀ i, i < m -> OkA P (stF (ocOf l) ac (fun _ => true) s i) (s.nx + i) (ocOf l i) (ac i))
 (hokm : ∀ i, i < m -> (ac i).ok = true)
 {po : Nat -> Nat -> Prop} (hpo : ∀ E : Nat -> Bool, (∀ k, k < ops.size -> E k = true -> ∀ j ∈ predsOf ops k, E j = true) -> ∀ k, k < ops.size -> (∀ j ∈ predsOf ops k, E j = true) -> ∀ j, po k j -> E j = true) (hpo2 : ∀ k, k < ops.size -> ∀ j, po k j -> j < k)
 (hc : ∀ i j, i < j -> j < m -> ¬ po j i -> Compat (ocOf l) ac (fun i => actR (ac i)) i j)
 (htail : ∀ k, m <= k -> k < ops.size -> ∀ j, j < k -> po k j)
 (hend : regW P n ops X K (ops.toList.drop m) ⟨(stF (ocOf l) ac (fun _ => true) s m).env, (stF (ocOf l) ac (fun _ => true) s m).o, s.nx + m⟩)
 (hK : ∀ s φ a w, K s -> SimC M φ0 H0 w0 n cx φ s a w -> Q .normal a w)
 (hX : ∀ v s' φ' a' w' val, X v s' -> SimC M φ0 H0 w0 n cx φ' s' a' w' -> V.den (mutB M φ' s'.H) φ' s'.H w' v val -> Q (.panic [{ v := val, recovered := false }]) a' w') :
 (Code.region id ops true).wpIn (FWr ro) k P Q a w := by
 refine wpIn_region_any hmix ?_
 have hs := sim_drew hs
 generalize ({ w with drawn := w.drawn + 1 } : World) = w at hs
 let N := m
 let Ef (listed : Array Bool) (k : Nat) : Bool := listed.getD k false
 let usE (listed : Array Bool) (j : Nat) : Prop := j < s.nx \/ ∃ k, k < N /\ Ef listed k = true /\ j = s.nx + k
 have key : ∀ (fuel : Nat) (listed : Array Bool) (φ : Place) (a : Act) (w : World), listed.size = ops.size -> listed.count true + fuel = ops.size -> (∀ k, k < ops.size -> Ef listed k = true -> ∀ j ∈ predsOf ops k, Ef listed j = true) -> (∀ k, k < ops.size -> Ef listed k = true -> k < m) ->
  SimU M φ0 H0 w0 n cx φ (stF (ocOf l) ac (Ef listed) s N) (usE listed) a w -> wpAnyIn (FWr ro) k P .any ops Q fuel listed a w := by
  have fin : ∀ (fuel : Nat) (listed : Array Bool) (φ : Place) (a : Act) (w : World), listed.size = ops.size -> listed.count true + fuel = ops.size -> (∀ k, k < ops.size -> Ef listed k = true -> k < m) -> (∀ k, k < N -> Ef listed k = true) -> SimU M φ0 H0 w0 n cx φ (stF (ocOf l) ac (Ef listed) s N) (usE listed) a w -> wpAnyIn (FWr ro) k P .any ops Q fuel listed a w := by
   intro fuel listed φ a w hsz hcnt hlt hall hu
   have e : ∀ k, k <= N -> stF (ocOf l) ac (Ef listed) s k = stF (ocOf l) ac (fun _ => true) s k := by
    intro k
    induction k with
    | zero => intro _; rfl
    | succ k ih => intro hk; simp only [stF, hall k (by omega), ih (by omega)]
   rw [e N (Nat.le_refl _)] at hu
   obtain ⟨k1, k2⟩ := heap_us (us' := fun id => id < s.nx + N) hu.heap (fun id h => by
    show id < s.nx + N
    rcases h with h | ⟨k, hk, _, rfl⟩ <;> omega)
   have hlv : ∀ k, k < ops.size -> listed.getD k false = decide (k < m) := by
    intro k hk
    by_cases h : k < m
    ·rw [decide_eq_true h]; exact hall k h
    ·rw [decide_eq_false h]
     cases hb : listed.getD k false with
     | false => rfl
     | true => exact absurd (hlt k hk hb) h
   have hcm : listed.count true = m := by
    have e1 : listed = Array.ofFn (n := ops.size) fun k => decide (k.1 < m) := by
     apply Array.ext
     ·simp [hsz]
     ·intro k h1 h2
      have := hlv k (by omega)
      simp only [Array.getD_eq_getD_getElem?] at this
      rw [Array.getElem?_eq_getElem h1] at this
      simpa using this
    have e2 : listed.toList = List.replicate m true ++ List.replicate (ops.size - m) false := by
     apply List.ext_getElem?
     intro k
     by_cases hk : k < ops.size
     ·have h1 : listed.toList[k]? = some (decide (k < m)) := by
       have := hlv k hk
       simp only [Array.getD_eq_getD_getElem?] at this
       rw [Array.getElem?_eq_getElem (by omega)] at this
       simp only [Option.getD_some] at this
       rw [Array.getElem?_toList, Array.getElem?_eq_getElem (by omega), this]
      rw [h1]
      by_cases h : k < m
      ·rw [List.getElem?_append_left (by simpa using h)]
       simp [h]
      ·rw [List.getElem?_append_right (by simpa using (by omega : m <= k))]
       rw [List.length_replicate, List.getElem?_replicate, if_pos (by omega), decide_eq_false h]
     ·rw [List.getElem?_eq_none (by simp [hsz]; omega), List.getElem?_eq_none (by simp; omega)]
    rw [<- Array.count_toList, e2, List.count_append, List.count_replicate_self, List.count_replicate]
    simp
   exact draw_tail hpr hpo htail hK hX fuel m ⟨(stF (ocOf l) ac (fun _ => true) s m).env, (stF (ocOf l) ac (fun _ => true) s m).o, s.nx + m⟩ φ listed a w (by omega) hsz hlv (Nat.le_refl _) ⟨k1, hu.tr.trans k2, hu.size, hu.defers.mono k2, fun i => V.den_mono k2 _ _ (hu.env i)⟩ hend
  intro fuel
  induction fuel with
  | zero =>
    intro listed φ a w hsz hcnt hcl hlt hu
    have hall : ∀ k, k < ops.size -> Ef listed k = true := by
     intro k hk
     have h1 : listed.count true = listed.size := by omega
     rw [Array.count_eq_size] at h1
     have := h1 listed[k] (Array.getElem_mem (by omega))
     simp only [Ef, Array.getD_eq_getD_getElem?]
     rw [Array.getElem?_eq_getElem (by omega)]
     simpa using this.symm
    exact fin 0 listed φ a w hsz hcnt hlt (fun k hk => hall k (by omega)) hu
  | succ fuel ih =>
    intro listed φ a w hsz hcnt hcl hlt hu
    by_cases hallm : ∀ k, k < m -> Ef listed k = true
    ·exact fin (fuel + 1) listed φ a w hsz hcnt hlt hallm hu
    have hex : ∃ j, j < m /\ Ef listed j = false := by
     apply Classical.byContradiction
     intro hno
     refine hallm fun k hk => ?_
     cases hb : Ef listed k with
     | true => rfl
     | false => exact absurd ⟨k, hk, hb⟩ hno
    obtain ⟨j0, hj0, hj0f⟩ := hex
    refine ⟨fun hr => ?_, fun i hi => ?_⟩
    ·have := all_listed hpr hsz hr j0 (by omega)
     rw [show listed.getD j0 false = false from hj0f] at this
     cases this
    obtain ⟨h1, o, h2, h3⟩ := mem_ready.1 hi
    have hiS : i < ops.size := (Array.getElem?_eq_some_iff.1 h2).1
    have hni : Ef listed i = false := by
     simp only [Ef, Array.getD_eq_getD_getElem?] at h1 ⊢
     rw [Array.getElem?_eq_getElem (by omega)] at h1 ⊢
     simpa using h1
    have hpi : ∀ j ∈ predsOf ops i, Ef listed j = true := by
     intro j hj
     simp only [predsOf, h2, List.mem_map, List.mem_filter] at hj
     obtain ⟨e, ⟨he, hb⟩, rfl⟩ := hj
     exact h3 e (Array.mem_toList_iff.1 he) hb
    have hiN : i < N := by
     apply Classical.byContradiction
     intro hge
     have hge : m <= i := Nat.le_of_not_lt hge
     have := hpo _ hcl i hiS hpi j0 (htail i hge hiS j0 (by omega))
     rw [hj0f] at this; cases this
    have hclo : Closed N po (Ef listed) := fun k hk hek => hpo _ hcl k (by omega) (hcl k (by omega) hek)
    obtain ⟨ag1, ag2⟩ := agree (s := s) (n := N) (fun k hk => hpo2 k (by omega)) hc hclo hiN hni (hpo _ hcl i (by omega) hpi)
    obtain ⟨g1, g2, g3, g4⟩ := lowO_spec (lowL_get _ _ i o hlow (by simpa using h2))
    have hfr : ¬ usE listed (s.nx + i) := by
     rintro (h | ⟨k, _, hk, he⟩)
     ·omega
     ·have : k = i := by omega
      subst this; rw [hni] at hk; cases hk
    have hE' : ∀ k, Ef (listed.setIfInBounds i true) k = (Ef listed k || k == i) := by
     intro k
     simp only [Ef, Array.getD_eq_getD_getElem?]
     by_cases e : k = i
     ·subst e; simp [hsz, hiS]
     ·rw [Array.getElem?_setIfInBounds_ne (Ne.symm e)]
      have : (k == i) = false := by simpa using e
      simp [this]
    have hins := insert (s := s) hc hclo hiN hni hE'
    have hcl' : ∀ k, k < ops.size -> Ef (listed.setIfInBounds i true) k = true -> ∀ j ∈ predsOf ops k, Ef (listed.setIfInBounds i true) j = true := by
     intro k hk hek j hj
     rw [hE'] at hek ⊢
     by_cases e : k = i
     ·subst e; simp [hpi j hj]
     ·have : (k == i) = false := by simpa using e
      rw [this, Bool.or_false] at hek
      simp [hcl k hk hek j hj]
    have hcnt' : (listed.setIfInBounds i true).count true + fuel = ops.size := by
     have hlt : i < listed.size := by omega
     have e1 : listed.setIfInBounds i true = listed.set i true hlt := by simp [Array.setIfInBounds, hlt]
     have e2 : listed[i] = false := by
      have := hni
      simp only [Ef, Array.getD_eq_getD_getElem?] at this
      rw [Array.getElem?_eq_getElem hlt] at this
      simpa using this
     rw [e1, Array.count_set hlt, e2]
     simp
     omega
    have hnext : (ac i).ok = true -> ∀ φ' a' w', SimU M φ0 H0 w0 n cx φ' (apA o.dst (ac i) (stF (ocOf l) ac (Ef listed) s N)) (fun id => usE listed id \/ id = s.nx + i) a' w' -> wpAnyIn (FWr ro) k P .any ops Q fuel (listed.setIfInBounds i true) a' w' := by
     intro hoki φ' a' w' hu'
     refine ih _ φ' a' w' (by simp [hsz]) hcnt' hcl' (fun k hk hek => ?_) ?_
     ·rw [hE'] at hek
      by_cases e : k = i
      ·subst e; exact hiN
      ·have : (k == i) = false := by simpa using e
       rw [this, Bool.or_false] at hek
       exact hlt k hk hek
     rw [hins, g2]
     obtain ⟨k1, k2⟩ := heap_us (us' := usE (listed.setIfInBounds i true)) hu'.heap (fun id h => by
      rcases h with (h | ⟨k, hk, hek, rfl⟩) | rfl
      ·exact .inl h
      ·exact .inr ⟨k, hk, by rw [hE', hek]; rfl, rfl⟩
      ·exact .inr ⟨i, hiN, by rw [hE']; simp, rfl⟩)
     exact ⟨k1, hu'.tr.trans k2, hu'.size, hu'.defers.mono k2, fun j => V.den_mono k2 _ _ (hu'.env j)⟩
    have hgfr : ∀ d want, (ocOf l i).gd = some (d, want) -> (stF (ocOf l) ac (Ef listed) s N).env d = (stF (ocOf l) ac (fun _ => true) s i).env d := fun d want hd => ag1 d (by simp [touches, tmpsOf, hd])
    have hok := hlex i hiN
    have hops : ∀ x ∈ (ocOf l i).op.operands, (stF (ocOf l) ac (Ef listed) s N).ev x = (stF (ocOf l) ac (fun _ => true) s i).ev x := fun x hx => ev_frame fun t ht => ag1 t (by
     subst ht
     simp only [touches, tmpsOf, List.mem_append, List.mem_filterMap]
     exact .inl (.inl ⟨.tmp t, Array.mem_toList_iff.2 hx, rfl⟩))
    have hnxe : (stF (ocOf l) ac (Ef listed) s N).nx = (stF (ocOf l) ac (fun _ => true) s i).nx := (stF_nx N).trans (stF_nx i).symm
    unfold wpOpIn
    simp only [h2]
    cases hac : ac i with
    | skip =>
      rw [hac] at hok hnext
      have hw := guardIs_sound hu.env g4 (guardIs_frame hgfr hok)
      simp only [hw, Bool.false_eq_true, if_false]
      refine ⟨fun _ _ => trivial, hnext rfl φ _ w ?_⟩
      have := simU_put (v := .tup []) (val := undef) hu hu.heap (Trans.refl _ _ _) ⟨#[], rfl, rfl⟩ (dst := o.dst) g3 rfl (us' := fun id => usE listed id \/ id = s.nx + i) (fun id h => .inl h)
      exact this
    | val v Δ rd =>
      rw [hac] at hok hnext
      have hw := guardIs_sound hu.env g4 (guardIs_frame hgfr hok.1)
      simp only [hw, if_true]
      obtain ⟨rd', hst⟩ := stepA_frame hops (fun id hid => ag2 id (by rw [hac]; exact hid)) hnxe hok.2
      exact stepA_wp hu hfr (fun id h => .inl (by rw [stF_nx] at h; exact h)) g1.symm g3 hst (hnext rfl)
    | pan v ws rd =>
      have := hokm i hiN
      rw [hac] at this; cases this
    | blk =>
      have := hokm i hiN
      rw [hac] at this; cases this
 refine key ops.size _ φ a w (by simp) (by simp [Array.count_replicate]) (fun k hk hek => ?_) (fun k hk hek => ?_) ?_
 ·simp [Ef, Array.getD_eq_getD_getElem?, Array.getElem?_replicate] at hek
  split at hek <;> simp at hek
 ·simp [Ef, Array.getD_eq_getD_getElem?, Array.getElem?_replicate] at hek
  split at hek <;> simp at hek
 ·have e : ∀ k, stF (ocOf l) ac (Ef (Array.replicate ops.size false)) s k = s := by
   intro k
   induction k with
   | zero => rfl
   | succ k ih =>
     have : Ef (Array.replicate ops.size false) k = false := by
      simp only [Ef, Array.getD_eq_getD_getElem?, Array.getElem?_replicate]
      split <;> rfl
     simp only [stF, this, ih]
     rfl
  rw [e]
  obtain ⟨k1, k2⟩ := heap_us (us' := usE (Array.replicate ops.size false)) hs.heap (fun id h => .inl h)
  exact ⟨k1, hs.tr.trans k2, hs.size, hs.defers.mono k2, fun j => V.den_mono k2 _ _ (hs.env j)⟩
end
end Go.Proofs.YtealblliddhgiaaGreat
namespace Go.Proofs.YtealblliddhgiaaGreat
def callD (P : Program) (g : FuncId) (ds : List D) (Kf Kb KX : V -> Prop) : Prop :=
 (∃ rs, PCt P g ds (.ret rs) /\ (Kf (retV rs) \/ (D.flats rs = true /\ Kb (retV rs)))) \/ (∃ x, PCt P g ds (.pan x) /\ x.flat = true /\ KX (.d x)) \/ (∃ v, PVt P g ds v /\ Kf v)
def callDh (P : Program) (g : FuncId) (args : List V) (o : Nat -> Obj') (nx fr : Nat) (K : V -> List (Nat × Obj') -> List Nat -> Prop) (KX : V -> List Nat -> List Nat -> Prop) : Prop :=
 ∃ rd Δ, rd.all (fun id => decide (id < nx)) = true /\ ((∃ rs, HCt P g args rd o (.ret rs) Δ /\ K (retV rs) Δ rd) \/ (∃ x, HCt P g args rd o (.pan x) Δ /\ KX (.d x) (Δ.map (·.1)) rd) \/ (∃ v, HVt P g args rd o fr v Δ /\ K v Δ rd))
def opD (P : Program) (s : S) (fr : Nat) (o : IOp) (K : V -> List (Nat × Obj') -> List Nat -> Prop) (KX : V -> List Nat -> List Nat -> Prop) : Prop :=
 match o.op with
 | .call c => match c.callee with
   | .value f => match s.ev f with
     | .func (.func g) first cap => match toDs s.o (first ++ c.args.toList.map s.ev ++ cap) with
       | some ds => callD P g ds (fun v => K v (frz s.o (V.idss (first ++ c.args.toList.map s.ev ++ cap))) (opR s o.op)) (fun v => K v [] (opR s o.op)) (fun v => KX v [] (opR s o.op)) \/ callDh P g (first ++ c.args.toList.map s.ev ++ cap) s.o s.nx fr K KX
       | none => callDh P g (first ++ c.args.toList.map s.ev ++ cap) s.o s.nx fr K KX
     | _ => False
   | _ => match sopF P s fr o.op with
     | some (v, Δ, _) => K v Δ (opR s o.op)
     | none => False
 | op => match sopF P s fr op with
   | some (v, Δ, _) => K v Δ (opR s o.op)
   | none => False
abbrev Fp := List (List Nat × List Nat)
def regB (P : Program) (KB : List Nat -> Fp -> Prop) (pr : List (List Nat)) : List IOp -> Nat -> S -> Fp -> List Nat -> List Nat -> Prop
 | [], _, _, fp, _, ws => KB ws fp
 | o :: l, fr, s, fp, bad, ws => if (pr.getD fp.length []).any (fun j => bad.contains j) = true then regB P KB pr l (fr + 1) ⟨putE s.env o.dst .junk, s.o, s.nx⟩ (fp ++ [([], [])]) (bad ++ [fp.length]) ws
   else match o.gd with
   | none => opD P s fr o (fun v Δ rd => regB P KB pr l (fr + 1) ⟨putE s.env o.dst v, put s.o Δ, s.nx⟩ (fp ++ [(rd, Δ.map (·.1))]) bad (ws ++ Δ.map (·.1))) (fun _ _ _ => False)
   | some (d, want) => match s.env d with
     | .d (.bool b) => if b = want then opD P s fr o (fun v Δ rd => regB P KB pr l (fr + 1) ⟨putE s.env o.dst v, put s.o Δ, s.nx⟩ (fp ++ [(rd, Δ.map (·.1))]) bad (ws ++ Δ.map (·.1))) (fun _ _ _ => False)
      else regB P KB pr l (fr + 1) ⟨putE s.env o.dst (.tup []), s.o, s.nx⟩ (fp ++ [([], [])]) bad ws
     | .tup [] => regB P KB pr l (fr + 1) ⟨putE s.env o.dst (.tup []), s.o, s.nx⟩ (fp ++ [([], [])]) bad ws
     | _ => False
def regD (P : Program) (K : S -> Fp -> Prop) (KP : V -> List Nat -> Fp -> Prop) (pr : List (List Nat)) : List IOp -> Nat -> S -> Fp -> Prop
 | [], _, s, fp => K s fp
 | o :: l, fr, s, fp => match o.gd with
   | none => opD P s fr o (fun v Δ rd => regD P K KP pr l (fr + 1) ⟨putE s.env o.dst v, put s.o Δ, s.nx⟩ (fp ++ [(rd, Δ.map (·.1))]))
    (fun v ws rd => regB P (KP v) pr l (fr + 1) ⟨putE s.env o.dst .junk, s.o, s.nx⟩ (fp ++ [(rd, [])]) [fp.length] (ws ++ fp.flatMap (·.2)))
   | some (d, want) => match s.env d with
     | .d (.bool b) => if b = want then opD P s fr o (fun v Δ rd => regD P K KP pr l (fr + 1) ⟨putE s.env o.dst v, put s.o Δ, s.nx⟩ (fp ++ [(rd, Δ.map (·.1))]))
           (fun v ws rd => regB P (KP v) pr l (fr + 1) ⟨putE s.env o.dst .junk, s.o, s.nx⟩ (fp ++ [(rd, [])]) [fp.length] (ws ++ fp.flatMap (·.2)))
      else regD P K KP pr l (fr + 1) ⟨putE s.env o.dst (.tup []), s.o, s.nx⟩ (fp ++ [([], [])])
     | .tup [] => regD P K KP pr l (fr + 1) ⟨putE s.env o.dst (.tup []), s.o, s.nx⟩ (fp ++ [([], [])])
     | _ => False
def endD (pr : List (List Nat)) (nx : Nat) (Q : Xit -> S -> Prop) (s : S) (fp : Fp) : Prop := objsOk pr fp = true /\ Q .normal ⟨s.env, s.o, nx⟩
def dstsOf (l : List IOp) : List Nat := l.filterMap (·.dst)
def endP (pr : List (List Nat)) (l : List IOp) (s0 : S) (Q : Xit -> S -> Prop) (v : V) (wl : List Nat) (fp : Fp) : Prop := objsOk pr fp = true /\ Q (.pan v) (panS (dstsOf l) wl l.length s0)
def foldA : List IOp -> List ActR -> S -> Nat -> S
 | _, _, s, 0 => s
 | o :: l, x :: xs, s, j + 1 => foldA l xs (apA o.dst x s) j
 | _, _, s, _ => s
def fps (asz : List ActR) : Fp := asz.map fun x => (actR x, actW x)
section
variable {P : Program} {n b : Nat}
theorem opD_step {s : S} {fr : Nat} {o : IOp} {K : V -> List (Nat × Obj') -> List Nat -> Prop} {KX : V -> List Nat -> List Nat -> Prop} (h : opD P s fr o K KX) : (∃ v Δ rd, StepA P s fr o.op v Δ rd /\ K v Δ rd) \/ (∃ v ws rd, StepP P s o.op v ws rd /\ KX v ws rd) := by
 have hs : ∀ {op : Op}, o.op = op -> (match sopF P s fr op with | some (v, Δ, _) => K v Δ (opR s o.op) | none => False) -> (∃ v Δ rd, StepA P s fr o.op v Δ rd /\ K v Δ rd) := by
  intro op hop h
  split at h
  ·rename_i v Δ rd he; exact ⟨v, Δ, _, .inl ⟨⟨rd, by rw [hop]; exact he⟩, rfl⟩, h⟩
  ·exact h.elim
 unfold opD at h
 split at h
 ·rename_i c hc
  split at h
  ·rename_i f hcal
   split at h
   ·rename_i g first cap hf
    split at h
    ·rename_i ds hds
     rcases h with (⟨rs, hP, h | ⟨hfl, h⟩⟩ | ⟨x, hP, hfl, h⟩ | ⟨v, hP, h⟩) | ⟨rd, Δ, hrd, ⟨rs, hH, h⟩ | ⟨x, hH, h⟩ | ⟨v, hH, h⟩⟩
     ·exact .inl ⟨_, _, _, .inr ⟨c, f, g, first, cap, hc, hcal, hf, .inl ⟨ds, rs, hds, hP, rfl, rfl, .inl rfl⟩⟩, h⟩
     ·exact .inl ⟨_, _, _, .inr ⟨c, f, g, first, cap, hc, hcal, hf, .inl ⟨ds, rs, hds, hP, rfl, rfl, .inr ⟨hfl, rfl⟩⟩⟩, h⟩
     ·exact .inr ⟨_, _, _, ⟨c, f, g, first, cap, hc, hcal, hf, .inl ⟨ds, x, hds, hP, hfl, rfl, rfl, rfl⟩⟩, h⟩
     ·exact .inl ⟨_, _, _, .inr ⟨c, f, g, first, cap, hc, hcal, hf, .inr (.inr (.inl ⟨ds, hds, hP, rfl, rfl⟩))⟩, h⟩
     ·exact .inl ⟨_, _, _, .inr ⟨c, f, g, first, cap, hc, hcal, hf, .inr (.inl ⟨rs, hH, rfl, fun id hid => by simpa using List.all_eq_true.1 hrd id hid⟩)⟩, h⟩
     ·exact .inr ⟨_, _, _, ⟨c, f, g, first, cap, hc, hcal, hf, .inr ⟨x, Δ, hH, rfl, rfl, fun id hid => by simpa using List.all_eq_true.1 hrd id hid⟩⟩, h⟩
     ·exact .inl ⟨_, _, _, .inr ⟨c, f, g, first, cap, hc, hcal, hf, .inr (.inr (.inr ⟨hH, fun id hid => by simpa using List.all_eq_true.1 hrd id hid⟩))⟩, h⟩
    ·obtain ⟨rd, Δ, hrd, ⟨rs, hH, h⟩ | ⟨x, hH, h⟩ | ⟨v, hH, h⟩⟩ := h
     ·exact .inl ⟨_, _, _, .inr ⟨c, f, g, first, cap, hc, hcal, hf, .inr (.inl ⟨rs, hH, rfl, fun id hid => by simpa using List.all_eq_true.1 hrd id hid⟩)⟩, h⟩
     ·exact .inr ⟨_, _, _, ⟨c, f, g, first, cap, hc, hcal, hf, .inr ⟨x, Δ, hH, rfl, rfl, fun id hid => by simpa using List.all_eq_true.1 hrd id hid⟩⟩, h⟩
     ·exact .inl ⟨_, _, _, .inr ⟨c, f, g, first, cap, hc, hcal, hf, .inr (.inr (.inr ⟨hH, fun id hid => by simpa using List.all_eq_true.1 hrd id hid⟩))⟩, h⟩
   ·exact h.elim
  ·rw [hc] at h; exact .inl (hs hc (by rw [hc]; exact h))
 ·exact .inl (hs rfl h)
def LexB (P : Program) (KB : List Nat -> Fp -> Prop) (pr : List (List Nat)) (l : List IOp) (fr : Nat) (s : S) (fp : Fp) (bad ws : List Nat) : Prop :=
    ∃ asz : List ActR, asz.length = l.length /\ (∀ j o x, l[j]? = some o -> asz[j]? = some x -> OkA P (foldA l asz s j) (fr + j) o x) /\
     (∀ (j : Nat), asz[j]? = some ActR.blk -> ∃ i ∈ pr.getD (fp.length + j) [], i ∈ bad \/ ∃ j', j' < j /\ i = fp.length + j' /\ asz[j']? = some .blk) /\ (∀ x ∈ asz, x = .blk \/ x.ok = true) /\
     ∃ wl, KB wl (fp ++ fps asz) /\ (∀ id ∈ ws, id ∈ wl) /\ ∀ x ∈ asz, ∀ id ∈ actW x, id ∈ wl
theorem regB_lex {KB : List Nat -> Fp -> Prop} {pr : List (List Nat)} : ∀ (l : List IOp) (fr : Nat) (s : S) (fp : Fp) (bad ws : List Nat), regB P KB pr l fr s fp bad ws -> LexB P KB pr l fr s fp bad ws
 | [], fr, s, fp, bad, ws, h => ⟨[], rfl, fun j o x hj => by simp at hj, fun j hj => by simp at hj, fun x hx => by simp at hx, ws, by simpa [fps, regB] using h, fun _ h => h, fun x hx => by simp at hx⟩
 | o :: l, fr, s, fp, bad, ws, h => by
   have step : ∀ (x : ActR) (bad' ws' : List Nat), OkA P s fr o x -> regB P KB pr l (fr + 1) (apA o.dst x s) (fp ++ [(actR x, actW x)]) bad' ws' -> (x = .blk \/ x.ok = true) -> (x = .blk -> ∃ i ∈ pr.getD fp.length [], i ∈ bad) ->
    (∀ i ∈ bad', i ∈ bad \/ (i = fp.length /\ x = .blk)) -> (∀ id ∈ ws, id ∈ ws') -> (∀ id ∈ actW x, id ∈ ws') ->
    LexB P KB pr (o :: l) fr s fp bad ws := by
    intro x bad' ws' hok hr hbo hblk hbad hws hW
    obtain ⟨asz, h1, h2, h3, h4, wl, h5, h6, h7⟩ := regB_lex l (fr + 1) _ _ bad' ws' hr
    refine ⟨x :: asz, by simp [h1], fun j o' y hj hy => ?_, fun j hj => ?_, fun y hy => ?_, wl, by simpa [fps] using h5, fun id hid => h6 id (hws id hid), fun y hy id hid => ?_⟩
    ·cases j with
     | zero => simp at hj hy; subst hj; subst hy; exact hok
     | succ j =>
       have := h2 j o' y (by simpa using hj) (by simpa using hy)
       rw [show fr + (j + 1) = fr + 1 + j by omega]
       exact this
    ·cases j with
     | zero =>
       simp at hj
       obtain ⟨i, i1, i2⟩ := hblk hj
       exact ⟨i, by simpa using i1, .inl i2⟩
     | succ j =>
       obtain ⟨i, i1, i2⟩ := h3 j (by simpa using hj)
       simp only [List.length_append, List.length_cons, List.length_nil] at i1 i2
       refine ⟨i, by rw [show fp.length + (j + 1) = fp.length + (0 + 1) + j by omega]; exact i1, ?_⟩
       rcases i2 with i2 | ⟨j', j1, j2, j3⟩
       ·rcases hbad i i2 with hb | ⟨e1, e2⟩
        ·exact .inl hb
        ·exact .inr ⟨0, by omega, by omega, by simp [e2]⟩
       ·exact .inr ⟨j' + 1, by omega, by omega, by simpa using j3⟩
    ·rcases List.mem_cons.1 hy with rfl | hy
     ·exact hbo
     ·exact h4 y hy
    ·rcases List.mem_cons.1 hy with rfl | hy
     ·exact h6 id (hW id hid)
     ·exact h7 y hy id hid
   simp only [regB] at h
   split at h
   ·rename_i hb
    obtain ⟨j, hj1, hj2⟩ := List.any_eq_true.1 hb
    exact step .blk _ _ trivial h (.inl rfl) (fun _ => ⟨j, hj1, by simpa using hj2⟩) (fun i hi => by
     rcases List.mem_append.1 hi with hi | hi
     ·exact .inl hi
     ·exact .inr ⟨by simpa using hi, rfl⟩) (fun _ h => h) (fun id hid => by simp [actW] at hid)
   ·have opstep : guardIs s o.gd true -> opD P s fr o (fun v Δ rd => regB P KB pr l (fr + 1) ⟨putE s.env o.dst v, put s.o Δ, s.nx⟩ (fp ++ [(rd, Δ.map (·.1))]) bad (ws ++ Δ.map (·.1))) (fun _ _ _ => False) -> LexB P KB pr (o :: l) fr s fp bad ws := fun hg h => by
     rcases opD_step h with ⟨v, Δ, rd, hst, h⟩ | ⟨v, ws', rd, _, h⟩
     ·exact step (.val v Δ rd) bad (ws ++ Δ.map (·.1)) ⟨hg, hst⟩ h (.inr rfl) (fun h => by cases h) (fun i hi => .inl hi) (fun id hid => List.mem_append.2 (.inl hid)) (fun id hid => List.mem_append.2 (.inr hid))
     ·exact h.elim
    have skip : guardIs s o.gd false -> regB P KB pr l (fr + 1) ⟨putE s.env o.dst (.tup []), s.o, s.nx⟩ (fp ++ [([], [])]) bad ws -> LexB P KB pr (o :: l) fr s fp bad ws := fun hg h =>
     step .skip bad ws hg h (.inr rfl) (fun h => by cases h) (fun i hi => .inl hi) (fun id hid => hid) (fun id hid => by simp [actW] at hid)
    split at h
    ·rename_i hg; exact opstep (by rw [hg]; rfl) h
    ·rename_i d want hg
     split at h
     ·rename_i c hv
      split at h
      ·rename_i e; exact opstep (by rw [hg]; simp [guardIs, hv, e]) h
      ·rename_i e; exact skip (by rw [hg]; simp [guardIs, hv, e]) h
     ·rename_i hv; exact skip (by rw [hg]; simp [guardIs, hv]) h
     ·exact h.elim
def LexD (P : Program) (K : S -> Fp -> Prop) (KP : V -> List Nat -> Fp -> Prop) (pr : List (List Nat)) (l : List IOp) (fr : Nat) (s : S) (fp : Fp) : Prop :=
 ∃ asz : List ActR, asz.length = l.length /\ (∀ j o x, l[j]? = some o -> asz[j]? = some x -> OkA P (foldA l asz s j) (fr + j) o x) /\
  (((∀ x ∈ asz, x.ok = true) /\ K (foldA l asz s l.length) (fp ++ fps asz)) \/
   ∃ v wl, (∀ (j : Nat) (v' : V) (ws rd : List Nat), asz[j]? = some (ActR.pan v' ws rd) -> v' = v /\ ∀ id ∈ ws, id ∈ wl) /\ (∃ x ∈ asz, x.ok = false) /\
    (∀ (j : Nat), asz[j]? = some ActR.blk -> ∃ i ∈ pr.getD (fp.length + j) [], ∃ j', i = fp.length + j' /\ ∃ y, asz[j']? = some y /\ y.ok = false) /\ KP v wl (fp ++ fps asz) /\ (∀ x ∈ asz, ∀ id ∈ actW x, id ∈ wl) /\ ∀ id ∈ fp.flatMap (·.2), id ∈ wl)
theorem regD_lex {K : S -> Fp -> Prop} {KP : V -> List Nat -> Fp -> Prop} {pr : List (List Nat)} : ∀ (l : List IOp) (fr : Nat) (s : S) (fp : Fp), regD P K KP pr l fr s fp -> LexD P K KP pr l fr s fp
 | [], fr, s, fp, h => ⟨[], rfl, fun j o x hj => by simp at hj, .inl ⟨fun x hx => by simp at hx, by simpa [foldA, fps, regD] using h⟩⟩
 | o :: l, fr, s, fp, h => by
   have step : ∀ (x : ActR), x.ok = true -> OkA P s fr o x -> regD P K KP pr l (fr + 1) (apA o.dst x s) (fp ++ [(actR x, actW x)]) -> LexD P K KP pr (o :: l) fr s fp := by
    intro x hxo hok hr
    obtain ⟨asz, h1, h2, h3⟩ := regD_lex l (fr + 1) _ _ hr
    refine ⟨x :: asz, by simp [h1], fun j o' y hj hy => ?_, ?_⟩
    ·cases j with
     | zero => simp at hj hy; subst hj; subst hy; exact hok
     | succ j =>
       have := h2 j o' y (by simpa using hj) (by simpa using hy)
       rw [show fr + (j + 1) = fr + 1 + j by omega]
       exact this
    ·rcases h3 with ⟨h3, h4⟩ | ⟨v, wl, g1, g2, g3, g4, g5, g6⟩
     ·left
      refine ⟨fun y hy => ?_, by simpa [foldA, fps] using h4⟩
      rcases List.mem_cons.1 hy with rfl | hy
      ·exact hxo
      ·exact h3 y hy
     ·right
      refine ⟨v, wl, fun j v' ws rd hj => ?_, ?_, fun j hj => ?_, by simpa [fps] using g4, fun y hy id hid => ?_, fun id hid => g6 id (by simp only [List.flatMap_append, List.mem_append]; exact .inl hid)⟩
      ·cases j with
       | zero => simp at hj; rw [hj] at hxo; cases hxo
       | succ j => exact g1 j v' ws rd (by simpa using hj)
      ·obtain ⟨y, y1, y2⟩ := g2; exact ⟨y, by simp [y1], y2⟩
      ·cases j with
       | zero => simp at hj; rw [hj] at hxo; cases hxo
       | succ j =>
         obtain ⟨i, i1, j', i2, y, i3, i4⟩ := g3 j (by simpa using hj)
         simp only [List.length_append, List.length_cons, List.length_nil] at i1 i2
         exact ⟨i, by rw [show fp.length + (j + 1) = fp.length + (0 + 1) + j by omega]; exact i1, j' + 1, by omega, y, by simpa using i3, i4⟩
      ·rcases List.mem_cons.1 hy with rfl | hy
       ·exact g6 id (by simp only [List.flatMap_append, List.mem_append]; exact .inr (by simpa using hid))
       ·exact g5 y hy id hid
   have pan : ∀ (v : V) (ws rd : List Nat), OkA P s fr o (.pan v ws rd) -> regB P (KP v) pr l (fr + 1) ⟨putE s.env o.dst .junk, s.o, s.nx⟩ (fp ++ [(rd, [])]) [fp.length] (ws ++ fp.flatMap (·.2)) -> LexD P K KP pr (o :: l) fr s fp := by
    intro v ws rd hok hr
    obtain ⟨asz, h1, h2, h3, h4, wl, h5, h6, h7⟩ := regB_lex l (fr + 1) _ _ _ _ hr
    refine ⟨ActR.pan v ws rd :: asz, by simp [h1], fun j o' y hj hy => ?_, .inr ⟨v, wl, fun j v' ws' rd' hj => ?_, ⟨ActR.pan v ws rd, by simp, rfl⟩, fun j hj => ?_, by simpa [fps, actR, actW] using h5, fun y hy id hid => ?_, fun id hid => h6 id (List.mem_append.2 (.inr hid))⟩⟩
    ·cases j with
     | zero => simp at hj hy; subst hj; subst hy; exact hok
     | succ j =>
       have := h2 j o' y (by simpa using hj) (by simpa using hy)
       rw [show fr + (j + 1) = fr + 1 + j by omega]
       exact this
    ·cases j with
     | zero => simp at hj; obtain ⟨rfl, rfl, rfl⟩ := hj; exact ⟨rfl, fun id hid => h6 id (List.mem_append.2 (.inl hid))⟩
     | succ j =>
       have hm := List.mem_of_getElem? (show asz[j]? = some (.pan v' ws' rd') by simpa using hj)
       rcases h4 _ hm with h | h <;> cases h
    ·cases j with
     | zero => simp at hj
     | succ j =>
       obtain ⟨i, i1, i2⟩ := h3 j (by simpa using hj)
       simp only [List.length_append, List.length_cons, List.length_nil] at i1 i2
       refine ⟨i, by rw [show fp.length + (j + 1) = fp.length + (0 + 1) + j by omega]; exact i1, ?_⟩
       rcases i2 with i2 | ⟨j', j1, j2, j3⟩
       ·exact ⟨0, by simpa using i2, _, rfl, rfl⟩
       ·exact ⟨j' + 1, by omega, .blk, by simpa using j3, rfl⟩
    ·rcases List.mem_cons.1 hy with rfl | hy
     ·simp [actW] at hid
     ·exact h7 y hy id hid
   have opstep : guardIs s o.gd true -> opD P s fr o (fun v Δ rd => regD P K KP pr l (fr + 1) ⟨putE s.env o.dst v, put s.o Δ, s.nx⟩ (fp ++ [(rd, Δ.map (·.1))]))
    (fun v ws rd => regB P (KP v) pr l (fr + 1) ⟨putE s.env o.dst .junk, s.o, s.nx⟩ (fp ++ [(rd, [])]) [fp.length] (ws ++ fp.flatMap (·.2))) -> LexD P K KP pr (o :: l) fr s fp := fun hg h => by
    rcases opD_step h with ⟨v, Δ, rd, hst, h⟩ | ⟨v, ws, rd, hst, h⟩
    ·exact step (.val v Δ rd) rfl ⟨hg, hst⟩ h
    ·exact pan v ws rd ⟨hg, hst⟩ h
   have skip : guardIs s o.gd false -> regD P K KP pr l (fr + 1) ⟨putE s.env o.dst (.tup []), s.o, s.nx⟩ (fp ++ [([], [])]) -> LexD P K KP pr (o :: l) fr s fp := fun hg h => step .skip rfl hg h
   simp only [regD] at h
   split at h
   ·rename_i hg; exact opstep (by rw [hg]; rfl) h
   ·rename_i d want hg
    split at h
    ·rename_i c hv
     split at h
     ·rename_i e; exact opstep (by rw [hg]; simp [guardIs, hv, e]) h
     ·rename_i e; exact skip (by rw [hg]; simp [guardIs, hv, e]) h
    ·rename_i hv; exact skip (by rw [hg]; simp [guardIs, hv]) h
    ·exact h.elim
end
end Go.Proofs.YtealblliddhgiaaGreat
namespace Go.Proofs.YtealblliddhgiaaGreat
def setP (env : Nat -> V) : List Nat -> List V -> Nat -> V
 | t :: ps, v :: vs => setP (upd env t v) ps vs
 | _, _ => env
def tailOk (pr : List (List Nat)) (m : Nat) : Bool := (List.range pr.length).all fun k => Nat.blt k m || Nat.beq ((masks pr []).getD k 0) (2 ^ k - 1)
def splitI (P : Program) (l : List IOp) (pr : List (List Nat)) (Q : Xit -> S -> Prop) (s : S) : Prop :=
 ∃ m, m <= l.length /\ tailOk pr m = true /\ regD P (fun s' fp => objsOk pr fp = true /\ regI P (fun v s => Q (.pan v) s) (Q .normal) (l.drop m) ⟨s'.env, s'.o, s.nx + m⟩) (fun _ _ _ => False) pr (l.take m) s.nx s []
def icW (P : Program) (n b : Nat) (rd : Bool) : IC -> (Xit -> S -> Prop) -> S -> Prop
 | .skip, Q, s => Q .normal s
 | .reg l, Q, s => regI P (fun v s => Q (.pan v) s) (Q .normal) l s
 | .drw l pr, Q, s => regD P (endD pr (s.nx + l.length) Q) (endP pr l s Q) pr l s.nx s [] \/ splitI P l pr Q s
 | .seq x y, Q, s => icW P n b rd x (thenQ (icW P n b rd y Q) Q) s
 | .cond c x y, Q, s => match s.ev c with
   | .d (.bool t) => condI t (icW P n b rd x Q s) (icW P n b rd y Q s)
   | .anyb => icW P n b rd x Q s /\ icW P n b rd y Q s
   | _ => False
 | .block id x, Q, s => icW P n b rd x (blockQ id Q) s
 | .loop x, Q, s => loopI b (icW P n b rd x) Q s
 | .exit id, Q, s => Q (.exit id) s
 | .ret, Q, s => Q .ret s
 | .rng g ps x y, Q, s => rd = false /\ rngW P n (s.ev g) ps x y Q s
 | .bad, _, _ => False
section
variable {P : Program} {n b : Nat} {rd : Bool}
theorem foldA_succ : ∀ (l : List IOp) (asz : List ActR) (s : S) (k : Nat) (o : IOp) (x : ActR), l[k]? = some o -> asz[k]? = some x -> foldA l asz s (k + 1) = apA o.dst x (foldA l asz s k)
 | [], _, _, _, _, _, h, _ => by simp at h
 | o :: l, [], _, _, _, _, _, h => by simp at h
 | o :: l, x :: xs, s, 0, o', x', h, h' => by simp at h h'; subst h; subst h'; cases l <;> cases xs <;> rfl
 | o :: l, x :: xs, s, k + 1, o', x', h, h' => by
   simp only [foldA]
   exact foldA_succ l xs _ k o' x' (by simpa using h) (by simpa using h')
theorem stF_foldA (l : List IOp) (asz : List ActR) (s : S) (hl : asz.length = l.length) : ∀ k, k <= l.length -> stF (ocOf l) (fun i => asz.getD i default) (fun _ => true) s k = foldA l asz s k := by
 intro k
 induction k with
 | zero => intro _; cases l <;> cases asz <;> rfl
 | succ k ih =>
   intro hk
   have h1 : l[k]? = some (ocOf l k) := by simp [ocOf, List.getD_eq_getElem?_getD, List.getElem?_eq_getElem (by omega : k < l.length)]
   have h2 : asz[k]? = some (asz.getD k default) := by simp [List.getD_eq_getElem?_getD, List.getElem?_eq_getElem (by omega : k < asz.length)]
   simp only [stF, if_true, ih (by omega)]
   rw [foldA_succ l asz s k _ _ h1 h2]
theorem lowL_length {ops : Array Oper} : ∀ (l : List Oper) (l' : List IOp), lowL n ops l = some l' -> l'.length = l.length
 | [], _, h => by simp [lowL] at h; subst h; rfl
 | o :: l, l', h => by
   simp only [lowL] at h
   split at h
   ·rename_i hx; injection h with h; subst h; simp [lowL_length l _ hx]
   ·cases h
theorem draw_code (hmix : P.follows .mixedOrders = true) {id : Nat} {ops : Array Oper} {l : List IOp} {Q Q' : Xit -> S -> Prop} {s : S} (hQ : ∀ e s, Q e s -> Q' e s) (hlow : lowL n ops ops.toList = some l) (ht : tmpsOkB l (prOf ops) = true)
 (hp : prOk (prOf ops) = true) (h : regD P (endD (prOf ops) (s.nx + l.length) Q) (endP (prOf ops) l s Q) (prOf ops) l s.nx s []) : codeW P n b rd (.region id ops true) Q' s := by
 intro M φ0 H0 w0 cx φ a w ro k hs
 obtain ⟨asz, hl, hok, hfin⟩ := regD_lex l _ _ _ h
 have hlen : l.length = ops.size := by rw [lowL_length _ _ hlow]; simp
 have hpr : ∀ k, k < ops.size -> (prOf ops).getD k [] = predsOf ops k := by
  intro k hk; simp [prOf, List.getD_eq_getElem?_getD, List.getElem?_map, List.getElem?_range hk]
 have hpl : (prOf ops).length = ops.size := by simp [prOf]
 have hst := stF_foldA l asz s hl
 have hoc : ∀ k, k < ops.size -> l[k]? = some (ocOf l k) := fun k hk => by simp [ocOf, List.getD_eq_getElem?_getD, List.getElem?_eq_getElem (by omega : k < l.length)]
 have hac : ∀ k, k < ops.size -> asz[k]? = some (asz.getD k default) := fun k hk => by simp [List.getD_eq_getElem?_getD, List.getElem?_eq_getElem (by omega : k < asz.length)]
 have hmem : ∀ k, k < ops.size -> asz.getD k default ∈ asz := fun k hk => List.mem_of_getElem? (hac k hk)
 have hfp : ∀ k, k < ops.size -> (fps asz)[k]? = some (actR (asz.getD k default), actW (asz.getD k default)) := fun k hk => by
  simp only [fps, List.getElem?_map, hac k hk, Option.map_some]
 have hfpl : (fps asz).length = ops.size := by simp [fps, hl, hlen]
 simp only [List.nil_append, List.length_nil, Nat.zero_add] at hfin
 have hobj : objsOk (prOf ops) (fps asz) = true := by
  rcases hfin with ⟨_, h⟩ | ⟨v, wl, _, _, _, h, _⟩
  ·exact h.1
  ·exact h.1
 have hprl : ∀ k, k < ops.size -> ∀ j ∈ predsOf ops k, j < k := fun k hk j hj => by
  have := List.all_eq_true.1 hp k (by simpa [hpl] using hk)
  rw [hpr k hk] at this
  simpa using List.all_eq_true.1 this j hj
 have hpr0 : ∀ k, k < (prOf ops).length -> ∀ j ∈ (prOf ops).getD k [], j < k := fun k hk j hj => by
  rw [hpl] at hk; rw [hpr k hk] at hj; exact hprl k hk j hj
 let po : Nat -> Nat -> Prop := fun k j => ((masks (prOf ops) []).getD k 0).testBit j = true
 have hpo : ∀ E : Nat -> Bool, (∀ k, k < ops.size -> E k = true -> ∀ j ∈ predsOf ops k, E j = true) -> ∀ k, k < ops.size -> (∀ j ∈ predsOf ops k, E j = true) -> ∀ j, po k j -> E j = true := fun E hE k hk hj j hb =>
  masks_closed hpr0 (fun k hk hek j hj => by rw [hpl] at hk; rw [hpr k hk] at hj; exact hE k hk hek j hj) k (by rw [hpl]; exact hk) (by rw [hpr k hk]; exact hj) j hb
 have hpo2 : ∀ k, k < ops.size -> ∀ j, po k j -> j < k := fun k hk j hb => masks_lt hpr0 k (by rw [hpl]; exact hk) j hb
 have compat : ∀ i j, i < j -> j < ops.size -> ¬ po j i -> Compat (ocOf l) (fun i => asz.getD i default) (fun i => actR (asz.getD i default)) i j := by
  intro i j hij hj hn
  have ht' := List.all_eq_true.1 (List.all_eq_true.1 ht j (by simpa [hlen] using hj)) i (by simpa using hij)
  have ho' := List.all_eq_true.1 (List.all_eq_true.1 hobj j (by simpa [hfpl] using hj)) i (by simpa using hij)
  have hnc : ((masks (prOf ops) []).getD j 0).testBit i = false := by simpa [po] using hn
  rw [hnc, Bool.false_or] at ht' ho'
  simp only [Bool.and_eq_true] at ht' ho'
  have gi := hfp i (by omega)
  have gj := hfp j hj
  simp only [List.getD_eq_getElem?_getD (l := fps asz), gi, gj, Option.getD_some] at ho'
  have dj : ∀ {xs ys : List Nat}, disj xs ys = true -> ∀ x ∈ xs, x ∉ ys := fun h x hx => by simpa using List.all_eq_true.1 h x hx
  have fo : ∀ {x y : IOp}, freeOf x y = true -> ∀ d, x.dst = some d -> d ∉ touches y := fun h d hd => by simpa [freeOf, hd] using h
  exact ⟨fo ht'.1, fo ht'.2, fun id hid => ⟨dj ho'.1.1 id hid, dj ho'.1.2 id hid⟩, fun id hid => dj ho'.2 id hid⟩
 have hlexA : ∀ i, i < ops.size -> OkA P (stF (ocOf l) (fun i => asz.getD i default) (fun _ => true) s i) (s.nx + i) (ocOf l i) (asz.getD i default) := fun i hi => by
  rw [hst i (by omega)]; exact hok i _ _ (hoc i hi) (hac i hi)
 have hdst : ∀ i, i < ops.size -> ∀ t, (ocOf l i).dst = some t -> (dstsOf l).contains t = true := fun i hi t ht => by
  simp only [List.contains_iff_mem, dstsOf, List.mem_filterMap]
  exact ⟨ocOf l i, List.mem_of_getElem? (hoc i hi), ht⟩
 rcases hfin with ⟨hall, hfin⟩ | ⟨v, wl, q1, q2, q3, q4, q5, q6⟩
 ·refine draw_any (ac := fun i => asz.getD i default) (dl := dstsOf l) (wl := (asz.flatMap actW)) hmix hlow hprl hs hlexA (fun i hi hb => ?_) hpo hpo2 compat hdst (fun i hi id hid => ?_) (fun i v ws rd' hi hb => ?_) (fun _ φ a w hs' => ?_) (fun i v ws rd' hi hb => ?_)
  ·have := hall _ (hmem i hi); rw [hb] at this; cases this
  ·simp only [List.contains_iff_mem, List.mem_flatMap]; exact ⟨_, hmem i hi, hid⟩
  ·have := hall _ (hmem i hi); rw [hb] at this; cases this
  ·rw [hst ops.size (by omega), <- hlen] at hs'
   exact ⟨.normal, _, φ, hQ _ _ hfin.2, hs', trivial⟩
  ·have := hall _ (hmem i hi); rw [hb] at this; cases this
 ·refine draw_any (ac := fun i => asz.getD i default) (dl := dstsOf l) (wl := wl) hmix hlow hprl hs hlexA (fun i hi hb => ?_) hpo hpo2 compat hdst (fun i hi id hid => ?_) (fun i v' ws rd' hi hb => ?_) (fun hall φ a w hs' => ?_) (fun i v' ws rd' hi hb φ a w val hs' hd => ?_)
  ·obtain ⟨j, j1, j', e, y, j3, j4⟩ := q3 i (by rw [hac i hi]; exact congrArg some hb)
   rw [hpr i hi, e] at j1
   refine ⟨j', j1, ?_⟩
   simp only [List.getD_eq_getElem?_getD, j3, Option.getD_some, j4]
  ·simp only [List.contains_iff_mem]; exact q5 _ (hmem i hi) id hid
  ·intro id hid
   simp only [List.contains_iff_mem]
   exact (q1 i v' ws rd' (by rw [hac i hi]; exact congrArg some hb)).2 id hid
  ·obtain ⟨x, x1, x2⟩ := q2
   obtain ⟨i, hi1, hi2⟩ := List.getElem_of_mem x1
   have hi : i < ops.size := by omega
   have := hall i hi
   have e : asz.getD i default = x := by simp [List.getD_eq_getElem?_getD, List.getElem?_eq_getElem hi1, hi2]
   rw [e, x2] at this; cases this
  ·have e := (q1 i v' ws rd' (by rw [hac i hi]; exact congrArg some hb)).1
   subst e
   rw [<- hlen] at hs' hd
   exact ⟨.pan v', _, φ, hQ _ _ q4.2, hs', val, rfl, hd⟩
theorem lowL_drop {ops : Array Oper} : ∀ (l : List Oper) (l' : List IOp) (m : Nat), lowL n ops l = some l' -> lowL n ops (l.drop m) = some (l'.drop m)
 | l, l', 0, h => h
 | [], l', m + 1, h => by simp [lowL] at h; subst h; simp [lowL]
 | o :: l, l', m + 1, h => by
   simp only [lowL] at h
   split at h
   ·rename_i x xs hx hxs
    injection h with h; subst h
    exact lowL_drop l xs m hxs
   ·cases h
theorem stF_take {l : List IOp} {ac : Nat -> ActR} {E : Nat -> Bool} {s : S} {m : Nat} : ∀ k, k <= m -> stF (ocOf l) ac E s k = stF (ocOf (l.take m)) ac E s k := by
 intro k
 induction k with
 | zero => intro _; rfl
 | succ k ih =>
   intro hk
   have : ocOf l k = ocOf (l.take m) k := by simp [ocOf, List.getD_eq_getElem?_getD, List.getElem?_take, (by omega : k < m)]
   simp only [stF, ih (by omega), this]
theorem draw_code2 (hmix : P.follows .mixedOrders = true) {id : Nat} {ops : Array Oper} {l : List IOp} {Q Q' : Xit -> S -> Prop} {s : S} (hQ : ∀ e s, Q e s -> Q' e s) (hlow : lowL n ops ops.toList = some l) (ht : tmpsOkB l (prOf ops) = true)
 (hp : prOk (prOf ops) = true) (h : splitI P l (prOf ops) Q s) : codeW P n b rd (.region id ops true) Q' s := by
 intro M φ0 H0 w0 cx φ a w ro k hs
 obtain ⟨m, hml, hto, h⟩ := h
 obtain ⟨asz, hl, hok, hfin⟩ := regD_lex (l.take m) _ _ _ h
 have hlm : (l.take m).length = m := by rw [List.length_take]; omega
 have hlen : l.length = ops.size := by rw [lowL_length _ _ hlow]; simp
 have hfin := hfin.resolve_right (fun ⟨_, _, _, _, _, q4, _, _⟩ => q4)
 obtain ⟨hall, hfin⟩ := hfin
 have hal : asz.length = m := by omega
 have hpr : ∀ k, k < ops.size -> (prOf ops).getD k [] = predsOf ops k := by
  intro k hk; simp [prOf, List.getD_eq_getElem?_getD, List.getElem?_map, List.getElem?_range hk]
 have hpl : (prOf ops).length = ops.size := by simp [prOf]
 have hst : ∀ k, k <= m -> stF (ocOf l) (fun i => asz.getD i default) (fun _ => true) s k = foldA (l.take m) asz s k := fun k hk => by
  rw [stF_take k hk]; exact stF_foldA (l.take m) asz s hl k (by omega)
 have hoc : ∀ k, k < m -> (l.take m)[k]? = some (ocOf l k) := fun k hk => by
  rw [List.getElem?_take, if_pos hk]
  simp [ocOf, List.getD_eq_getElem?_getD, List.getElem?_eq_getElem (by omega : k < l.length)]
 have hac : ∀ k, k < m -> asz[k]? = some (asz.getD k default) := fun k hk => by simp [List.getD_eq_getElem?_getD, List.getElem?_eq_getElem (by omega : k < asz.length)]
 have hmem : ∀ k, k < m -> asz.getD k default ∈ asz := fun k hk => List.mem_of_getElem? (hac k hk)
 have hfp : ∀ k, k < m -> (fps asz)[k]? = some (actR (asz.getD k default), actW (asz.getD k default)) := fun k hk => by
  simp only [fps, List.getElem?_map, hac k hk, Option.map_some]
 have hfpl : (fps asz).length = m := by simp [fps, hal]
 simp only [List.nil_append] at hfin
 obtain ⟨hobj, hreg⟩ := hfin
 have hprl : ∀ k, k < ops.size -> ∀ j ∈ predsOf ops k, j < k := fun k hk j hj => by
  have := List.all_eq_true.1 hp k (by simpa [hpl] using hk)
  rw [hpr k hk] at this
  simpa using List.all_eq_true.1 this j hj
 have hpr0 : ∀ k, k < (prOf ops).length -> ∀ j ∈ (prOf ops).getD k [], j < k := fun k hk j hj => by
  rw [hpl] at hk; rw [hpr k hk] at hj; exact hprl k hk j hj
 let po : Nat -> Nat -> Prop := fun k j => ((masks (prOf ops) []).getD k 0).testBit j = true
 have hpo : ∀ E : Nat -> Bool, (∀ k, k < ops.size -> E k = true -> ∀ j ∈ predsOf ops k, E j = true) -> ∀ k, k < ops.size -> (∀ j ∈ predsOf ops k, E j = true) -> ∀ j, po k j -> E j = true := fun E hE k hk hj j hb =>
  masks_closed hpr0 (fun k hk hek j hj => by rw [hpl] at hk; rw [hpr k hk] at hj; exact hE k hk hek j hj) k (by rw [hpl]; exact hk) (by rw [hpr k hk]; exact hj) j hb
 have hpo2 : ∀ k, k < ops.size -> ∀ j, po k j -> j < k := fun k hk j hb => masks_lt hpr0 k (by rw [hpl]; exact hk) j hb
 have compat : ∀ i j, i < j -> j < m -> ¬ po j i -> Compat (ocOf l) (fun i => asz.getD i default) (fun i => actR (asz.getD i default)) i j := by
  intro i j hij hj hn
  have ht' := List.all_eq_true.1 (List.all_eq_true.1 ht j (by simp; omega)) i (by simpa using hij)
  have ho' := List.all_eq_true.1 (List.all_eq_true.1 hobj j (by simpa [hfpl] using hj)) i (by simpa using hij)
  have hnc : ((masks (prOf ops) []).getD j 0).testBit i = false := by simpa [po] using hn
  rw [hnc, Bool.false_or] at ht' ho'
  simp only [Bool.and_eq_true] at ht' ho'
  have gi := hfp i (by omega)
  have gj := hfp j hj
  simp only [List.getD_eq_getElem?_getD (l := fps asz), gi, gj, Option.getD_some] at ho'
  have dj : ∀ {xs ys : List Nat}, disj xs ys = true -> ∀ x ∈ xs, x ∉ ys := fun h x hx => by simpa using List.all_eq_true.1 h x hx
  have fo : ∀ {x y : IOp}, freeOf x y = true -> ∀ d, x.dst = some d -> d ∉ touches y := fun h d hd => by simpa [freeOf, hd] using h
  exact ⟨fo ht'.1, fo ht'.2, fun id hid => ⟨dj ho'.1.1 id hid, dj ho'.1.2 id hid⟩, fun id hid => dj ho'.2 id hid⟩
 have htl : ∀ k, m <= k -> k < ops.size -> ∀ j, j < k -> po k j := fun k hmk hk j hj => by
  have := List.all_eq_true.1 hto k (by simpa [hpl] using hk)
  simp only [Bool.or_eq_true] at this
  rcases this with this | this
  ·exact absurd (Nat.blt_eq.mp this) (by omega)
  ·show ((masks (prOf ops) []).getD k 0).testBit j = true
   rw [Nat.eq_of_beq_eq_true this, Nat.testBit_two_pow_sub_one]
   exact decide_eq_true hj
 refine draw_split (ac := fun i => asz.getD i default) (m := m) (X := fun v s => Q' (.pan v) s) (K := Q' .normal) hmix hlow hprl (by omega) hs (fun i hi => ?_) (fun i hi => hall _ (hmem i hi)) hpo hpo2 compat htl ?_ (fun s φ a w hk hs' => ⟨.normal, s, φ, hk, hs', trivial⟩) (fun v s' φ' a' w' val hx hs' hd => ⟨.pan v, s', φ', hx, hs', val, rfl, hd⟩)
 ·rw [hst i (by omega)]; exact hok i _ _ (hoc i hi) (hac i hi)
 ·rw [hst m (Nat.le_refl _)]
  rw [hlm] at hreg
  exact regI_regW (fun s hs => hQ _ _ hs) (fun v s hs => hQ _ _ hs) _ _ _ (lowL_drop _ _ m hlow) hreg
theorem rngW_mono {g : V} {ps : List Nat} {x y : IC} {Q Q' : Xit -> S -> Prop} {s : S} (hQ : ∀ e s, Q e s -> Q' e s) (h : rngW P n g ps x y Q s) : rngW P n g ps x y Q' s := by
 obtain ⟨env, h1, h2⟩ := h
 refine ⟨env, h1, ?_⟩
 split at h2
 ·refine heapW.mono (fun v o n h => ?_) (fun v o n h => hQ _ _ h) h2
  obtain ⟨nf, m, e, p, c, d, st, pd, k1, k2, k3⟩ := h
  refine ⟨nf, m, e, p, c, d, st, pd, k1, k2, ?_⟩
  cases pd with
  | none => exact hQ _ _ k3
  | some j => cases j <;> exact hQ _ _ k3
 ·exact h2
theorem icW_codeW (hmix : P.follows .mixedOrders = true) : ∀ (c : Code) (Q Q' : Xit -> S -> Prop) (s : S), (∀ e s, Q e s -> Q' e s) -> icW P n b rd (low n c) Q s -> codeW P n b rd c Q' s := by
 intro c
 induction c with
 | skip => exact fun Q Q' s hQ h => hQ _ _ h
 | scope x ih => exact fun Q Q' s hQ h => ih Q Q' s hQ h
 | label l => exact fun Q Q' s hQ h => hQ _ _ h
 | exit id => exact fun Q Q' s hQ h => hQ _ _ h
 | ret => exact fun Q Q' s hQ h => hQ _ _ h
 | goto l => exact fun Q Q' s hQ h => h.elim
 | refuse y => exact fun Q Q' s hQ h => h.elim
 | rangeFunc f p x y => exact fun Q Q' s hQ h => ⟨h.1, rngW_mono hQ h.2⟩
 | region id ops draw =>
   intro Q Q' s hQ h
   cases draw with
   | true =>
     simp only [low] at h
     split at h
     ·rename_i l hl
      split at h
      ·rename_i hc
       simp only [Bool.and_eq_true] at hc
       rcases h with h | h
       ·exact draw_code hmix hQ hl hc.1 hc.2 h
       ·exact draw_code2 hmix hQ hl hc.1 hc.2 h
      ·exact h.elim
     ·exact h.elim
   | false =>
     simp only [low] at h
     split at h
     ·rename_i l hl; exact regI_regW (fun s hs => hQ _ _ hs) (fun v s hs => hQ _ _ hs) _ l s hl h
     ·exact h.elim
 | seq x y ihx ihy =>
   intro Q Q' s hQ h
   refine ihx _ _ s (fun e s he => ?_) h
   cases e <;> first | exact ihy Q Q' s hQ he | exact hQ _ _ he
 | cond c x y ihx ihy =>
   intro Q Q' s hQ h
   simp only [low, icW] at h
   simp only [codeW]
   split at h
   ·rename_i t hc
    simp only [hc]
    exact ⟨fun ht => ihx Q Q' s hQ (h.1 ht), fun ht => ihy Q Q' s hQ (h.2 ht)⟩
   ·rename_i hc
    simp only [hc]
    exact ⟨ihx Q Q' s hQ h.1, ihy Q Q' s hQ h.2⟩
   ·exact h.elim
 | block id x ih =>
   intro Q Q' s hQ h
   refine ih _ _ s (fun e s he => ?_) h
   cases e <;> simp only [blockQ] at he ⊢ <;> first
    | exact hQ _ _ he
    | (split at he <;> rename_i e
       ·rw [if_pos e]; exact hQ _ _ he
       ·rw [if_neg e]; exact hQ _ _ he)
 | loop x ih =>
   intro Q Q' s hQ h
   obtain ⟨J, h0, hr⟩ := h
   refine ⟨J, h0, fun m s0 hJ => ih _ _ s0 (fun e s he => ?_) (hr m s0 hJ)⟩
   cases e <;> first | exact hQ _ _ he | exact he
structure FnIs (P : Program) (f : FuncId) (n : Nat) (ic : IC) (rs : List ResultVar) : Prop where
 get : ∃ fn, P.funcs[f]? = some fn /\ (fn.name == "runtime.NumGoroutine") = false /\ fn.ntmps = n /\ fn.results.toList = rs /\ ∃ c, fn.body = some c /\ low n c = ic
theorem CtK.of_ic (hmix : P.follows .mixedOrders = true) {f : FuncId} {ic : IC} {rs : List ResultVar} (hf : FnIs P f n ic rs) {args : List V} {o : Nat -> Obj'} {nx : Nat} {K X : V -> (Nat -> Obj') -> Nat -> Prop} (hl : args.length <= n) (h : icW P n nx false ic (endK P rs K X) ⟨argsEnv args, o, nx⟩) : CtK P f args o nx K X := by
 obtain ⟨fn, h1, h2, rfl, rfl, c, h3, rfl⟩ := hf.get
 exact CtK.of_code h1 h2 h3 hl (icW_codeW hmix c _ _ _ (fun _ _ h => h) h)
theorem PCt.of_ic (hmix : P.follows .mixedOrders = true) {f : FuncId} {ic : IC} {rs : List ResultVar} (hf : FnIs P f n ic rs) {ds : List D} {out : R} (hl : ds.length <= n) (h : icW P n 0 false ic (endW P rs out) ⟨argsEnv (ds.map .d), fun _ => .no, 0⟩) : PCt P f ds out := by
 obtain ⟨fn, h1, h2, rfl, rfl, c, h3, rfl⟩ := hf.get
 exact PCt.of_ctk (CtK.of_code h1 h2 h3 (by simpa using hl) (icW_codeW hmix c _ _ _ (fun e s h => endW_endK e s h) h))
end
end Go.Proofs.YtealblliddhgiaaGreat
