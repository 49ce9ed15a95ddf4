/-
  '==' OF STRUCTS AND ARRAYS OF PLAIN PARTS, reckoned from data ('eqT'). Conditions: none.
-/
import Derived.Test.YtaafchgfibbmhaaCoreF
import Derived.ChangeKeysEq
namespace Go.Proofs.Ytaafchgfibbmhaa

section
variable {P : Program} {B : Nat → Prop} {w : World}

theorem flat_cells {a : Array Value} (hf : Flat a.toList) {i : Nat} {v : Value} (h : a[i]? = some v) : v.oneCell' = true :=
  hf v (Array.mem_toList_iff.2 (Array.mem_of_getElem? h))

theorem run_partD {t : TypeId} {xs : List D} {off : Nat} {x : D} (h : partD P t xs off = some x) {arr : Array Value} (hd : D.dens B w xs arr.toList) (hf : Flat arr.toList) :
    ∃ u, (∀ w', (part t arr off).run P w' = .ok u w') ∧ D.den B w x u := by
  unfold partD at h
  split at h
  · rename_i ha
    split at h
    · rename_i hl
      injection h with h; subst h
      obtain ⟨i, hi⟩ := aggT_info ha
      refine ⟨.agg (arr.extract off (off + P.cellsOf t)), fun w' => ?_, _, rfl, ?_, ?_⟩
      · simp only [part, Sem.run_bind, aggT_true ha w', Result.andThen_ok, if_true, run_size hi w', Sem.run_pure]
      · have := D.dens_take (P.cellsOf t) _ _ (D.dens_drop off _ _ hd)
        simpa [Array.toList_extract, List.extract] using this
      · intro u hu
        simp only [Array.toList_extract, List.extract] at hu
        exact hf u (List.mem_of_mem_drop (List.mem_of_mem_take hu))
    · cases h
  · rename_i ha
    obtain ⟨u, hu, hdu⟩ := D.dens_get _ _ _ _ hd h
    refine ⟨u, fun w' => ?_, hdu⟩
    have hu' : arr[off]? = some u := by simpa using hu
    simp only [part, Sem.run_bind, aggT_false ha w', Result.andThen_ok, Bool.false_eq_true, if_false, hu', Sem.run_pure]
  · cases h

theorem andO_some {a b : Option Bool} {r : Bool} (h : andO a b = some r) : ∃ x y, a = some x ∧ b = some y ∧ r = (x && y) := by
  unfold andO at h
  split at h
  · injection h with h; exact ⟨_, _, rfl, rfl, h.symm⟩
  · cases h

/-- The two are compared so, in every memory. -/
def EqD (P : Program) (m : Nat) (t : TypeId) (x y : D) (r : Bool) : Prop :=
  ∀ (B : Nat → Prop) (w : World) (u v : Value), D.den B w x u → D.den B w y v → (Op.equalIn m t u v).run P w = .ok r w

theorem eqFields_run {d m : Nat} (IH : ∀ t x y r, eqT P d t x y = some r → EqD P m t x y r) {xs ys : List D} {as bs : Array Value} (ha : D.dens B w xs as.toList) (hfa : Flat as.toList) (hb : D.dens B w ys bs.toList) (hfb : Flat bs.toList) :
    ∀ (fs : List Field) (r : Bool), (∀ f ∈ fs, f.name ≠ "_") → fldsE (fun u off => eq2 (eqT P d u) (partD P u xs off) (partD P u ys off)) (fs.map fun f => (f.type, f.offset)) = some r →
      (Op.eqFields m as bs fs).run P w = .ok r w
  | [], r, _, h => by simp [fldsE] at h; subst h; simp [Op.eqFields]
  | f :: fs, r, hn, h => by
    obtain ⟨x, y, h1, h2, rfl⟩ := andO_some h
    simp only [eq2] at h1
    split at h1
    · rename_i p q hp hq
      obtain ⟨u, k1, k2⟩ := run_partD hp ha hfa
      obtain ⟨v, k3, k4⟩ := run_partD hq hb hfb
      have h3 := IH _ _ _ _ h1 B w u v k2 k4
      have h4 := eqFields_run IH ha hfa hb hfb fs y (fun g hg => hn g (by simp [hg])) h2
      have hne := hn f (by simp)
      simp only [Op.eqFields, hne, ne_eq, not_false_eq_true, if_true, Sem.run_bind, k1, k3, h3, Result.andThen_ok]
      cases x
      · simp
      · simpa using h4
    · cases h1

theorem eqItems_run {d m : Nat} {e : TypeId} (IH : ∀ t x y r, eqT P d t x y = some r → EqD P m t x y r) {xs ys : List D} {as bs : Array Value} (ha : D.dens B w xs as.toList) (hfa : Flat as.toList) (hb : D.dens B w ys bs.toList) (hfb : Flat bs.toList) :
    ∀ (n i : Nat) (r : Bool), itmsE (fun i => eq2 (eqT P d e) (partD P e xs (i * P.cellsOf e)) (partD P e ys (i * P.cellsOf e))) n i = some r →
      (Op.eqItems m e (P.cellsOf e) as bs (List.range' i n)).run P w = .ok r w
  | 0, i, r, h => by simp [itmsE] at h; subst h; simp [Op.eqItems]
  | n + 1, i, r, h => by
    obtain ⟨x, y, h1, h2, rfl⟩ := andO_some h
    simp only [eq2] at h1
    split at h1
    · rename_i p q hp hq
      obtain ⟨u, k1, k2⟩ := run_partD hp ha hfa
      obtain ⟨v, k3, k4⟩ := run_partD hq hb hfb
      have h3 := IH _ _ _ _ h1 B w u v k2 k4
      have h4 := eqItems_run IH ha hfa hb hfb n (i + 1) y h2
      simp only [List.range'_succ, Op.eqItems, Sem.run_bind, k1, k3, h3, Result.andThen_ok]
      cases x
      · simp
      · simpa using h4
    · cases h1

theorem eqT_run : ∀ (d : Nat) (t : TypeId) (x y : D) (r : Bool), eqT P d t x y = some r → ∀ m, d ≤ m → EqD P m t x y r
  | 0, _, _, _, _, h => by simp [eqT] at h
  | d + 1, t, x, y, r, h => by
    intro m hm B w u v hu hv
    obtain ⟨m, rfl⟩ : ∃ k, m = k + 1 := ⟨m - 1, by omega⟩
    have IH : ∀ t x y r, eqT P d t x y = some r → EqD P m t x y r := fun t x y r h => eqT_run d t x y r h m (by omega)
    unfold eqT at h
    cases hs : eqShape P t with
    | none => rw [hs] at h; cases h
    | some sh =>
      rw [hs] at h
      unfold eqShape at hs
      cases ht : P.underlying t with
      | none => rw [ht] at hs; cases hs
      | some td =>
        rw [ht] at hs
        cases td <;> simp only [Option.some.injEq, reduceCtorEq] at hs
        case int k0 =>
          subst hs
          simp only at h
          split at h
          · split at h
            · rename_i e; subst e; injection h with h; subst h
              simp only [D.den] at hu hv; subst hu; subst hv
              exact run_equalIn_int w m t _ _ _ _ ht
            · cases h
          · cases h
        case bool =>
          subst hs
          simp only at h
          split at h
          · injection h with h; subst h
            simp only [D.den] at hu hv; subst hu; subst hv
            exact run_equalIn_bool' w m t _ _ ht
          · cases h
        case string =>
          subst hs
          simp only at h
          split at h
          · injection h with h; subst h
            obtain ⟨s1, rfl, rfl⟩ := hu
            obtain ⟨s2, rfl, rfl⟩ := hv
            rw [run_equalIn_string w m t _ _ ht]
            rw [ByteArray.toList_eq, ByteArray.toList_eq]
          · cases h
        case struct fs =>
          split at hs
          · rename_i hc
            injection hs with hs; subst hs
            simp only [Bool.and_eq_true, Bool.not_eq_true', List.all_eq_true, bne_iff_ne] at hc
            simp only at h
            split at h
            · obtain ⟨as, rfl, ha, hfa⟩ := hu
              obtain ⟨bs, rfl, hb, hfb⟩ := hv
              have hfs : P.fieldsOf t = fs := by simp [Program.fieldsOf, ht]
              rw [run_equalIn_struct w m t as bs (by rw [hfs]; exact ht) hc.1, hfs]
              exact eqFields_run IH ha hfa hb hfb _ _ hc.2 h
            · cases h
          · cases hs
        case array n e =>
          split at hs
          · rename_i hc
            injection hs with hs; subst hs
            simp only at h
            split at h
            · obtain ⟨as, rfl, ha, hfa⟩ := hu
              obtain ⟨bs, rfl, hb, hfb⟩ := hv
              obtain ⟨i, hi⟩ := Option.isSome_iff_exists.1 hc
              rw [run_equalIn_array w m as bs ht hi, List.range_eq_range']
              exact eqItems_run IH ha hfa hb hfb _ _ _ h
            · cases h
          · cases hs

theorem eqT_at {t : TypeId} {as bs : List D} {r : Bool} (h : eqT P 100 t (.agg as) (.agg bs) = some r) (hg : P.eqGuardType P.depth t = false) : EqlAt P t (.agg as) (.agg bs) r := by
  intro B w u v hu hv
  refine ⟨eqT_run 100 t _ _ _ h _ (by decide) B w u v hu hv, fun op a b => ?_⟩
  obtain ⟨as, rfl, _⟩ := hu
  obtain ⟨bs, rfl, _⟩ := hv
  exact run_eqGuard_agg w op t a b as bs hg
end
end Go.Proofs.Ytaafchgfibbmhaa
