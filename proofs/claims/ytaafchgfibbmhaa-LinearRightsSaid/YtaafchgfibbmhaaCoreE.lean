/-
  OPERATIONS THAT READ, MOVE OR RECKON: what the model's operation does is what 'sop' says. Conditions: as each lemma says.
-/
import Derived.Test.YtaafchgfibbmhaaCoreD
import Derived.Great.BuildSlice
import Derived.Great.FillDense
namespace Go.Proofs.Ytaafchgfibbmhaa

/-- The operation ends well, as 'K' allows, and the heap is as it should be. -/
def Eff (M : Nat → Prop) (φ : Place) (H : Hp) (w : World) (fr : Nat) (r : Result Next) (K : V → List (Nat × Obj') → List Nat → Prop) : Prop :=
  ∃ nx val w' φ' v Δ rd, K v Δ rd ∧ r = .ok nx w' ∧ (nx = .value val ∨ nx = .skip ∧ val = undef) ∧ HeapOk M φ' (H.put Δ) w' ∧ Trans φ H w φ' (H.put Δ) w' ∧
    V.den (mutB M φ' (H.put Δ)) φ' (H.put Δ) w' v val ∧ (∀ id ∈ Δ.map (·.1), H.us id ∨ id = fr)

section
variable {P : Program} {M : Nat → Prop} {φ : Place} {H : Hp} {w : World} {fr : Nat} {K : V → List (Nat × Obj') → List Nat → Prop}

theorem Eff.same (hH : HeapOk M φ H w) {r : Result Next} {v : V} {rd : List Nat} (val : Value) (hK : K v [] rd) (hr : r = .ok (.value val) w) (hd : V.den (mutB M φ H) φ H w v val) : Eff M φ H w fr r K :=
  ⟨_, val, w, φ, v, [], rd, hK, hr, .inl rfl, by rw [put_nil]; exact hH, by rw [put_nil]; exact Trans.refl _ _ _, by rw [put_nil]; exact hd, by simp⟩

theorem Eff.mono {r : Result Next} {K' : V → List (Nat × Obj') → List Nat → Prop} (h : Eff M φ H w fr r K) (hk : ∀ v Δ rd, K v Δ rd → K' v Δ rd) : Eff M φ H w fr r K' := by
  obtain ⟨nx, val, w', φ', v, Δ, rd, h1, h2⟩ := h
  exact ⟨nx, val, w', φ', v, Δ, rd, hk _ _ _ h1, h2⟩

/-! Types -/
theorem info_of_underlying {t : TypeId} {d : TypeDesc} (h : P.underlying t = some d) : ∃ i, P.info? t = some i := by
  unfold Program.underlying at h
  cases hi : P.info? t with
  | none => simp [hi] at h
  | some i => exact ⟨i, rfl⟩
theorem cellsOf_info {t : TypeId} {i : TypeInfo} (h : P.info? t = some i) : P.cellsOf t = i.size := by simp [Program.cellsOf, h]
theorem bytesOf_info {t : TypeId} {i : TypeInfo} (h : P.info? t = some i) : P.bytesOf t = i.bytes := by simp [Program.bytesOf, h]
theorem zeroT_spec {t : TypeId} {z : List V} (h : zeroT P t = some z) : ∃ i v, P.info? t = some i ∧ i.zero = some v ∧ v.cells.size = i.size ∧ Flat v.cells.toList ∧ z = v.cells.toList.map V.ofScalar := by
  unfold zeroT at h
  cases hi : P.info? t with
  | none => simp [hi] at h
  | some i =>
    simp only [hi] at h
    cases hz : i.zero with
    | none => simp [hz] at h
    | some v =>
      simp only [hz] at h
      split at h
      · rename_i hc
        injection h with h
        exact ⟨i, v, rfl, hz, hc.1, fun u hu => List.all_eq_true.1 hc.2 u hu, h.symm⟩
      · cases h
theorem aggT_true {t : TypeId} (h : aggT P t = some true) (w : World) : (isAgg t).run P w = .ok true w := by
  unfold aggT at h
  unfold isAgg
  cases hd : P.underlying t with
  | none => simp [hd] at h
  | some d => cases d <;> simp_all [run_underlying hd]
theorem aggT_false {t : TypeId} (h : aggT P t = some false) (w : World) : (isAgg t).run P w = .ok false w := by
  unfold aggT at h
  unfold isAgg
  cases hd : P.underlying t with
  | none => simp [hd] at h
  | some d => cases d <;> simp_all [run_underlying hd]
theorem run_size {t : TypeId} {i : TypeInfo} (h : P.info? t = some i) (w : World) : (sizeOf t).run P w = .ok (P.cellsOf t) w := by
  simp [sizeOf, typeInfo, h, cellsOf_info h]
theorem aggT_info {t : TypeId} {b : Bool} (h : aggT P t = some b) : ∃ i, P.info? t = some i := by
  unfold aggT at h
  cases hd : P.underlying t with
  | none => simp [hd] at h
  | some d => exact info_of_underlying hd
theorem sliceT_spec {t e : TypeId} (h : sliceT P t = some e) : P.underlying t = some (.slice e) := by
  unfold sliceT at h
  cases hd : P.underlying t with
  | none => simp [hd] at h
  | some d => cases d <;> simp_all
theorem arrT_spec {t e : TypeId} {n : Nat} (h : arrT P t = some (n, e)) : P.underlying t = some (.array n e) := by
  unfold arrT at h
  cases hd : P.underlying t with
  | none => simp [hd] at h
  | some d => cases d <;> simp_all

/-! Addresses -/
theorem add_zero (a : Addr) : a.add 0 = a := by simp [Addr.add]
theorem add_plain (b o j : Nat) : (⟨b, o, none⟩ : Addr).add j = ⟨b, o + j, none⟩ := by
  unfold Addr.add; split
  · rename_i h; subst h; rfl
  · rfl
theorem add_add (a : Addr) (h : a.spot = none) (m n : Nat) : (a.add m).add n = a.add (m + n) := by
  obtain ⟨b, o, s⟩ := a
  simp only at h; subst h
  simp only [add_plain, Nat.add_assoc]
theorem add_spot (a : Addr) (h : a.spot = none) (m : Nat) : (a.add m).spot = none := by
  unfold Addr.add; split <;> first | exact h | rfl

/-! Operands -/
theorem ev_den (s : S) (a : Act) (henv : ∀ i, V.den (mutB M φ H) φ H w (s.env i) (a.tmps.getD i undef)) (x : Operand) : V.den (mutB M φ H) φ H w (s.ev x) (a.eval x) := by
  cases x with
  | tmp t => exact henv t
  | func f => exact ⟨#[], #[], rfl, rfl, rfl⟩
  | global g => trivial
  | const v =>
    cases v with
    | agg c =>
      simp only [S.ev, V.ofConst, Act.eval]
      split
      · rename_i hc
        have hf : Flat c.toList := fun u hu => List.all_eq_true.1 hc u hu
        exact mkAgg_den _ _ (ofScalars_dens _ hf) hf
      · trivial
    | tuple _ => trivial
    | _ => simp only [S.ev, V.ofConst, Act.eval]; exact ofScalar_den _ (by rfl)
theorem evs_den (s : S) (a : Act) (henv : ∀ i, V.den (mutB M φ H) φ H w (s.env i) (a.tmps.getD i undef)) : ∀ (xs : List Operand), V.dens (mutB M φ H) φ H w (xs.map s.ev) (xs.map a.eval)
  | [] => rfl
  | x :: xs => ⟨a.eval x, xs.map a.eval, rfl, ev_den s a henv x, evs_den s a henv xs⟩

/-! Loads -/
theorem run_load_cells {t : TypeId} (a : Addr) (us : List Value) (hc : ∀ j u, us[j]? = some u → w.cell? (a.add j) = some u) :
    (aggT P t = some true → us.length = P.cellsOf t → (Instr.loadAt t (.pointer (some a))).run P w = .ok (.agg us.toArray) w) ∧
    (aggT P t = some false → ∀ u, us[0]? = some u → (Instr.loadAt t (.pointer (some a))).run P w = .ok u w) := by
  constructor
  · intro h hl
    obtain ⟨i, hi⟩ := aggT_info h
    have h1 := run_loadCells_list (P := P) w a us hc
    rw [hl] at h1
    simp [Instr.loadAt, Instr.sureAddr, loadVar, aggT_true h, run_size hi, h1]
  · intro h u hu
    have h1 := hc 0 u hu
    rw [add_zero] at h1
    simp [Instr.loadAt, Instr.sureAddr, loadVar, aggT_false h, h1]

theorem load_row {t : TypeId} {cs : List V} {off : Nat} {v : V} (hg : rowGet P t cs off = some v) (a : Addr) (vs : List Value) (hd : V.dens (mutB M φ H) φ H w cs vs) (hf : Flat vs)
    (hc : ∀ j u, vs[j]? = some u → w.cell? (a.add j) = some u) (ha : a.spot = none) : ∃ val, (Instr.loadAt t (.pointer (some (a.add off)))).run P w = .ok val w ∧ V.den (mutB M φ H) φ H w v val := by
  have hlen := V.dens_length _ _ hd
  unfold rowGet at hg
  cases hagg : aggT P t with
  | none => simp [hagg] at hg
  | some b =>
    cases b with
    | true =>
      simp only [hagg] at hg
      split at hg
      · rename_i hle
        injection hg with hg; subst hg
        refine ⟨.agg ((vs.drop off).take (P.cellsOf t)).toArray, (run_load_cells (P := P) (t := t) (a.add off) ((vs.drop off).take (P.cellsOf t)) ?_).1 hagg (by simp; omega), ?_⟩
        · intro j u hj
          rw [add_add a ha]
          rw [List.getElem?_take] at hj
          split at hj
          · exact hc _ _ (by simpa using hj)
          · cases hj
        · refine mkAgg_den _ _ ?_ ?_
          · exact V.dens_take _ _ _ (V.dens_drop _ _ _ hd)
          · intro u hu
            exact hf u (List.mem_of_mem_drop (List.mem_of_mem_take (by simpa using hu)))
      · cases hg
    | false =>
      simp only [hagg] at hg
      obtain ⟨u, hu, hdu⟩ := V.dens_get _ _ _ _ hd hg
      refine ⟨u, (run_load_cells (P := P) (t := t) (a.add off) (vs.drop off) ?_).2 hagg u (by simpa using hu), hdu⟩
      intro j x hj
      rw [add_add a ha]
      exact hc _ _ (by simpa using hj)

theorem flatMap_get (sz : Nat) : ∀ (evs : List Value) (i j : Nat) (ev : Value) (u : Value), (∀ x ∈ evs, x.cells.size = sz) → evs[i]? = some ev → ev.cells[j]? = some u →
    (evs.flatMap (·.cells.toList))[i * sz + j]? = some u
  | [], _, _, _, _, _, h, _ => by simp at h
  | e :: evs, 0, j, ev, u, hs, h, hu => by
    simp at h; subst h
    have : j < e.cells.size := (Array.getElem?_eq_some_iff.1 hu).1
    rw [List.flatMap_cons, List.getElem?_append_left (by simp; omega)]
    simpa using hu
  | e :: evs, i + 1, j, ev, u, hs, h, hu => by
    have ih := flatMap_get sz evs i j ev u (fun x hx => hs x (by simp [hx])) (by simpa using h) hu
    rw [List.flatMap_cons, List.getElem?_append_right (by simp [hs e (by simp), Nat.add_mul]; omega)]
    simp only [Array.length_toList, hs e (by simp)]
    rw [show (i + 1) * sz + j - sz = i * sz + j by rw [Nat.add_mul]; omega]
    exact ih

theorem row_cell {g : Nat} {carr : Array Value} {ty : TypeId} {fz : Nat × Nat} (h : w.heap[g]? = some (.cells carr ty fz)) (j : Nat) (u : Value) (hu : carr[j]? = some u) : w.cell? ((⟨g, 0, none⟩ : Addr).add j) = some u := by
  rw [add_plain, Nat.zero_add, cell_of_row w g j carr ty fz h]; exact hu

/-- An element of an array that we hold, in memory. -/
theorem arr_elem {B : Nat → Prop} {ty : TypeId} {sz : Nat} {es : List D} {v : Value} {b n c i : Nat} {e : D}
    (hok : 0 < sz ∧ ∃ xs, w.ownsRow 0 ty sz v es.length xs ∧ RowDen B w sz es xs) (hv : v = .slice (some ⟨b, 0, none⟩) n c) (he : es[i]? = some e) :
    ∃ ev : Value, ev.cells.size = sz ∧ D.dens B w e.cells ev.cells.toList ∧ Flat ev.cells.toList ∧ (∀ j u, ev.cells.toList[j]? = some u → w.cell? ((⟨b, i * sz, none⟩ : Addr).add j) = some u) := by
  obtain ⟨h0, xs, ⟨hl, hrow⟩, evs, rfl, h2, h3⟩ := hok
  obtain ⟨ev, hev, hd⟩ := D.dens_get _ _ _ _ h3 he
  have hcd := D.den_cells _ _ hd
  refine ⟨ev, h2 ev (List.mem_of_getElem? hev), hcd.1, hcd.2, fun j u hj => ?_⟩
  subst hv
  rcases hrow with ⟨h4, _⟩ | ⟨g, cap, cur, h4, _, h5, h6, h7, h8, h9⟩
  · simp at h4
  · simp at h4; obtain ⟨rfl, _, rfl⟩ := h4
    have := flatMap_get sz evs i j ev u h2 hev (by simpa using hj)
    rw [← h9, List.getElem?_take] at this
    split at this
    · have h10 := row_cell h5 (i * sz + j) u (by simpa using this)
      rw [add_plain] at h10 ⊢
      simpa using h10
    · cases this

theorem eff_load (hH : HeapOk M φ H w) {t : TypeId} {x : V} {xv : Value} (hx : V.den (mutB M φ H) φ H w x xv)
    (h : loadV P H.o t x fun v rd => K v [] rd) : Eff M φ H w fr ((do let y ← Instr.loadAt t xv; pure (Next.value y) : Sem Next).run P w) K := by
  have fin : ∀ (v : V) rd, K v [] rd → (∃ val, (Instr.loadAt t xv).run P w = .ok val w ∧ V.den (mutB M φ H) φ H w v val) → Eff M φ H w fr ((do let y ← Instr.loadAt t xv; pure (Next.value y) : Sem Next).run P w) K := by
    rintro v rd hK ⟨val, h1, h2⟩
    exact Eff.same hH val hK (by simp [h1]) h2
  unfold loadV at h
  split at h
  · rename_i id off
    split at h
    · rename_i cs ho
      obtain ⟨v, h1, hK⟩ := h
      obtain ⟨_, hu, hp⟩ := hx
      obtain ⟨b, hφ, rfl⟩ := hp (by rw [ho]; rfl)
      have hok := hH.ok id
      simp only [ObjOk, ho] at hok
      obtain ⟨b', carr, ty, g1, g2, g3, g4⟩ := hok
      rw [hφ] at g1; simp at g1; subst g1
      refine fin v _ hK ?_
      have := load_row (P := P) h1 ⟨b, 0, none⟩ carr.toList g3 g4 (fun j u hj => row_cell g2 j u (by simpa using hj)) rfl
      rwa [add_plain, Nat.zero_add] at this
    · exact h.elim
  · rename_i cs off
    obtain ⟨v, h1, hK⟩ := h
    obtain ⟨a, ev, ha, rfl, hd, hf, hc⟩ := hx
    exact fin v _ hK (load_row h1 a ev ((V.dens_map_d _ _).2 hd) hf (fun j u hj => (hc j u (by simpa using hj)).1) ha)
  · rename_i id ep i sz off
    split at h
    · rename_i ep' ty sz' es ho
      obtain ⟨rfl, rfl, e, he, v, h1, hK⟩ := h
      obtain ⟨_, hu, hp⟩ := hx
      obtain ⟨b, n, c, hφ, rfl⟩ := (hp ep (by rw [ho]; rfl)).2 rfl
      have hok := hH.ok id
      simp only [ObjOk, ho] at hok
      obtain ⟨ev, g1, g2, g3, g4⟩ := arr_elem hok hφ he
      refine fin v _ hK ?_
      have := load_row (P := P) h1 ⟨b, i * sz, none⟩ ev.cells.toList ((V.dens_map_d _ _).2 g2) g3 g4 rfl
      rwa [add_plain] at this
    · exact h.elim
  · exact h.elim
end
end Go.Proofs.Ytaafchgfibbmhaa
