/-
  EVERY OPERATION THAT CALLS NO FUNCTION OF THE PROGRAM: 'sop_sound'. Conditions: the heap is as it should be, the temporaries mean what the state says, the new object's number is free.
-/
import Derived.Test.YtaafchgfibbmhaaCoreCm
namespace Go.Proofs.Ytaafchgfibbmhaa
section
variable {P : Program} {M : Nat → Prop} {φ : Place} {H : Hp} {w w' : World} {fr : Nat} {K : V → List (Nat × Obj') → List Nat → Prop}

theorem eff_nilCheck (hH : HeapOk M φ H w) {o : Oper} {a : Act} {q : Operand} (ho : o.op = .nilCheck q) {x : V} (hx : V.den (mutB M φ H) φ H w x (a.eval q))
    (h : nilCheckV H.o x fun v => K v [] []) : Eff M φ H w fr ((execOp a.eval o).run P w) K := by
  unfold nilCheckV at h
  have hx' := hx
  split at h
  · rename_i id off
    obtain ⟨h1, hK⟩ := h
    obtain ⟨_, hu, hp⟩ := hx'
    obtain ⟨b, hφ, hv⟩ := hp h1
    exact Eff.same hH _ hK (by simp [execOp, ho, hv]) (hv ▸ hx)
  · rename_i cs off
    obtain ⟨b, ev, _, hv, _⟩ := hx'
    exact Eff.same hH _ h (by simp [execOp, ho, hv]) (hv ▸ hx)
  · rename_i f first cap
    obtain ⟨b, c, hv, _⟩ := hx'
    exact Eff.same hH _ h (by simp [execOp, ho, hv]) (hv ▸ hx)
  · exact h.elim

theorem intT_spec {t : TypeId} {k : IntKind} (h : intT P t = some k) : P.underlying t = some (.int k) := by
  unfold intT at h
  cases hd : P.underlying t with
  | none => simp [hd] at h
  | some d => cases d <;> simp_all

theorem dens_toArray (s : S) (a : Act) (henv : ∀ i, V.den (mutB M φ H) φ H w (s.env i) (a.tmps.getD i undef)) (xs : Array Operand) :
    V.dens (mutB M φ H) φ H w (xs.toList.map s.ev) (xs.map a.eval).toList := by
  simpa using evs_den s a henv xs.toList

theorem sop_sound (hH : HeapOk M φ H w) {s : S} (hso : s.o = H.o) {a : Act} (henv : ∀ i, V.den (mutB M φ H) φ H w (s.env i) (a.tmps.getD i undef)) (hfr : ¬ H.us fr) {o : Oper} {op : Op} (hop : o.op = op) (h : sop P s fr op K) :
    Eff M φ H w fr ((execOp a.eval o).run P w) K := by
  have hev := ev_den (M := M) (φ := φ) (H := H) (w := w) s a henv
  cases op <;> simp only [sop] at h <;> try (exact h.elim)
  case move x => exact Eff.same hH _ h (by simp [execOp, hop]) (hev x)
  case assign x => exact Eff.same hH _ h (by simp [execOp, hop]) (hev x)
  case pick c x y =>
    have := eff_pick (P := P) (fr := fr) hH (hev c) (hev x) (hev y) h
    simpa [execOp, hop] using this
  case alloc t =>
    have := eff_alloc (P := P) (fr := fr) hH hfr h
    simpa [execOp, hop] using this
  case box t x =>
    have := eff_box (P := P) (fr := fr) (t := t) hH hfr (hev x) h
    simpa [execOp, hop] using this
  case build t parts =>
    have := eff_build (P := P) (fr := fr) hH henv h
    simpa [execOp, hop] using this
  case buildSlice t len parts =>
    rw [hso] at h
    have := eff_buildSlice (P := P) (fr := fr) hH hfr henv h
    simpa [execOp, hop] using this
  case load t x =>
    rw [hso] at h
    have := eff_load (P := P) (fr := fr) hH (hev x) h
    simpa [execOp, hop] using this
  case store t x y =>
    rw [hso] at h
    have := eff_store (P := P) (fr := fr) hH (hev x) (hev y) h
    simpa [execOp, hop] using this
  case nilCheck x =>
    rw [hso] at h
    exact eff_nilCheck hH hop (hev x) h
  case binOp op t x y yt =>
    rw [hso] at h
    rcases h with h | h
    · have := eff_bin (P := P) (fr := fr) (p := x) (q := y) hH (hev x) (hev y) h
      simpa [execOp, hop] using this
    · have := eff_cmp (P := P) (fr := fr) (p := x) (q := y) hH (hev x) (hev y) h
      simpa [execOp, hop] using this
  case unOp op t x =>
    rcases h with h | ⟨rfl, hx, hK⟩
    · have := eff_un (P := P) (fr := fr) hH (hev x) h
      simpa [execOp, hop] using this
    · have hv := hev x
      rw [hx] at hv
      obtain ⟨b, hb⟩ := hv
      exact Eff.same hH (.bool !b) hK (by simp [execOp, hop, hb, Op.unary]) ⟨_, rfl⟩
  case convert t u x =>
    obtain ⟨hsrc, h⟩ := h
    split at h
    · rename_i k k' n hk hx
      have hv := hev x
      rw [hx] at hv
      simp only [V.den, D.den] at hv
      have hu := intT_spec hk
      obtain ⟨d, hd⟩ := Option.isSome_iff_exists.1 hsrc
      refine Eff.same hH (.int k (k.wrap n)) h ?_ rfl
      cases d <;> simp [execOp, hop, hv, convert, run_underlying hd, run_underlying hu, Conv.intToInt]
    · exact h.elim
  case makeInterface t x =>
    obtain ⟨⟨d, hd, hni⟩, h⟩ := h
    have hr : ∀ v, (Instr.makeInterface t v).run P w = .ok (.iface t v) w := by
      intro v
      cases d <;> first | (simp at hni; done) | simp [Instr.makeInterface, run_underlying hd]
    have hv := hev x
    split at h
    · rename_i y hy
      rw [hy] at hv
      exact Eff.same hH _ h (by simp [execOp, hop, hr]) ⟨_, rfl, hv⟩
    · exact Eff.same hH _ h (by simp [execOp, hop, hr]) ⟨_, rfl, hv⟩
  case makeFunc fn first cap =>
    exact Eff.same hH _ h (by simp [execOp, hop, Instr.makeFunc]) ⟨_, _, rfl, dens_toArray s a henv first, dens_toArray s a henv cap⟩
  case makeSlice t l c =>
    have := eff_makeSlice (P := P) (fr := fr) hH hfr (hev l) (hev c) h
    simpa [execOp, hop] using this
  case fieldAddr t x f =>
    rw [hso] at h
    have := eff_fieldAddr (P := P) (fr := fr) hH (hev x) h
    simpa [execOp, hop] using this
  case indexAddr t x i =>
    rw [hso] at h
    have := eff_indexAddr (P := P) (fr := fr) hH (hev x) (hev i) h
    simpa [execOp, hop] using this
  case extract x i =>
    split at h
    · rename_i vs hx
      obtain ⟨v, hv, hK⟩ := h
      have hd := hev x
      rw [hx] at hd
      obtain ⟨c, hc, hd⟩ := hd
      obtain ⟨u, hu, hdu⟩ := V.dens_get _ _ _ _ hd hv
      refine Eff.same hH u hK ?_ hdu
      have hu' : c[i]? = some u := by simpa using hu
      simp [execOp, hop, hc, Instr.extract, hu']
    · exact h.elim
  case call c =>
    obtain ⟨cal, args, ts⟩ := c
    cases cal <;> simp only at h <;> try (exact h.elim)
    rename_i b
    unfold builtinV at h
    split at h
    · rename_i x hargs
      obtain ⟨t, hts, h⟩ := h
      rw [hso] at h
      have e1 : args = #[x] := by apply Array.ext'; simpa using hargs
      have e2 : ts = #[t] := by apply Array.ext'; simpa using hts
      subst e1; subst e2
      have := eff_len (P := P) (fr := fr) (ty := o.type) hH (hev x) h
      simpa [execOp, hop, resolve, invoke, builtin] using this
    · rename_i x y hargs
      have e1 : args = #[x, y] := by apply Array.ext'; simpa using hargs
      subst e1
      rw [hso] at h
      have := eff_append (P := P) (fr := fr) (ty0 := o.type) hH hfr (hev x) (hev y) h
      simpa [execOp, hop, resolve, invoke, builtin] using this
    · rename_i x y hargs
      have e1 : args = #[x, y] := by apply Array.ext'; simpa using hargs
      subst e1
      unfold minmaxV at h
      split at h
      · rename_i k u k' v heq
        simp only [List.cons.injEq, and_true] at heq
        obtain ⟨rfl, hK⟩ := h
        have h1 := hev x
        have h2 := hev y
        rw [heq.1] at h1; rw [heq.2] at h2
        simp only [V.den, D.den] at h1 h2
        exact Eff.same hH _ hK (by simp [execOp, hop, resolve, invoke, builtin, h1, h2, run_max_int2]) rfl
      · exact h.elim
    · rename_i x y hargs
      have e1 : args = #[x, y] := by apply Array.ext'; simpa using hargs
      subst e1
      unfold minmaxV at h
      split at h
      · rename_i k u k' v heq
        simp only [List.cons.injEq, and_true] at heq
        obtain ⟨rfl, hK⟩ := h
        have h1 := hev x
        have h2 := hev y
        rw [heq.1] at h1; rw [heq.2] at h2
        simp only [V.den, D.den] at h1 h2
        exact Eff.same hH _ hK (by simp [execOp, hop, resolve, invoke, builtin, h1, h2, run_min_int2]) rfl
      · exact h.elim
    · rename_i x y hargs
      have e1 : args = #[x, y] := by apply Array.ext'; simpa using hargs
      subst e1
      rw [hso] at h
      have := eff_copy (P := P) (fr := fr) (ty0 := o.type) hH (hev x) (hev y) h
      simpa [execOp, hop, resolve, invoke, builtin] using this
    · exact h.elim
  case slice t x lo hi mx =>
    rw [hso] at h
    have := eff_slice (P := P) (fr := fr) (lov := lo.map a.eval) (hiv := hi.map a.eval) (mxv := mx.map a.eval) hH (hev x) (by cases lo <;> simp [hev]) (by cases hi <;> simp [hev]) (by cases mx <;> simp [hev]) h
    simpa [execOp, hop] using this
  case field t x f =>
    have := eff_field (P := P) (fr := fr) hH (hev x) h
    simpa [execOp, hop] using this
  case typeAssert x xt t ok =>
    have := eff_assert (P := P) (fr := fr) (xt := xt) hH (hev x) h
    simpa [execOp, hop] using this
  case makeMap t r =>
    cases r with
    | some x => exact h.elim
    | none =>
      have := eff_makeMap (P := P) (fr := fr) hH hfr h
      simpa [execOp, hop] using this
  case lookup t m k ok =>
    rw [hso] at h
    have := eff_lookup (P := P) (fr := fr) hH (hev m) (hev k) h
    simpa [execOp, hop] using this
  case mapUpdate t m k v =>
    rw [hso] at h
    have := eff_mapUpdate (P := P) (fr := fr) hH (hev m) (hev k) (hev v) h
    simpa [execOp, hop] using this
end
end Go.Proofs.Ytaafchgfibbmhaa
