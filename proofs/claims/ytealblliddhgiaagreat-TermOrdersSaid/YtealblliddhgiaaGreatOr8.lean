/-
  A PART OF THE PROOF (put together by program): several texts, one behind the other. Conditions: none.
-/
import Derived.Test.YtealblliddhgiaaGreatOr7
set_option linter.unusedSimpArgs false
set_option linter.unusedVariables false
namespace Go.Proofs.YtealblliddhgiaaGreat
section
variable {P : Program} (w : World) (d : Nat) {t : TypeId}
theorem e_if1 {ms} (ht : P.underlying t = some (.interface ms)) : (Op.equalIn (d + 1) t .nilIface .nilIface).run P w = .ok true w := by simp [Op.equalIn, run_underlying ht]
theorem e_if2 {ms} (ht : P.underlying t = some (.interface ms)) (u : TypeId) (v : Value) : (Op.equalIn (d + 1) t (.iface u v) .nilIface).run P w = .ok false w := by simp [Op.equalIn, run_underlying ht]
theorem e_if3 {ms} (ht : P.underlying t = some (.interface ms)) (u : TypeId) (v : Value) : (Op.equalIn (d + 1) t .nilIface (.iface u v)).run P w = .ok false w := by simp [Op.equalIn, run_underlying ht]
theorem e_fn1 {a b c} (ht : P.underlying t = some (.func a b c)) : (Op.equalIn (d + 1) t .nilFunc .nilFunc).run P w = .ok true w := by simp [Op.equalIn, run_underlying ht]
theorem e_fn2 {a b c} (ht : P.underlying t = some (.func a b c)) (f x y) : (Op.equalIn (d + 1) t (.func f x y) .nilFunc).run P w = .ok false w := by simp [Op.equalIn, run_underlying ht]
theorem e_mp1 {a b} (ht : P.underlying t = some (.map a b)) : (Op.equalIn (d + 1) t (.map none) (.map none)).run P w = .ok true w := by simp [Op.equalIn, run_underlying ht]
theorem e_mp2 {a b} (ht : P.underlying t = some (.map a b)) (x) : (Op.equalIn (d + 1) t (.map (some x)) (.map none)).run P w = .ok false w := by simp [Op.equalIn, run_underlying ht]
theorem e_pt1 {e} (ht : P.underlying t = some (.pointer e)) : (Op.equalIn (d + 1) t (.pointer none) (.pointer none)).run P w = .ok true w := by simp [Op.equalIn, run_underlying ht]
theorem e_pt2 {e} (ht : P.underlying t = some (.pointer e)) (a) : (Op.equalIn (d + 1) t (.pointer (some a)) (.pointer none)).run P w = .ok false w := by simp [Op.equalIn, run_underlying ht]
theorem e_sl {e} (ht : P.underlying t = some (.slice e)) (b n c) : (Op.equalIn (d + 1) t (.slice b n c) (.slice none 0 0)).run P w = .ok b.isNone w := by cases b <;> simp [Op.equalIn, run_underlying ht]
end
section
variable {P : Program} {M : Nat → Prop} {φ : Place} {H : Hp} {w w' : World} {fr : Nat} {K : V → List (Nat × Obj') → List Nat → Prop} {B : Nat → Prop}
theorem listV_base (hH : HeapOk M φ H w) {x : V} {xv : Value} {es : List D} (h : listV H.o x = some es) (hx : V.den (mutB M φ H) φ H w x xv) : ∃ base n c, xv = .slice base n c ∧ (es ≠ [] → base ≠ none) := by
  have hd : ∃ x', toD H.o x = some x' ∧ x' = .sl es := by
    unfold listV at h
    split at h
    · rename_i es' hd; injection h with h; subst h; exact ⟨_, hd, rfl⟩
    · cases h
  obtain ⟨x', hd, rfl⟩ := hd
  obtain ⟨f1, f2, f3, f4, f5⟩ := freezes hH x.ids (ids_used x _ hx)
  have := toD_den f1 x (.sl es) xv f3 hd (V.den_mono f2 _ _ hx)
  obtain ⟨base, len, cap, rfl, h1, h2, h3, _⟩ := this
  refine ⟨base, len, cap, rfl, fun hne hb => ?_⟩
  have := h3 hb
  have : es.length = 0 := by omega
  exact hne (List.length_eq_zero_iff.1 this)
def wideV : Value → Bool
  | .int _ _ | .float _ _ | .complex _ _ _ | .string _ => false
  | _ => true
theorem eqV_run (hH : HeapOk M φ H w) {t : TypeId} {p q : Operand} {x y v : V} {xv yv : Value} (hx : V.den (mutB M φ H) φ H w x xv) (hy : V.den (mutB M φ H) φ H w y yv) (h : eqV P H.o t (isConst p || isConst q) x y = some v) :
    ∃ r : Bool, (v = .d (.bool r) ∨ v = .anyb) ∧ wideV xv = true ∧ (∀ op, (eqGuard op t p q xv yv).run P w = .ok () w) ∧ (Op.equal t xv yv).run P w = .ok r w := by
  have plainG : (∀ a b, ¬ (xv = .agg a ∧ yv = .agg b)) → ¬ (xv = .nilIface ∧ yv = .nilIface) → ∀ op, (eqGuard op t p q xv yv).run P w = .ok () w := by
    intro h1 h2 op
    unfold eqGuard
    cases op <;> cases xv <;> cases yv <;> first
      | (simp; done)
      | (exact absurd ⟨rfl, rfl⟩ (h1 _ _))
      | (exact absurd ⟨rfl, rfl⟩ h2)
  unfold eqV at h
  cases ht : P.underlying t with
  | none => simp [ht] at h
  | some td =>
    simp only [ht] at h
    have eq : ∀ r, (∀ d, (Op.equalIn (d + 1) t xv yv).run P w = .ok r w) → (Op.equal t xv yv).run P w = .ok r w := fun r h => h 9999
    cases td <;> simp only [reduceCtorEq] at h
    case interface ms =>
      split at h
      · split at h
        · rename_i hc
          injection h with h; subst h
          simp only [V.den, D.den] at hx hy; subst hx; subst hy
          refine ⟨true, .inl rfl, rfl, fun op => ?_, eq _ (fun d => by rw [e_if1 w d ht])⟩
          simp only [Bool.or_eq_true] at hc
          unfold eqGuard
          rcases hc with hc | hc
          · cases p <;> simp only [isConst, Bool.false_eq_true] at hc
            cases op <;> simp
          · cases q <;> simp only [isConst, Bool.false_eq_true] at hc
            cases op <;> simp
        · cases h
      · injection h with h; subst h
        obtain ⟨u, rfl, _⟩ := hx
        simp only [V.den, D.den] at hy; subst hy
        exact ⟨false, .inl rfl, rfl, plainG (fun _ _ h => by cases h.1) (by rintro ⟨h1, h2⟩; first | (cases h1; done) | (cases h2; done)), eq _ (fun d => by rw [e_if2 w d ht])⟩
      · injection h with h; subst h
        obtain ⟨u, rfl, _⟩ := hx
        simp only [V.den, D.den] at hy; subst hy
        exact ⟨false, .inl rfl, rfl, plainG (fun _ _ h => by cases h.1) (by rintro ⟨h1, h2⟩; first | (cases h1; done) | (cases h2; done)), eq _ (fun d => by rw [e_if2 w d ht])⟩
      · injection h with h; subst h
        obtain ⟨u, rfl, _⟩ := hy
        simp only [V.den, D.den] at hx; subst hx
        exact ⟨false, .inl rfl, rfl, plainG (fun _ _ h => by cases h.1) (by rintro ⟨h1, h2⟩; first | (cases h1; done) | (cases h2; done)), eq _ (fun d => by rw [e_if3 w d ht])⟩
      · injection h with h; subst h
        obtain ⟨u, rfl, _⟩ := hy
        simp only [V.den, D.den] at hx; subst hx
        exact ⟨false, .inl rfl, rfl, plainG (fun _ _ h => by cases h.1) (by rintro ⟨h1, h2⟩; first | (cases h1; done) | (cases h2; done)), eq _ (fun d => by rw [e_if3 w d ht])⟩
      · cases h
    case func a b c =>
      split at h
      · injection h with h; subst h
        simp only [V.den, D.den] at hx hy; subst hx; subst hy
        exact ⟨true, .inl rfl, rfl, plainG (fun _ _ h => by cases h.1) (by rintro ⟨h1, h2⟩; first | (cases h1; done) | (cases h2; done)), eq _ (fun d => by rw [e_fn1 w d ht])⟩
      · injection h with h; subst h
        obtain ⟨f, c', rfl, _⟩ := hx
        simp only [V.den, D.den] at hy; subst hy
        exact ⟨false, .inl rfl, rfl, plainG (fun _ _ h => by cases h.1) (by rintro ⟨h1, h2⟩; first | (cases h1; done) | (cases h2; done)), eq _ (fun d => by rw [e_fn2 w d ht])⟩
      · cases h
    case map a b =>
      split at h
      · simp only [V.den, D.den] at hy; subst hy
        unfold mapNil at h
        split at h
        · injection h with h; subst h
          simp only [V.den, D.den] at hx; subst hx
          exact ⟨true, .inl rfl, rfl, plainG (fun _ _ h => by cases h.1) (by rintro ⟨h1, h2⟩; first | (cases h1; done) | (cases h2; done)), eq _ (fun d => by rw [e_mp1 w d ht])⟩
        · injection h with h; subst h
          obtain ⟨bk, es, clock, rfl, _⟩ := hx
          exact ⟨false, .inl rfl, rfl, plainG (fun _ _ h => by cases h.1) (by rintro ⟨h1, h2⟩; first | (cases h1; done) | (cases h2; done)), eq _ (fun d => by rw [e_mp2 w d ht])⟩
        · rename_i id
          split at h
          · rename_i ho
            injection h with h; subst h
            obtain ⟨_, _, h3⟩ := hx
            have hφ := h3 (by rw [ho]; rfl)
            have hok := hH.ok id
            simp only [ObjOk, ho] at hok
            obtain ⟨bk, es, clock, g1, _⟩ := hok
            rw [← hφ] at g1; subst g1
            exact ⟨false, .inl rfl, rfl, plainG (fun _ _ h => by cases h.1) (by rintro ⟨h1, h2⟩; first | (cases h1; done) | (cases h2; done)), eq _ (fun d => by rw [e_mp2 w d ht])⟩
          · rename_i ho
            injection h with h; subst h
            obtain ⟨_, _, h3⟩ := hx
            have hφ := h3 (by rw [ho]; rfl)
            have hok := hH.ok id
            simp only [ObjOk, ho] at hok
            obtain ⟨bk, es, clock, g1, _⟩ := hok
            rw [← hφ] at g1; subst g1
            exact ⟨false, .inl rfl, rfl, plainG (fun _ _ h => by cases h.1) (by rintro ⟨h1, h2⟩; first | (cases h1; done) | (cases h2; done)), eq _ (fun d => by rw [e_mp2 w d ht])⟩
          · cases h
        · cases h
      · cases h
    case pointer e =>
      split at h
      · simp only [V.den, D.den] at hy; subst hy
        unfold ptrNil at h
        split at h
        · injection h with h; subst h
          simp only [V.den, D.den] at hx; subst hx
          exact ⟨true, .inl rfl, rfl, plainG (fun _ _ h => by cases h.1) (by rintro ⟨h1, h2⟩; first | (cases h1; done) | (cases h2; done)), eq _ (fun d => by rw [e_pt1 w d ht])⟩
        · split at h
          · rename_i hr
            injection h with h; subst h
            obtain ⟨_, _, h3⟩ := hx
            obtain ⟨bk, _, rfl⟩ := h3 hr
            exact ⟨false, .inl rfl, rfl, plainG (fun _ _ h => by cases h.1) (by rintro ⟨h1, h2⟩; first | (cases h1; done) | (cases h2; done)), eq _ (fun d => by rw [e_pt2 w d ht])⟩
          · cases h
        · injection h with h; subst h
          obtain ⟨a, ev, _, rfl, _⟩ := hx
          exact ⟨false, .inl rfl, rfl, plainG (fun _ _ h => by cases h.1) (by rintro ⟨h1, h2⟩; first | (cases h1; done) | (cases h2; done)), eq _ (fun d => by rw [e_pt2 w d ht])⟩
        · cases h
      · cases h
    case slice e =>
      split at h
      · simp only [V.den] at hy; subst hy
        unfold nilF at h
        split at h
        · injection h with h; subst h
          simp only [V.den] at hx; subst hx
          exact ⟨true, .inl rfl, rfl, plainG (fun _ _ h => by cases h.1) (by rintro ⟨h1, h2⟩; first | (cases h1; done) | (cases h2; done)), eq _ (fun d => by rw [e_sl w d ht]; rfl)⟩
        · split at h
          · rename_i es hl
            obtain ⟨base, n, c, rfl, hb⟩ := listV_base hH hl hx
            refine ⟨base.isNone, ?_, rfl, plainG (fun _ _ h => by cases h.1) (by rintro ⟨h1, h2⟩; first | (cases h1; done) | (cases h2; done)), eq _ ?_⟩
            · split at h
              · injection h with h; exact .inr h.symm
              · rename_i hne
                injection h with h
                have := hb hne
                cases base with
                | none => exact absurd rfl this
                | some a => exact .inl h.symm
            · intro d
              rw [e_sl w d ht]
          · cases h
      · cases h
    case struct fs =>
      split at h
      · split at h
        · rename_i hg
          simp only [Option.map_eq_some_iff] at h
          obtain ⟨r, h1, rfl⟩ := h
          obtain ⟨g1, g2⟩ := eqT_at h1 hg (mutB M φ H) w xv yv hx hy
          exact ⟨r, .inl rfl, by obtain ⟨_, rfl, _⟩ := hx; rfl, fun op => g2 op p q, g1⟩
        · cases h
      · cases h
    case array n e =>
      split at h
      · split at h
        · rename_i hg
          simp only [Option.map_eq_some_iff] at h
          obtain ⟨r, h1, rfl⟩ := h
          obtain ⟨g1, g2⟩ := eqT_at h1 hg (mutB M φ H) w xv yv hx hy
          exact ⟨r, .inl rfl, by obtain ⟨_, rfl, _⟩ := hx; rfl, fun op => g2 op p q, g1⟩
        · cases h
      · cases h
theorem eff_cmp (hH : HeapOk M φ H w) {op : BinOp} {t : TypeId} {p q : Operand} {x y : V} {xv yv : Value} (hx : V.den (mutB M φ H) φ H w x xv) (hy : V.den (mutB M φ H) φ H w y yv)
    (h : resK (cmpF P H.o op t (isConst p || isConst q) x y) K) :
    Eff M φ H w fr ((do let y ← (do eqGuard op t p q xv yv; binOp op t xv yv); pure (Next.value y) : Sem Next).run P w) K := by
  have hg := resK_get h
  clear h
  obtain ⟨v, Δ, rd, h, hK⟩ := hg
  unfold cmpF at h
  split at h
  · simp only [Option.map_eq_some_iff] at h
    obtain ⟨u, h1, h2⟩ := h
    injection h2 with e1 e2; injection e2 with e2 e3; subst e1; subst e2; subst e3
    obtain ⟨r, hv, hwd, hgd, he⟩ := eqV_run (p := p) (q := q) hH hx hy h1
    refine Eff.plain hH (.bool r) hK ?_ ?_
    · have hb : (binOp .eql t xv yv).run P w = .ok (.bool r) w := by
        unfold binOp
        cases xv <;> first | (simp [wideV] at hwd; done) | (cases yv <;> simp [he])
      simp [hgd, hb]
    · rcases hv with rfl | rfl
      · rfl
      · exact ⟨r, rfl⟩
  · simp only [Option.map_eq_some_iff, Option.bind_eq_some_iff] at h
    obtain ⟨u', ⟨u, h1, h3⟩, h2⟩ := h
    injection h2 with e1 e2; injection e2 with e2 e3; subst e1; subst e2; subst e3
    obtain ⟨r, hv, hwd, hgd, he⟩ := eqV_run (p := p) (q := q) hH hx hy h1
    refine Eff.plain hH (.bool !r) hK ?_ ?_
    · have hb : (binOp .neq t xv yv).run P w = .ok (.bool !r) w := by
        unfold binOp
        cases xv <;> first | (simp [wideV] at hwd; done) | (cases yv <;> simp [he])
      simp [hgd, hb]
    · rcases hv with rfl | rfl
      · simp only [notV, Option.some.injEq] at h3; subst h3; rfl
      · simp only [notV, Option.some.injEq] at h3; subst h3; exact ⟨!r, rfl⟩
  · cases h
end
end Go.Proofs.YtealblliddhgiaaGreat
namespace Go.Proofs.YtealblliddhgiaaGreat
section
variable {P : Program} {M : Nat → Prop} {φ : Place} {H : Hp} {w w' : World} {fr : Nat} {K : V → List (Nat × Obj') → List Nat → Prop}
theorem eff_nilCheck (hH : HeapOk M φ H w) {o : Oper} {a : Act} {q : Operand} (ho : o.op = .nilCheck q) {x : V} (hx : V.den (mutB M φ H) φ H w x (a.eval q))
    (h : nilCheckV H.o x fun v => K v [] []) : Eff M φ H w fr ((execOp a.eval o).run P w) K := by
  unfold nilCheckV at h
  have hx' := hx
  split at h
  · rename_i id off
    obtain ⟨h1, hK⟩ := h
    obtain ⟨_, hu, hp⟩ := hx'
    obtain ⟨b, hφ, hv⟩ := hp h1
    exact Eff.same hH _ hK (by simp [execOp, ho, hv]) (hv ▸ hx)
  · rename_i cs off
    obtain ⟨b, ev, _, hv, _⟩ := hx'
    exact Eff.same hH _ h (by simp [execOp, ho, hv]) (hv ▸ hx)
  · rename_i f first cap
    obtain ⟨b, c, hv, _⟩ := hx'
    exact Eff.same hH _ h (by simp [execOp, ho, hv]) (hv ▸ hx)
  · exact h.elim
theorem intT_spec {t : TypeId} {k : IntKind} (h : intT P t = some k) : P.underlying t = some (.int k) := by
  unfold intT at h
  cases hd : P.underlying t with
  | none => simp [hd] at h
  | some d => cases d <;> simp_all
theorem dens_toArray (s : S) (a : Act) (henv : ∀ i, V.den (mutB M φ H) φ H w (s.env i) (a.tmps.getD i undef)) (xs : Array Operand) :
    V.dens (mutB M φ H) φ H w (xs.toList.map s.ev) (xs.map a.eval).toList := by
  simpa using evs_den s a henv xs.toList
theorem sop_sound (hH : HeapOk M φ H w) {s : S} (hso : s.o = H.o) {a : Act} (henv : ∀ i, V.den (mutB M φ H) φ H w (s.env i) (a.tmps.getD i undef)) (hfr : ¬ H.us fr) {o : Oper} {op : Op} (hop : o.op = op) (h : sop P s fr op K) :
    Eff M φ H w fr ((execOp a.eval o).run P w) K := by
  have hev := ev_den (M := M) (φ := φ) (H := H) (w := w) s a henv
  cases op <;> simp only [sop] at h <;> try (exact h.elim)
  case move x => exact Eff.same hH _ h (by simp [execOp, hop]) (hev x)
  case assign x => exact Eff.same hH _ h (by simp [execOp, hop]) (hev x)
  case pick c x y =>
    have := eff_pick (P := P) (fr := fr) hH (hev c) (hev x) (hev y) h
    simpa [execOp, hop] using this
  case alloc t =>
    have := eff_alloc (P := P) (fr := fr) hH hfr h
    simpa [execOp, hop] using this
  case box t x =>
    have := eff_box (P := P) (fr := fr) (t := t) hH hfr (hev x) h
    simpa [execOp, hop] using this
  case build t parts =>
    have := eff_build (P := P) (fr := fr) hH henv h
    simpa [execOp, hop] using this
  case buildSlice t len parts =>
    rw [hso] at h
    have := eff_buildSlice (P := P) (fr := fr) hH hfr henv h
    simpa [execOp, hop] using this
  case load t x =>
    rw [hso] at h
    have := eff_load (P := P) (fr := fr) hH (hev x) h
    simpa [execOp, hop] using this
  case store t x y =>
    rw [hso] at h
    have := eff_store (P := P) (fr := fr) hH (hev x) (hev y) h
    simpa [execOp, hop] using this
  case nilCheck x =>
    rw [hso] at h
    exact eff_nilCheck hH hop (hev x) h
  case binOp op t x y yt =>
    rw [hso] at h
    rcases h with h | h
    · have := eff_bin (P := P) (fr := fr) (p := x) (q := y) hH (hev x) (hev y) h
      simpa [execOp, hop] using this
    · have := eff_cmp (P := P) (fr := fr) (p := x) (q := y) hH (hev x) (hev y) h
      simpa [execOp, hop] using this
  case unOp op t x =>
    rcases h with h | ⟨rfl, hx, hK⟩
    · have := eff_un (P := P) (fr := fr) hH (hev x) h
      simpa [execOp, hop] using this
    · have hv := hev x
      rw [hx] at hv
      obtain ⟨b, hb⟩ := hv
      exact Eff.same hH (.bool !b) hK (by simp [execOp, hop, hb, Op.unary]) ⟨_, rfl⟩
  case convert t u x =>
    obtain ⟨hsrc, h⟩ := h
    split at h
    · rename_i k k' n hk hx
      have hv := hev x
      rw [hx] at hv
      simp only [V.den, D.den] at hv
      have hu := intT_spec hk
      obtain ⟨d, hd⟩ := Option.isSome_iff_exists.1 hsrc
      refine Eff.same hH (.int k (k.wrap n)) h ?_ rfl
      cases d <;> simp [execOp, hop, hv, convert, run_underlying hd, run_underlying hu, Conv.intToInt]
    · exact h.elim
  case makeInterface t x =>
    obtain ⟨⟨d, hd, hni⟩, h⟩ := h
    have hr : ∀ v, (Instr.makeInterface t v).run P w = .ok (.iface t v) w := by
      intro v
      cases d <;> first | (simp at hni; done) | simp [Instr.makeInterface, run_underlying hd]
    have hv := hev x
    split at h
    · rename_i y hy
      rw [hy] at hv
      exact Eff.same hH _ h (by simp [execOp, hop, hr]) ⟨_, rfl, hv⟩
    · exact Eff.same hH _ h (by simp [execOp, hop, hr]) ⟨_, rfl, hv⟩
  case makeFunc fn first cap =>
    exact Eff.same hH _ h (by simp [execOp, hop, Instr.makeFunc]) ⟨_, _, rfl, dens_toArray s a henv first, dens_toArray s a henv cap⟩
  case makeSlice t l c =>
    have := eff_makeSlice (P := P) (fr := fr) hH hfr (hev l) (hev c) h
    simpa [execOp, hop] using this
  case fieldAddr t x f =>
    rw [hso] at h
    have := eff_fieldAddr (P := P) (fr := fr) hH (hev x) h
    simpa [execOp, hop] using this
  case indexAddr t x i =>
    rw [hso] at h
    have := eff_indexAddr (P := P) (fr := fr) hH (hev x) (hev i) h
    simpa [execOp, hop] using this
  case extract x i =>
    split at h
    · rename_i vs hx
      obtain ⟨v, hv, hK⟩ := h
      have hd := hev x
      rw [hx] at hd
      obtain ⟨c, hc, hd⟩ := hd
      obtain ⟨u, hu, hdu⟩ := V.dens_get _ _ _ _ hd hv
      refine Eff.same hH u hK ?_ hdu
      have hu' : c[i]? = some u := by simpa using hu
      simp [execOp, hop, hc, Instr.extract, hu']
    · exact h.elim
  case call c =>
    obtain ⟨cal, args, ts⟩ := c
    cases cal <;> simp only at h <;> try (exact h.elim)
    rename_i b
    unfold builtinV at h
    split at h
    · rename_i x hargs
      obtain ⟨t, hts, h⟩ := h
      rw [hso] at h
      have e1 : args = #[x] := by apply Array.ext'; simpa using hargs
      have e2 : ts = #[t] := by apply Array.ext'; simpa using hts
      subst e1; subst e2
      have := eff_len (P := P) (fr := fr) (ty := o.type) hH (hev x) h
      simpa [execOp, hop, resolve, invoke, builtin] using this
    · rename_i x y hargs
      have e1 : args = #[x, y] := by apply Array.ext'; simpa using hargs
      subst e1
      rw [hso] at h
      have := eff_append (P := P) (fr := fr) (ty0 := o.type) hH hfr (hev x) (hev y) h
      simpa [execOp, hop, resolve, invoke, builtin] using this
    · rename_i x y hargs
      have e1 : args = #[x, y] := by apply Array.ext'; simpa using hargs
      subst e1
      unfold minmaxV at h
      split at h
      · rename_i k u k' v heq
        simp only [List.cons.injEq, and_true] at heq
        obtain ⟨rfl, hK⟩ := h
        have h1 := hev x
        have h2 := hev y
        rw [heq.1] at h1; rw [heq.2] at h2
        simp only [V.den, D.den] at h1 h2
        exact Eff.same hH _ hK (by simp [execOp, hop, resolve, invoke, builtin, h1, h2, run_max_int2]) rfl
      · exact h.elim
    · rename_i x y hargs
      have e1 : args = #[x, y] := by apply Array.ext'; simpa using hargs
      subst e1
      unfold minmaxV at h
      split at h
      · rename_i k u k' v heq
        simp only [List.cons.injEq, and_true] at heq
        obtain ⟨rfl, hK⟩ := h
        have h1 := hev x
        have h2 := hev y
        rw [heq.1] at h1; rw [heq.2] at h2
        simp only [V.den, D.den] at h1 h2
        exact Eff.same hH _ hK (by simp [execOp, hop, resolve, invoke, builtin, h1, h2, run_min_int2]) rfl
      · exact h.elim
    · rename_i x y z hargs
      have e1 : args = #[x, y, z] := by apply Array.ext'; simpa using hargs
      subst e1
      have hg := resK_get h
      clear h
      obtain ⟨v, Δ, rd, h, hK⟩ := hg
      simp only [Option.map_eq_some_iff, Prod.mk.injEq] at h
      obtain ⟨v', h, rfl, rfl, rfl⟩ := h
      unfold max3F at h
      split at h
      · rename_i k u k' v k'' t q1 q2 q3
        split at h
        · rename_i hk
          obtain ⟨rfl, rfl⟩ := hk
          injection h with h; subst h
          have h1 := hev x
          have h2 := hev y
          have h3 := hev z
          rw [q1] at h1; rw [q2] at h2; rw [q3] at h3
          simp only [V.den, D.den] at h1 h2 h3
          exact Eff.same hH _ hK (by simp [execOp, hop, resolve, invoke, builtin, h1, h2, h3, Builtin.max_, Builtin.max2]) rfl
        · cases h
      · cases h
    · rename_i x y hargs
      have e1 : args = #[x, y] := by apply Array.ext'; simpa using hargs
      subst e1
      rw [hso] at h
      have := eff_copy (P := P) (fr := fr) (ty0 := o.type) hH (hev x) (hev y) h
      simpa [execOp, hop, resolve, invoke, builtin] using this
    · rename_i x y hargs
      have e1 : args = #[x, y] := by apply Array.ext'; simpa using hargs
      subst e1
      obtain ⟨t, ht, h⟩ := h
      rw [hso] at h
      have := eff_delete (P := P) (fr := fr) (ty0 := o.type) hH ht (hev x) (hev y) h
      simpa [execOp, hop, resolve, invoke, builtin] using this
    · exact h.elim
  case slice t x lo hi mx =>
    rw [hso] at h
    have := eff_slice (P := P) (fr := fr) (lov := lo.map a.eval) (hiv := hi.map a.eval) (mxv := mx.map a.eval) hH (hev x) (by cases lo <;> simp [hev]) (by cases hi <;> simp [hev]) (by cases mx <;> simp [hev]) h
    simpa [execOp, hop] using this
  case field t x f =>
    have := eff_field (P := P) (fr := fr) hH (hev x) h
    simpa [execOp, hop] using this
  case index t x i =>
    have := eff_index (P := P) (fr := fr) hH (hev x) (hev i) h
    simpa [execOp, hop] using this
  case insert t m k v =>
    rw [hso] at h
    have := eff_mapUpdate (P := P) (fr := fr) hH (hev m) (hev k) (hev v) h
    simpa [execOp, hop] using this
  case typeAssert x xt t ok =>
    have := eff_assert (P := P) (fr := fr) (xt := xt) hH (hev x) h
    simpa [execOp, hop] using this
  case makeMap t r =>
    cases r with
    | some x => exact h.elim
    | none =>
      have := eff_makeMap (P := P) (fr := fr) hH hfr h
      simpa [execOp, hop] using this
  case lookup t m k ok =>
    rw [hso] at h
    have := eff_lookup (P := P) (fr := fr) hH (hev m) (hev k) h
    simpa [execOp, hop] using this
  case mapUpdate t m k v =>
    rw [hso] at h
    have := eff_mapUpdate (P := P) (fr := fr) hH (hev m) (hev k) (hev v) h
    simpa [execOp, hop] using this
  case range t x =>
    rw [hso] at h
    have := eff_range (P := P) (fr := fr) hH hfr (hev x) h
    simpa [execOp, hop] using this
  case next x str =>
    rw [hso] at h
    rcases h with h | ⟨rfl, id, l, h1, h2⟩
    · have := eff_nextStr (P := P) (fr := fr) (ty := o.type) hH (hev x) h
      simpa [execOp, hop] using this
    · have := eff_nextMap (P := P) (fr := fr) (ty := o.type) hH (hev x) h1 h2
      simpa [execOp, hop] using this
  case entry x =>
    rw [hso] at h
    have := eff_entry (P := P) (fr := fr) hH (hev x) h
    simpa [execOp, hop] using this
end
end Go.Proofs.YtealblliddhgiaaGreat
namespace Go.Proofs.YtealblliddhgiaaGreat
inductive R where
  | ret (ds : List D) | pan (d : D)
def R.is (B : Nat → Prop) (w : World) : R → Ending → Prop
  | .ret [x], .returned v => D.den B w x v
  | .ret ds, .returned v => ∃ a, v = .tuple a ∧ D.dens B w ds a.toList
  | .pan d, .panicked chain => ∃ v, chain = [{ v := v, recovered := false }] ∧ D.den B w d v
  | _, _ => False
def Enters (P : Program) (f : FuncId) : Prop := ∃ fn, P.funcs[f]? = some fn ∧ (fn.name == "runtime.NumGoroutine") = false ∧ fn.body.isNone = false
def PCt (P : Program) (f : FuncId) (ds : List D) (out : R) : Prop :=
  Enters P f ∧ ∀ (M : Nat → Prop) (w : World) (vals : Array Value), (∀ b, M b → b < w.heap.size) → D.dens M w ds vals.toList →
    Calls P f vals w fun e w' => Keep (fun _ => False) w w' ∧ out.is M w' e
def hp (o : Nat → Obj') (nx : Nat) : Hp := ⟨o, fun id => id < nx⟩
def EndK (M : Nat → Prop) (φ : Place) (H : Hp) (w : World) (K X : V → (Nat → Obj') → Nat → Prop) (e : Ending) (w' : World) : Prop :=
  ∃ φ' o' nx' v, HeapOk M φ' (hp o' nx') w' ∧ Trans φ H w φ' (hp o' nx') w' ∧ match e with
    | .returned val => V.den (mutB M φ' (hp o' nx')) φ' (hp o' nx') w' v val ∧ K v o' nx'
    | .panicked ch => ∃ val, ch = [{ v := val, recovered := false }] ∧ V.den (mutB M φ' (hp o' nx')) φ' (hp o' nx') w' v val ∧ X v o' nx'
    | .outgrown => False
def CtK (P : Program) (f : FuncId) (args : List V) (o : Nat → Obj') (nx : Nat) (K X : V → (Nat → Obj') → Nat → Prop) : Prop :=
  Enters P f ∧ ∀ (M : Nat → Prop) (φ : Place) (w : World) (vals : Array Value), HeapOk M φ (hp o nx) w → V.dens (mutB M φ (hp o nx)) φ (hp o nx) w args vals.toList →
    Calls P f vals w (EndK M φ (hp o nx) w K X)
def RoundK (P : Program) (id : Nat) (args : List V) (o : Nat → Obj') (nx : Nat) (K X : V → (Nat → Obj') → Nat → Prop) : Prop :=
  (o id).isRow = true ∧ ∀ (M : Nat → Prop) (φ : Place) (w : World) (vals : Array Value) (b : Nat), HeapOk M φ (hp o nx) w → V.dens (mutB M φ (hp o nx)) φ (hp o nx) w args vals.toList → φ id = .pointer (some ⟨b, 0, none⟩) →
    ∃ f tmps assign body, (Instr.yield b vals).run P w = .ok (.round b f tmps assign body) w ∧ ∀ n, RoundIn Fence.wide n P b f tmps assign body w (EndK M φ (hp o nx) w K X)
theorem EndK.mono {M : Nat → Prop} {φ : Place} {H : Hp} {w : World} {K X K' X' : V → (Nat → Obj') → Nat → Prop} (hK : ∀ v o n, K v o n → K' v o n) (hX : ∀ v o n, X v o n → X' v o n) {e : Ending} {w' : World} (h : EndK M φ H w K X e w') : EndK M φ H w K' X' e w' := by
  obtain ⟨φ', o', nx', v, h1, h2, h3⟩ := h
  refine ⟨φ', o', nx', v, h1, h2, ?_⟩
  cases e with
  | returned val => exact ⟨h3.1, hK _ _ _ h3.2⟩
  | panicked ch => obtain ⟨val, a, b, c⟩ := h3; exact ⟨val, a, b, hX _ _ _ c⟩
  | outgrown => exact h3
theorem CtK.mono {P : Program} {f : FuncId} {args : List V} {o : Nat → Obj'} {nx : Nat} {K X K' X' : V → (Nat → Obj') → Nat → Prop} (hK : ∀ v o n, K v o n → K' v o n) (hX : ∀ v o n, X v o n → X' v o n) (h : CtK P f args o nx K X) : CtK P f args o nx K' X' :=
  ⟨h.1, fun M φ w vals h1 h2 => (h.2 M φ w vals h1 h2).mono fun _ _ h => h.mono hK hX⟩
theorem RoundK.mono {P : Program} {id : Nat} {args : List V} {o : Nat → Obj'} {nx : Nat} {K X K' X' : V → (Nat → Obj') → Nat → Prop} (hK : ∀ v o n, K v o n → K' v o n) (hX : ∀ v o n, X v o n → X' v o n) (h : RoundK P id args o nx K X) : RoundK P id args o nx K' X' :=
  ⟨h.1, fun M φ w vals b h1 h2 h3 => let ⟨f, t, a, c, h4, h5⟩ := h.2 M φ w vals b h1 h2 h3; ⟨f, t, a, c, h4, fun n => (h5 n).mono fun _ _ h => h.mono hK hX⟩⟩
mutual

def D.flat : D → Bool
  | .sl _ | .mp _ _ => false
  | .agg cs => D.flats cs
  | .iface _ x => x.flat
  | _ => true
def D.flats : List D → Bool
  | [] => true
  | x :: xs => x.flat && D.flats xs
end
mutual
theorem D.flat_den {B B' : Nat → Prop} {w w' : World} : ∀ (x : D) (v : Value), x.flat = true → D.den B w x v → D.den B' w' x v
  | .int _ _, _, _, h | .bool _, _, _, h | .str _, _, _, h | .nili, _, _, h | .nilp, _, _, h | .nilf, _, _, h | .nilm, _, _, h => h
  | .agg cs, _, hf, h => by obtain ⟨a, rfl, h, h2⟩ := h; exact ⟨a, rfl, D.flats_dens cs _ hf h, h2⟩
  | .sl es, _, hf, h => by simp [D.flat] at hf
  | .mp _ _, _, hf, h => by simp [D.flat] at hf
  | .iface t x, _, hf, h => by obtain ⟨u, rfl, h⟩ := h; exact ⟨u, rfl, D.flat_den x u hf h⟩
theorem D.flats_dens {B B' : Nat → Prop} {w w' : World} : ∀ (xs : List D) (vs : List Value), D.flats xs = true → D.dens B w xs vs → D.dens B' w' xs vs
  | [], _, _, h => h
  | x :: xs, _, hf, h => by
    obtain ⟨u, us, rfl, h1, h2⟩ := h
    simp only [D.flats, Bool.and_eq_true] at hf
    exact ⟨u, us, rfl, D.flat_den x u hf.1 h1, D.flats_dens xs us hf.2 h2⟩
end
mutual

def D.nomap : D → Bool
  | .mp _ _ => false
  | .agg cs => D.nomaps cs
  | .sl es => D.nomaps es
  | .iface _ x => x.nomap
  | _ => true
def D.nomaps : List D → Bool
  | [] => true
  | x :: xs => x.nomap && D.nomaps xs
end
theorem CellsAt.mono' {B B' : Nat → Prop} {w w' : World} {a : Addr} {cs : Array Value}
    (hb : ∀ b, Celly w b → ¬ B b → w'.heap[b]? = w.heap[b]? ∧ ¬ B' b) (h : CellsAt B w a cs) : CellsAt B' w' a cs := by
  intro j u hj
  obtain ⟨h1, h2⟩ := h j u hj
  have hlt : Celly w a.block := by simpa using celly_of_cell h1
  obtain ⟨h3, h4⟩ := hb _ hlt h2
  exact ⟨by rw [World.cell?_of_block (w := w) (w' := w') (a := a.add j) (by simpa using h3)]; exact h1, h4⟩
mutual

theorem D.nomap_den {B B' : Nat → Prop} {w w' : World} (hb : ∀ b, Celly w b → ¬ B b → w'.heap[b]? = w.heap[b]? ∧ ¬ B' b) :
    ∀ (x : D) (v : Value), x.nomap = true → D.den B w x v → D.den B' w' x v
  | .int _ _, _, _, h | .bool _, _, _, h | .str _, _, _, h | .nili, _, _, h | .nilp, _, _, h | .nilf, _, _, h | .nilm, _, _, h => by simpa [D.den] using h
  | .agg cs, _, hn, h => by
    obtain ⟨a, rfl, h, hf⟩ := h
    exact ⟨a, rfl, D.nomaps_dens hb cs _ hn h, hf⟩
  | .sl es, _, hn, h => by
    obtain ⟨base, len, cap, rfl, h1, h2, h3, sz, h4⟩ := h
    exact ⟨base, len, cap, rfl, h1, h2, h3, sz, fun a ha => ⟨(h4 a ha).1, D.nomaps_elems hb sz a es 0 hn (h4 a ha).2⟩⟩
  | .iface t d, _, hn, h => by
    obtain ⟨u, rfl, h⟩ := h
    exact ⟨u, rfl, D.nomap_den hb d u hn h⟩
  | .mp _ _, _, hn, _ => by simp [D.nomap] at hn
theorem D.nomaps_dens {B B' : Nat → Prop} {w w' : World} (hb : ∀ b, Celly w b → ¬ B b → w'.heap[b]? = w.heap[b]? ∧ ¬ B' b) :
    ∀ (ds : List D) (vs : List Value), D.nomaps ds = true → D.dens B w ds vs → D.dens B' w' ds vs
  | [], _, _, h => h
  | d :: ds, _, hn, h => by
    obtain ⟨u, us, rfl, h1, h2⟩ := h
    simp only [D.nomaps, Bool.and_eq_true] at hn
    exact ⟨u, us, rfl, D.nomap_den hb d u hn.1 h1, D.nomaps_dens hb ds us hn.2 h2⟩
theorem D.nomaps_elems {B B' : Nat → Prop} {w w' : World} (hb : ∀ b, Celly w b → ¬ B b → w'.heap[b]? = w.heap[b]? ∧ ¬ B' b) (sz : Nat) (a : Addr) :
    ∀ (es : List D) (i : Nat), D.nomaps es = true → D.elems B w sz a i es → D.elems B' w' sz a i es
  | [], _, _, _ => trivial
  | e :: es, i, hn, h => by
    obtain ⟨⟨ev, h1, h2, h3⟩, h4⟩ := h
    simp only [D.nomaps, Bool.and_eq_true] at hn
    exact ⟨⟨ev, h1, h2.mono' hb, D.nomap_den hb e ev hn.1 h3⟩, D.nomaps_elems hb sz a es (i + 1) hn.2 h4⟩
end
def R.nomap : R → Bool
  | .ret ds => D.nomaps ds
  | .pan d => d.nomap
def R.flat : R → Bool
  | .ret ds => D.flats ds
  | .pan d => d.flat
def retV : List D → V
  | [x] => .d x
  | ds => .tup (ds.map .d)
inductive Xit where
  | normal | exit (id : Nat) | ret | pan (v : V)
def putE (env : Nat → V) (dst : Option Tmp) (v : V) : Nat → V :=
  match dst with
  | some d => upd env d v
  | none => env
def lendV (o : Nat → Obj') (v : V) : V := match toD o v with | some x => .d x | none => v
def lendIds (o : Nat → Obj') : List V → List Nat
  | [] => []
  | v :: vs => (match toD o v with | some _ => v.ids | none => []) ++ lendIds o vs
def heapW (P : Program) (g : FuncId) (args : List V) (o : Nat → Obj') (nx : Nat) (K X : V → (Nat → Obj') → Nat → Prop) : Prop :=
  CtK P g args o nx K X ∨ CtK P g (args.map (lendV o)) (put o (frz o (lendIds o args))) nx K X
def callL (P : Program) (s : S) (g : FuncId) (all : List V) (K : V → (Nat → Obj') → Nat → Prop) (X : V → (Nat → Obj') → Nat → Prop) : Prop :=
    (∃ ds out, toDs s.o all = some ds ∧ PCt P g ds out ∧ (match out with
      | .ret rs => K (retV rs) (put s.o (frz s.o (V.idss all))) (s.nx + 1)
      | .pan x => X (.d x) (put s.o (frz s.o (V.idss all))) (s.nx + 1))) ∨
    (∃ ds out, toDs s.o all = some ds ∧ PCt P g ds out ∧ out.flat = true ∧ (match out with
      | .ret rs => K (retV rs) s.o (s.nx + 1)
      | .pan x => X (.d x) s.o (s.nx + 1))) ∨
    (∃ ds out, toDs s.o all = some ds ∧ PCt P g ds out ∧ out.nomap = true ∧ (match out with
      | .ret rs => K (retV rs) (put s.o (frzA s.o (V.idss all))) (s.nx + 1)
      | .pan x => X (.d x) (put s.o (frzA s.o (V.idss all))) (s.nx + 1))) ∨
    heapW P g all s.o s.nx K X
def callW (P : Program) (s : S) (f : V) (args : List V) (K : V → (Nat → Obj') → Nat → Prop) (X : V → (Nat → Obj') → Nat → Prop) : Prop :=
  match f with
  | .func (.func g) first cap => callL P s g (first ++ args ++ cap) K X
  | .yld id => RoundK P id args s.o s.nx K X
  | _ => False
def noPtr (P : Program) (t : TypeId) : Bool :=
  match P.underlying t with
  | some (.pointer _) => false
  | some _ => true
  | none => false
def recvT (P : Program) (m : String) (x : V) : Option (FuncId × V) :=
  match x with
  | .d (.iface t y) => match P.info? t with
    | some ti => match ti.methods.find? (·.name == m) with
      | some r => match r.func with
        | some (f, false) => if r.path.isEmpty = true ∧ noPtr P t = true then some (f, .d y) else none
        | _ => none
      | none => none
    | none => none
  | _ => none
def dstOk (n : Nat) : Option Tmp → Prop
  | some d => d < n
  | none => True
def opW (P : Program) (n : Nat) (s : S) (o : Oper) (X : V → S → Prop) (K : S → Prop) : Prop :=
  dstOk n o.dst ∧ match o.op with
  | .call c => match c.callee with
    | .value f => callW P s (s.ev f) (c.args.toList.map s.ev) (fun v o' nx' => K ⟨putE s.env o.dst v, o', nx'⟩) (fun v o' nx' => X v ⟨s.env, o', nx'⟩)
    | .invoke r m => match recvT P m (s.ev r) with
      | some (g, y) => callL P s g (y :: c.args.toList.map s.ev) (fun v o' nx' => K ⟨putE s.env o.dst v, o', nx'⟩) (fun v o' nx' => X v ⟨s.env, o', nx'⟩)
      | none => False
    | _ => sop P s s.nx o.op fun v Δ _ => K ⟨putE s.env o.dst v, put s.o Δ, s.nx + 1⟩
  | .panic x => match s.ev x with
    | .d (.iface t y) => X (.d (.iface t y)) s
    | .iface t y => X (.iface t y) s
    | _ => False
  | op => sop P s s.nx op fun v Δ _ => K ⟨putE s.env o.dst v, put s.o Δ, s.nx + 1⟩
def guardW (s : S) (ops : Array Oper) (g : Option (Nat × Bool)) (A B : Prop) : Prop :=
  match g with
  | none => A
  | some (j, want) => match dstAt ops j with
    | some d => match s.env d with
      | .d (.bool b) => (b = want → A) ∧ (b ≠ want → B)
      | .tup [] => B
      | _ => False
    | none => B
def regW (P : Program) (n : Nat) (ops : Array Oper) (X : V → S → Prop) (K : S → Prop) : List Oper → S → Prop
  | [], s => K s
  | o :: l, s => guardW s ops o.guard (opW P n s o X (regW P n ops X K l)) (dstOk n o.dst ∧ regW P n ops X K l ⟨putE s.env o.dst (.tup []), s.o, s.nx + 1⟩)
def SLe (b : Nat) (s s' : S) : Prop :=
  ∀ (M : Nat → Prop) (φ : Place) (w : World) (tm : Nat → Value), HeapOk M φ s.H w → (∀ i, V.den (mutB M φ s.H) φ s.H w (s.env i) (tm i)) →
    ∃ φ', HeapOk M φ' s'.H w ∧ (∀ i, V.den (mutB M φ' s'.H) φ' s'.H w (s'.env i) (tm i)) ∧ (∀ k, liveB φ' s'.H k → liveB φ s.H k) ∧ b ≤ s'.nx ∧
      (∀ id, id < b → (s'.o id).isRow = true → (s.o id).isRow = true ∧ φ' id = φ id) ∧
      (∀ id e', id < b → (s'.o id).epoch = some e' → ∃ e, (s.o id).epoch = some e ∧ e ≤ e' ∧ (e = e' → φ' id = φ id))
def thenQ (K : S → Prop) (Q : Xit → S → Prop) (e : Xit) (s : S) : Prop := match e with | .normal => K s | e => Q e s
def blockQ (id : Nat) (Q : Xit → S → Prop) (e : Xit) (s : S) : Prop := match e with | .exit j => if j = id then Q .normal s else Q (.exit j) s | e => Q e s
def resV (P : Program) (s : S) : List ResultVar → Option (List V)
  | [] => some []
  | .tmp t :: rs => (resV P s rs).map (s.env t :: ·)
  | .cell a t :: rs => match s.env a with
    | .ptr id off => match s.o id with
      | .row cs => (rowGet P t cs off).bind fun v => (resV P s rs).map (v :: ·)
      | _ => none
    | _ => none
def argsEnv (vs : List V) : Nat → V := fun i => vs.getD i (.tup [])
def endW (P : Program) (rs : List ResultVar) (out : R) (e : Xit) (s : S) : Prop :=
  match e with
  | .normal | .ret => match resV P s rs with
    | some vs => match toDs s.o vs with
      | some ds => out = .ret ds
      | none => False
    | none => False
  | .pan v => match toD s.o v with
    | some x => out = .pan x
    | none => False
  | .exit _ => False
theorem endW_ret {P : Program} {rs : List ResultVar} {out : R} {s : S} (h : match resV P s rs with
    | some vs => match toDs s.o vs with
      | some ds => out = .ret ds
      | none => False
    | none => False) : ∃ vs ds, resV P s rs = some vs ∧ toDs s.o vs = some ds ∧ out = .ret ds := by
  split at h
  · rename_i vs h1
    split at h
    · rename_i xs h2; exact ⟨vs, xs, h1, h2, h⟩
    · exact h.elim
  · exact h.elim
theorem endW_pan {out : R} {s : S} {v : V} (h : match toD s.o v with
    | some x => out = .pan x
    | none => False) : ∃ x, toD s.o v = some x ∧ out = .pan x := by
  split at h
  · rename_i x h1; exact ⟨x, h1, h⟩
  · exact h.elim
end Go.Proofs.YtealblliddhgiaaGreat
