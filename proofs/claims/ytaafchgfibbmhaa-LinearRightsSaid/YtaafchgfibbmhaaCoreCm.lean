/-
  '==' AND '!=' with nil, and of structs and arrays. Conditions: none (a library of lemmas).
-/
import Derived.Test.YtaafchgfibbmhaaCoreMp
namespace Go.Proofs.Ytaafchgfibbmhaa

section
variable {P : Program} (w : World) (d : Nat) {t : TypeId}
theorem e_if1 {ms} (ht : P.underlying t = some (.interface ms)) : (Op.equalIn (d + 1) t .nilIface .nilIface).run P w = .ok true w := by simp [Op.equalIn, run_underlying ht]
theorem e_if2 {ms} (ht : P.underlying t = some (.interface ms)) (u : TypeId) (v : Value) : (Op.equalIn (d + 1) t (.iface u v) .nilIface).run P w = .ok false w := by simp [Op.equalIn, run_underlying ht]
theorem e_if3 {ms} (ht : P.underlying t = some (.interface ms)) (u : TypeId) (v : Value) : (Op.equalIn (d + 1) t .nilIface (.iface u v)).run P w = .ok false w := by simp [Op.equalIn, run_underlying ht]
theorem e_fn1 {a b c} (ht : P.underlying t = some (.func a b c)) : (Op.equalIn (d + 1) t .nilFunc .nilFunc).run P w = .ok true w := by simp [Op.equalIn, run_underlying ht]
theorem e_fn2 {a b c} (ht : P.underlying t = some (.func a b c)) (f x y) : (Op.equalIn (d + 1) t (.func f x y) .nilFunc).run P w = .ok false w := by simp [Op.equalIn, run_underlying ht]
theorem e_mp1 {a b} (ht : P.underlying t = some (.map a b)) : (Op.equalIn (d + 1) t (.map none) (.map none)).run P w = .ok true w := by simp [Op.equalIn, run_underlying ht]
theorem e_mp2 {a b} (ht : P.underlying t = some (.map a b)) (x) : (Op.equalIn (d + 1) t (.map (some x)) (.map none)).run P w = .ok false w := by simp [Op.equalIn, run_underlying ht]
theorem e_pt1 {e} (ht : P.underlying t = some (.pointer e)) : (Op.equalIn (d + 1) t (.pointer none) (.pointer none)).run P w = .ok true w := by simp [Op.equalIn, run_underlying ht]
theorem e_pt2 {e} (ht : P.underlying t = some (.pointer e)) (a) : (Op.equalIn (d + 1) t (.pointer (some a)) (.pointer none)).run P w = .ok false w := by simp [Op.equalIn, run_underlying ht]
theorem e_sl {e} (ht : P.underlying t = some (.slice e)) (b n c) : (Op.equalIn (d + 1) t (.slice b n c) (.slice none 0 0)).run P w = .ok b.isNone w := by cases b <;> simp [Op.equalIn, run_underlying ht]
end

section
variable {P : Program} {M : Nat → Prop} {φ : Place} {H : Hp} {w w' : World} {fr : Nat} {K : V → List (Nat × Obj') → List Nat → Prop} {B : Nat → Prop}

theorem listV_base (hH : HeapOk M φ H w) {x : V} {xv : Value} {es : List D} (h : listV H.o x = some es) (hx : V.den (mutB M φ H) φ H w x xv) : ∃ base n c, xv = .slice base n c ∧ (es ≠ [] → base ≠ none) := by
  have hd : ∃ x', toD H.o x = some x' ∧ x' = .sl es := by
    unfold listV at h
    split at h
    · rename_i es' hd; injection h with h; subst h; exact ⟨_, hd, rfl⟩
    · cases h
  obtain ⟨x', hd, rfl⟩ := hd
  obtain ⟨f1, f2, f3, f4, f5⟩ := freezes hH x.ids (ids_used x _ hx)
  have := toD_den f1 x (.sl es) xv f3 hd (V.den_mono f2 _ _ hx)
  obtain ⟨base, len, cap, rfl, h1, h2, h3, _⟩ := this
  refine ⟨base, len, cap, rfl, fun hne hb => ?_⟩
  have := h3 hb
  have : es.length = 0 := by omega
  exact hne (List.length_eq_zero_iff.1 this)

def wideV : Value → Bool
  | .int _ _ | .float _ _ | .complex _ _ _ | .string _ => false
  | _ => true
/-- What 'eqV' answers, the model's '==' answers. -/
theorem eqV_run (hH : HeapOk M φ H w) {t : TypeId} {p q : Operand} {x y v : V} {xv yv : Value} (hx : V.den (mutB M φ H) φ H w x xv) (hy : V.den (mutB M φ H) φ H w y yv) (h : eqV P H.o t (isConst p || isConst q) x y = some v) :
    ∃ r : Bool, (v = .d (.bool r) ∨ v = .anyb) ∧ wideV xv = true ∧ (∀ op, (eqGuard op t p q xv yv).run P w = .ok () w) ∧ (Op.equal t xv yv).run P w = .ok r w := by
  have plainG : (∀ a b, ¬ (xv = .agg a ∧ yv = .agg b)) → ¬ (xv = .nilIface ∧ yv = .nilIface) → ∀ op, (eqGuard op t p q xv yv).run P w = .ok () w := by
    intro h1 h2 op
    unfold eqGuard
    cases op <;> cases xv <;> cases yv <;> first
      | (simp; done)
      | (exact absurd ⟨rfl, rfl⟩ (h1 _ _))
      | (exact absurd ⟨rfl, rfl⟩ h2)
  unfold eqV at h
  cases ht : P.underlying t with
  | none => simp [ht] at h
  | some td =>
    simp only [ht] at h
    have eq : ∀ r, (∀ d, (Op.equalIn (d + 1) t xv yv).run P w = .ok r w) → (Op.equal t xv yv).run P w = .ok r w := fun r h => h 9999
    cases td <;> simp only [reduceCtorEq] at h
    case interface ms =>
      split at h
      · split at h
        · rename_i hc
          injection h with h; subst h
          simp only [V.den, D.den] at hx hy; subst hx; subst hy
          refine ⟨true, .inl rfl, rfl, fun op => ?_, eq _ (fun d => by rw [e_if1 w d ht])⟩
          simp only [Bool.or_eq_true] at hc
          unfold eqGuard
          rcases hc with hc | hc
          · cases p <;> simp only [isConst, Bool.false_eq_true] at hc
            cases op <;> simp
          · cases q <;> simp only [isConst, Bool.false_eq_true] at hc
            cases op <;> simp
        · cases h
      · injection h with h; subst h
        obtain ⟨u, rfl, _⟩ := hx
        simp only [V.den, D.den] at hy; subst hy
        exact ⟨false, .inl rfl, rfl, plainG (fun _ _ h => by cases h.1) (by rintro ⟨h1, h2⟩; first | (cases h1; done) | (cases h2; done)), eq _ (fun d => by rw [e_if2 w d ht])⟩
      · injection h with h; subst h
        obtain ⟨u, rfl, _⟩ := hx
        simp only [V.den, D.den] at hy; subst hy
        exact ⟨false, .inl rfl, rfl, plainG (fun _ _ h => by cases h.1) (by rintro ⟨h1, h2⟩; first | (cases h1; done) | (cases h2; done)), eq _ (fun d => by rw [e_if2 w d ht])⟩
      · injection h with h; subst h
        obtain ⟨u, rfl, _⟩ := hy
        simp only [V.den, D.den] at hx; subst hx
        exact ⟨false, .inl rfl, rfl, plainG (fun _ _ h => by cases h.1) (by rintro ⟨h1, h2⟩; first | (cases h1; done) | (cases h2; done)), eq _ (fun d => by rw [e_if3 w d ht])⟩
      · injection h with h; subst h
        obtain ⟨u, rfl, _⟩ := hy
        simp only [V.den, D.den] at hx; subst hx
        exact ⟨false, .inl rfl, rfl, plainG (fun _ _ h => by cases h.1) (by rintro ⟨h1, h2⟩; first | (cases h1; done) | (cases h2; done)), eq _ (fun d => by rw [e_if3 w d ht])⟩
      · cases h
    case func a b c =>
      split at h
      · injection h with h; subst h
        simp only [V.den, D.den] at hx hy; subst hx; subst hy
        exact ⟨true, .inl rfl, rfl, plainG (fun _ _ h => by cases h.1) (by rintro ⟨h1, h2⟩; first | (cases h1; done) | (cases h2; done)), eq _ (fun d => by rw [e_fn1 w d ht])⟩
      · injection h with h; subst h
        obtain ⟨f, c', rfl, _⟩ := hx
        simp only [V.den, D.den] at hy; subst hy
        exact ⟨false, .inl rfl, rfl, plainG (fun _ _ h => by cases h.1) (by rintro ⟨h1, h2⟩; first | (cases h1; done) | (cases h2; done)), eq _ (fun d => by rw [e_fn2 w d ht])⟩
      · cases h
    case map a b =>
      split at h
      · simp only [V.den, D.den] at hy; subst hy
        unfold mapNil at h
        split at h
        · injection h with h; subst h
          simp only [V.den, D.den] at hx; subst hx
          exact ⟨true, .inl rfl, rfl, plainG (fun _ _ h => by cases h.1) (by rintro ⟨h1, h2⟩; first | (cases h1; done) | (cases h2; done)), eq _ (fun d => by rw [e_mp1 w d ht])⟩
        · rename_i id
          split at h
          · rename_i ho
            injection h with h; subst h
            obtain ⟨_, _, h3⟩ := hx
            have hφ := h3 (by rw [ho]; rfl)
            have hok := hH.ok id
            simp only [ObjOk, ho] at hok
            obtain ⟨bk, es, clock, g1, _⟩ := hok
            rw [← hφ] at g1; subst g1
            exact ⟨false, .inl rfl, rfl, plainG (fun _ _ h => by cases h.1) (by rintro ⟨h1, h2⟩; first | (cases h1; done) | (cases h2; done)), eq _ (fun d => by rw [e_mp2 w d ht])⟩
          · cases h
        · cases h
      · cases h
    case pointer e =>
      split at h
      · simp only [V.den, D.den] at hy; subst hy
        unfold ptrNil at h
        split at h
        · injection h with h; subst h
          simp only [V.den, D.den] at hx; subst hx
          exact ⟨true, .inl rfl, rfl, plainG (fun _ _ h => by cases h.1) (by rintro ⟨h1, h2⟩; first | (cases h1; done) | (cases h2; done)), eq _ (fun d => by rw [e_pt1 w d ht])⟩
        · split at h
          · rename_i hr
            injection h with h; subst h
            obtain ⟨_, _, h3⟩ := hx
            obtain ⟨bk, _, rfl⟩ := h3 hr
            exact ⟨false, .inl rfl, rfl, plainG (fun _ _ h => by cases h.1) (by rintro ⟨h1, h2⟩; first | (cases h1; done) | (cases h2; done)), eq _ (fun d => by rw [e_pt2 w d ht])⟩
          · cases h
        · injection h with h; subst h
          obtain ⟨a, ev, _, rfl, _⟩ := hx
          exact ⟨false, .inl rfl, rfl, plainG (fun _ _ h => by cases h.1) (by rintro ⟨h1, h2⟩; first | (cases h1; done) | (cases h2; done)), eq _ (fun d => by rw [e_pt2 w d ht])⟩
        · cases h
      · cases h
    case slice e =>
      split at h
      · simp only [V.den] at hy; subst hy
        unfold nilF at h
        split at h
        · injection h with h; subst h
          simp only [V.den] at hx; subst hx
          exact ⟨true, .inl rfl, rfl, plainG (fun _ _ h => by cases h.1) (by rintro ⟨h1, h2⟩; first | (cases h1; done) | (cases h2; done)), eq _ (fun d => by rw [e_sl w d ht]; rfl)⟩
        · split at h
          · rename_i es hl
            obtain ⟨base, n, c, rfl, hb⟩ := listV_base hH hl hx
            refine ⟨base.isNone, ?_, rfl, plainG (fun _ _ h => by cases h.1) (by rintro ⟨h1, h2⟩; first | (cases h1; done) | (cases h2; done)), eq _ ?_⟩
            · split at h
              · injection h with h; exact .inr h.symm
              · rename_i hne
                injection h with h
                have := hb hne
                cases base with
                | none => exact absurd rfl this
                | some a => exact .inl h.symm
            · intro d
              rw [e_sl w d ht]
          · cases h
      · cases h
    case struct fs =>
      split at h
      · split at h
        · rename_i hg
          simp only [Option.map_eq_some_iff] at h
          obtain ⟨r, h1, rfl⟩ := h
          obtain ⟨g1, g2⟩ := eqT_at h1 hg (mutB M φ H) w xv yv hx hy
          exact ⟨r, .inl rfl, by obtain ⟨_, rfl, _⟩ := hx; rfl, fun op => g2 op p q, g1⟩
        · cases h
      · cases h
    case array n e =>
      split at h
      · split at h
        · rename_i hg
          simp only [Option.map_eq_some_iff] at h
          obtain ⟨r, h1, rfl⟩ := h
          obtain ⟨g1, g2⟩ := eqT_at h1 hg (mutB M φ H) w xv yv hx hy
          exact ⟨r, .inl rfl, by obtain ⟨_, rfl, _⟩ := hx; rfl, fun op => g2 op p q, g1⟩
        · cases h
      · cases h

theorem eff_cmp (hH : HeapOk M φ H w) {op : BinOp} {t : TypeId} {p q : Operand} {x y : V} {xv yv : Value} (hx : V.den (mutB M φ H) φ H w x xv) (hy : V.den (mutB M φ H) φ H w y yv)
    (h : resK (cmpF P H.o op t (isConst p || isConst q) x y) K) :
    Eff M φ H w fr ((do let y ← (do eqGuard op t p q xv yv; binOp op t xv yv); pure (Next.value y) : Sem Next).run P w) K := by
  have hg := resK_get h
  clear h
  obtain ⟨v, Δ, rd, h, hK⟩ := hg
  unfold cmpF at h
  split at h
  · simp only [Option.map_eq_some_iff] at h
    obtain ⟨u, h1, h2⟩ := h
    injection h2 with e1 e2; injection e2 with e2 e3; subst e1; subst e2; subst e3
    obtain ⟨r, hv, hwd, hgd, he⟩ := eqV_run (p := p) (q := q) hH hx hy h1
    refine Eff.plain hH (.bool r) hK ?_ ?_
    · have hb : (binOp .eql t xv yv).run P w = .ok (.bool r) w := by
        unfold binOp
        cases xv <;> first | (simp [wideV] at hwd; done) | (cases yv <;> simp [he])
      simp [hgd, hb]
    · rcases hv with rfl | rfl
      · rfl
      · exact ⟨r, rfl⟩
  · simp only [Option.map_eq_some_iff, Option.bind_eq_some_iff] at h
    obtain ⟨u', ⟨u, h1, h3⟩, h2⟩ := h
    injection h2 with e1 e2; injection e2 with e2 e3; subst e1; subst e2; subst e3
    obtain ⟨r, hv, hwd, hgd, he⟩ := eqV_run (p := p) (q := q) hH hx hy h1
    refine Eff.plain hH (.bool !r) hK ?_ ?_
    · have hb : (binOp .neq t xv yv).run P w = .ok (.bool !r) w := by
        unfold binOp
        cases xv <;> first | (simp [wideV] at hwd; done) | (cases yv <;> simp [he])
      simp [hgd, hb]
    · rcases hv with rfl | rfl
      · simp only [notV, Option.some.injEq] at h3; subst h3; rfl
      · simp only [notV, Option.some.injEq] at h3; subst h3; exact ⟨!r, rfl⟩
  · cases h
end
end Go.Proofs.Ytaafchgfibbmhaa
