/-
  OPERATIONS THAT LEAVE MEMORY ALONE: addresses, arithmetic, comparisons, choices. Conditions: as each lemma says.
-/
import Derived.Test.YtaafchgfibbmhaaCoreE
namespace Go.Proofs.Ytaafchgfibbmhaa
section
variable {P : Program} {M : Nat → Prop} {φ : Place} {H : Hp} {w : World} {fr : Nat} {K : V → List (Nat × Obj') → List Nat → Prop}

/-- A value that memory has no part in. -/
theorem Eff.plain (hH : HeapOk M φ H w) {s : Sem Value} {v : V} {rd : List Nat} (val : Value) (hK : K v [] rd) (hr : s.run P w = .ok val w) (hd : V.den (mutB M φ H) φ H w v val) :
    Eff M φ H w fr ((do let y ← s; pure (Next.value y) : Sem Next).run P w) K := Eff.same hH val hK (by simp [hr]) hd

theorem fieldT_spec {t : TypeId} {f q : Nat} (h : fieldT P t f = some q) : ∃ fs fd, P.underlying t = some (.struct fs) ∧ fs[f]? = some fd ∧ P.cellsOf fd.type ≠ 0 ∧ fd.offset = q := by
  unfold fieldT at h
  cases hd : P.underlying t with
  | none => simp [hd] at h
  | some d =>
    cases d <;> simp only [hd] at h <;> try (cases h; done)
    rename_i fs
    cases hf : fs[f]? with
    | none => simp [hf] at h
    | some fd =>
      simp only [hf] at h
      split at h
      · cases h
      · injection h with h
        exact ⟨fs, fd, rfl, hf, by assumption, h⟩

theorem run_fieldAt {t : TypeId} {f q : Nat} (h : fieldT P t f = some q) (a : Addr) : (Instr.fieldAt t (.pointer (some a)) f).run P w = .ok (.pointer (some (a.add q))) w := by
  obtain ⟨fs, fd, h1, h2, h3, rfl⟩ := fieldT_spec h
  have : ∃ i, P.info? fd.type = some i := by
    cases hi : P.info? fd.type with
    | none => simp [Program.cellsOf, hi] at h3
    | some i => exact ⟨i, rfl⟩
  obtain ⟨i, hi⟩ := this
  simp [Instr.fieldAt, run_underlying h1, h2, Instr.sureAddr, fieldPlace, run_size hi, h3]

/-- Going on from a place to one behind it. -/
def V.step (x : V) (q : Nat) : Option V :=
  match x with
  | .ptr id off => some (.ptr id (off + q))
  | .pp cs off => some (.pp cs (off + q))
  | .pe id ep j sz off => some (.pe id ep j sz (off + q))
  | _ => none
def V.place (o : Nat → Obj') : V → Prop
  | .ptr id _ => (o id).isRow = true
  | .pe id ep _ _ _ => (o id).epoch = some ep
  | _ => True
theorem step_den {x y : V} {q : Nat} (h : x.step q = some y) {xv : Value} (hx : V.den (mutB M φ H) φ H w x xv)
    (hr : x.place H.o) :
    ∃ a, xv = .pointer (some a) ∧ V.den (mutB M φ H) φ H w y (.pointer (some (a.add q))) := by
  cases x with
  | ptr id off =>
    simp only [V.step, Option.some.injEq] at h; subst h
    obtain ⟨h1, h2, h3⟩ := hx
    obtain ⟨b, h4, rfl⟩ := h3 hr
    exact ⟨_, rfl, rfl, h2, fun _ => ⟨b, h4, by rw [add_plain]⟩⟩
  | pp cs off =>
    simp only [V.step, Option.some.injEq] at h; subst h
    obtain ⟨a, ev, ha, rfl, hd⟩ := hx
    exact ⟨_, rfl, a, ev, ha, by rw [add_add a ha], hd⟩
  | pe id ep j sz off =>
    simp only [V.step, Option.some.injEq] at h; subst h
    obtain ⟨h1, h2, h3⟩ := hx
    obtain ⟨b, n, c, h4, rfl⟩ := (h3 ep hr).2 rfl
    refine ⟨_, rfl, rfl, h2, fun e he => ⟨(h3 e he).1, fun heq => ⟨b, n, c, h4, by rw [add_plain, Nat.add_assoc]⟩⟩⟩
  | _ => simp [V.step] at h

theorem eff_fieldAddr (hH : HeapOk M φ H w) {t : TypeId} {f : Nat} {x : V} {xv : Value} (hx : V.den (mutB M φ H) φ H w x xv) (h : fieldAddrV P H.o t x f fun v => K v [] []) :
    Eff M φ H w fr ((do let y ← Instr.fieldAt t xv f; pure (Next.value y) : Sem Next).run P w) K := by
  have fin : ∀ (y : V) q, fieldT P t f = some q → x.step q = some y → x.place H.o → K y [] [] →
      Eff M φ H w fr ((do let y ← Instr.fieldAt t xv f; pure (Next.value y) : Sem Next).run P w) K := by
    intro y q hq hs hr hK
    obtain ⟨a, rfl, hd⟩ := step_den hs hx hr
    exact Eff.plain hH _ hK (run_fieldAt hq a) hd
  unfold fieldAddrV at h
  split at h
  · rename_i q hq
    split at h
    · exact fin _ q hq rfl h.1 h.2
    · exact fin _ q hq rfl trivial h
    · exact fin _ q hq rfl h.1 h.2
    · exact h.elim
  · exact h.elim

theorem slice_elem {B : Nat → Prop} {es : List D} {xv : Value} (hx : D.den B w (.sl es) xv) {i : Nat} {y : D} (hy : es[i]? = some y) :
    ∃ a len cap ev, xv = .slice (some a) len cap ∧ i < len ∧ a.spot = none ∧ D.dens B w y.cells ev ∧ Flat ev ∧ CellsAt B w (a.add (i * y.cells.length)) ev.toArray ∧ len = es.length := by
  obtain ⟨base, len, cap, rfl, rfl, h2, h3, sz, h4⟩ := hx
  have hlt : i < es.length := (List.getElem?_eq_some_iff.1 hy).1
  cases base with
  | none => have := h3 rfl; omega
  | some a =>
    obtain ⟨h5, h6⟩ := h4 a rfl
    obtain ⟨ev, h7, h8, h9⟩ := D.elems_get es 0 i y h6 hy
    have h10 := D.den_cells _ _ h9
    have h11 : y.cells.length = sz := by rw [← h7, ← D.dens_length _ _ h10.1]; simp
    refine ⟨a, es.length, cap, ev.cells.toList, rfl, hlt, h5 (by omega), h10.1, h10.2, ?_, rfl⟩
    rw [h11]
    simpa using h8

theorem run_indexAt_s {t e : TypeId} (ht : sliceT P t = some e) (a : Addr) (len cap : Nat) (k : IntKind) (i : Int) (h0 : 0 ≤ i) (h1 : i.toNat < len) (hc : 0 < P.cellsOf e) :
    (Instr.indexAt t (.slice (some a) len cap) (.int k i)).run P w = .ok (.pointer (some (a.add (i.toNat * P.cellsOf e)))) w := by
  have hu := sliceT_spec ht
  have : ∃ ie, P.info? e = some ie := by
    cases hi : P.info? e with
    | none => simp [Program.cellsOf, hi] at hc
    | some i => exact ⟨i, rfl⟩
  obtain ⟨ie, hi⟩ := this
  have h2 : 0 ≤ i ∧ i < (len : Int) := ⟨h0, by omega⟩
  simp [Instr.indexAt, run_underlying hu, asIntOf, h2, run_size hi]

theorem run_indexAt_a {t e : TypeId} {n : Nat} (ht : arrT P t = some (n, e)) (a : Addr) (k : IntKind) (i : Int) (h0 : 0 ≤ i) (h1 : i < n) (hi : ∃ ie, P.info? e = some ie) :
    (Instr.indexAt t (.pointer (some a)) (.int k i)).run P w = .ok (.pointer (some (a.add (i.toNat * P.cellsOf e)))) w := by
  have hu := arrT_spec ht
  obtain ⟨ie, hi⟩ := hi
  have h2 : 0 ≤ i ∧ i < (n : Int) := ⟨h0, h1⟩
  simp [Instr.indexAt, run_underlying hu, asIntOf, Instr.sureAddr, h2, run_size hi]

theorem eff_indexAddr (hH : HeapOk M φ H w) {t : TypeId} {x ix : V} {xv iv : Value} (hx : V.den (mutB M φ H) φ H w x xv) (hi : V.den (mutB M φ H) φ H w ix iv)
    (h : indexAddrV P H.o t x ix fun v rd => K v [] rd) : Eff M φ H w fr ((do let y ← Instr.indexAt t xv iv; pure (Next.value y) : Sem Next).run P w) K := by
  unfold indexAddrV at h
  split at h
  · rename_i k i
    simp only [V.den, D.den] at hi; subst hi
    have pure_sl : ∀ {e : TypeId} {es : List D} {rd}, sliceT P t = some e → D.den (mutB M φ H) w (.sl es) xv → (0 ≤ i ∧ ∃ y, es[i.toNat]? = some y ∧ y.cells.length = P.cellsOf e ∧ 0 < P.cellsOf e ∧ K (.pp y.cells 0) [] rd) →
        Eff M φ H w fr ((do let y ← Instr.indexAt t xv (.int k i); pure (Next.value y) : Sem Next).run P w) K := by
      rintro e es rd ht hd ⟨h0, y, hy, hc, hpos, hK⟩
      obtain ⟨a, len, cap, ev, rfl, h1, h2, h3, h4, h5, _⟩ := slice_elem hd hy
      refine Eff.plain hH _ hK (run_indexAt_s ht a len cap k i h0 h1 hpos) ⟨a.add (i.toNat * P.cellsOf e), ev, add_spot a h2 _, by rw [add_zero], h3, h4, ?_⟩
      rw [← hc]; exact h5
    split at h
    · rename_i e ht
      split at h
      · exact pure_sl ht hx h
      · exact pure_sl ht hx.1 h
      · rename_i id ep
        split at h
        · rename_i ep' ty sz es ho
          obtain ⟨rfl, h0, h1, rfl, hpos, hK⟩ := h
          obtain ⟨hone, hus, hep⟩ := hx
          have hv := (hep ep (by rw [ho]; rfl)).2 rfl
          have hok := hH.ok id
          simp only [ObjOk, ho] at hok
          obtain ⟨h3, xs, ⟨_, hrow⟩, _⟩ := hok
          rcases hrow with ⟨_, h5⟩ | ⟨g, cap, cur, h4, _⟩
          · omega
          · subst hv
            rw [h4]
            refine Eff.plain hH _ hK (run_indexAt_s ht _ _ cap k i h0 h1 hpos) ⟨rfl, hus, fun e' he' => ⟨(hep e' he').1, fun heq => ⟨g, es.length, cap, h4, by rw [add_plain]; simp⟩⟩⟩
        · rename_i ep' es ho
          obtain ⟨rfl, h⟩ := h
          obtain ⟨hone, hus, hep⟩ := hx
          have hv := (hep ep (by rw [ho]; rfl)).2 rfl
          have hok := hH.ok id
          simp only [ObjOk, ho] at hok
          exact pure_sl ht (hv ▸ hok) h
        · exact h.elim
      · exact h.elim
    · split at h
      · rename_i n e ht
        obtain ⟨h0, h1, hinf, h⟩ := h
        have fin : ∀ (y : V), x.step (i.toNat * P.cellsOf e) = some y → x.place H.o → K y [] [] →
            Eff M φ H w fr ((do let y ← Instr.indexAt t xv (.int k i); pure (Next.value y) : Sem Next).run P w) K := by
          intro y hs hr hK
          obtain ⟨a, rfl, hd⟩ := step_den hs hx hr
          refine Eff.plain hH _ hK (run_indexAt_a ht a k i h0 h1 (Option.isSome_iff_exists.1 hinf)) hd
        split at h
        · exact fin _ rfl h.1 h.2
        · exact fin _ rfl trivial h
        · exact fin _ rfl h.1 h.2
        · exact h.elim
      · exact h.elim
  · exact h.elim

theorem eff_un (hH : HeapOk M φ H w) {op : UnOp} {x : V} {xv : Value} (hx : V.den (mutB M φ H) φ H w x xv) (h : unV op x fun v => K v [] []) :
    Eff M φ H w fr ((do let y ← Op.unary op xv; pure (Next.value y) : Sem Next).run P w) K := by
  unfold unV at h
  split at h
  · simp only [V.den, D.den] at hx; subst hx
    exact Eff.plain hH _ h (by simp [Op.unary, Op.intArith]) rfl
  · simp only [V.den, D.den] at hx; subst hx
    exact Eff.plain hH _ h (by simp [Op.unary]) rfl
  · exact h.elim

theorem run_intBits {op : BinOp} {k : IntKind} {a b r : Int} (h : bitsI op k a b = some r) : (Op.intBits op k a b).run P w = .ok (.int k r) w := by
  unfold bitsI at h
  cases op <;> simp at h <;> subst h <;> simp [Op.intBits]

theorem run_eq_bool {t : TypeId} (hu : P.underlying t = some .bool) (a b : Bool) (d : Nat) : (Op.equalIn (d + 1) t (.bool a) (.bool b)).run P w = .ok (a == b) w := by
  simp [Op.equalIn, run_underlying hu]
theorem eff_bin (hH : HeapOk M φ H w) {op : BinOp} {t : TypeId} {p q : Operand} {x y : V} {xv yv : Value} (hx : V.den (mutB M φ H) φ H w x xv) (hy : V.den (mutB M φ H) φ H w y yv)
    (h : binV P op t x y fun v => K v [] []) :
    Eff M φ H w fr ((do let y ← (do eqGuard op t p q xv yv; binOp op t xv yv); pure (Next.value y) : Sem Next).run P w) K := by
  unfold binV at h
  split at h
  · rename_i k a k' b
    obtain ⟨rfl, h⟩ := h
    simp only [V.den, D.den] at hx hy; subst hx; subst hy
    have hg : (eqGuard op t p q (.int k a) (.int k b)).run P w = .ok () w := by
      unfold eqGuard; cases op <;> simp
    have fin : ∀ (v : V) (val : Value), K v [] [] → (binOp op t (.int k a) (.int k b)).run P w = .ok val w → V.den (mutB M φ H) φ H w v val →
        Eff M φ H w fr ((do let y ← (do eqGuard op t p q (.int k a) (.int k b); binOp op t (.int k a) (.int k b)); pure (Next.value y) : Sem Next).run P w) K := by
      intro v val hK hr hd
      exact Eff.plain hH val hK (by simp [hg, hr]) hd
    cases op <;> simp only [intV] at h
    case add => exact fin _ _ h (by simp [binOp, Op.intArith]) rfl
    case sub => exact fin _ _ h (by simp [binOp, Op.intArith]) rfl
    case mul => exact fin _ _ h (by simp [binOp, Op.intArith]) rfl
    case quo => exact fin _ _ h.2 (by simp [binOp, Op.intDiv, h.1]) rfl
    case rem => exact fin _ _ h.2 (by simp [binOp, Op.intDiv, h.1]) rfl
    case and => obtain ⟨r, hr, hK⟩ := h; exact fin _ _ hK (by simp [binOp, run_intBits hr]) rfl
    case or => obtain ⟨r, hr, hK⟩ := h; exact fin _ _ hK (by simp [binOp, run_intBits hr]) rfl
    case xor => obtain ⟨r, hr, hK⟩ := h; exact fin _ _ hK (by simp [binOp, run_intBits hr]) rfl
    case andNot => obtain ⟨r, hr, hK⟩ := h; exact fin _ _ hK (by simp [binOp, run_intBits hr]) rfl
    all_goals
      obtain ⟨r, hr, hK⟩ := h
      simp only [cmpV, Option.some.injEq] at hr
      subst hr
      exact fin _ _ hK (by simp [binOp, Op.intCmp]; rfl) (by simp [V.den, D.den])
  · rename_i a b
    simp only [V.den, D.den] at hx hy; subst hx; subst hy
    have hg : (eqGuard op t p q (.bool a) (.bool b)).run P w = .ok () w := by
      unfold eqGuard; cases op <;> simp
    split at h
    · obtain ⟨hu, hK⟩ := h
      have h1 : (Op.equal t (.bool a) (.bool b)).run P w = .ok (a == b) w := run_eq_bool hu a b 9999
      exact Eff.plain hH (.bool (a == b)) hK (by simp [hg, binOp, h1]) rfl
    · obtain ⟨hu, hK⟩ := h
      have h1 : (Op.equal t (.bool a) (.bool b)).run P w = .ok (a == b) w := run_eq_bool hu a b 9999
      exact Eff.plain hH (.bool (a != b)) hK (by simp [hg, binOp, h1, bne]) rfl
    · exact h.elim
  · rename_i a b
    obtain ⟨u, rfl, rfl⟩ := hx
    obtain ⟨v, rfl, rfl⟩ := hy
    have hg : (eqGuard op t p q (.string u) (.string v)).run P w = .ok () w := by
      unfold eqGuard; cases op <;> simp
    split at h
    · exact Eff.plain hH (.bool (u.data.toList == v.data.toList)) h (by simp [hg, binOp, Op.stringOp, ByteArray.toList_eq]) rfl
    · exact Eff.plain hH (.bool (u.data.toList != v.data.toList)) h (by simp [hg, binOp, Op.stringOp, ByteArray.toList_eq, bne]) rfl
    · exact h.elim
  · rename_i a b
    obtain ⟨a', rfl, hx⟩ := hx
    obtain ⟨b', rfl, hy⟩ := hy
    split at h
    · obtain ⟨r, hr, hK⟩ := h
      obtain ⟨h1, h2⟩ := hr (mutB M φ H) w (.agg a') (.agg b') ⟨a', rfl, hx⟩ ⟨b', rfl, hy⟩
      exact Eff.plain hH (.bool r) hK (by simp [h2, binOp, h1]) rfl
    · obtain ⟨r, hr, hK⟩ := h
      obtain ⟨h1, h2⟩ := hr (mutB M φ H) w (.agg a') (.agg b') ⟨a', rfl, hx⟩ ⟨b', rfl, hy⟩
      exact Eff.plain hH (.bool !r) hK (by simp [h2, binOp, h1]) rfl
    · exact h.elim
  · exact h.elim

theorem eff_pick (hH : HeapOk M φ H w) {c a b : V} {cv av bv : Value} (hc : V.den (mutB M φ H) φ H w c cv) (ha : V.den (mutB M φ H) φ H w a av) (hb : V.den (mutB M φ H) φ H w b bv)
    (h : pickV c a b fun v => K v [] []) : Eff M φ H w fr ((do pure (.value (if ← asBool cv then av else bv)) : Sem Next).run P w) K := by
  unfold pickV at h
  split at h
  · rename_i t
    simp only [V.den, D.den] at hc; subst hc
    have hr : ((do pure (.value (if ← asBool (.bool t) then av else bv)) : Sem Next).run P w) = .ok (.value (if t then av else bv)) w := by simp [asBool]
    have fin : ∀ v, K v [] [] → V.den (mutB M φ H) φ H w v (if t then av else bv) → Eff M φ H w fr ((do pure (.value (if ← asBool (.bool t) then av else bv)) : Sem Next).run P w) K :=
      fun v hK hd => Eff.same hH _ hK hr hd
    cases t
    · exact fin _ (h.2 rfl) (by simpa using hb)
    · exact fin _ (h.1 rfl) (by simpa using ha)
  · exact h.elim

theorem run_len {t : TypeId} {e : TypeId} (hu : P.underlying t = some (.slice e)) (base : Option Addr) (n c : Nat) (ty : TypeId) : (Builtin.len_ #[t] ty #[.slice base n c]).run P w = .ok (goInt n) w := by
  simp [Builtin.len_, run_underlying hu]

theorem eff_len (hH : HeapOk M φ H w) {t ty : TypeId} {x : V} {xv : Value} (hx : V.den (mutB M φ H) φ H w x xv) (h : lenV P t H.o x fun v rd => K v [] rd) :
    Eff M φ H w fr ((do let y ← Builtin.len_ #[t] ty #[xv]; pure (Next.value y) : Sem Next).run P w) K := by
  unfold lenV at h
  split at h
  · rename_i e hu
    have fin : ∀ {es : List D} {rd}, D.den (mutB M φ H) w (.sl es) xv → K (.d (.int .i64 es.length)) [] rd → Eff M φ H w fr ((do let y ← Builtin.len_ #[t] ty #[xv]; pure (Next.value y) : Sem Next).run P w) K := by
      rintro es rd ⟨base, len, cap, rfl, rfl, _⟩ hK
      exact Eff.plain hH _ hK (run_len hu _ _ _ _) rfl
    split at h
    · exact fin hx h
    · simp only [V.den] at hx; subst hx
      exact Eff.plain hH _ h (run_len hu _ _ _ _) rfl
    · exact fin hx.1 h
    · rename_i id ep
      split at h
      · rename_i ep' ty sz es ho
        obtain ⟨rfl, hK⟩ := h
        obtain ⟨hone, hus, hep⟩ := hx
        have hv := (hep ep (by rw [ho]; rfl)).2 rfl
        have hok := hH.ok id
        simp only [ObjOk, ho] at hok
        obtain ⟨h3, xs, ⟨_, hrow⟩, _⟩ := hok
        subst hv
        rcases hrow with ⟨h4, h5⟩ | ⟨g, cap, cur, h4, _⟩
        · rw [h4]; rw [h5] at hK; exact Eff.plain hH _ hK (run_len hu _ _ _ _) rfl
        · rw [h4]; exact Eff.plain hH _ hK (run_len hu _ _ _ _) rfl
      · rename_i ep' es ho
        obtain ⟨rfl, hK⟩ := h
        obtain ⟨hone, hus, hep⟩ := hx
        have hv := (hep ep (by rw [ho]; rfl)).2 rfl
        have hok := hH.ok id
        simp only [ObjOk, ho] at hok
        exact fin (hv ▸ hok) hK
      · exact h.elim
    · exact h.elim
  · rename_i hu
    split at h
    · obtain ⟨u, rfl, rfl⟩ := hx
      exact Eff.plain hH (goInt u.size) h (by simp [Builtin.len_, run_underlying hu]) (by simp [V.den, D.den, goInt])
    · exact h.elim
  · rename_i n e hu
    exact Eff.plain hH _ h (by simp [Builtin.len_, run_underlying hu]; rfl) rfl
  · exact h.elim
end
end Go.Proofs.Ytaafchgfibbmhaa
