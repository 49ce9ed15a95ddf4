/-
  A PART OF THE PROOF (put together by program): several texts, one behind the other. Conditions: none.
-/
import Derived.WideKeyRuns
import Derived.Test.YtaafchgfibbmhaaPk6
set_option linter.unusedSimpArgs false
set_option linter.unusedVariables false
namespace Go.Proofs.Ytaafchgfibbmhaa
mutual
theorem D.same_eq : ∀ (x y : D), x.same y = true → x = y
  | .int k a, y, h => by cases y <;> simp_all [D.same]
  | .bool a, y, h => by cases y <;> simp_all [D.same]
  | .str a, y, h => by cases y <;> simp_all [D.same]
  | .nili, y, h => by cases y <;> simp_all [D.same]
  | .nilp, y, h => by cases y <;> simp_all [D.same]
  | .nilf, y, h => by cases y <;> simp_all [D.same]
  | .nilm, y, h => by cases y <;> simp_all [D.same]
  | .agg asz, y, h => by
    cases y <;> simp only [D.same, Bool.false_eq_true] at h
    rw [D.sames_eq asz _ h]
  | .sl asz, y, h => by
    cases y <;> simp only [D.same, Bool.false_eq_true] at h
    rw [D.sames_eq asz _ h]
  | .iface t a, y, h => by
    cases y <;> simp only [D.same, Bool.false_eq_true, Bool.and_eq_true, beq_iff_eq] at h
    rw [h.1, D.same_eq a _ h.2]
theorem D.sames_eq : ∀ (xs ys : List D), D.sames xs ys = true → xs = ys
  | [], ys, h => by cases ys <;> simp_all [D.sames]
  | a :: asz, ys, h => by
    cases ys <;> simp only [D.sames, Bool.false_eq_true, Bool.and_eq_true] at h
    rw [D.same_eq a _ h.1, D.sames_eq asz _ h.2]
end
section
variable {P : Program} {M : Nat → Prop} {φ : Place} {H : Hp} {w w' : World} {fr : Nat} {K : V → List (Nat × Obj') → List Nat → Prop} {B : Nat → Prop}
theorem mapT_spec {t kt vt : TypeId} (h : mapT P t = some (kt, vt)) : P.underlying t = some (.map kt vt) := by
  unfold mapT at h
  cases hd : P.underlying t with
  | none => simp [hd] at h
  | some d => cases d <;> simp_all
theorem scalD_one {x : D} (h : scalD x = true) {u v : Value} (hu : D.den B w x u) (hv : D.den B w x v) : u = v := by
  cases x <;> simp only [scalD, Bool.false_eq_true] at h <;> simp only [D.den] at hu hv
  · rw [hu, hv]
  · rw [hu, hv]
  · obtain ⟨⟨⟨a⟩⟩, rfl, h1⟩ := hu
    obtain ⟨⟨⟨b⟩⟩, rfl, h2⟩ := hv
    simp only at h1 h2
    rw [h1, h2]
theorem scals_one : ∀ {xs : List D} (_ : xs.all scalD = true) {us vs : List Value} (_ : D.dens B w xs us) (_ : D.dens B w xs vs), us = vs
  | [], _, us, vs, hu, hv => by simp only [D.dens] at hu hv; rw [hu, hv]
  | x :: xs, h, us, vs, hu, hv => by
    simp only [List.all_cons, Bool.and_eq_true] at h
    obtain ⟨u, us, rfl, h1, h2⟩ := hu
    obtain ⟨v, vs, rfl, h3, h4⟩ := hv
    rw [scalD_one h.1 h1 h3, scals_one h.2 h2 h4]
theorem plainD_one {x : D} (h : plainD x = true) {u v : Value} (hu : D.den B w x u) (hv : D.den B w x v) : u = v := by
  cases x with
  | agg cs =>
    simp only [plainD] at h
    obtain ⟨a, rfl, h1, _⟩ := hu
    obtain ⟨b, rfl, h2, _⟩ := hv
    have := scals_one h h1 h2
    congr 1
    exact Array.ext' this
  | _ => exact scalD_one (by simpa [plainD] using h) hu hv
theorem scal_bits {x : D} (h : scalD x = true) {u : Value} (hu : D.den B w x u) (n : Nat) : Instr.sameBits n u u = true := by
  cases x <;> simp only [scalD, Bool.false_eq_true] at h <;> simp only [D.den] at hu
  · subst hu; cases n <;> simp [Instr.sameBits]
  · subst hu; cases n <;> simp [Instr.sameBits]
  · obtain ⟨s, rfl, h1⟩ := hu
    have : (s == s) = true := (MapKept.bytes_beq s s).2 rfl
    cases n <;> simp [Instr.sameBits, this]
theorem scals_bits : ∀ {xs : List D} (_ : xs.all scalD = true) {us : List Value} (_ : D.dens B w xs us) (n : Nat), (us.zip us).all (fun (x, y) => Instr.sameBits n x y) = true
  | [], _, us, hu, n => by simp only [D.dens] at hu; subst hu; rfl
  | x :: xs, h, us, hu, n => by
    simp only [List.all_cons, Bool.and_eq_true] at h
    obtain ⟨u, us, rfl, h1, h2⟩ := hu
    simp only [List.zip_cons_cons, List.all_cons, scal_bits h.1 h1 n, Bool.true_and]
    exact scals_bits h.2 h2 n
theorem plain_bits {x : D} (h : plainD x = true) {u : Value} (hu : D.den B w x u) (n : Nat) : Instr.sameBits (n + 1) u u = true := by
  cases x with
  | agg cs =>
    simp only [plainD] at h
    obtain ⟨a, rfl, h1, _⟩ := hu
    have := scals_bits h h1 n
    simp only [Instr.sameBits, beq_self_eq_true, Bool.true_and]
    exact this
  | _ => exact scal_bits (by simpa [plainD] using h) hu (n + 1)
theorem run_stays {x : D} (h : plainD x = true) {u : Value} (hu : D.den B w x u) : (Instr.keyThatStays u u).run P w' = .ok u w' := by
  simp [Instr.keyThatStays, plain_bits h hu 9999]
theorem chkT_run (em : Bool) : ∀ (d : Nat) (t : TypeId) (x : D), chkT P d t x = true → ∀ m, d ≤ m → ∀ u, D.den B w x u → (Instr.checkKey em m t u).run P w = .ok () w
  | 0, _, _, h => by simp [chkT] at h
  | d + 1, t, x, h => by
    intro m hm u hu
    obtain ⟨m, rfl⟩ : ∃ k, m = k + 1 := ⟨m - 1, by omega⟩
    have IH := fun t x h u hu => chkT_run em d t x h m (by omega) u hu
    unfold chkT at h
    rw [Instr.checkKey]
    cases hs : eqShape P t with
    | none => rw [hs] at h; cases h
    | some sh =>
      rw [hs] at h
      unfold eqShape at hs
      cases ht : P.underlying t with
      | none => rw [ht] at hs; cases hs
      | some td =>
        rw [ht] at hs
        simp only [Sem.run_bind, run_underlying ht, Result.andThen_ok]
        cases td <;> simp only [Option.some.injEq, reduceCtorEq] at hs
        case int k0 => simp
        case bool => simp
        case string => simp
        case struct fs =>
          split at hs
          · injection hs with hs; subst hs
            simp only at h
            cases x <;> simp only [Bool.false_eq_true] at h
            rename_i xs
            obtain ⟨arr, rfl, ha, hf⟩ := hu
            simp only
            rw [← Array.forIn_toList]
            rw [List.all_map] at h
            generalize fs.toList = L at h
            induction L with
            | nil => simp
            | cons f L ih =>
              simp only [List.all_cons, Bool.and_eq_true, Function.comp] at h
              obtain ⟨h1, h2⟩ := h
              split at h1
              · rename_i y hy
                obtain ⟨v, k1, k2⟩ := run_partD hy ha hf
                have k3 := IH _ _ h1 v k2
                by_cases hn : f.name = "_"
                · simp only [List.forIn_cons, Sem.run_bind, hn, ne_eq, not_true_eq_false, if_false, Result.andThen_ok, Sem.run_pure]
                  have := ih h2
                  simp only [Sem.run_bind, Sem.run_pure, ne_eq] at this
                  exact this
                · simp only [List.forIn_cons, Sem.run_bind, hn, ne_eq, not_false_eq_true, if_true, Result.andThen_ok, k1, k3, Sem.run_pure]
                  have := ih h2
                  simp only [Sem.run_bind, Sem.run_pure, ne_eq] at this
                  exact this
              · cases h1
          · cases hs
        case array n e =>
          split at hs
          · rename_i hi
            injection hs with hs; subst hs
            simp only at h
            cases x <;> simp only [Bool.false_eq_true] at h
            rename_i xs
            obtain ⟨arr, rfl, ha, hf⟩ := hu
            obtain ⟨i, hi⟩ := Option.isSome_iff_exists.1 hi
            simp only [Std.Legacy.Range.forIn_eq_forIn_range', Std.Legacy.Range.size, Nat.sub_zero, Nat.add_one_sub_one, Nat.div_one]
            rw [List.range_eq_range'] at h
            generalize List.range' 0 n = is at h
            induction is with
            | nil => simp
            | cons j is ih =>
              simp only [List.all_cons, Bool.and_eq_true] at h
              obtain ⟨h1, h2⟩ := h
              split at h1
              · rename_i y hy
                obtain ⟨v, k1, k2⟩ := run_partD hy ha hf
                have k3 := IH _ _ h1 v k2
                simp only [List.forIn_cons, Sem.run_bind, run_size hi, Result.andThen_ok, k1, k3, Sem.run_pure]
                have := ih h2
                simp only [Sem.run_bind, Sem.run_pure] at this
                exact this
              · cases h1
          · cases hs
def FoundAs (B : Nat → Prop) (w : World) (es : List MapEntry) (i : Nat) : Option (Nat × D × D) → Option (Nat × Value) → Prop
  | none, none => True
  | some (j, k, x), some (j', v) => j = j' ∧ i ≤ j ∧ D.den B w x v ∧ ∃ e, es[j - i]? = some e ∧ e.val = v ∧ D.den B w k e.key
  | _, _ => False
theorem FoundAs.succ {es : List MapEntry} {e : MapEntry} {i : Nat} {r : Option (Nat × D × D)} {r' : Option (Nat × Value)} (h : FoundAs B w es (i + 1) r r') : FoundAs B w (e :: es) i r r' := by
  cases r with
  | none => cases r' <;> exact h
  | some p =>
    obtain ⟨j, k, x⟩ := p
    cases r' with
    | none => exact h
    | some q =>
      obtain ⟨j', v⟩ := q
      obtain ⟨h1, h2, h3, e', h4, h5⟩ := h
      refine ⟨h1, by omega, h3, e', ?_, h5⟩
      rw [show j - i = (j - (i + 1)) + 1 by omega]
      simpa using h4
theorem findAsk_run {kt : TypeId} {kd : D} {kv : Value} (hk : D.den B w kd kv) : ∀ (l : List (D × D)) (es : List MapEntry) (i : Nat) (r : Option (Nat × D × D)), EntsDen B w l es → findD P kt kd l i = some r →
    ∃ r', (Instr.findAsking kt kv es i).run P w = .ok r' w ∧ FoundAs B w es i r r'
  | [], es, i, r, he, h => by
    simp only [EntsDen] at he; subst he
    simp only [findD, Option.some.injEq] at h; subst h
    exact ⟨none, by simp [Instr.findAsking], trivial⟩
  | (k', x) :: l, es, i, r, he, h => by
    obtain ⟨e, es, rfl, h1, h2, h3⟩ := he
    simp only [findD] at h
    split at h
    · rename_i hq
      injection h with h; subst h
      have := eqT_run 100 kt _ _ _ hq 10000 (by decide) B w _ _ hk h1
      refine ⟨some (i, e.val), by simp [Instr.findAsking, Op.equal, Op.maxDepth, this], rfl, Nat.le_refl _, h2, e, by simp, rfl, h1⟩
    · rename_i hq
      have := eqT_run 100 kt _ _ _ hq 10000 (by decide) B w _ _ hk h1
      obtain ⟨r', g1, g2⟩ := findAsk_run hk l es (i + 1) r h3 h
      exact ⟨r', by simp [Instr.findAsking, Op.equal, Op.maxDepth, this, g1], g2.succ⟩
    · cases h
theorem sameNow_den {td : TypeDesc} {kt : TypeId} (ht : P.underlying kt = some td) (hn : (match td with | .int _ | .bool | .string => true | _ => false) = true) {x y : D} {r : Bool} (h : eqT P 100 kt x y = some r) {u v : Value} (hu : D.den B w x u) (hv : D.den B w y v) :
    Instr.sameNow td u v = some r := by
  unfold eqT eqShape at h
  rw [ht] at h
  cases td <;> simp only [Bool.false_eq_true] at hn <;> simp only at h
  · split at h
    · injection h with h; subst h
      simp only [D.den] at hu hv; subst hu; subst hv; rfl
    · cases h
  · split at h
    · split at h
      · rename_i e; subst e; injection h with h; subst h
        simp only [D.den] at hu hv; subst hu; subst hv; simp [Instr.sameNow]
      · cases h
    · cases h
  · split at h
    · injection h with h; subst h
      obtain ⟨s1, rfl, rfl⟩ := hu
      obtain ⟨s2, rfl, rfl⟩ := hv
      simp only [Instr.sameNow, Option.some.injEq]
      obtain ⟨⟨a⟩⟩ := s1
      obtain ⟨⟨b⟩⟩ := s2
      rw [Bool.eq_iff_iff, MapKept.bytes_beq]
      simp
    · cases h
theorem findNow_run {td : TypeDesc} {kt : TypeId} (ht : P.underlying kt = some td) (hn : (match td with | .int _ | .bool | .string => true | _ => false) = true) {kd : D} {kv : Value} (hk : D.den B w kd kv) : ∀ (l : List (D × D)) (es : List MapEntry) (i : Nat) (r : Option (Nat × D × D)), EntsDen B w l es → findD P kt kd l i = some r →
    ∃ r', Instr.findNow td kv es i = some r' ∧ FoundAs B w es i r r'
  | [], es, i, r, he, h => by
    simp only [EntsDen] at he; subst he
    simp only [findD, Option.some.injEq] at h; subst h
    exact ⟨none, by simp [Instr.findNow], trivial⟩
  | (k', x) :: l, es, i, r, he, h => by
    obtain ⟨e, es, rfl, h1, h2, h3⟩ := he
    simp only [findD] at h
    split at h
    · rename_i hq
      injection h with h; subst h
      have := sameNow_den ht hn hq hk h1
      refine ⟨some (i, e.val), by simp [Instr.findNow, this], rfl, Nat.le_refl _, h2, e, by simp, rfl, h1⟩
    · rename_i hq
      have := sameNow_den ht hn hq hk h1
      obtain ⟨r', g1, g2⟩ := findNow_run ht hn hk l es (i + 1) r h3 h
      exact ⟨r', by simp [Instr.findNow, this, g1], g2.succ⟩
    · cases h
theorem findKey_run {kt : TypeId} {kd : D} {kv : Value} (hk : D.den B w kd kv) (hc : chkT P 100 kt kd = true) {l : List (D × D)} {es : List MapEntry} {r : Option (Nat × D × D)} (he : EntsDen B w l es) (h : findD P kt kd l 0 = some r) :
    ∃ r', (Instr.findKey kt kv es).run P w = .ok r' w ∧ FoundAs B w es 0 r r' := by
  unfold chkT eqShape at hc
  cases ht : P.underlying kt with
  | none => simp [ht] at hc
  | some td =>
    have now : (match td with | .int _ | .bool | .string => true | _ => false) = true → ∃ r', (Instr.findKey kt kv es).run P w = .ok r' w ∧ FoundAs B w es 0 r r' := by
      intro hn
      obtain ⟨r', g1, g2⟩ := findNow_run ht hn hk l es 0 r he h
      exact ⟨r', MapKept.run_findKey ht g1, g2⟩
    have ask : (match P.underlying kt with | some (.array _ _) | some (.struct _) => true | _ => false) = true → ∃ r', (Instr.findKey kt kv es).run P w = .ok r' w ∧ FoundAs B w es 0 r r' := by
      intro hn
      obtain ⟨r', g1, g2⟩ := findAsk_run hk l es 0 r he h
      exact ⟨r', (run_findKey_eq w hn kv es).trans g1, g2⟩
    cases td <;> first
      | exact now rfl
      | (refine ask ?_; rw [ht]; done)
      | (exfalso; simp [ht] at hc)
theorem EntsDen.get : ∀ {l : List (D × D)} {es : List MapEntry} {i : Nat} {e : MapEntry}, EntsDen B w l es → es[i]? = some e → ∃ p, l[i]? = some p ∧ D.den B w p.1 e.key ∧ D.den B w p.2 e.val
  | [], es, i, e, h, hi => by simp only [EntsDen] at h; subst h; simp at hi
  | (k, x) :: l, es, i, e, h, hi => by
    obtain ⟨e', es, rfl, h1, h2, h3⟩ := h
    cases i with
    | zero => simp at hi; subst hi; exact ⟨(k, x), by simp, h1, h2⟩
    | succ i => simpa using EntsDen.get h3 (by simpa using hi)
theorem EntsDen.push : ∀ {l : List (D × D)} {es : List MapEntry} {k x : D} {e : MapEntry}, EntsDen B w l es → D.den B w k e.key → D.den B w x e.val → EntsDen B w (l ++ [(k, x)]) (es ++ [e])
  | [], es, k, x, e, h, h1, h2 => by simp only [EntsDen] at h; subst h; exact ⟨e, [], rfl, h1, h2, rfl⟩
  | (k', x') :: l, es, k, x, e, h, h1, h2 => by
    obtain ⟨e', es, rfl, g1, g2, g3⟩ := h
    exact ⟨e', es ++ [e], rfl, g1, g2, EntsDen.push g3 h1 h2⟩
theorem EntsDen.set : ∀ {l : List (D × D)} {es : List MapEntry} {i : Nat} {k x : D} {e : MapEntry}, EntsDen B w l es → D.den B w k e.key → D.den B w x e.val → EntsDen B w (l.set i (k, x)) (es.set i e)
  | [], es, i, k, x, e, h, h1, h2 => by simp only [EntsDen] at h; subst h; rfl
  | (k', x') :: l, es, i, k, x, e, h, h1, h2 => by
    obtain ⟨e', es, rfl, g1, g2, g3⟩ := h
    cases i with
    | zero => exact ⟨e, es, rfl, h1, h2, g3⟩
    | succ i => exact ⟨e', es.set i e, rfl, g1, g2, EntsDen.set g3 h1 h2⟩
theorem eff_makeMap (hH : HeapOk M φ H w) (hfr : ¬ H.us fr) {t : TypeId} (h : resK (makeMapF P fr t) K) : Eff M φ H w fr ((do let v ← Instr.makeMap t none; pure (Next.value v) : Sem Next).run P w) K := by
  have hg := resK_get h
  clear h
  obtain ⟨v, Δ, rd, h, hK⟩ := hg
  unfold makeMapF at h
  split at h
  · rename_i kt vt ht
    injection h with h; injection h with e1 e2; injection e2 with e2 e3; subst e1; subst e2; subst e3
    have hv : ∀ b, blk (.map (some w.heap.size)) = some b → w.heap.size ≤ b ∧ b < (w.alloc (.map #[] 0)).heap.size := by
      intro b hb; simp [blk] at hb; subst hb; simp
    have ht' := trans_new (φ := φ) (H := H) (keep_alloc w (.map #[] 0)) hfr (.map kt vt []) (.map (some w.heap.size)) fun b hb => (hv b hb).1
    refine ⟨_, .map (some w.heap.size), w.alloc (.map #[] 0), upd φ fr (.map (some w.heap.size)), _, _, _, hK, by simp [Instr.makeMap], .inl rfl, heap_new hH (keep_alloc w _) hfr _ _ hv ?_, ht', ⟨rfl, by simp, fun _ => by simp⟩, fun j hj => .inr (by simpa using hj)⟩
    unfold ObjOk
    simp only [put_one_o, upd_apply, if_true]
    exact ⟨w.heap.size, #[], 0, rfl, heap_alloc_new w _, rfl⟩
  · cases h
theorem mapEs_spec {o : Nat → Obj'} {m : V} {r : Option (Nat × TypeId × TypeId)} {l : List (D × D)} (h : mapEs o m = some (r, l)) : (∃ id kt vt, m = .mp id ∧ o id = .map kt vt l ∧ r = some (id, kt, vt)) ∨ (m = .d .nilm ∧ r = none ∧ l = []) := by
  unfold mapEs at h
  split at h
  · split at h
    · rename_i ho
      simp only [Option.some.injEq, Prod.mk.injEq] at h; obtain ⟨rfl, rfl⟩ := h; exact .inl ⟨_, _, _, rfl, ho, rfl⟩
    · cases h
  · simp only [Option.some.injEq, Prod.mk.injEq] at h; obtain ⟨rfl, rfl⟩ := h; exact .inr ⟨rfl, rfl, rfl⟩
  · cases h
theorem eff_lookup (hH : HeapOk M φ H w) {t : TypeId} {m k : V} {mv kv : Value} {ok : Bool} (hm : V.den (mutB M φ H) φ H w m mv) (hk : V.den (mutB M φ H) φ H w k kv) (h : resK (lookupF P H.o t m k ok) K) :
    Eff M φ H w fr ((do let v ← Instr.lookup t mv kv ok; pure (Next.value v) : Sem Next).run P w) K := by
  have hg := resK_get h
  clear h
  obtain ⟨v, Δ, rd, h, hK⟩ := hg
  unfold lookupF at h
  split at h
  · rename_i kt vt kd r l ht hkd hml
    split at h
    · rename_i hc
      have hkden : D.den (mutB M φ H) w kd kv := toD_den hH k kd kv (fun id hid => by rw [hc.1] at hid; cases hid) hkd hk
      have chk : ∀ em, (Instr.checkKey em 10000 kt kv).run P w = .ok () w := fun em => chkT_run em 100 kt kd hc.2 10000 (by decide) kv hkden
      have hmt := mapT_spec ht
      
      have ents : ∃ es : Array MapEntry, EntsDen (mutB M φ H) w l es.toList ∧ ∀ (r' : Option (Nat × Value)) (val : Value), (Instr.findKey kt kv es.toList).run P w = .ok r' w → (match r' with | some (_, u) => val = (if ok = true then .tuple #[u, .bool true] else u) | none => ∃ z, (zeroValue vt).run P w = .ok z w ∧ val = (if ok = true then .tuple #[z, .bool false] else z)) → (Instr.lookup t mv kv ok).run P w = .ok val w := by
        rcases mapEs_spec hml with ⟨id, kt', vt', rfl, ho, rfl⟩ | ⟨rfl, rfl, rfl⟩
        · obtain ⟨hm1, hm2, hm3⟩ := hm
          have hφ := hm3 (by rw [ho]; rfl)
          have hok := hH.ok id
          simp only [ObjOk, ho] at hok
          obtain ⟨b, es, clock, g1, g2, g3⟩ := hok
          rw [← hφ] at g1; subst g1
          have hget := MapKept.run_getObj_map (P := P) g2
          refine ⟨es, g3, fun r' val q1 q2 => ?_⟩
          cases r' with
          | some p => obtain ⟨j, u⟩ := p; simp only at q2; subst q2; cases ok <;> simp [Instr.lookup, run_underlying hmt, hget, chk, q1]
          | none => obtain ⟨z, z1, rfl⟩ := q2; cases ok <;> simp [Instr.lookup, run_underlying hmt, hget, chk, q1, z1]
        · simp only [V.den, D.den] at hm; subst hm
          refine ⟨#[], rfl, fun r' val q1 q2 => ?_⟩
          cases r' with
          | some p => obtain ⟨j, u⟩ := p; simp only at q2; subst q2; cases ok <;> simp [Instr.lookup, run_underlying hmt, chk, q1]
          | none => obtain ⟨z, z1, rfl⟩ := q2; cases ok <;> simp [Instr.lookup, run_underlying hmt, chk, q1, z1]
      obtain ⟨es, g3, run⟩ := ents
      split at h
      · rename_i j kk x hf
        injection h with h; injection h with e1 e2; injection e2 with e2 e3; subst e1; subst e2; subst e3
        obtain ⟨r', q1, q2⟩ := findKey_run hkden hc.2 g3 hf
        cases r' with
        | none => exact q2.elim
        | some p =>
          obtain ⟨j', u⟩ := p
          obtain ⟨_, _, hxu, _⟩ := q2
          refine Eff.plain (v := (if ok = true then .tup [.d x, .d (.bool true)] else .d x)) hH (if ok = true then .tuple #[u, .bool true] else u) hK (run _ _ q1 rfl) ?_
          cases ok
          · exact hxu
          · exact ⟨#[u, .bool true], rfl, u, [.bool true], rfl, hxu, .bool true, [], rfl, rfl, rfl⟩
      · rename_i hf
        split at h
        · rename_i z hz
          injection h with h; injection h with e1 e2; injection e2 with e2 e3; subst e1; subst e2; subst e3
          obtain ⟨r', q1, q2⟩ := findKey_run hkden hc.2 g3 hf
          cases r' with
          | some p => exact q2.elim
          | none =>
            obtain ⟨val, z1, z2⟩ := zeroV_den (M := M) (φ := φ) (H := H) (w := w) hz
            refine Eff.plain hH (if ok = true then .tuple #[val, .bool false] else val) hK (run _ _ q1 ⟨val, z1, rfl⟩) ?_
            cases ok
            · exact z2
            · exact ⟨#[val, .bool false], rfl, val, [.bool false], rfl, z2, .bool false, [], rfl, rfl, rfl⟩
        · cases h
      · cases h
    · cases h
  · cases h
theorem getElem?_modify_same {es : Array MapEntry} {i : Nat} {e : MapEntry} (f : MapEntry → MapEntry) (h : es.toList[i]? = some e) : (es.modify i f).toList = es.toList.set i (f e) := by
  apply List.ext_getElem?
  intro j
  simp only [Array.getElem?_toList, Array.getElem?_modify]
  rw [List.getElem?_set]
  have h' : es[i]? = some e := by simpa using h
  by_cases hj : i = j
  · subst hj
    have hlt : i < es.toList.length := by
      rw [List.getElem?_eq_some_iff] at h; exact h.1
    simp only [if_true, h', Option.map_some, hlt]
  · simp [hj]
theorem eff_mapUpdate (hH : HeapOk M φ H w) {t : TypeId} {m k v : V} {mv kv vv : Value} (hm : V.den (mutB M φ H) φ H w m mv) (hk : V.den (mutB M φ H) φ H w k kv) (hv : V.den (mutB M φ H) φ H w v vv)
    (h : resK (mapUpdF P H.o t m k v) K) : Eff M φ H w fr ((do Instr.mapUpdate t mv kv vv; pure Next.skip : Sem Next).run P w) K := by
  have hg := resK_get h
  clear h
  obtain ⟨v', Δ, rd, h, hK⟩ := hg
  unfold mapUpdF at h
  split at h
  · rename_i kt vt kd vd id kt' vt' l ht hkd hvd hml
    rcases mapEs_spec hml with ⟨id2, kt2, vt2, rfl, ho, hr⟩ | ⟨rfl, hr, rfl⟩
    case inr => cases hr
    injection hr with hr; injection hr with e1 e2; injection e2 with e2 e3; subst e1; subst e2; subst e3
    split at h
    · rename_i hc
      obtain ⟨c1, c2, c3, c4⟩ := hc
      have hkden : D.den (mutB M φ H) w kd kv := toD_den hH k kd kv (fun id hid => by rw [c1] at hid; cases hid) hkd hk
      have chk : ∀ em, (Instr.checkKey em 10000 kt kv).run P w = .ok () w := fun em => chkT_run em 100 kt kd c2 10000 (by decide) kv hkden
      have hmt := mapT_spec ht
      · obtain ⟨hm1, hus, hm3⟩ := hm
        have hφ := hm3 (by rw [ho]; rfl)
        have hok := hH.ok id
        simp only [ObjOk, ho] at hok
        obtain ⟨b, es, clock, g1, g2, g3⟩ := hok
        rw [← hφ] at g1; subst g1
        have hget := MapKept.run_getObj_map (P := P) g2
        have hni : id ∉ v.ids := fun hm => by have := List.all_eq_true.1 c4 id hm; simp at this
        obtain ⟨f1, f2, f3, f4, f5⟩ := freezes hH v.ids (ids_used v _ hv)
        have ho1 := (f4 id hni).trans ho
        have hvden := toD_den f1 v vd vv f3 hvd (V.den_mono f2 _ _ hv)
        have hkden1 := D.den_mono (f2.blocks (M := M)) kd kv hkden
        have g3' := EntsDen.mono (f2.blocks (M := M)) l _ g3
        have fids : (frz H.o v.ids).map (·.1) = v.ids := by rw [frz_eq]; simp [Function.comp_def]
        have turn : ∀ (l' : List (D × D)) (es' : Array MapEntry) (clock' : Nat), EntsDen (mutB M φ (H.put (frz H.o v.ids))) w l' es'.toList → K (.tup []) (frz H.o v.ids ++ [(id, .map kt' vt' l')]) (id :: v.ids) →
            (Instr.mapUpdate t (.map (some b)) kv vv).run P w = .ok () { w with heap := w.heap.setIfInBounds b (.map es' clock') } →
            Eff M φ H w fr ((do Instr.mapUpdate t (.map (some b)) kv vv; pure Next.skip : Sem Next).run P w) K := by
          intro l' es' clock' hl hK hr
          have hkp : Keep (· = b) w { w with heap := w.heap.setIfInBounds b (.map es' clock') } :=
            ⟨rfl, rfl, rfl, by simp, fun j _ hj => (MapKept.heap_set g2).2 j hj⟩
          have hl1 : ((H.put (frz H.o v.ids)).o id).live = true := by rw [ho1]; rfl
          have hb1 : blk (φ id) = some b := by rw [← hφ]; rfl
          have ht1 := trans_turn (w := w) (w' := { w with heap := w.heap.setIfInBounds b (.map es' clock') }) ((f5 id).2 hus) hl1 hb1 hkp (.map kt' vt' l') (by rw [ho1]; rfl) (by rw [ho1]; rfl)
          refine ⟨.skip, undef, _, φ, _, _, _, hK, by simp only [Sem.run_bind, hr, Result.andThen_ok]; rfl, .inr ⟨rfl, rfl⟩, ?_, ?_, ?_, fun j hj => .inl ?_⟩
          · rw [put_append]
            refine heap_turn f1 ((f5 id).2 hus) hl1 hb1 hkp _ (by rw [ho1]; rfl) (by rw [ho1]; rfl) ?_
            unfold ObjOk
            simp only [put_one_o, upd_apply, if_true]
            exact ⟨b, es', clock', hφ.symm, (MapKept.heap_set g2).1, EntsDen.mono (ht1.blocks (M := M)) l' _ hl⟩
          · rw [put_append]; exact f2.trans ht1
          · exact ⟨#[], rfl, rfl⟩
          · rw [List.map_append, fids] at hj
            simp only [List.map_cons, List.map_nil, List.mem_append, List.mem_singleton] at hj
            rcases hj with hj | rfl
            · exact ids_used v _ hv j hj
            · exact hus
        split at h
        · rename_i i k' x hf
          split at h
          · rename_i hsame
            injection h with h; injection h with e1 e2; injection e2 with e2 e3; subst e1; subst e2; subst e3
            have hke := D.same_eq _ _ hsame
            subst hke
            obtain ⟨r', q1, q2⟩ := findKey_run hkden c2 g3 hf
            cases r' with
            | none => exact q2.elim
            | some p =>
              obtain ⟨j', u⟩ := p
              obtain ⟨rfl, _, hxu, e, h4, h5, h6⟩ := q2
              rw [Nat.sub_zero] at h4
              have hkv := plainD_one c3 h6 hkden
              have h4' : es[i]? = some e := by simpa using h4
              refine turn _ (es.modify i fun e => { e with key := kv, val := vv }) clock ?_ hK ?_
              · rw [getElem?_modify_same _ h4]
                exact EntsDen.set g3' hkden1 hvden
              · have hs := run_stays (P := P) (w' := w) c3 hkden
                simp only [Instr.mapUpdate, Sem.run_bind, run_underlying hmt, Result.andThen_ok, hget, chk, q1, h4', Option.map_some, Option.getD_some, hkv, hs]
                exact MapKept.run_setObj_map _ g2
          · cases h
        · rename_i hf
          injection h with h; injection h with e1 e2; injection e2 with e2 e3; subst e1; subst e2; subst e3
          obtain ⟨r', q1, q2⟩ := findKey_run hkden c2 g3 hf
          cases r' with
          | some p => exact q2.elim
          | none =>
            refine turn _ (es.push { key := kv, val := vv, born := clock }) (clock + 1) ?_ hK ?_
            · rw [Array.toList_push]
              exact EntsDen.push g3' hkden1 hvden
            · simp only [Instr.mapUpdate, Sem.run_bind, run_underlying hmt, Result.andThen_ok, hget, chk, q1]
              exact MapKept.run_setObj_map _ g2
        · cases h
    · cases h
  · cases h
end
end Go.Proofs.Ytaafchgfibbmhaa
namespace Go.Proofs.Ytaafchgfibbmhaa
section
variable {P : Program} (w : World) (d : Nat) {t : TypeId}
theorem e_if1 {ms} (ht : P.underlying t = some (.interface ms)) : (Op.equalIn (d + 1) t .nilIface .nilIface).run P w = .ok true w := by simp [Op.equalIn, run_underlying ht]
theorem e_if2 {ms} (ht : P.underlying t = some (.interface ms)) (u : TypeId) (v : Value) : (Op.equalIn (d + 1) t (.iface u v) .nilIface).run P w = .ok false w := by simp [Op.equalIn, run_underlying ht]
theorem e_if3 {ms} (ht : P.underlying t = some (.interface ms)) (u : TypeId) (v : Value) : (Op.equalIn (d + 1) t .nilIface (.iface u v)).run P w = .ok false w := by simp [Op.equalIn, run_underlying ht]
theorem e_fn1 {a b c} (ht : P.underlying t = some (.func a b c)) : (Op.equalIn (d + 1) t .nilFunc .nilFunc).run P w = .ok true w := by simp [Op.equalIn, run_underlying ht]
theorem e_fn2 {a b c} (ht : P.underlying t = some (.func a b c)) (f x y) : (Op.equalIn (d + 1) t (.func f x y) .nilFunc).run P w = .ok false w := by simp [Op.equalIn, run_underlying ht]
theorem e_mp1 {a b} (ht : P.underlying t = some (.map a b)) : (Op.equalIn (d + 1) t (.map none) (.map none)).run P w = .ok true w := by simp [Op.equalIn, run_underlying ht]
theorem e_mp2 {a b} (ht : P.underlying t = some (.map a b)) (x) : (Op.equalIn (d + 1) t (.map (some x)) (.map none)).run P w = .ok false w := by simp [Op.equalIn, run_underlying ht]
theorem e_pt1 {e} (ht : P.underlying t = some (.pointer e)) : (Op.equalIn (d + 1) t (.pointer none) (.pointer none)).run P w = .ok true w := by simp [Op.equalIn, run_underlying ht]
theorem e_pt2 {e} (ht : P.underlying t = some (.pointer e)) (a) : (Op.equalIn (d + 1) t (.pointer (some a)) (.pointer none)).run P w = .ok false w := by simp [Op.equalIn, run_underlying ht]
theorem e_sl {e} (ht : P.underlying t = some (.slice e)) (b n c) : (Op.equalIn (d + 1) t (.slice b n c) (.slice none 0 0)).run P w = .ok b.isNone w := by cases b <;> simp [Op.equalIn, run_underlying ht]
end
section
variable {P : Program} {M : Nat → Prop} {φ : Place} {H : Hp} {w w' : World} {fr : Nat} {K : V → List (Nat × Obj') → List Nat → Prop} {B : Nat → Prop}
theorem listV_base (hH : HeapOk M φ H w) {x : V} {xv : Value} {es : List D} (h : listV H.o x = some es) (hx : V.den (mutB M φ H) φ H w x xv) : ∃ base n c, xv = .slice base n c ∧ (es ≠ [] → base ≠ none) := by
  have hd : ∃ x', toD H.o x = some x' ∧ x' = .sl es := by
    unfold listV at h
    split at h
    · rename_i es' hd; injection h with h; subst h; exact ⟨_, hd, rfl⟩
    · cases h
  obtain ⟨x', hd, rfl⟩ := hd
  obtain ⟨f1, f2, f3, f4, f5⟩ := freezes hH x.ids (ids_used x _ hx)
  have := toD_den f1 x (.sl es) xv f3 hd (V.den_mono f2 _ _ hx)
  obtain ⟨base, len, cap, rfl, h1, h2, h3, _⟩ := this
  refine ⟨base, len, cap, rfl, fun hne hb => ?_⟩
  have := h3 hb
  have : es.length = 0 := by omega
  exact hne (List.length_eq_zero_iff.1 this)
def wideV : Value → Bool
  | .int _ _ | .float _ _ | .complex _ _ _ | .string _ => false
  | _ => true
theorem eqV_run (hH : HeapOk M φ H w) {t : TypeId} {p q : Operand} {x y v : V} {xv yv : Value} (hx : V.den (mutB M φ H) φ H w x xv) (hy : V.den (mutB M φ H) φ H w y yv) (h : eqV P H.o t (isConst p || isConst q) x y = some v) :
    ∃ r : Bool, (v = .d (.bool r) ∨ v = .anyb) ∧ wideV xv = true ∧ (∀ op, (eqGuard op t p q xv yv).run P w = .ok () w) ∧ (Op.equal t xv yv).run P w = .ok r w := by
  have plainG : (∀ a b, ¬ (xv = .agg a ∧ yv = .agg b)) → ¬ (xv = .nilIface ∧ yv = .nilIface) → ∀ op, (eqGuard op t p q xv yv).run P w = .ok () w := by
    intro h1 h2 op
    unfold eqGuard
    cases op <;> cases xv <;> cases yv <;> first
      | (simp; done)
      | (exact absurd ⟨rfl, rfl⟩ (h1 _ _))
      | (exact absurd ⟨rfl, rfl⟩ h2)
  unfold eqV at h
  cases ht : P.underlying t with
  | none => simp [ht] at h
  | some td =>
    simp only [ht] at h
    have eq : ∀ r, (∀ d, (Op.equalIn (d + 1) t xv yv).run P w = .ok r w) → (Op.equal t xv yv).run P w = .ok r w := fun r h => h 9999
    cases td <;> simp only [reduceCtorEq] at h
    case interface ms =>
      split at h
      · split at h
        · rename_i hc
          injection h with h; subst h
          simp only [V.den, D.den] at hx hy; subst hx; subst hy
          refine ⟨true, .inl rfl, rfl, fun op => ?_, eq _ (fun d => by rw [e_if1 w d ht])⟩
          simp only [Bool.or_eq_true] at hc
          unfold eqGuard
          rcases hc with hc | hc
          · cases p <;> simp only [isConst, Bool.false_eq_true] at hc
            cases op <;> simp
          · cases q <;> simp only [isConst, Bool.false_eq_true] at hc
            cases op <;> simp
        · cases h
      · injection h with h; subst h
        obtain ⟨u, rfl, _⟩ := hx
        simp only [V.den, D.den] at hy; subst hy
        exact ⟨false, .inl rfl, rfl, plainG (fun _ _ h => by cases h.1) (by rintro ⟨h1, h2⟩; first | (cases h1; done) | (cases h2; done)), eq _ (fun d => by rw [e_if2 w d ht])⟩
      · injection h with h; subst h
        obtain ⟨u, rfl, _⟩ := hx
        simp only [V.den, D.den] at hy; subst hy
        exact ⟨false, .inl rfl, rfl, plainG (fun _ _ h => by cases h.1) (by rintro ⟨h1, h2⟩; first | (cases h1; done) | (cases h2; done)), eq _ (fun d => by rw [e_if2 w d ht])⟩
      · injection h with h; subst h
        obtain ⟨u, rfl, _⟩ := hy
        simp only [V.den, D.den] at hx; subst hx
        exact ⟨false, .inl rfl, rfl, plainG (fun _ _ h => by cases h.1) (by rintro ⟨h1, h2⟩; first | (cases h1; done) | (cases h2; done)), eq _ (fun d => by rw [e_if3 w d ht])⟩
      · injection h with h; subst h
        obtain ⟨u, rfl, _⟩ := hy
        simp only [V.den, D.den] at hx; subst hx
        exact ⟨false, .inl rfl, rfl, plainG (fun _ _ h => by cases h.1) (by rintro ⟨h1, h2⟩; first | (cases h1; done) | (cases h2; done)), eq _ (fun d => by rw [e_if3 w d ht])⟩
      · cases h
    case func a b c =>
      split at h
      · injection h with h; subst h
        simp only [V.den, D.den] at hx hy; subst hx; subst hy
        exact ⟨true, .inl rfl, rfl, plainG (fun _ _ h => by cases h.1) (by rintro ⟨h1, h2⟩; first | (cases h1; done) | (cases h2; done)), eq _ (fun d => by rw [e_fn1 w d ht])⟩
      · injection h with h; subst h
        obtain ⟨f, c', rfl, _⟩ := hx
        simp only [V.den, D.den] at hy; subst hy
        exact ⟨false, .inl rfl, rfl, plainG (fun _ _ h => by cases h.1) (by rintro ⟨h1, h2⟩; first | (cases h1; done) | (cases h2; done)), eq _ (fun d => by rw [e_fn2 w d ht])⟩
      · cases h
    case map a b =>
      split at h
      · simp only [V.den, D.den] at hy; subst hy
        unfold mapNil at h
        split at h
        · injection h with h; subst h
          simp only [V.den, D.den] at hx; subst hx
          exact ⟨true, .inl rfl, rfl, plainG (fun _ _ h => by cases h.1) (by rintro ⟨h1, h2⟩; first | (cases h1; done) | (cases h2; done)), eq _ (fun d => by rw [e_mp1 w d ht])⟩
        · rename_i id
          split at h
          · rename_i ho
            injection h with h; subst h
            obtain ⟨_, _, h3⟩ := hx
            have hφ := h3 (by rw [ho]; rfl)
            have hok := hH.ok id
            simp only [ObjOk, ho] at hok
            obtain ⟨bk, es, clock, g1, _⟩ := hok
            rw [← hφ] at g1; subst g1
            exact ⟨false, .inl rfl, rfl, plainG (fun _ _ h => by cases h.1) (by rintro ⟨h1, h2⟩; first | (cases h1; done) | (cases h2; done)), eq _ (fun d => by rw [e_mp2 w d ht])⟩
          · cases h
        · cases h
      · cases h
    case pointer e =>
      split at h
      · simp only [V.den, D.den] at hy; subst hy
        unfold ptrNil at h
        split at h
        · injection h with h; subst h
          simp only [V.den, D.den] at hx; subst hx
          exact ⟨true, .inl rfl, rfl, plainG (fun _ _ h => by cases h.1) (by rintro ⟨h1, h2⟩; first | (cases h1; done) | (cases h2; done)), eq _ (fun d => by rw [e_pt1 w d ht])⟩
        · split at h
          · rename_i hr
            injection h with h; subst h
            obtain ⟨_, _, h3⟩ := hx
            obtain ⟨bk, _, rfl⟩ := h3 hr
            exact ⟨false, .inl rfl, rfl, plainG (fun _ _ h => by cases h.1) (by rintro ⟨h1, h2⟩; first | (cases h1; done) | (cases h2; done)), eq _ (fun d => by rw [e_pt2 w d ht])⟩
          · cases h
        · injection h with h; subst h
          obtain ⟨a, ev, _, rfl, _⟩ := hx
          exact ⟨false, .inl rfl, rfl, plainG (fun _ _ h => by cases h.1) (by rintro ⟨h1, h2⟩; first | (cases h1; done) | (cases h2; done)), eq _ (fun d => by rw [e_pt2 w d ht])⟩
        · cases h
      · cases h
    case slice e =>
      split at h
      · simp only [V.den] at hy; subst hy
        unfold nilF at h
        split at h
        · injection h with h; subst h
          simp only [V.den] at hx; subst hx
          exact ⟨true, .inl rfl, rfl, plainG (fun _ _ h => by cases h.1) (by rintro ⟨h1, h2⟩; first | (cases h1; done) | (cases h2; done)), eq _ (fun d => by rw [e_sl w d ht]; rfl)⟩
        · split at h
          · rename_i es hl
            obtain ⟨base, n, c, rfl, hb⟩ := listV_base hH hl hx
            refine ⟨base.isNone, ?_, rfl, plainG (fun _ _ h => by cases h.1) (by rintro ⟨h1, h2⟩; first | (cases h1; done) | (cases h2; done)), eq _ ?_⟩
            · split at h
              · injection h with h; exact .inr h.symm
              · rename_i hne
                injection h with h
                have := hb hne
                cases base with
                | none => exact absurd rfl this
                | some a => exact .inl h.symm
            · intro d
              rw [e_sl w d ht]
          · cases h
      · cases h
    case struct fs =>
      split at h
      · split at h
        · rename_i hg
          simp only [Option.map_eq_some_iff] at h
          obtain ⟨r, h1, rfl⟩ := h
          obtain ⟨g1, g2⟩ := eqT_at h1 hg (mutB M φ H) w xv yv hx hy
          exact ⟨r, .inl rfl, by obtain ⟨_, rfl, _⟩ := hx; rfl, fun op => g2 op p q, g1⟩
        · cases h
      · cases h
    case array n e =>
      split at h
      · split at h
        · rename_i hg
          simp only [Option.map_eq_some_iff] at h
          obtain ⟨r, h1, rfl⟩ := h
          obtain ⟨g1, g2⟩ := eqT_at h1 hg (mutB M φ H) w xv yv hx hy
          exact ⟨r, .inl rfl, by obtain ⟨_, rfl, _⟩ := hx; rfl, fun op => g2 op p q, g1⟩
        · cases h
      · cases h
theorem eff_cmp (hH : HeapOk M φ H w) {op : BinOp} {t : TypeId} {p q : Operand} {x y : V} {xv yv : Value} (hx : V.den (mutB M φ H) φ H w x xv) (hy : V.den (mutB M φ H) φ H w y yv)
    (h : resK (cmpF P H.o op t (isConst p || isConst q) x y) K) :
    Eff M φ H w fr ((do let y ← (do eqGuard op t p q xv yv; binOp op t xv yv); pure (Next.value y) : Sem Next).run P w) K := by
  have hg := resK_get h
  clear h
  obtain ⟨v, Δ, rd, h, hK⟩ := hg
  unfold cmpF at h
  split at h
  · simp only [Option.map_eq_some_iff] at h
    obtain ⟨u, h1, h2⟩ := h
    injection h2 with e1 e2; injection e2 with e2 e3; subst e1; subst e2; subst e3
    obtain ⟨r, hv, hwd, hgd, he⟩ := eqV_run (p := p) (q := q) hH hx hy h1
    refine Eff.plain hH (.bool r) hK ?_ ?_
    · have hb : (binOp .eql t xv yv).run P w = .ok (.bool r) w := by
        unfold binOp
        cases xv <;> first | (simp [wideV] at hwd; done) | (cases yv <;> simp [he])
      simp [hgd, hb]
    · rcases hv with rfl | rfl
      · rfl
      · exact ⟨r, rfl⟩
  · simp only [Option.map_eq_some_iff, Option.bind_eq_some_iff] at h
    obtain ⟨u', ⟨u, h1, h3⟩, h2⟩ := h
    injection h2 with e1 e2; injection e2 with e2 e3; subst e1; subst e2; subst e3
    obtain ⟨r, hv, hwd, hgd, he⟩ := eqV_run (p := p) (q := q) hH hx hy h1
    refine Eff.plain hH (.bool !r) hK ?_ ?_
    · have hb : (binOp .neq t xv yv).run P w = .ok (.bool !r) w := by
        unfold binOp
        cases xv <;> first | (simp [wideV] at hwd; done) | (cases yv <;> simp [he])
      simp [hgd, hb]
    · rcases hv with rfl | rfl
      · simp only [notV, Option.some.injEq] at h3; subst h3; rfl
      · simp only [notV, Option.some.injEq] at h3; subst h3; exact ⟨!r, rfl⟩
  · cases h
end
end Go.Proofs.Ytaafchgfibbmhaa
