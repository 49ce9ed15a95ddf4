/-
  A PART OF THE PROOF. Conditions: none.
-/
import Derived.WideKeyRuns
import Derived.Laws.IdiomRangeMap
import Derived.Test.YtealblliddhgiaaGreatSb4
set_option linter.unusedSimpArgs false
set_option linter.unusedVariables false
namespace Go.Proofs.YtealblliddhgiaaGreat
mutual
theorem D.same_eq : ∀ (x y : D), x.same y = true -> x = y
 | .int k a, y, h => by cases y <;> simp_all [D.same]
 | .bool a, y, h => by cases y <;> simp_all [D.same]
 | .str a, y, h => by cases y <;> simp_all [D.same]
 | .nili, y, h => by cases y <;> simp_all [D.same]
 | .nilp, y, h => by cases y <;> simp_all [D.same]
 | .nilf, y, h => by cases y <;> simp_all [D.same]
 | .nilm, y, h => by cases y <;> simp_all [D.same]
 | .agg asz, y, h => by
   cases y <;> simp only [D.same, Bool.false_eq_true] at h
   rw [D.sames_eq asz _ h]
 | .sl asz, y, h => by
   cases y <;> simp only [D.same, Bool.false_eq_true] at h
   rw [D.sames_eq asz _ h]
 | .iface t a, y, h => by
   cases y <;> simp only [D.same, Bool.false_eq_true, Bool.and_eq_true, beq_iff_eq] at h
   rw [h.1, D.same_eq a _ h.2]
 | .mp ks vs, y, h => by
   cases y <;> simp only [D.same, Bool.false_eq_true, Bool.and_eq_true] at h
   rw [D.sames_eq ks _ h.1, D.sames_eq vs _ h.2]
theorem D.sames_eq : ∀ (xs ys : List D), D.sames xs ys = true -> xs = ys
 | [], ys, h => by cases ys <;> simp_all [D.sames]
 | a :: asz, ys, h => by
   cases ys <;> simp only [D.sames, Bool.false_eq_true, Bool.and_eq_true] at h
   rw [D.same_eq a _ h.1, D.sames_eq asz _ h.2]
end
section
variable {P : Program} {M : Nat -> Prop} {φ : Place} {H : Hp} {w w' : World} {fr : Nat} {K : V -> List (Nat × Obj') -> List Nat -> Prop} {B : Nat -> Prop}
theorem mapT_spec {t kt vt : TypeId} (h : mapT P t = some (kt, vt)) : P.underlying t = some (.map kt vt) := by
 unfold mapT at h
 cases hd : P.underlying t with
 | none => simp [hd] at h
 | some d => cases d <;> simp_all
theorem scalD_one {x : D} (h : scalD x = true) {u v : Value} (hu : D.den B w x u) (hv : D.den B w x v) : u = v := by
 cases x <;> simp only [scalD, Bool.false_eq_true] at h <;> simp only [D.den] at hu hv
 ·rw [hu, hv]
 ·rw [hu, hv]
 ·obtain ⟨⟨⟨a⟩⟩, rfl, h1⟩ := hu
  obtain ⟨⟨⟨b⟩⟩, rfl, h2⟩ := hv
  simp only at h1 h2
  rw [h1, h2]
theorem scals_one : ∀ {xs : List D} (_ : xs.all scalD = true) {us vs : List Value} (_ : D.dens B w xs us) (_ : D.dens B w xs vs), us = vs
 | [], _, us, vs, hu, hv => by simp only [D.dens] at hu hv; rw [hu, hv]
 | x :: xs, h, us, vs, hu, hv => by
   simp only [List.all_cons, Bool.and_eq_true] at h
   obtain ⟨u, us, rfl, h1, h2⟩ := hu
   obtain ⟨v, vs, rfl, h3, h4⟩ := hv
   rw [scalD_one h.1 h1 h3, scals_one h.2 h2 h4]
theorem plainD_one {x : D} (h : plainD x = true) {u v : Value} (hu : D.den B w x u) (hv : D.den B w x v) : u = v := by
 cases x with
 | agg cs =>
   simp only [plainD] at h
   obtain ⟨a, rfl, h1, _⟩ := hu
   obtain ⟨b, rfl, h2, _⟩ := hv
   have := scals_one h h1 h2
   congr 1
   exact Array.ext' this
 | _ => exact scalD_one (by simpa [plainD] using h) hu hv
theorem scal_bits {x : D} (h : scalD x = true) {u : Value} (hu : D.den B w x u) (n : Nat) : Instr.sameBits n u u = true := by
 cases x <;> simp only [scalD, Bool.false_eq_true] at h <;> simp only [D.den] at hu
 ·subst hu; cases n <;> simp [Instr.sameBits]
 ·subst hu; cases n <;> simp [Instr.sameBits]
 ·obtain ⟨s, rfl, h1⟩ := hu
  have : (s == s) = true := (MapKept.bytes_beq s s).2 rfl
  cases n <;> simp [Instr.sameBits, this]
theorem scals_bits : ∀ {xs : List D} (_ : xs.all scalD = true) {us : List Value} (_ : D.dens B w xs us) (n : Nat), (us.zip us).all (fun (x, y) => Instr.sameBits n x y) = true
 | [], _, us, hu, n => by simp only [D.dens] at hu; subst hu; rfl
 | x :: xs, h, us, hu, n => by
   simp only [List.all_cons, Bool.and_eq_true] at h
   obtain ⟨u, us, rfl, h1, h2⟩ := hu
   simp only [List.zip_cons_cons, List.all_cons, scal_bits h.1 h1 n, Bool.true_and]
   exact scals_bits h.2 h2 n
theorem plain_bits {x : D} (h : plainD x = true) {u : Value} (hu : D.den B w x u) (n : Nat) : Instr.sameBits (n + 1) u u = true := by
 cases x with
 | agg cs =>
   simp only [plainD] at h
   obtain ⟨a, rfl, h1, _⟩ := hu
   have := scals_bits h h1 n
   simp only [Instr.sameBits, beq_self_eq_true, Bool.true_and]
   exact this
 | _ => exact scal_bits (by simpa [plainD] using h) hu (n + 1)
theorem run_stays {x : D} (h : plainD x = true) {u : Value} (hu : D.den B w x u) : (Instr.keyThatStays u u).run P w' = .ok u w' := by
 simp [Instr.keyThatStays, plain_bits h hu 9999]
theorem chkT_run (em : Bool) : ∀ (d : Nat) (t : TypeId) (x : D), chkT P d t x = true -> ∀ m, d <= m -> ∀ u, D.den B w x u -> (Instr.checkKey em m t u).run P w = .ok () w
 | 0, _, _, h => by simp [chkT] at h
 | d + 1, t, x, h => by
   intro m hm u hu
   obtain ⟨m, rfl⟩ : ∃ k, m = k + 1 := ⟨m - 1, by omega⟩
   have IH := fun t x h u hu => chkT_run em d t x h m (by omega) u hu
   unfold chkT at h
   rw [Instr.checkKey]
   cases hs : eqShape P t with
   | none => rw [hs] at h; cases h
   | some sh =>
     rw [hs] at h
     unfold eqShape at hs
     cases ht : P.underlying t with
     | none => rw [ht] at hs; cases hs
     | some td =>
       rw [ht] at hs
       simp only [Sem.run_bind, run_underlying ht, Result.andThen_ok]
       cases td <;> simp only [Option.some.injEq, reduceCtorEq] at hs
       case int k0 => simp
       case bool => simp
       case string => simp
       case struct fs =>
        split at hs
        ·injection hs with hs; subst hs
         simp only at h
         cases x <;> simp only [Bool.false_eq_true] at h
         rename_i xs
         obtain ⟨arr, rfl, ha, hf⟩ := hu
         simp only
         rw [<- Array.forIn_toList]
         rw [List.all_map] at h
         generalize fs.toList = L at h
         induction L with
         | nil => simp
         | cons f L ih =>
           simp only [List.all_cons, Bool.and_eq_true, Function.comp] at h
           obtain ⟨h1, h2⟩ := h
           split at h1
           ·rename_i y hy
            obtain ⟨v, k1, k2⟩ := run_partD hy ha hf
            have k3 := IH _ _ h1 v k2
            by_cases hn : f.name = "_"
            ·simp only [List.forIn_cons, Sem.run_bind, hn, ne_eq, not_true_eq_false, if_false, Result.andThen_ok, Sem.run_pure]
             have := ih h2
             simp only [Sem.run_bind, Sem.run_pure, ne_eq] at this
             exact this
            ·simp only [List.forIn_cons, Sem.run_bind, hn, ne_eq, not_false_eq_true, if_true, Result.andThen_ok, k1, k3, Sem.run_pure]
             have := ih h2
             simp only [Sem.run_bind, Sem.run_pure, ne_eq] at this
             exact this
           ·cases h1
        ·cases hs
       case array n e =>
        split at hs
        ·rename_i hi
         injection hs with hs; subst hs
         simp only at h
         cases x <;> simp only [Bool.false_eq_true] at h
         rename_i xs
         obtain ⟨arr, rfl, ha, hf⟩ := hu
         obtain ⟨i, hi⟩ := Option.isSome_iff_exists.1 hi
         simp only [Std.Legacy.Range.forIn_eq_forIn_range', Std.Legacy.Range.size, Nat.sub_zero, Nat.add_one_sub_one, Nat.div_one]
         rw [List.range_eq_range'] at h
         generalize List.range' 0 n = is at h
         induction is with
         | nil => simp
         | cons j is ih =>
           simp only [List.all_cons, Bool.and_eq_true] at h
           obtain ⟨h1, h2⟩ := h
           split at h1
           ·rename_i y hy
            obtain ⟨v, k1, k2⟩ := run_partD hy ha hf
            have k3 := IH _ _ h1 v k2
            simp only [List.forIn_cons, Sem.run_bind, run_size hi, Result.andThen_ok, k1, k3, Sem.run_pure]
            have := ih h2
            simp only [Sem.run_bind, Sem.run_pure] at this
            exact this
           ·cases h1
        ·cases hs
def FoundAs (B : Nat -> Prop) (w : World) (es : List MapEntry) (i : Nat) : Option (Nat × D × D) -> Option (Nat × Value) -> Prop
 | none, none => True
 | some (j, k, x), some (j', v) => j = j' /\ i <= j /\ D.den B w x v /\ ∃ e, es[j - i]? = some e /\ e.val = v /\ D.den B w k e.key
 | _, _ => False
theorem FoundAs.succ {es : List MapEntry} {e : MapEntry} {i : Nat} {r : Option (Nat × D × D)} {r' : Option (Nat × Value)} (h : FoundAs B w es (i + 1) r r') : FoundAs B w (e :: es) i r r' := by
 cases r with
 | none => cases r' <;> exact h
 | some p =>
   obtain ⟨j, k, x⟩ := p
   cases r' with
   | none => exact h
   | some q =>
     obtain ⟨j', v⟩ := q
     obtain ⟨h1, h2, h3, e', h4, h5⟩ := h
     refine ⟨h1, by omega, h3, e', ?_, h5⟩
     rw [show j - i = (j - (i + 1)) + 1 by omega]
     simpa using h4
theorem findAsk_run {kt : TypeId} {kd : D} {kv : Value} (hk : D.den B w kd kv) : ∀ (l : List (D × D)) (es : List MapEntry) (i : Nat) (r : Option (Nat × D × D)), EntsDen B w l es -> findD P kt kd l i = some r ->
 ∃ r', (Instr.findAsking kt kv es i).run P w = .ok r' w /\ FoundAs B w es i r r'
 | [], es, i, r, he, h => by
   simp only [EntsDen] at he; subst he
   simp only [findD, Option.some.injEq] at h; subst h
   exact ⟨none, by simp [Instr.findAsking], trivial⟩
 | (k', x) :: l, es, i, r, he, h => by
   obtain ⟨e, es, rfl, h1, h2, h3⟩ := he
   simp only [findD] at h
   split at h
   ·rename_i hq
    injection h with h; subst h
    have := eqT_run 100 kt _ _ _ hq 10000 (by decide) B w _ _ hk h1
    refine ⟨some (i, e.val), by simp [Instr.findAsking, Op.equal, Op.maxDepth, this], rfl, Nat.le_refl _, h2, e, by simp, rfl, h1⟩
   ·rename_i hq
    have := eqT_run 100 kt _ _ _ hq 10000 (by decide) B w _ _ hk h1
    obtain ⟨r', g1, g2⟩ := findAsk_run hk l es (i + 1) r h3 h
    exact ⟨r', by simp [Instr.findAsking, Op.equal, Op.maxDepth, this, g1], g2.succ⟩
   ·cases h
theorem sameNow_den {td : TypeDesc} {kt : TypeId} (ht : P.underlying kt = some td) (hn : (match td with | .int _ | .bool | .string => true | _ => false) = true) {x y : D} {r : Bool} (h : eqT P 100 kt x y = some r) {u v : Value} (hu : D.den B w x u) (hv : D.den B w y v) :
 Instr.sameNow td u v = some r := by
 unfold eqT eqShape at h
 rw [ht] at h
 cases td <;> simp only [Bool.false_eq_true] at hn <;> simp only at h
 ·split at h
  ·injection h with h; subst h
   simp only [D.den] at hu hv; subst hu; subst hv; rfl
  ·cases h
 ·split at h
  ·split at h
   ·rename_i e; subst e; injection h with h; subst h
    simp only [D.den] at hu hv; subst hu; subst hv; simp [Instr.sameNow]
   ·cases h
  ·cases h
 ·split at h
  ·injection h with h; subst h
   obtain ⟨s1, rfl, rfl⟩ := hu
   obtain ⟨s2, rfl, rfl⟩ := hv
   simp only [Instr.sameNow, Option.some.injEq]
   obtain ⟨⟨a⟩⟩ := s1
   obtain ⟨⟨b⟩⟩ := s2
   rw [Bool.eq_iff_iff, MapKept.bytes_beq]
   simp
  ·cases h
theorem findNow_run {td : TypeDesc} {kt : TypeId} (ht : P.underlying kt = some td) (hn : (match td with | .int _ | .bool | .string => true | _ => false) = true) {kd : D} {kv : Value} (hk : D.den B w kd kv) : ∀ (l : List (D × D)) (es : List MapEntry) (i : Nat) (r : Option (Nat × D × D)), EntsDen B w l es -> findD P kt kd l i = some r ->
 ∃ r', Instr.findNow td kv es i = some r' /\ FoundAs B w es i r r'
 | [], es, i, r, he, h => by
   simp only [EntsDen] at he; subst he
   simp only [findD, Option.some.injEq] at h; subst h
   exact ⟨none, by simp [Instr.findNow], trivial⟩
 | (k', x) :: l, es, i, r, he, h => by
   obtain ⟨e, es, rfl, h1, h2, h3⟩ := he
   simp only [findD] at h
   split at h
   ·rename_i hq
    injection h with h; subst h
    have := sameNow_den ht hn hq hk h1
    refine ⟨some (i, e.val), by simp [Instr.findNow, this], rfl, Nat.le_refl _, h2, e, by simp, rfl, h1⟩
   ·rename_i hq
    have := sameNow_den ht hn hq hk h1
    obtain ⟨r', g1, g2⟩ := findNow_run ht hn hk l es (i + 1) r h3 h
    exact ⟨r', by simp [Instr.findNow, this, g1], g2.succ⟩
   ·cases h
theorem findKey_run {kt : TypeId} {kd : D} {kv : Value} (hk : D.den B w kd kv) (hc : chkT P 100 kt kd = true) {l : List (D × D)} {es : List MapEntry} {r : Option (Nat × D × D)} (he : EntsDen B w l es) (h : findD P kt kd l 0 = some r) :
 ∃ r', (Instr.findKey kt kv es).run P w = .ok r' w /\ FoundAs B w es 0 r r' := by
 unfold chkT eqShape at hc
 cases ht : P.underlying kt with
 | none => simp [ht] at hc
 | some td =>
   have now : (match td with | .int _ | .bool | .string => true | _ => false) = true -> ∃ r', (Instr.findKey kt kv es).run P w = .ok r' w /\ FoundAs B w es 0 r r' := by
    intro hn
    obtain ⟨r', g1, g2⟩ := findNow_run ht hn hk l es 0 r he h
    exact ⟨r', MapKept.run_findKey ht g1, g2⟩
   have ask : (match P.underlying kt with | some (.array _ _) | some (.struct _) => true | _ => false) = true -> ∃ r', (Instr.findKey kt kv es).run P w = .ok r' w /\ FoundAs B w es 0 r r' := by
    intro hn
    obtain ⟨r', g1, g2⟩ := findAsk_run hk l es 0 r he h
    exact ⟨r', (run_findKey_eq w hn kv es).trans g1, g2⟩
   cases td <;> first
    | exact now rfl
    | (refine ask ?_; rw [ht]; done)
    | (exfalso; simp [ht] at hc)
theorem EntsDen.get : ∀ {l : List (D × D)} {es : List MapEntry} {i : Nat} {e : MapEntry}, EntsDen B w l es -> es[i]? = some e -> ∃ p, l[i]? = some p /\ D.den B w p.1 e.key /\ D.den B w p.2 e.val
 | [], es, i, e, h, hi => by simp only [EntsDen] at h; subst h; simp at hi
 | (k, x) :: l, es, i, e, h, hi => by
   obtain ⟨e', es, rfl, h1, h2, h3⟩ := h
   cases i with
   | zero => simp at hi; subst hi; exact ⟨(k, x), by simp, h1, h2⟩
   | succ i => simpa using EntsDen.get h3 (by simpa using hi)
theorem EntsDen.push : ∀ {l : List (D × D)} {es : List MapEntry} {k x : D} {e : MapEntry}, EntsDen B w l es -> D.den B w k e.key -> D.den B w x e.val -> EntsDen B w (l ++ [(k, x)]) (es ++ [e])
 | [], es, k, x, e, h, h1, h2 => by simp only [EntsDen] at h; subst h; exact ⟨e, [], rfl, h1, h2, rfl⟩
 | (k', x') :: l, es, k, x, e, h, h1, h2 => by
   obtain ⟨e', es, rfl, g1, g2, g3⟩ := h
   exact ⟨e', es ++ [e], rfl, g1, g2, EntsDen.push g3 h1 h2⟩
theorem EntsDen.set : ∀ {l : List (D × D)} {es : List MapEntry} {i : Nat} {k x : D} {e : MapEntry}, EntsDen B w l es -> D.den B w k e.key -> D.den B w x e.val -> EntsDen B w (l.set i (k, x)) (es.set i e)
 | [], es, i, k, x, e, h, h1, h2 => by simp only [EntsDen] at h; subst h; rfl
 | (k', x') :: l, es, i, k, x, e, h, h1, h2 => by
   obtain ⟨e', es, rfl, g1, g2, g3⟩ := h
   cases i with
   | zero => exact ⟨e, es, rfl, h1, h2, g3⟩
   | succ i => exact ⟨e', es.set i e, rfl, g1, g2, EntsDen.set g3 h1 h2⟩
theorem eff_makeMap (hH : HeapOk M φ H w) (hfr : ¬ H.us fr) {t : TypeId} (h : resK (makeMapF P fr t) K) : Eff M φ H w fr ((do let v <- Instr.makeMap t none; pure (Next.value v) : Sem Next).run P w) K := by
 have hg := resK_get h
 clear h
 obtain ⟨v, Δ, rd, h, hK⟩ := hg
 unfold makeMapF at h
 split at h
 ·rename_i kt vt ht
  injection h with h; injection h with e1 e2; injection e2 with e2 e3; subst e1; subst e2; subst e3
  have hv : ∀ b, blk (.map (some w.heap.size)) = some b -> w.heap.size <= b /\ b < (w.alloc (.map #[] 0)).heap.size := by
   intro b hb; simp [blk] at hb; subst hb; simp
  have ht' := trans_new (φ := φ) (H := H) (keep_alloc w (.map #[] 0)) hfr (.map kt vt []) (.map (some w.heap.size)) fun b hb => (hv b hb).1
  refine ⟨_, .map (some w.heap.size), w.alloc (.map #[] 0), upd φ fr (.map (some w.heap.size)), _, _, _, hK, by simp [Instr.makeMap], .inl rfl, heap_new hH (keep_alloc w _) hfr _ _ hv ?_, ht', ⟨rfl, by simp, fun _ => by simp⟩, fun j hj => .inr (by simpa using hj)⟩
  unfold ObjOk
  simp only [put_one_o, upd_apply, if_true]
  exact ⟨w.heap.size, #[], 0, rfl, heap_alloc_new w _, ⟨fun e he => by simp at he, by simp⟩, rfl⟩
 ·cases h
theorem mapEs_spec {o : Nat -> Obj'} {m : V} {r : Option (Nat × TypeId × TypeId)} {l : List (D × D)} (h : mapEs o m = some (r, l)) : (∃ id kt vt, m = .mp id /\ o id = .map kt vt l /\ r = some (id, kt, vt)) \/ (m = .d .nilm /\ r = none /\ l = []) := by
 unfold mapEs at h
 split at h
 ·split at h
  ·rename_i ho
   simp only [Option.some.injEq, Prod.mk.injEq] at h; obtain ⟨rfl, rfl⟩ := h; exact .inl ⟨_, _, _, rfl, ho, rfl⟩
  ·cases h
 ·simp only [Option.some.injEq, Prod.mk.injEq] at h; obtain ⟨rfl, rfl⟩ := h; exact .inr ⟨rfl, rfl, rfl⟩
 ·cases h
theorem ents_zip {ks vs : List D} {es : List MapEntry} (h1 : D.dens B w ks (es.map (·.key))) (h2 : D.dens B w vs (es.map (·.val))) : EntsDen B w (ks.zip vs) es := by
 have e1 := D.dens_length _ _ h1
 have e2 := D.dens_length _ _ h2
 simp only [List.length_map] at e1 e2
 refine (ents_dens _ _).2 ?_
 rw [List.map_fst_zip (by omega), List.map_snd_zip (by omega)]
 exact ⟨h1, h2⟩
def LikeM (l l' : List (D × D)) : Prop := l' = l \/ (l'.Perm l /\ IntKeys (l.map (·.1)))
theorem LikeM.perm {l l' : List (D × D)} (h : LikeM l l') : l'.Perm l := by
 rcases h with rfl | h
 ·exact List.Perm.refl _
 ·exact h.1
theorem ents_perm {p q : List MapEntry} (hpq : p.Perm q) : ∀ {l : List (D × D)}, EntsDen B w l p -> ∃ l', l'.Perm l /\ EntsDen B w l' q := by
 induction hpq with
 | nil => intro l h; exact ⟨l, List.Perm.refl _, h⟩
 | cons x _ ih =>
   intro l h
   cases l with
   | nil => cases h
   | cons y l =>
     obtain ⟨k, v⟩ := y
     obtain ⟨e, es, h0, h1, h2, h3⟩ := h
     injection h0 with h0 h0'; subst h0; subst h0'
     obtain ⟨l', g1, g2⟩ := ih h3
     exact ⟨(k, v) :: l', g1.cons _, _, _, rfl, h1, h2, g2⟩
 | swap x y t =>
   intro l h
   match l, h with
   | [], h => cases h
   | [(_, _)], h => obtain ⟨e, es, h0, _, _, h3⟩ := h; injection h0 with _ h0; have h3 : es = [] := h3; rw [h3] at h0; cases h0
   | (k, v) :: (k', v') :: l, h =>
     obtain ⟨e, es, h0, h1, h2, e', es', h0', h1', h2', h3⟩ := h
     subst h0'
     injection h0 with a b; subst a; injection b with b c; subst b; subst c
     exact ⟨(k', v') :: (k, v) :: l, List.Perm.swap _ _ _, _, _, rfl, h1', h2', _, _, rfl, h1, h2, h3⟩
 | trans _ _ ih1 ih2 =>
   intro l h
   obtain ⟨l1, g1, g2⟩ := ih1 h
   obtain ⟨l2, g3, g4⟩ := ih2 g2
   exact ⟨l2, g3.trans g1, g4⟩
theorem ents_like {l : List (D × D)} {p : List MapEntry} {es : Array MapEntry} (hp : p = es.toList \/ (p.Perm es.toList /\ IntKeys (l.map (·.1)))) (h : EntsDen B w l p) : ∃ l', LikeM l l' /\ EntsDen B w l' es.toList := by
 rcases hp with rfl | ⟨h1, h2⟩
 ·exact ⟨l, .inl rfl, h⟩
 ·obtain ⟨l', g1, g2⟩ := ents_perm h1 h
  exact ⟨l', .inr ⟨g1, h2⟩, g2⟩
theorem ents_of_mp {l : List (D × D)} {v : Value} (h : D.den B w (.mp (l.map (·.1)) (l.map (·.2))) v) : ∃ m es clock l', v = .map (some m) /\ w.heap[m]? = some (.map es clock) /\ ¬ B m /\ MapOk es clock /\ LikeM l l' /\ EntsDen B w l' es.toList := by
 obtain ⟨m, es, clock, p, h1, h2, h3, h4, hp, h5, h6⟩ := h
 obtain ⟨l', g1, g2⟩ := ents_like hp ((ents_dens _ _).2 ⟨h5, h6⟩)
 exact ⟨m, es, clock, l', h1, h2, h3, h4, g1, g2⟩
theorem zip_keys {ks vs : List D} {p : List MapEntry} (h1 : D.dens B w ks (p.map (·.key))) (h2 : D.dens B w vs (p.map (·.val))) : (ks.zip vs).map (·.1) = ks := by
 have e1 := D.dens_length _ _ h1
 have e2 := D.dens_length _ _ h2
 simp only [List.length_map] at e1 e2
 exact List.map_fst_zip (by omega)
theorem eqT_key {P : Program} {kt : TypeId} {kd : D} {n : Int} {b : Bool} (h : eqT P 100 kt kd (.int .i64 n) = some b) : eqShape P kt = some .int /\ ∃ m, kd = .int .i64 m /\ b = (m == n) := by
 unfold eqT at h
 cases hs : eqShape P kt with
 | none => simp [hs] at h
 | some sh =>
   cases sh <;> simp only [hs] at h
   case int =>
    cases kd <;> simp only at h
    all_goals first
     | (cases h; done)
     | (split at h
        ·rename_i e; subst e; injection h with h; exact ⟨rfl, _, rfl, h.symm⟩
        ·cases h)
   all_goals first
    | (cases kd <;> simp at h; done)
    | (simp at h; done)
theorem findD_ints {P : Program} {kt : TypeId} {m : Int} (hs : eqShape P kt = some .int) : ∀ (l : List (D × D)) (i : Nat), (∀ k ∈ l.map (·.1), ∃ n, k = .int .i64 n) -> ∃ r, findD P kt (.int .i64 m) l i = some r /\ (match r with | some (_, _, x) => (D.int .i64 m, x) ∈ l | none => ∀ x, (D.int .i64 m, x) ∉ l)
 | [], i, _ => ⟨none, rfl, by simp⟩
 | (k, x) :: l, i, h => by
   obtain ⟨n, rfl⟩ := h k (by simp)
   have he : eqT P 100 kt (.int .i64 m) (.int .i64 n) = some (m == n) := by simp [eqT, hs]
   simp only [findD, he]
   by_cases e : m = n
   ·subst e
    exact ⟨some (i, .int .i64 m, x), by simp, by simp⟩
   ·have e2 : (m == n) = false := by simpa using e
    obtain ⟨r, h1, h2⟩ := findD_ints hs l (i + 1) (fun k hk => h k (by simp at hk ⊢; exact .inr hk))
    refine ⟨r, by simp only [e2]; exact h1, ?_⟩
    cases r with
    | none => intro y hy; rcases List.mem_cons.1 hy with hy | hy
              ·injection hy with hy _; injection hy with _ hy; exact e hy
              ·exact h2 y hy
    | some p => exact List.mem_cons_of_mem _ h2
theorem nodup_fst {L : List (D × D)} (hn : (L.map (·.1)).Nodup) {k x x' : D} (f2 : (k, x) ∈ L) (f4 : (k, x') ∈ L) : x' = x := by
 induction L with
 | nil => cases f2
 | cons y L ih =>
   rw [List.map_cons, List.nodup_cons] at hn
   rcases List.mem_cons.1 f2 with e1 | e1 <;> rcases List.mem_cons.1 f4 with e2 | e2
   ·rw [<- e1] at e2; injection e2
   ·exact absurd (by rw [<- e1]; exact List.mem_map.2 ⟨_, e2, rfl⟩) hn.1
   ·exact absurd (by rw [<- e2]; exact List.mem_map.2 ⟨_, e1, rfl⟩) hn.1
   ·exact ih hn.2 e1 e2
theorem find_like {P : Program} {kt : TypeId} {kd : D} {l l' : List (D × D)} {r : Option (Nat × D × D)} (hl : LikeM l l') (h : findD P kt kd l 0 = some r) : ∃ r', findD P kt kd l' 0 = some r' /\ (match r, r' with | some (_, _, x), some (_, _, x') => x' = x | none, none => True | _, _ => False) := by
 rcases hl with rfl | ⟨hp, hk⟩
 ·refine ⟨r, h, ?_⟩
  cases r <;> trivial
 ·cases l with
  | nil =>
    have : l' = [] := hp.eq_nil
    subst this
    refine ⟨r, h, ?_⟩
    cases r <;> trivial
  | cons p l =>
    obtain ⟨k0, x0⟩ := p
    obtain ⟨n0, rfl⟩ := hk.2 k0 (by simp)
    have hb : ∃ b, eqT P 100 kt kd (.int .i64 n0) = some b := by
     simp only [findD] at h
     cases he : eqT P 100 kt kd (.int .i64 n0) with
     | none => rw [he] at h; cases h
     | some b => exact ⟨b, rfl⟩
    obtain ⟨b, hb⟩ := hb
    obtain ⟨hs, m, rfl, _⟩ := eqT_key hb
    obtain ⟨r1, f1, f2⟩ := findD_ints (m := m) hs ((.int .i64 n0, x0) :: l) 0 hk.2
    rw [h] at f1; injection f1 with f1; subst f1
    obtain ⟨r', f3, f4⟩ := findD_ints (m := m) hs l' 0 (fun k hkk => hk.2 k ((hp.map _).mem_iff.1 hkk))
    refine ⟨r', f3, ?_⟩
    cases r with
    | none =>
      cases r' with
      | none => trivial
      | some q => obtain ⟨_, _, x'⟩ := q; exact f2 x' (hp.mem_iff.1 f4)
    | some q =>
      obtain ⟨_, _, x⟩ := q
      cases r' with
      | none => exact f4 x (hp.mem_iff.2 f2)
      | some q' =>
        obtain ⟨_, _, x'⟩ := q'
        exact nodup_fst hk.1 f2 (hp.mem_iff.1 f4)
theorem ents_zip' {ks vs : List D} {p : List MapEntry} (h1 : D.dens B w ks (p.map (·.key))) (h2 : D.dens B w vs (p.map (·.val))) : EntsDen B w (ks.zip vs) p := ents_zip h1 h2
theorem mapRd_ents (hH : HeapOk M φ H w) {m : V} {mv : Value} {rd : List Nat} {l : List (D × D)} (hm : V.den (mutB M φ H) φ H w m mv) (h : mapRd H.o m = some (rd, l)) :
 (mv = .map none /\ l = []) \/ ∃ b es clock l', mv = .map (some b) /\ w.heap[b]? = some (.map es clock) /\ MapOk es clock /\ LikeM l l' /\ EntsDen (mutB M φ H) w l' es.toList := by
 unfold mapRd at h
 split at h
 ·rename_i id
  obtain ⟨hm1, hm2, hm3⟩ := hm
  have hok := hH.ok id
  split at h
  ·rename_i ho
   simp only [Option.some.injEq, Prod.mk.injEq] at h; obtain ⟨rfl, rfl⟩ := h
   simp only [ObjOk, ho] at hok
   obtain ⟨b, es, clock, g1, g2, g0, g3⟩ := hok
   exact .inr ⟨b, es, clock, _, (hm3 (by rw [ho]; rfl)).trans g1, g2, g0, .inl rfl, g3⟩
  ·rename_i ho
   simp only [Option.some.injEq, Prod.mk.injEq] at h; obtain ⟨rfl, rfl⟩ := h
   simp only [ObjOk, ho] at hok
   obtain ⟨b, es, clock, l', g1, g2, _, g0, g3⟩ := ents_of_mp hok
   exact .inr ⟨b, es, clock, l', (hm3 (by rw [ho]; rfl)).trans g1, g2, g0, g3⟩
  ·cases h
 ·simp only [Option.some.injEq, Prod.mk.injEq] at h; obtain ⟨rfl, rfl⟩ := h
  simp only [V.den, D.den] at hm
  exact .inl ⟨hm, rfl⟩
 ·simp only [Option.some.injEq, Prod.mk.injEq] at h; obtain ⟨rfl, rfl⟩ := h
  obtain ⟨b, es, clock, p, g1, g2, _, g0, gp, g3, g4⟩ := hm
  obtain ⟨l', g5, g6⟩ := ents_like (by rw [zip_keys g3 g4]; exact gp) (ents_zip' g3 g4)
  exact .inr ⟨b, es, clock, l', g1, g2, g0, g5, g6⟩
 ·cases h
theorem eff_lookup (hH : HeapOk M φ H w) {t : TypeId} {m k : V} {mv kv : Value} {ok : Bool} (hm : V.den (mutB M φ H) φ H w m mv) (hk : V.den (mutB M φ H) φ H w k kv) (h : resK (lookupF P H.o t m k ok) K) :
 Eff M φ H w fr ((do let v <- Instr.lookup t mv kv ok; pure (Next.value v) : Sem Next).run P w) K := by
 have hg := resK_get h
 clear h
 obtain ⟨v, Δ, rd, h, hK⟩ := hg
 unfold lookupF at h
 split at h
 ·rename_i kt vt kd rd0 l ht hkd hml
  split at h
  ·rename_i hc
   have hkden : D.den (mutB M φ H) w kd kv := toD_den hH k kd kv (fun id hid => by rw [hc.1] at hid; cases hid) hkd hk
   have chk : ∀ em, (Instr.checkKey em 10000 kt kv).run P w = .ok () w := fun em => chkT_run em 100 kt kd hc.2 10000 (by decide) kv hkden
   have hmt := mapT_spec ht
   have ents : ∃ (es : Array MapEntry) (l' : List (D × D)), LikeM l l' /\ EntsDen (mutB M φ H) w l' es.toList /\ ∀ (r' : Option (Nat × Value)) (val : Value), (Instr.findKey kt kv es.toList).run P w = .ok r' w -> (match r' with | some (_, u) => val = (if ok = true then .tuple #[u, .bool true] else u) | none => ∃ z, (zeroValue vt).run P w = .ok z w /\ val = (if ok = true then .tuple #[z, .bool false] else z)) -> (Instr.lookup t mv kv ok).run P w = .ok val w := by
    rcases mapRd_ents hH hm hml with ⟨rfl, rfl⟩ | ⟨b, es, clock, l', rfl, g2, _, gl, g3⟩
    case inr =>
     have hget := MapKept.run_getObj_map (P := P) g2
     refine ⟨es, l', gl, g3, fun r' val q1 q2 => ?_⟩
     cases r' with
     | some p => obtain ⟨j, u⟩ := p; simp only at q2; subst q2; cases ok <;> simp [Instr.lookup, run_underlying hmt, hget, chk, q1]
     | none => obtain ⟨z, z1, rfl⟩ := q2; cases ok <;> simp [Instr.lookup, run_underlying hmt, hget, chk, q1, z1]
    case inl =>
     refine ⟨#[], [], .inl rfl, rfl, fun r' val q1 q2 => ?_⟩
     cases r' with
     | some p => obtain ⟨j, u⟩ := p; simp only at q2; subst q2; cases ok <;> simp [Instr.lookup, run_underlying hmt, chk, q1]
     | none => obtain ⟨z, z1, rfl⟩ := q2; cases ok <;> simp [Instr.lookup, run_underlying hmt, chk, q1, z1]
   obtain ⟨es, l', gl, g3, run⟩ := ents
   split at h
   ·rename_i j kk x hf
    injection h with h; injection h with e1 e2; injection e2 with e2 e3; subst e1; subst e2; subst e3
    obtain ⟨r2, hf2, hr2⟩ := find_like gl hf
    obtain ⟨r', q1, q2⟩ := findKey_run hkden hc.2 g3 hf2
    cases r2 with
    | none => exact hr2.elim
    | some p2 =>
    obtain ⟨_, _, x2⟩ := p2
    have hx2 : x2 = x := hr2
    obtain rfl := hx2
    cases r' with
    | none => exact q2.elim
    | some p =>
      obtain ⟨j', u⟩ := p
      obtain ⟨_, _, hxu, _⟩ := q2
      refine Eff.plain (v := (if ok = true then .tup [.d x2, .d (.bool true)] else .d x2)) hH (if ok = true then .tuple #[u, .bool true] else u) hK (run _ _ q1 rfl) ?_
      cases ok
      ·exact hxu
      ·exact ⟨#[u, .bool true], rfl, u, [.bool true], rfl, hxu, .bool true, [], rfl, rfl, rfl⟩
   ·rename_i hf
    split at h
    ·rename_i z hz
     injection h with h; injection h with e1 e2; injection e2 with e2 e3; subst e1; subst e2; subst e3
     obtain ⟨r2, hf2, hr2⟩ := find_like gl hf
     obtain ⟨r', q1, q2⟩ := findKey_run hkden hc.2 g3 hf2
     cases r2 with
     | some p2 => exact hr2.elim
     | none =>
     cases r' with
     | some p => exact q2.elim
     | none =>
       obtain ⟨val, z1, z2⟩ := zeroV_den (M := M) (φ := φ) (H := H) (w := w) hz
       refine Eff.plain hH (if ok = true then .tuple #[val, .bool false] else val) hK (run _ _ q1 ⟨val, z1, rfl⟩) ?_
       cases ok
       ·exact z2
       ·exact ⟨#[val, .bool false], rfl, val, [.bool false], rfl, z2, .bool false, [], rfl, rfl, rfl⟩
    ·cases h
   ·cases h
  ·cases h
 ·cases h
theorem getElem?_modify_same {es : Array MapEntry} {i : Nat} {e : MapEntry} (f : MapEntry -> MapEntry) (h : es.toList[i]? = some e) : (es.modify i f).toList = es.toList.set i (f e) := by
 apply List.ext_getElem?
 intro j
 simp only [Array.getElem?_toList, Array.getElem?_modify]
 rw [List.getElem?_set]
 have h' : es[i]? = some e := by simpa using h
 by_cases hj : i = j
 ·subst hj
  have hlt : i < es.toList.length := by
   rw [List.getElem?_eq_some_iff] at h; exact h.1
  simp only [if_true, h', Option.map_some, hlt]
 ·simp [hj]
theorem mapOk_push {es : Array MapEntry} {clock : Nat} (h : MapOk es clock) {e : MapEntry} (he : e.born = clock) : MapOk (es.push e) (clock + 1) := by
 obtain ⟨h1, h2⟩ := h
 refine ⟨fun x hx => ?_, ?_⟩
 ·rw [Array.toList_push] at hx
  rcases List.mem_append.1 hx with hx | hx
  ·have := h1 x hx; omega
  ·simp at hx; subst hx; omega
 ·rw [Array.toList_push, List.map_append, List.nodup_append]
  refine ⟨h2, by simp, fun a ha b hb => ?_⟩
  obtain ⟨x, hx, rfl⟩ := List.mem_map.1 ha
  simp only [List.map_cons, List.map_nil, List.mem_singleton] at hb
  have := h1 x hx
  omega
theorem mapOk_modify {es : Array MapEntry} {clock i : Nat} (h : MapOk es clock) {e : MapEntry} (hi : es.toList[i]? = some e) {f : MapEntry -> MapEntry} (hf : (f e).born = e.born) : MapOk (es.modify i f) clock := by
 obtain ⟨h1, h2⟩ := h
 unfold MapOk
 rw [getElem?_modify_same f hi]
 have e1 : (es.toList.set i (f e)).map (·.born) = es.toList.map (·.born) := by
  rw [List.map_set, hf]
  apply List.ext_getElem?
  intro j
  rw [List.getElem?_set]
  by_cases hj : i = j
  ·subst hj
   have hlt := (List.getElem?_eq_some_iff.1 hi).1
   rw [if_pos rfl, if_pos (by simpa using hlt), List.getElem?_map, hi]; rfl
  ·rw [if_neg hj]
 refine ⟨fun x hx => ?_, by rw [e1]; exact h2⟩
 obtain ⟨j, hj⟩ := List.mem_iff_getElem?.1 (List.mem_map.2 ⟨x, hx, rfl⟩ : x.born ∈ (es.toList.set i (f e)).map (·.born))
 rw [e1] at hj
 obtain ⟨y, hy, e2⟩ := List.mem_map.1 (List.mem_of_getElem? hj)
 have := h1 y hy
 omega
theorem mapOk_erase {es : Array MapEntry} {clock i : Nat} (h : MapOk es clock) : MapOk (es.eraseIdxIfInBounds i) clock := by
 obtain ⟨h1, h2⟩ := h
 have e : (es.eraseIdxIfInBounds i).toList = es.toList.eraseIdx i := by simp
 unfold MapOk
 rw [e]
 exact ⟨fun x hx => h1 x (List.mem_of_mem_eraseIdx hx), h2.sublist (List.Sublist.map _ (List.eraseIdx_sublist ..))⟩
theorem EntsDen.erase : ∀ {l : List (D × D)} {es : List MapEntry} {i : Nat}, EntsDen B w l es -> EntsDen B w (l.eraseIdx i) (es.eraseIdx i)
 | [], es, i, h => by simp only [EntsDen] at h; subst h; simp [EntsDen]
 | (k', x') :: l, es, i, h => by
   obtain ⟨e', es, rfl, g1, g2, g3⟩ := h
   cases i with
   | zero => exact g3
   | succ i => exact ⟨e', es.eraseIdx i, rfl, g1, g2, EntsDen.erase g3⟩
theorem turn_map (hH : HeapOk M φ H w) {id b clock clock' : Nat} {kt vt : TypeId} {l l' : List (D × D)} {es es' : Array MapEntry} (hus : H.us id) (ho : H.o id = .map kt vt l) (hφ : φ id = .map (some b)) (g2 : w.heap[b]? = some (.map es clock)) (h0 : MapOk es' clock') (hl : EntsDen (mutB M φ H) w l' es'.toList) :
 HeapOk M φ (H.put [(id, .map kt vt l')]) { w with heap := w.heap.setIfInBounds b (.map es' clock') } /\ Trans φ H w φ (H.put [(id, .map kt vt l')]) { w with heap := w.heap.setIfInBounds b (.map es' clock') } := by
 have hkp : Keep (· = b) w { w with heap := w.heap.setIfInBounds b (.map es' clock') } :=
  ⟨rfl, rfl, rfl, by simp, fun j _ hj => (MapKept.heap_set g2).2 j hj⟩
 have hl1 : (H.o id).live = true := by rw [ho]; rfl
 have hb1 : blk (φ id) = some b := by rw [hφ]; rfl
 have ht1 := trans_turn (w := w) (w' := { w with heap := w.heap.setIfInBounds b (.map es' clock') }) hus hl1 hb1 hkp (.map kt vt l') (by rw [ho]; rfl) (by rw [ho]; rfl)
 refine ⟨heap_turn hH hus hl1 hb1 hkp _ (by rw [ho]; rfl) (by rw [ho]; rfl) ?_, ht1⟩
 unfold ObjOk
 simp only [put_one_o, upd_apply, if_true]
 exact ⟨b, es', clock', hφ, (MapKept.heap_set g2).1, h0, EntsDen.mono (ht1.blocks (M := M)) l' _ hl⟩
theorem eff_delete (hH : HeapOk M φ H w) {t : TypeId} {ts : Array TypeId} {m k : V} {mv kv : Value} (hts : ts.toList.head? = some t) (hm : V.den (mutB M φ H) φ H w m mv) (hk : V.den (mutB M φ H) φ H w k kv) {ty0 : TypeId}
 (h : resK (deleteF P H.o t m k) K) : Eff M φ H w fr ((do let v <- Builtin.delete_ ts ty0 #[mv, kv]; pure (Next.value v) : Sem Next).run P w) K := by
 have hg := resK_get h
 clear h
 obtain ⟨v', Δ, rd, h, hK⟩ := hg
 have ht0 : ts[0]? = some t := by rw [<- Array.getElem?_toList, <- List.head?_eq_getElem?]; exact hts
 unfold deleteF at h
 split at h
 ·rename_i kt vt kd id kt' vt' l ht hkd hml
  rcases mapEs_spec hml with ⟨id2, kt2, vt2, rfl, ho, hr⟩ | ⟨rfl, hr, rfl⟩
  case inr => cases hr
  injection hr with hr; injection hr with e1 e2; injection e2 with e2 e3; subst e1; subst e2; subst e3
  split at h
  ·rename_i hc
   obtain ⟨c1, c2⟩ := hc
   have hkden : D.den (mutB M φ H) w kd kv := toD_den hH k kd kv (fun id hid => by rw [c1] at hid; cases hid) hkd hk
   have chk : ∀ em, (Instr.checkKey em 10000 kt kv).run P w = .ok () w := fun em => chkT_run em 100 kt kd c2 10000 (by decide) kv hkden
   have hmt := mapT_spec ht
   obtain ⟨hm1, hus, hm3⟩ := hm
   have hφ := hm3 (by rw [ho]; rfl)
   have hok := hH.ok id
   simp only [ObjOk, ho] at hok
   obtain ⟨b, es, clock, g1, g2, g0, g3⟩ := hok
   rw [<- hφ] at g1; subst g1
   have hget := MapKept.run_getObj_map (P := P) g2
   split at h
   ·rename_i i k' x hf
    injection h with h; injection h with e1 e2; injection e2 with e2 e3; subst e1; subst e2; subst e3
    obtain ⟨r', q1, q2⟩ := findKey_run hkden c2 g3 hf
    cases r' with
    | none => exact q2.elim
    | some p =>
      obtain ⟨j', u⟩ := p
      obtain ⟨rfl, _, hxu, e, h4, h5, h6⟩ := q2
      have e : (es.eraseIdxIfInBounds i).toList = es.toList.eraseIdx i := by simp
      obtain ⟨t1, t2⟩ := turn_map (clock' := clock) (es' := es.eraseIdxIfInBounds i) (l' := l.eraseIdx i) hH hus ho hφ.symm g2 (mapOk_erase g0) (by rw [e]; exact g3.erase)
      refine ⟨.value (.tuple #[]), .tuple #[], _, φ, _, _, _, hK, ?_, .inl rfl, t1, t2, ⟨#[], rfl, rfl⟩, fun j hj => .inl (by simp at hj; subst hj; exact hus)⟩
      simp only [Builtin.delete_, ht0, Sem.run_bind, run_underlying hmt, Result.andThen_ok, hget, chk, q1, List.getElem?_toArray, List.getElem?_cons_zero, List.getElem?_cons_succ, MapKept.run_setObj_map _ g2, Sem.run_pure]
   ·rename_i hf
    injection h with h; injection h with e1 e2; injection e2 with e2 e3; subst e1; subst e2; subst e3
    obtain ⟨r', q1, q2⟩ := findKey_run hkden c2 g3 hf
    cases r' with
    | some p => exact q2.elim
    | none =>
      have hw : { w with heap := w.heap.setIfInBounds b (.map es clock) } = w := by
       have hlt : b < w.heap.size := by
        rcases Nat.lt_or_ge b w.heap.size with h | h
        ·exact h
        ·simp [Array.getElem?_eq_none h] at g2
       have : w.heap.setIfInBounds b (.map es clock) = w.heap := by
        apply Array.ext_getElem?
        intro j
        rw [Array.getElem?_setIfInBounds]
        by_cases hj : b = j
        ·subst hj; rw [if_pos rfl, if_pos hlt, g2]
        ·rw [if_neg hj]
       rw [this]
      refine ⟨.value (.tuple #[]), .tuple #[], w, φ, _, _, _, hK, ?_, .inl rfl, by rw [put_nil]; exact hH, by rw [put_nil]; exact Trans.refl _ _ _, ⟨#[], rfl, rfl⟩, by simp⟩
      simp only [Builtin.delete_, ht0, Sem.run_bind, run_underlying hmt, Result.andThen_ok, hget, chk, q1, List.getElem?_toArray, List.getElem?_cons_zero, List.getElem?_cons_succ, MapKept.run_setObj_map _ g2, Sem.run_pure, hw]
   ·cases h
  ·cases h
 ·cases h
theorem put_two (H : Hp) (i j : Nat) (x y : Obj') : H.put [(i, x), (j, y)] = (H.put [(i, x)]).put [(j, y)] := by rw [<- put_append]; rfl
theorem eff_range (hH : HeapOk M φ H w) (hfr : ¬ H.us fr) {t : TypeId} {x : V} {xv : Value} (hx : V.den (mutB M φ H) φ H w x xv) (h : resK (rangeF P H.o fr t x) K) :
 Eff M φ H w fr ((do let v <- Instr.range t xv; pure (Next.value v) : Sem Next).run P w) K := by
 have hg := resK_get h
 clear h
 obtain ⟨v, Δ, rd, h, hK⟩ := hg
 have new : ∀ (φ1 : Place) (H1 : Hp) (obj : Obj') (ob : Obj), HeapOk M φ1 H1 w -> ¬ H1.us fr -> ObjOk M (upd φ1 fr (.pointer (some ⟨w.heap.size, 0, none⟩))) (H1.put [(fr, obj)]) (w.alloc ob) fr ->
  HeapOk M (upd φ1 fr (.pointer (some ⟨w.heap.size, 0, none⟩))) (H1.put [(fr, obj)]) (w.alloc ob) /\ Trans φ1 H1 w (upd φ1 fr (.pointer (some ⟨w.heap.size, 0, none⟩))) (H1.put [(fr, obj)]) (w.alloc ob) := by
  intro φ1 H1 obj ob h1 h2 h3
  have hv : ∀ b, blk (.pointer (some ⟨w.heap.size, 0, none⟩)) = some b -> w.heap.size <= b /\ b < (w.alloc ob).heap.size := by
   intro b hb; simp [blk] at hb; subst hb; simp
  exact ⟨heap_new h1 (keep_alloc w _) h2 _ _ hv h3, trans_new (keep_alloc w _) h2 _ _ fun b hb => (hv b hb).1⟩
 have frozen : ∀ (H1 : Hp) (l : List (D × D)) (b : Nat) (es : Array MapEntry) (clock : Nat), HeapOk M φ H1 w -> ¬ H1.us fr -> w.heap[b]? = some (.map es clock) -> ¬ mutB M φ H1 b -> MapOk es clock -> (∃ l', l'.Perm l /\ EntsDen (mutB M φ H1) w l' es.toList) ->
  ObjOk M (upd φ fr (.pointer (some ⟨w.heap.size, 0, none⟩))) (H1.put [(fr, .mit l none)]) (w.alloc (.mapIter (some b) clock #[] clock)) fr := by
  intro H1 l b es clock h1 h2 h3 h4 h5 h6
  have ht := trans_new (φ := φ) (H := H1) (w := w) (w' := w.alloc (.mapIter (some b) clock #[] clock)) (keep_alloc w _) h2 (.mit l none) (.pointer (some ⟨w.heap.size, 0, none⟩)) (fun b hb => by simp [blk] at hb; omega)
  obtain ⟨k1, k2⟩ := ht.blocks (M := M) b (.inr ⟨es, clock, h3⟩) h4
  unfold ObjOk
  simp only [put_one_o, upd_apply, if_true]
  refine ⟨w.heap.size, rfl, .inr ⟨b, clock, #[], es, heap_alloc_new w _, k1.trans h3, k2, h5, ?_, fun k x e => by cases e⟩⟩
  have e : (es.toList.filter fun e => !(#[] : Array Nat).contains e.born) = es.toList := List.filter_eq_self.2 (fun a _ => by simp)
  rw [e]
  obtain ⟨l', h6, h7⟩ := h6
  exact ⟨l', h6, EntsDen.mono (ht.blocks (M := M)) l' _ h7⟩
 unfold rangeF at h
 split at h
 ·rename_i ht
  split at h
  ·rename_i s
   injection h with h; injection h with e1 e2; injection e2 with e2 e3; subst e1; subst e2; subst e3
   obtain ⟨st, rfl, hs⟩ := hx
   have hst : st = ⟨⟨s⟩⟩ := by obtain ⟨⟨a⟩⟩ := st; simp at hs; subst hs; rfl
   subst hst
   obtain ⟨n1, n2⟩ := new φ H (.sit s 0) (.stringIter ⟨⟨s⟩⟩ 0) hH hfr (by
    unfold ObjOk
    simp only [put_one_o, upd_apply, if_true]
    exact ⟨w.heap.size, rfl, heap_alloc_new w _⟩)
   exact ⟨_, _, _, _, _, _, _, hK, by simp [Instr.range, run_underlying ht], .inl rfl, n1, n2, ⟨rfl, by simp, fun _ => ⟨w.heap.size, by simp, rfl⟩⟩, fun j hj => .inr (by simpa using hj)⟩
  ·cases h
 ·rename_i ht
  split at h
  ·injection h with h; injection h with e1 e2; injection e2 with e2 e3; subst e1; subst e2; subst e3
   simp only [V.den, D.den] at hx; subst hx
   obtain ⟨n1, n2⟩ := new φ H (.mit [] none) (.mapIter none 0 #[] 0) hH hfr (by
    unfold ObjOk
    simp only [put_one_o, upd_apply, if_true]
    exact ⟨w.heap.size, rfl, .inl ⟨heap_alloc_new w _, rfl, rfl⟩⟩)
   exact ⟨_, _, _, _, _, _, _, hK, by simp [Instr.range, run_underlying ht], .inl rfl, n1, n2, ⟨rfl, by simp, fun _ => ⟨w.heap.size, by simp, rfl⟩⟩, fun j hj => .inr (by simpa using hj)⟩
  ·rename_i ks vs
   injection h with h; injection h with e1 e2; injection e2 with e2 e3; subst e1; subst e2; subst e3
   obtain ⟨b, es, clock, p, rfl, g2, g4, g0, gp, g3, g5⟩ := hx
   have hget := MapKept.run_getObj_map (P := P) g2
   obtain ⟨l', g6, g7⟩ := ents_like (by rw [zip_keys g3 g5]; exact gp) (ents_zip' g3 g5)
   obtain ⟨n1, n2⟩ := new φ H _ _ hH hfr (frozen H (ks.zip vs) b es clock hH hfr g2 g4 g0 ⟨l', g6.perm, g7⟩)
   exact ⟨_, _, _, _, _, _, _, hK, by simp [Instr.range, run_underlying ht, hget], .inl rfl, n1, n2, ⟨rfl, by simp, fun _ => ⟨w.heap.size, by simp, rfl⟩⟩, fun j hj => .inr (by simpa using hj)⟩
  ·rename_i id
   obtain ⟨hm1, hus, hm3⟩ := hx
   have hok := hH.ok id
   split at h
   ·rename_i kt vt l ho
    injection h with h; injection h with e1 e2; injection e2 with e2 e3; subst e1; subst e2; subst e3
    obtain ⟨f1, f2⟩ := freezeM hH hus ho
    have ho1 : (H.put [(id, .mfro l)]).o id = .mfro l := by simp
    have hok1 := f1.ok id
    simp only [ObjOk, ho1] at hok1
    obtain ⟨b, es, clock, l', g1, g2, g4, g0, gl, g3⟩ := ents_of_mp hok1
    have hφ := hm3 (by rw [ho]; rfl)
    rw [<- hφ] at g1; subst g1
    have hget := MapKept.run_getObj_map (P := P) g2
    have hfr1 : ¬ (H.put [(id, .mfro l)]).us fr := by
     rw [put_one_us]
     rintro (h | h)
     ·exact hfr h
     ·exact hfr (h ▸ hus)
    obtain ⟨n1, n2⟩ := new φ _ _ _ f1 hfr1 (frozen _ l b es clock f1 hfr1 g2 g4 g0 ⟨l', gl.perm, g3⟩)
    refine ⟨.value (.pointer (some ⟨w.heap.size, 0, none⟩)), .pointer (some ⟨w.heap.size, 0, none⟩), w.alloc (.mapIter (some b) clock #[] clock), _, _, _, _, hK, by simp [Instr.range, run_underlying ht, hget], .inl rfl, by rw [put_two]; exact n1, by rw [put_two]; exact f2.trans n2, ?_, fun j hj => ?_⟩
    ·rw [put_two]
     exact ⟨rfl, by simp, fun _ => ⟨w.heap.size, by simp, rfl⟩⟩
    ·simp at hj
     rcases hj with rfl | rfl
     ·exact .inl hus
     ·exact .inr rfl
   ·rename_i l ho
    injection h with h; injection h with e1 e2; injection e2 with e2 e3; subst e1; subst e2; subst e3
    simp only [ObjOk, ho] at hok
    obtain ⟨b, es, clock, l', g1, g2, g4, g0, gl, g3⟩ := ents_of_mp hok
    have hφ := hm3 (by rw [ho]; rfl)
    rw [<- hφ] at g1; subst g1
    have hget := MapKept.run_getObj_map (P := P) g2
    obtain ⟨n1, n2⟩ := new φ H _ _ hH hfr (frozen H l b es clock hH hfr g2 g4 g0 ⟨l', gl.perm, g3⟩)
    exact ⟨_, _, _, _, _, _, _, hK, by simp [Instr.range, run_underlying ht, hget], .inl rfl, n1, n2, ⟨rfl, by simp, fun _ => ⟨w.heap.size, by simp, rfl⟩⟩, fun j hj => .inr (by simpa using hj)⟩
   ·cases h
  ·cases h
 ·cases h
theorem turn_it (hH : HeapOk M φ H w) {id b : Nat} {obj obj' : Obj'} {x y : Obj} (hus : H.us id) (ho : H.o id = obj) (hl : obj.live = true) (hr : obj.isRow = true) (he : obj.epoch = none) (hr' : obj'.isRow = true) (he' : obj'.epoch = none) (hφ : φ id = .pointer (some ⟨b, 0, none⟩)) (g2 : w.heap[b]? = some x) {w1 : World} (hw1 : w1.os = w.os /\ w1.tape = w.tape /\ w1.output = w.output /\ w1.heap = w.heap)
 (hobj : Trans φ H w φ (H.put [(id, obj')]) { w1 with heap := w.heap.setIfInBounds b y } -> ObjOk M φ (H.put [(id, obj')]) { w1 with heap := w.heap.setIfInBounds b y } id) :
 HeapOk M φ (H.put [(id, obj')]) { w1 with heap := w.heap.setIfInBounds b y } /\ Trans φ H w φ (H.put [(id, obj')]) { w1 with heap := w.heap.setIfInBounds b y } := by
 have hkp : Keep (· = b) w { w1 with heap := w.heap.setIfInBounds b y } :=
  ⟨hw1.1, hw1.2.1, hw1.2.2.1, by simp, fun j _ hj => by
   show (w.heap.setIfInBounds b y)[j]? = _
   rw [Array.getElem?_setIfInBounds, if_neg (fun e => hj e.symm)]⟩
 have hl1 : (H.o id).live = true := by rw [ho]; exact hl
 have hb1 : blk (φ id) = some b := by rw [hφ]; rfl
 have ht1 := trans_turn (w := w) hus hl1 hb1 hkp obj' (by rw [ho, hr, hr']) (by rw [ho, he, he'])
 exact ⟨heap_turn hH hus hl1 hb1 hkp _ (by rw [ho, hr, hr']) (by rw [ho, he, he']) (hobj ht1), ht1⟩
theorem eff_nextStr (hH : HeapOk M φ H w) {x : V} {xv : Value} {str : Bool} {ty : TypeId} (hx : V.den (mutB M φ H) φ H w x xv) (h : resK (nextF H.o x str) K) :
 Eff M φ H w fr ((do let v <- Instr.next xv str ty; pure (Next.value v) : Sem Next).run P w) K := by
 have hg := resK_get h
 clear h
 obtain ⟨v, Δ, rd, h, hK⟩ := hg
 unfold nextF at h
 split at h
 ·rename_i id
  obtain ⟨_, hus, hm3⟩ := hx
  split at h
  ·rename_i s pos ho
   split at h
   ·rename_i hstr
    subst hstr
    obtain ⟨b0, q1, rfl⟩ := hm3 (by rw [ho]; rfl)
    have hok := hH.ok id
    simp only [ObjOk, ho] at hok
    obtain ⟨b, g1, g2⟩ := hok
    rw [q1] at g1; injection g1 with g1; injection g1 with g1; injection g1 with g1; subst g1
    have hsz : (ByteArray.mk ⟨s⟩).size = s.length := rfl
    split at h
    ·rename_i hlt
     injection h with h; injection h with e1 e2; injection e2 with e2 e3; subst e1; subst e2; subst e3
     obtain ⟨n1, n2⟩ := turn_it (w1 := w) (y := .stringIter ⟨⟨s⟩⟩ (pos + (Utf8.decode ⟨⟨s⟩⟩ pos).2)) (obj' := .sit s (pos + (Utf8.decode ⟨⟨s⟩⟩ pos).2)) hH hus ho rfl rfl rfl rfl rfl q1 g2 ⟨rfl, rfl, rfl, rfl⟩ (fun _ => by
      unfold ObjOk
      simp only [put_one_o, upd_apply, if_true]
      refine ⟨b0, q1, ?_⟩
      have hlt : b0 < w.heap.size := by
       rcases Nat.lt_or_ge b0 w.heap.size with h | h
       ·exact h
       ·simp [Array.getElem?_eq_none h] at g2
      show (w.heap.setIfInBounds b0 _)[b0]? = _
      rw [Array.getElem?_setIfInBounds, if_pos rfl, if_pos hlt])
     refine ⟨.value (.tuple #[.bool true, goInt pos, .int .i32 (Utf8.decode ⟨⟨s⟩⟩ pos).1]), _, _, φ, _, _, _, hK, ?_, .inl rfl, n1, n2, ⟨_, rfl, .bool true, _, rfl, rfl, _, _, rfl, rfl, _, _, rfl, rfl, rfl⟩, fun j hj => .inl (by simp at hj; subst hj; exact hus)⟩
     simp only [Instr.next, getObj, setObj, Sem.run_bind, Sem.run, g2, Result.andThen, hsz, hlt, if_true]
     rfl
    ·rename_i hlt
     injection h with h; injection h with e1 e2; injection e2 with e2 e3; subst e1; subst e2; subst e3
     refine Eff.same hH (.tuple #[.bool false]) hK ?_ ⟨_, rfl, .bool false, _, rfl, rfl, rfl⟩
     simp only [Instr.next, getObj, Sem.run_bind, Sem.run, g2, Result.andThen, hsz, hlt, if_false]
     rfl
   ·cases h
  ·cases h
 ·cases h
theorem filter_seen {es : List MapEntry} (hn : (es.map (·.born)).Nodup) (seen : Array Nat) {e : MapEntry} {i : Nat} (hi : (es.filter fun e => !seen.contains e.born)[i]? = some e) :
 (es.filter fun x => !(seen.push e.born).contains x.born) = (es.filter fun e => !seen.contains e.born).eraseIdx i := by
 have e1 : (es.filter fun x => !(seen.push e.born).contains x.born) = (es.filter fun e => !seen.contains e.born).filter (fun x => x.born != e.born) := by
  rw [List.filter_filter]
  refine List.filter_congr fun x _ => ?_
  simp only [Array.contains_push]
  cases h1 : seen.contains x.born <;> cases h2 : (x.born == e.born) <;> simp_all [bne]
 rw [e1]
 have hn' : ((es.filter fun e => !seen.contains e.born).map (·.born)).Nodup := hn.sublist (List.Sublist.map _ (List.filter_sublist ..))
 generalize (es.filter fun e => !seen.contains e.born) = L at hi hn' ⊢
 induction L generalizing i with
 | nil => simp at hi
 | cons y L ih =>
   obtain ⟨n1, n2⟩ := List.nodup_cons.1 hn'
   cases i with
   | zero =>
     simp at hi; subst hi
     simp only [List.filter_cons, bne_self_eq_false, Bool.false_eq_true, if_false, List.eraseIdx_zero, List.tail_cons]
     refine List.filter_eq_self.2 fun x hx => ?_
     simp only [bne_iff_ne, ne_eq]
     exact fun h => n1 (by show y.born ∈ _; rw [<- h]; exact List.mem_map.2 ⟨x, hx, rfl⟩)
   | succ i =>
     simp only [List.getElem?_cons_succ] at hi
     have hm := List.mem_of_getElem? hi
     have hne : (y.born != e.born) = true := by
      simp only [bne_iff_ne, ne_eq]
      exact fun h => n1 (by show y.born ∈ _; rw [h]; exact List.mem_map.2 ⟨e, hm, rfl⟩)
     rw [List.filter_cons, hne, if_pos rfl, List.eraseIdx_cons_succ, ih hi n2]
theorem eff_nextMap (hH : HeapOk M φ H w) {x : V} {xv : Value} {ty : TypeId} (hx : V.den (mutB M φ H) φ H w x xv) {id : Nat} {l : List (D × D)} (h : leftF H.o x = some (id, l)) (hK : nextV id l K) :
 Eff M φ H w fr ((do let v <- Instr.next xv false ty; pure (Next.value v) : Sem Next).run P w) K := by
 unfold leftF at h
 split at h
 ·rename_i id'
  obtain ⟨_, hus, hm3⟩ := hx
  split at h
  ·rename_i l' last ho
   simp only [Option.some.injEq, Prod.mk.injEq] at h
   obtain ⟨rfl, rfl⟩ := h
   obtain ⟨b0, q1, rfl⟩ := hm3 (by rw [ho]; rfl)
   have hok := hH.ok id'
   simp only [ObjOk, ho] at hok
   obtain ⟨b, g1, g2⟩ := hok
   rw [q1] at g1; injection g1 with g1; injection g1 with g1; injection g1 with g1; subst g1
   rcases g2 with ⟨g2, rfl, _⟩ | ⟨m, since, seen, es, g2, g3, g4, g5, g6, _⟩
   ·refine Eff.same hH (.tuple #[.bool false]) (hK.1 rfl) ?_ ⟨_, rfl, .bool false, _, rfl, rfl, rfl⟩
    simp only [Instr.next, getObj, Sem.run_bind, Sem.run, g2, Result.andThen]
    rfl
   ·have htest := next_test_false seen es since since g5.1 (Nat.le_refl _)
    have hfl : (es.filter fun e => !seen.contains e.born).toList = es.toList.filter fun e => !seen.contains e.born := by simp
    obtain ⟨l1, gp, g6⟩ := g6
    rw [<- hfl] at g6
    have hmem : ∀ x ∈ (es.filter fun e => !seen.contains e.born).toList, x.born < since := fun x hx => g5.1 x (by simp at hx ⊢; exact hx.1)
    have hlt0 : b0 < w.heap.size := by
     rcases Nat.lt_or_ge b0 w.heap.size with h | h
     ·exact h
     ·simp [Array.getElem?_eq_none h] at g2
    by_cases h0 : (es.filter fun e => !seen.contains e.born).size = 0
    ·have hL : (es.filter fun e => !seen.contains e.born) = #[] := Array.eq_empty_of_size_eq_zero h0
     rw [hL] at g6
     have hl1 : l1 = [] := by cases l1 with | nil => rfl | cons p l1 => obtain ⟨e, es', h, _⟩ := g6; simp at h
     have hl' : l' = [] := by rw [hl1] at gp; exact gp.symm.eq_nil
     refine Eff.same hH (.tuple #[.bool false]) (hK.1 hl') ?_ ⟨_, rfl, .bool false, _, rfl, rfl, rfl⟩
     simp only [Instr.next, getObj, Sem.run_bind, Sem.run, g2, g3, Result.andThen, htest, Bool.false_eq_true, if_false, hL]
     simp [choose, Sem.run, Question.forced]
    ·have hrun : ∃ (j : Nat) (e : MapEntry) (w1 : World), (es.filter fun e => !seen.contains e.born).toList[j]? = some e /\ (w1.os = w.os /\ w1.tape = w.tape /\ w1.output = w.output /\ w1.heap = w.heap) /\
      (Instr.next (.pointer (some ⟨b0, 0, none⟩)) false ty).run P w = .ok (.tuple #[.bool true, e.key, e.val]) { w1 with heap := w.heap.setIfInBounds b0 (.mapIter (some m) since (seen.push e.born) since) } := by
      simp only [Instr.next, getObj, Sem.run_bind, Sem.run, g2, g3, Result.andThen, htest, Bool.false_eq_true, if_false]
      generalize es.filter (fun e => !seen.contains e.born) = L at hmem h0 ⊢
      have e1 : L.filter (fun x => decide (x.born < since)) = L := Array.filter_eq_self.2 (fun x hx => by simpa using hmem x (by simpa using hx))
      have e2 : L.filter (fun x => decide (x.born ≥ since)) = #[] := by
       rw [Array.filter_eq_empty_iff]
       intro x hx
       have := hmem x (by simpa using hx)
       simp
       omega
      have hne : L.isEmpty = false := by simp [Array.isEmpty, h0]
      simp only [e1, e2, Array.append_empty, hne, Bool.false_eq_true, if_false, Array.empty_append, Array.size_map]
      have hch : ∃ (j : Nat) (w1 : World), j < L.size /\ (w1.os = w.os /\ w1.tape = w.tape /\ w1.output = w.output /\ w1.heap = w.heap) /\ (choose (Question.mapNext L.size)).run P w = .ok j w1 := by
       by_cases hf : L.size <= 1
       ·exact ⟨0, w, by omega, ⟨rfl, rfl, rfl, rfl⟩, by simp [choose, Sem.run, Question.forced, hf]⟩
       ·exact ⟨_, w.drew, Nat.mod_lt _ (by omega), ⟨rfl, rfl, rfl, rfl⟩, by
         simp only [choose, Sem.run, Question.forced, decide_eq_true_eq, hf, if_false, Question.cut]
         rfl⟩
      obtain ⟨j, w1, hj, hal, hrun⟩ := hch
      refine ⟨j, L[j], w1, by simp [hj], hal, ?_⟩
      have g2' : w1.heap[b0]? = some (.mapIter (some m) since seen since) := by rw [hal.2.2.2]; exact g2
      simp only [hrun, Array.getElem?_map, Array.getElem?_eq_getElem hj, Option.map_some, Sem.run_bind, setObj, Sem.run, g2', g2, Result.andThen, hal.2.2.2]
      rfl
     obtain ⟨j, e, w1, hje, hal, hrun⟩ := hrun
     obtain ⟨⟨k, x⟩, hp0, hp2, hp3⟩ := g6.get hje
     obtain ⟨j2, hj2, hp1⟩ := List.getElem_of_mem (gp.mem_iff.1 (List.mem_of_getElem? hp0))
     have hp1 : l'[j2]? = some (k, x) := by rw [List.getElem?_eq_getElem hj2, hp1]
     have gpe : (l1.eraseIdx j).Perm (l'.eraseIdx j2) := by
      have perm1 : ∀ {L : List (D × D)} {i : Nat} {n : D × D}, L[i]? = some n -> L.Perm (n :: L.eraseIdx i) := by
       intro L i n h
       obtain ⟨hi, e⟩ := List.getElem?_eq_some_iff.1 h
       have hsp : L = L.take i ++ n :: L.drop (i + 1) := by rw [<- e, List.getElem_cons_drop, List.take_append_drop]
       rw [List.eraseIdx_eq_take_drop_succ]
       conv => lhs; rw [hsp]
       exact List.perm_middle
      exact List.Perm.cons_inv (((perm1 hp0).symm.trans gp).trans (perm1 hp1))
     have hes : e ∈ es.toList := by
      have := List.mem_of_getElem? hje
      rw [hfl] at this
      exact (List.mem_filter.1 this).1
     obtain ⟨n1, n2⟩ := turn_it (w1 := w1) (y := .mapIter (some m) since (seen.push e.born) since) (obj' := .mit (l'.eraseIdx j2) (some (k, x))) hH hus ho rfl rfl rfl rfl rfl q1 g2 hal (fun ht => by
      unfold ObjOk
      simp only [put_one_o, upd_apply, if_true]
      obtain ⟨k1, k2⟩ := ht.blocks (M := M) m (.inr ⟨es, since, g3⟩) g4
      refine ⟨b0, q1, .inr ⟨m, since, seen.push e.born, es, ?_, k1.trans g3, k2, g5, ?_, fun k' x' hkx => ?_⟩⟩
      ·show (w.heap.setIfInBounds b0 _)[b0]? = _
       rw [Array.getElem?_setIfInBounds, if_pos rfl, if_pos hlt0]
      ·rw [hfl] at hje g6
       rw [filter_seen g5.2 seen hje]
       exact ⟨_, gpe, EntsDen.mono (ht.blocks (M := M)) _ _ g6.erase⟩
      ·injection hkx with hkx; injection hkx with h1 h2; subst h1; subst h2
       exact ⟨e, hes, by simp, D.den_mono (ht.blocks (M := M)) _ _ hp2, D.den_mono (ht.blocks (M := M)) _ _ hp3⟩)
     refine ⟨.value (.tuple #[.bool true, e.key, e.val]), _, _, φ, _, _, _, hK.2 j2 k x hp1, ?_, .inl rfl, n1, n2, ⟨_, rfl, .bool true, _, rfl, rfl, e.key, _, rfl, D.den_mono (n2.blocks (M := M)) _ _ hp2, e.val, _, rfl, D.den_mono (n2.blocks (M := M)) _ _ hp3, rfl⟩, fun j hj => .inl (by simp at hj; subst hj; exact hus)⟩
     simp only [Sem.run_bind, hrun, Result.andThen_ok, Sem.run_pure]
  ·cases h
 ·cases h
theorem eff_entry (hH : HeapOk M φ H w) {x : V} {xv : Value} (hx : V.den (mutB M φ H) φ H w x xv) (h : resK (entryF H.o x) K) :
 Eff M φ H w fr ((do let v <- Instr.entry xv; pure (Next.value v) : Sem Next).run P w) K := by
 have hg := resK_get h
 clear h
 obtain ⟨v, Δ, rd, h, hK⟩ := hg
 unfold entryF at h
 split at h
 ·rename_i id
  obtain ⟨_, hus, hm3⟩ := hx
  split at h
  ·rename_i l k x ho
   injection h with h; injection h with e1 e2; injection e2 with e2 e3; subst e1; subst e2; subst e3
   obtain ⟨b0, q1, rfl⟩ := hm3 (by rw [ho]; rfl)
   have hok := hH.ok id
   simp only [ObjOk, ho] at hok
   obtain ⟨b, g1, g2⟩ := hok
   rw [q1] at g1; injection g1 with g1; injection g1 with g1; injection g1 with g1; subst g1
   rcases g2 with ⟨_, _, g2⟩ | ⟨m, since, seen, es, g2, g3, g4, g5, g6, g7⟩
   ·cases g2
   ·obtain ⟨e, h1, h2, h3, h4⟩ := g7 k x rfl
    have hf : es.find? (·.born == e.born) = some e := by rw [<- Array.find?_toList]; exact find_born e es.toList g5.2 h1
    refine Eff.same hH (.tuple #[e.key, e.val]) hK ?_ ⟨_, rfl, e.key, _, rfl, h3, e.val, _, rfl, h4, rfl⟩
    simp only [Instr.entry, getObj, Sem.run_bind, Sem.run, g2, g3, Result.andThen, h2, bne_self_eq_false, Bool.false_eq_true, if_false, hf]
    rfl
  ·cases h
 ·cases h
theorem eff_mapUpdate (hH : HeapOk M φ H w) {t : TypeId} {m k v : V} {mv kv vv : Value} (hm : V.den (mutB M φ H) φ H w m mv) (hk : V.den (mutB M φ H) φ H w k kv) (hv : V.den (mutB M φ H) φ H w v vv)
 (h : resK (mapUpdF P H.o t m k v) K) : Eff M φ H w fr ((do Instr.mapUpdate t mv kv vv; pure Next.skip : Sem Next).run P w) K := by
 have hg := resK_get h
 clear h
 obtain ⟨v', Δ, rd, h, hK⟩ := hg
 unfold mapUpdF at h
 split at h
 ·rename_i kt vt kd vd id kt' vt' l ht hkd hvd hml
  rcases mapEs_spec hml with ⟨id2, kt2, vt2, rfl, ho, hr⟩ | ⟨rfl, hr, rfl⟩
  case inr => cases hr
  injection hr with hr; injection hr with e1 e2; injection e2 with e2 e3; subst e1; subst e2; subst e3
  split at h
  ·rename_i hc
   obtain ⟨c1, c2, c3, c4⟩ := hc
   have hkden : D.den (mutB M φ H) w kd kv := toD_den hH k kd kv (fun id hid => by rw [c1] at hid; cases hid) hkd hk
   have chk : ∀ em, (Instr.checkKey em 10000 kt kv).run P w = .ok () w := fun em => chkT_run em 100 kt kd c2 10000 (by decide) kv hkden
   have hmt := mapT_spec ht
   ·obtain ⟨hm1, hus, hm3⟩ := hm
    have hφ := hm3 (by rw [ho]; rfl)
    have hok := hH.ok id
    simp only [ObjOk, ho] at hok
    obtain ⟨b, es, clock, g1, g2, g0, g3⟩ := hok
    rw [<- hφ] at g1; subst g1
    have hget := MapKept.run_getObj_map (P := P) g2
    have hni : id ∉ v.ids := fun hm => by have := List.all_eq_true.1 c4 id hm; simp at this
    obtain ⟨f1, f2, f3, f4, f5⟩ := freezes hH v.ids (ids_used v _ hv)
    have ho1 := (f4 id hni).trans ho
    have hvden := toD_den f1 v vd vv f3 hvd (V.den_mono f2 _ _ hv)
    have hkden1 := D.den_mono (f2.blocks (M := M)) kd kv hkden
    have g3' := EntsDen.mono (f2.blocks (M := M)) l _ g3
    have fids : (frz H.o v.ids).map (·.1) = v.ids := by rw [frz_eq]; simp [Function.comp_def]
    have turn : ∀ (l' : List (D × D)) (es' : Array MapEntry) (clock' : Nat), MapOk es' clock' -> EntsDen (mutB M φ (H.put (frz H.o v.ids))) w l' es'.toList -> K (.tup []) (frz H.o v.ids ++ [(id, .map kt' vt' l')]) (id :: v.ids) ->
     (Instr.mapUpdate t (.map (some b)) kv vv).run P w = .ok () { w with heap := w.heap.setIfInBounds b (.map es' clock') } ->
     Eff M φ H w fr ((do Instr.mapUpdate t (.map (some b)) kv vv; pure Next.skip : Sem Next).run P w) K := by
     intro l' es' clock' hl0 hl hK hr
     have hkp : Keep (· = b) w { w with heap := w.heap.setIfInBounds b (.map es' clock') } :=
      ⟨rfl, rfl, rfl, by simp, fun j _ hj => (MapKept.heap_set g2).2 j hj⟩
     have hl1 : ((H.put (frz H.o v.ids)).o id).live = true := by rw [ho1]; rfl
     have hb1 : blk (φ id) = some b := by rw [<- hφ]; rfl
     have ht1 := trans_turn (w := w) (w' := { w with heap := w.heap.setIfInBounds b (.map es' clock') }) ((f5 id).2 hus) hl1 hb1 hkp (.map kt' vt' l') (by rw [ho1]; rfl) (by rw [ho1]; rfl)
     refine ⟨.skip, undef, _, φ, _, _, _, hK, by simp only [Sem.run_bind, hr, Result.andThen_ok]; rfl, .inr ⟨rfl, rfl⟩, ?_, ?_, ?_, fun j hj => .inl ?_⟩
     ·rw [put_append]
      refine heap_turn f1 ((f5 id).2 hus) hl1 hb1 hkp _ (by rw [ho1]; rfl) (by rw [ho1]; rfl) ?_
      unfold ObjOk
      simp only [put_one_o, upd_apply, if_true]
      exact ⟨b, es', clock', hφ.symm, (MapKept.heap_set g2).1, hl0, EntsDen.mono (ht1.blocks (M := M)) l' _ hl⟩
     ·rw [put_append]; exact f2.trans ht1
     ·exact ⟨#[], rfl, rfl⟩
     ·rw [List.map_append, fids] at hj
      simp only [List.map_cons, List.map_nil, List.mem_append, List.mem_singleton] at hj
      rcases hj with hj | rfl
      ·exact ids_used v _ hv j hj
      ·exact hus
    split at h
    ·rename_i i k' x hf
     split at h
     ·rename_i hsame
      injection h with h; injection h with e1 e2; injection e2 with e2 e3; subst e1; subst e2; subst e3
      have hke := D.same_eq _ _ hsame
      subst hke
      obtain ⟨r', q1, q2⟩ := findKey_run hkden c2 g3 hf
      cases r' with
      | none => exact q2.elim
      | some p =>
        obtain ⟨j', u⟩ := p
        obtain ⟨rfl, _, hxu, e, h4, h5, h6⟩ := q2
        rw [Nat.sub_zero] at h4
        have hkv := plainD_one c3 h6 hkden
        have h4' : es[i]? = some e := by simpa using h4
        refine turn _ (es.modify i fun e => { e with key := kv, val := vv }) clock (mapOk_modify g0 h4 rfl) ?_ hK ?_
        ·rw [getElem?_modify_same _ h4]
         exact EntsDen.set g3' hkden1 hvden
        ·have hs := run_stays (P := P) (w' := w) c3 hkden
         simp only [Instr.mapUpdate, Sem.run_bind, run_underlying hmt, Result.andThen_ok, hget, chk, q1, h4', Option.map_some, Option.getD_some, hkv, hs]
         exact MapKept.run_setObj_map _ g2
     ·cases h
    ·rename_i hf
     injection h with h; injection h with e1 e2; injection e2 with e2 e3; subst e1; subst e2; subst e3
     obtain ⟨r', q1, q2⟩ := findKey_run hkden c2 g3 hf
     cases r' with
     | some p => exact q2.elim
     | none =>
       refine turn _ (es.push { key := kv, val := vv, born := clock }) (clock + 1) (mapOk_push g0 rfl) ?_ hK ?_
       ·rw [Array.toList_push]
        exact EntsDen.push g3' hkden1 hvden
       ·simp only [Instr.mapUpdate, Sem.run_bind, run_underlying hmt, Result.andThen_ok, hget, chk, q1]
        exact MapKept.run_setObj_map _ g2
    ·cases h
  ·cases h
 ·cases h
end
end Go.Proofs.YtealblliddhgiaaGreat
namespace Go.Proofs.YtealblliddhgiaaGreat
section
variable {P : Program} (w : World) (d : Nat) {t : TypeId}
theorem e_if1 {ms} (ht : P.underlying t = some (.interface ms)) : (Op.equalIn (d + 1) t .nilIface .nilIface).run P w = .ok true w := by simp [Op.equalIn, run_underlying ht]
theorem e_if2 {ms} (ht : P.underlying t = some (.interface ms)) (u : TypeId) (v : Value) : (Op.equalIn (d + 1) t (.iface u v) .nilIface).run P w = .ok false w := by simp [Op.equalIn, run_underlying ht]
theorem e_if3 {ms} (ht : P.underlying t = some (.interface ms)) (u : TypeId) (v : Value) : (Op.equalIn (d + 1) t .nilIface (.iface u v)).run P w = .ok false w := by simp [Op.equalIn, run_underlying ht]
theorem e_fn1 {a b c} (ht : P.underlying t = some (.func a b c)) : (Op.equalIn (d + 1) t .nilFunc .nilFunc).run P w = .ok true w := by simp [Op.equalIn, run_underlying ht]
theorem e_fn2 {a b c} (ht : P.underlying t = some (.func a b c)) (f x y) : (Op.equalIn (d + 1) t (.func f x y) .nilFunc).run P w = .ok false w := by simp [Op.equalIn, run_underlying ht]
theorem e_mp1 {a b} (ht : P.underlying t = some (.map a b)) : (Op.equalIn (d + 1) t (.map none) (.map none)).run P w = .ok true w := by simp [Op.equalIn, run_underlying ht]
theorem e_mp2 {a b} (ht : P.underlying t = some (.map a b)) (x) : (Op.equalIn (d + 1) t (.map (some x)) (.map none)).run P w = .ok false w := by simp [Op.equalIn, run_underlying ht]
theorem e_pt1 {e} (ht : P.underlying t = some (.pointer e)) : (Op.equalIn (d + 1) t (.pointer none) (.pointer none)).run P w = .ok true w := by simp [Op.equalIn, run_underlying ht]
theorem e_pt2 {e} (ht : P.underlying t = some (.pointer e)) (a) : (Op.equalIn (d + 1) t (.pointer (some a)) (.pointer none)).run P w = .ok false w := by simp [Op.equalIn, run_underlying ht]
theorem e_sl {e} (ht : P.underlying t = some (.slice e)) (b n c) : (Op.equalIn (d + 1) t (.slice b n c) (.slice none 0 0)).run P w = .ok b.isNone w := by cases b <;> simp [Op.equalIn, run_underlying ht]
end
section
variable {P : Program} {M : Nat -> Prop} {φ : Place} {H : Hp} {w w' : World} {fr : Nat} {K : V -> List (Nat × Obj') -> List Nat -> Prop} {B : Nat -> Prop}
theorem listV_base (hH : HeapOk M φ H w) {x : V} {xv : Value} {es : List D} (h : listV H.o x = some es) (hx : V.den (mutB M φ H) φ H w x xv) : ∃ base n c, xv = .slice base n c /\ (es ≠ [] -> base ≠ none) := by
 have hd : ∃ x', toD H.o x = some x' /\ x' = .sl es := by
  unfold listV at h
  split at h
  ·rename_i es' hd; injection h with h; subst h; exact ⟨_, hd, rfl⟩
  ·cases h
 obtain ⟨x', hd, rfl⟩ := hd
 obtain ⟨f1, f2, f3, f4, f5⟩ := freezes hH x.ids (ids_used x _ hx)
 have := toD_den f1 x (.sl es) xv f3 hd (V.den_mono f2 _ _ hx)
 obtain ⟨base, len, cap, rfl, h1, h2, h3, _⟩ := this
 refine ⟨base, len, cap, rfl, fun hne hb => ?_⟩
 have := h3 hb
 have : es.length = 0 := by omega
 exact hne (List.length_eq_zero_iff.1 this)
def wideV : Value -> Bool
 | .int _ _ | .float _ _ | .complex _ _ _ | .string _ => false
 | _ => true
theorem eqV_run (hH : HeapOk M φ H w) {t : TypeId} {p q : Operand} {x y v : V} {xv yv : Value} (hx : V.den (mutB M φ H) φ H w x xv) (hy : V.den (mutB M φ H) φ H w y yv) (h : eqV P H.o t (isConst p || isConst q) x y = some v) :
 ∃ r : Bool, (v = .d (.bool r) \/ v = .anyb) /\ wideV xv = true /\ (∀ op, (eqGuard op t p q xv yv).run P w = .ok () w) /\ (Op.equal t xv yv).run P w = .ok r w := by
 have plainG : (∀ a b, ¬ (xv = .agg a /\ yv = .agg b)) -> ¬ (xv = .nilIface /\ yv = .nilIface) -> ∀ op, (eqGuard op t p q xv yv).run P w = .ok () w := by
  intro h1 h2 op
  unfold eqGuard
  cases op <;> cases xv <;> cases yv <;> first
   | (simp; done)
   | (exact absurd ⟨rfl, rfl⟩ (h1 _ _))
   | (exact absurd ⟨rfl, rfl⟩ h2)
 unfold eqV at h
 cases ht : P.underlying t with
 | none => simp [ht] at h
 | some td =>
   simp only [ht] at h
   have eq : ∀ r, (∀ d, (Op.equalIn (d + 1) t xv yv).run P w = .ok r w) -> (Op.equal t xv yv).run P w = .ok r w := fun r h => h 9999
   cases td <;> simp only [reduceCtorEq] at h
   case interface ms =>
    split at h
    ·split at h
     ·rename_i hc
      injection h with h; subst h
      simp only [V.den, D.den] at hx hy; subst hx; subst hy
      refine ⟨true, .inl rfl, rfl, fun op => ?_, eq _ (fun d => by rw [e_if1 w d ht])⟩
      simp only [Bool.or_eq_true] at hc
      unfold eqGuard
      rcases hc with hc | hc
      ·cases p <;> simp only [isConst, Bool.false_eq_true] at hc
       cases op <;> simp
      ·cases q <;> simp only [isConst, Bool.false_eq_true] at hc
       cases op <;> simp
     ·cases h
    ·injection h with h; subst h
     obtain ⟨u, rfl, _⟩ := hx
     simp only [V.den, D.den] at hy; subst hy
     exact ⟨false, .inl rfl, rfl, plainG (fun _ _ h => by cases h.1) (by rintro ⟨h1, h2⟩; first | (cases h1; done) | (cases h2; done)), eq _ (fun d => by rw [e_if2 w d ht])⟩
    ·injection h with h; subst h
     obtain ⟨u, rfl, _⟩ := hx
     simp only [V.den, D.den] at hy; subst hy
     exact ⟨false, .inl rfl, rfl, plainG (fun _ _ h => by cases h.1) (by rintro ⟨h1, h2⟩; first | (cases h1; done) | (cases h2; done)), eq _ (fun d => by rw [e_if2 w d ht])⟩
    ·injection h with h; subst h
     obtain ⟨u, rfl, _⟩ := hy
     simp only [V.den, D.den] at hx; subst hx
     exact ⟨false, .inl rfl, rfl, plainG (fun _ _ h => by cases h.1) (by rintro ⟨h1, h2⟩; first | (cases h1; done) | (cases h2; done)), eq _ (fun d => by rw [e_if3 w d ht])⟩
    ·injection h with h; subst h
     obtain ⟨u, rfl, _⟩ := hy
     simp only [V.den, D.den] at hx; subst hx
     exact ⟨false, .inl rfl, rfl, plainG (fun _ _ h => by cases h.1) (by rintro ⟨h1, h2⟩; first | (cases h1; done) | (cases h2; done)), eq _ (fun d => by rw [e_if3 w d ht])⟩
    ·cases h
   case func a b c =>
    split at h
    ·injection h with h; subst h
     simp only [V.den, D.den] at hx hy; subst hx; subst hy
     exact ⟨true, .inl rfl, rfl, plainG (fun _ _ h => by cases h.1) (by rintro ⟨h1, h2⟩; first | (cases h1; done) | (cases h2; done)), eq _ (fun d => by rw [e_fn1 w d ht])⟩
    ·injection h with h; subst h
     obtain ⟨f, c', rfl, _⟩ := hx
     simp only [V.den, D.den] at hy; subst hy
     exact ⟨false, .inl rfl, rfl, plainG (fun _ _ h => by cases h.1) (by rintro ⟨h1, h2⟩; first | (cases h1; done) | (cases h2; done)), eq _ (fun d => by rw [e_fn2 w d ht])⟩
    ·cases h
   case map a b =>
    split at h
    ·simp only [V.den, D.den] at hy; subst hy
     unfold mapNil at h
     split at h
     ·injection h with h; subst h
      simp only [V.den, D.den] at hx; subst hx
      exact ⟨true, .inl rfl, rfl, plainG (fun _ _ h => by cases h.1) (by rintro ⟨h1, h2⟩; first | (cases h1; done) | (cases h2; done)), eq _ (fun d => by rw [e_mp1 w d ht])⟩
     ·injection h with h; subst h
      obtain ⟨bk, es, clock, _, rfl, _⟩ := hx
      exact ⟨false, .inl rfl, rfl, plainG (fun _ _ h => by cases h.1) (by rintro ⟨h1, h2⟩; first | (cases h1; done) | (cases h2; done)), eq _ (fun d => by rw [e_mp2 w d ht])⟩
     ·rename_i id
      split at h
      ·rename_i ho
       injection h with h; subst h
       obtain ⟨_, _, h3⟩ := hx
       have hφ := h3 (by rw [ho]; rfl)
       have hok := hH.ok id
       simp only [ObjOk, ho] at hok
       obtain ⟨bk, es, clock, g1, _⟩ := hok
       rw [<- hφ] at g1; subst g1
       exact ⟨false, .inl rfl, rfl, plainG (fun _ _ h => by cases h.1) (by rintro ⟨h1, h2⟩; first | (cases h1; done) | (cases h2; done)), eq _ (fun d => by rw [e_mp2 w d ht])⟩
      ·rename_i ho
       injection h with h; subst h
       obtain ⟨_, _, h3⟩ := hx
       have hφ := h3 (by rw [ho]; rfl)
       have hok := hH.ok id
       simp only [ObjOk, ho] at hok
       obtain ⟨bk, es, clock, _, g1, _⟩ := hok
       rw [<- hφ] at g1; subst g1
       exact ⟨false, .inl rfl, rfl, plainG (fun _ _ h => by cases h.1) (by rintro ⟨h1, h2⟩; first | (cases h1; done) | (cases h2; done)), eq _ (fun d => by rw [e_mp2 w d ht])⟩
      ·cases h
     ·cases h
    ·cases h
   case pointer e =>
    split at h
    ·simp only [V.den, D.den] at hy; subst hy
     unfold ptrNil at h
     split at h
     ·injection h with h; subst h
      simp only [V.den, D.den] at hx; subst hx
      exact ⟨true, .inl rfl, rfl, plainG (fun _ _ h => by cases h.1) (by rintro ⟨h1, h2⟩; first | (cases h1; done) | (cases h2; done)), eq _ (fun d => by rw [e_pt1 w d ht])⟩
     ·split at h
      ·rename_i hr
       injection h with h; subst h
       obtain ⟨_, _, h3⟩ := hx
       obtain ⟨bk, _, rfl⟩ := h3 hr
       exact ⟨false, .inl rfl, rfl, plainG (fun _ _ h => by cases h.1) (by rintro ⟨h1, h2⟩; first | (cases h1; done) | (cases h2; done)), eq _ (fun d => by rw [e_pt2 w d ht])⟩
      ·cases h
     ·injection h with h; subst h
      obtain ⟨a, ev, _, rfl, _⟩ := hx
      exact ⟨false, .inl rfl, rfl, plainG (fun _ _ h => by cases h.1) (by rintro ⟨h1, h2⟩; first | (cases h1; done) | (cases h2; done)), eq _ (fun d => by rw [e_pt2 w d ht])⟩
     ·cases h
    ·cases h
   case slice e =>
    split at h
    ·simp only [V.den] at hy; subst hy
     unfold nilF at h
     split at h
     ·injection h with h; subst h
      simp only [V.den] at hx; subst hx
      exact ⟨true, .inl rfl, rfl, plainG (fun _ _ h => by cases h.1) (by rintro ⟨h1, h2⟩; first | (cases h1; done) | (cases h2; done)), eq _ (fun d => by rw [e_sl w d ht]; rfl)⟩
     ·split at h
      ·rename_i es hl
       obtain ⟨base, n, c, rfl, hb⟩ := listV_base hH hl hx
       refine ⟨base.isNone, ?_, rfl, plainG (fun _ _ h => by cases h.1) (by rintro ⟨h1, h2⟩; first | (cases h1; done) | (cases h2; done)), eq _ ?_⟩
       ·split at h
        ·injection h with h; exact .inr h.symm
        ·rename_i hne
         injection h with h
         have := hb hne
         cases base with
         | none => exact absurd rfl this
         | some a => exact .inl h.symm
       ·intro d
        rw [e_sl w d ht]
      ·cases h
    ·cases h
   case struct fs =>
    split at h
    ·split at h
     ·rename_i hg
      simp only [Option.map_eq_some_iff] at h
      obtain ⟨r, h1, rfl⟩ := h
      obtain ⟨g1, g2⟩ := eqT_at h1 hg (mutB M φ H) w xv yv hx hy
      exact ⟨r, .inl rfl, by obtain ⟨_, rfl, _⟩ := hx; rfl, fun op => g2 op p q, g1⟩
     ·cases h
    ·cases h
   case array n e =>
    split at h
    ·split at h
     ·rename_i hg
      simp only [Option.map_eq_some_iff] at h
      obtain ⟨r, h1, rfl⟩ := h
      obtain ⟨g1, g2⟩ := eqT_at h1 hg (mutB M φ H) w xv yv hx hy
      exact ⟨r, .inl rfl, by obtain ⟨_, rfl, _⟩ := hx; rfl, fun op => g2 op p q, g1⟩
     ·cases h
    ·cases h
theorem eff_cmp (hH : HeapOk M φ H w) {op : BinOp} {t : TypeId} {p q : Operand} {x y : V} {xv yv : Value} (hx : V.den (mutB M φ H) φ H w x xv) (hy : V.den (mutB M φ H) φ H w y yv)
 (h : resK (cmpF P H.o op t (isConst p || isConst q) x y) K) :
 Eff M φ H w fr ((do let y <- (do eqGuard op t p q xv yv; binOp op t xv yv); pure (Next.value y) : Sem Next).run P w) K := by
 have hg := resK_get h
 clear h
 obtain ⟨v, Δ, rd, h, hK⟩ := hg
 unfold cmpF at h
 split at h
 ·simp only [Option.map_eq_some_iff] at h
  obtain ⟨u, h1, h2⟩ := h
  injection h2 with e1 e2; injection e2 with e2 e3; subst e1; subst e2; subst e3
  obtain ⟨r, hv, hwd, hgd, he⟩ := eqV_run (p := p) (q := q) hH hx hy h1
  refine Eff.plain hH (.bool r) hK ?_ ?_
  ·have hb : (binOp .eql t xv yv).run P w = .ok (.bool r) w := by
    unfold binOp
    cases xv <;> first | (simp [wideV] at hwd; done) | (cases yv <;> simp [he])
   simp [hgd, hb]
  ·rcases hv with rfl | rfl
   ·rfl
   ·exact ⟨r, rfl⟩
 ·simp only [Option.map_eq_some_iff, Option.bind_eq_some_iff] at h
  obtain ⟨u', ⟨u, h1, h3⟩, h2⟩ := h
  injection h2 with e1 e2; injection e2 with e2 e3; subst e1; subst e2; subst e3
  obtain ⟨r, hv, hwd, hgd, he⟩ := eqV_run (p := p) (q := q) hH hx hy h1
  refine Eff.plain hH (.bool !r) hK ?_ ?_
  ·have hb : (binOp .neq t xv yv).run P w = .ok (.bool !r) w := by
    unfold binOp
    cases xv <;> first | (simp [wideV] at hwd; done) | (cases yv <;> simp [he])
   simp [hgd, hb]
  ·rcases hv with rfl | rfl
   ·simp only [notV, Option.some.injEq] at h3; subst h3; rfl
   ·simp only [notV, Option.some.injEq] at h3; subst h3; exact ⟨!r, rfl⟩
 ·cases h
end
end Go.Proofs.YtealblliddhgiaaGreat
