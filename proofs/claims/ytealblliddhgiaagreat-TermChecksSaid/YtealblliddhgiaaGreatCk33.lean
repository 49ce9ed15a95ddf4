/-
  A PART OF THE PROOF (put together by program): several texts, one behind the other. Conditions: none.
-/
import Derived.Shelf.Sort.Plain
import Derived.Shelf.Slices.In.SortNone
import Derived.Test.YtealblliddhgiaaGreatCk32
set_option linter.unusedSimpArgs false
set_option linter.unusedVariables false
namespace Go.Proofs.YtealblliddhgiaaGreat
mutual

def fvB (v : Int) : Tm → Bool
  | .mk op n kids => if op = 1 then n == v else fvsB v op n kids 0
def fvsB (v op n : Int) : List Tm → Nat → Bool
  | [], _ => false
  | k :: l, i => (fvB v k && !(op == 8 && i == 1 && n == v)) || fvsB v op n l (i + 1)
end
theorem fvB_eq (v : Int) (t : Tm) : fvB v t = if t.op = 1 then t.n == v else fvsB v t.op t.n t.kids 0 := by cases t; rfl
@[reducible] def setO (l : List Int) : Obj' := .map 3 4 (enc (D.int .i64) (setI l))
def SetK (id : Nat) (Q : List Int → Prop) (o : Nat → Obj') (nx : Nat) (K : V → (Nat → Obj') → Nat → Prop) : Prop :=
  ∀ o' nx' l', nx ≤ nx' → Good o' nx' → (∀ j, j < nx → j ≠ id → o' j = o j) → o' id = setO l' → Q l' → K (.tup []) o' nx'
theorem copy_c {b nx id it n0 : Nat} {Q : Xit → S → Prop} {e : Nat → V} {o : Nat → Obj'} {ks n k : D} (own s : List Int) (hg : Good o nx) (hid : o id = setO s) (hit : o it = .mit (enc (D.int .i64) (setI own)) none) (hb : b ≤ nx) (hs : s.Nodup) (hn0 : n0 < nx)
    (he : backE nx e [.mp id, .junk, .junk, .ptr n0 0, .junk, .junk, .junk, .junk, .junk, .junk, .junk, .junk, .junk, .junk, .junk, .d ks, .d n, .d k, .junk, .junk, .junk, .junk, .junk, .junk, .junk, .junk, .junk, .junk, .junk, .junk, .junk, .junk, .junk, .junk, .junk, .junk, .junk, .ptr it 0] 0)
    (hQ : ∀ e' o' nx' s', e' 0 = .mp id → e' 3 = .ptr n0 0 → e' 15 = .d ks → e' 16 = .d n → e' 17 = .d k → nx ≤ nx' → Good o' nx' → (∀ j, j < nx → j ≠ id → j ≠ it → o' j = o j) → o' id = setO s' → s'.Nodup → (∀ v, v ∈ s' ↔ v ∈ s ∨ v ∈ own) → Q (.exit 2) ⟨e', o', nx'⟩) :
    loopS b (fun Q s => evW Tryz.prog 45 b false (.seq (.reg [⟨some 38, .next (.tmp 37) false, none⟩, ⟨some 39, .extract (.tmp 38) 0, none⟩]) (.seq (.cond (.tmp 39) .skip (.exit 2)) (.block 3 (.seq (.reg [⟨some 40, .entry (.tmp 37), none⟩, ⟨some 41, .extract (.tmp 40) 0, none⟩, ⟨some 7, .assign (.tmp 41), none⟩]) (.reg [⟨some 42, .move (.tmp 0), none⟩, ⟨some 43, .move (.tmp 7), none⟩, ⟨none, .mapUpdate 93 (.tmp 42) (.tmp 43) (.const (.bool true)), none⟩]))))) Q s) Q ⟨e, o, nx⟩ := by
  have h1 : id < nx := hg.lt (by rw [hid]; exact Obj'.noConfusion)
  have h2 : it < nx := hg.lt (by rw [hit]; exact Obj'.noConfusion)
  have h3 : id ≠ it := fun h => by rw [h, hit] at hid; cases hid
  have h4 : it ≠ id := fun h => h3 h.symm
  refine loop_fam (fun i : List Int × List Int × Option (D × D) => ⟨envJ [.mp id, .junk, .junk, .ptr n0 0, .junk, .junk, .junk, .junk, .junk, .junk, .junk, .junk, .junk, .junk, .junk, .d ks, .d n, .d k, .junk, .junk, .junk, .junk, .junk, .junk, .junk, .junk, .junk, .junk, .junk, .junk, .junk, .junk, .junk, .junk, .junk, .junk, .junk, .ptr it 0], upd (upd o id (setO i.2.1)) it (.mit (enc (D.int .i64) (setI i.1)) i.2.2), nx⟩)
    (fun i => i.2.1.Nodup ∧ ∀ v, (v ∈ i.2.1 ∨ v ∈ i.1) ↔ (v ∈ s ∨ v ∈ own)) (fun i => i.1.length) (own, s, none) ⟨hs, fun _ => Iff.rfl⟩ ?_ ?_
  · dsimp only
    refine SLe.backL _ hb (Nat.le_refl _) ?_ (fun j hj => ?_) he
    · exact (by repeat (first | exact hg.mono (by omega) | exact Good.nil | refine Good.upd ?_ (by omega) rfl | refine Good.upd ?_ (by omega) (hLr _ _ _ (by omega)) | refine Good.upd ?_ (by omega) (by simp [Obj'.refs, V.refss, V.refs] <;> omega)))
    · by_cases e1 : j = it
      · subst e1; rw [upd_same]; exact hit
      · rw [upd_ne _ _ _ _ e1]
        by_cases e2 : j = id
        · subst e2; rw [upd_same]; exact hid
        · rw [upd_ne _ _ _ _ e2]
  rintro ⟨rest, s', last⟩ ⟨hs', hv⟩
  simp only at hs' hv
  simp +contextual (disch := first | omega | (simp only [go_sem, false_implies]; done) | fail) only [go_sem, wrap64, if_pos, h3, h4]
  refine nextC_set (fun hr => ?_) fun i m hm => ?_
  · subst hr
    simp +contextual (disch := first | omega | (simp only [go_sem, false_implies]; done) | fail) only [go_sem, wrap64, if_pos, and_self]
    refine hQ _ _ _ s' ?_ ?_ ?_ ?_ ?_ ?_ ?_ (fun j g1 g2 g3 => ?_) ?_ hs' (fun v => ?_)
    · rfl
    · rfl
    · rfl
    · rfl
    · rfl
    · omega
    · exact (by repeat (first | exact hg.mono (by omega) | exact Good.nil | refine Good.upd ?_ (by omega) rfl | refine Good.upd ?_ (by omega) (hLr _ _ _ (by omega)) | refine Good.upd ?_ (by omega) (by simp [Obj'.refs, V.refss, V.refs] <;> omega)))
    · (repeat (first | rfl | rw [upd_same] | rw [upd_ne _ _ _ _ (by omega)]))
    · (repeat (first | rfl | rw [upd_same] | rw [upd_ne _ _ _ _ (by omega)]))
    · have := hv v
      simpa using this
  · simp +contextual (disch := first | omega | (simp only [go_sem, false_implies]; done) | fail) only [go_sem, wrap64, if_pos, h3, h4]
    obtain ⟨r1, r2⟩ := erase_spec hm
    refine nextS_intro (rest.eraseIdx i, insI s' m, some (.int .i64 m, .bool true)) ⟨nodup_insI _ hs', fun v => ?_⟩ ?_ ?_
    · dsimp only
      rw [mem_insI, ← hv v, r1 v]
      constructor
      · rintro ((h | h) | h)
        · exact .inl h
        · exact .inr (.inl h)
        · exact .inr (.inr h)
      · rintro (h | h | h)
        · exact .inl (.inl h)
        · exact .inl (.inr h)
        · exact .inr h
    · dsimp only; omega
    · dsimp only
      refine SLe.backL _ hb (by omega) ?_ (fun j hj => ?_) ?_
      · exact (by repeat (first | exact hg.mono (by omega) | exact Good.nil | refine Good.upd ?_ (by omega) rfl | refine Good.upd ?_ (by omega) (hLr _ _ _ (by omega)) | refine Good.upd ?_ (by omega) (by simp [Obj'.refs, V.refss, V.refs] <;> omega)))
      · by_cases e1 : j = it
        · subst e1; (repeat (first | rfl | rw [upd_same] | rw [upd_ne _ _ _ _ (by omega)]))
        · by_cases e2 : j = id
          · subst e2; (repeat (first | rfl | rw [upd_same] | rw [upd_ne _ _ _ _ (by omega)]))
          · (repeat (first | rfl | rw [upd_same] | rw [upd_ne _ _ _ _ (by omega)]))
      · (repeat (first | exact backE_nil | refine backE_junk ?_ | refine backE_d rfl ?_ | refine backE_d (d_int (wrapN (by omega))) ?_ | refine backE_v rfl (by simp [V.refs, V.refss] <;> first | omega | assumption) ?_))
theorem free_c : ∀ t : Tm, t.fits → ∀ (o : Nat → Obj') (nx id : Nat) (l : List Int), Good o nx → o id = setO l → l.Nodup → ∀ K X, SetK id (fun l' => l'.Nodup ∧ ∀ n, n ∈ l' ↔ n ∈ l ∨ fvB n t = true) o nx K → CtK Tryz.prog 107 [.mp id, .d t.d] o nx K X := by
  refine Tm.ind' fun t ih hf o nx id l hg ho hl K X hK => ?_
  have hf' := (Tm.fits_iff _).1 hf
  have hid : id < nx := hg.lt (by rw [ho]; exact Obj'.noConfusion)
  refine CtK.of_ev mix fn107 (by simp) ?_
  rw [c107]
  have y1 : id ≠ nx := by omega
  have y2 : ∀ k, id ≠ nx + k := fun k => by omega
  by_cases h1 : t.op = 1
  · simp +contextual (disch := first | omega | (simp only [go_sem, false_implies]; done) | fail) only [go_sem, wrap64, if_pos, ho, y1, y2, Nat.add_assoc, Nat.left_eq_add, Nat.add_eq_left, Nat.add_left_cancel_iff, h1]
    refine hK _ _ (insI l t.n) ?_ ?_ (fun j hj hne => ?_) ?_ ⟨nodup_insI _ hl, fun n => ?_⟩
    · omega
    · exact (by repeat (first | exact hg.mono (by omega) | exact Good.nil | refine Good.upd ?_ (by omega) rfl | refine Good.upd ?_ (by omega) (hLr _ _ _ (by omega)) | refine Good.upd ?_ (by omega) (by simp [Obj'.refs, V.refss, V.refs] <;> omega)))
    · (repeat (first | rfl | rw [upd_same] | rw [upd_ne _ _ _ _ (by omega)]))
    · (repeat (first | rfl | rw [upd_same] | rw [upd_ne _ _ _ _ (by omega)]))
    · rw [mem_insI, fvB_eq, if_pos h1]
      rw [beq_iff_eq, @eq_comm _ t.n n]
  · have h1' : (t.op == 1) = false := by simpa using h1
    simp +contextual (disch := first | omega | (simp only [go_sem, false_implies]; done) | fail) only [go_sem, wrap64, if_pos, ho, y1, y2, Nat.add_assoc, Nat.left_eq_add, Nat.add_eq_left, Nat.add_left_cancel_iff, h1']
    refine loop_fam (fun i : Nat × List Int × (Nat → Obj') × Nat => ⟨envJ [.mp id, .junk, .junk, .ptr nx 0, .junk, .junk, .junk, .junk, .junk, .junk, .junk, .junk, .junk, .junk, .junk, .d (.sl (t.kids.map Tm.d)), .d (.i t.kids.length), .d (.i i.1)], i.2.2.1, i.2.2.2⟩)
      (fun i => i.1 ≤ t.kids.length ∧ i.2.1.Nodup ∧ Good i.2.2.1 i.2.2.2 ∧ nx + 1 ≤ i.2.2.2 ∧ (∀ j, j < nx → j ≠ id → i.2.2.1 j = o j) ∧ i.2.2.1 nx = .row t.row ∧ i.2.2.1 id = setO i.2.1 ∧ ∀ v, (v ∈ i.2.1 ∨ fvsB v t.op t.n (t.kids.drop i.1) i.1 = true) ↔ (v ∈ l ∨ fvB v t = true)) (fun i => t.kids.length - i.1) (0, l, upd o nx (.row t.row), nx + 8)
      ⟨Nat.zero_le _, hl, by dsimp only; exact (by repeat (first | exact hg.mono (by omega) | exact Good.nil | refine Good.upd ?_ (by omega) rfl | refine Good.upd ?_ (by omega) (hLr _ _ _ (by omega)) | refine Good.upd ?_ (by omega) (by simp [Obj'.refs, V.refss, V.refs] <;> omega))), by dsimp only; omega, fun j hj hne => by dsimp only; (repeat (first | rfl | rw [upd_same] | rw [upd_ne _ _ _ _ (by omega)])), by dsimp only; (repeat (first | rfl | rw [upd_same] | rw [upd_ne _ _ _ _ (by omega)])), by dsimp only; (repeat (first | rfl | rw [upd_same] | rw [upd_ne _ _ _ _ (by omega)])); exact ho, fun v => by simp only [List.drop_zero]; rw [fvB_eq v t, if_neg h1]⟩ ?_ ?_
    · dsimp only
      refine SLe.backL _ (by omega) (by omega) (by repeat (first | exact hg.mono (by omega) | exact Good.nil | refine Good.upd ?_ (by omega) rfl | refine Good.upd ?_ (by omega) (hLr _ _ _ (by omega)) | refine Good.upd ?_ (by omega) (by simp [Obj'.refs, V.refss, V.refs] <;> omega))) (fun _ _ => rfl) ?_
      (repeat (first | exact backE_nil | refine backE_junk ?_ | refine backE_d rfl ?_ | refine backE_d (d_int (wrapN (by omega))) ?_ | refine backE_v rfl (by simp [V.refs, V.refss] <;> first | omega | assumption) ?_))
    rintro ⟨k, l', o', nx'⟩ ⟨hk, hn', hg', hnx, hold, hrow, hset, hv⟩
    simp only at hk hn' hg' hnx hold hrow hset hv
    have z1 : id ≠ nx' := by omega
    have z2 : ∀ k, id ≠ nx' + k := fun k => by omega
    have z3 : nx ≠ nx' := by omega
    have z4 : ∀ k, nx ≠ nx' + k := fun k => by omega
    simp +contextual (disch := first | omega | (simp only [go_sem, false_implies]; done) | fail) only [go_sem, wrap64, if_pos, hset, hrow, z1, z2, z3, z4, Nat.add_assoc, Nat.left_eq_add, Nat.add_eq_left, Nat.add_left_cancel_iff]
    refine cond_intro (fun h2 => ?_) (fun h2 => ?_)
    · simp at h2
      obtain ⟨x, hx⟩ := get_of_lt h2
      have hxm := List.mem_of_getElem? hx
      simp +contextual (disch := first | omega | (simp only [go_sem, false_implies]; done) | fail) only [go_sem, wrap64, if_pos, hset, hrow, z1, z2, z3, z4, Nat.add_assoc, Nat.left_eq_add, Nat.add_eq_left, Nat.add_left_cancel_iff, hx]
      refine call_heap (ih x hxm (hf'.2 x hxm) _ _ (nx' + 7) [] ?_ ?_ List.nodup_nil _ _ fun o2 n2 own m1 m2 m3 m4 m5 => ?_)
      · have hg := hg'
        exact (by repeat (first | exact hg.mono (by omega) | exact Good.nil | refine Good.upd ?_ (by omega) rfl | refine Good.upd ?_ (by omega) (hLr _ _ _ (by omega)) | refine Good.upd ?_ (by omega) (by simp [Obj'.refs, V.refss, V.refs] <;> omega)))
      · (repeat (first | rfl | rw [upd_same] | rw [upd_ne _ _ _ _ (by omega)]))
      have p0 : o2 nx = .row t.row := by rw [m3 nx (by omega) (by omega)]; (repeat (first | rfl | rw [upd_same] | rw [upd_ne _ _ _ _ (by omega)])); exact hrow
      have p1 : o2 id = setO l' := by rw [m3 id (by omega) (by omega)]; (repeat (first | rfl | rw [upd_same] | rw [upd_ne _ _ _ _ (by omega)])); exact hset
      have p2 : ∀ j, j < nx → j ≠ id → o2 j = o j := fun j h3 h4 => by rw [m3 j (by omega) (by omega)]; (repeat (first | rfl | rw [upd_same] | rw [upd_ne _ _ _ _ (by omega)])); exact hold j h3 h4
      have w1 : nx ≠ n2 := by omega
      have w2 : ∀ k, nx ≠ n2 + k := fun k => by omega
      have w3 : id ≠ n2 := by omega
      have w4 : ∀ k, id ≠ n2 + k := fun k => by omega
      have w5 : nx' + 7 ≠ n2 := by omega
      have w6 : ∀ k, nx' + 7 ≠ n2 + k := fun k => by omega
      obtain ⟨own', d1, d2, d3⟩ : ∃ own', own'.Nodup ∧ (∀ v, v ∈ own' ↔ (fvB v x = true ∧ ¬ (t.op = 8 ∧ k = 1 ∧ t.n = v))) ∧ own' = if t.op = 8 ∧ k = 1 then delI own t.n else own := by
        refine ⟨_, ?_, fun v => ?_, rfl⟩
        · split
          · exact (delI_spec _ m5.1).1
          · exact m5.1
        · have := m5.2 v
          simp only [List.not_mem_nil, false_or] at this
          rw [← this]
          split
          · rename_i hc
            rw [(delI_spec t.n m5.1).2]
            simp [hc, eq_comm]
          · rename_i hc
            constructor
            · exact fun h => ⟨h, fun h2 => hc ⟨h2.1, h2.2.1⟩⟩
            · exact fun h => h.1
      have step : ∀ v (s' : List Int), (v ∈ s' ↔ v ∈ l' ∨ v ∈ own') → ((v ∈ s' ∨ fvsB v t.op t.n (t.kids.drop (k + 1)) (k + 1) = true) ↔ (v ∈ l ∨ fvB v t = true)) := by
        intro v s' hs'
        rw [← hv v, hs', d2 v]
        have hdr : t.kids.drop k = x :: t.kids.drop (k + 1) := by
          obtain ⟨h5, h6⟩ := List.getElem?_eq_some_iff.1 hx
          rw [List.drop_eq_getElem_cons h5, h6]
        rw [hdr, fvsB]
        simp only [Bool.or_eq_true, Bool.and_eq_true, Bool.not_eq_true', Bool.and_eq_false_iff, beq_eq_false_iff_ne, ne_eq, not_and]
        constructor
        · rintro ((h | ⟨h, h6⟩) | h)
          · exact .inl h
          · refine .inr (.inl ⟨h, ?_⟩)
            by_cases c1 : t.op = 8
            · by_cases c2 : k = 1
              · exact .inr (h6 c1 c2)
              · exact .inl (.inr c2)
            · exact .inl (.inl c1)
          · exact .inr (.inr h)
        · rintro (h | ⟨h, h6⟩ | h)
          · exact .inl (.inl h)
          · refine .inl (.inr ⟨h, fun c1 c2 => ?_⟩)
            rcases h6 with (h6 | h6) | h6
            · exact absurd c1 h6
            · exact absurd c2 h6
            · exact h6
          · exact .inr h
      have hcc : ((t.op == 8) && ((k : Int) == 1)) = decide (t.op = 8 ∧ k = 1) := by
        rw [Bool.eq_iff_iff]; simp; omega
      simp +contextual (disch := first | omega | (simp only [go_sem, false_implies]; done) | fail) only [go_sem, wrap64, if_pos, p0, p1, w1, w2, w3, w4, w5, w6, Nat.add_assoc, Nat.left_eq_add, Nat.add_eq_left, Nat.add_left_cancel_iff]
      refine cond_intro (fun h3 => ?_) (fun h3 => ?_)
      · rw [hcc] at h3
        simp only [decide_eq_true_eq] at h3
        rw [if_pos h3] at d3
        cases hd : own.findIdx? (· == t.n) with
        | none =>
          have hd2 : aIdx t.n (setI own) 0 = none := by rw [aIdx_set, hd]; rfl
          obtain rfl : own' = own := by rw [d3, delI, hd]
          simp +contextual (disch := first | omega | (simp only [go_sem, false_implies]; done) | fail) only [go_sem, wrap64, if_pos, p0, p1, m4, w1, w2, w3, w4, w5, w6, Nat.add_assoc, Nat.left_eq_add, Nat.add_eq_left, Nat.add_left_cancel_iff, hd2]
          refine copy_c (n0 := nx) (id := id) (it := n2 + 12) (ks := .sl (t.kids.map Tm.d)) (n := .i t.kids.length) (k := .i k) own' l' ?_ ?_ ?_ (by omega) hn' (by omega) ?_ fun e' o4 n4 s' q0 q3 q15 q16 q17 q1 q2 q4 q5 q6 q7 => ?_
          · have hg := m2
            exact (by repeat (first | exact hg.mono (by omega) | exact Good.nil | refine Good.upd ?_ (by omega) rfl | refine Good.upd ?_ (by omega) (hLr _ _ _ (by omega)) | refine Good.upd ?_ (by omega) (by simp [Obj'.refs, V.refss, V.refs] <;> omega)))
          · (repeat (first | rfl | rw [upd_same] | rw [upd_ne _ _ _ _ (by omega)]))
            exact p1
          · (repeat (first | rfl | rw [upd_same] | rw [upd_ne _ _ _ _ (by omega)]))
          · (repeat (first | exact backE_nil | refine backE_junk ?_ | refine backE_d rfl ?_ | refine backE_d (d_int (wrapN (by omega))) ?_ | refine backE_v rfl (by simp [V.refs, V.refss] <;> first | omega | assumption) ?_))
          have r0 : o4 nx = .row t.row := by
            rw [q4 nx (by omega) (by omega) (by omega)]; (repeat (first | rfl | rw [upd_same] | rw [upd_ne _ _ _ _ (by omega)]))
            exact p0
          simp +contextual (disch := first | omega | (simp only [go_sem, false_implies]; done) | fail) only [go_sem, wrap64, if_pos, q0, q3, q15, q16, q17]
          refine nextS_intro (k + 1, s', o4, n4) ⟨by dsimp only; omega, q6, q2, by dsimp only; omega, fun j g1 g2 => ?_, r0, q5, fun v => ?_⟩ (by dsimp only; omega) ?_
          · dsimp only
            rw [q4 j (by omega) (by omega) (by omega)]; (repeat (first | rfl | rw [upd_same] | rw [upd_ne _ _ _ _ (by omega)]))
            exact p2 j g1 g2
          · dsimp only
            exact step v s' (q7 v)
          · dsimp only
            refine SLe.backL _ (by omega) (by omega) q2 (fun _ _ => rfl) ?_
            (repeat (first | exact backE_nil | refine backE_junk ?_ | refine backE_d rfl ?_ | refine backE_d (d_int (wrapN (by omega))) ?_ | refine backE_v rfl (by simp [V.refs, V.refss] <;> first | omega | assumption) ?_ | refine backE_d (by first | exact q0 | exact q1 | exact q2 | exact q3 | exact q4 | exact q5 | exact q6 | exact q7 | exact q8 | exact q9 | exact q10 | exact q11 | exact q12 | exact q13 | exact q14 | exact q15 | exact q16 | exact q17 | exact q18 | exact q19 | exact q20 | exact q21 | exact q22 | exact q23 | exact q24 | exact q25 | exact q26 | exact q27 | exact q28 | exact q29 | exact q30 | exact q31 | exact q32 | exact q33 | exact q34 | exact q35 | exact q36 | exact q37 | exact q38 | exact q39 | exact q40) ?_ | refine backE_v (by first | exact q0 | exact q1 | exact q2 | exact q3 | exact q4 | exact q5 | exact q6 | exact q7 | exact q8 | exact q9 | exact q10 | exact q11 | exact q12 | exact q13 | exact q14 | exact q15 | exact q16 | exact q17 | exact q18 | exact q19 | exact q20 | exact q21 | exact q22 | exact q23 | exact q24 | exact q25 | exact q26 | exact q27 | exact q28 | exact q29 | exact q30 | exact q31 | exact q32 | exact q33 | exact q34 | exact q35 | exact q36 | exact q37 | exact q38 | exact q39 | exact q40) (by simp [V.refs, V.refss] <;> first | omega | assumption) ?_))
        | some j =>
          have hd2 : aIdx t.n (setI own) 0 = some (j, .bool true) := by rw [aIdx_set, hd]; simp
          have hd3 : (enc (D.int .i64) (setI own)).eraseIdx j = enc (D.int .i64) (setI own') := by
            rw [d3, delI, hd, enc_erase]; unfold setI; rw [eraseIdx_map]
          simp +contextual (disch := first | omega | (simp only [go_sem, false_implies]; done) | fail) only [go_sem, wrap64, if_pos, p0, p1, m4, w1, w2, w3, w4, w5, w6, Nat.add_assoc, Nat.left_eq_add, Nat.add_eq_left, Nat.add_left_cancel_iff, hd2]
          rw [hd3]
          refine copy_c (n0 := nx) (id := id) (it := n2 + 12) (ks := .sl (t.kids.map Tm.d)) (n := .i t.kids.length) (k := .i k) own' l' ?_ ?_ ?_ (by omega) hn' (by omega) ?_ fun e' o4 n4 s' q0 q3 q15 q16 q17 q1 q2 q4 q5 q6 q7 => ?_
          · have hg := m2
            exact (by repeat (first | exact hg.mono (by omega) | exact Good.nil | refine Good.upd ?_ (by omega) rfl | refine Good.upd ?_ (by omega) (hLr _ _ _ (by omega)) | refine Good.upd ?_ (by omega) (by simp [Obj'.refs, V.refss, V.refs] <;> omega)))
          · (repeat (first | rfl | rw [upd_same] | rw [upd_ne _ _ _ _ (by omega)]))
            exact p1
          · (repeat (first | rfl | rw [upd_same] | rw [upd_ne _ _ _ _ (by omega)]))
          · (repeat (first | exact backE_nil | refine backE_junk ?_ | refine backE_d rfl ?_ | refine backE_d (d_int (wrapN (by omega))) ?_ | refine backE_v rfl (by simp [V.refs, V.refss] <;> first | omega | assumption) ?_))
          have r0 : o4 nx = .row t.row := by
            rw [q4 nx (by omega) (by omega) (by omega)]; (repeat (first | rfl | rw [upd_same] | rw [upd_ne _ _ _ _ (by omega)]))
            exact p0
          simp +contextual (disch := first | omega | (simp only [go_sem, false_implies]; done) | fail) only [go_sem, wrap64, if_pos, q0, q3, q15, q16, q17]
          refine nextS_intro (k + 1, s', o4, n4) ⟨by dsimp only; omega, q6, q2, by dsimp only; omega, fun j g1 g2 => ?_, r0, q5, fun v => ?_⟩ (by dsimp only; omega) ?_
          · dsimp only
            rw [q4 j (by omega) (by omega) (by omega)]; (repeat (first | rfl | rw [upd_same] | rw [upd_ne _ _ _ _ (by omega)]))
            exact p2 j g1 g2
          · dsimp only
            exact step v s' (q7 v)
          · dsimp only
            refine SLe.backL _ (by omega) (by omega) q2 (fun _ _ => rfl) ?_
            (repeat (first | exact backE_nil | refine backE_junk ?_ | refine backE_d rfl ?_ | refine backE_d (d_int (wrapN (by omega))) ?_ | refine backE_v rfl (by simp [V.refs, V.refss] <;> first | omega | assumption) ?_ | refine backE_d (by first | exact q0 | exact q1 | exact q2 | exact q3 | exact q4 | exact q5 | exact q6 | exact q7 | exact q8 | exact q9 | exact q10 | exact q11 | exact q12 | exact q13 | exact q14 | exact q15 | exact q16 | exact q17 | exact q18 | exact q19 | exact q20 | exact q21 | exact q22 | exact q23 | exact q24 | exact q25 | exact q26 | exact q27 | exact q28 | exact q29 | exact q30 | exact q31 | exact q32 | exact q33 | exact q34 | exact q35 | exact q36 | exact q37 | exact q38 | exact q39 | exact q40) ?_ | refine backE_v (by first | exact q0 | exact q1 | exact q2 | exact q3 | exact q4 | exact q5 | exact q6 | exact q7 | exact q8 | exact q9 | exact q10 | exact q11 | exact q12 | exact q13 | exact q14 | exact q15 | exact q16 | exact q17 | exact q18 | exact q19 | exact q20 | exact q21 | exact q22 | exact q23 | exact q24 | exact q25 | exact q26 | exact q27 | exact q28 | exact q29 | exact q30 | exact q31 | exact q32 | exact q33 | exact q34 | exact q35 | exact q36 | exact q37 | exact q38 | exact q39 | exact q40) (by simp [V.refs, V.refss] <;> first | omega | assumption) ?_))
      · rw [hcc] at h3
        simp only [decide_eq_false_iff_not] at h3
        rw [if_neg h3] at d3
        subst d3
        simp +contextual (disch := first | omega | (simp only [go_sem, false_implies]; done) | fail) only [go_sem, wrap64, if_pos, p0, p1, m4, w1, w2, w3, w4, w5, w6, Nat.add_assoc, Nat.left_eq_add, Nat.add_eq_left, Nat.add_left_cancel_iff]
        refine copy_c (n0 := nx) (id := id) (it := n2 + 8) (ks := .sl (t.kids.map Tm.d)) (n := .i t.kids.length) (k := .i k) own' l' ?_ ?_ ?_ (by omega) hn' (by omega) ?_ fun e' o4 n4 s' q0 q3 q15 q16 q17 q1 q2 q4 q5 q6 q7 => ?_
        · have hg := m2
          exact (by repeat (first | exact hg.mono (by omega) | exact Good.nil | refine Good.upd ?_ (by omega) rfl | refine Good.upd ?_ (by omega) (hLr _ _ _ (by omega)) | refine Good.upd ?_ (by omega) (by simp [Obj'.refs, V.refss, V.refs] <;> omega)))
        · (repeat (first | rfl | rw [upd_same] | rw [upd_ne _ _ _ _ (by omega)]))
          exact p1
        · (repeat (first | rfl | rw [upd_same] | rw [upd_ne _ _ _ _ (by omega)]))
        · (repeat (first | exact backE_nil | refine backE_junk ?_ | refine backE_d rfl ?_ | refine backE_d (d_int (wrapN (by omega))) ?_ | refine backE_v rfl (by simp [V.refs, V.refss] <;> first | omega | assumption) ?_))
        have r0 : o4 nx = .row t.row := by
          rw [q4 nx (by omega) (by omega) (by omega)]; (repeat (first | rfl | rw [upd_same] | rw [upd_ne _ _ _ _ (by omega)]))
          exact p0
        simp +contextual (disch := first | omega | (simp only [go_sem, false_implies]; done) | fail) only [go_sem, wrap64, if_pos, q0, q3, q15, q16, q17]
        refine nextS_intro (k + 1, s', o4, n4) ⟨by dsimp only; omega, q6, q2, by dsimp only; omega, fun j g1 g2 => ?_, r0, q5, fun v => ?_⟩ (by dsimp only; omega) ?_
        · dsimp only
          rw [q4 j (by omega) (by omega) (by omega)]; (repeat (first | rfl | rw [upd_same] | rw [upd_ne _ _ _ _ (by omega)]))
          exact p2 j g1 g2
        · dsimp only
          exact step v s' (q7 v)
        · dsimp only
          refine SLe.backL _ (by omega) (by omega) q2 (fun _ _ => rfl) ?_
          (repeat (first | exact backE_nil | refine backE_junk ?_ | refine backE_d rfl ?_ | refine backE_d (d_int (wrapN (by omega))) ?_ | refine backE_v rfl (by simp [V.refs, V.refss] <;> first | omega | assumption) ?_ | refine backE_d (by first | exact q0 | exact q1 | exact q2 | exact q3 | exact q4 | exact q5 | exact q6 | exact q7 | exact q8 | exact q9 | exact q10 | exact q11 | exact q12 | exact q13 | exact q14 | exact q15 | exact q16 | exact q17 | exact q18 | exact q19 | exact q20 | exact q21 | exact q22 | exact q23 | exact q24 | exact q25 | exact q26 | exact q27 | exact q28 | exact q29 | exact q30 | exact q31 | exact q32 | exact q33 | exact q34 | exact q35 | exact q36 | exact q37 | exact q38 | exact q39 | exact q40) ?_ | refine backE_v (by first | exact q0 | exact q1 | exact q2 | exact q3 | exact q4 | exact q5 | exact q6 | exact q7 | exact q8 | exact q9 | exact q10 | exact q11 | exact q12 | exact q13 | exact q14 | exact q15 | exact q16 | exact q17 | exact q18 | exact q19 | exact q20 | exact q21 | exact q22 | exact q23 | exact q24 | exact q25 | exact q26 | exact q27 | exact q28 | exact q29 | exact q30 | exact q31 | exact q32 | exact q33 | exact q34 | exact q35 | exact q36 | exact q37 | exact q38 | exact q39 | exact q40) (by simp [V.refs, V.refss] <;> first | omega | assumption) ?_))
    · simp at h2
      simp +contextual (disch := first | omega | (simp only [go_sem, false_implies]; done) | fail) only [go_sem, wrap64, if_pos, and_self]
      refine hK _ _ l' ?_ ?_ hold hset ⟨hn', fun n => ?_⟩
      · omega
      · exact hg'.mono (by omega)
      · have := hv n
        rw [List.drop_eq_nil_of_le (by omega)] at this
        simpa [fvsB] using this
end Go.Proofs.YtealblliddhgiaaGreat
section
namespace Go.Proofs.YtealblliddhgiaaGreat
open Go.Sort Go.RowKit
def SortSays (P : Program) (g : FuncId) : Prop := ∀ (blk off cap : Nat) (zs : List Int) (w : World), Holds (Value.int .i64) w blk off zs.toArray → blk < w.heap.size → zs.length < 4611686018427387904 →
    Calls P g #[.slice (some ⟨blk, off, none⟩) zs.length cap] w fun e w' =>
      e = .returned (.tuple #[]) ∧ ∃ n os, w' = grow (putRow (Value.int .i64) (Sort.ahead w n) blk off (zs.mergeSort fun x y => decide (x ≤ y)).toArray) os
def sortI (l : List Int) : List Int := l.mergeSort fun x y => decide (x ≤ y)
theorem intsRow {B : Nat → Prop} {w : World} : ∀ (zs : List Int) (xs : List Value), RowDen B w 1 (zs.map (D.int .i64)) xs ↔ xs = zs.map (Value.int .i64) := by
  have hd : ∀ (zs : List Int) (evs : List Value), D.dens B w (zs.map (D.int .i64)) evs ↔ evs = zs.map (Value.int .i64) := by
    intro zs
    induction zs with
    | nil => intro evs; simp [D.dens]
    | cons z zs ih =>
      intro evs
      simp only [List.map_cons, D.dens]
      constructor
      · rintro ⟨v, vs, rfl, h1, h2⟩
        rw [(ih vs).1 h2]
        simp only [D.den] at h1
        rw [h1]
      · intro h
        exact ⟨_, _, h, rfl, (ih _).2 rfl⟩
  have hf : ∀ zs : List Int, (zs.map (Value.int .i64)).flatMap (·.cells.toList) = zs.map (Value.int .i64) := by
    intro zs
    induction zs with
    | nil => rfl
    | cons z zs ih => simp only [List.map_cons, List.flatMap_cons, ih]; rfl
  intro zs xs
  constructor
  · rintro ⟨evs, h1, h2, h3⟩
    rw [h1, (hd zs evs).1 h3, hf]
  · intro h
    subst h
    exact ⟨_, (hf zs).symm, fun ev hev => by
      obtain ⟨z, _, rfl⟩ := List.mem_map.1 hev
      rfl, (hd zs _).2 rfl⟩
theorem sort_own {P : Program} {g : FuncId} (hE : Enters P g) (hS : SortSays P g) {o : Nat → Obj'} {nx id ep : Nat} {ty : TypeId} {zs : List Int} (ho : o id = .arr ep ty 1 (zs.map (D.int .i64)))
    (hn : ∀ p cap w, Calls P g #[.slice p 0 cap] w fun e w' => e = .returned (.tuple #[]) ∧ w' = w)
    (hlen : zs.length < 4611686018427387904) {K X : V → (Nat → Obj') → Nat → Prop} (hK : K (.tup []) (upd o id (.arr ep ty 1 ((sortI zs).map (D.int .i64)))) nx) : CtK P g [.osl id ep] o nx K X := by
  refine ⟨hE, fun M φ w vals hH hd => ?_⟩
  obtain ⟨val, us, hvals, ⟨v0, v1, v2⟩, hus⟩ := hd
  have hus : us = [] := hus
  subst hus
  have hval : val = φ id := (v2 ep (by show (o id).epoch = some ep; rw [ho]; rfl)).2 rfl
  have hvs : vals = #[φ id] := by rw [← hval]; exact Array.ext' (by simpa using hvals)
  subst hvs
  have hob := hH.ok id
  unfold ObjOk at hob
  rw [show (hp o nx).o id = .arr ep ty 1 (zs.map (D.int .i64)) from ho] at hob
  obtain ⟨_, xs, hown, hrow⟩ := hob
  have hxs := (intsRow zs xs).1 hrow
  subst hxs
  simp only [List.length_map] at hown
  obtain ⟨hl, hnil | ⟨b, cap, cur, hφ, _, hg, hcap, hmax, hcs, htake⟩⟩ := hown
  · obtain ⟨h1, h2⟩ := hnil
    have hz : zs = [] := List.length_eq_zero_iff.1 h2
    subst hz
    rw [h1]
    refine (hn none 0 w).mono ?_
    rintro e w' ⟨rfl, rfl⟩
    have hsame : upd o id (.arr ep ty 1 ((sortI []).map (D.int .i64))) = o := by
      funext j
      by_cases e : j = id
      · subst e; rw [upd_same, ho, show sortI [] = [] by simp [sortI]]
      · rw [upd_ne _ _ _ _ e]
    rw [hsame] at hK
    exact ⟨φ, o, nx, .tup [], hH, Trans.refl _ _ _, ⟨#[], rfl, rfl⟩, hK⟩
  · rw [hφ]
    have hb : b < w.heap.size := (Array.getElem?_eq_some_iff.1 hg).1
    have hcell : ∀ j, j < zs.length → cur[j]? = some (.int .i64 zs[j]!) := by
      intro j hj
      have h1 : (cur.toList.take (zs.length * 1))[j]? = (zs.map (Value.int .i64))[j]? := by rw [htake]
      rw [List.getElem?_take_of_lt (by omega), List.getElem?_map, List.getElem?_eq_getElem hj] at h1
      simp only [Option.map_some] at h1
      rw [getElem!_pos zs j hj]
      simpa using h1
    refine (hS b 0 cap zs w (fun j hj => ?_) hb hlen).mono ?_
    · simp only [List.size_toArray] at hj
      refine ⟨?_, ?_⟩
      · unfold World.cell?
        simp only [hg, Option.isSome_none, Bool.false_eq_true, if_false, Nat.zero_add]
        rw [hcell j hj]; simp
      · unfold World.frozen?
        simp [hg]
    rintro e w' ⟨rfl, n, os, rfl⟩
    have hsl : (sortI zs).length = zs.length := List.length_mergeSort zs
    have hgrow : ∀ k, k < w.heap.size → (grow (putRow (Value.int .i64) (Sort.ahead w n) b 0 (sortI zs).toArray) os).heap[k]? = (w.heap.modify b (onCells (putCells (Value.int .i64) 0 (sortI zs).toArray)))[k]? := by
      intro k hk
      unfold grow putRow mapBlock Sort.ahead
      simp only
      rw [Array.getElem?_append_left (by simpa using hk)]
    have hkeep : Keep (· = b) w (grow (putRow (Value.int .i64) (Sort.ahead w n) b 0 (sortI zs).toArray) os) := by
      refine ⟨rfl, rfl, rfl, ?_, fun k hk hne => ?_⟩
      · unfold grow putRow mapBlock Sort.ahead; simp
      · rw [hgrow k hk, Array.getElem?_modify, if_neg (fun e => hne e.symm)]
    have hlive : ((hp o nx).o id).live = true := by show (o id).live = true; rw [ho]; rfl
    have hblk : blk (φ id) = some b := by rw [hφ]; rfl
    have hnew : (grow (putRow (Value.int .i64) (Sort.ahead w n) b 0 (sortI zs).toArray) os).heap[b]? = some (.cells (putCells (Value.int .i64) 0 (sortI zs).toArray cur) ty (0, 0)) := by
      rw [hgrow b hb, Array.getElem?_modify, if_pos rfl, hg]; rfl
    have hput : (hp o nx).put [(id, .arr ep ty 1 ((sortI zs).map (D.int .i64)))] = hp (upd o id (.arr ep ty 1 ((sortI zs).map (D.int .i64)))) nx := by
      have hus : id < nx := v1
      simp only [Hp.put, hp]
      congr 1
      funext j
      simp only [List.map_cons, List.map_nil, List.mem_singleton, eq_iff_iff]
      exact ⟨fun h => h.elim (fun h => h) (fun e => e ▸ hus), .inl⟩
    have hobj : ObjOk M φ ((hp o nx).put [(id, .arr ep ty 1 ((sortI zs).map (D.int .i64)))]) (grow (putRow (Value.int .i64) (Sort.ahead w n) b 0 (sortI zs).toArray) os) id := by
      unfold ObjOk
      rw [show ((hp o nx).put [(id, .arr ep ty 1 ((sortI zs).map (D.int .i64)))]).o id = .arr ep ty 1 ((sortI zs).map (D.int .i64)) by simp]
      refine ⟨by decide, (sortI zs).map (Value.int .i64), ?_, (intsRow _ _).2 rfl⟩
      simp only [List.length_map, hsl]
      refine ⟨by simp [hsl], .inr ⟨b, cap, _, hφ, Nat.zero_le _, hnew, hcap, hmax, ?_, ?_⟩⟩
      · unfold putCells; simpa using hcs
      · apply List.ext_getElem?
        intro j
        by_cases hj : j < zs.length
        · rw [List.getElem?_take_of_lt (by omega), List.getElem?_map, List.getElem?_eq_getElem (l := sortI zs) (by omega)]
          have hj2 : j < cur.size := by omega
          unfold putCells
          simp only [Array.getElem?_toList, Array.getElem?_mapIdx, Option.map_some]
          rw [Array.getElem?_eq_getElem hj2]
          simp only [Option.map_some, Nat.zero_le, true_and, Nat.zero_add, List.size_toArray, Nat.sub_zero]
          rw [if_pos (by omega)]
          rw [getElem!_pos _ j (by simp; omega)]
          simp
        · rw [List.getElem?_eq_none (by rw [List.length_take, Nat.mul_one]; exact Nat.le_trans (Nat.min_le_left _ _) (Nat.not_lt.1 hj)), List.getElem?_eq_none (by rw [List.length_map, hsl]; exact Nat.not_lt.1 hj)]
    have hturn := heap_turn hH (id := id) v1 hlive hblk hkeep (.arr ep ty 1 ((sortI zs).map (D.int .i64))) (by rw [show (hp o nx).o id = _ from ho]; rfl) (by rw [show (hp o nx).o id = _ from ho]; rfl) hobj
    have htr := trans_turn (φ := φ) (H := hp o nx) (id := id) v1 hlive hblk hkeep (.arr ep ty 1 ((sortI zs).map (D.int .i64))) (by rw [show (hp o nx).o id = _ from ho]; rfl) (by rw [show (hp o nx).o id = _ from ho]; rfl)
    rw [hput] at hturn htr
    exact ⟨φ, _, nx, .tup [], hturn, htr, ⟨#[], rfl, rfl⟩, hK⟩
end Go.Proofs.YtealblliddhgiaaGreat
end
section
namespace Go.Proofs.YtealblliddhgiaaGreat
open Go.Shelf
def lays189_ren : Go.Shelf.Ren := ⟨fun | 189 => 72 | 125 => 109 | 257 => 108 | 128 => 140 | 129 => 141 | 294 => 131 | 295 => 132 | 296 => 133 | 297 => 134 | 298 => 135 | 299 => 136 | 216 => 137 | 300 => 138 | 301 => 139 | 328 => 143 | 329 => 144 | 330 => 145 | 331 => 146 | 332 => 147 | 215 => 129 | 343 => 148 | n => n, fun | 28 => 53 | 3 => 3 | 46 => 143 | 0 => 0 | 51 => 168 | 53 => 170 | 4 => 4 | 183 => 161 | 182 => 160 | 131 => 151 | 5 => 5 | 9 => 9 | 218 => 172 | 222 => 88 | 228 => 177 | 229 => 178 | n => n, fun | n => n⟩
theorem lays189 : Go.Proofs.Lays.n189 Tryz.prog lays189_ren := {
  mixed := by kernel_rfl
  f125 := Tryz.func109.trans (congrArg some (by kernel_rfl))
  f128 := Tryz.func140.trans (congrArg some (by kernel_rfl))
  f129 := Tryz.func141.trans (congrArg some (by kernel_rfl))
  f189 := Tryz.func72.trans (congrArg some (by kernel_rfl))
  f215 := Tryz.func129.trans (congrArg some (by kernel_rfl))
  f216 := Tryz.func137.trans (congrArg some (by kernel_rfl))
  f257 := Tryz.func108.trans (congrArg some (by kernel_rfl))
  f294 := Tryz.func131.trans (congrArg some (by kernel_rfl))
  f295 := Tryz.func132.trans (congrArg some (by kernel_rfl))
  f296 := Tryz.func133.trans (congrArg some (by kernel_rfl))
  f297 := Tryz.func134.trans (congrArg some (by kernel_rfl))
  f298 := Tryz.func135.trans (congrArg some (by kernel_rfl))
  f299 := Tryz.func136.trans (congrArg some (by kernel_rfl))
  f300 := Tryz.func138.trans (congrArg some (by kernel_rfl))
  f301 := Tryz.func139.trans (congrArg some (by kernel_rfl))
  f328 := Tryz.func143.trans (congrArg some (by kernel_rfl))
  f329 := Tryz.func144.trans (congrArg some (by kernel_rfl))
  f330 := Tryz.func145.trans (congrArg some (by kernel_rfl))
  f331 := Tryz.func146.trans (congrArg some (by kernel_rfl))
  f332 := Tryz.func147.trans (congrArg some (by kernel_rfl))
  f343 := Tryz.func148.trans (congrArg some (by kernel_rfl))
  t0 := Tryz.underlying0
  a0 := Tryz.isAgg0
  z0 := Tryz.sizeOf0
  v0 := Tryz.zeroValue0
  t3 := Tryz.underlying3
  a3 := Tryz.isAgg3
  z3 := Tryz.sizeOf3
  v3 := Tryz.zeroValue3
  t4 := Tryz.underlying4
  a4 := Tryz.isAgg4
  z4 := Tryz.sizeOf4
  v4 := Tryz.zeroValue4
  t5 := Tryz.underlying5
  a5 := Tryz.isAgg5
  z5 := Tryz.sizeOf5
  v5 := Tryz.zeroValue5
  t9 := Tryz.underlying9
  a9 := Tryz.isAgg9
  z9 := Tryz.sizeOf9
  v9 := Tryz.zeroValue9
  t28 := Tryz.underlying53
  a28 := Tryz.isAgg53
  z28 := Tryz.sizeOf53
  v28 := Tryz.zeroValue53
  t46 := Tryz.underlying143
  a46 := Tryz.isAgg143
  z46 := Tryz.sizeOf143
  v46 := Tryz.zeroValue143
  t51 := Tryz.underlying168
  a51 := Tryz.isAgg168
  z51 := Tryz.sizeOf168
  v51 := Tryz.zeroValue168
  t53 := Tryz.underlying170
  a53 := Tryz.isAgg170
  z53 := Tryz.sizeOf170
  v53 := Tryz.zeroValue170
  t131 := Tryz.underlying151
  a131 := Tryz.isAgg151
  z131 := Tryz.sizeOf151
  v131 := Tryz.zeroValue151
  t182 := Tryz.underlying160
  a182 := Tryz.isAgg160
  z182 := Tryz.sizeOf160
  v182 := Tryz.zeroValue160
  t183 := Tryz.underlying161
  a183 := Tryz.isAgg161
  z183 := Tryz.sizeOf161
  v183 := Tryz.zeroValue161
  t218 := Tryz.underlying172
  a218 := Tryz.isAgg172
  z218 := Tryz.sizeOf172
  v218 := Tryz.zeroValue172
  t222 := Tryz.underlying88
  a222 := Tryz.isAgg88
  z222 := Tryz.sizeOf88
  v222 := Tryz.zeroValue88
  t228 := Tryz.underlying177
  a228 := Tryz.isAgg177
  z228 := Tryz.sizeOf177
  v228 := Tryz.zeroValue177
  t229 := Tryz.underlying178
  a229 := Tryz.isAgg178
  z229 := Tryz.sizeOf178
  v229 := Tryz.zeroValue178 }
theorem sort_says : SortSays Tryz.prog 72 := fun blk off cap zs w h1 h2 h3 => Any.slices_Sort_int lays189 blk off cap zs w h1 h2 h3
theorem sort_none : ∀ (p : Option Addr) (cap : Nat) (w : World), Calls Tryz.prog 72 #[.slice p 0 cap] w fun e w' => e = .returned (.tuple #[]) ∧ w' = w := fun p cap w => Any.slices_Sort_int_none lays189 p cap w
theorem sort_enters : Enters Tryz.prog 72 := ⟨_, Tryz.func72, by kernel_rfl, by kernel_rfl⟩
end Go.Proofs.YtealblliddhgiaaGreat
end
