/-
  A PART OF THE PROOF (put together by program): several texts, one behind the other. Conditions: none.
-/
import Derived.Test.YtealblliddhgiaaGreatOr34
set_option linter.unusedSimpArgs false
set_option linter.unusedVariables false
namespace Go.Proofs.YtealblliddhgiaaGreat
theorem nextC_ints {K : V → List (Nat × Obj') → Prop} {id : Nat} {l : List (Int × Int)} (h0 : l = [] → K (.tup [.d (.bool false)]) [])
    (h1 : ∀ (i : Nat) n k, l[i]? = some (n, k) → K (.tup [.d (.bool true), .d (.int .i64 n), .d (D.i k)]) [(id, .mit (enc (D.int .i64) (ints (l.eraseIdx i))) (some (.int .i64 n, D.i k)))]) : nextC K id (enc (D.int .i64) (ints l)) := by
  refine nextC_enc _ (fun h => h0 ?_) fun i k x h => ?_
  · cases l with
    | nil => rfl
    | cons x l => simp [ints] at h
  · unfold ints at h ⊢
    rw [List.getElem?_map] at h
    cases hl : l[i]? with
    | none => rw [hl] at h; cases h
    | some n =>
      rw [hl] at h
      simp at h
      obtain ⟨rfl, rfl⟩ := h
      have := h1 i n.1 n.2 hl
      rw [eraseIdx_map]
      exact this
theorem erase_perm' {α : Type} {l : List α} {i : Nat} {n : α} (h : l[i]? = some n) : l.Perm (n :: l.eraseIdx i) := by
  obtain ⟨hi, e⟩ := List.getElem?_eq_some_iff.1 h
  have hsp : l = l.take i ++ n :: l.drop (i + 1) := by rw [← e, List.getElem_cons_drop, List.take_append_drop]
  rw [List.eraseIdx_eq_take_drop_succ]
  conv => lhs; rw [hsp]
  exact List.perm_middle
theorem aSet_nil {k : Int} {x : D} : aSet k x [] = [(k, x)] := rfl
def oth (n : Int) (m : List (Int × Int)) : List (Int × Int) := m.filter fun p => p.1 != n
theorem oth_keys {n : Int} {m : List (Int × Int)} (h : Keys m) (own : Int) : Keys ((n, own) :: oth n m) := by
  unfold Keys oth
  rw [List.map_cons, List.nodup_cons]
  refine ⟨fun hm => ?_, ?_⟩
  · obtain ⟨p, hp, e⟩ := List.mem_map.1 hm
    have := (List.mem_filter.1 hp).2
    simp at this e
    exact this e
  · exact h.sublist (List.filter_sublist.map _)
theorem lk_oth {n own : Int} (m : List (Int × Int)) (v : Int) : lk ((n, own) :: oth n m) v = if n = v then some own else lk m v := by
  simp only [lk]
  split
  · rfl
  · rename_i hne
    induction m with
    | nil => rfl
    | cons p m ih =>
      simp only [oth, List.filter_cons, lk] at ih ⊢
      by_cases h : p.1 = n
      · have : ¬ p.1 = v := fun e => hne (h ▸ e)
        simp [h, ih, hne]
      · simp only [bne_iff_ne, ne_eq, h, not_false_eq_true, if_true, lk, ih]
def ordCopy : IC := c110.snd.snd.snd.snd.fst.snd.fst.snd.snd.snd.fst.fst
theorem ordCopy_c {t : Tm} {o : Nat → Obj'} {nx c cid ib it : Nat} {own : Int} {mB : List (Int × Int)} {e : Nat → V} {Q : Xit → S → Prop}
    (hg : Good o c) (hc : nx + 15 ≤ c) (c1 : cid < nx) (ot : o (nx + 1) = .row t.row) (os : o (nx + 14) = .row [.ptr cid 0, .mp ib]) (oi : o ib = mapI [(t.n, own)]) (oit : o it = .mit (enc (D.int .i64) (ints mB)) none) (kb : Keys mB) (i1 : nx + 15 ≤ ib) (i2 : nx + 15 ≤ it)
    (he : backE c e [.junk, .junk, .ptr nx 0, .ptr (nx + 1) 0, .ptr (nx + 2) 0, .junk, .junk, .ptr (nx + 11) 0, .ptr (nx + 14) 0, .junk, .junk, .junk, .junk, .junk, .junk, .junk, .junk, .junk, .junk, .junk, .junk, .junk, .junk, .junk, .junk, .junk, .junk, .junk, .junk, .junk, .junk, .junk, .junk, .junk, .junk, .junk, .junk, .junk, .junk, .junk, .junk, .junk, .junk, .junk, .junk, .junk, .junk, .junk, .junk, .junk, .junk, .junk, .junk, .junk, .junk, .junk, .junk, .junk, .junk, .junk, .junk, .junk, .junk, .junk, .junk, .junk, .junk, .junk, .junk, .junk, .junk, .junk, .junk, .junk, .ptr it 0] 0)
    (hQ : ∀ e' o' nx' mI, e' 2 = .ptr nx 0 → e' 3 = .ptr (nx + 1) 0 → e' 4 = .ptr (nx + 2) 0 → e' 7 = .ptr (nx + 11) 0 → e' 8 = .ptr (nx + 14) 0 → c ≤ nx' → Good o' nx' → (∀ j, j < nx + 15 → o' j = o j) → o' ib = mapI mI → Keys mI → (∀ v, lk mI v = if t.n = v then some own else lk mB v) → Q (.exit 0) ⟨e', o', nx'⟩) :
    loopS nx (fun Q s => evW Tryz.prog 116 nx false ordCopy Q s) Q ⟨e, o, c⟩ := by
  have h1 : ib < c := hg.lt (by rw [oi]; exact Obj'.noConfusion)
  have h2 : it < c := hg.lt (by rw [oit]; exact Obj'.noConfusion)
  have h3 : ib ≠ it := fun h => by rw [h, oit] at oi; cases oi
  have h4 : it ≠ ib := fun h => h3 h.symm
  have h5 : ∀ k, k < 15 → ib ≠ nx + k := fun k hk => by omega
  have h6 : ∀ k, k < 15 → it ≠ nx + k := fun k hk => by omega
  have h7 : ∀ k, k < 15 → nx + k ≠ ib := fun k hk => by omega
  have h8 : ∀ k, k < 15 → nx + k ≠ it := fun k hk => by omega
  refine loop_fam (fun i : List (Int × Int) × List (Int × Int) × Option (D × D) => ⟨envJ [.junk, .junk, .ptr nx 0, .ptr (nx + 1) 0, .ptr (nx + 2) 0, .junk, .junk, .ptr (nx + 11) 0, .ptr (nx + 14) 0, .junk, .junk, .junk, .junk, .junk, .junk, .junk, .junk, .junk, .junk, .junk, .junk, .junk, .junk, .junk, .junk, .junk, .junk, .junk, .junk, .junk, .junk, .junk, .junk, .junk, .junk, .junk, .junk, .junk, .junk, .junk, .junk, .junk, .junk, .junk, .junk, .junk, .junk, .junk, .junk, .junk, .junk, .junk, .junk, .junk, .junk, .junk, .junk, .junk, .junk, .junk, .junk, .junk, .junk, .junk, .junk, .junk, .junk, .junk, .junk, .junk, .junk, .junk, .junk, .junk, .ptr it 0], upd (upd o ib (mapI i.2.1)) it (.mit (enc (D.int .i64) (ints i.1)) i.2.2), c⟩)
    (fun i => (i.2.1 ++ oth t.n i.1).Perm ((t.n, own) :: oth t.n mB)) (fun i => i.1.length) (mB, [(t.n, own)], none) (List.Perm.refl _) ?_ ?_
  · dsimp only
    refine SLe.backL _ (by omega) (Nat.le_refl _) ?_ (fun j hj => ?_) he
    · exact (by repeat (first | exact hg.mono (by omega) | exact Good.nil | refine Good.upd ?_ (by omega) rfl | refine Good.upd ?_ (by omega) (hLr _ _ _ (by omega)) | refine Good.upd ?_ (by omega) (by simp [Obj'.refs, V.refss, V.refs] <;> omega)))
    · by_cases e1 : j = it
      · subst e1; rw [upd_same]; exact oit
      · rw [upd_ne _ _ _ _ e1]
        by_cases e2 : j = ib
        · subst e2; rw [upd_same]; exact oi
        · rw [upd_ne _ _ _ _ e2]
  rintro ⟨rest, s', last⟩ hp
  simp only at hp
  simp only [ordCopy, c110, IC.snd, IC.fst]
  simp +contextual (disch := first | omega | (simp only [go_sem, false_implies]; done) | fail) only [go_sem, wrap64, if_pos, h3, h4, h5, h6, h7, h8]
  refine nextC_ints (fun hr => ?_) fun i m v hm => ?_
  · subst hr
    simp +contextual (disch := first | omega | (simp only [go_sem, false_implies]; done) | fail) only [go_sem, wrap64, if_pos, and_self]
    have hp' : s'.Perm ((t.n, own) :: oth t.n mB) := by simpa [oth] using hp
    have hk : Keys s' := (hp'.map _).nodup_iff.2 (oth_keys kb own)
    refine hQ _ _ _ s' ?_ ?_ ?_ ?_ ?_ ?_ ?_ (fun j g1 => ?_) ?_ hk (fun v => ?_)
    · rfl
    · rfl
    · rfl
    · rfl
    · rfl
    · omega
    · exact (by repeat (first | exact hg.mono (by omega) | exact Good.nil | refine Good.upd ?_ (by omega) rfl | refine Good.upd ?_ (by omega) (hLr _ _ _ (by omega)) | refine Good.upd ?_ (by omega) (by simp [Obj'.refs, V.refss, V.refs] <;> omega)))
    · (repeat (first | rfl | rw [upd_same] | rw [upd_ne _ _ _ _ (by omega)]))
    · (repeat (first | rfl | rw [upd_same] | rw [upd_ne _ _ _ _ (by omega)]))
    · rw [lk_perm hk hp' v, lk_oth]
  · have hpr := erase_perm' hm
    have hoth : (oth t.n rest).Perm (oth t.n ((m, v) :: rest.eraseIdx i)) := hpr.filter _
    have hlen : (rest.eraseIdx i).length + 1 = rest.length := by have := hpr.length_eq; simpa using this.symm
    simp +contextual (disch := first | omega | (simp only [go_sem, false_implies]; done) | fail) only [go_sem, wrap64, if_pos, ot, os, h3, h4, h5, h6, h7, h8]
    refine cond_intro (fun h9 => ?_) (fun h9 => ?_)
    · have hne : ¬ m = t.n := by simpa using h9
      have hcons : oth t.n ((m, v) :: rest.eraseIdx i) = (m, v) :: oth t.n (rest.eraseIdx i) := by simp [oth, hne]
      rw [hcons] at hoth
      have hnone : lk s' m = none := by
        rw [lk_none]
        have hk : ((s' ++ (m, v) :: oth t.n (rest.eraseIdx i)).map (·.1)).Nodup := ((((List.Perm.append_left s' hoth).symm.trans hp).map _).nodup_iff).2 (oth_keys kb own)
        rw [List.map_append, List.map_cons, List.nodup_append] at hk
        exact fun hm2 => hk.2.2 m hm2 m (by simp) rfl
      simp +contextual (disch := first | omega | (simp only [go_sem, false_implies]; done) | fail) only [go_sem, wrap64, if_pos, ot, os, h3, h4, h5, h6, h7, h8]
      rw [aSet_new hnone]
      refine nextS_intro (rest.eraseIdx i, s' ++ [(m, v)], some (.int .i64 m, D.i v)) ?_ (by dsimp only; omega) ?_
      · dsimp only
        rw [List.append_assoc]
        exact (List.Perm.append_left s' hoth).symm.trans hp
      · dsimp only
        refine SLe.backL _ (by omega) (by omega) ?_ (fun j hj => ?_) ?_
        · exact (by repeat (first | exact hg.mono (by omega) | exact Good.nil | refine Good.upd ?_ (by omega) rfl | refine Good.upd ?_ (by omega) (hLr _ _ _ (by omega)) | refine Good.upd ?_ (by omega) (by simp [Obj'.refs, V.refss, V.refs] <;> omega)))
        · by_cases e1 : j = it
          · subst e1; (repeat (first | rfl | rw [upd_same] | rw [upd_ne _ _ _ _ (by omega)]))
          · by_cases e2 : j = ib
            · subst e2; (repeat (first | rfl | rw [upd_same] | rw [upd_ne _ _ _ _ (by omega)]))
            · (repeat (first | rfl | rw [upd_same] | rw [upd_ne _ _ _ _ (by omega)]))
        · (repeat (first | exact backE_nil | refine backE_junk ?_ | refine backE_d rfl ?_ | refine backE_d (d_int (wrapN (by omega))) ?_ | refine backE_v rfl (by simp [V.refs, V.refss] <;> first | omega | assumption) ?_))
    · have hne : m = t.n := by simpa using h9
      have hcons : oth t.n ((m, v) :: rest.eraseIdx i) = oth t.n (rest.eraseIdx i) := by simp [oth, hne]
      rw [hcons] at hoth
      simp +contextual (disch := first | omega | (simp only [go_sem, false_implies]; done) | fail) only [go_sem, wrap64, if_pos, and_self]
      refine nextS_intro (rest.eraseIdx i, s', some (.int .i64 m, D.i v)) ?_ (by dsimp only; omega) ?_
      · dsimp only
        exact (List.Perm.append_left s' hoth).symm.trans hp
      · dsimp only
        refine SLe.backL _ (by omega) (by omega) ?_ (fun j hj => ?_) ?_
        · exact (by repeat (first | exact hg.mono (by omega) | exact Good.nil | refine Good.upd ?_ (by omega) rfl | refine Good.upd ?_ (by omega) (hLr _ _ _ (by omega)) | refine Good.upd ?_ (by omega) (by simp [Obj'.refs, V.refss, V.refs] <;> omega)))
        · by_cases e1 : j = it
          · subst e1; (repeat (first | rfl | rw [upd_same] | rw [upd_ne _ _ _ _ (by omega)]))
          · by_cases e2 : j = ib
            · subst e2; (repeat (first | rfl | rw [upd_same] | rw [upd_ne _ _ _ _ (by omega)]))
            · (repeat (first | rfl | rw [upd_same] | rw [upd_ne _ _ _ _ (by omega)]))
        · (repeat (first | exact backE_nil | refine backE_junk ?_ | refine backE_d rfl ?_ | refine backE_d (d_int (wrapN (by omega))) ?_ | refine backE_v rfl (by simp [V.refs, V.refss] <;> first | omega | assumption) ?_))
theorem ord_fin {o o' : Nat → Obj'} {nx c cid fid nx' n2 : Nat} {op' N n' : Int} {l : List Tm} {fr' : List (Int × Int)} {K : V → (Nat → Obj') → Nat → Prop} (hK : OrdK o nx cid fid (.mk op' N l, fr', n') K) (c1 : cid < nx) (c2 : fid < nx) (hc : nx + 15 ≤ c)
    (g1 : c ≤ nx') (g2 : Good o' nx') (g4 : o' c = .arr 0 28 3 (l.map Tm.d)) (g5 : ∀ j, j < nx → j ≠ cid → j ≠ fid → o' j = o j) (g6 : o' cid = .row [.d (.i n'), .mp fid]) (g7 : o' fid = mapI fr') (g8 : nx' ≤ n2) :
    K (.agg [.d (.i op'), .d (.i N), .osl c 0]) (upd o' (nx + 2) (.row [.d (.i op'), .d (.i N), .osl c 0])) n2 := by
  have gl : c < nx' := g2.lt (by rw [g4]; exact Obj'.noConfusion)
  refine hK _ _ _ ?_ ?_ ?_ ?_ (fun j k1 k2 k3 => ?_) ?_ ?_
  · omega
  · have hg := g2
    exact (by repeat (first | exact hg.mono (by omega) | exact Good.nil | refine Good.upd ?_ (by omega) rfl | refine Good.upd ?_ (by omega) (hLr _ _ _ (by omega)) | refine Good.upd ?_ (by omega) (by simp [Obj'.refs, V.refss, V.refs] <;> omega)))
  · rw [Tm.d_mk]
    have w1 : c ≠ nx + 2 := by omega
    simp +contextual (disch := first | omega | (simp only [go_sem, false_implies]; done) | fail) only [go_sem, wrap64, if_pos, g4, w1, Nat.add_assoc, Nat.left_eq_add, Nat.add_eq_left, Nat.add_left_cancel_iff]
  · simp [V.ids, V.idss]; omega
  · rw [upd_ne _ _ _ _ (by omega)]
    exact g5 j k1 k2 k3
  · (repeat (first | rfl | rw [upd_same] | rw [upd_ne _ _ _ _ (by omega)]))
    exact g6
  · (repeat (first | rfl | rw [upd_same] | rw [upd_ne _ _ _ _ (by omega)]))
    exact g7
set_option maxHeartbeats 2000000 in
theorem order_c : ∀ t : Tm, t.fits → OrdC t := by
  refine Tm.ind' fun t ih hf o nx cid fid bv mB bd fr n hp K X hK => ?_
  have hf' := (Tm.fits_iff _).1 hf
  have hg := hp.good
  have hc := hp.hc
  have hfm := hp.hf
  have hcl : cid < nx := hg.lt (by rw [hc]; exact Obj'.noConfusion)
  have hfl : fid < nx := hg.lt (by rw [hfm]; exact Obj'.noConfusion)
  have hcf : cid ≠ fid := fun e => by rw [e, hfm] at hc; cases hc
  have hfc : fid ≠ cid := fun e => hcf e.symm
  have y1 : cid ≠ nx := by omega
  have y2 : ∀ k, cid ≠ nx + k := fun k => by omega
  have y3 : fid ≠ nx := by omega
  have y4 : ∀ k, fid ≠ nx + k := fun k => by omega
  refine CtK.of_ev mix fn110 (by simp) ?_
  rw [c110]
  by_cases h1 : t.op = 1
  · have h1' : (t.op == 1) = true := by simpa using h1
    rw [ordF_eq, if_pos h1] at hK
    have hlk := hp.lk t.n
    cases hl : lk mB t.n with
    | some k =>
      rcases hp.hb with ⟨e1, e2⟩ | ⟨b, e1, hb⟩
      · rw [e2] at hl; cases hl
      · subst e1
        obtain ⟨j, hj⟩ := aIdx_lk_some hl
        have hbl : b < nx := hg.lt (by rw [hb]; exact Obj'.noConfusion)
        have z1 : b ≠ nx := by omega
        have z2 : ∀ k, b ≠ nx + k := fun k => by omega
        rw [hl] at hlk
        rw [← hlk] at hK
        simp +contextual (disch := first | omega | (simp only [go_sem, false_implies]; done) | fail) only [go_sem, wrap64, if_pos, hc, hfm, hb, hj, y1, y2, y3, y4, z1, z2, Nat.add_assoc, Nat.left_eq_add, Nat.add_eq_left, Nat.add_left_cancel_iff, h1']
        refine call_give (variable_c' k) ?_
        simp +contextual (disch := first | omega | (simp only [go_sem, false_implies]; done) | fail) only [go_sem, wrap64, if_pos, y1, y2, Nat.add_assoc, Nat.left_eq_add, Nat.add_eq_left, Nat.add_left_cancel_iff]
        refine hK _ _ _ ?_ ?_ rfl (fun id hid => by simp [V.ids] at hid) (fun j g1 g2 g3 => ?_) ?_ ?_
        · omega
        · exact (by repeat (first | exact hg.mono (by omega) | exact Good.nil | refine Good.upd ?_ (by omega) rfl | refine Good.upd ?_ (by omega) (hLr _ _ _ (by omega)) | refine Good.upd ?_ (by omega) (by simp [Obj'.refs, V.refss, V.refs] <;> omega)))
        · (repeat (first | rfl | rw [upd_same] | rw [upd_ne _ _ _ _ (by omega)]))
        · (repeat (first | rfl | rw [upd_same] | rw [upd_ne _ _ _ _ (by omega)]))
          exact hc
        · (repeat (first | rfl | rw [upd_same] | rw [upd_ne _ _ _ _ (by omega)]))
          exact hfm
    | none =>
      rw [hl] at hlk
      have hnl := aIdx_lk_none hl
      rw [← hlk] at hK
      cases hl2 : lk fr t.n with
      | some k =>
        obtain ⟨j2, hj2⟩ := aIdx_lk_some hl2
        rw [hl2] at hK
        rcases hp.hb with ⟨e1, e2⟩ | ⟨b, e1, hb⟩
        · subst e1
          simp +contextual (disch := first | omega | (simp only [go_sem, false_implies]; done) | fail) only [go_sem, wrap64, if_pos, hc, hfm, hnl, hj2, y1, y2, y3, y4, Nat.add_assoc, Nat.left_eq_add, Nat.add_eq_left, Nat.add_left_cancel_iff, h1']
          refine end_intro (objsOk_reads rfl) ?_
          simp +contextual (disch := first | omega | (simp only [go_sem, false_implies]; done) | fail) only [go_sem, wrap64, if_pos, hc, hfm, hnl, hj2, y1, y2, y3, y4, Nat.add_assoc, Nat.left_eq_add, Nat.add_eq_left, Nat.add_left_cancel_iff, h1']
          refine call_give (variable_c' k) ?_
          simp +contextual (disch := first | omega | (simp only [go_sem, false_implies]; done) | fail) only [go_sem, wrap64, if_pos, y1, y2, Nat.add_assoc, Nat.left_eq_add, Nat.add_eq_left, Nat.add_left_cancel_iff]
          refine hK _ _ _ ?_ ?_ rfl (fun id hid => by simp [V.ids] at hid) (fun j g1 g2 g3 => ?_) ?_ ?_
          · omega
          · exact (by repeat (first | exact hg.mono (by omega) | exact Good.nil | refine Good.upd ?_ (by omega) rfl | refine Good.upd ?_ (by omega) (hLr _ _ _ (by omega)) | refine Good.upd ?_ (by omega) (by simp [Obj'.refs, V.refss, V.refs] <;> omega)))
          · (repeat (first | rfl | rw [upd_same] | rw [upd_ne _ _ _ _ (by omega)]))
          · (repeat (first | rfl | rw [upd_same] | rw [upd_ne _ _ _ _ (by omega)]))
            exact hc
          · (repeat (first | rfl | rw [upd_same] | rw [upd_ne _ _ _ _ (by omega)]))
            exact hfm
        · subst e1
          have hbl : b < nx := hg.lt (by rw [hb]; exact Obj'.noConfusion)
          have z1 : b ≠ nx := by omega
          have z2 : ∀ k, b ≠ nx + k := fun k => by omega
          simp +contextual (disch := first | omega | (simp only [go_sem, false_implies]; done) | fail) only [go_sem, wrap64, if_pos, hc, hfm, hb, hnl, hj2, y1, y2, y3, y4, z1, z2, Nat.add_assoc, Nat.left_eq_add, Nat.add_eq_left, Nat.add_left_cancel_iff, h1']
          refine end_intro (objsOk_reads rfl) ?_
          simp +contextual (disch := first | omega | (simp only [go_sem, false_implies]; done) | fail) only [go_sem, wrap64, if_pos, hc, hfm, hb, hnl, hj2, y1, y2, y3, y4, z1, z2, Nat.add_assoc, Nat.left_eq_add, Nat.add_eq_left, Nat.add_left_cancel_iff, h1']
          refine call_give (variable_c' k) ?_
          simp +contextual (disch := first | omega | (simp only [go_sem, false_implies]; done) | fail) only [go_sem, wrap64, if_pos, y1, y2, Nat.add_assoc, Nat.left_eq_add, Nat.add_eq_left, Nat.add_left_cancel_iff]
          refine hK _ _ _ ?_ ?_ rfl (fun id hid => by simp [V.ids] at hid) (fun j g1 g2 g3 => ?_) ?_ ?_
          · omega
          · exact (by repeat (first | exact hg.mono (by omega) | exact Good.nil | refine Good.upd ?_ (by omega) rfl | refine Good.upd ?_ (by omega) (hLr _ _ _ (by omega)) | refine Good.upd ?_ (by omega) (by simp [Obj'.refs, V.refss, V.refs] <;> omega)))
          · (repeat (first | rfl | rw [upd_same] | rw [upd_ne _ _ _ _ (by omega)]))
          · (repeat (first | rfl | rw [upd_same] | rw [upd_ne _ _ _ _ (by omega)]))
            exact hc
          · (repeat (first | rfl | rw [upd_same] | rw [upd_ne _ _ _ _ (by omega)]))
            exact hfm
      | none =>
        have hnl2 := aIdx_lk_none hl2
        rw [hl2] at hK
        rcases hp.hb with ⟨e1, e2⟩ | ⟨b, e1, hb⟩
        · subst e1
          simp +contextual (disch := first | omega | (simp only [go_sem, false_implies]; done) | fail) only [go_sem, wrap64, if_pos, hc, hfm, hnl, hnl2, y1, y2, y3, y4, Nat.add_assoc, Nat.left_eq_add, Nat.add_eq_left, Nat.add_left_cancel_iff, h1']
          refine end_intro (objsOk_reads rfl) ?_
          simp +contextual (disch := first | omega | (simp only [go_sem, false_implies]; done) | fail) only [go_sem, wrap64, if_pos, hc, hfm, hnl, hnl2, y1, y2, y3, y4, Nat.add_assoc, Nat.left_eq_add, Nat.add_eq_left, Nat.add_left_cancel_iff, h1']
          refine callR_heap (new_c cid n (.mp fid) _ _ (by (repeat (first | rfl | rw [upd_same] | rw [upd_ne _ _ _ _ (by omega)])); exact hc) ⟨hp.n0, by have := hp.n1; omega⟩ (by repeat (first | exact hg.mono (by omega) | exact Good.nil | refine Good.upd ?_ (by omega) rfl | refine Good.upd ?_ (by omega) (hLr _ _ _ (by omega)) | refine Good.upd ?_ (by omega) (by simp [Obj'.refs, V.refss, V.refs] <;> omega))) _ _ ?_)
          simp +contextual (disch := first | omega | (simp only [go_sem, false_implies]; done) | fail) only [go_sem, wrap64, if_pos, hc, hfm, y1, y2, y3, y4, hcf, hfc, Nat.add_assoc, Nat.left_eq_add, Nat.add_eq_left, Nat.add_left_cancel_iff]
          refine end_intro (objsOk_wr (by kernel_rfl)) ?_
          simp +contextual (disch := first | omega | (simp only [go_sem, false_implies]; done) | fail) only [go_sem, wrap64, if_pos, Nat.add_assoc, Nat.left_eq_add, Nat.add_eq_left, Nat.add_left_cancel_iff]
          refine call_give (variable_c' n) ?_
          simp +contextual (disch := first | omega | (simp only [go_sem, false_implies]; done) | fail) only [go_sem, wrap64, if_pos, y1, y2, Nat.add_assoc, Nat.left_eq_add, Nat.add_eq_left, Nat.add_left_cancel_iff]
          refine hK _ _ _ ?_ ?_ rfl (fun id hid => by simp [V.ids] at hid) (fun j g1 g2 g3 => ?_) ?_ ?_
          · omega
          · exact (by repeat (first | exact hg.mono (by omega) | exact Good.nil | refine Good.upd ?_ (by omega) rfl | refine Good.upd ?_ (by omega) (hLr _ _ _ (by omega)) | refine Good.upd ?_ (by omega) (by simp [Obj'.refs, V.refss, V.refs] <;> omega)))
          · (repeat (first | rfl | rw [upd_same] | rw [upd_ne _ _ _ _ (by omega)]))
          · (repeat (first | rfl | rw [upd_same] | rw [upd_ne _ _ _ _ (by omega)]))
          · (repeat (first | rfl | rw [upd_same] | rw [upd_ne _ _ _ _ (by omega)]))
            rw [aSet_new hl2]
        · subst e1
          have hbl : b < nx := hg.lt (by rw [hb]; exact Obj'.noConfusion)
          have z1 : b ≠ nx := by omega
          have z2 : ∀ k, b ≠ nx + k := fun k => by omega
          simp +contextual (disch := first | omega | (simp only [go_sem, false_implies]; done) | fail) only [go_sem, wrap64, if_pos, hc, hfm, hb, hnl, hnl2, y1, y2, y3, y4, z1, z2, Nat.add_assoc, Nat.left_eq_add, Nat.add_eq_left, Nat.add_left_cancel_iff, h1']
          refine end_intro (objsOk_reads rfl) ?_
          simp +contextual (disch := first | omega | (simp only [go_sem, false_implies]; done) | fail) only [go_sem, wrap64, if_pos, hc, hfm, hb, hnl, hnl2, y1, y2, y3, y4, z1, z2, Nat.add_assoc, Nat.left_eq_add, Nat.add_eq_left, Nat.add_left_cancel_iff, h1']
          refine callR_heap (new_c cid n (.mp fid) _ _ (by (repeat (first | rfl | rw [upd_same] | rw [upd_ne _ _ _ _ (by omega)])); exact hc) ⟨hp.n0, by have := hp.n1; omega⟩ (by repeat (first | exact hg.mono (by omega) | exact Good.nil | refine Good.upd ?_ (by omega) rfl | refine Good.upd ?_ (by omega) (hLr _ _ _ (by omega)) | refine Good.upd ?_ (by omega) (by simp [Obj'.refs, V.refss, V.refs] <;> omega))) _ _ ?_)
          simp +contextual (disch := first | omega | (simp only [go_sem, false_implies]; done) | fail) only [go_sem, wrap64, if_pos, hc, hfm, y1, y2, y3, y4, hcf, hfc, Nat.add_assoc, Nat.left_eq_add, Nat.add_eq_left, Nat.add_left_cancel_iff]
          refine end_intro (objsOk_wr (by kernel_rfl)) ?_
          simp +contextual (disch := first | omega | (simp only [go_sem, false_implies]; done) | fail) only [go_sem, wrap64, if_pos, Nat.add_assoc, Nat.left_eq_add, Nat.add_eq_left, Nat.add_left_cancel_iff]
          refine call_give (variable_c' n) ?_
          simp +contextual (disch := first | omega | (simp only [go_sem, false_implies]; done) | fail) only [go_sem, wrap64, if_pos, y1, y2, Nat.add_assoc, Nat.left_eq_add, Nat.add_eq_left, Nat.add_left_cancel_iff]
          refine hK _ _ _ ?_ ?_ rfl (fun id hid => by simp [V.ids] at hid) (fun j g1 g2 g3 => ?_) ?_ ?_
          · omega
          · exact (by repeat (first | exact hg.mono (by omega) | exact Good.nil | refine Good.upd ?_ (by omega) rfl | refine Good.upd ?_ (by omega) (hLr _ _ _ (by omega)) | refine Good.upd ?_ (by omega) (by simp [Obj'.refs, V.refss, V.refs] <;> omega)))
          · (repeat (first | rfl | rw [upd_same] | rw [upd_ne _ _ _ _ (by omega)]))
          · (repeat (first | rfl | rw [upd_same] | rw [upd_ne _ _ _ _ (by omega)]))
          · (repeat (first | rfl | rw [upd_same] | rw [upd_ne _ _ _ _ (by omega)]))
            rw [aSet_new hl2]
  · have h1' : (t.op == 1) = false := by simpa using h1
    have hg1 : Good o (nx + 3) := hg.mono (by omega)
    cases h8 : (t.op == 8) with
    | false =>
      have ho8 : ¬ t.op = 8 := by simpa using h8
      have hsz := Tm.sz_eq t
      have hn1 := hp.n1
      rw [ordF_eq, if_neg h1, if_neg ho8] at hK
      have ih' : ∀ k ∈ t.kids, OrdC k := fun k hk => ih k hk (hf'.2 k hk)
      have hgA : Good (upd (upd (upd (upd (upd (upd (upd o nx (.row [.ptr cid 0, bv])) (nx + 1) (.row t.row)) (nx + 2) (.row [.d (.i 0), .d (.i 0), .nils])) (nx + 11) (.row [.d (.i 0), .d (.i 0), .nils])) (nx + 11) (.row [.d (.i t.op), .d (.i t.n), .nils])) (nx + 14) (.row [.d .nilp, .d .nilm])) (nx + 14) (.row [.ptr cid 0, bv])) (nx + 23) := by
        have hbr : ∀ r ∈ bv.refs, r < nx := by
          rcases hp.hb with ⟨e1, e2⟩ | ⟨b, e1, hb⟩
          · subst e1; simp [V.refs]
          · subst e1; simp [V.refs]; exact hg.lt (by rw [hb]; exact Obj'.noConfusion)
        have hrow : (Obj'.row [.ptr cid 0, bv]).refs.all (fun r => decide (r < nx + 23)) = true := by
          rw [List.all_eq_true]
          intro r hr
          simp [Obj'.refs, V.refss, V.refs] at hr
          rcases hr with rfl | hr
          · exact decide_eq_true (by omega)
          · exact decide_eq_true (by have := hbr r hr; omega)
        exact (((((((hg.mono (by omega)).upd (by omega) hrow).upd (by omega) rfl).upd (by omega) rfl).upd (by omega) rfl).upd (by omega) rfl).upd (by omega) rfl).upd (by omega) hrow
      simp +contextual (disch := first | omega | (simp only [go_sem, false_implies]; done) | fail) only [go_sem, wrap64, if_pos, hc, hfm, y1, y2, y3, y4, Nat.add_assoc, Nat.left_eq_add, Nat.add_eq_left, Nat.add_left_cancel_iff, h1', h8]
      rcases hp.hb with ⟨e1, e2⟩ | ⟨b, e1, hb⟩
      · subst e1
        have hlk := hp.lk
        rw [e2] at hlk
        refine ordKids0 (t := t) (cid := cid) (fid := fid) (op' := t.op) (N := t.n) (bd := bd) (fr0 := fr) (n0 := n) ih' hgA (by omega) hcl hfl hcf ?_ ?_ ?_ ?_ ?_ ?_ hlk hp.n0 (by omega) ?_ fun e' o' nx' e4 e7 g1 g2 g3 g4 g5 g6 g7 => ?_
        · (repeat (first | rfl | rw [upd_same] | rw [upd_ne _ _ _ _ (by omega)]))
        · (repeat (first | rfl | rw [upd_same] | rw [upd_ne _ _ _ _ (by omega)]))
        · (repeat (first | rfl | rw [upd_same] | rw [upd_ne _ _ _ _ (by omega)]))
        · (repeat (first | rfl | rw [upd_same] | rw [upd_ne _ _ _ _ (by omega)]))
        · (repeat (first | rfl | rw [upd_same] | rw [upd_ne _ _ _ _ (by omega)]))
          exact hc
        · (repeat (first | rfl | rw [upd_same] | rw [upd_ne _ _ _ _ (by omega)]))
          exact hfm
        · (repeat (first | exact backE_nil | refine backE_junk ?_ | refine backE_d rfl ?_ | refine backE_d (d_int (wrapN (by omega))) ?_ | refine backE_v rfl (by simp [V.refs, V.refss] <;> first | omega | assumption) ?_))
        have q2 : o' (nx + 2) = .row [.d (.i 0), .d (.i 0), .nils] := by
          rw [g5 (nx + 2) (by omega) (by omega) (by omega)]; (repeat (first | rfl | rw [upd_same] | rw [upd_ne _ _ _ _ (by omega)]))
        simp +contextual (disch := first | omega | (simp only [go_sem, false_implies]; done) | fail) only [go_sem, wrap64, if_pos, e4, e7, g3, q2, Nat.add_assoc, Nat.left_eq_add, Nat.add_eq_left, Nat.add_left_cancel_iff]
        refine ord_fin hK hcl hfl (by omega) g1 g2 g4 (fun j k1 k2 k3 => ?_) g6 g7 (by omega)
        rw [g5 j (by omega) k2 k3]; (repeat (first | rfl | rw [upd_same] | rw [upd_ne _ _ _ _ (by omega)]))
      · subst e1
        have hbl : b < nx := hg.lt (by rw [hb]; exact Obj'.noConfusion)
        refine ordKids1 (t := t) (cid := cid) (fid := fid) (b := b) (mB := mB) (op' := t.op) (N := t.n) (bd := bd) (fr0 := fr) (n0 := n) ih' hgA (by omega) hcl hfl hcf ?_ ?_ ?_ ?_ ?_ ?_ hp.lk ?_ hp.kb ?_ ?_ hbl hp.n0 (by omega) ?_ fun e' o' nx' e4 e7 g1 g2 g3 g4 g5 g6 g7 => ?_
        · (repeat (first | rfl | rw [upd_same] | rw [upd_ne _ _ _ _ (by omega)]))
        · (repeat (first | rfl | rw [upd_same] | rw [upd_ne _ _ _ _ (by omega)]))
        · (repeat (first | rfl | rw [upd_same] | rw [upd_ne _ _ _ _ (by omega)]))
        · (repeat (first | rfl | rw [upd_same] | rw [upd_ne _ _ _ _ (by omega)]))
        · (repeat (first | rfl | rw [upd_same] | rw [upd_ne _ _ _ _ (by omega)]))
          exact hc
        · (repeat (first | rfl | rw [upd_same] | rw [upd_ne _ _ _ _ (by omega)]))
          exact hfm
        · (repeat (first | rfl | rw [upd_same] | rw [upd_ne _ _ _ _ (by omega)]))
          exact hb
        · intro e; rw [e, hc] at hb; cases hb
        · intro e; rw [e, hfm] at hb; cases hb
        · (repeat (first | exact backE_nil | refine backE_junk ?_ | refine backE_d rfl ?_ | refine backE_d (d_int (wrapN (by omega))) ?_ | refine backE_v rfl (by simp [V.refs, V.refss] <;> first | omega | assumption) ?_))
        have q2 : o' (nx + 2) = .row [.d (.i 0), .d (.i 0), .nils] := by
          rw [g5 (nx + 2) (by omega) (by omega) (by omega)]; (repeat (first | rfl | rw [upd_same] | rw [upd_ne _ _ _ _ (by omega)]))
        simp +contextual (disch := first | omega | (simp only [go_sem, false_implies]; done) | fail) only [go_sem, wrap64, if_pos, e4, e7, g3, q2, Nat.add_assoc, Nat.left_eq_add, Nat.add_eq_left, Nat.add_left_cancel_iff]
        refine ord_fin hK hcl hfl (by omega) g1 g2 g4 (fun j k1 k2 k3 => ?_) g6 g7 (by omega)
        rw [g5 j (by omega) k2 k3]; (repeat (first | rfl | rw [upd_same] | rw [upd_ne _ _ _ _ (by omega)]))
    | true =>
      have ho8 : t.op = 8 := by simpa using h8
      have hsz := Tm.sz_eq t
      have hn1 := hp.n1
      have hbr : ∀ r ∈ bv.refs, r < nx := by
        rcases hp.hb with ⟨e1, e2⟩ | ⟨b, e1, hb⟩
        · subst e1; simp [V.refs]
        · subst e1; simp [V.refs]; exact hg.lt (by rw [hb]; exact Obj'.noConfusion)
      have hrow : ∀ m, nx ≤ m → (Obj'.row [.ptr cid 0, bv]).refs.all (fun r => decide (r < m)) = true := fun m hm => by
        rw [List.all_eq_true]
        intro r hr
        simp [Obj'.refs, V.refss, V.refs] at hr
        rcases hr with rfl | hr
        · exact decide_eq_true (by omega)
        · exact decide_eq_true (by have := hbr r hr; omega)
      rw [ordF_eq, if_neg h1, if_pos ho8] at hK
      simp +contextual (disch := first | omega | (simp only [go_sem, false_implies]; done) | fail) only [go_sem, wrap64, if_pos, hc, hfm, y1, y2, y3, y4, Nat.add_assoc, Nat.left_eq_add, Nat.add_eq_left, Nat.add_left_cancel_iff, h1', h8]
      refine callR_heap (new_c cid n (.mp fid) _ _ (by (repeat (first | rfl | rw [upd_same] | rw [upd_ne _ _ _ _ (by omega)])); exact hc) ⟨hp.n0, by have := hp.n1; omega⟩ ?_ _ _ ?_)
      · exact (((((((hg.mono (by omega)).upd (by omega) (hrow _ (by omega))).upd (by omega) rfl).upd (by omega) rfl).upd (by omega) rfl).upd (by omega) rfl).upd (by omega) rfl).upd (by omega) (hrow _ (by omega))
      rcases hp.hb with ⟨e1, e2⟩ | ⟨b, e1, hb⟩
      · subst e1
        simp +contextual (disch := first | omega | (simp only [go_sem, false_implies]; done) | fail) only [go_sem, wrap64, if_pos, hc, hfm, y1, y2, y3, y4, hcf, hfc, Nat.add_assoc, Nat.left_eq_add, Nat.add_eq_left, Nat.add_left_cancel_iff, aSet_nil]
        refine ordCopy_c (t := t) (cid := cid) (ib := nx + 38) (it := nx + 49) (own := n) (mB := []) ?_ (by omega) hcl ?_ ?_ ?_ ?_ List.nodup_nil (by omega) (by omega) ?_ fun e' o' nx' mI q2 q3 q4 q7 q8 g1 g2 g3 g4 g5 g6 => ?_
        · exact (by repeat (first | exact hg.mono (by omega) | exact Good.nil | refine Good.upd ?_ (by omega) rfl | refine Good.upd ?_ (by omega) (hLr _ _ _ (by omega)) | refine Good.upd ?_ (by omega) (by simp [Obj'.refs, V.refss, V.refs] <;> omega)))
        · (repeat (first | rfl | rw [upd_same] | rw [upd_ne _ _ _ _ (by omega)]))
        · (repeat (first | rfl | rw [upd_same] | rw [upd_ne _ _ _ _ (by omega)]))
        · (repeat (first | rfl | rw [upd_same] | rw [upd_ne _ _ _ _ (by omega)]))
        · (repeat (first | rfl | rw [upd_same] | rw [upd_ne _ _ _ _ (by omega)]))
        · (repeat (first | exact backE_nil | refine backE_junk ?_ | refine backE_d rfl ?_ | refine backE_d (d_int (wrapN (by omega))) ?_ | refine backE_v rfl (by simp [V.refs, V.refss] <;> first | omega | assumption) ?_))
        have u0 : o' nx = .row [.ptr cid 0, .d .nilm] := by rw [g3 nx (by omega)]; (repeat (first | rfl | rw [upd_same] | rw [upd_ne _ _ _ _ (by omega)]))
        have u1 : o' (nx + 1) = .row t.row := by rw [g3 (nx + 1) (by omega)]; (repeat (first | rfl | rw [upd_same] | rw [upd_ne _ _ _ _ (by omega)]))
        have u2 : o' (nx + 2) = .row [.d (.i 0), .d (.i 0), .nils] := by rw [g3 (nx + 2) (by omega)]; (repeat (first | rfl | rw [upd_same] | rw [upd_ne _ _ _ _ (by omega)]))
        have u11 : o' (nx + 11) = .row [.d (.i t.op), .d (.i n), .nils] := by rw [g3 (nx + 11) (by omega)]; (repeat (first | rfl | rw [upd_same] | rw [upd_ne _ _ _ _ (by omega)]))
        have u14 : o' (nx + 14) = .row [.ptr cid 0, .mp (nx + 38)] := by rw [g3 (nx + 14) (by omega)]; (repeat (first | rfl | rw [upd_same] | rw [upd_ne _ _ _ _ (by omega)]))
        have uc : o' cid = .row [.d (.i (n + 1)), .mp fid] := by rw [g3 cid (by omega)]; (repeat (first | rfl | rw [upd_same] | rw [upd_ne _ _ _ _ (by omega)]))
        have uf : o' fid = mapI fr := by rw [g3 fid (by omega)]; (repeat (first | rfl | rw [upd_same] | rw [upd_ne _ _ _ _ (by omega)]))
                                         exact hfm
        simp +contextual (disch := first | omega | (simp only [go_sem, false_implies]; done) | fail) only [go_sem, wrap64, if_pos, q2, q3, q4, q7, q8, u0, u1, u2, u11, u14, Nat.add_assoc, Nat.left_eq_add, Nat.add_eq_left, Nat.add_left_cancel_iff]
        have hK' : OrdK o nx cid fid (.mk t.op n (ordsF t.kids bd ((t.n, n) :: bd) 0 fr (n + 1)).1, (ordsF t.kids bd ((t.n, n) :: bd) 0 fr (n + 1)).2) K := by rw [ho8]; exact hK
        have ih' : ∀ k ∈ t.kids, OrdC k := fun k hk => ih k hk (hf'.2 k hk)
        have hn0 := hp.n0
        have hlk := hp.lk
        rw [e2] at hlk
        refine ordKids2 (t := t) (cid := cid) (fid := fid) (ib := nx + 38) (mI := mI) (inn := (t.n, n) :: bd) (op' := t.op) (N := n) (bd := bd) (fr0 := fr) (n0 := n + 1) ih' (g2.mono (by omega)) (by omega) hcl hfl hcf u0 u1 u11 u14 uc uf hlk  g4 g5 (fun v => ?_) (by omega) (by omega) (by omega) (by omega) ?_ fun e2 o2 n2 k4 k7 l1 l2 l3 l4 l5 l6 l7 => ?_
        · rw [g6 v, hlk v]; rfl
        · (repeat (first | exact backE_nil | refine backE_junk ?_ | refine backE_d rfl ?_ | refine backE_d (d_int (wrapN (by omega))) ?_ | refine backE_v rfl (by simp [V.refs, V.refss] <;> first | omega | assumption) ?_ | refine backE_d (by first | exact q0 | exact q1 | exact q2 | exact q3 | exact q4 | exact q5 | exact q6 | exact q7 | exact q8 | exact q9 | exact q10 | exact q11 | exact q12 | exact q13 | exact q14 | exact q15 | exact q16 | exact q17 | exact q18 | exact q19 | exact q20 | exact q21 | exact q22 | exact q23 | exact q24 | exact q25 | exact q26 | exact q27 | exact q28 | exact q29 | exact q30 | exact q31 | exact q32 | exact q33 | exact q34 | exact q35 | exact q36 | exact q37 | exact q38 | exact q39 | exact q40) ?_ | refine backE_v (by first | exact q0 | exact q1 | exact q2 | exact q3 | exact q4 | exact q5 | exact q6 | exact q7 | exact q8 | exact q9 | exact q10 | exact q11 | exact q12 | exact q13 | exact q14 | exact q15 | exact q16 | exact q17 | exact q18 | exact q19 | exact q20 | exact q21 | exact q22 | exact q23 | exact q24 | exact q25 | exact q26 | exact q27 | exact q28 | exact q29 | exact q30 | exact q31 | exact q32 | exact q33 | exact q34 | exact q35 | exact q36 | exact q37 | exact q38 | exact q39 | exact q40) (by simp [V.refs, V.refss] <;> first | omega | assumption) ?_))
        have v2 : o2 (nx + 2) = .row [.d (.i 0), .d (.i 0), .nils] := by
          rw [l5 (nx + 2) (by omega) (by omega) (by omega)]; exact u2
        simp +contextual (disch := first | omega | (simp only [go_sem, false_implies]; done) | fail) only [go_sem, wrap64, if_pos, k4, k7, l3, v2, Nat.add_assoc, Nat.left_eq_add, Nat.add_eq_left, Nat.add_left_cancel_iff]
        refine ord_fin hK' hcl hfl (by omega) l1 l2 l4 (fun j k1 k2 k3 => ?_) l6 l7 (by omega)
        rw [l5 j (by omega) k2 k3, g3 j (by omega)]; (repeat (first | rfl | rw [upd_same] | rw [upd_ne _ _ _ _ (by omega)]))
      · subst e1
        have hbl : b < nx := hg.lt (by rw [hb]; exact Obj'.noConfusion)
        have z1 : b ≠ nx := by omega
        have z2 : ∀ k, b ≠ nx + k := fun k => by omega
        have z3 : b ≠ cid := fun e => by rw [e, hc] at hb; cases hb
        have z4 : b ≠ fid := fun e => by rw [e, hfm] at hb; cases hb
        simp +contextual (disch := first | omega | (simp only [go_sem, false_implies]; done) | fail) only [go_sem, wrap64, if_pos, hc, hfm, hb, y1, y2, y3, y4, z1, z2, z3, hcf, hfc, Nat.add_assoc, Nat.left_eq_add, Nat.add_eq_left, Nat.add_left_cancel_iff, aSet_nil]
        refine ordCopy_c (t := t) (cid := cid) (ib := nx + 38) (it := nx + 49) (own := n) (mB := mB) ?_ (by omega) hcl ?_ ?_ ?_ ?_ hp.kb (by omega) (by omega) ?_ fun e' o' nx' mI q2 q3 q4 q7 q8 g1 g2 g3 g4 g5 g6 => ?_
        · exact (by repeat (first | exact hg.mono (by omega) | exact Good.nil | refine Good.upd ?_ (by omega) rfl | refine Good.upd ?_ (by omega) (hLr _ _ _ (by omega)) | refine Good.upd ?_ (by omega) (by simp [Obj'.refs, V.refss, V.refs] <;> omega)))
        · (repeat (first | rfl | rw [upd_same] | rw [upd_ne _ _ _ _ (by omega)]))
        · (repeat (first | rfl | rw [upd_same] | rw [upd_ne _ _ _ _ (by omega)]))
        · (repeat (first | rfl | rw [upd_same] | rw [upd_ne _ _ _ _ (by omega)]))
        · (repeat (first | rfl | rw [upd_same] | rw [upd_ne _ _ _ _ (by omega)]))
        · (repeat (first | exact backE_nil | refine backE_junk ?_ | refine backE_d rfl ?_ | refine backE_d (d_int (wrapN (by omega))) ?_ | refine backE_v rfl (by simp [V.refs, V.refss] <;> first | omega | assumption) ?_))
        have u0 : o' nx = .row [.ptr cid 0, .mp b] := by rw [g3 nx (by omega)]; (repeat (first | rfl | rw [upd_same] | rw [upd_ne _ _ _ _ (by omega)]))
        have u1 : o' (nx + 1) = .row t.row := by rw [g3 (nx + 1) (by omega)]; (repeat (first | rfl | rw [upd_same] | rw [upd_ne _ _ _ _ (by omega)]))
        have u2 : o' (nx + 2) = .row [.d (.i 0), .d (.i 0), .nils] := by rw [g3 (nx + 2) (by omega)]; (repeat (first | rfl | rw [upd_same] | rw [upd_ne _ _ _ _ (by omega)]))
        have u11 : o' (nx + 11) = .row [.d (.i t.op), .d (.i n), .nils] := by rw [g3 (nx + 11) (by omega)]; (repeat (first | rfl | rw [upd_same] | rw [upd_ne _ _ _ _ (by omega)]))
        have u14 : o' (nx + 14) = .row [.ptr cid 0, .mp (nx + 38)] := by rw [g3 (nx + 14) (by omega)]; (repeat (first | rfl | rw [upd_same] | rw [upd_ne _ _ _ _ (by omega)]))
        have uc : o' cid = .row [.d (.i (n + 1)), .mp fid] := by rw [g3 cid (by omega)]; (repeat (first | rfl | rw [upd_same] | rw [upd_ne _ _ _ _ (by omega)]))
        have uf : o' fid = mapI fr := by rw [g3 fid (by omega)]; (repeat (first | rfl | rw [upd_same] | rw [upd_ne _ _ _ _ (by omega)]))
                                         exact hfm
        simp +contextual (disch := first | omega | (simp only [go_sem, false_implies]; done) | fail) only [go_sem, wrap64, if_pos, q2, q3, q4, q7, q8, u0, u1, u2, u11, u14, Nat.add_assoc, Nat.left_eq_add, Nat.add_eq_left, Nat.add_left_cancel_iff]
        have hK' : OrdK o nx cid fid (.mk t.op n (ordsF t.kids bd ((t.n, n) :: bd) 0 fr (n + 1)).1, (ordsF t.kids bd ((t.n, n) :: bd) 0 fr (n + 1)).2) K := by rw [ho8]; exact hK
        have ih' : ∀ k ∈ t.kids, OrdC k := fun k hk => ih k hk (hf'.2 k hk)
        have hn0 := hp.n0
        have hlk := hp.lk
        have ub : o' b = froI mB := by rw [g3 b (by omega)]; (repeat (first | rfl | rw [upd_same] | rw [upd_ne _ _ _ _ (by omega)]))
                                       exact hb
        refine ordKids3 (t := t) (cid := cid) (fid := fid) (b := b) (mB := mB) (ib := nx + 38) (mI := mI) (inn := (t.n, n) :: bd) (op' := t.op) (N := n) (bd := bd) (fr0 := fr) (n0 := n + 1) ih' (g2.mono (by omega)) (by omega) hcl hfl hcf u0 u1 u11 u14 uc uf hlk ub hp.kb z3 z4 hbl g4 g5 (fun v => ?_) (by omega) (by omega) (by omega) (by omega) ?_ fun e2 o2 n2 k4 k7 l1 l2 l3 l4 l5 l6 l7 => ?_
        · rw [g6 v, hlk v]; rfl
        · (repeat (first | exact backE_nil | refine backE_junk ?_ | refine backE_d rfl ?_ | refine backE_d (d_int (wrapN (by omega))) ?_ | refine backE_v rfl (by simp [V.refs, V.refss] <;> first | omega | assumption) ?_ | refine backE_d (by first | exact q0 | exact q1 | exact q2 | exact q3 | exact q4 | exact q5 | exact q6 | exact q7 | exact q8 | exact q9 | exact q10 | exact q11 | exact q12 | exact q13 | exact q14 | exact q15 | exact q16 | exact q17 | exact q18 | exact q19 | exact q20 | exact q21 | exact q22 | exact q23 | exact q24 | exact q25 | exact q26 | exact q27 | exact q28 | exact q29 | exact q30 | exact q31 | exact q32 | exact q33 | exact q34 | exact q35 | exact q36 | exact q37 | exact q38 | exact q39 | exact q40) ?_ | refine backE_v (by first | exact q0 | exact q1 | exact q2 | exact q3 | exact q4 | exact q5 | exact q6 | exact q7 | exact q8 | exact q9 | exact q10 | exact q11 | exact q12 | exact q13 | exact q14 | exact q15 | exact q16 | exact q17 | exact q18 | exact q19 | exact q20 | exact q21 | exact q22 | exact q23 | exact q24 | exact q25 | exact q26 | exact q27 | exact q28 | exact q29 | exact q30 | exact q31 | exact q32 | exact q33 | exact q34 | exact q35 | exact q36 | exact q37 | exact q38 | exact q39 | exact q40) (by simp [V.refs, V.refss] <;> first | omega | assumption) ?_))
        have v2 : o2 (nx + 2) = .row [.d (.i 0), .d (.i 0), .nils] := by
          rw [l5 (nx + 2) (by omega) (by omega) (by omega)]; exact u2
        simp +contextual (disch := first | omega | (simp only [go_sem, false_implies]; done) | fail) only [go_sem, wrap64, if_pos, k4, k7, l3, v2, Nat.add_assoc, Nat.left_eq_add, Nat.add_eq_left, Nat.add_left_cancel_iff]
        refine ord_fin hK' hcl hfl (by omega) l1 l2 l4 (fun j k1 k2 k3 => ?_) l6 l7 (by omega)
        rw [l5 j (by omega) k2 k3, g3 j (by omega)]; (repeat (first | rfl | rw [upd_same] | rw [upd_ne _ _ _ _ (by omega)]))
end Go.Proofs.YtealblliddhgiaaGreat
