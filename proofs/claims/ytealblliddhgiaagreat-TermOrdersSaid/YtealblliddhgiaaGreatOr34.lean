/-
  A PART OF THE PROOF (put together by program): several texts, one behind the other. Conditions: none.
-/
import Derived.Test.YtealblliddhgiaaGreatOr33
set_option linter.unusedSimpArgs false
set_option linter.unusedVariables false
namespace Go.Proofs.YtealblliddhgiaaGreat
theorem seeO_eq {c : Nat} {G : List Gr} {so : Nat → Obj'} {gone : Nat → Prop} {x x' y y' : Obj'} (h : x = y) (h' : x' = y') (hs : seeO c G so gone y y') : seeO c G so gone x x' := by rw [h, h']; exact hs
theorem seeE_back {c : Nat} {G : List Gr} {so : Nat → Obj'} {gone : Nat → Prop} {e : Nat → V} : ∀ {l : List V} {i : Nat}, backE c e l i → seeE c G so gone e l i
  | [], _, _ => trivial
  | v :: l, i, h => ⟨h.1.elim .inl fun h => .inr (.inl ⟨h.1, fun r hr => h.2 r (by rw [h.1]; exact hr)⟩), seeE_back h.2⟩
theorem len_szs : ∀ l : List Tm, l.length ≤ szs l
  | [] => by simp [szs]
  | k :: l => by have := len_szs l; have := Tm.sz_pos k; rw [szs_cons, List.length_cons]; omega
def ordBody : IC := c110.snd.snd.snd.snd.snd.fst.snd.fst.fst
theorem ordKids0 {t : Tm} (ih : ∀ k ∈ t.kids, OrdC k) {o : Nat → Obj'} {nx c cid fid : Nat} {op' N : Int} {bd fr0 : List (Int × Int)} {n0 : Int} {e : Nat → V} {Q : Xit → S → Prop}
    (hg : Good o c) (hc : nx + 15 ≤ c) (c1 : cid < nx) (c2 : fid < nx) (hcf : cid ≠ fid) (oa : o nx = .row [.ptr cid 0, .d .nilm]) (ot : o (nx + 1) = .row t.row) (oo : o (nx + 11) = .row [.d (.i op'), .d (.i N), .nils]) (os : o (nx + 14) = .row [.ptr cid 0, .d .nilm])
    (oc : o cid = .row [.d (.i n0), .mp fid]) (of : o fid = mapI fr0) (lkh : ∀ v, lk [] v = lk bd v) (p0 : 0 ≤ n0) (p1 : n0 + szs t.kids ≤ 1000000)
    (he : backE c e [.junk, .junk, .ptr nx 0, .ptr (nx + 1) 0, .ptr (nx + 2) 0, .junk, .junk, .ptr (nx + 11) 0, .ptr (nx + 14) 0, .junk, .junk, .junk, .junk, .junk, .junk, .junk, .junk, .junk, .junk, .junk, .junk, .junk, .junk, .junk, .junk, .junk, .junk, .junk, .junk, .junk, .junk, .junk, .junk, .junk, .junk, .junk, .junk, .junk, .junk, .junk, .junk, .junk, .junk, .junk, .junk, .junk, .junk, .junk, .junk, .junk, .junk, .junk, .junk, .junk, .junk, .junk, .junk, .junk, .junk, .junk, .junk, .junk, .junk, .junk, .junk, .junk, .junk, .junk, .junk, .junk, .junk, .junk, .junk, .junk, .junk, .junk, .junk, .junk, .junk, .junk, .junk, .junk, .junk, .junk, .junk, .junk, .junk, .junk, .junk, .d (.sl (t.kids.map Tm.d)), .d (.i t.kids.length), .d (.i 0)] 0)
    (hQ : ∀ e' o' nx', e' 4 = .ptr (nx + 2) 0 → e' 7 = .ptr (nx + 11) 0 → c ≤ nx' → Good o' nx' → o' (nx + 11) = .row [.d (.i op'), .d (.i N), .osl c 0] → o' c = .arr 0 28 3 ((ordsF t.kids bd bd 0 fr0 n0).1.map Tm.d) → (∀ j, j < nx + 11 → j ≠ cid → j ≠ fid → o' j = o j) → o' cid = .row [.d (.i (ordsF t.kids bd bd 0 fr0 n0).2.2), .mp fid] → o' fid = mapI (ordsF t.kids bd bd 0 fr0 n0).2.1 → Q (.exit 2) ⟨e', o', nx'⟩) :
    loopS nx (fun Q s => evW Tryz.prog 116 nx false ordBody Q s) Q ⟨e, o, c⟩ := by
  have hlen := len_szs t.kids
  refine loop_fam (fun i : Nat × List (Int × Int) × Int × List Tm => ⟨envJ [.junk, .junk, .ptr nx 0, .ptr (nx + 1) 0, .ptr (nx + 2) 0, .junk, .junk, .ptr (nx + 11) 0, .ptr (nx + 14) 0, .junk, .junk, .junk, .junk, .junk, .junk, .junk, .junk, .junk, .junk, .junk, .junk, .junk, .junk, .junk, .junk, .junk, .junk, .junk, .junk, .junk, .junk, .junk, .junk, .junk, .junk, .junk, .junk, .junk, .junk, .junk, .junk, .junk, .junk, .junk, .junk, .junk, .junk, .junk, .junk, .junk, .junk, .junk, .junk, .junk, .junk, .junk, .junk, .junk, .junk, .junk, .junk, .junk, .junk, .junk, .junk, .junk, .junk, .junk, .junk, .junk, .junk, .junk, .junk, .junk, .junk, .junk, .junk, .junk, .junk, .junk, .junk, .junk, .junk, .junk, .junk, .junk, .junk, .junk, .junk, .d (.sl (t.kids.map Tm.d)), .d (.i t.kids.length), .d (.i i.1)], upd (upd (upd (upd o cid (.row [.d (.i i.2.2.1), .mp fid])) fid (mapI i.2.1)) (nx + 11) (.row [.d (.i op'), .d (.i N), .osl c 0])) c (.arr 0 28 3 (i.2.2.2.map Tm.d)), c + 1⟩)
    (fun i => i.1 ≤ t.kids.length ∧ 0 ≤ i.2.2.1 ∧ i.2.2.1 + szs (t.kids.drop i.1) ≤ 1000000 ∧ i.2.2.2.length = i.1 ∧ ordsF t.kids bd bd 0 fr0 n0 = (i.2.2.2 ++ (ordsF (t.kids.drop i.1) bd bd i.1 i.2.1 i.2.2.1).1, (ordsF (t.kids.drop i.1) bd bd i.1 i.2.1 i.2.2.1).2)) (fun i => t.kids.length - i.1) (0, fr0, n0, []) ⟨Nat.zero_le _, p0, p1, rfl, rfl⟩ (SLe.see1 (fun _ => False) .nils c _ (by omega) (fun j hj => ?_) (upd_same _ _ _) (.inl ⟨rfl, rfl, by decide⟩) (fun j hj => ?_) (fun _ h => h.elim) (seeE_back he)) ?_
  · by_cases e1 : j = nx + 11
    · subst e1
      exact seeO_eq oo (by (repeat (first | rfl | rw [upd_same] | rw [upd_ne _ _ _ _ (by omega)]))) (seeO_row rfl (seeL_d (seeL_d (seeL_g 0 rfl rfl rfl seeL_nil))))
    · by_cases e2 : j = fid
      · subst e2
        exact seeO_eq of (by (repeat (first | rfl | rw [upd_same] | rw [upd_ne _ _ _ _ (by omega)]))) (seeO_same rfl (by simp [Obj'.refs]))
      · by_cases e3 : j = cid
        · subst e3
          exact seeO_eq oc (by (repeat (first | rfl | rw [upd_same] | rw [upd_ne _ _ _ _ (by omega)]))) (seeO_same rfl (by simp [Obj'.refs, V.refss, V.refs]; omega))
        · exact seeO_eq rfl (by (repeat (first | rfl | rw [upd_same] | rw [upd_ne _ _ _ _ (by omega)]))) (seeO_same rfl (fun r hr => hg.refs j r hr))
  · (repeat (first | rfl | rw [upd_same] | rw [upd_ne _ _ _ _ (by omega)]))
    exact hg.fresh j (by omega)
  rintro ⟨k, fr, n, don⟩ ⟨hk, q0, q1, q2, q3⟩
  simp only at hk q0 q1 q2 q3
  have y1 : cid ≠ c := by omega
  have y2 : ∀ k, cid ≠ c + k := fun k => by omega
  have y3 : fid ≠ c := by omega
  have y4 : ∀ k, fid ≠ c + k := fun k => by omega
  have y5 : cid ≠ nx + 11 := by omega
  have y6 : fid ≠ nx + 11 := by omega
  have y7 : ∀ k, k < 15 → nx + k ≠ c := fun k hk => by omega
  have y8 : ∀ k j, k < 15 → nx + k ≠ c + j := fun k j hk => by omega
  have y9 : ∀ k, cid ≠ nx + k := fun k => by omega
  have y10 : ∀ k, fid ≠ nx + k := fun k => by omega
  have y11 : nx ≠ cid := by omega
  have y12 : nx ≠ fid := by omega
  have hfc : fid ≠ cid := fun e => hcf e.symm
  simp only [ordBody, c110, IC.snd, IC.fst]
  simp +contextual (disch := first | omega | (simp only [go_sem, false_implies]; done) | fail) only [go_sem, wrap64, if_pos, oa, ot, oo, os, oc, of, y5, y6, y9, y10, y1, y2, y3, y4, y7, y8, y11, y12, Nat.add_assoc, Nat.left_eq_add, Nat.add_eq_left, Nat.add_left_cancel_iff, List.length_map]
  refine cond_intro (fun h2 => ?_) (fun h2 => ?_)
  · simp at h2
    obtain ⟨x, hx⟩ := get_of_lt h2
    have hxm := List.mem_of_getElem? hx
    have hdr : t.kids.drop k = x :: t.kids.drop (k + 1) := by
      obtain ⟨h5, h6⟩ := List.getElem?_eq_some_iff.1 hx
      rw [List.drop_eq_getElem_cons h5, h6]
    rw [hdr, szs_cons] at q1
    cases ek : ((k : Int) == 1) with
    | false =>
      have ek1 : ¬ k = 1 := by simp at ek; omega
      simp +contextual (disch := first | omega | (simp only [go_sem, false_implies]; done) | fail) only [go_sem, wrap64, if_pos, oa, ot, oo, os, oc, of, y5, y6, y9, y10, y1, y2, y3, y4, y7, y8, y11, y12, Nat.add_assoc, Nat.left_eq_add, Nat.add_eq_left, Nat.add_left_cancel_iff, List.length_map, hx, ek]
      refine callDR_keep (by simp; omega) (order_H0 (ih x hxm) (n := n) (fr := fr) (bd := bd) (nx := c + 10) (cid := cid) (fid := fid) ?_ ?_ lkh q0 (by omega) (by omega) (by omega)) ?_
      · (repeat (first | rfl | rw [upd_same] | rw [upd_ne _ _ _ _ (by omega)]))
      · (repeat (first | rfl | rw [upd_same] | rw [upd_ne _ _ _ _ (by omega)]))
      simp +contextual (disch := first | omega | (simp only [go_sem, false_implies]; done) | fail) only [go_sem, wrap64, if_pos, oa, ot, oo, os, oc, of, y5, y6, y9, y10, y1, y2, y3, y4, y7, y8, y11, y12, Nat.add_assoc, Nat.left_eq_add, Nat.add_eq_left, Nat.add_left_cancel_iff, List.length_map]
      have hif : (if k = 1 then bd else bd) = bd := by split <;> rfl
      have hnx := ord_next x bd fr n
      refine end_intro (objsOk_renL (ids := [cid, fid, nx, nx + 11, c, c + 5, nx + 14]) (nx := c + 10) (by simp; omega) (by simp; omega) [([3], []), ([3], []), ([2], []), ([5], []), ([0, 1], [0, 1]), ([], [12]), ([4, 12], [4]), ([3], []), ([3, 4], [3])] (by decide)) ?_
      simp +contextual (disch := first | omega | (simp only [go_sem, false_implies]; done) | fail) only [go_sem, wrap64, if_pos, Nat.add_assoc, Nat.left_eq_add, Nat.add_eq_left, Nat.add_left_cancel_iff]
      refine nextS_intro (k + 1, (ordF x bd fr n).2.1, (ordF x bd fr n).2.2, don ++ [(ordF x bd fr n).1]) ⟨h2, by dsimp only; omega, by dsimp only; omega, by dsimp only; simp [q2], by dsimp only; rw [q3, hdr]; simp only [ordsF, hif, List.append_assoc]; rfl⟩ (by dsimp only; omega) (SLe.see1 (fun j => j = c) (.osl c 1) c _ (by omega) (fun j hj => ?_) (upd_same _ _ _) (.inr ⟨c, 1, rfl, rfl, by (repeat (first | rfl | rw [upd_same] | rw [upd_ne _ _ _ _ (by omega)])); rw [List.map_append]; rfl⟩) (fun j hj => ?_) (fun j h h2 => by omega) ?_)
      · by_cases e1 : j = nx + 11
        · subst e1
          exact seeO_eq (y := .row [.d (.i op'), .d (.i N), .osl c 1]) (by (repeat (first | rfl | rw [upd_same] | rw [upd_ne _ _ _ _ (by omega)]))) (by (repeat (first | rfl | rw [upd_same] | rw [upd_ne _ _ _ _ (by omega)]))) (seeO_row rfl (seeL_d (seeL_d (seeL_g 0 rfl rfl rfl seeL_nil))))
        · by_cases e2 : j = fid
          · subst e2
            exact seeO_eq (y := mapI (ordF x bd fr n).2.1) (by (repeat (first | rfl | rw [upd_same] | rw [upd_ne _ _ _ _ (by omega)]))) (by (repeat (first | rfl | rw [upd_same] | rw [upd_ne _ _ _ _ (by omega)]))) (seeO_same rfl (by simp [Obj'.refs]))
          · by_cases e3 : j = cid
            · subst e3
              exact seeO_eq (y := .row [.d (.i (ordF x bd fr n).2.2), .mp fid]) (by (repeat (first | rfl | rw [upd_same] | rw [upd_ne _ _ _ _ (by omega)]))) (by (repeat (first | rfl | rw [upd_same] | rw [upd_ne _ _ _ _ (by omega)]))) (seeO_same rfl (by simp [Obj'.refs, V.refss, V.refs]; omega))
            · exact seeO_eq (y := o j) (by (repeat (first | rfl | rw [upd_same] | rw [upd_ne _ _ _ _ (by omega)]))) (by (repeat (first | rfl | rw [upd_same] | rw [upd_ne _ _ _ _ (by omega)]))) (seeO_same rfl (fun r hr => hg.refs j r hr))
      · (repeat (first | rfl | rw [upd_same] | rw [upd_ne _ _ _ _ (by omega)]))
        exact hg.fresh j (by omega)
      · (repeat (first | exact seeE_nil | refine seeE_junk ?_ | refine seeE_d rfl ?_ | refine seeE_d (d_int (wrapN (by omega))) ?_ | refine seeE_g 0 rfl rfl rfl ?_ | refine seeE_v rfl (by simp [V.refs, V.refss] <;> first | omega | assumption) ?_ | refine seeE_c rfl (by simp [V.ids] <;> omega) ?_))
    | true =>
      have ek1 : k = 1 := by simp at ek; omega
      simp +contextual (disch := first | omega | (simp only [go_sem, false_implies]; done) | fail) only [go_sem, wrap64, if_pos, oa, ot, oo, os, oc, of, y5, y6, y9, y10, y1, y2, y3, y4, y7, y8, y11, y12, Nat.add_assoc, Nat.left_eq_add, Nat.add_eq_left, Nat.add_left_cancel_iff, List.length_map, hx, ek]
      refine callDR_keep (by simp; omega) (order_H0 (ih x hxm) (n := n) (fr := fr) (bd := bd) (nx := c + 10) (cid := cid) (fid := fid) ?_ ?_ lkh q0 (by omega) (by omega) (by omega)) ?_
      · (repeat (first | rfl | rw [upd_same] | rw [upd_ne _ _ _ _ (by omega)]))
      · (repeat (first | rfl | rw [upd_same] | rw [upd_ne _ _ _ _ (by omega)]))
      simp +contextual (disch := first | omega | (simp only [go_sem, false_implies]; done) | fail) only [go_sem, wrap64, if_pos, oa, ot, oo, os, oc, of, y5, y6, y9, y10, y1, y2, y3, y4, y7, y8, y11, y12, Nat.add_assoc, Nat.left_eq_add, Nat.add_eq_left, Nat.add_left_cancel_iff, List.length_map]
      have hif : (if k = 1 then bd else bd) = bd := by split <;> rfl
      have hnx := ord_next x bd fr n
      refine end_intro (objsOk_renL (ids := [cid, fid, nx, nx + 11, c, c + 5, nx + 14]) (nx := c + 10) (by simp; omega) (by simp; omega) [([3], []), ([3], []), ([6], []), ([5], []), ([0, 1], [0, 1]), ([], [12]), ([4, 12], [4]), ([3], []), ([3, 4], [3])] (by decide)) ?_
      simp +contextual (disch := first | omega | (simp only [go_sem, false_implies]; done) | fail) only [go_sem, wrap64, if_pos, Nat.add_assoc, Nat.left_eq_add, Nat.add_eq_left, Nat.add_left_cancel_iff]
      refine nextS_intro (k + 1, (ordF x bd fr n).2.1, (ordF x bd fr n).2.2, don ++ [(ordF x bd fr n).1]) ⟨h2, by dsimp only; omega, by dsimp only; omega, by dsimp only; simp [q2], by dsimp only; rw [q3, hdr]; simp only [ordsF, hif, List.append_assoc]; rfl⟩ (by dsimp only; omega) (SLe.see1 (fun j => j = c) (.osl c 1) c _ (by omega) (fun j hj => ?_) (upd_same _ _ _) (.inr ⟨c, 1, rfl, rfl, by (repeat (first | rfl | rw [upd_same] | rw [upd_ne _ _ _ _ (by omega)])); rw [List.map_append]; rfl⟩) (fun j hj => ?_) (fun j h h2 => by omega) ?_)
      · by_cases e1 : j = nx + 11
        · subst e1
          exact seeO_eq (y := .row [.d (.i op'), .d (.i N), .osl c 1]) (by (repeat (first | rfl | rw [upd_same] | rw [upd_ne _ _ _ _ (by omega)]))) (by (repeat (first | rfl | rw [upd_same] | rw [upd_ne _ _ _ _ (by omega)]))) (seeO_row rfl (seeL_d (seeL_d (seeL_g 0 rfl rfl rfl seeL_nil))))
        · by_cases e2 : j = fid
          · subst e2
            exact seeO_eq (y := mapI (ordF x bd fr n).2.1) (by (repeat (first | rfl | rw [upd_same] | rw [upd_ne _ _ _ _ (by omega)]))) (by (repeat (first | rfl | rw [upd_same] | rw [upd_ne _ _ _ _ (by omega)]))) (seeO_same rfl (by simp [Obj'.refs]))
          · by_cases e3 : j = cid
            · subst e3
              exact seeO_eq (y := .row [.d (.i (ordF x bd fr n).2.2), .mp fid]) (by (repeat (first | rfl | rw [upd_same] | rw [upd_ne _ _ _ _ (by omega)]))) (by (repeat (first | rfl | rw [upd_same] | rw [upd_ne _ _ _ _ (by omega)]))) (seeO_same rfl (by simp [Obj'.refs, V.refss, V.refs]; omega))
            · exact seeO_eq (y := o j) (by (repeat (first | rfl | rw [upd_same] | rw [upd_ne _ _ _ _ (by omega)]))) (by (repeat (first | rfl | rw [upd_same] | rw [upd_ne _ _ _ _ (by omega)]))) (seeO_same rfl (fun r hr => hg.refs j r hr))
      · (repeat (first | rfl | rw [upd_same] | rw [upd_ne _ _ _ _ (by omega)]))
        exact hg.fresh j (by omega)
      · (repeat (first | exact seeE_nil | refine seeE_junk ?_ | refine seeE_d rfl ?_ | refine seeE_d (d_int (wrapN (by omega))) ?_ | refine seeE_g 0 rfl rfl rfl ?_ | refine seeE_v rfl (by simp [V.refs, V.refss] <;> first | omega | assumption) ?_ | refine seeE_c rfl (by simp [V.ids] <;> omega) ?_))
  · simp at h2
    simp +contextual (disch := first | omega | (simp only [go_sem, false_implies]; done) | fail) only [go_sem, wrap64, if_pos, and_self]
    have hnil : t.kids.drop k = [] := List.drop_eq_nil_of_le h2
    rw [hnil] at q3
    simp only [ordsF, List.append_nil] at q3
    rw [q3] at hQ
    refine hQ _ _ _ rfl rfl ?_ ?_ ?_ ?_ (fun j g1 g2 g3 => ?_) ?_ ?_
    · omega
    · exact (by repeat (first | exact hg.mono (by omega) | exact Good.nil | refine Good.upd ?_ (by omega) rfl | refine Good.upd ?_ (by omega) (hLr _ _ _ (by omega)) | refine Good.upd ?_ (by omega) (by simp [Obj'.refs, V.refss, V.refs] <;> omega)))
    · (repeat (first | rfl | rw [upd_same] | rw [upd_ne _ _ _ _ (by omega)]))
    · (repeat (first | rfl | rw [upd_same] | rw [upd_ne _ _ _ _ (by omega)]))
    · (repeat (first | rfl | rw [upd_same] | rw [upd_ne _ _ _ _ (by omega)]))
    · (repeat (first | rfl | rw [upd_same] | rw [upd_ne _ _ _ _ (by omega)]))
    · (repeat (first | rfl | rw [upd_same] | rw [upd_ne _ _ _ _ (by omega)]))
theorem ordKids1 {t : Tm} (ih : ∀ k ∈ t.kids, OrdC k) {o : Nat → Obj'} {nx c cid fid : Nat} {b : Nat} {mB : List (Int × Int)} {op' N : Int} {bd fr0 : List (Int × Int)} {n0 : Int} {e : Nat → V} {Q : Xit → S → Prop}
    (hg : Good o c) (hc : nx + 15 ≤ c) (c1 : cid < nx) (c2 : fid < nx) (hcf : cid ≠ fid) (oa : o nx = .row [.ptr cid 0, .mp b]) (ot : o (nx + 1) = .row t.row) (oo : o (nx + 11) = .row [.d (.i op'), .d (.i N), .nils]) (os : o (nx + 14) = .row [.ptr cid 0, .mp b])
    (oc : o cid = .row [.d (.i n0), .mp fid]) (of : o fid = mapI fr0) (lkh : ∀ v, lk mB v = lk bd v) (ob : o b = froI mB) (kb : Keys mB) (b1 : b ≠ cid) (b2 : b ≠ fid) (b3 : b < nx) (p0 : 0 ≤ n0) (p1 : n0 + szs t.kids ≤ 1000000)
    (he : backE c e [.junk, .junk, .ptr nx 0, .ptr (nx + 1) 0, .ptr (nx + 2) 0, .junk, .junk, .ptr (nx + 11) 0, .ptr (nx + 14) 0, .junk, .junk, .junk, .junk, .junk, .junk, .junk, .junk, .junk, .junk, .junk, .junk, .junk, .junk, .junk, .junk, .junk, .junk, .junk, .junk, .junk, .junk, .junk, .junk, .junk, .junk, .junk, .junk, .junk, .junk, .junk, .junk, .junk, .junk, .junk, .junk, .junk, .junk, .junk, .junk, .junk, .junk, .junk, .junk, .junk, .junk, .junk, .junk, .junk, .junk, .junk, .junk, .junk, .junk, .junk, .junk, .junk, .junk, .junk, .junk, .junk, .junk, .junk, .junk, .junk, .junk, .junk, .junk, .junk, .junk, .junk, .junk, .junk, .junk, .junk, .junk, .junk, .junk, .junk, .junk, .d (.sl (t.kids.map Tm.d)), .d (.i t.kids.length), .d (.i 0)] 0)
    (hQ : ∀ e' o' nx', e' 4 = .ptr (nx + 2) 0 → e' 7 = .ptr (nx + 11) 0 → c ≤ nx' → Good o' nx' → o' (nx + 11) = .row [.d (.i op'), .d (.i N), .osl c 0] → o' c = .arr 0 28 3 ((ordsF t.kids bd bd 0 fr0 n0).1.map Tm.d) → (∀ j, j < nx + 11 → j ≠ cid → j ≠ fid → o' j = o j) → o' cid = .row [.d (.i (ordsF t.kids bd bd 0 fr0 n0).2.2), .mp fid] → o' fid = mapI (ordsF t.kids bd bd 0 fr0 n0).2.1 → Q (.exit 2) ⟨e', o', nx'⟩) :
    loopS nx (fun Q s => evW Tryz.prog 116 nx false ordBody Q s) Q ⟨e, o, c⟩ := by
  have hlen := len_szs t.kids
  refine loop_fam (fun i : Nat × List (Int × Int) × Int × List Tm => ⟨envJ [.junk, .junk, .ptr nx 0, .ptr (nx + 1) 0, .ptr (nx + 2) 0, .junk, .junk, .ptr (nx + 11) 0, .ptr (nx + 14) 0, .junk, .junk, .junk, .junk, .junk, .junk, .junk, .junk, .junk, .junk, .junk, .junk, .junk, .junk, .junk, .junk, .junk, .junk, .junk, .junk, .junk, .junk, .junk, .junk, .junk, .junk, .junk, .junk, .junk, .junk, .junk, .junk, .junk, .junk, .junk, .junk, .junk, .junk, .junk, .junk, .junk, .junk, .junk, .junk, .junk, .junk, .junk, .junk, .junk, .junk, .junk, .junk, .junk, .junk, .junk, .junk, .junk, .junk, .junk, .junk, .junk, .junk, .junk, .junk, .junk, .junk, .junk, .junk, .junk, .junk, .junk, .junk, .junk, .junk, .junk, .junk, .junk, .junk, .junk, .junk, .d (.sl (t.kids.map Tm.d)), .d (.i t.kids.length), .d (.i i.1)], upd (upd (upd (upd o cid (.row [.d (.i i.2.2.1), .mp fid])) fid (mapI i.2.1)) (nx + 11) (.row [.d (.i op'), .d (.i N), .osl c 0])) c (.arr 0 28 3 (i.2.2.2.map Tm.d)), c + 1⟩)
    (fun i => i.1 ≤ t.kids.length ∧ 0 ≤ i.2.2.1 ∧ i.2.2.1 + szs (t.kids.drop i.1) ≤ 1000000 ∧ i.2.2.2.length = i.1 ∧ ordsF t.kids bd bd 0 fr0 n0 = (i.2.2.2 ++ (ordsF (t.kids.drop i.1) bd bd i.1 i.2.1 i.2.2.1).1, (ordsF (t.kids.drop i.1) bd bd i.1 i.2.1 i.2.2.1).2)) (fun i => t.kids.length - i.1) (0, fr0, n0, []) ⟨Nat.zero_le _, p0, p1, rfl, rfl⟩ (SLe.see1 (fun _ => False) .nils c _ (by omega) (fun j hj => ?_) (upd_same _ _ _) (.inl ⟨rfl, rfl, by decide⟩) (fun j hj => ?_) (fun _ h => h.elim) (seeE_back he)) ?_
  · by_cases e1 : j = nx + 11
    · subst e1
      exact seeO_eq oo (by (repeat (first | rfl | rw [upd_same] | rw [upd_ne _ _ _ _ (by omega)]))) (seeO_row rfl (seeL_d (seeL_d (seeL_g 0 rfl rfl rfl seeL_nil))))
    · by_cases e2 : j = fid
      · subst e2
        exact seeO_eq of (by (repeat (first | rfl | rw [upd_same] | rw [upd_ne _ _ _ _ (by omega)]))) (seeO_same rfl (by simp [Obj'.refs]))
      · by_cases e3 : j = cid
        · subst e3
          exact seeO_eq oc (by (repeat (first | rfl | rw [upd_same] | rw [upd_ne _ _ _ _ (by omega)]))) (seeO_same rfl (by simp [Obj'.refs, V.refss, V.refs]; omega))
        · exact seeO_eq rfl (by (repeat (first | rfl | rw [upd_same] | rw [upd_ne _ _ _ _ (by omega)]))) (seeO_same rfl (fun r hr => hg.refs j r hr))
  · (repeat (first | rfl | rw [upd_same] | rw [upd_ne _ _ _ _ (by omega)]))
    exact hg.fresh j (by omega)
  rintro ⟨k, fr, n, don⟩ ⟨hk, q0, q1, q2, q3⟩
  simp only at hk q0 q1 q2 q3
  have y1 : cid ≠ c := by omega
  have y2 : ∀ k, cid ≠ c + k := fun k => by omega
  have y3 : fid ≠ c := by omega
  have y4 : ∀ k, fid ≠ c + k := fun k => by omega
  have y5 : cid ≠ nx + 11 := by omega
  have y6 : fid ≠ nx + 11 := by omega
  have y7 : ∀ k, k < 15 → nx + k ≠ c := fun k hk => by omega
  have y8 : ∀ k j, k < 15 → nx + k ≠ c + j := fun k j hk => by omega
  have y9 : ∀ k, cid ≠ nx + k := fun k => by omega
  have y10 : ∀ k, fid ≠ nx + k := fun k => by omega
  have y11 : nx ≠ cid := by omega
  have y12 : nx ≠ fid := by omega
  have hfc : fid ≠ cid := fun e => hcf e.symm
  have z1 : b ≠ c := by omega
  have z2 : ∀ k, b ≠ c + k := fun k => by omega
  have z3 : ∀ k, b ≠ nx + k := fun k => by omega
  have z4 : nx ≠ b := by omega
  have z5 : ∀ k, nx + k ≠ b := fun k => by omega
  have z6 : c ≠ b := by omega
  simp only [ordBody, c110, IC.snd, IC.fst]
  simp +contextual (disch := first | omega | (simp only [go_sem, false_implies]; done) | fail) only [go_sem, wrap64, if_pos, oa, ot, oo, os, oc, of, y5, y6, y9, y10, y1, y2, y3, y4, y7, y8, y11, y12, Nat.add_assoc, Nat.left_eq_add, Nat.add_eq_left, Nat.add_left_cancel_iff, List.length_map, z1, z2, z3, z4, z5, z6]
  refine cond_intro (fun h2 => ?_) (fun h2 => ?_)
  · simp at h2
    obtain ⟨x, hx⟩ := get_of_lt h2
    have hxm := List.mem_of_getElem? hx
    have hdr : t.kids.drop k = x :: t.kids.drop (k + 1) := by
      obtain ⟨h5, h6⟩ := List.getElem?_eq_some_iff.1 hx
      rw [List.drop_eq_getElem_cons h5, h6]
    rw [hdr, szs_cons] at q1
    cases ek : ((k : Int) == 1) with
    | false =>
      have ek1 : ¬ k = 1 := by simp at ek; omega
      simp +contextual (disch := first | omega | (simp only [go_sem, false_implies]; done) | fail) only [go_sem, wrap64, if_pos, oa, ot, oo, os, oc, of, y5, y6, y9, y10, y1, y2, y3, y4, y7, y8, y11, y12, Nat.add_assoc, Nat.left_eq_add, Nat.add_eq_left, Nat.add_left_cancel_iff, List.length_map, z1, z2, z3, z4, z5, z6, hx, ek]
      refine callDR_keep (by simp; omega) (order_H1 (ih x hxm) (n := n) (fr := fr) (bd := bd) (mB := mB) (b := b) (nx := c + 10) (cid := cid) (fid := fid) ?_ ?_ (.inr ?_) b1 b2 kb lkh q0 (by omega) (by omega) (by omega) (by omega)) ?_
      · (repeat (first | rfl | rw [upd_same] | rw [upd_ne _ _ _ _ (by omega)]))
      · (repeat (first | rfl | rw [upd_same] | rw [upd_ne _ _ _ _ (by omega)]))
      · (repeat (first | rfl | rw [upd_same] | rw [upd_ne _ _ _ _ (by omega)]))
        exact ob
      simp +contextual (disch := first | omega | (simp only [go_sem, false_implies]; done) | fail) only [go_sem, wrap64, if_pos, oa, ot, oo, os, oc, of, y5, y6, y9, y10, y1, y2, y3, y4, y7, y8, y11, y12, Nat.add_assoc, Nat.left_eq_add, Nat.add_eq_left, Nat.add_left_cancel_iff, List.length_map, z1, z2, z3, z4, z5, z6]
      have hif : (if k = 1 then bd else bd) = bd := by split <;> rfl
      have hnx := ord_next x bd fr n
      refine end_intro (objsOk_renL (ids := [cid, fid, nx, nx + 11, c, c + 5, nx + 14, b]) (nx := c + 10) (by simp; omega) (by simp; omega) [([3], []), ([3], []), ([2], []), ([5], []), ([0, 1, 7], [0, 1, 7]), ([], [13]), ([4, 13], [4]), ([3], []), ([3, 4], [3])] (by decide)) ?_
      simp +contextual (disch := first | omega | (simp only [go_sem, false_implies]; done) | fail) only [go_sem, wrap64, if_pos, Nat.add_assoc, Nat.left_eq_add, Nat.add_eq_left, Nat.add_left_cancel_iff]
      refine nextS_intro (k + 1, (ordF x bd fr n).2.1, (ordF x bd fr n).2.2, don ++ [(ordF x bd fr n).1]) ⟨h2, by dsimp only; omega, by dsimp only; omega, by dsimp only; simp [q2], by dsimp only; rw [q3, hdr]; simp only [ordsF, hif, List.append_assoc]; rfl⟩ (by dsimp only; omega) (SLe.see1 (fun j => j = c) (.osl c 1) c _ (by omega) (fun j hj => ?_) (upd_same _ _ _) (.inr ⟨c, 1, rfl, rfl, by (repeat (first | rfl | rw [upd_same] | rw [upd_ne _ _ _ _ (by omega)])); rw [List.map_append]; rfl⟩) (fun j hj => ?_) (fun j h h2 => by omega) ?_)
      · by_cases e1 : j = nx + 11
        · subst e1
          exact seeO_eq (y := .row [.d (.i op'), .d (.i N), .osl c 1]) (by (repeat (first | rfl | rw [upd_same] | rw [upd_ne _ _ _ _ (by omega)]))) (by (repeat (first | rfl | rw [upd_same] | rw [upd_ne _ _ _ _ (by omega)]))) (seeO_row rfl (seeL_d (seeL_d (seeL_g 0 rfl rfl rfl seeL_nil))))
        · by_cases e2 : j = fid
          · subst e2
            exact seeO_eq (y := mapI (ordF x bd fr n).2.1) (by (repeat (first | rfl | rw [upd_same] | rw [upd_ne _ _ _ _ (by omega)]))) (by (repeat (first | rfl | rw [upd_same] | rw [upd_ne _ _ _ _ (by omega)]))) (seeO_same rfl (by simp [Obj'.refs]))
          · by_cases e3 : j = cid
            · subst e3
              exact seeO_eq (y := .row [.d (.i (ordF x bd fr n).2.2), .mp fid]) (by (repeat (first | rfl | rw [upd_same] | rw [upd_ne _ _ _ _ (by omega)]))) (by (repeat (first | rfl | rw [upd_same] | rw [upd_ne _ _ _ _ (by omega)]))) (seeO_same rfl (by simp [Obj'.refs, V.refss, V.refs]; omega))
            · by_cases e5 : j = b
              · subst e5
                exact seeO_eq (y := froI mB) (by (repeat (first | rfl | rw [upd_same] | rw [upd_ne _ _ _ _ (by omega)]))) (by (repeat (first | rfl | rw [upd_same] | rw [upd_ne _ _ _ _ (by omega)])); exact ob) (seeO_same rfl (by simp [Obj'.refs]))
              · exact seeO_eq (y := o j) (by (repeat (first | rfl | rw [upd_same] | rw [upd_ne _ _ _ _ (by omega)]))) (by (repeat (first | rfl | rw [upd_same] | rw [upd_ne _ _ _ _ (by omega)]))) (seeO_same rfl (fun r hr => hg.refs j r hr))
      · (repeat (first | rfl | rw [upd_same] | rw [upd_ne _ _ _ _ (by omega)]))
        exact hg.fresh j (by omega)
      · (repeat (first | exact seeE_nil | refine seeE_junk ?_ | refine seeE_d rfl ?_ | refine seeE_d (d_int (wrapN (by omega))) ?_ | refine seeE_g 0 rfl rfl rfl ?_ | refine seeE_v rfl (by simp [V.refs, V.refss] <;> first | omega | assumption) ?_ | refine seeE_c rfl (by simp [V.ids] <;> omega) ?_))
    | true =>
      have ek1 : k = 1 := by simp at ek; omega
      simp +contextual (disch := first | omega | (simp only [go_sem, false_implies]; done) | fail) only [go_sem, wrap64, if_pos, oa, ot, oo, os, oc, of, y5, y6, y9, y10, y1, y2, y3, y4, y7, y8, y11, y12, Nat.add_assoc, Nat.left_eq_add, Nat.add_eq_left, Nat.add_left_cancel_iff, List.length_map, z1, z2, z3, z4, z5, z6, hx, ek]
      refine callDR_keep (by simp; omega) (order_H1 (ih x hxm) (n := n) (fr := fr) (bd := bd) (mB := mB) (b := b) (nx := c + 10) (cid := cid) (fid := fid) ?_ ?_ (.inr ?_) b1 b2 kb lkh q0 (by omega) (by omega) (by omega) (by omega)) ?_
      · (repeat (first | rfl | rw [upd_same] | rw [upd_ne _ _ _ _ (by omega)]))
      · (repeat (first | rfl | rw [upd_same] | rw [upd_ne _ _ _ _ (by omega)]))
      · (repeat (first | rfl | rw [upd_same] | rw [upd_ne _ _ _ _ (by omega)]))
        exact ob
      simp +contextual (disch := first | omega | (simp only [go_sem, false_implies]; done) | fail) only [go_sem, wrap64, if_pos, oa, ot, oo, os, oc, of, y5, y6, y9, y10, y1, y2, y3, y4, y7, y8, y11, y12, Nat.add_assoc, Nat.left_eq_add, Nat.add_eq_left, Nat.add_left_cancel_iff, List.length_map, z1, z2, z3, z4, z5, z6]
      have hif : (if k = 1 then bd else bd) = bd := by split <;> rfl
      have hnx := ord_next x bd fr n
      refine end_intro (objsOk_renL (ids := [cid, fid, nx, nx + 11, c, c + 5, nx + 14, b]) (nx := c + 10) (by simp; omega) (by simp; omega) [([3], []), ([3], []), ([6], []), ([5], []), ([0, 1, 7], [0, 1, 7]), ([], [13]), ([4, 13], [4]), ([3], []), ([3, 4], [3])] (by decide)) ?_
      simp +contextual (disch := first | omega | (simp only [go_sem, false_implies]; done) | fail) only [go_sem, wrap64, if_pos, Nat.add_assoc, Nat.left_eq_add, Nat.add_eq_left, Nat.add_left_cancel_iff]
      refine nextS_intro (k + 1, (ordF x bd fr n).2.1, (ordF x bd fr n).2.2, don ++ [(ordF x bd fr n).1]) ⟨h2, by dsimp only; omega, by dsimp only; omega, by dsimp only; simp [q2], by dsimp only; rw [q3, hdr]; simp only [ordsF, hif, List.append_assoc]; rfl⟩ (by dsimp only; omega) (SLe.see1 (fun j => j = c) (.osl c 1) c _ (by omega) (fun j hj => ?_) (upd_same _ _ _) (.inr ⟨c, 1, rfl, rfl, by (repeat (first | rfl | rw [upd_same] | rw [upd_ne _ _ _ _ (by omega)])); rw [List.map_append]; rfl⟩) (fun j hj => ?_) (fun j h h2 => by omega) ?_)
      · by_cases e1 : j = nx + 11
        · subst e1
          exact seeO_eq (y := .row [.d (.i op'), .d (.i N), .osl c 1]) (by (repeat (first | rfl | rw [upd_same] | rw [upd_ne _ _ _ _ (by omega)]))) (by (repeat (first | rfl | rw [upd_same] | rw [upd_ne _ _ _ _ (by omega)]))) (seeO_row rfl (seeL_d (seeL_d (seeL_g 0 rfl rfl rfl seeL_nil))))
        · by_cases e2 : j = fid
          · subst e2
            exact seeO_eq (y := mapI (ordF x bd fr n).2.1) (by (repeat (first | rfl | rw [upd_same] | rw [upd_ne _ _ _ _ (by omega)]))) (by (repeat (first | rfl | rw [upd_same] | rw [upd_ne _ _ _ _ (by omega)]))) (seeO_same rfl (by simp [Obj'.refs]))
          · by_cases e3 : j = cid
            · subst e3
              exact seeO_eq (y := .row [.d (.i (ordF x bd fr n).2.2), .mp fid]) (by (repeat (first | rfl | rw [upd_same] | rw [upd_ne _ _ _ _ (by omega)]))) (by (repeat (first | rfl | rw [upd_same] | rw [upd_ne _ _ _ _ (by omega)]))) (seeO_same rfl (by simp [Obj'.refs, V.refss, V.refs]; omega))
            · by_cases e5 : j = b
              · subst e5
                exact seeO_eq (y := froI mB) (by (repeat (first | rfl | rw [upd_same] | rw [upd_ne _ _ _ _ (by omega)]))) (by (repeat (first | rfl | rw [upd_same] | rw [upd_ne _ _ _ _ (by omega)])); exact ob) (seeO_same rfl (by simp [Obj'.refs]))
              · exact seeO_eq (y := o j) (by (repeat (first | rfl | rw [upd_same] | rw [upd_ne _ _ _ _ (by omega)]))) (by (repeat (first | rfl | rw [upd_same] | rw [upd_ne _ _ _ _ (by omega)]))) (seeO_same rfl (fun r hr => hg.refs j r hr))
      · (repeat (first | rfl | rw [upd_same] | rw [upd_ne _ _ _ _ (by omega)]))
        exact hg.fresh j (by omega)
      · (repeat (first | exact seeE_nil | refine seeE_junk ?_ | refine seeE_d rfl ?_ | refine seeE_d (d_int (wrapN (by omega))) ?_ | refine seeE_g 0 rfl rfl rfl ?_ | refine seeE_v rfl (by simp [V.refs, V.refss] <;> first | omega | assumption) ?_ | refine seeE_c rfl (by simp [V.ids] <;> omega) ?_))
  · simp at h2
    simp +contextual (disch := first | omega | (simp only [go_sem, false_implies]; done) | fail) only [go_sem, wrap64, if_pos, and_self]
    have hnil : t.kids.drop k = [] := List.drop_eq_nil_of_le h2
    rw [hnil] at q3
    simp only [ordsF, List.append_nil] at q3
    rw [q3] at hQ
    refine hQ _ _ _ rfl rfl ?_ ?_ ?_ ?_ (fun j g1 g2 g3 => ?_) ?_ ?_
    · omega
    · exact (by repeat (first | exact hg.mono (by omega) | exact Good.nil | refine Good.upd ?_ (by omega) rfl | refine Good.upd ?_ (by omega) (hLr _ _ _ (by omega)) | refine Good.upd ?_ (by omega) (by simp [Obj'.refs, V.refss, V.refs] <;> omega)))
    · (repeat (first | rfl | rw [upd_same] | rw [upd_ne _ _ _ _ (by omega)]))
    · (repeat (first | rfl | rw [upd_same] | rw [upd_ne _ _ _ _ (by omega)]))
    · (repeat (first | rfl | rw [upd_same] | rw [upd_ne _ _ _ _ (by omega)]))
    · (repeat (first | rfl | rw [upd_same] | rw [upd_ne _ _ _ _ (by omega)]))
    · (repeat (first | rfl | rw [upd_same] | rw [upd_ne _ _ _ _ (by omega)]))
theorem ordKids2 {t : Tm} (ih : ∀ k ∈ t.kids, OrdC k) {o : Nat → Obj'} {nx c cid fid : Nat} {ib : Nat} {mI inn : List (Int × Int)} {op' N : Int} {bd fr0 : List (Int × Int)} {n0 : Int} {e : Nat → V} {Q : Xit → S → Prop}
    (hg : Good o c) (hc : nx + 15 ≤ c) (c1 : cid < nx) (c2 : fid < nx) (hcf : cid ≠ fid) (oa : o nx = .row [.ptr cid 0, .d .nilm]) (ot : o (nx + 1) = .row t.row) (oo : o (nx + 11) = .row [.d (.i op'), .d (.i N), .nils]) (os : o (nx + 14) = .row [.ptr cid 0, .mp ib])
    (oc : o cid = .row [.d (.i n0), .mp fid]) (of : o fid = mapI fr0) (lkh : ∀ v, lk [] v = lk bd v) (oi : o ib = mapI mI) (ki : Keys mI) (lki : ∀ v, lk mI v = lk inn v) (i1 : nx + 15 ≤ ib) (i2 : ib < c) (p0 : 0 ≤ n0) (p1 : n0 + szs t.kids ≤ 1000000)
    (he : backE c e [.junk, .junk, .ptr nx 0, .ptr (nx + 1) 0, .ptr (nx + 2) 0, .junk, .junk, .ptr (nx + 11) 0, .ptr (nx + 14) 0, .junk, .junk, .junk, .junk, .junk, .junk, .junk, .junk, .junk, .junk, .junk, .junk, .junk, .junk, .junk, .junk, .junk, .junk, .junk, .junk, .junk, .junk, .junk, .junk, .junk, .junk, .junk, .junk, .junk, .junk, .junk, .junk, .junk, .junk, .junk, .junk, .junk, .junk, .junk, .junk, .junk, .junk, .junk, .junk, .junk, .junk, .junk, .junk, .junk, .junk, .junk, .junk, .junk, .junk, .junk, .junk, .junk, .junk, .junk, .junk, .junk, .junk, .junk, .junk, .junk, .junk, .junk, .junk, .junk, .junk, .junk, .junk, .junk, .junk, .junk, .junk, .junk, .junk, .junk, .junk, .d (.sl (t.kids.map Tm.d)), .d (.i t.kids.length), .d (.i 0)] 0)
    (hQ : ∀ e' o' nx', e' 4 = .ptr (nx + 2) 0 → e' 7 = .ptr (nx + 11) 0 → c ≤ nx' → Good o' nx' → o' (nx + 11) = .row [.d (.i op'), .d (.i N), .osl c 0] → o' c = .arr 0 28 3 ((ordsF t.kids bd inn 0 fr0 n0).1.map Tm.d) → (∀ j, j < nx + 11 → j ≠ cid → j ≠ fid → o' j = o j) → o' cid = .row [.d (.i (ordsF t.kids bd inn 0 fr0 n0).2.2), .mp fid] → o' fid = mapI (ordsF t.kids bd inn 0 fr0 n0).2.1 → Q (.exit 2) ⟨e', o', nx'⟩) :
    loopS nx (fun Q s => evW Tryz.prog 116 nx false ordBody Q s) Q ⟨e, o, c⟩ := by
  have hlen := len_szs t.kids
  have iN : ∀ k, k < 15 → ib ≠ nx + k := fun k hk => by omega
  have iC : ib ≠ cid := by omega
  have iF : ib ≠ fid := by omega
  have iS : ∀ k, ib ≠ c + k := fun k => by omega
  have iS0 : ib ≠ c := by omega
  refine loop_fam (fun i : Nat × List (Int × Int) × Int × List Tm => ⟨envJ [.junk, .junk, .ptr nx 0, .ptr (nx + 1) 0, .ptr (nx + 2) 0, .junk, .junk, .ptr (nx + 11) 0, .ptr (nx + 14) 0, .junk, .junk, .junk, .junk, .junk, .junk, .junk, .junk, .junk, .junk, .junk, .junk, .junk, .junk, .junk, .junk, .junk, .junk, .junk, .junk, .junk, .junk, .junk, .junk, .junk, .junk, .junk, .junk, .junk, .junk, .junk, .junk, .junk, .junk, .junk, .junk, .junk, .junk, .junk, .junk, .junk, .junk, .junk, .junk, .junk, .junk, .junk, .junk, .junk, .junk, .junk, .junk, .junk, .junk, .junk, .junk, .junk, .junk, .junk, .junk, .junk, .junk, .junk, .junk, .junk, .junk, .junk, .junk, .junk, .junk, .junk, .junk, .junk, .junk, .junk, .junk, .junk, .junk, .junk, .junk, .d (.sl (t.kids.map Tm.d)), .d (.i t.kids.length), .d (.i i.1)], upd (upd (upd (upd (upd o ib (if 2 ≤ i.1 then froI mI else mapI mI)) cid (.row [.d (.i i.2.2.1), .mp fid])) fid (mapI i.2.1)) (nx + 11) (.row [.d (.i op'), .d (.i N), .osl c 0])) c (.arr 0 28 3 (i.2.2.2.map Tm.d)), c + 1⟩)
    (fun i => i.1 ≤ t.kids.length ∧ 0 ≤ i.2.2.1 ∧ i.2.2.1 + szs (t.kids.drop i.1) ≤ 1000000 ∧ i.2.2.2.length = i.1 ∧ ordsF t.kids bd inn 0 fr0 n0 = (i.2.2.2 ++ (ordsF (t.kids.drop i.1) bd inn i.1 i.2.1 i.2.2.1).1, (ordsF (t.kids.drop i.1) bd inn i.1 i.2.1 i.2.2.1).2)) (fun i => t.kids.length - i.1) (0, fr0, n0, []) ⟨Nat.zero_le _, p0, p1, rfl, rfl⟩ (SLe.see1 (fun _ => False) .nils c _ (by omega) (fun j hj => ?_) (upd_same _ _ _) (.inl ⟨rfl, rfl, by decide⟩) (fun j hj => ?_) (fun _ h => h.elim) (seeE_back he)) ?_
  · by_cases e1 : j = nx + 11
    · subst e1
      exact seeO_eq oo (by (repeat (first | rfl | rw [upd_same] | rw [upd_ne _ _ _ _ (by omega)]))) (seeO_row rfl (seeL_d (seeL_d (seeL_g 0 rfl rfl rfl seeL_nil))))
    · by_cases e2 : j = fid
      · subst e2
        exact seeO_eq of (by (repeat (first | rfl | rw [upd_same] | rw [upd_ne _ _ _ _ (by omega)]))) (seeO_same rfl (by simp [Obj'.refs]))
      · by_cases e3 : j = cid
        · subst e3
          exact seeO_eq oc (by (repeat (first | rfl | rw [upd_same] | rw [upd_ne _ _ _ _ (by omega)]))) (seeO_same rfl (by simp [Obj'.refs, V.refss, V.refs]; omega))
        · by_cases e4 : j = ib
          · subst e4
            exact seeO_eq oi (by (repeat (first | rfl | rw [upd_same] | rw [upd_ne _ _ _ _ (by omega)]))) (seeO_same rfl (by simp [Obj'.refs]))
          · exact seeO_eq rfl (by (repeat (first | rfl | rw [upd_same] | rw [upd_ne _ _ _ _ (by omega)]))) (seeO_same rfl (fun r hr => hg.refs j r hr))
  · (repeat (first | rfl | rw [upd_same] | rw [upd_ne _ _ _ _ (by omega)]))
    exact hg.fresh j (by omega)
  rintro ⟨k, fr, n, don⟩ ⟨hk, q0, q1, q2, q3⟩
  simp only at hk q0 q1 q2 q3
  have y1 : cid ≠ c := by omega
  have y2 : ∀ k, cid ≠ c + k := fun k => by omega
  have y3 : fid ≠ c := by omega
  have y4 : ∀ k, fid ≠ c + k := fun k => by omega
  have y5 : cid ≠ nx + 11 := by omega
  have y6 : fid ≠ nx + 11 := by omega
  have y7 : ∀ k, k < 15 → nx + k ≠ c := fun k hk => by omega
  have y8 : ∀ k j, k < 15 → nx + k ≠ c + j := fun k j hk => by omega
  have y9 : ∀ k, cid ≠ nx + k := fun k => by omega
  have y10 : ∀ k, fid ≠ nx + k := fun k => by omega
  have y11 : nx ≠ cid := by omega
  have y12 : nx ≠ fid := by omega
  have hfc : fid ≠ cid := fun e => hcf e.symm
  have x1 : nx ≠ ib := by omega
  have x2 : ∀ k, k < 15 → nx + k ≠ ib := fun k hk => by omega
  have x3 : c ≠ ib := by omega
  simp only [ordBody, c110, IC.snd, IC.fst]
  simp +contextual (disch := first | omega | (simp only [go_sem, false_implies]; done) | fail) only [go_sem, wrap64, if_pos, oa, ot, oo, os, oc, of, y5, y6, y9, y10, y1, y2, y3, y4, y7, y8, y11, y12, Nat.add_assoc, Nat.left_eq_add, Nat.add_eq_left, Nat.add_left_cancel_iff, List.length_map, iN, iC, iF, iS, iS0, x1, x2, x3]
  refine cond_intro (fun h2 => ?_) (fun h2 => ?_)
  · simp at h2
    obtain ⟨x, hx⟩ := get_of_lt h2
    have hxm := List.mem_of_getElem? hx
    have hdr : t.kids.drop k = x :: t.kids.drop (k + 1) := by
      obtain ⟨h5, h6⟩ := List.getElem?_eq_some_iff.1 hx
      rw [List.drop_eq_getElem_cons h5, h6]
    rw [hdr, szs_cons] at q1
    cases ek : ((k : Int) == 1) with
    | false =>
      have ek1 : ¬ k = 1 := by simp at ek; omega
      have ek2 : (if 2 ≤ k + 1 then froI mI else mapI mI) = (if 2 ≤ k then froI mI else mapI mI) := by by_cases h : 2 ≤ k <;> simp [h] <;> omega
      simp +contextual (disch := first | omega | (simp only [go_sem, false_implies]; done) | fail) only [go_sem, wrap64, if_pos, oa, ot, oo, os, oc, of, y5, y6, y9, y10, y1, y2, y3, y4, y7, y8, y11, y12, Nat.add_assoc, Nat.left_eq_add, Nat.add_eq_left, Nat.add_left_cancel_iff, List.length_map, iN, iC, iF, iS, iS0, x1, x2, x3, hx, ek]
      refine callDR_keep (by simp; omega) (order_H0 (ih x hxm) (n := n) (fr := fr) (bd := bd) (nx := c + 10) (cid := cid) (fid := fid) ?_ ?_ lkh q0 (by omega) (by omega) (by omega)) ?_
      · (repeat (first | rfl | rw [upd_same] | rw [upd_ne _ _ _ _ (by omega)]))
      · (repeat (first | rfl | rw [upd_same] | rw [upd_ne _ _ _ _ (by omega)]))
      simp +contextual (disch := first | omega | (simp only [go_sem, false_implies]; done) | fail) only [go_sem, wrap64, if_pos, oa, ot, oo, os, oc, of, y5, y6, y9, y10, y1, y2, y3, y4, y7, y8, y11, y12, Nat.add_assoc, Nat.left_eq_add, Nat.add_eq_left, Nat.add_left_cancel_iff, List.length_map, iN, iC, iF, iS, iS0, x1, x2, x3]
      have hif : (if k = 1 then inn else bd) = bd := by rw [if_neg ek1]
      have hnx := ord_next x bd fr n
      refine end_intro (objsOk_renL (ids := [cid, fid, nx, nx + 11, c, c + 5, nx + 14]) (nx := c + 10) (by simp; omega) (by simp; omega) [([3], []), ([3], []), ([2], []), ([5], []), ([0, 1], [0, 1]), ([], [12]), ([4, 12], [4]), ([3], []), ([3, 4], [3])] (by decide)) ?_
      simp +contextual (disch := first | omega | (simp only [go_sem, false_implies]; done) | fail) only [go_sem, wrap64, if_pos, Nat.add_assoc, Nat.left_eq_add, Nat.add_eq_left, Nat.add_left_cancel_iff]
      refine nextS_intro (k + 1, (ordF x bd fr n).2.1, (ordF x bd fr n).2.2, don ++ [(ordF x bd fr n).1]) ⟨h2, by dsimp only; omega, by dsimp only; omega, by dsimp only; simp [q2], by dsimp only; rw [q3, hdr]; simp only [ordsF, hif, List.append_assoc]; rfl⟩ (by dsimp only; omega) (SLe.see1 (fun j => j = c) (.osl c 1) c _ (by omega) (fun j hj => ?_) (upd_same _ _ _) (.inr ⟨c, 1, rfl, rfl, by (repeat (first | rfl | rw [upd_same] | rw [upd_ne _ _ _ _ (by omega)])); rw [List.map_append]; rfl⟩) (fun j hj => ?_) (fun j h h2 => by omega) ?_)
      · by_cases e1 : j = nx + 11
        · subst e1
          exact seeO_eq (y := .row [.d (.i op'), .d (.i N), .osl c 1]) (by (repeat (first | rfl | rw [upd_same] | rw [upd_ne _ _ _ _ (by omega)]))) (by (repeat (first | rfl | rw [upd_same] | rw [upd_ne _ _ _ _ (by omega)]))) (seeO_row rfl (seeL_d (seeL_d (seeL_g 0 rfl rfl rfl seeL_nil))))
        · by_cases e2 : j = fid
          · subst e2
            exact seeO_eq (y := mapI (ordF x bd fr n).2.1) (by (repeat (first | rfl | rw [upd_same] | rw [upd_ne _ _ _ _ (by omega)]))) (by (repeat (first | rfl | rw [upd_same] | rw [upd_ne _ _ _ _ (by omega)]))) (seeO_same rfl (by simp [Obj'.refs]))
          · by_cases e3 : j = cid
            · subst e3
              exact seeO_eq (y := .row [.d (.i (ordF x bd fr n).2.2), .mp fid]) (by (repeat (first | rfl | rw [upd_same] | rw [upd_ne _ _ _ _ (by omega)]))) (by (repeat (first | rfl | rw [upd_same] | rw [upd_ne _ _ _ _ (by omega)]))) (seeO_same rfl (by simp [Obj'.refs, V.refss, V.refs]; omega))
            · by_cases e4 : j = ib
              · subst e4
                exact seeO_eq (y := if 2 ≤ k then froI mI else mapI mI) (by (repeat (first | rfl | rw [upd_same] | rw [upd_ne _ _ _ _ (by omega)]))) (by (repeat (first | rfl | rw [upd_same] | rw [upd_ne _ _ _ _ (by omega)])); rw [ek2]) (seeO_same rfl (by split <;> simp [Obj'.refs]))
              · exact seeO_eq (y := o j) (by (repeat (first | rfl | rw [upd_same] | rw [upd_ne _ _ _ _ (by omega)]))) (by (repeat (first | rfl | rw [upd_same] | rw [upd_ne _ _ _ _ (by omega)]))) (seeO_same rfl (fun r hr => hg.refs j r hr))
      · (repeat (first | rfl | rw [upd_same] | rw [upd_ne _ _ _ _ (by omega)]))
        exact hg.fresh j (by omega)
      · (repeat (first | exact seeE_nil | refine seeE_junk ?_ | refine seeE_d rfl ?_ | refine seeE_d (d_int (wrapN (by omega))) ?_ | refine seeE_g 0 rfl rfl rfl ?_ | refine seeE_v rfl (by simp [V.refs, V.refss] <;> first | omega | assumption) ?_ | refine seeE_c rfl (by simp [V.ids] <;> omega) ?_))
    | true =>
      have ek1 : k = 1 := by simp at ek; omega
      simp +contextual (disch := first | omega | (simp only [go_sem, false_implies]; done) | fail) only [go_sem, wrap64, if_pos, oa, ot, oo, os, oc, of, y5, y6, y9, y10, y1, y2, y3, y4, y7, y8, y11, y12, Nat.add_assoc, Nat.left_eq_add, Nat.add_eq_left, Nat.add_left_cancel_iff, List.length_map, iN, iC, iF, iS, iS0, x1, x2, x3, hx, ek]
      refine callDR_keep (by simp; omega) (order_H1 (ih x hxm) (n := n) (fr := fr) (bd := inn) (mB := mI) (b := ib) (nx := c + 10) (cid := cid) (fid := fid) ?_ ?_ (.inl ?_) iC iF ki lki q0 (by omega) (by omega) (by omega) (by omega)) ?_
      · (repeat (first | rfl | rw [upd_same] | rw [upd_ne _ _ _ _ (by omega)]))
      · (repeat (first | rfl | rw [upd_same] | rw [upd_ne _ _ _ _ (by omega)]))
      · (repeat (first | rfl | rw [upd_same] | rw [upd_ne _ _ _ _ (by omega)]))
        rw [if_neg (by omega)]
      simp +contextual (disch := first | omega | (simp only [go_sem, false_implies]; done) | fail) only [go_sem, wrap64, if_pos, oa, ot, oo, os, oc, of, y5, y6, y9, y10, y1, y2, y3, y4, y7, y8, y11, y12, Nat.add_assoc, Nat.left_eq_add, Nat.add_eq_left, Nat.add_left_cancel_iff, List.length_map, iN, iC, iF, iS, iS0, x1, x2, x3]
      have hif : (if k = 1 then inn else bd) = inn := by rw [if_pos ek1]
      have hnx := ord_next x inn fr n
      refine end_intro (objsOk_renL (ids := [cid, fid, nx, nx + 11, c, c + 5, nx + 14, ib]) (nx := c + 10) (by simp; omega) (by simp; omega) [([3], []), ([3], []), ([6], []), ([5], []), ([0, 1, 7], [0, 1, 7]), ([], [13]), ([4, 13], [4]), ([3], []), ([3, 4], [3])] (by decide)) ?_
      simp +contextual (disch := first | omega | (simp only [go_sem, false_implies]; done) | fail) only [go_sem, wrap64, if_pos, Nat.add_assoc, Nat.left_eq_add, Nat.add_eq_left, Nat.add_left_cancel_iff]
      refine nextS_intro (k + 1, (ordF x inn fr n).2.1, (ordF x inn fr n).2.2, don ++ [(ordF x inn fr n).1]) ⟨h2, by dsimp only; omega, by dsimp only; omega, by dsimp only; simp [q2], by dsimp only; rw [q3, hdr]; simp only [ordsF, hif, List.append_assoc]; rfl⟩ (by dsimp only; omega) (SLe.see1 (fun j => j = c) (.osl c 1) c _ (by omega) (fun j hj => ?_) (upd_same _ _ _) (.inr ⟨c, 1, rfl, rfl, by (repeat (first | rfl | rw [upd_same] | rw [upd_ne _ _ _ _ (by omega)])); rw [List.map_append]; rfl⟩) (fun j hj => ?_) (fun j h h2 => by omega) ?_)
      · by_cases e1 : j = nx + 11
        · subst e1
          exact seeO_eq (y := .row [.d (.i op'), .d (.i N), .osl c 1]) (by (repeat (first | rfl | rw [upd_same] | rw [upd_ne _ _ _ _ (by omega)]))) (by (repeat (first | rfl | rw [upd_same] | rw [upd_ne _ _ _ _ (by omega)]))) (seeO_row rfl (seeL_d (seeL_d (seeL_g 0 rfl rfl rfl seeL_nil))))
        · by_cases e2 : j = fid
          · subst e2
            exact seeO_eq (y := mapI (ordF x inn fr n).2.1) (by (repeat (first | rfl | rw [upd_same] | rw [upd_ne _ _ _ _ (by omega)]))) (by (repeat (first | rfl | rw [upd_same] | rw [upd_ne _ _ _ _ (by omega)]))) (seeO_same rfl (by simp [Obj'.refs]))
          · by_cases e3 : j = cid
            · subst e3
              exact seeO_eq (y := .row [.d (.i (ordF x inn fr n).2.2), .mp fid]) (by (repeat (first | rfl | rw [upd_same] | rw [upd_ne _ _ _ _ (by omega)]))) (by (repeat (first | rfl | rw [upd_same] | rw [upd_ne _ _ _ _ (by omega)]))) (seeO_same rfl (by simp [Obj'.refs, V.refss, V.refs]; omega))
            · by_cases e4 : j = ib
              · subst e4
                exact seeO_eq (y := froI mI) (by (repeat (first | rfl | rw [upd_same] | rw [upd_ne _ _ _ _ (by omega)]))) (by (repeat (first | rfl | rw [upd_same] | rw [upd_ne _ _ _ _ (by omega)])); rw [if_pos (by omega)]) (seeO_same rfl (by simp [Obj'.refs]))
              · exact seeO_eq (y := o j) (by (repeat (first | rfl | rw [upd_same] | rw [upd_ne _ _ _ _ (by omega)]))) (by (repeat (first | rfl | rw [upd_same] | rw [upd_ne _ _ _ _ (by omega)]))) (seeO_same rfl (fun r hr => hg.refs j r hr))
      · (repeat (first | rfl | rw [upd_same] | rw [upd_ne _ _ _ _ (by omega)]))
        exact hg.fresh j (by omega)
      · (repeat (first | exact seeE_nil | refine seeE_junk ?_ | refine seeE_d rfl ?_ | refine seeE_d (d_int (wrapN (by omega))) ?_ | refine seeE_g 0 rfl rfl rfl ?_ | refine seeE_v rfl (by simp [V.refs, V.refss] <;> first | omega | assumption) ?_ | refine seeE_c rfl (by simp [V.ids] <;> omega) ?_))
  · simp at h2
    simp +contextual (disch := first | omega | (simp only [go_sem, false_implies]; done) | fail) only [go_sem, wrap64, if_pos, and_self]
    have hnil : t.kids.drop k = [] := List.drop_eq_nil_of_le h2
    rw [hnil] at q3
    simp only [ordsF, List.append_nil] at q3
    rw [q3] at hQ
    refine hQ _ _ _ rfl rfl ?_ ?_ ?_ ?_ (fun j g1 g2 g3 => ?_) ?_ ?_
    · omega
    · exact (by by_cases h : 2 ≤ k <;> (simp only [h, if_true, if_false]; exact (by repeat (first | exact hg.mono (by omega) | exact Good.nil | refine Good.upd ?_ (by omega) rfl | refine Good.upd ?_ (by omega) (hLr _ _ _ (by omega)) | refine Good.upd ?_ (by omega) (by simp [Obj'.refs, V.refss, V.refs] <;> omega)))))
    · (repeat (first | rfl | rw [upd_same] | rw [upd_ne _ _ _ _ (by omega)]))
    · (repeat (first | rfl | rw [upd_same] | rw [upd_ne _ _ _ _ (by omega)]))
    · (repeat (first | rfl | rw [upd_same] | rw [upd_ne _ _ _ _ (by omega)]))
    · (repeat (first | rfl | rw [upd_same] | rw [upd_ne _ _ _ _ (by omega)]))
    · (repeat (first | rfl | rw [upd_same] | rw [upd_ne _ _ _ _ (by omega)]))
set_option maxHeartbeats 1000000 in
theorem ordKids3 {t : Tm} (ih : ∀ k ∈ t.kids, OrdC k) {o : Nat → Obj'} {nx c cid fid : Nat} {b : Nat} {mB : List (Int × Int)} {ib : Nat} {mI inn : List (Int × Int)} {op' N : Int} {bd fr0 : List (Int × Int)} {n0 : Int} {e : Nat → V} {Q : Xit → S → Prop}
    (hg : Good o c) (hc : nx + 15 ≤ c) (c1 : cid < nx) (c2 : fid < nx) (hcf : cid ≠ fid) (oa : o nx = .row [.ptr cid 0, .mp b]) (ot : o (nx + 1) = .row t.row) (oo : o (nx + 11) = .row [.d (.i op'), .d (.i N), .nils]) (os : o (nx + 14) = .row [.ptr cid 0, .mp ib])
    (oc : o cid = .row [.d (.i n0), .mp fid]) (of : o fid = mapI fr0) (lkh : ∀ v, lk mB v = lk bd v) (ob : o b = froI mB) (kb : Keys mB) (b1 : b ≠ cid) (b2 : b ≠ fid) (b3 : b < nx) (oi : o ib = mapI mI) (ki : Keys mI) (lki : ∀ v, lk mI v = lk inn v) (i1 : nx + 15 ≤ ib) (i2 : ib < c) (p0 : 0 ≤ n0) (p1 : n0 + szs t.kids ≤ 1000000)
    (he : backE c e [.junk, .junk, .ptr nx 0, .ptr (nx + 1) 0, .ptr (nx + 2) 0, .junk, .junk, .ptr (nx + 11) 0, .ptr (nx + 14) 0, .junk, .junk, .junk, .junk, .junk, .junk, .junk, .junk, .junk, .junk, .junk, .junk, .junk, .junk, .junk, .junk, .junk, .junk, .junk, .junk, .junk, .junk, .junk, .junk, .junk, .junk, .junk, .junk, .junk, .junk, .junk, .junk, .junk, .junk, .junk, .junk, .junk, .junk, .junk, .junk, .junk, .junk, .junk, .junk, .junk, .junk, .junk, .junk, .junk, .junk, .junk, .junk, .junk, .junk, .junk, .junk, .junk, .junk, .junk, .junk, .junk, .junk, .junk, .junk, .junk, .junk, .junk, .junk, .junk, .junk, .junk, .junk, .junk, .junk, .junk, .junk, .junk, .junk, .junk, .junk, .d (.sl (t.kids.map Tm.d)), .d (.i t.kids.length), .d (.i 0)] 0)
    (hQ : ∀ e' o' nx', e' 4 = .ptr (nx + 2) 0 → e' 7 = .ptr (nx + 11) 0 → c ≤ nx' → Good o' nx' → o' (nx + 11) = .row [.d (.i op'), .d (.i N), .osl c 0] → o' c = .arr 0 28 3 ((ordsF t.kids bd inn 0 fr0 n0).1.map Tm.d) → (∀ j, j < nx + 11 → j ≠ cid → j ≠ fid → o' j = o j) → o' cid = .row [.d (.i (ordsF t.kids bd inn 0 fr0 n0).2.2), .mp fid] → o' fid = mapI (ordsF t.kids bd inn 0 fr0 n0).2.1 → Q (.exit 2) ⟨e', o', nx'⟩) :
    loopS nx (fun Q s => evW Tryz.prog 116 nx false ordBody Q s) Q ⟨e, o, c⟩ := by
  have hlen := len_szs t.kids
  have iN : ∀ k, k < 15 → ib ≠ nx + k := fun k hk => by omega
  have iC : ib ≠ cid := by omega
  have iF : ib ≠ fid := by omega
  have iS : ∀ k, ib ≠ c + k := fun k => by omega
  have iS0 : ib ≠ c := by omega
  have bI : b ≠ ib := by omega
  have iB : ib ≠ b := by omega
  refine loop_fam (fun i : Nat × List (Int × Int) × Int × List Tm => ⟨envJ [.junk, .junk, .ptr nx 0, .ptr (nx + 1) 0, .ptr (nx + 2) 0, .junk, .junk, .ptr (nx + 11) 0, .ptr (nx + 14) 0, .junk, .junk, .junk, .junk, .junk, .junk, .junk, .junk, .junk, .junk, .junk, .junk, .junk, .junk, .junk, .junk, .junk, .junk, .junk, .junk, .junk, .junk, .junk, .junk, .junk, .junk, .junk, .junk, .junk, .junk, .junk, .junk, .junk, .junk, .junk, .junk, .junk, .junk, .junk, .junk, .junk, .junk, .junk, .junk, .junk, .junk, .junk, .junk, .junk, .junk, .junk, .junk, .junk, .junk, .junk, .junk, .junk, .junk, .junk, .junk, .junk, .junk, .junk, .junk, .junk, .junk, .junk, .junk, .junk, .junk, .junk, .junk, .junk, .junk, .junk, .junk, .junk, .junk, .junk, .junk, .d (.sl (t.kids.map Tm.d)), .d (.i t.kids.length), .d (.i i.1)], upd (upd (upd (upd (upd o ib (if 2 ≤ i.1 then froI mI else mapI mI)) cid (.row [.d (.i i.2.2.1), .mp fid])) fid (mapI i.2.1)) (nx + 11) (.row [.d (.i op'), .d (.i N), .osl c 0])) c (.arr 0 28 3 (i.2.2.2.map Tm.d)), c + 1⟩)
    (fun i => i.1 ≤ t.kids.length ∧ 0 ≤ i.2.2.1 ∧ i.2.2.1 + szs (t.kids.drop i.1) ≤ 1000000 ∧ i.2.2.2.length = i.1 ∧ ordsF t.kids bd inn 0 fr0 n0 = (i.2.2.2 ++ (ordsF (t.kids.drop i.1) bd inn i.1 i.2.1 i.2.2.1).1, (ordsF (t.kids.drop i.1) bd inn i.1 i.2.1 i.2.2.1).2)) (fun i => t.kids.length - i.1) (0, fr0, n0, []) ⟨Nat.zero_le _, p0, p1, rfl, rfl⟩ (SLe.see1 (fun _ => False) .nils c _ (by omega) (fun j hj => ?_) (upd_same _ _ _) (.inl ⟨rfl, rfl, by decide⟩) (fun j hj => ?_) (fun _ h => h.elim) (seeE_back he)) ?_
  · by_cases e1 : j = nx + 11
    · subst e1
      exact seeO_eq oo (by (repeat (first | rfl | rw [upd_same] | rw [upd_ne _ _ _ _ (by omega)]))) (seeO_row rfl (seeL_d (seeL_d (seeL_g 0 rfl rfl rfl seeL_nil))))
    · by_cases e2 : j = fid
      · subst e2
        exact seeO_eq of (by (repeat (first | rfl | rw [upd_same] | rw [upd_ne _ _ _ _ (by omega)]))) (seeO_same rfl (by simp [Obj'.refs]))
      · by_cases e3 : j = cid
        · subst e3
          exact seeO_eq oc (by (repeat (first | rfl | rw [upd_same] | rw [upd_ne _ _ _ _ (by omega)]))) (seeO_same rfl (by simp [Obj'.refs, V.refss, V.refs]; omega))
        · by_cases e4 : j = ib
          · subst e4
            exact seeO_eq oi (by (repeat (first | rfl | rw [upd_same] | rw [upd_ne _ _ _ _ (by omega)]))) (seeO_same rfl (by simp [Obj'.refs]))
          · exact seeO_eq rfl (by (repeat (first | rfl | rw [upd_same] | rw [upd_ne _ _ _ _ (by omega)]))) (seeO_same rfl (fun r hr => hg.refs j r hr))
  · (repeat (first | rfl | rw [upd_same] | rw [upd_ne _ _ _ _ (by omega)]))
    exact hg.fresh j (by omega)
  rintro ⟨k, fr, n, don⟩ ⟨hk, q0, q1, q2, q3⟩
  simp only at hk q0 q1 q2 q3
  have y1 : cid ≠ c := by omega
  have y2 : ∀ k, cid ≠ c + k := fun k => by omega
  have y3 : fid ≠ c := by omega
  have y4 : ∀ k, fid ≠ c + k := fun k => by omega
  have y5 : cid ≠ nx + 11 := by omega
  have y6 : fid ≠ nx + 11 := by omega
  have y7 : ∀ k, k < 15 → nx + k ≠ c := fun k hk => by omega
  have y8 : ∀ k j, k < 15 → nx + k ≠ c + j := fun k j hk => by omega
  have y9 : ∀ k, cid ≠ nx + k := fun k => by omega
  have y10 : ∀ k, fid ≠ nx + k := fun k => by omega
  have y11 : nx ≠ cid := by omega
  have y12 : nx ≠ fid := by omega
  have hfc : fid ≠ cid := fun e => hcf e.symm
  have z1 : b ≠ c := by omega
  have z2 : ∀ k, b ≠ c + k := fun k => by omega
  have z3 : ∀ k, b ≠ nx + k := fun k => by omega
  have z4 : nx ≠ b := by omega
  have z5 : ∀ k, nx + k ≠ b := fun k => by omega
  have z6 : c ≠ b := by omega
  have x1 : nx ≠ ib := by omega
  have x2 : ∀ k, k < 15 → nx + k ≠ ib := fun k hk => by omega
  have x3 : c ≠ ib := by omega
  simp only [ordBody, c110, IC.snd, IC.fst]
  simp +contextual (disch := first | omega | (simp only [go_sem, false_implies]; done) | fail) only [go_sem, wrap64, if_pos, oa, ot, oo, os, oc, of, y5, y6, y9, y10, y1, y2, y3, y4, y7, y8, y11, y12, Nat.add_assoc, Nat.left_eq_add, Nat.add_eq_left, Nat.add_left_cancel_iff, List.length_map, z1, z2, z3, z4, z5, z6, iN, iC, iF, iS, iS0, x1, x2, x3]
  refine cond_intro (fun h2 => ?_) (fun h2 => ?_)
  · simp at h2
    obtain ⟨x, hx⟩ := get_of_lt h2
    have hxm := List.mem_of_getElem? hx
    have hdr : t.kids.drop k = x :: t.kids.drop (k + 1) := by
      obtain ⟨h5, h6⟩ := List.getElem?_eq_some_iff.1 hx
      rw [List.drop_eq_getElem_cons h5, h6]
    rw [hdr, szs_cons] at q1
    cases ek : ((k : Int) == 1) with
    | false =>
      have ek1 : ¬ k = 1 := by simp at ek; omega
      have ek2 : (if 2 ≤ k + 1 then froI mI else mapI mI) = (if 2 ≤ k then froI mI else mapI mI) := by by_cases h : 2 ≤ k <;> simp [h] <;> omega
      simp +contextual (disch := first | omega | (simp only [go_sem, false_implies]; done) | fail) only [go_sem, wrap64, if_pos, oa, ot, oo, os, oc, of, y5, y6, y9, y10, y1, y2, y3, y4, y7, y8, y11, y12, Nat.add_assoc, Nat.left_eq_add, Nat.add_eq_left, Nat.add_left_cancel_iff, List.length_map, z1, z2, z3, z4, z5, z6, iN, iC, iF, iS, iS0, x1, x2, x3, hx, ek]
      refine callDR_keep (by simp; omega) (order_H1 (ih x hxm) (n := n) (fr := fr) (bd := bd) (mB := mB) (b := b) (nx := c + 10) (cid := cid) (fid := fid) ?_ ?_ (.inr ?_) b1 b2 kb lkh q0 (by omega) (by omega) (by omega) (by omega)) ?_
      · (repeat (first | rfl | rw [upd_same] | rw [upd_ne _ _ _ _ (by omega)]))
      · (repeat (first | rfl | rw [upd_same] | rw [upd_ne _ _ _ _ (by omega)]))
      · (repeat (first | rfl | rw [upd_same] | rw [upd_ne _ _ _ _ (by omega)]))
        exact ob
      simp +contextual (disch := first | omega | (simp only [go_sem, false_implies]; done) | fail) only [go_sem, wrap64, if_pos, oa, ot, oo, os, oc, of, y5, y6, y9, y10, y1, y2, y3, y4, y7, y8, y11, y12, Nat.add_assoc, Nat.left_eq_add, Nat.add_eq_left, Nat.add_left_cancel_iff, List.length_map, z1, z2, z3, z4, z5, z6, iN, iC, iF, iS, iS0, x1, x2, x3]
      have hif : (if k = 1 then inn else bd) = bd := by rw [if_neg ek1]
      have hnx := ord_next x bd fr n
      refine end_intro (objsOk_renL (ids := [cid, fid, nx, nx + 11, c, c + 5, nx + 14, b]) (nx := c + 10) (by simp; omega) (by simp; omega) [([3], []), ([3], []), ([2], []), ([5], []), ([0, 1, 7], [0, 1, 7]), ([], [13]), ([4, 13], [4]), ([3], []), ([3, 4], [3])] (by decide)) ?_
      simp +contextual (disch := first | omega | (simp only [go_sem, false_implies]; done) | fail) only [go_sem, wrap64, if_pos, Nat.add_assoc, Nat.left_eq_add, Nat.add_eq_left, Nat.add_left_cancel_iff]
      refine nextS_intro (k + 1, (ordF x bd fr n).2.1, (ordF x bd fr n).2.2, don ++ [(ordF x bd fr n).1]) ⟨h2, by dsimp only; omega, by dsimp only; omega, by dsimp only; simp [q2], by dsimp only; rw [q3, hdr]; simp only [ordsF, hif, List.append_assoc]; rfl⟩ (by dsimp only; omega) (SLe.see1 (fun j => j = c) (.osl c 1) c _ (by omega) (fun j hj => ?_) (upd_same _ _ _) (.inr ⟨c, 1, rfl, rfl, by (repeat (first | rfl | rw [upd_same] | rw [upd_ne _ _ _ _ (by omega)])); rw [List.map_append]; rfl⟩) (fun j hj => ?_) (fun j h h2 => by omega) ?_)
      · by_cases e1 : j = nx + 11
        · subst e1
          exact seeO_eq (y := .row [.d (.i op'), .d (.i N), .osl c 1]) (by (repeat (first | rfl | rw [upd_same] | rw [upd_ne _ _ _ _ (by omega)]))) (by (repeat (first | rfl | rw [upd_same] | rw [upd_ne _ _ _ _ (by omega)]))) (seeO_row rfl (seeL_d (seeL_d (seeL_g 0 rfl rfl rfl seeL_nil))))
        · by_cases e2 : j = fid
          · subst e2
            exact seeO_eq (y := mapI (ordF x bd fr n).2.1) (by (repeat (first | rfl | rw [upd_same] | rw [upd_ne _ _ _ _ (by omega)]))) (by (repeat (first | rfl | rw [upd_same] | rw [upd_ne _ _ _ _ (by omega)]))) (seeO_same rfl (by simp [Obj'.refs]))
          · by_cases e3 : j = cid
            · subst e3
              exact seeO_eq (y := .row [.d (.i (ordF x bd fr n).2.2), .mp fid]) (by (repeat (first | rfl | rw [upd_same] | rw [upd_ne _ _ _ _ (by omega)]))) (by (repeat (first | rfl | rw [upd_same] | rw [upd_ne _ _ _ _ (by omega)]))) (seeO_same rfl (by simp [Obj'.refs, V.refss, V.refs]; omega))
            · by_cases e4 : j = ib
              · subst e4
                exact seeO_eq (y := if 2 ≤ k then froI mI else mapI mI) (by (repeat (first | rfl | rw [upd_same] | rw [upd_ne _ _ _ _ (by omega)]))) (by (repeat (first | rfl | rw [upd_same] | rw [upd_ne _ _ _ _ (by omega)])); rw [ek2]) (seeO_same rfl (by split <;> simp [Obj'.refs]))
              · by_cases e5 : j = b
                · subst e5
                  exact seeO_eq (y := froI mB) (by (repeat (first | rfl | rw [upd_same] | rw [upd_ne _ _ _ _ (by omega)]))) (by (repeat (first | rfl | rw [upd_same] | rw [upd_ne _ _ _ _ (by omega)])); exact ob) (seeO_same rfl (by simp [Obj'.refs]))
                · exact seeO_eq (y := o j) (by (repeat (first | rfl | rw [upd_same] | rw [upd_ne _ _ _ _ (by omega)]))) (by (repeat (first | rfl | rw [upd_same] | rw [upd_ne _ _ _ _ (by omega)]))) (seeO_same rfl (fun r hr => hg.refs j r hr))
      · (repeat (first | rfl | rw [upd_same] | rw [upd_ne _ _ _ _ (by omega)]))
        exact hg.fresh j (by omega)
      · (repeat (first | exact seeE_nil | refine seeE_junk ?_ | refine seeE_d rfl ?_ | refine seeE_d (d_int (wrapN (by omega))) ?_ | refine seeE_g 0 rfl rfl rfl ?_ | refine seeE_v rfl (by simp [V.refs, V.refss] <;> first | omega | assumption) ?_ | refine seeE_c rfl (by simp [V.ids] <;> omega) ?_))
    | true =>
      have ek1 : k = 1 := by simp at ek; omega
      simp +contextual (disch := first | omega | (simp only [go_sem, false_implies]; done) | fail) only [go_sem, wrap64, if_pos, oa, ot, oo, os, oc, of, y5, y6, y9, y10, y1, y2, y3, y4, y7, y8, y11, y12, Nat.add_assoc, Nat.left_eq_add, Nat.add_eq_left, Nat.add_left_cancel_iff, List.length_map, z1, z2, z3, z4, z5, z6, iN, iC, iF, iS, iS0, x1, x2, x3, hx, ek]
      refine callDR_keep (by simp; omega) (order_H1 (ih x hxm) (n := n) (fr := fr) (bd := inn) (mB := mI) (b := ib) (nx := c + 10) (cid := cid) (fid := fid) ?_ ?_ (.inl ?_) iC iF ki lki q0 (by omega) (by omega) (by omega) (by omega)) ?_
      · (repeat (first | rfl | rw [upd_same] | rw [upd_ne _ _ _ _ (by omega)]))
      · (repeat (first | rfl | rw [upd_same] | rw [upd_ne _ _ _ _ (by omega)]))
      · (repeat (first | rfl | rw [upd_same] | rw [upd_ne _ _ _ _ (by omega)]))
        rw [if_neg (by omega)]
      simp +contextual (disch := first | omega | (simp only [go_sem, false_implies]; done) | fail) only [go_sem, wrap64, if_pos, oa, ot, oo, os, oc, of, y5, y6, y9, y10, y1, y2, y3, y4, y7, y8, y11, y12, Nat.add_assoc, Nat.left_eq_add, Nat.add_eq_left, Nat.add_left_cancel_iff, List.length_map, z1, z2, z3, z4, z5, z6, iN, iC, iF, iS, iS0, x1, x2, x3]
      have hif : (if k = 1 then inn else bd) = inn := by rw [if_pos ek1]
      have hnx := ord_next x inn fr n
      refine end_intro (objsOk_renL (ids := [cid, fid, nx, nx + 11, c, c + 5, nx + 14, ib]) (nx := c + 10) (by simp; omega) (by simp; omega) [([3], []), ([3], []), ([6], []), ([5], []), ([0, 1, 7], [0, 1, 7]), ([], [13]), ([4, 13], [4]), ([3], []), ([3, 4], [3])] (by decide)) ?_
      simp +contextual (disch := first | omega | (simp only [go_sem, false_implies]; done) | fail) only [go_sem, wrap64, if_pos, Nat.add_assoc, Nat.left_eq_add, Nat.add_eq_left, Nat.add_left_cancel_iff]
      refine nextS_intro (k + 1, (ordF x inn fr n).2.1, (ordF x inn fr n).2.2, don ++ [(ordF x inn fr n).1]) ⟨h2, by dsimp only; omega, by dsimp only; omega, by dsimp only; simp [q2], by dsimp only; rw [q3, hdr]; simp only [ordsF, hif, List.append_assoc]; rfl⟩ (by dsimp only; omega) (SLe.see1 (fun j => j = c) (.osl c 1) c _ (by omega) (fun j hj => ?_) (upd_same _ _ _) (.inr ⟨c, 1, rfl, rfl, by (repeat (first | rfl | rw [upd_same] | rw [upd_ne _ _ _ _ (by omega)])); rw [List.map_append]; rfl⟩) (fun j hj => ?_) (fun j h h2 => by omega) ?_)
      · by_cases e1 : j = nx + 11
        · subst e1
          exact seeO_eq (y := .row [.d (.i op'), .d (.i N), .osl c 1]) (by (repeat (first | rfl | rw [upd_same] | rw [upd_ne _ _ _ _ (by omega)]))) (by (repeat (first | rfl | rw [upd_same] | rw [upd_ne _ _ _ _ (by omega)]))) (seeO_row rfl (seeL_d (seeL_d (seeL_g 0 rfl rfl rfl seeL_nil))))
        · by_cases e2 : j = fid
          · subst e2
            exact seeO_eq (y := mapI (ordF x inn fr n).2.1) (by (repeat (first | rfl | rw [upd_same] | rw [upd_ne _ _ _ _ (by omega)]))) (by (repeat (first | rfl | rw [upd_same] | rw [upd_ne _ _ _ _ (by omega)]))) (seeO_same rfl (by simp [Obj'.refs]))
          · by_cases e3 : j = cid
            · subst e3
              exact seeO_eq (y := .row [.d (.i (ordF x inn fr n).2.2), .mp fid]) (by (repeat (first | rfl | rw [upd_same] | rw [upd_ne _ _ _ _ (by omega)]))) (by (repeat (first | rfl | rw [upd_same] | rw [upd_ne _ _ _ _ (by omega)]))) (seeO_same rfl (by simp [Obj'.refs, V.refss, V.refs]; omega))
            · by_cases e4 : j = ib
              · subst e4
                exact seeO_eq (y := froI mI) (by (repeat (first | rfl | rw [upd_same] | rw [upd_ne _ _ _ _ (by omega)]))) (by (repeat (first | rfl | rw [upd_same] | rw [upd_ne _ _ _ _ (by omega)])); rw [if_pos (by omega)]) (seeO_same rfl (by simp [Obj'.refs]))
              · exact seeO_eq (y := o j) (by (repeat (first | rfl | rw [upd_same] | rw [upd_ne _ _ _ _ (by omega)]))) (by (repeat (first | rfl | rw [upd_same] | rw [upd_ne _ _ _ _ (by omega)]))) (seeO_same rfl (fun r hr => hg.refs j r hr))
      · (repeat (first | rfl | rw [upd_same] | rw [upd_ne _ _ _ _ (by omega)]))
        exact hg.fresh j (by omega)
      · (repeat (first | exact seeE_nil | refine seeE_junk ?_ | refine seeE_d rfl ?_ | refine seeE_d (d_int (wrapN (by omega))) ?_ | refine seeE_g 0 rfl rfl rfl ?_ | refine seeE_v rfl (by simp [V.refs, V.refss] <;> first | omega | assumption) ?_ | refine seeE_c rfl (by simp [V.ids] <;> omega) ?_))
  · simp at h2
    simp +contextual (disch := first | omega | (simp only [go_sem, false_implies]; done) | fail) only [go_sem, wrap64, if_pos, and_self]
    have hnil : t.kids.drop k = [] := List.drop_eq_nil_of_le h2
    rw [hnil] at q3
    simp only [ordsF, List.append_nil] at q3
    rw [q3] at hQ
    refine hQ _ _ _ rfl rfl ?_ ?_ ?_ ?_ (fun j g1 g2 g3 => ?_) ?_ ?_
    · omega
    · exact (by by_cases h : 2 ≤ k <;> (simp only [h, if_true, if_false]; exact (by repeat (first | exact hg.mono (by omega) | exact Good.nil | refine Good.upd ?_ (by omega) rfl | refine Good.upd ?_ (by omega) (hLr _ _ _ (by omega)) | refine Good.upd ?_ (by omega) (by simp [Obj'.refs, V.refss, V.refs] <;> omega)))))
    · (repeat (first | rfl | rw [upd_same] | rw [upd_ne _ _ _ _ (by omega)]))
    · (repeat (first | rfl | rw [upd_same] | rw [upd_ne _ _ _ _ (by omega)]))
    · (repeat (first | rfl | rw [upd_same] | rw [upd_ne _ _ _ _ (by omega)]))
    · (repeat (first | rfl | rw [upd_same] | rw [upd_ne _ _ _ _ (by omega)]))
    · (repeat (first | rfl | rw [upd_same] | rw [upd_ne _ _ _ _ (by omega)]))
end Go.Proofs.YtealblliddhgiaaGreat
