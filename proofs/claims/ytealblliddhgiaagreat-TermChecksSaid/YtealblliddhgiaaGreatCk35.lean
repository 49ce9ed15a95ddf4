/-
  A PART OF THE PROOF (put together by program): several texts, one behind the other. Conditions: none.
-/
import Derived.Test.YtealblliddhgiaaGreatCk34
set_option linter.unusedSimpArgs false
set_option linter.unusedVariables false
namespace Go.Proofs.YtealblliddhgiaaGreat
theorem has_c (l : List Int) (n : Int) (hl : l.length ≤ 1000000) : PCt Tryz.prog 106 [.sl (l.map .i), .i n] (.ret [.bool (l.contains n)]) := by
  refine PCt.of_ev mix fn106 (by simp) ?_
  rw [c106]
  simp +contextual (disch := first | omega | (simp only [go_sem, false_implies]; done) | fail) only [go_sem, wrap64, if_pos, and_self]
  refine loop_fam (fun k : Nat => ⟨envJ [.d (.sl (l.map .i)), .d (.i n), .junk, .junk, .junk, .d (.i k)], fun _ => .no, 0⟩)
    (fun k => k ≤ l.length ∧ (l.take k).contains n = false) (fun k => l.length - k) 0 ⟨Nat.zero_le _, by simp⟩ (SLe.d0 _ ?_) (fun k hk => ?_)
  · (repeat (first | exact backE_nil | refine backE_junk ?_ | refine backE_d rfl ?_ | refine backE_d (d_int (wrapN (by omega))) ?_ | refine backE_v rfl (by simp [V.refs, V.refss] <;> first | omega | assumption) ?_))
  simp +contextual (disch := first | omega | (simp only [go_sem, false_implies]; done) | fail) only [go_sem, wrap64, if_pos, and_self]
  refine cond_intro (fun h2 => ?_) (fun h2 => ?_)
  · simp at h2
    obtain ⟨x, hx⟩ := get_of_lt h2
    simp +contextual (disch := first | omega | (simp only [go_sem, false_implies]; done) | fail) only [go_sem, wrap64, if_pos, hx]
    refine cond_intro (fun h3 => ?_) (fun h3 => ?_)
    · simp +contextual (disch := first | omega | (simp only [go_sem, false_implies]; done) | fail) only [go_sem, wrap64, if_pos, and_self]
      have : l.contains n = true := by
        rw [List.contains_iff_mem, ← (by simpa using h3 : x = n)]; exact List.mem_of_getElem? hx
      rw [this]
    · simp +contextual (disch := first | omega | (simp only [go_sem, false_implies]; done) | fail) only [go_sem, wrap64, if_pos, and_self]
      refine nextS_intro (k + 1) ⟨h2, ?_⟩ (by omega) (SLe.d0 _ ?_)
      · have h4 : ¬ n = x := fun e => by subst e; simp at h3
        have h5 := hk.2
        rw [List.take_add_one, hx]
        rw [Bool.eq_false_iff] at h5 ⊢
        intro hc; apply h5
        rw [List.contains_iff_mem] at hc ⊢
        rcases List.mem_append.1 hc with hc | hc
        · exact hc
        · simp at hc; exact absurd hc h4
      · (repeat (first | exact backE_nil | refine backE_junk ?_ | refine backE_d rfl ?_ | refine backE_d (d_int (wrapN (by omega))) ?_ | refine backE_v rfl (by simp [V.refs, V.refss] <;> first | omega | assumption) ?_))
  · simp at h2
    simp +contextual (disch := first | omega | (simp only [go_sem, false_implies]; done) | fail) only [go_sem, wrap64, if_pos, and_self]
    have := hk.2
    rw [List.take_of_length_le (by omega)] at this
    rw [this]
theorem putF_split : ∀ (l : List Int) (n : Int), ∃ k, k ≤ l.length ∧ (∀ x ∈ l.take k, x < n) ∧ (∀ x, l[k]? = some x → ¬ x < n) ∧ putF l n = if l[k]? = some n then l else l.take k ++ n :: l.drop k
  | [], n => ⟨0, Nat.zero_le _, by simp, by simp, by simp [putF]⟩
  | x :: l, n => by
    obtain ⟨k, h1, h2, h3, h4⟩ := putF_split l n
    by_cases hx : x < n
    · refine ⟨k + 1, by simp; omega, ?_, by simpa using h3, ?_⟩
      · intro y hy
        simp only [List.take_succ_cons, List.mem_cons] at hy
        rcases hy with rfl | hy
        · exact hx
        · exact h2 y hy
      · simp only [putF, if_pos hx, h4, List.getElem?_cons_succ, List.take_succ_cons, List.drop_succ_cons]
        split <;> simp
    · refine ⟨0, Nat.zero_le _, by simp, by simpa using hx, ?_⟩
      simp only [putF, if_neg hx]
      by_cases e : x = n
      · subst e; simp
      · simp [e]
theorem put_c (l : List Int) (n : Int) (hl : l.length ≤ 1000000) : PCt Tryz.prog 86 [.sl (l.map .i), .i n] (.ret [.sl ((putF l n).map .i)]) := by
  obtain ⟨j, j1, j2, j3, j4⟩ := putF_split l n
  have tk : ∀ (i : Nat) (l : List Int), List.take i (l.map D.i) = (l.take i).map D.i := fun i l => List.map_take.symm
  have dr : ∀ (i : Nat) (l : List Int), List.drop i (l.map D.i) = (l.drop i).map D.i := fun i l => List.map_drop.symm
  have ap : ∀ (a b : List Int), a.map D.i ++ [D.i n] ++ b.map D.i = (a ++ n :: b).map D.i := fun a b => by simp
  refine PCt.of_ev mix fn86 (by simp) ?_
  rw [c86]
  simp +contextual (disch := first | omega | (simp only [go_sem, false_implies]; done) | fail) only [go_sem, wrap64, if_pos, and_self]
  refine loop_fam (fun k : Nat => ⟨envJ [.d (.sl (l.map .i)), .d (.i n), .junk, .junk, .junk, .d (.i k)], fun _ => .no, 0⟩)
    (fun k => k ≤ j) (fun k => l.length - k) 0 (Nat.zero_le _) (SLe.d0 _ ?_) (fun k hk => ?_)
  · (repeat (first | exact backE_nil | refine backE_junk ?_ | refine backE_d rfl ?_ | refine backE_d (d_int (wrapN (by omega))) ?_ | refine backE_v rfl (by simp [V.refs, V.refss] <;> first | omega | assumption) ?_))
  by_cases hkj : k = j
  · subst hkj
    by_cases h5 : k < l.length
    · obtain ⟨x, hx⟩ := get_of_lt h5
      have h6 := j3 x hx
      have h5' : (k : Int) < l.length := by omega
      simp +contextual (disch := first | omega | (simp only [go_sem, false_implies]; done) | fail) only [go_sem, wrap64, if_pos, hx, h5', h6]
      refine cond_intro (fun h3 => ?_) (fun h3 => ?_)
      · simp +contextual (disch := first | omega | (simp only [go_sem, false_implies]; done) | fail) only [go_sem, wrap64, if_pos, and_self]
        have e : x = n := by simpa using h3
        rw [j4, if_pos (by rw [hx, e])]
      · have e : ¬ x = n := by simpa using h3
        rw [j4, if_neg (by rw [hx]; simpa using e)]
        simp +contextual (disch := first | omega | (simp only [go_sem, false_implies]; done) | fail) only [go_sem, wrap64, if_pos, hx, h5', h6, tk, dr, List.take_length, List.length_map, List.length_take, List.length_drop, List.length_append, List.length_cons, List.length_nil]
        rw [ap]
        refine end_intro (by decide) ?_
        simp +contextual (disch := first | omega | (simp only [go_sem, false_implies]; done) | fail) only [go_sem, wrap64, if_pos, and_self]
    · have h5' : ¬ (k : Int) < l.length := by omega
      have hx : l[k]? = none := by simp; omega
      rw [j4, if_neg (by rw [hx]; simp)]
      simp +contextual (disch := first | omega | (simp only [go_sem, false_implies]; done) | fail) only [go_sem, wrap64, if_pos, h5', tk, dr, List.take_length, List.length_map, List.length_take, List.length_drop, List.length_append, List.length_cons, List.length_nil]
      rw [ap]
      refine end_intro (by decide) ?_
      simp +contextual (disch := first | omega | (simp only [go_sem, false_implies]; done) | fail) only [go_sem, wrap64, if_pos, and_self]
  · have hlt : k < l.length := by omega
    obtain ⟨x, hx⟩ := get_of_lt hlt
    have h5' : (k : Int) < l.length := by omega
    have h6 : x < n := j2 x (List.mem_of_getElem? (i := k) (by rw [List.getElem?_take_of_lt (by omega)]; exact hx))
    simp +contextual (disch := first | omega | (simp only [go_sem, false_implies]; done) | fail) only [go_sem, wrap64, if_pos, hx, h5', h6]
    refine nextS_intro (k + 1) (by omega) (by omega) (SLe.d0 _ ?_)
    (repeat (first | exact backE_nil | refine backE_junk ?_ | refine backE_d rfl ?_ | refine backE_d (d_int (wrapN (by omega))) ?_ | refine backE_v rfl (by simp [V.refs, V.refss] <;> first | omega | assumption) ?_))
theorem sameInts_c (a b : List Int) (ha : a.length ≤ 1000000) (hb : b.length ≤ 1000000) : PCt Tryz.prog 45 [.sl (a.map .i), .sl (b.map .i)] (.ret [.bool (a == b)]) := by
  refine PCt.of_ev mix fn45 (by simp) ?_
  rw [c45]
  simp +contextual (disch := first | omega | (simp only [go_sem, false_implies]; done) | fail) only [go_sem, wrap64, if_pos, and_self]
  refine cond_intro (fun h1 => ?_) (fun h1 => ?_)
  · simp +contextual (disch := first | omega | (simp only [go_sem, false_implies]; done) | fail) only [go_sem, wrap64, if_pos, and_self]
    have : (a == b) = false := by
      rw [Bool.eq_false_iff]; intro h
      have h : a = b := by simpa using h
      subst h; simp at h1
    rw [this]
  · have hl : a.length = b.length := by simp at h1; omega
    simp +contextual (disch := first | omega | (simp only [go_sem, false_implies]; done) | fail) only [go_sem, wrap64, if_pos, and_self]
    refine loop_fam (fun k : Nat => ⟨envJ [.d (.sl (a.map .i)), .d (.sl (b.map .i)), .junk, .junk, .junk, .d (.i k)], fun _ => .no, 0⟩)
      (fun k => k ≤ a.length ∧ a.take k = b.take k) (fun k => a.length - k) 0 ⟨Nat.zero_le _, by simp⟩ (SLe.d0 _ ?_) (fun k hk => ?_)
    · (repeat (first | exact backE_nil | refine backE_junk ?_ | refine backE_d rfl ?_ | refine backE_d (d_int (wrapN (by omega))) ?_ | refine backE_v rfl (by simp [V.refs, V.refss] <;> first | omega | assumption) ?_))
    simp +contextual (disch := first | omega | (simp only [go_sem, false_implies]; done) | fail) only [go_sem, wrap64, if_pos, and_self]
    refine cond_intro (fun h2 => ?_) (fun h2 => ?_)
    · simp at h2
      obtain ⟨x, hx⟩ := get_of_lt h2
      obtain ⟨y, hy⟩ := get_of_lt (l := b) (k := k) (by omega)
      simp +contextual (disch := first | omega | (simp only [go_sem, false_implies]; done) | fail) only [go_sem, wrap64, if_pos, hx, hy]
      refine end_intro (by decide) ?_
      simp +contextual (disch := first | omega | (simp only [go_sem, false_implies]; done) | fail) only [go_sem, wrap64, if_pos, and_self]
      refine cond_intro (fun h3 => ?_) (fun h3 => ?_)
      · simp +contextual (disch := first | omega | (simp only [go_sem, false_implies]; done) | fail) only [go_sem, wrap64, if_pos, and_self]
        have : (a == b) = false := by
          rw [Bool.eq_false_iff]; intro h
          have h : a = b := by simpa using h
          subst h; rw [hx] at hy; injection hy with hy; simp [hy] at h3
        rw [this]
      · simp +contextual (disch := first | omega | (simp only [go_sem, false_implies]; done) | fail) only [go_sem, wrap64, if_pos, and_self]
        have e : x = y := by simpa using h3
        refine nextS_intro (k + 1) ⟨h2, by rw [List.take_add_one, List.take_add_one, hk.2, hx, hy, e]⟩ (by omega) (SLe.d0 _ ?_)
        (repeat (first | exact backE_nil | refine backE_junk ?_ | refine backE_d rfl ?_ | refine backE_d (d_int (wrapN (by omega))) ?_ | refine backE_v rfl (by simp [V.refs, V.refss] <;> first | omega | assumption) ?_))
    · simp at h2
      simp +contextual (disch := first | omega | (simp only [go_sem, false_implies]; done) | fail) only [go_sem, wrap64, if_pos, and_self]
      have := hk.2
      rw [List.take_of_length_le (by omega), List.take_of_length_le (by omega)] at this
      simp [this]
theorem kidF_snoc {op n : Int} {i : Nat} {l : List Int} {k : Nat} {v : Int} (h : l[k]? = some v) (out : List Int) : kidF op n i (l.take (k + 1)) out = if (op != 8 || (i : Int) != 1 || v != n) = true then putF (kidF op n i (l.take k) out) v else kidF op n i (l.take k) out := by
  unfold kidF
  rw [List.take_add_one, h, List.foldl_append]
  rfl
theorem rvars_c : ∀ t : Tm, t.Cnt → PCt Tryz.prog 46 [t.d] (.ret [.sl ((varsF t).map .i)]) := by
  refine Tm.ind' fun t ih ht => ?_
  have hf' := (Tm.fits_iff _).1 ht.fits
  refine PCt.of_ev mix fn46 (by simp) ?_
  rw [c46]
  by_cases h1 : t.op = 1
  · simp +contextual (disch := first | omega | (simp only [go_sem, false_implies]; done) | fail) only [go_sem, wrap64, if_pos, h1]
    rw [varsF_eq, if_pos h1]
    rfl
  · have h1' : (t.op == 1) = false := by simpa using h1
    simp +contextual (disch := first | omega | (simp only [go_sem, false_implies]; done) | fail) only [go_sem, wrap64, if_pos, h1']
    rw [varsF_eq, if_neg h1]
    refine loop_fam (fun i : Nat × List Int => ⟨envJ [.junk, .ptr 0 0, .junk, .d (.sl (i.2.map .i)), .d (.i i.1)], oneRow t.row, 1⟩)
      (fun i => i.1 ≤ t.kids.length ∧ varssF t.op t.n t.kids 0 [] = varssF t.op t.n (t.kids.drop i.1) i.1 i.2 ∧ i.2.length ≤ szs (t.kids.take i.1)) (fun i => t.kids.length - i.1) (0, []) ⟨Nat.zero_le _, rfl, Nat.zero_le _⟩
      (SLe.see0 (fun _ => False) 1 _ (by omega) (lt1 (seeO_same rfl (by simp [Obj'.refs, V.refss, V.refs]))) (fun j hj => upd_ne _ _ _ _ (by omega)) (fun _ h => h.elim) ?_) ?_
    · try dsimp only
      (repeat (first | exact seeE_nil | refine seeE_junk ?_ | refine seeE_d rfl ?_ | refine seeE_d (d_int (wrapN (by omega))) ?_ | refine seeE_g 0 rfl rfl rfl ?_ | refine seeE_v rfl (by simp [V.refs, V.refss] <;> first | omega | assumption) ?_ | refine seeE_c rfl (by simp [V.ids] <;> omega) ?_))
    rintro ⟨k, out⟩ ⟨hk, hv, hlen⟩
    simp only at hk hv hlen
    simp +contextual (disch := first | omega | (simp only [go_sem, false_implies]; done) | fail) only [go_sem, wrap64, if_pos, and_self]
    refine cond_intro (fun h2 => ?_) (fun h2 => ?_)
    · simp at h2
      obtain ⟨x, hx⟩ := get_of_lt h2
      have hxm := List.mem_of_getElem? hx
      have hsz : szs (t.kids.take (k + 1)) = szs (t.kids.take k) + x.sz := by
        rw [List.take_add_one, hx]; simp [szs]
      have hle : szs (t.kids.take (k + 1)) ≤ szs t.kids := by
        have : szs t.kids = szs (t.kids.take (k + 1)) + szs (t.kids.drop (k + 1)) := by
          conv => lhs; rw [← List.take_append_drop (k + 1) t.kids]
          unfold szs; rw [List.map_append, List.sum_append]
        omega
      have hts : szs t.kids ≤ 1000000 := by have := ht.size; rw [Tm.sizeI_sz, Tm.sz_eq] at this; omega
      have hvl := varsF_len x
      have hdr : t.kids.drop k = x :: t.kids.drop (k + 1) := by
        obtain ⟨h5, h6⟩ := List.getElem?_eq_some_iff.1 hx
        rw [List.drop_eq_getElem_cons h5, h6]
      simp +contextual (disch := first | omega | (simp only [go_sem, false_implies]; done) | fail) only [go_sem, wrap64, if_pos, hx]
      refine call_give (ih x hxm (ht.kid hxm)) ?_
      simp +contextual (disch := first | omega | (simp only [go_sem, false_implies]; done) | fail) only [go_sem, wrap64, if_pos, hx]
      refine loop_fam (fun j : Nat => ⟨envJ [.junk, .ptr 0 0, .junk, .d (.sl ((kidF t.op t.n k ((varsF x).take j) out).map .i)), .d (.i k), .d (.sl ((varsF x).map .i)), .d (.i j)], oneRow t.row, 1⟩)
        (fun j => j ≤ (varsF x).length) (fun j => (varsF x).length - j) 0 (Nat.zero_le _) (SLe.d1 _ (oneRow_good rfl) (by omega) rfl ?_) (fun j hj => ?_)
      · (repeat (first | exact backE_nil | refine backE_junk ?_ | refine backE_d rfl ?_ | refine backE_d (d_int (wrapN (by omega))) ?_ | refine backE_v rfl (by simp [V.refs, V.refss] <;> first | omega | assumption) ?_))
      simp +contextual (disch := first | omega | (simp only [go_sem, false_implies]; done) | fail) only [go_sem, wrap64, if_pos, and_self]
      refine cond_intro (fun h3 => ?_) (fun h3 => ?_)
      · simp at h3
        obtain ⟨v, hv2⟩ := get_of_lt h3
        have hkl := len_kidF t.op t.n k ((varsF x).take j) out
        have htl : ((varsF x).take j).length ≤ (varsF x).length := by rw [List.length_take]; omega
        cases b1 : (t.op != 8) with
        | true =>
          have hc : (t.op != 8 || (k : Int) != 1 || v != t.n) = true := by rw [b1]; rfl
          simp +contextual (disch := first | omega | (simp only [go_sem, false_implies]; done) | fail) only [go_sem, wrap64, if_pos, hv2, b1]
          refine end_intro (by decide) ?_
          simp +contextual (disch := first | omega | (simp only [go_sem, false_implies]; done) | fail) only [go_sem, wrap64, if_pos, hv2]
          refine call_give (put_c _ v (by omega)) ?_
          simp +contextual (disch := first | omega | (simp only [go_sem, false_implies]; done) | fail) only [go_sem, wrap64, if_pos, and_self]
          refine nextS_intro (j + 1) h3 (by omega) (SLe.d1 _ (oneRow_good rfl) (by omega) rfl ?_)
          rw [kidF_snoc hv2, if_pos hc]
          (repeat (first | exact backE_nil | refine backE_junk ?_ | refine backE_d rfl ?_ | refine backE_d (d_int (wrapN (by omega))) ?_ | refine backE_v rfl (by simp [V.refs, V.refss] <;> first | omega | assumption) ?_))
        | false =>
          cases b2 : ((k : Int) != 1) with
          | true =>
            have hc : (t.op != 8 || (k : Int) != 1 || v != t.n) = true := by rw [b1, b2]; rfl
            simp +contextual (disch := first | omega | (simp only [go_sem, false_implies]; done) | fail) only [go_sem, wrap64, if_pos, hv2, b1, b2]
            refine end_intro (by decide) ?_
            simp +contextual (disch := first | omega | (simp only [go_sem, false_implies]; done) | fail) only [go_sem, wrap64, if_pos, hv2]
            refine call_give (put_c _ v (by omega)) ?_
            simp +contextual (disch := first | omega | (simp only [go_sem, false_implies]; done) | fail) only [go_sem, wrap64, if_pos, and_self]
            refine nextS_intro (j + 1) h3 (by omega) (SLe.d1 _ (oneRow_good rfl) (by omega) rfl ?_)
            rw [kidF_snoc hv2, if_pos hc]
            (repeat (first | exact backE_nil | refine backE_junk ?_ | refine backE_d rfl ?_ | refine backE_d (d_int (wrapN (by omega))) ?_ | refine backE_v rfl (by simp [V.refs, V.refss] <;> first | omega | assumption) ?_))
          | false =>
            simp +contextual (disch := first | omega | (simp only [go_sem, false_implies]; done) | fail) only [go_sem, wrap64, if_pos, hv2, b1, b2]
            refine end_intro (by decide) ?_
            simp +contextual (disch := first | omega | (simp only [go_sem, false_implies]; done) | fail) only [go_sem, wrap64, if_pos, hv2]
            refine cond_intro (fun h4 => ?_) (fun h4 => ?_)
            · have hc : (t.op != 8 || (k : Int) != 1 || v != t.n) = true := by rw [h4]; simp
              simp +contextual (disch := first | omega | (simp only [go_sem, false_implies]; done) | fail) only [go_sem, wrap64, if_pos, hv2]
              refine call_give (put_c _ v (by omega)) ?_
              simp +contextual (disch := first | omega | (simp only [go_sem, false_implies]; done) | fail) only [go_sem, wrap64, if_pos, and_self]
              refine nextS_intro (j + 1) h3 (by omega) (SLe.d1 _ (oneRow_good rfl) (by omega) rfl ?_)
              rw [kidF_snoc hv2, if_pos hc]
              (repeat (first | exact backE_nil | refine backE_junk ?_ | refine backE_d rfl ?_ | refine backE_d (d_int (wrapN (by omega))) ?_ | refine backE_v rfl (by simp [V.refs, V.refss] <;> first | omega | assumption) ?_))
            · have hc : ¬ (t.op != 8 || (k : Int) != 1 || v != t.n) = true := by rw [b1, b2, h4]; simp
              simp +contextual (disch := first | omega | (simp only [go_sem, false_implies]; done) | fail) only [go_sem, wrap64, if_pos, hv2]
              refine nextS_intro (j + 1) h3 (by omega) (SLe.d1 _ (oneRow_good rfl) (by omega) rfl ?_)
              rw [kidF_snoc hv2, if_neg hc]
              (repeat (first | exact backE_nil | refine backE_junk ?_ | refine backE_d rfl ?_ | refine backE_d (d_int (wrapN (by omega))) ?_ | refine backE_v rfl (by simp [V.refs, V.refss] <;> first | omega | assumption) ?_))
      · simp at h3
        simp +contextual (disch := first | omega | (simp only [go_sem, false_implies]; done) | fail) only [go_sem, wrap64, if_pos, and_self]
        rw [List.take_of_length_le (by omega)]
        refine nextS_intro (k + 1, kidF t.op t.n k (varsF x) out) ⟨h2, by rw [hv, hdr]; rfl, ?_⟩ (by dsimp only; omega) (SLe.d1 _ (oneRow_good rfl) (by omega) rfl ?_)
        · dsimp only
          have := len_kidF t.op t.n k (varsF x) out
          omega
        · (repeat (first | exact backE_nil | refine backE_junk ?_ | refine backE_d rfl ?_ | refine backE_d (d_int (wrapN (by omega))) ?_ | refine backE_v rfl (by simp [V.refs, V.refss] <;> first | omega | assumption) ?_))
    · simp at h2
      simp +contextual (disch := first | omega | (simp only [go_sem, false_implies]; done) | fail) only [go_sem, wrap64, if_pos, and_self]
      rw [hv, List.drop_eq_nil_of_le (by omega)]
      rfl
theorem ground_c (t : Tm) (ht : t.Cnt) : PCt Tryz.prog 43 [t.d] (.ret [.bool ((varsF t).length == 0)]) := by
  refine PCt.of_ev mix fn43 (by simp) ?_
  rw [c43]
  simp +contextual (disch := first | omega | (simp only [go_sem, false_implies]; done) | fail) only [go_sem, wrap64, if_pos, and_self]
  refine call_give (rvars_c t ht) ?_
  simp +contextual (disch := first | omega | (simp only [go_sem, false_implies]; done) | fail) only [go_sem, wrap64, if_pos, and_self]
  congr 3
  rw [Bool.eq_iff_iff]; simp
def shapeB (t : Tm) : Bool := t.op == 1 || t.op == 3
mutual
def shapeF : Tm → Bool
  | .mk op n kids => shapesF kids && shapeB (.mk op n kids)
def shapesF : List Tm → Bool
  | [] => true
  | k :: l => shapeF k && shapesF l
end
theorem shapeF_eq (t : Tm) : shapeF t = (t.kids.all shapeF && shapeB t) := by
  have : ∀ l : List Tm, shapesF l = l.all shapeF := fun l => by
    induction l with
    | nil => rfl
    | cons k l ih => simp [shapesF, ih]
  cases t; simp only [shapeF, this, Tm.kids]
theorem shape_c : ∀ t : Tm, t.fits → PCt Tryz.prog 85 [t.d] (.ret [.bool (shapeF t)]) := by
  refine Tm.ind' fun t ih hf => ?_
  have hf' := (Tm.fits_iff _).1 hf
  refine PCt.of_ev mix fn85 (by simp) ?_
  rw [c85, shapeF_eq]
  simp +contextual (disch := first | omega | (simp only [go_sem, false_implies]; done) | fail) only [go_sem, wrap64, if_pos, and_self]
  refine loop_fam (fun k : Nat => ⟨envJ [.junk, .ptr 0 0, .junk, .d (.i k)], oneRow t.row, 1⟩)
    (fun k => k ≤ t.kids.length ∧ (t.kids.take k).all shapeF = true) (fun k => t.kids.length - k) 0 ⟨Nat.zero_le _, by simp⟩ (SLe.d1 _ (oneRow_good rfl) (by omega) rfl ?_) (fun k hk => ?_)
  · (repeat (first | exact backE_nil | refine backE_junk ?_ | refine backE_d rfl ?_ | refine backE_d (d_int (wrapN (by omega))) ?_ | refine backE_v rfl (by simp [V.refs, V.refss] <;> first | omega | assumption) ?_))
  simp +contextual (disch := first | omega | (simp only [go_sem, false_implies]; done) | fail) only [go_sem, wrap64, if_pos, and_self]
  refine cond_intro (fun h2 => ?_) (fun h2 => ?_)
  · simp at h2
    obtain ⟨x, hx⟩ := get_of_lt h2
    have hxm := List.mem_of_getElem? hx
    simp +contextual (disch := first | omega | (simp only [go_sem, false_implies]; done) | fail) only [go_sem, wrap64, if_pos, hx]
    refine call_keep (ih x hxm (hf'.2 x hxm)) rfl ?_
    simp +contextual (disch := first | omega | (simp only [go_sem, false_implies]; done) | fail) only [go_sem, wrap64, if_pos, and_self]
    refine cond_intro (fun h3 => ?_) (fun h3 => ?_)
    · simp +contextual (disch := first | omega | (simp only [go_sem, false_implies]; done) | fail) only [go_sem, wrap64, if_pos, and_self]
      simp at h3
      rw [all_stop hx h3]; rfl
    · simp +contextual (disch := first | omega | (simp only [go_sem, false_implies]; done) | fail) only [go_sem, wrap64, if_pos, and_self]
      simp at h3
      refine nextS_intro (k + 1) ⟨h2, all_snoc hx hk.2 h3⟩ (by omega) (SLe.d1 _ (oneRow_good rfl) (by omega) rfl ?_)
      (repeat (first | exact backE_nil | refine backE_junk ?_ | refine backE_d rfl ?_ | refine backE_d (d_int (wrapN (by omega))) ?_ | refine backE_v rfl (by simp [V.refs, V.refss] <;> first | omega | assumption) ?_))
  · simp +contextual (disch := first | omega | (simp only [go_sem, false_implies]; done) | fail) only [go_sem, wrap64, if_pos, and_self]
    simp at h2
    rw [all_done hk.2 h2]; rfl
mutual
def onceF : Tm → List Int → List Int × Bool
  | .mk op n kids, b => if op = 1 then (putF b n, !b.contains n) else oncesF kids b
def oncesF : List Tm → List Int → List Int × Bool
  | [], b => (b, true)
  | k :: l, b => if (onceF k b).2 = true then oncesF l (onceF k b).1 else ((onceF k b).1, false)
end
theorem onceF_eq (t : Tm) (b : List Int) : onceF t b = if t.op = 1 then (putF b t.n, !b.contains t.n) else oncesF t.kids b := by cases t; rfl
theorem len_onceF : ∀ (t : Tm) (b : List Int), (onceF t b).1.length ≤ b.length + t.sz := by
  refine Tm.ind' fun t ih b => ?_
  have hs : ∀ (l : List Tm) (b : List Int), (∀ k ∈ l, k ∈ t.kids) → (oncesF l b).1.length ≤ b.length + szs l := by
    intro l
    induction l with
    | nil => intro b _; simp [oncesF, szs]
    | cons k l ihl =>
      intro b hk
      have h1 := ih k (hk k (by simp)) b
      have h2 := ihl (onceF k b).1 (fun x hx => hk x (by simp [hx]))
      rw [szs_cons]
      simp only [oncesF]
      split
      · omega
      · simp only; omega
  rw [onceF_eq, Tm.sz_eq]
  have h3 := len_putF b t.n
  have h4 := hs t.kids b (fun _ h => h)
  split
  · simp only; omega
  · omega
theorem once_c : ∀ t : Tm, t.Cnt → ∀ b : List Int, b.length + t.sz ≤ 1000000 → PCt Tryz.prog 84 [t.d, .sl (b.map .i)] (.ret [.sl ((onceF t b).1.map .i), .bool (onceF t b).2]) := by
  refine Tm.ind' fun t ih ht b hb => ?_
  have hf' := (Tm.fits_iff _).1 ht.fits
  refine PCt.of_ev mix fn84 (by simp) ?_
  rw [c84]
  by_cases h1 : t.op = 1
  · rw [onceF_eq, if_pos h1]
    simp +contextual (disch := first | omega | (simp only [go_sem, false_implies]; done) | fail) only [go_sem, wrap64, if_pos, h1]
    refine callD_give (put_c _ _ (by omega)) ?_
    simp +contextual (disch := first | omega | (simp only [go_sem, false_implies]; done) | fail) only [go_sem, wrap64, if_pos, and_self]
    refine callD_keep (has_c _ _ (by omega)) rfl ?_
    simp +contextual (disch := first | omega | (simp only [go_sem, false_implies]; done) | fail) only [go_sem, wrap64, if_pos, and_self]
    refine end_intro (by decide) ?_
    simp +contextual (disch := first | omega | (simp only [go_sem, false_implies]; done) | fail) only [go_sem, wrap64, if_pos, and_self]
  · have h1' : (t.op == 1) = false := by simpa using h1
    rw [onceF_eq, if_neg h1]
    simp +contextual (disch := first | omega | (simp only [go_sem, false_implies]; done) | fail) only [go_sem, wrap64, if_pos, h1']
    refine loop_fam (fun i : Nat × List Int × Bool => ⟨envJ [.junk, .d (.sl (i.2.1.map .i)), .ptr 0 0, .junk, .junk, .junk, .d (.bool i.2.2), .d (.i i.1)], oneRow t.row, 1⟩)
      (fun i => i.1 ≤ t.kids.length ∧ oncesF t.kids b = (if i.2.2 = true then oncesF (t.kids.drop i.1) i.2.1 else (i.2.1, false)) ∧ i.2.1.length ≤ b.length + szs (t.kids.take i.1)) (fun i => t.kids.length - i.1) (0, b, true) ⟨Nat.zero_le _, rfl, Nat.le_add_right _ _⟩ (SLe.d1 _ (oneRow_good rfl) (by omega) rfl ?_) ?_
    · dsimp only
      (repeat (first | exact backE_nil | refine backE_junk ?_ | refine backE_d rfl ?_ | refine backE_d (d_int (wrapN (by omega))) ?_ | refine backE_v rfl (by simp [V.refs, V.refss] <;> first | omega | assumption) ?_))
    rintro ⟨k, b', is⟩ ⟨hk, hv, hlen⟩
    simp only at hk hv hlen
    have hts := Tm.sz_eq t
    have fin : is = false ∨ t.kids.length ≤ k → oncesF t.kids b = (b', is) := by
      intro h
      cases is with
      | false => rw [hv]; rfl
      | true =>
        have h : t.kids.length ≤ k := by simpa using h
        rw [hv, List.drop_eq_nil_of_le h]; rfl
    simp +contextual (disch := first | omega | (simp only [go_sem, false_implies]; done) | fail) only [go_sem, wrap64, if_pos, and_self]
    cases is with
    | false =>
      simp +contextual (disch := first | omega | (simp only [go_sem, false_implies]; done) | fail) only [go_sem, wrap64, if_pos, and_self]
      rw [fin (.inl rfl)]
    | true =>
      simp +contextual (disch := first | omega | (simp only [go_sem, false_implies]; done) | fail) only [go_sem, wrap64, if_pos, and_self]
      refine cond_intro (fun h2 => ?_) (fun h2 => ?_)
      · simp at h2
        obtain ⟨x, hx⟩ := get_of_lt h2
        have hxm := List.mem_of_getElem? hx
        have hsz : szs (t.kids.take (k + 1)) = szs (t.kids.take k) + x.sz := by
          rw [List.take_add_one, hx]; simp [szs]
        have hle : szs t.kids = szs (t.kids.take (k + 1)) + szs (t.kids.drop (k + 1)) := by
          conv => lhs; rw [← List.take_append_drop (k + 1) t.kids]
          unfold szs; rw [List.map_append, List.sum_append]
        have hdr : t.kids.drop k = x :: t.kids.drop (k + 1) := by
          obtain ⟨h5, h6⟩ := List.getElem?_eq_some_iff.1 hx
          rw [List.drop_eq_getElem_cons h5, h6]
        simp +contextual (disch := first | omega | (simp only [go_sem, false_implies]; done) | fail) only [go_sem, wrap64, if_pos, hx]
        refine call_give (ih x hxm (ht.kid hxm) b' (by omega)) ?_
        simp +contextual (disch := first | omega | (simp only [go_sem, false_implies]; done) | fail) only [go_sem, wrap64, if_pos, and_self]
        refine nextS_intro (k + 1, (onceF x b').1, (onceF x b').2) ⟨h2, ?_, ?_⟩ (by dsimp only; omega) (SLe.d1 _ (oneRow_good rfl) (by omega) rfl ?_)
        · dsimp only
          rw [hv, if_pos rfl, hdr]
          simp only [oncesF]
        · dsimp only
          have := len_onceF x b'
          omega
        · (repeat (first | exact backE_nil | refine backE_junk ?_ | refine backE_d rfl ?_ | refine backE_d (d_int (wrapN (by omega))) ?_ | refine backE_v rfl (by simp [V.refs, V.refss] <;> first | omega | assumption) ?_))
      · simp at h2
        simp +contextual (disch := first | omega | (simp only [go_sem, false_implies]; done) | fail) only [go_sem, wrap64, if_pos, and_self]
        rw [fin (.inr h2)]
theorem pattern_c (t : Tm) (ht : t.Cnt) : PCt Tryz.prog 44 [t.d] (.ret [.bool ((onceF t []).2 && shapeF t)]) := by
  have ho := once_c t ht [] (by have := ht.size; rw [Tm.sizeI_sz] at this; simp; omega)
  simp only [List.map_nil] at ho
  refine PCt.of_ev mix fn44 (by simp) ?_
  rw [c44]
  simp +contextual (disch := first | omega | (simp only [go_sem, false_implies]; done) | fail) only [go_sem, wrap64, if_pos, and_self]
  refine call_give ho ?_
  simp +contextual (disch := first | omega | (simp only [go_sem, false_implies]; done) | fail) only [go_sem, wrap64, if_pos, and_self]
  refine guard_data (callG_intro [.bool (shapeF t)] ?_ ?_)
  · simp +contextual (disch := first | omega | (simp only [go_sem, false_implies]; done) | fail) only [go_sem, wrap64, if_pos, and_self]
    exact fun _ => shape_c t ht.fits
  simp +contextual (disch := first | omega | (simp only [go_sem, false_implies]; done) | fail) only [go_sem, wrap64, if_pos, and_self]
end Go.Proofs.YtealblliddhgiaaGreat
namespace Go.Proofs.YtealblliddhgiaaGreat
def vns (l : List (Tm × Int)) : List Int := (l.filter fun x => x.1.op == 1).map fun x => x.1.n
theorem vns_append (a b : List (Tm × Int)) : vns (a ++ b) = vns a ++ vns b := by simp [vns]
theorem vns_cons (x : Tm × Int) (l : List (Tm × Int)) : vns (x :: l) = (if x.1.op = 1 then x.1.n :: vns l else vns l) := by
  unfold vns
  by_cases h : x.1.op = 1
  · simp [h]
  · simp [h]
theorem mem_vns_flat {l : List Tm} {d v : Int} : v ∈ vns (l.flatMap fun k => pre k d) ↔ ∃ k ∈ l, v ∈ vns (pre k d) := by
  induction l with
  | nil => simp [vns]
  | cons k l ih => simp [vns_append, ih]
theorem isGr_iff (t : Tm) : isGrF t = true ↔ vns (pre t 1) = [] := by
  unfold isGrF
  generalize pre t 1 = l
  induction l with
  | nil => simp [vns]
  | cons x l ih =>
    rw [vns_cons, List.all_cons, Bool.and_eq_true, ih]
    by_cases h : x.1.op = 1
    · simp [h]
    · simp [h]
theorem fvs_any {v op n : Int} (h : op ≠ 8) : ∀ (l : List Tm) (i : Nat), fvsB v op n l i = l.any (fvB v)
  | [], i => rfl
  | k :: l, i => by
    have : (op == 8) = false := by simpa using h
    simp [fvsB, fvs_any h l, this]
theorem fv_vns : ∀ (t : Tm) (d : Int), (∀ x ∈ pre t d, x.1.op ≠ 8) → (∀ x ∈ pre t d, x.1.op = 1 → x.1.kids = []) → ∀ v, fvB v t = true ↔ v ∈ vns (pre t d) := by
  refine Tm.ind' fun t ih d h8 h1 v => ?_
  have hp := pre_eq t d
  have ht8 : t.op ≠ 8 := h8 (t, d) (by rw [hp]; simp)
  have hsub : ∀ k ∈ t.kids, ∀ x ∈ pre k (d + 1), x ∈ pre t d := fun k hk x hx => by rw [hp]; exact List.mem_cons_of_mem _ (List.mem_flatMap.2 ⟨k, hk, hx⟩)
  rw [hp, vns_cons, fvB_eq]
  by_cases h : t.op = 1
  · have hk : t.kids = [] := h1 (t, d) (by rw [hp]; simp) h
    simp only [if_pos h, hk, List.flatMap_nil]
    show (t.n == v) = true ↔ v ∈ [t.n]
    rw [beq_iff_eq, List.mem_singleton]; exact eq_comm
  · simp only [if_neg h]
    rw [fvs_any ht8, mem_vns_flat, List.any_eq_true]
    constructor
    · rintro ⟨k, hk, hv⟩
      exact ⟨k, hk, (ih k hk (d + 1) (fun x hx => h8 x (hsub k hk x hx)) (fun x hx => h1 x (hsub k hk x hx)) v).1 hv⟩
    · rintro ⟨k, hk, hv⟩
      exact ⟨k, hk, (ih k hk (d + 1) (fun x hx => h8 x (hsub k hk x hx)) (fun x hx => h1 x (hsub k hk x hx)) v).2 hv⟩
theorem formed_nodes {s : TSig} {t : Tm} (h : termF s t = true) : ∀ x ∈ pre t 1, nodeF s x.1 = true := by
  simp only [termF, Bool.and_eq_true, nodesF_pre s t 1, List.all_eq_true] at h
  exact h.2
theorem node_var {s : TSig} {t : Tm} (h : nodeF s t = true) (h1 : t.op = 1) : t.kids = [] := by
  simp [nodeF, h1] at h
  exact h.1
theorem value_ops {t : Tm} (h : valueF t = true) : ∀ x ∈ pre t 1, x.1.op ≠ 8 := by
  rw [valueF_pre t 1, List.all_eq_true] at h
  intro x hx he
  have := h x hx
  simp [he] at this
theorem ground_eq {s : TSig} {t : Tm} (h : termF s t = true) (hv : valueF t = true) : isGrF t = ((varsF t).length == 0) := by
  have h1 := fv_vns t 1 (value_ops hv) fun x hx ho => node_var (formed_nodes h x hx) ho
  rw [Bool.eq_iff_iff, isGr_iff]
  simp only [beq_iff_eq, List.length_eq_zero_iff]
  constructor
  · intro he
    rw [List.eq_nil_iff_forall_not_mem]
    intro v hv
    rw [(varsF_spec t).2 v, h1 v, he] at hv
    cases hv
  · intro he
    rw [List.eq_nil_iff_forall_not_mem]
    intro v hv
    rw [← h1 v, ← (varsF_spec t).2 v, he] at hv
    cases hv
theorem pat_fold : ∀ (L : List (Tm × Int)) (l : List Int) (b : Bool), (foldE (stp pJ pstep) (l, b) L).2 = true ↔ (∀ x ∈ L, shapeB x.1 = true) ∧ (vns L).Nodup ∧ ∀ v ∈ vns L, v ∉ l
  | [], l, b => by simp [foldE, vns]
  | x :: L, l, b => by
    have e1 : ∀ c, pbad l x = c → stp pJ pstep (l, b) x = ((if c = true then l else if x.1.op = 1 then insI l x.1.n else l, !c), !c) := fun c hc => by
      show ((if pbad l x = true then l else if x.1.op = 1 then insI l x.1.n else l, !pbad l x), (pJ (if pbad l x = true then l else if x.1.op = 1 then insI l x.1.n else l, !pbad l x)).isNone) = _
      rw [hc]; cases c <;> rfl
    rw [foldE, vns_cons]
    cases hb : pbad l x with
    | true =>
      rw [e1 _ hb]
      simp only [Bool.not_true, Bool.false_eq_true, if_false, false_iff, not_and]
      intro hs hn hv
      have hsx := hs x (by simp)
      simp only [pbad, shapeB, Bool.or_eq_true, Bool.and_eq_true, bne_iff_ne, beq_iff_eq, ne_eq] at hb hsx
      rcases hb with ⟨h1, h2⟩ | ⟨h1, h2⟩
      · rcases hsx with h | h
        · exact h1 h
        · exact h2 h
      · rw [if_pos h1] at hv
        exact hv x.1.n (by simp) (by simpa using h2)
    | false =>
      rw [e1 _ hb]
      simp only [Bool.not_false, if_true, Bool.false_eq_true, if_false]
      rw [pat_fold L]
      simp only [pbad, Bool.or_eq_false_iff, Bool.and_eq_false_iff, bne_eq_false_iff_eq, beq_eq_false_iff_ne, ne_eq] at hb
      have hsx : shapeB x.1 = true := by simp only [shapeB, Bool.or_eq_true, beq_iff_eq]; exact hb.1
      by_cases h1 : x.1.op = 1
      · have hnl : x.1.n ∉ l := by
          rcases hb.2 with h | h
          · exact absurd h1 h
          · intro hm; rw [← List.contains_iff_mem] at hm; rw [h] at hm; cases hm
        rw [if_pos h1, if_pos h1]
        simp only [List.mem_cons, forall_eq_or_imp, hsx, true_and, List.nodup_cons, mem_insI, not_or]
        constructor
        · rintro ⟨a1, a2, a3⟩
          exact ⟨a1, ⟨fun hm => (a3 _ hm).2 rfl, a2⟩, hnl, fun v hv => (a3 v hv).1⟩
        · rintro ⟨a1, ⟨a2, a3⟩, a4, a5⟩
          exact ⟨a1, a3, fun v hv => ⟨a5 v hv, fun e => a2 (e ▸ hv)⟩⟩
      · rw [if_neg h1, if_neg h1]
        simp only [List.mem_cons, forall_eq_or_imp, hsx, true_and]
theorem once_spec : ∀ (t : Tm) (d : Int), (∀ x ∈ pre t d, x.1.op = 1 → x.1.kids = []) → ∀ b : List Int, ((onceF t b).2 = true ↔ (vns (pre t d)).Nodup ∧ ∀ v ∈ vns (pre t d), v ∉ b) ∧ ((onceF t b).2 = true → ∀ v, v ∈ (onceF t b).1 ↔ v ∈ b ∨ v ∈ vns (pre t d)) := by
  refine Tm.ind' fun t ih d h1 b => ?_
  have hp := pre_eq t d
  have hsub : ∀ k ∈ t.kids, ∀ x ∈ pre k (d + 1), x ∈ pre t d := fun k hk x hx => by rw [hp]; exact List.mem_cons_of_mem _ (List.mem_flatMap.2 ⟨k, hk, hx⟩)
  have hs : ∀ (l : List Tm) (b : List Int), (∀ k ∈ l, k ∈ t.kids) → ((oncesF l b).2 = true ↔ (vns (l.flatMap fun k => pre k (d + 1))).Nodup ∧ ∀ v ∈ vns (l.flatMap fun k => pre k (d + 1)), v ∉ b) ∧ ((oncesF l b).2 = true → ∀ v, v ∈ (oncesF l b).1 ↔ v ∈ b ∨ v ∈ vns (l.flatMap fun k => pre k (d + 1))) := by
    intro l
    induction l with
    | nil => intro b _; simp [oncesF, vns]
    | cons k l ihl =>
      intro b hk
      obtain ⟨k1, k2⟩ := ih k (hk k (by simp)) (d + 1) (fun x hx => h1 x (hsub k (hk k (by simp)) x hx)) b
      obtain ⟨l1, l2⟩ := ihl (onceF k b).1 (fun x hx => hk x (by simp [hx]))
      simp only [oncesF, List.flatMap_cons, vns_append, List.nodup_append, List.mem_append]
      by_cases hc : (onceF k b).2 = true
      · rw [if_pos hc]
        have hm := k2 hc
        obtain ⟨c1, c2⟩ := k1.1 hc
        constructor
        · rw [l1]
          constructor
          · rintro ⟨a1, a2⟩
            refine ⟨⟨c1, a1, fun x hx y hy e => a2 y hy ((hm y).2 (.inr (e ▸ hx)))⟩, ?_⟩
            rintro v (hv | hv)
            · exact c2 v hv
            · exact fun hb => a2 v hv ((hm v).2 (.inl hb))
          · rintro ⟨⟨a1, a2, a3⟩, a4⟩
            refine ⟨a2, fun v hv hm2 => ?_⟩
            rcases (hm v).1 hm2 with h | h
            · exact a4 v (.inr hv) h
            · exact a3 v h v hv rfl
        · intro h v
          rw [l2 h v, hm v]
          constructor
          · rintro ((h | h) | h)
            · exact .inl h
            · exact .inr (.inl h)
            · exact .inr (.inr h)
          · rintro (h | h | h)
            · exact .inl (.inl h)
            · exact .inl (.inr h)
            · exact .inr h
      · rw [if_neg hc]
        simp only [Bool.false_eq_true, false_iff, false_implies, and_true, not_and]
        rintro ⟨a1, a2, a3⟩ a4
        exact hc (k1.2 ⟨a1, fun v hv => a4 v (.inl hv)⟩)
  rw [onceF_eq, hp, vns_cons]
  by_cases h : t.op = 1
  · have hk : t.kids = [] := h1 (t, d) (by rw [hp]; simp) h
    simp only [if_pos h, hk, List.flatMap_nil]
    simp only [vns, List.filter_nil, List.map_nil, List.nodup_cons, List.not_mem_nil, not_false_eq_true, List.nodup_nil, and_self, true_and, List.mem_singleton, forall_eq, Bool.not_eq_true', mem_putF]
    refine ⟨?_, fun _ v => trivial⟩
    rw [Bool.eq_false_iff, ne_eq, List.contains_iff_mem]
  · simp only [if_neg h]
    exact hs t.kids b (fun _ h => h)
theorem shape_pre : ∀ (t : Tm) (d : Int), shapeF t = (pre t d).all fun x => shapeB x.1 := by
  refine Tm.ind' fun t ih d => ?_
  rw [pre_all shapeB, shapeF_eq, Bool.and_comm]
  congr 1
  rw [Bool.eq_iff_iff]
  simp only [List.all_eq_true (l := t.kids)]
  exact forall_congr' fun k => forall_congr' fun hk => by rw [ih k hk (d + 1)]
theorem pat_eq {s : TSig} {t : Tm} (h : termF s t = true) : patF t = ((onceF t []).2 && shapeF t) := by
  have h1 := (once_spec t 1 (fun x hx ho => node_var (formed_nodes h x hx) ho) []).1
  rw [Bool.eq_iff_iff, Bool.and_eq_true, h1, patF, pat_fold, shape_pre t 1, List.all_eq_true]
  constructor
  · rintro ⟨a, b, c⟩; exact ⟨⟨b, fun v _ => by simp⟩, a⟩
  · rintro ⟨⟨a, b⟩, c⟩; exact ⟨c, a, fun v _ => by simp⟩
end Go.Proofs.YtealblliddhgiaaGreat
section
namespace Go.Proofs.YtealblliddhgiaaGreat
open Go
def dat1 : Nat → Bool := fun g => !([81, 63, 92, 98, 101, 107, 117, 100, 61, 72, 108, 131, 132, 133, 134, 135, 136, 138, 139, 143, 146, 147, 148, 110, 64, 127, 114, 113, 99] : List Nat).contains g
def cfgK : Cfg Tryz.prog := Cfg.of dat1 [] (fun _ h => by cases h)
theorem known_run : runD Tryz.prog tab cfgK 5000 13 [] = some (.ret [.bool true]) := by kernel_rfl
theorem known : PCt Tryz.prog 13 [] (.ret [.bool true]) := PCt.of_run mix tab_ok known_run
end Go.Proofs.YtealblliddhgiaaGreat
end
namespace Go.Proofs.YtealblliddhgiaaGreat
end Go.Proofs.YtealblliddhgiaaGreat
