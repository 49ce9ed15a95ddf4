/-
  A PART OF THE PROOF (put together by program): several texts, one behind the other. Conditions: none.
-/
import Derived.Test.YtealblliddhgiaaGreatOr35
set_option linter.unusedSimpArgs false
set_option linter.unusedVariables false
namespace Go.Proofs.YtealblliddhgiaaGreat
theorem put_frz {o : Nat → Obj'} {ids : List Nat} {id : Nat} (h : id ∉ ids) : put o (frz o ids) id = o id :=
  put_not (fun x hx => by
    simp only [frz, List.mem_map] at hx
    obtain ⟨j, hj, rfl⟩ := hx
    exact fun e => h (e ▸ hj))
theorem order_D {t : Tm} (h : t.fits) {o : Nat → Obj'} {nx cid fid : Nat} {bv : V} {mB bd fr : List (Int × Int)} {n : Int} (hp : OrdPre o nx cid fid bv mB bd fr n t.sz) {K X : V → (Nat → Obj') → Nat → Prop}
    (hK : ∀ o' nx', nx ≤ nx' → (∀ j, j < nx → j ≠ cid → j ≠ fid → o' j = o j) → o' cid = .row [.d (.i (ordF t bd fr n).2.2), .mp fid] → K (.d (ordF t bd fr n).1.d) o' nx') :
    CtK Tryz.prog 110 [.agg [.ptr cid 0, bv], .d t.d] o nx K X := by
  have c1 : cid < nx := hp.good.lt (by rw [hp.hc]; exact Obj'.noConfusion)
  refine CtK.seal (order_c t h _ _ _ _ _ _ _ _ _ hp _ _ fun v o' nx' g1 g2 g3 g4 g5 g6 g7 => ⟨_, g3, hK _ _ g1 (fun j k1 k2 k3 => ?_) ?_⟩)
  · rw [put_frz (fun hm => by have := g4 j hm; omega)]; exact g5 j k1 k2 k3
  · rw [put_frz (fun hm => by have := g4 cid hm; omega)]; exact g6
def ordT (t : Tm) : Tm := (ordF t [] [] 0).1
def ordN (t : Tm) : Int := (ordF t [] [] 0).2.2
theorem ordered_c (t : Tm) (h : t.fits) (hs : t.sz ≤ 1000000) : PCt Tryz.prog 74 [t.d] (.ret [(ordT t).d, .i (ordN t)]) := by
  refine PCt.of_ev mix fn74 (by simp) ?_
  rw [c74]
  simp +contextual (disch := first | omega | (simp only [go_sem, false_implies]; done) | fail) only [go_sem, wrap64, if_pos, Nat.add_assoc, Nat.left_eq_add, Nat.add_eq_left, Nat.add_left_cancel_iff]
  refine callR_heap (order_D (cid := 5) (fid := 3) h (mB := []) (bd := []) (fr := []) (n := 0) ⟨(by repeat (first | exact hg.mono (by omega) | exact Good.nil | refine Good.upd ?_ (by omega) rfl | refine Good.upd ?_ (by omega) (hLr _ _ _ (by omega)) | refine Good.upd ?_ (by omega) (by simp [Obj'.refs, V.refss, V.refs] <;> omega))), by (repeat (first | rfl | rw [upd_same] | rw [upd_ne _ _ _ _ (by omega)])), by (repeat (first | rfl | rw [upd_same] | rw [upd_ne _ _ _ _ (by omega)])), .inl ⟨rfl, rfl⟩, List.nodup_nil, fun _ => rfl, by decide, by omega⟩ fun o2 n2 m1 m2 m3 => ?_)
  have u1 : o2 1 = .row [.d (.i 0), .d (.i 0), .nils] := by rw [m2 1 (by omega) (by omega) (by omega)]; (repeat (first | rfl | rw [upd_same] | rw [upd_ne _ _ _ _ (by omega)]))
  have u7 : o2 7 = .row [.ptr 5 0, .d .nilm] := by rw [m2 7 (by omega) (by omega) (by omega)]; (repeat (first | rfl | rw [upd_same] | rw [upd_ne _ _ _ _ (by omega)]))
  have w1 : 1 ≠ n2 := by omega
  have w2 : ∀ k, 1 ≠ n2 + k := fun k => by omega
  have w3 : 7 ≠ n2 := by omega
  have w4 : ∀ k, 7 ≠ n2 + k := fun k => by omega
  have w5 : 5 ≠ n2 := by omega
  have w6 : ∀ k, 5 ≠ n2 + k := fun k => by omega
  simp +contextual (disch := first | omega | (simp only [go_sem, false_implies]; done) | fail) only [go_sem, wrap64, if_pos, u1, u7, m3, w1, w2, w3, w4, w5, w6, Nat.add_assoc, Nat.left_eq_add, Nat.add_eq_left, Nat.add_left_cancel_iff]
  refine end_intro (objsOk_renL (ids := [1, 5, 7]) (nx := n2) (by decide) (by simp; omega) [([3], []), ([2], []), ([2], []), ([1], []), ([1], []), ([1], []), ([0], [0]), ([], [])] (by decide)) ?_
  simp +contextual (disch := first | omega | (simp only [go_sem, false_implies]; done) | fail) only [go_sem, wrap64, if_pos, u1, u7, m3, w1, w2, w3, w4, w5, w6, Nat.add_assoc, Nat.left_eq_add, Nat.add_eq_left, Nat.add_left_cancel_iff]
  rfl
theorem ordT_fits_aux : ∀ t : Tm, t.fits → ∀ bd fr n, (ordF t bd fr n).1.fits ∧ (ordF t bd fr n).1.sz ≤ t.sz ∧ (ordF t bd fr n).1.hgt ≤ t.hgt := by
  refine Tm.ind' fun t ih hf bd fr n => ?_
  have hf' := (Tm.fits_iff _).1 hf
  have hs : ∀ (l : List Tm) (bd inn fr : List (Int × Int)) (i : Nat) (nx : Int), (∀ k ∈ l, k ∈ t.kids) → (ordsF l bd inn i fr nx).1.length = l.length ∧ (∀ k ∈ (ordsF l bd inn i fr nx).1, k.fits) ∧ szs (ordsF l bd inn i fr nx).1 ≤ szs l ∧ Tm.hgts (ordsF l bd inn i fr nx).1 ≤ Tm.hgts l := by
    intro l
    induction l with
    | nil => intro bd inn fr i nx _; simp [ordsF, szs, Tm.hgts]
    | cons k l ihl =>
      intro bd inn fr i nx hk
      have h1 := ih k (hk k (by simp)) (hf'.2 k (hk k (by simp))) (if i = 1 then inn else bd) fr nx
      have h2 := ihl bd inn (ordF k (if i = 1 then inn else bd) fr nx).2.1 (i + 1) (ordF k (if i = 1 then inn else bd) fr nx).2.2 (fun x hx => hk x (by simp [hx]))
      simp only [ordsF, List.length_cons, szs_cons, hgts_cons]
      refine ⟨by omega, ?_, by omega, ?_⟩
      · intro x hx
        rcases List.mem_cons.1 hx with rfl | hx
        · exact h1.1
        · exact h2.2.1 x hx
      · have a := h1.2.2; have b := h2.2.2.2
        exact Nat.max_le.2 ⟨Nat.le_trans a (Nat.le_max_left _ _), Nat.le_trans b (Nat.le_max_right _ _)⟩
  have mk : ∀ (op n : Int) (l : List Tm), l.length = t.kids.length → (∀ k ∈ l, k.fits) → szs l ≤ szs t.kids → Tm.hgts l ≤ Tm.hgts t.kids → (Tm.mk op n l).fits ∧ (Tm.mk op n l).sz ≤ t.sz ∧ (Tm.mk op n l).hgt ≤ t.hgt := by
    intro op n l h1 h2 h3 h4
    rw [Tm.fits_iff, Tm.sz_eq, Tm.sz_eq t, Tm.hgt_eq, Tm.hgt_eq t]
    exact ⟨⟨by rw [show (Tm.mk op n l).kids = l from rfl, h1]; exact hf'.1, h2⟩, by show 1 + szs l ≤ _; omega, by show 1 + Tm.hgts l ≤ _; omega⟩
  have mk0 : ∀ (op n : Int), (Tm.mk op n []).fits ∧ (Tm.mk op n []).sz ≤ t.sz ∧ (Tm.mk op n []).hgt ≤ t.hgt := by
    intro op n
    rw [Tm.fits_iff, Tm.sz_eq, Tm.sz_eq t, Tm.hgt_eq, Tm.hgt_eq t]
    refine ⟨⟨by simp [Tm.kids], by simp [Tm.kids]⟩, ?_, ?_⟩
    · show 1 + szs [] ≤ _; simp [szs]
    · show 1 + Tm.hgts [] ≤ _; simp [Tm.hgts]
  rw [ordF_eq]
  have h0 := hs t.kids bd bd fr 0 n (fun _ h => h)
  have h8 := hs t.kids bd ((t.n, n) :: bd) fr 0 (n + 1) (fun _ h => h)
  split
  · split
    · exact mk0 _ _
    · split <;> exact mk0 _ _
  · split
    · exact mk _ _ _ h8.1 h8.2.1 h8.2.2.1 h8.2.2.2
    · exact mk _ _ _ h0.1 h0.2.1 h0.2.2.1 h0.2.2.2
theorem ordT_fits {t : Tm} (h : t.fits) : (ordT t).fits ∧ (ordT t).sz ≤ t.sz ∧ (ordT t).hgt ≤ t.hgt := ordT_fits_aux t h [] [] 0
def ordE (s : TSig) (t : Tm) : Tm × Int := if rightF s [t] = true then (if 20 < ordN t then (.mk 0 0 [], 3) else (ordT t, 0)) else (.mk 0 0 [], 2)
theorem order'_c (s : TSig) (hs : s.Fits) (t : Tm) (ht : t.Fin) (hz : t.sz ≤ 1000000) : PCt Tryz.prog 34 [s.d, t.d] (.ret [(ordE s t).1.d, .i (ordE s t).2]) := by
  refine PCt.of_ev mix fn34 (by simp) ?_
  rw [c34]
  simp +contextual (disch := first | omega | (simp only [go_sem, false_implies]; done) | fail) only [go_sem, wrap64, if_pos, and_self]
  refine call_keep (right_c s hs [t] (by simp) (fun x hx => by simp at hx; subst hx; exact ht)) rfl ?_
  cases h1 : rightF s [t] with
  | false =>
    have e : ordE s t = (.mk 0 0 [], 2) := by simp [ordE, h1]
    rw [e]
    simp +contextual (disch := first | omega | (simp only [go_sem, false_implies]; done) | fail) only [go_sem, wrap64, if_pos, and_self]
    rw [Tm.d_mk]
    rfl
  | true =>
    simp +contextual (disch := first | omega | (simp only [go_sem, false_implies]; done) | fail) only [go_sem, wrap64, if_pos, and_self]
    refine call_give (ordered_c t ht.fits hz) ?_
    simp +contextual (disch := first | omega | (simp only [go_sem, false_implies]; done) | fail) only [go_sem, wrap64, if_pos, and_self]
    refine cond_intro (fun h2 => ?_) (fun h2 => ?_)
    · have e : ordE s t = (.mk 0 0 [], 3) := by simp at h2; simp [ordE, h1, h2]
      rw [e]
      simp +contextual (disch := first | omega | (simp only [go_sem, false_implies]; done) | fail) only [go_sem, wrap64, if_pos, and_self]
      rw [Tm.d_mk]
      rfl
    · have e : ordE s t = (ordT t, 0) := by simp at h2; simp [ordE, h1]; omega
      rw [e]
      simp +contextual (disch := first | omega | (simp only [go_sem, false_implies]; done) | fail) only [go_sem, wrap64, if_pos, and_self]
theorem variant_c (s : TSig) (hs : s.Fits) (a b : Tm) (ha : a.Fin) (hb : b.Fin) (za : a.sz ≤ 1000000) (zb : b.sz ≤ 1000000) : PCt Tryz.prog 35 [s.d, a.d, b.d] (.ret [.bool (rightF s [a, b] && sameF (ordT a) (ordT b)), .i (errOf (rightF s [a, b]))]) := by
  refine PCt.of_ev mix fn35 (by simp) ?_
  rw [c35]
  simp +contextual (disch := first | omega | (simp only [go_sem, false_implies]; done) | fail) only [go_sem, wrap64, if_pos, and_self]
  refine call_keep (right_c s hs [a, b] (by simp) (fun x hx => by simp at hx; rcases hx with rfl | rfl <;> assumption)) rfl ?_
  cases h1 : rightF s [a, b] with
  | false => simp +contextual (disch := first | omega | (simp only [go_sem, false_implies]; done) | fail) only [go_sem, wrap64, if_pos, and_self]; simp [errOf]
  | true =>
    simp +contextual (disch := first | omega | (simp only [go_sem, false_implies]; done) | fail) only [go_sem, wrap64, if_pos, and_self]
    refine call_give (ordered_c a ha.fits za) ?_
    simp +contextual (disch := first | omega | (simp only [go_sem, false_implies]; done) | fail) only [go_sem, wrap64, if_pos, and_self]
    refine call_give (ordered_c b hb.fits zb) ?_
    simp +contextual (disch := first | omega | (simp only [go_sem, false_implies]; done) | fail) only [go_sem, wrap64, if_pos, and_self]
    refine call_keep (equal_c _ (ordT_fits ha.fits).1 _ (ordT_fits hb.fits).1) rfl ?_
    simp +contextual (disch := first | omega | (simp only [go_sem, false_implies]; done) | fail) only [go_sem, wrap64, if_pos, and_self]
    simp [errOf]
end Go.Proofs.YtealblliddhgiaaGreat
namespace Go.Proofs.YtealblliddhgiaaGreat
@[reducible] def prD (p : Int × Int) : D := .agg [.i p.1, .i p.2]
def numR (o : Option Int) : Int := match o with | some k => k | none => 0
theorem number_c (l : List (Int × Int)) (n : Int) (hl : l.length ≤ 1000000) : PCt Tryz.prog 112 [.sl (l.map prD), .i n] (.ret [.i (numR (lk l.reverse n)), .bool (lk l.reverse n).isSome]) := by
  refine PCt.of_ev mix fn112 (by simp) ?_
  rw [c112]
  simp +contextual (disch := first | omega | (simp only [go_sem, false_implies]; done) | fail) only [go_sem, wrap64, if_pos, and_self]
  refine loop_fam (fun j : Nat => ⟨envJ [.d (.sl (l.map prD)), .d (.i n), .junk, .junk, .junk, .junk, .d (.i ((j : Int) - 1))], fun _ => .no, 0⟩)
    (fun j => j ≤ l.length ∧ lk l.reverse n = lk (l.take j).reverse n) (fun j => j) l.length ⟨Nat.le_refl _, by rw [List.take_length]⟩ (SLe.d0 _ ?_) (fun j hj => ?_)
  · (repeat (first | exact backE_nil | refine backE_junk ?_ | refine backE_d rfl ?_ | refine backE_d (d_int (wrapN (by omega))) ?_ | refine backE_v rfl (by simp [V.refs, V.refss] <;> first | omega | assumption) ?_))
  cases j with
  | zero =>
    simp +contextual (disch := first | omega | (simp only [go_sem, false_implies]; done) | fail) only [go_sem, wrap64, if_pos, and_self]
    refine cond_intro (fun h => by simp at h) (fun _ => ?_)
    simp +contextual (disch := first | omega | (simp only [go_sem, false_implies]; done) | fail) only [go_sem, wrap64, if_pos, and_self]
    have := hj.2
    simp only [List.take_zero, List.reverse_nil, lk] at this
    rw [this]
    rfl
  | succ j =>
    obtain ⟨p, hp⟩ := get_of_lt (l := l) (k := j) (by omega)
    have h0 : (0 : Int) ≤ ((j + 1 : Nat) : Int) - 1 := by omega
    have e1 : ((j + 1 : Nat) : Int) - 1 = (j : Int) := by omega
    have e2 : (((j + 1 : Nat) : Int) - 1).toNat = j := by omega
    have hrec : (l.take (j + 1)).reverse = p :: (l.take j).reverse := by rw [List.take_add_one, hp]; simp
    have hv := hj.2
    rw [hrec] at hv
    simp only [lk] at hv
    rw [e1]
    have h2 : ((j : Nat) : Int) < l.length := by omega
    simp +contextual (disch := first | omega | (simp only [go_sem, false_implies]; done) | fail) only [go_sem, wrap64, if_pos, hp]
    refine cond_intro (fun h3 => ?_) (fun h3 => ?_)
    · simp +contextual (disch := first | omega | (simp only [go_sem, false_implies]; done) | fail) only [go_sem, wrap64, if_pos, hp]
      have e : p.1 = n := by simpa using h3
      rw [if_pos e] at hv
      rw [hv]
      rfl
    · have e : ¬ p.1 = n := by simpa using h3
      rw [if_neg e] at hv
      simp +contextual (disch := first | omega | (simp only [go_sem, false_implies]; done) | fail) only [go_sem, wrap64, if_pos, and_self]
      refine nextS_intro j ⟨by omega, hv⟩ (by omega) (SLe.d0 _ ?_)
      (repeat (first | exact backE_nil | refine backE_junk ?_ | refine backE_d rfl ?_ | refine backE_d (d_int (wrapN (by omega))) ?_ | refine backE_v rfl (by simp [V.refs, V.refss] <;> first | omega | assumption) ?_))
@[reducible] def scD (B F : List (Int × Int)) (n : Int) : D := .agg [.sl (B.map prD), .sl (F.map prD), .i n]
theorem lk_rev {m : List (Int × Int)} (h : Keys m) (v : Int) : lk m.reverse v = lk m v := (lk_perm h m.reverse_perm.symm v).symm
theorem ord_flen : ∀ (t : Tm) (bd fr : List (Int × Int)) (nx : Int), (ordF t bd fr nx).2.1.length ≤ fr.length + t.sz := by
  refine Tm.ind' fun t ih bd fr nx => ?_
  have hs : ∀ (l : List Tm) (bd inn fr : List (Int × Int)) (i : Nat) (nx : Int), (∀ k ∈ l, k ∈ t.kids) → (ordsF l bd inn i fr nx).2.1.length ≤ fr.length + szs l := by
    intro l
    induction l with
    | nil => intro bd inn fr i nx _; simp [ordsF, szs]
    | cons k l ihl =>
      intro bd inn fr i nx hk
      simp only [ordsF, szs_cons]
      have h1 := ih k (hk k (by simp)) (if i = 1 then inn else bd) fr nx
      have h2 := ihl bd inn (ordF k (if i = 1 then inn else bd) fr nx).2.1 (i + 1) (ordF k (if i = 1 then inn else bd) fr nx).2.2 (fun x hx => hk x (by simp [hx]))
      omega
  rw [ordF_eq, Tm.sz_eq]
  have h0 := hs t.kids bd bd fr 0 nx (fun _ h => h)
  have h8 := hs t.kids bd ((t.n, nx) :: bd) fr 0 (nx + 1) (fun _ h => h)
  split
  · split
    · simp only; omega
    · split
      · simp only; omega
      · simp
  · split <;> (simp only; omega)
theorem prD_snoc (a : List (Int × Int)) (x y : Int) : a.map prD ++ [D.agg [.i x, .i y]] = (a ++ [(x, y)]).map prD := by simp
def rBody : IC := c76.snd.snd.snd.snd.snd.snd.fst.snd.fst.fst
@[reducible] def rHeap (t : Tm) (B F : List (Int × Int)) (op' N n : Int) (kv : V) : Nat → Obj' :=
  upd (upd (upd (upd (upd (fun _ => .no) 0 (.row t.row)) 1 (.row [.d (.sl (B.map prD)), .d (.sl (F.map prD)), .d (.i n)])) 2 (.row [.d (.i 0), .d (.i 0), .nils])) 3 (.row [.nils, .nils, .d (.i 0)])) 12 (.row [.d (.i op'), .d (.i N), kv])
def RordC (t : Tm) : Prop := ∀ (B F : List (Int × Int)) (n : Int), Keys F → B.length + t.sz ≤ 1000000 → F.length + t.sz ≤ 1000000 → 0 ≤ n → n + t.sz ≤ 1000000 →
    PCt Tryz.prog 76 [t.d, scD B F n] (.ret [(ordF t B.reverse F n).1.d, scD B (ordF t B.reverse F n).2.1 (ordF t B.reverse F n).2.2])
theorem rKids {t : Tm} (ih : ∀ k ∈ t.kids, RordC k) {B F0 : List (Int × Int)} {op' N own n0 : Int} {inn : List (Int × Int)} {e : Nat → V} {o : Nat → Obj'} {m : Nat} {Q : Xit → S → Prop}
    (hinn : inn = if t.op = 8 then (t.n, own) :: B.reverse else B.reverse) (kF : Keys F0) (hB : B.length + 1 + szs t.kids ≤ 1000000) (hF : F0.length + szs t.kids ≤ 1000000) (p0 : 0 ≤ n0) (p1 : n0 + szs t.kids ≤ 1000000) (hm : 13 ≤ m)
    (ho : ∀ j, j < 13 → o j = rHeap t B F0 op' N n0 .nils j) (hfr : Good o m) (he : seeE 13 [⟨.nils, 28, 3, []⟩] o (fun _ => False) e [.junk, .junk, .ptr 0 0, .ptr 1 0, .ptr 2 0, .ptr 3 0, .junk, .junk, .ptr 12 0, .d (.i own), .d (.sl (B.map prD)), .d (.i 0)] 0)
    (hQ : ∀ e' m', e' 3 = .ptr 1 0 → e' 4 = .ptr 2 0 → e' 5 = .ptr 3 0 → e' 8 = .ptr 12 0 → 14 ≤ m' → Q (.exit 0) ⟨e', upd (rHeap t B (ordsF t.kids B.reverse inn 0 F0 n0).2.1 op' N (ordsF t.kids B.reverse inn 0 F0 n0).2.2 (.osl 13 0)) 13 (.arr 0 28 3 ((ordsF t.kids B.reverse inn 0 F0 n0).1.map Tm.d)), m'⟩) :
    loopS 0 (fun Q s => evW Tryz.prog 118 0 false rBody Q s) Q ⟨e, o, m⟩ := by
  have hlen := len_szs t.kids
  refine loop_fam (fun i : Nat × List (Int × Int) × Int × List Tm => ⟨envJ [.junk, .junk, .ptr 0 0, .ptr 1 0, .ptr 2 0, .ptr 3 0, .junk, .junk, .ptr 12 0, .d (.i own), .d (.sl (B.map prD)), .d (.i i.1)], upd (rHeap t B i.2.1 op' N i.2.2.1 (.osl 13 0)) 13 (.arr 0 28 3 (i.2.2.2.map Tm.d)), 14⟩)
    (fun i => i.1 ≤ t.kids.length ∧ 0 ≤ i.2.2.1 ∧ i.2.2.1 + szs (t.kids.drop i.1) ≤ 1000000 ∧ i.2.1.length + szs (t.kids.drop i.1) ≤ 1000000 ∧ Keys i.2.1 ∧ i.2.2.2.length = i.1 ∧ ordsF t.kids B.reverse inn 0 F0 n0 = (i.2.2.2 ++ (ordsF (t.kids.drop i.1) B.reverse inn i.1 i.2.1 i.2.2.1).1, (ordsF (t.kids.drop i.1) B.reverse inn i.1 i.2.1 i.2.2.1).2)) (fun i => t.kids.length - i.1) (0, F0, n0, []) ⟨Nat.zero_le _, p0, p1, hF, kF, rfl, rfl⟩ (SLe.see1 (fun _ => False) .nils 13 _ (by omega) (fun j hj => ?_) (upd_same _ _ _) (.inl ⟨rfl, rfl, by decide⟩) (fun j hj => ?_) (fun _ h => h.elim) he) ?_
  · by_cases e1 : j = 12
    · subst e1
      exact seeO_eq (ho 12 (by omega)) (by (repeat (first | rfl | rw [upd_same] | rw [upd_ne _ _ _ _ (by omega)]))) (seeO_row rfl (seeL_d (seeL_d (seeL_g 0 rfl rfl rfl seeL_nil))))
    · refine seeO_eq (ho j hj) (y := rHeap t B F0 op' N n0 .nils j) ?_ (seeO_same rfl ?_)
      · unfold rHeap
        rw [upd_ne _ _ _ _ (by omega : j ≠ 13), upd_ne _ _ _ _ e1, upd_ne _ _ _ _ e1]
      · unfold rHeap
        rcases (by omega : j = 0 ∨ j = 1 ∨ j = 2 ∨ j = 3 ∨ (3 < j ∧ j < 12)) with rfl | rfl | rfl | rfl | h
        · (repeat (first | rfl | rw [upd_same] | rw [upd_ne _ _ _ _ (by omega)])); simp [Obj'.refs, V.refss, V.refs]
        · (repeat (first | rfl | rw [upd_same] | rw [upd_ne _ _ _ _ (by omega)])); simp [Obj'.refs, V.refss, V.refs]
        · (repeat (first | rfl | rw [upd_same] | rw [upd_ne _ _ _ _ (by omega)])); simp [Obj'.refs, V.refss, V.refs]
        · (repeat (first | rfl | rw [upd_same] | rw [upd_ne _ _ _ _ (by omega)])); simp [Obj'.refs, V.refss, V.refs]
        · rw [upd_ne _ _ _ _ (by omega), upd_ne _ _ _ _ (by omega), upd_ne _ _ _ _ (by omega), upd_ne _ _ _ _ (by omega), upd_ne _ _ _ _ (by omega)]; simp [Obj'.refs]
  · unfold rHeap; (repeat (first | rfl | rw [upd_same] | rw [upd_ne _ _ _ _ (by omega)]))
  rintro ⟨k, F, n, don⟩ ⟨hk, q0, q1, q4, q5, q2, q3⟩
  simp only at hk q0 q1 q2 q3 q4 q5
  simp only [rBody, c76, IC.snd, IC.fst]
  simp +contextual (disch := first | omega | (simp only [go_sem, false_implies]; done) | fail) only [go_sem, wrap64, if_pos, Nat.add_assoc, Nat.left_eq_add, Nat.add_eq_left, Nat.add_left_cancel_iff]
  refine cond_intro (fun h2 => ?_) (fun h2 => ?_)
  · simp at h2
    obtain ⟨x, hx⟩ := get_of_lt h2
    have hxm := List.mem_of_getElem? hx
    have hdr : t.kids.drop k = x :: t.kids.drop (k + 1) := by
      obtain ⟨h5, h6⟩ := List.getElem?_eq_some_iff.1 hx
      rw [List.drop_eq_getElem_cons h5, h6]
    have hxs : x.sz ≤ szs t.kids := by
      have : szs t.kids = szs (t.kids.take k) + szs (t.kids.drop k) := by
        conv => lhs; rw [← List.take_append_drop k t.kids]
        unfold szs; rw [List.map_append, List.sum_append]
      rw [hdr, szs_cons] at this; omega
    rw [hdr, szs_cons] at q1 q4
    simp +contextual (disch := first | omega | (simp only [go_sem, false_implies]; done) | fail) only [go_sem, wrap64, if_pos, Nat.add_assoc, Nat.left_eq_add, Nat.add_eq_left, Nat.add_left_cancel_iff, hx]
    refine cond_intro (fun h3 => ?_) (fun h3 => ?_)
    · have h3' : t.op = 8 ∧ k = 1 := by simp at h3; omega
      have hi : (if k = 1 then inn else B.reverse) = inn := if_pos h3'.2
      have hr : (B ++ [(t.n, own)]).reverse = inn := by rw [hinn, if_pos h3'.1]; simp
      have hc := ih x hxm (B ++ [(t.n, own)]) F n q5 (by simp; omega) (by omega) q0 (by omega)
      rw [hr] at hc
      have hnx := ord_next x inn F n
      have hfl := ord_flen x inn F n
      have hky := ord_keys x inn F n q5
      simp +contextual (disch := first | omega | (simp only [go_sem, false_implies]; done) | fail) only [go_sem, wrap64, if_pos, Nat.add_assoc, Nat.left_eq_add, Nat.add_eq_left, Nat.add_left_cancel_iff, hx, List.length_map]
      refine end_intro (by decide) ?_
      simp +contextual (disch := first | omega | (simp only [go_sem, false_implies]; done) | fail) only [go_sem, wrap64, if_pos, Nat.add_assoc, Nat.left_eq_add, Nat.add_eq_left, Nat.add_left_cancel_iff, hx, List.length_map, prD_snoc]
      refine callD_give hc ?_
      simp +contextual (disch := first | omega | (simp only [go_sem, false_implies]; done) | fail) only [go_sem, wrap64, if_pos, Nat.add_assoc, Nat.left_eq_add, Nat.add_eq_left, Nat.add_left_cancel_iff, hx, List.length_map]
      refine end_intro (by decide) ?_
      simp +contextual (disch := first | omega | (simp only [go_sem, false_implies]; done) | fail) only [go_sem, wrap64, if_pos, Nat.add_assoc, Nat.left_eq_add, Nat.add_eq_left, Nat.add_left_cancel_iff, hx, List.length_map]
      refine nextS_intro (k + 1, (ordF x inn F n).2.1, (ordF x inn F n).2.2, don ++ [(ordF x inn F n).1]) ⟨h2, by dsimp only; omega, by dsimp only; omega, by dsimp only; omega, hky, by dsimp only; simp [q2], by dsimp only; rw [q3, hdr]; simp only [ordsF, hi, List.append_assoc]; rfl⟩ (by dsimp only; omega) (SLe.see1 (fun j => 13 ≤ j) (.osl 13 1) 13 _ (by omega) (fun j hj => ?_) (upd_same _ _ _) (.inr ⟨13, 1, by omega, rfl, by (repeat (first | rfl | rw [upd_same] | rw [upd_ne _ _ _ _ (by omega)])); rw [List.map_append]; rfl⟩) (fun j hj => ?_) (fun j h h2 => by omega) ?_)
      · by_cases e1 : j = 12
        · subst e1
          exact seeO_eq (y := .row [.d (.i op'), .d (.i N), .osl 13 1]) (by (repeat (first | rfl | rw [upd_same] | rw [upd_ne _ _ _ _ (by omega)]))) (by (repeat (first | rfl | rw [upd_same] | rw [upd_ne _ _ _ _ (by omega)]))) (seeO_row rfl (seeL_d (seeL_d (seeL_g 0 rfl rfl rfl seeL_nil))))
        · unfold rHeap
          dsimp only
          rcases (by omega : j = 0 ∨ j = 1 ∨ j = 2 ∨ j = 3 ∨ (3 < j ∧ j < 12)) with rfl | rfl | rfl | rfl | h
          · exact seeO_eq (y := .row t.row) (by (repeat (first | rfl | rw [upd_same] | rw [upd_ne _ _ _ _ (by omega)]))) (by (repeat (first | rfl | rw [upd_same] | rw [upd_ne _ _ _ _ (by omega)]))) (seeO_same rfl (by simp [Obj'.refs, V.refss, V.refs]))
          · exact seeO_eq (y := .row [.d (.sl (B.map prD)), .d (.sl ((ordF x inn F n).2.1.map prD)), .d (.i (ordF x inn F n).2.2)]) (by (repeat (first | rfl | rw [upd_same] | rw [upd_ne _ _ _ _ (by omega)]))) (by (repeat (first | rfl | rw [upd_same] | rw [upd_ne _ _ _ _ (by omega)]))) (seeO_same rfl (by simp [Obj'.refs, V.refss, V.refs]))
          · exact seeO_eq (y := .row [.d (.i 0), .d (.i 0), .nils]) (by (repeat (first | rfl | rw [upd_same] | rw [upd_ne _ _ _ _ (by omega)]))) (by (repeat (first | rfl | rw [upd_same] | rw [upd_ne _ _ _ _ (by omega)]))) (seeO_same rfl (by simp [Obj'.refs, V.refss, V.refs]))
          · exact seeO_eq (y := .row [.nils, .nils, .d (.i 0)]) (by (repeat (first | rfl | rw [upd_same] | rw [upd_ne _ _ _ _ (by omega)]))) (by (repeat (first | rfl | rw [upd_same] | rw [upd_ne _ _ _ _ (by omega)]))) (seeO_same rfl (by simp [Obj'.refs, V.refss, V.refs]))
          · exact seeO_eq rfl (y' := .no) (by (repeat (first | rfl | rw [upd_same] | rw [upd_ne _ _ _ _ (by omega)]))) seeO_no
      · unfold rHeap; (repeat (first | rfl | rw [upd_same] | rw [upd_ne _ _ _ _ (by omega)]))
      · (repeat (first | exact seeE_nil | refine seeE_junk ?_ | refine seeE_d rfl ?_ | refine seeE_d (d_int (wrapN (by omega))) ?_ | refine seeE_g 0 rfl rfl rfl ?_ | refine seeE_v rfl (by simp [V.refs, V.refss] <;> first | omega | assumption) ?_ | refine seeE_c rfl (by simp [V.ids] <;> omega) ?_))
    · have hi : (if k = 1 then inn else B.reverse) = B.reverse := by
        by_cases h : k = 1
        · rw [if_pos h, hinn, if_neg]
          intro h8; rw [h8, h] at h3; simp at h3
        · rw [if_neg h]
      have hc := ih x hxm B F n q5 (by omega) (by omega) q0 (by omega)
      have hnx := ord_next x B.reverse F n
      have hfl := ord_flen x B.reverse F n
      have hky := ord_keys x B.reverse F n q5
      simp +contextual (disch := first | omega | (simp only [go_sem, false_implies]; done) | fail) only [go_sem, wrap64, if_pos, Nat.add_assoc, Nat.left_eq_add, Nat.add_eq_left, Nat.add_left_cancel_iff, hx, List.length_map]
      refine callD_give hc ?_
      simp +contextual (disch := first | omega | (simp only [go_sem, false_implies]; done) | fail) only [go_sem, wrap64, if_pos, Nat.add_assoc, Nat.left_eq_add, Nat.add_eq_left, Nat.add_left_cancel_iff, hx, List.length_map]
      refine end_intro (by decide) ?_
      simp +contextual (disch := first | omega | (simp only [go_sem, false_implies]; done) | fail) only [go_sem, wrap64, if_pos, Nat.add_assoc, Nat.left_eq_add, Nat.add_eq_left, Nat.add_left_cancel_iff, hx, List.length_map]
      refine nextS_intro (k + 1, (ordF x B.reverse F n).2.1, (ordF x B.reverse F n).2.2, don ++ [(ordF x B.reverse F n).1]) ⟨h2, by dsimp only; omega, by dsimp only; omega, by dsimp only; omega, hky, by dsimp only; simp [q2], by dsimp only; rw [q3, hdr]; simp only [ordsF, hi, List.append_assoc]; rfl⟩ (by dsimp only; omega) (SLe.see1 (fun j => 13 ≤ j) (.osl 13 1) 13 _ (by omega) (fun j hj => ?_) (upd_same _ _ _) (.inr ⟨13, 1, by omega, rfl, by (repeat (first | rfl | rw [upd_same] | rw [upd_ne _ _ _ _ (by omega)])); rw [List.map_append]; rfl⟩) (fun j hj => ?_) (fun j h h2 => by omega) ?_)
      · by_cases e1 : j = 12
        · subst e1
          exact seeO_eq (y := .row [.d (.i op'), .d (.i N), .osl 13 1]) (by (repeat (first | rfl | rw [upd_same] | rw [upd_ne _ _ _ _ (by omega)]))) (by (repeat (first | rfl | rw [upd_same] | rw [upd_ne _ _ _ _ (by omega)]))) (seeO_row rfl (seeL_d (seeL_d (seeL_g 0 rfl rfl rfl seeL_nil))))
        · unfold rHeap
          dsimp only
          rcases (by omega : j = 0 ∨ j = 1 ∨ j = 2 ∨ j = 3 ∨ (3 < j ∧ j < 12)) with rfl | rfl | rfl | rfl | h
          · exact seeO_eq (y := .row t.row) (by (repeat (first | rfl | rw [upd_same] | rw [upd_ne _ _ _ _ (by omega)]))) (by (repeat (first | rfl | rw [upd_same] | rw [upd_ne _ _ _ _ (by omega)]))) (seeO_same rfl (by simp [Obj'.refs, V.refss, V.refs]))
          · exact seeO_eq (y := .row [.d (.sl (B.map prD)), .d (.sl ((ordF x B.reverse F n).2.1.map prD)), .d (.i (ordF x B.reverse F n).2.2)]) (by (repeat (first | rfl | rw [upd_same] | rw [upd_ne _ _ _ _ (by omega)]))) (by (repeat (first | rfl | rw [upd_same] | rw [upd_ne _ _ _ _ (by omega)]))) (seeO_same rfl (by simp [Obj'.refs, V.refss, V.refs]))
          · exact seeO_eq (y := .row [.d (.i 0), .d (.i 0), .nils]) (by (repeat (first | rfl | rw [upd_same] | rw [upd_ne _ _ _ _ (by omega)]))) (by (repeat (first | rfl | rw [upd_same] | rw [upd_ne _ _ _ _ (by omega)]))) (seeO_same rfl (by simp [Obj'.refs, V.refss, V.refs]))
          · exact seeO_eq (y := .row [.nils, .nils, .d (.i 0)]) (by (repeat (first | rfl | rw [upd_same] | rw [upd_ne _ _ _ _ (by omega)]))) (by (repeat (first | rfl | rw [upd_same] | rw [upd_ne _ _ _ _ (by omega)]))) (seeO_same rfl (by simp [Obj'.refs, V.refss, V.refs]))
          · exact seeO_eq rfl (y' := .no) (by (repeat (first | rfl | rw [upd_same] | rw [upd_ne _ _ _ _ (by omega)]))) seeO_no
      · unfold rHeap; (repeat (first | rfl | rw [upd_same] | rw [upd_ne _ _ _ _ (by omega)]))
      · (repeat (first | exact seeE_nil | refine seeE_junk ?_ | refine seeE_d rfl ?_ | refine seeE_d (d_int (wrapN (by omega))) ?_ | refine seeE_g 0 rfl rfl rfl ?_ | refine seeE_v rfl (by simp [V.refs, V.refss] <;> first | omega | assumption) ?_ | refine seeE_c rfl (by simp [V.ids] <;> omega) ?_))
  · simp at h2
    simp +contextual (disch := first | omega | (simp only [go_sem, false_implies]; done) | fail) only [go_sem, wrap64, if_pos, and_self]
    have hnil : t.kids.drop k = [] := List.drop_eq_nil_of_le h2
    rw [hnil] at q3
    simp only [ordsF, List.append_nil] at q3
    rw [q3] at hQ
    exact hQ _ _ rfl rfl rfl rfl (by omega)
theorem rordered_c : ∀ t : Tm, t.fits → ∀ (B F : List (Int × Int)) (n : Int), Keys F → B.length + t.sz ≤ 1000000 → F.length + t.sz ≤ 1000000 → 0 ≤ n → n + t.sz ≤ 1000000 →
    PCt Tryz.prog 76 [t.d, scD B F n] (.ret [(ordF t B.reverse F n).1.d, scD B (ordF t B.reverse F n).2.1 (ordF t B.reverse F n).2.2]) := by
  refine Tm.ind' fun t ih hf B F n kF hB hF n0 n1 => ?_
  have hf' := (Tm.fits_iff _).1 hf
  have hsz := Tm.sz_eq t
  have hlen := len_szs t.kids
  refine PCt.of_ev mix fn76 (by simp) ?_
  rw [c76]
  by_cases h1 : t.op = 1
  · have h1' : (t.op == 1) = true := by simpa using h1
    rw [ordF_eq, if_pos h1]
    simp +contextual (disch := first | omega | (simp only [go_sem, false_implies]; done) | fail) only [go_sem, wrap64, if_pos, h1', Nat.add_assoc, Nat.left_eq_add, Nat.add_eq_left, Nat.add_left_cancel_iff]
    refine call_keep (number_c B t.n (by omega)) rfl ?_
    cases hb : lk B.reverse t.n with
    | some k =>
      simp +contextual (disch := first | omega | (simp only [go_sem, false_implies]; done) | fail) only [go_sem, wrap64, if_pos, hb, numR, Nat.add_assoc, Nat.left_eq_add, Nat.add_eq_left, Nat.add_left_cancel_iff]
      refine callD_give (rvar_c k) ?_
      simp +contextual (disch := first | omega | (simp only [go_sem, false_implies]; done) | fail) only [go_sem, wrap64, if_pos, Nat.add_assoc, Nat.left_eq_add, Nat.add_eq_left, Nat.add_left_cancel_iff]
      refine end_intro (by decide) ?_
      simp +contextual (disch := first | omega | (simp only [go_sem, false_implies]; done) | fail) only [go_sem, wrap64, if_pos, Nat.add_assoc, Nat.left_eq_add, Nat.add_eq_left, Nat.add_left_cancel_iff]
    | none =>
      simp +contextual (disch := first | omega | (simp only [go_sem, false_implies]; done) | fail) only [go_sem, wrap64, if_pos, hb, numR, Nat.add_assoc, Nat.left_eq_add, Nat.add_eq_left, Nat.add_left_cancel_iff]
      refine call_keep (number_c F t.n (by omega)) rfl ?_
      rw [lk_rev kF]
      cases hF2 : lk F t.n with
      | some k =>
        simp +contextual (disch := first | omega | (simp only [go_sem, false_implies]; done) | fail) only [go_sem, wrap64, if_pos, hF2, numR, Nat.add_assoc, Nat.left_eq_add, Nat.add_eq_left, Nat.add_left_cancel_iff]
        refine callD_give (rvar_c k) ?_
        simp +contextual (disch := first | omega | (simp only [go_sem, false_implies]; done) | fail) only [go_sem, wrap64, if_pos, Nat.add_assoc, Nat.left_eq_add, Nat.add_eq_left, Nat.add_left_cancel_iff]
        refine end_intro (by decide) ?_
        simp +contextual (disch := first | omega | (simp only [go_sem, false_implies]; done) | fail) only [go_sem, wrap64, if_pos, Nat.add_assoc, Nat.left_eq_add, Nat.add_eq_left, Nat.add_left_cancel_iff]
      | none =>
        simp +contextual (disch := first | omega | (simp only [go_sem, false_implies]; done) | fail) only [go_sem, wrap64, if_pos, hF2, numR, Nat.add_assoc, Nat.left_eq_add, Nat.add_eq_left, Nat.add_left_cancel_iff, List.length_map]
        refine end_intro (by decide) ?_
        simp +contextual (disch := first | omega | (simp only [go_sem, false_implies]; done) | fail) only [go_sem, wrap64, if_pos, Nat.add_assoc, Nat.left_eq_add, Nat.add_eq_left, Nat.add_left_cancel_iff]
        refine callD_give (rvar_c n) ?_
        simp +contextual (disch := first | omega | (simp only [go_sem, false_implies]; done) | fail) only [go_sem, wrap64, if_pos, Nat.add_assoc, Nat.left_eq_add, Nat.add_eq_left, Nat.add_left_cancel_iff]
        refine end_intro (by decide) ?_
        simp +contextual (disch := first | omega | (simp only [go_sem, false_implies]; done) | fail) only [go_sem, wrap64, if_pos, Nat.add_assoc, Nat.left_eq_add, Nat.add_eq_left, Nat.add_left_cancel_iff]
        rw [prD_snoc]
  · have h1' : (t.op == 1) = false := by simpa using h1
    have hN : 0 ≤ n ∧ n + 1 ≤ 1000001 := by omega
    cases h8 : (t.op == 8) with
    | false =>
      have ho8 : ¬ t.op = 8 := by simpa using h8
      rw [ordF_eq, if_neg h1, if_neg ho8]
      simp +contextual (disch := first | omega | (simp only [go_sem, false_implies]; done) | fail) only [go_sem, wrap64, if_pos, h1', h8, Nat.add_assoc, Nat.left_eq_add, Nat.add_eq_left, Nat.add_left_cancel_iff]
      refine rKids (t := t) (B := B) (F0 := F) (op' := t.op) (N := t.n) (own := 0) (n0 := n) (inn := B.reverse) (fun k hk => ih k hk (hf'.2 k hk)) (by rw [if_neg ho8]) kF (by omega) (by omega) n0 (by omega) (by omega) (fun j hj => ?_) (by repeat (first | exact hg.mono (by omega) | exact Good.nil | refine Good.upd ?_ (by omega) rfl | refine Good.upd ?_ (by omega) (hLr _ _ _ (by omega)) | refine Good.upd ?_ (by omega) (by simp [Obj'.refs, V.refss, V.refs] <;> omega))) (by (repeat (first | exact seeE_nil | refine seeE_junk ?_ | refine seeE_d rfl ?_ | refine seeE_d (d_int (wrapN (by omega))) ?_ | refine seeE_g 0 rfl rfl rfl ?_ | refine seeE_v rfl (by simp [V.refs, V.refss] <;> first | omega | assumption) ?_ | refine seeE_c rfl (by simp [V.ids] <;> omega) ?_))) fun e' m' e3 e4 e5 e8 hm => ?_
      · unfold rHeap
        rw [upd_upd]
      simp +contextual (disch := first | omega | (simp only [go_sem, false_implies]; done) | fail) only [go_sem, wrap64, if_pos, e3, e4, e5, e8, Nat.add_assoc, Nat.left_eq_add, Nat.add_eq_left, Nat.add_left_cancel_iff]
      refine end_intro (by decide) ?_
      simp +contextual (disch := first | omega | (simp only [go_sem, false_implies]; done) | fail) only [go_sem, wrap64, if_pos, e3, e4, e5, e8, Nat.add_assoc, Nat.left_eq_add, Nat.add_eq_left, Nat.add_left_cancel_iff]
      rw [Tm.d_mk]
      try rw [ho8]
    | true =>
      have ho8 : t.op = 8 := by simpa using h8
      rw [ordF_eq, if_neg h1, if_pos ho8]
      simp +contextual (disch := first | omega | (simp only [go_sem, false_implies]; done) | fail) only [go_sem, wrap64, if_pos, h1', h8, Nat.add_assoc, Nat.left_eq_add, Nat.add_eq_left, Nat.add_left_cancel_iff]
      refine rKids (t := t) (B := B) (F0 := F) (op' := t.op) (N := n) (own := n) (n0 := n + 1) (inn := (t.n, n) :: B.reverse) (fun k hk => ih k hk (hf'.2 k hk)) (by rw [if_pos ho8]) kF (by omega) (by omega) (by omega) (by omega) (by omega) (fun j hj => ?_) (by repeat (first | exact hg.mono (by omega) | exact Good.nil | refine Good.upd ?_ (by omega) rfl | refine Good.upd ?_ (by omega) (hLr _ _ _ (by omega)) | refine Good.upd ?_ (by omega) (by simp [Obj'.refs, V.refss, V.refs] <;> omega))) (by (repeat (first | exact seeE_nil | refine seeE_junk ?_ | refine seeE_d rfl ?_ | refine seeE_d (d_int (wrapN (by omega))) ?_ | refine seeE_g 0 rfl rfl rfl ?_ | refine seeE_v rfl (by simp [V.refs, V.refss] <;> first | omega | assumption) ?_ | refine seeE_c rfl (by simp [V.ids] <;> omega) ?_))) fun e' m' e3 e4 e5 e8 hm => ?_
      · unfold rHeap
        by_cases j12 : j = 12
        · subst j12; (repeat (first | rfl | rw [upd_same] | rw [upd_ne _ _ _ _ (by omega)]))
        · by_cases j1 : j = 1
          · subst j1; (repeat (first | rfl | rw [upd_same] | rw [upd_ne _ _ _ _ (by omega)]))
          · by_cases j3 : j = 3
            · subst j3; (repeat (first | rfl | rw [upd_same] | rw [upd_ne _ _ _ _ (by omega)]))
            · by_cases j2 : j = 2
              · subst j2; (repeat (first | rfl | rw [upd_same] | rw [upd_ne _ _ _ _ (by omega)]))
              · by_cases j0 : j = 0
                · subst j0; (repeat (first | rfl | rw [upd_same] | rw [upd_ne _ _ _ _ (by omega)]))
                · (repeat (first | rfl | rw [upd_same] | rw [upd_ne _ _ _ _ (by omega)]))
      simp +contextual (disch := first | omega | (simp only [go_sem, false_implies]; done) | fail) only [go_sem, wrap64, if_pos, e3, e4, e5, e8, Nat.add_assoc, Nat.left_eq_add, Nat.add_eq_left, Nat.add_left_cancel_iff]
      refine end_intro (by decide) ?_
      simp +contextual (disch := first | omega | (simp only [go_sem, false_implies]; done) | fail) only [go_sem, wrap64, if_pos, e3, e4, e5, e8, Nat.add_assoc, Nat.left_eq_add, Nat.add_eq_left, Nat.add_left_cancel_iff]
      rw [Tm.d_mk]
      try rw [ho8]
theorem rOrder_c (t : Tm) (h : t.fits) (hs : t.sz ≤ 1000000) : PCt Tryz.prog 36 [t.d] (.ret [(ordT t).d, .i (ordN t)]) := by
  have hc := rordered_c t h [] [] 0 List.nodup_nil (by simp; omega) (by simp; omega) (by omega) (by omega)
  simp only [List.reverse_nil] at hc
  refine PCt.of_ev mix fn36 (by simp) ?_
  rw [c36]
  simp +contextual (disch := first | omega | (simp only [go_sem, false_implies]; done) | fail) only [go_sem, wrap64, if_pos, Nat.add_assoc, Nat.left_eq_add, Nat.add_eq_left, Nat.add_left_cancel_iff]
  refine call_give hc ?_
  simp +contextual (disch := first | omega | (simp only [go_sem, false_implies]; done) | fail) only [go_sem, wrap64, if_pos, Nat.add_assoc, Nat.left_eq_add, Nat.add_eq_left, Nat.add_left_cancel_iff]
  refine end_intro (by decide) ?_
  simp +contextual (disch := first | omega | (simp only [go_sem, false_implies]; done) | fail) only [go_sem, wrap64, if_pos, Nat.add_assoc, Nat.left_eq_add, Nat.add_eq_left, Nat.add_left_cancel_iff]
  rfl
theorem rVariant_c (a b : Tm) (ha : a.fits) (hb : b.fits) (za : a.sz ≤ 1000000) (zb : b.sz ≤ 1000000) : PCt Tryz.prog 37 [a.d, b.d] (.ret [.bool (sameF (ordT a) (ordT b))]) := by
  refine PCt.of_ev mix fn37 (by simp) ?_
  rw [c37]
  simp +contextual (disch := first | omega | (simp only [go_sem, false_implies]; done) | fail) only [go_sem, wrap64, if_pos, and_self]
  refine call_give (rOrder_c a ha za) ?_
  simp +contextual (disch := first | omega | (simp only [go_sem, false_implies]; done) | fail) only [go_sem, wrap64, if_pos, and_self]
  refine call_give (rOrder_c b hb zb) ?_
  simp +contextual (disch := first | omega | (simp only [go_sem, false_implies]; done) | fail) only [go_sem, wrap64, if_pos, and_self]
  refine call_keep (same_c _ (ordT_fits ha).1 _ (ordT_fits hb).1) rfl ?_
  simp +contextual (disch := first | omega | (simp only [go_sem, false_implies]; done) | fail) only [go_sem, wrap64, if_pos, and_self]
end Go.Proofs.YtealblliddhgiaaGreat
section
namespace Go.Proofs.YtealblliddhgiaaGreat
open Go
def dat1 : Nat → Bool := fun g => !([81, 63, 92, 98, 101, 107, 117, 100, 61, 72, 108, 131, 132, 133, 134, 135, 136, 138, 139, 143, 146, 147, 148, 110, 64, 127, 114, 113, 99] : List Nat).contains g
def cfgK : Cfg Tryz.prog := Cfg.of dat1 [] (fun _ h => by cases h)
theorem known_run : runD Tryz.prog tab cfgK 5000 13 [] = some (.ret [.bool true]) := by kernel_rfl
theorem known : PCt Tryz.prog 13 [] (.ret [.bool true]) := PCt.of_run mix tab_ok known_run
end Go.Proofs.YtealblliddhgiaaGreat
end
namespace Go.Proofs.YtealblliddhgiaaGreat
end Go.Proofs.YtealblliddhgiaaGreat
