/-
  A PART OF THE PROOF (put together by program): several texts, one behind the other. Conditions: none.
-/
import Derived.Test.YtealblliddhgiaaGreatCk31
set_option linter.unusedSimpArgs false
set_option linter.unusedVariables false
namespace Go.Proofs.YtealblliddhgiaaGreat
def vbad (x : Tm × Int) : Bool := decide (3 < x.1.op) && x.1.op != 5
def vJ (b : Bool) : Option Jmp := if b = true then none else some .ret
def isValF (t : Tm) : Bool := (foldE (stp vJ (fun _ x => !vbad x)) true (pre t 1)).2
theorem isValue_c (t : Tm) (ht : t.Fin) : PCt Tryz.prog 82 [t.d] (.ret [.bool (isValF t)]) := by
  refine PCt.of_ev mix fn82 (by simp) ?_
  rw [c82]
  simp +contextual (disch := first | omega | (simp only [go_sem, false_implies]; done) | fail) only [go_sem, wrap64, if_pos, and_self]
  refine call_heap (nodesK_c t _ _ _ _ ?_)
  simp +contextual (disch := first | omega | (simp only [go_sem, false_implies]; done) | fail) only [go_sem, wrap64, if_pos, and_self]
  refine range_nodes t ht.fits ht.hgt [.junk, .junk, .ptr 1 0] ?_ (by decide) rfl (by repeat (first | exact hg.mono (by omega) | exact Good.nil | refine Good.upd ?_ (by omega) rfl | refine Good.upd ?_ (by omega) (hLr _ _ _ (by omega)) | refine Good.upd ?_ (by omega) (by simp [Obj'.refs, V.refss, V.refs] <;> omega))) (by simp [V.refss, V.refs]) (upd_same _ _ _)
    (fun _ => upd (upd (upd (fun _ => .no) 0 (.row t.row)) 1 (.row [.d (.bool false)])) 3 (.row t.row)) vJ (fun _ x => !vbad x) (fun _ => True) true trivial rfl (fun id hid => rfl) (fun _ _ _ _ _ _ => trivial) ?_ ?_
  · (repeat (first | exact keptE_nil | refine keptE_junk ?_ | refine keptE_v rfl ?_))
  · intro L hL hLr x hx s' h1 h2 o3 n3 hI hn ho K X hend
    simp only [setP]
    have hg := hI.good
    have q1 : o3 1 = .row [.d (.bool false)] := hI.eq 1 (by omega)
    simp +contextual (disch := first | omega | (simp only [go_sem, false_implies]; done) | fail) only [go_sem, wrap64, if_pos, and_self]
    refine begin_st hL (pd := none) ?_ ?_
    · (repeat (first | rfl | rw [upd_same] | rw [upd_ne _ _ _ _ (by omega)]))
      exact ho
    simp +contextual (disch := first | omega | (simp only [go_sem, false_implies]; done) | fail) only [go_sem, wrap64, if_pos, and_self]
    have hv : vbad x = (decide (3 < x.1.op) && x.1.op != 5) := rfl
    rw [← hv]
    cases hb : vbad x with
    | true =>
      rw [hb] at hend
      simp +contextual (disch := first | omega | (simp only [go_sem, false_implies]; done) | fail) only [go_sem, wrap64, if_pos, q1]
      refine hend _ _ _ .busy none (by omega) ⟨(by repeat (first | exact hg.mono (by omega) | exact Good.nil | refine Good.upd ?_ (by omega) rfl | refine Good.upd ?_ (by omega) (hLr _ _ _ (by omega)) | refine Good.upd ?_ (by omega) (by simp [Obj'.refs, V.refss, V.refs] <;> omega))), by omega, fun id hid => ?_⟩ (by (repeat (first | rfl | rw [upd_same] | rw [upd_ne _ _ _ _ (by omega)]))) (fun id h3 h4 => by (repeat (first | rfl | rw [upd_same] | rw [upd_ne _ _ _ _ (by omega)])))
      by_cases e : id = 1
      · subst e; (repeat (first | rfl | rw [upd_same] | rw [upd_ne _ _ _ _ (by omega)]))
      · rw [upd_ne _ _ _ _ e]; (repeat (first | rfl | rw [upd_same] | rw [upd_ne _ _ _ _ (by omega)]))
        exact hI.eq id hid
    | false =>
      rw [hb] at hend
      simp +contextual (disch := first | omega | (simp only [go_sem, false_implies]; done) | fail) only [go_sem, wrap64, if_pos, and_self]
      refine hend _ _ _ .busy none (by omega) ⟨(by repeat (first | exact hg.mono (by omega) | exact Good.nil | refine Good.upd ?_ (by omega) rfl | refine Good.upd ?_ (by omega) (hLr _ _ _ (by omega)) | refine Good.upd ?_ (by omega) (by simp [Obj'.refs, V.refss, V.refs] <;> omega))), by omega, fun id hid => ?_⟩ (by (repeat (first | rfl | rw [upd_same] | rw [upd_ne _ _ _ _ (by omega)]))) (fun id h3 h4 => by (repeat (first | rfl | rw [upd_same] | rw [upd_ne _ _ _ _ (by omega)])))
      (repeat (first | rfl | rw [upd_same] | rw [upd_ne _ _ _ _ (by omega)]))
      exact hI.eq id hid
  · intro o' n' hI
    have q1 : o' 1 = .row [.d (.bool false)] := hI.eq 1 (by omega)
    rw [show isValF t = (vJ (foldE (stp vJ (fun _ x => !vbad x)) true (pre t 1)).1).isNone from foldE_J _ _ _ _ rfl]
    generalize (foldE (stp vJ (fun _ x => !vbad x)) true (pre t 1)).1 = sf at *
    cases sf <;> (simp only [vJ, if_true, if_false, Bool.false_eq_true, jmpQ]; simp +contextual (disch := first | omega | (simp only [go_sem, false_implies]; done) | fail) only [go_sem, wrap64, if_pos, q1]; rfl)
end Go.Proofs.YtealblliddhgiaaGreat
namespace Go.Proofs.YtealblliddhgiaaGreat
theorem check_c (s : TSig) (hs : s.Fits) (t : Tm) (ht : t.Fin) : PCt Tryz.prog 39 [s.d, t.d] (.ret [.i (errOf (rightF s [t]))]) := by
  refine PCt.of_ev mix fn39 (by simp) ?_
  rw [c39]
  simp +contextual (disch := first | omega | (simp only [go_sem, false_implies]; done) | fail) only [go_sem, wrap64, if_pos, and_self]
  refine call_keep (right_c s hs [t] (by simp) (fun x hx => by simp at hx; subst hx; exact ht)) rfl ?_
  cases h1 : rightF s [t] with
  | false => simp +contextual (disch := first | omega | (simp only [go_sem, false_implies]; done) | fail) only [go_sem, wrap64, if_pos, and_self]; simp [errOf]
  | true => simp +contextual (disch := first | omega | (simp only [go_sem, false_implies]; done) | fail) only [go_sem, wrap64, if_pos, and_self]; simp [errOf]
def Tm.sizeI (t : Tm) : Int := (pre t 1).length
structure Tm.Cnt (t : Tm) : Prop extends t.Fin where
  size : t.sizeI ≤ 1000000
theorem Tm.Fin.kid {t k : Tm} (h : t.Fin) (hk : k ∈ t.kids) : k.Fin := ⟨((Tm.fits_iff _).1 h.fits).2 k hk, by have := Tm.hgt_kid hk; have := h.hgt; omega⟩
theorem pre_len_any : ∀ (t : Tm) (d d' : Int), (pre t d).length = (pre t d').length := by
  refine Tm.ind' fun t ih d d' => ?_
  rw [pre_eq, pre_eq]
  simp only [List.length_cons, List.length_flatMap]
  congr 2
  exact List.map_congr_left fun k hk => ih k hk _ _
theorem Tm.sizeI_kid {t k : Tm} (hk : k ∈ t.kids) : k.sizeI + 1 ≤ t.sizeI := by
  simp only [Tm.sizeI]
  rw [pre_eq t, pre_len_any k 1 (1 + 1)]
  simp only [List.length_cons, List.length_flatMap]
  have : ∀ (l : List Tm), k ∈ l → (pre k (1 + 1)).length ≤ (l.map fun k => (pre k (1 + 1)).length).sum := by
    intro l
    induction l with
    | nil => intro h; cases h
    | cons x l ih =>
      intro h
      rcases List.mem_cons.1 h with rfl | h
      · simp only [List.map_cons, List.sum_cons]; omega
      · have := ih h; simp only [List.map_cons, List.sum_cons]; omega
  have := this _ hk
  omega
theorem Tm.Cnt.kid {t k : Tm} (h : t.Cnt) (hk : k ∈ t.kids) : k.Cnt := ⟨h.toFin.kid hk, by have := Tm.sizeI_kid hk; have := h.size; omega⟩
end Go.Proofs.YtealblliddhgiaaGreat
namespace Go.Proofs.YtealblliddhgiaaGreat
def smallLF (s : TSig) (l : List Tm) : Bool := l.all smallF && smallSigF s
theorem smallL_c (s : TSig) (hs : s.Fits) (l : List Tm) (hl : l.length ≤ 1000000) (hf : ∀ t ∈ l, t.fits) : PCt Tryz.prog 11 [s.d, .sl (l.map Tm.d)] (.ret [.bool (smallLF s l)]) := by
  refine PCt.of_ev mix fn11 (by simp) ?_
  rw [c11]
  simp +contextual (disch := first | omega | (simp only [go_sem, false_implies]; done) | fail) only [go_sem, wrap64, if_pos, and_self]
  refine loop_fam (fun k : Nat => ⟨envJ [.junk, .d (.sl (l.map Tm.d)), .ptr 0 0, .junk, .junk, .d (.i k)], oneRow s.row, 1⟩)
    (fun k => k ≤ l.length ∧ (l.take k).all smallF = true) (fun k => l.length - k) 0 ⟨Nat.zero_le _, by simp⟩ (SLe.d1 _ (oneRow_good rfl) (by omega) rfl ?_) (fun k hk => ?_)
  · (repeat (first | exact backE_nil | refine backE_junk ?_ | refine backE_d rfl ?_ | refine backE_d (d_int (wrapN (by omega))) ?_ | refine backE_v rfl (by simp [V.refs, V.refss] <;> first | omega | assumption) ?_))
  simp +contextual (disch := first | omega | (simp only [go_sem, false_implies]; done) | fail) only [go_sem, wrap64, if_pos, and_self]
  refine cond_intro (fun h2 => ?_) (fun h2 => ?_)
  · simp at h2
    obtain ⟨x, hx⟩ := get_of_lt h2
    simp +contextual (disch := first | omega | (simp only [go_sem, false_implies]; done) | fail) only [go_sem, wrap64, if_pos, hx]
    refine call_keep (small_c x (hf x (List.mem_of_getElem? hx))) rfl ?_
    simp +contextual (disch := first | omega | (simp only [go_sem, false_implies]; done) | fail) only [go_sem, wrap64, if_pos, and_self]
    refine cond_intro (fun h3 => ?_) (fun h3 => ?_)
    · simp +contextual (disch := first | omega | (simp only [go_sem, false_implies]; done) | fail) only [go_sem, wrap64, if_pos, and_self]
      simp at h3
      simp [smallLF, all_stop hx h3]
    · simp +contextual (disch := first | omega | (simp only [go_sem, false_implies]; done) | fail) only [go_sem, wrap64, if_pos, and_self]
      simp at h3
      refine nextS_intro (k + 1) ⟨h2, all_snoc hx hk.2 h3⟩ (by omega) (SLe.d1 _ (oneRow_good rfl) (by omega) rfl ?_)
      (repeat (first | exact backE_nil | refine backE_junk ?_ | refine backE_d rfl ?_ | refine backE_d (d_int (wrapN (by omega))) ?_ | refine backE_v rfl (by simp [V.refs, V.refss] <;> first | omega | assumption) ?_))
  · simp at h2
    simp +contextual (disch := first | omega | (simp only [go_sem, false_implies]; done) | fail) only [go_sem, wrap64, if_pos, and_self]
    refine call_keep (smallSig_c s hs) rfl ?_
    simp +contextual (disch := first | omega | (simp only [go_sem, false_implies]; done) | fail) only [go_sem, wrap64, if_pos, and_self]
    rw [smallLF, all_done hk.2 h2, Bool.true_and]
def givenF (s : TSig) (l : List Tm) : Bool := sigF s && l.all (termF s)
theorem given_c (s : TSig) (hs : s.Fits) (l : List Tm) (hl : l.length ≤ 1000000) (hf : ∀ t ∈ l, t.fits) : PCt Tryz.prog 15 [s.d, .sl (l.map Tm.d)] (.ret [.bool (givenF s l)]) := by
  refine PCt.of_ev mix fn15 (by simp) ?_
  rw [c15]
  simp +contextual (disch := first | omega | (simp only [go_sem, false_implies]; done) | fail) only [go_sem, wrap64, if_pos, and_self]
  refine call_keep (sig_c s hs) rfl ?_
  cases h1 : sigF s with
  | false => simp +contextual (disch := first | omega | (simp only [go_sem, false_implies]; done) | fail) only [go_sem, wrap64, if_pos, and_self]; simp [givenF, h1]
  | true =>
    simp +contextual (disch := first | omega | (simp only [go_sem, false_implies]; done) | fail) only [go_sem, wrap64, if_pos, and_self]
    refine loop_fam (fun k : Nat => ⟨envJ [.junk, .d (.sl (l.map Tm.d)), .ptr 0 0, .junk, .junk, .d (.i k)], oneRow s.row, 1⟩)
      (fun k => k ≤ l.length ∧ (l.take k).all (termF s) = true) (fun k => l.length - k) 0 ⟨Nat.zero_le _, by simp⟩ (SLe.d1 _ (oneRow_good rfl) (by omega) rfl ?_) (fun k hk => ?_)
    · (repeat (first | exact backE_nil | refine backE_junk ?_ | refine backE_d rfl ?_ | refine backE_d (d_int (wrapN (by omega))) ?_ | refine backE_v rfl (by simp [V.refs, V.refss] <;> first | omega | assumption) ?_))
    simp +contextual (disch := first | omega | (simp only [go_sem, false_implies]; done) | fail) only [go_sem, wrap64, if_pos, and_self]
    refine cond_intro (fun h2 => ?_) (fun h2 => ?_)
    · simp at h2
      obtain ⟨x, hx⟩ := get_of_lt h2
      simp +contextual (disch := first | omega | (simp only [go_sem, false_implies]; done) | fail) only [go_sem, wrap64, if_pos, hx]
      refine callD_keep (term_c s hs x (hf x (List.mem_of_getElem? hx))) rfl ?_
      simp +contextual (disch := first | omega | (simp only [go_sem, false_implies]; done) | fail) only [go_sem, wrap64, if_pos, and_self]
      refine end_intro (objsOk_reads rfl) ?_
      simp +contextual (disch := first | omega | (simp only [go_sem, false_implies]; done) | fail) only [go_sem, wrap64, if_pos, and_self]
      refine cond_intro (fun h3 => ?_) (fun h3 => ?_)
      · simp +contextual (disch := first | omega | (simp only [go_sem, false_implies]; done) | fail) only [go_sem, wrap64, if_pos, and_self]
        simp at h3
        simp [givenF, all_stop hx h3]
      · simp +contextual (disch := first | omega | (simp only [go_sem, false_implies]; done) | fail) only [go_sem, wrap64, if_pos, and_self]
        simp at h3
        refine nextS_intro (k + 1) ⟨h2, all_snoc hx hk.2 h3⟩ (by omega) (SLe.d1 _ (oneRow_good rfl) (by omega) rfl ?_)
        (repeat (first | exact backE_nil | refine backE_junk ?_ | refine backE_d rfl ?_ | refine backE_d (d_int (wrapN (by omega))) ?_ | refine backE_v rfl (by simp [V.refs, V.refss] <;> first | omega | assumption) ?_))
    · simp at h2
      simp +contextual (disch := first | omega | (simp only [go_sem, false_implies]; done) | fail) only [go_sem, wrap64, if_pos, and_self]
      simp [givenF, h1, all_done hk.2 h2]
end Go.Proofs.YtealblliddhgiaaGreat
namespace Go.Proofs.YtealblliddhgiaaGreat
def Tm.sz (t : Tm) : Nat := (pre t 1).length
def szs (l : List Tm) : Nat := (l.map Tm.sz).sum
theorem Tm.sizeI_sz (t : Tm) : t.sizeI = (t.sz : Int) := rfl
theorem Tm.sz_eq (t : Tm) : t.sz = 1 + szs t.kids := by
  unfold Tm.sz szs
  rw [pre_eq, List.length_cons, List.length_flatMap, Nat.add_comm]
  congr 2
  exact List.map_congr_left fun k hk => pre_len_any k _ _
theorem szs_cons (k : Tm) (l : List Tm) : szs (k :: l) = k.sz + szs l := by simp [szs]
theorem hgts_cons (k : Tm) (l : List Tm) : Tm.hgts (k :: l) = Nat.max k.hgt (Tm.hgts l) := by simp [Tm.hgts]
theorem hgts_le : ∀ (l : List Tm) (n : Nat), Tm.hgts l ≤ n ↔ ∀ k ∈ l, k.hgt ≤ n
  | [], n => by simp [Tm.hgts]
  | x :: l, n => by
    rw [hgts_cons]
    simp only [List.mem_cons, forall_eq_or_imp, ← hgts_le l n]
    exact Nat.max_le
theorem Tm.hgt_eq (t : Tm) : t.hgt = 1 + Tm.hgts t.kids := by cases t; simp [Tm.hgt, Tm.kids]
theorem weigh_val : ∀ t : Tm, ∀ left depth : Int, weigh t left depth = if (t.sz : Int) ≤ left ∧ (t.hgt : Int) ≤ depth then left - t.sz else -1 := by
  refine Tm.ind' fun t ih left depth => ?_
  have hs : ∀ (l : List Tm) (left d : Int), (∀ k ∈ l, k ∈ t.kids) → 0 ≤ left → 0 ≤ d → weighs l left d = if (szs l : Int) ≤ left ∧ (Tm.hgts l : Int) ≤ d then left - szs l else -1 := by
    intro l
    induction l with
    | nil => intro left d _ h1 h2; simp [weighs, szs, Tm.hgts, h1, h2]
    | cons k l ihl =>
      intro left d hk h1 h2
      simp only [weighs, if_pos h1]
      rw [ih k (hk k (by simp))]
      have hm : (Tm.hgts (k :: l) : Int) ≤ d ↔ (k.hgt : Int) ≤ d ∧ (Tm.hgts l : Int) ≤ d := by
        have := @Nat.max_le k.hgt (Tm.hgts l) d.toNat
        have e : Tm.hgts (k :: l) = max k.hgt (Tm.hgts l) := hgts_cons k l
        rw [e]; omega
      simp only [szs_cons, hm]
      by_cases hc : (k.sz : Int) ≤ left ∧ (k.hgt : Int) ≤ d
      · rw [if_pos hc, ihl _ _ (fun x hx => hk x (by simp [hx])) (by omega) h2]
        by_cases hc2 : (szs l : Int) ≤ left - k.sz ∧ (Tm.hgts l : Int) ≤ d
        · rw [if_pos hc2, if_pos (by omega)]; omega
        · rw [if_neg hc2, if_neg (by omega)]
      · rw [if_neg hc, weighs_neg (by omega), if_neg (by omega)]
  rw [weigh_eq, Tm.sz_eq, Tm.hgt_eq]
  by_cases h : left < 1 ∨ depth < 1
  · rw [if_pos h, if_neg (by omega)]
  · rw [if_neg h, hs _ _ _ (fun _ h => h) (by omega) (by omega)]
    by_cases hc : (szs t.kids : Int) ≤ left - 1 ∧ (Tm.hgts t.kids : Int) ≤ depth - 1
    · rw [if_pos hc, if_pos (by omega)]; omega
    · rw [if_neg hc, if_neg (by omega)]
theorem weigh_ge (t : Tm) (left depth : Int) : 0 ≤ weigh t left depth ↔ (t.sz : Int) ≤ left ∧ (t.hgt : Int) ≤ depth := by
  rw [weigh_val]; split <;> omega
theorem smallF_iff (t : Tm) : smallF t = true ↔ t.sz ≤ 50 ∧ t.hgt ≤ 14 := by
  simp only [smallF, decide_eq_true_eq, weigh_ge]; omega
theorem Tm.Cnt.of_small {t : Tm} (hf : t.fits) (h : smallF t = true) : t.Cnt := by
  rw [smallF_iff] at h
  exact ⟨⟨hf, by omega⟩, by rw [Tm.sizeI_sz]; omega⟩
theorem pre_depth : ∀ (t : Tm) (d m : Int), (∀ x ∈ pre t d, x.2 ≤ m) ↔ d + t.hgt - 1 ≤ m := by
  refine Tm.ind' fun t ih d m => ?_
  rw [pre_eq, Tm.hgt_eq]
  simp only [List.mem_cons, forall_eq_or_imp, List.mem_flatMap]
  have h1 : (∀ x : Tm × Int, (∃ k, k ∈ t.kids ∧ x ∈ pre k (d + 1)) → x.2 ≤ m) ↔ ∀ k ∈ t.kids, d + 1 + k.hgt - 1 ≤ m := by
    constructor
    · intro h k hk
      exact (ih k hk _ _).1 fun x hx => h x ⟨k, hk, hx⟩
    · rintro h x ⟨k, hk, hx⟩
      exact (ih k hk _ _).2 (h k hk) x hx
  rw [h1]
  constructor
  · rintro ⟨h2, h3⟩
    have := (hgts_le t.kids (m - d).toNat).2 fun k hk => by have := h3 k hk; omega
    omega
  · intro h
    have := (hgts_le t.kids (m - d).toNat).1 (by omega)
    exact ⟨by omega, fun k hk => by have := this k hk; omega⟩
theorem pre_all (p : Tm → Bool) : ∀ (t : Tm) (d : Int), (pre t d).all (fun x => p x.1) = (p t && t.kids.all fun k => (pre k (d + 1)).all fun x => p x.1) := by
  intro t d
  rw [pre_eq, List.all_cons, List.all_flatMap]
theorem nodesF_pre (s : TSig) : ∀ (t : Tm) (d : Int), nodesF s t = (pre t d).all fun x => nodeF s x.1 := by
  refine Tm.ind' fun t ih d => ?_
  rw [pre_all (nodeF s), nodesF_eq]
  congr 1
  rw [Bool.eq_iff_iff]
  simp only [List.all_eq_true (l := t.kids)]
  exact forall_congr' fun k => forall_congr' fun hk => by rw [ih k hk (d + 1)]
theorem valueF_pre : ∀ (t : Tm) (d : Int), valueF t = (pre t d).all fun x => (decide (1 ≤ x.1.op) && decide (x.1.op ≤ 3)) || x.1.op == 5 := by
  refine Tm.ind' fun t ih d => ?_
  rw [pre_all (fun t => (decide (1 ≤ t.op) && decide (t.op ≤ 3)) || t.op == 5), valueF_eq, Bool.and_comm]
  congr 1
  rw [Bool.eq_iff_iff]
  simp only [List.all_eq_true (l := t.kids)]
  exact forall_congr' fun k => forall_congr' fun hk => by rw [ih k hk (d + 1)]
theorem nodeF_op {s : TSig} {t : Tm} (h : nodeF s t = true) : inB t.op 1 15 = true := by
  rw [show inB t.op 1 15 = true ↔ 1 ≤ t.op ∧ t.op ≤ 15 by simp [inB]]
  by_cases h6 : inB t.op 6 15 = true
  · simp [inB] at h6; omega
  · simp only [nodeF, if_neg h6] at h
    by_cases h1 : t.op = 1
    · omega
    by_cases h2 : t.op = 2
    · omega
    by_cases h3 : t.op = 3
    · omega
    by_cases h4 : t.op = 4
    · omega
    by_cases h5 : t.op = 5
    · omega
    by_cases h8 : t.op = 8
    · omega
    rw [if_neg h1, if_neg h2, if_neg h3, if_neg h4, if_neg h5, if_neg h8] at h
    cases h
def fgood (s : TSig) (x : Tm × Int) : Bool := !(decide (12 < x.2) || !inB x.1.op 1 15 || !nodeF s x.1)
theorem formed_fold (s : TSig) : ∀ (l : List (Tm × Int)) (n : Int) (b : Bool), (foldE (stp fJ (fstep s)) (n, b) l).2 = (decide (l = [] ∨ n + l.length ≤ 40) && l.all (fgood s))
  | [], n, b => by simp [foldE]
  | x :: l, n, b => by
    have e1 : ∀ c, fbad s n x = c → stp fJ (fstep s) (n, b) x = ((n + 1, !c), !c) := fun c hc => by show ((n + 1, !fbad s n x), (fJ (n + 1, !fbad s n x)).isNone) = _; rw [hc]; cases c <;> rfl
    have hb : fbad s n x = (decide (40 < n + 1) || !fgood s x) := by simp [fbad, fgood, Bool.or_assoc]
    rw [List.all_cons]
    cases hg : fgood s x with
    | false =>
      have e : fbad s n x = true := by rw [hb, hg]; simp
      rw [foldE, e1 _ e]; simp
    | true =>
      by_cases h40 : 40 < n + 1
      · have : decide (x :: l = [] ∨ n + (x :: l).length ≤ 40) = false := by simp; omega
        have e : fbad s n x = true := by rw [hb]; simp [h40]
        rw [this, Bool.false_and, foldE, e1 _ e]; simp
      · have e : fbad s n x = false := by rw [hb, hg]; simp; omega
        rw [foldE, e1 _ e]
        simp only [Bool.not_false, if_true, formed_fold s l, Bool.true_and]
        congr 1
        cases l with
        | nil => simp; omega
        | cons y l => simp; omega
theorem formedF_eq (s : TSig) (t : Tm) : formedF s t = termF s t := by
  rw [formedF, formed_fold, termF, nodesF_pre s t 1, Bool.eq_iff_iff]
  have hn : pre t 1 ≠ [] := by rw [pre_eq]; simp
  simp only [Bool.and_eq_true, decide_eq_true_eq, hn, false_or, weigh_ge, List.all_eq_true]
  have hd := pre_depth t 1 12
  constructor
  · rintro ⟨h1, h2⟩
    have h3 : ∀ x ∈ pre t 1, x.2 ≤ 12 := fun x hx => by have := h2 x hx; simp [fgood] at this; omega
    have := hd.1 h3
    exact ⟨⟨by unfold Tm.sz; omega, by omega⟩, fun x hx => by have := h2 x hx; simp [fgood] at this; exact this.2⟩
  · rintro ⟨⟨h1, h2⟩, h3⟩
    have h4 := hd.2 (by omega)
    refine ⟨by unfold Tm.sz at h1; omega, fun x hx => ?_⟩
    have h5 := h4 x hx
    have h6 := h3 x hx
    have h7 := nodeF_op h6
    simp [fgood, h6, h7]; omega
theorem isVal_fold : ∀ (l : List (Tm × Int)) (b : Bool), (foldE (stp vJ (fun _ x => !vbad x)) b l).2 = l.all fun x => !vbad x
  | [], b => rfl
  | x :: l, b => by
    have e1 : ∀ c, vbad x = c → stp vJ (fun _ x => !vbad x) b x = (!c, !c) := fun c hc => by show (!vbad x, (vJ (!vbad x)).isNone) = _; rw [hc]; cases c <;> rfl
    rw [foldE, List.all_cons]
    cases hv : vbad x with
    | false => rw [e1 _ hv]; simp [isVal_fold l]
    | true => rw [e1 _ hv]; simp
theorem isValF_eq {s : TSig} {t : Tm} (h : termF s t = true) : isValF t = valueF t := by
  rw [isValF, isVal_fold, valueF_pre t 1, Bool.eq_iff_iff]
  simp only [termF, Bool.and_eq_true, nodesF_pre s t 1, List.all_eq_true] at h
  simp only [List.all_eq_true]
  refine forall_congr' fun x => forall_congr' fun hx => ?_
  have := nodeF_op (h.2 x hx)
  simp [inB] at this
  simp [vbad]
  omega
theorem rightF_eq (s : TSig) (l : List Tm) : rightF s l = givenF s l := by
  unfold rightF givenF; congr 2; funext t; exact formedF_eq s t
end Go.Proofs.YtealblliddhgiaaGreat
namespace Go.Proofs.YtealblliddhgiaaGreat
def unI (l : List (D × D)) : List (Int × D) := l.map fun p => ((match p.1 with | .int _ n => n | _ => 0), p.2)
def isI (l : List (D × D)) : Bool := l.all fun p => match p.1 with | .int .i64 _ => true | _ => false
@[go_sem] theorem unI_enc (m : List (Int × D)) : unI (enc (D.int .i64) m) = m := by
  unfold unI enc; rw [List.map_map]; simp [Function.comp_def]
@[go_sem] theorem isI_enc (m : List (Int × D)) : isI (enc (D.int .i64) m) = true := by simp [isI, enc]
@[go_sem] theorem isI_nil : isI [] = true := rfl
@[go_sem] theorem unI_nil : unI [] = [] := rfl
theorem enc_unI : ∀ {l : List (D × D)}, isI l = true → enc (D.int .i64) (unI l) = l
  | [], _ => rfl
  | (k, x) :: l, h => by
    simp only [isI, List.all_cons, Bool.and_eq_true] at h
    have ih := enc_unI (l := l) h.2
    obtain ⟨n, h1⟩ : ∃ n, k = .int .i64 n := by
      have h1 := h.1
      split at h1
      · exact ⟨_, rfl⟩
      · cases h1
    subst h1
    simp only [enc, unI, List.map_cons] at ih ⊢
    rw [ih]
def setI (l : List Int) : List (Int × D) := l.map fun n => (n, .bool true)
@[go_sem] theorem setI_nil : setI [] = [] := rfl
def insI (l : List Int) (n : Int) : List Int := if l.contains n = true then l else l ++ [n]
theorem mem_insI {l : List Int} {n k : Int} : k ∈ insI l n ↔ k ∈ l ∨ k = n := by
  unfold insI
  split
  · rename_i h
    have : n ∈ l := by simpa using h
    constructor
    · exact .inl
    · rintro (h | rfl) <;> assumption
  · simp
theorem nodup_insI {l : List Int} (n : Int) (h : l.Nodup) : (insI l n).Nodup := by
  unfold insI
  split
  · exact h
  · rename_i hn
    have hn : n ∉ l := by simpa using hn
    rw [List.nodup_append]
    exact ⟨h, by simp, fun a ha b hb => by simp at hb; subst hb; intro e; subst e; exact hn ha⟩
theorem aIdx_set : ∀ (l : List Int) (n : Int) (i : Nat), aIdx n (setI l) i = (l.findIdx? (· == n)).map fun j => (i + j, D.bool true)
  | [], n, i => rfl
  | x :: l, n, i => by
    have ih := aIdx_set l n (i + 1)
    simp only [setI, List.map_cons, aIdx, List.findIdx?_cons] at ih ⊢
    by_cases h : n = x
    · subst h; simp
    · have h2 : ¬ x = n := fun e => h e.symm
      simp only [beq_iff_eq, h, h2, if_false, ih, Option.map_map, Function.comp_def]
      congr 1; funext j; congr 1; omega
@[go_sem] theorem aSet_setI (l : List Int) (n : Int) : aSet n (.bool true) (setI l) = setI (insI l n) := by
  unfold aSet insI
  rw [aIdx_set]
  cases h : l.findIdx? (· == n) with
  | none =>
    have : l.contains n = false := by
      rw [List.findIdx?_eq_none_iff] at h
      rw [Bool.eq_false_iff]; intro hc
      have := h n (by simpa using hc)
      simp at this
    simp only [Option.map_none, this, Bool.false_eq_true, if_false]
    simp [setI]
  | some j =>
    rw [List.findIdx?_eq_some_iff_getElem] at h
    obtain ⟨hj, he, _⟩ := h
    have e : l[j] = n := by simpa using he
    have : l.contains n = true := by rw [List.contains_iff_mem, ← e]; exact List.getElem_mem hj
    simp only [Option.map_some, this, if_true, Nat.zero_add]
    apply List.ext_getElem?
    intro k
    rw [List.getElem?_set]
    split
    · rename_i hk; subst hk; simp [setI, hj, e]
    · rfl
def delI (l : List Int) (n : Int) : List Int := match l.findIdx? (· == n) with | some j => l.eraseIdx j | none => l
theorem eraseIdx_map {α β : Type} (f : α → β) : ∀ (l : List α) (j : Nat), (l.map f).eraseIdx j = (l.eraseIdx j).map f
  | [], _ => rfl
  | _ :: _, 0 => rfl
  | x :: l, j + 1 => by simp [eraseIdx_map f l j]
@[go_sem] theorem aDel_setI (l : List Int) (n : Int) : aDel n (setI l) = setI (delI l n) := by
  unfold aDel delI
  rw [aIdx_set]
  cases h : l.findIdx? (· == n) with
  | none => simp
  | some j => simp only [Option.map_some, Nat.zero_add]; exact eraseIdx_map _ _ _
theorem delI_spec {l : List Int} (n : Int) (h : l.Nodup) : (delI l n).Nodup ∧ ∀ k, k ∈ delI l n ↔ k ∈ l ∧ k ≠ n := by
  unfold delI
  cases hf : l.findIdx? (· == n) with
  | none =>
    rw [List.findIdx?_eq_none_iff] at hf
    refine ⟨h, fun k => ⟨fun hk => ⟨hk, fun e => ?_⟩, fun hk => hk.1⟩⟩
    subst e
    have := hf k hk
    simp at this
  | some j =>
    rw [List.findIdx?_eq_some_iff_getElem] at hf
    obtain ⟨hj, he, _⟩ := hf
    have e : l[j] = n := by simpa using he
    refine ⟨h.sublist (List.eraseIdx_sublist _ _), fun k => ?_⟩
    show k ∈ l.eraseIdx j ↔ _
    have hsp : l = l.take j ++ l[j] :: l.drop (j + 1) := by rw [List.getElem_cons_drop, List.take_append_drop]
    rw [List.eraseIdx_eq_take_drop_succ]
    rw [hsp, List.nodup_append, List.nodup_cons] at h
    obtain ⟨h1, ⟨h2, h3⟩, h4⟩ := h
    constructor
    · intro hk
      rw [List.mem_append] at hk
      refine ⟨?_, fun ek => ?_⟩
      · rcases hk with hk | hk
        · exact List.mem_of_mem_take hk
        · exact List.mem_of_mem_drop hk
      · rcases hk with hk | hk
        · exact h4 k hk l[j] (List.mem_cons_self ..) (by rw [ek, e])
        · exact h2 (by rw [e, ← ek]; exact hk)
    · rintro ⟨hk, hne⟩
      rw [hsp, List.mem_append, List.mem_cons] at hk
      rw [List.mem_append]
      rcases hk with hk | hk | hk
      · exact .inl hk
      · exact absurd (hk.trans e) hne
      · exact .inr hk
section
variable {P : Program} {o : Nat → Obj'} {t : TypeId} {id : Nat} {n : Int} {v : V}
def isIntK (P : Program) (kt : TypeId) : Bool := match eqShape P kt with | some .int => true | _ => false
theorem isIntK_eq {kt : TypeId} (h : isIntK P kt = true) : eqShape P kt = some .int := by
  unfold isIntK at h; split at h
  · assumption
  · cases h
@[go_sem] theorem isIntK_of {kt : TypeId} (h : eqShape P kt = some .int) : isIntK P kt = true := by unfold isIntK; rw [h]
def updI (P : Program) (o : Nat → Obj') (t : TypeId) (id : Nat) (n : Int) (v : V) : Option Res :=
  match mapT P t, toD o v, o id with
  | some (kt, _), some vd, .map kt' vt' l => match isIntK P kt && isI l && v.ids.all (· != id) with
    | true => some (.tup [], frz o v.ids ++ [(id, .map kt' vt' (enc (D.int .i64) (aSet n vd (unI l))))], id :: v.ids)
    | false => mapUpdX P o t (.mp id) (.d (.int .i64 n)) v
  | _, _, _ => mapUpdX P o t (.mp id) (.d (.int .i64 n)) v
@[go_sem high] theorem mapUpd_int : mapUpdF P o t (.mp id) (.d (.int .i64 n)) v = updI P o t id n v := by
  unfold updI
  split
  · rename_i kt vt vd kt' vt' l h1 h2 h3
    split
    · rename_i hc
      simp only [Bool.and_eq_true] at hc
      obtain ⟨⟨c1, c2⟩, c3⟩ := hc
      have c4 := isIntK_eq c1
      have c5 : toD o (.d (.int .i64 n)) = some (.int .i64 n) := rfl
      have hl := enc_unI c2
      unfold mapUpdF
      simp only [h1, c5, h2, mapEs, h3]
      rw [if_pos ⟨rfl, chk_int c4 n, rfl, c3⟩]
      conv => lhs; rw [← hl]
      rw [find_int c4]
      unfold aSet
      cases aIdx n (unI l) 0 with
      | none => simp [keyO, enc]
      | some p => simp [keyO, enc_set, D.same, scalD]
    · exact mapUpdF_X ..
  · exact mapUpdF_X ..
attribute [go_sem] updI
def isS (l : List (D × D)) : Bool := l.all fun p => match p.2 with | .bool true => true | _ => false
@[go_sem] theorem isS_set (l : List Int) : isS (enc (D.int .i64) (setI l)) = true := by simp [isS, enc, setI]
@[go_sem] theorem isS_nil : isS [] = true := rfl
theorem setI_un : ∀ {m : List (Int × D)}, isS (enc (D.int .i64) m) = true → setI (m.map (·.1)) = m
  | [], _ => rfl
  | (k, x) :: m, h => by
    simp only [isS, enc, List.map_cons, List.all_cons, Bool.and_eq_true] at h
    have ih := setI_un (m := m) h.2
    have h1 : x = .bool true := by
      have h1 := h.1
      split at h1
      · rfl
      · cases h1
    simp only [setI, List.map_cons] at ih ⊢
    rw [ih, h1]
def lookS (P : Program) (o : Nat → Obj') (t : TypeId) (m : V) (n : Int) (ok : Bool) : Option Res :=
  match mapT P t with
  | some (kt, vt) => match zeroV P vt with
    | some (.d (.bool false)) => match mapRd o m with
      | some (rd, l) => match isIntK P kt && isI l && isS l with
        | true => some (match ok with | true => .tup [.d (.bool (((unI l).map (·.1)).contains n)), .d (.bool (((unI l).map (·.1)).contains n))] | false => .d (.bool (((unI l).map (·.1)).contains n)), [], rd)
        | false => lookX P o t m (.d (.int .i64 n)) ok
      | none => lookX P o t m (.d (.int .i64 n)) ok
    | _ => lookX P o t m (.d (.int .i64 n)) ok
  | none => lookX P o t m (.d (.int .i64 n)) ok
@[go_sem] theorem set_keys (l : List Int) : ((setI l).map (·.1)) = l := by simp [setI, Function.comp_def]
@[go_sem high] theorem look_int {m : V} {ok : Bool} : lookupF P o t m (.d (.int .i64 n)) ok = lookS P o t m n ok := by
  unfold lookS
  split
  · rename_i kt vt h1
    split
    · rename_i hz
      split
      · rename_i rd l h
        split
        · rename_i hc
          simp only [Bool.and_eq_true] at hc
          have c4 := isIntK_eq hc.1.1
          have hl := enc_unI hc.1.2
          have hs : setI ((unI l).map (·.1)) = unI l := setI_un (by rw [hl]; exact hc.2)
          have c5 : toD o (.d (.int .i64 n)) = some (.int .i64 n) := rfl
          unfold lookupF
          simp only [h1, c5, h]
          rw [if_pos ⟨rfl, chk_int c4 n⟩]
          conv => lhs; rw [← hl]
          rw [find_int c4, ← hs, aIdx_set, set_keys]
          generalize (unI l).map (·.1) = l'
          cases hf : l'.findIdx? (· == n) with
          | none =>
            have : l'.contains n = false := by
              rw [List.findIdx?_eq_none_iff] at hf
              rw [Bool.eq_false_iff]; intro hc
              have := hf n (by simpa using hc)
              simp at this
            cases ok <;> simp only [Option.map_none, keyO, hz, this, if_true, Bool.false_eq_true, if_false]
          | some j =>
            rw [List.findIdx?_eq_some_iff_getElem] at hf
            obtain ⟨hj, he, _⟩ := hf
            have e : l'[j] = n := by simpa using he
            have : l'.contains n = true := by rw [List.contains_iff_mem, ← e]; exact List.getElem_mem hj
            cases ok <;> simp only [Option.map_some, keyO, this, if_true, Bool.false_eq_true, if_false]
        · exact lookupF_X ..
      · exact lookupF_X ..
    · exact lookupF_X ..
  · exact lookupF_X ..
attribute [go_sem] lookS
end
theorem nextC_set {K : V → List (Nat × Obj') → Prop} {id : Nat} {l : List Int} (h0 : l = [] → K (.tup [.d (.bool false)]) [])
    (h1 : ∀ (i : Nat) n, l[i]? = some n → K (.tup [.d (.bool true), .d (.int .i64 n), .d (.bool true)]) [(id, .mit (enc (D.int .i64) (setI (l.eraseIdx i))) (some (.int .i64 n, .bool true)))]) : nextC K id (enc (D.int .i64) (setI l)) := by
  refine nextC_enc _ (fun h => h0 ?_) fun i k x h => ?_
  · cases l with
    | nil => rfl
    | cons x l => simp [setI] at h
  · unfold setI at h ⊢
    rw [List.getElem?_map] at h
    cases hl : l[i]? with
    | none => rw [hl] at h; cases h
    | some n =>
      rw [hl] at h
      simp at h
      obtain ⟨rfl, rfl⟩ := h
      have := h1 i n hl
      rw [eraseIdx_map]
      exact this
theorem erase_spec {l : List Int} {i : Nat} {n : Int} (h : l[i]? = some n) : (∀ v, v ∈ l ↔ v = n ∨ v ∈ l.eraseIdx i) ∧ (l.eraseIdx i).length + 1 = l.length := by
  obtain ⟨hi, e⟩ := List.getElem?_eq_some_iff.1 h
  refine ⟨fun v => ?_, by rw [List.length_eraseIdx]; simp [hi]; omega⟩
  have hsp : l = l.take i ++ n :: l.drop (i + 1) := by rw [← e, List.getElem_cons_drop, List.take_append_drop]
  rw [List.eraseIdx_eq_take_drop_succ]
  conv => lhs; rw [hsp]
  simp only [List.mem_append, List.mem_cons]
  constructor
  · rintro (h | h | h)
    · exact .inr (.inl h)
    · exact .inl h
    · exact .inr (.inr h)
  · rintro (h | h | h)
    · exact .inr (.inl h)
    · exact .inl h
    · exact .inr (.inr h)
attribute [go_sem] List.head?_cons
end Go.Proofs.YtealblliddhgiaaGreat
