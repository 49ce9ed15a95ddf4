/-
  A PART OF THE PROOF (put together by program): several texts, one behind the other. Conditions: none.
-/
import Derived.Test.YtealblliddhgiaaGreatOr31
set_option linter.unusedSimpArgs false
set_option linter.unusedVariables false
namespace Go.Proofs.YtealblliddhgiaaGreat
def smallLF (s : TSig) (l : List Tm) : Bool := l.all smallF && smallSigF s
theorem smallL_c (s : TSig) (hs : s.Fits) (l : List Tm) (hl : l.length ≤ 1000000) (hf : ∀ t ∈ l, t.fits) : PCt Tryz.prog 11 [s.d, .sl (l.map Tm.d)] (.ret [.bool (smallLF s l)]) := by
  refine PCt.of_ev mix fn11 (by simp) ?_
  rw [c11]
  simp +contextual (disch := first | omega | (simp only [go_sem, false_implies]; done) | fail) only [go_sem, wrap64, if_pos, and_self]
  refine loop_fam (fun k : Nat => ⟨envJ [.junk, .d (.sl (l.map Tm.d)), .ptr 0 0, .junk, .junk, .d (.i k)], oneRow s.row, 1⟩)
    (fun k => k ≤ l.length ∧ (l.take k).all smallF = true) (fun k => l.length - k) 0 ⟨Nat.zero_le _, by simp⟩ (SLe.d1 _ (oneRow_good rfl) (by omega) rfl ?_) (fun k hk => ?_)
  · (repeat (first | exact backE_nil | refine backE_junk ?_ | refine backE_d rfl ?_ | refine backE_d (d_int (wrapN (by omega))) ?_ | refine backE_v rfl (by simp [V.refs, V.refss] <;> first | omega | assumption) ?_))
  simp +contextual (disch := first | omega | (simp only [go_sem, false_implies]; done) | fail) only [go_sem, wrap64, if_pos, and_self]
  refine cond_intro (fun h2 => ?_) (fun h2 => ?_)
  · simp at h2
    obtain ⟨x, hx⟩ := get_of_lt h2
    simp +contextual (disch := first | omega | (simp only [go_sem, false_implies]; done) | fail) only [go_sem, wrap64, if_pos, hx]
    refine call_keep (small_c x (hf x (List.mem_of_getElem? hx))) rfl ?_
    simp +contextual (disch := first | omega | (simp only [go_sem, false_implies]; done) | fail) only [go_sem, wrap64, if_pos, and_self]
    refine cond_intro (fun h3 => ?_) (fun h3 => ?_)
    · simp +contextual (disch := first | omega | (simp only [go_sem, false_implies]; done) | fail) only [go_sem, wrap64, if_pos, and_self]
      simp at h3
      simp [smallLF, all_stop hx h3]
    · simp +contextual (disch := first | omega | (simp only [go_sem, false_implies]; done) | fail) only [go_sem, wrap64, if_pos, and_self]
      simp at h3
      refine nextS_intro (k + 1) ⟨h2, all_snoc hx hk.2 h3⟩ (by omega) (SLe.d1 _ (oneRow_good rfl) (by omega) rfl ?_)
      (repeat (first | exact backE_nil | refine backE_junk ?_ | refine backE_d rfl ?_ | refine backE_d (d_int (wrapN (by omega))) ?_ | refine backE_v rfl (by simp [V.refs, V.refss] <;> first | omega | assumption) ?_))
  · simp at h2
    simp +contextual (disch := first | omega | (simp only [go_sem, false_implies]; done) | fail) only [go_sem, wrap64, if_pos, and_self]
    refine call_keep (smallSig_c s hs) rfl ?_
    simp +contextual (disch := first | omega | (simp only [go_sem, false_implies]; done) | fail) only [go_sem, wrap64, if_pos, and_self]
    rw [smallLF, all_done hk.2 h2, Bool.true_and]
def givenF (s : TSig) (l : List Tm) : Bool := sigF s && l.all (termF s)
theorem given_c (s : TSig) (hs : s.Fits) (l : List Tm) (hl : l.length ≤ 1000000) (hf : ∀ t ∈ l, t.fits) : PCt Tryz.prog 15 [s.d, .sl (l.map Tm.d)] (.ret [.bool (givenF s l)]) := by
  refine PCt.of_ev mix fn15 (by simp) ?_
  rw [c15]
  simp +contextual (disch := first | omega | (simp only [go_sem, false_implies]; done) | fail) only [go_sem, wrap64, if_pos, and_self]
  refine call_keep (sig_c s hs) rfl ?_
  cases h1 : sigF s with
  | false => simp +contextual (disch := first | omega | (simp only [go_sem, false_implies]; done) | fail) only [go_sem, wrap64, if_pos, and_self]; simp [givenF, h1]
  | true =>
    simp +contextual (disch := first | omega | (simp only [go_sem, false_implies]; done) | fail) only [go_sem, wrap64, if_pos, and_self]
    refine loop_fam (fun k : Nat => ⟨envJ [.junk, .d (.sl (l.map Tm.d)), .ptr 0 0, .junk, .junk, .d (.i k)], oneRow s.row, 1⟩)
      (fun k => k ≤ l.length ∧ (l.take k).all (termF s) = true) (fun k => l.length - k) 0 ⟨Nat.zero_le _, by simp⟩ (SLe.d1 _ (oneRow_good rfl) (by omega) rfl ?_) (fun k hk => ?_)
    · (repeat (first | exact backE_nil | refine backE_junk ?_ | refine backE_d rfl ?_ | refine backE_d (d_int (wrapN (by omega))) ?_ | refine backE_v rfl (by simp [V.refs, V.refss] <;> first | omega | assumption) ?_))
    simp +contextual (disch := first | omega | (simp only [go_sem, false_implies]; done) | fail) only [go_sem, wrap64, if_pos, and_self]
    refine cond_intro (fun h2 => ?_) (fun h2 => ?_)
    · simp at h2
      obtain ⟨x, hx⟩ := get_of_lt h2
      simp +contextual (disch := first | omega | (simp only [go_sem, false_implies]; done) | fail) only [go_sem, wrap64, if_pos, hx]
      refine callD_keep (term_c s hs x (hf x (List.mem_of_getElem? hx))) rfl ?_
      simp +contextual (disch := first | omega | (simp only [go_sem, false_implies]; done) | fail) only [go_sem, wrap64, if_pos, and_self]
      refine end_intro (objsOk_reads rfl) ?_
      simp +contextual (disch := first | omega | (simp only [go_sem, false_implies]; done) | fail) only [go_sem, wrap64, if_pos, and_self]
      refine cond_intro (fun h3 => ?_) (fun h3 => ?_)
      · simp +contextual (disch := first | omega | (simp only [go_sem, false_implies]; done) | fail) only [go_sem, wrap64, if_pos, and_self]
        simp at h3
        simp [givenF, all_stop hx h3]
      · simp +contextual (disch := first | omega | (simp only [go_sem, false_implies]; done) | fail) only [go_sem, wrap64, if_pos, and_self]
        simp at h3
        refine nextS_intro (k + 1) ⟨h2, all_snoc hx hk.2 h3⟩ (by omega) (SLe.d1 _ (oneRow_good rfl) (by omega) rfl ?_)
        (repeat (first | exact backE_nil | refine backE_junk ?_ | refine backE_d rfl ?_ | refine backE_d (d_int (wrapN (by omega))) ?_ | refine backE_v rfl (by simp [V.refs, V.refss] <;> first | omega | assumption) ?_))
    · simp at h2
      simp +contextual (disch := first | omega | (simp only [go_sem, false_implies]; done) | fail) only [go_sem, wrap64, if_pos, and_self]
      simp [givenF, h1, all_done hk.2 h2]
end Go.Proofs.YtealblliddhgiaaGreat
namespace Go.Proofs.YtealblliddhgiaaGreat
def Tm.sz (t : Tm) : Nat := (pre t 1).length
def szs (l : List Tm) : Nat := (l.map Tm.sz).sum
theorem Tm.sizeI_sz (t : Tm) : t.sizeI = (t.sz : Int) := rfl
theorem Tm.sz_eq (t : Tm) : t.sz = 1 + szs t.kids := by
  unfold Tm.sz szs
  rw [pre_eq, List.length_cons, List.length_flatMap, Nat.add_comm]
  congr 2
  exact List.map_congr_left fun k hk => pre_len_any k _ _
theorem szs_cons (k : Tm) (l : List Tm) : szs (k :: l) = k.sz + szs l := by simp [szs]
theorem Tm.sz_pos (t : Tm) : 1 ≤ t.sz := by rw [Tm.sz_eq]; omega
theorem hgts_cons (k : Tm) (l : List Tm) : Tm.hgts (k :: l) = Nat.max k.hgt (Tm.hgts l) := by simp [Tm.hgts]
theorem hgts_le : ∀ (l : List Tm) (n : Nat), Tm.hgts l ≤ n ↔ ∀ k ∈ l, k.hgt ≤ n
  | [], n => by simp [Tm.hgts]
  | x :: l, n => by
    rw [hgts_cons]
    simp only [List.mem_cons, forall_eq_or_imp, ← hgts_le l n]
    exact Nat.max_le
theorem Tm.hgt_eq (t : Tm) : t.hgt = 1 + Tm.hgts t.kids := by cases t; simp [Tm.hgt, Tm.kids]
theorem weigh_val : ∀ t : Tm, ∀ left depth : Int, weigh t left depth = if (t.sz : Int) ≤ left ∧ (t.hgt : Int) ≤ depth then left - t.sz else -1 := by
  refine Tm.ind' fun t ih left depth => ?_
  have hs : ∀ (l : List Tm) (left d : Int), (∀ k ∈ l, k ∈ t.kids) → 0 ≤ left → 0 ≤ d → weighs l left d = if (szs l : Int) ≤ left ∧ (Tm.hgts l : Int) ≤ d then left - szs l else -1 := by
    intro l
    induction l with
    | nil => intro left d _ h1 h2; simp [weighs, szs, Tm.hgts, h1, h2]
    | cons k l ihl =>
      intro left d hk h1 h2
      simp only [weighs, if_pos h1]
      rw [ih k (hk k (by simp))]
      have hm : (Tm.hgts (k :: l) : Int) ≤ d ↔ (k.hgt : Int) ≤ d ∧ (Tm.hgts l : Int) ≤ d := by
        have := @Nat.max_le k.hgt (Tm.hgts l) d.toNat
        have e : Tm.hgts (k :: l) = max k.hgt (Tm.hgts l) := hgts_cons k l
        rw [e]; omega
      simp only [szs_cons, hm]
      by_cases hc : (k.sz : Int) ≤ left ∧ (k.hgt : Int) ≤ d
      · rw [if_pos hc, ihl _ _ (fun x hx => hk x (by simp [hx])) (by omega) h2]
        by_cases hc2 : (szs l : Int) ≤ left - k.sz ∧ (Tm.hgts l : Int) ≤ d
        · rw [if_pos hc2, if_pos (by omega)]; omega
        · rw [if_neg hc2, if_neg (by omega)]
      · rw [if_neg hc, weighs_neg (by omega), if_neg (by omega)]
  rw [weigh_eq, Tm.sz_eq, Tm.hgt_eq]
  by_cases h : left < 1 ∨ depth < 1
  · rw [if_pos h, if_neg (by omega)]
  · rw [if_neg h, hs _ _ _ (fun _ h => h) (by omega) (by omega)]
    by_cases hc : (szs t.kids : Int) ≤ left - 1 ∧ (Tm.hgts t.kids : Int) ≤ depth - 1
    · rw [if_pos hc, if_pos (by omega)]; omega
    · rw [if_neg hc, if_neg (by omega)]
theorem weigh_ge (t : Tm) (left depth : Int) : 0 ≤ weigh t left depth ↔ (t.sz : Int) ≤ left ∧ (t.hgt : Int) ≤ depth := by
  rw [weigh_val]; split <;> omega
theorem smallF_iff (t : Tm) : smallF t = true ↔ t.sz ≤ 50 ∧ t.hgt ≤ 14 := by
  simp only [smallF, decide_eq_true_eq, weigh_ge]; omega
theorem Tm.Cnt.of_small {t : Tm} (hf : t.fits) (h : smallF t = true) : t.Cnt := by
  rw [smallF_iff] at h
  exact ⟨⟨hf, by omega⟩, by rw [Tm.sizeI_sz]; omega⟩
theorem pre_depth : ∀ (t : Tm) (d m : Int), (∀ x ∈ pre t d, x.2 ≤ m) ↔ d + t.hgt - 1 ≤ m := by
  refine Tm.ind' fun t ih d m => ?_
  rw [pre_eq, Tm.hgt_eq]
  simp only [List.mem_cons, forall_eq_or_imp, List.mem_flatMap]
  have h1 : (∀ x : Tm × Int, (∃ k, k ∈ t.kids ∧ x ∈ pre k (d + 1)) → x.2 ≤ m) ↔ ∀ k ∈ t.kids, d + 1 + k.hgt - 1 ≤ m := by
    constructor
    · intro h k hk
      exact (ih k hk _ _).1 fun x hx => h x ⟨k, hk, hx⟩
    · rintro h x ⟨k, hk, hx⟩
      exact (ih k hk _ _).2 (h k hk) x hx
  rw [h1]
  constructor
  · rintro ⟨h2, h3⟩
    have := (hgts_le t.kids (m - d).toNat).2 fun k hk => by have := h3 k hk; omega
    omega
  · intro h
    have := (hgts_le t.kids (m - d).toNat).1 (by omega)
    exact ⟨by omega, fun k hk => by have := this k hk; omega⟩
theorem pre_all (p : Tm → Bool) : ∀ (t : Tm) (d : Int), (pre t d).all (fun x => p x.1) = (p t && t.kids.all fun k => (pre k (d + 1)).all fun x => p x.1) := by
  intro t d
  rw [pre_eq, List.all_cons, List.all_flatMap]
theorem nodesF_pre (s : TSig) : ∀ (t : Tm) (d : Int), nodesF s t = (pre t d).all fun x => nodeF s x.1 := by
  refine Tm.ind' fun t ih d => ?_
  rw [pre_all (nodeF s), nodesF_eq]
  congr 1
  rw [Bool.eq_iff_iff]
  simp only [List.all_eq_true (l := t.kids)]
  exact forall_congr' fun k => forall_congr' fun hk => by rw [ih k hk (d + 1)]
theorem nodeF_op {s : TSig} {t : Tm} (h : nodeF s t = true) : inB t.op 1 15 = true := by
  rw [show inB t.op 1 15 = true ↔ 1 ≤ t.op ∧ t.op ≤ 15 by simp [inB]]
  by_cases h6 : inB t.op 6 15 = true
  · simp [inB] at h6; omega
  · simp only [nodeF, if_neg h6] at h
    by_cases h1 : t.op = 1
    · omega
    by_cases h2 : t.op = 2
    · omega
    by_cases h3 : t.op = 3
    · omega
    by_cases h4 : t.op = 4
    · omega
    by_cases h5 : t.op = 5
    · omega
    by_cases h8 : t.op = 8
    · omega
    rw [if_neg h1, if_neg h2, if_neg h3, if_neg h4, if_neg h5, if_neg h8] at h
    cases h
def fgood (s : TSig) (x : Tm × Int) : Bool := !(decide (12 < x.2) || !inB x.1.op 1 15 || !nodeF s x.1)
theorem formed_fold (s : TSig) : ∀ (l : List (Tm × Int)) (n : Int) (b : Bool), (foldE (stp fJ (fstep s)) (n, b) l).2 = (decide (l = [] ∨ n + l.length ≤ 40) && l.all (fgood s))
  | [], n, b => by simp [foldE]
  | x :: l, n, b => by
    have e1 : ∀ c, fbad s n x = c → stp fJ (fstep s) (n, b) x = ((n + 1, !c), !c) := fun c hc => by show ((n + 1, !fbad s n x), (fJ (n + 1, !fbad s n x)).isNone) = _; rw [hc]; cases c <;> rfl
    have hb : fbad s n x = (decide (40 < n + 1) || !fgood s x) := by simp [fbad, fgood, Bool.or_assoc]
    rw [List.all_cons]
    cases hg : fgood s x with
    | false =>
      have e : fbad s n x = true := by rw [hb, hg]; simp
      rw [foldE, e1 _ e]; simp
    | true =>
      by_cases h40 : 40 < n + 1
      · have : decide (x :: l = [] ∨ n + (x :: l).length ≤ 40) = false := by simp; omega
        have e : fbad s n x = true := by rw [hb]; simp [h40]
        rw [this, Bool.false_and, foldE, e1 _ e]; simp
      · have e : fbad s n x = false := by rw [hb, hg]; simp; omega
        rw [foldE, e1 _ e]
        simp only [Bool.not_false, if_true, formed_fold s l, Bool.true_and]
        congr 1
        cases l with
        | nil => simp; omega
        | cons y l => simp; omega
theorem formedF_eq (s : TSig) (t : Tm) : formedF s t = termF s t := by
  rw [formedF, formed_fold, termF, nodesF_pre s t 1, Bool.eq_iff_iff]
  have hn : pre t 1 ≠ [] := by rw [pre_eq]; simp
  simp only [Bool.and_eq_true, decide_eq_true_eq, hn, false_or, weigh_ge, List.all_eq_true]
  have hd := pre_depth t 1 12
  constructor
  · rintro ⟨h1, h2⟩
    have h3 : ∀ x ∈ pre t 1, x.2 ≤ 12 := fun x hx => by have := h2 x hx; simp [fgood] at this; omega
    have := hd.1 h3
    exact ⟨⟨by unfold Tm.sz; omega, by omega⟩, fun x hx => by have := h2 x hx; simp [fgood] at this; exact this.2⟩
  · rintro ⟨⟨h1, h2⟩, h3⟩
    have h4 := hd.2 (by omega)
    refine ⟨by unfold Tm.sz at h1; omega, fun x hx => ?_⟩
    have h5 := h4 x hx
    have h6 := h3 x hx
    have h7 := nodeF_op h6
    simp [fgood, h6, h7]; omega
theorem rightF_eq (s : TSig) (l : List Tm) : rightF s l = givenF s l := by
  unfold rightF givenF; congr 2; funext t; exact formedF_eq s t
theorem sameF_refl : ∀ a : Tm, sameF a a = true := by
  refine Tm.ind' fun a ih => ?_
  rw [sameF_eq]
  have : samesF a.kids a.kids = true := (samesF_eq _ _ rfl).2 fun i x y hx hy => by
    rw [hx] at hy; injection hy with hy; subst hy; exact ih x (List.mem_of_getElem? hx)
  simp [this]
end Go.Proofs.YtealblliddhgiaaGreat
namespace Go.Proofs.YtealblliddhgiaaGreat
def unI (l : List (D × D)) : List (Int × D) := l.map fun p => ((match p.1 with | .int _ n => n | _ => 0), p.2)
def isI (l : List (D × D)) : Bool := l.all fun p => match p.1 with | .int .i64 _ => true | _ => false
@[go_sem] theorem unI_enc (m : List (Int × D)) : unI (enc (D.int .i64) m) = m := by
  unfold unI enc; rw [List.map_map]; simp [Function.comp_def]
@[go_sem] theorem isI_enc (m : List (Int × D)) : isI (enc (D.int .i64) m) = true := by simp [isI, enc]
@[go_sem] theorem isI_nil : isI [] = true := rfl
@[go_sem] theorem unI_nil : unI [] = [] := rfl
theorem enc_unI : ∀ {l : List (D × D)}, isI l = true → enc (D.int .i64) (unI l) = l
  | [], _ => rfl
  | (k, x) :: l, h => by
    simp only [isI, List.all_cons, Bool.and_eq_true] at h
    have ih := enc_unI (l := l) h.2
    obtain ⟨n, h1⟩ : ∃ n, k = .int .i64 n := by
      have h1 := h.1
      split at h1
      · exact ⟨_, rfl⟩
      · cases h1
    subst h1
    simp only [enc, unI, List.map_cons] at ih ⊢
    rw [ih]
def setI (l : List Int) : List (Int × D) := l.map fun n => (n, .bool true)
@[go_sem] theorem setI_nil : setI [] = [] := rfl
def insI (l : List Int) (n : Int) : List Int := if l.contains n = true then l else l ++ [n]
theorem aIdx_set : ∀ (l : List Int) (n : Int) (i : Nat), aIdx n (setI l) i = (l.findIdx? (· == n)).map fun j => (i + j, D.bool true)
  | [], n, i => rfl
  | x :: l, n, i => by
    have ih := aIdx_set l n (i + 1)
    simp only [setI, List.map_cons, aIdx, List.findIdx?_cons] at ih ⊢
    by_cases h : n = x
    · subst h; simp
    · have h2 : ¬ x = n := fun e => h e.symm
      simp only [beq_iff_eq, h, h2, if_false, ih, Option.map_map, Function.comp_def]
      congr 1; funext j; congr 1; omega
@[go_sem] theorem aSet_setI (l : List Int) (n : Int) : aSet n (.bool true) (setI l) = setI (insI l n) := by
  unfold aSet insI
  rw [aIdx_set]
  cases h : l.findIdx? (· == n) with
  | none =>
    have : l.contains n = false := by
      rw [List.findIdx?_eq_none_iff] at h
      rw [Bool.eq_false_iff]; intro hc
      have := h n (by simpa using hc)
      simp at this
    simp only [Option.map_none, this, Bool.false_eq_true, if_false]
    simp [setI]
  | some j =>
    rw [List.findIdx?_eq_some_iff_getElem] at h
    obtain ⟨hj, he, _⟩ := h
    have e : l[j] = n := by simpa using he
    have : l.contains n = true := by rw [List.contains_iff_mem, ← e]; exact List.getElem_mem hj
    simp only [Option.map_some, this, if_true, Nat.zero_add]
    apply List.ext_getElem?
    intro k
    rw [List.getElem?_set]
    split
    · rename_i hk; subst hk; simp [setI, hj, e]
    · rfl
def delI (l : List Int) (n : Int) : List Int := match l.findIdx? (· == n) with | some j => l.eraseIdx j | none => l
theorem eraseIdx_map {α β : Type} (f : α → β) : ∀ (l : List α) (j : Nat), (l.map f).eraseIdx j = (l.eraseIdx j).map f
  | [], _ => rfl
  | _ :: _, 0 => rfl
  | x :: l, j + 1 => by simp [eraseIdx_map f l j]
@[go_sem] theorem aDel_setI (l : List Int) (n : Int) : aDel n (setI l) = setI (delI l n) := by
  unfold aDel delI
  rw [aIdx_set]
  cases h : l.findIdx? (· == n) with
  | none => simp
  | some j => simp only [Option.map_some, Nat.zero_add]; exact eraseIdx_map _ _ _
section
variable {P : Program} {o : Nat → Obj'} {t : TypeId} {id : Nat} {n : Int} {v : V}
def isIntK (P : Program) (kt : TypeId) : Bool := match eqShape P kt with | some .int => true | _ => false
theorem isIntK_eq {kt : TypeId} (h : isIntK P kt = true) : eqShape P kt = some .int := by
  unfold isIntK at h; split at h
  · assumption
  · cases h
@[go_sem] theorem isIntK_of {kt : TypeId} (h : eqShape P kt = some .int) : isIntK P kt = true := by unfold isIntK; rw [h]
def updI (P : Program) (o : Nat → Obj') (t : TypeId) (id : Nat) (n : Int) (v : V) : Option Res :=
  match mapT P t, toD o v, o id with
  | some (kt, _), some vd, .map kt' vt' l => match isIntK P kt && isI l && v.ids.all (· != id) with
    | true => some (.tup [], frz o v.ids ++ [(id, .map kt' vt' (enc (D.int .i64) (aSet n vd (unI l))))], id :: v.ids)
    | false => mapUpdX P o t (.mp id) (.d (.int .i64 n)) v
  | _, _, _ => mapUpdX P o t (.mp id) (.d (.int .i64 n)) v
@[go_sem high] theorem mapUpd_int : mapUpdF P o t (.mp id) (.d (.int .i64 n)) v = updI P o t id n v := by
  unfold updI
  split
  · rename_i kt vt vd kt' vt' l h1 h2 h3
    split
    · rename_i hc
      simp only [Bool.and_eq_true] at hc
      obtain ⟨⟨c1, c2⟩, c3⟩ := hc
      have c4 := isIntK_eq c1
      have c5 : toD o (.d (.int .i64 n)) = some (.int .i64 n) := rfl
      have hl := enc_unI c2
      unfold mapUpdF
      simp only [h1, c5, h2, mapEs, h3]
      rw [if_pos ⟨rfl, chk_int c4 n, rfl, c3⟩]
      conv => lhs; rw [← hl]
      rw [find_int c4]
      unfold aSet
      cases aIdx n (unI l) 0 with
      | none => simp [keyO, enc]
      | some p => simp [keyO, enc_set, D.same, scalD]
    · exact mapUpdF_X ..
  · exact mapUpdF_X ..
attribute [go_sem] updI
def isS (l : List (D × D)) : Bool := l.all fun p => match p.2 with | .bool true => true | _ => false
@[go_sem] theorem isS_set (l : List Int) : isS (enc (D.int .i64) (setI l)) = true := by simp [isS, enc, setI]
@[go_sem] theorem isS_nil : isS [] = true := rfl
theorem setI_un : ∀ {m : List (Int × D)}, isS (enc (D.int .i64) m) = true → setI (m.map (·.1)) = m
  | [], _ => rfl
  | (k, x) :: m, h => by
    simp only [isS, enc, List.map_cons, List.all_cons, Bool.and_eq_true] at h
    have ih := setI_un (m := m) h.2
    have h1 : x = .bool true := by
      have h1 := h.1
      split at h1
      · rfl
      · cases h1
    simp only [setI, List.map_cons] at ih ⊢
    rw [ih, h1]
def lookS (P : Program) (o : Nat → Obj') (t : TypeId) (m : V) (n : Int) (ok : Bool) : Option Res :=
  match mapT P t with
  | some (kt, vt) => match zeroV P vt with
    | some (.d (.bool false)) => match mapRd o m with
      | some (rd, l) => match isIntK P kt && isI l && isS l with
        | true => some (match ok with | true => .tup [.d (.bool (((unI l).map (·.1)).contains n)), .d (.bool (((unI l).map (·.1)).contains n))] | false => .d (.bool (((unI l).map (·.1)).contains n)), [], rd)
        | false => lookX P o t m (.d (.int .i64 n)) ok
      | none => lookX P o t m (.d (.int .i64 n)) ok
    | _ => lookX P o t m (.d (.int .i64 n)) ok
  | none => lookX P o t m (.d (.int .i64 n)) ok
@[go_sem] theorem set_keys (l : List Int) : ((setI l).map (·.1)) = l := by simp [setI, Function.comp_def]
@[go_sem high] theorem look_int {m : V} {ok : Bool} : lookupF P o t m (.d (.int .i64 n)) ok = lookS P o t m n ok := by
  unfold lookS
  split
  · rename_i kt vt h1
    split
    · rename_i hz
      split
      · rename_i rd l h
        split
        · rename_i hc
          simp only [Bool.and_eq_true] at hc
          have c4 := isIntK_eq hc.1.1
          have hl := enc_unI hc.1.2
          have hs : setI ((unI l).map (·.1)) = unI l := setI_un (by rw [hl]; exact hc.2)
          have c5 : toD o (.d (.int .i64 n)) = some (.int .i64 n) := rfl
          unfold lookupF
          simp only [h1, c5, h]
          rw [if_pos ⟨rfl, chk_int c4 n⟩]
          conv => lhs; rw [← hl]
          rw [find_int c4, ← hs, aIdx_set, set_keys]
          generalize (unI l).map (·.1) = l'
          cases hf : l'.findIdx? (· == n) with
          | none =>
            have : l'.contains n = false := by
              rw [List.findIdx?_eq_none_iff] at hf
              rw [Bool.eq_false_iff]; intro hc
              have := hf n (by simpa using hc)
              simp at this
            cases ok <;> simp only [Option.map_none, keyO, hz, this, if_true, Bool.false_eq_true, if_false]
          | some j =>
            rw [List.findIdx?_eq_some_iff_getElem] at hf
            obtain ⟨hj, he, _⟩ := hf
            have e : l'[j] = n := by simpa using he
            have : l'.contains n = true := by rw [List.contains_iff_mem, ← e]; exact List.getElem_mem hj
            cases ok <;> simp only [Option.map_some, keyO, this, if_true, Bool.false_eq_true, if_false]
        · exact lookupF_X ..
      · exact lookupF_X ..
    · exact lookupF_X ..
  · exact lookupF_X ..
attribute [go_sem] lookS
end
attribute [go_sem] List.head?_cons
end Go.Proofs.YtealblliddhgiaaGreat
namespace Go.Proofs.YtealblliddhgiaaGreat
theorem hp_put {o : Nat → Obj'} {nx : Nat} {Δ : List (Nat × Obj')} (h : ∀ x ∈ Δ, x.1 < nx) : (hp o nx).put Δ = hp (put o Δ) nx := by
  simp only [Hp.put, hp]
  congr 1
  funext j
  simp only [List.mem_map, eq_iff_iff]
  exact ⟨fun h2 => h2.elim (fun h => h) fun ⟨x, hx, e⟩ => e ▸ h x hx, .inl⟩
theorem CtK.pre_freeze {P : Program} {g : FuncId} {args : List V} {o : Nat → Obj'} {nx id : Nat} {kt vt : TypeId} {l : List (D × D)} {K X : V → (Nat → Obj') → Nat → Prop} (ho : o id = .map kt vt l) (hid : id < nx)
    (h : CtK P g args (upd o id (.mfro l)) nx K X) : CtK P g args o nx K X := by
  refine ⟨h.1, fun M φ w vals hH hd => ?_⟩
  obtain ⟨h1, h2⟩ := freezeM hH (id := id) hid ho
  have hput : (hp o nx).put [(id, .mfro l)] = hp (upd o id (.mfro l)) nx := hp_put (fun x hx => by simp at hx; subst hx; exact hid)
  rw [hput] at h1 h2
  have hB : ∀ b, ¬ mutB M φ (hp o nx) b → ¬ mutB M φ (hp (upd o id (.mfro l)) nx) b := by
    rintro b hn (hb | ⟨j, hl, hb⟩)
    · exact hn (.inl hb)
    · refine hn (.inr ⟨j, ?_, hb⟩)
      by_cases e : j = id
      · subst e; show (o j).live = true; rw [ho]; rfl
      · have hl : (upd o id (.mfro l) j).live = true := hl
        rw [upd_ne _ _ _ _ e] at hl; exact hl
  refine (h.2 M φ w vals h1 (V.dens_like (H := hp o nx) hB _ _ (fun j hj => ⟨?_, rfl, V.refss_used _ _ hd j hj⟩) hd)).mono ?_
  · show Like (upd o id (.mfro l) j) (o j)
    by_cases e : j = id
    · subst e; rw [upd_same, ho]; exact ⟨fun _ => rfl, fun e he => by cases he⟩
    · rw [upd_ne _ _ _ _ e]; exact Like.rfl' rfl
  · rintro e w' ⟨φ', o', nx', v, k1, k2, k3⟩
    exact ⟨φ', o', nx', v, k1, h2.trans k2, k3⟩
theorem CtK.seal {P : Program} {g : FuncId} {args : List V} {o : Nat → Obj'} {nx : Nat} {K X : V → (Nat → Obj') → Nat → Prop}
    (h : CtK P g args o nx (fun v o' nx' => ∃ x, toD o' v = some x ∧ K (.d x) (put o' (frz o' v.ids)) nx') X) : CtK P g args o nx K X := by
  refine ⟨h.1, fun M φ w vals hH hd => (h.2 M φ w vals hH hd).mono ?_⟩
  rintro e w' ⟨φ', o', nx', v, k1, k2, k3⟩
  cases e with
  | returned val =>
    obtain ⟨k4, x, k5, k6⟩ := k3
    have hu := fun id hid => ids_used v val k4 id hid
    obtain ⟨f1, f2, f3, f4, f5⟩ := freezes (H := hp o' nx') k1 v.ids hu
    have hput : (hp o' nx').put (frz o' v.ids) = hp (put o' (frz o' v.ids)) nx' := hp_put (fun y hy => by
      simp only [frz, List.mem_map] at hy
      obtain ⟨id, hid, rfl⟩ := hy
      exact hu id hid)
    have f1' := f1; have f2' := f2
    rw [show frz (hp o' nx').o v.ids = frz o' v.ids from rfl, hput] at f1' f2'
    have hB1 : ∀ k, liveB φ' ((hp o' nx').put (frz o' v.ids)) k → liveB φ' (hp o' nx') k := by
      rintro k ⟨id, g1, g2⟩
      by_cases hid : id ∈ v.ids
      · have := f3 id hid
        rw [show ((hp o' nx').put (frz o' v.ids)).o id = _ from this] at g1
        refine ⟨id, ?_, g2⟩
        revert g1
        cases (hp o' nx').o id <;> simp [Obj'.fz, Obj'.live]
      · have := f4 id hid
        rw [show ((hp o' nx').put (frz o' v.ids)).o id = _ from this] at g1
        exact ⟨id, g1, g2⟩
    have h4 : V.den (mutB M φ' ((hp o' nx').put (frz o' v.ids))) φ' ((hp o' nx').put (frz o' v.ids)) w' v val :=
      V.den_like (H := hp o' nx') (fun k h h' => h (h'.imp id (hB1 k))) v val (fun id hid => by
        have hus : (hp o' nx').us id := (V.refs_used v val k4) id hid
        refine ⟨?_, rfl, (f5 id).2 hus⟩
        by_cases hm : id ∈ v.ids
        · rw [show ((hp o' nx').put (frz o' v.ids)).o id = _ from f3 id hm]; exact Like.fz _
        · rw [show ((hp o' nx').put (frz o' v.ids)).o id = _ from f4 id hm]; exact Like.rfl' rfl) k4
    have h5 := toD_den f1 (o := o') v x val (fun id hid => f3 id hid) k5 h4
    rw [show (hp o' nx').put (frz (hp o' nx').o v.ids) = hp (put o' (frz o' v.ids)) nx' from hput] at h5
    exact ⟨φ', _, nx', .d x, f1', k2.trans f2', h5, k6⟩
  | panicked ch => exact ⟨φ', o', nx', v, k1, k2, k3⟩
  | outgrown => exact k3.elim
end Go.Proofs.YtealblliddhgiaaGreat
namespace Go.Proofs.YtealblliddhgiaaGreat
theorem eqFunc_c (a b : List Tm) (ha : a.length ≤ 9223372036854775807) (hb : b.length ≤ 9223372036854775807) (g : Nat) (h : ∀ x ∈ a, ∀ y ∈ b, PCt Tryz.prog g [x.d, y.d] (.ret [.bool (sameF x y)])) (o : Nat → Obj') (nx : Nat) (hg : Good o nx) (K X : V → (Nat → Obj') → Nat → Prop)
    (hK : ∀ o' nx', nx ≤ nx' → Good o' nx' → (∀ j, j < nx → o' j = o j) → K (.d (.bool (a.length == b.length && samesF a b))) o' nx') :
    CtK Tryz.prog 111 [.d (.sl (a.map Tm.d)), .d (.sl (b.map Tm.d)), .func (.func g) [] []] o nx K X := by
  refine CtK.of_ev mix fn111 (by simp) ?_
  rw [c111]
  simp +contextual (disch := first | omega | (simp only [go_sem, false_implies]; done) | fail) only [go_sem, wrap64, if_pos, Nat.add_assoc, Nat.left_eq_add, Nat.add_eq_left, Nat.add_left_cancel_iff]
  refine cond_intro (fun h1 => ?_) (fun h1 => ?_)
  · simp +contextual (disch := first | omega | (simp only [go_sem, false_implies]; done) | fail) only [go_sem, wrap64, if_pos, and_self]
    have : (a.length == b.length && samesF a b) = false := by
      have : (a.length == b.length) = false := by
        rw [Bool.eq_false_iff]; intro h
        simp at h; simp [h] at h1
      rw [this]; rfl
    rw [this] at hK
    exact hK _ _ (by omega) (hg.mono (by omega)) (fun _ _ => rfl)
  · have hl : a.length = b.length := by simp at h1; omega
    have hl' : (a.length == b.length) = true := by simpa using hl
    rw [hl', Bool.true_and] at hK
    simp +contextual (disch := first | omega | (simp only [go_sem, false_implies]; done) | fail) only [go_sem, wrap64, if_pos, Nat.add_assoc, Nat.left_eq_add, Nat.add_eq_left, Nat.add_left_cancel_iff]
    refine loop_fam (fun k : Nat => ⟨envJ [.d (.sl (a.map Tm.d)), .d (.sl (b.map Tm.d)), .func (.func g) [] [], .junk, .junk, .junk, .junk, .junk, .junk, .junk, .junk, .junk, .junk, .junk, .junk, .d (.sl (a.map Tm.d)), .d (.i a.length), .d (.i k)], o, nx⟩)
      (fun k => k ≤ a.length ∧ ∀ i, i < k → ∀ x y, a[i]? = some x → b[i]? = some y → sameF x y = true) (fun k => a.length - k) 0 ⟨Nat.zero_le _, fun i h => by omega⟩ (SLe.backL _ (Nat.le_refl _) (by omega) hg (fun _ _ => rfl) ?_) (fun k hk => ?_)
    · (repeat (first | exact backE_nil | refine backE_junk ?_ | refine backE_d rfl ?_ | refine backE_d (d_int (wrapN (by omega))) ?_ | refine backE_v rfl (by simp [V.refs, V.refss] <;> first | omega | assumption) ?_))
    simp +contextual (disch := first | omega | (simp only [go_sem, false_implies]; done) | fail) only [go_sem, wrap64, if_pos, and_self]
    refine cond_intro (fun h2 => ?_) (fun h2 => ?_)
    · simp at h2
      obtain ⟨x, hx⟩ := get_of_lt h2
      obtain ⟨y, hy⟩ := get_of_lt (l := b) (k := k) (by omega)
      simp +contextual (disch := first | omega | (simp only [go_sem, false_implies]; done) | fail) only [go_sem, wrap64, if_pos, hx, hy, Nat.add_assoc, Nat.left_eq_add, Nat.add_eq_left, Nat.add_left_cancel_iff]
      refine call_keep (h x (List.mem_of_getElem? hx) y (List.mem_of_getElem? hy)) rfl ?_
      simp +contextual (disch := first | omega | (simp only [go_sem, false_implies]; done) | fail) only [go_sem, wrap64, if_pos, and_self]
      refine cond_intro (fun h3 => ?_) (fun h3 => ?_)
      · simp +contextual (disch := first | omega | (simp only [go_sem, false_implies]; done) | fail) only [go_sem, wrap64, if_pos, and_self]
        simp at h3
        have : samesF a b = false := by
          rw [Bool.eq_false_iff]; intro h4
          have := (samesF_eq _ _ hl).1 h4 k x y hx hy
          rw [h3] at this; cases this
        rw [this] at hK
        refine hK _ _ (by omega) ?_ (fun j hj => by (repeat (first | rfl | rw [upd_same] | rw [upd_ne _ _ _ _ (by omega)])))
        exact (by repeat (first | exact hg.mono (by omega) | exact Good.nil | refine Good.upd ?_ (by omega) rfl | refine Good.upd ?_ (by omega) (hLr _ _ _ (by omega)) | refine Good.upd ?_ (by omega) (by simp [Obj'.refs, V.refss, V.refs] <;> omega)))
      · simp +contextual (disch := first | omega | (simp only [go_sem, false_implies]; done) | fail) only [go_sem, wrap64, if_pos, and_self]
        simp at h3
        refine nextS_intro (k + 1) ⟨h2, fun i hi u v hu hv => ?_⟩ (by omega) (SLe.backL _ (Nat.le_refl _) (by omega) hg (fun j hj => by (repeat (first | rfl | rw [upd_same] | rw [upd_ne _ _ _ _ (by omega)]))) ?_)
        · by_cases e : i = k
          · subst e
            rw [hx] at hu; rw [hy] at hv
            injection hu with hu; injection hv with hv; subst hu; subst hv; exact h3
          · exact hk.2 i (by omega) u v hu hv
        · (repeat (first | exact backE_nil | refine backE_junk ?_ | refine backE_d rfl ?_ | refine backE_d (d_int (wrapN (by omega))) ?_ | refine backE_v rfl (by simp [V.refs, V.refss] <;> first | omega | assumption) ?_))
    · simp +contextual (disch := first | omega | (simp only [go_sem, false_implies]; done) | fail) only [go_sem, wrap64, if_pos, and_self]
      simp at h2
      have : samesF a b = true := (samesF_eq _ _ hl).2 fun i x y hx hy => hk.2 i (by have := (List.getElem?_eq_some_iff.1 hx).1; omega) x y hx hy
      rw [this] at hK
      exact hK _ _ (by omega) (hg.mono (by omega)) (fun _ _ => rfl)
theorem equal_c : ∀ a : Tm, a.fits → ∀ b : Tm, b.fits → PCt Tryz.prog 75 [a.d, b.d] (.ret [.bool (sameF a b)]) := by
  refine Tm.ind' fun a ih ha b hb => ?_
  have ha' := (Tm.fits_iff _).1 ha
  have hb' := (Tm.fits_iff _).1 hb
  refine PCt.of_ev mix fn75 (by simp) ?_
  rw [c75, sameF_eq]
  simp +contextual (disch := first | omega | (simp only [go_sem, false_implies]; done) | fail) only [go_sem, wrap64, if_pos, and_self]
  refine guard_split (cond_intro (fun h1 => ?_) (fun h1 => ?_))
  · rw [h1]
    simp +contextual (disch := first | omega | (simp only [go_sem, false_implies]; done) | fail) only [go_sem, wrap64, if_pos, h1]
    refine callR_heap (eqFunc_c a.kids b.kids ha'.1 hb'.1 75 (fun x hx y hy => ih x hx (ha'.2 x hx) y (hb'.2 y hy)) _ _ (by repeat (first | exact hg.mono (by omega) | exact Good.nil | refine Good.upd ?_ (by omega) rfl | refine Good.upd ?_ (by omega) (hLr _ _ _ (by omega)) | refine Good.upd ?_ (by omega) (by simp [Obj'.refs, V.refss, V.refs] <;> omega))) _ _ fun o2 n2 m1 m2 m3 => ?_)
    simp +contextual (disch := first | omega | (simp only [go_sem, false_implies]; done) | fail) only [go_sem, wrap64, if_pos, h1]
  · rw [h1]
    simp +contextual (disch := first | omega | (simp only [go_sem, false_implies]; done) | fail) only [go_sem, wrap64, if_pos, h1]
theorem variable_c' (n : Int) : PCt Tryz.prog 65 [.i n] (.ret [(Tm.mk 1 n []).d]) := by
  refine PCt.of_ev mix fn65 (by simp) ?_
  rw [c65]
  simp +contextual (disch := first | omega | (simp only [go_sem, false_implies]; done) | fail) only [go_sem, wrap64, if_pos, and_self]
  rw [Tm.d_mk]
  rfl
theorem rvar_c (n : Int) : PCt Tryz.prog 73 [.i n] (.ret [(Tm.mk 1 n []).d]) := by
  refine PCt.of_ev mix fn73 (by simp) ?_
  rw [c73]
  simp +contextual (disch := first | omega | (simp only [go_sem, false_implies]; done) | fail) only [go_sem, wrap64, if_pos, and_self]
  rw [Tm.d_mk]
  rfl
theorem new_c (cid : Nat) (n : Int) (v : V) (o : Nat → Obj') (nx : Nat) (ho : o cid = .row [.d (.i n), v]) (hn : 0 ≤ n ∧ n ≤ 1000000) (hg : Good o nx) (K X : V → (Nat → Obj') → Nat → Prop)
    (hK : K (.d (.i n)) (upd o cid (.row [.d (.i (n + 1)), v])) (nx + 15)) : CtK Tryz.prog 142 [.ptr cid 0] o nx K X := by
  refine CtK.of_ev mix fn142 (by simp) ?_
  rw [c142]
  simp +contextual (disch := first | omega | (simp only [go_sem, false_implies]; done) | fail) only [go_sem, wrap64, if_pos, ho, Nat.add_assoc, Nat.left_eq_add, Nat.add_eq_left, Nat.add_left_cancel_iff]
  rw [show n + 1 - 1 = n by omega]
  exact hK
end Go.Proofs.YtealblliddhgiaaGreat
namespace Go.Proofs.YtealblliddhgiaaGreat
def lk : List (Int × Int) → Int → Option Int
  | [], _ => none
  | p :: m, v => if p.1 = v then some p.2 else lk m v
mutual
def ordF : Tm → List (Int × Int) → List (Int × Int) → Int → Tm × List (Int × Int) × Int
  | .mk op n kids, bd, fr, nx =>
    if op = 1 then (match lk bd n with
      | some k => (.mk 1 k [], fr, nx)
      | none => match lk fr n with
        | some k => (.mk 1 k [], fr, nx)
        | none => (.mk 1 nx [], fr ++ [(n, nx)], nx + 1))
    else if op = 8 then (.mk 8 nx (ordsF kids bd ((n, nx) :: bd) 0 fr (nx + 1)).1, (ordsF kids bd ((n, nx) :: bd) 0 fr (nx + 1)).2)
    else (.mk op n (ordsF kids bd bd 0 fr nx).1, (ordsF kids bd bd 0 fr nx).2)
def ordsF : List Tm → List (Int × Int) → List (Int × Int) → Nat → List (Int × Int) → Int → List Tm × List (Int × Int) × Int
  | [], _, _, _, fr, nx => ([], fr, nx)
  | k :: l, bd, inn, i, fr, nx =>
    ((ordF k (if i = 1 then inn else bd) fr nx).1 :: (ordsF l bd inn (i + 1) (ordF k (if i = 1 then inn else bd) fr nx).2.1 (ordF k (if i = 1 then inn else bd) fr nx).2.2).1,
      (ordsF l bd inn (i + 1) (ordF k (if i = 1 then inn else bd) fr nx).2.1 (ordF k (if i = 1 then inn else bd) fr nx).2.2).2)
end
theorem ordF_eq (t : Tm) (bd fr : List (Int × Int)) (nx : Int) : ordF t bd fr nx = if t.op = 1 then (match lk bd t.n with
      | some k => (.mk 1 k [], fr, nx)
      | none => match lk fr t.n with
        | some k => (.mk 1 k [], fr, nx)
        | none => (.mk 1 nx [], fr ++ [(t.n, nx)], nx + 1))
    else if t.op = 8 then (.mk 8 nx (ordsF t.kids bd ((t.n, nx) :: bd) 0 fr (nx + 1)).1, (ordsF t.kids bd ((t.n, nx) :: bd) 0 fr (nx + 1)).2)
    else (.mk t.op t.n (ordsF t.kids bd bd 0 fr nx).1, (ordsF t.kids bd bd 0 fr nx).2) := by cases t; rfl
theorem ord_next : ∀ (t : Tm) (bd fr : List (Int × Int)) (nx : Int), nx ≤ (ordF t bd fr nx).2.2 ∧ (ordF t bd fr nx).2.2 ≤ nx + t.sz := by
  refine Tm.ind' fun t ih bd fr nx => ?_
  have hs : ∀ (l : List Tm) (bd inn fr : List (Int × Int)) (i : Nat) (nx : Int), (∀ k ∈ l, k ∈ t.kids) → nx ≤ (ordsF l bd inn i fr nx).2.2 ∧ (ordsF l bd inn i fr nx).2.2 ≤ nx + szs l := by
    intro l
    induction l with
    | nil => intro bd inn fr i nx _; simp [ordsF, szs]
    | cons k l ihl =>
      intro bd inn fr i nx hk
      simp only [ordsF, szs_cons]
      have h1 := ih k (hk k (by simp)) (if i = 1 then inn else bd) fr nx
      have h2 := ihl bd inn (ordF k (if i = 1 then inn else bd) fr nx).2.1 (i + 1) (ordF k (if i = 1 then inn else bd) fr nx).2.2 (fun x hx => hk x (by simp [hx]))
      omega
  rw [ordF_eq, Tm.sz_eq]
  have h0 := hs t.kids bd bd fr 0 nx (fun _ h => h)
  have h8 := hs t.kids bd ((t.n, nx) :: bd) fr 0 (nx + 1) (fun _ h => h)
  split
  · split
    · simp only; omega
    · split <;> (simp only; omega)
  · split <;> (simp only; omega)
abbrev Keys (m : List (Int × Int)) : Prop := (m.map (·.1)).Nodup
theorem lk_none {m : List (Int × Int)} {v : Int} : lk m v = none ↔ v ∉ m.map (·.1) := by
  induction m with
  | nil => simp [lk]
  | cons p m ih =>
    simp only [lk, List.map_cons, List.mem_cons, not_or]
    by_cases h : p.1 = v
    · simp [h]
    · rw [if_neg h, ih]
      exact ⟨fun h2 => ⟨fun e => h e.symm, h2⟩, fun h2 => h2.2⟩
theorem lk_some {m : List (Int × Int)} {v k : Int} (hk : Keys m) : lk m v = some k ↔ (v, k) ∈ m := by
  induction m with
  | nil => simp [lk]
  | cons p m ih =>
    rw [Keys, List.map_cons, List.nodup_cons] at hk
    simp only [lk, List.mem_cons]
    by_cases h : p.1 = v
    · rw [if_pos h]
      constructor
      · intro e; injection e with e; exact .inl (by rw [← h, ← e])
      · rintro (e | e)
        · rw [← e]
        · exact absurd (h ▸ List.mem_map.2 ⟨_, e, rfl⟩) hk.1
    · rw [if_neg h, ih hk.2]
      constructor
      · exact .inr
      · rintro (e | e)
        · exact absurd (by rw [← e]) h
        · exact e
theorem lk_perm {m m' : List (Int × Int)} (hk : Keys m) (h : m.Perm m') (v : Int) : lk m v = lk m' v := by
  have hk' : Keys m' := (h.map _).nodup_iff.1 hk
  cases h1 : lk m' v with
  | none => rw [lk_none] at h1 ⊢; rwa [(h.map _).mem_iff]
  | some k => rw [lk_some hk'] at h1; rw [lk_some hk]; exact h.mem_iff.2 h1
theorem ord_keys : ∀ (t : Tm) (bd fr : List (Int × Int)) (nx : Int), Keys fr → Keys (ordF t bd fr nx).2.1 := by
  refine Tm.ind' fun t ih bd fr nx hf => ?_
  have hs : ∀ (l : List Tm) (bd inn fr : List (Int × Int)) (i : Nat) (nx : Int), (∀ k ∈ l, k ∈ t.kids) → Keys fr → Keys (ordsF l bd inn i fr nx).2.1 := by
    intro l
    induction l with
    | nil => intro bd inn fr i nx _ h; exact h
    | cons k l ihl =>
      intro bd inn fr i nx hk h
      exact ihl bd inn _ (i + 1) _ (fun x hx => hk x (by simp [hx])) (ih k (hk k (by simp)) _ fr nx h)
  rw [ordF_eq]
  split
  · split
    · exact hf
    · split
      · exact hf
      · rename_i h
        rw [lk_none] at h
        show (List.map _ (fr ++ [(t.n, nx)])).Nodup
        rw [List.map_append, List.nodup_append]
        exact ⟨hf, by simp, fun a ha b hb => by simp at hb; subst hb; intro e; subst e; exact h ha⟩
  · split
    · exact hs _ _ _ _ _ _ (fun _ h => h) hf
    · exact hs _ _ _ _ _ _ (fun _ h => h) hf
def ints (m : List (Int × Int)) : List (Int × D) := m.map fun p => (p.1, D.i p.2)
theorem aIdx_ints : ∀ (m : List (Int × Int)) (v : Int) (i : Nat), (match aIdx v (ints m) i with | some (_, x) => some x | none => none) = (lk m v).map D.i
  | [], v, i => rfl
  | p :: m, v, i => by
    have ih := aIdx_ints m v (i + 1)
    simp only [ints, List.map_cons, aIdx, lk] at ih ⊢
    by_cases h : v = p.1
    · subst h; simp
    · have h2 : ¬ p.1 = v := fun e => h e.symm
      simp only [beq_iff_eq, h, h2, if_false]
      exact ih
theorem aIdx_lk_some {m : List (Int × Int)} {v k : Int} (h : lk m v = some k) : ∃ j, aIdx v (ints m) 0 = some (j, D.i k) := by
  have := aIdx_ints m v 0
  rw [h] at this
  cases ha : aIdx v (ints m) 0 with
  | none => rw [ha] at this; cases this
  | some p => obtain ⟨j, x⟩ := p; rw [ha] at this; simp at this; exact ⟨j, by rw [this]⟩
theorem aIdx_lk_none {m : List (Int × Int)} {v : Int} (h : lk m v = none) : aIdx v (ints m) 0 = none := by
  have := aIdx_ints m v 0
  rw [h] at this
  cases ha : aIdx v (ints m) 0 with
  | none => rfl
  | some p => obtain ⟨j, x⟩ := p; rw [ha] at this; cases this
theorem aSet_new {m : List (Int × Int)} {v k : Int} (h : lk m v = none) : aSet v (D.i k) (ints m) = ints (m ++ [(v, k)]) := by
  unfold aSet; rw [aIdx_lk_none h]; simp [ints]
end Go.Proofs.YtealblliddhgiaaGreat
