/-
  A PART OF THE PROOF (put together by program): several texts, one behind the other. Conditions: none.
-/
import Derived.Test.YtealblliddhgiaaGreatSo32
set_option linter.unusedSimpArgs false
set_option linter.unusedVariables false
namespace Go.Proofs.YtealblliddhgiaaGreat
def Tm.sz (t : Tm) : Nat := (pre t 1).length
def szs (l : List Tm) : Nat := (l.map Tm.sz).sum
theorem Tm.sizeI_sz (t : Tm) : t.sizeI = (t.sz : Int) := rfl
theorem Tm.sz_eq (t : Tm) : t.sz = 1 + szs t.kids := by
  unfold Tm.sz szs
  rw [pre_eq, List.length_cons, List.length_flatMap, Nat.add_comm]
  congr 2
  exact List.map_congr_left fun k hk => pre_len_any k _ _
theorem szs_cons (k : Tm) (l : List Tm) : szs (k :: l) = k.sz + szs l := by simp [szs]
theorem Tm.sz_pos (t : Tm) : 1 ≤ t.sz := by rw [Tm.sz_eq]; omega
theorem hgts_cons (k : Tm) (l : List Tm) : Tm.hgts (k :: l) = Nat.max k.hgt (Tm.hgts l) := by simp [Tm.hgts]
theorem hgts_le : ∀ (l : List Tm) (n : Nat), Tm.hgts l ≤ n ↔ ∀ k ∈ l, k.hgt ≤ n
  | [], n => by simp [Tm.hgts]
  | x :: l, n => by
    rw [hgts_cons]
    simp only [List.mem_cons, forall_eq_or_imp, ← hgts_le l n]
    exact Nat.max_le
theorem Tm.hgt_eq (t : Tm) : t.hgt = 1 + Tm.hgts t.kids := by cases t; simp [Tm.hgt, Tm.kids]
theorem weigh_val : ∀ t : Tm, ∀ left depth : Int, weigh t left depth = if (t.sz : Int) ≤ left ∧ (t.hgt : Int) ≤ depth then left - t.sz else -1 := by
  refine Tm.ind' fun t ih left depth => ?_
  have hs : ∀ (l : List Tm) (left d : Int), (∀ k ∈ l, k ∈ t.kids) → 0 ≤ left → 0 ≤ d → weighs l left d = if (szs l : Int) ≤ left ∧ (Tm.hgts l : Int) ≤ d then left - szs l else -1 := by
    intro l
    induction l with
    | nil => intro left d _ h1 h2; simp [weighs, szs, Tm.hgts, h1, h2]
    | cons k l ihl =>
      intro left d hk h1 h2
      simp only [weighs, if_pos h1]
      rw [ih k (hk k (by simp))]
      have hm : (Tm.hgts (k :: l) : Int) ≤ d ↔ (k.hgt : Int) ≤ d ∧ (Tm.hgts l : Int) ≤ d := by
        have := @Nat.max_le k.hgt (Tm.hgts l) d.toNat
        have e : Tm.hgts (k :: l) = max k.hgt (Tm.hgts l) := hgts_cons k l
        rw [e]; omega
      simp only [szs_cons, hm]
      by_cases hc : (k.sz : Int) ≤ left ∧ (k.hgt : Int) ≤ d
      · rw [if_pos hc, ihl _ _ (fun x hx => hk x (by simp [hx])) (by omega) h2]
        by_cases hc2 : (szs l : Int) ≤ left - k.sz ∧ (Tm.hgts l : Int) ≤ d
        · rw [if_pos hc2, if_pos (by omega)]; omega
        · rw [if_neg hc2, if_neg (by omega)]
      · rw [if_neg hc, weighs_neg (by omega), if_neg (by omega)]
  rw [weigh_eq, Tm.sz_eq, Tm.hgt_eq]
  by_cases h : left < 1 ∨ depth < 1
  · rw [if_pos h, if_neg (by omega)]
  · rw [if_neg h, hs _ _ _ (fun _ h => h) (by omega) (by omega)]
    by_cases hc : (szs t.kids : Int) ≤ left - 1 ∧ (Tm.hgts t.kids : Int) ≤ depth - 1
    · rw [if_pos hc, if_pos (by omega)]; omega
    · rw [if_neg hc, if_neg (by omega)]
theorem weigh_ge (t : Tm) (left depth : Int) : 0 ≤ weigh t left depth ↔ (t.sz : Int) ≤ left ∧ (t.hgt : Int) ≤ depth := by
  rw [weigh_val]; split <;> omega
theorem smallF_iff (t : Tm) : smallF t = true ↔ t.sz ≤ 50 ∧ t.hgt ≤ 14 := by
  simp only [smallF, decide_eq_true_eq, weigh_ge]; omega
theorem Tm.Cnt.of_small {t : Tm} (hf : t.fits) (h : smallF t = true) : t.Cnt := by
  rw [smallF_iff] at h
  exact ⟨⟨hf, by omega⟩, by rw [Tm.sizeI_sz]; omega⟩
theorem pre_depth : ∀ (t : Tm) (d m : Int), (∀ x ∈ pre t d, x.2 ≤ m) ↔ d + t.hgt - 1 ≤ m := by
  refine Tm.ind' fun t ih d m => ?_
  rw [pre_eq, Tm.hgt_eq]
  simp only [List.mem_cons, forall_eq_or_imp, List.mem_flatMap]
  have h1 : (∀ x : Tm × Int, (∃ k, k ∈ t.kids ∧ x ∈ pre k (d + 1)) → x.2 ≤ m) ↔ ∀ k ∈ t.kids, d + 1 + k.hgt - 1 ≤ m := by
    constructor
    · intro h k hk
      exact (ih k hk _ _).1 fun x hx => h x ⟨k, hk, hx⟩
    · rintro h x ⟨k, hk, hx⟩
      exact (ih k hk _ _).2 (h k hk) x hx
  rw [h1]
  constructor
  · rintro ⟨h2, h3⟩
    have := (hgts_le t.kids (m - d).toNat).2 fun k hk => by have := h3 k hk; omega
    omega
  · intro h
    have := (hgts_le t.kids (m - d).toNat).1 (by omega)
    exact ⟨by omega, fun k hk => by have := this k hk; omega⟩
theorem pre_all (p : Tm → Bool) : ∀ (t : Tm) (d : Int), (pre t d).all (fun x => p x.1) = (p t && t.kids.all fun k => (pre k (d + 1)).all fun x => p x.1) := by
  intro t d
  rw [pre_eq, List.all_cons, List.all_flatMap]
theorem nodesF_pre (s : TSig) : ∀ (t : Tm) (d : Int), nodesF s t = (pre t d).all fun x => nodeF s x.1 := by
  refine Tm.ind' fun t ih d => ?_
  rw [pre_all (nodeF s), nodesF_eq]
  congr 1
  rw [Bool.eq_iff_iff]
  simp only [List.all_eq_true (l := t.kids)]
  exact forall_congr' fun k => forall_congr' fun hk => by rw [ih k hk (d + 1)]
theorem valueF_pre : ∀ (t : Tm) (d : Int), valueF t = (pre t d).all fun x => (decide (1 ≤ x.1.op) && decide (x.1.op ≤ 3)) || x.1.op == 5 := by
  refine Tm.ind' fun t ih d => ?_
  rw [pre_all (fun t => (decide (1 ≤ t.op) && decide (t.op ≤ 3)) || t.op == 5), valueF_eq, Bool.and_comm]
  congr 1
  rw [Bool.eq_iff_iff]
  simp only [List.all_eq_true (l := t.kids)]
  exact forall_congr' fun k => forall_congr' fun hk => by rw [ih k hk (d + 1)]
theorem nodeF_op {s : TSig} {t : Tm} (h : nodeF s t = true) : inB t.op 1 15 = true := by
  rw [show inB t.op 1 15 = true ↔ 1 ≤ t.op ∧ t.op ≤ 15 by simp [inB]]
  by_cases h6 : inB t.op 6 15 = true
  · simp [inB] at h6; omega
  · simp only [nodeF, if_neg h6] at h
    by_cases h1 : t.op = 1
    · omega
    by_cases h2 : t.op = 2
    · omega
    by_cases h3 : t.op = 3
    · omega
    by_cases h4 : t.op = 4
    · omega
    by_cases h5 : t.op = 5
    · omega
    by_cases h8 : t.op = 8
    · omega
    rw [if_neg h1, if_neg h2, if_neg h3, if_neg h4, if_neg h5, if_neg h8] at h
    cases h
def fgood (s : TSig) (x : Tm × Int) : Bool := !(decide (12 < x.2) || !inB x.1.op 1 15 || !nodeF s x.1)
theorem formed_fold (s : TSig) : ∀ (l : List (Tm × Int)) (n : Int) (b : Bool), (foldE (stp fJ (fstep s)) (n, b) l).2 = (decide (l = [] ∨ n + l.length ≤ 40) && l.all (fgood s))
  | [], n, b => by simp [foldE]
  | x :: l, n, b => by
    have e1 : ∀ c, fbad s n x = c → stp fJ (fstep s) (n, b) x = ((n + 1, !c), !c) := fun c hc => by show ((n + 1, !fbad s n x), (fJ (n + 1, !fbad s n x)).isNone) = _; rw [hc]; cases c <;> rfl
    have hb : fbad s n x = (decide (40 < n + 1) || !fgood s x) := by simp [fbad, fgood, Bool.or_assoc]
    rw [List.all_cons]
    cases hg : fgood s x with
    | false =>
      have e : fbad s n x = true := by rw [hb, hg]; simp
      rw [foldE, e1 _ e]; simp
    | true =>
      by_cases h40 : 40 < n + 1
      · have : decide (x :: l = [] ∨ n + (x :: l).length ≤ 40) = false := by simp; omega
        have e : fbad s n x = true := by rw [hb]; simp [h40]
        rw [this, Bool.false_and, foldE, e1 _ e]; simp
      · have e : fbad s n x = false := by rw [hb, hg]; simp; omega
        rw [foldE, e1 _ e]
        simp only [Bool.not_false, if_true, formed_fold s l, Bool.true_and]
        congr 1
        cases l with
        | nil => simp; omega
        | cons y l => simp; omega
theorem formedF_eq (s : TSig) (t : Tm) : formedF s t = termF s t := by
  rw [formedF, formed_fold, termF, nodesF_pre s t 1, Bool.eq_iff_iff]
  have hn : pre t 1 ≠ [] := by rw [pre_eq]; simp
  simp only [Bool.and_eq_true, decide_eq_true_eq, hn, false_or, weigh_ge, List.all_eq_true]
  have hd := pre_depth t 1 12
  constructor
  · rintro ⟨h1, h2⟩
    have h3 : ∀ x ∈ pre t 1, x.2 ≤ 12 := fun x hx => by have := h2 x hx; simp [fgood] at this; omega
    have := hd.1 h3
    exact ⟨⟨by unfold Tm.sz; omega, by omega⟩, fun x hx => by have := h2 x hx; simp [fgood] at this; exact this.2⟩
  · rintro ⟨⟨h1, h2⟩, h3⟩
    have h4 := hd.2 (by omega)
    refine ⟨by unfold Tm.sz at h1; omega, fun x hx => ?_⟩
    have h5 := h4 x hx
    have h6 := h3 x hx
    have h7 := nodeF_op h6
    simp [fgood, h6, h7]; omega
theorem isVal_fold : ∀ (l : List (Tm × Int)) (b : Bool), (foldE (stp vJ (fun _ x => !vbad x)) b l).2 = l.all fun x => !vbad x
  | [], b => rfl
  | x :: l, b => by
    have e1 : ∀ c, vbad x = c → stp vJ (fun _ x => !vbad x) b x = (!c, !c) := fun c hc => by show (!vbad x, (vJ (!vbad x)).isNone) = _; rw [hc]; cases c <;> rfl
    rw [foldE, List.all_cons]
    cases hv : vbad x with
    | false => rw [e1 _ hv]; simp [isVal_fold l]
    | true => rw [e1 _ hv]; simp
theorem isValF_eq {s : TSig} {t : Tm} (h : termF s t = true) : isValF t = valueF t := by
  rw [isValF, isVal_fold, valueF_pre t 1, Bool.eq_iff_iff]
  simp only [termF, Bool.and_eq_true, nodesF_pre s t 1, List.all_eq_true] at h
  simp only [List.all_eq_true]
  refine forall_congr' fun x => forall_congr' fun hx => ?_
  have := nodeF_op (h.2 x hx)
  simp [inB] at this
  simp [vbad]
  omega
theorem rightF_eq (s : TSig) (l : List Tm) : rightF s l = givenF s l := by
  unfold rightF givenF; congr 2; funext t; exact formedF_eq s t
theorem cmpI_anti (a b : Int) : cmpI b a = - cmpI a b := by simp only [cmpI]; split <;> split <;> (try split) <;> omega
theorem cmpI_zero {a b : Int} : cmpI a b = 0 ↔ a = b := by simp only [cmpI]; split <;> (try split) <;> omega
theorem cmpI_bd (a b : Int) : -1 ≤ cmpI a b ∧ cmpI a b ≤ 1 := by simp only [cmpI]; split <;> (try split) <;> omega
theorem cmpI_le {a b : Int} : cmpI a b ≤ 0 ↔ a ≤ b := by simp only [cmpI]; split <;> (try split) <;> omega
theorem rk_anti (a b : Tm) (k : Nat) : rk b a k = - rk a b k := cmpI_anti _ _
theorem ite_bd {c : Prop} [Decidable c] {x y : Int} (hx : -1 ≤ x ∧ x ≤ 1) (hy : -1 ≤ y ∧ y ≤ 1) : -1 ≤ (if c then x else y) ∧ (if c then x else y) ≤ 1 := by split <;> assumption
theorem compF_bd : ∀ a b : Tm, -1 ≤ compF a b ∧ compF a b ≤ 1 := by
  refine Tm.ind' fun a ih b => ?_
  have hs : ∀ l l' : List Tm, (∀ x ∈ l, x ∈ a.kids) → -1 ≤ compsF l l' ∧ compsF l l' ≤ 1 := by
    intro l
    induction l with
    | nil => intro l' _; simp [compsF]
    | cons x l ihl =>
      intro l' hx
      cases l' with
      | nil => simp [compsF]
      | cons y l' =>
        simp only [compsF]
        split
        · exact ih x (hx x (by simp)) y
        · exact ihl l' fun z hz => hx z (by simp [hz])
  rw [compF_eq]
  have := hs a.kids b.kids (fun _ h => h)
  have h0 := cmpI_bd (rankF a 0) (rankF b 0)
  have h1 := cmpI_bd (rankF a 1) (rankF b 1)
  have h2 := cmpI_bd (rankF a 2) (rankF b 2)
  simp only [rk]
  exact ite_bd h0 (ite_bd h1 (ite_bd h2 this))
theorem compF_anti : ∀ a b : Tm, compF b a = - compF a b := by
  refine Tm.ind' fun a ih b => ?_
  have hs : ∀ l l' : List Tm, (∀ x ∈ l, x ∈ a.kids) → compsF l' l = - compsF l l' := by
    intro l
    induction l with
    | nil => intro l' _; cases l' <;> simp [compsF]
    | cons x l ihl =>
      intro l' hx
      cases l' with
      | nil => simp [compsF]
      | cons y l' =>
        simp only [compsF]
        rw [ih x (hx x (by simp)) y, ihl l' fun z hz => hx z (by simp [hz])]
        by_cases h : compF x y = 0
        · simp [h]
        · rw [if_pos h, if_pos (by omega)]
  rw [compF_eq b a, compF_eq a b, hs a.kids b.kids (fun _ h => h), rk_anti a b 0, rk_anti a b 1, rk_anti a b 2]
  by_cases h0 : rk a b 0 = 0
  · by_cases h1 : rk a b 1 = 0
    · by_cases h2 : rk a b 2 = 0
      · simp [h0, h1, h2]
      · simp [h0, h1, h2]
    · simp [h0, h1]
  · simp [h0]
theorem compF_split (a b : Tm) : compF a b = 0 ↔ (a.sz = b.sz ∧ a.op = b.op ∧ a.n = b.n ∧ compsF a.kids b.kids = 0) := by
  have h0 : rk a b 0 = 0 ↔ a.sz = b.sz := by simp only [rk, cmpI_zero, rankF, if_pos]; rw [Tm.sizeI_sz, Tm.sizeI_sz]; omega
  have h1 : rk a b 1 = 0 ↔ a.op = b.op := by simp [rk, cmpI_zero, rankF]
  have h2 : rk a b 2 = 0 ↔ a.n = b.n := by simp [rk, cmpI_zero, rankF]
  rw [compF_eq, ← h0, ← h1, ← h2]
  split
  · simp_all
  · split
    · simp_all
    · split <;> simp_all
theorem compF_zero : ∀ a b : Tm, compF a b = 0 ↔ a = b := by
  refine Tm.ind' fun a ih b => ?_
  have hs : ∀ l l' : List Tm, (∀ x ∈ l, x ∈ a.kids) → szs l = szs l' → (compsF l l' = 0 ↔ l = l') := by
    intro l
    induction l with
    | nil =>
      intro l' _ hz
      cases l' with
      | nil => simp [compsF]
      | cons y l' => rw [szs_cons] at hz; have := Tm.sz_pos y; simp [szs] at hz; omega
    | cons x l ihl =>
      intro l' hx hz
      cases l' with
      | nil => rw [szs_cons] at hz; have := Tm.sz_pos x; simp [szs] at hz; omega
      | cons y l' =>
        simp only [compsF]
        have h1 := ih x (hx x (by simp)) y
        by_cases h : compF x y = 0
        · have e := h1.1 h
          subst e
          rw [szs_cons, szs_cons] at hz
          simp only [h, ne_eq, not_true_eq_false, if_false]
          rw [ihl l' (fun z hz => hx z (by simp [hz])) (by omega)]
          simp
        · rw [if_pos h]
          constructor
          · intro h2; exact absurd h2 h
          · intro h2; injection h2 with h2 h3; exact absurd (h1.2 h2) h
  rw [compF_split]
  constructor
  · rintro ⟨h0, h1, h2, h3⟩
    rw [Tm.sz_eq, Tm.sz_eq] at h0
    have := (hs a.kids b.kids (fun _ h => h) (by omega)).1 h3
    rw [← Tm.eta a, ← Tm.eta b, h1, h2, this]
  · intro e; subst e
    exact ⟨rfl, rfl, rfl, (hs a.kids a.kids (fun _ h => h) rfl).2 rfl⟩
theorem sameF_refl : ∀ a : Tm, sameF a a = true := by
  refine Tm.ind' fun a ih => ?_
  rw [sameF_eq]
  have : samesF a.kids a.kids = true := (samesF_eq _ _ rfl).2 fun i x y hx hy => by
    rw [hx] at hy; injection hy with hy; subst hy; exact ih x (List.mem_of_getElem? hx)
  simp [this]
theorem sameF_iff : ∀ a b : Tm, sameF a b = true ↔ a = b := by
  refine Tm.ind' fun a ih b => ⟨fun h => ?_, fun e => e ▸ sameF_refl _⟩
  rw [sameF_eq] at h
  simp only [Bool.and_eq_true, beq_iff_eq] at h
  obtain ⟨⟨⟨h1, h2⟩, h3⟩, h4⟩ := h
  have h5 := (samesF_eq _ _ h3).1 h4
  have : a.kids = b.kids := by
    apply List.ext_getElem?
    intro i
    cases hx : a.kids[i]? with
    | none => simp at hx; symm; simp; omega
    | some x =>
      have hi := (List.getElem?_eq_some_iff.1 hx).1
      obtain ⟨y, hy⟩ := get_of_lt (l := b.kids) (k := i) (by omega)
      rw [hy, (ih x (List.mem_of_getElem? hx) y).1 (h5 i x y hx hy)]
  rw [← Tm.eta a, ← Tm.eta b, h1, h2, this]
theorem compF_same (a b : Tm) : (compF a b == 0) = sameF a b := by
  rw [Bool.eq_iff_iff, sameF_iff, beq_iff_eq, compF_zero]
theorem compF_trans : ∀ a b c : Tm, compF a b ≤ 0 → compF b c ≤ 0 → compF a c ≤ 0 := by
  refine Tm.ind' fun a ih b c hab hbc => ?_
  have strict : ∀ x y z : Tm, x ∈ a.kids → compF x y ≤ 0 → compF y z ≤ 0 → (compF x y ≠ 0 ∨ compF y z ≠ 0) → compF x z ≤ 0 ∧ compF x z ≠ 0 := by
    intro x y z hx h1 h2 h3
    refine ⟨ih x hx y z h1 h2, fun h4 => ?_⟩
    have e := (compF_zero x z).1 h4
    subst e
    have := compF_anti x y
    omega
  have hs : ∀ l l' l'' : List Tm, (∀ x ∈ l, x ∈ a.kids) → szs l = szs l' → szs l' = szs l'' → compsF l l' ≤ 0 → compsF l' l'' ≤ 0 → compsF l l'' ≤ 0 := by
    intro l
    induction l with
    | nil => intro l' l'' _ _ _ _ _; simp [compsF]
    | cons x l ihl =>
      intro l' l'' hx hz hz' h1 h2
      cases l' with
      | nil => rw [szs_cons] at hz; have := Tm.sz_pos x; simp [szs] at hz; omega
      | cons y l' =>
        cases l'' with
        | nil => simp [compsF]
        | cons z l'' =>
          simp only [compsF] at h1 h2 ⊢
          by_cases e1 : compF x y = 0
          · by_cases e2 : compF y z = 0
            · have f1 := (compF_zero x y).1 e1
              have f2 := (compF_zero y z).1 e2
              subst f1; subst f2
              rw [if_neg (by simp [e1])] at h1 h2 ⊢
              rw [szs_cons, szs_cons] at hz hz'
              exact ihl l' l'' (fun w hw => hx w (by simp [hw])) (by omega) (by omega) h1 h2
            · rw [if_pos e2] at h2
              have := strict x y z (hx x (by simp)) (by omega) h2 (.inr e2)
              rw [if_pos this.2]; exact this.1
          · rw [if_pos e1] at h1
            have h3 : compF y z ≤ 0 := by
              by_cases e2 : compF y z = 0
              · omega
              · rw [if_pos e2] at h2; exact h2
            have := strict x y z (hx x (by simp)) h1 h3 (.inl e1)
            rw [if_pos this.2]; exact this.1
  have key : ∀ (p q r P Q R : Int), cmpI p q ≤ 0 → cmpI q r ≤ 0 → (cmpI p q = 0 → P ≤ 0) → (cmpI q r = 0 → Q ≤ 0) → (cmpI p q = 0 → cmpI q r = 0 → P ≤ 0 → Q ≤ 0 → R ≤ 0) → (if cmpI p r ≠ 0 then cmpI p r else R) ≤ 0 := by
    intro p q r P Q R h1 h2 h3 h4 h5
    have g1 := cmpI_le.1 h1
    have g2 := cmpI_le.1 h2
    have g3 := (cmpI_le (a := p) (b := r)).2 (by omega)
    split
    · exact g3
    · rename_i h
      have : p = r := cmpI_zero.1 (by simpa using h)
      have z1 : cmpI p q = 0 := cmpI_zero.2 (by omega)
      have z2 : cmpI q r = 0 := cmpI_zero.2 (by omega)
      exact h5 z1 z2 (h3 z1) (h4 z2)
  have un : ∀ {p q R : Int}, (if cmpI p q ≠ 0 then cmpI p q else R) ≤ 0 → cmpI p q ≤ 0 ∧ (cmpI p q = 0 → R ≤ 0) := by
    intro p q R h
    split at h
    · rename_i hn; exact ⟨h, fun e => absurd e hn⟩
    · rename_i hn; exact ⟨by simp at hn; omega, fun _ => h⟩
  rw [compF_eq] at hab hbc ⊢
  simp only [rk] at hab hbc ⊢
  have a0 := un hab
  have b0 := un hbc
  refine key _ _ _ _ _ _ a0.1 b0.1 a0.2 b0.2 fun z1 z2 p1 p2 => ?_
  have a1 := un p1
  have b1 := un p2
  refine key _ _ _ _ _ _ a1.1 b1.1 a1.2 b1.2 fun z3 z4 p3 p4 => ?_
  have a2 := un p3
  have b2 := un p4
  refine key _ _ _ _ _ _ a2.1 b2.1 a2.2 b2.2 fun z5 z6 p5 p6 => ?_
  have e1 := cmpI_zero.1 z1
  have e2 := cmpI_zero.1 z2
  simp only [rankF, if_pos] at e1 e2
  rw [Tm.sizeI_sz, Tm.sizeI_sz] at e1 e2
  have s1 := Tm.sz_eq a
  have s2 := Tm.sz_eq b
  have s3 := Tm.sz_eq c
  exact hs _ _ _ (fun _ h => h) (by omega) (by omega) p5 p6
end Go.Proofs.YtealblliddhgiaaGreat
section
namespace Go.Proofs.YtealblliddhgiaaGreat
open Go
def dat1 : Nat → Bool := fun g => !([81, 63, 92, 98, 101, 107, 117, 100, 61, 72, 108, 131, 132, 133, 134, 135, 136, 138, 139, 143, 146, 147, 148, 110, 64, 127, 114, 113, 99] : List Nat).contains g
def cfgK : Cfg Tryz.prog := Cfg.of dat1 [] (fun _ h => by cases h)
theorem known_run : runD Tryz.prog tab cfgK 5000 13 [] = some (.ret [.bool true]) := by kernel_rfl
theorem known : PCt Tryz.prog 13 [] (.ret [.bool true]) := PCt.of_run mix tab_ok known_run
end Go.Proofs.YtealblliddhgiaaGreat
end
namespace Go.Proofs.YtealblliddhgiaaGreat
theorem valuesLF_ok {s : TSig} {a b : Tm} (h : valuesLF s a b = true) : valuesOkF s [a, b] = true := by
  simp only [valuesLF, Bool.and_eq_true] at h
  obtain ⟨⟨h1, h2⟩, h3⟩ := h
  have h4 := h1
  simp only [givenF, Bool.and_eq_true, List.all_cons, List.all_nil, Bool.and_true] at h4
  simp only [valuesOkF, rightF_eq, h1, Bool.true_and, List.all_cons, List.all_nil, Bool.and_true, isValF_eq h4.2.1, isValF_eq h4.2.2, h2, h3]
theorem cmp_ok {s : TSig} (hs : s.Fits) {a b : Tm} (ha : a.Cnt) (hb : b.Cnt) (h : valuesOkF s [a, b] = true) : PCt Tryz.prog 24 [s.d, a.d, b.d] (.ret [.i (compF a b), .i 0]) := by
  have := compare'_c s hs a b ha hb
  rw [h] at this
  simpa [errOf] using this
theorem valuesLF_ac {s : TSig} {a b c : Tm} (h1 : valuesLF s a b = true) (h2 : valuesLF s b c = true) : valuesLF s a c = true ∧ valuesLF s b a = true := by
  simp only [valuesLF, givenF, Bool.and_eq_true, List.all_cons, List.all_nil, Bool.and_true] at h1 h2 ⊢
  simp [h1, h2]
theorem termSorts_c (s : TSig) (hs : s.Fits) (a b c : Tm) (ha : a.fits) (hb : b.fits) (hc : c.fits) : PCt Tryz.prog 6 [s.d, a.d, b.d, c.d] (.ret [.bool true]) := by
  refine PCt.of_ev mix fn6 (by simp) ?_
  rw [c6]
  simp +contextual (disch := first | omega | (simp only [go_sem, false_implies]; done) | fail) only [go_sem, wrap64, if_pos, and_self]
  refine call_keep (smallL_c s hs [a, b, c] (by simp) (by simp [ha, hb, hc])) rfl ?_
  cases h1 : smallLF s [a, b, c] with
  | false =>
    simp +contextual (disch := first | omega | (simp only [go_sem, false_implies]; done) | fail) only [go_sem, wrap64, if_pos, and_self]
    refine call_keep known rfl ?_
    simp +contextual (disch := first | omega | (simp only [go_sem, false_implies]; done) | fail) only [go_sem, wrap64, if_pos, and_self]
  | true =>
    simp only [smallLF, Bool.and_eq_true, List.all_cons, List.all_nil, Bool.and_true] at h1
    have ca := Tm.Cnt.of_small ha h1.1.1
    have cb := Tm.Cnt.of_small hb h1.1.2.1
    have cc := Tm.Cnt.of_small hc h1.1.2.2
    simp +contextual (disch := first | omega | (simp only [go_sem, false_implies]; done) | fail) only [go_sem, wrap64, if_pos, and_self]
    refine call_keep (valuesL_c s hs a b ha hb) rfl ?_
    simp +contextual (disch := first | omega | (simp only [go_sem, false_implies]; done) | fail) only [go_sem, wrap64, if_pos, and_self]
    refine guard_data (callG_intro [.bool (valuesLF s b c)] ?_ ?_)
    · simp +contextual (disch := first | omega | (simp only [go_sem, false_implies]; done) | fail) only [go_sem, wrap64, if_pos, and_self]
      exact fun _ => valuesL_c s hs b c hb hc
    simp +contextual (disch := first | omega | (simp only [go_sem, false_implies]; done) | fail) only [go_sem, wrap64, if_pos, and_self]
    cases h2 : (!valuesLF s a b || !valuesLF s b c) with
    | true =>
      simp +contextual (disch := first | omega | (simp only [go_sem, false_implies]; done) | fail) only [go_sem, wrap64, if_pos, h2]
      refine call_keep known rfl ?_
      simp +contextual (disch := first | omega | (simp only [go_sem, false_implies]; done) | fail) only [go_sem, wrap64, if_pos, and_self]
    | false =>
      simp only [Bool.or_eq_false_iff, Bool.not_eq_false'] at h2
      obtain ⟨v1, v2⟩ := h2
      obtain ⟨v3, v4⟩ := valuesLF_ac v1 v2
      simp +contextual (disch := first | omega | (simp only [go_sem, false_implies]; done) | fail) only [go_sem, wrap64, if_pos, v1, v2]
      refine call_keep (cmp_ok hs ca cb (valuesLF_ok v1)) rfl ?_
      simp +contextual (disch := first | omega | (simp only [go_sem, false_implies]; done) | fail) only [go_sem, wrap64, if_pos, and_self]
      refine call_keep (cmp_ok hs cb ca (valuesLF_ok v4)) rfl ?_
      simp +contextual (disch := first | omega | (simp only [go_sem, false_implies]; done) | fail) only [go_sem, wrap64, if_pos, and_self]
      refine call_keep (cmp_ok hs cb cc (valuesLF_ok v2)) rfl ?_
      simp +contextual (disch := first | omega | (simp only [go_sem, false_implies]; done) | fail) only [go_sem, wrap64, if_pos, and_self]
      refine call_keep (cmp_ok hs ca cc (valuesLF_ok v3)) rfl ?_
      simp +contextual (disch := first | omega | (simp only [go_sem, false_implies]; done) | fail) only [go_sem, wrap64, if_pos, and_self]
      have hbd := compF_bd a b
      have hba := compF_anti a b
      have hsame := same_c a ha b hb
      rw [← compF_same] at hsame
      refine guard_data (callG_intro [.bool (compF a b == 0)] ?_ ?_)
      · simp +contextual (disch := first | omega | (simp only [go_sem, false_implies]; done) | fail) only [go_sem, wrap64, if_pos, and_self]
        exact fun _ => hsame
      simp +contextual (disch := first | omega | (simp only [go_sem, false_implies]; done) | fail) only [go_sem, wrap64, if_pos, and_self]
      have hcond : (decide (compF a b < -1) || decide (1 < compF a b) || compF b a != -compF a b || (compF a b == 0) != (compF a b == 0)) = false := by
        simp [hba]; omega
      simp +contextual (disch := first | omega | (simp only [go_sem, false_implies]; done) | fail) only [go_sem, wrap64, if_pos, hcond]
      refine guard_data (callG_intro [.bool true] ?_ ?_)
      · simp +contextual (disch := first | omega | (simp only [go_sem, false_implies]; done) | fail) only [go_sem, wrap64, if_pos, and_self]
        exact fun _ => known
      simp +contextual (disch := first | omega | (simp only [go_sem, false_implies]; done) | fail) only [go_sem, wrap64, if_pos, and_self]
      have t1 := compF_trans a b c
      have t2 := compF_trans c b a
      have a1 := compF_anti b c
      have a2 := compF_anti a c
      rw [a1, hba, a2] at t2
      have : ((decide (0 < compF a b) || decide (0 < compF b c) || decide (compF a c ≤ 0)) && (decide (compF a b < 0) || decide (compF b c < 0) || decide (0 ≤ compF a c))) = true := by
        simp; omega
      rw [this]
end Go.Proofs.YtealblliddhgiaaGreat
