/-
  A PART OF THE PROOF (put together by program): several texts, one behind the other. Conditions: none.
-/
import Derived.Test.YtealblliddhgiaaGreatCk33
set_option linter.unusedSimpArgs false
set_option linter.unusedVariables false
namespace Go.Proofs.YtealblliddhgiaaGreat
theorem freeOf_c (t : Tm) (ht : t.fits) (o : Nat → Obj') (nx : Nat) (hg : Good o nx) (K X : V → (Nat → Obj') → Nat → Prop)
    (hK : ∀ o' nx' id l, nx ≤ id → id < nx' → Good o' nx' → (∀ j, j < nx → o' j = o j) → o' id = setO l → l.Nodup → (∀ v, v ∈ l ↔ fvB v t = true) → K (.mp id) o' nx') :
    CtK Tryz.prog 71 [.d t.d] o nx K X := by
  refine CtK.of_ev mix fn71 (by simp) ?_
  rw [c71]
  simp +contextual (disch := first | omega | (simp only [go_sem, false_implies]; done) | fail) only [go_sem, wrap64, if_pos, Nat.add_assoc, Nat.left_eq_add, Nat.add_eq_left, Nat.add_left_cancel_iff]
  refine call_heap (free_c t ht _ _ (nx + 2) [] ?_ ?_ List.nodup_nil _ _ fun o2 n2 l m1 m2 m3 m4 m5 => ?_)
  · exact (by repeat (first | exact hg.mono (by omega) | exact Good.nil | refine Good.upd ?_ (by omega) rfl | refine Good.upd ?_ (by omega) (hLr _ _ _ (by omega)) | refine Good.upd ?_ (by omega) (by simp [Obj'.refs, V.refss, V.refs] <;> omega)))
  · (repeat (first | rfl | rw [upd_same] | rw [upd_ne _ _ _ _ (by omega)]))
  simp +contextual (disch := first | omega | (simp only [go_sem, false_implies]; done) | fail) only [go_sem, wrap64, if_pos, and_self]
  refine hK _ _ (nx + 2) l ?_ ?_ ?_ (fun j hj => ?_) m4 m5.1 (fun v => ?_)
  · omega
  · omega
  · exact m2.mono (by omega)
  · rw [m3 j (by omega) (by omega)]; (repeat (first | rfl | rw [upd_same] | rw [upd_ne _ _ _ _ (by omega)]))
  · have := m5.2 v
    simpa using this
def putF : List Int → Int → List Int
  | [], n => [n]
  | x :: l, n => if x < n then x :: putF l n else if x = n then x :: l else n :: x :: l
def kidF (op n : Int) (i : Nat) (l out : List Int) : List Int := l.foldl (fun out v => if (op != 8 || (i : Int) != 1 || v != n) = true then putF out v else out) out
mutual
def varsF : Tm → List Int
  | .mk op n kids => if op = 1 then [n] else varssF op n kids 0 []
def varssF (op n : Int) : List Tm → Nat → List Int → List Int
  | [], _, out => out
  | k :: l, i, out => varssF op n l (i + 1) (kidF op n i (varsF k) out)
end
theorem varsF_eq (t : Tm) : varsF t = if t.op = 1 then [t.n] else varssF t.op t.n t.kids 0 [] := by cases t; rfl
theorem mem_putF : ∀ (l : List Int) (n v : Int), v ∈ putF l n ↔ v ∈ l ∨ v = n
  | [], n, v => by simp [putF]
  | x :: l, n, v => by
    simp only [putF]
    split
    · simp only [List.mem_cons, mem_putF l n v]; constructor
      · rintro (h | h | h)
        · exact .inl (.inl h)
        · exact .inl (.inr h)
        · exact .inr h
      · rintro ((h | h) | h)
        · exact .inl h
        · exact .inr (.inl h)
        · exact .inr (.inr h)
    · split
      · rename_i h; subst h; simp only [List.mem_cons]; constructor
        · exact .inl
        · rintro (h | h)
          · exact h
          · exact .inl h
      · simp only [List.mem_cons]; constructor
        · rintro (h | h)
          · exact .inr h
          · exact .inl h
        · rintro (h | h)
          · exact .inr h
          · exact .inl h
abbrev Inc (l : List Int) : Prop := l.Pairwise (· < ·)
theorem inc_putF : ∀ {l : List Int} (n : Int), Inc l → Inc (putF l n)
  | [], n, _ => by simp [putF]
  | x :: l, n, h => by
    have h1 := List.pairwise_cons.1 h
    simp only [putF]
    split
    · rename_i hx
      refine List.pairwise_cons.2 ⟨fun y hy => ?_, inc_putF n h1.2⟩
      rcases (mem_putF l n y).1 hy with hy | hy
      · exact h1.1 y hy
      · omega
    · split
      · exact h
      · refine List.pairwise_cons.2 ⟨fun y hy => ?_, h⟩
        rcases List.mem_cons.1 hy with hy | hy
        · omega
        · have := h1.1 y hy; omega
theorem kidF_spec (op n : Int) (i : Nat) : ∀ (l out : List Int), Inc out → Inc (kidF op n i l out) ∧ ∀ v, v ∈ kidF op n i l out ↔ v ∈ out ∨ (v ∈ l ∧ ¬ (op = 8 ∧ i = 1 ∧ n = v))
  | [], out, h => ⟨h, fun v => by simp [kidF]⟩
  | x :: l, out, h => by
    have hk : kidF op n i (x :: l) out = kidF op n i l (if (op != 8 || (i : Int) != 1 || x != n) = true then putF out x else out) := rfl
    rw [hk]
    by_cases hc : (op != 8 || (i : Int) != 1 || x != n) = true
    · rw [if_pos hc]
      have ih := kidF_spec op n i l (putF out x) (inc_putF x h)
      refine ⟨ih.1, fun v => ?_⟩
      rw [ih.2 v, mem_putF, List.mem_cons]
      have hc2 : ¬ (op = 8 ∧ i = 1 ∧ n = x) := by
        rintro ⟨h1, h2, h3⟩; subst h1; subst h2; subst h3; simp at hc
      constructor
      · rintro ((h | h) | h)
        · exact .inl h
        · subst h; exact .inr ⟨.inl rfl, hc2⟩
        · exact .inr ⟨.inr h.1, h.2⟩
      · rintro (h | ⟨h | h, h2⟩)
        · exact .inl (.inl h)
        · exact .inl (.inr h)
        · exact .inr ⟨h, h2⟩
    · rw [if_neg hc]
      have ih := kidF_spec op n i l out h
      refine ⟨ih.1, fun v => ?_⟩
      rw [ih.2 v, List.mem_cons]
      have hc2 : op = 8 ∧ i = 1 ∧ n = x := by simp at hc; exact ⟨hc.1.1, by omega, hc.2.symm⟩
      constructor
      · rintro (h | h)
        · exact .inl h
        · exact .inr ⟨.inr h.1, h.2⟩
      · rintro (h | ⟨h | h, h2⟩)
        · exact .inl h
        · subst h; exact absurd hc2 h2
        · exact .inr ⟨h, h2⟩
theorem varsF_spec : ∀ t : Tm, Inc (varsF t) ∧ ∀ v, v ∈ varsF t ↔ fvB v t = true := by
  refine Tm.ind' fun t ih => ?_
  have hs : ∀ (l : List Tm) (i : Nat) (out : List Int), (∀ k ∈ l, k ∈ t.kids) → Inc out → Inc (varssF t.op t.n l i out) ∧ ∀ v, v ∈ varssF t.op t.n l i out ↔ v ∈ out ∨ fvsB v t.op t.n l i = true := by
    intro l
    induction l with
    | nil => intro i out _ h; exact ⟨h, fun v => by simp [varssF, fvsB]⟩
    | cons k l ihl =>
      intro i out hk h
      have h1 := ih k (hk k (by simp))
      have h2 := kidF_spec t.op t.n i (varsF k) out h
      have h3 := ihl (i + 1) _ (fun x hx => hk x (by simp [hx])) h2.1
      refine ⟨h3.1, fun v => ?_⟩
      show v ∈ varssF t.op t.n l (i + 1) (kidF t.op t.n i (varsF k) out) ↔ _
      rw [h3.2 v, h2.2 v, h1.2 v, fvsB]
      simp only [Bool.or_eq_true, Bool.and_eq_true, Bool.not_eq_true', Bool.and_eq_false_iff, beq_eq_false_iff_ne, ne_eq, not_and]
      have : (∀ (_ : t.op = 8) (_ : i = 1), ¬ t.n = v) ↔ ((¬ t.op = 8 ∨ ¬ i = 1) ∨ ¬ t.n = v) := by
        constructor
        · intro h
          by_cases c1 : t.op = 8
          · by_cases c2 : i = 1
            · exact .inr (h c1 c2)
            · exact .inl (.inr c2)
          · exact .inl (.inl c1)
        · rintro ((h | h) | h) c1 c2
          · exact absurd c1 h
          · exact absurd c2 h
          · exact h
      rw [this]
      constructor
      · rintro ((h | h) | h)
        · exact .inl h
        · exact .inr (.inl h)
        · exact .inr (.inr h)
      · rintro (h | h | h)
        · exact .inl (.inl h)
        · exact .inl (.inr h)
        · exact .inr h
  by_cases h1 : t.op = 1
  · rw [varsF_eq, if_pos h1]
    refine ⟨by simp, fun v => ?_⟩
    rw [fvB_eq, if_pos h1]
    simp only [List.mem_singleton, beq_iff_eq]
    exact eq_comm
  · rw [varsF_eq, if_neg h1]
    have := hs t.kids 0 [] (fun _ h => h) (by simp)
    refine ⟨this.1, fun v => ?_⟩
    rw [this.2 v, fvB_eq, if_neg h1]
    simp
theorem inc_eq : ∀ {l l' : List Int}, Inc l → Inc l' → (∀ v, v ∈ l ↔ v ∈ l') → l = l'
  | [], [], _, _, _ => rfl
  | [], y :: l', _, _, h => by have := (h y).2 (by simp); cases this
  | x :: l, [], _, _, h => by have := (h x).1 (by simp); cases this
  | x :: l, y :: l', h1, h2, h => by
    have g1 := List.pairwise_cons.1 h1
    have g2 := List.pairwise_cons.1 h2
    have e : x = y := by
      rcases List.mem_cons.1 ((h x).1 (by simp)) with e | e
      · exact e
      · rcases List.mem_cons.1 ((h y).2 (by simp)) with e2 | e2
        · exact e2.symm
        · have := g2.1 x e; have := g1.1 y e2; omega
    subst e
    rw [inc_eq g1.2 g2.2 fun v => ?_]
    constructor
    · intro hv
      rcases List.mem_cons.1 ((h v).1 (by simp [hv])) with e | e
      · subst e; exact absurd (g1.1 v hv) (by omega)
      · exact e
    · intro hv
      rcases List.mem_cons.1 ((h v).2 (by simp [hv])) with e | e
      · subst e; exact absurd (g2.1 v hv) (by omega)
      · exact e
theorem sortI_eq {l : List Int} {t : Tm} (hn : l.Nodup) (h : ∀ v, v ∈ l ↔ fvB v t = true) : sortI l = varsF t := by
  have hp : (sortI l).Perm l := List.mergeSort_perm _ _
  have hs : (sortI l).Pairwise (fun a b => decide (a ≤ b) = true) := List.pairwise_mergeSort (fun a b c h1 h2 => by simp at *; omega) (fun a b => by simp; omega) l
  have hnd : (sortI l).Nodup := hp.nodup_iff.2 hn
  refine inc_eq ?_ (varsF_spec t).1 fun v => by rw [hp.mem_iff, h v, (varsF_spec t).2 v]
  exact (hs.and hnd).imp fun {a b} h => by have := h.1; have := h.2; simp at *; omega
theorem erase_perm {α : Type} {l : List α} {i : Nat} {n : α} (h : l[i]? = some n) : (n :: l.eraseIdx i).Perm l := by
  obtain ⟨hi, e⟩ := List.getElem?_eq_some_iff.1 h
  have hsp : l = l.take i ++ n :: l.drop (i + 1) := by rw [← e, List.getElem_cons_drop, List.take_append_drop]
  rw [List.eraseIdx_eq_take_drop_succ]
  conv => rhs; rw [hsp]
  exact List.perm_middle.symm
theorem len_putF : ∀ (l : List Int) (n : Int), (putF l n).length ≤ l.length + 1
  | [], n => by simp [putF]
  | x :: l, n => by
    have := len_putF l n
    simp only [putF]
    split
    · simp; omega
    · split <;> simp
theorem len_kidF (op n : Int) (i : Nat) : ∀ (l out : List Int), (kidF op n i l out).length ≤ out.length + l.length
  | [], out => by simp [kidF]
  | x :: l, out => by
    have hk : kidF op n i (x :: l) out = kidF op n i l (if (op != 8 || (i : Int) != 1 || x != n) = true then putF out x else out) := rfl
    rw [hk]
    have h1 := len_putF out x
    split
    · have := len_kidF op n i l (putF out x); simp; omega
    · have := len_kidF op n i l out; simp; omega
theorem varsF_len : ∀ t : Tm, (varsF t).length ≤ t.sz := by
  refine Tm.ind' fun t ih => ?_
  have hs : ∀ (l : List Tm) (i : Nat) (out : List Int), (∀ k ∈ l, k ∈ t.kids) → (varssF t.op t.n l i out).length ≤ out.length + szs l := by
    intro l
    induction l with
    | nil => intro i out _; simp [varssF]
    | cons k l ihl =>
      intro i out hk
      have h1 := ih k (hk k (by simp))
      have h2 := len_kidF t.op t.n i (varsF k) out
      have h3 := ihl (i + 1) (kidF t.op t.n i (varsF k) out) (fun x hx => hk x (by simp [hx]))
      rw [szs_cons]
      show (varssF t.op t.n l (i + 1) (kidF t.op t.n i (varsF k) out)).length ≤ _
      omega
  rw [varsF_eq, Tm.sz_eq]
  split
  · simp
  · have := hs t.kids 0 [] (fun _ h => h); simp at this; omega
theorem rightF_sz {s : TSig} {l : List Tm} (h : rightF s l = true) : ∀ t ∈ l, t.sz ≤ 40 ∧ t.hgt ≤ 12 := by
  intro t ht
  rw [rightF_eq] at h
  simp only [givenF, Bool.and_eq_true, List.all_eq_true, termF, decide_eq_true_eq, weigh_ge] at h
  have := (h.2 t ht).1
  omega
theorem vars_c (s : TSig) (hs : s.Fits) (t : Tm) (ht : t.Fin) : PCt Tryz.prog 32 [s.d, t.d] (.ret [.sl (if rightF s [t] = true then (varsF t).map .i else []), .i (errOf (rightF s [t]))]) := by
  refine PCt.of_ev mix fn32 (by simp) ?_
  rw [c32]
  simp +contextual (disch := first | omega | (simp only [go_sem, false_implies]; done) | fail) only [go_sem, wrap64, if_pos, and_self]
  refine call_keep (right_c s hs [t] (by simp) (fun x hx => by simp at hx; subst hx; exact ht)) rfl ?_
  cases h1 : rightF s [t] with
  | false => simp +contextual (disch := first | omega | (simp only [go_sem, false_implies]; done) | fail) only [go_sem, wrap64, if_pos, and_self]; simp [errOf]
  | true =>
    simp +contextual (disch := first | omega | (simp only [go_sem, false_implies]; done) | fail) only [go_sem, wrap64, if_pos, and_self]
    refine call_heap (freeOf_c t ht.fits _ _ (by repeat (first | exact hg.mono (by omega) | exact Good.nil | refine Good.upd ?_ (by omega) rfl | refine Good.upd ?_ (by omega) (hLr _ _ _ (by omega)) | refine Good.upd ?_ (by omega) (by simp [Obj'.refs, V.refss, V.refs] <;> omega))) _ _ fun o2 n2 id l m1 m2 m3 m4 m5 m6 m7 => ?_)
    have w1 : id ≠ n2 := by omega
    have w2 : ∀ k, id ≠ n2 + k := fun k => by omega
    simp +contextual (disch := first | omega | (simp only [go_sem, false_implies]; done) | fail) only [go_sem, wrap64, if_pos, m5, w1, w2, Nat.add_assoc, Nat.left_eq_add, Nat.add_eq_left, Nat.add_left_cancel_iff]
    have hsrt := sortI_eq m6 m7
    have hlen : l.length ≤ 40 := by
      have e1 : (sortI l).length = l.length := List.length_mergeSort l
      have e2 := varsF_len t
      have e3 := (rightF_sz h1 t (by simp)).1
      rw [← hsrt] at e2; omega
    refine loop_fam (fun i : List Int × List Int × Option (D × D) => ⟨envJ [.junk, .junk, .junk, .junk, .junk, .junk, .osl (n2 + 1) 0, .junk, .junk, .junk, .junk, .junk, .junk, .junk, .junk, .ptr n2 0], upd (upd (fun _ => .no) n2 (.mit (enc (D.int .i64) (setI i.1)) i.2.2)) (n2 + 1) (.arr 0 3 1 (i.2.1.map .i)), n2 + 2⟩)
      (fun i => i.1.length + i.2.1.length ≤ 40 ∧ (i.2.1 ++ i.1).Perm l) (fun i => i.1.length) (l, [], none) ⟨by simpa using hlen, by simp⟩ (SLe.see1 (fun _ => False) .nils (n2 + 1) _ (by omega) (fun j hj => ?_) (by dsimp only; (repeat (first | rfl | rw [upd_same] | rw [upd_ne _ _ _ _ (by omega)]))) (.inl ⟨rfl, rfl, by decide⟩) (fun j hj => by dsimp only; (repeat (first | rfl | rw [upd_same] | rw [upd_ne _ _ _ _ (by omega)]))) (fun _ h => h.elim) ?_) ?_
    · dsimp only
      have ne : j ≠ n2 + 1 := by omega
      simp only [upd_apply, ne, if_false]
      split
      · exact seeO_same rfl (by simp [Obj'.refs])
      · exact seeO_no
    · try dsimp only
      (repeat (first | exact seeE_nil | refine seeE_junk ?_ | refine seeE_d rfl ?_ | refine seeE_d (d_int (wrapN (by omega))) ?_ | refine seeE_g 0 rfl rfl rfl ?_ | refine seeE_v rfl (by simp [V.refs, V.refss] <;> first | omega | assumption) ?_ | refine seeE_c rfl (by simp [V.ids] <;> omega) ?_))
    rintro ⟨rest, don, last⟩ ⟨hl, hp⟩
    simp only at hl hp
    simp +contextual (disch := first | omega | (simp only [go_sem, false_implies]; done) | fail) only [go_sem, wrap64, if_pos, and_self]
    refine nextC_set (fun hr => ?_) fun i m hm => ?_
    · subst hr
      simp +contextual (disch := first | omega | (simp only [go_sem, false_implies]; done) | fail) only [go_sem, wrap64, if_pos, Nat.add_assoc, Nat.left_eq_add, Nat.add_eq_left, Nat.add_left_cancel_iff]
      have hp' : don.Perm l := by simpa using hp
      have hsd : sortI don = varsF t := sortI_eq (hp'.nodup_iff.2 m6) fun v => by rw [hp'.mem_iff, m7 v]
      refine call_heap (sort_own sort_enters sort_says (zs := don) (by (repeat (first | rfl | rw [upd_same] | rw [upd_ne _ _ _ _ (by omega)]))) sort_none (by omega) ?_)
      simp +contextual (disch := first | omega | (simp only [go_sem, false_implies]; done) | fail) only [go_sem, wrap64, if_pos, Nat.add_assoc, Nat.left_eq_add, Nat.add_eq_left, Nat.add_left_cancel_iff]
      rw [hsd]
      simp [errOf]
    · have e1 : don.length ≤ 140737488355328 := by omega
      have e2 : don.length * 8 ≤ 140737488355328 := by omega
      have e3 : don.length ≤ 140737488355327 := by omega
      have e4 : (don.length + 1) * 8 ≤ 140737488355328 := by omega
      simp +contextual (disch := first | omega | (simp only [go_sem, false_implies]; done) | fail) only [go_sem, wrap64, if_pos, Nat.add_assoc, Nat.left_eq_add, Nat.add_eq_left, Nat.add_left_cancel_iff, e1, e2, e3, e4]
      obtain ⟨r1, r2⟩ := erase_spec hm
      have hpe : (rest.eraseIdx i).length + 1 = rest.length := r2
      refine nextS_intro (rest.eraseIdx i, don ++ [m], some (.int .i64 m, .bool true)) ⟨by dsimp only; simp; omega, ?_⟩ (by dsimp only; omega) (SLe.see1 (fun j => j = n2 + 1) (.osl (n2 + 1) 1) (n2 + 1) _ (by omega) (fun j hj => ?_) (by dsimp only; (repeat (first | rfl | rw [upd_same] | rw [upd_ne _ _ _ _ (by omega)]))) (.inr ⟨n2 + 1, 1, rfl, rfl, by rw [upd_same, List.map_append]; rfl⟩) (fun j hj => by dsimp only; (repeat (first | rfl | rw [upd_same] | rw [upd_ne _ _ _ _ (by omega)]))) (fun j h h2 => by omega) ?_)
      · dsimp only
        refine List.Perm.trans ?_ hp
        rw [List.append_assoc]
        refine List.Perm.append_left _ ?_
        exact erase_perm hm
      · dsimp only
        have ne : j ≠ n2 + 1 := by omega
        have ne9 : j ≠ n2 + 9 := by omega
        simp only [upd_apply, ne, ne9, if_false]
        split
        · exact seeO_same rfl (by simp [Obj'.refs])
        · exact seeO_no
      · try dsimp only
        (repeat (first | exact seeE_nil | refine seeE_junk ?_ | refine seeE_d rfl ?_ | refine seeE_d (d_int (wrapN (by omega))) ?_ | refine seeE_g 0 rfl rfl rfl ?_ | refine seeE_v rfl (by simp [V.refs, V.refss] <;> first | omega | assumption) ?_ | refine seeE_c rfl (by simp [V.ids] <;> omega) ?_))
end Go.Proofs.YtealblliddhgiaaGreat
namespace Go.Proofs.YtealblliddhgiaaGreat
def gstep (b : Bool) (x : Tm × Int) : Bool := b && x.1.op != 1
def isGrF (t : Tm) : Bool := (pre t 1).all fun x => x.1.op != 1
theorem ground_fold : ∀ (l : List (Tm × Int)) (b : Bool), (foldE (stp (fun _ => none) gstep) b l).1 = (b && l.all fun x => x.1.op != 1)
  | [], b => by simp [foldE]
  | x :: l, b => by
    have e1 : stp (fun _ => (none : Option Jmp)) gstep b x = (gstep b x, true) := rfl
    rw [foldE, e1]
    simp only [if_true]
    rw [ground_fold l, gstep, List.all_cons, Bool.and_assoc]
theorem isValue'_c (s : TSig) (hs : s.Fits) (t : Tm) (ht : t.Fin) : PCt Tryz.prog 40 [s.d, t.d] (.ret [.bool (rightF s [t] && isValF t), .bool (rightF s [t] && isValF t && isGrF t), .i (errOf (rightF s [t]))]) := by
  refine PCt.of_ev mix fn40 (by simp) ?_
  rw [c40]
  simp +contextual (disch := first | omega | (simp only [go_sem, false_implies]; done) | fail) only [go_sem, wrap64, if_pos, and_self]
  refine call_keep (right_c s hs [t] (by simp) (fun x hx => by simp at hx; subst hx; exact ht)) rfl ?_
  cases h1 : rightF s [t] with
  | false => simp +contextual (disch := first | omega | (simp only [go_sem, false_implies]; done) | fail) only [go_sem, wrap64, if_pos, and_self]; simp [errOf]
  | true =>
    simp +contextual (disch := first | omega | (simp only [go_sem, false_implies]; done) | fail) only [go_sem, wrap64, if_pos, Nat.add_assoc, Nat.left_eq_add, Nat.add_eq_left, Nat.add_left_cancel_iff]
    refine call_heap (nodesK_c t _ _ _ _ ?_)
    simp +contextual (disch := first | omega | (simp only [go_sem, false_implies]; done) | fail) only [go_sem, wrap64, if_pos, Nat.add_assoc, Nat.left_eq_add, Nat.add_eq_left, Nat.add_left_cancel_iff]
    refine range_nodes (σ := Bool) t ht.fits ht.hgt [.junk, .junk, .junk, .ptr 1 0, .junk, .junk, .junk, .ptr 10 0] ?_ (by decide) rfl (by repeat (first | exact hg.mono (by omega) | exact Good.nil | refine Good.upd ?_ (by omega) rfl | refine Good.upd ?_ (by omega) (hLr _ _ _ (by omega)) | refine Good.upd ?_ (by omega) (by simp [Obj'.refs, V.refss, V.refs] <;> omega))) (by simp [V.refss, V.refs]) (upd_same _ _ _)
      (fun b => upd (upd (upd (upd (upd (fun _ => .no) 0 (.row s.row)) 1 (.row t.row)) 7 (.arr 0 28 3 [t.d])) 10 (.row [.d (.bool b)])) 13 (.row t.row)) (fun _ => none) gstep (fun _ => True) true trivial rfl (fun id hid => ?_) (fun _ _ _ _ _ _ => trivial) ?_ ?_
    · (repeat (first | exact keptE_nil | refine keptE_junk ?_ | refine keptE_v rfl ?_))
    · rw [upd_upd]
    · intro L hL hLr x hx s' h1 h2 o3 n3 hI hn ho K X hend
      simp only [setP]
      have hg := hI.good
      have q1 : o3 10 = .row [.d (.bool s')] := hI.eq 10 (by omega)
      simp +contextual (disch := first | omega | (simp only [go_sem, false_implies]; done) | fail) only [go_sem, wrap64, if_pos, and_self]
      refine begin_st hL (pd := none) ?_ ?_
      · (repeat (first | rfl | rw [upd_same] | rw [upd_ne _ _ _ _ (by omega)]))
        exact ho
      simp +contextual (disch := first | omega | (simp only [go_sem, false_implies]; done) | fail) only [go_sem, wrap64, if_pos, q1]
      refine hend _ _ _ .busy none (by omega) ⟨(by repeat (first | exact hg.mono (by omega) | exact Good.nil | refine Good.upd ?_ (by omega) rfl | refine Good.upd ?_ (by omega) (hLr _ _ _ (by omega)) | refine Good.upd ?_ (by omega) (by simp [Obj'.refs, V.refss, V.refs] <;> omega))), by omega, fun id hid => ?_⟩ (by (repeat (first | rfl | rw [upd_same] | rw [upd_ne _ _ _ _ (by omega)]))) (fun id h3 h4 => by (repeat (first | rfl | rw [upd_same] | rw [upd_ne _ _ _ _ (by omega)])))
      by_cases e : id = 10
      · subst e; (repeat (first | rfl | rw [upd_same] | rw [upd_ne _ _ _ _ (by omega)]))
      · rw [upd_ne _ _ _ _ e]; (repeat (first | rfl | rw [upd_same] | rw [upd_ne _ _ _ _ (by omega)]))
        rw [hI.eq id hid]
        simp only [upd_apply, e, if_false]
    · intro o' n' hI
      have hf := ground_fold (pre t 1) true
      rw [Bool.true_and] at hf
      rw [hf] at hI
      have q0 : o' 1 = .row t.row := hI.eq 1 (by omega)
      have q1 : o' 10 = .row [.d (.bool (isGrF t))] := hI.eq 10 (by omega)
      simp only [jmpQ]
      simp +contextual (disch := first | omega | (simp only [go_sem, false_implies]; done) | fail) only [go_sem, wrap64, if_pos, q0, q1]
      refine call_keep (isValue_c t ht) rfl ?_
      cases hv : isValF t <;> (simp +contextual (disch := first | omega | (simp only [go_sem, false_implies]; done) | fail) only [go_sem, wrap64, if_pos, q0, q1]; refine end_intro (by decide) ?_; simp +contextual (disch := first | omega | (simp only [go_sem, false_implies]; done) | fail) only [go_sem, wrap64, if_pos, and_self]; simp [errOf])
def pbad (l : List Int) (x : Tm × Int) : Bool := (x.1.op != 1 && x.1.op != 3) || (x.1.op == 1 && l.contains x.1.n)
def pstep (s : List Int × Bool) (x : Tm × Int) : List Int × Bool := (if pbad s.1 x = true then s.1 else if x.1.op = 1 then insI s.1 x.1.n else s.1, !pbad s.1 x)
def pJ (s : List Int × Bool) : Option Jmp := if s.2 = true then none else some .ret
def patF (t : Tm) : Bool := (foldE (stp pJ pstep) ([], true) (pre t 1)).2
theorem isPattern_c (s : TSig) (hs : s.Fits) (t : Tm) (ht : t.Fin) : PCt Tryz.prog 41 [s.d, t.d] (.ret [.bool (rightF s [t] && patF t), .i (errOf (rightF s [t]))]) := by
  refine PCt.of_ev mix fn41 (by simp) ?_
  rw [c41]
  simp +contextual (disch := first | omega | (simp only [go_sem, false_implies]; done) | fail) only [go_sem, wrap64, if_pos, and_self]
  refine call_keep (right_c s hs [t] (by simp) (fun x hx => by simp at hx; subst hx; exact ht)) rfl ?_
  cases h1 : rightF s [t] with
  | false => simp +contextual (disch := first | omega | (simp only [go_sem, false_implies]; done) | fail) only [go_sem, wrap64, if_pos, and_self]; simp [errOf]
  | true =>
    simp +contextual (disch := first | omega | (simp only [go_sem, false_implies]; done) | fail) only [go_sem, wrap64, if_pos, Nat.add_assoc, Nat.left_eq_add, Nat.add_eq_left, Nat.add_left_cancel_iff]
    refine call_heap (nodesK_c t _ _ _ _ ?_)
    simp +contextual (disch := first | omega | (simp only [go_sem, false_implies]; done) | fail) only [go_sem, wrap64, if_pos, Nat.add_assoc, Nat.left_eq_add, Nat.add_eq_left, Nat.add_left_cancel_iff]
    refine range_nodes (σ := List Int × Bool) t ht.fits ht.hgt [.junk, .junk, .junk, .junk, .ptr 2 0, .ptr 3 0, .ptr 10 0] ?_ (by decide) rfl (by repeat (first | exact hg.mono (by omega) | exact Good.nil | refine Good.upd ?_ (by omega) rfl | refine Good.upd ?_ (by omega) (hLr _ _ _ (by omega)) | refine Good.upd ?_ (by omega) (by simp [Obj'.refs, V.refss, V.refs] <;> omega))) (by simp [V.refss, V.refs]) (upd_same _ _ _)
      (fun b => upd (upd (upd (upd (upd (upd (upd (upd (fun _ => .no) 0 (.row s.row)) 1 (.row t.row)) 2 (.row [.d (.bool false)])) 3 (.row [.d (.i 0)])) 6 (.arr 0 28 3 [t.d])) 10 (.row [.mp 9])) 13 (.row t.row)) 9 (setO b.1)) pJ pstep (fun _ => True) ([], true) trivial rfl (fun id hid => ?_) (fun _ _ _ _ _ _ => trivial) ?_ ?_
    · (repeat (first | exact keptE_nil | refine keptE_junk ?_ | refine keptE_v rfl ?_))
    · exact (by simp only [upd] <;> ((repeat' split) <;> first | rfl | omega | (subst_vars; first | rfl | assumption | (symm; assumption) | omega | (simp_all; done))))
    · intro L hL hLr x hx s' h1 h2 o3 n3 hI hn ho K X hend
      simp only [setP]
      have hg := hI.good
      have q1 : o3 10 = .row [.mp 9] := hI.eq 10 (by omega)
      have q2 : o3 9 = setO s'.1 := hI.eq 9 (by omega)
      have q3 : o3 2 = .row [.d (.bool false)] := hI.eq 2 (by omega)
      have q4 : o3 3 = .row [.d (.i 0)] := hI.eq 3 (by omega)
      simp +contextual (disch := first | omega | (simp only [go_sem, false_implies]; done) | fail) only [go_sem, wrap64, if_pos, and_self]
      refine begin_st hL (pd := none) ?_ ?_
      · (repeat (first | rfl | rw [upd_same] | rw [upd_ne _ _ _ _ (by omega)]))
        exact ho
      simp +contextual (disch := first | omega | (simp only [go_sem, false_implies]; done) | fail) only [go_sem, wrap64, if_pos, q1, q2]
      have hv : pbad s'.1 x = ((x.1.op != 1 && x.1.op != 3) || (x.1.op == 1 && s'.1.contains x.1.n)) := rfl
      rw [← hv]
      have same : ∀ (o' : Nat → Obj') (n' : Nat) (l : List Int), Good o' n' → n3 ≤ n' → (∀ id, id < 17 → o' id = upd o3 9 (setO l) id) → HInv 17 (upd (upd (upd (upd (upd (upd (upd (upd (fun _ => .no) 0 (.row s.row)) 1 (.row t.row)) 2 (.row [.d (.bool false)])) 3 (.row [.d (.i 0)])) 6 (.arr 0 28 3 [t.d])) 10 (.row [.mp 9])) 13 (.row t.row)) 9 (setO l)) o' n' := fun o' n' l k1 k2 k3 => ⟨k1, by have := hI.le; omega, fun id hid => by
        rw [k3 id hid]
        by_cases e : id = 9
        · subst e; rw [upd_same, upd_same]
        · rw [upd_ne _ _ _ _ e, upd_ne _ _ _ _ e, hI.eq id hid, upd_ne _ _ _ _ e]⟩
      cases hb : pbad s'.1 x with
      | true =>
        have hp : pstep s' x = (s'.1, false) := by simp [pstep, hb]
        rw [hp] at hend
        simp +contextual (disch := first | omega | (simp only [go_sem, false_implies]; done) | fail) only [go_sem, wrap64, if_pos, q3, q4]
        refine hend _ _ _ .busy none (by omega) (same _ _ _ (by repeat (first | exact hg.mono (by omega) | exact Good.nil | refine Good.upd ?_ (by omega) rfl | refine Good.upd ?_ (by omega) (hLr _ _ _ (by omega)) | refine Good.upd ?_ (by omega) (by simp [Obj'.refs, V.refss, V.refs] <;> omega))) (by omega) fun id hid => ?_) (by (repeat (first | rfl | rw [upd_same] | rw [upd_ne _ _ _ _ (by omega)]))) (fun id h3 h4 => by (repeat (first | rfl | rw [upd_same] | rw [upd_ne _ _ _ _ (by omega)])))
        by_cases e9 : id = 9
        · subst e9; (repeat (first | rfl | rw [upd_same] | rw [upd_ne _ _ _ _ (by omega)]))
          exact q2
        · by_cases e2 : id = 2
          · subst e2; (repeat (first | rfl | rw [upd_same] | rw [upd_ne _ _ _ _ (by omega)]))
            exact q3.symm
          · by_cases e3 : id = 3
            · subst e3; (repeat (first | rfl | rw [upd_same] | rw [upd_ne _ _ _ _ (by omega)]))
              exact q4.symm
            · (repeat (first | rfl | rw [upd_same] | rw [upd_ne _ _ _ _ (by omega)]))
      | false =>
        simp +contextual (disch := first | omega | (simp only [go_sem, false_implies]; done) | fail) only [go_sem, wrap64, if_pos, q1, q2]
        refine cond_intro (fun h3 => ?_) (fun h3 => ?_)
        · have h3' : x.1.op = 1 := by simpa using h3
          have hp : pstep s' x = (insI s'.1 x.1.n, true) := by simp [pstep, hb, h3']
          rw [hp] at hend
          simp +contextual (disch := first | omega | (simp only [go_sem, false_implies]; done) | fail) only [go_sem, wrap64, if_pos, q1, q2]
          refine hend _ _ _ .busy none (by omega) (same _ _ _ (by repeat (first | exact hg.mono (by omega) | exact Good.nil | refine Good.upd ?_ (by omega) rfl | refine Good.upd ?_ (by omega) (hLr _ _ _ (by omega)) | refine Good.upd ?_ (by omega) (by simp [Obj'.refs, V.refss, V.refs] <;> omega))) (by omega) fun id hid => ?_) (by (repeat (first | rfl | rw [upd_same] | rw [upd_ne _ _ _ _ (by omega)]))) (fun id h3 h4 => by (repeat (first | rfl | rw [upd_same] | rw [upd_ne _ _ _ _ (by omega)])))
          by_cases e9 : id = 9
          · subst e9; (repeat (first | rfl | rw [upd_same] | rw [upd_ne _ _ _ _ (by omega)]))
          · (repeat (first | rfl | rw [upd_same] | rw [upd_ne _ _ _ _ (by omega)]))
        · have h3' : ¬ x.1.op = 1 := by simpa using h3
          have hp : pstep s' x = (s'.1, true) := by simp [pstep, hb, h3']
          rw [hp] at hend
          simp +contextual (disch := first | omega | (simp only [go_sem, false_implies]; done) | fail) only [go_sem, wrap64, if_pos, and_self]
          refine hend _ _ _ .busy none (by omega) (same _ _ _ (by repeat (first | exact hg.mono (by omega) | exact Good.nil | refine Good.upd ?_ (by omega) rfl | refine Good.upd ?_ (by omega) (hLr _ _ _ (by omega)) | refine Good.upd ?_ (by omega) (by simp [Obj'.refs, V.refss, V.refs] <;> omega))) (by omega) fun id hid => ?_) (by (repeat (first | rfl | rw [upd_same] | rw [upd_ne _ _ _ _ (by omega)]))) (fun id h3 h4 => by (repeat (first | rfl | rw [upd_same] | rw [upd_ne _ _ _ _ (by omega)])))
          by_cases e9 : id = 9
          · subst e9; (repeat (first | rfl | rw [upd_same] | rw [upd_ne _ _ _ _ (by omega)]))
            exact q2
          · (repeat (first | rfl | rw [upd_same] | rw [upd_ne _ _ _ _ (by omega)]))
    · intro o' n' hI
      have hJ := foldE_J pJ pstep (pre t 1) ([], true) rfl
      have hpf : patF t = (pJ (foldE (stp pJ pstep) ([], true) (pre t 1)).1).isNone := hJ
      have q0 : o' 2 = .row [.d (.bool false)] := hI.eq 2 (by omega)
      have q1 : o' 3 = .row [.d (.i 0)] := hI.eq 3 (by omega)
      rw [hpf]
      generalize (foldE (stp pJ pstep) ([], true) (pre t 1)).1 = sf at *
      obtain ⟨l, b⟩ := sf
      cases b <;> (simp only [pJ, if_true, if_false, Bool.false_eq_true, jmpQ]; simp +contextual (disch := first | omega | (simp only [go_sem, false_implies]; done) | fail) only [go_sem, wrap64, if_pos, q0, q1]; simp [errOf])
end Go.Proofs.YtealblliddhgiaaGreat
