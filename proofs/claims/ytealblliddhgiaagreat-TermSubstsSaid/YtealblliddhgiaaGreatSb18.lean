/-
  A PART OF THE PROOF. Conditions: none.
-/
import Derived.Test.YtealblliddhgiaaGreatSb17
set_option linter.unusedSimpArgs false
set_option linter.unusedVariables false
namespace Go.Proofs.YtealblliddhgiaaGreat
theorem argsOf_get {l : List TNm} {n : Int} {x : TNm} (h : l[n.toNat]? = some x) : argsOf l n = x.args := by simp [argsOf, h]
theorem inB_get {l : List TNm} {n : Int} (h : inB n 0 (l.length - 1) = true) : 0 <= n /\ ∃ x, l[n.toNat]? = some x := by
 simp [inB] at h
 exact ⟨h.1, l[n.toNat]'(by omega), by simp⟩
theorem node_c (s : TSig) (t : Tm) (hs : s.Fits) (ht : t.kids.length <= 9223372036854775807) : PCt Tryz.prog 97 [s.d, t.d] (.ret [.bool (nodeF s t)]) := by
 refine PCt.of_ev mix fn97 (by simp) ?_
 rw [c97]
 simp +contextual only [go_sem]
 rcases (by omega : t.op = 1 \/ t.op = 2 \/ t.op = 3 \/ t.op = 4 \/ t.op = 5 \/ t.op = 8 \/ (t.op = 6 \/ t.op = 7 \/ t.op = 9 \/ t.op = 10 \/ t.op = 11 \/ t.op = 12 \/ t.op = 13 \/ t.op = 14 \/ t.op = 15) \/ (t.op < 1 \/ 15 < t.op)) with h | h | h | h | h | h | h | h
 ·have hn : nodeF s t = ((t.kids.length : Int) == 0 && inB t.n 0 19) := by simp [nodeF, h]
  simp +contextual only [go_sem, h]
  refine guard_data (callG_intro [.bool (inB t.n 0 19)] ?_ ?_)
  ·simp +contextual only [go_sem]
   exact fun _ => in_c _ _ _
  simp +contextual only [go_sem, h]
  rw [hn]
 ·have hn : nodeF s t = ((t.kids.length : Int) == 0 && inB t.n (-1000000) 1000000) := by simp [nodeF, h]
  simp +contextual only [go_sem, h]
  refine guard_data (callG_intro [.bool (inB t.n (-1000000) 1000000)] ?_ ?_)
  ·simp +contextual only [go_sem]
   exact fun _ => in_c _ _ _
  simp +contextual only [go_sem, h]
  rw [hn]
 ·have hn : nodeF s t = (inB t.n 0 (s.cons.length - 1) && (t.kids.length : Int) == argsOf s.cons t.n) := by simp [nodeF, h]
  simp +contextual only [go_sem, h]
  rw [wrap64 (by have := hs.lc; omega) (by have := hs.lc; omega)]
  refine call_keep (in_c _ _ _) rfl ?_
  cases hI : inB t.n 0 (s.cons.length - 1) with
  | false =>
    simp +contextual only [go_sem, h, hI]
    rw [hn, hI]; rfl
  | true =>
    obtain ⟨h0, x, hx⟩ := inB_get hI
    simp +contextual only [go_sem, h, hI, hx, h0]
    rw [hn, hI, argsOf_get hx]; rfl
 ·have hn : nodeF s t = (inB t.n 0 (s.funs.length - 1) && (t.kids.length : Int) == argsOf s.funs t.n) := by simp [nodeF, h]
  simp +contextual only [go_sem, h]
  rw [wrap64 (by have := hs.lf; omega) (by have := hs.lf; omega)]
  refine call_keep (in_c _ _ _) rfl ?_
  cases hI : inB t.n 0 (s.funs.length - 1) with
  | false =>
    simp +contextual only [go_sem, h, hI]
    rw [hn, hI]; rfl
  | true =>
    obtain ⟨h0, x, hx⟩ := inB_get hI
    simp +contextual only [go_sem, h, hI, hx, h0]
    rw [hn, hI, argsOf_get hx]; rfl
 ·have hn : nodeF s t = (inB t.n 0 (s.funs.length - 1) && decide ((t.kids.length : Int) < argsOf s.funs t.n)) := by simp [nodeF, h]
  simp +contextual only [go_sem, h]
  rw [wrap64 (by have := hs.lf; omega) (by have := hs.lf; omega)]
  refine call_keep (in_c _ _ _) rfl ?_
  cases hI : inB t.n 0 (s.funs.length - 1) with
  | false =>
    simp +contextual only [go_sem, h, hI]
    rw [hn, hI]; rfl
  | true =>
    obtain ⟨h0, x, hx⟩ := inB_get hI
    simp +contextual only [go_sem, h, hI, hx, h0]
    rw [hn, hI, argsOf_get hx]; rfl
 ·have hn : nodeF s t = ((t.kids.length : Int) == 2 && inB t.n 0 19) := by simp [nodeF, h]
  simp +contextual only [go_sem, h]
  refine guard_data (callG_intro [.bool (inB t.n 0 19)] ?_ ?_)
  ·simp +contextual only [go_sem]
   exact fun _ => in_c _ _ _
  simp +contextual only [go_sem, h]
  rw [hn]
 ·have hn : nodeF s t = ((t.kids.length : Int) == 2 && t.n == 0) := by
   rcases h with h | h | h | h | h | h | h | h | h <;> simp [nodeF, h, inB]
  rw [hn]
  rcases h with h | h | h | h | h | h | h | h | h <;> simp +contextual only [go_sem, h]
 ·have hn : nodeF s t = false := by
   simp [nodeF, inB, show ¬ (t.op = 1) by omega, show ¬ (t.op = 2) by omega, show ¬ (t.op = 3) by omega, show ¬ (t.op = 4) by omega, show ¬ (t.op = 5) by omega, show ¬ (t.op = 8) by omega, show ¬ (6 <= t.op /\ t.op <= 15) by omega]
  have e : ∀ k : Int, 1 <= k -> k <= 15 -> (t.op == k) = false := fun k h1 h2 => by simp; omega
  simp +contextual only [go_sem, e 1 (by omega) (by omega), e 2 (by omega) (by omega), e 3 (by omega) (by omega), e 4 (by omega) (by omega), e 5 (by omega) (by omega), e 6 (by omega) (by omega), e 7 (by omega) (by omega), e 8 (by omega) (by omega), e 9 (by omega) (by omega), e 10 (by omega) (by omega), e 11 (by omega) (by omega), e 12 (by omega) (by omega), e 13 (by omega) (by omega), e 14 (by omega) (by omega), e 15 (by omega) (by omega)]
  rw [hn]
theorem nodesF_eq (s : TSig) (t : Tm) : nodesF s t = (nodeF s t && t.kids.all (nodesF s)) := by
 have : ∀ l : List Tm, nodessF s l = l.all (nodesF s) := fun l => by
  induction l with
  | nil => rfl
  | cons k l ih => simp [nodessF, ih]
 cases t; simp [nodesF, this, Tm.kids]
theorem all_stop {α : Type} {l : List α} {p : α -> Bool} {k : Nat} {x : α} (hx : l[k]? = some x) (h : p x = false) : l.all p = false := by
 rw [List.all_eq_false]; exact ⟨x, List.mem_of_getElem? hx, by rw [h]; exact Bool.false_ne_true⟩
theorem all_snoc {α : Type} {l : List α} {p : α -> Bool} {k : Nat} {x : α} (hx : l[k]? = some x) (h0 : (l.take k).all p = true) (h : p x = true) : (l.take (k + 1)).all p = true := by
 rw [List.take_add_one, hx, List.all_append, h0]; simp [h]
theorem all_done {α : Type} {l : List α} {p : α -> Bool} {k : Nat} (h0 : (l.take k).all p = true) (h : l.length <= k) : l.all p = true := by
 rwa [List.take_of_length_le h] at h0
theorem get_of_lt {α : Type} {l : List α} {k : Nat} (h : k < l.length) : ∃ x, l[k]? = some x := ⟨l[k], by simp [h]⟩
@[reducible] def TSig.row (s : TSig) : List V := [.d (.sl (s.cons.map TNm.d)), .d (.sl (s.funs.map TNm.d))]
theorem nodes_c (s : TSig) (hs : s.Fits) : ∀ t : Tm, t.fits -> PCt Tryz.prog 59 [s.d, t.d] (.ret [.bool (nodesF s t)]) := by
 refine Tm.ind' fun t ih hf => ?_
 have hf' := (Tm.fits_iff _).1 hf
 refine PCt.of_ev mix fn59 (by simp) ?_
 rw [c59]
 simp +contextual only [go_sem]
 refine call_keep (node_c s t hs hf'.1) rfl ?_
 simp +contextual only [go_sem]
 rw [nodesF_eq]
 refine cond_intro (fun h1 => ?_) (fun h1 => ?_)
 ·simp +contextual only [go_sem]
  simp at h1; simp [h1]
 ·simp at h1
  rw [h1, Bool.true_and]
  simp +contextual only [go_sem]
  refine loop_fam (fun k : Nat => ⟨envJ [.junk, .junk, .ptr 0 0, .ptr 1 0, .junk, .d (.i k)], twoRow s.row t.row, 2⟩)
   (fun k => k <= t.kids.length /\ (t.kids.take k).all (nodesF s) = true) (fun k => t.kids.length - k) 0 ⟨Nat.zero_le _, by simp⟩ (SLe.d2 _ (twoRow_good rfl rfl) (by omega) rfl rfl ?_) (fun k hk => ?_)
  ·(repeat (first | exact backE_nil | refine backE_junk ?_ | refine backE_d rfl ?_ | refine backE_d (d_int (wrapN (by omega))) ?_ | refine backE_v rfl (by simp [V.refs, V.refss] <;> first | omega | assumption) ?_))
  simp +contextual only [go_sem]
  refine cond_intro (fun h2 => ?_) (fun h2 => ?_)
  ·simp at h2
   obtain ⟨x, hx⟩ := get_of_lt h2
   have hxm := List.mem_of_getElem? hx
   simp +contextual only [go_sem, hx]
   refine callD_keep (ih x hxm (hf'.2 x hxm)) rfl ?_
   simp +contextual only [go_sem]
   refine end_intro (by decide) ?_
   simp +contextual only [go_sem]
   refine cond_intro (fun h3 => ?_) (fun h3 => ?_)
   ·simp +contextual only [go_sem]
    simp at h3
    rw [all_stop hx h3]
   ·simp +contextual only [go_sem]
    simp at h3
    refine nextS_intro (k + 1) ⟨h2, all_snoc hx hk.2 h3⟩ (by omega) (SLe.d2 _ (twoRow_good rfl rfl) (by omega) rfl rfl ?_)
    (repeat (first | exact backE_nil | refine backE_junk ?_ | refine backE_d rfl ?_ | refine backE_d (d_int (wrapN (by omega))) ?_ | refine backE_v rfl (by simp [V.refs, V.refss] <;> first | omega | assumption) ?_))
  ·simp +contextual only [go_sem]
   simp at h2
   rw [all_done hk.2 h2]
theorem term_c (s : TSig) (hs : s.Fits) (t : Tm) (hf : t.fits) : PCt Tryz.prog 19 [s.d, t.d] (.ret [.bool (termF s t)]) := by
 refine PCt.of_ev mix fn19 (by simp) ?_
 rw [c19]
 simp +contextual only [go_sem]
 refine call_keep (weigh_c t hf 40 12 (by omega) (by omega)) rfl ?_
 simp +contextual only [go_sem]
 refine guard_data (callG_intro [.bool (nodesF s t)] ?_ ?_)
 ·simp +contextual only [go_sem]
  exact fun _ => nodes_c s hs t hf
 simp +contextual only [go_sem]
 rfl
theorem samesF_eq : ∀ l l' : List Tm, l.length = l'.length -> (samesF l l' = true ↔ ∀ (i : Nat) (x y : Tm), l[i]? = some x -> l'[i]? = some y -> sameF x y = true)
 | [], l', _ => by simp [samesF]
 | k :: l, k' :: l', h => by
   simp only [samesF, Bool.and_eq_true]
   rw [samesF_eq l l' (by simpa using h)]
   constructor
   ·rintro ⟨h1, h2⟩ i x y hx hy
    cases i with
    | zero => simp at hx hy; subst hx; subst hy; exact h1
    | succ i => exact h2 i x y (by simpa using hx) (by simpa using hy)
   ·intro h3
    exact ⟨h3 0 k k' rfl rfl, fun i x y hx hy => h3 (i + 1) x y (by simpa using hx) (by simpa using hy)⟩
 | _ :: _, [], h => by simp at h
theorem sameF_eq (a b : Tm) : sameF a b = (a.op == b.op && a.n == b.n && a.kids.length == b.kids.length && samesF a.kids b.kids) := by cases a; cases b; simp [sameF, Tm.op, Tm.n, Tm.kids]
theorem same_c : ∀ a : Tm, a.fits -> ∀ b : Tm, b.fits -> PCt Tryz.prog 21 [a.d, b.d] (.ret [.bool (sameF a b)]) := by
 refine Tm.ind' fun t ih hf b hb => ?_
 have hf' := (Tm.fits_iff _).1 hf
 have hb' := (Tm.fits_iff _).1 hb
 refine PCt.of_ev mix fn21 (by simp) ?_
 rw [c21, sameF_eq]
 simp +contextual only [go_sem]
 refine cond_intro (fun h1 => ?_) (fun h1 => ?_)
 ·simp +contextual only [go_sem]
  have : (t.op == b.op && t.n == b.n && t.kids.length == b.kids.length) = false := by
   rw [Bool.eq_false_iff]
   intro h
   simp at h
   simp [h] at h1
  rw [this]; rfl
 ·have h1' : t.op = b.op /\ t.n = b.n /\ t.kids.length = b.kids.length := by
   simp at h1
   refine ⟨h1.1.1, h1.1.2, by have := h1.2; omega⟩
  rw [show (t.op == b.op && t.n == b.n && t.kids.length == b.kids.length) = true by simp [h1'], Bool.true_and]
  have hl := h1'.2.2
  simp +contextual only [go_sem]
  refine loop_fam (fun k : Nat => ⟨envJ [.junk, .junk, .ptr 0 0, .ptr 1 0, .junk, .d (.i k)], twoRow t.row b.row, 2⟩)
   (fun k => k <= t.kids.length /\ ∀ i, i < k -> ∀ x y, t.kids[i]? = some x -> b.kids[i]? = some y -> sameF x y = true) (fun k => t.kids.length - k) 0 ⟨Nat.zero_le _, fun i h => by omega⟩ (SLe.d2 _ (twoRow_good rfl rfl) (by omega) rfl rfl ?_) (fun k hk => ?_)
  ·(repeat (first | exact backE_nil | refine backE_junk ?_ | refine backE_d rfl ?_ | refine backE_d (d_int (wrapN (by omega))) ?_ | refine backE_v rfl (by simp [V.refs, V.refss] <;> first | omega | assumption) ?_))
  simp +contextual only [go_sem]
  refine cond_intro (fun h2 => ?_) (fun h2 => ?_)
  ·simp at h2
   obtain ⟨x, hx⟩ := get_of_lt h2
   obtain ⟨y, hy⟩ := get_of_lt (l := b.kids) (k := k) (by omega)
   have hxm := List.mem_of_getElem? hx
   have hym := List.mem_of_getElem? hy
   simp +contextual only [go_sem, hx, hy]
   refine callD_keep (ih x hxm (hf'.2 x hxm) y (hb'.2 y hym)) rfl ?_
   simp +contextual only [go_sem]
   refine end_intro (by decide) ?_
   simp +contextual only [go_sem]
   refine cond_intro (fun h3 => ?_) (fun h3 => ?_)
   ·simp +contextual only [go_sem]
    simp at h3
    have : samesF t.kids b.kids = false := by
     rw [Bool.eq_false_iff]
     intro h
     have := (samesF_eq _ _ hl).1 h k x y hx hy
     rw [h3] at this; cases this
    rw [this]
   ·simp +contextual only [go_sem]
    simp at h3
    refine nextS_intro (k + 1) ⟨h2, fun i hi u v hu hv => ?_⟩ (by omega) (SLe.d2 _ (twoRow_good rfl rfl) (by omega) rfl rfl ?_)
    ·by_cases e : i = k
     ·subst e
      rw [hx] at hu; rw [hy] at hv
      injection hu with hu; injection hv with hv; subst hu; subst hv; exact h3
     ·exact hk.2 i (by omega) u v hu hv
    ·(repeat (first | exact backE_nil | refine backE_junk ?_ | refine backE_d rfl ?_ | refine backE_d (d_int (wrapN (by omega))) ?_ | refine backE_v rfl (by simp [V.refs, V.refss] <;> first | omega | assumption) ?_))
  ·simp +contextual only [go_sem]
   simp at h2
   have : samesF t.kids b.kids = true := (samesF_eq _ _ hl).2 fun i x y hx hy => hk.2 i (by have := (List.getElem?_eq_some_iff.1 hx).1; omega) x y hx hy
   rw [this]
theorem small_c (t : Tm) (hf : t.fits) : PCt Tryz.prog 20 [t.d] (.ret [.bool (smallF t)]) := by
 refine PCt.of_ev mix fn20 (by simp) ?_
 rw [c20]
 simp +contextual only [go_sem]
 refine call_keep (weigh_c t hf 50 14 (by omega) (by omega)) rfl ?_
 simp +contextual only [go_sem]
 rfl
theorem smallSig_c (s : TSig) (hs : s.Fits) : PCt Tryz.prog 47 [s.d] (.ret [.bool (smallSigF s)]) := by
 refine PCt.of_ev mix fn47 (by simp) ?_
 rw [c47]
 simp +contextual only [go_sem]
 refine cond_intro (fun h1 => ?_) (fun h1 => ?_)
 ·simp +contextual only [go_sem]
  simp only [smallSigF, h1]; rfl
 ·have e : smallSigF s = (smallNm s.cons && smallNm s.funs) := by simp only [smallSigF, h1]; rfl
  rw [e]
  simp at h1
  simp +contextual only [go_sem]
  refine loop_fam (fun k : Nat => ⟨envJ [.junk, .ptr 0 0, .junk, .d (.i k)], oneRow s.row, 1⟩)
   (fun k => k <= s.cons.length /\ smallNm (s.cons.take k) = true) (fun k => s.cons.length - k) 0 ⟨Nat.zero_le _, by simp [smallNm]⟩ (SLe.d1 _ (oneRow_good rfl) (by omega) rfl ?_) (fun k hk => ?_)
  ·(repeat (first | exact backE_nil | refine backE_junk ?_ | refine backE_d rfl ?_ | refine backE_d (d_int (wrapN (by omega))) ?_ | refine backE_v rfl (by simp [V.refs, V.refss] <;> first | omega | assumption) ?_))
  simp +contextual only [go_sem]
  refine cond_intro (fun h2 => ?_) (fun h2 => ?_)
  ·simp at h2
   obtain ⟨x, hx⟩ := get_of_lt h2
   simp +contextual only [go_sem, hx]
   refine cond_intro (fun h3 => ?_) (fun h3 => ?_)
   ·simp +contextual only [go_sem]
    rw [show smallNm s.cons = false from all_stop hx (by simpa using h3)]; rfl
   ·simp +contextual only [go_sem]
    refine nextS_intro (k + 1) ⟨h2, all_snoc hx hk.2 (by simpa using h3)⟩ (by omega) (SLe.d1 _ (oneRow_good rfl) (by omega) rfl ?_)
    (repeat (first | exact backE_nil | refine backE_junk ?_ | refine backE_d rfl ?_ | refine backE_d (d_int (wrapN (by omega))) ?_ | refine backE_v rfl (by simp [V.refs, V.refss] <;> first | omega | assumption) ?_))
  ·simp at h2
   rw [show smallNm s.cons = true from all_done hk.2 h2, Bool.true_and]
   simp +contextual only [go_sem]
   refine loop_fam (fun k : Nat => ⟨envJ [.junk, .ptr 0 0, .junk, .junk, .d (.i k)], oneRow s.row, 1⟩)
    (fun k => k <= s.funs.length /\ smallNm (s.funs.take k) = true) (fun k => s.funs.length - k) 0 ⟨Nat.zero_le _, by simp [smallNm]⟩ (SLe.d1 _ (oneRow_good rfl) (by omega) rfl ?_) (fun k hk => ?_)
   ·(repeat (first | exact backE_nil | refine backE_junk ?_ | refine backE_d rfl ?_ | refine backE_d (d_int (wrapN (by omega))) ?_ | refine backE_v rfl (by simp [V.refs, V.refss] <;> first | omega | assumption) ?_))
   simp +contextual only [go_sem]
   refine cond_intro (fun h4 => ?_) (fun h4 => ?_)
   ·simp at h4
    obtain ⟨x, hx⟩ := get_of_lt h4
    simp +contextual only [go_sem, hx]
    refine cond_intro (fun h3 => ?_) (fun h3 => ?_)
    ·simp +contextual only [go_sem]
     rw [show smallNm s.funs = false from all_stop hx (by simpa using h3)]
    ·simp +contextual only [go_sem]
     refine nextS_intro (k + 1) ⟨h4, all_snoc hx hk.2 (by simpa using h3)⟩ (by omega) (SLe.d1 _ (oneRow_good rfl) (by omega) rfl ?_)
     (repeat (first | exact backE_nil | refine backE_junk ?_ | refine backE_d rfl ?_ | refine backE_d (d_int (wrapN (by omega))) ?_ | refine backE_v rfl (by simp [V.refs, V.refss] <;> first | omega | assumption) ?_))
   ·simp at h4
    rw [show smallNm s.funs = true from all_done hk.2 h4]
    simp +contextual only [go_sem]
end Go.Proofs.YtealblliddhgiaaGreat
namespace Go.Proofs.YtealblliddhgiaaGreat
theorem every_Tm {σ : Type} (l : List Tm) (hl : l.length <= 9223372036854775807) (g : Nat) (caps : List V) (base : Nat) (H : σ -> Nat -> Obj') (step : σ -> Tm -> σ × Bool) (hc : ∀ r ∈ V.refss caps, r < base) (ok : σ -> Prop) (hok : ∀ x ∈ l, ∀ s, ok s -> (step s x).2 = true -> ok (step s x).1)
 (h : ∀ x ∈ l, ∀ s, ok s -> StC Tryz.prog g (.d x.d :: caps) base (H s) (H (step s x).1) (.d (.bool (step s x).2))) (s : σ) (hs0 : ok s) :
 StC Tryz.prog 87 [.d (.sl (l.map Tm.d)), .func (.func g) [] caps] base (H s) (H (foldE step s l).1) (.d (.bool (foldE step s l).2)) := by
 intro o nx hI K X hK
 have hcap : ∀ r ∈ V.refss caps, r < nx := fun r hr => Nat.lt_of_lt_of_le (hc r hr) hI.le
 refine CtK.of_ev mix fn87 (by simp) ?_
 rw [c87]
 simp +contextual only [go_sem]
 refine loop_fam (fun i : Nat × σ × (Nat -> Obj') × Nat => ⟨envJ [.junk, .func (.func g) [] caps, .junk, .junk, .junk, .junk, .junk, .d (.sl (l.map Tm.d)), .d (.i l.length), .d (.i i.1)], i.2.2.1, i.2.2.2⟩)
  (fun i => i.1 <= l.length /\ HInv base (H i.2.1) i.2.2.1 i.2.2.2 /\ nx <= i.2.2.2 /\ (∀ id, base <= id -> id < nx -> i.2.2.1 id = o id) /\ foldE step s l = foldE step i.2.1 (l.drop i.1) /\ ok i.2.1) (fun i => l.length - i.1) (0, s, o, nx)
  ⟨Nat.zero_le _, hI, Nat.le_refl _, fun _ _ _ => rfl, rfl, hs0⟩ ?_ ?_
 ·dsimp only
  refine SLe.backL _ (Nat.le_refl _) (by omega) hI.good (fun _ _ => rfl) ?_
  (repeat (first | exact backE_nil | refine backE_junk ?_ | refine backE_d rfl ?_ | refine backE_d (d_int (wrapN (by omega))) ?_ | refine backE_v rfl (by simp [V.refs, V.refss] <;> first | omega | assumption) ?_))
 rintro ⟨k, s', o', nx'⟩ ⟨hk, hI', hn, hfr, hf, hok'⟩
 simp only at hk hI' hn hfr hf hok'
 simp +contextual only [go_sem]
 refine cond_intro (fun h1 => ?_) (fun h1 => ?_)
 ·simp at h1
  obtain ⟨x, hx⟩ := get_of_lt h1
  have hxm := List.mem_of_getElem? hx
  have hd : l.drop k = x :: l.drop (k + 1) := by
   rw [List.drop_eq_getElem_cons h1]
   rw [List.getElem?_eq_getElem h1] at hx; injection hx with hx; rw [hx]
  simp +contextual only [go_sem, hx, Nat.add_assoc, Nat.left_eq_add, Nat.add_eq_left, Nat.add_left_cancel_iff]
  have hl0 := hI'.le
  refine callS'_heap (h x hxm s' hok' _ _ (?_ : HInv base (H s') _ (nx' + 7)) _ _ fun o2 n2 m1 m2 m3 => ?_)
  ·exact (hI'.upd (i := nx' + 3) (m := nx' + 7) (by omega) (by omega) (by omega) rfl).upd (by omega) (by omega) (by omega) rfl
  have hfr2 : ∀ id, base <= id -> id < nx -> o2 id = o id := fun id h2 h3 => by
   rw [m3 id h2 (by omega), upd_ne _ _ _ _ (by omega), upd_ne _ _ _ _ (by omega), hfr id h2 h3]
  simp +contextual only [go_sem]
  refine cond_intro (fun h2 => ?_) (fun h2 => ?_)
  ·simp +contextual only [go_sem]
   simp at h2
   have : foldE step s l = ((step s' x).1, false) := by rw [hf, hd, foldE, if_neg (by rw [h2]; exact Bool.false_ne_true)]
   rw [this] at hK
   exact hK _ _ (by omega) (m2.mono (by omega)) hfr2
  ·simp +contextual only [go_sem]
   simp at h2
   have : foldE step s l = foldE step (step s' x).1 (l.drop (k + 1)) := by rw [hf, hd, foldE, if_pos h2]
   refine nextS_intro (k + 1, (step s' x).1, o2, n2) ⟨h1, m2, by dsimp only; omega, hfr2, this, hok x hxm s' hok' h2⟩ (by dsimp only; omega) ?_
   dsimp only
   have hcap2 : ∀ r ∈ V.refss caps, r < n2 := fun r hr => by have := hcap r hr; omega
   refine SLe.backL _ (by omega) (by omega) m2.good (fun _ _ => rfl) ?_
   (repeat (first | exact backE_nil | refine backE_junk ?_ | refine backE_d rfl ?_ | refine backE_d (d_int (wrapN (by omega))) ?_ | refine backE_v rfl (by simp [V.refs, V.refss] <;> first | omega | assumption) ?_))
 ·simp +contextual only [go_sem]
  simp at h1
  rw [List.drop_eq_nil_of_le h1] at hf
  simp only [foldE] at hf
  rw [hf] at hK
  exact hK _ _ (by omega) (hI'.mono (by omega)) hfr
theorem foldE_append {α σ : Type} (step : σ -> α -> σ × Bool) (a b : List α) : ∀ s, foldE step s (a ++ b) = if (foldE step s a).2 = true then foldE step (foldE step s a).1 b else ((foldE step s a).1, false) := by
 induction a with
 | nil => intro s; simp [foldE]
 | cons x a ih =>
   intro s
   simp only [List.cons_append, foldE]
   split
   ·exact ih _
   ·rename_i h; simp
theorem foldE_flat {α β σ : Type} (step : σ -> β -> σ × Bool) (f : α -> List β) (l : List α) : ∀ s, foldE step s (l.flatMap f) = foldE (fun s x => foldE step s (f x)) s l := by
 induction l with
 | nil => intro s; rfl
 | cons x l ih => intro s; simp only [List.flatMap_cons, foldE_append, foldE, ih]
theorem foldE_ok {α σ : Type} {step : σ -> α -> σ × Bool} {ok : σ -> Prop} : ∀ (l : List α), (∀ x ∈ l, ∀ s, ok s -> (step s x).2 = true -> ok (step s x).1) -> ∀ s, ok s -> (foldE step s l).2 = true -> ok (foldE step s l).1
 | [], _, s, h, _ => h
 | x :: l, hok, s, h, h2 => by
   simp only [foldE] at h2 ⊢
   split at h2
   ·rename_i hb
    rw [if_pos hb]
    exact foldE_ok l (fun y hy => hok y (by simp [hy])) _ (hok x (by simp) s h hb) h2
   ·cases h2
def RoC (P : Program) (lid : Nat) (args : List V) (base : Nat) (h h2 : Nat -> Obj') (v : V) : Prop :=
 ∀ o nx, HInv base h o nx -> ∀ K X, StK base h2 v o nx K -> RoundK P lid args o nx K X
section
variable {σ : Type} (base lid : Nat) (H : σ -> Nat -> Obj') (step : σ -> Tm × Int -> σ × Bool) (ok : σ -> Prop)
theorem visit_c : ∀ t : Tm, t.fits -> ∀ d : Int, 0 <= d -> d + t.hgt <= 1000000 -> (∀ x ∈ pre t d, ∀ s, ok s -> (step s x).2 = true -> ok (step s x).1) -> (∀ x ∈ pre t d, ∀ s, ok s -> RoC Tryz.prog lid [.d x.1.d, .d (.i x.2)] base (H s) (H (step s x).1) (.d (.bool (step s x).2))) -> lid < base ->
 ∀ (c : Nat) (o0 : Nat -> Obj') (yb vb : Nat), base <= c -> base <= yb -> yb < c -> base <= vb -> vb < c -> o0 yb = .row [.yld lid] -> o0 vb = .row [.func (.func 114) [] [.ptr yb 0, .ptr vb 0]] ->
 ∀ s, ok s -> StC Tryz.prog 114 [.d t.d, .d (.i d), .ptr yb 0, .ptr vb 0] c (ext base (H s) o0) (ext base (H (foldE step s (pre t d)).1) o0) (.d (.bool (foldE step s (pre t d)).2)) := by
 refine Tm.ind' fun t ih hf d hd0 hd hok hR hlid c o0 yb vb hbc hy0 hy hv0 hv oy ov s hs0 => ?_
 have hf' := (Tm.fits_iff _).1 hf
 intro o nx hI K X hK
 have hle := hI.le
 have oy' : o yb = .row [.yld lid] := by rw [hI.eq yb hy]; unfold ext; rw [if_neg (by omega), oy]
 have ov' : o vb = .row [.func (.func 114) [] [.ptr yb 0, .ptr vb 0]] := by rw [hI.eq vb hv]; unfold ext; rw [if_neg (by omega), ov]
 have y1 : yb ≠ nx := by omega
 have y2 : ∀ k, yb ≠ nx + k := fun k => by omega
 have y3 : vb ≠ nx := by omega
 have y4 : ∀ k, vb ≠ nx + k := fun k => by omega
 refine CtK.of_ev mix fn114 (by simp) ?_
 rw [c114]
 simp +contextual only [go_sem, oy', ov', y1, y2, y3, y4, Nat.add_assoc, Nat.left_eq_add, Nat.add_eq_left, Nat.add_left_cancel_iff]
 have hpre := pre_eq t d
 have hsub : ∀ k ∈ t.kids, ∀ x ∈ pre k (d + 1), x ∈ pre t d := fun k hk x hx => by
  rw [hpre]; exact List.mem_cons_of_mem _ (List.mem_flatMap.2 ⟨k, hk, hx⟩)
 have hb : ∀ id, id < base -> o id = H s id := fun id hid => by rw [hI.eq id (by omega)]; unfold ext; rw [if_pos hid]
 have hIb : HInv base (H s) o nx := ⟨hI.good, by omega, hb⟩
 refine callY_intro (hR (t, d) (by rw [hpre]; simp) s hs0 _ _ ((hIb.upd (i := nx) (m := nx + 6) (by omega) (by omega) (by omega) rfl).upd (i := nx + 1) (by omega) (by omega) (by omega) rfl) _ _ fun o2 n2 m1 m2 m3 => ?_)
 have k0 : o2 nx = .row t.row := by rw [m3 nx (by omega) (by omega), upd_ne _ _ _ _ (by omega), upd_same]
 have k1 : o2 (nx + 1) = .row [.d (.i d)] := by rw [m3 (nx + 1) (by omega) (by omega), upd_same]
 have hold : ∀ id, base <= id -> id < nx -> o2 id = o id := fun id h1 h2 => by rw [m3 id h1 (by omega), upd_ne _ _ _ _ (by omega), upd_ne _ _ _ _ (by omega)]
 have hoc : ∀ id, base <= id -> id < c -> o id = o0 id := fun id h1 h2 => by rw [hI.eq id h2]; unfold ext; rw [if_neg (by omega)]
 cases hbv : (step s (t, d)).2 with
 | false =>
   simp +contextual only [go_sem, hbv]
   have hfo : foldE step s (pre t d) = ((step s (t, d)).1, false) := by rw [hpre, foldE, if_neg (by rw [hbv]; exact Bool.false_ne_true)]
   rw [hfo] at hK
   refine hK _ _ (by omega) ⟨m2.good.mono (by omega), by omega, fun id hid => ?_⟩ (fun id h1 h2 => hold id (by omega) h2)
   unfold ext
   split
   ·exact m2.eq id (by assumption)
   ·rw [hold id (by omega) (by omega), hoc id (by omega) hid]
 | true =>
   have hfo : foldE step s (pre t d) = foldE (fun s k => foldE step s (pre k (d + 1))) (step s (t, d)).1 t.kids := by rw [hpre, foldE, if_pos hbv, foldE_flat]
   simp +contextual only [go_sem, hbv, k0, k1]
   have q0 : o2 yb = .row [.yld lid] := by rw [hold yb hy0 (by omega), oy']
   have q1 : o2 vb = .row [.func (.func 114) [] [.ptr yb 0, .ptr vb 0]] := by rw [hold vb hv0 (by omega), ov']
   have m0 := m2.le
   refine callR_heap (every_Tm t.kids hf'.1 115 [.ptr vb 0, .ptr (nx + 1) 0] n2 (fun s => ext base (H s) o2) (fun s k => foldE step s (pre k (d + 1))) ?_ ok ?_ ?_ (step s (t, d)).1 (hok (t, d) (by rw [hpre]; simp) s hs0 hbv) _ _ ?_ _ _ ?_)
   ·simp [V.refss, V.refs]; omega
   ·exact fun k hk s' h1 h2 => foldE_ok _ (fun x hx => hok x (hsub k hk x hx)) s' h1 h2
   ·intro k hk s' hs' o3 n3 hI3 K3 X3 hK3
    have l3 := hI3.le
    have r0 : o3 vb = .row [.func (.func 114) [] [.ptr yb 0, .ptr vb 0]] := by rw [hI3.eq vb (by omega)]; unfold ext; rw [if_neg (by omega), q1]
    have r1 : o3 (nx + 1) = .row [.d (.i d)] := by rw [hI3.eq (nx + 1) (by omega)]; unfold ext; rw [if_neg (by omega), k1]
    have y5 : vb ≠ n3 := by omega
    have y6 : ∀ k, vb ≠ n3 + k := fun k => by omega
    have y7 : nx + 1 ≠ n3 := by omega
    have y8 : ∀ k, nx + 1 ≠ n3 + k := fun k => by omega
    have hh := Tm.hgt_kid hk
    refine CtK.of_ev mix fn115 (by simp) ?_
    rw [c115]
    simp +contextual only [go_sem, r0, r1, y5, y6, y7, y8]
    rw [wrap64 (n := d + 1) (by omega) (by omega)]
    refine callR_heap (ih k hk (hf'.2 k hk) (d + 1) (by omega) (by omega) (fun x hx => hok x (hsub k hk x hx)) (fun x hx => hR x (hsub k hk x hx)) hlid n2 o2 yb vb (by omega) hy0 (by omega) hv0 (by omega) q0 q1 s' hs' _ _ (hI3.upd (i := n3) (m := n3 + 6) (by omega) (by omega) (by omega) rfl) _ _ fun o4 n4 p1 p2 p3 => ?_)
    simp +contextual only [go_sem]
    refine hK3 _ _ (by omega) (p2.mono (by omega)) (fun id h1 h2 => ?_)
    rw [p3 id h1 (by omega), upd_ne _ _ _ _ (by omega)]
   ·exact (m2.mono (by omega)).ext (by omega) (by omega)
   ·intro o5 n5 p1 p2 p3
    simp +contextual only [go_sem]
    rw [<- hfo]
    refine hK _ _ (by omega) ⟨p2.good.mono (by omega), by omega, fun id hid => ?_⟩ (fun id h1 h2 => ?_)
    ·rw [p2.eq id (by omega), <- hfo]
     unfold ext
     split
     ·rfl
     ·rw [hold id (by omega) (by omega), hoc id (by omega) hid]
    ·rw [p2.eq id (by omega)]
     unfold ext
     rw [if_neg (by omega), hold id (by omega) h2]
theorem nodes1_c (t : Tm) (hf : t.fits) (hd : t.hgt <= 900000) (hok : ∀ x ∈ pre t 1, ∀ s, ok s -> (step s x).2 = true -> ok (step s x).1) (hR : ∀ x ∈ pre t 1, ∀ s, ok s -> RoC Tryz.prog lid [.d x.1.d, .d (.i x.2)] base (H s) (H (step s x).1) (.d (.bool (step s x).2))) (hlid : lid < base) (tb : Nat) (htb : tb < base) (s : σ) (hs0 : ok s) (hrow : H s tb = .row t.row) :
 StC Tryz.prog 113 [.yld lid, .ptr tb 0] base (H s) (H (foldE step s (pre t 1)).1) (.tup []) := by
 intro o nx hI K X hK
 have hle := hI.le
 have ot : o tb = .row t.row := by rw [hI.eq tb htb, hrow]
 have y1 : tb ≠ nx := by omega
 have y2 : ∀ k, tb ≠ nx + k := fun k => by omega
 refine CtK.of_ev mix fn113 (by simp) ?_
 rw [c113]
 simp +contextual only [go_sem, ot, y1, y2, Nat.add_assoc, Nat.left_eq_add, Nat.add_eq_left, Nat.add_left_cancel_iff]
 have hI1 : HInv base (H s) (upd (upd (upd o nx (.row [.yld lid])) (nx + 1) (.row [.d .nilf])) (nx + 1) (.row [.func (.func 114) [] [.ptr nx 0, .ptr (nx + 1) 0]])) (nx + 6) := by
  refine ((hI.upd (i := nx) (m := nx + 6) (by omega) (by omega) (by omega) ?_).upd (i := nx + 1) (m := nx + 6) (by omega) (by omega) (by omega) rfl).upd (i := nx + 1) (by omega) (by omega) (by omega) ?_
  ·simp [Obj'.refs, V.refss, V.refs]; omega
  ·simp [Obj'.refs, V.refss, V.refs]
 refine callR_heap (visit_c base lid H step ok t hf 1 (by omega) (by omega) hok hR hlid (nx + 6) _ nx (nx + 1) (by omega) hle (by omega) (by omega) (by omega) ?_ ?_ s hs0 _ _ (hI1.ext (Nat.le_refl _) (by omega)) _ _ ?_)
 ·(repeat (first | rfl | rw [upd_same] | rw [upd_ne _ _ _ _ (by omega)]))
 ·(repeat (first | rfl | rw [upd_same] | rw [upd_ne _ _ _ _ (by omega)]))
 intro o2 n2 m1 m2 m3
 simp +contextual only [go_sem]
 refine hK _ _ (by omega) ⟨m2.good, by omega, fun id hid => ?_⟩ (fun id h1 h2 => ?_)
 ·rw [m2.eq id (by omega)]; unfold ext; rw [if_pos hid]
 ·rw [m2.eq id (by omega)]; unfold ext; rw [if_neg (by omega)]
  (repeat (first | rfl | rw [upd_same] | rw [upd_ne _ _ _ _ (by omega)]))
end
theorem nodesK_c (t : Tm) (o : Nat -> Obj') (nx : Nat) (K X : V -> (Nat -> Obj') -> Nat -> Prop) (h : K (.func (.func 113) [] [.ptr nx 0]) (upd o nx (.row t.row)) (nx + 4)) : CtK Tryz.prog 81 [.d t.d] o nx K X := by
 refine CtK.of_ev mix fn81 (by simp) ?_
 rw [c81]
 simp +contextual only [go_sem]
 exact h
end Go.Proofs.YtealblliddhgiaaGreat
namespace Go.Proofs.YtealblliddhgiaaGreat
def xitOf : Option Jmp -> Xit
 | none => .normal
 | some .ret => .ret
 | some (.exit j) => .exit j
def stp {σ : Type} (J : σ -> Option Jmp) (step : σ -> Tm × Int -> σ) (s : σ) (x : Tm × Int) : σ × Bool := (step s x, (J (step s x)).isNone)
theorem foldE_J {σ : Type} (J : σ -> Option Jmp) (step : σ -> Tm × Int -> σ) : ∀ (l : List (Tm × Int)) (s : σ), J s = none -> (foldE (stp J step) s l).2 = (J (foldE (stp J step) s l).1).isNone
 | [], s, h => by simp [foldE, h]
 | x :: l, s, h => by
   simp only [foldE]
   split
   ·rename_i hb
    exact foldE_J J step l _ (by simpa [stp] using hb)
   ·rename_i hb
    cases hj : J (step s x) with
    | none => exact absurd (by simp [stp, hj]) hb
    | some j => simp [stp, hj]
theorem range_nodes {σ : Type} (t : Tm) (hf : t.fits) (hd : t.hgt <= 900000) {n : Nat} {ps : List Nat} {ica icb : IC} {Q : Xit -> S -> Prop} {e : Nat -> V} {o : Nat -> Obj'} {nx tb : Nat} (env : List V) (he : keptE e env 0)
 (hps : ps.all (fun t => decide (t < n)) = true) (hl : ps.length = 2) (hg : Good o nx) (hrefs : ∀ r ∈ V.refss env, r < nx) (ht : o tb = .row t.row)
 (G : σ -> Nat -> Obj') (J : σ -> Option Jmp) (step : σ -> Tm × Int -> σ) (ok : σ -> Prop) (s0 : σ) (hs0 : ok s0) (hJ0 : J s0 = none) (h0 : ∀ id, id < nx -> o id = G s0 id) (hok : ∀ x ∈ pre t 1, ∀ s, ok s -> J s = none -> J (step s x) = none -> ok (step s x))
 (hround : ∀ L, IsLoop Tryz.prog n env ps ica icb L -> (∀ st pd m, nx <= m -> (L st pd).refs.all (fun r => decide (r < m)) = true) -> ∀ x ∈ pre t 1, ∀ s, ok s -> J s = none -> ∀ o3 n3, HInv nx (G s) o3 n3 -> nx < n3 -> o3 nx = L .ready none -> ∀ K X,
  (∀ e' o' n' st pd, n3 <= n' -> HInv nx (G (step s x)) o' n' -> o' nx = L st pd -> (∀ id, nx < id -> id < n3 -> o' id = o3 id) -> roundQ nx K X (xitOf (J (step s x))) ⟨e', o', n'⟩) ->
  evW Tryz.prog n n3 true ica (beginE Tryz.prog n n3 nx icb K X) ⟨setP (envJ env) ps [.d x.1.d, .d (.i x.2)], o3, n3⟩)
 (hfin : ∀ o' n', HInv nx (G (foldE (stp J step) s0 (pre t 1)).1) o' n' -> jmpQ Q (J (foldE (stp J step) s0 (pre t 1)).1) ⟨e, o', n'⟩) :
 rngS Tryz.prog n false ps ica icb Q ⟨e, o, nx⟩ (.func (.func 113) [] [.ptr tb 0]) := by
 refine rng_st env he (fun L hL => ?_)
 have htb : tb < nx := hg.lt (by rw [ht]; exact Obj'.noConfusion)
 let H : σ -> Nat -> Obj' := fun s id => if id < nx then G s id else if id = nx then (match J s with | none => L .ready none | some j => L .done (some j)) else .no
 have hH1 : ∀ s id, id < nx -> H s id = G s id := fun s id h => if_pos h
 have hH2 : ∀ s, J s = none -> H s nx = L .ready none := fun s h => by show (if nx < nx then _ else _) = _; rw [if_neg (by omega), if_pos rfl, h]
 have hH3 : ∀ s j, J s = some j -> H s nx = L .done (some j) := fun s j h => by show (if nx < nx then _ else _) = _; rw [if_neg (by omega), if_pos rfl, h]
 have hLr : ∀ st pd m, nx <= m -> (L st pd).refs.all (fun r => decide (r < m)) = true := fun st pd m hm => by
  rw [hL.refs, List.all_eq_true]
  intro r hr; have := hrefs r hr; exact decide_eq_true (by omega)
 refine nodes1_c (nx + 1) nx H (stp J step) (fun s => ok s /\ J s = none) t hf hd (fun x hx s h1 h2 => ?_) (fun x hx s h1 => ?_) (by omega) tb (by omega) s0 ⟨hs0, hJ0⟩ (by rw [hH1 _ _ htb, <- h0 _ htb, ht]) _ _ ⟨?_, Nat.le_refl _, fun id hid => ?_⟩ _ _ ?_
 ·have hj : J (step s x) = none := by simpa [stp] using h2
  exact ⟨hok x hx s h1.1 h1.2 hj, hj⟩
 ·intro o3 n3 hI K X hK
  have hle := hI.le
  have ho3 : o3 nx = L .ready none := by rw [hI.eq nx (by omega), hH2 s h1.2]
  refine round_st hL mix ho3 (by omega) hps (by simp [hl]) ?_
  refine hround L hL hLr x hx s h1.1 h1.2 o3 n3 ⟨hI.good, by omega, fun id hid => by rw [hI.eq id (by omega), hH1 _ _ hid]⟩ (by omega) ho3 K X (fun e' o' n' st pd k1 k2 k3 k4 => ?_)
  have key : ∀ st' pd' b, (J (step s x)).isNone = b -> H (step s x) nx = L st' pd' -> K (.d (.bool b)) (upd o' nx (L st' pd')) n' := fun st' pd' b hb hh => by
   subst hb
   refine hK _ _ k1 ⟨k2.good.upd (by omega) (hLr _ _ _ (by omega)), by omega, fun id hid => ?_⟩ (fun id g1 g2 => ?_)
   ·by_cases hid2 : id = nx
    ·subst hid2; rw [upd_same]; exact hh.symm
    ·rw [upd_ne _ _ _ _ hid2]
     show o' id = H (step s x) id
     rw [hH1 _ _ (by omega)]; exact k2.eq id (by omega)
   ·rw [upd_ne _ _ _ _ (by omega)]; exact k4 id (by omega) g2
  cases hj : J (step s x) with
  | none => exact roundQ_go hL k3 (key _ _ _ (by rw [hj]; rfl) (hH2 _ hj))
  | some j =>
    cases j with
    | ret => exact roundQ_ret hL k3 (key _ _ _ (by rw [hj]; rfl) (hH3 _ _ hj))
    | exit j => exact roundQ_exit hL k3 (key _ _ _ (by rw [hj]; rfl) (hH3 _ _ hj))
 ·exact (hg.mono (by omega)).upd (by omega) (hLr _ _ _ (by omega))
 ·by_cases hid2 : id = nx
  ·subst hid2; rw [upd_same, hH2 _ hJ0]
  ·rw [upd_ne _ _ _ _ hid2, hH1 _ _ (by omega)]; exact h0 id (by omega)
 ·intro o' n' k1 k2 k3
  have hle := k2.le
  generalize hsf : (foldE (stp J step) s0 (pre t 1)).1 = sf at *
  have kk : ∀ st pd, HInv nx (G sf) (upd o' nx (L st pd)) n' := fun st pd => ⟨k2.good.upd (by omega) (hLr _ _ _ (by omega)), by omega, fun id hid => by rw [upd_ne _ _ _ _ (by omega), k2.eq id (by omega), hH1 _ _ hid]⟩
  cases hj : J sf with
  | none =>
    refine ⟨.ready, none, by rw [k2.eq nx (by omega), hH2 _ hj], (fun h => by cases h), ?_⟩
    have := hfin _ _ (kk .exhausted none)
    rwa [hj] at this
  | some j =>
    refine ⟨.done, some j, by rw [k2.eq nx (by omega), hH3 _ _ hj], (fun h => by cases h), ?_⟩
    have := hfin _ _ (kk .exhausted (some j))
    rwa [hj] at this
end Go.Proofs.YtealblliddhgiaaGreat
namespace Go.Proofs.YtealblliddhgiaaGreat
theorem within_c (n low high : Int) : PCt Tryz.prog 79 [.i n, .i low, .i high] (.ret [.bool (inB n low high)]) := by
 refine PCt.of_ev mix fn79 (by simp) ?_
 rw [c79]
 simp +contextual only [go_sem]
 rfl
theorem variable_c (s : TSig) (t : Tm) (h : t.op = 1) : PCt Tryz.prog 118 [s.d, t.d] (.ret [.bool (nodeF s t)]) := by
 have hn : nodeF s t = (inB t.n 0 19 && (t.kids.length : Int) == 0) := by simp [nodeF, h, Bool.and_comm]
 refine PCt.of_ev mix fn118 (by simp) ?_
 rw [c118]
 simp +contextual only [go_sem]
 refine call_keep (within_c _ _ _) rfl ?_
 simp +contextual only [go_sem]
 rw [hn]
theorem integer_c (s : TSig) (t : Tm) (h : t.op = 2) : PCt Tryz.prog 119 [s.d, t.d] (.ret [.bool (nodeF s t)]) := by
 have hn : nodeF s t = (inB t.n (-1000000) 1000000 && (t.kids.length : Int) == 0) := by simp [nodeF, h, Bool.and_comm]
 refine PCt.of_ev mix fn119 (by simp) ?_
 rw [c119]
 simp +contextual only [go_sem]
 refine call_keep (within_c _ _ _) rfl ?_
 simp +contextual only [go_sem]
 rw [hn]
theorem let_c (s : TSig) (t : Tm) (h : t.op = 8) : PCt Tryz.prog 123 [s.d, t.d] (.ret [.bool (nodeF s t)]) := by
 have hn : nodeF s t = (inB t.n 0 19 && (t.kids.length : Int) == 2) := by simp [nodeF, h, Bool.and_comm]
 refine PCt.of_ev mix fn123 (by simp) ?_
 rw [c123]
 simp +contextual only [go_sem]
 refine call_keep (within_c _ _ _) rfl ?_
 simp +contextual only [go_sem]
 rw [hn]
theorem pair_c (s : TSig) (t : Tm) (h : t.op = 6 \/ t.op = 7 \/ t.op = 9 \/ t.op = 10 \/ t.op = 11 \/ t.op = 12 \/ t.op = 13 \/ t.op = 14 \/ t.op = 15) : PCt Tryz.prog 124 [s.d, t.d] (.ret [.bool (nodeF s t)]) := by
 have hn : nodeF s t = (t.n == 0 && (t.kids.length : Int) == 2) := by
  rcases h with h | h | h | h | h | h | h | h | h <;> simp [nodeF, h, inB, Bool.and_comm]
 refine PCt.of_ev mix fn124 (by simp) ?_
 rw [c124]
 simp +contextual only [go_sem]
 rw [hn]
theorem con_c (s : TSig) (t : Tm) (hs : s.Fits) (h : t.op = 3) : PCt Tryz.prog 120 [s.d, t.d] (.ret [.bool (nodeF s t)]) := by
 have hn : nodeF s t = (inB t.n 0 (s.cons.length - 1) && (t.kids.length : Int) == argsOf s.cons t.n) := by simp [nodeF, h]
 refine PCt.of_ev mix fn120 (by simp) ?_
 rw [c120]
 simp +contextual only [go_sem]
 rw [wrap64 (by have := hs.lc; omega) (by have := hs.lc; omega)]
 refine callD_keep (within_c _ _ _) rfl ?_
 cases hI : inB t.n 0 (s.cons.length - 1) with
 | false =>
   simp +contextual only [go_sem, hI]
   refine end_intro (objsOk_reads rfl) ?_
   simp +contextual only [go_sem]
   rw [hn, hI]; rfl
 | true =>
   obtain ⟨h0, x, hx⟩ := inB_get hI
   simp +contextual only [go_sem, hI, hx, h0]
   refine end_intro (objsOk_reads rfl) ?_
   simp +contextual only [go_sem]
   rw [hn, hI, argsOf_get hx]; rfl
theorem fun_c (s : TSig) (t : Tm) (hs : s.Fits) (h : t.op = 4) : PCt Tryz.prog 121 [s.d, t.d] (.ret [.bool (nodeF s t)]) := by
 have hn : nodeF s t = (inB t.n 0 (s.funs.length - 1) && (t.kids.length : Int) == argsOf s.funs t.n) := by simp [nodeF, h]
 refine PCt.of_ev mix fn121 (by simp) ?_
 rw [c121]
 simp +contextual only [go_sem]
 rw [wrap64 (by have := hs.lf; omega) (by have := hs.lf; omega)]
 refine callD_keep (within_c _ _ _) rfl ?_
 cases hI : inB t.n 0 (s.funs.length - 1) with
 | false =>
   simp +contextual only [go_sem, hI]
   refine end_intro (objsOk_reads rfl) ?_
   simp +contextual only [go_sem]
   rw [hn, hI]; rfl
 | true =>
   obtain ⟨h0, x, hx⟩ := inB_get hI
   simp +contextual only [go_sem, hI, hx, h0]
   refine end_intro (objsOk_reads rfl) ?_
   simp +contextual only [go_sem]
   rw [hn, hI, argsOf_get hx]; rfl
theorem part_c (s : TSig) (t : Tm) (hs : s.Fits) (h : t.op = 5) : PCt Tryz.prog 122 [s.d, t.d] (.ret [.bool (nodeF s t)]) := by
 have hn : nodeF s t = (inB t.n 0 (s.funs.length - 1) && decide ((t.kids.length : Int) < argsOf s.funs t.n)) := by simp [nodeF, h]
 refine PCt.of_ev mix fn122 (by simp) ?_
 rw [c122]
 simp +contextual only [go_sem]
 rw [wrap64 (by have := hs.lf; omega) (by have := hs.lf; omega)]
 refine callD_keep (within_c _ _ _) rfl ?_
 cases hI : inB t.n 0 (s.funs.length - 1) with
 | false =>
   simp +contextual only [go_sem, hI]
   refine end_intro (objsOk_reads rfl) ?_
   simp +contextual only [go_sem]
   rw [hn, hI]; rfl
 | true =>
   obtain ⟨h0, x, hx⟩ := inB_get hI
   simp +contextual only [go_sem, hI, hx, h0]
   refine end_intro (objsOk_reads rfl) ?_
   simp +contextual only [go_sem]
   rw [hn, hI, argsOf_get hx]; rfl
@[reducible] def rf (n : Nat) : V := .func (.func n) [] []
@[reducible] def tab0 : List V := [.d .nilf, rf 118, rf 119, rf 120, rf 121, rf 122, .d .nilf, .d .nilf, rf 123, .d .nilf, .d .nilf, .d .nilf, .d .nilf, .d .nilf, .d .nilf, .d .nilf]
@[reducible] def tabV : List V := [.d .nilf, rf 118, rf 119, rf 120, rf 121, rf 122, rf 124, rf 124, rf 123, rf 124, rf 124, rf 124, rf 124, rf 124, rf 124, rf 124]
def tabAt (k : Nat) : List V := tabV.take k ++ tab0.drop k
theorem funcOf {P : Program} {t : TypeId} (h : (match P.underlying t with | some (.func _ _ _) => true | _ => false) = true) : ∃ a b c, P.underlying t = some (.func a b c) := by
 split at h
 ·exact ⟨_, _, _, by assumption⟩
 ·cases h
@[go_sem] theorem eqV_f1 (o : Nat -> Obj') (cst : Bool) : eqV Tryz.prog o 119 cst (.d .nilf) (.d .nilf) = some (.d (.bool true)) := by
 obtain ⟨a, b, c, h⟩ := funcOf (P := Tryz.prog) (t := 119) (by kernel_rfl)
 unfold eqV; rw [h]
@[go_sem] theorem eqV_f2 (o : Nat -> Obj') (cst : Bool) (f : Fn) (x y : List V) : eqV Tryz.prog o 119 cst (.func f x y) (.d .nilf) = some (.d (.bool false)) := by
 obtain ⟨a, b, c, h⟩ := funcOf (P := Tryz.prog) (t := 119) (by kernel_rfl)
 unfold eqV; rw [h]
theorem rules_c (base : Nat) (h : Nat -> Obj') : StC Tryz.prog 92 [] base h h (.agg tabV) := by
 intro o nx hI K X hK
 have hle := hI.le
 refine CtK.of_ev mix fn92 (by simp) ?_
 rw [c92]
 simp +contextual only [go_sem, Nat.add_assoc, Nat.left_eq_add, Nat.add_eq_left, Nat.add_left_cancel_iff]
 refine loop_fam (fun k : Nat => ⟨envJ [.ptr nx 0, .ptr (nx + 2) 0, .junk, .junk, .d (.i k)], upd (upd o nx (.row (List.replicate 16 (.d .nilf)))) (nx + 2) (.row (tabAt k)), nx + 5⟩)
  (fun k => k <= 16) (fun k => 16 - k) 0 (Nat.zero_le _) ?_ (fun k hk => ?_)
 ·refine SLe.backL _ (by omega) (by omega) ?_ (fun id hid => ?_) ?_
  ·exact ((hI.good.mono (by omega)).upd (by omega) rfl).upd (by omega) rfl
  ·rw [upd_upd]; rfl
  ·(repeat (first | exact backE_nil | refine backE_junk ?_ | refine backE_d rfl ?_ | refine backE_d (d_int (wrapN (by omega))) ?_ | refine backE_v rfl (by simp [V.refs, V.refss] <;> first | omega | assumption) ?_))
 have hg : ∀ k, k < 16 -> Good (upd (upd o nx (.row (List.replicate 16 (.d .nilf)))) (nx + 2) (.row (tabAt (k + 1)))) (nx + 5) := fun k hk =>
  ((hI.good.mono (by omega)).upd (by omega) rfl).upd (by omega) (by
   rcases (by omega : k = 0 \/ k = 1 \/ k = 2 \/ k = 3 \/ k = 4 \/ k = 5 \/ k = 6 \/ k = 7 \/ k = 8 \/ k = 9 \/ k = 10 \/ k = 11 \/ k = 12 \/ k = 13 \/ k = 14 \/ k = 15) with rfl | rfl | rfl | rfl | rfl | rfl | rfl | rfl | rfl | rfl | rfl | rfl | rfl | rfl | rfl | rfl <;> rfl)
 by_cases hk16 : k = 16
 ·subst hk16
  simp +contextual only [go_sem, tabAt, Nat.add_assoc, Nat.left_eq_add, Nat.add_eq_left, Nat.add_left_cancel_iff, List.replicate]
  refine hK _ _ ?_ ⟨?_, ?_, fun id hid => ?_⟩ (fun id h1 h2 => ?_)
  rotate_left
  ·exact (((hI.good.mono (by omega)).upd (by omega) rfl).upd (by omega) rfl).upd (by omega) rfl
  ·omega
  ·(repeat (first | rfl | rw [upd_same] | rw [upd_ne _ _ _ _ (by omega)]))
   exact hI.eq id hid
  ·(repeat (first | rfl | rw [upd_same] | rw [upd_ne _ _ _ _ (by omega)]))
  ·omega
 ·have hgk := hg k (by omega)
  obtain ⟨k1, hk1⟩ : ∃ k1, k1 = k + 1 := ⟨_, rfl⟩
  rw [<- hk1] at hgk
  rcases (by omega : k = 0 \/ k = 1 \/ k = 2 \/ k = 3 \/ k = 4 \/ k = 5 \/ k = 6 \/ k = 7 \/ k = 8 \/ k = 9 \/ k = 10 \/ k = 11 \/ k = 12 \/ k = 13 \/ k = 14 \/ k = 15) with rfl | rfl | rfl | rfl | rfl | rfl | rfl | rfl | rfl | rfl | rfl | rfl | rfl | rfl | rfl | rfl
  all_goals
   simp +contextual only [go_sem, tabAt, Nat.add_assoc, Nat.left_eq_add, Nat.add_eq_left, Nat.add_left_cancel_iff, List.replicate]
   refine nextS_intro k1 (by omega) (by omega) (SLe.backL _ (by omega) (by omega) hgk (fun id hid => ?_) ?_)
   all_goals subst hk1
   ·first | rfl | (rw [upd_upd]; rfl)
   ·(repeat (first | exact backE_nil | refine backE_junk ?_ | refine backE_d rfl ?_ | refine backE_d (d_int (wrapN (by omega))) ?_ | refine backE_v rfl (by simp [V.refs, V.refss] <;> first | omega | assumption) ?_))
end Go.Proofs.YtealblliddhgiaaGreat
namespace Go.Proofs.YtealblliddhgiaaGreat
def ruleId (n : Int) : Nat := if n = 1 then 118 else if n = 2 then 119 else if n = 3 then 120 else if n = 4 then 121 else if n = 5 then 122 else if n = 8 then 123 else 124
theorem rule_c (s : TSig) (t : Tm) (hs : s.Fits) (h : inB t.op 1 15 = true) : PCt Tryz.prog (ruleId t.op) [s.d, t.d] (.ret [.bool (nodeF s t)]) /\ tabV[t.op.toNat]? = some (rf (ruleId t.op)) /\ 0 <= t.op /\ t.op < 16 := by
 simp [inB] at h
 rcases (by omega : t.op = 1 \/ t.op = 2 \/ t.op = 3 \/ t.op = 4 \/ t.op = 5 \/ t.op = 8 \/ (t.op = 6 \/ t.op = 7 \/ t.op = 9 \/ t.op = 10 \/ t.op = 11 \/ t.op = 12 \/ t.op = 13 \/ t.op = 14 \/ t.op = 15)) with h | h | h | h | h | h | h
 ·exact ⟨by rw [h]; exact variable_c s t h, by rw [h]; rfl, by omega, by omega⟩
 ·exact ⟨by rw [h]; exact integer_c s t h, by rw [h]; rfl, by omega, by omega⟩
 ·exact ⟨by rw [h]; exact con_c s t hs h, by rw [h]; rfl, by omega, by omega⟩
 ·exact ⟨by rw [h]; exact fun_c s t hs h, by rw [h]; rfl, by omega, by omega⟩
 ·exact ⟨by rw [h]; exact part_c s t hs h, by rw [h]; rfl, by omega, by omega⟩
 ·exact ⟨by rw [h]; exact let_c s t h, by rw [h]; rfl, by omega, by omega⟩
 ·have hp := pair_c s t h
  rcases h with h | h | h | h | h | h | h | h | h <;> exact ⟨by rw [h]; exact hp, by rw [h]; rfl, by omega, by omega⟩
def fbad (s : TSig) (n : Int) (x : Tm × Int) : Bool := decide (40 < n + 1) || decide (12 < x.2) || !inB x.1.op 1 15 || !nodeF s x.1
def fstep (s : TSig) (n : Int × Bool) (x : Tm × Int) : Int × Bool := (n.1 + 1, !fbad s n.1 x)
def fJ (n : Int × Bool) : Option Jmp := if n.2 = true then none else some .ret
def formedF (s : TSig) (t : Tm) : Bool := (foldE (stp fJ (fstep s)) (0, true) (pre t 1)).2
theorem formed_c (s : TSig) (hs : s.Fits) (t : Tm) (hf : t.fits) (hd : t.hgt <= 900000) : PCt Tryz.prog 54 [s.d, t.d] (.ret [.bool (formedF s t)]) := by
 refine PCt.of_ev mix fn54 (by simp) ?_
 rw [c54]
 simp +contextual only [go_sem]
 refine call_heap (rules_c 3 _ _ _ (?_ : HInv 3 (upd (upd (upd (fun _ => .no) 0 (.row s.row)) 1 (.row t.row)) 2 (.row [.d (.bool false)])) _ 3) _ _ fun o2 n2 m1 m2 m3 => ?_)
 ·exact ⟨(by repeat (first | exact hg.mono (by omega) | exact Good.nil | refine Good.upd ?_ (by omega) rfl | refine Good.upd ?_ (by omega) (hLr _ _ _ (by omega)) | refine Good.upd ?_ (by omega) (by simp [Obj'.refs, V.refss, V.refs] <;> omega))), Nat.le_refl _, fun _ _ => rfl⟩
 have p0 : o2 0 = .row s.row := m2.eq 0 (by omega)
 have p1 : o2 1 = .row t.row := m2.eq 1 (by omega)
 have p2 : o2 2 = .row [.d (.bool false)] := m2.eq 2 (by omega)
 have e0 : 0 ≠ n2 := by omega
 have e1 : 1 ≠ n2 := by omega
 have e2 : 2 ≠ n2 := by omega
 have e3 : ∀ k, 0 ≠ n2 + k := fun k => by omega
 have e4 : ∀ k, 1 ≠ n2 + k := fun k => by omega
 have e5 : ∀ k, 2 ≠ n2 + k := fun k => by omega
 simp +contextual only [go_sem, p0, p1, p2, e0, e1, e2, e3, e4, e5, Nat.add_assoc, Nat.left_eq_add, Nat.add_eq_left, Nat.add_left_cancel_iff]
 refine call_heap (nodesK_c t _ _ _ _ ?_)
 simp +contextual only [go_sem]
 have hG0 : ∀ n, Good (upd (upd (upd (upd (upd (upd o2 n2 (.row (List.replicate 16 (.d .nilf)))) (n2 + 1) (.row [.d (.i 0)])) n2 (.row tabV)) (n2 + 1) (.row [.d (.i 0)])) (n2 + 5) (.row t.row)) (n2 + 1) (.row [.d (.i n)])) (n2 + 9) := fun n => by
  have hg := m2.good
  exact (by repeat (first | exact hg.mono (by omega) | exact Good.nil | refine Good.upd ?_ (by omega) rfl | refine Good.upd ?_ (by omega) (hLr _ _ _ (by omega)) | refine Good.upd ?_ (by omega) (by simp [Obj'.refs, V.refss, V.refs] <;> omega)))
 refine range_nodes t hf hd [.junk, .junk, .ptr 0 0, .junk, .ptr 2 0, .ptr n2 0, .ptr (n2 + 1) 0] ?_ (by decide) rfl ?_ (by simp [V.refss, V.refs]; omega) (upd_same _ _ _)
  (fun s => upd (upd (upd (upd (upd (upd o2 n2 (.row (List.replicate 16 (.d .nilf)))) (n2 + 1) (.row [.d (.i 0)])) n2 (.row tabV)) (n2 + 1) (.row [.d (.i 0)])) (n2 + 5) (.row t.row)) (n2 + 1) (.row [.d (.i s.1)]))
  fJ (fstep s) (fun s => 0 <= s.1 /\ s.1 <= 40) (0, true) ⟨by decide, by decide⟩ rfl ?_ ?_ ?_ ?_
 ·(repeat (first | exact keptE_nil | refine keptE_junk ?_ | refine keptE_v rfl ?_))
 ·have hg := m2.good
  exact (by repeat (first | exact hg.mono (by omega) | exact Good.nil | refine Good.upd ?_ (by omega) rfl | refine Good.upd ?_ (by omega) (hLr _ _ _ (by omega)) | refine Good.upd ?_ (by omega) (by simp [Obj'.refs, V.refss, V.refs] <;> omega)))
 ·intro id hid
  by_cases h : id = n2 + 1
  ·subst h; (repeat (first | rfl | rw [upd_same] | rw [upd_ne _ _ _ _ (by omega)]))
  ·rw [upd_ne _ _ _ _ h]; rfl
 ·intro x hx s' h1 h2 h3
  have : fbad s s'.1 x = false := by simpa [fJ, fstep] using h3
  simp [fbad] at this
  simp only [fstep]
  omega
 ·intro L hL hLr x hx s' h1 h2 o3 n3 hI hn ho K X hend
  simp only [setP]
  have hg := hI.good
  have q0 : o3 0 = .row s.row := by
   rw [hI.eq 0 (by omega)]; (repeat (first | rfl | rw [upd_same] | rw [upd_ne _ _ _ _ (by omega)]))
   exact p0
  have q2 : o3 2 = .row [.d (.bool false)] := by
   rw [hI.eq 2 (by omega)]; (repeat (first | rfl | rw [upd_same] | rw [upd_ne _ _ _ _ (by omega)]))
   exact p2
  have q3 : o3 n2 = .row tabV := by rw [hI.eq n2 (by omega)]; (repeat (first | rfl | rw [upd_same] | rw [upd_ne _ _ _ _ (by omega)]))
  have q4 : o3 (n2 + 1) = .row [.d (.i s'.1)] := by rw [hI.eq (n2 + 1) (by omega)]; (repeat (first | rfl | rw [upd_same] | rw [upd_ne _ _ _ _ (by omega)]))
  have fin : ∀ (o' : Nat -> Obj') (n' : Nat), (∀ id, id < n2 + 5 + 4 -> o' id = upd o3 (n2 + 1) (.row [.d (.i (s'.1 + 1))]) id) -> Good o' n' -> n3 <= n' -> HInv (n2 + 5 + 4) (upd (upd (upd (upd (upd (upd o2 n2 (.row (List.replicate 16 (.d .nilf)))) (n2 + 1) (.row [.d (.i 0)])) n2 (.row tabV)) (n2 + 1) (.row [.d (.i 0)])) (n2 + 5) (.row t.row)) (n2 + 1) (.row [.d (.i (fstep s s' x).1)])) o' n' := by
   intro o' n' k1 k2 k3
   refine ⟨k2, by omega, fun id hid => ?_⟩
   rw [k1 id hid]
   by_cases h : id = n2 + 1
   ·subst h; rw [upd_same, upd_same]; rfl
   ·rw [upd_ne _ _ _ _ h, upd_ne _ _ _ _ h, hI.eq id hid, upd_ne _ _ _ _ h]
  simp +contextual only [go_sem]
  refine begin_st hL (pd := none) ?_ ?_
  ·(repeat (first | rfl | rw [upd_same] | rw [upd_ne _ _ _ _ (by omega)]))
   exact ho
  cases c1 : decide (40 < s'.1 + 1) with
  | true =>
    have hJ : fJ (fstep s s' x) = some .ret := by simp [fJ, fstep, fbad, c1]
    rw [hJ] at hend
    simp +contextual (disch := first | omega | simp only [go_sem, false_implies]) only [go_sem, wrap64, if_pos, q0, q2, q3, q4, c1]
    refine end_intro (objsOk_reads rfl) ?_
    simp +contextual (disch := first | omega | simp only [go_sem, false_implies]) only [go_sem, wrap64, if_pos, q2]
    refine hend _ _ _ .busy none (by omega) (fin _ _ (fun id hid => (by simp only [upd] <;> ((repeat' split) <;> first | rfl | omega | (subst_vars; first | rfl | assumption | (symm; assumption) | omega | (simp_all; done))))) (by repeat (first | exact hg.mono (by omega) | exact Good.nil | refine Good.upd ?_ (by omega) rfl | refine Good.upd ?_ (by omega) (hLr _ _ _ (by omega)) | refine Good.upd ?_ (by omega) (by simp [Obj'.refs, V.refss, V.refs] <;> omega))) (by omega)) (by (repeat (first | rfl | rw [upd_same] | rw [upd_ne _ _ _ _ (by omega)]))) (fun id h3 h4 => by (repeat (first | rfl | rw [upd_same] | rw [upd_ne _ _ _ _ (by omega)])))
  | false =>
  cases c2 : decide (12 < x.2) with
  | true =>
    have hJ : fJ (fstep s s' x) = some .ret := by simp [fJ, fstep, fbad, c2]
    rw [hJ] at hend
    simp +contextual (disch := first | omega | simp only [go_sem, false_implies]) only [go_sem, wrap64, if_pos, q0, q2, q3, q4, c1, c2]
    refine end_intro (objsOk_reads rfl) ?_
    simp +contextual (disch := first | omega | simp only [go_sem, false_implies]) only [go_sem, wrap64, if_pos, q2]
    refine hend _ _ _ .busy none (by omega) (fin _ _ (fun id hid => (by simp only [upd] <;> ((repeat' split) <;> first | rfl | omega | (subst_vars; first | rfl | assumption | (symm; assumption) | omega | (simp_all; done))))) (by repeat (first | exact hg.mono (by omega) | exact Good.nil | refine Good.upd ?_ (by omega) rfl | refine Good.upd ?_ (by omega) (hLr _ _ _ (by omega)) | refine Good.upd ?_ (by omega) (by simp [Obj'.refs, V.refss, V.refs] <;> omega))) (by omega)) (by (repeat (first | rfl | rw [upd_same] | rw [upd_ne _ _ _ _ (by omega)]))) (fun id h3 h4 => by (repeat (first | rfl | rw [upd_same] | rw [upd_ne _ _ _ _ (by omega)])))
  | false =>
  cases c3 : inB x.1.op 1 15 with
  | false =>
    have hJ : fJ (fstep s s' x) = some .ret := by simp [fJ, fstep, fbad, c3]
    rw [hJ] at hend
    simp +contextual (disch := first | omega | simp only [go_sem, false_implies]) only [go_sem, wrap64, if_pos, q0, q2, q3, q4, c1, c2]
    refine callD_keep (within_c _ _ _) rfl ?_
    simp +contextual (disch := first | omega | simp only [go_sem, false_implies]) only [go_sem, wrap64, if_pos, q0, q2, q3, q4, c1, c2, c3]
    refine end_intro (objsOk_reads rfl) ?_
    simp +contextual (disch := first | omega | simp only [go_sem, false_implies]) only [go_sem, wrap64, if_pos, q2]
    refine hend _ _ _ .busy none (by omega) (fin _ _ (fun id hid => (by simp only [upd] <;> ((repeat' split) <;> first | rfl | omega | (subst_vars; first | rfl | assumption | (symm; assumption) | omega | (simp_all; done))))) (by repeat (first | exact hg.mono (by omega) | exact Good.nil | refine Good.upd ?_ (by omega) rfl | refine Good.upd ?_ (by omega) (hLr _ _ _ (by omega)) | refine Good.upd ?_ (by omega) (by simp [Obj'.refs, V.refss, V.refs] <;> omega))) (by omega)) (by (repeat (first | rfl | rw [upd_same] | rw [upd_ne _ _ _ _ (by omega)]))) (fun id h3 h4 => by (repeat (first | rfl | rw [upd_same] | rw [upd_ne _ _ _ _ (by omega)])))
  | true =>
  obtain ⟨r1, r2, r3, r4⟩ := rule_c s x.1 hs c3
  simp +contextual (disch := first | omega | simp only [go_sem, false_implies]) only [go_sem, wrap64, if_pos, q0, q2, q3, q4, c1, c2]
  refine callD_keep (within_c _ _ _) rfl ?_
  simp +contextual (disch := first | omega | simp only [go_sem, false_implies]) only [go_sem, wrap64, if_pos, q0, q2, q3, q4, c1, c2, c3, r2, r3, r4, Nat.mul_one]
  refine callD_keep r1 rfl ?_
  simp +contextual (disch := first | omega | simp only [go_sem, false_implies]) only [go_sem, wrap64, if_pos, q0, q2, q3, q4, c1, c2, c3]
  refine end_intro (objsOk_reads rfl) ?_
  cases c4 : nodeF s x.1 with
  | false =>
    have hJ : fJ (fstep s s' x) = some .ret := by simp [fJ, fstep, fbad, c4]
    rw [hJ] at hend
    simp +contextual (disch := first | omega | simp only [go_sem, false_implies]) only [go_sem, wrap64, if_pos, q2, c4]
    refine hend _ _ _ .busy none (by omega) (fin _ _ (fun id hid => (by simp only [upd] <;> ((repeat' split) <;> first | rfl | omega | (subst_vars; first | rfl | assumption | (symm; assumption) | omega | (simp_all; done))))) (by repeat (first | exact hg.mono (by omega) | exact Good.nil | refine Good.upd ?_ (by omega) rfl | refine Good.upd ?_ (by omega) (hLr _ _ _ (by omega)) | refine Good.upd ?_ (by omega) (by simp [Obj'.refs, V.refss, V.refs] <;> omega))) (by omega)) (by (repeat (first | rfl | rw [upd_same] | rw [upd_ne _ _ _ _ (by omega)]))) (fun id h3 h4 => by (repeat (first | rfl | rw [upd_same] | rw [upd_ne _ _ _ _ (by omega)])))
  | true =>
    have hJ : fJ (fstep s s' x) = none := by simp [fJ, fstep, fbad, c1, c2, c3, c4]
    rw [hJ] at hend
    simp +contextual (disch := first | omega | simp only [go_sem, false_implies]) only [go_sem, wrap64, if_pos, c4]
    refine hend _ _ _ .busy none (by omega) (fin _ _ (fun id hid => (by simp only [upd] <;> ((repeat' split) <;> first | rfl | omega | (subst_vars; first | rfl | assumption | (symm; assumption) | omega | (simp_all; done))))) (by repeat (first | exact hg.mono (by omega) | exact Good.nil | refine Good.upd ?_ (by omega) rfl | refine Good.upd ?_ (by omega) (hLr _ _ _ (by omega)) | refine Good.upd ?_ (by omega) (by simp [Obj'.refs, V.refss, V.refs] <;> omega))) (by omega)) (by (repeat (first | rfl | rw [upd_same] | rw [upd_ne _ _ _ _ (by omega)]))) (fun id h3 h4 => by (repeat (first | rfl | rw [upd_same] | rw [upd_ne _ _ _ _ (by omega)])))
 ·intro o' n' hI
  have q2 : o' 2 = .row [.d (.bool false)] := by
   rw [hI.eq 2 (by omega)]; (repeat (first | rfl | rw [upd_same] | rw [upd_ne _ _ _ _ (by omega)]))
   exact p2
  rw [show formedF s t = (fJ (foldE (stp fJ (fstep s)) (0, true) (pre t 1)).1).isNone from foldE_J _ _ _ _ rfl]
  generalize (foldE (stp fJ (fstep s)) (0, true) (pre t 1)).1 = sf at *
  cases hj : fJ sf with
  | none =>
    simp only [jmpQ]
    simp +contextual (disch := first | omega | simp only [go_sem, false_implies]) only [go_sem, wrap64, if_pos, q2]
    rfl
  | some j =>
    have : j = .ret := by
     unfold fJ at hj; split at hj
     ·cases hj
     ·injection hj with hj; exact hj.symm
    subst this
    simp only [jmpQ]
    simp +contextual (disch := first | omega | simp only [go_sem, false_implies]) only [go_sem, wrap64, if_pos, q2]
    rfl
end Go.Proofs.YtealblliddhgiaaGreat
namespace Go.Proofs.YtealblliddhgiaaGreat
def enc {κ : Type} (kf : κ -> D) (m : List (κ × D)) : List (D × D) := m.map fun p => (kf p.1, p.2)
def aIdx {κ : Type} [BEq κ] (k : κ) : List (κ × D) -> Nat -> Option (Nat × D)
 | [], _ => none
 | p :: m, i => if (k == p.1) = true then some (i, p.2) else aIdx k m (i + 1)
def aSet {κ : Type} [BEq κ] (k : κ) (x : D) (m : List (κ × D)) : List (κ × D) := match aIdx k m 0 with | some (i, _) => m.set i (k, x) | none => m ++ [(k, x)]
def aDel {κ : Type} [BEq κ] (k : κ) (m : List (κ × D)) : List (κ × D) := match aIdx k m 0 with | some (i, _) => m.eraseIdx i | none => m
def keyO (d : D) (r : Option (Nat × D)) : Option (Nat × D × D) := match r with | some (i, x) => some (i, d, x) | none => none
@[go_sem] theorem keyO_some (d : D) (i : Nat) (x : D) : keyO d (some (i, x)) = some (i, d, x) := rfl
@[go_sem] theorem keyO_none (d : D) : keyO d none = none := rfl
section
variable {P : Program} {kt : TypeId}
theorem eqT_int (h : eqShape P kt = some .int) (a b : Int) : eqT P 100 kt (.int .i64 a) (.int .i64 b) = some (a == b) := by simp [eqT, h]
theorem eqT_str (h : eqShape P kt = some .str) (a b : List UInt8) : eqT P 100 kt (.str a) (.str b) = some (a == b) := by simp [eqT, h]
@[go_sem] theorem chk_int (h : eqShape P kt = some .int) (a : Int) : chkT P 100 kt (.int .i64 a) = true := by simp [chkT, h]
@[go_sem] theorem chk_str (h : eqShape P kt = some .str) (a : List UInt8) : chkT P 100 kt (.str a) = true := by simp [chkT, h]
theorem find_enc {κ : Type} [BEq κ] [LawfulBEq κ] (kf : κ -> D) (he : ∀ a b, eqT P 100 kt (kf a) (kf b) = some (a == b)) (k : κ) : ∀ (m : List (κ × D)) (i : Nat), findD P kt (kf k) (enc kf m) i = some (keyO (kf k) (aIdx k m i))
 | [], _ => rfl
 | p :: m, i => by
   have ih := find_enc kf he k m (i + 1)
   simp only [enc, List.map_cons, findD, he, aIdx] at ih ⊢
   by_cases h : k = p.1
   ·subst h; simp [keyO]
   ·have : (k == p.1) = false := by simpa using h
    simp only [this, Bool.false_eq_true, if_false]; exact ih
@[go_sem] theorem find_int (h : eqShape P kt = some .int) (k : Int) (m : List (Int × D)) : findD P kt (.int .i64 k) (enc (.int .i64) m) 0 = some (keyO (.int .i64 k) (aIdx k m 0)) := find_enc (.int .i64) (eqT_int h) k m 0
@[go_sem] theorem find_str (h : eqShape P kt = some .str) (k : List UInt8) (m : List (List UInt8 × D)) : findD P kt (.str k) (enc .str m) 0 = some (keyO (.str k) (aIdx k m 0)) := find_enc .str (eqT_str h) k m 0
end
section
variable {κ : Type} (kf : κ -> D)
theorem enc_snoc (m : List (κ × D)) (k : κ) (x : D) : enc kf m ++ [(kf k, x)] = enc kf (m ++ [(k, x)]) := by simp [enc]
theorem enc_set (m : List (κ × D)) (i : Nat) (k : κ) (x : D) : (enc kf m).set i (kf k, x) = enc kf (m.set i (k, x)) := by simp [enc, List.map_set]
theorem enc_erase : ∀ (m : List (κ × D)) (i : Nat), (enc kf m).eraseIdx i = enc kf (m.eraseIdx i)
 | [], i => rfl
 | p :: m, 0 => rfl
 | p :: m, i + 1 => by
   have := enc_erase m i
   simp only [enc, List.map_cons, List.eraseIdx_cons_succ] at this ⊢
   rw [this]
theorem enc_zip (m : List (κ × D)) : (((enc kf m).map (·.1)).zip ((enc kf m).map (·.2))) = enc kf m := by
 induction m with
 | nil => rfl
 | cons p m ih => simp only [enc, List.map_cons, List.zip_cons_cons] at ih ⊢; rw [ih]
theorem nextC_enc {K : V -> List (Nat × Obj') -> Prop} {id : Nat} {m : List (κ × D)} (h0 : m = [] -> K (.tup [.d (.bool false)]) [])
 (h1 : ∀ (i : Nat) k x, m[i]? = some (k, x) -> K (.tup [.d (.bool true), .d (kf k), .d x]) [(id, .mit (enc kf (m.eraseIdx i)) (some (kf k, x)))]) : nextC K id (enc kf m) := by
 refine ⟨fun h => h0 ?_, fun i k x h => ?_⟩
 ·cases m with
  | nil => rfl
  | cons p m => simp [enc] at h
 ·simp only [enc, List.getElem?_map] at h
  cases hm : m[i]? with
  | none => rw [hm] at h; cases h
  | some p =>
    rw [hm] at h
    simp at h
    obtain ⟨rfl, rfl⟩ := h
    have := h1 i p.1 p.2 (by rw [hm])
    rwa [<- enc_erase] at this
end
theorem aIdx_get {κ : Type} [BEq κ] [LawfulBEq κ] {k : κ} : ∀ {m : List (κ × D)} {i j : Nat} {x : D}, aIdx k m i = some (j, x) -> i <= j /\ m[j - i]? = some (k, x)
 | [], _, _, _, h => by cases h
 | p :: m, i, j, x, h => by
   simp only [aIdx] at h
   split at h
   ·rename_i hk
    injection h with h; injection h with h1 h2
    subst h1; subst h2
    exact ⟨Nat.le_refl _, by simp [(by simpa using hk : k = p.1)]⟩
   ·obtain ⟨h1, h2⟩ := aIdx_get h
    refine ⟨by omega, ?_⟩
    rw [show j - i = (j - (i + 1)) + 1 by omega]
    simpa using h2
theorem aIdx_none {κ : Type} [BEq κ] [LawfulBEq κ] {k : κ} : ∀ {m : List (κ × D)} {i : Nat}, aIdx k m i = none ↔ ∀ p ∈ m, p.1 ≠ k
 | [], _ => by simp [aIdx]
 | p :: m, i => by
   simp only [aIdx]
   split
   ·rename_i hk
    simp [(by simpa using hk : k = p.1)]
   ·rename_i hk
    rw [aIdx_none]
    have : p.1 ≠ k := fun e => hk (by simp [e])
    simp [this]
def mapUpdX (P : Program) (o : Nat -> Obj') (t : TypeId) (m k v : V) : Option Res :=
 match mapT P t, toD o k, toD o v, mapEs o m with
 | some (kt, _), some kd, some vd, some (some (id, kt', vt'), l) => if k.ids = [] /\ chkT P 100 kt kd = true /\ plainD kd = true /\ v.ids.all (· != id) = true then match findD P kt kd l 0 with
  | some (some (i, k', _)) => if k'.same kd = true then some (.tup [], frz o v.ids ++ [(id, .map kt' vt' (l.set i (kd, vd)))], id :: v.ids) else none
  | some none => some (.tup [], frz o v.ids ++ [(id, .map kt' vt' (l ++ [(kd, vd)]))], id :: v.ids)
  | none => none
   else none
 | _, _, _, _ => none
@[go_sem low] theorem mapUpdF_X (P : Program) (o : Nat -> Obj') (t : TypeId) (m v : V) (k : D) : mapUpdF P o t m (.d k) v = mapUpdX P o t m (.d k) v := by unfold mapUpdF mapUpdX; rfl
def lookX (P : Program) (o : Nat -> Obj') (t : TypeId) (m k : V) (ok : Bool) : Option Res :=
 match mapT P t, toD o k, mapRd o m with
 | some (kt, vt), some kd, some (rd, l) => if k.ids = [] /\ chkT P 100 kt kd = true then match findD P kt kd l 0 with
  | some (some (_, _, x)) => some (if ok = true then .tup [.d x, .d (.bool true)] else .d x, [], rd)
  | some none => match zeroV P vt with
    | some z => some (if ok = true then .tup [z, .d (.bool false)] else z, [], rd)
    | none => none
  | none => none
   else none
 | _, _, _ => none
@[go_sem low] theorem lookupF_X (P : Program) (o : Nat -> Obj') (t : TypeId) (m : V) (k : D) (ok : Bool) : lookupF P o t m (.d k) ok = lookX P o t m (.d k) ok := by unfold lookupF lookX; rfl
attribute [go_sem] lookX mapUpdX deleteF makeMapF rangeF nextF leftF entryF mapRd mapEs idOf scalD plainD D.same
end Go.Proofs.YtealblliddhgiaaGreat
