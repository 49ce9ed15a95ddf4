/-
  A PART OF THE PROOF (put together by program): several texts, one behind the other. Conditions: none.
-/
import Derived.Test.YtaafchgfibbmhaaPk30
set_option linter.unusedSimpArgs false
set_option linter.unusedVariables false
namespace Go.Proofs.Ytaafchgfibbmhaa
def emptyR (r : Row) : Bool := r.c.all (fun n => n == 0)
@[reducible] def oneRow (cs : List V) : Nat → Obj' := upd (fun _ => .no) 0 (.row cs)
theorem oneRow_good {cs : List V} (h : (Obj'.row cs).refs.all (fun r => decide (r < 1)) = true) : Good (oneRow cs) 1 := (Good.nil (nx := 1)).upd (by omega) h
theorem empty'_c (r : Row) (hl : r.c.length ≤ 1000) : PCt Try.prog 92 [r.d] (.ret [.bool (emptyR r)]) := by
  refine PCt.of_ev mix fn92 (by simp) ?_
  rw [c92]
  simp +contextual only [go_sem, Row.d]
  refine loop_fam (fun k : Nat => ⟨envJ [.junk, .ptr 0 0, .junk, .d (.i k)], oneRow [.d (.sl (r.c.map .i)), .d (.i r.rel), .d (.i r.b)], 1⟩)
    (fun k => k ≤ r.c.length ∧ (r.c.take k).all (fun n => n == 0) = true) (fun k => r.c.length - k) 0 ⟨Nat.zero_le _, by simp⟩ (SLe.d1 _ (oneRow_good rfl) (by omega) rfl ?_) (fun k hk => ?_)
  · refine backE_junk (backE_v rfl (by simp [V.refs]) ?_)
    (repeat (first | exact backE_nil | refine backE_junk ?_ | refine backE_d rfl ?_ | refine backE_d (d_int (wrapN (by omega))) ?_))
  simp +contextual only [go_sem]
  refine cond_intro (fun h2 => ?_) (fun h2 => ?_)
  · simp at h2
    obtain ⟨n, hn⟩ : ∃ n, r.c[k]? = some n := ⟨r.c[k], by simp [h2]⟩
    simp +contextual only [go_sem, hn, D.i]
    refine cond_intro (fun h3 => ?_) (fun h3 => ?_)
    · simp +contextual only [go_sem]
      have : emptyR r = false := by
        simp only [emptyR, List.all_eq_false]
        exact ⟨n, List.mem_of_getElem? hn, by simpa using h3⟩
      rw [this]
    · simp +contextual only [go_sem]
      have hz : n = 0 := by simpa using h3
      refine nextS_intro (k + 1) ⟨h2, ?_⟩ (by omega) (SLe.d1 _ (oneRow_good rfl) (by omega) rfl ?_)
      · rw [List.take_add_one, hn, List.all_append, hk.2]; simp [hz]
      · refine backE_junk (backE_v rfl (by simp [V.refs]) ?_)
        (repeat (first | exact backE_nil | refine backE_junk ?_ | refine backE_d rfl ?_ | refine backE_d (d_int (wrapN (by omega))) ?_))
  · simp +contextual only [go_sem]
    simp at h2
    have h3 := hk.2
    rw [List.take_of_length_le (by omega)] at h3
    rw [emptyR, h3]
theorem true'_c (r : Row) : PCt Try.prog 93 [r.d] (.ret [.bool (relF 0 r.rel r.b)]) := by
  refine PCt.of_ev mix fn93 (by simp) ?_
  rw [c93]
  simp +contextual only [go_sem, Row.d]
  refine call_keep (related'_c 0 r.rel r.b) rfl ?_
  simp +contextual only [go_sem]
theorem gcdL_snoc (l : List Int) (n : Int) : gcdL (l ++ [n]) = Nat.gcd (gcdL l) n.natAbs := by simp [gcdL]
theorem gcdL_cons_le (l : List Int) (hb : ∀ n ∈ l, n.natAbs ≤ 9223372036854775807) : gcdL l ≤ 9223372036854775807 := by
  have key : ∀ (l : List Int) (g : Nat), g ≤ 9223372036854775807 → (∀ n ∈ l, n.natAbs ≤ 9223372036854775807) → l.foldl (fun g n => Nat.gcd g n.natAbs) g ≤ 9223372036854775807 := by
    intro l
    induction l with
    | nil => intro g hg _; exact hg
    | cons n l ih =>
      intro g hg hn
      refine ih _ ?_ (fun x hx => hn x (by simp [hx]))
      rcases Nat.eq_zero_or_pos g with h0 | h0
      · subst h0; simp only [Nat.gcd_zero_left]; exact hn n (by simp)
      · exact Nat.le_trans (Nat.gcd_le_left _ h0) hg
  exact key l 0 (by omega) hb
theorem redM_div {m : Made} (h : gcdM m ≠ 0) : redM m = ⟨⟨divs m.r.c (gcdM m), m.r.rel, m.r.b.tdiv (gcdM m)⟩, divs m.t (gcdM m)⟩ := by
  unfold redM
  split
  · rfl
  · have h1 : gcdM m = 1 := by omega
    rw [h1]
    have : ∀ l : List Int, divs l ((1 : Nat) : Int) = l := fun l => by
      simp [divs]
    rw [this, this]
    simp
theorem redM_zero {m : Made} (h : gcdM m = 0) : redM m = m := by rw [redM, if_neg (by omega)]
@[reducible] def redO (m : Made) : Nat → Obj' := upd (upd (fun _ => .no) 0 (.row [.d (.sl (m.r.c.map .i)), .d (.i m.r.rel), .d (.i m.r.b), .d (.sl (m.t.map .i))])) 1 (.row [.nils, .d (.i 0), .d (.i 0), .nils])
theorem redO_good (m : Made) : Good (redO m) 2 := ((Good.nil (nx := 2)).upd (by omega) rfl).upd (by omega) rfl
theorem reduced'_c (m : Made) (hm : m.Num) : PCt Try.prog 94 [m.d] (.ret [(redM m).d]) := by
  have hlc := hm.lc
  have hlt := hm.lt
  refine PCt.of_ev mix fn94 (by simp) ?_
  rw [c94]
  simp +contextual only [go_sem, Made.d, Row.d]
  refine call_keep (gcd_c _ _ hm.b (by omega)) rfl ?_
  simp +contextual only [go_sem, Made.d, Row.d]
  refine loop_fam (fun k : Nat => ⟨envJ [.junk, .ptr 0 0, .ptr 1 0, .d (.i (gcdL (m.r.b :: m.r.c.take k))), .d (.i k)], redO m, 2⟩)
    (fun k => k ≤ m.r.c.length) (fun k => m.r.c.length - k) 0 (Nat.zero_le _) (SLe.backL _ (by omega) (by omega) (redO_good m) (fun _ _ => rfl) ?_) (fun k hk => ?_)
  · refine backE_junk (backE_v rfl (by simp [V.refs]) (backE_v rfl (by simp [V.refs]) (backE_d (d_int ?_) (backE_d rfl backE_nil))))
    simp [gcdL, Int.gcd]
  simp +contextual only [go_sem]
  refine cond_intro (fun h2 => ?_) (fun h2 => ?_)
  · simp at h2
    obtain ⟨n, hn⟩ : ∃ n, m.r.c[k]? = some n := ⟨m.r.c[k], by simp [h2]⟩
    have hnb := hm.c n (List.mem_of_getElem? hn)
    have hgb : gcdL (m.r.b :: m.r.c.take k) ≤ 9223372036854775807 := gcdL_cons_le _ (fun x hx => by
      rcases List.mem_cons.1 hx with rfl | hx
      · have := hm.b; omega
      · have := hm.c x (List.mem_of_mem_take hx); omega)
    simp +contextual only [go_sem, hn, D.i]
    refine call_keep (gcd_c _ _ (by omega) hnb) rfl ?_
    simp +contextual only [go_sem]
    refine nextS_intro (k + 1) h2 (by omega) (SLe.backL _ (by omega) (by omega) (redO_good m) (fun _ _ => rfl) ?_)
    refine backE_junk (backE_v rfl (by simp [V.refs]) (backE_v rfl (by simp [V.refs]) (backE_d (d_int ?_) (backE_d (d_int (wrapN (by omega))) backE_nil))))
    rw [List.take_add_one, hn, Option.toList_some, ← List.cons_append, gcdL_snoc]; rfl
  simp +contextual only [go_sem]
  simp at h2
  rw [List.take_of_length_le h2]
  refine loop_fam (fun k : Nat => ⟨envJ [.junk, .ptr 0 0, .ptr 1 0, .d (.i (gcdL (m.r.b :: (m.r.c ++ m.t.take k)))), .junk, .d (.i k)], redO m, 2⟩)
    (fun k => k ≤ m.t.length) (fun k => m.t.length - k) 0 (Nat.zero_le _) (SLe.backL _ (by omega) (by omega) (redO_good m) (fun _ _ => rfl) ?_) (fun k hk => ?_)
  · refine backE_junk (backE_v rfl (by simp [V.refs]) (backE_v rfl (by simp [V.refs]) (backE_d (d_int ?_) (backE_junk (backE_d rfl backE_nil)))))
    simp
  simp +contextual only [go_sem]
  refine cond_intro (fun h2 => ?_) (fun h2 => ?_)
  · simp at h2
    obtain ⟨n, hn⟩ : ∃ n, m.t[k]? = some n := ⟨m.t[k], by simp [h2]⟩
    have hnb := hm.t n (List.mem_of_getElem? hn)
    have hgb : gcdL (m.r.b :: (m.r.c ++ m.t.take k)) ≤ 9223372036854775807 := gcdL_cons_le _ (fun x hx => by
      rcases List.mem_cons.1 hx with rfl | hx
      · have := hm.b; omega
      · rcases List.mem_append.1 hx with hx | hx
        · have := hm.c x hx; omega
        · have := hm.t x (List.mem_of_mem_take hx); omega)
    simp +contextual only [go_sem, hn, D.i]
    refine call_keep (gcd_c _ _ (by omega) hnb) rfl ?_
    simp +contextual only [go_sem]
    refine nextS_intro (k + 1) h2 (by omega) (SLe.backL _ (by omega) (by omega) (redO_good m) (fun _ _ => rfl) ?_)
    refine backE_junk (backE_v rfl (by simp [V.refs]) (backE_v rfl (by simp [V.refs]) (backE_d (d_int ?_) (backE_junk (backE_d (d_int (wrapN (by omega))) backE_nil)))))
    have := gcdL_snoc (m.r.b :: (m.r.c ++ m.t.take k)) n
    rw [List.take_add_one, hn, Option.toList_some, ← List.append_assoc, show gcdL (m.r.b :: (m.r.c ++ m.t.take k ++ [n])) = _ from this]; rfl
  simp +contextual only [go_sem]
  simp at h2
  rw [List.take_of_length_le h2]
  have hG : gcdL (m.r.b :: (m.r.c ++ m.t)) = gcdM m := rfl
  rw [hG]
  refine cond_intro (fun h3 => ?_) (fun h3 => ?_)
  · have h0 : gcdM m = 0 := by simpa using h3
    simp +contextual only [go_sem]
    rw [redM_zero h0]
  have h0 : gcdM m ≠ 0 := by simpa using h3
  have hg0 : ¬ ((gcdM m : Int) = 0) := by omega
  have hg1 : (1 : Int) ≤ gcdM m := by omega
  simp +contextual only [go_sem, hg0, if_false]
  refine end_intro (by decide) ?_
  have htd := tdiv_small hm.b hg1
  rw [wrap64 (n := m.r.b.tdiv (gcdM m)) (by omega) (by omega)]
  simp +contextual only [go_sem, hg0, if_false]
  have hlen : ∀ (l : List Int) k, l.length ≤ 1000 → (divs (l.take k) (gcdM m)).length ≤ 1000 := fun l k h => by simp [divs]; omega
  refine loop_fam (fun k : Nat => ⟨envJ [.junk, .ptr 0 0, .ptr 1 0, .d (.i (gcdM m)), .junk, .junk, .ptr 19 0, .d (.i k)], upd (upd (redO m) 20 (.arr 0 3 1 ((divs (m.r.c.take k) (gcdM m)).map .i))) 19 (.row [.osl 20 0, .d (.i m.r.rel), .d (.i (m.r.b.tdiv (gcdM m))), .nils]), 20 + 1⟩)
    (fun k => k ≤ m.r.c.length) (fun k => m.r.c.length - k) 0 (Nat.zero_le _) (SLe.conv _ .nils 19 _ _ (by omega) (by omega) (by omega) ((redO_good m).mono (by omega)) (fun j h1 h2 => ?_) (upd_same _ _ _) (convL_x (convL_d (convL_d (convL_v (by simp [V.refs]) convL_nil)))) (.inl ⟨rfl, by simp [divs], by decide⟩) ?_) (fun k hk => ?_)
  · rw [upd_ne _ _ _ _ h2, upd_ne _ _ _ _ h2]
  · repeat (first | exact convE_nil | refine convE_junk ?_ | refine convE_x rfl ?_ | refine convE_d rfl ?_ | refine convE_d (d_int (wrapN (by omega))) ?_ | refine convE_v rfl (by simp [V.refs] <;> omega) ?_)
  simp +contextual only [go_sem]
  refine cond_intro (fun h2 => ?_) (fun h2 => ?_)
  · simp at h2
    obtain ⟨n, hn⟩ : ∃ n, m.r.c[k]? = some n := ⟨m.r.c[k], by simp [h2]⟩
    have hnb := hm.c n (List.mem_of_getElem? hn)
    have hl := hlen m.r.c k hlc
    have h8f : (divs (m.r.c.take k) (gcdM m)).length ≤ 140737488355327 := by omega
    have h8g : ((divs (m.r.c.take k) (gcdM m)).length + 1) * 8 ≤ 140737488355328 := by omega
    simp +contextual only [go_sem, hn, D.i, hg0, if_false, if_true, h8f, h8g]
    refine end_intro (by decide) ?_
    simp +contextual only [go_sem]
    have hstep : (divs (m.r.c.take k) (gcdM m)).map D.i ++ [D.i (n.tdiv (gcdM m))] = (divs (m.r.c.take (k + 1)) (gcdM m)).map D.i := by
      rw [List.take_add_one, hn]; simp [divs]
    have htn := tdiv_small hnb hg1
    rw [wrap64 (n := n.tdiv (gcdM m)) (by omega) (by omega), hstep]
    refine nextS_intro (k + 1) h2 (by omega) (SLe.conv _ (.osl 20 1) 19 [.osl 20 1, .d (.i m.r.rel), .d (.i (m.r.b.tdiv (gcdM m))), .nils] _ (by omega) (by omega) (by omega) ((redO_good m).mono (by omega)) (fun j h1 h2 => ?_) (upd_same _ _ _) (convL_x (convL_d (convL_d (convL_v (by simp [V.refs]) convL_nil)))) (.inr ⟨20, 1, by omega, rfl, ?_⟩) ?_)
    · repeat (first | rfl | rw [upd_same] | rw [upd_ne _ _ _ _ (by omega)])
    · repeat (first | rfl | rw [upd_same] | rw [upd_ne _ _ _ _ (by omega)])
    · repeat (first | exact convE_nil | refine convE_junk ?_ | refine convE_x rfl ?_ | refine convE_d rfl ?_ | refine convE_d (d_int (wrapN (by omega))) ?_ | refine convE_v rfl (by simp [V.refs] <;> omega) ?_)
  simp +contextual only [go_sem]
  simp at h2
  rw [List.take_of_length_le h2]
  refine loop_fam (fun k : Nat => ⟨envJ [.junk, .ptr 0 0, .ptr 1 0, .d (.i (gcdM m)), .junk, .junk, .ptr 19 0, .junk, .d (.i k)], upd (upd (redO m) 20 (.arr 0 3 1 ((divs (m.t.take k) (gcdM m)).map .i))) 19 (.row [.d (.sl ((divs m.r.c (gcdM m)).map .i)), .d (.i m.r.rel), .d (.i (m.r.b.tdiv (gcdM m))), .osl 20 0]), 20 + 1⟩)
    (fun k => k ≤ m.t.length) (fun k => m.t.length - k) 0 (Nat.zero_le _) (SLe.conv _ .nils 19 [.osl 20 0, .d (.i m.r.rel), .d (.i (m.r.b.tdiv (gcdM m))), .nils] _ (by omega) (by omega) (by omega) ((redO_good m).mono (by omega)) (fun j h1 h2 => ?_) (upd_same _ _ _) (convL_c ?_ (by simp [V.ids]) (convL_d (convL_d (convL_x convL_nil)))) (.inl ⟨rfl, by simp [divs], by decide⟩) ?_) (fun k hk => ?_)
  · repeat (first | rfl | rw [upd_same] | rw [upd_ne _ _ _ _ (by omega)])
  · simp only [toD]
    rw [upd_ne _ _ _ _ (by omega), upd_same]
    simp
  · repeat (first | exact convE_nil | refine convE_junk ?_ | refine convE_x rfl ?_ | refine convE_d rfl ?_ | refine convE_d (d_int (wrapN (by omega))) ?_ | refine convE_v rfl (by simp [V.refs] <;> omega) ?_)
  simp +contextual only [go_sem]
  refine cond_intro (fun h2 => ?_) (fun h2 => ?_)
  · simp at h2
    obtain ⟨n, hn⟩ : ∃ n, m.t[k]? = some n := ⟨m.t[k], by simp [h2]⟩
    have hnb := hm.t n (List.mem_of_getElem? hn)
    have hl := hlen m.t k hlt
    have h8f : (divs (m.t.take k) (gcdM m)).length ≤ 140737488355327 := by omega
    have h8g : ((divs (m.t.take k) (gcdM m)).length + 1) * 8 ≤ 140737488355328 := by omega
    simp +contextual only [go_sem, hn, D.i, hg0, if_false, if_true, h8f, h8g]
    refine end_intro (by decide) ?_
    simp +contextual only [go_sem]
    have hstep : (divs (m.t.take k) (gcdM m)).map D.i ++ [D.i (n.tdiv (gcdM m))] = (divs (m.t.take (k + 1)) (gcdM m)).map D.i := by
      rw [List.take_add_one, hn]; simp [divs]
    have htn := tdiv_small hnb hg1
    rw [wrap64 (n := n.tdiv (gcdM m)) (by omega) (by omega), hstep]
    refine nextS_intro (k + 1) h2 (by omega) (SLe.conv _ (.osl 20 1) 19 [.d (.sl ((divs m.r.c (gcdM m)).map .i)), .d (.i m.r.rel), .d (.i (m.r.b.tdiv (gcdM m))), .osl 20 1] _ (by omega) (by omega) (by omega) ((redO_good m).mono (by omega)) (fun j h1 h2 => ?_) (upd_same _ _ _) (convL_d (convL_d (convL_d (convL_x convL_nil)))) (.inr ⟨20, 1, by omega, rfl, ?_⟩) ?_)
    · repeat (first | rfl | rw [upd_same] | rw [upd_ne _ _ _ _ (by omega)])
    · repeat (first | rfl | rw [upd_same] | rw [upd_ne _ _ _ _ (by omega)])
    · repeat (first | exact convE_nil | refine convE_junk ?_ | refine convE_x rfl ?_ | refine convE_d rfl ?_ | refine convE_d (d_int (wrapN (by omega))) ?_ | refine convE_v rfl (by simp [V.refs] <;> omega) ?_)
  simp +contextual only [go_sem]
  simp at h2
  rw [List.take_of_length_le h2]
  rw [redM_div h0]
end Go.Proofs.Ytaafchgfibbmhaa
namespace Go.Proofs.Ytaafchgfibbmhaa
@[reducible] def madeRow (m : Made) : Obj' := .row [.d (.sl (m.r.c.map .i)), .d (.i m.r.rel), .d (.i m.r.b), .d (.sl (m.t.map .i))]
@[reducible] def zeroRow : Obj' := .row [.nils, .d (.i 0), .d (.i 0), .nils]
@[reducible] def sumO (s : Sys) (x y : Made) : Nat → Obj' := upd (upd (upd (upd (fun _ => .no) 0 (.row [.d (.i s.vars), .d (.sl (s.rows.map Row.d))])) 1 (madeRow x)) 2 (madeRow y)) 3 zeroRow
theorem sumO_good (s : Sys) (x y : Made) : Good (sumO s x y) 4 := ((((Good.nil (nx := 4)).upd (by omega) rfl).upd (by omega) rfl).upd (by omega) rfl).upd (by omega) rfl
theorem comb_snoc {a b : Int} {x y : List Int} {k : Nat} {p q : Int} (hp : x[k]? = some p) (hq : y[k]? = some q) : comb a (x.take (k + 1)) b (y.take (k + 1)) = comb a (x.take k) b (y.take k) ++ [a * p + b * q] := by
  have h1 := (List.getElem?_eq_some_iff.1 hp).1
  have h2 := (List.getElem?_eq_some_iff.1 hq).1
  rw [List.take_add_one, List.take_add_one, hp, hq]
  simp only [comb, Option.toList_some]
  rw [List.zipWith_append (by simp; omega)]
  rfl
theorem mulE_bound {a p : Int} (ha : -1000000000 ≤ a ∧ a ≤ 1000000000) (hp : -1000000000 ≤ p ∧ p ≤ 1000000000) : -1000000000000000000 ≤ a * p ∧ a * p ≤ 1000000000000000000 := by
  have h : (a * p).natAbs ≤ 1000000000 * 1000000000 := by
    rw [Int.natAbs_mul]; exact Nat.mul_le_mul (by omega) (by omega)
  omega
theorem sum'_c (s : Sys) (a : Int) (x : Made) (b : Int) (y : Made) {nv nr : Nat} (hx : x.Ok nv nr) (hy : y.Ok nv nr) (hv : nv ≤ 5) (hr : nr ≤ 10) (hsv : s.vars = nv) (hsr : s.rows.length = nr) (ha : -1000000000 ≤ a ∧ a ≤ 1000000000) (hb : -1000000000 ≤ b ∧ b ≤ 1000000000) :
    PCt Try.prog 118 [s.d, x.d, .i a, y.d, .i b] (.ret [(sumM s a x b y).d]) := by
  have hxc := hx.lc
  have hyc := hy.lc
  have hxt := hx.lt
  have hyt := hy.lt
  refine PCt.of_ev mix fn118 (by simp) ?_
  rw [c118]
  simp +contextual only [go_sem, Made.d, Row.d, Sys.d]
  refine loop_fam (fun k : Nat => ⟨envJ [.junk, .junk, .d (.i a), .junk, .d (.i b), .ptr 0 0, .ptr 1 0, .junk, .ptr 2 0, .junk, .ptr 3 0, .ptr 4 0, .d (.i k)], upd (upd (sumO s x y) 5 (.arr 0 3 1 ((comb a (x.r.c.take k) b (y.r.c.take k)).map .i))) 4 (.row [.osl 5 0, .d (.i 0), .d (.i 0), .nils]), 5 + 1⟩)
    (fun k => k ≤ nv) (fun k => nv - k) 0 (Nat.zero_le _) (SLe.conv _ .nils 4 [.nils, .d (.i 0), .d (.i 0), .nils] _ (by omega) (by omega) (by omega) ((sumO_good s x y).mono (by omega)) (fun j h1 h2 => ?_) (upd_same _ _ _) (convL_x (convL_d (convL_d (convL_v (by simp [V.refs]) convL_nil)))) (.inl ⟨rfl, by simp [comb], by decide⟩) ?_) (fun k hk => ?_)
  · repeat (first | rfl | rw [upd_same] | rw [upd_ne _ _ _ _ (by omega)])
  · repeat (first | exact convE_nil | refine convE_junk ?_ | refine convE_x rfl ?_ | refine convE_d rfl ?_ | refine convE_d (d_int (wrapN (by omega))) ?_ | refine convE_v rfl (by simp [V.refs] <;> omega) ?_)
  simp +contextual only [go_sem]
  refine cond_intro (fun h2 => ?_) (fun h2 => ?_)
  · simp at h2
    obtain ⟨p, hp⟩ : ∃ p, x.r.c[k]? = some p := ⟨x.r.c[k]'(by omega), List.getElem?_eq_getElem _⟩
    obtain ⟨q, hq⟩ : ∃ q, y.r.c[k]? = some q := ⟨y.r.c[k]'(by omega), List.getElem?_eq_getElem _⟩
    have m1 := mulE_bound ha (hx.c p (List.mem_of_getElem? hp))
    have m2 := mulE_bound hb (hy.c q (List.mem_of_getElem? hq))
    have hl : (comb a (x.r.c.take k) b (y.r.c.take k)).length ≤ 5 := by simp [comb]; omega
    have h8f : (comb a (x.r.c.take k) b (y.r.c.take k)).length ≤ 140737488355327 := by omega
    have h8g : ((comb a (x.r.c.take k) b (y.r.c.take k)).length + 1) * 8 ≤ 140737488355328 := by omega
    simp +contextual only [go_sem, hp, hq, D.i, if_false, if_true, h8f, h8g]
    refine end_intro (by decide) ?_
    simp +contextual only [go_sem]
    rw [wrap64 (n := a * p) (by omega) (by omega), wrap64 (n := b * q) (by omega) (by omega), wrap64 (n := a * p + b * q) (by omega) (by omega)]
    have hstep : (comb a (x.r.c.take k) b (y.r.c.take k)).map D.i ++ [D.i (a * p + b * q)] = (comb a (x.r.c.take (k + 1)) b (y.r.c.take (k + 1))).map D.i := by rw [comb_snoc hp hq]; simp
    rw [hstep]
    refine nextS_intro (k + 1) (by omega) (by omega) (SLe.conv _ (.osl 5 1) 4 [.osl 5 1, .d (.i 0), .d (.i 0), .nils] _ (by omega) (by omega) (by omega) ((sumO_good s x y).mono (by omega)) (fun j h1 h2 => ?_) (upd_same _ _ _) (convL_x (convL_d (convL_d (convL_v (by simp [V.refs]) convL_nil)))) (.inr ⟨5, 1, by omega, rfl, ?_⟩) ?_)
    · repeat (first | rfl | rw [upd_same] | rw [upd_ne _ _ _ _ (by omega)])
    · repeat (first | rfl | rw [upd_same] | rw [upd_ne _ _ _ _ (by omega)])
    · repeat (first | exact convE_nil | refine convE_junk ?_ | refine convE_x rfl ?_ | refine convE_d rfl ?_ | refine convE_d (d_int (wrapN (by omega))) ?_ | refine convE_v rfl (by simp [V.refs] <;> omega) ?_)
  simp +contextual only [go_sem]
  simp at h2
  have hkv : k = nv := by omega
  rw [List.take_of_length_le (by omega), List.take_of_length_le (by omega)]
  have m1 := mulE_bound ha hx.b
  have m2 := mulE_bound hb hy.b
  rw [wrap64 (n := a * x.r.b) (by omega) (by omega), wrap64 (n := b * y.r.b) (by omega) (by omega), wrap64 (n := a * x.r.b + b * y.r.b) (by omega) (by omega)]
  refine loop_fam (fun k : Nat => ⟨envJ [.junk, .junk, .d (.i a), .junk, .d (.i b), .ptr 0 0, .ptr 1 0, .junk, .ptr 2 0, .junk, .ptr 3 0, .ptr 4 0, .junk, .d (.i k)], upd (upd (sumO s x y) 5 (.arr 0 3 1 ((comb a (x.t.take k) b (y.t.take k)).map .i))) 4 (.row [.d (.sl ((comb a x.r.c b y.r.c).map .i)), .d (.i 0), .d (.i (a * x.r.b + b * y.r.b)), .osl 5 0]), 5 + 1⟩)
    (fun k => k ≤ nr) (fun k => nr - k) 0 (Nat.zero_le _) (SLe.conv _ .nils 4 [.osl 5 0, .d (.i 0), .d (.i (a * x.r.b + b * y.r.b)), .nils] _ (by omega) (by omega) (by omega) ((sumO_good s x y).mono (by omega)) (fun j h1 h2 => ?_) (upd_same _ _ _) (convL_c ?_ (by simp [V.ids]) (convL_d (convL_d (convL_x convL_nil)))) (.inl ⟨rfl, by simp [comb], by decide⟩) ?_) (fun k hk => ?_)
  · repeat (first | rfl | rw [upd_same] | rw [upd_ne _ _ _ _ (by omega)])
  · simp only [toD]
    rw [upd_ne _ _ _ _ (by omega), upd_ne _ _ _ _ (by omega), upd_same]
    simp
  · repeat (first | exact convE_nil | refine convE_junk ?_ | refine convE_x rfl ?_ | refine convE_d rfl ?_ | refine convE_d (d_int (wrapN (by omega))) ?_ | refine convE_v rfl (by simp [V.refs] <;> omega) ?_)
  simp +contextual only [go_sem]
  refine cond_intro (fun h2 => ?_) (fun h2 => ?_)
  · simp at h2
    obtain ⟨p, hp⟩ : ∃ p, x.t[k]? = some p := ⟨x.t[k]'(by omega), List.getElem?_eq_getElem _⟩
    obtain ⟨q, hq⟩ : ∃ q, y.t[k]? = some q := ⟨y.t[k]'(by omega), List.getElem?_eq_getElem _⟩
    have m1 := mulE_bound ha (hx.t p (List.mem_of_getElem? hp))
    have m2 := mulE_bound hb (hy.t q (List.mem_of_getElem? hq))
    have hl : (comb a (x.t.take k) b (y.t.take k)).length ≤ 10 := by simp [comb]; omega
    have h8f : (comb a (x.t.take k) b (y.t.take k)).length ≤ 140737488355327 := by omega
    have h8g : ((comb a (x.t.take k) b (y.t.take k)).length + 1) * 8 ≤ 140737488355328 := by omega
    simp +contextual only [go_sem, hp, hq, D.i, if_false, if_true, h8f, h8g]
    refine end_intro (by decide) ?_
    simp +contextual only [go_sem]
    rw [wrap64 (n := a * p) (by omega) (by omega), wrap64 (n := b * q) (by omega) (by omega), wrap64 (n := a * p + b * q) (by omega) (by omega)]
    have hstep : (comb a (x.t.take k) b (y.t.take k)).map D.i ++ [D.i (a * p + b * q)] = (comb a (x.t.take (k + 1)) b (y.t.take (k + 1))).map D.i := by rw [comb_snoc hp hq]; simp
    rw [hstep]
    refine nextS_intro (k + 1) (by omega) (by omega) (SLe.conv _ (.osl 5 1) 4 [.d (.sl ((comb a x.r.c b y.r.c).map .i)), .d (.i 0), .d (.i (a * x.r.b + b * y.r.b)), .osl 5 1] _ (by omega) (by omega) (by omega) ((sumO_good s x y).mono (by omega)) (fun j h1 h2 => ?_) (upd_same _ _ _) (convL_d (convL_d (convL_d (convL_x convL_nil)))) (.inr ⟨5, 1, by omega, rfl, ?_⟩) ?_)
    · repeat (first | rfl | rw [upd_same] | rw [upd_ne _ _ _ _ (by omega)])
    · repeat (first | rfl | rw [upd_same] | rw [upd_ne _ _ _ _ (by omega)])
    · repeat (first | exact convE_nil | refine convE_junk ?_ | refine convE_x rfl ?_ | refine convE_d rfl ?_ | refine convE_d (d_int (wrapN (by omega))) ?_ | refine convE_v rfl (by simp [V.refs] <;> omega) ?_)
  simp +contextual only [go_sem]
  simp at h2
  rw [List.take_of_length_le (by omega), List.take_of_length_le (by omega)]
  refine call_keep (kind_c s (comb a x.t b y.t) (by rw [comb_length (by omega)]; omega) (by omega)) rfl ?_
  simp +contextual only [go_sem]
  have hnum := rawSum_num (s := s) hx hy hv hr ha hb
  have hred := reduced'_c (rawSum s a x b y) hnum
  refine call_give hred ?_
  simp +contextual only [go_sem]
  rfl
end Go.Proofs.Ytaafchgfibbmhaa
namespace Go.Proofs.Ytaafchgfibbmhaa
theorem emptyR_eq {r : Row} (h : r.c.length ≤ 5) : emptyR r = emptyF r := by
  rw [Bool.eq_iff_iff]
  simp only [emptyR, emptyF, List.all_eq_true, beq_iff_eq, decide_eq_true_eq]
  constructor
  · intro ha
    have key : ∀ i, r.c.getD i 0 = 0 := fun i => by
      rw [List.getD_eq_getElem?_getD]
      cases hi : r.c[i]? with
      | none => rfl
      | some x => exact ha x (List.mem_of_getElem? hi)
    exact ⟨key 0, key 1, key 2, key 3, key 4⟩
  · rintro ⟨h0, h1, h2, h3, h4⟩ x hx
    obtain ⟨i, hi, rfl⟩ := List.getElem_of_mem hx
    have e : r.c.getD i 0 = 0 := by
      rcases (by omega : i = 0 ∨ i = 1 ∨ i = 2 ∨ i = 3 ∨ i = 4) with h | h | h | h | h <;> rw [h] <;> assumption
    rw [List.getD_eq_getElem?_getD, List.getElem?_eq_getElem hi] at e
    simpa using e
theorem first'_c (s : Sys) (hc : checkF s = true) : PCt Try.prog 63 [s.d] (.ret [stD (beginL s s.rows.length)]) := by
  obtain ⟨v1, v5, r10, hall⟩ := check_rows hc
  refine PCt.of_ev mix fn63 (by simp) ?_
  rw [c63]
  simp +contextual only [go_sem, Sys.d]
  refine loop_fam (fun k : Nat => ⟨envJ [.junk, .ptr 0 0, .junk, .osl 1 0, .d (.i k)], upd s.o 1 (.arr 0 47 4 ((beginL s k).map Made.d)), 1 + 1⟩)
    (fun k => k ≤ s.rows.length) (fun k => s.rows.length - k) 0 (Nat.zero_le _) (SLe.grow _ .nils (Nat.zero_le _) (by omega) s.o_good (fun _ _ => rfl) (.inl ⟨rfl, rfl, by decide⟩) ?_) (fun k hk => ?_)
  · repeat (first | exact growE_nil | refine growE_junk ?_ | refine growE_x rfl ?_ | refine growE_d rfl ?_ | refine growE_d (d_int (wrapN (by omega))) ?_ | refine growE_v rfl (by simp [V.refs] <;> omega) ?_)
  simp +contextual only [go_sem]
  refine cond_intro (fun h2 => ?_) (fun h2 => ?_)
  · simp at h2
    obtain ⟨r, hr⟩ : ∃ r, s.rows[k]? = some r := ⟨s.rows[k], List.getElem?_eq_getElem _⟩
    obtain ⟨e1, e2, e3, _⟩ := hall r (List.mem_of_getElem? hr)
    have h8a : 8 * s.rows.length ≤ 140737488355328 := by omega
    have h8b : s.rows.length ≤ 140737488355328 := by omega
    have h8c : k < (List.replicate s.rows.length (D.int .i64 0)).length := by simp; omega
    have h8d : (List.replicate s.rows.length (D.int .i64 0))[k]? = some (D.int .i64 0) := by rw [List.getElem?_replicate, if_pos (by omega)]
    have h8e : (List.replicate s.rows.length (D.int .i64 0)).set k (D.int .i64 1) = (unitL s.rows.length k).map D.i := by simp [unitL, List.map_set, D.i]
    have hbl := beginL_length s k
    have h8f : (beginL s k).length ≤ 140737488355327 := by omega
    have h8g : ((beginL s k).length + 1) * 64 ≤ 140737488355328 := by omega
    simp +contextual only [go_sem, hr, Row.d, h8a, h8b, h8c, h8d, h8e, if_true, if_false]
    refine end_intro (by decide) ?_
    simp +contextual only [go_sem, hr, Row.d, h8a, h8b, h8c, h8d, h8e, if_true, if_false]
    obtain ⟨f1, f2⟩ := first_num hc hr
    have hred := reduced'_c (firstM s k r) f1
    refine call_keep (empty'_c r (by omega)) rfl ?_
    have hee := emptyR_eq (r := r) (by omega)
    cases he : emptyR r with
    | false =>
      have hgn : goneF r = false := by simp [goneF, ← hee, he]
      simp +contextual only [go_sem, hr, Row.d, h8a, h8b, h8c, h8d, h8e, h8f, h8g, if_true, if_false]
      refine call_give hred ?_
      simp +contextual only [go_sem, hr, Row.d, h8a, h8b, h8c, h8d, h8e, h8f, h8g, if_true, if_false]
      have hbe : beginL s k ++ [redM (firstM s k r)] = beginL s (k + 1) := by simp [beginL, hr, hgn]
      have hbe2 : (beginL s k).map Made.d ++ [(redM (firstM s k r)).d] = (beginL s (k + 1)).map Made.d := by rw [← hbe, List.map_append]; rfl
      rw [hbe2]
      refine nextS_intro (k + 1) h2 (by omega) (SLe.grow _ (.osl 1 1) (Nat.zero_le _) (by omega) s.o_good (fun j hj => ?_) (.inr ⟨1, 1, Nat.le_refl _, rfl, ?_⟩) ?_)
      · repeat (first | rfl | rw [upd_same] | rw [upd_ne _ _ _ _ (by omega)])
      · repeat (first | rfl | rw [upd_same] | rw [upd_ne _ _ _ _ (by omega)])
      · repeat (first | exact growE_nil | refine growE_junk ?_ | refine growE_x rfl ?_ | refine growE_d rfl ?_ | refine growE_d (d_int (wrapN (by omega))) ?_ | refine growE_v rfl (by simp [V.refs] <;> omega) ?_)
    | true =>
      simp +contextual only [go_sem, hr, Row.d, h8a, h8b, h8c, h8d, h8e, h8f, h8g, if_true, if_false]
      refine call_keep (true'_c r) rfl ?_
      cases ht : relF 0 r.rel r.b with
      | false =>
        have hgn : goneF r = false := by simp [goneF, ← hee, he, ht]
        simp +contextual only [go_sem, hr, Row.d, h8a, h8b, h8c, h8d, h8e, h8f, h8g, if_true, if_false]
        refine call_give hred ?_
        simp +contextual only [go_sem, hr, Row.d, h8a, h8b, h8c, h8d, h8e, h8f, h8g, if_true, if_false]
        have hbe : beginL s k ++ [redM (firstM s k r)] = beginL s (k + 1) := by simp [beginL, hr, hgn]
        have hbe2 : (beginL s k).map Made.d ++ [(redM (firstM s k r)).d] = (beginL s (k + 1)).map Made.d := by rw [← hbe, List.map_append]; rfl
        rw [hbe2]
        refine nextS_intro (k + 1) h2 (by omega) (SLe.grow _ (.osl 1 1) (Nat.zero_le _) (by omega) s.o_good (fun j hj => ?_) (.inr ⟨1, 1, Nat.le_refl _, rfl, ?_⟩) ?_)
        · repeat (first | rfl | rw [upd_same] | rw [upd_ne _ _ _ _ (by omega)])
        · repeat (first | rfl | rw [upd_same] | rw [upd_ne _ _ _ _ (by omega)])
        · repeat (first | exact growE_nil | refine growE_junk ?_ | refine growE_x rfl ?_ | refine growE_d rfl ?_ | refine growE_d (d_int (wrapN (by omega))) ?_ | refine growE_v rfl (by simp [V.refs] <;> omega) ?_)
      | true =>
        have hgn : goneF r = true := by simp [goneF, ← hee, he, ht]
        simp +contextual only [go_sem, hr, Row.d, h8a, h8b, h8c, h8d, h8e, h8f, h8g, if_true, if_false]
        have hbe : beginL s (k + 1) = beginL s k := by simp [beginL, hr, hgn]
        rw [← hbe]
        refine nextS_intro (k + 1) h2 (by omega) (SLe.grow _ (.osl 1 0) (Nat.zero_le _) (by omega) s.o_good (fun j hj => ?_) (.inr ⟨1, 0, Nat.le_refl _, rfl, ?_⟩) ?_)
        · repeat (first | rfl | rw [upd_same] | rw [upd_ne _ _ _ _ (by omega)])
        · repeat (first | rfl | rw [upd_same] | rw [upd_ne _ _ _ _ (by omega)])
        · repeat (first | exact growE_nil | refine growE_junk ?_ | refine growE_x rfl ?_ | refine growE_d rfl ?_ | refine growE_d (d_int (wrapN (by omega))) ?_ | refine growE_v rfl (by simp [V.refs] <;> omega) ?_)
  · simp +contextual only [go_sem]
    simp at h2
    have hks : k = s.rows.length := by omega
    subst hks
    rfl
end Go.Proofs.Ytaafchgfibbmhaa
namespace Go.Proofs.Ytaafchgfibbmhaa
def stayR (l : List Made) (m : Made) (j : Nat) : Bool := !goneF m.r && !((l.take j).any fun x => rowEq x.r m.r)
def keptR (l : List Made) : Nat → List Made
  | 0 => []
  | k + 1 => match l[k]? with
    | some m => if stayR l m k = true then keptR l k ++ [m] else keptR l k
    | none => keptR l k
theorem keptR_len (l : List Made) : ∀ k, (keptR l k).length ≤ k
  | 0 => Nat.le_refl _
  | k + 1 => by
    have := keptR_len l k
    simp only [keptR]
    split
    · split
      · simp; omega
      · omega
    · omega
theorem stayR_succ {l : List Made} {m x : Made} {j : Nat} (h : l[j]? = some x) : stayR l m (j + 1) = (stayR l m j && !rowEq x.r m.r) := by
  simp only [stayR, List.take_add_one, h, Option.toList_some, List.any_append, List.any_cons, List.any_nil, Bool.or_false, Bool.not_or, Bool.and_assoc]
theorem kept_c (l : List Made) (hl : l.length ≤ 1002000) (hc : ∀ m ∈ l, m.r.c.length ≤ 5) : PCt Try.prog 97 [stD l] (.ret [stD (keptR l l.length)]) := by
  refine PCt.of_ev mix fn97 (by simp) ?_
  rw [c97]
  simp +contextual only [go_sem, stD]
  refine loop_fam (fun k : Nat => ⟨envJ [.d (stD l), .junk, .junk, .osl 0 0, .d (.i k)], upd (fun _ => .no) 0 (.arr 0 47 4 ((keptR l k).map Made.d)), 0 + 1⟩)
    (fun k => k ≤ l.length) (fun k => l.length - k) 0 (Nat.zero_le _) (SLe.grow _ .nils (Nat.zero_le _) (by omega) Good.nil (fun _ _ => rfl) (.inl ⟨rfl, rfl, by decide⟩) ?_) (fun k hk => ?_)
  · repeat (first | exact growE_nil | refine growE_junk ?_ | refine growE_x rfl ?_ | refine growE_d rfl ?_ | refine growE_d (d_int (wrapN (by omega))) ?_ | refine growE_v rfl (by simp [V.refs] <;> omega) ?_)
  simp +contextual only [go_sem, stD]
  refine cond_intro (fun h2 => ?_) (fun h2 => ?_)
  · simp at h2
    obtain ⟨m, hm⟩ : ∃ m, l[k]? = some m := ⟨l[k], List.getElem?_eq_getElem _⟩
    have hmc := hc m (List.mem_of_getElem? hm)
    have hkl := keptR_len l k
    have h8f : (keptR l k).length ≤ 140737488355327 := by omega
    have h8g : ((keptR l k).length + 1) * 64 ≤ 140737488355328 := by omega
    simp +contextual only [go_sem, stD, hm, Made.d, Row.d, if_true, if_false]
    have hee := emptyR_eq (r := m.r) hmc
    have hgo : goneF m.r = (emptyR m.r && relF 0 m.r.rel m.r.b) := by rw [goneF, hee]
    refine call_keep (empty'_c m.r (by omega)) rfl ?_
    cases he : emptyR m.r with
    | false =>
      simp +contextual only [go_sem, stD, hm, Made.d, Row.d, if_true, if_false]
      have h0 : D.bool true = D.bool (stayR l m 0) := by simp [stayR, hgo, he]
      rw [h0]
      refine loop_fam (fun j : Nat => ⟨envJ [.d (stD l), .junk, .junk, .osl 0 0, .d (.i k), .d (.bool (stayR l m j)), .d (.i j)], upd (fun _ => .no) 0 (.arr 0 47 4 ((keptR l k).map Made.d)), 0 + 1⟩)
        (fun j => j ≤ k) (fun j => k - j) 0 (Nat.zero_le _) (SLe.backL _ (by omega) (by omega) ((Good.nil (nx := 1)).upd (by omega) rfl) (fun j hj => ?_) ?_) (fun j hj => ?_)
      · repeat (first | rfl | rw [upd_same] | rw [upd_ne _ _ _ _ (by omega)])
      · refine backE_d rfl (backE_junk (backE_junk (backE_v rfl (by simp [V.refs]) (backE_d rfl (backE_d rfl (backE_d rfl backE_nil))))))
      simp +contextual only [go_sem, stD]
      refine cond_intro (fun h3 => ?_) (fun h3 => ?_)
      · simp at h3
        obtain ⟨x, hx⟩ : ∃ x, l[j]? = some x := ⟨l[j]'(by omega), List.getElem?_eq_getElem _⟩
        have hxc := hc x (List.mem_of_getElem? hx)
        have hsucc := stayR_succ (m := m) hx
        cases hst : stayR l m j with
        | false =>
          simp +contextual only [go_sem, stD]
          refine end_intro (by decide) ?_
          simp +contextual only [go_sem]
          refine nextS_intro (j + 1) (by omega) (by omega) (SLe.backL _ (by omega) (by omega) ((Good.nil (nx := 1)).upd (by omega) rfl) (fun _ _ => rfl) ?_)
          have hb : stayR l m (j + 1) = false := by rw [hsucc, hst]; rfl
          refine backE_d rfl (backE_junk (backE_junk (backE_v rfl (by simp [V.refs]) (backE_d rfl (backE_d (by rw [hb]; rfl) (backE_d (d_int (wrapN (by omega))) backE_nil))))))
        | true =>
          simp +contextual only [go_sem, stD, hx, hm, Made.d, Row.d]
          refine callD_keep (sameRow_c x.r m.r (by omega)) rfl ?_
          simp +contextual only [go_sem]
          refine end_intro (by decide) ?_
          simp +contextual only [go_sem]
          refine nextS_intro (j + 1) (by omega) (by omega) (SLe.backL _ (by omega) (by omega) ((Good.nil (nx := 1)).upd (by omega) rfl) (fun _ _ => rfl) ?_)
          have hb : stayR l m (j + 1) = !rowEq x.r m.r := by rw [hsucc, hst]; rfl
          refine backE_d rfl (backE_junk (backE_junk (backE_v rfl (by simp [V.refs]) (backE_d rfl (backE_d (by rw [hb]; rfl) (backE_d (d_int (wrapN (by omega))) backE_nil))))))
      · simp +contextual only [go_sem]
        simp at h3
        have hjk : j = k := by omega
        subst hjk
        refine cond_intro (fun h4 => ?_) (fun h4 => ?_)
        · simp +contextual only [go_sem, stD, hm, Made.d, Row.d, if_true, if_false, h8f, h8g]
          have hk2 : (keptR l j).map Made.d ++ [m.d] = (keptR l (j + 1)).map Made.d := by simp only [keptR, hm, h4, if_true, List.map_append, List.map_cons, List.map_nil]
          rw [hk2]
          refine nextS_intro (j + 1) (by omega) (by omega) (SLe.grow _ (.osl 0 1) (Nat.zero_le _) (by omega) Good.nil (fun j hj => by omega) (.inr ⟨0, 1, Nat.le_refl _, rfl, ?_⟩) ?_)
          · repeat (first | rfl | rw [upd_same] | rw [upd_ne _ _ _ _ (by omega)])
          · repeat (first | exact growE_nil | refine growE_junk ?_ | refine growE_x rfl ?_ | refine growE_d rfl ?_ | refine growE_d (d_int (wrapN (by omega))) ?_ | refine growE_v rfl (by simp [V.refs] <;> omega) ?_)
        · simp +contextual only [go_sem, stD, hm, Made.d, Row.d, if_true, if_false, h8f, h8g]
          have hk2 : keptR l j = keptR l (j + 1) := by simp only [keptR, hm, h4, Bool.false_eq_true, if_false]
          rw [hk2]
          refine nextS_intro (j + 1) (by omega) (by omega) (SLe.grow _ (.osl 0 0) (Nat.zero_le _) (by omega) Good.nil (fun j hj => by omega) (.inr ⟨0, 0, Nat.le_refl _, rfl, ?_⟩) ?_)
          · repeat (first | rfl | rw [upd_same] | rw [upd_ne _ _ _ _ (by omega)])
          · repeat (first | exact growE_nil | refine growE_junk ?_ | refine growE_x rfl ?_ | refine growE_d rfl ?_ | refine growE_d (d_int (wrapN (by omega))) ?_ | refine growE_v rfl (by simp [V.refs] <;> omega) ?_)
    | true =>
      simp +contextual only [go_sem, stD, hm, Made.d, Row.d, if_true, if_false]
      refine call_keep (true'_c m.r) rfl ?_
      simp +contextual only [go_sem]
      have h0 : (!relF 0 m.r.rel m.r.b) = stayR l m 0 := by simp [stayR, hgo, he]
      rw [h0]
      refine loop_fam (fun j : Nat => ⟨envJ [.d (stD l), .junk, .junk, .osl 0 0, .d (.i k), .d (.bool (stayR l m j)), .d (.i j)], upd (fun _ => .no) 0 (.arr 0 47 4 ((keptR l k).map Made.d)), 0 + 1⟩)
        (fun j => j ≤ k) (fun j => k - j) 0 (Nat.zero_le _) (SLe.backL _ (by omega) (by omega) ((Good.nil (nx := 1)).upd (by omega) rfl) (fun j hj => ?_) ?_) (fun j hj => ?_)
      · repeat (first | rfl | rw [upd_same] | rw [upd_ne _ _ _ _ (by omega)])
      · refine backE_d rfl (backE_junk (backE_junk (backE_v rfl (by simp [V.refs]) (backE_d rfl (backE_d rfl (backE_d rfl backE_nil))))))
      simp +contextual only [go_sem, stD]
      refine cond_intro (fun h3 => ?_) (fun h3 => ?_)
      · simp at h3
        obtain ⟨x, hx⟩ : ∃ x, l[j]? = some x := ⟨l[j]'(by omega), List.getElem?_eq_getElem _⟩
        have hxc := hc x (List.mem_of_getElem? hx)
        have hsucc := stayR_succ (m := m) hx
        cases hst : stayR l m j with
        | false =>
          simp +contextual only [go_sem, stD]
          refine end_intro (by decide) ?_
          simp +contextual only [go_sem]
          refine nextS_intro (j + 1) (by omega) (by omega) (SLe.backL _ (by omega) (by omega) ((Good.nil (nx := 1)).upd (by omega) rfl) (fun _ _ => rfl) ?_)
          have hb : stayR l m (j + 1) = false := by rw [hsucc, hst]; rfl
          refine backE_d rfl (backE_junk (backE_junk (backE_v rfl (by simp [V.refs]) (backE_d rfl (backE_d (by rw [hb]; rfl) (backE_d (d_int (wrapN (by omega))) backE_nil))))))
        | true =>
          simp +contextual only [go_sem, stD, hx, hm, Made.d, Row.d]
          refine callD_keep (sameRow_c x.r m.r (by omega)) rfl ?_
          simp +contextual only [go_sem]
          refine end_intro (by decide) ?_
          simp +contextual only [go_sem]
          refine nextS_intro (j + 1) (by omega) (by omega) (SLe.backL _ (by omega) (by omega) ((Good.nil (nx := 1)).upd (by omega) rfl) (fun _ _ => rfl) ?_)
          have hb : stayR l m (j + 1) = !rowEq x.r m.r := by rw [hsucc, hst]; rfl
          refine backE_d rfl (backE_junk (backE_junk (backE_v rfl (by simp [V.refs]) (backE_d rfl (backE_d (by rw [hb]; rfl) (backE_d (d_int (wrapN (by omega))) backE_nil))))))
      · simp +contextual only [go_sem]
        simp at h3
        have hjk : j = k := by omega
        subst hjk
        refine cond_intro (fun h4 => ?_) (fun h4 => ?_)
        · simp +contextual only [go_sem, stD, hm, Made.d, Row.d, if_true, if_false, h8f, h8g]
          have hk2 : (keptR l j).map Made.d ++ [m.d] = (keptR l (j + 1)).map Made.d := by simp only [keptR, hm, h4, if_true, List.map_append, List.map_cons, List.map_nil]
          rw [hk2]
          refine nextS_intro (j + 1) (by omega) (by omega) (SLe.grow _ (.osl 0 1) (Nat.zero_le _) (by omega) Good.nil (fun j hj => by omega) (.inr ⟨0, 1, Nat.le_refl _, rfl, ?_⟩) ?_)
          · repeat (first | rfl | rw [upd_same] | rw [upd_ne _ _ _ _ (by omega)])
          · repeat (first | exact growE_nil | refine growE_junk ?_ | refine growE_x rfl ?_ | refine growE_d rfl ?_ | refine growE_d (d_int (wrapN (by omega))) ?_ | refine growE_v rfl (by simp [V.refs] <;> omega) ?_)
        · simp +contextual only [go_sem, stD, hm, Made.d, Row.d, if_true, if_false, h8f, h8g]
          have hk2 : keptR l j = keptR l (j + 1) := by simp only [keptR, hm, h4, Bool.false_eq_true, if_false]
          rw [hk2]
          refine nextS_intro (j + 1) (by omega) (by omega) (SLe.grow _ (.osl 0 0) (Nat.zero_le _) (by omega) Good.nil (fun j hj => by omega) (.inr ⟨0, 0, Nat.le_refl _, rfl, ?_⟩) ?_)
          · repeat (first | rfl | rw [upd_same] | rw [upd_ne _ _ _ _ (by omega)])
          · repeat (first | exact growE_nil | refine growE_junk ?_ | refine growE_x rfl ?_ | refine growE_d rfl ?_ | refine growE_d (d_int (wrapN (by omega))) ?_ | refine growE_v rfl (by simp [V.refs] <;> omega) ?_)
  · simp +contextual only [go_sem]
    simp at h2
    have hks : k = l.length := by omega
    subst hks
    rfl
end Go.Proofs.Ytaafchgfibbmhaa
