/-
  A PART OF THE PROOF (put together by program): several texts, one behind the other. Conditions: none.
-/
import Derived.Test.YtaafchgfibbmhaaPk25
set_option linter.unusedSimpArgs false
set_option linter.unusedVariables false
namespace Go.Proofs.Ytaafchgfibbmhaa
def divs (l : List Int) (g : Int) : List Int := l.map (fun n => n.tdiv g)
theorem tdiv_small {n g : Int} (hn : -9223372036854775807 ≤ n ∧ n ≤ 9223372036854775807) (hg : 1 ≤ g) : -9223372036854775807 ≤ n.tdiv g ∧ n.tdiv g ≤ 9223372036854775807 := by
  have h1 : (n.tdiv g).natAbs ≤ n.natAbs := by rw [Int.natAbs_tdiv]; exact Nat.div_le_self _ _
  omega
theorem by_c (l : List Int) (g : Int) (id : Nat) (o : Nat → Obj') (ho : o id = .row [.d (.i g)]) (hg1 : 1 ≤ g) (hl : l.length ≤ 1000) (hb : ∀ n ∈ l, -9223372036854775807 ≤ n ∧ n ≤ 9223372036854775807) :
    CtD Try.prog 128 [.d (.sl (l.map .i)), .ptr id 0] o (.sl ((divs l g).map .i)) := by
  intro nx hg K X hK
  have hid : id < nx := hg.lt (by rw [ho]; exact Obj'.noConfusion)
  refine CtK.of_ev mix fn128 (by simp) ?_
  rw [c128]
  simp +contextual only [go_sem]
  refine loop_fam (fun k : Nat => ⟨envJ [.junk, .ptr id 0, .junk, .junk, .osl nx 0, .junk, .junk, .d (.sl (l.map .i)), .d (.i l.length), .d (.i k)], upd o nx (.arr 0 3 1 ((divs (l.take k) g).map .i)), nx + 1⟩)
    (fun k => k ≤ l.length) (fun k => l.length - k) 0 (Nat.zero_le _) (SLe.grow _ .nils (Nat.le_refl _) (by omega) hg (fun _ _ => rfl) (.inl ⟨rfl, rfl, by decide⟩) ?_) (fun k hk => ?_)
  · exact growE_junk (growE_v rfl (by simp [V.refs]; omega) (growE_junk (growE_junk (growE_x rfl (growE_junk (growE_junk (growE_d rfl (growE_d rfl (growE_d rfl growE_nil)))))))))
  simp +contextual only [go_sem]
  refine cond_intro (fun h2 => ?_) (fun h2 => ?_)
  · simp at h2
    obtain ⟨n, hn⟩ : ∃ n, l[k]? = some n := ⟨l[k], by simp [h2]⟩
    have hnb := hb n (List.mem_of_getElem? hn)
    have hg0 : ¬ (g = 0) := by omega
    have hne : id ≠ nx := by omega
    have hlen : (divs (l.take k) g).length ≤ 140737488355327 := by simp [divs]; omega
    have hlen8 : ((divs (l.take k) g).length + 1) * 8 ≤ 140737488355328 := by simp [divs]; omega
    simp +contextual only [go_sem, hn, ho, hne, hg0, D.i, if_false, if_true, hlen, hlen8, Nat.add_assoc, Nat.left_eq_add, Nat.add_eq_left, Nat.add_left_cancel_iff]
    have hstep : (divs (l.take k) g).map D.i ++ [D.i (n.tdiv g)] = (divs (l.take (k + 1)) g).map D.i := by
      rw [List.take_add_one, hn]; simp [divs]
    have htd := tdiv_small hnb hg1
    rw [wrap64 (n := n.tdiv g) (by omega) (by omega), hstep]
    refine nextS_intro (k + 1) h2 (by omega) (SLe.grow _ (.osl nx 1) (Nat.le_refl _) (by omega) hg (fun i hi => ?_) (.inr ⟨nx, 1, Nat.le_refl _, rfl, by simp⟩) ?_)
    · rw [upd_ne _ _ _ _ (by omega), upd_ne _ _ _ _ (by omega), upd_ne _ _ _ _ (by omega)]
    · exact growE_junk (growE_v rfl (by simp [V.refs]; omega) (growE_junk (growE_junk (growE_x rfl (growE_junk (growE_junk (growE_d rfl (growE_d rfl (growE_d (d_int (wrapN (by omega))) growE_nil)))))))))
  · simp +contextual only [go_sem]
    simp at h2
    rw [List.take_of_length_le (by omega)]
    refine hK _ _ _ (by omega) ((hg.mono (by omega)).upd (by omega) rfl) (fun i hi => upd_ne _ _ _ _ (by omega)) ?_ ?_
    · simp [toD]
    · simp [V.ids]
end Go.Proofs.Ytaafchgfibbmhaa
namespace Go.Proofs.Ytaafchgfibbmhaa
def gcdM (m : Made) : Nat := gcdL (m.r.b :: (m.r.c ++ m.t))
def redM (m : Made) : Made := if 1 < gcdM m then ⟨⟨divs m.r.c (gcdM m), m.r.rel, m.r.b.tdiv (gcdM m)⟩, divs m.t (gcdM m)⟩ else m
def bigOk (m : Made) : Bool := allF m.r.c 1000000000 && inB m.r.b (-1000000000) 1000000000 && allF m.t 1000000000
@[reducible] def tooD : D := .iface 119 (.agg [])
structure Made.Num (m : Made) : Prop where
  c : ∀ n ∈ m.r.c, -9223372036854775807 ≤ n ∧ n ≤ 9223372036854775807
  b : -9223372036854775807 ≤ m.r.b ∧ m.r.b ≤ 9223372036854775807
  t : ∀ n ∈ m.t, -9223372036854775807 ≤ n ∧ n ≤ 9223372036854775807
  lc : m.r.c.length ≤ 1000
  lt : m.t.length ≤ 1000
theorem all_cells (l : List Int) : ((l.map D.i).all fun z => z.cells.length == 1) = true := by simp [D.cells]
theorem reduced_c (m : Made) (hm : m.Num) : PCt Try.prog 112 [m.d] (if bigOk (redM m) then .ret [(redM m).d] else .pan tooD) := by
  have hlc := hm.lc
  have hlt := hm.lt
  have hdv := divisor_c (m.r.b :: (m.r.c ++ m.t)) (by simp; omega) (fun n hn => by
    simp at hn
    rcases hn with rfl | hn | hn
    · exact hm.b
    · exact hm.c n hn
    · exact hm.t n hn)
  simp only [List.map_cons, List.map_append] at hdv
  refine PCt.of_ev mix fn112 (by simp) ?_
  rw [c112]
  have k1 : 1 + m.r.c.length ≤ 140737488355328 := by omega
  have k2 : (1 + m.r.c.length) * 8 ≤ 140737488355328 := by omega
  have k3 : m.r.c.length + 1 + m.t.length ≤ 140737488355328 := by omega
  have k4 : (m.r.c.length + 1 + m.t.length) * 8 ≤ 140737488355328 := by omega
  have a1 := all_cells m.r.c
  have a2 := all_cells m.t
  simp only [D.cells] at a1 a2
  simp +contextual only [go_sem, if_true, k1, k2, k3, k4, a1, a2]
  refine callD_keep hdv rfl ?_
  simp +contextual only [go_sem, if_true, k1, k2, k3, k4, a1, a2]
  refine end_intro (by decide) ?_
  have hG : gcdL (m.r.b :: (m.r.c ++ m.t)) = gcdM m := rfl
  rw [hG]
  simp +contextual only [go_sem]
  refine cond_intro (fun h1 => ?_) (fun h1 => ?_)
  · simp at h1
    have hg1 : (1 : Int) ≤ gcdM m := by omega
    have hg0 : ¬ ((gcdM m : Int) = 0) := by omega
    simp +contextual only [go_sem]
    refine callDR_keep (rd := [14]) (rs := [.sl ((divs m.r.c (gcdM m)).map .i)]) (Δ := []) rfl (HCt.of_ctd 15 rfl ?_ ?_ (by_c m.r.c (gcdM m) 14 _ ?_ hg1 hlc hm.c)) ?_
    · simp [V.refss, V.refs]
    · simp [Obj'.refs, V.refss, V.refs]
    · simp [rst]
    simp +contextual only [go_sem, hg0, if_false]
    refine callDR_keep (rd := [14]) (rs := [.sl ((divs m.t (gcdM m)).map .i)]) (Δ := []) rfl (HCt.of_ctd 15 rfl ?_ ?_ (by_c m.t (gcdM m) 14 _ ?_ hg1 hlt hm.t)) ?_
    · simp [V.refss, V.refs]
    · simp [Obj'.refs, V.refss, V.refs]
    · simp [rst]
    simp +contextual only [go_sem, hg0, if_false]
    refine end_intro (by decide) ?_
    simp +contextual only [go_sem]
    have hM : redM m = Made.mk ⟨divs m.r.c (gcdM m), m.r.rel, m.r.b.tdiv (gcdM m)⟩ (divs m.t (gcdM m)) := by rw [redM, if_pos (by omega)]
    have htd := tdiv_small hm.b hg1
    rw [wrap64 (n := m.r.b.tdiv (gcdM m)) (by omega) (by omega)]
    refine call_keep (every_c (Made.mk ⟨divs m.r.c (gcdM m), m.r.rel, m.r.b.tdiv (gcdM m)⟩ (divs m.t (gcdM m))).r.c 1000000000 (by simp [divs]; omega) (by omega)) rfl ?_
    have hbig : bigOk (Made.mk ⟨divs m.r.c (gcdM m), m.r.rel, m.r.b.tdiv (gcdM m)⟩ (divs m.t (gcdM m))) = (allF (Made.mk ⟨divs m.r.c (gcdM m), m.r.rel, m.r.b.tdiv (gcdM m)⟩ (divs m.t (gcdM m))).r.c 1000000000 && inB (Made.mk ⟨divs m.r.c (gcdM m), m.r.rel, m.r.b.tdiv (gcdM m)⟩ (divs m.t (gcdM m))).r.b (-1000000000) 1000000000 && allF (Made.mk ⟨divs m.r.c (gcdM m), m.r.rel, m.r.b.tdiv (gcdM m)⟩ (divs m.t (gcdM m))).t 1000000000) := rfl
    cases e1 : allF (Made.mk ⟨divs m.r.c (gcdM m), m.r.rel, m.r.b.tdiv (gcdM m)⟩ (divs m.t (gcdM m))).r.c 1000000000 with
    | false =>
      rw [hM, hbig, e1]
      simp +contextual only [go_sem]
    | true =>
      simp +contextual only [go_sem]
      refine call_keep (within_c _ _ _) rfl ?_
      cases e2 : inB (Made.mk ⟨divs m.r.c (gcdM m), m.r.rel, m.r.b.tdiv (gcdM m)⟩ (divs m.t (gcdM m))).r.b (-1000000000) 1000000000 with
      | false =>
        rw [hM, hbig, e1, e2]
        have e2' : (decide (-1000000000 ≤ (Made.mk ⟨divs m.r.c (gcdM m), m.r.rel, m.r.b.tdiv (gcdM m)⟩ (divs m.t (gcdM m))).r.b) && decide ((Made.mk ⟨divs m.r.c (gcdM m), m.r.rel, m.r.b.tdiv (gcdM m)⟩ (divs m.t (gcdM m))).r.b ≤ 1000000000)) = false := e2
        simp +contextual only [go_sem, e2']
      | true =>
        have e2' : (decide (-1000000000 ≤ (Made.mk ⟨divs m.r.c (gcdM m), m.r.rel, m.r.b.tdiv (gcdM m)⟩ (divs m.t (gcdM m))).r.b) && decide ((Made.mk ⟨divs m.r.c (gcdM m), m.r.rel, m.r.b.tdiv (gcdM m)⟩ (divs m.t (gcdM m))).r.b ≤ 1000000000)) = true := e2
        simp +contextual only [go_sem, e2']
        refine call_keep (every_c (Made.mk ⟨divs m.r.c (gcdM m), m.r.rel, m.r.b.tdiv (gcdM m)⟩ (divs m.t (gcdM m))).t 1000000000 (by simp [divs]; omega) (by omega)) rfl ?_
        cases e3 : allF (Made.mk ⟨divs m.r.c (gcdM m), m.r.rel, m.r.b.tdiv (gcdM m)⟩ (divs m.t (gcdM m))).t 1000000000 with
        | false =>
          rw [hM, hbig, e1, e2, e3]
          simp +contextual only [go_sem]
        | true =>
          rw [hM, hbig, e1, e2, e3]
          simp +contextual only [go_sem]
  · simp at h1
    have hM : redM m = m := by rw [redM, if_neg (by omega)]
    simp +contextual only [go_sem]
    refine call_keep (every_c m.r.c 1000000000 (by omega) (by omega)) rfl ?_
    have hbig : bigOk m = (allF m.r.c 1000000000 && inB m.r.b (-1000000000) 1000000000 && allF m.t 1000000000) := rfl
    cases e1 : allF m.r.c 1000000000 with
    | false =>
      rw [hM, hbig, e1]
      simp +contextual only [go_sem]
    | true =>
      simp +contextual only [go_sem]
      refine call_keep (within_c _ _ _) rfl ?_
      cases e2 : inB m.r.b (-1000000000) 1000000000 with
      | false =>
        rw [hM, hbig, e1, e2]
        have e2' : (decide (-1000000000 ≤ m.r.b) && decide (m.r.b ≤ 1000000000)) = false := e2
        simp +contextual only [go_sem, e2']
      | true =>
        have e2' : (decide (-1000000000 ≤ m.r.b) && decide (m.r.b ≤ 1000000000)) = true := e2
        simp +contextual only [go_sem, e2']
        refine call_keep (every_c m.t 1000000000 (by omega) (by omega)) rfl ?_
        cases e3 : allF m.t 1000000000 with
        | false =>
          rw [hM, hbig, e1, e2, e3]
          simp +contextual only [go_sem]
        | true =>
          rw [hM, hbig, e1, e2, e3]
          simp +contextual only [go_sem]
end Go.Proofs.Ytaafchgfibbmhaa
namespace Go.Proofs.Ytaafchgfibbmhaa
structure Made.Ok (v r : Nat) (m : Made) : Prop where
  lc : m.r.c.length = v
  lt : m.t.length = r
  c : ∀ n ∈ m.r.c, -1000000000 ≤ n ∧ n ≤ 1000000000
  b : -1000000000 ≤ m.r.b ∧ m.r.b ≤ 1000000000
  t : ∀ n ∈ m.t, -1000000000 ≤ n ∧ n ≤ 1000000000
def rawSum (s : Sys) (a : Int) (m : Made) (b : Int) (n : Made) : Made := ⟨⟨comb a m.r.c b n.r.c, kindF s (comb a m.t b n.t), a * m.r.b + b * n.r.b⟩, comb a m.t b n.t⟩
def sumM (s : Sys) (a : Int) (m : Made) (b : Int) (n : Made) : Made := redM (rawSum s a m b n)
theorem comb_bound {a b : Int} {x y : List Int} (ha : -1000000000 ≤ a ∧ a ≤ 1000000000) (hb : -1000000000 ≤ b ∧ b ≤ 1000000000) (hx : ∀ n ∈ x, -1000000000 ≤ n ∧ n ≤ 1000000000) (hy : ∀ n ∈ y, -1000000000 ≤ n ∧ n ≤ 1000000000) :
    (∀ (k : Nat) (p q : Int), x[k]? = some p → y[k]? = some q → (-4611686018427387904 ≤ a * p ∧ a * p ≤ 4611686018427387903) ∧ (-4611686018427387904 ≤ b * q ∧ b * q ≤ 4611686018427387903)) ∧ ∀ n ∈ comb a x b y, -2000000000000000000 ≤ n ∧ n ≤ 2000000000000000000 := by
  have key : ∀ p ∈ x, ∀ q ∈ y, (-1000000000000000000 ≤ a * p ∧ a * p ≤ 1000000000000000000) ∧ (-1000000000000000000 ≤ b * q ∧ b * q ≤ 1000000000000000000) := fun p hp q hq => by
    have h1 := mul_bound (a := a) (b := p) (A := 1000000000) (B := 1000000000) (by omega) (by have := hx p hp; omega)
    have h2 := mul_bound (a := b) (b := q) (A := 1000000000) (B := 1000000000) (by omega) (by have := hy q hq; omega)
    omega
  refine ⟨fun k p q hp hq => ?_, fun n hn => ?_⟩
  · have := key p (List.mem_of_getElem? hp) q (List.mem_of_getElem? hq)
    omega
  · obtain ⟨i, hi, hn⟩ := List.getElem_of_mem hn
    simp only [comb, List.getElem_zipWith] at hn
    simp [comb] at hi
    have := key x[i] (List.getElem_mem _) y[i] (List.getElem_mem _)
    omega
theorem rawSum_num {s : Sys} {a b : Int} {m n : Made} {v r : Nat} (hm : m.Ok v r) (hn : n.Ok v r) (hv : v ≤ 5) (hr : r ≤ 10) (ha : -1000000000 ≤ a ∧ a ≤ 1000000000) (hb : -1000000000 ≤ b ∧ b ≤ 1000000000) : (rawSum s a m b n).Num := by
  obtain ⟨_, c2⟩ := comb_bound ha hb hm.c hn.c
  obtain ⟨_, t2⟩ := comb_bound ha hb hm.t hn.t
  have hlm := hm.lc
  have hln := hn.lc
  have htm := hm.lt
  have htn := hn.lt
  refine ⟨fun n hn => ?_, ?_, fun n hn => ?_, ?_, ?_⟩
  · have := c2 n hn; omega
  · have h1 := mul_bound (a := a) (b := m.r.b) (A := 1000000000) (B := 1000000000) (by omega) (by have := hm.b; omega)
    have h2 := mul_bound (a := b) (b := n.r.b) (A := 1000000000) (B := 1000000000) (by omega) (by have := hn.b; omega)
    simp only [rawSum]; omega
  · have := t2 n hn; omega
  · simp only [rawSum]; rw [comb_length (by omega)]; omega
  · simp only [rawSum]; rw [comb_length (by omega)]; omega
theorem sum_c (s : Sys) (a : Int) (m : Made) (b : Int) (n : Made) {v r : Nat} (hm : m.Ok v r) (hn : n.Ok v r) (hv : v ≤ 5) (hr : r ≤ 10) (hsr : s.rows.length = r) (ha : -1000000000 ≤ a ∧ a ≤ 1000000000) (hb : -1000000000 ≤ b ∧ b ≤ 1000000000)
    (id : Nat) (o : Nat → Obj') (z : V) (ho : o id = .row [.d (.i s.vars), .d (.sl (s.rows.map Row.d)), z]) (hz : ∀ r ∈ z.refs, (o r).refs = [] ∧ o r ≠ .no) :
    CtR Try.prog 117 [.ptr id 0, .d (.i a), .d m.d, .d (.i b), .d n.d] o (if bigOk (sumM s a m b n) then (sumM s a m b n).d else tooD) (!bigOk (sumM s a m b n)) := by
  have hlm := hm.lc
  have hln := hn.lc
  have htm := hm.lt
  have htn := hn.lt
  have hct := combined_c a m.t b n.t (by omega) (by omega) (comb_bound ha hb hm.t hn.t).1
  have hcc := combined_c a m.r.c b n.r.c (by omega) (by omega) (comb_bound ha hb hm.c hn.c).1
  have hred := reduced_c (rawSum s a m b n) (rawSum_num hm hn hv hr ha hb)
  intro nx hg K X hK
  have hid : id < nx := hg.lt (by rw [ho]; exact Obj'.noConfusion)
  refine CtK.of_ev mix fn117 (by simp) ?_
  rw [c117]
  simp +contextual only [go_sem, Nat.add_assoc, Nat.left_eq_add, Nat.add_eq_left, Nat.add_left_cancel_iff]
  refine call_give hct ?_
  simp +contextual only [go_sem, Nat.add_assoc, Nat.left_eq_add, Nat.add_eq_left, Nat.add_left_cancel_iff]
  refine callD_give hcc ?_
  simp +contextual only [go_sem, Nat.add_assoc, Nat.left_eq_add, Nat.add_eq_left, Nat.add_left_cancel_iff]
  have hzl : ∀ r ∈ z.refs, r < nx := fun r hr => hg.lt (hz r hr).2
  have hup : ∀ (x0 x1 x2 x3 x4 : Obj') (j : Nat), j < nx → upd (upd (upd (upd (upd o nx x0) (nx + 1) x1) (nx + 2) x2) (nx + 11) x3) (nx + 11) x4 j = o j := fun _ _ _ _ _ j hj => by
    rw [upd_ne _ _ _ _ (by omega), upd_ne _ _ _ _ (by omega), upd_ne _ _ _ _ (by omega), upd_ne _ _ _ _ (by omega), upd_ne _ _ _ _ (by omega)]
  refine callDR_keep (rd := id :: z.refs) (rs := [.i (kindF s (comb a m.t b n.t))]) (Δ := []) ?_ (HCt.of_cto (nx + 13) ?_ ?_ ?_ (relOf_c s (comb a m.t b n.t) ?_ (by omega) id _ z ?_)) ?_
  · simp; exact ⟨by omega, fun r hr => by have := hzl r hr; omega⟩
  · simp; exact ⟨by omega, fun r hr => by have := hzl r hr; omega⟩
  · simp [V.refss, V.refs]
  · intro j hj k hk
    rcases List.mem_cons.1 hj with rfl | hj
    · rw [hup _ _ _ _ _ _ hid, ho] at hk
      simp [Obj'.refs, V.refss, V.refs] at hk
      exact List.mem_cons_of_mem _ hk
    · rw [hup _ _ _ _ _ _ (hzl j hj), (hz j hj).1] at hk
      cases hk
  · rw [comb_length (by omega)]; omega
  · simp only [rst]
    rw [if_pos (by simp), hup _ _ _ _ _ _ hid, ho]
  simp +contextual only [go_sem, Nat.add_assoc, Nat.left_eq_add, Nat.add_eq_left, Nat.add_left_cancel_iff]
  refine end_intro (by kernel_rfl) ?_
  simp +contextual only [go_sem, Nat.add_assoc, Nat.left_eq_add, Nat.add_eq_left, Nat.add_left_cancel_iff]
  have hb1 := mul_bound (a := a) (b := m.r.b) (A := 1000000000) (B := 1000000000) (by omega) (by have := hm.b; omega)
  have hb2 := mul_bound (a := b) (b := n.r.b) (A := 1000000000) (B := 1000000000) (by omega) (by have := hn.b; omega)
  rw [wrap64 (n := a * m.r.b) (by omega) (by omega), wrap64 (n := b * n.r.b) (by omega) (by omega), wrap64 (n := a * m.r.b + b * n.r.b) (by omega) (by omega)]
  cases hbig : bigOk (sumM s a m b n) with
  | true =>
    rw [hbig] at hK
    have hb' : bigOk (redM (rawSum s a m b n)) = true := hbig
    rw [hb'] at hred
    refine call_give hred ?_
    simp +contextual only [go_sem, Nat.add_assoc, Nat.left_eq_add, Nat.add_eq_left, Nat.add_left_cancel_iff]
    refine hK _ _ (by omega) ?_ (fun i hi => ?_)
    · repeat (first | exact hg.mono (by omega) | refine Good.upd ?_ (by omega) rfl)
    · simp only [upd]
      repeat (first | rw [if_neg (by omega)])
  | false =>
    rw [hbig] at hK
    have hb' : bigOk (redM (rawSum s a m b n)) = false := hbig
    rw [hb'] at hred
    refine call_pan hred rfl ?_
    simp +contextual only [go_sem, Nat.add_assoc, Nat.left_eq_add, Nat.add_eq_left, Nat.add_left_cancel_iff]
    refine hK _ _ (by omega) ?_ (fun i hi => ?_)
    · repeat (first | exact hg.mono (by omega) | refine Good.upd ?_ (by omega) rfl)
    · simp only [upd]
      repeat (first | rw [if_neg (by omega)])
end Go.Proofs.Ytaafchgfibbmhaa
