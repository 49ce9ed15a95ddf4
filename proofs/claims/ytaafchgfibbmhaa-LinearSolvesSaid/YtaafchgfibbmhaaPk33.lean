/-
  A PART OF THE PROOF (put together by program): several texts, one behind the other. Conditions: none.
-/
import Derived.Test.YtaafchgfibbmhaaPk32
set_option linter.unusedSimpArgs false
set_option linter.unusedVariables false
namespace Go.Proofs.Ytaafchgfibbmhaa
theorem Made.Ok.big {v r : Nat} {m : Made} (h : m.Ok v r) : bigOk m = true := by
  simp only [bigOk, Bool.and_eq_true, allF_iff, inB_iff]
  exact ⟨⟨h.c, h.b⟩, h.t⟩
def okL (l : List Made) : Option (List Made) := if l.all bigOk = true then some l else none
theorem okL_append {a b : List Made} : okL (a ++ b) = (okL a).bind fun x => (okL b).map (x ++ ·) := by
  unfold okL
  rw [List.all_append]
  cases a.all bigOk <;> cases b.all bigOk <;> simp
theorem okL_all {l : List Made} (h : ∀ m ∈ l, bigOk m = true) : okL l = some l := by
  rw [okL, if_pos (List.all_eq_true.2 h)]
theorem useOne_eq {s : Sys} {e : Made} {v at' i : Nat} {m : Made} (hm : bigOk m = true) : useOne s e v at' i m = okL (useRone s e v at' i m) := by
  unfold useOne useRone
  dsimp only
  split
  · rfl
  · split
    · simp [okL, hm]
    · by_cases hc : 0 < e.r.c.getD v 0
      · simp only [useV, if_pos hc, okL]; simp
      · simp only [useV, if_neg hc, okL]; simp
theorem useL_eq {s : Sys} {l : List Made} {e : Made} {v at' : Nat} (hl : ∀ m ∈ l, bigOk m = true) : ∀ k, useL s l e v at' k = okL (useR s l e v at' k)
  | 0 => rfl
  | k + 1 => by
    simp only [useL, useR]
    rw [useL_eq hl k, okL_append]
    cases hm : l[k]? with
    | none => cases okL (useR s l e v at' k) <;> simp [okL]
    | some m => simp only [useOne_eq (hl m (List.mem_of_getElem? hm))]
theorem stepP_eq {s : Sys} {v : Nat} {acc : List Made} {a b : Made} : stepP s v acc a b = (okL (pairR s v a b)).map (acc ++ ·) := by
  unfold stepP pairR
  split
  · unfold pairF okL
    dsimp only
    by_cases hb : bigOk (sumM s (-b.r.c.getD v 0) a (a.r.c.getD v 0) b) = true
    · simp [hb]
    · simp [hb]
  · simp [okL]
theorem innP_eq {s : Sys} {v : Nat} {l : List Made} {a : Made} {acc : List Made} : ∀ j, innP s v l a acc j = (okL (inR s v l a j)).map (acc ++ ·)
  | 0 => by simp [innP, inR, okL]
  | j + 1 => by
    simp only [innP, inR]
    rw [innP_eq j, okL_append]
    cases okL (inR s v l a j) with
    | none => rfl
    | some x =>
      simp only [Option.map_some, Option.bind_some]
      cases hb : l[j]? with
      | none => simp [okL]
      | some b =>
        simp only [stepP_eq]
        cases okL (pairR s v a b) <;> simp
theorem outP_eq {s : Sys} {v : Nat} {l : List Made} (hl : ∀ m ∈ l, bigOk m = true) : ∀ i, outP s v l (zeroL v l) i = okL (outR s v l i)
  | 0 => by rw [outP, outR, okL_all (l := zeroL v l) (fun m hm => hl m (List.mem_filter.1 hm).1)]
  | i + 1 => by
    simp only [outP, outR]
    rw [outP_eq hl i, okL_append]
    cases okL (outR s v l i) with
    | none => rfl
    | some x =>
      simp only [Option.bind_some]
      cases ha : l[i]? with
      | none => simp [okL]
      | some a => simp only [innP_eq]
theorem rawE_eq {s : Sys} {v : Nat} {l : List Made} (hl : ∀ m ∈ l, bigOk m = true) : rawE s v l = okL (rawR s v l) := by
  unfold rawE rawR
  cases hf : l.findIdx? (usesF v) with
  | none => exact outP_eq hl _
  | some k =>
    have hk := List.findIdx?_eq_some_iff_getElem.1 hf
    have : l[k]? = some (l[k]'hk.1) := List.getElem?_eq_getElem _
    simp only [this]
    exact useL_eq hl _
def keyK (r : Row) : List Int := [r.c.getD 0 0, r.c.getD 1 0, r.c.getD 2 0, r.c.getD 3 0, r.c.getD 4 0, r.rel, r.b]
theorem lineB_iff {a b : Row} : lineB a b = true ↔ keyK a = keyK b := by
  simp only [lineB, keyK, Bool.and_eq_true, beq_iff_eq, List.cons.injEq, and_true, and_assoc]
theorem isMet_add {met : List Row} {x r : Row} : isMet (addMet met x) r = (isMet met r || lineB r x) := by
  unfold addMet
  split
  · rename_i h
    cases hb : lineB r x with
    | false => simp
    | true =>
      simp only [Bool.or_true]
      simp only [isMet, List.any_eq_true] at h ⊢
      obtain ⟨y, hy, h2⟩ := h
      exact ⟨y, hy, lineB_iff.2 ((lineB_iff.1 hb).trans (lineB_iff.1 h2))⟩
  · simp [isMet]
theorem isMet_keepK {out : List Made} {r : Row} : ∀ k, isMet (keepK out k).1 r = (out.take k).any fun x => lineB r x.r
  | 0 => rfl
  | k + 1 => by
    simp only [keepK]
    cases hm : out[k]? with
    | none =>
      have : out.take (k + 1) = out.take k := by rw [List.take_add_one, hm]; simp
      rw [this]; exact isMet_keepK k
    | some m =>
      simp only [isMet_add, isMet_keepK k, List.take_add_one, hm, Option.toList_some, List.any_append, List.any_cons, List.any_nil, Bool.or_false]
theorem keepK_eq {out : List Made} {nv : Nat} (hnv : nv ≤ 5) (hl : ∀ m ∈ out, m.r.c.length = nv) : ∀ k, (keepK out k).2 = keptR out k
  | 0 => rfl
  | k + 1 => by
    simp only [keepK, keptR]
    cases hm : out[k]? with
    | none => exact keepK_eq hnv hl k
    | some m =>
      have hst : (!isMet (keepK out k).1 m.r && !goneF m.r) = stayR out m k := by
        rw [isMet_keepK, stayR, Bool.and_comm]
        congr 2
        rw [Bool.eq_iff_iff, List.any_eq_true, List.any_eq_true]
        have hmm := hl m (List.mem_of_getElem? hm)
        constructor
        · rintro ⟨x, hx, h⟩
          have hxx := hl x (List.mem_of_mem_take hx)
          refine ⟨x, hx, ?_⟩
          rw [← line_eq (a := x.r) (b := m.r) (by omega) (by omega)]
          exact lineB_iff.2 (lineB_iff.1 h).symm
        · rintro ⟨x, hx, h⟩
          have hxx := hl x (List.mem_of_mem_take hx)
          refine ⟨x, hx, ?_⟩
          rw [← line_eq (a := x.r) (b := m.r) (by omega) (by omega)] at h
          exact lineB_iff.2 (lineB_iff.1 h).symm
      simp only [hst, keepK_eq hnv hl k]
theorem elimE_eq {s : Sys} {v : Nat} {l : List Made} {nv nr : Nat} (hnv : nv ≤ 5) (hl : ∀ m ∈ l, m.Ok nv nr) : elimE s v l = if (nextR s v l).2 = true then some (nextR s v l).1 else none := by
  unfold elimE nextR
  rw [rawE_eq (fun m hm => (hl m hm).big)]
  unfold okL
  by_cases h : (rawR s v l).all bigOk = true
  · simp only [if_pos h, Option.bind_some, decide_eq_true_eq]
    rw [keepK_eq hnv (fun m hm => (rawR_lens hl m hm).1)]
    by_cases h2 : (rawR s v l).length ≤ 200
    · rw [if_neg (by omega), if_pos h2]
    · rw [if_pos (by omega), if_neg h2]
  · simp only [if_neg h, Option.bind_none, Bool.false_eq_true, if_false]
theorem stages'_c (s : Sys) (hc : checkF s = true) (n : Nat) (hn : (n : Int) ≤ s.vars) : PCt Try.prog 20 [s.d, .i n] (.ret [.sl (if (curE s n).isSome = true then stagesD s n else []), .bool (curE s n).isSome]) := by
  obtain ⟨v1, v5, r10, hall⟩ := check_rows hc
  refine PCt.of_ev mix fn20 (by simp) ?_
  rw [c20]
  simp +contextual only [go_sem, Sys.d]
  refine call_give (first'_c s hc) ?_
  simp +contextual only [go_sem, stD]
  have hst : ∀ k l, curE s (k + 1) = some l → stagesD s (k + 1) = stagesD s k ++ [stD l] := fun k l h => by
    simp only [stagesD]
    rw [List.range_succ, List.map_append, List.map_cons, List.map_nil]
    simp [curA, h]
  refine loop_fam (fun k : Nat => ⟨envJ [.junk, .d (.i n), .ptr 0 0, .junk, .junk, .junk, .osl 1 0, .d (.i k)], upd s.o 1 (.arr 0 34 1 (stagesD s k)), 1 + 1⟩)
    (fun k => k ≤ n ∧ (curE s k).isSome = true) (fun k => n - k) 0 ⟨Nat.zero_le _, rfl⟩ (SLe.grow _ (.osl 5 0) (by omega) (by omega) s.o_good (fun j hj => ?_) (.inr ⟨5, 0, by omega, rfl, ?_⟩) ?_) (fun k hk => ?_)
  · repeat (first | rfl | rw [upd_same] | rw [upd_ne _ _ _ _ (by omega)])
  · rw [upd_same]; simp [stagesD, curA, curE, stD]
  · repeat (first | exact growE_nil | refine growE_junk ?_ | refine growE_x rfl ?_ | refine growE_d rfl ?_ | refine growE_d (d_int (wrapN (by omega))) ?_ | refine growE_v rfl (by simp [V.refs] <;> omega) ?_)
  obtain ⟨cur, hcur⟩ := Option.isSome_iff_exists.1 hk.2
  obtain ⟨hok, h200⟩ := curE_ok hc hcur
  have hcs : curE s (k + 1) = elimE s k cur := by simp only [curE, hcur, Option.bind_some]
  have hget : (stagesD s k)[k]? = some (.sl (cur.map Made.d)) := by
    simp only [stagesD]
    rw [List.getElem?_map, List.getElem?_range (by omega)]
    simp [curA, hcur, stD]
  simp +contextual only [go_sem, stD]
  refine cond_intro (fun h2 => ?_) (fun h2 => ?_)
  · simp at h2
    have hll : (stagesD s k).length = k + 1 := by simp [stagesD]
    have h8f : (stagesD s k).length ≤ 140737488355327 := by omega
    have h8g : ((stagesD s k).length + 1) * 24 ≤ 140737488355328 := by omega
    have hq := elimE_eq (s := s) (nv := s.vars.toNat) (by omega) hok (v := k)
    rw [← hcs] at hq
    have hlt : k < (stagesD s k).length := by omega
    simp +contextual only [go_sem, hget, stD, h8f, h8g, hlt, if_true, if_false]
    refine callD_give (next_c s cur k hok (by omega) (by omega) r10 (by omega) rfl (by omega)) ?_
    cases hb : (nextR s k cur).2 with
    | true =>
      have hcur' : curE s (k + 1) = some (nextR s k cur).1 := by rw [hq, hb]; rfl
      simp +contextual only [go_sem, hget, stD, h8f, h8g, if_true, if_false]
      refine end_intro (by decide) ?_
      simp +contextual only [go_sem, hget, stD, h8f, h8g, if_true, if_false]
      have hA2 : stagesD s k ++ [.sl ((nextR s k cur).1.map Made.d)] = stagesD s (k + 1) := (hst k _ hcur').symm
      rw [hA2]
      refine nextS_intro (k + 1) ⟨h2, by rw [hcur']; rfl⟩ (by omega) (SLe.grow _ (.osl 1 1) (by omega) (by omega) s.o_good (fun j hj => ?_) (.inr ⟨1, 1, by omega, rfl, ?_⟩) ?_)
      · repeat (first | rfl | rw [upd_same] | rw [upd_ne _ _ _ _ (by omega)])
      · repeat (first | rfl | rw [upd_same] | rw [upd_ne _ _ _ _ (by omega)])
      · repeat (first | exact growE_nil | refine growE_junk ?_ | refine growE_x rfl ?_ | refine growE_d rfl ?_ | refine growE_d (d_int (wrapN (by omega))) ?_ | refine growE_v rfl (by simp [V.refs] <;> omega) ?_)
    | false =>
      have hno : curE s n = none := by
        have h1 : curE s (k + 1) = none := by rw [hq, hb]; rfl
        have := curE_none h1 (n - (k + 1))
        rwa [show k + 1 + (n - (k + 1)) = n by omega] at this
      simp +contextual only [go_sem, hget, stD, h8f, h8g, if_true, if_false]
      refine end_intro (by decide) ?_
      simp +contextual only [go_sem, hget, stD, h8f, h8g, if_true, if_false]
      simp [hno]
  · simp +contextual only [go_sem]
    simp at h2
    have hks : k = n := by omega
    subst hks
    simp [hcur]
def madeEq (a b : Made) : Bool := rowEq a.r b.r && (a.t == b.t)
theorem sameMade_c (a b : Made) (ha : a.r.c.length ≤ 9223372036854775807) (hb : a.t.length ≤ 9223372036854775807) : PCt Try.prog 27 [a.d, b.d] (.ret [.bool (madeEq a b)]) := by
  refine PCt.of_ev mix fn27 (by simp) ?_
  rw [c27]
  simp +contextual only [go_sem, Made.d, Row.d]
  refine call_keep (sameRow_c a.r b.r ha) rfl ?_
  simp +contextual only [go_sem, Made.d, Row.d]
  refine guard_data (callG_intro [.bool (a.t == b.t)] ?_ ?_)
  · simp +contextual only [go_sem]
    exact fun _ => sameInts_c a.t b.t hb
  simp +contextual only [go_sem]
  simp [madeEq]
theorem madeEq_refl (a : Made) : madeEq a a = true := by simp [madeEq, rowEq]
end Go.Proofs.Ytaafchgfibbmhaa
namespace Go.Proofs.Ytaafchgfibbmhaa
theorem refuted1_c (s : Sys) (hc : checkF s = true) (v : Nat) (hv : s.vars = v) (ib il : Nat) (o : Nat → Obj') (nx : Nat) (h1 : o ib = .row [.d (.i s.vars), .d (.sl (s.rows.map Row.d))]) (h3 : o il = .row [.nils])
    (l1 : ib < nx) (l3 : il < nx) (K X : V → (Nat → Obj') → Nat → Prop)
    (hK : match curE s v with | some l => ∀ n2, nx ≤ n2 → K (.tup []) (upd o il (.row [.d (stD l)])) n2 | none => ∀ n2, nx ≤ n2 → X (.d tooD) o n2) :
    CtK Try.prog 98 [.ptr ib 0, .ptr il 0] o nx K X := by
  have e2 : ib ≠ il := fun e => by subst e; rw [h1] at h3; injection h3 with h; simp at h
  refine CtK.of_ev mix fn98 (by simp) ?_
  rw [c98]
  simp +contextual only [go_sem, h1, h3]
  have hst := stages_c s hc v (by omega)
  rw [hv]
  cases hcur : curE s v with
  | some l =>
    simp only [stagesR, hcur] at hst hK
    obtain ⟨hok, h200⟩ := curE_ok hc hcur
    have hA : curA s v = l := by simp [curA, hcur]
    have hget : (stagesD s v)[v]? = some (stD l) := by
      simp only [stagesD]
      rw [List.getElem?_map, List.getElem?_range (by omega)]
      simp [hA]
    rw [Sys.d, hv] at hst
    refine callD_give hst ?_
    simp +contextual only [go_sem, h1, h3, hget, stD, hv]
    refine end_intro (objsOk_renL (ids := [ib, il]) (nx := nx) (by simp; omega) (by simp; omega) [([0], []), ([0], []), ([0], []), ([], []), ([0], []), ([0], []), ([], []), ([], []), ([1], [1])] (by decide)) ?_
    simp +contextual only [go_sem]
    exact hK _ (by omega)
  | none =>
    simp only [stagesR, hcur] at hst hK
    rw [Sys.d, hv] at hst
    refine callD_pan hst (by decide) ?_
    simp +contextual only [go_sem, h1, h3]
    refine badE_op rfl rfl ?_
    simp +contextual only [go_sem, h1, h3]
    refine badE_op rfl rfl ?_
    simp +contextual only [go_sem, h1, h3]
    refine badE_skip rfl (badE_skip rfl (badE_skip rfl (badE_nil ?_)))
    refine ⟨objsOk_renL (ids := [ib, il]) (nx := nx) (by simp; omega) (by simp; omega) [([0], []), ([0], []), ([0], []), ([], []), ([0], []), ([0], []), ([], []), ([], []), ([], [])] (by decide), ?_⟩
    simp only [panS, endG_pan, List.contains_nil, Bool.false_eq_true, if_false]
    exact hK _ (by omega)
def zeroM : Made := ⟨⟨[], 0, 0⟩, []⟩
def refuteF (s : Sys) : Made × Int := match curE s s.vars.toNat with
  | none => (zeroM, 3)
  | some [] => (zeroM, 5)
  | some (m :: _) => (m, 0)
theorem hz0 : (((0 : Nat) : Int) == 0) = true := rfl
theorem refuted_c (s : Sys) (hc : checkF s = true) : PCt Try.prog 65 [s.d] (.ret [(refuteF s).1.d, .i (refuteF s).2]) := by
  obtain ⟨v1, v5, r10, hall⟩ := check_rows hc
  refine PCt.of_ev mix fn65 (by simp) ?_
  rw [c65]
  simp +contextual only [go_sem, Sys.d]
  refine callR_heap (attempt_c 98 _ _ _ _ _ ?_)
  refine refuted1_c s hc s.vars.toNat (by omega) 0 3 _ _ ?_ ?_ (by omega) (by omega) _ _ ?_
  · repeat (first | rfl | rw [upd_same] | rw [upd_ne _ _ _ _ (by omega)])
  · repeat (first | rfl | rw [upd_same] | rw [upd_ne _ _ _ _ (by omega)])
  cases hcur : curE s s.vars.toNat with
  | none =>
    intro n2 hn2
    refine ⟨rfl, ?_, by omega, fun o3 n3 q1 q2 => ?_⟩
    · repeat (first | rfl | rw [upd_same] | rw [upd_ne _ _ _ _ (by omega)])
    have q1' : o3 1 = zeroRow := by rw [q2 1 (by omega) (by omega)]; repeat (first | rfl | rw [upd_same] | rw [upd_ne _ _ _ _ (by omega)])
    simp +contextual only [go_sem, q1']
    simp [refuteF, hcur, zeroM]
  | some l =>
    intro n2 hn2
    refine ⟨?_, by omega, fun o3 n3 q1 q2 => ?_⟩
    · repeat (first | rfl | rw [upd_same] | rw [upd_ne _ _ _ _ (by omega)])
    have q1' : o3 1 = zeroRow := by rw [q2 1 (by omega) (by omega)]; repeat (first | rfl | rw [upd_same] | rw [upd_ne _ _ _ _ (by omega)])
    have q3' : o3 3 = .row [.d (stD l)] := by rw [q2 3 (by omega) (by omega), upd_same]
    obtain ⟨hok, h200⟩ := curE_ok hc hcur
    cases l with
    | nil =>
      simp +contextual only [go_sem, q1', q3', stD, hz0]
      simp [refuteF, hcur, zeroM]
    | cons m l =>
      have hlen : (((l.length + 1 : Nat) : Int) == 0) = false := by simp; omega
      have hm := hok m (by simp)
      have hcl := cloned_c [m] (by simp) (fun x hx => by simp at hx; subst hx; have := hm.lc; have := hm.lt; omega)
      have h1l : 1 ≤ l.length + 1 := by omega
      have h0l : (0 : Int) < 1 := by omega
      have ht1 : Int.toNat 1 = 1 := rfl
      simp +contextual only [go_sem, q1', q3', stD, hlen, h1l, ht1, Nat.zero_le, if_true]
      refine call_give hcl ?_
      have ht0 : Int.toNat 0 = 0 := rfl
      simp +contextual only [go_sem, q1', q3', stD, hlen, h1l, ht1, ht0, Nat.zero_le, if_true, Made.d, Row.d]
      simp [refuteF, hcur]
theorem refute_c (s : Sys) (hs : s.Fits) : PCt Try.prog 22 [s.d] (.ret [(if checkF s = true then (refuteF s).1 else zeroM).d, .i (if checkF s = true then (refuteF s).2 else 2)]) := by
  have hck := check_c s hs
  refine PCt.of_ev mix fn22 (by simp) ?_
  rw [c22]
  simp +contextual only [go_sem, Sys.d]
  refine call_keep hck rfl ?_
  cases hc : checkF s with
  | false =>
    simp +contextual only [go_sem, Sys.d, if_true, if_false]
    simp [zeroM]
  | true =>
    simp +contextual only [go_sem, Sys.d, if_true, if_false]
    refine call_give (refuted_c s hc) ?_
    simp +contextual only [go_sem, Sys.d, if_true, if_false, Made.d, Row.d]
theorem refute'_c (s : Sys) (hc : checkF s = true) : PCt Try.prog 25 [s.d] (.ret [(refuteF s).1.d, .i (refuteF s).2]) := by
  obtain ⟨v1, v5, r10, hall⟩ := check_rows hc
  obtain ⟨v, hv⟩ : ∃ v : Nat, s.vars = v := ⟨s.vars.toNat, by omega⟩
  have hvt : s.vars.toNat = v := by omega
  have hst := stages'_c s hc v (by omega)
  refine PCt.of_ev mix fn25 (by simp) ?_
  rw [c25]
  simp +contextual only [go_sem, Sys.d, hv]
  rw [Sys.d, hv] at hst
  refine call_give hst ?_
  have ht0 : Int.toNat 0 = 0 := rfl
  cases hcur : curE s v with
  | none =>
    simp +contextual only [go_sem, Option.isSome_none]
    simp [refuteF, hvt, hcur, zeroM]
  | some l =>
    have hA : curA s v = l := by simp [curA, hcur]
    have hget : (stagesD s v)[v]? = some (stD l) := by
      simp only [stagesD]
      rw [List.getElem?_map, List.getElem?_range (by omega)]
      simp [hA]
    cases l with
    | nil =>
      simp +contextual only [go_sem, if_true, hget, stD, hz0]
      simp [refuteF, hvt, hcur, zeroM]
    | cons m l =>
      have hlen : (((l.length + 1 : Nat) : Int) == 0) = false := by simp; omega
      simp +contextual only [go_sem, if_true, hget, stD, hlen, ht0, Made.d, Row.d]
      simp [refuteF, hvt, hcur]
end Go.Proofs.Ytaafchgfibbmhaa
namespace Go.Proofs.Ytaafchgfibbmhaa
end Go.Proofs.Ytaafchgfibbmhaa
namespace Go.Proofs.Ytaafchgfibbmhaa
end Go.Proofs.Ytaafchgfibbmhaa
namespace Go.Proofs.Ytaafchgfibbmhaa
end Go.Proofs.Ytaafchgfibbmhaa
namespace Go.Proofs.Ytaafchgfibbmhaa
def overV (num den : Int) : Rat := if den < 0 then ⟨(-num).tdiv (Int.gcd num den), (-den).tdiv (Int.gcd num den)⟩ else ⟨num.tdiv (Int.gcd num den), den.tdiv (Int.gcd num den)⟩
def okR (r : Rat) : Bool := ratF r 1000000000
theorem gcd_pos' {a b : Int} (h : b ≠ 0) : Int.gcd a b ≠ 0 := by
  intro h2
  exact h (Int.gcd_eq_zero_iff.1 h2).2
theorem over_g (num den : Int) (hn : -4611686018427387904 ≤ num ∧ num ≤ 4611686018427387904) (hd : -4611686018427387904 ≤ den ∧ den ≤ 4611686018427387904) (h0 : den ≠ 0) :
    (Int.gcd num den ≠ 0) ∧ (-9223372036854775807 ≤ num.tdiv (Int.gcd num den) ∧ num.tdiv (Int.gcd num den) ≤ 9223372036854775807) ∧ (-9223372036854775807 ≤ den.tdiv (Int.gcd num den) ∧ den.tdiv (Int.gcd num den) ≤ 9223372036854775807) := by
  have hg := gcd_pos' (a := num) h0
  have hg1 : (1 : Int) ≤ ((Int.gcd num den : Nat) : Int) := by have : 0 < Int.gcd num den := Nat.pos_of_ne_zero hg; exact_mod_cast this
  exact ⟨hg, tdiv_small ⟨by omega, by omega⟩ hg1, tdiv_small ⟨by omega, by omega⟩ hg1⟩
theorem over_c (num den : Int) (hn : -4611686018427387904 ≤ num ∧ num ≤ 4611686018427387904) (hd : -4611686018427387904 ≤ den ∧ den ≤ 4611686018427387904) (h0 : den ≠ 0) :
    PCt Try.prog 119 [.i num, .i den] (if okR (overV num den) = true then .ret [(overV num den).d] else .pan tooD) := by
  have main : ∀ (num den : Int), (-4611686018427387904 ≤ num ∧ num ≤ 4611686018427387904) → (-4611686018427387904 ≤ den ∧ den ≤ 4611686018427387904) → den ≠ 0 → True := fun _ _ _ _ _ => trivial
  refine PCt.of_ev mix fn119 (by simp) ?_
  rw [c119]
  simp +contextual only [go_sem]
  refine cond_intro (fun h1 => ?_) (fun h1 => ?_)
  · have h1' : den < 0 := by simpa using h1
    have hw1 : IntKind.i64.wrap (-num) = -num := wrap64 (by omega) (by omega)
    have hw2 : IntKind.i64.wrap (-den) = -den := wrap64 (by omega) (by omega)
    have hdv := divisor_c [-num, -den] (by simp) (fun n hn => by
      simp only [List.mem_cons, List.not_mem_nil, or_false] at hn
      rcases hn with rfl | rfl <;> omega)
    rw [gcdL_two, Int.gcd_neg, Int.neg_gcd] at hdv
    obtain ⟨g1, g2, g3⟩ := over_g (-num) (-den) (by omega) (by omega) (by omega)
    rw [Int.gcd_neg, Int.neg_gcd] at g1 g2 g3
    have hg0 : ¬ ((Int.gcd num den : Int) = 0) := by omega
    have hw3 : IntKind.i64.wrap ((-num).tdiv (Int.gcd num den)) = (-num).tdiv (Int.gcd num den) := wrap64 (by omega) (by omega)
    have hw4 : IntKind.i64.wrap ((-den).tdiv (Int.gcd num den)) = (-den).tdiv (Int.gcd num den) := wrap64 (by omega) (by omega)
    simp +contextual only [go_sem, hw1, hw2]
    refine call_keep hdv rfl ?_
    simp +contextual only [go_sem, hw1, hw2, hg0, if_false]
    refine end_intro (by decide) ?_
    simp +contextual only [go_sem, hw1, hw2, hw3, hw4]
    have hov : overV num den = ⟨(-num).tdiv (Int.gcd num den), (-den).tdiv (Int.gcd num den)⟩ := by rw [overV, if_pos h1']
    rw [hov]
    refine call_keep (fine_c ⟨(-num).tdiv (Int.gcd num den), (-den).tdiv (Int.gcd num den)⟩ 1000000000 (by omega)) rfl ?_
    have hok : ratF ⟨(-num).tdiv (Int.gcd num den), (-den).tdiv (Int.gcd num den)⟩ 1000000000 = okR ⟨(-num).tdiv (Int.gcd num den), (-den).tdiv (Int.gcd num den)⟩ := rfl
    rw [hok]
    cases he : okR ⟨(-num).tdiv (Int.gcd num den), (-den).tdiv (Int.gcd num den)⟩ with
    | true => simp +contextual only [go_sem, if_true]
    | false => simp +contextual only [go_sem, if_false]
  · have h1' : ¬ den < 0 := by simpa using h1
    have hdv := divisor_c [num, den] (by simp) (fun n hn => by
      simp only [List.mem_cons, List.not_mem_nil, or_false] at hn
      rcases hn with rfl | rfl <;> omega)
    rw [gcdL_two] at hdv
    obtain ⟨g1, g2, g3⟩ := over_g num den hn hd h0
    have hg0 : ¬ ((Int.gcd num den : Int) = 0) := by omega
    have hw3 : IntKind.i64.wrap (num.tdiv (Int.gcd num den)) = num.tdiv (Int.gcd num den) := wrap64 (by omega) (by omega)
    have hw4 : IntKind.i64.wrap (den.tdiv (Int.gcd num den)) = den.tdiv (Int.gcd num den) := wrap64 (by omega) (by omega)
    simp +contextual only [go_sem]
    refine call_keep hdv rfl ?_
    simp +contextual only [go_sem, hg0, if_false]
    refine end_intro (by decide) ?_
    simp +contextual only [go_sem, hw3, hw4]
    have hov : overV num den = ⟨num.tdiv (Int.gcd num den), den.tdiv (Int.gcd num den)⟩ := by rw [overV, if_neg h1']
    rw [hov]
    refine call_keep (fine_c ⟨num.tdiv (Int.gcd num den), den.tdiv (Int.gcd num den)⟩ 1000000000 (by omega)) rfl ?_
    have hok : ratF ⟨num.tdiv (Int.gcd num den), den.tdiv (Int.gcd num den)⟩ 1000000000 = okR ⟨num.tdiv (Int.gcd num den), den.tdiv (Int.gcd num den)⟩ := rfl
    rw [hok]
    cases he : okR ⟨num.tdiv (Int.gcd num den), den.tdiv (Int.gcd num den)⟩ with
    | true => simp +contextual only [go_sem, if_true]
    | false => simp +contextual only [go_sem, if_false]
theorem over'_c (num den : Int) (hn : -4611686018427387904 ≤ num ∧ num ≤ 4611686018427387904) (hd : -4611686018427387904 ≤ den ∧ den ≤ 4611686018427387904) (h0 : den ≠ 0) :
    PCt Try.prog 124 [.i num, .i den] (.ret [(overV num den).d]) := by
  refine PCt.of_ev mix fn124 (by simp) ?_
  rw [c124]
  simp +contextual only [go_sem]
  refine cond_intro (fun h1 => ?_) (fun h1 => ?_)
  · have h1' : den < 0 := by simpa using h1
    have hw1 : IntKind.i64.wrap (-num) = -num := wrap64 (by omega) (by omega)
    have hw2 : IntKind.i64.wrap (-den) = -den := wrap64 (by omega) (by omega)
    have hdv := gcd_c (-num) (-den) (by omega) (by omega)
    rw [Int.gcd_neg, Int.neg_gcd] at hdv
    obtain ⟨g1, g2, g3⟩ := over_g (-num) (-den) (by omega) (by omega) (by omega)
    rw [Int.gcd_neg, Int.neg_gcd] at g1 g2 g3
    have hg0 : ¬ ((Int.gcd num den : Int) = 0) := by omega
    have hw3 : IntKind.i64.wrap ((-num).tdiv (Int.gcd num den)) = (-num).tdiv (Int.gcd num den) := wrap64 (by omega) (by omega)
    have hw4 : IntKind.i64.wrap ((-den).tdiv (Int.gcd num den)) = (-den).tdiv (Int.gcd num den) := wrap64 (by omega) (by omega)
    simp +contextual only [go_sem, hw1, hw2]
    refine call_keep hdv rfl ?_
    simp +contextual only [go_sem, hw1, hw2, hg0, if_false]
    refine end_intro (by decide) ?_
    simp +contextual only [go_sem, hw1, hw2, hw3, hw4]
    simp [overV, if_pos h1']
  · have h1' : ¬ den < 0 := by simpa using h1
    have hdv := gcd_c num den (by omega) (by omega)
    obtain ⟨g1, g2, g3⟩ := over_g num den hn hd h0
    have hg0 : ¬ ((Int.gcd num den : Int) = 0) := by omega
    have hw3 : IntKind.i64.wrap (num.tdiv (Int.gcd num den)) = num.tdiv (Int.gcd num den) := wrap64 (by omega) (by omega)
    have hw4 : IntKind.i64.wrap (den.tdiv (Int.gcd num den)) = den.tdiv (Int.gcd num den) := wrap64 (by omega) (by omega)
    simp +contextual only [go_sem]
    refine call_keep hdv rfl ?_
    simp +contextual only [go_sem, hg0, if_false]
    refine end_intro (by decide) ?_
    simp +contextual only [go_sem, hw3, hw4]
    simp [overV, if_neg h1']
structure Rat.Ok (r : Rat) : Prop where
  n : -1000000000 ≤ r.num ∧ r.num ≤ 1000000000
  d : 1 ≤ r.den ∧ r.den ≤ 1000000000
theorem okR_ok {r : Rat} (h : okR r = true) : r.Ok := by
  simp only [okR, ratF, Bool.and_eq_true, inB_iff] at h
  exact ⟨h.1.2, h.1.1⟩
def addV (a b : Rat) : Rat := overV (a.num * b.den + b.num * a.den) (a.den * b.den)
def timesV (n : Int) (a : Rat) : Rat := overV (n * a.num) a.den
def lessV (a b : Rat) : Bool := decide (a.num * b.den < b.num * a.den)
theorem mul9 {a b : Int} (ha : -1000000000 ≤ a ∧ a ≤ 1000000000) (hb : -1000000000 ≤ b ∧ b ≤ 1000000000) : -1000000000000000000 ≤ a * b ∧ a * b ≤ 1000000000000000000 := mulE_bound ha hb
theorem plus_c (a b : Rat) (ha : a.Ok) (hb : b.Ok) : PCt Try.prog 120 [a.d, b.d] (if okR (addV a b) = true then .ret [(addV a b).d] else .pan tooD) := by
  have m1 := mul9 ha.n (b := b.den) ⟨by have := hb.d; omega, hb.d.2⟩
  have m2 := mul9 hb.n (b := a.den) ⟨by have := ha.d; omega, ha.d.2⟩
  have m3 := mul9 (a := a.den) (b := b.den) ⟨by have := ha.d; omega, ha.d.2⟩ ⟨by have := hb.d; omega, hb.d.2⟩
  have hne : a.den * b.den ≠ 0 := Int.mul_ne_zero (by have := ha.d; omega) (by have := hb.d; omega)
  have w1 : IntKind.i64.wrap (a.num * b.den) = a.num * b.den := wrap64 (by omega) (by omega)
  have w2 : IntKind.i64.wrap (b.num * a.den) = b.num * a.den := wrap64 (by omega) (by omega)
  have w3 : IntKind.i64.wrap (a.den * b.den) = a.den * b.den := wrap64 (by omega) (by omega)
  have w4 : IntKind.i64.wrap (a.num * b.den + b.num * a.den) = a.num * b.den + b.num * a.den := wrap64 (by omega) (by omega)
  have hov := over_c (a.num * b.den + b.num * a.den) (a.den * b.den) (by omega) (by omega) hne
  refine PCt.of_ev mix fn120 (by simp) ?_
  rw [c120]
  simp +contextual only [go_sem, w1, w2, w3, w4]
  have hA : overV (a.num * b.den + b.num * a.den) (a.den * b.den) = addV a b := rfl
  rw [hA] at hov
  cases he : okR (addV a b) with
  | true =>
    rw [he, if_pos rfl] at hov
    refine call_keep hov rfl ?_
    simp +contextual only [go_sem, if_true]
  | false =>
    rw [he, if_neg Bool.noConfusion] at hov
    refine call_pan hov (by decide) ?_
    simp +contextual only [go_sem, if_false]
theorem by'_c (a : Rat) (n : Int) (ha : a.Ok) (hn : -1000000000 ≤ n ∧ n ≤ 1000000000) : PCt Try.prog 121 [a.d, .i n] (if okR (timesV n a) = true then .ret [(timesV n a).d] else .pan tooD) := by
  have m1 := mul9 hn ha.n
  have w1 : IntKind.i64.wrap (n * a.num) = n * a.num := wrap64 (by omega) (by omega)
  have hov := over_c (n * a.num) a.den (by omega) (by have := ha.d; omega) (by have := ha.d; omega)
  refine PCt.of_ev mix fn121 (by simp) ?_
  rw [c121]
  simp +contextual only [go_sem, w1]
  have hA : overV (n * a.num) a.den = timesV n a := rfl
  rw [hA] at hov
  cases he : okR (timesV n a) with
  | true =>
    rw [he, if_pos rfl] at hov
    refine call_keep hov rfl ?_
    simp +contextual only [go_sem, if_true]
  | false =>
    rw [he, if_neg Bool.noConfusion] at hov
    refine call_pan hov (by decide) ?_
    simp +contextual only [go_sem, if_false]
theorem less_c (a b : Rat) (ha : a.Ok) (hb : b.Ok) : PCt Try.prog 101 [a.d, b.d] (.ret [.bool (lessV a b)]) := by
  have m1 := mul9 ha.n (b := b.den) ⟨by have := hb.d; omega, hb.d.2⟩
  have m2 := mul9 hb.n (b := a.den) ⟨by have := ha.d; omega, ha.d.2⟩
  have w1 : IntKind.i64.wrap (a.num * b.den) = a.num * b.den := wrap64 (by omega) (by omega)
  have w2 : IntKind.i64.wrap (b.num * a.den) = b.num * a.den := wrap64 (by omega) (by omega)
  refine PCt.of_ev mix fn101 (by simp) ?_
  rw [c101]
  simp +contextual only [go_sem, w1, w2]
  rfl
theorem add'_c (a b : Rat) (ha : a.Ok) (hb : b.Ok) : PCt Try.prog 123 [a.d, b.d] (.ret [(addV a b).d]) := by
  have m1 := mul9 ha.n (b := b.den) ⟨by have := hb.d; omega, hb.d.2⟩
  have m2 := mul9 hb.n (b := a.den) ⟨by have := ha.d; omega, ha.d.2⟩
  have m3 := mul9 (a := a.den) (b := b.den) ⟨by have := ha.d; omega, ha.d.2⟩ ⟨by have := hb.d; omega, hb.d.2⟩
  have hne : a.den * b.den ≠ 0 := Int.mul_ne_zero (by have := ha.d; omega) (by have := hb.d; omega)
  have w1 : IntKind.i64.wrap (a.num * b.den) = a.num * b.den := wrap64 (by omega) (by omega)
  have w2 : IntKind.i64.wrap (b.num * a.den) = b.num * a.den := wrap64 (by omega) (by omega)
  have w3 : IntKind.i64.wrap (a.den * b.den) = a.den * b.den := wrap64 (by omega) (by omega)
  have w4 : IntKind.i64.wrap (a.num * b.den + b.num * a.den) = a.num * b.den + b.num * a.den := wrap64 (by omega) (by omega)
  have hov := over'_c (a.num * b.den + b.num * a.den) (a.den * b.den) (by omega) (by omega) hne
  refine PCt.of_ev mix fn123 (by simp) ?_
  rw [c123]
  simp +contextual only [go_sem, w1, w2, w3, w4]
  refine call_keep hov rfl ?_
  simp +contextual only [go_sem]
  rfl
theorem times'_c (n : Int) (a : Rat) (ha : a.Ok) (hn : -1000000000 ≤ n ∧ n ≤ 1000000000) : PCt Try.prog 122 [.i n, a.d] (.ret [(timesV n a).d]) := by
  have m1 := mul9 hn ha.n
  have w1 : IntKind.i64.wrap (n * a.num) = n * a.num := wrap64 (by omega) (by omega)
  have hov := over'_c (n * a.num) a.den (by omega) (by have := ha.d; omega) (by have := ha.d; omega)
  refine PCt.of_ev mix fn122 (by simp) ?_
  rw [c122]
  simp +contextual only [go_sem, w1]
  refine call_keep hov rfl ?_
  simp +contextual only [go_sem]
  rfl
theorem less'_c (a b : Rat) (ha : a.Ok) (hb : b.Ok) : PCt Try.prog 125 [a.d, b.d] (.ret [.bool (lessV a b)]) := by
  have m1 := mul9 ha.n (b := b.den) ⟨by have := hb.d; omega, hb.d.2⟩
  have m2 := mul9 hb.n (b := a.den) ⟨by have := ha.d; omega, ha.d.2⟩
  have w1 : IntKind.i64.wrap (a.num * b.den) = a.num * b.den := wrap64 (by omega) (by omega)
  have w2 : IntKind.i64.wrap (b.num * a.den) = b.num * a.den := wrap64 (by omega) (by omega)
  refine PCt.of_ev mix fn125 (by simp) ?_
  rw [c125]
  simp +contextual only [go_sem, w1, w2]
  rfl
end Go.Proofs.Ytaafchgfibbmhaa
