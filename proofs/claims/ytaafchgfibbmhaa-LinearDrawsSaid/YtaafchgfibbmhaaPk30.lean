/-
  A PART OF THE PROOF (put together by program): several texts, one behind the other. Conditions: none.
-/
import Derived.Test.YtaafchgfibbmhaaPk29
set_option linter.unusedSimpArgs false
set_option linter.unusedVariables false
namespace Go.Proofs.Ytaafchgfibbmhaa
def lineB (a b : Row) : Bool := ((a.c.getD 0 0 == b.c.getD 0 0) && ((a.c.getD 1 0 == b.c.getD 1 0) && ((a.c.getD 2 0 == b.c.getD 2 0) && ((a.c.getD 3 0 == b.c.getD 3 0) && ((a.c.getD 4 0 == b.c.getD 4 0) && true))))) && ((a.rel == b.rel) && ((a.b == b.b) && true))
def isMet (met : List Row) (r : Row) : Bool := met.any (lineB r)
def addMet (met : List Row) (r : Row) : List Row := if isMet met r = true then met else met ++ [r]
def metD (met : List Row) : List (D × D) := met.map fun r => (.agg (lineD r), .bool true)
def keepK (out : List Made) : Nat → List Row × List Made
  | 0 => ([], [])
  | k + 1 => match out[k]? with
    | some m => (addMet (keepK out k).1 m.r, if (!isMet (keepK out k).1 m.r && !goneF m.r) = true then (keepK out k).2 ++ [m] else (keepK out k).2)
    | none => keepK out k
theorem keepK_len (out : List Made) : ∀ k, (keepK out k).2.length ≤ k
  | 0 => Nat.le_refl _
  | k + 1 => by
    have := keepK_len out k
    simp only [keepK]
    split
    · split
      · simp; omega
      · simp; omega
    · omega
theorem eqT_line (a b : Row) : eqT Try.prog 100 112 (.agg (lineD a)) (.agg (lineD b)) = some (lineB a b) := by kernel_rfl
theorem same_refl_line (a b : Row) (h : lineB a b = true) : lineD b = lineD a := by
  simp only [lineB, Bool.and_eq_true, beq_iff_eq] at h
  obtain ⟨⟨h0, h1, h2, h3, h4, _⟩, h5, h6, _⟩ := h
  simp only [lineD, h0, h1, h2, h3, h4, h5, h6]
theorem findMet (r : Row) : ∀ (met : List Row) (i : Nat), (isMet met r = false ∧ findD Try.prog 112 (.agg (lineD r)) (metD met) i = some none) ∨
    (isMet met r = true ∧ ∃ j, j < met.length ∧ findD Try.prog 112 (.agg (lineD r)) (metD met) i = some (some (i + j, .agg (lineD r), .bool true)) ∧ (metD met)[j]? = some (.agg (lineD r), .bool true))
  | [], i => .inl ⟨rfl, rfl⟩
  | m :: met, i => by
    have hmd : metD (m :: met) = (.agg (lineD m), .bool true) :: metD met := by simp only [metD, List.map_cons]
    rw [hmd, findD, eqT_line]
    cases hb : lineB r m with
    | true =>
      refine .inr ⟨by simp [isMet, hb], 0, by simp, ?_, ?_⟩
      · simp only [same_refl_line r m hb, Nat.add_zero]
      · simp [metD, same_refl_line r m hb]
    | false =>
      rcases findMet r met (i + 1) with ⟨h1, h2⟩ | ⟨h1, j, h2, h3, h4⟩
      · exact .inl ⟨by simp only [isMet, List.any_cons, hb, Bool.false_or]; exact h1, h2⟩
      · refine .inr ⟨by simp only [isMet, List.any_cons, hb, Bool.false_or]; exact h1, j + 1, by simp; omega, ?_, ?_⟩
        · simp only [h3]; congr 3; omega
        · simpa [metD] using h4
theorem mapT147 : mapT Try.prog 147 = some (112, 4) := by kernel_rfl
theorem chk112 (r : Row) : chkT Try.prog 100 112 (.agg (lineD r)) = true := by
  have h : ∀ a0 a1 a2 a3 a4 a5 a6 : Int, chkT Try.prog 100 112 (.agg [.i a0, .i a1, .i a2, .i a3, .i a4, .i a5, .i a6]) = true := fun _ _ _ _ _ _ _ => by kernel_rfl
  exact h _ _ _ _ _ _ _
theorem zero4 : zeroV Try.prog 4 = some (.d (.bool false)) := by kernel_rfl
theorem lookMet {o : Nat → Obj'} {mid : Nat} {met : List Row} (h : o mid = .map 112 4 (metD met)) (r : Row) : lookupF Try.prog o 147 (.mp mid) (.d (.agg (lineD r))) false = some (.d (.bool (isMet met r)), [], [mid]) := by
  unfold lookupF
  simp only [mapT147, toD, mapEs, h, V.ids, chk112, and_self, if_true, idOf]
  rcases findMet r met 0 with ⟨h1, h2⟩ | ⟨h1, j, h2, h3, h4⟩
  · simp only [h2, zero4, h1, Bool.false_eq_true, if_false]
  · simp only [h3, h1, Bool.false_eq_true, if_false]
theorem same_line (r : Row) : D.same (.agg (lineD r)) (.agg (lineD r)) = true := by simp [D.same, D.sames]
theorem updMet {o : Nat → Obj'} {mid : Nat} {met : List Row} (h : o mid = .map 112 4 (metD met)) (r : Row) : mapUpdF Try.prog o 147 (.mp mid) (.d (.agg (lineD r))) (.d (.bool true)) = some (.tup [], [(mid, .map 112 4 (metD (addMet met r)))], [mid]) := by
  unfold mapUpdF
  have hp : plainD (.agg (lineD r)) = true := by simp [plainD, scalD]
  simp only [mapT147, toD, mapEs, h, V.ids, chk112, hp, and_self, if_true, List.all_nil]
  rcases findMet r met 0 with ⟨h1, h2⟩ | ⟨h1, j, h2, h3, h4⟩
  · simp only [h2, addMet, h1, Bool.false_eq_true, if_false]
    simp [frz, metD]
  · simp only [h3, same_line, if_true, Nat.zero_add, addMet, h1]
    have : (metD met).set j (.agg (lineD r), .bool true) = metD met := by
      rw [List.getElem?_eq_some_iff] at h4
      obtain ⟨a, b⟩ := h4
      rw [← b]; exact List.set_getElem_self a
    rw [this]; simp [frz]
@[reducible] def eBody : IC :=
  (.seq (.reg [bo .lss 84 3 83 82 3]) (.seq (.cond (.tmp 84) .skip (.exit 4)) (.seq (.block 5 (.seq (.reg [ia 85 34 81 83,
 ld 86 47 85,
 al 12 47,
 st 47 12 86]) (.seq (.reg [fa 87 47 12 0,
 ld 88 45 87,
 k1 89 80 88 45,
 al 13 112,
 st 112 13 89]) (.seq (.seq (.reg [mv 90 10,
 ld 91 112 13,
 ⟨(some 92), .lookup 147 (.tmp 90) (.tmp 91) false, none⟩,
 nt 93 4 92,
 mv 94 93,
 gT (ld 95 112 13) 94,
 gT (k1 96 111 95 112) 94,
 gT (nt 97 4 96) 94,
 pkf 98 94 97]) (.cond (.tmp 98) (.drw [ld 99 105 2,
 ld 100 105 2,
 nc 101 100,
 fa 102 107 101 1,
 ld 103 34 102,
 ld 104 47 12,
 ⟨(some 105), .buildSlice 34 1 #[(0, .tmp 104)], none⟩,
 ⟨(some 106), .call { callee := .builtin .append, args := #[.tmp 103, .tmp 105], argTypes := #[34, 34] }, none⟩,
 nc 107 99,
 fa 108 107 107 1,
 st 34 108 106]
 [[], [], [1], [2], [3], [], [5], [4, 6], [0, 0, 1, 2, 3, 4, 5, 6, 7], [8, 0, 1, 2, 3, 4, 5, 6, 7], [9, 7, 7, 0, 1, 2, 3, 4, 5, 6, 7]]) .skip)) (.reg [mv 109 10,
 ld 110 112 13,
 ⟨none, .mapUpdate 147 (.tmp 109) (.tmp 110) (.const (.bool true)), none⟩]))))) (.reg [bk .add 111 3 83 1 3,
 mv 83 111]))))
@[reducible] noncomputable def eSt (s : Sys) (out : List Made) (bx id mid c : Nat) (B : Nat → Obj') (k : Nat) : S :=
  ⟨envJ [.junk, .junk, .ptr bx 0, .junk, .junk, .junk, .junk, .junk, .junk, .junk, .mp mid, .junk, .junk, .junk, .junk, .junk, .junk, .junk, .junk, .junk, .junk, .junk, .junk, .junk, .junk, .junk, .junk, .junk, .junk, .junk, .junk, .junk, .junk, .junk, .junk, .junk, .junk, .junk, .junk, .junk, .junk, .junk, .junk, .junk, .junk, .junk, .junk, .junk, .junk, .junk, .junk, .junk, .junk, .junk, .junk, .junk, .junk, .junk, .junk, .junk, .junk, .junk, .junk, .junk, .junk, .junk, .junk, .junk, .junk, .junk, .junk, .junk, .junk, .junk, .junk, .junk, .junk, .junk, .junk, .junk, .junk, .d (.sl (out.map Made.d)), .d (.i out.length), .d (.i k)], upd (upd (upd B mid (.map 112 4 (metD (keepK out k).1))) c (.arr 0 47 4 ((keepK out k).2.map Made.d))) id (.row [.d (.i s.vars), .d (.sl (s.rows.map Row.d)), .osl c 0]), c + 1⟩
set_option maxHeartbeats 1000000 in
theorem elimLoop (s : Sys) (out : List Made) (hout : out.length ≤ 1000) (hlen : ∀ m ∈ out, m.r.c.length ≤ 5) (bx id mid c nx : Nat) (hnx : nx ≤ c) (B : Nat → Obj') (hB : Good B c) (hbx : B bx = .row [.ptr id 0]) {z0 : V} (hid : B id = .row [.d (.i s.vars), .d (.sl (s.rows.map Row.d)), z0]) {l0 : List (D × D)} (hmid : B mid = .map 112 4 l0) (K X : V → (Nat → Obj') → Nat → Prop)
    (hK : ∀ o' nx' z, c ≤ nx' → Good o' nx' → (∀ j, j < c → j ≠ id → j ≠ mid → o' j = B j) → o' id = .row [.d (.i s.vars), .d (.sl (s.rows.map Row.d)), z] → Grows o' c 47 4 ((keepK out out.length).2.map Made.d) z → K (.tup []) o' nx')
    (S0 : S) (h0 : SLe nx S0 (eSt s out bx id mid c B 0)) : loopS nx (fun Q s => evW Try.prog 112 nx false eBody Q s) (blockQ 4 (endG Try.prog [] K X)) S0 := by
  have l0 : bx < c := hB.lt (by rw [hbx]; exact Obj'.noConfusion)
  have l1 : id < c := hB.lt (by rw [hid]; exact Obj'.noConfusion)
  have l2 : mid < c := hB.lt (by rw [hmid]; exact Obj'.noConfusion)
  have e0 : bx ≠ id := fun e => by subst e; rw [hbx] at hid; injection hid with h; simp at h
  have e1 : bx ≠ mid := fun e => by subst e; rw [hbx] at hmid; cases hmid
  have e2 : id ≠ mid := fun e => by subst e; rw [hid] at hmid; cases hmid
  have e3 := Ne.symm e0
  have e4 := Ne.symm e1
  have e5 := Ne.symm e2
  have f0 : bx ≠ c := by omega
  have f1 : id ≠ c := by omega
  have f2 : mid ≠ c := by omega
  have f3 : ∀ k, bx ≠ c + k := fun k => by omega
  have f4 : ∀ k, id ≠ c + k := fun k => by omega
  have f5 : ∀ k, mid ≠ c + k := fun k => by omega
  have g0 : c ≠ id := by omega
  have g1 : c ≠ mid := by omega
  have g2 : ∀ k, c + k ≠ id := fun k => by omega
  have g3 : ∀ k, c + k ≠ mid := fun k => by omega
  refine loop_fam (eSt s out bx id mid c B) (fun k => k ≤ out.length) (fun k => out.length - k) 0 (Nat.zero_le _) h0 (fun k hk => ?_)
  simp only [eBody]
  simp +contextual only [go_sem]
  refine cond_intro (fun h2 => ?_) (fun h2 => ?_)
  · simp at h2
    obtain ⟨m, hm⟩ : ∃ m, out[k]? = some m := ⟨out[k], by simp [h2]⟩
    have hmc := hlen m (List.mem_of_getElem? hm)
    simp +contextual only [go_sem, hm, Made.d, Row.d, Nat.add_assoc, Nat.left_eq_add, Nat.add_eq_left, Nat.add_left_cancel_iff, hbx, hid, e0, e1, e2, e3, e4, e5, f0, f1, f2, f3, f4, f5, g0, g1, g2, g3]
    refine call_give (lineOf_c m.r hmc) ?_
    have hlk := fun (o : Nat → Obj') (h : o mid = .map 112 4 (metD (keepK out k).1)) => lookMet h m.r
    have hup := fun (o : Nat → Obj') (h : o mid = .map 112 4 (metD (keepK out k).1)) => updMet h m.r
    have hk1 : (keepK out (k + 1)).1 = addMet (keepK out k).1 m.r := by simp only [keepK, hm]
    have hk2 : (keepK out (k + 1)).2 = if (!isMet (keepK out k).1 m.r && !goneF m.r) = true then (keepK out k).2 ++ [m] else (keepK out k).2 := by simp only [keepK, hm]
    have hkl := keepK_len out k
    have h8f : (keepK out k).2.length ≤ 140737488355327 := by omega
    have h8g : ((keepK out k).2.length + 1) * 64 ≤ 140737488355328 := by omega
    cases hmet : isMet (keepK out k).1 m.r with
    | true =>
      simp only [hmet] at hlk
      rw [hmet] at hk2
      simp +contextual only [go_sem, hm, Made.d, Row.d, Nat.add_assoc, Nat.left_eq_add, Nat.add_eq_left, Nat.add_left_cancel_iff, hbx, hid, e0, e1, e2, e3, e4, e5, f0, f1, f2, f3, f4, f5, g0, g1, g2, g3, hlk]
      simp +contextual only [go_sem, hm, Made.d, Row.d, Nat.add_assoc, Nat.left_eq_add, Nat.add_eq_left, Nat.add_left_cancel_iff, hbx, hid, e0, e1, e2, e3, e4, e5, f0, f1, f2, f3, f4, f5, g0, g1, g2, g3, hup]
      refine nextS_intro (k + 1) h2 (by omega) ?_
      simp only [eSt]
      refine SLe.conv _ (.osl c 0) id [.d (.i s.vars), .d (.sl (s.rows.map Row.d)), .osl c 0] _ l1 hnx (by omega) (hB.upd (x := .map 112 4 (metD (keepK out (k + 1)).1)) l2 rfl) (fun j q1 q2 => ?_) ?_ (convL_d (convL_d (convL_x convL_nil))) (.inr ⟨c, 0, Nat.le_refl _, rfl, ?_⟩) ?_
      · rw [hk1]
        by_cases e : j = mid
        · subst e
          repeat (first | rfl | rw [upd_same] | rw [upd_ne _ _ _ _ (by omega)])
        · repeat (first | rfl | rw [upd_ne _ _ _ _ (by omega)])
      · repeat (first | rfl | rw [upd_same] | rw [upd_ne _ _ _ _ (by omega)])
      · rw [hk2]
        repeat (first | rfl | rw [upd_same] | rw [upd_ne _ _ _ _ (by omega)])
      · repeat (first | exact convE_nil | refine convE_junk ?_ | refine convE_x rfl ?_ | refine convE_d rfl ?_ | refine convE_d (d_int (wrapN (by omega))) ?_ | refine convE_v rfl (by simp [V.refs] <;> omega) ?_)
    | false =>
      simp only [hmet] at hlk
      rw [hmet] at hk2
      simp +contextual only [go_sem, hm, Made.d, Row.d, Nat.add_assoc, Nat.left_eq_add, Nat.add_eq_left, Nat.add_left_cancel_iff, hbx, hid, e0, e1, e2, e3, e4, e5, f0, f1, f2, f3, f4, f5, g0, g1, g2, g3, hlk]
      refine call_give (gone_c m.r) ?_
      cases hgn : goneF m.r with
      | true =>
        rw [hgn] at hk2
        simp +contextual only [go_sem, hm, Made.d, Row.d, Nat.add_assoc, Nat.left_eq_add, Nat.add_eq_left, Nat.add_left_cancel_iff, hbx, hid, e0, e1, e2, e3, e4, e5, f0, f1, f2, f3, f4, f5, g0, g1, g2, g3, hup]
        refine nextS_intro (k + 1) h2 (by omega) ?_
        simp only [eSt]
        refine SLe.conv _ (.osl c 0) id [.d (.i s.vars), .d (.sl (s.rows.map Row.d)), .osl c 0] _ l1 hnx (by omega) (hB.upd (x := .map 112 4 (metD (keepK out (k + 1)).1)) l2 rfl) (fun j q1 q2 => ?_) ?_ (convL_d (convL_d (convL_x convL_nil))) (.inr ⟨c, 0, Nat.le_refl _, rfl, ?_⟩) ?_
        · rw [hk1]
          by_cases e : j = mid
          · subst e
            repeat (first | rfl | rw [upd_same] | rw [upd_ne _ _ _ _ (by omega)])
          · repeat (first | rfl | rw [upd_ne _ _ _ _ (by omega)])
        · repeat (first | rfl | rw [upd_same] | rw [upd_ne _ _ _ _ (by omega)])
        · rw [hk2]
          repeat (first | rfl | rw [upd_same] | rw [upd_ne _ _ _ _ (by omega)])
        · repeat (first | exact convE_nil | refine convE_junk ?_ | refine convE_x rfl ?_ | refine convE_d rfl ?_ | refine convE_d (d_int (wrapN (by omega))) ?_ | refine convE_v rfl (by simp [V.refs] <;> omega) ?_)
      | false =>
        rw [hgn] at hk2
        simp +contextual only [go_sem, hm, Made.d, Row.d, Nat.add_assoc, Nat.left_eq_add, Nat.add_eq_left, Nat.add_left_cancel_iff, hbx, hid, e0, e1, e2, e3, e4, e5, f0, f1, f2, f3, f4, f5, g0, g1, g2, g3, hup, h8f, h8g, if_true, if_false]
        refine end_intro (objsOk_renL (ids := [bx, id, mid]) (nx := c) (by simp; omega) (by simp; omega) [([0], []), ([0], []), ([1], []), ([1], []), ([1], []), ([7], []), ([], [29]), ([3, 29], [3]), ([1], []), ([1], []), ([1, 3], [1])] (by decide)) ?_
        simp +contextual only [go_sem, hm, Made.d, Row.d, Nat.add_assoc, Nat.left_eq_add, Nat.add_eq_left, Nat.add_left_cancel_iff, hbx, hid, e0, e1, e2, e3, e4, e5, f0, f1, f2, f3, f4, f5, g0, g1, g2, g3, hup, h8f, h8g, if_true, if_false]
        refine nextS_intro (k + 1) h2 (by omega) ?_
        simp only [eSt]
        refine SLe.conv _ (.osl c 1) id [.d (.i s.vars), .d (.sl (s.rows.map Row.d)), .osl c 1] _ l1 hnx (by omega) (hB.upd (x := .map 112 4 (metD (keepK out (k + 1)).1)) l2 rfl) (fun j q1 q2 => ?_) ?_ (convL_d (convL_d (convL_x convL_nil))) (.inr ⟨c, 1, Nat.le_refl _, rfl, ?_⟩) ?_
        · rw [hk1]
          by_cases e : j = mid
          · subst e
            repeat (first | rfl | rw [upd_same] | rw [upd_ne _ _ _ _ (by omega)])
          · repeat (first | rfl | rw [upd_ne _ _ _ _ (by omega)])
        · repeat (first | rfl | rw [upd_same] | rw [upd_ne _ _ _ _ (by omega)])
        · rw [hk2]
          simp only [Bool.not_false, Bool.and_self, if_true, List.map_append]
          repeat (first | rfl | rw [upd_same] | rw [upd_ne _ _ _ _ (by omega)])
        · repeat (first | exact convE_nil | refine convE_junk ?_ | refine convE_x rfl ?_ | refine convE_d rfl ?_ | refine convE_d (d_int (wrapN (by omega))) ?_ | refine convE_v rfl (by simp [V.refs] <;> omega) ?_)
  · simp +contextual only [go_sem, Nat.add_assoc, Nat.left_eq_add, Nat.add_eq_left, Nat.add_left_cancel_iff]
    simp at h2
    have hkl : k = out.length := by omega
    subst hkl
    refine hK _ _ (.osl c 0) (by omega) ?_ (fun j g1 g2 g3 => ?_) (upd_same _ _ _) (.inr ⟨c, 0, Nat.le_refl _, rfl, ?_⟩)
    · exact (((hB.mono (by omega)).upd (by omega) rfl).upd (by omega) rfl).upd (by omega) (by simp [Obj'.refs, V.refss, V.refs])
    · repeat (first | rfl | rw [upd_ne _ _ _ _ (by omega)])
    · repeat (first | rfl | rw [upd_same] | rw [upd_ne _ _ _ _ (by omega)])
end Go.Proofs.Ytaafchgfibbmhaa
namespace Go.Proofs.Ytaafchgfibbmhaa
def zeroL (v : Nat) (l : List Made) : List Made := l.filter (fun m => m.r.c.getD v 0 == 0)
def rawE (s : Sys) (v : Nat) (l : List Made) : Option (List Made) :=
  match l.findIdx? (usesF v) with
  | some at' => match l[at']? with
    | some e => useL s l e v at' l.length
    | none => none
  | none => outP s v l (zeroL v l) l.length
def elimE (s : Sys) (v : Nat) (l : List Made) : Option (List Made) := (rawE s v l).bind fun out => if 200 < out.length then none else some (keepK out out.length).2
def elimPost (s : Sys) (o : Nat → Obj') (nx id : Nat) (r : Option (List Made)) (K X : V → (Nat → Obj') → Nat → Prop) : Prop :=
  match r with
  | some out => ∀ o' nx' z, nx ≤ nx' → Good o' nx' → (∀ j, j < nx → j ≠ id → o' j = o j ∨ o j = .no) → o' id = .row [.d (.i s.vars), .d (.sl (s.rows.map Row.d)), z] → Grows o' nx 47 4 (out.map Made.d) z → K (.tup []) o' nx'
  | none => ∀ o' nx', nx ≤ nx' → Good o' nx' → (∀ j, j < nx → j ≠ id → o' j = o j ∨ o j = .no) → X (.d tooD) o' nx'
theorem Grows.upd_row {so : Nat → Obj'} {c : Nat} {ty : TypeId} {sz : Nat} {es : List D} {x : V} {r : Nat} {cs : List V} {y : Obj'} (h : Grows so c ty sz es x) (hr : so r = .row cs) : Grows (upd so r y) c ty sz es x := by
  rcases h with h | ⟨i, ep, h1, h2, h3⟩
  · exact .inl h
  · refine .inr ⟨i, ep, h1, h2, ?_⟩
    rw [upd_ne _ _ _ _ (fun e => by subst e; rw [hr] at h3; cases h3)]
    exact h3
theorem Grows.toG {so : Nat → Obj'} {c : Nat} {ty : TypeId} {sz : Nat} {es : List D} {x : V} (h : Grows so c ty sz es x) (gone : Nat → Prop) (hg : ∀ j, c ≤ j → gone j) : GrowsG so gone ty sz es x := by
  rcases h with h | ⟨i, ep, h1, h2, h3⟩
  · exact .inl h
  · exact .inr ⟨i, ep, hg i h1, h2, h3⟩
structure ElimInv (s : Sys) (v : Nat) (l : List Made) (id nx r0 : Nat) (o : Nat → Obj') (st : S) (out : List Made) (z : V) : Prop where
  raw : rawE s v l = some out
  e2 : st.env 2 = .ptr nx 0
  e5 : st.env 5 = .ptr r0 0
  good : Good st.o st.nx
  le : nx ≤ st.nx
  same : ∀ j, j < nx → st.o j = o j ∨ o j = .no
  box : st.o nx = .row [.ptr id 0]
  row : st.o r0 = .row [z]
  grows : GrowsG st.o (fun j => j < nx → o j = .no) 47 4 (out.map Made.d) z
theorem sumM_ok {s : Sys} {a : Int} {m : Made} {b : Int} {n : Made} {nv nr : Nat} (hm : m.Ok nv nr) (hn : n.Ok nv nr) (h : bigOk (sumM s a m b n) = true) : (sumM s a m b n).Ok nv nr := by
  refine Made.ok_of_big ?_ ?_ h
  · rw [sumM, redM_lc]; simp only [rawSum]; rw [comb_length (by rw [hm.lc, hn.lc]), hm.lc]
  · rw [sumM, redM_lt]; simp only [rawSum]; rw [comb_length (by rw [hm.lt, hn.lt]), hm.lt]
theorem useOne_ok {s : Sys} {e : Made} {v at' i : Nat} {m : Made} {nv nr : Nat} (he : e.Ok nv nr) (hm : m.Ok nv nr) {out : List Made} (h : useOne s e v at' i m = some out) : ∀ x ∈ out, x.Ok nv nr := by
  unfold useOne at h
  dsimp only at h
  split at h
  · injection h with h; subst h; intro x hx; cases hx
  · split at h
    · injection h with h; subst h; intro x hx; simp at hx; subst hx; exact hm
    · have key : ∀ x, (if bigOk x = true then some [x] else none) = some out → (bigOk x = true → x.Ok nv nr) → ∀ y ∈ out, y.Ok nv nr := by
        intro x h hx
        split at h
        · rename_i hb
          injection h with h; subst h; intro y hy; simp only [List.mem_singleton] at hy; subst hy; exact hx hb
        · cases h
      by_cases hc : 0 < e.r.c.getD v 0
      · simp only [if_pos hc] at h; exact key _ h (sumM_ok hm he)
      · simp only [if_neg hc] at h; exact key _ h (sumM_ok hm he)
theorem useL_ok {s : Sys} {l : List Made} {e : Made} {v at' : Nat} {nv nr : Nat} (he : e.Ok nv nr) (hl : ∀ m ∈ l, m.Ok nv nr) : ∀ {k : Nat} {out : List Made}, useL s l e v at' k = some out → ∀ x ∈ out, x.Ok nv nr
  | 0, out, h => by simp [useL] at h; subst h; intro x hx; cases hx
  | k + 1, out, h => by
    simp only [useL] at h
    cases hi : useL s l e v at' k with
    | none => rw [hi] at h; cases h
    | some acc =>
      rw [hi] at h
      simp only [Option.bind_some] at h
      have ih := useL_ok he hl hi
      split at h
      · rename_i m hm
        cases ho : useOne s e v at' k m with
        | none => rw [ho] at h; cases h
        | some x =>
          rw [ho] at h
          simp at h; subst h
          intro y hy
          rcases List.mem_append.1 hy with hy | hy
          · exact ih y hy
          · exact useOne_ok he (hl m (List.mem_of_getElem? hm)) ho y hy
      · injection h with h; subst h; exact ih
theorem stepP_ok {s : Sys} {v : Nat} {acc acc2 : List Made} {a b : Made} {nv nr : Nat} (ha : a.Ok nv nr) (hb : b.Ok nv nr) (hacc : ∀ x ∈ acc, x.Ok nv nr) (h : stepP s v acc a b = some acc2) : ∀ x ∈ acc2, x.Ok nv nr := by
  unfold stepP at h
  split at h
  · cases hp : pairF s v a b with
    | none => rw [hp] at h; cases h
    | some x =>
      rw [hp] at h; simp at h; subst h
      intro y hy
      rcases List.mem_append.1 hy with hy | hy
      · exact hacc y hy
      · simp only [List.mem_singleton] at hy; subst hy
        unfold pairF at hp
        dsimp only at hp
        split at hp
        · rename_i hb2; injection hp with hp; subst hp; exact sumM_ok ha hb hb2
        · cases hp
  · injection h with h; subst h; exact hacc
theorem innP_ok {s : Sys} {v : Nat} {l : List Made} {a : Made} {acc : List Made} {nv nr : Nat} (ha : a.Ok nv nr) (hl : ∀ m ∈ l, m.Ok nv nr) (hacc : ∀ x ∈ acc, x.Ok nv nr) : ∀ {j : Nat} {acc2 : List Made}, innP s v l a acc j = some acc2 → ∀ x ∈ acc2, x.Ok nv nr
  | 0, acc2, h => by simp [innP] at h; subst h; exact hacc
  | j + 1, acc2, h => by
    simp only [innP] at h
    cases hi : innP s v l a acc j with
    | none => rw [hi] at h; cases h
    | some x =>
      rw [hi] at h
      have ih := innP_ok ha hl hacc hi
      simp only [Option.bind_some] at h
      split at h
      · rename_i b hb; exact stepP_ok ha (hl b (List.mem_of_getElem? hb)) ih h
      · injection h with h; subst h; exact ih
theorem outP_ok {s : Sys} {v : Nat} {l : List Made} {acc : List Made} {nv nr : Nat} (hl : ∀ m ∈ l, m.Ok nv nr) (hacc : ∀ x ∈ acc, x.Ok nv nr) : ∀ {i : Nat} {acc2 : List Made}, outP s v l acc i = some acc2 → ∀ x ∈ acc2, x.Ok nv nr
  | 0, acc2, h => by simp [outP] at h; subst h; exact hacc
  | i + 1, acc2, h => by
    simp only [outP] at h
    cases hi : outP s v l acc i with
    | none => rw [hi] at h; cases h
    | some x =>
      rw [hi] at h
      have ih := outP_ok hl hacc hi
      simp only [Option.bind_some] at h
      split at h
      · rename_i a ha; exact innP_ok (hl a (List.mem_of_getElem? ha)) hl ih h
      · injection h with h; subst h; exact ih
theorem rawE_ok {s : Sys} {v : Nat} {l out : List Made} {nv nr : Nat} (hl : ∀ m ∈ l, m.Ok nv nr) (h : rawE s v l = some out) : ∀ x ∈ out, x.Ok nv nr := by
  unfold rawE at h
  split at h
  · split at h
    · rename_i e he; exact useL_ok (hl e (List.mem_of_getElem? he)) hl h
    · cases h
  · exact outP_ok hl (fun x hx => hl x (List.mem_filter.1 hx).1) h
theorem keepK_sub (out : List Made) : ∀ k, ∀ x ∈ (keepK out k).2, x ∈ out
  | 0, x, h => by simp [keepK] at h
  | k + 1, x, h => by
    simp only [keepK] at h
    split at h
    · rename_i m hm
      dsimp only at h
      split at h
      · rcases List.mem_append.1 h with h | h
        · exact keepK_sub out k x h
        · simp only [List.mem_singleton] at h; subst h; exact List.mem_of_getElem? hm
      · exact keepK_sub out k x h
    · exact keepK_sub out k x h
theorem elimE_ok {s : Sys} {v : Nat} {l out : List Made} {nv nr : Nat} (hl : ∀ m ∈ l, m.Ok nv nr) (h : elimE s v l = some out) : (∀ x ∈ out, x.Ok nv nr) ∧ out.length ≤ 200 := by
  unfold elimE at h
  cases hr : rawE s v l with
  | none => rw [hr] at h; cases h
  | some raw =>
    rw [hr] at h
    simp only [Option.bind_some] at h
    split at h
    · cases h
    · injection h with h
      subst h
      exact ⟨fun x hx => rawE_ok hl hr x (keepK_sub _ _ x hx), by have := keepK_len raw raw.length; omega⟩
@[reducible] def tailC : IC := (.seq (.seq (.reg [ld 72 34 5,
 ln 73 72 34,
 bk .gtr 74 3 73 200 3]) (.cond (.tmp 74) (.reg [⟨(some 75), .build 119 #[], none⟩,
 ⟨(some 76), .makeInterface 119 (.tmp 75), none⟩,
 ⟨none, .panic (.tmp 76), none⟩]) .skip)) (.seq (.reg [⟨(some 77), .makeMap 147 none, none⟩,
 sg 10 77]) (.seq (.reg [ld 78 105 2,
 nc 79 78,
 fa 80 107 79 1,
 ⟨none, .store 34 (.tmp 80) (.const (.slice none 0 0)), none⟩]) (.seq (.reg [ld 81 34 5,
 ln 82 81 34,
 mvk 83 0]) (.block 4 (.loop (.seq (.reg [bo .lss 84 3 83 82 3]) (.seq (.cond (.tmp 84) .skip (.exit 4)) (.seq (.block 5 (.seq (.reg [ia 85 34 81 83,
 ld 86 47 85,
 al 12 47,
 st 47 12 86]) (.seq (.reg [fa 87 47 12 0,
 ld 88 45 87,
 k1 89 80 88 45,
 al 13 112,
 st 112 13 89]) (.seq (.seq (.reg [mv 90 10,
 ld 91 112 13,
 ⟨(some 92), .lookup 147 (.tmp 90) (.tmp 91) false, none⟩,
 nt 93 4 92,
 mv 94 93,
 gT (ld 95 112 13) 94,
 gT (k1 96 111 95 112) 94,
 gT (nt 97 4 96) 94,
 pkf 98 94 97]) (.cond (.tmp 98) (.drw [ld 99 105 2,
 ld 100 105 2,
 nc 101 100,
 fa 102 107 101 1,
 ld 103 34 102,
 ld 104 47 12,
 ⟨(some 105), .buildSlice 34 1 #[(0, .tmp 104)], none⟩,
 ⟨(some 106), .call { callee := .builtin .append, args := #[.tmp 103, .tmp 105], argTypes := #[34, 34] }, none⟩,
 nc 107 99,
 fa 108 107 107 1,
 st 34 108 106]
 [[], [], [1], [2], [3], [], [5], [4, 6], [0, 0, 1, 2, 3, 4, 5, 6, 7], [8, 0, 1, 2, 3, 4, 5, 6, 7], [9, 7, 7, 0, 1, 2, 3, 4, 5, 6, 7]]) .skip)) (.reg [mv 109 10,
 ld 110 112 13,
 ⟨none, .mapUpdate 147 (.tmp 109) (.tmp 110) (.const (.bool true)), none⟩]))))) (.reg [bk .add 111 3 83 1 3,
 mv 83 111]))))))))))
theorem elimTail (s : Sys) (l : List Made) (v : Nat) {nv nr : Nat} (hok : ∀ m ∈ l, m.Ok nv nr) (hnv : nv ≤ 5) (id : Nat) (o : Nat → Obj') (ho : o id = .row [.d (.i s.vars), .d (.sl (s.rows.map Row.d)), .d (.sl (l.map Made.d))]) (nx : Nat) (hid : id < nx) (K X : V → (Nat → Obj') → Nat → Prop)
    (hK : elimPost s o nx id (elimE s v l) K X) (r0 : Nat) (hr0 : nx < r0) (st : S) (out : List Made) (z : V) (hI : ElimInv s v l id nx r0 o st out z) : evW Try.prog 112 nx false tailC (endG Try.prog [] K X) st := by
  obtain ⟨e, so, m⟩ := st
  obtain ⟨hraw, t2, t5, hgood, hle, hsame, hbox, hrow, hgr⟩ := hI
  dsimp only at t2 t5 hgood hle hsame hbox hrow hgr
  have hel : elimE s v l = if 200 < out.length then none else some (keepK out out.length).2 := by rw [elimE, hraw]; rfl
  have hrok := rawE_ok hok hraw
  have oid : so id = .row [.d (.i s.vars), .d (.sl (s.rows.map Row.d)), .d (.sl (l.map Made.d))] := by
    rcases hsame id hid with h | h
    · rw [h, ho]
    · rw [ho] at h; cases h
  have hnm : nx < m := hgood.lt (by rw [hbox]; exact Obj'.noConfusion)
  have hrm : r0 < m := hgood.lt (by rw [hrow]; exact Obj'.noConfusion)
  have hmix : Try.prog.follows .mixedOrders = true := mix
  have w0 : id ≠ nx := by omega
  have w1 : id ≠ r0 := by omega
  have w2 : nx ≠ r0 := by omega
  have w3 : id ≠ m := by omega
  have w4 : ∀ k, id ≠ m + k := fun k => by omega
  have w5 : nx ≠ m := by omega
  have w6 : ∀ k, nx ≠ m + k := fun k => by omega
  have w7 : r0 ≠ m := by omega
  have w8 : ∀ k, r0 ≠ m + k := fun k => by omega
  have w9 := Ne.symm w0
  have x1 := Ne.symm w1
  have x2 := Ne.symm w2
  simp only [tailC]
  rcases hgr with ⟨rfl, g2, g3⟩ | ⟨jd, ep, g1, rfl, g3⟩
  · simp +contextual only [go_sem, t2, t5, hrow, hbox, oid, Nat.add_assoc, Nat.left_eq_add, Nat.add_eq_left, Nat.add_left_cancel_iff, w0, w1, w2, w3, w4, w5, w6, w7, w8, w9, x1, x2]
    have hnil : out = [] := by simpa using g2
    subst hnil
    refine cond_intro (fun h2 => ?_) (fun h2 => ?_)
    · simp at h2
    · simp +contextual only [go_sem, t2, t5, hrow, hbox, oid, Nat.add_assoc, Nat.left_eq_add, Nat.add_eq_left, Nat.add_left_cancel_iff, w0, w1, w2, w3, w4, w5, w6, w7, w8, w9, x1, x2, makeMapF, mapT147]
      have hB : Good (upd so (m + 3) (.map 112 4 [])) (m + 12) := (hgood.mono (by omega)).upd (by omega) rfl
      refine elimLoop s [] (by simp) (by simp) nx id (m + 3) (m + 12) nx (by omega) (upd so (m + 3) (.map 112 4 [])) hB ?_ (z0 := .d (.sl (l.map Made.d))) ?_ (l0 := []) ?_ K X (fun o' nx' z q1 q2 q3 q4 q5 => ?_) _ ?_
      · rw [upd_ne _ _ _ _ (by omega), hbox]
      · rw [upd_ne _ _ _ _ (by omega), oid]
      · exact upd_same _ _ _
      · rw [hel, if_neg (by simp)] at hK
        refine hK o' nx' z (by omega) q2 (fun j k1 k2 => ?_) q4 (q5.mono (by omega))
        have := q3 j (by omega) k2 (by omega)
        rw [this, upd_ne _ _ _ _ (by omega)]
        exact hsame j k1
      · simp only [eSt]
        refine SLe.convD (fun j => m + 12 ≤ j) _ .nils id [.d (.i s.vars), .d (.sl (s.rows.map Row.d)), .nils] _ (by omega) (by omega) (by omega) (hB.upd (x := .map 112 4 (metD (keepK [] 0).1)) (by omega) rfl) (fun j k1 k2 => by omega) (fun j k1 k2 => .inl ?_) (upd_same _ _ _) (convL_d (convL_d (convL_x convL_nil))) (.inl ⟨rfl, rfl, by decide⟩) ?_
        · rw [upd_ne _ _ _ _ k2, upd_upd]; rfl
        · repeat (first | exact convE_nil | refine convE_junk ?_ | refine convE_x rfl ?_ | refine convE_d rfl ?_ | refine convE_v rfl (by simp [V.refs] <;> omega) ?_ | refine convE_v t2 (by simp [V.refs] <;> omega) ?_ | refine convE_c rfl (by simp [V.ids]) ?_)
  · have j0 : jd ≠ nx := fun e => by subst e; rw [hbox] at g3; cases g3
    have j1 : jd ≠ r0 := fun e => by subst e; rw [hrow] at g3; cases g3
    have j2 : jd ≠ id := fun e => by subst e; rw [oid] at g3; cases g3
    have hjm : jd < m := hgood.lt (by rw [g3]; exact Obj'.noConfusion)
    have j5 : jd ≠ m := by omega
    have j6 : ∀ k, jd ≠ m + k := fun k => by omega
    simp +contextual only [go_sem, t2, t5, hrow, hbox, oid, Nat.add_assoc, Nat.left_eq_add, Nat.add_eq_left, Nat.add_left_cancel_iff, w0, w1, w2, w3, w4, w5, w6, w7, w8, w9, x1, x2, g3, j0, j1, j2, j5, j6]
    refine cond_intro (fun h2 => ?_) (fun h2 => ?_)
    · simp +contextual only [go_sem, t2, t5, hrow, hbox, oid, Nat.add_assoc, Nat.left_eq_add, Nat.add_eq_left, Nat.add_left_cancel_iff, w0, w1, w2, w3, w4, w5, w6, w7, w8, w9, x1, x2, g3, j0, j1, j2, j5, j6]
      simp at h2
      rw [hel, if_pos (by omega)] at hK
      exact hK _ _ (by omega) (hgood.mono (by omega)) (fun j q1 q2 => hsame j q1)
    · simp +contextual only [go_sem, t2, t5, hrow, hbox, oid, Nat.add_assoc, Nat.left_eq_add, Nat.add_eq_left, Nat.add_left_cancel_iff, w0, w1, w2, w3, w4, w5, w6, w7, w8, w9, x1, x2, g3, j0, j1, j2, j5, j6, makeMapF, mapT147]
      simp at h2
      have hB : Good (upd (upd (upd so jd .no) r0 .no) (m + 3) (.map 112 4 [])) (m + 12) := (((hgood.mono (by omega)).upd (by omega) rfl).upd (by omega) rfl).upd (by omega) rfl
      refine elimLoop s out (by omega) (fun x hx => by have := (hrok x hx).lc; omega) nx id (m + 3) (m + 12) nx (by omega) (upd (upd (upd so jd .no) r0 .no) (m + 3) (.map 112 4 [])) hB ?_ (z0 := .d (.sl (l.map Made.d))) ?_ (l0 := []) ?_ K X (fun o' nx' z q1 q2 q3 q4 q5 => ?_) _ ?_
      · rw [upd_ne _ _ _ _ (by omega), upd_ne _ _ _ _ (by omega), upd_ne _ _ _ _ (by omega), hbox]
      · rw [upd_ne _ _ _ _ (by omega), upd_ne _ _ _ _ (by omega), upd_ne _ _ _ _ (by omega), oid]
      · exact upd_same _ _ _
      · rw [hel, if_neg (by omega)] at hK
        refine hK o' nx' z (by omega) q2 (fun j k1 k2 => ?_) q4 (q5.mono (by omega))
        have := q3 j (by omega) k2 (by omega)
        by_cases e : j = jd
        · subst e; exact .inr (g1 k1)
        · rw [this, upd_ne _ _ _ _ (by omega), upd_ne _ _ _ _ (by omega), upd_ne _ _ _ _ e]
          exact hsame j k1
      · simp only [eSt]
        refine SLe.convD (fun j => m + 12 ≤ j ∨ j = jd) _ .nils id [.d (.i s.vars), .d (.sl (s.rows.map Row.d)), .nils] _ (by omega) (by omega) (by omega) (hB.upd (x := .map 112 4 (metD (keepK out 0).1)) (by omega) rfl) (fun j k1 k2 => ?_) (fun j k1 k2 => ?_) (upd_same _ _ _) (convL_d (convL_d (convL_x convL_nil))) (.inl ⟨rfl, rfl, by decide⟩) ?_
        · have e : j = jd := by omega
          subst e
          refine ⟨by omega, ?_⟩
          rw [upd_ne _ _ _ _ (by omega), upd_ne _ _ _ _ (by omega), upd_ne _ _ _ _ (by omega), upd_same]
        · rw [upd_upd]
          by_cases e1 : j = jd
          · subst e1; right
            rw [upd_ne _ _ _ _ (by omega), upd_ne _ _ _ _ (by omega), upd_same]
          · by_cases e2 : j = r0
            · subst e2; right
              rw [upd_ne _ _ _ _ (by omega), upd_same]
            · left
              rw [upd_ne _ _ _ _ k2]
              by_cases e3 : j = m + 3
              · subst e3; rw [upd_same, upd_same]; rfl
              · rw [upd_ne _ _ _ _ e3, upd_ne _ _ _ _ e3, upd_ne _ _ _ _ e2, upd_ne _ _ _ _ e1]
        · have hdat : toD (upd (upd so (m + 3) (.map 112 4 [])) id (.row [.d (.i s.vars), .d (.sl (s.rows.map Row.d)), .nils])) (.osl jd ep) = some (.sl (out.map Made.d)) := by
            simp only [toD]
            rw [upd_ne _ _ _ _ (by omega), upd_ne _ _ _ _ (by omega), g3]
            simp
          repeat (first | exact convE_nil | refine convE_junk ?_ | refine convE_x rfl ?_ | refine convE_d rfl ?_ | refine convE_v rfl (by simp [V.refs] <;> omega) ?_ | refine convE_v t2 (by simp [V.refs] <;> omega) ?_ | refine convE_c hdat (by simp [V.ids]) ?_)
end Go.Proofs.Ytaafchgfibbmhaa
