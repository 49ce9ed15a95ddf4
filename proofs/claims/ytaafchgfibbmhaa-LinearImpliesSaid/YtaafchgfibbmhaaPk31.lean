/-
  A PART OF THE PROOF (put together by program): several texts, one behind the other. Conditions: none.
-/
import Derived.Test.YtaafchgfibbmhaaPk30
set_option linter.unusedSimpArgs false
set_option linter.unusedVariables false
namespace Go.Proofs.Ytaafchgfibbmhaa
@[reducible] def rA : IC := .seq (.reg [al 8 47, st 47 8 50]) (.reg [al 9 47, st 47 9 51])
@[reducible] def rB : IC := .block 3 (.drw [ld 52 34 5,
 ld 53 105 2,
 fa 54 47 9 0,
 fa 55 45 54 0,
 ld 56 42 55,
 ld 57 3 3,
 ia 58 42 56 57,
 ld 59 3 58,
 ⟨(some 60), .unOp .neg 3 (.tmp 59), none⟩,
 ld 61 47 8,
 fa 62 47 8 0,
 fa 63 45 62 0,
 ld 64 42 63,
 ld 65 3 3,
 ia 66 42 64 65,
 ld 67 3 66,
 ld 68 47 9,
 ⟨(some 69), .call { callee := .value (.func 117), args := #[.tmp 53, .tmp 60, .tmp 61, .tmp 67, .tmp 68], argTypes := #[105, 3, 47, 3, 47] }, none⟩,
 ⟨(some 70), .buildSlice 34 1 #[(0, .tmp 69)], none⟩,
 ⟨(some 71), .call { callee := .builtin .append, args := #[.tmp 52, .tmp 70], argTypes := #[34, 34] }, none⟩,
 st 34 5 71]
 [[], [], [], [2], [3], [], [4, 5], [6], [7], [], [], [10], [11], [], [12, 13], [14], [], [1, 8, 9, 15, 16], [17], [0, 18, 17], [19, 19, 0, 1, 2, 3, 4, 5, 6, 7, 8, 9, 10, 11, 12, 13, 14, 15, 16, 17, 18, 19]])
@[reducible] noncomputable def roundL (bx bv r0 : Nat) (st : LoopState) : Obj' := .loop Try.prog.funcs.size 112 [.junk, .junk, .ptr bx 0, .ptr bv 0, .junk, .ptr r0 0] [50, 51] rA rB st none
def roundPost (s : Sys) (v : Nat) (a b : Made) (acc : List Made) (lid r0 : Nat) (o1 : Nat → Obj') (nx1 : Nat) (z : V) (K' X' : V → (Nat → Obj') → Nat → Prop) (p : Option Made) : Prop :=
  match p with
  | some x => ∀ o2 nx2 j2 e2, nx1 ≤ nx2 → Good o2 nx2 → (∀ j, j < nx1 → j ≠ r0 → (∀ ep, z ≠ .osl j ep) → o2 j = o1 j) → o2 r0 = .row [.osl j2 e2] → o2 j2 = .arr e2 47 4 ((acc ++ [x]).map Made.d) → (nx1 ≤ j2 ∨ ∃ ep, z = .osl j2 ep) → K' (.d (.bool true)) o2 nx2
  | none => ∀ o2 nx2, nx1 ≤ nx2 → Good o2 nx2 → (∀ j, j < nx1 → j ≠ r0 → j ≠ lid → o2 j = o1 j) → X' (.d tooD) o2 nx2
theorem roundNil (s : Sys) (v : Nat) (l acc : List Made) (a b : Made) {nv nr : Nat} (hma : a.Ok nv nr) (hmb : b.Ok nv nr) (hv : v < nv) (hnv : nv ≤ 5) (hnr : nr ≤ 10) (hsr : s.rows.length = nr) (hal : acc.length ≤ 1002000)
    (bx bv id r0 lid : Nat) (o1 : Nat → Obj') (nx1 : Nat) (hg : Good o1 nx1) (pL : o1 lid = roundL bx bv r0 .ready) (p0 : o1 bx = .row [.ptr id 0]) (p1 : o1 bv = .row [.d (.i v)]) (p2 : o1 id = .row [.d (.i s.vars), .d (.sl (s.rows.map Row.d)), .d (.sl (l.map Made.d))]) (p3 : o1 r0 = .row [.nils]) (hacc : acc = []) (K' X' : V → (Nat → Obj') → Nat → Prop)
    (hpost : roundPost s v a b acc lid r0 o1 nx1 .nils K' X' (pairF s v a b)) : RoundK Try.prog lid [.d a.d, .d b.d] o1 nx1 K' X' := by
  have l0 : bx < nx1 := hg.lt (by rw [p0]; exact Obj'.noConfusion)
  have l1 : bv < nx1 := hg.lt (by rw [p1]; exact Obj'.noConfusion)
  have l2 : id < nx1 := hg.lt (by rw [p2]; exact Obj'.noConfusion)
  have l3 : r0 < nx1 := hg.lt (by rw [p3]; exact Obj'.noConfusion)
  have l4 : lid < nx1 := hg.lt (by rw [pL]; exact Obj'.noConfusion)
  have e01 : bx ≠ bv := fun e => by subst e; rw [p0] at p1; cases p1
  have e02 : bx ≠ id := fun e => by subst e; rw [p0] at p2; cases p2
  have e03 : bx ≠ r0 := fun e => by subst e; rw [p0] at p3; cases p3
  have e12 : bv ≠ id := fun e => by subst e; rw [p1] at p2; injection p2 with h; simp at h
  have e13 : bv ≠ r0 := fun e => by subst e; rw [p1] at p3; cases p3
  have e23 : id ≠ r0 := fun e => by subst e; rw [p2] at p3; cases p3
  have z1 : bx ≠ lid := fun e => by subst e; rw [p0] at pL; cases pL
  have z2 : bv ≠ lid := fun e => by subst e; rw [p1] at pL; cases pL
  have z4 : id ≠ lid := fun e => by subst e; rw [p2] at pL; cases pL
  have z3 : r0 ≠ lid := fun e => by subst e; rw [p3] at pL; cases pL
  have hmix : Try.prog.follows .mixedOrders = true := mix
  refine RoundK.of_ev hmix pL l4 (by decide) rfl ?_
  simp only [setP]
  have w1 : lid ≠ nx1 := by omega
  have w2 : ∀ k, lid ≠ nx1 + k := fun k => by omega
  have hav : a.r.c[v]? = some (a.r.c.getD v 0) := by
    have := hma.lc
    rw [List.getD_eq_getElem?_getD, List.getElem?_eq_getElem (by omega)]; rfl
  have hbv : b.r.c[v]? = some (b.r.c.getD v 0) := by
    have := hmb.lc
    rw [List.getD_eq_getElem?_getD, List.getElem?_eq_getElem (by omega)]; rfl
  simp +contextual only [go_sem, Int.reduceBEq, Int.reduceBNe, Int.reduceLT, Int.reduceLE, Int.reduceEq, Int.reduceNe, List.range_zero, Option.isSome_some, Nat.reducePow, and_self, List.cons.injEq, Nat.reduceEqDiff, Nat.reduceAdd, Nat.reduceSub, Nat.reduceMul, Nat.reduceLeDiff, Nat.reduceBEq, Nat.reduceLT, reduceIte, reduceCtorEq, p0, p1, p2, p3, Made.d, Row.d, w1, w2, Nat.add_assoc, Nat.left_eq_add, Nat.add_eq_left, Nat.add_left_cancel_iff]
  refine beginE_intro (Eq.trans ?_ pL) ?_
  · dsimp only
    rw [upd_ne _ _ _ _ (by omega), upd_ne _ _ _ _ (by omega), upd_ne _ _ _ _ (by omega), upd_ne _ _ _ _ (by omega)]
  dsimp only
  have y2 : bx ≠ nx1 := by omega
  have y3 : ∀ k, bx ≠ nx1 + k := fun k => by omega
  have y4 : bv ≠ nx1 := by omega
  have y5 : ∀ k, bv ≠ nx1 + k := fun k => by omega
  have y6 : r0 ≠ nx1 := by omega
  have y7 : ∀ k, r0 ≠ nx1 + k := fun k => by omega
  have y8 : nx1 ≠ lid := by omega
  have y9 : ∀ k, nx1 + k ≠ lid := fun k => by omega
  have hLm : ∀ st m, nx1 ≤ m → (roundL bx bv r0 st).refs.all (fun r => decide (r < m)) = true := fun st m hm => by
    simp [Obj'.refs, V.refss, V.refs]
    omega
  have hlen1 : acc.length ≤ 140737488355327 := by omega
  have hlen64 : (acc.length + 1) * 64 ≤ 140737488355328 := by omega
  simp +contextual only [go_sem, Int.reduceBEq, Int.reduceBNe, Int.reduceLT, Int.reduceLE, Int.reduceEq, Int.reduceNe, List.range_zero, Option.isSome_some, Nat.reducePow, and_self, List.cons.injEq, Nat.reduceEqDiff, Nat.reduceAdd, Nat.reduceSub, Nat.reduceMul, Nat.reduceLeDiff, Nat.reduceBEq, Nat.reduceLT, reduceIte, reduceCtorEq, p0, p1, p2, p3, hav, hbv, Nat.add_assoc, Nat.left_eq_add, Nat.add_eq_left, Nat.add_left_cancel_iff, y2, y3, y4, y5, y6, y7, y8, y9, z1, z2, z3]
  have hac := hma.c _ (List.mem_of_getElem? hav)
  have hbc := hmb.c _ (List.mem_of_getElem? hbv)
  rw [wrap64 (n := -b.r.c.getD v 0) (by omega) (by omega)]
  have hsum := fun (o1 : Nat → Obj') (h1 : o1 id = .row [.d (.i s.vars), .d (.sl (s.rows.map Row.d)), .d (.sl (l.map Made.d))]) => sum_c s (-b.r.c.getD v 0) a (a.r.c.getD v 0) b hma hmb hnv hnr hsr (by omega) (by omega) id o1 (.d (.sl (l.map Made.d))) h1 (fun r hr => by simp [V.refs] at hr)
  cases hbig : bigOk (sumM s (-b.r.c.getD v 0) a (a.r.c.getD v 0) b) with
  | true =>
    simp only [hbig, if_true, Bool.not_true] at hsum
    have hpf : pairF s v a b = some (sumM s (-b.r.c.getD v 0) a (a.r.c.getD v 0) b) := by unfold pairF; rw [if_pos hbig]
    rw [hpf] at hpost
    refine callDR_keep (rd := [id]) (rs := [(sumM s (-b.r.c.getD v 0) a (a.r.c.getD v 0) b).d]) (Δ := []) ?_ (HCt.of_ctr (pan := false) (nx1 + 4) ?_ ?_ ?_ (hsum _ ?_)) ?_
    · simp; omega
    · simp; omega
    · simp [V.refss, V.refs]
    · intro jj hj kk hk
      simp at hj
      subst hj
      rw [upd_ne _ _ _ _ (by omega), upd_ne _ _ _ _ (by omega), upd_ne _ _ _ _ (by omega), upd_ne _ _ _ _ (by omega), upd_ne _ _ _ _ (by omega), p2] at hk
      simp [Obj'.refs, V.refss, V.refs] at hk
    · simp only [rst]
      rw [if_pos (by simp), upd_ne _ _ _ _ (by omega), upd_ne _ _ _ _ (by omega), upd_ne _ _ _ _ (by omega), upd_ne _ _ _ _ (by omega), upd_ne _ _ _ _ (by omega), p2]
    simp +contextual only [go_sem, Int.reduceBEq, Int.reduceBNe, Int.reduceLT, Int.reduceLE, Int.reduceEq, Int.reduceNe, List.range_zero, Option.isSome_some, Nat.reducePow, and_self, List.cons.injEq, Nat.reduceEqDiff, Nat.reduceAdd, Nat.reduceSub, Nat.reduceMul, Nat.reduceLeDiff, Nat.reduceBEq, Nat.reduceLT, reduceIte, reduceCtorEq, p0, p1, p2, p3, hav, hbv, Nat.add_assoc, Nat.left_eq_add, Nat.add_eq_left, Nat.add_left_cancel_iff, y2, y3, y4, y5, y6, y7, y8, y9, z1, z2, z3, Made.d, Row.d, if_true, if_false]
    refine end_intro (objsOk_renL (ids := [bx, bv, id, r0]) (nx := nx1) (by simp; omega) (by simp; omega) [([3], []), ([0], []), ([6], []), ([6], []), ([6], []), ([1], []), ([], []), ([], []), ([], []), ([4], []), ([4], []), ([4], []), ([4], []), ([1], []), ([], []), ([], []), ([6], []), ([2], []), ([], [26]), ([26], [27]), ([3, 27], [3])] (by decide)) ?_
    simp +contextual only [go_sem, Int.reduceBEq, Int.reduceBNe, Int.reduceLT, Int.reduceLE, Int.reduceEq, Int.reduceNe, List.range_zero, Option.isSome_some, Nat.reducePow, and_self, List.cons.injEq, Nat.reduceEqDiff, Nat.reduceAdd, Nat.reduceSub, Nat.reduceMul, Nat.reduceLeDiff, Nat.reduceBEq, Nat.reduceLT, reduceIte, reduceCtorEq, Nat.add_assoc, Nat.left_eq_add, Nat.add_eq_left, Nat.add_left_cancel_iff]
    refine ⟨_, _, _, _, _, _, _, _, (by dsimp only; repeat (first | rw [upd_same] | rw [upd_ne _ _ _ _ (by omega)])), ?_⟩
    dsimp only
    refine hpost _ _ (nx1 + 23) (0) (by omega) ?_ (fun j g4 g5 g6 => ?_) ?_ ?_ (.inl (by omega))
    · refine Good.upd ?_ (by omega) (hLm .ready _ (by omega))
      repeat (first | exact hg.mono (by omega) | refine Good.upd ?_ (by omega) rfl | refine Good.upd ?_ (by omega) (by simp [Obj'.refs, V.refss, V.refs] <;> omega))
    · by_cases e1 : j = lid
      · subst e1; rw [upd_same, pL]
      · repeat (first | rfl | rw [upd_ne _ _ _ _ (by omega)])
    · repeat (first | rfl | rw [upd_same] | rw [upd_ne _ _ _ _ (by omega)])
    · subst hacc
      repeat (first | rfl | rw [upd_same] | rw [upd_ne _ _ _ _ (by omega)])
  | false =>
    simp only [hbig, if_false, Bool.not_false, Bool.false_eq_true] at hsum
    have hpf : pairF s v a b = none := by unfold pairF; rw [if_neg (by rw [hbig]; exact Bool.noConfusion)]
    rw [hpf] at hpost
    refine callDR_pan (rd := [id]) (x := tooD) (Δ := []) ?_ (HCt.of_ctr (pan := true) (nx1 + 4) ?_ ?_ ?_ (hsum _ ?_)) ?_
    · simp; omega
    · simp; omega
    · simp [V.refss, V.refs]
    · intro jj hj kk hk
      simp at hj
      subst hj
      rw [upd_ne _ _ _ _ (by omega), upd_ne _ _ _ _ (by omega), upd_ne _ _ _ _ (by omega), upd_ne _ _ _ _ (by omega), upd_ne _ _ _ _ (by omega), p2] at hk
      simp [Obj'.refs, V.refss, V.refs] at hk
    · simp only [rst]
      rw [if_pos (by simp), upd_ne _ _ _ _ (by omega), upd_ne _ _ _ _ (by omega), upd_ne _ _ _ _ (by omega), upd_ne _ _ _ _ (by omega), upd_ne _ _ _ _ (by omega), p2]
    simp +contextual only [go_sem, Int.reduceBEq, Int.reduceBNe, Int.reduceLT, Int.reduceLE, Int.reduceEq, Int.reduceNe, List.range_zero, Option.isSome_some, Nat.reducePow, and_self, List.cons.injEq, Nat.reduceEqDiff, Nat.reduceAdd, Nat.reduceSub, Nat.reduceMul, Nat.reduceLeDiff, Nat.reduceBEq, Nat.reduceLT, reduceIte, reduceCtorEq, p0, p1, p2, p3, hav, hbv, Nat.add_assoc, Nat.left_eq_add, Nat.add_eq_left, Nat.add_left_cancel_iff, y2, y3, y4, y5, y6, y7, y8, y9, z1, z2, z3, Made.d, Row.d, if_true, if_false]
    refine badE_skip rfl (badE_skip rfl (badE_skip rfl (badE_nil ?_)))
    refine ⟨objsOk_renL (ids := [bx, bv, id, r0]) (nx := nx1) (by simp; omega) (by simp; omega) [([3], []), ([0], []), ([6], []), ([6], []), ([6], []), ([1], []), ([], []), ([], []), ([], []), ([4], []), ([4], []), ([4], []), ([4], []), ([1], []), ([], []), ([], []), ([6], []), ([2], []), ([], []), ([], []), ([], [])] (by decide), ?_⟩
    simp only [panS, blockQ_pan, roundQ, List.contains_nil, Bool.false_eq_true, if_false]
    refine hpost _ _ (by omega) ?_ (fun j g4 g5 g6 => ?_)
    · show Good _ (nx1 + 4 + 21)
      refine Good.upd ?_ (by omega) (hLm .busy _ (by omega))
      repeat (first | exact hg.mono (by omega) | refine Good.upd ?_ (by omega) rfl | refine Good.upd ?_ (by omega) (by simp [Obj'.refs, V.refss, V.refs] <;> omega))
    · repeat (first | rfl | rw [upd_ne _ _ _ _ (by omega)])
set_option maxHeartbeats 800000 in
theorem roundOsl (s : Sys) (v : Nat) (l acc : List Made) (a b : Made) {nv nr : Nat} (hma : a.Ok nv nr) (hmb : b.Ok nv nr) (hv : v < nv) (hnv : nv ≤ 5) (hnr : nr ≤ 10) (hsr : s.rows.length = nr) (hal : acc.length ≤ 1002000)
    (bx bv id r0 lid : Nat) (o1 : Nat → Obj') (nx1 : Nat) (jd ep : Nat) (hg : Good o1 nx1) (pL : o1 lid = roundL bx bv r0 .ready) (p0 : o1 bx = .row [.ptr id 0]) (p1 : o1 bv = .row [.d (.i v)]) (p2 : o1 id = .row [.d (.i s.vars), .d (.sl (s.rows.map Row.d)), .d (.sl (l.map Made.d))]) (p3 : o1 r0 = .row [.osl jd ep]) (g3 : o1 jd = .arr ep 47 4 (acc.map Made.d)) (K' X' : V → (Nat → Obj') → Nat → Prop)
    (hpost : roundPost s v a b acc lid r0 o1 nx1 (.osl jd ep) K' X' (pairF s v a b)) : RoundK Try.prog lid [.d a.d, .d b.d] o1 nx1 K' X' := by
  have l0 : bx < nx1 := hg.lt (by rw [p0]; exact Obj'.noConfusion)
  have l1 : bv < nx1 := hg.lt (by rw [p1]; exact Obj'.noConfusion)
  have l2 : id < nx1 := hg.lt (by rw [p2]; exact Obj'.noConfusion)
  have l3 : r0 < nx1 := hg.lt (by rw [p3]; exact Obj'.noConfusion)
  have l4 : lid < nx1 := hg.lt (by rw [pL]; exact Obj'.noConfusion)
  have e01 : bx ≠ bv := fun e => by subst e; rw [p0] at p1; cases p1
  have e02 : bx ≠ id := fun e => by subst e; rw [p0] at p2; cases p2
  have e03 : bx ≠ r0 := fun e => by subst e; rw [p0] at p3; cases p3
  have e12 : bv ≠ id := fun e => by subst e; rw [p1] at p2; injection p2 with h; simp at h
  have e13 : bv ≠ r0 := fun e => by subst e; rw [p1] at p3; cases p3
  have e23 : id ≠ r0 := fun e => by subst e; rw [p2] at p3; cases p3
  have z1 : bx ≠ lid := fun e => by subst e; rw [p0] at pL; cases pL
  have z2 : bv ≠ lid := fun e => by subst e; rw [p1] at pL; cases pL
  have z4 : id ≠ lid := fun e => by subst e; rw [p2] at pL; cases pL
  have z3 : r0 ≠ lid := fun e => by subst e; rw [p3] at pL; cases pL
  have hmix : Try.prog.follows .mixedOrders = true := mix
  refine RoundK.of_ev hmix pL l4 (by decide) rfl ?_
  simp only [setP]
  have w1 : lid ≠ nx1 := by omega
  have w2 : ∀ k, lid ≠ nx1 + k := fun k => by omega
  have hav : a.r.c[v]? = some (a.r.c.getD v 0) := by
    have := hma.lc
    rw [List.getD_eq_getElem?_getD, List.getElem?_eq_getElem (by omega)]; rfl
  have hbv : b.r.c[v]? = some (b.r.c.getD v 0) := by
    have := hmb.lc
    rw [List.getD_eq_getElem?_getD, List.getElem?_eq_getElem (by omega)]; rfl
  simp +contextual only [go_sem, Int.reduceBEq, Int.reduceBNe, Int.reduceLT, Int.reduceLE, Int.reduceEq, Int.reduceNe, List.range_zero, Option.isSome_some, Nat.reducePow, and_self, List.cons.injEq, Nat.reduceEqDiff, Nat.reduceAdd, Nat.reduceSub, Nat.reduceMul, Nat.reduceLeDiff, Nat.reduceBEq, Nat.reduceLT, reduceIte, reduceCtorEq, p0, p1, p2, p3, Made.d, Row.d, w1, w2, Nat.add_assoc, Nat.left_eq_add, Nat.add_eq_left, Nat.add_left_cancel_iff]
  refine beginE_intro (Eq.trans ?_ pL) ?_
  · dsimp only
    rw [upd_ne _ _ _ _ (by omega), upd_ne _ _ _ _ (by omega), upd_ne _ _ _ _ (by omega), upd_ne _ _ _ _ (by omega)]
  dsimp only
  have y2 : bx ≠ nx1 := by omega
  have y3 : ∀ k, bx ≠ nx1 + k := fun k => by omega
  have y4 : bv ≠ nx1 := by omega
  have y5 : ∀ k, bv ≠ nx1 + k := fun k => by omega
  have y6 : r0 ≠ nx1 := by omega
  have y7 : ∀ k, r0 ≠ nx1 + k := fun k => by omega
  have y8 : nx1 ≠ lid := by omega
  have y9 : ∀ k, nx1 + k ≠ lid := fun k => by omega
  have hLm : ∀ st m, nx1 ≤ m → (roundL bx bv r0 st).refs.all (fun r => decide (r < m)) = true := fun st m hm => by
    simp [Obj'.refs, V.refss, V.refs]
    omega
  have hlen1 : acc.length ≤ 140737488355327 := by omega
  have hlen64 : (acc.length + 1) * 64 ≤ 140737488355328 := by omega
  have hjl : jd < nx1 := hg.lt (by rw [g3]; exact Obj'.noConfusion)
  have j0 : jd ≠ bx := fun e => by subst e; rw [p0] at g3; cases g3
  have j1 : jd ≠ bv := fun e => by subst e; rw [p1] at g3; cases g3
  have j2 : jd ≠ id := fun e => by subst e; rw [p2] at g3; cases g3
  have j3 : jd ≠ r0 := fun e => by subst e; rw [p3] at g3; cases g3
  have j4 : jd ≠ lid := fun e => by subst e; rw [pL] at g3; cases g3
  have j5 : jd ≠ nx1 := by omega
  have j6 : ∀ k, jd ≠ nx1 + k := fun k => by omega
  have i0 := Ne.symm j0
  have i1 := Ne.symm j1
  have i2 := Ne.symm j2
  have i3 := Ne.symm j3
  have i4 := Ne.symm j4
  have i5 := Ne.symm j5
  have i6 : ∀ k, nx1 + k ≠ jd := fun k => by omega
  simp +contextual only [go_sem, Int.reduceBEq, Int.reduceBNe, Int.reduceLT, Int.reduceLE, Int.reduceEq, Int.reduceNe, List.range_zero, Option.isSome_some, Nat.reducePow, and_self, List.cons.injEq, Nat.reduceEqDiff, Nat.reduceAdd, Nat.reduceSub, Nat.reduceMul, Nat.reduceLeDiff, Nat.reduceBEq, Nat.reduceLT, reduceIte, reduceCtorEq, p0, p1, p2, p3, hav, hbv, Nat.add_assoc, Nat.left_eq_add, Nat.add_eq_left, Nat.add_left_cancel_iff, y2, y3, y4, y5, y6, y7, y8, y9, z1, z2, z3, g3, j0, j1, j2, j3, j4, j5, j6, i0, i1, i2, i3, i4, i5, i6, hlen1, hlen64, List.length_map]
  have hac := hma.c _ (List.mem_of_getElem? hav)
  have hbc := hmb.c _ (List.mem_of_getElem? hbv)
  rw [wrap64 (n := -b.r.c.getD v 0) (by omega) (by omega)]
  have hsum := fun (o1 : Nat → Obj') (h1 : o1 id = .row [.d (.i s.vars), .d (.sl (s.rows.map Row.d)), .d (.sl (l.map Made.d))]) => sum_c s (-b.r.c.getD v 0) a (a.r.c.getD v 0) b hma hmb hnv hnr hsr (by omega) (by omega) id o1 (.d (.sl (l.map Made.d))) h1 (fun r hr => by simp [V.refs] at hr)
  cases hbig : bigOk (sumM s (-b.r.c.getD v 0) a (a.r.c.getD v 0) b) with
  | true =>
    simp only [hbig, if_true, Bool.not_true] at hsum
    have hpf : pairF s v a b = some (sumM s (-b.r.c.getD v 0) a (a.r.c.getD v 0) b) := by unfold pairF; rw [if_pos hbig]
    rw [hpf] at hpost
    refine callDR_keep (rd := [id]) (rs := [(sumM s (-b.r.c.getD v 0) a (a.r.c.getD v 0) b).d]) (Δ := []) ?_ (HCt.of_ctr (pan := false) (nx1 + 4) ?_ ?_ ?_ (hsum _ ?_)) ?_
    · simp; omega
    · simp; omega
    · simp [V.refss, V.refs]
    · intro jj hj kk hk
      simp at hj
      subst hj
      rw [upd_ne _ _ _ _ (by omega), upd_ne _ _ _ _ (by omega), upd_ne _ _ _ _ (by omega), upd_ne _ _ _ _ (by omega), upd_ne _ _ _ _ (by omega), p2] at hk
      simp [Obj'.refs, V.refss, V.refs] at hk
    · simp only [rst]
      rw [if_pos (by simp), upd_ne _ _ _ _ (by omega), upd_ne _ _ _ _ (by omega), upd_ne _ _ _ _ (by omega), upd_ne _ _ _ _ (by omega), upd_ne _ _ _ _ (by omega), p2]
    simp +contextual only [go_sem, Int.reduceBEq, Int.reduceBNe, Int.reduceLT, Int.reduceLE, Int.reduceEq, Int.reduceNe, List.range_zero, Option.isSome_some, Nat.reducePow, and_self, List.cons.injEq, Nat.reduceEqDiff, Nat.reduceAdd, Nat.reduceSub, Nat.reduceMul, Nat.reduceLeDiff, Nat.reduceBEq, Nat.reduceLT, reduceIte, reduceCtorEq, p0, p1, p2, p3, hav, hbv, Nat.add_assoc, Nat.left_eq_add, Nat.add_eq_left, Nat.add_left_cancel_iff, y2, y3, y4, y5, y6, y7, y8, y9, z1, z2, z3, Made.d, Row.d, if_true, if_false, g3, j0, j1, j2, j3, j4, j5, j6, i0, i1, i2, i3, i4, i5, i6, hlen1, hlen64, List.length_map]
    refine end_intro (objsOk_renL (ids := [bx, bv, id, r0, jd]) (nx := nx1) (by simp; omega) (by simp; omega) [([3], []), ([0], []), ([7], []), ([7], []), ([7], []), ([1], []), ([], []), ([], []), ([], []), ([5], []), ([5], []), ([5], []), ([5], []), ([1], []), ([], []), ([], []), ([7], []), ([2], []), ([], [27]), ([4, 27], [4]), ([3, 4], [3])] (by decide)) ?_
    simp +contextual only [go_sem, Int.reduceBEq, Int.reduceBNe, Int.reduceLT, Int.reduceLE, Int.reduceEq, Int.reduceNe, List.range_zero, Option.isSome_some, Nat.reducePow, and_self, List.cons.injEq, Nat.reduceEqDiff, Nat.reduceAdd, Nat.reduceSub, Nat.reduceMul, Nat.reduceLeDiff, Nat.reduceBEq, Nat.reduceLT, reduceIte, reduceCtorEq, Nat.add_assoc, Nat.left_eq_add, Nat.add_eq_left, Nat.add_left_cancel_iff]
    refine ⟨_, _, _, _, _, _, _, _, (by dsimp only; repeat (first | rw [upd_same] | rw [upd_ne _ _ _ _ (by omega)])), ?_⟩
    dsimp only
    refine hpost _ _ (jd) (ep + 1) (by omega) ?_ (fun j g4 g5 g6 => ?_) ?_ ?_ (.inr ⟨ep, rfl⟩)
    · refine Good.upd ?_ (by omega) (hLm .ready _ (by omega))
      repeat (first | exact hg.mono (by omega) | refine Good.upd ?_ (by omega) rfl | refine Good.upd ?_ (by omega) (by simp [Obj'.refs, V.refss, V.refs] <;> omega))
    · by_cases e1 : j = lid
      · subst e1; rw [upd_same, pL]
      · have e3 : j ≠ jd := fun e => by subst e; exact g6 ep rfl
        repeat (first | rfl | rw [upd_ne _ _ _ _ (by omega)])
    · repeat (first | rfl | rw [upd_same] | rw [upd_ne _ _ _ _ (by omega)])
    · rw [List.map_append]; repeat (first | rfl | rw [upd_same] | rw [upd_ne _ _ _ _ (by omega)])
  | false =>
    simp only [hbig, if_false, Bool.not_false, Bool.false_eq_true] at hsum
    have hpf : pairF s v a b = none := by unfold pairF; rw [if_neg (by rw [hbig]; exact Bool.noConfusion)]
    rw [hpf] at hpost
    refine callDR_pan (rd := [id]) (x := tooD) (Δ := []) ?_ (HCt.of_ctr (pan := true) (nx1 + 4) ?_ ?_ ?_ (hsum _ ?_)) ?_
    · simp; omega
    · simp; omega
    · simp [V.refss, V.refs]
    · intro jj hj kk hk
      simp at hj
      subst hj
      rw [upd_ne _ _ _ _ (by omega), upd_ne _ _ _ _ (by omega), upd_ne _ _ _ _ (by omega), upd_ne _ _ _ _ (by omega), upd_ne _ _ _ _ (by omega), p2] at hk
      simp [Obj'.refs, V.refss, V.refs] at hk
    · simp only [rst]
      rw [if_pos (by simp), upd_ne _ _ _ _ (by omega), upd_ne _ _ _ _ (by omega), upd_ne _ _ _ _ (by omega), upd_ne _ _ _ _ (by omega), upd_ne _ _ _ _ (by omega), p2]
    simp +contextual only [go_sem, Int.reduceBEq, Int.reduceBNe, Int.reduceLT, Int.reduceLE, Int.reduceEq, Int.reduceNe, List.range_zero, Option.isSome_some, Nat.reducePow, and_self, List.cons.injEq, Nat.reduceEqDiff, Nat.reduceAdd, Nat.reduceSub, Nat.reduceMul, Nat.reduceLeDiff, Nat.reduceBEq, Nat.reduceLT, reduceIte, reduceCtorEq, p0, p1, p2, p3, hav, hbv, Nat.add_assoc, Nat.left_eq_add, Nat.add_eq_left, Nat.add_left_cancel_iff, y2, y3, y4, y5, y6, y7, y8, y9, z1, z2, z3, Made.d, Row.d, if_true, if_false, g3, j0, j1, j2, j3, j4, j5, j6, i0, i1, i2, i3, i4, i5, i6, hlen1, hlen64, List.length_map]
    refine badE_skip rfl (badE_skip rfl (badE_skip rfl (badE_nil ?_)))
    refine ⟨objsOk_renL (ids := [bx, bv, id, r0]) (nx := nx1) (by simp; omega) (by simp; omega) [([3], []), ([0], []), ([6], []), ([6], []), ([6], []), ([1], []), ([], []), ([], []), ([], []), ([4], []), ([4], []), ([4], []), ([4], []), ([1], []), ([], []), ([], []), ([6], []), ([2], []), ([], []), ([], []), ([], [])] (by decide), ?_⟩
    simp only [panS, blockQ_pan, roundQ, List.contains_nil, Bool.false_eq_true, if_false]
    refine hpost _ _ (by omega) ?_ (fun j g4 g5 g6 => ?_)
    · show Good _ (nx1 + 4 + 21)
      refine Good.upd ?_ (by omega) (hLm .busy _ (by omega))
      repeat (first | exact hg.mono (by omega) | refine Good.upd ?_ (by omega) rfl | refine Good.upd ?_ (by omega) (by simp [Obj'.refs, V.refss, V.refs] <;> omega))
    · repeat (first | rfl | rw [upd_ne _ _ _ _ (by omega)])
end Go.Proofs.Ytaafchgfibbmhaa
namespace Go.Proofs.Ytaafchgfibbmhaa
def lineB (a b : Row) : Bool := ((a.c.getD 0 0 == b.c.getD 0 0) && ((a.c.getD 1 0 == b.c.getD 1 0) && ((a.c.getD 2 0 == b.c.getD 2 0) && ((a.c.getD 3 0 == b.c.getD 3 0) && ((a.c.getD 4 0 == b.c.getD 4 0) && true))))) && ((a.rel == b.rel) && ((a.b == b.b) && true))
def isMet (met : List Row) (r : Row) : Bool := met.any (lineB r)
def addMet (met : List Row) (r : Row) : List Row := if isMet met r = true then met else met ++ [r]
def metD (met : List Row) : List (D × D) := met.map fun r => (.agg (lineD r), .bool true)
def keepK (out : List Made) : Nat → List Row × List Made
  | 0 => ([], [])
  | k + 1 => match out[k]? with
    | some m => (addMet (keepK out k).1 m.r, if (!isMet (keepK out k).1 m.r && !goneF m.r) = true then (keepK out k).2 ++ [m] else (keepK out k).2)
    | none => keepK out k
theorem keepK_len (out : List Made) : ∀ k, (keepK out k).2.length ≤ k
  | 0 => Nat.le_refl _
  | k + 1 => by
    have := keepK_len out k
    simp only [keepK]
    split
    · split
      · simp; omega
      · simp; omega
    · omega
theorem eqT_line (a b : Row) : eqT Try.prog 100 112 (.agg (lineD a)) (.agg (lineD b)) = some (lineB a b) := by kernel_rfl
theorem same_refl_line (a b : Row) (h : lineB a b = true) : lineD b = lineD a := by
  simp only [lineB, Bool.and_eq_true, beq_iff_eq] at h
  obtain ⟨⟨h0, h1, h2, h3, h4, _⟩, h5, h6, _⟩ := h
  simp only [lineD, h0, h1, h2, h3, h4, h5, h6]
theorem findMet (r : Row) : ∀ (met : List Row) (i : Nat), (isMet met r = false ∧ findD Try.prog 112 (.agg (lineD r)) (metD met) i = some none) ∨
    (isMet met r = true ∧ ∃ j, j < met.length ∧ findD Try.prog 112 (.agg (lineD r)) (metD met) i = some (some (i + j, .agg (lineD r), .bool true)) ∧ (metD met)[j]? = some (.agg (lineD r), .bool true))
  | [], i => .inl ⟨rfl, rfl⟩
  | m :: met, i => by
    have hmd : metD (m :: met) = (.agg (lineD m), .bool true) :: metD met := by simp only [metD, List.map_cons]
    rw [hmd, findD, eqT_line]
    cases hb : lineB r m with
    | true =>
      refine .inr ⟨by simp [isMet, hb], 0, by simp, ?_, ?_⟩
      · simp only [same_refl_line r m hb, Nat.add_zero]
      · simp [metD, same_refl_line r m hb]
    | false =>
      rcases findMet r met (i + 1) with ⟨h1, h2⟩ | ⟨h1, j, h2, h3, h4⟩
      · exact .inl ⟨by simp only [isMet, List.any_cons, hb, Bool.false_or]; exact h1, h2⟩
      · refine .inr ⟨by simp only [isMet, List.any_cons, hb, Bool.false_or]; exact h1, j + 1, by simp; omega, ?_, ?_⟩
        · simp only [h3]; congr 3; omega
        · simpa [metD] using h4
theorem mapT147 : mapT Try.prog 147 = some (112, 4) := by kernel_rfl
theorem chk112 (r : Row) : chkT Try.prog 100 112 (.agg (lineD r)) = true := by
  have h : ∀ a0 a1 a2 a3 a4 a5 a6 : Int, chkT Try.prog 100 112 (.agg [.i a0, .i a1, .i a2, .i a3, .i a4, .i a5, .i a6]) = true := fun _ _ _ _ _ _ _ => by kernel_rfl
  exact h _ _ _ _ _ _ _
theorem zero4 : zeroV Try.prog 4 = some (.d (.bool false)) := by kernel_rfl
theorem lookMet {o : Nat → Obj'} {mid : Nat} {met : List Row} (h : o mid = .map 112 4 (metD met)) (r : Row) : lookupF Try.prog o 147 (.mp mid) (.d (.agg (lineD r))) false = some (.d (.bool (isMet met r)), [], [mid]) := by
  unfold lookupF
  simp only [mapT147, toD, mapEs, h, V.ids, chk112, and_self, if_true, idOf]
  rcases findMet r met 0 with ⟨h1, h2⟩ | ⟨h1, j, h2, h3, h4⟩
  · simp only [h2, zero4, h1, Bool.false_eq_true, if_false]
  · simp only [h3, h1, Bool.false_eq_true, if_false]
theorem same_line (r : Row) : D.same (.agg (lineD r)) (.agg (lineD r)) = true := by simp [D.same, D.sames]
theorem updMet {o : Nat → Obj'} {mid : Nat} {met : List Row} (h : o mid = .map 112 4 (metD met)) (r : Row) : mapUpdF Try.prog o 147 (.mp mid) (.d (.agg (lineD r))) (.d (.bool true)) = some (.tup [], [(mid, .map 112 4 (metD (addMet met r)))], [mid]) := by
  unfold mapUpdF
  have hp : plainD (.agg (lineD r)) = true := by simp [plainD, scalD]
  simp only [mapT147, toD, mapEs, h, V.ids, chk112, hp, and_self, if_true, List.all_nil]
  rcases findMet r met 0 with ⟨h1, h2⟩ | ⟨h1, j, h2, h3, h4⟩
  · simp only [h2, addMet, h1, Bool.false_eq_true, if_false]
    simp [frz, metD]
  · simp only [h3, same_line, if_true, Nat.zero_add, addMet, h1]
    have : (metD met).set j (.agg (lineD r), .bool true) = metD met := by
      rw [List.getElem?_eq_some_iff] at h4
      obtain ⟨a, b⟩ := h4
      rw [← b]; exact List.set_getElem_self a
    rw [this]; simp [frz]
@[reducible] def eBody : IC :=
  (.seq (.reg [bo .lss 84 3 83 82 3]) (.seq (.cond (.tmp 84) .skip (.exit 4)) (.seq (.block 5 (.seq (.reg [ia 85 34 81 83,
 ld 86 47 85,
 al 12 47,
 st 47 12 86]) (.seq (.reg [fa 87 47 12 0,
 ld 88 45 87,
 k1 89 80 88 45,
 al 13 112,
 st 112 13 89]) (.seq (.seq (.reg [mv 90 10,
 ld 91 112 13,
 ⟨(some 92), .lookup 147 (.tmp 90) (.tmp 91) false, none⟩,
 nt 93 4 92,
 mv 94 93,
 gT (ld 95 112 13) 94,
 gT (k1 96 111 95 112) 94,
 gT (nt 97 4 96) 94,
 pkf 98 94 97]) (.cond (.tmp 98) (.drw [ld 99 105 2,
 ld 100 105 2,
 nc 101 100,
 fa 102 107 101 1,
 ld 103 34 102,
 ld 104 47 12,
 ⟨(some 105), .buildSlice 34 1 #[(0, .tmp 104)], none⟩,
 ⟨(some 106), .call { callee := .builtin .append, args := #[.tmp 103, .tmp 105], argTypes := #[34, 34] }, none⟩,
 nc 107 99,
 fa 108 107 107 1,
 st 34 108 106]
 [[], [], [1], [2], [3], [], [5], [4, 6], [0, 0, 1, 2, 3, 4, 5, 6, 7], [8, 0, 1, 2, 3, 4, 5, 6, 7], [9, 7, 7, 0, 1, 2, 3, 4, 5, 6, 7]]) .skip)) (.reg [mv 109 10,
 ld 110 112 13,
 ⟨none, .mapUpdate 147 (.tmp 109) (.tmp 110) (.const (.bool true)), none⟩]))))) (.reg [bk .add 111 3 83 1 3,
 mv 83 111]))))
@[reducible] noncomputable def eSt (s : Sys) (out : List Made) (bx id mid c : Nat) (B : Nat → Obj') (k : Nat) : S :=
  ⟨envJ [.junk, .junk, .ptr bx 0, .junk, .junk, .junk, .junk, .junk, .junk, .junk, .mp mid, .junk, .junk, .junk, .junk, .junk, .junk, .junk, .junk, .junk, .junk, .junk, .junk, .junk, .junk, .junk, .junk, .junk, .junk, .junk, .junk, .junk, .junk, .junk, .junk, .junk, .junk, .junk, .junk, .junk, .junk, .junk, .junk, .junk, .junk, .junk, .junk, .junk, .junk, .junk, .junk, .junk, .junk, .junk, .junk, .junk, .junk, .junk, .junk, .junk, .junk, .junk, .junk, .junk, .junk, .junk, .junk, .junk, .junk, .junk, .junk, .junk, .junk, .junk, .junk, .junk, .junk, .junk, .junk, .junk, .junk, .d (.sl (out.map Made.d)), .d (.i out.length), .d (.i k)], upd (upd (upd B mid (.map 112 4 (metD (keepK out k).1))) c (.arr 0 47 4 ((keepK out k).2.map Made.d))) id (.row [.d (.i s.vars), .d (.sl (s.rows.map Row.d)), .osl c 0]), c + 1⟩
set_option maxHeartbeats 1000000 in
theorem elimLoop (s : Sys) (out : List Made) (hout : out.length ≤ 1000) (hlen : ∀ m ∈ out, m.r.c.length ≤ 5) (bx id mid c nx : Nat) (hnx : nx ≤ c) (B : Nat → Obj') (hB : Good B c) (hbx : B bx = .row [.ptr id 0]) {z0 : V} (hid : B id = .row [.d (.i s.vars), .d (.sl (s.rows.map Row.d)), z0]) {l0 : List (D × D)} (hmid : B mid = .map 112 4 l0) (K X : V → (Nat → Obj') → Nat → Prop)
    (hK : ∀ o' nx' z, c ≤ nx' → Good o' nx' → (∀ j, j < c → j ≠ id → j ≠ mid → o' j = B j) → o' id = .row [.d (.i s.vars), .d (.sl (s.rows.map Row.d)), z] → Grows o' c 47 4 ((keepK out out.length).2.map Made.d) z → K (.tup []) o' nx')
    (S0 : S) (h0 : SLe nx S0 (eSt s out bx id mid c B 0)) : loopS nx (fun Q s => evW Try.prog 112 nx false eBody Q s) (blockQ 4 (endG Try.prog [] K X)) S0 := by
  have l0 : bx < c := hB.lt (by rw [hbx]; exact Obj'.noConfusion)
  have l1 : id < c := hB.lt (by rw [hid]; exact Obj'.noConfusion)
  have l2 : mid < c := hB.lt (by rw [hmid]; exact Obj'.noConfusion)
  have e0 : bx ≠ id := fun e => by subst e; rw [hbx] at hid; injection hid with h; simp at h
  have e1 : bx ≠ mid := fun e => by subst e; rw [hbx] at hmid; cases hmid
  have e2 : id ≠ mid := fun e => by subst e; rw [hid] at hmid; cases hmid
  have e3 := Ne.symm e0
  have e4 := Ne.symm e1
  have e5 := Ne.symm e2
  have f0 : bx ≠ c := by omega
  have f1 : id ≠ c := by omega
  have f2 : mid ≠ c := by omega
  have f3 : ∀ k, bx ≠ c + k := fun k => by omega
  have f4 : ∀ k, id ≠ c + k := fun k => by omega
  have f5 : ∀ k, mid ≠ c + k := fun k => by omega
  have g0 : c ≠ id := by omega
  have g1 : c ≠ mid := by omega
  have g2 : ∀ k, c + k ≠ id := fun k => by omega
  have g3 : ∀ k, c + k ≠ mid := fun k => by omega
  refine loop_fam (eSt s out bx id mid c B) (fun k => k ≤ out.length) (fun k => out.length - k) 0 (Nat.zero_le _) h0 (fun k hk => ?_)
  simp only [eBody]
  simp +contextual only [go_sem, Int.reduceBEq, Int.reduceBNe, Int.reduceLT, Int.reduceLE, Int.reduceEq, Int.reduceNe, List.range_zero, Option.isSome_some, Nat.reducePow, and_self, List.cons.injEq, Nat.reduceEqDiff, Nat.reduceAdd, Nat.reduceSub, Nat.reduceMul, Nat.reduceLeDiff, Nat.reduceBEq, Nat.reduceLT, reduceIte, reduceCtorEq]
  refine cond_intro (fun h2 => ?_) (fun h2 => ?_)
  · simp at h2
    obtain ⟨m, hm⟩ : ∃ m, out[k]? = some m := ⟨out[k], by simp [h2]⟩
    have hmc := hlen m (List.mem_of_getElem? hm)
    simp +contextual only [go_sem, Int.reduceBEq, Int.reduceBNe, Int.reduceLT, Int.reduceLE, Int.reduceEq, Int.reduceNe, List.range_zero, Option.isSome_some, Nat.reducePow, and_self, List.cons.injEq, Nat.reduceEqDiff, Nat.reduceAdd, Nat.reduceSub, Nat.reduceMul, Nat.reduceLeDiff, Nat.reduceBEq, Nat.reduceLT, reduceIte, reduceCtorEq, hm, Made.d, Row.d, Nat.add_assoc, Nat.left_eq_add, Nat.add_eq_left, Nat.add_left_cancel_iff, hbx, hid, e0, e1, e2, e3, e4, e5, f0, f1, f2, f3, f4, f5, g0, g1, g2, g3]
    refine call_give (lineOf_c m.r hmc) ?_
    have hlk := fun (o : Nat → Obj') (h : o mid = .map 112 4 (metD (keepK out k).1)) => lookMet h m.r
    have hup := fun (o : Nat → Obj') (h : o mid = .map 112 4 (metD (keepK out k).1)) => updMet h m.r
    have hk1 : (keepK out (k + 1)).1 = addMet (keepK out k).1 m.r := by simp only [keepK, hm]
    have hk2 : (keepK out (k + 1)).2 = if (!isMet (keepK out k).1 m.r && !goneF m.r) = true then (keepK out k).2 ++ [m] else (keepK out k).2 := by simp only [keepK, hm]
    have hkl := keepK_len out k
    have h8f : (keepK out k).2.length ≤ 140737488355327 := by omega
    have h8g : ((keepK out k).2.length + 1) * 64 ≤ 140737488355328 := by omega
    cases hmet : isMet (keepK out k).1 m.r with
    | true =>
      simp only [hmet] at hlk
      rw [hmet] at hk2
      simp +contextual only [go_sem, Int.reduceBEq, Int.reduceBNe, Int.reduceLT, Int.reduceLE, Int.reduceEq, Int.reduceNe, List.range_zero, Option.isSome_some, Nat.reducePow, and_self, List.cons.injEq, Nat.reduceEqDiff, Nat.reduceAdd, Nat.reduceSub, Nat.reduceMul, Nat.reduceLeDiff, Nat.reduceBEq, Nat.reduceLT, reduceIte, reduceCtorEq, hm, Made.d, Row.d, Nat.add_assoc, Nat.left_eq_add, Nat.add_eq_left, Nat.add_left_cancel_iff, hbx, hid, e0, e1, e2, e3, e4, e5, f0, f1, f2, f3, f4, f5, g0, g1, g2, g3, hlk]
      simp +contextual only [go_sem, Int.reduceBEq, Int.reduceBNe, Int.reduceLT, Int.reduceLE, Int.reduceEq, Int.reduceNe, List.range_zero, Option.isSome_some, Nat.reducePow, and_self, List.cons.injEq, Nat.reduceEqDiff, Nat.reduceAdd, Nat.reduceSub, Nat.reduceMul, Nat.reduceLeDiff, Nat.reduceBEq, Nat.reduceLT, reduceIte, reduceCtorEq, hm, Made.d, Row.d, Nat.add_assoc, Nat.left_eq_add, Nat.add_eq_left, Nat.add_left_cancel_iff, hbx, hid, e0, e1, e2, e3, e4, e5, f0, f1, f2, f3, f4, f5, g0, g1, g2, g3, hup]
      refine nextS_intro (k + 1) h2 (by omega) ?_
      simp only [eSt]
      refine SLe.conv _ (.osl c 0) id [.d (.i s.vars), .d (.sl (s.rows.map Row.d)), .osl c 0] _ l1 hnx (by omega) (hB.upd (x := .map 112 4 (metD (keepK out (k + 1)).1)) l2 rfl) (fun j q1 q2 => ?_) ?_ (convL_d (convL_d (convL_x convL_nil))) (.inr ⟨c, 0, Nat.le_refl _, rfl, ?_⟩) ?_
      · rw [hk1]
        by_cases e : j = mid
        · subst e
          repeat (first | rfl | rw [upd_same] | rw [upd_ne _ _ _ _ (by omega)])
        · repeat (first | rfl | rw [upd_ne _ _ _ _ (by omega)])
      · repeat (first | rfl | rw [upd_same] | rw [upd_ne _ _ _ _ (by omega)])
      · rw [hk2]
        repeat (first | rfl | rw [upd_same] | rw [upd_ne _ _ _ _ (by omega)])
      · repeat (first | exact convE_nil | refine convE_junk ?_ | refine convE_x rfl ?_ | refine convE_d rfl ?_ | refine convE_d (d_int (wrapN (by omega))) ?_ | refine convE_v rfl (by simp [V.refs] <;> omega) ?_)
    | false =>
      simp only [hmet] at hlk
      rw [hmet] at hk2
      simp +contextual only [go_sem, Int.reduceBEq, Int.reduceBNe, Int.reduceLT, Int.reduceLE, Int.reduceEq, Int.reduceNe, List.range_zero, Option.isSome_some, Nat.reducePow, and_self, List.cons.injEq, Nat.reduceEqDiff, Nat.reduceAdd, Nat.reduceSub, Nat.reduceMul, Nat.reduceLeDiff, Nat.reduceBEq, Nat.reduceLT, reduceIte, reduceCtorEq, hm, Made.d, Row.d, Nat.add_assoc, Nat.left_eq_add, Nat.add_eq_left, Nat.add_left_cancel_iff, hbx, hid, e0, e1, e2, e3, e4, e5, f0, f1, f2, f3, f4, f5, g0, g1, g2, g3, hlk]
      refine call_give (gone_c m.r) ?_
      cases hgn : goneF m.r with
      | true =>
        rw [hgn] at hk2
        simp +contextual only [go_sem, Int.reduceBEq, Int.reduceBNe, Int.reduceLT, Int.reduceLE, Int.reduceEq, Int.reduceNe, List.range_zero, Option.isSome_some, Nat.reducePow, and_self, List.cons.injEq, Nat.reduceEqDiff, Nat.reduceAdd, Nat.reduceSub, Nat.reduceMul, Nat.reduceLeDiff, Nat.reduceBEq, Nat.reduceLT, reduceIte, reduceCtorEq, hm, Made.d, Row.d, Nat.add_assoc, Nat.left_eq_add, Nat.add_eq_left, Nat.add_left_cancel_iff, hbx, hid, e0, e1, e2, e3, e4, e5, f0, f1, f2, f3, f4, f5, g0, g1, g2, g3, hup]
        refine nextS_intro (k + 1) h2 (by omega) ?_
        simp only [eSt]
        refine SLe.conv _ (.osl c 0) id [.d (.i s.vars), .d (.sl (s.rows.map Row.d)), .osl c 0] _ l1 hnx (by omega) (hB.upd (x := .map 112 4 (metD (keepK out (k + 1)).1)) l2 rfl) (fun j q1 q2 => ?_) ?_ (convL_d (convL_d (convL_x convL_nil))) (.inr ⟨c, 0, Nat.le_refl _, rfl, ?_⟩) ?_
        · rw [hk1]
          by_cases e : j = mid
          · subst e
            repeat (first | rfl | rw [upd_same] | rw [upd_ne _ _ _ _ (by omega)])
          · repeat (first | rfl | rw [upd_ne _ _ _ _ (by omega)])
        · repeat (first | rfl | rw [upd_same] | rw [upd_ne _ _ _ _ (by omega)])
        · rw [hk2]
          repeat (first | rfl | rw [upd_same] | rw [upd_ne _ _ _ _ (by omega)])
        · repeat (first | exact convE_nil | refine convE_junk ?_ | refine convE_x rfl ?_ | refine convE_d rfl ?_ | refine convE_d (d_int (wrapN (by omega))) ?_ | refine convE_v rfl (by simp [V.refs] <;> omega) ?_)
      | false =>
        rw [hgn] at hk2
        simp +contextual only [go_sem, Int.reduceBEq, Int.reduceBNe, Int.reduceLT, Int.reduceLE, Int.reduceEq, Int.reduceNe, List.range_zero, Option.isSome_some, Nat.reducePow, and_self, List.cons.injEq, Nat.reduceEqDiff, Nat.reduceAdd, Nat.reduceSub, Nat.reduceMul, Nat.reduceLeDiff, Nat.reduceBEq, Nat.reduceLT, reduceIte, reduceCtorEq, hm, Made.d, Row.d, Nat.add_assoc, Nat.left_eq_add, Nat.add_eq_left, Nat.add_left_cancel_iff, hbx, hid, e0, e1, e2, e3, e4, e5, f0, f1, f2, f3, f4, f5, g0, g1, g2, g3, hup, h8f, h8g, if_true, if_false]
        refine end_intro (objsOk_renL (ids := [bx, id, mid]) (nx := c) (by simp; omega) (by simp; omega) [([0], []), ([0], []), ([1], []), ([1], []), ([1], []), ([7], []), ([], [29]), ([3, 29], [3]), ([1], []), ([1], []), ([1, 3], [1])] (by decide)) ?_
        simp +contextual only [go_sem, Int.reduceBEq, Int.reduceBNe, Int.reduceLT, Int.reduceLE, Int.reduceEq, Int.reduceNe, List.range_zero, Option.isSome_some, Nat.reducePow, and_self, List.cons.injEq, Nat.reduceEqDiff, Nat.reduceAdd, Nat.reduceSub, Nat.reduceMul, Nat.reduceLeDiff, Nat.reduceBEq, Nat.reduceLT, reduceIte, reduceCtorEq, hm, Made.d, Row.d, Nat.add_assoc, Nat.left_eq_add, Nat.add_eq_left, Nat.add_left_cancel_iff, hbx, hid, e0, e1, e2, e3, e4, e5, f0, f1, f2, f3, f4, f5, g0, g1, g2, g3, hup, h8f, h8g, if_true, if_false]
        refine nextS_intro (k + 1) h2 (by omega) ?_
        simp only [eSt]
        refine SLe.conv _ (.osl c 1) id [.d (.i s.vars), .d (.sl (s.rows.map Row.d)), .osl c 1] _ l1 hnx (by omega) (hB.upd (x := .map 112 4 (metD (keepK out (k + 1)).1)) l2 rfl) (fun j q1 q2 => ?_) ?_ (convL_d (convL_d (convL_x convL_nil))) (.inr ⟨c, 1, Nat.le_refl _, rfl, ?_⟩) ?_
        · rw [hk1]
          by_cases e : j = mid
          · subst e
            repeat (first | rfl | rw [upd_same] | rw [upd_ne _ _ _ _ (by omega)])
          · repeat (first | rfl | rw [upd_ne _ _ _ _ (by omega)])
        · repeat (first | rfl | rw [upd_same] | rw [upd_ne _ _ _ _ (by omega)])
        · rw [hk2]
          simp only [Bool.not_false, Bool.and_self, if_true, List.map_append]
          repeat (first | rfl | rw [upd_same] | rw [upd_ne _ _ _ _ (by omega)])
        · repeat (first | exact convE_nil | refine convE_junk ?_ | refine convE_x rfl ?_ | refine convE_d rfl ?_ | refine convE_d (d_int (wrapN (by omega))) ?_ | refine convE_v rfl (by simp [V.refs] <;> omega) ?_)
  · simp +contextual only [go_sem, Int.reduceBEq, Int.reduceBNe, Int.reduceLT, Int.reduceLE, Int.reduceEq, Int.reduceNe, List.range_zero, Option.isSome_some, Nat.reducePow, and_self, List.cons.injEq, Nat.reduceEqDiff, Nat.reduceAdd, Nat.reduceSub, Nat.reduceMul, Nat.reduceLeDiff, Nat.reduceBEq, Nat.reduceLT, reduceIte, reduceCtorEq, Nat.add_assoc, Nat.left_eq_add, Nat.add_eq_left, Nat.add_left_cancel_iff]
    simp at h2
    have hkl : k = out.length := by omega
    subst hkl
    refine hK _ _ (.osl c 0) (by omega) ?_ (fun j g1 g2 g3 => ?_) (upd_same _ _ _) (.inr ⟨c, 0, Nat.le_refl _, rfl, ?_⟩)
    · exact (((hB.mono (by omega)).upd (by omega) rfl).upd (by omega) rfl).upd (by omega) (by simp [Obj'.refs, V.refss, V.refs])
    · repeat (first | rfl | rw [upd_ne _ _ _ _ (by omega)])
    · repeat (first | rfl | rw [upd_same] | rw [upd_ne _ _ _ _ (by omega)])
end Go.Proofs.Ytaafchgfibbmhaa
