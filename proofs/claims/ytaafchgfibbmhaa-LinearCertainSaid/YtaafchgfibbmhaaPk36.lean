/-
  A PART OF THE PROOF (put together by program): several texts, one behind the other. Conditions: none.
-/
import Derived.Test.YtaafchgfibbmhaaPk35
set_option linter.unusedSimpArgs false
set_option linter.unusedVariables false
namespace Go.Proofs.Ytaafchgfibbmhaa
abbrev Bnd := Rat × Bool
def eqR (a b : Rat) : Bool := (a.num == b.num) && (a.den == b.den)
def tightB (upper : Bool) (x b : Rat) : Bool := if upper = true then lessV b x else lessV x b
def tightS (a : Option Bnd) (b : Bnd) (upper : Bool) : Bnd :=
  match a with
  | none => b
  | some x => if tightB upper x.1 b.1 = true then b else if eqR x.1 b.1 = true then (x.1, x.2 || b.2) else x
@[reducible] def bndL (b : Bnd) : List D := [.i b.1.num, .i b.1.den, .bool b.2]
def sidL (a : Option Bnd) : List D := match a with | none => [.i 0, .i 0, .bool false, .bool false] | some x => [.i x.1.num, .i x.1.den, .bool x.2, .bool true]
theorem eqRat {o : Nat → Obj'} {c : Bool} (a0 a1 b0 b1 : Int) : eqV Try.prog o 90 c (.d (.agg [.int .i64 a0, .int .i64 a1])) (.d (.agg [.int .i64 b0, .int .i64 b1])) = some (.d (.bool ((a0 == b0) && ((a1 == b1) && true)))) := by kernel_rfl
theorem less1_c (a : Rat) (b : Bnd) (ha : a.Ok) (hb : b.1.Ok) (ib : Nat) (o : Nat → Obj') (nx : Nat) (h1 : o ib = .row ((bndL b).map .d)) (l1 : ib < nx) (K X : V → (Nat → Obj') → Nat → Prop)
    (hK : ∀ o2 n2, nx ≤ n2 → (∀ j, j < nx → o2 j = o j) → K (.d (.bool (lessV a b.1))) o2 n2) : CtK Try.prog 102 [.d a.d, .ptr ib 0] o nx K X := by
  have w1 : ib ≠ nx := by omega
  have w2 : ∀ k, ib ≠ nx + k := fun k => by omega
  refine CtK.of_ev mix fn102 (by simp) ?_
  rw [c102]
  simp +contextual only [go_sem, h1, w1, w2, Nat.add_assoc, Nat.left_eq_add, Nat.add_eq_left, Nat.add_left_cancel_iff]
  refine call_keep (less_c a b.1 ha hb) rfl ?_
  simp +contextual only [go_sem, Nat.add_assoc, Nat.left_eq_add, Nat.add_eq_left, Nat.add_left_cancel_iff]
  exact hK _ _ (by omega) (fun j hj => upd_ne _ _ _ _ (by omega))
theorem addHi_c (a : Option Bnd) (b : Bnd) (ha : ∀ x, a = some x → x.1.Ok) (hb : b.1.Ok) (is : Nat) (o : Nat → Obj') (nx : Nat) (h1 : o is = .row ((sidL a).map .d)) (l1 : is < nx) (K X : V → (Nat → Obj') → Nat → Prop)
    (hK : ∀ o2 n2, nx ≤ n2 → (∀ j, j < nx → j ≠ is → o2 j = o j) → o2 is = .row ((sidL (some (tightS a b true))).map .d) → K (.tup []) o2 n2) :
    CtK Try.prog 100 [.ptr is 0, .d (.agg (bndL b)), .func (.func 101) [.d b.1.d] []] o nx K X := by
  have w1 : is ≠ nx := by omega
  have w2 : ∀ k, is ≠ nx + k := fun k => by omega
  have w3 := Ne.symm w1
  have w4 : ∀ k, nx + k ≠ is := fun k => by omega
  refine CtK.of_ev mix fn100 (by simp) ?_
  rw [c100]
  cases a with
  | none =>
    simp +contextual only [go_sem, sidL, h1, w1, w2, w3, w4, Nat.add_assoc, Nat.left_eq_add, Nat.add_eq_left, Nat.add_left_cancel_iff]
    refine hK _ _ (by omega) (fun j h2 h3 => ?_) ?_
    · repeat (first | rfl | rw [upd_ne _ _ _ _ h3] | rw [upd_ne _ _ _ _ (by omega)])
    · simp only [tightS, sidL, bndL, List.map_cons, List.map_nil]
      repeat (first | rfl | rw [upd_same] | rw [upd_ne _ _ _ _ (by omega)])
  | some x =>
    have hxo := ha x rfl
    simp +contextual only [go_sem, sidL, h1, w1, w2, w3, w4, Nat.add_assoc, Nat.left_eq_add, Nat.add_eq_left, Nat.add_left_cancel_iff]
    refine call_keep (less_c b.1 x.1 hb hxo) rfl ?_
    cases hl : lessV b.1 x.1 with
    | true =>
      have ht : tightS (some x) b true = b := by simp [tightS, tightB, hl]
      simp +contextual only [go_sem, sidL, h1, w1, w2, w3, w4, Nat.add_assoc, Nat.left_eq_add, Nat.add_eq_left, Nat.add_left_cancel_iff]
      refine hK _ _ (by omega) (fun j h2 h3 => ?_) ?_
      · repeat (first | rfl | rw [upd_ne _ _ _ _ h3] | rw [upd_ne _ _ _ _ (by omega)])
      · rw [ht]; simp only [sidL, bndL, List.map_cons, List.map_nil]
        repeat (first | rfl | rw [upd_same] | rw [upd_ne _ _ _ _ (by omega)])
    | false =>
      simp +contextual only [go_sem, sidL, h1, w1, w2, w3, w4, Nat.add_assoc, Nat.left_eq_add, Nat.add_eq_left, Nat.add_left_cancel_iff, eqRat, D.i]
      refine end_intro (objsOk_renL (ids := [is]) (nx := nx) (by simp) (by simp; omega) [([], []), ([0], []), ([0], []), ([0], []), ([0], []), ([1], []), ([1], []), ([], []), ([], [])] (by decide)) ?_
      have hq : (x.1.num == b.1.num && x.1.den == b.1.den) = eqR x.1 b.1 := rfl
      rw [hq]
      cases he : eqR x.1 b.1 with
      | false =>
        have ht : tightS (some x) b true = x := by simp [tightS, tightB, hl, he]
        simp +contextual only [go_sem, sidL, h1, w1, w2, w3, w4, Nat.add_assoc, Nat.left_eq_add, Nat.add_eq_left, Nat.add_left_cancel_iff]
        refine hK _ _ (by omega) (fun j h2 h3 => ?_) ?_
        · repeat (first | rfl | rw [upd_ne _ _ _ _ h3] | rw [upd_ne _ _ _ _ (by omega)])
        · rw [ht, upd_ne _ _ _ _ w1, h1]
      | true =>
        have ht : tightS (some x) b true = (x.1, x.2 || b.2) := by simp [tightS, tightB, hl, he]
        obtain ⟨x1, x2⟩ := x
        cases x2 with
        | true =>
          simp +contextual only [go_sem, sidL, h1, w1, w2, w3, w4, Nat.add_assoc, Nat.left_eq_add, Nat.add_eq_left, Nat.add_left_cancel_iff]
          refine hK _ _ (by omega) (fun j h2 h3 => ?_) ?_
          · repeat (first | rfl | rw [upd_ne _ _ _ _ h3] | rw [upd_ne _ _ _ _ (by omega)])
          · rw [ht]; simp only [sidL, bndL, List.map_cons, List.map_nil, Bool.true_or]
            repeat (first | rfl | rw [upd_same] | rw [upd_ne _ _ _ _ (by omega)])
        | false =>
          simp +contextual only [go_sem, sidL, h1, w1, w2, w3, w4, Nat.add_assoc, Nat.left_eq_add, Nat.add_eq_left, Nat.add_left_cancel_iff]
          refine hK _ _ (by omega) (fun j h2 h3 => ?_) ?_
          · repeat (first | rfl | rw [upd_ne _ _ _ _ h3] | rw [upd_ne _ _ _ _ (by omega)])
          · rw [ht]; simp only [sidL, bndL, List.map_cons, List.map_nil, Bool.false_or]
            repeat (first | rfl | rw [upd_same] | rw [upd_ne _ _ _ _ (by omega)])
theorem addLo_c (a : Option Bnd) (b : Bnd) (ha : ∀ x, a = some x → x.1.Ok) (hb : b.1.Ok) (is : Nat) (ib : Nat) (o : Nat → Obj') (nx : Nat) (h1 : o is = .row ((sidL a).map .d)) (l1 : is < nx) (h2 : o ib = .row ((bndL b).map .d)) (l2 : ib < nx) (K X : V → (Nat → Obj') → Nat → Prop)
    (hK : ∀ o2 n2, nx ≤ n2 → (∀ j, j < nx → j ≠ is → o2 j = o j) → o2 is = .row ((sidL (some (tightS a b false))).map .d) → K (.tup []) o2 n2) :
    CtK Try.prog 100 [.ptr is 0, .d (.agg (bndL b)), .func (.func 102) [] [.ptr ib 0]] o nx K X := by
  have w1 : is ≠ nx := by omega
  have w2 : ∀ k, is ≠ nx + k := fun k => by omega
  have w3 := Ne.symm w1
  have w4 : ∀ k, nx + k ≠ is := fun k => by omega
  have y1 : ib ≠ nx := by omega
  have y2 : ∀ k, ib ≠ nx + k := fun k => by omega
  refine CtK.of_ev mix fn100 (by simp) ?_
  rw [c100]
  cases a with
  | none =>
    simp +contextual only [go_sem, sidL, h1, w1, w2, w3, w4, Nat.add_assoc, Nat.left_eq_add, Nat.add_eq_left, Nat.add_left_cancel_iff]
    refine hK _ _ (by omega) (fun j h2 h3 => ?_) ?_
    · repeat (first | rfl | rw [upd_ne _ _ _ _ h3] | rw [upd_ne _ _ _ _ (by omega)])
    · simp only [tightS, sidL, bndL, List.map_cons, List.map_nil]
      repeat (first | rfl | rw [upd_same] | rw [upd_ne _ _ _ _ (by omega)])
  | some x =>
    have hxo := ha x rfl
    simp +contextual only [go_sem, sidL, h1, w1, w2, w3, w4, Nat.add_assoc, Nat.left_eq_add, Nat.add_eq_left, Nat.add_left_cancel_iff]
    refine callR_heap (less1_c x.1 b hxo hb ib _ _ ?_ ?_ _ _ (fun o2 n2 m1 m2 => ?_))
    · rw [upd_ne _ _ _ _ y1, h2]
    · omega
    have s1 : o2 is = .row [.d (.i x.1.num), .d (.i x.1.den), .d (.bool x.2), .d (.bool true)] := by rw [m2 _ (by omega), upd_ne _ _ _ _ w1, h1]; rfl
    have s2 : o2 nx = .row [.d (.i b.1.num), .d (.i b.1.den), .d (.bool b.2)] := by rw [m2 _ (by omega), upd_same]
    have s3 : ∀ j, j < nx → o2 j = o j := fun j hj => by rw [m2 _ (by omega), upd_ne _ _ _ _ (by omega)]
    cases hl : lessV x.1 b.1 with
    | true =>
      have ht : tightS (some x) b false = b := by simp [tightS, tightB, hl]
      simp +contextual only [go_sem, sidL, s1, s2, w1, w2, w3, w4, Nat.add_assoc, Nat.left_eq_add, Nat.add_eq_left, Nat.add_left_cancel_iff]
      refine hK _ _ (by omega) (fun j h2 h3 => ?_) ?_
      · repeat (first | rfl | exact s3 _ h2 | rw [upd_ne _ _ _ _ h3] | rw [upd_ne _ _ _ _ (by omega)])
      · rw [ht]; simp only [sidL, bndL, List.map_cons, List.map_nil]
        repeat (first | rfl | rw [upd_same] | rw [upd_ne _ _ _ _ (by omega)])
    | false =>
      simp +contextual only [go_sem, sidL, s1, s2, w1, w2, w3, w4, Nat.add_assoc, Nat.left_eq_add, Nat.add_eq_left, Nat.add_left_cancel_iff, eqRat, D.i]
      refine end_intro (objsOk_renL (ids := [is]) (nx := nx) (by simp) (by simp; omega) [([], []), ([0], []), ([0], []), ([0], []), ([0], []), ([1], []), ([1], []), ([], []), ([], [])] (by decide)) ?_
      have hq : (x.1.num == b.1.num && x.1.den == b.1.den) = eqR x.1 b.1 := rfl
      rw [hq]
      cases he : eqR x.1 b.1 with
      | false =>
        have ht : tightS (some x) b false = x := by simp [tightS, tightB, hl, he]
        simp +contextual only [go_sem, sidL, s1, s2, w1, w2, w3, w4, Nat.add_assoc, Nat.left_eq_add, Nat.add_eq_left, Nat.add_left_cancel_iff]
        refine hK _ _ (by omega) (fun j h2 h3 => ?_) ?_
        · exact s3 _ h2
        · rw [ht, s1]; rfl
      | true =>
        have ht : tightS (some x) b false = (x.1, x.2 || b.2) := by simp [tightS, tightB, hl, he]
        obtain ⟨x1, x2⟩ := x
        cases x2 with
        | true =>
          simp +contextual only [go_sem, sidL, s1, s2, w1, w2, w3, w4, Nat.add_assoc, Nat.left_eq_add, Nat.add_eq_left, Nat.add_left_cancel_iff]
          refine hK _ _ (by omega) (fun j h2 h3 => ?_) ?_
          · repeat (first | rfl | exact s3 _ h2 | rw [upd_ne _ _ _ _ h3] | rw [upd_ne _ _ _ _ (by omega)])
          · rw [ht]; simp only [sidL, bndL, List.map_cons, List.map_nil, Bool.true_or]
            repeat (first | rfl | rw [upd_same] | rw [upd_ne _ _ _ _ (by omega)])
        | false =>
          simp +contextual only [go_sem, sidL, s1, s2, w1, w2, w3, w4, Nat.add_assoc, Nat.left_eq_add, Nat.add_eq_left, Nat.add_left_cancel_iff]
          refine hK _ _ (by omega) (fun j h2 h3 => ?_) ?_
          · repeat (first | rfl | exact s3 _ h2 | rw [upd_ne _ _ _ _ h3] | rw [upd_ne _ _ _ _ (by omega)])
          · rw [ht]; simp only [sidL, bndL, List.map_cons, List.map_nil, Bool.false_or]
            repeat (first | rfl | rw [upd_same] | rw [upd_ne _ _ _ _ (by omega)])
end Go.Proofs.Ytaafchgfibbmhaa
namespace Go.Proofs.Ytaafchgfibbmhaa
def zeroQ : Rat := ⟨0, 1⟩
def smallS (a : Option Bnd) : Bool := match a with | none => false | some x => lessV zeroQ x.1 || (eqR x.1 zeroQ && x.2)
def greatS (a : Option Bnd) : Bool := match a with | none => false | some x => lessV x.1 zeroQ || (eqR x.1 zeroQ && x.2)
def bnd0 (a : Option Bnd) : Rat := match a with | none => zeroQ | some x => x.1
def betweenS (low high : Option Bnd) : Rat × Bool :=
  if (!smallS low && !greatS high) = true then (zeroQ, true)
  else if (low.isSome && high.isSome) = true then
    (if okR (addV (bnd0 low) (bnd0 high)) = true then (overV (addV (bnd0 low) (bnd0 high)).num (2 * (addV (bnd0 low) (bnd0 high)).den), okR (overV (addV (bnd0 low) (bnd0 high)).num (2 * (addV (bnd0 low) (bnd0 high)).den))) else (addV (bnd0 low) (bnd0 high), false))
  else if smallS low = true then (addV (bnd0 low) ⟨1, 1⟩, okR (addV (bnd0 low) ⟨1, 1⟩))
  else (addV (bnd0 high) ⟨-1, 1⟩, okR (addV (bnd0 high) ⟨-1, 1⟩))
def pairR' (x : Rat × Bool) : R := if x.2 = true then .ret [x.1.d] else .pan tooD
def bT4 : IC := (.seq (.block 0 (.seq (.reg [mv 53 6,
 nt 54 4 53,
 mv 55 54,
 gT (mv 56 7) 55,
 gT (nt 57 4 56) 55,
 pkf 58 55 57,
 sg 52 58]) (.cond (.tmp 52) (.seq (.reg [ld 59 90 5,
 st 90 4 59]) .ret) (.seq (.reg [fa 61 129 2 1,
 ld 62 4 61,
 mv 63 62,
 gT (fa 64 129 3 1) 63,
 gT (ld 65 4 64) 63,
 pkf 66 63 65,
 sg 60 66]) (.cond (.tmp 60) (.seq (.reg [fa 67 129 2 0,
 fa 68 127 67 0,
 ld 69 90 68,
 fa 70 129 3 0,
 fa 71 127 70 0,
 ld 72 90 71,
 k2 73 120 69 72 90 90,
 al 8 90,
 st 90 8 73]) (.seq (.reg [fa 74 90 8 0,
 ld 75 3 74,
 fa 76 90 8 1,
 ld 77 3 76,
 ⟨(some 78), .binOp .mul 3 (.const (.int .i64 2)) (.tmp 77) 3, none⟩,
 k2 79 119 75 78 3 3,
 st 90 4 79]) .ret)) (.seq (.reg [mv 81 6,
 sg 80 81]) (.cond (.tmp 80) (.seq (.reg [fa 82 129 2 0,
 fa 83 127 82 0,
 ld 84 90 83,
 ⟨(some 85), .build 90 #[(0, .const (.int .i64 1)), (1, .const (.int .i64 1))], none⟩,
 k2 86 120 84 85 90 90,
 st 90 4 86]) .ret) .skip))))))) (.seq (.reg [fa 87 129 3 0,
 fa 88 127 87 0,
 ld 89 90 88,
 ⟨(some 90), .build 90 #[(0, .const (.int .i64 (-1))), (1, .const (.int .i64 1))], none⟩,
 k2 91 120 89 90 90 90,
 st 90 4 91]) .ret))
def bT3 : IC := (.seq (.reg [fa 31 129 3 1,
 ld 32 4 31,
 mv 33 32,
 gT (fa 34 129 3 0) 33,
 gT (fa 35 127 34 0) 33,
 gT (ld 36 90 35) 33,
 gT (ld 37 90 5) 33,
 gT (k2 38 101 36 37 90 90) 33,
 gT (mv 39 38) 33,
 gF (fa 40 129 3 0) 39,
 gF (fa 41 127 40 0) 39,
 gF (ld 42 90 41) 39,
 gF (ld 43 90 5) 39,
 gF (bo .eql 44 90 42 43 90) 39,
 gF (mv 45 44) 39,
 gT (fa 46 129 3 0) 45,
 gT (fa 47 127 46 1) 45,
 gT (ld 48 4 47) 45,
 gF (pkf 49 45 48) 39,
 gT (pkt 50 39 49) 33,
 pkf 51 33 50,
 sg 7 51]) bT4)
structure BtwO (low high : Option Bnd) (o : Nat → Obj') (nx : Nat) : Prop where
  o0 : o 0 = .row ((sidL low).map .d)
  o1 : o 1 = .row ((sidL high).map .d)
  o2 : o 2 = .row [.d (.i 0), .d (.i 0)]
  o4 : o 4 = .row [.d (.i 0), .d (.i 1)]
  nx : 5 ≤ nx
theorem sid_some (x : Bnd) : (sidL (some x)).map V.d = [.d (.i x.1.num), .d (.i x.1.den), .d (.bool x.2), .d (.bool true)] := rfl
theorem sid_none : (sidL none).map V.d = [.d (.i 0), .d (.i 0), .d (.bool false), .d (.bool false)] := rfl
theorem zero_ok : zeroQ.Ok := ⟨by simp [zeroQ], by simp [zeroQ]⟩
theorem btw4_c (low high : Option Bnd) (hl : ∀ x, low = some x → x.1.Ok) (hh : ∀ x, high = some x → x.1.Ok) (e : Nat → V) (o : Nat → Obj') (nx : Nat) (ho : BtwO low high o nx) (e2 : e 2 = .ptr 0 0) (e3 : e 3 = .ptr 1 0) (e4 : e 4 = .ptr 2 0) (e5 : e 5 = .ptr 4 0) (e6 : e 6 = .d (.bool (smallS low))) (e7 : e 7 = .d (.bool (greatS high))) :
    evW Try.prog 92 0 false bT4 (endW Try.prog [.cell 4 90] (pairR' (betweenS low high))) ⟨e, o, nx⟩ := by
  obtain ⟨o0, o1, o2, o4, hnx⟩ := ho
  have w0 : 0 ≠ nx := by omega
  have w1 : 1 ≠ nx := by omega
  have w2 : 2 ≠ nx := by omega
  have w4 : 4 ≠ nx := by omega
  have y0 : ∀ k, 0 ≠ nx + k := fun k => by omega
  have y1 : ∀ k, 1 ≠ nx + k := fun k => by omega
  have y2 : ∀ k, 2 ≠ nx + k := fun k => by omega
  have y4 : ∀ k, 4 ≠ nx + k := fun k => by omega
  have z2 : ∀ k, nx + k ≠ 2 := fun k => by omega
  rw [bT4]
  cases hs : smallS low with
  | false =>
    cases hg : greatS high with
    | false =>
      have hb : betweenS low high = (zeroQ, true) := by rw [betweenS, hs, hg]; rfl
      rw [hb]
      simp +contextual only [go_sem, e2, e3, e4, e5, e6, e7, hs, hg, o0, o1, o2, o4, Nat.add_assoc, Nat.left_eq_add, Nat.add_eq_left, Nat.add_left_cancel_iff, w0, w1, w2, w4, y0, y1, y2, y4, z2]
      rfl
    | true =>
      cases high with
      | none => cases hg
      | some y =>
        have hyo := hh y rfl
        cases low with
        | none =>
          have hp := plus_c y.1 ⟨-1, 1⟩ hyo ⟨by simp, by simp⟩
          simp +contextual only [go_sem, e2, e3, e4, e5, e6, e7, hs, hg, o0, o1, o2, o4, Nat.add_assoc, Nat.left_eq_add, Nat.add_eq_left, Nat.add_left_cancel_iff, w0, w1, w2, w4, y0, y1, y2, y4, z2, sid_some, sid_none]
          have hb : betweenS none (some y) = (addV y.1 ⟨-1, 1⟩, okR (addV y.1 ⟨-1, 1⟩)) := by simp [betweenS, hs, hg, bnd0]
          rw [hb]
          cases hq : okR (addV y.1 ⟨-1, 1⟩) with
          | false =>
            rw [hq, if_neg Bool.noConfusion] at hp
            refine call_pan hp (by decide) ?_
            simp +contextual only [go_sem, e2, e3, e4, e5, e6, e7, hs, hg, o0, o1, o2, o4, Nat.add_assoc, Nat.left_eq_add, Nat.add_eq_left, Nat.add_left_cancel_iff, w0, w1, w2, w4, y0, y1, y2, y4, z2, sid_some, sid_none]
            rfl
          | true =>
            rw [hq, if_pos rfl] at hp
            refine call_keep hp rfl ?_
            simp +contextual only [go_sem, e2, e3, e4, e5, e6, e7, hs, hg, o0, o1, o2, o4, Nat.add_assoc, Nat.left_eq_add, Nat.add_eq_left, Nat.add_left_cancel_iff, w0, w1, w2, w4, y0, y1, y2, y4, z2, sid_some, sid_none]
            rfl
        | some x =>
          have hxo := hl x rfl
          have hp := plus_c x.1 y.1 hxo hyo
          simp +contextual only [go_sem, e2, e3, e4, e5, e6, e7, hs, hg, o0, o1, o2, o4, Nat.add_assoc, Nat.left_eq_add, Nat.add_eq_left, Nat.add_left_cancel_iff, w0, w1, w2, w4, y0, y1, y2, y4, z2, sid_some, sid_none]
          cases hq : okR (addV x.1 y.1) with
          | false =>
            rw [hq, if_neg Bool.noConfusion] at hp
            have hb : betweenS (some x) (some y) = (addV x.1 y.1, false) := by simp [betweenS, hs, hg, bnd0, hq]
            rw [hb]
            refine call_pan hp (by decide) ?_
            simp +contextual only [go_sem, e2, e3, e4, e5, e6, e7, hs, hg, o0, o1, o2, o4, Nat.add_assoc, Nat.left_eq_add, Nat.add_eq_left, Nat.add_left_cancel_iff, w0, w1, w2, w4, y0, y1, y2, y4, z2, sid_some, sid_none]
            rfl
          | true =>
            rw [hq, if_pos rfl] at hp
            have ho9 := okR_ok hq
            have w9 : IntKind.i64.wrap (2 * (addV x.1 y.1).den) = 2 * (addV x.1 y.1).den := wrap64 (by have := ho9.d; omega) (by have := ho9.d; omega)
            have hov := over_c (addV x.1 y.1).num (2 * (addV x.1 y.1).den) (by have := ho9.n; omega) (by have := ho9.d; omega) (by have := ho9.d; omega)
            have hb : betweenS (some x) (some y) = (overV (addV x.1 y.1).num (2 * (addV x.1 y.1).den), okR (overV (addV x.1 y.1).num (2 * (addV x.1 y.1).den))) := by simp [betweenS, hs, hg, bnd0, hq]
            rw [hb]
            refine call_keep hp rfl ?_
            simp +contextual only [go_sem, e2, e3, e4, e5, e6, e7, hs, hg, o0, o1, o2, o4, Nat.add_assoc, Nat.left_eq_add, Nat.add_eq_left, Nat.add_left_cancel_iff, w0, w1, w2, w4, y0, y1, y2, y4, z2, sid_some, sid_none, w9]
            cases hr : okR (overV (addV x.1 y.1).num (2 * (addV x.1 y.1).den)) with
            | true =>
              rw [hr, if_pos rfl] at hov
              refine call_keep hov rfl ?_
              simp +contextual only [go_sem, e2, e3, e4, e5, e6, e7, hs, hg, o0, o1, o2, o4, Nat.add_assoc, Nat.left_eq_add, Nat.add_eq_left, Nat.add_left_cancel_iff, w0, w1, w2, w4, y0, y1, y2, y4, z2, sid_some, sid_none]
              rfl
            | false =>
              rw [hr, if_neg Bool.noConfusion] at hov
              refine call_pan hov (by decide) ?_
              simp +contextual only [go_sem, e2, e3, e4, e5, e6, e7, hs, hg, o0, o1, o2, o4, Nat.add_assoc, Nat.left_eq_add, Nat.add_eq_left, Nat.add_left_cancel_iff, w0, w1, w2, w4, y0, y1, y2, y4, z2, sid_some, sid_none]
              rfl
  | true =>
    cases low with
    | none => cases hs
    | some x =>
      have hxo := hl x rfl
      cases high with
      | none =>
        have hg : greatS none = false := rfl
        have hp := plus_c x.1 ⟨1, 1⟩ hxo ⟨by simp, by simp⟩
        simp +contextual only [go_sem, e2, e3, e4, e5, e6, e7, hs, hg, o0, o1, o2, o4, Nat.add_assoc, Nat.left_eq_add, Nat.add_eq_left, Nat.add_left_cancel_iff, w0, w1, w2, w4, y0, y1, y2, y4, z2, sid_some, sid_none]
        have hb : betweenS (some x) none = (addV x.1 ⟨1, 1⟩, okR (addV x.1 ⟨1, 1⟩)) := by simp [betweenS, hs, hg, bnd0]
        rw [hb]
        cases hq : okR (addV x.1 ⟨1, 1⟩) with
        | false =>
          rw [hq, if_neg Bool.noConfusion] at hp
          refine call_pan hp (by decide) ?_
          simp +contextual only [go_sem, e2, e3, e4, e5, e6, e7, hs, hg, o0, o1, o2, o4, Nat.add_assoc, Nat.left_eq_add, Nat.add_eq_left, Nat.add_left_cancel_iff, w0, w1, w2, w4, y0, y1, y2, y4, z2, sid_some, sid_none]
          rfl
        | true =>
          rw [hq, if_pos rfl] at hp
          refine call_keep hp rfl ?_
          simp +contextual only [go_sem, e2, e3, e4, e5, e6, e7, hs, hg, o0, o1, o2, o4, Nat.add_assoc, Nat.left_eq_add, Nat.add_eq_left, Nat.add_left_cancel_iff, w0, w1, w2, w4, y0, y1, y2, y4, z2, sid_some, sid_none]
          rfl
      | some y =>
        have hyo := hh y rfl
        cases hg : greatS (some y) with
        | false =>
          have hp := plus_c x.1 y.1 hxo hyo
          simp +contextual only [go_sem, e2, e3, e4, e5, e6, e7, hs, hg, o0, o1, o2, o4, Nat.add_assoc, Nat.left_eq_add, Nat.add_eq_left, Nat.add_left_cancel_iff, w0, w1, w2, w4, y0, y1, y2, y4, z2, sid_some, sid_none]
          cases hq : okR (addV x.1 y.1) with
          | false =>
            rw [hq, if_neg Bool.noConfusion] at hp
            have hb : betweenS (some x) (some y) = (addV x.1 y.1, false) := by simp [betweenS, hs, hg, bnd0, hq]
            rw [hb]
            refine call_pan hp (by decide) ?_
            simp +contextual only [go_sem, e2, e3, e4, e5, e6, e7, hs, hg, o0, o1, o2, o4, Nat.add_assoc, Nat.left_eq_add, Nat.add_eq_left, Nat.add_left_cancel_iff, w0, w1, w2, w4, y0, y1, y2, y4, z2, sid_some, sid_none]
            rfl
          | true =>
            rw [hq, if_pos rfl] at hp
            have ho9 := okR_ok hq
            have w9 : IntKind.i64.wrap (2 * (addV x.1 y.1).den) = 2 * (addV x.1 y.1).den := wrap64 (by have := ho9.d; omega) (by have := ho9.d; omega)
            have hov := over_c (addV x.1 y.1).num (2 * (addV x.1 y.1).den) (by have := ho9.n; omega) (by have := ho9.d; omega) (by have := ho9.d; omega)
            have hb : betweenS (some x) (some y) = (overV (addV x.1 y.1).num (2 * (addV x.1 y.1).den), okR (overV (addV x.1 y.1).num (2 * (addV x.1 y.1).den))) := by simp [betweenS, hs, hg, bnd0, hq]
            rw [hb]
            refine call_keep hp rfl ?_
            simp +contextual only [go_sem, e2, e3, e4, e5, e6, e7, hs, hg, o0, o1, o2, o4, Nat.add_assoc, Nat.left_eq_add, Nat.add_eq_left, Nat.add_left_cancel_iff, w0, w1, w2, w4, y0, y1, y2, y4, z2, sid_some, sid_none, w9]
            cases hr : okR (overV (addV x.1 y.1).num (2 * (addV x.1 y.1).den)) with
            | true =>
              rw [hr, if_pos rfl] at hov
              refine call_keep hov rfl ?_
              simp +contextual only [go_sem, e2, e3, e4, e5, e6, e7, hs, hg, o0, o1, o2, o4, Nat.add_assoc, Nat.left_eq_add, Nat.add_eq_left, Nat.add_left_cancel_iff, w0, w1, w2, w4, y0, y1, y2, y4, z2, sid_some, sid_none]
              rfl
            | false =>
              rw [hr, if_neg Bool.noConfusion] at hov
              refine call_pan hov (by decide) ?_
              simp +contextual only [go_sem, e2, e3, e4, e5, e6, e7, hs, hg, o0, o1, o2, o4, Nat.add_assoc, Nat.left_eq_add, Nat.add_eq_left, Nat.add_left_cancel_iff, w0, w1, w2, w4, y0, y1, y2, y4, z2, sid_some, sid_none]
              rfl
        | true =>
          have hp := plus_c x.1 y.1 hxo hyo
          simp +contextual only [go_sem, e2, e3, e4, e5, e6, e7, hs, hg, o0, o1, o2, o4, Nat.add_assoc, Nat.left_eq_add, Nat.add_eq_left, Nat.add_left_cancel_iff, w0, w1, w2, w4, y0, y1, y2, y4, z2, sid_some, sid_none]
          cases hq : okR (addV x.1 y.1) with
          | false =>
            rw [hq, if_neg Bool.noConfusion] at hp
            have hb : betweenS (some x) (some y) = (addV x.1 y.1, false) := by simp [betweenS, hs, hg, bnd0, hq]
            rw [hb]
            refine call_pan hp (by decide) ?_
            simp +contextual only [go_sem, e2, e3, e4, e5, e6, e7, hs, hg, o0, o1, o2, o4, Nat.add_assoc, Nat.left_eq_add, Nat.add_eq_left, Nat.add_left_cancel_iff, w0, w1, w2, w4, y0, y1, y2, y4, z2, sid_some, sid_none]
            rfl
          | true =>
            rw [hq, if_pos rfl] at hp
            have ho9 := okR_ok hq
            have w9 : IntKind.i64.wrap (2 * (addV x.1 y.1).den) = 2 * (addV x.1 y.1).den := wrap64 (by have := ho9.d; omega) (by have := ho9.d; omega)
            have hov := over_c (addV x.1 y.1).num (2 * (addV x.1 y.1).den) (by have := ho9.n; omega) (by have := ho9.d; omega) (by have := ho9.d; omega)
            have hb : betweenS (some x) (some y) = (overV (addV x.1 y.1).num (2 * (addV x.1 y.1).den), okR (overV (addV x.1 y.1).num (2 * (addV x.1 y.1).den))) := by simp [betweenS, hs, hg, bnd0, hq]
            rw [hb]
            refine call_keep hp rfl ?_
            simp +contextual only [go_sem, e2, e3, e4, e5, e6, e7, hs, hg, o0, o1, o2, o4, Nat.add_assoc, Nat.left_eq_add, Nat.add_eq_left, Nat.add_left_cancel_iff, w0, w1, w2, w4, y0, y1, y2, y4, z2, sid_some, sid_none, w9]
            cases hr : okR (overV (addV x.1 y.1).num (2 * (addV x.1 y.1).den)) with
            | true =>
              rw [hr, if_pos rfl] at hov
              refine call_keep hov rfl ?_
              simp +contextual only [go_sem, e2, e3, e4, e5, e6, e7, hs, hg, o0, o1, o2, o4, Nat.add_assoc, Nat.left_eq_add, Nat.add_eq_left, Nat.add_left_cancel_iff, w0, w1, w2, w4, y0, y1, y2, y4, z2, sid_some, sid_none]
              rfl
            | false =>
              rw [hr, if_neg Bool.noConfusion] at hov
              refine call_pan hov (by decide) ?_
              simp +contextual only [go_sem, e2, e3, e4, e5, e6, e7, hs, hg, o0, o1, o2, o4, Nat.add_assoc, Nat.left_eq_add, Nat.add_eq_left, Nat.add_left_cancel_iff, w0, w1, w2, w4, y0, y1, y2, y4, z2, sid_some, sid_none]
              rfl
theorem btw3_c (low high : Option Bnd) (hl : ∀ x, low = some x → x.1.Ok) (hh : ∀ x, high = some x → x.1.Ok) (e : Nat → V) (o : Nat → Obj') (nx : Nat) (ho : BtwO low high o nx) (e2 : e 2 = .ptr 0 0) (e3 : e 3 = .ptr 1 0) (e4 : e 4 = .ptr 2 0) (e5 : e 5 = .ptr 4 0) (e6 : e 6 = .d (.bool (smallS low))) :
    evW Try.prog 92 0 false bT3 (endW Try.prog [.cell 4 90] (pairR' (betweenS low high))) ⟨e, o, nx⟩ := by
  obtain ⟨o0, o1, o2, o4, hnx⟩ := ho
  rw [bT3]
  cases high with
  | none =>
    simp +contextual only [go_sem, e2, e3, e4, e5, e6, o0, o1, o2, o4, Nat.add_assoc, Nat.left_eq_add, Nat.add_eq_left, Nat.add_left_cancel_iff, sid_some, sid_none]
    have hg : greatS none = false := rfl
    exact btw4_c low none hl hh _ _ _ ⟨o0, o1, o2, o4, by omega⟩ (by simp +contextual only [go_sem, e2]) (by simp +contextual only [go_sem, e3]) (by simp +contextual only [go_sem, e4]) (by simp +contextual only [go_sem, e5]) (by simp +contextual only [go_sem, e6]) (by simp +contextual only [go_sem, hg])
  | some y =>
    have hyo := hh y rfl
    simp +contextual only [go_sem, e2, e3, e4, e5, e6, o0, o1, o2, o4, Nat.add_assoc, Nat.left_eq_add, Nat.add_eq_left, Nat.add_left_cancel_iff, sid_some, sid_none]
    refine call_keep (less_c y.1 zeroQ hyo zero_ok) rfl ?_
    cases h1 : lessV y.1 zeroQ with
    | true =>
      have hg : greatS (some y) = true := by simp [greatS, h1]
      simp +contextual only [go_sem, e2, e3, e4, e5, e6, o0, o1, o2, o4, Nat.add_assoc, Nat.left_eq_add, Nat.add_eq_left, Nat.add_left_cancel_iff, sid_some, sid_none]
      exact btw4_c low (some y) hl hh _ _ _ ⟨o0, o1, o2, o4, by omega⟩ (by simp +contextual only [go_sem, e2]) (by simp +contextual only [go_sem, e3]) (by simp +contextual only [go_sem, e4]) (by simp +contextual only [go_sem, e5]) (by simp +contextual only [go_sem, e6]) (by simp +contextual only [go_sem, hg])
    | false =>
      cases h2 : eqR y.1 zeroQ with
      | false =>
        have hg : greatS (some y) = false := by simp [greatS, h1, h2]
        have h2' : (y.1.num == 0 && y.1.den == 1) = false := h2
        simp +contextual only [go_sem, e2, e3, e4, e5, e6, o0, o1, o2, o4, Nat.add_assoc, Nat.left_eq_add, Nat.add_eq_left, Nat.add_left_cancel_iff, sid_some, sid_none, eqRat, D.i, h2']
        exact btw4_c low (some y) hl hh _ _ _ ⟨o0, o1, o2, o4, by omega⟩ (by simp +contextual only [go_sem, e2]) (by simp +contextual only [go_sem, e3]) (by simp +contextual only [go_sem, e4]) (by simp +contextual only [go_sem, e5]) (by simp +contextual only [go_sem, e6]) (by simp +contextual only [go_sem, hg])
      | true =>
        have hg : greatS (some y) = y.2 := by simp [greatS, h1, h2]
        have h2' : (y.1.num == 0 && y.1.den == 1) = true := h2
        simp +contextual only [go_sem, e2, e3, e4, e5, e6, o0, o1, o2, o4, Nat.add_assoc, Nat.left_eq_add, Nat.add_eq_left, Nat.add_left_cancel_iff, sid_some, sid_none, eqRat, D.i, h2']
        exact btw4_c low (some y) hl hh _ _ _ ⟨o0, o1, o2, o4, by omega⟩ (by simp +contextual only [go_sem, e2]) (by simp +contextual only [go_sem, e3]) (by simp +contextual only [go_sem, e4]) (by simp +contextual only [go_sem, e5]) (by simp +contextual only [go_sem, e6]) (by simp +contextual only [go_sem, hg])
theorem between_c (low high : Option Bnd) (hl : ∀ x, low = some x → x.1.Ok) (hh : ∀ x, high = some x → x.1.Ok) : PCt Try.prog 103 [.agg (sidL low), .agg (sidL high)] (pairR' (betweenS low high)) := by
  refine PCt.of_ev mix fn103 (by simp) ?_
  rw [c103]
  show evW Try.prog 92 0 false (.seq _ (.seq _ (.seq _ bT3))) _ _
  have o1 : ∀ k, (1 : Nat) ≠ 5 + k := fun k => by omega
  cases low with
  | none =>
    cases high with
    | none =>
      simp +contextual only [go_sem, sidL]
      refine btw3_c none none hl hh _ _ _ ⟨by repeat (first | rfl | rw [upd_same] | rw [upd_ne _ _ _ _ (by omega)]), by repeat (first | rfl | rw [upd_same] | rw [upd_ne _ _ _ _ (by omega)]), by repeat (first | rfl | rw [upd_same] | rw [upd_ne _ _ _ _ (by omega)]), by repeat (first | rfl | rw [upd_same] | rw [upd_ne _ _ _ _ (by omega)]), by omega⟩ (by simp +contextual only [go_sem]) (by simp +contextual only [go_sem]) (by simp +contextual only [go_sem]) (by simp +contextual only [go_sem]) (by simp +contextual only [go_sem]; rfl)
    | some y =>
      simp +contextual only [go_sem, sidL]
      refine btw3_c none (some y) hl hh _ _ _ ⟨by repeat (first | rfl | rw [upd_same] | rw [upd_ne _ _ _ _ (by omega)]), by repeat (first | rfl | rw [upd_same] | rw [upd_ne _ _ _ _ (by omega)]), by repeat (first | rfl | rw [upd_same] | rw [upd_ne _ _ _ _ (by omega)]), by repeat (first | rfl | rw [upd_same] | rw [upd_ne _ _ _ _ (by omega)]), by omega⟩ (by simp +contextual only [go_sem]) (by simp +contextual only [go_sem]) (by simp +contextual only [go_sem]) (by simp +contextual only [go_sem]) (by simp +contextual only [go_sem]; rfl)
  | some x =>
    have hxo := hl x rfl
    have gen : ∀ a : Option Bnd, ∃ p q r t, sidL a = [.i p, .i q, .bool r, .bool t] := fun a => by
      cases a with
      | none => exact ⟨_, _, _, _, rfl⟩
      | some y => exact ⟨_, _, _, _, rfl⟩
    obtain ⟨g1, g2, g3, g4, hgen⟩ := gen high
    rw [hgen]
    simp +contextual only [go_sem, sidL]
    refine call_keep (less_c zeroQ x.1 zero_ok hxo) rfl ?_
    have hrow : ∀ o : Nat → Obj', o 1 = .row [.d (.i g1), .d (.i g2), .d (.bool g3), .d (.bool g4)] → o 1 = .row ((sidL high).map .d) := fun o h => by rw [h, hgen]; rfl
    cases h1 : lessV zeroQ x.1 with
    | true =>
      have hs : smallS (some x) = true := by simp [smallS, h1]
      simp +contextual only [go_sem, sidL]
      refine btw3_c (some x) high hl hh _ _ _ ⟨by repeat (first | rfl | rw [upd_same] | rw [upd_ne _ _ _ _ (by omega)]), hrow _ (by repeat (first | rfl | rw [upd_same] | rw [upd_ne _ _ _ _ (by omega)])), by repeat (first | rfl | rw [upd_same] | rw [upd_ne _ _ _ _ (by omega)]), by repeat (first | rfl | rw [upd_same] | rw [upd_ne _ _ _ _ (by omega)]), by omega⟩ (by simp +contextual only [go_sem]) (by simp +contextual only [go_sem]) (by simp +contextual only [go_sem]) (by simp +contextual only [go_sem]) (by simp +contextual only [go_sem, hs])
    | false =>
      cases h2 : eqR x.1 zeroQ with
      | false =>
        have hs : smallS (some x) = false := by simp [smallS, h1, h2]
        have h2' : (x.1.num == 0 && x.1.den == 1) = false := h2
        simp +contextual only [go_sem, sidL, eqRat, D.i, h2']
        refine btw3_c (some x) high hl hh _ _ _ ⟨by repeat (first | rfl | rw [upd_same] | rw [upd_ne _ _ _ _ (by omega)]), hrow _ (by repeat (first | rfl | rw [upd_same] | rw [upd_ne _ _ _ _ (by omega)])), by repeat (first | rfl | rw [upd_same] | rw [upd_ne _ _ _ _ (by omega)]), by repeat (first | rfl | rw [upd_same] | rw [upd_ne _ _ _ _ (by omega)]), by omega⟩ (by simp +contextual only [go_sem]) (by simp +contextual only [go_sem]) (by simp +contextual only [go_sem]) (by simp +contextual only [go_sem]) (by simp +contextual only [go_sem, hs])
      | true =>
        have hs : smallS (some x) = x.2 := by simp [smallS, h1, h2]
        have h2' : (x.1.num == 0 && x.1.den == 1) = true := h2
        simp +contextual only [go_sem, sidL, eqRat, D.i, h2']
        refine btw3_c (some x) high hl hh _ _ _ ⟨by repeat (first | rfl | rw [upd_same] | rw [upd_ne _ _ _ _ (by omega)]), hrow _ (by repeat (first | rfl | rw [upd_same] | rw [upd_ne _ _ _ _ (by omega)])), by repeat (first | rfl | rw [upd_same] | rw [upd_ne _ _ _ _ (by omega)]), by repeat (first | rfl | rw [upd_same] | rw [upd_ne _ _ _ _ (by omega)]), by omega⟩ (by simp +contextual only [go_sem]) (by simp +contextual only [go_sem]) (by simp +contextual only [go_sem]) (by simp +contextual only [go_sem]) (by simp +contextual only [go_sem, hs])
end Go.Proofs.Ytaafchgfibbmhaa
namespace Go.Proofs.Ytaafchgfibbmhaa
def refL (a : Option Bnd) : List D := match a with | none => [.bool false, .i 0, .i 1, .bool false] | some x => [.bool true, .i x.1.num, .i x.1.den, .bool x.2]
structure RefO (low high : Option Bnd) (o : Nat → Obj') : Prop where
  o0 : o 0 = .row ((refL low).map .d)
  o1 : o 1 = .row ((refL high).map .d)
  o2 : o 2 = .row [.d (.i 0), .d (.i 0)]
  o6 : o 6 = .row [.d (.i 0), .d (.i 1)]
  o7 : o 7 = .row [.d (.i 1), .d (.i 1)]
end Go.Proofs.Ytaafchgfibbmhaa
